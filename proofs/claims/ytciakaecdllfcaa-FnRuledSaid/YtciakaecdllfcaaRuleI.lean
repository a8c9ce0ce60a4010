/-
  The contract of the program's RuleOver.
-/
import Derived.Test.YtciakaecdllfcaaRuleS
namespace Go.Proofs.Ytciakaecdllfcaa
open Go.RowKit

/-- Two rows of the call's own, apart from one another. -/
def Two (w : World) (B : Nat) (vc vb : Value) (c b : List Int) : Prop :=
  w.ownsRow B 2 1 vc c.length (ints c) ∧ w.ownsRow B 2 1 vb b.length (ints b) ∧ (vb.ownBlock = none ∨ vb.ownBlock ≠ vc.ownBlock)

theorem ints_set (zs : List Int) (i : Nat) (v : Int) : (ints zs).set i (.int .i64 v) = ints (zs.set i v) := by simp [ints, List.map_set]
theorem ownsRow_below {w w' : World} {base B : Nat} {e : TypeId} {size : Nat} {v : Value} {n : Nat} {xs : List Value} (h : w.ownsRow base e size v n xs) (hb : Below B w w') (hB : w.heap.size ≤ B) : w'.ownsRow base e size v n xs := by
  refine h.kept (row := none) ⟨hb.os, hb.tape, hb.output, hb.size, fun k hk _ => hb.block k (by omega)⟩ ?_
  cases v.ownBlock <;> simp
theorem row_reads {w : World} {base n : Nat} {v : Value} {zs : List Int} (h : w.ownsRow base 2 1 v n (ints zs)) : ∃ A c, v = .slice A zs.length c ∧ zs.length ≤ c ∧ n = zs.length ∧ Reads w w.heap.size 1 A zs.length (ints zs) := by
  obtain ⟨A, c, hv, hn, hc, hO⟩ := Own.of_row h (Nat.le_refl _)
  rw [ints_len] at hn
  subst hn
  exact ⟨A, c, hv, hc, rfl, hO.reads' (Nat.le_refl _) (by simp)⟩

/-- Three rows of the call's own, the first apart from the other two. -/
structure Three (w : World) (B : Nat) (vc vb vt : Value) (c b t : List Int) : Prop where
  c : w.ownsRow B 2 1 vc c.length (ints c)
  b : w.ownsRow B 2 1 vb b.length (ints b)
  t : w.ownsRow B 2 1 vt t.length (ints t)
  sb : vb.ownBlock = none ∨ vb.ownBlock ≠ vc.ownBlock
  st : vt.ownBlock = none ∨ vt.ownBlock ≠ vc.ownBlock
theorem Three.appended {w w1 : World} {B : Nat} {vc vb vt v1 : Value} {c b t : List Int} {o : Obj} {x : Int} (h : Three w B vc vb vt c b t) (hB : B ≤ w.heap.size)
    (h1 : w1.ownsRow B 2 1 v1 (c.length + 1) (ints c ++ [.int .i64 x])) (hg : (w.alloc o).grownBy w1 vc.ownBlock) (hat : v1.ownBlock = vc.ownBlock ∨ v1.ownBlock = some (w.alloc o).heap.size) :
    Three w1 B v1 vb vt (c ++ [x]) b t ∧ Below B w w1 := by
  have far : ∀ v (l : List Int), w.ownsRow B 2 1 v l.length (ints l) → (v.ownBlock = none ∨ v.ownBlock ≠ vc.ownBlock) → (v.ownBlock = none ∨ v.ownBlock ≠ v1.ownBlock) := by
    intro v l hv hs
    rcases hat with e | e
    · rw [e]; exact hs
    · rw [e]
      cases hk : v.ownBlock with
      | none => exact .inl rfl
      | some k =>
        have := (hv.lt k hk).2
        refine .inr ?_
        intro he
        injection he with he
        simp at he
        omega
  refine ⟨⟨by simpa [ints] using h1, (h.b.alloc o).kept hg h.sb, (h.t.alloc o).kept hg h.st, far vb b h.b h.sb, far vt t h.t h.st⟩, ?_⟩
  exact ((Below.refl B w).alloc hB o).grown hg (by simp; omega) (fun k hk => (h.c.lt k hk).1)
theorem Three.stored {w : World} {B g cap : Nat} {vb vt : Value} {c b t : List Int} (h : Three w B (.slice (some ⟨g, 0, none⟩) c.length cap) vb vt c b t) (j : Nat) (x : Int) :
    Three (w.setCell ⟨g, j, none⟩ (.int .i64 x)) B (.slice (some ⟨g, 0, none⟩) c.length cap) vb vt (c.set j x) b t := by
  have h1 := h.c.stored j (.int .i64 x)
  rw [ints_set] at h1
  refine ⟨by rw [List.length_set]; exact h1.1, h.b.kept h1.2 h.sb, h.t.kept h1.2 h.st, h.sb, h.st⟩

theorem Three.stored' {w : World} {B g cap n : Nat} {vb vt : Value} {c b t : List Int} (h : Three w B (.slice (some ⟨g, 0, none⟩) n cap) vb vt c b t) (hn : c.length = n) (j : Nat) (x : Int) :
    Three (w.setCell ⟨g, j, none⟩ (.int .i64 x)) B (.slice (some ⟨g, 0, none⟩) n cap) vb vt (c.set j x) b t := by subst hn; exact h.stored j x

theorem pad_eq (c : List Int) (n r : Nat) (h : c.length + r = max c.length n) : pad c n = c ++ List.replicate r 0 := by
  unfold pad
  congr 2
  omega
theorem rep_succ (c : List Int) (r : Nat) : c ++ List.replicate (r + 1) (0 : Int) = (c ++ List.replicate r 0) ++ [0] := by
  rw [List.append_assoc, List.replicate_succ']

set_option maxRecDepth 100000 in
set_option maxHeartbeats 1600000 in
theorem rulI_any (A : Option Addr) (c B : Nat) (zs : List Int) (p : Int) (w : World) (hr : Reads w B 1 A zs.length (ints zs)) (hB : B ≤ w.heap.size) (hn : zs.length ≤ 1048576) :
    Calls Try.prog 17 #[.slice A zs.length c, .int .i64 p] w (Gives w.heap.size (rulL p zs) (listB p 1 zs) w) := by
  obtain ⟨i0, hi, hz0, hz1, hz2⟩ := info_parts info2
  cases h1 : listB p 1 zs with
  | false =>
    rw [rulL, h1]
    have H := areRem_any A c B zs p 1 1 rfl false h1 w hr hB hn
    clear h1 hr
    go_enter Try.func17, Try.ntmps17
    go_wp2_with fail
    refine H.mono ?_
    rintro e w1 ⟨rfl, hb1⟩
    go_wp2_with fail
    go_ret2
    exact ⟨none, 0, rfl, Own.nil, hb1⟩
  | true =>
    rw [rulL, h1]
    have H := areRem_any A c B zs p 1 1 rfl true h1 w hr hB hn
    have hP := Lib.hid (listB_parts h1).1
    have hp := isP_one (listB_parts h1).1
    have hlz := (listB_parts h1).2.2.1
    have hl1 := (listB_parts h1).2.1
    have hZO := Lib.hid (listB_parts h1).2.2.2
    have hfin : Hid (ruleOf p zs = outTo p (run p zs zs.length).c (run p zs zs.length).l) := rfl
    have HOK : Hid (∀ k, Ok p (run p zs k) k) := fun k => ok_run hp.1 k
    simp only [if_true]
    clear h1
    go_enter Try.func17, Try.ntmps17
    go_wp2_with fail
    refine H.mono ?_
    rintro e w1 ⟨rfl, hb1⟩
    clear H
    go_wp2_with fail
    have hs1 := hb1.size
    have hT0 : Two ((w1.alloc (.cells #[.int .i64 1] 2)).alloc (.cells #[.int .i64 1] 2)) w.heap.size (.slice (some ⟨w1.heap.size, 0, none⟩) 1 1) (.slice (some ⟨w1.heap.size + 1, 0, none⟩) 1 1) (run p zs 0).c (run p zs 0).b := by
      refine ⟨(World.ownsRow_lit w1 #[.int .i64 1] 1 hs1 (by simp [maxLen]) rfl).alloc _, ?_, .inr (by simp [Value.ownBlock])⟩
      have h := World.ownsRow_lit (base := w.heap.size) (e := 2) (size := 1) (w1.alloc (.cells #[.int .i64 1] 2)) #[.int .i64 1] 1 (by simp; omega) (by simp [maxLen]) rfl
      simp at h
      exact h
    have hbw0 : Below w.heap.size w ((w1.alloc (.cells #[.int .i64 1] 2)).alloc (.cells #[.int .i64 1] 2)) := (hb1.alloc hs1 _).alloc (by simp; omega) _
    go_loopw [6, 7, 8, 9, 10, 29] (fun vc vb vl vm vx vk wr => ∃ k : Nat, k ≤ zs.length ∧ vk = .int .i64 k ∧ vl = .int .i64 ((run p zs k).l : Int) ∧ vm = .int .i64 ((run p zs k).m : Int) ∧ vx = .int .i64 (run p zs k).x ∧ Two wr w.heap.size vc vb (run p zs k).c (run p zs k).b ∧ Below w.heap.size w wr) (fun _ _ _ _ _ vk _ => zs.length - (intOf vk).toNat)
    case atStart => exact ⟨0, Nat.zero_le _, rfl, rfl, rfl, rfl, hT0, hbw0⟩
    case round =>
      clear hT0 hbw0 hb1 hs1
      obtain ⟨k, hk, rfl, rfl, rfl, rfl, ⟨hoc, hob, hsep⟩, hbr⟩ := hrel
      by_cases hlt : k < zs.length
      · obtain ⟨wo, rfl⟩ : ∃ wo : World, wo = wr := ⟨_, rfl⟩
        obtain ⟨h1, h2, h3, h4, h5, h6, h7, h8⟩ := HOK.out k
        have hE : Hid (run p zs (k + 1) = step p zs k (run p zs k)) := rfl
        generalize run p zs k = q at *
        obtain ⟨qc, qb, ql, qm, qx⟩ := q
        simp only at h1 h2 h3 h4 h5 h6 h7 h8 hoc hob hsep
        have hCO := Lib.hid h1
        have hBO := Lib.hid h2
        clear h1 h2
        obtain ⟨ad, rfl, hab, hcz⟩ := int_at (hr.below (hbr.mono hB)) hlt
        obtain ⟨Ac, cc, rfl, hcc, -, hrc⟩ := row_reads hoc
        obtain ⟨Ab, cb, rfl, hcb, -, -⟩ := row_reads hob
        have hd0 : Hid (dsum zs qc k 0 = zs.getD k 0) := rfl
        generalize zs.getD k 0 = z0 at *
        go_wp2_with fail
        go_loopw [13, 14] (fun vd vi w3 => ∃ j : Nat, j ≤ ql ∧ vi = .int .i64 ((j : Int) + 1) ∧ vd = .int .i64 (dsum zs qc k j) ∧ ∃ m, w3 = wo.drewN m) (fun _ vi _ => ql + 1 - (intOf vi).toNat)
        case atStart => exact ⟨0, Nat.zero_le _, rfl, by rw [hd0.out], 0, rfl⟩
        case round =>
          obtain ⟨j, hj, rfl, rfl, m, rfl⟩ := hrel
          by_cases hlt2 : j < ql
          · obtain ⟨ad3, hA3, hab3, hc3⟩ := int_at (k := k - (j + 1)) (hr.below (hbr.mono hB)) (by omega)
            obtain rfl : ad3 = ad := by injection hA3 with h; exact h.symm
            have HA : ∀ n, Calls Try.prog 37 #[.slice Ac qc.length cc, .int .i64 ((j : Int) + 1)] ((wo.drewN m).drewN n) fun e w' => e = .returned (.int .i64 (qc.getD (j + 1) 0)) ∧ w' = (wo.drewN m).drewN n := fun n => integerAt_any Ac cc wo.heap.size qc ((j : Int) + 1) (j + 1) (by omega) _ ((hrc.drewN m).drewN n)
            have hd := dsum_bd (by omega) hp.2 hZO.out hCO.out (k := k) j
            have ha := overB_getD (by omega) hCO.out (j + 1)
            have hb := overB_getD (by omega) hZO.out (k - (j + 1))
            have hab' := mul_bd (n := 12) (m := 12) ⟨ha.1, by omega⟩ ⟨hb.1, by omega⟩
            have hD : Hid (dsum zs qc k (j + 1) = dsum zs qc k j + qc.getD (j + 1) 0 * zs.getD (k - (j + 1)) 0) := rfl
            have hc3' : (wo.drewN m).cell? (ad3.add (k - (j + 1))) = some (.int .i64 (zs.getD (k - (j + 1)) 0)) := hc3
            have HAH := Lib.hid HA
            clear hr hrc hA3 hoc hob HA hc3
            generalize hW : wo.drewN m = w3 at *
            have HW := Lib.hid hW
            clear hW
            generalize qc.getD (j + 1) 0 = a at *
            generalize zs.getD (k - (j + 1)) 0 = b at *
            generalize dsum zs qc k j = D at *
            go_wp2_with fail
            go_quiet ((go_at_call 37; exact Calls.quiet_of_same (HAH.out _)))
            go_wp2
            go_roundw
            case rel => exact ⟨j + 1, by omega, by go_num, by rw [hD.out], m + nq, by rw [← HW.out, World.drewN_drewN]⟩
            case measure => simp [intOf]; omega
          · obtain rfl : j = ql := by omega
            have hd := dsum_bd (by omega) hp.2 hZO.out hCO.out (k := k) j
            have hoc2 : (wo.drewN m).ownsRow w.heap.size 2 1 (.slice Ac qc.length cc) qc.length (ints qc) := hoc
            have hob2 : (wo.drewN m).ownsRow w.heap.size 2 1 _ qb.length (ints qb) := hob
            have hrc2 : Reads (wo.drewN m) (wo.drewN m).heap.size 1 Ac qc.length (ints qc) := hrc
            have hbr2 := below_drewN hbr m
            have HM := rest_any (dsum zs qc k j) p (by omega) (by omega)
            have hmr := md_range (p := p) (x := dsum zs qc k j) (by omega)
            have hvr := inv_range p qx
            have HV := inverse_any qx p hp (by omega)
            have hE2 : Hid (step p zs k ⟨qc, qb, j, qm, qx⟩ = if md p (dsum zs qc k j) = 0 then ⟨qc, qb, j, qm + 1, qx⟩ else
                if 2 * j ≤ k then ⟨updTo p (md p (md p (dsum zs qc k j) * inv p qx)) qb (pad qc (qb.length + qm)) qm qb.length, qc, k + 1 - j, 1, md p (dsum zs qc k j)⟩
                else ⟨updTo p (md p (md p (dsum zs qc k j) * inv p qx)) qb (pad qc (qb.length + qm)) qm qb.length, qb, j, qm + 1, qx⟩) := rfl
            clear hob hoc hbr hrc
            generalize dsum zs qc k j = D at *
            generalize hdd : md p D = d at *
            clear hdd
            generalize wo.drewN m = w4 at *
            cases hd0 : (d == 0) with
            | true =>
              have hd0' : d = 0 := by simpa using hd0
              have hE3 : Hid (step p zs k ⟨qc, qb, j, qm, qx⟩ = ⟨qc, qb, j, qm + 1, qx⟩) := by show _ = _; rw [hE2.out, if_pos hd0']
              clear hd0' hE2 hrc2
              go_wp2_with (go_at_call 33; refine (HM _).mono ?_; rintro e w' ⟨rfl, rfl⟩)
              go_roundw
              case rel => exact ⟨k + 1, by omega, by go_num, by rw [hE.out, hE3.out], by rw [hE.out, hE3.out]; go_num, by rw [hE.out, hE3.out], by rw [hE.out, hE3.out]; exact ⟨hoc2, hob2, hsep⟩, hbr2⟩
              case measure => simp [intOf]; omega
            | false =>
              have hd0' : ¬ d = 0 := by simpa using hd0
              obtain ⟨v, hv⟩ : ∃ v, inv p qx = v := ⟨_, rfl⟩
              rw [hv] at hvr HV hE2
              clear hv
              have hdv : 0 ≤ d * v ∧ d * v ≤ 144 := by
                have := mul_bd (n := 12) (m := 12) (a := d) (b := v) ⟨hmr.1, by omega⟩ ⟨hvr.1, by have := hvr.2 (by omega); omega⟩
                exact ⟨this.1, by omega⟩
              have HR := rest_any (d * v) p (by omega) (by omega)
              have hFr := md_range (p := p) (x := d * v) (by omega)
              have hE3 : Hid (step p zs k ⟨qc, qb, j, qm, qx⟩ = if 2 * j ≤ k then ⟨updTo p (md p (d * v)) qb (pad qc (qb.length + qm)) qm qb.length, qc, k + 1 - j, 1, d⟩ else ⟨updTo p (md p (d * v)) qb (pad qc (qb.length + qm)) qm qb.length, qb, j, qm + 1, qx⟩) := by show _ = _; rw [hE2.out, if_neg hd0']
              clear hd0' hE2
              generalize md p (d * v) = F at *
              have hs4 := hbr2.size
              go_wp2_with fail
              refine (HM _).mono ?_
              rintro e w' ⟨rfl, rfl⟩
              go_wp2_with fail
              refine (HV _).mono ?_
              rintro e w' ⟨rfl, rfl⟩
              go_wp2_with fail
              refine (HR _).mono ?_
              rintro e w' ⟨rfl, rfl⟩
              go_wp2_with fail
              refine (clone_any Ac cc w4.heap.size qc w4 hrc2 (Nat.le_refl _) (by omega)).mono ?_
              rintro e w5 ⟨vt, rfl, hown5, hb5⟩
              have hT5 : Three w5 w.heap.size (.slice Ac qc.length cc) (.slice Ab qb.length cb) vt (qc ++ List.replicate 0 0) qb qc := by
                rw [List.replicate_zero, List.append_nil]
                refine ⟨ownsRow_below hoc2 hb5 (Nat.le_refl _), ownsRow_below hob2 hb5 (Nat.le_refl _), ownsRow_base hown5 hs4, hsep, ?_⟩
                cases hk : vt.ownBlock with
                | none => exact .inl rfl
                | some g =>
                  refine .inr fun he => ?_
                  have a := (hown5.lt g hk).1
                  have b := (hoc2.lt g he.symm).2
                  omega
              have hbr5 := hbr2.trans (hb5.mono hs4)
              obtain ⟨At, ct, rfl, -, -, -⟩ := row_reads hown5
              clear hoc2 hob2 hrc2 hbr2 hown5 hb5 HM HV HR hsep hs4
              go_wp2_with fail
              go_loopw [6] (fun vc wr => ∃ r : Nat, qc.length + r ≤ max qc.length (qb.length + qm) ∧ (∃ A1 c1, vc = .slice A1 (qc.length + r) c1) ∧ Three wr w.heap.size vc (.slice Ab qb.length cb) (.slice At qc.length ct) (qc ++ List.replicate r 0) qb qc ∧ Below w.heap.size w wr) (fun vc _ => qb.length + qm - lenOf vc)
              case atStart => exact ⟨0, by omega, ⟨_, _, rfl⟩, hT5, hbr5⟩
              case round =>
                clear hT5 hbr5
                obtain ⟨r, hr1, ⟨A1, c1, rfl⟩, hT, hbr6⟩ := hrel
                by_cases hlt3 : qc.length + r < qb.length + qm
                · have hX : Hid (qc ++ List.replicate (r + 1) (0 : Int) = (qc ++ List.replicate r 0) ++ [0]) := rep_succ _ _
                  have hXL : (qc ++ List.replicate r (0 : Int)).length = qc.length + r := by simp
                  generalize qc ++ List.replicate r (0 : Int) = X at *
                  have hTc := hT.c
                  rw [hXL] at hTc
                  have hXL' := Lib.hid hXL
                  clear hXL
                  go_wp2_with (at_builtin; refine wpList_append_any _ rfl (.tmp 75) (.tmp 76) _ rfl w.heap.size 2 i0 _ 1 8 Try.underlying22 hi hz0 hz1 hz2 rfl (by omega) (.slice A1 (qc.length + r) c1) (qc.length + r) (ints X) rfl (hTc.alloc _) (wr.heap.size + 1) (some ⟨wr.heap.size, 0, none⟩) 1 1 [.int .i64 0] rfl (reads_one wr _ _) (one_int 0) (by simp only [maxLen]; omega) (by omega) (by simp; have := hbr6.size; omega) ?_; intro v1 w9 hown1 hg1 hat1)
                  have hA2 : ∃ A2 c2, v1 = .slice A2 (qc.length + (r + 1)) c2 := by
                    obtain ⟨A2, c2, h, -⟩ := Own.of_row hown1 (Nat.le_refl _)
                    exact ⟨A2, c2, h⟩
                  have hT9 := hT.appended hbr6.size (by rw [hXL'.out]; exact hown1) hg1 hat1
                  clear hown1 hg1 hat1 hTc hT
                  obtain ⟨A2, c2, rfl⟩ := hA2
                  go_wp2
                  go_roundw
                  case rel => exact ⟨r + 1, by omega, ⟨_, _, rfl⟩, by rw [hX.out]; exact hT9.1, hbr6.trans hT9.2⟩
                  case measure => simp [lenOf]; omega
                · have hP : Hid (pad qc (qb.length + qm) = qc ++ List.replicate r 0) := pad_eq _ _ _ (by omega)
                  have hXL : (qc ++ List.replicate r (0 : Int)).length = qc.length + r := by simp
                  have hPO : Hid (overB p (qc ++ List.replicate r (0 : Int)) = true) := by
                    have := overB_pad (n := qb.length + qm) (by omega) hCO.out
                    rw [hP.out] at this
                    exact this
                  have hE4 : Hid (step p zs k ⟨qc, qb, j, qm, qx⟩ = if 2 * j ≤ k then ⟨updTo p F qb (qc ++ List.replicate r 0) qm qb.length, qc, k + 1 - j, 1, d⟩ else ⟨updTo p F qb (qc ++ List.replicate r 0) qm qb.length, qb, j, qm + 1, qx⟩) := by show _ = _; rw [hE3.out, hP.out]
                  clear hE3 hP
                  obtain ⟨wp, rfl⟩ : ∃ wp : World, wp = wr := ⟨_, rfl⟩
                  generalize qc ++ List.replicate r (0 : Int) = P at *
                  have hPl2 : qc.length + r ≤ 200 := by omega
                  generalize qc.length + r = pl at *
                  subst hXL
                  have hPl : qb.length + qm ≤ P.length := by omega
                  obtain ⟨g, cap, hv1, hg1, hg2⟩ := hT.c.form (by omega)
                  obtain ⟨rfl, rfl⟩ : A1 = some ⟨g, 0, none⟩ ∧ c1 = cap := by injection hv1 with e1 e2 e3; exact ⟨e1, e3⟩
                  clear hv1
                  go_wp2_with fail
                  go_loopw [80] (fun vi wr => ∃ i : Nat, i ≤ qb.length ∧ vi = .int .i64 i ∧ Three wr w.heap.size (.slice (some ⟨g, 0, none⟩) P.length c1) (.slice Ab qb.length cb) (.slice At qc.length ct) (updTo p F qb P qm i) qb qc ∧ Below w.heap.size w wr) (fun vi _ => qb.length - (intOf vi).toNat)
                  case atStart => exact ⟨0, Nat.zero_le _, rfl, hT, hbr6⟩
                  case round =>
                    clear hT hbr6
                    obtain ⟨i, hi2, rfl, hT, hbr7⟩ := hrel
                    have hU : (updTo p F qb P qm i).length = P.length := updTo_len _ _ _ _ _ _
                    have hUO : Hid (overB p (updTo p F qb P qm i) = true) := overB_upd (by omega) hPO.out
                    have hUE : Hid (updTo p F qb P qm (i + 1) = (updTo p F qb P qm i).set (i + qm) (md p ((updTo p F qb P qm i).getD (i + qm) 0 - F * qb.getD i 0))) := rfl
                    by_cases hlt4 : i < qb.length
                    · generalize updTo p F qb P qm i = U at *
                      have hTc := hT.c
                      rw [hU] at hTc
                      have hcell : wr.cell? ⟨g, i + qm, none⟩ = some (.int .i64 (U.getD (i + qm) 0)) := by
                        rw [hTc.cellAt (i + qm) (by omega), ints_at (by omega)]
                      have hfz := hTc.frozenAt (i + qm)
                      obtain ⟨Ab', cb', hv, -, -, hrb⟩ := row_reads hT.b
                      obtain ⟨rfl, rfl⟩ : Ab' = Ab ∧ cb' = cb := by injection hv with e1 e2 e3; exact ⟨e1.symm, e3.symm⟩
                      obtain ⟨ad4, rfl, hab4, hc4⟩ := int_at (k := i) hrb hlt4
                      have ha := overB_getD (by omega) hUO.out (i + qm)
                      have hb := overB_getD (by omega) hBO.out i
                      have hFb : 0 ≤ F * qb.getD i 0 ∧ F * qb.getD i 0 ≤ 144 := by
                        have := mul_bd (n := 12) (m := 12) (a := F) (b := qb.getD i 0) ⟨hFr.1, by omega⟩ ⟨hb.1, by omega⟩
                        exact ⟨this.1, by omega⟩
                      have HM := rest_any (U.getD (i + qm) 0 - F * qb.getD i 0) p (by omega) (by omega)
                      have hin : i + qm < P.length := by omega
                      have hUL := Lib.hid hU
                      clear hTc hrb hv hU
                      generalize U.getD (i + qm) 0 = a at *
                      generalize qb.getD i 0 = b at *
                      generalize hy : md p (a - F * b) = y at *
                      clear hy
                      go_wp2_with (go_at_call 33; refine (HM _).mono ?_; rintro e w' ⟨rfl, rfl⟩)
                      go_roundw
                      case rel =>
                        refine ⟨i + 1, by omega, by go_num, ?_, hbr7.setCell (p := ⟨g, i + qm, none⟩) hg1 _⟩
                        rw [hUE.out]
                        exact hT.stored' hUL.out (i + qm) y
                      case measure => simp [intOf]; omega
                    · obtain rfl : i = qb.length := by omega
                      have hUL := Lib.hid hU
                      generalize updTo p F qb P qm qb.length = U at *
                      clear hU hUE
                      have hTc : wr.ownsRow w.heap.size 2 1 (.slice (some ⟨g, 0, none⟩) P.length c1) U.length (ints U) := hT.c
                      by_cases h2l : 2 * j ≤ k
                      · have hE5 : Hid (step p zs k ⟨qc, qb, j, qm, qx⟩ = ⟨U, qc, k + 1 - j, 1, d⟩) := by show _ = _; rw [hE4.out, if_pos h2l]
                        clear hE4
                        have hTw : Two wr w.heap.size (.slice (some ⟨g, 0, none⟩) P.length c1) (.slice At qc.length ct) U qc := ⟨hT.c, hT.t, hT.st⟩
                        clear hT hTc
                        go_wp2
                        go_roundw
                        case rel => exact ⟨k + 1, by omega, by go_num, by rw [hE.out, hE5.out]; go_num, by rw [hE.out, hE5.out]; go_num, by rw [hE.out, hE5.out], by rw [hE.out, hE5.out]; exact hTw, hbr7⟩
                        case measure => simp [intOf]; omega
                      · have hE5 : Hid (step p zs k ⟨qc, qb, j, qm, qx⟩ = ⟨U, qb, j, qm + 1, qx⟩) := by show _ = _; rw [hE4.out, if_neg h2l]
                        clear hE4
                        have hTw : Two wr w.heap.size (.slice (some ⟨g, 0, none⟩) P.length c1) (.slice Ab qb.length cb) U qb := ⟨hT.c, hT.b, hT.sb⟩
                        clear hT hTc
                        go_wp2
                        go_roundw
                        case rel => exact ⟨k + 1, by omega, by go_num, by rw [hE.out, hE5.out], by rw [hE.out, hE5.out]; go_num, by rw [hE.out, hE5.out], by rw [hE.out, hE5.out]; exact hTw, hbr7⟩
                        case measure => simp [intOf]; omega
      · obtain rfl : k = zs.length := by omega
        obtain ⟨wo, rfl⟩ : ∃ wo : World, wo = wr := ⟨_, rfl⟩
        obtain ⟨h1, h2, h3, h4, h5, h6, h7, h8⟩ := HOK.out zs.length
        generalize run p zs zs.length = q at *
        obtain ⟨qc, qb, ql, qm, qx⟩ := q
        simp only at h1 h2 h3 h4 h5 h6 h7 h8 hoc hob hsep hfin
        have hCO := Lib.hid h1
        obtain ⟨Ac, cc, rfl, hcc, -, hrc⟩ := row_reads hoc
        clear h1 h2 h4 h6 h7 hob hsep hoc
        go_wp2_with fail
        go_loopw [19, 20] (fun vo vi wr => ∃ j : Nat, j ≤ ql ∧ vi = .int .i64 ((j : Int) + 1) ∧ wr.ownsRow wo.heap.size 2 1 vo j (ints (outTo p qc j)) ∧ Below wo.heap.size wo wr) (fun _ vi _ => ql + 1 - (intOf vi).toNat)
        case atStart => exact ⟨0, Nat.zero_le _, rfl, World.ownsRow_made wo #[] 0 (Nat.le_refl _) (by simp [maxLen]) rfl, (Below.refl _ _).alloc (Nat.le_refl _) _⟩
        case round =>
          obtain ⟨j, hj, rfl, hown, hbr7⟩ := hrel
          obtain ⟨Ao, co, rfl, -, hko, hO⟩ := Own.of_row hown (Nat.le_refl _)
          have hz7 := hbr7.size
          by_cases hlt2 : j < ql
          · have HA := integerAt_any Ac cc wo.heap.size qc ((j : Int) + 1) (j + 1) (by omega) wr (hrc.below hbr7)
            have ha := overB_getD (by omega) hCO.out (j + 1)
            have HM := rest_any (-(qc.getD (j + 1) 0)) p (by omega) (by omega)
            have hE : Hid (outTo p qc (j + 1) = outTo p qc j ++ [md p (-(qc.getD (j + 1) 0))]) := outTo_succ _ _ _
            clear hO hrc
            generalize qc.getD (j + 1) 0 = a at *
            generalize hy : md p (-a) = y at *
            clear hy
            go_wp2_with fail
            refine HA.mono ?_
            rintro e w' ⟨rfl, rfl⟩
            go_wp2_with (first | (go_at_call 33; refine (HM _).mono ?_; rintro e w' ⟨rfl, rfl⟩) | (at_builtin; refine wpList_append_any _ rfl (.tmp 122) (.tmp 129) _ rfl wo.heap.size 2 i0 _ 1 8 Try.underlying22 hi hz0 hz1 hz2 rfl (by omega) (.slice Ao j co) j (ints (outTo p qc j)) rfl (hown.alloc _) (w'.heap.size + 1) (some ⟨w'.heap.size, 0, none⟩) 1 1 [.int .i64 y] rfl (reads_one w' _ _) (one_int y) (by simp only [maxLen]; omega) (by omega) (by simp; omega) ?_; intro v1 w9 hown1 hg1 hat1))
            have hb9 : Below wo.heap.size wo w9 := (hbr7.alloc hbr7.size _).grown hg1 (by simp; omega) (fun x hx => (hown.lt x hx).1)
            clear hg1 hat1 hown
            go_roundw
            case rel => exact ⟨j + 1, by omega, by go_num, by rw [hE.out]; simpa [ints] using hown1, hb9⟩
            case measure => simp [intOf]; omega
          · obtain rfl : j = ql := by omega
            have hXL : Hid ((outTo p qc j).length = j) := outTo_len _ _ _
            have hbw : Below w.heap.size w wr := hbr.trans (hbr7.mono hbr.size)
            have hO2 : Own wr w.heap.size wr.heap.size 2 Ao (ints (outTo p qc j)) := hO.wide hbr.size (Nat.le_refl _)
            clear hown hO
            generalize outTo p qc j = X at *
            go_wp2
            go_ret2
            exact ⟨Ao, co, by rw [hfin.out, hXL.out]; rfl, by rw [hfin.out]; exact hO2, hbw⟩
end Go.Proofs.Ytciakaecdllfcaa
