/-
  The contract of the reference's RuleOver.
-/
import Derived.Test.YtciakaecdllfcaaRuleW
import Derived.StillTailTactics
import Derived.Deep.RegionWith
import Derived.Deep.RegionHeld3
namespace Go.Proofs.Ytciakaecdllfcaa
open Go.RowKit

theorem ints_arr_set (zs : List Int) (i : Nat) (v : Int) : (ints zs).toArray.setIfInBounds i (.int .i64 v) = (ints (zs.set i v)).toArray := by
  simp [ints, List.map_set]
theorem Blk.far {w : World} {g : Nat} {t : TypeId} {cs : Array Value} (h : Blk w g t cs) {p : Addr} (hp : g ≠ p.block) (u : Value) : Blk (w.setCell p u) g t cs := (Below.heap_setCell w p u g hp).trans h
theorem blk_reads {w : World} {g : Nat} {zs : List Int} (h : Blk w g 2 (ints zs).toArray) : Reads w (g + 1) 1 (some ⟨g, 0, none⟩) zs.length (ints zs) := by
  have := (h.own (xs := ints zs) (by simp) (fun j _ => by simp) (lo := 0) (Nat.zero_le _) (Nat.lt_succ_self g)).reads
  rwa [ints_len] at this

theorem dsum_bd {p : Int} {s c : List Int} {k : Nat} (hp : 0 < p) (hp13 : p ≤ 13) (hs : overB p s = true) (hc : overB p c = true) : ∀ i, 0 ≤ dsum s c k i ∧ dsum s c k i ≤ 12 + 144 * i
  | 0 => by have := overB_getD hp hs k; simp only [dsum]; omega
  | i + 1 => by
    have ih := dsum_bd hp hp13 hs hc (k := k) i
    have h1 := overB_getD hp hc (i + 1)
    have h2 := overB_getD hp hs (k - (i + 1))
    have h3 := mul_bd (n := 12) (m := 12) ⟨h1.1, by omega⟩ ⟨h2.1, by omega⟩
    simp only [dsum]
    omega

/-- What holds of the reference's state. -/
structure OkS (p : Int) (n : Nat) (q : St) (k : Nat) : Prop where
  c : overB p q.c = true
  b : overB p q.b = true
  cl : q.c.length = n
  bl : q.b.length = n
  l : q.l ≤ k
  m : 1 ≤ q.m ∧ q.m ≤ k + 2
  x : 0 < q.x ∧ q.x ≤ p - 1
theorem okS {p : Int} {s : List Int} {n k : Nat} (hp : 1 < p) (h : k + 1 ≤ n) : OkS p n (runS p s n k) k := by
  have a := alike_run (s := s) hp k h
  have o := ok_run (s := s) hp k
  refine ⟨overB_of fun i _ => ?_, overB_of fun i _ => ?_, a.cl, a.bl, a.l ▸ o.l, ?_, a.x ▸ o.x⟩
  · rw [← a.c]; exact overB_getD (by omega) o.c i
  · rw [← a.b]; exact overB_getD (by omega) o.b i
  · rw [← a.m]
    have := o.bl
    have := o.m
    omega

theorem outTo_succ (p : Int) (c : List Int) (n : Nat) : outTo p c (n + 1) = outTo p c n ++ [md p (-(c.getD (n + 1) 0))] := by
  simp [outTo, List.range_succ]
theorem outTo_len (p : Int) (c : List Int) (n : Nat) : (outTo p c n).length = n := by simp [outTo]

theorem made_zero {n : Nat} {cs : Array Value} (h : cs.toList.take n = (madeCells (Value.int .i64 0).cells (n * 1)).toList) (hs : cs.size = n) : cs = (ints (List.replicate n 0)).toArray := by
  apply Array.toList_inj.1
  rw [List.take_of_length_le (by simp; omega)] at h
  rw [h, Nat.mul_one]
  show (madeCells #[Value.int .i64 0] n).toList = _
  rw [toList_madeCells_one]
  simp [ints]
theorem two_made {w w1 w2 : World} {n : Nat} (h1 : w1.ownsRow w.heap.size 2 1 (.slice (some ⟨w.heap.size, 0, none⟩) n n) n (madeCells (Value.int .i64 0).cells (n * 1)).toList) (g1 : w.grownBy w1 none)
    (h2 : w2.ownsRow w1.heap.size 2 1 (.slice (some ⟨w1.heap.size, 0, none⟩) n n) n (madeCells (Value.int .i64 0).cells (n * 1)).toList) (g2 : w1.grownBy w2 none) :
    Blk w2 w.heap.size 2 (ints (List.replicate n 0)).toArray ∧ Blk w2 w1.heap.size 2 (ints (List.replicate n 0)).toArray ∧ w.heap.size < w1.heap.size ∧ w1.heap.size < w2.heap.size ∧ Below w.heap.size w w2 := by
  obtain ⟨cs, hbc, hcs, hct, -⟩ := blk_of_row h1
  obtain ⟨bs, hbb, hbs, hbt, -⟩ := blk_of_row h2
  have b1 : Below w.heap.size w w1 := (Below.refl _ _).grown g1 (Nat.le_refl _) (by simp)
  have b2 : Below w1.heap.size w1 w2 := (Below.refl _ _).grown g2 (Nat.le_refl _) (by simp)
  rw [made_zero hct hcs] at hbc
  rw [made_zero hbt hbs] at hbb
  exact ⟨hbc.below b2 hbc.lt, hbb, hbc.lt, hbb.lt, b1.trans (b2.mono (Nat.le_of_lt hbc.lt))⟩
theorem blk_zero {w : World} {g n : Nat} (h : Blk w g 2 (ints (List.replicate n 0)).toArray) (hn : 0 < n) : w.cell? ⟨g, 0, none⟩ = some (.int .i64 0) ∧ w.frozen? ⟨g, 0, none⟩ = false := by
  refine ⟨?_, h.frozen 0⟩
  rw [h.cell 0]
  simp [ints, hn]

def rulL (p : Int) (zs : List Int) : List Int := if listB p 1 zs then ruleOf p zs else []

set_option maxRecDepth 100000 in
set_option maxHeartbeats 1600000 in
theorem rulS_any (A : Option Addr) (c B : Nat) (zs : List Int) (p : Int) (w : World) (hr : Reads w B 1 A zs.length (ints zs)) (hB : B ≤ w.heap.size) (hn : zs.length ≤ 1048576) :
    Calls Try.prog 18 #[.slice A zs.length c, .int .i64 p] w (Gives w.heap.size (rulL p zs) (listB p 1 zs) w) := by
  obtain ⟨i0, hi, hz0, hz1, hz2⟩ := info_parts info2
  cases h1 : listB p 1 zs with
  | false =>
    rw [rulL, h1]
    have H := l07List_any A c B zs p 1 1 rfl false h1 w hr hn
    clear h1 hr
    go_enter Try.func18, Try.ntmps18
    go_wp2_with fail
    refine H.mono ?_
    rintro e w' ⟨rfl, rfl⟩
    go_wp2_with fail
    go_ret2
    exact ⟨none, 0, rfl, Own.nil, Below.refl _ _⟩
  | true =>
    rw [rulL, h1]
    have H := l07List_any A c B zs p 1 1 rfl true h1 w hr hn
    have hp := isP_one (listB_parts h1).1
    have hlz := (listB_parts h1).2.2.1
    have hl1 := (listB_parts h1).2.1
    have hZO := Lib.hid (listB_parts h1).2.2.2
    obtain ⟨n, hn1, hn2⟩ : ∃ n, 2 * zs.length + 2 ≤ n ∧ n ≤ 2 * zs.length + 2 := ⟨_, Nat.le_refl _, Nat.le_refl _⟩
    have hfin : Hid (ruleOf p zs = outTo p (runS p zs n zs.length).c (runS p zs n zs.length).l) := (ruleOf_eq hp.1 (by omega)).symm
    have HOK : Hid (∀ k, k ≤ zs.length → OkS p n (runS p zs n k) k) := fun k hk => okS hp.1 (by omega)
    simp only [if_true]
    clear h1
    go_enter Try.func18, Try.ntmps18
    go_wp2_with fail
    refine H.mono ?_
    rintro e w' ⟨rfl, rfl⟩
    clear H
    go_wp2_with (first | (at_make; refine wpList_make_full _ rfl (.tmp 26) _ _ rfl w.heap.size 2 i0 (.int .i64 0) 1 Try.underlying22 hi hz0 hz1 .i64 .i64 (2 * (zs.length : Int) + 2) (2 * (zs.length : Int) + 2) n rfl rfl (by omega) (by omega) (by rw [hz2]; omega) (by unfold maxLen; omega) (Nat.le_refl _) ?_; intro w1 hownc hgc) | (at_make; refine wpList_make_full _ rfl (.tmp 31) _ _ rfl w1.heap.size 2 i0 (.int .i64 0) 1 Try.underlying22 hi hz0 hz1 .i64 .i64 (2 * (zs.length : Int) + 2) (2 * (zs.length : Int) + 2) n rfl rfl (by omega) (by omega) (by rw [hz2]; omega) (by unfold maxLen; omega) (Nat.le_refl _) ?_; intro w2 hownb hgb; obtain ⟨hbc, hbb, hs1, hs2, hb2⟩ := two_made hownc hgc hownb hgb; clear hownc hgc hownb hgb; obtain ⟨hc0, hf0⟩ := blk_zero hbc (by omega); obtain ⟨hc1, hf1⟩ := blk_zero hbb (by omega); have hne1 : ¬ w.heap.size = w1.heap.size := by omega))
    have hbc1 : Blk ((w2.setCell ⟨w.heap.size, 0, none⟩ (.int .i64 1)).setCell ⟨w1.heap.size, 0, none⟩ (.int .i64 1)) w.heap.size 2 (ints (runS p zs n 0).c).toArray := by
      have h := (hbc.set_ 0 (.int .i64 1)).far (p := ⟨w1.heap.size, 0, none⟩) (by show w.heap.size ≠ w1.heap.size; omega) (.int .i64 1)
      rw [ints_arr_set] at h
      exact h
    have hbb1 : Blk ((w2.setCell ⟨w.heap.size, 0, none⟩ (.int .i64 1)).setCell ⟨w1.heap.size, 0, none⟩ (.int .i64 1)) w1.heap.size 2 (ints (runS p zs n 0).b).toArray := by
      have h := (hbb.far (p := ⟨w.heap.size, 0, none⟩) (by show w1.heap.size ≠ w.heap.size; omega) (.int .i64 1)).set_ 0 (.int .i64 1)
      rw [ints_arr_set] at h
      exact h
    have hown0 : Own ((w2.setCell ⟨w.heap.size, 0, none⟩ (.int .i64 1)).setCell ⟨w1.heap.size, 0, none⟩ (.int .i64 1)) (w.heap.size + 1) ((w2.setCell ⟨w.heap.size, 0, none⟩ (.int .i64 1)).setCell ⟨w1.heap.size, 0, none⟩ (.int .i64 1)).heap.size 2 (some ⟨w1.heap.size, 0, none⟩) (ints (runS p zs n 0).b) :=
      hbb1.own (by simp) (fun j _ => by simp) (by omega) (by simp [World.setCell]; omega)
    have hbw0 : Below w.heap.size w ((w2.setCell ⟨w.heap.size, 0, none⟩ (.int .i64 1)).setCell ⟨w1.heap.size, 0, none⟩ (.int .i64 1)) := (hb2.setCell (p := ⟨w.heap.size, 0, none⟩) (Nat.le_refl _) _).setCell (p := ⟨w1.heap.size, 0, none⟩) (by show w.heap.size ≤ w1.heap.size; omega) _
    clear hbc hbb hc0 hf0 hc1 hf1 hb2
    go_loopw [7, 8, 9, 10, 39] (fun vb vl vm vx vk wr => ∃ k : Nat, k ≤ zs.length ∧ vk = .int .i64 k ∧ vl = .int .i64 ((runS p zs n k).l : Int) ∧ vm = .int .i64 ((runS p zs n k).m : Int) ∧ vx = .int .i64 (runS p zs n k).x ∧ (∃ Ab cb, vb = .slice Ab n cb ∧ Own wr (w.heap.size + 1) wr.heap.size 2 Ab (ints (runS p zs n k).b)) ∧ Blk wr w.heap.size 2 (ints (runS p zs n k).c).toArray ∧ Below w.heap.size w wr) (fun _ _ _ _ vk _ => zs.length - (intOf vk).toNat)
    case atStart => exact ⟨0, Nat.zero_le _, rfl, rfl, rfl, rfl, ⟨_, _, rfl, hown0⟩, hbc1, hbw0⟩
    case round =>
      clear hown0 hbc1 hbb1 hbw0 hne1 hs1 hs2
      obtain ⟨k, hk, rfl, rfl, rfl, rfl, ⟨Ab, cb, rfl, hob⟩, hbc, hbr⟩ := hrel
      by_cases hlt : k < zs.length
      · obtain ⟨wo, rfl⟩ : ∃ wo : World, wo = wr := ⟨_, rfl⟩
        obtain ⟨h1, h2, h3, h4, h5, h6, h7⟩ := HOK.out k hk
        have hE : Hid (runS p zs n (k + 1) = stepS p zs k (runS p zs n k)) := rfl
        generalize runS p zs n k = q at *
        obtain ⟨qc, qb, ql, qm, qx⟩ := q
        simp only at h1 h2 h3 h4 h5 h6 h7 hob hbc
        have hCO := Lib.hid h1
        have hBO := Lib.hid h2
        have hCL := Lib.hid h3
        have hBL := Lib.hid h4
        clear h1 h2 h3 h4
        obtain ⟨ad, rfl, hab, hcz⟩ := int_at (hr.below (hbr.mono hB)) hlt
        have hd0 : Hid (dsum zs qc k 0 = zs.getD k 0) := rfl
        generalize zs.getD k 0 = z0 at *
        go_wp2_with fail
        go_loopw [12, 13] (fun vd vi w3 => ∃ j : Nat, j ≤ ql ∧ vi = .int .i64 ((j : Int) + 1) ∧ vd = .int .i64 (dsum zs qc k j) ∧ ∃ m, w3 = wo.drewN m) (fun _ vi _ => ql + 1 - (intOf vi).toNat)
        case atStart => exact ⟨0, Nat.zero_le _, rfl, by rw [hd0.out], 0, rfl⟩
        case round =>
          obtain ⟨j, hj, rfl, rfl, m, rfl⟩ := hrel
          have hcr := blk_reads hbc
          by_cases hlt2 : j < ql
          · obtain ⟨ad2, hA2, hab2, hc2⟩ := int_at (k := j + 1) hcr (by have := hCL.out; omega)
            obtain rfl : ad2 = ⟨w.heap.size, 0, none⟩ := by injection hA2 with h; exact h.symm
            obtain ⟨ad3, hA3, hab3, hc3⟩ := int_at (k := k - (j + 1)) (hr.below (hbr.mono hB)) (by omega)
            obtain rfl : ad3 = ad := by injection hA3 with h; exact h.symm
            have hd := dsum_bd (by omega) hp.2 hZO.out hCO.out (k := k) j
            have ha := overB_getD (by omega) hCO.out (j + 1)
            have hb := overB_getD (by omega) hZO.out (k - (j + 1))
            have hab' := mul_bd (n := 12) (m := 12) ⟨ha.1, by omega⟩ ⟨hb.1, by omega⟩
            have hD : Hid (dsum zs qc k (j + 1) = dsum zs qc k j + qc.getD (j + 1) 0 * zs.getD (k - (j + 1)) 0) := rfl
            have hadd : (⟨w.heap.size, 0, none⟩ : Addr).add (j + 1) = ⟨w.heap.size, j + 1, none⟩ := by simp [Addr.add]
            rw [hadd] at hc2
            have hnn : j + 1 < n := by omega
            clear hr hcr hA2 hA3 hadd hob
            generalize qc.getD (j + 1) 0 = a at *
            generalize zs.getD (k - (j + 1)) 0 = b at *
            generalize dsum zs qc k j = D at *
            go_wp2_with fail
            go_quiet (fail)
            go_wp2
            go_roundw
            case rel => exact ⟨j + 1, by omega, by go_num, by rw [hD.out], _, rfl⟩
            case measure => simp [intOf]; omega
          · obtain rfl : j = ql := by omega
            -- behind the sum: the world under a name of its own
            have hd := dsum_bd (by omega) hp.2 hZO.out hCO.out (k := k) j
            have hob2 : Own (wo.drewN m) (w.heap.size + 1) (wo.drewN m).heap.size 2 Ab (ints qb) := hob
            have hbc2 : Blk (wo.drewN m) w.heap.size 2 (ints qc).toArray := hbc
            have hbr2 := below_drewN hbr m
            have HM := l03Mod_any (dsum zs qc k j) p (by omega) (by omega)
            have hmr := md_range (p := p) (x := dsum zs qc k j) (by omega)
            have hvr := inv_range p qx
            have HV := l03Inverse_any qx p hp (by omega)
            have hE2 : Hid (stepS p zs k ⟨qc, qb, j, qm, qx⟩ = if md p (dsum zs qc k j) = 0 then ⟨qc, qb, j, qm + 1, qx⟩ else
                if 2 * j ≤ k then ⟨updTo p ((md p (dsum zs qc k j) * inv p qx).tmod p) qb qc qm (qc.length - qm), qc, k + 1 - j, 1, md p (dsum zs qc k j)⟩
                else ⟨updTo p ((md p (dsum zs qc k j) * inv p qx).tmod p) qb qc qm (qc.length - qm), qb, j, qm + 1, qx⟩) := rfl
            clear hob hbc hbr hcr
            generalize dsum zs qc k j = D at *
            generalize hdd : md p D = d at *
            clear hdd
            generalize wo.drewN m = w4 at *
            cases hd0 : (d == 0) with
            | true =>
              have hd0' : d = 0 := by simpa using hd0
              have hE3 : Hid (stepS p zs k ⟨qc, qb, j, qm, qx⟩ = ⟨qc, qb, j, qm + 1, qx⟩) := by show _ = _; rw [hE2.out, if_pos hd0']
              clear hd0' hE2
              go_wp2_with (go_at_call 29; refine (HM _).mono ?_; rintro e w' ⟨rfl, rfl⟩)
              go_roundw
              case rel => exact ⟨k + 1, by omega, by go_num, by rw [hE.out, hE3.out], by rw [hE.out, hE3.out]; go_num, by rw [hE.out, hE3.out], ⟨_, _, rfl, by rw [hE.out, hE3.out]; exact hob2⟩, by rw [hE.out, hE3.out]; exact hbc2, hbr2⟩
              case measure => simp [intOf]; omega
            | false =>
              have hd0' : ¬ d = 0 := by simpa using hd0
              obtain ⟨v, hv⟩ : ∃ v, inv p qx = v := ⟨_, rfl⟩
              rw [hv] at hvr HV hE2
              clear hv
              have hdv : 0 ≤ d * v ∧ d * v ≤ 144 := by
                have := mul_bd (n := 12) (m := 12) (a := d) (b := v) ⟨hmr.1, by omega⟩ ⟨hvr.1, by have := hvr.2 (by omega); omega⟩
                exact ⟨this.1, by omega⟩
              have hq0 : ¬ p = 0 := by omega
              have hF0 : (d * v).tmod p = (d * v) % p := Int.tmod_eq_emod_of_nonneg hdv.1
              obtain ⟨F, hF⟩ : ∃ F, (d * v) % p = F := ⟨_, rfl⟩
              have hFr : 0 ≤ F ∧ F < p := by rw [← hF]; exact ⟨Int.emod_nonneg _ (by omega), Int.emod_lt_of_pos _ (by omega)⟩
              rw [hF0, hF] at hE2
              have hE3 : Hid (stepS p zs k ⟨qc, qb, j, qm, qx⟩ = if 2 * j ≤ k then ⟨updTo p F qb qc qm (qc.length - qm), qc, k + 1 - j, 1, d⟩ else ⟨updTo p F qb qc qm (qc.length - qm), qb, j, qm + 1, qx⟩) := by show _ = _; rw [hE2.out, if_neg hd0']
              clear hd0' hE2 hF0
              have hrt : Reads (w4.alloc (.cells #[] 2)) (w.heap.size + 1) 1 (some ⟨w.heap.size, 0, none⟩) n (ints qc) := by
                have h := blk_reads (hbc2.below ((Below.refl w4.heap.size w4).alloc (Nat.le_refl _) (.cells #[] 2)) hbc2.lt)
                rwa [hCL.out] at h
              have hownt : (w4.alloc (.cells #[] 2)).ownsRow w4.heap.size 2 1 (.slice (some ⟨w4.heap.size, 0, none⟩) 0 0) 0 [] := World.ownsRow_made w4 #[] 0 (Nat.le_refl _) (by simp [maxLen]) rfl
              have hs4 := hbr2.size
              go_wp2_with (first | (go_at_call 29; refine (HM _).mono ?_; rintro e w' ⟨rfl, rfl⟩) | (go_at_call 39; refine (HV _).mono ?_; rintro e w' ⟨rfl, rfl⟩) | (at_builtin; refine wpList_append_any _ rfl (.tmp 78) (.tmp 79) _ rfl w4.heap.size 2 i0 _ 1 8 Try.underlying22 hi hz0 hz1 hz2 rfl (by omega) (.slice (some ⟨w4.heap.size, 0, none⟩) 0 0) 0 [] rfl hownt (w.heap.size + 1) (some ⟨w.heap.size, 0, none⟩) n n (ints qc) rfl hrt (ints_one qc) (by simp only [maxLen]; omega) (by omega) (by simp) ?_; intro v5 w5 hown5 hg5 hat5))
              have hb5 : Below w4.heap.size w4 w5 := ((Below.refl w4.heap.size w4).alloc (Nat.le_refl _) _).grown hg5 (by simp) (fun x hx => by simp [Value.ownBlock] at hx; omega)
              have hbc5 := hbc2.below hb5 hbc2.lt
              have hob5 := hob2.below hb5 (Nat.le_refl _)
              have hbr5 := hbr2.trans (hb5.mono hs4)
              have hgl := hbc2.lt
              obtain ⟨At, ct, rfl, -, -, hot⟩ := Own.of_row hown5 (Nat.le_refl _)
              rw [Nat.zero_add, List.nil_append] at *
              clear hbc2 hob2 hbr2 hg5 hat5 hown5 hrt hownt HM HV
              go_loopw [16] (fun vi w6 => ∃ i : Nat, i ≤ n - qm ∧ vi = .int .i64 i ∧ Blk w6 w.heap.size 2 (ints (updTo p F qb qc qm i)).toArray ∧ Kp w.heap.size (w.heap.size + 1) w5 w6) (fun vi _ => n - qm - (intOf vi).toNat)
              case atStart => exact ⟨0, Nat.zero_le _, rfl, hbc5, Kp.refl _ _ _⟩
              case round =>
                obtain ⟨i, hi2, rfl, hb6, hk6⟩ := hrel
                by_cases hlt3 : i < n - qm
                · have hU : Hid ((updTo p F qb qc qm i).length = n) := (updTo_len _ _ _ _ _ _).trans hCL.out
                  have hUO : Hid (overB p (updTo p F qb qc qm i) = true) := overB_upd (by omega) hCO.out
                  have hUE : Hid (updTo p F qb qc qm (i + 1) = (updTo p F qb qc qm i).set (i + qm) (md p ((updTo p F qb qc qm i).getD (i + qm) 0 - F * qb.getD i 0))) := rfl
                  generalize updTo p F qb qc qm i = U at *
                  have hcr := blk_reads hb6
                  obtain ⟨ad2, hA2, hab2, hc2⟩ := int_at (k := i + qm) hcr (by have := hU.out; omega)
                  obtain rfl : ad2 = ⟨w.heap.size, 0, none⟩ := by injection hA2 with h; exact h.symm
                  have hadd : (⟨w.heap.size, 0, none⟩ : Addr).add (i + qm) = ⟨w.heap.size, i + qm, none⟩ := by
                    unfold Addr.add; split <;> simp_all
                  rw [hadd] at hc2
                  have hfz := hb6.frozen (i + qm)
                  have hob6 : Own wr (w.heap.size + 1) w4.heap.size 2 Ab (ints qb) := hob5.kp hk6 (.inr (Nat.le_refl _))
                  have hbr6 : Reads wr w4.heap.size 1 Ab qb.length (ints qb) := by have := hob6.reads; rwa [ints_len] at this
                  obtain ⟨ad4, rfl, hab4, hc4⟩ := int_at (k := i) hbr6 (by have := hBL.out; omega)
                  have ha := overB_getD (by omega) hUO.out (i + qm)
                  have hb := overB_getD (by omega) hBO.out i
                  have hFb : 0 ≤ F * qb.getD i 0 ∧ F * qb.getD i 0 ≤ 144 := by
                    have := mul_bd (n := 12) (m := 12) (a := F) (b := qb.getD i 0) ⟨hFr.1, by omega⟩ ⟨hb.1, by omega⟩
                    exact ⟨this.1, by omega⟩
                  have HM := l03Mod_any (U.getD (i + qm) 0 - F * qb.getD i 0) p (by omega) (by omega)
                  have hin : i + qm < n := by omega
                  clear hcr hA2 hadd hob6 hbr6
                  generalize U.getD (i + qm) 0 = a at *
                  generalize qb.getD i 0 = b at *
                  generalize hy : md p (a - F * b) = y at *
                  clear hy
                  go_wp2_with fail
                  have q1 : IntKind.i64.wrap ((i : Int) + (qm : Int)) = (i : Int) + (qm : Int) := IntWalk.i64_in _ (by omega)
                  have q2 : 0 ≤ (i : Int) + (qm : Int) := by omega
                  have q3 : ((i : Int) + (qm : Int)).toNat = i + qm := by omega
                  have q4 : (i : Int) + (qm : Int) < (n : Int) := by omega
                  have q5 : IntKind.i64.wrap (F * b) = F * b := IntWalk.i64_in _ (by omega)
                  have q6 : IntKind.i64.wrap (a - F * b) = a - F * b := IntWalk.i64_in _ (by omega)
                  have q7 : (i : Int) < (n : Int) := by omega
                  go_region_with (go_at_call 29; refine (HM _).mono ?_; rintro e w' ⟨rfl, rfl⟩)
                  all_goals
                    clear q1 q2 q3 q5 q6
                    go_wp2
                    go_roundw
                    case rel =>
                      refine ⟨i + 1, by omega, by go_num, ?_, ?_⟩
                      · have h := hb6.set_ (i + qm) (.int .i64 y)
                        rw [ints_arr_set] at h
                        rw [hUE.out]
                        exact h
                      · have h := hk6.setCell (p := ⟨w.heap.size, i + qm, none⟩) ⟨Nat.le_refl _, Nat.lt_succ_self _⟩ (.int .i64 y)
                        exact ⟨h.os, h.tape, h.output, h.size, h.block⟩
                    case measure => simp [intOf]; omega
                · obtain rfl : i = n - qm := by omega
                  have hbr6 : Below w.heap.size w wr := hbr5.trans (hk6.below (Nat.le_refl _) hbr5.size)
                  have hob6 : Own wr (w.heap.size + 1) wr.heap.size 2 Ab (ints qb) := (hob5.kp hk6 (.inr (Nat.le_refl _))).wide (Nat.le_refl _) (Nat.le_trans hb5.size hk6.size)
                  have hot6 : Own wr (w.heap.size + 1) wr.heap.size 2 At (ints qc) := (hot.kp hk6 (.inr (by omega))).wide (by omega) hk6.size
                  rw [hCL.out] at hE3
                  generalize updTo p F qb qc qm (n - qm) = U at *
                  clear hob5 hot hk6 hbc5 hbr5 hb5
                  by_cases h2l : 2 * j ≤ k
                  · have hE4 : Hid (stepS p zs k ⟨qc, qb, j, qm, qx⟩ = ⟨U, qc, k + 1 - j, 1, d⟩) := by show _ = _; rw [hE3.out, if_pos h2l]
                    clear hE3
                    go_wp2
                    go_roundw
                    case rel => exact ⟨k + 1, by omega, by go_num, by rw [hE.out, hE4.out]; go_num, by rw [hE.out, hE4.out]; go_num, by rw [hE.out, hE4.out], ⟨_, _, rfl, by rw [hE.out, hE4.out]; exact hot6⟩, by rw [hE.out, hE4.out]; exact hb6, hbr6⟩
                    case measure => simp [intOf]; omega
                  · have hE4 : Hid (stepS p zs k ⟨qc, qb, j, qm, qx⟩ = ⟨U, qb, j, qm + 1, qx⟩) := by show _ = _; rw [hE3.out, if_neg h2l]
                    clear hE3
                    go_wp2
                    go_roundw
                    case rel => exact ⟨k + 1, by omega, by go_num, by rw [hE.out, hE4.out], by rw [hE.out, hE4.out]; go_num, by rw [hE.out, hE4.out], ⟨_, _, rfl, by rw [hE.out, hE4.out]; exact hob6⟩, by rw [hE.out, hE4.out]; exact hb6, hbr6⟩
                    case measure => simp [intOf]; omega
      · obtain rfl : k = zs.length := by omega
        obtain ⟨wo, rfl⟩ : ∃ wo : World, wo = wr := ⟨_, rfl⟩
        obtain ⟨h1, h2, h3, h4, h5, h6, h7⟩ := HOK.out zs.length (Nat.le_refl _)
        generalize runS p zs n zs.length = q at *
        obtain ⟨qc, qb, ql, qm, qx⟩ := q
        simp only at h1 h2 h3 h4 h5 h6 h7 hob hbc hfin
        have hCO := Lib.hid h1
        have hCL := Lib.hid h3
        clear h1 h2 h3 h4 h6 h7 hob
        have hgl := hbc.lt
        go_wp2_with fail
        go_loopw [17, 18] (fun vo vi wr => ∃ j : Nat, j ≤ ql ∧ vi = .int .i64 ((j : Int) + 1) ∧ wr.ownsRow wo.heap.size 2 1 vo j (ints (outTo p qc j)) ∧ Below wo.heap.size wo wr) (fun _ vi _ => ql + 1 - (intOf vi).toNat)
        case atStart => exact ⟨0, Nat.zero_le _, rfl, World.ownsRow_made wo #[] 0 (Nat.le_refl _) (by simp [maxLen]) rfl, (Below.refl _ _).alloc (Nat.le_refl _) _⟩
        case round =>
          obtain ⟨j, hj, rfl, hown, hbr7⟩ := hrel
          obtain ⟨Ao, co, rfl, -, hko, hO⟩ := Own.of_row hown (Nat.le_refl _)
          have hz7 := hbr7.size
          by_cases hlt2 : j < ql
          · have hcr := blk_reads (hbc.below hbr7 hgl)
            obtain ⟨ad2, hA2, hab2, hc2⟩ := int_at (k := j + 1) hcr (by have := hCL.out; omega)
            obtain rfl : ad2 = ⟨w.heap.size, 0, none⟩ := by injection hA2 with h; exact h.symm
            have hadd : (⟨w.heap.size, 0, none⟩ : Addr).add (j + 1) = ⟨w.heap.size, j + 1, none⟩ := by simp [Addr.add]
            rw [hadd] at hc2
            have ha := overB_getD (by omega) hCO.out (j + 1)
            have HM := l03Mod_any (-(qc.getD (j + 1) 0)) p (by omega) (by omega)
            have hE : Hid (outTo p qc (j + 1) = outTo p qc j ++ [md p (-(qc.getD (j + 1) 0))]) := outTo_succ _ _ _
            have hnn : j + 1 < n := by omega
            clear hcr hA2 hadd hO
            generalize qc.getD (j + 1) 0 = a at *
            generalize hy : md p (-a) = y at *
            clear hy
            go_wp2_with (first | (go_at_call 29; refine (HM _).mono ?_; rintro e w' ⟨rfl, rfl⟩) | (at_builtin; refine wpList_append_any _ rfl (.tmp 128) (.tmp 136) _ rfl wo.heap.size 2 i0 _ 1 8 Try.underlying22 hi hz0 hz1 hz2 rfl (by omega) (.slice Ao j co) j (ints (outTo p qc j)) rfl (hown.alloc _) (wr.heap.size + 1) (some ⟨wr.heap.size, 0, none⟩) 1 1 [.int .i64 y] rfl (reads_one wr _ _) (one_int y) (by simp only [maxLen]; omega) (by omega) (by simp; omega) ?_; intro v1 w9 hown1 hg1 hat1))
            have hb9 : Below wo.heap.size wo w9 := (hbr7.alloc hbr7.size _).grown hg1 (by simp; omega) (fun x hx => (hown.lt x hx).1)
            clear hg1 hat1 hown
            go_wp2
            go_roundw
            case rel => exact ⟨j + 1, by omega, by go_num, by rw [hE.out]; simpa [ints] using hown1, hb9⟩
            case measure => simp [intOf]; omega
          · obtain rfl : j = ql := by omega
            have hXL : Hid ((outTo p qc j).length = j) := outTo_len _ _ _
            have hbw : Below w.heap.size w wr := hbr.trans (hbr7.mono hbr.size)
            have hO2 : Own wr w.heap.size wr.heap.size 2 Ao (ints (outTo p qc j)) := hO.wide hbr.size (Nat.le_refl _)
            clear hown hO
            generalize outTo p qc j = X at *
            go_wp2
            go_ret2
            exact ⟨Ao, co, by rw [hfin.out, hXL.out]; rfl, by rw [hfin.out]; exact hO2, hbw⟩
end Go.Proofs.Ytciakaecdllfcaa
