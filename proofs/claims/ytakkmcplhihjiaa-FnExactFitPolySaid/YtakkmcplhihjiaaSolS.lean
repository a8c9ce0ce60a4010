/-
  Contract: the reference's solving of equations (spec.l06Solve), whatever the numbers.
-/
import Derived.Test.YtakkmcplhihjiaaPowW
import Derived.Deep.RegionHeld
import Derived.BigRegion
namespace Go.Proofs.Ytakkmcplhihjiaa
open Go.RowKit

abbrev hdr (c g : Nat) : Value := .slice (some ⟨g, 0, none⟩) c c
theorem swapM_comm (B : Mx) (k b : Nat) : swapM B b k = swapM B k b := by
  funext i j
  unfold swapM
  rw [swp_comm]
/-- Two rows and their right sides changed about, as the reference does it. -/
theorem swap_sys {w : World} {lo R V n c k b xk xb : Nat} {g : Nat → Nat} {B : Mx} {a : Nat → Option Nat} (hM : Mat w lo R g n c B) (hV : Vec w V n a) (hVR : V ≠ R) (hVg : ∀ i, i < n → V ≠ g i) (hk : k < n) (hb : b < n)
    (ck : w.cell? ⟨V, k, none⟩ = some (.float .f32 xk)) (ek : cn xk = a k) (cb : w.cell? ⟨V, b, none⟩ = some (.float .f32 xb)) (eb : cn xb = a b) :
    (w.setCell ⟨R, b, none⟩ (hdr c (g k))).cell? ⟨R, k, none⟩ = some (hdr c (g k)) ∧
    ((w.setCell ⟨R, b, none⟩ (hdr c (g k))).setCell ⟨R, k, none⟩ (hdr c (g b))).cell? ⟨V, b, none⟩ = some (.float .f32 xb) ∧
    ((w.setCell ⟨R, b, none⟩ (hdr c (g k))).setCell ⟨R, k, none⟩ (hdr c (g b))).cell? ⟨V, k, none⟩ = some (.float .f32 xk) ∧
    (((w.setCell ⟨R, b, none⟩ (hdr c (g k))).setCell ⟨R, k, none⟩ (hdr c (g b))).setCell ⟨V, b, none⟩ (.float .f32 xk)).cell? ⟨V, k, none⟩ = some (.float .f32 xk) ∧
    Mat ((((w.setCell ⟨R, b, none⟩ (hdr c (g k))).setCell ⟨R, k, none⟩ (hdr c (g b))).setCell ⟨V, b, none⟩ (.float .f32 xk)).setCell ⟨V, k, none⟩ (.float .f32 xb)) lo R (fun i => g (swp b k i)) n c (swapM B b k) ∧
    Vec ((((w.setCell ⟨R, b, none⟩ (hdr c (g k))).setCell ⟨R, k, none⟩ (hdr c (g b))).setCell ⟨V, b, none⟩ (.float .f32 xk)).setCell ⟨V, k, none⟩ (.float .f32 xb)) V n (fun i => a (swp b k i)) := by
  have hRV : R ≠ V := fun e => hVR e.symm
  have q1 : (w.setCell ⟨R, b, none⟩ (hdr c (g k))).cell? ⟨R, k, none⟩ = some (hdr c (g k)) := by
    by_cases e : b = k
    · subst e; exact set_same (hM.hd b hb)
    · rw [set_other (by intro e2; exact e (congrArg Addr.off e2))]
      exact hM.hd k hk
  have q2 : ∀ i v, w.cell? ⟨V, i, none⟩ = some v → ((w.setCell ⟨R, b, none⟩ (hdr c (g k))).setCell ⟨R, k, none⟩ (hdr c (g b))).cell? ⟨V, i, none⟩ = some v := fun i v h => by
    rw [set_other (by intro e; exact hRV (congrArg Addr.block e)), set_other (by intro e; exact hRV (congrArg Addr.block e))]
    exact h
  have hM2 := hM.swap hb hk
  have hV2 := (hV.other hRV (o := b) (hdr c (g k))).other hRV (o := k) (hdr c (g b))
  have hne : ∀ i, i < n → V ≠ g (swp b k i) := fun i hi => hVg _ (swp_lt hb hk hi)
  refine ⟨q1, q2 _ _ cb, q2 _ _ ck, ?_, (hM2.other hVR hne _).other hVR hne _, ?_⟩
  · by_cases e : b = k
    · subst e; exact set_same (q2 _ _ cb)
    · rw [set_other (by intro e2; exact e (congrArg Addr.off e2))]
      exact q2 _ _ ck
  · refine ((hV2.set_ hb xk).set_ hk xb).eq (fun i hi => ?_)
    unfold updV swp
    rw [ek, eb]
    by_cases e1 : i = k
    · subst e1
      rw [if_pos rfl]
      by_cases e2 : i = b
      · subst e2; rw [if_pos rfl]
      · rw [if_neg e2, if_pos rfl]
    · rw [if_neg e1]
      by_cases e2 : i = b
      · rw [if_pos e2, if_pos e2]
      · rw [if_neg e2, if_neg e2, if_neg e1]

theorem elim_mat {w : World} {lo R n c k i0 j0 x : Nat} {g : Nat → Nat} {C : Mx} (h : Mat w lo R g n c (elimAt C k i0 j0)) (hi : i0 < n) (hj : j0 < c) (h1 : k < i0) (h2 : k < j0)
    (hx : cn x = opO .sub (elimAt C k i0 j0 i0 j0) (opO .mul (opO .quo (C i0 k) (C k k)) (C k j0))) : Mat (w.setCell ⟨g i0, j0, none⟩ (.float .f32 x)) lo R g n c (elimAt C k i0 (j0 + 1)) :=
  (h.set_ hi hj x).eq (fun i j _ _ => by rw [hx]; exact elim_step C k i0 j0 h1 h2 i j)
theorem elim_done (A : Mx) (k i n : Nat) (i' j' : Nat) (hj : j' < n) : elimAt A k i n i' j' = elimAt A k (i + 1) (k + 1) i' j' := by
  unfold elimAt
  by_cases h3 : k < i' ∧ k < j' ∧ (i' < i ∨ (i' = i ∧ j' < n))
  · rw [if_pos h3, if_pos (by omega)]
  · rw [if_neg h3, if_neg (by omega)]
theorem elim_vec {w : World} {V n k i0 x : Nat} {C : Mx} (h : Vec w V n (fun i => elimAt C k i0 (k + 1) i n)) (hi : i0 < n) (h1 : k < i0) (h2 : k < n)
    (hx : cn x = opO .sub (C i0 n) (opO .mul (opO .quo (C i0 k) (C k k)) (C k n))) : Vec (w.setCell ⟨V, i0, none⟩ (.float .f32 x)) V n (fun i => elimAt C k (i0 + 1) (k + 1) i n) := by
  refine (h.set_ hi x).eq (fun i _ => ?_)
  unfold updV
  by_cases e : i = i0
  · subst e
    rw [if_pos rfl, hx]
    unfold elimAt
    rw [if_pos (by omega)]
  · rw [if_neg e]
    show elimAt C k i0 (k + 1) i n = _
    unfold elimAt
    by_cases h3 : k < i ∧ k < n ∧ (i < i0 ∨ (i = i0 ∧ n < k + 1))
    · rw [if_pos h3, if_pos (by omega)]
    · rw [if_neg h3, if_neg (by omega)]
theorem elim_self (A : Mx) (k i0 j0 : Nat) : elimAt A k i0 j0 i0 j0 = A i0 j0 := by
  unfold elimAt; rw [if_neg (by omega)]

theorem Vec.made {w : World} {base g n : Nat} (h : w.ownsRow base 38 1 (.slice (some ⟨g, 0, none⟩) n n) n (madeCells (Value.float .f32 0).cells (n * 1)).toList) : Vec w g n (fun _ => some 0) := by
  obtain ⟨cs, hb, e1, e2, e3⟩ := blk_of_row h
  refine ⟨fun i hi => ⟨0, ?_, cn_zero⟩, fun i hi => hb.frozen i⟩
  rw [hb.cell i]
  have h2 : (madeCells (Value.float .f32 0).cells (n * 1)).toList[i]? = some (.float .f32 0) := by
    have : (madeCells (Value.float .f32 0).cells (n * 1)) = (Array.range (n * 1)).map fun _ => Value.float .f32 0 := by
      unfold madeCells
      congr 1
      funext j
      show (#[Value.float .f32 0])[j % 1]! = _
      rw [Nat.mod_one]; rfl
    rw [this]
    simp [hi]
  rw [← e2, List.getElem?_take, if_pos hi] at h2
  simpa using h2
theorem Vec.lt {w : World} {V n : Nat} {a : Nat → Option Nat} (h : Vec w V n a) (hn : 0 < n) : V < w.heap.size := by
  obtain ⟨x, h1, -⟩ := h.cl 0 hn
  exact World.block_lt_of_cell? w _ h1
theorem Mat.ltR {w : World} {lo R n c : Nat} {g : Nat → Nat} {A : Mx} (h : Mat w lo R g n c A) (hn : 0 < n) : R < w.heap.size := World.block_lt_of_cell? w _ (h.hd 0 hn)
theorem Mat.ltg {w : World} {lo R n c : Nat} {g : Nat → Nat} {A : Mx} (h : Mat w lo R g n c A) {i : Nat} (hi : i < n) (hc : 0 < c) : g i < w.heap.size := by
  obtain ⟨x, h1, -⟩ := h.cl i 0 hi hc
  exact World.block_lt_of_cell? w _ h1
theorem sol_vec {w : World} {O n d i0 x : Nat} {B : Mx} (h : Vec w O n (solO B n d)) (hi : i0 < n) (e : i0 = n - 1 - d) (hx : cn x = opO .quo (leftO B n (solO B n d) i0 d) (B i0 i0)) : Vec (w.setCell ⟨O, i0, none⟩ (.float .f32 x)) O n (solO B n (d + 1)) := by
  refine (h.set_ hi x).eq (fun k _ => ?_)
  subst e
  show updV _ _ _ _ = if k = n - 1 - d then _ else _
  unfold updV
  rw [hx]

/-- What solving equations answers. -/
def SolP (lo n : Nat) (G : Option Mx) (w : World) (e : Ending) (w' : World) : Prop :=
  Below lo w w' ∧ match G with
    | none => e = .returned (.tuple #[.slice none 0 0, .bool false])
    | some B => ∃ O c, e = .returned (.tuple #[.slice (some ⟨O, 0, none⟩) n c, .bool true]) ∧ Vec w' O n (solO B n n)
theorem solP_none {lo n : Nat} {G : Option Mx} {w w' : World} {e : Ending} (h : G = none) (hb : Below lo w w') (he : e = .returned (.tuple #[.slice none 0 0, .bool false])) : SolP lo n G w e w' := by
  subst h; exact ⟨hb, he⟩
theorem solP_some {lo n O c : Nat} {G : Option Mx} {B : Mx} {w w' : World} {e : Ending} (h : G = some B) (hb : Below lo w w') (he : e = .returned (.tuple #[.slice (some ⟨O, 0, none⟩) n c, .bool true])) (hv : Vec w' O n (solO B n n)) : SolP lo n G w e w' := by
  subst h; exact ⟨hb, O, c, he, hv⟩

set_option maxRecDepth 100000 in
set_option maxHeartbeats 4000000 in
theorem l06Solve_any (lo R V n cR cV : Nat) (g : Nat → Nat) (A : Mx) (w : World) (hn : 1 ≤ n) (h5 : n ≤ 5) (hM : Mat w lo R g n n A) (hV : Vec w V n (fun i => A i n)) (hVR : V ≠ R) (hVg : ∀ i, i < n → V ≠ g i) (hVl : lo ≤ V) (hlo : lo ≤ w.heap.size) :
    Calls Try.prog 28 #[.slice (some ⟨R, 0, none⟩) n cR, .slice (some ⟨V, 0, none⟩) n cV] w (SolP lo n (gaussO n A n) w) := by
  have HQ := fun a b w => run_op o4q a b w
  have HM := fun a b w => run_op o4m a b w
  have HSb := fun a b w => run_op o4s a b w
  go_enter Try.func28, Try.ntmps28
  go_wp2
  go_loopw [7, 8, 9, 10, 11, 12, 13, 14] (fun q _ _ _ _ _ _ _ wr => ∃ k : Nat, k ≤ n ∧ q = .int .i64 (k : Int) ∧ ∃ B g', Hid (gaussO n A k = some B) ∧ Mat wr lo R g' n n B ∧ Vec wr V n (fun i => B i n) ∧ Hid (∀ i, i < n → V ≠ g' i) ∧ Below lo w wr) (fun q _ _ _ _ _ _ _ _ => n - (intOf q).toNat)
  case atStart => exact ⟨0, Nat.zero_le _, rfl, A, g, Lib.hid rfl, hM, hV, Lib.hid hVg, Below.refl _ _⟩
  case round =>
    obtain ⟨k, hk, rfl, B, g1, hG, hM1, hV1, hVg1, hbr⟩ := hrel
    clear hM hV hVg
    obtain ⟨wo, rfl⟩ : ∃ wo : World, wo = wr := ⟨_, rfl⟩
    have hsz := hbr.size
    by_cases hlt : k < n
    · go_wp2
      go_loopw [8, 9] (fun bv iv wr => ∃ t : Nat, k + 1 + t ≤ n ∧ iv = .int .i64 (((k + 1 + t : Nat)) : Int) ∧ bv = .int .i64 ((best B k t : Nat) : Int) ∧ ∃ m, wr = wo.drewN m) (fun _ iv _ => n - (intOf iv).toNat)
      case atStart => exact ⟨0, by omega, by go_num, rfl, 0, rfl⟩
      case round =>
        obtain ⟨t, ht, rfl, rfl, m, hW0⟩ := hrel
        have hM2 : Mat wr lo R g1 n n B := by rw [hW0]; exact hM1.drewN m
        have hW := Lib.hid hW0
        clear hW0
        have hbl := best_le B k t
        have hbs : best B k (t + 1) = if bigger B k (k + 1 + t) (best B k t) then k + 1 + t else best B k t := rfl
        generalize hbb : best B k t = b at *
        by_cases hlt2 : k + 1 + t < n
        · have c1 := hM2.hd (k + 1 + t) hlt2
          have c2 := hM2.hd b (by omega)
          obtain ⟨x1, c3, e1⟩ := hM2.cl (k + 1 + t) k hlt2 hlt
          obtain ⟨x2, c4, e2⟩ := hM2.cl b k (by omega) hlt
          obtain ⟨z1, g1', H1⟩ := l06Size_any x1
          obtain ⟨z2, g2', H2⟩ := l06Size_any x2
          have hcmp := mg_cmp g1' g2'
          rw [e1, e2] at hcmp
          have hbg : (FloatKind.f32.format.order z1 z2 == some .gt) = bigger B k (k + 1 + t) b := by rw [hcmp]; rfl
          have HH1 := Lib.hid H1
          have HH2 := Lib.hid H2
          clear H1 H2 hcmp g1' g2' e1 e2
          generalize hib : k + 1 + t = i1 at *
          cases hbo : bigger B k i1 b with
          | true =>
            rw [hbo] at hbg hbs
            clear hM2
            go_wp2_with fail
            go_quiet ((go_at_call 50; first | exact Calls.quiet_of_same (HH1.out _) | exact Calls.quiet_of_same (HH2.out _)))
            go_wp2
            subst hib
            exact ⟨⟨t + 1, by omega, by go_num, by rw [hbs]; rfl, m + nq, by rw [hW.out, World.drewN_drewN]⟩, by simp [intOf]; omega⟩
          | false =>
            rw [hbo] at hbg hbs
            clear hM2
            go_wp2_with fail
            go_quiet ((go_at_call 50; first | exact Calls.quiet_of_same (HH1.out _) | exact Calls.quiet_of_same (HH2.out _)))
            go_wp2
            subst hib
            exact ⟨⟨t + 1, by omega, by go_num, by rw [hbs]; rfl, m + nq, by rw [hW.out, World.drewN_drewN]⟩, by simp [intOf]; omega⟩
        · have htn : t = n - 1 - k := by omega
          have hkt : k + 1 + t = n := by omega
          rw [hkt]
          rw [htn] at hbb
          have hbn : b < n := by omega
          have hpv : pivot n B k = swapM B b k := by rw [swapM_comm, pivot, hbb]
          have hV2 : Vec wr V n (fun i => B i n) := by rw [hW.out]; exact hV1.drewN m
          have hbw : Below lo w wr := by rw [hW.out]; exact below_drewN hbr m
          obtain ⟨xk, ck, ek⟩ := hV2.cl k hlt
          obtain ⟨xb, cb, eb⟩ := hV2.cl b hbn
          have fk := hV2.cf k hlt
          have fb' := hV2.cf b hbn
          obtain ⟨q1, q2, q3, q4, hM4, hV4⟩ := swap_sys hM2 hV2 hVR hVg1.out hlt hbn ck ek cb eb
          have c1 := hM2.hd b hbn
          have c2 := hM2.hd k hlt
          have f1 := hM2.hf b hbn
          have f2 := hM2.hf k hlt
          have hlR := hM2.lowR
          have hb4 : Below lo w ((((wr.setCell ⟨R, b, none⟩ (hdr n (g1 k))).setCell ⟨R, k, none⟩ (hdr n (g1 b))).setCell ⟨V, b, none⟩ (.float .f32 xk)).setCell ⟨V, k, none⟩ (.float .f32 xb)) := below_set (below_set (below_set (below_set hbw hlR _) hlR _) hVl _) hVl _
          have c5 := hM4.hd k hlt
          obtain ⟨xp, c6, e6⟩ := hM4.cl k k hlt hlt
          have hVg4 : Hid (∀ i, i < n → V ≠ g1 (swp b k i)) := fun i hi => hVg1.out _ (swp_lt hbn hlt hi)
          have hzz := isZ_order xp
          rw [e6, ← hpv] at hzz
          rw [← hpv] at hM4
          have hV5 := hV4.eq (a' := fun i => pivot n B k i n) (fun i hi => by rw [hpv]; rfl)
          have hst := gauss_step hG.out
          clear hV2 hM2 e6 eb ek hV4 hbw hM1 hV1 hbs hbl
          unfold hdr at *
          cases hz : isZ (pivot n B k k k) with
          | true =>
            rw [hz] at hzz
            rw [hz, if_pos rfl] at hst
            have hno := gauss_none n A (k + 1) hst (n - (k + 1))
            rw [show k + 1 + (n - (k + 1)) = n by omega] at hno
            clear hM4 hV5
            go_wp2
            go_ret2
            exact solP_none hno hb4 rfl
          | false =>
            rw [hz] at hzz
            rw [hz, if_neg (by simp)] at hst
            have hst := Lib.hid hst
            obtain ⟨g2, hg2⟩ : ∃ g2, g2 = fun i => g1 (swp b k i) := ⟨_, rfl⟩
            rw [← hg2] at hM4
            have hVg5 : Hid (∀ i, i < n → V ≠ g2 i) := by rw [hg2]; exact hVg4
            clear hVg4 hVg1 hg2 hpv hG hW hbb
            go_wp2
            generalize pivot n B k = C at *
            have hM5 := hM4.eq (A' := elimAt C k (k + 1) (k + 1)) (fun i j _ _ => (elim_begin C k i j).symm)
            have hV6 := hV5.eq (a' := fun i => elimAt C k (k + 1) (k + 1) i n) (fun i _ => (elim_begin C k i n).symm)
            go_loopw [12, 13, 14] (fun iv _ _ wr => ∃ i0 : Nat, k + 1 ≤ i0 ∧ i0 ≤ n ∧ iv = .int .i64 (i0 : Int) ∧ Mat wr lo R g2 n n (elimAt C k i0 (k + 1)) ∧ Vec wr V n (fun i => elimAt C k i0 (k + 1) i n) ∧ Below lo w wr) (fun iv _ _ _ => n - (intOf iv).toNat)
            case atStart => exact ⟨k + 1, Nat.le_refl _, hlt, by go_num, hM5, hV6, hb4⟩
            case round =>
              obtain ⟨i0, hi1, hi2, rfl, hM6, hV7, hb6⟩ := hrel
              clear hM5 hV6 hb4 hM4 hV5 hzz c5 c6 q1 q2 q3 q4 c1 c2 f1 f2 ck cb fk fb'
              obtain ⟨w6, rfl⟩ : ∃ w6 : World, w6 = wr := ⟨_, rfl⟩
              by_cases hlt6 : i0 < n
              · have d1 := hM6.hd i0 hlt6
                have d2 := hM6.hd k hlt
                obtain ⟨x1, d3, e3⟩ := hM6.cl i0 k hlt6 hlt
                obtain ⟨x2, d4, e4⟩ := hM6.cl k k hlt hlt
                rw [elim_col] at e3 e4
                go_wp2_with fail
                go_region_held (fun w' => w'.cell? ⟨R, i0, none⟩ = some (.slice (some ⟨g2 i0, 0, none⟩) n n) ∧ w'.cell? ⟨R, k, none⟩ = some (.slice (some ⟨g2 k, 0, none⟩) n n) ∧ w'.cell? ⟨g2 i0, k, none⟩ = some (.float .f32 x1) ∧ w'.cell? ⟨g2 k, k, none⟩ = some (.float .f32 x2)) (go_keep) (fail)
                have hf : cn (opB .quo x1 x2 w6.drew) = opO .quo (C i0 k) (C k k) := by rw [cn_op o4q, e3, e4]
                have hM7 : Mat (w6.drewN (1 + opN .quo x1 x2)) lo R g2 n n (elimAt C k i0 (k + 1)) := hM6.drewN _
                have hV8 : Vec (w6.drewN (1 + opN .quo x1 x2)) V n (fun i => elimAt C k i0 (k + 1) i n) := hV7.drewN _
                have hb7 : Below lo w (w6.drewN (1 + opN .quo x1 x2)) := below_drewN hb6 _
                clear hM6 hV7 hb6 d1 d2 d3 d4 e3 e4
                generalize opB .quo x1 x2 w6.drew = f at *
                generalize w6.drewN (1 + opN .quo x1 x2) = w7 at *
                go_wp2
                go_loopw [14] (fun jv wr => ∃ j0 : Nat, k + 1 ≤ j0 ∧ j0 ≤ n ∧ jv = .int .i64 (j0 : Int) ∧ Mat wr lo R g2 n n (elimAt C k i0 j0) ∧ Vec wr V n (fun i => elimAt C k i0 (k + 1) i n) ∧ Below lo w wr) (fun jv _ => n - (intOf jv).toNat)
                case atStart => exact ⟨k + 1, Nat.le_refl _, hlt, by go_num, hM7, hV8, hb7⟩
                case round =>
                  obtain ⟨j0, hj1, hj2, rfl, hM8, hV9, hb8⟩ := hrel
                  clear hM7 hV8 hb7
                  obtain ⟨w8, rfl⟩ : ∃ w8 : World, w8 = wr := ⟨_, rfl⟩
                  by_cases hlt8 : j0 < n
                  · have d1 := hM8.hd i0 hlt6
                    have d2 := hM8.hd k hlt
                    obtain ⟨y1, d3, e3⟩ := hM8.cl i0 j0 hlt6 hlt8
                    obtain ⟨y2, d4, e4⟩ := hM8.cl k j0 hlt hlt8
                    rw [elim_row] at e4
                    have d5 := hM8.cf i0 j0 hlt6 hlt8
                    have n1 := hM8.ne i0 hlt6
                    have n2 : g2 i0 ≠ g2 k := fun e => absurd (hM8.inj i0 k hlt6 hlt e) (by omega)
                    have hx : ∀ W W', cn (opB .sub y1 (opB .mul f y2 W) W') = opO .sub (elimAt C k i0 j0 i0 j0) (opO .mul (opO .quo (C i0 k) (C k k)) (C k j0)) := fun W W' => by rw [cn_op o4s, cn_op o4m, hf, e3, e4]
                    have hgV := hVg5.out i0 hlt6
                    have hlg := hM8.low i0 hlt6
                    go_wp2_with fail
                    go_region
                    all_goals
                      go_wp2
                      exact ⟨⟨j0 + 1, by omega, by omega, by go_num, elim_mat (hM8.drewN _) hlt6 hlt8 (by omega) (by omega) (hx _ _), (hV9.drewN _).other (fun e => hgV e.symm) _, below_set (below_drewN hb8 _) hlg _⟩, by simp [intOf]; omega⟩
                  · obtain rfl : n = j0 := by omega
                    obtain ⟨y1, d3, e3⟩ := hV9.cl i0 hlt6
                    obtain ⟨y2, d4, e4⟩ := hV9.cl k hlt
                    rw [elim_row] at e4
                    have e3' : cn y1 = C i0 n := by rw [e3]; unfold elimAt; rw [if_neg (by omega)]
                    have d5 := hV9.cf i0 hlt6
                    have hx : ∀ W W', cn (opB .sub y1 (opB .mul f y2 W) W') = opO .sub (C i0 n) (opO .mul (opO .quo (C i0 k) (C k k)) (C k n)) := fun W W' => by rw [cn_op o4s, cn_op o4m, hf, e3', e4]
                    have hgV := hVg5.out
                    have hM9 := hM8.eq (A' := elimAt C k (i0 + 1) (k + 1)) (fun i j _ hj => elim_done C k i0 n i j hj)
                    clear hM8 e3 e3' e4
                    go_wp2_with fail
                    go_region
                    all_goals
                      go_wp2
                      exact ⟨⟨i0 + 1, by omega, by omega, by go_num, (hM9.drewN _).other hVR hgV _, elim_vec (hV9.drewN _) hlt6 (by omega) hlt (hx _ _), below_set (below_drewN hb8 _) hVl _⟩, by simp [intOf]; omega⟩
              · obtain rfl : n = i0 := by omega
                have hM7 := hM6.eq (A' := elimAt C k n 0) (fun i j hi _ => elim_end C k n n (Nat.le_refl _) i j hi)
                have hV8 := hV7.eq (a' := fun i => elimAt C k n 0 i n) (fun i hi => elim_end C k n n (Nat.le_refl _) i n hi)
                clear hM6 hV7
                go_wp2
                exact ⟨⟨k + 1, by omega, by go_num, _, g2, hst, hM7, hV8, hVg5, hb6⟩, by simp [intOf]; omega⟩
    · obtain rfl : n = k := by omega
      obtain ⟨i00, hi, hz0, hz1, hz2⟩ := info_parts infoF
      have hRlt := hM1.ltR hn
      have hVlt := hV1.lt hn
      have hglt := fun i (hi : i < n) => hM1.ltg hi hn
      go_wp2_with (at_make; refine wpList_make_full _ rfl _ _ _ rfl wo.heap.size 38 i00 (.float .f32 0) 1 Try.underlying22 hi hz0 hz1 .i64 .i64 _ _ n rfl rfl rfl rfl (by rw [hz2]; omega) (by unfold maxLen; omega) (Nat.le_refl _) ?_; intro w1 hown hg)
      have hb1 : Below wo.heap.size wo w1 := (Below.refl _ _).grown hg (Nat.le_refl _) (by simp)
      have hO := Vec.made hown
      have hM2 := hM1.keep hb1
      have hV2 := hV1.keep hb1
      have hb2 := hbr.trans (hb1.mono (Nat.le_trans hlo hsz))
      have hgO : Hid (∀ i, i < n → wo.heap.size ≠ g1 i) := fun i hi => Nat.ne_of_gt (hglt i hi)
      have hRO : wo.heap.size ≠ R := Nat.ne_of_gt hRlt
      have hVO : wo.heap.size ≠ V := Nat.ne_of_gt hVlt
      have hlO : lo ≤ wo.heap.size := Nat.le_trans hlo hsz
      generalize wo.heap.size = O at *
      clear hM1 hV1 hbr hglt hown hg hVg1
      go_loopw [16, 17, 18] (fun iv _ _ wr => ∃ d : Nat, d ≤ n ∧ iv = .int .i64 ((n : Int) - 1 - (d : Int)) ∧ Mat wr lo R g1 n n B ∧ Vec wr V n (fun i => B i n) ∧ Vec wr O n (solO B n d) ∧ Below lo w wr) (fun iv _ _ _ => ((intOf iv) + 1).toNat)
      case atStart => exact ⟨0, Nat.zero_le _, by go_num, hM2, hV2, hO, hb2⟩
      case round =>
        obtain ⟨d, hd, rfl, hM3, hV3, hO3, hb3⟩ := hrel
        clear hM2 hV2 hO hb2 hb1
        obtain ⟨w3, rfl⟩ : ∃ w3 : World, w3 = wr := ⟨_, rfl⟩
        by_cases hltd : d < n
        · obtain ⟨i0, hi0⟩ : ∃ i0, i0 = n - 1 - d := ⟨_, rfl⟩
          have hiz : (n : Int) - 1 - (d : Int) = (i0 : Int) := by omega
          have hin : i0 < n := by omega
          obtain ⟨y0, c0, e0⟩ := hV3.cl i0 hin
          rw [hiz]
          clear hiz
          replace hi0 := Lib.hid hi0
          go_wp2
          go_loopw [17, 18] (fun xv jv wr => ∃ t z j : Nat, t ≤ d ∧ Hid (j = i0 + 1 + t) ∧ j ≤ n ∧ i0 < j ∧ jv = .int .i64 (j : Int) ∧ xv = .float .f32 z ∧ Hid (cn z = leftO B n (solO B n d) i0 t) ∧ ∃ m, wr = w3.drewN m) (fun _ jv _ => n - (intOf jv).toNat)
          case atStart => exact ⟨0, y0, i0 + 1, Nat.zero_le _, rfl, hin, Nat.lt_succ_self _, by go_num, rfl, e0, 0, rfl⟩
          case round =>
            obtain ⟨t, z, j, ht, hj, hjn0, hij, rfl, rfl, hz, m, hW0⟩ := hrel
            have hM4 : Mat wr lo R g1 n n B := by rw [hW0]; exact hM3.drewN m
            have hO4 : Vec wr O n (solO B n d) := by rw [hW0]; exact hO3.drewN m
            have hb4 : Below lo w wr := by rw [hW0]; exact below_drewN hb3 m
            have hV4 : Vec wr V n (fun i => B i n) := by rw [hW0]; exact hV3.drewN m
            have hW := Lib.hid hW0
            clear hW0 c0 e0
            obtain ⟨w4, rfl⟩ : ∃ w4 : World, w4 = wr := ⟨_, rfl⟩
            by_cases hltt : t < d
            · have hjn : j < n := by have := hi0.out; have := hj.out; omega
              have d1 := hM4.hd i0 hin
              obtain ⟨y1, d3, e3⟩ := hM4.cl i0 j hin hjn
              obtain ⟨y2, d4, e4⟩ := hO4.cl j hjn
              have hx : ∀ W W', cn (opB .sub z (opB .mul y1 y2 W) W') = leftO B n (solO B n d) i0 (t + 1) := fun W W' => by rw [cn_op o4s, cn_op o4m, hz.out, e3, e4, hj.out]; rfl
              clear e3 e4 hM3 hV3 hO3 hM4 hO4 hV4
              go_wp2_with fail
              go_region_held (fun w' => w'.cell? ⟨R, i0, none⟩ = some (.slice (some ⟨g1 i0, 0, none⟩) n n) ∧ w'.cell? ⟨g1 i0, j, none⟩ = some (.float .f32 y1) ∧ w'.cell? ⟨O, j, none⟩ = some (.float .f32 y2)) (go_keep) (fail)
              go_wp2
              go_roundw
              case rel => exact ⟨t + 1, _, j + 1, by omega, (by have := hj.out; show _ = _; omega), hjn, by omega, by go_num, rfl, hx _ _, _, by rw [hW.out, World.drewN_drewN]⟩
              case measure => (simp [intOf]; all_goals omega)
            · obtain rfl : t = d := by omega
              have hnn : n ≤ j := by have := hi0.out; have := hj.out; omega
              have d1 := hM4.hd i0 hin
              obtain ⟨y1, d3, e3⟩ := hM4.cl i0 i0 hin hin
              obtain ⟨y2, d4, e4⟩ := hO4.cl i0 hin
              have d5 := hO4.cf i0 hin
              have hx : ∀ W, cn (opB .quo z y1 W) = opO .quo (leftO B n (solO B n t) i0 t) (B i0 i0) := fun W => by rw [cn_op o4q, hz.out, e3]
              clear e3 e4 hM3 hV3 hO3
              go_wp2
              go_roundw
              case rel => exact ⟨t + 1, by omega, (by have := hi0.out; congr 1; omega), (hM4.drewN _).other hRO hgO.out _, (hV4.drewN _).other hVO _, sol_vec (hO4.drewN _) hin hi0.out (hx _), below_set (below_drewN hb4 _) hlO _⟩
              case measure => (simp [intOf]; all_goals omega)
        · obtain rfl : n = d := by omega
          go_wp2
          go_ret2
          exact solP_some hG.out hb3 rfl hO3
end Go.Proofs.Ytakkmcplhihjiaa
