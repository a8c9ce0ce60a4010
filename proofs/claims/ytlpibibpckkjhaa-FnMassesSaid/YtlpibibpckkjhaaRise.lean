/-
  The polynomial that rises as another one says, by values (impl.RisePoly).
-/
import Derived.Test.YtlpibibpckkjhaaLong
import Derived.Test.YtlpibibpckkjhaaFitI
namespace Go.Proofs.Ytlpibibpckkjhaa
open Go.RowKit

/-- The number that a 32-bit word says. -/
def V32 (x : Nat) : Rat := dv (FloatKind.f32.format.read x)
theorem nv_of_fin {x : Nat} (h : fin32B x = true) : NV .f32 x (V32 x) := by
  obtain ⟨s, m, i, hr, -⟩ := fin_number h
  refine ⟨s, m, i, hr, ?_⟩
  unfold V32
  rw [hr]
  rfl
theorem nv_val {x : Nat} {a : Rat} (h : NV .f32 x a) : a = V32 x := by
  obtain ⟨s, m, i, hr, rfl⟩ := h
  unfold V32
  rw [hr]
  rfl
/-- 1 by k + 1 as a word. -/
def invW (k : Nat) : Nat := (floatBits .quo .f32 1065353216 (floatOfInt .f32 ((k : Int) + 1))).getD 0
theorem inv_ok (k : Nat) (h : k < 8) : floatBits .quo .f32 1065353216 (floatOfInt .f32 ((k : Int) + 1)) = some (invW k) ∧ fin32B (invW k) = true ∧
    (V32 (invW k) * ((k + 1 : Nat) : Rat) ≤ 1 + 1 / 4000000 ∧ 1 ≤ V32 (invW k) * ((k + 1 : Nat) : Rat) + 1 / 4000000) ∧ 0 ≤ V32 (invW k) ∧ V32 (invW k) ≤ 1 := by
  have key : ∀ k ∈ List.range 8, floatBits .quo .f32 1065353216 (floatOfInt .f32 ((k : Int) + 1)) = some (invW k) ∧ fin32B (invW k) = true ∧
    (V32 (invW k) * ((k + 1 : Nat) : Rat) ≤ 1 + 1 / 4000000 ∧ 1 ≤ V32 (invW k) * ((k + 1 : Nat) : Rat) + 1 / 4000000) ∧ 0 ≤ V32 (invW k) ∧ V32 (invW k) ≤ 1 := by decide +kernel
  exact key k (List.mem_range.2 h)
/-- The terms of the rise, made up to term k. -/
structure RiseT (L : List (Nat × Nat)) (re' im' re im : Nat → Rat) (k : Nat) : Prop where
  len : L.length = k + 1
  nv : ∀ i, i < k + 1 → NV .f32 (L.getD i (0, 0)).1 (re' i) ∧ NV .f32 (L.getD i (0, 0)).2 (im' i)
  z : re' 0 = 0 ∧ im' 0 = 0
  r : ∀ i, i < k → Nr (re' (i + 1) * ((i + 1 : Nat) : Rat)) (re i) (1 / 20000) ∧ Nr (im' (i + 1) * ((i + 1 : Nat) : Rat)) (im i) (1 / 20000)
theorem rise_one {a v w : Rat} {k : Nat} (hk : k < 8) (ha : -4 ≤ a) (ha2 : a ≤ 4) (hw : w = V32 (invW k)) (hv : Nr v (a * w) (1 / 262144)) : Nr (v * ((k + 1 : Nat) : Rat)) a (1 / 20000) := by
  obtain ⟨-, -, ⟨i1, i2⟩, -, -⟩ := inv_ok k hk
  rw [← hw] at i1 i2
  have h8 := nat_le_rat (show k + 1 ≤ 8 by omega)
  have h0 := nat_le_rat (Nat.zero_le (k + 1))
  have e8 : ((8 : Nat) : Rat) = 8 := rfl
  have e0 : ((0 : Nat) : Rat) = 0 := rfl
  rw [e8] at h8
  rw [e0] at h0
  generalize ((k + 1 : Nat) : Rat) = K at *
  unfold Nr at hv ⊢
  -- v K within K / 262144 of a w K, and that within 4 / 4000000 of a
  have m1 := Rat.mul_le_mul_of_nonneg_right hv.1 h0
  have m2 := Rat.mul_le_mul_of_nonneg_right hv.2 h0
  have d1 := Rat.mul_nonneg (show (0 : Rat) ≤ 4 - a by grind) (show (0 : Rat) ≤ 1 / 4000000 - (w * K - 1) by grind)
  have d2 := Rat.mul_nonneg (show (0 : Rat) ≤ 4 + a by grind) (show (0 : Rat) ≤ 1 / 4000000 - (w * K - 1) by grind)
  have d3 := Rat.mul_nonneg (show (0 : Rat) ≤ 4 - a by grind) (show (0 : Rat) ≤ 1 / 4000000 + (w * K - 1) by grind)
  have d4 := Rat.mul_nonneg (show (0 : Rat) ≤ 4 + a by grind) (show (0 : Rat) ≤ 1 / 4000000 + (w * K - 1) by grind)
  constructor <;> grind
theorem riseT_snoc {L : List (Nat × Nat)} {re' im' re im : Nat → Rat} {k p q : Nat} {π κ : Rat} (h : RiseT L re' im' re im k) (hp : NV .f32 p π) (hq : NV .f32 q κ) (h1 : Nr (π * ((k + 1 : Nat) : Rat)) (re k) (1 / 20000)) (h2 : Nr (κ * ((k + 1 : Nat) : Rat)) (im k) (1 / 20000)) :
    ∃ re2 im2, RiseT (L ++ [(p, q)]) re2 im2 re im (k + 1) := by
  refine ⟨fun i => if i = k + 1 then π else re' i, fun i => if i = k + 1 then κ else im' i, by simp [h.len], fun i hi => ?_, ?_, fun i hi => ?_⟩
  · rcases Nat.lt_or_ge i (k + 1) with hlt | hge
    · have e : (L ++ [(p, q)]).getD i (0, 0) = L.getD i (0, 0) := by simp [List.getD, List.getElem?_append_left (show i < L.length by rw [h.len]; exact hlt)]
      rw [e]
      simp only [show ¬ (i = k + 1) by omega, if_false]
      exact h.nv i hlt
    · obtain rfl : i = k + 1 := by omega
      have e : (L ++ [(p, q)]).getD (k + 1) (0, 0) = (p, q) := by rw [← h.len]; simp [List.getD]
      rw [e]
      simp only [if_true]
      exact ⟨hp, hq⟩
  · simp only [show ¬ (0 = k + 1) by omega, if_false]
    exact h.z
  · rcases Nat.lt_or_ge i k with hlt | hge
    · simp only [show ¬ (i + 1 = k + 1) by omega, if_false]
      exact h.r i hlt
    · obtain rfl : i = k := by omega
      simp only [if_true]
      exact ⟨h1, h2⟩
/-- What the rise's terms are as a list of terms: valid, none left out. -/
theorem riseT_valid {L : List (Nat × Nat)} {re' im' re im : Nat → Rat} {n : Nat} (h : RiseT L re' im' re im n) (hn1 : 1 ≤ n) (hn : n ≤ 8) (hlast : 1 / 2 ≤ re (n - 1)) : trimN L (n + 1) = n + 1 ∧ polyB L = true := by
  obtain ⟨v1, v2⟩ := h.nv n (by omega)
  have hr := (h.r (n - 1) (by omega)).2
  unfold Nr at *
  have hr1 := (h.r (n - 1) (by omega)).1
  unfold Nr at hr1
  rw [show n - 1 + 1 = n by omega] at hr1
  have h8 := nat_le_rat hn
  have h1 := nat_le_rat hn1
  have e8 : ((8 : Nat) : Rat) = 8 := rfl
  have e1 : ((1 : Nat) : Rat) = 1 := rfl
  rw [e8] at h8
  rw [e1] at h1
  have hpos : 0 < re' n := by
    rcases (show 0 < re' n ∨ 0 ≤ -re' n by grind) with h2 | h2
    · exact h2
    · exfalso
      have := Rat.mul_nonneg h2 (show (0 : Rat) ≤ ((n : Nat) : Rat) by grind)
      grind
  have ho := (order_val .f32 v1 nv_zero).2.2 hpos
  have hz : zeroC (L.getD n (0, 0)) = false := by
    unfold zeroC
    rw [ho]
    rfl
  constructor
  · rw [trimN, hz, Bool.and_false, if_neg (by simp)]
  · have hall : L.all finCB = true := by
      refine List.all_eq_true.2 fun z hz2 => ?_
      obtain ⟨i, hi, rfl⟩ := List.mem_iff_getElem.1 hz2
      obtain ⟨u1, u2⟩ := h.nv i (by rw [h.len] at hi; exact hi)
      have e : L.getD i (0, 0) = L[i] := by rw [List.getD, List.getElem?_eq_getElem hi]; rfl
      rw [e] at u1 u2
      unfold finCB
      rw [nv_fin u1, nv_fin u2]; rfl
    unfold polyB
    rw [h.len, hall, Nat.add_sub_cancel, hz]
    simp; omega

set_option maxRecDepth 100000 in
set_option maxHeartbeats 1600000 in
theorem risePoly_v (A : Option Addr) (c n : Nat) (l : List (Nat × Nat)) (hl : l.length = n) (re im : Nat → Rat) (hT : Trms l re im 4) (hn1 : 1 ≤ n) (hn : n ≤ 8) (hv : polyB l = true) (hlast : 1 / 2 ≤ re (n - 1)) (w : World) (hr : Reads w w.heap.size 1 A n (cplx l)) :
    Calls Try.prog 70 #[.agg #[.slice A n c]] w fun e w' => ∃ g c' L re' im', e = .returned (.tuple #[.agg #[.slice (some ⟨g, 0, none⟩) (n + 1) c'], .bool true]) ∧ RiseT L re' im' re im n ∧ Own w' w.heap.size w'.heap.size 36 (some ⟨g, 0, none⟩) (cplx L) ∧ Below w.heap.size w w' := by
  subst hl
  obtain ⟨i0, hi, hz0, hz1, hz2⟩ := info_parts infoC
  have hb0 : Below w.heap.size w ((w.alloc (.cells #[.slice A l.length c] 33)).alloc (.cells #[.slice none 0 0] 33)) := ((Below.refl _ _).alloc (Nat.le_refl _) _).alloc (by simp) _
  have hP0 := (Blk.new w 33 #[.slice A l.length c]).alloc (.cells #[.slice none 0 0] 33)
  have hR0 : Blk ((w.alloc (.cells #[.slice A l.length c] 33)).alloc (.cells #[.slice none 0 0] 33)) (w.heap.size + 1) 33 #[.slice none 0 0] := by
    have h := Blk.new (w.alloc (.cells #[.slice A l.length c] 33)) 33 #[.slice none 0 0]
    simpa using h
  have HV := validPoly_b A c w.heap.size l _ (hr.below hb0) hb0.size (by omega)
  rw [hv] at HV
  replace hT := Lib.hid hT
  replace hlast := Lib.hid hlast
  clear hv
  go_enter Try.func70, Try.ntmps70
  go_wp2_with fail
  (with_reducible refine HV.mono ?_)
  rintro e w1 ⟨rfl, hb1⟩
  clear HV
  have z1 := hb1.size
  simp only [World.size_alloc] at z1
  have hP1 := hP0.below hb1 (by simp; omega)
  have hR1 := hR0.below hb1 (by simp)
  have hb2 := hb0.trans (hb1.mono (by simp; omega))
  clear hP0 hR0 hb0 hb1
  have cP : (w1.alloc (.cells #[.complex .f32 0 0] 36)).cell? ⟨w.heap.size, 0, none⟩ = some (.slice A l.length c) := (hP1.alloc _).cell 0
  go_wp2
  have hown0 : (w1.alloc (.cells #[.complex .f32 0 0] 36)).ownsRow (w.heap.size + 2) 36 1 (.slice (some ⟨w1.heap.size, 0, none⟩) 1 1) 1 (cplx [(0, 0)]) := ⟨rfl, .inr ⟨w1.heap.size, 1, #[.complex .f32 0 0], rfl, by omega, heap_alloc_new w1 _, by omega, by simp [maxLen], rfl, rfl⟩⟩
  have hT0 : Hid (∃ re' im', RiseT [(0, 0)] re' im' re im 0) := by
    refine ⟨fun _ => 0, fun _ => 0, rfl, fun i hi => ?_, ⟨rfl, rfl⟩, fun i hi => absurd hi (Nat.not_lt_zero _)⟩
    obtain rfl : i = 0 := by omega
    exact ⟨nv_zero, nv_zero⟩
  have hb3 : Below w.heap.size w (w1.alloc (.cells #[.complex .f32 0 0] 36)) := hb2.alloc (by omega) _
  have hR2 := hR1.alloc (.cells #[.complex .f32 0 0] 36)
  go_loopw [4, 5, 6, 15] (fun v _ _ q wr => ∃ k : Nat, k ≤ l.length ∧ q = .int .i64 (k : Int) ∧ (∃ L, Hid (∃ re' im', RiseT L re' im' re im k) ∧ wr.ownsRow (w.heap.size + 2) 36 1 v (k + 1) (cplx L)) ∧ Blk wr (w.heap.size + 1) 33 #[.slice none 0 0] ∧ Below w.heap.size w wr) (fun _ _ _ q _ => l.length - (intOf q).toNat)
  case atStart => exact ⟨0, Nat.zero_le _, rfl, ⟨_, hT0, hown0⟩, hR2, hb3⟩
  case round =>
    obtain ⟨k, hk, rfl, ⟨L, hL, hown⟩, hR, hbr⟩ := hrel
    clear hown0 hT0 hb3 hR2 hP1 hR1 hb2 cP
    obtain ⟨wo, rfl⟩ : ∃ wo : World, wo = wr := ⟨_, rfl⟩
    have hsz := hR.lt
    obtain ⟨B1, d1, rfl, -, -, -⟩ := Own.of_row hown (Nat.le_refl _)
    by_cases hlt : k < l.length
    · obtain ⟨t1, t2, t3, t4⟩ := hT.out k hlt
      obtain ⟨q1, q2, q3, q4, q5⟩ := inv_ok k (by omega)
      have m1 := small_mul (x := V32 (invW k)) t3.1 t3.2 (by grind) q5
      have m2 := small_mul (x := V32 (invW k)) t4.1 t4.2 (by grind) q5
      obtain ⟨p, q, π, κ, n1, n2, e1, e2, HS⟩ := scale_v t1 t2 (nv_of_fin q2) (by unfold Bd; grind) (by unfold Bd; grind)
      have r1 := rise_one (k := k) (by omega) t3.1 t3.2 rfl e1
      have r2 := rise_one (k := k) (by omega) t4.1 t4.2 rfl e2
      have hL2 : Hid (∃ re' im', RiseT (L ++ [(p, q)]) re' im' re im (k + 1)) := by
        obtain ⟨re', im', h⟩ := hL.out
        exact riseT_snoc h n1 n2 r1 r2
      obtain ⟨ad, rfl, hab, hc1⟩ := comp_at (hr.below hbr) hlt
      have j1 := ar32 _ _ _ _ q1
      have jc := fun w => run_convert_int_float (P := Try.prog) w 3 25 .i64 .f32 ((k : Int) + 1) (by rw [Try.underlying3]; rfl) Try.underlying25
      clear t1 t2 t3 t4 q1 q2 q3 q4 q5 m1 m2 n1 n2 e1 e2 r1 r2 hL
      generalize (l.getD k (0, 0)).1 = x1 at *
      generalize (l.getD k (0, 0)).2 = x2 at *
      generalize invW k = y at *
      go_wp2_with fail
      refine (HS _).mono ?_
      rintro e w2 ⟨rfl, rfl⟩
      go_wp2_with (at_builtin; refine wpList_append_any _ rfl (.tmp 20) (.tmp 27) _ rfl (w.heap.size + 2) 36 i0 _ 1 8 Try.underlying31 hi hz0 hz1 hz2 rfl (by omega) (.slice B1 (k + 1) d1) (k + 1) (cplx L) rfl (hown.alloc _) (w2.heap.size + 1) (some ⟨w2.heap.size, 0, none⟩) 1 1 [.complex .f32 p q] rfl (reads_new w2 [_] _) (one_cplx p q) (by simp only [maxLen]; omega) (by omega) (by simp; have := hown.lt; omega) ?_; intro v1 w3 hown3 hg3 hat3)
      rw [cplx_snoc] at hown3
      have hb4 : Below (w.heap.size + 2) w2 w3 := ((Below.refl _ _).alloc (by omega) _).grown hg3 (by simp; omega) (fun j hj => (hown.lt j hj).1)
      go_roundw
      case rel => exact ⟨k + 1, by omega, by go_num, ⟨_, hL2, hown3⟩, hR.below hb4 (by omega), hbr.trans (hb4.mono (by omega))⟩
      case measure => (simp [intOf]; all_goals omega)
    · obtain rfl : k = l.length := by omega
      obtain ⟨g, cg, eg, -, -⟩ := World.ownsRow.form hown (by omega)
      injection eg with e1 e2 e3
      subst e1 e3
      obtain ⟨re', im', hRT⟩ := hL.out
      obtain ⟨hv1, hv2⟩ := riseT_valid hRT hn1 hn hlast.out
      have hgl := hown.lt g rfl
      obtain ⟨cs2, hBl, -, -, hc3⟩ := blk_of_row hown
      have HO := polyOfN (w.heap.size + 2) g d1 (l.length + 1) L hRT.len wo ((own_row hown).wide hgl.1 hBl.lt) (by omega) (by omega) hc3
      rw [hv1, show L.take (l.length + 1) = L from List.take_of_length_le (by rw [hRT.len]; exact Nat.le_refl _), hv2] at HO
      replace hRT := Lib.hid hRT
      clear hv1 hv2 hown hBl hc3 hL
      go_wp2_with fail
      (with_reducible refine HO.mono ?_)
      rintro e w3 ⟨hP | hP, hb4⟩
      · obtain ⟨-, g', c', rfl, hc', hOw⟩ := hP
        have hR3 := hR.below hb4 (by omega)
        have z4 := hb4.size
        have cR : w3.cell? ⟨w.heap.size + 1, 0, none⟩ = some (.slice none 0 0) := hR3.cell 0
        have fR := hR3.frozen 0
        have hb5 := hbr.trans (hb4.mono (by omega))
        go_wp2
        refine bodyPost_ret (v := .tuple #[.agg #[.slice (some ⟨g', 0, none⟩) (l.length + 1) c'], .bool true]) (by simp [results, Try.results70, go_sem, cR]) rfl ?_
        exact ⟨g', c', L, re', im', rfl, hRT.out, (hOw.keep fun g' b1 b2 _ => Below.heap_setCell _ _ _ _ (by simp; omega)).wide (by omega) (by simp), below_set hb5 (by simp) _⟩
      · exact absurd hP.1 (by simp)
end Go.Proofs.Ytlpibibpckkjhaa
