/-
  Values of 64-bit words; a number's opposite; comparisons by values; one node of the law FnMasses.
  The fits of the law FnMasses: they are found, and their values are near enough.
-/
import Derived.Test.YtlpibibpckkjhaaDraw
import Derived.Test.YtlpibibpckkjhaaFit3
namespace Go.Proofs.Ytlpibibpckkjhaa
open Go.RowKit

def V64 (x : Nat) : Rat := dv (FloatKind.f64.format.read x)
def num64 (x : Nat) : Bool := match FloatKind.f64.format.read x with
  | .number _ _ _ => true
  | _ => false
theorem nv64_of {x : Nat} (h : num64 x = true) : NV .f64 x (V64 x) := by
  unfold num64 at h
  cases e : FloatKind.f64.format.read x with
  | number s m i => exact ⟨s, m, i, e, by unfold V64; rw [e]; rfl⟩
  | infinity s => rw [e] at h; cases h
  | nan s t => rw [e] at h; cases h
theorem nv64_is {x : Nat} {a : Rat} (h : num64 x = true) (hv : V64 x = a) : NV .f64 x a := hv ▸ nv64_of h
theorem nv_001 : NV .f64 4562254508917369340 (1152921504606847 / 1152921504606846976) := nv64_is (by decide +kernel) (by decide +kernel)
theorem nv_01 : NV .f64 4576918229304087675 (5764607523034235 / 576460752303423488) := nv64_is (by decide +kernel) (by decide +kernel)
theorem nv_05 : NV .f64 4587366580439587226 (3602879701896397 / 72057594037927936) := nv64_is (by decide +kernel) (by decide +kernel)
theorem nv64_one : NV .f64 4607182418800017408 1 := nv64_is (by decide +kernel) (by decide +kernel)
theorem nv64_two : NV .f64 4611686018427387904 2 := nv64_is (by decide +kernel) (by decide +kernel)
theorem nv64_zero : NV .f64 0 0 := nv64_is (by decide +kernel) (by decide +kernel)
/-- The opposite of a number. -/
theorem neg_val {k : FloatKind} {x : Nat} {a : Rat} (h : NV k x a) : NV k (Op.negFloat k x) (-a) := by
  obtain ⟨s, m, i, e, rfl⟩ := h
  have hS : k.format.signWeight = 2 ^ (k.format.exponentBits + k.format.fractionBits) := rfl
  have e1 : Op.negFloat k x % k.format.signWeight = x % k.format.signWeight := by
    unfold Op.negFloat
    rw [hS, Nat.xor_mod_two_pow, Nat.mod_self, Nat.xor_zero]
  have e2 : (Op.negFloat k x / k.format.signWeight % 2 == 1) = !(x / k.format.signWeight % 2 == 1) := by
    unfold Op.negFloat
    rw [hS, Nat.xor_div_two_pow, Nat.div_self (Nat.two_pow_pos _)]
    generalize x / 2 ^ (k.format.exponentBits + k.format.fractionBits) = q
    have h1 : (q ^^^ 1) % 2 = q % 2 ^^^ 1 := by
      have := Nat.xor_mod_two_pow (a := q) (b := 1) (n := 1)
      simpa using this
    rw [h1]
    rcases Nat.mod_two_eq_zero_or_one q with h2 | h2 <;> rw [h2] <;> decide
  have e3 : k.format.read (Op.negFloat k x) = (k.format.read x).opposite := by
    unfold Ieee.Format.read
    simp only [e1, e2]
    split
    · rfl
    · split
      · rfl
      · split <;> rfl
  refine ⟨!s, m, i, by rw [e3, e]; rfl, ?_⟩
  rw [opp_val, Rat.intCast_neg]
  grind
section
variable {k : FloatKind} {x y : Nat} {a b : Rat}
theorem gt_no (hx : NV k x a) (hy : NV k y b) (h : a ≤ b) : (k.format.order x y == some .gt) = false := by
  obtain ⟨o1, o2, -⟩ := order_val k hx hy
  rcases (show a < b ∨ a = b by grind) with h | h
  · rw [o1 h]; rfl
  · rw [o2 h]; rfl
theorem lt_yes (hx : NV k x a) (hy : NV k y b) (h : a < b) : (k.format.order x y == some .lt) = true := by
  rw [(order_val k hx hy).1 h]; rfl
theorem lt_no (hx : NV k x a) (hy : NV k y b) (h : b ≤ a) : (k.format.order x y == some .lt) = false := by
  obtain ⟨-, o2, o3⟩ := order_val k hx hy
  rcases (show b < a ∨ a = b by grind) with h | h
  · rw [o3 h]; rfl
  · rw [o2 h]; rfl
theorem le_no (hx : NV k x a) (hy : NV k y b) (h : b < a) : (k.format.order x y == some .lt || k.format.order x y == some .eq) = false := by
  rw [(order_val k hx hy).2.2 h]; rfl
theorem ge_no (hx : NV k x a) (hy : NV k y b) (h : a < b) : (k.format.order x y == some .gt || k.format.order x y == some .eq) = false := by
  rw [(order_val k hx hy).1 h]; rfl
end
/-- What the law asks of a node. -/
structure NodeOk (n k y u g1 x64 m64 g2 : Nat) : Prop where
  at_ : ∀ w, Calls Try.prog 9 #[.int .i64 2, .int .i64 (n : Int), .float .f32 (nodeN n k)] w fun e w' => e = .returned (.tuple #[.float .f32 y, .bool true]) ∧ Below w.heap.size w w'
  wide : floatToFloatBits .f32 y .f64 = some u
  gap1 : ∀ w, Calls Try.prog 12 #[.float .f64 u, .float .f64 0] w fun e w' => e = .returned (.float .f64 g1) ∧ w' = w
  t1 : (FloatKind.f64.format.order g1 4562254508917369340 == some .gt) = false
  t2 : (FloatKind.f32.format.order (nodeW n k) 0 == some .lt || FloatKind.f32.format.order (nodeW n k) 0 == some .eq) = false
  t3 : (FloatKind.f32.format.order (nodeN n k) 1065353216 == some .gt || FloatKind.f32.format.order (nodeN n k) 1065353216 == some .eq) = false
  t4 : (FloatKind.f32.format.order (nodeN n k) 3212836864 == some .lt || FloatKind.f32.format.order (nodeN n k) 3212836864 == some .eq) = false
  t5 : 1 ≤ k → (FloatKind.f32.format.order (nodeN n k) (nodeN n (k - 1)) == some .gt || FloatKind.f32.format.order (nodeN n k) (nodeN n (k - 1)) == some .eq) = false
  wx : floatToFloatBits .f32 (nodeN n k) .f64 = some x64
  wm : floatToFloatBits .f32 (nodeN n (n - 1 - k)) .f64 = some m64
  gap2 : ∀ w, Calls Try.prog 12 #[.float .f64 x64, .float .f64 (Op.negFloat .f64 m64)] w fun e w' => e = .returned (.float .f64 g2) ∧ w' = w
  t6 : (FloatKind.f64.format.order g2 4562254508917369340 == some .gt) = false
theorem node_law (n k : Nat) (h1 : 1 ≤ n) (h8 : n ≤ 8) (hk : k < n) : ∃ y u g1 x64 m64 g2, NodeOk n k y u g1 x64 m64 g2 := by
  obtain ⟨y, v, hy, ⟨b1, b2⟩, HA⟩ := familyAt_v n k h1 h8 hk
  obtain ⟨u, f1, n1⟩ := wide_exact hy
  obtain ⟨g1, c1, m1, -, l1, HG1⟩ := gap_v n1 nv64_zero (by unfold Bd; grind)
  have l2 := l1 (1 / 2000) (by unfold Nr; grind)
  obtain ⟨vx, vw⟩ := node_nv n k h1 h8 hk
  obtain ⟨⟨x1, x2⟩, ⟨w1, w2⟩, ⟨s1, s2⟩, hlt⟩ := node_bd n k h1 h8 hk
  obtain ⟨vm, -⟩ := node_nv n (n - 1 - k) h1 h8 (by omega)
  obtain ⟨x64, f2, n2⟩ := wide_exact vx
  obtain ⟨m64, f3, n3⟩ := wide_exact vm
  obtain ⟨⟨y1, y2⟩, -, -, -⟩ := node_bd n (n - 1 - k) h1 h8 (by omega)
  obtain ⟨g2, c2, m2, -, l3, HG2⟩ := gap_v n2 (neg_val n3) (by unfold Bd; grind)
  have l4 := l3 (1 / 100000) (by unfold Nr; grind)
  refine ⟨y, u, g1, x64, m64, g2, HA, f1, HG1, gt_no m1 nv_001 (by grind), le_no vw nv_zero w1, ge_no vx nv_one (by grind), le_no vx nv_mone (by grind), fun h => ?_, f2, f3, HG2, gt_no m2 nv_001 (by grind)⟩
  have hk1 := node_nv n (k - 1) h1 h8 (by omega)
  exact ge_no vx hk1.1 (hlt h)
theorem wsum_mom (n : Nat) : ∀ j, wSum n j = mom n 0 j
  | 0 => rfl
  | j + 1 => by
    have e1 : wSum n (j + 1) = wSum n j + nW n j := rfl
    have e2 : mom n 0 (j + 1) = mom n 0 j + nW n j * 1 := rfl
    rw [e1, e2, wsum_mom n j]
    grind
theorem wsum_two (n : Nat) (h1 : 1 ≤ n) (h8 : n ≤ 8) : Nr (wSum n n) 2 (1 / 100000) := by
  have h := mom_facts n 0 h1 h8 (by omega) (by omega)
  unfold momFacts at h
  simp only [Bool.and_eq_true, decide_eq_true_eq] at h
  have e : exT 0 = 2 := by decide +kernel
  rw [← wsum_mom, e] at h
  exact h
/-- The sum of the weights so far. -/
def SumAt (n k s : Nat) : Prop := ∃ σ, NV .f64 s σ ∧ Nr σ (wSum n k) (((k : Nat) : Rat) * (1 / 1000000))
theorem sumAt_zero (n : Nat) : SumAt n 0 0 := by
  refine ⟨0, nv64_zero, ?_⟩
  have e0 : ((0 : Nat) : Rat) = 0 := rfl
  have e1 : wSum n 0 = 0 := rfl
  unfold Nr
  rw [e0, e1]
  grind
theorem sumAt_step {n k s : Nat} (h1 : 1 ≤ n) (h8 : n ≤ 8) (hk : k < n) (h : SumAt n k s) : ∃ u s', floatToFloatBits .f32 (nodeW n k) .f64 = some u ∧ floatBits .add .f64 s u = some s' ∧ SumAt n (k + 1) s' := by
  obtain ⟨σ, hs, he⟩ := h
  obtain ⟨-, vw⟩ := node_nv n k h1 h8 hk
  obtain ⟨-, ⟨w1, w2⟩, -, -⟩ := node_bd n k h1 h8 hk
  obtain ⟨b1, b2⟩ := wsum_bd n k h1 h8 (by omega)
  obtain ⟨u, f1, n1⟩ := wide_exact vw
  have hk8 := nat_le_rat (show k ≤ 8 by omega)
  have hk0 := nat_le_rat (Nat.zero_le k)
  have e8 : ((8 : Nat) : Rat) = 8 := rfl
  have e0 : ((0 : Nat) : Rat) = 0 := rfl
  rw [e8] at hk8
  rw [e0] at hk0
  unfold Nr at he
  obtain ⟨s', c, g, n2, e2⟩ := add64 hs n1 (by grind) (by grind)
  refine ⟨u, s', f1, g, c, n2, ?_⟩
  have e3 : wSum n (k + 1) = wSum n k + nW n k := rfl
  rw [e3, nat_succ_rat k]
  unfold Nr at e2 ⊢
  grind
theorem sumAt_last {n s : Nat} (h1 : 1 ≤ n) (h8 : n ≤ 8) (h : SumAt n n s) : ∃ g, (∀ w, Calls Try.prog 12 #[.float .f64 s, .float .f64 4611686018427387904] w fun e w' => e = .returned (.float .f64 g) ∧ w' = w) ∧ (FloatKind.f64.format.order g 4562254508917369340 == some .gt) = false := by
  obtain ⟨σ, hs, he⟩ := h
  have h2 := wsum_two n h1 h8
  have hk8 := nat_le_rat h8
  have e8 : ((8 : Nat) : Rat) = 8 := rfl
  rw [e8] at hk8
  unfold Nr at he h2
  obtain ⟨g, c, m, -, l, HG⟩ := gap_v hs nv64_two (by unfold Bd; grind)
  have := l (1 / 10000) (by unfold Nr; grind)
  exact ⟨g, HG, gt_no m nv_001 (by grind)⟩
/-- The masses' test. -/
theorem mass_test {r s p q l : Nat} {π κ μ ν ζ a b : Rat} (h1 : NV .f32 r π) (h2 : NV .f32 s κ) (h3 : NV .f32 p μ) (h4 : NV .f32 q ν) (e1 : Nr π a (1 / 400)) (e2 : Nr κ b (1 / 400)) (e3 : Nr μ a (1 / 500)) (e4 : Nr ν b (1 / 500)) (hl : NV .f32 l ζ) (l1 : 0 - 1 / 1000 ≤ ζ) (l2 : ζ ≤ 120) :
    ∃ f u v m, (∀ w, Calls Try.prog 18 #[.complex .f32 r s, .complex .f32 p q] w fun e w' => e = .returned (.float .f64 f) ∧ w' = w) ∧ floatToFloatBits .f32 l .f64 = some u ∧ floatBits .add .f64 4607182418800017408 u = some v ∧ floatBits .mul .f64 4576918229304087675 v = some m ∧ (FloatKind.f64.format.order f m == some .gt) = false := by
  unfold Nr at e1 e2 e3 e4
  obtain ⟨f, c, n1, -, hf, HF⟩ := far_v h1 h2 h3 h4 (by unfold Bd; grind) (by unfold Bd; grind)
  have k1 := hf (9 / 2000) (9 / 2000) (by unfold Nr; grind) (by unfold Nr; grind)
  obtain ⟨u, f1, n2⟩ := wide_exact hl
  obtain ⟨v, d, f2, n3, b1⟩ := add64 nv64_one n2 (by grind) (by grind)
  unfold Nr at b1
  obtain ⟨m, t, f3, n4, b2⟩ := mul64 nv_01 n3 (by grind) (by grind)
  unfold Nr at b2
  exact ⟨f, u, v, m, HF, f1, f2, f3, gt_no n1 n4 (by grind)⟩
end Go.Proofs.Ytlpibibpckkjhaa
namespace Go.Proofs.Ytlpibibpckkjhaa
open Go.RowKit

theorem fit_ok (d : Nat) (hd : d ≤ 2) (ts : List Nat) (hl : ts.length = d + 1) (ht : ∀ t ∈ ts, t < 17) : ∃ l, fitAns ((List.range (d + 1)).map xsN) (ts.map qw) (onesN (d + 1)) (d : Int) = some l ∧ GoodF (d + 1) (ts.map qw) l := by
  obtain rfl | rfl | rfl : d = 0 ∨ d = 1 ∨ d = 2 := by omega
  · match ts, hl with
    | [a], _ => exact fitG1 a (ht a (by simp))
  · match ts, hl with
    | [a, b], _ => exact fitG2 a b (ht a (by simp)) (ht b (by simp))
  · match ts, hl with
    | [a, b, c], _ => exact fitG3 a b c (ht a (by simp)) (ht b (by simp)) (ht c (by simp))
theorem xs_nv (k : Nat) : NV .f32 (xsN k) (V32 (xsN k)) ∧ (-1 ≤ V32 (xsN k) ∧ V32 (xsN k) ≤ 1) := by
  obtain ⟨x0, x1, x2⟩ := xs_val
  match k with
  | 0 => exact ⟨by rw [x0]; exact nv_mone, by rw [x0]; grind⟩
  | 1 => exact ⟨by rw [x1]; exact nv_zero, by rw [x1]; grind⟩
  | k + 2 =>
    have e : xsN (k + 2) = xsN 2 := rfl
    rw [e]
    exact ⟨by rw [x2]; exact nv_one, by rw [x2]; grind⟩
/-- What the law asks of a fit at a place. -/
theorem fit_test {n k : Nat} {ts : List Nat} {l : List (Nat × Nat)} (h : GoodF n (ts.map qw) l) (hl : ts.length = n) (ht : ∀ t ∈ ts, t < 17) (hk : k < n) :
    ∃ r s u v g, (∀ (A : Option Addr) (c : Nat) w, Reads w w.heap.size 1 A l.length (cplx l) → Calls Try.prog 11 #[.agg #[.slice A l.length c], .complex .f32 (xsN k) 0] w fun e w' => e = .returned (.tuple #[.complex .f32 r s, .bool true]) ∧ Below w.heap.size w w') ∧
      floatToFloatBits .f32 r .f64 = some u ∧ floatToFloatBits .f32 ((ts.map qw).getD k 0) .f64 = some v ∧ (∀ w, Calls Try.prog 12 #[.float .f64 u, .float .f64 v] w fun e w' => e = .returned (.float .f64 g) ∧ w' = w) ∧ (FloatKind.f64.format.order g 4587366580439587226 == some .gt) = false := by
  obtain ⟨h1, h2, h3, h4, h5⟩ := h
  obtain ⟨vx, x1, x2⟩ := xs_nv k
  obtain ⟨r, s, π, κ, m1, -, m3, -, HP⟩ := polyAt_v l.length (xsN k) l rfl (reV l) (imV l) _ h4 vx x1 x2 h1 (by omega) h3
  rw [hor_all _ _ _ h1] at m3
  have hb := h5 k hk
  have hy : (ts.map qw).getD k 0 = qw (ts.getD k 0) := by
    simp [List.getD, List.getElem?_eq_getElem (show k < ts.length by omega)]
  have htk : ts.getD k 0 < 17 := by
    rw [List.getD, List.getElem?_eq_getElem (show k < ts.length by omega)]
    exact ht _ (List.getElem_mem _)
  obtain ⟨-, f2, y1, y2⟩ := qw_ok _ htk
  rw [hy] at hb ⊢
  unfold Nr at m3 hb
  obtain ⟨u, f3, n3⟩ := wide_exact m1
  obtain ⟨v, f4, n4⟩ := wide_exact (nv_of_fin f2)
  obtain ⟨g, c, n5, -, l5, HG⟩ := gap_v n3 n4 (by unfold Bd; grind)
  have := l5 (11 / 1000) (by unfold Nr; grind)
  exact ⟨r, s, u, v, g, HP, f3, f4, HG, gt_no n5 nv_05 (by grind)⟩
theorem mean_some : ∃ l, fitAns [0, 1065353216, 1073741824] [1065353216, 1073741824, 1086324736] [1065353216, 1065353216, 1065353216] 0 = some l ∧ l.length = 1 ∧ ∃ g, (∀ w, Calls Try.prog 18 #[.complex .f32 (l.getD 0 (0, 0)).1 (l.getD 0 (0, 0)).2, .complex .f32 1077936128 0] w fun e w' => e = .returned (.float .f64 g) ∧ w' = w) ∧ (FloatKind.f64.format.order g 4562254508917369340 == some .lt) = true := by
  have h := mean_ok
  cases hA : fitAns [0, 1065353216, 1073741824] [1065353216, 1073741824, 1086324736] [1065353216, 1065353216, 1065353216] 0 with
  | none => rw [hA] at h; cases h
  | some l =>
    rw [hA] at h
    simp only [Bool.and_eq_true, decide_eq_true_eq, beq_iff_eq] at h
    obtain ⟨⟨⟨⟨a1, a2⟩, a3⟩, a4⟩, a5⟩ := h
    refine ⟨l, rfl, a1, ?_⟩
    obtain ⟨f1, f2⟩ := polyB_fin a5 (k := 0) (by omega)
    have v1 := nv_of_fin f1
    have v2 := nv_of_fin f2
    unfold reV at a2 a3
    unfold imV at a4
    rw [a4] at v2
    obtain ⟨g, c, n, -, hf, HF⟩ := far_v v1 v2 nv_three nv_zero (by unfold Bd; grind) (by unfold Bd; grind)
    have := hf (1 / 10000) 0 (by unfold Nr; grind) (by unfold Nr; grind)
    exact ⟨g, HF, lt_yes n nv_001 (by grind)⟩
theorem xs_step (k : Nat) (h : k ≤ 2) : floatBits .sub .f32 (floatOfInt .f32 (k : Int)) 1065353216 = some (xsN k) := by
  obtain rfl | rfl | rfl : k = 0 ∨ k = 1 ∨ k = 2 := by omega
  all_goals decide +kernel
end Go.Proofs.Ytlpibibpckkjhaa
