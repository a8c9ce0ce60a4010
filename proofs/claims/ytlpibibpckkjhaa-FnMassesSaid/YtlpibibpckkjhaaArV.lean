/-
  Plain laws and contracts: steps on numbers below 128, with one bound on the error; products, sums and multiples of complex numbers by their values.
-/
import Derived.Test.YtlpibibpckkjhaaFltE
import Derived.Test.YtlpibibpckkjhaaFinC
namespace Go.Proofs.Ytlpibibpckkjhaa
open Go.RowKit

theorem p7 : (2 : Rat) ^ (7 : Int) = 128 := by decide +kernel
theorem p7a : (2 : Rat) ^ ((7 : Int) - digs .f32) = 1 / 131072 := by decide +kernel
theorem p7b : (2 : Rat) ^ ((7 : Int) - digs .f64) = 1 / 70368744177664 := by decide +kernel
/-- c is v, but for an error of at most e. -/
def Nr (c v e : Rat) : Prop := c ≤ v + e ∧ v ≤ c + e
theorem add32 {x y : Nat} {a b : Rat} (hx : NV .f32 x a) (hy : NV .f32 y b) (h1 : a + b < 128) (h2 : -128 < a + b) : ∃ r c, floatBits .add .f32 x y = some r ∧ NV .f32 r c ∧ Nr c (a + b) (1 / 262144) := by
  obtain ⟨r, c, e, hc, b1, b2⟩ := add_ok .f32 7 (by decide) (by decide) hx hy (by rw [p7]; exact h1) (by rw [p7]; exact h2)
  rw [p7a] at b1 b2
  exact ⟨r, c, e, hc, by grind, by grind⟩
theorem sub32 {x y : Nat} {a b : Rat} (hx : NV .f32 x a) (hy : NV .f32 y b) (h1 : a - b < 128) (h2 : -128 < a - b) : ∃ r c, floatBits .sub .f32 x y = some r ∧ NV .f32 r c ∧ Nr c (a - b) (1 / 262144) := by
  obtain ⟨r, c, e, hc, b1, b2⟩ := sub_ok .f32 7 (by decide) (by decide) hx hy (by rw [p7]; exact h1) (by rw [p7]; exact h2)
  rw [p7a] at b1 b2
  exact ⟨r, c, e, hc, by grind, by grind⟩
theorem mul32 {x y : Nat} {a b : Rat} (hx : NV .f32 x a) (hy : NV .f32 y b) (h1 : a * b < 128) (h2 : -128 < a * b) : ∃ r c, floatBits .mul .f32 x y = some r ∧ NV .f32 r c ∧ Nr c (a * b) (1 / 262144) := by
  obtain ⟨r, c, e, hc, b1, b2⟩ := mul_ok .f32 7 (by decide) (by decide) hx hy (by rw [p7]; exact h1) (by rw [p7]; exact h2)
  rw [p7a] at b1 b2
  exact ⟨r, c, e, hc, by grind, by grind⟩
theorem add64 {x y : Nat} {a b : Rat} (hx : NV .f64 x a) (hy : NV .f64 y b) (h1 : a + b < 128) (h2 : -128 < a + b) : ∃ r c, floatBits .add .f64 x y = some r ∧ NV .f64 r c ∧ Nr c (a + b) (1 / 1000000000000) := by
  obtain ⟨r, c, e, hc, b1, b2⟩ := add_ok .f64 7 (by decide) (by decide) hx hy (by rw [p7]; exact h1) (by rw [p7]; exact h2)
  rw [p7b] at b1 b2
  exact ⟨r, c, e, hc, by grind, by grind⟩
theorem sub64 {x y : Nat} {a b : Rat} (hx : NV .f64 x a) (hy : NV .f64 y b) (h1 : a - b < 128) (h2 : -128 < a - b) : ∃ r c, floatBits .sub .f64 x y = some r ∧ NV .f64 r c ∧ Nr c (a - b) (1 / 1000000000000) := by
  obtain ⟨r, c, e, hc, b1, b2⟩ := sub_ok .f64 7 (by decide) (by decide) hx hy (by rw [p7]; exact h1) (by rw [p7]; exact h2)
  rw [p7b] at b1 b2
  exact ⟨r, c, e, hc, by grind, by grind⟩
theorem mul64 {x y : Nat} {a b : Rat} (hx : NV .f64 x a) (hy : NV .f64 y b) (h1 : a * b < 128) (h2 : -128 < a * b) : ∃ r c, floatBits .mul .f64 x y = some r ∧ NV .f64 r c ∧ Nr c (a * b) (1 / 1000000000000) := by
  obtain ⟨r, c, e, hc, b1, b2⟩ := mul_ok .f64 7 (by decide) (by decide) hx hy (by rw [p7]; exact h1) (by rw [p7]; exact h2)
  rw [p7b] at b1 b2
  exact ⟨r, c, e, hc, by grind, by grind⟩
theorem narrow {x : Nat} {a : Rat} (hx : NV .f64 x a) (h1 : a < 128) (h2 : -128 < a) : ∃ r c, floatToFloatBits .f64 x .f32 = some r ∧ NV .f32 r c ∧ Nr c a (1 / 262144) := by
  obtain ⟨r, c, e, hc, b1, b2⟩ := conv_ok .f64 .f32 (by decide) 7 (by decide) (by decide) hx (by rw [p7]; exact h1) (by rw [p7]; exact h2)
  rw [p7a] at b1 b2
  exact ⟨r, c, e, hc, by grind, by grind⟩
theorem nv_fin {x : Nat} {a : Rat} (h : NV .f32 x a) : fin32B x = true := by
  obtain ⟨s, m, i, e, -⟩ := h
  rcases sub_cases x with e2 | e2
  · unfold fin32B; rw [e2]; rfl
  · exfalso
    have hd : floatBits .sub .f32 x x = ((FloatKind.f32.format.read x).sum (FloatKind.f32.format.read x).opposite).map FloatKind.f32.format.write := rfl
    rw [hd, e] at e2
    cases e2
/-- How two numbers stand to each other. -/
theorem order_val (k : FloatKind) {x y : Nat} {a b : Rat} (hx : NV k x a) (hy : NV k y b) : (a < b → k.format.order x y = some .lt) ∧ (a = b → k.format.order x y = some .eq) ∧ (b < a → k.format.order x y = some .gt) := by
  obtain ⟨s, m, i, ex, rfl⟩ := hx
  obtain ⟨t, n, j, ey, rfl⟩ := hy
  have ho : k.format.order x y = some (compare (Ieee.signed s m (i - min i j).toNat) (Ieee.signed t n (j - min i j).toNat)) := by
    unfold Ieee.Format.order
    rw [ex, ey]; rfl
  have h1 := shift_val s m i (min i j) (Int.min_le_left _ _)
  have h2 := shift_val t n j (min i j) (Int.min_le_right _ _)
  have hp := two_pos (min i j)
  rw [ho]
  generalize Ieee.signed s m (i - min i j).toNat = u at *
  generalize Ieee.signed t n (j - min i j).toNat = v at *
  rw [← h1, ← h2]
  generalize (2 : Rat) ^ (min i j) = p at *
  have mono : ∀ c d : Int, c ≤ d → (c : Rat) * p ≤ (d : Rat) * p := fun c d h => Rat.mul_le_mul_of_nonneg_right (Rat.intCast_le_intCast.2 h) (Rat.le_of_lt hp)
  refine ⟨fun h => ?_, fun h => ?_, fun h => ?_⟩
  · have : u < v := by
      rcases Int.lt_or_le u v with h3 | h3
      · exact h3
      · have := mono v u h3; grind
    show some (compareOfLessAndEq u v) = _
    unfold compareOfLessAndEq
    rw [if_pos this]
  · have : u = v := by
      rcases Int.lt_trichotomy u v with h3 | h3 | h3
      · exfalso
        have h4 : (u : Rat) < (v : Rat) := Rat.intCast_lt_intCast.2 h3
        have h5 : (u : Rat) * p < (v : Rat) * p := Rat.mul_lt_mul_of_pos_right h4 hp
        grind
      · exact h3
      · exfalso
        have h4 : (v : Rat) < (u : Rat) := Rat.intCast_lt_intCast.2 h3
        have h5 : (v : Rat) * p < (u : Rat) * p := Rat.mul_lt_mul_of_pos_right h4 hp
        grind
    subst this
    show some (compareOfLessAndEq u u) = _
    unfold compareOfLessAndEq
    rw [if_neg (by omega), if_pos rfl]
  · have : v < u := by
      rcases Int.lt_or_le v u with h3 | h3
      · exact h3
      · have := mono u v h3; grind
    show some (compareOfLessAndEq u v) = _
    unfold compareOfLessAndEq
    rw [if_neg (by omega), if_neg (by omega)]
end Go.Proofs.Ytlpibibpckkjhaa
