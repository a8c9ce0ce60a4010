/-
  Steps of floats by values, whatever their size: the error is a share of a bound.
  Contracts by values, whatever the size (impl.times, MulComplex, plus, minus, power, QuotientOf; laws.r8Gap, r8Far).
  A polynomial's value at a complex number by values (impl.nested, impl.PolyAt): the error is a share of what its terms' sizes give.
  Contracts by values: the greater of two numbers of any kind; laws.r8Long64, r8Size: no less than 0, nearly.
  A step of the sum of a family (impl.FamilySum) by values; the sum of the values by their weights.
  Families of all kinds by words (impl.rule, familyRow, FamilyRow, FamilyAt, RuleOf).
  The terms of families by words (impl.realAt, familyTerms, FamilyPoly).
  The sum of a family (impl.FamilySum) by values.
  Complex numbers of a slice of the call's own, that are stored one by one; trimmed lists of finite numbers.
  A polynomial of a family's weights (impl.PolyOfFamily) by values.
  A polynomial of a family's weights (impl.PolyOfFamily): the walk.
  A family's weights of a polynomial (impl.FamilyOf) by values: the numbers.
  A family's weights of a polynomial (impl.FamilyOf) by values: the walk; slices.Clone and impl.checkedList of complex numbers.
-/
import Derived.Test.YtlilhebnbhlkhaaQb
import Derived.StillTailTactics
namespace Go.Proofs.Ytlilhebnbhlkhaa
open Go.RowKit
/-- The share of a bound that a step may be off. -/
def Un : FloatKind → Rat
  | .f32 => 1 / 16777216
  | .f64 => 1 / 9007199254740992
/-- A bound that is neither too small nor too great. -/
def Mid (M : Rat) : Prop := 1 / 1000000000000000000000000000 ≤ M ∧ M ≤ 1000000000000000000000000
theorem lvl {M : Rat} (h : Mid M) : ∃ k : Int, -100 ≤ k ∧ k ≤ 90 ∧ M < (2 : Rat) ^ k ∧ (2 : Rat) ^ k ≤ 2 * M := by
  obtain ⟨h1, h2⟩ := h
  have key : ∀ t : Nat, M < (2 : Rat) ^ ((t : Int) - 100) → ∃ s : Nat, s ≤ t ∧ M < (2 : Rat) ^ ((s : Int) - 100) ∧ (2 : Rat) ^ ((s : Int) - 100) ≤ 2 * M := by
    intro t
    induction t with
    | zero =>
      intro h
      exfalso
      have e : (2 : Rat) ^ (((0 : Nat) : Int) - 100) ≤ 1 / 1000000000000000000000000000 := by decide +kernel
      grind
    | succ t ih =>
      intro h
      by_cases hl : M < (2 : Rat) ^ ((t : Int) - 100)
      · obtain ⟨s, a, b, c⟩ := ih hl
        exact ⟨s, by omega, b, c⟩
      · refine ⟨t + 1, Nat.le_refl _, h, ?_⟩
        have e : ((t + 1 : Nat) : Int) - 100 = ((t : Int) - 100) + 1 := by omega
        have e2 : (2 : Rat) ^ (1 : Int) = 2 := by decide +kernel
        rw [e, pw_add, e2]
        grind
  have hb : M < (2 : Rat) ^ (((190 : Nat) : Int) - 100) := by
    have e : (1000000000000000000000000 : Rat) < (2 : Rat) ^ (((190 : Nat) : Int) - 100) := by decide +kernel
    grind
  obtain ⟨s, a, b, c⟩ := key 190 hb
  exact ⟨_, by omega, by omega, b, c⟩
theorem un_digs (fk : FloatKind) (k : Int) : (2 : Rat) ^ (k - digs fk) = (2 : Rat) ^ k * Un fk := by
  rw [Int.sub_eq_add_neg, pw_add]
  cases fk with
  | f32 => rw [show (2 : Rat) ^ (-digs .f32) = Un .f32 by decide +kernel]
  | f64 => rw [show (2 : Rat) ^ (-digs .f64) = Un .f64 by decide +kernel]
theorem un_pos (fk : FloatKind) : 0 ≤ Un fk := by cases fk <;> decide +kernel
theorem share {fk : FloatKind} {k : Int} {M c v : Rat} (hk : (2 : Rat) ^ k ≤ 2 * M) (b1 : 2 * c ≤ 2 * v + (2 : Rat) ^ (k - digs fk)) (b2 : 2 * v ≤ 2 * c + (2 : Rat) ^ (k - digs fk)) : Nr c v (M * Un fk) := by
  rw [un_digs] at b1 b2
  have h := Rat.mul_le_mul_of_nonneg_right hk (un_pos fk)
  unfold Nr
  constructor <;> grind
section
variable {fk : FloatKind} {x y : Nat} {a b M : Rat}
theorem addM (hx : NV fk x a) (hy : NV fk y b) (hM : Mid M) (h1 : -M ≤ a + b) (h2 : a + b ≤ M) : ∃ r c, floatBits .add fk x y = some r ∧ NV fk r c ∧ Nr c (a + b) (M * Un fk) := by
  obtain ⟨k, k1, k2, k3, k4⟩ := lvl hM
  obtain ⟨r, c, e, hc, b1, b2⟩ := add_ok fk k (by omega) (by omega) hx hy (by grind) (by grind)
  exact ⟨r, c, e, hc, share k4 b1 b2⟩
theorem subM (hx : NV fk x a) (hy : NV fk y b) (hM : Mid M) (h1 : -M ≤ a - b) (h2 : a - b ≤ M) : ∃ r c, floatBits .sub fk x y = some r ∧ NV fk r c ∧ Nr c (a - b) (M * Un fk) := by
  obtain ⟨k, k1, k2, k3, k4⟩ := lvl hM
  obtain ⟨r, c, e, hc, b1, b2⟩ := sub_ok fk k (by omega) (by omega) hx hy (by grind) (by grind)
  exact ⟨r, c, e, hc, share k4 b1 b2⟩
theorem mulM (hx : NV fk x a) (hy : NV fk y b) (hM : Mid M) (h1 : -M ≤ a * b) (h2 : a * b ≤ M) : ∃ r c, floatBits .mul fk x y = some r ∧ NV fk r c ∧ Nr c (a * b) (M * Un fk) := by
  obtain ⟨k, k1, k2, k3, k4⟩ := lvl hM
  obtain ⟨r, c, e, hc, b1, b2⟩ := mul_ok fk k (by omega) (by omega) hx hy (by grind) (by grind)
  exact ⟨r, c, e, hc, share k4 b1 b2⟩
theorem quoM {q : Rat} (hx : NV fk x a) (hy : NV fk y b) (hb : b ≠ 0) (hq : q * b = a) (hM : Mid M) (h1 : -M ≤ q) (h2 : q ≤ M) : ∃ r c, floatBits .quo fk x y = some r ∧ NV fk r c ∧ Nr c q (4 * M * Un fk) := by
  obtain ⟨k, k1, k2, k3, k4⟩ := lvl hM
  obtain ⟨r, c, e, hc, b1, b2⟩ := quo_ok fk k (by omega) (by omega) hx hy hb hq (by grind) (by grind)
  refine ⟨r, c, e, hc, ?_⟩
  have e1 : k + 1 - digs fk = (k - digs fk) + 1 := by omega
  have e2 : (2 : Rat) ^ (1 : Int) = 2 := by decide +kernel
  rw [e1, pw_add, e2, un_digs] at b1 b2
  have h := Rat.mul_le_mul_of_nonneg_right k4 (un_pos fk)
  unfold Nr
  constructor <;> grind
end
theorem narM {x : Nat} {a M : Rat} (hx : NV .f64 x a) (hM : Mid M) (h1 : -M ≤ a) (h2 : a ≤ M) : ∃ r c, floatToFloatBits .f64 x .f32 = some r ∧ NV .f32 r c ∧ Nr c a (M * Un .f32) := by
  obtain ⟨k, k1, k2, k3, k4⟩ := lvl hM
  obtain ⟨r, c, e, hc, b1, b2⟩ := conv_ok .f64 .f32 (by decide) k (by omega) (by omega) hx (by grind) (by grind)
  exact ⟨r, c, e, hc, share k4 b1 b2⟩
theorem un32 : Un .f32 = 1 / 16777216 := rfl
theorem un64 : Un .f64 = 1 / 9007199254740992 := rfl
/-- a lies between -M and M. -/
def Lm (a M : Rat) : Prop := -M ≤ a ∧ a ≤ M
theorem Lm.mul {a b A B : Rat} (h : Lm a A) (k : Lm b B) : Lm (a * b) (A * B) := by
  unfold Lm at *
  have m1 := Rat.mul_nonneg (show (0 : Rat) ≤ A - a by grind) (show (0 : Rat) ≤ B - b by grind)
  have m2 := Rat.mul_nonneg (show (0 : Rat) ≤ A - a by grind) (show (0 : Rat) ≤ B + b by grind)
  have m3 := Rat.mul_nonneg (show (0 : Rat) ≤ A + a by grind) (show (0 : Rat) ≤ B - b by grind)
  have m4 := Rat.mul_nonneg (show (0 : Rat) ≤ A + a by grind) (show (0 : Rat) ≤ B + b by grind)
  constructor <;> grind
theorem Lm.add {a b A B : Rat} (h : Lm a A) (k : Lm b B) : Lm (a + b) (A + B) := by
  unfold Lm at *; constructor <;> grind
theorem Lm.neg {a A : Rat} (h : Lm a A) : Lm (-a) A := by
  unfold Lm at *; constructor <;> grind
theorem Lm.le {a A B : Rat} (h : Lm a A) (hB : A ≤ B) : Lm a B := by
  unfold Lm at *; constructor <;> grind
theorem Lm.of {a b A e : Rat} (h : Lm b A) (k : Nr a b e) : Lm a (A + e) := by
  unfold Lm Nr at *; constructor <;> grind
theorem Lm.pos {a A : Rat} (h : Lm a A) : 0 ≤ A := by unfold Lm at h; grind
theorem lm_nr {a b e : Rat} : Nr a b e ↔ Lm (a - b) e := by
  unfold Lm Nr; constructor <;> (intro h; constructor <;> grind)
theorem Nr.le {a b e f : Rat} (h : Nr a b e) (hf : e ≤ f) : Nr a b f := by unfold Nr at *; constructor <;> grind
end Go.Proofs.Ytlilhebnbhlkhaa
namespace Go.Proofs.Ytlilhebnbhlkhaa
open Go.RowKit
/-- A bound of a leaf: neither too small nor too great. -/
def Md (M : Rat) : Prop := 1 / 100000000000000000000 ≤ M ∧ M ≤ 1000000000000000000
theorem Md.mid {M : Rat} (h : Md M) : Mid M := ⟨by have := h.1; grind, by have := h.2; grind⟩
theorem Md.mid4 {M : Rat} (h : Md M) : Mid (4 * M) := ⟨by have := h.1; grind, by have := h.2; grind⟩
theorem Md.pos {M : Rat} (h : Md M) : 0 < M := by obtain ⟨h1, -⟩ := h; grind
/-- The parts of a product before they are narrowed. -/
theorem times_m {x1 x2 y1 y2 : Nat} {a b c d M : Rat} (hx1 : NV .f32 x1 a) (hx2 : NV .f32 x2 b) (hy1 : NV .f32 y1 c) (hy2 : NV .f32 y2 d) (hM : Md M) (h1 : Lm (a * c) M) (h2 : Lm (b * d) M) (h3 : Lm (a * d) M) (h4 : Lm (b * c) M) :
    ∃ p q π κ, NV .f64 p π ∧ NV .f64 q κ ∧ Nr π (a * c - b * d) (M / 1000000000000000) ∧ Nr κ (a * d + b * c) (M / 1000000000000000) ∧
      ∀ w, Calls Try.prog 86 #[.complex .f32 x1 x2, .complex .f32 y1 y2] w fun e w' => e = .returned (.tuple #[.float .f64 p, .float .f64 q]) ∧ w' = w := by
  have hp := hM.pos
  unfold Lm at h1 h2 h3 h4
  obtain ⟨u1, f1, n1⟩ := wide_exact hx1
  obtain ⟨u2, f2, n2⟩ := wide_exact hx2
  obtain ⟨v1, f3, n3⟩ := wide_exact hy1
  obtain ⟨v2, f4, n4⟩ := wide_exact hy2
  obtain ⟨r1, c1, g1, m1, e1⟩ := mulM n1 n3 hM.mid h1.1 h1.2
  obtain ⟨r2, c2, g2, m2, e2⟩ := mulM n2 n4 hM.mid h2.1 h2.2
  obtain ⟨r3, c3, g3, m3, e3⟩ := mulM n1 n4 hM.mid h3.1 h3.2
  obtain ⟨r4, c4, g4, m4, e4⟩ := mulM n2 n3 hM.mid h4.1 h4.2
  rw [un64] at e1 e2 e3 e4
  unfold Nr at e1 e2 e3 e4
  obtain ⟨p, π, g5, m5, e5⟩ := subM m1 m2 hM.mid4 (by grind) (by grind)
  obtain ⟨q, κ, g6, m6, e6⟩ := addM m3 m4 hM.mid4 (by grind) (by grind)
  rw [un64] at e5 e6
  unfold Nr at e5 e6
  have k1 := cvW f1
  have k2 := cvW f2
  have k3 := cvW f3
  have k4 := cvW f4
  have j1 := ar64 _ _ _ _ g1
  have j2 := ar64 _ _ _ _ g2
  have j3 := ar64 _ _ _ _ g3
  have j4 := ar64 _ _ _ _ g4
  have j5 := ar64 _ _ _ _ g5
  have j6 := ar64 _ _ _ _ g6
  refine ⟨p, q, π, κ, m5, m6, by unfold Nr; constructor <;> grind, by unfold Nr; constructor <;> grind, fun w => ?_⟩
  clear f1 f2 f3 f4 g1 g2 g3 g4 g5 g6 e1 e2 e3 e4 e5 e6 m1 m2 m3 m4 m5 m6 n1 n2 n3 n4 hx1 hx2 hy1 hy2 h1 h2 h3 h4 hM hp
  go_enter Try.func86, Try.ntmps86
  go_wp2
  go_ret2
  exact ⟨rfl, rfl⟩
/-- The product of complex numbers. -/
theorem mulC_m {x1 x2 y1 y2 : Nat} {a b c d M : Rat} (hx1 : NV .f32 x1 a) (hx2 : NV .f32 x2 b) (hy1 : NV .f32 y1 c) (hy2 : NV .f32 y2 d) (hM : Md M) (h1 : Lm (a * c) M) (h2 : Lm (b * d) M) (h3 : Lm (a * d) M) (h4 : Lm (b * c) M) (h5 : Lm (a * c - b * d) M) (h6 : Lm (a * d + b * c) M) :
    ∃ p q π κ, NV .f32 p π ∧ NV .f32 q κ ∧ Nr π (a * c - b * d) (M / 16000000) ∧ Nr κ (a * d + b * c) (M / 16000000) ∧
      ∀ w, Calls Try.prog 50 #[.complex .f32 x1 x2, .complex .f32 y1 y2] w fun e w' => e = .returned (.complex .f32 p q) ∧ w' = w := by
  have hp := hM.pos
  obtain ⟨p, q, π, κ, n1, n2, e1, e2, HT⟩ := times_m hx1 hx2 hy1 hy2 hM h1 h2 h3 h4
  have hM2 : Mid (M + M / 1000000000000000) := ⟨by have := hM.1; grind, by have := hM.2; grind⟩
  unfold Lm at h5 h6
  unfold Nr at e1 e2
  obtain ⟨p', π', g1, m1, e3⟩ := narM n1 hM2 (by grind) (by grind)
  obtain ⟨q', κ', g2, m2, e4⟩ := narM n2 hM2 (by grind) (by grind)
  rw [un32] at e3 e4
  unfold Nr at e3 e4
  have k1 := cvN g1
  have k2 := cvN g2
  refine ⟨p', q', π', κ', m1, m2, by unfold Nr; constructor <;> grind, by unfold Nr; constructor <;> grind, fun w => ?_⟩
  clear e1 e2 e3 e4 g1 g2 m1 m2 n1 n2 hx1 hx2 hy1 hy2 h1 h2 h3 h4 h5 h6 hM2 hp hM
  go_enter Try.func50, Try.ntmps50
  go_wp2_with fail
  refine (HT w).mono ?_
  rintro e w1 ⟨rfl, rfl⟩
  go_wp2
  go_ret
  exact ⟨rfl, rfl⟩
theorem plus_m {x1 x2 y1 y2 : Nat} {a b c d M : Rat} (hx1 : NV .f32 x1 a) (hx2 : NV .f32 x2 b) (hy1 : NV .f32 y1 c) (hy2 : NV .f32 y2 d) (hM : Md M) (h1 : Lm (a + c) M) (h2 : Lm (b + d) M) :
    ∃ p q π κ, NV .f32 p π ∧ NV .f32 q κ ∧ Nr π (a + c) (M / 16000000) ∧ Nr κ (b + d) (M / 16000000) ∧
      ∀ w, Calls Try.prog 66 #[.complex .f32 x1 x2, .complex .f32 y1 y2] w fun e w' => e = .returned (.complex .f32 p q) ∧ w' = w := by
  have hp := hM.pos
  obtain ⟨p, π, g1, m1, e1⟩ := addM hx1 hy1 hM.mid h1.1 h1.2
  obtain ⟨q, κ, g2, m2, e2⟩ := addM hx2 hy2 hM.mid h2.1 h2.2
  rw [un32] at e1 e2
  have j1 := ar32 _ _ _ _ g1
  have j2 := ar32 _ _ _ _ g2
  refine ⟨p, q, π, κ, m1, m2, e1.le (by grind), e2.le (by grind), fun w => ?_⟩
  clear e1 e2 g1 g2 m1 m2 hx1 hx2 hy1 hy2 h1 h2 hM hp
  go_enter Try.func66, Try.ntmps66
  go_wp2
  go_ret
  exact ⟨rfl, rfl⟩
theorem conj_w (x y : Nat) (w : World) :
    Calls Try.prog 87 #[.complex .f32 x y] w fun e w' => e = .returned (.complex .f32 x (Op.negFloat .f32 y)) ∧ w' = w := by
  have kn : ∀ w, (Op.unary .neg (.float .f32 y)).run Try.prog w = .ok (.float .f32 (Op.negFloat .f32 y)) w := fun w => rfl
  generalize Op.negFloat .f32 y = z at *
  go_enter Try.func87, Try.ntmps87
  go_wp2
  go_ret
  exact ⟨rfl, rfl⟩
/-- A quotient of numbers that are off by shares. -/
theorem quo_share {v p v0 Q q M : Rat} (hQ : 0 < Q) (hq : q * Q = v0) (hM : 0 < M) (l : Lm q M) (e1 : Nr v v0 (M * Q / 100000000000000)) (e2 : Nr p Q (Q / 1000000000000000)) : 0 < p ∧ ∃ r, r * p = v ∧ Nr r q (M / 50000000000000) := by
  unfold Nr at e1 e2
  have hp : 0 < p := by grind
  refine ⟨hp, v / p, Rat.div_mul_cancel (by grind), ?_⟩
  have hr : v / p * p = v := Rat.div_mul_cancel (by grind)
  generalize v / p = r at *
  unfold Lm at l
  -- r p - q p = v - v0 + q (Q - p)
  have k1 := Rat.mul_nonneg (show (0 : Rat) ≤ M - q by grind) (show (0 : Rat) ≤ Q / 1000000000000000 - (p - Q) by grind)
  have k2 := Rat.mul_nonneg (show (0 : Rat) ≤ M - q by grind) (show (0 : Rat) ≤ Q / 1000000000000000 + (p - Q) by grind)
  have k3 := Rat.mul_nonneg (show (0 : Rat) ≤ M + q by grind) (show (0 : Rat) ≤ Q / 1000000000000000 - (p - Q) by grind)
  have k4 := Rat.mul_nonneg (show (0 : Rat) ≤ M + q by grind) (show (0 : Rat) ≤ Q / 1000000000000000 + (p - Q) by grind)
  have hMQ := Rat.mul_pos hM hQ
  have hMp := Rat.mul_nonneg (Rat.le_of_lt hM) (show (0 : Rat) ≤ p - (Q - Q / 1000000000000000) by grind)
  constructor
  · rcases (show r ≤ q + M / 50000000000000 ∨ 0 ≤ r - q - M / 50000000000000 by grind) with h | h
    · exact h
    · have h2 := Rat.mul_nonneg h (Rat.le_of_lt hp)
      grind
  · rcases (show q ≤ r + M / 50000000000000 ∨ 0 ≤ q - r - M / 50000000000000 by grind) with h | h
    · exact h
    · have h2 := Rat.mul_nonneg h (Rat.le_of_lt hp)
      grind
end Go.Proofs.Ytlilhebnbhlkhaa
namespace Go.Proofs.Ytlilhebnbhlkhaa
open Go.RowKit
/-- The sum of the sizes of a and b is at most M. -/
def N1 (a b M : Rat) : Prop := a + b ≤ M ∧ a - b ≤ M ∧ -a + b ≤ M ∧ -a - b ≤ M
section
variable {a b c d A B C e f : Rat}
theorem N1.fst (h : N1 a b A) : Lm a A := by unfold N1 at h; unfold Lm; constructor <;> grind
theorem N1.snd (h : N1 a b A) : Lm b A := by unfold N1 at h; unfold Lm; constructor <;> grind
theorem N1.pos (h : N1 a b A) : 0 ≤ A := by unfold N1 at h; grind
theorem N1.add (h : N1 a b A) (k : N1 c d C) : N1 (a + c) (b + d) (A + C) := by unfold N1 at *; refine ⟨?_, ?_, ?_, ?_⟩ <;> grind
theorem N1.le (h : N1 a b A) (hB : A ≤ B) : N1 a b B := by unfold N1 at *; refine ⟨?_, ?_, ?_, ?_⟩ <;> grind
theorem N1.of (h : N1 c d C) (k : N1 (a - c) (b - d) e) : N1 a b (C + e) := by unfold N1 at *; refine ⟨?_, ?_, ?_, ?_⟩ <;> grind
theorem N1.lm (h : Lm a A) (k : Lm b B) : N1 a b (A + B) := by unfold Lm at *; unfold N1; refine ⟨?_, ?_, ?_, ?_⟩ <;> grind
theorem N1.nr (h : Nr a c e) (k : Nr b d f) : N1 (a - c) (b - d) (e + f) := N1.lm (lm_nr.1 h) (lm_nr.1 k)
theorem N1.lin {s t : Rat} (h : N1 a b A) (hs : Lm s C) (ht : Lm t C) : Lm (a * s + b * t) (A * C) := by
  unfold Lm at hs ht
  have hC : 0 ≤ C := by grind
  unfold N1 at h
  have p1 := fun (x : Rat) (hx : 0 ≤ x) => Rat.mul_nonneg hx (show (0 : Rat) ≤ C - s by grind)
  have p2 := fun (x : Rat) (hx : 0 ≤ x) => Rat.mul_nonneg hx (show (0 : Rat) ≤ C + s by grind)
  have p3 := fun (x : Rat) (hx : 0 ≤ x) => Rat.mul_nonneg hx (show (0 : Rat) ≤ C - t by grind)
  have p4 := fun (x : Rat) (hx : 0 ≤ x) => Rat.mul_nonneg hx (show (0 : Rat) ≤ C + t by grind)
  rcases (show 0 ≤ a ∨ 0 ≤ -a by grind) with ha | ha <;> rcases (show 0 ≤ b ∨ 0 ≤ -b by grind) with hb | hb
  · have m0 := Rat.mul_nonneg hC (show (0 : Rat) ≤ A - (a + b) by grind)
    have m1 := p1 _ ha
    have m2 := p2 _ ha
    have m3 := p3 _ hb
    have m4 := p4 _ hb
    unfold Lm; constructor <;> grind
  · have m0 := Rat.mul_nonneg hC (show (0 : Rat) ≤ A - (a - b) by grind)
    have m1 := p1 _ ha
    have m2 := p2 _ ha
    have m3 := p3 _ hb
    have m4 := p4 _ hb
    unfold Lm; constructor <;> grind
  · have m0 := Rat.mul_nonneg hC (show (0 : Rat) ≤ A - (-a + b) by grind)
    have m1 := p1 _ ha
    have m2 := p2 _ ha
    have m3 := p3 _ hb
    have m4 := p4 _ hb
    unfold Lm; constructor <;> grind
  · have m0 := Rat.mul_nonneg hC (show (0 : Rat) ≤ A - (-a - b) by grind)
    have m1 := p1 _ ha
    have m2 := p2 _ ha
    have m3 := p3 _ hb
    have m4 := p4 _ hb
    unfold Lm; constructor <;> grind
theorem N1.mul (h : N1 a b A) (k : N1 c d C) : N1 (a * c - b * d) (a * d + b * c) (A * C) := by
  have hs : Lm (c + d) C := by unfold N1 at k; unfold Lm; constructor <;> grind
  have ht : Lm (c - d) C := by unfold N1 at k; unfold Lm; constructor <;> grind
  have h1 := h.lin hs ht
  have h2 := h.lin ht (show Lm (-(c + d)) C from hs.neg)
  unfold Lm at h1 h2
  unfold N1
  refine ⟨?_, ?_, ?_, ?_⟩ <;> grind
/-- The products of the parts. -/
theorem N1.prods (h : N1 a b A) (k : N1 c d C) : Lm (a * c) (A * C) ∧ Lm (b * d) (A * C) ∧ Lm (a * d) (A * C) ∧ Lm (b * c) (A * C) := ⟨h.fst.mul k.fst, h.snd.mul k.snd, h.fst.mul k.snd, h.snd.mul k.fst⟩
end
/-- The value from the top down. -/
def hC (re im : Nat → Rat) (ξ η : Rat) (n : Nat) : Nat → Rat × Rat
  | 0 => (re (n - 1), im (n - 1))
  | j + 1 => ((hC re im ξ η n j).1 * ξ - (hC re im ξ η n j).2 * η + re (n - 2 - j), (hC re im ξ η n j).1 * η + (hC re im ξ η n j).2 * ξ + im (n - 2 - j))
/-- What the sizes give. -/
def gC (L : Nat → Rat) (Z : Rat) (n : Nat) : Nat → Rat
  | 0 => L (n - 1)
  | j + 1 => gC L Z n j * Z + L (n - 2 - j)
/-- Terms as values, with sizes. -/
def TrmN (l : List (Nat × Nat)) (re im L : Nat → Rat) : Prop := ∀ k, k < l.length → NV .f32 (l.getD k (0, 0)).1 (re k) ∧ NV .f32 (l.getD k (0, 0)).2 (im k) ∧ N1 (re k) (im k) (L k) ∧ 1 / 1000000 ≤ L k
theorem gC_pos {l : List (Nat × Nat)} {re im L : Nat → Rat} {Z : Rat} {n : Nat} (hT : TrmN l re im L) (hl : l.length = n) (hZ : 0 ≤ Z) : ∀ j, j < n → 1 / 1000000 ≤ gC L Z n j
  | 0, hj => (hT (n - 1) (by omega)).2.2.2
  | j + 1, hj => by
    have ih := gC_pos hT hl hZ j (by omega)
    have h := (hT (n - 2 - j) (by omega)).2.2.2
    have m := Rat.mul_nonneg (show (0 : Rat) ≤ gC L Z n j by grind) hZ
    rw [gC]
    grind
theorem hC_bd {l : List (Nat × Nat)} {re im L : Nat → Rat} {ξ η Z : Rat} {n : Nat} (hT : TrmN l re im L) (hl : l.length = n) (hz : N1 ξ η Z) : ∀ j, j < n → N1 (hC re im ξ η n j).1 (hC re im ξ η n j).2 (gC L Z n j)
  | 0, hj => (hT (n - 1) (by omega)).2.2.1
  | j + 1, hj => by
    have ih := hC_bd hT hl hz j (by omega)
    have h := (hT (n - 2 - j) (by omega)).2.2.1
    rw [gC, hC]
    exact (ih.mul hz).add h
theorem nest_stepG {p q x y c1 c2 : Nat} {π κ ξ η a b h g ε G Z L : Rat} (hp : NV .f32 p π) (hq : NV .f32 q κ) (hx : NV .f32 x ξ) (hy : NV .f32 y η) (ha : NV .f32 c1 a) (hb : NV .f32 c2 b)
    (hz : N1 ξ η Z) (hZ : 1 / 1000000 ≤ Z ∧ Z ≤ 10) (hc : N1 a b L) (hh : N1 h g G) (hG : 1 / 1000000 ≤ G ∧ G ≤ 10000000000) (hG' : 1 / 1000000 ≤ G * Z + L ∧ G * Z + L ≤ 10000000000) (he : N1 (π - h) (κ - g) (ε * G)) (he1 : 0 ≤ ε ∧ ε ≤ 1 / 2) :
    ∃ p' q' r s π' κ', NV .f32 r π' ∧ NV .f32 s κ' ∧ N1 (π' - (h * ξ - g * η + a)) (κ' - (h * η + g * ξ + b)) ((ε + 1 / 2000000) * (G * Z + L)) ∧
      (∀ w, Calls Try.prog 50 #[.complex .f32 p q, .complex .f32 x y] w fun e w' => e = .returned (.complex .f32 p' q') ∧ w' = w) ∧
      (∀ w, Calls Try.prog 66 #[.complex .f32 p' q', .complex .f32 c1 c2] w fun e w' => e = .returned (.complex .f32 r s) ∧ w' = w) := by
  have hL := hc.pos
  have hGZ : (1 / 1000000) * (1 / 1000000) ≤ G * Z := by
    have m1 := Rat.mul_nonneg (show (0 : Rat) ≤ G - 1 / 1000000 by grind) (show (0 : Rat) ≤ Z - 1 / 1000000 by grind)
    grind
  have hGZ2 : G * Z ≤ 10000000000 := by grind
  have hεG : ε * G ≤ G / 2 := by
    have m1 := Rat.mul_nonneg (show (0 : Rat) ≤ 1 / 2 - ε by grind) (show (0 : Rat) ≤ G by grind)
    grind
  have hP : N1 π κ (2 * G) := (hh.of he).le (by grind)
  have hPZ := hP.mul hz
  obtain ⟨b1, b2, b3, b4⟩ := hP.prods hz
  obtain ⟨p', q', μ, ν, n1, n2, f1, f2, HM⟩ := mulC_m hp hq hx hy (M := 2 * G * Z) (by constructor <;> grind) b1 b2 b3 b4 hPZ.fst hPZ.snd
  have hε2 := he.mul hz
  have d1 : N1 (μ - (h * ξ - g * η)) (ν - (h * η + g * ξ)) (ε * G * Z + (2 * G * Z / 16000000 + 2 * G * Z / 16000000)) := by
    have e1 := N1.nr f1 f2
    have e2 := e1.add hε2
    unfold N1 at e2 ⊢
    refine ⟨?_, ?_, ?_, ?_⟩ <;> grind
  have hεZ : 0 ≤ ε * G * Z := Rat.mul_nonneg (Rat.mul_nonneg he1.1 (by grind)) (by grind)
  have hεZ2 : ε * G * Z ≤ G * Z / 2 := by
    have m1 := Rat.mul_nonneg (show (0 : Rat) ≤ G / 2 - ε * G by grind) (show (0 : Rat) ≤ Z by grind)
    grind
  have hμ : N1 μ ν (2 * G * Z) := ((hh.mul hz).of d1).le (by grind)
  have hsum : N1 (μ + a) (ν + b) (2 * (G * Z + L)) := (hμ.add hc).le (by grind)
  obtain ⟨r, s, π', κ', n3, n4, f3, f4, HPl⟩ := plus_m n1 n2 ha hb (M := 2 * (G * Z + L)) (by constructor <;> grind) hsum.fst hsum.snd
  refine ⟨p', q', r, s, π', κ', n3, n4, ?_, HM, HPl⟩
  have e3 := (N1.nr f3 f4).add d1
  have m2 := Rat.mul_nonneg he1.1 hL
  unfold N1 at e3 ⊢
  refine ⟨?_, ?_, ?_, ?_⟩ <;> grind
set_option maxRecDepth 100000 in
set_option maxHeartbeats 800000 in
theorem nested_g (n x y : Nat) (l : List (Nat × Nat)) (hl : l.length = n) (re im L : Nat → Rat) (ξ η Z : Rat) (hT : TrmN l re im L) (hx : NV .f32 x ξ) (hy : NV .f32 y η) (hz : N1 ξ η Z) (hZ : 1 / 1000000 ≤ Z ∧ Z ≤ 10) (hG : ∀ j, j < n → gC L Z n j ≤ 10000000000) (hn1 : 1 ≤ n) (hn : n ≤ 20) :
    ∃ r s π κ, NV .f32 r π ∧ NV .f32 s κ ∧ N1 (π - (hC re im ξ η n (n - 1)).1) (κ - (hC re im ξ η n (n - 1)).2) (((n : Nat) : Rat) * (1 / 2000000) * gC L Z n (n - 1)) ∧
      ∀ (A : Option Addr) (c B : Nat) w, Reads w B 1 A n (cplx l) → Calls Try.prog 74 #[.slice A n c, .complex .f32 x y] w fun e w' => e = .returned (.complex .f32 r s) ∧ ∃ m, w' = w.drewN m := by
  have hZ0 : 0 ≤ Z := by grind
  have key : ∀ j, j < n → ∃ P Q : Nat → Nat, P 0 = (l.getD (n - 1) (0, 0)).1 ∧ Q 0 = (l.getD (n - 1) (0, 0)).2 ∧
      (∀ i, i ≤ j → ∃ π κ, NV .f32 (P i) π ∧ NV .f32 (Q i) κ ∧ N1 (π - (hC re im ξ η n i).1) (κ - (hC re im ξ η n i).2) (((i : Nat) : Rat) * (1 / 2000000) * gC L Z n i)) ∧
      (∀ i, i < j → ∃ p' q', (∀ w, Calls Try.prog 50 #[.complex .f32 (P i) (Q i), .complex .f32 x y] w fun e w' => e = .returned (.complex .f32 p' q') ∧ w' = w) ∧
        (∀ w, Calls Try.prog 66 #[.complex .f32 p' q', .complex .f32 (l.getD (n - 2 - i) (0, 0)).1 (l.getD (n - 2 - i) (0, 0)).2] w fun e w' => e = .returned (.complex .f32 (P (i + 1)) (Q (i + 1))) ∧ w' = w)) := by
    intro j
    induction j with
    | zero =>
      intro _
      obtain ⟨t1, t2, -, -⟩ := hT (n - 1) (by omega)
      refine ⟨fun _ => (l.getD (n - 1) (0, 0)).1, fun _ => (l.getD (n - 1) (0, 0)).2, rfl, rfl, fun i hi => ?_, fun i hi => absurd hi (Nat.not_lt_zero _)⟩
      obtain rfl : i = 0 := by omega
      have e0 : ((0 : Nat) : Rat) = 0 := rfl
      refine ⟨_, _, t1, t2, ?_⟩
      rw [e0, hC]
      unfold N1
      refine ⟨?_, ?_, ?_, ?_⟩ <;> grind
    | succ j ih =>
      intro hj
      obtain ⟨P, Q, hP0, hQ0, hv, hs⟩ := ih (by omega)
      obtain ⟨π, κ, v1, v2, v3⟩ := hv j (Nat.le_refl _)
      obtain ⟨t1, t2, t3, t4⟩ := hT (n - 2 - j) (by omega)
      have hb := hC_bd hT hl hz j (by omega)
      have g1 := gC_pos (Z := Z) hT hl hZ0 j (by omega)
      have g2 := gC_pos (Z := Z) hT hl hZ0 (j + 1) hj
      have g3 := hG (j + 1) hj
      rw [gC] at g2 g3
      have hj20 : ((j : Nat) : Rat) ≤ 20 := by
        have : ((j : Nat) : Rat) ≤ ((20 : Nat) : Rat) := Rat.natCast_le_natCast.2 (by omega)
        exact this
      have hj0 : (0 : Rat) ≤ ((j : Nat) : Rat) := by
        have : ((0 : Nat) : Rat) ≤ ((j : Nat) : Rat) := Rat.natCast_le_natCast.2 (by omega)
        exact this
      obtain ⟨p', q', r, s, π', κ', m1, m2, m3, HM, HP⟩ := nest_stepG v1 v2 hx hy t1 t2 hz hZ t3 hb ⟨g1, hG j (by omega)⟩ ⟨g2, g3⟩ v3 ⟨by grind, by grind⟩
      have ej : ((j + 1 : Nat) : Rat) = ((j : Nat) : Rat) + 1 := by rw [Rat.natCast_add j 1]; rfl
      have eE : ((j : Nat) : Rat) * (1 / 2000000) + 1 / 2000000 = ((j + 1 : Nat) : Rat) * (1 / 2000000) := by rw [ej]; grind
      rw [eE] at m3
      refine ⟨fun i => if i = j + 1 then r else P i, fun i => if i = j + 1 then s else Q i, ?_, ?_, fun i hi => ?_, fun i hi => ?_⟩
      · simp only [show ¬ (0 = j + 1) by omega, if_false]; exact hP0
      · simp only [show ¬ (0 = j + 1) by omega, if_false]; exact hQ0
      · by_cases e : i = j + 1
        · subst e
          simp only [if_true]
          refine ⟨π', κ', m1, m2, ?_⟩
          rw [gC, hC]
          exact m3
        · simp only [e, if_false]
          exact hv i (by omega)
      · by_cases e : i = j
        · subst e
          simp only [show ¬ (i = i + 1) by omega, if_false, if_true]
          exact ⟨p', q', HM, HP⟩
        · simp only [show ¬ (i = j + 1) by omega, show ¬ (i + 1 = j + 1) by omega, if_false]
          exact hs i (by omega)
  obtain ⟨P, Q, hP0, hQ0, hv, hs⟩ := key (n - 1) (by omega)
  obtain ⟨π, κ, v1, v2, v3⟩ := hv (n - 1) (Nat.le_refl _)
  have hgp := gC_pos (Z := Z) hT hl hZ0 (n - 1) (by omega)
  have hnn : ((n - 1 : Nat) : Rat) ≤ ((n : Nat) : Rat) := Rat.natCast_le_natCast.2 (by omega)
  refine ⟨P (n - 1), Q (n - 1), π, κ, v1, v2, v3.le ?_, fun A c B w hr => ?_⟩
  · have := Rat.mul_nonneg (show (0 : Rat) ≤ ((n : Nat) : Rat) - ((n - 1 : Nat) : Rat) by grind) (show (0 : Rat) ≤ gC L Z n (n - 1) by grind)
    grind
  replace hs := Lib.hid hs
  clear key hv v1 v2 v3 hT hx hy hz hZ hG hgp hnn
  have hk1 : (n : Int) - 1 = ((n - 1 : Nat) : Int) := by omega
  obtain ⟨ad, rfl, hab, hc0⟩ := comp_at (k := n - 1) (by rw [hl]; exact hr) (by omega)
  rw [← hP0, ← hQ0] at hc0
  obtain ⟨N, hN⟩ : ∃ N, N = n - 1 := ⟨_, rfl⟩
  rw [← hN] at hc0 hk1 hs ⊢
  have hnN : n = N + 1 := by omega
  replace hN := Lib.hid hN
  clear hP0 hQ0
  subst hnN
  go_enter Try.func74, Try.ntmps74
  go_wp2
  go_loopw [6, 7] (fun v q wr => ∃ j k : Nat, j ≤ N ∧ Hid (k + j = N) ∧ q = .int .i64 ((k : Int) - 1) ∧ v = .complex .f32 (P j) (Q j) ∧ ∃ m, wr = w.drewN m) (fun _ q _ => (intOf q + 1).toNat)
  case atStart => exact ⟨0, N, Nat.zero_le _, rfl, by go_num, rfl, 0, rfl⟩
  case round =>
    obtain ⟨j, k, hj, hjk, rfl, rfl, m, hW0⟩ := hrel
    by_cases hlt : 1 ≤ k
    · obtain ⟨i, hi⟩ : ∃ i, k = i + 1 := ⟨k - 1, by omega⟩
      subst hi
      have hij : i + 1 + j = N := hjk.out
      obtain ⟨p', q', HM, HP⟩ := hs.out j (by omega)
      have hix : N + 1 - 2 - j = i := by omega
      rw [hix] at HP
      obtain ⟨ad', e, -, hc1⟩ := comp_at (k := i) (by rw [hl]; exact hr) (by omega)
      cases e
      have hc1' : wr.cell? (ad.add i) = some (.complex .f32 (l.getD i (0, 0)).1 (l.getD i (0, 0)).2) := by rw [hW0]; exact hc1
      have hW := Lib.hid hW0
      have HMH := Lib.hid HM
      have HPH := Lib.hid HP
      have hb1 : (i : Int) < (N : Int) + 1 := by omega
      have hb0 : (0 : Int) ≤ (i : Int) := by omega
      have hz : ((i + 1 : Nat) : Int) - 1 = (i : Int) := by omega
      rw [hz]
      clear hW0 HM HP hc1 hr hc0 hix hz hjk
      generalize (l.getD i (0, 0)).1 = c1 at *
      generalize (l.getD i (0, 0)).2 = c2 at *
      replace hij := Lib.hid hij
      go_wp2_with fail
      go_quiet ((first | (go_at_call 50; exact Calls.quiet_of_same (HMH.out _)) | (go_at_call 66; exact Calls.quiet_of_same (HPH.out _))))
      go_wp2
      exact ⟨⟨j + 1, i, by have := hij.out; omega, (by have := hij.out; show _ = _; omega), by go_num, rfl, m + nq, by rw [hW.out, World.drewN_drewN]⟩, (by simp [intOf]; all_goals omega)⟩
    · obtain rfl : k = 0 := by omega
      have hjN : j = N := by have := hjk.out; omega
      subst hjN
      go_wp2
      go_ret
      exact ⟨rfl, m, rfl⟩
set_option maxRecDepth 100000 in
set_option maxHeartbeats 800000 in
theorem polyAt_g (n x y : Nat) (l : List (Nat × Nat)) (hl : l.length = n) (re im L : Nat → Rat) (ξ η Z : Rat) (hT : TrmN l re im L) (hx : NV .f32 x ξ) (hy : NV .f32 y η) (hz : N1 ξ η Z) (hZ : 1 / 1000000 ≤ Z ∧ Z ≤ 10) (hG : ∀ j, j < n → gC L Z n j ≤ 10000000000) (hn1 : 1 ≤ n) (hn : n ≤ 20) (hv : polyB l = true) :
    ∃ r s π κ, NV .f32 r π ∧ NV .f32 s κ ∧ N1 (π - (hC re im ξ η n (n - 1)).1) (κ - (hC re im ξ η n (n - 1)).2) (((n : Nat) : Rat) * (1 / 2000000) * gC L Z n (n - 1)) ∧
      ∀ (A : Option Addr) (c : Nat) w, Reads w w.heap.size 1 A n (cplx l) → Calls Try.prog 64 #[.agg #[.slice A n c], .complex .f32 x y] w fun e w' => e = .returned (.tuple #[.complex .f32 r s, .bool true]) ∧ Below w.heap.size w w' := by
  obtain ⟨r, s, π, κ, v1, v2, v3, HN⟩ := nested_g n x y l hl re im L ξ η Z hT hx hy hz hZ hG hn1 hn
  refine ⟨r, s, π, κ, v1, v2, v3, fun A c w hr => ?_⟩
  have hfx := nv_fin hx
  have hfy := nv_fin hy
  have HF := finite_v (nv_fin v1) (nv_fin v2)
  subst hl
  have hb1 : Below w.heap.size w (w.alloc (.cells #[.slice A l.length c] 29)) := (Below.refl _ _).alloc (Nat.le_refl _) _
  have hP1 := Blk.new w 29 #[.slice A l.length c]
  have HV := validPoly_b A c w.heap.size l _ (hr.below hb1) hb1.size (by omega)
  rw [hv] at HV
  have HA := fun W => allFinite_b (some ⟨W.heap.size, 0, none⟩) 1 (W.heap.size + 1) [(x, y)] (W.alloc (.cells #[.complex .f32 x y] 26)) (comp_one W x y) (by simp) (by simp)
  have hfa : [(x, y)].all finCB = true := by simp [finCB, hfx, hfy]
  simp only [hfa] at HA
  clear hT hx hy hz hZ hG v1 v2 v3 hfx hfy hfa hv
  go_enter Try.func64, Try.ntmps64
  go_wp2_with fail
  (with_reducible refine HV.mono ?_)
  rintro e w1 ⟨rfl, hb2⟩
  clear HV
  have z2 := hb2.size
  simp only [World.size_alloc] at z2
  have hP2 := hP1.below hb2 (by simp)
  have hb3 := hb1.trans (hb2.mono (by simp))
  clear hP1 hb1 hb2
  have hb4 : Below w1.heap.size w1 (w1.alloc (.cells #[.complex .f32 x y] 26)) := (Below.refl _ _).alloc (Nat.le_refl _) _
  have hP3 := hP2.below hb4 (by omega)
  have z4 := hb4.size
  have hb5 := hb3.trans (hb4.mono (by omega))
  go_wp2_with fail
  refine (HA w1).mono ?_
  rintro e w2 ⟨rfl, hb6⟩
  clear HA
  have z6 := hb6.size
  have hP4 := hP3.below hb6 (by omega)
  have hb7 := hb5.trans (hb6.mono (by omega))
  clear hP2 hP3 hb3 hb4 hb5 hb6
  have cP : w2.cell? ⟨w.heap.size, 0, none⟩ = some (.slice A l.length c) := hP4.cell 0
  have HN2 := HN A c w.heap.size w2 (hr.below hb7)
  go_wp2_with fail
  (with_reducible refine HN2.mono ?_)
  rintro e w3 ⟨rfl, m, rfl⟩
  clear HN2 HN
  have hb8 := below_drewN hb7 m
  have z8 := hb8.size
  go_wp2_with fail
  refine (HF _).mono ?_
  rintro e w4 ⟨rfl, hb9⟩
  go_wp2
  go_ret2
  exact ⟨rfl, hb8.trans (hb9.mono (by omega))⟩
end Go.Proofs.Ytlilhebnbhlkhaa
namespace Go.Proofs.Ytlilhebnbhlkhaa
open Go.RowKit
theorem max_any {k : FloatKind} {x y : Nat} {a b : Rat} (hx : NV k x a) (hy : NV k y b) (ts : Array TypeId) (t : TypeId) : ∃ r c, NV k r c ∧ (a ≤ c ∧ b ≤ c ∧ (c = a ∨ c = b)) ∧ ∀ w, (Builtin.max_ ts t #[.float k x, .float k y]).run Try.prog w = .ok (.float k r) w := by
  obtain ⟨o1, o2, o3⟩ := order_val k hx hy
  rcases (show a < b ∨ a = b ∨ b < a by grind) with h | h | h
  · have ho := o1 h
    exact ⟨y, b, hy, ⟨by grind, by grind, .inr rfl⟩, fun w => by simp [Builtin.max_, Builtin.max2, ho]⟩
  · have ho := o2 h
    cases hn : (k.decode x).neg with
    | true => exact ⟨y, b, hy, ⟨by grind, by grind, .inr rfl⟩, fun w => by simp [Builtin.max_, Builtin.max2, ho, hn]⟩
    | false => exact ⟨x, a, hx, ⟨by grind, by grind, .inl rfl⟩, fun w => by simp [Builtin.max_, Builtin.max2, ho, hn]⟩
  · have ho := o3 h
    exact ⟨x, a, hx, ⟨by grind, by grind, .inl rfl⟩, fun w => by simp [Builtin.max_, Builtin.max2, ho]⟩
end Go.Proofs.Ytlilhebnbhlkhaa
namespace Go.Proofs.Ytlilhebnbhlkhaa
open Go.RowKit
def ab (x : Rat) : Rat := if x < 0 then -x else x
theorem ab_lm (x : Rat) : Lm x (ab x) := by
  unfold ab Lm; split <;> constructor <;> grind
end Go.Proofs.Ytlilhebnbhlkhaa
namespace Go.Proofs.Ytlilhebnbhlkhaa
open Go.RowKit
/-- The numbers lie at the block's beginning; nothing of it is frozen. -/
def CV (w : World) (g : Nat) (lo : List (Nat × Nat)) : Prop := ∃ sp : List Value, Blk w g 26 (cplx lo ++ sp).toArray
section
variable {w w' : World} {g : Nat} {lo : List (Nat × Nat)}
theorem CV.lt (h : CV w g lo) : g < w.heap.size := by obtain ⟨sp, h⟩ := h; exact Blk.lt h
theorem CV.cell (h : CV w g lo) {i : Nat} (hi : i < lo.length) : w.cell? ⟨g, i, none⟩ = some (.complex .f32 (lo.getD i (0, 0)).1 (lo.getD i (0, 0)).2) := by
  obtain ⟨sp, h⟩ := h
  rw [Blk.cell h i, List.getElem?_toArray, List.getElem?_append_left (by simpa using hi)]
  exact cplx_at hi
theorem CV.frozen (h : CV w g lo) (i : Nat) : w.frozen? ⟨g, i, none⟩ = false := by obtain ⟨sp, h⟩ := h; exact Blk.frozen h i
theorem CV.below {B : Nat} (h : CV w g lo) (hb : Below B w w') (hg : g < B) : CV w' g lo := by obtain ⟨sp, h⟩ := h; exact ⟨sp, Blk.below h hb hg⟩
theorem CV.drew (h : CV w g lo) : CV w.drew g lo := h
theorem CV.set (h : CV w g lo) {i : Nat} (hi : i < lo.length) (x y : Nat) : CV (w.setCell ⟨g, i, none⟩ (.complex .f32 x y)) g (lo.set i (x, y)) := by
  obtain ⟨sp, h⟩ := h
  refine ⟨sp, ?_⟩
  have h2 := Blk.set_ h i (.complex .f32 x y)
  have e : (cplx lo ++ sp).toArray.setIfInBounds i (.complex .f32 x y) = (cplx (lo.set i (x, y)) ++ sp).toArray := by
    rw [List.setIfInBounds_toArray, List.set_append, if_pos (by simpa using hi)]
    simp [cplx, List.map_set]
  rw [e] at h2
  exact h2
theorem CV.other (h : CV w g lo) {b o : Nat} (hb : b ≠ g) (u : Value) : CV (w.setCell ⟨b, o, none⟩ u) g lo := by
  obtain ⟨sp, h⟩ := h
  refine ⟨sp, ?_⟩
  unfold Blk at *
  rw [← h]
  exact Below.heap_setCell _ _ _ _ (by simpa using hb.symm)
theorem CV.own (h : CV w g lo) {a b : Nat} (h1 : a ≤ g) (h2 : g < b) : Own w a b 26 (some ⟨g, 0, none⟩) (cplx lo) := by
  obtain ⟨sp, h⟩ := h
  exact .inr ⟨g, _, rfl, h1, h2, h, by simp, by simp⟩
theorem CV.of_row {base n c : Nat} (h : w.ownsRow base 26 1 (.slice (some ⟨g, 0, none⟩) n c) n (cplx lo)) : CV w g lo := by
  obtain ⟨cs, hb, e1, e2, e3⟩ := blk_of_row h
  refine ⟨cs.toList.drop n, ?_⟩
  rw [← e2, List.take_append_drop]
  exact hb
theorem made_zero (n : Nat) : (madeCells (Value.complex .f32 0 0).cells (n * 1)).toList = cplx (List.replicate n (0, 0)) := by
  have : (madeCells (Value.complex .f32 0 0).cells (n * 1)) = (Array.range (n * 1)).map fun _ => Value.complex .f32 0 0 := by
    unfold madeCells
    congr 1
    funext j
    show (#[Value.complex .f32 0 0])[j % 1]! = _
    rw [Nat.mod_one]; rfl
  rw [this]
  refine List.ext_getElem (by simp [cplx]) fun i h1 h2 => ?_
  simp [cplx]
end
theorem getD_set {α : Type} (l : List α) (i k : Nat) (x d : α) (hi : i < l.length) : (l.set i x).getD k d = if k = i then x else l.getD k d := by
  simp only [List.getD, List.getElem?_set]
  by_cases e : i = k
  · subst e; simp [hi]
  · have e2 : ¬ k = i := fun h => e h.symm
    simp [e, e2]
/-- A trimmed list of finite numbers is a polynomial. -/
theorem trim_valid {l : List (Nat × Nat)} (h1 : 1 ≤ l.length) (h17 : l.length ≤ 17) (hf : ∀ k, k < l.length → fin32B (l.getD k (0, 0)).1 = true ∧ fin32B (l.getD k (0, 0)).2 = true) : polyB (l.take (trimN l l.length)) = true := by
  have hle := trimN_le l l.length
  have hpos := trimN_pos l l.length h1
  have hlen : (l.take (trimN l l.length)).length = trimN l l.length := by rw [List.length_take]; omega
  have hat : ∀ k, k < trimN l l.length → (l.take (trimN l l.length)).getD k (0, 0) = l.getD k (0, 0) := fun k hk => by simp [List.getD, hk]
  have hall : (l.take (trimN l l.length)).all finCB = true := by
    refine List.all_eq_true.2 fun z hz => ?_
    obtain ⟨k, hk, rfl⟩ := List.mem_iff_getElem.1 hz
    have e : (l.take (trimN l l.length)).getD k (0, 0) = (l.take (trimN l l.length))[k] := by rw [List.getD, List.getElem?_eq_getElem hk]; rfl
    rw [← e, hat k (by omega)]
    obtain ⟨a, b⟩ := hf k (by omega)
    unfold finCB
    rw [a, b]; rfl
  have hst := trimN_stop l l.length
  unfold polyB
  rw [hall, hlen]
  rcases hst with h | h
  · have : trimN l l.length = 1 := by omega
    rw [this]; rfl
  · rw [hat _ (by omega), h]
    simp; omega
theorem zeroC_val {x y : Nat} {a b : Rat} (hx : NV .f32 x a) (hy : NV .f32 y b) (h : zeroC (x, y) = true) : a = 0 ∧ b = 0 := by
  unfold zeroC at h
  rw [Bool.and_eq_true] at h
  have key : ∀ {x : Nat} {a : Rat}, NV .f32 x a → (FloatKind.f32.format.order x 0 == some .eq) = true → a = 0 := fun {x a} hx h => by
    have h1 := eq_of_beq h
    obtain ⟨o1, -, o3⟩ := order_val .f32 hx nv_zero
    rcases (show a < 0 ∨ a = 0 ∨ 0 < a by grind) with h2 | h2 | h2
    · rw [o1 h2] at h1; cases h1
    · exact h2
    · rw [o3 h2] at h1; cases h1
  exact ⟨key hx h.1, key hy h.2⟩
end Go.Proofs.Ytlilhebnbhlkhaa
namespace Go.Proofs.Ytlilhebnbhlkhaa
open Go.RowKit
theorem cplx_one (l : List (Nat × Nat)) : ∀ u ∈ cplx l, u.oneCell' = true := fun u hu => by
  obtain ⟨z, -, rfl⟩ := List.mem_map.1 hu
  rfl
theorem checkedList_yes (A : Option Addr) (c B n : Nat) (l : List (Nat × Nat)) (hl : l.length = n) (w : World) (hr : Reads w B 1 A n (cplx l)) (hB : B ≤ w.heap.size) (hn : n ≤ 1048576) (hf : ∀ k, k < n → fin32B (l.getD k (0, 0)).1 = true ∧ fin32B (l.getD k (0, 0)).2 = true) :
    Calls Try.prog 65 #[.slice A n c] w fun e w' => e = .returned (.tuple #[.slice A n c, .bool true]) ∧ Below w.heap.size w w' := by
  subst hl
  have hall : l.all finCB = true := List.all_eq_true.2 fun z hz => by
    obtain ⟨k, hk, rfl⟩ := List.mem_iff_getElem.1 hz
    have e : l.getD k (0, 0) = l[k] := by rw [List.getD, List.getElem?_eq_getElem hk]; rfl
    rw [← e]
    obtain ⟨a, b⟩ := hf k hk
    unfold finCB
    rw [a, b]; rfl
  have H := allFinite_b A c B l w hr hB hn
  rw [hall] at H
  clear hall hf hr
  go_enter Try.func65, Try.ntmps65
  go_wp2_with fail
  refine H.mono ?_
  rintro e w1 ⟨rfl, hb⟩
  go_wp2
  go_ret2
  exact ⟨rfl, hb⟩
end Go.Proofs.Ytlilhebnbhlkhaa
