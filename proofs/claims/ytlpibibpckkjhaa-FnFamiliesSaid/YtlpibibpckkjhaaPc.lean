/-
  Steps of floats by values, whatever their size: the error is a share of a bound.
  Contracts by values, whatever the size (impl.times, MulComplex, plus, minus, power, QuotientOf; laws.r8Gap, r8Far).
  A polynomial's value at a complex number by values (impl.nested, impl.PolyAt): the error is a share of what its terms' sizes give.
  Contracts by values: the greater of two numbers of any kind; laws.r8Long64, r8Size: no less than 0, nearly.
  A step of the sum of a family (impl.FamilySum) by values; the sum of the values by their weights.
  Families of all kinds by words (impl.rule, familyRow, FamilyRow, FamilyAt, RuleOf).
  The terms of families by words (impl.realAt, familyTerms, FamilyPoly).
  The sum of a family (impl.FamilySum) by values.
-/
import Derived.Test.YtlpibibpckkjhaaPb
namespace Go.Proofs.Ytlpibibpckkjhaa
open Go.RowKit
/-- The share of a bound that a step may be off. -/
def Un : FloatKind → Rat
  | .f32 => 1 / 16777216
  | .f64 => 1 / 9007199254740992
/-- A bound that is neither too small nor too great. -/
def Mid (M : Rat) : Prop := 1 / 1000000000000000000000000000 ≤ M ∧ M ≤ 1000000000000000000000000
theorem lvl {M : Rat} (h : Mid M) : ∃ k : Int, -100 ≤ k ∧ k ≤ 90 ∧ M < (2 : Rat) ^ k ∧ (2 : Rat) ^ k ≤ 2 * M := by
  obtain ⟨h1, h2⟩ := h
  have key : ∀ t : Nat, M < (2 : Rat) ^ ((t : Int) - 100) → ∃ s : Nat, s ≤ t ∧ M < (2 : Rat) ^ ((s : Int) - 100) ∧ (2 : Rat) ^ ((s : Int) - 100) ≤ 2 * M := by
    intro t
    induction t with
    | zero =>
      intro h
      exfalso
      have e : (2 : Rat) ^ (((0 : Nat) : Int) - 100) ≤ 1 / 1000000000000000000000000000 := by decide +kernel
      grind
    | succ t ih =>
      intro h
      by_cases hl : M < (2 : Rat) ^ ((t : Int) - 100)
      · obtain ⟨s, a, b, c⟩ := ih hl
        exact ⟨s, by omega, b, c⟩
      · refine ⟨t + 1, Nat.le_refl _, h, ?_⟩
        have e : ((t + 1 : Nat) : Int) - 100 = ((t : Int) - 100) + 1 := by omega
        have e2 : (2 : Rat) ^ (1 : Int) = 2 := by decide +kernel
        rw [e, pw_add, e2]
        grind
  have hb : M < (2 : Rat) ^ (((190 : Nat) : Int) - 100) := by
    have e : (1000000000000000000000000 : Rat) < (2 : Rat) ^ (((190 : Nat) : Int) - 100) := by decide +kernel
    grind
  obtain ⟨s, a, b, c⟩ := key 190 hb
  exact ⟨_, by omega, by omega, b, c⟩
theorem un_digs (fk : FloatKind) (k : Int) : (2 : Rat) ^ (k - digs fk) = (2 : Rat) ^ k * Un fk := by
  rw [Int.sub_eq_add_neg, pw_add]
  cases fk with
  | f32 => rw [show (2 : Rat) ^ (-digs .f32) = Un .f32 by decide +kernel]
  | f64 => rw [show (2 : Rat) ^ (-digs .f64) = Un .f64 by decide +kernel]
theorem un_pos (fk : FloatKind) : 0 ≤ Un fk := by cases fk <;> decide +kernel
theorem share {fk : FloatKind} {k : Int} {M c v : Rat} (hk : (2 : Rat) ^ k ≤ 2 * M) (b1 : 2 * c ≤ 2 * v + (2 : Rat) ^ (k - digs fk)) (b2 : 2 * v ≤ 2 * c + (2 : Rat) ^ (k - digs fk)) : Nr c v (M * Un fk) := by
  rw [un_digs] at b1 b2
  have h := Rat.mul_le_mul_of_nonneg_right hk (un_pos fk)
  unfold Nr
  constructor <;> grind
section
variable {fk : FloatKind} {x y : Nat} {a b M : Rat}
theorem addM (hx : NV fk x a) (hy : NV fk y b) (hM : Mid M) (h1 : -M ≤ a + b) (h2 : a + b ≤ M) : ∃ r c, floatBits .add fk x y = some r ∧ NV fk r c ∧ Nr c (a + b) (M * Un fk) := by
  obtain ⟨k, k1, k2, k3, k4⟩ := lvl hM
  obtain ⟨r, c, e, hc, b1, b2⟩ := add_ok fk k (by omega) (by omega) hx hy (by grind) (by grind)
  exact ⟨r, c, e, hc, share k4 b1 b2⟩
theorem subM (hx : NV fk x a) (hy : NV fk y b) (hM : Mid M) (h1 : -M ≤ a - b) (h2 : a - b ≤ M) : ∃ r c, floatBits .sub fk x y = some r ∧ NV fk r c ∧ Nr c (a - b) (M * Un fk) := by
  obtain ⟨k, k1, k2, k3, k4⟩ := lvl hM
  obtain ⟨r, c, e, hc, b1, b2⟩ := sub_ok fk k (by omega) (by omega) hx hy (by grind) (by grind)
  exact ⟨r, c, e, hc, share k4 b1 b2⟩
theorem mulM (hx : NV fk x a) (hy : NV fk y b) (hM : Mid M) (h1 : -M ≤ a * b) (h2 : a * b ≤ M) : ∃ r c, floatBits .mul fk x y = some r ∧ NV fk r c ∧ Nr c (a * b) (M * Un fk) := by
  obtain ⟨k, k1, k2, k3, k4⟩ := lvl hM
  obtain ⟨r, c, e, hc, b1, b2⟩ := mul_ok fk k (by omega) (by omega) hx hy (by grind) (by grind)
  exact ⟨r, c, e, hc, share k4 b1 b2⟩
theorem quoM {q : Rat} (hx : NV fk x a) (hy : NV fk y b) (hb : b ≠ 0) (hq : q * b = a) (hM : Mid M) (h1 : -M ≤ q) (h2 : q ≤ M) : ∃ r c, floatBits .quo fk x y = some r ∧ NV fk r c ∧ Nr c q (4 * M * Un fk) := by
  obtain ⟨k, k1, k2, k3, k4⟩ := lvl hM
  obtain ⟨r, c, e, hc, b1, b2⟩ := quo_ok fk k (by omega) (by omega) hx hy hb hq (by grind) (by grind)
  refine ⟨r, c, e, hc, ?_⟩
  have e1 : k + 1 - digs fk = (k - digs fk) + 1 := by omega
  have e2 : (2 : Rat) ^ (1 : Int) = 2 := by decide +kernel
  rw [e1, pw_add, e2, un_digs] at b1 b2
  have h := Rat.mul_le_mul_of_nonneg_right k4 (un_pos fk)
  unfold Nr
  constructor <;> grind
end
theorem narM {x : Nat} {a M : Rat} (hx : NV .f64 x a) (hM : Mid M) (h1 : -M ≤ a) (h2 : a ≤ M) : ∃ r c, floatToFloatBits .f64 x .f32 = some r ∧ NV .f32 r c ∧ Nr c a (M * Un .f32) := by
  obtain ⟨k, k1, k2, k3, k4⟩ := lvl hM
  obtain ⟨r, c, e, hc, b1, b2⟩ := conv_ok .f64 .f32 (by decide) k (by omega) (by omega) hx (by grind) (by grind)
  exact ⟨r, c, e, hc, share k4 b1 b2⟩
theorem un32 : Un .f32 = 1 / 16777216 := rfl
theorem un64 : Un .f64 = 1 / 9007199254740992 := rfl
/-- a lies between -M and M. -/
def Lm (a M : Rat) : Prop := -M ≤ a ∧ a ≤ M
theorem Lm.mul {a b A B : Rat} (h : Lm a A) (k : Lm b B) : Lm (a * b) (A * B) := by
  unfold Lm at *
  have m1 := Rat.mul_nonneg (show (0 : Rat) ≤ A - a by grind) (show (0 : Rat) ≤ B - b by grind)
  have m2 := Rat.mul_nonneg (show (0 : Rat) ≤ A - a by grind) (show (0 : Rat) ≤ B + b by grind)
  have m3 := Rat.mul_nonneg (show (0 : Rat) ≤ A + a by grind) (show (0 : Rat) ≤ B - b by grind)
  have m4 := Rat.mul_nonneg (show (0 : Rat) ≤ A + a by grind) (show (0 : Rat) ≤ B + b by grind)
  constructor <;> grind
theorem Lm.add {a b A B : Rat} (h : Lm a A) (k : Lm b B) : Lm (a + b) (A + B) := by
  unfold Lm at *; constructor <;> grind
theorem Lm.sub {a b A B : Rat} (h : Lm a A) (k : Lm b B) : Lm (a - b) (A + B) := by
  unfold Lm at *; constructor <;> grind
theorem Lm.neg {a A : Rat} (h : Lm a A) : Lm (-a) A := by
  unfold Lm at *; constructor <;> grind
theorem Lm.le {a A B : Rat} (h : Lm a A) (hB : A ≤ B) : Lm a B := by
  unfold Lm at *; constructor <;> grind
theorem Lm.of {a b A e : Rat} (h : Lm b A) (k : Nr a b e) : Lm a (A + e) := by
  unfold Lm Nr at *; constructor <;> grind
theorem Lm.pos {a A : Rat} (h : Lm a A) : 0 ≤ A := by unfold Lm at h; grind
theorem lm_nr {a b e : Rat} : Nr a b e ↔ Lm (a - b) e := by
  unfold Lm Nr; constructor <;> (intro h; constructor <;> grind)
/-- Products of numbers that are known up to errors. -/
theorem Nr.mul {a b u v A B e f : Rat} (h : Nr a u e) (k : Nr b v f) (hu : Lm u A) (hv : Lm v B) : Nr (a * b) (u * v) (A * f + B * e + e * f) := by
  rw [lm_nr] at *
  have h1 := hu.mul k
  have h2 := hv.mul h
  have h3 := h.mul k
  have e1 : a * b - u * v = u * (b - v) + v * (a - u) + (a - u) * (b - v) := by grind
  rw [e1]
  exact (h1.add h2).add h3
theorem Nr.sub {a b u v e f : Rat} (h : Nr a u e) (k : Nr b v f) : Nr (a - b) (u - v) (e + f) := by unfold Nr at *; constructor <;> grind
theorem Nr.trans {a b c e f : Rat} (h : Nr a b e) (k : Nr b c f) : Nr a c (e + f) := by unfold Nr at *; constructor <;> grind
theorem Nr.le {a b e f : Rat} (h : Nr a b e) (hf : e ≤ f) : Nr a b f := by unfold Nr at *; constructor <;> grind
theorem Nr.refl (a : Rat) : Nr a a 0 := by unfold Nr; constructor <;> grind
end Go.Proofs.Ytlpibibpckkjhaa
namespace Go.Proofs.Ytlpibibpckkjhaa
open Go.RowKit
/-- A bound of a leaf: neither too small nor too great. -/
def Md (M : Rat) : Prop := 1 / 100000000000000000000 ≤ M ∧ M ≤ 1000000000000000000
theorem Md.mid {M : Rat} (h : Md M) : Mid M := ⟨by have := h.1; grind, by have := h.2; grind⟩
theorem Md.mid4 {M : Rat} (h : Md M) : Mid (4 * M) := ⟨by have := h.1; grind, by have := h.2; grind⟩
theorem Md.pos {M : Rat} (h : Md M) : 0 < M := by obtain ⟨h1, -⟩ := h; grind
/-- The parts of a product before they are narrowed. -/
theorem times_m {x1 x2 y1 y2 : Nat} {a b c d M : Rat} (hx1 : NV .f32 x1 a) (hx2 : NV .f32 x2 b) (hy1 : NV .f32 y1 c) (hy2 : NV .f32 y2 d) (hM : Md M) (h1 : Lm (a * c) M) (h2 : Lm (b * d) M) (h3 : Lm (a * d) M) (h4 : Lm (b * c) M) :
    ∃ p q π κ, NV .f64 p π ∧ NV .f64 q κ ∧ Nr π (a * c - b * d) (M / 1000000000000000) ∧ Nr κ (a * d + b * c) (M / 1000000000000000) ∧
      ∀ w, Calls Try.prog 92 #[.complex .f32 x1 x2, .complex .f32 y1 y2] w fun e w' => e = .returned (.tuple #[.float .f64 p, .float .f64 q]) ∧ w' = w := by
  have hp := hM.pos
  unfold Lm at h1 h2 h3 h4
  obtain ⟨u1, f1, n1⟩ := wide_exact hx1
  obtain ⟨u2, f2, n2⟩ := wide_exact hx2
  obtain ⟨v1, f3, n3⟩ := wide_exact hy1
  obtain ⟨v2, f4, n4⟩ := wide_exact hy2
  obtain ⟨r1, c1, g1, m1, e1⟩ := mulM n1 n3 hM.mid h1.1 h1.2
  obtain ⟨r2, c2, g2, m2, e2⟩ := mulM n2 n4 hM.mid h2.1 h2.2
  obtain ⟨r3, c3, g3, m3, e3⟩ := mulM n1 n4 hM.mid h3.1 h3.2
  obtain ⟨r4, c4, g4, m4, e4⟩ := mulM n2 n3 hM.mid h4.1 h4.2
  rw [un64] at e1 e2 e3 e4
  unfold Nr at e1 e2 e3 e4
  obtain ⟨p, π, g5, m5, e5⟩ := subM m1 m2 hM.mid4 (by grind) (by grind)
  obtain ⟨q, κ, g6, m6, e6⟩ := addM m3 m4 hM.mid4 (by grind) (by grind)
  rw [un64] at e5 e6
  unfold Nr at e5 e6
  have k1 := cvW f1
  have k2 := cvW f2
  have k3 := cvW f3
  have k4 := cvW f4
  have j1 := ar64 _ _ _ _ g1
  have j2 := ar64 _ _ _ _ g2
  have j3 := ar64 _ _ _ _ g3
  have j4 := ar64 _ _ _ _ g4
  have j5 := ar64 _ _ _ _ g5
  have j6 := ar64 _ _ _ _ g6
  refine ⟨p, q, π, κ, m5, m6, by unfold Nr; constructor <;> grind, by unfold Nr; constructor <;> grind, fun w => ?_⟩
  clear f1 f2 f3 f4 g1 g2 g3 g4 g5 g6 e1 e2 e3 e4 e5 e6 m1 m2 m3 m4 m5 m6 n1 n2 n3 n4 hx1 hx2 hy1 hy2 h1 h2 h3 h4 hM hp
  go_enter Try.func92, Try.ntmps92
  go_wp2
  go_ret2
  exact ⟨rfl, rfl⟩
/-- The product of complex numbers. -/
theorem mulC_m {x1 x2 y1 y2 : Nat} {a b c d M : Rat} (hx1 : NV .f32 x1 a) (hx2 : NV .f32 x2 b) (hy1 : NV .f32 y1 c) (hy2 : NV .f32 y2 d) (hM : Md M) (h1 : Lm (a * c) M) (h2 : Lm (b * d) M) (h3 : Lm (a * d) M) (h4 : Lm (b * c) M) (h5 : Lm (a * c - b * d) M) (h6 : Lm (a * d + b * c) M) :
    ∃ p q π κ, NV .f32 p π ∧ NV .f32 q κ ∧ Nr π (a * c - b * d) (M / 16000000) ∧ Nr κ (a * d + b * c) (M / 16000000) ∧
      ∀ w, Calls Try.prog 58 #[.complex .f32 x1 x2, .complex .f32 y1 y2] w fun e w' => e = .returned (.complex .f32 p q) ∧ w' = w := by
  have hp := hM.pos
  obtain ⟨p, q, π, κ, n1, n2, e1, e2, HT⟩ := times_m hx1 hx2 hy1 hy2 hM h1 h2 h3 h4
  have hM2 : Mid (M + M / 1000000000000000) := ⟨by have := hM.1; grind, by have := hM.2; grind⟩
  unfold Lm at h5 h6
  unfold Nr at e1 e2
  obtain ⟨p', π', g1, m1, e3⟩ := narM n1 hM2 (by grind) (by grind)
  obtain ⟨q', κ', g2, m2, e4⟩ := narM n2 hM2 (by grind) (by grind)
  rw [un32] at e3 e4
  unfold Nr at e3 e4
  have k1 := cvN g1
  have k2 := cvN g2
  refine ⟨p', q', π', κ', m1, m2, by unfold Nr; constructor <;> grind, by unfold Nr; constructor <;> grind, fun w => ?_⟩
  clear e1 e2 e3 e4 g1 g2 m1 m2 n1 n2 hx1 hx2 hy1 hy2 h1 h2 h3 h4 h5 h6 hM2 hp hM
  go_enter Try.func58, Try.ntmps58
  go_wp2_with fail
  refine (HT w).mono ?_
  rintro e w1 ⟨rfl, rfl⟩
  go_wp2
  go_ret
  exact ⟨rfl, rfl⟩
theorem plus_m {x1 x2 y1 y2 : Nat} {a b c d M : Rat} (hx1 : NV .f32 x1 a) (hx2 : NV .f32 x2 b) (hy1 : NV .f32 y1 c) (hy2 : NV .f32 y2 d) (hM : Md M) (h1 : Lm (a + c) M) (h2 : Lm (b + d) M) :
    ∃ p q π κ, NV .f32 p π ∧ NV .f32 q κ ∧ Nr π (a + c) (M / 16000000) ∧ Nr κ (b + d) (M / 16000000) ∧
      ∀ w, Calls Try.prog 57 #[.complex .f32 x1 x2, .complex .f32 y1 y2] w fun e w' => e = .returned (.complex .f32 p q) ∧ w' = w := by
  have hp := hM.pos
  obtain ⟨p, π, g1, m1, e1⟩ := addM hx1 hy1 hM.mid h1.1 h1.2
  obtain ⟨q, κ, g2, m2, e2⟩ := addM hx2 hy2 hM.mid h2.1 h2.2
  rw [un32] at e1 e2
  have j1 := ar32 _ _ _ _ g1
  have j2 := ar32 _ _ _ _ g2
  refine ⟨p, q, π, κ, m1, m2, e1.le (by grind), e2.le (by grind), fun w => ?_⟩
  clear e1 e2 g1 g2 m1 m2 hx1 hx2 hy1 hy2 h1 h2 hM hp
  go_enter Try.func57, Try.ntmps57
  go_wp2
  go_ret
  exact ⟨rfl, rfl⟩
theorem minus_m {x1 x2 y1 y2 : Nat} {a b c d M : Rat} (hx1 : NV .f32 x1 a) (hx2 : NV .f32 x2 b) (hy1 : NV .f32 y1 c) (hy2 : NV .f32 y2 d) (hM : Md M) (h1 : Lm (a - c) M) (h2 : Lm (b - d) M) :
    ∃ p q π κ, NV .f32 p π ∧ NV .f32 q κ ∧ Nr π (a - c) (M / 16000000) ∧ Nr κ (b - d) (M / 16000000) ∧
      ∀ w, Calls Try.prog 61 #[.complex .f32 x1 x2, .complex .f32 y1 y2] w fun e w' => e = .returned (.complex .f32 p q) ∧ w' = w := by
  have hp := hM.pos
  obtain ⟨p, π, g1, m1, e1⟩ := subM hx1 hy1 hM.mid h1.1 h1.2
  obtain ⟨q, κ, g2, m2, e2⟩ := subM hx2 hy2 hM.mid h2.1 h2.2
  rw [un32] at e1 e2
  have j1 := ar32 _ _ _ _ g1
  have j2 := ar32 _ _ _ _ g2
  refine ⟨p, q, π, κ, m1, m2, e1.le (by grind), e2.le (by grind), fun w => ?_⟩
  clear e1 e2 g1 g2 m1 m2 hx1 hx2 hy1 hy2 h1 h2 hM hp
  go_enter Try.func61, Try.ntmps61
  go_wp2
  go_ret
  exact ⟨rfl, rfl⟩
theorem conj_w (x y : Nat) (w : World) :
    Calls Try.prog 93 #[.complex .f32 x y] w fun e w' => e = .returned (.complex .f32 x (Op.negFloat .f32 y)) ∧ w' = w := by
  have kn : ∀ w, (Op.unary .neg (.float .f32 y)).run Try.prog w = .ok (.float .f32 (Op.negFloat .f32 y)) w := fun w => rfl
  generalize Op.negFloat .f32 y = z at *
  go_enter Try.func93, Try.ntmps93
  go_wp2
  go_ret
  exact ⟨rfl, rfl⟩
theorem power_m {x1 x2 : Nat} {a b Q : Rat} (hx1 : NV .f32 x1 a) (hx2 : NV .f32 x2 b) (hQ : a * a + b * b = Q) (hM : Md Q) :
    ∃ p π, NV .f64 p π ∧ Nr π Q (Q / 1000000000000000) ∧ ∀ w, Calls Try.prog 94 #[.complex .f32 x1 x2] w fun e w' => e = .returned (.float .f64 p) ∧ w' = w := by
  have hp := hM.pos
  have s1 := sq_nonneg a
  have s2 := sq_nonneg b
  obtain ⟨u1, f1, n1⟩ := wide_exact hx1
  obtain ⟨u2, f2, n2⟩ := wide_exact hx2
  obtain ⟨r1, c1, g1, m1, e1⟩ := mulM n1 n1 hM.mid (by grind) (by grind)
  obtain ⟨r2, c2, g2, m2, e2⟩ := mulM n2 n2 hM.mid (by grind) (by grind)
  rw [un64] at e1 e2
  unfold Nr at e1 e2
  obtain ⟨p, π, g5, m5, e5⟩ := addM m1 m2 hM.mid4 (by grind) (by grind)
  rw [un64] at e5
  unfold Nr at e5
  have k1 := cvW f1
  have k2 := cvW f2
  have j1 := ar64 _ _ _ _ g1
  have j2 := ar64 _ _ _ _ g2
  have j5 := ar64 _ _ _ _ g5
  refine ⟨p, π, m5, by unfold Nr; constructor <;> grind, fun w => ?_⟩
  clear f1 f2 g1 g2 g5 e1 e2 e5 m1 m2 m5 n1 n2 hx1 hx2 hM hp s1 s2 hQ
  go_enter Try.func94, Try.ntmps94
  go_wp2
  go_ret
  exact ⟨rfl, rfl⟩
/-- A quotient of numbers that are off by shares. -/
theorem quo_share {v p v0 Q q M : Rat} (hQ : 0 < Q) (hq : q * Q = v0) (hM : 0 < M) (l : Lm q M) (e1 : Nr v v0 (M * Q / 100000000000000)) (e2 : Nr p Q (Q / 1000000000000000)) : 0 < p ∧ ∃ r, r * p = v ∧ Nr r q (M / 50000000000000) := by
  unfold Nr at e1 e2
  have hp : 0 < p := by grind
  refine ⟨hp, v / p, Rat.div_mul_cancel (by grind), ?_⟩
  have hr : v / p * p = v := Rat.div_mul_cancel (by grind)
  generalize v / p = r at *
  unfold Lm at l
  -- r p - q p = v - v0 + q (Q - p)
  have k1 := Rat.mul_nonneg (show (0 : Rat) ≤ M - q by grind) (show (0 : Rat) ≤ Q / 1000000000000000 - (p - Q) by grind)
  have k2 := Rat.mul_nonneg (show (0 : Rat) ≤ M - q by grind) (show (0 : Rat) ≤ Q / 1000000000000000 + (p - Q) by grind)
  have k3 := Rat.mul_nonneg (show (0 : Rat) ≤ M + q by grind) (show (0 : Rat) ≤ Q / 1000000000000000 - (p - Q) by grind)
  have k4 := Rat.mul_nonneg (show (0 : Rat) ≤ M + q by grind) (show (0 : Rat) ≤ Q / 1000000000000000 + (p - Q) by grind)
  have hMQ := Rat.mul_pos hM hQ
  have hMp := Rat.mul_nonneg (Rat.le_of_lt hM) (show (0 : Rat) ≤ p - (Q - Q / 1000000000000000) by grind)
  constructor
  · rcases (show r ≤ q + M / 50000000000000 ∨ 0 ≤ r - q - M / 50000000000000 by grind) with h | h
    · exact h
    · have h2 := Rat.mul_nonneg h (Rat.le_of_lt hp)
      grind
  · rcases (show q ≤ r + M / 50000000000000 ∨ 0 ≤ q - r - M / 50000000000000 by grind) with h | h
    · exact h
    · have h2 := Rat.mul_nonneg h (Rat.le_of_lt hp)
      grind
/-- The quotient of complex numbers. -/
theorem quoC_m {x1 x2 y1 y2 : Nat} {a b c d Q q1 q2 M : Rat} (hx1 : NV .f32 x1 a) (hx2 : NV .f32 x2 b) (hy1 : NV .f32 y1 c) (hy2 : NV .f32 y2 d) (hQ : c * c + d * d = Q) (hMQ : Md Q) (hM : Md M) (hN : Md (4 * M * Q)) (e1 : q1 * Q = a * c + b * d) (e2 : q2 * Q = b * c - a * d) (l1 : Lm q1 M) (l2 : Lm q2 M)
    (h1 : Lm (a * c) (4 * M * Q)) (h2 : Lm (b * d) (4 * M * Q)) (h3 : Lm (a * d) (4 * M * Q)) (h4 : Lm (b * c) (4 * M * Q)) :
    ∃ p q π κ, NV .f32 p π ∧ NV .f32 q κ ∧ Nr π q1 (M / 16000000) ∧ Nr κ q2 (M / 16000000) ∧
      ∀ w, Calls Try.prog 60 #[.complex .f32 x1 x2, .complex .f32 y1 y2] w fun e w' => e = .returned (.complex .f32 p q) ∧ w' = w := by
  have hp := hM.pos
  have hq := hMQ.pos
  have s2 : Lm (b * -d) (4 * M * Q) := by rw [show b * -d = -(b * d) by grind]; exact h2.neg
  have s3 : Lm (a * -d) (4 * M * Q) := by rw [show a * -d = -(a * d) by grind]; exact h3.neg
  obtain ⟨p, q, π, κ, n1, n2, r1, r2, HT⟩ := times_m hx1 hx2 hy1 (neg_val hy2) hN h1 s2 s3 h4
  obtain ⟨p0, π0, n3, r3, HP⟩ := power_m hy1 hy2 hQ hMQ
  have r1' : Nr π (a * c + b * d) (M * Q / 100000000000000) := by unfold Nr at *; constructor <;> grind
  have r2' : Nr κ (b * c - a * d) (M * Q / 100000000000000) := by unfold Nr at *; constructor <;> grind
  obtain ⟨t0, t1, u1, v1⟩ := quo_share hq e1 hp l1 r1' r3
  obtain ⟨-, t2, u2, v2⟩ := quo_share hq e2 hp l2 r2' r3
  have b1 := l1.of v1
  have b2 := l2.of v2
  have hM2 : Mid (M + M / 50000000000000) := ⟨by have := hM.1; grind, by have := hM.2; grind⟩
  have hM3 : Mid (M + M / 1000000000000) := ⟨by have := hM.1; grind, by have := hM.2; grind⟩
  obtain ⟨d1, δ1, g1, m1, w1⟩ := quoM n1 n3 (by grind) u1 hM2 b1.1 b1.2
  obtain ⟨d2, δ2, g2, m2, w2⟩ := quoM n2 n3 (by grind) u2 hM2 b2.1 b2.2
  rw [un64] at w1 w2
  unfold Nr at w1 w2 v1 v2
  unfold Lm at l1 l2
  obtain ⟨p', π', g3, m3, e3⟩ := narM m1 hM3 (by grind) (by grind)
  obtain ⟨q', κ', g4, m4, e4⟩ := narM m2 hM3 (by grind) (by grind)
  rw [un32] at e3 e4
  unfold Nr at e3 e4
  have HC := conj_w y1 y2
  have k1 := cvN g3
  have k2 := cvN g4
  have j1 := ar64 _ _ _ _ g1
  have j2 := ar64 _ _ _ _ g2
  refine ⟨p', q', π', κ', m3, m4, by unfold Nr; constructor <;> grind, by unfold Nr; constructor <;> grind, fun w => ?_⟩
  clear e1 e2 e3 e4 g1 g2 g3 g4 m1 m2 m3 m4 n1 n2 n3 hx1 hx2 hy1 hy2 h1 h2 h3 h4 hM2 hM3 hp hM hN hMQ hQ r1 r2 r3 r1' r2' u1 u2 v1 v2 w1 w2 b1 b2 l1 l2 s2 s3 t0 hq
  generalize Op.negFloat .f32 y2 = z at *
  go_enter Try.func60, Try.ntmps60
  go_wp2_with fail
  refine (HC w).mono ?_
  rintro e w1 ⟨rfl, rfl⟩
  go_wp2_with fail
  refine (HT _).mono ?_
  rintro e w1 ⟨rfl, rfl⟩
  go_wp2_with fail
  refine (HP _).mono ?_
  rintro e w1 ⟨rfl, rfl⟩
  go_wp2
  go_ret
  exact ⟨rfl, rfl⟩
/-- How far numbers are apart. -/
theorem gap_m {x y : Nat} {a b M : Rat} (hx : NV .f64 x a) (hy : NV .f64 y b) (hM : Md M) (h : Lm (a - b) M) :
    ∃ r c, NV .f64 r c ∧ 0 - M / 1000000000000000 ≤ c ∧ (a - b ≤ c + M / 1000000000000000 ∧ b - a ≤ c + M / 1000000000000000) ∧ (∀ e, Nr a b e → c ≤ e + M / 1000000000000000) ∧
      ∀ w, Calls Try.prog 12 #[.float .f64 x, .float .f64 y] w fun e w' => e = .returned (.float .f64 r) ∧ w' = w := by
  have hp := hM.pos
  have h2 : Lm (b - a) M := by rw [show b - a = -(a - b) by grind]; exact h.neg
  obtain ⟨p, π, g1, m1, e1⟩ := subM hx hy hM.mid h.1 h.2
  obtain ⟨q, κ, g2, m2, e2⟩ := subM hy hx hM.mid h2.1 h2.2
  rw [un64] at e1 e2
  unfold Nr at e1 e2
  obtain ⟨r, c, hr, hc, HM⟩ := max_run m1 m2 #[39, 39] 39
  have j1 := ar64 _ _ _ _ g1
  have j2 := ar64 _ _ _ _ g2
  refine ⟨r, c, hr, by grind, by grind, fun e he => by unfold Nr at he; grind, fun w => ?_⟩
  clear e1 e2 g1 g2 m1 m2 hx hy h hr hc h2 hM hp
  go_enter Try.func12, Try.ntmps12
  go_wp2
  go_ret
  exact ⟨rfl, rfl⟩
theorem far_m {x1 x2 y1 y2 : Nat} {a b c d M : Rat} (hx1 : NV .f32 x1 a) (hx2 : NV .f32 x2 b) (hy1 : NV .f32 y1 c) (hy2 : NV .f32 y2 d) (hM : Md M) (h1 : Lm (a - c) M) (h2 : Lm (b - d) M) :
    ∃ r v, NV .f64 r v ∧ 0 - M / 100000000000000 ≤ v ∧ (∀ e f, Nr a c e → Nr b d f → v ≤ e + f + M / 100000000000000) ∧
      ∀ w, Calls Try.prog 18 #[.complex .f32 x1 x2, .complex .f32 y1 y2] w fun e w' => e = .returned (.float .f64 r) ∧ w' = w := by
  have hp := hM.pos
  obtain ⟨u1, f1, n1⟩ := wide_exact hx1
  obtain ⟨u2, f2, n2⟩ := wide_exact hx2
  obtain ⟨v1, f3, n3⟩ := wide_exact hy1
  obtain ⟨v2, f4, n4⟩ := wide_exact hy2
  obtain ⟨p, π, q1, q2, -, q3, HG1⟩ := gap_m n1 n3 hM h1
  obtain ⟨q, κ, s1, s2, -, s3, HG2⟩ := gap_m n2 n4 hM h2
  have b1 := q3 M (by unfold Nr; unfold Lm at h1; constructor <;> grind)
  have b2 := s3 M (by unfold Nr; unfold Lm at h2; constructor <;> grind)
  obtain ⟨r, v, g, m, e⟩ := addM q1 s1 hM.mid4 (by grind) (by grind)
  rw [un64] at e
  unfold Nr at e
  have k1 := cvW f1
  have k2 := cvW f2
  have k3 := cvW f3
  have k4 := cvW f4
  have j := ar64 _ _ _ _ g
  refine ⟨r, v, m, by grind, fun e1 e2 h3 h4 => by have := q3 e1 h3; have := s3 e2 h4; grind, fun w => ?_⟩
  clear f1 f2 f3 f4 n1 n2 n3 n4 q1 q2 q3 s1 s2 s3 b1 b2 g m e hx1 hx2 hy1 hy2 h1 h2 hM hp
  go_enter Try.func18, Try.ntmps18
  go_wp2_with fail
  refine (HG1 w).mono ?_
  rintro e w1 ⟨rfl, rfl⟩
  go_wp2_with fail
  refine (HG2 _).mono ?_
  rintro e w2 ⟨rfl, rfl⟩
  go_wp2
  go_ret
  exact ⟨rfl, rfl⟩
end Go.Proofs.Ytlpibibpckkjhaa
namespace Go.Proofs.Ytlpibibpckkjhaa
open Go.RowKit
/-- The sum of the sizes of a and b is at most M. -/
def N1 (a b M : Rat) : Prop := a + b ≤ M ∧ a - b ≤ M ∧ -a + b ≤ M ∧ -a - b ≤ M
section
variable {a b c d A B C e f : Rat}
theorem N1.fst (h : N1 a b A) : Lm a A := by unfold N1 at h; unfold Lm; constructor <;> grind
theorem N1.snd (h : N1 a b A) : Lm b A := by unfold N1 at h; unfold Lm; constructor <;> grind
theorem N1.pos (h : N1 a b A) : 0 ≤ A := by unfold N1 at h; grind
theorem N1.add (h : N1 a b A) (k : N1 c d C) : N1 (a + c) (b + d) (A + C) := by unfold N1 at *; refine ⟨?_, ?_, ?_, ?_⟩ <;> grind
theorem N1.le (h : N1 a b A) (hB : A ≤ B) : N1 a b B := by unfold N1 at *; refine ⟨?_, ?_, ?_, ?_⟩ <;> grind
theorem N1.of (h : N1 c d C) (k : N1 (a - c) (b - d) e) : N1 a b (C + e) := by unfold N1 at *; refine ⟨?_, ?_, ?_, ?_⟩ <;> grind
theorem N1.lm (h : Lm a A) (k : Lm b B) : N1 a b (A + B) := by unfold Lm at *; unfold N1; refine ⟨?_, ?_, ?_, ?_⟩ <;> grind
theorem N1.nr (h : Nr a c e) (k : Nr b d f) : N1 (a - c) (b - d) (e + f) := N1.lm (lm_nr.1 h) (lm_nr.1 k)
theorem N1.lin {s t : Rat} (h : N1 a b A) (hs : Lm s C) (ht : Lm t C) : Lm (a * s + b * t) (A * C) := by
  unfold Lm at hs ht
  have hC : 0 ≤ C := by grind
  unfold N1 at h
  have p1 := fun (x : Rat) (hx : 0 ≤ x) => Rat.mul_nonneg hx (show (0 : Rat) ≤ C - s by grind)
  have p2 := fun (x : Rat) (hx : 0 ≤ x) => Rat.mul_nonneg hx (show (0 : Rat) ≤ C + s by grind)
  have p3 := fun (x : Rat) (hx : 0 ≤ x) => Rat.mul_nonneg hx (show (0 : Rat) ≤ C - t by grind)
  have p4 := fun (x : Rat) (hx : 0 ≤ x) => Rat.mul_nonneg hx (show (0 : Rat) ≤ C + t by grind)
  rcases (show 0 ≤ a ∨ 0 ≤ -a by grind) with ha | ha <;> rcases (show 0 ≤ b ∨ 0 ≤ -b by grind) with hb | hb
  · have m0 := Rat.mul_nonneg hC (show (0 : Rat) ≤ A - (a + b) by grind)
    have m1 := p1 _ ha
    have m2 := p2 _ ha
    have m3 := p3 _ hb
    have m4 := p4 _ hb
    unfold Lm; constructor <;> grind
  · have m0 := Rat.mul_nonneg hC (show (0 : Rat) ≤ A - (a - b) by grind)
    have m1 := p1 _ ha
    have m2 := p2 _ ha
    have m3 := p3 _ hb
    have m4 := p4 _ hb
    unfold Lm; constructor <;> grind
  · have m0 := Rat.mul_nonneg hC (show (0 : Rat) ≤ A - (-a + b) by grind)
    have m1 := p1 _ ha
    have m2 := p2 _ ha
    have m3 := p3 _ hb
    have m4 := p4 _ hb
    unfold Lm; constructor <;> grind
  · have m0 := Rat.mul_nonneg hC (show (0 : Rat) ≤ A - (-a - b) by grind)
    have m1 := p1 _ ha
    have m2 := p2 _ ha
    have m3 := p3 _ hb
    have m4 := p4 _ hb
    unfold Lm; constructor <;> grind
theorem N1.mul (h : N1 a b A) (k : N1 c d C) : N1 (a * c - b * d) (a * d + b * c) (A * C) := by
  have hs : Lm (c + d) C := by unfold N1 at k; unfold Lm; constructor <;> grind
  have ht : Lm (c - d) C := by unfold N1 at k; unfold Lm; constructor <;> grind
  have h1 := h.lin hs ht
  have h2 := h.lin ht (show Lm (-(c + d)) C from hs.neg)
  unfold Lm at h1 h2
  unfold N1
  refine ⟨?_, ?_, ?_, ?_⟩ <;> grind
/-- The products of the parts. -/
theorem N1.prods (h : N1 a b A) (k : N1 c d C) : Lm (a * c) (A * C) ∧ Lm (b * d) (A * C) ∧ Lm (a * d) (A * C) ∧ Lm (b * c) (A * C) := ⟨h.fst.mul k.fst, h.snd.mul k.snd, h.fst.mul k.snd, h.snd.mul k.fst⟩
end
/-- The value from the top down. -/
def hC (re im : Nat → Rat) (ξ η : Rat) (n : Nat) : Nat → Rat × Rat
  | 0 => (re (n - 1), im (n - 1))
  | j + 1 => ((hC re im ξ η n j).1 * ξ - (hC re im ξ η n j).2 * η + re (n - 2 - j), (hC re im ξ η n j).1 * η + (hC re im ξ η n j).2 * ξ + im (n - 2 - j))
/-- What the sizes give. -/
def gC (L : Nat → Rat) (Z : Rat) (n : Nat) : Nat → Rat
  | 0 => L (n - 1)
  | j + 1 => gC L Z n j * Z + L (n - 2 - j)
/-- Terms as values, with sizes. -/
def TrmN (l : List (Nat × Nat)) (re im L : Nat → Rat) : Prop := ∀ k, k < l.length → NV .f32 (l.getD k (0, 0)).1 (re k) ∧ NV .f32 (l.getD k (0, 0)).2 (im k) ∧ N1 (re k) (im k) (L k) ∧ 1 / 1000000 ≤ L k
theorem gC_pos {l : List (Nat × Nat)} {re im L : Nat → Rat} {Z : Rat} {n : Nat} (hT : TrmN l re im L) (hl : l.length = n) (hZ : 0 ≤ Z) : ∀ j, j < n → 1 / 1000000 ≤ gC L Z n j
  | 0, hj => (hT (n - 1) (by omega)).2.2.2
  | j + 1, hj => by
    have ih := gC_pos hT hl hZ j (by omega)
    have h := (hT (n - 2 - j) (by omega)).2.2.2
    have m := Rat.mul_nonneg (show (0 : Rat) ≤ gC L Z n j by grind) hZ
    rw [gC]
    grind
theorem hC_bd {l : List (Nat × Nat)} {re im L : Nat → Rat} {ξ η Z : Rat} {n : Nat} (hT : TrmN l re im L) (hl : l.length = n) (hz : N1 ξ η Z) : ∀ j, j < n → N1 (hC re im ξ η n j).1 (hC re im ξ η n j).2 (gC L Z n j)
  | 0, hj => (hT (n - 1) (by omega)).2.2.1
  | j + 1, hj => by
    have ih := hC_bd hT hl hz j (by omega)
    have h := (hT (n - 2 - j) (by omega)).2.2.1
    rw [gC, hC]
    exact (ih.mul hz).add h
theorem nest_stepG {p q x y c1 c2 : Nat} {π κ ξ η a b h g ε G Z L : Rat} (hp : NV .f32 p π) (hq : NV .f32 q κ) (hx : NV .f32 x ξ) (hy : NV .f32 y η) (ha : NV .f32 c1 a) (hb : NV .f32 c2 b)
    (hz : N1 ξ η Z) (hZ : 1 / 1000000 ≤ Z ∧ Z ≤ 10) (hc : N1 a b L) (hh : N1 h g G) (hG : 1 / 1000000 ≤ G ∧ G ≤ 10000000000) (hG' : 1 / 1000000 ≤ G * Z + L ∧ G * Z + L ≤ 10000000000) (he : N1 (π - h) (κ - g) (ε * G)) (he1 : 0 ≤ ε ∧ ε ≤ 1 / 2) :
    ∃ p' q' r s π' κ', NV .f32 r π' ∧ NV .f32 s κ' ∧ N1 (π' - (h * ξ - g * η + a)) (κ' - (h * η + g * ξ + b)) ((ε + 1 / 2000000) * (G * Z + L)) ∧
      (∀ w, Calls Try.prog 58 #[.complex .f32 p q, .complex .f32 x y] w fun e w' => e = .returned (.complex .f32 p' q') ∧ w' = w) ∧
      (∀ w, Calls Try.prog 57 #[.complex .f32 p' q', .complex .f32 c1 c2] w fun e w' => e = .returned (.complex .f32 r s) ∧ w' = w) := by
  have hL := hc.pos
  have hGZ : (1 / 1000000) * (1 / 1000000) ≤ G * Z := by
    have m1 := Rat.mul_nonneg (show (0 : Rat) ≤ G - 1 / 1000000 by grind) (show (0 : Rat) ≤ Z - 1 / 1000000 by grind)
    grind
  have hGZ2 : G * Z ≤ 10000000000 := by grind
  have hεG : ε * G ≤ G / 2 := by
    have m1 := Rat.mul_nonneg (show (0 : Rat) ≤ 1 / 2 - ε by grind) (show (0 : Rat) ≤ G by grind)
    grind
  have hP : N1 π κ (2 * G) := (hh.of he).le (by grind)
  have hPZ := hP.mul hz
  obtain ⟨b1, b2, b3, b4⟩ := hP.prods hz
  obtain ⟨p', q', μ, ν, n1, n2, f1, f2, HM⟩ := mulC_m hp hq hx hy (M := 2 * G * Z) (by constructor <;> grind) b1 b2 b3 b4 hPZ.fst hPZ.snd
  have hε2 := he.mul hz
  have d1 : N1 (μ - (h * ξ - g * η)) (ν - (h * η + g * ξ)) (ε * G * Z + (2 * G * Z / 16000000 + 2 * G * Z / 16000000)) := by
    have e1 := N1.nr f1 f2
    have e2 := e1.add hε2
    unfold N1 at e2 ⊢
    refine ⟨?_, ?_, ?_, ?_⟩ <;> grind
  have hεZ : 0 ≤ ε * G * Z := Rat.mul_nonneg (Rat.mul_nonneg he1.1 (by grind)) (by grind)
  have hεZ2 : ε * G * Z ≤ G * Z / 2 := by
    have m1 := Rat.mul_nonneg (show (0 : Rat) ≤ G / 2 - ε * G by grind) (show (0 : Rat) ≤ Z by grind)
    grind
  have hμ : N1 μ ν (2 * G * Z) := ((hh.mul hz).of d1).le (by grind)
  have hsum : N1 (μ + a) (ν + b) (2 * (G * Z + L)) := (hμ.add hc).le (by grind)
  obtain ⟨r, s, π', κ', n3, n4, f3, f4, HPl⟩ := plus_m n1 n2 ha hb (M := 2 * (G * Z + L)) (by constructor <;> grind) hsum.fst hsum.snd
  refine ⟨p', q', r, s, π', κ', n3, n4, ?_, HM, HPl⟩
  have e3 := (N1.nr f3 f4).add d1
  have m2 := Rat.mul_nonneg he1.1 hL
  unfold N1 at e3 ⊢
  refine ⟨?_, ?_, ?_, ?_⟩ <;> grind
set_option maxRecDepth 100000 in
set_option maxHeartbeats 800000 in
theorem nested_g (n x y : Nat) (l : List (Nat × Nat)) (hl : l.length = n) (re im L : Nat → Rat) (ξ η Z : Rat) (hT : TrmN l re im L) (hx : NV .f32 x ξ) (hy : NV .f32 y η) (hz : N1 ξ η Z) (hZ : 1 / 1000000 ≤ Z ∧ Z ≤ 10) (hG : ∀ j, j < n → gC L Z n j ≤ 10000000000) (hn1 : 1 ≤ n) (hn : n ≤ 20) :
    ∃ r s π κ, NV .f32 r π ∧ NV .f32 s κ ∧ N1 (π - (hC re im ξ η n (n - 1)).1) (κ - (hC re im ξ η n (n - 1)).2) (((n : Nat) : Rat) * (1 / 2000000) * gC L Z n (n - 1)) ∧
      ∀ (A : Option Addr) (c B : Nat) w, Reads w B 1 A n (cplx l) → Calls Try.prog 53 #[.slice A n c, .complex .f32 x y] w fun e w' => e = .returned (.complex .f32 r s) ∧ ∃ m, w' = w.drewN m := by
  have hZ0 : 0 ≤ Z := by grind
  have key : ∀ j, j < n → ∃ P Q : Nat → Nat, P 0 = (l.getD (n - 1) (0, 0)).1 ∧ Q 0 = (l.getD (n - 1) (0, 0)).2 ∧
      (∀ i, i ≤ j → ∃ π κ, NV .f32 (P i) π ∧ NV .f32 (Q i) κ ∧ N1 (π - (hC re im ξ η n i).1) (κ - (hC re im ξ η n i).2) (((i : Nat) : Rat) * (1 / 2000000) * gC L Z n i)) ∧
      (∀ i, i < j → ∃ p' q', (∀ w, Calls Try.prog 58 #[.complex .f32 (P i) (Q i), .complex .f32 x y] w fun e w' => e = .returned (.complex .f32 p' q') ∧ w' = w) ∧
        (∀ w, Calls Try.prog 57 #[.complex .f32 p' q', .complex .f32 (l.getD (n - 2 - i) (0, 0)).1 (l.getD (n - 2 - i) (0, 0)).2] w fun e w' => e = .returned (.complex .f32 (P (i + 1)) (Q (i + 1))) ∧ w' = w)) := by
    intro j
    induction j with
    | zero =>
      intro _
      obtain ⟨t1, t2, -, -⟩ := hT (n - 1) (by omega)
      refine ⟨fun _ => (l.getD (n - 1) (0, 0)).1, fun _ => (l.getD (n - 1) (0, 0)).2, rfl, rfl, fun i hi => ?_, fun i hi => absurd hi (Nat.not_lt_zero _)⟩
      obtain rfl : i = 0 := by omega
      have e0 : ((0 : Nat) : Rat) = 0 := rfl
      refine ⟨_, _, t1, t2, ?_⟩
      rw [e0, hC]
      unfold N1
      refine ⟨?_, ?_, ?_, ?_⟩ <;> grind
    | succ j ih =>
      intro hj
      obtain ⟨P, Q, hP0, hQ0, hv, hs⟩ := ih (by omega)
      obtain ⟨π, κ, v1, v2, v3⟩ := hv j (Nat.le_refl _)
      obtain ⟨t1, t2, t3, t4⟩ := hT (n - 2 - j) (by omega)
      have hb := hC_bd hT hl hz j (by omega)
      have g1 := gC_pos (Z := Z) hT hl hZ0 j (by omega)
      have g2 := gC_pos (Z := Z) hT hl hZ0 (j + 1) hj
      have g3 := hG (j + 1) hj
      rw [gC] at g2 g3
      have hj20 : ((j : Nat) : Rat) ≤ 20 := by
        have : ((j : Nat) : Rat) ≤ ((20 : Nat) : Rat) := Rat.natCast_le_natCast.2 (by omega)
        exact this
      have hj0 : (0 : Rat) ≤ ((j : Nat) : Rat) := by
        have : ((0 : Nat) : Rat) ≤ ((j : Nat) : Rat) := Rat.natCast_le_natCast.2 (by omega)
        exact this
      obtain ⟨p', q', r, s, π', κ', m1, m2, m3, HM, HP⟩ := nest_stepG v1 v2 hx hy t1 t2 hz hZ t3 hb ⟨g1, hG j (by omega)⟩ ⟨g2, g3⟩ v3 ⟨by grind, by grind⟩
      have ej : ((j + 1 : Nat) : Rat) = ((j : Nat) : Rat) + 1 := by rw [Rat.natCast_add j 1]; rfl
      have eE : ((j : Nat) : Rat) * (1 / 2000000) + 1 / 2000000 = ((j + 1 : Nat) : Rat) * (1 / 2000000) := by rw [ej]; grind
      rw [eE] at m3
      refine ⟨fun i => if i = j + 1 then r else P i, fun i => if i = j + 1 then s else Q i, ?_, ?_, fun i hi => ?_, fun i hi => ?_⟩
      · simp only [show ¬ (0 = j + 1) by omega, if_false]; exact hP0
      · simp only [show ¬ (0 = j + 1) by omega, if_false]; exact hQ0
      · by_cases e : i = j + 1
        · subst e
          simp only [if_true]
          refine ⟨π', κ', m1, m2, ?_⟩
          rw [gC, hC]
          exact m3
        · simp only [e, if_false]
          exact hv i (by omega)
      · by_cases e : i = j
        · subst e
          simp only [show ¬ (i = i + 1) by omega, if_false, if_true]
          exact ⟨p', q', HM, HP⟩
        · simp only [show ¬ (i = j + 1) by omega, show ¬ (i + 1 = j + 1) by omega, if_false]
          exact hs i (by omega)
  obtain ⟨P, Q, hP0, hQ0, hv, hs⟩ := key (n - 1) (by omega)
  obtain ⟨π, κ, v1, v2, v3⟩ := hv (n - 1) (Nat.le_refl _)
  have hgp := gC_pos (Z := Z) hT hl hZ0 (n - 1) (by omega)
  have hnn : ((n - 1 : Nat) : Rat) ≤ ((n : Nat) : Rat) := Rat.natCast_le_natCast.2 (by omega)
  refine ⟨P (n - 1), Q (n - 1), π, κ, v1, v2, v3.le ?_, fun A c B w hr => ?_⟩
  · have := Rat.mul_nonneg (show (0 : Rat) ≤ ((n : Nat) : Rat) - ((n - 1 : Nat) : Rat) by grind) (show (0 : Rat) ≤ gC L Z n (n - 1) by grind)
    grind
  replace hs := Lib.hid hs
  clear key hv v1 v2 v3 hT hx hy hz hZ hG hgp hnn
  have hk1 : (n : Int) - 1 = ((n - 1 : Nat) : Int) := by omega
  obtain ⟨ad, rfl, hab, hc0⟩ := comp_at (k := n - 1) (by rw [hl]; exact hr) (by omega)
  rw [← hP0, ← hQ0] at hc0
  obtain ⟨N, hN⟩ : ∃ N, N = n - 1 := ⟨_, rfl⟩
  rw [← hN] at hc0 hk1 hs ⊢
  have hnN : n = N + 1 := by omega
  replace hN := Lib.hid hN
  clear hP0 hQ0
  subst hnN
  go_enter Try.func53, Try.ntmps53
  go_wp2
  go_loopw [6, 7] (fun v q wr => ∃ j k : Nat, j ≤ N ∧ Hid (k + j = N) ∧ q = .int .i64 ((k : Int) - 1) ∧ v = .complex .f32 (P j) (Q j) ∧ ∃ m, wr = w.drewN m) (fun _ q _ => (intOf q + 1).toNat)
  case atStart => exact ⟨0, N, Nat.zero_le _, rfl, by go_num, rfl, 0, rfl⟩
  case round =>
    obtain ⟨j, k, hj, hjk, rfl, rfl, m, hW0⟩ := hrel
    by_cases hlt : 1 ≤ k
    · obtain ⟨i, hi⟩ : ∃ i, k = i + 1 := ⟨k - 1, by omega⟩
      subst hi
      have hij : i + 1 + j = N := hjk.out
      obtain ⟨p', q', HM, HP⟩ := hs.out j (by omega)
      have hix : N + 1 - 2 - j = i := by omega
      rw [hix] at HP
      obtain ⟨ad', e, -, hc1⟩ := comp_at (k := i) (by rw [hl]; exact hr) (by omega)
      cases e
      have hc1' : wr.cell? (ad.add i) = some (.complex .f32 (l.getD i (0, 0)).1 (l.getD i (0, 0)).2) := by rw [hW0]; exact hc1
      have hW := Lib.hid hW0
      have HMH := Lib.hid HM
      have HPH := Lib.hid HP
      have hb1 : (i : Int) < (N : Int) + 1 := by omega
      have hb0 : (0 : Int) ≤ (i : Int) := by omega
      have hz : ((i + 1 : Nat) : Int) - 1 = (i : Int) := by omega
      rw [hz]
      clear hW0 HM HP hc1 hr hc0 hix hz hjk
      generalize (l.getD i (0, 0)).1 = c1 at *
      generalize (l.getD i (0, 0)).2 = c2 at *
      replace hij := Lib.hid hij
      go_wp2_with fail
      go_quiet ((first | (go_at_call 58; exact Calls.quiet_of_same (HMH.out _)) | (go_at_call 57; exact Calls.quiet_of_same (HPH.out _))))
      go_wp2
      exact ⟨⟨j + 1, i, by have := hij.out; omega, (by have := hij.out; show _ = _; omega), by go_num, rfl, m + nq, by rw [hW.out, World.drewN_drewN]⟩, (by simp [intOf]; all_goals omega)⟩
    · obtain rfl : k = 0 := by omega
      have hjN : j = N := by have := hjk.out; omega
      subst hjN
      go_wp2
      go_ret
      exact ⟨rfl, m, rfl⟩
set_option maxRecDepth 100000 in
set_option maxHeartbeats 800000 in
theorem polyAt_g (n x y : Nat) (l : List (Nat × Nat)) (hl : l.length = n) (re im L : Nat → Rat) (ξ η Z : Rat) (hT : TrmN l re im L) (hx : NV .f32 x ξ) (hy : NV .f32 y η) (hz : N1 ξ η Z) (hZ : 1 / 1000000 ≤ Z ∧ Z ≤ 10) (hG : ∀ j, j < n → gC L Z n j ≤ 10000000000) (hn1 : 1 ≤ n) (hn : n ≤ 20) (hv : polyB l = true) :
    ∃ r s π κ, NV .f32 r π ∧ NV .f32 s κ ∧ N1 (π - (hC re im ξ η n (n - 1)).1) (κ - (hC re im ξ η n (n - 1)).2) (((n : Nat) : Rat) * (1 / 2000000) * gC L Z n (n - 1)) ∧
      ∀ (A : Option Addr) (c : Nat) w, Reads w w.heap.size 1 A n (cplx l) → Calls Try.prog 11 #[.agg #[.slice A n c], .complex .f32 x y] w fun e w' => e = .returned (.tuple #[.complex .f32 r s, .bool true]) ∧ Below w.heap.size w w' := by
  obtain ⟨r, s, π, κ, v1, v2, v3, HN⟩ := nested_g n x y l hl re im L ξ η Z hT hx hy hz hZ hG hn1 hn
  refine ⟨r, s, π, κ, v1, v2, v3, fun A c w hr => ?_⟩
  have hfx := nv_fin hx
  have hfy := nv_fin hy
  have HF := finite_v (nv_fin v1) (nv_fin v2)
  subst hl
  have hb1 : Below w.heap.size w (w.alloc (.cells #[.slice A l.length c] 33)) := (Below.refl _ _).alloc (Nat.le_refl _) _
  have hP1 := Blk.new w 33 #[.slice A l.length c]
  have HV := validPoly_b A c w.heap.size l _ (hr.below hb1) hb1.size (by omega)
  rw [hv] at HV
  have HA := fun W => allFinite_b (some ⟨W.heap.size, 0, none⟩) 1 (W.heap.size + 1) [(x, y)] (W.alloc (.cells #[.complex .f32 x y] 36)) (comp_one W x y) (by simp) (by simp)
  have hfa : [(x, y)].all finCB = true := by simp [finCB, hfx, hfy]
  simp only [hfa] at HA
  clear hT hx hy hz hZ hG v1 v2 v3 hfx hfy hfa hv
  go_enter Try.func11, Try.ntmps11
  go_wp2_with fail
  (with_reducible refine HV.mono ?_)
  rintro e w1 ⟨rfl, hb2⟩
  clear HV
  have z2 := hb2.size
  simp only [World.size_alloc] at z2
  have hP2 := hP1.below hb2 (by simp)
  have hb3 := hb1.trans (hb2.mono (by simp))
  clear hP1 hb1 hb2
  have hb4 : Below w1.heap.size w1 (w1.alloc (.cells #[.complex .f32 x y] 36)) := (Below.refl _ _).alloc (Nat.le_refl _) _
  have hP3 := hP2.below hb4 (by omega)
  have z4 := hb4.size
  have hb5 := hb3.trans (hb4.mono (by omega))
  go_wp2_with fail
  refine (HA w1).mono ?_
  rintro e w2 ⟨rfl, hb6⟩
  clear HA
  have z6 := hb6.size
  have hP4 := hP3.below hb6 (by omega)
  have hb7 := hb5.trans (hb6.mono (by omega))
  clear hP2 hP3 hb3 hb4 hb5 hb6
  have cP : w2.cell? ⟨w.heap.size, 0, none⟩ = some (.slice A l.length c) := hP4.cell 0
  have HN2 := HN A c w.heap.size w2 (hr.below hb7)
  go_wp2_with fail
  (with_reducible refine HN2.mono ?_)
  rintro e w3 ⟨rfl, m, rfl⟩
  clear HN2 HN
  have hb8 := below_drewN hb7 m
  have z8 := hb8.size
  go_wp2_with fail
  refine (HF _).mono ?_
  rintro e w4 ⟨rfl, hb9⟩
  go_wp2
  go_ret2
  exact ⟨rfl, hb8.trans (hb9.mono (by omega))⟩
end Go.Proofs.Ytlpibibpckkjhaa
namespace Go.Proofs.Ytlpibibpckkjhaa
open Go.RowKit
theorem max_any {k : FloatKind} {x y : Nat} {a b : Rat} (hx : NV k x a) (hy : NV k y b) (ts : Array TypeId) (t : TypeId) : ∃ r c, NV k r c ∧ (a ≤ c ∧ b ≤ c ∧ (c = a ∨ c = b)) ∧ ∀ w, (Builtin.max_ ts t #[.float k x, .float k y]).run Try.prog w = .ok (.float k r) w := by
  obtain ⟨o1, o2, o3⟩ := order_val k hx hy
  rcases (show a < b ∨ a = b ∨ b < a by grind) with h | h | h
  · have ho := o1 h
    exact ⟨y, b, hy, ⟨by grind, by grind, .inr rfl⟩, fun w => by simp [Builtin.max_, Builtin.max2, ho]⟩
  · have ho := o2 h
    cases hn : (k.decode x).neg with
    | true => exact ⟨y, b, hy, ⟨by grind, by grind, .inr rfl⟩, fun w => by simp [Builtin.max_, Builtin.max2, ho, hn]⟩
    | false => exact ⟨x, a, hx, ⟨by grind, by grind, .inl rfl⟩, fun w => by simp [Builtin.max_, Builtin.max2, ho, hn]⟩
  · have ho := o3 h
    exact ⟨x, a, hx, ⟨by grind, by grind, .inl rfl⟩, fun w => by simp [Builtin.max_, Builtin.max2, ho]⟩
/-- How long a complex number is, at most. -/
theorem long64_m {x y : Nat} {a b M : Rat} (hx : NV .f32 x a) (hy : NV .f32 y b) (hM : Md M) (h1 : Lm a (M / 2)) (h2 : Lm b (M / 2)) :
    ∃ r c, NV .f32 r c ∧ N1 a b (c + M / 16000000) ∧ 0 - M / 16000000 ≤ c ∧ c ≤ M + M / 16000000 ∧ (∀ B, N1 a b B → c ≤ B + M / 16000000) ∧ ∀ w, Calls Try.prog 54 #[.complex .f32 x y] w fun e w' => e = .returned (.float .f32 r) ∧ w' = w := by
  have hp := hM.pos
  obtain ⟨r1, c1, n1, ⟨a1, a2, a3⟩, H1⟩ := max_any hx (neg_val hx) #[25, 25] 25
  obtain ⟨r2, c2, n2, ⟨b1, b2, b3⟩, H2⟩ := max_any hy (neg_val hy) #[25, 25] 25
  unfold Lm at h1 h2
  obtain ⟨r, c, g, n3, e⟩ := addM n1 n2 hM.mid (by grind) (by grind)
  rw [un32] at e
  unfold Nr at e
  have k1 := neg32 x
  have k2 := neg32 y
  have j := ar32 _ _ _ _ g
  refine ⟨r, c, n3, ?_, by grind, by grind, fun B hB => by unfold N1 at hB; grind, fun w => ?_⟩
  · unfold N1; refine ⟨?_, ?_, ?_, ?_⟩ <;> grind
  clear g e n1 n2 n3 a1 a2 a3 b1 b2 b3 hx hy h1 h2 hM hp
  generalize Op.negFloat .f32 x = x' at *
  generalize Op.negFloat .f32 y = y' at *
  go_enter Try.func54, Try.ntmps54
  go_wp2
  go_ret
  exact ⟨rfl, rfl⟩
/-- The size of a polynomial at a number is not less than 0, nearly. -/
def SizAt (k s : Nat) : Prop := ∃ σ, NV .f64 s σ ∧ 0 - ((k : Nat) : Rat) / 30 ≤ σ ∧ σ ≤ ((k : Nat) : Rat) * 1000
theorem siz_step {k s u v : Nat} {ξ t : Rat} (hk : k ≤ 7) (h : SizAt k s) (hx : NV .f64 u ξ) (h1 : 0 - 1 / 1000000 ≤ ξ) (h2 : ξ ≤ 1 + 1 / 1000000) (ht : NV .f32 v t) (t1 : 0 - 1 / 10000 ≤ t) (t2 : t ≤ 900) :
    ∃ m v' s', floatBits .mul .f64 s u = some m ∧ floatToFloatBits .f32 v .f64 = some v' ∧ floatBits .add .f64 m v' = some s' ∧ SizAt (k + 1) s' := by
  obtain ⟨σ, hs, s1, s2⟩ := h
  have hk20 := nat_le_rat hk
  have hk0 := nat_le_rat (Nat.zero_le k)
  have e0 : ((0 : Nat) : Rat) = 0 := rfl
  have e20 : ((7 : Nat) : Rat) = 7 := rfl
  rw [e0] at hk0
  rw [e20] at hk20
  have key : -(((k : Nat) : Rat) / 30 + 1 / 100) ≤ σ * ξ ∧ σ * ξ ≤ ((k : Nat) : Rat) * 1000 + 1 / 10 := by
    generalize ((k : Nat) : Rat) = K at *
    rcases (show 0 ≤ σ ∨ 0 ≤ -σ by grind) with h | h
    · have m1 := Rat.mul_nonneg h (show (0 : Rat) ≤ ξ + 1 / 1000000 by grind)
      have m2 := Rat.mul_nonneg h (show (0 : Rat) ≤ 1 + 1 / 1000000 - ξ by grind)
      constructor <;> grind
    · have m1 := Rat.mul_nonneg h (show (0 : Rat) ≤ ξ + 1 / 1000000 by grind)
      have m2 := Rat.mul_nonneg h (show (0 : Rat) ≤ 1 + 1 / 1000000 - ξ by grind)
      constructor <;> grind
  obtain ⟨m, c, g1, n1, r1⟩ := mulM hs hx (M := 30000) ⟨by grind, by grind⟩ (by grind) (by grind)
  obtain ⟨v', g2, n2⟩ := wide_exact ht
  rw [un64] at r1
  unfold Nr at r1
  obtain ⟨s', d, g3, n3, r3⟩ := addM n1 n2 (M := 40000) ⟨by grind, by grind⟩ (by grind) (by grind)
  rw [un64] at r3
  unfold Nr at r3
  refine ⟨m, v', s', g1, g2, g3, d, n3, ?_, ?_⟩
  · rw [nat_succ_rat k]; grind
  · rw [nat_succ_rat k]; grind
theorem sizAt_zero : SizAt 0 0 := ⟨0, nv64_zero, by have e0 : ((0 : Nat) : Rat) = 0 := rfl; rw [e0]; constructor <;> grind⟩
set_option maxRecDepth 100000 in
set_option maxHeartbeats 1600000 in
theorem r8Size_v (A : Option Addr) (c n x : Nat) (l : List (Nat × Nat)) (hl : l.length = n) (hn1 : 1 ≤ n) (hn : n ≤ 7) (re im : Nat → Rat) (ξ : Rat) (hT : ∀ k, k < n → NV .f32 (l.getD k (0, 0)).1 (re k) ∧ NV .f32 (l.getD k (0, 0)).2 (im k) ∧ Lm (re k) 400 ∧ Lm (im k) 400) (hx : NV .f32 x ξ) (hX : Lm ξ 1) (w : World) (hr : Reads w w.heap.size 1 A n (cplx l)) :
    Calls Try.prog 13 #[.agg #[.slice A n c], .complex .f32 x 0] w fun e w' => ∃ s σ, e = .returned (.float .f64 s) ∧ NV .f64 s σ ∧ 0 - 1 / 4 ≤ σ ∧ σ ≤ 20000 ∧ Below w.heap.size w w' := by
  subst hl
  obtain ⟨u0, υ, n0, -, b1, b2, b3, HX⟩ := long64_m hx nv_zero (M := 2) (by constructor <;> grind) (hX.le (by grind)) (by unfold Lm; constructor <;> grind)
  have b4 := b3 1 (by unfold Lm at hX; unfold N1; refine ⟨?_, ?_, ?_, ?_⟩ <;> grind)
  obtain ⟨u, f0, n0'⟩ := wide_exact n0
  have k0 := cvW f0
  have hu := Lib.hid (show NV .f64 u υ ∧ 0 - 1 / 1000000 ≤ υ ∧ υ ≤ 1 + 1 / 1000000 from ⟨n0', by grind, by grind⟩)
  have hterm := fun k (hk : k < l.length) => by
    obtain ⟨t1, t2, t3, t4⟩ := hT k hk
    exact long64_m t1 t2 (M := 800) (by constructor <;> grind) (t3.le (by grind)) (t4.le (by grind))
  replace hterm := Lib.hid hterm
  clear hT n0 n0' b1 b2 b3 b4 f0 hx hX
  have hb1 : Below w.heap.size w (w.alloc (.cells #[.slice A l.length c] 33)) := (Below.refl _ _).alloc (Nat.le_refl _) _
  have hP1 := Blk.new w 33 #[.slice A l.length c]
  have cP : (w.alloc (.cells #[.slice A l.length c] 33)).cell? ⟨w.heap.size, 0, none⟩ = some (.slice A l.length c) := hP1.cell 0
  have hn0 := Lib.hid sizAt_zero
  go_enter Try.func13, Try.ntmps13
  go_wp2_with fail
  refine (HX _).mono ?_
  rintro e w1 ⟨rfl, rfl⟩
  clear HX
  obtain ⟨N, hN⟩ : ∃ N : Nat, N + 1 = l.length := ⟨l.length - 1, by omega⟩
  have hNi : (l.length : Int) - 1 = (N : Int) := by omega
  go_wp2
  go_loopw [6, 7] (fun s q wr => ∃ j k t : Nat, Hid (k + j = N + 1) ∧ q = .int .i64 ((k : Int) - 1) ∧ s = .float .f64 t ∧ Hid (SizAt j t) ∧ ∃ m, wr = (w.alloc (.cells #[.slice A l.length c] 33)).drewN m) (fun _ q _ => (intOf q + 1).toNat)
  case atStart => exact ⟨0, N + 1, 0, rfl, by go_num, rfl, hn0, 0, rfl⟩
  case round =>
    obtain ⟨j, k, t, hjk, rfl, rfl, hS, m, hW0⟩ := hrel
    by_cases hlt : 1 ≤ k
    · obtain ⟨i, rfl⟩ : ∃ i, k = i + 1 := ⟨k - 1, by omega⟩
      have hij : i + 1 + j = N + 1 := hjk.out
      obtain ⟨r, t1, v1, -, v2, v3, v4, HL⟩ := hterm.out i (by omega)
      have hB := v4
      obtain ⟨a1, a2, a3⟩ := hu.out
      obtain ⟨mm, vv, s', g1, g2, g3, hS2⟩ := siz_step (by omega) hS.out a1 a2 a3 v1 (by grind) (by grind)
      have k1 := ar64 _ _ _ _ g1
      have k2 := cvW g2
      have k3 := ar64 _ _ _ _ g3
      replace hS2 := Lib.hid hS2
      obtain ⟨ad', e, -, hc1⟩ := comp_at (hr.below hb1) (show i < l.length by omega)
      subst e
      have hc1' : wr.cell? (ad'.add i) = some (.complex .f32 (l.getD i (0, 0)).1 (l.getD i (0, 0)).2) := by rw [hW0]; exact hc1
      have cP' : wr.cell? ⟨w.heap.size, 0, none⟩ = some (.slice (some ad') l.length c) := by rw [hW0]; exact cP
      have hW := Lib.hid hW0
      have hil : i < l.length := by omega
      have hz : ((i + 1 : Nat) : Int) - 1 = (i : Int) := by omega
      rw [hz]
      clear hW0 hc1 hr hz hjk hB a1 a2 a3 v1 v2 v3 v4 g1 g2 g3 hS cP hN
      generalize (l.getD i (0, 0)).1 = c1 at *
      generalize (l.getD i (0, 0)).2 = c2 at *
      replace hij := Lib.hid hij
      have hi0 : (0 : Int) ≤ (i : Int) := by omega
      have hil' : (i : Int) < (l.length : Int) := by omega
      go_wp2_with fail
      refine (HL _).mono ?_
      rintro e w2 ⟨rfl, rfl⟩
      go_wp2
      exact ⟨⟨j + 1, i, s', by have := hij.out; show _ = _; omega, by go_num, rfl, hS2, m, hW.out⟩, (by simp [intOf]; all_goals omega)⟩
    · obtain rfl : k = 0 := by omega
      have hjN : j = N + 1 := by have := hjk.out; omega
      subst hjN
      obtain ⟨σ, s1, s2, s3⟩ := hS.out
      have h7 := nat_le_rat (show N + 1 ≤ 7 by omega)
      have e7 : ((7 : Nat) : Rat) = 7 := rfl
      rw [e7] at h7
      have hf := Lib.hid (show NV .f64 t σ ∧ 0 - 1 / 4 ≤ σ ∧ σ ≤ 20000 from ⟨s1, by grind, by grind⟩)
      have hb2 : Below w.heap.size w wr := by rw [hW0]; exact below_drewN hb1 m
      clear s1 s2 s3 hS hW0 h7 cP hr
      go_wp2
      go_ret
      exact ⟨t, σ, rfl, hf.out.1, hf.out.2.1, hf.out.2.2, hb2⟩
end Go.Proofs.Ytlpibibpckkjhaa
namespace Go.Proofs.Ytlpibibpckkjhaa
open Go.RowKit
theorem clen_step {a b c x u v wk : Nat} {A B0 C X U V W b1 b2 al a' ga β1 β2 f1 f2 D : Rat} (ha : NV .f32 a A) (hb : NV .f32 b B0) (hc : NV .f32 c C) (hx : NV .f32 x X) (hu : NV .f32 u U) (hv : NV .f32 v V) (hw : NV .f32 wk W)
    (hX : Lm X 1) (hA : Lm A a') (hB : Lm B0 (al - a')) (hal : 1 ≤ al ∧ al ≤ 3) (hC : Lm C ga) (hga : ga ≤ 7) (hW : Lm W D) (hD : 1 / 10 ≤ D ∧ D ≤ 20) (l1 : Lm b1 (β1 * D)) (l2 : Lm b2 (β2 * D)) (hβ1 : 0 ≤ β1 ∧ β1 ≤ 130) (hβ2 : 0 ≤ β2 ∧ β2 ≤ 130)
    (e1 : Nr U b1 (f1 * (D / 2400000))) (e2 : Nr V b2 (f2 * (D / 2400000))) (hf1 : 0 ≤ f1 ∧ f1 ≤ 1000) (hf2 : 0 ≤ f2 ∧ f2 ≤ 1000) :
    ∃ p q r s t o O, fb .mul a x = some p ∧ fb .add p b = some q ∧ fb .mul q u = some r ∧ fb .add wk r = some s ∧ fb .mul c v = some t ∧ fb .sub s t = some o ∧ NV .f32 o O ∧
      Nr O (W + (A * X + B0) * b1 - C * b2) ((al * f1 + ga * f2 + (1 + al * β1 + ga * β2)) * (D / 2400000)) ∧ Lm (W + (A * X + B0) * b1 - C * b2) ((1 + al * β1 + ga * β2) * D) := by
  have hga0 : 0 ≤ ga := hC.pos
  have ha0 : 0 ≤ a' := hA.pos
  have hb0 : 0 ≤ al - a' := hB.pos
  have hAX := hA.mul hX
  obtain ⟨p, π, g1, n1, r1⟩ := mulM ha hx (M := al) ⟨by grind, by grind⟩ (by unfold Lm at hAX; grind) (by unfold Lm at hAX; grind)
  have hQ0 : Lm (A * X + B0) al := (hAX.add hB).le (by grind)
  rw [un32] at r1
  unfold Nr at r1
  have hpb : Lm (π + B0) (al + al / 16777216) := by unfold Lm at *; constructor <;> grind
  obtain ⟨q, κ, g2, n2, r2⟩ := addM n1 hb (M := al + al / 16777216) ⟨by grind, by grind⟩ hpb.1 hpb.2
  rw [un32] at r2
  have q1 : Nr κ (A * X + B0) (al * (21 / 167772160)) := by unfold Nr at *; constructor <;> grind
  have qb : Lm κ (al + al * (21 / 167772160)) := hQ0.of q1
  have hD0 : 0 ≤ D := by grind
  have m3 := Rat.mul_nonneg (show (0 : Rat) ≤ 1000 - f1 by grind) hD0
  have m4 := Rat.mul_nonneg (show (0 : Rat) ≤ 1000 - f2 by grind) hD0
  have m5 := Rat.mul_nonneg hβ1.1 hD0
  have m6 := Rat.mul_nonneg hβ2.1 hD0
  have m7 := Rat.mul_nonneg (show (0 : Rat) ≤ 130 - β1 by grind) hD0
  have m8 := Rat.mul_nonneg (show (0 : Rat) ≤ 130 - β2 by grind) hD0
  have m9 := Rat.mul_nonneg hf1.1 hD0
  have m10 := Rat.mul_nonneg hf2.1 hD0
  have ub : Lm U ((β1 + 1 / 1000) * D) := (l1.of e1).le (by grind)
  have vb : Lm V ((β2 + 1 / 1000) * D) := (l2.of e2).le (by grind)
  have hal0 : 0 ≤ al := by grind
  have mm := Rat.mul_nonneg hal0 m5
  have mD := Rat.mul_nonneg hal0 hD0
  have mD3 := Rat.mul_nonneg (show (0 : Rat) ≤ 3 - al by grind) hD0
  have mg := Rat.mul_nonneg hga0 m6
  have mgD := Rat.mul_nonneg hga0 hD0
  have mg7 := Rat.mul_nonneg (show (0 : Rat) ≤ 7 - ga by grind) hD0
  have mf := Rat.mul_nonneg hal0 m3
  have mf2 := Rat.mul_nonneg hga0 m4
  have mab := Rat.mul_nonneg hal0 m7
  have mgb := Rat.mul_nonneg hga0 m8
  -- q u
  have qu := (qb.mul ub)
  obtain ⟨r, ρ, g3, n3, r3⟩ := mulM n2 hu (M := (1 + 1001 / 1000 * (al * β1) + 1 / 100) * D) ⟨by grind, by grind⟩ (by unfold Lm at qu; grind) (by unfold Lm at qu; grind)
  have x3 := Nr.mul q1 e1 hQ0 l1
  rw [un32] at r3
  have y3 : Nr ρ ((A * X + B0) * b1) (al * f1 * (D / 2400000) + (1 + 4 * (al * β1) + 3 / 10) * (D / 16777216)) := (r3.trans x3).le (by grind)
  have z3 : Lm ((A * X + B0) * b1) (al * (β1 * D)) := hQ0.mul l1
  have w3 : Lm ρ (al * (β1 * D) + D / 100) := (z3.of y3).le (by grind)
  obtain ⟨s, σ, g4, n4, r4⟩ := addM hw n3 (M := (1 + al * β1 + 1 / 50) * D) ⟨by grind, by grind⟩ (by unfold Lm at w3 hW; grind) (by unfold Lm at w3 hW; grind)
  rw [un32] at r4
  have cv := hC.mul vb
  obtain ⟨t, τ, g5, n5, r5⟩ := mulM hc hv (M := (1 + ga * β2 + 1 / 50) * D) ⟨by grind, by grind⟩ (by unfold Lm at cv; grind) (by unfold Lm at cv; grind)
  rw [un32] at r5
  have x5 := Nr.mul (Nr.refl C) e2 hC l2
  have y5 : Nr τ (C * b2) (ga * f2 * (D / 2400000) + (1 + ga * β2 + 1 / 50) * (D / 16777216)) := (r5.trans x5).le (by grind)
  have y4 : Nr σ (W + (A * X + B0) * b1) (al * f1 * (D / 2400000) + (2 + 5 * (al * β1) + 4 / 10) * (D / 16777216)) := by
    unfold Nr at *; constructor <;> grind
  have z5 : Lm (C * b2) (ga * (β2 * D)) := hC.mul l2
  have hex : Lm (W + (A * X + B0) * b1 - C * b2) ((1 + al * β1 + ga * β2) * D) := ((hW.add z3).sub z5).le (by grind)
  have hst : Lm (σ - τ) ((1 + al * β1 + ga * β2 + 1 / 10) * D) := (hex.of (y4.sub y5)).le (by grind)
  obtain ⟨o, O, g6, n6, r6⟩ := subM n4 n5 (M := (1 + al * β1 + ga * β2 + 1 / 10) * D) ⟨by grind, by grind⟩ hst.1 hst.2
  rw [un32] at r6
  refine ⟨p, q, r, s, t, o, O, g1, g2, g3, g4, g5, g6, n6, (r6.trans (y4.sub y5)).le ?_, hex⟩
  grind
end Go.Proofs.Ytlpibibpckkjhaa
namespace Go.Proofs.Ytlpibibpckkjhaa
open Go.RowKit
/-- The rule of a kind. -/
def ruleW : Nat → Nat → Option (Nat × Nat × Nat)
  | 0, 0 => some (1065353216, 0, 1065353216)
  | 0, _ + 1 => some (1073741824, 0, 1065353216)
  | 1, _ => some (1073741824, 0, 1065353216)
  | 2, k => (fb .mul 1073741824 (floatOfInt .f32 (k : Int))).bind fun p => (fb .add p 1065353216).bind fun q => (fb .add (floatOfInt .f32 (k : Int)) 1065353216).bind fun r =>
    (fb .quo q r).bind fun a => (fb .quo (floatOfInt .f32 (k : Int)) r).bind fun c => some (a, 0, c)
  | 3, k => some (1065353216, 0, floatOfInt .f32 (k : Int))
  | _, k => (fb .add (floatOfInt .f32 (k : Int)) 1065353216).bind fun r => (fb .quo 3212836864 r).bind fun a => (fb .mul 1073741824 (floatOfInt .f32 (k : Int))).bind fun p => (fb .add p 1065353216).bind fun q =>
    (fb .quo q r).bind fun b => (fb .quo (floatOfInt .f32 (k : Int)) r).bind fun c => some (a, b, c)
set_option maxRecDepth 100000 in
theorem rule_all (kind k a b c : Nat) (hk : kind ≤ 4) (h : ruleW kind k = some (a, b, c)) (w : World) :
    Calls Try.prog 55 #[.int .i64 (kind : Int), .int .i64 (k : Int)] w fun e w' => e = .returned (.tuple #[.float .f32 a, .float .f32 b, .float .f32 c]) ∧ w' = w := by
  obtain rfl | rfl | rfl | rfl | rfl : kind = 0 ∨ kind = 1 ∨ kind = 2 ∨ kind = 3 ∨ kind = 4 := by omega
  · cases k with
    | zero =>
      cases h
      go_enter Try.func55, Try.ntmps55
      go_wp2
      go_ret3
      exact ⟨rfl, rfl⟩
    | succ k =>
      cases h
      have hne : ((k + 1 : Nat) : Int) ≠ 0 := by omega
      generalize ((k + 1 : Nat) : Int) = z at *
      go_enter Try.func55, Try.ntmps55
      go_wp2
      go_ret3
      exact ⟨rfl, rfl⟩
  · cases h
    go_enter Try.func55, Try.ntmps55
    go_wp2
    go_ret3
    exact ⟨rfl, rfl⟩
  · unfold ruleW at h
    obtain ⟨p, f1, h⟩ := bind3 h
    obtain ⟨q, f2, h⟩ := bind3 h
    obtain ⟨r, f3, h⟩ := bind3 h
    obtain ⟨a', f4, h⟩ := bind3 h
    obtain ⟨c', f5, h⟩ := bind3 h
    cases h
    have k1 := ar32 _ _ _ _ f1
    have k2 := ar32 _ _ _ _ f2
    have k3 := ar32 _ _ _ _ f3
    have k4 := ar32 _ _ _ _ f4
    have k5 := ar32 _ _ _ _ f5
    clear f1 f2 f3 f4 f5
    go_enter Try.func55, Try.ntmps55
    go_wp2
    go_ret3
    exact ⟨rfl, rfl⟩
  · cases h
    go_enter Try.func55, Try.ntmps55
    go_wp2
    go_ret3
    exact ⟨rfl, rfl⟩
  · unfold ruleW at h
    obtain ⟨r, f3, h⟩ := bind3 h
    obtain ⟨a', f6, h⟩ := bind3 h
    obtain ⟨p, f1, h⟩ := bind3 h
    obtain ⟨q, f2, h⟩ := bind3 h
    obtain ⟨b', f4, h⟩ := bind3 h
    obtain ⟨c', f5, h⟩ := bind3 h
    cases h
    have k1 := ar32 _ _ _ _ f1
    have k2 := ar32 _ _ _ _ f2
    have k3 := ar32 _ _ _ _ f3
    have k4 := ar32 _ _ _ _ f4
    have k5 := ar32 _ _ _ _ f5
    have k6 := ar32 _ _ _ _ f6
    clear f1 f2 f3 f4 f5 f6
    go_enter Try.func55, Try.ntmps55
    go_wp2
    go_ret3
    exact ⟨rfl, rfl⟩
/-- One step of a row. -/
def stepW (x a b c one before : Nat) : Option Nat :=
  (fb .mul a x).bind fun m1 => (fb .add m1 b).bind fun m2 => (fb .mul m2 one).bind fun m3 => (fb .mul c before).bind fun m4 => fb .sub m3 m4
/-- The row of a number: its values and the last but one. -/
def rowW (kind x : Nat) : Nat → Option (List Nat × Nat)
  | 0 => some ([1065353216], 0)
  | k + 1 => (rowW kind x k).bind fun r => (ruleW kind k).bind fun q => (stepW x q.1 q.2.1 q.2.2 (r.1.getD k 0) r.2).bind fun y => some (r.1 ++ [y], r.1.getD k 0)
theorem rowW_parts {kind x k : Nat} {r : List Nat × Nat} (h : rowW kind x (k + 1) = some r) : ∃ s a b c y, rowW kind x k = some s ∧ ruleW kind k = some (a, b, c) ∧ stepW x a b c (s.1.getD k 0) s.2 = some y ∧ r = (s.1 ++ [y], s.1.getD k 0) := by
  rw [rowW] at h
  obtain ⟨s, h1, h⟩ := bind3 h
  obtain ⟨⟨a, b, c⟩, h2, h⟩ := bind3 h
  obtain ⟨y, h3, h⟩ := bind3 h
  cases h
  exact ⟨s, a, b, c, y, h1, h2, h3, rfl⟩
theorem rowW_len {kind x : Nat} : ∀ {k : Nat} {r : List Nat × Nat}, rowW kind x k = some r → r.1.length = k + 1
  | 0, r, h => by cases h; rfl
  | k + 1, r, h => by
    obtain ⟨s, a, b, c, y, h1, -, -, rfl⟩ := rowW_parts h
    simp [rowW_len h1]
/-- A row that is there, is there up to each place, with the same values. -/
theorem rowW_upto {kind x n : Nat} {r : List Nat × Nat} (h : rowW kind x n = some r) : ∀ j, j ≤ n → ∃ s, rowW kind x j = some s ∧ ∀ i, i ≤ j → s.1.getD i 0 = r.1.getD i 0 := by
  induction n generalizing r with
  | zero => intro j hj; obtain rfl : j = 0 := by omega
            exact ⟨_, h, fun _ _ => rfl⟩
  | succ n ih =>
    intro j hj
    rcases Nat.lt_or_ge j (n + 1) with hlt | hge
    · obtain ⟨s, a, b, c, y, h1, -, -, rfl⟩ := rowW_parts h
      obtain ⟨t, h2, h3⟩ := ih h1 j (by omega)
      refine ⟨t, h2, fun i hi => (h3 i hi).trans ?_⟩
      have hl := rowW_len h1
      simp only [List.getD]
      rw [List.getElem?_append_left (by omega)]
    · obtain rfl : j = n + 1 := by omega
      exact ⟨_, h, fun _ _ => rfl⟩
theorem stepW_parts {x a b c one before y : Nat} (h : stepW x a b c one before = some y) : ∃ m1 m2 m3 m4, fb .mul a x = some m1 ∧ fb .add m1 b = some m2 ∧ fb .mul m2 one = some m3 ∧ fb .mul c before = some m4 ∧ fb .sub m3 m4 = some y := by
  unfold stepW at h
  obtain ⟨u1, h1, h⟩ := bind3 h
  obtain ⟨u2, h2, h⟩ := bind3 h
  obtain ⟨u3, h3, h⟩ := bind3 h
  obtain ⟨u4, h4, h⟩ := bind3 h
  exact ⟨_, _, _, _, h1, h2, h3, h4, h⟩
set_option maxRecDepth 100000 in
set_option maxHeartbeats 800000 in
theorem familyRow_w (kind n x : Nat) (r : List Nat × Nat) (hk : kind ≤ 4) (hn : n < 100) (h : rowW kind x n = some r) (w : World) :
    Calls Try.prog 44 #[.int .i64 (kind : Int), .int .i64 (n : Int), .float .f32 x] w fun e w' => ∃ g c, e = .returned (.slice (some ⟨g, 0, none⟩) (n + 1) c) ∧ Own w' g (g + 1) 25 (some ⟨g, 0, none⟩) (flts r.1) ∧ w.heap.size ≤ g ∧ g < w'.heap.size ∧ Below w.heap.size w w' := by
  obtain ⟨i0, hi, hz0, hz1, hz2⟩ := info_parts infoF
  have hup := Lib.hid (fun j (hj : j ≤ n) => (rowW_upto h j hj).imp fun s hs => hs.1)
  have hr := Lib.hid h
  clear h
  go_enter Try.func44, Try.ntmps44
  go_wp2
  have hown0 : (w.alloc (.cells #[.float .f32 1065353216] 25)).ownsRow w.heap.size 25 1 (.slice (some ⟨w.heap.size, 0, none⟩) 1 1) 1 (flts [1065353216]) := ⟨rfl, .inr ⟨w.heap.size, 1, #[.float .f32 1065353216], rfl, Nat.le_refl _, heap_alloc_new w _, by omega, by simp [maxLen], rfl, rfl⟩⟩
  have hb0 : Below w.heap.size w (w.alloc (.cells #[.float .f32 1065353216] 25)) := (Below.refl _ _).alloc (Nat.le_refl _) _
  go_loopw [7, 8, 9, 10, 11, 12, 13, 14, 17] (fun v b _ _ _ _ _ _ q wr => ∃ k : Nat, k ≤ n ∧ q = .int .i64 (k : Int) ∧ (∃ s, Hid (rowW kind x k = some s) ∧ b = .float .f32 s.2 ∧ wr.ownsRow w.heap.size 25 1 v (k + 1) (flts s.1)) ∧ Below w.heap.size w wr) (fun _ _ _ _ _ _ _ _ q _ => n - (intOf q).toNat)
  case atStart => exact ⟨0, Nat.zero_le _, rfl, ⟨_, Lib.hid rfl, rfl, hown0⟩, hb0⟩
  case round =>
    obtain ⟨k, hkn, rfl, ⟨s, hs, rfl, hown⟩, hbr⟩ := hrel
    clear hown0 hb0
    obtain ⟨Ao, co, rfl, -, hko, hO⟩ := Own.of_row hown (Nat.le_refl _)
    have hsz := hbr.size
    have hlen := rowW_len hs.out
    obtain ⟨wo, rfl⟩ : ∃ wo : World, wo = wr := ⟨_, rfl⟩
    by_cases hlt : k < n
    · obtain ⟨s', hs'⟩ := hup.out (k + 1) (by omega)
      obtain ⟨s1, a, b, c, y, e1, e2, e3, e4⟩ := rowW_parts hs'
      rw [hs.out] at e1
      cases e1
      obtain ⟨m1, m2, m3, m4, f1, f2, f3, f4, f5⟩ := stepW_parts e3
      have H := rule_all kind k a b c hk e2 wo
      obtain ⟨ad, had, hab, hc1⟩ := flt_at (hO.reads' (Nat.le_refl _) (by simp)) (k := k) (by omega)
      subst had
      obtain ⟨h1, h2⟩ := s
      simp only at *
      clear e2 e3
      generalize hone : h1.getD k 0 = one at *
      go_wp2_with fail
      refine H.mono ?_
      rintro e w2 ⟨rfl, rfl⟩
      clear H hO hab
      have g1 := ar32 _ _ _ _ f1
      have g2 := ar32 _ _ _ _ f2
      have g3 := ar32 _ _ _ _ f3
      have g4 := ar32 _ _ _ _ f4
      have g5 := ar32 _ _ _ _ f5
      clear f1 f2 f3 f4 f5
      go_wp2_with (at_builtin; refine wpList_append_any _ rfl (.tmp 43) (.tmp 45) _ rfl w.heap.size 25 i0 _ 1 4 Try.underlying26 hi hz0 hz1 hz2 rfl (by omega) (.slice (some ad) (k + 1) co) (k + 1) (flts h1) rfl (hown.alloc _) (w2.heap.size + 1) (some ⟨w2.heap.size, 0, none⟩) 1 1 [.float .f32 y] rfl (reads_new w2 [_] _) (one_flt y) (by simp only [maxLen]; omega) (by omega) (by simp; omega) ?_; intro v1 w3 hown3 hg3 hat3)
      have hb3 : Below w.heap.size w2 w3 := ((Below.refl _ _).alloc (by omega) _).grown hg3 (by simp; omega) (fun j hj => (hown.lt j hj).1)
      obtain ⟨A1, c1, rfl⟩ : ∃ A1 c1, v1 = .slice A1 (k + 1 + 1) c1 := by
        obtain ⟨A1, c1, h, -⟩ := Own.of_row hown3 (Nat.le_refl _)
        exact ⟨A1, c1, h⟩
      rw [flts_snoc] at hown3
      subst e4
      exact ⟨⟨k + 1, by omega, by go_num, ⟨_, Lib.hid hs', rfl, hown3⟩, hbr.trans hb3⟩, by simp [intOf]; omega⟩
    · obtain rfl : k = n := by omega
      have e := hs.out
      rw [hr.out] at e
      cases e
      obtain ⟨g, cg, e2, hlg⟩ := World.ownsRow.form hown (by omega)
      cases e2
      have hOw := own_row hown
      clear hO hs
      go_wp2
      go_ret
      exact ⟨g, co, rfl, hOw, by omega, by omega, hbr⟩
/-- All values of a row are finite. -/
def finR (l : List Nat) : Bool := l.all fin32B
set_option maxRecDepth 100000 in
theorem familyRowX_w (kind n x : Nat) (r : List Nat × Nat) (hk : kind ≤ 4) (hn : n ≤ 16) (h : rowW kind x n = some r) (hx : fin32B x = true) (hf : finR r.1 = true) (w : World) :
    Calls Try.prog 8 #[.int .i64 (kind : Int), .int .i64 (n : Int), .float .f32 x] w fun e w' => ∃ g c, e = .returned (.tuple #[.slice (some ⟨g, 0, none⟩) (n + 1) c, .bool true]) ∧ Own w' g (g + 1) 25 (some ⟨g, 0, none⟩) (flts r.1) ∧ w.heap.size ≤ g ∧ g < w'.heap.size ∧ Below w.heap.size w w' := by
  have hl := rowW_len h
  have HF := familyRow_w kind n x r hk (by omega) h
  have HK := isKind_yes kind n hk hn
  have HI := isFinite_b x
  rw [hx] at HI
  clear h hx
  go_enter Try.func8, Try.ntmps8
  go_wp2_with fail
  refine (HK _).mono ?_
  rintro e w1 ⟨rfl, rfl⟩
  go_wp2_with fail
  refine (HI _).mono ?_
  rintro e w2 ⟨rfl, hb1⟩
  go_wp2_with fail
  refine (HF _).mono ?_
  rintro e w3 ⟨g, c, rfl, hO, hg1, hg2, hb2⟩
  have HA := areFinite_b (some ⟨g, 0, none⟩) c w3.heap.size r.1 w3 (hO.reads' (by omega) (flts_len _)) (Nat.le_refl _) (by omega)
  unfold finR at hf
  rw [hf, hl] at HA
  have z1 := hb1.size
  have z2 := hb2.size
  clear HF HK HI
  go_wp2_with fail
  refine HA.mono ?_
  rintro e w4 ⟨rfl, hb3⟩
  have z3 := hb3.size
  go_wp2
  go_ret2
  exact ⟨g, c, rfl, hO.below hb3 (by omega), by omega, by omega, hb1.trans ((hb2.trans (hb3.mono z2)).mono z1)⟩
set_option maxRecDepth 100000 in
theorem familyAt_w (kind n x y : Nat) (r : List Nat × Nat) (hk : kind ≤ 4) (hn : n ≤ 16) (h : rowW kind x n = some r) (hx : fin32B x = true) (hy : r.1.getD n 0 = y) (hf : fin32B y = true) (w : World) :
    Calls Try.prog 9 #[.int .i64 (kind : Int), .int .i64 (n : Int), .float .f32 x] w fun e w' => e = .returned (.tuple #[.float .f32 y, .bool true]) ∧ Below w.heap.size w w' := by
  have hl := rowW_len h
  have HF := familyRow_w kind n x r hk (by omega) h
  have HK := isKind_yes kind n hk hn
  have HI := isFinite_b x
  rw [hx] at HI
  have HC := checked_v hf
  replace hl := Lib.hid hl
  replace hy := Lib.hid hy
  clear h hx hf
  go_enter Try.func9, Try.ntmps9
  go_wp2_with fail
  refine (HK _).mono ?_
  rintro e w1 ⟨rfl, rfl⟩
  go_wp2_with fail
  refine (HI _).mono ?_
  rintro e w2 ⟨rfl, hb1⟩
  go_wp2_with fail
  refine (HF _).mono ?_
  rintro e w3 ⟨g, c, rfl, hO, hg1, hg2, hb2⟩
  obtain ⟨ad, e1, -, hc⟩ := flt_at (k := n) (hO.reads' (B := w3.heap.size) (by omega) (flts_len _)) (by rw [hl.out]; omega)
  cases e1
  rw [hy.out, add0] at hc
  have z1 := hb1.size
  have z2 := hb2.size
  clear hO
  go_wp2_with fail
  refine (HC _).mono ?_
  rintro e w4 ⟨rfl, hb3⟩
  go_wp2
  go_ret2
  exact ⟨rfl, hb1.trans ((hb2.trans (hb3.mono z2)).mono z1)⟩
set_option maxRecDepth 100000 in
theorem ruleOf_w (kind k a b c : Nat) (hk : kind ≤ 4) (hn : k ≤ 16) (h : ruleW kind k = some (a, b, c)) (w : World) :
    Calls Try.prog 14 #[.int .i64 (kind : Int), .int .i64 (k : Int)] w fun e w' => e = .returned (.tuple #[.float .f32 a, .float .f32 b, .float .f32 c, .bool true]) ∧ w' = w := by
  have HK := isKind_yes kind k hk hn
  have HR := rule_all kind k a b c hk h
  clear h
  go_enter Try.func14, Try.ntmps14
  go_wp2_with fail
  refine (HK _).mono ?_
  rintro e w1 ⟨rfl, rfl⟩
  go_wp2_with fail
  refine (HR _).mono ?_
  rintro e w1 ⟨rfl, rfl⟩
  go_wp2
  refine bodyPost_ret (v := .tuple #[.float .f32 a, .float .f32 b, .float .f32 c, .bool true]) (by simp [results, Try.results14, go_sem]) rfl ?_
  exact ⟨rfl, rfl⟩
end Go.Proofs.Ytlpibibpckkjhaa
namespace Go.Proofs.Ytlpibibpckkjhaa
open Go.RowKit
set_option maxRecDepth 100000 in
theorem realAt_w (A : Option Addr) (c B k n : Nat) (l : List Nat) (hl : l.length = n) (hn : n ≤ 1000) (w : World) (hr : Reads w B 1 A n (flts l)) :
    Calls Try.prog 88 #[.slice A n c, .int .i64 (k : Int)] w fun e w' => e = .returned (.float .f32 (l.getD k 0)) ∧ w' = w := by
  subst hl
  by_cases h : k < l.length
  · obtain ⟨ad, rfl, hab, hc⟩ := flt_at hr h
    clear hr
    generalize l.getD k 0 = x at *
    go_enter Try.func88, Try.ntmps88
    go_wp2
    go_ret
    exact ⟨rfl, rfl⟩
  · have e : l.getD k 0 = 0 := by simp [List.getD, List.getElem?_eq_none (show l.length ≤ k by omega)]
    rw [e]
    clear hr e
    go_enter Try.func88, Try.ntmps88
    go_wp2
    go_ret
    exact ⟨rfl, rfl⟩
set_option maxRecDepth 100000 in
theorem realAt_neg (A : Option Addr) (c n : Nat) (w : World) :
    Calls Try.prog 88 #[.slice A n c, .int .i64 (-1)] w fun e w' => e = .returned (.float .f32 0) ∧ w' = w := by
  go_enter Try.func88, Try.ntmps88
  go_wp2
  go_ret
  exact ⟨rfl, rfl⟩
/-- The term before a place. -/
def preW (l : List Nat) : Nat → Nat
  | 0 => 0
  | k + 1 => l.getD k 0
theorem realAt_pre (A : Option Addr) (c B k n : Nat) (l : List Nat) (hl : l.length = n) (hn : n ≤ 1000) (w : World) (hr : Reads w B 1 A n (flts l)) :
    Calls Try.prog 88 #[.slice A n c, .int .i64 ((k : Int) - 1)] w fun e w' => e = .returned (.float .f32 (preW l k)) ∧ w' = w := by
  cases k with
  | zero => exact realAt_neg A c n w
  | succ k =>
    have e : ((k + 1 : Nat) : Int) - 1 = (k : Int) := by omega
    rw [e]
    exact realAt_w A c B k n l hl hn w hr
def tstepW (a b c o1 o0 b0 : Nat) : Option Nat :=
  (fb .mul a o1).bind fun p1 => (fb .mul b o0).bind fun p2 => (fb .add p1 p2).bind fun s => (fb .mul c b0).bind fun q => fb .sub s q
theorem tstepW_parts {a b c o1 o0 b0 y : Nat} (h : tstepW a b c o1 o0 b0 = some y) : ∃ p1 p2 s q, fb .mul a o1 = some p1 ∧ fb .mul b o0 = some p2 ∧ fb .add p1 p2 = some s ∧ fb .mul c b0 = some q ∧ fb .sub s q = some y := by
  unfold tstepW at h
  obtain ⟨u1, h1, h⟩ := bind3 h
  obtain ⟨u2, h2, h⟩ := bind3 h
  obtain ⟨u3, h3, h⟩ := bind3 h
  obtain ⟨u4, h4, h⟩ := bind3 h
  exact ⟨_, _, _, _, h1, h2, h3, h4, h⟩
/-- The terms of the next polynomial, so many of them. -/
def tlistW (a b c : Nat) (one before : List Nat) : Nat → Option (List Nat)
  | 0 => some []
  | k + 1 => (tlistW a b c one before k).bind fun l => (tstepW a b c (preW one k) (one.getD k 0) (before.getD k 0)).bind fun y => some (l ++ [y])
theorem tlistW_parts {a b c k : Nat} {one before l : List Nat} (h : tlistW a b c one before (k + 1) = some l) : ∃ l' y, tlistW a b c one before k = some l' ∧ tstepW a b c (preW one k) (one.getD k 0) (before.getD k 0) = some y ∧ l = l' ++ [y] := by
  rw [tlistW] at h
  obtain ⟨l', h1, h⟩ := bind3 h
  obtain ⟨y, h2, h⟩ := bind3 h
  cases h
  exact ⟨l', y, h1, h2, rfl⟩
theorem tlistW_len {a b c : Nat} {one before : List Nat} : ∀ {k : Nat} {l : List Nat}, tlistW a b c one before k = some l → l.length = k
  | 0, l, h => by cases h; rfl
  | k + 1, l, h => by
    obtain ⟨l', y, h1, -, rfl⟩ := tlistW_parts h
    simp [tlistW_len h1]
theorem tlistW_upto {a b c n : Nat} {one before l : List Nat} (h : tlistW a b c one before n = some l) : ∀ j, j ≤ n → ∃ s, tlistW a b c one before j = some s := by
  induction n generalizing l with
  | zero => intro j hj; obtain rfl : j = 0 := by omega
            exact ⟨_, h⟩
  | succ n ih =>
    intro j hj
    rcases Nat.lt_or_ge j (n + 1) with hlt | hge
    · obtain ⟨l', y, h1, -, -⟩ := tlistW_parts h
      exact ih h1 j (by omega)
    · obtain rfl : j = n + 1 := by omega
      exact ⟨_, h⟩
/-- The terms of a polynomial of a family, and of that before it. -/
def termW (kind : Nat) : Nat → Option (List Nat × List Nat)
  | 0 => some ([1065353216], [])
  | m + 1 => (termW kind m).bind fun r => (ruleW kind m).bind fun q => (tlistW q.1 q.2.1 q.2.2 r.1 r.2 (m + 2)).bind fun l => some (l, r.1)
theorem termW_parts {kind m : Nat} {r : List Nat × List Nat} (h : termW kind (m + 1) = some r) : ∃ s a b c l, termW kind m = some s ∧ ruleW kind m = some (a, b, c) ∧ tlistW a b c s.1 s.2 (m + 2) = some l ∧ r = (l, s.1) := by
  rw [termW] at h
  obtain ⟨s, h1, h⟩ := bind3 h
  obtain ⟨⟨a, b, c⟩, h2, h⟩ := bind3 h
  obtain ⟨l, h3, h⟩ := bind3 h
  cases h
  exact ⟨s, a, b, c, l, h1, h2, h3, rfl⟩
theorem termW_len {kind : Nat} : ∀ {m : Nat} {r : List Nat × List Nat}, termW kind m = some r → r.1.length = m + 1 ∧ r.2.length = m
  | 0, r, h => by cases h; exact ⟨rfl, rfl⟩
  | m + 1, r, h => by
    obtain ⟨s, a, b, c, l, h1, -, h3, rfl⟩ := termW_parts h
    exact ⟨tlistW_len h3, (termW_len h1).1⟩
theorem termW_upto {kind n : Nat} {r : List Nat × List Nat} (h : termW kind n = some r) : ∀ j, j ≤ n → ∃ s, termW kind j = some s := by
  induction n generalizing r with
  | zero => intro j hj; obtain rfl : j = 0 := by omega
            exact ⟨_, h⟩
  | succ n ih =>
    intro j hj
    rcases Nat.lt_or_ge j (n + 1) with hlt | hge
    · obtain ⟨s, a, b, c, l, h1, -, -, -⟩ := termW_parts h
      exact ih h1 j (by omega)
    · obtain rfl : j = n + 1 := by omega
      exact ⟨_, h⟩
/-- A slice lies apart from a row of other elements that grows. -/
theorem Own.grown {w w' : World} {lo hi base s n : Nat} {E F : TypeId} {A : Option Addr} {xs ys : List Value} {v : Value} (h : Own w lo hi E A xs) (ho : w.ownsRow base F s v n ys) (hg : w.grownBy w' v.ownBlock) (hEF : E ≠ F) : Own w' lo hi E A xs := by
  rcases h with rfl | ⟨g, cur, rfl, h1, h2, h3, h4, h5⟩
  · exact .inl rfl
  · refine .inr ⟨g, cur, rfl, h1, h2, (hg.block g ?_ ?_).trans h3, h4, h5⟩
    · rcases Nat.lt_or_ge g w.heap.size with h | h
      · exact h
      · rw [Array.getElem?_eq_none h] at h3; cases h3
    · intro e
      rcases ho.2 with ⟨rfl, -⟩ | ⟨g', cap, cur', rfl, -, hh, -⟩
      · cases e
      · obtain rfl : g = g' := by simpa [Value.ownBlock] using e
        rw [h3] at hh
        cases hh
        exact hEF rfl
theorem one_slc (A : Option Addr) (n c : Nat) : ∀ u ∈ [Value.slice A n c], u.oneCell' = true := by intro u hu; simp at hu; subst hu; rfl
set_option maxRecDepth 100000 in
set_option maxHeartbeats 1600000 in
theorem familyTerms_w (kind n : Nat) (r : List Nat × List Nat) (hk : kind ≤ 4) (hn : n ≤ 20) (h : termW kind n = some r) (w : World) :
    Calls Try.prog 49 #[.int .i64 (kind : Int), .int .i64 (n : Int)] w fun e w' => ∃ g c xs gm cm, e = .returned (.slice (some ⟨g, 0, none⟩) (n + 1) c) ∧ Own w' g (g + 1) 26 (some ⟨g, 0, none⟩) xs ∧ xs.length = n + 1 ∧ xs[n]? = some (.slice (some ⟨gm, 0, none⟩) (n + 1) cm) ∧
      Own w' w.heap.size w'.heap.size 25 (some ⟨gm, 0, none⟩) (flts r.1) ∧ w.heap.size ≤ g ∧ g < w'.heap.size ∧ Below w.heap.size w w' := by
  obtain ⟨i0, hi, hz0, hz1, hz2⟩ := info_parts infoF
  obtain ⟨i1, hj, hy0, hy1, hy2⟩ := info_parts infoS
  have hup := Lib.hid (termW_upto h)
  have hr := Lib.hid h
  clear h
  go_enter Try.func49, Try.ntmps49
  go_wp2
  have hb0 : Below w.heap.size w (((w.alloc (.cells #[.float .f32 1065353216] 25)).alloc (.cells #[.slice (some ⟨w.heap.size, 0, none⟩) 1 1] 26)).alloc (.cells #[] 25)) := (((Below.refl _ _).alloc (Nat.le_refl _) _).alloc (by simp) _).alloc (by simp; omega) _
  have hro : (((w.alloc (.cells #[.float .f32 1065353216] 25)).alloc (.cells #[.slice (some ⟨w.heap.size, 0, none⟩) 1 1] 26)).alloc (.cells #[] 25)).ownsRow w.heap.size 26 1 (.slice (some ⟨w.heap.size + 1, 0, none⟩) 1 1) 1 [.slice (some ⟨w.heap.size, 0, none⟩) 1 1] := by
    have h : ((w.alloc (.cells #[.float .f32 1065353216] 25)).alloc (.cells #[.slice (some ⟨w.heap.size, 0, none⟩) 1 1] 26)).ownsRow w.heap.size 26 1 (.slice (some ⟨w.heap.size + 1, 0, none⟩) 1 1) 1 [.slice (some ⟨w.heap.size, 0, none⟩) 1 1] :=
      ⟨rfl, .inr ⟨w.heap.size + 1, 1, #[.slice (some ⟨w.heap.size, 0, none⟩) 1 1], rfl, by omega, by have := heap_alloc_new (w.alloc (.cells #[.float .f32 1065353216] 25)) (.cells #[.slice (some ⟨w.heap.size, 0, none⟩) 1 1] 26); simpa using this, by omega, by simp [maxLen], rfl, rfl⟩⟩
    exact h.alloc _
  have hone : Own (((w.alloc (.cells #[.float .f32 1065353216] 25)).alloc (.cells #[.slice (some ⟨w.heap.size, 0, none⟩) 1 1] 26)).alloc (.cells #[] 25)) w.heap.size (((w.alloc (.cells #[.float .f32 1065353216] 25)).alloc (.cells #[.slice (some ⟨w.heap.size, 0, none⟩) 1 1] 26)).alloc (.cells #[] 25)).heap.size 25 (some ⟨w.heap.size, 0, none⟩) (flts [1065353216]) :=
    .inr ⟨w.heap.size, #[.float .f32 1065353216], rfl, Nat.le_refl _, by simp; omega, ((Blk.new w 25 #[.float .f32 1065353216]).alloc _).alloc _, by simp, rfl⟩
  go_loopw [5, 6, 7, 8, 9, 10, 11, 12, 13, 18] (fun v b _ _ _ _ _ _ _ q wr => ∃ m : Nat, m ≤ n ∧ q = .int .i64 (m : Int) ∧ (∃ s, Hid (termW kind m = some s) ∧ (∃ xs gm cm, wr.ownsRow w.heap.size 26 1 v (m + 1) xs ∧ xs[m]? = some (.slice (some ⟨gm, 0, none⟩) (m + 1) cm) ∧ Own wr w.heap.size wr.heap.size 25 (some ⟨gm, 0, none⟩) (flts s.1)) ∧ (∃ Ab cb, b = .slice Ab m cb ∧ Own wr w.heap.size wr.heap.size 25 Ab (flts s.2))) ∧ Below w.heap.size w wr) (fun _ _ _ _ _ _ _ _ _ q _ => n - (intOf q).toNat)
  case atStart => exact ⟨0, Nat.zero_le _, rfl, ⟨_, Lib.hid rfl, ⟨_, _, _, hro, rfl, hone⟩, ⟨_, _, rfl, .inl rfl⟩⟩, hb0⟩
  case round =>
    obtain ⟨m, hm, rfl, ⟨s, hs, ⟨xs, gm, cm, hrow, hxm, hO1⟩, ⟨Ab, cb, rfl, hO2⟩⟩, hbr⟩ := hrel
    clear hro hone hb0
    obtain ⟨wo, rfl⟩ : ∃ wo : World, wo = wr := ⟨_, rfl⟩
    have hsz := hbr.size
    obtain ⟨hl1, hl2⟩ := termW_len hs.out
    obtain ⟨go_, co, rfl, hgl⟩ := World.ownsRow.form hrow (by omega)
    have hOo := own_row hrow
    have hxl : xs.length = m + 1 := by have := hrow.1; omega
    by_cases hlt : m < n
    · obtain ⟨s', hs'⟩ := hup.out (m + 1) (by omega)
      obtain ⟨s1, a, b, c, L, e1, e2, e3, e4⟩ := termW_parts hs'
      rw [hs.out] at e1
      cases e1
      have H := rule_all kind m a b c hk e2
      obtain ⟨ad, u, e5, -, hu, hc0⟩ := (hOo.reads' (B := wo.heap.size) (by omega) hxl).at_ (show m < m + 1 by omega)
      cases e5
      rw [hxm] at hu
      cases hu
      rw [add0] at hc0
      obtain ⟨one, before⟩ := s
      simp only at *
      have hupi := Lib.hid (tlistW_upto e3)
      have hLl := tlistW_len e3
      replace e3 := Lib.hid e3
      replace e4 := Lib.hid e4
      have hgb : go_ < wo.heap.size := by omega
      clear e2 hOo hs
      go_wp2_with fail
      refine (H _).mono ?_
      rintro e w2 ⟨rfl, rfl⟩
      clear H
      go_wp2
      have hn0 : (w2.alloc (.cells #[] 25)).ownsRow w2.heap.size 25 1 (.slice (some ⟨w2.heap.size, 0, none⟩) 0 0) 0 (flts []) := by
        have h := World.ownsRow_made (base := w2.heap.size) (e := 25) (size := 1) w2 #[] 0 (by simp) (by simp [maxLen]) rfl
        simpa [flts] using h
      have hbn : Below w2.heap.size w2 (w2.alloc (.cells #[] 25)) := (Below.refl _ _).alloc (Nat.le_refl _) _
      go_loopw [12, 13, 36] (fun nx _ q wr => ∃ k : Nat, k ≤ m + 2 ∧ q = .int .i64 (k : Int) ∧ (∃ l, Hid (tlistW a b c one before k = some l) ∧ wr.ownsRow w2.heap.size 25 1 nx k (flts l)) ∧ Below w2.heap.size w2 wr) (fun _ _ q _ => m + 2 - (intOf q).toNat)
      case atStart => exact ⟨0, Nat.zero_le _, rfl, ⟨[], Lib.hid rfl, hn0⟩, hbn⟩
      case round =>
        obtain ⟨k, hkm, rfl, ⟨l, hl, hnx⟩, hbi⟩ := hrel
        clear hn0 hbn hc0
        obtain ⟨w3, rfl⟩ : ∃ w3 : World, w3 = wr := ⟨_, rfl⟩
        have hsi := hbi.size
        by_cases hltk : k < m + 2
        · obtain ⟨l2, hl2'⟩ := hupi.out (k + 1) (by omega)
          obtain ⟨l', y, f1, f2, f3⟩ := tlistW_parts hl2'
          rw [hl.out] at f1
          cases f1
          obtain ⟨p1, p2, sm, q, g1, g2, g3, g4, g5⟩ := tstepW_parts f2
          have R1 := realAt_pre (some ⟨gm, 0, none⟩) cm w2.heap.size k (m + 1) one hl1 (by omega) w3 ((hO1.below hbi (by omega)).reads' (by omega) (by simpa using hl1))
          have R2 := realAt_w (some ⟨gm, 0, none⟩) cm w2.heap.size k (m + 1) one hl1 (by omega) w3 ((hO1.below hbi (by omega)).reads' (by omega) (by simpa using hl1))
          have R3 := realAt_w Ab cb w2.heap.size k m before hl2 (by omega) w3 ((hO2.below hbi (by omega)).reads' (by omega) (by simpa using hl2))
          have j1 := ar32 _ _ _ _ g1
          have j2 := ar32 _ _ _ _ g2
          have j3 := ar32 _ _ _ _ g3
          have j4 := ar32 _ _ _ _ g4
          have j5 := ar32 _ _ _ _ g5
          obtain ⟨An, cn_, rfl, -, hkc, -⟩ := Own.of_row hnx (Nat.le_refl _)
          replace hl2' := Lib.hid hl2'
          replace f3 := Lib.hid f3
          clear g1 g2 g3 g4 g5 f2 hO1 hO2 hrow
          generalize preW one k = o1 at *
          generalize one.getD k 0 = o0 at *
          generalize before.getD k 0 = b0 at *
          go_wp2_with fail
          refine R1.mono ?_
          rintro e w4 ⟨rfl, rfl⟩
          clear R1
          go_wp2_with fail
          refine R2.mono ?_
          rintro e w4 ⟨rfl, rfl⟩
          clear R2
          go_wp2_with fail
          refine R3.mono ?_
          rintro e w4 ⟨rfl, rfl⟩
          clear R3
          go_wp2_with (at_builtin; refine wpList_append_any _ rfl (.tmp 39) (.tmp 58) _ rfl w2.heap.size 25 i0 _ 1 4 Try.underlying26 hi hz0 hz1 hz2 rfl (by omega) (.slice An k cn_) k (flts l) rfl (hnx.alloc _) (w4.heap.size + 1) (some ⟨w4.heap.size, 0, none⟩) 1 1 [.float .f32 y] rfl (reads_new w4 [_] _) (one_flt y) (by simp only [maxLen]; omega) (by omega) (by simp; omega) ?_; intro v1 w5 hr5 hg5 hat5)
          have hb5 : Below w2.heap.size w4 w5 := ((Below.refl _ _).alloc hsi _).grown hg5 (by simp; omega) (fun j hj => (hnx.lt j hj).1)
          rw [flts_snoc, ← f3.out] at hr5
          go_wp2
          go_roundw
          case rel => exact ⟨k + 1, by omega, by go_num, ⟨l2, hl2', hr5⟩, hbi.trans hb5⟩
          case measure => (simp [intOf]; all_goals omega)
        · obtain rfl : k = m + 2 := by omega
          have e6 := hl.out
          rw [e3.out] at e6
          cases e6
          obtain ⟨gn, cn_, rfl, hgn⟩ := World.ownsRow.form hnx (by omega)
          have hrow3 := ownsRow_kp hrow (Kp.of_below (lo := 0) (hi := 0) hbi) (Nat.zero_le _)
          have hO3 := hO1.below hbi (Nat.le_refl _)
          have hn3 := own_row hnx
          have hb6 := hbr.trans (hbi.mono hsz)
          have z6 := hb6.size
          clear hrow hO1 hO2 hnx hbr
          go_wp2_with (at_builtin; refine wpList_append_any _ rfl (.tmp 62) (.tmp 64) _ rfl w.heap.size 26 i1 _ 1 24 Try.underlying76 hj hy0 hy1 hy2 rfl (by omega) (.slice (some ⟨go_, 0, none⟩) (m + 1) co) (m + 1) xs rfl (hrow3.alloc _) (w3.heap.size + 1) (some ⟨w3.heap.size, 0, none⟩) 1 1 [.slice (some ⟨gn, 0, none⟩) (m + 2) cn_] rfl (reads_new w3 [_] _) (one_slc _ _ _) (by simp only [maxLen]; omega) (by omega) (by simp; omega) ?_; intro v1 w5 hr5 hg5 hat5)
          have hb5 : Below w.heap.size w3 w5 := ((Below.refl _ _).alloc z6 _).grown hg5 (by simp; omega) (fun j hj => (hrow3.lt j hj).1)
          have z5 := hb5.size
          have hal : Below w3.heap.size w3 (w3.alloc (.cells #[.slice (some ⟨gn, 0, none⟩) (m + 2) cn_] 26)) := (Below.refl _ _).alloc (Nat.le_refl _) _
          have hOn := (hn3.below hal (by omega)).grown (hrow3.alloc _) hg5 (by decide)
          have hOo := (hO3.below hal (by omega)).grown (hrow3.alloc _) hg5 (by decide)
          go_wp2
          go_roundw
          case rel => exact ⟨m + 1, by omega, by go_num, ⟨s', Lib.hid hs', ⟨_, gn, cn_, hr5, by rw [List.getElem?_append_right (by omega), hxl]; simp, by rw [e4.out]; exact hOn.wide (by omega) (by omega)⟩, ⟨_, cm, rfl, by rw [e4.out]; exact hOo.wide (by omega) (by omega)⟩⟩, hb6.trans hb5⟩
          case measure => (simp [intOf]; all_goals omega)
    · obtain rfl : m = n := by omega
      have e := hs.out
      rw [hr.out] at e
      cases e
      go_wp2
      go_ret
      exact ⟨go_, co, xs, gm, cm, rfl, hOo, hxl, hxm, hO1, by omega, by omega, hbr⟩
set_option maxRecDepth 100000 in
set_option maxHeartbeats 1600000 in
theorem familyPoly_w (kind n : Nat) (r : List Nat × List Nat) (hk : kind ≤ 4) (hn : n ≤ 16) (h : termW kind n = some r) (hp : polyB (reC r.1) = true) (ht : trimN (reC r.1) (n + 1) = n + 1) (w : World) :
    Calls Try.prog 10 #[.int .i64 (kind : Int), .int .i64 (n : Int)] w fun e w' => ∃ g c, e = .returned (.tuple #[.agg #[.slice (some ⟨g, 0, none⟩) (n + 1) c], .bool true]) ∧ Own w' w.heap.size w'.heap.size 36 (some ⟨g, 0, none⟩) (cplx (reC r.1)) ∧ Below w.heap.size w w' := by
  have HT := familyTerms_w kind n r hk (by omega) h
  have HK := isKind_yes kind n hk hn
  obtain ⟨hl, -⟩ := termW_len h
  obtain ⟨l, l2⟩ := r
  simp only at *
  clear h
  have hb0 : Below w.heap.size w (w.alloc (.cells #[.slice none 0 0] 33)) := (Below.refl _ _).alloc (Nat.le_refl _) _
  have hR0 := Blk.new w 33 #[.slice none 0 0]
  go_enter Try.func10, Try.ntmps10
  go_wp2_with fail
  refine (HK _).mono ?_
  rintro e w1 ⟨rfl, rfl⟩
  clear HK
  go_wp2_with fail
  (with_reducible refine (HT _).mono ?_)
  rintro e w1 ⟨g, c, xs, gm, cm, rfl, hO, hxl, hxm, hOm, hg1, hg2, hb1⟩
  clear HT
  have z1 := hb1.size
  simp only [World.size_alloc] at z1 hg1
  have hR1 := hR0.below hb1 (by simp)
  have hb2 := hb0.trans (hb1.mono (by simp))
  obtain ⟨ad, u, e5, -, hu, hc0⟩ := (hO.reads' (B := w1.heap.size) (by omega) hxl).at_ (show n < n + 1 by omega)
  cases e5
  rw [hxm] at hu
  cases hu
  rw [add0] at hc0
  have HC := complexes_any (some ⟨gm, 0, none⟩) cm w1.heap.size l w1 (hOm.reads' (Nat.le_refl _) (flts_len _)) (Nat.le_refl _) (by omega) (by omega)
  rw [hl] at HC
  clear hO hOm hR0 hb0 hb1
  go_wp2_with fail
  (with_reducible refine HC.mono ?_)
  rintro e w2 ⟨g2, c2, rfl, hrow, hb3⟩
  clear HC hc0
  have z3 := hb3.size
  have hR2 := hR1.below hb3 (by omega)
  have hb4 := hb2.trans (hb3.mono (by omega))
  have hO2 : Own w2 w1.heap.size w2.heap.size 36 (some ⟨g2, 0, none⟩) (cplx (reC l)) := by
    obtain ⟨A', c', e, -, -, h⟩ := Own.of_row hrow (Nat.le_refl _)
    cases e
    exact h
  have hcc : n + 1 ≤ c2 := by
    obtain ⟨A', c', e, -, h, -⟩ := Own.of_row hrow (Nat.le_refl _)
    cases e
    exact h
  have HP := polyOf_any w1.heap.size g2 c2 (reC l) w2 hO2 (by simp; omega) (by simp; omega) (by simp; omega)
  rw [reC_len, hl, ht, show (reC l).take (n + 1) = reC l from List.take_of_length_le (by simp; omega), hp] at HP
  clear hR1 hb2 hb3 hrow hO2
  go_wp2_with fail
  (with_reducible refine HP.mono ?_)
  rintro e w3 ⟨hPP, hb5⟩
  clear HP
  rcases hPP with ⟨-, gf, cf, rfl, -, hOf⟩ | ⟨h0, -⟩
  · have z5 := hb5.size
    have hR3 := hR2.below hb5 (by omega)
    have hb6 := hb4.trans (hb5.mono (by omega))
    have cR : w3.cell? ⟨w.heap.size, 0, none⟩ = some (.slice none 0 0) := hR3.cell 0
    have fR := hR3.frozen 0
    clear hR2 hb4 hb5
    go_wp2
    refine bodyPost_ret (v := .tuple #[.agg #[.slice (some ⟨gf, 0, none⟩) (n + 1) cf], .bool true]) (by simp [results, Try.results10, go_sem, cR]) rfl ?_
    exact ⟨gf, cf, rfl, (hOf.keep fun g' b1 b2 _ => Below.heap_setCell _ _ _ _ (by simp; omega)).wide (by omega) (by simp), below_set hb6 (by simp) _⟩
  · cases h0
end Go.Proofs.Ytlpibibpckkjhaa
namespace Go.Proofs.Ytlpibibpckkjhaa
open Go.RowKit
/-- Bounds of what is summed so far, and of its error, by the number of terms. -/
def bT : Nat → Rat
  | 0 => 0
  | 1 => 1
  | 2 => 31 / 10
  | 3 => 83 / 10
  | 4 => 21
  | 5 => 52
  | _ => 128
def fT : Nat → Rat
  | 0 => 0
  | 1 => 1
  | 2 => 52 / 10
  | 3 => 198 / 10
  | 4 => 66
  | 5 => 205
  | _ => 610
def ab (x : Rat) : Rat := if x < 0 then -x else x
theorem ab_lm (x : Rat) : Lm x (ab x) := by
  unfold ab Lm; split <;> constructor <;> grind
def rulV (kind k : Nat) : Nat × Nat × Nat := (ruleW kind k).getD (0, 0, 0)
def rA (kind k : Nat) : Rat := V32 (rulV kind k).1
def rB (kind k : Nat) : Rat := V32 (rulV kind k).2.1
def rC (kind k : Nat) : Rat := V32 (rulV kind k).2.2
def rulB (kind k : Nat) : Bool := match ruleW kind k with
  | some q => fin32B q.1 && fin32B q.2.1 && fin32B q.2.2
  | none => false
theorem rul_tab : (List.range 5).all (fun kind => (List.range 7).all (rulB kind)) = true := by decide +kernel
theorem rul_ok (kind k : Nat) (hk : kind ≤ 4) (hk6 : k ≤ 6) : ruleW kind k = some ((rulV kind k).1, (rulV kind k).2.1, (rulV kind k).2.2) ∧ NV .f32 (rulV kind k).1 (rA kind k) ∧ NV .f32 (rulV kind k).2.1 (rB kind k) ∧ NV .f32 (rulV kind k).2.2 (rC kind k) := by
  have h := List.all_eq_true.1 (List.all_eq_true.1 rul_tab kind (List.mem_range.2 (by omega))) k (List.mem_range.2 (by omega))
  unfold rulB at h
  cases e : ruleW kind k with
  | none => rw [e] at h; cases h
  | some q =>
    rw [e] at h
    simp only [Bool.and_eq_true] at h
    have e2 : rulV kind k = q := by unfold rulV; rw [e]; rfl
    unfold rA rB rC
    rw [e2]
    exact ⟨rfl, nv_of_fin h.1.1, nv_of_fin h.1.2, nv_of_fin h.2⟩
def clB (kind k j : Nat) : Bool :=
  decide (1 ≤ ab (rA kind k) + ab (rB kind k)) && decide (ab (rA kind k) + ab (rB kind k) ≤ 3) && decide (ab (rC kind (k + 1)) ≤ 7) &&
  decide (1 + (ab (rA kind k) + ab (rB kind k)) * bT j + ab (rC kind (k + 1)) * bT (j - 1) ≤ bT (j + 1)) && decide ((ab (rA kind k) + ab (rB kind k)) * fT j + ab (rC kind (k + 1)) * fT (j - 1) + (1 + (ab (rA kind k) + ab (rB kind k)) * bT j + ab (rC kind (k + 1)) * bT (j - 1)) ≤ fT (j + 1))
theorem cl_tab : (List.range 5).all (fun kind => (List.range 6).all fun k => (List.range (6 - k)).all fun j => clB kind k j) = true := by decide +kernel
theorem bT_bd (j : Nat) : 0 ≤ bT j ∧ bT j ≤ 130 := by
  match j with
  | 0 | 1 | 2 | 3 | 4 | 5 => unfold bT; decide +kernel
  | n + 6 =>
    have e : bT (n + 6) = 128 := rfl
    rw [e]; decide +kernel
theorem fT_bd (j : Nat) : 0 ≤ fT j ∧ fT j ≤ 610 := by
  match j with
  | 0 | 1 | 2 | 3 | 4 | 5 => unfold fT; decide +kernel
  | n + 6 =>
    have e : fT (n + 6) = 610 := rfl
    rw [e]; decide +kernel
/-- The sum from its end, so many terms of it; and the one before. -/
def clE (W : Nat → Rat) (kind : Nat) (X : Rat) (m : Nat) : Nat → Rat × Rat
  | 0 => (0, 0)
  | j + 1 => (W (m - 1 - j) + (rA kind (m - 1 - j) * X + rB kind (m - 1 - j)) * (clE W kind X m j).1 - rC kind (m - 1 - j + 1) * (clE W kind X m j).2, (clE W kind X m j).1)
/-- The values of a family, exactly: this one and the one before. -/
def rowE (kind : Nat) (X : Rat) : Nat → Rat × Rat
  | 0 => (1, 0)
  | k + 1 => ((rA kind k * X + rB kind k) * (rowE kind X k).1 - rC kind k * (rowE kind X k).2, (rowE kind X k).1)
def sumR (W : Nat → Rat) (kind : Nat) (X : Rat) : Nat → Rat
  | 0 => 0
  | k + 1 => sumR W kind X k + W k * (rowE kind X k).1
theorem clen_inv (W : Nat → Rat) (kind : Nat) (X : Rat) (m : Nat) : ∀ j, j ≤ m → sumR W kind X (m - j) + (clE W kind X m j).1 * (rowE kind X (m - j)).1 - rC kind (m - j) * (clE W kind X m j).2 * (rowE kind X (m - j)).2 = sumR W kind X m
  | 0, _ => by
    rw [clE, Nat.sub_zero]
    grind
  | j + 1, hj => by
    have ih := clen_inv W kind X m j (by omega)
    obtain ⟨k, hk⟩ : ∃ k, m - j = k + 1 := ⟨m - j - 1, by omega⟩
    have h1 : m - 1 - j = k := by omega
    have h2 : m - (j + 1) = k := by omega
    rw [hk, rowE, sumR] at ih
    rw [clE, h1, h2]
    grind
theorem clen_all (W : Nat → Rat) (kind : Nat) (X : Rat) (m : Nat) : (clE W kind X m m).1 = sumR W kind X m := by
  have h := clen_inv W kind X m m (Nat.le_refl _)
  rw [Nat.sub_self, rowE, sumR] at h
  grind
/-- Where the sum stands. -/
def ClAt (W : Nat → Rat) (kind : Nat) (X D : Rat) (m j u v : Nat) : Prop := ∃ U V, NV .f32 u U ∧ NV .f32 v V ∧ Nr U (clE W kind X m j).1 (fT j * (D / 2400000)) ∧ Nr V (clE W kind X m j).2 (fT (j - 1) * (D / 2400000)) ∧ Lm (clE W kind X m j).1 (bT j * D) ∧ Lm (clE W kind X m j).2 (bT (j - 1) * D)
theorem clAt_zero {W : Nat → Rat} {kind m : Nat} {X D : Rat} : ClAt W kind X D m 0 0 0 := by
  refine ⟨0, 0, nv_zero, nv_zero, ?_, ?_, ?_, ?_⟩ <;> (rw [clE]; simp only [Nat.zero_sub, fT, bT]) <;> first | (unfold Nr; constructor <;> grind) | (unfold Lm; constructor <;> grind)
theorem clAt_step {W : Nat → Rat} {kind m j k u v wk x : Nat} {X D : Rat} (hk : kind ≤ 4) (hm : m ≤ 6) (hjk : k + 1 + j = m) (hx : NV .f32 x X) (hX : Lm X 1) (hw : NV .f32 wk (W k)) (hW : Lm (W k) D) (hD : 1 / 10 ≤ D ∧ D ≤ 20) (h : ClAt W kind X D m j u v) :
    ∃ p q r s t o, fb .mul (rulV kind k).1 x = some p ∧ fb .add p (rulV kind k).2.1 = some q ∧ fb .mul q u = some r ∧ fb .add wk r = some s ∧ fb .mul (rulV kind (k + 1)).2.2 v = some t ∧ fb .sub s t = some o ∧ ClAt W kind X D m (j + 1) o u := by
  obtain ⟨U, V, hu, hv, e1, e2, l1, l2⟩ := h
  have hc := List.all_eq_true.1 (List.all_eq_true.1 (List.all_eq_true.1 cl_tab kind (List.mem_range.2 (by omega))) k (List.mem_range.2 (by omega))) j (List.mem_range.2 (by omega))
  unfold clB at hc
  simp only [Bool.and_eq_true, decide_eq_true_eq] at hc
  obtain ⟨⟨⟨⟨c1, c2⟩, c3⟩, c4⟩, c5⟩ := hc
  obtain ⟨-, nA, nB, -⟩ := rul_ok kind k hk (by omega)
  obtain ⟨-, -, -, nC⟩ := rul_ok kind (k + 1) hk (by omega)
  have b1 := bT_bd j
  have b2 := bT_bd (j - 1)
  have f1 := fT_bd j
  have f2 := fT_bd (j - 1)
  obtain ⟨p, q, r, s, t, o, O, g1, g2, g3, g4, g5, g6, n6, r6, l6⟩ := clen_step (al := ab (rA kind k) + ab (rB kind k)) (a' := ab (rA kind k)) (ga := ab (rC kind (k + 1))) nA nB nC hx hu hv hw hX (ab_lm _) ((ab_lm (rB kind k)).le (by grind)) ⟨c1, c2⟩ (ab_lm _) c3 hW hD l1 l2 b1 b2 e1 e2 ⟨f1.1, by grind⟩ ⟨f2.1, by grind⟩
  have e5 : m - 1 - j = k := by omega
  refine ⟨p, q, r, s, t, o, g1, g2, g3, g4, g5, g6, O, U, n6, hu, ?_, ?_, ?_, ?_⟩
  · rw [clE, e5]
    refine r6.le ?_
    have := Rat.mul_nonneg (show (0 : Rat) ≤ fT (j + 1) - ((ab (rA kind k) + ab (rB kind k)) * fT j + ab (rC kind (k + 1)) * fT (j - 1) + (1 + (ab (rA kind k) + ab (rB kind k)) * bT j + ab (rC kind (k + 1)) * bT (j - 1))) by grind) (show (0 : Rat) ≤ D / 2400000 by grind)
    grind
  · rw [clE, Nat.add_sub_cancel]; exact e1
  · rw [clE, e5]
    refine l6.le ?_
    have := Rat.mul_nonneg (show (0 : Rat) ≤ bT (j + 1) - (1 + (ab (rA kind k) + ab (rB kind k)) * bT j + ab (rC kind (k + 1)) * bT (j - 1)) by grind) (show (0 : Rat) ≤ D by grind)
    grind
  · rw [clE, Nat.add_sub_cancel]; exact l1
set_option maxRecDepth 100000 in
set_option maxHeartbeats 1600000 in
theorem familySum_v (kind m x : Nat) (A : Option Addr) (c : Nat) (ws : List Nat) (hl : ws.length = m) (hm1 : 1 ≤ m) (hm : m ≤ 6) (hk : kind ≤ 4) (W : Nat → Rat) (X D : Rat) (hW : ∀ k, k < m → NV .f32 (ws.getD k 0) (W k) ∧ Lm (W k) D) (hD : 1 / 10 ≤ D ∧ D ≤ 20) (hx : NV .f32 x X) (hX : Lm X 1) (w : World) (hr : Reads w w.heap.size 1 A m (flts ws)) :
    Calls Try.prog 15 #[.int .i64 (kind : Int), .slice A m c, .float .f32 x] w fun e w' => ∃ u U, e = .returned (.tuple #[.float .f32 u, .bool true]) ∧ NV .f32 u U ∧ Nr U (sumR W kind X m) (610 * (D / 2400000)) ∧ Below w.heap.size w w' := by
  have hall : ws.all fin32B = true := List.all_eq_true.2 fun y hy => by
    obtain ⟨k, hk2, rfl⟩ := List.mem_iff_getElem.1 hy
    have h := nv_fin (hW k (by omega)).1
    rw [List.getD, List.getElem?_eq_getElem hk2] at h
    exact h
  have HK := within_all (kind : Int) 0 4
  rw [show (decide ((0 : Int) ≤ (kind : Int)) && decide ((kind : Int) ≤ 4)) = true by simp; omega] at HK
  have HA := areFinite_b A c w.heap.size ws w (by rw [hl]; exact hr) (Nat.le_refl _) (by omega)
  rw [hall, hl] at HA
  have HI := isFinite_b x
  rw [nv_fin hx] at HI
  have hstep := Lib.hid (fun j k u v (hjk : k + 1 + j = m) (h : ClAt W kind X D m j u v) => clAt_step (wk := ws.getD k 0) hk hm hjk hx hX (hW k (by omega)).1 (hW k (by omega)).2 hD h)
  have h0 := Lib.hid (clAt_zero (W := W) (kind := kind) (m := m) (X := X) (D := D))
  have hD0 : Hid (0 ≤ D) := by show _ ≤ _; grind
  clear hall hx hX hD hW
  go_enter Try.func15, Try.ntmps15
  go_wp2_with fail
  refine (HK _).mono ?_
  rintro e w1 ⟨rfl, rfl⟩
  clear HK
  go_wp2_with fail
  (with_reducible refine HA.mono ?_)
  rintro e w2 ⟨rfl, hb1⟩
  clear HA
  have z1 := hb1.size
  go_wp2_with fail
  refine (HI _).mono ?_
  rintro e w3 ⟨rfl, hb2⟩
  clear HI
  have hb3 := hb1.trans (hb2.mono z1)
  have hr3 := hr.below hb3
  clear hb1 hb2 z1 hr
  go_wp2
  go_loopw [8, 9, 10, 11, 12, 13, 14, 15, 16, 17] (fun u v q _ _ _ _ _ _ _ wr => ∃ j k a b : Nat, Hid (k + j = m) ∧ q = .int .i64 ((k : Int) - 1) ∧ u = .float .f32 a ∧ v = .float .f32 b ∧ Hid (ClAt W kind X D m j a b) ∧ wr = w3) (fun _ _ q _ _ _ _ _ _ _ _ => (intOf q + 1).toNat)
  case atStart => exact ⟨0, m, 0, 0, rfl, by go_num, rfl, rfl, h0, rfl⟩
  case round =>
    obtain ⟨j, k, a, b, hjk, rfl, rfl, rfl, hC, rfl⟩ := hrel
    by_cases hlt : 1 ≤ k
    · obtain ⟨i, rfl⟩ : ∃ i, k = i + 1 := ⟨k - 1, by omega⟩
      have hij : i + 1 + j = m := hjk.out
      obtain ⟨p, q, r, s, t, o, g1, g2, g3, g4, g5, g6, hC2⟩ := hstep.out j i a b hij hC.out
      have R1 := rule_all kind i _ _ _ hk (rul_ok kind i hk (by omega)).1
      have R2 := rule_all kind (i + 1) _ _ _ hk (rul_ok kind (i + 1) hk (by omega)).1
      have k1 := ar32 _ _ _ _ g1
      have k2 := ar32 _ _ _ _ g2
      have k3 := ar32 _ _ _ _ g3
      have k4 := ar32 _ _ _ _ g4
      have k5 := ar32 _ _ _ _ g5
      have k6 := ar32 _ _ _ _ g6
      obtain ⟨ad, rfl, -, hc1⟩ := flt_atN hr3 hl (show i < m by omega)
      have hz : ((i + 1 : Nat) : Int) - 1 = (i : Int) := by omega
      have hz2 : ((i + 1 : Nat) : Int) = (i : Int) + 1 := by omega
      rw [hz]
      rw [hz2] at R2
      have him : i < m := by omega
      replace hij := Lib.hid hij
      replace hC2 := Lib.hid hC2
      clear g1 g2 g3 g4 g5 g6 hC hr3 hstep h0 hz hz2 hjk
      generalize ws.getD i 0 = wk at *
      generalize (rulV kind i).1 = x1 at *
      generalize (rulV kind i).2.1 = x2 at *
      generalize (rulV kind i).2.2 = x3 at *
      generalize (rulV kind (i + 1)).1 = y1 at *
      generalize (rulV kind (i + 1)).2.1 = y2 at *
      generalize (rulV kind (i + 1)).2.2 = y3 at *
      have hi0 : (0 : Int) ≤ (i : Int) := by omega
      have him' : (i : Int) < (m : Int) := by omega
      go_wp2_with fail
      refine (R1 _).mono ?_
      rintro e w4 ⟨rfl, rfl⟩
      go_wp2_with fail
      refine (R2 _).mono ?_
      rintro e w4 ⟨rfl, rfl⟩
      go_wp2
      exact ⟨⟨j + 1, i, o, a, by have := hij.out; show _ = _; omega, by go_num, rfl, rfl, hC2, trivial⟩, (by simp [intOf]; all_goals omega)⟩
    · obtain rfl : k = 0 := by omega
      have hjm : j = m := by have := hjk.out; omega
      subst hjm
      obtain ⟨U, V, hu, -, e1, -, -, -⟩ := hC.out
      rw [clen_all] at e1
      have HC := checked_v (nv_fin hu)
      have hf := Lib.hid (show NV .f32 a U ∧ Nr U (sumR W kind X j) (610 * (D / 2400000)) from ⟨hu, e1.le (Rat.mul_le_mul_of_nonneg_right (fT_bd j).2 (by have := hD0.out; grind))⟩)
      clear hu e1 hC hr3 hstep h0
      go_wp2_with fail
      refine (HC _).mono ?_
      rintro e w4 ⟨rfl, hb4⟩
      go_wp2
      go_ret2
      exact ⟨a, U, rfl, hf.out.1, hf.out.2, hb3.trans (hb4.mono hb3.size)⟩
end Go.Proofs.Ytlpibibpckkjhaa
