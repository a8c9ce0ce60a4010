/-
  Complex numbers as words: products, sums, differences, quotients (impl.times, MulComplex, plus, minus, ConjugateOf, power, QuotientOf).
  Lengths of complex numbers, squared; products, sums, differences and quotients of words by their values, the errors by lengths.
  The length of a complex number, between bounds that lie near one another (impl.LongOf).
  What the law FnPassing draws: numbers of quarters, points of halves, one behind the other (spec.R8Many, R8Small, R8Points).
  Points that differ (slices.Index, slices.Contains; impl.ArePoints, areValued).
  Divided differences and values in a triangle, by words (impl.DividedOf, NevilleAt).
-/
import Derived.Test.YtlilhebnbhlkhaaQc
namespace Go.Proofs.Ytlilhebnbhlkhaa
open Go.RowKit
def widW (x : Nat) : Option Nat := floatToFloatBits .f32 x .f64
def narW (x : Nat) : Option Nat := floatToFloatBits .f64 x .f32
def timesW (x y : Nat × Nat) : Option (Nat × Nat) :=
  (widW x.1).bind fun u1 => (widW x.2).bind fun u2 => (widW y.1).bind fun v1 => (widW y.2).bind fun v2 =>
  (floatBits .mul .f64 u1 v1).bind fun r1 => (floatBits .mul .f64 u2 v2).bind fun r2 => (floatBits .mul .f64 u1 v2).bind fun r3 => (floatBits .mul .f64 u2 v1).bind fun r4 =>
  (floatBits .sub .f64 r1 r2).bind fun p => (floatBits .add .f64 r3 r4).bind fun q => some (p, q)
def mulW (x y : Nat × Nat) : Option (Nat × Nat) := (timesW x y).bind fun t => (narW t.1).bind fun p => (narW t.2).bind fun q => some (p, q)
def plusW (x y : Nat × Nat) : Option (Nat × Nat) := (floatBits .add .f32 x.1 y.1).bind fun p => (floatBits .add .f32 x.2 y.2).bind fun q => some (p, q)
def minusW (x y : Nat × Nat) : Option (Nat × Nat) := (floatBits .sub .f32 x.1 y.1).bind fun p => (floatBits .sub .f32 x.2 y.2).bind fun q => some (p, q)
def conjW (x : Nat × Nat) : Nat × Nat := (x.1, Op.negFloat .f32 x.2)
def powerW (x : Nat × Nat) : Option Nat := (widW x.1).bind fun u1 => (widW x.2).bind fun u2 => (floatBits .mul .f64 u1 u1).bind fun r1 => (floatBits .mul .f64 u2 u2).bind fun r2 => floatBits .add .f64 r1 r2
def quoW (x y : Nat × Nat) : Option (Nat × Nat) := (timesW x (conjW y)).bind fun t => (powerW y).bind fun p => (floatBits .quo .f64 t.1 p).bind fun d1 => (floatBits .quo .f64 t.2 p).bind fun d2 => (narW d1).bind fun a => (narW d2).bind fun b => some (a, b)
theorem timesW_calls {x y r : Nat × Nat} (h : timesW x y = some r) (w : World) :
    Calls Try.prog 86 #[.complex .f32 x.1 x.2, .complex .f32 y.1 y.2] w fun e w' => e = .returned (.tuple #[.float .f64 r.1, .float .f64 r.2]) ∧ w' = w := by
  unfold timesW widW at h
  simp only [Option.bind_eq_some_iff] at h
  obtain ⟨u1, f1, u2, f2, v1, f3, v2, f4, r1, g1, r2, g2, r3, g3, r4, g4, p, g5, q, g6, e⟩ := h
  cases e
  have k1 := cvW f1
  have k2 := cvW f2
  have k3 := cvW f3
  have k4 := cvW f4
  have j1 := ar64 _ _ _ _ g1
  have j2 := ar64 _ _ _ _ g2
  have j3 := ar64 _ _ _ _ g3
  have j4 := ar64 _ _ _ _ g4
  have j5 := ar64 _ _ _ _ g5
  have j6 := ar64 _ _ _ _ g6
  clear f1 f2 f3 f4 g1 g2 g3 g4 g5 g6
  go_enter Try.func86, Try.ntmps86
  go_wp2
  go_ret2
  exact ⟨rfl, rfl⟩
theorem mulW_calls {x y r : Nat × Nat} (h : mulW x y = some r) (w : World) :
    Calls Try.prog 50 #[.complex .f32 x.1 x.2, .complex .f32 y.1 y.2] w fun e w' => e = .returned (.complex .f32 r.1 r.2) ∧ w' = w := by
  unfold mulW narW at h
  simp only [Option.bind_eq_some_iff] at h
  obtain ⟨t, ht, p, g1, q, g2, e⟩ := h
  cases e
  have HT := timesW_calls ht
  have k1 := cvN g1
  have k2 := cvN g2
  clear ht g1 g2
  go_enter Try.func50, Try.ntmps50
  go_wp2_with fail
  refine (HT w).mono ?_
  rintro e w1 ⟨rfl, rfl⟩
  go_wp2
  go_ret
  exact ⟨rfl, rfl⟩
theorem plusW_calls {x y r : Nat × Nat} (h : plusW x y = some r) (w : World) :
    Calls Try.prog 66 #[.complex .f32 x.1 x.2, .complex .f32 y.1 y.2] w fun e w' => e = .returned (.complex .f32 r.1 r.2) ∧ w' = w := by
  unfold plusW at h
  simp only [Option.bind_eq_some_iff] at h
  obtain ⟨p, g1, q, g2, e⟩ := h
  cases e
  have j1 := ar32 _ _ _ _ g1
  have j2 := ar32 _ _ _ _ g2
  clear g1 g2
  go_enter Try.func66, Try.ntmps66
  go_wp2
  go_ret
  exact ⟨rfl, rfl⟩
theorem minusW_calls {x y r : Nat × Nat} (h : minusW x y = some r) (w : World) :
    Calls Try.prog 47 #[.complex .f32 x.1 x.2, .complex .f32 y.1 y.2] w fun e w' => e = .returned (.complex .f32 r.1 r.2) ∧ w' = w := by
  unfold minusW at h
  simp only [Option.bind_eq_some_iff] at h
  obtain ⟨p, g1, q, g2, e⟩ := h
  cases e
  have j1 := ar32 _ _ _ _ g1
  have j2 := ar32 _ _ _ _ g2
  clear g1 g2
  go_enter Try.func47, Try.ntmps47
  go_wp2
  go_ret
  exact ⟨rfl, rfl⟩
theorem powerW_calls {x : Nat × Nat} {r : Nat} (h : powerW x = some r) (w : World) :
    Calls Try.prog 85 #[.complex .f32 x.1 x.2] w fun e w' => e = .returned (.float .f64 r) ∧ w' = w := by
  unfold powerW widW at h
  simp only [Option.bind_eq_some_iff] at h
  obtain ⟨u1, f1, u2, f2, r1, g1, r2, g2, g3⟩ := h
  have k1 := cvW f1
  have k2 := cvW f2
  have j1 := ar64 _ _ _ _ g1
  have j2 := ar64 _ _ _ _ g2
  have j5 := ar64 _ _ _ _ g3
  clear f1 f2 g1 g2 g3
  go_enter Try.func85, Try.ntmps85
  go_wp2
  go_ret
  exact ⟨rfl, rfl⟩
theorem quoW_calls {x y r : Nat × Nat} (h : quoW x y = some r) (w : World) :
    Calls Try.prog 49 #[.complex .f32 x.1 x.2, .complex .f32 y.1 y.2] w fun e w' => e = .returned (.complex .f32 r.1 r.2) ∧ w' = w := by
  unfold quoW narW at h
  simp only [Option.bind_eq_some_iff] at h
  obtain ⟨t, ht, p, hp, d1, g1, d2, g2, a, g3, b, g4, e⟩ := h
  cases e
  have HT := timesW_calls ht
  have HP := powerW_calls hp
  have HC := conj_w y.1 y.2
  unfold conjW at HT
  have k1 := cvN g3
  have k2 := cvN g4
  have j1 := ar64 _ _ _ _ g1
  have j2 := ar64 _ _ _ _ g2
  clear ht hp g1 g2 g3 g4
  simp only at HT
  generalize Op.negFloat .f32 y.2 = z at *
  go_enter Try.func49, Try.ntmps49
  go_wp2_with fail
  refine (HC w).mono ?_
  rintro e w1 ⟨rfl, rfl⟩
  go_wp2_with fail
  refine (HT _).mono ?_
  rintro e w1 ⟨rfl, rfl⟩
  go_wp2_with fail
  refine (HP _).mono ?_
  rintro e w1 ⟨rfl, rfl⟩
  go_wp2
  go_ret
  exact ⟨rfl, rfl⟩
end Go.Proofs.Ytlilhebnbhlkhaa
namespace Go.Proofs.Ytlilhebnbhlkhaa
open Go.RowKit
/-- A complex number is no longer than M. -/
def E2 (a b M : Rat) : Prop := 0 ≤ M ∧ a * a + b * b ≤ M * M
theorem sq_lm {x M : Rat} (hM : 0 ≤ M) (h : x * x ≤ M * M) : Lm x M := by
  unfold Lm
  constructor
  · rcases (show -M ≤ x ∨ 0 < -x - M by grind) with e | e
    · exact e
    · have := Rat.mul_pos e (show (0 : Rat) < -x + M by grind)
      grind
  · rcases (show x ≤ M ∨ 0 < x - M by grind) with e | e
    · exact e
    · have := Rat.mul_pos e (show (0 : Rat) < x + M by grind)
      grind
theorem sq_pos (x : Rat) : 0 ≤ x * x := sq_nonneg x
section
variable {a b c d M N e t T : Rat}
theorem E2.pos (h : E2 a b M) : 0 ≤ M := h.1
theorem E2.fst (h : E2 a b M) : Lm a M := sq_lm h.1 (by have := sq_pos b; have := h.2; grind)
theorem E2.snd (h : E2 a b M) : Lm b M := sq_lm h.1 (by have := sq_pos a; have := h.2; grind)
theorem E2.le (h : E2 a b M) (hB : M ≤ N) : E2 a b N := by
  refine ⟨by have := h.1; grind, ?_⟩
  have h1 := h.1
  have := Rat.mul_nonneg (show (0 : Rat) ≤ N - M by grind) (show (0 : Rat) ≤ N + M by grind)
  have := h.2
  grind
theorem E2.mul (h : E2 a b M) (k : E2 c d N) : E2 (a * c - b * d) (a * d + b * c) (M * N) := by
  refine ⟨Rat.mul_nonneg h.1 k.1, ?_⟩
  have s1 := sq_pos a
  have s2 := sq_pos b
  have s3 := sq_pos M
  have h1 := h.2
  have h2 := k.2
  have m1 := Rat.mul_nonneg (show (0 : Rat) ≤ a * a + b * b by grind) (show (0 : Rat) ≤ N * N - (c * c + d * d) by grind)
  have m2 := Rat.mul_nonneg (show (0 : Rat) ≤ N * N by exact sq_pos N) (show (0 : Rat) ≤ M * M - (a * a + b * b) by grind)
  grind
theorem E2.add (h : E2 a b M) (k : E2 c d N) : E2 (a + c) (b + d) (M + N) := by
  have h0 := h.1
  have k0 := k.1
  refine ⟨by grind, ?_⟩
  have hm := h.mul (show E2 c (-d) N from ⟨k.1, by have := k.2; grind⟩)
  have h3 : Lm (a * c + b * d) (M * N) := by
    have := hm.fst
    rwa [show a * c - b * -d = a * c + b * d by grind] at this
  have h1 := h.2
  have h2 := k.2
  unfold Lm at h3
  grind
theorem E2.neg (h : E2 a b M) : E2 (-a) (-b) M := ⟨h.1, by have := h.2; grind⟩
theorem E2.sub (h : E2 a b M) (k : E2 c d N) : E2 (a - c) (b - d) (M + N) := by
  have := h.add k.neg
  rwa [show a + -c = a - c by grind, show b + -d = b - d by grind] at this
theorem E2.of (h : E2 c d M) (k : E2 (a - c) (b - d) e) : E2 a b (M + e) := by
  have := h.add k
  rwa [show c + (a - c) = a by grind, show d + (b - d) = b by grind] at this
theorem E2.trans {u v f : Rat} (h : E2 (a - c) (b - d) e) (k : E2 (c - u) (d - v) f) : E2 (a - u) (b - v) (e + f) := by
  have := h.add k
  rwa [show a - c + (c - u) = a - u by grind, show b - d + (d - v) = b - v by grind] at this
theorem E2.sym (h : E2 (a - c) (b - d) e) : E2 (c - a) (d - b) e := by
  have := h.neg
  rwa [show -(a - c) = c - a by grind, show -(b - d) = d - b by grind] at this
theorem E2.scale (h : E2 a b M) (ht : Lm t T) : E2 (t * a) (t * b) (T * M) := by
  have hT := ht.pos
  refine ⟨Rat.mul_nonneg hT h.1, ?_⟩
  have h1 := h.2
  have m1 := Rat.mul_nonneg (sq_pos t) (show (0 : Rat) ≤ M * M - (a * a + b * b) by grind)
  unfold Lm at ht
  have m2 := Rat.mul_nonneg (show (0 : Rat) ≤ T - t by grind) (show (0 : Rat) ≤ T + t by grind)
  have m3 := Rat.mul_nonneg (sq_pos M) m2
  grind
theorem E2.lm (h : Lm a M) (k : Lm b M) : E2 a b (14143 / 10000 * M) := by
  have h0 := h.pos
  refine ⟨by grind, ?_⟩
  unfold Lm at h k
  have m1 := Rat.mul_nonneg (show (0 : Rat) ≤ M - a by grind) (show (0 : Rat) ≤ M + a by grind)
  have m2 := Rat.mul_nonneg (show (0 : Rat) ≤ M - b by grind) (show (0 : Rat) ≤ M + b by grind)
  have := sq_pos M
  grind
theorem E2.real (h : Lm a M) : E2 a 0 M := by
  have h0 := h.pos
  refine ⟨h0, ?_⟩
  unfold Lm at h
  have m1 := Rat.mul_nonneg (show (0 : Rat) ≤ M - a by grind) (show (0 : Rat) ≤ M + a by grind)
  grind
theorem E2.zero (hM : 0 ≤ M) : E2 0 0 M := ⟨hM, by have := sq_pos M; grind⟩
theorem E2.refl (a b : Rat) : E2 (a - a) (b - b) 0 := ⟨Rat.le_refl, by grind⟩
end
/-- The parts of a product by their values. -/
theorem timesW_v {x y : Nat × Nat} {a b c d M : Rat} (hx1 : NV .f32 x.1 a) (hx2 : NV .f32 x.2 b) (hy1 : NV .f32 y.1 c) (hy2 : NV .f32 y.2 d) (hM : Md M) (h1 : Lm (a * c) M) (h2 : Lm (b * d) M) (h3 : Lm (a * d) M) (h4 : Lm (b * c) M) :
    ∃ t π κ, timesW x y = some t ∧ NV .f64 t.1 π ∧ NV .f64 t.2 κ ∧ Nr π (a * c - b * d) (M / 1000000000000000) ∧ Nr κ (a * d + b * c) (M / 1000000000000000) := by
  have hp := hM.pos
  unfold Lm at h1 h2 h3 h4
  obtain ⟨u1, f1, n1⟩ := wide_exact hx1
  obtain ⟨u2, f2, n2⟩ := wide_exact hx2
  obtain ⟨v1, f3, n3⟩ := wide_exact hy1
  obtain ⟨v2, f4, n4⟩ := wide_exact hy2
  obtain ⟨r1, c1, g1, m1, e1⟩ := mulM n1 n3 hM.mid h1.1 h1.2
  obtain ⟨r2, c2, g2, m2, e2⟩ := mulM n2 n4 hM.mid h2.1 h2.2
  obtain ⟨r3, c3, g3, m3, e3⟩ := mulM n1 n4 hM.mid h3.1 h3.2
  obtain ⟨r4, c4, g4, m4, e4⟩ := mulM n2 n3 hM.mid h4.1 h4.2
  rw [un64] at e1 e2 e3 e4
  unfold Nr at e1 e2 e3 e4
  obtain ⟨p, π, g5, m5, e5⟩ := subM m1 m2 hM.mid4 (by grind) (by grind)
  obtain ⟨q, κ, g6, m6, e6⟩ := addM m3 m4 hM.mid4 (by grind) (by grind)
  rw [un64] at e5 e6
  unfold Nr at e5 e6
  refine ⟨(p, q), π, κ, ?_, m5, m6, by unfold Nr; constructor <;> grind, by unfold Nr; constructor <;> grind⟩
  unfold timesW widW
  simp only [f1, f2, f3, f4, g1, g2, g3, g4, g5, g6, Option.bind_some]
theorem powerW_v {x : Nat × Nat} {a b Q : Rat} (hx1 : NV .f32 x.1 a) (hx2 : NV .f32 x.2 b) (hQ : a * a + b * b = Q) (hM : Md Q) : ∃ p π, powerW x = some p ∧ NV .f64 p π ∧ Nr π Q (Q / 1000000000000000) := by
  have hp := hM.pos
  have s1 := sq_nonneg a
  have s2 := sq_nonneg b
  obtain ⟨u1, f1, n1⟩ := wide_exact hx1
  obtain ⟨u2, f2, n2⟩ := wide_exact hx2
  obtain ⟨r1, c1, g1, m1, e1⟩ := mulM n1 n1 hM.mid (by grind) (by grind)
  obtain ⟨r2, c2, g2, m2, e2⟩ := mulM n2 n2 hM.mid (by grind) (by grind)
  rw [un64] at e1 e2
  unfold Nr at e1 e2
  obtain ⟨p, π, g5, m5, e5⟩ := addM m1 m2 hM.mid4 (by grind) (by grind)
  rw [un64] at e5
  unfold Nr at e5
  refine ⟨p, π, ?_, m5, by unfold Nr; constructor <;> grind⟩
  unfold powerW widW
  simp only [f1, f2, g1, g2, g5, Option.bind_some]
section
variable {x y : Nat × Nat} {a b c d M N : Rat}
/-- The product of complex numbers. -/
theorem mulE (hx1 : NV .f32 x.1 a) (hx2 : NV .f32 x.2 b) (hy1 : NV .f32 y.1 c) (hy2 : NV .f32 y.2 d) (h : E2 a b M) (k : E2 c d N) (hM : Md (M * N)) :
    ∃ r π κ, mulW x y = some r ∧ NV .f32 r.1 π ∧ NV .f32 r.2 κ ∧ E2 (π - (a * c - b * d)) (κ - (a * d + b * c)) (M * N / 11000000) := by
  have hp := hM.pos
  have hE := h.mul k
  obtain ⟨t, π, κ, ht, n1, n2, e1, e2⟩ := timesW_v hx1 hx2 hy1 hy2 hM (h.fst.mul k.fst) (h.snd.mul k.snd) (h.fst.mul k.snd) (h.snd.mul k.fst)
  have hM2 : Mid (M * N + M * N / 1000000000000000) := ⟨by have := hM.1; grind, by have := hM.2; grind⟩
  have h5 := hE.fst
  have h6 := hE.snd
  generalize M * N = R at *
  unfold Lm at h5 h6
  unfold Nr at e1 e2
  obtain ⟨p', π', g1, m1, e3⟩ := narM n1 hM2 (by grind) (by grind)
  obtain ⟨q', κ', g2, m2, e4⟩ := narM n2 hM2 (by grind) (by grind)
  rw [un32] at e3 e4
  unfold Nr at e3 e4
  refine ⟨(p', q'), π', κ', ?_, m1, m2, (E2.lm (M := R / 16000000) (by unfold Lm; constructor <;> grind) (by unfold Lm; constructor <;> grind)).le (by grind)⟩
  unfold mulW narW
  simp only [ht, g1, g2, Option.bind_some]
theorem plusE (hx1 : NV .f32 x.1 a) (hx2 : NV .f32 x.2 b) (hy1 : NV .f32 y.1 c) (hy2 : NV .f32 y.2 d) (h : E2 (a + c) (b + d) M) (hM : Md M) :
    ∃ r π κ, plusW x y = some r ∧ NV .f32 r.1 π ∧ NV .f32 r.2 κ ∧ E2 (π - (a + c)) (κ - (b + d)) (M / 11000000) := by
  have hp := hM.pos
  have h1 := h.fst
  have h2 := h.snd
  obtain ⟨p, π, g1, m1, e1⟩ := addM hx1 hy1 hM.mid h1.1 h1.2
  obtain ⟨q, κ, g2, m2, e2⟩ := addM hx2 hy2 hM.mid h2.1 h2.2
  rw [un32] at e1 e2
  refine ⟨(p, q), π, κ, ?_, m1, m2, (E2.lm (M := M / 16000000) ((lm_nr.1 e1).le (by grind)) ((lm_nr.1 e2).le (by grind))).le (by grind)⟩
  unfold plusW
  simp only [g1, g2, Option.bind_some]
theorem minusE (hx1 : NV .f32 x.1 a) (hx2 : NV .f32 x.2 b) (hy1 : NV .f32 y.1 c) (hy2 : NV .f32 y.2 d) (h : E2 (a - c) (b - d) M) (hM : Md M) :
    ∃ r π κ, minusW x y = some r ∧ NV .f32 r.1 π ∧ NV .f32 r.2 κ ∧ E2 (π - (a - c)) (κ - (b - d)) (M / 11000000) := by
  have hp := hM.pos
  have h1 := h.fst
  have h2 := h.snd
  obtain ⟨p, π, g1, m1, e1⟩ := subM hx1 hy1 hM.mid h1.1 h1.2
  obtain ⟨q, κ, g2, m2, e2⟩ := subM hx2 hy2 hM.mid h2.1 h2.2
  rw [un32] at e1 e2
  refine ⟨(p, q), π, κ, ?_, m1, m2, (E2.lm (M := M / 16000000) ((lm_nr.1 e1).le (by grind)) ((lm_nr.1 e2).le (by grind))).le (by grind)⟩
  unfold minusW
  simp only [g1, g2, Option.bind_some]
/-- The quotient of complex numbers: what times the divisor is the dividend. -/
theorem quoE {q r : Rat} (hx1 : NV .f32 x.1 a) (hx2 : NV .f32 x.2 b) (hy1 : NV .f32 y.1 c) (hy2 : NV .f32 y.2 d) (e1 : a = q * c - r * d) (e2 : b = q * d + r * c) (h : E2 q r M) (hM : Md M) (hQ : Md (c * c + d * d)) (hN : Md (4 * M * (c * c + d * d))) :
    ∃ s π κ, quoW x y = some s ∧ NV .f32 s.1 π ∧ NV .f32 s.2 κ ∧ E2 (π - q) (κ - r) (M / 11000000) := by
  have hp := hM.pos
  have hq := hQ.pos
  obtain ⟨Q, hQe⟩ : ∃ Q, Q = c * c + d * d := ⟨_, rfl⟩
  rw [← hQe] at hQ hN hq
  have l1 := h.fst
  have l2 := h.snd
  have f1 : q * Q = a * c + b * d := by rw [hQe, e1, e2]; grind
  have f2 : r * Q = b * c - a * d := by rw [hQe, e1, e2]; grind
  have hxE : a * a + b * b ≤ M * M * Q := by
    have := Rat.mul_nonneg (show (0 : Rat) ≤ M * M - (q * q + r * r) by have := h.2; grind) (Rat.le_of_lt hq)
    rw [hQe] at this ⊢
    rw [e1, e2]
    grind
  -- the products of the parts
  have prod : ∀ s t : Rat, s * s ≤ a * a + b * b → t * t ≤ Q → Lm (s * t) (4 * M * Q) := fun s t hs ht => by
    refine sq_lm (by have := hN.pos; grind) ?_
    have s0 := sq_pos s
    have t0 := sq_pos t
    have m1 := Rat.mul_nonneg s0 (show (0 : Rat) ≤ Q - t * t by grind)
    have m2 := Rat.mul_nonneg (Rat.le_of_lt hq) (show (0 : Rat) ≤ M * M * Q - s * s by grind)
    have m3 := Rat.mul_nonneg (sq_pos (M * Q)) (show (0 : Rat) ≤ 15 by grind)
    grind
  have sa := sq_pos a
  have sb := sq_pos b
  have sc := sq_pos c
  have sd := sq_pos d
  have h1 := prod a c (by grind) (by grind)
  have h2 := prod b (-d) (by grind) (by grind)
  have h3 := prod a (-d) (by grind) (by grind)
  have h4 := prod b c (by grind) (by grind)
  obtain ⟨t, π, κ, ht, n1, n2, r1, r2⟩ := timesW_v (y := conjW y) hx1 hx2 hy1 (neg_val hy2) hN h1 h2 h3 h4
  obtain ⟨p0, π0, hp0, n3, r3⟩ := powerW_v hy1 hy2 hQe.symm hQ
  have r1' : Nr π (a * c + b * d) (M * Q / 100000000000000) := by unfold Nr at *; constructor <;> grind
  have r2' : Nr κ (b * c - a * d) (M * Q / 100000000000000) := by unfold Nr at *; constructor <;> grind
  obtain ⟨t0, t1, u1, v1⟩ := quo_share hq f1 hp l1 r1' r3
  obtain ⟨-, t2, u2, v2⟩ := quo_share hq f2 hp l2 r2' r3
  have b1 := l1.of v1
  have b2 := l2.of v2
  have hM2 : Mid (M + M / 50000000000000) := ⟨by have := hM.1; grind, by have := hM.2; grind⟩
  have hM3 : Mid (M + M / 1000000000000) := ⟨by have := hM.1; grind, by have := hM.2; grind⟩
  obtain ⟨d1, δ1, g1, m1, w1⟩ := quoM n1 n3 (by grind) u1 hM2 b1.1 b1.2
  obtain ⟨d2, δ2, g2, m2, w2⟩ := quoM n2 n3 (by grind) u2 hM2 b2.1 b2.2
  rw [un64] at w1 w2
  unfold Nr at w1 w2 v1 v2
  unfold Lm at l1 l2
  obtain ⟨p', π', g3, m3, e3⟩ := narM m1 hM3 (by grind) (by grind)
  obtain ⟨q', κ', g4, m4, e4⟩ := narM m2 hM3 (by grind) (by grind)
  rw [un32] at e3 e4
  unfold Nr at e3 e4
  refine ⟨(p', q'), π', κ', ?_, m3, m4, (E2.lm (M := M / 16000000) (by unfold Lm; constructor <;> grind) (by unfold Lm; constructor <;> grind)).le (by grind)⟩
  unfold quoW narW
  simp only [ht, hp0, g1, g2, g3, g4, Option.bind_some]
end
end Go.Proofs.Ytlilhebnbhlkhaa
namespace Go.Proofs.Ytlilhebnbhlkhaa
open Go.RowKit
theorem rootFrom_gt (n : Nat) : ∀ (todo root : Nat), n < (root + 2 ^ todo) * (root + 2 ^ todo) → n < (Ieee.Datum.rootFrom n todo root + 1) * (Ieee.Datum.rootFrom n todo root + 1)
  | 0, root, h => by unfold Ieee.Datum.rootFrom; simpa using h
  | todo + 1, root, h => by
    unfold Ieee.Datum.rootFrom
    simp only [Nat.shiftLeft_eq, Nat.one_mul]
    refine rootFrom_gt n todo _ ?_
    split
    · rw [Nat.pow_succ] at h
      have e : root + 2 ^ todo + 2 ^ todo = root + 2 ^ todo * 2 := by omega
      rw [e]
      exact h
    · omega
theorem le_of_sq {s t : Rat} (hs : 0 ≤ s) (h : t * t ≤ s * s) : t ≤ s := (sq_lm hs h).2
theorem sqrtE {x : Nat} {a R : Rat} (hx : NV .f64 x a) (ha : 0 ≤ a) (hR : a ≤ R * R) (hM : Mid (2 * R)) :
    ∃ r c, FloatKind.f64.format.sqrt x = some r ∧ NV .f64 r c ∧ c ≤ R + R / 100000000000000 ∧ -(R / 100000000000000) ≤ c ∧ ∀ t, 0 ≤ t → t * t ≤ a → t ≤ c + R / 100000000000000 := by
  have hR0 : 0 < R := by have := hM.1; grind
  obtain ⟨s, m, i, ex, ev⟩ := hx
  have fin : ∀ (s' : Bool) (m' : Nat) (i' : Int) (v : Rat), (FloatKind.f64.format.read x).root (FloatKind.f64.format.fractionBits + 2) = some (.number s' m' i') → (sg s' m' : Rat) * (2 : Rat) ^ i' = v → 0 ≤ v → v ≤ R + R / 1000000000000000 → (∀ t, 0 ≤ t → t * t ≤ a → t ≤ v + R / 1000000000000000) →
      ∃ r c, FloatKind.f64.format.sqrt x = some r ∧ NV .f64 r c ∧ c ≤ R + R / 100000000000000 ∧ -(R / 100000000000000) ≤ c ∧ ∀ t, 0 ≤ t → t * t ≤ a → t ≤ c + R / 100000000000000 := by
    intro s' m' i' v he hv h1 h2 h3
    obtain ⟨k, k1, k2, k3, k4⟩ := lvl hM
    obtain ⟨c, hc, b1, b2⟩ := write_ok .f64 k (by omega) (by omega) s' m' i' v hv (by grind) (by grind)
    have b := share k4 b1 b2
    rw [un64] at b
    unfold Nr at b
    refine ⟨_, c, ?_, hc, by grind, by grind, fun t t0 t1 => by have := h3 t t0 t1; grind⟩
    show ((FloatKind.f64.format.read x).root (FloatKind.f64.format.fractionBits + 2)).map FloatKind.f64.format.write = _
    rw [he]; rfl
  by_cases h0 : m = 0
  · have ha0 : a = 0 := by
      rw [← ev, h0]
      unfold sg
      cases s <;> simp
    refine fin s m i 0 ?_ (by rw [ev, ha0]) Rat.le_refl (by grind) (fun t t0 t1 => ?_)
    · rw [ex]
      show (if m = 0 then some (Ieee.Datum.number s m i) else _) = _
      rw [if_pos h0]
    · have := le_of_sq (s := 0) (t := t) Rat.le_refl (by rw [ha0] at t1; grind)
      grind
  · have hi := two_pos i
    have hm1 : (1 : Rat) ≤ ((m : Nat) : Rat) := by
      have : ((1 : Nat) : Rat) ≤ ((m : Nat) : Rat) := Rat.natCast_le_natCast.2 (Nat.pos_of_ne_zero h0)
      exact this
    have c1 : ∀ x : Nat, (((x : Nat) : Int) : Rat) = ((x : Nat) : Rat) := fun _ => rfl
    have hs : s = false := by
      cases s with
      | false => rfl
      | true =>
        exfalso
        unfold sg at ev
        simp only [if_true, Rat.intCast_neg, c1] at ev
        have := Rat.mul_le_mul_of_nonneg_right hm1 (Rat.le_of_lt hi)
        grind
    subst hs
    obtain ⟨more, hmore⟩ : ∃ more : Nat, more = (2 * (FloatKind.f64.format.fractionBits + 2) - m.log2) + ((i - ((2 * (FloatKind.f64.format.fractionBits + 2) - m.log2 : Nat) : Int)) % 2).toNat := ⟨_, rfl⟩
    have heven : 2 * ((i - (more : Int)) / 2) = i - (more : Int) := by
      rw [hmore]
      generalize (2 * (FloatKind.f64.format.fractionBits + 2) - m.log2) = q
      omega
    obtain ⟨n, hn⟩ : ∃ n, n = m <<< more := ⟨_, rfl⟩
    obtain ⟨whole, hwh⟩ : ∃ whole, whole = Ieee.Datum.rootFrom n (n.log2 / 2 + 1) 0 := ⟨_, rfl⟩
    have hw2 : whole * whole ≤ n := by rw [hwh]; exact rootFrom_le _ _ _ (Nat.zero_le _)
    have hw3 : n < (whole + 1) * (whole + 1) := by
      rw [hwh]
      refine rootFrom_gt _ _ _ ?_
      rw [Nat.zero_add, ← Nat.pow_add]
      exact Nat.lt_of_lt_of_le Nat.lt_log2_self (Nat.pow_le_pow_right (by decide) (by omega))
    have hbig : 2 ^ 108 ≤ n := by
      rw [hn, Nat.shiftLeft_eq]
      have h1 := Nat.log2_self_le h0
      have h2 : 108 ≤ m.log2 + more := by
        have e : FloatKind.f64.format.fractionBits = 52 := rfl
        rw [hmore, e]
        omega
      have h3 : 2 ^ 108 ≤ 2 ^ m.log2 * 2 ^ more := by
        rw [← Nat.pow_add]
        exact Nat.pow_le_pow_right (by decide) h2
      exact Nat.le_trans h3 (Nat.mul_le_mul_right _ h1)
    have hwb : 1000000000000000 ≤ whole := by
      rcases Nat.lt_or_ge whole 1000000000000000 with h | h
      · exfalso
        have h1 : (whole + 1) * (whole + 1) ≤ 1000000000000000 * 1000000000000000 := Nat.mul_le_mul (by omega) (by omega)
        have h2 : (1000000000000000 * 1000000000000000 : Nat) < 2 ^ 108 := by decide
        omega
      · exact h
    obtain ⟨b, hb⟩ : ∃ b, b = (whole * whole != n).toNat := ⟨_, rfl⟩
    have hb1 : b ≤ 1 := by rw [hb]; cases (whole * whole != n) <;> simp
    have hb0 : b = 0 → whole * whole = n := fun h => by
      rw [hb] at h
      cases e : (whole * whole != n) with
      | false => simpa using e
      | true => rw [e] at h; cases h
    generalize hH : (i - (more : Int)) / 2 = H at *
    have hu := two_pos (H - 1)
    have e1 : (2 : Rat) ^ i = ((2 ^ more : Nat) : Rat) * ((2 : Rat) ^ H * (2 : Rat) ^ H) := by
      rw [← pw_nat, ← pw_add, ← pw_add]; congr 1; omega
    have e2 : (2 : Rat) ^ H = 2 * (2 : Rat) ^ (H - 1) := by
      have h3 := pw_add (H - 1) 1
      rw [show H - 1 + 1 = H by omega] at h3
      have e4 : (2 : Rat) ^ (1 : Int) = 2 := by decide +kernel
      rw [h3, e4]; grind
    have hnr : ((n : Nat) : Rat) = ((m : Nat) : Rat) * ((2 ^ more : Nat) : Rat) := by rw [hn, Nat.shiftLeft_eq, Rat.natCast_mul]
    have hv : (sg false (2 * whole + b) : Rat) * (2 : Rat) ^ (H - 1) = (2 * ((whole : Nat) : Rat) + ((b : Nat) : Rat)) * (2 : Rat) ^ (H - 1) := by
      unfold sg
      simp only [Bool.false_eq_true, if_false, c1]
      rw [Rat.natCast_add, Rat.natCast_mul]
      rfl
    unfold sg at ev
    simp only [Bool.false_eq_true, if_false, c1] at ev
    rw [e1, e2] at ev
    have hw2r : ((whole : Nat) : Rat) * ((whole : Nat) : Rat) ≤ ((n : Nat) : Rat) := by
      have := Rat.natCast_le_natCast.2 hw2
      rwa [Rat.natCast_mul] at this
    have hw3r : ((n : Nat) : Rat) ≤ (((whole : Nat) : Rat) + 1) * (((whole : Nat) : Rat) + 1) := by
      have := Rat.natCast_le_natCast.2 (Nat.le_of_lt hw3)
      rwa [Rat.natCast_mul, Rat.natCast_add] at this
    have hwbr : (1000000000000000 : Rat) ≤ ((whole : Nat) : Rat) := by
      have := Rat.natCast_le_natCast.2 hwb
      exact this
    have hbr0 : (0 : Rat) ≤ ((b : Nat) : Rat) := Rat.natCast_le_natCast.2 (Nat.zero_le b)
    have hbr1 : ((b : Nat) : Rat) ≤ 1 := Rat.natCast_le_natCast.2 hb1
    have hbr2 : b = 0 → ((whole : Nat) : Rat) * ((whole : Nat) : Rat) = ((n : Nat) : Rat) := fun h => by
      rw [← hb0 h, Rat.natCast_mul]
    have hbr3 : b = 0 ∨ ((b : Nat) : Rat) = 1 := by
      rcases Nat.eq_zero_or_pos b with h | h
      · exact .inl h
      · have : b = 1 := by omega
        subst this
        exact .inr rfl
    have hread : (FloatKind.f64.format.read x).root (FloatKind.f64.format.fractionBits + 2) = some (.number false (2 * whole + b) (H - 1)) := by
      rw [ex]
      unfold Ieee.Datum.root
      simp only
      rw [if_neg h0, if_neg (by simp), ← hmore, ← hn, ← hwh, ← hb, hH]
    rw [← hnr.symm] at hnr
    have ev2 : ((n : Nat) : Rat) * (2 * (2 : Rat) ^ (H - 1) * (2 * (2 : Rat) ^ (H - 1))) = a := by rw [hn, Nat.shiftLeft_eq, Rat.natCast_mul]; grind
    have fin2 := fin false (2 * whole + b) (H - 1) _ hread hv
    clear ev e1 e2 hnr hn hwh hb hmore heven hw2 hw3 hbig hwb hb0 hb1 hH ex fin hread hv hM hi hm1 c1
    generalize (2 : Rat) ^ (H - 1) = U at *
    generalize ((n : Nat) : Rat) = N at *
    have hUU : 0 ≤ U * U := Rat.le_of_lt (Rat.mul_pos hu hu)
    generalize ((whole : Nat) : Rat) = W at *
    have g1 : 2 * W * U ≤ R := by
      refine le_of_sq (Rat.le_of_lt hR0) ?_
      have := Rat.mul_le_mul_of_nonneg_right hw2r hUU
      grind
    have g2 : U ≤ R / 2000000000000000 := by
      have := Rat.mul_nonneg (show (0 : Rat) ≤ W - 1000000000000000 by grind) (Rat.le_of_lt hu)
      grind
    have hWU : 0 ≤ W * U := Rat.mul_nonneg (by grind) (Rat.le_of_lt hu)
    have g3 := Rat.mul_nonneg hbr0 (Rat.le_of_lt hu)
    have g4 := Rat.mul_nonneg (show (0 : Rat) ≤ 1 - ((b : Nat) : Rat) by grind) (Rat.le_of_lt hu)
    have ve : (2 * W + ((b : Nat) : Rat)) * U = 2 * W * U + ((b : Nat) : Rat) * U := by grind
    rw [ve] at fin2
    have g4' : ((b : Nat) : Rat) * U ≤ U := by grind
    have hWU2 : 0 ≤ 2 * W * U := by grind
    generalize hbU : ((b : Nat) : Rat) * U = bU at *
    refine fin2 (by grind) (by grind) (fun t t0 t1 => ?_)
    have g5 : t ≤ 2 * (W + 1) * U := by
      refine le_of_sq (by grind) ?_
      have := Rat.mul_le_mul_of_nonneg_right hw3r hUU
      grind
    rcases hbr3 with h | h
    · have g6 : t ≤ 2 * W * U := by
        refine le_of_sq (by grind) ?_
        have e := hbr2 h
        rw [← e] at ev2
        have e2 : 2 * W * U * (2 * W * U) = a := by rw [← ev2]; grind
        rw [e2]
        exact t1
      grind
    · have : bU = U := by rw [← hbU, h]; grind
      grind
def longW (x : Nat × Nat) : Option Nat := (powerW x).bind fun p => (FloatKind.f64.format.sqrt p).bind narW
theorem longW_calls {x : Nat × Nat} {r : Nat} (h : longW x = some r) (w : World) : Calls Try.prog 48 #[.complex .f32 x.1 x.2] w fun e w' => e = .returned (.float .f32 r) ∧ w' = w := by
  unfold longW narW at h
  simp only [Option.bind_eq_some_iff] at h
  obtain ⟨p, hp, q, hq, g⟩ := h
  have HP := powerW_calls hp
  have k1 := sqrt_run hq
  have k2 := cvN g
  clear hp hq g
  go_enter Try.func48, Try.ntmps48
  go_wp2_with fail
  refine (HP w).mono ?_
  rintro e w1 ⟨rfl, rfl⟩
  have HQ : Calls Try.prog 84 #[.float .f64 p] w1 fun e w' => e = .returned (.float .f64 q) ∧ w' = w1 := by
    go_enter Try.func84, Try.ntmps84
    go_wp2
    go_ret
    exact ⟨rfl, rfl⟩
  go_wp2_with fail
  refine HQ.mono ?_
  rintro e w2 ⟨rfl, rfl⟩
  go_wp2
  go_ret
  exact ⟨rfl, rfl⟩
/-- Bounds that serve for squares. -/
def Me (R : Rat) : Prop := 1 / 10000000000 ≤ R ∧ R ≤ 10000000000
theorem longE {x : Nat × Nat} {a b R : Rat} (hx1 : NV .f32 x.1 a) (hx2 : NV .f32 x.2 b) (h : E2 a b R) (hM : Me R) :
    ∃ r c, longW x = some r ∧ NV .f32 r c ∧ c ≤ R + R / 1000000 ∧ -(R / 1000000) ≤ c ∧ ∀ t, 0 ≤ t → t * t ≤ a * a + b * b → t ≤ c + R / 10000 := by
  obtain ⟨m1, m2⟩ := hM
  have q1 := Rat.mul_nonneg (show (0 : Rat) ≤ R - 1 / 10000000000 by grind) (show (0 : Rat) ≤ R by grind)
  have q2 := Rat.mul_nonneg (show (0 : Rat) ≤ 10000000000 - R by grind) (show (0 : Rat) ≤ R by grind)
  have hMid : Mid (R * R) := ⟨by grind, by grind⟩
  have hMid2 : Mid (4 * (R * R)) := ⟨by grind, by grind⟩
  have s1 := sq_nonneg a
  have s2 := sq_nonneg b
  have hE := h.2
  obtain ⟨u1, f1, n1⟩ := wide_exact hx1
  obtain ⟨u2, f2, n2⟩ := wide_exact hx2
  obtain ⟨r1, c1, i1, v1, e1⟩ := mulM n1 n1 hMid (by grind) (by grind)
  obtain ⟨r2, c2, i2, v2, e2⟩ := mulM n2 n2 hMid (by grind) (by grind)
  rw [un64] at e1 e2
  unfold Nr at e1 e2
  obtain ⟨p, π, i3, v3, e3⟩ := addM v1 v2 hMid2 (by grind) (by grind)
  rw [un64] at e3
  unfold Nr at e3
  have hp0 := nn_val (add_nn (mul_self_nn n1 i1 v1) (mul_self_nn n2 i2 v2) i3 v3) v3
  have hpow : powerW x = some p := by
    unfold powerW widW
    simp only [f1, f2, i1, i2, i3, Option.bind_some]
  have hpi : Nr π (a * a + b * b) (R * R / 1000000000000000) := by unfold Nr; constructor <;> grind
  unfold Nr at hpi
  clear e1 e2 e3 i1 i2 i3 v1 v2 n1 n2 f1 f2 hMid hMid2
  obtain ⟨q, κ, g1, n3, b1, b2, b3⟩ := sqrtE (R := R + R / 100000000000000) v3 hp0 (by grind) ⟨by grind, by grind⟩
  obtain ⟨r, c, g2, n4, e4⟩ := narM (M := R + R / 100000) n3 ⟨by grind, by grind⟩ (by grind) (by grind)
  rw [un32] at e4
  unfold Nr at e4
  refine ⟨r, c, ?_, n4, by grind, by grind, fun t t0 t1 => ?_⟩
  · unfold longW narW
    simp only [hpow, g1, g2, Option.bind_some]
  · rcases (show t ≤ R / 100000 ∨ R / 100000 < t by grind) with ht | ht
    · grind
    · have k1 := Rat.mul_pos (show (0 : Rat) < t - R / 100000 by grind) (show (0 : Rat) < t + R / 100000 by grind)
      have k2 := b3 (t - t / 20000) (by grind) (by grind)
      have k3 : t ≤ R := le_of_sq (by grind) (by grind)
      grind
end Go.Proofs.Ytlilhebnbhlkhaa
namespace Go.Proofs.Ytlilhebnbhlkhaa
open Go.RowKit
/-- A number of quarters as a word. -/
def qz (k : Nat) : Nat := qt ((k : Int) - 16) 1082130432
theorem qz_mid : qz 16 = 0 := by decide +kernel
def qzB (k : Nat) : Bool := fin32B (qz k) && decide (V32 (qz k) = (((k : Int) - 16 : Int) : Rat) / 4)
theorem qz_tab : (List.range 33).all qzB = true := by decide +kernel
theorem qz_ok (k : Nat) (h : k < 33) : NV .f32 (qz k) ((((k : Int) - 16 : Int) : Rat) / 4) := by
  have a := List.all_eq_true.1 qz_tab k (List.mem_range.2 h)
  unfold qzB at a
  simp only [Bool.and_eq_true, decide_eq_true_eq] at a
  rw [← a.2]
  exact nv_of_fin a.1
def vlL (ks : List (Nat × Nat)) : List (Nat × Nat) := ks.map fun k => (qz k.1, qz k.2)
@[simp] theorem vlL_len (ks : List (Nat × Nat)) : (vlL ks).length = ks.length := by simp [vlL]
theorem vlL_at {ks : List (Nat × Nat)} {k : Nat} (h : k < ks.length) : (vlL ks).getD k (0, 0) = (qz (ks.getD k (0, 0)).1, qz (ks.getD k (0, 0)).2) := by simp [vlL, List.getD, List.getElem?_eq_getElem h]
theorem vlL_snoc (ks : List (Nat × Nat)) (i j : Nat) : vlL ks ++ [(qz i, qz j)] = vlL (ks ++ [(i, j)]) := by simp [vlL]
def Smalls (ks : List (Nat × Nat)) : Prop := ∀ k ∈ ks, k.1 < 33 ∧ k.2 < 33
/-- The source that a call lays for itself. -/
theorem src_new (A0 : Option Addr) (c0 : Nat) (zs : List Int) (hz : Byt zs) (w w1 : World) (hr : Reads w w.heap.size 1 A0 zs.length (byts zs)) (h : w1 = w.alloc (.cells #[.slice A0 zs.length c0, .int .i64 0, .int .u64 0] 77)) : Src w1 w.heap.size c0 A0 zs 0 ∧ Below w.heap.size w w1 := by
  have hb : Below w.heap.size w w1 := by rw [h]; exact (Below.refl _ _).alloc (Nat.le_refl _) _
  exact ⟨⟨⟨0, 0, Nat.le_refl _, by rw [h]; exact heap_alloc_new _ _⟩, hr.below hb, hz⟩, hb⟩
/-- A number of halves as a word. -/
def hw (h : Nat) : Nat := (floatBits .quo .f32 (floatOfInt .f32 ((h : Int) - 8)) 1073741824).getD 0
def st (y : Nat) : Nat := (floatBits .quo .f32 (floatOfInt .f32 (1 + (y : Int))) 1073741824).getD 0
def hwB (h : Nat) : Bool := fin32B (hw h) && decide (V32 (hw h) = (((h : Int) - 8 : Int) : Rat) / 2) && (List.range 2).all (fun y => (floatBits .add .f32 (hw h) (st y) == some (hw (h + 1 + y))))
theorem hw_tab : (List.range 19).all hwB = true := by decide +kernel
def stB (x : Nat) : Bool := floatOfInt .f32 ((x : Int) - 4) == hw (2 * x)
theorem st_tab : (List.range 5).all stB = true := by decide +kernel
def st2B (y : Nat) : Bool := floatBits .quo .f32 (floatOfInt .f32 (1 + (y : Int))) 1073741824 == some (st y)
theorem st2_tab : (List.range 2).all st2B = true := by decide +kernel
theorem hw_ok (h : Nat) (hh : h < 19) : NV .f32 (hw h) ((((h : Int) - 8 : Int) : Rat) / 2) ∧ ∀ y, y < 2 → floatBits .add .f32 (hw h) (st y) = some (hw (h + 1 + y)) := by
  have a := List.all_eq_true.1 hw_tab h (List.mem_range.2 hh)
  unfold hwB at a
  simp only [Bool.and_eq_true, decide_eq_true_eq] at a
  refine ⟨by rw [← a.1.2]; exact nv_of_fin a.1.1, fun y hy => ?_⟩
  simpa using List.all_eq_true.1 a.2 y (List.mem_range.2 hy)
theorem st_start (x : Nat) (h : x < 5) : floatOfInt .f32 ((x : Int) - 4) = hw (2 * x) := by
  have a := List.all_eq_true.1 st_tab x (List.mem_range.2 h)
  unfold stB at a
  simpa using a
theorem st_ok (y : Nat) (h : y < 2) : floatBits .quo .f32 (floatOfInt .f32 (1 + (y : Int))) 1073741824 = some (st y) := by
  have a := List.all_eq_true.1 st2_tab y (List.mem_range.2 h)
  unfold st2B at a
  simpa using a
def ptsL (hs : List Nat) : List (Nat × Nat) := hs.map fun h => (hw h, 0)
@[simp] theorem ptsL_len (hs : List Nat) : (ptsL hs).length = hs.length := by simp [ptsL]
theorem ptsL_at {hs : List Nat} {k : Nat} (h : k < hs.length) : (ptsL hs).getD k (0, 0) = (hw (hs.getD k 0), 0) := by simp [ptsL, List.getD, List.getElem?_eq_getElem h]
theorem ptsL_snoc (hs : List Nat) (h : Nat) : ptsL hs ++ [(hw h, 0)] = ptsL (hs ++ [h]) := by simp [ptsL]
/-- Points: the first one of 0, 2, .., 8 halves behind -4, each the next by one or two. -/
inductive Pts : List Nat → Nat → Prop
  | none (s : Nat) (h : s < 5) : Pts [] (2 * s)
  | more (l : List Nat) (a y : Nat) (h : Pts l a) (hy : y < 2) : Pts (l ++ [a]) (a + 1 + y)
theorem Pts.bd {l : List Nat} {a : Nat} (h : Pts l a) : a ≤ 8 + 2 * l.length := by
  induction h with
  | none s h => simp; omega
  | more l a y _ hy ih => simp; omega
end Go.Proofs.Ytlilhebnbhlkhaa
namespace Go.Proofs.Ytlilhebnbhlkhaa
open Go.RowKit
def eqC (x y : Nat × Nat) : Bool := FloatKind.f32.format.order x.1 y.1 == some .eq && FloatKind.f32.format.order x.2 y.2 == some .eq
/-- Points: finite, and none twice. -/
structure PtsOk (l : List (Nat × Nat)) : Prop where
  len : 1 ≤ l.length ∧ l.length ≤ 17
  fin : l.all finCB = true
  ne : ∀ i k, k < i → i < l.length → eqC (l.getD i (0, 0)) (l.getD k (0, 0)) = false
end Go.Proofs.Ytlilhebnbhlkhaa
namespace Go.Proofs.Ytlilhebnbhlkhaa
open Go.RowKit
/-- A row of a triangle: from the end on, each number out of itself and the one before it. -/
def rowG (step : Nat → Nat → Nat × Nat → Nat × Nat → Option (Nat × Nat)) (n k : Nat) (l : List (Nat × Nat)) : Nat → Option (List (Nat × Nat))
  | 0 => some l
  | j + 1 => (rowG step n k l j).bind fun s => (step k (n - 1 - j) (s.getD (n - 1 - j) (0, 0)) (s.getD (n - 1 - j - 1) (0, 0))).bind fun r => some (s.set (n - 1 - j) r)
def triG (step : Nat → Nat → Nat × Nat → Nat × Nat → Option (Nat × Nat)) (n : Nat) (l : List (Nat × Nat)) : Nat → Option (List (Nat × Nat))
  | 0 => some l
  | k + 1 => (triG step n l k).bind fun s => rowG step n (k + 1) s (n - (k + 1))
section
variable {step : Nat → Nat → Nat × Nat → Nat × Nat → Option (Nat × Nat)} {n k : Nat} {l lo : List (Nat × Nat)}
theorem rowG_upto {m : Nat} (h : rowG step n k l m = some lo) : ∀ j, j ≤ m → ∃ s, rowG step n k l j = some s := by
  induction m generalizing lo with
  | zero =>
    intro j hj
    obtain rfl : j = 0 := by omega
    exact ⟨lo, h⟩
  | succ m ih =>
    intro j hj
    have h' := h
    rw [rowG, Option.bind_eq_some_iff] at h
    obtain ⟨s, h1, -⟩ := h
    by_cases e : j = m + 1
    · subst e
      exact ⟨lo, h'⟩
    · exact ih h1 j (by omega)
theorem triG_upto {m : Nat} (h : triG step n l m = some lo) : ∀ j, j ≤ m → ∃ s, triG step n l j = some s := by
  induction m generalizing lo with
  | zero =>
    intro j hj
    obtain rfl : j = 0 := by omega
    exact ⟨lo, h⟩
  | succ m ih =>
    intro j hj
    have h' := h
    rw [triG, Option.bind_eq_some_iff] at h
    obtain ⟨s, h1, -⟩ := h
    by_cases e : j = m + 1
    · subst e
      exact ⟨lo, h'⟩
    · exact ih h1 j (by omega)
theorem rowG_len : ∀ {m : Nat} {lo : List (Nat × Nat)}, rowG step n k l m = some lo → lo.length = l.length
  | 0, lo, h => by cases h; rfl
  | m + 1, lo, h => by
    rw [rowG, Option.bind_eq_some_iff] at h
    obtain ⟨s, h1, h2⟩ := h
    rw [Option.bind_eq_some_iff] at h2
    obtain ⟨r, -, h3⟩ := h2
    cases h3
    rw [List.length_set, rowG_len h1]
theorem triG_len : ∀ {m : Nat} {lo : List (Nat × Nat)}, triG step n l m = some lo → lo.length = l.length
  | 0, lo, h => by cases h; rfl
  | m + 1, lo, h => by
    rw [triG, Option.bind_eq_some_iff] at h
    obtain ⟨s, h1, h2⟩ := h
    rw [rowG_len h2, triG_len h1]
theorem rowG_step {j : Nat} {s : List (Nat × Nat)} (h : rowG step n k l (j + 1) = some lo) (hs : rowG step n k l j = some s) : ∃ r, step k (n - 1 - j) (s.getD (n - 1 - j) (0, 0)) (s.getD (n - 1 - j - 1) (0, 0)) = some r ∧ lo = s.set (n - 1 - j) r := by
  rw [rowG, hs, Option.bind_some, Option.bind_eq_some_iff] at h
  obtain ⟨r, h1, h2⟩ := h
  cases h2
  exact ⟨r, h1, rfl⟩
/-- What holds of each number by its row and place. -/
theorem rowG_ok {Q : Nat → Nat → Nat × Nat → Prop} (hk : 1 ≤ k) (hl : l.length = n) (h0 : ∀ i, i < n → Q (min i (k - 1)) i (l.getD i (0, 0)))
    (hs : ∀ i x y, k ≤ i → i < n → Q (k - 1) i x → Q (k - 1) (i - 1) y → ∃ r, step k i x y = some r ∧ Q k i r) : ∀ m, m ≤ n - k → ∃ lo, rowG step n k l m = some lo ∧ lo.length = n ∧ ∀ i, i < n → Q (if n - m ≤ i then k else min i (k - 1)) i (lo.getD i (0, 0))
  | 0, _ => ⟨l, rfl, hl, fun i hi => by rw [if_neg (by omega)]; exact h0 i hi⟩
  | m + 1, hm => by
    obtain ⟨s, h1, h2, h3⟩ := rowG_ok hk hl h0 hs m (by omega)
    have a := h3 (n - 1 - m) (by omega)
    have b := h3 (n - 1 - m - 1) (by omega)
    rw [if_neg (by omega), Nat.min_eq_right (by omega)] at a
    rw [if_neg (by omega)] at b
    rw [Nat.min_eq_right (by omega)] at b
    obtain ⟨r, e, q⟩ := hs (n - 1 - m) _ _ (by omega) (by omega) a b
    refine ⟨s.set (n - 1 - m) r, by rw [rowG, h1, Option.bind_some, e]; rfl, by rw [List.length_set, h2], fun i hi => ?_⟩
    rw [getD_set _ _ _ _ _ (by omega)]
    by_cases he : i = n - 1 - m
    · rw [if_pos he, if_pos (by omega), he]
      exact q
    · rw [if_neg he]
      have := h3 i hi
      by_cases h4 : n - m ≤ i
      · rw [if_pos h4] at this; rw [if_pos (by omega)]; exact this
      · rw [if_neg h4] at this; rw [if_neg (by omega)]; exact this
theorem triG_ok {Q : Nat → Nat → Nat × Nat → Prop} (hl : l.length = n) (h0 : ∀ i, i < n → Q 0 i (l.getD i (0, 0)))
    (hs : ∀ k i x y, 1 ≤ k → k ≤ i → i < n → Q (k - 1) i x → Q (k - 1) (i - 1) y → ∃ r, step k i x y = some r ∧ Q k i r) : ∀ m, m ≤ n - 1 → ∃ lo, triG step n l m = some lo ∧ lo.length = n ∧ ∀ i, i < n → Q (min i m) i (lo.getD i (0, 0))
  | 0, _ => ⟨l, rfl, hl, fun i hi => by rw [Nat.min_eq_right (by omega)]; exact h0 i hi⟩
  | m + 1, hm => by
    obtain ⟨s, h1, h2, h3⟩ := triG_ok hl h0 hs m (by omega)
    obtain ⟨lo, e1, e2, e3⟩ := rowG_ok (k := m + 1) (Q := Q) (step := step) (by omega) h2 (fun i hi => by simpa using h3 i hi) (fun i x y a b c d => hs (m + 1) i x y (by omega) a b c d) (n - (m + 1)) (Nat.le_refl _)
    refine ⟨lo, by rw [triG, h1, Option.bind_some]; exact e1, e2, fun i hi => ?_⟩
    have := e3 i hi
    by_cases h4 : m + 1 ≤ i
    · rw [if_pos (by omega)] at this; rw [Nat.min_eq_right h4]; exact this
    · rw [if_neg (by omega)] at this
      rw [show min i (m + 1) = min i (m + 1 - 1) by omega]
      exact this
end
theorem wrap_sub' (a b : Nat) (h : b ≤ a) (h2 : a ≤ 100) : IntKind.i64.wrap ((a : Int) - (b : Int)) = ((a - b : Nat) : Int) := by
  have e : (a : Int) - (b : Int) = ((a - b : Nat) : Int) := by omega
  rw [e]
  simp only [IntKind.wrap, IntKind.signed, IntKind.bits]
  simp
  omega
def dstep (pts : List (Nat × Nat)) (k i : Nat) (x y : Nat × Nat) : Option (Nat × Nat) := (minusW x y).bind fun a => (minusW (pts.getD i (0, 0)) (pts.getD (i - k) (0, 0))).bind fun h => quoW a h
end Go.Proofs.Ytlilhebnbhlkhaa
