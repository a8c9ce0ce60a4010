/-
  Contracts by values: impl.times, MulComplex, plus, minus, ScaleComplex; laws.r8Gap, r8Far.
-/
import Derived.Test.YtlpibibpckkjhaaArV
import Derived.Test.YtlpibibpckkjhaaEvnS
namespace Go.Proofs.Ytlpibibpckkjhaa
open Go.RowKit

theorem cvW {x r : Nat} (h : floatToFloatBits .f32 x .f64 = some r) (w : World) : (convert 25 39 (.float .f32 x)).run Try.prog w = .ok (.float .f64 r) w :=
  run_convert_float_float (P := Try.prog) w 25 39 .f32 .f64 x r (by rw [Try.underlying25]; rfl) Try.underlying39 h
theorem cvN {x r : Nat} (h : floatToFloatBits .f64 x .f32 = some r) (w : World) : (convert 39 25 (.float .f64 x)).run Try.prog w = .ok (.float .f32 r) w :=
  run_convert_float_float (P := Try.prog) w 39 25 .f64 .f32 x r (by rw [Try.underlying39]; rfl) Try.underlying25 h
/-- A number lies below a bound, whatever its sign. -/
def Bd (a b : Rat) : Prop := a < b ∧ -b < a

theorem times_v {x1 x2 y1 y2 : Nat} {a b c d : Rat} (hx1 : NV .f32 x1 a) (hx2 : NV .f32 x2 b) (hy1 : NV .f32 y1 c) (hy2 : NV .f32 y2 d) (h1 : Bd (a * c) 60) (h2 : Bd (b * d) 60) (h3 : Bd (a * d) 60) (h4 : Bd (b * c) 60) :
    ∃ p q π κ, NV .f64 p π ∧ NV .f64 q κ ∧ Nr π (a * c - b * d) (1 / 100000000000) ∧ Nr κ (a * d + b * c) (1 / 100000000000) ∧
      ∀ w, Calls Try.prog 92 #[.complex .f32 x1 x2, .complex .f32 y1 y2] w fun e w' => e = .returned (.tuple #[.float .f64 p, .float .f64 q]) ∧ w' = w := by
  unfold Bd at h1 h2 h3 h4
  obtain ⟨u1, f1, n1⟩ := wide_exact hx1
  obtain ⟨u2, f2, n2⟩ := wide_exact hx2
  obtain ⟨v1, f3, n3⟩ := wide_exact hy1
  obtain ⟨v2, f4, n4⟩ := wide_exact hy2
  obtain ⟨r1, c1, g1, m1, e1⟩ := mul64 n1 n3 (by grind) (by grind)
  obtain ⟨r2, c2, g2, m2, e2⟩ := mul64 n2 n4 (by grind) (by grind)
  obtain ⟨r3, c3, g3, m3, e3⟩ := mul64 n1 n4 (by grind) (by grind)
  obtain ⟨r4, c4, g4, m4, e4⟩ := mul64 n2 n3 (by grind) (by grind)
  unfold Nr at e1 e2 e3 e4
  obtain ⟨p, π, g5, m5, e5⟩ := sub64 m1 m2 (by grind) (by grind)
  obtain ⟨q, κ, g6, m6, e6⟩ := add64 m3 m4 (by grind) (by grind)
  unfold Nr at e5 e6
  have k1 := cvW f1
  have k2 := cvW f2
  have k3 := cvW f3
  have k4 := cvW f4
  have j1 := ar64 _ _ _ _ g1
  have j2 := ar64 _ _ _ _ g2
  have j3 := ar64 _ _ _ _ g3
  have j4 := ar64 _ _ _ _ g4
  have j5 := ar64 _ _ _ _ g5
  have j6 := ar64 _ _ _ _ g6
  refine ⟨p, q, π, κ, m5, m6, by unfold Nr; grind, by unfold Nr; grind, fun w => ?_⟩
  clear f1 f2 f3 f4 g1 g2 g3 g4 g5 g6 e1 e2 e3 e4 e5 e6 m1 m2 m3 m4 m5 m6 n1 n2 n3 n4 hx1 hx2 hy1 hy2 h1 h2 h3 h4
  go_enter Try.func92, Try.ntmps92
  go_wp2
  go_ret2
  exact ⟨rfl, rfl⟩
theorem mulC_v {x1 x2 y1 y2 : Nat} {a b c d : Rat} (hx1 : NV .f32 x1 a) (hx2 : NV .f32 x2 b) (hy1 : NV .f32 y1 c) (hy2 : NV .f32 y2 d) (h1 : Bd (a * c) 60) (h2 : Bd (b * d) 60) (h3 : Bd (a * d) 60) (h4 : Bd (b * c) 60) :
    ∃ p q π κ, NV .f32 p π ∧ NV .f32 q κ ∧ Nr π (a * c - b * d) (1 / 260000) ∧ Nr κ (a * d + b * c) (1 / 260000) ∧
      ∀ w, Calls Try.prog 58 #[.complex .f32 x1 x2, .complex .f32 y1 y2] w fun e w' => e = .returned (.complex .f32 p q) ∧ w' = w := by
  obtain ⟨p, q, π, κ, n1, n2, e1, e2, HT⟩ := times_v hx1 hx2 hy1 hy2 h1 h2 h3 h4
  unfold Bd at h1 h2 h3 h4
  unfold Nr at e1 e2
  obtain ⟨p', π', g1, m1, e3⟩ := narrow n1 (by grind) (by grind)
  obtain ⟨q', κ', g2, m2, e4⟩ := narrow n2 (by grind) (by grind)
  unfold Nr at e3 e4
  have k1 := cvN g1
  have k2 := cvN g2
  refine ⟨p', q', π', κ', m1, m2, by unfold Nr; grind, by unfold Nr; grind, fun w => ?_⟩
  clear e1 e2 e3 e4 g1 g2 m1 m2 n1 n2 hx1 hx2 hy1 hy2 h1 h2 h3 h4
  go_enter Try.func58, Try.ntmps58
  go_wp2_with fail
  refine (HT w).mono ?_
  rintro e w1 ⟨rfl, rfl⟩
  go_wp2
  go_ret
  exact ⟨rfl, rfl⟩
theorem plus_v {x1 x2 y1 y2 : Nat} {a b c d : Rat} (hx1 : NV .f32 x1 a) (hx2 : NV .f32 x2 b) (hy1 : NV .f32 y1 c) (hy2 : NV .f32 y2 d) (h1 : Bd (a + c) 128) (h2 : Bd (b + d) 128) :
    ∃ p q π κ, NV .f32 p π ∧ NV .f32 q κ ∧ Nr π (a + c) (1 / 262144) ∧ Nr κ (b + d) (1 / 262144) ∧
      ∀ w, Calls Try.prog 57 #[.complex .f32 x1 x2, .complex .f32 y1 y2] w fun e w' => e = .returned (.complex .f32 p q) ∧ w' = w := by
  obtain ⟨p, π, g1, m1, e1⟩ := add32 hx1 hy1 h1.1 h1.2
  obtain ⟨q, κ, g2, m2, e2⟩ := add32 hx2 hy2 h2.1 h2.2
  have j1 := ar32 _ _ _ _ g1
  have j2 := ar32 _ _ _ _ g2
  refine ⟨p, q, π, κ, m1, m2, e1, e2, fun w => ?_⟩
  clear e1 e2 g1 g2 m1 m2 hx1 hx2 hy1 hy2 h1 h2
  go_enter Try.func57, Try.ntmps57
  go_wp2
  go_ret
  exact ⟨rfl, rfl⟩
theorem minus_v {x1 x2 y1 y2 : Nat} {a b c d : Rat} (hx1 : NV .f32 x1 a) (hx2 : NV .f32 x2 b) (hy1 : NV .f32 y1 c) (hy2 : NV .f32 y2 d) (h1 : Bd (a - c) 128) (h2 : Bd (b - d) 128) :
    ∃ p q π κ, NV .f32 p π ∧ NV .f32 q κ ∧ Nr π (a - c) (1 / 262144) ∧ Nr κ (b - d) (1 / 262144) ∧
      ∀ w, Calls Try.prog 61 #[.complex .f32 x1 x2, .complex .f32 y1 y2] w fun e w' => e = .returned (.complex .f32 p q) ∧ w' = w := by
  obtain ⟨p, π, g1, m1, e1⟩ := sub32 hx1 hy1 h1.1 h1.2
  obtain ⟨q, κ, g2, m2, e2⟩ := sub32 hx2 hy2 h2.1 h2.2
  have j1 := ar32 _ _ _ _ g1
  have j2 := ar32 _ _ _ _ g2
  refine ⟨p, q, π, κ, m1, m2, e1, e2, fun w => ?_⟩
  clear e1 e2 g1 g2 m1 m2 hx1 hx2 hy1 hy2 h1 h2
  go_enter Try.func61, Try.ntmps61
  go_wp2
  go_ret
  exact ⟨rfl, rfl⟩
theorem scale_v {x1 x2 y : Nat} {a b c : Rat} (hx1 : NV .f32 x1 a) (hx2 : NV .f32 x2 b) (hy : NV .f32 y c) (h1 : Bd (a * c) 128) (h2 : Bd (b * c) 128) :
    ∃ p q π κ, NV .f32 p π ∧ NV .f32 q κ ∧ Nr π (a * c) (1 / 262144) ∧ Nr κ (b * c) (1 / 262144) ∧
      ∀ w, Calls Try.prog 69 #[.complex .f32 x1 x2, .float .f32 y] w fun e w' => e = .returned (.complex .f32 p q) ∧ w' = w := by
  obtain ⟨p, π, g1, m1, e1⟩ := mul32 hx1 hy h1.1 h1.2
  obtain ⟨q, κ, g2, m2, e2⟩ := mul32 hx2 hy h2.1 h2.2
  have j1 := ar32 _ _ _ _ g1
  have j2 := ar32 _ _ _ _ g2
  refine ⟨p, q, π, κ, m1, m2, e1, e2, fun w => ?_⟩
  clear e1 e2 g1 g2 m1 m2 hx1 hx2 hy h1 h2
  go_enter Try.func69, Try.ntmps69
  go_wp2
  go_ret
  exact ⟨rfl, rfl⟩

/-- The greater of two numbers. -/
theorem max_run {x y : Nat} {a b : Rat} (hx : NV .f64 x a) (hy : NV .f64 y b) (ts : Array TypeId) (t : TypeId) : ∃ r c, NV .f64 r c ∧ (a ≤ c ∧ b ≤ c ∧ (c = a ∨ c = b)) ∧ ∀ w, (Builtin.max_ ts t #[.float .f64 x, .float .f64 y]).run Try.prog w = .ok (.float .f64 r) w := by
  obtain ⟨o1, o2, o3⟩ := order_val .f64 hx hy
  rcases (show a < b ∨ a = b ∨ b < a by grind) with h | h | h
  · have ho := o1 h
    exact ⟨y, b, hy, ⟨by grind, by grind, .inr rfl⟩, fun w => by simp [Builtin.max_, Builtin.max2, ho]⟩
  · have ho := o2 h
    cases hn : (FloatKind.f64.decode x).neg with
    | true => exact ⟨y, b, hy, ⟨by grind, by grind, .inr rfl⟩, fun w => by simp [Builtin.max_, Builtin.max2, ho, hn]⟩
    | false => exact ⟨x, a, hx, ⟨by grind, by grind, .inl rfl⟩, fun w => by simp [Builtin.max_, Builtin.max2, ho, hn]⟩
  · have ho := o3 h
    exact ⟨x, a, hx, ⟨by grind, by grind, .inl rfl⟩, fun w => by simp [Builtin.max_, Builtin.max2, ho]⟩
/-- How far numbers are apart. -/
theorem gap_v {x y : Nat} {a b : Rat} (hx : NV .f64 x a) (hy : NV .f64 y b) (h : Bd (a - b) 127) :
    ∃ r c, NV .f64 r c ∧ 0 - 1 / 1000000000000 ≤ c ∧ (∀ e, Nr a b e → c ≤ e + 1 / 1000000000000) ∧
      ∀ w, Calls Try.prog 12 #[.float .f64 x, .float .f64 y] w fun e w' => e = .returned (.float .f64 r) ∧ w' = w := by
  unfold Bd at h
  obtain ⟨p, π, g1, m1, e1⟩ := sub64 hx hy (by grind) (by grind)
  obtain ⟨q, κ, g2, m2, e2⟩ := sub64 hy hx (by grind) (by grind)
  unfold Nr at e1 e2
  obtain ⟨r, c, hr, hc, HM⟩ := max_run m1 m2 #[39, 39] 39
  have j1 := ar64 _ _ _ _ g1
  have j2 := ar64 _ _ _ _ g2
  refine ⟨r, c, hr, by grind, fun e he => by unfold Nr at he; grind, fun w => ?_⟩
  clear e1 e2 g1 g2 m1 m2 hx hy h hr hc
  go_enter Try.func12, Try.ntmps12
  go_wp2
  go_ret
  exact ⟨rfl, rfl⟩
theorem far_v {x1 x2 y1 y2 : Nat} {a b c d : Rat} (hx1 : NV .f32 x1 a) (hx2 : NV .f32 x2 b) (hy1 : NV .f32 y1 c) (hy2 : NV .f32 y2 d) (h1 : Bd (a - c) 60) (h2 : Bd (b - d) 60) :
    ∃ r v, NV .f64 r v ∧ 0 - 1 / 100000000000 ≤ v ∧ (∀ e f, Nr a c e → Nr b d f → v ≤ e + f + 1 / 100000000000) ∧
      ∀ w, Calls Try.prog 18 #[.complex .f32 x1 x2, .complex .f32 y1 y2] w fun e w' => e = .returned (.float .f64 r) ∧ w' = w := by
  unfold Bd at h1 h2
  obtain ⟨u1, f1, n1⟩ := wide_exact hx1
  obtain ⟨u2, f2, n2⟩ := wide_exact hx2
  obtain ⟨v1, f3, n3⟩ := wide_exact hy1
  obtain ⟨v2, f4, n4⟩ := wide_exact hy2
  obtain ⟨p, π, q1, q2, q3, HG1⟩ := gap_v n1 n3 (by unfold Bd; grind)
  obtain ⟨q, κ, s1, s2, s3, HG2⟩ := gap_v n2 n4 (by unfold Bd; grind)
  have b1 := q3 60 (by unfold Nr; grind)
  have b2 := s3 60 (by unfold Nr; grind)
  obtain ⟨r, v, g, m, e⟩ := add64 q1 s1 (by grind) (by grind)
  unfold Nr at e
  have k1 := cvW f1
  have k2 := cvW f2
  have k3 := cvW f3
  have k4 := cvW f4
  have j := ar64 _ _ _ _ g
  refine ⟨r, v, m, by grind, fun e1 e2 h3 h4 => by have := q3 e1 h3; have := s3 e2 h4; grind, fun w => ?_⟩
  clear f1 f2 f3 f4 n1 n2 n3 n4 q1 q2 q3 s1 s2 s3 b1 b2 g m e hx1 hx2 hy1 hy2 h1 h2
  go_enter Try.func18, Try.ntmps18
  go_wp2_with fail
  refine (HG1 w).mono ?_
  rintro e w1 ⟨rfl, rfl⟩
  go_wp2_with fail
  refine (HG2 _).mono ?_
  rintro e w2 ⟨rfl, rfl⟩
  go_wp2
  go_ret
  exact ⟨rfl, rfl⟩
end Go.Proofs.Ytlpibibpckkjhaa
