/-
  The law FnSeries: its tests as numbers; many lists in memory; its code from a statement on.
-/
import Derived.Test.YtlilhebnbhlkhaaSeU
import Derived.Test.YtlilhebnbhlkhaaSeK
import Derived.Deep.CutRange
namespace Go.Proofs.Ytlilhebnbhlkhaa
open Go.RowKit

/-- A sequence's code from a statement on. -/
def nthTail : Nat → Code → Code
  | n + 1, .seq _ c => nthTail n c
  | _, c => c
def tailAt (f : Func) (n : Nat) : Code := nthTail n (match f.body with | some c => c | none => .skip)
def headAt (f : Func) (n : Nat) : Code := match tailAt f n with | .seq c _ => c | c => c
def seqFst : Code → Code
  | .seq a _ => a
  | c => c
def seqSnd : Code → Code
  | .seq _ b => b
  | c => c
/-- Lists of complex numbers, each at a block's beginning. -/
def CVs (w : World) (l : List (Nat × List (Nat × Nat))) : Prop := ∀ p ∈ l, CV w p.1 p.2
theorem CVs.nil (w : World) : CVs w [] := fun p hp => by simp at hp
theorem CVs.below {w w' : World} {l : List (Nat × List (Nat × Nat))} (h : CVs w l) (hb : Below w.heap.size w w') : CVs w' l := fun p hp => (h p hp).below hb (h p hp).lt
theorem CVs.add {w : World} {l : List (Nat × List (Nat × Nat))} {g : Nat} {x : List (Nat × Nat)} (h : CVs w l) (hV : CV w g x) : CVs w ((g, x) :: l) := fun p hp => by
  rcases List.mem_cons.1 hp with e | e
  · subst e; exact hV
  · exact h p e
theorem CVs.at_ {w : World} {l : List (Nat × List (Nat × Nat))} {g : Nat} {x : List (Nat × Nat)} (h : CVs w l) (hm : (g, x) ∈ l) : CV w g x := h _ hm
theorem CVs.drewN {w : World} {l : List (Nat × List (Nat × Nat))} (h : CVs w l) (n : Nat) : CVs (w.drewN n) l := fun p hp => (h p hp).drewN n
theorem max2_any {k : FloatKind} {x y : Nat} {a b : Rat} (hx : NV k x a) (hy : NV k y b) : ∃ r c, NV k r c ∧ (a ≤ c ∧ b ≤ c ∧ (c = a ∨ c = b)) ∧ ∀ w, (Builtin.max2 (.float k x) (.float k y)).run Try.prog w = .ok (.float k r) w := by
  obtain ⟨o1, o2, o3⟩ := order_val k hx hy
  rcases (show a < b ∨ a = b ∨ b < a by grind) with h | h | h
  · have ho := o1 h
    exact ⟨y, b, hy, ⟨by grind, by grind, .inr rfl⟩, fun w => by simp [Builtin.max2, ho]⟩
  · have ho := o2 h
    cases hn : (k.decode x).neg with
    | true => exact ⟨y, b, hy, ⟨by grind, by grind, .inr rfl⟩, fun w => by simp [Builtin.max2, ho, hn]⟩
    | false => exact ⟨x, a, hx, ⟨by grind, by grind, .inl rfl⟩, fun w => by simp [Builtin.max2, ho, hn]⟩
  · have ho := o3 h
    exact ⟨x, a, hx, ⟨by grind, by grind, .inl rfl⟩, fun w => by simp [Builtin.max2, ho]⟩
theorem max4_any {k : FloatKind} {x y z t : Nat} {a b c d : Rat} (hx : NV k x a) (hy : NV k y b) (hz : NV k z c) (ht : NV k t d) (ts : Array TypeId) (ty : TypeId) : ∃ r e, NV k r e ∧ a ≤ e ∧ b ≤ e ∧ (∀ B, a ≤ B → b ≤ B → c ≤ B → d ≤ B → e ≤ B) ∧
    ∀ w, (Builtin.max_ ts ty #[.float k x, .float k y, .float k z, .float k t]).run Try.prog w = .ok (.float k r) w := by
  obtain ⟨r1, e1, n1, ⟨a1, a2, a3⟩, H1⟩ := max2_any hx hy
  obtain ⟨r2, e2, n2, ⟨b1, b2, b3⟩, H2⟩ := max2_any n1 hz
  obtain ⟨r3, e3, n3, ⟨c1, c2, c3⟩, H3⟩ := max2_any n2 ht
  refine ⟨r3, e3, n3, by grind, by grind, fun B h1 h2 h3 h4 => ?_, fun w => by simp [Builtin.max_, H1, H2, H3]⟩
  rcases a3 with h | h <;> rcases b3 with h' | h' <;> rcases c3 with h'' | h'' <;> grind
/-- The greatest length so far. -/
def Scl (B : Rat) (k s : Nat) : Prop := ∃ σ, NV .f64 s σ ∧ -1 ≤ σ ∧ σ ≤ B ∧ (1 ≤ k → 9 / 10 ≤ σ)
theorem scl_zero {B : Rat} (h : 0 ≤ B) : Scl B 0 0 := ⟨0, nv64_zero, by grind, h, fun h => absurd h (by omega)⟩
theorem long_up {x : Nat × Nat} {a b R : Rat} (n1 : NV .f32 x.1 a) (n2 : NV .f32 x.2 b) (h : E2 a b R) (hR : 1 / 1000 ≤ R ∧ R ≤ 1000) : ∃ L l γ, longW x = some L ∧ floatToFloatBits .f32 L .f64 = some l ∧ NV .f64 l γ ∧ -1 ≤ γ ∧ γ ≤ R + 1 / 100 ∧ ∀ t, 0 ≤ t → t * t ≤ a * a + b * b → t ≤ γ + R / 10000 := by
  obtain ⟨L, c, g, nc, c1, c2, c3⟩ := longE n1 n2 h ⟨by grind, by grind⟩
  obtain ⟨l, f, nl⟩ := wide_exact nc
  exact ⟨L, l, c, g, f, nl, by grind, by grind, c3⟩
theorem ap_up {u A : Rat × Rat} {x : Nat × Nat} (h : Ap u A x) (h1 : 1 / 1000 ≤ A.1) (h2 : A.1 + A.2 ≤ 150) : ∃ L l γ, longW x = some L ∧ floatToFloatBits .f32 L .f64 = some l ∧ NV .f64 l γ ∧ -1 ≤ γ ∧ γ ≤ 151 := by
  have h0 := h.pos
  obtain ⟨a, b, n1, n2, e1, e2⟩ := h
  obtain ⟨L, l, c, g1, g2, nl, c1, c2, -⟩ := long_up n1 n2 (e2.of e1) ⟨by grind, by grind⟩
  exact ⟨L, l, c, g1, g2, nl, c1, by grind⟩
theorem nv_001 : NV .f64 4562254508917369340 (1152921504606847 / 1152921504606846976) := nv64_is (by decide +kernel) (by decide +kernel)
/-- 0.001 * (1 + scale) * (1 + scale). -/
theorem most_ok {s k : Nat} {B : Rat} (h : Scl B k s) (hk : 1 ≤ k) (hB : B ≤ 1000) : ∃ p q m μ, floatBits .add .f64 4607182418800017408 s = some p ∧ floatBits .mul .f64 4562254508917369340 p = some q ∧ floatBits .mul .f64 q p = some m ∧ NV .f64 m μ ∧ 36 / 10000 ≤ μ := by
  obtain ⟨σ, ns, s1, s2, s3⟩ := h
  have s4 := s3 hk
  obtain ⟨p, π, g1, n1, e1⟩ := addM nv64_one ns (M := 2000) ⟨by grind, by grind⟩ (by grind) (by grind)
  rw [un64] at e1
  unfold Nr at e1
  obtain ⟨q, κ, g2, n2, e2⟩ := mulM nv_001 n1 (M := 10) ⟨by grind, by grind⟩ (by grind) (by grind)
  rw [un64] at e2
  unfold Nr at e2
  have h1 : 0 ≤ κ ∧ κ ≤ 2 ∧ 0 ≤ π ∧ π ≤ 1001 + 1 / 100 := ⟨by grind, by grind, by grind, by grind⟩
  obtain ⟨h2, h3, h4, h5⟩ := h1
  have h6 := Rat.mul_nonneg h2 h4
  have h7 := Rat.mul_nonneg (show (0 : Rat) ≤ 2 - κ by grind) h4
  obtain ⟨m, μ, g3, n3, e3⟩ := mulM n2 n1 (M := 3000) ⟨by grind, by grind⟩ (by grind) (by grind)
  rw [un64] at e3
  unfold Nr at e3
  have h8 := Rat.mul_nonneg (show (0 : Rat) ≤ κ - 18999 / 10000000 by grind) (show (0 : Rat) ≤ π by grind)
  exact ⟨p, q, m, μ, g1, g2, g3, n3, by grind⟩
/-- How far words are apart that are near each other. -/
theorem near_test {x y : Nat × Nat} {a b c d ρ : Rat} (n1 : NV .f32 x.1 a) (n2 : NV .f32 x.2 b) (n3 : NV .f32 y.1 c) (n4 : NV .f32 y.2 d) (h : E2 (a - c) (b - d) ρ) (hρ : ρ ≤ 3 / 1000) : ∃ r L l γ, minusW x y = some r ∧ longW r = some L ∧ floatToFloatBits .f32 L .f64 = some l ∧ NV .f64 l γ ∧ γ ≤ ρ + 1 / 100000 := by
  have hp := h.pos
  obtain ⟨r, π, κ, g1, m1, m2, er⟩ := minusE n1 n2 n3 n4 (h.le (show ρ ≤ ρ + 1 / 1000000 by grind)) ⟨by grind, by grind⟩
  have hE := (h.le (show ρ ≤ ρ + 1 / 1000000 by grind)).of er
  obtain ⟨L, c', g2, nc, c1, -, -⟩ := longE m1 m2 (hE.le (show _ ≤ ρ + 5 / 1000000 by grind)) ⟨by grind, by grind⟩
  obtain ⟨l, g3, nl⟩ := wide_exact nc
  exact ⟨r, L, l, c', g1, g2, g3, nl, by grind⟩
theorem ap_test {u A B : Rat × Rat} {x y : Nat × Nat} (h : Ap u A x) (k : Ap u B y) (hρ : A.2 + B.2 ≤ 1 / 1200) : ∃ r L l γ, minusW x y = some r ∧ longW r = some L ∧ floatToFloatBits .f32 L .f64 = some l ∧ NV .f64 l γ ∧ γ ≤ 9 / 10000 := by
  obtain ⟨a, b, n1, n2, e1, -⟩ := h
  obtain ⟨c, d, n3, n4, e2, -⟩ := k
  have hd := e1.trans e2.sym
  obtain ⟨r, L, l, c', g1, g2, g3, nl, hl⟩ := near_test n1 n2 n3 n4 hd (by grind)
  exact ⟨r, L, l, c', g1, g2, g3, nl, by grind⟩
theorem minus_run {x y r : Nat × Nat} (h : minusW x y = some r) (w : World) : (binOp .sub 26 (.complex .f32 x.1 x.2) (.complex .f32 y.1 y.2)).run Try.prog w = .ok (.complex .f32 r.1 r.2) w := by
  unfold minusW at h
  simp only [Option.bind_eq_some_iff] at h
  obtain ⟨p, h1, q, h2, h3⟩ := h
  cases h3
  exact run_complex_sum w .sub (.inr rfl) _ _ _ _ _ _ _ _ (by unfold cSumBits; rw [h1, Option.bind_some, h2, Option.bind_some])
/-- What a step of the law's first sum needs. -/
theorem scl_step {x y z : Nat × Nat} {u v t A B C : Rat × Rat} {k s : Nat} (hS : Scl 151 k s) (hx : Ap u A x) (hy : Ap v B y) (hz : Ap t C z) (a1 : 1 / 1000 ≤ A.1 ∧ A.1 + A.2 ≤ 150) (b1 : 1 / 1000 ≤ B.1 ∧ B.1 + B.2 ≤ 150) (c1 : 1 / 1000 ≤ C.1 ∧ C.1 + C.2 ≤ 150) (h0 : k = 0 → u = (1, 0) ∧ A.1 ≤ 2 ∧ A.2 ≤ 1 / 1000) :
    ∃ L1 l1 L2 l2 L3 l3 s', longW x = some L1 ∧ floatToFloatBits .f32 L1 .f64 = some l1 ∧ longW y = some L2 ∧ floatToFloatBits .f32 L2 .f64 = some l2 ∧ longW z = some L3 ∧ floatToFloatBits .f32 L3 .f64 = some l3 ∧ Scl 151 (k + 1) s' ∧
      ∀ (ts : Array TypeId) (ty : TypeId) w, (Builtin.max_ ts ty #[.float .f64 s, .float .f64 l1, .float .f64 l2, .float .f64 l3]).run Try.prog w = .ok (.float .f64 s') w := by
  obtain ⟨σ, ns, s1, s2, s3⟩ := hS
  have hxp := hx.pos
  obtain ⟨a, b, n1, n2, e1, e2⟩ := hx
  obtain ⟨L1, l1, d1, g1, g2, m1, p1, p2, p3⟩ := long_up n1 n2 (e2.of e1) ⟨by grind, by grind⟩
  obtain ⟨L2, l2, d2, g3, g4, m2, p4, p5⟩ := ap_up hy b1.1 b1.2
  obtain ⟨L3, l3, d3, g5, g6, m3, p6, p7⟩ := ap_up hz c1.1 c1.2
  obtain ⟨r, ε, nr, q1, q2, q3, HM⟩ := max4_any ns m1 m2 m3 #[] default
  refine ⟨L1, l1, L2, l2, L3, l3, r, g1, g2, g3, g4, g5, g6, ⟨ε, nr, by grind, q3 151 s2 (by grind) p5 p7, fun _ => ?_⟩, fun ts ty w => by rw [← HM w]; rfl⟩
  by_cases hk : k = 0
  · obtain ⟨e0, r1', r2'⟩ := h0 hk
    rw [e0] at e1
    have e3 := e1.fst
    unfold Lm at e3
    simp only at e3
    have hb2 := sq_pos b
    have := Rat.mul_nonneg (show (0 : Rat) ≤ a - 99 / 100 by grind) (show (0 : Rat) ≤ a + 99 / 100 by grind)
    have := p3 (99 / 100) (by grind) (by grind)
    grind
  · have := s3 (by omega)
    grind
end Go.Proofs.Ytlilhebnbhlkhaa
