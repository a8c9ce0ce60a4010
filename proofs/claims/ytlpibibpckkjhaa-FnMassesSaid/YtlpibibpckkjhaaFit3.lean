/-
  Plain: the fit of degree 2 at -1, 0, 1 as a chain of steps.
  Plain: the matrix of the fit of degree 2 at -1, 0, 1.
  Plain: the trimmed terms of a list of numbers have the values of all.
  Plain: the trimmed terms of finite numbers: a valid polynomial with the values of all.
  Plain: steps up to errors, as Options; the fit of degree 2 by values.
  Plain: the fit of degree 2 at -1, 0, 1 passes its values, nearly.
  Plain: the fits of degree 0, 1 and 2 at -1, 0, 1 pass their values, nearly.
-/
import Derived.Test.YtlpibibpckkjhaaFitN
namespace Go.Proofs.Ytlpibibpckkjhaa
open Go.RowKit

abbrev w0 : Option Nat := some 0
abbrev w2 : Option Nat := some 1073741824
abbrev w3 : Option Nat := some 1077936128
def fF : Option Nat := opO .quo w2 w3
def gG : Option Nat := opO .sub w2 (opO .mul fF w2)
structure Mat3 (A : Mx) (r0 r1 r2 : Option Nat) : Prop where
  a00 : A 0 0 = w3
  a01 : A 0 1 = w0
  a02 : A 0 2 = w2
  a03 : A 0 3 = r0
  a10 : A 1 0 = w0
  a11 : A 1 1 = w2
  a12 : A 1 2 = w0
  a13 : A 1 3 = r1
  a20 : A 2 0 = w2
  a21 : A 2 1 = w0
  a22 : A 2 2 = w2
  a23 : A 2 3 = r2
def b13 (r0 r1 : Option Nat) : Option Nat := opO .sub r1 (opO .mul w0 r0)
def c23 (r0 r1 r2 : Option Nat) : Option Nat := opO .sub (opO .sub r2 (opO .mul fF r0)) (opO .mul w0 (b13 r0 r1))
def o2 (r0 r1 r2 : Option Nat) : Option Nat := opO .quo (c23 r0 r1 r2) gG
def o1 (r0 r1 r2 : Option Nat) : Option Nat := opO .quo (opO .sub (b13 r0 r1) (opO .mul w0 (o2 r0 r1 r2))) w2
def o0 (r0 r1 r2 : Option Nat) : Option Nat := opO .quo (opO .sub (opO .sub r0 (opO .mul w0 (o1 r0 r1 r2))) (opO .mul w2 (o2 r0 r1 r2))) w3
theorem swap_self (A : Mx) (k : Nat) : swapM A k k = A := by
  funext i j
  unfold swapM swp
  split
  · rename_i h; rw [h]
  · rfl
theorem gauss3 {A : Mx} {r0 r1 r2 : Option Nat} (h : Mat3 A r0 r1 r2) : ∃ B, gaussO 3 A 3 = some B ∧ solO B 3 3 0 = o0 r0 r1 r2 ∧ solO B 3 3 1 = o1 r0 r1 r2 ∧ solO B 3 3 2 = o2 r0 r1 r2 := by
  obtain ⟨a00, a01, a02, a03, a10, a11, a12, a13, a20, a21, a22, a23⟩ := h
  have bA : best A 0 2 = 0 := by
    have e1 : bigger A 0 1 0 = false := by unfold bigger; rw [a10, a00]; decide +kernel
    have e2 : bigger A 0 2 0 = false := by unfold bigger; rw [a20, a00]; decide +kernel
    simp [best, e1, e2]
  have pA : pivot 3 A 0 = A := by unfold pivot; rw [show 3 - 1 - 0 = 2 from rfl, bA, swap_self]
  have g1 : gaussO 3 A 1 = some (elimAt A 0 3 0) := by
    rw [gauss_step (B := A) rfl, pA, a00, if_neg (by decide +kernel)]
  have k11 : elimAt A 0 3 0 1 1 = w2 := by unfold elimAt; rw [if_pos (by omega), a11, a10, a00, a01]; decide +kernel
  have k12 : elimAt A 0 3 0 1 2 = w0 := by unfold elimAt; rw [if_pos (by omega), a12, a10, a00, a02]; decide +kernel
  have k13 : elimAt A 0 3 0 1 3 = b13 r0 r1 := by unfold elimAt b13; rw [if_pos (by omega), a13, a10, a00, a03, show opO .quo w0 w3 = w0 by decide +kernel]
  have k21 : elimAt A 0 3 0 2 1 = w0 := by unfold elimAt; rw [if_pos (by omega), a21, a20, a00, a01]; decide +kernel
  have k22 : elimAt A 0 3 0 2 2 = gG := by unfold elimAt; rw [if_pos (by omega), a22, a20, a00, a02]; rfl
  have k23 : elimAt A 0 3 0 2 3 = opO .sub r2 (opO .mul fF r0) := by unfold elimAt; rw [if_pos (by omega), a23, a20, a00, a03]; rfl
  have k0 : ∀ j, elimAt A 0 3 0 0 j = A 0 j := fun j => by unfold elimAt; rw [if_neg (by omega)]
  generalize elimAt A 0 3 0 = B at *
  have bB : best B 1 1 = 1 := by
    have e1 : bigger B 1 2 1 = false := by unfold bigger; rw [k21, k11]; decide +kernel
    simp [best, e1]
  have pB : pivot 3 B 1 = B := by unfold pivot; rw [show 3 - 1 - 1 = 1 from rfl, bB, swap_self]
  have g2 : gaussO 3 A 2 = some (elimAt B 1 3 0) := by
    rw [gauss_step g1, pB, k11, if_neg (by decide +kernel)]
  have m22 : elimAt B 1 3 0 2 2 = gG := by unfold elimAt; rw [if_pos (by omega), k22, k21, k11, k12]; decide +kernel
  have m23 : elimAt B 1 3 0 2 3 = c23 r0 r1 r2 := by unfold elimAt c23; rw [if_pos (by omega), k23, k21, k11, k13, show opO .quo w0 w2 = w0 by decide +kernel]
  have m1 : ∀ j, elimAt B 1 3 0 1 j = B 1 j := fun j => by unfold elimAt; rw [if_neg (by omega)]
  have m0 : ∀ j, elimAt B 1 3 0 0 j = B 0 j := fun j => by unfold elimAt; rw [if_neg (by omega)]
  generalize elimAt B 1 3 0 = C at *
  have pC : pivot 3 C 2 = C := by unfold pivot; rw [show 3 - 1 - 2 = 0 from rfl]; exact swap_self C 2
  have g3 : gaussO 3 A 3 = some (elimAt C 2 3 0) := by
    rw [gauss_step g2, pC, m22, if_neg (by decide +kernel)]
  have n_ : ∀ i j, i < 3 → elimAt C 2 3 0 i j = C i j := fun i j hi => by unfold elimAt; rw [if_neg (by omega)]
  refine ⟨_, g3, ?_⟩
  generalize elimAt C 2 3 0 = D at *
  have d00 : D 0 0 = w3 := by rw [n_ 0 0 (by omega), m0, k0, a00]
  have d01 : D 0 1 = w0 := by rw [n_ 0 1 (by omega), m0, k0, a01]
  have d02 : D 0 2 = w2 := by rw [n_ 0 2 (by omega), m0, k0, a02]
  have d03 : D 0 3 = r0 := by rw [n_ 0 3 (by omega), m0, k0, a03]
  have d11 : D 1 1 = w2 := by rw [n_ 1 1 (by omega), m1, k11]
  have d12 : D 1 2 = w0 := by rw [n_ 1 2 (by omega), m1, k12]
  have d13 : D 1 3 = b13 r0 r1 := by rw [n_ 1 3 (by omega), m1, k13]
  have d22 : D 2 2 = gG := by rw [n_ 2 2 (by omega), m22]
  have d23 : D 2 3 = c23 r0 r1 r2 := by rw [n_ 2 3 (by omega), m23]
  have q1 : solO D 3 1 2 = o2 r0 r1 r2 := by
    show opO .quo (D 2 3) (D 2 2) = _
    rw [d22, d23]; rfl
  have q2 : solO D 3 2 2 = o2 r0 r1 r2 := q1
  have p2 : solO D 3 2 1 = o1 r0 r1 r2 := by
    show opO .quo (opO .sub (D 1 3) (opO .mul (D 1 2) (solO D 3 1 2))) (D 1 1) = _
    rw [q1, d13, d12, d11]; rfl
  have q3 : solO D 3 3 2 = o2 r0 r1 r2 := q2
  have p3 : solO D 3 3 1 = o1 r0 r1 r2 := p2
  refine ⟨?_, p3, q3⟩
  show opO .quo (opO .sub (opO .sub (D 0 3) (opO .mul (D 0 1) (solO D 3 2 1))) (opO .mul (D 0 2) (solO D 3 2 2))) (D 0 0) = _
  rw [p2, q2, d00, d01, d02, d03]; rfl
end Go.Proofs.Ytlpibibpckkjhaa
namespace Go.Proofs.Ytlpibibpckkjhaa
open Go.RowKit

abbrev X3 : Nat → Option Nat := fun i => cn ([3212836864, 0, 1065353216].getD i 0)
abbrev W3 : Nat → Option Nat := fun i => cn ([1065353216, 1065353216, 1065353216].getD i 0)
def rr (ys : List Nat) (i : Nat) : Option Nat := rhsO X3 (fun k => cn (ys.getD k 0)) W3 i 3
theorem fit_mat (ys : List Nat) : Mat3 (fitM [3212836864, 0, 1065353216] ys [1065353216, 1065353216, 1065353216] 3) (rr ys 0) (rr ys 1) (rr ys 2) where
  a00 := by show sumO X3 W3 0 3 = _; decide +kernel
  a01 := by show sumO X3 W3 1 3 = _; decide +kernel
  a02 := by show sumO X3 W3 2 3 = _; decide +kernel
  a03 := rfl
  a10 := by show sumO X3 W3 1 3 = _; decide +kernel
  a11 := by show sumO X3 W3 2 3 = _; decide +kernel
  a12 := by show sumO X3 W3 3 3 = _; decide +kernel
  a13 := rfl
  a20 := by show sumO X3 W3 2 3 = _; decide +kernel
  a21 := by show sumO X3 W3 3 3 = _; decide +kernel
  a22 := by show sumO X3 W3 4 3 = _; decide +kernel
  a23 := rfl
end Go.Proofs.Ytlpibibpckkjhaa
namespace Go.Proofs.Ytlpibibpckkjhaa
open Go.RowKit

theorem trimN_stop (l : List (Nat × Nat)) : ∀ n, trimN l n ≤ 1 ∨ zeroC (l.getD (trimN l n - 1) (0, 0)) = false
  | 0 => .inl (by simp [trimN])
  | n + 1 => by
    rw [trimN]
    by_cases h : (decide (1 ≤ n) && zeroC (l.getD n (0, 0))) = true
    · rw [if_pos h]; exact trimN_stop l n
    · rw [if_neg h]
      by_cases h1 : 1 ≤ n
      · right
        rw [Nat.add_sub_cancel]
        simpa [h1] using h
      · left; omega
theorem trimN_zero (l : List (Nat × Nat)) : ∀ n k, trimN l n ≤ k → k < n → zeroC (l.getD k (0, 0)) = true
  | 0, k, _, hk => absurd hk (Nat.not_lt_zero _)
  | n + 1, k, h1, hk => by
    rw [trimN] at h1
    by_cases h : (decide (1 ≤ n) && zeroC (l.getD n (0, 0))) = true
    · rw [if_pos h] at h1
      rcases Nat.lt_or_ge k n with h2 | h2
      · exact trimN_zero l n k h1 h2
      · obtain rfl : k = n := by omega
        rw [Bool.and_eq_true] at h
        exact h.2
    · rw [if_neg h] at h1; omega
theorem zero_val {x : Nat} (hf : fin32B x = true) (h : zeroC (x, 0) = true) : V32 x = 0 := by
  unfold zeroC at h
  rw [Bool.and_eq_true] at h
  have h1 := eq_of_beq h.1
  obtain ⟨o1, -, o3⟩ := order_val .f32 (nv_of_fin hf) nv_zero
  rcases (show V32 x < 0 ∨ V32 x = 0 ∨ 0 < V32 x by grind) with h2 | h2 | h2
  · rw [o1 h2] at h1; cases h1
  · exact h2
  · rw [o3 h2] at h1; cases h1
theorem polS_zeros {f : Nat → Rat} {x : Rat} {m : Nat} : ∀ n, m ≤ n → (∀ k, m ≤ k → k < n → f k = 0) → polS f x n = polS f x m
  | 0, h, _ => by obtain rfl : m = 0 := by omega
                  rfl
  | n + 1, h, hz => by
    rcases Nat.eq_or_lt_of_le h with h1 | h1
    · rw [h1]
    · have e : polS f x (n + 1) = polS f x n + f n * pwx x n := rfl
      rw [e, polS_zeros n (by omega) (fun k a b => hz k a (by omega)), hz n (by omega) (by omega)]
      grind
theorem polS_same {f g : Nat → Rat} {x : Rat} : ∀ n, (∀ k, k < n → f k = g k) → polS f x n = polS g x n
  | 0, _ => rfl
  | n + 1, h => by
    have e : polS f x (n + 1) = polS f x n + f n * pwx x n := rfl
    have e2 : polS g x (n + 1) = polS g x n + g n * pwx x n := rfl
    rw [e, e2, polS_same n (fun k hk => h k (by omega)), h n (by omega)]
end Go.Proofs.Ytlpibibpckkjhaa
namespace Go.Proofs.Ytlpibibpckkjhaa
open Go.RowKit

theorem termsL_at {l : List Nat} {n k : Nat} (hl : l.length = n) (hk : k < trimN (reC l) n) : (termsL l n).getD k (0, 0) = (l.getD k 0, 0) := by
  have hle := trimN_le (reC l) n
  unfold termsL
  rw [← reC_at (show k < l.length by omega)]
  simp [List.getD, hk]
theorem terms_pol {l : List Nat} {n : Nat} (hl : l.length = n) (hf : ∀ k, k < n → fin32B (l.getD k 0) = true) (x : Rat) : polS (reV (termsL l n)) x (termsL l n).length = polS (fun k => V32 (l.getD k 0)) x n := by
  have hle := trimN_le (reC l) n
  rw [terms_len l n hl, polS_same (g := fun k => V32 (l.getD k 0)) _ (fun k hk => by unfold reV; rw [termsL_at hl hk])]
  refine (polS_zeros n hle fun k h1 h2 => ?_).symm
  have h3 := trimN_zero (reC l) n k h1 h2
  rw [reC_at (by omega)] at h3
  exact zero_val (hf k h2) h3
theorem terms_valid {l : List Nat} {n : Nat} (hl : l.length = n) (h1 : 1 ≤ n) (h17 : n ≤ 17) (hf : ∀ k, k < n → fin32B (l.getD k 0) = true) : polyB (termsL l n) = true := by
  have hle := trimN_le (reC l) n
  have hpos := trimN_pos (reC l) n h1
  have hlen := terms_len l n hl
  have hall : (termsL l n).all finCB = true := by
    refine List.all_eq_true.2 fun z hz => ?_
    obtain ⟨k, hk, rfl⟩ := List.mem_iff_getElem.1 hz
    have e : (termsL l n).getD k (0, 0) = (termsL l n)[k] := by rw [List.getD, List.getElem?_eq_getElem hk]; rfl
    rw [← e, termsL_at hl (by omega)]
    unfold finCB
    rw [hf k (by omega), fin_zero]; rfl
  have hst := trimN_stop (reC l) n
  unfold polyB
  rw [hall, hlen]
  rcases hst with h | h
  · have : trimN (reC l) n = 1 := by omega
    rw [this]; rfl
  · rw [reC_at (by omega)] at h
    rw [termsL_at hl (by omega), h]
    simp; omega
end Go.Proofs.Ytlpibibpckkjhaa
namespace Go.Proofs.Ytlpibibpckkjhaa
open Go.RowKit

/-- A word there is, of a value near v. -/
def VO (o : Option Nat) (v e : Rat) : Prop := ∃ x a, o = some x ∧ NV .f32 x a ∧ Nr a v e
theorem VO.add {a b : Option Nat} {u v e f : Rat} (h : VO a u e) (k : VO b v f) (hu : -60 ≤ u + v ∧ u + v ≤ 60) (he : e ≤ 1) (hf : f ≤ 1) : VO (opO .add a b) (u + v) (e + f + 1 / 262144) := by
  obtain ⟨x, p, rfl, n1, r1⟩ := h
  obtain ⟨y, q, rfl, n2, r2⟩ := k
  unfold Nr at r1 r2
  obtain ⟨r, c, g, n3, r3⟩ := add32 n1 n2 (by grind) (by grind)
  unfold Nr at r3
  exact ⟨r, c, g, n3, by unfold Nr; grind⟩
theorem VO.sub {a b : Option Nat} {u v e f : Rat} (h : VO a u e) (k : VO b v f) (hu : -60 ≤ u - v ∧ u - v ≤ 60) (he : e ≤ 1) (hf : f ≤ 1) : VO (opO .sub a b) (u - v) (e + f + 1 / 262144) := by
  obtain ⟨x, p, rfl, n1, r1⟩ := h
  obtain ⟨y, q, rfl, n2, r2⟩ := k
  unfold Nr at r1 r2
  obtain ⟨r, c, g, n3, r3⟩ := sub32 n1 n2 (by grind) (by grind)
  unfold Nr at r3
  exact ⟨r, c, g, n3, by unfold Nr; grind⟩
theorem VO.cmul {c : Nat} {b : Option Nat} {γ v f : Rat} (h : NV .f32 c γ) (k : VO b v f) (hc : -2 ≤ γ ∧ γ ≤ 2) (hv : -20 ≤ v ∧ v ≤ 20) (hf : f ≤ 1) : VO (opO .mul (some c) b) (γ * v) (2 * f + 1 / 262144) := by
  obtain ⟨y, q, rfl, n2, r2⟩ := k
  unfold Nr at r2
  have m1 := Rat.mul_nonneg (show (0 : Rat) ≤ 2 - γ by grind) (show (0 : Rat) ≤ f - (q - v) by grind)
  have m2 := Rat.mul_nonneg (show (0 : Rat) ≤ 2 - γ by grind) (show (0 : Rat) ≤ f + (q - v) by grind)
  have m3 := Rat.mul_nonneg (show (0 : Rat) ≤ 2 + γ by grind) (show (0 : Rat) ≤ f - (q - v) by grind)
  have m4 := Rat.mul_nonneg (show (0 : Rat) ≤ 2 + γ by grind) (show (0 : Rat) ≤ f + (q - v) by grind)
  have b1 : γ * q ≤ γ * v + 2 * f ∧ γ * v ≤ γ * q + 2 * f := by constructor <;> grind
  have p1 := Rat.mul_nonneg (show (0 : Rat) ≤ 2 - γ by grind) (show (0 : Rat) ≤ 20 - v by grind)
  have p2 := Rat.mul_nonneg (show (0 : Rat) ≤ 2 - γ by grind) (show (0 : Rat) ≤ 20 + v by grind)
  have p3 := Rat.mul_nonneg (show (0 : Rat) ≤ 2 + γ by grind) (show (0 : Rat) ≤ 20 - v by grind)
  have p4 := Rat.mul_nonneg (show (0 : Rat) ≤ 2 + γ by grind) (show (0 : Rat) ≤ 20 + v by grind)
  have b2 : -40 ≤ γ * v ∧ γ * v ≤ 40 := by constructor <;> grind
  obtain ⟨r, c2, g, n3, r3⟩ := mul32 h n2 (by grind) (by grind)
  unfold Nr at r3
  exact ⟨r, c2, g, n3, by unfold Nr; grind⟩
theorem VO.cquo {c : Nat} {b : Option Nat} {δ v q f : Rat} (k : VO b v f) (h : NV .f32 c δ) (hc : 1 / 2 ≤ δ) (hq : q * δ = v) (hv : -20 ≤ q ∧ q ≤ 20) (hf : f ≤ 1) : VO (opO .quo b (some c)) q (2 * f + 1 / 60000) := by
  obtain ⟨y, p, rfl, n2, r2⟩ := k
  unfold Nr at r2
  obtain ⟨q2, hq2⟩ : ∃ q2, q2 = p / δ := ⟨_, rfl⟩
  have h2 : q2 * δ = p := by rw [hq2]; exact Rat.div_mul_cancel (by grind)
  have b1 : q2 ≤ q + 2 * f := by
    rcases (show q2 ≤ q + 2 * f ∨ 0 ≤ q2 - q - 2 * f by grind) with h3 | h3
    · exact h3
    · have m1 := Rat.mul_nonneg h3 (show (0 : Rat) ≤ δ - 1 / 2 by grind)
      have m2 := Rat.mul_nonneg (show (0 : Rat) ≤ f by grind) (show (0 : Rat) ≤ δ - 1 / 2 by grind)
      grind
  have b2 : q ≤ q2 + 2 * f := by
    rcases (show q ≤ q2 + 2 * f ∨ 0 ≤ q - q2 - 2 * f by grind) with h3 | h3
    · exact h3
    · have m1 := Rat.mul_nonneg h3 (show (0 : Rat) ≤ δ - 1 / 2 by grind)
      have m2 := Rat.mul_nonneg (show (0 : Rat) ≤ f by grind) (show (0 : Rat) ≤ δ - 1 / 2 by grind)
      grind
  obtain ⟨r, c2, g, n3, r3, r4⟩ := quo_ok .f32 7 (by decide) (by decide) n2 h (by grind) h2 (by rw [p7]; grind) (by rw [p7]; grind)
  rw [show (2 : Rat) ^ ((7 : Int) + 1 - digs .f32) = 1 / 65536 by decide +kernel] at r3 r4
  exact ⟨r, c2, g, n3, by unfold Nr; grind⟩
theorem vo_zero : VO (some 0) 0 0 := ⟨0, 0, rfl, nv_zero, by unfold Nr; grind⟩
theorem vo_fin {o : Option Nat} {v e : Rat} (h : VO o v e) : fin32B (o.getD 2143289344) = true ∧ Nr (V32 (o.getD 2143289344)) v e := by
  obtain ⟨x, a, rfl, n, r⟩ := h
  refine ⟨nv_fin n, ?_⟩
  rw [nv_val n] at r
  exact r
end Go.Proofs.Ytlpibibpckkjhaa
namespace Go.Proofs.Ytlpibibpckkjhaa
open Go.RowKit

theorem VO.like {o : Option Nat} {v e v' e' : Rat} (h : VO o v e) (hv : v = v') (he : e ≤ e') : VO o v' e' := by
  obtain ⟨x, a, rfl, n, r⟩ := h
  subst hv
  exact ⟨x, a, rfl, n, by unfold Nr at *; grind⟩
theorem nv_cn {x : Nat} {a : Rat} (h : NV .f32 x a) : cn x = some x := by
  obtain ⟨s, m, i, hr, -⟩ := h
  unfold cn
  rw [hr]
theorem VO.zmul {b : Option Nat} {v f : Rat} (k : VO b v f) : VO (opO .mul w0 b) 0 (1 / 262144) := by
  obtain ⟨y, q, rfl, n2, r2⟩ := k
  obtain ⟨r, c2, g, n3, r3⟩ := mul32 nv_zero n2 (by grind) (by grind)
  exact ⟨r, c2, g, n3, by unfold Nr at *; grind⟩
/-- Three numbers by three constants. -/
theorem three_vo {c0 c1 c2 : Nat} {γ0 γ1 γ2 η0 η1 η2 : Rat} {y0 y1 y2 : Nat} (h0 : NV .f32 c0 γ0) (h1 : NV .f32 c1 γ1) (h2 : NV .f32 c2 γ2) (k0 : NV .f32 y0 η0) (k1 : NV .f32 y1 η1) (k2 : NV .f32 y2 η2)
    (g0 : -1 ≤ γ0 ∧ γ0 ≤ 1) (g1 : -1 ≤ γ1 ∧ γ1 ≤ 1) (g2 : -1 ≤ γ2 ∧ γ2 ≤ 1) (b0 : -2 ≤ η0 ∧ η0 ≤ 2) (b1 : -2 ≤ η1 ∧ η1 ≤ 2) (b2 : -2 ≤ η2 ∧ η2 ≤ 2) :
    VO (opO .add (opO .add (opO .add w0 (opO .mul (some c0) (some y0))) (opO .mul (some c1) (some y1))) (opO .mul (some c2) (some y2))) (γ0 * η0 + γ1 * η1 + γ2 * η2) (6 / 262144) := by
  have v0 : VO (some y0) η0 0 := ⟨y0, η0, rfl, k0, by unfold Nr; grind⟩
  have v1 : VO (some y1) η1 0 := ⟨y1, η1, rfl, k1, by unfold Nr; grind⟩
  have v2 : VO (some y2) η2 0 := ⟨y2, η2, rfl, k2, by unfold Nr; grind⟩
  have m0 := VO.cmul h0 v0 (by grind) (by grind) (by grind)
  have m1 := VO.cmul h1 v1 (by grind) (by grind) (by grind)
  have m2 := VO.cmul h2 v2 (by grind) (by grind) (by grind)
  have a0 := small_mul (d := η0) (x := γ0) b0.1 b0.2 g0.1 g0.2
  have a1 := small_mul (d := η1) (x := γ1) b1.1 b1.2 g1.1 g1.2
  have a2 := small_mul (d := η2) (x := γ2) b2.1 b2.2 g2.1 g2.2
  have s1 := VO.add vo_zero m0 (by grind) (by grind) (by grind)
  have s2 := VO.add s1 m1 (by grind) (by grind) (by grind)
  have s3 := VO.add s2 m2 (by grind) (by grind) (by grind)
  exact s3.like (by grind) (by grind)
theorem nv_two : NV .f32 1073741824 2 := by
  have h := nv_of_fin (x := 1073741824) (by decide +kernel)
  rw [show V32 1073741824 = 2 by decide +kernel] at h
  exact h
theorem nv_three : NV .f32 1077936128 3 := by
  have h := nv_of_fin (x := 1077936128) (by decide +kernel)
  rw [show V32 1077936128 = 3 by decide +kernel] at h
  exact h
theorem fF_is : fF = some 1059760811 := by decide +kernel
theorem gG_is : gG = some 1059760810 := by decide +kernel
theorem nv_f : NV .f32 1059760811 (11184811 / 16777216) := by
  have h := nv_of_fin (x := 1059760811) (by decide +kernel)
  rw [show V32 1059760811 = 11184811 / 16777216 by decide +kernel] at h
  exact h
theorem nv_g : NV .f32 1059760810 (5592405 / 8388608) := by
  have h := nv_of_fin (x := 1059760810) (by decide +kernel)
  rw [show V32 1059760810 = 5592405 / 8388608 by decide +kernel] at h
  exact h
theorem div_ex (v d : Rat) (hd : d ≠ 0) : ∃ q, q * d = v := ⟨v / d, Rat.div_mul_cancel hd⟩
/-- The three terms, up to errors. -/
theorem terms3 {r0 r1 r2 : Option Nat} {ρ0 ρ1 ρ2 : Rat} (h0 : VO r0 ρ0 (6 / 262144)) (h1 : VO r1 ρ1 (6 / 262144)) (h2 : VO r2 ρ2 (6 / 262144)) (b0 : -6 ≤ ρ0 ∧ ρ0 ≤ 6) (b1 : -4 ≤ ρ1 ∧ ρ1 ≤ 4) (b2 : -4 ≤ ρ2 ∧ ρ2 ≤ 4) (bb : -4 ≤ 3 / 2 * ρ2 - ρ0 ∧ 3 / 2 * ρ2 - ρ0 ≤ 4) (bc : -2 ≤ ρ0 - ρ2 ∧ ρ0 - ρ2 ≤ 2) :
    VO (o2 r0 r1 r2) (3 / 2 * ρ2 - ρ0) (1 / 4000) ∧ VO (o1 r0 r1 r2) (ρ1 / 2) (1 / 4000) ∧ VO (o0 r0 r1 r2) (ρ0 - ρ2) (1 / 800) := by
  have z1 := VO.zmul h0
  have e1 : VO (b13 r0 r1) ρ1 (8 / 262144) := (VO.sub h1 z1 (by grind) (by grind) (by grind)).like (by grind) (by grind)
  have z2 := VO.cmul nv_f h0 (by grind) (by grind) (by grind)
  have s2 := VO.sub h2 z2 (by grind) (by grind) (by grind)
  have z3 := VO.zmul e1
  have e2 : VO (c23 r0 r1 r2) (ρ2 - 11184811 / 16777216 * ρ0) (22 / 262144) := by
    unfold c23
    rw [fF_is]
    exact (VO.sub s2 z3 (by grind) (by grind) (by grind)).like (by grind) (by grind)
  obtain ⟨q, hq⟩ := div_ex (ρ2 - 11184811 / 16777216 * ρ0) (5592405 / 8388608) (by decide +kernel)
  have e3 : VO (o2 r0 r1 r2) q (44 / 262144 + 1 / 60000) := by
    unfold o2
    rw [gG_is]
    exact (VO.cquo e2 nv_g (by grind) hq (by grind) (by grind)).like rfl (by grind)
  have hqn : Nr q (3 / 2 * ρ2 - ρ0) (1 / 100000) := by unfold Nr; grind
  have f3 : VO (o2 r0 r1 r2) (3 / 2 * ρ2 - ρ0) (1 / 4000) := by
    obtain ⟨x, a, e, n, r⟩ := e3
    exact ⟨x, a, e, n, by unfold Nr at *; grind⟩
  have z4 := VO.zmul f3
  obtain ⟨q1, hq1⟩ := div_ex ρ1 2 (by decide +kernel)
  have e4 : VO (o1 r0 r1 r2) (ρ1 / 2) (1 / 4000) := by
    have s4 := (VO.sub e1 z4 (by grind) (by grind) (by grind)).like (v' := ρ1) (e' := 10 / 262144) (by grind) (by grind)
    exact (VO.cquo s4 nv_two (by grind) hq1 (by grind) (by grind)).like (by grind) (by grind)
  have z5 := VO.zmul e4
  have z6 := VO.cmul nv_two f3 (by grind) (by grind) (by grind)
  have s5 := VO.sub h0 z5 (by grind) (by grind) (by grind)
  have s6 := VO.sub s5 z6 (by grind) (by grind) (by grind)
  have e5 : VO (o0 r0 r1 r2) (ρ0 - ρ2) (1 / 800) := (VO.cquo s6 nv_three (by grind) (show (ρ0 - ρ2) * 3 = _ by grind) (by grind) (by grind)).like rfl (by grind)
  exact ⟨f3, e4, e5⟩
end Go.Proofs.Ytlpibibpckkjhaa
namespace Go.Proofs.Ytlpibibpckkjhaa
open Go.RowKit

/-- What the law asks of a fit. -/
def GoodF (n : Nat) (ys : List Nat) (l : List (Nat × Nat)) : Prop :=
  1 ≤ l.length ∧ l.length ≤ 3 ∧ polyB l = true ∧ Trms l (reV l) (imV l) 5 ∧ ∀ k, k < n → Nr (polS (reV l) (V32 (xsN k)) l.length) (V32 (ys.getD k 0)) (1 / 100)
theorem polyB_fin {l : List (Nat × Nat)} (h : polyB l = true) {k : Nat} (hk : k < l.length) : fin32B (l.getD k (0, 0)).1 = true ∧ fin32B (l.getD k (0, 0)).2 = true := by
  unfold polyB at h
  simp only [Bool.and_eq_true, decide_eq_true_eq] at h
  obtain ⟨⟨-, h3⟩, -⟩ := h
  have hm := List.all_eq_true.1 h3 (l.getD k (0, 0)) (by rw [List.getD, List.getElem?_eq_getElem hk]; exact List.getElem_mem _)
  unfold finCB at hm
  simpa only [Bool.and_eq_true] using hm
theorem goodF_of {n : Nat} {ys : List Nat} {l : List (Nat × Nat)} (h : goodFit n ys l = true) : GoodF n ys l := by
  unfold goodFit at h
  simp only [Bool.and_eq_true, decide_eq_true_eq] at h
  obtain ⟨⟨⟨⟨h1, h2⟩, h3⟩, h4⟩, h5⟩ := h
  refine ⟨h1, h2, h3, fun k hk => ?_, fun k hk => ?_⟩
  · have a := List.all_eq_true.1 h4 k (List.mem_range.2 hk)
    simp only [Bool.and_eq_true, decide_eq_true_eq] at a
    obtain ⟨f1, f2⟩ := polyB_fin h3 hk
    exact ⟨nv_of_fin f1, nv_of_fin f2, ⟨a.1.1.1, a.1.1.2⟩, ⟨a.1.2, a.2⟩⟩
  · have a := List.all_eq_true.1 h5 k (List.mem_range.2 hk)
    simp only [Bool.and_eq_true, decide_eq_true_eq] at a
    exact ⟨a.1, a.2⟩
def qwB (x : Nat) : Bool := fin32B (qw x) && decide (-2 ≤ V32 (qw x)) && decide (V32 (qw x) ≤ 2) && (floatBits .quo .f32 (floatOfInt .f32 ((x : Int) - 8)) 1082130432 == some (qw x))
theorem qw_tab : (List.range 17).all qwB = true := by decide +kernel
theorem qw_ok (x : Nat) (h : x < 17) : floatBits .quo .f32 (floatOfInt .f32 ((x : Int) - 8)) 1082130432 = some (qw x) ∧ fin32B (qw x) = true ∧ (-2 ≤ V32 (qw x) ∧ V32 (qw x) ≤ 2) := by
  have a := List.all_eq_true.1 qw_tab x (List.mem_range.2 h)
  unfold qwB at a
  simp only [Bool.and_eq_true, decide_eq_true_eq, beq_iff_eq] at a
  exact ⟨a.2, a.1.1.1, a.1.1.2, a.1.2⟩
theorem fitB_some {n : Nat} {ys : List Nat} (h : fitB n ys = true) : ∃ l, fitAns ((List.range n).map xsN) ys (onesN n) ((n : Int) - 1) = some l ∧ GoodF n ys l := by
  unfold fitB at h
  cases hA : fitAns ((List.range n).map xsN) ys (onesN n) ((n : Int) - 1) with
  | none => rw [hA] at h; cases h
  | some l => rw [hA] at h; exact ⟨l, rfl, goodF_of h⟩
theorem fitG1 (a : Nat) (ha : a < 17) : ∃ l, fitAns ((List.range 1).map xsN) [qw a] (onesN 1) ((1 : Nat) - 1 : Int) = some l ∧ GoodF 1 [qw a] l :=
  fitB_some (n := 1) (List.all_eq_true.1 fit1 a (List.mem_range.2 ha))
theorem fitG2 (a b : Nat) (ha : a < 17) (hb : b < 17) : ∃ l, fitAns ((List.range 2).map xsN) [qw a, qw b] (onesN 2) ((2 : Nat) - 1 : Int) = some l ∧ GoodF 2 [qw a, qw b] l :=
  fitB_some (n := 2) (List.all_eq_true.1 (List.all_eq_true.1 fit2 a (List.mem_range.2 ha)) b (List.mem_range.2 hb))
/-- The sums of the values by powers. -/
theorem rr_is (ys : List Nat) (i c0 c1 c2 : Nat) (h0 : opO .mul (W3 0) (powO (X3 0) i) = some c0) (h1 : opO .mul (W3 1) (powO (X3 1) i) = some c1) (h2 : opO .mul (W3 2) (powO (X3 2) i) = some c2) :
    rr ys i = opO .add (opO .add (opO .add w0 (opO .mul (some c0) (cn (ys.getD 0 0)))) (opO .mul (some c1) (cn (ys.getD 1 0)))) (opO .mul (some c2) (cn (ys.getD 2 0))) := by
  unfold rr
  rw [rhsO, rhsO, rhsO, rhsO, h0, h1, h2]
theorem v32_p1 : V32 1065353216 = 1 := (nv_val nv_one).symm
theorem xs_val : V32 (xsN 0) = -1 ∧ V32 (xsN 1) = 0 ∧ V32 (xsN 2) = 1 := ⟨(nv_val nv_mone).symm, v32_zero, v32_p1⟩
theorem polS3 (f : Nat → Rat) (x : Rat) : polS f x 3 = f 0 + f 1 * x + f 2 * (x * x) := by
  have e3 : polS f x 3 = polS f x 2 + f 2 * pwx x 2 := rfl
  have e2 : polS f x 2 = polS f x 1 + f 1 * pwx x 1 := rfl
  have e1 : polS f x 1 = polS f x 0 + f 0 * pwx x 0 := rfl
  have e0 : polS f x 0 = 0 := rfl
  have p0 : pwx x 0 = 1 := rfl
  have p1 : pwx x 1 = pwx x 0 * x := rfl
  have p2 : pwx x 2 = pwx x 1 * x := rfl
  rw [e3, e2, e1, e0, p2, p1, p0]
  grind
theorem ans3 {ys : List Nat} (hl : ys.length = 3) (hf : ys.all fin32B = true) {B : Mx} (hB : gaussO 3 (fitM [3212836864, 0, 1065353216] ys [1065353216, 1065353216, 1065353216] 3) 3 = some B) (hp : polyB (termsL (solL (solO B 3 3) 3) 3) = true) :
    fitAns ((List.range 3).map xsN) ys (onesN 3) ((3 : Nat) - 1 : Int) = some (termsL (solL (solO B 3 3) 3) 3) := by
  have e1 : (List.range 3).map xsN = [3212836864, 0, 1065353216] := by decide
  have e2 : onesN 3 = [1065353216, 1065353216, 1065353216] := rfl
  have e3 : (((3 : Nat) : Int) - 1).toNat + 1 = 3 := rfl
  rw [e1, e2]
  unfold fitAns
  rw [e3, hB, decide_eq_true ⟨⟨by simp, by simp, hl, rfl, by decide +kernel, hf, by decide, by decide⟩, by decide +kernel⟩]
  show (if polyB (termsL (solL (solO B 3 3) 3) 3) = true then _ else _) = _
  rw [if_pos hp]
theorem fitG3 (a b c : Nat) (ha : a < 17) (hb : b < 17) (hc : c < 17) : ∃ l, fitAns ((List.range 3).map xsN) [qw a, qw b, qw c] (onesN 3) ((3 : Nat) - 1 : Int) = some l ∧ GoodF 3 [qw a, qw b, qw c] l := by
  obtain ⟨-, fa, ba⟩ := qw_ok a ha
  obtain ⟨-, fb, bb⟩ := qw_ok b hb
  obtain ⟨-, fc, bc⟩ := qw_ok c hc
  have na := nv_of_fin fa
  have nb := nv_of_fin fb
  have nc := nv_of_fin fc
  have hall : [qw a, qw b, qw c].all fin32B = true := by simp [fa, fb, fc]
  have r0 := rr_is [qw a, qw b, qw c] 0 1065353216 1065353216 1065353216 (by decide +kernel) (by decide +kernel) (by decide +kernel)
  have r1 := rr_is [qw a, qw b, qw c] 1 3212836864 0 1065353216 (by decide +kernel) (by decide +kernel) (by decide +kernel)
  have r2 := rr_is [qw a, qw b, qw c] 2 1065353216 0 1065353216 (by decide +kernel) (by decide +kernel) (by decide +kernel)
  obtain ⟨B, hB, s0, s1, s2⟩ := gauss3 (fit_mat [qw a, qw b, qw c])
  generalize hys : [qw a, qw b, qw c] = ys at *
  have y0 : ys.getD 0 0 = qw a := by rw [← hys]; rfl
  have y1 : ys.getD 1 0 = qw b := by rw [← hys]; rfl
  have y2 : ys.getD 2 0 = qw c := by rw [← hys]; rfl
  have hlen : ys.length = 3 := by rw [← hys]; rfl
  clear hys
  rw [y0, y1, y2, nv_cn na, nv_cn nb, nv_cn nc] at r0 r1 r2
  have t0 := three_vo nv_one nv_one nv_one na nb nc (by grind) (by grind) (by grind) ba bb bc
  have t1 := three_vo nv_mone nv_zero nv_one na nb nc (by grind) (by grind) (by grind) ba bb bc
  have t2 := three_vo nv_one nv_zero nv_one na nb nc (by grind) (by grind) (by grind) ba bb bc
  rw [← r0] at t0
  rw [← r1] at t1
  rw [← r2] at t2
  have hm : ∀ i, i < 3 → (solL (solO B 3 3) 3).getD i 0 = (solO B 3 3 i).getD 2143289344 := fun i hi => solL_at hi
  generalize rr ys 0 = p0 at *
  generalize rr ys 1 = p1 at *
  generalize rr ys 2 = p2 at *
  clear r0 r1 r2
  generalize hA : V32 (qw a) = α at *
  generalize hBt : V32 (qw b) = β at *
  generalize hC : V32 (qw c) = γ at *
  obtain ⟨g2, g1, g0⟩ := terms3 t0 t1 t2 (by grind) (by grind) (by grind) (by grind) (by grind)
  rw [← s0] at g0
  rw [← s1] at g1
  rw [← s2] at g2
  obtain ⟨f0, v0⟩ := vo_fin g0
  obtain ⟨f1, v1⟩ := vo_fin g1
  obtain ⟨f2, v2⟩ := vo_fin g2
  rw [← hm 0 (by omega)] at f0 v0
  rw [← hm 1 (by omega)] at f1 v1
  rw [← hm 2 (by omega)] at f2 v2
  have hsl := solL_len (solO B 3 3) 3
  have hfin : ∀ k, k < 3 → fin32B ((solL (solO B 3 3) 3).getD k 0) = true := fun k hk => by
    obtain rfl | rfl | rfl : k = 0 ∨ k = 1 ∨ k = 2 := by omega
    · exact f0
    · exact f1
    · exact f2
  have hpol := terms_valid hsl (by omega) (by omega) hfin
  have hans := ans3 hlen hall hB hpol
  refine ⟨_, hans, ?_⟩
  have hle := trimN_le (reC (solL (solO B 3 3) 3)) 3
  have hpos := trimN_pos (reC (solL (solO B 3 3) 3)) 3 (by omega)
  have hll := terms_len _ 3 hsl
  have hV := fun x => terms_pol hsl hfin x
  have hat := fun k hk => termsL_at (k := k) hsl hk
  unfold Nr at v0 v1 v2
  generalize solL (solO B 3 3) 3 = L at *
  have hbd : ∀ k, k < 3 → -5 ≤ V32 (L.getD k 0) ∧ V32 (L.getD k 0) ≤ 5 := fun k hk => by
    obtain rfl | rfl | rfl : k = 0 ∨ k = 1 ∨ k = 2 := by omega
    · grind
    · grind
    · grind
  refine ⟨by omega, by omega, hpol, fun k hk => ?_, fun k hk => ?_⟩
  · obtain ⟨q1, q2⟩ := polyB_fin hpol hk
    refine ⟨nv_of_fin q1, nv_of_fin q2, ?_, ?_⟩
    · unfold reV; rw [hat k (by omega)]; exact hbd k (by omega)
    · unfold imV; rw [hat k (by omega), v32_zero]; grind
  · rw [hV, polS3]
    unfold Nr
    obtain ⟨x0, x1, x2⟩ := xs_val
    obtain rfl | rfl | rfl : k = 0 ∨ k = 1 ∨ k = 2 := by omega
    · rw [x0, y0, hA]; grind
    · rw [x1, y1, hBt]; grind
    · rw [x2, y2, hC]; grind
end Go.Proofs.Ytlpibibpckkjhaa
