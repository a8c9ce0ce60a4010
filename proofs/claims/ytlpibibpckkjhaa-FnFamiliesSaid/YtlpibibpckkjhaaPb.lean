/-
  Plain laws: 32-bit numbers up to the bits of those that are no numbers; what a float operation gives, whatever its operands.
  Plain laws: comparisons of 32-bit numbers up to what is no number; a number without its sign.
  Plain laws: the fit of least squares as float steps, up to what is no number: sums of powers, elimination, the way back.
  Words on memory: a matrix of 32-bit numbers as a slice of slices, each row in a block of its own; a list of such numbers.
  Contracts: powers (impl.powerOf, spec.l06Powers) and numbers without their sign (impl.magnitude, spec.l06Size), whatever the numbers.
  Contract: the reference's solving of equations (spec.l06Solve), whatever the numbers.
  Contracts: whether a weight is below 0 (impl.FitPoly's closure, slices.ContainsFunc), whether it is finite and not below 0 (spec.l02Least).
  Words on memory: a matrix whose rows are appended one by one.
  Contract: the reference's fit (spec.FitPoly), whatever the numbers.
  Contract: the reference's fit (spec.FitPoly) of lists as they have to be, whatever the numbers.
  Contract: the program's fit (impl.FitPoly) of lists that are not as they have to be.
  The polynomial that rises as another one says, by values (impl.RisePoly).
  The mass of a polynomial by its rise, by values (impl.ExactMass).
  The exact mass by values (impl.ExactMass).
  The moments of the nodes against their weights (plain).
  The mass by nodes and weights (impl.MassOf), by values.
  The mass by nodes and weights (impl.MassOf): the walk.
  A family's polynomial at a number (impl.isKind, impl.FamilyAt): kind 2 at the nodes.
  Contracts: a source of numbers drawn of bytes (spec.l00From, next, pick, one), and the small functions of the laws (r8Long, r8At).
  Contracts: polynomials drawn of a source (l02DrawSmall, l02DrawTerms): they are valid, of small values.
  A polynomial drawn of bytes (spec.R8Poly).
  Plain laws: what a fit answers, as a list of terms or none; the reference's fit gives it.
  Contract: the program's fit (impl.FitPoly) of lists as they have to be, whatever the numbers.
  Contract: the program's fit, as a list of terms or none.
  Plain: fits of as few numbers as can be: degree 0 and 1 by all their cases; the fit that is a mean.
  Plain: the fit of degree 2 at -1, 0, 1 as a chain of steps.
  Plain: the matrix of the fit of degree 2 at -1, 0, 1.
  Plain: the trimmed terms of a list of numbers have the values of all.
  Plain: the trimmed terms of finite numbers: a valid polynomial with the values of all.
  Plain: steps up to errors, as Options; the fit of degree 2 by values.
  Plain: the fit of degree 2 at -1, 0, 1 passes its values, nearly.
  Plain: the fits of degree 0, 1 and 2 at -1, 0, 1 pass their values, nearly.
  Values of 64-bit words; a number's opposite; comparisons by values; one node of the law FnMasses.
  The fits of the law FnMasses: they are found, and their values are near enough.
-/
import Derived.Test.YtlpibibpckkjhaaPa
import Derived.Deep.RegionHeld
import Derived.BigRegion
import Derived.Laws.Bits64b
import Derived.Deep.RegionHeld3
namespace Go.Proofs.Ytlpibibpckkjhaa
open Go.RowKit
theorem neg32 (x : Nat) (w : World) : (Op.unary .neg (.float .f32 x)).run Try.prog w = .ok (.float .f32 (Op.negFloat .f32 x)) w := rfl
end Go.Proofs.Ytlpibibpckkjhaa
namespace Go.Proofs.Ytlpibibpckkjhaa
open Go.RowKit
theorem infoS : (Try.prog.info? 26).map (fun i => (i.zero, i.size, i.bytes)) = some (some (.slice none 0 0), 1, 24) := by kernel_rfl
end Go.Proofs.Ytlpibibpckkjhaa
namespace Go.Proofs.Ytlpibibpckkjhaa
open Go.RowKit
theorem flt_atN {w : World} {B n : Nat} {A : Option Addr} {l : List Nat} {k : Nat} (h : Reads w B 1 A n (flts l)) (hl : l.length = n) (hk : k < n) :
    ∃ ad, A = some ad ∧ ad.block < B ∧ w.cell? (ad.add k) = some (.float .f32 (l.getD k 0)) := by
  subst hl; exact flt_at h hk
end Go.Proofs.Ytlpibibpckkjhaa
namespace Go.Proofs.Ytlpibibpckkjhaa
open Go.RowKit
/-- The number that a 32-bit word says. -/
def V32 (x : Nat) : Rat := dv (FloatKind.f32.format.read x)
theorem nv_of_fin {x : Nat} (h : fin32B x = true) : NV .f32 x (V32 x) := by
  obtain ⟨s, m, i, hr, -⟩ := fin_number h
  refine ⟨s, m, i, hr, ?_⟩
  unfold V32
  rw [hr]
  rfl
end Go.Proofs.Ytlpibibpckkjhaa
namespace Go.Proofs.Ytlpibibpckkjhaa
open Go.RowKit
def pwx (x : Rat) : Nat → Rat
  | 0 => 1
  | k + 1 => pwx x k * x
/-- The value of a polynomial, from the bottom up. -/
def polS (f : Nat → Rat) (x : Rat) : Nat → Rat
  | 0 => 0
  | k + 1 => polS f x k + f k * pwx x k
theorem hor_polS (f : Nat → Rat) (x : Rat) (n : Nat) : ∀ j, j < n → hor f x n j * pwx x (n - 1 - j) + polS f x (n - 1 - j) = polS f x n
  | 0, hj => by
    obtain ⟨m, rfl⟩ : ∃ m, n = m + 1 := ⟨n - 1, by omega⟩
    rw [show m + 1 - 1 - 0 = m by omega]
    unfold hor
    rw [show m + 1 - 1 = m by omega]
    show _ = polS f x m + f m * pwx x m
    grind
  | j + 1, hj => by
    have ih := hor_polS f x n j (by omega)
    obtain ⟨i, hi⟩ : ∃ i, n - 1 - j = i + 1 := ⟨n - 2 - j, by omega⟩
    rw [hi] at ih
    rw [show n - 1 - (j + 1) = i by omega]
    have e1 : pwx x (i + 1) = pwx x i * x := rfl
    have e2 : polS f x (i + 1) = polS f x i + f i * pwx x i := rfl
    rw [e1, e2] at ih
    have e3 : hor f x n (j + 1) = hor f x n j * x + f (n - 2 - j) := rfl
    rw [e3, show n - 2 - j = i by omega]
    grind
theorem hor_all (f : Nat → Rat) (x : Rat) (n : Nat) (hn : 1 ≤ n) : hor f x n (n - 1) = polS f x n := by
  have h := hor_polS f x n (n - 1) (by omega)
  rw [show n - 1 - (n - 1) = 0 by omega] at h
  have e1 : pwx x 0 = 1 := rfl
  have e2 : polS f x 0 = 0 := rfl
  rw [e1, e2] at h
  grind
end Go.Proofs.Ytlpibibpckkjhaa
namespace Go.Proofs.Ytlpibibpckkjhaa
open Go.RowKit
theorem nv_one : NV .f32 1065353216 1 := by
  have h := nv_of_fin (x := 1065353216) (by decide +kernel)
  rw [show V32 1065353216 = 1 by decide +kernel] at h
  exact h
theorem nv_mone : NV .f32 3212836864 (-1) := by
  have h := nv_of_fin (x := 3212836864) (by decide +kernel)
  rw [show V32 3212836864 = -1 by decide +kernel] at h
  exact h
end Go.Proofs.Ytlpibibpckkjhaa
namespace Go.Proofs.Ytlpibibpckkjhaa
open Go.RowKit
theorem add0 (g k : Nat) : (⟨g, 0, none⟩ : Addr).add k = ⟨g, k, none⟩ := by unfold Addr.add; split <;> simp_all
end Go.Proofs.Ytlpibibpckkjhaa
namespace Go.Proofs.Ytlpibibpckkjhaa
open Go.RowKit
theorem within_all (n a b : Int) (w : World) :
    Calls Try.prog 56 #[.int .i64 n, .int .i64 a, .int .i64 b] w fun e w' => e = .returned (.bool (decide (a ≤ n) && decide (n ≤ b))) ∧ w' = w := by
  by_cases h1 : a ≤ n <;> by_cases h2 : n ≤ b
  all_goals
    go_enter Try.func56, Try.ntmps56
    go_wp2
    go_ret
    refine ⟨?_, rfl⟩
    simp [h1, h2]
    try omega
theorem isKind_yes (k n : Nat) (hk : k ≤ 4) (hn : n ≤ 16) (w : World) :
    Calls Try.prog 42 #[.int .i64 (k : Int), .int .i64 (n : Int)] w fun e w' => e = .returned (.bool true) ∧ w' = w := by
  have H1 := within_all (k : Int) 0 4
  have H2 := within_all (n : Int) 0 16
  have e1 : (decide ((0 : Int) ≤ (k : Int)) && decide ((k : Int) ≤ 4)) = true := by simp; omega
  have e2 : (decide ((0 : Int) ≤ (n : Int)) && decide ((n : Int) ≤ 16)) = true := by simp; omega
  rw [e1] at H1
  rw [e2] at H2
  clear e1 e2
  go_enter Try.func42, Try.ntmps42
  go_wp2_with fail
  refine (H1 _).mono ?_
  rintro e w1 ⟨rfl, rfl⟩
  go_wp2_with fail
  refine (H2 _).mono ?_
  rintro e w1 ⟨rfl, rfl⟩
  go_wp2
  go_ret
  exact ⟨rfl, rfl⟩
end Go.Proofs.Ytlpibibpckkjhaa
namespace Go.Proofs.Ytlpibibpckkjhaa
open Go.RowKit
/-- Bytes as values in memory. -/
def byts (zs : List Int) : List Value := zs.map (Value.int .u8)
@[simp] theorem byts_len (zs : List Int) : (byts zs).length = zs.length := by simp [byts]
theorem byts_at {zs : List Int} {k : Nat} (h : k < zs.length) : (byts zs)[k]? = some (.int .u8 (zs.getD k 0)) := by
  simp [byts, List.getD, List.getElem?_eq_getElem h]
theorem byt_at {w : World} {B : Nat} {A : Option Addr} {zs : List Int} {k : Nat} (h : Reads w B 1 A zs.length (byts zs)) (hk : k < zs.length) :
    ∃ ad, A = some ad ∧ ad.block < B ∧ w.cell? (ad.add k) = some (.int .u8 (zs.getD k 0)) := by
  obtain ⟨ad, u, e, hb, hu, hc⟩ := h.at_ hk
  rw [byts_at hk] at hu
  cases hu
  exact ⟨ad, e, hb, hc⟩
def Byt (zs : List Int) : Prop := ∀ z ∈ zs, 0 ≤ z ∧ z ≤ 255
theorem Byt.at_ {zs : List Int} (h : Byt zs) {k : Nat} (hk : k < zs.length) : 0 ≤ zs.getD k 0 ∧ zs.getD k 0 ≤ 255 := by
  rw [List.getD, List.getElem?_eq_getElem hk]
  exact h _ (List.getElem_mem hk)
theorem r8Long_any (A A' : Option Addr) (c c' n n' : Nat) (w : World) :
    Calls Try.prog 6 #[.slice A n c, .slice A' n' c'] w fun e w' => e = .returned (.bool (decide (48 < n) || decide (48 < n'))) ∧ w = w' := by
  by_cases h1 : 48 < n <;> by_cases h2 : 48 < n'
  all_goals
    go_enter Try.func6, Try.ntmps6
    go_wp2
    go_ret
    refine ⟨?_, rfl⟩
    simp [h1, h2]
    try omega
theorem nat_of {x n : Int} {w w' : World} (h0 : 0 ≤ x) (h1 : x < n) (hw : w = w') : ∃ y : Nat, Ending.returned (.int .i64 x) = .returned (.int .i64 y) ∧ (y : Int) < n ∧ w = w' := by
  obtain ⟨y, rfl⟩ := Int.eq_ofNat_of_zero_le h0
  exact ⟨y, rfl, h1, hw⟩
theorem r8At_any (A : Option Addr) (c B : Nat) (zs : List Int) (i n : Int) (hi : 0 ≤ i ∧ i ≤ 47) (hn : 1 < n ∧ n ≤ 256) (hz : Byt zs) (w : World) (hr : Reads w B 1 A zs.length (byts zs)) :
    Calls Try.prog 7 #[.slice A zs.length c, .int .i64 i, .int .i64 n] w fun e w' => ∃ x : Nat, e = .returned (.int .i64 x) ∧ (x : Int) < n ∧ w = w' := by
  obtain ⟨k, rfl⟩ := Int.eq_ofNat_of_zero_le hi.1
  have hn0 : ¬ n = 0 := by omega
  by_cases h : k < zs.length
  · obtain ⟨ad, rfl, hab, hc1⟩ := byt_at hr h
    have hb := hz.at_ h
    clear hr
    generalize zs.getD k 0 = x at *
    go_enter Try.func7, Try.ntmps7
    go_wp2
    go_ret
    exact nat_of (Int.emod_nonneg _ (by omega)) (Int.emod_lt_of_pos _ (by omega)) rfl
  · go_enter Try.func7, Try.ntmps7
    go_wp2
    go_ret
    exact ⟨0, rfl, by omega, rfl⟩
end Go.Proofs.Ytlpibibpckkjhaa
namespace Go.Proofs.Ytlpibibpckkjhaa
open Go.RowKit
/-- A whole number as a 32-bit number, by another one. -/
def qt (n : Int) (d : Nat) : Nat := (floatBits .quo .f32 (floatOfInt .f32 n) d).getD 0
theorem v32_zero : V32 0 = 0 := by decide +kernel
end Go.Proofs.Ytlpibibpckkjhaa
namespace Go.Proofs.Ytlpibibpckkjhaa
open Go.RowKit
theorem reC_at {l : List Nat} {i : Nat} (h : i < l.length) : (reC l).getD i (0, 0) = (l.getD i 0, 0) := by
  simp [reC, List.getD, List.getElem?_eq_getElem h]
end Go.Proofs.Ytlpibibpckkjhaa
namespace Go.Proofs.Ytlpibibpckkjhaa
open Go.RowKit
/-- A quarter as a word. -/
def qw (x : Nat) : Nat := qt ((x : Int) - 8) 1082130432
end Go.Proofs.Ytlpibibpckkjhaa
namespace Go.Proofs.Ytlpibibpckkjhaa
open Go.RowKit
theorem trimN_stop (l : List (Nat × Nat)) : ∀ n, trimN l n ≤ 1 ∨ zeroC (l.getD (trimN l n - 1) (0, 0)) = false
  | 0 => .inl (by simp [trimN])
  | n + 1 => by
    rw [trimN]
    by_cases h : (decide (1 ≤ n) && zeroC (l.getD n (0, 0))) = true
    · rw [if_pos h]; exact trimN_stop l n
    · rw [if_neg h]
      by_cases h1 : 1 ≤ n
      · right
        rw [Nat.add_sub_cancel]
        simpa [h1] using h
      · left; omega
theorem trimN_zero (l : List (Nat × Nat)) : ∀ n k, trimN l n ≤ k → k < n → zeroC (l.getD k (0, 0)) = true
  | 0, k, _, hk => absurd hk (Nat.not_lt_zero _)
  | n + 1, k, h1, hk => by
    rw [trimN] at h1
    by_cases h : (decide (1 ≤ n) && zeroC (l.getD n (0, 0))) = true
    · rw [if_pos h] at h1
      rcases Nat.lt_or_ge k n with h2 | h2
      · exact trimN_zero l n k h1 h2
      · obtain rfl : k = n := by omega
        rw [Bool.and_eq_true] at h
        exact h.2
    · rw [if_neg h] at h1; omega
end Go.Proofs.Ytlpibibpckkjhaa
namespace Go.Proofs.Ytlpibibpckkjhaa
open Go.RowKit
theorem div_ex (v d : Rat) (hd : d ≠ 0) : ∃ q, q * d = v := ⟨v / d, Rat.div_mul_cancel hd⟩
end Go.Proofs.Ytlpibibpckkjhaa
namespace Go.Proofs.Ytlpibibpckkjhaa
open Go.RowKit
def qwB (x : Nat) : Bool := fin32B (qw x) && decide (-2 ≤ V32 (qw x)) && decide (V32 (qw x) ≤ 2) && (floatBits .quo .f32 (floatOfInt .f32 ((x : Int) - 8)) 1082130432 == some (qw x))
theorem qw_tab : (List.range 17).all qwB = true := by decide +kernel
theorem qw_ok (x : Nat) (h : x < 17) : floatBits .quo .f32 (floatOfInt .f32 ((x : Int) - 8)) 1082130432 = some (qw x) ∧ fin32B (qw x) = true ∧ (-2 ≤ V32 (qw x) ∧ V32 (qw x) ≤ 2) := by
  have a := List.all_eq_true.1 qw_tab x (List.mem_range.2 h)
  unfold qwB at a
  simp only [Bool.and_eq_true, decide_eq_true_eq, beq_iff_eq] at a
  exact ⟨a.2, a.1.1.1, a.1.1.2, a.1.2⟩
end Go.Proofs.Ytlpibibpckkjhaa
namespace Go.Proofs.Ytlpibibpckkjhaa
open Go.RowKit
def V64 (x : Nat) : Rat := dv (FloatKind.f64.format.read x)
def num64 (x : Nat) : Bool := match FloatKind.f64.format.read x with
  | .number _ _ _ => true
  | _ => false
theorem nv64_of {x : Nat} (h : num64 x = true) : NV .f64 x (V64 x) := by
  unfold num64 at h
  cases e : FloatKind.f64.format.read x with
  | number s m i => exact ⟨s, m, i, e, by unfold V64; rw [e]; rfl⟩
  | infinity s => rw [e] at h; cases h
  | nan s t => rw [e] at h; cases h
theorem nv64_is {x : Nat} {a : Rat} (h : num64 x = true) (hv : V64 x = a) : NV .f64 x a := hv ▸ nv64_of h
theorem nv_001 : NV .f64 4562254508917369340 (1152921504606847 / 1152921504606846976) := nv64_is (by decide +kernel) (by decide +kernel)
theorem nv_01 : NV .f64 4576918229304087675 (5764607523034235 / 576460752303423488) := nv64_is (by decide +kernel) (by decide +kernel)
theorem nv_05 : NV .f64 4587366580439587226 (3602879701896397 / 72057594037927936) := nv64_is (by decide +kernel) (by decide +kernel)
theorem nv64_one : NV .f64 4607182418800017408 1 := nv64_is (by decide +kernel) (by decide +kernel)
theorem nv64_zero : NV .f64 0 0 := nv64_is (by decide +kernel) (by decide +kernel)
/-- The opposite of a number. -/
theorem neg_val {k : FloatKind} {x : Nat} {a : Rat} (h : NV k x a) : NV k (Op.negFloat k x) (-a) := by
  obtain ⟨s, m, i, e, rfl⟩ := h
  have hS : k.format.signWeight = 2 ^ (k.format.exponentBits + k.format.fractionBits) := rfl
  have e1 : Op.negFloat k x % k.format.signWeight = x % k.format.signWeight := by
    unfold Op.negFloat
    rw [hS, Nat.xor_mod_two_pow, Nat.mod_self, Nat.xor_zero]
  have e2 : (Op.negFloat k x / k.format.signWeight % 2 == 1) = !(x / k.format.signWeight % 2 == 1) := by
    unfold Op.negFloat
    rw [hS, Nat.xor_div_two_pow, Nat.div_self (Nat.two_pow_pos _)]
    generalize x / 2 ^ (k.format.exponentBits + k.format.fractionBits) = q
    have h1 : (q ^^^ 1) % 2 = q % 2 ^^^ 1 := by
      have := Nat.xor_mod_two_pow (a := q) (b := 1) (n := 1)
      simpa using this
    rw [h1]
    rcases Nat.mod_two_eq_zero_or_one q with h2 | h2 <;> rw [h2] <;> decide
  have e3 : k.format.read (Op.negFloat k x) = (k.format.read x).opposite := by
    unfold Ieee.Format.read
    simp only [e1, e2]
    split
    · rfl
    · split
      · rfl
      · split <;> rfl
  refine ⟨!s, m, i, by rw [e3, e]; rfl, ?_⟩
  rw [opp_val, Rat.intCast_neg]
  grind
section
variable {k : FloatKind} {x y : Nat} {a b : Rat}
theorem gt_no (hx : NV k x a) (hy : NV k y b) (h : a ≤ b) : (k.format.order x y == some .gt) = false := by
  obtain ⟨o1, o2, -⟩ := order_val k hx hy
  rcases (show a < b ∨ a = b by grind) with h | h
  · rw [o1 h]; rfl
  · rw [o2 h]; rfl
theorem lt_no (hx : NV k x a) (hy : NV k y b) (h : b ≤ a) : (k.format.order x y == some .lt) = false := by
  obtain ⟨-, o2, o3⟩ := order_val k hx hy
  rcases (show b < a ∨ a = b by grind) with h | h
  · rw [o3 h]; rfl
  · rw [o2 h]; rfl
theorem ge_no (hx : NV k x a) (hy : NV k y b) (h : a < b) : (k.format.order x y == some .gt || k.format.order x y == some .eq) = false := by
  rw [(order_val k hx hy).1 h]; rfl
end
end Go.Proofs.Ytlpibibpckkjhaa
