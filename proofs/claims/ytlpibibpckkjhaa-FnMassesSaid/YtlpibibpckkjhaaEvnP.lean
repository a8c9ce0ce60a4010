/-
  Plain laws: the nodes and weights of even masses as chains of float steps; for 1 to 8 nodes no step is without an answer and all are finite.
-/
import Derived.Test.YtlpibibpckkjhaaFltP
namespace Go.Proofs.Ytlpibibpckkjhaa
open Go.RowKit

abbrev fb (op : BinOp) (x y : Nat) : Option Nat := floatBits op .f32 x y
abbrev fd (op : BinOp) (x y : Nat) : Option Nat := floatBits op .f64 x y
/-- The rule of the polynomials of kind 2. -/
def ruleO (k : Nat) : Option (Nat × Nat) :=
  (fb .mul 1073741824 (floatOfInt .f32 (k : Int))).bind fun u1 => (fb .add u1 1065353216).bind fun u2 => (fb .add (floatOfInt .f32 (k : Int)) 1065353216).bind fun d =>
  (fb .quo u2 d).bind fun a => (fb .quo (floatOfInt .f32 (k : Int)) d).bind fun c => some (a, c)
def rstepO (x a c one before : Nat) : Option Nat :=
  (fb .mul a x).bind fun m1 => (fb .add m1 0).bind fun m2 => (fb .mul m2 one).bind fun m3 => (fb .mul c before).bind fun m4 => fb .sub m3 m4
/-- The row of a number: its values and the last but one. -/
def rowO (x : Nat) : Nat → Option (List Nat × Nat)
  | 0 => some ([1065353216], 0)
  | k + 1 => (rowO x k).bind fun r => (ruleO k).bind fun q => (rstepO x q.1 q.2 (r.1.getD k 0) r.2).bind fun y => some (r.1 ++ [y], r.1.getD k 0)
def slopeO (n x : Nat) : Option (Nat × Nat) :=
  (rowO x n).bind fun r => (fb .mul x (r.1.getD n 0)).bind fun t1 => (fb .sub t1 (r.1.getD (n - 1) 0)).bind fun t2 => (fb .mul (floatOfInt .f32 (n : Int)) t2).bind fun t3 =>
  (fb .mul x x).bind fun t4 => (fb .sub t4 1065353216).bind fun t5 => (fb .quo t3 t5).bind fun s => some (r.1.getD n 0, s)
def nstepO (n x : Nat) : Option Nat := (slopeO n x).bind fun q => (fb .quo q.1 q.2).bind fun d => fb .sub x d
def iterO (n : Nat) : Nat → Nat → Option Nat
  | 0, x => some x
  | t + 1, x => (nstepO n x).bind fun y => iterO n t y
def weightO (x s : Nat) : Option Nat :=
  (fb .mul x x).bind fun t1 => (fb .sub 1065353216 t1).bind fun t2 => (fb .mul t2 s).bind fun t3 => (fb .mul t3 s).bind fun t4 => fb .quo 1073741824 t4
/-- The number whose sine is the first guess. -/
def turnO (n k : Nat) : Option Nat :=
  (fb .add (floatOfInt .f32 (k : Int)) 1061158912).bind fun a => (fb .quo a (floatOfInt .f32 (2 * n + 1 : Int))).bind fun q => fb .add q 1048576000
/-- The terms of the sine, from the last to the first. -/
def sineTO (u : Nat) : Nat → Nat → Option Nat
  | 0, p => some p
  | k + 1, p => (fd .mul u p).bind fun t => (fd .quo t (floatOfInt .f64 ((2 * (k + 1) * (2 * (k + 1) + 1) : Nat) : Int))).bind fun q => (fd .sub 4607182418800017408 q).bind fun p => sineTO u k p
/-- What holds of a number of turns between a quarter and three quarters. -/
def goodY (y : Nat) : Bool :=
  fd .sub y y == some 0 && FloatKind.f64.format.order y 4841369599423283200 == some .lt && FloatKind.f64.format.order y 14064741636278059008 == some .gt && FloatKind.f64.format.order y 0 == some .gt &&
  FloatKind.f64.encode ((FloatKind.f64.decode y).integral .zero) == 0 && fd .sub y 0 == some y && floatToIntVal .f64 y .i64 == some 0 && bits .andNot .u64 (y : Int) 9223372036854775808 == (y : Int) &&
  (match FloatKind.f64.decode y with | .nan _ _ => false | _ => true)
/-- A first guess of less than half a turn is taken from half a turn, one of more less half a turn. -/
def lowY (y : Nat) : Bool := FloatKind.f64.format.order y 4602678819172646912 == some .lt && FloatKind.f64.format.order y 4598175219545276416 == some .gt
def highY (y f : Nat) : Bool := (FloatKind.f64.format.order y 4602678819172646912 == some .eq || FloatKind.f64.format.order y 4602678819172646912 == some .gt) && FloatKind.f64.format.order f 4598175219545276416 == some .lt
def sineCO (f : Nat) : Option Nat :=
  (fd .mul f 4618760256179416344).bind fun z => (fd .mul z z).bind fun u => (sineTO u 8 4607182418800017408).bind fun p => fd .mul z p
def sineO (y : Nat) : Option Nat :=
  if goodY y = true then
    if lowY y = true then (fd .sub 4602678819172646912 y).bind sineCO
    else (fd .sub y 4602678819172646912).bind fun f => if highY y f = true then (sineCO f).map (Op.negFloat .f64) else none
  else none
def startO (n k : Nat) : Option Nat :=
  (turnO n k).bind fun x0 => if fin32B x0 = true then (floatToFloatBits .f32 x0 .f64).bind fun y => (sineO y).bind fun r => floatToFloatBits .f64 r .f32 else none
def nodeO (n k : Nat) : Option (Nat × Nat) :=
  (startO n k).bind fun x0 => (iterO n 12 x0).bind fun x => (slopeO n x).bind fun q => (weightO x q.2).bind fun w => some (x, w)

theorem bind3 {α β : Type} {o : Option α} {f : α → Option β} {b : β} (h : o.bind f = some b) : ∃ a, o = some a ∧ f a = some b := Option.bind_eq_some_iff.1 h
theorem rule_parts {k a c : Nat} (h : ruleO k = some (a, c)) : ∃ u1 u2 d, fb .mul 1073741824 (floatOfInt .f32 (k : Int)) = some u1 ∧ fb .add u1 1065353216 = some u2 ∧ fb .add (floatOfInt .f32 (k : Int)) 1065353216 = some d ∧ fb .quo u2 d = some a ∧ fb .quo (floatOfInt .f32 (k : Int)) d = some c := by
  unfold ruleO at h
  obtain ⟨u1, h1, h⟩ := bind3 h
  obtain ⟨u2, h2, h⟩ := bind3 h
  obtain ⟨d, h3, h⟩ := bind3 h
  obtain ⟨a', h4, h⟩ := bind3 h
  obtain ⟨c', h5, h⟩ := bind3 h
  cases h
  exact ⟨u1, u2, d, h1, h2, h3, h4, h5⟩
theorem rstep_parts {x a c one before y : Nat} (h : rstepO x a c one before = some y) : ∃ m1 m2 m3 m4, fb .mul a x = some m1 ∧ fb .add m1 0 = some m2 ∧ fb .mul m2 one = some m3 ∧ fb .mul c before = some m4 ∧ fb .sub m3 m4 = some y := by
  unfold rstepO at h
  obtain ⟨u1, h1, h⟩ := bind3 h
  obtain ⟨u2, h2, h⟩ := bind3 h
  obtain ⟨u3, h3, h⟩ := bind3 h
  obtain ⟨u4, h4, h⟩ := bind3 h
  exact ⟨_, _, _, _, h1, h2, h3, h4, h⟩
theorem row_parts {x k : Nat} {r : List Nat × Nat} (h : rowO x (k + 1) = some r) : ∃ s a c y, rowO x k = some s ∧ ruleO k = some (a, c) ∧ rstepO x a c (s.1.getD k 0) s.2 = some y ∧ r = (s.1 ++ [y], s.1.getD k 0) := by
  unfold rowO at h
  obtain ⟨s, h1, h⟩ := bind3 h
  obtain ⟨⟨a, c⟩, h2, h⟩ := bind3 h
  obtain ⟨y, h3, h⟩ := bind3 h
  cases h
  exact ⟨s, a, c, y, h1, h2, h3, rfl⟩
theorem row_len {x : Nat} : ∀ {k : Nat} {r : List Nat × Nat}, rowO x k = some r → r.1.length = k + 1
  | 0, r, h => by cases h; rfl
  | k + 1, r, h => by
    obtain ⟨s, a, c, y, h1, -, -, rfl⟩ := row_parts h
    simp [row_len h1]
/-- A row that is there, is there up to each place. -/
theorem row_upto {x n : Nat} {r : List Nat × Nat} (h : rowO x n = some r) : ∀ j, j ≤ n → ∃ s, rowO x j = some s := by
  induction n generalizing r with
  | zero => intro j hj; obtain rfl : j = 0 := by omega
            exact ⟨_, h⟩
  | succ n ih =>
    intro j hj
    obtain ⟨s, a, c, y, h1, -, -, -⟩ := row_parts h
    rcases Nat.lt_or_ge j (n + 1) with hlt | hge
    · exact ih h1 j (by omega)
    · obtain rfl : j = n + 1 := by omega
      exact ⟨_, h⟩
theorem slope_parts {n x p s : Nat} (h : slopeO n x = some (p, s)) : ∃ r t1 t2 t3 t4 t5, rowO x n = some r ∧ r.1.getD n 0 = p ∧ fb .mul x p = some t1 ∧ fb .sub t1 (r.1.getD (n - 1) 0) = some t2 ∧ fb .mul (floatOfInt .f32 (n : Int)) t2 = some t3 ∧ fb .mul x x = some t4 ∧ fb .sub t4 1065353216 = some t5 ∧ fb .quo t3 t5 = some s := by
  unfold slopeO at h
  obtain ⟨r, h0, h⟩ := bind3 h
  obtain ⟨u1, h1, h⟩ := bind3 h
  obtain ⟨u2, h2, h⟩ := bind3 h
  obtain ⟨u3, h3, h⟩ := bind3 h
  obtain ⟨u4, h4, h⟩ := bind3 h
  obtain ⟨u5, h5, h⟩ := bind3 h
  obtain ⟨u6, h6, h⟩ := bind3 h
  cases h
  exact ⟨r, _, _, _, _, _, h0, rfl, h1, h2, h3, h4, h5, h6⟩
theorem sineC_parts {f r : Nat} (h : sineCO f = some r) : ∃ z u p, fd .mul f 4618760256179416344 = some z ∧ fd .mul z z = some u ∧ sineTO u 8 4607182418800017408 = some p ∧ fd .mul z p = some r := by
  unfold sineCO at h
  obtain ⟨z, h1, h⟩ := bind3 h
  obtain ⟨u, h2, h⟩ := bind3 h
  obtain ⟨p, h3, h⟩ := bind3 h
  exact ⟨z, u, p, h1, h2, h3, h⟩
theorem sineT_parts {u k p r : Nat} (h : sineTO u (k + 1) p = some r) : ∃ t q p1, fd .mul u p = some t ∧ fd .quo t (floatOfInt .f64 ((2 * (k + 1) * (2 * (k + 1) + 1) : Nat) : Int)) = some q ∧ fd .sub 4607182418800017408 q = some p1 ∧ sineTO u k p1 = some r := by
  unfold sineTO at h
  obtain ⟨t, h1, h⟩ := bind3 h
  obtain ⟨q, h2, h⟩ := bind3 h
  obtain ⟨p1, h3, h⟩ := bind3 h
  exact ⟨t, q, p1, h1, h2, h3, h⟩
/-- The two ways of a sine. -/
theorem sine_parts {y r : Nat} (h : sineO y = some r) : goodY y = true ∧ ((lowY y = true ∧ ∃ f, fd .sub 4602678819172646912 y = some f ∧ sineCO f = some r) ∨ ∃ f r', fd .sub y 4602678819172646912 = some f ∧ highY y f = true ∧ sineCO f = some r' ∧ r = Op.negFloat .f64 r') := by
  unfold sineO at h
  by_cases hg : goodY y = true
  · rw [if_pos hg] at h
    refine ⟨hg, ?_⟩
    by_cases hl : lowY y = true
    · rw [if_pos hl] at h
      obtain ⟨f, h1, h2⟩ := bind3 h
      exact .inl ⟨hl, f, h1, h2⟩
    · rw [if_neg hl] at h
      obtain ⟨f, h1, h2⟩ := bind3 h
      by_cases hh : highY y f = true
      · rw [if_pos hh, Option.map_eq_some_iff] at h2
        obtain ⟨r', h3, rfl⟩ := h2
        exact .inr ⟨f, r', h1, hh, h3, rfl⟩
      · rw [if_neg hh] at h2
        cases h2
  · rw [if_neg hg] at h
    cases h
theorem nstep_parts {n x y : Nat} (h : nstepO n x = some y) : ∃ p s d, slopeO n x = some (p, s) ∧ fb .quo p s = some d ∧ fb .sub x d = some y := by
  unfold nstepO at h
  obtain ⟨⟨p, s⟩, h1, h⟩ := bind3 h
  obtain ⟨d, h2, h⟩ := bind3 h
  exact ⟨p, s, d, h1, h2, h⟩
theorem weight_parts {x s w : Nat} (h : weightO x s = some w) : ∃ t1 t2 t3 t4, fb .mul x x = some t1 ∧ fb .sub 1065353216 t1 = some t2 ∧ fb .mul t2 s = some t3 ∧ fb .mul t3 s = some t4 ∧ fb .quo 1073741824 t4 = some w := by
  unfold weightO at h
  obtain ⟨u1, h1, h⟩ := bind3 h
  obtain ⟨u2, h2, h⟩ := bind3 h
  obtain ⟨u3, h3, h⟩ := bind3 h
  obtain ⟨u4, h4, h⟩ := bind3 h
  exact ⟨_, _, _, _, h1, h2, h3, h4, h⟩
theorem turn_parts {n k x : Nat} (h : turnO n k = some x) : ∃ a q, fb .add (floatOfInt .f32 (k : Int)) 1061158912 = some a ∧ fb .quo a (floatOfInt .f32 (2 * n + 1 : Int)) = some q ∧ fb .add q 1048576000 = some x := by
  unfold turnO at h
  obtain ⟨a, h1, h⟩ := bind3 h
  obtain ⟨q, h2, h⟩ := bind3 h
  exact ⟨a, q, h1, h2, h⟩
theorem start_parts {n k x : Nat} (h : startO n k = some x) : ∃ x0 y r, turnO n k = some x0 ∧ fin32B x0 = true ∧ floatToFloatBits .f32 x0 .f64 = some y ∧ sineO y = some r ∧ floatToFloatBits .f64 r .f32 = some x := by
  unfold startO at h
  obtain ⟨x0, h1, h⟩ := bind3 h
  by_cases hf : fin32B x0 = true
  · rw [if_pos hf] at h
    obtain ⟨y, h2, h⟩ := bind3 h
    obtain ⟨r, h3, h⟩ := bind3 h
    exact ⟨x0, y, r, h1, hf, h2, h3, h⟩
  · rw [if_neg hf] at h
    cases h
theorem node_parts {n k x w : Nat} (h : nodeO n k = some (x, w)) : ∃ x0 p s, startO n k = some x0 ∧ iterO n 12 x0 = some x ∧ slopeO n x = some (p, s) ∧ weightO x s = some w := by
  unfold nodeO at h
  obtain ⟨x0, h1, h⟩ := bind3 h
  obtain ⟨x', h2, h⟩ := bind3 h
  obtain ⟨⟨p, s⟩, h3, h⟩ := bind3 h
  obtain ⟨w', h4, h⟩ := bind3 h
  cases h
  exact ⟨x0, p, s, h1, h2, h3, h4⟩
theorem iter_parts {n t x y : Nat} (h : iterO n (t + 1) x = some y) : ∃ x1, nstepO n x = some x1 ∧ iterO n t x1 = some y := by
  unfold iterO at h
  exact bind3 h
end Go.Proofs.Ytlpibibpckkjhaa
