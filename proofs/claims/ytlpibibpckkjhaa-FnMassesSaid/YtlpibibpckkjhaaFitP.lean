/-
  Plain laws: the fit of least squares as float steps, up to what is no number: sums of powers, elimination, the way back.
-/
import Derived.Test.YtlpibibpckkjhaaFltM
namespace Go.Proofs.Ytlpibibpckkjhaa
open Go.RowKit

abbrev Mx := Nat → Nat → Option Nat
def powO (a : Option Nat) : Nat → Option Nat
  | 0 => some 1065353216
  | t + 1 => opO .mul (powO a t) a
def sumO (X W : Nat → Option Nat) (d : Nat) : Nat → Option Nat
  | 0 => some 0
  | j + 1 => opO .add (sumO X W d j) (opO .mul (W j) (powO (X j) d))
def rhsO (X Y W : Nat → Option Nat) (i : Nat) : Nat → Option Nat
  | 0 => some 0
  | j + 1 => opO .add (rhsO X Y W i j) (opO .mul (opO .mul (W j) (powO (X j) i)) (Y j))
def mat0 (X Y W : Nat → Option Nat) (n m : Nat) : Mx := fun i j => if j < n then sumO X W (i + j) m else rhsO X Y W i m
def absO (a : Option Nat) : Option Nat := a.map (· % 2147483648)
def bigger (A : Mx) (k i b : Nat) : Bool := cmpO (absO (A i k)) (absO (A b k)) == some .gt
/-- The row with the greatest number in column k, of the rows from k on, t of them tried. -/
def best (A : Mx) (k : Nat) : Nat → Nat
  | 0 => k
  | t + 1 => if bigger A k (k + 1 + t) (best A k t) then k + 1 + t else best A k t
def swp (k b i : Nat) : Nat := if i = k then b else if i = b then k else i
def swapM (A : Mx) (k b : Nat) : Mx := fun i j => A (swp k b i) j
def isZ (a : Option Nat) : Bool := cmpO a (some 0) == some .eq
/-- The elimination below row k, done up to row i0 and there up to column j0. -/
def elimAt (A : Mx) (k i0 j0 : Nat) : Mx := fun i j => if k < i ∧ k < j ∧ (i < i0 ∨ (i = i0 ∧ j < j0)) then opO .sub (A i j) (opO .mul (opO .quo (A i k) (A k k)) (A k j)) else A i j
def pivot (n : Nat) (B : Mx) (k : Nat) : Mx := swapM B k (best B k (n - 1 - k))
def gaussO (n : Nat) (A : Mx) : Nat → Option Mx
  | 0 => some A
  | k + 1 => (gaussO n A k).bind fun B => if isZ (pivot n B k k k) then none else some (elimAt (pivot n B k) k n 0)
def leftO (A : Mx) (n : Nat) (o : Nat → Option Nat) (i : Nat) : Nat → Option Nat
  | 0 => A i n
  | t + 1 => opO .sub (leftO A n o i t) (opO .mul (A i (i + 1 + t)) (o (i + 1 + t)))
def solO (A : Mx) (n : Nat) : Nat → Nat → Option Nat
  | 0 => fun _ => some 0
  | d + 1 => fun k => if k = n - 1 - d then opO .quo (leftO A n (solO A n d) (n - 1 - d) d) (A (n - 1 - d) (n - 1 - d)) else solO A n d k

theorem best_le (A : Mx) (k t : Nat) : k ≤ best A k t ∧ best A k t ≤ k + t := by
  induction t with
  | zero => exact ⟨Nat.le_refl _, Nat.le_refl _⟩
  | succ t ih =>
    rw [best]
    split <;> omega
theorem swp_lt {k b i n : Nat} (hk : k < n) (hb : b < n) (hi : i < n) : swp k b i < n := by
  unfold swp; split
  · exact hb
  · split
    · exact hk
    · exact hi
theorem swp_inj {k b i j : Nat} (h : swp k b i = swp k b j) : i = j := by
  unfold swp at h
  split at h <;> split at h <;> (try split at h) <;> (try split at h) <;> omega
def upd (A : Mx) (i j : Nat) (v : Option Nat) : Mx := fun i' j' => if i' = i ∧ j' = j then v else A i' j'
theorem elim_step (A : Mx) (k i j : Nat) (h1 : k < i) (h2 : k < j) (i' j' : Nat) : upd (elimAt A k i j) i j (opO .sub (elimAt A k i j i j) (opO .mul (opO .quo (A i k) (A k k)) (A k j))) i' j' = elimAt A k i (j + 1) i' j' := by
  have e : elimAt A k i j i j = A i j := by
    unfold elimAt
    rw [if_neg (by omega)]
  rw [e]
  unfold upd
  by_cases h : i' = i ∧ j' = j
  · obtain ⟨rfl, rfl⟩ := h
    rw [if_pos ⟨rfl, rfl⟩]
    unfold elimAt
    rw [if_pos (by omega)]
  · rw [if_neg h]
    unfold elimAt
    by_cases h3 : k < i' ∧ k < j' ∧ (i' < i ∨ (i' = i ∧ j' < j))
    · rw [if_pos h3, if_pos (by omega)]
    · rw [if_neg h3, if_neg (by omega)]
theorem elim_col (A : Mx) (k i0 j0 i : Nat) : elimAt A k i0 j0 i k = A i k := by
  unfold elimAt; rw [if_neg (by omega)]
theorem elim_row (A : Mx) (k i0 j0 j : Nat) : elimAt A k i0 j0 k j = A k j := by
  unfold elimAt; rw [if_neg (by omega)]
/-- A row that is done. -/
theorem elim_next (A : Mx) (k i n : Nat) (i' j' : Nat) (hj : j' ≤ n) : elimAt A k i (n + 1) i' j' = elimAt A k (i + 1) (k + 1) i' j' := by
  unfold elimAt
  by_cases h3 : k < i' ∧ k < j' ∧ (i' < i ∨ (i' = i ∧ j' < n + 1))
  · rw [if_pos h3, if_pos (by omega)]
  · rw [if_neg h3, if_neg (by omega)]
theorem elim_begin (A : Mx) (k : Nat) (i' j' : Nat) : elimAt A k (k + 1) (k + 1) i' j' = A i' j' := by
  unfold elimAt
  rw [if_neg (by omega)]
theorem elim_end (A : Mx) (k n i0 : Nat) (h : n ≤ i0) (i' j' : Nat) (hi : i' < n) : elimAt A k i0 (k + 1) i' j' = elimAt A k n 0 i' j' := by
  unfold elimAt
  by_cases h3 : k < i' ∧ k < j' ∧ (i' < i0 ∨ (i' = i0 ∧ j' < k + 1))
  · rw [if_pos h3, if_pos (by omega)]
  · rw [if_neg h3, if_neg (by omega)]
theorem cn_abs (x : Nat) : cn (x % 2147483648) = absO (cn x) := by
  have a := abs_read x
  rcases read_rung x with ⟨h0, e⟩ | ⟨h0, h1, e⟩ | ⟨h0, e⟩ | ⟨h0, u, e⟩ <;> rcases read_rung (x % 2147483648) with ⟨g0, e'⟩ | ⟨g0, g1, e'⟩ | ⟨g0, e'⟩ | ⟨g0, v, e'⟩
  all_goals first
    | omega
    | (unfold cn; rw [e, e']; rfl)
theorem mg_cmp {z1 z2 x1 x2 : Nat} (h1 : Mg z1 x1) (h2 : Mg z2 x2) : FloatKind.f32.format.order z1 z2 = cmpO (absO (cn x1)) (absO (cn x2)) := by
  rw [(h1 z2).1, (h2 _).2, cn_order, cn_abs, cn_abs]
theorem gauss_none (n : Nat) (A : Mx) (k : Nat) (h : gaussO n A k = none) : ∀ d, gaussO n A (k + d) = none
  | 0 => h
  | d + 1 => by
    show (gaussO n A (k + d)).bind _ = none
    rw [gauss_none n A k h d]; rfl
theorem gauss_step {n k : Nat} {A B : Mx} (h : gaussO n A k = some B) : gaussO n A (k + 1) = if isZ (pivot n B k k k) then none else some (elimAt (pivot n B k) k n 0) := by
  show (gaussO n A k).bind _ = _
  rw [h]; rfl
theorem swp_comm (k b i : Nat) : swp k b i = swp b k i := by
  unfold swp
  split <;> split <;> omega
theorem isZ_order (x : Nat) : (FloatKind.f32.format.order x 0 == some .eq) = isZ (cn x) := by
  unfold isZ
  rw [cn_order, cn_zero]
end Go.Proofs.Ytlpibibpckkjhaa
