/-
  The law's own helpers on slices of integers, on polynomials, wholes and what is saved: comparison, marks.
-/
import Derived.Test.YtgfmnolmokpgnaaDoorLoadSv
namespace Go.Proofs.YtgfmnolmokpgnaaDoor
open Go.RowKit
/-- The numbers that mark a slice. -/
def marks (k0 : Int) (n : Nat) : List Int := (List.range n).map fun (j : Nat) => k0 + (j : Int)
@[simp] theorem marks_len (k0 : Int) (n : Nat) : (marks k0 n).length = n := by simp [marks]
theorem marks_at {k0 : Int} {n j : Nat} (h : j < n) : (marks k0 n).getD j 0 = k0 + (j : Int) := by
  simp [marks, List.getD, h]

theorem below_two (w : World) (o1 o2 : Obj) : Below w.heap.size w ((w.alloc o1).alloc o2) := ((Below.refl _ _).alloc (Nat.le_refl _) _).alloc (by simp) _

/-- All numbers of what is saved widen, and it is small. -/
structure Fine (v : Sav) : Prop where
  w : Wids v.P
  p : v.P.length ≤ 17
  t : v.W.length ≤ 17

/-- What is saved, marked from 1 on. -/
def markV (v : Sav) : Sav := ⟨v.nm, cmarks 1 v.P.length, marks (1 + (v.P.length : Int)) v.W.length⟩
def ends (v : Sav) : Int := 1 + (v.P.length : Int) + (v.W.length : Int)

end Go.Proofs.YtgfmnolmokpgnaaDoor
