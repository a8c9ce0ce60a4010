/-
  The tests of all lists of points: the sum of the coefficients' shares.
-/
import Derived.Test.YtlpibibpckkjhaaQg
namespace Go.Proofs.Ytlpibibpckkjhaa
open Go.RowKit
theorem sum_lo : (List.range 5).all (fun n => (patL n).all fun h => patSum (xv h) n) = true := by decide +kernel
theorem sum5_0 : (cutL 8 0 (patL 5)).all (fun h => patSum (xv h) 5) = true := by decide +kernel
theorem sum5_1 : (cutL 8 1 (patL 5)).all (fun h => patSum (xv h) 5) = true := by decide +kernel
theorem sum5_2 : (cutL 8 2 (patL 5)).all (fun h => patSum (xv h) 5) = true := by decide +kernel
theorem sum5_3 : (cutL 8 3 (patL 5)).all (fun h => patSum (xv h) 5) = true := by decide +kernel
theorem sum5_4 : (cutL 8 4 (patL 5)).all (fun h => patSum (xv h) 5) = true := by decide +kernel
theorem sum5_5 : (cutL 8 5 (patL 5)).all (fun h => patSum (xv h) 5) = true := by decide +kernel
theorem sum5_6 : (cutL 8 6 (patL 5)).all (fun h => patSum (xv h) 5) = true := by decide +kernel
theorem sum5_7 : (cutL 8 7 (patL 5)).all (fun h => patSum (xv h) 5) = true := by decide +kernel
theorem sum5_8 : (cutL 8 8 (patL 5)).all (fun h => patSum (xv h) 5) = true := by decide +kernel
theorem sum5_9 : (cutL 8 9 (patL 5)).all (fun h => patSum (xv h) 5) = true := by decide +kernel
theorem sum_of {hs : List Nat} {a n : Nat} (hp : Pts hs a) (hn : hs.length = n) (n1 : 1 ≤ n) (n5 : n ≤ 5) : patSum (xv hs) n = true := by
  refine all_of (f := fun n h => patSum (xv h) n) sum_lo (fun j hj => ?_) hp hn n1 n5
  rcases (show j = 0 ∨ j = 1 ∨ j = 2 ∨ j = 3 ∨ j = 4 ∨ j = 5 ∨ j = 6 ∨ j = 7 ∨ j = 8 ∨ j = 9 by omega) with e | e | e | e | e | e | e | e | e | e <;> subst e
  · exact sum5_0
  · exact sum5_1
  · exact sum5_2
  · exact sum5_3
  · exact sum5_4
  · exact sum5_5
  · exact sum5_6
  · exact sum5_7
  · exact sum5_8
  · exact sum5_9
end Go.Proofs.Ytlpibibpckkjhaa
