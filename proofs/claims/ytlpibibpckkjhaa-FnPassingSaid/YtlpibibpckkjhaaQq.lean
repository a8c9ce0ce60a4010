/-
  The tests of all lists of points: differences, Newton's values, Lagrange's value.
-/
import Derived.Test.YtlpibibpckkjhaaQg
namespace Go.Proofs.Ytlpibibpckkjhaa
open Go.RowKit
theorem div_lo : (List.range 5).all (fun n => (patL n).all fun h => patDiv (xv h) n) = true := by decide +kernel
theorem div5_0 : (cutL 8 0 (patL 5)).all (fun h => patDiv (xv h) 5) = true := by decide +kernel
theorem div5_1 : (cutL 8 1 (patL 5)).all (fun h => patDiv (xv h) 5) = true := by decide +kernel
theorem div5_2 : (cutL 8 2 (patL 5)).all (fun h => patDiv (xv h) 5) = true := by decide +kernel
theorem div5_3 : (cutL 8 3 (patL 5)).all (fun h => patDiv (xv h) 5) = true := by decide +kernel
theorem div5_4 : (cutL 8 4 (patL 5)).all (fun h => patDiv (xv h) 5) = true := by decide +kernel
theorem div5_5 : (cutL 8 5 (patL 5)).all (fun h => patDiv (xv h) 5) = true := by decide +kernel
theorem div5_6 : (cutL 8 6 (patL 5)).all (fun h => patDiv (xv h) 5) = true := by decide +kernel
theorem div5_7 : (cutL 8 7 (patL 5)).all (fun h => patDiv (xv h) 5) = true := by decide +kernel
theorem div5_8 : (cutL 8 8 (patL 5)).all (fun h => patDiv (xv h) 5) = true := by decide +kernel
theorem div5_9 : (cutL 8 9 (patL 5)).all (fun h => patDiv (xv h) 5) = true := by decide +kernel
theorem div_of {hs : List Nat} {a n : Nat} (hp : Pts hs a) (hn : hs.length = n) (n1 : 1 ≤ n) (n5 : n ≤ 5) : patDiv (xv hs) n = true := by
  refine all_of (f := fun n h => patDiv (xv h) n) div_lo (fun j hj => ?_) hp hn n1 n5
  rcases (show j = 0 ∨ j = 1 ∨ j = 2 ∨ j = 3 ∨ j = 4 ∨ j = 5 ∨ j = 6 ∨ j = 7 ∨ j = 8 ∨ j = 9 by omega) with e | e | e | e | e | e | e | e | e | e <;> subst e
  · exact div5_0
  · exact div5_1
  · exact div5_2
  · exact div5_3
  · exact div5_4
  · exact div5_5
  · exact div5_6
  · exact div5_7
  · exact div5_8
  · exact div5_9
theorem new_lo : (List.range 5).all (fun n => (patL n).all fun h => patNew (xv h) n) = true := by decide +kernel
theorem new5_0 : (cutL 8 0 (patL 5)).all (fun h => patNew (xv h) 5) = true := by decide +kernel
theorem new5_1 : (cutL 8 1 (patL 5)).all (fun h => patNew (xv h) 5) = true := by decide +kernel
theorem new5_2 : (cutL 8 2 (patL 5)).all (fun h => patNew (xv h) 5) = true := by decide +kernel
theorem new5_3 : (cutL 8 3 (patL 5)).all (fun h => patNew (xv h) 5) = true := by decide +kernel
theorem new5_4 : (cutL 8 4 (patL 5)).all (fun h => patNew (xv h) 5) = true := by decide +kernel
theorem new5_5 : (cutL 8 5 (patL 5)).all (fun h => patNew (xv h) 5) = true := by decide +kernel
theorem new5_6 : (cutL 8 6 (patL 5)).all (fun h => patNew (xv h) 5) = true := by decide +kernel
theorem new5_7 : (cutL 8 7 (patL 5)).all (fun h => patNew (xv h) 5) = true := by decide +kernel
theorem new5_8 : (cutL 8 8 (patL 5)).all (fun h => patNew (xv h) 5) = true := by decide +kernel
theorem new5_9 : (cutL 8 9 (patL 5)).all (fun h => patNew (xv h) 5) = true := by decide +kernel
theorem new_of {hs : List Nat} {a n : Nat} (hp : Pts hs a) (hn : hs.length = n) (n1 : 1 ≤ n) (n5 : n ≤ 5) : patNew (xv hs) n = true := by
  refine all_of (f := fun n h => patNew (xv h) n) new_lo (fun j hj => ?_) hp hn n1 n5
  rcases (show j = 0 ∨ j = 1 ∨ j = 2 ∨ j = 3 ∨ j = 4 ∨ j = 5 ∨ j = 6 ∨ j = 7 ∨ j = 8 ∨ j = 9 by omega) with e | e | e | e | e | e | e | e | e | e <;> subst e
  · exact new5_0
  · exact new5_1
  · exact new5_2
  · exact new5_3
  · exact new5_4
  · exact new5_5
  · exact new5_6
  · exact new5_7
  · exact new5_8
  · exact new5_9
theorem lag_lo : (List.range 5).all (fun n => (patL n).all fun h => patLag (xv h) n) = true := by decide +kernel
theorem lag5_0 : (cutL 8 0 (patL 5)).all (fun h => patLag (xv h) 5) = true := by decide +kernel
theorem lag5_1 : (cutL 8 1 (patL 5)).all (fun h => patLag (xv h) 5) = true := by decide +kernel
theorem lag5_2 : (cutL 8 2 (patL 5)).all (fun h => patLag (xv h) 5) = true := by decide +kernel
theorem lag5_3 : (cutL 8 3 (patL 5)).all (fun h => patLag (xv h) 5) = true := by decide +kernel
theorem lag5_4 : (cutL 8 4 (patL 5)).all (fun h => patLag (xv h) 5) = true := by decide +kernel
theorem lag5_5 : (cutL 8 5 (patL 5)).all (fun h => patLag (xv h) 5) = true := by decide +kernel
theorem lag5_6 : (cutL 8 6 (patL 5)).all (fun h => patLag (xv h) 5) = true := by decide +kernel
theorem lag5_7 : (cutL 8 7 (patL 5)).all (fun h => patLag (xv h) 5) = true := by decide +kernel
theorem lag5_8 : (cutL 8 8 (patL 5)).all (fun h => patLag (xv h) 5) = true := by decide +kernel
theorem lag5_9 : (cutL 8 9 (patL 5)).all (fun h => patLag (xv h) 5) = true := by decide +kernel
theorem lag_of {hs : List Nat} {a n : Nat} (hp : Pts hs a) (hn : hs.length = n) (n1 : 1 ≤ n) (n5 : n ≤ 5) : patLag (xv hs) n = true := by
  refine all_of (f := fun n h => patLag (xv h) n) lag_lo (fun j hj => ?_) hp hn n1 n5
  rcases (show j = 0 ∨ j = 1 ∨ j = 2 ∨ j = 3 ∨ j = 4 ∨ j = 5 ∨ j = 6 ∨ j = 7 ∨ j = 8 ∨ j = 9 by omega) with e | e | e | e | e | e | e | e | e | e <;> subst e
  · exact lag5_0
  · exact lag5_1
  · exact lag5_2
  · exact lag5_3
  · exact lag5_4
  · exact lag5_5
  · exact lag5_6
  · exact lag5_7
  · exact lag5_8
  · exact lag5_9
end Go.Proofs.Ytlpibibpckkjhaa
