/-
  The tests of all lists of points: the ends of the shares.
-/
import Derived.Test.YtlpibibpckkjhaaQg
namespace Go.Proofs.Ytlpibibpckkjhaa
open Go.RowKit
theorem top_lo : (List.range 5).all (fun n => (patL n).all fun h => patTop (xv h) n) = true := by decide +kernel
theorem top5_0 : (cutL 8 0 (patL 5)).all (fun h => patTop (xv h) 5) = true := by decide +kernel
theorem top5_1 : (cutL 8 1 (patL 5)).all (fun h => patTop (xv h) 5) = true := by decide +kernel
theorem top5_2 : (cutL 8 2 (patL 5)).all (fun h => patTop (xv h) 5) = true := by decide +kernel
theorem top5_3 : (cutL 8 3 (patL 5)).all (fun h => patTop (xv h) 5) = true := by decide +kernel
theorem top5_4 : (cutL 8 4 (patL 5)).all (fun h => patTop (xv h) 5) = true := by decide +kernel
theorem top5_5 : (cutL 8 5 (patL 5)).all (fun h => patTop (xv h) 5) = true := by decide +kernel
theorem top5_6 : (cutL 8 6 (patL 5)).all (fun h => patTop (xv h) 5) = true := by decide +kernel
theorem top5_7 : (cutL 8 7 (patL 5)).all (fun h => patTop (xv h) 5) = true := by decide +kernel
theorem top5_8 : (cutL 8 8 (patL 5)).all (fun h => patTop (xv h) 5) = true := by decide +kernel
theorem top5_9 : (cutL 8 9 (patL 5)).all (fun h => patTop (xv h) 5) = true := by decide +kernel
theorem top_of {hs : List Nat} {a n : Nat} (hp : Pts hs a) (hn : hs.length = n) (n1 : 1 ≤ n) (n5 : n ≤ 5) : patTop (xv hs) n = true := by
  refine all_of (f := fun n h => patTop (xv h) n) top_lo (fun j hj => ?_) hp hn n1 n5
  rcases (show j = 0 ∨ j = 1 ∨ j = 2 ∨ j = 3 ∨ j = 4 ∨ j = 5 ∨ j = 6 ∨ j = 7 ∨ j = 8 ∨ j = 9 by omega) with e | e | e | e | e | e | e | e | e | e <;> subst e
  · exact top5_0
  · exact top5_1
  · exact top5_2
  · exact top5_3
  · exact top5_4
  · exact top5_5
  · exact top5_6
  · exact top5_7
  · exact top5_8
  · exact top5_9
theorem wsz_lo : (List.range 5).all (fun n => (patL n).all fun h => patWs (xv h) n) = true := by decide +kernel
theorem wsz5_0 : (cutL 8 0 (patL 5)).all (fun h => patWs (xv h) 5) = true := by decide +kernel
theorem wsz5_1 : (cutL 8 1 (patL 5)).all (fun h => patWs (xv h) 5) = true := by decide +kernel
theorem wsz5_2 : (cutL 8 2 (patL 5)).all (fun h => patWs (xv h) 5) = true := by decide +kernel
theorem wsz5_3 : (cutL 8 3 (patL 5)).all (fun h => patWs (xv h) 5) = true := by decide +kernel
theorem wsz5_4 : (cutL 8 4 (patL 5)).all (fun h => patWs (xv h) 5) = true := by decide +kernel
theorem wsz5_5 : (cutL 8 5 (patL 5)).all (fun h => patWs (xv h) 5) = true := by decide +kernel
theorem wsz5_6 : (cutL 8 6 (patL 5)).all (fun h => patWs (xv h) 5) = true := by decide +kernel
theorem wsz5_7 : (cutL 8 7 (patL 5)).all (fun h => patWs (xv h) 5) = true := by decide +kernel
theorem wsz5_8 : (cutL 8 8 (patL 5)).all (fun h => patWs (xv h) 5) = true := by decide +kernel
theorem wsz5_9 : (cutL 8 9 (patL 5)).all (fun h => patWs (xv h) 5) = true := by decide +kernel
theorem wsz_of {hs : List Nat} {a n : Nat} (hp : Pts hs a) (hn : hs.length = n) (n1 : 1 ≤ n) (n5 : n ≤ 5) : patWs (xv hs) n = true := by
  refine all_of (f := fun n h => patWs (xv h) n) wsz_lo (fun j hj => ?_) hp hn n1 n5
  rcases (show j = 0 ∨ j = 1 ∨ j = 2 ∨ j = 3 ∨ j = 4 ∨ j = 5 ∨ j = 6 ∨ j = 7 ∨ j = 8 ∨ j = 9 by omega) with e | e | e | e | e | e | e | e | e | e <;> subst e
  · exact wsz5_0
  · exact wsz5_1
  · exact wsz5_2
  · exact wsz5_3
  · exact wsz5_4
  · exact wsz5_5
  · exact wsz5_6
  · exact wsz5_7
  · exact wsz5_8
  · exact wsz5_9
theorem pts_lo : (List.range 5).all (fun n => (patL n).all fun h => patPts h n) = true := by decide +kernel
theorem pts5_0 : (cutL 8 0 (patL 5)).all (fun h => patPts h 5) = true := by decide +kernel
theorem pts5_1 : (cutL 8 1 (patL 5)).all (fun h => patPts h 5) = true := by decide +kernel
theorem pts5_2 : (cutL 8 2 (patL 5)).all (fun h => patPts h 5) = true := by decide +kernel
theorem pts5_3 : (cutL 8 3 (patL 5)).all (fun h => patPts h 5) = true := by decide +kernel
theorem pts5_4 : (cutL 8 4 (patL 5)).all (fun h => patPts h 5) = true := by decide +kernel
theorem pts5_5 : (cutL 8 5 (patL 5)).all (fun h => patPts h 5) = true := by decide +kernel
theorem pts5_6 : (cutL 8 6 (patL 5)).all (fun h => patPts h 5) = true := by decide +kernel
theorem pts5_7 : (cutL 8 7 (patL 5)).all (fun h => patPts h 5) = true := by decide +kernel
theorem pts5_8 : (cutL 8 8 (patL 5)).all (fun h => patPts h 5) = true := by decide +kernel
theorem pts5_9 : (cutL 8 9 (patL 5)).all (fun h => patPts h 5) = true := by decide +kernel
theorem pts_of {hs : List Nat} {a n : Nat} (hp : Pts hs a) (hn : hs.length = n) (n1 : 1 ≤ n) (n5 : n ≤ 5) : patPts hs n = true := by
  refine all_of (f := fun n h => patPts h n) pts_lo (fun j hj => ?_) hp hn n1 n5
  rcases (show j = 0 ∨ j = 1 ∨ j = 2 ∨ j = 3 ∨ j = 4 ∨ j = 5 ∨ j = 6 ∨ j = 7 ∨ j = 8 ∨ j = 9 by omega) with e | e | e | e | e | e | e | e | e | e <;> subst e
  · exact pts5_0
  · exact pts5_1
  · exact pts5_2
  · exact pts5_3
  · exact pts5_4
  · exact pts5_5
  · exact pts5_6
  · exact pts5_7
  · exact pts5_8
  · exact pts5_9
theorem bnd_lo : (List.range 5).all (fun n => (patL n).all fun h => patBnd (xv h) n) = true := by decide +kernel
theorem bnd5_0 : (cutL 8 0 (patL 5)).all (fun h => patBnd (xv h) 5) = true := by decide +kernel
theorem bnd5_1 : (cutL 8 1 (patL 5)).all (fun h => patBnd (xv h) 5) = true := by decide +kernel
theorem bnd5_2 : (cutL 8 2 (patL 5)).all (fun h => patBnd (xv h) 5) = true := by decide +kernel
theorem bnd5_3 : (cutL 8 3 (patL 5)).all (fun h => patBnd (xv h) 5) = true := by decide +kernel
theorem bnd5_4 : (cutL 8 4 (patL 5)).all (fun h => patBnd (xv h) 5) = true := by decide +kernel
theorem bnd5_5 : (cutL 8 5 (patL 5)).all (fun h => patBnd (xv h) 5) = true := by decide +kernel
theorem bnd5_6 : (cutL 8 6 (patL 5)).all (fun h => patBnd (xv h) 5) = true := by decide +kernel
theorem bnd5_7 : (cutL 8 7 (patL 5)).all (fun h => patBnd (xv h) 5) = true := by decide +kernel
theorem bnd5_8 : (cutL 8 8 (patL 5)).all (fun h => patBnd (xv h) 5) = true := by decide +kernel
theorem bnd5_9 : (cutL 8 9 (patL 5)).all (fun h => patBnd (xv h) 5) = true := by decide +kernel
theorem bnd_of {hs : List Nat} {a n : Nat} (hp : Pts hs a) (hn : hs.length = n) (n1 : 1 ≤ n) (n5 : n ≤ 5) : patBnd (xv hs) n = true := by
  refine all_of (f := fun n h => patBnd (xv h) n) bnd_lo (fun j hj => ?_) hp hn n1 n5
  rcases (show j = 0 ∨ j = 1 ∨ j = 2 ∨ j = 3 ∨ j = 4 ∨ j = 5 ∨ j = 6 ∨ j = 7 ∨ j = 8 ∨ j = 9 by omega) with e | e | e | e | e | e | e | e | e | e <;> subst e
  · exact bnd5_0
  · exact bnd5_1
  · exact bnd5_2
  · exact bnd5_3
  · exact bnd5_4
  · exact bnd5_5
  · exact bnd5_6
  · exact bnd5_7
  · exact bnd5_8
  · exact bnd5_9
end Go.Proofs.Ytlpibibpckkjhaa
