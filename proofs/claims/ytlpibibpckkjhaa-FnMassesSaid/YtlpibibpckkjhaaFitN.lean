/-
  Plain: fits of as few numbers as can be: degree 0 and 1 by all their cases; the fit that is a mean.
-/
import Derived.Test.YtlpibibpckkjhaaDraw
import Derived.Test.YtlpibibpckkjhaaFitB
namespace Go.Proofs.Ytlpibibpckkjhaa
open Go.RowKit

/-- A quarter as a word. -/
def qw (x : Nat) : Nat := qt ((x : Int) - 8) 1082130432
def xsN : Nat → Nat
  | 0 => 3212836864
  | 1 => 0
  | _ => 1065353216
def onesN (n : Nat) : List Nat := List.replicate n 1065353216
def goodFit (n : Nat) (ys : List Nat) (l : List (Nat × Nat)) : Bool :=
  decide (1 ≤ l.length) && decide (l.length ≤ 3) && polyB l && (List.range l.length).all (fun k => decide (-5 ≤ reV l k) && decide (reV l k ≤ 5) && decide (-5 ≤ imV l k) && decide (imV l k ≤ 5)) &&
  (List.range n).all fun k => decide (polS (reV l) (V32 (xsN k)) l.length ≤ V32 (ys.getD k 0) + 1 / 100) && decide (V32 (ys.getD k 0) ≤ polS (reV l) (V32 (xsN k)) l.length + 1 / 100)
def fitB (n : Nat) (ys : List Nat) : Bool := match fitAns ((List.range n).map xsN) ys (onesN n) ((n : Int) - 1) with
  | some l => goodFit n ys l
  | none => false
theorem fit1 : (List.range 17).all (fun a => fitB 1 [qw a]) = true := by decide +kernel
theorem fit2 : (List.range 17).all (fun a => (List.range 17).all fun b => fitB 2 [qw a, qw b]) = true := by decide +kernel
theorem mean_ok : (match fitAns [0, 1065353216, 1073741824] [1065353216, 1073741824, 1086324736] [1065353216, 1065353216, 1065353216] 0 with
  | some l => l.length == 1 && decide (reV l 0 ≤ 3 + 1 / 10000) && decide (3 ≤ reV l 0 + 1 / 10000) && decide (imV l 0 = 0) && polyB l
  | none => false) = true := by decide +kernel
end Go.Proofs.Ytlpibibpckkjhaa
