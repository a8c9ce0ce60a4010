/-
  Contract: the reference's fit (spec.FitPoly), whatever the numbers.
-/
import Derived.Test.YtlpibibpckkjhaaRwsW
namespace Go.Proofs.Ytlpibibpckkjhaa
open Go.RowKit
/-- What a fit asks, all but the weights. -/
def fitPre (xs ys ws : List Nat) (d : Int) : Prop :=
  1 ≤ xs.length ∧ xs.length ≤ 17 ∧ ys.length = xs.length ∧ ws.length = xs.length ∧ xs.all fin32B = true ∧ ys.all fin32B = true ∧ 0 ≤ d ∧ d ≤ 4
/-- The equations' matrix. -/
def fitM (xs ys ws : List Nat) (n : Nat) : Mx := mat0 (fun i => cn (xs.getD i 0)) (fun i => cn (ys.getD i 0)) (fun i => cn (ws.getD i 0)) n xs.length
/-- What the equations' solution gives. -/
def FitP (lo n : Nat) (G : Option Mx) (e : Ending) (w' : World) : Prop :=
  (G = none ∧ e = .returned (.tuple #[.agg #[.slice none 0 0], .bool false])) ∨
  (∃ B, G = some B ∧ ∃ l : List Nat, l.length = n ∧ (∀ i, i < n → cn (l.getD i 0) = solO B n n i) ∧ PolP lo (polyB ((reC l).take (trimN (reC l) n))) (trimN (reC l) n) ((reC l).take (trimN (reC l) n)) e w')
theorem noLen {a b : Nat} (h : a ≠ b) : ((a : Int) != (b : Int)) = true := by simp; omega
theorem yesLen {a b : Nat} (h : a = b) : ((a : Int) != (b : Int)) = false := by simp; omega

end Go.Proofs.Ytlpibibpckkjhaa
