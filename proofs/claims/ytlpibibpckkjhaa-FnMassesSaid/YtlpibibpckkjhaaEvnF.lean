/-
  Plain laws: for 1 to 8 nodes of even masses no float step is without an answer; nodes and weights are finite.
-/
import Derived.Test.YtlpibibpckkjhaaEvnP
namespace Go.Proofs.Ytlpibibpckkjhaa
open Go.RowKit
/-- A node and its weight are there and finite. -/
def nodeB (n k : Nat) : Bool := (nodeO n k).any fun p => fin32B p.1 && fin32B p.2
theorem nodes1 : (List.range 1).all (nodeB 1) = true := by decide +kernel
theorem nodes2 : (List.range 2).all (nodeB 2) = true := by decide +kernel
theorem nodes3 : (List.range 3).all (nodeB 3) = true := by decide +kernel
theorem nodes4 : (List.range 4).all (nodeB 4) = true := by decide +kernel
theorem nodes5 : (List.range 5).all (nodeB 5) = true := by decide +kernel
theorem nodes6 : (List.range 6).all (nodeB 6) = true := by decide +kernel
theorem nodes7 : (List.range 7).all (nodeB 7) = true := by decide +kernel
theorem nodes8 : (List.range 8).all (nodeB 8) = true := by decide +kernel
end Go.Proofs.Ytlpibibpckkjhaa
