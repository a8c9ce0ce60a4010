/-
  No cell of these rows narrows 'for every input' (looked for: loops, veiled, ifaces, maps, wideKeys, modest, calm, conditions, laid).
  DERIVED. THE GIVEN ROWS OF THIS SEAT. 2 by the template 'for every input the law returns true; each argument reads behind the call as it read before'; 0 by the template 'total and deterministic' (their statements: YtakkmcplhihjiaaTotals.lean).
  GIVEN WITH THE SEED: the statements are not yours to turn. If you find one false, say at which input.
  Laid BY PROGRAM, IN A SANDBOX (cutbox-rows.mjs): the forced cells as the released guide's own fill.sh prints them over the translation b9cb83391f5ecfe9… (all of the seat's roots in one cut). By AI agents, Wed Nov 11 2026. No macro, syntax, notation, axiom, sorry.
-/
import Derived.Test.YtakkmcplhihjiaaChecked
import GoSem.Claim
import GoSem.ClaimJoined
import GoSem.ClaimMapViews
import Derived.JoinedTies
import Derived.KernelRfl
namespace Go.Proofs.Ytakkmcplhihjiaa
/- THE CELL 'sum', in the pinned program and in every row, IS THE sha256 OF THE DUMP (.gsa) THAT YtakkmcplhihjiaaProg.lean LOADS. Nothing in Lean hashes anything: it is a label: what it is worth is what the hold of that sum in a sandbox is worth. -/
noncomputable def Try.pinned : Pinned := { name := "ytakkmcplhihjiaa", sum := "b9cb83391f5ecfe935d870801e8296b0d99dc882307b4bf5a61e3e64507d59d5", checked := Try.checked }
namespace Rows
def none {H : Type} : Left H := { results := [], args := [] }

/-- 'laws.FnExactEvenNodes': WHATEVER THE INPUT: true; the input reads as it did. -/
def fnExactEvenNodesSpec : ChangeSpec := { name := "fnExactEvenNodes", fn := fun _ => fun
  | [d] => { results := [.lit (.bool true)], args := [d] }
  | _ => none }
def fnExactEvenNodesRow : OpenClaim := { program := "ytakkmcplhihjiaa", sum := "b9cb83391f5ecfe935d870801e8296b0d99dc882307b4bf5a61e3e64507d59d5", func := "loop.example/g01358/laws.FnExactEvenNodes", spec := "fnExactEvenNodes", inPlace := ["math.Float64frombits", "math.Float64bits", "math.archTrunc"], unfollowed := true, recurses := true, apart := false }
def FnExactEvenNodesSaid : Prop := fnExactEvenNodesRow.holds Try.pinned (OpenSpec.ofChange fnExactEvenNodesSpec)

/-- ITS FALSE NEIGHBOUR: 'it returns false'. Refute it at one input. -/
def fnExactEvenNodesWrong : ChangeSpec := { name := "fnExactEvenNodes", fn := fun _ => fun
  | [d] => { results := [.lit (.bool false)], args := [d] }
  | _ => none }
def FnExactEvenNodesWrongFalsely : Prop := fnExactEvenNodesRow.holds Try.pinned (OpenSpec.ofChange fnExactEvenNodesWrong)

/-- 'laws.FnExactFitPoly': WHATEVER THE INPUT: true; the input reads as it did. -/
def fnExactFitPolySpec : ChangeSpec := { name := "fnExactFitPoly", fn := fun _ => fun
  | [d1, d2, d3, d4] => { results := [.lit (.bool true)], args := [d1, d2, d3, d4] }
  | _ => none }
def fnExactFitPolyRow : OpenClaim := { program := "ytakkmcplhihjiaa", sum := "b9cb83391f5ecfe935d870801e8296b0d99dc882307b4bf5a61e3e64507d59d5", func := "loop.example/g01358/laws.FnExactFitPoly", spec := "fnExactFitPoly", unfollowed := true, recurses := true, apart := false }
def FnExactFitPolySaid : Prop := fnExactFitPolyRow.holds Try.pinned (OpenSpec.ofChange fnExactFitPolySpec)

/-- ITS FALSE NEIGHBOUR: 'it returns false'. Refute it at one input. -/
def fnExactFitPolyWrong : ChangeSpec := { name := "fnExactFitPoly", fn := fun _ => fun
  | [d1, d2, d3, d4] => { results := [.lit (.bool false)], args := [d1, d2, d3, d4] }
  | _ => none }
def FnExactFitPolyWrongFalsely : Prop := fnExactFitPolyRow.holds Try.pinned (OpenSpec.ofChange fnExactFitPolyWrong)

/- THE SECOND FORM. 'bulk': how many values and letters a reading holds, each counted each time it is reached (what is shared counts as often as it is met; a slice's spare places count too). A statement '..UptoSaid' is the law's where the arguments, and the package variables that the reading takes, are together of bulk at most 1048576: NARROWER than '..Said'. Prove '..Said' where nothing that the law and all that it calls make is longer than what came in: it says more and counts as full. Else prove '..UptoSaid'. A law counts once. -/
mutual
def uptoBulk {H : Type} : DataW H → Nat
  | .lit (.string bytes) => bytes.length + 1
  | .lit _ => 1
  | .nil => 1
  | .ptr d => uptoBulk d + 1
  | .slice elems spare => uptoBulkAll elems + uptoBulkAll spare + 1
  | .agg parts => uptoBulkAll parts + 1
  | .iface _ d => uptoBulk d + 1
  | .map entries => uptoBulkEntries entries + 1
  | .held _ => 1
def uptoBulkAll {H : Type} : List (DataW H) → Nat
  | [] => 0
  | d :: r => uptoBulk d + uptoBulkAll r
def uptoBulkEntries {H : Type} : List (Lit × DataW H) → Nat
  | [] => 0
  | x :: r => uptoBulkEntry x + uptoBulkEntries r
def uptoBulkEntry {H : Type} : Lit × DataW H → Nat
  | (.string bytes, d) => bytes.length + uptoBulk d + 1
  | (_, d) => uptoBulk d + 1
 end
def uptoSmall : (H : Type) → List (DataW H) → Bool := fun _ ds => decide (uptoBulkAll ds ≤ 1048576)
def OpenSpec.upto (s : _root_.Go.ChangeSpec) : _root_.Go.OpenSpec := { _root_.Go.OpenSpec.ofChange s with cond := some uptoSmall }

/-- 'laws.FnExactEvenNodes', WHERE WHAT IT READS IS OF BULK AT MOST 1048576: true; the input reads as it did. -/
def fnExactEvenNodesUptoRow : OpenClaim := { program := "ytakkmcplhihjiaa", sum := "b9cb83391f5ecfe935d870801e8296b0d99dc882307b4bf5a61e3e64507d59d5", func := "loop.example/g01358/laws.FnExactEvenNodes", spec := "fnExactEvenNodes", inPlace := ["math.Float64frombits", "math.Float64bits", "math.archTrunc"], unfollowed := true, recurses := true, apart := false, narrowed := true }
def FnExactEvenNodesUptoSaid : Prop := fnExactEvenNodesUptoRow.holds Try.pinned (OpenSpec.upto fnExactEvenNodesSpec)

/-- 'laws.FnExactFitPoly', WHERE WHAT IT READS IS OF BULK AT MOST 1048576: true; the input reads as it did. -/
def fnExactFitPolyUptoRow : OpenClaim := { program := "ytakkmcplhihjiaa", sum := "b9cb83391f5ecfe935d870801e8296b0d99dc882307b4bf5a61e3e64507d59d5", func := "loop.example/g01358/laws.FnExactFitPoly", spec := "fnExactFitPoly", unfollowed := true, recurses := true, apart := false, narrowed := true }
def FnExactFitPolyUptoSaid : Prop := fnExactFitPolyUptoRow.holds Try.pinned (OpenSpec.upto fnExactFitPolySpec)

end Rows
end Go.Proofs.Ytakkmcplhihjiaa
