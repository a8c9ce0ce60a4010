/-
  No cell of these rows narrows 'for every input' (looked for: loops, veiled, ifaces, maps, wideKeys, modest, calm, conditions, laid).
  DERIVED. THE GIVEN ROWS OF THIS SEAT. 4 by the template 'for every input the law returns true; each argument reads behind the call as it read before'; 0 by the template 'total and deterministic' (their statements: YtciakaecdllfcaaTotals.lean).
  GIVEN WITH THE SEED: the statements are not yours to turn. If you find one false, say at which input.
  Laid BY PROGRAM, IN A SANDBOX (cutbox-rows.mjs): the forced cells as the released guide's own fill.sh prints them over the translation 3969124ac3a4b442… (all of the seat's roots in one cut). By AI agents, Wed Nov 11 2026. No macro, syntax, notation, axiom, sorry.
-/
import Derived.Test.YtciakaecdllfcaaChecked
import GoSem.Claim
import GoSem.ClaimJoined
import GoSem.ClaimMapViews
import Derived.JoinedTies
import Derived.KernelRfl
namespace Go.Proofs.Ytciakaecdllfcaa
/- THE CELL 'sum', in the pinned program and in every row, IS THE sha256 OF THE DUMP (.gsa) THAT YtciakaecdllfcaaProg.lean LOADS. Nothing in Lean hashes anything: it is a label: what it is worth is what the hold of that sum in a sandbox is worth. -/
noncomputable def Try.pinned : Pinned := { name := "ytciakaecdllfcaa", sum := "3969124ac3a4b442a6cef41f920987d960d094d4526b76ea0ba85319ae022a30", checked := Try.checked }
namespace Rows
def none {H : Type} : Left H := { results := [], args := [] }

/-- 'laws.FnExactFollowRule': WHATEVER THE INPUT: true; the input reads as it did. -/
def fnExactFollowRuleSpec : ChangeSpec := { name := "fnExactFollowRule", fn := fun _ => fun
  | [d1, d2, d3, d4] => { results := [.lit (.bool true)], args := [d1, d2, d3, d4] }
  | _ => none }
def fnExactFollowRuleRow : OpenClaim := { program := "ytciakaecdllfcaa", sum := "3969124ac3a4b442a6cef41f920987d960d094d4526b76ea0ba85319ae022a30", func := "loop.example/g01358/laws.FnExactFollowRule", spec := "fnExactFollowRule", unfollowed := true, recurses := true, apart := false }
def FnExactFollowRuleSaid : Prop := fnExactFollowRuleRow.holds Try.pinned (OpenSpec.ofChange fnExactFollowRuleSpec)

/-- ITS FALSE NEIGHBOUR: 'it returns false'. Refute it at one input. -/
def fnExactFollowRuleWrong : ChangeSpec := { name := "fnExactFollowRule", fn := fun _ => fun
  | [d1, d2, d3, d4] => { results := [.lit (.bool false)], args := [d1, d2, d3, d4] }
  | _ => none }
def FnExactFollowRuleWrongFalsely : Prop := fnExactFollowRuleRow.holds Try.pinned (OpenSpec.ofChange fnExactFollowRuleWrong)

/-- 'laws.FnRuled': WHATEVER THE INPUT: true; the input reads as it did. -/
def fnRuledSpec : ChangeSpec := { name := "fnRuled", fn := fun _ => fun
  | [d1, d2] => { results := [.lit (.bool true)], args := [d1, d2] }
  | _ => none }
def fnRuledRow : OpenClaim := { program := "ytciakaecdllfcaa", sum := "3969124ac3a4b442a6cef41f920987d960d094d4526b76ea0ba85319ae022a30", func := "loop.example/g01358/laws.FnRuled", spec := "fnRuled", unfollowed := true, recurses := true, apart := false }
def FnRuledSaid : Prop := fnRuledRow.holds Try.pinned (OpenSpec.ofChange fnRuledSpec)

/-- ITS FALSE NEIGHBOUR: 'it returns false'. Refute it at one input. -/
def fnRuledWrong : ChangeSpec := { name := "fnRuled", fn := fun _ => fun
  | [d1, d2] => { results := [.lit (.bool false)], args := [d1, d2] }
  | _ => none }
def FnRuledWrongFalsely : Prop := fnRuledRow.holds Try.pinned (OpenSpec.ofChange fnRuledWrong)

/-- 'laws.FnExactNewDesk': WHATEVER THE INPUT: true; the input reads as it did. -/
def fnExactNewDeskSpec : ChangeSpec := { name := "fnExactNewDesk", fn := fun _ => fun
  | [] => { results := [.lit (.bool true)], args := [] }
  | _ => none }
def fnExactNewDeskRow : OpenClaim := { program := "ytciakaecdllfcaa", sum := "3969124ac3a4b442a6cef41f920987d960d094d4526b76ea0ba85319ae022a30", func := "loop.example/g01358/laws.FnExactNewDesk", spec := "fnExactNewDesk", apart := false }
def FnExactNewDeskSaid : Prop := fnExactNewDeskRow.holds Try.pinned (OpenSpec.ofChange fnExactNewDeskSpec)

/-- ITS FALSE NEIGHBOUR: 'it returns false'. Refute it at one input. -/
def fnExactNewDeskWrong : ChangeSpec := { name := "fnExactNewDesk", fn := fun _ => fun
  | [] => { results := [.lit (.bool false)], args := [] }
  | _ => none }
def FnExactNewDeskWrongFalsely : Prop := fnExactNewDeskRow.holds Try.pinned (OpenSpec.ofChange fnExactNewDeskWrong)

/-- 'laws.FnExactRuleOver': WHATEVER THE INPUT: true; the input reads as it did. -/
def fnExactRuleOverSpec : ChangeSpec := { name := "fnExactRuleOver", fn := fun _ => fun
  | [d1, d2] => { results := [.lit (.bool true)], args := [d1, d2] }
  | _ => none }
def fnExactRuleOverRow : OpenClaim := { program := "ytciakaecdllfcaa", sum := "3969124ac3a4b442a6cef41f920987d960d094d4526b76ea0ba85319ae022a30", func := "loop.example/g01358/laws.FnExactRuleOver", spec := "fnExactRuleOver", unfollowed := true, recurses := true, apart := false }
def FnExactRuleOverSaid : Prop := fnExactRuleOverRow.holds Try.pinned (OpenSpec.ofChange fnExactRuleOverSpec)

/-- ITS FALSE NEIGHBOUR: 'it returns false'. Refute it at one input. -/
def fnExactRuleOverWrong : ChangeSpec := { name := "fnExactRuleOver", fn := fun _ => fun
  | [d1, d2] => { results := [.lit (.bool false)], args := [d1, d2] }
  | _ => none }
def FnExactRuleOverWrongFalsely : Prop := fnExactRuleOverRow.holds Try.pinned (OpenSpec.ofChange fnExactRuleOverWrong)

/- THE SECOND FORM. 'bulk': how many values and letters a reading holds, each counted each time it is reached (what is shared counts as often as it is met; a slice's spare places count too). A statement '..UptoSaid' is the law's where the arguments, and the package variables that the reading takes, are together of bulk at most 1048576: NARROWER than '..Said'. Prove '..Said' where nothing that the law and all that it calls make is longer than what came in: it says more and counts as full. Else prove '..UptoSaid'. A law counts once. -/
mutual
def uptoBulk {H : Type} : DataW H → Nat
  | .lit (.string bytes) => bytes.length + 1
  | .lit _ => 1
  | .nil => 1
  | .ptr d => uptoBulk d + 1
  | .slice elems spare => uptoBulkAll elems + uptoBulkAll spare + 1
  | .agg parts => uptoBulkAll parts + 1
  | .iface _ d => uptoBulk d + 1
  | .map entries => uptoBulkEntries entries + 1
  | .held _ => 1
def uptoBulkAll {H : Type} : List (DataW H) → Nat
  | [] => 0
  | d :: r => uptoBulk d + uptoBulkAll r
def uptoBulkEntries {H : Type} : List (Lit × DataW H) → Nat
  | [] => 0
  | x :: r => uptoBulkEntry x + uptoBulkEntries r
def uptoBulkEntry {H : Type} : Lit × DataW H → Nat
  | (.string bytes, d) => bytes.length + uptoBulk d + 1
  | (_, d) => uptoBulk d + 1
 end
def uptoSmall : (H : Type) → List (DataW H) → Bool := fun _ ds => decide (uptoBulkAll ds ≤ 1048576)
def OpenSpec.upto (s : _root_.Go.ChangeSpec) : _root_.Go.OpenSpec := { _root_.Go.OpenSpec.ofChange s with cond := some uptoSmall }

/-- 'laws.FnExactFollowRule', WHERE WHAT IT READS IS OF BULK AT MOST 1048576: true; the input reads as it did. -/
def fnExactFollowRuleUptoRow : OpenClaim := { program := "ytciakaecdllfcaa", sum := "3969124ac3a4b442a6cef41f920987d960d094d4526b76ea0ba85319ae022a30", func := "loop.example/g01358/laws.FnExactFollowRule", spec := "fnExactFollowRule", unfollowed := true, recurses := true, apart := false, narrowed := true }
def FnExactFollowRuleUptoSaid : Prop := fnExactFollowRuleUptoRow.holds Try.pinned (OpenSpec.upto fnExactFollowRuleSpec)

/-- 'laws.FnRuled', WHERE WHAT IT READS IS OF BULK AT MOST 1048576: true; the input reads as it did. -/
def fnRuledUptoRow : OpenClaim := { program := "ytciakaecdllfcaa", sum := "3969124ac3a4b442a6cef41f920987d960d094d4526b76ea0ba85319ae022a30", func := "loop.example/g01358/laws.FnRuled", spec := "fnRuled", unfollowed := true, recurses := true, apart := false, narrowed := true }
def FnRuledUptoSaid : Prop := fnRuledUptoRow.holds Try.pinned (OpenSpec.upto fnRuledSpec)

/-- 'laws.FnExactNewDesk', WHERE WHAT IT READS IS OF BULK AT MOST 1048576: true; the input reads as it did. -/
def fnExactNewDeskUptoRow : OpenClaim := { program := "ytciakaecdllfcaa", sum := "3969124ac3a4b442a6cef41f920987d960d094d4526b76ea0ba85319ae022a30", func := "loop.example/g01358/laws.FnExactNewDesk", spec := "fnExactNewDesk", apart := false, narrowed := true }
def FnExactNewDeskUptoSaid : Prop := fnExactNewDeskUptoRow.holds Try.pinned (OpenSpec.upto fnExactNewDeskSpec)

/-- 'laws.FnExactRuleOver', WHERE WHAT IT READS IS OF BULK AT MOST 1048576: true; the input reads as it did. -/
def fnExactRuleOverUptoRow : OpenClaim := { program := "ytciakaecdllfcaa", sum := "3969124ac3a4b442a6cef41f920987d960d094d4526b76ea0ba85319ae022a30", func := "loop.example/g01358/laws.FnExactRuleOver", spec := "fnExactRuleOver", unfollowed := true, recurses := true, apart := false, narrowed := true }
def FnExactRuleOverUptoSaid : Prop := fnExactRuleOverUptoRow.holds Try.pinned (OpenSpec.upto fnExactRuleOverSpec)

end Rows
end Go.Proofs.Ytciakaecdllfcaa
