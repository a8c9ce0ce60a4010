/-
  Contracts: the rule of the polynomials of kind 2 (impl.rule, spec.l06Rule).
-/
import Derived.Test.YtlpibibpckkjhaaFinB
import Derived.Test.YtlpibibpckkjhaaEvnP
import Derived.Test.YtlpibibpckkjhaaAppend
namespace Go.Proofs.Ytlpibibpckkjhaa
open Go.RowKit

set_option maxRecDepth 100000 in
theorem rule_any (k a c : Nat) (h : ruleO k = some (a, c)) (w : World) :
    Calls Try.prog 55 #[.int .i64 2, .int .i64 (k : Int)] w fun e w' => e = .returned (.tuple #[.float .f32 a, .float .f32 0, .float .f32 c]) ∧ Below w.heap.size w w' := by
  obtain ⟨u1, u2, d, f1, f2, f3, f4, f5⟩ := rule_parts h
  have k1 := ar32 _ _ _ _ f1
  have k2 := ar32 _ _ _ _ f2
  have k3 := ar32 _ _ _ _ f3
  have k4 := ar32 _ _ _ _ f4
  have k5 := ar32 _ _ _ _ f5
  clear h f1 f2 f3 f4 f5
  go_enter Try.func55, Try.ntmps55
  go_wp2
  go_ret3
  exact ⟨rfl, Below.refl _ _⟩
end Go.Proofs.Ytlpibibpckkjhaa
