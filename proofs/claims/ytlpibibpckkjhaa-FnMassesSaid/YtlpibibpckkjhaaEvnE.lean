/-
  Contracts: the nodes and weights of even masses by the reference (spec.EvenNodes).
-/
import Derived.Test.YtlpibibpckkjhaaEvnL
import Derived.Test.YtlpibibpckkjhaaEvnU
import Derived.Test.YtlpibibpckkjhaaFinL
namespace Go.Proofs.Ytlpibibpckkjhaa
open Go.RowKit
theorem within_any (n : Int) (w : World) :
    Calls Try.prog 56 #[.int .i64 n, .int .i64 1, .int .i64 8] w fun e w' => e = .returned (.bool (decide (1 ≤ n) && decide (n ≤ 8))) ∧ w' = w := by
  by_cases h1 : 1 ≤ n <;> by_cases h2 : n ≤ 8
  all_goals
    go_enter Try.func56, Try.ntmps56
    go_wp2
    go_ret
    refine ⟨?_, rfl⟩
    simp [h1, h2]
    try omega

/-- A row that has grown lies apart from another one. -/
theorem row_apart {w : World} {base : Nat} {e : TypeId} {size : Nat} {v1 v1' v2 : Value} {n : Nat} {xs : List Value} {o : Obj} (h : w.ownsRow base e size v2 n xs) (hne : v1.ownBlock ≠ v2.ownBlock)
    (hat : v1'.ownBlock = v1.ownBlock ∨ v1'.ownBlock = some (w.alloc o).heap.size) : v1'.ownBlock ≠ v2.ownBlock := by
  rcases hat with e | e
  · rw [e]; exact hne
  · rw [e]
    intro e2
    have := (h.lt _ e2.symm).2
    simp at this
    omega
end Go.Proofs.Ytlpibibpckkjhaa
