/-
  Plain law: the nodes and weights of even masses, as lists.
-/
import Derived.Test.YtlpibibpckkjhaaEvnF
namespace Go.Proofs.Ytlpibibpckkjhaa
open Go.RowKit

theorem node_ok (n k : Nat) (h1 : 1 ≤ n) (h8 : n ≤ 8) (hk : k < n) : nodeB n k = true := by
  have a1 := nodes1
  have a2 := nodes2
  have a3 := nodes3
  have a4 := nodes4
  have a5 := nodes5
  have a6 := nodes6
  have a7 := nodes7
  have a8 := nodes8
  have hm : k ∈ List.range n := List.mem_range.2 hk
  obtain rfl | rfl | rfl | rfl | rfl | rfl | rfl | rfl : n = 1 ∨ n = 2 ∨ n = 3 ∨ n = 4 ∨ n = 5 ∨ n = 6 ∨ n = 7 ∨ n = 8 := by omega
  · exact List.all_eq_true.1 a1 k hm
  · exact List.all_eq_true.1 a2 k hm
  · exact List.all_eq_true.1 a3 k hm
  · exact List.all_eq_true.1 a4 k hm
  · exact List.all_eq_true.1 a5 k hm
  · exact List.all_eq_true.1 a6 k hm
  · exact List.all_eq_true.1 a7 k hm
  · exact List.all_eq_true.1 a8 k hm
/-- The node and the weight. -/
def nodeN (n k : Nat) : Nat := ((nodeO n k).getD (0, 0)).1
def nodeW (n k : Nat) : Nat := ((nodeO n k).getD (0, 0)).2
theorem node_some (n k : Nat) (h1 : 1 ≤ n) (h8 : n ≤ 8) (hk : k < n) : nodeO n k = some (nodeN n k, nodeW n k) ∧ fin32B (nodeN n k) = true ∧ fin32B (nodeW n k) = true := by
  have h := node_ok n k h1 h8 hk
  unfold nodeB at h
  cases hn : nodeO n k with
  | none => rw [hn] at h; simp at h
  | some p =>
    rw [hn] at h
    simp only [Option.any_some, Bool.and_eq_true] at h
    simp only [nodeN, nodeW, hn, Option.getD_some]
    exact ⟨trivial, h.1, h.2⟩
def nodesL (n k : Nat) : List Nat := (List.range k).map (nodeN n)
def weightsL (n k : Nat) : List Nat := (List.range k).map (nodeW n)
@[simp] theorem nodesL_len (n k : Nat) : (nodesL n k).length = k := by simp [nodesL]
@[simp] theorem weightsL_len (n k : Nat) : (weightsL n k).length = k := by simp [weightsL]
theorem nodesL_succ (n k : Nat) : nodesL n k ++ [nodeN n k] = nodesL n (k + 1) := by simp [nodesL, List.range_succ]
theorem weightsL_succ (n k : Nat) : weightsL n k ++ [nodeW n k] = weightsL n (k + 1) := by simp [weightsL, List.range_succ]
theorem nodesL_fin (n : Nat) (h1 : 1 ≤ n) (h8 : n ≤ 8) : (nodesL n n).all fin32B = true := by
  refine List.all_eq_true.2 fun x hx => ?_
  obtain ⟨k, hk, rfl⟩ := List.mem_map.1 hx
  exact (node_some n k h1 h8 (List.mem_range.1 hk)).2.1
theorem weightsL_fin (n : Nat) (h1 : 1 ≤ n) (h8 : n ≤ 8) : (weightsL n n).all fin32B = true := by
  refine List.all_eq_true.2 fun x hx => ?_
  obtain ⟨k, hk, rfl⟩ := List.mem_map.1 hx
  exact (node_some n k h1 h8 (List.mem_range.1 hk)).2.2
end Go.Proofs.Ytlpibibpckkjhaa
