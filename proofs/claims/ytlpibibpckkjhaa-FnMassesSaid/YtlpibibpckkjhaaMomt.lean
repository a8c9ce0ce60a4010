/-
  The moments of the nodes against their weights (plain).
-/
import Derived.Test.YtlpibibpckkjhaaExMs
import Derived.Test.YtlpibibpckkjhaaEvnI
namespace Go.Proofs.Ytlpibibpckkjhaa
open Go.RowKit

/-- The nodes and their weights as words. -/
def nodeT : Nat → List (Nat × Nat)
  | 1 => [(2147483648, 1073741824)]
  | 2 => [(1058262330, 1065353217), (3205745978, 1065353217)]
  | 3 => [(1061571576, 1057896675), (2147483648, 1063489081), (3209055224, 1057896675)]
  | 4 => [(1063023470, 1051859463), (1051595263, 1059517179), (3199078911, 1059517179), (3210507119, 1051859456)]
  | 5 => [(1063779176, 1047698664), (1057610016, 1056247502), (2147483648, 1058120372), (3205093664, 1056247502), (3211262824, 1047698664)]
  | 6 => [(1064220243, 1043296169), (1059669252, 1052292542), (1047812246, 1055887979), (3195295894, 1055887979), (3207152900, 1052292542), (3211703891, 1043296169)]
  | 7 => [(1064499389, 1040488364), (1061016829, 1049572744), (1053805296, 1052999482), (2147483648, 1054211775), (3201288944, 1052999482), (3208500477, 1049572744), (3211983037, 1040488364)]
  | 8 => [(1064686990, 1036996855), (1061941846, 1046722520), (1057392971, 1050713640), (1044108874, 1052357041), (3191592522, 1052357041), (3204876619, 1050713640), (3209425494, 1046722520), (3212170638, 1036996855)]
  | _ => []
def tabB (n : Nat) : Bool := (List.range n).map (fun k => (nodeN n k, nodeW n k)) == nodeT n
theorem tab1 : tabB 1 = true := by decide +kernel
theorem tab2 : tabB 2 = true := by decide +kernel
theorem tab3 : tabB 3 = true := by decide +kernel
theorem tab4 : tabB 4 = true := by decide +kernel
theorem tab5 : tabB 5 = true := by decide +kernel
theorem tab6 : tabB 6 = true := by decide +kernel
theorem tab7 : tabB 7 = true := by decide +kernel
theorem tab8 : tabB 8 = true := by decide +kernel
theorem node_tab (n k : Nat) (h1 : 1 ≤ n) (h8 : n ≤ 8) (hk : k < n) : (nodeN n k, nodeW n k) = (nodeT n).getD k (0, 0) := by
  have h : tabB n = true := by
    obtain rfl | rfl | rfl | rfl | rfl | rfl | rfl | rfl : n = 1 ∨ n = 2 ∨ n = 3 ∨ n = 4 ∨ n = 5 ∨ n = 6 ∨ n = 7 ∨ n = 8 := by omega
    · exact tab1
    · exact tab2
    · exact tab3
    · exact tab4
    · exact tab5
    · exact tab6
    · exact tab7
    · exact tab8
  unfold tabB at h
  rw [← eq_of_beq h]
  simp [List.getD, hk]
def nX (n i : Nat) : Rat := V32 ((nodeT n).getD i (0, 0)).1
def nW (n i : Nat) : Rat := V32 ((nodeT n).getD i (0, 0)).2
def wSum (n : Nat) : Nat → Rat
  | 0 => 0
  | j + 1 => wSum n j + nW n j
def mom (n k : Nat) : Nat → Rat
  | 0 => 0
  | j + 1 => mom n k j + nW n j * pwx (nX n j) k
/-- The values at j nodes, each by its weight. -/
def mS (f : Nat → Rat) (n N : Nat) : Nat → Rat
  | 0 => 0
  | j + 1 => mS f n N j + nW n j * polS f (nX n j) N
def exT (k : Nat) : Rat := if k % 2 = 0 then 2 / ((k + 1 : Nat) : Rat) else 0
def nodeFacts (n k : Nat) : Bool := decide (-999 / 1000 ≤ nX n k) && decide (nX n k ≤ 999 / 1000) && decide (0 < nW n k) && decide (nW n k ≤ 2001 / 1000) && decide (nX n k + nX n (n - 1 - k) ≤ 1 / 100000) && decide (-(1 / 100000) ≤ nX n k + nX n (n - 1 - k)) && (k == 0 || decide (nX n k < nX n (k - 1)))
def momFacts (n k : Nat) : Bool := decide (mom n k n ≤ exT k + 1 / 100000) && decide (exT k ≤ mom n k n + 1 / 100000)
def wFacts (n k : Nat) : Bool := decide (0 ≤ wSum n k) && decide (wSum n k ≤ 2001 / 1000)
theorem nf1 : (List.range 1).all (nodeFacts 1) = true := by decide +kernel
theorem wf1 : (List.range 2).all (wFacts 1) = true := by decide +kernel
theorem mf1 : (List.range 2).all (momFacts 1) = true := by decide +kernel
theorem nf2 : (List.range 2).all (nodeFacts 2) = true := by decide +kernel
theorem wf2 : (List.range 3).all (wFacts 2) = true := by decide +kernel
theorem mf2 : (List.range 4).all (momFacts 2) = true := by decide +kernel
theorem nf3 : (List.range 3).all (nodeFacts 3) = true := by decide +kernel
theorem wf3 : (List.range 4).all (wFacts 3) = true := by decide +kernel
theorem mf3 : (List.range 6).all (momFacts 3) = true := by decide +kernel
theorem nf4 : (List.range 4).all (nodeFacts 4) = true := by decide +kernel
theorem wf4 : (List.range 5).all (wFacts 4) = true := by decide +kernel
theorem mf4 : (List.range 8).all (momFacts 4) = true := by decide +kernel
theorem nf5 : (List.range 5).all (nodeFacts 5) = true := by decide +kernel
theorem wf5 : (List.range 6).all (wFacts 5) = true := by decide +kernel
theorem mf5 : (List.range 8).all (momFacts 5) = true := by decide +kernel
theorem nf6 : (List.range 6).all (nodeFacts 6) = true := by decide +kernel
theorem wf6 : (List.range 7).all (wFacts 6) = true := by decide +kernel
theorem mf6 : (List.range 8).all (momFacts 6) = true := by decide +kernel
theorem nf7 : (List.range 7).all (nodeFacts 7) = true := by decide +kernel
theorem wf7 : (List.range 8).all (wFacts 7) = true := by decide +kernel
theorem mf7 : (List.range 8).all (momFacts 7) = true := by decide +kernel
theorem nf8 : (List.range 8).all (nodeFacts 8) = true := by decide +kernel
theorem wf8 : (List.range 9).all (wFacts 8) = true := by decide +kernel
theorem mf8 : (List.range 8).all (momFacts 8) = true := by decide +kernel
theorem node_facts (n k : Nat) (h1 : 1 ≤ n) (h8 : n ≤ 8) (hk : k < n) : nodeFacts n k = true := by
  obtain rfl | rfl | rfl | rfl | rfl | rfl | rfl | rfl : n = 1 ∨ n = 2 ∨ n = 3 ∨ n = 4 ∨ n = 5 ∨ n = 6 ∨ n = 7 ∨ n = 8 := by omega
  · exact List.all_eq_true.1 nf1 k (List.mem_range.2 (by omega))
  · exact List.all_eq_true.1 nf2 k (List.mem_range.2 (by omega))
  · exact List.all_eq_true.1 nf3 k (List.mem_range.2 (by omega))
  · exact List.all_eq_true.1 nf4 k (List.mem_range.2 (by omega))
  · exact List.all_eq_true.1 nf5 k (List.mem_range.2 (by omega))
  · exact List.all_eq_true.1 nf6 k (List.mem_range.2 (by omega))
  · exact List.all_eq_true.1 nf7 k (List.mem_range.2 (by omega))
  · exact List.all_eq_true.1 nf8 k (List.mem_range.2 (by omega))
theorem w_facts (n k : Nat) (h1 : 1 ≤ n) (h8 : n ≤ 8) (hk : k ≤ n) : wFacts n k = true := by
  obtain rfl | rfl | rfl | rfl | rfl | rfl | rfl | rfl : n = 1 ∨ n = 2 ∨ n = 3 ∨ n = 4 ∨ n = 5 ∨ n = 6 ∨ n = 7 ∨ n = 8 := by omega
  · exact List.all_eq_true.1 wf1 k (List.mem_range.2 (by omega))
  · exact List.all_eq_true.1 wf2 k (List.mem_range.2 (by omega))
  · exact List.all_eq_true.1 wf3 k (List.mem_range.2 (by omega))
  · exact List.all_eq_true.1 wf4 k (List.mem_range.2 (by omega))
  · exact List.all_eq_true.1 wf5 k (List.mem_range.2 (by omega))
  · exact List.all_eq_true.1 wf6 k (List.mem_range.2 (by omega))
  · exact List.all_eq_true.1 wf7 k (List.mem_range.2 (by omega))
  · exact List.all_eq_true.1 wf8 k (List.mem_range.2 (by omega))
theorem mom_facts (n k : Nat) (h1 : 1 ≤ n) (h8 : n ≤ 8) (hk : k < 2 * n) (hk8 : k < 8) : momFacts n k = true := by
  obtain rfl | rfl | rfl | rfl | rfl | rfl | rfl | rfl : n = 1 ∨ n = 2 ∨ n = 3 ∨ n = 4 ∨ n = 5 ∨ n = 6 ∨ n = 7 ∨ n = 8 := by omega
  · exact List.all_eq_true.1 mf1 k (List.mem_range.2 (by omega))
  · exact List.all_eq_true.1 mf2 k (List.mem_range.2 (by omega))
  · exact List.all_eq_true.1 mf3 k (List.mem_range.2 (by omega))
  · exact List.all_eq_true.1 mf4 k (List.mem_range.2 (by omega))
  · exact List.all_eq_true.1 mf5 k (List.mem_range.2 (by omega))
  · exact List.all_eq_true.1 mf6 k (List.mem_range.2 (by omega))
  · exact List.all_eq_true.1 mf7 k (List.mem_range.2 (by omega))
  · exact List.all_eq_true.1 mf8 k (List.mem_range.2 (by omega))
theorem node_nv (n k : Nat) (h1 : 1 ≤ n) (h8 : n ≤ 8) (hk : k < n) : NV .f32 (nodeN n k) (nX n k) ∧ NV .f32 (nodeW n k) (nW n k) := by
  have h := node_tab n k h1 h8 hk
  obtain ⟨-, f1, f2⟩ := node_some n k h1 h8 hk
  unfold nX nW
  rw [← h]
  exact ⟨nv_of_fin f1, nv_of_fin f2⟩
theorem node_bd (n k : Nat) (h1 : 1 ≤ n) (h8 : n ≤ 8) (hk : k < n) : (-999 / 1000 ≤ nX n k ∧ nX n k ≤ 999 / 1000) ∧ (0 < nW n k ∧ nW n k ≤ 2001 / 1000) ∧ (nX n k + nX n (n - 1 - k) ≤ 1 / 100000 ∧ -(1 / 100000) ≤ nX n k + nX n (n - 1 - k)) ∧ (1 ≤ k → nX n k < nX n (k - 1)) := by
  have h := node_facts n k h1 h8 hk
  unfold nodeFacts at h
  simp only [Bool.and_eq_true, decide_eq_true_eq, Bool.or_eq_true, beq_iff_eq] at h
  obtain ⟨⟨⟨⟨⟨⟨a1, a2⟩, a3⟩, a4⟩, a5⟩, a6⟩, a7⟩ := h
  refine ⟨⟨a1, a2⟩, ⟨a3, a4⟩, ⟨a5, a6⟩, fun hk1 => ?_⟩
  rcases a7 with h0 | h0
  · omega
  · exact h0
theorem wsum_bd (n k : Nat) (h1 : 1 ≤ n) (h8 : n ≤ 8) (hk : k ≤ n) : 0 ≤ wSum n k ∧ wSum n k ≤ 2001 / 1000 := by
  have h := w_facts n k h1 h8 hk
  unfold wFacts at h
  simp only [Bool.and_eq_true, decide_eq_true_eq] at h
  exact h
theorem mS_succ (f : Nat → Rat) (n N : Nat) : ∀ j, mS f n (N + 1) j = mS f n N j + f N * mom n N j
  | 0 => by
    have e1 : mS f n (N + 1) 0 = 0 := rfl
    have e2 : mS f n N 0 = 0 := rfl
    have e3 : mom n N 0 = 0 := rfl
    rw [e1, e2, e3]; grind
  | j + 1 => by
    have ih := mS_succ f n N j
    have e1 : mS f n (N + 1) (j + 1) = mS f n (N + 1) j + nW n j * polS f (nX n j) (N + 1) := rfl
    have e2 : mS f n N (j + 1) = mS f n N j + nW n j * polS f (nX n j) N := rfl
    have e3 : mom n N (j + 1) = mom n N j + nW n j * pwx (nX n j) N := rfl
    have e4 : polS f (nX n j) (N + 1) = polS f (nX n j) N + f N * pwx (nX n j) N := rfl
    rw [e1, e2, e3, e4, ih]
    grind
theorem mS_zero (f : Nat → Rat) (n : Nat) : ∀ j, mS f n 0 j = 0
  | 0 => rfl
  | j + 1 => by
    have ih := mS_zero f n j
    have e1 : mS f n 0 (j + 1) = mS f n 0 j + nW n j * 0 := rfl
    rw [e1, ih]
    grind
/-- The values by their weights are the exact mass, nearly. -/
theorem mass_mom {f : Nat → Rat} {n : Nat} (h1 : 1 ≤ n) (h8 : n ≤ 8) : ∀ N, N ≤ 2 * n → N ≤ 8 → (∀ k, k < N → -4 ≤ f k ∧ f k ≤ 4) → Nr (mS f n N n) (exM f N) (((N : Nat) : Rat) * (1 / 20000))
  | 0, _, _, _ => by
    have e0 : ((0 : Nat) : Rat) = 0 := rfl
    have e3 : exM f 0 = 0 := rfl
    unfold Nr
    rw [mS_zero, e0, e3]
    grind
  | N + 1, h2, h3, hf => by
    have ih := mass_mom (f := f) h1 h8 N (by omega) (by omega) (fun k hk => hf k (by omega))
    have hN := hf N (by omega)
    have hm := mom_facts n N h1 h8 (by omega) (by omega)
    unfold momFacts at hm
    simp only [Bool.and_eq_true, decide_eq_true_eq] at hm
    have e3 : exM f (N + 1) = exM f N + (if N % 2 = 0 then 2 * f N / ((N + 1 : Nat) : Rat) else 0) := rfl
    have e4 : (if N % 2 = 0 then 2 * f N / ((N + 1 : Nat) : Rat) else 0) = f N * exT N := by
      unfold exT
      rcases Nat.mod_two_eq_zero_or_one N with h | h
      · rw [if_pos h, if_pos h, Rat.div_def, Rat.div_def]; grind
      · rw [if_neg (show ¬ N % 2 = 0 by omega), if_neg (show ¬ N % 2 = 0 by omega)]; grind
    rw [mS_succ, e3, e4, nat_succ_rat N]
    unfold Nr at *
    generalize mom n N n = a at *
    generalize exT N = b at *
    generalize f N = c at *
    generalize ((N : Nat) : Rat) = K at *
    have m1 := Rat.mul_nonneg (show (0 : Rat) ≤ 4 - c by grind) (show (0 : Rat) ≤ 1 / 100000 - (a - b) by grind)
    have m2 := Rat.mul_nonneg (show (0 : Rat) ≤ 4 + c by grind) (show (0 : Rat) ≤ 1 / 100000 - (a - b) by grind)
    have m3 := Rat.mul_nonneg (show (0 : Rat) ≤ 4 - c by grind) (show (0 : Rat) ≤ 1 / 100000 + (a - b) by grind)
    have m4 := Rat.mul_nonneg (show (0 : Rat) ≤ 4 + c by grind) (show (0 : Rat) ≤ 1 / 100000 + (a - b) by grind)
    constructor <;> grind
end Go.Proofs.Ytlpibibpckkjhaa
