/-
  Contract: the reference's fit (spec.FitPoly), whatever the numbers.
-/
import Derived.Test.YtakkmcplhihjiaaRwsW
namespace Go.Proofs.Ytakkmcplhihjiaa
open Go.RowKit

theorem l00In04_any (n : Int) (w : World) :
    Calls Try.prog 16 #[.int .i64 n, .int .i64 0, .int .i64 4] w fun e w' => e = .returned (.bool (decide (0 ≤ n) && decide (n ≤ 4))) ∧ w' = w := by
  by_cases h1 : 0 ≤ n <;> by_cases h2 : n ≤ 4
  all_goals
    go_enter Try.func16, Try.ntmps16
    go_wp2
    go_ret
    refine ⟨?_, rfl⟩
    simp [h1, h2]
    try omega
/-- What a fit asks, all but the weights. -/
def fitPre (xs ys ws : List Nat) (d : Int) : Prop :=
  1 ≤ xs.length ∧ xs.length ≤ 17 ∧ ys.length = xs.length ∧ ws.length = xs.length ∧ xs.all fin32B = true ∧ ys.all fin32B = true ∧ 0 ≤ d ∧ d ≤ 4
/-- The equations' matrix. -/
def fitM (xs ys ws : List Nat) (n : Nat) : Mx := mat0 (fun i => cn (xs.getD i 0)) (fun i => cn (ys.getD i 0)) (fun i => cn (ws.getD i 0)) n xs.length
/-- What the equations' solution gives. -/
def FitP (lo n : Nat) (G : Option Mx) (e : Ending) (w' : World) : Prop :=
  (G = none ∧ e = .returned (.tuple #[.agg #[.slice none 0 0], .bool false])) ∨
  (∃ B, G = some B ∧ ∃ l : List Nat, l.length = n ∧ (∀ i, i < n → cn (l.getD i 0) = solO B n n i) ∧ PolP lo (polyB ((reC l).take (trimN (reC l) n))) (trimN (reC l) n) ((reC l).take (trimN (reC l) n)) e w')
theorem noLen {a b : Nat} (h : a ≠ b) : ((a : Int) != (b : Int)) = true := by simp; omega
theorem yesLen {a b : Nat} (h : a = b) : ((a : Int) != (b : Int)) = false := by simp; omega

set_option maxRecDepth 100000 in
set_option maxHeartbeats 800000 in
theorem fitS_no (A1 A2 A3 : Option Addr) (c1 c2 c3 : Nat) (xs ys ws : List Nat) (d : Int) (w : World) (h1 : Reads w w.heap.size 1 A1 xs.length (flts xs)) (h2 : Reads w w.heap.size 1 A2 ys.length (flts ys)) (hn1 : xs.length ≤ 1048576) (hn2 : ys.length ≤ 1048576) (h : ¬ fitPre xs ys ws d) :
    Calls Try.prog 10 #[.slice A1 xs.length c1, .slice A2 ys.length c2, .slice A3 ws.length c3, .int .i64 d] w fun e w' => e = .returned (.tuple #[.agg #[.slice none 0 0], .bool false]) ∧ Below w.heap.size w w' := by
  have hb0 : Below w.heap.size w (w.alloc (.cells #[.slice none 0 0] 30)) := (Below.refl _ _).alloc (Nat.le_refl _) _
  have H1 := l02Finite_b A1 c1 w.heap.size xs _ (h1.below hb0) hb0.size hn1
  have H2 := fun W (h2 : Reads W w.heap.size 1 A2 ys.length (flts ys)) hB => l02Finite_b A2 c2 w.heap.size ys W h2 hB hn2
  have H3 := l00In04_any d
  unfold fitPre at h
  have hP1 : Blk (w.alloc (.cells #[.slice none 0 0] 30)) w.heap.size 30 #[.slice none 0 0] := Blk.new w _ _
  by_cases a1 : 1 ≤ xs.length
  · by_cases a2 : xs.length ≤ 17
    · by_cases a3 : ys.length = xs.length
      · by_cases a4 : ws.length = xs.length
        · have a3' := yesLen a3
          have a4' := yesLen a4
          replace a3 := Lib.hid a3
          replace a4 := Lib.hid a4
          clear h1 hn1 hn2
          go_enter Try.func10, Try.ntmps10
          go_wp2_with fail
          (with_reducible refine H1.mono ?_)
          rintro e w1 ⟨rfl, hb1⟩
          clear H1
          have z1 := hb1.size
          simp only [World.size_alloc] at z1
          have hP2 := hP1.below hb1 (by simp)
          have hb2 := hb0.trans (hb1.mono (by simp))
          clear hP1 hb0 hb1
          cases a5 : xs.all fin32B with
          | false =>
            have cP : w1.cell? ⟨w.heap.size, 0, none⟩ = some (.slice none 0 0) := hP2.cell 0
            have fP := hP2.frozen 0
            clear h H2 H3 a5
            go_wp2
            refine bodyPost_ret (v := .tuple #[.agg #[.slice none 0 0], .bool false]) (by simp [results, Try.results10, go_sem, cP]) rfl ?_
            exact ⟨rfl, below_set hb2 (Nat.le_refl _) _⟩
          | true =>
            have H2' := H2 w1 (h2.below hb2) hb2.size
            go_wp2_with fail
            (with_reducible refine H2'.mono ?_)
            rintro e w2 ⟨rfl, hb3⟩
            clear H2 H2'
            have z2 := hb3.size
            have hP3 := hP2.below hb3 (by omega)
            have hb4 := hb2.trans (hb3.mono (by omega))
            clear hP2 hb2 hb3
            have cP : w2.cell? ⟨w.heap.size, 0, none⟩ = some (.slice none 0 0) := hP3.cell 0
            have fP := hP3.frozen 0
            cases a6 : ys.all fin32B with
            | false =>
              clear h H3 a5 a6
              go_wp2
              refine bodyPost_ret (v := .tuple #[.agg #[.slice none 0 0], .bool false]) (by simp [results, Try.results10, go_sem, cP]) rfl ?_
              exact ⟨rfl, below_set hb4 (Nat.le_refl _) _⟩
            | true =>
              have hd : (decide (0 ≤ d) && decide (d ≤ 4)) = false := by
                cases e : (decide (0 ≤ d) && decide (d ≤ 4)) with
                | false => rfl
                | true => simp at e; exact absurd ⟨a1, a2, a3.out, a4.out, a5, a6, e.1, e.2⟩ h
              rw [hd] at H3
              clear h a5 a6 hd
              go_wp2_with fail
              refine (H3 _).mono ?_
              rintro e w3 ⟨rfl, rfl⟩
              go_wp2
              refine bodyPost_ret (v := .tuple #[.agg #[.slice none 0 0], .bool false]) (by simp [results, Try.results10, go_sem, cP]) rfl ?_
              exact ⟨rfl, below_set hb4 (Nat.le_refl _) _⟩
        · have a3' := yesLen a3
          have a4' := noLen a4
          clear h H1 H2 H3
          go_enter Try.func10, Try.ntmps10
          go_wp2
          refine bodyPost_ret (v := .tuple #[.agg #[.slice none 0 0], .bool false]) (by simp [results, Try.results10, go_sem]) rfl ?_
          exact ⟨rfl, hb0⟩
      · have a3' := noLen a3
        clear h H1 H2 H3
        go_enter Try.func10, Try.ntmps10
        go_wp2
        refine bodyPost_ret (v := .tuple #[.agg #[.slice none 0 0], .bool false]) (by simp [results, Try.results10, go_sem]) rfl ?_
        exact ⟨rfl, hb0⟩
    · clear h H1 H2 H3
      go_enter Try.func10, Try.ntmps10
      go_wp2
      refine bodyPost_ret (v := .tuple #[.agg #[.slice none 0 0], .bool false]) (by simp [results, Try.results10, go_sem]) rfl ?_
      exact ⟨rfl, hb0⟩
  · clear h H1 H2 H3
    go_enter Try.func10, Try.ntmps10
    go_wp2
    refine bodyPost_ret (v := .tuple #[.agg #[.slice none 0 0], .bool false]) (by simp [results, Try.results10, go_sem]) rfl ?_
    exact ⟨rfl, hb0⟩
end Go.Proofs.Ytakkmcplhihjiaa
