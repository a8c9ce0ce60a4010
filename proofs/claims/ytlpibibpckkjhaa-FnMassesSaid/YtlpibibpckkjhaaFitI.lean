/-
  Contract: the program's fit (impl.FitPoly) of lists that are not as they have to be.
-/
import Derived.Test.YtlpibibpckkjhaaFitT
namespace Go.Proofs.Ytlpibibpckkjhaa
open Go.RowKit

theorem within04_any (n : Int) (w : World) :
    Calls Try.prog 56 #[.int .i64 n, .int .i64 0, .int .i64 4] w fun e w' => e = .returned (.bool (decide (0 ≤ n) && decide (n ≤ 4))) ∧ w' = w := by
  by_cases h1 : 0 ≤ n <;> by_cases h2 : n ≤ 4
  all_goals
    go_enter Try.func56, Try.ntmps56
    go_wp2
    go_ret
    refine ⟨?_, rfl⟩
    simp [h1, h2]
    try omega
theorem areFiniteN (A : Option Addr) (c B n : Nat) (l : List Nat) (hl : l.length = n) (w : World) (hr : Reads w B 1 A n (flts l)) (hB : B ≤ w.heap.size) (hn : n ≤ 1048576) :
    Calls Try.prog 45 #[.slice A n c] w fun e w' => e = .returned (.bool (l.all fin32B)) ∧ Below w.heap.size w w' := by
  subst hl; exact areFinite_b A c B l w hr hB hn
theorem containsWN (A : Option Addr) (c B n : Nat) (l : List Nat) (hl : l.length = n) (w : World) (hr : Reads w B 1 A n (flts l)) (hB : B ≤ w.heap.size) (hn : n ≤ 1048576) :
    Calls Try.prog 72 #[.slice A n c, .func (.func 73) #[] #[]] w fun e w' => e = .returned (.bool (!l.all nonegB)) ∧ Below w.heap.size w w' := by
  subst hl; exact containsFuncW_b A c B l w hr hB hn
theorem complexesN (A : Option Addr) (c B n : Nat) (l : List Nat) (hl : l.length = n) (w : World) (hr : Reads w B 1 A n (flts l)) (hB : B ≤ w.heap.size) (h1 : 1 ≤ n) (hn : n ≤ 1000) :
    Calls Try.prog 48 #[.slice A n c] w fun e w' => ∃ g c', e = .returned (.slice (some ⟨g, 0, none⟩) n c') ∧ w'.ownsRow w.heap.size 36 1 (.slice (some ⟨g, 0, none⟩) n c') n (cplx (reC l)) ∧ Below w.heap.size w w' := by
  subst hl; exact complexes_any A c B l w hr hB h1 hn
theorem polyOfN (lo g c n : Nat) (l : List (Nat × Nat)) (hl : l.length = n) (w : World) (ho : Own w lo w.heap.size 36 (some ⟨g, 0, none⟩) (cplx l)) (h1 : 1 ≤ n) (hn : n ≤ 1000) (hc : n ≤ c) :
    Calls Try.prog 47 #[.slice (some ⟨g, 0, none⟩) n c] w fun e w' => PolP lo (polyB (l.take (trimN l n))) (trimN l n) (l.take (trimN l n)) e w' ∧ Below w.heap.size w w' := by
  subst hl; exact polyOf_any lo g c l w ho h1 hn hc

set_option maxRecDepth 100000 in
set_option maxHeartbeats 1600000 in
theorem fitI_no (A1 A2 A3 : Option Addr) (c1 c2 c3 : Nat) (xs ys ws : List Nat) (d : Int) (w : World) (h1 : Reads w w.heap.size 1 A1 xs.length (flts xs)) (h2 : Reads w w.heap.size 1 A2 ys.length (flts ys)) (h3 : Reads w w.heap.size 1 A3 ws.length (flts ws)) (hn1 : xs.length ≤ 1048576) (hn2 : ys.length ≤ 1048576) (hn3 : ws.length ≤ 1048576) (h : ¬ (fitPre xs ys ws d ∧ ws.all leastB = true)) :
    Calls Try.prog 27 #[.slice A1 xs.length c1, .slice A2 ys.length c2, .slice A3 ws.length c3, .int .i64 d] w fun e w' => e = .returned (.tuple #[.agg #[.slice none 0 0], .bool false]) ∧ Below w.heap.size w w' := by
  have hb0 : Below w.heap.size w (w.alloc (.cells #[.slice none 0 0] 33)) := (Below.refl _ _).alloc (Nat.le_refl _) _
  have H1 := areFiniteN A1 c1 w.heap.size xs.length xs rfl _ (h1.below hb0) hb0.size hn1
  have H2 := fun W (h2 : Reads W w.heap.size 1 A2 ys.length (flts ys)) hB => areFiniteN A2 c2 w.heap.size ys.length ys rfl W h2 hB hn2
  have H3 := fun W (h3 : Reads W w.heap.size 1 A3 ws.length (flts ws)) hB => areFiniteN A3 c3 w.heap.size ws.length ws rfl W h3 hB hn3
  have H4 := within04_any d
  have H5 := fun W (h3 : Reads W w.heap.size 1 A3 ws.length (flts ws)) hB => containsWN A3 c3 w.heap.size ws.length ws rfl W h3 hB hn3
  rw [least_all] at h
  unfold fitPre at h
  have hP1 : Blk (w.alloc (.cells #[.slice none 0 0] 33)) w.heap.size 33 #[.slice none 0 0] := Blk.new w _ _
  by_cases a1 : 1 ≤ xs.length
  · by_cases a2 : xs.length ≤ 17
    · by_cases a3 : ys.length = xs.length
      · by_cases a4 : ws.length = xs.length
        · have a3' := yesLen a3
          have a4' := yesLen a4
          replace a3 := Lib.hid a3
          replace a4 := Lib.hid a4
          clear h1 hn1 hn2 hn3
          go_enter Try.func27, Try.ntmps27
          go_wp2_with fail
          (with_reducible refine H1.mono ?_)
          rintro e w1 ⟨rfl, hb1⟩
          clear H1
          have z1 := hb1.size
          simp only [World.size_alloc] at z1
          have hP2 := hP1.below hb1 (by simp)
          have hb2 := hb0.trans (hb1.mono (by simp))
          clear hP1 hb0 hb1
          cases a5 : xs.all fin32B with
          | false =>
            have cP : w1.cell? ⟨w.heap.size, 0, none⟩ = some (.slice none 0 0) := hP2.cell 0
            have fP := hP2.frozen 0
            clear h H2 H3 H4 H5 a5
            go_wp2
            refine bodyPost_ret (v := .tuple #[.agg #[.slice none 0 0], .bool false]) (by simp [results, Try.results27, go_sem, cP]) rfl ?_
            exact ⟨rfl, below_set hb2 (Nat.le_refl _) _⟩
          | true =>
            have H2' := H2 w1 (h2.below hb2) hb2.size
            go_wp2_with fail
            (with_reducible refine H2'.mono ?_)
            rintro e w2 ⟨rfl, hb3⟩
            clear H2 H2'
            have z2 := hb3.size
            have hP3 := hP2.below hb3 (by omega)
            have hb4 := hb2.trans (hb3.mono (by omega))
            clear hP2 hb2 hb3
            cases a6 : ys.all fin32B with
            | false =>
              have cP : w2.cell? ⟨w.heap.size, 0, none⟩ = some (.slice none 0 0) := hP3.cell 0
              have fP := hP3.frozen 0
              clear h H3 H4 H5 a5 a6
              go_wp2
              refine bodyPost_ret (v := .tuple #[.agg #[.slice none 0 0], .bool false]) (by simp [results, Try.results27, go_sem, cP]) rfl ?_
              exact ⟨rfl, below_set hb4 (Nat.le_refl _) _⟩
            | true =>
              have H3' := H3 w2 (h3.below hb4) hb4.size
              go_wp2_with fail
              (with_reducible refine H3'.mono ?_)
              rintro e w3 ⟨rfl, hb5⟩
              clear H3 H3'
              have z3 := hb5.size
              have hP4 := hP3.below hb5 (by omega)
              have hb6 := hb4.trans (hb5.mono (by omega))
              clear hP3 hb4 hb5
              have cP : w3.cell? ⟨w.heap.size, 0, none⟩ = some (.slice none 0 0) := hP4.cell 0
              have fP := hP4.frozen 0
              cases a7 : ws.all fin32B with
              | false =>
                clear h H4 H5 a5 a6 a7
                go_wp2
                refine bodyPost_ret (v := .tuple #[.agg #[.slice none 0 0], .bool false]) (by simp [results, Try.results27, go_sem, cP]) rfl ?_
                exact ⟨rfl, below_set hb6 (Nat.le_refl _) _⟩
              | true =>
                cases hd : (decide (0 ≤ d) && decide (d ≤ 4)) with
                | false =>
                  rw [hd] at H4
                  clear h a5 a6 a7 hd H5
                  go_wp2_with fail
                  refine (H4 _).mono ?_
                  rintro e w4 ⟨rfl, rfl⟩
                  go_wp2
                  refine bodyPost_ret (v := .tuple #[.agg #[.slice none 0 0], .bool false]) (by simp [results, Try.results27, go_sem, cP]) rfl ?_
                  exact ⟨rfl, below_set hb6 (Nat.le_refl _) _⟩
                | true =>
                  have hw : ws.all nonegB = false := by
                    cases e : ws.all nonegB with
                    | false => rfl
                    | true =>
                      simp only [Bool.and_eq_true, decide_eq_true_eq] at hd
                      exact absurd ⟨⟨a1, a2, a3.out, a4.out, a5, a6, hd.1, hd.2⟩, by rw [a7, e]; rfl⟩ h
                  rw [hd] at H4
                  have H5' := H5 w3 (h3.below hb6) hb6.size
                  rw [hw] at H5'
                  clear h a5 a6 a7 hd hw H5 cP fP
                  go_wp2_with fail
                  refine (H4 _).mono ?_
                  rintro e w4 ⟨rfl, rfl⟩
                  go_wp2_with fail
                  (with_reducible refine H5'.mono ?_)
                  rintro e w5 ⟨rfl, hb7⟩
                  have hP5 := hP4.below hb7 (by omega)
                  have cP : w5.cell? ⟨w.heap.size, 0, none⟩ = some (.slice none 0 0) := hP5.cell 0
                  have fP := hP5.frozen 0
                  have hb8 := hb6.trans (hb7.mono (by omega))
                  go_wp2
                  refine bodyPost_ret (v := .tuple #[.agg #[.slice none 0 0], .bool false]) (by simp [results, Try.results27, go_sem, cP]) rfl ?_
                  exact ⟨rfl, below_set hb8 (Nat.le_refl _) _⟩
        · have a3' := yesLen a3
          have a4' := noLen a4
          clear h H1 H2 H3 H4 H5
          go_enter Try.func27, Try.ntmps27
          go_wp2
          refine bodyPost_ret (v := .tuple #[.agg #[.slice none 0 0], .bool false]) (by simp [results, Try.results27, go_sem]) rfl ?_
          exact ⟨rfl, hb0⟩
      · have a3' := noLen a3
        clear h H1 H2 H3 H4 H5
        go_enter Try.func27, Try.ntmps27
        go_wp2
        refine bodyPost_ret (v := .tuple #[.agg #[.slice none 0 0], .bool false]) (by simp [results, Try.results27, go_sem]) rfl ?_
        exact ⟨rfl, hb0⟩
    · clear h H1 H2 H3 H4 H5
      go_enter Try.func27, Try.ntmps27
      go_wp2
      refine bodyPost_ret (v := .tuple #[.agg #[.slice none 0 0], .bool false]) (by simp [results, Try.results27, go_sem]) rfl ?_
      exact ⟨rfl, hb0⟩
  · clear h H1 H2 H3 H4 H5
    go_enter Try.func27, Try.ntmps27
    go_wp2
    refine bodyPost_ret (v := .tuple #[.agg #[.slice none 0 0], .bool false]) (by simp [results, Try.results27, go_sem]) rfl ?_
    exact ⟨rfl, hb0⟩
end Go.Proofs.Ytlpibibpckkjhaa
