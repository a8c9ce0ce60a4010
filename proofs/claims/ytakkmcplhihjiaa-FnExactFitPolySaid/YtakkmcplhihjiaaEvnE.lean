/-
  Contracts: the nodes and weights of even masses by the reference (spec.EvenNodes).
-/
import Derived.Test.YtakkmcplhihjiaaEvnL
import Derived.Test.YtakkmcplhihjiaaEvnU
import Derived.Test.YtakkmcplhihjiaaFinL
namespace Go.Proofs.Ytakkmcplhihjiaa
open Go.RowKit

theorem l00In_any (n : Int) (w : World) :
    Calls Try.prog 16 #[.int .i64 n, .int .i64 1, .int .i64 8] w fun e w' => e = .returned (.bool (decide (1 ≤ n) && decide (n ≤ 8))) ∧ w' = w := by
  by_cases h1 : 1 ≤ n <;> by_cases h2 : n ≤ 8
  all_goals
    go_enter Try.func16, Try.ntmps16
    go_wp2
    go_ret
    refine ⟨?_, rfl⟩
    simp [h1, h2]
    try omega
theorem within_any (n : Int) (w : World) :
    Calls Try.prog 20 #[.int .i64 n, .int .i64 1, .int .i64 8] w fun e w' => e = .returned (.bool (decide (1 ≤ n) && decide (n ≤ 8))) ∧ w' = w := by
  by_cases h1 : 1 ≤ n <;> by_cases h2 : n ≤ 8
  all_goals
    go_enter Try.func20, Try.ntmps20
    go_wp2
    go_ret
    refine ⟨?_, rfl⟩
    simp [h1, h2]
    try omega

/-- A row that has grown lies apart from another one. -/
theorem row_apart {w : World} {base : Nat} {e : TypeId} {size : Nat} {v1 v1' v2 : Value} {n : Nat} {xs : List Value} {o : Obj} (h : w.ownsRow base e size v2 n xs) (hne : v1.ownBlock ≠ v2.ownBlock)
    (hat : v1'.ownBlock = v1.ownBlock ∨ v1'.ownBlock = some (w.alloc o).heap.size) : v1'.ownBlock ≠ v2.ownBlock := by
  rcases hat with e | e
  · rw [e]; exact hne
  · rw [e]
    intro e2
    have := (h.lt _ e2.symm).2
    simp at this
    omega
theorem evenS_no (n : Int) (h : ¬ (1 ≤ n ∧ n ≤ 8)) (w : World) :
    Calls Try.prog 5 #[.int .i64 n] w fun e w' => e = .returned (.tuple #[.slice none 0 0, .slice none 0 0, .bool false]) ∧ w' = w := by
  have H := l00In_any n w
  have hb : (decide (1 ≤ n) && decide (n ≤ 8)) = false := by simp; omega
  rw [hb] at H
  go_enter Try.func5, Try.ntmps5
  go_wp2_with fail
  refine H.mono ?_
  rintro e w1 ⟨rfl, rfl⟩
  go_wp2
  go_ret3
  exact ⟨rfl, rfl⟩

set_option maxRecDepth 100000 in
set_option maxHeartbeats 1600000 in
theorem evenS_any (n : Nat) (h1 : 1 ≤ n) (h8 : n ≤ 8) (w : World) :
    Calls Try.prog 5 #[.int .i64 (n : Int)] w fun e w' => ∃ A c A' c', e = .returned (.tuple #[.slice A n c, .slice A' n c', .bool true]) ∧ Own w' w.heap.size w'.heap.size 38 A (flts (nodesL n n)) ∧ Own w' w.heap.size w'.heap.size 38 A' (flts (weightsL n n)) ∧ Below w.heap.size w w' := by
  have H := l00In_any (n : Int) w
  have hb : (decide (1 ≤ (n : Int)) && decide ((n : Int) ≤ 8)) = true := by simp; omega
  rw [hb] at H
  clear hb
  obtain ⟨i0, hi, hz0, hz1, hz2⟩ := info_parts infoF
  go_enter Try.func5, Try.ntmps5
  go_wp2_with fail
  refine H.mono ?_
  rintro e w1 ⟨rfl, rfl⟩
  clear H
  go_wp2
  have hown1 : ((w1.alloc (.cells #[] 38)).alloc (.cells #[] 38)).ownsRow w1.heap.size 38 1 (.slice (some ⟨w1.heap.size, 0, none⟩) 0 0) 0 (flts (nodesL n 0)) := (World.ownsRow_made w1 #[] 0 (Nat.le_refl _) (by simp [maxLen]) rfl).alloc _
  have hown2 : ((w1.alloc (.cells #[] 38)).alloc (.cells #[] 38)).ownsRow w1.heap.size 38 1 (.slice (some ⟨w1.heap.size + 1, 0, none⟩) 0 0) 0 (flts (weightsL n 0)) := by
    have h := World.ownsRow_made (base := w1.heap.size) (e := 38) (size := 1) (w1.alloc (.cells #[] 38)) #[] 0 (by simp) (by simp [maxLen]) rfl
    simpa [weightsL, flts] using h
  have hb0 : Below w1.heap.size w1 ((w1.alloc (.cells #[] 38)).alloc (.cells #[] 38)) := ((Below.refl _ _).alloc (Nat.le_refl _) _).alloc (by simp) _
  go_loopw [5, 6, 7, 8, 9, 10, 11, 12, 13] (fun v1 v2 q _ _ _ _ _ _ wr => ∃ k : Nat, k ≤ n ∧ q = .int .i64 (k : Int) ∧ wr.ownsRow w1.heap.size 38 1 v1 k (flts (nodesL n k)) ∧ wr.ownsRow w1.heap.size 38 1 v2 k (flts (weightsL n k)) ∧ v1.ownBlock ≠ v2.ownBlock ∧ Below w1.heap.size w1 wr) (fun _ _ q _ _ _ _ _ _ _ => n - (intOf q).toNat)
  case atStart => exact ⟨0, Nat.zero_le _, rfl, hown1, hown2, by simp [Value.ownBlock], hb0⟩
  case round =>
    obtain ⟨k, hk, rfl, ho1, ho2, hne, hbr⟩ := hrel
    clear hown1 hown2 hb0
    obtain ⟨wo, rfl⟩ : ∃ wo : World, wo = wr := ⟨_, rfl⟩
    by_cases hlt : k < n
    · obtain ⟨x0, p, s, e1, e2, e3, e4⟩ := node_parts (node_some n k h1 h8 hlt).1
      obtain ⟨y0, y, r, f1, f2, f3, f4, f5⟩ := start_parts e1
      obtain ⟨a, q, g1, g2, g3⟩ := turn_parts f1
      have HC := l06Cosine_any a _ q y0 y r x0 g2 g3 f3 f4 f5
      have j1 := ar32 _ _ _ _ g1
      have he := Lib.hid e2
      clear g1 g2 g3 f1 f2 f3 f4 f5 e1 e2
      go_wp2_with fail
      refine (HC wo).mono ?_
      rintro e w2 ⟨rfl, rfl⟩
      clear HC
      go_wp2
      go_loopw [8, 9, 10, 11] (fun xv tv _ _ wr => ∃ t x : Nat, t ≤ 12 ∧ tv = .int .i64 (t : Int) ∧ xv = .float .f32 x ∧ Hid (iterO n (12 - t) x = some (nodeN n k)) ∧ Below w2.heap.size w2 wr) (fun _ tv _ _ _ => 12 - (intOf tv).toNat)
      case atStart => exact ⟨0, x0, Nat.zero_le _, rfl, rfl, he, Below.refl _ _⟩
      case round =>
        obtain ⟨t, x, ht, rfl, rfl, hx, hb2⟩ := hrel
        clear he
        obtain ⟨w3, rfl⟩ : ∃ w3 : World, w3 = wr := ⟨_, rfl⟩
        by_cases hlt2 : t < 12
        · have hx1 := hx.out
          rw [show 12 - t = (12 - (t + 1)) + 1 by omega] at hx1
          obtain ⟨x1, i1, i2⟩ := iter_parts hx1
          obtain ⟨p1, s1, d, l1, l2, l3⟩ := nstep_parts i1
          have HS := l06Slope_any n x p1 s1 (by omega) h1 l1 w3
          have j2 := ar32 _ _ _ _ l2
          have j3 := ar32 _ _ _ _ l3
          have hi2 := Lib.hid i2
          clear hx1 i1 i2 l1 l2 l3 hx ho1 ho2
          go_wp2_with fail
          refine HS.mono ?_
          rintro e w4 ⟨rfl, hb4⟩
          go_wp2
          exact ⟨⟨t + 1, x1, by omega, by go_num, rfl, hi2, hb2.trans (hb4.mono hb2.size)⟩, by simp [intOf]; omega⟩
        · obtain rfl : t = 12 := by omega
          have hx1 := hx.out
          unfold iterO at hx1
          cases hx1
          have HS := l06Slope_any n (nodeN n k) p s (by omega) h1 e3 w3
          obtain ⟨t1, t2, t3, t4, g1, g2, g3, g4, g5⟩ := weight_parts e4
          have j1 := ar32 _ _ _ _ g1
          have j2 := ar32 _ _ _ _ g2
          have j3 := ar32 _ _ _ _ g3
          have j4 := ar32 _ _ _ _ g4
          have j5 := ar32 _ _ _ _ g5
          have hsz0 := hbr.size
          have hsz2 := hb2.size
          have ho1 := ownsRow_kp ho1 (Kp.of_below (lo := 0) (hi := 0) hb2) (Nat.zero_le _)
          have ho2 := ownsRow_kp ho2 (Kp.of_below (lo := 0) (hi := 0) hb2) (Nat.zero_le _)
          have eN := nodesL_succ n k
          have eW := weightsL_succ n k
          generalize nodeN n k = xn at *
          generalize nodeW n k = xw at *
          clear e3 e4 g1 g2 g3 g4 g5 hx
          go_wp2_with fail
          refine HS.mono ?_
          rintro e w4 ⟨rfl, hb4⟩
          clear HS
          have hsz4 := hb4.size
          have ho1 := ownsRow_kp ho1 (Kp.of_below (lo := 0) (hi := 0) hb4) (Nat.zero_le _)
          have ho2 := ownsRow_kp ho2 (Kp.of_below (lo := 0) (hi := 0) hb4) (Nat.zero_le _)
          obtain ⟨A1, c1, rfl, -, -, -⟩ := Own.of_row ho1 (Nat.le_refl _)
          obtain ⟨A2, c2, rfl, -, -, -⟩ := Own.of_row ho2 (Nat.le_refl _)
          go_wp2_with (at_builtin; first
            | (refine wpList_append_any _ rfl (.tmp 53) (.tmp 55) _ rfl w1.heap.size 38 i0 _ 1 4 Try.underlying22 hi hz0 hz1 hz2 rfl (by omega) (.slice A1 k c1) k (flts (nodesL n k)) rfl (ho1.alloc _) (w4.heap.size + 1) (some ⟨w4.heap.size, 0, none⟩) 1 1 [.float .f32 xn] rfl (reads_new w4 [_] _) (one_flt xn) (by simp only [maxLen]; omega) (by omega) (by simp; omega) ?_
               intro v1 w5 ho5 hg5 hat5
               rw [flts_snoc, eN] at ho5
               have hb5 : Below w1.heap.size w4 w5 := ((Below.refl _ _).alloc (by omega) _).grown hg5 (by simp; omega) (fun j hj => (ho1.lt j hj).1)
               have hne5 : v1.ownBlock ≠ (Value.slice A2 k c2).ownBlock := row_apart ho2 hne hat5
               have ho6 : w5.ownsRow w1.heap.size 38 1 (.slice A2 k c2) k (flts (weightsL n k)) := (ho2.alloc _).kept hg5 (.inr fun e => hne e.symm)
               have hsz5 := hb5.size
               clear ho1 ho2 hne hat5 hg5)
            | (refine wpList_append_any _ rfl (.tmp 57) (.tmp 67) _ rfl w1.heap.size 38 i0 _ 1 4 Try.underlying22 hi hz0 hz1 hz2 rfl (by omega) (.slice A2 k c2) k (flts (weightsL n k)) rfl (ho6.alloc _) (w5.heap.size + 1) (some ⟨w5.heap.size, 0, none⟩) 1 1 [.float .f32 xw] rfl (reads_new w5 [_] _) (one_flt xw) (by simp only [maxLen]; omega) (by omega) (by simp; omega) ?_
               intro v2 w6 ho7 hg7 hat7
               rw [flts_snoc, eW] at ho7
               have hb6 : Below w1.heap.size w5 w6 := ((Below.refl _ _).alloc (by omega) _).grown hg7 (by simp; omega) (fun j hj => (ho6.lt j hj).1)
               have hne6 : v2.ownBlock ≠ v1.ownBlock := row_apart ho5 hne5.symm hat7
               have ho8 : w6.ownsRow w1.heap.size 38 1 v1 (k + 1) (flts (nodesL n (k + 1))) := (ho5.alloc _).kept hg7 (.inr hne5)
               have hsz6 := hb6.size
               clear ho5 ho6 hne5 hat7 hg7))
          exact ⟨⟨k + 1, by omega, by go_num, ho8, ho7, hne6.symm, hbr.trans ((hb2.mono hsz0).trans ((hb4.mono (by omega)).trans (hb5.trans hb6)))⟩, by simp [intOf]; omega⟩
    · obtain rfl : k = n := by omega
      obtain ⟨A1, c1, rfl, -, -, hO1⟩ := Own.of_row ho1 (Nat.le_refl _)
      obtain ⟨A2, c2, rfl, -, -, hO2⟩ := Own.of_row ho2 (Nat.le_refl _)
      have HF1 := l02Finite_b A1 c1 wo.heap.size (nodesL k k) wo (hO1.reads' (Nat.le_refl _) (by simp)) (Nat.le_refl _) (by simp; omega)
      rw [nodesL_len, nodesL_fin k h1 h8] at HF1
      have hsz0 := hbr.size
      clear ho1 ho2 hne
      go_wp2_with fail
      refine HF1.mono ?_
      rintro e w2 ⟨rfl, hb2⟩
      clear HF1
      have hsz2 := hb2.size
      have HF2 := l02Finite_b A2 c2 w2.heap.size (weightsL k k) w2 ((hO2.below hb2 (Nat.le_refl _)).reads' hsz2 (by simp)) (Nat.le_refl _) (by simp; omega)
      rw [weightsL_len, weightsL_fin k h1 h8] at HF2
      go_wp2_with fail
      refine HF2.mono ?_
      rintro e w3 ⟨rfl, hb3⟩
      clear HF2
      have hsz3 := hb3.size
      go_wp2
      go_ret3
      exact ⟨A1, c1, A2, c2, rfl, ((hO1.below hb2 (Nat.le_refl _)).below hb3 hsz2).wide (Nat.le_refl _) (by omega), ((hO2.below hb2 (Nat.le_refl _)).below hb3 hsz2).wide (Nat.le_refl _) (by omega), (hbr.trans (hb2.mono hsz0)).trans (hb3.mono (by omega))⟩
end Go.Proofs.Ytakkmcplhihjiaa
