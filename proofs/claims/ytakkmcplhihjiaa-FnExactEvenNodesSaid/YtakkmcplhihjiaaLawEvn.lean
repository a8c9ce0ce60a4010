/-
  The law FnExactEvenNodes, walked by contracts.
-/
import Derived.Test.YtakkmcplhihjiaaEvnI
import Derived.Test.YtakkmcplhihjiaaMkF
namespace Go.Proofs.Ytakkmcplhihjiaa
open Go.RowKit

theorem mark_nil (k0 : Int) (w : World) (hk0 : 0 ≤ k0) (hn : k0 < 1024) :
    Calls Try.prog 8 #[.slice none 0 0, .int .i64 k0] w fun e w' => e = .returned (.int .i64 k0) ∧ Below w.heap.size w w' := by
  refine (markFloat32S_any none 0 w.heap.size w.heap.size k0 [] w Own.nil hk0 (by simpa using hn)).mono ?_
  rintro e w' ⟨rfl, -, hk⟩
  exact ⟨by simp, hk.below (Nat.le_refl _) (Nat.le_refl _)⟩
theorem held_nil (k0 : Int) (w : World) (hk0 : 0 ≤ k0) (hn : k0 < 1024) :
    Calls Try.prog 9 #[.slice none 0 0, .int .i64 k0] w fun e w' => e = .returned (.int .i64 k0) ∧ Below w.heap.size w w' := by
  refine (heldFloat32S_b none 0 w.heap.size k0 0 w Reads.none_ hk0 (by simpa using hn)).mono ?_
  rintro e w' ⟨rfl, hk⟩
  exact ⟨by simp, hk⟩

set_option maxRecDepth 100000 in
set_option maxHeartbeats 800000 in
theorem lawEven_no (n : Int) (h : ¬ (1 ≤ n ∧ n ≤ 8)) (w : World) :
    Calls Try.prog 3 #[.int .i64 n] w fun e w' => e = .returned (.bool true) ∧ Below w.heap.size w w' := by
  have HS := evenS_no n h
  have HI := evenI_no n h
  clear h
  go_enter Try.func3, Try.ntmps3
  go_wp2_with fail
  refine (HS w).mono ?_
  rintro e w1 ⟨rfl, rfl⟩
  go_wp2_with fail
  refine (HI w1).mono ?_
  rintro e w2 ⟨rfl, b2⟩
  have y2 := b2
  have z2 := b2.size
  clear b2
  go_wp2_with fail
  refine (eqFloat32S_nil w2).mono ?_
  rintro e w3 ⟨rfl, b3⟩
  have y3 := y2.trans (b3.mono (by omega))
  have z3 := b3.size
  clear y2 b3
  go_wp2_with fail
  refine (eqFloat32S_nil w3).mono ?_
  rintro e w4 ⟨rfl, b4⟩
  have y4 := y3.trans (b4.mono (by omega))
  have z4 := b4.size
  clear y3 b4
  go_wp2_with fail
  refine (mark_nil _ w4 (by omega) (by omega)).mono ?_
  rintro e w5 ⟨rfl, b5⟩
  have y5 := y4.trans (b5.mono (by omega))
  have z5 := b5.size
  clear y4 b5
  go_wp2_with fail
  refine (mark_nil _ w5 (by omega) (by omega)).mono ?_
  rintro e w6 ⟨rfl, b6⟩
  have y6 := y5.trans (b6.mono (by omega))
  have z6 := b6.size
  clear y5 b6
  go_wp2_with fail
  refine (held_nil _ w6 (by omega) (by omega)).mono ?_
  rintro e w7 ⟨rfl, b7⟩
  have y7 := y6.trans (b7.mono (by omega))
  have z7 := b7.size
  clear y6 b7
  go_wp2_with fail
  refine (held_nil _ w7 (by omega) (by omega)).mono ?_
  rintro e w8 ⟨rfl, b8⟩
  have y8 := y7.trans (b8.mono (by omega))
  have z8 := b8.size
  clear y7 b8
  go_wp2_with fail
  refine (HI w8).mono ?_
  rintro e w9 ⟨rfl, b9⟩
  have y9 := y8.trans (b9.mono (by omega))
  have z9 := b9.size
  clear y8 b9
  go_wp2_with fail
  refine (eqFloat32S_nil w9).mono ?_
  rintro e w10 ⟨rfl, b10⟩
  have y10 := y9.trans (b10.mono (by omega))
  have z10 := b10.size
  clear y9 b10
  go_wp2_with fail
  refine (eqFloat32S_nil w10).mono ?_
  rintro e w11 ⟨rfl, b11⟩
  have y11 := y10.trans (b11.mono (by omega))
  have z11 := b11.size
  clear y10 b11
  go_wp2_with fail
  refine (held_nil _ w11 (by omega) (by omega)).mono ?_
  rintro e w12 ⟨rfl, b12⟩
  have y12 := y11.trans (b12.mono (by omega))
  have z12 := b12.size
  clear y11 b12
  go_wp2_with fail
  refine (held_nil _ w12 (by omega) (by omega)).mono ?_
  rintro e w13 ⟨rfl, b13⟩
  have y13 := y12.trans (b13.mono (by omega))
  have z13 := b13.size
  clear y12 b13
  go_wp2
  go_ret
  exact ⟨rfl, y13⟩

theorem eqN (A A' : Option Addr) (c c' B n : Nat) (l : List Nat) (hl : l.length = n) (w : World) (hr : Reads w B 1 A n (flts l)) (hr' : Reads w B 1 A' n (flts l)) (hw : Fins l) (hn : n ≤ 1048576) :
    Calls Try.prog 7 #[.slice A n c, .slice A' n c'] w fun e w' => e = .returned (.bool true) ∧ Below w.heap.size w w' := by
  subst hl
  exact eqFloat32S_b A A' c c' B l w hr hr' hw hn
theorem markN (A : Option Addr) (c lo hi n : Nat) (k0 : Int) (l : List Nat) (hl : l.length = n) (w : World) (ho : Own w lo hi 38 A (flts l)) (hk0 : 0 ≤ k0) (hn : k0 + (n : Int) < 1024) :
    Calls Try.prog 8 #[.slice A n c, .int .i64 k0] w fun e w' => e = .returned (.int .i64 (k0 + (n : Int))) ∧ Own w' lo hi 38 A (flts (fmarks k0 n)) ∧ Kp lo hi w w' := by
  subst hl
  exact markFloat32S_any A c lo hi k0 l w ho hk0 hn

set_option maxRecDepth 100000 in
set_option maxHeartbeats 1600000 in
theorem lawEven_yes (n : Nat) (h1 : 1 ≤ n) (h8 : n ≤ 8) (w : World) :
    Calls Try.prog 3 #[.int .i64 (n : Int)] w fun e w' => e = .returned (.bool true) ∧ Below w.heap.size w w' := by
  have HS := evenS_any n h1 h8
  have HI := evenI_any n h1 h8
  have F1 : Hid (Fins (nodesL n n)) := nodesL_fin n h1 h8
  have F2 : Hid (Fins (weightsL n n)) := weightsL_fin n h1 h8
  go_enter Try.func3, Try.ntmps3
  go_wp2_with fail
  refine (HS w).mono ?_
  rintro e w1 ⟨A, c, A', c', rfl, oA, oB, y1⟩
  have z1 := y1.size
  go_wp2_with fail
  refine (HI w1).mono ?_
  rintro e w2 ⟨g, d, g', d', rfl, hne, oG, oH, p1, p2, p3, p4, b2⟩
  have z2 := b2.size
  replace oA := oA.below b2 (Nat.le_refl _)
  replace oB := oB.below b2 (Nat.le_refl _)
  have y2 := y1.trans (b2.mono z1)
  clear y1 b2 HS
  go_wp2_with fail
  refine (eqN (some ⟨g, 0, none⟩) A d c w2.heap.size n (nodesL n n) (by simp) w2 (oG.reads' (by omega) (by simp)) (oA.reads' (by omega) (by simp)) F1.out (by omega)).mono ?_
  rintro e w3 ⟨rfl, b3⟩
  have z3 := b3.size
  replace oA := oA.below b3 (by omega)
  replace oB := oB.below b3 (by omega)
  replace oG := oG.below b3 (by omega)
  replace oH := oH.below b3 (by omega)
  have y3 := y2.trans (b3.mono (by omega))
  clear y2 b3
  go_wp2_with fail
  refine (eqN (some ⟨g', 0, none⟩) A' d' c' w3.heap.size n (weightsL n n) (by simp) w3 (oH.reads' (by omega) (by simp)) (oB.reads' (by omega) (by simp)) F2.out (by omega)).mono ?_
  rintro e w4 ⟨rfl, b4⟩
  have z4 := b4.size
  replace oA := oA.below b4 (by omega)
  replace oB := oB.below b4 (by omega)
  replace oG := oG.below b4 (by omega)
  replace oH := oH.below b4 (by omega)
  have y4 := y3.trans (b4.mono (by omega))
  clear y3 b4
  go_wp2_with fail
  refine (markN (some ⟨g, 0, none⟩) d g (g + 1) n 1 (nodesL n n) (by simp) w4 oG (by omega) (by omega)).mono ?_
  rintro e w5 ⟨rfl, m5, k5⟩
  have z5 := k5.size
  replace oA := oA.kp k5 (by omega)
  replace oB := oB.kp k5 (by omega)
  replace oH := oH.kp k5 (by omega)
  replace oG := m5
  have y5 := y4.trans (k5.below (by omega) (by omega))
  clear y4 k5
  go_wp2_with fail
  refine (markN (some ⟨g', 0, none⟩) d' g' (g' + 1) n (1 + (n : Int)) (weightsL n n) (by simp) w5 oH (by omega) (by omega)).mono ?_
  rintro e w6 ⟨rfl, m6, k6⟩
  have z6 := k6.size
  replace oA := oA.kp k6 (by omega)
  replace oB := oB.kp k6 (by omega)
  replace oG := oG.kp k6 (by omega)
  replace oH := m6
  have y6 := y5.trans (k6.below (by omega) (by omega))
  clear y5 k6
  go_wp2_with fail
  refine (heldFloat32S_b (some ⟨g, 0, none⟩) d w6.heap.size 1 n w6 (oG.reads' (by omega) (by simp)) (by omega) (by omega)).mono ?_
  rintro e w7 ⟨rfl, b7⟩
  have z7 := b7.size
  replace oA := oA.below b7 (by omega)
  replace oB := oB.below b7 (by omega)
  replace oG := oG.below b7 (by omega)
  replace oH := oH.below b7 (by omega)
  have y7 := y6.trans (b7.mono (by omega))
  clear y6 b7
  go_wp2_with fail
  refine (heldFloat32S_b (some ⟨g', 0, none⟩) d' w7.heap.size (1 + (n : Int)) n w7 (oH.reads' (by omega) (by simp)) (by omega) (by omega)).mono ?_
  rintro e w8 ⟨rfl, b8⟩
  have z8 := b8.size
  replace oA := oA.below b8 (by omega)
  replace oB := oB.below b8 (by omega)
  replace oG := oG.below b8 (by omega)
  replace oH := oH.below b8 (by omega)
  have y8 := y7.trans (b8.mono (by omega))
  clear y7 b8
  go_wp2_with fail
  refine (HI w8).mono ?_
  rintro e w9 ⟨u, f, u', f', rfl, hne2, oP, oQ, q1, q2, q3, q4, b9⟩
  have z9 := b9.size
  replace oA := oA.below b9 (by omega)
  replace oB := oB.below b9 (by omega)
  replace oG := oG.below b9 (by omega)
  replace oH := oH.below b9 (by omega)
  have y9 := y8.trans (b9.mono (by omega))
  clear y8 b9 HI
  go_wp2_with fail
  refine (eqN (some ⟨u, 0, none⟩) A f c w9.heap.size n (nodesL n n) (by simp) w9 (oP.reads' (by omega) (by simp)) (oA.reads' (by omega) (by simp)) F1.out (by omega)).mono ?_
  rintro e w10 ⟨rfl, b10⟩
  have z10 := b10.size
  replace oA := oA.below b10 (by omega)
  replace oB := oB.below b10 (by omega)
  replace oG := oG.below b10 (by omega)
  replace oH := oH.below b10 (by omega)
  replace oP := oP.below b10 (by omega)
  replace oQ := oQ.below b10 (by omega)
  have y10 := y9.trans (b10.mono (by omega))
  clear y9 b10
  clear oP oA
  go_wp2_with fail
  refine (eqN (some ⟨u', 0, none⟩) A' f' c' w10.heap.size n (weightsL n n) (by simp) w10 (oQ.reads' (by omega) (by simp)) (oB.reads' (by omega) (by simp)) F2.out (by omega)).mono ?_
  rintro e w11 ⟨rfl, b11⟩
  have z11 := b11.size
  replace oB := oB.below b11 (by omega)
  replace oG := oG.below b11 (by omega)
  replace oH := oH.below b11 (by omega)
  replace oQ := oQ.below b11 (by omega)
  have y11 := y10.trans (b11.mono (by omega))
  clear y10 b11
  clear oQ oB
  go_wp2_with fail
  refine (heldFloat32S_b (some ⟨g, 0, none⟩) d w11.heap.size 1 n w11 (oG.reads' (by omega) (by simp)) (by omega) (by omega)).mono ?_
  rintro e w12 ⟨rfl, b12⟩
  have z12 := b12.size
  replace oG := oG.below b12 (by omega)
  replace oH := oH.below b12 (by omega)
  have y12 := y11.trans (b12.mono (by omega))
  clear y11 b12
  go_wp2_with fail
  refine (heldFloat32S_b (some ⟨g', 0, none⟩) d' w12.heap.size (1 + (n : Int)) n w12 (oH.reads' (by omega) (by simp)) (by omega) (by omega)).mono ?_
  rintro e w13 ⟨rfl, b13⟩
  have z13 := b13.size
  replace oG := oG.below b13 (by omega)
  replace oH := oH.below b13 (by omega)
  have y13 := y12.trans (b13.mono (by omega))
  clear y12 b13
  go_wp2
  go_ret
  exact ⟨rfl, y13⟩

theorem lawEven (n : Int) (w : World) :
    Calls Try.prog 3 #[.int .i64 n] w fun e w' => e = .returned (.bool true) ∧ Below w.heap.size w w' := by
  by_cases h : 1 ≤ n ∧ n ≤ 8
  · obtain ⟨m, rfl⟩ := Int.eq_ofNat_of_zero_le (show 0 ≤ n by omega)
    exact lawEven_yes m (by omega) (by omega) w
  · exact lawEven_no n h w
end Go.Proofs.Ytakkmcplhihjiaa
