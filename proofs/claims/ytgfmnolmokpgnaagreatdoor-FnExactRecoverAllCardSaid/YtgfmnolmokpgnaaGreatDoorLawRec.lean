/-
  The law FnExactRecoverAll, walked by contracts: whatever the text, it returns true and turns nothing that was there.
-/
import Derived.Test.YtgfmnolmokpgnaaGreatDoorHeldR
namespace Go.Proofs.YtgfmnolmokpgnaaGreatDoor
open Go.RowKit

theorem RL.kp {w w' : World} {g lo hi c p q : Nat} {vs : List Sav} {xs : List Value} {a b : Nat → Nat} {A A' : Nat → Option Addr} {cc cc' : Nat → Nat} (h : RL w g lo hi c vs xs a b A A' cc cc') (hk : Kp p q w w') (hd : hi ≤ p ∨ q ≤ lo) : RL w' g lo hi c vs xs a b A A' cc cc' :=
  ⟨row_kp3 h.row hk (by have := h.gh; have := h.lt.1; omega), h.el.kp hk fun k hk' => by have := h.el.hi k hk'; have := h.el.lo k hk'; omega, h.gh⟩
theorem RL.of {w w' : World} {g c : Nat} {vs : List Sav} {xs : List Value} {a b : Nat → Nat} {A A' : Nat → Option Addr} {cc cc' : Nat → Nat} (h : w'.ownsRow w.heap.size 29 3 (.slice (some ⟨g, 0, none⟩) vs.length c) vs.length xs) (he : EL w' g w.heap.size w'.heap.size vs xs a b A A' cc cc') : RL w' g w.heap.size w'.heap.size c vs xs a b A A' cc cc' :=
  ⟨h, he, (h.lt g rfl).2⟩

set_option maxRecDepth 100000 in
set_option maxHeartbeats 1600000 in
theorem lawRec (s : ByteArray) (w : World) (hs : s.size ≤ maxLen) :
    Calls Tryz.prog 4 #[.string s] w fun e w' => e = .returned (.bool true) ∧ Below w.heap.size w w' := by
  unfold maxLen at hs
  by_cases hn : s.size ≤ 1048576
  · have H1 := fun W => recS_any s W hn
    have H2 := fun W => recI_any s W hn
    have hF := recL_fine 8 s.data.toList
    have hL := recL_len 8 s.data.toList
    generalize recL 8 s.data.toList = vs at *
    generalize recN 8 s.data.toList = nn at *
    have HF := Lib.hid hF
    clear hF
    go_enter Tryz.func4, Tryz.ntmps4
    go_wp2_with fail
    (with_reducible refine (H1 _).mono ?_)
    rintro e w1 ⟨g, c, xs, a, b, A, A', cc, cc', rfl, hr0, he0, hb1⟩
    clear H1
    have hX1 := RL.of hr0 he0
    have hs1 := hb1.size
    clear hr0 he0
    go_wp2_with fail
    (with_reducible refine (H2 _).mono ?_)
    rintro e w2 ⟨g', c', xs', a', b', D, D', d, d', rfl, hr0, he0, hb2⟩
    have hY2 := RL.of hr0 he0
    have hs2 := hb2.size
    have hX2 := hX1.below hb2 (Nat.le_refl _)
    have hw2 := hb1.trans (hb2.mono hs1)
    clear hr0 he0 hX1 hb2
    have HE := eqSavedS_b vs g' g _ _ _ _ c' c _ _ _ _ _ _ _ _ _ _ _ _ _ _ w2 hY2 hX2 (Nat.le_refl _) hs2 hL HF.out
    have hnn : (((nn : Nat) : Int) == (nn : Int)) = true := by simp
    go_wp2_with fail
    (with_reducible refine HE.mono ?_)
    rintro e w3 ⟨rfl, hb3⟩
    clear HE
    have hs3 := hb3.size
    have hY3 := hY2.below hb3 (Nat.le_refl _)
    have hX3 := hX2.below hb3 hs2
    have hw3 := hw2.trans (hb3.mono hw2.size)
    clear hX2 hY2 hb3 hw2
    have HM := markSavedS_b vs g' _ _ c' _ _ _ _ _ _ _ w3 hY3 hs3 hL HF.out
    go_wp2_with fail
    (with_reducible refine HM.mono ?_)
    rintro e w4 ⟨rfl, ⟨ys, hY4⟩, hkp⟩
    clear HM
    have hs4 := hkp.size
    have hX4 := hX3.kp hkp (.inl (Nat.le_refl _))
    have hw4 : Below w.heap.size w w4 := hw3.trans (hkp.below hs1 hw3.size)
    have hY0 : w2.heap.size ≤ w4.heap.size := Nat.le_trans hs3 hs4
    have HH := fun W (hW : Below w4.heap.size w4 W) => heldSavedS_b vs g' _ _ c' _ _ _ _ _ _ _ W (hY4.below hW hY0) (Nat.le_trans hY0 hW.size) hL HF.out
    have ht := (pos_le HF.out vs.length (Nat.le_refl _)).2
    have hne : ¬ (((pos vs vs.length : Nat) : Int) < 0) := by omega
    have hee : (((pos vs vs.length : Nat) : Int) == ((pos vs vs.length : Nat) : Int)) = true := by simp
    generalize pos vs vs.length = ev at *
    clear hX3 hY3 hkp hw3
    go_wp2_with fail
    (with_reducible refine (HH _ (Below.refl _ _)).mono ?_)
    rintro e w5 ⟨rfl, hb5⟩
    have hs5 := hb5.size
    go_wp2_with fail
    (with_reducible refine (H2 _).mono ?_)
    rintro e w6 ⟨g2, c2, zs, a2, b2, G, G', k, k', rfl, hr0, he0, hb6⟩
    clear H2
    have hZ6 := RL.of hr0 he0
    have hs6 := hb6.size
    have hb56 := hb5.trans (hb6.mono hs5)
    have hX6 := hX4.below hb56 (Nat.le_trans hs2 hY0)
    clear hr0 he0 hb5 hb6
    have HE := eqSavedS_b vs g2 g _ _ _ _ c2 c _ _ _ _ _ _ _ _ _ _ _ _ _ _ w6 hZ6 hX6 (Nat.le_refl _) (Nat.le_trans (Nat.le_trans hs2 hY0) hb56.size) hL HF.out
    go_wp2_with fail
    (with_reducible refine HE.mono ?_)
    rintro e w7 ⟨rfl, hb7⟩
    clear HE hX4 hX6 hZ6
    have hb57 := hb56.trans (hb7.mono hb56.size)
    go_wp2_with fail
    (with_reducible refine (HH _ hb57).mono ?_)
    rintro e w8 ⟨rfl, hb8⟩
    clear HH
    have hfin := hw4.trans ((hb57.trans (hb8.mono hb57.size)).mono hw4.size)
    go_wp2
    go_ret
    exact ⟨rfl, hfin⟩
  · go_enter Tryz.func4, Tryz.ntmps4
    go_wp2
    go_ret
    exact ⟨rfl, Below.refl _ _⟩
end Go.Proofs.YtgfmnolmokpgnaaGreatDoor
