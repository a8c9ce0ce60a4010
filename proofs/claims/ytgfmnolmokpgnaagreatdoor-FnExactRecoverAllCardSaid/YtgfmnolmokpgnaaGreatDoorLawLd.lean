/-
  The law FnExactLoadSaved, walked by contracts: whatever the text, it returns true and turns nothing that was there.
-/
import Derived.Test.YtgfmnolmokpgnaaGreatDoorMkS
namespace Go.Proofs.YtgfmnolmokpgnaaGreatDoor
open Go.RowKit

theorem wids_of {l : List (Nat × Nat)} (h : l.all finCB = true) : Wids l := fun k hk => by
  have h1 := List.all_eq_true.1 h (l.getD k (0, 0)) (by rw [List.getD, List.getElem?_eq_getElem hk]; exact List.getElem_mem hk)
  unfold finCB at h1
  rw [Bool.and_eq_true] at h1
  exact ⟨fin_wide h1.1, fin_wide h1.2⟩
theorem fine_of {v : Sav} (h : savB v = true) : Fine v := by
  rw [savB, Bool.and_eq_true, Bool.and_eq_true] at h
  obtain ⟨_, h2, h3⟩ := h
  unfold polyB at h2
  unfold wholeB at h3
  simp only [Bool.and_eq_true, decide_eq_true_eq] at h2 h3
  exact ⟨wids_of h2.1.2, h2.1.1.2, h3.1.1.2⟩
theorem fine_nil : Fine ⟨[], [], []⟩ := ⟨fun k hk => by simp at hk, by simp, by simp⟩
theorem fine_beg {l : List UInt8} (h : begB l = true) : Fine (begV l) := by
  rw [begB, Bool.and_eq_true, Bool.and_eq_true] at h
  exact fine_of h.2.1
theorem fine_ls (l : List UInt8) : Fine (lsR l) := by
  unfold lsR
  split
  · rename_i h
    rw [lsB, Bool.and_eq_true] at h
    exact fine_beg h.1
  · exact fine_nil
theorem SavIn.reads {w : World} {lo hi B : Nat} {v : Sav} {A A' : Option Addr} (h : SavIn w lo hi v A A') (hB : hi ≤ B) : Reads w B 1 A v.P.length (cplx v.P) ∧ Reads w B 1 A' v.W.length (ints v.W) := by
  obtain ⟨m, k1, k2, k3, k4⟩ := h
  exact ⟨k3.reads' (by omega) (by simp), k4.reads' hB (by simp)⟩
theorem SavIn.kp {w w' : World} {lo hi a b : Nat} {v : Sav} {A A' : Option Addr} (h : SavIn w lo hi v A A') (hk : Kp a b w w') (hd : hi ≤ a ∨ b ≤ lo) : SavIn w' lo hi v A A' := by
  obtain ⟨m, k1, k2, k3, k4⟩ := h
  exact ⟨m, k1, k2, k3.kp hk (by omega), k4.kp hk (by omega)⟩

set_option maxRecDepth 100000 in
set_option maxHeartbeats 1600000 in
theorem lawLd (s : ByteArray) (w : World) (hs : s.size ≤ maxLen) :
    Calls Tryz.prog 3 #[.string s] w fun e w' => e = .returned (.bool true) ∧ Below w.heap.size w w' := by
  unfold maxLen at hs
  by_cases hn : s.size ≤ 1048576
  · have H1 := fun W => loadSavedS_any s W hn
    have H2 := fun W => loadSavedI_any s W hn
    have hF := fine_ls s.data.toList
    generalize lsR s.data.toList = v at *
    generalize lsB s.data.toList = b at *
    go_enter Tryz.func3, Tryz.ntmps3
    go_wp2_with fail
    (with_reducible refine (H1 _).mono ?_)
    rintro e w1 ⟨A0, A0', c0, c0', rfl, hI0, hb1⟩
    clear H1
    have hX1 := blk_new w1 #[.string (txt v.nm), .slice A0 v.P.length c0, .slice A0' v.W.length c0'] 29
    have hn1 : Below w1.heap.size w1 (w1.alloc (.cells #[.string (txt v.nm), .slice A0 v.P.length c0, .slice A0' v.W.length c0'] 29)) := (Below.refl _ _).alloc (Nat.le_refl _) _
    have hw1 := hb1.trans (hn1.mono hb1.size)
    have hI1 := hI0.below hn1 (Nat.le_refl _)
    clear hI0
    go_wp2_with fail
    (with_reducible refine (H2 _).mono ?_)
    rintro e w2 ⟨A1, A1', c1, c1', rfl, hJ0, hb2⟩
    have hX2 := hX1.below hb2 hX1.lt
    have hY2 := blk_new w2 #[.string (txt v.nm), .slice A1 v.P.length c1, .slice A1' v.W.length c1'] 29
    have hn2 : Below w2.heap.size w2 (w2.alloc (.cells #[.string (txt v.nm), .slice A1 v.P.length c1, .slice A1' v.W.length c1'] 29)) := (Below.refl _ _).alloc (Nat.le_refl _) _
    have hX3 := hX2.below hn2 hX2.lt
    have hs12 : w1.heap.size < w2.heap.size := hX2.lt
    have h12 := hb2.trans (hn2.mono hb2.size)
    have hw2 := hw1.trans (h12.mono hw1.size)
    have hI2 := hI1.below h12 hn1.size
    have hJ2 := hJ0.below hn2 (Nat.le_refl _)
    have x1 : (w2.alloc (.cells #[.string (txt v.nm), .slice A1 v.P.length c1, .slice A1' v.W.length c1'] 29)).cell? ⟨w1.heap.size, 0, none⟩ = _ := hX3.cell 0
    have x2 : (w2.alloc (.cells #[.string (txt v.nm), .slice A1 v.P.length c1, .slice A1' v.W.length c1'] 29)).cell? ⟨w1.heap.size, 1, none⟩ = _ := hX3.cell 1
    have x3 : (w2.alloc (.cells #[.string (txt v.nm), .slice A1 v.P.length c1, .slice A1' v.W.length c1'] 29)).cell? ⟨w1.heap.size, 2, none⟩ = _ := hX3.cell 2
    have HE1 := eqSaved_b v A1 A1' A0 A0' c1 c1' c0 c0' _ _ (hJ2.reads hn2.size).1 (hJ2.reads hn2.size).2 (hI2.reads (Nat.le_trans hn1.size h12.size)).1 (hI2.reads (Nat.le_trans hn1.size h12.size)).2 (Nat.le_refl _) hF
    clear hI1 hJ0 hX1 hX2 hb2
    go_wp2_with fail
    (with_reducible refine HE1.mono ?_)
    rintro e w3 ⟨rfl, hb3⟩
    clear HE1 x1 x2 x3
    have hw3 := hw2.trans (hb3.mono hw2.size)
    have hX4 := hX3.below hb3 hX3.lt
    have hY3 := hY2.below hb3 hY2.lt
    have hs23 : w2.heap.size < w3.heap.size := hY3.lt
    have hI3 := hI2.below hb3 (Nat.le_trans hn1.size h12.size)
    have hJ3 := hJ2.below hb3 hn2.size
    have y1 : w3.cell? ⟨w2.heap.size, 0, none⟩ = _ := hY3.cell 0
    have y2 : w3.cell? ⟨w2.heap.size, 1, none⟩ = _ := hY3.cell 1
    have y3 : w3.cell? ⟨w2.heap.size, 2, none⟩ = _ := hY3.cell 2
    have HM := markSaved_b v A1 A1' c1 c1' _ _ w3 hJ3 (by omega) hF
    clear hX3 hY2 hI2 hJ2
    go_wp2_with fail
    (with_reducible refine HM.mono ?_)
    rintro e w4 ⟨rfl, hJ4, hkp⟩
    clear HM y1 y2 y3
    have hX5 := hX4.kp hkp (.inl (by simp))
    have hY4 := hY3.kp hkp (.inr (Nat.le_refl _))
    have hI4 := hI3.kp hkp (.inl (by simp))
    have hs34 := hkp.size
    have hw4 : Below w.heap.size w w4 := hw3.trans (hkp.below (by have := hb1.size; simp; omega) hw3.size)
    have y1 : w4.cell? ⟨w2.heap.size, 0, none⟩ = _ := hY4.cell 0
    have y2 : w4.cell? ⟨w2.heap.size, 1, none⟩ = _ := hY4.cell 1
    have y3 : w4.cell? ⟨w2.heap.size, 2, none⟩ = _ := hY4.cell 2
    have HH := fun W (hr : Reads W w2.heap.size 1 A1 v.P.length (cplx (cmarks 1 v.P.length)) ∧ Reads W w2.heap.size 1 A1' v.W.length (ints (marks (1 + (v.P.length : Int)) v.W.length))) (hB : w2.heap.size ≤ W.heap.size) => heldSaved_b v A1 A1' c1 c1' w2.heap.size W hr.1 hr.2 hB hF
    have hR4 := hJ4.reads (Nat.le_refl _)
    simp only [markV, cmarks_len, marks_len] at hR4
    clear hX4 hY3 hI3 hJ3 hkp
    go_wp2_with fail
    (with_reducible refine (HH _ hR4 (by omega)).mono ?_)
    rintro e w5 ⟨rfl, hb5⟩
    clear hR4 y1 y2 y3
    have hs45 := hb5.size
    have hX6 := hX5.below hb5 hX5.lt
    have hY5 := hY4.below hb5 hY4.lt
    have hI5 := hI4.below hb5 (by omega)
    have hJ5 := hJ4.below hb5 (by omega)
    have hw5 := hw4.trans (hb5.mono hw4.size)
    clear hX5 hY4 hI4 hJ4 hb5
    have hends : (ends v == ends v) = true := by simp
    have hne : ¬ ends v < 0 := by unfold ends; omega
    generalize ends v = ev at *
    go_wp2_with fail
    (with_reducible refine (H2 _).mono ?_)
    rintro e w6 ⟨A2, A2', c2, c2', rfl, hK0, hb6⟩
    clear H2
    have hs56 := hb6.size
    have hn6 : Below w6.heap.size w6 (w6.alloc (.cells #[.string (txt v.nm), .slice A2 v.P.length c2, .slice A2' v.W.length c2'] 29)) := (Below.refl _ _).alloc (Nat.le_refl _) _
    have h56 := hb6.trans (hn6.mono hb6.size)
    have hX7 := hX6.below h56 hX6.lt
    have hY6 := hY5.below h56 hY5.lt
    have hI6 := hI5.below h56 (by omega)
    have hJ6 := hJ5.below h56 (by omega)
    have hK6 := hK0.below hn6 (Nat.le_refl _)
    have hw6 := hw5.trans (h56.mono hw5.size)
    have x1 : (w6.alloc (.cells #[.string (txt v.nm), .slice A2 v.P.length c2, .slice A2' v.W.length c2'] 29)).cell? ⟨w1.heap.size, 0, none⟩ = _ := hX7.cell 0
    have x2 : (w6.alloc (.cells #[.string (txt v.nm), .slice A2 v.P.length c2, .slice A2' v.W.length c2'] 29)).cell? ⟨w1.heap.size, 1, none⟩ = _ := hX7.cell 1
    have x3 : (w6.alloc (.cells #[.string (txt v.nm), .slice A2 v.P.length c2, .slice A2' v.W.length c2'] 29)).cell? ⟨w1.heap.size, 2, none⟩ = _ := hX7.cell 2
    have HE2 := eqSaved_b v A2 A2' A0 A0' c2 c2' c0 c0' _ _ (hK6.reads hn6.size).1 (hK6.reads hn6.size).2 (hI6.reads (Nat.le_trans (show w1.heap.size ≤ w6.heap.size by omega) hn6.size)).1 (hI6.reads (Nat.le_trans (show w1.heap.size ≤ w6.heap.size by omega) hn6.size)).2 (Nat.le_refl _) hF
    clear hX6 hY5 hI5 hJ5 hK0 hb6
    go_wp2_with fail
    (with_reducible refine HE2.mono ?_)
    rintro e w7 ⟨rfl, hb7⟩
    clear HE2 x1 x2 x3
    have hs67 : w6.heap.size < w7.heap.size := by have := hb7.size; simp at this; omega
    have hY7 := hY6.below hb7 hY6.lt
    have hJ7 := hJ6.below hb7 (by simp; omega)
    have hw7 := hw6.trans (hb7.mono hw6.size)
    have y1 : w7.cell? ⟨w2.heap.size, 0, none⟩ = _ := hY7.cell 0
    have y2 : w7.cell? ⟨w2.heap.size, 1, none⟩ = _ := hY7.cell 1
    have y3 : w7.cell? ⟨w2.heap.size, 2, none⟩ = _ := hY7.cell 2
    have hR7 := hJ7.reads (Nat.le_refl _)
    simp only [markV, cmarks_len, marks_len] at hR7
    clear hX7 hY6 hI6 hJ6 hK6
    go_wp2_with fail
    (with_reducible refine (HH _ hR7 (by omega)).mono ?_)
    rintro e w8 ⟨rfl, hb8⟩
    clear HH
    have hfin := hw7.trans (hb8.mono hw7.size)
    go_wp2
    go_ret
    exact ⟨rfl, hfin⟩
  · go_enter Tryz.func3, Tryz.ntmps3
    go_wp2
    go_ret
    exact ⟨rfl, Below.refl _ _⟩
end Go.Proofs.YtgfmnolmokpgnaaGreatDoor
