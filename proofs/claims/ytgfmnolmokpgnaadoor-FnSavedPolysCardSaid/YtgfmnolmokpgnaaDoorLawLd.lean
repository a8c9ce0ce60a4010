/-
  The law FnExactLoadSaved, walked by contracts: whatever the text, it returns true and turns nothing that was there.
-/
import Derived.Test.YtgfmnolmokpgnaaDoorMkS
namespace Go.Proofs.YtgfmnolmokpgnaaDoor
open Go.RowKit

theorem wids_of {l : List (Nat × Nat)} (h : l.all finCB = true) : Wids l := fun k hk => by
  have h1 := List.all_eq_true.1 h (l.getD k (0, 0)) (by rw [List.getD, List.getElem?_eq_getElem hk]; exact List.getElem_mem hk)
  unfold finCB at h1
  rw [Bool.and_eq_true] at h1
  exact ⟨fin_wide h1.1, fin_wide h1.2⟩
theorem fine_of {v : Sav} (h : savB v = true) : Fine v := by
  rw [savB, Bool.and_eq_true, Bool.and_eq_true] at h
  obtain ⟨_, h2, h3⟩ := h
  unfold polyB at h2
  unfold wholeB at h3
  simp only [Bool.and_eq_true, decide_eq_true_eq] at h2 h3
  exact ⟨wids_of h2.1.2, h2.1.1.2, h3.1.1.2⟩
theorem fine_nil : Fine ⟨[], [], []⟩ := ⟨fun k hk => by simp at hk, by simp, by simp⟩
theorem fine_beg {l : List UInt8} (h : begB l = true) : Fine (begV l) := by
  rw [begB, Bool.and_eq_true, Bool.and_eq_true] at h
  exact fine_of h.2.1
theorem fine_ls (l : List UInt8) : Fine (lsR l) := by
  unfold lsR
  split
  · rename_i h
    rw [lsB, Bool.and_eq_true] at h
    exact fine_beg h.1
  · exact fine_nil
theorem SavIn.reads {w : World} {lo hi B : Nat} {v : Sav} {A A' : Option Addr} (h : SavIn w lo hi v A A') (hB : hi ≤ B) : Reads w B 1 A v.P.length (cplx v.P) ∧ Reads w B 1 A' v.W.length (ints v.W) := by
  obtain ⟨m, k1, k2, k3, k4⟩ := h
  exact ⟨k3.reads' (by omega) (by simp), k4.reads' hB (by simp)⟩
theorem SavIn.kp {w w' : World} {lo hi a b : Nat} {v : Sav} {A A' : Option Addr} (h : SavIn w lo hi v A A') (hk : Kp a b w w') (hd : hi ≤ a ∨ b ≤ lo) : SavIn w' lo hi v A A' := by
  obtain ⟨m, k1, k2, k3, k4⟩ := h
  exact ⟨m, k1, k2, k3.kp hk (by omega), k4.kp hk (by omega)⟩

end Go.Proofs.YtgfmnolmokpgnaaDoor
