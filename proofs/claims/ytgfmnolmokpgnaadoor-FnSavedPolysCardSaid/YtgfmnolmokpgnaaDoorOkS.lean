/-
  Contracts: spec.l07Name, spec.l03Terms, spec.l03Is, spec.l07Saved: what is saved is valid.
-/
import Derived.Test.YtgfmnolmokpgnaaDoorWordS
import Derived.Test.YtgfmnolmokpgnaaDoorQt
namespace Go.Proofs.YtgfmnolmokpgnaaDoor
open Go.RowKit

theorem low_no {s : ByteArray} {k : Nat} (h : k < s.size) (hc : lowB s[k] = false) : nameB s.data.toList = false := by
  rw [nameB]
  have : s.data.toList.all lowB = false := by
    rw [List.all_eq_false]
    exact ⟨s[k], List.mem_of_getElem? (byte_at s k h), by rw [hc]; simp⟩
  rw [this]; simp
theorem low_all {s : ByteArray} (h : ∀ j, (hj : j < s.size) → lowB s[j] = true) : s.data.toList.all lowB = true := by
  rw [List.all_eq_true]
  intro x hx
  obtain ⟨j, hj, rfl⟩ := List.mem_iff_getElem.1 hx
  exact h j (by rw [Lib.size_eq]; exact hj)

theorem name_len {s : ByteArray} (h : s.data.toList.all lowB = true) : nameB s.data.toList = (decide (1 ≤ s.size) && decide (s.size ≤ 8)) := by
  rw [nameB, h, ← Lib.size_eq]; simp

theorem term_no {l : List Int} {k : Nat} (h : k < l.length) (hc : termB (l.getD k 0) = false) : wholeB l = false := by
  rw [wholeB]
  have : l.all termB = false := by
    rw [List.all_eq_false]
    refine ⟨l.getD k 0, ?_, by rw [hc]; simp⟩
    rw [List.getD, List.getElem?_eq_getElem h]; exact List.getElem_mem h
  rw [this]; simp
theorem term_all {l : List Int} (h : ∀ j, j < l.length → termB (l.getD j 0) = true) : l.all termB = true := by
  rw [List.all_eq_true]
  intro x hx
  obtain ⟨j, hj, rfl⟩ := List.mem_iff_getElem.1 hx
  have := h j hj
  rwa [List.getD, List.getElem?_eq_getElem hj] at this

/-- What is saved lies in the three cells of a block. -/
structure SavAt (w : World) (p : Nat) (v : Sav) (A A' : Option Addr) (c c' B : Nat) : Prop where
  c0 : w.cell? ⟨p, 0, none⟩ = some (.string (txt v.nm))
  c1 : w.cell? ⟨p, 1, none⟩ = some (.slice A v.P.length c)
  c2 : w.cell? ⟨p, 2, none⟩ = some (.slice A' v.W.length c')
  r1 : Reads w B 1 A v.P.length (cplx v.P)
  r2 : Reads w B 1 A' v.W.length (ints v.W)
theorem SavAt.below {w w' : World} {p : Nat} {v : Sav} {A A' : Option Addr} {c c' B : Nat} (h : SavAt w p v A A' c c' B) (hb : Below w.heap.size w w') (hB : B ≤ w.heap.size) : SavAt w' p v A A' c c' B :=
  have hp := World.block_lt_of_cell? w _ h.c0
  ⟨(hb.cell (p := ⟨p, 0, none⟩) hp).trans h.c0, (hb.cell (p := ⟨p, 1, none⟩) hp).trans h.c1, (hb.cell (p := ⟨p, 2, none⟩) hp).trans h.c2, h.r1.below (hb.mono hB), h.r2.below (hb.mono hB)⟩

end Go.Proofs.YtgfmnolmokpgnaaDoor
