/-
  Contracts: spec.l01Finite, l01CFinite, l02CFinite, l02Is once more: the world is as it was but for what was drawn.
-/
import Derived.Test.YtgfmnolmokpgnaaDoorPolyS
namespace Go.Proofs.YtgfmnolmokpgnaaDoor
open Go.RowKit

/-- The world is as it was, but for what was drawn. -/
def Qt (w w' : World) : Prop := ∃ n, w' = w.drewN n
theorem Qt.refl (w : World) : Qt w w := ⟨0, rfl⟩
theorem Qt.drew (w : World) : Qt w w.drew := ⟨1, rfl⟩
theorem Qt.trans {a b c : World} (h : Qt a b) (k : Qt b c) : Qt a c := by
  obtain ⟨n, rfl⟩ := h
  obtain ⟨m, rfl⟩ := k
  exact ⟨n + m, by rw [World.drewN_drewN]⟩
theorem Qt.below {a b : World} (h : Qt a b) : Below a.heap.size a b := by
  obtain ⟨n, rfl⟩ := h
  exact below_drewN (Below.refl _ _) n

end Go.Proofs.YtgfmnolmokpgnaaDoor
