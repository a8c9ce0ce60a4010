/-
  Words for the law FnSavedPolys: the bytes of a conversion's row, one of them turned.
-/
import Derived.Test.YtgfmnolmokpgnaaDoorLawSvP
namespace Go.Proofs.YtgfmnolmokpgnaaDoor
open Go.RowKit

/-- Bytes in a block. -/
def Byts (w : World) (h : Nat) (l : List UInt8) : Prop := ∀ j (hj : j < l.length), w.cell? ((⟨h, 0, none⟩ : Addr).add j) = some (.int .u8 (l[j].toNat : Int))
theorem add0 (h j : Nat) : (⟨h, 0, none⟩ : Addr).add j = ⟨h, j, none⟩ := by unfold Addr.add; split <;> simp_all
theorem byts_conv (w : World) (l : List UInt8) : Byts (Lib.bytesWorld w 5 (txt l)) w.heap.size l := fun j hj => by
  rw [add0, Lib.bytesWorld_cell w 5 (txt l) j (by rw [txt_size]; exact hj)]
  simp [List.getD, List.getElem?_eq_getElem hj]
theorem Byts.below {w w' : World} {h : Nat} {l : List UInt8} {B : Nat} (hb : Byts w h l) (hw : Below B w w') (hB : h < B) : Byts w' h l := fun j hj => by
  rw [← hb j hj]
  exact hw.cell (by rw [add0]; exact hB)
theorem Byts.take {w : World} {h n : Nat} {l : List UInt8} (hb : Byts w h l) : Byts w h (l.take n) := fun j hj => by
  have h2 : j < l.length := by rw [List.length_take] at hj; omega
  rw [hb j h2, List.getElem_take]
theorem byts_frozen (w : World) (l : List UInt8) (j : Nat) (hj : j < l.length) : (Lib.bytesWorld w 5 (txt l)).frozen? ⟨w.heap.size, j, none⟩ = false := by
  have h := Lib.bytesWorld_at_new w 5 (txt l)
  have hs : j < (Lib.bytesCells w 5 (txt l)).size := by
    have h2 : (txt l).size = l.length := txt_size l
    unfold Lib.bytesCells
    rw [Array.size_append, Array.size_map]
    have : (txt l).data.size = l.length := by simp [txt]
    omega
  simp only [World.frozen?, h]
  simp
  omega
theorem byts_set {w : World} {h ct : Nat} {l : List UInt8} {b : UInt8} {cs : Array Value} {t : TypeId} {m : Nat × Nat} (hh : w.heap[h]? = some (.cells cs t m)) (hb : Byts w h l) : Byts (w.setCell ⟨h, ct, none⟩ (.int .u8 (b.toNat : Int))) h (l.set ct b) := fun j hj => by
  have hj' : j < l.length := by rwa [List.length_set] at hj
  have hq := hb j hj'
  rw [add0, cell_of_row w h j cs t m hh] at hq
  have hlt : j < cs.size := (Array.getElem?_eq_some_iff.1 hq).1
  have h2 : (w.setCell ⟨h, ct, none⟩ (.int .u8 (b.toNat : Int))).heap[h]? = some (.cells (cs.setIfInBounds ct (.int .u8 (b.toNat : Int))) t m) := by
    simp [World.setCell, Array.getElem?_modify, hh]
  rw [add0, cell_of_row _ h j _ t m h2]
  by_cases e : ct = j
  · subst e
    rw [Array.getElem?_setIfInBounds_self_of_lt hlt, List.getElem_set_self]
  · rw [Array.getElem?_setIfInBounds_ne e, hq, List.getElem_set_ne e]
theorem byts_text {w : World} {h n c : Nat} {l : List UInt8} (hb : Byts w h l) (hn : l.length = n) : (convert 22 9 (.slice (some ⟨h, 0, none⟩) n c)).run Tryd.prog w = .ok (.string (txt l)) w := by
  subst hn
  exact run_convert_bytes_back (P := Tryd.prog) w 22 9 5 ⟨h, 0, none⟩ c l Tryd.underlying22 Tryd.underlying5 Tryd.underlying9 hb
/-- A byte more. -/
theorem byte_more (b : UInt8) (x : Nat) : ∃ d : UInt8, IntKind.u8.wrap ((b.toNat : Int) + (1 + (x : Int))) = (d.toNat : Int) := by
  refine ⟨UInt8.ofNat (b.toNat + (1 + x)), ?_⟩
  rw [u8_nat, IntKind.wrap_u8]
  omega
theorem row_own1 {w : World} {base E n : Nat} {v : Value} {xs : List Value} (h : w.ownsRow base E 1 v n xs) (hn : 0 < n) : ∃ g c, v = .slice (some ⟨g, 0, none⟩) n c := by
  rcases h.2 with ⟨_, e⟩ | ⟨g, cap, cur, rfl, _⟩
  · omega
  · exact ⟨g, cap, rfl⟩
theorem ends_cell {W : World} {B ge n : Nat} {vs : List Sav} (h : Reads W B 1 (some ⟨ge, 0, none⟩) (endsL vs n).length (ints (endsL vs n))) {j : Nat} (hj : j ≤ n) : W.cell? ⟨ge, j, none⟩ = some (.int .i64 ((endsN vs j : Nat) : Int)) := by
  obtain ⟨ad, e, _, hc⟩ := int_at h (show j < _ by simp; omega)
  cases e
  rw [endsL_at hj, add0] at hc
  exact hc
end Go.Proofs.YtgfmnolmokpgnaaDoor
