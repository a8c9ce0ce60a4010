/-
  Contracts: strings.Split at a mark of one byte, impl.partsOrNone.
-/
import Derived.Test.YtfiakhhippfkaaaGreatDoorStrs
import Derived.Test.YtfiakhhippfkaaaGreatDoorShelfSplit
namespace Go.Proofs.YtfiakhhippfkaaaGreatDoor
open Go.RowKit

def noneL : List UInt8 := [110, 111, 110, 101]
theorem split_any (s : ByteArray) (c : UInt8) (w : World) (hsh : w.ShapedOpen Tryz.prog) (hn : s.size ≤ 1048576) :
    Calls Tryz.prog 24 #[.string s, .string ⟨#[c]⟩] w fun e w' => ∃ A, e = .returned (.slice A (parts c s.data.toList).length (parts c s.data.toList).length) ∧ Own w' w.heap.size w'.heap.size 9 A (strs (parts c s.data.toList)) ∧ Below w.heap.size w w' := by
  refine (Tryz.strings_Split_shaped s ⟨#[c]⟩ w hsh (by omega) (by show 1 ≤ 1; omega)).mono ?_
  rintro e w' ⟨rfl, rfl⟩
  have h1 : Lib.countB s ⟨#[c]⟩ + 1 = (parts c s.data.toList).length := countB_parts c s
  have h2 : (Lib.splitB ⟨#[c]⟩ 0 (Lib.countB s ⟨#[c]⟩) s).map Value.string = strs (parts c s.data.toList) := by
    rw [show (⟨#[c]⟩ : ByteArray) = txt [c] from rfl, splitB_parts, List.map_map]
    rfl
  refine ⟨some ⟨w.heap.size, 0, none⟩, by rw [h1], .inr ⟨w.heap.size, (strs (parts c s.data.toList)).toArray, rfl, Nat.le_refl _, by simp, ?_, by simp, by rw [List.take_of_length_le (by simp)]⟩, (Below.refl _ _).alloc (Nat.le_refl _) _⟩
  rw [h2]
  exact heap_alloc_new w _

theorem partsOrNone_none (s : ByteArray) (hno : s.data.toList = noneL) (w : World) :
    Calls Tryz.prog 17 #[.string s] w fun e w' => e = .returned (.slice none 0 0) ∧ w = w' := by
  have hx : s.toList = [110, 111, 110, 101] := by rw [Lib.toList_data]; exact hno
  clear hno
  go_enter Tryz.func17, Tryz.ntmps17
  go_wp2
  go_ret
  exact ⟨rfl, rfl⟩
theorem partsOrNone_some (s : ByteArray) (hno : ¬ s.data.toList = noneL) (w : World) (hsh : w.ShapedOpen Tryz.prog) (hs : s.size ≤ 1048576) :
    Calls Tryz.prog 17 #[.string s] w fun e w' => ∃ A, e = .returned (.slice A (parts 44 s.data.toList).length (parts 44 s.data.toList).length) ∧ Own w' w.heap.size w'.heap.size 9 A (strs (parts 44 s.data.toList)) ∧ Below w.heap.size w w' := by
  have hx : ¬ s.toList = [110, 111, 110, 101] := by rw [Lib.toList_data]; exact hno
  have hx2 : (s.toList == [110, 111, 110, 101]) = false := by rw [Lib.toList_data]; exact beq_false_of_ne hno
  have H := split_any s 44 w hsh hs
  clear hno hsh
  generalize parts 44 s.data.toList = ps at *
  go_enter Tryz.func17, Tryz.ntmps17
  go_wp2_with fail
  (with_reducible refine H.mono ?_)
  rintro e w1 ⟨A, rfl, hO, hb1⟩
  clear H
  go_wp2
  go_ret
  exact ⟨A, rfl, hO, hb1⟩

end Go.Proofs.YtfiakhhippfkaaaGreatDoor
