/-
  Contract: impl.ReadComplex: the complex numbers of a list with a text.
-/
import Derived.Test.YtfiakhhippfkaaaGreatDoorRdHex
import Derived.Test.YtfiakhhippfkaaaGreatDoorSpl
namespace Go.Proofs.YtfiakhhippfkaaaGreatDoor
open Go.RowKit

/-- A word is of a complex number; the number. -/
def hxxB (x : List UInt8) : Bool := decide (x.length = 16) && (hxB (x.take 8) && hxB (x.drop 8))
def hxxV (x : List UInt8) : Nat × Nat := (hxV (x.take 8), hxV (x.drop 8))
def rcB (l : List UInt8) : Bool := if l = noneL then true else decide ((parts 44 l).length ≤ 256) && (parts 44 l).all hxxB
def rcR (l : List UInt8) : List (Nat × Nat) := if rcB l then (if l = noneL then [] else (parts 44 l).map hxxV) else []
def GivesC (R : List (Nat × Nat)) (b : Bool) (w : World) (e : Ending) (w' : World) : Prop :=
  ∃ A c, e = .returned (.tuple #[.slice A R.length c, .bool b]) ∧ Own w' w.heap.size w'.heap.size 42 A (cplx R) ∧ Below w.heap.size w w'
theorem take_hxx {ps : List (List UInt8)} {k : Nat} (hk : k < ps.length) : (ps.take (k + 1)).map hxxV = (ps.take k).map hxxV ++ [hxxV (ps.getD k [])] := by
  rw [List.take_add_one, List.getElem?_eq_getElem hk, List.map_append, List.getD, List.getElem?_eq_getElem hk]
  rfl
theorem cplx_append (a b : List (Nat × Nat)) : cplx (a ++ b) = cplx a ++ cplx b := by simp [cplx]
theorem all_hxx {ps : List (List UInt8)} (h : ∀ j, j < ps.length → hxxB (ps.getD j []) = true) : ps.all hxxB = true := by
  rw [List.all_eq_true]
  intro x hx
  obtain ⟨j, hj, rfl⟩ := List.mem_iff_getElem.1 hx
  have := h j hj
  rwa [List.getD, List.getElem?_eq_getElem hj] at this
theorem no_hxx {ps : List (List UInt8)} {k : Nat} (hk : k < ps.length) (h : hxxB (ps.getD k []) = false) : ps.all hxxB = false := by
  cases ha : ps.all hxxB with
  | false => rfl
  | true =>
    have := List.all_eq_true.1 ha (ps.getD k []) (by rw [List.getD, List.getElem?_eq_getElem hk]; exact List.getElem_mem hk)
    rw [h] at this; cases this
theorem one_cx (x y : Nat) : ∀ u ∈ [Value.complex .f32 x y], u.oneCell' = true := by intro u hu; simp at hu; subst hu; rfl
theorem infoC : (Tryz.prog.info? 42).map (fun i => (i.zero, i.size, i.bytes)) = some (some (.complex .f32 0 0), 1, 8) := by kernel_rfl
end Go.Proofs.YtfiakhhippfkaaaGreatDoor
