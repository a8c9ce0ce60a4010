/-
  Contracts: spec.l07Word, spec.l07Read, spec.FromBits.
-/
import Derived.Test.YtgfmnolmokpgnaaDoorSavP
import Derived.Test.YtgfmnolmokpgnaaDoorAppend
import Derived.Lib.UnsafeStr
namespace Go.Proofs.YtgfmnolmokpgnaaDoor
open Go.RowKit

theorem info5 : (Tryd.prog.info? 5).map (fun i => (i.zero, i.size, i.bytes)) = some (some (.int .u8 0), 1, 1) := by kernel_rfl
theorem bc_one (l : List UInt8) : ∀ u ∈ Lib.byteCells l, u.oneCell' = true := by
  intro u hu
  obtain ⟨b, _, rfl⟩ := List.mem_map.1 hu
  rfl

theorem reads_new (w : World) (cs : List Value) (E : TypeId) : Reads (w.alloc (.cells cs.toArray E)) (w.heap.size + 1) 1 (some ⟨w.heap.size, 0, none⟩) cs.length cs :=
  Own.reads (xs := cs) (lo := 0) (E := E) (.inr ⟨w.heap.size, _, rfl, by omega, by omega, heap_alloc_new w _, by simp, by simp⟩)
theorem bc_le4 (m : Nat) (hm : m < 4294967296) : Lib.byteCells (le4 m) = [.int .u8 ((m : Int) % 256), .int .u8 ((m : Int) / 256 % 256), .int .u8 ((m : Int) / 65536 % 256), .int .u8 ((m : Int) / 16777216)] := by
  have h4 : (m / 16777216) % 256 = m / 16777216 := by omega
  simp only [Lib.byteCells, le4, List.map_cons, List.map_nil, u8_nat]
  rw [h4]
  simp

theorem at1_of (s : ByteArray) (k : Nat) (h : k < s.size) : at1 s.data.toList k = s[k].toNat := by
  rw [at1, List.getD, byte_at s k h]; rfl
theorem at1_ext (s : ByteArray) (a n j : Nat) (hj : j < n) : at1 (s.extract a (a + n)).data.toList j = at1 s.data.toList (a + j) := by
  rw [extract_txt, txt_data, at1, at1, List.getD, List.getD, List.getElem?_take, if_pos (by omega), List.getElem?_drop]
theorem rd4_ext (s : ByteArray) (a : Nat) : rd4 (s.extract a (a + 4)).data.toList 0 = rd4 s.data.toList a := by
  simp only [rd4, at1_ext s a 4 0 (by omega), at1_ext s a 4 (0 + 1) (by omega), at1_ext s a 4 (0 + 2) (by omega), at1_ext s a 4 (0 + 3) (by omega)]
  rfl

set_option maxRecDepth 100000 in
theorem fromBitsI_any (n : Nat) (h : n < 4294967296) (w : World) :
    Calls Tryd.prog 38 #[.int .i64 (n : Int)] w fun e w' => e = .returned (.tuple #[.float .f32 n, .bool true]) ∧ w = w' := by
  have hX := run_frombits n
  have hw : IntKind.u32.wrap (n : Int) = (n : Int) := by rw [IntKind.wrap_u32]; omega
  have HI : ∀ W, Calls Tryd.prog 44 #[.int .i64 (n : Int), .int .i64 0, .int .i64 4294967295] W fun e w' => e = .returned (.bool true) ∧ W = w' := fun W => by
    have h1 : decide ((0 : Int) ≤ (n : Int)) = true := by simp
    have h2 : decide ((n : Int) ≤ 4294967295) = true := by simp; omega
    go_enter Tryd.func44, Tryd.ntmps44
    go_wp2
    go_ret
    exact ⟨rfl, rfl⟩
  go_enter Tryd.func38, Tryd.ntmps38
  go_wp2_with fail
  (with_reducible refine (HI _).mono ?_)
  rintro e w1 ⟨rfl, rfl⟩
  go_wp2
  go_ret2
  exact ⟨rfl, rfl⟩
end Go.Proofs.YtgfmnolmokpgnaaDoor
