/-
  Contract: impl.bytesOf.
-/
import Derived.Test.YtgfmnolmokpgnaaDoorOkV
import Derived.Test.YtgfmnolmokpgnaaDoorStoreS
namespace Go.Proofs.YtgfmnolmokpgnaaDoor
open Go.RowKit

def leK (m : Nat) : Nat → List UInt8
  | 0 => []
  | k + 1 => leK m k ++ [UInt8.ofNat (m / 256 ^ k)]
theorem leK_len (m k : Nat) : (leK m k).length = k := by
  induction k with
  | zero => rfl
  | succ k ih => simp [leK, ih]
theorem leK4 (m : Nat) : leK m 4 = le4 m := by simp [leK, le4]
theorem leK2 (m : Nat) : leK m 2 = le2 m := by simp [leK, le2]
theorem bc_mod (q : Nat) : [Value.int .u8 ((q % 256 : Nat) : Int)] = Lib.byteCells [UInt8.ofNat q] := by
  simp only [Lib.byteCells, List.map_cons, List.map_nil, u8_nat]

set_option maxRecDepth 100000 in
set_option maxHeartbeats 400000 in
theorem bytesOf_any (m K : Nat) (hm : m < 4294967296) (hK : 1 ≤ K ∧ K ≤ 4) (w : World) :
    Calls Tryd.prog 32 #[.int .i64 (m : Int), .int .i64 (K : Int)] w fun e w' => e = .returned (.string (txt (leK m K))) ∧ Below w.heap.size w w' := by
  obtain ⟨i0, hi, hz0, hz1, hz2⟩ := info_parts info5
  have hb0 : Below w.heap.size w (w.alloc (.cells #[] 5)) := (Below.refl _ _).alloc (Nat.le_refl _) _
  have hown : (w.alloc (.cells #[] 5)).ownsRow w.heap.size 5 1 (.slice (some ⟨w.heap.size, 0, none⟩) 0 0) 0 (Lib.byteCells (leK m 0)) := World.ownsRow_made w #[] 0 (Nat.le_refl _) (by simp [maxLen]) rfl
  have HM := Lib.hid hm
  clear hm
  go_enter Tryd.func32, Tryd.ntmps32
  go_wp2
  go_loopw [0, 5, 8] (fun n o i wr => ∃ k q : Nat, ∃ A c, k ≤ K ∧ i = .int .i64 k ∧ n = .int .i64 q ∧ o = .slice A k c ∧ Hid (q < 4294967296) ∧ Hid (q = m / 256 ^ k) ∧ wr.ownsRow w.heap.size 5 1 (.slice A k c) k (Lib.byteCells (leK m k)) ∧ Below w.heap.size w wr) (fun _ _ i _ => K - (intOf i).toNat)
  case atStart => exact ⟨0, m, _, _, Nat.zero_le _, rfl, rfl, rfl, HM, by show _ = _; simp, hown, hb0⟩
  case round =>
    obtain ⟨k, q, A, c, hk, rfl, rfl, rfl, hq, hqm, ho, hbr⟩ := hrel
    have hrs := hbr.size
    by_cases hlt : k < K
    · have hw8 : IntKind.u8.wrap (q : Int) = ((q % 256 : Nat) : Int) := by rw [IntKind.wrap_u8]; omega
      have HBC := Lib.hid (bc_mod q)
      have hq9 : (q : Int) ≤ 9223372036854775807 := by have := hq.out; omega
      have HN : Hid (q / 256 = m / 256 ^ (k + 1)) := by
        show _ = _
        rw [hqm.out, Nat.div_div_eq_div_mul, Nat.pow_succ]
      have HQ : Hid (q / 256 < 4294967296) := by show _ < _; have := hq.out; omega
      have HL : Hid (leK m (k + 1) = leK m k ++ [UInt8.ofNat q]) := by show _ = _; rw [leK, hqm.out]
      clear hown
      go_wp2_with (at_builtin; refine wpList_append_any _ rfl (.tmp 10) (.tmp 13) _ rfl w.heap.size 5 i0 _ 1 1 Tryd.underlying22 hi hz0 hz1 hz2 rfl (by omega) (.slice A k c) k _ rfl (ho.alloc _) (wr.heap.size + 1) (some ⟨wr.heap.size, 0, none⟩) 1 1 [.int .u8 ((q % 256 : Nat) : Int)] rfl (reads_new wr [_] _) (by rw [HBC.out]; exact bc_one _) (by simp only [maxLen]; omega) (by omega) (by simp; omega) ?_; intro v1 w1 hown1 hg1 hat1; have hb1 : Below w.heap.size w w1 := (hbr.alloc hrs _).grown hg1 (by simp; omega) (fun j hj => (ho.lt j hj).1); rw [HBC.out, ← bc_append, ← HL.out] at hown1; clear hg1 hat1 ho; obtain ⟨A1, c1, rfl, -, -, -⟩ := Own.of_row hown1 (Nat.le_refl _))
      go_roundw
      case rel => exact ⟨k + 1, q / 256, A1, c1, by omega, by go_num, by simp, rfl, HQ, HN, hown1, hb1⟩
      case measure => simp [intOf]; omega
    · obtain rfl : k = K := by omega
      obtain ⟨ad, c1, e, hcv⟩ := conv_of (l := leK m k) (fun h => by have := leK_len m k; rw [h] at this; simp at this; omega) (leK_len m k) ho
      cases e
      go_wp2
      go_ret
      exact ⟨rfl, hbr⟩
end Go.Proofs.YtgfmnolmokpgnaaDoor
