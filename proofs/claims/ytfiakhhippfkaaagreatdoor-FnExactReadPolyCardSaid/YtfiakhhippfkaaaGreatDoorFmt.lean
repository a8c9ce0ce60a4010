/-
  Contract: internal/strconv.formatBits at base 16.
-/
import Derived.Test.YtfiakhhippfkaaaGreatDoorTz
import Derived.Laws.Bits64b
namespace Go.Proofs.YtfiakhhippfkaaaGreatDoor
open Go.RowKit

theorem lit_at (d : Nat) (h : d < 16) (h' : d < ByteArray.size ⟨#[48, 49, 50, 51, 52, 53, 54, 55, 56, 57, 97, 98, 99, 100, 101, 102, 103, 104, 105, 106, 107, 108, 109, 110, 111, 112, 113, 114, 115, 116, 117, 118, 119, 120, 121, 122]⟩) : (ByteArray.mk #[48, 49, 50, 51, 52, 53, 54, 55, 56, 57, 97, 98, 99, 100, 101, 102, 103, 104, 105, 106, 107, 108, 109, 110, 111, 112, 113, 114, 115, 116, 117, 118, 119, 120, 121, 122])[d]'h' = hexDig d := by
  have hc : d = 0 ∨ d = 1 ∨ d = 2 ∨ d = 3 ∨ d = 4 ∨ d = 5 ∨ d = 6 ∨ d = 7 ∨ d = 8 ∨ d = 9 ∨ d = 10 ∨ d = 11 ∨ d = 12 ∨ d = 13 ∨ d = 14 ∨ d = 15 := by omega
  rcases hc with rfl | rfl | rfl | rfl | rfl | rfl | rfl | rfl | rfl | rfl | rfl | rfl | rfl | rfl | rfl | rfl <;> rfl
theorem drop_set (cs : Array Value) (i : Nat) (v : Value) (h : i < cs.size) : (cs.setIfInBounds i v).toList.drop i = v :: cs.toList.drop (i + 1) := by
  rw [Array.toList_setIfInBounds, List.drop_set, if_neg (by omega), Nat.sub_self, List.drop_eq_getElem_cons (by simpa using h)]
  rfl

set_option maxRecDepth 100000 in
theorem fmtBits_any (n : Nat) (hn : n < 4294967296) (w : World) (hT : Tz4 w) :
    Calls Tryz.prog 74 #[.slice none 0 0, .int .u64 (n : Int), .int .i64 16, .bool false, .bool false] w fun e w' => e = .returned (.tuple #[.slice none 0 0, .string ⟨(least n).toArray⟩]) ∧ Below w.heap.size w w' := by
  have HP := fun W => isPow_any W
  have hb0 : Below w.heap.size w (w.alloc (.cells Tryz.zeroCells119 119)) := (Below.refl _ _).alloc (Nat.le_refl _) _
  have HZ := tz_any _ (hT.on hb0)
  have hz : (Tryz.zeroCells119).size = 65 := by kernel_rfl
  have hblk0 : Blk (w.alloc (.cells Tryz.zeroCells119 119)) w.heap.size 119 Tryz.zeroCells119 := heap_alloc_new w _
  go_enter Tryz.func74, Tryz.ntmps74
  go_wp2_with fail
  refine (HP _).mono ?_
  rintro e w1 ⟨rfl, rfl⟩
  go_wp2_with fail
  refine HZ.mono ?_
  rintro e w1 ⟨rfl, rfl⟩
  clear HZ HP
  go_wp2_with fail
  go_loopw [1, 13] (fun u i wr => ∃ (v k : Nat) (out : List UInt8) (cs : Array Value), u = .int .u64 (v : Int) ∧ i = .int .i64 ((65 - k : Nat) : Int) ∧ k ≤ 7 ∧ out.length = k ∧ v < 4294967296 ∧ Hid (v < 16 ^ (8 - k)) ∧ Hid (least n = least v ++ out) ∧ Blk wr w.heap.size 119 cs ∧ cs.size = 65 ∧ Hid (cs.toList.drop (65 - k) = Lib.byteCells out) ∧ Below w.heap.size w wr) (fun _ i _ => (intOf i).toNat)
  case atStart => exact ⟨n, 0, [], Tryz.zeroCells119, rfl, rfl, by omega, rfl, hn, hn, by show _ = _; simp, hblk0, hz, by show _ = _; rw [List.drop_eq_nil_of_le (by simp [hz])]; rfl, hb0⟩
  case round =>
    obtain ⟨v, k, out, cs, rfl, rfl, hk, hol, hv32, hv, hL, hblk, hcs, hO, hbr⟩ := hrel
    have hA : bits .and .u64 (v : Int) 15 = ((v % 16 : Nat) : Int) := by
      have h1 := bits_and_u64_nat v 15 (by omega) (by omega)
      rw [show (v &&& 15 : Nat) = v % 16 from Nat.and_two_pow_sub_one_eq_mod v 4] at h1
      exact h1
    have hg := hblk.lt
    by_cases h16 : 16 ≤ v
    · have hk6 : k ≤ 6 := by
        rcases Nat.lt_or_ge k 7 with h | h
        · omega
        · have hk7 : k = 7 := by omega
          have := hv.out
          rw [hk7] at this
          omega
      have hd : v % 16 < 16 := Nat.mod_lt _ (by omega)
      have HL2 : Hid (least n = least (v / 16) ++ (hexDig (v % 16) :: out)) := by
        show _ = _
        rw [hL.out]
        conv => lhs; rw [least, dif_neg (by omega)]
        simp
      have HV2 : Hid (v / 16 < 16 ^ (8 - (k + 1))) := by
        have h3 := hv.out
        rw [show 8 - k = (8 - (k + 1)) + 1 by omega, Nat.pow_succ] at h3
        show _ < _
        omega
      have hc : wr.cell? ⟨w.heap.size, 64 - k, none⟩ = some cs[64 - k] := (hblk.cell _).trans (Array.getElem?_eq_getElem (by omega))
      have hf := hblk.frozen (64 - k)
      have hi : ((65 - k : Nat) : Int) - 1 = ((64 - k : Nat) : Int) := by omega
      have h16' : (16 : Int) ≤ (v : Int) := by omega
      generalize v % 16 = d at *
      have hi5 : (65 - k : Nat) ≤ 65 := by omega
      go_wp2
      go_roundw
      case rel =>
        refine ⟨v / 16, k + 1, hexDig d :: out, cs.setIfInBounds (64 - k) (.int .u8 ((hexDig d).toNat : Int)), congrArg (Value.int .u64) (by omega), congrArg (Value.int .i64) (by omega), by omega, by simp [hol], by omega, HV2, HL2, ?_, by simp [hcs], ?_, hbr.setCell (Nat.le_refl _) _⟩
        · rw [lit_at d hd]; exact hblk.set_ _ _
        · show _ = _
          rw [show 65 - (k + 1) = 64 - k by omega, drop_set _ _ _ (by omega), show 64 - k + 1 = 65 - k by omega, hO.out]; rfl
      case measure => simp [intOf]; omega
    · have hc : wr.cell? ⟨w.heap.size, 64 - k, none⟩ = some cs[64 - k] := (hblk.cell _).trans (Array.getElem?_eq_getElem (by omega))
      have hf := hblk.frozen (64 - k)
      have h16' : ¬ ((16 : Int) ≤ (v : Int)) := by omega
      have hi : ((65 - k : Nat) : Int) - 1 = ((64 - k : Nat) : Int) := by omega
      have hlit := lit_at v (by omega)
      have hal : Tryz.prog.arrayLen 119 = 65 := by simp [Program.arrayLen, Tryz.underlying119]
      have hsl : ∀ W, (Instr.sliceAt 119 (.pointer (some ⟨w.heap.size, 0, none⟩)) (some (.int .i64 ((64 - k : Nat) : Int))) none none).run Tryz.prog W = .ok (.slice (some ⟨w.heap.size, 64 - k, none⟩) (k + 1) (k + 1)) W := fun W => by
        rw [run_sliceAt_array_l W 119 ⟨w.heap.size, 0, none⟩ (by simp [Program.arrayLen, Program.elem, Tryz.underlying119]) .i64 ((64 - k : Nat) : Int) (by omega) (by rw [hal]; omega)]
        go_simp
        omega
      have hdr : (cs.setIfInBounds (64 - k) (.int .u8 ((hexDig v).toNat : Int))).toList.drop (64 - k) = Lib.byteCells (least n) := by
        rw [drop_set _ _ _ (by omega), show 64 - k + 1 = 65 - k by omega, hO.out, hL.out, least, dif_pos (by omega)]; rfl
      have hlen : (least n).length = k + 1 := by rw [hL.out, least, dif_pos (by omega)]; simp [hol]
      have hcv : (convert 76 9 (.slice (some ⟨w.heap.size, 64 - k, none⟩) (k + 1) (k + 1))).run Tryz.prog (wr.setCell ⟨w.heap.size, 64 - k, none⟩ (.int .u8 ((hexDig v).toNat : Int))) = .ok (.string ⟨(least n).toArray⟩) (wr.setCell ⟨w.heap.size, 64 - k, none⟩ (.int .u8 ((hexDig v).toNat : Int))) := by
        have h := run_convert_bytes_back (P := Tryz.prog) (wr.setCell ⟨w.heap.size, 64 - k, none⟩ (.int .u8 ((hexDig v).toNat : Int))) 76 9 5 ⟨w.heap.size, 64 - k, none⟩ (k + 1) (least n) Tryz.underlying76 Tryz.underlying5 Tryz.underlying9 (fun j hj => by
          have h1 : (⟨w.heap.size, 64 - k, none⟩ : Addr).add j = ⟨w.heap.size, 64 - k + j, none⟩ := by simp [Addr.add]
          rw [h1, (hblk.set_ (64 - k) _).cell (64 - k + j), ← Array.getElem?_toList, ← List.getElem?_drop, hdr]
          simp [Lib.byteCells, List.getElem?_eq_getElem hj])
        rw [hlen] at h
        exact h
      have hbw : Below w.heap.size w (wr.setCell ⟨w.heap.size, 64 - k, none⟩ (.int .u8 ((hexDig v).toNat : Int))) := hbr.setCell (Nat.le_refl _) _
      clear hdr hlen hL hv hO hA hal
      go_wp2
      go_ret2
      exact ⟨rfl, hbw⟩
end Go.Proofs.YtfiakhhippfkaaaGreatDoor
