/-
  Contracts: spec.l07Word, spec.l07Read, spec.FromBits.
-/
import Derived.Test.YtgfmnolmokpgnaaGreatDoorSavP
import Derived.Test.YtgfmnolmokpgnaaGreatDoorAppend
import Derived.Lib.UnsafeStr
namespace Go.Proofs.YtgfmnolmokpgnaaGreatDoor
open Go.RowKit

theorem info5 : (Tryz.prog.info? 5).map (fun i => (i.zero, i.size, i.bytes)) = some (some (.int .u8 0), 1, 1) := by kernel_rfl
theorem bc_one (l : List UInt8) : ∀ u ∈ Lib.byteCells l, u.oneCell' = true := by
  intro u hu
  obtain ⟨b, _, rfl⟩ := List.mem_map.1 hu
  rfl

theorem reads_new (w : World) (cs : List Value) (E : TypeId) : Reads (w.alloc (.cells cs.toArray E)) (w.heap.size + 1) 1 (some ⟨w.heap.size, 0, none⟩) cs.length cs :=
  Own.reads (xs := cs) (lo := 0) (E := E) (.inr ⟨w.heap.size, _, rfl, by omega, by omega, heap_alloc_new w _, by simp, by simp⟩)
theorem bc_le4 (m : Nat) (hm : m < 4294967296) : Lib.byteCells (le4 m) = [.int .u8 ((m : Int) % 256), .int .u8 ((m : Int) / 256 % 256), .int .u8 ((m : Int) / 65536 % 256), .int .u8 ((m : Int) / 16777216)] := by
  have h4 : (m / 16777216) % 256 = m / 16777216 := by omega
  simp only [Lib.byteCells, le4, List.map_cons, List.map_nil, u8_nat]
  rw [h4]
  simp

set_option maxRecDepth 100000 in
theorem l07Word_any (base n m : Nat) (A : Option Addr) (c : Nat) (xs : List Value) (w : World) (hown : w.ownsRow base 5 1 (.slice A n c) n xs) (hB : base ≤ w.heap.size) (hm : m < 4294967296) (hn : n ≤ 1048576) :
    Calls Tryz.prog 46 #[.slice A n c, .int .i64 (m : Int)] w fun e w' => ∃ A' c', e = .returned (.slice A' (n + 4) c') ∧ w'.ownsRow base 5 1 (.slice A' (n + 4) c') (n + 4) (xs ++ Lib.byteCells (le4 m)) ∧ Below base w w' := by
  obtain ⟨i0, hi, hz0, hz1, hz2⟩ := info_parts info5
  have HBC := Lib.hid (bc_le4 m hm)
  go_enter Tryz.func46, Tryz.ntmps46
  go_wp2_with (at_builtin; refine wpList_append_any _ rfl (.tmp 5) (.tmp 20) _ rfl base 5 i0 _ 1 1 Tryz.underlying68 hi hz0 hz1 hz2 rfl (by omega) (.slice A n c) n xs rfl (hown.alloc _) (w.heap.size + 1) (some ⟨w.heap.size, 0, none⟩) 4 4 [.int .u8 ((m : Int) % 256), .int .u8 ((m : Int) / 256 % 256), .int .u8 ((m : Int) / 65536 % 256), .int .u8 ((m : Int) / 16777216)] rfl (reads_new w _ _) (by rw [← HBC.out]; exact bc_one _) (by simp only [maxLen]; omega) (by omega) (by simp; omega) ?_; intro v1 w1 hown1 hg1 hat1)
  have hb1 : Below base w w1 := ((Below.refl _ _).alloc hB _).grown hg1 (by simp; omega) (fun j hj => (hown.lt j hj).1)
  clear hg1 hat1 hown
  obtain ⟨A', c', rfl, -, -, -⟩ := Own.of_row hown1 (Nat.le_refl _)
  go_wp2
  go_ret
  exact ⟨A', c', rfl, by rw [HBC.out]; exact hown1, hb1⟩

theorem at1_of (s : ByteArray) (k : Nat) (h : k < s.size) : at1 s.data.toList k = s[k].toNat := by
  rw [at1, List.getD, byte_at s k h]; rfl
theorem at1_ext (s : ByteArray) (a n j : Nat) (hj : j < n) : at1 (s.extract a (a + n)).data.toList j = at1 s.data.toList (a + j) := by
  rw [extract_txt, txt_data, at1, at1, List.getD, List.getD, List.getElem?_take, if_pos (by omega), List.getElem?_drop]
theorem rd4_ext (s : ByteArray) (a : Nat) : rd4 (s.extract a (a + 4)).data.toList 0 = rd4 s.data.toList a := by
  simp only [rd4, at1_ext s a 4 0 (by omega), at1_ext s a 4 (0 + 1) (by omega), at1_ext s a 4 (0 + 2) (by omega), at1_ext s a 4 (0 + 3) (by omega)]
  rfl

set_option maxRecDepth 100000 in
theorem l07Read_any (x : ByteArray) (w : World) (h : x.size = 4) :
    Calls Tryz.prog 29 #[.string x] w fun e w' => e = .returned (.int .i64 (rd4 x.data.toList 0 : Nat)) ∧ ∃ n, w' = w.drewN n := by
  have i0 : (0 : Int) < (x.size : Int) := by omega
  have i1 : (1 : Int) < (x.size : Int) := by omega
  have i2 : (2 : Int) < (x.size : Int) := by omega
  have i3 : (3 : Int) < (x.size : Int) := by omega
  have k0 : 0 < x.size := by omega
  have k1 : 1 < x.size := by omega
  have k2 : 2 < x.size := by omega
  have k3 : 3 < x.size := by omega
  have b0 : x[0].toNat < 256 := x[0].toNat_lt
  have b1 : x[1].toNat < 256 := x[1].toNat_lt
  have b2 : x[2].toNat < 256 := x[2].toNat_lt
  have b3 : x[3].toNat < 256 := x[3].toNat_lt
  have HV : Hid ((rd4 x.data.toList 0 : Nat) = x[0].toNat + 256 * x[1].toNat + 65536 * x[2].toNat + 16777216 * x[3].toNat) := by
    show _ = _
    rw [rd4, at1_of x 0 k0, at1_of x (0 + 1) k1, at1_of x (0 + 2) k2, at1_of x (0 + 3) k3]
  clear h
  go_enter Tryz.func29, Tryz.ntmps29
  go_wp2
  go_quiet (fail)
  go_wp2
  go_ret
  exact ⟨by rw [HV.out]; simp, _, rfl⟩

set_option maxRecDepth 100000 in
theorem fromBitsS_any (n : Nat) (h : n < 4294967296) (w : World) :
    Calls Tryz.prog 28 #[.int .i64 (n : Int)] w fun e w' => e = .returned (.tuple #[.float .f32 n, .bool true]) ∧ w = w' := by
  have HF := fun W => l01From_any n h W
  have HI : ∀ W, Calls Tryz.prog 41 #[.int .i64 (n : Int), .int .i64 0, .int .i64 4294967295] W fun e w' => e = .returned (.bool true) ∧ W = w' := fun W => by
    have h1 : decide ((0 : Int) ≤ (n : Int)) = true := by simp
    have h2 : decide ((n : Int) ≤ 4294967295) = true := by simp; omega
    go_enter Tryz.func41, Tryz.ntmps41
    go_wp2
    go_ret
    exact ⟨rfl, rfl⟩
  go_enter Tryz.func28, Tryz.ntmps28
  go_wp2_with fail
  (with_reducible refine (HI _).mono ?_)
  rintro e w1 ⟨rfl, rfl⟩
  go_wp2_with fail
  (with_reducible refine (HF _).mono ?_)
  rintro e w1 ⟨rfl, rfl⟩
  go_wp2
  go_ret2
  exact ⟨rfl, rfl⟩
set_option maxRecDepth 100000 in
theorem fromBitsI_any (n : Nat) (h : n < 4294967296) (w : World) :
    Calls Tryz.prog 35 #[.int .i64 (n : Int)] w fun e w' => e = .returned (.tuple #[.float .f32 n, .bool true]) ∧ w = w' := by
  have hX := run_frombits n
  have hw : IntKind.u32.wrap (n : Int) = (n : Int) := by rw [IntKind.wrap_u32]; omega
  have HI : ∀ W, Calls Tryz.prog 51 #[.int .i64 (n : Int), .int .i64 0, .int .i64 4294967295] W fun e w' => e = .returned (.bool true) ∧ W = w' := fun W => by
    have h1 : decide ((0 : Int) ≤ (n : Int)) = true := by simp
    have h2 : decide ((n : Int) ≤ 4294967295) = true := by simp; omega
    go_enter Tryz.func51, Tryz.ntmps51
    go_wp2
    go_ret
    exact ⟨rfl, rfl⟩
  go_enter Tryz.func35, Tryz.ntmps35
  go_wp2_with fail
  (with_reducible refine (HI _).mono ?_)
  rintro e w1 ⟨rfl, rfl⟩
  go_wp2
  go_ret2
  exact ⟨rfl, rfl⟩
end Go.Proofs.YtgfmnolmokpgnaaGreatDoor
