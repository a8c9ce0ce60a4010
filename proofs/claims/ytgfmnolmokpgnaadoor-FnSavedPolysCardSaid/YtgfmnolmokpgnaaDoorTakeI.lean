/-
  Contracts: (*impl.loader).take, number.
-/
import Derived.Test.YtgfmnolmokpgnaaDoorStoreI
import Derived.Laws.Bits64b
namespace Go.Proofs.YtgfmnolmokpgnaaDoor
open Go.RowKit

/-- What is taken; what is left; were there too few bytes. -/
def tkV (r : List UInt8) (m : Nat) : List UInt8 := if r.length < m then List.replicate m 0 else r.take m
def tkR (r : List UInt8) (m : Nat) : List UInt8 := if r.length < m then r else r.drop m
def tkB (r : List UInt8) (m : Nat) (b : Bool) : Bool := if r.length < m then true else b
theorem tkV_len (r : List UInt8) (m : Nat) : (tkV r m).length = m := by
  unfold tkV
  split
  · simp
  · rw [List.length_take]; omega
/-- A loader in memory. -/
def Ldr (w : World) (g : Nat) (r : List UInt8) (b : Bool) : Prop := Blk w g 83 #[.string (txt r), .bool b]
theorem repeat_zero (m : Nat) : Lib.repeatL [0] m = List.replicate m (0 : UInt8) := by
  induction m with
  | zero => rfl
  | succ m ih => simp [Lib.repeatL, List.replicate_succ] at ih ⊢; exact ih

set_option maxRecDepth 100000 in
theorem take_any (g m : Nat) (r : List UInt8) (b : Bool) (w : World) (h : Ldr w g r b) (hm : m ≤ 1048576) :
    Calls Tryd.prog 35 #[.pointer (some ⟨g, 0, none⟩), .int .i64 (m : Int)] w fun e w' => e = .returned (.string (txt (tkV r m))) ∧ Ldr w' g (tkR r m) (tkB r m b) ∧ Kp g (g + 1) w w' := by
  have c0 : w.cell? ⟨g, 0, none⟩ = some (.string (txt r)) := h.cell 0
  have c1 : w.cell? ⟨g, 1, none⟩ = some (.bool b) := h.cell 1
  have f0 := h.frozen 0
  have f1 := h.frozen 1
  have hz : (txt r).size = r.length := txt_size r
  by_cases hlt : r.length < m
  · have hV : tkV r m = List.replicate m 0 := by rw [tkV, if_pos hlt]
    have hR : tkR r m = r := by rw [tkR, if_pos hlt]
    have hB : tkB r m b = true := by rw [tkB, if_pos hlt]
    rw [hV, hR, hB]
    clear hV hR hB
    have HP := fun W => Tryd.strings_Repeat ⟨#[0]⟩ m W (by omega) (by show 1 * _ ≤ _; omega)
    have hrp : (⟨(Lib.repeatL (ByteArray.mk #[0]).data.toList m).toArray⟩ : ByteArray) = txt (List.replicate m 0) := by
      show (⟨(Lib.repeatL [0] m).toArray⟩ : ByteArray) = _
      rw [repeat_zero]; rfl
    rw [hrp] at HP
    clear hrp
    go_enter Tryd.func35, Tryd.ntmps35
    go_wp2_with fail
    (with_reducible refine (HP _).mono ?_)
    rintro e w1 ⟨rfl, hb⟩
    go_wp2
    go_ret
    have h2 : Ldr (w.setCell ⟨g, 1, none⟩ (.bool true)) g r true := h.set_ 1 _
    exact ⟨rfl, h2.below hb h2.lt, ((Kp.refl g (g + 1) w).setCell ⟨Nat.le_refl _, by simp⟩ _).trans (Kp.of_below hb)⟩
  · have hV : tkV r m = r.take m := by rw [tkV, if_neg hlt]
    have hR : tkR r m = r.drop m := by rw [tkR, if_neg hlt]
    have hB : tkB r m b = b := by rw [tkB, if_neg hlt]
    rw [hV, hR, hB]
    clear hV hR hB
    have e1 : (txt r).extract 0 m = txt (r.take m) := by rw [extract_txt, txt_data]; simp
    have e2 : (txt r).extract m r.length = txt (r.drop m) := by
      rw [extract_txt, txt_data, List.take_of_length_le (by rw [List.length_drop]; omega)]
    have E2 := Lib.hid e2
    clear e2
    go_enter Tryd.func35, Tryd.ntmps35
    go_wp2
    go_ret
    refine ⟨rfl, ?_, (Kp.refl g (g + 1) w).setCell ⟨Nat.le_refl _, by simp⟩ _⟩
    rw [E2.out]
    exact h.set_ 0 _

/-- The number of bytes, the least one first. -/
def leV : List UInt8 → Nat
  | [] => 0
  | b :: l => b.toNat + 256 * leV l
theorem leV_snoc (l : List UInt8) (b : UInt8) : leV (l ++ [b]) = leV l + b.toNat * 256 ^ l.length := by
  induction l with
  | nil => simp [leV]
  | cons a l ih =>
    rw [List.cons_append, leV, ih, leV, List.length_cons, Nat.pow_succ, Nat.mul_add, Nat.mul_comm (256 ^ l.length) 256, Nat.mul_left_comm b.toNat 256, Nat.add_assoc]
theorem leV_lt (l : List UInt8) : leV l < 256 ^ l.length := by
  induction l with
  | nil => simp [leV]
  | cons b l ih =>
    have hb : b.toNat < 256 := b.toNat_lt
    rw [leV, List.length_cons, Nat.pow_succ]
    omega

theorem i64_or_nat (a b : Nat) (ha : a < 4294967296) (hb : b < 4294967296) : bits .or .i64 (a : Int) (b : Int) = ((a ||| b : Nat) : Int) := by
  have hx : a ||| b < 2 ^ 32 := Nat.or_lt_two_pow (by omega) (by omega)
  have h1 : (BitVec.ofInt 64 (a : Int)).toNat = a := by
    rw [BitVec.ofInt_natCast, BitVec.toNat_ofNat]; exact Nat.mod_eq_of_lt (by omega)
  have h2 : (BitVec.ofInt 64 (b : Int)).toNat = b := by
    rw [BitVec.ofInt_natCast, BitVec.toNat_ofNat]; exact Nat.mod_eq_of_lt (by omega)
  show IntKind.i64.wrap ((BitVec.ofInt 64 (a : Int) ||| BitVec.ofInt 64 (b : Int)).toNat : Int) = _
  rw [BitVec.toNat_or, h1, h2]
  exact IntWalk.i64_in _ (by omega)
theorem or_step (q c k : Nat) (hq : q < 256 ^ k) (hc : c < 256) (hk : k ≤ 3) : bits .or .i64 (q : Int) (wrap64 ((c : Int) * 2 ^ (8 * k))) = ((q + c * 256 ^ k : Nat) : Int) := by
  have hp : (256 : Nat) ^ k = 2 ^ (8 * k) := by rw [Nat.pow_mul]
  have h3 : (256 : Nat) ^ k ≤ 256 ^ 3 := Nat.pow_le_pow_right (by omega) hk
  have hb : c * 256 ^ k < 4294967296 := by
    have : c * 256 ^ k ≤ 255 * 256 ^ 3 := Nat.mul_le_mul (by omega) h3
    omega
  have e1 : (c : Int) * 2 ^ (8 * k) = ((c * 256 ^ k : Nat) : Int) := by rw [hp]; simp
  have e2 : wrap64 ((c * 256 ^ k : Nat) : Int) = ((c * 256 ^ k : Nat) : Int)   := by unfold wrap64; omega
  rw [e1, e2, i64_or_nat _ _ (by omega) (by omega)]
  rw [hp, ← Nat.shiftLeft_eq, Nat.or_comm, ← Nat.shiftLeft_add_eq_or_of_lt (by rw [← hp]; exact hq), Nat.add_comm]
theorem q_lt {l : List UInt8} {k q : Nat} (hq : q = leV (l.take k)) (hk : k ≤ l.length) : q < 256 ^ k := by
  have h := leV_lt (l.take k)
  rw [List.length_take, Nat.min_eq_left hk] at h
  rw [hq]; exact h
theorem leV_next {l : List UInt8} {k : Nat} (hk : k < l.length) : leV (l.take (k + 1)) = leV (l.take k) + (l[k]'hk).toNat * 256 ^ k := by
  rw [List.take_succ_eq_append_getElem hk, leV_snoc, List.length_take, Nat.min_eq_left (by omega)]

set_option maxRecDepth 100000 in
set_option maxHeartbeats 400000 in
theorem number_any (g K : Nat) (r : List UInt8) (b : Bool) (w : World) (h : Ldr w g r b) (hK : 1 ≤ K ∧ K ≤ 4) :
    Calls Tryd.prog 37 #[.pointer (some ⟨g, 0, none⟩), .int .i64 (K : Int)] w fun e w' => e = .returned (.int .i64 (leV (tkV r K) : Nat)) ∧ Ldr w' g (tkR r K) (tkB r K b) ∧ Kp g (g + 1) w w' := by
  have HT := take_any g K r b w h (by omega)
  have hl := tkV_len r K
  generalize tkV r K = l at *
  have HL := Lib.hid hl
  clear hl
  have hcv := fun w => Lib.run_convert_string_bytes (P := Tryd.prog) w 9 22 5 (txt l) (u := .string) Tryd.underlying9 Tryd.underlying22 Tryd.underlying5
  go_enter Tryd.func37, Tryd.ntmps37
  go_wp2_with fail
  (with_reducible refine HT.mono ?_)
  rintro e w1 ⟨rfl, hL1, hk1⟩
  clear HT
  have hcv1 := hcv w1
  have hbc := Lib.bytesWorld_below w1 5 (txt l)
  have hrc := reads_conv w1 (txt l)
  rw [txt_data, txt_size, HL.out] at hrc
  have hz : (txt l).size = K := by rw [txt_size]; exact HL.out
  rw [hz] at hcv1
  have hz2 := Lib.bytesWorld_size w1 5 (txt l)
  generalize Lib.bytesWorld w1 5 (txt l) = w2 at *
  have HZ2 : Hid (w1.heap.size + 1 ≤ w2.heap.size) := Nat.le_of_eq hz2.symm
  clear hz2
  generalize grownCap w1 K 0 5 = gc at *
  have hL2 : Ldr w2 g (tkR r K) (tkB r K b) := hL1.below hbc hL1.lt
  have hk2 := hk1.trans (Kp.of_below hbc)
  clear hcv hL1 hk1 hbc hz h
  go_wp2
  go_loopw [5, 6, 7, 13] (fun n _ _ i wr => ∃ k q : Nat, k ≤ K ∧ i = .int .i64 k ∧ n = .int .i64 q ∧ Hid (q = leV (l.take k)) ∧ Qt w2 wr) (fun _ _ _ i _ => K - (intOf i).toNat)
  case atStart => exact ⟨0, 0, Nat.zero_le _, rfl, rfl, rfl, Qt.refl _⟩
  case round =>
    obtain ⟨k, q, hk, rfl, rfl, hq, hqt⟩ := hrel
    by_cases hlt : k < K
    · have hkl : k < l.length := by rw [HL.out]; exact hlt
      have hadd : (⟨w1.heap.size, 0, none⟩ : Addr).add k = ⟨w1.heap.size, k, none⟩ := by unfold Addr.add; split <;> simp_all
      have hc : wr.cell? ⟨w1.heap.size, k, none⟩ = some (.int .u8 ((l[k]'hkl).toNat : Int)) := by
        rw [← hadd]
        exact (hrc.below (hqt.below.mono HZ2.out)).cells (by rw [Lib.byteCells, List.getElem?_map, List.getElem?_eq_getElem hkl]; rfl)
      have hb := (l[k]'hkl).toNat_lt
      have HN : Hid (q + (l[k]'hkl).toNat * 256 ^ k = leV (l.take (k + 1))) := by show _ = _; rw [leV_next hkl, hq.out]
      have HQ := Lib.hid (q_lt hq.out (Nat.le_of_lt hkl))
      clear hadd
      generalize (l[k]'hkl).toNat = c at *
      have HO := Lib.hid (or_step q c k HQ.out (by omega) (by omega))
      go_wp2
      refine ⟨⟨k + 1, q + c * 256 ^ k, by omega, by go_num, by rw [HO.out], HN, hqt⟩, by simp [intOf]; omega⟩
    · obtain rfl : k = K := by omega
      have hfin : Hid (q = leV l) := by show _ = _; rw [hq.out, List.take_of_length_le (by rw [HL.out]; exact Nat.le_refl _)]
      have hbl := hqt.below
      clear hlt hq
      go_wp2
      go_ret
      refine ⟨by rw [hfin.out]; rfl, hL2.below hbl hL2.lt, hk2.trans (Kp.of_below hbl)⟩
end Go.Proofs.YtgfmnolmokpgnaaDoor
