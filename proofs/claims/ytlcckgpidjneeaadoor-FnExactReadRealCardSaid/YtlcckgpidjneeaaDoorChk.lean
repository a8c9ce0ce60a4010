/-
  Contracts: the check number of a text (spec.l01Check, impl.CheckOf); a number in decimal (impl.Decimal).
-/
import Derived.Test.YtlcckgpidjneeaaDoorDec
import Derived.Test.YtlcckgpidjneeaaDoorShelfNum
import Derived.Lib.AppendIntMem
namespace Go.Proofs.YtlcckgpidjneeaaDoor
open Go.RowKit

/-- The check number of a text, begun at n. -/
def chk (n : Nat) (l : List UInt8) : Nat := l.foldl (fun n b => (911 * n + b.toNat + 181) % 65003) n
theorem chk_lt {n : Nat} (h : n < 65003) (l : List UInt8) : chk n l < 65003 := by
  unfold chk
  induction l generalizing n with
  | nil => exact h
  | cons b l ih => exact ih (Nat.mod_lt _ (by omega))
theorem chk_snoc (n : Nat) (l : List UInt8) (b : UInt8) : chk n (l ++ [b]) = (911 * chk n l + b.toNat + 181) % 65003 := by
  simp [chk, List.foldl_append]
theorem chk_take (n : Nat) (s : ByteArray) (k : Nat) (h : k < s.size) : chk n (s.data.toList.take (k + 1)) = (911 * chk n (s.data.toList.take k) + s[k].toNat + 181) % 65003 := by
  rw [List.take_add_one, byte_at s k h]
  exact chk_snoc n _ _
theorem chk_all (n : Nat) (s : ByteArray) : chk n (s.data.toList.take s.size) = chk n s.data.toList := by
  rw [List.take_of_length_le (by rw [← Lib.size_eq]; omega)]

theorem l01Check_any (n : Nat) (s : ByteArray) (w : World) (hn : n < 65003) (hs : s.size ≤ 9223372036854775807) :
    Calls Tryd.prog 61 #[.int .i64 (n : Int), .string s] w fun e w' => e = .returned (.int .i64 (chk n s.data.toList : Nat)) ∧ w = w' := by
  go_enter Tryd.func61, Tryd.ntmps61
  go_wp2
  go_loop [0, 5] (fun c i => ∃ k m : Nat, k ≤ s.size ∧ i = .int .i64 k ∧ c = .int .i64 (m : Int) ∧ m < 65003 ∧ Hid (m = chk n (s.data.toList.take k))) (fun _ i => s.size - (intOf i).toNat)
  case atStart => exact ⟨0, n, Nat.zero_le _, rfl, rfl, hn, rfl⟩
  case round =>
    obtain ⟨k, m, hk, rfl, rfl, hm, hc⟩ := hrel
    by_cases hlt : k < s.size
    · have hN : Hid ((911 * m + s[k].toNat + 181) % 65003 = chk n (s.data.toList.take (k + 1))) := by
        show _ = _
        rw [chk_take n s k hlt, ← hc.out]
      have hb : s[k].toNat < 256 := s[k].toNat_lt
      go_wp2
      go_round
      case rel => exact ⟨k + 1, _, by omega, by go_num, by go_num, Nat.mod_lt _ (by omega), hN⟩
      case measure => simp [intOf]; omega
    · have hkn : k = s.size := by omega
      have hN : Hid (m = chk n s.data.toList) := by
        show _ = _
        rw [hc.out, hkn, chk_all]
      clear hc hkn
      go_wp2
      go_ret
      exact ⟨by rw [hN.out]; rfl, rfl⟩

set_option maxRecDepth 100000 in
theorem checkOf_any (n : Nat) (s : ByteArray) (w : World) (hn : n < 65003) (hs : s.size ≤ 9223372036854775807) :
    Calls Tryd.prog 39 #[.int .i64 (n : Int), .string s] w fun e w' => e = .returned (.tuple #[.int .i64 (chk n s.data.toList : Nat), .bool true]) ∧ w = w' := by
  have h1 : decide ((0 : Int) ≤ (n : Int)) = true := by simp
  have h2 : decide ((n : Int) ≤ 65002) = true := by simp; omega
  go_enter Tryd.func39, Tryd.ntmps39
  go_wp2
  go_loop [0, 6, 12] (fun c j i => ∃ k m : Nat, k ≤ s.size ∧ i = .int .i64 k ∧ c = .int .i64 (m : Int) ∧ m < 65003 ∧ Hid (m = chk n (s.data.toList.take k))) (fun _ _ i => s.size - (intOf i).toNat)
  case atStart => exact ⟨0, n, Nat.zero_le _, rfl, rfl, hn, rfl⟩
  case round =>
    obtain ⟨k, m, hk, rfl, rfl, hm, hc⟩ := hrel
    by_cases hlt : k < s.size
    · have hN : Hid ((911 * m + s[k].toNat + 181) % 65003 = chk n (s.data.toList.take (k + 1))) := by
        show _ = _
        rw [chk_take n s k hlt, ← hc.out]
      have hb : s[k].toNat < 256 := s[k].toNat_lt
      go_wp2
      go_round
      case rel => exact ⟨k + 1, _, by omega, by go_num, by go_num, Nat.mod_lt _ (by omega), hN⟩
      case measure => simp [intOf]; omega
    · have hkn : k = s.size := by omega
      have hN : Hid (m = chk n s.data.toList) := by
        show _ = _
        rw [hc.out, hkn, chk_all]
      clear hc hkn
      go_wp2
      go_ret2
      exact ⟨by rw [hN.out]; rfl, rfl⟩

theorem itoa_nat (n : Nat) : Lib.itoa (n : Int) = Lib.decDigits n := by
  rw [Lib.itoa, if_neg (by omega), Int.toNat_natCast]
open Go.Sort in
theorem decimal_any (n : Int) (h0 : -9223372036854775808 ≤ n) (h1 : n ≤ 9223372036854775807) (w : World) (htab : Lib.TabIs Tryd.prog w "internal/strconv.uint64pow10" .u64 Lib.pow10Tab) :
    Calls Tryd.prog 41 #[.int .i64 n] w fun e w' => e = .returned (.string (txt (Lib.itoa n))) ∧ Below w.heap.size w w' := by
  have H := Tryd.strconv_FormatInt_10 n h0 h1 w htab
  clear htab h0 h1
  go_enter Tryd.func41, Tryd.ntmps41
  go_wp2_with fail
  refine H.mono ?_
  rintro e w1 ⟨rfl, k, os, rfl⟩
  have hb := Lib.below_grow w.heap.size w (Nat.le_refl _) k os
  clear H
  generalize grow (w.drewN k) os = w1 at *
  go_wp2
  go_ret
  exact ⟨rfl, hb⟩
end Go.Proofs.YtlcckgpidjneeaaDoor
