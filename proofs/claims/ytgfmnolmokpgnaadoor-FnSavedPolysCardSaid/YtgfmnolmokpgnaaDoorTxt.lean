/-
  Texts of bytes; contracts: the bits of a number and the number of some bits, the check number of a text, on both sides.
-/
import Derived.Test.YtgfmnolmokpgnaaDoorCplx
import Derived.Laws.Externs
import Derived.Lib.Strings
import Derived.Lib.Hide
namespace Go.Proofs.YtgfmnolmokpgnaaDoor
open Go.RowKit

/-- A text of bytes. -/
def txt (l : List UInt8) : ByteArray := ⟨l.toArray⟩
@[simp] theorem txt_data (l : List UInt8) : (txt l).data.toList = l := by simp [txt]
theorem txt_size (l : List UInt8) : (txt l).size = l.length := by simp [txt, ByteArray.size]
theorem txt_of (s : ByteArray) : txt s.data.toList = s := by simp [txt]
theorem extract_txt (s : ByteArray) (a b : Nat) : s.extract a b = txt ((s.data.toList.drop a).take (b - a)) := by
  apply ByteArray.ext
  simp only [txt, ByteArray.data_extract]
  apply Array.ext'
  simp [List.extract_eq_take_drop]
theorem cat_add (a b : List UInt8) : txt a ++ txt b = txt (a ++ b) := by
  rw [← txt_of (txt a ++ txt b)]; simp
theorem byte_at (s : ByteArray) (k : Nat) (h : k < s.size) : s.data.toList[k]? = some s[k] := by
  rw [List.getElem?_eq_getElem (by rw [← Lib.size_eq]; exact h)]
  rfl

theorem run_frombits (n : Nat) (w : World) : (callFunc 52 #[.int .u32 (n : Int)]).run Tryd.prog w = .ok (.value (.float .f32 n)) w := by
  rw [run_callFunc_extern (P := Tryd.prog) (f := 52) (e := Extern.MathFloatBits.float32frombits) Tryd.func52 (by kernel_rfl) (by kernel_rfl) (by kernel_rfl) (by kernel_rfl)]
  rfl
theorem run_bits (n : Nat) (w : World) : (callFunc 49 #[.float .f32 n]).run Tryd.prog w = .ok (.value (.int .u32 (n : Int))) w := by
  rw [run_callFunc_extern (P := Tryd.prog) (f := 49) (e := Extern.MathFloatBits.float32bits) Tryd.func49 (by kernel_rfl) (by kernel_rfl) (by kernel_rfl) (by kernel_rfl)]
  rfl

/-- The bits of a number; of what is no number always the same. -/
def bitsN (n : Nat) : Nat := if FloatKind.f32.format.order n n == some .eq then n else 2143289344
theorem bitsN_lt {n : Nat} (h : n < 4294967296) : bitsN n < 4294967296 := by unfold bitsN; split <;> omega
set_option maxRecDepth 100000 in
theorem bitsOf_any (n : Nat) (hn : n < 4294967296) (w : World) :
    Calls Tryd.prog 33 #[.float .f32 n] w fun e w' => e = .returned (.int .i64 (bitsN n : Int)) ∧ w = w' := by
  have hx := run_bits n
  have hw : IntKind.i64.wrap (n : Int) = (n : Int) := IntWalk.i64_in _ (by omega)
  have hn' : (n : Int) < 4294967296 := by omega
  cases h : FloatKind.f32.format.order n n == some .eq with
  | true =>
    have hb : Hid (bitsN n = n) := by show _ = _; rw [bitsN, h]; rfl
    have h2 : (FloatKind.f32.format.order n n != some .eq) = false := by rw [bne, h]; rfl
    go_enter Tryd.func33, Tryd.ntmps33
    go_wp2
    go_ret
    exact ⟨by rw [hb.out]; rfl, rfl⟩
  | false =>
    have hb : Hid (bitsN n = 2143289344) := by show _ = _; rw [bitsN, h]; rfl
    have h2 : (FloatKind.f32.format.order n n != some .eq) = true := by rw [bne, h]; rfl
    go_enter Tryd.func33, Tryd.ntmps33
    go_wp2
    go_ret
    exact ⟨by rw [hb.out]; rfl, rfl⟩

/-- The check number of a text, begun at n. -/
def chk (n : Nat) (l : List UInt8) : Nat := l.foldl (fun n b => (911 * n + b.toNat + 181) % 65003) n
theorem chk_lt {n : Nat} (h : n < 65003) (l : List UInt8) : chk n l < 65003 := by
  unfold chk
  induction l generalizing n with
  | nil => exact h
  | cons b l ih => exact ih (Nat.mod_lt _ (by omega))
theorem chk_snoc (n : Nat) (l : List UInt8) (b : UInt8) : chk n (l ++ [b]) = (911 * chk n l + b.toNat + 181) % 65003 := by
  simp [chk, List.foldl_append]
theorem chk_take (n : Nat) (s : ByteArray) (k : Nat) (h : k < s.size) : chk n (s.data.toList.take (k + 1)) = (911 * chk n (s.data.toList.take k) + s[k].toNat + 181) % 65003 := by
  rw [List.take_add_one, byte_at s k h]
  exact chk_snoc n _ _
theorem chk_all (n : Nat) (s : ByteArray) : chk n (s.data.toList.take s.size) = chk n s.data.toList := by
  rw [List.take_of_length_le (by rw [← Lib.size_eq]; omega)]

set_option maxRecDepth 100000 in
theorem checkOf_any (n : Nat) (s : ByteArray) (w : World) (hn : n < 65003) (hs : s.size ≤ 9223372036854775807) :
    Calls Tryd.prog 34 #[.int .i64 (n : Int), .string s] w fun e w' => e = .returned (.tuple #[.int .i64 (chk n s.data.toList : Nat), .bool true]) ∧ w = w' := by
  have h1 : decide ((0 : Int) ≤ (n : Int)) = true := by simp
  have h2 : decide ((n : Int) ≤ 65002) = true := by simp; omega
  go_enter Tryd.func34, Tryd.ntmps34
  go_wp2
  go_loop [0, 6, 12] (fun c j i => ∃ k m : Nat, k ≤ s.size ∧ i = .int .i64 k ∧ c = .int .i64 (m : Int) ∧ m < 65003 ∧ Hid (m = chk n (s.data.toList.take k))) (fun _ _ i => s.size - (intOf i).toNat)
  case atStart => exact ⟨0, n, Nat.zero_le _, rfl, rfl, hn, rfl⟩
  case round =>
    obtain ⟨k, m, hk, rfl, rfl, hm, hc⟩ := hrel
    by_cases hlt : k < s.size
    · have hN : Hid ((911 * m + s[k].toNat + 181) % 65003 = chk n (s.data.toList.take (k + 1))) := by
        show _ = _
        rw [chk_take n s k hlt, ← hc.out]
      have hb : s[k].toNat < 256 := s[k].toNat_lt
      go_wp2
      go_round
      case rel => exact ⟨k + 1, _, by omega, by go_num, by go_num, Nat.mod_lt _ (by omega), hN⟩
      case measure => simp [intOf]; omega
    · have hkn : k = s.size := by omega
      have hN : Hid (m = chk n s.data.toList) := by
        show _ = _
        rw [hc.out, hkn, chk_all]
      clear hc hkn
      go_wp2
      go_ret2
      exact ⟨by rw [hN.out]; rfl, rfl⟩

end Go.Proofs.YtgfmnolmokpgnaaDoor
