/-
  Contracts: strconv.FormatInt at base 16, impl.hexOf: the eight digits of a number's bits.
-/
import Derived.Test.YtfiakhhippfkaaaGreatDoorFmt
import Derived.Test.YtfiakhhippfkaaaGreatDoorDigS
namespace Go.Proofs.YtfiakhhippfkaaaGreatDoor
open Go.RowKit

theorem fmtIntI_any (n : Nat) (hn : n < 4294967296) (w : World) (hT : Tz4 w) :
    Calls Tryz.prog 54 #[.int .i64 (n : Int), .int .i64 16] w fun e w' => e = .returned (.string ⟨(least n).toArray⟩) ∧ Below w.heap.size w w' := by
  have H := fmtBits_any n hn w hT
  have h1 : IntKind.u64.wrap (n : Int) = (n : Int) := by rw [IntKind.wrap_u64]; omega
  have h2 : ¬ ((n : Int) < 0) := by omega
  clear hT
  generalize (⟨(least n).toArray⟩ : ByteArray) = d at *
  go_enter Tryz.func54, Tryz.ntmps54
  go_wp2_with fail
  (with_reducible refine H.mono ?_)
  rintro e w1 ⟨rfl, hb⟩
  go_wp2
  go_ret
  exact ⟨rfl, hb⟩
theorem fmtInt_any (n : Nat) (hn : n < 4294967296) (w : World) (hT : Tz4 w) :
    Calls Tryz.prog 38 #[.int .i64 (n : Int), .int .i64 16] w fun e w' => e = .returned (.string ⟨(least n).toArray⟩) ∧ Below w.heap.size w w' := by
  have H := fmtIntI_any n hn w hT
  clear hT
  generalize (⟨(least n).toArray⟩ : ByteArray) = d at *
  go_enter Tryz.func38, Tryz.ntmps38
  go_wp2_with fail
  (with_reducible refine H.mono ?_)
  rintro e w1 ⟨rfl, hb⟩
  go_wp2
  go_ret
  exact ⟨rfl, hb⟩

theorem repeat_one (c : Nat) : Lib.repeatL [(48 : UInt8)] c = List.replicate c 48 := by
  induction c with
  | zero => rfl
  | succ c ih => simp [Lib.repeatL] at ih ⊢; simp [List.replicate_succ, ih]
theorem append_arr (a b : List UInt8) : (⟨a.toArray⟩ : ByteArray) ++ ⟨b.toArray⟩ = ⟨(a ++ b).toArray⟩ := by
  rw [ByteArray.ext_iff, ByteArray.data_append]; simp

set_option maxRecDepth 100000 in
theorem hexOf_any (n : Nat) (hn : n < 4294967296) (w : World) (hT : Tz4 w) :
    Calls Tryz.prog 27 #[.float .f32 n] w fun e w' => e = .returned (.string ⟨(pad 8 (bitsN n)).toArray⟩) ∧ Below w.heap.size w w' := by
  have HB := bitsOf_any n hn w
  have HF := fmtInt_any (bitsN n) (bitsN_lt hn) w hT
  obtain ⟨h1, h2, h3⟩ := least_len (k := 7) (n := bitsN n) (by have := bitsN_lt hn; simpa using this)
  have HR := fun W => Tryz.strings_Repeat ⟨#[48]⟩ (8 - (least (bitsN n)).length) W (by omega) (by show 1 * _ ≤ _; omega)
  have hr : Lib.repeatL (ByteArray.mk #[48]).data.toList (8 - (least (bitsN n)).length) = List.replicate (8 - (least (bitsN n)).length) 48 := repeat_one _
  rw [hr] at HR
  have HA : Hid ((⟨(List.replicate (8 - (least (bitsN n)).length) (48 : UInt8)).toArray⟩ : ByteArray) ++ ⟨(least (bitsN n)).toArray⟩ = ⟨(pad 8 (bitsN n)).toArray⟩) := by
    show _ = _
    rw [append_arr, h3]
  have hs1 : (⟨(least (bitsN n)).toArray⟩ : ByteArray).size = (least (bitsN n)).length := by show Array.size _ = _; simp
  have hs2 : (⟨(List.replicate (8 - (least (bitsN n)).length) (48 : UInt8)).toArray⟩ : ByteArray).size = 8 - (least (bitsN n)).length := by show Array.size _ = _; simp
  clear hr h3 hT
  generalize (⟨(pad 8 (bitsN n)).toArray⟩ : ByteArray) = r at *
  generalize (⟨(List.replicate (8 - (least (bitsN n)).length) (48 : UInt8)).toArray⟩ : ByteArray) = a at *
  generalize (⟨(least (bitsN n)).toArray⟩ : ByteArray) = b at *
  generalize (least (bitsN n)).length = m at *
  generalize bitsN n = q at *
  have hm : ((8 - m : Nat) : Int) = (8 : Int) - (m : Int) := by omega
  rw [hm] at HR
  have hcat : ¬ 9223372036854775807 < a.size + b.size := by omega
  have hb8 : b.size ≤ 8 := by omega
  go_enter Tryz.func27, Tryz.ntmps27
  go_wp2_with fail
  refine HB.mono ?_
  rintro e w1 ⟨rfl, rfl⟩
  go_wp2_with fail
  (with_reducible refine HF.mono ?_)
  rintro e w1 ⟨rfl, hb⟩
  clear HB HF
  go_wp2_with fail
  (with_reducible refine (HR _).mono ?_)
  rintro e w2 ⟨rfl, hb2⟩
  clear HR
  go_wp2
  go_ret
  exact ⟨by rw [← HA.out]; rfl, hb.trans (hb2.mono hb.size)⟩
end Go.Proofs.YtfiakhhippfkaaaGreatDoor
