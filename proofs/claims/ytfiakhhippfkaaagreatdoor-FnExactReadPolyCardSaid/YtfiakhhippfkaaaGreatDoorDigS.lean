/-
  Contracts: the bits of a number and the number of some bits, on both sides; spec.l01Digits: the number of eight hexadecimal digits.
-/
import Derived.Test.YtfiakhhippfkaaaGreatDoorPu
import Derived.Test.YtfiakhhippfkaaaGreatDoorCplx
import Derived.Laws.Externs
namespace Go.Proofs.YtfiakhhippfkaaaGreatDoor
open Go.RowKit

theorem run_frombits (n : Nat) (w : World) : (callFunc 26 #[.int .u32 (n : Int)]).run Tryz.prog w = .ok (.value (.float .f32 n)) w := by
  rw [run_callFunc_extern (P := Tryz.prog) (f := 26) (e := Extern.MathFloatBits.float32frombits) Tryz.func26 (by kernel_rfl) (by kernel_rfl) (by kernel_rfl) (by kernel_rfl)]
  rfl
theorem run_bits (n : Nat) (w : World) : (callFunc 43 #[.float .f32 n]).run Tryz.prog w = .ok (.value (.int .u32 (n : Int))) w := by
  rw [run_callFunc_extern (P := Tryz.prog) (f := 43) (e := Extern.MathFloatBits.float32bits) Tryz.func43 (by kernel_rfl) (by kernel_rfl) (by kernel_rfl) (by kernel_rfl)]
  rfl

set_option maxRecDepth 100000 in
theorem l01From_any (n : Nat) (h : n < 4294967296) (w : World) :
    Calls Tryz.prog 32 #[.int .i64 (n : Int)] w fun e w' => e = .returned (.float .f32 n) ∧ w = w' := by
  have h1 : IntKind.u32.wrap (n : Int) = (n : Int) := by rw [IntKind.wrap_u32]; omega
  have h2 := run_frombits n
  go_enter Tryz.func32, Tryz.ntmps32
  go_wp2
  go_ret
  exact ⟨rfl, rfl⟩

/-- The bits of a number; of what is no number always the same. -/
def bitsN (n : Nat) : Nat := if FloatKind.f32.format.order n n == some .eq then n else 2143289344
theorem bitsN_lt {n : Nat} (h : n < 4294967296) : bitsN n < 4294967296 := by unfold bitsN; split <;> omega
set_option maxRecDepth 100000 in
theorem l01Bits_any (n : Nat) (hn : n < 4294967296) (w : World) :
    Calls Tryz.prog 33 #[.float .f32 n] w fun e w' => e = .returned (.int .i64 (bitsN n : Int)) ∧ w = w' := by
  have hx := run_bits n
  have hw : IntKind.i64.wrap (n : Int) = (n : Int) := IntWalk.i64_in _ (by omega)
  have hn' : (n : Int) < 4294967296 := by omega
  cases h : FloatKind.f32.format.order n n == some .eq with
  | true =>
    have hb : Hid (bitsN n = n) := by show _ = _; rw [bitsN, h]; rfl
    have h2 : (FloatKind.f32.format.order n n != some .eq) = false := by rw [bne, h]; rfl
    go_enter Tryz.func33, Tryz.ntmps33
    go_wp2
    go_ret
    exact ⟨by rw [hb.out]; rfl, rfl⟩
  | false =>
    have hb : Hid (bitsN n = 2143289344) := by show _ = _; rw [bitsN, h]; rfl
    have h2 : (FloatKind.f32.format.order n n != some .eq) = true := by rw [bne, h]; rfl
    go_enter Tryz.func33, Tryz.ntmps33
    go_wp2
    go_ret
    exact ⟨by rw [hb.out]; rfl, rfl⟩
set_option maxRecDepth 100000 in
theorem bitsOf_any (n : Nat) (hn : n < 4294967296) (w : World) :
    Calls Tryz.prog 39 #[.float .f32 n] w fun e w' => e = .returned (.int .i64 (bitsN n : Int)) ∧ w = w' := by
  have hx := run_bits n
  have hw : IntKind.i64.wrap (n : Int) = (n : Int) := IntWalk.i64_in _ (by omega)
  have hn' : (n : Int) < 4294967296 := by omega
  cases h : FloatKind.f32.format.order n n == some .eq with
  | true =>
    have hb : Hid (bitsN n = n) := by show _ = _; rw [bitsN, h]; rfl
    have h2 : (FloatKind.f32.format.order n n != some .eq) = false := by rw [bne, h]; rfl
    go_enter Tryz.func39, Tryz.ntmps39
    go_wp2
    go_ret
    exact ⟨by rw [hb.out]; rfl, rfl⟩
  | false =>
    have hb : Hid (bitsN n = 2143289344) := by show _ = _; rw [bitsN, h]; rfl
    have h2 : (FloatKind.f32.format.order n n != some .eq) = true := by rw [bne, h]; rfl
    go_enter Tryz.func39, Tryz.ntmps39
    go_wp2
    go_ret
    exact ⟨by rw [hb.out]; rfl, rfl⟩

/-- Eight digits are the bits of a number, just as they are written. -/
def hxB (l : List UInt8) : Bool := match run lowV 0 l with
  | some n => decide (bitsN n = n)
  | none => false
def hxV (l : List UInt8) : Nat := if hxB l then (run lowV 0 l).getD 0 else 0
theorem run_at (s : ByteArray) {k m : Nat} (h : k < s.size) : run lowV m (s.data.toList.drop k) = match lowV s[k] with
    | some d => run lowV (16 * m + d) (s.data.toList.drop (k + 1))
    | none => none := by
  have h1 : k < s.data.toList.length := by rw [← Lib.size_eq]; exact h
  have h2 : s.data.toList[k]'h1 = s[k] := rfl
  rw [List.drop_eq_getElem_cons h1, run, h2]
  cases lowV s[k] <;> rfl

set_option maxRecDepth 100000 in
set_option maxHeartbeats 1600000 in
theorem l01Digits_any (s : ByteArray) (hs : s.size = 8) (w : World) :
    Calls Tryz.prog 22 #[.string s] w fun e w' => e = .returned (.tuple #[.float .f32 (hxV s.data.toList), .bool (hxB s.data.toList)]) ∧ w = w' := by
  obtain ⟨V, hV⟩ : ∃ V, V = hxV s.data.toList := ⟨_, rfl⟩
  obtain ⟨b, hb⟩ : ∃ b, b = hxB s.data.toList := ⟨_, rfl⟩
  rw [← hV, ← hb]
  have HV := Lib.hid hV
  have HB := Lib.hid hb
  clear hV hb
  go_enter Tryz.func22, Tryz.ntmps22
  go_wp2
  go_loop [4, 5] (fun n i => ∃ k m : Nat, k ≤ s.size ∧ i = .int .i64 k ∧ n = .int .i64 (m : Int) ∧ Hid (m < 16 ^ k ∧ run lowV 0 s.data.toList = run lowV m (s.data.toList.drop k))) (fun _ i => s.size - (intOf i).toNat)
  case atStart => exact ⟨0, 0, Nat.zero_le _, rfl, rfl, by simp, rfl⟩
  case round =>
    obtain ⟨k, m, hk, rfl, rfl, hm⟩ := hrel
    obtain ⟨hm1, hm2⟩ := hm.out
    clear hm
    by_cases hlt : k < s.size
    · have hms : m < 268435456 := Nat.lt_of_lt_of_le hm1 (Nat.pow_le_pow_right (n := 16) (by omega) (show k ≤ 7 by omega))
      rw [run_at s hlt] at hm2
      have hb : s[k].toNat < 256 := s[k].toNat_lt
      by_cases h1 : 48 ≤ s[k].toNat ∧ s[k].toNat ≤ 57
      · have hL : lowV s[k] = some (s[k].toNat - 48) := by rw [lowV, if_pos h1]
        rw [hL] at hm2
        have HN : Hid (16 * m + (s[k].toNat - 48) < 16 ^ (k + 1) ∧ run lowV 0 s.data.toList = run lowV (16 * m + (s[k].toNat - 48)) (s.data.toList.drop (k + 1))) := Lib.hid ⟨by rw [Nat.pow_succ]; omega, hm2⟩
        obtain ⟨h1a, h1b⟩ := h1
        have d1 : decide ((48 : Int) ≤ (s[k].toNat : Int)) = true := by simp; omega
        have d2 : decide ((s[k].toNat : Int) ≤ 57) = true := by simp; omega
        have d3 : decide ((97 : Int) ≤ (s[k].toNat : Int)) = false := by simp; omega
        have s1 : (0 : Int) ≤ (s[k].toNat : Int) - 48 := by omega
        have s2 : (s[k].toNat : Int) - 48 ≤ 9 := by omega
        clear hL hm1 hm2
        go_wp2
        go_round
        case rel => exact ⟨k + 1, _, by omega, by go_num, congrArg (Value.int .i64) (by omega), HN⟩
        case measure => simp [intOf]; omega
      · by_cases h2 : 97 ≤ s[k].toNat ∧ s[k].toNat ≤ 102
        · have hL : lowV s[k] = some (s[k].toNat - 87) := by rw [lowV, if_neg h1, if_pos h2]
          rw [hL] at hm2
          have HN : Hid (16 * m + (s[k].toNat - 87) < 16 ^ (k + 1) ∧ run lowV 0 s.data.toList = run lowV (16 * m + (s[k].toNat - 87)) (s.data.toList.drop (k + 1))) := Lib.hid ⟨by rw [Nat.pow_succ]; omega, hm2⟩
          obtain ⟨h2a, h2b⟩ := h2
          have d1 : decide ((48 : Int) ≤ (s[k].toNat : Int)) = true := by simp; omega
          have d2 : decide ((s[k].toNat : Int) ≤ 57) = false := by simp; omega
          have d3 : decide ((97 : Int) ≤ (s[k].toNat : Int)) = true := by simp; omega
          have d4 : decide ((s[k].toNat : Int) ≤ 102) = true := by simp; omega
          have s1 : (0 : Int) ≤ (s[k].toNat : Int) - 97 := by omega
          have s2 : (s[k].toNat : Int) - 97 ≤ 5 := by omega
          clear hL hm1 hm2 h1
          go_wp2
          go_round
          case rel => exact ⟨k + 1, _, by omega, by go_num, congrArg (Value.int .i64) (by omega), HN⟩
          case measure => simp [intOf]; omega
        · have hL : lowV s[k] = none := by rw [lowV, if_neg h1, if_neg h2]
          rw [hL] at hm2
          have hB : Hid (b = false) := by show _ = _; rw [HB.out, hxB, hm2]
          have hV : Hid (V = 0) := by show _ = _; rw [HV.out, hxV, ← HB.out, hB.out]; rfl
          clear hL hm1 hm2
          by_cases h3 : s[k].toNat < 48
          · have d1 : decide ((48 : Int) ≤ (s[k].toNat : Int)) = false := by simp; omega
            have d3 : decide ((97 : Int) ≤ (s[k].toNat : Int)) = false := by simp; omega
            clear h1 h2 h3
            go_wp2
            go_ret2
            exact ⟨by rw [hB.out, hV.out]; rfl, rfl⟩
          · by_cases h4 : s[k].toNat < 97
            · have d1 : decide ((48 : Int) ≤ (s[k].toNat : Int)) = true := by simp; omega
              have d2 : decide ((s[k].toNat : Int) ≤ 57) = false := by simp; omega
              have d3 : decide ((97 : Int) ≤ (s[k].toNat : Int)) = false := by simp; omega
              clear h1 h2 h3 h4
              go_wp2
              go_ret2
              exact ⟨by rw [hB.out, hV.out]; rfl, rfl⟩
            · have d1 : decide ((48 : Int) ≤ (s[k].toNat : Int)) = true := by simp; omega
              have d2 : decide ((s[k].toNat : Int) ≤ 57) = false := by simp; omega
              have d3 : decide ((97 : Int) ≤ (s[k].toNat : Int)) = true := by simp; omega
              have d4 : decide ((s[k].toNat : Int) ≤ 102) = false := by simp; omega
              clear h1 h2 h3 h4
              go_wp2
              go_ret2
              exact ⟨by rw [hB.out, hV.out]; rfl, rfl⟩
    · have hkn : k = s.size := by omega
      subst hkn
      have hm3 : m < 4294967296 := Nat.lt_of_lt_of_le hm1 (Nat.pow_le_pow_right (n := 16) (by omega) (show s.size ≤ 8 by omega))
      rw [List.drop_eq_nil_of_le (by rw [← Lib.size_eq]; omega), run] at hm2
      have HF := l01From_any m hm3
      have HT := l01Bits_any m hm3
      clear hm1
      by_cases he : bitsN m = m
      · have hB : Hid (b = true) := by show _ = _; rw [HB.out, hxB, hm2]; exact decide_eq_true he
        have hV : Hid (V = m) := by show _ = _; rw [HV.out, hxV, ← HB.out, hB.out, if_pos rfl, hm2]; rfl
        rw [he] at HT
        clear he hm2
        go_wp2_with fail
        refine (HF _).mono ?_
        rintro e w' ⟨rfl, rfl⟩
        go_wp2_with fail
        refine (HT _).mono ?_
        rintro e w' ⟨rfl, rfl⟩
        go_wp2
        go_ret2
        exact ⟨by rw [hB.out, hV.out]; rfl, rfl⟩
      · have hB : Hid (b = false) := by show _ = _; rw [HB.out, hxB, hm2]; exact decide_eq_false he
        have hV : Hid (V = 0) := by show _ = _; rw [HV.out, hxV, ← HB.out, hB.out]; rfl
        have he' : ((bitsN m : Int) != (m : Int)) = true := by simp; omega
        clear he hm2
        generalize bitsN m = bm at *
        go_wp2_with fail
        refine (HF _).mono ?_
        rintro e w' ⟨rfl, rfl⟩
        go_wp2_with fail
        refine (HT _).mono ?_
        rintro e w' ⟨rfl, rfl⟩
        go_wp2
        go_ret2
        exact ⟨by rw [hB.out, hV.out]; rfl, rfl⟩
end Go.Proofs.YtfiakhhippfkaaaGreatDoor
