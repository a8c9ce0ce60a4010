/-
  Contract: internal/strconv.ParseUint(s, 16, 32) of eight bytes: the number of hexadecimal digits, small or great; a syntax error of any other byte.
-/
import Derived.Test.YtfiakhhippfkaaaGreatDoorHexP
import Derived.Test.YtfiakhhippfkaaaGreatDoorWords
import Derived.Test.YtfiakhhippfkaaaGreatDoorProg
import Derived.Deep.QuietTactic
import Derived.BigQuiet
import Derived.KernelRfl
import Derived.Lib.Strings
import Derived.Lib.Walk
import Derived.Lib.ConvBytes
import Derived.Lib.ParseIntBMem
import Derived.Lib.Hide
import Derived.Laws.Strings3
import Derived.Laws.Closers25
import Derived.Laws.Closers25b
namespace Go.Proofs.YtfiakhhippfkaaaGreatDoor
open Go.RowKit

theorem or_low (c : UInt8) : bits .or .u8 (c.toNat : Int) 32 = (lowB c : Int) := by
  have h : ∀ c : Fin 256, bits .or .u8 (c.val : Int) 32 = ((c.val ||| 32 : Nat) : Int) := by decide +kernel
  exact h ⟨c.toNat, c.toNat_lt⟩
theorem lowB_lt (c : UInt8) : lowB c < 256 := by
  have h : ∀ c : Fin 256, (c.val ||| 32 : Nat) < 256 := by decide +kernel
  exact h ⟨c.toNat, c.toNat_lt⟩
theorem low_let (c : UInt8) (h : 97 ≤ lowB c ∧ lowB c ≤ 122) : 57 < c.toNat ∧ c.toNat ≠ 95 := by
  have h1 : ∀ c : Fin 256, 97 ≤ (c.val ||| 32 : Nat) ∧ (c.val ||| 32 : Nat) ≤ 122 → 57 < c.val ∧ c.val ≠ 95 := by decide +kernel
  exact h1 ⟨c.toNat, c.toNat_lt⟩ h
theorem low_lo (c : UInt8) (h : lowB c < 97) : c.toNat ≠ 95 := by
  have h1 : ∀ c : Fin 256, (c.val ||| 32 : Nat) < 97 → c.val ≠ 95 := by decide +kernel
  exact h1 ⟨c.toNat, c.toNat_lt⟩ h
theorem low_hi (c : UInt8) (h : 122 < lowB c) : 57 < c.toNat := by
  have h1 : ∀ c : Fin 256, 122 < (c.val ||| 32 : Nat) → 57 < c.val := by decide +kernel
  exact h1 ⟨c.toNat, c.toNat_lt⟩ h
theorem lower_any (c : UInt8) (w : World) :
    Calls Tryz.prog 48 #[.int .u8 (c.toNat : Int)] w fun e w' => e = .returned (.int .u8 (lowB c : Int)) ∧ w' = w := by
  have h := or_low c
  go_enter Tryz.func48, Tryz.ntmps48
  go_wp2
  go_ret
  exact ⟨rfl, rfl⟩

/-- What ParseUint hands back of a number, or of none. -/
def puT : Option Nat → Value
  | some n => .tuple #[.int .u64 (n : Int), .nilIface]
  | none => .tuple #[.int .u64 0, .iface 73 (.int .i64 2)]

set_option maxHeartbeats 4000000 in
set_option maxRecDepth 100000 in
theorem pu16 (t : ByteArray) (hn : t.size = 8) (w : World) :
    Calls Tryz.prog 36 #[.string t, .int .i64 16, .int .i64 32] w fun e w' => e = .returned (puT (run anyV 0 t.data.toList)) ∧ w' = Lib.bytesWorld w 5 t := by
  have hne : t.size ≠ 0 := by omega
  have hemp : t.toList.isEmpty = false := by
    rw [← decide_eq_emptyBytes]
    exact decide_eq_false (fun h => hne (by rw [h]; rfl))
  have hcv := Lib.run_convert_string_bytes (P := Tryz.prog) w 9 76 5 t (u := .string) Tryz.underlying9 Tryz.underlying76 Tryz.underlying5
  have hB : ∀ j, j < t.size → (Lib.bytesWorld w 5 t).cell? ⟨w.heap.size, j, none⟩ = some (.int .u8 (t.data.toList.getD j 0).toNat) := fun j hj => Lib.bytesWorld_cell w 5 t j hj
  obtain ⟨W1, hW1⟩ : ∃ W1, W1 = Lib.bytesWorld w 5 t := ⟨_, rfl⟩
  rw [← hW1] at hcv hB ⊢
  clear hW1
  obtain ⟨bs, hL⟩ : ∃ bs, bs = t.data.toList := ⟨_, rfl⟩
  have hLn : bs.length = t.size := by rw [hL, Lib.size_eq]
  rw [← hL] at hB ⊢
  clear hL
  have hmv : IntKind.u64.wrap (IntKind.u64.wrap 4294967296 - 1) = 4294967295 := by
    rw [IntKind.wrap_u64, IntKind.wrap_u64]
    decide
  go_enter Tryz.func36, Tryz.ntmps36
  go_wp2
  go_loop [12, 13, 101] (fun vu vn vi => ∃ (k acc : Nat) (a : Int), vu = .bool false ∧ vn = .int .u64 a ∧ vi = .int .i64 k ∧ k ≤ t.size ∧ Hid (a = (acc : Int) ∧ acc < 16 ^ k ∧ run anyV 0 bs = run anyV acc (bs.drop k)))
    (fun _ _ vi => t.size - (intOf vi).toNat)
  case atStart => exact ⟨0, 0, 0, rfl, rfl, rfl, by omega, rfl, by simp, rfl⟩
  case round =>
    obtain ⟨k, acc, a, rfl, rfl, rfl, hk, hh⟩ := hrel
    obtain ⟨ha, hacc, hdec⟩ := hh.out
    clear hh
    by_cases hkn : k < t.size
    · have hp : acc < 268435456 := Nat.lt_of_lt_of_le hacc (Nat.pow_le_pow_right (n := 16) (by omega) (show k ≤ 7 by omega))
      have a0 : 0 ≤ a := by omega
      have a1 : a < 268435456 := by omega
      have hc := hB k hkn
      have hdrop : bs.drop k = bs[k]'(by omega) :: bs.drop (k + 1) := List.drop_eq_getElem_cons (by omega)
      have hget : bs.getD k 0 = bs[k]'(by omega) := by simp [List.getD, List.getElem?_eq_getElem (show k < bs.length by omega)]
      rw [hdrop] at hdec
      rw [hget] at hc
      generalize bs[k]'(by omega) = c at hc hdec
      have hc256 : c.toNat < 256 := c.toNat_lt
      have hl256 := lowB_lt c
      have hlow := fun w => lower_any c w
      clear hB hdrop hget
      by_cases hdig : 48 ≤ c.toNat ∧ c.toNat ≤ 57
      · obtain ⟨hd0, hd1⟩ := hdig
        have hF : run anyV acc (c :: bs.drop (k + 1)) = run anyV (16 * acc + (c.toNat - 48)) (bs.drop (k + 1)) := by simp only [run, anyV, if_pos (And.intro hd0 hd1)]
        have HN : Hid (a * 16 + ((c.toNat : Int) - 48) = ((16 * acc + (c.toNat - 48) : Nat) : Int) ∧ 16 * acc + (c.toNat - 48) < 16 ^ (k + 1) ∧ run anyV 0 bs = run anyV (16 * acc + (c.toNat - 48)) (bs.drop (k + 1))) := Lib.hid ⟨by omega, by rw [Nat.pow_succ]; omega, hdec.trans hF⟩
        clear hacc hF hdec ha hp hl256 hlow
        go_wp2
        refine ⟨⟨k + 1, 16 * acc + (c.toNat - 48), a * 16 + ((c.toNat : Int) - 48), rfl, (by first | rfl | (congr 1; omega)), (by first | rfl | (congr 1; omega)), by omega, HN⟩, by simp [intOf]; omega⟩
      · by_cases hlet : 97 ≤ lowB c ∧ lowB c ≤ 102
        · obtain ⟨hd0, hd1⟩ := hlet
          have hF : run anyV acc (c :: bs.drop (k + 1)) = run anyV (16 * acc + (lowB c - 87)) (bs.drop (k + 1)) := by simp only [run, anyV, if_neg hdig, if_pos (And.intro hd0 hd1)]
          have HN : Hid (a * 16 + ((lowB c : Int) - 97 + 10) = ((16 * acc + (lowB c - 87) : Nat) : Int) ∧ 16 * acc + (lowB c - 87) < 16 ^ (k + 1) ∧ run anyV 0 bs = run anyV (16 * acc + (lowB c - 87)) (bs.drop (k + 1))) := Lib.hid ⟨by omega, by rw [Nat.pow_succ]; omega, hdec.trans hF⟩
          obtain ⟨hz1, hz2⟩ := low_let c ⟨hd0, by omega⟩
          have z1 : (57 : Int) < (c.toNat : Int) := by omega
          have z2 : ¬ (c.toNat : Int) = 95 := by omega
          have z3 : (c.toNat : Int) < 256 := by omega
          have l1 : (97 : Int) ≤ (lowB c : Int) := by omega
          have l2 : (lowB c : Int) ≤ 102 := by omega
          clear hacc hF hdec ha hp hdig hd0 hd1 hz1 hz2 hl256 hc256
          generalize 16 * acc + (lowB c - 87) = acc' at *
          generalize (c.toNat : Int) = z at *
          generalize (lowB c : Int) = l at *
          go_wp2_with (go_at_call 48; refine (hlow _).mono ?_; rintro e w' ⟨rfl, rfl⟩)
          refine ⟨⟨k + 1, acc', a * 16 + (l - 97 + 10), rfl, (by first | rfl | (congr 1; omega)), (by first | rfl | (congr 1; omega)), by omega, HN⟩, by simp [intOf]; omega⟩
        · have hF : run anyV acc (c :: bs.drop (k + 1)) = none := by simp only [run, anyV, if_neg hdig, if_neg hlet]
          rw [hF] at hdec
          replace hdec := Lib.hid hdec
          clear hF ha hp hacc
          have z3 : (c.toNat : Int) < 256 := by omega
          have l3 : (lowB c : Int) < 256 := by omega
          rcases Nat.lt_or_ge (lowB c) 97 with hlo | hlo
          · have hz2 := low_lo c hlo
            have z2 : ¬ (c.toNat : Int) = 95 := by omega
            have l1 : (lowB c : Int) < 97 := by omega
            rcases Nat.lt_or_ge c.toNat 48 with hz | hz
            · have z1 : (c.toNat : Int) < 48 := by omega
              clear hdig hlet hz hlo hz2 hl256 hc256
              generalize (c.toNat : Int) = z at *
              generalize (lowB c : Int) = l at *
              go_wp2_with (go_at_call 48; refine (hlow _).mono ?_; rintro e w' ⟨rfl, rfl⟩)
              go_ret2
              exact ⟨by rw [hdec.out]; rfl, rfl⟩
            · have z1 : (57 : Int) < (c.toNat : Int) := by omega
              clear hdig hlet hz hlo hz2 hl256 hc256
              generalize (c.toNat : Int) = z at *
              generalize (lowB c : Int) = l at *
              go_wp2_with (go_at_call 48; refine (hlow _).mono ?_; rintro e w' ⟨rfl, rfl⟩)
              go_ret2
              exact ⟨by rw [hdec.out]; rfl, rfl⟩
          · rcases Nat.lt_or_ge 122 (lowB c) with hhi | hhi
            · have hz := low_hi c hhi
              have z1 : (57 : Int) < (c.toNat : Int) := by omega
              have l0 : (97 : Int) ≤ (lowB c : Int) := by omega
              have l1 : (122 : Int) < (lowB c : Int) := by omega
              clear hdig hlet hz hlo hhi hl256 hc256
              generalize (c.toNat : Int) = z at *
              generalize (lowB c : Int) = l at *
              by_cases z2 : z = 95
              · subst z2
                go_wp2_with (go_at_call 48; refine (hlow _).mono ?_; rintro e w' ⟨rfl, rfl⟩)
                go_ret2
                exact ⟨by rw [hdec.out]; rfl, rfl⟩
              · go_wp2_with (go_at_call 48; refine (hlow _).mono ?_; rintro e w' ⟨rfl, rfl⟩)
                go_ret2
                exact ⟨by rw [hdec.out]; rfl, rfl⟩
            · obtain ⟨hz1, hz2⟩ := low_let c ⟨hlo, hhi⟩
              have z1 : (57 : Int) < (c.toNat : Int) := by omega
              have z2 : ¬ (c.toNat : Int) = 95 := by omega
              have l0 : (103 : Int) ≤ (lowB c : Int) := by omega
              have l1 : (lowB c : Int) ≤ 122 := by omega
              clear hdig hlet hz1 hz2 hlo hhi hl256 hc256
              generalize (c.toNat : Int) = z at *
              generalize (lowB c : Int) = l at *
              go_wp2_with (go_at_call 48; refine (hlow _).mono ?_; rintro e w' ⟨rfl, rfl⟩)
              go_ret2
              exact ⟨by rw [hdec.out]; rfl, rfl⟩
    · have hkk : k = t.size := by omega
      subst hkk
      have hF : run anyV acc (bs.drop t.size) = some acc := by rw [List.drop_eq_nil_of_le (by omega)]; rfl
      rw [hF] at hdec
      replace hdec := Lib.hid hdec
      subst ha
      clear hacc hF
      go_wp2
      go_ret2
      exact ⟨by rw [hdec.out]; rfl, rfl⟩
end Go.Proofs.YtfiakhhippfkaaaGreatDoor
