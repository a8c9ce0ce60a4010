/-
  Contract: spec.l01Value: the number with a text.
-/
import Derived.Test.YtlcckgpidjneeaaDoorValP
namespace Go.Proofs.YtlcckgpidjneeaaDoor
open Go.RowKit

def rdV (l : List UInt8) : Int := if rdB l then sv l else 0
theorem pow_small {k : Nat} (h : k ≤ 16) : 10 ^ k ≤ 10000000000000000 := Nat.pow_le_pow_right (n := 10) (by omega) h
theorem dval_at (s : ByteArray) {k : Nat} (h : k < s.size) : dval 0 (s.data.toList.take (k + 1)) = if 48 ≤ (s[k]).toNat ∧ (s[k]).toNat ≤ 57 then 10 * dval 0 (s.data.toList.take k) + ((s[k]).toNat - 48) else dval 0 (s.data.toList.take k) := by
  rw [List.take_add_one, byte_at s k h]
  exact dval_snoc 0 _ _
theorem dval_all (s : ByteArray) : dval 0 (s.data.toList.take s.size) = dval 0 s.data.toList := by
  rw [List.take_of_length_le (by rw [← Lib.size_eq]; omega)]
theorem head_at (s : ByteArray) (h : 0 < s.size) : s.data.toList.head? = some s[0] := by
  rw [List.head?_eq_getElem?, byte_at s 0 h]

set_option maxRecDepth 100000 in
set_option maxHeartbeats 1600000 in
theorem l01Value_any (s : ByteArray) (w : World) (hs : s.size ≤ 1048576) :
    Calls Tryd.prog 75 #[.string s] w fun e w' => e = .returned (.tuple #[.int .i64 (rdV s.data.toList), .bool (rdB s.data.toList)]) ∧ Below w.heap.size w w' := by
  by_cases hlen : 1 ≤ s.size ∧ s.size ≤ 17
  · obtain ⟨hl1, hl2⟩ := hlen
    have hl1' : ¬ ((s.size : Int) < 1) := by omega
    have hl2' : ¬ ((17 : Int) < (s.size : Int)) := by omega
    have hl2d : decide ((17 : Int) < (s.size : Int)) = false := by simp; omega
    go_enter Tryd.func75, Tryd.ntmps75
    go_wp2
    go_loop [4, 5] (fun n i => ∃ k m : Nat, k ≤ s.size ∧ i = .int .i64 k ∧ n = .int .i64 (m : Int) ∧ Hid (m = dval 0 (s.data.toList.take k))) (fun _ i => s.size - (intOf i).toNat)
    case atStart => exact ⟨0, 0, Nat.zero_le _, rfl, rfl, rfl⟩
    case round =>
      obtain ⟨k, m, hk, rfl, rfl, hm⟩ := hrel
      by_cases hlt : k < s.size
      · have hpow := dval_lt s.data.toList k (by rw [← Lib.size_eq]; omega)
        rw [← hm.out] at hpow
        have hms : m < 10000000000000000 := Nat.lt_of_lt_of_le hpow (pow_small (by omega))
        have hN := dval_at s hlt
        rw [← hm.out] at hN
        have hb : s[k].toNat < 256 := s[k].toNat_lt
        by_cases h1 : 48 ≤ s[k].toNat
        · by_cases h2 : s[k].toNat ≤ 57
          · rw [if_pos ⟨h1, h2⟩] at hN
            have HN := Lib.hid hN.symm
            have d1 : decide ((48 : Int) ≤ (s[k].toNat : Int)) = true := by simp; omega
            have d2 : decide ((s[k].toNat : Int) ≤ 57) = true := by simp; omega
            have s1 : (0 : Int) ≤ (s[k].toNat : Int) - 48 := by omega
            have s2 : (s[k].toNat : Int) - 48 ≤ 9 := by omega
            clear hN hpow h1 h2
            go_wp2
            go_round
            case rel => exact ⟨k + 1, _, by omega, by go_num, congrArg (Value.int .i64) (by omega), HN⟩
            case measure => simp [intOf]; omega
          · rw [if_neg (fun h => h2 h.2)] at hN
            have HN := Lib.hid hN.symm
            have d1 : decide ((48 : Int) ≤ (s[k].toNat : Int)) = true := by simp; omega
            have d2 : decide ((s[k].toNat : Int) ≤ 57) = false := by simp; omega
            clear hN hpow h1 h2
            go_wp2
            go_round
            case rel => exact ⟨k + 1, m, by omega, by go_num, rfl, HN⟩
            case measure => simp [intOf]; omega
        · rw [if_neg (fun h => h1 h.1)] at hN
          have HN := Lib.hid hN.symm
          have d1 : decide ((48 : Int) ≤ (s[k].toNat : Int)) = false := by simp; omega
          clear hN hpow h1
          go_wp2
          go_round
          case rel => exact ⟨k + 1, m, by omega, by go_num, rfl, HN⟩
          case measure => simp [intOf]; omega
      · have hkn : k = s.size := by omega
        have hm2 : dval 0 s.data.toList = m := by rw [hm.out, hkn, dval_all]
        have hpow := dval_lt s.data.toList s.size (by rw [← Lib.size_eq]; omega)
        rw [dval_all, hm2] at hpow
        have hms : m < 100000000000000000 := Nat.lt_of_lt_of_le hpow (Nat.pow_le_pow_right (n := 10) (by omega) hl2)
        clear hpow hkn
        by_cases h45 : s[0] = 45
        · have hb1 : ((s[0].toNat : Int) == 45) = true := by rw [h45]; rfl
          have hsv : sv s.data.toList = (-(m : Int)) := by
            unfold sv
            rw [head_at s (by omega), hm2, h45, if_pos rfl]
          have hN1 : -100000000000000000 ≤ (-(m : Int)) ∧ (-(m : Int)) ≤ 100000000000000000 := by omega
          by_cases hin : -1000000000000000 ≤ (-(m : Int)) ∧ (-(m : Int)) ≤ 1000000000000000
          · have HI := fun W => l00In_any (-(m : Int)) (-1000000000000000) 1000000000000000 true (by simp [inB, hin.1, hin.2]) W
            have HD := fun W => l01Dec_any (-(m : Int)) W hin.1 hin.2
            by_cases heq : Lib.itoa (-(m : Int)) = s.data.toList
            · have hv : rdB s.data.toList = true := by simp only [rdB, hsv, Bool.and_eq_true, decide_eq_true_eq]; exact ⟨⟨by rw [← Lib.size_eq]; omega, by rw [← Lib.size_eq]; omega⟩, hin, heq⟩
              have hV : Hid (rdV s.data.toList = (-(m : Int))) := by show _ = _; rw [rdV, hv, if_pos rfl, hsv]
              have HB := Lib.hid hv
              have ht := teq (a := txt (Lib.itoa (-(m : Int)))) (b := s) rfl (txt_of s).symm heq
              clear heq hv hsv hm hm2 hin hN1
              generalize Lib.itoa (-(m : Int)) = d at *
              go_wp2_with fail
              (with_reducible refine (HI _).mono ?_)
              rintro e w' ⟨rfl, rfl⟩
              clear HI
              go_wp2_with fail
              (with_reducible refine (HD _).mono ?_)
              rintro e w2 ⟨rfl, hb2⟩
              clear HD
              go_wp2
              go_ret2
              exact ⟨by rw [hV.out, HB.out]; rfl, hb2⟩
            · have hv : rdB s.data.toList = false := by
                cases hb : rdB s.data.toList with
                | false => rfl
                | true => exact absurd (hsv ▸ (rdB_parts hb).2.2) heq
              have hV : Hid (rdV s.data.toList = 0) := by show _ = _; rw [rdV, hv]; rfl
              have HB := Lib.hid hv
              have ht := tne (a := txt (Lib.itoa (-(m : Int)))) (b := s) rfl (txt_of s).symm heq
              clear heq hv hsv hm hm2 hin hN1
              generalize Lib.itoa (-(m : Int)) = d at *
              go_wp2_with fail
              (with_reducible refine (HI _).mono ?_)
              rintro e w' ⟨rfl, rfl⟩
              clear HI
              go_wp2_with fail
              (with_reducible refine (HD _).mono ?_)
              rintro e w2 ⟨rfl, hb2⟩
              clear HD
              go_wp2
              go_ret2
              exact ⟨by rw [hV.out, HB.out]; rfl, hb2⟩
          · have HI := fun W => l00In_any (-(m : Int)) (-1000000000000000) 1000000000000000 false (by
              simp only [inB, Bool.and_eq_false_iff, decide_eq_false_iff_not]; omega) W
            have hv : rdB s.data.toList = false := by
              cases hb : rdB s.data.toList with
              | false => rfl
              | true => exact absurd (hsv ▸ (rdB_parts hb).2.1) hin
            have hV : Hid (rdV s.data.toList = 0) := by show _ = _; rw [rdV, hv]; rfl
            have HB := Lib.hid hv
            clear hv hsv hm hm2 hin hN1
            go_wp2_with fail
            (with_reducible refine (HI _).mono ?_)
            rintro e w' ⟨rfl, rfl⟩
            clear HI
            go_wp2
            go_ret2
            exact ⟨by rw [hV.out, HB.out]; rfl, Below.refl _ _⟩
        · have hb1 : ((s[0].toNat : Int) == 45) = false := by
            simp
            intro e
            exact h45 (UInt8.toNat_inj.1 (by show s[0].toNat = 45; omega))
          have hsv : sv s.data.toList = (m : Int) := by
            unfold sv
            rw [head_at s (by omega), hm2, if_neg (by simpa using h45)]
          have hN1 : -100000000000000000 ≤ (m : Int) ∧ (m : Int) ≤ 100000000000000000 := by omega
          by_cases hin : -1000000000000000 ≤ (m : Int) ∧ (m : Int) ≤ 1000000000000000
          · have HI := fun W => l00In_any (m : Int) (-1000000000000000) 1000000000000000 true (by simp [inB, hin.1, hin.2]) W
            have HD := fun W => l01Dec_any (m : Int) W hin.1 hin.2
            by_cases heq : Lib.itoa (m : Int) = s.data.toList
            · have hv : rdB s.data.toList = true := by simp only [rdB, hsv, Bool.and_eq_true, decide_eq_true_eq]; exact ⟨⟨by rw [← Lib.size_eq]; omega, by rw [← Lib.size_eq]; omega⟩, hin, heq⟩
              have hV : Hid (rdV s.data.toList = (m : Int)) := by show _ = _; rw [rdV, hv, if_pos rfl, hsv]
              have HB := Lib.hid hv
              have ht := teq (a := txt (Lib.itoa (m : Int))) (b := s) rfl (txt_of s).symm heq
              clear heq hv hsv hm hm2 hin hN1
              generalize Lib.itoa (m : Int) = d at *
              go_wp2_with fail
              (with_reducible refine (HI _).mono ?_)
              rintro e w' ⟨rfl, rfl⟩
              clear HI
              go_wp2_with fail
              (with_reducible refine (HD _).mono ?_)
              rintro e w2 ⟨rfl, hb2⟩
              clear HD
              go_wp2
              go_ret2
              exact ⟨by rw [hV.out, HB.out]; rfl, hb2⟩
            · have hv : rdB s.data.toList = false := by
                cases hb : rdB s.data.toList with
                | false => rfl
                | true => exact absurd (hsv ▸ (rdB_parts hb).2.2) heq
              have hV : Hid (rdV s.data.toList = 0) := by show _ = _; rw [rdV, hv]; rfl
              have HB := Lib.hid hv
              have ht := tne (a := txt (Lib.itoa (m : Int))) (b := s) rfl (txt_of s).symm heq
              clear heq hv hsv hm hm2 hin hN1
              generalize Lib.itoa (m : Int) = d at *
              go_wp2_with fail
              (with_reducible refine (HI _).mono ?_)
              rintro e w' ⟨rfl, rfl⟩
              clear HI
              go_wp2_with fail
              (with_reducible refine (HD _).mono ?_)
              rintro e w2 ⟨rfl, hb2⟩
              clear HD
              go_wp2
              go_ret2
              exact ⟨by rw [hV.out, HB.out]; rfl, hb2⟩
          · have HI := fun W => l00In_any (m : Int) (-1000000000000000) 1000000000000000 false (by
              simp only [inB, Bool.and_eq_false_iff, decide_eq_false_iff_not]; omega) W
            have hv : rdB s.data.toList = false := by
              cases hb : rdB s.data.toList with
              | false => rfl
              | true => exact absurd (hsv ▸ (rdB_parts hb).2.1) hin
            have hV : Hid (rdV s.data.toList = 0) := by show _ = _; rw [rdV, hv]; rfl
            have HB := Lib.hid hv
            clear hv hsv hm hm2 hin hN1
            go_wp2_with fail
            (with_reducible refine (HI _).mono ?_)
            rintro e w' ⟨rfl, rfl⟩
            clear HI
            go_wp2
            go_ret2
            exact ⟨by rw [hV.out, HB.out]; rfl, Below.refl _ _⟩
  · have hv : rdB s.data.toList = false := by
      cases hb : rdB s.data.toList with
      | false => rfl
      | true => exact absurd (by have := (rdB_parts hb).1; rwa [← Lib.size_eq] at this) hlen
    have hV : Hid (rdV s.data.toList = 0) := by show _ = _; rw [rdV, hv]; rfl
    have HB := Lib.hid hv
    clear hv
    by_cases h1 : s.size < 1
    · have h1' : (s.size : Int) < 1 := by omega
      go_enter Tryd.func75, Tryd.ntmps75
      go_wp2
      go_ret2
      exact ⟨by rw [hV.out, HB.out]; rfl, Below.refl _ _⟩
    · have h1' : ¬ ((s.size : Int) < 1) := by omega
      have h2' : (17 : Int) < (s.size : Int) := by omega
      go_enter Tryd.func75, Tryd.ntmps75
      go_wp2
      go_ret2
      exact ⟨by rw [hV.out, HB.out]; rfl, Below.refl _ _⟩
end Go.Proofs.YtlcckgpidjneeaaDoor
