/-
  The contract of the program's FollowRule where it follows the rule: the list that it returns has room for as many numbers as it holds.
-/
import Derived.Test.YtciakaecdllfcaaFollowI
namespace Go.Proofs.Ytciakaecdllfcaa
open Go.RowKit

set_option maxHeartbeats 800000 in
theorem folC_any (A A' : Option Addr) (c c' B : Nat) (rule first : List Int) (p : Int) (n : Nat) (hn64 : n ≤ 64) (h1 : listB p 0 rule = true) (h2 : listB p 0 first = true) (h3 : rule.length = first.length) (w : World) (hr : Reads w B 1 A rule.length (ints rule)) (hr' : Reads w B 1 A' first.length (ints first)) (hB : B ≤ w.heap.size) :
    Calls Try.prog 9 #[.slice A rule.length c, .slice A' first.length c', .int .i64 p, .int .i64 n] w fun e w' => ∃ A2 c2, e = .returned (.tuple #[.slice A2 n c2, .bool true]) ∧ n ≤ c2 ∧ Own w' w.heap.size w'.heap.size 2 A2 (ints (ext p rule first n)) ∧ Below w.heap.size w w' := by
  obtain ⟨i0, hi, hz0, hz1, hz2⟩ := info_parts info2
  have hn : rule.length ≤ 1048576 := by have := (listB_parts h1).2.2.1; omega
  have hn' : first.length ≤ 1048576 := by omega
  have H := areRem_any A c B rule p 0 0 rfl true h1 w hr hB hn
  have H3 := within_any n 0 64 true (by simp [inB]; omega)
  have h3' : ((first.length : Int) != (rule.length : Int)) = false := by simp [h3]
  have hcn : 0 ≤ (n : Int) ∧ (n : Int) ≤ 64 := by omega
  have hp := isP_one (listB_parts h1).1
  have hro := (listB_parts h1).2.2.2
  have hfo := (listB_parts h2).2.2.2
  have hlr := (listB_parts h1).2.2.1
  have hlf : first.length ≤ rule.length := by omega
  have hlf2 : rule.length ≤ first.length := by omega
  have hRO := Lib.hid hro
  have hFO := Lib.hid hfo
  have hX0 : Hid (ext p rule first first.length = first) := by
    show _ = _
    rw [ext_first _ _ _ _ (Nat.le_refl _), List.take_length]
  clear h1 h3 hro hfo
  go_enter Try.func9, Try.ntmps9
  go_wp2_with fail
  refine H.mono ?_
  rintro e w1 ⟨rfl, hb1⟩
  go_wp2_with fail
  refine (areRem_any A' c' B first p 0 0 rfl true h2 w1 (hr'.below (hb1.mono hB)) (Nat.le_trans hB hb1.size) hn').mono ?_
  rintro e w2 ⟨rfl, hb2'⟩
  have hb2 := hb1.trans (hb2'.mono hb1.size)
  go_wp2_with fail
  refine (H3 _).mono ?_
  rintro e w' ⟨rfl, rfl⟩
  go_wp2_with fail
  refine (clone_any A' c' B first w2 (hr'.below (hb2.mono hB)) (Nat.le_trans hB hb2.size) hn').mono ?_
  rintro e w3 ⟨v, rfl, hown3, hb3'⟩
  have hb3 := hb2.trans (hb3'.mono hb2.size)
  replace hown3 := ownsRow_base hown3 hb2.size
  clear H H3 h2 hb1 hb2' hb2 hb3' w1 w2
  go_wp2_with fail
  go_loopw [10] (fun v wr => ∃ k : Nat, first.length ≤ k ∧ (k ≤ n ∨ k = first.length) ∧ wr.ownsRow w.heap.size 2 1 v k (ints (ext p rule first k)) ∧ Below w.heap.size w wr) (fun v _ => n - lenOf v)
  case atStart => exact ⟨first.length, Nat.le_refl _, .inr rfl, by rw [hX0.out]; exact hown3, hb3⟩
  case round =>
    obtain ⟨k, hfk, hkn, hown, hbr⟩ := hrel
    have hkn' : k ≤ 64 := by omega
    obtain ⟨Ao, co, rfl, -, hko, hO⟩ := Own.of_row hown (Nat.le_refl _)
    by_cases hlt : k < n
    · obtain ⟨wo, rfl⟩ : ∃ wo : World, wo = wr := ⟨_, rfl⟩
      have hE : Hid (ext p rule first (k + 1) = ext p rule first k ++ [md p (dotTo rule (ext p rule first k) rule.length)]) := ext_next (by omega)
      have hXO : Hid (overB p (ext p rule first k) = true) := overB_ext (by omega) hFO.out k
      have hXL : Hid ((ext p rule first k).length = k) := ext_len _ _ _ _
      generalize ext p rule first k = X at *
      go_wp2_with fail
      go_loop [11, 44] (fun s i => ∃ j : Nat, j ≤ rule.length ∧ i = .int .i64 j ∧ s = .int .i64 (dotTo rule X j)) (fun _ i => rule.length - (intOf i).toNat)
      case atStart => exact ⟨0, Nat.zero_le _, rfl, rfl⟩
      case round =>
        obtain ⟨j, hj, rfl, rfl⟩ := hrel
        by_cases hlt2 : j < rule.length
        · obtain ⟨ad, rfl, hab, hc1⟩ := int_at (hr.below (hbr.mono hB)) hlt2
          have hO2 : Reads wo wo.heap.size 1 Ao X.length (ints X) := by have := hO.reads; rwa [ints_len] at this
          obtain ⟨ad2, rfl, hab2, hc2⟩ := int_at (k := k - 1 - j) hO2 (by have := hXL.out; omega)
          have hd := dotTo_bd (by omega) hp.2 hRO.out hXO.out j
          have ha := overB_getD (by omega) hRO.out j
          have hb := overB_getD (by omega) hXO.out (k - 1 - j)
          have hab' := mul_bd (n := 12) (m := 12) ⟨ha.1, by omega⟩ ⟨hb.1, by omega⟩
          have hD : Hid (dotTo rule X (j + 1) = dotTo rule X j + rule.getD j 0 * X.getD (k - 1 - j) 0) := by
            show _ = _
            rw [dotTo, hXL.out]
          clear hO2 hr hr' hO
          generalize rule.getD j 0 = a at *
          generalize X.getD (k - 1 - j) 0 = b at *
          generalize dotTo rule X j = D at *
          go_wp2
          go_round
          case rel => exact ⟨j + 1, by omega, by go_num, by rw [hD.out]⟩
          case measure => simp [intOf]; omega
        · have hjn : j = rule.length := by omega
          subst hjn
          have hd := dotTo_bd (by omega) hp.2 hRO.out hXO.out rule.length
          have HM := rest_any (dotTo rule X rule.length) p (by omega) (by omega)
          clear hO hr hr'
          generalize hmd : md p (dotTo rule X rule.length) = y at *
          generalize dotTo rule X rule.length = D at *
          clear hmd
          go_wp2_with (first | (go_at_call 33; refine (HM _).mono ?_; rintro e w' ⟨rfl, rfl⟩) | (at_builtin; refine wpList_append_any _ rfl (.tmp 62) (.tmp 66) _ rfl w.heap.size 2 i0 _ 1 8 Try.underlying22 hi hz0 hz1 hz2 rfl (by omega) (.slice Ao k co) k (ints X) rfl (hown.alloc _) (wo.heap.size + 1) (some ⟨wo.heap.size, 0, none⟩) 1 1 [.int .i64 y] rfl (reads_one wo _ _) (one_int y) (by simp only [maxLen]; omega) (by omega) (by simp; have := hbr.size; omega) ?_; intro v1 w1 hown1 hg1 hat1))
          have hb1 : Below w.heap.size w w1 := (hbr.alloc hbr.size _).grown hg1 (by simp; have := hbr.size; omega) (fun j hj => (hown.lt j hj).1)
          have hv1 : ∃ A1 c1, v1 = .slice A1 (k + 1) c1 := by
            obtain ⟨A1, c1, h, -⟩ := Own.of_row hown1 (Nat.le_refl _)
            exact ⟨A1, c1, h⟩
          obtain ⟨A1, c1, rfl⟩ := hv1
          clear hg1 hat1 hown
          go_wp2
          go_roundw
          case rel => exact ⟨k + 1, by omega, by omega, by rw [hE.out]; simpa [ints] using hown1, hb1⟩
          case measure => simp [lenOf]; omega
    · have hXT : Hid ((ext p rule first k).take n = ext p rule first n) := by
        show _ = _
        exact ext_take _ _ _ _ _ (by omega)
      have hXL : Hid ((ext p rule first n).length = n) := ext_len _ _ _ _
      clear hr hr' hown
      go_wp2
      go_ret2
      exact ⟨Ao, n, rfl, Nat.le_refl _, by have := hO.take n; rw [ints_take, hXT.out] at this; exact this, hbr⟩
end Go.Proofs.Ytciakaecdllfcaa
