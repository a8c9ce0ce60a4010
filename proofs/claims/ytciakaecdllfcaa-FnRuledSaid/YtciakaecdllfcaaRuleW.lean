/-
  Contracts: impl.integerAt, impl.inverse, spec.l03Inverse.
-/
import Derived.Test.YtciakaecdllfcaaFollowI
import Derived.Test.YtciakaecdllfcaaBmEnd
namespace Go.Proofs.Ytciakaecdllfcaa
open Go.RowKit

theorem integerAt_any (A : Option Addr) (c B : Nat) (zs : List Int) (k : Int) (j : Nat) (hk : k = (j : Int)) (w : World) (hr : Reads w B 1 A zs.length (ints zs)) :
    Calls Try.prog 37 #[.slice A zs.length c, .int .i64 k] w fun e w' => e = .returned (.int .i64 (zs.getD j 0)) ∧ w' = w := by
  subst hk
  by_cases hlt : j < zs.length
  · obtain ⟨ad, rfl, hab, hc1⟩ := int_at hr hlt
    have hlt' : decide ((zs.length : Int) ≤ (j : Int)) = false := by simp; omega
    clear hr
    generalize zs.getD j 0 = x at *
    go_enter Try.func37, Try.ntmps37
    go_wp2
    go_ret
    exact ⟨rfl, rfl⟩
  · have hx : Hid (zs.getD j 0 = 0) := by
      show _ = _
      simp only [List.getD]
      rw [List.getElem?_eq_none (by omega)]; rfl
    go_enter Try.func37, Try.ntmps37
    go_wp2
    go_ret
    rw [hx.out]
    exact ⟨rfl, rfl⟩

theorem inv_at {p n : Int} {k : Nat} (hk : (k : Int) < p) (h : md p (n * (k : Int)) = 1) (hno : ∀ j, j < k → md p (n * (j : Int)) ≠ 1) : inv p n = k := by
  unfold inv
  have : (List.range p.toNat).find? (fun (y : Nat) => md p (n * (y : Int)) == 1) = some k := by
    rw [List.find?_eq_some_iff_getElem]
    refine ⟨by simpa using h, k, by simp; omega, by simp, fun j hj => ?_⟩
    have := hno j hj
    simpa using this
  rw [this]; rfl
theorem inv_none {p n : Int} (hno : ∀ j : Nat, (j : Int) < p → md p (n * (j : Int)) ≠ 1) : inv p n = 0 := by
  unfold inv
  have : (List.range p.toNat).find? (fun (y : Nat) => md p (n * (y : Int)) == 1) = none := by
    rw [List.find?_eq_none]
    intro y hy
    rw [List.mem_range] at hy
    have := hno y (by omega)
    simpa using this
  rw [this]; rfl

theorem inverse_any (n p : Int) (hp : 1 < p ∧ p ≤ 13) (hn : 0 ≤ n ∧ n ≤ 12) (w : World) :
    Calls Try.prog 38 #[.int .i64 n, .int .i64 p] w fun e w' => e = .returned (.int .i64 (inv p n)) ∧ w = w' := by
  obtain ⟨q, rfl⟩ := Int.eq_ofNat_of_zero_le (show 0 ≤ p by omega)
  go_enter Try.func38, Try.ntmps38
  go_wp2
  go_loop [7] (fun i => ∃ k : Nat, k ≤ q ∧ i = .int .i64 k ∧ Hid (∀ j, j < k → md q (n * (j : Int)) ≠ 1)) (fun i => q - (intOf i).toNat)
  case atStart => exact ⟨0, Nat.zero_le _, rfl, fun j hj => by omega⟩
  case round =>
    obtain ⟨k, hk, rfl, hno⟩ := hrel
    by_cases hlt : k < q
    · have hm : 0 ≤ n * (k : Int) ∧ n * (k : Int) ≤ 156 := by
        have := mul_bd (n := 12) (m := 13) (a := n) (b := (k : Int)) ⟨hn.1, by omega⟩ ⟨by omega, by omega⟩
        exact ⟨this.1, by omega⟩
      have HR := rest_any (n * (k : Int)) q (by omega) (by omega)
      cases hx : (md q (n * (k : Int)) == 1) with
      | true =>
        have hfin : Hid (inv q n = k) := inv_at (by omega) (by simpa using hx) hno
        generalize md q (n * (k : Int)) = y at *
        go_wp2_with (go_at_call 33; refine (HR _).mono ?_; rintro e w' ⟨rfl, rfl⟩)
        go_ret
        rw [hfin.out]
        exact ⟨rfl, rfl⟩
      | false =>
        have HX : Hid (∀ j, j < k + 1 → md q (n * (j : Int)) ≠ 1) := fun j hj => by
          rcases Nat.lt_or_ge j k with h | h
          · exact hno j h
          · have : j = k := by omega
            subst this; simpa using hx
        generalize md q (n * (k : Int)) = y at *
        go_wp2_with (go_at_call 33; refine (HR _).mono ?_; rintro e w' ⟨rfl, rfl⟩)
        go_round
        case rel => exact ⟨k + 1, by omega, by go_num, HX⟩
        case measure => simp [intOf]; omega
    · have hkn : k = q := by omega
      subst hkn
      have hfin : Hid (inv k n = 0) := inv_none fun j hj => hno j (by omega)
      go_wp2
      go_ret
      rw [hfin.out]
      exact ⟨rfl, rfl⟩

theorem l03Inverse_any (n p : Int) (hp : 1 < p ∧ p ≤ 13) (hn : 0 ≤ n ∧ n ≤ 12) (w : World) :
    Calls Try.prog 39 #[.int .i64 n, .int .i64 p] w fun e w' => e = .returned (.int .i64 (inv p n)) ∧ w = w' := by
  obtain ⟨q, rfl⟩ := Int.eq_ofNat_of_zero_le (show 0 ≤ p by omega)
  go_enter Try.func39, Try.ntmps39
  go_wp2
  go_loop [5] (fun i => ∃ k : Nat, 1 ≤ k ∧ k ≤ q ∧ i = .int .i64 k ∧ Hid (∀ j, j < k → md q (n * (j : Int)) ≠ 1)) (fun i => q - (intOf i).toNat)
  case atStart => exact ⟨1, Nat.le_refl _, by omega, rfl, fun j hj => by
    obtain rfl : j = 0 := by omega
    rw [md_emod (by omega)]; simp⟩
  case round =>
    obtain ⟨k, hk1, hk, rfl, hno⟩ := hrel
    by_cases hlt : k < q
    · have hm : 0 ≤ n * (k : Int) ∧ n * (k : Int) ≤ 156 := by
        have := mul_bd (n := 12) (m := 13) (a := n) (b := (k : Int)) ⟨hn.1, by omega⟩ ⟨by omega, by omega⟩
        exact ⟨this.1, by omega⟩
      have he : (n * (k : Int)) % (q : Int) = md q (n * (k : Int)) := (md_emod (by omega)).symm
      have hq0 : ¬ (q : Int) = 0 := by omega
      cases hx : (md q (n * (k : Int)) == 1) with
      | true =>
        have hfin : Hid (inv q n = k) := inv_at (by omega) (by simpa using hx) hno
        rw [← he] at hx
        clear he
        go_wp2
        go_ret
        rw [hfin.out]
        exact ⟨rfl, rfl⟩
      | false =>
        have HX : Hid (∀ j, j < k + 1 → md q (n * (j : Int)) ≠ 1) := fun j hj => by
          rcases Nat.lt_or_ge j k with h | h
          · exact hno j h
          · have : j = k := by omega
            subst this; simpa using hx
        rw [← he] at hx
        clear he
        go_wp2
        go_round
        case rel => exact ⟨k + 1, by omega, by omega, by go_num, HX⟩
        case measure => simp [intOf]; omega
    · have hkn : k = q := by omega
      subst hkn
      have hfin : Hid (inv k n = 0) := inv_none fun j hj => hno j (by omega)
      go_wp2
      go_ret
      rw [hfin.out]
      exact ⟨rfl, rfl⟩
end Go.Proofs.Ytciakaecdllfcaa
