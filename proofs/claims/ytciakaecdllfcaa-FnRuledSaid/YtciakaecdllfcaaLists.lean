/-
  Contracts: whether a list has remainders alone (spec.l07List, impl.areRemainders with its closure), slices.Clone, slices.Clip.
-/
import Derived.Test.YtciakaecdllfcaaBools
namespace Go.Proofs.Ytciakaecdllfcaa
open Go.RowKit

/-- From so many to 64 numbers from 0 to p - 1, over a prime. -/
def listB (p : Int) (least : Nat) (zs : List Int) : Bool := isP p && decide (least ≤ zs.length) && decide (zs.length ≤ 64) && overB p zs

theorem inB_eq (x p : Int) : inB x 0 (p - 1) = (decide (0 ≤ x) && decide (x ≤ p - 1)) := rfl
theorem overB_false {p : Int} {zs : List Int} {k : Nat} (hk : k < zs.length) (h : inB (zs.getD k 0) 0 (p - 1) = false) : overB p zs = false := by
  cases ho : overB p zs with
  | false => rfl
  | true =>
    have := overB_at ho hk
    rw [inB_eq] at h
    simp only [Bool.and_eq_false_iff, decide_eq_false_iff_not] at h
    omega
theorem overB_true {p : Int} {zs : List Int} (h : ∀ k, k < zs.length → inB (zs.getD k 0) 0 (p - 1) = true) : overB p zs = true :=
  overB_of fun i hi => by
    have := h i hi
    rw [inB_eq] at this
    simpa using this

theorem l07List_any (A : Option Addr) (c B : Nat) (zs : List Int) (p : Int) (least : Int) (ln : Nat) (hln : least = ln) (b : Bool) (hb : listB p ln zs = b) (w : World) (hr : Reads w B 1 A zs.length (ints zs)) (hn : zs.length ≤ 1048576) :
    Calls Try.prog 27 #[.slice A zs.length c, .int .i64 p, .int .i64 least] w fun e w' => e = .returned (.bool b) ∧ w = w' := by
  unfold listB at hb
  have hln1 : (ln : Int) ≤ least := by omega
  have hln2 : least ≤ (ln : Int) := by omega
  clear hln
  cases h1 : isP p with
  | false =>
    rw [h1] at hb
    subst hb
    have H := l03Prime_any p false h1
    clear h1 hr
    go_enter Try.func27, Try.ntmps27
    go_wp2_with (go_at_call 58; refine (H _).mono ?_; rintro e w' ⟨rfl, rfl⟩)
    go_ret
    exact ⟨by simp, rfl⟩
  | true =>
    have hp := isP_one h1
    have H := l03Prime_any p true h1
    rw [h1] at hb
    clear h1
    by_cases h2 : ln ≤ zs.length
    · by_cases h3 : zs.length ≤ 64
      · have h2' : ¬ ((zs.length : Int) < (least : Int)) := by omega
        have h3' : ¬ ((64 : Int) < (zs.length : Int)) := by omega
        simp only [h2, h3, decide_true, Bool.true_and] at hb
        have HB := Lib.hid hb
        clear hb
        go_enter Try.func27, Try.ntmps27
        go_wp2_with (go_at_call 58; refine (H _).mono ?_; rintro e w' ⟨rfl, rfl⟩)
        go_loop [24] (fun i => ∃ k : Nat, k ≤ zs.length ∧ i = .int .i64 k ∧ Hid (∀ j, j < k → inB (zs.getD j 0) 0 (p - 1) = true)) (fun i => zs.length - (intOf i).toNat)
        case atStart => exact ⟨0, Nat.zero_le _, rfl, fun j hj => by omega⟩
        case round =>
          obtain ⟨k, hk, rfl, hno⟩ := hrel
          by_cases hlt : k < zs.length
          · obtain ⟨ad, rfl, hab, hc1⟩ := int_at hr hlt
            clear hr
            cases hx : inB (zs.getD k 0) 0 (p - 1) with
            | true =>
              have HI := l00In_any (zs.getD k 0) 0 (p - 1) true hx
              have HX : Hid (∀ j, j < k + 1 → inB (zs.getD j 0) 0 (p - 1) = true) := fun j hj => by
                rcases Nat.lt_or_ge j k with h | h
                · exact hno j h
                · have : j = k := by omega
                  subst this; exact hx
              clear hx
              generalize zs.getD k 0 = x at *
              go_wp2_with (go_at_call 28; refine (HI _).mono ?_; rintro e w' ⟨rfl, rfl⟩)
              go_round
              case rel => exact ⟨k + 1, by omega, by go_num, HX⟩
              case measure => simp [intOf]; omega
            | false =>
              have HI := l00In_any (zs.getD k 0) 0 (p - 1) false hx
              have hfin : Hid (overB p zs = false) := overB_false hlt hx
              clear hx
              generalize zs.getD k 0 = x at *
              go_wp2_with (go_at_call 28; refine (HI _).mono ?_; rintro e w' ⟨rfl, rfl⟩)
              go_ret
              rw [← HB.out, hfin.out]
              exact ⟨rfl, rfl⟩
          · have hkn : k = zs.length := by omega
            subst hkn
            have hfin : Hid (overB p zs = true) := overB_true hno
            go_wp2
            go_ret
            rw [← HB.out, hfin.out]
            exact ⟨rfl, rfl⟩
      · have h2' : decide ((zs.length : Int) < least) = false := by simp; omega
        simp only [h3, decide_false, Bool.and_false, Bool.false_and] at hb
        subst hb
        go_enter Try.func27, Try.ntmps27
        go_wp2_with (go_at_call 58; refine (H _).mono ?_; rintro e w' ⟨rfl, rfl⟩)
        go_ret
        exact ⟨rfl, rfl⟩
    · simp only [h2, decide_false, Bool.and_false, Bool.false_and] at hb
      subst hb
      have h2' : decide ((zs.length : Int) < least) = true := by simp; omega
      go_enter Try.func27, Try.ntmps27
      go_wp2_with (go_at_call 58; refine (H _).mono ?_; rintro e w' ⟨rfl, rfl⟩)
      go_ret
      exact ⟨rfl, rfl⟩

/-- The place of the first number that is no remainder, -1 if all are. -/
def ixo (p : Int) (zs : List Int) : Int := match zs.findIdx? (fun x => !inB x 0 (p - 1)) with | some i => (i : Int) | none => -1
theorem ixo_at {zs : List Int} {p : Int} {k : Nat} (hk : k < zs.length) (he : inB (zs.getD k 0) 0 (p - 1) = false) (hn : ∀ j, j < k → inB (zs.getD j 0) 0 (p - 1) = true) : ixo p zs = k := by
  unfold ixo
  have : zs.findIdx? (fun x => !inB x 0 (p - 1)) = some k := by
    rw [List.findIdx?_eq_some_iff_getElem]
    refine ⟨hk, by simpa [List.getD, List.getElem?_eq_getElem hk] using he, fun j hj => ?_⟩
    have := hn j hj
    simpa [List.getD, List.getElem?_eq_getElem (show j < zs.length by omega)] using this
  rw [this]
theorem ixo_none {zs : List Int} {p : Int} (hn : ∀ j, j < zs.length → inB (zs.getD j 0) 0 (p - 1) = true) : ixo p zs = -1 := by
  unfold ixo
  have : zs.findIdx? (fun x => !inB x 0 (p - 1)) = none := by
    rw [List.findIdx?_eq_none_iff]
    intro y hy
    obtain ⟨j, hj, rfl⟩ := List.mem_iff_getElem.1 hy
    have := hn j hj
    simpa [List.getD, List.getElem?_eq_getElem hj] using this
  rw [this]
theorem overB_ixo (p : Int) (zs : List Int) : decide (0 ≤ ixo p zs) = !overB p zs := by
  cases h : overB p zs with
  | true =>
    rw [ixo_none fun j hj => by
      have := overB_at h hj
      rw [inB_eq]; simpa using this]
    rfl
  | false =>
    unfold ixo
    cases hf : zs.findIdx? (fun x => !inB x 0 (p - 1)) with
    | some i => simp
    | none =>
      rw [List.findIdx?_eq_none_iff] at hf
      have : overB p zs = true := overB_true fun k hk => by
        have := hf zs[k] (List.getElem_mem hk)
        simpa [List.getD, List.getElem?_eq_getElem hk] using this
      rw [h] at this; cases this

theorem areRem1_any (x p : Int) (a : Addr) (b : Bool) (hb : inB x 0 (p - 1) = b) (hp : 1 < p ∧ p ≤ 13) (w : World) (hc : w.cell? a = some (.int .i64 p)) :
    Calls Try.prog 61 #[.int .i64 x, .pointer (some a)] w fun e w' => e = .returned (.bool (!b)) ∧ w = w' := by
  have HI := within_any x 0 (p - 1) b hb
  clear hb
  go_enter Try.func61, Try.ntmps61
  go_wp2_with (go_at_call 31; refine (HI _).mono ?_; rintro e w' ⟨rfl, rfl⟩)
  go_ret
  exact ⟨rfl, rfl⟩

theorem indexFunc_any (A : Option Addr) (c B : Nat) (zs : List Int) (p : Int) (a : Addr) (hp : 1 < p ∧ p ≤ 13) (w : World) (hc : w.cell? a = some (.int .i64 p)) (hr : Reads w B 1 A zs.length (ints zs)) (hn : zs.length ≤ 1048576) :
    Calls Try.prog 69 #[.slice A zs.length c, .func (.func 61) #[] #[.pointer (some a)]] w fun e w' => e = .returned (.int .i64 (ixo p zs)) ∧ w = w' := by
  go_enter Try.func69, Try.ntmps69
  go_wp2
  go_loop [8] (fun i => ∃ k : Nat, k ≤ zs.length ∧ i = .int .i64 k ∧ Hid (∀ j, j < k → inB (zs.getD j 0) 0 (p - 1) = true)) (fun i => zs.length - (intOf i).toNat)
  case atStart => exact ⟨0, Nat.zero_le _, rfl, fun j hj => by omega⟩
  case round =>
    obtain ⟨k, hk, rfl, hno⟩ := hrel
    by_cases hlt : k < zs.length
    · obtain ⟨ad, rfl, hab, hc1⟩ := int_at hr hlt
      clear hr
      cases hx : inB (zs.getD k 0) 0 (p - 1) with
      | true =>
        have HI := areRem1_any (zs.getD k 0) p a true hx hp
        have HX : Hid (∀ j, j < k + 1 → inB (zs.getD j 0) 0 (p - 1) = true) := fun j hj => by
          rcases Nat.lt_or_ge j k with h | h
          · exact hno j h
          · have : j = k := by omega
            subst this; exact hx
        clear hx
        generalize zs.getD k 0 = x at *
        go_wp2_with (go_at_call 61; refine (HI _ hc).mono ?_; rintro e w' ⟨rfl, rfl⟩)
        go_round
        case rel => exact ⟨k + 1, by omega, by go_num, HX⟩
        case measure => simp [intOf]; omega
      | false =>
        have HI := areRem1_any (zs.getD k 0) p a false hx hp
        have hfin : Hid (ixo p zs = k) := ixo_at hlt hx hno
        clear hx
        generalize zs.getD k 0 = x at *
        go_wp2_with (go_at_call 61; refine (HI _ hc).mono ?_; rintro e w' ⟨rfl, rfl⟩)
        go_ret
        rw [hfin.out]
        exact ⟨rfl, rfl⟩
    · have hkn : k = zs.length := by omega
      subst hkn
      have hfin : Hid (ixo p zs = -1) := ixo_none hno
      go_wp2
      go_ret
      rw [hfin.out]
      exact ⟨rfl, rfl⟩

theorem containsFunc_any (A : Option Addr) (c B : Nat) (zs : List Int) (p : Int) (a : Addr) (b : Bool) (hb : overB p zs = b) (hp : 1 < p ∧ p ≤ 13) (w : World) (hc : w.cell? a = some (.int .i64 p)) (hr : Reads w B 1 A zs.length (ints zs)) (hn : zs.length ≤ 1048576) :
    Calls Try.prog 60 #[.slice A zs.length c, .func (.func 61) #[] #[.pointer (some a)]] w fun e w' => e = .returned (.bool (!b)) ∧ w = w' := by
  subst hb
  rw [← overB_ixo]
  have H := indexFunc_any A c B zs p a hp w hc hr hn
  generalize ixo p zs = r at *
  go_enter Try.func60, Try.ntmps60
  go_wp2_with (go_at_call 69; refine H.mono ?_; rintro e w' ⟨rfl, rfl⟩)
  go_ret
  exact ⟨rfl, rfl⟩
end Go.Proofs.Ytciakaecdllfcaa
