/-
  Contracts of polynomials of integers: whether one is valid (spec.l04Is, impl.ValidReal with its closure).
-/
import Derived.Test.YtlcckgpidjneeaaDoorInts
import Derived.IntWalk
namespace Go.Proofs.YtlcckgpidjneeaaDoor
open Go.RowKit

def inB (n lo hi : Int) : Bool := decide (lo ≤ n) && decide (n ≤ hi)

theorem l00In_any (n lo hi : Int) (b : Bool) (hb : inB n lo hi = b) (w : World) :
    Calls Tryd.prog 54 #[.int .i64 n, .int .i64 lo, .int .i64 hi] w fun e w' => e = .returned (.bool b) ∧ w = w' := by
  unfold inB at hb
  have HB := Lib.hid hb
  clear hb
  by_cases h1 : lo ≤ n <;> by_cases h2 : n ≤ hi
  all_goals
    go_enter Tryd.func54, Tryd.ntmps54
    go_wp2
    go_ret
    refine ⟨?_, rfl⟩
    rw [← HB.out]
    simp [h1, h2]

theorem within_any (n lo hi : Int) (b : Bool) (hb : inB n lo hi = b) (w : World) :
    Calls Tryd.prog 58 #[.int .i64 n, .int .i64 lo, .int .i64 hi] w fun e w' => e = .returned (.bool b) ∧ w = w' := by
  unfold inB at hb
  have HB := Lib.hid hb
  clear hb
  by_cases h1 : lo ≤ n <;> by_cases h2 : n ≤ hi
  all_goals
    go_enter Tryd.func58, Tryd.ntmps58
    go_wp2
    go_ret
    refine ⟨?_, rfl⟩
    rw [← HB.out]
    simp [h1, h2]

/-- Integers from -1000 to 1000. -/
def inR (zs : List Int) : Bool := zs.all fun x => inB x (-1000) 1000
theorem inR_at {zs : List Int} (h : inR zs = true) {i : Nat} (hi : i < zs.length) : inB (zs.getD i 0) (-1000) 1000 = true := by
  have := List.all_eq_true.1 h zs[i] (List.getElem_mem hi)
  simpa [List.getD, List.getElem?_eq_getElem hi] using this
theorem inR_true {zs : List Int} (h : ∀ k, k < zs.length → inB (zs.getD k 0) (-1000) 1000 = true) : inR zs = true := by
  unfold inR
  rw [List.all_eq_true]
  intro x hx
  obtain ⟨k, hk, rfl⟩ := List.mem_iff_getElem.1 hx
  have := h k hk
  simpa [List.getD, List.getElem?_eq_getElem hk] using this
theorem inR_false {zs : List Int} {k : Nat} (hk : k < zs.length) (h : inB (zs.getD k 0) (-1000) 1000 = false) : inR zs = false := by
  cases ho : inR zs with
  | false => rfl
  | true => rw [inR_at ho hk] at h; cases h
/-- The place of the first number that is no remainder, -1 if all are. -/
def ixo (zs : List Int) : Int := match zs.findIdx? (fun x => !inB x (-1000) 1000) with | some i => (i : Int) | none => -1
theorem ixo_at {zs : List Int} {k : Nat} (hk : k < zs.length) (he : inB (zs.getD k 0) (-1000) 1000 = false) (hn : ∀ j, j < k → inB (zs.getD j 0) (-1000) 1000 = true) : ixo zs = k := by
  unfold ixo
  have : zs.findIdx? (fun x => !inB x (-1000) 1000) = some k := by
    rw [List.findIdx?_eq_some_iff_getElem]
    refine ⟨hk, by simpa [List.getD, List.getElem?_eq_getElem hk] using he, fun j hj => ?_⟩
    have := hn j hj
    simpa [List.getD, List.getElem?_eq_getElem (show j < zs.length by omega)] using this
  rw [this]
theorem ixo_none {zs : List Int} (hn : ∀ j, j < zs.length → inB (zs.getD j 0) (-1000) 1000 = true) : ixo zs = -1 := by
  unfold ixo
  have : zs.findIdx? (fun x => !inB x (-1000) 1000) = none := by
    rw [List.findIdx?_eq_none_iff]
    intro y hy
    obtain ⟨j, hj, rfl⟩ := List.mem_iff_getElem.1 hy
    have := hn j hj
    simpa [List.getD, List.getElem?_eq_getElem hj] using this
  rw [this]
theorem inR_ixo (zs : List Int) : decide (0 ≤ ixo zs) = !inR zs := by
  cases h : inR zs with
  | true =>
    rw [ixo_none fun j hj => by
      have := inR_at h hj
      exact this]
    rfl
  | false =>
    unfold ixo
    cases hf : zs.findIdx? (fun x => !inB x (-1000) 1000) with
    | some i => simp
    | none =>
      rw [List.findIdx?_eq_none_iff] at hf
      have : inR zs = true := inR_true fun k hk => by
        have := hf zs[k] (List.getElem_mem hk)
        simpa [List.getD, List.getElem?_eq_getElem hk] using this
      rw [h] at this; cases this

theorem outR_any (x : Int) (b : Bool) (hb : inB x (-1000) 1000 = b) (w : World) :
    Calls Tryd.prog 57 #[.int .i64 x] w fun e w' => e = .returned (.bool (!b)) ∧ w = w' := by
  have HI := within_any x (-1000) 1000 b hb
  clear hb
  go_enter Tryd.func57, Tryd.ntmps57
  go_wp2_with (go_at_call 58; refine (HI _).mono ?_; rintro e w' ⟨rfl, rfl⟩)
  go_ret
  exact ⟨rfl, rfl⟩

theorem indexFunc_any (A : Option Addr) (c B : Nat) (zs : List Int) (w : World) (hr : Reads w B 1 A zs.length (ints zs)) (hn : zs.length ≤ 1048576) :
    Calls Tryd.prog 70 #[.slice A zs.length c, .func (.func 57) #[] #[]] w fun e w' => e = .returned (.int .i64 (ixo zs)) ∧ w = w' := by
  go_enter Tryd.func70, Tryd.ntmps70
  go_wp2
  go_loop [8] (fun i => ∃ k : Nat, k ≤ zs.length ∧ i = .int .i64 k ∧ Hid (∀ j, j < k → inB (zs.getD j 0) (-1000) 1000 = true)) (fun i => zs.length - (intOf i).toNat)
  case atStart => exact ⟨0, Nat.zero_le _, rfl, fun j hj => by omega⟩
  case round =>
    obtain ⟨k, hk, rfl, hno⟩ := hrel
    by_cases hlt : k < zs.length
    · obtain ⟨ad, rfl, hab, hc1⟩ := int_at hr hlt
      clear hr
      cases hx : inB (zs.getD k 0) (-1000) 1000 with
      | true =>
        have HI := outR_any (zs.getD k 0) true hx
        have HX : Hid (∀ j, j < k + 1 → inB (zs.getD j 0) (-1000) 1000 = true) := fun j hj => by
          rcases Nat.lt_or_ge j k with h | h
          · exact hno j h
          · have : j = k := by omega
            subst this; exact hx
        clear hx
        generalize zs.getD k 0 = x at *
        go_wp2_with (go_at_call 57; refine (HI _).mono ?_; rintro e w' ⟨rfl, rfl⟩)
        go_round
        case rel => exact ⟨k + 1, by omega, by go_num, HX⟩
        case measure => simp [intOf]; omega
      | false =>
        have HI := outR_any (zs.getD k 0) false hx
        have hfin : Hid (ixo zs = k) := ixo_at hlt hx hno
        clear hx
        generalize zs.getD k 0 = x at *
        go_wp2_with (go_at_call 57; refine (HI _).mono ?_; rintro e w' ⟨rfl, rfl⟩)
        go_ret
        rw [hfin.out]
        exact ⟨rfl, rfl⟩
    · have hkn : k = zs.length := by omega
      subst hkn
      have hfin : Hid (ixo zs = -1) := ixo_none hno
      go_wp2
      go_ret
      rw [hfin.out]
      exact ⟨rfl, rfl⟩

theorem containsFunc_any (A : Option Addr) (c B : Nat) (zs : List Int) (b : Bool) (hb : inR zs = b) (w : World) (hr : Reads w B 1 A zs.length (ints zs)) (hn : zs.length ≤ 1048576) :
    Calls Tryd.prog 56 #[.slice A zs.length c, .func (.func 57) #[] #[]] w fun e w' => e = .returned (.bool (!b)) ∧ w = w' := by
  subst hb
  rw [← inR_ixo]
  have H := indexFunc_any A c B zs w hr hn
  generalize ixo zs = r at *
  go_enter Tryd.func56, Tryd.ntmps56
  go_wp2_with (go_at_call 70; refine H.mono ?_; rintro e w' ⟨rfl, rfl⟩)
  go_ret
  exact ⟨rfl, rfl⟩

/-- Whether integers are a polynomial's. -/
def realB (zs : List Int) : Bool := decide (1 ≤ zs.length) && decide (zs.length ≤ 9) && !decide (zs.getD (zs.length - 1) 0 = 0) && inR zs

set_option maxRecDepth 100000 in
theorem validReal_any (A : Option Addr) (c B : Nat) (zs : List Int) (w : World) (hr : Reads w B 1 A zs.length (ints zs)) (hB : B ≤ w.heap.size) (hn : zs.length ≤ 1048576) :
    Calls Tryd.prog 34 #[.agg #[.slice A zs.length c]] w fun e w' => e = .returned (.bool (realB zs)) ∧ Below w.heap.size w w' := by
  have hb0 : Below w.heap.size w (w.alloc (.cells #[.slice A zs.length c] 31)) := (Below.refl _ _).alloc (Nat.le_refl _) _
  by_cases h1 : 1 ≤ zs.length
  · by_cases h2 : zs.length ≤ 9
    · have h1' : decide ((1 : Int) ≤ (zs.length : Int)) = true := by simp; omega
      have h2' : decide ((zs.length : Int) ≤ 9) = true := by simp; omega
      obtain ⟨ad, rfl, hab, hcell⟩ := int_at (k := zs.length - 1) hr (by omega)
      have hc1 : (w.alloc (.cells #[.slice (some ad) zs.length c] 31)).cell? (ad.add (zs.length - 1)) = some (.int .i64 (zs.getD (zs.length - 1) 0)) := (hb0.cell (by rw [block_of_add]; omega)).trans hcell
      have hi1 : IntKind.i64.wrap ((zs.length : Int) - 1) = (zs.length : Int) - 1 := IntWalk.i64_in _ (by omega)
      have hi2 : ((zs.length : Int) - 1).toNat = zs.length - 1 := by omega
      have hi3 : (0 : Int) ≤ (zs.length : Int) - 1 := by omega
      have hi4 : (zs.length : Int) - 1 < (zs.length : Int) := by omega
      by_cases h3 : zs.getD (zs.length - 1) 0 = 0
      · have hv : realB zs = false := by simp only [realB, h3, decide_true, Bool.not_true, Bool.and_false, Bool.false_and]
        rw [hv]
        have h3' : (zs.getD (zs.length - 1) 0 != 0) = false := by rw [h3]; rfl
        clear hcell hr h3 hv
        generalize zs.getD (zs.length - 1) 0 = z at *
        go_enter Tryd.func34, Tryd.ntmps34
        go_wp2
        go_ret
        exact ⟨rfl, hb0⟩
      · have hv : realB zs = inR zs := by simp only [realB, h1, h2, h3, decide_true, decide_false, Bool.not_false, Bool.and_true, Bool.true_and]
        rw [hv]
        have HC := containsFunc_any (some ad) c B zs (inR zs) rfl _ (hr.below (hb0.mono hB)) hn
        have h3' : (zs.getD (zs.length - 1) 0 != 0) = true := bne_iff_ne.2 h3
        clear hcell hr h3 hv
        generalize zs.getD (zs.length - 1) 0 = z at *
        generalize inR zs = b at *
        go_enter Tryd.func34, Tryd.ntmps34
        go_wp2_with fail
        (with_reducible refine HC.mono ?_)
        rintro e w' ⟨rfl, rfl⟩
        clear HC
        go_wp2
        go_ret
        exact ⟨by simp, hb0⟩
    · have hv : realB zs = false := by simp [realB, h2]
      have h1' : decide ((1 : Int) ≤ (zs.length : Int)) = true := by simp; omega
      have h2' : decide ((zs.length : Int) ≤ 9) = false := by simp; omega
      rw [hv]
      clear hr hv
      go_enter Tryd.func34, Tryd.ntmps34
      go_wp2
      go_ret
      exact ⟨rfl, hb0⟩
  · have hv : realB zs = false := by simp [realB, h1]
    have h1' : decide ((1 : Int) ≤ (zs.length : Int)) = false := by simp; omega
    rw [hv]
    clear hr hv
    go_enter Tryd.func34, Tryd.ntmps34
    go_wp2
    go_ret
    exact ⟨rfl, hb0⟩

set_option maxRecDepth 100000 in
theorem l04Is_any (p : Nat) (A : Option Addr) (c B : Nat) (zs : List Int) (w : World) (hp : w.cell? ⟨p, 0, none⟩ = some (.slice A zs.length c)) (hr : Reads w B 1 A zs.length (ints zs)) (hn : zs.length ≤ 1048576) :
    Calls Tryd.prog 31 #[.pointer (some ⟨p, 0, none⟩)] w fun e w' => e = .returned (.bool (realB zs)) ∧ w = w' := by
  go_enter Tryd.func31, Tryd.ntmps31
  go_wp2
  go_loop [4] (fun i => ∃ k : Nat, k ≤ zs.length ∧ i = .int .i64 k ∧ Hid (∀ j, j < k → inB (zs.getD j 0) (-1000) 1000 = true)) (fun i => zs.length - (intOf i).toNat)
  case atStart => exact ⟨0, Nat.zero_le _, rfl, fun j hj => by omega⟩
  case round =>
    obtain ⟨k, hk, rfl, hno⟩ := hrel
    by_cases hlt : k < zs.length
    · obtain ⟨ad, rfl, hab, hc1⟩ := int_at hr hlt
      clear hr
      cases hx : inB (zs.getD k 0) (-1000) 1000 with
      | true =>
        have HI := l00In_any (zs.getD k 0) (-1000) 1000 true hx
        have HX : Hid (∀ j, j < k + 1 → inB (zs.getD j 0) (-1000) 1000 = true) := fun j hj => by
          rcases Nat.lt_or_ge j k with h | h
          · exact hno.out j h
          · have : j = k := by omega
            subst this; exact hx
        clear hx
        generalize zs.getD k 0 = x at *
        go_wp2_with (go_at_call 54; refine (HI _).mono ?_; rintro e w' ⟨rfl, rfl⟩)
        go_round
        case rel => exact ⟨k + 1, by omega, by go_num, HX⟩
        case measure => simp [intOf]; omega
      | false =>
        have HI := l00In_any (zs.getD k 0) (-1000) 1000 false hx
        have hfin : Hid (realB zs = false) := by show _ = _; simp [realB, inR_false hlt hx]
        clear hx
        generalize zs.getD k 0 = x at *
        go_wp2_with (go_at_call 54; refine (HI _).mono ?_; rintro e w' ⟨rfl, rfl⟩)
        go_ret
        rw [hfin.out]
        exact ⟨rfl, rfl⟩
    · have hkn : k = zs.length := by omega
      have hall : inR zs = true := inR_true fun j hj => hno.out j (by omega)
      subst hkn
      by_cases h1 : 1 ≤ zs.length
      · have h1' : decide ((1 : Int) ≤ (zs.length : Int)) = true := by simp; omega
        by_cases h2 : zs.length ≤ 9
        · have h2' : decide ((zs.length : Int) ≤ 9) = true := by simp; omega
          obtain ⟨ad, rfl, hab, hcell⟩ := int_at (k := zs.length - 1) hr (by omega)
          have hi1 : IntKind.i64.wrap ((zs.length : Int) - 1) = (zs.length : Int) - 1 := IntWalk.i64_in _ (by omega)
          have hi2 : ((zs.length : Int) - 1).toNat = zs.length - 1 := by omega
          have hi3 : (0 : Int) ≤ (zs.length : Int) - 1 := by omega
          have hi4 : (zs.length : Int) - 1 < (zs.length : Int) := by omega
          have hv : Hid (realB zs = (zs.getD (zs.length - 1) 0 != 0)) := by
            show _ = _
            by_cases h3 : zs.getD (zs.length - 1) 0 = 0
            · rw [h3]; simp only [realB, h3, decide_true, Bool.not_true, Bool.and_false, Bool.false_and]; rfl
            · simp only [realB, h1, h2, h3, hall, decide_true, decide_false, Bool.not_false, Bool.and_true]; exact (bne_iff_ne.2 h3).symm
          clear hr hall hno
          generalize zs.getD (zs.length - 1) 0 = z at *
          go_wp2
          go_ret
          exact ⟨by rw [hv.out]; rfl, rfl⟩
        · have h2' : decide ((zs.length : Int) ≤ 9) = false := by simp; omega
          have hv : Hid (realB zs = false) := by show _ = _; simp [realB, h2]
          clear hr hall hno
          go_wp2
          go_ret
          exact ⟨by rw [hv.out]; rfl, rfl⟩
      · have h1' : decide ((1 : Int) ≤ (zs.length : Int)) = false := by simp; omega
        have hv : Hid (realB zs = false) := by show _ = _; simp [realB, h1]
        clear hr hall hno
        go_wp2
        go_ret
        exact ⟨by rw [hv.out]; rfl, rfl⟩
end Go.Proofs.YtlcckgpidjneeaaDoor
