/-
  Contracts of the small tests and remainders: l00In, within, l03Mod, rest, l03Prime, isPrime.
-/
import Derived.Test.YtciakaecdllfcaaInts
import Derived.Test.YtciakaecdllfcaaBm
namespace Go.Proofs.Ytciakaecdllfcaa
open Go.RowKit

def inB (n lo hi : Int) : Bool := decide (lo ≤ n) && decide (n ≤ hi)

theorem l00In_any (n lo hi : Int) (b : Bool) (hb : inB n lo hi = b) (w : World) :
    Calls Try.prog 28 #[.int .i64 n, .int .i64 lo, .int .i64 hi] w fun e w' => e = .returned (.bool b) ∧ w = w' := by
  unfold inB at hb
  have HB := Lib.hid hb
  clear hb
  by_cases h1 : lo ≤ n <;> by_cases h2 : n ≤ hi
  all_goals
    go_enter Try.func28, Try.ntmps28
    go_wp2
    go_ret
    refine ⟨?_, rfl⟩
    rw [← HB.out]
    simp [h1, h2]

theorem within_any (n lo hi : Int) (b : Bool) (hb : inB n lo hi = b) (w : World) :
    Calls Try.prog 31 #[.int .i64 n, .int .i64 lo, .int .i64 hi] w fun e w' => e = .returned (.bool b) ∧ w = w' := by
  unfold inB at hb
  have HB := Lib.hid hb
  clear hb
  by_cases h1 : lo ≤ n <;> by_cases h2 : n ≤ hi
  all_goals
    go_enter Try.func31, Try.ntmps31
    go_wp2
    go_ret
    refine ⟨?_, rfl⟩
    rw [← HB.out]
    simp [h1, h2]

theorem tmod_bd {p x : Int} (hp : 0 < p) : -p < x.tmod p ∧ x.tmod p < p := by
  have h1 := Int.tmod_lt_of_pos x hp
  have h2 := Int.lt_tmod_of_pos x hp
  exact ⟨h2, h1⟩

theorem md_eq {p x : Int} (hp : 0 < p) : (x.tmod p + p) % p = md p x := by
  have hb := tmod_bd (x := x) hp
  unfold md
  exact (Int.tmod_eq_emod_of_nonneg (by omega)).symm

theorem l03Mod_any (x p : Int) (hp : 0 < p) (hp2 : p ≤ 1000000) (w : World) :
    Calls Try.prog 29 #[.int .i64 x, .int .i64 p] w fun e w' => e = .returned (.int .i64 (md p x)) ∧ w = w' := by
  have hb := tmod_bd (x := x) hp
  have hb0 : ¬ p = 0 := by omega
  go_enter Try.func29, Try.ntmps29
  go_wp2
  go_ret
  rw [md_eq hp]
  exact ⟨rfl, rfl⟩

theorem rest_any (x p : Int) (hp : 0 < p) (hp2 : p ≤ 1000000) (w : World) :
    Calls Try.prog 33 #[.int .i64 x, .int .i64 p] w fun e w' => e = .returned (.int .i64 (md p x)) ∧ w = w' := by
  have hb := tmod_bd (x := x) hp
  have hb0 : ¬ p = 0 := by omega
  go_enter Try.func33, Try.ntmps33
  go_wp2
  go_ret
  rw [md_eq hp]
  exact ⟨rfl, rfl⟩

theorem l03Prime_any (p : Int) (b : Bool) (hb : isP p = b) (w : World) :
    Calls Try.prog 58 #[.int .i64 p] w fun e w' => e = .returned (.bool b) ∧ w = w' := by
  subst hb
  by_cases h2 : p = 2
  · subst h2
    go_enter Try.func58, Try.ntmps58
    go_wp2
    go_ret
    exact ⟨rfl, rfl⟩
  by_cases h3 : p = 3
  · subst h3
    go_enter Try.func58, Try.ntmps58
    go_wp2
    go_ret
    exact ⟨rfl, rfl⟩
  by_cases h5 : p = 5
  · subst h5
    go_enter Try.func58, Try.ntmps58
    go_wp2
    go_ret
    exact ⟨rfl, rfl⟩
  by_cases h7 : p = 7
  · subst h7
    go_enter Try.func58, Try.ntmps58
    go_wp2
    go_ret
    exact ⟨rfl, rfl⟩
  by_cases h11 : p = 11
  · subst h11
    go_enter Try.func58, Try.ntmps58
    go_wp2
    go_ret
    exact ⟨rfl, rfl⟩
  by_cases h13 : p = 13
  · subst h13
    go_enter Try.func58, Try.ntmps58
    go_wp2
    go_ret
    exact ⟨rfl, rfl⟩
  have hf : isP p = false := by simp [isP, h2, h3, h5, h7, h11, h13]
  rw [hf]
  clear hf
  go_enter Try.func58, Try.ntmps58
  go_wp2
  go_ret
  refine ⟨?_, rfl⟩
  simp [h2, h3, h5, h7, h11, h13]

theorem beq_at {zs : List Int} {x : Int} {k : Nat} {hk : k < zs.length} : (x == zs[k]) = true ↔ zs.getD k 0 = x := by
  rw [beq_iff_eq]
  simp only [List.getD, List.getElem?_eq_getElem hk, Option.getD_some]
  exact eq_comm

/-- The place of a number in a list, -1 if it is not there. -/
def ix (zs : List Int) (x : Int) : Int := match zs.findIdx? (· == x) with | some i => (i : Int) | none => -1
theorem ix_at {zs : List Int} {x : Int} {k : Nat} (hk : k < zs.length) (he : zs.getD k 0 = x) (hn : ∀ j, j < k → zs.getD j 0 ≠ x) : ix zs x = k := by
  unfold ix
  have : zs.findIdx? (· == x) = some k := by
    rw [List.findIdx?_eq_some_iff_getElem]
    refine ⟨hk, by simpa [List.getD, List.getElem?_eq_getElem hk] using he, fun j hj => ?_⟩
    have := hn j hj
    simpa [List.getD, List.getElem?_eq_getElem (show j < zs.length by omega)] using this
  rw [this]
theorem ix_none {zs : List Int} {x : Int} (hn : ∀ j, j < zs.length → zs.getD j 0 ≠ x) : ix zs x = -1 := by
  unfold ix
  have : zs.findIdx? (· == x) = none := by
    rw [List.findIdx?_eq_none_iff]
    intro y hy
    obtain ⟨j, hj, rfl⟩ := List.mem_iff_getElem.1 hy
    have := hn j hj
    simpa [List.getD, List.getElem?_eq_getElem hj] using this
  rw [this]

theorem index_any (A : Option Addr) (c B : Nat) (zs : List Int) (x : Int) (w : World) (hr : Reads w B 1 A zs.length (ints zs)) (hn : zs.length ≤ 1048576) :
    Calls Try.prog 74 #[.slice A zs.length c, .int .i64 x] w fun e w' => e = .returned (.int .i64 (ix zs x)) ∧ w = w' := by
  go_enter Try.func74, Try.ntmps74
  go_wp2
  go_loop [8] (fun i => ∃ k : Nat, k ≤ zs.length ∧ i = .int .i64 k ∧ Hid (∀ j, j < k → zs.getD j 0 ≠ x)) (fun i => zs.length - (intOf i).toNat)
  case atStart => exact ⟨0, Nat.zero_le _, rfl, fun j hj => by omega⟩
  case round =>
    obtain ⟨k, hk, rfl, hno⟩ := hrel
    by_cases hlt : k < zs.length
    · obtain ⟨ad, rfl, hab, hc1⟩ := int_at hr hlt
      clear hr
      cases hx : (x == zs[k]) with
      | true =>
        have he : zs.getD k 0 = x := beq_at.1 hx
        have hfin : Hid (ix zs x = k) := ix_at hlt he hno
        clear he
        go_wp2
        go_ret
        rw [hfin.out]
        exact ⟨rfl, rfl⟩
      | false =>
        have he : Hid (¬ zs.getD k 0 = x) := fun h => by rw [beq_at.2 h] at hx; cases hx
        go_wp2
        go_round
        case rel =>
          refine ⟨k + 1, by omega, by go_num, fun j hj => ?_⟩
          rcases Nat.lt_or_ge j k with h | h
          · exact hno j h
          · have : j = k := by omega
            subst this; exact he
        case measure => simp [intOf]; omega
    · have hkn : k = zs.length := by omega
      subst hkn
      have hfin : Hid (ix zs x = -1) := ix_none hno
      go_wp2
      go_ret
      rw [hfin.out]
      exact ⟨rfl, rfl⟩

theorem contains_any (A : Option Addr) (c B : Nat) (zs : List Int) (x : Int) (b : Bool) (hb : decide (0 ≤ ix zs x) = b) (w : World) (hr : Reads w B 1 A zs.length (ints zs)) (hn : zs.length ≤ 1048576) :
    Calls Try.prog 68 #[.slice A zs.length c, .int .i64 x] w fun e w' => e = .returned (.bool b) ∧ w = w' := by
  subst hb
  have H := index_any A c B zs x w hr hn
  generalize ix zs x = r at *
  go_enter Try.func68, Try.ntmps68
  go_wp2_with (go_at_call 74; refine H.mono ?_; rintro e w' ⟨rfl, rfl⟩)
  go_ret
  exact ⟨rfl, rfl⟩

theorem isP_ix (p : Int) : decide (0 ≤ ix [2, 3, 5, 7, 11, 13] p) = isP p := by
  cases h : isP p with
  | true =>
    rcases isP_cases h with rfl | rfl | rfl | rfl | rfl | rfl <;> rfl
  | false =>
    simp only [isP, Bool.or_eq_false_iff, beq_eq_false_iff_ne] at h
    rw [ix_none (zs := [2, 3, 5, 7, 11, 13]) (x := p)]
    · rfl
    · intro j hj
      simp only [List.length_cons, List.length_nil] at hj
      rcases (show j = 0 ∨ j = 1 ∨ j = 2 ∨ j = 3 ∨ j = 4 ∨ j = 5 by omega) with rfl | rfl | rfl | rfl | rfl | rfl <;> simp [List.getD] <;> omega

theorem isPrime_any (p : Int) (b : Bool) (hb : isP p = b) (w : World) :
    Calls Try.prog 59 #[.int .i64 p] w fun e w' => e = .returned (.bool b) ∧ Below w.heap.size w w' := by
  go_enter Try.func59, Try.ntmps59
  go_wp2_with fail
  have hr : Reads (w.alloc (.cells #[.int .i64 2, .int .i64 3, .int .i64 5, .int .i64 7, .int .i64 11, .int .i64 13] 2)) (w.heap.size + 1) 1 (some ⟨w.heap.size, 0, none⟩) [2, 3, 5, 7, 11, 13].length (ints [2, 3, 5, 7, 11, 13]) :=
    Own.reads (lo := 0) (E := 2) (.inr ⟨w.heap.size, _, rfl, by omega, by omega, heap_alloc_new w _, by simp [ints], by simp [ints]⟩)
  refine (contains_any _ _ _ [2, 3, 5, 7, 11, 13] p b (by rw [isP_ix]; exact hb) _ hr (by simp)).mono ?_
  rintro e w' ⟨rfl, rfl⟩
  go_wp2
  go_ret
  exact ⟨rfl, (Below.refl _ _).alloc (Nat.le_refl _) _⟩
end Go.Proofs.Ytciakaecdllfcaa
