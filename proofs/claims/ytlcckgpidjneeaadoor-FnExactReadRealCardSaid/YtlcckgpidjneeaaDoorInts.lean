/-
  The law's own helpers on slices of integers, each by its contract: a copy (toInt64S), a comparison (eqInt64S), marks (markInt64S, heldInt64S).
-/
import Derived.Test.YtlcckgpidjneeaaDoorWords
import Derived.Test.YtlcckgpidjneeaaDoorProg
import Derived.Deep.QuietTactic
import Derived.BigQuiet
import Derived.KernelRfl
namespace Go.Proofs.YtlcckgpidjneeaaDoor
open Go.RowKit

theorem info2 : (Tryd.prog.info? 2).map (fun i => (i.zero, i.size, i.bytes)) = some (some (.int .i64 0), 1, 8) := by kernel_rfl

set_option maxHeartbeats 400000 in
theorem toInt64S_any (A : Option Addr) (c B : Nat) (zs : List Int) (w : World) (hr : Reads w B 1 A zs.length (ints zs)) (hB : B ≤ w.heap.size) (hn : zs.length ≤ 1048576) :
    Calls Tryd.prog 33 #[.slice A zs.length c] w fun e w' => ∃ A' c', e = .returned (.slice A' zs.length c') ∧ Own w' w.heap.size w'.heap.size 2 A' (ints zs) ∧ Below w.heap.size w w' := by
  obtain ⟨i0, hi, hz0, hz1, hz2⟩ := info_parts info2
  go_enter Tryd.func33, Tryd.ntmps33
  go_wp2_with (at_make; refine wpList_make_full _ rfl _ _ _ rfl w.heap.size 2 i0 (.int .i64 0) 1 Tryd.underlying25 hi hz0 hz1 .i64 .i64 _ _ zs.length rfl rfl rfl rfl (by rw [hz2]; omega) (by unfold maxLen; omega) (Nat.le_refl _) ?_; intro w1 hown hg)
  obtain ⟨cs, hblk, hsz, -, -⟩ := blk_of_row hown
  have hb1 : Below w.heap.size w w1 := (Below.refl _ _).grown hg (Nat.le_refl _) (by simp)
  clear hown hg
  go_loopw [4] (fun i wr => ∃ k : Nat, k ≤ zs.length ∧ i = .int .i64 k ∧ (∃ cs, Blk wr w.heap.size 2 cs ∧ cs.size = zs.length ∧ ∀ j, j < k → cs[j]? = some (.int .i64 (zs.getD j 0))) ∧ Below w.heap.size w wr) (fun i _ => zs.length - (intOf i).toNat)
  case atStart => exact ⟨0, Nat.zero_le _, rfl, ⟨cs, hblk, hsz, fun j hj => by omega⟩, hb1⟩
  case round =>
    obtain ⟨k, hk, rfl, ⟨cs, hblk, hsz, hcs⟩, hbr⟩ := hrel
    by_cases hlt : k < zs.length
    · obtain ⟨ad, rfl, hab, hcell⟩ := int_at hr hlt
      have hc1 : wr.cell? (ad.add k) = some (.int .i64 (zs.getD k 0)) := (hbr.cell (by rw [block_of_add]; omega)).trans hcell
      have hc2 : wr.cell? ⟨w.heap.size, k, none⟩ = cs[k]? := hblk.cell k
      have hc3 := hblk.frozen k
      have hc4 : ∃ u, cs[k]? = some u := ⟨cs[k]'(by omega), Array.getElem?_eq_getElem (by omega)⟩
      obtain ⟨u, hc4⟩ := hc4
      rw [hc4] at hc2
      have HS := Lib.hid hsz
      clear hsz hcell hr hc4
      go_wp2
      go_roundw
      case rel =>
        refine ⟨k + 1, by omega, by go_num, ⟨_, hblk.set_ k _, by have := HS.out; simp; omega, fun j hj => ?_⟩, hbr.setCell (Nat.le_refl _) _⟩
        rcases Nat.lt_or_ge j k with h | h
        · rw [Array.getElem?_setIfInBounds_ne (by omega)]; exact hcs j h
        · have : j = k := by omega
          subst this
          rw [Array.getElem?_setIfInBounds_self_of_lt (by have := HS.out; omega)]
          simp [List.getElem?_eq_getElem hlt]
      case measure => simp [intOf]; omega
    · have hkn : k = zs.length := by omega
      subst hkn
      have hcs' : ∀ j, j < zs.length → cs[j]? = some (.int .i64 (zs.getD j 0)) := hcs
      clear hcs
      go_wp2
      go_ret
      exact ⟨_, _, rfl, hblk.own (by simp; omega) (fun j hj => by rw [ints_len] at hj; rw [hcs' j hj, ints_at hj]) (Nat.le_refl _) hblk.lt, hbr⟩

/-- Two slices with the same numbers are found equal. -/
theorem eqInt64S_same (A A' : Option Addr) (c c' B : Nat) (zs : List Int) (w : World) (hr : Reads w B 1 A zs.length (ints zs)) (hr' : Reads w B 1 A' zs.length (ints zs)) (hn : zs.length ≤ 1048576) :
    Calls Tryd.prog 36 #[.slice A zs.length c, .slice A' zs.length c'] w fun e w' => e = .returned (.bool true) ∧ ∃ n, w' = w.drewN n := by
  go_enter Tryd.func36, Tryd.ntmps36
  go_wp2
  go_loopw [5] (fun i wr => ∃ k : Nat, k ≤ zs.length ∧ i = .int .i64 k ∧ ∃ n, wr = w.drewN n) (fun i _ => zs.length - (intOf i).toNat)
  case atStart => exact ⟨0, Nat.zero_le _, rfl, 0, rfl⟩
  case round =>
    obtain ⟨k, hk, rfl, n, rfl⟩ := hrel
    by_cases hlt : k < zs.length
    · obtain ⟨ad, rfl, hab, hc1⟩ := int_at hr hlt
      obtain ⟨ad', rfl, hab', hc2⟩ := int_at hr' hlt
      clear hr hr'
      go_wp2
      go_quiet (fail)
      go_wp2
      go_roundw
      case rel => exact ⟨k + 1, by omega, by go_num, _, rfl⟩
      case measure => simp [intOf]; omega
    · have hkn : k = zs.length := by omega
      subst hkn
      go_wp2
      go_ret
      exact ⟨rfl, n, rfl⟩
/-- The numbers that mark a slice. -/
def marks (k0 : Int) (n : Nat) : List Int := (List.range n).map fun (j : Nat) => k0 + (j : Int)
@[simp] theorem marks_len (k0 : Int) (n : Nat) : (marks k0 n).length = n := by simp [marks]
theorem marks_at {k0 : Int} {n j : Nat} (h : j < n) : (marks k0 n).getD j 0 = k0 + (j : Int) := by
  simp [marks, List.getD, h]

theorem markInt64S_any (A : Option Addr) (c lo hi : Nat) (k0 : Int) (zs : List Int) (w : World) (ho : Own w lo hi 2 A (ints zs)) (hn : zs.length ≤ 1048576) (hk0 : 0 ≤ k0 ∧ k0 ≤ 4194304) :
    Calls Tryd.prog 50 #[.slice A zs.length c, .int .i64 k0] w fun e w' => e = .returned (.int .i64 (k0 + (zs.length : Int))) ∧ Own w' lo hi 2 A (ints (marks k0 zs.length)) ∧ Kp lo hi w w' := by
  by_cases hz : zs.length = 0
  · obtain rfl : zs = [] := List.eq_nil_of_length_eq_zero hz
    go_enter Tryd.func50, Tryd.ntmps50
    go_wp2
    refine wp_loop_rounds 1 ?_
    rw [rounds_succ]
    go_wp2
    go_ret
    exact ⟨by simp, .inl rfl, Kp.refl _ _ _⟩
  · rcases ho with h | ⟨g, cs0, rfl, h1, h2, h3, h4, h5⟩
    · exact absurd (by simpa [ints] using h) hz
    · rw [ints_len] at h4
      have hb0 : Blk w g 2 cs0 := h3
      clear h3 h5
      go_enter Tryd.func50, Tryd.ntmps50
      go_wp2
      go_loopw [1, 5] (fun q i wr => ∃ k : Nat, k ≤ zs.length ∧ i = .int .i64 k ∧ q = .int .i64 (k0 + (k : Int)) ∧ (∃ cs, Blk wr g 2 cs ∧ cs.size = cs0.size ∧ ∀ j, j < k → cs[j]? = some (.int .i64 (k0 + (j : Int)))) ∧ Kp lo hi w wr) (fun _ i _ => zs.length - (intOf i).toNat)
      case atStart => exact ⟨0, Nat.zero_le _, rfl, by go_num, ⟨cs0, hb0, rfl, fun j hj => by omega⟩, Kp.refl _ _ _⟩
      case round =>
        obtain ⟨k, hk, rfl, rfl, ⟨cs, hblk, hsz, hcs⟩, hkp⟩ := hrel
        by_cases hlt : k < zs.length
        · have hc2 : wr.cell? ⟨g, k, none⟩ = cs[k]? := hblk.cell k
          have hc3 := hblk.frozen k
          obtain ⟨u, hc4⟩ : ∃ u, cs[k]? = some u := ⟨cs[k]'(by omega), Array.getElem?_eq_getElem (by omega)⟩
          rw [hc4] at hc2
          have HS := Lib.hid hsz
          clear hsz hc4 hz
          have HC := Lib.hid hcs
          clear hcs
          go_wp2
          go_roundw
          case rel =>
            refine ⟨k + 1, by omega, by go_num, by go_num, ⟨_, hblk.set_ k _, by have := HS.out; simp; omega, fun j hj => ?_⟩, hkp.setCell ⟨h1, h2⟩ _⟩
            rcases Nat.lt_or_ge j k with h | h
            · rw [Array.getElem?_setIfInBounds_ne (by omega)]; exact HC.out j h
            · have : j = k := by omega
              subst this
              rw [Array.getElem?_setIfInBounds_self_of_lt (by have := HS.out; omega)]
          case measure => simp [intOf]; omega
        · have hkn : k = zs.length := by omega
          have HC : Hid (∀ j, j < zs.length → cs[j]? = some (.int .i64 (k0 + (j : Int)))) := fun j hj => hcs j (by omega)
          have HS := Lib.hid hsz
          clear hcs hsz
          subst hkn
          go_wp2
          go_ret
          refine ⟨by simp, hblk.own (by simp; have := HS.out; omega) (fun j hj => ?_) h1 h2, hkp⟩
          rw [ints_len, marks_len] at hj
          rw [HC.out j hj, ints_at (by simpa using hj), marks_at hj]

theorem heldInt64S_any (A : Option Addr) (c B : Nat) (k0 : Int) (n : Nat) (w : World) (hr : Reads w B 1 A n (ints (marks k0 n))) (hn : n ≤ 1048576) (hk0 : 0 ≤ k0 ∧ k0 ≤ 4194304) :
    Calls Tryd.prog 51 #[.slice A n c, .int .i64 k0] w fun e w' => e = .returned (.int .i64 (k0 + (n : Int))) ∧ ∃ m, w' = w.drewN m := by
  go_enter Tryd.func51, Tryd.ntmps51
  go_wp2
  go_loopw [1, 5] (fun q i wr => ∃ k : Nat, k ≤ n ∧ i = .int .i64 k ∧ q = .int .i64 (k0 + (k : Int)) ∧ ∃ m, wr = w.drewN m) (fun _ i _ => n - (intOf i).toNat)
  case atStart => exact ⟨0, Nat.zero_le _, rfl, by go_num, 0, rfl⟩
  case round =>
    obtain ⟨k, hk, rfl, rfl, m, rfl⟩ := hrel
    by_cases hlt : k < n
    · have hr2 : Reads w B 1 A (marks k0 n).length (ints (marks k0 n)) := by rw [marks_len]; exact hr
      obtain ⟨ad, rfl, hab, hc1⟩ := int_at hr2 (by rw [marks_len]; exact hlt)
      rw [marks_at hlt] at hc1
      clear hr hr2
      go_wp2
      go_roundw
      case rel => exact ⟨k + 1, by omega, by go_num, by go_num, _, rfl⟩
      case measure => simp [intOf]; omega
    · have hkn : k = n := by omega
      subst hkn
      go_wp2
      go_ret
      exact ⟨by simp, m, rfl⟩

theorem eqInt64S_b (A A' : Option Addr) (c c' B : Nat) (zs : List Int) (w : World) (hr : Reads w B 1 A zs.length (ints zs)) (hr' : Reads w B 1 A' zs.length (ints zs)) (hn : zs.length ≤ 1048576) :
    Calls Tryd.prog 36 #[.slice A zs.length c, .slice A' zs.length c'] w fun e w' => e = .returned (.bool true) ∧ Below w.heap.size w w' :=
  (eqInt64S_same A A' c c' B zs w hr hr' hn).mono fun _ _ ⟨h1, n, h2⟩ => ⟨h1, by rw [h2]; exact below_drewN (Below.refl _ _) n⟩
theorem heldInt64S_b (A : Option Addr) (c B : Nat) (k0 : Int) (n : Nat) (w : World) (hr : Reads w B 1 A n (ints (marks k0 n))) (hn : n ≤ 1048576) (hk0 : 0 ≤ k0 ∧ k0 ≤ 4194304) :
    Calls Tryd.prog 51 #[.slice A n c, .int .i64 k0] w fun e w' => e = .returned (.int .i64 (k0 + (n : Int))) ∧ Below w.heap.size w w' :=
  (heldInt64S_any A c B k0 n w hr hn hk0).mono fun _ _ ⟨h1, n, h2⟩ => ⟨h1, by rw [h2]; exact below_drewN (Below.refl _ _) n⟩
end Go.Proofs.YtlcckgpidjneeaaDoor
