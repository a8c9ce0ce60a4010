/-
  The law FnExactRealText, walked by contracts: whatever the polynomial, it returns true and turns nothing that was there.
-/
import Derived.Test.YtlcckgpidjneeaaDoorRealI
import Derived.Test.YtlcckgpidjneeaaDoorHand
import Derived.Deep.RegionHeld3
namespace Go.Proofs.YtlcckgpidjneeaaDoor
open Go.RowKit

theorem szReal_any (A : Option Addr) (c : Nat) (n : Nat) (w : World) (hn : n ≤ 9223372036854775807) :
    Calls Tryd.prog 10 #[.agg #[.slice A n c], .int .i64 1048576] w fun e w' => e = .returned (.int .i64 (if n ≤ 1048576 then (1048576 : Int) - (n : Int) else -1)) ∧ Below w.heap.size w w' := by
  have hb0 : Below w.heap.size w (w.alloc (.cells #[.slice A n c] 27)) := (Below.refl _ _).alloc (Nat.le_refl _) _
  by_cases h : n ≤ 1048576
  · have h1 : ¬ ((1048576 : Int) - (n : Int) < 0) := by omega
    rw [if_pos h]
    go_enter Tryd.func10, Tryd.ntmps10
    go_wp2
    go_ret
    exact ⟨rfl, hb0⟩
  · have h1 : (1048576 : Int) - (n : Int) < 0 := by omega
    rw [if_neg h]
    go_enter Tryd.func10, Tryd.ntmps10
    go_wp2
    go_ret
    exact ⟨rfl, hb0⟩

theorem bcell {W w1 : World} (hb : Below W.heap.size W w1) : (∀ b o, b < W.heap.size → w1.cell? ⟨b, o, none⟩ = W.cell? ⟨b, o, none⟩) ∧ (∀ b o, b < W.heap.size → w1.frozen? ⟨b, o, none⟩ = W.frozen? ⟨b, o, none⟩) :=
  ⟨fun b o h => hb.cell (p := ⟨b, o, none⟩) h, fun b o h => hb.frozen (p := ⟨b, o, none⟩) h⟩

theorem toReal_any (A : Option Addr) (c B : Nat) (zs : List Int) (w : World) (hr : Reads w B 1 A zs.length (ints zs)) (hB : B ≤ w.heap.size) (hn : zs.length ≤ 1048576) :
    Calls Tryd.prog 12 #[.agg #[.slice A zs.length c]] w fun e w' => ∃ A' c', e = .returned (.agg #[.slice A' zs.length c']) ∧ Own w' w.heap.size w'.heap.size 2 A' (ints zs) ∧ Below w.heap.size w w' := by
  have HT := fun W (hW : Below w.heap.size w W) => toInt64S_any A c B zs W (hr.below (hW.mono hB)) (Nat.le_trans hB hW.size) hn
  clear hr
  go_enter Tryd.func12, Tryd.ntmps12
  go_wp2_with fail
  (with_reducible refine (HT _ ((((Below.refl _ _).alloc (Nat.le_refl _) _).alloc (by simp) _).alloc (by simp; omega) _)).mono ?_)
  rintro e w1 ⟨A', c', rfl, hO, hb1⟩
  clear HT
  have hbw : Below w.heap.size w w1 := ((((Below.refl _ _).alloc (Nat.le_refl _) _).alloc (by simp) _).alloc (by simp; omega) _).trans (hb1.mono (by simp; omega))
  obtain ⟨hc, hf⟩ := bcell hb1
  have hz : w.heap.size + 2 < w1.heap.size := by have := hb1.size; simp at this; omega
  go_wp2
  refine bodyPost_ret (v := .agg #[.slice A' zs.length c']) (by simp [results, Tryd.results12, go_sem, hc]) rfl ⟨A', c', rfl, ?_, (hbw.setCell (by simp; omega) _).setCell (by simp) _⟩
  have hO2 : Own w1 (w.heap.size + 3) w1.heap.size 2 A' (ints zs) := hO.wide (by simp) (Nat.le_refl _)
  have h3 := hO2.keep (w' := (w1.setCell ⟨w.heap.size + 1 + 1, 0, none⟩ (.slice A' zs.length c')).setCell ⟨w.heap.size + 1, 0, none⟩ (.slice A' zs.length c')) (fun g h1 _ _ => (Below.heap_setCell _ _ _ _ (by simp; omega)).trans (Below.heap_setCell _ _ _ _ (by simp; omega)))
  exact h3.wide (by omega) (by simp [World.setCell])

theorem eqReal_any (A A' : Option Addr) (c c' B : Nat) (zs : List Int) (w : World) (hr : Reads w B 1 A zs.length (ints zs)) (hr' : Reads w B 1 A' zs.length (ints zs)) (hB : B ≤ w.heap.size) (hn : zs.length ≤ 1048576) :
    Calls Tryd.prog 14 #[.agg #[.slice A zs.length c], .agg #[.slice A' zs.length c']] w fun e w' => e = .returned (.bool true) ∧ Below w.heap.size w w' := by
  have hb2 : Below w.heap.size w ((w.alloc (.cells #[.slice A zs.length c] 31)).alloc (.cells #[.slice A' zs.length c'] 31)) := ((Below.refl _ _).alloc (Nat.le_refl _) _).alloc (by simp) _
  have HE := eqInt64S_b A A' c c' B zs _ (hr.below (hb2.mono hB)) (hr'.below (hb2.mono hB)) hn
  clear hr hr'
  go_enter Tryd.func14, Tryd.ntmps14
  go_wp2_with fail
  (with_reducible refine HE.mono ?_)
  rintro e w1 ⟨rfl, hb1⟩
  clear HE
  go_wp2
  go_ret
  exact ⟨rfl, hb2.trans (hb1.mono hb2.size)⟩

set_option maxRecDepth 100000 in
set_option maxHeartbeats 1600000 in
theorem lawReal (A : Option Addr) (c : Nat) (zs : List Int) (w : World) (hr : Reads w w.heap.size 1 A zs.length (ints zs)) (hn : zs.length ≤ 9223372036854775807) (htab : Lib.TabBelow Tryd.prog w.heap.size w "internal/strconv.uint64pow10" .u64 Lib.pow10Tab) :
    Calls Tryd.prog 4 #[.agg #[.slice A zs.length c]] w fun e w' => e = .returned (.bool true) ∧ Below w.heap.size w w' := by
  have hb0 : Below w.heap.size w (w.alloc (.cells #[.slice A zs.length c] 27)) := (Below.refl _ _).alloc (Nat.le_refl _) _
  have hcb : ∀ w1, Below w.heap.size w w1 → True := fun _ _ => trivial
  have HS := szReal_any A c zs.length (w.alloc (.cells #[.slice A zs.length c] 27)) hn
  by_cases hs : zs.length ≤ 1048576
  · rw [if_pos hs] at HS
    have h0 : ¬ ((1048576 : Int) - (zs.length : Int) < 0) := by omega
    have HT := fun W (hW : Below w.heap.size w W) => toReal_any A c w.heap.size zs W (hr.below hW) hW.size hs
    have HJS := fun A' c' B W h1 h2 => realTextS_any A' c' B zs W h1 h2 hs
    have HJI := fun A' c' B W (hW : Below w.heap.size w W) h1 h2 => realTextI_any A' c' B zs W h1 h2 hs (fun W' hW' => htab W' (hW.trans (hW'.mono hW.size)))
    have HE := fun A' A'' c' c'' B W h1 h2 h3 => eqReal_any A' A'' c' c'' B zs W h1 h2 h3 hs
    clear htab hr hn hs hcb
    generalize rtx zs = o at *
    generalize realB zs = b at *
    go_enter Tryd.func4, Tryd.ntmps4
    go_wp2_with fail
    (with_reducible refine HS.mono ?_)
    rintro e w1 ⟨rfl, hb1⟩
    clear HS
    have hw1 := hb0.trans (hb1.mono hb0.size)
    have hx1 : w1.cell? ⟨w.heap.size, 0, none⟩ = some (.slice A zs.length c) := (hb1.cell (by simp)).trans (by rw [cell_of_row _ _ 0 _ _ _ (heap_alloc_new w _)]; rfl)
    go_wp2_with fail
    (with_reducible refine (HT _ hw1).mono ?_)
    rintro e w2 ⟨A2, c2, rfl, hO2, hb2⟩
    have hw2 := hw1.trans (hb2.mono hw1.size)
    have hx2 : w2.cell? ⟨w.heap.size, 0, none⟩ = some (.slice A zs.length c) := (hb2.cell (by have := hb1.size; simp at this; simp; omega)).trans hx1
    go_wp2_with fail
    (with_reducible refine (HJS A2 c2 _ w2 (hO2.reads' (Nat.le_refl _) (by simp)) (Nat.le_refl _)).mono ?_)
    rintro e w3 ⟨rfl, hb3⟩
    clear HJS
    have hw3 := hw2.trans (hb3.mono hw2.size)
    have hx3 : w3.cell? ⟨w.heap.size, 0, none⟩ = some (.slice A zs.length c) := (hb3.cell (by have h1 := hb1.size; have h2 := hb2.size; simp at h1; simp; omega)).trans hx2
    clear hx1 hx2
    go_wp2_with fail
    (with_reducible refine (HT _ hw3).mono ?_)
    rintro e w4 ⟨A4, c4, rfl, hO4, hb4⟩
    have hw4 := hw3.trans (hb4.mono hw3.size)
    have hx4 : w4.cell? ⟨w.heap.size, 0, none⟩ = some (.slice A zs.length c) := (hb4.cell (by have h1 := hb1.size; have h2 := hb2.size; have h3 := hb3.size; simp at h1; simp; omega)).trans hx3
    clear hx3
    have hb4a : Below w4.heap.size w4 (w4.alloc (.cells #[.slice A4 zs.length c4] 31)) := (Below.refl _ _).alloc (Nat.le_refl _) _
    have hw4a := hw4.trans (hb4a.mono hw4.size)
    have hO4a := hO4.below hb4a (Nat.le_refl _)
    have H5 := HJI A4 c4 _ _ hw4a (hO4a.reads' hb4a.size (by simp)) (Nat.le_refl _)
    clear HJI
    go_wp2_with fail
    (with_reducible refine H5.mono ?_)
    rintro e w5 ⟨rfl, hb5⟩
    clear H5
    have hw5 := hw4a.trans (hb5.mono hw4a.size)
    have h45 : Below w4.heap.size w4 w5 := hb4a.trans (hb5.mono hb4a.size)
    have hO5 := hO4.below h45 (Nat.le_refl _)
    have hx5 : w5.cell? ⟨w.heap.size, 0, none⟩ = some (.slice A zs.length c) := (h45.cell (by have h1 := hb1.size; have h2 := hb2.size; have h3 := hb3.size; have h4 := hb4.size; simp at h1; simp; omega)).trans hx4
    have hy5 : w5.cell? ⟨w4.heap.size, 0, none⟩ = some (.slice A4 zs.length c4) := (hb5.cell (by simp)).trans (by rw [cell_of_row _ _ 0 _ _ _ (heap_alloc_new w4 _)]; rfl)
    have hp1 : w.heap.size < w5.heap.size := by have h1 := hb1.size; have h2 := hb2.size; have h3 := hb3.size; have h4 := hb4.size; have h5 := h45.size; simp at h1; omega
    have hp4 : w4.heap.size < w5.heap.size := by have h5 := hb5.size; simp at h5; omega
    have hO5s : w4.heap.size ≤ w5.heap.size := h45.size
    clear hx4 hO4 hO4a hb4a hb4 hb3 hb2 hb1 hO2 h45 hb5 hw4a hw4 hw3 hw2 hw1
    have hS0 : (fun w' : World => w'.cell? ⟨w.heap.size, 0, none⟩ = some (.slice A zs.length c) ∧ w'.cell? ⟨w4.heap.size, 0, none⟩ = some (.slice A4 zs.length c4) ∧ Below w5.heap.size w5 w') w5.drew := ⟨hx5, hy5, ⟨rfl, rfl, rfl, Nat.le_refl _, fun _ _ => rfl⟩⟩
    have hSc : ∀ W W' : World, (W.cell? ⟨w.heap.size, 0, none⟩ = some (.slice A zs.length c) ∧ W.cell? ⟨w4.heap.size, 0, none⟩ = some (.slice A4 zs.length c4) ∧ Below w5.heap.size w5 W) → Below W.heap.size W W' → (W'.cell? ⟨w.heap.size, 0, none⟩ = some (.slice A zs.length c) ∧ W'.cell? ⟨w4.heap.size, 0, none⟩ = some (.slice A4 zs.length c4) ∧ Below w5.heap.size w5 W') := fun W W' h hb =>
      ⟨(hb.cell (Nat.lt_of_lt_of_le hp1 h.2.2.size)).trans h.1, (hb.cell (Nat.lt_of_lt_of_le hp4 h.2.2.size)).trans h.2.1, h.2.2.trans (hb.mono h.2.2.size)⟩
    have HT' : ∀ W, Below w5.heap.size w5 W → _ := fun W hW => HT W (hw5.trans (hW.mono hw5.size))
    have hdr : Below w5.heap.size w5 w5.drew := ⟨rfl, rfl, rfl, Nat.le_refl _, fun _ _ => rfl⟩
    clear HT
    go_wp2_with fail
    go_region_held3 (fun w' => w'.cell? ⟨w.heap.size, 0, none⟩ = some (.slice A zs.length c) ∧ w'.cell? ⟨w4.heap.size, 0, none⟩ = some (.slice A4 zs.length c4) ∧ Below w5.heap.size w5 w')
      (first | exact hS0 | exact hSc _ _ (by assumption) (by assumption) | trace_state)
      (first | (go_at_call 12; refine (HT' _ (by first | assumption | exact ⟨rfl, rfl, rfl, Nat.le_refl _, fun _ _ => rfl⟩)).mono ?_; rintro e w6 ⟨A6, c6, rfl, hO6, hb6⟩) | (go_at_call 14; refine (HE A4 A6 c4 c6 w6.heap.size w6 ((hO5.below (hdr.trans hb6) hO5s).reads' (Nat.le_trans hO5s hb6.size) (by simp)) (hO6.reads' (Nat.le_refl _) (by simp)) (Nat.le_refl _)).mono ?_; rintro e w7 ⟨rfl, hb7⟩))
    rename_i hheld
    have hfin := hw5.trans (hheld.2.2.mono hw5.size)
    clear hS0 hSc HT' HE hheld
    go_wp2
    go_ret
    exact ⟨rfl, hfin⟩
  · rw [if_neg hs] at HS
    clear htab hr hn hs hcb
    go_enter Tryd.func4, Tryd.ntmps4
    go_wp2_with fail
    (with_reducible refine HS.mono ?_)
    rintro e w1 ⟨rfl, hb1⟩
    clear HS
    go_wp2
    go_ret
    exact ⟨rfl, hb0.trans (hb1.mono hb0.size)⟩
end Go.Proofs.YtlcckgpidjneeaaDoor
