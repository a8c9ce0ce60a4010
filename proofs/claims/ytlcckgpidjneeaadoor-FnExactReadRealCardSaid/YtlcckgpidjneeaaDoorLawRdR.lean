/-
  The law FnExactReadReal, walked by contracts: whatever the text, it returns true and turns nothing that was there.
-/
import Derived.Test.YtlcckgpidjneeaaDoorRdRealI
namespace Go.Proofs.YtlcckgpidjneeaaDoor
open Go.RowKit

theorem eqReal2_any (A A' : Option Addr) (c c' B : Nat) (zs : List Int) (w : World) (hr : Reads w B 1 A zs.length (ints zs)) (hr' : Reads w B 1 A' zs.length (ints zs)) (hB : B ≤ w.heap.size) (hn : zs.length ≤ 1048576) :
    Calls Tryd.prog 14 #[.agg #[.slice A zs.length c], .agg #[.slice A' zs.length c']] w fun e w' => e = .returned (.bool true) ∧ Below w.heap.size w w' := by
  have hb2 : Below w.heap.size w ((w.alloc (.cells #[.slice A zs.length c] 31)).alloc (.cells #[.slice A' zs.length c'] 31)) := ((Below.refl _ _).alloc (Nat.le_refl _) _).alloc (by simp) _
  have HE := eqInt64S_b A A' c c' B zs _ (hr.below (hb2.mono hB)) (hr'.below (hb2.mono hB)) hn
  clear hr hr'
  go_enter Tryd.func14, Tryd.ntmps14
  go_wp2_with fail
  (with_reducible refine HE.mono ?_)
  rintro e w1 ⟨rfl, hb1⟩
  clear HE
  go_wp2
  go_ret
  exact ⟨rfl, hb2.trans (hb1.mono hb2.size)⟩

theorem markReal_any (A : Option Addr) (c lo hi : Nat) (zs : List Int) (w : World) (ho : Own w lo hi 2 A (ints zs)) (hhi : hi ≤ w.heap.size) (hn : zs.length ≤ 1048576) :
    Calls Tryd.prog 26 #[.agg #[.slice A zs.length c], .int .i64 1] w fun e w' => e = .returned (.int .i64 (1 + (zs.length : Int))) ∧ Own w' lo hi 2 A (ints (marks 1 zs.length)) ∧ Kp lo hi w w' := by
  have hb0 : Below w.heap.size w (w.alloc (.cells #[.slice A zs.length c] 31)) := (Below.refl _ _).alloc (Nat.le_refl _) _
  have HM := markInt64S_any A c lo hi 1 zs _ (ho.below hb0 hhi) hn (by omega)
  clear ho
  go_enter Tryd.func26, Tryd.ntmps26
  go_wp2_with fail
  (with_reducible refine HM.mono ?_)
  rintro e w1 ⟨rfl, hO, hkp⟩
  clear HM
  go_wp2
  go_ret
  exact ⟨rfl, hO, (Kp.of_below hb0).trans hkp⟩

theorem heldReal_any (A : Option Addr) (c B : Nat) (n : Nat) (w : World) (hr : Reads w B 1 A n (ints (marks 1 n))) (hB : B ≤ w.heap.size) (hn : n ≤ 1048576) :
    Calls Tryd.prog 27 #[.agg #[.slice A n c], .int .i64 1] w fun e w' => e = .returned (.int .i64 (1 + (n : Int))) ∧ Below w.heap.size w w' := by
  have hb0 : Below w.heap.size w (w.alloc (.cells #[.slice A n c] 31)) := (Below.refl _ _).alloc (Nat.le_refl _) _
  have HH := heldInt64S_b A c B 1 n _ (hr.below (hb0.mono hB)) hn (by omega)
  have h1 : ¬ (1 + (n : Int) < 0) := by omega
  clear hr
  go_enter Tryd.func27, Tryd.ntmps27
  go_wp2_with fail
  (with_reducible refine HH.mono ?_)
  rintro e w1 ⟨rfl, hb1⟩
  clear HH
  go_wp2
  go_ret
  exact ⟨rfl, hb0.trans (hb1.mono hb0.size)⟩

theorem rrR_len (l : List UInt8) : (rrR l).length ≤ 64 := by
  unfold rrR
  split
  · exact rlR_len l
  · simp
theorem cell_kp {lo hi b : Nat} {w w' : World} {v : Value} (h : w.cell? ⟨b, 0, none⟩ = some v) (hk : Kp lo hi w w') (hb : b < lo ∨ hi ≤ b) : w'.cell? ⟨b, 0, none⟩ = some v :=
  (World.cell?_of_block (hk.block b (World.block_lt_of_cell? w _ h) hb)).trans h
theorem cell_below {b : Nat} {w w' : World} {v : Value} (h : w.cell? ⟨b, 0, none⟩ = some v) (hb : Below w.heap.size w w') : w'.cell? ⟨b, 0, none⟩ = some v :=
  (hb.cell (World.block_lt_of_cell? w _ h)).trans h
theorem cell_new (w : World) (v : Value) (T : TypeId) : (w.alloc (.cells #[v] T)).cell? ⟨w.heap.size, 0, none⟩ = some v := by
  rw [cell_of_row _ _ 0 _ _ _ (heap_alloc_new w _)]; rfl
theorem below_new (w : World) (o : Obj) : Below w.heap.size w (w.alloc o) := (Below.refl _ _).alloc (Nat.le_refl _) _

set_option maxRecDepth 100000 in
set_option maxHeartbeats 1600000 in
theorem lawRdR (s : ByteArray) (w : World) (hs : s.size ≤ maxLen) (hsh : w.ShapedOpen Tryd.prog) (hE : ErrVars w) (htab : Lib.TabBelow Tryd.prog w.heap.size w "internal/strconv.uint64pow10" .u64 Lib.pow10Tab) :
    Calls Tryd.prog 7 #[.string s] w fun e w' => e = .returned (.bool true) ∧ Below w.heap.size w w' := by
  unfold maxLen at hs
  by_cases hn : s.size ≤ 1048576
  · have H1 := readRealS_any s w hn
    have H2 := fun W (hW : Below w.heap.size w W) => readRealI_any s W (shaped_below hsh hW) (hE.on hW) (fun W' hW' => htab W' (hW.trans (hW'.mono hW.size))) hn
    have hl := rrR_len s.data.toList
    clear hsh htab hE
    generalize rrR s.data.toList = zs at *
    generalize rrB s.data.toList = b at *
    go_enter Tryd.func7, Tryd.ntmps7
    go_wp2_with fail
    (with_reducible refine H1.mono ?_)
    rintro e w1 ⟨A0, c0, rfl, hO0, hb1⟩
    clear H1
    have hn1 := below_new w1 (.cells #[.slice A0 zs.length c0] 31)
    have hw1 := hb1.trans (hn1.mono hb1.size)
    have hx1 := cell_new w1 (.slice A0 zs.length c0) 31
    have hO0a := hO0.below hn1 (Nat.le_refl _)
    go_wp2_with fail
    (with_reducible refine (H2 _ hw1).mono ?_)
    rintro e w2 ⟨A1, c1, rfl, hO1, hb2⟩
    have hn2 := below_new w2 (.cells #[.slice A1 zs.length c1] 31)
    have h12 := hb2.trans (hn2.mono hb2.size)
    have hw2 := hw1.trans (h12.mono hw1.size)
    have hx2 := cell_below hx1 h12
    have hy2 := cell_new w2 (.slice A1 zs.length c1) 31
    have hO0b := hO0a.below h12 hn1.size
    have hO1b := hO1.below hn2 (Nat.le_refl _)
    have hs12 : w1.heap.size < w2.heap.size := by have := hb2.size; simp at this; omega
    have HE1 := eqReal2_any A1 A0 c1 c0 w2.heap.size zs _ (hO1b.reads' (Nat.le_refl _) (by simp)) (hO0b.reads' (by omega) (by simp)) hn2.size (by omega)
    clear hO0 hO0a hO1 hx1 hb2
    go_wp2_with fail
    (with_reducible refine HE1.mono ?_)
    rintro e w3 ⟨rfl, hb3⟩
    clear HE1
    have hw3 := hw2.trans (hb3.mono hw2.size)
    have hx3 := cell_below hx2 hb3
    have hy3 := cell_below hy2 hb3
    have hs23 : w2.heap.size < w3.heap.size := by have := hb3.size; simp at this; omega
    have hO0c := hO0b.below hb3 (by simp; omega)
    have hO1c := hO1b.below hb3 hn2.size
    have HM := markReal_any A1 c1 _ _ zs w3 hO1c (by omega) (by omega)
    clear hx2 hy2 hO0b hO1b
    go_wp2_with fail
    (with_reducible refine HM.mono ?_)
    rintro e w4 ⟨rfl, hO1d, hkp⟩
    clear HM
    have hx4 := cell_kp hx3 hkp (.inl (by simp))
    have hy4 := cell_kp hy3 hkp (.inr (Nat.le_refl _))
    have hO0d := hO0c.kp hkp (.inl (by simp))
    have hs34 := hkp.size
    have hw4 : Below w.heap.size w w4 := hw3.trans (hkp.below (by have := hb1.size; simp; omega) hw3.size)
    have HH := heldReal_any A1 c1 w2.heap.size zs.length w4 (hO1d.reads' (Nat.le_refl _) (by simp)) (by omega) (by omega)
    clear hx3 hy3 hO0c hO1c hkp
    go_wp2_with fail
    (with_reducible refine HH.mono ?_)
    rintro e w5 ⟨rfl, hb5⟩
    clear HH
    have hs45 := hb5.size
    have hx5 := cell_below hx4 hb5
    have hy5 := cell_below hy4 hb5
    have hO0e := hO0d.below hb5 (by omega)
    have hO1e := hO1d.below hb5 (by omega)
    have hw5 := hw4.trans (hb5.mono hw4.size)
    clear hx4 hy4 hO0d hO1d
    go_wp2_with fail
    (with_reducible refine (H2 w5 hw5).mono ?_)
    rintro e w6 ⟨A2, c2, rfl, hO2, hb6⟩
    clear H2
    have hs56 := hb6.size
    have hn6 := below_new w6 (.cells #[.slice A2 zs.length c2] 31)
    have h56 := hb6.trans (hn6.mono hb6.size)
    have hw6 := hw5.trans (h56.mono hw5.size)
    have hx6 := cell_below hx5 h56
    have hy6 := cell_below hy5 h56
    have hz6 := cell_new w6 (.slice A2 zs.length c2) 31
    have hO0f := hO0e.below h56 (by omega)
    have hO1f := hO1e.below h56 (by omega)
    have hO2f := hO2.below hn6 (Nat.le_refl _)
    have HE2 := eqReal2_any A2 A0 c2 c0 w6.heap.size zs _ (hO2f.reads' (Nat.le_refl _) (by simp)) (hO0f.reads' (by omega) (by simp)) hn6.size (by omega)
    clear hx5 hy5 hO0e hO1e hO2
    go_wp2_with fail
    (with_reducible refine HE2.mono ?_)
    rintro e w7 ⟨rfl, hb7⟩
    clear HE2
    have hs67 : w6.heap.size < w7.heap.size := by have := hb7.size; simp at this; omega
    have hy7 := cell_below hy6 hb7
    have hO1g := hO1f.below hb7 (by simp; omega)
    have hw7 := hw6.trans (hb7.mono hw6.size)
    have HH2 := heldReal_any A1 c1 w2.heap.size zs.length w7 (hO1g.reads' (Nat.le_refl _) (by simp)) (by omega) (by omega)
    clear hx6 hy6 hz6 hO0f hO1f hO2f
    go_wp2_with fail
    (with_reducible refine HH2.mono ?_)
    rintro e w8 ⟨rfl, hb8⟩
    clear HH2
    have hfin := hw7.trans (hb8.mono hw7.size)
    go_wp2
    go_ret
    exact ⟨rfl, hfin⟩
  · clear hsh htab hE
    go_enter Tryd.func7, Tryd.ntmps7
    go_wp2
    go_ret
    exact ⟨rfl, Below.refl _ _⟩
end Go.Proofs.YtlcckgpidjneeaaDoor
