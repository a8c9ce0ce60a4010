/-
  The law FnExactReadPoly, walked by contracts: whatever the text, it returns true and turns nothing that was there.
-/
import Derived.Test.YtfiakhhippfkaaaGreatDoorRdPolyI
namespace Go.Proofs.YtfiakhhippfkaaaGreatDoor
open Go.RowKit

set_option maxRecDepth 100000 in
theorem readPolyS_any (s : ByteArray) (w : World) (hs : s.size ≤ 1048576) :
    Calls Tryz.prog 4 #[.string s] w (GivesP (rpR s.data.toList) (rpB s.data.toList) w) := by
  have hb0 : Below w.heap.size w (w.alloc (.cells #[.slice none 0 0] 24)) := (Below.refl _ _).alloc (Nat.le_refl _) _
  have HN := l08ReadPoly_any s (w.alloc (.cells #[.slice none 0 0] 24)) hs
  generalize rpR s.data.toList = zs at *
  generalize rpB s.data.toList = b at *
  go_enter Tryz.func4, Tryz.ntmps4
  go_wp2_with fail
  (with_reducible refine HN.mono ?_)
  rintro e w1 ⟨A, c, rfl, hO, hb1⟩
  clear HN
  obtain ⟨hc, hf⟩ := bcell2 hb1
  have hz : w.heap.size < w1.heap.size := by have := hb1.size; simp at this; omega
  go_wp2
  refine bodyPost_ret (v := .tuple #[.agg #[.slice A zs.length c], .bool b]) (by simp [results, Tryz.results4, go_sem, hc]) rfl ⟨A, c, rfl, ?_, (hb0.trans (hb1.mono hb0.size)).setCell (Nat.le_refl _) _⟩
  have hO1 : Own w1 (w.heap.size + 1) w1.heap.size 42 A (cplx zs) := hO.wide (by simp) (Nat.le_refl _)
  exact (own_set hO1 _).wide (by omega) (by simp [World.setCell])

theorem below_two (w : World) (o1 o2 : Obj) : Below w.heap.size w ((w.alloc o1).alloc o2) := ((Below.refl _ _).alloc (Nat.le_refl _) _).alloc (by simp) _

theorem eqPoly_b (A A' : Option Addr) (c c' B : Nat) (l : List (Nat × Nat)) (w : World) (hr : Reads w B 1 A l.length (cplx l)) (hr' : Reads w B 1 A' l.length (cplx l)) (hB : B ≤ w.heap.size) (hw : Wids l) (hn : l.length ≤ 1048576) :
    Calls Tryz.prog 6 #[.agg #[.slice A l.length c], .agg #[.slice A' l.length c']] w fun e w' => e = .returned (.bool true) ∧ Below w.heap.size w w' := by
  have hb2 := below_two w (.cells #[.slice A l.length c] 24) (.cells #[.slice A' l.length c'] 24)
  go_enter Tryz.func6, Tryz.ntmps6
  go_wp2_with fail
  refine (eqComplex64S_b A A' c c' B l _ (hr.below (hb2.mono hB)) (hr'.below (hb2.mono hB)) hw hn).mono ?_
  rintro e w1 ⟨rfl, hb1⟩
  go_wp2_with fail
  go_ret
  exact ⟨rfl, hb2.trans (hb1.mono (by simp; omega))⟩

theorem markPoly_b (A : Option Addr) (c lo hi : Nat) (k0 : Int) (l : List (Nat × Nat)) (w : World) (ho : Own w lo hi 42 A (cplx l)) (hi2 : hi ≤ w.heap.size) (hk0 : 0 ≤ k0) (hn : k0 + (l.length : Int) < 256) :
    Calls Tryz.prog 7 #[.agg #[.slice A l.length c], .int .i64 k0] w fun e w' => e = .returned (.int .i64 (k0 + (l.length : Int))) ∧ Own w' lo hi 42 A (cplx (cmarks k0 l.length)) ∧ Kp lo hi w w' := by
  have hb2 : Below w.heap.size w (w.alloc (.cells #[.slice A l.length c] 24)) := (Below.refl _ _).alloc (Nat.le_refl _) _
  go_enter Tryz.func7, Tryz.ntmps7
  go_wp2_with fail
  refine (markComplex64S_any A c lo hi k0 l _ (ho.below hb2 hi2) hk0 hn).mono ?_
  rintro e w1 ⟨rfl, ho1, hk1⟩
  go_wp2_with fail
  go_ret
  exact ⟨rfl, ho1, (Kp.of_below hb2).trans hk1⟩

theorem heldPoly_b (A : Option Addr) (c B : Nat) (k0 : Int) (n : Nat) (w : World) (hr : Reads w B 1 A n (cplx (cmarks k0 n))) (hB : B ≤ w.heap.size) (hk0 : 0 ≤ k0) (hn : k0 + (n : Int) < 256) :
    Calls Tryz.prog 8 #[.agg #[.slice A n c], .int .i64 k0] w fun e w' => e = .returned (.int .i64 (k0 + (n : Int))) ∧ Below w.heap.size w w' := by
  have hb2 : Below w.heap.size w (w.alloc (.cells #[.slice A n c] 24)) := (Below.refl _ _).alloc (Nat.le_refl _) _
  go_enter Tryz.func8, Tryz.ntmps8
  go_wp2_with fail
  refine (heldComplex64S_b A c B k0 n _ (hr.below (hb2.mono hB)) hk0 hn).mono ?_
  rintro e w1 ⟨rfl, hb1⟩
  go_wp2_with fail
  go_ret
  exact ⟨rfl, hb2.trans (hb1.mono (by simp))⟩

theorem polyB_parts {l : List (Nat × Nat)} (h : polyB l = true) : l.length ≤ 17 ∧ l.all finCB = true := by
  unfold polyB at h
  simp only [Bool.and_eq_true, decide_eq_true_eq] at h
  exact ⟨h.1.1.2, h.1.2⟩
theorem rpR_ok (l : List UInt8) : (rpR l).length ≤ 17 ∧ (rpR l).all finCB = true := by
  unfold rpR
  split
  · rename_i h
    rw [rpB, Bool.and_eq_true] at h
    exact polyB_parts h.2
  · exact ⟨by simp, rfl⟩
theorem wids_of {l : List (Nat × Nat)} (h : l.all finCB = true) : Wids l := fun k hk => by
  have h1 := List.all_eq_true.1 h (l.getD k (0, 0)) (by rw [List.getD, List.getElem?_eq_getElem hk]; exact List.getElem_mem hk)
  unfold finCB at h1
  rw [Bool.and_eq_true] at h1
  exact ⟨fin_wide h1.1, fin_wide h1.2⟩
theorem cell_kp {lo hi b : Nat} {w w' : World} {v : Value} (h : w.cell? ⟨b, 0, none⟩ = some v) (hk : Kp lo hi w w') (hb : b < lo ∨ hi ≤ b) : w'.cell? ⟨b, 0, none⟩ = some v :=
  (World.cell?_of_block (hk.block b (World.block_lt_of_cell? w _ h) hb)).trans h
theorem cell_below {b : Nat} {w w' : World} {v : Value} (h : w.cell? ⟨b, 0, none⟩ = some v) (hb : Below w.heap.size w w') : w'.cell? ⟨b, 0, none⟩ = some v :=
  (hb.cell (World.block_lt_of_cell? w _ h)).trans h
theorem cell_new (w : World) (v : Value) (T : TypeId) : (w.alloc (.cells #[v] T)).cell? ⟨w.heap.size, 0, none⟩ = some v := by
  rw [cell_of_row _ _ 0 _ _ _ (heap_alloc_new w _)]; rfl
theorem below_new (w : World) (o : Obj) : Below w.heap.size w (w.alloc o) := (Below.refl _ _).alloc (Nat.le_refl _) _

set_option maxRecDepth 100000 in
set_option maxHeartbeats 1600000 in
theorem lawRdP (s : ByteArray) (w : World) (hs : s.size ≤ maxLen) (hsh : w.ShapedOpen Tryz.prog) (hE : ErrS w) (hT : Tz4 w) :
    Calls Tryz.prog 3 #[.string s] w fun e w' => e = .returned (.bool true) ∧ Below w.heap.size w w' := by
  unfold maxLen at hs
  by_cases hn : s.size ≤ 1048576
  · have H1 := readPolyS_any s w hn
    have H2 := fun W (hW : Below w.heap.size w W) => readPolyI_any s W (shaped_below hsh hW) (hE.on hW) (hT.on hW) hn
    obtain ⟨hl, hfin0⟩ := rpR_ok s.data.toList
    have hwid := Lib.hid (wids_of hfin0)
    clear hfin0
    clear hsh hT hE
    generalize rpR s.data.toList = zs at *
    generalize rpB s.data.toList = b at *
    go_enter Tryz.func3, Tryz.ntmps3
    go_wp2_with fail
    (with_reducible refine H1.mono ?_)
    rintro e w1 ⟨A0, c0, rfl, hO0, hb1⟩
    clear H1
    have hn1 := below_new w1 (.cells #[.slice A0 zs.length c0] 24)
    have hw1 := hb1.trans (hn1.mono hb1.size)
    have hx1 := cell_new w1 (.slice A0 zs.length c0) 24
    have hO0a := hO0.below hn1 (Nat.le_refl _)
    go_wp2_with fail
    (with_reducible refine (H2 _ hw1).mono ?_)
    rintro e w2 ⟨A1, c1, rfl, hO1, hb2⟩
    have hn2 := below_new w2 (.cells #[.slice A1 zs.length c1] 24)
    have h12 := hb2.trans (hn2.mono hb2.size)
    have hw2 := hw1.trans (h12.mono hw1.size)
    have hx2 := cell_below hx1 h12
    have hy2 := cell_new w2 (.slice A1 zs.length c1) 24
    have hO0b := hO0a.below h12 hn1.size
    have hO1b := hO1.below hn2 (Nat.le_refl _)
    have hs12 : w1.heap.size < w2.heap.size := by have := hb2.size; simp at this; omega
    have HE1 := eqPoly_b A1 A0 c1 c0 w2.heap.size zs _ (hO1b.reads' (Nat.le_refl _) (by simp)) (hO0b.reads' (by omega) (by simp)) hn2.size hwid.out (by omega)
    clear hO0 hO0a hO1 hx1 hb2
    go_wp2_with fail
    (with_reducible refine HE1.mono ?_)
    rintro e w3 ⟨rfl, hb3⟩
    clear HE1
    have hw3 := hw2.trans (hb3.mono hw2.size)
    have hx3 := cell_below hx2 hb3
    have hy3 := cell_below hy2 hb3
    have hs23 : w2.heap.size < w3.heap.size := by have := hb3.size; simp at this; omega
    have hO0c := hO0b.below hb3 (by simp; omega)
    have hO1c := hO1b.below hb3 hn2.size
    have HM := markPoly_b A1 c1 _ _ 1 zs w3 hO1c (by omega) (by omega) (by omega)
    clear hx2 hy2 hO0b hO1b
    go_wp2_with fail
    (with_reducible refine HM.mono ?_)
    rintro e w4 ⟨rfl, hO1d, hkp⟩
    clear HM
    have hx4 := cell_kp hx3 hkp (.inl (by simp))
    have hy4 := cell_kp hy3 hkp (.inr (Nat.le_refl _))
    have hO0d := hO0c.kp hkp (.inl (by simp))
    have hs34 := hkp.size
    have hw4 : Below w.heap.size w w4 := hw3.trans (hkp.below (by have := hb1.size; simp; omega) hw3.size)
    have HH := heldPoly_b A1 c1 w2.heap.size 1 zs.length w4 (hO1d.reads' (Nat.le_refl _) (by simp)) (by omega) (by omega) (by omega)
    clear hx3 hy3 hO0c hO1c hkp
    go_wp2_with fail
    (with_reducible refine HH.mono ?_)
    rintro e w5 ⟨rfl, hb5⟩
    clear HH
    have hs45 := hb5.size
    have hx5 := cell_below hx4 hb5
    have hy5 := cell_below hy4 hb5
    have hO0e := hO0d.below hb5 (by omega)
    have hO1e := hO1d.below hb5 (by omega)
    have hw5 := hw4.trans (hb5.mono hw4.size)
    clear hx4 hy4 hO0d hO1d
    go_wp2_with fail
    (with_reducible refine (H2 w5 hw5).mono ?_)
    rintro e w6 ⟨A2, c2, rfl, hO2, hb6⟩
    clear H2
    have hs56 := hb6.size
    have hn6 := below_new w6 (.cells #[.slice A2 zs.length c2] 24)
    have h56 := hb6.trans (hn6.mono hb6.size)
    have hw6 := hw5.trans (h56.mono hw5.size)
    have hx6 := cell_below hx5 h56
    have hy6 := cell_below hy5 h56
    have hz6 := cell_new w6 (.slice A2 zs.length c2) 24
    have hO0f := hO0e.below h56 (by omega)
    have hO1f := hO1e.below h56 (by omega)
    have hO2f := hO2.below hn6 (Nat.le_refl _)
    have HE2 := eqPoly_b A2 A0 c2 c0 w6.heap.size zs _ (hO2f.reads' (Nat.le_refl _) (by simp)) (hO0f.reads' (by omega) (by simp)) hn6.size hwid.out (by omega)
    clear hx5 hy5 hO0e hO1e hO2
    go_wp2_with fail
    (with_reducible refine HE2.mono ?_)
    rintro e w7 ⟨rfl, hb7⟩
    clear HE2
    have hs67 : w6.heap.size < w7.heap.size := by have := hb7.size; simp at this; omega
    have hy7 := cell_below hy6 hb7
    have hO1g := hO1f.below hb7 (by simp; omega)
    have hw7 := hw6.trans (hb7.mono hw6.size)
    have HH2 := heldPoly_b A1 c1 w2.heap.size 1 zs.length w7 (hO1g.reads' (Nat.le_refl _) (by simp)) (by omega) (by omega) (by omega)
    clear hx6 hy6 hz6 hO0f hO1f hO2f
    go_wp2_with fail
    (with_reducible refine HH2.mono ?_)
    rintro e w8 ⟨rfl, hb8⟩
    clear HH2
    have hfin := hw7.trans (hb8.mono hw7.size)
    go_wp2
    go_ret
    exact ⟨rfl, hfin⟩
  · clear hsh hT hE
    go_enter Tryz.func3, Tryz.ntmps3
    go_wp2
    go_ret
    exact ⟨rfl, Below.refl _ _⟩
end Go.Proofs.YtfiakhhippfkaaaGreatDoor
