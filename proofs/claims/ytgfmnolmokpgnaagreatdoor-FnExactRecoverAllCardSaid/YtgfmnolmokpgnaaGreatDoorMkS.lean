/-
  The law's own helpers on slices of integers, on polynomials, wholes and what is saved: comparison, marks.
-/
import Derived.Test.YtgfmnolmokpgnaaGreatDoorLoadSv
namespace Go.Proofs.YtgfmnolmokpgnaaGreatDoor
open Go.RowKit

theorem eqInt64S_same (A A' : Option Addr) (c c' B : Nat) (zs : List Int) (w : World) (hr : Reads w B 1 A zs.length (ints zs)) (hr' : Reads w B 1 A' zs.length (ints zs)) (hn : zs.length ≤ 1048576) :
    Calls Tryz.prog 40 #[.slice A zs.length c, .slice A' zs.length c'] w fun e w' => e = .returned (.bool true) ∧ ∃ n, w' = w.drewN n := by
  go_enter Tryz.func40, Tryz.ntmps40
  go_wp2
  go_loopw [5] (fun i wr => ∃ k : Nat, k ≤ zs.length ∧ i = .int .i64 k ∧ ∃ n, wr = w.drewN n) (fun i _ => zs.length - (intOf i).toNat)
  case atStart => exact ⟨0, Nat.zero_le _, rfl, 0, rfl⟩
  case round =>
    obtain ⟨k, hk, rfl, n, rfl⟩ := hrel
    by_cases hlt : k < zs.length
    · obtain ⟨ad, rfl, hab, hc1⟩ := int_at hr hlt
      obtain ⟨ad', rfl, hab', hc2⟩ := int_at hr' hlt
      clear hr hr'
      go_wp2
      go_quiet (fail)
      go_wp2
      go_roundw
      case rel => exact ⟨k + 1, by omega, by go_num, _, rfl⟩
      case measure => simp [intOf]; omega
    · have hkn : k = zs.length := by omega
      subst hkn
      go_wp2
      go_ret
      exact ⟨rfl, n, rfl⟩
/-- The numbers that mark a slice. -/
def marks (k0 : Int) (n : Nat) : List Int := (List.range n).map fun (j : Nat) => k0 + (j : Int)
@[simp] theorem marks_len (k0 : Int) (n : Nat) : (marks k0 n).length = n := by simp [marks]
theorem marks_at {k0 : Int} {n j : Nat} (h : j < n) : (marks k0 n).getD j 0 = k0 + (j : Int) := by
  simp [marks, List.getD, h]

theorem markInt64S_any (A : Option Addr) (c lo hi : Nat) (k0 : Int) (zs : List Int) (w : World) (ho : Own w lo hi 2 A (ints zs)) (hn : zs.length ≤ 1048576) (hk0 : 0 ≤ k0 ∧ k0 ≤ 4194304) :
    Calls Tryz.prog 25 #[.slice A zs.length c, .int .i64 k0] w fun e w' => e = .returned (.int .i64 (k0 + (zs.length : Int))) ∧ Own w' lo hi 2 A (ints (marks k0 zs.length)) ∧ Kp lo hi w w' := by
  by_cases hz : zs.length = 0
  · obtain rfl : zs = [] := List.eq_nil_of_length_eq_zero hz
    go_enter Tryz.func25, Tryz.ntmps25
    go_wp2
    refine wp_loop_rounds 1 ?_
    rw [rounds_succ]
    go_wp2
    go_ret
    exact ⟨by simp, .inl rfl, Kp.refl _ _ _⟩
  · rcases ho with h | ⟨g, cs0, rfl, h1, h2, h3, h4, h5⟩
    · exact absurd (by simpa [ints] using h) hz
    · rw [ints_len] at h4
      have hb0 : Blk w g 2 cs0 := h3
      clear h3 h5
      go_enter Tryz.func25, Tryz.ntmps25
      go_wp2
      go_loopw [1, 5] (fun q i wr => ∃ k : Nat, k ≤ zs.length ∧ i = .int .i64 k ∧ q = .int .i64 (k0 + (k : Int)) ∧ (∃ cs, Blk wr g 2 cs ∧ cs.size = cs0.size ∧ ∀ j, j < k → cs[j]? = some (.int .i64 (k0 + (j : Int)))) ∧ Kp lo hi w wr) (fun _ i _ => zs.length - (intOf i).toNat)
      case atStart => exact ⟨0, Nat.zero_le _, rfl, by go_num, ⟨cs0, hb0, rfl, fun j hj => by omega⟩, Kp.refl _ _ _⟩
      case round =>
        obtain ⟨k, hk, rfl, rfl, ⟨cs, hblk, hsz, hcs⟩, hkp⟩ := hrel
        by_cases hlt : k < zs.length
        · have hc2 : wr.cell? ⟨g, k, none⟩ = cs[k]? := hblk.cell k
          have hc3 := hblk.frozen k
          obtain ⟨u, hc4⟩ : ∃ u, cs[k]? = some u := ⟨cs[k]'(by omega), Array.getElem?_eq_getElem (by omega)⟩
          rw [hc4] at hc2
          have HS := Lib.hid hsz
          clear hsz hc4 hz
          have HC := Lib.hid hcs
          clear hcs
          go_wp2
          go_roundw
          case rel =>
            refine ⟨k + 1, by omega, by go_num, by go_num, ⟨_, hblk.set_ k _, by have := HS.out; simp; omega, fun j hj => ?_⟩, hkp.setCell ⟨h1, h2⟩ _⟩
            rcases Nat.lt_or_ge j k with h | h
            · rw [Array.getElem?_setIfInBounds_ne (by omega)]; exact HC.out j h
            · have : j = k := by omega
              subst this
              rw [Array.getElem?_setIfInBounds_self_of_lt (by have := HS.out; omega)]
          case measure => simp [intOf]; omega
        · have hkn : k = zs.length := by omega
          have HC : Hid (∀ j, j < zs.length → cs[j]? = some (.int .i64 (k0 + (j : Int)))) := fun j hj => hcs j (by omega)
          have HS := Lib.hid hsz
          clear hcs hsz
          subst hkn
          go_wp2
          go_ret
          refine ⟨by simp, hblk.own (by simp; have := HS.out; omega) (fun j hj => ?_) h1 h2, hkp⟩
          rw [ints_len, marks_len] at hj
          rw [HC.out j hj, ints_at (by simpa using hj), marks_at hj]

theorem heldInt64S_any (A : Option Addr) (c B : Nat) (k0 : Int) (n : Nat) (w : World) (hr : Reads w B 1 A n (ints (marks k0 n))) (hn : n ≤ 1048576) (hk0 : 0 ≤ k0 ∧ k0 ≤ 4194304) :
    Calls Tryz.prog 27 #[.slice A n c, .int .i64 k0] w fun e w' => e = .returned (.int .i64 (k0 + (n : Int))) ∧ ∃ m, w' = w.drewN m := by
  go_enter Tryz.func27, Tryz.ntmps27
  go_wp2
  go_loopw [1, 5] (fun q i wr => ∃ k : Nat, k ≤ n ∧ i = .int .i64 k ∧ q = .int .i64 (k0 + (k : Int)) ∧ ∃ m, wr = w.drewN m) (fun _ i _ => n - (intOf i).toNat)
  case atStart => exact ⟨0, Nat.zero_le _, rfl, by go_num, 0, rfl⟩
  case round =>
    obtain ⟨k, hk, rfl, rfl, m, rfl⟩ := hrel
    by_cases hlt : k < n
    · have hr2 : Reads w B 1 A (marks k0 n).length (ints (marks k0 n)) := by rw [marks_len]; exact hr
      obtain ⟨ad, rfl, hab, hc1⟩ := int_at hr2 (by rw [marks_len]; exact hlt)
      rw [marks_at hlt] at hc1
      clear hr hr2
      go_wp2
      go_roundw
      case rel => exact ⟨k + 1, by omega, by go_num, by go_num, _, rfl⟩
      case measure => simp [intOf]; omega
    · have hkn : k = n := by omega
      subst hkn
      go_wp2
      go_ret
      exact ⟨by simp, m, rfl⟩

theorem eqInt64S_b (A A' : Option Addr) (c c' B : Nat) (zs : List Int) (w : World) (hr : Reads w B 1 A zs.length (ints zs)) (hr' : Reads w B 1 A' zs.length (ints zs)) (hn : zs.length ≤ 1048576) :
    Calls Tryz.prog 40 #[.slice A zs.length c, .slice A' zs.length c'] w fun e w' => e = .returned (.bool true) ∧ Below w.heap.size w w' :=
  (eqInt64S_same A A' c c' B zs w hr hr' hn).mono fun _ _ ⟨h1, n, h2⟩ => ⟨h1, by rw [h2]; exact below_drewN (Below.refl _ _) n⟩
theorem heldInt64S_b (A : Option Addr) (c B : Nat) (k0 : Int) (n : Nat) (w : World) (hr : Reads w B 1 A n (ints (marks k0 n))) (hn : n ≤ 1048576) (hk0 : 0 ≤ k0 ∧ k0 ≤ 4194304) :
    Calls Tryz.prog 27 #[.slice A n c, .int .i64 k0] w fun e w' => e = .returned (.int .i64 (k0 + (n : Int))) ∧ Below w.heap.size w w' :=
  (heldInt64S_any A c B k0 n w hr hn hk0).mono fun _ _ ⟨h1, n, h2⟩ => ⟨h1, by rw [h2]; exact below_drewN (Below.refl _ _) n⟩

theorem below_two (w : World) (o1 o2 : Obj) : Below w.heap.size w ((w.alloc o1).alloc o2) := ((Below.refl _ _).alloc (Nat.le_refl _) _).alloc (by simp) _

theorem eqPoly_b (A A' : Option Addr) (c c' B : Nat) (l : List (Nat × Nat)) (w : World) (hr : Reads w B 1 A l.length (cplx l)) (hr' : Reads w B 1 A' l.length (cplx l)) (hB : B ≤ w.heap.size) (hw : Wids l) (hn : l.length ≤ 1048576) :
    Calls Tryz.prog 17 #[.agg #[.slice A l.length c], .agg #[.slice A' l.length c']] w fun e w' => e = .returned (.bool true) ∧ Below w.heap.size w w' := by
  have hb2 := below_two w (.cells #[.slice A l.length c] 24) (.cells #[.slice A' l.length c'] 24)
  go_enter Tryz.func17, Tryz.ntmps17
  go_wp2_with fail
  refine (eqComplex64S_b A A' c c' B l _ (hr.below (hb2.mono hB)) (hr'.below (hb2.mono hB)) hw hn).mono ?_
  rintro e w1 ⟨rfl, hb1⟩
  go_wp2_with fail
  go_ret
  exact ⟨rfl, hb2.trans (hb1.mono (by simp; omega))⟩

theorem markPoly_b (A : Option Addr) (c lo hi : Nat) (k0 : Int) (l : List (Nat × Nat)) (w : World) (ho : Own w lo hi 55 A (cplx l)) (hi2 : hi ≤ w.heap.size) (hk0 : 0 ≤ k0) (hn : k0 + (l.length : Int) < 1024) :
    Calls Tryz.prog 19 #[.agg #[.slice A l.length c], .int .i64 k0] w fun e w' => e = .returned (.int .i64 (k0 + (l.length : Int))) ∧ Own w' lo hi 55 A (cplx (cmarks k0 l.length)) ∧ Kp lo hi w w' := by
  have hb2 : Below w.heap.size w (w.alloc (.cells #[.slice A l.length c] 24)) := (Below.refl _ _).alloc (Nat.le_refl _) _
  go_enter Tryz.func19, Tryz.ntmps19
  go_wp2_with fail
  refine (markComplex64S_any A c lo hi k0 l _ (ho.below hb2 hi2) hk0 hn).mono ?_
  rintro e w1 ⟨rfl, ho1, hk1⟩
  go_wp2_with fail
  go_ret
  exact ⟨rfl, ho1, (Kp.of_below hb2).trans hk1⟩

theorem heldPoly_b (A : Option Addr) (c B : Nat) (k0 : Int) (n : Nat) (w : World) (hr : Reads w B 1 A n (cplx (cmarks k0 n))) (hB : B ≤ w.heap.size) (hk0 : 0 ≤ k0) (hn : k0 + (n : Int) < 1024) :
    Calls Tryz.prog 21 #[.agg #[.slice A n c], .int .i64 k0] w fun e w' => e = .returned (.int .i64 (k0 + (n : Int))) ∧ Below w.heap.size w w' := by
  have hb2 : Below w.heap.size w (w.alloc (.cells #[.slice A n c] 24)) := (Below.refl _ _).alloc (Nat.le_refl _) _
  go_enter Tryz.func21, Tryz.ntmps21
  go_wp2_with fail
  refine (heldComplex64S_b A c B k0 n _ (hr.below (hb2.mono hB)) hk0 hn).mono ?_
  rintro e w1 ⟨rfl, hb1⟩
  go_wp2_with fail
  go_ret
  exact ⟨rfl, hb2.trans (hb1.mono (by simp))⟩

theorem eqWhole_b (A A' : Option Addr) (c c' B : Nat) (zs : List Int) (w : World) (hr : Reads w B 1 A zs.length (ints zs)) (hr' : Reads w B 1 A' zs.length (ints zs)) (hB : B ≤ w.heap.size) (hn : zs.length ≤ 1048576) :
    Calls Tryz.prog 18 #[.agg #[.slice A zs.length c], .agg #[.slice A' zs.length c']] w fun e w' => e = .returned (.bool true) ∧ Below w.heap.size w w' := by
  have hb2 := below_two w (.cells #[.slice A zs.length c] 27) (.cells #[.slice A' zs.length c'] 27)
  go_enter Tryz.func18, Tryz.ntmps18
  go_wp2_with fail
  refine (eqInt64S_b A A' c c' B zs _ (hr.below (hb2.mono hB)) (hr'.below (hb2.mono hB)) hn).mono ?_
  rintro e w1 ⟨rfl, hb1⟩
  go_wp2_with fail
  go_ret
  exact ⟨rfl, hb2.trans (hb1.mono (by simp; omega))⟩

theorem markWhole_b (A : Option Addr) (c lo hi : Nat) (k0 : Int) (zs : List Int) (w : World) (ho : Own w lo hi 2 A (ints zs)) (hi2 : hi ≤ w.heap.size) (hk0 : 0 ≤ k0 ∧ k0 ≤ 4194304) (hn : zs.length ≤ 1048576) :
    Calls Tryz.prog 20 #[.agg #[.slice A zs.length c], .int .i64 k0] w fun e w' => e = .returned (.int .i64 (k0 + (zs.length : Int))) ∧ Own w' lo hi 2 A (ints (marks k0 zs.length)) ∧ Kp lo hi w w' := by
  have hb2 : Below w.heap.size w (w.alloc (.cells #[.slice A zs.length c] 27)) := (Below.refl _ _).alloc (Nat.le_refl _) _
  go_enter Tryz.func20, Tryz.ntmps20
  go_wp2_with fail
  refine (markInt64S_any A c lo hi k0 zs _ (ho.below hb2 hi2) hn hk0).mono ?_
  rintro e w1 ⟨rfl, ho1, hk1⟩
  go_wp2_with fail
  go_ret
  exact ⟨rfl, ho1, (Kp.of_below hb2).trans hk1⟩

theorem heldWhole_b (A : Option Addr) (c B : Nat) (k0 : Int) (n : Nat) (w : World) (hr : Reads w B 1 A n (ints (marks k0 n))) (hB : B ≤ w.heap.size) (hk0 : 0 ≤ k0 ∧ k0 ≤ 4194304) (hn : n ≤ 1048576) :
    Calls Tryz.prog 22 #[.agg #[.slice A n c], .int .i64 k0] w fun e w' => e = .returned (.int .i64 (k0 + (n : Int))) ∧ Below w.heap.size w w' := by
  have hb2 : Below w.heap.size w (w.alloc (.cells #[.slice A n c] 27)) := (Below.refl _ _).alloc (Nat.le_refl _) _
  go_enter Tryz.func22, Tryz.ntmps22
  go_wp2_with fail
  refine (heldInt64S_b A c B k0 n _ (hr.below (hb2.mono hB)) hn hk0).mono ?_
  rintro e w1 ⟨rfl, hb1⟩
  go_wp2_with fail
  go_ret
  exact ⟨rfl, hb2.trans (hb1.mono (by simp))⟩

/-- All numbers of what is saved widen, and it is small. -/
structure Fine (v : Sav) : Prop where
  w : Wids v.P
  p : v.P.length ≤ 17
  t : v.W.length ≤ 17

set_option maxRecDepth 100000 in
theorem eqSaved_b (v : Sav) (A1 A2 B1 B2 : Option Addr) (c1 c2 d1 d2 B : Nat) (w : World) (h1 : Reads w B 1 A1 v.P.length (cplx v.P)) (h2 : Reads w B 1 A2 v.W.length (ints v.W)) (g1 : Reads w B 1 B1 v.P.length (cplx v.P)) (g2 : Reads w B 1 B2 v.W.length (ints v.W)) (hB : B ≤ w.heap.size) (hf : Fine v) :
    Calls Tryz.prog 7 #[.agg #[.string (txt v.nm), .slice A1 v.P.length c1, .slice A2 v.W.length c2], .agg #[.string (txt v.nm), .slice B1 v.P.length d1, .slice B2 v.W.length d2]] w fun e w' => e = .returned (.bool true) ∧ Below w.heap.size w w' := by
  have hp := hf.p
  have ht := hf.t
  have HW := Lib.hid hf.w
  clear hf
  have hb2 := below_two w (.cells #[.string (txt v.nm), .slice A1 v.P.length c1, .slice A2 v.W.length c2] 29) (.cells #[.string (txt v.nm), .slice B1 v.P.length d1, .slice B2 v.W.length d2] 29)
  have hk1 : Blk ((w.alloc (.cells #[.string (txt v.nm), .slice A1 v.P.length c1, .slice A2 v.W.length c2] 29)).alloc (.cells #[.string (txt v.nm), .slice B1 v.P.length d1, .slice B2 v.W.length d2] 29)) w.heap.size _ _ := (Below.heap_alloc _ _ _ (by simp)).trans (heap_alloc_new w _)
  have hk2 : Blk ((w.alloc (.cells #[.string (txt v.nm), .slice A1 v.P.length c1, .slice A2 v.W.length c2] 29)).alloc (.cells #[.string (txt v.nm), .slice B1 v.P.length d1, .slice B2 v.W.length d2] 29)) (w.heap.size + 1) 29 #[.string (txt v.nm), .slice B1 v.P.length d1, .slice B2 v.W.length d2] := by
    have h := heap_alloc_new (w.alloc (.cells #[.string (txt v.nm), .slice A1 v.P.length c1, .slice A2 v.W.length c2] 29)) (.cells #[.string (txt v.nm), .slice B1 v.P.length d1, .slice B2 v.W.length d2] 29)
    unfold Blk
    rw [← h]
    simp
  have HP := eqPoly_b A1 B1 c1 d1 B v.P _ (h1.below (hb2.mono hB)) (g1.below (hb2.mono hB)) (Nat.le_trans hB hb2.size) HW.out (by omega)
  have HQ := fun W (hW : Below w.heap.size w W) => eqWhole_b A2 B2 c2 d2 B v.W W (h2.below (hW.mono hB)) (g2.below (hW.mono hB)) (Nat.le_trans hB hW.size) (by omega)
  clear h1 h2 g1 g2
  go_enter Tryz.func7, Tryz.ntmps7
  go_wp2_with fail
  (with_reducible refine HP.mono ?_)
  rintro e w1 ⟨rfl, hb1⟩
  clear HP
  have hk1' := hk1.below hb1 hk1.lt
  have hk2' := hk2.below hb1 hk2.lt
  have hw1 := hb2.trans (hb1.mono hb2.size)
  have y1 : w1.cell? ⟨w.heap.size, 2, none⟩ = _ := hk1'.cell 2
  have y2 : w1.cell? ⟨w.heap.size + 1, 2, none⟩ = _ := hk2'.cell 2
  clear hb1 hk1 hk2 hk1' hk2'
  go_wp2_with fail
  (with_reducible refine (HQ _ hw1).mono ?_)
  rintro e w2 ⟨rfl, hb2'⟩
  clear HQ
  go_wp2
  go_ret
  exact ⟨rfl, hw1.trans (hb2'.mono hw1.size)⟩

/-- What is saved, marked from 1 on. -/
def markV (v : Sav) : Sav := ⟨v.nm, cmarks 1 v.P.length, marks (1 + (v.P.length : Int)) v.W.length⟩
def ends (v : Sav) : Int := 1 + (v.P.length : Int) + (v.W.length : Int)

set_option maxRecDepth 100000 in
theorem markSaved_b (v : Sav) (A1 A2 : Option Addr) (c1 c2 lo hi : Nat) (w : World) (h : SavIn w lo hi v A1 A2) (hhi : hi ≤ w.heap.size) (hf : Fine v) :
    Calls Tryz.prog 8 #[.agg #[.string (txt v.nm), .slice A1 v.P.length c1, .slice A2 v.W.length c2], .int .i64 1] w fun e w' => e = .returned (.int .i64 (ends v)) ∧ SavIn w' lo hi (markV v) A1 A2 ∧ Kp lo hi w w' := by
  have hp := hf.p
  have ht := hf.t
  clear hf
  obtain ⟨m, k1, k2, k3, k4⟩ := h
  have hb0 : Below w.heap.size w (w.alloc (.cells #[.string (txt v.nm), .slice A1 v.P.length c1, .slice A2 v.W.length c2] 29)) := (Below.refl _ _).alloc (Nat.le_refl _) _
  have hk0 := blk_new w #[.string (txt v.nm), .slice A1 v.P.length c1, .slice A2 v.W.length c2] 29
  have HP := markPoly_b A1 c1 lo m 1 v.P _ (k3.below hb0 (by omega)) (by have := hb0.size; omega) (by omega) (by omega)
  have hO2 := k4.below hb0 hhi
  clear k3 k4
  go_enter Tryz.func8, Tryz.ntmps8
  go_wp2_with fail
  (with_reducible refine HP.mono ?_)
  rintro e w1 ⟨rfl, hO1, hkp1⟩
  clear HP
  have hk1 := hk0.kp hkp1 (.inr (by omega))
  have hO2' := hO2.kp hkp1 (.inr (Nat.le_refl _))
  have y1 : w1.cell? ⟨w.heap.size, 2, none⟩ = _ := hk1.cell 2
  have hsz1 := hkp1.size
  have HQ := markWhole_b A2 c2 m hi (1 + (v.P.length : Int)) v.W w1 hO2' (by simp at hsz1; omega) (by omega) (by omega)
  clear hO2 hO2' hk0 hk1
  go_wp2_with fail
  (with_reducible refine HQ.mono ?_)
  rintro e w2 ⟨rfl, hO3, hkp2⟩
  clear HQ
  have hO1' := hO1.kp hkp2 (.inl (Nat.le_refl _))
  have hkA : Kp lo hi (w.alloc (.cells #[.string (txt v.nm), .slice A1 v.P.length c1, .slice A2 v.W.length c2] 29)) w1 := ⟨hkp1.os, hkp1.tape, hkp1.output, hkp1.size, fun j hj hd => hkp1.block j hj (by omega)⟩
  have hkB : Kp lo hi w1 w2 := ⟨hkp2.os, hkp2.tape, hkp2.output, hkp2.size, fun j hj hd => hkp2.block j hj (by omega)⟩
  clear hkp1 hkp2 hO1
  go_wp2
  go_ret
  exact ⟨rfl, ⟨m, k1, k2, by simpa [markV] using hO1', by simpa [markV] using hO3⟩, (Kp.of_below hb0).trans (hkA.trans hkB)⟩

set_option maxRecDepth 100000 in
theorem heldSaved_b (v : Sav) (A1 A2 : Option Addr) (c1 c2 B : Nat) (w : World) (h1 : Reads w B 1 A1 v.P.length (cplx (cmarks 1 v.P.length))) (h2 : Reads w B 1 A2 v.W.length (ints (marks (1 + (v.P.length : Int)) v.W.length))) (hB : B ≤ w.heap.size) (hf : Fine v) :
    Calls Tryz.prog 9 #[.agg #[.string (txt v.nm), .slice A1 v.P.length c1, .slice A2 v.W.length c2], .int .i64 1] w fun e w' => e = .returned (.int .i64 (ends v)) ∧ Below w.heap.size w w' := by
  have hp := hf.p
  have ht := hf.t
  clear hf
  have hb0 : Below w.heap.size w (w.alloc (.cells #[.string (txt v.nm), .slice A1 v.P.length c1, .slice A2 v.W.length c2] 29)) := (Below.refl _ _).alloc (Nat.le_refl _) _
  have hk0 := blk_new w #[.string (txt v.nm), .slice A1 v.P.length c1, .slice A2 v.W.length c2] 29
  have HP := heldPoly_b A1 c1 B 1 v.P.length _ (h1.below (hb0.mono hB)) (Nat.le_trans hB hb0.size) (by omega) (by omega)
  have HQ := fun W (hW : Below w.heap.size w W) => heldWhole_b A2 c2 B (1 + (v.P.length : Int)) v.W.length W (h2.below (hW.mono hB)) (Nat.le_trans hB hW.size) (by omega) (by omega)
  have t1 : ¬ (1 + (v.P.length : Int) < 0) := by omega
  have t2 : ¬ (1 + (v.P.length : Int) + (v.W.length : Int) < 0) := by omega
  clear h1 h2
  go_enter Tryz.func9, Tryz.ntmps9
  go_wp2_with fail
  (with_reducible refine HP.mono ?_)
  rintro e w1 ⟨rfl, hb1⟩
  clear HP
  have hk1 := hk0.below hb1 hk0.lt
  have hw1 := hb0.trans (hb1.mono hb0.size)
  have y1 : w1.cell? ⟨w.heap.size, 2, none⟩ = _ := hk1.cell 2
  clear hk0 hk1 hb1
  go_wp2_with fail
  (with_reducible refine (HQ _ hw1).mono ?_)
  rintro e w2 ⟨rfl, hb2⟩
  clear HQ
  go_wp2
  go_ret
  exact ⟨rfl, hw1.trans (hb2.mono hw1.size)⟩
end Go.Proofs.YtgfmnolmokpgnaaGreatDoor
