/-
  Contract: impl.load: what bytes begin with.
-/
import Derived.Test.YtgfmnolmokpgnaaDoorLoadP
namespace Go.Proofs.YtgfmnolmokpgnaaDoor
open Go.RowKit

def GivesLd (l : List UInt8) (w : World) (e : Ending) (w' : World) : Prop :=
  ∃ A A' c c', e = .returned (.tuple #[.agg #[.string (txt (begR l).nm), .slice A (begR l).P.length c, .slice A' (begR l).W.length c'], .int .i64 (begM l : Nat), .bool (begB l)]) ∧ SavIn w' w.heap.size w'.heap.size (begR l) A A' ∧ Below w.heap.size w w'
theorem ld_no {l : List UInt8} {w w' : World} (h : begB l = false) (hb : Below w.heap.size w w') :
    GivesLd l w (.returned (.tuple #[.agg #[.string ⟨#[]⟩, .slice none 0 0, .slice none 0 0], .int .i64 0, .bool false])) w' := by
  have h1 : begR l = ⟨[], [], []⟩ := by rw [begR, h]; rfl
  have h2 : begM l = 0 := by rw [begM, h]; rfl
  unfold GivesLd
  rw [h1, h2, h]
  exact ⟨none, none, 0, 0, rfl, ⟨w.heap.size, Nat.le_refl _, hb.size, .inl rfl, .inl rfl⟩, hb⟩
theorem ld_yes {l : List UInt8} {w w' : World} {A A' : Option Addr} {c c' n m : Nat} {q : Int} {nm : List UInt8} {P : List (Nat × Nat)} {W : List Int} (h : begB l = true) (hv : begV l = ⟨nm, P, W⟩) (hP : P.length = n) (hW : W.length = m) (hq : ((nC l + 2 : Nat) : Int) = q)
    (hs : SavIn w' w.heap.size w'.heap.size ⟨nm, P, W⟩ A A') (hb : Below w.heap.size w w') : GivesLd l w (.returned (.tuple #[.agg #[.string (txt nm), .slice A n c, .slice A' m c'], .int .i64 q, .bool true])) w' := by
  have h1 : begR l = ⟨nm, P, W⟩ := by rw [begR, h]; exact hv
  have h2 : begM l = nC l + 2 := by rw [begM, h]; rfl
  subst hP hW hq
  unfold GivesLd
  rw [h1, h2, h]
  exact ⟨A, A', c, c', rfl, hs, hb⟩

theorem clone_any (s : ByteArray) (w : World) (hs : s.size ≤ 1048576) :
    Calls Tryd.prog 36 #[.string s] w fun e w' => e = .returned (.string s) ∧ Below w.heap.size w w' := by
  have H := fun W => Tryd.stringslite_Clone s W (by omega)
  go_enter Tryd.func36, Tryd.ntmps36
  go_wp2_with fail
  (with_reducible refine (H _).mono ?_)
  rintro e w1 ⟨rfl, hb⟩
  go_wp2
  go_ret
  exact ⟨rfl, hb⟩

theorem tk4 (g : Nat) (r : List UInt8) (b : Bool) (w : World) (h : Ldr w g r b) :
    Calls Tryd.prog 35 #[.pointer (some ⟨g, 0, none⟩), .int .i64 4] w fun e w' => e = .returned (.string (txt (tkV r 4))) ∧ Ldr w' g (tkR r 4) (tkB r 4 b) ∧ Kp g (g + 1) w w' := take_any g 4 r b w h (by omega)
theorem tk2 (g : Nat) (r : List UInt8) (b : Bool) (w : World) (h : Ldr w g r b) :
    Calls Tryd.prog 35 #[.pointer (some ⟨g, 0, none⟩), .int .i64 2] w fun e w' => e = .returned (.string (txt (tkV r 2))) ∧ Ldr w' g (tkR r 2) (tkB r 2 b) ∧ Kp g (g + 1) w w' := take_any g 2 r b w h (by omega)
theorem nm1 (g : Nat) (r : List UInt8) (b : Bool) (w : World) (h : Ldr w g r b) :
    Calls Tryd.prog 37 #[.pointer (some ⟨g, 0, none⟩), .int .i64 1] w fun e w' => e = .returned (.int .i64 (leV (tkV r 1) : Nat)) ∧ Ldr w' g (tkR r 1) (tkB r 1 b) ∧ Kp g (g + 1) w w' := number_any g 1 r b w h (by omega)
theorem nm4 (g : Nat) (r : List UInt8) (b : Bool) (w : World) (h : Ldr w g r b) :
    Calls Tryd.prog 37 #[.pointer (some ⟨g, 0, none⟩), .int .i64 4] w fun e w' => e = .returned (.int .i64 (leV (tkV r 4) : Nat)) ∧ Ldr w' g (tkR r 4) (tkB r 4 b) ∧ Kp g (g + 1) w w' := number_any g 4 r b w h (by omega)

set_option maxRecDepth 100000 in
set_option maxHeartbeats 1600000 in
theorem load_any (s : ByteArray) (w : World) (hn : s.size ≤ 1048576) :
    Calls Tryd.prog 19 #[.string s] w (GivesLd s.data.toList w) := by
  have hz : s.data.toList.length = s.size := (Lib.size_eq s).symm
  have HZ := Lib.hid hz
  have hS : txt s.data.toList = s := txt_of s
  have hb0 : Below w.heap.size w ((w.alloc (.cells #[.string ⟨#[]⟩, .slice none 0 0, .slice none 0 0] 36)).alloc (.cells #[.string s, .bool false] 83)) := ((Below.refl _ _).alloc (Nat.le_refl _) _).alloc (by simp) _
  have hB0 : Blk ((w.alloc (.cells #[.string ⟨#[]⟩, .slice none 0 0, .slice none 0 0] 36)).alloc (.cells #[.string s, .bool false] 83)) w.heap.size 36 #[.string ⟨#[]⟩, .slice none 0 0, .slice none 0 0] := (Below.heap_alloc _ _ _ (by simp)).trans (heap_alloc_new w _)
  have hL0 : Ldr ((w.alloc (.cells #[.string ⟨#[]⟩, .slice none 0 0, .slice none 0 0] 36)).alloc (.cells #[.string s, .bool false] 83)) (w.heap.size + 1) s.data.toList false := by
    have h := heap_alloc_new (w.alloc (.cells #[.string ⟨#[]⟩, .slice none 0 0, .slice none 0 0] 36)) (.cells #[.string s, .bool false] 83)
    unfold Ldr Blk
    rw [hS, ← h]
    simp
  have hS0 := St.start s.data.toList
  have HT := tk4 _ _ _ _ hL0
  clear hz hS hL0
  go_enter Tryd.func19, Tryd.ntmps19
  go_wp2_with fail
  (with_reducible refine HT.mono ?_)
  rintro e w1 ⟨rfl, hL1, hk1⟩
  clear HT
  have hB1 := hB0.kp hk1 (.inl (by omega))
  have hb1 := hb0.trans (hk1.below (by omega) (by simp; omega))
  have hS1 : St s.data.toList 4 _ _ := hS0.take (m := 4) (fun _ h => longB_no1 (by omega))
  clear hB0 hb0 hk1 hS0
  generalize tkR s.data.toList 4 = r1 at *
  generalize tkB s.data.toList 4 false = b1 at *
  have HT := nm1 _ _ _ _ hL1
  go_wp2_with fail
  (with_reducible refine HT.mono ?_)
  rintro e w2 ⟨rfl, hL2, hk2⟩
  clear HT hL1
  have hB2 := hB1.kp hk2 (.inl (by omega))
  have hb2 := hb1.trans (hk2.below (by omega) hb1.size)
  have hS2 : St s.data.toList 5 _ _ := hS1.take (m := 1) (fun _ h => longB_no1 (by omega))
  have HM : Hid (tkB r1 1 b1 = false → leV (tkV r1 1) = at1 s.data.toList 4) := hS1.one
  have hm := one_lt r1
  clear hB1 hb1 hk2 hS1
  generalize leV (tkV r1 1) = m at *
  generalize tkR r1 1 = r2 at *
  generalize tkB r1 1 b1 = b2 at *
  have HT := take_any _ m _ _ _ hL2 (by omega)
  go_wp2_with fail
  (with_reducible refine HT.mono ?_)
  rintro e w3 ⟨rfl, hL3, hk3⟩
  clear HT hL2
  have hB3 := hB2.kp hk3 (.inl (by omega))
  have hb3 := hb2.trans (hk3.below (by omega) hb2.size)
  have hS3 : St s.data.toList (nA s.data.toList) (tkR r2 m) (tkB r2 m b2) := (hS2.take (m := m) (fun hb h => longB_no2 (by rw [nA, ← HM.out hb]; omega))).pos (fun hb => by rw [nA, ← HM.out (tkB_no hb).1])
  have HNM : Hid (tkB r2 m b2 = false → tkV r2 m = (s.data.toList.drop 5).take (at1 s.data.toList 4)) := fun hb => by rw [hS2.val hb, HM.out (tkB_no hb).1]
  have hml := tkV_len r2 m
  have hml2 : (txt (tkV r2 m)).size ≤ 1048576 := by rw [txt_size, hml]; omega
  clear hB2 hb2 hk3 hS2 HM hml
  generalize tkV r2 m = nm at *
  generalize tkR r2 m = r3 at *
  generalize tkB r2 m b2 = b3 at *
  have HT := clone_any _ w3 hml2
  go_wp2_with fail
  (with_reducible refine HT.mono ?_)
  rintro e w4 ⟨rfl, hb4'⟩
  clear HT hml2
  have hB4 := hB3.below hb4' hB3.lt
  have hb4 := hb3.trans (hb4'.mono hb3.size)
  have hL4 : Ldr w4 _ _ _ := hL3.below hb4' hL3.lt
  clear hB3 hb3 hL3 hb4'
  have hlt4 : w.heap.size + 1 < w4.heap.size := hL4.lt
  have hB5 : Blk (w4.alloc (.cells #[.string (txt nm), .slice none 0 0, .slice none 0 0] 36)) w.heap.size _ _ := (Below.heap_alloc _ _ _ hB4.lt).trans hB4
  have hL5 : Ldr (w4.alloc (.cells #[.string (txt nm), .slice none 0 0, .slice none 0 0] 36)) (w.heap.size + 1) r3 b3 := (Below.heap_alloc _ _ _ hlt4).trans hL4
  have hO5 := blk_new w4 #[.string (txt nm), .slice none 0 0, .slice none 0 0] 36
  have hb5 := hb4.alloc hb4.size (.cells #[.string (txt nm), .slice none 0 0, .slice none 0 0] 36)
  have HT := nm1 _ _ _ _ hL5
  clear hB4 hb4 hL4
  obtain ⟨N, hN⟩ : ∃ N, w4.heap.size = N := ⟨_, rfl⟩
  have hsz5 : N + 1 ≤ (w4.alloc (.cells #[.string (txt nm), .slice none 0 0, .slice none 0 0] 36)).heap.size := by simp; omega
  rw [hN] at hO5 hlt4
  go_wp2_with fail
  (with_reducible refine HT.mono ?_)
  rintro e w6 ⟨rfl, hL6, hk6⟩
  clear HT hL5
  have hB6 := hB5.kp hk6 (.inl (by omega))
  have hO6 := hO5.kp hk6 (.inr (by omega))
  have hb6 := hb5.trans (hk6.below (by omega) hb5.size)
  have hsz6 := Nat.le_trans hsz5 hk6.size
  have hS6 : St s.data.toList (nA s.data.toList + 1) _ _ := hS3.take (m := 1) (fun _ h => longB_no2 (by omega))
  have HN : Hid (tkB r3 1 b3 = false → leV (tkV r3 1) = at1 s.data.toList (nA s.data.toList)) := hS3.one
  have HNM6 : Hid (tkB r3 1 b3 = false → nm = (s.data.toList.drop 5).take (at1 s.data.toList 4)) := fun hb => HNM.out (tkB_no hb).1
  have hnn := one_lt r3
  clear hB5 hO5 hb5 hk6 hS3 hsz5 HNM
  generalize leV (tkV r3 1) = nn at *
  generalize tkR r3 1 = r4 at *
  generalize tkB r3 1 b3 = b4 at *
  obtain ⟨i0, hi, hz0, hz1, hz2⟩ := info_parts infoC
  go_wp2
  go_loopw [7, 8, 9, 10, 20] (fun _ _ _ _ i wr => ∃ k, ∃ r b P A c, k ≤ nn ∧ i = .int .i64 ((k : Nat) : Int) ∧ Ldr wr (w.heap.size + 1) r b ∧ Hid (St s.data.toList (nA s.data.toList + 1 + 8 * k) r b) ∧ Hid (b = false → P = rdP s.data.toList (nA s.data.toList + 1) k ∧ nn = at1 s.data.toList (nA s.data.toList) ∧ nm = (s.data.toList.drop 5).take (at1 s.data.toList 4)) ∧ Hid (P.length = k) ∧ Hid (∀ j, j < P.length → (P.getD j (0, 0)).1 < 4294967296 ∧ (P.getD j (0, 0)).2 < 4294967296) ∧ Blk wr w.heap.size 36 #[.string ⟨#[]⟩, .slice none 0 0, .slice none 0 0] ∧ Blk wr N 36 #[.string (txt nm), .slice A k c, .slice none 0 0] ∧ wr.ownsRow (N + 1) 76 1 (.slice A k c) k (cplx P) ∧ Below w.heap.size w wr ∧ N + 1 ≤ wr.heap.size) (fun _ _ _ _ i _ => nn - (intOf i).toNat)
  case atStart => exact ⟨0, r4, b4, [], none, 0, Nat.zero_le _, rfl, hL6, hS6, fun hb => ⟨rfl, HN.out hb, HNM6.out hb⟩, rfl, fun j hj => by simp at hj, hB6, hO6, World.ownsRow_nil _ _ _ _, hb6, hsz6⟩
  case round =>
    obtain ⟨k, r, b, P, A, c, hk, rfl, hL, hS, hP, hPl, hPb, hB, hO, hown, hbr, hsz⟩ := hrel
    clear hL6 hS6 HN HNM6 hB6 hO6 hb6 hsz6
    by_cases hlt : k < nn
    · have HT := nm4 _ _ _ _ hL
      have hx := four_lt r
      go_wp2_with fail
      (with_reducible refine HT.mono ?_)
      rintro e w7 ⟨rfl, hL7, hk7⟩
      clear HT hL
      have hB7 := hB.kp hk7 (.inl (by omega))
      have hO7 := hO.kp hk7 (.inr (by omega))
      have hown7 := ownsRow_kp hown hk7 (by omega)
      have hb7 := hbr.trans (hk7.below (by omega) hbr.size)
      have hsz7 := Nat.le_trans hsz hk7.size
      have hS7 : Hid (St s.data.toList (nA s.data.toList + 1 + 8 * k + 4) (tkR r 4) (tkB r 4 b)) := hS.out.take (m := 4) (fun hb h => longB_no3 (by have := (hP.out hb).2.1; unfold nB; omega))
      have HX : Hid (tkB r 4 b = false → leV (tkV r 4) = rd4 s.data.toList (nA s.data.toList + 1 + 8 * k)) := hS.out.four
      have hP7 : Hid (tkB r 4 b = false → P = rdP s.data.toList (nA s.data.toList + 1) k ∧ nn = at1 s.data.toList (nA s.data.toList) ∧ nm = (s.data.toList.drop 5).take (at1 s.data.toList 4)) := fun hb => hP.out (tkB_no hb).1
      clear hB hO hown hbr hsz hS hP hk7
      generalize leV (tkV r 4) = x at *
      generalize tkR r 4 = r7 at *
      generalize tkB r 4 b = b7 at *
      have HF := fun W => fromBitsI_any x hx W
      have HXB := Lib.hid hx
      clear hx
      go_wp2_with fail
      (with_reducible refine (HF _).mono ?_)
      rintro e w8 ⟨rfl, rfl⟩
      clear HF
      have HT := nm4 _ _ _ _ hL7
      have hy := four_lt r7
      go_wp2_with fail
      (with_reducible refine HT.mono ?_)
      rintro e w9 ⟨rfl, hL9, hk9⟩
      clear HT hL7
      have hB9 := hB7.kp hk9 (.inl (by omega))
      have hO9 := hO7.kp hk9 (.inr (by omega))
      have hown9 := ownsRow_kp hown7 hk9 (by omega)
      have hb9 := hb7.trans (hk9.below (by omega) hb7.size)
      have hsz9 := Nat.le_trans hsz7 hk9.size
      have hS9 : Hid (St s.data.toList (nA s.data.toList + 1 + 8 * (k + 1)) (tkR r7 4) (tkB r7 4 b7)) := (hS7.out.take (m := 4) (fun hb h => longB_no3 (by have := (hP7.out hb).2.1; unfold nB; omega))).pos (fun _ => by omega)
      have HY : Hid (tkB r7 4 b7 = false → leV (tkV r7 4) = rd4 s.data.toList (nA s.data.toList + 1 + 8 * k + 4)) := hS7.out.four
      have hP9 : Hid (tkB r7 4 b7 = false → P ++ [(x, leV (tkV r7 4))] = rdP s.data.toList (nA s.data.toList + 1) (k + 1) ∧ nn = at1 s.data.toList (nA s.data.toList) ∧ nm = (s.data.toList.drop 5).take (at1 s.data.toList 4)) := fun hb => by
        obtain ⟨h1, h2, h3⟩ := hP7.out (tkB_no hb).1
        exact ⟨by rw [rdP_snoc, h1, HX.out (tkB_no hb).1, HY.out hb], h2, h3⟩
      clear hB7 hO7 hown7 hb7 hsz7 hS7 hP7 hk9 HX HY
      generalize leV (tkV r7 4) = y at *
      generalize tkR r7 4 = r9 at *
      generalize tkB r7 4 b7 = b9 at *
      have HF := fun W => fromBitsI_any y hy W
      have HYB := Lib.hid hy
      clear hy
      go_wp2_with fail
      (with_reducible refine (HF _).mono ?_)
      rintro e w10 ⟨rfl, rfl⟩
      clear HF
      have c1 : w9.cell? ⟨N, 1, none⟩ = some (.slice A k c) := hO9.cell 1
      have hPb9 : Hid (∀ j, j < (P ++ [(x, y)]).length → ((P ++ [(x, y)]).getD j (0, 0)).1 < 4294967296 ∧ ((P ++ [(x, y)]).getD j (0, 0)).2 < 4294967296) := fun j hj => by
        rcases Nat.lt_or_ge j P.length with h | h
        · have := hPb.out j h
          simpa [List.getD, List.getElem?_append_left h] using this
        · have hj2 : j = P.length := by rw [List.length_append, List.length_singleton] at hj; omega
          subst hj2
          simp [List.getD, HXB.out, HYB.out]
      go_wp2_with (at_builtin; refine wpList_append_any _ rfl (.tmp 34) (.tmp 38) _ rfl (N + 1) 76 i0 _ 1 8 Tryd.underlying29 hi hz0 hz1 hz2 rfl (by omega) (.slice A k c) k _ rfl (hown9.alloc _) (w9.heap.size + 1) (some ⟨w9.heap.size, 0, none⟩) 1 1 [.complex .f32 x y] rfl (reads_new w9 [_] _) (one_cx x y) (by simp only [maxLen]; omega) (by omega) (by simp; omega) ?_; intro v11 w11 hown11 hg11 hat11; have hb11' : Below (N + 1) w9 w11 := ((Below.refl _ _).alloc (by omega) _).grown hg11 (by simp; omega) (fun j hj => (hown9.lt j hj).1); have hB11 := hB9.below hb11' (by omega); have hO11 := hO9.below hb11' (by omega); have hL11 : Ldr w11 _ _ _ := hL9.below hb11' (by omega); have hb11 := hb9.trans (hb11'.mono (by omega)); have hsz11 := Nat.le_trans hsz9 hb11'.size; clear hg11 hat11 hown9 c1 hB9 hO9 hL9; obtain ⟨A11, c11, rfl, -, -, -⟩ := Own.of_row hown11 (Nat.le_refl _); have f1 := hO11.frozen 1; have c1 : w11.cell? ⟨N, 1, none⟩ = _ := hO11.cell 1)
      have hrel : cplx P ++ [.complex .f32 x y] = cplx (P ++ [(x, y)]) := by simp [cplx]
      rw [hrel] at hown11
      clear hrel
      have HPL : Hid ((P ++ [(x, y)]).length = k + 1) := by show _ = _; rw [List.length_append, hPl.out]; rfl
      go_roundw
      case rel => exact ⟨k + 1, r9, b9, P ++ [(x, y)], A11, c11, by omega, by go_num, Blk.set_ne hL11 (by omega) _, hS9, hP9, HPL, hPb9, hB11.set_ne (by omega) _, hO11.set_ 1 _, row_set hown11 _, hb11.setCell (by simp; omega) _, by simpa [World.setCell] using hsz11⟩
      case measure => simp [intOf]; omega
    · obtain rfl : k = nn := by omega
      have HT := nm1 _ _ _ _ hL
      go_wp2_with fail
      (with_reducible refine HT.mono ?_)
      rintro e w7 ⟨rfl, hL7, hk7⟩
      clear HT hL hlt hk
      have hB7 := hB.kp hk7 (.inl (by omega))
      have hO7 := hO.kp hk7 (.inr (by omega))
      have hown7 := ownsRow_kp hown hk7 (by omega)
      have hb7 := hbr.trans (hk7.below (by omega) hbr.size)
      have hsz7 := Nat.le_trans hsz hk7.size
      have hS7 : Hid (St s.data.toList (nB s.data.toList + 1) (tkR r 1) (tkB r 1 b)) := (hS.out.take (m := 1) (fun hb h => longB_no3 (by have := (hP.out hb).2.1; unfold nB; omega))).pos (fun hb => by have := (hP.out (tkB_no hb).1).2.1; unfold nB; omega)
      have HX : Hid (tkB r 1 b = false → leV (tkV r 1) = at1 s.data.toList (nB s.data.toList)) := fun hb => by
        have h1 := (hP.out (tkB_no hb).1).2.1
        have h2 := hS.out.one hb
        have h3 : nA s.data.toList + 1 + 8 * k = nB s.data.toList := by unfold nB; omega
        rw [h3] at h2
        exact h2
      have hP7 : Hid (tkB r 1 b = false → P = rdP s.data.toList (nA s.data.toList + 1) (at1 s.data.toList (nA s.data.toList)) ∧ nm = (s.data.toList.drop 5).take (at1 s.data.toList 4)) := fun hb => by
        obtain ⟨h1, h2, h3⟩ := hP.out (tkB_no hb).1
        exact ⟨by rw [h1, ← h2], h3⟩
      have hmm := one_lt r
      clear hB hO hown hbr hsz hS hP hk7
      generalize leV (tkV r 1) = mm at *
      generalize tkR r 1 = r7 at *
      generalize tkB r 1 b = b7 at *
      obtain ⟨j0, gi, gz0, gz1, gz2⟩ := info_parts info2
      obtain ⟨A', c', e', -, -, hOP⟩ := Own.of_row hown7 (Nat.le_refl _)
      cases e'
      clear hown7
      obtain ⟨M, hM⟩ : ∃ M, w7.heap.size = M := ⟨_, rfl⟩
      rw [hM] at hOP hsz7
      go_wp2
      go_loopw [44] (fun i wr => ∃ k2, ∃ r b W A2 c2, k2 ≤ mm ∧ i = .int .i64 ((k2 : Nat) : Int) ∧ Ldr wr (w.heap.size + 1) r b ∧ Hid (St s.data.toList (nB s.data.toList + 1 + 4 * k2) r b) ∧ Hid (b = false → W = rdW s.data.toList (nB s.data.toList + 1) k2 ∧ mm = at1 s.data.toList (nB s.data.toList) ∧ P = rdP s.data.toList (nA s.data.toList + 1) (at1 s.data.toList (nA s.data.toList)) ∧ nm = (s.data.toList.drop 5).take (at1 s.data.toList 4)) ∧ Hid (W.length = k2) ∧ Blk wr w.heap.size 36 #[.string ⟨#[]⟩, .slice none 0 0, .slice none 0 0] ∧ Blk wr N 36 #[.string (txt nm), .slice A k c, .slice A2 k2 c2] ∧ Own wr (N + 1) M 76 A (cplx P) ∧ wr.ownsRow M 2 1 (.slice A2 k2 c2) k2 (ints W) ∧ Below w.heap.size w wr ∧ M ≤ wr.heap.size) (fun i _ => mm - (intOf i).toNat)
      case atStart => exact ⟨0, r7, b7, [], none, 0, Nat.zero_le _, rfl, hL7, hS7, fun hb => ⟨rfl, HX.out hb, hP7.out hb⟩, rfl, hB7, hO7, hOP, World.ownsRow_nil _ _ _ _, hb7, by omega⟩
      case round =>
        obtain ⟨k2, r, b, W, A2, c2, hk2, rfl, hL, hS, hP, hWl, hB, hO, hOP, hown, hbr, hsz⟩ := hrel
        clear hL7 hS7 hP7 HX hB7 hO7 hb7
        by_cases hlt2 : k2 < mm
        · have HT := nm4 (w.heap.size + 1) r b wr.drew hL
          have hx := four_lt r
          have hS7 : Hid (St s.data.toList (nB s.data.toList + 1 + 4 * (k2 + 1)) (tkR r 4) (tkB r 4 b)) := (hS.out.take (m := 4) (fun hb h => longB_no4 (by have := (hP.out hb).2.1; unfold nC; omega))).pos (fun _ => by omega)
          have HXX : Hid (tkB r 4 b = false → leV (tkV r 4) = rd4 s.data.toList (nB s.data.toList + 1 + 4 * k2)) := hS.out.four
          have hP7 : Hid (tkB r 4 b = false → W ++ [(leV (tkV r 4) : Int) - 2147483648] = rdW s.data.toList (nB s.data.toList + 1) (k2 + 1) ∧ mm = at1 s.data.toList (nB s.data.toList) ∧ P = rdP s.data.toList (nA s.data.toList + 1) (at1 s.data.toList (nA s.data.toList)) ∧ nm = (s.data.toList.drop 5).take (at1 s.data.toList 4)) := fun hb => by
            obtain ⟨h1, h2⟩ := hP.out (tkB_no hb).1
            exact ⟨by rw [rdW_snoc, h1, HXX.out hb], h2⟩
          clear hS hP HXX
          generalize leV (tkV r 4) = x at *
          generalize tkR r 4 = r8 at *
          generalize tkB r 4 b = b8 at *
          have hxw : IntKind.i64.wrap ((x : Int) - 2147483648) = (x : Int) - 2147483648 := IntWalk.i64_in _ (by omega)
          clear hx
          have c1 : wr.cell? ⟨N, 2, none⟩ = some (.slice A2 k2 c2) := hO.cell 2
          go_wp2_with fail
          go_region_law (first | (go_simp; go_at_call 37; (with_reducible refine HT.mono ?_); rintro e w5 ⟨rfl, hL5, hk5⟩; have hB5 := Blk.kp (w := wr.drew) hB hk5 (.inl (by omega)); have hO5 := Blk.kp (w := wr.drew) hO hk5 (.inr (by omega)); have hOP5 := Own.kp (w := wr.drew) hOP hk5 (.inr (by omega)); have hown5 := ownsRow_kp (w := wr.drew) hown hk5 (by omega); have hb5 := (below_drew hbr).trans (hk5.below (by omega) hbr.size); have HM5 : Hid (M ≤ w5.heap.size) := Nat.le_trans hsz hk5.size; have c3 : w5.cell? ⟨N, 2, none⟩ = some (.slice A2 k2 c2) := hO5.cell 2; have c4 : ∀ o : Obj, (w5.alloc o).cell? ⟨N, 2, none⟩ = some (.slice A2 k2 c2) := (fun o => (show Blk (w5.alloc o) _ _ _ from (Below.heap_alloc _ _ _ hO5.lt).trans hO5).cell 2); clear hk5) | (refine step_append_any _ rfl (.tmp 48) (.tmp 51) _ rfl M 2 j0 _ 1 8 Tryd.underlying32 gi gz0 gz1 gz2 rfl (by omega) (.slice A2 k2 c2) k2 _ rfl (hown5.alloc _) (w5.heap.size + 1) (some ⟨w5.heap.size, 0, none⟩) 1 1 [.int .i64 ((x : Int) - 2147483648)] rfl (reads_new w5 [_] _) (one_int _) (by simp only [maxLen]; omega) (by omega) (by simp; have := HM5.out; omega) ?_; intro v7 w8 hown8 hg8 hat8; have hb8' : Below M w5 w8 := ((Below.refl _ _).alloc HM5.out _).grown hg8 (by simp; have := HM5.out; omega) (fun j hj => (hown5.lt j hj).1); have hB8 := hB5.below hb8' (by omega); have hO8 := hO5.below hb8' (by omega); have hL8 : Ldr w8 _ _ _ := hL5.below hb8' (by omega); have hb8 := hb5.trans (hb8'.mono (by omega)); have hOP8 := hOP5.below hb8' (Nat.le_refl _); have HM8 : Hid (M ≤ w8.heap.size) := Nat.le_trans HM5.out hb8'.size; clear hg8 hat8; obtain ⟨A8, c8, rfl, -, -, -⟩ := Own.of_row hown8 (Nat.le_refl _); have f8 := hO8.frozen 2; have c8' : w8.cell? ⟨N, 2, none⟩ = _ := hO8.cell 2))
          all_goals
            have hrel : ints W ++ [.int .i64 ((x : Int) - 2147483648)] = ints (W ++ [(x : Int) - 2147483648]) := by simp [ints]
            rw [hrel] at hown8
            have HWL : Hid ((W ++ [(x : Int) - 2147483648]).length = k2 + 1) := by show _ = _; rw [List.length_append, hWl.out]; rfl
            have hM8 := HM8.out
            clear hrel hown5 hB5 hO5 hL5 c3 c4 c1 hOP5 hown hB hO hOP hb8' HT hL
            go_wp2
            go_roundw
            case rel => exact ⟨k2 + 1, r8, b8, W ++ [(x : Int) - 2147483648], A8, c8, by omega, by go_num, Blk.set_ne hL8 (by omega) _, hS7, hP7, HWL, hB8.set_ne (by omega) _, hO8.set_ 2 _, own_setL hOP8 (by omega) _, ownsRow_kp hown8 ((Kp.refl N (N + 1) w8).setCell ⟨Nat.le_refl _, by simp⟩ _) (by omega), hb8.setCell (by simp; omega) _, by simpa [World.setCell] using hM8⟩
            case measure => simp [intOf]; omega
        · obtain rfl : k2 = mm := by omega
          have HT := tk2 _ _ _ _ hL
          go_wp2_with fail
          (with_reducible refine HT.mono ?_)
          rintro e w9 ⟨rfl, hL9, hk9⟩
          clear HT hL hlt2 hk2
          have hB9 := hB.kp hk9 (.inl (by omega))
          have hO9 := hO.kp hk9 (.inr (by omega))
          have hOP9 := hOP.kp hk9 (.inr (by omega))
          have hown9 := ownsRow_kp hown hk9 (by omega)
          have hb9 := hbr.trans (hk9.below (by omega) hbr.size)
          have hsz9 := Nat.le_trans hsz hk9.size
          have hS9 : Hid (St s.data.toList (nC s.data.toList + 2) (tkR r 2) (tkB r 2 b)) := (hS.out.take (m := 2) (fun hb h => longB_no4 (by have := (hP.out hb).2.1; unfold nC; omega))).pos (fun hb => by have := (hP.out (tkB_no hb).1).2.1; unfold nC; omega)
          have hP9 : Hid (tkB r 2 b = false → begV s.data.toList = ⟨nm, P, W⟩) := fun hb => by
            obtain ⟨h1, h2, h3, h4⟩ := hP.out (tkB_no hb).1
            rw [begV, h1, h3, h4, ← h2]
          obtain ⟨A', c', e', -, -, hOW⟩ := Own.of_row hown9 (Nat.le_refl _)
          cases e'
          clear hB hO hOP hown hown9 hbr hsz hS hP hk9
          generalize tkR r 2 = r9 at *
          generalize tkB r 2 b = b9 at *
          have l1 : w9.cell? ⟨w.heap.size + 1, 1, none⟩ = some (.bool b9) := hL9.cell 1
          have z1 : w9.cell? ⟨w.heap.size, 0, none⟩ = _ := hB9.cell 0
          have z2 : w9.cell? ⟨w.heap.size, 1, none⟩ = _ := hB9.cell 1
          have z3 : w9.cell? ⟨w.heap.size, 2, none⟩ = _ := hB9.cell 2
          have f1 := hB9.frozen 0
          have f2 := hB9.frozen 1
          have f3 := hB9.frozen 2
          cases b9 with
          | true =>
            have HN := Lib.hid (begB_no hS9.out.bad)
            clear hS9 hP9 hL9
            go_wp2
            refine bodyPost_ret (v := .tuple #[.agg #[.string ⟨#[]⟩, .slice none 0 0, .slice none 0 0], .int .i64 0, .bool false]) (by simp [results, Tryd.results19, go_sem, z1, z2, z3]) rfl (ld_no HN.out ?_)
            exact (((hb9.setCell (Nat.le_refl _) _).setCell (Nat.le_refl _) _).setCell (Nat.le_refl _) _)
          | false =>
            have HV : Hid (begV s.data.toList = ⟨nm, P, W⟩) := hP9.out rfl
            have hat := hS9.out.at_
            have HLG : Hid (longB s.data.toList = true) := by
              have h1 : nB s.data.toList + 1 ≤ nC s.data.toList := by unfold nC; omega
              have h2 : nA s.data.toList + 1 ≤ nB s.data.toList := by unfold nB; omega
              exact longB_yes (by omega) (by omega) hat
            clear hS9 hP9 hat
            have hnml : nm.length ≤ 1048576 := by
              have h : nm = (begV s.data.toList).nm := by rw [HV.out]
              rw [h, begV, List.length_take, List.length_drop, HZ.out]; omega
            have HVS := validSaved_any ⟨nm, P, W⟩ A A2 c c2 w9.heap.size w9 (hOP9.reads' hsz9 (by simp)) (hOW.reads' (Nat.le_refl _) (by simp)) (Nat.le_refl _) hnml (by rw [hPl.out]; omega) (by rw [hWl.out]; omega)
            simp only [hPl.out, hWl.out] at HVS
            have y1 : w9.cell? ⟨N, 0, none⟩ = _ := hO9.cell 0
            have y2 : w9.cell? ⟨N, 1, none⟩ = _ := hO9.cell 1
            have y3 : w9.cell? ⟨N, 2, none⟩ = _ := hO9.cell 2
            cases hsb : savB ⟨nm, P, W⟩ with
            | false =>
              have HN := Lib.hid (begB_no2 (l := s.data.toList) (by rw [HV.out]; exact hsb))
              simp only [hsb] at HVS
              clear hsb hL9 hnml z1 z2 z3 f1 f2 f3
              go_wp2_with fail
              (with_reducible refine HVS.mono ?_)
              rintro e w10 ⟨rfl, hb10'⟩
              clear HVS
              have hb10 := hb9.trans (hb10'.mono hb9.size)
              have hB10 := hB9.below hb10' hB9.lt
              have z1 : w10.cell? ⟨w.heap.size, 0, none⟩ = _ := hB10.cell 0
              have z2 : w10.cell? ⟨w.heap.size, 1, none⟩ = _ := hB10.cell 1
              have z3 : w10.cell? ⟨w.heap.size, 2, none⟩ = _ := hB10.cell 2
              have f1 := hB10.frozen 0
              have f2 := hB10.frozen 1
              have f3 := hB10.frozen 2
              clear hb10' y1 y2 y3 l1
              go_wp2
              refine bodyPost_ret (v := .tuple #[.agg #[.string ⟨#[]⟩, .slice none 0 0, .slice none 0 0], .int .i64 0, .bool false]) (by simp [results, Tryd.results19, go_sem, z1, z2, z3]) rfl (ld_no HN.out ?_)
              exact (((hb10.setCell (Nat.le_refl _) _).setCell (Nat.le_refl _) _).setCell (Nat.le_refl _) _)
            | true =>
              have hbits := hPb.out
              have hsml : Sml ⟨nm, P, W⟩ := sml_of hsb hbits
              have HSB : Hid (savB ⟨nm, P, W⟩ = true) := hsb
              simp only [hsb] at HVS
              clear hsb hL9 hnml z1 z2 z3 f1 f2 f3 hbits
              go_wp2_with fail
              (with_reducible refine HVS.mono ?_)
              rintro e w10 ⟨rfl, hb10'⟩
              clear HVS
              have hb10 := hb9.trans (hb10'.mono hb9.size)
              have hB10 := hB9.below hb10' hB9.lt
              have hO10 := hO9.below hb10' hO9.lt
              have hOP10 := hOP9.below hb10' hsz9
              have hOW10 := hOW.below hb10' (Nat.le_refl _)
              have hsz10 := hb10'.size
              clear y1 y2 y3 l1 hb10' hB9 hO9 hOP9 hb9
              have z1 : w10.cell? ⟨w.heap.size, 0, none⟩ = _ := hB10.cell 0
              have z2 : w10.cell? ⟨w.heap.size, 1, none⟩ = _ := hB10.cell 1
              have z3 : w10.cell? ⟨w.heap.size, 2, none⟩ = _ := hB10.cell 2
              have f1 := hB10.frozen 0
              have f2 := hB10.frozen 1
              have f3 := hB10.frozen 2
              have y1 : w10.cell? ⟨N, 0, none⟩ = _ := hO10.cell 0
              have y2 : w10.cell? ⟨N, 1, none⟩ = _ := hO10.cell 1
              have y3 : w10.cell? ⟨N, 2, none⟩ = _ := hO10.cell 2
              have HST := store_any ⟨nm, P, W⟩ A A2 c c2 w10.heap.size w10 (hOP10.reads' (Nat.le_trans hsz9 hsz10) (by simp)) (hOW10.reads' hsz10 (by simp)) (Nat.le_refl _) hsml
              simp only [hPl.out, hWl.out] at HST
              have hpre := prefix_beg HLG.out
              have hln := begV_len HLG.out
              rw [HV.out] at hpre hln
              have HP := fun W' => Tryd.strings_HasPrefix s (txt (storeL ⟨nm, P, W⟩)) W'
              simp only [txt_data, hpre] at HP
              have hsz : (txt (storeL ⟨nm, P, W⟩)).size = nC s.data.toList + 2 := by rw [txt_size]; exact hln
              have HEQ : Hid (decide (storeL ⟨nm, P, W⟩ = s.data.toList.take (nC s.data.toList + 2)) = begB s.data.toList) := by
                show _ = _
                rw [begB, HLG.out, HV.out, HSB.out]; rfl
              simp only [HEQ.out] at HP
              clear hpre hln hsml HEQ
              generalize txt (storeL ⟨nm, P, W⟩) = X at *
              go_wp2_with fail
              (with_reducible refine HST.mono ?_)
              rintro e w11 ⟨rfl, hb11'⟩
              clear HST
              have hb11 := hb10.trans (hb11'.mono hb10.size)
              have hB11 := hB10.below hb11' hB10.lt
              have hO11 := hO10.below hb11' hO10.lt
              have hOP11 := hOP10.below hb11' (Nat.le_trans hsz9 hsz10)
              have hOW11 := hOW10.below hb11' hsz10
              have hsz11 := hb11'.size
              clear z1 z2 z3 f1 f2 f3 y1 y2 y3 hb11' hB10 hO10 hOP10 hOW10 hb10
              have z1 : w11.cell? ⟨w.heap.size, 0, none⟩ = _ := hB11.cell 0
              have z2 : w11.cell? ⟨w.heap.size, 1, none⟩ = _ := hB11.cell 1
              have z3 : w11.cell? ⟨w.heap.size, 2, none⟩ = _ := hB11.cell 2
              have f1 := hB11.frozen 0
              have f2 := hB11.frozen 1
              have f3 := hB11.frozen 2
              have y1 : w11.cell? ⟨N, 0, none⟩ = _ := hO11.cell 0
              have y2 : w11.cell? ⟨N, 1, none⟩ = _ := hO11.cell 1
              have y3 : w11.cell? ⟨N, 2, none⟩ = _ := hO11.cell 2
              cases hbb : begB s.data.toList with
              | false =>
                have HN := Lib.hid hbb
                simp only [hbb] at HP
                clear hbb
                go_wp2_with fail
                (with_reducible refine (HP _).mono ?_)
                rintro e w12 ⟨rfl, hw12⟩
                cases hw12
                clear HP
                go_wp2
                refine bodyPost_ret (v := .tuple #[.agg #[.string ⟨#[]⟩, .slice none 0 0, .slice none 0 0], .int .i64 0, .bool false]) (by simp [results, Tryd.results19, go_sem, z1, z2, z3]) rfl (ld_no HN.out ?_)
                exact (((hb11.setCell (Nat.le_refl _) _).setCell (Nat.le_refl _) _).setCell (Nat.le_refl _) _)
              | true =>
                have HN := Lib.hid hbb
                simp only [hbb] at HP
                clear hbb
                go_wp2_with fail
                (with_reducible refine (HP _).mono ?_)
                rintro e w12 ⟨rfl, hw12⟩
                cases hw12
                clear HP
                go_wp2
                refine bodyPost_ret (v := .tuple #[.agg #[.string (txt nm), .slice A k c, .slice A2 k2 c2], .int .i64 ((nC s.data.toList + 2 : Nat) : Int), .bool true]) (by simp [results, Tryd.results19, go_sem, z1, z2, z3]) rfl ?_
                refine ld_yes HN.out HV.out hPl.out hWl.out rfl ⟨M, by omega, by simp [World.setCell]; omega, ?_, ?_⟩ (((hb11.setCell (Nat.le_refl _) _).setCell (Nat.le_refl _) _).setCell (Nat.le_refl _) _)
                · exact (own_set3 hOP11 (by omega)).wide (by omega) (Nat.le_refl _)
                · exact (own_set3 hOW11 (by omega)).wide (Nat.le_refl _) (by simp [World.setCell]; omega)
end Go.Proofs.YtgfmnolmokpgnaaDoor
