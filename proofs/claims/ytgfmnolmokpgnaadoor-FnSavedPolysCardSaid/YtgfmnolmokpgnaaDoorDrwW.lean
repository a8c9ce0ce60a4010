/-
  Contracts: a polynomial and a whole drawn of a source (l02DrawOk, l03DrawTerms, l03DrawOk): they are valid.
-/
import Derived.Test.YtgfmnolmokpgnaaDoorDrwF
namespace Go.Proofs.YtgfmnolmokpgnaaDoor
open Go.RowKit

theorem kp_two {g : Nat} {w w1 w' : World} (h : Kp g (g + 1) w w1) (hb : Below w.heap.size w1 w') : Kp g (g + 1) w w' :=
  ⟨hb.os.trans h.os, hb.tape.trans h.tape, hb.output.trans h.output, Nat.le_trans h.size hb.size, fun i hi hd => (hb.block i hi).trans (h.block i hi hd)⟩

set_option maxRecDepth 100000 in
theorem drawOkP_any (g c m : Nat) (A : Option Addr) (zs : List Int) (w : World) (h : Src w g c A zs m) (hm : m ≤ 800) :
    Calls Tryd.prog 16 #[.pointer (some ⟨g, 0, none⟩)] w fun e w' => ∃ A' c' l, e = .returned (.agg #[.slice A' l.length c']) ∧ polyB l = true ∧ Okl l ∧ Own w' w.heap.size w'.heap.size 76 A' (cplx l) ∧ Src w' g c A zs (m + 17) ∧ Kp g (g + 1) w w' := by
  have hg := h.lt
  have hb0 : Below w.heap.size w (w.alloc (.cells #[.slice none 0 0] 31)) := (Below.refl _ _).alloc (Nat.le_refl _) _
  have hk0 := blk_new w #[.slice none 0 0] 31
  have hs0 := h.below hb0 hg
  have H := hs0.pick (by omega) 6 (by omega)
  go_enter Tryd.func16, Tryd.ntmps16
  go_wp2_with fail
  refine H.mono ?_
  rintro e w1 ⟨x, rfl, hx, hs1, hk1⟩
  clear H
  have hB1 := hk0.kp hk1 (by omega)
  have HT := drawTerms_any g c _ (1 + x) A zs w1 hs1 (by omega) (by omega)
  rw [show ((1 + x : Nat) : Int) = 1 + (x : Int) by omega] at HT
  have hz1 := hk1.size
  simp at hz1
  go_wp2_with fail
  refine HT.mono ?_
  rintro e w2 ⟨A2, c2, l, rfl, hv, ho, hO, hs2, hk2⟩
  clear HT
  have hB2 := hB1.kp hk2 (by omega)
  have f2 := hB2.frozen 0
  have c2' : w2.cell? ⟨w.heap.size, 0, none⟩ = _ := hB2.cell 0
  simp at c2'
  have hz2 := hk2.size
  have hkf := kp_two (((Kp.of_below hb0).trans hk1).trans hk2) ((Below.refl _ _).trans (Below.refl _ _))
  have hkF : Kp g (g + 1) w (w2.setCell ⟨w.heap.size, 0, none⟩ (.slice A2 l.length c2)) := kp_two hkf ((Below.refl w.heap.size w2).setCell (p := ⟨w.heap.size, 0, none⟩) (Nat.le_refl _) _)
  have hsF : Src (w2.setCell ⟨w.heap.size, 0, none⟩ (.slice A2 l.length c2)) g c A zs (m + 17) := (hs2.below ((Below.refl w.heap.size w2).setCell (p := ⟨w.heap.size, 0, none⟩) (Nat.le_refl _) _) hg).up (by omega)
  have hOF : Own (w2.setCell ⟨w.heap.size, 0, none⟩ (.slice A2 l.length c2)) w.heap.size (w2.setCell ⟨w.heap.size, 0, none⟩ (.slice A2 l.length c2)).heap.size 76 A2 (cplx l) := (own_setL hO (by omega) _).wide (by omega) (by simp [World.setCell])
  go_wp2
  refine bodyPost_ret (v := .agg #[.slice A2 l.length c2]) (by simp [results, Tryd.results16, go_sem, c2']) rfl ⟨A2, c2, l, rfl, hv, ho, hOF, hsF, hkF⟩
/-- Small whole numbers. -/
def Okw (l : List Int) : Prop := ∀ z ∈ l, -6 ≤ z ∧ z ≤ 6
theorem ints_snoc (l : List Int) (x : Int) : ints l ++ [.int .i64 x] = ints (l ++ [x]) := by simp [ints]
theorem okw_snoc {l : List Int} {x : Int} (h : Okw l) (hx : -6 ≤ x ∧ x ≤ 6) : Okw (l ++ [x]) := fun z hz => by
  rcases List.mem_append.1 hz with h' | h'
  · exact h z h'
  · obtain rfl : z = x := by simpa using h'
    exact hx
/-- They are of a whole: the last one is not 0, as soon as there are n. -/
def EndW (n : Nat) (l : List Int) : Prop := l.length = n → l.getD (n - 1) 0 ≠ 0
theorem okw_valid {l : List Int} {n : Nat} (h : Okw l) (hl : l.length = n) (hn : 1 ≤ n ∧ n ≤ 17) (he : EndW n l) : wholeB l = true := by
  have h1 : l.all termB = true := List.all_eq_true.2 fun z hz => by
    have := h z hz
    unfold termB
    simp; omega
  have h2 := he hl
  rw [← hl] at h2
  unfold wholeB
  have h3 : (l.getD (l.length - 1) 0 == 0) = false := by simpa using h2
  rw [h1, h3]
  simp; omega

set_option maxRecDepth 100000 in
set_option maxHeartbeats 800000 in
theorem drawTermsW_any (g c m n : Nat) (A : Option Addr) (zs : List Int) (w : World) (h : Src w g c A zs m) (hm : m ≤ 900) (hn : 1 ≤ n ∧ n ≤ 5) :
    Calls Tryd.prog 31 #[.pointer (some ⟨g, 0, none⟩), .int .i64 (n : Int), .int .i64 6] w fun e w' => ∃ A' c' l, e = .returned (.slice A' l.length c') ∧ wholeB l = true ∧ Own w' w.heap.size w'.heap.size 2 A' (ints l) ∧ Src w' g c A zs (m + 5) ∧ Kp g (g + 1) w w' := by
  obtain ⟨i0, hi, hz0, hz1, hz2⟩ := info_parts info2
  have hg := h.lt
  go_enter Tryd.func31, Tryd.ntmps31
  go_wp2
  have hown0 : (w.alloc (.cells #[] 2)).ownsRow w.heap.size 2 1 (.slice (some ⟨w.heap.size, 0, none⟩) 0 0) 0 (ints []) := World.ownsRow_made w #[] 0 (Nat.le_refl _) (by simp [maxLen]) rfl
  have hb0 : Below w.heap.size w (w.alloc (.cells #[] 2)) := (Below.refl _ _).alloc (Nat.le_refl _) _
  have hs0 := h.below hb0 hg
  go_loopw [7, 8, 9] (fun v q _ wr => ∃ k : Nat, k ≤ n ∧ q = .int .i64 (k : Int) ∧ (∃ l : List Int, l.length = k ∧ Hid (Okw l ∧ EndW n l) ∧ wr.ownsRow w.heap.size 2 1 v k (ints l)) ∧ Src wr g c A zs (m + k) ∧ Kp g (g + 1) w wr) (fun _ q _ _ => n - (intOf q).toNat)
  case atStart => exact ⟨0, Nat.zero_le _, rfl, ⟨[], rfl, ⟨fun x hx => by simp at hx, fun hx => by simp at hx; omega⟩, hown0⟩, hs0, Kp.of_below hb0⟩
  case round =>
    obtain ⟨k, hk, rfl, ⟨l, hl, hLx, hown⟩, hsr, hkr⟩ := hrel
    clear hown0 hb0 hs0
    obtain ⟨Ao, co, rfl, -, hko, hO⟩ := Own.of_row hown (Nat.le_refl _)
    have hsz := hkr.size
    obtain ⟨wo, rfl⟩ : ∃ wo : World, wo = wr := ⟨_, rfl⟩
    by_cases hlt : k < n
    · clear hO
      have H := hsr.pick (by omega) 13 (by omega)
      go_wp2_with fail
      refine H.mono ?_
      rintro e w2 ⟨x, rfl, hx, hs2, hk2⟩
      have hown2 := ownsRow_kp hown hk2 (by omega)
      have hsz2 := hk2.size
      clear hown H
      have key : ∀ (y : Int), -6 ≤ y ∧ y ≤ 6 → (k + 1 = n → y ≠ 0) → Hid (Okw (l ++ [y]) ∧ EndW n (l ++ [y])) := fun y h1 h2 =>
        ⟨okw_snoc hLx.out.1 h1, fun h3 => by
          have e1 : n - 1 = l.length := by simp at h3; omega
          have e2 : k + 1 = n := by simp at h3; omega
          rw [e1]; simpa [List.getD] using h2 e2⟩
      by_cases hkn : k + 1 = n
      · have hq1 : ((k : Int) == (n : Int) - 1) = true := by simp; omega
        have hw1 : IntKind.i64.wrap ((n : Int) - 1) = (n : Int) - 1 := IntWalk.i64_in _ (by omega)
        by_cases hx6 : x = 6
        · subst hx6
          have hK := key 1 (by omega) (by omega)
          clear key
          go_wp2_with (at_builtin; refine wpList_append_any _ rfl (.tmp 31) (.tmp 33) _ rfl w.heap.size 2 i0 _ 1 8 Tryd.underlying32 hi hz0 hz1 hz2 rfl (by omega) (.slice Ao k co) k (ints l) rfl (hown2.alloc _) (w2.heap.size + 1) (some ⟨w2.heap.size, 0, none⟩) 1 1 [.int .i64 (1)] rfl (reads_new w2 [_] _) (one_int _) (by simp only [maxLen]; omega) (by omega) (by simp; omega) ?_; intro v1 w3 hown3 hg3 hat3)
          have hb3 : Below w.heap.size w2 w3 := ((Below.refl _ _).alloc (by omega) _).grown hg3 (by simp; omega) (fun j hj => (hown2.lt j hj).1)
          have hs3 := hs2.below hb3 hg
          have hk3 := kp_two (hkr.trans hk2) hb3
          obtain ⟨A1, c1, rfl⟩ : ∃ A1 c1, v1 = .slice A1 (k + 1) c1 := by
            obtain ⟨A1, c1, h, -⟩ := Own.of_row hown3 (Nat.le_refl _)
            exact ⟨A1, c1, h⟩
          rw [ints_snoc] at hown3
          exact ⟨⟨k + 1, by omega, by go_num, ⟨l ++ [1], by simp [hl], hK, hown3⟩, hs3.up (by omega), hk3⟩, by simp [intOf]; omega⟩
        · have hK := key ((x : Int) - 6) (by omega) (by omega)
          have hq2 : ((x : Int) - 6 == 0) = false := by simp; omega
          clear key
          go_wp2_with (at_builtin; refine wpList_append_any _ rfl (.tmp 31) (.tmp 33) _ rfl w.heap.size 2 i0 _ 1 8 Tryd.underlying32 hi hz0 hz1 hz2 rfl (by omega) (.slice Ao k co) k (ints l) rfl (hown2.alloc _) (w2.heap.size + 1) (some ⟨w2.heap.size, 0, none⟩) 1 1 [.int .i64 ((x : Int) - 6)] rfl (reads_new w2 [_] _) (one_int _) (by simp only [maxLen]; omega) (by omega) (by simp; omega) ?_; intro v1 w3 hown3 hg3 hat3)
          have hb3 : Below w.heap.size w2 w3 := ((Below.refl _ _).alloc (by omega) _).grown hg3 (by simp; omega) (fun j hj => (hown2.lt j hj).1)
          have hs3 := hs2.below hb3 hg
          have hk3 := kp_two (hkr.trans hk2) hb3
          obtain ⟨A1, c1, rfl⟩ : ∃ A1 c1, v1 = .slice A1 (k + 1) c1 := by
            obtain ⟨A1, c1, h, -⟩ := Own.of_row hown3 (Nat.le_refl _)
            exact ⟨A1, c1, h⟩
          rw [ints_snoc] at hown3
          exact ⟨⟨k + 1, by omega, by go_num, ⟨l ++ [(x : Int) - 6], by simp [hl], hK, hown3⟩, hs3.up (by omega), hk3⟩, by simp [intOf]; omega⟩
      · have hK := key ((x : Int) - 6) (by omega) (by omega)
        have hq1 : ((k : Int) == (n : Int) - 1) = false := by simp; omega
        have hw1 : IntKind.i64.wrap ((n : Int) - 1) = (n : Int) - 1 := IntWalk.i64_in _ (by omega)
        clear key
        go_wp2_with (at_builtin; refine wpList_append_any _ rfl (.tmp 31) (.tmp 33) _ rfl w.heap.size 2 i0 _ 1 8 Tryd.underlying32 hi hz0 hz1 hz2 rfl (by omega) (.slice Ao k co) k (ints l) rfl (hown2.alloc _) (w2.heap.size + 1) (some ⟨w2.heap.size, 0, none⟩) 1 1 [.int .i64 ((x : Int) - 6)] rfl (reads_new w2 [_] _) (one_int _) (by simp only [maxLen]; omega) (by omega) (by simp; omega) ?_; intro v1 w3 hown3 hg3 hat3)
        have hb3 : Below w.heap.size w2 w3 := ((Below.refl _ _).alloc (by omega) _).grown hg3 (by simp; omega) (fun j hj => (hown2.lt j hj).1)
        have hs3 := hs2.below hb3 hg
        have hk3 := kp_two (hkr.trans hk2) hb3
        obtain ⟨A1, c1, rfl⟩ : ∃ A1 c1, v1 = .slice A1 (k + 1) c1 := by
          obtain ⟨A1, c1, h, -⟩ := Own.of_row hown3 (Nat.le_refl _)
          exact ⟨A1, c1, h⟩
        rw [ints_snoc] at hown3
        exact ⟨⟨k + 1, by omega, by go_num, ⟨l ++ [(x : Int) - 6], by simp [hl], hK, hown3⟩, hs3.up (by omega), hk3⟩, by simp [intOf]; omega⟩
    · obtain rfl : k = n := by omega
      have hv := Lib.hid (okw_valid hLx.out.1 hl (by omega) hLx.out.2)
      clear hown hLx
      go_wp2
      go_ret
      rw [← hl]
      exact ⟨Ao, co, l, rfl, hv.out, hO, hsr.up (by omega), hkr⟩
end Go.Proofs.YtgfmnolmokpgnaaDoor
