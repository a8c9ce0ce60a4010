/-
  Contracts: the reference's row of the polynomials of kind 2 (spec.l06Row), and the slopes (spec.l06Slope, the closure in impl.EvenNodes), where no step is without an answer.
-/
import Derived.Test.YtakkmcplhihjiaaEvnW
namespace Go.Proofs.Ytakkmcplhihjiaa
open Go.RowKit

set_option maxRecDepth 100000 in
set_option maxHeartbeats 800000 in
theorem l06Row_any (n x : Nat) (r : List Nat × Nat) (hn : n < 100) (h : rowO x n = some r) (w : World) :
    Calls Try.prog 42 #[.int .i64 2, .int .i64 (n : Int), .float .f32 x] w fun e w' => ∃ A c, e = .returned (.slice A (n + 1) c) ∧ Own w' w.heap.size w'.heap.size 38 A (flts r.1) ∧ Below w.heap.size w w' := by
  obtain ⟨i0, hi, hz0, hz1, hz2⟩ := info_parts infoF
  have hup := Lib.hid (row_upto h)
  have hr := Lib.hid h
  clear h
  go_enter Try.func42, Try.ntmps42
  go_wp2
  have hown0 : (w.alloc (.cells #[.float .f32 1065353216] 38)).ownsRow w.heap.size 38 1 (.slice (some ⟨w.heap.size, 0, none⟩) 1 1) 1 (flts [1065353216]) := ⟨rfl, .inr ⟨w.heap.size, 1, #[.float .f32 1065353216], rfl, Nat.le_refl _, heap_alloc_new w _, by omega, by simp [maxLen], rfl, rfl⟩⟩
  have hb0 : Below w.heap.size w (w.alloc (.cells #[.float .f32 1065353216] 38)) := (Below.refl _ _).alloc (Nat.le_refl _) _
  go_loopw [7, 8, 9, 10, 11, 12, 13] (fun v b q _ _ _ _ wr => ∃ k : Nat, k ≤ n ∧ q = .int .i64 (k : Int) ∧ (∃ s, Hid (rowO x k = some s) ∧ b = .float .f32 s.2 ∧ wr.ownsRow w.heap.size 38 1 v (k + 1) (flts s.1)) ∧ Below w.heap.size w wr) (fun _ _ q _ _ _ _ _ => n - (intOf q).toNat)
  case atStart => exact ⟨0, Nat.zero_le _, rfl, ⟨_, Lib.hid rfl, rfl, hown0⟩, hb0⟩
  case round =>
    obtain ⟨k, hk, rfl, ⟨s, hs, rfl, hown⟩, hbr⟩ := hrel
    clear hown0 hb0
    obtain ⟨Ao, co, rfl, -, hko, hO⟩ := Own.of_row hown (Nat.le_refl _)
    have hsz := hbr.size
    have hlen := row_len hs.out
    obtain ⟨wo, rfl⟩ : ∃ wo : World, wo = wr := ⟨_, rfl⟩
    by_cases hlt : k < n
    · obtain ⟨s', hs'⟩ := hup.out (k + 1) (by omega)
      obtain ⟨s1, a, c, y, e1, e2, e3, e4⟩ := row_parts hs'
      rw [hs.out] at e1
      cases e1
      obtain ⟨m1, m2, m3, m4, f1, f2, f3, f4, f5⟩ := rstep_parts e3
      have H := l06Rule_any k a c e2 wo
      obtain ⟨ad, had, hab, hc1⟩ := flt_at (hO.reads' (Nat.le_refl _) (by simp)) (k := k) (by omega)
      subst had
      obtain ⟨h1, h2⟩ := s
      simp only at *
      clear e2 e3
      generalize hone : h1.getD k 0 = one at *
      go_wp2_with fail
      refine H.mono ?_
      rintro e w2 ⟨rfl, hb2⟩
      have hc2 : w2.cell? (ad.add k) = some (.float .f32 one) := by rw [← hc1]; exact hb2.cell (by rw [block_of_add]; exact hab)
      have hown2 := ownsRow_kp hown (Kp.of_below (lo := 0) (hi := 0) hb2) (Nat.zero_le _)
      have hsz2 := hb2.size
      clear H hc1 hO hown hab
      have g1 := ar32 _ _ _ _ f1
      have g2 := ar32 _ _ _ _ f2
      have g3 := ar32 _ _ _ _ f3
      have g4 := ar32 _ _ _ _ f4
      have g5 := ar32 _ _ _ _ f5
      clear f1 f2 f3 f4 f5
      go_wp2_with (at_builtin; refine wpList_append_any _ rfl (.tmp 45) (.tmp 47) _ rfl w.heap.size 38 i0 _ 1 4 Try.underlying22 hi hz0 hz1 hz2 rfl (by omega) (.slice (some ad) (k + 1) co) (k + 1) (flts h1) rfl (hown2.alloc _) (w2.heap.size + 1) (some ⟨w2.heap.size, 0, none⟩) 1 1 [.float .f32 y] rfl (reads_new w2 [_] _) (one_flt y) (by simp only [maxLen]; omega) (by omega) (by simp; omega) ?_; intro v1 w3 hown3 hg3 hat3)
      have hb3 : Below w.heap.size w2 w3 := ((Below.refl _ _).alloc (by omega) _).grown hg3 (by simp; omega) (fun j hj => (hown2.lt j hj).1)
      obtain ⟨A1, c1, rfl⟩ : ∃ A1 c1, v1 = .slice A1 (k + 1 + 1) c1 := by
        obtain ⟨A1, c1, h, -⟩ := Own.of_row hown3 (Nat.le_refl _)
        exact ⟨A1, c1, h⟩
      rw [flts_snoc] at hown3
      subst e4
      exact ⟨⟨k + 1, by omega, by go_num, ⟨_, Lib.hid hs', rfl, hown3⟩, (hbr.trans (hb2.mono hsz)).trans hb3⟩, by simp [intOf]; omega⟩
    · obtain rfl : k = n := by omega
      go_wp2
      go_ret
      have e := hs.out
      rw [hr.out] at e
      cases e
      exact ⟨Ao, co, rfl, hO, hbr⟩

theorem l06Slope_any (n x p s : Nat) (hn : n < 100) (h1 : 1 ≤ n) (h : slopeO n x = some (p, s)) (w : World) :
    Calls Try.prog 18 #[.int .i64 (n : Int), .float .f32 x] w fun e w' => e = .returned (.tuple #[.float .f32 p, .float .f32 s]) ∧ Below w.heap.size w w' := by
  obtain ⟨r, t1, t2, t3, t4, t5, hr, hp, f1, f2, f3, f4, f5, f6⟩ := slope_parts h
  have H := l06Row_any n x r hn hr w
  have hl := row_len hr
  have g1 := ar32 _ _ _ _ f1
  have g2 := ar32 _ _ _ _ f2
  have g3 := ar32 _ _ _ _ f3
  have g4 := ar32 _ _ _ _ f4
  have g5 := ar32 _ _ _ _ f5
  have g6 := ar32 _ _ _ _ f6
  clear f1 f2 f3 f4 f5 f6 h hr
  obtain ⟨l, b⟩ := r
  simp only at *
  go_enter Try.func18, Try.ntmps18
  go_wp2_with fail
  refine H.mono ?_
  rintro e w1 ⟨A, c, rfl, hO, hb⟩
  obtain ⟨ad, rfl, -, hc1⟩ := flt_at (hO.reads' (Nat.le_refl _) (by simp)) (k := n) (by omega)
  obtain ⟨ad', e, -, hc2⟩ := flt_at (hO.reads' (Nat.le_refl _) (by simp)) (k := n - 1) (by omega)
  cases e
  rw [hp] at hc1
  generalize l.getD (n - 1) 0 = q at *
  have hidx : (n : Int) - 1 = ((n - 1 : Nat) : Int) := by omega
  clear H hO
  go_wp2
  go_ret2
  exact ⟨rfl, hb⟩
theorem slopeI_any (pn px pm : Addr) (n x p s : Nat) (hn : n < 100) (h1 : 1 ≤ n) (h : slopeO n x = some (p, s)) (w : World) (c0 : w.cell? pn = some (.int .i64 (n : Int))) (c1 : w.cell? px = some (.float .f32 x)) (c2 : w.cell? pm = some (.float .f32 (floatOfInt .f32 (n : Int)))) :
    Calls Try.prog 22 #[.pointer (some pn), .pointer (some px), .pointer (some pm)] w fun e w' => e = .returned (.tuple #[.float .f32 p, .float .f32 s]) ∧ Below w.heap.size w w' := by
  obtain ⟨r, t1, t2, t3, t4, t5, hr, hp, f1, f2, f3, f4, f5, f6⟩ := slope_parts h
  have H := familyRow_any n x r hn hr w
  have hl := row_len hr
  have g1 := ar32 _ _ _ _ f1
  have g2 := ar32 _ _ _ _ f2
  have g3 := ar32 _ _ _ _ f3
  have g4 := ar32 _ _ _ _ f4
  have g5 := ar32 _ _ _ _ f5
  have g6 := ar32 _ _ _ _ f6
  clear f1 f2 f3 f4 f5 f6 h hr
  obtain ⟨l, b⟩ := r
  simp only at *
  go_enter Try.func22, Try.ntmps22
  go_wp2_with fail
  refine H.mono ?_
  rintro e w1 ⟨A, c, rfl, hO, hb⟩
  have d0 := (hb.cell (World.block_lt_of_cell? w _ c0)).trans c0
  have d1 := (hb.cell (World.block_lt_of_cell? w _ c1)).trans c1
  have d2 := (hb.cell (World.block_lt_of_cell? w _ c2)).trans c2
  obtain ⟨ad, rfl, -, hc1⟩ := flt_at (hO.reads' (Nat.le_refl _) (by simp)) (k := n) (by omega)
  obtain ⟨ad', e, -, hc2⟩ := flt_at (hO.reads' (Nat.le_refl _) (by simp)) (k := n - 1) (by omega)
  cases e
  rw [hp] at hc1
  generalize l.getD (n - 1) 0 = q at *
  have hidx : (n : Int) - 1 = ((n - 1 : Nat) : Int) := by omega
  clear H hO c0 c1 c2
  go_wp2_with fail
  go_quiet (fail)
  go_wp2_with fail
  go_quiet (fail)
  go_wp2
  go_ret2
  exact ⟨rfl, below_drewN (below_drewN hb _) _⟩
end Go.Proofs.Ytakkmcplhihjiaa
