/-
  NewDesk: marks on a desk; the law FnExactNewDesk, walked by contracts.
-/
import Derived.Test.YtciakaecdllfcaaDesk
namespace Go.Proofs.Ytciakaecdllfcaa
open Go.RowKit

/-- A desk whose numbers have been written over by marks. -/
structure DeskM (w : World) (lo m1 m2 m3 hi : Nat) (A1 A2 A3 A4 : Option Addr) : Prop where
  a : Own w lo m1 37 A1 (cplx (cmarks 1 3))
  b : Own w m1 m2 37 A2 (cplx (cmarks 4 2))
  r : Own w m2 m3 2 A3 (ints (marks 6 3))
  p : Own w m3 hi 37 A4 (cplx (cmarks 9 3))
  o1 : lo ≤ m1
  o2 : m1 ≤ m2
  o3 : m2 ≤ m3
  o4 : m3 ≤ hi
theorem DeskM.below {w w' : World} {lo m1 m2 m3 hi B : Nat} {A1 A2 A3 A4 : Option Addr} (h : DeskM w lo m1 m2 m3 hi A1 A2 A3 A4) (hb : Below B w w') (hB : hi ≤ B) : DeskM w' lo m1 m2 m3 hi A1 A2 A3 A4 := by
  have := h.o1; have := h.o2; have := h.o3; have := h.o4
  exact ⟨h.a.below hb (by omega), h.b.below hb (by omega), h.r.below hb (by omega), h.p.below hb (by omega), h.o1, h.o2, h.o3, h.o4⟩
theorem Desk4.below {w w' : World} {lo m1 m2 m3 hi B : Nat} {A1 A2 A3 A4 : Option Addr} (h : Desk4 w lo m1 m2 m3 hi A1 A2 A3 A4) (hb : Below B w w') (hB : hi ≤ B) : Desk4 w' lo m1 m2 m3 hi A1 A2 A3 A4 := by
  have := h.o1; have := h.o2; have := h.o3; have := h.o4
  exact ⟨h.a.below hb (by omega), h.b.below hb (by omega), h.r.below hb (by omega), h.p.below hb (by omega), h.o1, h.o2, h.o3, h.o4⟩
theorem Kp.wide {lo hi lo' hi' : Nat} {w w' : World} (h : Kp lo hi w w') (h1 : lo' ≤ lo) (h2 : hi ≤ hi') : Kp lo' hi' w w' :=
  ⟨h.os, h.tape, h.output, h.size, fun k hk hd => h.block k hk (by omega)⟩

theorem markPoly_n (A : Option Addr) (c lo hi : Nat) (k0 r : Int) (l : List (Nat × Nat)) (n : Nat) (hl : l.length = n) (hr : k0 + (n : Int) = r) (w : World) (ho : Own w lo hi 37 A (cplx l)) (hi2 : hi ≤ w.heap.size) (hk0 : 0 ≤ k0) (hn : k0 + (n : Int) < 256) :
    Calls Try.prog 52 #[.agg #[.slice A n c], .int .i64 k0] w fun e w' => e = .returned (.int .i64 r) ∧ Own w' lo hi 37 A (cplx (cmarks k0 n)) ∧ Kp lo hi w w' := by
  subst hl; subst hr
  exact markPoly_b A c lo hi k0 l w ho hi2 hk0 hn
theorem markReal_n (A : Option Addr) (c lo hi : Nat) (k0 r : Int) (l : List Int) (n : Nat) (hl : l.length = n) (hr : k0 + (n : Int) = r) (w : World) (ho : Own w lo hi 2 A (ints l)) (hi2 : hi ≤ w.heap.size) (hk0 : 0 ≤ k0 ∧ k0 ≤ 4194304) (hn : n ≤ 1048576) :
    Calls Try.prog 53 #[.agg #[.slice A n c], .int .i64 k0] w fun e w' => e = .returned (.int .i64 r) ∧ Own w' lo hi 2 A (ints (marks k0 n)) ∧ Kp lo hi w w' := by
  subst hl; subst hr
  exact markReal_b A c lo hi k0 l w ho hi2 hk0 hn
theorem markComplex_n (A : Option Addr) (c lo hi : Nat) (k0 r : Int) (l : List (Nat × Nat)) (n : Nat) (hl : l.length = n) (hr : k0 + (n : Int) = r) (w : World) (ho : Own w lo hi 37 A (cplx l)) (hk0 : 0 ≤ k0) (hn : k0 + (n : Int) < 256) :
    Calls Try.prog 54 #[.slice A n c, .int .i64 k0] w fun e w' => e = .returned (.int .i64 r) ∧ Own w' lo hi 37 A (cplx (cmarks k0 n)) ∧ Kp lo hi w w' := by
  subst hl; subst hr
  exact markComplex64S_any A c lo hi k0 l w ho hk0 hn

theorem markDesk_b (A1 A2 A3 A4 : Option Addr) (c1 c2 c3 c4 lo m1 m2 m3 hi : Nat) (w : World) (h : Desk4 w lo m1 m2 m3 hi A1 A2 A3 A4) (hh : hi ≤ w.heap.size) :
    Calls Try.prog 25 #[.agg #[.slice A1 3 c1, .slice A2 2 c2, .slice A3 3 c3, .slice A4 3 c4], .int .i64 1] w fun e w' => e = .returned (.int .i64 12) ∧ DeskM w' lo m1 m2 m3 hi A1 A2 A3 A4 ∧ Kp lo hi w w' := by
  have b0 : Below w.heap.size w (w.alloc (.cells #[.slice A1 3 c1, .slice A2 2 c2, .slice A3 3 c3, .slice A4 3 c4] 47)) := (Below.refl _ _).alloc (Nat.le_refl _) _
  have h0 := h.below b0 hh
  obtain ⟨ha, hb, hr, hp, o1, o2, o3, o4⟩ := h0
  clear h
  go_enter Try.func25, Try.ntmps25
  go_wp2_with fail
  refine (markPoly_n A1 c1 lo m1 1 4 dA 3 rfl (by omega) _ ha (by simp; omega) (by omega) (by omega)).mono ?_
  rintro e w1 ⟨rfl, ha1, k1⟩
  obtain ⟨x1, x2, x3, x4⟩ := box1 w w1 47 (.slice A1 3 c1) (.slice A2 2 c2) (.slice A3 3 c3) (.slice A4 3 c4) (fun k hk e => k1.block k (by simp; omega) (.inr (by omega)))
  replace hb := hb.kp k1 (.inr (Nat.le_refl _))
  replace hr := hr.kp k1 (.inr (by omega))
  replace hp := hp.kp k1 (.inr (by omega))
  have y1 := k1.wide (lo' := lo) (hi' := hi) (Nat.le_refl _) (by omega)
  have z1 : w.heap.size + 1 ≤ w1.heap.size := by have := k1.size; simpa using this
  clear k1
  go_wp2_with fail
  refine (markPoly_n A2 c2 m1 m2 4 6 dB 2 rfl (by omega) _ hb (by omega) (by omega) (by omega)).mono ?_
  rintro e w2 ⟨rfl, hb1, k2⟩
  have y2 := y1.trans (k2.wide (lo' := lo) (hi' := hi) (by omega) (by omega))
  obtain ⟨x1, x2, x3, x4⟩ := box1 w w2 47 (.slice A1 3 c1) (.slice A2 2 c2) (.slice A3 3 c3) (.slice A4 3 c4) (fun k hk e => y2.block k (by simp; omega) (.inr (by omega)))
  replace ha1 := ha1.kp k2 (.inl (Nat.le_refl _))
  replace hr := hr.kp k2 (.inr (Nat.le_refl _))
  replace hp := hp.kp k2 (.inr (by omega))
  have z2 := k2.size
  clear k2 y1
  go_wp2_with fail
  refine (markReal_n A3 c3 m2 m3 6 9 dR 3 rfl (by omega) _ hr (by omega) (by omega) (by omega)).mono ?_
  rintro e w3 ⟨rfl, hr1, k3⟩
  have y3 := y2.trans (k3.wide (lo' := lo) (hi' := hi) (by omega) (by omega))
  obtain ⟨x1, x2, x3, x4⟩ := box1 w w3 47 (.slice A1 3 c1) (.slice A2 2 c2) (.slice A3 3 c3) (.slice A4 3 c4) (fun k hk e => y3.block k (by simp; omega) (.inr (by omega)))
  replace ha1 := ha1.kp k3 (.inl (by omega))
  replace hb1 := hb1.kp k3 (.inl (Nat.le_refl _))
  replace hp := hp.kp k3 (.inr (Nat.le_refl _))
  have z3 := k3.size
  clear k3 y2
  go_wp2_with fail
  refine (markComplex_n A4 c4 m3 hi 9 12 dP 3 rfl (by omega) _ hp (by omega) (by omega)).mono ?_
  rintro e w4 ⟨rfl, hp1, k4⟩
  have y4 := y3.trans (k4.wide (lo' := lo) (hi' := hi) (by omega) (by omega))
  replace ha1 := ha1.kp k4 (.inl (by omega))
  replace hb1 := hb1.kp k4 (.inl (by omega))
  replace hr1 := hr1.kp k4 (.inl (Nat.le_refl _))
  clear k4 y3
  go_wp2_with fail
  go_ret
  exact ⟨rfl, ⟨ha1, hb1, hr1, hp1, o1, o2, o3, o4⟩, (Kp.of_below b0).trans y4⟩

theorem heldPoly_n (A : Option Addr) (c B : Nat) (k0 r : Int) (n : Nat) (hr' : k0 + (n : Int) = r) (w : World) (hr : Reads w B 1 A n (cplx (cmarks k0 n))) (hB : B ≤ w.heap.size) (hk0 : 0 ≤ k0) (hn : k0 + (n : Int) < 256) :
    Calls Try.prog 55 #[.agg #[.slice A n c], .int .i64 k0] w fun e w' => e = .returned (.int .i64 r) ∧ Below w.heap.size w w' := by
  subst hr'
  exact heldPoly_b A c B k0 n w hr hB hk0 hn
theorem heldReal_n (A : Option Addr) (c B : Nat) (k0 r : Int) (n : Nat) (hr' : k0 + (n : Int) = r) (w : World) (hr : Reads w B 1 A n (ints (marks k0 n))) (hB : B ≤ w.heap.size) (hk0 : 0 ≤ k0 ∧ k0 ≤ 4194304) (hn : n ≤ 1048576) :
    Calls Try.prog 56 #[.agg #[.slice A n c], .int .i64 k0] w fun e w' => e = .returned (.int .i64 r) ∧ Below w.heap.size w w' := by
  subst hr'
  exact heldReal_b A c B k0 n w hr hB hk0 hn
theorem heldComplex_n (A : Option Addr) (c B : Nat) (k0 r : Int) (n : Nat) (hr' : k0 + (n : Int) = r) (w : World) (hr : Reads w B 1 A n (cplx (cmarks k0 n))) (hk0 : 0 ≤ k0) (hn : k0 + (n : Int) < 256) :
    Calls Try.prog 57 #[.slice A n c, .int .i64 k0] w fun e w' => e = .returned (.int .i64 r) ∧ Below w.heap.size w w' := by
  subst hr'
  exact heldComplex64S_b A c B k0 n w hr hk0 hn

theorem heldDesk_b (A1 A2 A3 A4 : Option Addr) (c1 c2 c3 c4 lo m1 m2 m3 hi : Nat) (w : World) (h : DeskM w lo m1 m2 m3 hi A1 A2 A3 A4) (hh : hi ≤ w.heap.size) :
    Calls Try.prog 26 #[.agg #[.slice A1 3 c1, .slice A2 2 c2, .slice A3 3 c3, .slice A4 3 c4], .int .i64 1] w fun e w' => e = .returned (.int .i64 12) ∧ Below w.heap.size w w' := by
  have b0 : Below w.heap.size w (w.alloc (.cells #[.slice A1 3 c1, .slice A2 2 c2, .slice A3 3 c3, .slice A4 3 c4] 47)) := (Below.refl _ _).alloc (Nat.le_refl _) _
  have o1 := h.o1; have o2 := h.o2; have o3 := h.o3; have o4 := h.o4
  have z0 : w.heap.size ≤ (w.alloc (.cells #[.slice A1 3 c1, .slice A2 2 c2, .slice A3 3 c3, .slice A4 3 c4] 47)).heap.size := b0.size
  go_enter Try.func26, Try.ntmps26
  go_wp2_with fail
  refine (heldPoly_n A1 c1 w.heap.size 1 4 3 (by omega) _ ((h.below b0 hh).a.reads' (by omega) (by simp)) z0 (by omega) (by omega)).mono ?_
  rintro e w1 ⟨rfl, k1⟩
  have y1 := b0.trans (k1.mono z0)
  obtain ⟨x1, x2, x3, x4⟩ := box1 w w1 47 (.slice A1 3 c1) (.slice A2 2 c2) (.slice A3 3 c3) (.slice A4 3 c4) (fun k hk e => k1.block k (by simp; omega))
  have z1 : w.heap.size + 1 ≤ w1.heap.size := by have := k1.size; simpa using this
  have K1 := Lib.hid k1
  clear k1
  go_wp2_with fail
  refine (heldPoly_n A2 c2 w.heap.size 4 6 2 (by omega) _ ((h.below y1 hh).b.reads' (by omega) (by simp)) (by omega) (by omega) (by omega)).mono ?_
  rintro e w2 ⟨rfl, k2⟩
  have y2 := y1.trans (k2.mono (by omega))
  have K2 := Lib.hid (K1.out.trans (k2.mono (by simpa using z1)))
  obtain ⟨x1, x2, x3, x4⟩ := box1 w w2 47 (.slice A1 3 c1) (.slice A2 2 c2) (.slice A3 3 c3) (.slice A4 3 c4) (fun k hk e => K2.out.block k (by simp; omega))
  have z2 := k2.size
  clear k2 K1 y1
  go_wp2_with fail
  refine (heldReal_n A3 c3 w.heap.size 6 9 3 (by omega) _ ((h.below y2 hh).r.reads' (by omega) (by simp)) (by omega) (by omega) (by omega)).mono ?_
  rintro e w3 ⟨rfl, k3⟩
  have y3 := y2.trans (k3.mono (by omega))
  have K3 := Lib.hid (K2.out.trans (k3.mono (by simp; omega)))
  obtain ⟨x1, x2, x3, x4⟩ := box1 w w3 47 (.slice A1 3 c1) (.slice A2 2 c2) (.slice A3 3 c3) (.slice A4 3 c4) (fun k hk e => K3.out.block k (by simp; omega))
  have z3 := k3.size
  clear k3 K2 y2
  go_wp2_with fail
  refine (heldComplex_n A4 c4 w.heap.size 9 12 3 (by omega) _ ((h.below y3 hh).p.reads' (by omega) (by simp)) (by omega) (by omega)).mono ?_
  rintro e w4 ⟨rfl, k4⟩
  have y4 := y3.trans (k4.mono (by omega))
  clear k4 y3
  go_wp2_with fail
  go_ret
  exact ⟨rfl, y4⟩
end Go.Proofs.Ytciakaecdllfcaa
