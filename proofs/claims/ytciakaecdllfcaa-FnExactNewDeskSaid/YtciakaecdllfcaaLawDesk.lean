/-
  The law FnExactNewDesk, walked by contracts.
-/
import Derived.Test.YtciakaecdllfcaaDeskLaw
namespace Go.Proofs.Ytciakaecdllfcaa
open Go.RowKit

theorem cells4 {w : World} {g : Nat} {t : TypeId} {a b c d : Value} (h : Blk w g t #[a, b, c, d]) : w.cell? ⟨g, 0, none⟩ = some a ∧ w.cell? ⟨g, 1, none⟩ = some b ∧ w.cell? ⟨g, 2, none⟩ = some c ∧ w.cell? ⟨g, 3, none⟩ = some d := ⟨h.cell 0, h.cell 1, h.cell 2, h.cell 3⟩
theorem cells4a {w : World} {g : Nat} {t : TypeId} {a b c d : Value} (h : Blk w g t #[a, b, c, d]) : ∀ o, (w.alloc o).cell? ⟨g, 0, none⟩ = some a ∧ (w.alloc o).cell? ⟨g, 1, none⟩ = some b ∧ (w.alloc o).cell? ⟨g, 2, none⟩ = some c ∧ (w.alloc o).cell? ⟨g, 3, none⟩ = some d := fun o =>
  cells4 (show Blk (w.alloc o) g t #[a, b, c, d] from (Below.heap_alloc w o g h.lt).trans h)
theorem Blk.alloc {w : World} {g : Nat} {t : TypeId} {cs : Array Value} (h : Blk w g t cs) (o : Obj) : Blk (w.alloc o) g t cs := (Below.heap_alloc w o g h.lt).trans h
theorem Blk.new (w : World) (t : TypeId) (cs : Array Value) : Blk (w.alloc (.cells cs t)) w.heap.size t cs := heap_alloc_new w _

set_option maxHeartbeats 1600000 in
theorem lawDesk (w : World) : Calls Try.prog 5 #[] w fun e w' => e = .returned (.bool true) ∧ Below w.heap.size w w' := by
  go_enter Try.func5, Try.ntmps5
  go_wp2_with fail
  refine (newS w).mono ?_
  rintro e w1 ⟨A1, A2, A3, A4, a1, a2, a3, a4, m1, m2, m3, rfl, d1, b1⟩
  have z1 := b1.size
  go_wp2_with fail
  refine (newI _).mono ?_
  rintro e w2 ⟨B1, B2, B3, B4, e1, e2, e3, e4, n1, n2, n3, rfl, d2, b2⟩
  have s1 : w1.heap.size + 1 ≤ w2.heap.size := by have := b2.size; simpa using this
  have H0 : Blk w2 w1.heap.size 47 #[.slice A1 3 a1, .slice A2 2 a2, .slice A3 3 a3, .slice A4 3 a4] := (Blk.new w1 47 _).below b2 (by simp)
  have hx := cells4a H0 (.cells #[.slice B1 3 e1, .slice B2 2 e2, .slice B3 3 e3, .slice B4 3 e4] 47)
  obtain ⟨x1, x2, x3, x4⟩ := hx
  have D1 : Desk w2 w.heap.size w1.heap.size A1 A2 A3 A4 := (d1.desk.below ((Below.refl w1.heap.size w1).alloc (Nat.le_refl _) _) (Nat.le_refl _)).below b2 (by simp)
  have y2 : Below w.heap.size w w2 := (b1.alloc z1 _).trans (b2.mono (by simp; omega))
  have G0 : Blk (w2.alloc (.cells #[.slice B1 3 e1, .slice B2 2 e2, .slice B3 3 e3, .slice B4 3 e4] 47)) w1.heap.size 47 #[.slice A1 3 a1, .slice A2 2 a2, .slice A3 3 a3, .slice A4 3 a4] := H0.alloc _
  have G1 : Blk (w2.alloc (.cells #[.slice B1 3 e1, .slice B2 2 e2, .slice B3 3 e3, .slice B4 3 e4] 47)) w2.heap.size 47 #[.slice B1 3 e1, .slice B2 2 e2, .slice B3 3 e3, .slice B4 3 e4] := Blk.new _ _ _
  have bw := (Below.refl w2.heap.size w2).alloc (Nat.le_refl _) (.cells #[.slice B1 3 e1, .slice B2 2 e2, .slice B3 3 e3, .slice B4 3 e4] 47)
  have D1' := D1.below bw (by omega)
  have D2 := d2.below bw (Nat.le_refl _)
  have y3 := y2.alloc y2.size (.cells #[.slice B1 3 e1, .slice B2 2 e2, .slice B3 3 e3, .slice B4 3 e4] 47)
  have E0 := Lib.hid G0
  have E1 := Lib.hid G1
  have s2 : w2.heap.size + 1 ≤ (w2.alloc (.cells #[.slice B1 3 e1, .slice B2 2 e2, .slice B3 3 e3, .slice B4 3 e4] 47)).heap.size := by simp
  clear d1 b1 d2 b2 H0 D1 bw y2 G0 G1
  go_wp2_with fail
  refine (eqDesk_b B1 B2 B3 B4 A1 A2 A3 A4 e1 e2 e3 e4 a1 a2 a3 a4 _ _ _ _ _ D2.desk D1' (by simp) (by simp; omega)).mono ?_
  rintro e w3 ⟨rfl, b3⟩
  have s3 : w2.heap.size + 1 ≤ w3.heap.size := Nat.le_trans s2 b3.size
  have y4 := y3.trans (b3.mono y3.size)
  replace D1' := D1'.below b3 (by simp; omega)
  replace D2 := D2.below b3 (by simp)
  have F0 := Lib.hid (E0.out.below b3 (by simp; omega))
  have F1 := Lib.hid (E1.out.below b3 (by simp))
  obtain ⟨x1, x2, x3, x4⟩ := cells4 F0.out
  obtain ⟨x5, x6, x7, x8⟩ := cells4 F1.out
  clear E0 E1 b3 y3 s2
  go_wp2_with fail
  refine (markDesk_b B1 B2 B3 B4 e1 e2 e3 e4 _ _ _ _ _ w3 D2 (by omega)).mono ?_
  rintro e w4 ⟨rfl, D3, k4⟩
  have z4 := k4.size
  replace D1' := D1'.kp k4 (.inl (by simp))
  have y5 := y4.trans (k4.below (B := w.heap.size) (by simp; omega) (by omega))
  have G0 := Lib.hid (F0.out.kp k4 (.inl (by simp)))
  have G1 := Lib.hid (F1.out.kp k4 (.inr (by simp)))
  obtain ⟨x1, x2, x3, x4⟩ := cells4 G0.out
  obtain ⟨x5, x6, x7, x8⟩ := cells4 G1.out
  clear F0 F1 k4 y4
  go_wp2_with fail
  refine (heldDesk_b B1 B2 B3 B4 e1 e2 e3 e4 _ _ _ _ _ w4 D3 (by omega)).mono ?_
  rintro e w5 ⟨rfl, b5⟩
  have z5 := b5.size
  replace D1' := D1'.below b5 (by omega)
  replace D3 := D3.below b5 (by omega)
  have y6 := y5.trans (b5.mono (by omega))
  have F0 := Lib.hid (G0.out.below b5 (by omega))
  have F1 := Lib.hid (G1.out.below b5 (by omega))
  clear b5 y5 G0 G1 x1 x2 x3 x4 x5 x6 x7 x8
  go_wp2_with fail
  refine (newI _).mono ?_
  rintro e w6 ⟨C1, C2, C3, C4, f1, f2, f3, f4, p1, p2, p3, rfl, d6, b6⟩
  have z6 := b6.size
  replace D1' := D1'.below b6 (by omega)
  replace D3 := D3.below b6 (by omega)
  have y7 := y6.trans (b6.mono (by omega))
  have G0 := F0.out.below b6 (by omega)
  have G1 := F1.out.below b6 (by omega)
  have bw := (Below.refl w6.heap.size w6).alloc (Nat.le_refl _) (.cells #[.slice C1 3 f1, .slice C2 2 f2, .slice C3 3 f3, .slice C4 3 f4] 47)
  replace D1' := D1'.below bw (by omega)
  replace D3 := D3.below bw (by omega)
  have D6 := d6.desk.below bw (Nat.le_refl _)
  have y8 := y7.alloc y7.size (.cells #[.slice C1 3 f1, .slice C2 2 f2, .slice C3 3 f3, .slice C4 3 f4] 47)
  have hx := cells4a G0 (.cells #[.slice C1 3 f1, .slice C2 2 f2, .slice C3 3 f3, .slice C4 3 f4] 47)
  obtain ⟨x1, x2, x3, x4⟩ := hx
  have H0 := Lib.hid (G0.alloc (.cells #[.slice C1 3 f1, .slice C2 2 f2, .slice C3 3 f3, .slice C4 3 f4] 47))
  have H1 := Lib.hid (G1.alloc (.cells #[.slice C1 3 f1, .slice C2 2 f2, .slice C3 3 f3, .slice C4 3 f4] 47))
  clear G0 G1 F0 F1 b6 bw d6 y6 y7
  go_wp2_with fail
  refine (eqDesk_b C1 C2 C3 C4 A1 A2 A3 A4 f1 f2 f3 f4 a1 a2 a3 a4 _ _ _ _ _ D6 D1' (by simp) (by simp; omega)).mono ?_
  rintro e w7 ⟨rfl, b7⟩
  have z7 : w6.heap.size + 1 ≤ w7.heap.size := by have := b7.size; simpa using this
  replace D3 := D3.below b7 (by simp; omega)
  have y9 := y8.trans (b7.mono y8.size)
  have G1 := H1.out.below b7 (by simp; omega)
  obtain ⟨x5, x6, x7, x8⟩ := cells4 G1
  clear b7 y8 H0 H1 G1 D1' D6 x1 x2 x3 x4
  go_wp2_with fail
  refine (heldDesk_b B1 B2 B3 B4 e1 e2 e3 e4 _ _ _ _ _ w7 D3 (by omega)).mono ?_
  rintro e w8 ⟨rfl, b8⟩
  have y10 := y9.trans (b8.mono (by omega))
  clear b8 y9
  go_wp2_with fail
  go_ret
  exact ⟨rfl, y10⟩
end Go.Proofs.Ytciakaecdllfcaa
