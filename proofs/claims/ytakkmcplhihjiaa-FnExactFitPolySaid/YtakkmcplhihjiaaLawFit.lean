/-
  The law FnExactFitPoly, walked by contracts.
-/
import Derived.Test.YtakkmcplhihjiaaFitA
import Derived.Test.YtakkmcplhihjiaaMkG
namespace Go.Proofs.Ytakkmcplhihjiaa
open Go.RowKit

theorem eqPolyN (A A' : Option Addr) (c c' B : Nat) (l : List (Nat × Nat)) (w : World) (hr : Reads w B 1 A l.length (cplx l)) (hr' : Reads w B 1 A' l.length (cplx l)) (hB : B ≤ w.heap.size) (hw : Wids l) (hn : l.length ≤ 1048576) :
    Calls Try.prog 13 #[.agg #[.slice A l.length c], .agg #[.slice A' l.length c']] w fun e w' => e = .returned (.bool true) ∧ Below w.heap.size w w' := eqPoly_b A A' c c' B l w hr hr' hB hw hn
theorem markPolyN (A : Option Addr) (c lo hi : Nat) (k0 : Int) (l : List (Nat × Nat)) (w : World) (ho : Own w lo hi 69 A (cplx l)) (hi2 : hi ≤ w.heap.size) (hk0 : 0 ≤ k0) (hn : k0 + (l.length : Int) < 256) :
    Calls Try.prog 14 #[.agg #[.slice A l.length c], .int .i64 k0] w fun e w' => e = .returned (.int .i64 (k0 + (l.length : Int))) ∧ Own w' lo hi 69 A (cplx (cmarks k0 l.length)) ∧ Kp lo hi w w' := markPoly_b A c lo hi k0 l w ho hi2 hk0 hn
theorem heldPolyN (A : Option Addr) (c B : Nat) (k0 : Int) (n : Nat) (w : World) (hr : Reads w B 1 A n (cplx (cmarks k0 n))) (hB : B ≤ w.heap.size) (hk0 : 0 ≤ k0) (hn : k0 + (n : Int) < 256) :
    Calls Try.prog 15 #[.agg #[.slice A n c], .int .i64 k0] w fun e w' => e = .returned (.int .i64 (k0 + (n : Int))) ∧ Below w.heap.size w w' := heldPoly_b A c B k0 n w hr hB hk0 hn
/-- What is given, whether there is a polynomial or none. -/
theorem givesF_any {ans : Option (List (Nat × Nat))} {w w' : World} {e : Ending} (h : GivesF ans w e w') : ∃ A c, e = .returned (.tuple #[.agg #[.slice A (ans.getD []).length c], .bool ans.isSome]) ∧ Own w' w.heap.size w'.heap.size 69 A (cplx (ans.getD [])) ∧ Below w.heap.size w w' := by
  obtain ⟨hb, h⟩ := h
  cases ans with
  | none => exact ⟨none, 0, h, .inl rfl, hb⟩
  | some l =>
    obtain ⟨g, c, he, ho⟩ := h
    exact ⟨_, c, he, ho, hb⟩
/-- A call of a fit, as it answers. -/
def FitC (f : FuncId) (xs ys ws : List Nat) (d : Int) (l : List (Nat × Nat)) (b : Bool) : Prop :=
  ∀ (A1 A2 A3 : Option Addr) (c1 c2 c3 : Nat) (w : World), Reads w w.heap.size 1 A1 xs.length (flts xs) → Reads w w.heap.size 1 A2 ys.length (flts ys) → Reads w w.heap.size 1 A3 ws.length (flts ws) →
    Calls Try.prog f #[.slice A1 xs.length c1, .slice A2 ys.length c2, .slice A3 ws.length c3, .int .i64 d] w fun e w' => ∃ A c, e = .returned (.tuple #[.agg #[.slice A l.length c], .bool b]) ∧ Own w' w.heap.size w'.heap.size 69 A (cplx l) ∧ Below w.heap.size w w'
theorem bne_same (b : Bool) : (b != b) = false := by cases b <;> rfl

set_option maxRecDepth 100000 in
set_option maxHeartbeats 6400000 in
theorem lawFit_in (A1 A2 A3 : Option Addr) (c1 c2 c3 : Nat) (xs ys ws : List Nat) (d : Int) (l : List (Nat × Nat)) (b : Bool) (HS : FitC 10 xs ys ws d l b) (HI : FitC 12 xs ys ws d l b) (hl : l.length ≤ 17) (hwid0 : Wids l) (w : World)
    (h1 : Reads w w.heap.size 1 A1 xs.length (flts xs)) (h2 : Reads w w.heap.size 1 A2 ys.length (flts ys)) (h3 : Reads w w.heap.size 1 A3 ws.length (flts ws)) (n1 : xs.length ≤ 1048576) (n2 : ys.length ≤ 1048576) (n3 : ws.length ≤ 1048576) :
    Calls Try.prog 4 #[.slice A1 xs.length c1, .slice A2 ys.length c2, .slice A3 ws.length c3, .int .i64 d] w fun e w' => e = .returned (.bool true) ∧ Below w.heap.size w w' := by
  unfold FitC at HS HI
  have hwid := Lib.hid hwid0
  have hbne := bne_same b
  clear hwid0
  go_enter Try.func4, Try.ntmps4
  go_wp2_with fail
  (with_reducible refine (toFloat32S_any A1 c1 w.heap.size xs w h1 (by omega) n1).mono ?_)
  rintro e w1 ⟨Q1, e1, rfl, p1, b1⟩
  have z1 := b1.size
  have y1 := b1
  clear b1
  go_wp2_with fail
  (with_reducible refine (toFloat32S_any A2 c2 w.heap.size ys w1 (h2.below y1) (by omega) n2).mono ?_)
  rintro e w2 ⟨Q2, e2, rfl, p2, b2⟩
  have z2 := b2.size
  have y2 := y1.trans (b2.mono (by omega))
  replace p1 := p1.below b2 (by omega)
  clear b2 y1
  go_wp2_with fail
  (with_reducible refine (toFloat32S_any A3 c3 w.heap.size ws w2 (h3.below y2) (by omega) n3).mono ?_)
  rintro e w3 ⟨Q3, e3, rfl, p3, b3⟩
  have z3 := b3.size
  have y3 := y2.trans (b3.mono (by omega))
  replace p1 := p1.below b3 (by omega)
  replace p2 := p2.below b3 (by omega)
  clear b3 y2
  go_wp2_with fail
  (with_reducible refine (HS (Q1) (Q2) (Q3) e1 e2 e3 w3 (p1.reads' (by omega) (flts_len _)) (p2.reads' (by omega) (flts_len _)) (p3.reads' (by omega) (flts_len _))).mono ?_)
  rintro e w4 ⟨G4, d4, rfl, og, b4⟩
  have z4 := b4.size
  have y4 := y3.trans (b4.mono (by omega))
  replace p1 := p1.below b4 (by omega)
  replace p2 := p2.below b4 (by omega)
  replace p3 := p3.below b4 (by omega)
  clear b4 y3
  clear p1 p2 p3
  go_wp2_with fail
  have b5 : Below w4.heap.size w4 (w4.alloc (.cells #[.slice G4 l.length d4] 30)) := (Below.refl _ _).alloc (Nat.le_refl _) _
  have v9 := Blk.new w4 30 #[.slice G4 l.length d4]
  have s5 : (w4.alloc (.cells #[.slice G4 l.length d4] 30)).heap.size = w4.heap.size + 1 := by simp
  generalize w4.alloc (.cells #[.slice G4 l.length d4] 30) = w5 at b5 v9 s5 ⊢
  have z5 := b5.size
  have y5 := y4.trans (b5.mono (by omega))
  replace og := og.below b5 (by omega)
  clear b5 y4
  (with_reducible refine (toFloat32S_any A1 c1 w.heap.size xs w5 (h1.below y5) (by omega) n1).mono ?_)
  rintro e w6 ⟨Q6, e6, rfl, q1, b6⟩
  have z6 := b6.size
  have y6 := y5.trans (b6.mono (by omega))
  replace og := og.below b6 (by omega)
  replace v9 := v9.below b6 (by omega)
  clear b6 y5
  go_wp2_with fail
  (with_reducible refine (toFloat32S_any A2 c2 w.heap.size ys w6 (h2.below y6) (by omega) n2).mono ?_)
  rintro e w7 ⟨Q7, e7, rfl, q2, b7⟩
  have z7 := b7.size
  have y7 := y6.trans (b7.mono (by omega))
  replace og := og.below b7 (by omega)
  replace v9 := v9.below b7 (by omega)
  replace q1 := q1.below b7 (by omega)
  clear b7 y6
  go_wp2_with fail
  (with_reducible refine (toFloat32S_any A3 c3 w.heap.size ws w7 (h3.below y7) (by omega) n3).mono ?_)
  rintro e w8 ⟨Q8, e8, rfl, q3, b8⟩
  have z8 := b8.size
  have y8 := y7.trans (b8.mono (by omega))
  replace og := og.below b8 (by omega)
  replace v9 := v9.below b8 (by omega)
  replace q1 := q1.below b8 (by omega)
  replace q2 := q2.below b8 (by omega)
  clear b8 y7
  go_wp2_with fail
  (with_reducible refine (HI (Q6) (Q7) (Q8) e6 e7 e8 w8 (q1.reads' (by omega) (flts_len _)) (q2.reads' (by omega) (flts_len _)) (q3.reads' (by omega) (flts_len _))).mono ?_)
  rintro e w9 ⟨G9, d9, rfl, oh, b9⟩
  have z9 := b9.size
  have y9 := y8.trans (b9.mono (by omega))
  replace og := og.below b9 (by omega)
  replace v9 := v9.below b9 (by omega)
  replace q1 := q1.below b9 (by omega)
  replace q2 := q2.below b9 (by omega)
  replace q3 := q3.below b9 (by omega)
  clear b9 y8
  have c9a : (w9.alloc (.cells #[.slice G9 l.length d9] 30)).cell? ⟨w4.heap.size, 0, none⟩ = some (.slice G4 l.length d4) := (v9.below ((Below.refl w9.heap.size _).alloc (Nat.le_refl _) _) (by omega)).cell 0
  go_wp2_with fail
  clear c9a
  have b10 : Below w9.heap.size w9 (w9.alloc (.cells #[.slice G9 l.length d9] 30)) := (Below.refl _ _).alloc (Nat.le_refl _) _
  have v14 := Blk.new w9 30 #[.slice G9 l.length d9]
  have s10 : (w9.alloc (.cells #[.slice G9 l.length d9] 30)).heap.size = w9.heap.size + 1 := by simp
  generalize w9.alloc (.cells #[.slice G9 l.length d9] 30) = w10 at b10 v14 s10 ⊢
  have z10 := b10.size
  have y10 := y9.trans (b10.mono (by omega))
  replace og := og.below b10 (by omega)
  replace v9 := v9.below b10 (by omega)
  replace q1 := q1.below b10 (by omega)
  replace q2 := q2.below b10 (by omega)
  replace q3 := q3.below b10 (by omega)
  replace oh := oh.below b10 (by omega)
  clear b10 y9
  (with_reducible refine (eqPolyN G9 G4 d9 d4 w10.heap.size l w10 (oh.reads' (by omega) (cplx_len _)) (og.reads' (by omega) (cplx_len _)) (Nat.le_refl _) hwid.out (by omega)).mono ?_)
  rintro e w11 ⟨rfl, b11⟩
  have z11 := b11.size
  have y11 := y10.trans (b11.mono (by omega))
  replace og := og.below b11 (by omega)
  replace v9 := v9.below b11 (by omega)
  replace q1 := q1.below b11 (by omega)
  replace q2 := q2.below b11 (by omega)
  replace q3 := q3.below b11 (by omega)
  replace oh := oh.below b11 (by omega)
  replace v14 := v14.below b11 (by omega)
  clear b11 y10
  go_wp2_with fail
  (with_reducible refine (toFloat32S_any A1 c1 w.heap.size xs w11 (h1.below y11) (by omega) n1).mono ?_)
  rintro e w12 ⟨Q12, e12, rfl, t1, b12⟩
  have z12 := b12.size
  have y12 := y11.trans (b12.mono (by omega))
  replace og := og.below b12 (by omega)
  replace v9 := v9.below b12 (by omega)
  replace q1 := q1.below b12 (by omega)
  replace q2 := q2.below b12 (by omega)
  replace q3 := q3.below b12 (by omega)
  replace oh := oh.below b12 (by omega)
  replace v14 := v14.below b12 (by omega)
  clear b12 y11
  go_wp2_with fail
  (with_reducible refine (eqFloat32S_all Q6 Q12 e6 e12 w12.heap.size xs w12 (q1.reads' (by omega) (flts_len _)) (t1.reads' (by omega) (flts_len _)) n1).mono ?_)
  rintro e w13 ⟨rfl, b13⟩
  have z13 := b13.size
  have y13 := y12.trans (b13.mono (by omega))
  replace og := og.below b13 (by omega)
  replace v9 := v9.below b13 (by omega)
  replace q1 := q1.below b13 (by omega)
  replace q2 := q2.below b13 (by omega)
  replace q3 := q3.below b13 (by omega)
  replace oh := oh.below b13 (by omega)
  replace v14 := v14.below b13 (by omega)
  replace t1 := t1.below b13 (by omega)
  clear b13 y12
  clear t1
  go_wp2_with fail
  (with_reducible refine (toFloat32S_any A2 c2 w.heap.size ys w13 (h2.below y13) (by omega) n2).mono ?_)
  rintro e w14 ⟨Q14, e14, rfl, t1, b14⟩
  have z14 := b14.size
  have y14 := y13.trans (b14.mono (by omega))
  replace og := og.below b14 (by omega)
  replace v9 := v9.below b14 (by omega)
  replace q1 := q1.below b14 (by omega)
  replace q2 := q2.below b14 (by omega)
  replace q3 := q3.below b14 (by omega)
  replace oh := oh.below b14 (by omega)
  replace v14 := v14.below b14 (by omega)
  clear b14 y13
  go_wp2_with fail
  (with_reducible refine (eqFloat32S_all Q7 Q14 e7 e14 w14.heap.size ys w14 (q2.reads' (by omega) (flts_len _)) (t1.reads' (by omega) (flts_len _)) n2).mono ?_)
  rintro e w15 ⟨rfl, b15⟩
  have z15 := b15.size
  have y15 := y14.trans (b15.mono (by omega))
  replace og := og.below b15 (by omega)
  replace v9 := v9.below b15 (by omega)
  replace q1 := q1.below b15 (by omega)
  replace q2 := q2.below b15 (by omega)
  replace q3 := q3.below b15 (by omega)
  replace oh := oh.below b15 (by omega)
  replace v14 := v14.below b15 (by omega)
  replace t1 := t1.below b15 (by omega)
  clear b15 y14
  clear t1
  go_wp2_with fail
  (with_reducible refine (toFloat32S_any A3 c3 w.heap.size ws w15 (h3.below y15) (by omega) n3).mono ?_)
  rintro e w16 ⟨Q16, e16, rfl, t1, b16⟩
  have z16 := b16.size
  have y16 := y15.trans (b16.mono (by omega))
  replace og := og.below b16 (by omega)
  replace v9 := v9.below b16 (by omega)
  replace q1 := q1.below b16 (by omega)
  replace q2 := q2.below b16 (by omega)
  replace q3 := q3.below b16 (by omega)
  replace oh := oh.below b16 (by omega)
  replace v14 := v14.below b16 (by omega)
  clear b16 y15
  go_wp2_with fail
  (with_reducible refine (eqFloat32S_all Q8 Q16 e8 e16 w16.heap.size ws w16 (q3.reads' (by omega) (flts_len _)) (t1.reads' (by omega) (flts_len _)) n3).mono ?_)
  rintro e w17 ⟨rfl, b17⟩
  have z17 := b17.size
  have y17 := y16.trans (b17.mono (by omega))
  replace og := og.below b17 (by omega)
  replace v9 := v9.below b17 (by omega)
  replace q1 := q1.below b17 (by omega)
  replace q2 := q2.below b17 (by omega)
  replace q3 := q3.below b17 (by omega)
  replace oh := oh.below b17 (by omega)
  replace v14 := v14.below b17 (by omega)
  replace t1 := t1.below b17 (by omega)
  clear b17 y16
  clear t1
  go_wp2_with fail
  (with_reducible refine (markFloat32S_big Q6 e6 w5.heap.size w6.heap.size (1) xs w17 q1 (by omega) (by omega) n1).mono ?_)
  rintro e w18 ⟨rfl, m18, b18⟩
  have z18 := b18.size
  have y18 := y17.trans (b18.below (by omega) (by omega))
  replace og := og.kp b18 (by omega)
  replace v9 := v9.kp b18 (by omega)
  replace q2 := q2.kp b18 (by omega)
  replace q3 := q3.kp b18 (by omega)
  replace oh := oh.kp b18 (by omega)
  replace v14 := v14.kp b18 (by omega)
  replace q1 := m18
  clear b18 y17
  go_wp2_with fail
  (with_reducible refine (markFloat32S_big Q7 e7 w6.heap.size w7.heap.size (1 + (xs.length : Int)) ys w18 q2 (by omega) (by omega) n2).mono ?_)
  rintro e w19 ⟨rfl, m19, b19⟩
  have z19 := b19.size
  have y19 := y18.trans (b19.below (by omega) (by omega))
  replace og := og.kp b19 (by omega)
  replace v9 := v9.kp b19 (by omega)
  replace q1 := q1.kp b19 (by omega)
  replace q3 := q3.kp b19 (by omega)
  replace oh := oh.kp b19 (by omega)
  replace v14 := v14.kp b19 (by omega)
  replace q2 := m19
  clear b19 y18
  go_wp2_with fail
  (with_reducible refine (markFloat32S_big Q8 e8 w7.heap.size w8.heap.size (1 + (xs.length : Int) + (ys.length : Int)) ws w19 q3 (by omega) (by omega) n3).mono ?_)
  rintro e w20 ⟨rfl, m20, b20⟩
  have z20 := b20.size
  have y20 := y19.trans (b20.below (by omega) (by omega))
  replace og := og.kp b20 (by omega)
  replace v9 := v9.kp b20 (by omega)
  replace q1 := q1.kp b20 (by omega)
  replace q2 := q2.kp b20 (by omega)
  replace oh := oh.kp b20 (by omega)
  replace v14 := v14.kp b20 (by omega)
  replace q3 := m20
  clear b20 y19
  have c9 : w20.cell? ⟨w4.heap.size, 0, none⟩ = some (.slice G4 l.length d4) := v9.cell 0
  have c14 : w20.cell? ⟨w9.heap.size, 0, none⟩ = some (.slice G9 l.length d9) := v14.cell 0
  have hk : ¬ (1 + (xs.length : Int) + (ys.length : Int) + (ws.length : Int) < 0) := by omega
  go_wp2_with fail
  clear c9 c14
  clear q1 q2 q3
  (with_reducible refine (eqPolyN G9 G4 d9 d4 w20.heap.size l w20 (oh.reads' (by omega) (cplx_len _)) (og.reads' (by omega) (cplx_len _)) (Nat.le_refl _) hwid.out (by omega)).mono ?_)
  rintro e w21 ⟨rfl, b21⟩
  have z21 := b21.size
  have y21 := y20.trans (b21.mono (by omega))
  replace og := og.below b21 (by omega)
  replace v9 := v9.below b21 (by omega)
  replace oh := oh.below b21 (by omega)
  replace v14 := v14.below b21 (by omega)
  clear b21 y20
  have c14 : w21.cell? ⟨w9.heap.size, 0, none⟩ = some (.slice G9 l.length d9) := v14.cell 0
  go_wp2_with fail
  clear c14
  (with_reducible refine (markPolyN G9 d9 w8.heap.size w9.heap.size 1 l w21 oh (by omega) (by omega) (by omega)).mono ?_)
  rintro e w22 ⟨rfl, m22, b22⟩
  have z22 := b22.size
  have y22 := y21.trans (b22.below (by omega) (by omega))
  replace og := og.kp b22 (by omega)
  replace v9 := v9.kp b22 (by omega)
  replace v14 := v14.kp b22 (by omega)
  replace oh := m22
  clear b22 y21
  have c14 : w22.cell? ⟨w9.heap.size, 0, none⟩ = some (.slice G9 l.length d9) := v14.cell 0
  go_wp2_with fail
  clear c14
  (with_reducible refine (heldPolyN G9 d9 w22.heap.size 1 l.length w22 (oh.reads' (by omega) (by simp)) (Nat.le_refl _) (by omega) (by omega)).mono ?_)
  rintro e w23 ⟨rfl, b23⟩
  have z23 := b23.size
  have y23 := y22.trans (b23.mono (by omega))
  replace og := og.below b23 (by omega)
  replace v9 := v9.below b23 (by omega)
  replace oh := oh.below b23 (by omega)
  replace v14 := v14.below b23 (by omega)
  clear b23 y22
  have hk2 : ¬ (1 + (l.length : Int) < 0) := by omega
  go_wp2_with fail
  (with_reducible refine (toFloat32S_any A1 c1 w.heap.size xs w23 (h1.below y23) (by omega) n1).mono ?_)
  rintro e w24 ⟨Q24, e24, rfl, r1, b24⟩
  have z24 := b24.size
  have y24 := y23.trans (b24.mono (by omega))
  replace og := og.below b24 (by omega)
  replace v9 := v9.below b24 (by omega)
  replace oh := oh.below b24 (by omega)
  replace v14 := v14.below b24 (by omega)
  clear b24 y23
  go_wp2_with fail
  (with_reducible refine (toFloat32S_any A2 c2 w.heap.size ys w24 (h2.below y24) (by omega) n2).mono ?_)
  rintro e w25 ⟨Q25, e25, rfl, r2, b25⟩
  have z25 := b25.size
  have y25 := y24.trans (b25.mono (by omega))
  replace og := og.below b25 (by omega)
  replace v9 := v9.below b25 (by omega)
  replace oh := oh.below b25 (by omega)
  replace v14 := v14.below b25 (by omega)
  replace r1 := r1.below b25 (by omega)
  clear b25 y24
  go_wp2_with fail
  (with_reducible refine (toFloat32S_any A3 c3 w.heap.size ws w25 (h3.below y25) (by omega) n3).mono ?_)
  rintro e w26 ⟨Q26, e26, rfl, r3, b26⟩
  have z26 := b26.size
  have y26 := y25.trans (b26.mono (by omega))
  replace og := og.below b26 (by omega)
  replace v9 := v9.below b26 (by omega)
  replace oh := oh.below b26 (by omega)
  replace v14 := v14.below b26 (by omega)
  replace r1 := r1.below b26 (by omega)
  replace r2 := r2.below b26 (by omega)
  clear b26 y25
  go_wp2_with fail
  (with_reducible refine (HI (Q24) (Q25) (Q26) e24 e25 e26 w26 (r1.reads' (by omega) (flts_len _)) (r2.reads' (by omega) (flts_len _)) (r3.reads' (by omega) (flts_len _))).mono ?_)
  rintro e w27 ⟨G27, d27, rfl, ok, b27⟩
  have z27 := b27.size
  have y27 := y26.trans (b27.mono (by omega))
  replace og := og.below b27 (by omega)
  replace v9 := v9.below b27 (by omega)
  replace oh := oh.below b27 (by omega)
  replace v14 := v14.below b27 (by omega)
  replace r1 := r1.below b27 (by omega)
  replace r2 := r2.below b27 (by omega)
  replace r3 := r3.below b27 (by omega)
  clear b27 y26
  clear r1 r2 r3
  have c9a : (w27.alloc (.cells #[.slice G27 l.length d27] 30)).cell? ⟨w4.heap.size, 0, none⟩ = some (.slice G4 l.length d4) := (v9.below ((Below.refl w27.heap.size _).alloc (Nat.le_refl _) _) (by omega)).cell 0
  go_wp2_with fail
  clear c9a
  have b28 : Below w27.heap.size w27 (w27.alloc (.cells #[.slice G27 l.length d27] 30)) := (Below.refl _ _).alloc (Nat.le_refl _) _
  have v19 := Blk.new w27 30 #[.slice G27 l.length d27]
  have s28 : (w27.alloc (.cells #[.slice G27 l.length d27] 30)).heap.size = w27.heap.size + 1 := by simp
  generalize w27.alloc (.cells #[.slice G27 l.length d27] 30) = w28 at b28 v19 s28 ⊢
  have z28 := b28.size
  have y28 := y27.trans (b28.mono (by omega))
  replace og := og.below b28 (by omega)
  replace v9 := v9.below b28 (by omega)
  replace oh := oh.below b28 (by omega)
  replace v14 := v14.below b28 (by omega)
  replace ok := ok.below b28 (by omega)
  clear b28 y27
  (with_reducible refine (eqPolyN G27 G4 d27 d4 w28.heap.size l w28 (ok.reads' (by omega) (cplx_len _)) (og.reads' (by omega) (cplx_len _)) (Nat.le_refl _) hwid.out (by omega)).mono ?_)
  rintro e w29 ⟨rfl, b29⟩
  have z29 := b29.size
  have y29 := y28.trans (b29.mono (by omega))
  replace og := og.below b29 (by omega)
  replace v9 := v9.below b29 (by omega)
  replace oh := oh.below b29 (by omega)
  replace v14 := v14.below b29 (by omega)
  replace ok := ok.below b29 (by omega)
  replace v19 := v19.below b29 (by omega)
  clear b29 y28
  have c14 : w29.cell? ⟨w9.heap.size, 0, none⟩ = some (.slice G9 l.length d9) := v14.cell 0
  go_wp2_with fail
  clear c14
  (with_reducible refine (heldPolyN G9 d9 w29.heap.size 1 l.length w29 (oh.reads' (by omega) (by simp)) (Nat.le_refl _) (by omega) (by omega)).mono ?_)
  rintro e w30 ⟨rfl, b30⟩
  have z30 := b30.size
  have y30 := y29.trans (b30.mono (by omega))
  replace og := og.below b30 (by omega)
  replace v9 := v9.below b30 (by omega)
  replace oh := oh.below b30 (by omega)
  replace v14 := v14.below b30 (by omega)
  replace ok := ok.below b30 (by omega)
  replace v19 := v19.below b30 (by omega)
  clear b30 y29
  go_wp2
  go_ret
  exact ⟨rfl, y30⟩
end Go.Proofs.Ytakkmcplhihjiaa
