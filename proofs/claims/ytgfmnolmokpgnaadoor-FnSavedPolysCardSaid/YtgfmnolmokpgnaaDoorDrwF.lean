/-
  Contracts: polynomials and wholes drawn of a source (l02DrawSmall, l02DrawTerms, l02DrawOk, l03DrawTerms, l03DrawOk): they are valid.
-/
import Derived.Test.YtgfmnolmokpgnaaDoorDrw
namespace Go.Proofs.YtgfmnolmokpgnaaDoor
open Go.RowKit

/-- A whole number as a 32-bit number, by another one. -/
def qt (n : Int) (d : Nat) : Nat := (floatBits .quo .f32 (floatOfInt .f32 n) d).getD 0
theorem qt_small (x : Nat) (h : x < 33) : floatBits .quo .f32 (floatOfInt .f32 ((x : Int) - 16)) 1082130432 = some (qt ((x : Int) - 16) 1082130432) ∧ fin32B (qt ((x : Int) - 16) 1082130432) = true ∧ qt ((x : Int) - 16) 1082130432 < 4294967296 := by
  have key : ∀ n ∈ List.range 33, floatBits .quo .f32 (floatOfInt .f32 ((n : Int) - 16)) 1082130432 = some (qt ((n : Int) - 16) 1082130432) ∧ fin32B (qt ((n : Int) - 16) 1082130432) = true ∧ qt ((n : Int) - 16) 1082130432 < 4294967296 := by decide +kernel
  exact key x (List.mem_range.2 h)
theorem qt_last (x : Nat) (h : x < 8) : floatBits .quo .f32 (floatOfInt .f32 (1 + (x : Int))) 1073741824 = some (qt (1 + (x : Int)) 1073741824) ∧ fin32B (qt (1 + (x : Int)) 1073741824) = true ∧ qt (1 + (x : Int)) 1073741824 < 4294967296 ∧ zeroC (qt (1 + (x : Int)) 1073741824, 0) = false := by
  have key : ∀ n ∈ List.range 8, floatBits .quo .f32 (floatOfInt .f32 (1 + (n : Int))) 1073741824 = some (qt (1 + (n : Int)) 1073741824) ∧ fin32B (qt (1 + (n : Int)) 1073741824) = true ∧ qt (1 + (n : Int)) 1073741824 < 4294967296 ∧ zeroC (qt (1 + (n : Int)) 1073741824, 0) = false := by decide +kernel
  exact key x (List.mem_range.2 h)
theorem fin_zero : fin32B 0 = true := by decide +kernel

/-- A complex number of finite parts, of 32 bits each. -/
def Okc (z : Nat × Nat) : Prop := finCB z = true ∧ z.1 < 4294967296 ∧ z.2 < 4294967296
theorem okc {x y : Nat} (h1 : fin32B x = true) (h2 : fin32B y = true) (h3 : x < 4294967296) (h4 : y < 4294967296) : Okc (x, y) := ⟨by simp [finCB, h1, h2], h3, h4⟩

set_option maxRecDepth 100000 in
theorem drawSmall_any (g c m : Nat) (A : Option Addr) (zs : List Int) (w : World) (h : Src w g c A zs m) (hm : m ≤ 1000) :
    Calls Tryd.prog 48 #[.pointer (some ⟨g, 0, none⟩)] w fun e w' => ∃ x y, e = .returned (.complex .f32 x y) ∧ Okc (x, y) ∧ Src w' g c A zs (m + 3) ∧ Kp g (g + 1) w w' := by
  have H := h.pick (by omega) 33 (by omega)
  go_enter Tryd.func48, Tryd.ntmps48
  go_wp2_with fail
  refine H.mono ?_
  rintro e w1 ⟨x, rfl, hx, hs1, hk1⟩
  clear H
  obtain ⟨f1, f2, f3⟩ := qt_small x (by omega)
  have H1 := one_any g c _ A zs w1 hs1 (by omega)
  generalize qt ((x : Int) - 16) 1082130432 = q at *
  have hQ := fun w => run_float_arith (P := Tryd.prog) w .quo 79 .f32 _ _ q f1
  go_wp2_with fail
  refine H1.mono ?_
  rintro e w2 ⟨b, rfl, hs2, hk2⟩
  clear H1
  cases b with
  | true =>
    go_wp2
    go_ret
    exact ⟨q, 0, rfl, okc f2 fin_zero f3 (by omega), hs2.up (by omega), hk1.trans hk2⟩
  | false =>
    have H2 := hs2.pick (by omega) 33 (by omega)
    go_wp2_with fail
    refine H2.mono ?_
    rintro e w3 ⟨y, rfl, hy, hs3, hk3⟩
    clear H2
    obtain ⟨g1, g2, g3⟩ := qt_small y (by omega)
    generalize qt ((y : Int) - 16) 1082130432 = q2 at *
    have hQ2 := fun w => run_float_arith (P := Tryd.prog) w .quo 79 .f32 _ _ q2 g1
    go_wp2
    go_ret
    exact ⟨q, q2, rfl, okc f2 g2 f3 g3, hs3, (hk1.trans hk2).trans hk3⟩
/-- Numbers of a list are good. -/
def Okl (l : List (Nat × Nat)) : Prop := ∀ z ∈ l, Okc z
theorem okl_valid {l : List (Nat × Nat)} {q : Nat} (h : Okl l) (hl : l.length ≤ 16) (hq : Okc (q, 0)) (hz : zeroC (q, 0) = false) : polyB (l ++ [(q, 0)]) = true ∧ Okl (l ++ [(q, 0)]) := by
  have ho : Okl (l ++ [(q, 0)]) := fun z hz => by
    rcases List.mem_append.1 hz with h' | h'
    · exact h z h'
    · obtain rfl : z = (q, 0) := by simpa using h'
      exact hq
  refine ⟨?_, ho⟩
  unfold polyB
  have h1 : (l ++ [(q, 0)]).all finCB = true := List.all_eq_true.2 fun z hz => (ho z hz).1
  have h2 : (l ++ [(q, 0)]).getD ((l ++ [(q, 0)]).length - 1) (0, 0) = (q, 0) := by simp [List.getD]
  rw [h1, h2, hz]
  simp; omega

theorem cplx_snoc (l : List (Nat × Nat)) (x y : Nat) : cplx l ++ [.complex .f32 x y] = cplx (l ++ [(x, y)]) := by simp [cplx]

set_option maxRecDepth 100000 in
set_option maxHeartbeats 800000 in
theorem drawTerms_any (g c m n : Nat) (A : Option Addr) (zs : List Int) (w : World) (h : Src w g c A zs m) (hm : m ≤ 900) (hn : 1 ≤ n ∧ n ≤ 6) :
    Calls Tryd.prog 30 #[.pointer (some ⟨g, 0, none⟩), .int .i64 (n : Int)] w fun e w' => ∃ A' c' l, e = .returned (.slice A' l.length c') ∧ polyB l = true ∧ Okl l ∧ Own w' w.heap.size w'.heap.size 76 A' (cplx l) ∧ Src w' g c A zs (m + 16) ∧ Kp g (g + 1) w w' := by
  obtain ⟨i0, hi, hz0, hz1, hz2⟩ := info_parts infoC
  have hg := h.lt
  go_enter Tryd.func30, Tryd.ntmps30
  go_wp2
  have hown0 : (w.alloc (.cells #[] 76)).ownsRow w.heap.size 76 1 (.slice (some ⟨w.heap.size, 0, none⟩) 0 0) 0 (cplx []) := World.ownsRow_made w #[] 0 (Nat.le_refl _) (by simp [maxLen]) rfl
  have hb0 : Below w.heap.size w (w.alloc (.cells #[] 76)) := (Below.refl _ _).alloc (Nat.le_refl _) _
  have hs0 := h.below hb0 hg
  go_loopw [1, 5] (fun q v wr => ∃ k : Nat, k + 1 ≤ n ∧ q = .int .i64 ((n : Int) - (k : Int)) ∧ (∃ l : List (Nat × Nat), l.length = k ∧ Hid (Okl l) ∧ wr.ownsRow w.heap.size 76 1 v k (cplx l)) ∧ Src wr g c A zs (m + 3 * k) ∧ Kp g (g + 1) w wr) (fun q _ _ => (intOf q).toNat)
  case atStart => exact ⟨0, hn.1, by simp, ⟨[], rfl, fun x hx => by simp at hx, hown0⟩, hs0, Kp.of_below hb0⟩
  case round =>
    obtain ⟨k, hk, rfl, ⟨l, hl, hLx, hown⟩, hsr, hkr⟩ := hrel
    clear hown0 hb0 hs0
    obtain ⟨Ao, co, rfl, -, hko, hO⟩ := Own.of_row hown (Nat.le_refl _)
    have hsz := hkr.size
    clear hO
    obtain ⟨wo, rfl⟩ : ∃ wo : World, wo = wr := ⟨_, rfl⟩
    by_cases hlt : k + 1 < n
    · have H := drawSmall_any g c _ A zs wo hsr (by omega)
      have hgt : ((n : Int) - (k : Int)) > 1 := by omega
      go_wp2_with fail
      refine H.mono ?_
      rintro e w2 ⟨x, y, rfl, hxy, hs2, hk2⟩
      have hown2 := ownsRow_kp hown hk2 (by omega)
      have hsz2 := hk2.size
      clear hown H
      go_wp2_with (at_builtin; refine wpList_append_any _ rfl (.tmp 12) (.tmp 15) _ rfl w.heap.size 76 i0 _ 1 8 Tryd.underlying29 hi hz0 hz1 hz2 rfl (by omega) (.slice Ao k co) k (cplx l) rfl (hown2.alloc _) (w2.heap.size + 1) (some ⟨w2.heap.size, 0, none⟩) 1 1 [.complex .f32 x y] rfl (reads_new w2 [_] _) (one_cx x y) (by simp only [maxLen]; omega) (by omega) (by simp; omega) ?_; intro v1 w3 hown3 hg3 hat3)
      have hb3 : Below w.heap.size w2 w3 := ((Below.refl _ _).alloc (by omega) _).grown hg3 (by simp; omega) (fun j hj => (hown2.lt j hj).1)
      have hs3 := hs2.below hb3 hg
      have hk3 : Kp g (g + 1) w w3 := ⟨hb3.os.trans (hkr.trans hk2).os, hb3.tape.trans (hkr.trans hk2).tape, hb3.output.trans (hkr.trans hk2).output, Nat.le_trans (hkr.trans hk2).size (Nat.le_trans (by simp) hg3.size), fun i hi hd => (hb3.block i (by omega)).trans ((hkr.trans hk2).block i hi hd)⟩
      obtain ⟨A1, c1, rfl⟩ : ∃ A1 c1, v1 = .slice A1 (k + 1) c1 := by
        obtain ⟨A1, c1, h, -⟩ := Own.of_row hown3 (Nat.le_refl _)
        exact ⟨A1, c1, h⟩
      rw [cplx_snoc] at hown3
      refine ⟨⟨k + 1, by omega, by go_num, ⟨l ++ [(x, y)], by simp [hl], ?_, hown3⟩, hs3.up (by omega), hk3⟩, by simp [intOf]; omega⟩
      intro z hz
      rcases List.mem_append.1 hz with h | h
      · exact hLx.out z h
      · obtain rfl : z = (x, y) := by simpa using h
        exact hxy
    · obtain rfl : n = k + 1 := by omega
      have H := hsr.pick (by omega) 8 (by omega)
      go_wp2_with fail
      refine H.mono ?_
      rintro e w2 ⟨x, rfl, hx, hs2, hk2⟩
      obtain ⟨f1, f2, f3, f4⟩ := qt_last x (by omega)
      have hown2 := ownsRow_kp hown hk2 (by omega)
      have hsz2 := hk2.size
      generalize qt (1 + (x : Int)) 1073741824 = q at *
      have hQ := fun w => run_float_arith (P := Tryd.prog) w .quo 79 .f32 _ _ q f1
      obtain ⟨v1', v2'⟩ := okl_valid (q := q) hLx.out (by omega) (okc f2 fin_zero f3 (by omega)) f4
      have HV1 := Lib.hid v1'
      have HV2 := Lib.hid v2'
      clear hown H f1 f2 f4 v1' v2' hLx
      go_wp2_with (at_builtin; refine wpList_append_any _ rfl (.tmp 22) (.tmp 25) _ rfl w.heap.size 76 i0 _ 1 8 Tryd.underlying29 hi hz0 hz1 hz2 rfl (by omega) (.slice Ao k co) k (cplx l) rfl (hown2.alloc _) (w2.heap.size + 1) (some ⟨w2.heap.size, 0, none⟩) 1 1 [.complex .f32 q 0] rfl (reads_new w2 [_] _) (one_cx q 0) (by simp only [maxLen]; omega) (by omega) (by simp; omega) ?_; intro v1 w3 hown3 hg3 hat3)
      have hb3 : Below w.heap.size w2 w3 := ((Below.refl _ _).alloc (by omega) _).grown hg3 (by simp; omega) (fun j hj => (hown2.lt j hj).1)
      have hs3 := hs2.below hb3 hg
      have hk3 : Kp g (g + 1) w w3 := ⟨hb3.os.trans (hkr.trans hk2).os, hb3.tape.trans (hkr.trans hk2).tape, hb3.output.trans (hkr.trans hk2).output, Nat.le_trans (hkr.trans hk2).size (Nat.le_trans (by simp) hg3.size), fun i hi hd => (hb3.block i (by omega)).trans ((hkr.trans hk2).block i hi hd)⟩
      rw [cplx_snoc] at hown3
      obtain ⟨A1, c1, rfl, e1, -, hO3⟩ := Own.of_row hown3 (Nat.le_refl _)
      go_wp2
      go_ret
      exact ⟨A1, c1, l ++ [(q, 0)], by simp [hl], HV1.out, HV2.out, hO3, hs3.up (by omega), hk3⟩
end Go.Proofs.YtgfmnolmokpgnaaDoor
