/-
  The contract of SpeedUp, where each of its results is told by a plain function of the bits and is finite.
-/
import Derived.Test.YtciakaecdllfcaaRun
namespace Go.Proofs.Ytciakaecdllfcaa
open Go.RowKit

def zeroB (b : Nat × Nat) : Bool := (FloatKind.f32.format.order b.1 0 == some .eq) && (FloatKind.f32.format.order b.2 0 == some .eq)
def spdB (x y z : Nat × Nat) : Option (Nat × Nat) :=
  (minusB z y).bind fun d => (minusB y x).bind fun e => (minusB d e).bind fun b => if zeroB b = true then some z else (mulB d d).bind fun m => (quoB m b).bind fun q => minusB z q

set_option maxHeartbeats 1600000 in
theorem speedUp_any (A : Option Addr) (c B : Nat) (l R : List (Nat × Nat)) (hl : 3 ≤ l.length ∧ l.length ≤ 16) (hR : R.length + 2 = l.length) (hf : FinC l) (hfR : FinC R)
    (hs : ∀ i, i + 2 < l.length → spdB (l.getD i (0, 0)) (l.getD (i + 1) (0, 0)) (l.getD (i + 2) (0, 0)) = some (R.getD i (0, 0)))
    (w : World) (hr : Reads w B 1 A l.length (cplx l)) (hB : B ≤ w.heap.size) :
    Calls Try.prog 20 #[.slice A l.length c] w fun e w' => ∃ A2 c2, e = .returned (.tuple #[.slice A2 R.length c2, .bool true]) ∧ Own w' w.heap.size w'.heap.size 37 A2 (cplx R) ∧ Below w.heap.size w w' := by
  obtain ⟨i0, hi, hz0, hz1, hz2⟩ := info_partsC infoC
  have H := isSeries_any A c B l hf w hr hB ⟨by omega, by omega⟩
  have hd3 : decide ((l.length : Int) < 3) = false := by simp; omega
  have HS := Lib.hid hs
  clear hs hf
  go_enter Try.func20, Try.ntmps20
  go_wp2_with fail
  refine H.mono ?_
  rintro e w1 ⟨rfl, hb1⟩
  have z1 := hb1.size
  go_wp2_with fail
  have hown0 : (w1.alloc (.cells #[] 37)).ownsRow w.heap.size 37 1 (.slice (some ⟨w1.heap.size, 0, none⟩) 0 0) 0 (cplx []) :=
    ⟨rfl, .inr ⟨_, 0, #[], rfl, by omega, heap_alloc_new w1 _, by simp, by simp [maxLen], by simp, by simp [cplx]⟩⟩
  have hb0 : Below w.heap.size w (w1.alloc (.cells #[] 37)) := hb1.alloc (by omega) _
  clear H hb1 z1
  go_loopw [4, 5] (fun v i wr => ∃ k m : Nat, m = k + 2 ∧ k ≤ R.length ∧ i = .int .i64 (m : Int) ∧ wr.ownsRow w.heap.size 37 1 v k (cplx (R.take k)) ∧ Below w.heap.size w wr) (fun _ i _ => 16 - (intOf i).toNat)
  case atStart => exact ⟨0, 2, rfl, Nat.zero_le _, rfl, hown0, hb0⟩
  case round =>
    obtain ⟨k, m, hm, hk, rfl, hown, hbr⟩ := hrel
    have hm1 : k + 2 ≤ m := by omega
    have hm2 : m ≤ k + 2 := by omega
    clear hm
    obtain ⟨Ao, co, rfl, -, hko, hO⟩ := Own.of_row hown (Nat.le_refl _)
    clear hown0 hb0
    by_cases hlt : k < R.length
    · obtain ⟨wo, rfl⟩ : ∃ wo : World, wo = wr := ⟨_, rfl⟩
      clear hO
      have hdl : decide ((m : Int) < (l.length : Int)) = true := by simp; omega
      obtain ⟨ad, rfl, hab, c0⟩ := comp_at (k := m - 2) (hr.below (hbr.mono hB)) (by omega)
      obtain ⟨ad', he', -, c1⟩ := comp_at (k := m - 1) (hr.below (hbr.mono hB)) (by omega)
      cases he'
      obtain ⟨ad', he', -, c2⟩ := comp_at (k := m) (hr.below (hbr.mono hB)) (by omega)
      cases he'
      have hE : Hid (R.take (k + 1) = R.take k ++ [R.getD k (0, 0)]) := by
        show _ = _
        rw [List.take_succ_eq_append_getElem (by omega), List.getD, List.getElem?_eq_getElem hlt]; rfl
      have hS := HS.out k (by omega)
      rw [show k + 1 = m - 1 by omega, show k + 2 = m by omega, show l.getD k (0, 0) = l.getD (m - 2) (0, 0) by rw [show m - 2 = k by omega]] at hS
      clear hr
      generalize R.getD k (0, 0) = r at *
      generalize l.getD (m - 2) (0, 0) = x at *
      generalize l.getD (m - 1) (0, 0) = y at *
      generalize l.getD m (0, 0) = z at *
      obtain ⟨x1, x2⟩ := x
      obtain ⟨y1, y2⟩ := y
      obtain ⟨z1, z2⟩ := z
      obtain ⟨r1, r2⟩ := r
      obtain ⟨⟨d1, d2⟩, h1, hS⟩ := bind_some hS
      obtain ⟨⟨e1, e2⟩, h2, hS⟩ := bind_some hS
      obtain ⟨⟨b1, b2⟩, h3, hS⟩ := bind_some hS
      have M1 := minus_any _ _ _ _ _ _ h1
      have M2 := minus_any _ _ _ _ _ _ h2
      have M3 := minus_any _ _ _ _ _ _ h3
      dsimp only at c0 c1 c2
      cases hz : zeroB (b1, b2) with
      | true =>
        rw [if_pos hz] at hS
        cases hS
        have hzz : ((FloatKind.f32.format.order b1 0 == some .eq) && (FloatKind.f32.format.order b2 0 == some .eq)) = true := hz
        clear h1 h2 h3 hz
        go_wp2_with fail
        go_quiet (fail)
        have hown3 : (wo.drewN nq).ownsRow w.heap.size 37 1 (.slice Ao k co) k (cplx (R.take k)) := hown
        have hbr3 := below_drewN hbr nq
        clear hown hbr
        generalize wo.drewN nq = w3 at *
        have z3 := hbr3.size
        go_wp2_with fail
        refine (M1 _).mono ?_
        rintro e w' ⟨rfl, rfl⟩
        go_wp2_with fail
        refine (M2 _).mono ?_
        rintro e w' ⟨rfl, rfl⟩
        go_wp2_with fail
        refine (M3 _).mono ?_
        rintro e w' ⟨rfl, rfl⟩
        go_wp2_with (at_builtin; refine wpList_append_any _ rfl (.tmp 50) (.tmp 52) _ rfl w.heap.size 37 i0 _ 1 8 Try.underlying34 hi hz0 hz1 hz2 rfl (by omega) (.slice Ao k co) k (cplx (R.take k)) rfl (hown3.alloc _) (w3.heap.size + 1) (some ⟨w3.heap.size, 0, none⟩) 1 1 [.complex .f32 z1 z2] rfl (reads_one w3 _ _) (one_c _ _) (by simp only [maxLen]; omega) (by omega) (by simp; omega) ?_; intro v1 w4 hown4 hg4 hat4)
        have hb4 : Below w.heap.size w w4 := (hbr3.alloc z3 _).grown hg4 (by simp; omega) (fun j hj => (hown3.lt j hj).1)
        refine ⟨⟨k + 1, m + 1, by omega, by omega, by go_num, by rw [hE.out]; simpa [cplx] using hown4, hb4⟩, by simp [intOf]; omega⟩
      | false =>
        rw [if_neg (by rw [hz]; decide)] at hS
        obtain ⟨⟨m1, m2⟩, h4, hS⟩ := bind_some hS
        obtain ⟨⟨q1, q2⟩, h5, hS⟩ := bind_some hS
        have M4 := mul_any _ _ _ _ _ _ h4
        have M5 := quo_any _ _ _ _ _ _ h5
        have M6 := minus_any _ _ _ _ _ _ hS
        have hzz : ((FloatKind.f32.format.order b1 0 == some .eq) && (FloatKind.f32.format.order b2 0 == some .eq)) = false := hz
        clear h1 h2 h3 h4 h5 hS hz
        go_wp2_with fail
        go_quiet (fail)
        have hown3 : (wo.drewN nq).ownsRow w.heap.size 37 1 (.slice Ao k co) k (cplx (R.take k)) := hown
        have hbr3 := below_drewN hbr nq
        clear hown hbr
        generalize wo.drewN nq = w3 at *
        have z3 := hbr3.size
        go_wp2_with fail
        refine (M1 _).mono ?_
        rintro e w' ⟨rfl, rfl⟩
        go_wp2_with fail
        refine (M2 _).mono ?_
        rintro e w' ⟨rfl, rfl⟩
        go_wp2_with fail
        refine (M3 _).mono ?_
        rintro e w' ⟨rfl, rfl⟩
        go_wp2_with fail
        refine (M4 _).mono ?_
        rintro e w' ⟨rfl, rfl⟩
        go_wp2_with fail
        refine (M5 _).mono ?_
        rintro e w' ⟨rfl, rfl⟩
        go_wp2_with fail
        refine (M6 _).mono ?_
        rintro e w' ⟨rfl, rfl⟩
        go_wp2_with (at_builtin; refine wpList_append_any _ rfl (.tmp 54) (.tmp 62) _ rfl w.heap.size 37 i0 _ 1 8 Try.underlying34 hi hz0 hz1 hz2 rfl (by omega) (.slice Ao k co) k (cplx (R.take k)) rfl (hown3.alloc _) (w3.heap.size + 1) (some ⟨w3.heap.size, 0, none⟩) 1 1 [.complex .f32 r1 r2] rfl (reads_one w3 _ _) (one_c _ _) (by simp only [maxLen]; omega) (by omega) (by simp; omega) ?_; intro v1 w4 hown4 hg4 hat4)
        have hb4 : Below w.heap.size w w4 := (hbr3.alloc z3 _).grown hg4 (by simp; omega) (fun j hj => (hown3.lt j hj).1)
        refine ⟨⟨k + 1, m + 1, by omega, by omega, by go_num, by rw [hE.out]; simpa [cplx] using hown4, hb4⟩, by simp [intOf]; omega⟩
    · obtain rfl : k = R.length := by omega
      have hdl : decide ((m : Int) < (l.length : Int)) = false := by simp; omega
      rw [List.take_length] at hO
      clear hr hown HS
      go_wp2_with fail
      refine (checkedSeries_any Ao co _ R hfR wr (hO.reads' (Nat.le_refl _) (by simp)) (Nat.le_refl _) (by omega)).mono ?_
      rintro e w3 ⟨rfl, hb4⟩
      go_wp2
      go_ret2
      exact ⟨Ao, co, rfl, (hO.below hb4 (Nat.le_refl _)).wide (Nat.le_refl _) hb4.size, hbr.trans (hb4.mono hbr.size)⟩
end Go.Proofs.Ytciakaecdllfcaa
