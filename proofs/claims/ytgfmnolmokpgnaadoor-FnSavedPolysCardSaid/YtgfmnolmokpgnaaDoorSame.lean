/-
  Contracts: two numbers of the same bits are the same (SameNumber, SameComplex, SamePoly), if they are finite.
-/
import Derived.Test.YtgfmnolmokpgnaaDoorDrwS
namespace Go.Proofs.YtgfmnolmokpgnaaDoor
open Go.RowKit

theorem run_bits64 (n : Nat) (w : World) : (callFunc 95 #[.float .f64 n]).run Tryd.prog w = .ok (.value (.int .u64 (n : Int))) w := by
  rw [run_callFunc_extern (P := Tryd.prog) (f := 95) (e := Extern.MathFloatBits.float64bits) Tryd.func95 (by kernel_rfl) (by kernel_rfl) (by kernel_rfl) (by kernel_rfl)]
  rfl
def sgn (y : Nat) : Bool := decide (wrap64 (y : Int) < 0)
set_option maxRecDepth 100000 in
theorem signbit_any (y : Nat) (w : World) :
    Calls Tryd.prog 88 #[.float .f64 y] w fun e w' => e = .returned (.bool (sgn y)) ∧ w' = w := by
  have h2 := run_bits64 y
  go_enter Tryd.func88, Tryd.ntmps88
  go_wp2
  go_ret
  exact ⟨rfl, rfl⟩

theorem fin_order {x : Nat} (h : fin32B x = true) : FloatKind.f32.format.order x x = some .eq := by
  obtain ⟨s, m, i, hr, _⟩ := fin_number h
  unfold Ieee.Format.order
  rw [hr]
  simp [Ieee.Datum.order]

set_option maxRecDepth 100000 in
theorem sameNumber_any (x : Nat) (h : fin32B x = true) (w : World) :
    Calls Tryd.prog 78 #[.float .f32 x, .float .f32 x] w fun e w' => e = .returned (.bool true) ∧ w' = w := by
  have h1 : (FloatKind.f32.format.order x x == some .eq) = true := by rw [fin_order h]; rfl
  have h2 : (FloatKind.f32.format.order x x != some .eq) = false := by rw [fin_order h]; rfl
  obtain ⟨y, hy, -⟩ := fin_wide h
  have HV := fun w => run_convert_float_float (P := Tryd.prog) w 79 139 .f32 .f64 x y (by rw [Tryd.underlying79]; rfl) Tryd.underlying139 hy
  have HS := signbit_any y
  have hsg : (sgn y == sgn y) = true := by simp
  generalize sgn y = b at *
  clear h hy
  go_enter Tryd.func78, Tryd.ntmps78
  go_wp2_with fail
  refine (HS _).mono ?_
  rintro e w1 ⟨rfl, rfl⟩
  go_wp2_with fail
  refine (HS _).mono ?_
  rintro e w1 ⟨rfl, rfl⟩
  go_wp2
  go_ret
  exact ⟨by cases b <;> rfl, rfl⟩

theorem sameComplex_any (x y : Nat) (h : finCB (x, y) = true) (w : World) :
    Calls Tryd.prog 66 #[.complex .f32 x y, .complex .f32 x y] w fun e w' => e = .returned (.bool true) ∧ w' = w := by
  unfold finCB at h
  rw [Bool.and_eq_true] at h
  have H1 := sameNumber_any x h.1
  have H2 := sameNumber_any y h.2
  go_enter Tryd.func66, Tryd.ntmps66
  go_wp2_with fail
  refine (H1 _).mono ?_
  rintro e w1 ⟨rfl, rfl⟩
  go_wp2_with fail
  refine (H2 _).mono ?_
  rintro e w1 ⟨rfl, rfl⟩
  go_wp2
  go_ret
  exact ⟨rfl, rfl⟩

theorem all_getD {l : List (Nat × Nat)} (h : l.all finCB = true) {k : Nat} (hk : k < l.length) : finCB ((l.getD k (0, 0)).1, (l.getD k (0, 0)).2) = true := by
  have : l.getD k (0, 0) ∈ l := by rw [List.getD, List.getElem?_eq_getElem hk]; exact List.getElem_mem hk
  exact List.all_eq_true.1 h _ this

theorem equalFuncC_any (A A' : Option Addr) (c c' B : Nat) (l : List (Nat × Nat)) (w : World) (hr : Reads w B 1 A l.length (cplx l)) (hr' : Reads w B 1 A' l.length (cplx l)) (hf : l.all finCB = true) (hn : l.length ≤ 1048576) :
    Calls Tryd.prog 65 #[.slice A l.length c, .slice A' l.length c', .func (.func 66) #[] #[]] w fun e w' => e = .returned (.bool true) ∧ w' = w := by
  have HF := Lib.hid hf
  clear hf
  go_enter Tryd.func65, Tryd.ntmps65
  go_wp2
  go_loopw [7, 8, 9, 17] (fun _ _ _ i wr => ∃ k : Nat, k ≤ l.length ∧ i = .int .i64 k ∧ wr = w) (fun _ _ _ i _ => l.length - (intOf i).toNat)
  case atStart => exact ⟨0, Nat.zero_le _, rfl, rfl⟩
  case round =>
    obtain ⟨k, hk, rfl, rfl⟩ := hrel
    by_cases hlt : k < l.length
    · obtain ⟨ad, rfl, hab, hc1⟩ := comp_at hr hlt
      obtain ⟨ad', rfl, hab', hc2⟩ := comp_at hr' hlt
      have HC := sameComplex_any _ _ (all_getD HF.out hlt)
      generalize (l.getD k (0, 0)).1 = x at *
      generalize (l.getD k (0, 0)).2 = y at *
      clear hr hr'
      go_wp2_with fail
      refine (HC _).mono ?_
      rintro e w1 ⟨rfl, rfl⟩
      go_wp2
      go_roundw
      case rel => exact ⟨k + 1, by omega, by go_num, by trivial⟩
      case measure => simp [intOf]; omega
    · obtain rfl : k = l.length := by omega
      go_wp2
      go_ret
      exact ⟨rfl, rfl⟩

theorem samePoly_any (A A' : Option Addr) (c c' B : Nat) (l : List (Nat × Nat)) (w : World) (hr : Reads w B 1 A l.length (cplx l)) (hr' : Reads w B 1 A' l.length (cplx l)) (hB : B ≤ w.heap.size) (hf : l.all finCB = true) (hn : l.length ≤ 1048576) :
    Calls Tryd.prog 25 #[.agg #[.slice A l.length c], .agg #[.slice A' l.length c']] w fun e w' => e = .returned (.bool true) ∧ Below w.heap.size w w' := by
  have hb2 : Below w.heap.size w ((w.alloc (.cells #[.slice A l.length c] 31)).alloc (.cells #[.slice A' l.length c'] 31)) := ((Below.refl _ _).alloc (Nat.le_refl _) _).alloc (by simp) _
  have H : ∀ W, Below w.heap.size w W → Calls Tryd.prog 45 #[.slice A l.length c, .slice A' l.length c'] W fun e w' => e = .returned (.bool true) ∧ w' = W := fun W hW => by
    have HE := equalFuncC_any A A' c c' B l W (hr.below (hW.mono hB)) (hr'.below (hW.mono hB)) hf hn
    go_enter Tryd.func45, Tryd.ntmps45
    go_wp2_with fail
    refine HE.mono ?_
    rintro e w1 ⟨rfl, rfl⟩
    go_wp2
    go_ret
    exact ⟨rfl, rfl⟩
  clear hr hr' hf
  go_enter Tryd.func25, Tryd.ntmps25
  go_wp2_with fail
  refine (H _ hb2).mono ?_
  rintro e w1 ⟨rfl, rfl⟩
  go_wp2
  go_ret
  exact ⟨rfl, hb2⟩

theorem equalW_any (A A' : Option Addr) (c c' B : Nat) (zs : List Int) (w : World) (hr : Reads w B 1 A zs.length (ints zs)) (hr' : Reads w B 1 A' zs.length (ints zs)) (hn : zs.length ≤ 1048576) :
    Calls Tryd.prog 46 #[.slice A zs.length c, .slice A' zs.length c'] w fun e w' => e = .returned (.bool true) ∧ ∃ n, w' = w.drewN n := by
  go_enter Tryd.func46, Tryd.ntmps46
  go_wp2
  go_loopw [5, 13] (fun _ i wr => ∃ k : Nat, k ≤ zs.length ∧ i = .int .i64 k ∧ ∃ n, wr = w.drewN n) (fun _ i _ => zs.length - (intOf i).toNat)
  case atStart => exact ⟨0, Nat.zero_le _, rfl, 0, rfl⟩
  case round =>
    obtain ⟨k, hk, rfl, n, rfl⟩ := hrel
    by_cases hlt : k < zs.length
    · obtain ⟨ad, rfl, hab, hc1⟩ := int_at hr hlt
      obtain ⟨ad', rfl, hab', hc2⟩ := int_at hr' hlt
      clear hr hr'
      go_wp2
      go_quiet (fail)
      go_wp2
      go_roundw
      case rel => exact ⟨k + 1, by omega, by go_num, _, rfl⟩
      case measure => simp [intOf]; omega
    · have hkn : k = zs.length := by omega
      subst hkn
      go_wp2
      go_ret
      exact ⟨rfl, n, rfl⟩

theorem sameWhole_any (A A' : Option Addr) (c c' B : Nat) (zs : List Int) (w : World) (hr : Reads w B 1 A zs.length (ints zs)) (hr' : Reads w B 1 A' zs.length (ints zs)) (hB : B ≤ w.heap.size) (hn : zs.length ≤ 1048576) :
    Calls Tryd.prog 26 #[.agg #[.slice A zs.length c], .agg #[.slice A' zs.length c']] w fun e w' => e = .returned (.bool true) ∧ Below w.heap.size w w' := by
  have hb2 : Below w.heap.size w ((w.alloc (.cells #[.slice A zs.length c] 34)).alloc (.cells #[.slice A' zs.length c'] 34)) := ((Below.refl _ _).alloc (Nat.le_refl _) _).alloc (by simp) _
  have H := equalW_any A A' c c' B zs _ (hr.below (hb2.mono hB)) (hr'.below (hb2.mono hB)) hn
  clear hr hr'
  go_enter Tryd.func26, Tryd.ntmps26
  go_wp2_with fail
  refine H.mono ?_
  rintro e w1 ⟨rfl, n, rfl⟩
  go_wp2
  go_ret
  exact ⟨rfl, below_drewN hb2 n⟩
end Go.Proofs.YtgfmnolmokpgnaaDoor
