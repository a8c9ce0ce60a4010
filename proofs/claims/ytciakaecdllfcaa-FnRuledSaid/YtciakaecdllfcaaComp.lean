/-
  Contracts of the arithmetic on complex numbers: plus, minus, times, MulComplex, ConjugateOf, power, QuotientOf, each where its result is told by a plain function of the bits; b10Gap.
-/
import Derived.Test.YtciakaecdllfcaaCplx
namespace Go.Proofs.Ytciakaecdllfcaa
open Go.RowKit

def plusB (x a : Nat × Nat) : Option (Nat × Nat) := (floatBits .add .f32 x.1 a.1).bind fun r => (floatBits .add .f32 x.2 a.2).bind fun i => some (r, i)
def minusB (x a : Nat × Nat) : Option (Nat × Nat) := (floatBits .sub .f32 x.1 a.1).bind fun r => (floatBits .sub .f32 x.2 a.2).bind fun i => some (r, i)
def timesB (x a : Nat × Nat) : Option (Nat × Nat) :=
  (floatToFloatBits .f32 x.1 .f64).bind fun p => (floatToFloatBits .f32 x.2 .f64).bind fun q => (floatToFloatBits .f32 a.1 .f64).bind fun r => (floatToFloatBits .f32 a.2 .f64).bind fun s =>
  (floatBits .mul .f64 p r).bind fun m1 => (floatBits .mul .f64 q s).bind fun m2 => (floatBits .sub .f64 m1 m2).bind fun re =>
  (floatBits .mul .f64 p s).bind fun m3 => (floatBits .mul .f64 q r).bind fun m4 => (floatBits .add .f64 m3 m4).bind fun im => some (re, im)
def mulB (x a : Nat × Nat) : Option (Nat × Nat) := (timesB x a).bind fun m => (floatToFloatBits .f64 m.1 .f32).bind fun r => (floatToFloatBits .f64 m.2 .f32).bind fun i => some (r, i)
def conjB (x : Nat × Nat) : Nat × Nat := (x.1, Op.negFloat .f32 x.2)
def powerB (x : Nat × Nat) : Option Nat := (floatToFloatBits .f32 x.1 .f64).bind fun p => (floatToFloatBits .f32 x.2 .f64).bind fun q => (floatBits .mul .f64 p p).bind fun m1 => (floatBits .mul .f64 q q).bind fun m2 => floatBits .add .f64 m1 m2
def quoB (x y : Nat × Nat) : Option (Nat × Nat) := (timesB x (conjB y)).bind fun m => (powerB y).bind fun p => (floatBits .quo .f64 m.1 p).bind fun a => (floatToFloatBits .f64 a .f32).bind fun r => (floatBits .quo .f64 m.2 p).bind fun b => (floatToFloatBits .f64 b .f32).bind fun i => some (r, i)

abbrev car (k : FloatKind) := fun (op : BinOp) (t : TypeId) (x y r : Nat) (h : floatBits op k x y = some r) (w : World) => run_float_arith (P := Try.prog) w op t k x y r h
theorem up (b r : Nat) (h : floatToFloatBits .f32 b .f64 = some r) (w : World) : (convert 38 40 (.float .f32 b)).run Try.prog w = .ok (.float .f64 r) w :=
  run_convert_float_float w _ _ _ _ b r (by kernel_rfl) (by kernel_rfl) h
theorem down (b r : Nat) (h : floatToFloatBits .f64 b .f32 = some r) (w : World) : (convert 40 38 (.float .f64 b)).run Try.prog w = .ok (.float .f32 r) w :=
  run_convert_float_float w _ _ _ _ b r (by kernel_rfl) (by kernel_rfl) h
theorem ar32 (op : BinOp) (x y r : Nat) (h : floatBits op .f32 x y = some r) (w : World) : (binOp op 38 (.float .f32 x) (.float .f32 y)).run Try.prog w = .ok (.float .f32 r) w := run_float_arith w op _ _ x y r h
theorem ar64 (op : BinOp) (x y r : Nat) (h : floatBits op .f64 x y = some r) (w : World) : (binOp op 40 (.float .f64 x) (.float .f64 y)).run Try.prog w = .ok (.float .f64 r) w := run_float_arith w op _ _ x y r h

theorem plus_any (x y a b r i : Nat) (h : plusB (x, y) (a, b) = some (r, i)) (w : World) :
    Calls Try.prog 42 #[.complex .f32 x y, .complex .f32 a b] w fun e w' => e = .returned (.complex .f32 r i) ∧ w = w' := by
  obtain ⟨r1, h1, h⟩ := bind_some h
  obtain ⟨i1, h2, h⟩ := bind_some h
  cases h
  have k1 := ar32 _ _ _ _ h1
  have k2 := ar32 _ _ _ _ h2
  clear h1 h2
  dsimp only at k1 k2
  go_enter Try.func42, Try.ntmps42
  go_wp2
  go_ret
  exact ⟨rfl, rfl⟩

theorem minus_any (x y a b r i : Nat) (h : minusB (x, y) (a, b) = some (r, i)) (w : World) :
    Calls Try.prog 47 #[.complex .f32 x y, .complex .f32 a b] w fun e w' => e = .returned (.complex .f32 r i) ∧ w = w' := by
  obtain ⟨r1, h1, h⟩ := bind_some h
  obtain ⟨i1, h2, h⟩ := bind_some h
  cases h
  have k1 := ar32 _ _ _ _ h1
  have k2 := ar32 _ _ _ _ h2
  clear h1 h2
  dsimp only at k1 k2
  go_enter Try.func47, Try.ntmps47
  go_wp2
  go_ret
  exact ⟨rfl, rfl⟩

theorem times_any (x y a b r i : Nat) (h : timesB (x, y) (a, b) = some (r, i)) (w : World) :
    Calls Try.prog 63 #[.complex .f32 x y, .complex .f32 a b] w fun e w' => e = .returned (.tuple #[.float .f64 r, .float .f64 i]) ∧ w = w' := by
  obtain ⟨p, h1, h⟩ := bind_some h
  obtain ⟨q, h2, h⟩ := bind_some h
  obtain ⟨s, h3, h⟩ := bind_some h
  obtain ⟨t, h4, h⟩ := bind_some h
  obtain ⟨m1, h5, h⟩ := bind_some h
  obtain ⟨m2, h6, h⟩ := bind_some h
  obtain ⟨re, h7, h⟩ := bind_some h
  obtain ⟨m3, h8, h⟩ := bind_some h
  obtain ⟨m4, h9, h⟩ := bind_some h
  obtain ⟨im, h10, h⟩ := bind_some h
  cases h
  have k1 := up _ _ h1
  have k2 := up _ _ h2
  have k3 := up _ _ h3
  have k4 := up _ _ h4
  have k5 := ar64 _ _ _ _ h5
  have k6 := ar64 _ _ _ _ h6
  have k7 := ar64 _ _ _ _ h7
  have k8 := ar64 _ _ _ _ h8
  have k9 := ar64 _ _ _ _ h9
  have k10 := ar64 _ _ _ _ h10
  clear h1 h2 h3 h4 h5 h6 h7 h8 h9 h10
  dsimp only at *
  go_enter Try.func63, Try.ntmps63
  go_wp2
  go_ret2
  exact ⟨rfl, rfl⟩

theorem mul_any (x y a b r i : Nat) (h : mulB (x, y) (a, b) = some (r, i)) (w : World) :
    Calls Try.prog 43 #[.complex .f32 x y, .complex .f32 a b] w fun e w' => e = .returned (.complex .f32 r i) ∧ w = w' := by
  obtain ⟨⟨m1, m2⟩, h1, h⟩ := bind_some h
  obtain ⟨r1, h2, h⟩ := bind_some h
  obtain ⟨i1, h3, h⟩ := bind_some h
  cases h
  have H := times_any x y a b m1 m2 h1
  have k2 := down _ _ h2
  have k3 := down _ _ h3
  clear h1 h2 h3
  dsimp only at *
  go_enter Try.func43, Try.ntmps43
  go_wp2_with fail
  refine (H _).mono ?_
  rintro e w1 ⟨rfl, rfl⟩
  go_wp2
  go_ret
  exact ⟨rfl, rfl⟩

theorem conj_any (x y : Nat) (w : World) :
    Calls Try.prog 65 #[.complex .f32 x y] w fun e w' => e = .returned (.complex .f32 x (Op.negFloat .f32 y)) ∧ w = w' := by
  have hN : Op.unary .neg (.float .f32 y) = pure (.float .f32 (Op.negFloat .f32 y)) := rfl
  go_enter Try.func65, Try.ntmps65
  go_wp2
  go_ret
  exact ⟨rfl, rfl⟩

theorem power_any (x y r : Nat) (h : powerB (x, y) = some r) (w : World) :
    Calls Try.prog 66 #[.complex .f32 x y] w fun e w' => e = .returned (.float .f64 r) ∧ w = w' := by
  obtain ⟨p, h1, h⟩ := bind_some h
  obtain ⟨q, h2, h⟩ := bind_some h
  obtain ⟨m1, h3, h⟩ := bind_some h
  obtain ⟨m2, h4, h⟩ := bind_some h
  have k1 := up _ _ h1
  have k2 := up _ _ h2
  have k3 := ar64 _ _ _ _ h3
  have k4 := ar64 _ _ _ _ h4
  have k5 := ar64 _ _ _ _ h
  clear h1 h2 h3 h4 h
  dsimp only at *
  go_enter Try.func66, Try.ntmps66
  go_wp2
  go_ret
  exact ⟨rfl, rfl⟩

theorem quo_any (x y a b r i : Nat) (h : quoB (x, y) (a, b) = some (r, i)) (w : World) :
    Calls Try.prog 48 #[.complex .f32 x y, .complex .f32 a b] w fun e w' => e = .returned (.complex .f32 r i) ∧ w = w' := by
  obtain ⟨⟨m1, m2⟩, h1, h⟩ := bind_some h
  obtain ⟨p, h2, h⟩ := bind_some h
  obtain ⟨q1, h3, h⟩ := bind_some h
  obtain ⟨r1, h4, h⟩ := bind_some h
  obtain ⟨q2, h5, h⟩ := bind_some h
  obtain ⟨i1, h6, h⟩ := bind_some h
  cases h
  have H := times_any x y a (Op.negFloat .f32 b) m1 m2 h1
  have HP := power_any a b p h2
  have HC := conj_any a b
  have k3 := ar64 _ _ _ _ h3
  have k4 := down _ _ h4
  have k5 := ar64 _ _ _ _ h5
  have k6 := down _ _ h6
  clear h1 h2 h3 h4 h5 h6
  dsimp only at *
  go_enter Try.func48, Try.ntmps48
  go_wp2_with fail
  refine (HC _).mono ?_
  rintro e w1 ⟨rfl, rfl⟩
  go_wp2_with fail
  refine (H _).mono ?_
  rintro e w1 ⟨rfl, rfl⟩
  go_wp2_with fail
  refine (HP _).mono ?_
  rintro e w1 ⟨rfl, rfl⟩
  go_wp2
  go_ret
  exact ⟨rfl, rfl⟩

def gapB (a b : Nat) : Option Nat := if FloatKind.f64.format.order a b == some .lt then floatBits .sub .f64 b a else floatBits .sub .f64 a b
theorem gap_any (a b r : Nat) (h : gapB a b = some r) (w : World) :
    Calls Try.prog 21 #[.float .f64 a, .float .f64 b] w fun e w' => e = .returned (.float .f64 r) ∧ w = w' := by
  unfold gapB at h
  cases h0 : (FloatKind.f64.format.order a b == some .lt) with
  | true =>
    rw [h0, if_pos rfl] at h
    have k1 := ar64 _ _ _ _ h
    clear h
    go_enter Try.func21, Try.ntmps21
    go_wp2
    go_ret
    exact ⟨rfl, rfl⟩
  | false =>
    rw [h0, if_neg (by decide)] at h
    have k1 := ar64 _ _ _ _ h
    clear h
    go_enter Try.func21, Try.ntmps21
    go_wp2
    go_ret
    exact ⟨rfl, rfl⟩
end Go.Proofs.Ytciakaecdllfcaa
