/-
  Contracts: the sine of a number of turns between a quarter and three quarters (impl.SineTurns, sine, partOfTurn, isHuge), where no step is without an answer.
-/
import Derived.Test.YtlpibibpckkjhaaEvnV
import Derived.Laws.Externs
namespace Go.Proofs.Ytlpibibpckkjhaa
open Go.RowKit

theorem ar64 (op : BinOp) (x y r : Nat) (h : floatBits op .f64 x y = some r) (w : World) : (binOp op 39 (.float .f64 x) (.float .f64 y)).run Try.prog w = .ok (.float .f64 r) w := run_float_arith w op _ _ x y r h
theorem cv64 (x y : Nat) (h : floatToFloatBits .f32 x .f64 = some y) (w : World) : (convert 25 39 (.float .f32 x)).run Try.prog w = .ok (.float .f64 y) w :=
  run_convert_float_float (P := Try.prog) w 25 39 .f32 .f64 x y (by rw [Try.underlying25]; rfl) Try.underlying39 h
theorem cv32 (x y : Nat) (h : floatToFloatBits .f64 x .f32 = some y) (w : World) : (convert 39 25 (.float .f64 x)).run Try.prog w = .ok (.float .f32 y) w :=
  run_convert_float_float (P := Try.prog) w 39 25 .f64 .f32 x y (by rw [Try.underlying39]; rfl) Try.underlying25 h
theorem cvI (x : Nat) (n : Int) (h : floatToIntVal .f64 x .i64 = some n) (w : World) : (convert 39 2 (.float .f64 x)).run Try.prog w = .ok (.int .i64 n) w :=
  run_convert_float_int (P := Try.prog) w 39 2 .f64 .i64 x n (by rw [Try.underlying39]; rfl) Try.underlying2 h

theorem run_bits64 (n : Nat) (w : World) : (callFunc 113 #[.float .f64 n]).run Try.prog w = .ok (.value (.int .u64 (n : Int))) w := by
  rw [run_callFunc_extern (P := Try.prog) (f := 113) (e := Extern.MathFloatBits.float64bits) Try.func113 (by kernel_rfl) (by kernel_rfl) (by kernel_rfl) (by kernel_rfl)]
  rfl
theorem run_from64 (n : Nat) (w : World) : (callFunc 107 #[.int .u64 (n : Int)]).run Try.prog w = .ok (.value (.float .f64 n)) w := by
  rw [run_callFunc_extern (P := Try.prog) (f := 107) (e := Extern.MathFloatBits.float64frombits) Try.func107 (by kernel_rfl) (by kernel_rfl) (by kernel_rfl) (by kernel_rfl)]
  rfl
theorem run_trunc (y : Nat) (h : FloatKind.f64.encode ((FloatKind.f64.decode y).integral .zero) = 0) (h2 : (match FloatKind.f64.decode y with | .nan _ _ => false | _ => true) = true) (w : World) : (callFunc 116 #[.float .f64 y]).run Try.prog w = .ok (.value (.float .f64 0)) w := by
  rw [run_callFunc_extern (P := Try.prog) (f := 116) (e := Extern.MathFloor.toIntegral "math.archTrunc" .zero) Try.func116 (by kernel_rfl) (by kernel_rfl) (by kernel_rfl) (by kernel_rfl)]
  rw [show Extern.MathFloor.toIntegral "math.archTrunc" .zero #[.float .f64 y] = _ from by conv => { lhs; whnf }]
  cases hd : FloatKind.f64.decode y with
  | nan s t => rw [hd] at h2; cases h2
  | infinity s => rw [hd] at h; exact congrArg (fun r => Result.ok (Next.value (Value.float .f64 r)) w) h
  | number s m e => rw [hd] at h; exact congrArg (fun r => Result.ok (Next.value (Value.float .f64 r)) w) h

theorem abs_any (y : Nat) (h : bits .andNot .u64 (y : Int) 9223372036854775808 = (y : Int)) (w : World) :
    Calls Try.prog 108 #[.float .f64 y] w fun e w' => e = .returned (.float .f64 y) ∧ w' = w := by
  have h1 := run_bits64 y
  have h2 := run_from64 y
  go_enter Try.func108, Try.ntmps108
  go_wp2
  go_ret
  exact ⟨rfl, rfl⟩
/-- The facts of a number of turns. -/
structure GoodY (y : Nat) : Prop where
  sub : fd .sub y y = some 0
  lt : FloatKind.f64.format.order y 4841369599423283200 = some .lt
  gt : FloatKind.f64.format.order y 14064741636278059008 = some .gt
  pos : FloatKind.f64.format.order y 0 = some .gt
  trunc : FloatKind.f64.encode ((FloatKind.f64.decode y).integral .zero) = 0
  sub0 : fd .sub y 0 = some y
  int : floatToIntVal .f64 y .i64 = some 0
  abs : bits .andNot .u64 (y : Int) 9223372036854775808 = (y : Int)
  num : (match FloatKind.f64.decode y with | .nan _ _ => false | _ => true) = true
theorem goodY_of {y : Nat} (h : goodY y = true) : GoodY y := by
  unfold goodY at h
  simp only [Bool.and_eq_true, beq_iff_eq] at h
  obtain ⟨⟨⟨⟨⟨⟨⟨⟨h1, h2⟩, h3⟩, h4⟩, h5⟩, h6⟩, h7⟩, h8⟩, h9⟩ := h
  exact ⟨h1, h2, h3, h4, h5, h6, h7, h8, h9⟩

theorem isHuge_any (y : Nat) (h : GoodY y) (w : World) :
    Calls Try.prog 96 #[.float .f64 y] w fun e w' => e = .returned (.bool false) ∧ w' = w := by
  have H := abs_any y h.abs w
  have k1 : (FloatKind.f64.format.order y 4841369599423283200 == some .gt || FloatKind.f64.format.order y 4841369599423283200 == some .eq) = false := by rw [h.lt]; rfl
  go_enter Try.func96, Try.ntmps96
  go_wp2_with fail
  refine H.mono ?_
  rintro e w1 ⟨rfl, rfl⟩
  go_wp2
  go_ret
  exact ⟨rfl, rfl⟩
theorem trunc_any (y : Nat) (h : GoodY y) (w : World) :
    Calls Try.prog 114 #[.float .f64 y] w fun e w' => e = .returned (.float .f64 0) ∧ w' = w := by
  have H := run_trunc y h.trunc h.num
  go_enter Try.func114, Try.ntmps114
  go_wp2
  go_ret
  exact ⟨rfl, rfl⟩
theorem partOfTurn_any (y : Nat) (h : GoodY y) (w : World) :
    Calls Try.prog 109 #[.float .f64 y] w fun e w' => e = .returned (.float .f64 y) ∧ w' = w := by
  have H := trunc_any y h w
  have k1 : (FloatKind.f64.format.order 0 0 == some .eq) = true := by decide +kernel
  have k2 : (FloatKind.f64.format.order y 0 == some .lt) = false := by rw [h.pos]; rfl
  have k3 := ar64 _ _ _ _ h.sub0
  clear h
  go_enter Try.func109, Try.ntmps109
  go_wp2_with fail
  refine H.mono ?_
  rintro e w1 ⟨rfl, rfl⟩
  go_wp2
  go_ret
  exact ⟨rfl, rfl⟩
end Go.Proofs.Ytlpibibpckkjhaa
