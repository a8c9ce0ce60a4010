/-
  The law's own helpers on slices of complex numbers, each by its contract: comparison, marks.
-/
import Derived.Test.YtlpibibpckkjhaaWords
import Derived.Test.YtlpibibpckkjhaaProg
import Derived.Deep.QuietTactic
import Derived.BigQuiet
import Derived.KernelRfl
import Derived.Deep.RegionWith
namespace Go.Proofs.Ytlpibibpckkjhaa
open Go.RowKit

@[go_sem] theorem run_store_complex {P : Program} {w : World} {a : Addr} {m : Mode} (k : FloatKind) (x y : Nat) : (store a (.complex k x y) m).run P w = stored P w a (.complex k x y) m := run_store P w a _ m rfl
@[go_sem] theorem run_store_float {P : Program} {w : World} {a : Addr} {m : Mode} (k : FloatKind) (x : Nat) : (store a (.float k x) m).run P w = stored P w a (.float k x) m := run_store P w a _ m rfl

/-- A 64-bit number that is no not-a-number. -/
def Num64 (y : Nat) : Prop := FloatKind.f64.format.order y y = some .eq
/-- A 32-bit number that widens to a 64-bit one that is no not-a-number. -/
def Wid (x : Nat) : Prop := ∃ y, floatToFloatBits .f32 x .f64 = some y ∧ Num64 y

theorem quo_one {y : Nat} (h : Num64 y) : ∃ q, floatBits .quo .f64 4607182418800017408 y = some q := by
  unfold Num64 at h
  unfold floatBits
  simp only
  show ∃ q, FloatKind.f64.format.div 4607182418800017408 y = some q
  unfold Ieee.Format.div
  have h1 : FloatKind.f64.format.read 4607182418800017408 = .number false 4503599627370496 (-52) := by decide +kernel
  rw [h1]
  unfold Ieee.Format.order at h
  cases hr : FloatKind.f64.format.read y with
  | nan s f => rw [hr] at h; simp [Ieee.Datum.order] at h
  | infinity s => exact ⟨_, rfl⟩
  | number s m e =>
    simp only [Ieee.Datum.quotient]
    by_cases hm : m = 0
    · rw [if_pos hm, if_neg (by omega)]; exact ⟨_, rfl⟩
    · rw [if_neg hm]; exact ⟨_, rfl⟩

/-- Complex numbers as values in memory, by the bits of their parts. -/
def cplx (l : List (Nat × Nat)) : List Value := l.map fun z => Value.complex .f32 z.1 z.2
@[simp] theorem cplx_len (l : List (Nat × Nat)) : (cplx l).length = l.length := by simp [cplx]
theorem cplx_at {l : List (Nat × Nat)} {k : Nat} (h : k < l.length) : (cplx l)[k]? = some (.complex .f32 (l.getD k (0, 0)).1 (l.getD k (0, 0)).2) := by
  simp [cplx, List.getD, List.getElem?_eq_getElem h]
theorem comp_at {w : World} {B : Nat} {A : Option Addr} {l : List (Nat × Nat)} {k : Nat} (h : Reads w B 1 A l.length (cplx l)) (hk : k < l.length) :
    ∃ ad, A = some ad ∧ ad.block < B ∧ w.cell? (ad.add k) = some (.complex .f32 (l.getD k (0, 0)).1 (l.getD k (0, 0)).2) := by
  obtain ⟨ad, u, e, hb, hu, hc⟩ := h.at_ hk
  rw [cplx_at hk] at hu
  cases hu
  exact ⟨ad, e, hb, hc⟩
theorem cConv_of {s k : FloatKind} {x y a b : Nat} (h1 : floatToFloatBits s x k = some a) (h2 : floatToFloatBits s y k = some b) : cConvBits s x y k = some (a, b) := by
  simp [cConvBits, h1, h2]
/-- All parts widen. -/
def Wids (l : List (Nat × Nat)) : Prop := ∀ k, k < l.length → Wid (l.getD k (0, 0)).1 ∧ Wid (l.getD k (0, 0)).2

/-- The bits of a small integer as a 32-bit number. -/
def mkb (k : Int) : Nat := (floatToFloatBits .f64 (floatOfInt .f64 k) .f32).getD 0
theorem mkb_ok (k : Int) (h0 : 0 ≤ k) (h1 : k < 1024) : floatToFloatBits .f64 (floatOfInt .f64 k) .f32 = some (mkb k) ∧ FloatKind.f32.format.order (mkb k) (mkb k) = some .eq := by
  have key : ∀ n ∈ List.range 1024, floatToFloatBits .f64 (floatOfInt .f64 (n : Int)) .f32 = some (mkb (n : Int)) ∧ FloatKind.f32.format.order (mkb (n : Int)) (mkb (n : Int)) = some .eq := by decide +kernel
  obtain ⟨n, rfl⟩ := Int.eq_ofNat_of_zero_le h0
  exact key n (List.mem_range.2 (by omega))
/-- The marks of a slice of complex numbers. -/
def cmarks (k0 : Int) (n : Nat) : List (Nat × Nat) := (List.range n).map fun (j : Nat) => (mkb (k0 + (j : Int)), 1065353216)
@[simp] theorem cmarks_len (k0 : Int) (n : Nat) : (cmarks k0 n).length = n := by simp [cmarks]
theorem cmarks_at {k0 : Int} {n j : Nat} (h : j < n) : (cmarks k0 n).getD j (0, 0) = (mkb (k0 + (j : Int)), 1065353216) := by
  simp [cmarks, List.getD, h]
theorem mk_conv (k : Int) (h0 : 0 ≤ k) (h1 : k < 1024) : cConvBits .f64 (floatOfInt .f64 k) 4607182418800017408 .f32 = some (mkb k, 1065353216) := by
  have h2 : floatToFloatBits .f64 4607182418800017408 .f32 = some 1065353216 := by decide +kernel
  simp [cConvBits, (mkb_ok k h0 h1).1, h2]

end Go.Proofs.Ytlpibibpckkjhaa
