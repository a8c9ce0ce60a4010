/-
  What a row that lists strconv's two errors tells of them: each variable holds an error.
-/
import Derived.Test.YtlcckgpidjneeaaDoorPow
import Derived.Test.YtlcckgpidjneeaaDoorDecI
import Derived.Stop.LaidErr
namespace Go.Proofs.YtlcckgpidjneeaaDoor
open Go

theorem starS : "*" ++ "errors.errorString" = "*errors.errorString" := by decide
theorem rowE (u : TypeId) (h : Tryd.prog.typeName? 3 u = some "*errors.errorString") : u = 141 :=
  typeName_ptr_named (nm := "errors.errorString") (by rw [starS]; kernel_rfl) (by kernel_rfl) (by decide) u (by rw [starS]; exact h)
theorem errVars_of {W : World} {a b c d : String × DataW Unit} {r : List (String × DataW Unit)} (h : laidMet Tryd.prog (a :: b :: c :: d :: ("strconv.ErrRange", Rows.laid_strconv_ErrRange) :: ("strconv.ErrSyntax", Rows.laid_strconv_ErrSyntax) :: r) W) : ErrVars W := by
  have h1 := h.tail.tail.tail.tail
  obtain ⟨x1, _, hv1, _⟩ := laid_sentinel (g := 3) (ti := 67) (te := 143) (ts := 9) h1 (by kernel_rfl) (by kernel_rfl) Tryd.underlying67 rowE Tryd.underlying141 Tryd.underlying143 rfl rfl Tryd.underlying9 (by kernel_rfl) (by kernel_rfl)
  obtain ⟨x2, _, hv2, _⟩ := laid_sentinel (g := 2) (ti := 67) (te := 143) (ts := 9) h1.tail (by kernel_rfl) (by kernel_rfl) Tryd.underlying67 rowE Tryd.underlying141 Tryd.underlying143 rfl rfl Tryd.underlying9 (by kernel_rfl) (by kernel_rfl)
  exact ⟨⟨_, _, hv2⟩, ⟨_, _, hv1⟩⟩
end Go.Proofs.YtlcckgpidjneeaaDoor
