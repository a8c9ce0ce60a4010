/-
  What a row that lists the tables of math/bits and strconv's two errors tells of them: a cell of the one, and that the other holds an error.
-/
import Derived.Test.YtfiakhhippfkaaaGreatDoorRows
import Derived.Test.YtfiakhhippfkaaaGreatDoorTz
import Derived.Lib.LaidTab
import Derived.Lay
import Derived.Stop.Joined
import Derived.Stop.LaidErr
namespace Go.Proofs.YtfiakhhippfkaaaGreatDoor
open Go

def db64 : List Int := [0, 1, 56, 2, 57, 49, 28, 3, 61, 58, 42, 50, 38, 29, 17, 4, 62, 47, 59, 36, 45, 43, 51, 22, 53, 39, 33, 30, 24, 18, 12, 5, 63, 55, 48, 27, 60, 41, 37, 16, 46, 35, 44, 21, 52, 32, 23, 11, 54, 26, 40, 15, 34, 20, 31, 10, 25, 14, 19, 9, 13, 8, 7, 6]
theorem db_data : (Rows.laid_math_bits_deBruijn64tab : DataW Unit) = Lib.tabData .u8 db64 := by kernel_rfl
theorem tz4_of {W : World} {a : String × DataW Unit} {r : List (String × DataW Unit)} (h : laidMet Tryz.prog (a :: ("math/bits.deBruijn64tab", Rows.laid_math_bits_deBruijn64tab) :: r) W) : Tz4 W := by
  have h1 := h.tail
  rw [db_data] at h1
  have hg : Tryz.prog.globalNamed "math/bits.deBruijn64tab" = some 8 := by kernel_rfl
  have ht := Lib.tabIs_of_head hg (t := 132) (by kernel_rfl) Tryz.underlying132 Tryz.underlying5 (by kernel_rfl) (by kernel_rfl) h1
  exact ht.cell hg 15 (by decide)

theorem starS : "*" ++ "errors.errorString" = "*errors.errorString" := by decide
theorem rowE (u : TypeId) (h : Tryz.prog.typeName? 3 u = some "*errors.errorString") : u = 114 :=
  typeName_ptr_named (nm := "errors.errorString") (by rw [starS]; kernel_rfl) (by kernel_rfl) (by decide) u (by rw [starS]; exact h)
theorem errS_of {W : World} {a b c d e : String × DataW Unit} {r : List (String × DataW Unit)} (h : laidMet Tryz.prog (a :: b :: c :: d :: e :: ("strconv.ErrSyntax", Rows.laid_strconv_ErrSyntax) :: r) W) : ErrS W := by
  have h1 := h.tail.tail.tail.tail.tail
  obtain ⟨x2, _, hv2, _⟩ := laid_sentinel (g := 1) (ti := 52) (te := 116) (ts := 9) h1 (by kernel_rfl) (by kernel_rfl) Tryz.underlying52 rowE Tryz.underlying114 Tryz.underlying116 rfl rfl Tryz.underlying9 (by kernel_rfl) (by kernel_rfl)
  exact ⟨_, _, hv2⟩
end Go.Proofs.YtfiakhhippfkaaaGreatDoor
