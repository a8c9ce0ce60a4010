/-
  What a row that lists the table internal/strconv.uint64pow10 in its third place tells of it: its cells.
-/
import Derived.Test.YtlcckgpidjneeaaDoorRows
import Derived.Lib.LaidTab
import Derived.Lib.ItoaNum
import Derived.Lay
import Derived.Stop.Joined
namespace Go.Proofs.YtlcckgpidjneeaaDoor
open Go

theorem pow_data : (Rows.laid_internal_strconv_uint64pow10 : DataW Unit) = Lib.tabData .u64 Lib.pow10Tab := by kernel_rfl
theorem pow_tab {W : World} {a b : String × DataW Unit} {r : List (String × DataW Unit)} (h : laidMet Tryd.prog (a :: b :: ("internal/strconv.uint64pow10", Rows.laid_internal_strconv_uint64pow10) :: r) W) :
    Lib.TabIs Tryd.prog W "internal/strconv.uint64pow10" .u64 Lib.pow10Tab := by
  obtain ⟨ps, ⟨_, _, _, _, _, _, _, _, _, _, ⟨_, _, _, _, _, _, _, _, _, _, ⟨g, t, cs, fuel, p, q, hg, ht, hvar, hd, _⟩, _⟩, _⟩, _⟩ := h
  have hg2 : Tryd.prog.globalNamed "internal/strconv.uint64pow10" = some 1 := by kernel_rfl
  obtain rfl := Option.some.inj (hg2.symm.trans hg)
  have ht2 : (Tryd.prog.globals[1]?).map (·.type) = some 118 := by kernel_rfl
  obtain rfl := Option.some.inj (ht2.symm.trans ht)
  unfold Lib.TabIs
  rw [pow_data] at hd
  rw [hvar, ← Lib.cells_of_tab Tryd.underlying118 Tryd.underlying105 (by kernel_rfl) (by kernel_rfl) hd]
end Go.Proofs.YtlcckgpidjneeaaDoor
