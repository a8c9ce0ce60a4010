/-
  Contracts: math/bits.TrailingZeros of 16, internal/strconv.isPowerOfTwo of 16.
-/
import Derived.Test.YtfiakhhippfkaaaGreatDoorHexR
namespace Go.Proofs.YtfiakhhippfkaaaGreatDoor
open Go.RowKit

/-- The table's cell that stands for 16. -/
def Tz4 (w : World) : Prop := w.cell? ⟨8, 15, none⟩ = some (.int .u8 4)
theorem Tz4.on {w w' : World} (h : Tz4 w) (hb : Below w.heap.size w w') : Tz4 w' := (hb.cell (World.block_lt_of_cell? w _ h)).trans h

theorem bits15 : bits .and .i64 16 15 = 0 := by decide +kernel
theorem isPow_any (w : World) : Calls Tryz.prog 90 #[.int .i64 16] w fun e w' => e = .returned (.bool true) ∧ w = w' := by
  have h := bits15
  go_enter Tryz.func90, Tryz.ntmps90
  go_wp2
  go_ret
  exact ⟨rfl, rfl⟩

set_option maxRecDepth 100000 in
theorem tz64_any (w : World) (hT : Tz4 w) : Calls Tryz.prog 97 #[.int .u64 16] w fun e w' => e = .returned (.int .i64 4) ∧ w = w' := by
  have h1 : bits .and .u64 16 (IntKind.u64.wrap (-16)) = 16 := by decide +kernel
  have h2 : bits .and .u64 16 18446744073709551600 = 16 := by decide +kernel
  unfold Tz4 at hT
  go_enter Tryz.func97, Tryz.ntmps97
  go_wp2
  go_ret
  exact ⟨rfl, rfl⟩
set_option maxRecDepth 100000 in
theorem tz_any (w : World) (hT : Tz4 w) : Calls Tryz.prog 91 #[.int .u64 16] w fun e w' => e = .returned (.int .i64 4) ∧ w = w' := by
  have H := tz64_any w hT
  clear hT
  go_enter Tryz.func91, Tryz.ntmps91
  go_wp2_with fail
  refine H.mono ?_
  rintro e w1 ⟨rfl, rfl⟩
  go_wp2
  go_ret
  exact ⟨rfl, rfl⟩
end Go.Proofs.YtfiakhhippfkaaaGreatDoor
