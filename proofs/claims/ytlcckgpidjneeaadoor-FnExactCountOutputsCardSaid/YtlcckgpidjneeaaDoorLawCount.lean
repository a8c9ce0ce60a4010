/-
  The law FnExactCountOutputs, walked by contracts: whatever the text, it returns true and turns nothing that was there.
-/
import Derived.Test.YtlcckgpidjneeaaDoorCount
import Derived.Test.YtlcckgpidjneeaaDoorHand
namespace Go.Proofs.YtlcckgpidjneeaaDoor
open Go.RowKit

theorem cntV_tuple (s : ByteArray) : ∃ x y : Int, ∃ b : Bool, cntV s = .tuple #[.int .i64 x, .int .i64 y, .bool b] := by
  unfold cntV; split
  · exact ⟨_, _, _, rfl⟩
  · exact ⟨_, _, _, rfl⟩

theorem lawCount (s : ByteArray) (w : World) (hs : s.size ≤ maxLen) (hsh : w.ShapedOpen Tryd.prog) :
    Calls Tryd.prog 3 #[.string s] w fun e w' => e = .returned (.bool true) ∧ Below w.heap.size w w' := by
  unfold maxLen at hs
  by_cases hn : s.size ≤ 1048576
  · have H := countS_any s w hn
    have H2 := fun w1 hb => countI_any s w1 (shaped_below hsh hb) hn
    obtain ⟨x, y, b, hv⟩ := cntV_tuple s
    rw [hv] at H
    have H3 : ∀ w1, Below w.heap.size w w1 → Calls Tryd.prog 9 #[.string s] w1 fun e w' => e = .returned (.tuple #[.int .i64 x, .int .i64 y, .bool b]) ∧ Below w1.heap.size w1 w' := fun w1 hb => by
      have := H2 w1 hb
      rwa [hv] at this
    clear H2 hv hsh
    go_enter Tryd.func3, Tryd.ntmps3
    go_wp2_with fail
    refine H.mono ?_
    rintro e w1 ⟨rfl, hb⟩
    clear H
    go_wp2_with fail
    refine (H3 w1 hb).mono ?_
    rintro e w2 ⟨rfl, hb2⟩
    clear H3
    go_wp2
    go_ret
    exact ⟨rfl, hb.trans (hb2.mono hb.size)⟩
  · go_enter Tryd.func3, Tryd.ntmps3
    go_wp2
    go_ret
    exact ⟨rfl, Below.refl _ _⟩
end Go.Proofs.YtlcckgpidjneeaaDoor
