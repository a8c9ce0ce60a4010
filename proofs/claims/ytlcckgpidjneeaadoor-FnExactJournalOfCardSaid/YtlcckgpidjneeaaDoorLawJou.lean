/-
  The law FnExactJournalOf, walked by contracts: whatever the lines, it returns true and turns nothing that was there.
-/
import Derived.Test.YtlcckgpidjneeaaDoorJouI
import Derived.Test.YtlcckgpidjneeaaDoorStrS
namespace Go.Proofs.YtlcckgpidjneeaaDoor
open Go.RowKit

set_option maxRecDepth 100000 in
set_option maxHeartbeats 1600000 in
theorem lawJou (A : Option Addr) (c : Nat) (zs : List (List UInt8)) (w : World) (hr : Reads w w.heap.size 1 A zs.length (strs zs)) (hn : zs.length ≤ 9223372036854775807) (hz : ∀ x ∈ zs, x.length ≤ 9223372036854775807) (htab : Lib.TabBelow Tryd.prog w.heap.size w "internal/strconv.uint64pow10" .u64 Lib.pow10Tab) :
    Calls Tryd.prog 5 #[.slice A zs.length c] w fun e w' => e = .returned (.bool true) ∧ Below w.heap.size w w' := by
  by_cases hs : zs.length + ssum zs zs.length ≤ 1048576
  · have HS := szStringS_yes A c w.heap.size zs w hr hs
    have hlen : zs.length ≤ 1048576 := by omega
    have hx : ∀ x ∈ zs, x.length ≤ 1048576 := fun x hx => by have := ssum_mem hx; omega
    have HT := fun W (hW : Below w.heap.size w W) => toStringS_any A c w.heap.size zs W (hr.below hW) hW.size hlen
    have HJS := fun A' c' B W h1 h2 => journS_any A' c' B zs W h1 h2 hlen hx
    have HJI := fun A' c' B W (hW : Below w.heap.size w W) h1 h2 => journI_any A' c' B zs W h1 h2 hlen hx (fun W' hW' => htab W' (hW.trans (hW'.mono hW.size)))
    have HE := fun A' A'' c' c'' B W h1 h2 => eqStringS_any A' A'' c' c'' B zs W h1 h2 (by omega)
    have h0 : ¬ ((1048576 : Int) - (zs.length : Int) - (ssum zs zs.length : Int) < 0) := by omega
    clear htab hx hz
    generalize jout zs = o at *
    generalize jokB zs = b at *
    go_enter Tryd.func5, Tryd.ntmps5
    go_wp2_with fail
    (with_reducible refine HS.mono ?_)
    rintro e w0 ⟨rfl, rfl⟩
    clear HS
    go_wp2_with fail
    (with_reducible refine (HT _ (Below.refl _ _)).mono ?_)
    rintro e w1 ⟨A1, c1, rfl, hO1, hb1⟩
    go_wp2_with fail
    (with_reducible refine (HJS A1 c1 _ w1 (hO1.reads' (Nat.le_refl _) (by simp)) (Nat.le_refl _)).mono ?_)
    rintro e w2 ⟨rfl, hb2⟩
    clear HJS
    have hw2 := hb1.trans (hb2.mono hb1.size)
    go_wp2_with fail
    (with_reducible refine (HT _ hw2).mono ?_)
    rintro e w3 ⟨A3, c3, rfl, hO3, hb3⟩
    have hw3 := hw2.trans (hb3.mono hw2.size)
    go_wp2_with fail
    (with_reducible refine (HJI A3 c3 _ w3 hw3 (hO3.reads' (Nat.le_refl _) (by simp)) (Nat.le_refl _)).mono ?_)
    rintro e w4 ⟨rfl, hb4⟩
    clear HJI
    have hw4 := hw3.trans (hb4.mono hw3.size)
    have hO4 := hO3.below hb4 (Nat.le_refl _)
    go_wp2_with fail
    (with_reducible refine (HT _ hw4).mono ?_)
    rintro e w5 ⟨A5, c5, rfl, hO5, hb5⟩
    have hO4' := hO4.below hb5 hb4.size
    have hw5 := hw4.trans (hb5.mono hw4.size)
    clear HT
    go_wp2_with fail
    (with_reducible refine (HE A3 A5 c3 c5 w5.heap.size w5 (hO4'.reads' (Nat.le_trans hb4.size hb5.size) (by simp)) (hO5.reads' (Nat.le_refl _) (by simp))).mono ?_)
    rintro e w6 ⟨rfl, hb6⟩
    clear HE
    go_wp2
    go_ret
    exact ⟨rfl, hw5.trans (hb6.mono hw5.size)⟩
  · have HS := szStringS_no A c w.heap.size zs w hr hn hz (by omega)
    clear htab hz hr
    go_enter Tryd.func5, Tryd.ntmps5
    go_wp2_with fail
    (with_reducible refine HS.mono ?_)
    rintro e w0 ⟨rfl, rfl⟩
    clear HS
    go_wp2
    go_ret
    exact ⟨rfl, Below.refl _ _⟩
end Go.Proofs.YtlcckgpidjneeaaDoor
