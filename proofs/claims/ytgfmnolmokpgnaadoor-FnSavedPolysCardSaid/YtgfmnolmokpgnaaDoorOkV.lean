/-
  Contract: impl.ValidSaved.
-/
import Derived.Test.YtgfmnolmokpgnaaDoorOkI
namespace Go.Proofs.YtgfmnolmokpgnaaDoor
open Go.RowKit

theorem blk_new (w : World) (cs : Array Value) (t : TypeId) : Blk (w.alloc (.cells cs t)) w.heap.size t cs := heap_alloc_new w _

set_option maxRecDepth 100000 in
theorem validSaved_any (v : Sav) (A A' : Option Addr) (c c' B : Nat) (w : World) (hr1 : Reads w B 1 A v.P.length (cplx v.P)) (hr2 : Reads w B 1 A' v.W.length (ints v.W)) (hB : B ≤ w.heap.size) (hn : v.nm.length ≤ 1048576) (hP : v.P.length ≤ 1048576) (hW : v.W.length ≤ 1048576) :
    Calls Tryd.prog 8 #[.agg #[.string (txt v.nm), .slice A v.P.length c, .slice A' v.W.length c']] w fun e w' => e = .returned (.bool (savB v)) ∧ Below w.heap.size w w' := by
  have hb0 : Below w.heap.size w (w.alloc (.cells #[.string (txt v.nm), .slice A v.P.length c, .slice A' v.W.length c'] 36)) := (Below.refl _ _).alloc (Nat.le_refl _) _
  have hk0 := blk_new w #[.string (txt v.nm), .slice A v.P.length c, .slice A' v.W.length c'] 36
  have HN := fun W => isName_any (txt v.nm) W (by rw [txt_size]; exact hn)
  rw [txt_data] at HN
  have HP := fun W (hW : Below w.heap.size w W) => validPoly_b A c B v.P W (hr1.below (hW.mono hB)) (Nat.le_trans hB hW.size) hP
  have HW := fun W (hW' : Below w.heap.size w W) => validWhole_any A' c' B v.W W (hr2.below (hW'.mono hB)) (Nat.le_trans hB hW'.size) hW
  unfold savB
  clear hr1 hr2
  generalize nameB v.nm = b1 at *
  generalize polyB v.P = b2 at *
  generalize wholeB v.W = b3 at *
  go_enter Tryd.func8, Tryd.ntmps8
  go_wp2_with fail
  (with_reducible refine (HN _).mono ?_)
  rintro e w1 ⟨rfl, hb1⟩
  have hk1 := hk0.below hb1 (by simp)
  have hw1 := hb0.trans (hb1.mono hb0.size)
  have c1 : w1.cell? ⟨w.heap.size, 1, none⟩ = _ := hk1.cell 1
  have c2 : w1.cell? ⟨w.heap.size, 2, none⟩ = _ := hk1.cell 2
  cases b1 with
  | false =>
    go_wp2
    go_ret
    exact ⟨rfl, hw1⟩
  | true =>
    go_wp2_with fail
    (with_reducible refine (HP _ hw1).mono ?_)
    rintro e w2 ⟨rfl, hb2⟩
    have hk2 := hk1.below hb2 hk1.lt
    have hw2 := hw1.trans (hb2.mono hw1.size)
    have d2 : w2.cell? ⟨w.heap.size, 2, none⟩ = _ := hk2.cell 2
    clear c1 c2
    cases b2 with
    | false =>
      go_wp2
      go_ret
      exact ⟨rfl, hw2⟩
    | true =>
      go_wp2_with fail
      (with_reducible refine (HW _ hw2).mono ?_)
      rintro e w3 ⟨rfl, hb3⟩
      go_wp2
      go_ret
      exact ⟨rfl, hw2.trans (hb3.mono hw2.size)⟩
end Go.Proofs.YtgfmnolmokpgnaaDoor
