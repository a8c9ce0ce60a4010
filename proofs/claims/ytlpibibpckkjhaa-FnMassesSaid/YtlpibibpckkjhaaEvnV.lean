/-
  Contracts: the reference's row of the polynomials of kind 2 (spec.l06Row), and the slopes (spec.l06Slope, the closure in impl.EvenNodes), where no step is without an answer.
-/
import Derived.Test.YtlpibibpckkjhaaEvnW
namespace Go.Proofs.Ytlpibibpckkjhaa
open Go.RowKit
theorem slopeI_any (pn px pm : Addr) (n x p s : Nat) (hn : n < 100) (h1 : 1 ≤ n) (h : slopeO n x = some (p, s)) (w : World) (c0 : w.cell? pn = some (.int .i64 (n : Int))) (c1 : w.cell? px = some (.float .f32 x)) (c2 : w.cell? pm = some (.float .f32 (floatOfInt .f32 (n : Int)))) :
    Calls Try.prog 66 #[.pointer (some pn), .pointer (some px), .pointer (some pm)] w fun e w' => e = .returned (.tuple #[.float .f32 p, .float .f32 s]) ∧ Below w.heap.size w w' := by
  obtain ⟨r, t1, t2, t3, t4, t5, hr, hp, f1, f2, f3, f4, f5, f6⟩ := slope_parts h
  have H := familyRow_any n x r hn hr w
  have hl := row_len hr
  have g1 := ar32 _ _ _ _ f1
  have g2 := ar32 _ _ _ _ f2
  have g3 := ar32 _ _ _ _ f3
  have g4 := ar32 _ _ _ _ f4
  have g5 := ar32 _ _ _ _ f5
  have g6 := ar32 _ _ _ _ f6
  clear f1 f2 f3 f4 f5 f6 h hr
  obtain ⟨l, b⟩ := r
  simp only at *
  go_enter Try.func66, Try.ntmps66
  go_wp2_with fail
  refine H.mono ?_
  rintro e w1 ⟨A, c, rfl, hO, hb⟩
  have d0 := (hb.cell (World.block_lt_of_cell? w _ c0)).trans c0
  have d1 := (hb.cell (World.block_lt_of_cell? w _ c1)).trans c1
  have d2 := (hb.cell (World.block_lt_of_cell? w _ c2)).trans c2
  obtain ⟨ad, rfl, -, hc1⟩ := flt_at (hO.reads' (Nat.le_refl _) (by simp)) (k := n) (by omega)
  obtain ⟨ad', e, -, hc2⟩ := flt_at (hO.reads' (Nat.le_refl _) (by simp)) (k := n - 1) (by omega)
  cases e
  rw [hp] at hc1
  generalize l.getD (n - 1) 0 = q at *
  have hidx : (n : Int) - 1 = ((n - 1 : Nat) : Int) := by omega
  clear H hO c0 c1 c2
  go_wp2_with fail
  go_quiet (fail)
  go_wp2_with fail
  go_quiet (fail)
  go_wp2
  go_ret2
  exact ⟨rfl, below_drewN (below_drewN hb _) _⟩
end Go.Proofs.Ytlpibibpckkjhaa
