/-
  Plain facts about the sums that the law FnRuled speeds up: for each of its five ratios each step is told, and the speeded sum lies near the limit.
-/
import Derived.Test.YtciakaecdllfcaaSpeed
namespace Go.Proofs.Ytciakaecdllfcaa
open Go.RowKit

def ratB (x : Nat) : Nat := (floatBits .quo .f32 (floatOfInt .f32 (1 + (x : Int))) 1090519040).getD 0
/-- The sum and the term after so many rounds. -/
def stB (r : Nat) : Nat → Nat × Nat
  | 0 => (0, 1065353216)
  | k + 1 => ((floatBits .add .f32 (stB r k).1 (stB r k).2).getD 0, (floatBits .mul .f32 (stB r k).2 r).getD 0)
def sumsB (r : Nat) : List (Nat × Nat) := (List.range 6).map fun k => ((stB r (k + 1)).1, 0)
def fastB (r : Nat) : List (Nat × Nat) := (List.range 4).map fun i => (spdB ((sumsB r).getD i (0, 0)) ((sumsB r).getD (i + 1) (0, 0)) ((sumsB r).getD (i + 2) (0, 0))).getD (0, 0)
def lastB (r f : Nat) : Option Unit :=
  (floatToFloatBits .f32 f .f64).bind fun a => (floatToFloatBits .f32 r .f64).bind fun s => (floatBits .sub .f64 4607182418800017408 s).bind fun t => (floatBits .quo .f64 4607182418800017408 t).bind fun q => (gapB a q).bind fun g =>
    if FloatKind.f64.format.order g 4576918229304087675 == some .lt then some () else none
def fin32B (x : Nat) : Bool := decide (floatBits .sub .f32 x x = some 0)

def factB (x : Nat) : Bool :=
  decide (floatBits .quo .f32 (floatOfInt .f32 (1 + (x : Int))) 1090519040 = some (ratB x)) &&
  ((List.range 6).all fun k => decide (floatBits .add .f32 (stB (ratB x) k).1 (stB (ratB x) k).2 = some (stB (ratB x) (k + 1)).1) && decide (floatBits .mul .f32 (stB (ratB x) k).2 (ratB x) = some (stB (ratB x) (k + 1)).2)) &&
  ((sumsB (ratB x)).all fun z => fin32B z.1 && fin32B z.2) && ((fastB (ratB x)).all fun z => fin32B z.1 && fin32B z.2) &&
  ((List.range 4).all fun i => decide (spdB ((sumsB (ratB x)).getD i (0, 0)) ((sumsB (ratB x)).getD (i + 1) (0, 0)) ((sumsB (ratB x)).getD (i + 2) (0, 0)) = some ((fastB (ratB x)).getD i (0, 0)))) &&
  decide (lastB (ratB x) ((fastB (ratB x)).getD 0 (0, 0)).1 = some ())
set_option maxRecDepth 100000 in
theorem fact_all : ((List.range 5).all factB) = true := by decide +kernel

structure Facts (x r : Nat) : Prop where
  ratio : floatBits .quo .f32 (floatOfInt .f32 (1 + (x : Int))) 1090519040 = some r
  add : ∀ k, k < 6 → floatBits .add .f32 (stB r k).1 (stB r k).2 = some (stB r (k + 1)).1
  mul : ∀ k, k < 6 → floatBits .mul .f32 (stB r k).2 r = some (stB r (k + 1)).2
  sums : FinC (sumsB r)
  fast : FinC (fastB r)
  sped : ∀ i, i + 2 < 6 → spdB ((sumsB r).getD i (0, 0)) ((sumsB r).getD (i + 1) (0, 0)) ((sumsB r).getD (i + 2) (0, 0)) = some ((fastB r).getD i (0, 0))
  last : lastB r ((fastB r).getD 0 (0, 0)).1 = some ()

theorem finC_of {l : List (Nat × Nat)} (h : (l.all fun z => fin32B z.1 && fin32B z.2) = true) : FinC l := fun z hz => by
  have := List.all_eq_true.1 h z hz
  simp only [Bool.and_eq_true, fin32B, decide_eq_true_eq] at this
  exact this

theorem facts {x : Nat} (hx : x < 5) : Facts x (ratB x) := by
  have h := List.all_eq_true.1 fact_all x (List.mem_range.2 hx)
  unfold factB at h
  generalize ratB x = r at *
  rw [Bool.and_eq_true, Bool.and_eq_true, Bool.and_eq_true, Bool.and_eq_true, Bool.and_eq_true] at h
  obtain ⟨⟨⟨⟨⟨h1, h2⟩, h3⟩, h4⟩, h5⟩, h6⟩ := h
  refine ⟨of_decide_eq_true h1, fun k hk => ?_, fun k hk => ?_, finC_of h3, finC_of h4, fun i hi => ?_, of_decide_eq_true h6⟩
  · have := List.all_eq_true.1 h2 k (List.mem_range.2 hk)
    rw [Bool.and_eq_true] at this
    exact of_decide_eq_true this.1
  · have := List.all_eq_true.1 h2 k (List.mem_range.2 hk)
    rw [Bool.and_eq_true] at this
    exact of_decide_eq_true this.2
  · have := List.all_eq_true.1 h5 i (List.mem_range.2 (by omega))
    exact of_decide_eq_true this

theorem sumsB_len (r : Nat) : (sumsB r).length = 6 := by simp [sumsB]
theorem fastB_len (r : Nat) : (fastB r).length = 4 := by simp [fastB]
theorem sumsB_next {r k : Nat} (h : k < 6) : (sumsB r).take (k + 1) = (sumsB r).take k ++ [((stB r (k + 1)).1, 0)] := by
  have hl := sumsB_len r
  rw [List.take_succ_eq_append_getElem (by omega)]
  simp [sumsB]
end Go.Proofs.Ytciakaecdllfcaa
