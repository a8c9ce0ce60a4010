/-
  NewDesk: the law's helpers on polynomials and desks.
-/
import Derived.Test.YtciakaecdllfcaaCplx
namespace Go.Proofs.Ytciakaecdllfcaa
open Go.RowKit

/-- Two blocks of a call's own, laid first. -/
theorem below_two (w : World) (o1 o2 : Obj) : Below w.heap.size w ((w.alloc o1).alloc o2) := ((Below.refl _ _).alloc (Nat.le_refl _) _).alloc (by simp) _

theorem eqPoly_b (A A' : Option Addr) (c c' B : Nat) (l : List (Nat × Nat)) (w : World) (hr : Reads w B 1 A l.length (cplx l)) (hr' : Reads w B 1 A' l.length (cplx l)) (hB : B ≤ w.heap.size) (hw : Wids l) (hn : l.length ≤ 1048576) :
    Calls Try.prog 49 #[.agg #[.slice A l.length c], .agg #[.slice A' l.length c']] w fun e w' => e = .returned (.bool true) ∧ Below w.heap.size w w' := by
  have hb2 := below_two w (.cells #[.slice A l.length c] 43) (.cells #[.slice A' l.length c'] 43)
  go_enter Try.func49, Try.ntmps49
  go_wp2_with fail
  refine (eqComplex64S_b A A' c c' B l _ (hr.below (hb2.mono hB)) (hr'.below (hb2.mono hB)) hw hn).mono ?_
  rintro e w1 ⟨rfl, hb1⟩
  go_wp2_with fail
  go_ret
  exact ⟨rfl, hb2.trans (hb1.mono (by simp; omega))⟩

theorem eqReal_b (A A' : Option Addr) (c c' B : Nat) (zs : List Int) (w : World) (hr : Reads w B 1 A zs.length (ints zs)) (hr' : Reads w B 1 A' zs.length (ints zs)) (hB : B ≤ w.heap.size) (hn : zs.length ≤ 1048576) :
    Calls Try.prog 50 #[.agg #[.slice A zs.length c], .agg #[.slice A' zs.length c']] w fun e w' => e = .returned (.bool true) ∧ Below w.heap.size w w' := by
  have hb2 := below_two w (.cells #[.slice A zs.length c] 45) (.cells #[.slice A' zs.length c'] 45)
  go_enter Try.func50, Try.ntmps50
  go_wp2_with fail
  refine (eqInt64S_b A A' c c' B zs _ (hr.below (hb2.mono hB)) (hr'.below (hb2.mono hB)) hn).mono ?_
  rintro e w1 ⟨rfl, hb1⟩
  go_wp2_with fail
  go_ret
  exact ⟨rfl, hb2.trans (hb1.mono (by simp; omega))⟩

theorem markPoly_b (A : Option Addr) (c lo hi : Nat) (k0 : Int) (l : List (Nat × Nat)) (w : World) (ho : Own w lo hi 37 A (cplx l)) (hi2 : hi ≤ w.heap.size) (hk0 : 0 ≤ k0) (hn : k0 + (l.length : Int) < 256) :
    Calls Try.prog 52 #[.agg #[.slice A l.length c], .int .i64 k0] w fun e w' => e = .returned (.int .i64 (k0 + (l.length : Int))) ∧ Own w' lo hi 37 A (cplx (cmarks k0 l.length)) ∧ Kp lo hi w w' := by
  have hb2 : Below w.heap.size w (w.alloc (.cells #[.slice A l.length c] 43)) := (Below.refl _ _).alloc (Nat.le_refl _) _
  go_enter Try.func52, Try.ntmps52
  go_wp2_with fail
  refine (markComplex64S_any A c lo hi k0 l _ (ho.below hb2 hi2) hk0 hn).mono ?_
  rintro e w1 ⟨rfl, ho1, hk1⟩
  go_wp2_with fail
  go_ret
  exact ⟨rfl, ho1, (Kp.of_below hb2).trans hk1⟩

theorem markReal_b (A : Option Addr) (c lo hi : Nat) (k0 : Int) (zs : List Int) (w : World) (ho : Own w lo hi 2 A (ints zs)) (hi2 : hi ≤ w.heap.size) (hk0 : 0 ≤ k0 ∧ k0 ≤ 4194304) (hn : zs.length ≤ 1048576) :
    Calls Try.prog 53 #[.agg #[.slice A zs.length c], .int .i64 k0] w fun e w' => e = .returned (.int .i64 (k0 + (zs.length : Int))) ∧ Own w' lo hi 2 A (ints (marks k0 zs.length)) ∧ Kp lo hi w w' := by
  have hb2 : Below w.heap.size w (w.alloc (.cells #[.slice A zs.length c] 45)) := (Below.refl _ _).alloc (Nat.le_refl _) _
  go_enter Try.func53, Try.ntmps53
  go_wp2_with fail
  refine (markInt64S_any A c lo hi k0 zs _ (ho.below hb2 hi2) hn hk0).mono ?_
  rintro e w1 ⟨rfl, ho1, hk1⟩
  go_wp2_with fail
  go_ret
  exact ⟨rfl, ho1, (Kp.of_below hb2).trans hk1⟩

theorem heldPoly_b (A : Option Addr) (c B : Nat) (k0 : Int) (n : Nat) (w : World) (hr : Reads w B 1 A n (cplx (cmarks k0 n))) (hB : B ≤ w.heap.size) (hk0 : 0 ≤ k0) (hn : k0 + (n : Int) < 256) :
    Calls Try.prog 55 #[.agg #[.slice A n c], .int .i64 k0] w fun e w' => e = .returned (.int .i64 (k0 + (n : Int))) ∧ Below w.heap.size w w' := by
  have hb2 : Below w.heap.size w (w.alloc (.cells #[.slice A n c] 43)) := (Below.refl _ _).alloc (Nat.le_refl _) _
  go_enter Try.func55, Try.ntmps55
  go_wp2_with fail
  refine (heldComplex64S_b A c B k0 n _ (hr.below (hb2.mono hB)) hk0 hn).mono ?_
  rintro e w1 ⟨rfl, hb1⟩
  go_wp2_with fail
  go_ret
  exact ⟨rfl, hb2.trans (hb1.mono (by simp))⟩

theorem heldReal_b (A : Option Addr) (c B : Nat) (k0 : Int) (n : Nat) (w : World) (hr : Reads w B 1 A n (ints (marks k0 n))) (hB : B ≤ w.heap.size) (hk0 : 0 ≤ k0 ∧ k0 ≤ 4194304) (hn : n ≤ 1048576) :
    Calls Try.prog 56 #[.agg #[.slice A n c], .int .i64 k0] w fun e w' => e = .returned (.int .i64 (k0 + (n : Int))) ∧ Below w.heap.size w w' := by
  have hb2 : Below w.heap.size w (w.alloc (.cells #[.slice A n c] 45)) := (Below.refl _ _).alloc (Nat.le_refl _) _
  go_enter Try.func56, Try.ntmps56
  go_wp2_with fail
  refine (heldInt64S_b A c B k0 n _ (hr.below (hb2.mono hB)) hn hk0).mono ?_
  rintro e w1 ⟨rfl, hb1⟩
  go_wp2_with fail
  go_ret
  exact ⟨rfl, hb2.trans (hb1.mono (by simp))⟩

theorem own_new (w : World) (cs : List Value) (E : TypeId) (g lo hi : Nat) (hg : g = w.heap.size) (h1 : lo ≤ g) (h2 : g < hi) : Own (w.alloc (.cells cs.toArray E)) lo hi E (some ⟨g, 0, none⟩) cs := by
  subst hg
  exact .inr ⟨w.heap.size, cs.toArray, rfl, h1, h2, heap_alloc_new w _, by simp, by simp⟩
theorem Own.alloc {w : World} {lo hi : Nat} {E : TypeId} {A : Option Addr} {xs : List Value} (h : Own w lo hi E A xs) (o : Obj) : Own (w.alloc o) lo hi E A xs :=
  h.keep fun g _ _ h3 => Below.heap_alloc w o g h3

/-- The desk's four lists. -/
def dA : List (Nat × Nat) := [(3212836864, 0), (0, 0), (1065353216, 0)]
def dB : List (Nat × Nat) := [(3212836864, 0), (1065353216, 0)]
def dR : List Int := [-2, 0, 1]
def dP : List (Nat × Nat) := [(0, 0), (1065353216, 0), (1073741824, 0)]

/-- A desk in memory: its four lists lie in blocks from lo on and below hi. -/
structure Desk (w : World) (lo hi : Nat) (A1 A2 A3 A4 : Option Addr) : Prop where
  a : Own w lo hi 37 A1 (cplx dA)
  b : Own w lo hi 37 A2 (cplx dB)
  r : Own w lo hi 2 A3 (ints dR)
  p : Own w lo hi 37 A4 (cplx dP)

/-- A desk in memory whose four lists lie one behind the other. -/
structure Desk4 (w : World) (lo m1 m2 m3 hi : Nat) (A1 A2 A3 A4 : Option Addr) : Prop where
  a : Own w lo m1 37 A1 (cplx dA)
  b : Own w m1 m2 37 A2 (cplx dB)
  r : Own w m2 m3 2 A3 (ints dR)
  p : Own w m3 hi 37 A4 (cplx dP)
  o1 : lo ≤ m1
  o2 : m1 ≤ m2
  o3 : m2 ≤ m3
  o4 : m3 ≤ hi
theorem Desk4.desk {w : World} {lo m1 m2 m3 hi : Nat} {A1 A2 A3 A4 : Option Addr} (h : Desk4 w lo m1 m2 m3 hi A1 A2 A3 A4) : Desk w lo hi A1 A2 A3 A4 := by
  have := h.o1; have := h.o2; have := h.o3; have := h.o4
  exact ⟨h.a.wide (by omega) (by omega), h.b.wide (by omega) (by omega), h.r.wide (by omega) (by omega), h.p.wide (by omega) (by omega)⟩

theorem desk_of (w : World) (o : Obj) (n : Nat) (hn : n = w.heap.size) :
    Desk4 (((((w.alloc o).alloc (.cells #[.complex .f32 3212836864 0, .complex .f32 0 0, .complex .f32 1065353216 0] 37)).alloc (.cells #[.complex .f32 3212836864 0, .complex .f32 1065353216 0] 37)).alloc (.cells #[.int .i64 (-2), .int .i64 0, .int .i64 1] 2)).alloc (.cells #[.complex .f32 0 0, .complex .f32 1065353216 0, .complex .f32 1073741824 0] 37))
      n (n + 1 + 1) (n + 1 + 1 + 1) (n + 1 + 1 + 1 + 1) (n + 1 + 1 + 1 + 1 + 1) (some ⟨n + 1, 0, none⟩) (some ⟨n + 1 + 1, 0, none⟩) (some ⟨n + 1 + 1 + 1, 0, none⟩) (some ⟨n + 1 + 1 + 1 + 1, 0, none⟩) := by
  subst hn
  refine ⟨?_, ?_, ?_, ?_, by omega, by omega, by omega, by omega⟩
  · exact (((own_new (w.alloc o) (cplx dA) 37 _ _ _ (by simp) (by omega) (by omega)).alloc _).alloc _).alloc _
  · exact ((own_new ((w.alloc o).alloc _) (cplx dB) 37 _ _ _ (by simp) (by omega) (by omega)).alloc _).alloc _
  · exact (own_new (((w.alloc o).alloc _).alloc _) (ints dR) 2 _ _ _ (by simp) (by omega) (by omega)).alloc _
  · exact own_new ((((w.alloc o).alloc _).alloc _).alloc _) (cplx dP) 37 _ _ _ (by simp) (by omega) (by omega)

def IsDesk (w : World) (e : Ending) (w' : World) : Prop := ∃ A1 A2 A3 A4 c1 c2 c3 c4 m1 m2 m3, e = .returned (.agg #[.slice A1 3 c1, .slice A2 2 c2, .slice A3 3 c3, .slice A4 3 c4]) ∧ Desk4 w' w.heap.size m1 m2 m3 w'.heap.size A1 A2 A3 A4 ∧ Below w.heap.size w w'

theorem newI (w : World) : Calls Try.prog 23 #[] w (IsDesk w) := by
  go_enter Try.func23, Try.ntmps23
  go_wp2_with fail
  refine bodyPost_ret (v := .agg #[.slice (some ⟨w.heap.size + 1, 0, none⟩) 3 3, .slice (some ⟨w.heap.size + 1 + 1, 0, none⟩) 2 2, .slice (some ⟨w.heap.size + 1 + 1 + 1, 0, none⟩) 3 3, .slice (some ⟨w.heap.size + 1 + 1 + 1 + 1, 0, none⟩) 3 3]) (by simp [results, Try.results23, go_sem]) rfl ⟨_, _, _, _, _, _, _, _, w.heap.size + 1 + 1, w.heap.size + 1 + 1 + 1, w.heap.size + 1 + 1 + 1 + 1, rfl, ?_, ?_⟩
  · have h := desk_of w (.cells #[.slice (some ⟨w.heap.size + 1, 0, none⟩) 3 3, .slice (some ⟨w.heap.size + 1 + 1, 0, none⟩) 2 2, .slice (some ⟨w.heap.size + 1 + 1 + 1, 0, none⟩) 3 3, .slice (some ⟨w.heap.size + 1 + 1 + 1 + 1, 0, none⟩) 3 3] 47) _ rfl
    simpa using h
  · exact (((((Below.refl _ _).alloc (Nat.le_refl _) _).alloc (by simp) _).alloc (by simp; omega) _).alloc (by simp; omega) _).alloc (by simp; omega) _

theorem desk_of6 (w : World) (o o2 : Obj) (n : Nat) (hn : n = w.heap.size) :
    Desk4 ((((((w.alloc o).alloc (.cells #[.complex .f32 3212836864 0, .complex .f32 0 0, .complex .f32 1065353216 0] 37)).alloc (.cells #[.complex .f32 3212836864 0, .complex .f32 1065353216 0] 37)).alloc o2).alloc (.cells #[.int .i64 (-2), .int .i64 0, .int .i64 1] 2)).alloc (.cells #[.complex .f32 0 0, .complex .f32 1065353216 0, .complex .f32 1073741824 0] 37))
      n (n + 1 + 1) (n + 1 + 1 + 1) (n + 1 + 1 + 1 + 1 + 1) (n + 1 + 1 + 1 + 1 + 1 + 1) (some ⟨n + 1, 0, none⟩) (some ⟨n + 1 + 1, 0, none⟩) (some ⟨n + 1 + 1 + 1 + 1, 0, none⟩) (some ⟨n + 1 + 1 + 1 + 1 + 1, 0, none⟩) := by
  subst hn
  refine ⟨?_, ?_, ?_, ?_, by omega, by omega, by omega, by omega⟩
  · exact ((((own_new (w.alloc o) (cplx dA) 37 _ _ _ (by simp) (by omega) (by omega)).alloc _).alloc _).alloc _).alloc _
  · exact (((own_new ((w.alloc o).alloc _) (cplx dB) 37 _ _ _ (by simp) (by omega) (by omega)).alloc _).alloc _).alloc _
  · exact (own_new ((((w.alloc o).alloc _).alloc _).alloc o2) (ints dR) 2 _ _ _ (by simp) (by omega) (by omega)).alloc _
  · exact own_new (((((w.alloc o).alloc _).alloc _).alloc o2).alloc _) (cplx dP) 37 _ _ _ (by simp) (by omega) (by omega)

theorem newS (w : World) : Calls Try.prog 22 #[] w (IsDesk w) := by
  go_enter Try.func22, Try.ntmps22
  go_wp2_with fail
  refine bodyPost_ret (v := .agg #[.slice (some ⟨w.heap.size + 1, 0, none⟩) 3 3, .slice (some ⟨w.heap.size + 1 + 1, 0, none⟩) 2 2, .slice (some ⟨w.heap.size + 1 + 1 + 1 + 1, 0, none⟩) 3 3, .slice (some ⟨w.heap.size + 1 + 1 + 1 + 1 + 1, 0, none⟩) 3 3]) (by simp [results, Try.results22, go_sem]) rfl ⟨_, _, _, _, _, _, _, _, w.heap.size + 1 + 1, w.heap.size + 1 + 1 + 1, w.heap.size + 1 + 1 + 1 + 1 + 1, rfl, ?_, ?_⟩
  · have h := desk_of6 w (.cells #[.slice (some ⟨w.heap.size + 1, 0, none⟩) 3 3, .slice (some ⟨w.heap.size + 1 + 1, 0, none⟩) 2 2, .slice (some ⟨w.heap.size + 1 + 1 + 1 + 1, 0, none⟩) 3 3, .slice (some ⟨w.heap.size + 1 + 1 + 1 + 1 + 1, 0, none⟩) 3 3] 47) (.cells #[.slice (some ⟨w.heap.size + 1, 0, none⟩) 3 3, .slice (some ⟨w.heap.size + 1 + 1, 0, none⟩) 2 2, .slice (some ⟨w.heap.size + 1 + 1 + 1 + 1, 0, none⟩) 3 3, .slice (some ⟨w.heap.size + 1 + 1 + 1 + 1 + 1, 0, none⟩) 3 3] 47) _ rfl
    simpa using h
  · exact ((((((Below.refl _ _).alloc (Nat.le_refl _) _).alloc (by simp) _).alloc (by simp; omega) _).alloc (by simp; omega) _).alloc (by simp; omega) _).alloc (by simp; omega) _

theorem wid_of {x y : Nat} (h1 : floatToFloatBits .f32 x .f64 = some y) (h2 : Num64 y) : Wid x := ⟨y, h1, h2⟩
theorem wid0 : Wid 0 := wid_of (y := 0) (by decide +kernel) (by unfold Num64; decide +kernel)
theorem wid1 : Wid 1065353216 := wid_of (y := 4607182418800017408) (by decide +kernel) (by unfold Num64; decide +kernel)
theorem widm : Wid 3212836864 := wid_of (y := 13830554455654793216) (by decide +kernel) (by unfold Num64; decide +kernel)
theorem wid2 : Wid 1073741824 := wid_of (y := 4611686018427387904) (by decide +kernel) (by unfold Num64; decide +kernel)
theorem widA : Wids dA := fun k hk => by
  rcases (show k = 0 ∨ k = 1 ∨ k = 2 by simp [dA] at hk; omega) with rfl | rfl | rfl
  · exact ⟨widm, wid0⟩
  · exact ⟨wid0, wid0⟩
  · exact ⟨wid1, wid0⟩
theorem widB : Wids dB := fun k hk => by
  rcases (show k = 0 ∨ k = 1 by simp [dB] at hk; omega) with rfl | rfl
  · exact ⟨widm, wid0⟩
  · exact ⟨wid1, wid0⟩
theorem widP : Wids dP := fun k hk => by
  rcases (show k = 0 ∨ k = 1 ∨ k = 2 by simp [dP] at hk; omega) with rfl | rfl | rfl
  · exact ⟨wid0, wid0⟩
  · exact ⟨wid1, wid0⟩
  · exact ⟨wid2, wid0⟩

section
variable {w w' : World} {lo hi : Nat} {A1 A2 A3 A4 : Option Addr}
theorem Desk.below {B : Nat} (h : Desk w lo hi A1 A2 A3 A4) (hb : Below B w w') (hB : hi ≤ B) : Desk w' lo hi A1 A2 A3 A4 :=
  ⟨h.a.below hb hB, h.b.below hb hB, h.r.below hb hB, h.p.below hb hB⟩
theorem Desk.kp {a b : Nat} (h : Desk w lo hi A1 A2 A3 A4) (hk : Kp a b w w') (hd : hi ≤ a ∨ b ≤ lo) : Desk w' lo hi A1 A2 A3 A4 :=
  ⟨h.a.kp hk hd, h.b.kp hk hd, h.r.kp hk hd, h.p.kp hk hd⟩
end

/-- Two boxes of four cells, behind a call that turned nothing older. -/
theorem boxes (w w1 : World) (t : TypeId) (a1 a2 a3 a4 b1 b2 b3 b4 : Value) (hb : Below (w.heap.size + 1 + 1) ((w.alloc (.cells #[a1, a2, a3, a4] t)).alloc (.cells #[b1, b2, b3, b4] t)) w1) :
    (w1.cell? ⟨w.heap.size, 0, none⟩ = some a1 ∧ w1.cell? ⟨w.heap.size, 1, none⟩ = some a2 ∧ w1.cell? ⟨w.heap.size, 2, none⟩ = some a3 ∧ w1.cell? ⟨w.heap.size, 3, none⟩ = some a4) ∧
    (w1.cell? ⟨w.heap.size + 1, 0, none⟩ = some b1 ∧ w1.cell? ⟨w.heap.size + 1, 1, none⟩ = some b2 ∧ w1.cell? ⟨w.heap.size + 1, 2, none⟩ = some b3 ∧ w1.cell? ⟨w.heap.size + 1, 3, none⟩ = some b4) := by
  have h1 : Blk w1 w.heap.size t #[a1, a2, a3, a4] := by
    have h : Blk (w.alloc (.cells #[a1, a2, a3, a4] t)) w.heap.size t #[a1, a2, a3, a4] := heap_alloc_new w _
    exact Blk.below (B := w.heap.size + 1 + 1) (show Blk ((w.alloc (.cells #[a1, a2, a3, a4] t)).alloc _) _ _ _ from (Below.heap_alloc _ _ _ h.lt).trans h) hb (by omega)
  have h2 : Blk w1 (w.heap.size + 1) t #[b1, b2, b3, b4] := by
    have h : Blk ((w.alloc (.cells #[a1, a2, a3, a4] t)).alloc (.cells #[b1, b2, b3, b4] t)) (w.alloc (.cells #[a1, a2, a3, a4] t)).heap.size t #[b1, b2, b3, b4] := heap_alloc_new _ _
    rw [show (w.alloc (.cells #[a1, a2, a3, a4] t)).heap.size = w.heap.size + 1 by simp] at h
    exact h.below hb (by omega)
  exact ⟨⟨h1.cell 0, h1.cell 1, h1.cell 2, h1.cell 3⟩, ⟨h2.cell 0, h2.cell 1, h2.cell 2, h2.cell 3⟩⟩
/-- One box of four cells, behind a call. -/
theorem box1 (w w1 : World) (t : TypeId) (a1 a2 a3 a4 : Value) (hb : ∀ k, k < w.heap.size + 1 → k = w.heap.size → w1.heap[k]? = (w.alloc (.cells #[a1, a2, a3, a4] t)).heap[k]?) :
    w1.cell? ⟨w.heap.size, 0, none⟩ = some a1 ∧ w1.cell? ⟨w.heap.size, 1, none⟩ = some a2 ∧ w1.cell? ⟨w.heap.size, 2, none⟩ = some a3 ∧ w1.cell? ⟨w.heap.size, 3, none⟩ = some a4 := by
  have h1 : Blk w1 w.heap.size t #[a1, a2, a3, a4] := (hb _ (by omega) rfl).trans (heap_alloc_new w _)
  exact ⟨h1.cell 0, h1.cell 1, h1.cell 2, h1.cell 3⟩

theorem eqDesk_b (A1 A2 A3 A4 B1 B2 B3 B4 : Option Addr) (c1 c2 c3 c4 d1 d2 d3 d4 lo hi lo' hi' : Nat) (w : World) (h : Desk w lo hi A1 A2 A3 A4) (h' : Desk w lo' hi' B1 B2 B3 B4) (hh : hi ≤ w.heap.size) (hh' : hi' ≤ w.heap.size) :
    Calls Try.prog 24 #[.agg #[.slice A1 3 c1, .slice A2 2 c2, .slice A3 3 c3, .slice A4 3 c4], .agg #[.slice B1 3 d1, .slice B2 2 d2, .slice B3 3 d3, .slice B4 3 d4]] w fun e w' => e = .returned (.bool true) ∧ Below w.heap.size w w' := by
  have hb2 := below_two w (.cells #[.slice A1 3 c1, .slice A2 2 c2, .slice A3 3 c3, .slice A4 3 c4] 47) (.cells #[.slice B1 3 d1, .slice B2 2 d2, .slice B3 3 d3, .slice B4 3 d4] 47)
  go_enter Try.func24, Try.ntmps24
  go_wp2_with fail
  refine (eqPoly_b A1 B1 c1 d1 w.heap.size dA _ ((h.below hb2 hh).a.reads' hh rfl) ((h'.below hb2 hh').a.reads' hh' rfl) (by simp; omega) widA (by simp [dA])).mono ?_
  rintro e w1 ⟨rfl, hb1⟩
  have hx := boxes w w1 _ _ _ _ _ _ _ _ _ (by simpa using hb1)
  obtain ⟨⟨x1, x2, x3, x4⟩, ⟨x5, x6, x7, x8⟩⟩ := hx
  have hk1 := hb2.trans (hb1.mono (by simp; omega))
  have HB := Lib.hid hb1
  clear hb1
  go_wp2_with fail
  refine (eqPoly_b A2 B2 c2 d2 w.heap.size dB _ ((h.below hk1 hh).b.reads' hh rfl) ((h'.below hk1 hh').b.reads' hh' rfl) hk1.size widB (by simp [dB])).mono ?_
  rintro e w2 ⟨rfl, hb2'⟩
  have HB2 := HB.out.trans (hb2'.mono HB.out.size)
  obtain ⟨⟨x1, x2, x3, x4⟩, ⟨x5, x6, x7, x8⟩⟩ := boxes w w2 _ _ _ _ _ _ _ _ _ (by simpa using HB2)
  have hk2 := hk1.trans (hb2'.mono hk1.size)
  have HB2' := Lib.hid HB2
  clear hb2' HB2 HB
  go_wp2_with fail
  refine (eqReal_b A3 B3 c3 d3 w.heap.size dR _ ((h.below hk2 hh).r.reads' hh rfl) ((h'.below hk2 hh').r.reads' hh' rfl) hk2.size (by simp [dR])).mono ?_
  rintro e w3 ⟨rfl, hb3'⟩
  have HB3 := HB2'.out.trans (hb3'.mono HB2'.out.size)
  obtain ⟨⟨x1, x2, x3, x4⟩, ⟨x5, x6, x7, x8⟩⟩ := boxes w w3 _ _ _ _ _ _ _ _ _ (by simpa using HB3)
  have hk3 := hk2.trans (hb3'.mono hk2.size)
  clear hb3' HB3 HB2'
  go_wp2_with fail
  refine (eqComplex64S_b A4 B4 c4 d4 w.heap.size dP _ ((h.below hk3 hh).p.reads' hh rfl) ((h'.below hk3 hh').p.reads' hh' rfl) widP (by simp [dP])).mono ?_
  rintro e w4 ⟨rfl, hb4⟩
  have hk4 := hk3.trans (hb4.mono hk3.size)
  clear hb4
  go_wp2_with fail
  go_ret
  exact ⟨rfl, hk4⟩
end Go.Proofs.Ytciakaecdllfcaa
