/-
  The values of families at eighths: tables and what follows.
  The parts of the law FnFamilies: rows, values, recurrences, sums (by values).
  The parts of the law FnFamilies: sums and sizes, what is told and found again, values at points; impl.ValuesShared.
-/
import Derived.Test.YtlpibibpckkjhaaPe
namespace Go.Proofs.Ytlpibibpckkjhaa
open Go.RowKit
/-- An eighth as a word. -/
def xF (i : Nat) : Nat := (fb .quo (floatOfInt .f32 ((i : Int) - 8)) 1090519040).getD 0
def xV (i : Nat) : Rat := V32 (xF i)
def row6 (kind i : Nat) : List Nat := ((rowW kind (xF i) 6).getD ([], 0)).1
def RW (kind i j : Nat) : Nat := (row6 kind i).getD j 0
def RV (kind i j : Nat) : Rat := V32 (RW kind i j)
def xB (i : Nat) : Bool := (fb .quo (floatOfInt .f32 ((i : Int) - 8)) 1090519040 == some (xF i)) && fin32B (xF i) && decide (ab (xV i) ≤ 1)
theorem x_tab : (List.range 17).all xB = true := by decide +kernel
theorem x_ok (i : Nat) (hi : i < 17) : fb .quo (floatOfInt .f32 ((i : Int) - 8)) 1090519040 = some (xF i) ∧ NV .f32 (xF i) (xV i) ∧ Lm (xV i) 1 := by
  have h := List.all_eq_true.1 x_tab i (List.mem_range.2 hi)
  unfold xB at h
  simp only [Bool.and_eq_true, beq_iff_eq, decide_eq_true_eq] at h
  exact ⟨h.1.1, nv_of_fin h.1.2, (ab_lm _).le h.2⟩
def rowB (kind i : Nat) : Bool := match rowW kind (xF i) 6 with
  | none => false
  | some r => r.1.all fin32B && (List.range 7).all (fun j => decide (ab (V32 (r.1.getD j 0)) ≤ 100) && decide (ab (V32 (r.1.getD j 0) - (rowE kind (xV i) j).1) ≤ 1 / 50000)) &&
    (List.range 5).all (fun k => decide (ab (V32 (r.1.getD (k + 2) 0) - ((rA kind (k + 1) * xV i + rB kind (k + 1)) * V32 (r.1.getD (k + 1) 0) - rC kind (k + 1) * V32 (r.1.getD k 0))) ≤ 1 / 10000))
def polB (kind i : Nat) : Bool := (List.range 7).all fun n => decide (ab (polS (tT kind n) (xV i) (n + 1) - RV kind i n) ≤ 1 / 1000)
def rulB2 (kind k : Nat) : Bool := decide (ab (rA kind k) ≤ 3) && decide (ab (rB kind k) ≤ 3) && decide (ab (rC kind k) ≤ 7)
theorem row0 : (List.range 17).all (rowB 0) = true := by decide +kernel
theorem row1 : (List.range 17).all (rowB 1) = true := by decide +kernel
theorem row2 : (List.range 17).all (rowB 2) = true := by decide +kernel
theorem row3 : (List.range 17).all (rowB 3) = true := by decide +kernel
theorem row4 : (List.range 17).all (rowB 4) = true := by decide +kernel
theorem pol0 : (List.range 17).all (polB 0) = true := by decide +kernel
theorem pol1 : (List.range 17).all (polB 1) = true := by decide +kernel
theorem pol2 : (List.range 17).all (polB 2) = true := by decide +kernel
theorem pol3 : (List.range 17).all (polB 3) = true := by decide +kernel
theorem pol4 : (List.range 17).all (polB 4) = true := by decide +kernel
theorem rul2_tab : (List.range 5).all (fun kind => (List.range 7).all (rulB2 kind)) = true := by decide +kernel
end Go.Proofs.Ytlpibibpckkjhaa
namespace Go.Proofs.Ytlpibibpckkjhaa
open Go.RowKit
theorem rowB_all (kind i : Nat) (hk : kind ≤ 4) (hi : i < 17) : rowB kind i = true := by
  obtain rfl | rfl | rfl | rfl | rfl : kind = 0 ∨ kind = 1 ∨ kind = 2 ∨ kind = 3 ∨ kind = 4 := by omega
  · exact List.all_eq_true.1 row0 i (List.mem_range.2 hi)
  · exact List.all_eq_true.1 row1 i (List.mem_range.2 hi)
  · exact List.all_eq_true.1 row2 i (List.mem_range.2 hi)
  · exact List.all_eq_true.1 row3 i (List.mem_range.2 hi)
  · exact List.all_eq_true.1 row4 i (List.mem_range.2 hi)
theorem polB_all (kind i n : Nat) (hk : kind ≤ 4) (hi : i < 17) (hn : n ≤ 6) : Lm (polS (tT kind n) (xV i) (n + 1) - RV kind i n) (1 / 1000) := by
  have h : polB kind i = true := by
    obtain rfl | rfl | rfl | rfl | rfl : kind = 0 ∨ kind = 1 ∨ kind = 2 ∨ kind = 3 ∨ kind = 4 := by omega
    · exact List.all_eq_true.1 pol0 i (List.mem_range.2 hi)
    · exact List.all_eq_true.1 pol1 i (List.mem_range.2 hi)
    · exact List.all_eq_true.1 pol2 i (List.mem_range.2 hi)
    · exact List.all_eq_true.1 pol3 i (List.mem_range.2 hi)
    · exact List.all_eq_true.1 pol4 i (List.mem_range.2 hi)
  have h2 := List.all_eq_true.1 h n (List.mem_range.2 (by omega))
  simp only [decide_eq_true_eq] at h2
  exact (ab_lm _).le h2
theorem rul2_ok (kind k : Nat) (hk : kind ≤ 4) (hk6 : k ≤ 6) : Lm (rA kind k) 3 ∧ Lm (rB kind k) 3 ∧ Lm (rC kind k) 7 := by
  have h := List.all_eq_true.1 (List.all_eq_true.1 rul2_tab kind (List.mem_range.2 (by omega))) k (List.mem_range.2 (by omega))
  unfold rulB2 at h
  simp only [Bool.and_eq_true, decide_eq_true_eq] at h
  exact ⟨(ab_lm _).le h.1.1, (ab_lm _).le h.1.2, (ab_lm _).le h.2⟩
structure RowOk (kind i n : Nat) (r : List Nat × Nat) : Prop where
  is : rowW kind (xF i) n = some r
  len : r.1.length = n + 1
  at_ : ∀ j, j ≤ n → r.1.getD j 0 = RW kind i j
  fin : finR r.1 = true
theorem row_facts (kind i : Nat) (hk : kind ≤ 4) (hi : i < 17) : ∃ r, rowW kind (xF i) 6 = some r ∧ row6 kind i = r.1 ∧ (∀ j, j ≤ 6 → NV .f32 (RW kind i j) (RV kind i j) ∧ Lm (RV kind i j) 100 ∧ Nr (RV kind i j) (rowE kind (xV i) j).1 (1 / 50000)) ∧
    ∀ k, k < 5 → Lm (RV kind i (k + 2) - ((rA kind (k + 1) * xV i + rB kind (k + 1)) * RV kind i (k + 1) - rC kind (k + 1) * RV kind i k)) (1 / 10000) := by
  have h := rowB_all kind i hk hi
  unfold rowB at h
  cases e : rowW kind (xF i) 6 with
  | none => rw [e] at h; cases h
  | some r =>
    rw [e] at h
    simp only [Bool.and_eq_true] at h
    obtain ⟨⟨h1, h2⟩, h3⟩ := h
    have e2 : row6 kind i = r.1 := by unfold row6; rw [e]; rfl
    have hl := rowW_len e
    have eR : ∀ j, RW kind i j = r.1.getD j 0 := fun j => by unfold RW; rw [e2]
    refine ⟨r, rfl, e2, fun j hj => ?_, fun k hk5 => ?_⟩
    · have a := List.all_eq_true.1 h2 j (List.mem_range.2 (by omega))
      simp only [Bool.and_eq_true, decide_eq_true_eq] at a
      unfold RV
      rw [eR]
      refine ⟨nv_of_fin (List.all_eq_true.1 h1 _ ?_), (ab_lm _).le a.1, lm_nr.2 ((ab_lm _).le a.2)⟩
      rw [List.getD, List.getElem?_eq_getElem (by omega)]
      exact List.getElem_mem _
    · have a := List.all_eq_true.1 h3 k (List.mem_range.2 hk5)
      simp only [decide_eq_true_eq] at a
      unfold RV
      rw [eR, eR, eR]
      exact (ab_lm _).le a
theorem row_ok (kind i n : Nat) (hk : kind ≤ 4) (hi : i < 17) (hn : n ≤ 6) : ∃ r, RowOk kind i n r := by
  obtain ⟨r, e, e2, hv, -⟩ := row_facts kind i hk hi
  obtain ⟨s, h1, h2⟩ := rowW_upto e n hn
  have hl := rowW_len h1
  have hat : ∀ j, j ≤ n → s.1.getD j 0 = RW kind i j := fun j hj => by unfold RW; rw [e2]; exact h2 j hj
  refine ⟨s, h1, hl, hat, List.all_eq_true.2 fun y hy => ?_⟩
  obtain ⟨k, hk2, rfl⟩ := List.mem_iff_getElem.1 hy
  have h3 := hat k (by omega)
  rw [List.getD, List.getElem?_eq_getElem hk2] at h3
  have h4 := nv_fin (hv k (by omega)).1
  rw [← h3] at h4
  exact h4
theorem RW_zero (kind i : Nat) (hk : kind ≤ 4) (hi : i < 17) : RW kind i 0 = 1065353216 := by
  obtain ⟨r, h⟩ := row_ok kind i 0 hk hi (by omega)
  have h1 := h.is
  cases h1
  exact (h.at_ 0 (Nat.le_refl _)).symm
/-- The value of a family's polynomial at an eighth. -/
theorem hC_real {re : Nat → Rat} {ξ : Rat} {n : Nat} : ∀ j, hC re (fun _ => 0) ξ 0 n j = (hor re ξ n j, 0)
  | 0 => rfl
  | j + 1 => by
    have ih := hC_real (re := re) (ξ := ξ) (n := n) j
    rw [hC, ih, hor]
    simp only
    congr 1 <;> grind
theorem gC_bd {L : Nat → Rat} {n : Nat} (hL : ∀ k, k < n → 0 ≤ L k ∧ L k ≤ 101) : ∀ j, j < n → 0 ≤ gC L 1 n j ∧ gC L 1 n j ≤ 101 * ((j + 1 : Nat) : Rat)
  | 0, hj => by
    have e : ((0 + 1 : Nat) : Rat) = 1 := rfl
    rw [gC, e]
    have := hL (n - 1) (by omega)
    grind
  | j + 1, hj => by
    have ih := gC_bd hL j (by omega)
    have := hL (n - 2 - j) (by omega)
    rw [gC, nat_succ_rat (j + 1)]
    grind
theorem fam_polyAt (kind i n : Nat) (hk : kind ≤ 4) (hi : i < 17) (hn : n ≤ 6) : ∃ r s π, NV .f32 r π ∧ Nr π (RV kind i n) (1 / 200) ∧
    ∀ (A : Option Addr) (c : Nat) w, Reads w w.heap.size 1 A (n + 1) (cplx (reC (tmL kind n).1)) → Calls Try.prog 11 #[.agg #[.slice A (n + 1) c], .complex .f32 (xF i) 0] w fun e w' => e = .returned (.tuple #[.complex .f32 r s, .bool true]) ∧ Below w.heap.size w w' := by
  have ho := tm_ok kind n hk hn
  obtain ⟨-, nx, lx⟩ := x_ok i hi
  have hl : (reC (tmL kind n).1).length = n + 1 := by rw [reC_len, ho.len]
  have hT : TrmN (reC (tmL kind n).1) (tT kind n) (fun _ => 0) (fun k => ab (tT kind n k) + 1 / 1000000) := fun k hk2 => by
    rw [reC_at (by rw [ho.len]; omega)]
    have hp := ab_pos (tT kind n k)
    have hb := ab_lm (tT kind n k)
    refine ⟨ho.nv k (by omega), nv_zero, ?_, by grind⟩
    unfold Lm at hb
    unfold N1; refine ⟨?_, ?_, ?_, ?_⟩ <;> grind
  have hL : ∀ k, k < n + 1 → 0 ≤ ab (tT kind n k) + 1 / 1000000 ∧ ab (tT kind n k) + 1 / 1000000 ≤ 101 := fun k hk2 => by
    have hp := ab_pos (tT kind n k)
    have hb := ho.bd k (by omega)
    constructor <;> grind
  have hN : N1 (xV i) 0 1 := by unfold Lm at lx; unfold N1; refine ⟨?_, ?_, ?_, ?_⟩ <;> grind
  have hn7 := nat_le_rat (show n + 1 ≤ 7 by omega)
  have e7 : ((7 : Nat) : Rat) = 7 := rfl
  rw [e7] at hn7
  have hG : ∀ j, j < n + 1 → gC (fun k => ab (tT kind n k) + 1 / 1000000) 1 (n + 1) j ≤ 707 := fun j hj => by
    have h := (gC_bd hL j hj).2
    have := nat_le_rat (show j + 1 ≤ n + 1 by omega)
    grind
  obtain ⟨r, s, π, κ, n1, -, d, HP⟩ := polyAt_g (n + 1) (xF i) 0 _ hl _ _ _ (xV i) 0 1 hT nx nv_zero hN (by constructor <;> grind) (fun j hj => by have := hG j hj; grind) (by omega) (by omega) ho.valid
  refine ⟨r, s, π, n1, ?_, HP⟩
  rw [hC_real, show n + 1 - 1 = n by omega] at d
  have hh := hor_all (tT kind n) (xV i) (n + 1) (by omega)
  rw [show n + 1 - 1 = n by omega] at hh
  simp only [hh] at d
  have hp := polB_all kind i n hk hi hn
  have hg := hG n (by omega)
  have hg0 := (gC_bd hL n (by omega)).1
  generalize gC (fun k => ab (tT kind n k) + 1 / 1000000) 1 (n + 1) n = G at *
  have m1 := Rat.mul_nonneg (show (0 : Rat) ≤ 7 - ((n + 1 : Nat) : Rat) by grind) hg0
  unfold N1 at d
  unfold Lm at hp
  unfold Nr
  constructor <;> grind
/-- The test of a value against its size. -/
theorem fam_test {r v : Nat} {π ρ : Rat} (hr : NV .f32 r π) (hv : NV .f32 v ρ) (hn : Nr π ρ (1 / 200)) :
    ∃ u u2 g, floatToFloatBits .f32 r .f64 = some u ∧ floatToFloatBits .f32 v .f64 = some u2 ∧ (∀ w, Calls Try.prog 12 #[.float .f64 u, .float .f64 u2] w fun e w' => e = .returned (.float .f64 g) ∧ w' = w) ∧
      (∀ s σ, NV .f64 s σ → 0 - 1 / 4 ≤ σ → σ ≤ 20000 → ∃ a m, floatBits .add .f64 4607182418800017408 s = some a ∧ floatBits .mul .f64 4576918229304087675 a = some m ∧ (FloatKind.f64.format.order g m == some .gt) = false) := by
  obtain ⟨u, f1, n1⟩ := wide_exact hr
  obtain ⟨u2, f2, n2⟩ := wide_exact hv
  obtain ⟨g, c, n3, -, -, l3, HG⟩ := gap_m n1 n2 (M := 1) (by constructor <;> grind) ((lm_nr.1 hn).le (by grind))
  have l4 := l3 _ hn
  refine ⟨u, u2, g, f1, f2, HG, fun s σ hs s1 s2 => ?_⟩
  obtain ⟨a, α, g1, m1, e1⟩ := addM nv64_one hs (M := 30000) ⟨by grind, by grind⟩ (by grind) (by grind)
  rw [un64] at e1
  unfold Nr at e1
  obtain ⟨m, μ, g2, m2, e2⟩ := mulM nv_01 m1 (M := 1000) ⟨by grind, by grind⟩ (by grind) (by grind)
  rw [un64] at e2
  unfold Nr at e2
  exact ⟨a, m, g1, g2, gt_no n3 m2 (by grind)⟩
theorem nv64_ten : NV .f64 4621819117588971520 10 := nv64_is (by decide +kernel) (by decide +kernel)
/-- What the law asks of a recurrence. -/
structure RecOk (kind i k a b c a64 x64 p b64 q y64 t c64 z64 v want n64 g1 g2 h1 g3 h2 h3 h4 : Nat) : Prop where
  rule : ruleW kind k = some (a, b, c)
  fa : floatToFloatBits .f32 a .f64 = some a64
  fx : floatToFloatBits .f32 (xF i) .f64 = some x64
  ep : floatBits .mul .f64 a64 x64 = some p
  fb_ : floatToFloatBits .f32 b .f64 = some b64
  eq_ : floatBits .add .f64 p b64 = some q
  fy : floatToFloatBits .f32 (RW kind i k) .f64 = some y64
  et : floatBits .mul .f64 q y64 = some t
  fc : floatToFloatBits .f32 c .f64 = some c64
  fz : floatToFloatBits .f32 (RW kind i (k - 1)) .f64 = some z64
  ev : floatBits .mul .f64 c64 z64 = some v
  ew : floatBits .sub .f64 t v = some want
  fn : floatToFloatBits .f32 (RW kind i (k + 1)) .f64 = some n64
  gap1 : ∀ w, Calls Try.prog 12 #[.float .f64 n64, .float .f64 want] w fun e w' => e = .returned (.float .f64 g1) ∧ w' = w
  gap2 : ∀ w, Calls Try.prog 12 #[.float .f64 want, .float .f64 0] w fun e w' => e = .returned (.float .f64 g2) ∧ w' = w
  eh1 : floatBits .add .f64 4607182418800017408 g2 = some h1
  gap3 : ∀ w, Calls Try.prog 12 #[.float .f64 y64, .float .f64 0] w fun e w' => e = .returned (.float .f64 g3) ∧ w' = w
  eh2 : floatBits .mul .f64 4621819117588971520 g3 = some h2
  eh3 : floatBits .add .f64 h1 h2 = some h3
  eh4 : floatBits .mul .f64 4562254508917369340 h3 = some h4
  test : (FloatKind.f64.format.order g1 h4 == some .gt) = false
theorem rec_ok (kind i k : Nat) (hk : kind ≤ 4) (hi : i < 17) (h1 : 1 ≤ k) (h5 : k ≤ 5) : ∃ a b c a64 x64 p b64 q y64 t c64 z64 v want n64 g1 g2 h1 g3 h2 h3 h4, RecOk kind i k a b c a64 x64 p b64 q y64 t c64 z64 v want n64 g1 g2 h1 g3 h2 h3 h4 := by
  obtain ⟨k, rfl⟩ : ∃ j, k = j + 1 := ⟨k - 1, by omega⟩
  obtain ⟨r, -, -, hv, hrec⟩ := row_facts kind i hk hi
  obtain ⟨v0, l0, -⟩ := hv k (by omega)
  obtain ⟨v1, l1, -⟩ := hv (k + 1) (by omega)
  obtain ⟨v2, l2, -⟩ := hv (k + 2) (by omega)
  have hrk := hrec k (by omega)
  obtain ⟨er, nA, nB, nC⟩ := rul_ok kind (k + 1) hk (by omega)
  obtain ⟨lA, lB, lC⟩ := rul2_ok kind (k + 1) hk (by omega)
  obtain ⟨-, nx, lx⟩ := x_ok i hi
  obtain ⟨a64, fa, na⟩ := wide_exact nA
  obtain ⟨x64, fx, nx6⟩ := wide_exact nx
  obtain ⟨b64, fb', nb⟩ := wide_exact nB
  obtain ⟨y64, fy, ny⟩ := wide_exact v1
  obtain ⟨c64, fc, nc⟩ := wide_exact nC
  obtain ⟨z64, fz, nz⟩ := wide_exact v0
  obtain ⟨n64, fn, nn⟩ := wide_exact v2
  have lp := lA.mul lx
  obtain ⟨p, π, ep, np, rp⟩ := mulM na nx6 (M := 3) ⟨by grind, by grind⟩ (by unfold Lm at lp; grind) (by unfold Lm at lp; grind)
  rw [un64] at rp
  have lpb : Lm (π + rB kind (k + 1)) 7 := by unfold Nr at rp; unfold Lm at *; constructor <;> grind
  obtain ⟨q, κ, eq_, nq, rq⟩ := addM np nb (M := 7) ⟨by grind, by grind⟩ lpb.1 lpb.2
  rw [un64] at rq
  have q1 : Nr κ (rA kind (k + 1) * xV i + rB kind (k + 1)) (1 / 100000000000000) := by unfold Nr at *; constructor <;> grind
  have lq : Lm (rA kind (k + 1) * xV i + rB kind (k + 1)) 6 := (lp.add lB).le (by grind)
  have lqy := ((lq.of q1).mul l1)
  obtain ⟨t, τ, et, nt, rt⟩ := mulM nq ny (M := 700) ⟨by grind, by grind⟩ (by unfold Lm at lqy; grind) (by unfold Lm at lqy; grind)
  rw [un64] at rt
  have t1 : Nr τ ((rA kind (k + 1) * xV i + rB kind (k + 1)) * RV kind i (k + 1)) (1 / 100000000000) := (rt.trans (Nr.mul q1 (Nr.refl _) lq l1)).le (by grind)
  have lcz := lC.mul l0
  obtain ⟨v, ν, ev, nv, rv⟩ := mulM nc nz (M := 700) ⟨by grind, by grind⟩ (by unfold Lm at lcz; grind) (by unfold Lm at lcz; grind)
  rw [un64] at rv
  have lt := lq.mul l1
  have d1 := t1.sub rv
  have ld := (lt.sub lcz).of d1
  obtain ⟨want, ω, ew, nw, rw_⟩ := subM nt nv (M := 1400) ⟨by grind, by grind⟩ (by unfold Lm at ld; grind) (by unfold Lm at ld; grind)
  rw [un64] at rw_
  have w1 := (rw_.trans d1).le (f := 1 / 1000000000) (by grind)
  have lw : Lm ω 1400 := ((lt.sub lcz).of w1).le (by grind)
  have hnear : Nr (RV kind i (k + 2)) ω (1 / 5000) := by unfold Lm at hrk; unfold Nr at *; constructor <;> grind
  obtain ⟨g1, γ1, m1, -, -, u1, HG1⟩ := gap_m nn nw (M := 2000) (by constructor <;> grind) ((l2.sub lw).le (by grind))
  have u1' := u1 _ hnear
  obtain ⟨g2, γ2, m2, b2, -, u2, HG2⟩ := gap_m nw nv64_zero (M := 2000) (by constructor <;> grind) (by unfold Lm at lw ⊢; constructor <;> grind)
  have u2' := u2 1400 (by unfold Lm at lw; unfold Nr; constructor <;> grind)
  obtain ⟨h1', η1, eh1, mh1, rh1⟩ := addM nv64_one m2 (M := 3000) ⟨by grind, by grind⟩ (by grind) (by grind)
  rw [un64] at rh1
  obtain ⟨g3, γ3, m3, b3, -, u3, HG3⟩ := gap_m ny nv64_zero (M := 200) (by constructor <;> grind) (by unfold Lm at l1 ⊢; constructor <;> grind)
  have u3' := u3 100 (by unfold Lm at l1; unfold Nr; constructor <;> grind)
  obtain ⟨h2', η2, eh2, mh2, rh2⟩ := mulM nv64_ten m3 (M := 3000) ⟨by grind, by grind⟩ (by grind) (by grind)
  rw [un64] at rh2
  unfold Nr at rh1 rh2
  obtain ⟨h3', η3, eh3, mh3, rh3⟩ := addM mh1 mh2 (M := 7000) ⟨by grind, by grind⟩ (by grind) (by grind)
  rw [un64] at rh3
  unfold Nr at rh3
  obtain ⟨h4', η4, eh4, mh4, rh4⟩ := mulM nv_001 mh3 (M := 10) ⟨by grind, by grind⟩ (by grind) (by grind)
  rw [un64] at rh4
  unfold Nr at rh4
  exact ⟨_, _, _, a64, x64, p, b64, q, y64, t, c64, z64, v, want, n64, g1, g2, h1', g3, h2', h3', h4', ⟨er, fa, fx, ep, fb', eq_, fy, et, fc, fz, ev, ew, fn, HG1, HG2, eh1, HG3, eh2, eh3, eh4, gt_no m1 mh4 (by grind)⟩⟩
end Go.Proofs.Ytlpibibpckkjhaa
namespace Go.Proofs.Ytlpibibpckkjhaa
open Go.RowKit
/-- The sum of values by their weights. -/
def wS (W : Nat → Rat) (kind i : Nat) : Nat → Rat
  | 0 => 0
  | k + 1 => wS W kind i k + W k * RV kind i k
def SzAt (W : Nat → Rat) (kind i k s z : Nat) : Prop := ∃ σ ζ, NV .f64 s σ ∧ NV .f64 z ζ ∧ Nr σ (wS W kind i k) (((k : Nat) : Rat) * (1 / 1000000)) ∧ 1 - ((k : Nat) : Rat) / 1000 ≤ ζ ∧ ζ ≤ 1 + 2500 * ((k : Nat) : Rat)
theorem szAt_zero {W : Nat → Rat} {kind i : Nat} : SzAt W kind i 0 0 4607182418800017408 := by
  have e0 : ((0 : Nat) : Rat) = 0 := rfl
  refine ⟨0, 1, nv64_zero, nv64_one, ?_, ?_, ?_⟩ <;> rw [e0]
  · rw [wS]; unfold Nr; constructor <;> grind
  · grind
  · grind
theorem wS_bd {W : Nat → Rat} {kind i : Nat} (hk : kind ≤ 4) (hi : i < 17) : ∀ k, k ≤ 6 → (∀ j, j < k → Lm (W j) 2) → Lm (wS W kind i k) (200 * ((k : Nat) : Rat))
  | 0, _, _ => by
    have e0 : ((0 : Nat) : Rat) = 0 := rfl
    rw [wS, e0]; unfold Lm; constructor <;> grind
  | k + 1, h6, h => by
    have ih := wS_bd hk hi k (by omega) (fun j hj => h j (by omega))
    obtain ⟨r, -, -, hv, -⟩ := row_facts kind i hk hi
    have h2 := (h k (by omega)).mul (hv k (by omega)).2.1
    rw [wS, nat_succ_rat k]
    exact (ih.add h2).le (by grind)
theorem szAt_step {W : Nat → Rat} {kind i k s z w : Nat} (hk : kind ≤ 4) (hi : i < 17) (hk5 : k ≤ 5) (hw : NV .f32 w (W k)) (hW : ∀ j, j ≤ k → Lm (W j) 2) (h : SzAt W kind i k s z) :
    ∃ w64 v64 p s' g1 g2 a m m2 z', floatToFloatBits .f32 w .f64 = some w64 ∧ floatToFloatBits .f32 (RW kind i k) .f64 = some v64 ∧ floatBits .mul .f64 w64 v64 = some p ∧ floatBits .add .f64 s p = some s' ∧
      (∀ w, Calls Try.prog 12 #[.float .f64 w64, .float .f64 0] w fun e w' => e = .returned (.float .f64 g1) ∧ w' = w) ∧ (∀ w, Calls Try.prog 12 #[.float .f64 v64, .float .f64 0] w fun e w' => e = .returned (.float .f64 g2) ∧ w' = w) ∧
      floatBits .add .f64 4607182418800017408 g2 = some a ∧ floatBits .mul .f64 g1 a = some m ∧ floatBits .mul .f64 m 4621819117588971520 = some m2 ∧ floatBits .add .f64 z m2 = some z' ∧ SzAt W kind i (k + 1) s' z' := by
  obtain ⟨σ, ζ, hs, hz, he, z1, z2⟩ := h
  obtain ⟨r, -, -, hv, -⟩ := row_facts kind i hk hi
  obtain ⟨vn, vl, -⟩ := hv k (by omega)
  have hWk := hW k (Nat.le_refl _)
  have hb := wS_bd (W := W) hk hi k (by omega) (fun j hj => hW j (by omega))
  have hk5' := nat_le_rat hk5
  have hk0 := nat_le_rat (Nat.zero_le k)
  have e5 : ((5 : Nat) : Rat) = 5 := rfl
  have e0 : ((0 : Nat) : Rat) = 0 := rfl
  rw [e5] at hk5'
  rw [e0] at hk0
  obtain ⟨w64, fw, nw⟩ := wide_exact hw
  obtain ⟨v64, fv, nv⟩ := wide_exact vn
  have hp := hWk.mul vl
  obtain ⟨p, π, ep, np, rp⟩ := mulM nw nv (M := 200) ⟨by grind, by grind⟩ (by unfold Lm at hp; grind) (by unfold Lm at hp; grind)
  rw [un64] at rp
  have hb2 : Lm σ 1001 := (hb.of he).le (by grind)
  have hsp : Lm (σ + π) 1300 := by unfold Nr at rp; unfold Lm at *; constructor <;> grind
  obtain ⟨s', σ', es, ns, rs⟩ := addM hs np (M := 1300) ⟨by grind, by grind⟩ hsp.1 hsp.2
  rw [un64] at rs
  obtain ⟨g1, γ1, m1, b1, -, u1, HG1⟩ := gap_m nw nv64_zero (M := 4) (by constructor <;> grind) (by unfold Lm at hWk ⊢; constructor <;> grind)
  have u1' := u1 2 (by unfold Lm at hWk; unfold Nr; constructor <;> grind)
  obtain ⟨g2, γ2, m2, b2, -, u2, HG2⟩ := gap_m nv nv64_zero (M := 200) (by constructor <;> grind) (by unfold Lm at vl ⊢; constructor <;> grind)
  have u2' := u2 100 (by unfold Lm at vl; unfold Nr; constructor <;> grind)
  obtain ⟨a, α, ea, na, ra⟩ := addM nv64_one m2 (M := 200) ⟨by grind, by grind⟩ (by grind) (by grind)
  rw [un64] at ra
  unfold Nr at ra
  have ha : 99 / 100 ≤ α ∧ α ≤ 102 := by constructor <;> grind
  have hga : -(1 / 100000000) ≤ γ1 * α ∧ γ1 * α ≤ 210 := by
    have k1 := Rat.mul_nonneg (show (0 : Rat) ≤ γ1 + 1 / 100000000000 by grind) (show (0 : Rat) ≤ α by grind)
    have k2 := Rat.mul_nonneg (show (0 : Rat) ≤ 2 + 1 / 1000 - γ1 by grind) (show (0 : Rat) ≤ α by grind)
    constructor <;> grind
  obtain ⟨m, μ, em, nm, rm⟩ := mulM m1 na (M := 210) ⟨by grind, by grind⟩ (by grind) (by grind)
  rw [un64] at rm
  unfold Nr at rm
  obtain ⟨mm, μ2, em2, nm2, rm2⟩ := mulM nm nv64_ten (M := 2200) ⟨by grind, by grind⟩ (by grind) (by grind)
  rw [un64] at rm2
  unfold Nr at rm2
  obtain ⟨z', ζ', ez, nz, rz⟩ := addM hz nm2 (M := 20000) ⟨by grind, by grind⟩ (by grind) (by grind)
  rw [un64] at rz
  unfold Nr at rz
  refine ⟨w64, v64, p, s', g1, g2, a, m, mm, z', fw, fv, ep, es, HG1, HG2, ea, em, em2, ez, σ', ζ', ns, nz, ?_, ?_, ?_⟩
  · rw [wS, nat_succ_rat k]
    unfold Nr at *
    constructor <;> grind
  · rw [nat_succ_rat k]; grind
  · rw [nat_succ_rat k]; grind
theorem wS_sumR {W : Nat → Rat} {kind i : Nat} (hk : kind ≤ 4) (hi : i < 17) : ∀ m, m ≤ 6 → (∀ j, j < m → Lm (W j) 2) → Nr (wS W kind i m) (sumR W kind (xV i) m) (((m : Nat) : Rat) * (1 / 25000))
  | 0, _, _ => by
    have e0 : ((0 : Nat) : Rat) = 0 := rfl
    rw [wS, sumR, e0]; unfold Nr; constructor <;> grind
  | k + 1, h6, h => by
    have ih := wS_sumR hk hi k (by omega) (fun j hj => h j (by omega))
    obtain ⟨r, -, -, hv, -⟩ := row_facts kind i hk hi
    have h3 := (lm_nr.1 (hv k (by omega)).2.2)
    have h4 := (h k (by omega)).mul h3
    rw [wS, sumR, nat_succ_rat k]
    unfold Lm at h4
    unfold Nr at *
    constructor <;> grind
/-- What is told, against the sum. -/
theorem told_test {W : Nat → Rat} {kind i m t s z : Nat} {U : Rat} (hk : kind ≤ 4) (hi : i < 17) (hm : m ≤ 6) (hW : ∀ j, j < m → Lm (W j) 2) (hu : NV .f32 t U) (hU : Nr U (sumR W kind (xV i) m) (610 * (2 / 2400000))) (h : SzAt W kind i m s z) :
    ∃ t64 g b, floatToFloatBits .f32 t .f64 = some t64 ∧ (∀ w, Calls Try.prog 12 #[.float .f64 t64, .float .f64 s] w fun e w' => e = .returned (.float .f64 g) ∧ w' = w) ∧ floatBits .mul .f64 4562254508917369340 z = some b ∧ (FloatKind.f64.format.order g b == some .gt) = false := by
  obtain ⟨σ, ζ, hs, hz, he, z1, z2⟩ := h
  have h1 := wS_sumR (W := W) hk hi m hm hW
  have hm6 := nat_le_rat hm
  have e6 : ((6 : Nat) : Rat) = 6 := rfl
  rw [e6] at hm6
  have hm0 := nat_le_rat (Nat.zero_le m)
  have e0 : ((0 : Nat) : Rat) = 0 := rfl
  rw [e0] at hm0
  have hn : Nr U σ (77 / 100000) := by unfold Nr at *; constructor <;> grind
  obtain ⟨t64, ft, nt⟩ := wide_exact hu
  obtain ⟨g, γ, m1, -, -, u1, HG⟩ := gap_m nt hs (M := 1) (by constructor <;> grind) ((lm_nr.1 hn).le (by grind))
  have u2 := u1 _ hn
  obtain ⟨b, β, eb, nb, rb⟩ := mulM nv_001 hz (M := 100) ⟨by grind, by grind⟩ (by grind) (by grind)
  rw [un64] at rb
  unfold Nr at rb
  exact ⟨t64, g, b, ft, HG, eb, gt_no m1 nb (by grind)⟩
/-- What is found again, against what was put in. -/
theorem back_test {W : Nat → Rat} {kind i m k s z w : Nat} {o : Nat × Nat} (hk : kind ≤ 4) (hm : m ≤ 6) (hkm : k < m) (hw : NV .f32 w (W k)) (ho : OAt W kind 2 k o) (h : SzAt W kind i m s z) :
    ∃ f b, (∀ w', Calls Try.prog 18 #[.complex .f32 o.1 o.2, .complex .f32 w 0] w' fun e w'' => e = .returned (.float .f64 f) ∧ w'' = w') ∧ floatBits .mul .f64 4587366580439587226 z = some b ∧ (FloatKind.f64.format.order f b == some .gt) = false := by
  obtain ⟨σ, ζ, hs, hz, he, z1, z2⟩ := h
  obtain ⟨a, b, h1, h2, h3⟩ := ho
  have hd := (el_ok kind hk).2 k (by omega)
  have hm6 := nat_le_rat hm
  have e6 : ((6 : Nat) : Rat) = 6 := rfl
  rw [e6] at hm6
  have h4 : N1 (a - W k) b (1 / 100) := h3.le (by grind)
  obtain ⟨f, φ, m1, -, u1, HF⟩ := far_m h1 h2 hw nv_zero (M := 1) (by constructor <;> grind) (h4.fst.le (by grind)) (by rw [show b - 0 = b by grind]; exact h4.snd.le (by grind))
  have u2 := u1 (1 / 100) (1 / 100) (lm_nr.2 h4.fst) (by have := h4.snd; unfold Lm at this; unfold Nr; constructor <;> grind)
  obtain ⟨p, β, eb, nb, rb⟩ := mulM nv_05 hz (M := 2000) ⟨by grind, by grind⟩ (by grind) (by grind)
  rw [un64] at rb
  unfold Nr at rb
  exact ⟨f, p, HF, eb, gt_no m1 nb (by grind)⟩
/-- The value of the fit at a point, against the weight there. -/
theorem point_test {n k u w : Nat} {V F : Nat → Rat} {U : Rat} (h1 : 1 ≤ n) (h6 : n ≤ 6) (hk : k < n) (hV : ∀ l, l < n → Lm (V l) 2) (hF : ∀ j, j < n → Nr (F j) (fX n V j) (1 / 50000)) (hw : NV .f32 w (V k)) (hu : NV .f32 u U) (hU : Nr U (sumR F 0 (PV n k) n) (610 * (13 / 2400000))) :
    ∃ u64 w64 g, floatToFloatBits .f32 u .f64 = some u64 ∧ floatToFloatBits .f32 w .f64 = some w64 ∧ (∀ w, Calls Try.prog 12 #[.float .f64 u64, .float .f64 w64] w fun e w' => e = .returned (.float .f64 g) ∧ w' = w) ∧ (FloatKind.f64.format.order g 4576918229304087675 == some .gt) = false := by
  have hp := fit_pass h1 h6 hk hV hF
  have hn : Nr U (V k) (6 / 1000) := by unfold Nr at *; constructor <;> grind
  obtain ⟨u64, fu, nu⟩ := wide_exact hu
  obtain ⟨w64, fw, nw⟩ := wide_exact hw
  obtain ⟨g, γ, m1, -, -, u1, HG⟩ := gap_m nu nw (M := 1) (by constructor <;> grind) ((lm_nr.1 hn).le (by grind))
  have u2 := u1 _ hn
  exact ⟨u64, w64, g, fu, fw, HG, gt_no m1 nv_01 (by grind)⟩
theorem points_order (n k : Nat) (h1 : 1 ≤ n) (h6 : n ≤ 6) (hk : k < n) : (FloatKind.f32.format.order (ptN n k) 1065353216 == some .gt) = false ∧ (FloatKind.f32.format.order (ptN n k) 3212836864 == some .lt) = false ∧ (1 ≤ k → (FloatKind.f32.format.order (ptN n k) (ptN n (k - 1)) == some .gt || FloatKind.f32.format.order (ptN n k) (ptN n (k - 1)) == some .eq) = false) := by
  obtain ⟨-, np, lp, -, -, -, hlt⟩ := rn_ok n k h1 h6 hk
  refine ⟨gt_no np nv_one (by unfold Lm at lp; grind), lt_no np nv_mone (by unfold Lm at lp; grind), fun h => ?_⟩
  obtain ⟨-, np2, -⟩ := rn_ok n (k - 1) h1 h6 (by omega)
  exact ge_no np np2 (hlt h)
set_option maxRecDepth 100000 in
set_option maxHeartbeats 1600000 in
theorem valuesShared_w (kind n x y v : Nat) (A : Option Addr) (c : Nat) (hk : kind ≤ 4) (hn : n ≤ 16) (hv : 1 ≤ v ∧ v ≤ 8)
    (HA : ∀ w, Calls Try.prog 9 #[.int .i64 (kind : Int), .int .i64 (n : Int), .float .f32 x] w fun e w' => e = .returned (.tuple #[.float .f32 y, .bool true]) ∧ Below w.heap.size w w') (w : World) (hr : Reads w w.heap.size 1 A 2 (flts [x, x])) :
    Calls Try.prog 21 #[.int .i64 (kind : Int), .int .i64 (n : Int), .slice A 2 c, .int .i64 (v : Int)] w fun e w' => ∃ g c', e = .returned (.tuple #[.slice (some ⟨g, 0, none⟩) 2 c', .bool true]) ∧ Own w' g (g + 1) 25 (some ⟨g, 0, none⟩) (flts [y, y]) ∧ g < w'.heap.size ∧ Below w.heap.size w w' := by
  obtain ⟨i0, hi, hz0, hz1, hz2⟩ := info_parts infoF
  have HK := isKind_yes kind n hk hn
  have HW : ∀ w, Calls Try.prog 65 #[.int .i64 (v : Int)] w fun e w' => e = .returned (.bool true) ∧ w' = w := fun w => by
    have H := within_all (v : Int) 1 8
    rw [show (decide ((1 : Int) ≤ (v : Int)) && decide ((v : Int) ≤ 8)) = true by simp; omega] at H
    go_enter Try.func65, Try.ntmps65
    go_wp2_with fail
    refine (H _).mono ?_
    rintro e w1 ⟨rfl, rfl⟩
    go_wp2
    go_ret
    exact ⟨rfl, rfl⟩
  go_enter Try.func21, Try.ntmps21
  go_wp2_with fail
  refine (HK _).mono ?_
  rintro e w1 ⟨rfl, rfl⟩
  go_wp2_with fail
  refine (HW _).mono ?_
  rintro e w1 ⟨rfl, rfl⟩
  clear HK HW
  go_wp2
  have hown0 : (w1.alloc (.cells #[] 25)).ownsRow w1.heap.size 25 1 (.slice (some ⟨w1.heap.size, 0, none⟩) 0 0) 0 (flts (List.replicate 0 y)) := by
    have h := World.ownsRow_made (base := w1.heap.size) (e := 25) (size := 1) w1 #[] 0 (by simp) (by simp [maxLen]) rfl
    simpa [flts] using h
  have hb0 : Below w1.heap.size w1 (w1.alloc (.cells #[] 25)) := (Below.refl _ _).alloc (Nat.le_refl _) _
  go_loopw [10, 12, 13, 14, 37] (fun v _ _ _ q wr => ∃ k : Nat, k ≤ 2 ∧ q = .int .i64 (k : Int) ∧ wr.ownsRow w1.heap.size 25 1 v k (flts (List.replicate k y)) ∧ Below w1.heap.size w1 wr) (fun _ _ _ _ q _ => 2 - (intOf q).toNat)
  case atStart => exact ⟨0, Nat.zero_le _, rfl, hown0, hb0⟩
  case round =>
    obtain ⟨k, hk2, rfl, hown, hbr⟩ := hrel
    clear hown0 hb0
    have hsz := hbr.size
    obtain ⟨wo, rfl⟩ : ∃ wo : World, wo = wr := ⟨_, rfl⟩
    obtain ⟨A1, c1, rfl, -, -, -⟩ := Own.of_row hown (Nat.le_refl _)
    by_cases hlt : k < 2
    · obtain ⟨ad, rfl, -, hc1⟩ := flt_atN (l := [x, x]) (n := 2) (hr.below hbr) rfl hlt
      have hx : ([x, x] : List Nat).getD k 0 = x := by
        obtain rfl | rfl : k = 0 ∨ k = 1 := by omega
        · rfl
        · rfl
      rw [hx] at hc1
      have hsn : List.replicate k y ++ [y] = List.replicate (k + 1) y := by rw [List.replicate_succ']
      replace hsn := Lib.hid hsn
      have HA1 := HA wo
      have hk0 : (0 : Int) ≤ (k : Int) := by omega
      have hk2' : (k : Int) < 2 := by omega
      clear HA hr
      go_wp2_with fail
      (with_reducible refine HA1.mono ?_)
      rintro e w2 ⟨rfl, hb2⟩
      have hown2 := ownsRow_kp hown (Kp.of_below (lo := 0) (hi := 0) hb2) (Nat.zero_le _)
      have hsz2 := hb2.size
      go_wp2_with (at_builtin; refine wpList_append_any _ rfl (.tmp 50) (.tmp 52) _ rfl w1.heap.size 25 i0 _ 1 4 Try.underlying26 hi hz0 hz1 hz2 rfl (by omega) (.slice A1 k c1) k (flts (List.replicate k y)) rfl (hown2.alloc _) (w2.heap.size + 1) (some ⟨w2.heap.size, 0, none⟩) 1 1 [.float .f32 y] rfl (reads_new w2 [_] _) (one_flt y) (by simp only [maxLen]; omega) (by omega) (by simp; omega) ?_; intro v1 w3 hown3 hg3 hat3)
      have hb3 : Below w1.heap.size w2 w3 := ((Below.refl _ _).alloc (by omega) _).grown hg3 (by simp; omega) (fun j hj => (hown2.lt j hj).1)
      rw [flts_snoc, hsn.out] at hown3
      go_wp2
      go_roundw
      case rel => exact ⟨k + 1, by omega, by go_num, hown3, (hbr.trans (hb2.mono hsz)).trans hb3⟩
      case measure => (simp [intOf]; all_goals omega)
    · obtain rfl : k = 2 := by omega
      obtain ⟨g, cg, e2, hlg⟩ := World.ownsRow.form hown (by omega)
      cases e2
      have hOw := own_row hown
      go_wp2
      go_ret2
      exact ⟨g, c1, rfl, hOw, by omega, hbr⟩
end Go.Proofs.Ytlpibibpckkjhaa
