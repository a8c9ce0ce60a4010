/-
  The mass by nodes and weights (impl.MassOf), by values.
  The mass by nodes and weights (impl.MassOf): the walk.
  A family's polynomial at a number (impl.isKind, impl.FamilyAt): kind 2 at the nodes.
-/
import Derived.Test.YtlpibibpckkjhaaExMs
import Derived.Test.YtlpibibpckkjhaaMomt
namespace Go.Proofs.Ytlpibibpckkjhaa
open Go.RowKit

theorem trms_more {l : List (Nat × Nat)} {re im : Nat → Rat} {C D : Rat} (h : Trms l re im C) (hC : C ≤ D) : Trms l re im D := fun k hk => by
  obtain ⟨a, b, c, d⟩ := h k hk
  exact ⟨a, b, by grind, by grind⟩
theorem pol_bd {f : Nat → Rat} {C x : Rat} {N : Nat} (hf : ∀ k, k < N → -C ≤ f k ∧ f k ≤ C) (hC : 0 ≤ C) (h3 : -1 ≤ x) (h4 : x ≤ 1) (hN1 : 1 ≤ N) (hN : N ≤ 8) : -(C * 8) ≤ polS f x N ∧ polS f x N ≤ C * 8 := by
  have h := hor_bd hf h3 h4 (N - 1) (by omega)
  rw [hor_all f x N hN1, show N - 1 + 1 = N by omega] at h
  have h8 := nat_le_rat hN
  have e8 : ((8 : Nat) : Rat) = 8 := rfl
  rw [e8] at h8
  have := Rat.mul_nonneg hC (show (0 : Rat) ≤ 8 - ((N : Nat) : Rat) by grind)
  grind
theorem mS_bd {f : Nat → Rat} {n N : Nat} (hf : ∀ k, k < N → -4 ≤ f k ∧ f k ≤ 4) (hN1 : 1 ≤ N) (hN : N ≤ 8) (h1 : 1 ≤ n) (h8 : n ≤ 8) : ∀ j, j ≤ n → -(32 * wSum n j) ≤ mS f n N j ∧ mS f n N j ≤ 32 * wSum n j
  | 0, _ => by
    have e1 : mS f n N 0 = 0 := rfl
    have e2 : wSum n 0 = 0 := rfl
    rw [e1, e2]; grind
  | j + 1, hj => by
    have ih := mS_bd (f := f) hf hN1 hN h1 h8 j (by omega)
    obtain ⟨⟨x1, x2⟩, ⟨w1, w2⟩, -, -⟩ := node_bd n j h1 h8 (by omega)
    have hp := pol_bd (x := nX n j) hf (by grind) (by grind) (by grind) hN1 hN
    have e1 : mS f n N (j + 1) = mS f n N j + nW n j * polS f (nX n j) N := rfl
    have e2 : wSum n (j + 1) = wSum n j + nW n j := rfl
    rw [e1, e2]
    generalize polS f (nX n j) N = v at *
    generalize nW n j = u at *
    have m1 := Rat.mul_nonneg (show (0 : Rat) ≤ u by grind) (show (0 : Rat) ≤ 32 - v by grind)
    have m2 := Rat.mul_nonneg (show (0 : Rat) ≤ u by grind) (show (0 : Rat) ≤ 32 + v by grind)
    constructor <;> grind
/-- The sum as it stands when k nodes are done. -/
def MassAt (p q : Nat) (re im : Nat → Rat) (n N k : Nat) : Prop := ∃ a b, NV .f32 p a ∧ NV .f32 q b ∧ Nr a (mS re n N k) (((k : Nat) : Rat) * (1 / 4000)) ∧ Nr b (mS im n N k) (((k : Nat) : Rat) * (1 / 4000))
theorem scaled {π v u e : Rat} (h : Nr π v e) (hu : 0 < u) (hu2 : u ≤ 2001 / 1000) (he : 0 ≤ e) : Nr (π * u) (u * v) (e * (2001 / 1000)) := by
  unfold Nr at *
  have m1 := Rat.mul_nonneg (show (0 : Rat) ≤ u by grind) (show (0 : Rat) ≤ v + e - π by grind)
  have m2 := Rat.mul_nonneg (show (0 : Rat) ≤ u by grind) (show (0 : Rat) ≤ π + e - v by grind)
  have m3 := Rat.mul_nonneg (show (0 : Rat) ≤ 2001 / 1000 - u by grind) he
  constructor <;> grind
theorem mass_step {l : List (Nat × Nat)} {re im : Nat → Rat} {n N k p q : Nat} (hl : l.length = N) (hT : Trms l re im 4) (hv : polyB l = true) (hN1 : 1 ≤ N) (hN : N ≤ 8) (h1 : 1 ≤ n) (h8 : n ≤ 8) (hk : k < n) (h : MassAt p q re im n N k) :
    ∃ r s p1 q1 p2 q2, (∀ (A : Option Addr) (c : Nat) w, Reads w w.heap.size 1 A N (cplx l) → Calls Try.prog 11 #[.agg #[.slice A N c], .complex .f32 (nodeN n k) 0] w fun e w' => e = .returned (.tuple #[.complex .f32 r s, .bool true]) ∧ Below w.heap.size w w') ∧
      (∀ w, Calls Try.prog 69 #[.complex .f32 r s, .float .f32 (nodeW n k)] w fun e w' => e = .returned (.complex .f32 p1 q1) ∧ w' = w) ∧
      (∀ w, Calls Try.prog 57 #[.complex .f32 p q, .complex .f32 p1 q1] w fun e w' => e = .returned (.complex .f32 p2 q2) ∧ w' = w) ∧ MassAt p2 q2 re im n N (k + 1) := by
  obtain ⟨nx, nw⟩ := node_nv n k h1 h8 hk
  obtain ⟨⟨x1, x2⟩, ⟨w1, w2⟩, -, -⟩ := node_bd n k h1 h8 hk
  obtain ⟨a, b, va, vb, ra, rb⟩ := h
  have f1 : ∀ i, i < N → -4 ≤ re i ∧ re i ≤ 4 := fun i hi => (hT i (by omega)).2.2.1
  have f2 : ∀ i, i < N → -4 ≤ im i ∧ im i ≤ 4 := fun i hi => (hT i (by omega)).2.2.2
  obtain ⟨r, s, π, κ, v1, v2, v3, v4, HP⟩ := polyAt_v N _ l hl re im (nX n k) (trms_more hT (by grind)) nx (by grind) (by grind) hN1 (by omega) hv
  rw [hor_all _ _ _ hN1] at v3 v4
  have p1 := pol_bd (x := nX n k) f1 (by grind) (by grind) (by grind) hN1 hN
  have p2 := pol_bd (x := nX n k) f2 (by grind) (by grind) (by grind) hN1 hN
  have s1 := scaled v3 w1 w2 (by grind)
  have s2 := scaled v4 w1 w2 (by grind)
  have b1 := mS_bd f1 hN1 hN h1 h8 k (by omega)
  have b2 := mS_bd f2 hN1 hN h1 h8 k (by omega)
  have b3 := mS_bd f1 hN1 hN h1 h8 (k + 1) (by omega)
  have b4 := mS_bd f2 hN1 hN h1 h8 (k + 1) (by omega)
  have ws1 := wsum_bd n k h1 h8 (by omega)
  have ws2 := wsum_bd n (k + 1) h1 h8 (by omega)
  have e1 : mS re n N (k + 1) = mS re n N k + nW n k * polS re (nX n k) N := rfl
  have e2 : mS im n N (k + 1) = mS im n N k + nW n k * polS im (nX n k) N := rfl
  rw [e1] at b3
  rw [e2] at b4
  have g1 := Rat.mul_nonneg (show (0 : Rat) ≤ nW n k by grind) (show (0 : Rat) ≤ 32 - polS re (nX n k) N by grind)
  have g2 := Rat.mul_nonneg (show (0 : Rat) ≤ nW n k by grind) (show (0 : Rat) ≤ 32 + polS re (nX n k) N by grind)
  have g3 := Rat.mul_nonneg (show (0 : Rat) ≤ nW n k by grind) (show (0 : Rat) ≤ 32 - polS im (nX n k) N by grind)
  have g4 := Rat.mul_nonneg (show (0 : Rat) ≤ nW n k by grind) (show (0 : Rat) ≤ 32 + polS im (nX n k) N by grind)
  have q1 : -65 ≤ nW n k * polS re (nX n k) N ∧ nW n k * polS re (nX n k) N ≤ 65 := by constructor <;> grind
  have q2 : -65 ≤ nW n k * polS im (nX n k) N ∧ nW n k * polS im (nX n k) N ≤ 65 := by constructor <;> grind
  clear g1 g2 g3 g4 p1 p2 v3 v4 f1 f2
  have hk8 := nat_le_rat (show k ≤ 8 by omega)
  have e8 : ((8 : Nat) : Rat) = 8 := rfl
  rw [e8] at hk8
  have E : ((k + 1 : Nat) : Rat) * (1 / 4000) = ((k : Nat) : Rat) * (1 / 4000) + 1 / 4000 := by rw [nat_succ_rat k]; grind
  have hk0 := nat_le_rat (Nat.zero_le k)
  have e0 : ((0 : Nat) : Rat) = 0 := rfl
  rw [e0] at hk0
  unfold MassAt
  rw [E, e1, e2]
  generalize ((k : Nat) : Rat) = K at *
  unfold Nr at s1 s2 ra rb
  generalize nW n k * polS re (nX n k) N = t1 at *
  generalize nW n k * polS im (nX n k) N = t2 at *
  generalize mS re n N k = m1 at *
  generalize mS im n N k = m2 at *
  obtain ⟨p1', q1', π', κ', n1, n2, n3, n4, HS⟩ := scale_v v1 v2 nw (by unfold Bd; grind) (by unfold Bd; grind)
  unfold Nr at n3 n4
  generalize π * nW n k = z1 at *
  generalize κ * nW n k = z2 at *
  obtain ⟨p2', q2', π2, κ2, y1, y2, y3, y4, HA⟩ := plus_v va vb n1 n2 (by unfold Bd; grind) (by unfold Bd; grind)
  unfold Nr at y3 y4
  exact ⟨r, s, p1', q1', p2', q2', HP, HS, HA, π2, κ2, y1, y2, by unfold Nr; grind, by unfold Nr; grind⟩
end Go.Proofs.Ytlpibibpckkjhaa
namespace Go.Proofs.Ytlpibibpckkjhaa
open Go.RowKit

theorem add0 (g k : Nat) : (⟨g, 0, none⟩ : Addr).add k = ⟨g, k, none⟩ := by unfold Addr.add; split <;> simp_all
theorem nodesL_at (n k m : Nat) (h : k < m) : (nodesL n m).getD k 0 = nodeN n k := by simp [nodesL, List.getD, h]
theorem weightsL_at (n k m : Nat) (h : k < m) : (weightsL n m).getD k 0 = nodeW n k := by simp [weightsL, List.getD, h]
set_option maxRecDepth 100000 in
set_option maxHeartbeats 1600000 in
theorem massOf_v (A : Option Addr) (c N n : Nat) (l : List (Nat × Nat)) (hl : l.length = N) (re im : Nat → Rat) (hT : Trms l re im 4) (hv : polyB l = true) (hN1 : 1 ≤ N) (hN : N ≤ 8) (h1 : 1 ≤ n) (h8 : n ≤ 8) (h2n : N ≤ 2 * n) (w : World) (hr : Reads w w.heap.size 1 A N (cplx l)) :
    Calls Try.prog 24 #[.agg #[.slice A N c], .int .i64 (n : Int)] w fun e w' => ∃ r s π κ, e = .returned (.tuple #[.complex .f32 r s, .bool true]) ∧ NV .f32 r π ∧ NV .f32 s κ ∧ Nr π (exM re N) (1 / 400) ∧ Nr κ (exM im N) (1 / 400) ∧ Below w.heap.size w w' := by
  have step := fun k p q => mass_step (k := k) (p := p) (q := q) hl hT hv hN1 hN h1 h8
  have last : ∀ p q, MassAt p q re im n N n → ∃ π κ, NV .f32 p π ∧ NV .f32 q κ ∧ Nr π (exM re N) (1 / 400) ∧ Nr κ (exM im N) (1 / 400) := by
    rintro p q ⟨a, b, va, vb, ra, rb⟩
    have f1 := mass_mom h1 h8 N h2n hN (fun i hi => (hT i (by omega)).2.2.1)
    have f2 := mass_mom h1 h8 N h2n hN (fun i hi => (hT i (by omega)).2.2.2)
    have e8 : ((8 : Nat) : Rat) = 8 := rfl
    have a1 := nat_le_rat hN
    have a2 := nat_le_rat h8
    rw [e8] at a1 a2
    refine ⟨a, b, va, vb, ?_, ?_⟩ <;> (unfold Nr at *; grind)
  have hstep := Lib.hid step
  have hlast := Lib.hid last
  have hM0 : Hid (MassAt 0 0 re im n N 0) := by
    have e0 : ((0 : Nat) : Rat) = 0 := rfl
    have e1 : mS re n N 0 = 0 := rfl
    have e2 : mS im n N 0 = 0 := rfl
    refine ⟨0, 0, nv_zero, nv_zero, ?_, ?_⟩ <;> (unfold Nr; rw [e0]; first | rw [e1] | rw [e2]) <;> grind
  clear step last hT
  subst hl
  have hb0 : Below w.heap.size w (w.alloc (.cells #[.slice A l.length c] 33)) := (Below.refl _ _).alloc (Nat.le_refl _) _
  have hP0 := Blk.new w 33 #[.slice A l.length c]
  have HE := evenI_any n h1 h8
  have HV := fun W hrW hBW => validPoly_b A c w.heap.size l W hrW hBW (by omega)
  rw [hv] at HV
  clear hv
  go_enter Try.func24, Try.ntmps24
  go_wp2_with fail
  refine (HE _).mono ?_
  rintro e w1 ⟨g, c1, g', c2, rfl, hgg, hO1, hO2, hg1, hg2, hg3, hg4, hb1⟩
  clear HE
  simp only [World.size_alloc] at hg1 hg2
  have z1 := hb1.size
  simp only [World.size_alloc] at z1
  have hP1 := hP0.below hb1 (by simp)
  have hb2 := hb0.trans (hb1.mono (by simp))
  have cP1 : w1.cell? ⟨w.heap.size, 0, none⟩ = some (.slice A l.length c) := hP1.cell 0
  have HV1 := HV w1 (hr.below hb2) (by omega)
  clear HV hP0 hb0 hb1
  go_wp2_with fail
  (with_reducible refine HV1.mono ?_)
  rintro e w2 ⟨rfl, hb3⟩
  clear HV1
  have z3 := hb3.size
  have hP2 := hP1.below hb3 (by omega)
  have hR1 : Reads w2 w2.heap.size 1 (some ⟨g, 0, none⟩) (nodesL n n).length (flts (nodesL n n)) := ((hO1.below hb3 (by omega)).reads' (B := w1.heap.size) (by omega) (by simp)).more (by omega)
  have hR2 : Reads w2 w2.heap.size 1 (some ⟨g', 0, none⟩) (weightsL n n).length (flts (weightsL n n)) := ((hO2.below hb3 (by omega)).reads' (B := w1.heap.size) (by omega) (by simp)).more (by omega)
  have hb4 := hb2.trans (hb3.mono (by omega))
  have hrl := hr.below hb4
  clear hP1 hb2 hb3 hO1 hO2 cP1 hr
  have zz : w.heap.size + 1 ≤ w2.heap.size := by omega
  clear z1 z3 hg1 hg2 hg3 hg4
  go_wp2
  go_loopw [9, 10, 11, 12, 13, 29] (fun v _ _ _ _ q wr => ∃ k x y : Nat, k ≤ n ∧ q = .int .i64 (k : Int) ∧ v = .complex .f32 x y ∧ Hid (MassAt x y re im n l.length k) ∧ Below w2.heap.size w2 wr) (fun _ _ _ _ _ q _ => n - (intOf q).toNat)
  case atStart => exact ⟨0, 0, 0, Nat.zero_le _, rfl, rfl, hM0, Below.refl _ _⟩
  case round =>
    obtain ⟨k, x, y, hk, rfl, rfl, hM, hbr⟩ := hrel
    obtain ⟨wo, rfl⟩ : ∃ wo : World, wo = wr := ⟨_, rfl⟩
    have zr := hbr.size
    by_cases hlt : k < n
    · obtain ⟨r, s, p1, q1, p2, q2, HP, HS, HA, hM2⟩ := hstep.out k x y hlt hM.out
      replace hM2 := Lib.hid hM2
      obtain ⟨ad1, e1, -, hc1⟩ := flt_at (k := k) (hR1.below hbr) (by simpa using hlt)
      obtain ⟨ad2, e2, hg2, hc2⟩ := flt_at (k := k) (hR2.below hbr) (by simpa using hlt)
      cases e1
      cases e2
      replace hg2 : g' < w2.heap.size := hg2
      replace hc1 : wo.cell? ⟨g, k, none⟩ = some (.float .f32 (nodeN n k)) := by rw [nodesL_at n k n hlt, add0] at hc1; exact hc1
      replace hc2 : wo.cell? ⟨g', k, none⟩ = some (.float .f32 (nodeW n k)) := by rw [weightsL_at n k n hlt, add0] at hc2; exact hc2
      have hP3 := hP2.below hbr (by omega)
      have cP : wo.cell? ⟨w.heap.size, 0, none⟩ = some (.slice A l.length c) := hP3.cell 0
      have HP1 := HP A c wo ((hrl.below (hbr.mono (by omega))).more (by omega))
      clear HP hM hstep hlast hP3
      generalize nodeN n k = nx at *
      generalize nodeW n k = nw at *
      go_wp2_with fail
      (with_reducible refine HP1.mono ?_)
      rintro e w3 ⟨rfl, hb5⟩
      clear HP1 cP hc1
      replace hc2 : w3.cell? ⟨g', k, none⟩ = some (.float .f32 nw) := (hb5.cell (show g' < wo.heap.size by omega)).trans hc2
      have hb6 := hbr.trans (hb5.mono zr)
      clear hR1 hR2 hrl
      go_wp2_with fail
      refine (HS _).mono ?_
      rintro e w4 ⟨rfl, rfl⟩
      go_wp2_with fail
      refine (HA _).mono ?_
      rintro e w5 ⟨rfl, rfl⟩
      go_wp2
      go_roundw
      case rel => exact ⟨k + 1, p2, q2, by omega, by go_num, rfl, hM2, hb6⟩
      case measure => (simp [intOf]; all_goals omega)
    · obtain rfl : k = n := by omega
      obtain ⟨π, κ, v1, v2, v3, v4⟩ := hlast.out x y hM.out
      have HF := finite_v (nv_fin v1) (nv_fin v2)
      have hfin := Lib.hid (show NV .f32 x π ∧ NV .f32 y κ ∧ Nr π (exM re l.length) (1 / 400) ∧ Nr κ (exM im l.length) (1 / 400) from ⟨v1, v2, v3, v4⟩)
      clear v1 v2 v3 v4 hstep hlast hM
      go_wp2_with fail
      refine (HF _).mono ?_
      rintro e w3 ⟨rfl, hb5⟩
      go_wp2
      go_ret2
      obtain ⟨f1, f2, f3, f4⟩ := hfin.out
      exact ⟨x, y, π, κ, rfl, f1, f2, f3, f4, hb4.trans ((hbr.trans (hb5.mono zr)).mono (by omega))⟩
end Go.Proofs.Ytlpibibpckkjhaa
namespace Go.Proofs.Ytlpibibpckkjhaa
open Go.RowKit

theorem within_all (n a b : Int) (w : World) :
    Calls Try.prog 56 #[.int .i64 n, .int .i64 a, .int .i64 b] w fun e w' => e = .returned (.bool (decide (a ≤ n) && decide (n ≤ b))) ∧ w' = w := by
  by_cases h1 : a ≤ n <;> by_cases h2 : n ≤ b
  all_goals
    go_enter Try.func56, Try.ntmps56
    go_wp2
    go_ret
    refine ⟨?_, rfl⟩
    simp [h1, h2]
    try omega
theorem isKind_yes (k n : Nat) (hk : k ≤ 4) (hn : n ≤ 16) (w : World) :
    Calls Try.prog 42 #[.int .i64 (k : Int), .int .i64 (n : Int)] w fun e w' => e = .returned (.bool true) ∧ w' = w := by
  have H1 := within_all (k : Int) 0 4
  have H2 := within_all (n : Int) 0 16
  have e1 : (decide ((0 : Int) ≤ (k : Int)) && decide ((k : Int) ≤ 4)) = true := by simp; omega
  have e2 : (decide ((0 : Int) ≤ (n : Int)) && decide ((n : Int) ≤ 16)) = true := by simp; omega
  rw [e1] at H1
  rw [e2] at H2
  clear e1 e2
  go_enter Try.func42, Try.ntmps42
  go_wp2_with fail
  refine (H1 _).mono ?_
  rintro e w1 ⟨rfl, rfl⟩
  go_wp2_with fail
  refine (H2 _).mono ?_
  rintro e w1 ⟨rfl, rfl⟩
  go_wp2
  go_ret
  exact ⟨rfl, rfl⟩
/-- The family's value at a node. -/
def atN (n k : Nat) : Option Nat := (rowO ((nodeT n).getD k (0, 0)).1 n).map fun r => r.1.getD n 0
def atFacts (n k : Nat) : Bool := match atN n k with
  | some y => fin32B y && decide (V32 y ≤ 1 / 2000) && decide (-(1 / 2000) ≤ V32 y)
  | none => false
theorem af1 : (List.range 1).all (atFacts 1) = true := by decide +kernel
theorem af2 : (List.range 2).all (atFacts 2) = true := by decide +kernel
theorem af3 : (List.range 3).all (atFacts 3) = true := by decide +kernel
theorem af4 : (List.range 4).all (atFacts 4) = true := by decide +kernel
theorem af5 : (List.range 5).all (atFacts 5) = true := by decide +kernel
theorem af6 : (List.range 6).all (atFacts 6) = true := by decide +kernel
theorem af7 : (List.range 7).all (atFacts 7) = true := by decide +kernel
theorem af8 : (List.range 8).all (atFacts 8) = true := by decide +kernel
theorem at_facts (n k : Nat) (h1 : 1 ≤ n) (h8 : n ≤ 8) (hk : k < n) : atFacts n k = true := by
  obtain rfl | rfl | rfl | rfl | rfl | rfl | rfl | rfl : n = 1 ∨ n = 2 ∨ n = 3 ∨ n = 4 ∨ n = 5 ∨ n = 6 ∨ n = 7 ∨ n = 8 := by omega
  · exact List.all_eq_true.1 af1 k (List.mem_range.2 (by omega))
  · exact List.all_eq_true.1 af2 k (List.mem_range.2 (by omega))
  · exact List.all_eq_true.1 af3 k (List.mem_range.2 (by omega))
  · exact List.all_eq_true.1 af4 k (List.mem_range.2 (by omega))
  · exact List.all_eq_true.1 af5 k (List.mem_range.2 (by omega))
  · exact List.all_eq_true.1 af6 k (List.mem_range.2 (by omega))
  · exact List.all_eq_true.1 af7 k (List.mem_range.2 (by omega))
  · exact List.all_eq_true.1 af8 k (List.mem_range.2 (by omega))
set_option maxRecDepth 100000 in
set_option maxHeartbeats 1600000 in
theorem familyAt_v (n k : Nat) (h1 : 1 ≤ n) (h8 : n ≤ 8) (hk : k < n) :
    ∃ y π, NV .f32 y π ∧ (-(1 / 2000) ≤ π ∧ π ≤ 1 / 2000) ∧ ∀ w, Calls Try.prog 9 #[.int .i64 2, .int .i64 (n : Int), .float .f32 (nodeN n k)] w fun e w' => e = .returned (.tuple #[.float .f32 y, .bool true]) ∧ Below w.heap.size w w' := by
  have ht := node_tab n k h1 h8 hk
  obtain ⟨-, hfx, -⟩ := node_some n k h1 h8 hk
  have hf := at_facts n k h1 h8 hk
  unfold atFacts at hf
  rcases hA : atN n k with _ | y
  · rw [hA] at hf; cases hf
  · rw [hA] at hf
    simp only [Bool.and_eq_true, decide_eq_true_eq] at hf
    obtain ⟨⟨f1, f2⟩, f3⟩ := hf
    refine ⟨y, V32 y, nv_of_fin f1, ⟨f3, f2⟩, fun w => ?_⟩
    unfold atN at hA
    rw [← ht] at hA
    obtain ⟨r, hr, hy⟩ := Option.map_eq_some_iff.1 hA
    have hrl := row_len hr
    have HF := familyRow_any n (nodeN n k) r (by omega) hr
    have HK := isKind_yes 2 n (by omega) (by omega)
    have HI := isFinite_b (nodeN n k)
    rw [hfx] at HI
    have HC := checked_v f1
    replace HK : ∀ w, Calls Try.prog 42 #[.int .i64 2, .int .i64 (n : Int)] w fun e w' => e = .returned (.bool true) ∧ w' = w := HK
    replace hy := Lib.hid hy
    replace hrl := Lib.hid hrl
    have hn0 : (0 : Int) ≤ (n : Int) := by omega
    clear ht hfx hA hr f1 f2 f3
    generalize nodeN n k = x at *
    go_enter Try.func9, Try.ntmps9
    go_wp2_with fail
    refine (HK _).mono ?_
    rintro e w1 ⟨rfl, rfl⟩
    go_wp2_with fail
    refine (HI _).mono ?_
    rintro e w2 ⟨rfl, hb1⟩
    go_wp2_with fail
    refine (HF _).mono ?_
    rintro e w3 ⟨A, c, rfl, hO, hb2⟩
    obtain ⟨ad, rfl, hlt, hc⟩ := flt_at (k := n) ((hO.reads' (B := w3.heap.size) (Nat.le_refl _) (by simp)).more (Nat.le_refl _)) (by rw [hrl.out]; omega)
    rw [hy.out] at hc
    have z1 := hb1.size
    have z2 := hb2.size
    go_wp2_with fail
    refine (HC _).mono ?_
    rintro e w4 ⟨rfl, hb3⟩
    go_wp2
    go_ret2
    exact ⟨rfl, hb1.trans ((hb2.trans (hb3.mono z2)).mono z1)⟩
end Go.Proofs.Ytlpibibpckkjhaa
