/-
  The mass of a polynomial by its rise, by values (impl.ExactMass).
  The exact mass by values (impl.ExactMass).
-/
import Derived.Test.YtlpibibpckkjhaaRise
namespace Go.Proofs.Ytlpibibpckkjhaa
open Go.RowKit

def pwx (x : Rat) : Nat → Rat
  | 0 => 1
  | k + 1 => pwx x k * x
/-- The value of a polynomial, from the bottom up. -/
def polS (f : Nat → Rat) (x : Rat) : Nat → Rat
  | 0 => 0
  | k + 1 => polS f x k + f k * pwx x k
theorem hor_polS (f : Nat → Rat) (x : Rat) (n : Nat) : ∀ j, j < n → hor f x n j * pwx x (n - 1 - j) + polS f x (n - 1 - j) = polS f x n
  | 0, hj => by
    obtain ⟨m, rfl⟩ : ∃ m, n = m + 1 := ⟨n - 1, by omega⟩
    rw [show m + 1 - 1 - 0 = m by omega]
    unfold hor
    rw [show m + 1 - 1 = m by omega]
    show _ = polS f x m + f m * pwx x m
    grind
  | j + 1, hj => by
    have ih := hor_polS f x n j (by omega)
    obtain ⟨i, hi⟩ : ∃ i, n - 1 - j = i + 1 := ⟨n - 2 - j, by omega⟩
    rw [hi] at ih
    rw [show n - 1 - (j + 1) = i by omega]
    have e1 : pwx x (i + 1) = pwx x i * x := rfl
    have e2 : polS f x (i + 1) = polS f x i + f i * pwx x i := rfl
    rw [e1, e2] at ih
    have e3 : hor f x n (j + 1) = hor f x n j * x + f (n - 2 - j) := rfl
    rw [e3, show n - 2 - j = i by omega]
    grind
theorem hor_all (f : Nat → Rat) (x : Rat) (n : Nat) (hn : 1 ≤ n) : hor f x n (n - 1) = polS f x n := by
  have h := hor_polS f x n (n - 1) (by omega)
  rw [show n - 1 - (n - 1) = 0 by omega] at h
  have e1 : pwx x 0 = 1 := rfl
  have e2 : polS f x 0 = 0 := rfl
  rw [e1, e2] at h
  grind
/-- The exact mass. -/
def exM (f : Nat → Rat) : Nat → Rat
  | 0 => 0
  | k + 1 => exM f k + (if k % 2 = 0 then 2 * f k / ((k + 1 : Nat) : Rat) else 0)
theorem pwx_one : ∀ k, pwx 1 k = 1
  | 0 => rfl
  | k + 1 => by
    have e : pwx 1 (k + 1) = pwx 1 k * 1 := rfl
    rw [e, pwx_one k]; grind
theorem pwx_neg : ∀ k, pwx (-1) k = if k % 2 = 0 then 1 else -1
  | 0 => rfl
  | k + 1 => by
    have e : pwx (-1) (k + 1) = pwx (-1) k * (-1) := rfl
    rw [e, pwx_neg k]
    rcases Nat.mod_two_eq_zero_or_one k with h | h
    · rw [if_pos h, if_neg (by omega)]; grind
    · rw [if_neg (by omega), if_pos (by omega)]; grind
theorem rise_mass {f' f : Nat → Rat} {n : Nat} (h0 : f' 0 = 0) (hr : ∀ i, i < n → Nr (f' (i + 1) * ((i + 1 : Nat) : Rat)) (f i) (1 / 20000)) : ∀ k, k ≤ n → Nr (polS f' 1 (k + 1) - polS f' (-1) (k + 1)) (exM f k) (((k : Nat) : Rat) * (1 / 10000))
  | 0, _ => by
    have e0 : ((0 : Nat) : Rat) = 0 := rfl
    have e1 : polS f' 1 (0 + 1) = 0 + f' 0 * 1 := rfl
    have e2 : polS f' (-1) (0 + 1) = 0 + f' 0 * 1 := rfl
    have e3 : exM f 0 = 0 := rfl
    unfold Nr
    rw [e0, e1, e2, e3, h0]
    grind
  | k + 1, hk => by
    have ih := rise_mass h0 hr k (by omega)
    have hi := hr k (by omega)
    unfold Nr at *
    have e1 : polS f' 1 (k + 1 + 1) = polS f' 1 (k + 1) + f' (k + 1) * pwx 1 (k + 1) := rfl
    have e2 : polS f' (-1) (k + 1 + 1) = polS f' (-1) (k + 1) + f' (k + 1) * pwx (-1) (k + 1) := rfl
    have e3 : exM f (k + 1) = exM f k + (if k % 2 = 0 then 2 * f k / ((k + 1 : Nat) : Rat) else 0) := rfl
    rw [e1, e2, e3, pwx_one, nat_succ_rat k]
    have hK : (1 : Rat) ≤ ((k : Nat) : Rat) + 1 := by
      have := nat_le_rat (Nat.zero_le k)
      have e0 : ((0 : Nat) : Rat) = 0 := rfl
      rw [e0] at this
      grind
    rw [nat_succ_rat k] at hi
    generalize ((k : Nat) : Rat) = K at *
    rcases Nat.mod_two_eq_zero_or_one k with h | h
    · have i2 : pwx (-1) (k + 1) = -1 := by rw [pwx_neg, if_neg (by omega)]
      rw [i2, if_pos h]
      obtain ⟨q, hq⟩ : ∃ q, q = f k / (K + 1) := ⟨_, rfl⟩
      have hq2 : q * (K + 1) = f k := by rw [hq]; exact Rat.div_mul_cancel (by grind)
      have hq3 : 2 * f k / (K + 1) = 2 * q := by rw [hq, Rat.div_def, Rat.div_def]; grind
      rw [hq3]
      have b1 : f' (k + 1) ≤ q + 1 / 20000 := by
        rcases (show f' (k + 1) ≤ q + 1 / 20000 ∨ 0 ≤ f' (k + 1) - q - 1 / 20000 by grind) with h2 | h2
        · exact h2
        · have := Rat.mul_nonneg h2 (show (0 : Rat) ≤ K by grind)
          grind
      have b2 : q ≤ f' (k + 1) + 1 / 20000 := by
        rcases (show q ≤ f' (k + 1) + 1 / 20000 ∨ 0 ≤ q - f' (k + 1) - 1 / 20000 by grind) with h2 | h2
        · exact h2
        · have := Rat.mul_nonneg h2 (show (0 : Rat) ≤ K by grind)
          grind
      grind
    · have i2 : pwx (-1) (k + 1) = 1 := by rw [pwx_neg, if_pos (by omega)]
      rw [i2, if_neg (show ¬ k % 2 = 0 by omega)]
      grind
theorem riseT_trms {L l : List (Nat × Nat)} {re' im' re im : Nat → Rat} {n : Nat} (h : RiseT L re' im' re im n) (hT : Trms l re im 4) (hl : l.length = n) : Trms L re' im' 5 := by
  have one : ∀ {a b : Rat} {k : Nat}, Nr (a * ((k + 1 : Nat) : Rat)) b (1 / 20000) → (-4 ≤ b ∧ b ≤ 4) → -5 ≤ a ∧ a ≤ 5 := fun {a b k} h1 h2 => by
    unfold Nr at h1
    rw [nat_succ_rat k] at h1
    have h0 := nat_le_rat (Nat.zero_le k)
    have e0 : ((0 : Nat) : Rat) = 0 := rfl
    rw [e0] at h0
    generalize ((k : Nat) : Rat) = K at *
    constructor
    · rcases (show -5 ≤ a ∨ 0 ≤ -5 - a by grind) with h3 | h3
      · exact h3
      · have := Rat.mul_nonneg h3 h0; grind
    · rcases (show a ≤ 5 ∨ 0 ≤ a - 5 by grind) with h3 | h3
      · exact h3
      · have := Rat.mul_nonneg h3 h0; grind
  intro i hi
  rw [h.len] at hi
  obtain ⟨v1, v2⟩ := h.nv i hi
  rcases Nat.eq_zero_or_pos i with h0 | h0
  · subst h0
    rw [h.z.1, h.z.2] at *
    exact ⟨v1, v2, by grind, by grind⟩
  · obtain ⟨k, rfl⟩ : ∃ k, i = k + 1 := ⟨i - 1, by omega⟩
    obtain ⟨r1, r2⟩ := h.r k (by omega)
    obtain ⟨-, -, t1, t2⟩ := hT k (by omega)
    exact ⟨v1, v2, one r1 t1, one r2 t2⟩
end Go.Proofs.Ytlpibibpckkjhaa
namespace Go.Proofs.Ytlpibibpckkjhaa
open Go.RowKit

theorem nv_one : NV .f32 1065353216 1 := by
  have h := nv_of_fin (x := 1065353216) (by decide +kernel)
  rw [show V32 1065353216 = 1 by decide +kernel] at h
  exact h
theorem nv_mone : NV .f32 3212836864 (-1) := by
  have h := nv_of_fin (x := 3212836864) (by decide +kernel)
  rw [show V32 3212836864 = -1 by decide +kernel] at h
  exact h
theorem exM_bd {f : Nat → Rat} {C : Rat} (hC : 0 ≤ C) {n : Nat} (hf : ∀ k, k < n → -C ≤ f k ∧ f k ≤ C) : ∀ k, k ≤ n → -(2 * C * ((k : Nat) : Rat)) ≤ exM f k ∧ exM f k ≤ 2 * C * ((k : Nat) : Rat)
  | 0, _ => by
    have e0 : ((0 : Nat) : Rat) = 0 := rfl
    have e3 : exM f 0 = 0 := rfl
    rw [e0, e3]
    grind
  | k + 1, hk => by
    have ih := exM_bd hC hf k (by omega)
    have e3 : exM f (k + 1) = exM f k + (if k % 2 = 0 then 2 * f k / ((k + 1 : Nat) : Rat) else 0) := rfl
    rw [e3, nat_succ_rat k]
    have hK : (1 : Rat) ≤ ((k : Nat) : Rat) + 1 := by
      have := nat_le_rat (Nat.zero_le k)
      have e0 : ((0 : Nat) : Rat) = 0 := rfl
      rw [e0] at this
      grind
    have hk2 := hf k (by omega)
    generalize ((k : Nat) : Rat) = K at *
    rcases Nat.mod_two_eq_zero_or_one k with h | h
    · rw [if_pos h]
      obtain ⟨q, hq⟩ : ∃ q, q = f k / (K + 1) := ⟨_, rfl⟩
      have hq2 : q * (K + 1) = f k := by rw [hq]; exact Rat.div_mul_cancel (by grind)
      have hq3 : 2 * f k / (K + 1) = 2 * q := by rw [hq, Rat.div_def, Rat.div_def]; grind
      rw [hq3]
      have b1 : q ≤ C := by
        rcases (show q ≤ C ∨ 0 ≤ q - C by grind) with h2 | h2
        · exact h2
        · have := Rat.mul_nonneg h2 (show (0 : Rat) ≤ K by grind)
          have := Rat.mul_nonneg hC (show (0 : Rat) ≤ K by grind)
          grind
      have b2 : -C ≤ q := by
        rcases (show -C ≤ q ∨ 0 ≤ -C - q by grind) with h2 | h2
        · exact h2
        · have := Rat.mul_nonneg h2 (show (0 : Rat) ≤ K by grind)
          have := Rat.mul_nonneg hC (show (0 : Rat) ≤ K by grind)
          grind
      grind
    · rw [if_neg (show ¬ k % 2 = 0 by omega)]
      grind

set_option maxRecDepth 100000 in
set_option maxHeartbeats 1600000 in
theorem exactMass_v (A : Option Addr) (c n : Nat) (l : List (Nat × Nat)) (hl : l.length = n) (re im : Nat → Rat) (hT : Trms l re im 4) (hn1 : 1 ≤ n) (hn : n ≤ 8) (hv : polyB l = true) (hlast : 1 / 2 ≤ re (n - 1)) (w : World) (hr : Reads w w.heap.size 1 A n (cplx l)) :
    Calls Try.prog 25 #[.agg #[.slice A n c]] w fun e w' => ∃ r s π κ, e = .returned (.tuple #[.complex .f32 r s, .bool true]) ∧ NV .f32 r π ∧ NV .f32 s κ ∧ Nr π (exM re n) (1 / 500) ∧ Nr κ (exM im n) (1 / 500) ∧ Below w.heap.size w w' := by
  have hb0 : Below w.heap.size w (w.alloc (.cells #[.slice A n c] 33)) := (Below.refl _ _).alloc (Nat.le_refl _) _
  have hP0 := Blk.new w 33 #[.slice A n c]
  have HR := risePoly_v A c n l hl re im hT hn1 hn hv hlast _ ((hr.below hb0).more (by simp))
  have cP : (w.alloc (.cells #[.slice A n c] 33)).cell? ⟨w.heap.size, 0, none⟩ = some (.slice A n c) := hP0.cell 0
  replace hT := Lib.hid hT
  replace hlast := Lib.hid hlast
  clear hv
  go_enter Try.func25, Try.ntmps25
  go_wp2_with fail
  (with_reducible refine HR.mono ?_)
  rintro e w1 ⟨g, c', L, re', im', rfl, hRT, hOw, hb1⟩
  clear HR cP
  -- the values at 1 and at -1
  have hT5 := riseT_trms hRT hT.out hl
  obtain ⟨hv1, hv2⟩ := riseT_valid hRT hn1 hn hlast.out
  obtain ⟨r1, s1, π1, κ1, u1, u2, u3, u4, H1⟩ := polyAt_v (n + 1) _ L hRT.len re' im' 1 hT5 nv_one (by grind) (by grind) (by omega) (by omega) hv2
  obtain ⟨r2, s2, π2, κ2, y1, y2, y3, y4, H2⟩ := polyAt_v (n + 1) _ L hRT.len re' im' (-1) hT5 nv_mone (by grind) (by grind) (by omega) (by omega) hv2
  have bd1 := hor_bd (C := 5) (x := 1) (n := n + 1) (f := re') (fun k hk => (hT5 k (by rw [hRT.len]; exact hk)).2.2.1) (by grind) (by grind) n (by omega)
  have bd2 := hor_bd (C := 5) (x := 1) (n := n + 1) (f := im') (fun k hk => (hT5 k (by rw [hRT.len]; exact hk)).2.2.2) (by grind) (by grind) n (by omega)
  have bd3 := hor_bd (C := 5) (x := -1) (n := n + 1) (f := re') (fun k hk => (hT5 k (by rw [hRT.len]; exact hk)).2.2.1) (by grind) (by grind) n (by omega)
  have bd4 := hor_bd (C := 5) (x := -1) (n := n + 1) (f := im') (fun k hk => (hT5 k (by rw [hRT.len]; exact hk)).2.2.2) (by grind) (by grind) n (by omega)
  have rm1 := rise_mass hRT.z.1 (fun i hi => (hRT.r i hi).1) n (Nat.le_refl _)
  have rm2 := rise_mass hRT.z.2 (fun i hi => (hRT.r i hi).2) n (Nat.le_refl _)
  rw [← hor_all _ _ _ (by omega), ← hor_all _ _ _ (by omega)] at rm1 rm2
  rw [show n + 1 - 1 = n by omega] at *
  have h9 := nat_le_rat (show n + 1 ≤ 9 by omega)
  have e9 : ((9 : Nat) : Rat) = 9 := rfl
  have h8 := nat_le_rat hn
  have e8 : ((8 : Nat) : Rat) = 8 := rfl
  rw [e9] at h9
  rw [e8] at h8
  generalize ((n + 1 : Nat) : Rat) = N1 at *
  unfold Nr at u3 u4 y3 y4 rm1 rm2
  generalize ((n : Nat) : Rat) = N0 at *
  generalize hor re' 1 (n + 1) n = h1 at *
  generalize hor re' (-1) (n + 1) n = h2 at *
  generalize hor im' 1 (n + 1) n = h3 at *
  generalize hor im' (-1) (n + 1) n = h4 at *
  obtain ⟨r, s, π, κ, z1, z2, z3, z4, HM⟩ := minus_v u1 u2 y1 y2 (by unfold Bd; grind) (by unfold Bd; grind)
  have HF := finite_v (nv_fin z1) (nv_fin z2)
  have f1 : Nr π (exM re n) (1 / 500) := by unfold Nr at *; grind
  have f2 : Nr κ (exM im n) (1 / 500) := by unfold Nr at *; grind
  have hfin := Lib.hid (show NV .f32 r π ∧ NV .f32 s κ ∧ Nr π (exM re n) (1 / 500) ∧ Nr κ (exM im n) (1 / 500) from ⟨z1, z2, f1, f2⟩)
  have hLl : (cplx L).length = n + 1 := by simp [cplx, hRT.len]
  clear hT hlast hT5 hv1 hv2 u1 u2 u3 u4 y1 y2 y3 y4 bd1 bd2 bd3 bd4 rm1 rm2 h9 e9 h8 e8 z1 z2 z3 z4 f1 f2 hRT
  have zz1 := hb1.size
  simp only [World.size_alloc] at zz1
  have hb2 := hb0.trans (hb1.mono (by simp))
  -- the rise's variable
  have hb4 : Below w1.heap.size w1 (w1.alloc (.cells #[.slice (some ⟨g, 0, none⟩) (n + 1) c'] 33)) := (Below.refl _ _).alloc (Nat.le_refl _) _
  have hP1 := Blk.new w1 33 #[.slice (some ⟨g, 0, none⟩) (n + 1) c']
  have z4 := hb4.size
  have hO4 := (hOw.below hb4 (Nat.le_refl _))
  have hb5 := hb2.trans (hb4.mono (by omega))
  have cP1 : (w1.alloc (.cells #[.slice (some ⟨g, 0, none⟩) (n + 1) c'] 33)).cell? ⟨w1.heap.size, 0, none⟩ = some (.slice (some ⟨g, 0, none⟩) (n + 1) c') := hP1.cell 0
  have HA := H1 (some ⟨g, 0, none⟩) c' _ ((hO4.reads' (Nat.le_refl _) hLl).more z4)
  go_wp2_with fail
  (with_reducible refine HA.mono ?_)
  rintro e w2 ⟨rfl, hb6⟩
  clear HA H1
  have z6 := hb6.size
  simp only [World.size_alloc] at z4 z6 hb6
  have hP2 := hP1.below hb6 (by simp)
  have hO6 := hO4.below hb6 (by omega)
  have hb7 := hb5.trans (hb6.mono (by omega))
  have cP2 : w2.cell? ⟨w1.heap.size, 0, none⟩ = some (.slice (some ⟨g, 0, none⟩) (n + 1) c') := hP2.cell 0
  have HB := H2 (some ⟨g, 0, none⟩) c' w2 ((hO6.reads' (Nat.le_refl _) hLl).more (by omega))
  clear hP1 hP0 hb4 hb5 hb6 cP1 hO4
  go_wp2_with fail
  (with_reducible refine HB.mono ?_)
  rintro e w3 ⟨rfl, hb8⟩
  clear HB H2
  have z8 := hb8.size
  have hb9 := hb7.trans (hb8.mono (by omega))
  go_wp2_with fail
  refine (HM _).mono ?_
  rintro e w4 ⟨rfl, rfl⟩
  go_wp2_with fail
  refine (HF _).mono ?_
  rintro e w5 ⟨rfl, hb10⟩
  go_wp2
  go_ret2
  obtain ⟨f1, f2, f3, f4⟩ := hfin.out
  exact ⟨r, s, π, κ, rfl, f1, f2, f3, f4, hb9.trans (hb10.mono (by omega))⟩
end Go.Proofs.Ytlpibibpckkjhaa
