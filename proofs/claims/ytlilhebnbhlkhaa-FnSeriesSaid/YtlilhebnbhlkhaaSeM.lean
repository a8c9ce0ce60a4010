/-
  The law FnSeries: values of the series at a drawn number and at 0.
-/
import Derived.Test.YtlilhebnbhlkhaaSeL
namespace Go.Proofs.Ytlilhebnbhlkhaa
open Go.RowKit

/-- A number of eighths as a word. -/
def q8 (k : Nat) : Nat := qt ((k : Int) - 4) 1090519040
def q8B (k : Nat) : Bool := floatBits .quo .f32 (floatOfInt .f32 ((k : Int) - 4)) 1090519040 == some (q8 k) && fin32B (q8 k) && decide (-1 ≤ V32 (q8 k)) && decide (V32 (q8 k) ≤ 1)
theorem q8_tab : (List.range 9).all q8B = true := by decide +kernel
theorem q8_ok (k : Nat) (h : k < 9) : floatBits .quo .f32 (floatOfInt .f32 ((k : Int) - 4)) 1090519040 = some (q8 k) ∧ ∃ v, NV .f32 (q8 k) v ∧ Lm v 1 := by
  have t := List.all_eq_true.1 q8_tab k (List.mem_range.2 h)
  unfold q8B at t
  simp only [Bool.and_eq_true, decide_eq_true_eq, beq_iff_eq] at t
  obtain ⟨⟨⟨t1, t2⟩, t3⟩, t4⟩ := t
  exact ⟨t1, _, nv_of_fin t2, t3, t4⟩
theorem gC_top {K : Rat} {N : Nat} : ∀ j, gC (fun _ => K) 1 N j = ((j + 1 : Nat) : Rat) * K
  | 0 => by
    show K = _
    rw [show ((0 + 1 : Nat) : Rat) = 1 from rfl]
    grind
  | j + 1 => by
    show gC (fun _ => K) 1 N j * 1 + K = _
    rw [gC_top j]
    push_cast
    grind
theorem hC_zero {re im : Nat → Rat} {n : Nat} : ∀ j, hC re im 0 0 n j = if j = 0 then (re (n - 1), im (n - 1)) else (re (n - 1 - j), im (n - 1 - j))
  | 0 => rfl
  | j + 1 => by
    rw [if_neg (by omega), hC, show n - 2 - j = n - 1 - (j + 1) by omega]
    exact ceq (by simp only; grind) (by simp only; grind)
/-- The value of a series at a number no longer than 1. -/
theorem at_val {u : Sq} {n : Nat} {a : List (Nat × Nat)} (ha : Near u tA n a) (hn1 : 1 ≤ n) (hn : n ≤ 7) {x : Nat} {ξ : Rat} (hx : NV .f32 x ξ) (hξ : Lm ξ 1) :
    ∃ r : Nat × Nat, (fin32B r.1 = true ∧ fin32B r.2 = true) ∧ (ξ = 0 → ∃ c d, NV .f32 r.1 c ∧ NV .f32 r.2 d ∧ E2 (c - (u 0).1) (d - (u 0).2) (1 / 2000)) ∧
      ∀ (A : Option Addr) (c : Nat) (w : World), Reads w w.heap.size 1 A n (cplx a) → Calls Try.prog 32 #[.slice A n c, .complex .f32 x 0] w fun e w' => e = .returned (.tuple #[.complex .f32 r.1 r.2, .bool true]) ∧ Below w.heap.size w w' := by
  have key : ∀ k, ∃ p : Rat × Rat, k < n → NV .f32 (a.getD k (0, 0)).1 p.1 ∧ NV .f32 (a.getD k (0, 0)).2 p.2 ∧ E2 p.1 p.2 (3 / 2) ∧ E2 (p.1 - (u k).1) (p.2 - (u k).2) 0 := fun k => by
    by_cases hk : k < n
    · obtain ⟨c, d, m1, m2, e1, e2⟩ := ha.ap k hk
      have t : allN 7 (fun k => decide ((tA k).1 ≤ 3 / 2) && decide ((tA k).2 = 0)) = true := by decide +kernel
      have t2 := allN_at t (show k < 7 by omega)
      simp only [Bool.and_eq_true, decide_eq_true_eq] at t2
      rw [t2.2] at e1
      exact ⟨(c, d), fun _ => ⟨m1, m2, (e2.of e1).le (by grind), e1⟩⟩
    · exact ⟨(0, 0), fun h => absurd h hk⟩
  obtain ⟨V, hV⟩ : ∃ V : Sq, ∀ k, k < n → NV .f32 (a.getD k (0, 0)).1 (V k).1 ∧ NV .f32 (a.getD k (0, 0)).2 (V k).2 ∧ E2 (V k).1 (V k).2 (3 / 2) ∧ E2 ((V k).1 - (u k).1) ((V k).2 - (u k).2) 0 := ⟨fun k => (key k).choose, fun k hk => (key k).choose_spec hk⟩
  have hT : TrmN a (fun k => (V k).1) (fun k => (V k).2) (fun _ => 3) := fun k hk => by
    obtain ⟨m1, m2, e1, -⟩ := hV k (by have := ha.len; omega)
    exact ⟨m1, m2, (N1.lm e1.fst e1.snd).le (by grind), by grind⟩
  have hz : N1 ξ 0 1 := by
    unfold Lm at hξ
    unfold N1; refine ⟨?_, ?_, ?_, ?_⟩ <;> grind
  have h7 : ∀ j, j < n → gC (fun _ => (3 : Rat)) 1 n j ≤ 21 := fun j hj => by
    rw [gC_top]
    have : ((j + 1 : Nat) : Rat) ≤ ((7 : Nat) : Rat) := by exact_mod_cast (show j + 1 ≤ 7 by omega)
    rw [show ((7 : Nat) : Rat) = 7 from rfl] at this
    grind
  obtain ⟨r, s, π, κ, n1, n2, er, HN⟩ := nested_g n x 0 a ha.len (fun k => (V k).1) (fun k => (V k).2) (fun _ => 3) ξ 0 1 hT hx nv_zero hz ⟨by grind, by grind⟩ (fun j hj => by have := h7 j hj; grind) hn1 (by omega)
  have hxf : finCB (x, 0) = true := by
    unfold finCB
    rw [Bool.and_eq_true]
    exact ⟨nv_fin hx, nv_fin nv_zero⟩
  refine ⟨(r, s), ⟨nv_fin n1, nv_fin n2⟩, fun e0 => ⟨π, κ, n1, n2, ?_⟩, fun A c w hr => seriesAt_ok n a (x, 0) (r, s) (ha.ser hn1 (by omega)) hxf ⟨nv_fin n1, nv_fin n2⟩ HN A c w hr⟩
  subst e0
  have e1 : hC (fun k => (V k).1) (fun k => (V k).2) 0 0 n (n - 1) = V 0 := by
    rw [hC_zero]
    by_cases e : n - 1 = 0
    · rw [if_pos e, e]
    · rw [if_neg e, Nat.sub_self]
  rw [e1] at er
  have hg := h7 (n - 1) (by omega)
  have hg0 : 0 ≤ gC (fun _ => (3 : Rat)) 1 n (n - 1) := by
    rw [gC_top]
    have : (0 : Rat) ≤ ((n - 1 + 1 : Nat) : Rat) := by exact_mod_cast Nat.zero_le _
    grind
  have hn7 : ((n : Nat) : Rat) ≤ 7 := by
    have : ((n : Nat) : Rat) ≤ ((7 : Nat) : Rat) := by exact_mod_cast hn
    rwa [show ((7 : Nat) : Rat) = 7 from rfl] at this
  have k1 := Rat.mul_nonneg (show (0 : Rat) ≤ 7 - ((n : Nat) : Rat) by grind) hg0
  obtain ⟨v1, v2, v3, v4⟩ := hV 0 (by omega)
  have e2 := N1.le er (show _ ≤ 1 / 3000 by grind)
  have e3 := E2.lm e2.fst e2.snd
  exact (e3.trans v4).le (by grind)
end Go.Proofs.Ytlilhebnbhlkhaa
