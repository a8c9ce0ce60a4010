/-
  Contract: the reference's fit (spec.FitPoly) of lists as they have to be, whatever the numbers.
-/
import Derived.Test.YtlpibibpckkjhaaFitS
namespace Go.Proofs.Ytlpibibpckkjhaa
open Go.RowKit

theorem flt_atN {w : World} {B n : Nat} {A : Option Addr} {l : List Nat} {k : Nat} (h : Reads w B 1 A n (flts l)) (hl : l.length = n) (hk : k < n) :
    ∃ ad, A = some ad ∧ ad.block < B ∧ w.cell? (ad.add k) = some (.float .f32 (l.getD k 0)) := by
  subst hl; exact flt_at h hk
theorem Vec.reads {w : World} {V n : Nat} {a : Nat → Option Nat} (h : Vec w V n a) : ∃ l : List Nat, l.length = n ∧ (∀ i, i < n → cn (l.getD i 0) = a i) ∧ Reads w (V + 1) 1 (some ⟨V, 0, none⟩) n (flts l) := by
  have key : ∀ m, m ≤ n → ∃ l : List Nat, l.length = m ∧ (∀ i, i < m → cn (l.getD i 0) = a i) ∧ ∀ i, i < m → w.cell? ⟨V, i, none⟩ = some (.float .f32 (l.getD i 0)) := by
    intro m
    induction m with
    | zero => exact fun _ => ⟨[], rfl, fun i hi => absurd hi (Nat.not_lt_zero _), fun i hi => absurd hi (Nat.not_lt_zero _)⟩
    | succ m ih =>
      intro hm
      obtain ⟨l, h1, h2, h3⟩ := ih (by omega)
      obtain ⟨x, h4, h5⟩ := h.cl m (by omega)
      refine ⟨l ++ [x], by simp [h1], fun i hi => ?_, fun i hi => ?_⟩
      all_goals
        rcases Nat.lt_or_ge i m with hlt | hge
        · have e : (l ++ [x]).getD i 0 = l.getD i 0 := by simp [List.getD, List.getElem?_append_left (show i < l.length by omega)]
          rw [e]
          first | exact h2 i hlt | exact h3 i hlt
        · obtain rfl : i = m := by omega
          have e : (l ++ [x]).getD i 0 = x := by rw [← h1]; simp [List.getD]
          rw [e]
          first | exact h5 | exact h4
  obtain ⟨l, h1, h2, h3⟩ := key n (Nat.le_refl _)
  refine ⟨l, h1, h2, by simp [h1], fun hn => ⟨_, rfl, Nat.lt_succ_self _, fun j u hu => ?_⟩⟩
  have hj : j < n := by
    have := (List.getElem?_eq_some_iff.1 hu).1
    simpa [h1] using this
  have e0 : (⟨V, 0, none⟩ : Addr).add j = ⟨V, j, none⟩ := by unfold Addr.add; split <;> simp_all
  rw [e0, h3 j hj]
  rw [flts_at (by omega)] at hu
  exact hu
theorem Blk.other {w : World} {p : Nat} {t : TypeId} {cs : Array Value} (h : Blk w p t cs) {b o : Nat} (hb : b ≠ p) (v : Value) : Blk (w.setCell ⟨b, o, none⟩ v) p t cs :=
  (Below.heap_setCell _ _ _ _ (fun e => hb e.symm)).trans h
theorem one_hdr (c g : Nat) : ∀ u ∈ [hdr c g], u.oneCell' = true := by intro u hu; simp at hu; subst hu; rfl
theorem rep_snoc (i : Nat) : flts (List.replicate i 0) ++ [.float .f32 0] = flts (List.replicate (i + 1) 0) := by
  rw [flts_snoc, List.replicate_succ']
/-- The sums of powers, done up to row i0, column k0 of value j. -/
def sAt (X W : Nat → Option Nat) (j i0 k0 : Nat) : Mx := fun i k => if i < i0 ∨ (i = i0 ∧ k < k0) then sumO X W (i + k) (j + 1) else sumO X W (i + k) j
def rAt (X Y W : Nat → Option Nat) (j i0 : Nat) : Nat → Option Nat := fun i => if i < i0 then rhsO X Y W i (j + 1) else rhsO X Y W i j

section
variable (X Y W : Nat → Option Nat)
theorem sAt_step (j i0 k0 : Nat) (i k : Nat) : upd (sAt X W j i0 k0) i0 k0 (sumO X W (i0 + k0) (j + 1)) i k = sAt X W j i0 (k0 + 1) i k := by
  unfold upd sAt
  by_cases h : i = i0 ∧ k = k0
  · obtain ⟨rfl, rfl⟩ := h
    rw [if_pos ⟨rfl, rfl⟩, if_pos (by omega)]
  · rw [if_neg h]
    by_cases h2 : i < i0 ∨ (i = i0 ∧ k < k0)
    · rw [if_pos h2, if_pos (by omega)]
    · rw [if_neg h2, if_neg (by omega)]
theorem sAt_self (j i0 k0 : Nat) : sAt X W j i0 k0 i0 k0 = sumO X W (i0 + k0) j := by unfold sAt; rw [if_neg (by omega)]
theorem sAt_row (j i0 n i k : Nat) (hk : k < n) : sAt X W j i0 n i k = sAt X W j (i0 + 1) 0 i k := by
  unfold sAt
  by_cases h2 : i < i0 ∨ (i = i0 ∧ k < n)
  · rw [if_pos h2, if_pos (by omega)]
  · rw [if_neg h2, if_neg (by omega)]
theorem sAt_end (j n i k : Nat) (hi : i < n) : sAt X W j n 0 i k = sAt X W (j + 1) 0 0 i k := by
  unfold sAt
  rw [if_pos (by omega), if_neg (by omega)]
theorem rAt_step (j i0 i : Nat) : updV (rAt X Y W j i0) i0 (rhsO X Y W i0 (j + 1)) i = rAt X Y W j (i0 + 1) i := by
  unfold updV rAt
  by_cases h : i = i0
  · subst h; rw [if_pos rfl, if_pos (by omega)]
  · rw [if_neg h]
    by_cases h2 : i < i0
    · rw [if_pos h2, if_pos (by omega)]
    · rw [if_neg h2, if_neg (by omega)]
theorem rAt_self (j i0 : Nat) : rAt X Y W j i0 i0 = rhsO X Y W i0 j := by unfold rAt; rw [if_neg (by omega)]
theorem rAt_end (j n i : Nat) (hi : i < n) : rAt X Y W j n i = rAt X Y W (j + 1) 0 i := by
  unfold rAt
  rw [if_pos (by omega), if_neg (by omega)]
end
end Go.Proofs.Ytlpibibpckkjhaa
