/-
  Sums of products near exact ones; lists built step by step; exact sequences by their beginnings.
-/
import Derived.Test.YtlilhebnbhlkhaaSeV
namespace Go.Proofs.Ytlilhebnbhlkhaa
open Go.RowKit

abbrev Bd2 := Nat → Rat × Rat
def msum (u v : Sq) (k f : Nat) : Nat → Rat × Rat
  | 0 => (0, 0)
  | m + 1 => ca (msum u v k f m) (cm (u (f + m)) (v (k - (f + m))))
def bmix (A B : Bd2) (k f : Nat) : Nat → Rat × Rat
  | 0 => (0, 0)
  | m + 1 => bp (bmix A B k f m) (bm (A (f + m)) (B (k - (f + m))))
def okmix (A B : Bd2) (k f : Nat) : Nat → Bool
  | 0 => true
  | m + 1 => okmix A B k f m && okB (((A (f + m)).1 + (A (f + m)).2) * ((B (k - (f + m))).1 + (B (k - (f + m))).2)) && okB ((bmix A B k f m).1 + (bm (A (f + m)) (B (k - (f + m)))).1 + ((bmix A B k f m).2 + (bm (A (f + m)) (B (k - (f + m)))).2))
theorem mixN_ap {u v : Sq} {A B : Bd2} {a b : List (Nat × Nat)} {k f : Nat} : ∀ m, (∀ j, j < m → Ap (u (f + j)) (A (f + j)) (a.getD (f + j) (0, 0))) → (∀ j, j < m → Ap (v (k - (f + j))) (B (k - (f + j))) (b.getD (k - (f + j)) (0, 0))) → okmix A B k f m = true → ∃ s, mixN a b k f m = some s ∧ Ap (msum u v k f m) (bmix A B k f m) s
  | 0, _, _, _ => ⟨(0, 0), rfl, Ap.zero⟩
  | m + 1, h1, h2, h => by
    rw [okmix, Bool.and_eq_true, Bool.and_eq_true] at h
    obtain ⟨s, g1, q1⟩ := mixN_ap m (fun j hj => h1 j (by omega)) (fun j hj => h2 j (by omega)) h.1.1
    obtain ⟨p, g2, q2⟩ := Ap.mul (h1 m (by omega)) (h2 m (by omega)) h.1.2
    obtain ⟨r, g3, q3⟩ := Ap.add q1 q2 h.2
    exact ⟨r, by rw [mixN, g1, Option.bind_some, g2, Option.bind_some, g3], q3⟩
theorem msum_congr {u v u' v' : Sq} {k f : Nat} : ∀ m, (∀ j, j < m → u (f + j) = u' (f + j)) → (∀ j, j < m → v (k - (f + j)) = v' (k - (f + j))) → msum u v k f m = msum u' v' k f m
  | 0, _, _ => rfl
  | m + 1, h1, h2 => by
    rw [msum, msum, msum_congr m (fun j hj => h1 j (by omega)) (fun j hj => h2 j (by omega)), h1 m (by omega), h2 m (by omega)]
theorem msum_shift {u v : Sq} {k : Nat} : ∀ m, m ≤ k + 1 → msum u v (k + 1) 0 m = msum u (fun i => v (i + 1)) k 0 m
  | 0, _ => rfl
  | m + 1, h => by
    rw [msum, msum, msum_shift m (by omega), show k + 1 - (0 + m) = k - (0 + m) + 1 by omega]
theorem cv_msum {u : Sq} : ∀ (k : Nat) (v : Sq), cv u v k = msum u v k 0 (k + 1)
  | 0, v => by
    simp only [cv, msum, ca]
    exact ceq (by simp only [cm]; grind) (by simp only [cm]; grind)
  | k + 1, v => by
    have e : msum u v (k + 1) 0 (k + 1 + 1) = ca (msum u v (k + 1) 0 (k + 1)) (cm (u (0 + (k + 1))) (v (k + 1 - (0 + (k + 1))))) := rfl
    rw [cv_last, cv_msum k, e, msum_shift (k + 1) (Nat.le_refl _), show k + 1 - (0 + (k + 1)) = 0 by omega, show 0 + (k + 1) = k + 1 by omega]
theorem msum_head {u v : Sq} {k : Nat} : ∀ m, msum u v k 0 (m + 1) = ca (cm (u 0) (v k)) (msum u v k 1 m)
  | 0 => by
    simp only [msum, ca]
    exact ceq (by simp only [cm, Nat.add_zero, Nat.sub_zero]; grind) (by simp only [cm, Nat.add_zero, Nat.sub_zero]; grind)
  | m + 1 => by
    rw [msum, msum_head m, msum, show 0 + (m + 1) = 1 + m by omega]
    simp only [ca]
    exact ceq (by grind) (by grind)
/-- An exponential's sum. -/
def esum (u v : Sq) (k : Nat) : Nat → Rat × Rat
  | 0 => (0, 0)
  | m + 1 => ca (esum u v k m) (cm (cr ((m + 1 : Nat) : Rat) (u (m + 1))) (v (k - (m + 1))))
def bexp (A B : Bd2) (k : Nat) : Nat → Rat × Rat
  | 0 => (0, 0)
  | m + 1 => bp (bexp A B k m) (bm (rs ((m + 1 : Nat) : Rat) (A (m + 1))) (B (k - (m + 1))))
def okexp (A B : Bd2) (k : Nat) : Nat → Bool
  | 0 => true
  | m + 1 => okexp A B k m && okB (((m + 1 : Nat) : Rat) * ((A (m + 1)).1 + (A (m + 1)).2)) && okB (((rs ((m + 1 : Nat) : Rat) (A (m + 1))).1 + (rs ((m + 1 : Nat) : Rat) (A (m + 1))).2) * ((B (k - (m + 1))).1 + (B (k - (m + 1))).2)) &&
      okB ((bexp A B k m).1 + (bm (rs ((m + 1 : Nat) : Rat) (A (m + 1))) (B (k - (m + 1)))).1 + ((bexp A B k m).2 + (bm (rs ((m + 1 : Nat) : Rat) (A (m + 1))) (B (k - (m + 1)))).2))
def fiB (k : Nat) : Bool := fin32B (floatOfInt .f32 (k : Int)) && decide (V32 (floatOfInt .f32 (k : Int)) = (k : Rat))
theorem fi_tab : (List.range 20).all fiB = true := by decide +kernel
theorem fi_ok (k : Nat) (h : k < 20) : NV .f32 (floatOfInt .f32 (k : Int)) (k : Rat) := by
  have t := List.all_eq_true.1 fi_tab k (List.mem_range.2 h)
  unfold fiB at t
  simp only [Bool.and_eq_true, decide_eq_true_eq] at t
  rw [← t.2]
  exact nv_of_fin t.1
theorem expN_ap {u v : Sq} {A B : Bd2} {a b : List (Nat × Nat)} {k : Nat} : ∀ m, m < 19 → (∀ j, j < m → Ap (u (j + 1)) (A (j + 1)) (a.getD (j + 1) (0, 0))) → (∀ j, j < m → Ap (v (k - (j + 1))) (B (k - (j + 1))) (b.getD (k - (j + 1)) (0, 0))) → okexp A B k m = true → ∃ s, expN a b k m = some s ∧ Ap (esum u v k m) (bexp A B k m) s
  | 0, _, _, _, _ => ⟨(0, 0), rfl, Ap.zero⟩
  | m + 1, hm, h1, h2, h => by
    rw [okexp, Bool.and_eq_true, Bool.and_eq_true, Bool.and_eq_true] at h
    obtain ⟨s, g1, q1⟩ := expN_ap m (by omega) (fun j hj => h1 j (by omega)) (fun j hj => h2 j (by omega)) h.1.1.1
    obtain ⟨t, g2, q2⟩ := Ap.scale (h1 m (by omega)) (fi_ok (m + 1) (by omega)) (by exact_mod_cast Nat.zero_le (m + 1)) h.1.1.2
    obtain ⟨p, g3, q3⟩ := Ap.mul q2 (h2 m (by omega)) h.1.2
    obtain ⟨r, g4, q4⟩ := Ap.add q1 q3 h.2
    exact ⟨r, by rw [expN, g1, Option.bind_some, g2, Option.bind_some, g3, Option.bind_some, g4], q4⟩
/-- A list, built term by term. -/
theorem build {R : List (Nat × Nat) → Nat → Nat × Nat → Prop} {Q : Nat → Nat × Nat → Prop} {n : Nat}
    (hs : ∀ (o : List (Nat × Nat)) k, o.length = k → k < n → (∀ j, j < k → Q j (o.getD j (0, 0))) → ∃ r, R o k r ∧ Q k r)
    (hR : ∀ (o o' : List (Nat × Nat)) k r, (∀ j, j < k → o.getD j (0, 0) = o'.getD j (0, 0)) → R o k r → R o' k r) : ∀ m, m ≤ n → ∃ o : List (Nat × Nat), o.length = m ∧ ∀ k, k < m → R o k (o.getD k (0, 0)) ∧ Q k (o.getD k (0, 0))
  | 0, _ => ⟨[], rfl, fun k hk => absurd hk (Nat.not_lt_zero _)⟩
  | m + 1, hm => by
    obtain ⟨o, h1, h2⟩ := build hs hR m (by omega)
    obtain ⟨r, h3, h4⟩ := hs o m h1 (by omega) fun j hj => (h2 j hj).2
    have e1 : ∀ j, j < m → o.getD j (0, 0) = (o ++ [r]).getD j (0, 0) := fun j hj => by
      simp only [List.getD]
      rw [List.getElem?_append_left (by omega)]
    have e2 : (o ++ [r]).getD m (0, 0) = r := by
      simp only [List.getD]
      rw [List.getElem?_append_right (by omega), h1, Nat.sub_self]
      rfl
    refine ⟨o ++ [r], by simp [h1], fun k hk => ?_⟩
    by_cases e : k = m
    · subst e
      rw [e2]
      exact ⟨hR _ _ _ _ e1 h3, h4⟩
    · rw [← e1 k (by omega)]
      exact ⟨hR _ _ _ _ (fun j hj => e1 j (by omega)) (h2 k (by omega)).1, (h2 k (by omega)).2⟩
/-- A list, term by term. -/
theorem listF {Q : Nat → Nat × Nat → Prop} (n : Nat) (h : ∀ k, k < n → ∃ r, Q k r) : ∃ o : List (Nat × Nat), o.length = n ∧ ∀ k, k < n → Q k (o.getD k (0, 0)) := by
  obtain ⟨o, h1, h2⟩ := build (R := fun _ _ _ => True) (Q := Q) (n := n) (fun o k _ hk _ => by
    obtain ⟨r, hr⟩ := h k hk
    exact ⟨r, trivial, hr⟩) (fun _ _ _ _ _ _ => trivial) n (Nat.le_refl _)
  exact ⟨o, h1, fun k hk => (h2 k hk).2⟩
def covL (F : Nat → Sq → Rat × Rat) : Nat → List (Rat × Rat)
  | 0 => []
  | n + 1 => covL F n ++ [F n fun i => (covL F n).getD i (0, 0)]
/-- A sequence, each term out of those before it. -/
def cov (F : Nat → Sq → Rat × Rat) : Sq := fun k => (covL F (k + 1)).getD k (0, 0)
section
variable {F : Nat → Sq → Rat × Rat}
theorem covL_len : ∀ n, (covL F n).length = n
  | 0 => rfl
  | n + 1 => by rw [covL, List.length_append, covL_len n]; rfl
theorem covL_at : ∀ n i, i < n → (covL F n).getD i (0, 0) = cov F i
  | 0, i, h => absurd h (Nat.not_lt_zero _)
  | n + 1, i, h => by
    by_cases e : i = n
    · rw [e]; rfl
    · rw [covL, ← covL_at n i (by omega)]
      simp only [List.getD]
      rw [List.getElem?_append_left (by rw [covL_len]; omega)]
theorem cov_eq (hF : ∀ k (f g : Sq), (∀ i, i < k → f i = g i) → F k f = F k g) (k : Nat) : cov F k = F k (cov F) := by
  have e : cov F k = F k fun i => (covL F k).getD i (0, 0) := by
    unfold cov
    rw [covL]
    simp only [List.getD]
    rw [List.getElem?_append_right (by rw [covL_len]; omega), covL_len, Nat.sub_self]
    rfl
  rw [e]
  exact hF k _ _ fun i hi => covL_at k i hi
end
/-- The exact inverse. -/
theorem ex_inv (u : Sq) (h0 : u 0 = (1, 0)) : ∃ I : Sq, I 0 = (1, 0) ∧ (∀ k, 1 ≤ k → I k = cs (0, 0) (msum u I k 1 k)) ∧ ∀ k, cv u I k = c1 k := by
  have key := cov_eq (F := fun k f => if k = 0 then (1, 0) else cs (0, 0) (msum u f k 1 k)) (fun k f g h => by
    by_cases e : k = 0
    · simp only [e, if_true]
    · simp only [e, if_false]
      rw [msum_congr k (fun _ _ => rfl) (fun j hj => h _ (by omega))])
  generalize cov (fun k f => if k = 0 then (1, 0) else cs (0, 0) (msum u f k 1 k)) = I at key
  have h1 : I 0 = (1, 0) := by rw [key]; rfl
  have h2 : ∀ k, 1 ≤ k → I k = cs (0, 0) (msum u I k 1 k) := fun k hk => by rw [key, if_neg (by omega)]
  refine ⟨I, h1, h2, fun k => ?_⟩
  rw [cv_msum, msum_head, h0]
  by_cases e : k = 0
  · subst e
    rw [h1]
    simp only [msum, ca, cm, c1, if_pos]
    exact ceq (by grind) (by grind)
  · rw [h2 k (by omega)]
    simp only [ca, cm, cs, c1, e, if_false]
    exact ceq (by grind) (by grind)
end Go.Proofs.Ytlilhebnbhlkhaa
