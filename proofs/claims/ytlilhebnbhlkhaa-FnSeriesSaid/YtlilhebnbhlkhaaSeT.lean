/-
  Series of series near exact ones; the series that turns a series back.
-/
import Derived.Test.YtlilhebnbhlkhaaSeZ
import Derived.Test.YtlilhebnbhlkhaaSeH
namespace Go.Proofs.Ytlilhebnbhlkhaa
open Go.RowKit

/-- A series of a series, from the top down. -/
def comS (u T : Sq) (n : Nat) : Nat → Sq
  | 0 => fun k => if k = 0 then u (n - 1) else (0, 0)
  | j + 1 => fun k => if k = 0 then ca (cv (comS u T n j) T 0) (u (n - 2 - j)) else cv (comS u T n j) T k
def comOk (A B : Bd2) (n : Nat) (C : Nat → Bd2) : Bool := (leB (A (n - 1)) (C 0 0) && allN n fun k => decide (k = 0) || leB (0, 0) (C 0 k)) &&
  allN (n - 1) fun j => allN n fun k => okmix (C j) B k 0 (k + 1) && if k = 0 then okB ((bmix (C j) B 0 0 1).1 + (A (n - 2 - j)).1 + ((bmix (C j) B 0 0 1).2 + (A (n - 2 - j)).2)) && leB (bp (bmix (C j) B 0 0 1) (A (n - 2 - j))) (C (j + 1) 0) else leB (bmix (C j) B k 0 (k + 1)) (C (j + 1) k)
section
variable {u T : Sq} {A B : Bd2} {C : Nat → Bd2} {a t : List (Nat × Nat)} {n : Nat}
theorem com_near (ha : Near u A n a) (ht : Near T B n t) (hn1 : 1 ≤ n) (hb : comOk A B n C = true) : ∀ j, j ≤ n - 1 → ∃ o, ComR a t n j o ∧ Near (comS u T n j) (C j) n o
  | 0, _ => by
    unfold comOk at hb
    rw [Bool.and_eq_true, Bool.and_eq_true] at hb
    refine ⟨_, rfl, by simp, fun k hk => ?_⟩
    rw [getD_set _ _ _ _ _ (by simp; omega)]
    unfold comS
    by_cases e : k = 0
    · subst e
      rw [if_pos rfl, if_pos rfl]
      exact (ha.ap (n - 1) (by omega)).le hb.1.1
    · have h := allN_at hb.1.2 hk
      rw [Bool.or_eq_true, decide_eq_true_eq] at h
      rw [if_neg e, if_neg e, zeros_at k hk]
      rcases h with h | h
      · exact absurd h e
      · exact Ap.zero.le h
  | j + 1, hj => by
    obtain ⟨s, h1, h2⟩ := com_near ha ht hn1 hb j (by omega)
    unfold comOk at hb
    rw [Bool.and_eq_true, Bool.and_eq_true] at hb
    have hbj := allN_at hb.2 (show j < n - 1 by omega)
    obtain ⟨m, e1, e2⟩ := listF (Q := fun k r => mixN s t k 0 (k + 1) = some r ∧ Ap (cv (comS u T n j) T k) (bmix (C j) B k 0 (k + 1)) r) n fun k hk => by
      have h := allN_at hbj hk
      rw [Bool.and_eq_true] at h
      obtain ⟨r, g, q⟩ := mixN_ap (u := comS u T n j) (v := T) (a := s) (b := t) (k := k) (f := 0) (k + 1) (fun i hi => h2.ap _ (by omega)) (fun i hi => ht.ap _ (by omega)) h.1
      rw [← cv_msum] at q
      exact ⟨r, g, q⟩
    have h0 := allN_at hbj (show 0 < n by omega)
    rw [Bool.and_eq_true, if_pos rfl, Bool.and_eq_true] at h0
    obtain ⟨r, g, q⟩ := Ap.add (e2 0 (by omega)).2 (ha.ap (n - 2 - j) (by omega)) h0.2.1
    refine ⟨m.set 0 r, ⟨s, m, r, h1, ⟨by rw [e1, h2.len], fun k hk => (e2 k (by omega)).1⟩, g, rfl⟩, by rw [List.length_set, e1], fun k hk => ?_⟩
    rw [getD_set _ _ _ _ _ (by omega)]
    unfold comS
    by_cases e : k = 0
    · subst e
      rw [if_pos rfl, if_pos rfl]
      exact q.le h0.2.2
    · rw [if_neg e, if_neg e]
      have h := allN_at hbj hk
      rw [Bool.and_eq_true, if_neg e] at h
      exact (e2 k hk).2.le h.2
end
section
variable {u T T' : Sq} {n k : Nat}
theorem cm_z' (x : Rat × Rat) : cm x (0, 0) = (0, 0) := by rw [cm_comm, cm_z]
theorem ca_z' (x : Rat × Rat) : ca x (0, 0) = x := ceq (by simp only [ca]; grind) (by simp only [ca]; grind)
theorem comS_zero (h0 : T 0 = (0, 0)) : ∀ j, j + 1 ≤ n → comS u T n j 0 = u (n - 1 - j)
  | 0, _ => by unfold comS; rw [if_pos rfl]; rfl
  | j + 1, h => by
    unfold comS
    rw [if_pos rfl, cv, h0, cm_z', ca_z, show n - 2 - j = n - 1 - (j + 1) by omega]
theorem comS_low (h : ∀ i, i < k → T i = T' i) : ∀ j i, i < k → comS u T n j i = comS u T' n j i
  | 0, _, _ => rfl
  | j + 1, i, hi => by
    have ih := comS_low h j
    unfold comS
    rw [cv_congr i (comS u T n j) T (comS u T' n j) T' (fun l hl => ih l (by omega)) (fun l hl => h l (by omega)), cv_congr 0 (comS u T n j) T (comS u T' n j) T' (fun l hl => ih l (by omega)) (fun l hl => h l (by omega))]
/-- The term of a series of a series in which the inner series' term stands for the first time. -/
theorem comS_new (hk : 1 ≤ k) (h0 : T 0 = (0, 0)) (h0' : T' 0 = (0, 0)) (hk' : T' k = (0, 0)) (h : ∀ i, i < k → T i = T' i) (j : Nat) (hj : j + 1 ≤ n) : comS u T n (j + 1) k = ca (comS u T' n (j + 1) k) (cm (u (n - 1 - j)) (T k)) := by
  have e1 : comS u T n (j + 1) k = cv (comS u T n j) T k := by
    show (if k = 0 then _ else _) = _
    rw [if_neg (by omega)]
  have e2 : comS u T' n (j + 1) k = cv (comS u T' n j) T' k := by
    show (if k = 0 then _ else _) = _
    rw [if_neg (by omega)]
  have lo := comS_low (u := u) (n := n) h j
  obtain ⟨m, rfl⟩ : ∃ m, k = m + 1 := ⟨k - 1, by omega⟩
  have e3 : msum (comS u T n j) T (m + 1) 1 m = msum (comS u T' n j) T' (m + 1) 1 m := msum_congr m (fun i hi => lo _ (by omega)) (fun i hi => h _ (by omega))
  rw [e1, e2, cv_msum, cv_msum, msum_head, msum_head, msum, msum, e3, hk', cm_z', show m + 1 - (1 + m) = 0 by omega, h0, h0', cm_z', cm_z', ca_z', ca_z, comS_zero h0 j hj]
  simp only [ca]
  exact ceq (by grind) (by grind)
end
end Go.Proofs.Ytlilhebnbhlkhaa
