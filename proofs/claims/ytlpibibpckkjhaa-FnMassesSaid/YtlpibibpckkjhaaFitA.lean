/-
  Plain laws: what a fit answers, as a list of terms or none; the reference's fit gives it.
-/
import Derived.Test.YtlpibibpckkjhaaFitI
namespace Go.Proofs.Ytlpibibpckkjhaa
open Go.RowKit

/-- The solution as words; what is no number: one word for all of them. -/
def solL (o : Nat → Option Nat) (n : Nat) : List Nat := (List.range n).map fun i => (o i).getD 2143289344
@[simp] theorem solL_len (o : Nat → Option Nat) (n : Nat) : (solL o n).length = n := by simp [solL]
theorem solL_at {o : Nat → Option Nat} {n i : Nat} (h : i < n) : (solL o n).getD i 0 = (o i).getD 2143289344 := by simp [solL, List.getD, h]
theorem cn_bad : cn 2143289344 = none := by decide +kernel
/-- The trimmed terms of a list. -/
def termsL (l : List Nat) (n : Nat) : List (Nat × Nat) := (reC l).take (trimN (reC l) n)
theorem reC_at {l : List Nat} {i : Nat} (h : i < l.length) : (reC l).getD i (0, 0) = (l.getD i 0, 0) := by
  simp [reC, List.getD, List.getElem?_eq_getElem h]
theorem cn_none_order {x : Nat} (h : cn x = none) (y : Nat) : FloatKind.f32.format.order x y = none := by
  rw [cn_order, h]; rfl
theorem cn_none_fin {x : Nat} (h : cn x = none) : fin32B x = false := by
  cases e : fin32B x with
  | false => rfl
  | true =>
    obtain ⟨s, m, i, hr, -⟩ := fin_number e
    unfold cn at h
    rw [hr] at h
    cases h
theorem trimN_bad (l : List Nat) (i : Nat) (hi : i < l.length) (h : cn (l.getD i 0) = none) : ∀ m, i < m → i + 1 ≤ trimN (reC l) m
  | 0, hm => absurd hm (Nat.not_lt_zero _)
  | m + 1, hm => by
    rw [trimN]
    by_cases e : i = m
    · subst e
      have hz : zeroC ((reC l).getD i (0, 0)) = false := by
        rw [reC_at hi]
        unfold zeroC
        rw [cn_none_order h]
        rfl
      rw [hz, Bool.and_false, if_neg (by simp)]
      exact Nat.le_refl _
    · split
      · exact trimN_bad l i hi h m (by omega)
      · omega
theorem polyB_bad (l : List Nat) (i : Nat) (hi : i < l.length) (h : cn (l.getD i 0) = none) : polyB (termsL l l.length) = false := by
  have ht := trimN_bad l i hi h l.length hi
  have hn : (termsL l l.length).all finCB = false := by
    cases e : (termsL l l.length).all finCB with
    | false => rfl
    | true =>
      have hm : ((l.getD i 0, 0) : Nat × Nat) ∈ termsL l l.length := by
        unfold termsL
        rw [← reC_at hi]
        have hlt : i < ((reC l).take (trimN (reC l) l.length)).length := by
          rw [List.length_take, reC_len]
          have := trimN_le (reC l) l.length
          omega
        have e2 : (reC l).getD i (0, 0) = ((reC l).take (trimN (reC l) l.length))[i] := by
          rw [List.getElem_take, List.getD, List.getElem?_eq_getElem (by rw [reC_len]; exact hi)]
          rfl
        rw [e2]
        exact List.getElem_mem _
      have := List.all_eq_true.1 e _ hm
      unfold finCB at this
      simp only [cn_none_fin h] at this
      cases this
  unfold polyB
  rw [hn]
  simp
/-- A list of words with these numbers gives the terms of the solution. -/
theorem terms_same {l : List Nat} {o : Nat → Option Nat} {n : Nat} (hl : l.length = n) (h : ∀ i, i < n → cn (l.getD i 0) = o i) : polyB (termsL l n) = polyB (termsL (solL o n) n) ∧ (polyB (termsL l n) = true → termsL l n = termsL (solL o n) n) := by
  by_cases hall : ∀ i, i < n → ∃ v, o i = some v
  · have : l = solL o n := by
      refine List.ext_getElem (by simp [hl]) fun i h1 h2 => ?_
      obtain ⟨v, hv⟩ := hall i (by omega)
      have h3 := h i (by omega)
      rw [hv] at h3
      have h4 := cn_some h3
      have h5 : (solL o n).getD i 0 = v := by rw [solL_at (by omega), hv]; rfl
      rw [List.getD, List.getElem?_eq_getElem h1] at h4
      rw [List.getD, List.getElem?_eq_getElem h2] at h5
      exact h4.symm.trans h5.symm
    rw [this]
    exact ⟨rfl, fun _ => rfl⟩
  · obtain ⟨i, hi⟩ := Classical.not_forall.1 hall
    have hin : i < n := Classical.byContradiction fun h2 => hi fun h3 => absurd h3 h2
    have hnone : o i = none := by
      cases e : o i with
      | none => rfl
      | some v => exact absurd (fun _ => ⟨v, e⟩) hi
    have h1 : polyB (termsL l n) = false := by
      subst hl
      exact polyB_bad l i hin ((h i hin).trans hnone)
    have h2 : polyB (termsL (solL o n) n) = false := by
      have h3 := polyB_bad (solL o n) i (by simpa using hin) (by rw [solL_at hin, hnone]; exact cn_bad)
      rwa [solL_len] at h3
    rw [h1, h2]
    exact ⟨rfl, fun h => by cases h⟩
instance (xs ys ws : List Nat) (d : Int) : Decidable (fitPre xs ys ws d) := by unfold fitPre; infer_instance
/-- What a fit answers. -/
def fitAns (xs ys ws : List Nat) (d : Int) : Option (List (Nat × Nat)) :=
  match decide (fitPre xs ys ws d ∧ ws.all leastB = true), gaussO (d.toNat + 1) (fitM xs ys ws (d.toNat + 1)) (d.toNat + 1) with
  | true, some B => if polyB (termsL (solL (solO B (d.toNat + 1) (d.toNat + 1)) (d.toNat + 1)) (d.toNat + 1)) then some (termsL (solL (solO B (d.toNat + 1) (d.toNat + 1)) (d.toNat + 1)) (d.toNat + 1)) else none
  | _, _ => none
/-- A call that answers so. -/
def GivesF (ans : Option (List (Nat × Nat))) (w : World) (e : Ending) (w' : World) : Prop :=
  Below w.heap.size w w' ∧ match ans with
    | none => e = .returned (.tuple #[.agg #[.slice none 0 0], .bool false])
    | some l => ∃ g c, e = .returned (.tuple #[.agg #[.slice (some ⟨g, 0, none⟩) l.length c], .bool true]) ∧ Own w' w.heap.size w'.heap.size 36 (some ⟨g, 0, none⟩) (cplx l)
theorem terms_len (l : List Nat) (n : Nat) (hl : l.length = n) : (termsL l n).length = trimN (reC l) n := by
  unfold termsL
  rw [List.length_take, reC_len, hl]
  exact Nat.min_eq_left (trimN_le _ _)
theorem givesF_of {xs ys ws : List Nat} {dn : Nat} {w w' : World} {e : Ending} (h : fitPre xs ys ws (dn : Int)) (hw : ws.all leastB = true)
    (hF : FitP w.heap.size (dn + 1) (gaussO (dn + 1) (fitM xs ys ws (dn + 1)) (dn + 1)) e w') (hb : Below w.heap.size w w') : GivesF (fitAns xs ys ws (dn : Int)) w e w' := by
  refine ⟨hb, ?_⟩
  unfold fitAns
  rw [decide_eq_true (p := fitPre xs ys ws (dn : Int) ∧ ws.all leastB = true) ⟨h, hw⟩, Int.toNat_natCast]
  rcases hF with ⟨hG, he⟩ | ⟨B, hG, l, hl, hcn, hP⟩
  · rw [hG]; exact he
  · rw [hG]
    simp only
    obtain ⟨t1, t2⟩ := terms_same hl hcn
    have hlen := terms_len l (dn + 1) hl
    rcases hP with ⟨hb1, g, c, he, hc, hO⟩ | ⟨hb1, he⟩
    · have hb2 : polyB (termsL l (dn + 1)) = true := hb1
      have e2 := t2 hb2
      rw [if_pos (t1.symm.trans hb2), ← e2]
      exact ⟨g, c, by rw [hlen]; exact he, hO⟩
    · have hb2 : polyB (termsL l (dn + 1)) = false := hb1
      rw [if_neg (by rw [← t1, hb2]; simp)]
      exact he
theorem givesF_no {xs ys ws : List Nat} {d : Int} {w w' : World} {e : Ending} (h : ¬ (fitPre xs ys ws d ∧ ws.all leastB = true)) (he : e = .returned (.tuple #[.agg #[.slice none 0 0], .bool false])) (hb : Below w.heap.size w w') : GivesF (fitAns xs ys ws d) w e w' := by
  refine ⟨hb, ?_⟩
  unfold fitAns
  rw [decide_eq_false h]
  exact he
theorem ans_ok {xs ys ws : List Nat} {d : Int} {l : List (Nat × Nat)} (h : fitAns xs ys ws d = some l) : 1 ≤ l.length ∧ l.length ≤ 17 ∧ Wids l := by
  have key : polyB l = true := by
    unfold fitAns at h
    split at h
    · split at h
      · rename_i hp
        cases h
        exact hp
      · cases h
    · cases h
  unfold polyB at key
  simp only [Bool.and_eq_true, decide_eq_true_eq] at key
  obtain ⟨⟨⟨k1, k2⟩, k3⟩, -⟩ := key
  refine ⟨k1, k2, fun i hi => ?_⟩
  have hm := List.all_eq_true.1 k3 (l.getD i (0, 0)) (by rw [List.getD, List.getElem?_eq_getElem hi]; exact List.getElem_mem _)
  unfold finCB at hm
  simp only [Bool.and_eq_true] at hm
  exact ⟨fin_wide hm.1, fin_wide hm.2⟩
end Go.Proofs.Ytlpibibpckkjhaa
