/-
  Plain laws (no program in sight): by the rule that is found the list is made again; a list that a rule made has none that is longer.
-/
import Derived.Test.YtciakaecdllfcaaBm
namespace Go.Proofs.Ytciakaecdllfcaa

theorem ruleOf_len (p : Int) (s : List Int) : (ruleOf p s).length = (run p s s.length).l := by simp [ruleOf, outTo]
theorem ruleOf_le {p : Int} {s : List Int} (hP : isP p = true) : (ruleOf p s).length ≤ s.length := by
  rw [ruleOf_len]; exact (ok_run (isP_one hP).1 _).l
theorem ruleOf_over {p : Int} {s : List Int} (hp : 0 < p) : overB p (ruleOf p s) = true := by
  unfold overB
  rw [List.all_eq_true]
  intro x hx
  simp only [ruleOf, outTo, List.mem_map] at hx
  obtain ⟨i, _, rfl⟩ := hx
  have := md_range (p := p) (x := -((run p s s.length).c.getD (i + 1) 0)) hp
  simp only [Bool.and_eq_true, decide_eq_true_eq]; omega
theorem getD_take {s : List Int} {k j : Nat} (h : j < k) : (s.take k).getD j 0 = s.getD j 0 := by
  simp [List.getD, h]

theorem dotTo_sum (rule out : List Int) : ∀ n, dotTo rule out n = sumTo (fun i => rule.getD i 0 * out.getD (out.length - 1 - i) 0) n
  | 0 => rfl
  | n + 1 => by rw [dotTo, dotTo_sum rule out n, sumTo]

theorem outTo_getD {p : Int} {c : List Int} {n i : Nat} (h : i < n) : (outTo p c n).getD i 0 = md p (-(c.getD (i + 1) 0)) := by
  simp [outTo, List.getD, h]

/-- THE LIST IS MADE AGAIN. -/
theorem remade {p : Int} {s : List Int} (hP : isP p = true) (hs : overB p s = true) : ∀ k, k ≤ s.length → ext p (ruleOf p s) (s.take (ruleOf p s).length) k = s.take k
  | 0, _ => rfl
  | k + 1, hk => by
    have hp : 0 < p := by have := isP_one hP; omega
    have ih := remade hP hs k (by omega)
    have hle := ruleOf_le (s := s) hP
    have hl : (s.take (ruleOf p s).length).length = (ruleOf p s).length := by rw [List.length_take]; omega
    have hsk : s.take (k + 1) = s.take k ++ [s.getD k 0] := by
      rw [List.take_add_one, List.getElem?_eq_getElem (by omega)]
      simp [List.getD, List.getElem?_eq_getElem (show k < s.length by omega)]
    rcases Nat.lt_or_ge k (ruleOf p s).length with h | h
    · rw [ext_first _ _ _ _ (by omega), List.take_take]
      congr 1; omega
    · rw [ext_next (by omega), ih, hsk]
      congr 2
      have hi := inv_run (s := s) hP s.length
      have hg := hi.gen k (by rw [ruleOf_len] at h; exact h) (by omega)
      have hsk0 := overB_at hs (show k < s.length by omega)
      have e : md p (dotTo (ruleOf p s) (s.take k) (ruleOf p s).length) = md p (s.getD k 0) := by
        rw [md_emod hp, md_emod hp]
        refine Int.emod_eq_emod_iff_emod_sub_eq_zero.2 (Int.emod_eq_zero_of_dvd ?_)
        rw [dotTo_sum, List.length_take, Nat.min_eq_left (by omega)]
        have e1 : tt (at0 (run p s s.length).c) (at0 s) (run p s s.length).l k = s.getD k 0 + sumTo (fun i => at0 (run p s s.length).c (i + 1) * at0 s (k - (i + 1))) (run p s s.length).l := by
          rw [tt, sumTo_head, hi.one, Int.one_mul]; rfl
        rw [e1] at hg
        have e2 : p ∣ sumTo (fun i => (ruleOf p s).getD i 0 * (s.take k).getD (k - 1 - i) 0) (ruleOf p s).length + sumTo (fun i => at0 (run p s s.length).c (i + 1) * at0 s (k - (i + 1))) (run p s s.length).l := by
          rw [ruleOf_len, ← sumTo_add]
          refine sumTo_dvd _ fun i hi => ?_
          rw [getD_take (by rw [ruleOf_len] at h; omega), ruleOf, outTo_getD hi, show k - 1 - i = k - (i + 1) from by omega, ← Int.add_mul]
          refine Int.dvd_mul_of_dvd_left ?_
          have := md_dvd hp (-((run p s s.length).c.getD (i + 1) 0))
          have := (Int.dvd_neg (a := p)).2 this
          rwa [show -(-(run p s s.length).c.getD (i + 1) 0 - md p (-(run p s s.length).c.getD (i + 1) 0)) = md p (-(run p s s.length).c.getD (i + 1) 0) + at0 (run p s s.length).c (i + 1) from by
            show _ = _ + (run p s s.length).c.getD (i + 1) 0
            omega] at this
        have := Int.dvd_sub e2 hg
        rwa [show ∀ a b c : Int, a + b - (c + b) = a - c from fun a b c => by omega] at this
      rw [e, md_id hp hsk0]

theorem remade_all {p : Int} {s : List Int} {n : Nat} (hP : isP p = true) (hs : overB p s = true) (hn : s.length = n) : ext p (ruleOf p s) (s.take (ruleOf p s).length) n = s := by
  rw [remade hP hs n (by omega), List.take_of_length_le (by omega)]

/-- NO LONGER THAN THE RULE THAT MADE THE LIST. -/
theorem least {p : Int} {rule first : List Int} {n : Nat} (hP : isP p = true) (hl : rule.length = first.length) : (ruleOf p (ext p rule first n)).length ≤ rule.length := by
  have hp : 0 < p := by have := isP_one hP; omega
  rw [ruleOf_len]
  refine run_least (d := fun i => match i with | 0 => 1 | i + 1 => -(rule.getD i 0)) hP rfl _ fun j hj hjn => ?_
  rw [ext_len] at hjn
  rw [tt, sumTo_head]
  simp only [Int.one_mul, Nat.sub_zero]
  have e0 : ∀ i, i ≤ j → at0 (ext p rule first n) i = at0 (ext p rule first (j + 1)) i := fun i hi => by
    show List.getD _ _ _ = List.getD _ _ _
    rw [← ext_take p rule first (j + 1) n (by omega), getD_take (by omega)]
  have e1 : at0 (ext p rule first (j + 1)) j = md p (dotTo rule (ext p rule first j) rule.length) := by
    show List.getD _ _ _ = _
    rw [ext_next (by omega)]
    simp [List.getD, ext_len]
  have e2 : dotTo rule (ext p rule first j) rule.length = sumTo (fun i => rule.getD i 0 * at0 (ext p rule first n) (j - (i + 1))) rule.length := by
    rw [dotTo_sum]
    refine sumTo_congr _ fun i hi => ?_
    rw [ext_len, ← ext_take p rule first j n (by omega), getD_take (by omega), show j - 1 - i = j - (i + 1) from by omega]
  have e3 : sumTo (fun i => -(rule.getD i 0) * at0 (ext p rule first n) (j - (i + 1))) rule.length = -(dotTo rule (ext p rule first j) rule.length) := by
    rw [e2]
    have := sumTo_mul (-1) (fun i => rule.getD i 0 * at0 (ext p rule first n) (j - (i + 1))) rule.length
    rw [show ∀ x : Int, -1 * x = -x from fun x => by omega] at this
    rw [← this]
    refine sumTo_congr _ fun i _ => ?_
    rw [Int.neg_mul]; omega
  show p ∣ at0 (ext p rule first n) j + sumTo (fun i => -(rule.getD i 0) * at0 (ext p rule first n) (j - (i + 1))) rule.length
  rw [e3, e0 j (Nat.le_refl _), e1]
  have := (Int.dvd_neg (a := p)).2 (md_dvd hp (dotTo rule (ext p rule first j) rule.length))
  rwa [show ∀ a b : Int, -(a - b) = b + -a from fun a b => by omega] at this
end Go.Proofs.Ytciakaecdllfcaa
