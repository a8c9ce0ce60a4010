/-
  Plain laws (no program in sight): a text cut at its first mark; the longest journal at the beginning of a text.
-/
import Derived.Test.YtlcckgpidjneeaaDoorLines
import Derived.Test.YtlcckgpidjneeaaDoorChk
namespace Go.Proofs.YtlcckgpidjneeaaDoor

/-- What stands before the first mark. -/
def pre (c : UInt8) : List UInt8 → List UInt8
  | [] => []
  | b :: l => if b = c then [] else b :: pre c l
theorem pre_cons (c b : UInt8) (l : List UInt8) : pre c (b :: l) = if b = c then [] else b :: pre c l := rfl
theorem pre_free (c : UInt8) : ∀ l : List UInt8, ∀ b ∈ pre c l, b ≠ c
  | [], b, h => by simp [pre] at h
  | a :: l, b, h => by
    unfold pre at h
    split at h
    · simp at h
    · rename_i hne
      rcases List.mem_cons.1 h with rfl | h
      · exact hne
      · exact pre_free c l b h
theorem pre_none {c : UInt8} : ∀ {l : List UInt8}, c ∉ l → pre c l = l
  | [], _ => rfl
  | b :: l, h => by
    unfold pre
    rw [if_neg (fun e => h (by simp [e])), pre_none (fun hh => h (by simp [hh]))]
theorem pre_some {c : UInt8} : ∀ {l : List UInt8}, c ∈ l → l = pre c l ++ c :: l.drop ((pre c l).length + 1)
  | [], h => by simp at h
  | b :: l, h => by
    unfold pre
    by_cases hb : b = c
    · subst hb; simp
    · rw [if_neg hb]
      have h' : c ∈ l := by
        rcases List.mem_cons.1 h with e | h
        · exact absurd e.symm hb
        · exact h
      have := pre_some h'
      simp only [List.cons_append, List.length_cons, List.drop_succ_cons]
      rw [← this]
theorem pre_at {c : UInt8} {l : List UInt8} {j : Nat} (hj : j ≤ l.length) (hno : ∀ i, i < j → l[i]? ≠ some c) (he : j = l.length ∨ l[j]? = some c) : (pre c l).length = j ∧ (c ∈ l ↔ j < l.length) := by
  induction l generalizing j with
  | nil => simp at hj; subst hj; simp [pre]
  | cons b l ih =>
    cases j with
    | zero =>
      rcases he with he | he
      · simp at he
      · simp at he; subst he; simp [pre]
    | succ j =>
      have hb : b ≠ c := fun e => hno 0 (by omega) (by simp [e])
      have := ih (j := j) (by simpa using hj) (fun i hi => by simpa using hno (i + 1) (by omega)) (by
        rcases he with he | he
        · left; simpa using he
        · right; simpa using he)
      unfold pre
      rw [if_neg hb]
      refine ⟨by simp [this.1], ?_⟩
      have h2 := this.2
      simp only [List.mem_cons, List.length_cons]
      constructor
      · rintro (e | e)
        · exact absurd e.symm hb
        · have := h2.1 e; omega
      · intro e; exact .inr (h2.2 (by omega))
theorem pre_take {c : UInt8} {l : List UInt8} : pre c l = l.take (pre c l).length := by
  by_cases h : c ∈ l
  · have e := pre_some h
    have e2 : l.take (pre c l).length = (pre c l ++ c :: l.drop ((pre c l).length + 1)).take (pre c l).length := congrArg (List.take _) e
    rw [e2]; simp
  · rw [pre_none h]; simp
theorem pre_le (c : UInt8) (l : List UInt8) : (pre c l).length ≤ l.length := by
  have := congrArg List.length (pre_take (c := c) (l := l))
  rw [List.length_take] at this
  omega
theorem pre_lt {c : UInt8} {l : List UInt8} (h : c ∈ l) : (pre c l).length < l.length := by
  have := congrArg List.length (pre_some h)
  simp at this
  omega
theorem index_pre (c : UInt8) : ∀ l : List UInt8, Lib.index l [c] = if c ∈ l then ((pre c l).length : Int) else -1
  | [] => by simp [Lib.index]
  | b :: l => by
    rw [index_cons, index_pre c l, pre_cons]
    by_cases hb : b = c
    · subst hb; simp
    · rw [if_neg hb, if_neg hb]
      by_cases h : c ∈ l
      · have hm : ¬ (((pre c l).length : Int) == -1) = true := by simp
        rw [if_pos h, if_neg hm, if_pos (by simp [h])]
        simp
      · have hcb : ¬ c = b := fun e => hb e.symm
        have hn : ¬ c ∈ b :: l := by simp [h, hcb]
        rw [if_neg h, if_neg hn]
        rfl
theorem cut_pre (c : UInt8) (l : List UInt8) : Lib.cut l [c] = if c ∈ l then (pre c l, l.drop ((pre c l).length + 1), true) else (l, [], false) := by
  unfold Lib.cut
  rw [index_pre]
  by_cases h : c ∈ l
  · rw [if_pos h, if_pos h, if_pos (by omega)]
    simp only [Int.toNat_natCast, List.length_singleton]
    rw [← pre_take]
  · rw [if_neg h, if_neg h, if_neg (by omega)]
theorem lns_step (l : List UInt8) : lns l = if 10 ∈ l then pre 10 l :: lns (l.drop ((pre 10 l).length + 1)) else [] := by
  unfold lns
  by_cases h : (10 : UInt8) ∈ l
  · rw [if_pos h]
    conv => lhs; rw [pre_some h]
    rw [parts_cut (pre_free 10 l), List.dropLast_cons_of_ne_nil (parts_ne 10 _)]
  · rw [if_neg h, parts_free (fun b hb e => h (by rw [← e]; exact hb))]
    rfl

/-- A line of a journal, read behind a check number: the line that it keeps, and the check number behind it. -/
def recStep (c : Nat) (x : List UInt8) : Option (List UInt8 × Nat) :=
  if 32 ∈ x then (if pre 32 x = Lib.decDigits (chk c (x.drop ((pre 32 x).length + 1))) then some (x.drop ((pre 32 x).length + 1), chk c (x.drop ((pre 32 x).length + 1))) else none) else none
/-- The lines of the longest journal, and its length. -/
def recAll (c : Nat) : List (List UInt8) → List (List UInt8) × Nat
  | [] => ([], 0)
  | x :: xs => match recStep c x with
    | none => ([], 0)
    | some (y, c') => (y :: (recAll c' xs).1, x.length + 1 + (recAll c' xs).2)
/-- The reading under way: done are the lines so far, of length n; ls is what is left. -/
def Recing (ls0 : List (List UInt8)) (c n : Nat) (done ls : List (List UInt8)) : Prop := (recAll 0 ls0).1 = done ++ (recAll c ls).1 ∧ (recAll 0 ls0).2 = n + (recAll c ls).2
theorem Recing.start (ls : List (List UInt8)) : Recing ls 0 0 [] ls := ⟨rfl, by simp⟩
theorem Recing.next {ls0 : List (List UInt8)} {c n : Nat} {done xs : List (List UInt8)} {x y : List UInt8} {c' : Nat} (h : Recing ls0 c n done (x :: xs)) (hs : recStep c x = some (y, c')) : Recing ls0 c' (n + (x.length + 1)) (done ++ [y]) xs := by
  obtain ⟨h1, h2⟩ := h
  rw [recAll, hs] at h1 h2
  exact ⟨by rw [h1]; simp, by rw [h2]; simp only; omega⟩
theorem Recing.stop {ls0 : List (List UInt8)} {c n : Nat} {done ls : List (List UInt8)} (h : Recing ls0 c n done ls) (hs : ls = [] ∨ ∃ x xs, ls = x :: xs ∧ recStep c x = none) : done = (recAll 0 ls0).1 ∧ n = (recAll 0 ls0).2 := by
  obtain ⟨h1, h2⟩ := h
  rcases hs with rfl | ⟨x, xs, rfl, hs⟩
  · simp only [recAll, List.append_nil, Nat.add_zero] at h1 h2
    exact ⟨h1.symm, h2.symm⟩
  · rw [recAll, hs] at h1 h2
    simp only [List.append_nil, Nat.add_zero] at h1 h2
    exact ⟨h1.symm, h2.symm⟩
theorem recAll_le (c : Nat) : ∀ ls : List (List UInt8), (recAll c ls).1.length ≤ ls.length
  | [] => Nat.le_refl _
  | x :: xs => by
    unfold recAll
    split
    · simp
    · rename_i y c' _
      have := recAll_le c' xs
      simp; omega
theorem recStep_none1 {c : Nat} {x : List UInt8} (h : (32 : UInt8) ∉ x) : recStep c x = none := by rw [recStep, if_neg h]
theorem recStep_none2 {c : Nat} {x : List UInt8} (h : (32 : UInt8) ∈ x) (h2 : ¬ pre 32 x = Lib.decDigits (chk c (x.drop ((pre 32 x).length + 1)))) : recStep c x = none := by rw [recStep, if_pos h, if_neg h2]
theorem recStep_some {c : Nat} {x : List UInt8} (h : (32 : UInt8) ∈ x) (h2 : pre 32 x = Lib.decDigits (chk c (x.drop ((pre 32 x).length + 1)))) : recStep c x = some (x.drop ((pre 32 x).length + 1), chk c (x.drop ((pre 32 x).length + 1))) := by rw [recStep, if_pos h, if_pos h2]
end Go.Proofs.YtlcckgpidjneeaaDoor
