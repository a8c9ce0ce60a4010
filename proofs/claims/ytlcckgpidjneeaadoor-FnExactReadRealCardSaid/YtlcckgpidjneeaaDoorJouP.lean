/-
  Plain laws (no program in sight): the journal of lines.
-/
import Derived.Test.YtlcckgpidjneeaaDoorRecP
namespace Go.Proofs.YtlcckgpidjneeaaDoor

/-- A line of a journal. -/
def jline (c : Nat) (x : List UInt8) : List UInt8 := Lib.decDigits c ++ 32 :: (x ++ [10])
/-- The check number and the journal behind the first k lines. -/
def jst (ls : List (List UInt8)) : Nat → Nat × List UInt8
  | 0 => (0, [])
  | k + 1 => (chk (jst ls k).1 (ls.getD k []), (jst ls k).2 ++ jline (chk (jst ls k).1 (ls.getD k [])) (ls.getD k []))
theorem jst_lt (ls : List (List UInt8)) : ∀ k, (jst ls k).1 < 65003
  | 0 => by simp [jst]
  | k + 1 => by
    have := jst_lt ls k
    exact chk_lt this _
/-- How long the first k lines are, at the least. -/
def jsum (ls : List (List UInt8)) : Nat → Nat
  | 0 => 0
  | k + 1 => jsum ls k + ((ls.getD k []).length + 3)
theorem dec_pos (n : Nat) : 1 ≤ (Lib.decDigits n).length := by
  rw [digits_front]; simp
theorem dec_le5 {n : Nat} (h : n < 65003) : (Lib.decDigits n).length ≤ 21 := by
  have := Lib.itoa_length_le (n : Int) (by omega) (by omega)
  rwa [itoa_nat] at this
theorem jline_len (c : Nat) (x : List UInt8) : (jline c x).length = (Lib.decDigits c).length + (x.length + 2) := by simp [jline]
theorem jsum_le (ls : List (List UInt8)) : ∀ k, jsum ls k ≤ (jst ls k).2.length
  | 0 => by simp [jsum]
  | k + 1 => by
    have h1 := jsum_le ls k
    have h2 := dec_pos (chk (jst ls k).1 (ls.getD k []))
    simp only [jsum, jst, List.length_append, jline_len]
    omega
theorem jst_up (ls : List (List UInt8)) (k : Nat) : (jst ls k).2.length + 24 ≤ 24 * (jsum ls k + 1) := by
  induction k with
  | zero => simp [jsum, jst]
  | succ k ih =>
    have h2 := dec_le5 (jst_lt ls (k + 1))
    simp only [jst] at h2
    simp only [jsum, jst, List.length_append, jline_len]
    omega
theorem jst_mono (ls : List (List UInt8)) {j k : Nat} (h : j ≤ k) : (jst ls j).2.length ≤ (jst ls k).2.length := by
  induction k with
  | zero => have : j = 0 := by omega
            subst this; exact Nat.le_refl _
  | succ k ih =>
    rcases Nat.lt_or_ge j (k + 1) with h' | h'
    · have := ih (by omega)
      simp only [jst, List.length_append]
      omega
    · have : j = k + 1 := by omega
      subst this; exact Nat.le_refl _
theorem jsum_mono (ls : List (List UInt8)) {j k : Nat} (h : j ≤ k) : jsum ls j ≤ jsum ls k := by
  induction k with
  | zero => have : j = 0 := by omega
            subst this; exact Nat.le_refl _
  | succ k ih =>
    rcases Nat.lt_or_ge j (k + 1) with h' | h'
    · have := ih (by omega)
      simp only [jsum]
      omega
    · have : j = k + 1 := by omega
      subst this; exact Nat.le_refl _
theorem jsum_at (ls : List (List UInt8)) {k : Nat} (h : k < ls.length) : (ls.getD k []).length + 3 ≤ jsum ls ls.length := by
  have := jsum_mono ls (show k + 1 ≤ ls.length by omega)
  simp only [jsum] at this
  omega
/-- Whether lines have a journal. -/
def jokB (ls : List (List UInt8)) : Bool := (ls.all fun x => decide ((10 : UInt8) ∉ x)) && decide ((jst ls ls.length).2.length ≤ 16000)
def jout (ls : List (List UInt8)) : List UInt8 := if jokB ls then (jst ls ls.length).2 else []
theorem jok_nl {ls : List (List UInt8)} {k : Nat} (hk : k < ls.length) (h : (10 : UInt8) ∈ ls.getD k []) : jokB ls = false := by
  have hm : ls.getD k [] ∈ ls := by rw [List.getD, List.getElem?_eq_getElem hk]; exact List.getElem_mem hk
  cases hb : jokB ls with
  | false => rfl
  | true =>
    simp only [jokB, Bool.and_eq_true, List.all_eq_true, decide_eq_true_eq] at hb
    exact absurd h (hb.1 _ hm)
theorem jok_long {ls : List (List UInt8)} {k : Nat} (hk : k ≤ ls.length) (h : 16000 < (jst ls k).2.length) : jokB ls = false := by
  have := jst_mono ls hk
  simp only [jokB, Bool.and_eq_false_iff, decide_eq_false_iff_not]
  right; omega
theorem jok_yes {ls : List (List UInt8)} (h : ∀ k, k < ls.length → (10 : UInt8) ∉ ls.getD k []) (h2 : (jst ls ls.length).2.length ≤ 16000) : jokB ls = true := by
  simp only [jokB, Bool.and_eq_true, List.all_eq_true, decide_eq_true_eq]
  refine ⟨fun x hx => ?_, h2⟩
  obtain ⟨k, hk⟩ := List.mem_iff_getElem?.1 hx
  have hlt := (List.getElem?_eq_some_iff.1 hk).1
  have := h k hlt
  rw [List.getD, hk] at this
  exact this
end Go.Proofs.YtlcckgpidjneeaaDoor
