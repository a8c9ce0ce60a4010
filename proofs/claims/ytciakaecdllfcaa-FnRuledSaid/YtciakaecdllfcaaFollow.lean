/-
  Plain laws (no program in sight): remainders, the list that a rule makes (FollowRule), as the reference and as the program make it.
-/
import Derived.Lib.Hide
namespace Go.Proofs.Ytciakaecdllfcaa

/-- Go's remainder from 0 on. -/
def md (p x : Int) : Int := (x.tmod p + p).tmod p
theorem md_emod {p x : Int} (hp : 0 < p) : md p x = x % p := by
  unfold md
  have h1 : x.tmod p = x % p ∨ x.tmod p = x % p - p := by
    rcases Int.lt_or_le x 0 with h | h
    · have e := Int.tmod_eq_emod (a := x) (b := p)
      split at e
      · left; omega
      · right; have : (p.natAbs : Int) = p := by omega
        omega
    · left; exact Int.tmod_eq_emod_of_nonneg h
  have h2 := Int.emod_nonneg x (show p ≠ 0 by omega)
  have h3 := Int.emod_lt_of_pos x hp
  rcases h1 with h | h
  · rw [h, Int.tmod_eq_emod_of_nonneg (by omega)]
    rw [Int.add_emod_right]
    exact Int.emod_emod_of_dvd _ (Int.dvd_refl _)
  · rw [h, show x % p - p + p = x % p from by omega, Int.tmod_eq_emod_of_nonneg h2]
    exact Int.emod_emod_of_dvd _ (Int.dvd_refl _)
theorem md_range {p x : Int} (hp : 0 < p) : 0 ≤ md p x ∧ md p x < p := by
  rw [md_emod hp]; exact ⟨Int.emod_nonneg x (by omega), Int.emod_lt_of_pos x hp⟩

/-- The sum of the products of the first i numbers of a rule with the numbers before the end of a list, from the last one on. -/
def dotTo (rule out : List Int) : Nat → Int
  | 0 => 0
  | i + 1 => dotTo rule out i + rule.getD i 0 * out.getD (out.length - 1 - i) 0

/-- The first k numbers that a rule makes of first ones. -/
def ext (p : Int) (rule first : List Int) : Nat → List Int
  | 0 => []
  | k + 1 => if k < first.length then ext p rule first k ++ [first.getD k 0] else ext p rule first k ++ [md p (dotTo rule (ext p rule first k) rule.length)]

theorem ext_len (p : Int) (rule first : List Int) : ∀ k, (ext p rule first k).length = k
  | 0 => rfl
  | k + 1 => by unfold ext; split <;> simp [ext_len p rule first k]
theorem ext_first (p : Int) (rule first : List Int) : ∀ k, k ≤ first.length → ext p rule first k = first.take k
  | 0, _ => rfl
  | k + 1, h => by
    have hk : k < first.length := by omega
    unfold ext
    rw [if_pos hk, ext_first p rule first k (by omega), List.take_add_one, List.getElem?_eq_getElem hk]
    simp [List.getD, List.getElem?_eq_getElem hk]
theorem ext_next {p : Int} {rule first : List Int} {k : Nat} (h : first.length ≤ k) : ext p rule first (k + 1) = ext p rule first k ++ [md p (dotTo rule (ext p rule first k) rule.length)] := by
  rw [ext, if_neg (by omega)]
theorem ext_take (p : Int) (rule first : List Int) (j : Nat) : ∀ k, j ≤ k → (ext p rule first k).take j = ext p rule first j
  | 0, h => by have : j = 0 := by omega
               subst this; rfl
  | k + 1, h => by
    rcases Nat.lt_or_ge k j with hk | hk
    · have : j = k + 1 := by omega
      subst this; rw [List.take_of_length_le (by rw [ext_len]; omega)]
    · have e : (ext p rule first (k + 1)).take j = (ext p rule first k).take j := by
        rw [ext]
        split <;> rw [List.take_append_of_le_length (by rw [ext_len]; omega)]
      rw [e, ext_take p rule first j k hk]
/-- Numbers from 0 to p - 1. -/
def overB (p : Int) (l : List Int) : Bool := l.all fun x => decide (0 ≤ x) && decide (x ≤ p - 1)
theorem overB_at {p : Int} {l : List Int} (h : overB p l = true) {i : Nat} (hi : i < l.length) : 0 ≤ l.getD i 0 ∧ l.getD i 0 ≤ p - 1 := by
  have := List.all_eq_true.1 h l[i] (List.getElem_mem hi)
  simp only [Bool.and_eq_true, decide_eq_true_eq] at this
  simp [List.getD, List.getElem?_eq_getElem hi, this]
theorem overB_getD {p : Int} {l : List Int} (hp : 0 < p) (h : overB p l = true) (i : Nat) : 0 ≤ l.getD i 0 ∧ l.getD i 0 ≤ p - 1 := by
  rcases Nat.lt_or_ge i l.length with hi | hi
  · exact overB_at h hi
  · simp [List.getD, List.getElem?_eq_none hi]; omega
theorem overB_ext {p : Int} {rule first : List Int} (hp : 0 < p) (h : overB p first = true) : ∀ k, overB p (ext p rule first k) = true
  | 0 => rfl
  | k + 1 => by
    have ih := overB_ext (rule := rule) hp h k
    have hm := md_range (p := p) (x := dotTo rule (ext p rule first k) rule.length) hp
    unfold overB at ih ⊢
    unfold ext
    split
    · rename_i hk
      have := overB_at h hk
      rw [List.all_append, ih]
      simp only [List.all_cons, List.all_nil, Bool.and_true, Bool.true_and, Bool.and_eq_true, decide_eq_true_eq]
      exact this
    · rw [List.all_append, ih]
      simp only [List.all_cons, List.all_nil, Bool.and_true, Bool.true_and, Bool.and_eq_true, decide_eq_true_eq]
      omega
theorem mul_bd {a b : Int} {n m : Nat} (ha : 0 ≤ a ∧ a ≤ n) (hb : 0 ≤ b ∧ b ≤ m) : 0 ≤ a * b ∧ a * b ≤ n * m := by
  constructor
  · exact Int.mul_nonneg ha.1 hb.1
  · exact Int.mul_le_mul ha.2 hb.2 hb.1 (by omega)
theorem dotTo_bd {p : Int} {rule out : List Int} (hp : 0 < p) (hp13 : p ≤ 13) (hr : overB p rule = true) (ho : overB p out = true) : ∀ i, 0 ≤ dotTo rule out i ∧ dotTo rule out i ≤ 144 * i
  | 0 => by simp [dotTo]
  | i + 1 => by
    have ih := dotTo_bd hp hp13 hr ho i
    have h1 := overB_getD hp hr i
    have h2 := overB_getD hp ho (out.length - 1 - i)
    have h3 := mul_bd (n := 12) (m := 12) ⟨h1.1, by omega⟩ ⟨h2.1, by omega⟩
    simp only [dotTo]
    omega
end Go.Proofs.Ytciakaecdllfcaa
