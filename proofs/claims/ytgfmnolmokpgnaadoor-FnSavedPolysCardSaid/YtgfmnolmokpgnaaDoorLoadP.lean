/-
  Plain laws: what a loader has read. No program in sight.
-/
import Derived.Test.YtgfmnolmokpgnaaDoorTakeI
import Derived.Test.YtgfmnolmokpgnaaDoorBegS
namespace Go.Proofs.YtgfmnolmokpgnaaDoor
open Go.RowKit

/-- A loader of l has come to a, or there were too few bytes. -/
def St (l : List UInt8) (a : Nat) (r : List UInt8) (b : Bool) : Prop := (b = false ∧ r = l.drop a ∧ a ≤ l.length) ∨ (b = true ∧ longB l = false)
theorem St.start (l : List UInt8) : St l 0 l false := .inl ⟨rfl, rfl, Nat.zero_le _⟩
theorem tkB_no {r : List UInt8} {m : Nat} {b : Bool} (h : tkB r m b = false) : b = false ∧ m ≤ r.length := by
  unfold tkB at h
  split at h
  · cases h
  · exact ⟨h, by omega⟩
theorem St.take {l r : List UInt8} {a m : Nat} {b : Bool} (h : St l a r b) (hx : b = false → l.length < a + m → longB l = false) : St l (a + m) (tkR r m) (tkB r m b) := by
  rcases h with ⟨rfl, rfl, ha⟩ | ⟨rfl, hl⟩
  · unfold tkR tkB
    rw [List.length_drop]
    by_cases hm : l.length - a < m
    · rw [if_pos hm, if_pos hm]
      exact .inr ⟨rfl, hx rfl (by omega)⟩
    · rw [if_neg hm, if_neg hm]
      exact .inl ⟨rfl, by rw [List.drop_drop], by omega⟩
  · refine .inr ⟨?_, hl⟩
    unfold tkB
    split <;> rfl
theorem St.val {l r : List UInt8} {a m : Nat} {b : Bool} (h : St l a r b) (hb : tkB r m b = false) : tkV r m = (l.drop a).take m := by
  obtain ⟨h1, h2⟩ := tkB_no hb
  rcases h with ⟨_, rfl, _⟩ | ⟨rfl, _⟩
  · unfold tkV
    rw [if_neg (by omega)]
  · cases h1
theorem St.at_ {l r : List UInt8} {a : Nat} (h : St l a r false) : a ≤ l.length := by
  rcases h with ⟨_, _, h⟩ | ⟨h, _⟩
  · exact h
  · cases h
theorem St.bad {l r : List UInt8} {a : Nat} (h : St l a r true) : longB l = false := by
  rcases h with ⟨h, _⟩ | ⟨_, h⟩
  · cases h
  · exact h
theorem St.pos {l r : List UInt8} {a a' : Nat} {b : Bool} (h : St l a r b) (e : b = false → a = a') : St l a' r b := by
  cases b with
  | false => rw [← e rfl]; exact h
  | true => exact .inr ⟨rfl, h.bad⟩
theorem take_one (l : List UInt8) (a : Nat) (h : a < l.length) : leV ((l.drop a).take 1) = at1 l a := by
  rw [List.drop_eq_getElem_cons h]
  simp only [List.take_succ_cons, List.take_zero, leV, at1, List.getD, List.getElem?_eq_getElem h, Option.getD_some]
  omega
theorem take_four (l : List UInt8) (a : Nat) (h : a + 4 ≤ l.length) : leV ((l.drop a).take 4) = rd4 l a := by
  rw [List.drop_eq_getElem_cons (show a < l.length by omega), List.drop_eq_getElem_cons (show a + 1 < l.length by omega), List.drop_eq_getElem_cons (show a + 1 + 1 < l.length by omega), List.drop_eq_getElem_cons (show a + 1 + 1 + 1 < l.length by omega)]
  simp only [List.take_succ_cons, List.take_zero, leV, rd4, at1, List.getD]
  rw [List.getElem?_eq_getElem (show a < l.length by omega), List.getElem?_eq_getElem (show a + 1 < l.length by omega), List.getElem?_eq_getElem (show a + 2 < l.length by omega), List.getElem?_eq_getElem (show a + 3 < l.length by omega)]
  simp only [Option.getD_some]
  have e2 : l[a + 1 + 1]'(by omega) = l[a + 2]'(by omega) := rfl
  have e3 : l[a + 1 + 1 + 1]'(by omega) = l[a + 3]'(by omega) := rfl
  rw [e2, e3]
  omega
theorem St.one {l r : List UInt8} {a : Nat} {b : Bool} (h : St l a r b) (hb : tkB r 1 b = false) : leV (tkV r 1) = at1 l a := by
  obtain ⟨h1, h2⟩ := tkB_no hb
  rw [h.val hb]
  rcases h with ⟨_, rfl, _⟩ | ⟨rfl, _⟩
  · rw [List.length_drop] at h2
    exact take_one l a (by omega)
  · cases h1
theorem St.four {l r : List UInt8} {a : Nat} {b : Bool} (h : St l a r b) (hb : tkB r 4 b = false) : leV (tkV r 4) = rd4 l a := by
  obtain ⟨h1, h2⟩ := tkB_no hb
  rw [h.val hb]
  rcases h with ⟨_, rfl, _⟩ | ⟨rfl, _⟩
  · rw [List.length_drop] at h2
    exact take_four l a (by omega)
  · cases h1
theorem one_lt (r : List UInt8) : leV (tkV r 1) < 256 := by
  have h := leV_lt (tkV r 1)
  rwa [tkV_len] at h
theorem four_lt (r : List UInt8) : leV (tkV r 4) < 4294967296 := by
  have h := leV_lt (tkV r 4)
  rwa [tkV_len] at h

theorem prefix_beg {l : List UInt8} (h : longB l = true) : Lib.hasPrefix l (storeL (begV l)) = decide (storeL (begV l) = l.take (nC l + 2)) := by
  have hl := begV_len h
  rw [← Lib.hasPrefix_of_take, hl]
  have h2 : nC l + 2 ≤ l.length := by
    rw [longB] at h
    simp only [Bool.and_eq_true, decide_eq_true_eq] at h
    exact h.2.2.2
  rw [decide_eq_true h2, Bool.true_and]
  by_cases he : storeL (begV l) = l.take (nC l + 2)
  · rw [decide_eq_true he, he]; simp
  · rw [decide_eq_false he]
    exact beq_eq_false_iff_ne.2 fun e => he e.symm
end Go.Proofs.YtgfmnolmokpgnaaDoor
