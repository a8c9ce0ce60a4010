/-
  Words on memory: a slice of what is saved, whose lists lie apart; plain laws: what is recovered.
-/
import Derived.Test.YtgfmnolmokpgnaaDoorLawLd
namespace Go.Proofs.YtgfmnolmokpgnaaDoor
open Go.RowKit

def nilS : Sav := ⟨[], [], []⟩
/-- A slice of what is saved: its cells xs, three for each; the lists of each lie from a k on and below b k, apart from each other and from block g. -/
structure EL (w : World) (g lo hi : Nat) (vs : List Sav) (xs : List Value) (a b : Nat → Nat) (A A' : Nat → Option Addr) (c c' : Nat → Nat) : Prop where
  len : xs.length = vs.length * 3
  c0 : ∀ k, k < vs.length → xs[k * 3]? = some (.string (txt (vs.getD k nilS).nm))
  c1 : ∀ k, k < vs.length → xs[k * 3 + 1]? = some (.slice (A k) (vs.getD k nilS).P.length (c k))
  c2 : ∀ k, k < vs.length → xs[k * 3 + 2]? = some (.slice (A' k) (vs.getD k nilS).W.length (c' k))
  el : ∀ k, k < vs.length → SavIn w (a k) (b k) (vs.getD k nilS) (A k) (A' k)
  lo : ∀ k, k < vs.length → lo ≤ a k
  hi : ∀ k, k < vs.length → b k ≤ hi
  ap : ∀ k, k < vs.length → g < a k ∨ b k ≤ g
  mono : ∀ i j, i < j → j < vs.length → b i ≤ a j
section
variable {w w' : World} {g g' lo hi hi' : Nat} {vs : List Sav} {xs : List Value} {a b : Nat → Nat} {A A' : Nat → Option Addr} {c c' : Nat → Nat}
theorem EL.nil : EL w g lo hi [] [] a b A A' c c' :=
  ⟨rfl, fun k h => by simp at h, fun k h => by simp at h, fun k h => by simp at h, fun k h => by simp at h, fun k h => by simp at h, fun k h => by simp at h, fun k h => by simp at h, fun i j _ h => by simp at h⟩
theorem EL.below {B : Nat} (h : EL w g lo hi vs xs a b A A' c c') (hb : Below B w w') (hB : hi ≤ B) : EL w' g lo hi vs xs a b A A' c c' :=
  ⟨h.len, h.c0, h.c1, h.c2, fun k hk => (h.el k hk).below hb (Nat.le_trans (h.hi k hk) hB), h.lo, h.hi, h.ap, h.mono⟩
theorem EL.kp {p q : Nat} (h : EL w g lo hi vs xs a b A A' c c') (hk : Kp p q w w') (hd : ∀ k, k < vs.length → b k ≤ p ∨ q ≤ a k) : EL w' g lo hi vs xs a b A A' c c' :=
  ⟨h.len, h.c0, h.c1, h.c2, fun k hk' => (h.el k hk').kp hk (hd k hk'), h.lo, h.hi, h.ap, h.mono⟩
theorem EL.wide (h : EL w g lo hi vs xs a b A A' c c') (hh : hi ≤ hi') : EL w g lo hi' vs xs a b A A' c c' :=
  ⟨h.len, h.c0, h.c1, h.c2, h.el, h.lo, fun k hk => Nat.le_trans (h.hi k hk) hh, h.ap, h.mono⟩
theorem EL.reg (h : EL w g lo hi vs xs a b A A' c c') (hg : hi ≤ g') : EL w g' lo hi vs xs a b A A' c c' :=
  ⟨h.len, h.c0, h.c1, h.c2, h.el, h.lo, h.hi, fun k hk => .inr (Nat.le_trans (h.hi k hk) hg), h.mono⟩
theorem getD_snoc_lt {v : Sav} {k : Nat} (h : k < vs.length) : (vs ++ [v]).getD k nilS = vs.getD k nilS := by
  simp [List.getD, List.getElem?_append_left h]
theorem getD_snoc {v : Sav} : (vs ++ [v]).getD vs.length nilS = v := by simp [List.getD]
theorem EL.snoc (h : EL w g lo hi vs xs a b A A' c c') {v : Sav} {p q : Nat} {D D' : Option Addr} {d d' : Nat} (hv : SavIn w p q v D D') (h1 : hi ≤ p) (h2 : q ≤ hi') (h3 : hi ≤ hi') (hlo : lo ≤ p) (hg : g < p ∨ q ≤ g) :
    EL w g lo hi' (vs ++ [v]) (xs ++ [.string (txt v.nm), .slice D v.P.length d, .slice D' v.W.length d'])
      (fun k => if k = vs.length then p else a k) (fun k => if k = vs.length then q else b k) (fun k => if k = vs.length then D else A k) (fun k => if k = vs.length then D' else A' k) (fun k => if k = vs.length then d else c k) (fun k => if k = vs.length then d' else c' k) := by
  have hl : (vs ++ [v]).length = vs.length + 1 := by simp
  have old : ∀ k, k < (vs ++ [v]).length → k ≠ vs.length → k < vs.length := fun k hk hne => by omega
  refine ⟨by simp [h.len]; omega, fun k hk => ?_, fun k hk => ?_, fun k hk => ?_, fun k hk => ?_, fun k hk => ?_, fun k hk => ?_, fun k hk => ?_, fun i j hij hj => ?_⟩
  · by_cases e : k = vs.length
    · subst e
      rw [getD_snoc, List.getElem?_append_right (by rw [h.len]; exact Nat.le_refl _), h.len]; simp
    · rw [getD_snoc_lt (old k hk e), List.getElem?_append_left (by rw [h.len]; have := old k hk e; omega)]
      exact h.c0 k (old k hk e)
  · by_cases e : k = vs.length
    · subst e
      rw [getD_snoc, List.getElem?_append_right (by rw [h.len]; omega), h.len, show vs.length * 3 + 1 - vs.length * 3 = 1 by omega]; simp
    · rw [getD_snoc_lt (old k hk e), List.getElem?_append_left (by rw [h.len]; have := old k hk e; omega), if_neg e, if_neg e]
      exact h.c1 k (old k hk e)
  · by_cases e : k = vs.length
    · subst e
      rw [getD_snoc, List.getElem?_append_right (by rw [h.len]; omega), h.len, show vs.length * 3 + 2 - vs.length * 3 = 2 by omega]; simp
    · rw [getD_snoc_lt (old k hk e), List.getElem?_append_left (by rw [h.len]; have := old k hk e; omega), if_neg e, if_neg e]
      exact h.c2 k (old k hk e)
  · by_cases e : k = vs.length
    · subst e
      simp only [if_true]
      rw [getD_snoc]; exact hv
    · simp only [if_neg e]
      rw [getD_snoc_lt (old k hk e)]
      exact h.el k (old k hk e)
  · by_cases e : k = vs.length
    · simp only [if_pos e]; exact hlo
    · simp only [if_neg e]; exact h.lo k (old k hk e)
  · by_cases e : k = vs.length
    · simp only [if_pos e]; exact h2
    · simp only [if_neg e]; exact Nat.le_trans (h.hi k (old k hk e)) h3
  · by_cases e : k = vs.length
    · simp only [if_pos e]; exact hg
    · simp only [if_neg e]; exact h.ap k (old k hk e)
  · have hi0 : i ≠ vs.length := by omega
    simp only [if_neg hi0]
    by_cases e : j = vs.length
    · simp only [if_pos e]; exact Nat.le_trans (h.hi i (by omega)) h1
    · simp only [if_neg e]; exact h.mono i j hij (old j hj e)
end

/-- What is recovered, of at most so many. -/
def recL : Nat → List UInt8 → List Sav
  | 0, _ => []
  | f + 1, l => if begB l then begV l :: recL f (l.drop (nC l + 2)) else []
def recN : Nat → List UInt8 → Nat
  | 0, _ => 0
  | f + 1, l => if begB l then nC l + 2 + recN f (l.drop (nC l + 2)) else 0
theorem recL_len : ∀ (f : Nat) (l : List UInt8), (recL f l).length ≤ f
  | 0, _ => by simp [recL]
  | f + 1, l => by
    rw [recL]
    split
    · have := recL_len f (l.drop (nC l + 2)); simp; omega
    · simp
theorem recL_fine : ∀ (f : Nat) (l : List UInt8), ∀ v ∈ recL f l, Fine v
  | 0, _, v, h => by simp [recL] at h
  | f + 1, l, v, h => by
    rw [recL] at h
    split at h
    · rename_i hb
      rcases List.mem_cons.1 h with rfl | h
      · exact fine_beg hb
      · exact recL_fine f _ v h
    · simp at h
theorem beg_le {l : List UInt8} (h : begB l = true) : nC l + 2 ≤ l.length := by
  rw [begB, Bool.and_eq_true, longB] at h
  simp only [Bool.and_eq_true, decide_eq_true_eq] at h
  exact h.1.2.2.2
/-- What is done, and what is left to do. -/
def RecSt (l : List UInt8) (done : List Sav) (at_ : Nat) : Prop := done.length ≤ 8 ∧ at_ ≤ l.length ∧ recL 8 l = done ++ recL (8 - done.length) (l.drop at_) ∧ recN 8 l = at_ + recN (8 - done.length) (l.drop at_)
theorem RecSt.start (l : List UInt8) : RecSt l [] 0 := ⟨by simp, Nat.zero_le _, by simp, by simp⟩
theorem RecSt.next {l : List UInt8} {done : List Sav} {at_ : Nat} (h : RecSt l done at_) (hd : done.length < 8) (hb : begB (l.drop at_) = true) : RecSt l (done ++ [begV (l.drop at_)]) (at_ + (nC (l.drop at_) + 2)) := by
  obtain ⟨h1, h2, h3, h4⟩ := h
  have hl := beg_le hb
  rw [List.length_drop] at hl
  have e : 8 - done.length = (8 - (done.length + 1)) + 1 := by omega
  refine ⟨by simp; omega, by omega, ?_, ?_⟩
  · rw [h3, e, recL, if_pos hb, List.drop_drop]; simp
  · rw [h4, e, recN, if_pos hb, List.drop_drop]; simp; omega
theorem RecSt.stop {l : List UInt8} {done : List Sav} {at_ : Nat} (h : RecSt l done at_) (hd : done.length = 8 ∨ begB (l.drop at_) = false) : done = recL 8 l ∧ at_ = recN 8 l := by
  obtain ⟨h1, h2, h3, h4⟩ := h
  have e1 : recL (8 - done.length) (l.drop at_) = [] := by
    rcases hd with h | h
    · rw [h]; rfl
    · cases hf : 8 - done.length with
      | zero => rfl
      | succ f => rw [recL, h]; rfl
  have e2 : recN (8 - done.length) (l.drop at_) = 0 := by
    rcases hd with h | h
    · rw [h]; rfl
    · cases hf : 8 - done.length with
      | zero => rfl
      | succ f => rw [recN, h]; rfl
  rw [e1] at h3
  rw [e2] at h4
  exact ⟨by simpa using h3.symm, by simpa using h4.symm⟩
end Go.Proofs.YtgfmnolmokpgnaaDoor
