/-
  Plain laws and words: a slice of what is saved, marked.
-/
import Derived.Test.YtgfmnolmokpgnaaGreatDoorMkL
import Derived.Test.YtgfmnolmokpgnaaGreatDoorMkT
namespace Go.Proofs.YtgfmnolmokpgnaaGreatDoor
open Go.RowKit

def szv (v : Sav) : Nat := 1 + v.P.length + v.W.length
/-- Where the marks of the k-th begin. -/
def pos (vs : List Sav) : Nat → Nat
  | 0 => 1
  | k + 1 => pos vs k + szv (vs.getD k nilS)
def markAt (vs : List Sav) (k : Nat) : Sav := ⟨mk (pos vs k), cmarks ((pos vs k + 1 : Nat) : Int) (vs.getD k nilS).P.length, marks ((pos vs k + 1 + (vs.getD k nilS).P.length : Nat) : Int) (vs.getD k nilS).W.length⟩
def markAll (vs : List Sav) : List Sav := (List.range vs.length).map (markAt vs)
@[simp] theorem markAll_len (vs : List Sav) : (markAll vs).length = vs.length := by simp [markAll]
theorem markAll_at {vs : List Sav} {k : Nat} (h : k < vs.length) : (markAll vs).getD k nilS = markAt vs k := by
  simp [markAll, List.getD, h]
theorem fine_getD {vs : List Sav} (hF : ∀ v ∈ vs, Fine v) {k : Nat} (h : k < vs.length) : Fine (vs.getD k nilS) :=
  hF _ (by rw [List.getD, List.getElem?_eq_getElem h]; exact List.getElem_mem h)
theorem pos_le {vs : List Sav} (hF : ∀ v ∈ vs, Fine v) : ∀ k, k ≤ vs.length → 1 ≤ pos vs k ∧ pos vs k ≤ 1 + 35 * k
  | 0, _ => by simp [pos]
  | k + 1, h => by
    have ih := pos_le hF k (by omega)
    have hf := fine_getD hF (show k < vs.length by omega)
    have := hf.p
    have := hf.t
    simp only [pos, szv]
    omega
theorem sav_ext {vs ws : List Sav} (hl : vs.length = ws.length) (h : ∀ k, k < vs.length → vs.getD k nilS = ws.getD k nilS) : vs = ws := by
  apply List.ext_getElem hl
  intro k h1 h2
  have := h k h1
  rwa [List.getD, List.getD, List.getElem?_eq_getElem h1, List.getElem?_eq_getElem h2] at this
theorem getD_set {L : List Sav} {k j : Nat} {v : Sav} (hk : k < L.length) : (L.set k v).getD j nilS = if j = k then v else L.getD j nilS := by
  by_cases e : j = k
  · subst e; simp [List.getD, hk]
  · rw [if_neg e, List.getD, List.getD, List.getElem?_set_ne (fun h => e h.symm)]

theorem row_set3 {w : World} {base E n g c j : Nat} {xs : List Value} {u : Value} (h : w.ownsRow base E 3 (.slice (some ⟨g, 0, none⟩) n c) n xs) : (w.setCell ⟨g, j, none⟩ u).ownsRow base E 3 (.slice (some ⟨g, 0, none⟩) n c) n (xs.set j u) := by
  obtain ⟨h1, h2⟩ := h
  refine ⟨by rw [List.length_set]; exact h1, ?_⟩
  rcases h2 with ⟨e, _⟩ | ⟨g', cap, cur, e, hg, hh, hn, hcap, hsz, ht⟩
  · cases e
  · cases e
    refine .inr ⟨g, c, cur.setIfInBounds j u, rfl, hg, ?_, hn, hcap, by simpa using hsz, ?_⟩
    · have hb : Blk w g E cur := hh
      exact hb.set_ j u
    · rw [← ht, Array.toList_setIfInBounds, List.take_set]

section
variable {w w' : World} {g lo hi : Nat} {vs : List Sav} {xs : List Value} {a b : Nat → Nat} {A A' : Nat → Option Addr} {c c' : Nat → Nat}
theorem EL.mark (h : EL w g lo hi vs xs a b A A' c c') {k : Nat} (hk : k < vs.length) {v : Sav} (hP : v.P.length = (vs.getD k nilS).P.length) (hW : v.W.length = (vs.getD k nilS).W.length)
    (hkp : ∀ i, i ≠ g → i < w.heap.size → (i < a k ∨ b k ≤ i) → w'.heap[i]? = w.heap[i]?) (hv : SavIn w' (a k) (b k) v (A k) (A' k)) :
    EL w' g lo hi (vs.set k v) (xs.set (k * 3) (.string (txt v.nm))) a b A A' c c' := by
  refine ⟨by simp [h.len], fun j hj => ?_, fun j hj => ?_, fun j hj => ?_, fun j hj => ?_, fun j hj => h.lo j (by simpa using hj), fun j hj => h.hi j (by simpa using hj), fun j hj => h.ap j (by simpa using hj), fun i j hij hj => h.mono i j hij (by simpa using hj)⟩
  all_goals rw [List.length_set] at hj
  · rw [getD_set hk]
    by_cases e : j = k
    · subst e
      rw [if_pos rfl, List.getElem?_set_self (by rw [h.len]; omega)]
    · rw [if_neg e, List.getElem?_set_ne (by omega)]
      exact h.c0 j hj
  · rw [getD_set hk, List.getElem?_set_ne (by omega)]
    by_cases e : j = k
    · subst e
      rw [if_pos rfl, hP]; exact h.c1 j hj
    · rw [if_neg e]; exact h.c1 j hj
  · rw [getD_set hk, List.getElem?_set_ne (by omega)]
    by_cases e : j = k
    · subst e
      rw [if_pos rfl, hW]; exact h.c2 j hj
    · rw [if_neg e]; exact h.c2 j hj
  · rw [getD_set hk]
    by_cases e : j = k
    · subst e
      rw [if_pos rfl]; exact hv
    · rw [if_neg e]
      have hj1 := h.el j hj
      have hdis : b j ≤ a k ∨ b k ≤ a j := by
        rcases Nat.lt_or_ge j k with h' | h'
        · exact .inl (h.mono j k h' hk)
        · exact .inr (h.mono k j (by omega) hj)
      have hap := h.ap j hj
      obtain ⟨m, k1, k2, k3, k4⟩ := hj1
      exact ⟨m, k1, k2, k3.keep fun i i1 i2 i3 => hkp i (by omega) i3 (by omega), k4.keep fun i i1 i2 i3 => hkp i (by omega) i3 (by omega)⟩
end
end Go.Proofs.YtgfmnolmokpgnaaGreatDoor
