/-
  Words on memory: a matrix of 32-bit numbers as a slice of slices, each row in a block of its own; a list of such numbers.
-/
import Derived.Test.YtlpibibpckkjhaaFitP
import Derived.Test.YtlpibibpckkjhaaEvnI
namespace Go.Proofs.Ytlpibibpckkjhaa
open Go.RowKit

theorem set_other {w : World} {a b : Addr} {v : Value} (h : a ≠ b) : (w.setCell a v).cell? b = w.cell? b := World.cell?_setCell_other w a b v h
theorem set_same {w : World} {a : Addr} {u v : Value} (h : w.cell? a = some u) : (w.setCell a v).cell? a = some v := by
  refine World.cell?_setCell_same (u := u) ?_ ?_ ?_ ?_
  all_goals first | exact h | skip
/-- What lies in a block does not change. -/
theorem cell_keep {w w' : World} {p : Addr} {v : Value} (h : w.cell? p = some v) (hb : Below w.heap.size w w') : w'.cell? p = some v := (hb.cell (World.block_lt_of_cell? w _ h)).trans h
theorem frozen_keep {w w' : World} {p : Addr} {v : Value} (h : w.cell? p = some v) (hb : Below w.heap.size w w') : w'.frozen? p = w.frozen? p := hb.frozen (World.block_lt_of_cell? w _ h)

structure Mat (w : World) (lo R : Nat) (g : Nat → Nat) (n c : Nat) (A : Mx) : Prop where
  hd : ∀ i, i < n → w.cell? ⟨R, i, none⟩ = some (.slice (some ⟨g i, 0, none⟩) c c)
  hf : ∀ i, i < n → w.frozen? ⟨R, i, none⟩ = false
  cl : ∀ i j, i < n → j < c → ∃ x, w.cell? ⟨g i, j, none⟩ = some (.float .f32 x) ∧ cn x = A i j
  cf : ∀ i j, i < n → j < c → w.frozen? ⟨g i, j, none⟩ = false
  inj : ∀ i j, i < n → j < n → g i = g j → i = j
  ne : ∀ i, i < n → g i ≠ R
  low : ∀ i, i < n → lo ≤ g i
  lowR : lo ≤ R
section
variable {w w' : World} {lo R n c : Nat} {g : Nat → Nat} {A A' : Mx}
theorem Mat.drewN (h : Mat w lo R g n c A) (k : Nat) : Mat (w.drewN k) lo R g n c A := ⟨h.hd, h.hf, h.cl, h.cf, h.inj, h.ne, h.low, h.lowR⟩
theorem Mat.keep (h : Mat w lo R g n c A) (hb : Below w.heap.size w w') : Mat w' lo R g n c A := by
  refine ⟨fun i hi => cell_keep (h.hd i hi) hb, fun i hi => (frozen_keep (h.hd i hi) hb).trans (h.hf i hi), fun i j hi hj => ?_, fun i j hi hj => ?_, h.inj, h.ne, h.low, h.lowR⟩
  · obtain ⟨x, h1, h2⟩ := h.cl i j hi hj
    exact ⟨x, cell_keep h1 hb, h2⟩
  · obtain ⟨x, h1, h2⟩ := h.cl i j hi hj
    exact (frozen_keep h1 hb).trans (h.cf i j hi hj)
theorem Mat.eq (h : Mat w lo R g n c A) (he : ∀ i j, i < n → j < c → A i j = A' i j) : Mat w lo R g n c A' :=
  ⟨h.hd, h.hf, fun i j hi hj => by obtain ⟨x, h1, h2⟩ := h.cl i j hi hj; exact ⟨x, h1, h2.trans (he i j hi hj)⟩, h.cf, h.inj, h.ne, h.low, h.lowR⟩
theorem Mat.set_ (h : Mat w lo R g n c A) {i j : Nat} (hi : i < n) (hj : j < c) (x : Nat) : Mat (w.setCell ⟨g i, j, none⟩ (.float .f32 x)) lo R g n c (upd A i j (cn x)) := by
  refine ⟨fun i' hi' => ?_, fun i' hi' => ?_, fun i' j' hi' hj' => ?_, fun i' j' hi' hj' => ?_, h.inj, h.ne, h.low, h.lowR⟩
  · rw [set_other (by intro e; exact h.ne i hi (congrArg Addr.block e))]
    exact h.hd i' hi'
  · simpa using h.hf i' hi'
  · by_cases hh : i' = i ∧ j' = j
    · obtain ⟨rfl, rfl⟩ := hh
      obtain ⟨y, h1, -⟩ := h.cl i' j' hi hj
      exact ⟨x, set_same h1, by simp [upd]⟩
    · obtain ⟨y, h1, h2⟩ := h.cl i' j' hi' hj'
      refine ⟨y, ?_, by rw [h2, upd, if_neg hh]⟩
      rw [set_other]
      · exact h1
      · intro e
        have e1 := congrArg Addr.block e
        have e2 := congrArg Addr.off e
        exact hh ⟨(h.inj i i' hi hi' e1).symm, e2.symm⟩
  · simpa using h.cf i' j' hi' hj'
theorem Mat.other (h : Mat w lo R g n c A) {b o : Nat} (hb : b ≠ R) (hb2 : ∀ i, i < n → b ≠ g i) (v : Value) : Mat (w.setCell ⟨b, o, none⟩ v) lo R g n c A := by
  refine ⟨fun i' hi' => ?_, fun i' hi' => ?_, fun i' j' hi' hj' => ?_, fun i' j' hi' hj' => ?_, h.inj, h.ne, h.low, h.lowR⟩
  · rw [set_other (by intro e; exact hb (congrArg Addr.block e))]
    exact h.hd i' hi'
  · simpa using h.hf i' hi'
  · obtain ⟨y, h1, h2⟩ := h.cl i' j' hi' hj'
    refine ⟨y, ?_, h2⟩
    rw [set_other (by intro e; exact hb2 i' hi' (congrArg Addr.block e))]
    exact h1
  · simpa using h.cf i' j' hi' hj'
/-- Two rows changed about. -/
theorem Mat.swap (h : Mat w lo R g n c A) {k b : Nat} (hk : k < n) (hb : b < n) :
    Mat ((w.setCell ⟨R, k, none⟩ (.slice (some ⟨g b, 0, none⟩) c c)).setCell ⟨R, b, none⟩ (.slice (some ⟨g k, 0, none⟩) c c)) lo R (fun i => g (swp k b i)) n c (swapM A k b) := by
  refine ⟨fun i hi => ?_, fun i hi => ?_, fun i j hi hj => ?_, fun i j hi hj => ?_, fun i j hi hj e => swp_inj (h.inj _ _ (swp_lt hk hb hi) (swp_lt hk hb hj) e), fun i hi => h.ne _ (swp_lt hk hb hi), fun i hi => h.low _ (swp_lt hk hb hi), h.lowR⟩
  · have hd' : ∀ i', i' < n → ∃ v, (w.setCell ⟨R, k, none⟩ (.slice (some ⟨g b, 0, none⟩) c c)).cell? ⟨R, i', none⟩ = some v := fun i' hi' => by
      by_cases e : i' = k
      · subst e; exact ⟨_, set_same (h.hd _ hi')⟩
      · rw [set_other (by intro e2; exact e (congrArg Addr.off e2).symm)]
        exact ⟨_, h.hd _ hi'⟩
    unfold swp
    by_cases e1 : i = b
    · subst e1
      obtain ⟨v, hv⟩ := hd' i hi
      rw [set_same hv]
      by_cases e2 : i = k
      · subst e2; rw [if_pos rfl]
      · rw [if_neg e2, if_pos rfl]
    · rw [set_other (by intro e2; exact e1 (congrArg Addr.off e2).symm)]
      by_cases e2 : i = k
      · subst e2
        rw [if_pos rfl]
        exact set_same (h.hd _ hi)
      · rw [if_neg e2, if_neg e1, set_other (by intro e3; exact e2 (congrArg Addr.off e3).symm)]
        exact h.hd _ hi
  · simpa using h.hf i hi
  · obtain ⟨x, h1, h2⟩ := h.cl (swp k b i) j (swp_lt hk hb hi) hj
    refine ⟨x, ?_, h2⟩
    rw [set_other (by intro e; exact h.ne _ (swp_lt hk hb hi) (congrArg Addr.block e).symm), set_other (by intro e; exact h.ne _ (swp_lt hk hb hi) (congrArg Addr.block e).symm)]
    exact h1
  · simpa using h.cf (swp k b i) j (swp_lt hk hb hi) hj
end

/-- A list of numbers at the head of a block. -/
structure Vec (w : World) (V n : Nat) (a : Nat → Option Nat) : Prop where
  cl : ∀ i, i < n → ∃ x, w.cell? ⟨V, i, none⟩ = some (.float .f32 x) ∧ cn x = a i
  cf : ∀ i, i < n → w.frozen? ⟨V, i, none⟩ = false
section
variable {w w' : World} {V n : Nat} {a a' : Nat → Option Nat}
theorem Vec.drewN (h : Vec w V n a) (k : Nat) : Vec (w.drewN k) V n a := ⟨h.cl, h.cf⟩
theorem Vec.keep (h : Vec w V n a) (hb : Below w.heap.size w w') : Vec w' V n a := by
  refine ⟨fun i hi => ?_, fun i hi => ?_⟩
  · obtain ⟨x, h1, h2⟩ := h.cl i hi
    exact ⟨x, cell_keep h1 hb, h2⟩
  · obtain ⟨x, h1, h2⟩ := h.cl i hi
    exact (frozen_keep h1 hb).trans (h.cf i hi)
theorem Vec.eq (h : Vec w V n a) (he : ∀ i, i < n → a i = a' i) : Vec w V n a' :=
  ⟨fun i hi => by obtain ⟨x, h1, h2⟩ := h.cl i hi; exact ⟨x, h1, h2.trans (he i hi)⟩, h.cf⟩
def updV (a : Nat → Option Nat) (i : Nat) (v : Option Nat) : Nat → Option Nat := fun k => if k = i then v else a k
theorem Vec.set_ (h : Vec w V n a) {i : Nat} (hi : i < n) (x : Nat) : Vec (w.setCell ⟨V, i, none⟩ (.float .f32 x)) V n (updV a i (cn x)) := by
  refine ⟨fun k hk => ?_, fun k hk => by simpa using h.cf k hk⟩
  by_cases e : k = i
  · subst e
    obtain ⟨y, h1, -⟩ := h.cl k hk
    exact ⟨x, set_same h1, by simp [updV]⟩
  · obtain ⟨y, h1, h2⟩ := h.cl k hk
    refine ⟨y, ?_, by rw [h2, updV, if_neg e]⟩
    rw [set_other (by intro e2; exact e (congrArg Addr.off e2).symm)]
    exact h1
theorem Vec.other (h : Vec w V n a) {b o : Nat} (hb : b ≠ V) (v : Value) : Vec (w.setCell ⟨b, o, none⟩ v) V n a := by
  refine ⟨fun k hk => ?_, fun k hk => by simpa using h.cf k hk⟩
  obtain ⟨y, h1, h2⟩ := h.cl k hk
  refine ⟨y, ?_, h2⟩
  rw [set_other (by intro e; exact hb (congrArg Addr.block e))]
  exact h1
end
end Go.Proofs.Ytlpibibpckkjhaa
