/-
  Words on memory: a matrix whose rows are appended one by one.
-/
import Derived.Test.YtlpibibpckkjhaaWgt
namespace Go.Proofs.Ytlpibibpckkjhaa
open Go.RowKit

theorem infoS : (Try.prog.info? 26).map (fun i => (i.zero, i.size, i.bytes)) = some (some (.slice none 0 0), 1, 24) := by kernel_rfl
/-- The rows' heads. -/
def hdrs (c : Nat) (g : Nat → Nat) (n : Nat) : List Value := (List.range n).map fun j => hdr c (g j)
@[simp] theorem hdrs_len (c : Nat) (g : Nat → Nat) (n : Nat) : (hdrs c g n).length = n := by simp [hdrs]
theorem hdrs_at {c n j : Nat} {g : Nat → Nat} (h : j < n) : (hdrs c g n)[j]? = some (hdr c (g j)) := by simp [hdrs, h]
theorem hdrs_snoc (c n G : Nat) (g : Nat → Nat) : hdrs c g n ++ [hdr c G] = hdrs c (fun j => if j = n then G else g j) (n + 1) := by
  unfold hdrs
  rw [List.range_succ, List.map_append]
  congr 1
  · refine List.map_congr_left fun a ha => ?_
    rw [List.mem_range] at ha
    show _ = hdr c (if a = n then G else g a)
    rw [if_neg (by omega)]
  · simp

structure Rws (w : World) (lo : Nat) (v : Value) (n c : Nat) (g : Nat → Nat) (A : Mx) : Prop where
  row : w.ownsRow lo 26 1 v n (hdrs c g n)
  cl : ∀ i j, i < n → j < c → ∃ x, w.cell? ⟨g i, j, none⟩ = some (.float .f32 x) ∧ cn x = A i j
  cf : ∀ i j, i < n → j < c → w.frozen? ⟨g i, j, none⟩ = false
  inj : ∀ i j, i < n → j < n → g i = g j → i = j
  ne : ∀ i, i < n → some (g i) ≠ v.ownBlock
  low : ∀ i, i < n → lo ≤ g i
  lt : ∀ i, i < n → g i < w.heap.size
section
variable {w w' : World} {lo n c : Nat} {v : Value} {g : Nat → Nat} {A A' : Mx}
theorem Rws.below (h : Rws w lo v n c g A) (hb : Below w.heap.size w w') : Rws w' lo v n c g A := by
  refine ⟨ownsRow_kp h.row (Kp.of_below (lo := 0) (hi := 0) hb) (Nat.zero_le _), fun i j hi hj => ?_, fun i j hi hj => ?_, h.inj, h.ne, h.low, fun i hi => Nat.lt_of_lt_of_le (h.lt i hi) hb.size⟩
  · obtain ⟨x, h1, h2⟩ := h.cl i j hi hj
    exact ⟨x, cell_keep h1 hb, h2⟩
  · obtain ⟨x, h1, h2⟩ := h.cl i j hi hj
    exact (frozen_keep h1 hb).trans (h.cf i j hi hj)
theorem Rws.eq (h : Rws w lo v n c g A) (he : ∀ i j, i < n → j < c → A i j = A' i j) : Rws w lo v n c g A' :=
  ⟨h.row, fun i j hi hj => by obtain ⟨x, h1, h2⟩ := h.cl i j hi hj; exact ⟨x, h1, h2.trans (he i j hi hj)⟩, h.cf, h.inj, h.ne, h.low, h.lt⟩
theorem Rws.grown {row : Option Nat} (h : Rws w lo v n c g A) (hg : w.grownBy w' row) (h1 : v.ownBlock ≠ row) (h2 : ∀ i, i < n → some (g i) ≠ row) : Rws w' lo v n c g A := by
  refine ⟨h.row.kept hg (.inr h1), fun i j hi hj => ?_, fun i j hi hj => ?_, h.inj, h.ne, h.low, fun i hi => Nat.lt_of_lt_of_le (h.lt i hi) hg.size⟩
  · obtain ⟨x, h3, h4⟩ := h.cl i j hi hj
    exact ⟨x, (hg.cell_far ⟨g i, j, none⟩ (h.lt i hi) (h2 i hi)).trans h3, h4⟩
  · exact (hg.frozen_far ⟨g i, j, none⟩ (h.lt i hi) (h2 i hi)).trans (h.cf i j hi hj)
theorem Rws.empty (w : World) (lo : Nat) (c : Nat) (g : Nat → Nat) (A : Mx) (h : w.ownsRow lo 26 1 v 0 []) : Rws w lo v 0 c g A :=
  ⟨h, fun _ _ hi => absurd hi (Nat.not_lt_zero _), fun _ _ hi => absurd hi (Nat.not_lt_zero _), fun _ _ hi => absurd hi (Nat.not_lt_zero _), fun _ hi => absurd hi (Nat.not_lt_zero _), fun _ hi => absurd hi (Nat.not_lt_zero _), fun _ hi => absurd hi (Nat.not_lt_zero _)⟩
/-- One more row. -/
theorem Rws.push {w1 w3 : World} {v1 : Value} {G : Nat} {a : Nat → Option Nat} (h : Rws w lo v n c g A) (hb : Below w.heap.size w w1) (hV : Vec w1 G c a) (hG : lo ≤ G) (hGl : w.heap.size ≤ G) (hGs : G < w1.heap.size)
    (hown : w3.ownsRow lo 26 1 v1 (n + 1) (hdrs c g n ++ [hdr c G])) (hg : w1.grownBy w3 v.ownBlock) (hat : v1.ownBlock = v.ownBlock ∨ v1.ownBlock = some w1.heap.size) :
    Rws w3 lo v1 (n + 1) c (fun j => if j = n then G else g j) (fun i j => if i = n then a j else A i j) := by
  have h1 := h.below hb
  have hGv : some G ≠ v.ownBlock := fun e => absurd (h.row.lt G e.symm).2 (by omega)
  refine ⟨by rw [← hdrs_snoc]; exact hown, fun i j hi hj => ?_, fun i j hi hj => ?_, fun i j hi hj e => ?_, fun i hi e => ?_, fun i hi => ?_, fun i hi => ?_⟩
  · by_cases e : i = n
    · simp only [if_pos e]
      obtain ⟨x, h3, h4⟩ := hV.cl j hj
      exact ⟨x, (hg.cell_far ⟨G, j, none⟩ hGs hGv).trans h3, h4⟩
    · simp only [if_neg e]
      obtain ⟨x, h3, h4⟩ := h1.cl i j (by omega) hj
      exact ⟨x, (hg.cell_far ⟨g i, j, none⟩ (h1.lt i (by omega)) (h1.ne i (by omega))).trans h3, h4⟩
  · by_cases e : i = n
    · simp only [if_pos e]
      exact (hg.frozen_far ⟨G, j, none⟩ hGs hGv).trans (hV.cf j hj)
    · simp only [if_neg e]
      exact (hg.frozen_far ⟨g i, j, none⟩ (h1.lt i (by omega)) (h1.ne i (by omega))).trans (h1.cf i j (by omega) hj)
  · by_cases e1 : i = n <;> by_cases e2 : j = n
    · omega
    · simp only [if_pos e1, if_neg e2] at e
      have := h.lt j (by omega)
      omega
    · simp only [if_neg e1, if_pos e2] at e
      have := h.lt i (by omega)
      omega
    · simp only [if_neg e1, if_neg e2] at e
      exact h.inj i j (by omega) (by omega) e
  · by_cases e1 : i = n
    · simp only [if_pos e1] at e
      rcases hat with h2 | h2
      · rw [h2] at e; exact hGv e
      · rw [h2] at e; cases e; exact absurd hGs (Nat.lt_irrefl _)
    · simp only [if_neg e1] at e
      rcases hat with h2 | h2
      · rw [h2] at e; exact h.ne i (by omega) e
      · rw [h2] at e
        injection e with e
        have := h.lt i (by omega)
        have := hb.size
        omega
  · by_cases e1 : i = n
    · simp only [if_pos e1]; exact hG
    · simp only [if_neg e1]; exact h.low i (by omega)
  · by_cases e1 : i = n
    · simp only [if_pos e1]; exact Nat.lt_of_lt_of_le hGs hg.size
    · simp only [if_neg e1]; exact Nat.lt_of_lt_of_le (h1.lt i (by omega)) hg.size
theorem Rws.mat {R cR : Nat} (h : Rws w lo (.slice (some ⟨R, 0, none⟩) n cR) n c g A) : Mat w lo R g n c A := by
  have hR := h.row.lt R rfl
  refine ⟨fun i hi => ?_, fun i hi => ?_, h.cl, h.cf, h.inj, fun i hi e => h.ne i hi (by rw [e]; rfl), h.low, hR.1⟩
  · rw [h.row.cellAt i (by omega), hdrs_at hi]
  · exact h.row.frozenAt i
end
end Go.Proofs.Ytlpibibpckkjhaa
