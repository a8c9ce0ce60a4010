/-
  Words for the law FnSavedPolys: the ends of what is stored, as a slice of integers; bytes in a row of a conversion.
-/
import Derived.Test.YtgfmnolmokpgnaaDoorStoAll
namespace Go.Proofs.YtgfmnolmokpgnaaDoor
open Go.RowKit

/-- The ends of the first k, from 0 on. -/
def endsL (vs : List Sav) (k : Nat) : List Int := (List.range (k + 1)).map fun (j : Nat) => ((endsN vs j : Nat) : Int)
@[simp] theorem endsL_len (vs : List Sav) (k : Nat) : (endsL vs k).length = k + 1 := by simp [endsL]
theorem endsL_at {vs : List Sav} {k j : Nat} (h : j ≤ k) : (endsL vs k).getD j 0 = ((endsN vs j : Nat) : Int) := by
  have h1 : j < k + 1 := by omega
  simp [endsL, List.getD, h1]
theorem endsL_snoc (vs : List Sav) (k : Nat) : endsL vs k ++ [((endsN vs (k + 1) : Nat) : Int)] = endsL vs (k + 1) := by
  simp [endsL, List.range_succ]
theorem endsL_zero (vs : List Sav) : ints (endsL vs 0) = [.int .i64 0] := by
  simp [endsL, endsN, storesL, ints]
theorem endsN_le {vs : List Sav} (hG : ∀ v ∈ vs, Gd v) (h8 : vs.length ≤ 8) (k : Nat) : endsN vs k ≤ 1856 := by
  have h := (storesL_len (vs := vs.take k) (fun v hv => hG v (List.mem_of_mem_take hv))).1
  have h2 : (vs.take k).length ≤ 8 := by rw [List.length_take]; omega
  unfold endsN
  omega
theorem endsN_mono (vs : List Sav) (k : Nat) : endsN vs k ≤ (storesL vs).length := by
  have e : storesL vs = storesL (vs.take k) ++ storesL (vs.drop k) := by rw [← storesL_app, List.take_append_drop]
  rw [e, List.length_append, endsN]
  omega

/-- What a slice of what is saved holds, in memory. -/
theorem EL.rds {w : World} {g lo lo' hi c n : Nat} {vs : List Sav} {xs : List Value} {a b : Nat → Nat} {A A' : Nat → Option Addr} {cc cc' : Nat → Nat} (h : EL w g lo hi vs xs a b A A' cc cc') (hr : w.ownsRow lo' 36 3 (.slice (some ⟨g, 0, none⟩) n c) n xs) (hhi : hi ≤ w.heap.size) : RdS w g 0 vs A A' cc cc' := by
  have hc : ∀ (j : Nat) (u : Value), xs[j]? = some u → w.cell? ⟨g, j, none⟩ = some u := by
    intro j u hu
    rcases hr.2 with ⟨e, _⟩ | ⟨g', cap, cur, e, _, hh, _, _, _, ht⟩
    · cases e
    · cases e
      rw [cell_of_row w g j cur _ (0, 0) hh]
      rw [← ht, List.getElem?_take] at hu
      split at hu
      · simpa using hu
      · cases hu
  have hR := fun k (hk : k < vs.length) => (h.el k hk).reads (Nat.le_trans (h.hi k hk) hhi)
  exact ⟨(hr.lt g rfl).2, fun k hk => by rw [Nat.zero_add]; exact hc _ _ (h.c0 k hk), fun k hk => by rw [Nat.zero_add]; exact hc _ _ (h.c1 k hk), fun k hk => by rw [Nat.zero_add]; exact hc _ _ (h.c2 k hk), fun k hk => (hR k hk).1, fun k hk => (hR k hk).2⟩
/-- One of a slice. -/
theorem RdS.one {w : World} {g : Nat} {vs : List Sav} {A A' : Nat → Option Addr} {cc cc' : Nat → Nat} (h : RdS w g 0 vs A A' cc cc') {k : Nat} (hk : k < vs.length) :
    RdS w g (k * 3) [vs.getD k nilS] (fun j => A (k + j)) (fun j => A' (k + j)) (fun j => cc (k + j)) (fun j => cc' (k + j)) := by
  have e : ∀ j, j < [vs.getD k nilS].length → j = 0 := fun j hj => by simpa using hj
  have h0 := h.c0 k hk
  have h1 := h.c1 k hk
  have h2 := h.c2 k hk
  rw [Nat.zero_add] at h0 h1 h2
  exact ⟨h.lt, fun j hj => by obtain rfl := e j hj; simpa using h0, fun j hj => by obtain rfl := e j hj; simpa using h1, fun j hj => by obtain rfl := e j hj; simpa using h2, fun j hj => by obtain rfl := e j hj; exact h.r1 k hk, fun j hj => by obtain rfl := e j hj; exact h.r2 k hk⟩
/-- One, in a block of its own. -/
theorem RdS.new {w : World} {g : Nat} {v : Sav} {A A' : Option Addr} {c c' : Nat} (hb : Blk w g 36 #[.string (txt v.nm), .slice A v.P.length c, .slice A' v.W.length c']) (h1 : Reads w w.heap.size 1 A v.P.length (cplx v.P)) (h2 : Reads w w.heap.size 1 A' v.W.length (ints v.W)) :
    RdS w g 0 [v] (fun _ => A) (fun _ => A') (fun _ => c) (fun _ => c') := by
  have e : ∀ j, j < [v].length → j = 0 := fun j hj => by simpa using hj
  exact ⟨hb.lt, fun j hj => by obtain rfl := e j hj; exact hb.cell 0, fun j hj => by obtain rfl := e j hj; exact hb.cell 1, fun j hj => by obtain rfl := e j hj; exact hb.cell 2, fun j hj => by obtain rfl := e j hj; exact h1, fun j hj => by obtain rfl := e j hj; exact h2⟩

/-- What LoadSaved gives of what was stored. -/
theorem ls_store {v : Sav} (h : Gd v) : lsB (storeL v) = true ∧ lsR (storeL v) = v := by
  have h0 := rt h []
  rw [List.append_nil] at h0
  have h1 : lsB (storeL v) = true := by rw [lsB, h0.1, h0.2.2]; simp
  exact ⟨h1, by rw [lsR, h1]; exact h0.2.1⟩
end Go.Proofs.YtgfmnolmokpgnaaDoor
