/-
  The law's own helpers on slices of what is saved: comparison, marks.
-/
import Derived.Test.YtgfmnolmokpgnaaGreatDoorRecA

import Derived.StillTailTactics
namespace Go.Proofs.YtgfmnolmokpgnaaGreatDoor
open Go.RowKit

theorem row_cells {w : World} {base E n g c : Nat} {xs : List Value} (h : w.ownsRow base E 3 (.slice (some ⟨g, 0, none⟩) n c) n xs) : ∀ (j : Nat) (u : Value), xs[j]? = some u → w.cell? ⟨g, j, none⟩ = some u := by
  intro j u hu
  rcases h.2 with ⟨e, _⟩ | ⟨g', cap, cur, e, _, hh, _, _, _, ht⟩
  · cases e
  · cases e
    rw [cell_of_row w g j cur E (0, 0) hh]
    rw [← ht, List.getElem?_take] at hu
    split at hu
    · simpa using hu
    · cases hu
/-- A slice of what is saved, in memory: its row and its lists. -/
structure RL (w : World) (g lo hi c : Nat) (vs : List Sav) (xs : List Value) (a b : Nat → Nat) (A A' : Nat → Option Addr) (cc cc' : Nat → Nat) : Prop where
  row : w.ownsRow lo 29 3 (.slice (some ⟨g, 0, none⟩) vs.length c) vs.length xs
  el : EL w g lo hi vs xs a b A A' cc cc'
  gh : g < hi
theorem RL.below {w w' : World} {g lo hi c B : Nat} {vs : List Sav} {xs : List Value} {a b : Nat → Nat} {A A' : Nat → Option Addr} {cc cc' : Nat → Nat} (h : RL w g lo hi c vs xs a b A A' cc cc') (hb : Below B w w') (hB : hi ≤ B) : RL w' g lo hi c vs xs a b A A' cc cc' := by
  refine ⟨?_, h.el.below hb hB, h.gh⟩
  obtain ⟨h1, h2⟩ := h.row
  refine ⟨h1, ?_⟩
  rcases h2 with h2 | ⟨g', cap, cur, e, hg, hh, hr⟩
  · exact .inl h2
  · cases e
    exact .inr ⟨g, c, cur, rfl, hg, (hb.block g (Nat.lt_of_lt_of_le h.gh hB)).trans hh, hr⟩
theorem RL.lt {w : World} {g lo hi c : Nat} {vs : List Sav} {xs : List Value} {a b : Nat → Nat} {A A' : Nat → Option Addr} {cc cc' : Nat → Nat} (h : RL w g lo hi c vs xs a b A A' cc cc') : lo ≤ g ∧ g < w.heap.size := h.row.lt g rfl

set_option maxRecDepth 100000 in
set_option maxHeartbeats 400000 in
theorem eqSavedS_b (vs : List Sav) (g g' lo lo' hi hi' c c' : Nat) (xs xs' : List Value) (a b a' b' : Nat → Nat) (A A' D D' : Nat → Option Addr) (cc cc' d d' : Nat → Nat) (w : World) (h : RL w g lo hi c vs xs a b A A' cc cc') (h' : RL w g' lo' hi' c' vs xs' a' b' D D' d d') (hB : hi ≤ w.heap.size) (hB' : hi' ≤ w.heap.size) (hn : vs.length ≤ 8) (hF : ∀ v ∈ vs, Fine v) :
    Calls Tryz.prog 12 #[.slice (some ⟨g, 0, none⟩) vs.length c, .slice (some ⟨g', 0, none⟩) vs.length c'] w fun e w' => e = .returned (.bool true) ∧ Below w.heap.size w w' := by
  have HH := Lib.hid h
  have HH' := Lib.hid h'
  have HF := Lib.hid hF
  clear h h' hF
  go_enter Tryz.func12, Tryz.ntmps12
  go_wp2
  go_loopw [5] (fun i wr => ∃ k : Nat, k ≤ vs.length ∧ i = .int .i64 k ∧ Below w.heap.size w wr) (fun i _ => vs.length - (intOf i).toNat)
  case atStart => exact ⟨0, Nat.zero_le _, rfl, Below.refl _ _⟩
  case round =>
    obtain ⟨k, hk, rfl, hbr⟩ := hrel
    by_cases hlt : k < vs.length
    · have hr := HH.out.below hbr hB
      have hr' := HH'.out.below hbr hB'
      have x0 := row_cells hr.row _ _ (hr.el.c0 k hlt)
      have x1 := row_cells hr.row _ _ (hr.el.c1 k hlt)
      have x2 := row_cells hr.row _ _ (hr.el.c2 k hlt)
      have y0 := row_cells hr'.row _ _ (hr'.el.c0 k hlt)
      have y1 := row_cells hr'.row _ _ (hr'.el.c1 k hlt)
      have y2 := row_cells hr'.row _ _ (hr'.el.c2 k hlt)
      have he := hr.el.el k hlt
      have he' := hr'.el.el k hlt
      have hbh := Nat.le_trans (hr.el.hi k hlt) (Nat.le_trans hB hbr.size)
      have hbh' := Nat.le_trans (hr'.el.hi k hlt) (Nat.le_trans hB' hbr.size)
      have hf := HF.out (vs.getD k nilS) (by rw [List.getD, List.getElem?_eq_getElem hlt]; exact List.getElem_mem hlt)
      generalize vs.getD k nilS = v at *
      have HQ := fun W (hW : Below wr.heap.size wr W) => eqSaved_b v (A k) (A' k) (D k) (D' k) (cc k) (cc' k) (d k) (d' k) wr.heap.size W ((he.below hW hbh).reads hbh).1 ((he.below hW hbh).reads hbh).2 ((he'.below hW hbh').reads hbh').1 ((he'.below hW hbh').reads hbh').2 hW.size hf
      clear hr hr' he he' hbh hbh' hf
      go_wp2_with fail
      go_still_tail 8, (by kernel_rfl)
      change wpList _ _ _ _ _ wr.drew
      have hdr : Below wr.heap.size wr wr.drew := below_drew (Below.refl _ _)
      have HQ1 := HQ _ hdr
      clear HQ
      generalize wr.drew = w2 at *
      go_wp2_with fail
      (with_reducible refine HQ1.mono ?_)
      rintro e w3 ⟨rfl, hb3⟩
      clear HQ1
      have hb4 := hbr.trans ((hdr.trans (hb3.mono hdr.size)).mono hbr.size)
      clear x0 x1 x2 y0 y1 y2 hdr hb3
      go_wp2
      go_roundw
      case rel => exact ⟨k + 1, by omega, by go_num, hb4⟩
      case measure => simp [intOf]; omega
    · obtain rfl : k = vs.length := by omega
      go_wp2
      go_ret
      exact ⟨rfl, hbr⟩
end Go.Proofs.YtgfmnolmokpgnaaGreatDoor
