/-
  Contracts: a slice of what is saved, marked and held (markSavedS, heldSavedS).
-/
import Derived.Test.YtgfmnolmokpgnaaGreatDoorMkM
import Derived.BigQuiet
namespace Go.Proofs.YtgfmnolmokpgnaaGreatDoor
open Go.RowKit

theorem Stays.start {p : Addr} {v : Value} {w : World} (h : w.cell? p = some v) : w.drew.cell? p = some v ∧ Below w.heap.size w w.drew := ⟨h, ⟨rfl, rfl, rfl, Nat.le_refl _, fun _ _ => rfl⟩⟩
theorem Stays.call {p : Addr} {v : Value} {w0 w w' : World} (h : w.cell? p = some v ∧ Below w0.heap.size w0 w) (hp : p.block < w0.heap.size) (hb : Below w.heap.size w w') : w'.cell? p = some v ∧ Below w0.heap.size w0 w' :=
  ⟨(hb.cell (Nat.lt_of_lt_of_le hp h.2.size)).trans h.1, h.2.trans (hb.mono h.2.size)⟩

theorem row_blk3 {w : World} {base E n g c : Nat} {xs : List Value} (h : w.ownsRow base E 3 (.slice (some ⟨g, 0, none⟩) n c) n xs) : ∃ cs, Blk w g E cs := by
  rcases h.2 with ⟨e, _⟩ | ⟨g', cap, cur, e, _, hh, _⟩
  · cases e
  · cases e; exact ⟨cur, hh⟩
theorem row_kp3 {w w' : World} {base E n g c p q : Nat} {xs : List Value} (h : w.ownsRow base E 3 (.slice (some ⟨g, 0, none⟩) n c) n xs) (hk : Kp p q w w') (hg : g < p ∨ q ≤ g) : w'.ownsRow base E 3 (.slice (some ⟨g, 0, none⟩) n c) n xs := by
  have hl := h.lt g rfl
  obtain ⟨h1, h2⟩ := h
  refine ⟨h1, ?_⟩
  rcases h2 with h2 | ⟨g', cap, cur, e, h3, hh, hr⟩
  · exact .inl h2
  · cases e
    exact .inr ⟨g, c, cur, rfl, h3, (hk.block g hl.2 hg).trans hh, hr⟩

/-- A slice of what is saved, the first k marked. -/
structure MkSt (w0 w : World) (g lo hi c : Nat) (vs : List Sav) (a b : Nat → Nat) (A A' : Nat → Option Addr) (cc cc' : Nat → Nat) (k : Nat) : Prop where
  made ::
  st : ∃ L xs, L.length = vs.length ∧ (∀ j, j < vs.length → L.getD j nilS = if j < k then markAt vs j else vs.getD j nilS) ∧ w.ownsRow lo 29 3 (.slice (some ⟨g, 0, none⟩) vs.length c) vs.length xs ∧ EL w g lo hi L xs a b A A' cc cc'
  kp : Kp lo hi w0 w
  gh : g < hi

section
variable {w0 w : World} {g lo hi c k : Nat} {vs : List Sav} {xs : List Value} {a b : Nat → Nat} {A A' : Nat → Option Addr} {cc cc' : Nat → Nat}
theorem MkSt.start (h : RL w g lo hi c vs xs a b A A' cc cc') : MkSt w w g lo hi c vs a b A A' cc cc' 0 :=
  ⟨⟨vs, xs, rfl, fun j _ => by simp, h.row, h.el⟩, Kp.refl _ _ _, h.gh⟩
/-- What round k reads. -/
theorem MkSt.see (h : MkSt w0 w g lo hi c vs a b A A' cc cc' k) (hk : k < vs.length) (hhi : hi ≤ w.heap.size) :
    (∃ x, w.cell? ⟨g, k * 3, none⟩ = some (.string x)) ∧ w.cell? ⟨g, k * 3 + 1, none⟩ = some (.slice (A k) (vs.getD k nilS).P.length (cc k)) ∧ w.cell? ⟨g, k * 3 + 2, none⟩ = some (.slice (A' k) (vs.getD k nilS).W.length (cc' k)) ∧ (∃ cs, Blk w g 29 cs) ∧ SavIn w (a k) (b k) (vs.getD k nilS) (A k) (A' k) ∧ b k ≤ w.heap.size ∧ (g < a k ∨ b k ≤ g) ∧ g < w.heap.size ∧ lo ≤ a k ∧ b k ≤ hi := by
  obtain ⟨L, xs, hl, hL, hr, he⟩ := h.st
  have hkL : k < L.length := by omega
  have e := hL k hk
  rw [if_neg (Nat.lt_irrefl _)] at e
  obtain ⟨cs, hb⟩ := row_blk3 hr
  have h0 := row_cells hr _ _ (he.c0 k hkL)
  have h1 := row_cells hr _ _ (he.c1 k hkL)
  have h2 := row_cells hr _ _ (he.c2 k hkL)
  have h3 := he.el k hkL
  rw [e] at h0 h1 h2 h3
  exact ⟨⟨_, h0⟩, h1, h2, ⟨cs, hb⟩, h3, Nat.le_trans (he.hi k hkL) hhi, he.ap k hkL, (hr.lt g rfl).2, he.lo k hkL, he.hi k hkL⟩
theorem Kp.wide {p q p' q' : Nat} {w w' : World} (h : Kp p q w w') (h1 : p' ≤ p) (h2 : q ≤ q') : Kp p' q' w w' :=
  ⟨h.os, h.tape, h.output, h.size, fun k hk hd => h.block k hk (by omega)⟩
theorem MkSt.next (h : MkSt w0 w g lo hi c vs a b A A' cc cc' k) (hk : k < vs.length) {w1 w4 : World} (hb1 : Below w.heap.size w w1)
    (hkp : Kp (a k) (b k) (w1.setCell ⟨g, k * 3, none⟩ (.string (txt (mk (pos vs k))))) w4) (hv : SavIn w4 (a k) (b k) (markAt vs k) (A k) (A' k)) : MkSt w0 w4 g lo hi c vs a b A A' cc cc' (k + 1) := by
  obtain ⟨L, xs, hl, hL, hr, he⟩ := h.st
  have hkL : k < L.length := by omega
  have hlt := hr.lt g rfl
  have e := hL k hk
  rw [if_neg (Nat.lt_irrefl _)] at e
  have hr1 := row_kp3 (row_set3 (j := k * 3) (u := .string (txt (mk (pos vs k)))) (ownsRow_below3 hr hb1)) hkp (he.ap k hkL)
  have hlo := he.lo k hkL
  have hhi := he.hi k hkL
  have he1 := he.mark (w' := w4) hkL (v := markAt vs k) (by rw [e]; simp [markAt]) (by rw [e]; simp [markAt]) (fun i i1 i2 i3 => by
    have hs1 := hb1.size
    rw [hkp.block i (by simp [World.setCell]; omega) i3, Below.heap_setCell _ _ _ _ (by simpa using i1), hb1.block i i2]) hv
  refine ⟨⟨L.set k (markAt vs k), _, by simp [hl], fun j hj => ?_, hr1, he1⟩, h.kp.trans (((Kp.of_below hb1).setCell ⟨hlt.1, h.gh⟩ _).trans (hkp.wide hlo hhi)), h.gh⟩
  rw [getD_set hkL]
  by_cases ej : j = k
  · subst ej; rw [if_pos rfl, if_pos (by omega)]
  · rw [if_neg ej, hL j hj]
    by_cases h' : j < k
    · rw [if_pos h', if_pos (by omega)]
    · rw [if_neg h', if_neg (by omega)]
theorem MkSt.stop (h : MkSt w0 w g lo hi c vs a b A A' cc cc' vs.length) : (∃ xs, RL w g lo hi c (markAll vs) xs a b A A' cc cc') ∧ Kp lo hi w0 w := by
  obtain ⟨L, xs, hl, hL, hr, he⟩ := h.st
  have hE : L = markAll vs := sav_ext (by simp [hl]) fun k hk => by
    rw [hL k (by omega), if_pos (by omega), markAll_at (by omega)]
  subst hE
  exact ⟨⟨xs, by rw [markAll_len]; exact hr, he, h.gh⟩, h.kp⟩
end

set_option maxRecDepth 100000 in
set_option maxHeartbeats 800000 in
theorem markSavedS_b (vs : List Sav) (g lo hi c : Nat) (xs : List Value) (a b : Nat → Nat) (A A' : Nat → Option Addr) (cc cc' : Nat → Nat) (w : World) (h : RL w g lo hi c vs xs a b A A' cc cc') (hB : hi ≤ w.heap.size) (hn : vs.length ≤ 8) (hF : ∀ v ∈ vs, Fine v) :
    Calls Tryz.prog 13 #[.slice (some ⟨g, 0, none⟩) vs.length c, .int .i64 1] w fun e w' => e = .returned (.int .i64 ((pos vs vs.length : Nat) : Int)) ∧ (∃ xs', RL w' g lo hi c (markAll vs) xs' a b A A' cc cc') ∧ Kp lo hi w w' := by
  have HS := MkSt.start h
  have HF := Lib.hid hF
  clear h hF
  go_enter Tryz.func13, Tryz.ntmps13
  go_wp2
  go_loopw [1, 5] (fun q i wr => ∃ k : Nat, k ≤ vs.length ∧ i = .int .i64 k ∧ q = .int .i64 ((pos vs k : Nat) : Int) ∧ MkSt w wr g lo hi c vs a b A A' cc cc' k) (fun _ i _ => vs.length - (intOf i).toNat)
  case atStart => exact ⟨0, Nat.zero_le _, rfl, rfl, HS⟩
  case round =>
    obtain ⟨k, hk, rfl, rfl, hst⟩ := hrel
    clear HS
    by_cases hlt : k < vs.length
    · obtain ⟨⟨x0, hc0⟩, hc1, hc2, ⟨cs, hbk⟩, hin, hbs, hap, hgs, hla, hbh⟩ := hst.see hlt (Nat.le_trans hB hst.kp.size)
      have hNX := fun w1 w4 h1 h2 h3 => hst.next hlt (w1 := w1) (w4 := w4) h1 h2 h3
      have hps : pos vs (k + 1) = pos vs k + 1 + (vs.getD k nilS).P.length + (vs.getD k nilS).W.length := by simp only [pos, szv]; omega
      have hpl := pos_le HF.out k hk
      have hf := fine_getD HF.out hlt
      have hfp := hf.p
      have hft := hf.t
      unfold markAt at hNX
      generalize vs.getD k nilS = v at *
      generalize pos vs k = p at *
      have HM := fun W => markText_any p W (by omega) (by omega)
      clear hst hf
      go_wp2_with fail
      (with_reducible refine (HM _).mono ?_)
      rintro e w1 ⟨rfl, hb1⟩
      clear HM
      obtain ⟨m, k1, k2, k3, k4⟩ := hin
      have hs1 := hb1.size
      have hNX1 := hNX w1
      clear hNX
      have hk1 := hbk.below hb1 hgs
      have f0 : w1.frozen? ⟨g, k * 3, none⟩ = false := hk1.frozen _
      have d0 : w1.cell? ⟨g, k * 3, none⟩ = _ := (hb1.cell hgs).trans hc0
      have hk2 := hk1.set_ (k * 3) (.string (txt (mk p)))
      have d1 : (w1.setCell ⟨g, k * 3, none⟩ (.string (txt (mk p)))).cell? ⟨g, k * 3 + 1, none⟩ = some (.slice (A k) v.P.length (cc k)) := by
        rw [hk2.cell, Array.getElem?_setIfInBounds_ne (by omega), ← hbk.cell]; exact hc1
      have d2 : cs[k * 3 + 2]? = some (.slice (A' k) v.W.length (cc' k)) := (hbk.cell _).symm.trans hc2
      have hkp2 : Kp g (g + 1) wr (w1.setCell ⟨g, k * 3, none⟩ (.string (txt (mk p)))) := (Kp.of_below hb1).setCell (p := ⟨g, k * 3, none⟩) (by simp) _
      have hO1 := k3.kp hkp2 (by omega)
      have hO2 := k4.kp hkp2 (by omega)
      have hs2 := hkp2.size
      clear hc0 hc1 hc2 hbk hk1 k3 k4 hkp2
      have hq1 : IntKind.i64.wrap ((p : Int) + 1) = (p : Int) + 1 := IntWalk.i64_in _ (by omega)
      have HC := markComplex64S_any (A k) (cc k) (a k) m ((p : Int) + 1) v.P _ hO1 (by omega) (by omega)
      go_wp2_with fail
      (with_reducible refine HC.mono ?_)
      rintro e w3 ⟨rfl, hO3, hkp3⟩
      clear HC d0 f0 d1
      have hk3 := hk2.kp hkp3 (by omega)
      have e2 : w3.cell? ⟨g, k * 3 + 2, none⟩ = some (.slice (A' k) v.W.length (cc' k)) := by
        rw [hk3.cell, Array.getElem?_setIfInBounds_ne (by omega)]; exact d2
      have hO4 := hO2.kp hkp3 (.inr (Nat.le_refl _))
      have HI := markInt64S_any (A' k) (cc' k) m (b k) ((p : Int) + 1 + (v.P.length : Int)) v.W _ hO4 (by omega) (by omega)
      clear hk2 hk3 hO1 hO2 hO4 d2
      go_wp2_with fail
      (with_reducible refine HI.mono ?_)
      rintro e w4 ⟨rfl, hO5, hkp4⟩
      clear HI e2
      have hO6 := hO3.kp hkp4 (.inl (Nat.le_refl _))
      have hst4 := hNX1 w4 hb1 ((hkp3.wide (Nat.le_refl _) k2).trans (hkp4.wide k1 (Nat.le_refl _))) ⟨m, k1, k2, by simpa using hO6, by simpa using hO5⟩
      clear hNX1 hb1 hkp3 hkp4 hO3 hO5 hO6
      go_wp2
      go_roundw
      case rel => exact ⟨k + 1, by omega, by go_num, by rw [hps]; go_num, hst4⟩
      case measure => simp [intOf]; omega
    · obtain rfl : k = vs.length := by omega
      obtain ⟨h1, h2⟩ := hst.stop
      go_wp2
      go_ret
      exact ⟨rfl, h1, h2⟩
end Go.Proofs.YtgfmnolmokpgnaaGreatDoor
