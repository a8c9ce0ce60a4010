/-
  Contract: spec.l07Begin: what bytes begin with.
-/
import Derived.Test.YtgfmnolmokpgnaaDoorStoreS
import Derived.Outline
import Derived.Deep.RegionLaw
import Derived.Deep.RegionHeld3
namespace Go.Proofs.YtgfmnolmokpgnaaDoor
open Go.RowKit

theorem info2 : (Tryd.prog.info? 2).map (fun i => (i.zero, i.size, i.bytes)) = some (some (.int .i64 0), 1, 8) := by kernel_rfl
theorem one_int (x : Int) : ∀ u ∈ [Value.int .i64 x], u.oneCell' = true := by intro u hu; simp at hu; subst hu; rfl
theorem one_cx (x y : Nat) : ∀ u ∈ [Value.complex .f32 x y], u.oneCell' = true := by intro u hu; simp at hu; subst hu; rfl
theorem infoC : (Tryd.prog.info? 76).map (fun i => (i.zero, i.size, i.bytes)) = some (some (.complex .f32 0 0), 1, 8) := by kernel_rfl
theorem sml_of {v : Sav} (h : savB v = true) (hb : ∀ k, k < v.P.length → (v.P.getD k (0, 0)).1 < 4294967296 ∧ (v.P.getD k (0, 0)).2 < 4294967296) : Sml v := by
  rw [savB, Bool.and_eq_true, Bool.and_eq_true] at h
  obtain ⟨h1, h2, h3⟩ := h
  unfold nameB at h1
  unfold polyB at h2
  unfold wholeB at h3
  simp only [Bool.and_eq_true, decide_eq_true_eq] at h1 h2 h3
  refine ⟨h1.1.2, h2.1.1.2, h3.1.1.2, hb, fun k hk => ?_⟩
  have := List.all_eq_true.1 h3.1.2 (v.W.getD k 0) (by rw [List.getD, List.getElem?_eq_getElem hk]; exact List.getElem_mem hk)
  unfold termB at this
  simpa using this
theorem rdP_lt (l : List UInt8) (a n : Nat) : ∀ k, k < (rdP l a n).length → ((rdP l a n).getD k (0, 0)).1 < 4294967296 ∧ ((rdP l a n).getD k (0, 0)).2 < 4294967296 := by
  intro k hk
  rw [rdP_len] at hk
  have : (rdP l a n).getD k (0, 0) = (rd4 l (a + 8 * k), rd4 l (a + 8 * k + 4)) := by simp [rdP, List.getD, hk]
  rw [this]
  exact ⟨rd4_lt _ _, rd4_lt _ _⟩

theorem ownsRow_kp {w w' : World} {base a b : Nat} {e : TypeId} {size : Nat} {v : Value} {n : Nat} {xs : List Value} (h : w.ownsRow base e size v n xs) (hk : Kp a b w w') (hd : b ≤ base) : w'.ownsRow base e size v n xs := by
  obtain ⟨h1, h2⟩ := h
  refine ⟨h1, ?_⟩
  rcases h2 with h2 | ⟨g, cap, cur, hv, hg, hh, r⟩
  · exact .inl h2
  · refine .inr ⟨g, cap, cur, hv, hg, (hk.block g ?_ (by omega)).trans hh, r⟩
    rcases Nat.lt_or_ge g w.heap.size with h | h
    · exact h
    · rw [Array.getElem?_eq_none h] at hh; cases hh
theorem row_set {w : World} {g o : Nat} {e : TypeId} {size : Nat} {v : Value} {n : Nat} {xs : List Value} (h : w.ownsRow (g + 1) e size v n xs) (u : Value) : (w.setCell ⟨g, o, none⟩ u).ownsRow (g + 1) e size v n xs :=
  ownsRow_kp h ((Kp.refl g (g + 1) w).setCell ⟨Nat.le_refl _, by simp⟩ u) (Nat.le_refl _)

theorem Blk.dr {w w' : World} {g : Nat} {t : TypeId} {cs : Array Value} (h : Blk w g t cs) {n : Nat} (e : w' = w.drewN n) : Blk w' g t cs := by rw [e]; exact h.drewN _
theorem below_dr {B : Nat} {a w w' : World} (h : Below B a w) {n : Nat} (e : w' = w.drewN n) : Below B a w' := by rw [e]; exact below_drewN h _
theorem row_dr {w w' : World} {base E m : Nat} {v : Value} {xs : List Value} (h : w.ownsRow base E 1 v m xs) {n : Nat} (e : w' = w.drewN n) : w'.ownsRow base E 1 v m xs :=
  ownsRow_below h (below_dr (Below.refl _ _) e)

theorem Blk.set_ne {w : World} {g b o : Nat} {t : TypeId} {cs : Array Value} (h : Blk w g t cs) (hne : g ≠ b) (u : Value) : Blk (w.setCell ⟨b, o, none⟩ u) g t cs := by
  unfold Blk at h ⊢
  simp only [World.setCell]
  rw [Array.getElem?_modify, if_neg (fun e => hne e.symm)]
  exact h

theorem Own.dr {w w' : World} {lo hi : Nat} {E : TypeId} {A : Option Addr} {xs : List Value} (h : Own w lo hi E A xs) {n : Nat} (e : w' = w.drewN n) : Own w' lo hi E A xs := by rw [e]; exact h.drewN _

theorem own_set {w : World} {b o hi : Nat} {E : TypeId} {A : Option Addr} {xs : List Value} (h : Own w (b + 1) hi E A xs) (v : Value) : Own (w.setCell ⟨b, o, none⟩ v) (b + 1) hi E A xs :=
  h.keep fun g h1 _ _ => Below.heap_setCell _ _ _ _ (by simp; omega)

/-- The two lists of what is saved lie from block lo on and below hi, one behind the other. -/
def SavIn (w : World) (lo hi : Nat) (v : Sav) (A A' : Option Addr) : Prop := ∃ m, lo ≤ m ∧ m ≤ hi ∧ Own w lo m 76 A (cplx v.P) ∧ Own w m hi 2 A' (ints v.W)
def GivesBeg (l : List UInt8) (w : World) (e : Ending) (w' : World) : Prop :=
  ∃ A A' c c', e = .returned (.tuple #[.agg #[.string (txt (begR l).nm), .slice A (begR l).P.length c, .slice A' (begR l).W.length c'], .int .i64 (begM l : Nat)]) ∧ SavIn w' w.heap.size w'.heap.size (begR l) A A' ∧ Below w.heap.size w w'
theorem beg_no {l : List UInt8} {w w' : World} (h : begB l = false) (hb : Below w.heap.size w w') :
    GivesBeg l w (.returned (.tuple #[.agg #[.string ⟨#[]⟩, .slice none 0 0, .slice none 0 0], .int .i64 0])) w' := by
  have h1 : begR l = ⟨[], [], []⟩ := by rw [begR, h]; rfl
  have h2 : begM l = 0 := by rw [begM, h]; rfl
  unfold GivesBeg
  rw [h1, h2]
  exact ⟨none, none, 0, 0, rfl, ⟨w.heap.size, Nat.le_refl _, hb.size, .inl rfl, .inl rfl⟩, hb⟩

theorem own_setL {w : World} {b o lo hi : Nat} {E : TypeId} {A : Option Addr} {xs : List Value} (h : Own w lo hi E A xs) (hlo : b < lo) (v : Value) : Own (w.setCell ⟨b, o, none⟩ v) lo hi E A xs :=
  h.keep fun g h1 _ _ => Below.heap_setCell _ _ _ _ (by simp; omega)
theorem own_set3 {w : World} {b lo hi : Nat} {E : TypeId} {A : Option Addr} {xs : List Value} {u1 u2 u3 : Value} (h : Own w lo hi E A xs) (hlo : b < lo) : Own (((w.setCell ⟨b, 0, none⟩ u1).setCell ⟨b, 1, none⟩ u2).setCell ⟨b, 2, none⟩ u3) lo hi E A xs :=
  own_setL (own_setL (own_setL h hlo u1) hlo u2) hlo u3
theorem beg_yes {l : List UInt8} {w w' : World} {A A' : Option Addr} {c c' n m : Nat} {q : Int} {nm : List UInt8} {P : List (Nat × Nat)} {W : List Int} (h : begB l = true) (hv : begV l = ⟨nm, P, W⟩) (hP : P.length = n) (hW : W.length = m) (hq : ((nC l + 2 : Nat) : Int) = q)
    (hs : SavIn w' w.heap.size w'.heap.size ⟨nm, P, W⟩ A A') (hb : Below w.heap.size w w') : GivesBeg l w (.returned (.tuple #[.agg #[.string (txt nm), .slice A n c, .slice A' m c'], .int .i64 q])) w' := by
  have h1 : begR l = ⟨nm, P, W⟩ := by rw [begR, h]; exact hv
  have h2 : begM l = nC l + 2 := by rw [begM, h]; rfl
  subst hP hW hq
  unfold GivesBeg
  rw [h1, h2]
  exact ⟨A, A', c, c', rfl, hs, hb⟩

end Go.Proofs.YtgfmnolmokpgnaaDoor
