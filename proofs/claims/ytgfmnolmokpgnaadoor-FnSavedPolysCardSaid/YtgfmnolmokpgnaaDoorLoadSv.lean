/-
  Contracts: spec.LoadSaved, impl.LoadSaved.
-/
import Derived.Test.YtgfmnolmokpgnaaDoorLoadI
namespace Go.Proofs.YtgfmnolmokpgnaaDoor
open Go.RowKit
/-- Bytes are of what is saved, and of nothing else; that. -/
def lsB (l : List UInt8) : Bool := begB l && decide (nC l + 2 = l.length)
def lsR (l : List UInt8) : Sav := if lsB l then begV l else ⟨[], [], []⟩
def GivesS (R : Sav) (b : Bool) (w : World) (e : Ending) (w' : World) : Prop :=
  ∃ A A' c c', e = .returned (.tuple #[.agg #[.string (txt R.nm), .slice A R.P.length c, .slice A' R.W.length c'], .bool b]) ∧ SavIn w' w.heap.size w'.heap.size R A A' ∧ Below w.heap.size w w'
theorem s_no {w w' : World} (hb : Below w.heap.size w w') : GivesS ⟨[], [], []⟩ false w (.returned (.tuple #[.agg #[.string ⟨#[]⟩, .slice none 0 0, .slice none 0 0], .bool false])) w' :=
  ⟨none, none, 0, 0, rfl, ⟨w.heap.size, Nat.le_refl _, hb.size, .inl rfl, .inl rfl⟩, hb⟩
theorem SavIn.below {w w' : World} {lo hi B : Nat} {v : Sav} {A A' : Option Addr} (h : SavIn w lo hi v A A') (hb : Below B w w') (hB : hi ≤ B) : SavIn w' lo hi v A A' := by
  obtain ⟨m, h1, h2, h3, h4⟩ := h
  exact ⟨m, h1, h2, h3.below hb (by omega), h4.below hb hB⟩
theorem SavIn.wide {w : World} {lo hi lo' hi' : Nat} {v : Sav} {A A' : Option Addr} (h : SavIn w lo hi v A A') (h1 : lo' ≤ lo) (h2 : hi ≤ hi') : SavIn w lo' hi' v A A' := by
  obtain ⟨m, k1, k2, k3, k4⟩ := h
  exact ⟨m, by omega, by omega, k3.wide h1 (Nat.le_refl _), k4.wide (Nat.le_refl _) h2⟩
theorem SavIn.set3 {w : World} {lo hi b : Nat} {v : Sav} {A A' : Option Addr} {u1 u2 u3 : Value} (h : SavIn w lo hi v A A') (hb : b < lo) : SavIn (((w.setCell ⟨b, 0, none⟩ u1).setCell ⟨b, 1, none⟩ u2).setCell ⟨b, 2, none⟩ u3) lo hi v A A' := by
  obtain ⟨m, k1, k2, k3, k4⟩ := h
  exact ⟨m, k1, k2, own_set3 k3 hb, own_set3 k4 (by omega)⟩

set_option maxRecDepth 100000 in
set_option maxHeartbeats 400000 in
theorem loadSavedI_any (s : ByteArray) (w : World) (hn : s.size ≤ 1048576) :
    Calls Tryd.prog 7 #[.string s] w (GivesS (lsR s.data.toList) (lsB s.data.toList) w) := by
  have hz : s.data.toList.length = s.size := (Lib.size_eq s).symm
  have hb0 : Below w.heap.size w (w.alloc (.cells #[.string ⟨#[]⟩, .slice none 0 0, .slice none 0 0] 36)) := (Below.refl _ _).alloc (Nat.le_refl _) _
  have hB0 := blk_new w #[.string ⟨#[]⟩, .slice none 0 0, .slice none 0 0] 36
  have HN := load_any s (w.alloc (.cells #[.string ⟨#[]⟩, .slice none 0 0, .slice none 0 0] 36)) hn
  have hC := nC_lt s.data.toList
  cases hbb : begB s.data.toList with
  | false =>
    have h1 : lsB s.data.toList = false := by rw [lsB, hbb]; rfl
    have h2 : lsR s.data.toList = ⟨[], [], []⟩ := by rw [lsR, h1]; rfl
    have h3 : begM s.data.toList = 0 := by rw [begM, hbb]; rfl
    have h4 : begR s.data.toList = ⟨[], [], []⟩ := by rw [begR, hbb]; rfl
    rw [h1, h2]
    unfold GivesLd at HN
    simp only [h3, h4, hbb] at HN
    clear h1 h2 h3 h4 hbb hC hz
    go_enter Tryd.func7, Tryd.ntmps7
    go_wp2_with fail
    (with_reducible refine HN.mono ?_)
    rintro e w1 ⟨A, A', c, c', rfl, hI, hb1⟩
    clear HN
    have hB1 := hB0.below hb1 hB0.lt
    have hb2 := hb0.trans (hb1.mono (by simp))
    have z1 : w1.cell? ⟨w.heap.size, 0, none⟩ = _ := hB1.cell 0
    have z2 : w1.cell? ⟨w.heap.size, 1, none⟩ = _ := hB1.cell 1
    have z3 : w1.cell? ⟨w.heap.size, 2, none⟩ = _ := hB1.cell 2
    have f1 := hB1.frozen 0
    have f2 := hB1.frozen 1
    have f3 := hB1.frozen 2
    have hz1 : w.heap.size < w1.heap.size := hB1.lt
    go_wp2
    refine bodyPost_ret (v := .tuple #[.agg #[.string ⟨#[]⟩, .slice none 0 0, .slice none 0 0], .bool false]) (by simp [results, Tryd.results7, go_sem, z1, z2, z3, hz1]) rfl (s_no ?_)
    exact (((hb2.setCell (Nat.le_refl _) _).setCell (Nat.le_refl _) _).setCell (Nat.le_refl _) _).alloc (by simp [World.setCell]; omega) _
  | true =>
    have h3 : begM s.data.toList = nC s.data.toList + 2 := by rw [begM, hbb]; rfl
    have h4 : begR s.data.toList = begV s.data.toList := by rw [begR, hbb]; rfl
    unfold GivesLd at HN
    simp only [h3, h4, hbb] at HN
    by_cases hl : nC s.data.toList + 2 = s.size
    · have h1 : lsB s.data.toList = true := by rw [lsB, hbb, hz]; simp [hl]
      have h2 : lsR s.data.toList = begV s.data.toList := by rw [lsR, h1]; rfl
      rw [h1, h2]
      clear h1 h2 h3 h4 hbb hz
      have hl' : (((nC s.data.toList + 2 : Nat) : Int) == (s.size : Int)) = true := by simp; omega
      have hl2 : (((nC s.data.toList + 2 : Nat) : Int) == 0) = false := by simp; omega
      have hl3 : (((nC s.data.toList + 2 : Nat) : Int) != (s.size : Int)) = false := by simp; omega
      clear hl
      generalize nC s.data.toList + 2 = q at *
      generalize begV s.data.toList = v at *
      go_enter Tryd.func7, Tryd.ntmps7
      go_wp2_with fail
      (with_reducible refine HN.mono ?_)
      rintro e w1 ⟨A, A', c, c', rfl, hI, hb1⟩
      clear HN
      have hB1 := hB0.below hb1 hB0.lt
      have hb2 := hb0.trans (hb1.mono (by simp))
      have z1 : w1.cell? ⟨w.heap.size, 0, none⟩ = _ := hB1.cell 0
      have z2 : w1.cell? ⟨w.heap.size, 1, none⟩ = _ := hB1.cell 1
      have z3 : w1.cell? ⟨w.heap.size, 2, none⟩ = _ := hB1.cell 2
      have f1 := hB1.frozen 0
      have f2 := hB1.frozen 1
      have f3 := hB1.frozen 2
      have hz1 : w.heap.size < w1.heap.size := hB1.lt
      go_wp2
      refine bodyPost_ret (v := .tuple #[.agg #[.string (txt v.nm), .slice A v.P.length c, .slice A' v.W.length c'], .bool true]) (by simp [results, Tryd.results7, go_sem, z1, z2, z3, hz1]) rfl ⟨A, A', c, c', rfl, ?_, (((hb2.setCell (Nat.le_refl _) _).setCell (Nat.le_refl _) _).setCell (Nat.le_refl _) _).alloc (by simp [World.setCell]; omega) _⟩
      exact ((hI.set3 (by simp)).below ((Below.refl _ _).alloc (Nat.le_refl _) _) (by simp [World.setCell])).wide (by simp) (by simp [World.setCell])
    · have h1 : lsB s.data.toList = false := by rw [lsB, hbb, hz]; simp [hl]
      have h2 : lsR s.data.toList = ⟨[], [], []⟩ := by rw [lsR, h1]; rfl
      rw [h1, h2]
      clear h1 h2 h3 h4 hbb hz
      have hl' : (((nC s.data.toList + 2 : Nat) : Int) == (s.size : Int)) = false := by simp; omega
      have hl2 : (((nC s.data.toList + 2 : Nat) : Int) == 0) = false := by simp; omega
      have hl3 : (((nC s.data.toList + 2 : Nat) : Int) != (s.size : Int)) = true := by simp; omega
      clear hl
      generalize nC s.data.toList + 2 = q at *
      generalize begV s.data.toList = v at *
      go_enter Tryd.func7, Tryd.ntmps7
      go_wp2_with fail
      (with_reducible refine HN.mono ?_)
      rintro e w1 ⟨A, A', c, c', rfl, hI, hb1⟩
      clear HN
      have hB1 := hB0.below hb1 hB0.lt
      have hb2 := hb0.trans (hb1.mono (by simp))
      have z1 : w1.cell? ⟨w.heap.size, 0, none⟩ = _ := hB1.cell 0
      have z2 : w1.cell? ⟨w.heap.size, 1, none⟩ = _ := hB1.cell 1
      have z3 : w1.cell? ⟨w.heap.size, 2, none⟩ = _ := hB1.cell 2
      have f1 := hB1.frozen 0
      have f2 := hB1.frozen 1
      have f3 := hB1.frozen 2
      have hz1 : w.heap.size < w1.heap.size := hB1.lt
      go_wp2
      refine bodyPost_ret (v := .tuple #[.agg #[.string ⟨#[]⟩, .slice none 0 0, .slice none 0 0], .bool false]) (by simp [results, Tryd.results7, go_sem, z1, z2, z3, hz1]) rfl (s_no ?_)
      exact (((hb2.setCell (Nat.le_refl _) _).setCell (Nat.le_refl _) _).setCell (Nat.le_refl _) _).alloc (by simp [World.setCell]; omega) _
end Go.Proofs.YtgfmnolmokpgnaaDoor
