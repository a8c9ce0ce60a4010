/-
  Contracts: spec.l08ReadReal, spec.ReadReal, impl.checkedReal, impl.ReadReal.
-/
import Derived.Test.YtlcckgpidjneeaaDoorNumI
import Derived.Test.YtlcckgpidjneeaaDoorReal
namespace Go.Proofs.YtlcckgpidjneeaaDoor
open Go.RowKit

theorem bcell2 {W w1 : World} (hb : Below W.heap.size W w1) : (∀ b o, b < W.heap.size → w1.cell? ⟨b, o, none⟩ = W.cell? ⟨b, o, none⟩) ∧ (∀ b o, b < W.heap.size → w1.frozen? ⟨b, o, none⟩ = W.frozen? ⟨b, o, none⟩) :=
  ⟨fun b o h => hb.cell (p := ⟨b, o, none⟩) h, fun b o h => hb.frozen (p := ⟨b, o, none⟩) h⟩

def rrB (l : List UInt8) : Bool := rlB l && realB (rlR l)
def rrR (l : List UInt8) : List Int := if rrB l then rlR l else []
def GivesR (R : List Int) (b : Bool) (w : World) (e : Ending) (w' : World) : Prop :=
  ∃ A c, e = .returned (.tuple #[.agg #[.slice A R.length c], .bool b]) ∧ Own w' w.heap.size w'.heap.size 2 A (ints R) ∧ Below w.heap.size w w'
theorem rlR_len (l : List UInt8) : (rlR l).length ≤ 64 := by
  unfold rlR
  split
  · rename_i h
    split
    · simp
    · rename_i hn
      rw [rlB, if_neg hn] at h
      simp only [Bool.and_eq_true, decide_eq_true_eq] at h
      simp [h.1]
  · simp

theorem own_set {w : World} {b hi : Nat} {E : TypeId} {A : Option Addr} {xs : List Value} (h : Own w (b + 1) hi E A xs) (v : Value) : Own (w.setCell ⟨b, 0, none⟩ v) (b + 1) hi E A xs :=
  h.keep fun g h1 _ _ => Below.heap_setCell _ _ _ _ (by simp; omega)
theorem own_new {w : World} {lo : Nat} {E : TypeId} {A : Option Addr} {xs : List Value} (h : Own w lo w.heap.size E A xs) (o : Obj) : Own (w.alloc o) lo (w.alloc o).heap.size E A xs :=
  (h.keep fun g _ _ h3 => Below.heap_alloc _ _ _ h3).wide (Nat.le_refl _) (by simp)

set_option maxRecDepth 100000 in
set_option maxHeartbeats 400000 in
theorem l08ReadReal_any (s : ByteArray) (w : World) (hs : s.size ≤ 1048576) :
    Calls Tryd.prog 47 #[.string s] w (GivesR (rrR s.data.toList) (rrB s.data.toList) w) := by
  have hb0 : Below w.heap.size w (w.alloc (.cells #[.slice none 0 0] 31)) := (Below.refl _ _).alloc (Nat.le_refl _) _
  have HN := l01Numbers_any s (w.alloc (.cells #[.slice none 0 0] 31)) hs
  have hl := rlR_len s.data.toList
  cases hb : rlB s.data.toList with
  | true =>
    cases hr : realB (rlR s.data.toList) with
    | true =>
      have hB : rrB s.data.toList = true := by rw [rrB, hb, hr]; rfl
      have hR : rrR s.data.toList = rlR s.data.toList := by rw [rrR, hB, if_pos rfl]
      rw [hB, hR]
      rw [hb] at HN
      have HI := fun p A c B W h1 h2 => l04Is_any p A c B (rlR s.data.toList) W h1 h2 (by omega)
      rw [hr] at HI
      clear hb hr hB hR
      generalize rlR s.data.toList = zs at *
      go_enter Tryd.func47, Tryd.ntmps47
      go_wp2_with fail
      (with_reducible refine HN.mono ?_)
      rintro e w1 ⟨A, c, rfl, hO, hb1⟩
      clear HN
      have hb2 : Below w1.heap.size w1 (w1.alloc (.cells #[.slice A zs.length c] 31)) := (Below.refl _ _).alloc (Nat.le_refl _) _
      have hO2 := hO.below hb2 (Nat.le_refl _)
      have hc2 : (w1.alloc (.cells #[.slice A zs.length c] 31)).cell? ⟨w1.heap.size, 0, none⟩ = some (.slice A zs.length c) := by
        rw [cell_of_row _ _ 0 _ _ _ (heap_alloc_new w1 _)]; rfl
      obtain ⟨hc, hf⟩ := bcell2 hb1
      have hz : w.heap.size < w1.heap.size := by have := hb1.size; simp at this; omega
      have HI2 := HI w1.heap.size A c _ _ hc2 (hO2.reads' (Nat.le_refl _) (by simp))
      clear HI
      have hbw : Below w.heap.size w (w1.alloc (.cells #[.slice A zs.length c] 31)) := (hb0.trans (hb1.mono hb0.size)).trans (hb2.mono (by omega))
      go_wp2_with fail
      (with_reducible refine HI2.mono ?_)
      rintro e w' ⟨rfl, rfl⟩
      clear HI2
      go_wp2
      refine bodyPost_ret (v := .tuple #[.agg #[.slice A zs.length c], .bool true]) (by simp [results, Tryd.results47, go_sem, hc, hz]) rfl ⟨A, c, rfl, ?_, ((hb0.trans (hb1.mono hb0.size)).setCell (Nat.le_refl _) _).alloc (by simp [World.setCell]; omega) _⟩
      have hO1 : Own w1 (w.heap.size + 1) w1.heap.size 2 A (ints zs) := hO.wide (by simp) (Nat.le_refl _)
      exact (own_new (w := w1.setCell ⟨w.heap.size, 0, none⟩ (.slice A zs.length c)) ((own_set hO1 _).wide (by omega) (by simp [World.setCell])) _).wide (Nat.le_refl _) (Nat.le_refl _)
    | false =>
      have hB : rrB s.data.toList = false := by rw [rrB, hb, hr]; rfl
      have hR : rrR s.data.toList = [] := by rw [rrR, hB]; rfl
      rw [hB, hR]
      rw [hb] at HN
      have HI := fun p A c B W h1 h2 => l04Is_any p A c B (rlR s.data.toList) W h1 h2 (by omega)
      rw [hr] at HI
      clear hb hr hB hR
      generalize rlR s.data.toList = zs at *
      go_enter Tryd.func47, Tryd.ntmps47
      go_wp2_with fail
      (with_reducible refine HN.mono ?_)
      rintro e w1 ⟨A, c, rfl, hO, hb1⟩
      clear HN
      have hb2 : Below w1.heap.size w1 (w1.alloc (.cells #[.slice A zs.length c] 31)) := (Below.refl _ _).alloc (Nat.le_refl _) _
      have hO2 := hO.below hb2 (Nat.le_refl _)
      have hc2 : (w1.alloc (.cells #[.slice A zs.length c] 31)).cell? ⟨w1.heap.size, 0, none⟩ = some (.slice A zs.length c) := by
        rw [cell_of_row _ _ 0 _ _ _ (heap_alloc_new w1 _)]; rfl
      obtain ⟨hc, hf⟩ := bcell2 hb1
      have hz : w.heap.size < w1.heap.size := by have := hb1.size; simp at this; omega
      have HI2 := HI w1.heap.size A c _ _ hc2 (hO2.reads' (Nat.le_refl _) (by simp))
      clear HI
      go_wp2_with fail
      (with_reducible refine HI2.mono ?_)
      rintro e w' ⟨rfl, rfl⟩
      clear HI2
      go_wp2
      exact bodyPost_ret (v := .tuple #[.agg #[.slice none 0 0], .bool false]) (by simp [results, Tryd.results47, go_sem, hc, hz]) rfl ⟨none, 0, rfl, .inl rfl, ((hb0.trans (hb1.mono hb0.size)).setCell (Nat.le_refl _) _).alloc (by simp [World.setCell]; omega) _⟩
  | false =>
    have hB : rrB s.data.toList = false := by rw [rrB, hb]; rfl
    have hR : rrR s.data.toList = [] := by rw [rrR, hB]; rfl
    rw [hB, hR]
    rw [hb] at HN
    clear hb hB hR
    generalize rlR s.data.toList = zs at *
    go_enter Tryd.func47, Tryd.ntmps47
    go_wp2_with fail
    (with_reducible refine HN.mono ?_)
    rintro e w1 ⟨A, c, rfl, hO, hb1⟩
    clear HN
    obtain ⟨hc, hf⟩ := bcell2 hb1
    have hz : w.heap.size < w1.heap.size := by have := hb1.size; simp at this; omega
    go_wp2
    exact bodyPost_ret (v := .tuple #[.agg #[.slice none 0 0], .bool false]) (by simp [results, Tryd.results47, go_sem, hc, hz]) rfl ⟨none, 0, rfl, .inl rfl, ((hb0.trans (hb1.mono hb0.size)).setCell (Nat.le_refl _) _).alloc (by simp [World.setCell]; omega) _⟩

set_option maxRecDepth 100000 in
theorem readRealS_any (s : ByteArray) (w : World) (hs : s.size ≤ 1048576) :
    Calls Tryd.prog 24 #[.string s] w (GivesR (rrR s.data.toList) (rrB s.data.toList) w) := by
  have hb0 : Below w.heap.size w (w.alloc (.cells #[.slice none 0 0] 31)) := (Below.refl _ _).alloc (Nat.le_refl _) _
  have HN := l08ReadReal_any s (w.alloc (.cells #[.slice none 0 0] 31)) hs
  generalize rrR s.data.toList = zs at *
  generalize rrB s.data.toList = b at *
  go_enter Tryd.func24, Tryd.ntmps24
  go_wp2_with fail
  (with_reducible refine HN.mono ?_)
  rintro e w1 ⟨A, c, rfl, hO, hb1⟩
  clear HN
  obtain ⟨hc, hf⟩ := bcell2 hb1
  have hz : w.heap.size < w1.heap.size := by have := hb1.size; simp at this; omega
  go_wp2
  refine bodyPost_ret (v := .tuple #[.agg #[.slice A zs.length c], .bool b]) (by simp [results, Tryd.results24, go_sem, hc]) rfl ⟨A, c, rfl, ?_, (hb0.trans (hb1.mono hb0.size)).setCell (Nat.le_refl _) _⟩
  have hO1 : Own w1 (w.heap.size + 1) w1.heap.size 2 A (ints zs) := hO.wide (by simp) (Nat.le_refl _)
  exact (own_set hO1 _).wide (by omega) (by simp [World.setCell])
end Go.Proofs.YtlcckgpidjneeaaDoor
