/-
  Contracts: spec.l08ReadPoly, impl.ReadPoly.
-/
import Derived.Test.YtfiakhhippfkaaaGreatDoorReadS
import Derived.Test.YtfiakhhippfkaaaGreatDoorPolyS
namespace Go.Proofs.YtfiakhhippfkaaaGreatDoor
open Go.RowKit

def rpB (l : List UInt8) : Bool := rcB l && polyB (rcR l)
def rpR (l : List UInt8) : List (Nat × Nat) := if rpB l then rcR l else []
def GivesP (R : List (Nat × Nat)) (b : Bool) (w : World) (e : Ending) (w' : World) : Prop :=
  ∃ A c, e = .returned (.tuple #[.agg #[.slice A R.length c], .bool b]) ∧ Own w' w.heap.size w'.heap.size 42 A (cplx R) ∧ Below w.heap.size w w'
theorem rcR_len (l : List UInt8) : (rcR l).length ≤ 256 := by
  unfold rcR
  split
  · rename_i h
    split
    · simp
    · rename_i hn
      rw [rcB, if_neg hn] at h
      simp only [Bool.and_eq_true, decide_eq_true_eq] at h
      simp [h.1]
  · simp

theorem own_set {w : World} {b hi : Nat} {E : TypeId} {A : Option Addr} {xs : List Value} (h : Own w (b + 1) hi E A xs) (v : Value) : Own (w.setCell ⟨b, 0, none⟩ v) (b + 1) hi E A xs :=
  h.keep fun g h1 _ _ => Below.heap_setCell _ _ _ _ (by simp; omega)
theorem own_new {w : World} {lo : Nat} {E : TypeId} {A : Option Addr} {xs : List Value} (h : Own w lo w.heap.size E A xs) (o : Obj) : Own (w.alloc o) lo (w.alloc o).heap.size E A xs :=
  (h.keep fun g _ _ h3 => Below.heap_alloc _ _ _ h3).wide (Nat.le_refl _) (by simp)

set_option maxRecDepth 100000 in
set_option maxHeartbeats 400000 in
theorem l08ReadPoly_any (s : ByteArray) (w : World) (hs : s.size ≤ 1048576) :
    Calls Tryz.prog 9 #[.string s] w (GivesP (rpR s.data.toList) (rpB s.data.toList) w) := by
  have hb0 : Below w.heap.size w (w.alloc (.cells #[.slice none 0 0] 24)) := (Below.refl _ _).alloc (Nat.le_refl _) _
  have HN := l01CRead_any s (w.alloc (.cells #[.slice none 0 0] 24)) hs
  have hl := rcR_len s.data.toList
  cases hb : rcB s.data.toList with
  | true =>
    cases hr : polyB (rcR s.data.toList) with
    | true =>
      have hB : rpB s.data.toList = true := by rw [rpB, hb, hr]; rfl
      have hR : rpR s.data.toList = rcR s.data.toList := by rw [rpR, hB]; rfl
      rw [hB, hR]
      rw [hb] at HN
      have HI := fun (p : Nat) A c B W (h1 : W.cell? ⟨p, 0, none⟩ = some (.slice A (rcR s.data.toList).length c)) h2 h3 => l02Is_b p A c B (rcR s.data.toList) W h1 h2 h3 (by omega)
      simp only [hr] at HI
      clear hb hr hB hR
      generalize rcR s.data.toList = zs at *
      go_enter Tryz.func9, Tryz.ntmps9
      go_wp2_with fail
      (with_reducible refine HN.mono ?_)
      rintro e w1 ⟨A, c, rfl, hO, hb1⟩
      clear HN
      have hb2 : Below w1.heap.size w1 (w1.alloc (.cells #[.slice A zs.length c] 24)) := (Below.refl _ _).alloc (Nat.le_refl _) _
      have hO2 := hO.below hb2 (Nat.le_refl _)
      have hc2 : (w1.alloc (.cells #[.slice A zs.length c] 24)).cell? ⟨w1.heap.size, 0, none⟩ = some (.slice A zs.length c) := by
        rw [cell_of_row _ _ 0 _ _ _ (heap_alloc_new w1 _)]; rfl
      have hz : w.heap.size < w1.heap.size := by have := hb1.size; simp at this; omega
      have HI2 := HI w1.heap.size A c _ _ hc2 (hO2.reads' (Nat.le_refl _) (by simp)) hb2.size
      clear HI
      have hbw : Below w.heap.size w (w1.alloc (.cells #[.slice A zs.length c] 24)) := (hb0.trans (hb1.mono hb0.size)).trans (hb2.mono (by omega))
      obtain ⟨hc, hf⟩ := bcell2 hb1
      go_wp2_with fail
      (with_reducible refine HI2.mono ?_)
      rintro e w2 ⟨rfl, hb3⟩
      clear HI2
      have hx := (hb3.cell (World.block_lt_of_cell? _ _ hc2)).trans hc2
      have hO3 := hO2.below hb3 hb2.size
      obtain ⟨hc3, hf3⟩ := bcell2 hb3
      have hz3 : w1.heap.size < w2.heap.size := by have := hb3.size; simp at this; omega
      have hw2 : Below w.heap.size w w2 := hbw.trans (hb3.mono hbw.size)
      have hrc : w2.cell? ⟨w.heap.size, 0, none⟩ = some (.slice none 0 0) := by
        rw [hc3 _ _ (by simp; omega), hb2.cell (p := ⟨w.heap.size, 0, none⟩) hz, hc _ _ (by simp), cell_of_row _ _ 0 _ _ _ (heap_alloc_new w _)]; rfl
      have hrf : w2.frozen? ⟨w.heap.size, 0, none⟩ = false := by
        rw [hf3 _ _ (by simp; omega), hb2.frozen (p := ⟨w.heap.size, 0, none⟩) hz, hf _ _ (by simp)]; exact World.frozen?_alloc_new _ _ _ _
      clear hc3 hf3 hc hf hc2
      go_wp2
      refine bodyPost_ret (v := .tuple #[.agg #[.slice A zs.length c], .bool true]) (by simp [results, Tryz.results9, go_sem, hrc]) rfl ⟨A, c, rfl, ?_, hw2.setCell (Nat.le_refl _) _⟩
      have hO4 : Own w2 (w.heap.size + 1) w2.heap.size 42 A (cplx zs) := hO3.wide (by simp) (by omega)
      exact (own_set hO4 _).wide (by omega) (by simp [World.setCell])
    | false =>
      have hB : rpB s.data.toList = false := by rw [rpB, hb, hr]; rfl
      have hR : rpR s.data.toList = [] := by rw [rpR, hB]; rfl
      rw [hB, hR]
      rw [hb] at HN
      have HI := fun (p : Nat) A c B W (h1 : W.cell? ⟨p, 0, none⟩ = some (.slice A (rcR s.data.toList).length c)) h2 h3 => l02Is_b p A c B (rcR s.data.toList) W h1 h2 h3 (by omega)
      simp only [hr] at HI
      clear hb hr hB hR
      generalize rcR s.data.toList = zs at *
      go_enter Tryz.func9, Tryz.ntmps9
      go_wp2_with fail
      (with_reducible refine HN.mono ?_)
      rintro e w1 ⟨A, c, rfl, hO, hb1⟩
      clear HN
      have hb2 : Below w1.heap.size w1 (w1.alloc (.cells #[.slice A zs.length c] 24)) := (Below.refl _ _).alloc (Nat.le_refl _) _
      have hO2 := hO.below hb2 (Nat.le_refl _)
      have hc2 : (w1.alloc (.cells #[.slice A zs.length c] 24)).cell? ⟨w1.heap.size, 0, none⟩ = some (.slice A zs.length c) := by
        rw [cell_of_row _ _ 0 _ _ _ (heap_alloc_new w1 _)]; rfl
      have hz : w.heap.size < w1.heap.size := by have := hb1.size; simp at this; omega
      have HI2 := HI w1.heap.size A c _ _ hc2 (hO2.reads' (Nat.le_refl _) (by simp)) hb2.size
      clear HI
      have hbw : Below w.heap.size w (w1.alloc (.cells #[.slice A zs.length c] 24)) := (hb0.trans (hb1.mono hb0.size)).trans (hb2.mono (by omega))
      obtain ⟨hc, hf⟩ := bcell2 hb1
      go_wp2_with fail
      (with_reducible refine HI2.mono ?_)
      rintro e w2 ⟨rfl, hb3⟩
      clear HI2
      have hx := (hb3.cell (World.block_lt_of_cell? _ _ hc2)).trans hc2
      have hO3 := hO2.below hb3 hb2.size
      obtain ⟨hc3, hf3⟩ := bcell2 hb3
      have hz3 : w1.heap.size < w2.heap.size := by have := hb3.size; simp at this; omega
      have hw2 : Below w.heap.size w w2 := hbw.trans (hb3.mono hbw.size)
      have hrc : w2.cell? ⟨w.heap.size, 0, none⟩ = some (.slice none 0 0) := by
        rw [hc3 _ _ (by simp; omega), hb2.cell (p := ⟨w.heap.size, 0, none⟩) hz, hc _ _ (by simp), cell_of_row _ _ 0 _ _ _ (heap_alloc_new w _)]; rfl
      have hrf : w2.frozen? ⟨w.heap.size, 0, none⟩ = false := by
        rw [hf3 _ _ (by simp; omega), hb2.frozen (p := ⟨w.heap.size, 0, none⟩) hz, hf _ _ (by simp)]; exact World.frozen?_alloc_new _ _ _ _
      clear hc3 hf3 hc hf hc2
      go_wp2
      exact bodyPost_ret (v := .tuple #[.agg #[.slice none 0 0], .bool false]) (by simp [results, Tryz.results9, go_sem, hrc]) rfl ⟨none, 0, rfl, .inl rfl, hw2.setCell (Nat.le_refl _) _⟩
  | false =>
    have hB : rpB s.data.toList = false := by rw [rpB, hb]; rfl
    have hR : rpR s.data.toList = [] := by rw [rpR, hB]; rfl
    rw [hB, hR]
    rw [hb] at HN
    clear hb hB hR
    generalize rcR s.data.toList = zs at *
    go_enter Tryz.func9, Tryz.ntmps9
    go_wp2_with fail
    (with_reducible refine HN.mono ?_)
    rintro e w1 ⟨A, c, rfl, hO, hb1⟩
    clear HN
    obtain ⟨hc, hf⟩ := bcell2 hb1
    have hz : w.heap.size < w1.heap.size := by have := hb1.size; simp at this; omega
    go_wp2
    exact bodyPost_ret (v := .tuple #[.agg #[.slice none 0 0], .bool false]) (by simp [results, Tryz.results9, go_sem, hc, hz]) rfl ⟨none, 0, rfl, .inl rfl, ((hb0.trans (hb1.mono hb0.size)).setCell (Nat.le_refl _) _).alloc (by simp [World.setCell]; omega) _⟩
end Go.Proofs.YtfiakhhippfkaaaGreatDoor
