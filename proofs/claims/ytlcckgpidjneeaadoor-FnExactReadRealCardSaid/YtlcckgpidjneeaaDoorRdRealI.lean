/-
  Contracts: impl.checkedReal, impl.ReadReal.
-/
import Derived.Test.YtlcckgpidjneeaaDoorRdReal
namespace Go.Proofs.YtlcckgpidjneeaaDoor
open Go.RowKit

set_option maxRecDepth 100000 in
theorem checked_yes (A : Option Addr) (c B : Nat) (zs : List Int) (w : World) (hr : Reads w B 1 A zs.length (ints zs)) (hB : B ≤ w.heap.size) (hn : zs.length ≤ 1048576) (hv : realB zs = true) :
    Calls Tryd.prog 49 #[.agg #[.slice A zs.length c]] w fun e w' => e = .returned (.tuple #[.agg #[.slice A zs.length c], .bool true]) ∧ Below w.heap.size w w' := by
  have hb0 : Below w.heap.size w ((w.alloc (.cells #[.slice A zs.length c] 31)).alloc (.cells #[.slice none 0 0] 31)) := ((Below.refl _ _).alloc (Nat.le_refl _) _).alloc (by simp) _
  have HV := validReal_any A c B zs _ (hr.below (hb0.mono hB)) (Nat.le_trans hB hb0.size) hn
  rw [hv] at HV
  clear hr hv
  go_enter Tryd.func49, Tryd.ntmps49
  go_wp2_with fail
  (with_reducible refine HV.mono ?_)
  rintro e w1 ⟨rfl, hb1⟩
  clear HV
  obtain ⟨hc, hf⟩ := bcell2 hb1
  have hz : w.heap.size + 1 < w1.heap.size := by have := hb1.size; simp at this; omega
  go_wp2
  exact bodyPost_ret (v := .tuple #[.agg #[.slice A zs.length c], .bool true]) (by simp [results, Tryd.results49, go_sem, hc]) rfl ⟨rfl, (hb0.trans (hb1.mono hb0.size)).setCell (by simp) _⟩
set_option maxRecDepth 100000 in
theorem checked_no (A : Option Addr) (c B : Nat) (zs : List Int) (w : World) (hr : Reads w B 1 A zs.length (ints zs)) (hB : B ≤ w.heap.size) (hn : zs.length ≤ 1048576) (hv : realB zs = false) :
    Calls Tryd.prog 49 #[.agg #[.slice A zs.length c]] w fun e w' => e = .returned (.tuple #[.agg #[.slice none 0 0], .bool false]) ∧ Below w.heap.size w w' := by
  have hb0 : Below w.heap.size w ((w.alloc (.cells #[.slice A zs.length c] 31)).alloc (.cells #[.slice none 0 0] 31)) := ((Below.refl _ _).alloc (Nat.le_refl _) _).alloc (by simp) _
  have HV := validReal_any A c B zs _ (hr.below (hb0.mono hB)) (Nat.le_trans hB hb0.size) hn
  rw [hv] at HV
  clear hr hv
  go_enter Tryd.func49, Tryd.ntmps49
  go_wp2_with fail
  (with_reducible refine HV.mono ?_)
  rintro e w1 ⟨rfl, hb1⟩
  clear HV
  obtain ⟨hc, hf⟩ := bcell2 hb1
  have hz : w.heap.size + 1 < w1.heap.size := by have := hb1.size; simp at this; omega
  go_wp2
  exact bodyPost_ret (v := .tuple #[.agg #[.slice none 0 0], .bool false]) (by simp [results, Tryd.results49, go_sem, hc]) rfl ⟨rfl, (hb0.trans (hb1.mono hb0.size)).setCell (by simp) _⟩

set_option maxRecDepth 100000 in
set_option maxHeartbeats 400000 in
theorem readRealI_any (s : ByteArray) (w : World) (hsh : w.ShapedOpen Tryd.prog) (hE : ErrVars w) (htab : Lib.TabBelow Tryd.prog w.heap.size w "internal/strconv.uint64pow10" .u64 Lib.pow10Tab) (hs : s.size ≤ 1048576) :
    Calls Tryd.prog 25 #[.string s] w (GivesR (rrR s.data.toList) (rrB s.data.toList) w) := by
  have hb0 : Below w.heap.size w (w.alloc (.cells #[.slice none 0 0] 31)) := (Below.refl _ _).alloc (Nat.le_refl _) _
  have HN := readList_any s (w.alloc (.cells #[.slice none 0 0] 31)) (shaped_below hsh hb0) (hE.on hb0) (fun W' hW' => htab W' (hb0.trans (hW'.mono hb0.size))) hs
  have hl := rlR_len s.data.toList
  clear hsh hE htab
  cases hb : rlB s.data.toList with
  | true =>
    rw [hb] at HN
    cases hr : realB (rlR s.data.toList) with
    | true =>
      have hB : rrB s.data.toList = true := by rw [rrB, hb, hr]; rfl
      have hR : rrR s.data.toList = rlR s.data.toList := by rw [rrR, hB, if_pos rfl]
      rw [hB, hR]
      have HI := fun A c B W h1 h2 => checked_yes A c B (rlR s.data.toList) W h1 h2 (by omega) hr
      clear hb hr hB hR
      generalize rlR s.data.toList = zs at *
      go_enter Tryd.func25, Tryd.ntmps25
      go_wp2_with fail
      (with_reducible refine HN.mono ?_)
      rintro e w1 ⟨A, c, rfl, hO, hb1⟩
      clear HN
      have HI2 := HI A c _ w1 (hO.reads' (Nat.le_refl _) (by simp)) (Nat.le_refl _)
      clear HI
      go_wp2_with fail
      (with_reducible refine HI2.mono ?_)
      rintro e w2 ⟨rfl, hb2⟩
      clear HI2
      have hb12 := hb1.trans (hb2.mono hb1.size)
      obtain ⟨hc, hf⟩ := bcell2 hb12
      have hz : w.heap.size < w2.heap.size := by have := hb12.size; simp at this; omega
      go_wp2
      refine bodyPost_ret (v := .tuple #[.agg #[.slice A zs.length c], .bool true]) (by simp [results, Tryd.results25, go_sem, hc]) rfl ⟨A, c, rfl, ?_, (hb0.trans (hb12.mono hb0.size)).setCell (Nat.le_refl _) _⟩
      have hO1 : Own w2 (w.heap.size + 1) w2.heap.size 2 A (ints zs) := (hO.below hb2 (Nat.le_refl _)).wide (by simp) hb2.size
      exact (own_set hO1 _).wide (by omega) (by simp [World.setCell])
    | false =>
      have hB : rrB s.data.toList = false := by rw [rrB, hb, hr]; rfl
      have hR : rrR s.data.toList = [] := by rw [rrR, hB]; rfl
      rw [hB, hR]
      have HI := fun A c B W h1 h2 => checked_no A c B (rlR s.data.toList) W h1 h2 (by omega) hr
      clear hb hr hB hR
      generalize rlR s.data.toList = zs at *
      go_enter Tryd.func25, Tryd.ntmps25
      go_wp2_with fail
      (with_reducible refine HN.mono ?_)
      rintro e w1 ⟨A, c, rfl, hO, hb1⟩
      clear HN
      have HI2 := HI A c _ w1 (hO.reads' (Nat.le_refl _) (by simp)) (Nat.le_refl _)
      clear HI
      go_wp2_with fail
      (with_reducible refine HI2.mono ?_)
      rintro e w2 ⟨rfl, hb2⟩
      clear HI2
      have hb12 := hb1.trans (hb2.mono hb1.size)
      obtain ⟨hc, hf⟩ := bcell2 hb12
      have hz : w.heap.size < w2.heap.size := by have := hb12.size; simp at this; omega
      go_wp2
      exact bodyPost_ret (v := .tuple #[.agg #[.slice none 0 0], .bool false]) (by simp [results, Tryd.results25, go_sem, hc]) rfl ⟨none, 0, rfl, .inl rfl, (hb0.trans (hb12.mono hb0.size)).setCell (Nat.le_refl _) _⟩
  | false =>
    have hB : rrB s.data.toList = false := by rw [rrB, hb]; rfl
    have hR : rrR s.data.toList = [] := by rw [rrR, hB]; rfl
    rw [hB, hR]
    rw [hb] at HN
    clear hb hB hR
    generalize rlR s.data.toList = zs at *
    go_enter Tryd.func25, Tryd.ntmps25
    go_wp2_with fail
    (with_reducible refine HN.mono ?_)
    rintro e w1 ⟨A, c, rfl, hO, hb1⟩
    clear HN
    obtain ⟨hc, hf⟩ := bcell2 hb1
    have hz : w.heap.size < w1.heap.size := by have := hb1.size; simp at this; omega
    go_wp2
    exact bodyPost_ret (v := .tuple #[.agg #[.slice none 0 0], .bool false]) (by simp [results, Tryd.results25, go_sem, hc]) rfl ⟨none, 0, rfl, .inl rfl, (hb0.trans (hb1.mono hb0.size)).setCell (Nat.le_refl _) _⟩
end Go.Proofs.YtlcckgpidjneeaaDoor
