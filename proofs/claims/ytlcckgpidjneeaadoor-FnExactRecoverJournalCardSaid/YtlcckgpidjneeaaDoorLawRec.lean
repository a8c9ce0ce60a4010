/-
  The law FnExactRecoverJournal, walked by contracts: whatever the text, it returns true and turns nothing that was there.
-/
import Derived.Test.YtlcckgpidjneeaaDoorRecI
import Derived.Test.YtlcckgpidjneeaaDoorMarks
namespace Go.Proofs.YtlcckgpidjneeaaDoor
open Go.RowKit

/-- What RecoverJournal returns. -/
def recR (s : ByteArray) : List (List UInt8) × Nat := if s.size ≤ 16000 then recAll 0 (lns s.data.toList) else ([], 0)
def RecPostB (b : Bool) (R : List (List UInt8) × Nat) (w : World) (e : Ending) (w' : World) : Prop :=
  ∃ A c', e = .returned (.tuple #[.slice A R.1.length c', .int .i64 (R.2 : Nat), .bool b]) ∧ Own w' w.heap.size w'.heap.size 9 A (strs R.1) ∧ Below w.heap.size w w'

theorem recS3_any (s : ByteArray) (w : World) (hs : s.size ≤ 1048576) :
    Calls Tryd.prog 20 #[.string s] w (RecPostB (decide (s.size ≤ 16000)) (recR s) w) := by
  by_cases hn : s.size ≤ 16000
  · have hb : decide (s.size ≤ 16000) = true := by simpa using hn
    rw [recR, if_pos hn, hb]
    have H := recS_any s w hs
    clear hb
    generalize recAll 0 (lns s.data.toList) = R at *
    go_enter Tryd.func20, Tryd.ntmps20
    go_wp2_with fail
    (with_reducible refine H.mono ?_)
    rintro e w1 ⟨A, c1, rfl, hO, hb1⟩
    clear H
    go_wp2
    go_ret3
    exact ⟨_, _, rfl, hO, hb1⟩
  · have hb : decide (s.size ≤ 16000) = false := by simpa using hn
    rw [recR, if_neg hn, hb]
    clear hb
    go_enter Tryd.func20, Tryd.ntmps20
    go_wp2
    go_ret3
    exact ⟨none, 0, rfl, .inl rfl, Below.refl _ _⟩

theorem recI3_any (s : ByteArray) (w : World) (hsh : w.ShapedOpen Tryd.prog) (htab : Lib.TabBelow Tryd.prog w.heap.size w "internal/strconv.uint64pow10" .u64 Lib.pow10Tab) :
    Calls Tryd.prog 21 #[.string s] w (RecPostB (decide (s.size ≤ 16000)) (recR s) w) := by
  by_cases hn : s.size ≤ 16000
  · have hb : decide (s.size ≤ 16000) = true := by simpa using hn
    rw [recR, if_pos hn, hb]
    exact recI_any s w hsh htab hn
  · have hb : decide (s.size ≤ 16000) = false := by simpa using hn
    rw [recR, if_neg hn, hb]
    clear hb hsh htab
    go_enter Tryd.func21, Tryd.ntmps21
    go_wp2
    go_ret3
    exact ⟨none, 0, rfl, .inl rfl, Below.refl _ _⟩

theorem recR_len (s : ByteArray) (hs : s.size ≤ 1048576) : (recR s).1.length ≤ 1048576 := by
  unfold recR
  split
  · have h1 := recAll_le 0 (lns s.data.toList)
    have h2 := lns_le s.data.toList
    rw [← Lib.size_eq] at h2
    omega
  · simp

set_option maxRecDepth 100000 in
set_option maxHeartbeats 1600000 in
theorem lawRec (s : ByteArray) (w : World) (hs : s.size ≤ maxLen) (hsh : w.ShapedOpen Tryd.prog) (htab : Lib.TabBelow Tryd.prog w.heap.size w "internal/strconv.uint64pow10" .u64 Lib.pow10Tab) :
    Calls Tryd.prog 6 #[.string s] w fun e w' => e = .returned (.bool true) ∧ Below w.heap.size w w' := by
  unfold maxLen at hs
  by_cases hn : s.size ≤ 1048576
  · have H1 := recS3_any s w hn
    have H2 := fun W (hW : Below w.heap.size w W) => recI3_any s W (shaped_below hsh hW) (fun W' hW' => htab W' (hW.trans (hW'.mono hW.size)))
    have hl := recR_len s hn
    clear hsh htab
    generalize recR s = R at *
    generalize decide (s.size ≤ 16000) = b at *
    obtain ⟨zs, m⟩ := R
    simp only at hl
    go_enter Tryd.func6, Tryd.ntmps6
    go_wp2_with fail
    (with_reducible refine H1.mono ?_)
    rintro e w1 ⟨A0, c0, rfl, hO0, hb1⟩
    clear H1
    simp only at hO0
    go_wp2_with fail
    (with_reducible refine (H2 w1 hb1).mono ?_)
    rintro e w2 ⟨A1, c1, rfl, hO1, hb2⟩
    simp only at hO1
    have hO0' := hO0.below hb2 (Nat.le_refl _)
    have HE := eqStringS_any A1 A0 c1 c0 w2.heap.size zs w2 (hO1.reads' (Nat.le_refl _) (by simp)) (hO0'.reads' hb2.size (by simp)) (by omega)
    go_wp2_with fail
    (with_reducible refine HE.mono ?_)
    rintro e w3 ⟨rfl, hb3⟩
    clear HE
    have hO0c := hO0'.below hb3 hb2.size
    have hO1c := hO1.below hb3 (Nat.le_refl _)
    have hb13 : Below w1.heap.size w1 w3 := hb2.trans (hb3.mono hb2.size)
    clear hO0 hO0' hO1
    have HM := markStringS_any A1 c1 w1.heap.size w2.heap.size 1 zs w3 hO1c (by omega) (by omega) (by omega)
    rw [show ((1 : Nat) : Int) = 1 from rfl] at HM
    go_wp2_with fail
    (with_reducible refine HM.mono ?_)
    rintro e w4 ⟨rfl, hO1d, hkp⟩
    clear HM hO1c
    have hO0d := hO0c.kp hkp (.inl (Nat.le_refl _))
    have hb14 : Below w1.heap.size w1 w4 := hb13.trans (hkp.below (Nat.le_refl _) hb13.size)
    have hs24 : w2.heap.size ≤ w4.heap.size := Nat.le_trans hb3.size hkp.size
    clear hO0c hkp
    have HH := heldStringS_any A1 c1 1 zs.length w4 (hO1d.reads' hs24 (by simp)) (by omega) (by omega) (by omega)
    rw [show ((1 : Nat) : Int) = 1 from rfl] at HH
    go_wp2_with fail
    (with_reducible refine HH.mono ?_)
    rintro e w5 ⟨rfl, hb5⟩
    clear HH
    have hO1e := hO1d.below hb5 hs24
    have hO0e := hO0d.below hb5 (Nat.le_trans hb2.size hs24)
    have hb15 : Below w1.heap.size w1 w5 := hb14.trans (hb5.mono hb14.size)
    have hbw5 : Below w.heap.size w w5 := hb1.trans (hb15.mono hb1.size)
    clear hO1d hO0d
    go_wp2_with fail
    (with_reducible refine (H2 w5 hbw5).mono ?_)
    rintro e w6 ⟨A2, c2, rfl, hO2, hb6⟩
    clear H2
    simp only at hO2
    have hs25 : w2.heap.size ≤ w5.heap.size := Nat.le_trans hs24 hb5.size
    have hO1f := hO1e.below hb6 hs25
    have hO0f := hO0e.below hb6 hb15.size
    have HE2 := eqStringS_any A2 A0 c2 c0 w6.heap.size zs w6 (hO2.reads' (Nat.le_refl _) (by simp)) (hO0f.reads' (Nat.le_trans hb15.size hb6.size) (by simp)) (by omega)
    go_wp2_with fail
    (with_reducible refine HE2.mono ?_)
    rintro e w7 ⟨rfl, hb7⟩
    clear HE2
    have hO1g := hO1f.below hb7 (Nat.le_trans hs25 hb6.size)
    have HH2 := heldStringS_any A1 c1 1 zs.length w7 (hO1g.reads' (Nat.le_trans hs25 (Nat.le_trans hb6.size hb7.size)) (by simp)) (by omega) (by omega) (by omega)
    rw [show ((1 : Nat) : Int) = 1 from rfl] at HH2
    go_wp2_with fail
    (with_reducible refine HH2.mono ?_)
    rintro e w8 ⟨rfl, hb8⟩
    clear HH2
    have h67 : Below w5.heap.size w5 w8 := hb6.trans ((hb7.trans (hb8.mono hb7.size)).mono hb6.size)
    have hfin : Below w.heap.size w w8 := hbw5.trans (h67.mono hbw5.size)
    go_wp2
    go_ret
    exact ⟨rfl, hfin⟩
  · clear hsh htab
    go_enter Tryd.func6, Tryd.ntmps6
    go_wp2
    go_ret
    exact ⟨rfl, Below.refl _ _⟩
end Go.Proofs.YtlcckgpidjneeaaDoor
