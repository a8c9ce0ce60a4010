/-
  Contract: a slice of what is saved, held (heldSavedS).
-/
import Derived.Test.YtgfmnolmokpgnaaGreatDoorMkR
namespace Go.Proofs.YtgfmnolmokpgnaaGreatDoor
open Go.RowKit

set_option maxRecDepth 100000 in
set_option maxHeartbeats 800000 in
theorem heldSavedS_b (vs : List Sav) (g lo hi c : Nat) (xs : List Value) (a b : Nat → Nat) (A A' : Nat → Option Addr) (cc cc' : Nat → Nat) (w : World) (h : RL w g lo hi c (markAll vs) xs a b A A' cc cc') (hB : hi ≤ w.heap.size) (hn : vs.length ≤ 8) (hF : ∀ v ∈ vs, Fine v) :
    Calls Tryz.prog 14 #[.slice (some ⟨g, 0, none⟩) vs.length c, .int .i64 1] w fun e w' => e = .returned (.int .i64 ((pos vs vs.length : Nat) : Int)) ∧ Below w.heap.size w w' := by
  have HH := Lib.hid h
  have HF := Lib.hid hF
  clear h hF
  go_enter Tryz.func14, Tryz.ntmps14
  go_wp2
  go_loopw [1, 5] (fun q i wr => ∃ k : Nat, k ≤ vs.length ∧ i = .int .i64 k ∧ q = .int .i64 ((pos vs k : Nat) : Int) ∧ Below w.heap.size w wr) (fun _ i _ => vs.length - (intOf i).toNat)
  case atStart => exact ⟨0, Nat.zero_le _, rfl, rfl, Below.refl _ _⟩
  case round =>
    obtain ⟨k, hk, rfl, rfl, hbr⟩ := hrel
    by_cases hlt : k < vs.length
    · have hr := HH.out.below hbr hB
      have hlM : k < (markAll vs).length := by simpa using hlt
      have hc0 := row_cells hr.row _ _ (hr.el.c0 k hlM)
      have hc1 := row_cells hr.row _ _ (hr.el.c1 k hlM)
      have hc2 := row_cells hr.row _ _ (hr.el.c2 k hlM)
      have hgs := hr.lt.2
      have he := hr.el.el k hlM
      have hbh := Nat.le_trans (hr.el.hi k hlM) (Nat.le_trans hB hbr.size)
      rw [markAll_at hlt] at hc0 hc1 hc2 he
      have hps : pos vs (k + 1) = pos vs k + 1 + (vs.getD k nilS).P.length + (vs.getD k nilS).W.length := by simp only [pos, szv]; omega
      have hpl := pos_le HF.out k hk
      have hf := fine_getD HF.out hlt
      have hfp := hf.p
      have hft := hf.t
      unfold markAt at hc0 hc1 hc2 he
      simp only [cmarks_len, marks_len] at hc0 hc1 hc2 he
      generalize vs.getD k nilS = v at *
      generalize pos vs k = p at *
      have HM := fun W => markText_any p W (by omega) (by omega)
      have hR := fun W (hW : Below wr.heap.size wr W) => (he.below hW hbh).reads hbh
      simp only [cmarks_len, marks_len] at hR
      have HC := fun W hW => heldComplex64S_b (A k) (cc k) wr.heap.size ((p + 1 : Nat) : Int) v.P.length W (hR W hW).1 (by omega) (by omega)
      have HI := fun W hW => heldInt64S_b (A' k) (cc' k) wr.heap.size ((p + 1 + v.P.length : Nat) : Int) v.W.length W (hR W hW).2 (by omega) (by omega)
      rw [show ((p + 1 : Nat) : Int) = (p : Int) + 1 by omega] at HC
      rw [show ((p + 1 + v.P.length : Nat) : Int) = (p : Int) + 1 + (v.P.length : Int) by omega] at HI
      have hq1 : IntKind.i64.wrap ((p : Int) + 1) = (p : Int) + 1 := IntWalk.i64_in _ (by omega)
      have t1 : ¬ ((p : Int) + 1 + (v.P.length : Int) < 0) := by omega
      have t2 : ¬ ((p : Int) + 1 + (v.P.length : Int) + (v.W.length : Int) < 0) := by omega
      have hpb : (⟨g, k * 3, none⟩ : Addr).block < wr.heap.size := hgs
      clear hr hf he hR
      generalize txt (mk p) = X at *
      go_wp2_with fail
      go_region_held3 (fun w' => w'.cell? ⟨g, k * 3, none⟩ = some (.string X) ∧ Below wr.heap.size wr w')
        (first | exact Stays.start hc0 | exact Stays.call (by assumption) hpb (by assumption) | trace_state)
        (first | (go_at_call 23; refine (HM _).mono ?_; rintro e w' ⟨rfl, hb9⟩))
      rename_i hheld
      obtain ⟨-, hb10⟩ := hheld
      clear hc0 hb9 HM
      have d1 : w'.cell? ⟨g, k * 3 + 1, none⟩ = _ := (hb10.cell hgs).trans hc1
      have d2 : w'.cell? ⟨g, k * 3 + 2, none⟩ = _ := (hb10.cell hgs).trans hc2
      clear hc1
      go_wp2_with fail
      (with_reducible refine (HC _ hb10).mono ?_)
      rintro e w2 ⟨rfl, hb2⟩
      clear HC d1 d2
      have hb12 := hb10.trans (hb2.mono hb10.size)
      have d2 : w2.cell? ⟨g, k * 3 + 2, none⟩ = _ := (hb12.cell hgs).trans hc2
      clear hb10 hb2 hc2
      go_wp2_with fail
      (with_reducible refine (HI _ hb12).mono ?_)
      rintro e w3 ⟨rfl, hb3⟩
      clear HI d2
      have hb13 := hbr.trans ((hb12.trans (hb3.mono hb12.size)).mono hbr.size)
      clear hb12 hb3
      go_wp2
      go_roundw
      case rel => exact ⟨k + 1, by omega, by go_num, by rw [hps]; go_num, hb13⟩
      case measure => simp [intOf]; omega
    · obtain rfl : k = vs.length := by omega
      go_wp2
      go_ret
      exact ⟨rfl, hbr⟩
end Go.Proofs.YtgfmnolmokpgnaaGreatDoor
