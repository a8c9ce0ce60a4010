/-
  Contract: spec.l02Is: which polynomials are valid, whatever the terms.
-/
import Derived.Test.YtakkmcplhihjiaaPoly
namespace Go.Proofs.Ytakkmcplhihjiaa
open Go.RowKit

set_option maxRecDepth 100000 in
set_option maxHeartbeats 400000 in
theorem l02Is_b (p o : Nat) (A : Option Addr) (c B : Nat) (l : List (Nat × Nat)) (w : World) (hp : w.cell? ⟨p, o, none⟩ = some (.slice A l.length c)) (hr : Reads w B 1 A l.length (cplx l)) (hB : B ≤ w.heap.size) (hn : l.length ≤ 1048576) :
    Calls Try.prog 52 #[.pointer (some ⟨p, o, none⟩)] w fun e w' => e = .returned (.bool (polyB l)) ∧ Below w.heap.size w w' := by
  have hpb := World.block_lt_of_cell? w _ hp
  by_cases h1 : 1 ≤ l.length
  · by_cases h2 : l.length ≤ 17
    · have h1' : decide ((1 : Int) ≤ (l.length : Int)) = true := by simp; omega
      have h2' : decide ((l.length : Int) ≤ 17) = true := by simp; omega
      have HF := l02CFinite_b A c B l w hr hB hn
      obtain ⟨ad, rfl, hab, hcell⟩ := comp_at (k := l.length - 1) hr (by omega)
      have hi1 : IntKind.i64.wrap ((l.length : Int) - 1) = (l.length : Int) - 1 := IntWalk.i64_in _ (by omega)
      have hi2 : ((l.length : Int) - 1).toNat = l.length - 1 := by omega
      have hi3 : (0 : Int) ≤ (l.length : Int) - 1 := by omega
      have hi4 : (l.length : Int) - 1 < (l.length : Int) := by omega
      have hv : polyB l = (l.all finCB && lastB l.length (l.getD (l.length - 1) (0, 0)).1 (l.getD (l.length - 1) (0, 0)).2) := by
        simp only [polyB, lastB, zeroC, h1, h2, decide_true, Bool.true_and]
      rw [hv]
      clear hv hr
      have hab2 : ad.block < w.heap.size := by omega
      generalize (l.getD (l.length - 1) (0, 0)).1 = x at *
      generalize (l.getD (l.length - 1) (0, 0)).2 = y at *
      cases hf : l.all finCB with
      | false =>
        rw [hf] at HF
        clear hf hcell
        go_enter Try.func52, Try.ntmps52
        go_wp2_with fail
        (with_reducible refine HF.mono ?_)
        rintro e w1 ⟨rfl, hb⟩
        clear HF
        go_wp2
        go_ret
        exact ⟨rfl, hb⟩
      | true =>
        rw [hf] at HF
        clear hf
        by_cases h3 : l.length = 1
        · clear hcell h1' h2' hi1 hi2 hi3 hi4 h1 h2 hn
          generalize l.length = n at *
          subst h3
          have hl : Hid (lastB 1 x y = true) := rfl
          go_enter Try.func52, Try.ntmps52
          go_wp2_with fail
          (with_reducible refine HF.mono ?_)
          rintro e w1 ⟨rfl, hb⟩
          clear HF
          go_wp2
          go_ret
          exact ⟨by rw [hl.out]; rfl, hb⟩
        · have h3' : ((l.length : Int) == 1) = false := by simp; omega
          have hl : Hid (lastB l.length x y = !(FloatKind.f32.format.order x 0 == some .eq && FloatKind.f32.format.order y 0 == some .eq)) := by show _ = _; rw [lastB, decide_eq_false h3]; rfl
          clear h3
          go_enter Try.func52, Try.ntmps52
          go_wp2_with fail
          (with_reducible refine HF.mono ?_)
          rintro e w1 ⟨rfl, hb⟩
          clear HF
          obtain ⟨hc, hfz⟩ := bcell2 hb
          have hx1 : w1.cell? ⟨p, o, none⟩ = some (.slice (some ad) l.length c) := (hc _ _ hpb).trans hp
          have hx2 : w1.cell? (ad.add (l.length - 1)) = some (.complex .f32 x y) := (hb.cell (by rw [block_of_add]; omega)).trans hcell
          clear hc hfz hcell
          go_wp2
          go_ret
          exact ⟨by rw [hl.out]; simp, hb⟩
    · have hv : polyB l = false := by simp [polyB, h2]
      have h1' : decide ((1 : Int) ≤ (l.length : Int)) = true := by simp; omega
      have h2' : decide ((l.length : Int) ≤ 17) = false := by simp; omega
      rw [hv]
      clear hr hv
      go_enter Try.func52, Try.ntmps52
      go_wp2
      go_ret
      exact ⟨rfl, Below.refl _ _⟩
  · have hv : polyB l = false := by simp [polyB, h1]
    have h1' : decide ((1 : Int) ≤ (l.length : Int)) = false := by simp; omega
    rw [hv]
    clear hr hv
    go_enter Try.func52, Try.ntmps52
    go_wp2
    go_ret
    exact ⟨rfl, Below.refl _ _⟩
end Go.Proofs.Ytakkmcplhihjiaa
