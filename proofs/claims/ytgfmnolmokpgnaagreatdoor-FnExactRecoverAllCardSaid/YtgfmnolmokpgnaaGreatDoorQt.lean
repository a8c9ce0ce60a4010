/-
  Contracts: spec.l01Finite, l01CFinite, l02CFinite, l02Is once more: the world is as it was but for what was drawn.
-/
import Derived.Test.YtgfmnolmokpgnaaGreatDoorPolyS
namespace Go.Proofs.YtgfmnolmokpgnaaGreatDoor
open Go.RowKit

/-- The world is as it was, but for what was drawn. -/
def Qt (w w' : World) : Prop := ∃ n, w' = w.drewN n
theorem Qt.refl (w : World) : Qt w w := ⟨0, rfl⟩
theorem Qt.drew (w : World) : Qt w w.drew := ⟨1, rfl⟩
theorem Qt.trans {a b c : World} (h : Qt a b) (k : Qt b c) : Qt a c := by
  obtain ⟨n, rfl⟩ := h
  obtain ⟨m, rfl⟩ := k
  exact ⟨n + m, by rw [World.drewN_drewN]⟩
theorem Qt.below {a b : World} (h : Qt a b) : Below a.heap.size a b := by
  obtain ⟨n, rfl⟩ := h
  exact below_drewN (Below.refl _ _) n

theorem l01Finite_q (x : Nat) (w : World) :
    Calls Tryz.prog 91 #[.float .f32 x] w fun e w' => e = .returned (.bool (fin32B x)) ∧ Qt w w' := by
  cases h : fin32B x with
  | true =>
    have k1 := ar32 _ _ _ _ (sub_yes h)
    have k2 : (FloatKind.f32.format.order 0 0 == some .eq) = true := by decide +kernel
    clear h
    go_enter Tryz.func91, Tryz.ntmps91
    go_wp2
    go_ret
    exact ⟨rfl, Qt.refl _⟩
  | false =>
    have k1 := nan_run x (sub_no h)
    have k2 : ∀ w, (FloatKind.f32.format.order (nanAt x w) 0 == some .eq) = false := fun w => by rw [nan_order]; rfl
    clear h
    go_enter Tryz.func91, Tryz.ntmps91
    go_wp2
    go_ret
    exact ⟨rfl, Qt.drew _⟩

theorem l01CFinite_q (x y : Nat) (w : World) :
    Calls Tryz.prog 75 #[.complex .f32 x y] w fun e w' => e = .returned (.bool (finCB (x, y))) ∧ Qt w w' := by
  have HX := l01Finite_q x w
  have HY := fun W => l01Finite_q y W
  have hF : finCB (x, y) = (fin32B x && fin32B y) := rfl
  rw [hF]
  clear hF
  generalize fin32B x = bx at *
  generalize fin32B y = by_ at *
  cases bx with
  | false =>
    go_enter Tryz.func75, Tryz.ntmps75
    go_wp2_with fail
    refine HX.mono ?_
    rintro e w1 ⟨rfl, hb⟩
    go_wp2
    go_ret
    exact ⟨rfl, hb⟩
  | true =>
    go_enter Tryz.func75, Tryz.ntmps75
    go_wp2_with fail
    refine HX.mono ?_
    rintro e w1 ⟨rfl, hb⟩
    have HY1 := HY w1
    clear HX HY
    go_wp2_with fail
    refine HY1.mono ?_
    rintro e w2 ⟨rfl, hb2⟩
    go_wp2
    go_ret
    exact ⟨by cases by_ <;> rfl, hb.trans hb2⟩

theorem l02CFinite_q (A : Option Addr) (c B : Nat) (l : List (Nat × Nat)) (w : World) (hr : Reads w B 1 A l.length (cplx l)) (hB : B ≤ w.heap.size) (hn : l.length ≤ 1048576) :
    Calls Tryz.prog 63 #[.slice A l.length c] w fun e w' => e = .returned (.bool (l.all finCB)) ∧ Qt w w' := by
  obtain ⟨r, hr0⟩ : ∃ r, r = l.all finCB := ⟨_, rfl⟩
  rw [← hr0]
  have HR : Hid (r = (l.drop 0).all finCB) := hr0
  clear hr0
  go_enter Tryz.func63, Tryz.ntmps63
  go_wp2
  go_loopw [3] (fun i wr => ∃ k : Nat, k ≤ l.length ∧ i = .int .i64 k ∧ Hid (r = (l.drop k).all finCB) ∧ Qt w wr) (fun i _ => l.length - (intOf i).toNat)
  case atStart => exact ⟨0, Nat.zero_le _, rfl, HR, Qt.refl _⟩
  case round =>
    obtain ⟨k, hk, rfl, hR, hbr⟩ := hrel
    by_cases hlt : k < l.length
    · obtain ⟨wo, rfl⟩ : ∃ wo : World, wo = wr := ⟨_, rfl⟩
      obtain ⟨ad, rfl, hab, hc1⟩ := comp_at (hr.below (hbr.below.mono hB)) hlt
      have hS := hR.out
      rw [all_step hlt] at hS
      have hz : l.getD k (0, 0) = ((l.getD k (0, 0)).1, (l.getD k (0, 0)).2) := rfl
      rw [hz] at hS
      clear hr hz hR
      generalize (l.getD k (0, 0)).1 = x at *
      generalize (l.getD k (0, 0)).2 = y at *
      have H := l01CFinite_q x y wo
      cases hf : finCB (x, y) with
      | true =>
        rw [hf, Bool.true_and] at hS
        rw [hf] at H
        have hS := Lib.hid hS
        clear hf
        go_wp2_with fail
        refine H.mono ?_
        rintro e w1 ⟨rfl, hb⟩
        go_wp2
        go_roundw
        case rel => exact ⟨k + 1, by omega, by go_num, hS, hbr.trans hb⟩
        case measure => simp [intOf]; omega
      | false =>
        rw [hf, Bool.false_and] at hS
        rw [hf] at H
        have hS := Lib.hid hS
        clear hf
        go_wp2_with fail
        refine H.mono ?_
        rintro e w1 ⟨rfl, hb⟩
        go_wp2
        go_ret
        exact ⟨by rw [hS.out]; rfl, hbr.trans hb⟩
    · have hkn : k = l.length := by omega
      subst hkn
      have hS : Hid (r = true) := by
        show _ = _
        rw [hR.out, List.drop_eq_nil_of_le (Nat.le_refl _)]; rfl
      clear hR
      go_wp2
      go_ret
      exact ⟨by rw [hS.out]; rfl, hbr⟩

set_option maxRecDepth 100000 in
set_option maxHeartbeats 400000 in
theorem l02Is_q (p o : Nat) (A : Option Addr) (c B : Nat) (l : List (Nat × Nat)) (w : World) (hp : w.cell? ⟨p, o, none⟩ = some (.slice A l.length c)) (hr : Reads w B 1 A l.length (cplx l)) (hB : B ≤ w.heap.size) (hn : l.length ≤ 1048576) :
    Calls Tryz.prog 44 #[.pointer (some ⟨p, o, none⟩)] w fun e w' => e = .returned (.bool (polyB l)) ∧ Qt w w' := by
  have hpb := World.block_lt_of_cell? w _ hp
  by_cases h1 : 1 ≤ l.length
  · by_cases h2 : l.length ≤ 17
    · have h1' : decide ((1 : Int) ≤ (l.length : Int)) = true := by simp; omega
      have h2' : decide ((l.length : Int) ≤ 17) = true := by simp; omega
      have HF := l02CFinite_q A c B l w hr hB hn
      obtain ⟨ad, rfl, hab, hcell⟩ := comp_at (k := l.length - 1) hr (by omega)
      have hi1 : IntKind.i64.wrap ((l.length : Int) - 1) = (l.length : Int) - 1 := IntWalk.i64_in _ (by omega)
      have hi2 : ((l.length : Int) - 1).toNat = l.length - 1 := by omega
      have hi3 : (0 : Int) ≤ (l.length : Int) - 1 := by omega
      have hi4 : (l.length : Int) - 1 < (l.length : Int) := by omega
      have hv : polyB l = (l.all finCB && lastB l.length (l.getD (l.length - 1) (0, 0)).1 (l.getD (l.length - 1) (0, 0)).2) := by
        simp only [polyB, lastB, zeroC, h1, h2, decide_true, Bool.true_and]
      rw [hv]
      clear hv hr
      have hab2 : ad.block < w.heap.size := by omega
      generalize (l.getD (l.length - 1) (0, 0)).1 = x at *
      generalize (l.getD (l.length - 1) (0, 0)).2 = y at *
      cases hf : l.all finCB with
      | false =>
        rw [hf] at HF
        clear hf hcell
        go_enter Tryz.func44, Tryz.ntmps44
        go_wp2_with fail
        (with_reducible refine HF.mono ?_)
        rintro e w1 ⟨rfl, hb⟩
        clear HF
        go_wp2
        go_ret
        exact ⟨rfl, hb⟩
      | true =>
        rw [hf] at HF
        clear hf
        by_cases h3 : l.length = 1
        · clear hcell h1' h2' hi1 hi2 hi3 hi4 h1 h2 hn
          generalize l.length = n at *
          subst h3
          have hl : Hid (lastB 1 x y = true) := rfl
          go_enter Tryz.func44, Tryz.ntmps44
          go_wp2_with fail
          (with_reducible refine HF.mono ?_)
          rintro e w1 ⟨rfl, hb⟩
          clear HF
          go_wp2
          go_ret
          exact ⟨by rw [hl.out]; rfl, hb⟩
        · have h3' : ((l.length : Int) == 1) = false := by simp; omega
          have hl : Hid (lastB l.length x y = !(FloatKind.f32.format.order x 0 == some .eq && FloatKind.f32.format.order y 0 == some .eq)) := by show _ = _; rw [lastB, decide_eq_false h3]; rfl
          clear h3
          go_enter Tryz.func44, Tryz.ntmps44
          go_wp2_with fail
          (with_reducible refine HF.mono ?_)
          rintro e w1 ⟨rfl, hb⟩
          clear HF
          obtain ⟨hc, hfz⟩ := bcell2 hb.below
          have hx1 : w1.cell? ⟨p, o, none⟩ = some (.slice (some ad) l.length c) := (hc _ _ hpb).trans hp
          have hx2 : w1.cell? (ad.add (l.length - 1)) = some (.complex .f32 x y) := (hb.below.cell (by rw [block_of_add]; omega)).trans hcell
          clear hc hfz hcell
          go_wp2
          go_ret
          exact ⟨by rw [hl.out]; simp, hb⟩
    · have hv : polyB l = false := by simp [polyB, h2]
      have h1' : decide ((1 : Int) ≤ (l.length : Int)) = true := by simp; omega
      have h2' : decide ((l.length : Int) ≤ 17) = false := by simp; omega
      rw [hv]
      clear hr hv
      go_enter Tryz.func44, Tryz.ntmps44
      go_wp2
      go_ret
      exact ⟨rfl, Qt.refl _⟩
  · have hv : polyB l = false := by simp [polyB, h1]
    have h1' : decide ((1 : Int) ≤ (l.length : Int)) = false := by simp; omega
    rw [hv]
    clear hr hv
    go_enter Tryz.func44, Tryz.ntmps44
    go_wp2
    go_ret
    exact ⟨rfl, Qt.refl _⟩

end Go.Proofs.YtgfmnolmokpgnaaGreatDoor
