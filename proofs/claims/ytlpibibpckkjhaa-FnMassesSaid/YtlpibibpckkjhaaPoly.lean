/-
  Contracts: which polynomials are valid (impl.ValidPoly, spec.l02Is), whatever the terms.
-/
import Derived.Test.YtlpibibpckkjhaaFinC
namespace Go.Proofs.Ytlpibibpckkjhaa
open Go.RowKit

theorem bcell2 {W w1 : World} (hb : Below W.heap.size W w1) : (∀ b o, b < W.heap.size → w1.cell? ⟨b, o, none⟩ = W.cell? ⟨b, o, none⟩) ∧ (∀ b o, b < W.heap.size → w1.frozen? ⟨b, o, none⟩ = W.frozen? ⟨b, o, none⟩) :=
  ⟨fun b o h => hb.cell (p := ⟨b, o, none⟩) h, fun b o h => hb.frozen (p := ⟨b, o, none⟩) h⟩

theorem containsFuncC_b (A : Option Addr) (c B : Nat) (l : List (Nat × Nat)) (w : World) (hr : Reads w B 1 A l.length (cplx l)) (hB : B ≤ w.heap.size) (hn : l.length ≤ 1048576) :
    Calls Try.prog 89 #[.slice A l.length c, .func (.func 90) #[] #[]] w fun e w' => e = .returned (.bool (!l.all finCB)) ∧ Below w.heap.size w w' := by
  have H := indexFuncC_b A c B l w hr hB hn
  have hD := ixC_all 0 l
  clear hr
  generalize ixC 0 l = r at *
  generalize l.all finCB = b at *
  go_enter Try.func89, Try.ntmps89
  go_wp2_with fail
  refine H.mono ?_
  rintro e w1 ⟨rfl, hb⟩
  go_wp2
  go_ret
  exact ⟨rfl, hb⟩
theorem allFinite_b (A : Option Addr) (c B : Nat) (l : List (Nat × Nat)) (w : World) (hr : Reads w B 1 A l.length (cplx l)) (hB : B ≤ w.heap.size) (hn : l.length ≤ 1048576) :
    Calls Try.prog 51 #[.slice A l.length c] w fun e w' => e = .returned (.bool (l.all finCB)) ∧ Below w.heap.size w w' := by
  have H := containsFuncC_b A c B l w hr hB hn
  clear hr
  generalize l.all finCB = b at *
  go_enter Try.func51, Try.ntmps51
  go_wp2_with fail
  refine H.mono ?_
  rintro e w1 ⟨rfl, hb⟩
  go_wp2
  go_ret
  exact ⟨by simp, hb⟩

theorem all_step {l : List (Nat × Nat)} {k : Nat} (h : k < l.length) : (l.drop k).all finCB = (finCB (l.getD k (0, 0)) && (l.drop (k + 1)).all finCB) := by
  rw [List.drop_eq_getElem_cons h, List.all_cons, List.getD, List.getElem?_eq_getElem h]
  rfl
/-- A complex number is zero. -/
def zeroC (z : Nat × Nat) : Bool := FloatKind.f32.format.order z.1 0 == some .eq && FloatKind.f32.format.order z.2 0 == some .eq
def polyB (l : List (Nat × Nat)) : Bool := decide (1 ≤ l.length) && decide (l.length ≤ 17) && l.all finCB && (decide (l.length = 1) || !zeroC (l.getD (l.length - 1) (0, 0)))
/-- What a valid polynomial's last test answers. -/
def lastB (n : Nat) (x y : Nat) : Bool := decide (n = 1) || !(FloatKind.f32.format.order x 0 == some .eq && FloatKind.f32.format.order y 0 == some .eq)

set_option maxRecDepth 100000 in
set_option maxHeartbeats 400000 in
theorem validPoly_b (A : Option Addr) (c B : Nat) (l : List (Nat × Nat)) (w : World) (hr : Reads w B 1 A l.length (cplx l)) (hB : B ≤ w.heap.size) (hn : l.length ≤ 1048576) :
    Calls Try.prog 50 #[.agg #[.slice A l.length c]] w fun e w' => e = .returned (.bool (polyB l)) ∧ Below w.heap.size w w' := by
  have hb0 : Below w.heap.size w (w.alloc (.cells #[.slice A l.length c] 33)) := (Below.refl _ _).alloc (Nat.le_refl _) _
  by_cases h1 : 1 ≤ l.length
  · by_cases h2 : l.length ≤ 17
    · have h1' : decide ((1 : Int) ≤ (l.length : Int)) = true := by simp; omega
      have h2' : decide ((l.length : Int) ≤ 17) = true := by simp; omega
      have HF := allFinite_b A c B l _ (hr.below (hb0.mono hB)) (Nat.le_trans hB hb0.size) hn
      obtain ⟨ad, rfl, hab, hcell⟩ := comp_at (k := l.length - 1) hr (by omega)
      have hi1 : IntKind.i64.wrap ((l.length : Int) - 1) = (l.length : Int) - 1 := IntWalk.i64_in _ (by omega)
      have hi2 : ((l.length : Int) - 1).toNat = l.length - 1 := by omega
      have hi3 : (0 : Int) ≤ (l.length : Int) - 1 := by omega
      have hi4 : (l.length : Int) - 1 < (l.length : Int) := by omega
      have hv : polyB l = (l.all finCB && lastB l.length (l.getD (l.length - 1) (0, 0)).1 (l.getD (l.length - 1) (0, 0)).2) := by
        simp only [polyB, lastB, zeroC, h1, h2, decide_true, Bool.true_and]
      rw [hv]
      clear hv hr
      have hab2 : ad.block < w.heap.size := by omega
      generalize (l.getD (l.length - 1) (0, 0)).1 = x at *
      generalize (l.getD (l.length - 1) (0, 0)).2 = y at *
      cases hf : l.all finCB with
      | false =>
        rw [hf] at HF
        clear hf hcell
        go_enter Try.func50, Try.ntmps50
        go_wp2_with fail
        (with_reducible refine HF.mono ?_)
        rintro e w1 ⟨rfl, hb⟩
        clear HF
        go_wp2
        go_ret
        exact ⟨rfl, hb0.trans (hb.mono hb0.size)⟩
      | true =>
        rw [hf] at HF
        clear hf
        by_cases h3 : l.length = 1
        · clear hcell h1' h2' hi1 hi2 hi3 hi4 h1 h2 hn
          generalize l.length = n at *
          subst h3
          have hl : Hid (lastB 1 x y = true) := rfl
          go_enter Try.func50, Try.ntmps50
          go_wp2_with fail
          (with_reducible refine HF.mono ?_)
          rintro e w1 ⟨rfl, hb⟩
          clear HF
          go_wp2
          go_ret
          exact ⟨by rw [hl.out]; rfl, hb0.trans (hb.mono hb0.size)⟩
        · have h3' : ((l.length : Int) == 1) = false := by simp; omega
          have hl : Hid (lastB l.length x y = !(FloatKind.f32.format.order x 0 == some .eq && FloatKind.f32.format.order y 0 == some .eq)) := by show _ = _; rw [lastB, decide_eq_false h3]; rfl
          clear h3
          go_enter Try.func50, Try.ntmps50
          go_wp2_with fail
          (with_reducible refine HF.mono ?_)
          rintro e w1 ⟨rfl, hb⟩
          clear HF
          obtain ⟨hc, hfz⟩ := bcell2 hb
          have hx1 : w1.cell? ⟨w.heap.size, 0, none⟩ = some (.slice (some ad) l.length c) := (hc _ _ (by simp)).trans (by rw [cell_of_row _ _ 0 _ _ _ (heap_alloc_new w _)]; rfl)
          have hx2 : w1.cell? (ad.add (l.length - 1)) = some (.complex .f32 x y) := (hb.cell (by rw [block_of_add]; simp; omega)).trans ((hb0.cell (by rw [block_of_add]; omega)).trans hcell)
          clear hc hfz hcell
          go_wp2
          go_ret
          exact ⟨by rw [hl.out]; simp, hb0.trans (hb.mono hb0.size)⟩
    · have hv : polyB l = false := by simp [polyB, h2]
      have h1' : decide ((1 : Int) ≤ (l.length : Int)) = true := by simp; omega
      have h2' : decide ((l.length : Int) ≤ 17) = false := by simp; omega
      rw [hv]
      clear hr hv
      go_enter Try.func50, Try.ntmps50
      go_wp2
      go_ret
      exact ⟨rfl, hb0⟩
  · have hv : polyB l = false := by simp [polyB, h1]
    have h1' : decide ((1 : Int) ≤ (l.length : Int)) = false := by simp; omega
    rw [hv]
    clear hr hv
    go_enter Try.func50, Try.ntmps50
    go_wp2
    go_ret
    exact ⟨rfl, hb0⟩
end Go.Proofs.Ytlpibibpckkjhaa
