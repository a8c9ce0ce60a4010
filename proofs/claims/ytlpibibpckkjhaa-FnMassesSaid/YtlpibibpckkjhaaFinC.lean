/-
  Contracts: finite complex numbers and lists of them (impl.areFinite, IsFiniteComplex, allFinite; spec.l01CFinite, l02CFinite), whatever the numbers.
-/
import Derived.Test.YtlpibibpckkjhaaFinL
namespace Go.Proofs.Ytlpibibpckkjhaa
open Go.RowKit

theorem containsFunc32_b (ad : Addr) (c x y : Nat) (w : World) (h0 : w.cell? ad = some (.float .f32 x)) (h1 : w.cell? (ad.add 1) = some (.float .f32 y)) :
    Calls Try.prog 72 #[.slice (some ad) 2 c, .func (.func 85) #[] #[]] w fun e w' => e = .returned (.bool (!(fin32B x && fin32B y))) ∧ Below w.heap.size w w' := by
  have H := indexFunc32_b ad c x y w h0 h1
  clear h0 h1
  generalize fin32B x = bx at *
  generalize fin32B y = by_ at *
  go_enter Try.func72, Try.ntmps72
  go_wp2_with fail
  refine H.mono ?_
  rintro e w1 ⟨rfl, hb⟩
  cases bx <;> cases by_
  all_goals
    go_wp2
    go_ret
    exact ⟨rfl, hb⟩
theorem areFinite2_b (ad : Addr) (c x y : Nat) (w : World) (h0 : w.cell? ad = some (.float .f32 x)) (h1 : w.cell? (ad.add 1) = some (.float .f32 y)) :
    Calls Try.prog 45 #[.slice (some ad) 2 c] w fun e w' => e = .returned (.bool (fin32B x && fin32B y)) ∧ Below w.heap.size w w' := by
  have H := containsFunc32_b ad c x y w h0 h1
  clear h0 h1
  generalize (fin32B x && fin32B y) = b at *
  go_enter Try.func45, Try.ntmps45
  go_wp2_with fail
  refine H.mono ?_
  rintro e w1 ⟨rfl, hb⟩
  go_wp2
  go_ret
  exact ⟨by simp, hb⟩

/-- A complex number is finite. -/
def finCB (z : Nat × Nat) : Bool := fin32B z.1 && fin32B z.2
theorem isFiniteC_b (x y : Nat) (w : World) :
    Calls Try.prog 91 #[.complex .f32 x y] w fun e w' => e = .returned (.bool (finCB (x, y))) ∧ Below w.heap.size w w' := by
  have hb : (w.alloc (.cells #[.float .f32 x, .float .f32 y] 25)).heap[w.heap.size]? = some (.cells #[.float .f32 x, .float .f32 y] 25) := heap_alloc_new w _
  have H := areFinite2_b ⟨w.heap.size, 0, none⟩ 2 x y _ (by rw [cell_of_row _ _ 0 _ _ _ hb]; rfl) (by show World.cell? _ ⟨w.heap.size, 1, none⟩ = _; rw [cell_of_row _ _ 1 _ _ _ hb]; rfl)
  have hb0 : Below w.heap.size w (w.alloc (.cells #[.float .f32 x, .float .f32 y] 25)) := (Below.refl _ _).alloc (Nat.le_refl _) _
  have hF : finCB (x, y) = (fin32B x && fin32B y) := rfl
  rw [hF]
  clear hF hb
  generalize (fin32B x && fin32B y) = b at *
  go_enter Try.func91, Try.ntmps91
  go_wp2_with fail
  refine H.mono ?_
  rintro e w1 ⟨rfl, hb⟩
  go_wp2
  go_ret
  exact ⟨rfl, hb0.trans (hb.mono hb0.size)⟩
theorem allFinite1_b (x y : Nat) (w : World) :
    Calls Try.prog 90 #[.complex .f32 x y] w fun e w' => e = .returned (.bool (!finCB (x, y))) ∧ Below w.heap.size w w' := by
  have H := isFiniteC_b x y w
  generalize finCB (x, y) = b at *
  go_enter Try.func90, Try.ntmps90
  go_wp2_with fail
  refine H.mono ?_
  rintro e w1 ⟨rfl, hb⟩
  go_wp2
  go_ret
  exact ⟨rfl, hb⟩
/-- The place of the first number of a list, from a place on, that is not finite; -1 if there is none. -/
def ixC : Nat → List (Nat × Nat) → Int
  | _, [] => -1
  | k, z :: l => if finCB z then ixC (k + 1) l else (k : Int)
theorem ixC_step {l : List (Nat × Nat)} {k : Nat} (h : k < l.length) : ixC k (l.drop k) = if finCB (l.getD k (0, 0)) then ixC (k + 1) (l.drop (k + 1)) else (k : Int) := by
  rw [List.drop_eq_getElem_cons h, ixC, List.getD, List.getElem?_eq_getElem h]
  rfl
theorem ixC_all (k : Nat) (l : List (Nat × Nat)) : decide (0 ≤ ixC k l) = !l.all finCB := by
  induction l generalizing k with
  | nil => rfl
  | cons z l ih =>
    rw [ixC, List.all_cons]
    cases finCB z with
    | true => simpa using ih (k + 1)
    | false => simp
theorem indexFuncC_b (A : Option Addr) (c B : Nat) (l : List (Nat × Nat)) (w : World) (hr : Reads w B 1 A l.length (cplx l)) (hB : B ≤ w.heap.size) (hn : l.length ≤ 1048576) :
    Calls Try.prog 106 #[.slice A l.length c, .func (.func 90) #[] #[]] w fun e w' => e = .returned (.int .i64 (ixC 0 l)) ∧ Below w.heap.size w w' := by
  have HI : Hid (∃ r, r = ixC 0 l) := ⟨_, rfl⟩
  obtain ⟨r, hr0⟩ := HI.out
  rw [← hr0]
  have HR := Lib.hid hr0
  clear HI hr0
  go_enter Try.func106, Try.ntmps106
  go_wp2
  go_loopw [8] (fun i wr => ∃ k : Nat, k ≤ l.length ∧ i = .int .i64 k ∧ Hid (r = ixC k (l.drop k)) ∧ Below w.heap.size w wr) (fun i _ => l.length - (intOf i).toNat)
  case atStart => exact ⟨0, Nat.zero_le _, rfl, HR, Below.refl _ _⟩
  case round =>
    obtain ⟨k, hk, rfl, hR, hbr⟩ := hrel
    by_cases hlt : k < l.length
    · obtain ⟨wo, rfl⟩ : ∃ wo : World, wo = wr := ⟨_, rfl⟩
      obtain ⟨ad, rfl, hab, hc1⟩ := comp_at (hr.below (hbr.mono hB)) hlt
      have hS := hR.out
      rw [ixC_step hlt] at hS
      have hz : l.getD k (0, 0) = ((l.getD k (0, 0)).1, (l.getD k (0, 0)).2) := rfl
      rw [hz] at hS
      clear hr hz hR
      generalize (l.getD k (0, 0)).1 = x at *
      generalize (l.getD k (0, 0)).2 = y at *
      have H := allFinite1_b x y wo
      cases hf : finCB (x, y) with
      | true =>
        rw [hf, if_pos rfl] at hS
        rw [hf] at H
        have hS := Lib.hid hS
        clear hf
        go_wp2_with fail
        refine H.mono ?_
        rintro e w1 ⟨rfl, hb⟩
        go_wp2
        go_roundw
        case rel => exact ⟨k + 1, by omega, by go_num, hS, hbr.trans (hb.mono hbr.size)⟩
        case measure => simp [intOf]; omega
      | false =>
        rw [hf, if_neg (by simp)] at hS
        rw [hf] at H
        have hS := Lib.hid hS
        clear hf
        go_wp2_with fail
        refine H.mono ?_
        rintro e w1 ⟨rfl, hb⟩
        go_wp2
        go_ret
        exact ⟨by rw [hS.out]; rfl, hbr.trans (hb.mono hbr.size)⟩
    · have hkn : k = l.length := by omega
      subst hkn
      have hS : Hid (r = -1) := by
        show _ = _
        rw [hR.out, List.drop_eq_nil_of_le (Nat.le_refl _)]; rfl
      clear hR
      go_wp2
      go_ret
      exact ⟨by rw [hS.out]; rfl, hbr⟩
end Go.Proofs.Ytlpibibpckkjhaa
