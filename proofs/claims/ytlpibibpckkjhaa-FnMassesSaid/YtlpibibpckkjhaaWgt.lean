/-
  Contracts: whether a weight is below 0 (impl.FitPoly's closure, slices.ContainsFunc), whether it is finite and not below 0 (spec.l02Least).
-/
import Derived.Test.YtlpibibpckkjhaaPoOf
import Derived.Test.YtlpibibpckkjhaaSolS
namespace Go.Proofs.Ytlpibibpckkjhaa
open Go.RowKit

/-- A number is not below 0. -/
def nonegB (x : Nat) : Bool := !(FloatKind.f32.format.order x 0 == some .lt)
theorem fitPoly1_b (x : Nat) (w : World) :
    Calls Try.prog 73 #[.float .f32 x] w fun e w' => e = .returned (.bool (!nonegB x)) ∧ Below w.heap.size w w' := by
  unfold nonegB
  rw [Bool.not_not]
  go_enter Try.func73, Try.ntmps73
  go_wp2
  go_ret
  exact ⟨rfl, Below.refl _ _⟩
/-- The place of the first number of a list, from a place on, that is below 0; -1 if there is none. -/
def ixW : Nat → List Nat → Int
  | _, [] => -1
  | k, z :: l => if nonegB z then ixW (k + 1) l else (k : Int)
theorem ixW_step {l : List Nat} {k : Nat} (h : k < l.length) : ixW k (l.drop k) = if nonegB (l.getD k 0) then ixW (k + 1) (l.drop (k + 1)) else (k : Int) := by
  rw [List.drop_eq_getElem_cons h, ixW, List.getD, List.getElem?_eq_getElem h]
  rfl
theorem ixW_all (k : Nat) (l : List Nat) : decide (0 ≤ ixW k l) = !l.all nonegB := by
  induction l generalizing k with
  | nil => rfl
  | cons z l ih =>
    rw [ixW, List.all_cons]
    cases nonegB z with
    | true => simpa using ih (k + 1)
    | false => simp
theorem indexFuncW_b (A : Option Addr) (c B : Nat) (l : List Nat) (w : World) (hr : Reads w B 1 A l.length (flts l)) (hB : B ≤ w.heap.size) (hn : l.length ≤ 1048576) :
    Calls Try.prog 99 #[.slice A l.length c, .func (.func 73) #[] #[]] w fun e w' => e = .returned (.int .i64 (ixW 0 l)) ∧ Below w.heap.size w w' := by
  have HI : Hid (∃ r, r = ixW 0 l) := ⟨_, rfl⟩
  obtain ⟨r, hr0⟩ := HI.out
  rw [← hr0]
  have HR := Lib.hid hr0
  clear HI hr0
  go_enter Try.func99, Try.ntmps99
  go_wp2
  go_loopw [8] (fun i wr => ∃ k : Nat, k ≤ l.length ∧ i = .int .i64 k ∧ Hid (r = ixW k (l.drop k)) ∧ Below w.heap.size w wr) (fun i _ => l.length - (intOf i).toNat)
  case atStart => exact ⟨0, Nat.zero_le _, rfl, HR, Below.refl _ _⟩
  case round =>
    obtain ⟨k, hk, rfl, hR, hbr⟩ := hrel
    by_cases hlt : k < l.length
    · obtain ⟨wo, rfl⟩ : ∃ wo : World, wo = wr := ⟨_, rfl⟩
      obtain ⟨ad, rfl, hab, hc1⟩ := flt_at (hr.below (hbr.mono hB)) hlt
      have hS := hR.out
      rw [ixW_step hlt] at hS
      clear hr hR
      generalize l.getD k 0 = x at *
      have H := fitPoly1_b x wo
      cases hf : nonegB x with
      | true =>
        rw [hf, if_pos rfl] at hS
        rw [hf] at H
        have hS := Lib.hid hS
        clear hf
        go_wp2_with fail
        refine H.mono ?_
        rintro e w1 ⟨rfl, hb⟩
        go_wp2
        go_roundw
        case rel => exact ⟨k + 1, by omega, by go_num, hS, hbr.trans (hb.mono hbr.size)⟩
        case measure => simp [intOf]; omega
      | false =>
        rw [hf, if_neg (by simp)] at hS
        rw [hf] at H
        have hS := Lib.hid hS
        clear hf
        go_wp2_with fail
        refine H.mono ?_
        rintro e w1 ⟨rfl, hb⟩
        go_wp2
        go_ret
        exact ⟨by rw [hS.out]; rfl, hbr.trans (hb.mono hbr.size)⟩
    · have hkn : k = l.length := by omega
      subst hkn
      have hS : Hid (r = -1) := by
        show _ = _
        rw [hR.out, List.drop_eq_nil_of_le (Nat.le_refl _)]; rfl
      clear hR
      go_wp2
      go_ret
      exact ⟨by rw [hS.out]; rfl, hbr⟩
theorem containsFuncW_b (A : Option Addr) (c B : Nat) (l : List Nat) (w : World) (hr : Reads w B 1 A l.length (flts l)) (hB : B ≤ w.heap.size) (hn : l.length ≤ 1048576) :
    Calls Try.prog 72 #[.slice A l.length c, .func (.func 73) #[] #[]] w fun e w' => e = .returned (.bool (!l.all nonegB)) ∧ Below w.heap.size w w' := by
  have H := indexFuncW_b A c B l w hr hB hn
  have HA := ixW_all 0 l
  generalize ixW 0 l = i at *
  generalize l.all nonegB = b at *
  clear hr
  go_enter Try.func72, Try.ntmps72
  go_wp2_with fail
  refine H.mono ?_
  rintro e w1 ⟨rfl, hb⟩
  go_wp2
  go_ret
  refine ⟨?_, hb⟩
  rw [← HA]
  rfl

/-- A weight as it has to be. -/
def leastB (x : Nat) : Bool := fin32B x && nonegB x
theorem fin_order {x : Nat} (h : fin32B x = true) : (FloatKind.f32.format.order x 0 == some .gt || FloatKind.f32.format.order x 0 == some .eq) = nonegB x := by
  unfold nonegB
  have hn : FloatKind.f32.format.order x 0 ≠ none := by
    intro e
    rw [order_zero] at e
    obtain ⟨s, m, i, hr, -⟩ := fin_number h
    rw [hr] at e
    cases e
  cases ho : FloatKind.f32.format.order x 0 with
  | none => exact absurd ho hn
  | some o => cases o <;> rfl
/-- All weights are as they have to be. -/
theorem least_all (l : List Nat) : l.all leastB = (l.all fin32B && l.all nonegB) := by
  induction l with
  | nil => rfl
  | cons a l ih => rw [List.all_cons, List.all_cons, List.all_cons, ih, leastB]; cases fin32B a <;> cases nonegB a <;> simp
end Go.Proofs.Ytlpibibpckkjhaa
