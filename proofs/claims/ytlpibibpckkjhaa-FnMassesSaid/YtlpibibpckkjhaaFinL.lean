/-
  Contracts: whether all of a list of numbers are finite (impl.areFinite with its closure; spec.l02Finite).
-/
import Derived.Test.YtlpibibpckkjhaaFinB
import Derived.Test.YtlpibibpckkjhaaEvnW
namespace Go.Proofs.Ytlpibibpckkjhaa
open Go.RowKit

/-- The place of the first number of a list, from a place on, that is not finite; -1 if there is none. -/
def ixF : Nat → List Nat → Int
  | _, [] => -1
  | k, z :: l => if fin32B z then ixF (k + 1) l else (k : Int)
theorem ixF_step {l : List Nat} {k : Nat} (h : k < l.length) : ixF k (l.drop k) = if fin32B (l.getD k 0) then ixF (k + 1) (l.drop (k + 1)) else (k : Int) := by
  rw [List.drop_eq_getElem_cons h, ixF, List.getD, List.getElem?_eq_getElem h]
  rfl
theorem ixF_all (k : Nat) (l : List Nat) : decide (0 ≤ ixF k l) = !l.all fin32B := by
  induction l generalizing k with
  | nil => rfl
  | cons z l ih =>
    rw [ixF, List.all_cons]
    cases fin32B z with
    | true => simpa using ih (k + 1)
    | false => simp
theorem indexFuncF_b (A : Option Addr) (c B : Nat) (l : List Nat) (w : World) (hr : Reads w B 1 A l.length (flts l)) (hB : B ≤ w.heap.size) (hn : l.length ≤ 1048576) :
    Calls Try.prog 99 #[.slice A l.length c, .func (.func 85) #[] #[]] w fun e w' => e = .returned (.int .i64 (ixF 0 l)) ∧ Below w.heap.size w w' := by
  have HI : Hid (∃ r, r = ixF 0 l) := ⟨_, rfl⟩
  obtain ⟨r, hr0⟩ := HI.out
  rw [← hr0]
  have HR := Lib.hid hr0
  clear HI hr0
  go_enter Try.func99, Try.ntmps99
  go_wp2
  go_loopw [8] (fun i wr => ∃ k : Nat, k ≤ l.length ∧ i = .int .i64 k ∧ Hid (r = ixF k (l.drop k)) ∧ Below w.heap.size w wr) (fun i _ => l.length - (intOf i).toNat)
  case atStart => exact ⟨0, Nat.zero_le _, rfl, HR, Below.refl _ _⟩
  case round =>
    obtain ⟨k, hk, rfl, hR, hbr⟩ := hrel
    by_cases hlt : k < l.length
    · obtain ⟨wo, rfl⟩ : ∃ wo : World, wo = wr := ⟨_, rfl⟩
      obtain ⟨ad, rfl, hab, hc1⟩ := flt_at (hr.below (hbr.mono hB)) hlt
      have hS := hR.out
      rw [ixF_step hlt] at hS
      clear hr hR
      generalize l.getD k 0 = x at *
      have H := areFinite1_b x wo
      cases hf : fin32B x with
      | true =>
        rw [hf, if_pos rfl] at hS
        rw [hf] at H
        have hS := Lib.hid hS
        clear hf
        go_wp2_with fail
        refine H.mono ?_
        rintro e w1 ⟨rfl, hb⟩
        go_wp2
        go_roundw
        case rel => exact ⟨k + 1, by omega, by go_num, hS, hbr.trans (hb.mono hbr.size)⟩
        case measure => simp [intOf]; omega
      | false =>
        rw [hf, if_neg (by simp)] at hS
        rw [hf] at H
        have hS := Lib.hid hS
        clear hf
        go_wp2_with fail
        refine H.mono ?_
        rintro e w1 ⟨rfl, hb⟩
        go_wp2
        go_ret
        exact ⟨by rw [hS.out]; rfl, hbr.trans (hb.mono hbr.size)⟩
    · have hkn : k = l.length := by omega
      subst hkn
      have hS : Hid (r = -1) := by
        show _ = _
        rw [hR.out, List.drop_eq_nil_of_le (Nat.le_refl _)]; rfl
      clear hR
      go_wp2
      go_ret
      exact ⟨by rw [hS.out]; rfl, hbr⟩
theorem containsFuncF_b (A : Option Addr) (c B : Nat) (l : List Nat) (w : World) (hr : Reads w B 1 A l.length (flts l)) (hB : B ≤ w.heap.size) (hn : l.length ≤ 1048576) :
    Calls Try.prog 72 #[.slice A l.length c, .func (.func 85) #[] #[]] w fun e w' => e = .returned (.bool (!l.all fin32B)) ∧ Below w.heap.size w w' := by
  have H := indexFuncF_b A c B l w hr hB hn
  have HA := ixF_all 0 l
  generalize ixF 0 l = i at *
  generalize l.all fin32B = b at *
  clear hr
  go_enter Try.func72, Try.ntmps72
  go_wp2_with fail
  refine H.mono ?_
  rintro e w1 ⟨rfl, hb⟩
  go_wp2
  go_ret
  refine ⟨?_, hb⟩
  rw [← HA]
  rfl
theorem areFinite_b (A : Option Addr) (c B : Nat) (l : List Nat) (w : World) (hr : Reads w B 1 A l.length (flts l)) (hB : B ≤ w.heap.size) (hn : l.length ≤ 1048576) :
    Calls Try.prog 45 #[.slice A l.length c] w fun e w' => e = .returned (.bool (l.all fin32B)) ∧ Below w.heap.size w w' := by
  have H := containsFuncF_b A c B l w hr hB hn
  generalize l.all fin32B = b at *
  clear hr
  go_enter Try.func45, Try.ntmps45
  go_wp2_with fail
  refine H.mono ?_
  rintro e w1 ⟨rfl, hb⟩
  go_wp2
  go_ret
  refine ⟨?_, hb⟩
  simp
end Go.Proofs.Ytlpibibpckkjhaa
