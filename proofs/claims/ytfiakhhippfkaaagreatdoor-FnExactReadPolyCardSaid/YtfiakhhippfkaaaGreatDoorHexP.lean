/-
  Plain law: eight hexadecimal digits and the number that they are of.
-/
import Derived.RowKit
namespace Go.Proofs.YtfiakhhippfkaaaGreatDoor

/-- The digit of a small number. -/
def hexDig (d : Nat) : UInt8 := if d < 10 then UInt8.ofNat (48 + d) else UInt8.ofNat (87 + d)
/-- The number of a small digit; none of another byte. -/
def lowV (b : UInt8) : Option Nat := if 48 ≤ b.toNat ∧ b.toNat ≤ 57 then some (b.toNat - 48) else if 97 ≤ b.toNat ∧ b.toNat ≤ 102 then some (b.toNat - 87) else none
/-- A byte with its bit of small letters set. -/
def lowB (b : UInt8) : Nat := b.toNat ||| 32
/-- The number of a digit, small or great; none of another byte. -/
def anyV (b : UInt8) : Option Nat := if 48 ≤ b.toNat ∧ b.toNat ≤ 57 then some (b.toNat - 48) else if 97 ≤ lowB b ∧ lowB b ≤ 102 then some (lowB b - 87) else none

/-- The number of some digits behind a number. -/
def run (v : UInt8 → Option Nat) : Nat → List UInt8 → Option Nat
  | n, [] => some n
  | n, b :: l => match v b with
    | some d => run v (16 * n + d) l
    | none => none
/-- The digits of a number, so many. -/
def pad : Nat → Nat → List UInt8
  | 0, _ => []
  | k + 1, n => pad k (n / 16) ++ [hexDig (n % 16)]
/-- The digits of a number, no more than it needs. -/
def least (n : Nat) : List UInt8 := if _h : n < 16 then [hexDig n] else least (n / 16) ++ [hexDig (n % 16)]
termination_by n
decreasing_by omega

theorem lowV_dig (d : Nat) (h : d < 16) : lowV (hexDig d) = some d := by
  have : ∀ d : Fin 16, lowV (hexDig d.val) = some d.val := by decide +kernel
  exact this ⟨d, h⟩
theorem anyV_dig (d : Nat) (h : d < 16) : anyV (hexDig d) = some d := by
  have : ∀ d : Fin 16, anyV (hexDig d.val) = some d.val := by decide +kernel
  exact this ⟨d, h⟩
theorem ofNat_toNat (b : UInt8) : UInt8.ofNat b.toNat = b := UInt8.ofNat_toNat
theorem lowV_some {b : UInt8} {d : Nat} (h : lowV b = some d) : d < 16 ∧ hexDig d = b := by
  unfold lowV at h
  split at h
  · next h1 =>
    injection h with h
    subst h
    refine ⟨by omega, ?_⟩
    unfold hexDig
    rw [if_pos (by omega), show 48 + (b.toNat - 48) = b.toNat by omega, ofNat_toNat]
  · split at h
    · next h1 =>
      injection h with h
      subst h
      refine ⟨by omega, ?_⟩
      unfold hexDig
      rw [if_neg (by omega), show 87 + (b.toNat - 87) = b.toNat by omega, ofNat_toNat]
    · cases h

theorem run_snoc (v : UInt8 → Option Nat) (n : Nat) (l : List UInt8) (b : UInt8) :
    run v n (l ++ [b]) = (run v n l).bind fun m => (v b).map (16 * m + ·) := by
  induction l generalizing n with
  | nil => simp only [List.nil_append, run, Option.bind_some]; cases v b <;> rfl
  | cons c l ih =>
    simp only [List.cons_append, run]
    cases v c with
    | none => rfl
    | some d => exact ih _

theorem pad_len (k n : Nat) : (pad k n).length = k := by
  induction k generalizing n with
  | zero => rfl
  | succ k ih => simp [pad, ih]
theorem run_pad (v : UInt8 → Option Nat) (hv : ∀ d, d < 16 → v (hexDig d) = some d) (k n : Nat) (h : n < 16 ^ k) : run v 0 (pad k n) = some n := by
  induction k generalizing n with
  | zero => simp only [Nat.pow_zero] at h; simp [pad, run]; omega
  | succ k ih =>
    rw [pad, run_snoc, ih (n / 16) (by rw [Nat.pow_succ] at h; omega), Option.bind_some, hv _ (by omega), Option.map_some]
    congr 1; omega
theorem run_lt {k : Nat} {l : List UInt8} {n : Nat} (hl : l.length = k) (h : run lowV 0 l = some n) : n < 16 ^ k ∧ pad k n = l := by
  induction k generalizing l n with
  | zero =>
    have : l = [] := List.length_eq_zero_iff.1 hl
    subst this
    simp only [run, Option.some.injEq] at h
    subst h
    exact ⟨by simp, rfl⟩
  | succ k ih =>
    obtain ⟨l', b, rfl⟩ : ∃ l' b, l = l' ++ [b] := ⟨l.dropLast, l.getLast (by intro e; subst e; simp at hl), (List.dropLast_concat_getLast _).symm⟩
    rw [run_snoc] at h
    cases hm : run lowV 0 l' with
    | none => rw [hm] at h; cases h
    | some m =>
      rw [hm, Option.bind_some] at h
      cases hb : lowV b with
      | none => rw [hb] at h; cases h
      | some d =>
        rw [hb, Option.map_some, Option.some.injEq] at h
        obtain ⟨h1, h2⟩ := lowV_some hb
        obtain ⟨h3, h4⟩ := ih (by simp at hl; exact hl) hm
        refine ⟨by rw [Nat.pow_succ]; omega, ?_⟩
        rw [pad, show n / 16 = m by omega, show n % 16 = d by omega, h4, h2]
theorem pad_iff {k : Nat} {l : List UInt8} {n : Nat} (hn : n < 16 ^ k) : pad k n = l ↔ l.length = k ∧ run lowV 0 l = some n :=
  ⟨fun h => by subst h; exact ⟨pad_len k n, run_pad lowV lowV_dig k n hn⟩, fun h => (run_lt h.1 h.2).2⟩
theorem any_of_low {l : List UInt8} {n : Nat} (h : run lowV 0 l = some n) : run anyV 0 l = some n := by
  obtain ⟨h1, h2⟩ := run_lt rfl h
  rw [← h2]
  exact run_pad anyV anyV_dig _ _ h1

theorem least_len {k n : Nat} (h : n < 16 ^ (k + 1)) : 1 ≤ (least n).length ∧ (least n).length ≤ k + 1 ∧ pad (k + 1) n = List.replicate (k + 1 - (least n).length) 48 ++ least n := by
  induction k generalizing n with
  | zero =>
    rw [least, dif_pos (by simpa using h)]
    refine ⟨by simp, by simp, ?_⟩
    have : n < 16 := by simpa using h
    simp [pad, Nat.mod_eq_of_lt this]
  | succ k ih =>
    have hz : hexDig 0 = 48 := by decide
    by_cases h16 : n < 16
    · have h0 : ∀ k, pad k 0 = List.replicate k 48 := by
        intro k
        induction k with
        | zero => rfl
        | succ k ih => rw [pad, Nat.zero_div, Nat.zero_mod, ih, hz, ← List.replicate_succ']
      rw [least, dif_pos h16]
      refine ⟨by simp, by simp, ?_⟩
      rw [pad, Nat.div_eq_of_lt h16, Nat.mod_eq_of_lt h16, h0]
      simp
    · obtain ⟨h1, h2, h3⟩ := ih (n := n / 16) (by rw [Nat.pow_succ] at h; omega)
      rw [pad, h3, least, dif_neg h16]
      refine ⟨by simp, by simp; omega, ?_⟩
      rw [List.length_append, List.append_assoc]
      congr 2
      simp
end Go.Proofs.YtfiakhhippfkaaaGreatDoor
