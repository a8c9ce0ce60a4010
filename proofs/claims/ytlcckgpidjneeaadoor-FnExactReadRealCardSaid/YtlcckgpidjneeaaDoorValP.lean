/-
  Plain laws (no program in sight): the number with a text, as the reference reads it and as strconv.ParseInt does.
-/
import Derived.Test.YtlcckgpidjneeaaDoorRealT
import Derived.Lib.ParseIntBCases
namespace Go.Proofs.YtlcckgpidjneeaaDoor

/-- The number that the digits of a text make, behind others. -/
def dval (n : Nat) (l : List UInt8) : Nat := l.foldl (fun n b => if 48 ≤ b.toNat ∧ b.toNat ≤ 57 then 10 * n + (b.toNat - 48) else n) n
theorem dval_snoc (n : Nat) (l : List UInt8) (b : UInt8) : dval n (l ++ [b]) = if 48 ≤ b.toNat ∧ b.toNat ≤ 57 then 10 * dval n l + (b.toNat - 48) else dval n l := by
  simp [dval, List.foldl_append]
theorem dval_lt (l : List UInt8) : ∀ k, k ≤ l.length → dval 0 (l.take k) < 10 ^ k
  | 0, _ => by simp [dval]
  | k + 1, h => by
    have ih := dval_lt l k (by omega)
    rw [List.take_add_one, List.getElem?_eq_getElem (show k < l.length by omega)]
    simp only [Option.toList_some]
    rw [dval_snoc, Nat.pow_succ]
    split <;> omega
theorem dg_nat' (u : Nat) : (UInt8.ofNat (48 + u % 10)).toNat = 48 + u % 10 := by rw [UInt8.toNat_ofNat']; omega
theorem dval_front : ∀ u : Nat, dval 0 (front u) = u := by
  intro u
  induction u using Nat.strongRecOn with
  | ind u ih =>
    by_cases h : u = 0
    · subst h; rfl
    · rw [front_digits h, dval_snoc, ih (u / 10) (by omega), dg_nat', if_pos (by omega)]
      omega
theorem dval_dec (u : Nat) : dval 0 (Lib.decDigits u) = u := by
  rw [digits_front, dval_snoc, dval_front, dg_nat', if_pos (by omega)]
  omega
theorem dec_len {u : Nat} : ∀ k, u < 10 ^ (k + 1) → (Lib.decDigits u).length ≤ k + 1 := by
  intro k
  induction k generalizing u with
  | zero => intro h; rw [Lib.decDigits_one (by omega)]; simp
  | succ k ih =>
    intro h
    rw [digits_front]
    by_cases h0 : u / 10 = 0
    · rw [h0]; simp [front]
    · have := ih (u := u / 10) (by rw [Nat.pow_succ] at h; omega)
      rw [front, if_neg h0]
      simp; omega
theorem dec_head (u : Nat) : ∀ b ∈ Lib.decDigits u, 48 ≤ b.toNat ∧ b.toNat ≤ 57 := by
  induction u using Nat.strongRecOn with
  | ind u ih =>
    intro b hb
    rw [digits_front] at hb
    rcases List.mem_append.1 hb with h | h
    · unfold front at h
      split at h
      · simp at h
      · exact ih (u / 10) (by omega) b h
    · simp only [List.mem_singleton] at h
      subst h
      rw [dg_nat']; omega
theorem umax_snoc {M : Nat} {c : UInt8} (hc : 48 ≤ c.toNat ∧ c.toNat ≤ 57) : ∀ {x : List UInt8} {acc v : Nat}, Lib.parseUintM M acc x = .ok v → v < 1844674407370955162 → v * 10 + (c.toNat - 48) ≤ M → Lib.parseUintM M acc (x ++ [c]) = .ok (v * 10 + (c.toNat - 48))
  | [], acc, v, h, h1, h2 => by
    simp only [Lib.parseUintM] at h
    injection h with h
    subst h
    simp only [List.nil_append, Lib.parseUintM]
    rw [if_pos hc, if_neg (by omega), if_neg (by omega)]
  | b :: x, acc, v, h, h1, h2 => by
    simp only [List.cons_append, Lib.parseUintM] at h ⊢
    split at h
    · rename_i hb
      rw [if_pos hb]
      split at h
      · cases h
      · rename_i h3
        rw [if_neg h3]
        split at h
        · cases h
        · rename_i h4
          rw [if_neg h4]
          exact umax_snoc hc h h1 h2
    · cases h
theorem umax_front {M : Nat} (hM : 1000000000000000 ≤ M) : ∀ u : Nat, u ≤ 1000000000000000 → Lib.parseUintM M 0 (front u) = .ok u := by
  intro u
  induction u using Nat.strongRecOn with
  | ind u ih =>
    intro hu
    by_cases h : u = 0
    · subst h; rfl
    · have h1 := ih (u / 10) (by omega) (by omega)
      rw [front_digits h, umax_snoc (by rw [dg_nat']; omega) h1 (by omega) (by rw [dg_nat']; omega), dg_nat']
      congr 1
      omega
theorem umax_dec {M : Nat} (hM : 1000000000000000 ≤ M) {u : Nat} (hu : u ≤ 1000000000000000) : Lib.parseUintM M 0 (Lib.decDigits u) = .ok u := by
  have h1 := umax_front hM (u / 10) (by omega)
  rw [digits_front, umax_snoc (by rw [dg_nat']; omega) h1 (by omega) (by rw [dg_nat']; omega), dg_nat']
  congr 1
  omega
theorem dec_ne (u : Nat) : Lib.decDigits u ≠ [] := by
  intro e
  have := dec_pos u
  rw [e] at this
  simp at this
theorem pu_dec {u : Nat} (hu : u ≤ 1000000000000000) : Lib.parseUintB 64 (Lib.decDigits u) = .ok u := by
  rw [Lib.parseUintB, if_neg (dec_ne u)]
  exact umax_dec (by decide) hu
theorem pi_itoa {n : Int} (h0 : -1000000000000000 ≤ n) (h1 : n ≤ 1000000000000000) : Lib.parseIntB 64 (Lib.itoa n) = .ok n := by
  by_cases h : n < 0
  · obtain ⟨u, rfl⟩ : ∃ u : Nat, n = -(u : Int) := ⟨n.natAbs, by omega⟩
    rw [Lib.itoa_neg u (by omega)]
    have h45 : (45 : UInt8).toNat = 45 := rfl
    simp only [Lib.parseIntB, h45, or_true, if_true, pu_dec (show u ≤ 1000000000000000 by omega)]
    rw [if_neg (by simp), if_neg (by omega)]
  · obtain ⟨u, rfl⟩ : ∃ u : Nat, n = (u : Int) := ⟨n.toNat, by omega⟩
    rw [itoa_nat]
    have hpu := pu_dec (show u ≤ 1000000000000000 by omega)
    have hh := dec_head u
    have hne := dec_ne u
    generalize Lib.decDigits u = l at *
    cases l with
    | nil => exact absurd rfl hne
    | cons c r =>
      have hc := hh c (by simp)
      have h1 : ¬ (c.toNat = 43 ∨ c.toNat = 45) := by omega
      have h2 : ¬ c.toNat = 45 := by omega
      simp only [Lib.parseIntB, if_neg h1, hpu]
      rw [if_neg (by omega), if_neg (by omega), if_neg h2]

/-- The number with a text, if there is one. -/
def sv (l : List UInt8) : Int := if l.head? = some 45 then -((dval 0 l : Nat) : Int) else ((dval 0 l : Nat) : Int)
def rdB (l : List UInt8) : Bool := decide (1 ≤ l.length ∧ l.length ≤ 17) && (decide (-1000000000000000 ≤ sv l ∧ sv l ≤ 1000000000000000) && decide (Lib.itoa (sv l) = l))
theorem sv_itoa {n : Int} : sv (Lib.itoa n) = n := by
  by_cases h : n < 0
  · obtain ⟨u, rfl⟩ : ∃ u : Nat, n = -(u : Int) := ⟨n.natAbs, by omega⟩
    rw [Lib.itoa_neg u (by omega)]
    have : dval 0 (45 :: Lib.decDigits u) = dval 0 (Lib.decDigits u) := by simp [dval]
    simp [sv, this, dval_dec]
  · obtain ⟨u, rfl⟩ : ∃ u : Nat, n = (u : Int) := ⟨n.toNat, by omega⟩
    rw [itoa_nat]
    have hne := dec_ne u
    have hh := dec_head u
    have hd := dval_dec u
    generalize Lib.decDigits u = l at *
    cases l with
    | nil => exact absurd rfl hne
    | cons c r =>
      have hc := hh c (by simp)
      have h45 : ¬ c = 45 := fun e => by subst e; simp at hc
      simp [sv, h45, hd]
theorem itoa_len17 {n : Int} (h0 : -1000000000000000 ≤ n) (h1 : n ≤ 1000000000000000) : 1 ≤ (Lib.itoa n).length ∧ (Lib.itoa n).length ≤ 17 := by
  by_cases h : n < 0
  · obtain ⟨u, rfl⟩ : ∃ u : Nat, n = -(u : Int) := ⟨n.natAbs, by omega⟩
    rw [Lib.itoa_neg u (by omega)]
    have := dec_len (u := u) 15 (by omega)
    simp; omega
  · obtain ⟨u, rfl⟩ : ∃ u : Nat, n = (u : Int) := ⟨n.toNat, by omega⟩
    rw [itoa_nat]
    have := dec_len (u := u) 15 (by omega)
    have := dec_pos u
    omega
theorem rdB_itoa {n : Int} (h0 : -1000000000000000 ≤ n) (h1 : n ≤ 1000000000000000) : rdB (Lib.itoa n) = true := by
  simp only [rdB, Bool.and_eq_true, decide_eq_true_eq]
  rw [sv_itoa]
  exact ⟨itoa_len17 h0 h1, ⟨h0, h1⟩, rfl⟩
theorem rdB_parts {l : List UInt8} (h : rdB l = true) : (1 ≤ l.length ∧ l.length ≤ 17) ∧ (-1000000000000000 ≤ sv l ∧ sv l ≤ 1000000000000000) ∧ Lib.itoa (sv l) = l := by
  simpa only [rdB, Bool.and_eq_true, decide_eq_true_eq] using h
theorem rdB_parse {l : List UInt8} (h : rdB l = true) : Lib.parseIntB 64 l = .ok (sv l) := by
  have hp := rdB_parts h
  have := pi_itoa hp.2.1.1 hp.2.1.2
  rwa [hp.2.2] at this
end Go.Proofs.YtlcckgpidjneeaaDoor
