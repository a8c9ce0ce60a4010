/-
  Plain laws: what a float step gives, by values: each operation's rounding error, over the rational numbers.
-/
import Derived.Laws.FloatArith
namespace Go.Proofs.Ytlpibibpckkjhaa
open Go

/-- A signed whole number. -/
def sg (s : Bool) (m : Nat) : Int := if s then -(m : Int) else m
/-- The number that a datum says. -/
def dv : Ieee.Datum → Rat
  | .number s m i => (sg s m : Rat) * (2 : Rat) ^ i
  | _ => 0
theorem two_ne : (2 : Rat) ≠ 0 := by decide
theorem two_pos (i : Int) : (0 : Rat) < (2 : Rat) ^ i := Rat.zpow_pos (by decide)
theorem pw_add (i j : Int) : (2 : Rat) ^ (i + j) = (2 : Rat) ^ i * (2 : Rat) ^ j := Rat.zpow_add two_ne i j
theorem pw_nat (k : Nat) : (2 : Rat) ^ ((k : Nat) : Int) = ((2 ^ k : Nat) : Rat) := by
  rw [Rat.zpow_natCast, Rat.natCast_pow]; rfl
theorem pw_le {i j : Int} (h : i ≤ j) : (2 : Rat) ^ i ≤ (2 : Rat) ^ j := by
  obtain ⟨k, rfl⟩ : ∃ k : Nat, j = i + (k : Int) := ⟨(j - i).toNat, by omega⟩
  rw [pw_add, pw_nat]
  have h1 : (1 : Rat) ≤ ((2 ^ k : Nat) : Rat) := by
    have := Nat.one_le_two_pow (n := k)
    exact_mod_cast Rat.natCast_le_natCast.2 this
  have h2 := two_pos i
  have h3 := Rat.mul_le_mul_of_nonneg_right h1 (Rat.le_of_lt h2)
  grind
theorem pw_lt {i j : Int} (h : (2 : Rat) ^ i < (2 : Rat) ^ j) : i < j := by
  rcases Int.lt_or_le i j with h1 | h1
  · exact h1
  · have := pw_le h1
    grind
theorem sg_shift (s : Bool) (m k : Nat) : Ieee.signed s m k = sg s m * ((2 ^ k : Nat) : Int) := by
  unfold Ieee.signed sg
  rw [Nat.shiftLeft_eq]
  cases s <;> simp [Int.natCast_mul] <;> grind
theorem shift_val (s : Bool) (m : Nat) (i b : Int) (h : b ≤ i) : ((Ieee.signed s m (i - b).toNat : Int) : Rat) * (2 : Rat) ^ b = (sg s m : Rat) * (2 : Rat) ^ i := by
  rw [sg_shift, Rat.intCast_mul]
  have h1 : (2 : Rat) ^ i = (2 : Rat) ^ b * ((2 ^ (i - b).toNat : Nat) : Rat) := by
    rw [← pw_nat, ← pw_add]
    congr 1
    omega
  rw [h1]
  have h2 : ((((2 ^ (i - b).toNat : Nat) : Int)) : Rat) = ((2 ^ (i - b).toNat : Nat) : Rat) := rfl
  rw [h2]
  grind
theorem sum_val (s t : Bool) (m n : Nat) (i j : Int) : ∃ s' m' i', (Ieee.Datum.number s m i).sum (.number t n j) = some (.number s' m' i') ∧ (sg s' m' : Rat) * (2 : Rat) ^ i' = (sg s m : Rat) * (2 : Rat) ^ i + (sg t n : Rat) * (2 : Rat) ^ j := by
  refine ⟨_, _, _, rfl, ?_⟩
  have h1 := shift_val s m i (min i j) (Int.min_le_left _ _)
  have h2 := shift_val t n j (min i j) (Int.min_le_right _ _)
  rw [← h1, ← h2]
  generalize Ieee.signed s m (i - min i j).toNat = a
  generalize Ieee.signed t n (j - min i j).toNat = b
  have key : sg (if a + b = 0 then s && t else decide (a + b < 0)) (a + b).natAbs = a + b := by
    unfold sg
    by_cases h0 : a + b = 0
    · rw [if_pos h0, h0]
      cases (s && t) <;> rfl
    · rw [if_neg h0]
      by_cases hn : a + b < 0
      · rw [decide_eq_true hn, if_pos rfl]; omega
      · rw [decide_eq_false hn, if_neg (by simp)]; omega
  rw [key, Rat.intCast_add]
  grind
theorem opp_val (s : Bool) (m : Nat) : sg (!s) m = - sg s m := by
  unfold sg; cases s <;> simp
theorem prod_val (s t : Bool) (m n : Nat) (i j : Int) : ∃ s' m' i', (Ieee.Datum.number s m i).product (.number t n j) = some (.number s' m' i') ∧ (sg s' m' : Rat) * (2 : Rat) ^ i' = ((sg s m : Rat) * (2 : Rat) ^ i) * ((sg t n : Rat) * (2 : Rat) ^ j) := by
  refine ⟨_, _, _, rfl, ?_⟩
  have key : sg (s ^^ t) (m * n) = sg s m * sg t n := by
    unfold sg
    cases s <;> cases t <;> simp [Int.natCast_mul] <;> grind
  rw [key, Rat.intCast_mul, pw_add]
  grind
/-- Rounding to a whole number: within a half, and not above what bounds it. -/
theorem cut_near (s : Bool) (n d : Nat) : 2 * (Ieee.Toward.even.cut s n d * 2 ^ d) ≤ 2 * n + 2 ^ d ∧ 2 * n ≤ 2 * (Ieee.Toward.even.cut s n d * 2 ^ d) + 2 ^ d := by
  unfold Ieee.Toward.cut
  rw [Nat.shiftLeft_eq, Nat.one_mul]
  have hp : 0 < 2 ^ d := Nat.two_pow_pos d
  by_cases hd : d ≤ n.log2 + 2
  · rw [Nat.min_eq_left hd]
    have hm := Nat.div_add_mod n (2 ^ d)
    have hr := Nat.mod_lt n hp
    simp only
    generalize n / 2 ^ d = low at *
    generalize n % 2 ^ d = rest at *
    generalize 2 ^ d = g at *
    generalize hmore : (decide (g < 2 * rest) || (g == 2 * rest && low % 2 == 1)) = more at *
    have e1 : g * low = low * g := Nat.mul_comm _ _
    cases more with
    | true =>
      have h1 : g ≤ 2 * rest := by
        simp only [Bool.or_eq_true, decide_eq_true_eq, Bool.and_eq_true, beq_iff_eq] at hmore
        omega
      have e2 : (low + true.toNat) * g = low * g + g := by simp [Nat.add_mul]
      rw [e2]
      omega
    | false =>
      have h1 : 2 * rest ≤ g := by
        simp only [Bool.or_eq_false_iff, decide_eq_false_iff_not] at hmore
        omega
      have e2 : (low + false.toNat) * g = low * g := by simp
      rw [e2]
      omega
  · have hd2 : n.log2 + 2 ≤ d := by omega
    rw [Nat.min_eq_right hd2]
    have hn : 2 * n < 2 ^ (n.log2 + 2) := by
      have := Nat.lt_log2_self (n := n)
      rw [show n.log2 + 2 = (n.log2 + 1) + 1 by omega, Nat.pow_succ]
      omega
    have h0 : n / 2 ^ (n.log2 + 2) = 0 := Nat.div_eq_of_lt (by omega)
    have h1 : n % 2 ^ (n.log2 + 2) = n := Nat.mod_eq_of_lt (by omega)
    simp only
    rw [h0, h1]
    have hf : (decide (2 ^ (n.log2 + 2) < 2 * n) || (2 ^ (n.log2 + 2) == 2 * n && 0 % 2 == 1)) = false := by
      simp; omega
    rw [hf]
    have hle : 2 ^ (n.log2 + 2) ≤ 2 ^ d := Nat.pow_le_pow_right (by decide) hd2
    simp
    omega
theorem cut_le (s : Bool) (n d N : Nat) (h : n ≤ N * 2 ^ d) : Ieee.Toward.even.cut s n d ≤ N := by
  have h1 := (cut_near s n d).1
  have hp : 0 < 2 ^ d := Nat.two_pow_pos d
  generalize Ieee.Toward.even.cut s n d = c at *
  rcases Nat.lt_or_ge N c with h2 | h2
  · exfalso
    have h3 : (N + 1) * 2 ^ d ≤ c * 2 ^ d := Nat.mul_le_mul_right _ h2
    rw [Nat.add_mul, Nat.one_mul] at h3
    omega
  · exact h2
section
variable (f : Ieee.Format) (F B I S : Nat)
theorem rung_read (hB : f.binade = B) (hI : f.infRung = I) (hS : f.signWeight = S) (hIS : I < S) (hB0 : 0 < B) (s : Bool) (L q : Nat) (hq : q ≤ 2 * B) (hL : 0 < L → B ≤ q) (hr : L * B + q < I) :
    ∃ m' i', f.read (f.word s (L * B + q)) = .number s m' i' ∧ ((m' : Nat) : Rat) * (2 : Rat) ^ i' = ((q : Nat) : Rat) * (2 : Rat) ^ (f.leastPlace + (L : Int)) := by
  have hw : f.word s (L * B + q) % S = L * B + q := by
    unfold Ieee.Format.word
    rw [hS]
    have h1 : L * B + q < S := by omega
    cases s
    · simp [Nat.mod_eq_of_lt h1]
    · simp [Nat.mod_eq_of_lt h1]
  have hs : (f.word s (L * B + q) / S % 2 == 1) = s := by
    unfold Ieee.Format.word
    rw [hS]
    have h1 : L * B + q < S := by omega
    have h0 : (L * B + q) / S = 0 := Nat.div_eq_of_lt h1
    cases s
    · simp [h0]
    · have h2 : (S + (L * B + q)) / S = 1 := by
        rw [Nat.add_div_left _ (by omega), h0]
      simp [h2]
  unfold Ieee.Format.read
  simp only [hB, hI, hS, hw, hs]
  by_cases h1 : L * B + q < B
  · rw [if_pos h1]
    have hL0 : L = 0 := by
      rcases Nat.eq_zero_or_pos L with h | h
      · exact h
      · have := hL h; omega
    subst hL0
    refine ⟨_, _, rfl, ?_⟩
    simp
  · rw [if_neg h1, if_pos hr]
    have hqB : B ≤ q := by
      rcases Nat.eq_zero_or_pos L with h | h
      · subst h; simp at h1; exact h1
      · exact hL h
    refine ⟨_, _, rfl, ?_⟩
    by_cases h2 : q < 2 * B
    · have e1 : (L * B + q) / B = L + 1 := by
        rw [show L * B + q = (L + 1) * B + (q - B) by rw [Nat.add_mul]; omega]
        rw [Nat.add_comm, Nat.add_mul_div_right _ _ hB0, Nat.div_eq_of_lt (by omega)]
        omega
      have e2 : (L * B + q) % B = q - B := by
        rw [show L * B + q = (L + 1) * B + (q - B) by rw [Nat.add_mul]; omega]
        rw [Nat.add_comm, Nat.add_mul_mod_self_right, Nat.mod_eq_of_lt (by omega)]
      rw [e1, e2, show B + (q - B) = q by omega]
      rfl
    · have hq2 : q = 2 * B := by omega
      have e1 : (L * B + q) / B = L + 2 := by
        rw [hq2, show L * B + 2 * B = (L + 2) * B by rw [Nat.add_mul]]
        exact Nat.mul_div_cancel _ hB0
      have e2 : (L * B + q) % B = 0 := by
        rw [hq2, show L * B + 2 * B = (L + 2) * B by rw [Nat.add_mul]]
        exact Nat.mul_mod_left _ _
      rw [e1, e2, hq2]
      have e3 : ((L + 2 - 1 : Nat) : Int) = (L : Int) + 1 := by omega
      rw [e3, show f.leastPlace + ((L : Int) + 1) = (f.leastPlace + (L : Int)) + 1 by omega, pw_add]
      have e4 : (2 : Rat) ^ (1 : Int) = 2 := by decide +kernel
      rw [e4]
      have e5 : (((2 * B : Nat)) : Rat) = 2 * ((B : Nat) : Rat) := by rw [Rat.natCast_mul]; rfl
      rw [e5]
      grind

/-- Writing a number that is not too great: the nearest that there is. -/
theorem round_ok (hF : f.fractionBits = F) (hBF : B = 2 ^ F) (hB : f.binade = B) (hI : f.infRung = I) (hS : f.signWeight = S) (hIS : I < S) (k : Int) (hk : f.leastPlace + (F : Int) + 1 ≤ k) (hov : (k + 1 - (F : Int) - f.leastPlace).toNat * B < I)
    (s : Bool) (m : Nat) (i : Int) (hm : ((m : Nat) : Rat) * (2 : Rat) ^ i < (2 : Rat) ^ k) :
    ∃ s' m' i', f.read (f.write (.number s m i)) = .number s' m' i' ∧
      2 * ((sg s' m' : Rat) * (2 : Rat) ^ i') ≤ 2 * ((sg s m : Rat) * (2 : Rat) ^ i) + (2 : Rat) ^ (k - 1 - (F : Int)) ∧ 2 * ((sg s m : Rat) * (2 : Rat) ^ i) ≤ 2 * ((sg s' m' : Rat) * (2 : Rat) ^ i') + (2 : Rat) ^ (k - 1 - (F : Int)) := by
  have hB0 : 0 < B := by rw [hBF]; exact Nat.two_pow_pos _
  have hpk := two_pos (k - 1 - (F : Int))
  show ∃ s' m' i', f.read (f.nearest s m i) = .number s' m' i' ∧ _
  unfold Ieee.Format.nearest
  by_cases h0 : m = 0
  · rw [if_pos h0]
    have hI0 : 0 < I := by omega
    obtain ⟨m', i', h1, h2⟩ := rung_read f B I S hB hI hS hIS hB0 s 0 0 (by omega) (fun h => absurd h (by omega)) (by omega)
    simp only [Nat.zero_mul, Nat.zero_add] at h1
    refine ⟨s, m', i', h1, ?_⟩
    have e0 : ((0 : Nat) : Rat) = 0 := rfl
    rw [e0, Rat.zero_mul] at h2
    have e1 : (sg s m' : Rat) * (2 : Rat) ^ i' = 0 := by
      unfold sg
      cases s
      · simp only [Bool.false_eq_true, if_false]
        exact h2
      · simp only [if_true, Rat.intCast_neg]
        have : (((m' : Nat) : Int) : Rat) = ((m' : Nat) : Rat) := rfl
        rw [this]
        grind
    have e2 : (sg s m : Rat) * (2 : Rat) ^ i = 0 := by
      subst h0
      unfold sg
      cases s <;> simp
    rw [e1, e2]
    grind
  · rw [if_neg h0]
    simp only [hF, hB, hI]
    obtain ⟨last, hlast⟩ : ∃ last, last = max (i + (m.log2 : Int) - (F : Int)) f.leastPlace := ⟨_, rfl⟩
    rw [← hlast]
    obtain ⟨up, hup⟩ : ∃ up, up = (i - last).toNat := ⟨_, rfl⟩
    obtain ⟨d, hd⟩ : ∃ d, d = (last - i).toNat := ⟨_, rfl⟩
    obtain ⟨L, hLd⟩ : ∃ L, L = (last - f.leastPlace).toNat := ⟨_, rfl⟩
    rw [← hup, ← hd, ← hLd, Nat.shiftLeft_eq]
    have hlog1 : 2 ^ m.log2 ≤ m := Nat.log2_self_le h0
    have hlog2 : m < 2 ^ (m.log2 + 1) := Nat.lt_log2_self
    have hmag : i + (m.log2 : Int) < k := by
      refine pw_lt ?_
      rw [pw_add]
      have h1 : (2 : Rat) ^ ((m.log2 : Nat) : Int) ≤ ((m : Nat) : Rat) := by
        rw [pw_nat]; exact Rat.natCast_le_natCast.2 hlog1
      have h2 := Rat.mul_le_mul_of_nonneg_right h1 (Rat.le_of_lt (two_pos i))
      grind
    have hn := cut_near s (m * 2 ^ up) d
    have hq : Ieee.Toward.even.cut s (m * 2 ^ up) d ≤ 2 * B := by
      refine cut_le s _ d _ ?_
      have h1 : m * 2 ^ up ≤ 2 ^ (m.log2 + 1) * 2 ^ up := Nat.mul_le_mul_right _ (Nat.le_of_lt hlog2)
      have h2 : 2 ^ (m.log2 + 1) * 2 ^ up ≤ 2 ^ (F + 1) * 2 ^ d := by
        rw [← Nat.pow_add, ← Nat.pow_add]
        exact Nat.pow_le_pow_right (by decide) (by omega)
      rw [hBF]
      rw [Nat.pow_succ 2 F] at h2
      have h3 : 2 ^ F * 2 * 2 ^ d = 2 * 2 ^ F * 2 ^ d := by rw [Nat.mul_comm (2 ^ F) 2]
      omega
    have hLq : 0 < L → B ≤ Ieee.Toward.even.cut s (m * 2 ^ up) d := fun hL => by
      have h1 : 2 ^ F * 2 ^ d ≤ m * 2 ^ up := by
        have h2 : 2 ^ F * 2 ^ d = 2 ^ m.log2 * 2 ^ up := by
          rw [← Nat.pow_add, ← Nat.pow_add]
          congr 1
          omega
        rw [h2]
        exact Nat.mul_le_mul_right _ hlog1
      rw [← hBF] at h1
      have hp : 0 < 2 ^ d := Nat.two_pow_pos d
      generalize Ieee.Toward.even.cut s (m * 2 ^ up) d = q at *
      rcases Nat.lt_or_ge q B with h2 | h2
      · exfalso
        have h3 : (q + 1) * 2 ^ d ≤ B * 2 ^ d := Nat.mul_le_mul_right _ h2
        rw [Nat.add_mul, Nat.one_mul] at h3
        omega
      · exact h2
    have hlk : last ≤ k - 1 - (F : Int) := by omega
    have hr : L * B + Ieee.Toward.even.cut s (m * 2 ^ up) d < I := by
      have h1 : L + 2 ≤ (k + 1 - (F : Int) - f.leastPlace).toNat := by omega
      have h2 : (L + 2) * B ≤ (k + 1 - (F : Int) - f.leastPlace).toNat * B := Nat.mul_le_mul_right _ h1
      rw [Nat.add_mul] at h2
      omega
    obtain ⟨m', i', h1, h2⟩ := rung_read f B I S hB hI hS hIS hB0 s L _ hq hLq hr
    rw [Nat.min_eq_left (Nat.le_of_lt hr)]
    refine ⟨s, m', i', h1, ?_⟩
    have hPL : f.leastPlace + (L : Int) = last := by omega
    rw [hPL] at h2
    generalize Ieee.Toward.even.cut s (m * 2 ^ up) d = q at *
    have hle := pw_le hlk
    -- the two numbers, in units of 2 ^ (last - d)
    have hu := two_pos (last - (d : Int))
    have e1 : (2 : Rat) ^ last = ((2 ^ d : Nat) : Rat) * (2 : Rat) ^ (last - (d : Int)) := by
      rw [← pw_nat, ← pw_add]; congr 1; omega
    have e2 : (2 : Rat) ^ i = ((2 ^ up : Nat) : Rat) * (2 : Rat) ^ (last - (d : Int)) := by
      rw [← pw_nat, ← pw_add]; congr 1; omega
    have n1 : 2 * ((q : Rat) * ((2 ^ d : Nat) : Rat)) ≤ 2 * ((m : Rat) * ((2 ^ up : Nat) : Rat)) + ((2 ^ d : Nat) : Rat) := by
      have := Rat.natCast_le_natCast.2 hn.1
      simp only [Rat.natCast_mul, Rat.natCast_add] at this
      exact this
    have n2 : 2 * ((m : Rat) * ((2 ^ up : Nat) : Rat)) ≤ 2 * ((q : Rat) * ((2 ^ d : Nat) : Rat)) + ((2 ^ d : Nat) : Rat) := by
      have := Rat.natCast_le_natCast.2 hn.2
      simp only [Rat.natCast_mul, Rat.natCast_add] at this
      exact this
    have a1 := Rat.mul_le_mul_of_nonneg_right n1 (Rat.le_of_lt hu)
    have a2 := Rat.mul_le_mul_of_nonneg_right n2 (Rat.le_of_lt hu)
    have b1 : 2 * ((m' : Rat) * (2 : Rat) ^ i') ≤ 2 * ((m : Rat) * (2 : Rat) ^ i) + (2 : Rat) ^ last := by
      rw [h2, e1, e2]; grind
    have b2 : 2 * ((m : Rat) * (2 : Rat) ^ i) ≤ 2 * ((m' : Rat) * (2 : Rat) ^ i') + (2 : Rat) ^ last := by
      rw [h2, e1, e2]; grind
    unfold sg
    cases s
    · simp only [Bool.false_eq_true, if_false]
      have c1 : (((m' : Nat) : Int) : Rat) = ((m' : Nat) : Rat) := rfl
      have c2 : (((m : Nat) : Int) : Rat) = ((m : Nat) : Rat) := rfl
      rw [c1, c2]
      grind
    · simp only [if_true, Rat.intCast_neg]
      have c1 : (((m' : Nat) : Int) : Rat) = ((m' : Nat) : Rat) := rfl
      have c2 : (((m : Nat) : Int) : Rat) = ((m : Nat) : Rat) := rfl
      rw [c1, c2]
      grind
end
/-! ### The four operations on 32-bit and 64-bit numbers, by their values -/
/-- A word that says a number. -/
def NV (k : FloatKind) (x : Nat) (a : Rat) : Prop := ∃ s m i, k.format.read x = .number s m i ∧ (sg s m : Rat) * (2 : Rat) ^ i = a
theorem sg_abs (s : Bool) (m : Nat) (p b : Rat) (h1 : (sg s m : Rat) * p < b) (h2 : -b < (sg s m : Rat) * p) : ((m : Nat) : Rat) * p < b := by
  unfold sg at h1 h2
  cases s
  · exact h1
  · simp only [if_true, Rat.intCast_neg] at h2
    have : (((m : Nat) : Int) : Rat) = ((m : Nat) : Rat) := rfl
    rw [this] at h2
    grind
/-- How many digits a kind keeps. -/
def digs : FloatKind → Int
  | .f32 => 24
  | .f64 => 53
theorem write_ok (fk : FloatKind) (k : Int) (hk : -125 ≤ k) (hk2 : k ≤ 100) (s : Bool) (m : Nat) (i : Int) (v : Rat) (hv : (sg s m : Rat) * (2 : Rat) ^ i = v) (h1 : v < (2 : Rat) ^ k) (h2 : -((2 : Rat) ^ k) < v) :
    ∃ c, NV fk (fk.format.write (.number s m i)) c ∧ 2 * c ≤ 2 * v + (2 : Rat) ^ (k - digs fk) ∧ 2 * v ≤ 2 * c + (2 : Rat) ^ (k - digs fk) := by
  have hm : ((m : Nat) : Rat) * (2 : Rat) ^ i < (2 : Rat) ^ k := sg_abs s m _ _ (by rw [hv]; exact h1) (by rw [hv]; exact h2)
  cases fk with
  | f32 =>
    obtain ⟨s', m', i', e, b1, b2⟩ := round_ok FloatKind.f32.format 23 8388608 2139095040 2147483648 rfl (by decide) (by decide) (by decide) (by decide) (by decide) k (by show (-149 : Int) + 23 + 1 ≤ k; omega) (by
      have e1 : FloatKind.f32.format.leastPlace = -149 := by decide
      rw [e1]
      have e2 : (k + 1 - ((23 : Nat) : Int) - -149).toNat ≤ 228 := by omega
      have := Nat.mul_le_mul_right 8388608 e2
      omega) s m i hm
    refine ⟨_, ⟨s', m', i', e, rfl⟩, ?_⟩
    rw [hv] at b1 b2
    have e3 : k - 1 - ((23 : Nat) : Int) = k - digs .f32 := by show _ = k - 24; omega
    rw [e3] at b1 b2
    exact ⟨b1, b2⟩
  | f64 =>
    obtain ⟨s', m', i', e, b1, b2⟩ := round_ok FloatKind.f64.format 52 4503599627370496 9218868437227405312 9223372036854775808 rfl (by decide) (by decide) (by decide) (by decide) (by decide) k (by show (-1074 : Int) + 52 + 1 ≤ k; omega) (by
      have e1 : FloatKind.f64.format.leastPlace = -1074 := by decide
      rw [e1]
      have e2 : (k + 1 - ((52 : Nat) : Int) - -1074).toNat ≤ 1124 := by omega
      have := Nat.mul_le_mul_right 4503599627370496 e2
      omega) s m i hm
    refine ⟨_, ⟨s', m', i', e, rfl⟩, ?_⟩
    rw [hv] at b1 b2
    have e3 : k - 1 - ((52 : Nat) : Int) = k - digs .f64 := by show _ = k - 53; omega
    rw [e3] at b1 b2
    exact ⟨b1, b2⟩
theorem add_ok (fk : FloatKind) (k : Int) (hk : -125 ≤ k) (hk2 : k ≤ 100) {x y : Nat} {a b : Rat} (hx : NV fk x a) (hy : NV fk y b) (h1 : a + b < (2 : Rat) ^ k) (h2 : -((2 : Rat) ^ k) < a + b) :
    ∃ r c, floatBits .add fk x y = some r ∧ NV fk r c ∧ 2 * c ≤ 2 * (a + b) + (2 : Rat) ^ (k - digs fk) ∧ 2 * (a + b) ≤ 2 * c + (2 : Rat) ^ (k - digs fk) := by
  obtain ⟨s, m, i, ex, rfl⟩ := hx
  obtain ⟨t, n, j, ey, rfl⟩ := hy
  obtain ⟨s', m', i', es, ev⟩ := sum_val s t m n i j
  obtain ⟨c, hc, b1, b2⟩ := write_ok fk k hk hk2 s' m' i' _ ev h1 h2
  refine ⟨_, c, ?_, hc, b1, b2⟩
  show ((fk.format.read x).sum (fk.format.read y)).map fk.format.write = _
  rw [ex, ey, es]; rfl
theorem sub_ok (fk : FloatKind) (k : Int) (hk : -125 ≤ k) (hk2 : k ≤ 100) {x y : Nat} {a b : Rat} (hx : NV fk x a) (hy : NV fk y b) (h1 : a - b < (2 : Rat) ^ k) (h2 : -((2 : Rat) ^ k) < a - b) :
    ∃ r c, floatBits .sub fk x y = some r ∧ NV fk r c ∧ 2 * c ≤ 2 * (a - b) + (2 : Rat) ^ (k - digs fk) ∧ 2 * (a - b) ≤ 2 * c + (2 : Rat) ^ (k - digs fk) := by
  obtain ⟨s, m, i, ex, rfl⟩ := hx
  obtain ⟨t, n, j, ey, rfl⟩ := hy
  obtain ⟨s', m', i', es, ev⟩ := sum_val s (!t) m n i j
  have ev2 : (sg s' m' : Rat) * (2 : Rat) ^ i' = (sg s m : Rat) * (2 : Rat) ^ i - (sg t n : Rat) * (2 : Rat) ^ j := by
    rw [ev, opp_val, Rat.intCast_neg]; grind
  obtain ⟨c, hc, b1, b2⟩ := write_ok fk k hk hk2 s' m' i' _ ev2 h1 h2
  refine ⟨_, c, ?_, hc, b1, b2⟩
  show ((fk.format.read x).sum (fk.format.read y).opposite).map fk.format.write = _
  rw [ex, ey]
  show ((Ieee.Datum.number s m i).sum (.number (!t) n j)).map fk.format.write = _
  rw [es]; rfl
theorem mul_ok (fk : FloatKind) (k : Int) (hk : -125 ≤ k) (hk2 : k ≤ 100) {x y : Nat} {a b : Rat} (hx : NV fk x a) (hy : NV fk y b) (h1 : a * b < (2 : Rat) ^ k) (h2 : -((2 : Rat) ^ k) < a * b) :
    ∃ r c, floatBits .mul fk x y = some r ∧ NV fk r c ∧ 2 * c ≤ 2 * (a * b) + (2 : Rat) ^ (k - digs fk) ∧ 2 * (a * b) ≤ 2 * c + (2 : Rat) ^ (k - digs fk) := by
  obtain ⟨s, m, i, ex, rfl⟩ := hx
  obtain ⟨t, n, j, ey, rfl⟩ := hy
  obtain ⟨s', m', i', es, ev⟩ := prod_val s t m n i j
  obtain ⟨c, hc, b1, b2⟩ := write_ok fk k hk hk2 s' m' i' _ ev h1 h2
  refine ⟨_, c, ?_, hc, b1, b2⟩
  show ((fk.format.read x).product (fk.format.read y)).map fk.format.write = _
  rw [ex, ey, es]; rfl
/-- From one kind to another: the nearest. -/
theorem conv_ok (fk fl : FloatKind) (hne : fk ≠ fl) (k : Int) (hk : -125 ≤ k) (hk2 : k ≤ 100) {x : Nat} {a : Rat} (hx : NV fk x a) (h1 : a < (2 : Rat) ^ k) (h2 : -((2 : Rat) ^ k) < a) :
    ∃ r c, floatToFloatBits fk x fl = some r ∧ NV fl r c ∧ 2 * c ≤ 2 * a + (2 : Rat) ^ (k - digs fl) ∧ 2 * a ≤ 2 * c + (2 : Rat) ^ (k - digs fl) := by
  obtain ⟨s, m, i, ex, ev⟩ := hx
  obtain ⟨c, hc, b1, b2⟩ := write_ok fl k hk hk2 s m i _ ev h1 h2
  refine ⟨_, c, ?_, hc, b1, b2⟩
  unfold floatToFloatBits
  rw [if_neg hne]
  have hd : fk.decode x = .number s m i := ex
  rw [hd]
  simp only
  obtain ⟨s', m', i', e', -⟩ := hc
  have hd2 : fl.decode (fl.encode (.number s m i)) = .number s' m' i' := e'
  rw [hd2]
  rfl
/-- The digits that a quotient is given before it is rounded. -/
theorem quot_val (dg : Nat) (s t : Bool) (m n : Nat) (i j : Int) (k : Int) (q : Rat) (hn : n ≠ 0) (hq : q * ((sg t n : Rat) * (2 : Rat) ^ j) = (sg s m : Rat) * (2 : Rat) ^ i) (h1 : q < (2 : Rat) ^ k) (h2 : -((2 : Rat) ^ k) < q) (hdg : 0 < dg) :
    ∃ s' m' i', (Ieee.Datum.number s m i).quotient dg (.number t n j) = some (.number s' m' i') ∧
      2 * ((sg s' m' : Rat) * (2 : Rat) ^ i') ≤ 2 * q + (2 : Rat) ^ (k - (dg : Int)) ∧ 2 * q ≤ 2 * ((sg s' m' : Rat) * (2 : Rat) ^ i') + (2 : Rat) ^ (k - (dg : Int)) := by
  have hpk := two_pos (k - (dg : Int))
  obtain ⟨more, hmore⟩ : ∃ more, more = dg + n.log2 - m.log2 := ⟨_, rfl⟩
  refine ⟨s ^^ t, 2 * (m <<< more / n) + (m <<< more % n != 0).toNat, i - j - more - 1, ?_, ?_⟩
  · unfold Ieee.Datum.quotient
    simp only
    rw [if_neg hn, ← hmore]
  · obtain ⟨D, hD⟩ : ∃ D, D = m <<< more := ⟨_, rfl⟩
    rw [← hD]
    have hDv : D = m * 2 ^ more := by rw [hD, Nat.shiftLeft_eq]
    have hdiv := Nat.div_add_mod D n
    have hmod := Nat.mod_lt D (Nat.pos_of_ne_zero hn)
    obtain ⟨M, hM⟩ : ∃ M, M = 2 * (D / n) + (D % n != 0).toNat := ⟨_, rfl⟩
    rw [← hM]
    have hb1 : M * n ≤ 2 * D + n ∧ 2 * D ≤ M * n + n := by
      generalize D / n = f at *
      generalize D % n = r at *
      have e1 : n * f = f * n := Nat.mul_comm _ _
      by_cases hr : r = 0
      · have e2 : (r != 0).toNat = 0 := by rw [hr]; rfl
        rw [hM, e2, Nat.add_zero]
        have e3 : 2 * f * n = 2 * (f * n) := Nat.mul_assoc _ _ _
        omega
      · have e2 : (r != 0).toNat = 1 := by
          have : (r != 0) = true := by simp [hr]
          rw [this]; rfl
        rw [hM, e2, Nat.add_mul, Nat.one_mul]
        have e3 : 2 * f * n = 2 * (f * n) := Nat.mul_assoc _ _ _
        omega
    -- in units of e = i - j - more
    have hnp : (0 : Rat) < ((n : Nat) : Rat) := by
      have : ((0 : Nat) : Rat) < ((n : Nat) : Rat) := Rat.natCast_lt_natCast.2 (Nat.pos_of_ne_zero hn)
      exact this
    have hu := two_pos (i - j - (more : Int))
    have hj := two_pos j
    -- the quotient without its sign
    obtain ⟨p, hp, hsg⟩ : ∃ p : Rat, p * ((n : Nat) : Rat) = ((D : Nat) : Rat) * (2 : Rat) ^ (i - j - (more : Int)) ∧ q = (if (s ^^ t) then -p else p) := by
      have hi : (2 : Rat) ^ i = ((2 ^ more : Nat) : Rat) * (2 : Rat) ^ (i - j - (more : Int)) * (2 : Rat) ^ j := by
        rw [← pw_nat, ← pw_add, ← pw_add]; congr 1; omega
      have hDr : ((D : Nat) : Rat) = ((m : Nat) : Rat) * ((2 ^ more : Nat) : Rat) := by rw [hDv, Rat.natCast_mul]
      have c1 : ∀ x : Nat, (((x : Nat) : Int) : Rat) = ((x : Nat) : Rat) := fun _ => rfl
      have hjn : (2 : Rat) ^ j ≠ 0 := by grind
      have canc : ∀ x y : Rat, x * (2 : Rat) ^ j = y * (2 : Rat) ^ j → x = y := fun x y h => by
        have : (x - y) * (2 : Rat) ^ j = 0 := by grind
        rcases Rat.mul_eq_zero.1 this with h3 | h3
        · grind
        · exact absurd h3 hjn
      refine ⟨if (s ^^ t) then -q else q, ?_, by cases s <;> cases t <;> simp⟩
      refine canc _ _ ?_
      rw [hi] at hq
      unfold sg at hq
      cases s <;> cases t <;> simp only [Bool.false_eq_true, if_false, if_true, Rat.intCast_neg, c1, Bool.xor_false, Bool.xor_true, Bool.not_true, Bool.not_false] at hq ⊢ <;> rw [hDr] <;> grind
    have hval : (sg (s ^^ t) M : Rat) * (2 : Rat) ^ (i - j - (more : Int) - 1) = if (s ^^ t) then -(((M : Nat) : Rat) * (2 : Rat) ^ (i - j - (more : Int) - 1)) else ((M : Nat) : Rat) * (2 : Rat) ^ (i - j - (more : Int) - 1) := by
      unfold sg
      have c1 : ((((M : Nat) : Int)) : Rat) = ((M : Nat) : Rat) := rfl
      cases (s ^^ t)
      · simp only [Bool.false_eq_true, if_false, c1]
      · simp only [if_true, Rat.intCast_neg, c1]; grind
    rw [hval]
    have hhalf : (2 : Rat) ^ (i - j - (more : Int)) = 2 * (2 : Rat) ^ (i - j - (more : Int) - 1) := by
      have h3 := pw_add (i - j - (more : Int) - 1) 1
      rw [show i - j - (more : Int) - 1 + 1 = i - j - (more : Int) by omega] at h3
      have e4 : (2 : Rat) ^ (1 : Int) = 2 := by decide +kernel
      rw [h3, e4]; grind
    have hu1 := two_pos (i - j - (more : Int) - 1)
    generalize hU : (2 : Rat) ^ (i - j - (more : Int) - 1) = U at *
    have n1 : ((M : Nat) : Rat) * ((n : Nat) : Rat) ≤ 2 * ((D : Nat) : Rat) + ((n : Nat) : Rat) := by
      have := Rat.natCast_le_natCast.2 hb1.1
      simp only [Rat.natCast_mul, Rat.natCast_add] at this
      exact this
    have n2 : 2 * ((D : Nat) : Rat) ≤ ((M : Nat) : Rat) * ((n : Nat) : Rat) + ((n : Nat) : Rat) := by
      have := Rat.natCast_le_natCast.2 hb1.2
      simp only [Rat.natCast_mul, Rat.natCast_add] at this
      exact this
    rw [hhalf] at hp
    -- within one unit
    have cancn : ∀ x y : Rat, x * ((n : Nat) : Rat) ≤ y * ((n : Nat) : Rat) → x ≤ y := fun x y h => Rat.le_of_mul_le_mul_right h hnp
    have w1 : ((M : Nat) : Rat) * U ≤ p + U := by
      refine cancn _ _ ?_
      have := Rat.mul_le_mul_of_nonneg_right n1 (Rat.le_of_lt hu1)
      grind
    have w2 : p ≤ ((M : Nat) : Rat) * U + U := by
      refine cancn _ _ ?_
      have := Rat.mul_le_mul_of_nonneg_right n2 (Rat.le_of_lt hu1)
      grind
    -- the unit is small
    have hpb : p < (2 : Rat) ^ k := by
      cases hx : (s ^^ t) <;> rw [hx] at hsg <;> simp only [Bool.false_eq_true, if_false, if_true] at hsg <;> grind
    have hU2 : U + U ≤ (2 : Rat) ^ (k - (dg : Int)) ∨ p = 0 ∧ ((M : Nat) : Rat) = 0 := by
      by_cases hm0 : m = 0
      · right
        have hD0 : D = 0 := by rw [hDv, hm0, Nat.zero_mul]
        have hM0 : M = 0 := by rw [hM, hD0]; simp
        refine ⟨?_, by rw [hM0]; rfl⟩
        rw [hD0] at hp
        have e0 : ((0 : Nat) : Rat) = 0 := rfl
        rw [e0, Rat.zero_mul] at hp
        rcases Rat.mul_eq_zero.1 hp with h3 | h3
        · exact h3
        · grind
      · left
        have hlog1 : 2 ^ m.log2 ≤ m := Nat.log2_self_le hm0
        have hlog2 : n < 2 ^ (n.log2 + 1) := Nat.lt_log2_self
        have hDn : n * 2 ^ (dg - 1) ≤ D := by
          have h3 : n * 2 ^ (dg - 1) ≤ 2 ^ (n.log2 + 1) * 2 ^ (dg - 1) := Nat.mul_le_mul_right _ (Nat.le_of_lt hlog2)
          have h4 : 2 ^ m.log2 * 2 ^ more ≤ m * 2 ^ more := Nat.mul_le_mul_right _ hlog1
          have h5 : 2 ^ (n.log2 + 1) * 2 ^ (dg - 1) ≤ 2 ^ m.log2 * 2 ^ more := by
            rw [← Nat.pow_add, ← Nat.pow_add]
            exact Nat.pow_le_pow_right (by decide) (by omega)
          rw [hDv]
          omega
        have r1 : ((n : Nat) : Rat) * ((2 ^ (dg - 1) : Nat) : Rat) ≤ ((D : Nat) : Rat) := by
          have := Rat.natCast_le_natCast.2 hDn
          simp only [Rat.natCast_mul] at this
          exact this
        have r2 : ((2 ^ (dg - 1) : Nat) : Rat) * (U + U) ≤ p := by
          refine cancn _ _ ?_
          have := Rat.mul_le_mul_of_nonneg_right r1 (Rat.le_of_lt (show (0 : Rat) < U + U by grind))
          grind
        have r3 : U + U = (2 : Rat) ^ (i - j - (more : Int)) := by rw [hhalf]; grind
        rw [r3, ← pw_nat, ← pw_add] at r2
        have r4 : (((dg - 1 : Nat)) : Int) + (i - j - (more : Int)) < k := pw_lt (by grind)
        rw [r3]
        exact pw_le (by omega)
    rcases hU2 with hU2 | ⟨hp0, hM0⟩
    · rw [hsg]
      cases (s ^^ t) <;> simp only [Bool.false_eq_true, if_false, if_true] <;> grind
    · rw [hsg, hM0, hp0]
      cases (s ^^ t) <;> simp only [Bool.false_eq_true, if_false, if_true] <;> grind
theorem quo_ok (fk : FloatKind) (k : Int) (hk : -124 ≤ k) (hk2 : k ≤ 99) {x y : Nat} {a b q : Rat} (hx : NV fk x a) (hy : NV fk y b) (hb : b ≠ 0) (hq : q * b = a) (h1 : q < (2 : Rat) ^ k) (h2 : -((2 : Rat) ^ k) < q) :
    ∃ r c, floatBits .quo fk x y = some r ∧ NV fk r c ∧ 2 * c ≤ 2 * q + 2 * (2 : Rat) ^ (k + 1 - digs fk) ∧ 2 * q ≤ 2 * c + 2 * (2 : Rat) ^ (k + 1 - digs fk) := by
  obtain ⟨s, m, i, ex, rfl⟩ := hx
  obtain ⟨t, n, j, ey, rfl⟩ := hy
  have hn : n ≠ 0 := by
    rintro rfl
    refine hb ?_
    unfold sg
    cases t <;> simp
  have hF : 0 < fk.format.fractionBits + 2 := by omega
  obtain ⟨s', m', i', es, b1, b2⟩ := quot_val (fk.format.fractionBits + 2) s t m n i j k q hn hq h1 h2 hF
  have hle : (2 : Rat) ^ (k - ((fk.format.fractionBits + 2 : Nat) : Int)) ≤ (2 : Rat) ^ (k + 1 - digs fk) := pw_le (by cases fk <;> (first | (show k - 25 ≤ k + 1 - 24; omega) | (show k - 54 ≤ k + 1 - 53; omega)))
  have hle2 : (2 : Rat) ^ (k - ((fk.format.fractionBits + 2 : Nat) : Int)) ≤ (2 : Rat) ^ k := pw_le (by omega)
  have hdbl : (2 : Rat) ^ (k + 1) = 2 * (2 : Rat) ^ k := by
    rw [pw_add]
    have e4 : (2 : Rat) ^ (1 : Int) = 2 := by decide +kernel
    rw [e4]; grind
  have hpk := two_pos k
  obtain ⟨c, hc, w1, w2⟩ := write_ok fk (k + 1) (by omega) (by omega) s' m' i' _ rfl (by rw [hdbl]; grind) (by rw [hdbl]; grind)
  refine ⟨_, c, ?_, hc, by grind, by grind⟩
  show ((fk.format.read x).quotient (fk.format.fractionBits + 2) (fk.format.read y)).map fk.format.write = _
  rw [ex, ey, es]; rfl
section
variable (f : Ieee.Format) (F B I S : Nat)
/-- Writing a number of few digits: it stays what it is. -/
theorem round_exact (hF : f.fractionBits = F) (hBF : B = 2 ^ F) (hB : f.binade = B) (hI : f.infRung = I) (hS : f.signWeight = S) (hIS : I < S)
    (s : Bool) (m : Nat) (i : Int) (hm : m < 2 * B) (hi : f.leastPlace ≤ i) (hov : (i + 2 - f.leastPlace).toNat * B < I) :
    ∃ s' m' i', f.read (f.write (.number s m i)) = .number s' m' i' ∧ (sg s' m' : Rat) * (2 : Rat) ^ i' = (sg s m : Rat) * (2 : Rat) ^ i := by
  have hB0 : 0 < B := by rw [hBF]; exact Nat.two_pow_pos _
  show ∃ s' m' i', f.read (f.nearest s m i) = .number s' m' i' ∧ _
  unfold Ieee.Format.nearest
  have hsg : ∀ m' : Nat, ∀ i' : Int, ((m' : Nat) : Rat) * (2 : Rat) ^ i' = ((m : Nat) : Rat) * (2 : Rat) ^ i → (sg s m' : Rat) * (2 : Rat) ^ i' = (sg s m : Rat) * (2 : Rat) ^ i := fun m' i' h => by
    have c1 : ∀ x : Nat, (((x : Nat) : Int) : Rat) = ((x : Nat) : Rat) := fun _ => rfl
    unfold sg
    cases s
    · simp only [Bool.false_eq_true, if_false, c1]; exact h
    · simp only [if_true, Rat.intCast_neg, c1]; grind
  by_cases h0 : m = 0
  · rw [if_pos h0]
    obtain ⟨m', i', h1, h2⟩ := rung_read f B I S hB hI hS hIS hB0 s 0 0 (by omega) (fun h => absurd h (by omega)) (by omega)
    simp only [Nat.zero_mul, Nat.zero_add] at h1
    refine ⟨s, m', i', h1, hsg _ _ ?_⟩
    have e0 : ((0 : Nat) : Rat) = 0 := rfl
    rw [h2, h0, e0, Rat.zero_mul, Rat.zero_mul]
  · rw [if_neg h0]
    simp only [hF, hB, hI]
    obtain ⟨last, hlast⟩ : ∃ last, last = max (i + (m.log2 : Int) - (F : Int)) f.leastPlace := ⟨_, rfl⟩
    rw [← hlast]
    have hlog : m.log2 ≤ F := by
      have h1 : m < 2 ^ (F + 1) := by rw [Nat.pow_succ, ← hBF]; omega
      have := (Nat.log2_lt h0).2 h1
      omega
    have hli : last ≤ i := by omega
    obtain ⟨up, hup⟩ : ∃ up, up = (i - last).toNat := ⟨_, rfl⟩
    obtain ⟨L, hLd⟩ : ∃ L, L = (last - f.leastPlace).toNat := ⟨_, rfl⟩
    have hd0 : (last - i).toNat = 0 := by omega
    have hc : ∀ n, Ieee.Toward.even.cut s n 0 = n := fun n => by simp [Ieee.Toward.cut, Nat.mod_one]
    rw [← hup, ← hLd, hd0, Nat.shiftLeft_eq, hc]
    have hlog1 : 2 ^ m.log2 ≤ m := Nat.log2_self_le h0
    have hlog2 : m < 2 ^ (m.log2 + 1) := Nat.lt_log2_self
    have hq : m * 2 ^ up ≤ 2 * B := by
      have h1 : m * 2 ^ up ≤ 2 ^ (m.log2 + 1) * 2 ^ up := Nat.mul_le_mul_right _ (Nat.le_of_lt hlog2)
      have h2 : 2 ^ (m.log2 + 1) * 2 ^ up ≤ 2 ^ (F + 1) := by
        rw [← Nat.pow_add]
        exact Nat.pow_le_pow_right (by decide) (by omega)
      rw [Nat.pow_succ 2 F, ← hBF] at h2
      omega
    have hLq : 0 < L → B ≤ m * 2 ^ up := fun hL => by
      have h1 : B ≤ 2 ^ m.log2 * 2 ^ up := by
        rw [hBF, ← Nat.pow_add]
        exact Nat.pow_le_pow_right (by decide) (by omega)
      have h2 : 2 ^ m.log2 * 2 ^ up ≤ m * 2 ^ up := Nat.mul_le_mul_right _ hlog1
      omega
    have hr : L * B + m * 2 ^ up < I := by
      have h1 : L + 2 ≤ (i + 2 - f.leastPlace).toNat := by omega
      have h2 : (L + 2) * B ≤ (i + 2 - f.leastPlace).toNat * B := Nat.mul_le_mul_right _ h1
      rw [Nat.add_mul] at h2
      omega
    obtain ⟨m', i', h1, h2⟩ := rung_read f B I S hB hI hS hIS hB0 s L _ hq hLq hr
    rw [Nat.min_eq_left (Nat.le_of_lt hr)]
    refine ⟨s, m', i', h1, hsg _ _ ?_⟩
    have hPL : f.leastPlace + (L : Int) = last := by omega
    rw [hPL] at h2
    rw [h2, Rat.natCast_mul]
    have e2 : (2 : Rat) ^ i = ((2 ^ up : Nat) : Rat) * (2 : Rat) ^ last := by
      rw [← pw_nat, ← pw_add]; congr 1; omega
    rw [e2]
    grind
end
/-- What a 32-bit word that says a number holds. -/
theorem read32 (x : Nat) {s : Bool} {m : Nat} {i : Int} (h : FloatKind.f32.format.read x = .number s m i) : m < 16777216 ∧ -149 ≤ i ∧ i ≤ 104 := by
  have hB : FloatKind.f32.format.binade = 8388608 := by decide
  have hI : FloatKind.f32.format.infRung = 2139095040 := by decide
  have hP : FloatKind.f32.format.leastPlace = -149 := by decide
  unfold Ieee.Format.read at h
  simp only [hB, hI, hP] at h
  split at h
  · cases h; omega
  · split at h
    · cases h; omega
    · split at h <;> cases h
theorem wide_exact {x : Nat} {a : Rat} (hx : NV .f32 x a) : ∃ r, floatToFloatBits .f32 x .f64 = some r ∧ NV .f64 r a := by
  obtain ⟨s, m, i, ex, ev⟩ := hx
  obtain ⟨h1, h2, h3⟩ := read32 x ex
  obtain ⟨s', m', i', e, hv⟩ := round_exact FloatKind.f64.format 52 4503599627370496 9218868437227405312 9223372036854775808 rfl (by decide) (by decide) (by decide) (by decide) (by decide) s m i (by omega) (by show (-1074 : Int) ≤ i; omega) (by
    have e1 : FloatKind.f64.format.leastPlace = -1074 := by decide
    rw [e1]
    have e2 : (i + 2 - -1074).toNat ≤ 1180 := by omega
    have := Nat.mul_le_mul_right 4503599627370496 e2
    omega)
  refine ⟨_, ?_, s', m', i', e, hv.trans ev⟩
  unfold floatToFloatBits
  rw [if_neg (by decide)]
  have hd : FloatKind.f32.decode x = .number s m i := ex
  rw [hd]
  simp only
  have hd2 : FloatKind.f64.decode (FloatKind.f64.encode (.number s m i)) = .number s' m' i' := e
  rw [hd2]
  rfl
end Go.Proofs.Ytlpibibpckkjhaa
