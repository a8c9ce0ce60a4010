/-
  Plain laws: what a float step gives, by values: each operation's rounding error, over the rational numbers.
  Words on memory, no program in sight: a slice that reads as a list; a slice in memory that lies apart from what there was; what a call may turn.
  The law's own helpers on slices of complex numbers, each by its contract: comparison, marks.
  Plain laws: a 32-bit number less itself is 0 or no number; one that is finite widens to a 64-bit number.
  Contracts: which numbers are finite (impl.IsFinite, areFinite, IsFiniteComplex, allFinite with the closures between them; spec.l01Finite, l01CFinite, l02CFinite), whatever the numbers.
  Plain laws: the nodes and weights of even masses as chains of float steps; for 1 to 8 nodes no step is without an answer and all are finite.
  append onto a row of the call's own, from a source that is nil, empty or not.
  Contracts: the rule of the polynomials of kind 2 (impl.rule, spec.l06Rule).
  Contracts: the row of the polynomials of kind 2 (impl.familyRow, spec.l06Row), where no step is without an answer.
  Contracts: whether all of a list of numbers are finite (impl.areFinite with its closure; spec.l02Finite).
  Contracts: finite complex numbers and lists of them (impl.areFinite, IsFiniteComplex, allFinite; spec.l01CFinite, l02CFinite), whatever the numbers.
  Plain laws and contracts: steps on numbers below 128, with one bound on the error; products, sums and multiples of complex numbers by their values.
  Contracts: the reference's row of the polynomials of kind 2 (spec.l06Row), and the slopes (spec.l06Slope, the closure in impl.EvenNodes), where no step is without an answer.
  Contracts: the sine of a number of turns between a quarter and three quarters (impl.SineTurns, sine, partOfTurn, isHuge), where no step is without an answer.
  Contracts by values: impl.times, MulComplex, plus, minus, ScaleComplex; laws.r8Gap, r8Far.
  The length of a complex number by values (impl.power, math.Sqrt, impl.LongOf): not below 0 and not too great, nearly.
  Contracts: which polynomials are valid (impl.ValidPoly, spec.l02Is), whatever the terms.
  Plain laws: for 1 to 8 nodes of even masses no float step is without an answer; nodes and weights are finite.
  Plain law: the nodes and weights of even masses, as lists.
  Contracts: the sine of a number of turns between a quarter and three quarters: its terms (impl.sine), and the 32-bit sine (impl.SineTurns).
  Contracts: the reference's sine of a number of turns between a quarter and three quarters (spec.l01SineWide, l06Cosine).
  Contracts: the nodes and weights of even masses by the reference (spec.EvenNodes).
  Contracts: the nodes and weights of even masses by the program (impl.EvenNodes).
  Contracts: lists of numbers as complex ones (impl.complexes, spec.l06Complex), trimmed lists (impl.trim, spec.l02Trim, slices.Clip), their polynomials (impl.polyOf, spec.l02Give).
  A polynomial's value at a real number by values (impl.nested, impl.PolyAt; impl.finite, impl.checked).
  The sum of a polynomial's lengths by values (impl.LongOfPoly): a number not below 0, nearly.
-/
import Derived.Laws.FloatArith
import Derived.WalkKit
import Derived.WalkLawsBesides
import Derived.WalkSpells
import Derived.Deep.AppendLies
import Derived.Deep.Draws
import Derived.Maps.AppendAt
import Derived.Lib.Hide
import Derived.Test.YtlilhebnbhlkhaaProg
import Derived.Deep.QuietTactic
import Derived.BigQuiet
import Derived.KernelRfl
import Derived.Deep.RegionWith
import Derived.RowKit
import Derived.RegionTactic
import Derived.OwnWalk
import Derived.Laws.Externs
namespace Go.Proofs.Ytlilhebnbhlkhaa
open Go
/-- A signed whole number. -/
def sg (s : Bool) (m : Nat) : Int := if s then -(m : Int) else m
/-- The number that a datum says. -/
def dv : Ieee.Datum → Rat
  | .number s m i => (sg s m : Rat) * (2 : Rat) ^ i
  | _ => 0
theorem two_ne : (2 : Rat) ≠ 0 := by decide
theorem two_pos (i : Int) : (0 : Rat) < (2 : Rat) ^ i := Rat.zpow_pos (by decide)
theorem pw_add (i j : Int) : (2 : Rat) ^ (i + j) = (2 : Rat) ^ i * (2 : Rat) ^ j := Rat.zpow_add two_ne i j
theorem pw_nat (k : Nat) : (2 : Rat) ^ ((k : Nat) : Int) = ((2 ^ k : Nat) : Rat) := by
  rw [Rat.zpow_natCast, Rat.natCast_pow]; rfl
theorem pw_le {i j : Int} (h : i ≤ j) : (2 : Rat) ^ i ≤ (2 : Rat) ^ j := by
  obtain ⟨k, rfl⟩ : ∃ k : Nat, j = i + (k : Int) := ⟨(j - i).toNat, by omega⟩
  rw [pw_add, pw_nat]
  have h1 : (1 : Rat) ≤ ((2 ^ k : Nat) : Rat) := by
    have := Nat.one_le_two_pow (n := k)
    exact_mod_cast Rat.natCast_le_natCast.2 this
  have h2 := two_pos i
  have h3 := Rat.mul_le_mul_of_nonneg_right h1 (Rat.le_of_lt h2)
  grind
theorem pw_lt {i j : Int} (h : (2 : Rat) ^ i < (2 : Rat) ^ j) : i < j := by
  rcases Int.lt_or_le i j with h1 | h1
  · exact h1
  · have := pw_le h1
    grind
theorem sg_shift (s : Bool) (m k : Nat) : Ieee.signed s m k = sg s m * ((2 ^ k : Nat) : Int) := by
  unfold Ieee.signed sg
  rw [Nat.shiftLeft_eq]
  cases s <;> simp [Int.natCast_mul] <;> grind
theorem shift_val (s : Bool) (m : Nat) (i b : Int) (h : b ≤ i) : ((Ieee.signed s m (i - b).toNat : Int) : Rat) * (2 : Rat) ^ b = (sg s m : Rat) * (2 : Rat) ^ i := by
  rw [sg_shift, Rat.intCast_mul]
  have h1 : (2 : Rat) ^ i = (2 : Rat) ^ b * ((2 ^ (i - b).toNat : Nat) : Rat) := by
    rw [← pw_nat, ← pw_add]
    congr 1
    omega
  rw [h1]
  have h2 : ((((2 ^ (i - b).toNat : Nat) : Int)) : Rat) = ((2 ^ (i - b).toNat : Nat) : Rat) := rfl
  rw [h2]
  grind
theorem sum_val (s t : Bool) (m n : Nat) (i j : Int) : ∃ s' m' i', (Ieee.Datum.number s m i).sum (.number t n j) = some (.number s' m' i') ∧ (sg s' m' : Rat) * (2 : Rat) ^ i' = (sg s m : Rat) * (2 : Rat) ^ i + (sg t n : Rat) * (2 : Rat) ^ j := by
  refine ⟨_, _, _, rfl, ?_⟩
  have h1 := shift_val s m i (min i j) (Int.min_le_left _ _)
  have h2 := shift_val t n j (min i j) (Int.min_le_right _ _)
  rw [← h1, ← h2]
  generalize Ieee.signed s m (i - min i j).toNat = a
  generalize Ieee.signed t n (j - min i j).toNat = b
  have key : sg (if a + b = 0 then s && t else decide (a + b < 0)) (a + b).natAbs = a + b := by
    unfold sg
    by_cases h0 : a + b = 0
    · rw [if_pos h0, h0]
      cases (s && t) <;> rfl
    · rw [if_neg h0]
      by_cases hn : a + b < 0
      · rw [decide_eq_true hn, if_pos rfl]; omega
      · rw [decide_eq_false hn, if_neg (by simp)]; omega
  rw [key, Rat.intCast_add]
  grind
theorem opp_val (s : Bool) (m : Nat) : sg (!s) m = - sg s m := by
  unfold sg; cases s <;> simp
theorem prod_val (s t : Bool) (m n : Nat) (i j : Int) : ∃ s' m' i', (Ieee.Datum.number s m i).product (.number t n j) = some (.number s' m' i') ∧ (sg s' m' : Rat) * (2 : Rat) ^ i' = ((sg s m : Rat) * (2 : Rat) ^ i) * ((sg t n : Rat) * (2 : Rat) ^ j) := by
  refine ⟨_, _, _, rfl, ?_⟩
  have key : sg (s ^^ t) (m * n) = sg s m * sg t n := by
    unfold sg
    cases s <;> cases t <;> simp [Int.natCast_mul] <;> grind
  rw [key, Rat.intCast_mul, pw_add]
  grind
/-- Rounding to a whole number: within a half, and not above what bounds it. -/
theorem cut_near (s : Bool) (n d : Nat) : 2 * (Ieee.Toward.even.cut s n d * 2 ^ d) ≤ 2 * n + 2 ^ d ∧ 2 * n ≤ 2 * (Ieee.Toward.even.cut s n d * 2 ^ d) + 2 ^ d := by
  unfold Ieee.Toward.cut
  rw [Nat.shiftLeft_eq, Nat.one_mul]
  have hp : 0 < 2 ^ d := Nat.two_pow_pos d
  by_cases hd : d ≤ n.log2 + 2
  · rw [Nat.min_eq_left hd]
    have hm := Nat.div_add_mod n (2 ^ d)
    have hr := Nat.mod_lt n hp
    simp only
    generalize n / 2 ^ d = low at *
    generalize n % 2 ^ d = rest at *
    generalize 2 ^ d = g at *
    generalize hmore : (decide (g < 2 * rest) || (g == 2 * rest && low % 2 == 1)) = more at *
    have e1 : g * low = low * g := Nat.mul_comm _ _
    cases more with
    | true =>
      have h1 : g ≤ 2 * rest := by
        simp only [Bool.or_eq_true, decide_eq_true_eq, Bool.and_eq_true, beq_iff_eq] at hmore
        omega
      have e2 : (low + true.toNat) * g = low * g + g := by simp [Nat.add_mul]
      rw [e2]
      omega
    | false =>
      have h1 : 2 * rest ≤ g := by
        simp only [Bool.or_eq_false_iff, decide_eq_false_iff_not] at hmore
        omega
      have e2 : (low + false.toNat) * g = low * g := by simp
      rw [e2]
      omega
  · have hd2 : n.log2 + 2 ≤ d := by omega
    rw [Nat.min_eq_right hd2]
    have hn : 2 * n < 2 ^ (n.log2 + 2) := by
      have := Nat.lt_log2_self (n := n)
      rw [show n.log2 + 2 = (n.log2 + 1) + 1 by omega, Nat.pow_succ]
      omega
    have h0 : n / 2 ^ (n.log2 + 2) = 0 := Nat.div_eq_of_lt (by omega)
    have h1 : n % 2 ^ (n.log2 + 2) = n := Nat.mod_eq_of_lt (by omega)
    simp only
    rw [h0, h1]
    have hf : (decide (2 ^ (n.log2 + 2) < 2 * n) || (2 ^ (n.log2 + 2) == 2 * n && 0 % 2 == 1)) = false := by
      simp; omega
    rw [hf]
    have hle : 2 ^ (n.log2 + 2) ≤ 2 ^ d := Nat.pow_le_pow_right (by decide) hd2
    simp
    omega
theorem cut_le (s : Bool) (n d N : Nat) (h : n ≤ N * 2 ^ d) : Ieee.Toward.even.cut s n d ≤ N := by
  have h1 := (cut_near s n d).1
  have hp : 0 < 2 ^ d := Nat.two_pow_pos d
  generalize Ieee.Toward.even.cut s n d = c at *
  rcases Nat.lt_or_ge N c with h2 | h2
  · exfalso
    have h3 : (N + 1) * 2 ^ d ≤ c * 2 ^ d := Nat.mul_le_mul_right _ h2
    rw [Nat.add_mul, Nat.one_mul] at h3
    omega
  · exact h2
section
variable (f : Ieee.Format) (F B I S : Nat)
theorem rung_read (hB : f.binade = B) (hI : f.infRung = I) (hS : f.signWeight = S) (hIS : I < S) (hB0 : 0 < B) (s : Bool) (L q : Nat) (hq : q ≤ 2 * B) (hL : 0 < L → B ≤ q) (hr : L * B + q < I) :
    ∃ m' i', f.read (f.word s (L * B + q)) = .number s m' i' ∧ ((m' : Nat) : Rat) * (2 : Rat) ^ i' = ((q : Nat) : Rat) * (2 : Rat) ^ (f.leastPlace + (L : Int)) := by
  have hw : f.word s (L * B + q) % S = L * B + q := by
    unfold Ieee.Format.word
    rw [hS]
    have h1 : L * B + q < S := by omega
    cases s
    · simp [Nat.mod_eq_of_lt h1]
    · simp [Nat.mod_eq_of_lt h1]
  have hs : (f.word s (L * B + q) / S % 2 == 1) = s := by
    unfold Ieee.Format.word
    rw [hS]
    have h1 : L * B + q < S := by omega
    have h0 : (L * B + q) / S = 0 := Nat.div_eq_of_lt h1
    cases s
    · simp [h0]
    · have h2 : (S + (L * B + q)) / S = 1 := by
        rw [Nat.add_div_left _ (by omega), h0]
      simp [h2]
  unfold Ieee.Format.read
  simp only [hB, hI, hS, hw, hs]
  by_cases h1 : L * B + q < B
  · rw [if_pos h1]
    have hL0 : L = 0 := by
      rcases Nat.eq_zero_or_pos L with h | h
      · exact h
      · have := hL h; omega
    subst hL0
    refine ⟨_, _, rfl, ?_⟩
    simp
  · rw [if_neg h1, if_pos hr]
    have hqB : B ≤ q := by
      rcases Nat.eq_zero_or_pos L with h | h
      · subst h; simp at h1; exact h1
      · exact hL h
    refine ⟨_, _, rfl, ?_⟩
    by_cases h2 : q < 2 * B
    · have e1 : (L * B + q) / B = L + 1 := by
        rw [show L * B + q = (L + 1) * B + (q - B) by rw [Nat.add_mul]; omega]
        rw [Nat.add_comm, Nat.add_mul_div_right _ _ hB0, Nat.div_eq_of_lt (by omega)]
        omega
      have e2 : (L * B + q) % B = q - B := by
        rw [show L * B + q = (L + 1) * B + (q - B) by rw [Nat.add_mul]; omega]
        rw [Nat.add_comm, Nat.add_mul_mod_self_right, Nat.mod_eq_of_lt (by omega)]
      rw [e1, e2, show B + (q - B) = q by omega]
      rfl
    · have hq2 : q = 2 * B := by omega
      have e1 : (L * B + q) / B = L + 2 := by
        rw [hq2, show L * B + 2 * B = (L + 2) * B by rw [Nat.add_mul]]
        exact Nat.mul_div_cancel _ hB0
      have e2 : (L * B + q) % B = 0 := by
        rw [hq2, show L * B + 2 * B = (L + 2) * B by rw [Nat.add_mul]]
        exact Nat.mul_mod_left _ _
      rw [e1, e2, hq2]
      have e3 : ((L + 2 - 1 : Nat) : Int) = (L : Int) + 1 := by omega
      rw [e3, show f.leastPlace + ((L : Int) + 1) = (f.leastPlace + (L : Int)) + 1 by omega, pw_add]
      have e4 : (2 : Rat) ^ (1 : Int) = 2 := by decide +kernel
      rw [e4]
      have e5 : (((2 * B : Nat)) : Rat) = 2 * ((B : Nat) : Rat) := by rw [Rat.natCast_mul]; rfl
      rw [e5]
      grind
/-- Writing a number that is not too great: the nearest that there is. -/
theorem round_ok (hF : f.fractionBits = F) (hBF : B = 2 ^ F) (hB : f.binade = B) (hI : f.infRung = I) (hS : f.signWeight = S) (hIS : I < S) (k : Int) (hk : f.leastPlace + (F : Int) + 1 ≤ k) (hov : (k + 1 - (F : Int) - f.leastPlace).toNat * B < I)
    (s : Bool) (m : Nat) (i : Int) (hm : ((m : Nat) : Rat) * (2 : Rat) ^ i < (2 : Rat) ^ k) :
    ∃ s' m' i', f.read (f.write (.number s m i)) = .number s' m' i' ∧
      2 * ((sg s' m' : Rat) * (2 : Rat) ^ i') ≤ 2 * ((sg s m : Rat) * (2 : Rat) ^ i) + (2 : Rat) ^ (k - 1 - (F : Int)) ∧ 2 * ((sg s m : Rat) * (2 : Rat) ^ i) ≤ 2 * ((sg s' m' : Rat) * (2 : Rat) ^ i') + (2 : Rat) ^ (k - 1 - (F : Int)) := by
  have hB0 : 0 < B := by rw [hBF]; exact Nat.two_pow_pos _
  have hpk := two_pos (k - 1 - (F : Int))
  show ∃ s' m' i', f.read (f.nearest s m i) = .number s' m' i' ∧ _
  unfold Ieee.Format.nearest
  by_cases h0 : m = 0
  · rw [if_pos h0]
    have hI0 : 0 < I := by omega
    obtain ⟨m', i', h1, h2⟩ := rung_read f B I S hB hI hS hIS hB0 s 0 0 (by omega) (fun h => absurd h (by omega)) (by omega)
    simp only [Nat.zero_mul, Nat.zero_add] at h1
    refine ⟨s, m', i', h1, ?_⟩
    have e0 : ((0 : Nat) : Rat) = 0 := rfl
    rw [e0, Rat.zero_mul] at h2
    have e1 : (sg s m' : Rat) * (2 : Rat) ^ i' = 0 := by
      unfold sg
      cases s
      · simp only [Bool.false_eq_true, if_false]
        exact h2
      · simp only [if_true, Rat.intCast_neg]
        have : (((m' : Nat) : Int) : Rat) = ((m' : Nat) : Rat) := rfl
        rw [this]
        grind
    have e2 : (sg s m : Rat) * (2 : Rat) ^ i = 0 := by
      subst h0
      unfold sg
      cases s <;> simp
    rw [e1, e2]
    grind
  · rw [if_neg h0]
    simp only [hF, hB, hI]
    obtain ⟨last, hlast⟩ : ∃ last, last = max (i + (m.log2 : Int) - (F : Int)) f.leastPlace := ⟨_, rfl⟩
    rw [← hlast]
    obtain ⟨up, hup⟩ : ∃ up, up = (i - last).toNat := ⟨_, rfl⟩
    obtain ⟨d, hd⟩ : ∃ d, d = (last - i).toNat := ⟨_, rfl⟩
    obtain ⟨L, hLd⟩ : ∃ L, L = (last - f.leastPlace).toNat := ⟨_, rfl⟩
    rw [← hup, ← hd, ← hLd, Nat.shiftLeft_eq]
    have hlog1 : 2 ^ m.log2 ≤ m := Nat.log2_self_le h0
    have hlog2 : m < 2 ^ (m.log2 + 1) := Nat.lt_log2_self
    have hmag : i + (m.log2 : Int) < k := by
      refine pw_lt ?_
      rw [pw_add]
      have h1 : (2 : Rat) ^ ((m.log2 : Nat) : Int) ≤ ((m : Nat) : Rat) := by
        rw [pw_nat]; exact Rat.natCast_le_natCast.2 hlog1
      have h2 := Rat.mul_le_mul_of_nonneg_right h1 (Rat.le_of_lt (two_pos i))
      grind
    have hn := cut_near s (m * 2 ^ up) d
    have hq : Ieee.Toward.even.cut s (m * 2 ^ up) d ≤ 2 * B := by
      refine cut_le s _ d _ ?_
      have h1 : m * 2 ^ up ≤ 2 ^ (m.log2 + 1) * 2 ^ up := Nat.mul_le_mul_right _ (Nat.le_of_lt hlog2)
      have h2 : 2 ^ (m.log2 + 1) * 2 ^ up ≤ 2 ^ (F + 1) * 2 ^ d := by
        rw [← Nat.pow_add, ← Nat.pow_add]
        exact Nat.pow_le_pow_right (by decide) (by omega)
      rw [hBF]
      rw [Nat.pow_succ 2 F] at h2
      have h3 : 2 ^ F * 2 * 2 ^ d = 2 * 2 ^ F * 2 ^ d := by rw [Nat.mul_comm (2 ^ F) 2]
      omega
    have hLq : 0 < L → B ≤ Ieee.Toward.even.cut s (m * 2 ^ up) d := fun hL => by
      have h1 : 2 ^ F * 2 ^ d ≤ m * 2 ^ up := by
        have h2 : 2 ^ F * 2 ^ d = 2 ^ m.log2 * 2 ^ up := by
          rw [← Nat.pow_add, ← Nat.pow_add]
          congr 1
          omega
        rw [h2]
        exact Nat.mul_le_mul_right _ hlog1
      rw [← hBF] at h1
      have hp : 0 < 2 ^ d := Nat.two_pow_pos d
      generalize Ieee.Toward.even.cut s (m * 2 ^ up) d = q at *
      rcases Nat.lt_or_ge q B with h2 | h2
      · exfalso
        have h3 : (q + 1) * 2 ^ d ≤ B * 2 ^ d := Nat.mul_le_mul_right _ h2
        rw [Nat.add_mul, Nat.one_mul] at h3
        omega
      · exact h2
    have hlk : last ≤ k - 1 - (F : Int) := by omega
    have hr : L * B + Ieee.Toward.even.cut s (m * 2 ^ up) d < I := by
      have h1 : L + 2 ≤ (k + 1 - (F : Int) - f.leastPlace).toNat := by omega
      have h2 : (L + 2) * B ≤ (k + 1 - (F : Int) - f.leastPlace).toNat * B := Nat.mul_le_mul_right _ h1
      rw [Nat.add_mul] at h2
      omega
    obtain ⟨m', i', h1, h2⟩ := rung_read f B I S hB hI hS hIS hB0 s L _ hq hLq hr
    rw [Nat.min_eq_left (Nat.le_of_lt hr)]
    refine ⟨s, m', i', h1, ?_⟩
    have hPL : f.leastPlace + (L : Int) = last := by omega
    rw [hPL] at h2
    generalize Ieee.Toward.even.cut s (m * 2 ^ up) d = q at *
    have hle := pw_le hlk
    -- the two numbers, in units of 2 ^ (last - d)
    have hu := two_pos (last - (d : Int))
    have e1 : (2 : Rat) ^ last = ((2 ^ d : Nat) : Rat) * (2 : Rat) ^ (last - (d : Int)) := by
      rw [← pw_nat, ← pw_add]; congr 1; omega
    have e2 : (2 : Rat) ^ i = ((2 ^ up : Nat) : Rat) * (2 : Rat) ^ (last - (d : Int)) := by
      rw [← pw_nat, ← pw_add]; congr 1; omega
    have n1 : 2 * ((q : Rat) * ((2 ^ d : Nat) : Rat)) ≤ 2 * ((m : Rat) * ((2 ^ up : Nat) : Rat)) + ((2 ^ d : Nat) : Rat) := by
      have := Rat.natCast_le_natCast.2 hn.1
      simp only [Rat.natCast_mul, Rat.natCast_add] at this
      exact this
    have n2 : 2 * ((m : Rat) * ((2 ^ up : Nat) : Rat)) ≤ 2 * ((q : Rat) * ((2 ^ d : Nat) : Rat)) + ((2 ^ d : Nat) : Rat) := by
      have := Rat.natCast_le_natCast.2 hn.2
      simp only [Rat.natCast_mul, Rat.natCast_add] at this
      exact this
    have a1 := Rat.mul_le_mul_of_nonneg_right n1 (Rat.le_of_lt hu)
    have a2 := Rat.mul_le_mul_of_nonneg_right n2 (Rat.le_of_lt hu)
    have b1 : 2 * ((m' : Rat) * (2 : Rat) ^ i') ≤ 2 * ((m : Rat) * (2 : Rat) ^ i) + (2 : Rat) ^ last := by
      rw [h2, e1, e2]; grind
    have b2 : 2 * ((m : Rat) * (2 : Rat) ^ i) ≤ 2 * ((m' : Rat) * (2 : Rat) ^ i') + (2 : Rat) ^ last := by
      rw [h2, e1, e2]; grind
    unfold sg
    cases s
    · simp only [Bool.false_eq_true, if_false]
      have c1 : (((m' : Nat) : Int) : Rat) = ((m' : Nat) : Rat) := rfl
      have c2 : (((m : Nat) : Int) : Rat) = ((m : Nat) : Rat) := rfl
      rw [c1, c2]
      grind
    · simp only [if_true, Rat.intCast_neg]
      have c1 : (((m' : Nat) : Int) : Rat) = ((m' : Nat) : Rat) := rfl
      have c2 : (((m : Nat) : Int) : Rat) = ((m : Nat) : Rat) := rfl
      rw [c1, c2]
      grind
end
/-! ### The four operations on 32-bit and 64-bit numbers, by their values -/
/-- A word that says a number. -/
def NV (k : FloatKind) (x : Nat) (a : Rat) : Prop := ∃ s m i, k.format.read x = .number s m i ∧ (sg s m : Rat) * (2 : Rat) ^ i = a
theorem sg_abs (s : Bool) (m : Nat) (p b : Rat) (h1 : (sg s m : Rat) * p < b) (h2 : -b < (sg s m : Rat) * p) : ((m : Nat) : Rat) * p < b := by
  unfold sg at h1 h2
  cases s
  · exact h1
  · simp only [if_true, Rat.intCast_neg] at h2
    have : (((m : Nat) : Int) : Rat) = ((m : Nat) : Rat) := rfl
    rw [this] at h2
    grind
/-- How many digits a kind keeps. -/
def digs : FloatKind → Int
  | .f32 => 24
  | .f64 => 53
theorem write_ok (fk : FloatKind) (k : Int) (hk : -125 ≤ k) (hk2 : k ≤ 100) (s : Bool) (m : Nat) (i : Int) (v : Rat) (hv : (sg s m : Rat) * (2 : Rat) ^ i = v) (h1 : v < (2 : Rat) ^ k) (h2 : -((2 : Rat) ^ k) < v) :
    ∃ c, NV fk (fk.format.write (.number s m i)) c ∧ 2 * c ≤ 2 * v + (2 : Rat) ^ (k - digs fk) ∧ 2 * v ≤ 2 * c + (2 : Rat) ^ (k - digs fk) := by
  have hm : ((m : Nat) : Rat) * (2 : Rat) ^ i < (2 : Rat) ^ k := sg_abs s m _ _ (by rw [hv]; exact h1) (by rw [hv]; exact h2)
  cases fk with
  | f32 =>
    obtain ⟨s', m', i', e, b1, b2⟩ := round_ok FloatKind.f32.format 23 8388608 2139095040 2147483648 rfl (by decide) (by decide) (by decide) (by decide) (by decide) k (by show (-149 : Int) + 23 + 1 ≤ k; omega) (by
      have e1 : FloatKind.f32.format.leastPlace = -149 := by decide
      rw [e1]
      have e2 : (k + 1 - ((23 : Nat) : Int) - -149).toNat ≤ 228 := by omega
      have := Nat.mul_le_mul_right 8388608 e2
      omega) s m i hm
    refine ⟨_, ⟨s', m', i', e, rfl⟩, ?_⟩
    rw [hv] at b1 b2
    have e3 : k - 1 - ((23 : Nat) : Int) = k - digs .f32 := by show _ = k - 24; omega
    rw [e3] at b1 b2
    exact ⟨b1, b2⟩
  | f64 =>
    obtain ⟨s', m', i', e, b1, b2⟩ := round_ok FloatKind.f64.format 52 4503599627370496 9218868437227405312 9223372036854775808 rfl (by decide) (by decide) (by decide) (by decide) (by decide) k (by show (-1074 : Int) + 52 + 1 ≤ k; omega) (by
      have e1 : FloatKind.f64.format.leastPlace = -1074 := by decide
      rw [e1]
      have e2 : (k + 1 - ((52 : Nat) : Int) - -1074).toNat ≤ 1124 := by omega
      have := Nat.mul_le_mul_right 4503599627370496 e2
      omega) s m i hm
    refine ⟨_, ⟨s', m', i', e, rfl⟩, ?_⟩
    rw [hv] at b1 b2
    have e3 : k - 1 - ((52 : Nat) : Int) = k - digs .f64 := by show _ = k - 53; omega
    rw [e3] at b1 b2
    exact ⟨b1, b2⟩
theorem add_ok (fk : FloatKind) (k : Int) (hk : -125 ≤ k) (hk2 : k ≤ 100) {x y : Nat} {a b : Rat} (hx : NV fk x a) (hy : NV fk y b) (h1 : a + b < (2 : Rat) ^ k) (h2 : -((2 : Rat) ^ k) < a + b) :
    ∃ r c, floatBits .add fk x y = some r ∧ NV fk r c ∧ 2 * c ≤ 2 * (a + b) + (2 : Rat) ^ (k - digs fk) ∧ 2 * (a + b) ≤ 2 * c + (2 : Rat) ^ (k - digs fk) := by
  obtain ⟨s, m, i, ex, rfl⟩ := hx
  obtain ⟨t, n, j, ey, rfl⟩ := hy
  obtain ⟨s', m', i', es, ev⟩ := sum_val s t m n i j
  obtain ⟨c, hc, b1, b2⟩ := write_ok fk k hk hk2 s' m' i' _ ev h1 h2
  refine ⟨_, c, ?_, hc, b1, b2⟩
  show ((fk.format.read x).sum (fk.format.read y)).map fk.format.write = _
  rw [ex, ey, es]; rfl
theorem sub_ok (fk : FloatKind) (k : Int) (hk : -125 ≤ k) (hk2 : k ≤ 100) {x y : Nat} {a b : Rat} (hx : NV fk x a) (hy : NV fk y b) (h1 : a - b < (2 : Rat) ^ k) (h2 : -((2 : Rat) ^ k) < a - b) :
    ∃ r c, floatBits .sub fk x y = some r ∧ NV fk r c ∧ 2 * c ≤ 2 * (a - b) + (2 : Rat) ^ (k - digs fk) ∧ 2 * (a - b) ≤ 2 * c + (2 : Rat) ^ (k - digs fk) := by
  obtain ⟨s, m, i, ex, rfl⟩ := hx
  obtain ⟨t, n, j, ey, rfl⟩ := hy
  obtain ⟨s', m', i', es, ev⟩ := sum_val s (!t) m n i j
  have ev2 : (sg s' m' : Rat) * (2 : Rat) ^ i' = (sg s m : Rat) * (2 : Rat) ^ i - (sg t n : Rat) * (2 : Rat) ^ j := by
    rw [ev, opp_val, Rat.intCast_neg]; grind
  obtain ⟨c, hc, b1, b2⟩ := write_ok fk k hk hk2 s' m' i' _ ev2 h1 h2
  refine ⟨_, c, ?_, hc, b1, b2⟩
  show ((fk.format.read x).sum (fk.format.read y).opposite).map fk.format.write = _
  rw [ex, ey]
  show ((Ieee.Datum.number s m i).sum (.number (!t) n j)).map fk.format.write = _
  rw [es]; rfl
theorem mul_ok (fk : FloatKind) (k : Int) (hk : -125 ≤ k) (hk2 : k ≤ 100) {x y : Nat} {a b : Rat} (hx : NV fk x a) (hy : NV fk y b) (h1 : a * b < (2 : Rat) ^ k) (h2 : -((2 : Rat) ^ k) < a * b) :
    ∃ r c, floatBits .mul fk x y = some r ∧ NV fk r c ∧ 2 * c ≤ 2 * (a * b) + (2 : Rat) ^ (k - digs fk) ∧ 2 * (a * b) ≤ 2 * c + (2 : Rat) ^ (k - digs fk) := by
  obtain ⟨s, m, i, ex, rfl⟩ := hx
  obtain ⟨t, n, j, ey, rfl⟩ := hy
  obtain ⟨s', m', i', es, ev⟩ := prod_val s t m n i j
  obtain ⟨c, hc, b1, b2⟩ := write_ok fk k hk hk2 s' m' i' _ ev h1 h2
  refine ⟨_, c, ?_, hc, b1, b2⟩
  show ((fk.format.read x).product (fk.format.read y)).map fk.format.write = _
  rw [ex, ey, es]; rfl
/-- From one kind to another: the nearest. -/
theorem conv_ok (fk fl : FloatKind) (hne : fk ≠ fl) (k : Int) (hk : -125 ≤ k) (hk2 : k ≤ 100) {x : Nat} {a : Rat} (hx : NV fk x a) (h1 : a < (2 : Rat) ^ k) (h2 : -((2 : Rat) ^ k) < a) :
    ∃ r c, floatToFloatBits fk x fl = some r ∧ NV fl r c ∧ 2 * c ≤ 2 * a + (2 : Rat) ^ (k - digs fl) ∧ 2 * a ≤ 2 * c + (2 : Rat) ^ (k - digs fl) := by
  obtain ⟨s, m, i, ex, ev⟩ := hx
  obtain ⟨c, hc, b1, b2⟩ := write_ok fl k hk hk2 s m i _ ev h1 h2
  refine ⟨_, c, ?_, hc, b1, b2⟩
  unfold floatToFloatBits
  rw [if_neg hne]
  have hd : fk.decode x = .number s m i := ex
  rw [hd]
  simp only
  obtain ⟨s', m', i', e', -⟩ := hc
  have hd2 : fl.decode (fl.encode (.number s m i)) = .number s' m' i' := e'
  rw [hd2]
  rfl
/-- The digits that a quotient is given before it is rounded. -/
theorem quot_val (dg : Nat) (s t : Bool) (m n : Nat) (i j : Int) (k : Int) (q : Rat) (hn : n ≠ 0) (hq : q * ((sg t n : Rat) * (2 : Rat) ^ j) = (sg s m : Rat) * (2 : Rat) ^ i) (h1 : q < (2 : Rat) ^ k) (h2 : -((2 : Rat) ^ k) < q) (hdg : 0 < dg) :
    ∃ s' m' i', (Ieee.Datum.number s m i).quotient dg (.number t n j) = some (.number s' m' i') ∧
      2 * ((sg s' m' : Rat) * (2 : Rat) ^ i') ≤ 2 * q + (2 : Rat) ^ (k - (dg : Int)) ∧ 2 * q ≤ 2 * ((sg s' m' : Rat) * (2 : Rat) ^ i') + (2 : Rat) ^ (k - (dg : Int)) := by
  have hpk := two_pos (k - (dg : Int))
  obtain ⟨more, hmore⟩ : ∃ more, more = dg + n.log2 - m.log2 := ⟨_, rfl⟩
  refine ⟨s ^^ t, 2 * (m <<< more / n) + (m <<< more % n != 0).toNat, i - j - more - 1, ?_, ?_⟩
  · unfold Ieee.Datum.quotient
    simp only
    rw [if_neg hn, ← hmore]
  · obtain ⟨D, hD⟩ : ∃ D, D = m <<< more := ⟨_, rfl⟩
    rw [← hD]
    have hDv : D = m * 2 ^ more := by rw [hD, Nat.shiftLeft_eq]
    have hdiv := Nat.div_add_mod D n
    have hmod := Nat.mod_lt D (Nat.pos_of_ne_zero hn)
    obtain ⟨M, hM⟩ : ∃ M, M = 2 * (D / n) + (D % n != 0).toNat := ⟨_, rfl⟩
    rw [← hM]
    have hb1 : M * n ≤ 2 * D + n ∧ 2 * D ≤ M * n + n := by
      generalize D / n = f at *
      generalize D % n = r at *
      have e1 : n * f = f * n := Nat.mul_comm _ _
      by_cases hr : r = 0
      · have e2 : (r != 0).toNat = 0 := by rw [hr]; rfl
        rw [hM, e2, Nat.add_zero]
        have e3 : 2 * f * n = 2 * (f * n) := Nat.mul_assoc _ _ _
        omega
      · have e2 : (r != 0).toNat = 1 := by
          have : (r != 0) = true := by simp [hr]
          rw [this]; rfl
        rw [hM, e2, Nat.add_mul, Nat.one_mul]
        have e3 : 2 * f * n = 2 * (f * n) := Nat.mul_assoc _ _ _
        omega
    -- in units of e = i - j - more
    have hnp : (0 : Rat) < ((n : Nat) : Rat) := by
      have : ((0 : Nat) : Rat) < ((n : Nat) : Rat) := Rat.natCast_lt_natCast.2 (Nat.pos_of_ne_zero hn)
      exact this
    have hu := two_pos (i - j - (more : Int))
    have hj := two_pos j
    -- the quotient without its sign
    obtain ⟨p, hp, hsg⟩ : ∃ p : Rat, p * ((n : Nat) : Rat) = ((D : Nat) : Rat) * (2 : Rat) ^ (i - j - (more : Int)) ∧ q = (if (s ^^ t) then -p else p) := by
      have hi : (2 : Rat) ^ i = ((2 ^ more : Nat) : Rat) * (2 : Rat) ^ (i - j - (more : Int)) * (2 : Rat) ^ j := by
        rw [← pw_nat, ← pw_add, ← pw_add]; congr 1; omega
      have hDr : ((D : Nat) : Rat) = ((m : Nat) : Rat) * ((2 ^ more : Nat) : Rat) := by rw [hDv, Rat.natCast_mul]
      have c1 : ∀ x : Nat, (((x : Nat) : Int) : Rat) = ((x : Nat) : Rat) := fun _ => rfl
      have hjn : (2 : Rat) ^ j ≠ 0 := by grind
      have canc : ∀ x y : Rat, x * (2 : Rat) ^ j = y * (2 : Rat) ^ j → x = y := fun x y h => by
        have : (x - y) * (2 : Rat) ^ j = 0 := by grind
        rcases Rat.mul_eq_zero.1 this with h3 | h3
        · grind
        · exact absurd h3 hjn
      refine ⟨if (s ^^ t) then -q else q, ?_, by cases s <;> cases t <;> simp⟩
      refine canc _ _ ?_
      rw [hi] at hq
      unfold sg at hq
      cases s <;> cases t <;> simp only [Bool.false_eq_true, if_false, if_true, Rat.intCast_neg, c1, Bool.xor_false, Bool.xor_true, Bool.not_true, Bool.not_false] at hq ⊢ <;> rw [hDr] <;> grind
    have hval : (sg (s ^^ t) M : Rat) * (2 : Rat) ^ (i - j - (more : Int) - 1) = if (s ^^ t) then -(((M : Nat) : Rat) * (2 : Rat) ^ (i - j - (more : Int) - 1)) else ((M : Nat) : Rat) * (2 : Rat) ^ (i - j - (more : Int) - 1) := by
      unfold sg
      have c1 : ((((M : Nat) : Int)) : Rat) = ((M : Nat) : Rat) := rfl
      cases (s ^^ t)
      · simp only [Bool.false_eq_true, if_false, c1]
      · simp only [if_true, Rat.intCast_neg, c1]; grind
    rw [hval]
    have hhalf : (2 : Rat) ^ (i - j - (more : Int)) = 2 * (2 : Rat) ^ (i - j - (more : Int) - 1) := by
      have h3 := pw_add (i - j - (more : Int) - 1) 1
      rw [show i - j - (more : Int) - 1 + 1 = i - j - (more : Int) by omega] at h3
      have e4 : (2 : Rat) ^ (1 : Int) = 2 := by decide +kernel
      rw [h3, e4]; grind
    have hu1 := two_pos (i - j - (more : Int) - 1)
    generalize hU : (2 : Rat) ^ (i - j - (more : Int) - 1) = U at *
    have n1 : ((M : Nat) : Rat) * ((n : Nat) : Rat) ≤ 2 * ((D : Nat) : Rat) + ((n : Nat) : Rat) := by
      have := Rat.natCast_le_natCast.2 hb1.1
      simp only [Rat.natCast_mul, Rat.natCast_add] at this
      exact this
    have n2 : 2 * ((D : Nat) : Rat) ≤ ((M : Nat) : Rat) * ((n : Nat) : Rat) + ((n : Nat) : Rat) := by
      have := Rat.natCast_le_natCast.2 hb1.2
      simp only [Rat.natCast_mul, Rat.natCast_add] at this
      exact this
    rw [hhalf] at hp
    -- within one unit
    have cancn : ∀ x y : Rat, x * ((n : Nat) : Rat) ≤ y * ((n : Nat) : Rat) → x ≤ y := fun x y h => Rat.le_of_mul_le_mul_right h hnp
    have w1 : ((M : Nat) : Rat) * U ≤ p + U := by
      refine cancn _ _ ?_
      have := Rat.mul_le_mul_of_nonneg_right n1 (Rat.le_of_lt hu1)
      grind
    have w2 : p ≤ ((M : Nat) : Rat) * U + U := by
      refine cancn _ _ ?_
      have := Rat.mul_le_mul_of_nonneg_right n2 (Rat.le_of_lt hu1)
      grind
    -- the unit is small
    have hpb : p < (2 : Rat) ^ k := by
      cases hx : (s ^^ t) <;> rw [hx] at hsg <;> simp only [Bool.false_eq_true, if_false, if_true] at hsg <;> grind
    have hU2 : U + U ≤ (2 : Rat) ^ (k - (dg : Int)) ∨ p = 0 ∧ ((M : Nat) : Rat) = 0 := by
      by_cases hm0 : m = 0
      · right
        have hD0 : D = 0 := by rw [hDv, hm0, Nat.zero_mul]
        have hM0 : M = 0 := by rw [hM, hD0]; simp
        refine ⟨?_, by rw [hM0]; rfl⟩
        rw [hD0] at hp
        have e0 : ((0 : Nat) : Rat) = 0 := rfl
        rw [e0, Rat.zero_mul] at hp
        rcases Rat.mul_eq_zero.1 hp with h3 | h3
        · exact h3
        · grind
      · left
        have hlog1 : 2 ^ m.log2 ≤ m := Nat.log2_self_le hm0
        have hlog2 : n < 2 ^ (n.log2 + 1) := Nat.lt_log2_self
        have hDn : n * 2 ^ (dg - 1) ≤ D := by
          have h3 : n * 2 ^ (dg - 1) ≤ 2 ^ (n.log2 + 1) * 2 ^ (dg - 1) := Nat.mul_le_mul_right _ (Nat.le_of_lt hlog2)
          have h4 : 2 ^ m.log2 * 2 ^ more ≤ m * 2 ^ more := Nat.mul_le_mul_right _ hlog1
          have h5 : 2 ^ (n.log2 + 1) * 2 ^ (dg - 1) ≤ 2 ^ m.log2 * 2 ^ more := by
            rw [← Nat.pow_add, ← Nat.pow_add]
            exact Nat.pow_le_pow_right (by decide) (by omega)
          rw [hDv]
          omega
        have r1 : ((n : Nat) : Rat) * ((2 ^ (dg - 1) : Nat) : Rat) ≤ ((D : Nat) : Rat) := by
          have := Rat.natCast_le_natCast.2 hDn
          simp only [Rat.natCast_mul] at this
          exact this
        have r2 : ((2 ^ (dg - 1) : Nat) : Rat) * (U + U) ≤ p := by
          refine cancn _ _ ?_
          have := Rat.mul_le_mul_of_nonneg_right r1 (Rat.le_of_lt (show (0 : Rat) < U + U by grind))
          grind
        have r3 : U + U = (2 : Rat) ^ (i - j - (more : Int)) := by rw [hhalf]; grind
        rw [r3, ← pw_nat, ← pw_add] at r2
        have r4 : (((dg - 1 : Nat)) : Int) + (i - j - (more : Int)) < k := pw_lt (by grind)
        rw [r3]
        exact pw_le (by omega)
    rcases hU2 with hU2 | ⟨hp0, hM0⟩
    · rw [hsg]
      cases (s ^^ t) <;> simp only [Bool.false_eq_true, if_false, if_true] <;> grind
    · rw [hsg, hM0, hp0]
      cases (s ^^ t) <;> simp only [Bool.false_eq_true, if_false, if_true] <;> grind
theorem quo_ok (fk : FloatKind) (k : Int) (hk : -124 ≤ k) (hk2 : k ≤ 99) {x y : Nat} {a b q : Rat} (hx : NV fk x a) (hy : NV fk y b) (hb : b ≠ 0) (hq : q * b = a) (h1 : q < (2 : Rat) ^ k) (h2 : -((2 : Rat) ^ k) < q) :
    ∃ r c, floatBits .quo fk x y = some r ∧ NV fk r c ∧ 2 * c ≤ 2 * q + 2 * (2 : Rat) ^ (k + 1 - digs fk) ∧ 2 * q ≤ 2 * c + 2 * (2 : Rat) ^ (k + 1 - digs fk) := by
  obtain ⟨s, m, i, ex, rfl⟩ := hx
  obtain ⟨t, n, j, ey, rfl⟩ := hy
  have hn : n ≠ 0 := by
    rintro rfl
    refine hb ?_
    unfold sg
    cases t <;> simp
  have hF : 0 < fk.format.fractionBits + 2 := by omega
  obtain ⟨s', m', i', es, b1, b2⟩ := quot_val (fk.format.fractionBits + 2) s t m n i j k q hn hq h1 h2 hF
  have hle : (2 : Rat) ^ (k - ((fk.format.fractionBits + 2 : Nat) : Int)) ≤ (2 : Rat) ^ (k + 1 - digs fk) := pw_le (by cases fk <;> (first | (show k - 25 ≤ k + 1 - 24; omega) | (show k - 54 ≤ k + 1 - 53; omega)))
  have hle2 : (2 : Rat) ^ (k - ((fk.format.fractionBits + 2 : Nat) : Int)) ≤ (2 : Rat) ^ k := pw_le (by omega)
  have hdbl : (2 : Rat) ^ (k + 1) = 2 * (2 : Rat) ^ k := by
    rw [pw_add]
    have e4 : (2 : Rat) ^ (1 : Int) = 2 := by decide +kernel
    rw [e4]; grind
  have hpk := two_pos k
  obtain ⟨c, hc, w1, w2⟩ := write_ok fk (k + 1) (by omega) (by omega) s' m' i' _ rfl (by rw [hdbl]; grind) (by rw [hdbl]; grind)
  refine ⟨_, c, ?_, hc, by grind, by grind⟩
  show ((fk.format.read x).quotient (fk.format.fractionBits + 2) (fk.format.read y)).map fk.format.write = _
  rw [ex, ey, es]; rfl
section
variable (f : Ieee.Format) (F B I S : Nat)
/-- Writing a number of few digits: it stays what it is. -/
theorem round_exact (hF : f.fractionBits = F) (hBF : B = 2 ^ F) (hB : f.binade = B) (hI : f.infRung = I) (hS : f.signWeight = S) (hIS : I < S)
    (s : Bool) (m : Nat) (i : Int) (hm : m < 2 * B) (hi : f.leastPlace ≤ i) (hov : (i + 2 - f.leastPlace).toNat * B < I) :
    ∃ s' m' i', f.read (f.write (.number s m i)) = .number s' m' i' ∧ (sg s' m' : Rat) * (2 : Rat) ^ i' = (sg s m : Rat) * (2 : Rat) ^ i := by
  have hB0 : 0 < B := by rw [hBF]; exact Nat.two_pow_pos _
  show ∃ s' m' i', f.read (f.nearest s m i) = .number s' m' i' ∧ _
  unfold Ieee.Format.nearest
  have hsg : ∀ m' : Nat, ∀ i' : Int, ((m' : Nat) : Rat) * (2 : Rat) ^ i' = ((m : Nat) : Rat) * (2 : Rat) ^ i → (sg s m' : Rat) * (2 : Rat) ^ i' = (sg s m : Rat) * (2 : Rat) ^ i := fun m' i' h => by
    have c1 : ∀ x : Nat, (((x : Nat) : Int) : Rat) = ((x : Nat) : Rat) := fun _ => rfl
    unfold sg
    cases s
    · simp only [Bool.false_eq_true, if_false, c1]; exact h
    · simp only [if_true, Rat.intCast_neg, c1]; grind
  by_cases h0 : m = 0
  · rw [if_pos h0]
    obtain ⟨m', i', h1, h2⟩ := rung_read f B I S hB hI hS hIS hB0 s 0 0 (by omega) (fun h => absurd h (by omega)) (by omega)
    simp only [Nat.zero_mul, Nat.zero_add] at h1
    refine ⟨s, m', i', h1, hsg _ _ ?_⟩
    have e0 : ((0 : Nat) : Rat) = 0 := rfl
    rw [h2, h0, e0, Rat.zero_mul, Rat.zero_mul]
  · rw [if_neg h0]
    simp only [hF, hB, hI]
    obtain ⟨last, hlast⟩ : ∃ last, last = max (i + (m.log2 : Int) - (F : Int)) f.leastPlace := ⟨_, rfl⟩
    rw [← hlast]
    have hlog : m.log2 ≤ F := by
      have h1 : m < 2 ^ (F + 1) := by rw [Nat.pow_succ, ← hBF]; omega
      have := (Nat.log2_lt h0).2 h1
      omega
    have hli : last ≤ i := by omega
    obtain ⟨up, hup⟩ : ∃ up, up = (i - last).toNat := ⟨_, rfl⟩
    obtain ⟨L, hLd⟩ : ∃ L, L = (last - f.leastPlace).toNat := ⟨_, rfl⟩
    have hd0 : (last - i).toNat = 0 := by omega
    have hc : ∀ n, Ieee.Toward.even.cut s n 0 = n := fun n => by simp [Ieee.Toward.cut, Nat.mod_one]
    rw [← hup, ← hLd, hd0, Nat.shiftLeft_eq, hc]
    have hlog1 : 2 ^ m.log2 ≤ m := Nat.log2_self_le h0
    have hlog2 : m < 2 ^ (m.log2 + 1) := Nat.lt_log2_self
    have hq : m * 2 ^ up ≤ 2 * B := by
      have h1 : m * 2 ^ up ≤ 2 ^ (m.log2 + 1) * 2 ^ up := Nat.mul_le_mul_right _ (Nat.le_of_lt hlog2)
      have h2 : 2 ^ (m.log2 + 1) * 2 ^ up ≤ 2 ^ (F + 1) := by
        rw [← Nat.pow_add]
        exact Nat.pow_le_pow_right (by decide) (by omega)
      rw [Nat.pow_succ 2 F, ← hBF] at h2
      omega
    have hLq : 0 < L → B ≤ m * 2 ^ up := fun hL => by
      have h1 : B ≤ 2 ^ m.log2 * 2 ^ up := by
        rw [hBF, ← Nat.pow_add]
        exact Nat.pow_le_pow_right (by decide) (by omega)
      have h2 : 2 ^ m.log2 * 2 ^ up ≤ m * 2 ^ up := Nat.mul_le_mul_right _ hlog1
      omega
    have hr : L * B + m * 2 ^ up < I := by
      have h1 : L + 2 ≤ (i + 2 - f.leastPlace).toNat := by omega
      have h2 : (L + 2) * B ≤ (i + 2 - f.leastPlace).toNat * B := Nat.mul_le_mul_right _ h1
      rw [Nat.add_mul] at h2
      omega
    obtain ⟨m', i', h1, h2⟩ := rung_read f B I S hB hI hS hIS hB0 s L _ hq hLq hr
    rw [Nat.min_eq_left (Nat.le_of_lt hr)]
    refine ⟨s, m', i', h1, hsg _ _ ?_⟩
    have hPL : f.leastPlace + (L : Int) = last := by omega
    rw [hPL] at h2
    rw [h2, Rat.natCast_mul]
    have e2 : (2 : Rat) ^ i = ((2 ^ up : Nat) : Rat) * (2 : Rat) ^ last := by
      rw [← pw_nat, ← pw_add]; congr 1; omega
    rw [e2]
    grind
end
/-- What a 32-bit word that says a number holds. -/
theorem read32 (x : Nat) {s : Bool} {m : Nat} {i : Int} (h : FloatKind.f32.format.read x = .number s m i) : m < 16777216 ∧ -149 ≤ i ∧ i ≤ 104 := by
  have hB : FloatKind.f32.format.binade = 8388608 := by decide
  have hI : FloatKind.f32.format.infRung = 2139095040 := by decide
  have hP : FloatKind.f32.format.leastPlace = -149 := by decide
  unfold Ieee.Format.read at h
  simp only [hB, hI, hP] at h
  split at h
  · cases h; omega
  · split at h
    · cases h; omega
    · split at h <;> cases h
theorem wide_exact {x : Nat} {a : Rat} (hx : NV .f32 x a) : ∃ r, floatToFloatBits .f32 x .f64 = some r ∧ NV .f64 r a := by
  obtain ⟨s, m, i, ex, ev⟩ := hx
  obtain ⟨h1, h2, h3⟩ := read32 x ex
  obtain ⟨s', m', i', e, hv⟩ := round_exact FloatKind.f64.format 52 4503599627370496 9218868437227405312 9223372036854775808 rfl (by decide) (by decide) (by decide) (by decide) (by decide) s m i (by omega) (by show (-1074 : Int) ≤ i; omega) (by
    have e1 : FloatKind.f64.format.leastPlace = -1074 := by decide
    rw [e1]
    have e2 : (i + 2 - -1074).toNat ≤ 1180 := by omega
    have := Nat.mul_le_mul_right 4503599627370496 e2
    omega)
  refine ⟨_, ?_, s', m', i', e, hv.trans ev⟩
  unfold floatToFloatBits
  rw [if_neg (by decide)]
  have hd : FloatKind.f32.decode x = .number s m i := ex
  rw [hd]
  simp only
  have hd2 : FloatKind.f64.decode (FloatKind.f64.encode (.number s m i)) = .number s' m' i' := e
  rw [hd2]
  rfl
end Go.Proofs.Ytlilhebnbhlkhaa
namespace Go.Proofs.Ytlilhebnbhlkhaa
open Go.RowKit
theorem block_of_add (a : Addr) (n : Nat) : (a.add n).block = a.block := by unfold Addr.add; split <;> rfl
/-- The slice value with the address A and n elements of 'size' cells holds the cells xs, and lies below block B. -/
def Reads (w : World) (B size : Nat) (A : Option Addr) (n : Nat) (xs : List Value) : Prop :=
  xs.length = n * size ∧ (0 < n → ∃ ad, A = some ad ∧ ad.block < B ∧ ∀ j u, xs[j]? = some u → w.cell? (ad.add j) = some u)
section
variable {w w' : World} {B B' size n : Nat} {A : Option Addr} {xs : List Value}
theorem Reads.none_ : Reads w B size A 0 [] := ⟨by simp, fun h => absurd h (by omega)⟩
theorem Reads.at_ {k : Nat} (h : Reads w B 1 A n xs) (hk : k < n) : ∃ ad u, A = some ad ∧ ad.block < B ∧ xs[k]? = some u ∧ w.cell? (ad.add k) = some u := by
  obtain ⟨ad, e, hb, hc⟩ := h.2 (by omega)
  have hl : k < xs.length := by have := h.1; omega
  exact ⟨ad, xs[k], e, hb, List.getElem?_eq_getElem hl, hc k _ (List.getElem?_eq_getElem hl)⟩
theorem Reads.keep (h : Reads w B size A n xs) (hk : ∀ p : Addr, p.block < B → w'.cell? p = w.cell? p) : Reads w' B size A n xs :=
  ⟨h.1, fun hn => by
    obtain ⟨ad, e, hb, hc⟩ := h.2 hn
    exact ⟨ad, e, hb, fun j u hu => (hk _ (by rw [block_of_add]; exact hb)).trans (hc j u hu)⟩⟩
theorem Reads.more (h : Reads w B size A n xs) (hB : B ≤ B') : Reads w B' size A n xs :=
  ⟨h.1, fun hn => by
    obtain ⟨ad, e, hb, hc⟩ := h.2 hn
    exact ⟨ad, e, by omega, hc⟩⟩
theorem Reads.below (h : Reads w B size A n xs) (hb : Below B w w') : Reads w' B size A n xs := h.keep fun _ hp => hb.cell hp
theorem Reads.drewN (h : Reads w B size A n xs) (k : Nat) : Reads (w.drewN k) B size A n xs := h
end
/-- What a call turns lies from block lo on and below block hi; what is older and lies elsewhere is as it was. -/
structure Kp (lo hi : Nat) (w w' : World) : Prop where
  os : w'.os = w.os
  tape : w'.tape = w.tape
  output : w'.output = w.output
  size : w.heap.size ≤ w'.heap.size
  block : ∀ k, k < w.heap.size → (k < lo ∨ hi ≤ k) → w'.heap[k]? = w.heap[k]?
theorem Kp.refl (lo hi : Nat) (w : World) : Kp lo hi w w := ⟨rfl, rfl, rfl, Nat.le_refl _, fun _ _ _ => rfl⟩
theorem Kp.of_below {lo hi : Nat} {w w' : World} (h : Below w.heap.size w w') : Kp lo hi w w' := ⟨h.os, h.tape, h.output, h.size, fun k hk _ => h.block k hk⟩
theorem Kp.below {lo hi B : Nat} {w w' : World} (h : Kp lo hi w w') (hB : B ≤ lo) (hs : B ≤ w.heap.size) : Below B w w' := ⟨h.os, h.tape, h.output, h.size, fun k hk => h.block k (by omega) (.inl (by omega))⟩
theorem Kp.trans {lo hi : Nat} {a b c : World} (h : Kp lo hi a b) (k : Kp lo hi b c) : Kp lo hi a c :=
  ⟨k.os.trans h.os, k.tape.trans h.tape, k.output.trans h.output, Nat.le_trans h.size k.size, fun i hi hj => (k.block i (Nat.lt_of_lt_of_le hi h.size) hj).trans (h.block i hi hj)⟩
theorem Kp.drewN {lo hi : Nat} {a b : World} (h : Kp lo hi a b) (n : Nat) : Kp lo hi a (b.drewN n) := ⟨h.os, h.tape, h.output, h.size, h.block⟩
theorem Kp.setCell {lo hi : Nat} {a b : World} (h : Kp lo hi a b) {p : Addr} (hp : lo ≤ p.block ∧ p.block < hi) (u : Value) : Kp lo hi a (b.setCell p u) :=
  h.trans ⟨rfl, rfl, rfl, by simp [World.setCell], fun k _ hk => Below.heap_setCell _ _ _ _ (by omega)⟩
theorem below_drewN {B : Nat} {a w : World} (h : Below B a w) (n : Nat) : Below B a (w.drewN n) := ⟨h.os, h.tape, h.output, h.size, h.block⟩
/-- A slice in memory: its cells begin a block from lo on and below hi, of elements of type E, none of which is frozen; they are xs. -/
def Own (w : World) (lo hi : Nat) (E : TypeId) (A : Option Addr) (xs : List Value) : Prop :=
  xs = [] ∨ ∃ g cur, A = some ⟨g, 0, none⟩ ∧ lo ≤ g ∧ g < hi ∧ w.heap[g]? = some (.cells cur E (0, 0)) ∧ xs.length ≤ cur.size ∧ cur.toList.take xs.length = xs
section
variable {w w' : World} {lo hi lo' hi' : Nat} {E : TypeId} {A : Option Addr} {xs : List Value}
theorem Own.reads (h : Own w lo hi E A xs) : Reads w hi 1 A xs.length xs := by
  refine ⟨by simp, fun hn => ?_⟩
  rcases h with rfl | ⟨g, cur, rfl, h1, h2, h3, h4, h5⟩
  · simp at hn
  · refine ⟨_, rfl, h2, fun j u hu => ?_⟩
    have hadd : (⟨g, 0, none⟩ : Addr).add j = ⟨g, j, none⟩ := by unfold Addr.add; split <;> simp_all
    rw [hadd, cell_of_row w g j cur E (0, 0) h3]
    have hj : j < xs.length := (List.getElem?_eq_some_iff.1 hu).1
    rw [← h5, List.getElem?_take, if_pos hj] at hu
    simpa using hu
theorem Own.reads' {B n : Nat} (h : Own w lo hi E A xs) (hB : hi ≤ B) (hn : xs.length = n) : Reads w B 1 A n xs := by
  subst hn; exact h.reads.more hB
theorem Own.keep (h : Own w lo hi E A xs) (hk : ∀ g, lo ≤ g → g < hi → g < w.heap.size → w'.heap[g]? = w.heap[g]?) : Own w' lo hi E A xs := by
  rcases h with rfl | ⟨g, cur, rfl, h1, h2, h3, h4, h5⟩
  · exact .inl rfl
  · exact .inr ⟨g, cur, rfl, h1, h2, (hk g h1 h2 (by
      rcases Nat.lt_or_ge g w.heap.size with h | h
      · exact h
      · rw [Array.getElem?_eq_none h] at h3; cases h3)).trans h3, h4, h5⟩
theorem Own.below {B : Nat} (h : Own w lo hi E A xs) (hb : Below B w w') (hB : hi ≤ B) : Own w' lo hi E A xs :=
  h.keep fun g _ h2 _ => hb.block g (by omega)
theorem Own.wide (h : Own w lo hi E A xs) (h1 : lo' ≤ lo) (h2 : hi ≤ hi') : Own w lo' hi' E A xs := by
  rcases h with rfl | ⟨g, cur, rfl, a, b, c⟩
  · exact .inl rfl
  · exact .inr ⟨g, cur, rfl, by omega, by omega, c⟩
theorem Own.of_row {base : Nat} {v : Value} {n : Nat} (h : w.ownsRow base E 1 v n xs) (hB : w.heap.size ≤ hi) : ∃ A c, v = .slice A n c ∧ n = xs.length ∧ n ≤ c ∧ Own w base hi E A xs := by
  obtain ⟨h1, h2⟩ := h
  rcases h2 with ⟨rfl, rfl⟩ | ⟨g, cap, cur, rfl, hg, hh, hn, hcap, hsz, ht⟩
  · have : xs = [] := List.eq_nil_of_length_eq_zero (by simpa using h1)
    exact ⟨none, 0, rfl, by rw [this]; rfl, Nat.le_refl _, .inl this⟩
  · refine ⟨_, cap, rfl, by omega, hn, .inr ⟨g, cur, rfl, hg, ?_, hh, by omega, by rw [show xs.length = n * 1 from h1]; exact ht⟩⟩
    have := (Array.getElem?_eq_some_iff.1 hh).1
    omega
end
/-- A block of the call's own that is known whole. -/
def Blk (w : World) (g : Nat) (t : TypeId) (cs : Array Value) : Prop := w.heap[g]? = some (.cells cs t (0, 0))
section
variable {w w' : World} {g : Nat} {t : TypeId} {cs : Array Value}
theorem Blk.lt (h : Blk w g t cs) : g < w.heap.size := by
  rcases Nat.lt_or_ge g w.heap.size with hlt | hge
  · exact hlt
  · unfold Blk at h; rw [Array.getElem?_eq_none hge] at h; cases h
theorem Blk.cell (h : Blk w g t cs) (i : Nat) : w.cell? ⟨g, i, none⟩ = cs[i]? := cell_of_row w g i cs t (0, 0) h
theorem Blk.frozen (h : Blk w g t cs) (i : Nat) : w.frozen? ⟨g, i, none⟩ = false := by
  unfold Blk at h
  simp [World.frozen?, h]
theorem Blk.drewN (h : Blk w g t cs) (n : Nat) : Blk (w.drewN n) g t cs := h
theorem Blk.set_ (h : Blk w g t cs) (i : Nat) (u : Value) : Blk (w.setCell ⟨g, i, none⟩ u) g t (cs.setIfInBounds i u) := by
  unfold Blk at h ⊢
  simp [World.setCell, Array.getElem?_modify, h]
theorem Blk.below {B : Nat} (h : Blk w g t cs) (hb : Below B w w') (hg : g < B) : Blk w' g t cs := (hb.block g hg).trans h
theorem blk_of_row {base n c : Nat} {xs : List Value} (h : w.ownsRow base t 1 (.slice (some ⟨g, 0, none⟩) n c) n xs) : ∃ cs, Blk w g t cs ∧ cs.size = c ∧ cs.toList.take n = xs ∧ n ≤ c := by
  rcases h.2 with ⟨h, _⟩ | ⟨g', cap, cur, e, _, hh, hn, _, hsz, ht⟩
  · cases h
  · injection e with e1 e2 e3
    injection e1 with e1
    injection e1 with e1
    subst e1; subst e3
    exact ⟨cur, hh, by omega, by simpa using ht, hn⟩
end
end Go.Proofs.Ytlilhebnbhlkhaa
namespace Go.Proofs.Ytlilhebnbhlkhaa
open Go.RowKit
@[go_sem] theorem run_store_complex {P : Program} {w : World} {a : Addr} {m : Mode} (k : FloatKind) (x y : Nat) : (store a (.complex k x y) m).run P w = stored P w a (.complex k x y) m := run_store P w a _ m rfl
/-- Complex numbers as values in memory, by the bits of their parts. -/
def cplx (l : List (Nat × Nat)) : List Value := l.map fun z => Value.complex .f32 z.1 z.2
@[simp] theorem cplx_len (l : List (Nat × Nat)) : (cplx l).length = l.length := by simp [cplx]
theorem cplx_at {l : List (Nat × Nat)} {k : Nat} (h : k < l.length) : (cplx l)[k]? = some (.complex .f32 (l.getD k (0, 0)).1 (l.getD k (0, 0)).2) := by
  simp [cplx, List.getD, List.getElem?_eq_getElem h]
theorem comp_at {w : World} {B : Nat} {A : Option Addr} {l : List (Nat × Nat)} {k : Nat} (h : Reads w B 1 A l.length (cplx l)) (hk : k < l.length) :
    ∃ ad, A = some ad ∧ ad.block < B ∧ w.cell? (ad.add k) = some (.complex .f32 (l.getD k (0, 0)).1 (l.getD k (0, 0)).2) := by
  obtain ⟨ad, u, e, hb, hu, hc⟩ := h.at_ hk
  rw [cplx_at hk] at hu
  cases hu
  exact ⟨ad, e, hb, hc⟩
end Go.Proofs.Ytlilhebnbhlkhaa
namespace Go.Proofs.Ytlilhebnbhlkhaa
open Go.RowKit
/-- A 32-bit number is finite: less itself it is 0. -/
def fin32B (x : Nat) : Bool := decide (floatBits .sub .f32 x x = some 0)
theorem sub_cases (x : Nat) : floatBits .sub .f32 x x = some 0 ∨ floatBits .sub .f32 x x = none := by
  have hd : floatBits .sub .f32 x x = ((FloatKind.f32.format.read x).sum (FloatKind.f32.format.read x).opposite).map FloatKind.f32.format.write := rfl
  rw [hd]
  cases FloatKind.f32.format.read x with
  | nan s t => exact .inr rfl
  | infinity s => cases s <;> exact .inr rfl
  | number s m i =>
    left
    have h0 : ∀ k, Ieee.signed s m k + Ieee.signed (!s) m k = 0 := fun k => by cases s <;> simp [Ieee.signed] <;> omega
    simp only [Ieee.Datum.opposite, Ieee.Datum.sum, h0]
    cases s <;> rfl
theorem sub_yes {x : Nat} (h : fin32B x = true) : floatBits .sub .f32 x x = some 0 := by unfold fin32B at h; exact of_decide_eq_true h
theorem sub_no {x : Nat} (h : fin32B x = false) : floatBits .sub .f32 x x = none := by
  rcases sub_cases x with e | e
  · unfold fin32B at h; rw [e] at h; simp at h
  · exact e
theorem read_cases (x : Nat) : (∃ s m i, FloatKind.f32.format.read x = .number s m i ∧ m < 16777216 ∧ -149 ≤ i ∧ i ≤ 104) ∨ (∃ s, FloatKind.f32.format.read x = .infinity s) ∨ ∃ s t, FloatKind.f32.format.read x = .nan s t := by
  have hB : FloatKind.f32.format.binade = 8388608 := by decide
  have hI : FloatKind.f32.format.infRung = 2139095040 := by decide
  have hP : FloatKind.f32.format.leastPlace = -149 := by decide
  unfold Ieee.Format.read
  simp only [hB, hI, hP]
  split
  · left; exact ⟨_, _, _, rfl, by omega, by omega, by omega⟩
  · split
    · left; exact ⟨_, _, _, rfl, by omega, by omega, by omega⟩
    · split
      · right; left; exact ⟨_, rfl⟩
      · right; right; exact ⟨_, _, rfl⟩
theorem fin_number {x : Nat} (h : fin32B x = true) : ∃ s m i, FloatKind.f32.format.read x = .number s m i ∧ m < 16777216 ∧ -149 ≤ i ∧ i ≤ 104 := by
  have h1 := sub_yes h
  have hd : floatBits .sub .f32 x x = ((FloatKind.f32.format.read x).sum (FloatKind.f32.format.read x).opposite).map FloatKind.f32.format.write := rfl
  rw [hd] at h1
  rcases read_cases x with h | ⟨s, h⟩ | ⟨s, t, h⟩
  · exact h
  · rw [h] at h1
    cases s <;> simp [Ieee.Datum.opposite, Ieee.Datum.sum] at h1
  · rw [h] at h1
    simp [Ieee.Datum.sum] at h1
theorem cut_none (s : Bool) (n : Nat) : Ieee.Toward.even.cut s n 0 = n := by
  simp [Ieee.Toward.cut, Nat.mod_one]
/-- The nearest word, by the format's numbers. -/
def near (F B I : Nat) (P : Int) (m : Nat) (i : Int) : Nat :=
  min ((max (i + (m.log2 : Int) - (F : Int)) P - P).toNat * B + Ieee.Toward.even.cut false (m <<< (i - max (i + (m.log2 : Int) - (F : Int)) P).toNat) (max (i + (m.log2 : Int) - (F : Int)) P - i).toNat) I
theorem nearest_near (f : Ieee.Format) (s : Bool) (m : Nat) (i : Int) (h0 : ¬ m = 0) : f.nearest s m i = f.word s (near f.fractionBits f.binade f.infRung f.leastPlace m i) := by
  unfold Ieee.Format.nearest
  rw [if_neg h0]
  rfl
theorem near_lt (m : Nat) (i : Int) (h0 : ¬ m = 0) (hm : m < 16777216) (h1 : -149 ≤ i) (h2 : i ≤ 104) : near 52 4503599627370496 9218868437227405312 (-1074) m i < 9218868437227405312 := by
  have hl : m.log2 < 24 := (Nat.log2_lt h0).2 hm
  have hk : m <<< (52 - m.log2) < 9007199254740992 := by
    rw [Nat.shiftLeft_eq]
    have h3 : m < 2 ^ (m.log2 + 1) := Nat.lt_log2_self
    have h4 : m * 2 ^ (52 - m.log2) < 2 ^ (m.log2 + 1) * 2 ^ (52 - m.log2) := Nat.mul_lt_mul_of_pos_right h3 (Nat.two_pow_pos _)
    rw [← Nat.pow_add, show m.log2 + 1 + (52 - m.log2) = 53 by omega] at h4
    exact h4
  have hlast : max (i + (m.log2 : Int) - ((52 : Nat) : Int)) (-1074) = i + m.log2 - 52 := by omega
  unfold near
  rw [hlast]
  have e1 : (i - (i + (m.log2 : Int) - 52)).toNat = 52 - m.log2 := by omega
  have e2 : ((i + (m.log2 : Int) - 52) - i).toNat = 0 := by omega
  rw [e1, e2, cut_none]
  generalize m <<< (52 - m.log2) = n at *
  omega
theorem wide_num (s : Bool) (m : Nat) (i : Int) (hm : m < 16777216) (h1 : -149 ≤ i) (h2 : i ≤ 104) :
    ∃ r, r < 9218868437227405312 ∧ FloatKind.f64.format.write (.number s m i) = FloatKind.f64.format.word s r := by
  have hF : FloatKind.f64.format.fractionBits = 52 := rfl
  have hP : FloatKind.f64.format.leastPlace = -1074 := by decide
  have hB : FloatKind.f64.format.binade = 4503599627370496 := by decide
  have hI : FloatKind.f64.format.infRung = 9218868437227405312 := by decide
  have hw : FloatKind.f64.format.write (.number s m i) = FloatKind.f64.format.nearest s m i := rfl
  rw [hw]
  by_cases h0 : m = 0
  · refine ⟨0, by omega, ?_⟩
    unfold Ieee.Format.nearest
    rw [if_pos h0]
  · refine ⟨_, near_lt m i h0 hm h1 h2, ?_⟩
    rw [nearest_near _ _ _ _ h0, hF, hP, hB, hI]
theorem read_word (s : Bool) (r : Nat) (h : r < 9218868437227405312) : ∃ t m i, FloatKind.f64.format.read (FloatKind.f64.format.word s r) = .number t m i := by
  have hB : FloatKind.f64.format.binade = 4503599627370496 := by decide
  have hI : FloatKind.f64.format.infRung = 9218868437227405312 := by decide
  have hS : FloatKind.f64.format.signWeight = 9223372036854775808 := by decide
  have hw : FloatKind.f64.format.word s r % 9223372036854775808 = r := by
    unfold Ieee.Format.word
    rw [hS]
    split <;> omega
  unfold Ieee.Format.read
  simp only [hB, hI, hS, hw]
  split
  · exact ⟨_, _, _, rfl⟩
  · exact ⟨_, _, _, rfl⟩
theorem fin_wide {x : Nat} (h : fin32B x = true) : ∃ y, floatToFloatBits .f32 x .f64 = some y ∧ FloatKind.f64.format.order y y = some .eq := by
  obtain ⟨s, m, i, hr, hm, h1, h2⟩ := fin_number h
  obtain ⟨r, hr1, hr2⟩ := wide_num s m i hm h1 h2
  obtain ⟨t, m', i', hr3⟩ := read_word s r hr1
  refine ⟨FloatKind.f64.format.word s r, ?_, ?_⟩
  · unfold floatToFloatBits
    rw [if_neg (by decide)]
    have hd : FloatKind.f32.decode x = .number s m i := hr
    rw [hd]
    have he : FloatKind.f64.encode (.number s m i) = FloatKind.f64.format.word s r := hr2
    have hd2 : FloatKind.f64.decode (FloatKind.f64.format.word s r) = .number t m' i' := hr3
    simp only [he, hd2]
    rfl
  · unfold Ieee.Format.order
    rw [hr3]
    simp [Ieee.Datum.order]
end Go.Proofs.Ytlilhebnbhlkhaa
namespace Go.Proofs.Ytlilhebnbhlkhaa
open Go.RowKit
theorem ar32 (op : BinOp) (x y r : Nat) (h : floatBits op .f32 x y = some r) (w : World) : (binOp op 36 (.float .f32 x) (.float .f32 y)).run Try.prog w = .ok (.float .f32 r) w := run_float_arith w op _ _ x y r h
/-- The word that a difference without an answer gives: one that is no number. -/
def nanAt (x : Nat) (w : World) : Nat := Question.cut (.nanBits .f32 x x) (w.tape w.drawn (.nanBits .f32 x x))
theorem nan_run (x : Nat) (h : floatBits .sub .f32 x x = none) (w : World) : (binOp .sub 36 (.float .f32 x) (.float .f32 x)).run Try.prog w = .ok (.float .f32 (nanAt x w)) w.drew := by
  have h1 : FloatKind.f32.format.sub x x = none := h
  simp [binOp, Op.floatArith, h1, nanAt, Question.forced]
theorem nan_order (x : Nat) (w : World) (y : Nat) : FloatKind.f32.format.order (nanAt x w) y = none := by
  obtain ⟨t, ht⟩ : ∃ t, t = w.tape w.drawn (.nanBits .f32 x x) := ⟨_, rfl⟩
  unfold nanAt
  rw [← ht]
  have hB : FloatKind.f32.format.binade = 8388608 := by decide
  have hI : FloatKind.f32.format.infRung = 2139095040 := by decide
  have hS : FloatKind.f32.format.signWeight = 2147483648 := by decide
  have hr : ∃ s u, FloatKind.f32.format.read (Question.cut (.nanBits .f32 x x) t) = .nan s u := by
    show ∃ s u, FloatKind.f32.format.read (t % 2 * 2 ^ 31 + 0x7f800000 + 1 + t / 2 % (2 ^ 23 - 1)) = .nan s u
    unfold Ieee.Format.read
    simp only [hB, hI, hS]
    have h1 : (t % 2 * 2 ^ 31 + 0x7f800000 + 1 + t / 2 % (2 ^ 23 - 1)) % 2147483648 = 2139095041 + t / 2 % 8388607 := by omega
    rw [h1, if_neg (by omega), if_neg (by omega), if_neg (by omega)]
    exact ⟨_, _, rfl⟩
  obtain ⟨s, u, hr⟩ := hr
  unfold Ieee.Format.order
  rw [hr]
  rfl
theorem below_drew {B : Nat} {a w : World} (h : Below B a w) : Below B a w.drew := ⟨h.os, h.tape, h.output, h.size, h.block⟩
theorem isFinite_b (x : Nat) (w : World) :
    Calls Try.prog 113 #[.float .f32 x] w fun e w' => e = .returned (.bool (fin32B x)) ∧ Below w.heap.size w w' := by
  cases h : fin32B x with
  | true =>
    have k1 := ar32 _ _ _ _ (sub_yes h)
    have k2 : (FloatKind.f32.format.order 0 0 == some .eq) = true := by decide +kernel
    clear h
    go_enter Try.func113, Try.ntmps113
    go_wp2
    go_ret
    exact ⟨rfl, Below.refl _ _⟩
  | false =>
    have k1 := nan_run x (sub_no h)
    have k2 : ∀ w, (FloatKind.f32.format.order (nanAt x w) 0 == some .eq) = false := fun w => by rw [nan_order]; rfl
    clear h
    go_enter Try.func113, Try.ntmps113
    go_wp2
    go_ret
    exact ⟨rfl, below_drew (Below.refl _ _)⟩
theorem areFinite1_b (x : Nat) (w : World) :
    Calls Try.prog 112 #[.float .f32 x] w fun e w' => e = .returned (.bool (!fin32B x)) ∧ Below w.heap.size w w' := by
  have H := isFinite_b x w
  generalize fin32B x = b at *
  go_enter Try.func112, Try.ntmps112
  go_wp2_with fail
  refine H.mono ?_
  rintro e w1 ⟨rfl, hb⟩
  go_wp2
  go_ret
  exact ⟨rfl, hb⟩
/-- The place of the first of two that is not finite; -1 if there is none. -/
def ix2 : Bool → Bool → Int
  | false, _ => 0
  | true, false => 1
  | true, true => -1
theorem indexFunc32_b (ad : Addr) (c x y : Nat) (w : World) (h0 : w.cell? ad = some (.float .f32 x)) (h1 : w.cell? (ad.add 1) = some (.float .f32 y)) :
    Calls Try.prog 116 #[.slice (some ad) 2 c, .func (.func 112) #[] #[]] w fun e w' => e = .returned (.int .i64 (ix2 (fin32B x) (fin32B y))) ∧ Below w.heap.size w w' := by
  have HX := areFinite1_b x w
  have HY := fun W => areFinite1_b y W
  have h0' : w.cell? (ad.add 0) = some (.float .f32 x) := by simpa [Addr.add] using h0
  have h1' : w.cell? { block := ad.block, off := ad.off + 1 } = some (.float .f32 y) := by simpa [Addr.add] using h1
  have hlt := World.block_lt_of_cell? w _ h0
  generalize fin32B x = bx at *
  generalize fin32B y = by_ at *
  cases bx with
  | false =>
    clear HY h1 h1'
    go_enter Try.func116, Try.ntmps116
    go_wp2
    refine wp_loop_rounds 3 ?_
    rw [rounds_succ]
    go_wp2_with fail
    refine HX.mono ?_
    rintro e w1 ⟨rfl, hb⟩
    go_wp2
    go_ret
    exact ⟨rfl, hb⟩
  | true =>
    go_enter Try.func116, Try.ntmps116
    go_wp2
    refine wp_loop_rounds 3 ?_
    rw [rounds_succ]
    go_wp2_with fail
    refine HX.mono ?_
    rintro e w1 ⟨rfl, hb⟩
    have h2 : w1.cell? { block := ad.block, off := ad.off + 1 } = some (.float .f32 y) := (hb.cell (p := ⟨ad.block, ad.off + 1, none⟩) hlt).trans h1'
    have h3 : w1.cell? (ad.add 1) = some (.float .f32 y) := (hb.cell (by rw [block_of_add]; exact hlt)).trans h1
    have HY1 := HY w1
    clear HX HY h0 h0' h1 h1'
    go_wp2_with fail
    rw [rounds_succ]
    go_wp2_with fail
    refine HY1.mono ?_
    rintro e w2 ⟨rfl, hb2⟩
    have hb12 := hb.trans (hb2.mono hb.size)
    clear HY1 h2 h3
    cases by_ with
    | false =>
      go_wp2
      go_ret
      exact ⟨rfl, hb12⟩
    | true =>
      go_wp2_with fail
      rw [rounds_succ]
      go_wp2
      go_ret
      exact ⟨rfl, hb12⟩
end Go.Proofs.Ytlilhebnbhlkhaa
namespace Go.Proofs.Ytlilhebnbhlkhaa
open Go.RowKit
abbrev fb (op : BinOp) (x y : Nat) : Option Nat := floatBits op .f32 x y
/-- The rule of the polynomials of kind 2. -/
def ruleO (k : Nat) : Option (Nat × Nat) :=
  (fb .mul 1073741824 (floatOfInt .f32 (k : Int))).bind fun u1 => (fb .add u1 1065353216).bind fun u2 => (fb .add (floatOfInt .f32 (k : Int)) 1065353216).bind fun d =>
  (fb .quo u2 d).bind fun a => (fb .quo (floatOfInt .f32 (k : Int)) d).bind fun c => some (a, c)
def rstepO (x a c one before : Nat) : Option Nat :=
  (fb .mul a x).bind fun m1 => (fb .add m1 0).bind fun m2 => (fb .mul m2 one).bind fun m3 => (fb .mul c before).bind fun m4 => fb .sub m3 m4
/-- The row of a number: its values and the last but one. -/
def rowO (x : Nat) : Nat → Option (List Nat × Nat)
  | 0 => some ([1065353216], 0)
  | k + 1 => (rowO x k).bind fun r => (ruleO k).bind fun q => (rstepO x q.1 q.2 (r.1.getD k 0) r.2).bind fun y => some (r.1 ++ [y], r.1.getD k 0)
def slopeO (n x : Nat) : Option (Nat × Nat) :=
  (rowO x n).bind fun r => (fb .mul x (r.1.getD n 0)).bind fun t1 => (fb .sub t1 (r.1.getD (n - 1) 0)).bind fun t2 => (fb .mul (floatOfInt .f32 (n : Int)) t2).bind fun t3 =>
  (fb .mul x x).bind fun t4 => (fb .sub t4 1065353216).bind fun t5 => (fb .quo t3 t5).bind fun s => some (r.1.getD n 0, s)
def nstepO (n x : Nat) : Option Nat := (slopeO n x).bind fun q => (fb .quo q.1 q.2).bind fun d => fb .sub x d
end Go.Proofs.Ytlilhebnbhlkhaa
namespace Go.Proofs.Ytlilhebnbhlkhaa
open Go.RowKit
section
variable {P : Program} (w : World)
theorem run_append_of_nil (base : Nat) (t ty e : TypeId) (i : TypeInfo) (size : Nat) (ht : P.underlying t = some (.slice e)) (hi : P.info? e = some i)
    (v : Value) (n : Nat) (xs : List Value) (hown : w.ownsRow base e size v n xs) (c : Nat) : (Builtin.append_ #[t, t] ty #[v, .slice none 0 c]).run P w = .ok v w := by
  rcases hown.2 with ⟨rfl, rfl⟩ | ⟨g, cap, cur, rfl, _, _, hnc, _⟩
  · simp [Builtin.append_, run_underlying ht, sizeOf, typeInfo, hi, Builtin.lenOf, Builtin.firstCells]
  · simp [Builtin.append_, run_underlying ht, sizeOf, typeInfo, hi, Builtin.lenOf, Builtin.firstCells, hnc, storeCells]
theorem run_append_any (base : Nat) (t ty e : TypeId) (i : TypeInfo) (z : Value) (size bytes : Nat) (ht : P.underlying t = some (.slice e)) (hi : P.info? e = some i) (hz : i.zero = some z)
    (hsize : i.size = size) (hby : i.bytes = bytes) (hzs : z.cells.size = size) (hsz : 0 < size)
    (v : Value) (n : Nat) (xs : List Value) (hown : w.ownsRow base e size v n xs)
    (B : Nat) (A : Option Addr) (m c : Nat) (news : List Value) (hr : Reads w B size A m news) (h1 : ∀ u ∈ news, u.oneCell' = true)
    (h63 : n + m ≤ maxLen) (hbytes : (n + m) * bytes ≤ 140737488355328) (hbase : base ≤ w.heap.size) :
    ∃ v' w', (Builtin.append_ #[t, t] ty #[v, .slice A m c]).run P w = .ok v' w' ∧ w'.ownsRow base e size v' (n + m) (xs ++ news) ∧ w.grownBy w' v.ownBlock ∧
      (v'.ownBlock = v.ownBlock ∨ v'.ownBlock = some w.heap.size) := by
  rcases A with _ | ad
  · have hm : m = 0 := by
      rcases Nat.eq_zero_or_pos m with h0 | h0
      · exact h0
      · obtain ⟨ad, h, _⟩ := hr.2 h0
        cases h
    subst hm
    have hn : news = [] := List.eq_nil_of_length_eq_zero (by simpa using hr.1)
    subst hn
    exact ⟨v, w, run_append_of_nil w base t ty e i size ht hi v n xs hown c, by simpa using hown, World.grownBy.refl w _, .inl rfl⟩
  · have hcells : ∀ j u, news[j]? = some u → w.cell? (ad.add j) = some u := by
      intro j u hu
      rcases Nat.eq_zero_or_pos m with h0 | h0
      · subst h0
        have hn : news = [] := List.eq_nil_of_length_eq_zero (by simpa using hr.1)
        subst hn
        simp at hu
      · obtain ⟨ad', h, _, hc⟩ := hr.2 h0
        injection h with h
        subst h
        exact hc j u hu
    obtain ⟨v', w', hrun, h2, h3, _, h5⟩ := run_append_own_at (P := P) w base t ty e i z size bytes ht hi hz hsize hby hzs hsz v n xs hown ad m c news hr.1 hcells h1 h63 hbytes hbase
    exact ⟨v', w', hrun, h2, h3, h5⟩
theorem wp_append_any {o : Oper} {a : Act} {K : Act → World → Prop} {Q : Exit → Act → World → Prop} (s x : Operand) (t : TypeId)
    (ho : o.op = .call { callee := .builtin .append, args := #[s, x], argTypes := #[t, t] })
    (base : Nat) (e : TypeId) (i : TypeInfo) (z : Value) (size bytes : Nat) (ht : P.underlying t = some (.slice e)) (hi : P.info? e = some i) (hz : i.zero = some z)
    (hsize : i.size = size) (hby : i.bytes = bytes) (hzs : z.cells.size = size) (hsz : 0 < size)
    (v : Value) (n : Nat) (xs : List Value) (hs : a.eval s = v) (hown : w.ownsRow base e size v n xs)
    (B : Nat) (A : Option Addr) (m c : Nat) (news : List Value) (hx : a.eval x = .slice A m c) (hr : Reads w B size A m news) (h1 : ∀ u ∈ news, u.oneCell' = true)
    (h63 : n + m ≤ maxLen) (hbytes : (n + m) * bytes ≤ 140737488355328) (hbase : base ≤ w.heap.size)
    (h : ∀ v' w', w'.ownsRow base e size v' (n + m) (xs ++ news) → w.grownBy w' v.ownBlock → (v'.ownBlock = v.ownBlock ∨ v'.ownBlock = some w.heap.size) → K (a.put o.dst v') w') : o.wp P a w K Q := by
  obtain ⟨v', w', hrun, h2, h3, h4⟩ := run_append_any (P := P) w base t o.type e i z size bytes ht hi hz hsize hby hzs hsz v n xs hown B A m c news hr h1 h63 hbytes hbase
  unfold Oper.wp execOp
  simp only [ho, resolve, invoke, builtin, Sem.run_bind, Sem.run_pure, Result.andThen_ok, List.map_toArray, List.map_cons, List.map_nil, hs, hx, hrun]
  exact h v' w' h2 h3 h4
theorem wpList_append_any {ops : Array Oper} {rest : List Oper} {o : Oper} {a : Act} {Q : Exit → Act → World → Prop} (hgd : o.guard = none) (s x : Operand) (t : TypeId)
    (ho : o.op = .call { callee := .builtin .append, args := #[s, x], argTypes := #[t, t] })
    (base : Nat) (e : TypeId) (i : TypeInfo) (z : Value) (size bytes : Nat) (ht : P.underlying t = some (.slice e)) (hi : P.info? e = some i) (hz : i.zero = some z)
    (hsize : i.size = size) (hby : i.bytes = bytes) (hzs : z.cells.size = size) (hsz : 0 < size)
    (v : Value) (n : Nat) (xs : List Value) (hs : a.eval s = v) (hown : w.ownsRow base e size v n xs)
    (B : Nat) (A : Option Addr) (m c : Nat) (news : List Value) (hx : a.eval x = .slice A m c) (hr : Reads w B size A m news) (h1 : ∀ u ∈ news, u.oneCell' = true)
    (h63 : n + m ≤ maxLen) (hbytes : (n + m) * bytes ≤ 140737488355328) (hbase : base ≤ w.heap.size)
    (h : ∀ v' w', w'.ownsRow base e size v' (n + m) (xs ++ news) → w.grownBy w' v.ownBlock → (v'.ownBlock = v.ownBlock ∨ v'.ownBlock = some w.heap.size) → wpList P ops Q rest (a.put o.dst v') w') : wpList P ops Q (o :: rest) a w :=
  wpList_plain hgd fun _ hK => wp_append_any w s x t ho base e i z size bytes ht hi hz hsize hby hzs hsz v n xs hs hown B A m c news hx hr h1 h63 hbytes hbase fun v' w' h2 h3 h4 => hK _ _ (h v' w' h2 h3 h4)
end
end Go.Proofs.Ytlilhebnbhlkhaa
namespace Go.Proofs.Ytlilhebnbhlkhaa
open Go.RowKit
theorem info_parts {P : Program} {e : TypeId} {z : Value} {s b : Nat} (h : (P.info? e).map (fun i => (i.zero, i.size, i.bytes)) = some (some z, s, b)) :
    ∃ i, P.info? e = some i ∧ i.zero = some z ∧ i.size = s ∧ i.bytes = b := by
  cases hi : P.info? e with
  | none => rw [hi] at h; cases h
  | some i =>
    rw [hi] at h
    simp at h
    exact ⟨i, rfl, h.1, h.2.1, h.2.2⟩
theorem reads_new (w : World) (cs : List Value) (E : TypeId) : Reads (w.alloc (.cells cs.toArray E)) (w.heap.size + 1) 1 (some ⟨w.heap.size, 0, none⟩) cs.length cs :=
  Own.reads (xs := cs) (lo := 0) (E := E) (.inr ⟨w.heap.size, _, rfl, by omega, by omega, heap_alloc_new w _, by simp, by simp⟩)
theorem ownsRow_kp {w w' : World} {base a b : Nat} {e : TypeId} {size : Nat} {v : Value} {n : Nat} {xs : List Value} (h : w.ownsRow base e size v n xs) (hk : Kp a b w w') (hd : b ≤ base) : w'.ownsRow base e size v n xs := by
  obtain ⟨h1, h2⟩ := h
  refine ⟨h1, ?_⟩
  rcases h2 with h2 | ⟨g, cap, cur, hv, hg, hh, r⟩
  · exact .inl h2
  · refine .inr ⟨g, cap, cur, hv, hg, (hk.block g ?_ (by omega)).trans hh, r⟩
    rcases Nat.lt_or_ge g w.heap.size with h | h
    · exact h
    · rw [Array.getElem?_eq_none h] at hh; cases hh
end Go.Proofs.Ytlilhebnbhlkhaa
namespace Go.Proofs.Ytlilhebnbhlkhaa
open Go.RowKit
theorem containsFunc32_b (ad : Addr) (c x y : Nat) (w : World) (h0 : w.cell? ad = some (.float .f32 x)) (h1 : w.cell? (ad.add 1) = some (.float .f32 y)) :
    Calls Try.prog 111 #[.slice (some ad) 2 c, .func (.func 112) #[] #[]] w fun e w' => e = .returned (.bool (!(fin32B x && fin32B y))) ∧ Below w.heap.size w w' := by
  have H := indexFunc32_b ad c x y w h0 h1
  clear h0 h1
  generalize fin32B x = bx at *
  generalize fin32B y = by_ at *
  go_enter Try.func111, Try.ntmps111
  go_wp2_with fail
  refine H.mono ?_
  rintro e w1 ⟨rfl, hb⟩
  cases bx <;> cases by_
  all_goals
    go_wp2
    go_ret
    exact ⟨rfl, hb⟩
theorem areFinite2_b (ad : Addr) (c x y : Nat) (w : World) (h0 : w.cell? ad = some (.float .f32 x)) (h1 : w.cell? (ad.add 1) = some (.float .f32 y)) :
    Calls Try.prog 107 #[.slice (some ad) 2 c] w fun e w' => e = .returned (.bool (fin32B x && fin32B y)) ∧ Below w.heap.size w w' := by
  have H := containsFunc32_b ad c x y w h0 h1
  clear h0 h1
  generalize (fin32B x && fin32B y) = b at *
  go_enter Try.func107, Try.ntmps107
  go_wp2_with fail
  refine H.mono ?_
  rintro e w1 ⟨rfl, hb⟩
  go_wp2
  go_ret
  exact ⟨by simp, hb⟩
/-- A complex number is finite. -/
def finCB (z : Nat × Nat) : Bool := fin32B z.1 && fin32B z.2
theorem isFiniteC_b (x y : Nat) (w : World) :
    Calls Try.prog 90 #[.complex .f32 x y] w fun e w' => e = .returned (.bool (finCB (x, y))) ∧ Below w.heap.size w w' := by
  have hb : (w.alloc (.cells #[.float .f32 x, .float .f32 y] 36)).heap[w.heap.size]? = some (.cells #[.float .f32 x, .float .f32 y] 36) := heap_alloc_new w _
  have H := areFinite2_b ⟨w.heap.size, 0, none⟩ 2 x y _ (by rw [cell_of_row _ _ 0 _ _ _ hb]; rfl) (by show World.cell? _ ⟨w.heap.size, 1, none⟩ = _; rw [cell_of_row _ _ 1 _ _ _ hb]; rfl)
  have hb0 : Below w.heap.size w (w.alloc (.cells #[.float .f32 x, .float .f32 y] 36)) := (Below.refl _ _).alloc (Nat.le_refl _) _
  have hF : finCB (x, y) = (fin32B x && fin32B y) := rfl
  rw [hF]
  clear hF hb
  generalize (fin32B x && fin32B y) = b at *
  go_enter Try.func90, Try.ntmps90
  go_wp2_with fail
  refine H.mono ?_
  rintro e w1 ⟨rfl, hb⟩
  go_wp2
  go_ret
  exact ⟨rfl, hb0.trans (hb.mono hb0.size)⟩
theorem allFinite1_b (x y : Nat) (w : World) :
    Calls Try.prog 89 #[.complex .f32 x y] w fun e w' => e = .returned (.bool (!finCB (x, y))) ∧ Below w.heap.size w w' := by
  have H := isFiniteC_b x y w
  generalize finCB (x, y) = b at *
  go_enter Try.func89, Try.ntmps89
  go_wp2_with fail
  refine H.mono ?_
  rintro e w1 ⟨rfl, hb⟩
  go_wp2
  go_ret
  exact ⟨rfl, hb⟩
/-- The place of the first number of a list, from a place on, that is not finite; -1 if there is none. -/
def ixC : Nat → List (Nat × Nat) → Int
  | _, [] => -1
  | k, z :: l => if finCB z then ixC (k + 1) l else (k : Int)
theorem ixC_step {l : List (Nat × Nat)} {k : Nat} (h : k < l.length) : ixC k (l.drop k) = if finCB (l.getD k (0, 0)) then ixC (k + 1) (l.drop (k + 1)) else (k : Int) := by
  rw [List.drop_eq_getElem_cons h, ixC, List.getD, List.getElem?_eq_getElem h]
  rfl
theorem ixC_all (k : Nat) (l : List (Nat × Nat)) : decide (0 ≤ ixC k l) = !l.all finCB := by
  induction l generalizing k with
  | nil => rfl
  | cons z l ih =>
    rw [ixC, List.all_cons]
    cases finCB z with
    | true => simpa using ih (k + 1)
    | false => simp
theorem indexFuncC_b (A : Option Addr) (c B : Nat) (l : List (Nat × Nat)) (w : World) (hr : Reads w B 1 A l.length (cplx l)) (hB : B ≤ w.heap.size) (hn : l.length ≤ 1048576) :
    Calls Try.prog 106 #[.slice A l.length c, .func (.func 89) #[] #[]] w fun e w' => e = .returned (.int .i64 (ixC 0 l)) ∧ Below w.heap.size w w' := by
  have HI : Hid (∃ r, r = ixC 0 l) := ⟨_, rfl⟩
  obtain ⟨r, hr0⟩ := HI.out
  rw [← hr0]
  have HR := Lib.hid hr0
  clear HI hr0
  go_enter Try.func106, Try.ntmps106
  go_wp2
  go_loopw [8] (fun i wr => ∃ k : Nat, k ≤ l.length ∧ i = .int .i64 k ∧ Hid (r = ixC k (l.drop k)) ∧ Below w.heap.size w wr) (fun i _ => l.length - (intOf i).toNat)
  case atStart => exact ⟨0, Nat.zero_le _, rfl, HR, Below.refl _ _⟩
  case round =>
    obtain ⟨k, hk, rfl, hR, hbr⟩ := hrel
    by_cases hlt : k < l.length
    · obtain ⟨wo, rfl⟩ : ∃ wo : World, wo = wr := ⟨_, rfl⟩
      obtain ⟨ad, rfl, hab, hc1⟩ := comp_at (hr.below (hbr.mono hB)) hlt
      have hS := hR.out
      rw [ixC_step hlt] at hS
      have hz : l.getD k (0, 0) = ((l.getD k (0, 0)).1, (l.getD k (0, 0)).2) := rfl
      rw [hz] at hS
      clear hr hz hR
      generalize (l.getD k (0, 0)).1 = x at *
      generalize (l.getD k (0, 0)).2 = y at *
      have H := allFinite1_b x y wo
      cases hf : finCB (x, y) with
      | true =>
        rw [hf, if_pos rfl] at hS
        rw [hf] at H
        have hS := Lib.hid hS
        clear hf
        go_wp2_with fail
        refine H.mono ?_
        rintro e w1 ⟨rfl, hb⟩
        go_wp2
        go_roundw
        case rel => exact ⟨k + 1, by omega, by go_num, hS, hbr.trans (hb.mono hbr.size)⟩
        case measure => simp [intOf]; omega
      | false =>
        rw [hf, if_neg (by simp)] at hS
        rw [hf] at H
        have hS := Lib.hid hS
        clear hf
        go_wp2_with fail
        refine H.mono ?_
        rintro e w1 ⟨rfl, hb⟩
        go_wp2
        go_ret
        exact ⟨by rw [hS.out]; rfl, hbr.trans (hb.mono hbr.size)⟩
    · have hkn : k = l.length := by omega
      subst hkn
      have hS : Hid (r = -1) := by
        show _ = _
        rw [hR.out, List.drop_eq_nil_of_le (Nat.le_refl _)]; rfl
      clear hR
      go_wp2
      go_ret
      exact ⟨by rw [hS.out]; rfl, hbr⟩
end Go.Proofs.Ytlilhebnbhlkhaa
namespace Go.Proofs.Ytlilhebnbhlkhaa
open Go.RowKit
/-- c is v, but for an error of at most e. -/
def Nr (c v e : Rat) : Prop := c ≤ v + e ∧ v ≤ c + e
theorem nv_fin {x : Nat} {a : Rat} (h : NV .f32 x a) : fin32B x = true := by
  obtain ⟨s, m, i, e, -⟩ := h
  rcases sub_cases x with e2 | e2
  · unfold fin32B; rw [e2]; rfl
  · exfalso
    have hd : floatBits .sub .f32 x x = ((FloatKind.f32.format.read x).sum (FloatKind.f32.format.read x).opposite).map FloatKind.f32.format.write := rfl
    rw [hd, e] at e2
    cases e2
/-- How two numbers stand to each other. -/
theorem order_val (k : FloatKind) {x y : Nat} {a b : Rat} (hx : NV k x a) (hy : NV k y b) : (a < b → k.format.order x y = some .lt) ∧ (a = b → k.format.order x y = some .eq) ∧ (b < a → k.format.order x y = some .gt) := by
  obtain ⟨s, m, i, ex, rfl⟩ := hx
  obtain ⟨t, n, j, ey, rfl⟩ := hy
  have ho : k.format.order x y = some (compare (Ieee.signed s m (i - min i j).toNat) (Ieee.signed t n (j - min i j).toNat)) := by
    unfold Ieee.Format.order
    rw [ex, ey]; rfl
  have h1 := shift_val s m i (min i j) (Int.min_le_left _ _)
  have h2 := shift_val t n j (min i j) (Int.min_le_right _ _)
  have hp := two_pos (min i j)
  rw [ho]
  generalize Ieee.signed s m (i - min i j).toNat = u at *
  generalize Ieee.signed t n (j - min i j).toNat = v at *
  rw [← h1, ← h2]
  generalize (2 : Rat) ^ (min i j) = p at *
  have mono : ∀ c d : Int, c ≤ d → (c : Rat) * p ≤ (d : Rat) * p := fun c d h => Rat.mul_le_mul_of_nonneg_right (Rat.intCast_le_intCast.2 h) (Rat.le_of_lt hp)
  refine ⟨fun h => ?_, fun h => ?_, fun h => ?_⟩
  · have : u < v := by
      rcases Int.lt_or_le u v with h3 | h3
      · exact h3
      · have := mono v u h3; grind
    show some (compareOfLessAndEq u v) = _
    unfold compareOfLessAndEq
    rw [if_pos this]
  · have : u = v := by
      rcases Int.lt_trichotomy u v with h3 | h3 | h3
      · exfalso
        have h4 : (u : Rat) < (v : Rat) := Rat.intCast_lt_intCast.2 h3
        have h5 : (u : Rat) * p < (v : Rat) * p := Rat.mul_lt_mul_of_pos_right h4 hp
        grind
      · exact h3
      · exfalso
        have h4 : (v : Rat) < (u : Rat) := Rat.intCast_lt_intCast.2 h3
        have h5 : (v : Rat) * p < (u : Rat) * p := Rat.mul_lt_mul_of_pos_right h4 hp
        grind
    subst this
    show some (compareOfLessAndEq u u) = _
    unfold compareOfLessAndEq
    rw [if_neg (by omega), if_pos rfl]
  · have : v < u := by
      rcases Int.lt_or_le v u with h3 | h3
      · exact h3
      · have := mono u v h3; grind
    show some (compareOfLessAndEq u v) = _
    unfold compareOfLessAndEq
    rw [if_neg (by omega), if_neg (by omega)]
end Go.Proofs.Ytlilhebnbhlkhaa
namespace Go.Proofs.Ytlilhebnbhlkhaa
open Go.RowKit
theorem ar64 (op : BinOp) (x y r : Nat) (h : floatBits op .f64 x y = some r) (w : World) : (binOp op 35 (.float .f64 x) (.float .f64 y)).run Try.prog w = .ok (.float .f64 r) w := run_float_arith w op _ _ x y r h
theorem run_bits64 (n : Nat) (w : World) : (callFunc 117 #[.float .f64 n]).run Try.prog w = .ok (.value (.int .u64 (n : Int))) w := by
  rw [run_callFunc_extern (P := Try.prog) (f := 117) (e := Extern.MathFloatBits.float64bits) Try.func117 (by kernel_rfl) (by kernel_rfl) (by kernel_rfl) (by kernel_rfl)]
  rfl
end Go.Proofs.Ytlilhebnbhlkhaa
namespace Go.Proofs.Ytlilhebnbhlkhaa
open Go.RowKit
theorem cvW {x r : Nat} (h : floatToFloatBits .f32 x .f64 = some r) (w : World) : (convert 36 35 (.float .f32 x)).run Try.prog w = .ok (.float .f64 r) w :=
  run_convert_float_float (P := Try.prog) w 36 35 .f32 .f64 x r (by rw [Try.underlying36]; rfl) Try.underlying35 h
theorem cvN {x r : Nat} (h : floatToFloatBits .f64 x .f32 = some r) (w : World) : (convert 35 36 (.float .f64 x)).run Try.prog w = .ok (.float .f32 r) w :=
  run_convert_float_float (P := Try.prog) w 35 36 .f64 .f32 x r (by rw [Try.underlying35]; rfl) Try.underlying36 h
/-- The greater of two numbers. -/
theorem max_run {x y : Nat} {a b : Rat} (hx : NV .f64 x a) (hy : NV .f64 y b) (ts : Array TypeId) (t : TypeId) : ∃ r c, NV .f64 r c ∧ (a ≤ c ∧ b ≤ c ∧ (c = a ∨ c = b)) ∧ ∀ w, (Builtin.max_ ts t #[.float .f64 x, .float .f64 y]).run Try.prog w = .ok (.float .f64 r) w := by
  obtain ⟨o1, o2, o3⟩ := order_val .f64 hx hy
  rcases (show a < b ∨ a = b ∨ b < a by grind) with h | h | h
  · have ho := o1 h
    exact ⟨y, b, hy, ⟨by grind, by grind, .inr rfl⟩, fun w => by simp [Builtin.max_, Builtin.max2, ho]⟩
  · have ho := o2 h
    cases hn : (FloatKind.f64.decode x).neg with
    | true => exact ⟨y, b, hy, ⟨by grind, by grind, .inr rfl⟩, fun w => by simp [Builtin.max_, Builtin.max2, ho, hn]⟩
    | false => exact ⟨x, a, hx, ⟨by grind, by grind, .inl rfl⟩, fun w => by simp [Builtin.max_, Builtin.max2, ho, hn]⟩
  · have ho := o3 h
    exact ⟨x, a, hx, ⟨by grind, by grind, .inl rfl⟩, fun w => by simp [Builtin.max_, Builtin.max2, ho]⟩
end Go.Proofs.Ytlilhebnbhlkhaa
namespace Go.Proofs.Ytlilhebnbhlkhaa
open Go.RowKit
theorem rootFrom_le (n : Nat) : ∀ (todo root : Nat), root * root ≤ n → Ieee.Datum.rootFrom n todo root * Ieee.Datum.rootFrom n todo root ≤ n
  | 0, root, h => by unfold Ieee.Datum.rootFrom; exact h
  | todo + 1, root, h => by
    unfold Ieee.Datum.rootFrom
    refine rootFrom_le n todo _ ?_
    split
    · assumption
    · exact h
theorem sqrt_run {x r : Nat} (h : FloatKind.f64.format.sqrt x = some r) (w : World) : (callFunc 105 #[.float .f64 x]).run Try.prog w = .ok (.value (.float .f64 r)) w := by
  rw [run_callFunc_extern (P := Try.prog) (f := 105) (e := Extern.MathSqrt.sqrt) Try.func105 (by kernel_rfl) (by kernel_rfl) (by kernel_rfl) (by kernel_rfl)]
  have e : Extern.MathSqrt.sqrt #[.float .f64 x] = (match FloatKind.f64.format.sqrt x with
    | some r => pure (.float .f64 r)
    | none => do pure (.float .f64 (← choose (.nanBits .f64 x x)))) := rfl
  rw [e, h]
  rfl
/-- A number whose sign bit is not set. -/
def NN (k : FloatKind) (x : Nat) : Prop := ∃ m i, k.format.read x = .number false m i
theorem nn_val {k : FloatKind} {x : Nat} {a : Rat} (h : NN k x) (hx : NV k x a) : 0 ≤ a := by
  obtain ⟨m, i, e⟩ := h
  obtain ⟨s', m', i', e', rfl⟩ := hx
  rw [e] at e'
  cases e'
  unfold sg
  simp only [Bool.false_eq_true, if_false]
  have h1 : (0 : Rat) ≤ ((m : Nat) : Rat) := by
    have : ((0 : Nat) : Rat) ≤ ((m : Nat) : Rat) := Rat.natCast_le_natCast.2 (Nat.zero_le m)
    exact this
  exact Rat.mul_nonneg h1 (Rat.le_of_lt (two_pos _))
/-- What is written keeps its sign. -/
theorem write_nn (m : Nat) (i : Int) {a : Rat} (h : NV .f64 (FloatKind.f64.format.write (.number false m i)) a) : NN .f64 (FloatKind.f64.format.write (.number false m i)) := by
  have hB : FloatKind.f64.format.binade = 4503599627370496 := by decide
  have hI : FloatKind.f64.format.infRung = 9218868437227405312 := by decide
  have hS : FloatKind.f64.format.signWeight = 9223372036854775808 := by decide
  obtain ⟨s', m', i', e, -⟩ := h
  have key : ∃ R, FloatKind.f64.format.write (.number false m i) = R ∧ R ≤ 9218868437227405312 := by
    show ∃ R, FloatKind.f64.format.nearest false m i = R ∧ _
    unfold Ieee.Format.nearest Ieee.Format.word
    simp only [Bool.false_eq_true, if_false]
    split
    · exact ⟨_, rfl, by omega⟩
    · exact ⟨_, rfl, by rw [hI]; exact Nat.min_le_right _ _⟩
  obtain ⟨R, hR, hle⟩ := key
  rw [hR] at e ⊢
  unfold NN
  have hn : (R / 9223372036854775808 % 2 == 1) = false := by
    rw [Nat.div_eq_of_lt (by omega)]; rfl
  have e2 := e
  unfold Ieee.Format.read at e2
  simp only [hB, hI, hS, hn] at e2
  split at e2
  · cases e2; exact ⟨_, _, e⟩
  · split at e2
    · cases e2; exact ⟨_, _, e⟩
    · split at e2 <;> cases e2
theorem mul_self_nn {x r : Nat} {a c : Rat} (hx : NV .f64 x a) (h : floatBits .mul .f64 x x = some r) (hr : NV .f64 r c) : NN .f64 r := by
  obtain ⟨s, m, i, ex, -⟩ := hx
  have h2 : ((FloatKind.f64.format.read x).product (FloatKind.f64.format.read x)).map FloatKind.f64.format.write = some r := h
  rw [ex] at h2
  have h3 : some (FloatKind.f64.format.write (.number (s ^^ s) (m * m) (i + i))) = some r := h2
  cases h3
  rw [Bool.xor_self] at hr ⊢
  exact write_nn _ _ hr
theorem add_nn {x y r : Nat} {c : Rat} (hx : NN .f64 x) (hy : NN .f64 y) (h : floatBits .add .f64 x y = some r) (hr : NV .f64 r c) : NN .f64 r := by
  obtain ⟨m, i, ex⟩ := hx
  obtain ⟨n, j, ey⟩ := hy
  have h2 : ((FloatKind.f64.format.read x).sum (FloatKind.f64.format.read y)).map FloatKind.f64.format.write = some r := h
  rw [ex, ey] at h2
  have hs : (if Ieee.signed false m (i - min i j).toNat + Ieee.signed false n (j - min i j).toNat = 0 then false && false else decide (Ieee.signed false m (i - min i j).toNat + Ieee.signed false n (j - min i j).toNat < 0)) = false := by
    have h3 : 0 ≤ Ieee.signed false m (i - min i j).toNat := by unfold Ieee.signed; rw [if_neg (by simp)]; exact Int.natCast_nonneg _
    have h4 : 0 ≤ Ieee.signed false n (j - min i j).toNat := by unfold Ieee.signed; rw [if_neg (by simp)]; exact Int.natCast_nonneg _
    split
    · rfl
    · exact decide_eq_false (by omega)
  have h3 : some (FloatKind.f64.format.write (.number (if Ieee.signed false m (i - min i j).toNat + Ieee.signed false n (j - min i j).toNat = 0 then false && false else decide (Ieee.signed false m (i - min i j).toNat + Ieee.signed false n (j - min i j).toNat < 0)) (Ieee.signed false m (i - min i j).toNat + Ieee.signed false n (j - min i j).toNat).natAbs (min i j))) = some r := h2
  rw [hs] at h3
  cases h3
  exact write_nn _ _ hr
/-- The numbers that a product with itself gives are not below 0. -/
theorem sq_nonneg (a : Rat) : 0 ≤ a * a := by
  rcases (show 0 ≤ a ∨ 0 ≤ -a by grind) with h | h
  · exact Rat.mul_nonneg h h
  · have := Rat.mul_nonneg h h; grind
end Go.Proofs.Ytlilhebnbhlkhaa
namespace Go.Proofs.Ytlilhebnbhlkhaa
open Go.RowKit
theorem bcell2 {W w1 : World} (hb : Below W.heap.size W w1) : (∀ b o, b < W.heap.size → w1.cell? ⟨b, o, none⟩ = W.cell? ⟨b, o, none⟩) ∧ (∀ b o, b < W.heap.size → w1.frozen? ⟨b, o, none⟩ = W.frozen? ⟨b, o, none⟩) :=
  ⟨fun b o h => hb.cell (p := ⟨b, o, none⟩) h, fun b o h => hb.frozen (p := ⟨b, o, none⟩) h⟩
theorem containsFuncC_b (A : Option Addr) (c B : Nat) (l : List (Nat × Nat)) (w : World) (hr : Reads w B 1 A l.length (cplx l)) (hB : B ≤ w.heap.size) (hn : l.length ≤ 1048576) :
    Calls Try.prog 88 #[.slice A l.length c, .func (.func 89) #[] #[]] w fun e w' => e = .returned (.bool (!l.all finCB)) ∧ Below w.heap.size w w' := by
  have H := indexFuncC_b A c B l w hr hB hn
  have hD := ixC_all 0 l
  clear hr
  generalize ixC 0 l = r at *
  generalize l.all finCB = b at *
  go_enter Try.func88, Try.ntmps88
  go_wp2_with fail
  refine H.mono ?_
  rintro e w1 ⟨rfl, hb⟩
  go_wp2
  go_ret
  exact ⟨rfl, hb⟩
theorem allFinite_b (A : Option Addr) (c B : Nat) (l : List (Nat × Nat)) (w : World) (hr : Reads w B 1 A l.length (cplx l)) (hB : B ≤ w.heap.size) (hn : l.length ≤ 1048576) :
    Calls Try.prog 51 #[.slice A l.length c] w fun e w' => e = .returned (.bool (l.all finCB)) ∧ Below w.heap.size w w' := by
  have H := containsFuncC_b A c B l w hr hB hn
  clear hr
  generalize l.all finCB = b at *
  go_enter Try.func51, Try.ntmps51
  go_wp2_with fail
  refine H.mono ?_
  rintro e w1 ⟨rfl, hb⟩
  go_wp2
  go_ret
  exact ⟨by simp, hb⟩
/-- A complex number is zero. -/
def zeroC (z : Nat × Nat) : Bool := FloatKind.f32.format.order z.1 0 == some .eq && FloatKind.f32.format.order z.2 0 == some .eq
def polyB (l : List (Nat × Nat)) : Bool := decide (1 ≤ l.length) && decide (l.length ≤ 17) && l.all finCB && (decide (l.length = 1) || !zeroC (l.getD (l.length - 1) (0, 0)))
/-- What a valid polynomial's last test answers. -/
def lastB (n : Nat) (x y : Nat) : Bool := decide (n = 1) || !(FloatKind.f32.format.order x 0 == some .eq && FloatKind.f32.format.order y 0 == some .eq)
set_option maxRecDepth 100000 in
set_option maxHeartbeats 400000 in
theorem validPoly_b (A : Option Addr) (c B : Nat) (l : List (Nat × Nat)) (w : World) (hr : Reads w B 1 A l.length (cplx l)) (hB : B ≤ w.heap.size) (hn : l.length ≤ 1048576) :
    Calls Try.prog 58 #[.agg #[.slice A l.length c]] w fun e w' => e = .returned (.bool (polyB l)) ∧ Below w.heap.size w w' := by
  have hb0 : Below w.heap.size w (w.alloc (.cells #[.slice A l.length c] 29)) := (Below.refl _ _).alloc (Nat.le_refl _) _
  by_cases h1 : 1 ≤ l.length
  · by_cases h2 : l.length ≤ 17
    · have h1' : decide ((1 : Int) ≤ (l.length : Int)) = true := by simp; omega
      have h2' : decide ((l.length : Int) ≤ 17) = true := by simp; omega
      have HF := allFinite_b A c B l _ (hr.below (hb0.mono hB)) (Nat.le_trans hB hb0.size) hn
      obtain ⟨ad, rfl, hab, hcell⟩ := comp_at (k := l.length - 1) hr (by omega)
      have hi1 : IntKind.i64.wrap ((l.length : Int) - 1) = (l.length : Int) - 1 := IntWalk.i64_in _ (by omega)
      have hi2 : ((l.length : Int) - 1).toNat = l.length - 1 := by omega
      have hi3 : (0 : Int) ≤ (l.length : Int) - 1 := by omega
      have hi4 : (l.length : Int) - 1 < (l.length : Int) := by omega
      have hv : polyB l = (l.all finCB && lastB l.length (l.getD (l.length - 1) (0, 0)).1 (l.getD (l.length - 1) (0, 0)).2) := by
        simp only [polyB, lastB, zeroC, h1, h2, decide_true, Bool.true_and]
      rw [hv]
      clear hv hr
      have hab2 : ad.block < w.heap.size := by omega
      generalize (l.getD (l.length - 1) (0, 0)).1 = x at *
      generalize (l.getD (l.length - 1) (0, 0)).2 = y at *
      cases hf : l.all finCB with
      | false =>
        rw [hf] at HF
        clear hf hcell
        go_enter Try.func58, Try.ntmps58
        go_wp2_with fail
        (with_reducible refine HF.mono ?_)
        rintro e w1 ⟨rfl, hb⟩
        clear HF
        go_wp2
        go_ret
        exact ⟨rfl, hb0.trans (hb.mono hb0.size)⟩
      | true =>
        rw [hf] at HF
        clear hf
        by_cases h3 : l.length = 1
        · clear hcell h1' h2' hi1 hi2 hi3 hi4 h1 h2 hn
          generalize l.length = n at *
          subst h3
          have hl : Hid (lastB 1 x y = true) := rfl
          go_enter Try.func58, Try.ntmps58
          go_wp2_with fail
          (with_reducible refine HF.mono ?_)
          rintro e w1 ⟨rfl, hb⟩
          clear HF
          go_wp2
          go_ret
          exact ⟨by rw [hl.out]; rfl, hb0.trans (hb.mono hb0.size)⟩
        · have h3' : ((l.length : Int) == 1) = false := by simp; omega
          have hl : Hid (lastB l.length x y = !(FloatKind.f32.format.order x 0 == some .eq && FloatKind.f32.format.order y 0 == some .eq)) := by show _ = _; rw [lastB, decide_eq_false h3]; rfl
          clear h3
          go_enter Try.func58, Try.ntmps58
          go_wp2_with fail
          (with_reducible refine HF.mono ?_)
          rintro e w1 ⟨rfl, hb⟩
          clear HF
          obtain ⟨hc, hfz⟩ := bcell2 hb
          have hx1 : w1.cell? ⟨w.heap.size, 0, none⟩ = some (.slice (some ad) l.length c) := (hc _ _ (by simp)).trans (by rw [cell_of_row _ _ 0 _ _ _ (heap_alloc_new w _)]; rfl)
          have hx2 : w1.cell? (ad.add (l.length - 1)) = some (.complex .f32 x y) := (hb.cell (by rw [block_of_add]; simp; omega)).trans ((hb0.cell (by rw [block_of_add]; omega)).trans hcell)
          clear hc hfz hcell
          go_wp2
          go_ret
          exact ⟨by rw [hl.out]; simp, hb0.trans (hb.mono hb0.size)⟩
    · have hv : polyB l = false := by simp [polyB, h2]
      have h1' : decide ((1 : Int) ≤ (l.length : Int)) = true := by simp; omega
      have h2' : decide ((l.length : Int) ≤ 17) = false := by simp; omega
      rw [hv]
      clear hr hv
      go_enter Try.func58, Try.ntmps58
      go_wp2
      go_ret
      exact ⟨rfl, hb0⟩
  · have hv : polyB l = false := by simp [polyB, h1]
    have h1' : decide ((1 : Int) ≤ (l.length : Int)) = false := by simp; omega
    rw [hv]
    clear hr hv
    go_enter Try.func58, Try.ntmps58
    go_wp2
    go_ret
    exact ⟨rfl, hb0⟩
end Go.Proofs.Ytlilhebnbhlkhaa
namespace Go.Proofs.Ytlilhebnbhlkhaa
open Go.RowKit
theorem Blk.new (w : World) (t : TypeId) (cs : Array Value) : Blk (w.alloc (.cells cs t)) w.heap.size t cs := heap_alloc_new w _
theorem Blk.alloc {w : World} {g : Nat} {t : TypeId} {cs : Array Value} (h : Blk w g t cs) (o : Obj) : Blk (w.alloc o) g t cs := h.below ((Below.refl w.heap.size w).alloc (Nat.le_refl _) o) h.lt
theorem own_row {w : World} {base g c n : Nat} {E : TypeId} {xs : List Value} (h : w.ownsRow base E 1 (.slice (some ⟨g, 0, none⟩) n c) n xs) : Own w g (g + 1) E (some ⟨g, 0, none⟩) xs := by
  have hl := h.1
  obtain ⟨cs, hb, e1, e2, e3⟩ := blk_of_row h
  exact .inr ⟨g, cs, rfl, Nat.le_refl _, Nat.lt_succ_self _, hb, by omega, by rw [show xs.length = n by omega]; exact e2⟩
theorem below_set {B : Nat} {w w' : World} {a : Addr} (h : Below B w w') (ha : B ≤ a.block) (u : Value) : Below B w (w'.setCell a u) :=
  h.trans ⟨rfl, rfl, rfl, by simp [World.setCell], fun k hk => Below.heap_setCell _ _ _ _ (by omega)⟩
end Go.Proofs.Ytlilhebnbhlkhaa
namespace Go.Proofs.Ytlilhebnbhlkhaa
open Go.RowKit
theorem infoC : (Try.prog.info? 26).map (fun i => (i.zero, i.size, i.bytes)) = some (some (.complex .f32 0 0), 1, 8) := by kernel_rfl
theorem cplx_snoc (l : List (Nat × Nat)) (x y : Nat) : cplx l ++ [.complex .f32 x y] = cplx (l ++ [(x, y)]) := by simp [cplx]
theorem one_cplx (x y : Nat) : ∀ u ∈ [Value.complex .f32 x y], u.oneCell' = true := by intro u hu; simp at hu; subst hu; rfl
/-- How many terms are kept. -/
def trimN (l : List (Nat × Nat)) : Nat → Nat
  | 0 => 0
  | n + 1 => if decide (1 ≤ n) && zeroC (l.getD n (0, 0)) then trimN l n else n + 1
theorem trimN_le (l : List (Nat × Nat)) (n : Nat) : trimN l n ≤ n := by
  induction n with
  | zero => exact Nat.le_refl _
  | succ n ih =>
    rw [trimN]
    split <;> omega
theorem trimN_pos (l : List (Nat × Nat)) (n : Nat) (h : 1 ≤ n) : 1 ≤ trimN l n := by
  induction n with
  | zero => omega
  | succ n ih =>
    rw [trimN]
    split
    · rename_i h2
      simp at h2
      exact ih h2.1
    · omega
theorem trim_any (g c B : Nat) (l : List (Nat × Nat)) (w : World) (hr : Reads w B 1 (some ⟨g, 0, none⟩) l.length (cplx l)) (h1 : 1 ≤ l.length) (hn : l.length ≤ 1000) (hc : l.length ≤ c) :
    Calls Try.prog 92 #[.slice (some ⟨g, 0, none⟩) l.length c] w fun e w' => e = .returned (.slice (some ⟨g, 0, none⟩) (trimN l l.length) c) ∧ w' = w := by
  go_enter Try.func92, Try.ntmps92
  go_wp2
  go_loopw [3] (fun q wr => ∃ k : Nat, 1 ≤ k ∧ k ≤ l.length ∧ q = .int .i64 (k : Int) ∧ Hid (trimN l l.length = trimN l k) ∧ wr = w) (fun q _ => (intOf q).toNat)
  case atStart => exact ⟨l.length, h1, Nat.le_refl _, rfl, rfl, rfl⟩
  case round =>
    obtain ⟨k, hk1, hk, rfl, hT, rfl⟩ := hrel
    obtain ⟨k, rfl⟩ : ∃ j, k = j + 1 := ⟨k - 1, by omega⟩
    have hs := hT.out
    rw [trimN] at hs
    by_cases hlt : 1 ≤ k
    · obtain ⟨ad, e, hab, hc1⟩ := comp_at hr (show k < l.length by omega)
      cases e
      have e0 : (⟨g, 0, none⟩ : Addr).add k = ⟨g, k, none⟩ := by unfold Addr.add; split <;> simp_all
      rw [e0] at hc1
      unfold zeroC at hs
      clear hr e0
      generalize (l.getD k (0, 0)).1 = x at *
      generalize (l.getD k (0, 0)).2 = y at *
      cases hz : (FloatKind.f32.format.order x 0 == some .eq && FloatKind.f32.format.order y 0 == some .eq) with
      | true =>
        rw [hz, decide_eq_true hlt, Bool.and_self, if_pos rfl] at hs
        replace hs := Lib.hid hs
        go_wp2
        exact ⟨⟨k, hlt, by omega, by go_num, hs, trivial⟩, by simp [intOf]⟩
      | false =>
        rw [hz, Bool.and_false, if_neg (by simp)] at hs
        replace hs := Lib.hid hs
        clear hT
        go_wp2
        go_ret
        exact ⟨by rw [hs.out]; rfl, rfl⟩
    · obtain rfl : k = 0 := by omega
      rw [if_neg (by simp)] at hs
      replace hs := Lib.hid hs
      clear hT hr
      go_wp2
      go_ret
      exact ⟨by rw [hs.out]; rfl, rfl⟩
/-- What a list of terms gives: its polynomial, or none. -/
def PolP (lo : Nat) (b : Bool) (k : Nat) (l2 : List (Nat × Nat)) (e : Ending) (w' : World) : Prop :=
  (b = true ∧ ∃ g c, e = .returned (.tuple #[.agg #[.slice (some ⟨g, 0, none⟩) k c], .bool true]) ∧ k ≤ c ∧ Own w' lo w'.heap.size 26 (some ⟨g, 0, none⟩) (cplx l2)) ∨
  (b = false ∧ e = .returned (.tuple #[.agg #[.slice none 0 0], .bool false]))
theorem clip_any (g n c : Nat) (w : World) (hc : n ≤ c) :
    Calls Try.prog 91 #[.slice (some ⟨g, 0, none⟩) n c] w fun e w' => e = .returned (.slice (some ⟨g, 0, none⟩) n n) ∧ w' = w := by
  go_enter Try.func91, Try.ntmps91
  go_wp2
  go_ret
  exact ⟨rfl, rfl⟩
theorem reads_take {w : World} {B : Nat} {A : Option Addr} {l : List (Nat × Nat)} (h : Reads w B 1 A l.length (cplx l)) {k : Nat} (hk : k ≤ l.length) : Reads w B 1 A (l.take k).length (cplx (l.take k)) := by
  refine ⟨by simp, fun h0 => ?_⟩
  rw [List.length_take, Nat.min_eq_left hk] at h0
  obtain ⟨ad, e, h1, h2⟩ := h.2 (by omega)
  refine ⟨ad, e, h1, fun j u hu => h2 j u ?_⟩
  have e2 : cplx (l.take k) = (cplx l).take k := by simp [cplx, List.map_take]
  rw [e2, List.getElem?_take] at hu
  split at hu
  · exact hu
  · cases hu
set_option maxRecDepth 100000 in
set_option maxHeartbeats 800000 in
theorem polyOf_any (lo g c : Nat) (l : List (Nat × Nat)) (w : World) (ho : Own w lo w.heap.size 26 (some ⟨g, 0, none⟩) (cplx l)) (h1 : 1 ≤ l.length) (hn : l.length ≤ 1000) (hc : l.length ≤ c) :
    Calls Try.prog 53 #[.slice (some ⟨g, 0, none⟩) l.length c] w fun e w' => PolP lo (polyB (l.take (trimN l l.length))) (trimN l l.length) (l.take (trimN l l.length)) e w' ∧ Below w.heap.size w w' := by
  have hr := ho.reads
  rw [cplx_len] at hr
  have hk1 := trimN_pos l l.length h1
  have hk := trimN_le l l.length
  have HT := fun W (hr : Reads W w.heap.size 1 (some ⟨g, 0, none⟩) l.length (cplx l)) => trim_any g c w.heap.size l W hr h1 hn hc
  have hlt : (l.take (trimN l l.length)).length = trimN l l.length := by rw [List.length_take]; omega
  have HC := fun W => clip_any g (trimN l l.length) c W (by omega)
  have HV := fun W (hr : Reads W w.heap.size 1 (some ⟨g, 0, none⟩) (l.take (trimN l l.length)).length (cplx (l.take (trimN l l.length)))) (hB : w.heap.size ≤ W.heap.size) => validPoly_b (some ⟨g, 0, none⟩) (trimN l l.length) w.heap.size (l.take (trimN l l.length)) W hr hB (by omega)
  have hown : ∀ W, Own W lo w.heap.size 26 (some ⟨g, 0, none⟩) (cplx l) → Own W lo w.heap.size 26 (some ⟨g, 0, none⟩) (cplx (l.take (trimN l l.length))) := fun W h => by
    rcases h with h | ⟨g', cur, e, a1, a2, a3, a4, a5⟩
    · have : l = [] := by simpa [cplx] using h
      subst this; exact .inl rfl
    · refine .inr ⟨g', cur, e, a1, a2, a3, ?_, ?_⟩
      · rw [cplx_len] at a4 ⊢; omega
      · rw [cplx_len] at a5
        rw [cplx_len, hlt]
        have e2 : cplx (l.take (trimN l l.length)) = (cplx l).take (trimN l l.length) := by simp [cplx, List.map_take]
        rw [e2, ← a5, List.take_take, Nat.min_eq_left hk]
  have hrt := reads_take hr hk
  rw [hlt] at HV hrt
  generalize polyB (l.take (trimN l l.length)) = b at *
  generalize l.take (trimN l l.length) = l2 at *
  generalize trimN l l.length = k at *
  replace hown := Lib.hid hown
  go_enter Try.func53, Try.ntmps53
  go_wp2_with fail
  have hb1 : Below w.heap.size w (w.alloc (.cells #[.slice none 0 0] 29)) := (Below.refl _ _).alloc (Nat.le_refl _) _
  refine (HT _ (hr.below hb1)).mono ?_
  rintro e w1 ⟨rfl, rfl⟩
  clear HT
  go_wp2_with fail
  refine (HC _).mono ?_
  rintro e w1 ⟨rfl, rfl⟩
  clear HC
  have hb2 : Below w.heap.size w ((w.alloc (.cells #[.slice none 0 0] 29)).alloc (.cells #[.slice (some ⟨g, 0, none⟩) k k] 29)) := hb1.alloc (by simp) _
  have HV1 := HV _ (hrt.below hb2) hb2.size
  have hP1 : Blk ((w.alloc (.cells #[.slice none 0 0] 29)).alloc (.cells #[.slice (some ⟨g, 0, none⟩) k k] 29)) w.heap.size 29 #[.slice none 0 0] := (Blk.new w _ _).alloc _
  have hP2 : Blk ((w.alloc (.cells #[.slice none 0 0] 29)).alloc (.cells #[.slice (some ⟨g, 0, none⟩) k k] 29)) (w.heap.size + 1) 29 #[.slice (some ⟨g, 0, none⟩) k k] := by
    have h := Blk.new (w.alloc (.cells #[.slice none 0 0] 29)) 29 #[.slice (some ⟨g, 0, none⟩) k k]
    simpa using h
  clear HV hr
  go_wp2_with fail
  refine HV1.mono ?_
  rintro e w3 ⟨rfl, hb3⟩
  clear HV1
  have hsz := hb3.size
  simp only [World.size_alloc] at hsz
  have hQ1 := hP1.below hb3 (by simp; omega)
  have hQ2 := hP2.below hb3 (by simp)
  have c1 : w3.cell? ⟨w.heap.size, 0, none⟩ = some (.slice none 0 0) := hQ1.cell 0
  have c2 : w3.cell? ⟨w.heap.size + 1, 0, none⟩ = some (.slice (some ⟨g, 0, none⟩) k k) := hQ2.cell 0
  have f1 := hQ1.frozen 0
  have hb4 := hb2.trans (hb3.mono (by simp; omega))
  have ho4 := hown.out w3 (ho.below hb4 (Nat.le_refl _))
  cases b with
  | true =>
    go_wp2
    refine bodyPost_ret (v := .tuple #[.agg #[.slice (some ⟨g, 0, none⟩) k k], .bool true]) (by simp [results, Try.results53, go_sem, c1]) rfl ?_
    exact ⟨.inl ⟨rfl, g, k, rfl, Nat.le_refl _, (ho4.below (below_set (Below.refl _ _) (Nat.le_refl _) _) (Nat.le_refl _)).wide (Nat.le_refl _) (by simp; omega)⟩, below_set hb4 (Nat.le_refl _) _⟩
  | false =>
    go_wp2
    refine bodyPost_ret (v := .tuple #[.agg #[.slice none 0 0], .bool false]) (by simp [results, Try.results53, go_sem, c1]) rfl ?_
    exact ⟨.inr ⟨rfl, rfl⟩, below_set hb4 (Nat.le_refl _) _⟩
end Go.Proofs.Ytlilhebnbhlkhaa
namespace Go.Proofs.Ytlilhebnbhlkhaa
open Go.RowKit
theorem nv_zero : NV .f32 0 0 := ⟨false, 0, -149, by decide +kernel, by simp [sg]⟩
theorem finite_v {x1 x2 : Nat} (h1 : fin32B x1 = true) (h2 : fin32B x2 = true) (w : World) :
    Calls Try.prog 67 #[.complex .f32 x1 x2] w fun e w' => e = .returned (.tuple #[.complex .f32 x1 x2, .bool true]) ∧ Below w.heap.size w w' := by
  have H := isFiniteC_b x1 x2 w
  have hF : finCB (x1, x2) = true := by unfold finCB; rw [h1, h2]; rfl
  rw [hF] at H
  clear h1 h2 hF
  go_enter Try.func67, Try.ntmps67
  go_wp2_with fail
  refine H.mono ?_
  rintro e w1 ⟨rfl, hb⟩
  go_wp2
  go_ret2
  exact ⟨rfl, hb⟩
theorem comp_one (w : World) (x y : Nat) : Reads (w.alloc (.cells #[.complex .f32 x y] 26)) (w.heap.size + 1) 1 (some ⟨w.heap.size, 0, none⟩) [(x, y)].length (cplx [(x, y)]) := by
  have h := reads_new w [.complex .f32 x y] 26
  simpa [cplx] using h
end Go.Proofs.Ytlilhebnbhlkhaa
namespace Go.Proofs.Ytlilhebnbhlkhaa
open Go.RowKit
theorem nat_le_rat {a b : Nat} (h : a ≤ b) : ((a : Nat) : Rat) ≤ ((b : Nat) : Rat) := Rat.natCast_le_natCast.2 h
theorem nat_succ_rat (a : Nat) : ((a + 1 : Nat) : Rat) = ((a : Nat) : Rat) + 1 := by rw [Rat.natCast_add a 1]; rfl
end Go.Proofs.Ytlilhebnbhlkhaa
