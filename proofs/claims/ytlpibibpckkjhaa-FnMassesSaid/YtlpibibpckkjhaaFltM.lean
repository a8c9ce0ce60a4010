/-
  Plain laws: comparisons of 32-bit numbers up to what is no number; a number without its sign.
-/
import Derived.Test.YtlpibibpckkjhaaFltN
namespace Go.Proofs.Ytlpibibpckkjhaa
open Go.RowKit

def cmpO (a b : Option Nat) : Option Ordering := a.bind fun x => b.bind fun y => FloatKind.f32.format.order x y
theorem cn_order (x y : Nat) : FloatKind.f32.format.order x y = cmpO (cn x) (cn y) := by
  unfold cmpO
  rcases cn_cases x with ⟨s, t, e, e1⟩ | ⟨-, e1⟩
  · rw [e1]
    unfold Ieee.Format.order
    rw [e]; rfl
  · rcases cn_cases y with ⟨s, t, e, e2⟩ | ⟨-, e2⟩
    · rw [e1, e2]
      unfold Ieee.Format.order
      rw [e]
      cases FloatKind.f32.format.read x <;> rfl
    · rw [e1, e2]; rfl
theorem cn_zero : cn 0 = some 0 := by decide +kernel
theorem cn_one : cn 1065353216 = some 1065353216 := by decide +kernel

/-- What a word says, sign and rung apart. -/
theorem read_rung (x : Nat) : (x % 2147483648 < 8388608 ∧ FloatKind.f32.format.read x = .number (x / 2147483648 % 2 == 1) (x % 2147483648) (-149)) ∨
    (8388608 ≤ x % 2147483648 ∧ x % 2147483648 < 2139095040 ∧ FloatKind.f32.format.read x = .number (x / 2147483648 % 2 == 1) (8388608 + x % 2147483648 % 8388608) (-149 + (x % 2147483648 / 8388608 - 1 : Nat))) ∨
    (x % 2147483648 = 2139095040 ∧ FloatKind.f32.format.read x = .infinity (x / 2147483648 % 2 == 1)) ∨ (2139095040 < x % 2147483648 ∧ ∃ u, FloatKind.f32.format.read x = .nan (x / 2147483648 % 2 == 1) u) := by
  have hB : FloatKind.f32.format.binade = 8388608 := by decide
  have hI : FloatKind.f32.format.infRung = 2139095040 := by decide
  have hS : FloatKind.f32.format.signWeight = 2147483648 := by decide
  have hP : FloatKind.f32.format.leastPlace = -149 := by decide
  unfold Ieee.Format.read
  simp only [hB, hI, hS, hP]
  split
  · rename_i h; exact .inl ⟨h, rfl⟩
  · split
    · rename_i h1 h2; exact .inr (.inl ⟨by omega, h2, rfl⟩)
    · split
      · rename_i h1 h2 h3; exact .inr (.inr (.inl ⟨h3, rfl⟩))
      · exact .inr (.inr (.inr ⟨by omega, _, rfl⟩))
/-- The words of one rung. -/
theorem read_sign (x y : Nat) (h : x % 2147483648 = y % 2147483648) (h2 : x / 2147483648 % 2 = y / 2147483648 % 2) : FloatKind.f32.format.read x = FloatKind.f32.format.read y := by
  have hS : FloatKind.f32.format.signWeight = 2147483648 := by decide
  unfold Ieee.Format.read
  simp only [hS, h, h2]
theorem neg_bits (x : Nat) : Op.negFloat .f32 x % 2147483648 = x % 2147483648 ∧ Op.negFloat .f32 x / 2147483648 % 2 = 1 - x / 2147483648 % 2 := by
  have hn : Op.negFloat .f32 x = x ^^^ 2 ^ 31 := rfl
  rw [hn]
  constructor
  · show (x ^^^ 2 ^ 31) % 2 ^ 31 = x % 2 ^ 31
    rw [Nat.xor_mod_two_pow]
    simp
  · show (x ^^^ 2 ^ 31) / 2 ^ 31 % 2 = _
    rw [← Nat.shiftRight_eq_div_pow, Nat.shiftRight_xor_distrib, Nat.shiftRight_eq_div_pow, Nat.shiftRight_eq_div_pow]
    have h1 : (2 : Nat) ^ 31 / 2 ^ 31 = 1 := by decide
    rw [h1, show (2 : Nat) = 2 ^ 1 by rfl, Nat.xor_mod_two_pow]
    have : x / (2 ^ 1) ^ 31 = x / 2147483648 := rfl
    rw [this]
    have h2 : x / 2147483648 % 2 ^ 1 = 0 ∨ x / 2147483648 % 2 ^ 1 = 1 := by omega
    rcases h2 with h2 | h2 <;> rw [h2] <;> rfl
/-- z compares as x does without its sign. -/
def Mg (z x : Nat) : Prop := ∀ t, FloatKind.f32.format.order z t = FloatKind.f32.format.order (x % 2147483648) t ∧ FloatKind.f32.format.order t z = FloatKind.f32.format.order t (x % 2147483648)
theorem mg_read {z x : Nat} (h : FloatKind.f32.format.read z = FloatKind.f32.format.read (x % 2147483648)) : Mg z x := fun t => by
  unfold Ieee.Format.order
  rw [h]
  exact ⟨rfl, rfl⟩
theorem mg_nan {z x u v : Nat} {s s' : Bool} (h : FloatKind.f32.format.read z = .nan s u) (h2 : FloatKind.f32.format.read (x % 2147483648) = .nan s' v) : Mg z x := fun t => by
  unfold Ieee.Format.order
  rw [h, h2]
  exact ⟨rfl, by cases FloatKind.f32.format.read t <;> rfl⟩
theorem mg_zero {z x : Nat} {s s' : Bool} (h : FloatKind.f32.format.read z = .number s 0 (-149)) (h2 : FloatKind.f32.format.read (x % 2147483648) = .number s' 0 (-149)) : Mg z x := fun t => by
  have hz : ∀ (b : Bool) k, Ieee.signed b 0 k = 0 := fun b k => by cases b <;> simp [Ieee.signed]
  unfold Ieee.Format.order
  rw [h, h2]
  cases FloatKind.f32.format.read t with
  | nan s u => exact ⟨rfl, rfl⟩
  | infinity s => exact ⟨rfl, rfl⟩
  | number s m i => simp only [Ieee.Datum.order, hz]; exact ⟨trivial, trivial⟩
theorem abs_read (x : Nat) : x % 2147483648 % 2147483648 = x % 2147483648 ∧ x % 2147483648 / 2147483648 % 2 = 0 := by omega
theorem zero_read : FloatKind.f32.format.read 0 = .number false 0 (-149) := by decide +kernel
/-- Whether a number is below 0. -/
theorem order_zero (x : Nat) : FloatKind.f32.format.order x 0 = (match FloatKind.f32.format.read x with
    | .nan _ _ => none
    | .infinity s => some (if s then .lt else .gt)
    | .number s m _ => some (if m = 0 then .eq else if s then .lt else .gt)) := by
  have h : FloatKind.f32.format.order x 0 = (FloatKind.f32.format.read x).order (.number false 0 (-149)) := by
    unfold Ieee.Format.order
    rw [zero_read]
  rw [h]
  cases FloatKind.f32.format.read x with
  | nan s u => rfl
  | infinity s => rfl
  | number s m i =>
    have hz : ∀ k, Ieee.signed false 0 k = 0 := fun k => by simp [Ieee.signed]
    simp only [Ieee.Datum.order, hz]
    generalize (i - min i (-149)).toNat = k
    have hp : 0 < 2 ^ k := Nat.two_pow_pos k
    by_cases hm : m = 0
    · subst hm
      rw [if_pos rfl]
      cases s <;> simp [Ieee.signed]
    · rw [if_neg hm]
      have hM : 0 < m <<< k := by rw [Nat.shiftLeft_eq]; exact Nat.mul_pos (by omega) hp
      cases s with
      | true =>
        have e : Ieee.signed true m k = -((m <<< k : Nat) : Int) := rfl
        rw [e]
        generalize m <<< k = M at *
        have h1 : compare (-(M : Int)) 0 = .lt := by
          show compareOfLessAndEq (-(M : Int)) 0 = .lt
          unfold compareOfLessAndEq
          rw [if_pos (by omega)]
        rw [h1]; rfl
      | false =>
        have e : Ieee.signed false m k = ((m <<< k : Nat) : Int) := rfl
        rw [e]
        generalize m <<< k = M at *
        have h1 : compare (M : Int) 0 = .gt := by
          show compareOfLessAndEq (M : Int) 0 = .gt
          unfold compareOfLessAndEq
          rw [if_neg (by omega), if_neg (by omega)]
        rw [h1]; rfl

/-- The program's way: the sign turned below 0. -/
theorem mg_neg (x : Nat) (h : FloatKind.f32.format.order x 0 = some .lt) : Mg (Op.negFloat .f32 x) x := by
  refine mg_read (read_sign _ _ ?_ ?_)
  · rw [(neg_bits x).1, (abs_read x).1]
  · rw [(neg_bits x).2, (abs_read x).2]
    rw [order_zero] at h
    rcases read_rung x with ⟨-, e⟩ | ⟨-, -, e⟩ | ⟨-, e⟩ | ⟨-, u, e⟩
    · rw [e] at h
      have h2 : (if x % 2147483648 = 0 then Ordering.eq else if (x / 2147483648 % 2 == 1) = true then .lt else .gt) = .lt := Option.some.inj h
      split at h2
      · cases h2
      · split at h2
        · rename_i h3; simp at h3; omega
        · cases h2
    · rw [e] at h
      have h2 : (if 8388608 + x % 2147483648 % 8388608 = 0 then Ordering.eq else if (x / 2147483648 % 2 == 1) = true then .lt else .gt) = .lt := Option.some.inj h
      split at h2
      · cases h2
      · split at h2
        · rename_i h3; simp at h3; omega
        · cases h2
    · rw [e] at h
      have h2 : (if (x / 2147483648 % 2 == 1) = true then Ordering.lt else .gt) = .lt := Option.some.inj h
      split at h2
      · rename_i h3; simp at h3; omega
      · cases h2
    · rw [e] at h; cases h
theorem mg_self (x : Nat) (h : FloatKind.f32.format.order x 0 ≠ some .lt) : Mg x x := by
  rw [order_zero] at h
  by_cases hs : x / 2147483648 % 2 = 0
  · exact mg_read (read_sign _ _ (abs_read x).1.symm (by rw [(abs_read x).2, hs]))
  · have hs1 : (x / 2147483648 % 2 == 1) = true := by simp; omega
    rcases read_rung x with ⟨h0, e⟩ | ⟨h0, h1, e⟩ | ⟨h0, e⟩ | ⟨h0, u, e⟩
    · rw [e, hs1] at h
      by_cases hz : x % 2147483648 = 0
      · rw [hz] at e
        refine mg_zero e (s' := false) ?_
        rw [hz]; exact zero_read
      · exact absurd (show some (if x % 2147483648 = 0 then Ordering.eq else if true = true then .lt else .gt) = some .lt by rw [if_neg hz]; rfl) h
    · rw [e, hs1] at h
      exact absurd (show some (if 8388608 + x % 2147483648 % 8388608 = 0 then Ordering.eq else if true = true then .lt else .gt) = some .lt by rw [if_neg (by omega)]; rfl) h
    · rw [e, hs1] at h
      exact absurd rfl h
    · have a1 := (abs_read x).1
      rcases read_rung (x % 2147483648) with ⟨h1, e1⟩ | ⟨h1, h2, e1⟩ | ⟨h1, e1⟩ | ⟨h1, v, e1⟩
      · omega
      · omega
      · omega
      · exact mg_nan e e1

/-- A word's own number is written as it was, from the least place on. -/
theorem exact_low (m : Nat) (h0 : m ≠ 0) (h : m < 8388608) : FloatKind.f32.format.write (.number false m (-149)) = m := by
  have hF : FloatKind.f32.format.fractionBits = 23 := rfl
  have hB : FloatKind.f32.format.binade = 8388608 := by decide
  have hI : FloatKind.f32.format.infRung = 2139095040 := by decide
  have hP : FloatKind.f32.format.leastPlace = -149 := by decide
  show FloatKind.f32.format.nearest false m (-149) = m
  rw [nearest_near _ _ _ _ h0, hF, hB, hI, hP]
  have hl : m.log2 < 23 := (Nat.log2_lt h0).2 h
  unfold near
  have e1 : max ((-149 : Int) + (m.log2 : Int) - ((23 : Nat) : Int)) (-149) = -149 := by omega
  rw [e1]
  simp only [Int.sub_self, Int.toNat_zero, Nat.shiftLeft_zero, cut_none, Nat.zero_mul, Nat.zero_add]
  rw [Nat.min_eq_left (by omega)]
  rfl
theorem log2_shift (m k : Nat) (h0 : m ≠ 0) : (m <<< k).log2 = m.log2 + k := by
  have h1 : m <<< k ≠ 0 := by
    rw [Nat.shiftLeft_eq]
    exact Nat.mul_ne_zero h0 (Nat.ne_of_gt (Nat.two_pow_pos k))
  refine (Nat.log2_eq_iff h1).2 ⟨?_, ?_⟩
  · rw [Nat.shiftLeft_eq, Nat.pow_add]
    exact Nat.mul_le_mul_right _ (Nat.log2_self_le h0)
  · rw [Nat.shiftLeft_eq, show m.log2 + k + 1 = (m.log2 + 1) + k by omega, Nat.pow_add]
    exact Nat.mul_lt_mul_of_pos_right Nat.lt_log2_self (Nat.two_pow_pos _)
theorem cut_exact (m k : Nat) (h0 : m ≠ 0) : Ieee.Toward.even.cut false (m <<< k) k = m := by
  have hp : 0 < 2 ^ k := Nat.two_pow_pos k
  unfold Ieee.Toward.cut
  rw [log2_shift m k h0, Nat.min_eq_left (by omega)]
  have hg : 1 <<< k = 2 ^ k := by rw [Nat.shiftLeft_eq, Nat.one_mul]
  have hm : m <<< k = m * 2 ^ k := Nat.shiftLeft_eq m k
  have h1 : m * 2 ^ k / 2 ^ k = m := Nat.mul_div_cancel m hp
  have h2 : m * 2 ^ k % 2 ^ k = 0 := Nat.mul_mod_left m _
  simp only [hg, hm, h1, h2]
  have h3 : decide (2 ^ k < 2 * 0) = false := by simp
  have h4 : (2 ^ k == 2 * 0) = false := by simp
  rw [h3, h4]
  rfl
theorem exact_norm (f e : Nat) (hf : f < 8388608) (he : e < 254) : FloatKind.f32.format.write (.number false ((8388608 + f) <<< e) (-149)) = (e + 1) * 8388608 + f := by
  have hF : FloatKind.f32.format.fractionBits = 23 := rfl
  have hB : FloatKind.f32.format.binade = 8388608 := by decide
  have hI : FloatKind.f32.format.infRung = 2139095040 := by decide
  have hP : FloatKind.f32.format.leastPlace = -149 := by decide
  have h0 : (8388608 + f) <<< e ≠ 0 := by
    rw [Nat.shiftLeft_eq]
    exact Nat.mul_ne_zero (by omega) (Nat.ne_of_gt (Nat.two_pow_pos e))
  have hl0 : (8388608 + f).log2 = 23 := (Nat.log2_eq_iff (by omega)).2 ⟨by omega, by omega⟩
  have hl : ((8388608 + f) <<< e).log2 = 23 + e := by rw [log2_shift _ _ (by omega), hl0]
  show FloatKind.f32.format.nearest false ((8388608 + f) <<< e) (-149) = _
  rw [nearest_near _ _ _ _ h0, hF, hB, hI, hP]
  unfold near
  rw [hl]
  have e1 : max ((-149 : Int) + ((23 + e : Nat) : Int) - ((23 : Nat) : Int)) (-149) = -149 + (e : Int) := by omega
  rw [e1]
  have e2 : ((-149 : Int) - (-149 + (e : Int))).toNat = 0 := by omega
  have e3 : ((-149 : Int) + (e : Int) - -149).toNat = e := by omega
  rw [e2, e3, Nat.shiftLeft_zero, cut_exact _ _ (by omega), Nat.min_eq_left (by omega)]
  show e * 8388608 + (8388608 + f) = _
  omega

theorem sub_zero (x : Nat) (d : Ieee.Datum) (h : (Ieee.Datum.number false 0 (-149)).sum (FloatKind.f32.format.read x).opposite = some d) : floatBits .sub .f32 0 x = some (FloatKind.f32.format.write d) := by
  show ((FloatKind.f32.format.read 0).sum (FloatKind.f32.format.read x).opposite).map FloatKind.f32.format.write = _
  rw [zero_read, h]
  rfl
/-- The reference's way: 0 less a number that is not above 0. -/
theorem mg_sub (x : Nat) (h : FloatKind.f32.format.order x 0 = some .lt ∨ FloatKind.f32.format.order x 0 = some .eq) : ∃ z, floatBits .sub .f32 0 x = some z ∧ Mg z x := by
  rw [order_zero] at h
  have hB1 : ∀ b : Bool, b = true ∨ b = false := by decide
  rcases read_rung x with ⟨h0, e⟩ | ⟨h0, h1, e⟩ | ⟨h0, e⟩ | ⟨-, u, e⟩
  · rw [e] at h
    generalize hs : (x / 2147483648 % 2 == 1) = s at *
    have hsum : (Ieee.Datum.number false 0 (-149)).sum (FloatKind.f32.format.read x).opposite = some (.number (if Ieee.signed (!s) (x % 2147483648) 0 = 0 then false else decide (Ieee.signed (!s) (x % 2147483648) 0 < 0)) (Ieee.signed (!s) (x % 2147483648) 0).natAbs (-149)) := by
      rw [e]
      have hz : ∀ k, Ieee.signed false 0 k = 0 := fun k => by simp [Ieee.signed]
      simp only [Ieee.Datum.opposite, Ieee.Datum.sum, hz, Int.zero_add, Int.min_self, Int.sub_self, Int.toNat_zero, Bool.false_and]
    refine ⟨_, sub_zero x _ hsum, ?_⟩
    by_cases hz : x % 2147483648 = 0
    · rw [hz] at e
      refine mg_zero (s := false) (s' := false) ?_ (by rw [hz]; exact zero_read)
      rw [hz]
      have : Ieee.signed (!s) 0 0 = 0 := by cases s <;> rfl
      rw [this]
      exact zero_read
    · have hst : s = true := by
        rcases hB1 s with h2 | h2
        · exact h2
        · exfalso
          rw [h2] at h
          rcases h with h | h
          · have h3 : (if x % 2147483648 = 0 then Ordering.eq else if false = true then Ordering.lt else .gt) = .lt := Option.some.inj h
            rw [if_neg hz] at h3; cases h3
          · have h3 : (if x % 2147483648 = 0 then Ordering.eq else if false = true then Ordering.lt else .gt) = .eq := Option.some.inj h
            rw [if_neg hz] at h3; cases h3
      rw [hst]
      have h3 : Ieee.signed (!true) (x % 2147483648) 0 = ((x % 2147483648 : Nat) : Int) := by simp [Ieee.signed]
      rw [h3, if_neg (by omega), decide_eq_false (by omega), Int.natAbs_natCast, exact_low _ hz h0]
      exact mg_read rfl
  · rw [e] at h
    generalize hs : (x / 2147483648 % 2 == 1) = s at *
    have hst : s = true := by
      rcases hB1 s with h2 | h2
      · exact h2
      · exfalso
        rw [h2] at h
        rcases h with h | h
        · have h3 : (if 8388608 + x % 2147483648 % 8388608 = 0 then Ordering.eq else if false = true then Ordering.lt else .gt) = .lt := Option.some.inj h
          rw [if_neg (by omega)] at h3; cases h3
        · have h3 : (if 8388608 + x % 2147483648 % 8388608 = 0 then Ordering.eq else if false = true then Ordering.lt else .gt) = .eq := Option.some.inj h
          rw [if_neg (by omega)] at h3; cases h3
    rw [hst] at e
    have hsum : (Ieee.Datum.number false 0 (-149)).sum (FloatKind.f32.format.read x).opposite = some (.number false ((8388608 + x % 2147483648 % 8388608) <<< (x % 2147483648 / 8388608 - 1)) (-149)) := by
      rw [e]
      have hz : ∀ k, Ieee.signed false 0 k = 0 := fun k => by simp [Ieee.signed]
      have e1 : min (-149 : Int) (-149 + ((x % 2147483648 / 8388608 - 1 : Nat) : Int)) = -149 := by omega
      have e2 : ((-149 : Int) + ((x % 2147483648 / 8388608 - 1 : Nat) : Int) - -149).toNat = x % 2147483648 / 8388608 - 1 := by omega
      have hM : 0 < (8388608 + x % 2147483648 % 8388608) <<< (x % 2147483648 / 8388608 - 1) := by
        rw [Nat.shiftLeft_eq]
        exact Nat.mul_pos (by omega) (Nat.two_pow_pos _)
      have h3 : Ieee.signed (!true) (8388608 + x % 2147483648 % 8388608) (x % 2147483648 / 8388608 - 1) = (((8388608 + x % 2147483648 % 8388608) <<< (x % 2147483648 / 8388608 - 1) : Nat) : Int) := by simp [Ieee.signed]
      simp only [Ieee.Datum.opposite, Ieee.Datum.sum, hz, Int.zero_add, e1, e2, h3, Bool.false_and]
      generalize (8388608 + x % 2147483648 % 8388608) <<< (x % 2147483648 / 8388608 - 1) = M at *
      rw [if_neg (by omega), decide_eq_false (by omega), Int.natAbs_natCast]
    refine ⟨_, sub_zero x _ hsum, ?_⟩
    rw [exact_norm _ _ (by omega) (by omega)]
    refine mg_read ?_
    congr 1
    omega
  · rw [e] at h
    generalize hs : (x / 2147483648 % 2 == 1) = s at *
    have hst : s = true := by
      rcases hB1 s with h2 | h2
      · exact h2
      · exfalso
        rw [h2] at h
        rcases h with h | h <;> cases h
    rw [hst] at e
    refine ⟨_, sub_zero x (.infinity false) (by rw [e]; rfl), ?_⟩
    refine mg_read ?_
    rw [h0]
    rfl
  · rw [e] at h
    rcases h with h | h <;> cases h
end Go.Proofs.Ytlpibibpckkjhaa
