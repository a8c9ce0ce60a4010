/-
  Plain laws: a 32-bit number less itself is 0 or no number; one that is finite widens to a 64-bit number.
-/
import Derived.RowKit
import Derived.Laws.FloatArith
namespace Go.Proofs.Ytlpibibpckkjhaa
open Go.RowKit

/-- A 32-bit number is finite: less itself it is 0. -/
def fin32B (x : Nat) : Bool := decide (floatBits .sub .f32 x x = some 0)
theorem sub_cases (x : Nat) : floatBits .sub .f32 x x = some 0 ∨ floatBits .sub .f32 x x = none := by
  have hd : floatBits .sub .f32 x x = ((FloatKind.f32.format.read x).sum (FloatKind.f32.format.read x).opposite).map FloatKind.f32.format.write := rfl
  rw [hd]
  cases FloatKind.f32.format.read x with
  | nan s t => exact .inr rfl
  | infinity s => cases s <;> exact .inr rfl
  | number s m i =>
    left
    have h0 : ∀ k, Ieee.signed s m k + Ieee.signed (!s) m k = 0 := fun k => by cases s <;> simp [Ieee.signed] <;> omega
    simp only [Ieee.Datum.opposite, Ieee.Datum.sum, h0]
    cases s <;> rfl
theorem sub_yes {x : Nat} (h : fin32B x = true) : floatBits .sub .f32 x x = some 0 := by unfold fin32B at h; exact of_decide_eq_true h
theorem sub_no {x : Nat} (h : fin32B x = false) : floatBits .sub .f32 x x = none := by
  rcases sub_cases x with e | e
  · unfold fin32B at h; rw [e] at h; simp at h
  · exact e
theorem read_cases (x : Nat) : (∃ s m i, FloatKind.f32.format.read x = .number s m i ∧ m < 16777216 ∧ -149 ≤ i ∧ i ≤ 104) ∨ (∃ s, FloatKind.f32.format.read x = .infinity s) ∨ ∃ s t, FloatKind.f32.format.read x = .nan s t := by
  have hB : FloatKind.f32.format.binade = 8388608 := by decide
  have hI : FloatKind.f32.format.infRung = 2139095040 := by decide
  have hP : FloatKind.f32.format.leastPlace = -149 := by decide
  unfold Ieee.Format.read
  simp only [hB, hI, hP]
  split
  · left; exact ⟨_, _, _, rfl, by omega, by omega, by omega⟩
  · split
    · left; exact ⟨_, _, _, rfl, by omega, by omega, by omega⟩
    · split
      · right; left; exact ⟨_, rfl⟩
      · right; right; exact ⟨_, _, rfl⟩
theorem fin_number {x : Nat} (h : fin32B x = true) : ∃ s m i, FloatKind.f32.format.read x = .number s m i ∧ m < 16777216 ∧ -149 ≤ i ∧ i ≤ 104 := by
  have h1 := sub_yes h
  have hd : floatBits .sub .f32 x x = ((FloatKind.f32.format.read x).sum (FloatKind.f32.format.read x).opposite).map FloatKind.f32.format.write := rfl
  rw [hd] at h1
  rcases read_cases x with h | ⟨s, h⟩ | ⟨s, t, h⟩
  · exact h
  · rw [h] at h1
    cases s <;> simp [Ieee.Datum.opposite, Ieee.Datum.sum] at h1
  · rw [h] at h1
    simp [Ieee.Datum.sum] at h1

theorem cut_none (s : Bool) (n : Nat) : Ieee.Toward.even.cut s n 0 = n := by
  simp [Ieee.Toward.cut, Nat.mod_one]
/-- The nearest word, by the format's numbers. -/
def near (F B I : Nat) (P : Int) (m : Nat) (i : Int) : Nat :=
  min ((max (i + (m.log2 : Int) - (F : Int)) P - P).toNat * B + Ieee.Toward.even.cut false (m <<< (i - max (i + (m.log2 : Int) - (F : Int)) P).toNat) (max (i + (m.log2 : Int) - (F : Int)) P - i).toNat) I
theorem cut_sign (s : Bool) (n d : Nat) : Ieee.Toward.even.cut s n d = Ieee.Toward.even.cut false n d := rfl
theorem nearest_near (f : Ieee.Format) (s : Bool) (m : Nat) (i : Int) (h0 : ¬ m = 0) : f.nearest s m i = f.word s (near f.fractionBits f.binade f.infRung f.leastPlace m i) := by
  unfold Ieee.Format.nearest
  rw [if_neg h0]
  rfl
theorem near_lt (m : Nat) (i : Int) (h0 : ¬ m = 0) (hm : m < 16777216) (h1 : -149 ≤ i) (h2 : i ≤ 104) : near 52 4503599627370496 9218868437227405312 (-1074) m i < 9218868437227405312 := by
  have hl : m.log2 < 24 := (Nat.log2_lt h0).2 hm
  have hk : m <<< (52 - m.log2) < 9007199254740992 := by
    rw [Nat.shiftLeft_eq]
    have h3 : m < 2 ^ (m.log2 + 1) := Nat.lt_log2_self
    have h4 : m * 2 ^ (52 - m.log2) < 2 ^ (m.log2 + 1) * 2 ^ (52 - m.log2) := Nat.mul_lt_mul_of_pos_right h3 (Nat.two_pow_pos _)
    rw [← Nat.pow_add, show m.log2 + 1 + (52 - m.log2) = 53 by omega] at h4
    exact h4
  have hlast : max (i + (m.log2 : Int) - ((52 : Nat) : Int)) (-1074) = i + m.log2 - 52 := by omega
  unfold near
  rw [hlast]
  have e1 : (i - (i + (m.log2 : Int) - 52)).toNat = 52 - m.log2 := by omega
  have e2 : ((i + (m.log2 : Int) - 52) - i).toNat = 0 := by omega
  rw [e1, e2, cut_none]
  generalize m <<< (52 - m.log2) = n at *
  omega
theorem wide_num (s : Bool) (m : Nat) (i : Int) (hm : m < 16777216) (h1 : -149 ≤ i) (h2 : i ≤ 104) :
    ∃ r, r < 9218868437227405312 ∧ FloatKind.f64.format.write (.number s m i) = FloatKind.f64.format.word s r := by
  have hF : FloatKind.f64.format.fractionBits = 52 := rfl
  have hP : FloatKind.f64.format.leastPlace = -1074 := by decide
  have hB : FloatKind.f64.format.binade = 4503599627370496 := by decide
  have hI : FloatKind.f64.format.infRung = 9218868437227405312 := by decide
  have hw : FloatKind.f64.format.write (.number s m i) = FloatKind.f64.format.nearest s m i := rfl
  rw [hw]
  by_cases h0 : m = 0
  · refine ⟨0, by omega, ?_⟩
    unfold Ieee.Format.nearest
    rw [if_pos h0]
  · refine ⟨_, near_lt m i h0 hm h1 h2, ?_⟩
    rw [nearest_near _ _ _ _ h0, hF, hP, hB, hI]
theorem read_word (s : Bool) (r : Nat) (h : r < 9218868437227405312) : ∃ t m i, FloatKind.f64.format.read (FloatKind.f64.format.word s r) = .number t m i := by
  have hB : FloatKind.f64.format.binade = 4503599627370496 := by decide
  have hI : FloatKind.f64.format.infRung = 9218868437227405312 := by decide
  have hS : FloatKind.f64.format.signWeight = 9223372036854775808 := by decide
  have hw : FloatKind.f64.format.word s r % 9223372036854775808 = r := by
    unfold Ieee.Format.word
    rw [hS]
    split <;> omega
  unfold Ieee.Format.read
  simp only [hB, hI, hS, hw]
  split
  · exact ⟨_, _, _, rfl⟩
  · exact ⟨_, _, _, rfl⟩
theorem fin_wide {x : Nat} (h : fin32B x = true) : ∃ y, floatToFloatBits .f32 x .f64 = some y ∧ FloatKind.f64.format.order y y = some .eq := by
  obtain ⟨s, m, i, hr, hm, h1, h2⟩ := fin_number h
  obtain ⟨r, hr1, hr2⟩ := wide_num s m i hm h1 h2
  obtain ⟨t, m', i', hr3⟩ := read_word s r hr1
  refine ⟨FloatKind.f64.format.word s r, ?_, ?_⟩
  · unfold floatToFloatBits
    rw [if_neg (by decide)]
    have hd : FloatKind.f32.decode x = .number s m i := hr
    rw [hd]
    have he : FloatKind.f64.encode (.number s m i) = FloatKind.f64.format.word s r := hr2
    have hd2 : FloatKind.f64.decode (FloatKind.f64.format.word s r) = .number t m' i' := hr3
    simp only [he, hd2]
    rfl
  · unfold Ieee.Format.order
    rw [hr3]
    simp [Ieee.Datum.order]
end Go.Proofs.Ytlpibibpckkjhaa
