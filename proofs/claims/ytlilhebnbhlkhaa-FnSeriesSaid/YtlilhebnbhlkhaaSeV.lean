/-
  Words near exact complex numbers: sizes and errors as numbers, step by step.
-/
import Derived.Test.YtlilhebnbhlkhaaSeF
import Derived.Test.YtlilhebnbhlkhaaSeA
namespace Go.Proofs.Ytlilhebnbhlkhaa
open Go.RowKit

/-- Words near an exact number: its size at most B.1, the error at most B.2. -/
def Ap (u B : Rat × Rat) (z : Nat × Nat) : Prop := ∃ a b, NV .f32 z.1 a ∧ NV .f32 z.2 b ∧ E2 (a - u.1) (b - u.2) B.2 ∧ E2 u.1 u.2 B.1
def okB (t : Rat) : Bool := decide (1 / 1000000000000 ≤ t) && decide (t ≤ 1000000000000)
theorem okB_md {t : Rat} (h : okB t = true) : Md t := by
  unfold okB at h
  simp only [Bool.and_eq_true, decide_eq_true_eq] at h
  exact ⟨by grind, by grind⟩
def r1 (x : Rat × Rat) : Rat × Rat := (x.1, x.2 + (x.1 + x.2) / 11000000)
def bm (x y : Rat × Rat) : Rat × Rat := (x.1 * y.1, x.1 * y.2 + x.2 * (y.1 + y.2) + (x.1 + x.2) * (y.1 + y.2) / 11000000)
def bp (x y : Rat × Rat) : Rat × Rat := (x.1 + y.1, x.2 + y.2 + (x.1 + y.1 + (x.2 + y.2)) / 11000000)
def rs (κ : Rat) (x : Rat × Rat) : Rat × Rat := (κ * x.1, κ * x.2 + κ * (x.1 + x.2) / 11000000)
def rp (q : Rat) (x : Rat × Rat) : Rat × Rat := (q * x.1, q * x.2 + q * (x.1 + x.2) / 2900000)
def leB (x y : Rat × Rat) : Bool := decide (x.1 ≤ y.1) && decide (x.2 ≤ y.2)
section
variable {u v A B : Rat × Rat} {x y : Nat × Nat}
theorem Ap.pos (h : Ap u A x) : 0 ≤ A.1 ∧ 0 ≤ A.2 := by
  obtain ⟨a, b, -, -, e1, e2⟩ := h
  exact ⟨e2.pos, e1.pos⟩
theorem Ap.fin (h : Ap u A x) : fin32B x.1 = true ∧ fin32B x.2 = true := by
  obtain ⟨a, b, n1, n2, -⟩ := h
  exact ⟨nv_fin n1, nv_fin n2⟩
theorem Ap.le (h : Ap u A x) (hB : leB A B = true) : Ap u B x := by
  obtain ⟨a, b, n1, n2, e1, e2⟩ := h
  unfold leB at hB
  simp only [Bool.and_eq_true, decide_eq_true_eq] at hB
  exact ⟨a, b, n1, n2, e1.le hB.2, e2.le hB.1⟩
theorem Ap.exact {M : Rat} (n1 : NV .f32 x.1 u.1) (n2 : NV .f32 x.2 u.2) (h : E2 u.1 u.2 M) : Ap u (M, 0) x := ⟨u.1, u.2, n1, n2, by
  rw [show u.1 - u.1 = 0 by grind, show u.2 - u.2 = 0 by grind]
  exact E2.zero Rat.le_refl, h⟩
theorem Ap.mul (h : Ap u A x) (k : Ap v B y) (hM : okB ((A.1 + A.2) * (B.1 + B.2)) = true) : ∃ r, mulW x y = some r ∧ Ap (cm u v) (bm A B) r := by
  obtain ⟨a, b, n1, n2, e1, e2⟩ := h
  obtain ⟨c, d, n3, n4, e3, e4⟩ := k
  have hE := e2.of e1
  have hF := e4.of e3
  obtain ⟨r, π, κ, g, m1, m2, er⟩ := mulE n1 n2 n3 n4 hE hF (okB_md hM)
  have d1 := e1.mul hF
  have d2 := e2.mul e3
  have dd := d1.add d2
  rw [show (a - u.1) * c - (b - u.2) * d + (u.1 * (c - v.1) - u.2 * (d - v.2)) = (a * c - b * d) - (u.1 * v.1 - u.2 * v.2) by grind, show (a - u.1) * d + (b - u.2) * c + (u.1 * (d - v.2) + u.2 * (c - v.1)) = (a * d + b * c) - (u.1 * v.2 + u.2 * v.1) by grind] at dd
  have dt := er.trans dd
  refine ⟨r, g, π, κ, m1, m2, dt.le ?_, e2.mul e4⟩
  unfold bm
  simp only
  grind
theorem Ap.add (h : Ap u A x) (k : Ap v B y) (hM : okB (A.1 + B.1 + (A.2 + B.2)) = true) : ∃ r, plusW x y = some r ∧ Ap (ca u v) (bp A B) r := by
  obtain ⟨a, b, n1, n2, e1, e2⟩ := h
  obtain ⟨c, d, n3, n4, e3, e4⟩ := k
  have hd := e1.add e3
  rw [show a - u.1 + (c - v.1) = (a + c) - (u.1 + v.1) by grind, show b - u.2 + (d - v.2) = (b + d) - (u.2 + v.2) by grind] at hd
  have hE := (e2.add e4).of hd
  obtain ⟨r, π, κ, g, m1, m2, er⟩ := plusE n1 n2 n3 n4 hE (okB_md hM)
  refine ⟨r, g, π, κ, m1, m2, (er.trans hd).le ?_, e2.add e4⟩
  unfold bp
  simp only
  grind
theorem Ap.sub (h : Ap u A x) (k : Ap v B y) (hM : okB (A.1 + B.1 + (A.2 + B.2)) = true) : ∃ r, minusW x y = some r ∧ Ap (cs u v) (bp A B) r := by
  obtain ⟨a, b, n1, n2, e1, e2⟩ := h
  obtain ⟨c, d, n3, n4, e3, e4⟩ := k
  have hd := e1.sub e3
  rw [show a - u.1 - (c - v.1) = (a - c) - (u.1 - v.1) by grind, show b - u.2 - (d - v.2) = (b - d) - (u.2 - v.2) by grind] at hd
  have hE := (e2.sub e4).of hd
  obtain ⟨r, π, κ, g, m1, m2, er⟩ := minusE n1 n2 n3 n4 hE (okB_md hM)
  refine ⟨r, g, π, κ, m1, m2, (er.trans hd).le ?_, e2.sub e4⟩
  unfold bp
  simp only
  grind
theorem Ap.zero : Ap (0, 0) (0, 0) (0, 0) := Ap.exact nv_zero nv_zero (E2.zero Rat.le_refl)
theorem Ap.neg (k : Ap v B y) (hM : okB (B.1 + B.2) = true) : ∃ r, minusW (0, 0) y = some r ∧ Ap (cs (0, 0) v) (r1 B) r := by
  obtain ⟨r, g, h⟩ := Ap.sub Ap.zero k (by rw [show (0 : Rat) + B.1 + (0 + B.2) = B.1 + B.2 by grind]; exact hM)
  refine ⟨r, g, h.le ?_⟩
  unfold leB bp r1
  simp only [Bool.and_eq_true, decide_eq_true_eq]
  constructor <;> grind
/-- A quotient by 1. -/
theorem Ap.one (h : Ap u A x) (n3 : NV .f32 1065353216 1) (hM : okB (A.1 + A.2) = true) : ∃ r, quoW x (1065353216, 0) = some r ∧ Ap u (r1 A) r := by
  obtain ⟨a, b, n1, n2, e1, e2⟩ := h
  have hE := e2.of e1
  have hm := okB_md hM
  have ⟨m1, m2⟩ : 1 / 1000000000000 ≤ A.1 + A.2 ∧ A.1 + A.2 ≤ 1000000000000 := by
    unfold okB at hM
    simpa only [Bool.and_eq_true, decide_eq_true_eq] using hM
  obtain ⟨r, π, κ, g, k1, k2, er⟩ := quoE (y := (1065353216, 0)) (q := a) (r := b) n1 n2 n3 nv_zero (by grind) (by grind) hE hm ⟨by grind, by grind⟩ ⟨by grind, by grind⟩
  refine ⟨r, g, π, κ, k1, k2, (er.trans e1).le ?_, e2⟩
  unfold r1
  simp only
  grind
theorem Ap.scale {c : Nat} {κ : Rat} (h : Ap u A x) (hc : NV .f32 c κ) (hκ : 0 ≤ κ) (hM : okB (κ * (A.1 + A.2)) = true) : ∃ r, scaleW x c = some r ∧ Ap (cr κ u) (rs κ A) r := by
  obtain ⟨a, b, n1, n2, e1, e2⟩ := h
  have hE := e2.of e1
  have hm := okB_md hM
  have hs := hE.scale (t := κ) (T := κ) (by unfold Lm; constructor <;> grind)
  have l1 := hs.fst
  have l2 := hs.snd
  unfold Lm at l1 l2
  obtain ⟨p, π, g1, m1, e3⟩ := mulM n1 hc hm.mid (by grind) (by grind)
  obtain ⟨q, ρ, g2, m2, e4⟩ := mulM n2 hc hm.mid (by grind) (by grind)
  rw [un32] at e3 e4
  have e5 := E2.lm (lm_nr.1 e3) (lm_nr.1 e4)
  have hd := e1.scale (t := κ) (T := κ) (by unfold Lm; constructor <;> grind)
  rw [show κ * (a - u.1) = a * κ - κ * u.1 by grind, show κ * (b - u.2) = b * κ - κ * u.2 by grind] at hd
  have hp := hm.pos
  refine ⟨(p, q), by unfold scaleW; rw [g1, Option.bind_some, g2, Option.bind_some], π, ρ, m1, m2, (e5.trans hd).le ?_, e2.scale (by unfold Lm; constructor <;> grind)⟩
  unfold rs
  simp only
  grind
theorem Ap.part {k : Nat} {κ q : Rat} (h : Ap u A x) (hc : NV .f32 (floatOfInt .f32 (k : Int)) κ) (hq0 : 0 ≤ q) (hq : q * κ = 1) (hM : okB (q * (A.1 + A.2)) = true) : ∃ r, partW x k = some r ∧ Ap (cr q u) (rp q A) r := by
  obtain ⟨a, b, n1, n2, e1, e2⟩ := h
  have hE := e2.of e1
  have hm := okB_md hM
  have hs := hE.scale (t := q) (T := q) (by unfold Lm; constructor <;> grind)
  have l1 := hs.fst
  have l2 := hs.snd
  unfold Lm at l1 l2
  have hκ : κ ≠ 0 := fun e => by rw [e] at hq; grind
  obtain ⟨p, π, g1, m1, e3⟩ := quoM (q := q * a) n1 hc hκ (by rw [show q * a * κ = a * (q * κ) by grind, hq]; grind) hm.mid (by grind) (by grind)
  obtain ⟨s, ρ, g2, m2, e4⟩ := quoM (q := q * b) n2 hc hκ (by rw [show q * b * κ = b * (q * κ) by grind, hq]; grind) hm.mid (by grind) (by grind)
  rw [un32] at e3 e4
  have e5 := E2.lm (lm_nr.1 e3) (lm_nr.1 e4)
  have hd := e1.scale (t := q) (T := q) (by unfold Lm; constructor <;> grind)
  rw [show q * (a - u.1) = q * a - q * u.1 by grind, show q * (b - u.2) = q * b - q * u.2 by grind] at hd
  have hp := hm.pos
  refine ⟨(p, s), by unfold partW; rw [g1, Option.bind_some, g2, Option.bind_some], π, ρ, m1, m2, (e5.trans hd).le ?_, e2.scale (by unfold Lm; constructor <;> grind)⟩
  unfold rp
  simp only
  grind
end
end Go.Proofs.Ytlilhebnbhlkhaa
