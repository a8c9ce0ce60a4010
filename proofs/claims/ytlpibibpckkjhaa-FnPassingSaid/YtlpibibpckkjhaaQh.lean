/-
  Values and the length of the polynomial that passes: near the exact ones.
  The sum of the lengths of a list (laws.r8Sum): not below 0, nearly. The law's bounds as numbers.
  A drawn number by four, as a complex quotient.
  All that the law asks of drawn points, values and a drawn number.
-/
import Derived.Test.YtlpibibpckkjhaaQg
import Derived.Laws.ComplexQuo
import Derived.Test.YtlpibibpckkjhaaQn
import Derived.Test.YtlpibibpckkjhaaQo
import Derived.Test.YtlpibibpckkjhaaQi
import Derived.Test.YtlpibibpckkjhaaQs
import Derived.Test.YtlpibibpckkjhaaQz
import Derived.Test.YtlpibibpckkjhaaQw
import Derived.Test.YtlpibibpckkjhaaQt
import Derived.Test.YtlpibibpckkjhaaQq
namespace Go.Proofs.Ytlpibibpckkjhaa
open Go.RowKit
/-- Powers of a complex number. -/
def zp (ξ η : Rat) : Nat → Rat × Rat
  | 0 => (1, 0)
  | k + 1 => (ξ * (zp ξ η k).1 - η * (zp ξ η k).2, ξ * (zp ξ η k).2 + η * (zp ξ η k).1)
section
variable {ξ η Z : Rat} {ar ai re im : Nat → Rat} {t : Nat → Rat × Rat}
theorem zp_len (h : E2 ξ η Z) : ∀ k, E2 (zp ξ η k).1 (zp ξ η k).2 (pwr Z k)
  | 0 => by
    simp only [zp, pwr]
    exact E2.real (by unfold Lm; constructor <;> grind)
  | k + 1 => by
    have ih := h.mul (zp_len h k)
    simp only [zp, pwr]
    rwa [show pwr Z k * Z = Z * pwr Z k by grind]
theorem evP_monL (n m : Nat) : evP ξ η (monL n m) = zp ξ η m := by
  unfold monL
  generalize n - 1 - m = d
  induction m with
  | zero =>
    rw [List.replicate_zero, List.nil_append, evP, evP_zeros, zp]
    ext <;> simp only <;> grind
  | succ m ih =>
    rw [List.replicate_succ, List.cons_append, evP, ih, zp]
    ext <;> simp only <;> grind
theorem exZ_zp (n : Nat) : exZ ar ai n ξ η = lin ar ai (zp ξ η) n := by
  unfold exZ
  exact lin_congr n fun m _ => evP_monL n m
theorem lin_head : ∀ n, lin ar ai t (n + 1) = ((ar 0 * (t 0).1 - ai 0 * (t 0).2) + (lin (fun i => ar (i + 1)) (fun i => ai (i + 1)) (fun i => t (i + 1)) n).1, (ar 0 * (t 0).2 + ai 0 * (t 0).1) + (lin (fun i => ar (i + 1)) (fun i => ai (i + 1)) (fun i => t (i + 1)) n).2)
  | 0 => by
    simp only [lin]
    ext <;> simp only <;> grind
  | n + 1 => by
    rw [lin, lin_head n, lin]
    ext <;> simp only <;> grind
theorem lin_coef {br bi : Nat → Rat} : ∀ n, (∀ m, m < n → ar m = br m ∧ ai m = bi m) → lin ar ai t n = lin br bi t n
  | 0, _ => rfl
  | n + 1, h => by
    obtain ⟨h1, h2⟩ := h n (by omega)
    rw [lin, lin, lin_coef n (fun m hm => h m (by omega)), h1, h2]
theorem hC_lin {N : Nat} : ∀ j, j < N → hC re im ξ η N j = lin (fun i => re (N - 1 - j + i)) (fun i => im (N - 1 - j + i)) (zp ξ η) (j + 1)
  | 0, h => by
    simp only [hC, lin, zp, Nat.sub_zero, Nat.add_zero]
    ext <;> simp only <;> grind
  | j + 1, h => by
    have ih := hC_lin (N := N) j (by omega)
    rw [hC, ih, lin_head (j + 1)]
    have e0 : ∀ m, N - 1 - (j + 1) + (m + 1) = N - 1 - j + m := fun m => by omega
    have e1 : lin (fun i => re (N - 1 - (j + 1) + (i + 1))) (fun i => im (N - 1 - (j + 1) + (i + 1))) (fun i => zp ξ η (i + 1)) (j + 1) = lin (fun i => re (N - 1 - j + i)) (fun i => im (N - 1 - j + i)) (fun i => zp ξ η (i + 1)) (j + 1) := lin_coef (j + 1) fun m _ => ⟨congrArg re (e0 m), congrArg im (e0 m)⟩
    have e2 := lin_mul (ar := fun i => re (N - 1 - j + i)) (ai := fun i => im (N - 1 - j + i)) (t := zp ξ η) ξ η (j + 1)
    have e3 : (fun m => (ξ * (zp ξ η m).1 - η * (zp ξ η m).2, ξ * (zp ξ η m).2 + η * (zp ξ η m).1)) = fun i => zp ξ η (i + 1) := rfl
    rw [e3] at e2
    rw [e1, e2]
    have e4 : N - 2 - j = N - 1 - (j + 1) := by omega
    simp only [zp, Nat.add_zero, e4]
    ext <;> simp only <;> grind
theorem hC_top {N : Nat} (h : 1 ≤ N) : hC re im ξ η N (N - 1) = lin re im (zp ξ η) N := by
  rw [hC_lin (N - 1) (by omega), show N - 1 + 1 = N by omega]
  have e0 : ∀ m, N - 1 - (N - 1) + m = m := fun m => by omega
  exact lin_coef N fun m _ => ⟨congrArg re (e0 m), congrArg im (e0 m)⟩
theorem lin_tail {N : Nat} : ∀ n, N ≤ n → (∀ k, N ≤ k → k < n → re k = 0 ∧ im k = 0) → lin re im t n = lin re im t N
  | 0, h, _ => by
    obtain rfl : N = 0 := by omega
    rfl
  | n + 1, h, k => by
    by_cases e : N = n + 1
    · rw [e]
    · obtain ⟨k1, k2⟩ := k n (by omega) (by omega)
      rw [lin, lin_tail n (by omega) (fun i h1 h2 => k i h1 (by omega)), k1, k2]
      ext <;> simp only <;> grind
theorem lin_diff {e T : Nat → Rat} : ∀ n, (∀ m, m < n → E2 (re m - ar m) (im m - ai m) (e m)) → (∀ m, m < n → E2 (t m).1 (t m).2 (T m)) → E2 ((lin re im t n).1 - (lin ar ai t n).1) ((lin re im t n).2 - (lin ar ai t n).2) (sumF (fun m => e m * T m) n)
  | 0, _, _ => by
    simp only [lin, sumF]
    exact E2.refl 0 0
  | n + 1, h, k => by
    have ih := lin_diff n (fun m hm => h m (by omega)) (fun m hm => k m (by omega))
    have h1 := ih.add ((h n (by omega)).mul (k n (by omega)))
    simp only [lin, sumF]
    refine cast ?_ h1
    congr 1 <;> grind
theorem N1.e2 {a b M : Rat} (h : N1 a b M) : E2 a b M := by
  have h0 := h.pos
  obtain ⟨h1, h2, h3, h4⟩ := h
  refine ⟨h0, ?_⟩
  have k1 := Rat.mul_nonneg (show (0 : Rat) ≤ M - (a + b) by grind) (show (0 : Rat) ≤ M + (a + b) by grind)
  have k2 := Rat.mul_nonneg (show (0 : Rat) ≤ M - (a - b) by grind) (show (0 : Rat) ≤ M + (a - b) by grind)
  grind
theorem gC_const {K : Rat} (hK : 0 ≤ K) {N : Nat} : ∀ j, j ≤ 4 → 0 ≤ gC (fun _ => K) 5 N j ∧ gC (fun _ => K) 5 N j ≤ 781 * K := fun j hj => by
  have e0 : gC (fun _ => K) 5 N 0 = K := rfl
  have e1 : gC (fun _ => K) 5 N 1 = gC (fun _ => K) 5 N 0 * 5 + K := rfl
  have e2 : gC (fun _ => K) 5 N 2 = gC (fun _ => K) 5 N 1 * 5 + K := rfl
  have e3 : gC (fun _ => K) 5 N 3 = gC (fun _ => K) 5 N 2 * 5 + K := rfl
  have e4 : gC (fun _ => K) 5 N 4 = gC (fun _ => K) 5 N 3 * 5 + K := rfl
  rcases (show j = 0 ∨ j = 1 ∨ j = 2 ∨ j = 3 ∨ j = 4 by omega) with e | e | e | e | e <;> subst e <;> constructor <;> grind
end
theorem nv_det {k : FloatKind} {x : Nat} {a b : Rat} (h : NV k x a) (g : NV k x b) : a = b := by
  obtain ⟨s, m, i, h1, rfl⟩ := h
  obtain ⟨s', m', i', g1, rfl⟩ := g
  rw [h1] at g1
  cases g1
  rfl
theorem sumF_le3 {f g e : Nat → Rat} {L c : Rat} : ∀ n, (∀ k, k < n → f k ≤ g k + e k * L + c) → sumF f n ≤ sumF g n + sumF e n * L + ((n : Nat) : Rat) * c
  | 0, _ => by
    simp only [sumF]
    rw [show ((0 : Nat) : Rat) = 0 from rfl]
    grind
  | n + 1, h => by
    have ih := sumF_le3 n fun k hk => h k (by omega)
    have h1 := h n (by omega)
    rw [sumF, sumF, sumF, nat_succ_rat n]
    grind
theorem sumF_tail {f : Nat → Rat} {N : Nat} : ∀ n, N ≤ n → (∀ k, N ≤ k → k < n → f k = 0) → sumF f n = sumF f N
  | 0, h, _ => by
    obtain rfl : N = 0 := by omega
    rfl
  | n + 1, h, k => by
    by_cases e : N = n + 1
    · rw [e]
    · rw [sumF, sumF_tail n (by omega) (fun i h1 h2 => k i h1 (by omega)), k n (by omega) (by omega)]
      grind
theorem zp_real (x : Rat) : ∀ k, zp x 0 k = (pwr x k, 0)
  | 0 => rfl
  | k + 1 => by
    rw [zp, zp_real x k, pwr]
    ext <;> simp only <;> grind
section
variable {hs : List Nat} {n : Nat} {ar ai La : Nat → Rat} {L : Rat} {vals l : List (Nat × Nat)} {C e : Nat → Rat}
/-- A list near the exact coefficients. -/
structure Nl (n : Nat) (ar ai : Nat → Rat) (L : Rat) (e : Nat → Rat) (l : List (Nat × Nat)) : Prop where
  l1 : 1 ≤ l.length
  ln : l.length ≤ n
  v : polyB l = true
  e1 : ∀ k, k < n → e k ≤ 1 / 10
  es : sumF e n ≤ 34 / 1000
  q : ∀ k, k < n → ∃ a b, NV .f32 (l.getD k (0, 0)).1 a ∧ NV .f32 (l.getD k (0, 0)).2 b ∧ E2 (a - ar k) (b - ai k) (e k * L)
/-- The terms of a list near the exact coefficients, as numbers. -/
theorem near_val (h : Nl n ar ai L e l) : ∃ re im : Nat → Rat, (∀ k, k < n → NV .f32 (l.getD k (0, 0)).1 (re k) ∧ NV .f32 (l.getD k (0, 0)).2 (im k) ∧ E2 (re k - ar k) (im k - ai k) (e k * L)) ∧ ∀ k, l.length ≤ k → k < n → re k = 0 ∧ im k = 0 := by
  have key : ∀ k, ∃ a b, k < n → NV .f32 (l.getD k (0, 0)).1 a ∧ NV .f32 (l.getD k (0, 0)).2 b ∧ E2 (a - ar k) (b - ai k) (e k * L) := fun k => by
    by_cases hk : k < n
    · obtain ⟨a, b, n1, n2, e1⟩ := h.q k hk
      exact ⟨a, b, fun _ => ⟨n1, n2, e1⟩⟩
    · exact ⟨0, 0, fun h => absurd h hk⟩
  refine ⟨fun k => (key k).choose, fun k => (key k).choose_spec.choose, fun k hk => (key k).choose_spec.choose_spec hk, fun k h1 h2 => ?_⟩
  obtain ⟨n1, n2, -⟩ := (key k).choose_spec.choose_spec h2
  have e0 : l.getD k (0, 0) = (0, 0) := by rw [List.getD, List.getElem?_eq_none h1]; rfl
  exact ⟨nv_det n1 (show NV .f32 (l.getD k (0, 0)).1 0 by rw [e0]; exact nv_zero), nv_det n2 (show NV .f32 (l.getD k (0, 0)).2 0 by rw [e0]; exact nv_zero)⟩
theorem La_le (h : Cx hs n ar ai La L vals) : ∀ k, k < n → La k ≤ L := fun k hk => by
  have p : ∀ m, m < n → 0 ≤ La m := fun m hm => (h.a m hm).pos
  have k1 := sumF_upto p (n - (k + 1)) (by omega)
  rw [show n - (n - (k + 1)) = k + 1 by omega, sumF, ← h.s] at k1
  have k2 := sumF_pos (f := La) k fun m hm => p m (by omega)
  grind
/-- The value of the polynomial that passes. -/
theorem at_near (h : Cx hs n ar ai La L vals) (hL5 : L ≤ 500000) (hl : Nl n ar ai L e l)
    {x y : Nat} {ξ η Z E : Rat} (hx : NV .f32 x ξ) (hy : NV .f32 y η) (hz : N1 ξ η 5) (hZ : E2 ξ η Z) (hE : sumF (fun k => e k * pwr Z k) n ≤ E) :
    ∃ r a b, NV .f32 r.1 a ∧ NV .f32 r.2 b ∧ E2 (a - (exZ ar ai n ξ η).1) (b - (exZ ar ai n ξ η).2) ((E + 5 / 1000) * L) ∧ PAtR l (x, y) r := by
  obtain ⟨re, im, hv1, hv2⟩ := near_val hl
  obtain ⟨l1, l2⟩ := h.r
  have hn5 := h.n5
  have h1 := hl.l1
  have hln := hl.ln
  have hLa := La_le h
  have hT : TrmN l re im (fun _ => 12 / 5 * L) := fun k hk => by
    obtain ⟨n1, n2, e1⟩ := hv1 k (by omega)
    have hA := (h.a k (by omega)).of e1
    have b1 := hl.e1 k (by omega)
    have b2 := hLa k (by omega)
    have b3 := Rat.mul_nonneg (show (0 : Rat) ≤ 1 / 10 - e k by grind) (show (0 : Rat) ≤ L by grind)
    have hB := hA.le (show La k + e k * L ≤ 11 / 10 * L by grind)
    exact ⟨n1, n2, (N1.lm hB.fst hB.snd).le (by grind), by grind⟩
  have hG : ∀ j, j < l.length → gC (fun _ => 12 / 5 * L) 5 l.length j ≤ 10000000000 := fun j hj => by
    have k := (gC_const (N := l.length) (show (0 : Rat) ≤ 12 / 5 * L by grind) j (by omega)).2
    grind
  obtain ⟨r, s, π, κ, n1, n2, er, HP⟩ := polyAt_g l.length x y l rfl re im (fun _ => 12 / 5 * L) ξ η 5 hT hx hy hz ⟨by grind, by grind⟩ hG h1 (by omega) hl.v
  rw [hC_top h1, ← lin_tail n hln hv2] at er
  obtain ⟨g1, g2⟩ := gC_const (N := l.length) (show (0 : Rat) ≤ 12 / 5 * L by grind) (l.length - 1) (by omega)
  have hN5 := nat_le_rat (show l.length ≤ 5 by omega)
  rw [show ((5 : Nat) : Rat) = 5 from rfl] at hN5
  have k1 := Rat.mul_nonneg (show (0 : Rat) ≤ 5 - ((l.length : Nat) : Rat) by grind) g1
  have hd := lin_diff (re := re) (im := im) (ar := ar) (ai := ai) (t := zp ξ η) (e := fun k => e k * L) (T := pwr Z) n (fun m hm => (hv1 m hm).2.2) (fun m _ => zp_len hZ m)
  rw [← exZ_zp (ar := ar), sumF_congr (g := fun k => e k * pwr Z k * L) n (fun k _ => by grind), sumF_mul] at hd
  have k2 := Rat.mul_nonneg (show (0 : Rat) ≤ E - sumF (fun k => e k * pwr Z k) n by grind) (show (0 : Rat) ≤ L by grind)
  exact ⟨(r, s), π, κ, n1, n2, ((N1.e2 er).trans hd).le (by grind), fun A c w hr => HP A c w hr⟩
/-- The length of the polynomial that passes. -/
theorem long_near (h : Cx hs n ar ai La L vals) (hL5 : L ≤ 500000) (hl : Nl n ar ai L e l) {t : Nat → Rat} (ht : ∀ m, m < n → 0 ≤ t m ∧ t m * t m ≤ ar m * ar m + ai m * ai m ∧ La m ≤ t m + 1 / 500 ∧ 1 / 1000 ≤ La m)
    (A : Option Addr) (c : Nat) (w : World) (hr : Reads w w.heap.size 1 A l.length (cplx l)) :
    Calls Try.prog 26 #[.agg #[.slice A l.length c]] w fun e w' => ∃ r v, e = .returned (.tuple #[.float .f32 r, .bool true]) ∧ NV .f32 r v ∧ v ≤ 3 * L ∧ 96 / 100 * L - 11 / 1000 ≤ v ∧ -(1 / 100 * L) ≤ v ∧ Below w.heap.size w w' := by
  obtain ⟨re, im, hv1, hv2⟩ := near_val hl
  obtain ⟨l1, l2⟩ := h.r
  have hn5 := h.n5
  have h1 := hl.l1
  have hln := hl.ln
  have hLa := La_le h
  have hR : ∀ k, k < n → E2 (re k) (im k) (La k + e k * L) ∧ 0 ≤ e k * L ∧ e k * L ≤ 1 / 10 * L := fun k hk => by
    obtain ⟨n1, n2, e1⟩ := hv1 k hk
    have b1 := hl.e1 k hk
    have b3 := Rat.mul_nonneg (show (0 : Rat) ≤ 1 / 10 - e k by grind) (show (0 : Rat) ≤ L by grind)
    exact ⟨(h.a k hk).of e1, e1.pos, by grind⟩
  obtain ⟨t', ht'⟩ : ∃ t' : Nat → Rat, ∀ k, t' k = if 0 < t k - e k * L - 1 / 100000 then t k - e k * L - 1 / 100000 else 0 := ⟨_, fun _ => rfl⟩
  have ht0 : ∀ k, 0 ≤ t' k := fun k => by rw [ht']; split <;> grind
  have htt : ∀ k, k < n → t' k * t' k ≤ re k * re k + im k * im k := fun k hk => by
    rw [ht']
    split
    · rename_i hp
      rcases (show (t k - e k * L - 1 / 100000) * (t k - e k * L - 1 / 100000) ≤ re k * re k + im k * im k ∨ re k * re k + im k * im k ≤ (t k - e k * L - 1 / 100000) * (t k - e k * L - 1 / 100000) by grind) with k1 | k1
      · exact k1
      · exfalso
        have k2 : E2 (re k) (im k) (t k - e k * L - 1 / 100000) := ⟨by grind, k1⟩
        have k3 := k2.of (hv1 k hk).2.2.sym
        have k4 := (ht k hk).2.1
        have k5 := k3.2
        have k6 := (hR k hk).2.1
        rw [show t k - e k * L - 1 / 100000 + e k * L = t k - 1 / 100000 by grind] at k5
        grind
    · have := sq_pos (re k)
      have := sq_pos (im k)
      grind
  have hS1 : sumF (fun k => La k + e k * L) n ≤ 21 / 20 * L := by
    rw [sumF_add n, sumF_mul, ← h.s]
    have := Rat.mul_nonneg (show (0 : Rat) ≤ 34 / 1000 - sumF e n by have := hl.es; grind) (show (0 : Rat) ≤ L by grind)
    grind
  have hS2 := sumF_upto (f := fun k => La k + e k * L) (n := n) (fun k hk => (hR k hk).1.pos) (n - l.length) (by omega)
  rw [show n - (n - l.length) = l.length by omega] at hS2
  have hS3 : sumF t' n = sumF t' l.length := sumF_tail n hln fun k k1 k2 => by
    obtain ⟨e1, e2⟩ := hv2 k k1 k2
    have e3 := htt k k2
    have e4 := ht0 k
    rw [e1, e2] at e3
    rcases (show t' k = 0 ∨ 0 < t' k by grind) with e5 | e5
    · exact e5
    · have := Rat.mul_pos e5 e5
      grind
  have hS4 := sumF_le3 (f := La) (g := t') (e := e) (L := L) (c := 1 / 500 + 1 / 100000) n fun k hk => by
    have e1 := (ht k hk).2.2.1
    rw [ht']
    split <;> grind
  rw [← h.s, hS3] at hS4
  have hn5r := nat_le_rat hn5
  rw [show ((5 : Nat) : Rat) = 5 from rfl] at hn5r
  have hes := Rat.mul_nonneg (show (0 : Rat) ≤ 34 / 1000 - sumF e n by have := hl.es; grind) (show (0 : Rat) ≤ L by grind)
  have hp0 := sumF_pos (f := t') l.length fun k _ => ht0 k
  refine (longOfPoly_g A c l.length l rfl re im (fun k => La k + e k * L) t' (21 / 20 * L) (by omega) (fun k hk => ?_) (by grind) ⟨by grind, by grind⟩ hl.v w hr).mono ?_
  · obtain ⟨n1, n2, -⟩ := hv1 k (by omega)
    obtain ⟨r1, r2, r3⟩ := hR k (by omega)
    have := (ht k (by omega)).2.2.2
    have := hLa k (by omega)
    exact ⟨n1, n2, r1, ⟨by grind, by grind⟩, ht0 k, htt k (by omega)⟩
  · rintro e w' ⟨r, v, rfl, nv, v1, v2, hb⟩
    exact ⟨r, v, rfl, nv, by grind, by grind, by grind, hb⟩
theorem hw_nv {k : Nat} (hk : k < 19) : NV .f32 (hw k) (hwV k) := (hw_ok k hk).1
/-- How far the polynomial misses the values. -/
theorem miss_near (h : Cx hs n ar ai La L vals) (hL5 : L ≤ 500000) (hl : Nl n ar ai L e l) (hE : ∀ i, i < n → sumF (fun k => e k * pwr (ab (xv hs i)) k) n ≤ 1 / 4) (hP : PtsOk (ptsL hs)) (hV : vals.all finCB = true)
    (A0 A A' : Option Addr) (c0 c c' : Nat) (hc : n ≤ c) (w : World) (hr0 : Reads w w.heap.size 1 A0 l.length (cplx l)) (hr : Reads w w.heap.size 1 A n (cplx (ptsL hs))) (hr' : Reads w w.heap.size 1 A' n (cplx vals)) :
    Calls Try.prog 33 #[.agg #[.slice A0 l.length c0], .slice A n c, .slice A' n c'] w fun e w' => ∃ m v, e = .returned (.tuple #[.float .f32 m, .bool true]) ∧ NV .f32 m v ∧ 0 ≤ v ∧ v ≤ 27 / 100 * L ∧ Below w.heap.size w w' := by
  obtain ⟨l1, l2⟩ := h.r
  refine missOf_v A0 A A' c0 c c' n l.length l (ptsL hs) vals (27 / 100 * L) (by grind) rfl (by rw [ptsL_len]; exact h.len) h.vl hc hP hV hl.v (fun i hi => ?_) w hr0 hr hr'
  have hx := h.hh i hi
  have hX := hw_bd _ hx
  obtain ⟨r, a, b, n1, n2, er, HP⟩ := at_near h hL5 hl (hw_nv hx) nv_zero (ξ := xv hs i) (η := 0) (show N1 _ _ _ from ((N1.lm hX (show Lm 0 0 by unfold Lm; constructor <;> grind)).le (by grind))) (E2.real (ab_lm (xv hs i))) (hE i hi)
  have e1 := h.v1 i hi
  have e2 := h.v2 i hi
  rw [exZ_zp, show zp (xv hs i) 0 = fun m => (pwr (xv hs i) m, 0) from funext (zp_real (xv hs i))] at er
  obtain ⟨d, π, κ, g1, m1, m2, er2⟩ := minusE n1 n2 e1 e2 er ⟨by grind, by grind⟩
  have hE2 := er.of er2
  obtain ⟨y, v, g2, ny, y1, -⟩ := longE m1 m2 (hE2.le (show _ ≤ 26 / 100 * L by grind)) ⟨by grind, by grind⟩
  exact ⟨r, d, y, v, by rw [ptsL_at (by rw [h.len]; exact hi)]; exact HP, g1, g2, ny, by grind⟩
end
end Go.Proofs.Ytlpibibpckkjhaa
namespace Go.Proofs.Ytlpibibpckkjhaa
open Go.RowKit
def PSum (k s : Nat) : Prop := ∃ σ, NV .f64 s σ ∧ 0 - ((k : Nat) : Rat) / 10000 ≤ σ ∧ σ ≤ ((k : Nat) : Rat) * 200
theorem psum_step {k s v : Nat} {t : Rat} (hk : k ≤ 17) (h : PSum k s) (ht : NV .f32 v t) (t1 : 0 - 1 / 20000 ≤ t) (t2 : t ≤ 190) :
    ∃ v' s', floatToFloatBits .f32 v .f64 = some v' ∧ floatBits .add .f64 s v' = some s' ∧ PSum (k + 1) s' := by
  obtain ⟨σ, hs, s1, s2⟩ := h
  have hk20 := nat_le_rat hk
  have hk0 := nat_le_rat (Nat.zero_le k)
  have e0 : ((0 : Nat) : Rat) = 0 := rfl
  have e20 : ((17 : Nat) : Rat) = 17 := rfl
  rw [e0] at hk0
  rw [e20] at hk20
  obtain ⟨v', g2, n2⟩ := wide_exact ht
  obtain ⟨s', d, g3, n3, r3⟩ := addM hs n2 (M := 40000) ⟨by grind, by grind⟩ (by grind) (by grind)
  rw [un64] at r3
  unfold Nr at r3
  refine ⟨v', s', g2, g3, d, n3, ?_, ?_⟩
  · rw [nat_succ_rat k]; grind
  · rw [nat_succ_rat k]; grind
theorem psum_zero : PSum 0 0 := ⟨0, nv64_zero, by have e0 : ((0 : Nat) : Rat) = 0 := rfl; rw [e0]; constructor <;> grind⟩
/-- The sums of the lengths, one after the other. -/
theorem psum_seq {l : List (Nat × Nat)} : ∀ n, n ≤ 17 → (∀ k, k < n → ∃ a b, NV .f32 (l.getD k (0, 0)).1 a ∧ NV .f32 (l.getD k (0, 0)).2 b ∧ Lm a 64 ∧ Lm b 64) →
    ∃ S : Nat → Nat, S 0 = 0 ∧ PSum n (S n) ∧ ∀ k, k < n → ∃ r v, (∀ w, Calls Try.prog 54 #[.complex .f32 (l.getD k (0, 0)).1 (l.getD k (0, 0)).2] w fun e w' => e = .returned (.float .f32 r) ∧ w' = w) ∧ floatToFloatBits .f32 r .f64 = some v ∧ floatBits .add .f64 (S k) v = some (S (k + 1))
  | 0, _, _ => ⟨fun _ => 0, rfl, psum_zero, fun k hk => absurd hk (Nat.not_lt_zero _)⟩
  | n + 1, hn, hT => by
    obtain ⟨S, h0, h1, h2⟩ := psum_seq n (by omega) fun k hk => hT k (by omega)
    obtain ⟨a, b, x1, x2, x3, x4⟩ := hT n (by omega)
    obtain ⟨r, t1, v1, -, v2, v3, -, HL⟩ := long64_m x1 x2 (M := 128) (by constructor <;> grind) (x3.le (by grind)) (x4.le (by grind))
    obtain ⟨vv, s', g2, g3, hS2⟩ := psum_step (by omega) h1 v1 (by grind) (by grind)
    have en : ¬ n + 1 ≤ n := by omega
    refine ⟨fun k => if k ≤ n then S k else s', by simp [h0], by simpa only [if_neg en] using hS2, fun k hk => ?_⟩
    simp only
    by_cases e : k = n
    · subst e
      exact ⟨r, vv, HL, g2, by rw [if_pos (Nat.le_refl _), if_neg en]; exact g3⟩
    · obtain ⟨r', v', H', e1, e2⟩ := h2 k (by omega)
      exact ⟨r', v', H', e1, by rw [if_pos (by omega), if_pos (by omega)]; exact e2⟩
set_option maxRecDepth 100000 in
set_option maxHeartbeats 1600000 in
theorem r8Sum_v (n : Nat) (l : List (Nat × Nat)) (hl : l.length = n) (hn : n ≤ 17) (hT : ∀ k, k < n → ∃ a b, NV .f32 (l.getD k (0, 0)).1 a ∧ NV .f32 (l.getD k (0, 0)).2 b ∧ Lm a 64 ∧ Lm b 64) :
    ∃ s σ, NV .f64 s σ ∧ 0 - 1 / 100 ≤ σ ∧ σ ≤ 4000 ∧ ∀ (A : Option Addr) (c B : Nat) (w : World), Reads w B 1 A n (cplx l) → Calls Try.prog 41 #[.slice A n c] w fun e w' => e = .returned (.float .f64 s) ∧ w' = w := by
  subst hl
  obtain ⟨S, h0, h1, h2⟩ := psum_seq l.length hn hT
  obtain ⟨σ, s1, s2, s3⟩ := h1
  have h7 := nat_le_rat hn
  have e7 : ((17 : Nat) : Rat) = 17 := rfl
  rw [e7] at h7
  refine ⟨S l.length, σ, s1, by grind, by grind, fun A c B w hr => ?_⟩
  clear s1 s2 s3 h7 hT
  replace h2 := Lib.hid h2
  go_enter Try.func41, Try.ntmps41
  go_wp2
  go_loopw [3, 4] (fun s q wr => ∃ j : Nat, j ≤ l.length ∧ q = .int .i64 (j : Int) ∧ s = .float .f64 (S j) ∧ wr = w) (fun _ q _ => l.length - (intOf q).toNat)
  case atStart => exact ⟨0, Nat.zero_le _, rfl, by rw [h0], rfl⟩
  case round =>
    obtain ⟨j, hj, rfl, rfl, rfl⟩ := hrel
    by_cases hlt : j < l.length
    · obtain ⟨r, vv, HL, g2, g3⟩ := h2.out j hlt
      have k2 := cvW g2
      have k3 := ar64 _ _ _ _ g3
      obtain ⟨ad', e, -, hc1⟩ := comp_at hr hlt
      subst e
      have hj0 : (0 : Int) ≤ (j : Int) := by omega
      clear g2 g3 hr h2 h0
      generalize l.getD j (0, 0) = X at *
      go_wp2_with fail
      refine (HL _).mono ?_
      rintro e w2 ⟨rfl, rfl⟩
      go_wp2
      go_roundw
      case rel => exact ⟨j + 1, by omega, by go_num, rfl, trivial⟩
      case measure => (simp [intOf]; all_goals omega)
    · obtain rfl : j = l.length := by omega
      clear hr h2
      go_wp2
      go_ret
      exact ⟨rfl, rfl⟩
theorem nv_02 : NV .f64 4581421828931458171 (5764607523034235 / 288230376151711744) := nv64_is (by decide +kernel) (by decide +kernel)
theorem nv_50 : NV .f64 4632233691727265792 50 := nv64_is (by decide +kernel) (by decide +kernel)
theorem nv_700 : NV .f64 4649368480934526976 700 := nv64_is (by decide +kernel) (by decide +kernel)
/-- 0.01 * (1 + long * 700). -/
theorem bnd_miss {m r : Nat} {μ v L : Rat} (hm : NV .f32 m μ) (hr : NV .f32 r v) (hL : 1 / 1000 ≤ L ∧ L ≤ 500000) (m1 : μ ≤ 27 / 100 * L) (v1 : v ≤ 3 * L) (v2 : 96 / 100 * L - 11 / 1000 ≤ v) (v3 : -(1 / 100 * L) ≤ v) :
    ∃ m' r' p q s, floatToFloatBits .f32 m .f64 = some m' ∧ floatToFloatBits .f32 r .f64 = some r' ∧ floatBits .mul .f64 r' 4649368480934526976 = some p ∧ floatBits .add .f64 4607182418800017408 p = some q ∧ floatBits .mul .f64 4576918229304087675 q = some s ∧ (FloatKind.f64.format.order m' s == some .gt) = false := by
  obtain ⟨m', f1, n1⟩ := wide_exact hm
  obtain ⟨r', f2, n2⟩ := wide_exact hr
  obtain ⟨p, π, g1, k1, e1⟩ := mulM n2 nv_700 (M := 2000000000) ⟨by grind, by grind⟩ (by grind) (by grind)
  rw [un64] at e1
  unfold Nr at e1
  obtain ⟨q, κ, g2, k2, e2⟩ := addM nv64_one k1 (M := 2000000000) ⟨by grind, by grind⟩ (by grind) (by grind)
  rw [un64] at e2
  unfold Nr at e2
  obtain ⟨s, σ, g3, k3, e3⟩ := mulM nv_01 k2 (M := 40000000) ⟨by grind, by grind⟩ (by grind) (by grind)
  rw [un64] at e3
  unfold Nr at e3
  exact ⟨m', r', p, q, s, f1, f2, g1, g2, g3, gt_no n1 k3 (by grind)⟩
/-- 0.02 * (1 + long * 50). -/
theorem bnd_far {r : Nat} {v L : Rat} (hr : NV .f32 r v) (hL : 1 / 1000 ≤ L ∧ L ≤ 500000) (v1 : v ≤ 3 * L) (v2 : 96 / 100 * L - 11 / 1000 ≤ v) :
    ∃ r' p q s σ, floatToFloatBits .f32 r .f64 = some r' ∧ floatBits .mul .f64 r' 4632233691727265792 = some p ∧ floatBits .add .f64 4607182418800017408 p = some q ∧ floatBits .mul .f64 4581421828931458171 q = some s ∧ NV .f64 s σ ∧ 68 / 100 * L + 1 / 1000 ≤ σ := by
  obtain ⟨r', f2, n2⟩ := wide_exact hr
  obtain ⟨p, π, g1, k1, e1⟩ := mulM n2 nv_50 (M := 200000000) ⟨by grind, by grind⟩ (by grind) (by grind)
  rw [un64] at e1
  unfold Nr at e1
  obtain ⟨q, κ, g2, k2, e2⟩ := addM nv64_one k1 (M := 200000000) ⟨by grind, by grind⟩ (by grind) (by grind)
  rw [un64] at e2
  unfold Nr at e2
  obtain ⟨s, σ, g3, k3, e3⟩ := mulM nv_02 k2 (M := 40000000) ⟨by grind, by grind⟩ (by grind) (by grind)
  rw [un64] at e3
  unfold Nr at e3
  exact ⟨r', p, q, s, σ, f2, g1, g2, g3, k3, by grind⟩
/-- Words near an exact number, by a share of L. -/
def Nz (L : Rat) (u : Rat × Rat) (e : Rat) (x : Nat × Nat) : Prop := ∃ a b, NV .f32 x.1 a ∧ NV .f32 x.2 b ∧ E2 (a - u.1) (b - u.2) (e * L)
theorem LQ.nz {L M e f : Rat} {u : Rat × Rat} {x : Nat × Nat} (h : LQ L u M e x) (hL : 0 ≤ L) (hf : e ≤ f) : Nz L u f x := by
  obtain ⟨a, b, n1, n2, e1, -⟩ := h
  have := Rat.mul_nonneg (show (0 : Rat) ≤ f - e by grind) hL
  exact ⟨a, b, n1, n2, e1.le (by grind)⟩
theorem Nz.fin {L e : Rat} {u : Rat × Rat} {x : Nat × Nat} (h : Nz L u e x) : fin32B x.1 = true ∧ fin32B x.2 = true := by
  obtain ⟨a, b, n1, n2, -⟩ := h
  exact ⟨nv_fin n1, nv_fin n2⟩
theorem e2_ab {a b M : Rat} (h : E2 a b M) : ab a + ab b ≤ 14143 / 10000 * M := by
  have h0 := h.pos
  have h1 := h.2
  have e1 : ab a * ab a = a * a := by unfold ab; split <;> grind
  have e2 : ab b * ab b = b * b := by unfold ab; split <;> grind
  refine le_of_sq (by grind) ?_
  have := sq_pos (ab a - ab b)
  have := sq_pos M
  grind
theorem far_near {L e f : Rat} {u : Rat × Rat} {x y : Nat × Nat} (hL : 1 / 1000 ≤ L ∧ L ≤ 500000) (hx : Nz L u e x) (hy : Nz L u f y) (he : e + f ≤ 48 / 100) :
    ∃ g φ, NV .f64 g φ ∧ φ ≤ 68 / 100 * L + 1 / 10000 ∧ ∀ w, Calls Try.prog 18 #[.complex .f32 x.1 x.2, .complex .f32 y.1 y.2] w fun e w' => e = .returned (.float .f64 g) ∧ w' = w := by
  obtain ⟨a, b, n1, n2, e1⟩ := hx
  obtain ⟨c, d, n3, n4, e2⟩ := hy
  have hd := e1.trans e2.sym
  have hk := Rat.mul_nonneg (show (0 : Rat) ≤ 48 / 100 - (e + f) by grind) (show (0 : Rat) ≤ L by grind)
  have hd2 := hd.le (show _ ≤ 48 / 100 * L by grind)
  have hs := e2_ab hd2
  obtain ⟨g, φ, ng, -, h1, H⟩ := far_m n1 n2 n3 n4 (M := 1000000000) (by constructor <;> grind) (hd2.fst.le (by grind)) (hd2.snd.le (by grind))
  have h2 := h1 (ab (a - c)) (ab (b - d)) (lm_nr.2 (ab_lm _)) (lm_nr.2 (ab_lm _))
  exact ⟨g, φ, ng, by grind, H⟩
/-- The test of the weights' sum. -/
theorem bnd_sum {x : Nat × Nat} {a b : Rat} (hx : NV .f32 x.1 a) (hy : NV .f32 x.2 b) (h1 : Lm a (1 / 1000)) (h2 : Lm b (1 / 1000)) :
    ∃ g, (∀ w, Calls Try.prog 18 #[.complex .f32 x.1 x.2, .complex .f32 0 0] w fun e w' => e = .returned (.float .f64 g) ∧ w' = w) ∧
      ∀ s σ, NV .f64 s σ → 0 - 1 / 100 ≤ σ → σ ≤ 4000 → ∃ p q, floatBits .add .f64 4607182418800017408 s = some p ∧ floatBits .mul .f64 4576918229304087675 p = some q ∧ (FloatKind.f64.format.order g q == some .lt) = true := by
  obtain ⟨g, φ, ng, -, k1, H⟩ := far_m hx hy nv_zero nv_zero (M := 1) (by constructor <;> grind) (by unfold Lm at h1 ⊢; constructor <;> grind) (by unfold Lm at h2 ⊢; constructor <;> grind)
  have k2 := k1 (1 / 1000) (1 / 1000) (by unfold Lm at h1; unfold Nr; constructor <;> grind) (by unfold Lm at h2; unfold Nr; constructor <;> grind)
  refine ⟨g, H, fun s σ hs s1 s2 => ?_⟩
  obtain ⟨p, π, g1, n1, e1⟩ := addM nv64_one hs (M := 5000) ⟨by grind, by grind⟩ (by grind) (by grind)
  rw [un64] at e1
  unfold Nr at e1
  obtain ⟨q, κ, g2, n2, e2⟩ := mulM nv_01 n1 (M := 1000) ⟨by grind, by grind⟩ (by grind) (by grind)
  rw [un64] at e2
  unfold Nr at e2
  exact ⟨p, q, g1, g2, lt_yes ng n2 (by grind)⟩
/-- The sum of the weights, out of the first ones. -/
def sumW (ws : List (Nat × Nat)) : Nat → Option (Nat × Nat)
  | 0 => some (0, 0)
  | k + 1 => (sumW ws k).bind fun s => plusW s (ws.getD k (0, 0))
theorem sumW_near {X : Nat → Rat} {n : Nat} {ws : List (Nat × Nat)} (hn : n ≤ 5) (hw : ∀ k, k < n → ab (wX X n k) ≤ 60) (h : ∀ k, k < n → ∃ V, NV .f32 (ws.getD k (0, 0)).1 V ∧ NV .f32 (ws.getD k (0, 0)).2 0 ∧ Lm (V - wX X n k) (ab (wX X n k) / 11000000)) :
    ∀ k, k ≤ n → ∃ s a b, sumW ws k = some s ∧ NV .f32 s.1 a ∧ NV .f32 s.2 b ∧ E2 (a - sumF (wX X n) k) b (((k : Nat) : Rat) * (4 / 100000)) ∧ Lm (sumF (wX X n) k) (((k : Nat) : Rat) * 60)
  | 0, _ => ⟨(0, 0), 0, 0, rfl, nv_zero, nv_zero, by
      rw [show ((0 : Nat) : Rat) = 0 from rfl, sumF, show (0 : Rat) - 0 = 0 by grind]
      exact E2.zero (by grind), by
      rw [show ((0 : Nat) : Rat) = 0 from rfl, sumF]
      unfold Lm; constructor <;> grind⟩
  | k + 1, hk => by
    obtain ⟨s, a, b, g, n1, n2, e1, l1⟩ := sumW_near hn hw h k (by omega)
    obtain ⟨V, m1, m2, m3⟩ := h k (by omega)
    have hwk := hw k (by omega)
    have hwl := ab_lm (wX X n k)
    have hk4 := nat_le_rat (show k ≤ 4 by omega)
    rw [show ((4 : Nat) : Rat) = 4 from rfl] at hk4
    have hd := e1.add (E2.real m3)
    rw [show a - sumF (wX X n) k + (V - wX X n k) = (a + V) - (sumF (wX X n) k + wX X n k) by grind] at hd
    have hex : E2 (sumF (wX X n) k + wX X n k) 0 300 := E2.real ((l1.add hwl).le (by grind))
    have hE := hex.of (a := a + V) (b := b + 0) (by rw [show b + 0 - 0 = b + 0 by grind]; exact hd)
    obtain ⟨r, π, κ, g2, k1, k2, er⟩ := plusE n1 n2 m1 m2 (hE.le (show _ ≤ 301 by grind)) ⟨by grind, by grind⟩
    refine ⟨r, π, κ, by rw [sumW, g, Option.bind_some, g2], k1, k2, ?_, ?_⟩
    · have h3 := er.trans (u := sumF (wX X n) k + wX X n k) (v := 0) (by rw [show b + 0 - 0 = b + 0 by grind]; exact hd)
      rw [show κ - 0 = κ by grind] at h3
      rw [sumF, nat_succ_rat k]
      exact h3.le (by grind)
    · rw [sumF, nat_succ_rat k]
      exact (l1.add hwl).le (by grind)
end Go.Proofs.Ytlpibibpckkjhaa
namespace Go.Proofs.Ytlpibibpckkjhaa
open Go.RowKit
def w4 : Nat := 4616189618054758400
def zqC (a b : Nat) : Option (Nat × Nat) :=
  (floatBits .quo .f64 0 w4).bind fun ratio => (floatBits .mul .f64 ratio 0).bind fun rd => (floatBits .add .f64 w4 rd).bind fun denom =>
  (floatBits .mul .f64 b ratio).bind fun br => (floatBits .add .f64 a br).bind fun n1 => (floatBits .quo .f64 n1 denom).bind fun e =>
  (floatBits .mul .f64 a ratio).bind fun ar => (floatBits .sub .f64 b ar).bind fun n2 => (floatBits .quo .f64 n2 denom).bind fun f => if (!(Op.Complex.isNaN e && Op.Complex.isNaN f)) = true then some (e, f) else none
def zqO (x : Nat × Nat) : Option (Nat × Nat) := (widW x.1).bind fun a => (widW x.2).bind fun b => (zqC a b).bind fun t => (narW t.1).bind fun p => (narW t.2).bind fun q => some (p, q)
theorem w4_ok : widW 1082130432 = some w4 ∧ widW 0 = some 0 ∧ absGe w4 0 = true := by decide +kernel
def nz : Nat := 9223372036854775808
def qa (i : Nat) : Nat := (widW (qz i)).getD 0
def zqT (op : BinOp) (i s : Nat) : Bool := match (floatBits op .f64 (qa i) s).bind fun n => floatBits .quo .f64 n w4 with
  | some e => narW e == some (zt i) && !Op.Complex.isNaN e
  | none => false
def zqB (i : Nat) : Bool := widW (qz i) == some (qa i) && (floatBits .mul .f64 (qa i) 0 == some 0 || floatBits .mul .f64 (qa i) 0 == some nz) && zqT .add i 0 && zqT .add i nz && zqT .sub i 0 && zqT .sub i nz
theorem zq_tab : (List.range 33).all zqB = true := by decide +kernel
theorem zq_one : floatBits .quo .f64 0 w4 = some 0 ∧ floatBits .mul .f64 0 0 = some 0 ∧ floatBits .add .f64 w4 0 = some w4 := by decide +kernel
theorem zqT_is {op : BinOp} {i s : Nat} (h : zqT op i s = true) : ∃ n e, floatBits op .f64 (qa i) s = some n ∧ floatBits .quo .f64 n w4 = some e ∧ narW e = some (zt i) ∧ Op.Complex.isNaN e = false := by
  unfold zqT at h
  split at h
  · rename_i e he
    rw [Option.bind_eq_some_iff] at he
    obtain ⟨n, h1, h2⟩ := he
    simp only [Bool.and_eq_true, beq_iff_eq, Bool.not_eq_true'] at h
    exact ⟨n, e, h1, h2, h.1, h.2⟩
  · cases h
theorem zq_part (i : Nat) (hi : i < 33) : widW (qz i) = some (qa i) ∧ ∃ s, floatBits .mul .f64 (qa i) 0 = some s ∧ (s = 0 ∨ s = nz) := by
  have h := List.all_eq_true.1 zq_tab i (List.mem_range.2 hi)
  unfold zqB at h
  simp only [Bool.and_eq_true, beq_iff_eq, Bool.or_eq_true] at h
  obtain ⟨⟨⟨⟨⟨h1, h2⟩, -⟩, -⟩, -⟩, -⟩ := h
  exact ⟨h1, h2.elim (fun k => ⟨_, k, .inl rfl⟩) (fun k => ⟨_, k, .inr rfl⟩)⟩
theorem zq_op (i s : Nat) (hi : i < 33) (hs : s = 0 ∨ s = nz) : zqT .add i s = true ∧ zqT .sub i s = true := by
  have h := List.all_eq_true.1 zq_tab i (List.mem_range.2 hi)
  unfold zqB at h
  simp only [Bool.and_eq_true] at h
  obtain ⟨⟨⟨⟨-, h1⟩, h2⟩, h3⟩, h4⟩ := h
  rcases hs with e | e <;> subst e
  · exact ⟨h1, h3⟩
  · exact ⟨h2, h4⟩
theorem zq_at (i j : Nat) (hi : i < 33) (hj : j < 33) : zqO (qz i, qz j) = some (zt i, zt j) := by
  obtain ⟨a1, s1, a2, a3⟩ := zq_part i hi
  obtain ⟨b1, s2, b2, b3⟩ := zq_part j hj
  obtain ⟨n, e, c1, c2, c3, c4⟩ := zqT_is (zq_op i s2 hi b3).1
  obtain ⟨m, f, d1, d2, d3, d4⟩ := zqT_is (zq_op j s1 hj a3).2
  obtain ⟨k1, k2, k3⟩ := zq_one
  unfold zqO zqC
  simp only [a1, b1, Option.bind_some, k1, k2, k3, b2, c1, c2, a2, d1, d2, c4, d4, Bool.and_self, Bool.not_false, if_true, c3, d3]
theorem conv_run {s k : FloatKind} {b r : Nat} (h : floatToFloatBits s b k = some r) (hne : s ≠ k) (w : World) : (Op.Complex.conv s b k).run Try.prog w = .ok r w := by
  unfold Op.Complex.conv
  rw [if_neg hne]
  simp [run_floatToFloat w h]
theorem zq_run {x r : Nat × Nat} (h : zqO x = some r) (t : TypeId) (w : World) : (binOp .quo t (.complex .f32 x.1 x.2) (.complex .f32 1082130432 0)).run Try.prog w = .ok (.complex .f32 r.1 r.2) w := by
  obtain ⟨k1, k2, k3⟩ := w4_ok
  unfold zqO zqC widW narW at h
  unfold widW at k1 k2
  simp only [Option.bind_eq_some_iff] at h
  obtain ⟨a, f1, b, f2, q, ⟨ratio, h1, rd, h2, denom, h3, br, h4, n1, h5, e, h6, ar, h7, n2, h8, f, h9, h10⟩, p, g1, s, g2, e2⟩ := h
  split at h10
  · rename_i hnn
    cases h10
    cases e2
    have hq := run_quotient_ge (P := Try.prog) w k3 h1 h2 h3 h4 h5 h6 h7 h8 h9 hnn
    simp [binOp, Op.complexOp, conv_run f1, conv_run f2, conv_run k1, conv_run k2, hq, conv_run g1, conv_run g2]
  · cases h10
theorem z_run (i j : Nat) (hi : i < 33) (hj : j < 33) (t : TypeId) (w : World) : (binOp .quo t (.complex .f32 (qz i) (qz j)) (.complex .f32 1082130432 0)).run Try.prog w = .ok (.complex .f32 (zt i) (zt j)) w :=
  zq_run (x := (qz i, qz j)) (r := (zt i, zt j)) (zq_at i j hi hj) t w
end Go.Proofs.Ytlpibibpckkjhaa
namespace Go.Proofs.Ytlpibibpckkjhaa
open Go.RowKit
theorem rowG_zero {step : Nat → Nat → Nat × Nat → Nat × Nat → Option (Nat × Nat)} {n k : Nat} {l : List (Nat × Nat)} : ∀ {m : Nat} {lo : List (Nat × Nat)}, m + 1 ≤ n → rowG step n k l m = some lo → lo.getD 0 (0, 0) = l.getD 0 (0, 0)
  | 0, _, _, h => by cases h; rfl
  | m + 1, _, hm, h => by
    rw [rowG, Option.bind_eq_some_iff] at h
    obtain ⟨s, h1, h2⟩ := h
    rw [Option.bind_eq_some_iff] at h2
    obtain ⟨r, -, h3⟩ := h2
    cases h3
    rw [← rowG_zero (by omega) h1, List.getD, List.getD, List.getElem?_set_ne (by omega)]
theorem triG_zero {step : Nat → Nat → Nat × Nat → Nat × Nat → Option (Nat × Nat)} {n : Nat} {l : List (Nat × Nat)} (hn : 1 ≤ n) : ∀ {m : Nat} {lo : List (Nat × Nat)}, triG step n l m = some lo → lo.getD 0 (0, 0) = l.getD 0 (0, 0)
  | 0, _, h => by cases h; rfl
  | m + 1, _, h => by
    rw [triG, Option.bind_eq_some_iff] at h
    obtain ⟨s, h1, h2⟩ := h
    rw [rowG_zero (by omega) h2, triG_zero hn h1]
theorem eqC_val {x y : Nat × Nat} {a b c d : Rat} (h1 : NV .f32 x.1 a) (h2 : NV .f32 x.2 b) (h3 : NV .f32 y.1 c) (h4 : NV .f32 y.2 d) : eqC x y = decide (a = c ∧ b = d) := by
  have key : ∀ {u v : Nat} {a c : Rat}, NV .f32 u a → NV .f32 v c → (FloatKind.f32.format.order u v == some .eq) = decide (a = c) := fun {u v a c} hu hv => by
    obtain ⟨k1, k2, k3⟩ := order_val .f32 hu hv
    rcases (show a < c ∨ a = c ∨ c < a by grind) with k | k | k
    · rw [k1 k, decide_eq_false (by grind)]; rfl
    · rw [k2 k, decide_eq_true k]; rfl
    · rw [k3 k, decide_eq_false (by grind)]; rfl
  unfold eqC
  rw [key h1 h3, key h2 h4, Bool.decide_and]
theorem first_of {P : Nat → Prop} : ∀ n, (∃ k, k < n ∧ P k) → ∃ p, p < n ∧ P p ∧ ∀ k, k < p → ¬ P k
  | 0, ⟨k, hk, _⟩ => absurd hk (Nat.not_lt_zero _)
  | n + 1, ⟨k, hk, h⟩ => by
    by_cases e : ∃ k, k < n ∧ P k
    · obtain ⟨p, h1, h2, h3⟩ := first_of n e
      exact ⟨p, by omega, h2, h3⟩
    · refine ⟨k, hk, h, fun j hj hp => e ⟨j, by omega, hp⟩⟩
theorem finCB_of {x : Nat × Nat} (h1 : fin32B x.1 = true) (h2 : fin32B x.2 = true) : finCB x = true := by
  unfold finCB
  simp [h1, h2]
theorem all_of_at {l : List (Nat × Nat)} {n : Nat} (hl : l.length = n) (h : ∀ k, k < n → fin32B (l.getD k (0, 0)).1 = true ∧ fin32B (l.getD k (0, 0)).2 = true) : l.all finCB = true := by
  refine List.all_eq_true.2 fun x hx => ?_
  obtain ⟨i, hi, rfl⟩ := List.getElem_of_mem hx
  have k := h i (by omega)
  rw [List.getD, List.getElem?_eq_getElem hi] at k
  exact finCB_of k.1 k.2
/-- What the law asks of points and values. -/
structure PFac (n : Nat) (hs : List Nat) (vals d l ws : List (Nat × Nat)) (L : Rat) : Prop where
  P : PtsOk (ptsL hs)
  pl : (ptsL hs).length = n
  V : vals.all finCB = true
  vl : vals.length = n
  dv : triG (dstep (ptsL hs)) n vals (n - 1) = some d
  dl : d.length = n
  df : d.all finCB = true
  d0 : d.getD 0 (0, 0) = vals.getD 0 (0, 0)
  np : NPoly (ptsL hs) d n (n - 1) l
  lv : polyB l = true
  hL : 1 / 1000 ≤ L ∧ L ≤ 500000
  long : ∀ (A : Option Addr) (c : Nat) (w : World), Reads w w.heap.size 1 A l.length (cplx l) → Calls Try.prog 26 #[.agg #[.slice A l.length c]] w fun e w' => ∃ r v, e = .returned (.tuple #[.float .f32 r, .bool true]) ∧ NV .f32 r v ∧ v ≤ 3 * L ∧ 96 / 100 * L - 11 / 1000 ≤ v ∧ -(1 / 100 * L) ≤ v ∧ Below w.heap.size w w'
  miss : ∀ (A0 A A' : Option Addr) (c0 c c' : Nat) (w : World), n ≤ c → Reads w w.heap.size 1 A0 l.length (cplx l) → Reads w w.heap.size 1 A n (cplx (ptsL hs)) → Reads w w.heap.size 1 A' n (cplx vals) →
    Calls Try.prog 33 #[.agg #[.slice A0 l.length c0], .slice A n c, .slice A' n c'] w fun e w' => ∃ m v, e = .returned (.tuple #[.float .f32 m, .bool true]) ∧ NV .f32 m v ∧ 0 ≤ v ∧ v ≤ 27 / 100 * L ∧ Below w.heap.size w w'
  wg : WgtR (ptsL hs) ws
  wl : ws.length = n
  wb : ∀ k, k < n → ∃ a b, NV .f32 (ws.getD k (0, 0)).1 a ∧ NV .f32 (ws.getD k (0, 0)).2 b ∧ Lm a 64 ∧ Lm b 64
  sw : ∃ s a b, sumW ws n = some s ∧ NV .f32 s.1 a ∧ NV .f32 s.2 b ∧ (2 ≤ n → Lm a (1 / 1000) ∧ Lm b (1 / 1000))
/-- What the law asks of a number. -/
structure PNum (n : Nat) (hs : List Nat) (vals d l : List (Nat × Nat)) (z : Nat × Nat) (L : Rat) (u : Rat × Rat) (r1 r2 r3 r4 : Nat × Nat) : Prop where
  newt : newtW (ptsL hs) d z n (n - 1) = some r1 ∧ Nz L u (5 / 100) r1
  nev : ∃ lo, triG (nstep (ptsL hs) z) n vals (n - 1) = some lo ∧ lo.getD (n - 1) (0, 0) = r2 ∧ Nz L u (6 / 100) r2
  lag : Nz L u (41 / 100) r3 ∧ ∀ (A A' : Option Addr) (c c' : Nat) (w : World), n ≤ c → Reads w w.heap.size 1 A n (cplx (ptsL hs)) → Reads w w.heap.size 1 A' n (cplx vals) →
    Calls Try.prog 40 #[.slice A n c, .slice A' n c', .complex .f32 z.1 z.2] w fun e w' => e = .returned (.tuple #[.complex .f32 r3.1 r3.2, .bool true]) ∧ Below w.heap.size w w'
  pat : PAtR l z r4 ∧ Nz L u (53 / 1000) r4
theorem cx_lr {hs : List Nat} {n : Nat} {ar ai La : Nat → Rat} {L : Rat} {vals : List (Nat × Nat)} (h : Cx hs n ar ai La L vals) : 1 / 1000 ≤ L ∧ 0 ≤ L := by
  obtain ⟨l1, l2⟩ := h.r
  exact ⟨l1, by grind⟩
theorem pas_all {hs : List Nat} {a n : Nat} {ks : List (Nat × Nat)} (hp : Pts hs a) (hn : hs.length = n) (n1 : 1 ≤ n) (n5 : n ≤ 5) (hk : ks.length = n) (hS : Smalls ks) :
    ∃ d l ws L, PFac n hs (vlL ks) d l ws L ∧ ∀ i j, i < 33 → j < 33 → ∃ u r1 r2 r3 r4, PNum n hs (vlL ks) d l (zt i, zt j) L u r1 r2 r3 r4 := by
  have tnev := nev_of hp hn n1 n5
  have tcof := cof_of hp hn n1 n5
  have tids := ids_of hp hn n1 n5
  have twgt := wgt_of hp hn n1 n5
  have ttop := top_of hp hn n1 n5
  have tsum := sum_of hp hn n1 n5
  have tend := end_of hp hn n1 n5
  have twsz := wsz_of hp hn n1 n5
  have tpts := pts_of hp hn n1 n5
  have tbnd := bnd_of hp hn n1 n5
  have tdiv := div_of hp hn n1 n5
  have tnew := new_of hp hn n1 n5
  have tlag := lag_of hp hn n1 n5
  have hh : ∀ j, j < n → hs.getD j 0 < 19 := fun j hj => by
    unfold patPts at tpts
    rw [Bool.and_eq_true, Bool.and_eq_true] at tpts
    have := allN_at tpts.1.2 hj
    rwa [decide_eq_true_eq] at this
  have hP : PtsOk (ptsL hs) := by
    unfold patPts at tpts
    rw [Bool.and_eq_true, Bool.and_eq_true] at tpts
    refine ⟨by rw [ptsL_len]; omega, tpts.1.1, fun i k h1 h2 => ?_⟩
    have := allN_at (allN_at tpts.2 (show i < n by rw [ptsL_len] at h2; omega)) h1
    simpa using this
  have hpl : (ptsL hs).length = n := by rw [ptsL_len]; exact hn
  have hvv : ∀ i, i < n → NV .f32 ((vlL ks).getD i (0, 0)).1 ((((ks.getD i (0, 0)).1 : Int) - 16 : Int) / 4) ∧ NV .f32 ((vlL ks).getD i (0, 0)).2 ((((ks.getD i (0, 0)).2 : Int) - 16 : Int) / 4) ∧ (ks.getD i (0, 0)).1 < 33 ∧ (ks.getD i (0, 0)).2 < 33 := fun i hi => by
    have hm : ks.getD i (0, 0) ∈ ks := by
      rw [List.getD, List.getElem?_eq_getElem (by omega)]
      exact List.getElem_mem _
    obtain ⟨h1, h2⟩ := hS _ hm
    rw [vlL_at (by omega)]
    exact ⟨qz_ok _ h1, qz_ok _ h2, h1, h2⟩
  have hvl : (vlL ks).length = n := by rw [vlL_len]; exact hk
  have q16 : ∀ k : Nat, k < 33 → Lm (((((k : Int) - 16 : Int) : Rat)) / 4) 16 := fun k hk => by
    have h1 : ((-16 : Int) : Rat) ≤ (((k : Int) - 16 : Int) : Rat) := by exact_mod_cast (show (-16 : Int) ≤ (k : Int) - 16 by omega)
    have h2 : (((k : Int) - 16 : Int) : Rat) ≤ ((16 : Int) : Rat) := by exact_mod_cast (show (k : Int) - 16 ≤ 16 by omega)
    rw [show ((-16 : Int) : Rat) = -16 from rfl] at h1
    rw [show ((16 : Int) : Rat) = 16 from rfl] at h2
    unfold Lm; constructor <;> grind
  obtain ⟨ar, ai, La, t, L, hC, hL5, ht⟩ := cx_ex hn n1 n5 hh hvl (fun i hi => ⟨(hvv i hi).1, (hvv i hi).2.1, q16 _ (hvv i hi).2.2.1, q16 _ (hvv i hi).2.2.2⟩) (by unfold patIds at tids; rw [Bool.and_eq_true] at tids; exact tids.1) tbnd
  obtain ⟨hL1, hL0⟩ := cx_lr hC
  have hV : (vlL ks).all finCB = true := all_of_at hvl fun k hk => ⟨nv_fin (hvv k hk).1, nv_fin (hvv k hk).2.1⟩
  obtain ⟨d, dv, dl, dq⟩ := near_div hC tdiv
  have hdf := all_of_at dl fun k hk => (dq k hk).fin
  obtain ⟨l, np, lln, lq⟩ := near_poly hC tcof tids dq
  have lv := np.ok
  obtain ⟨ll1, -⟩ := polyB_len lv
  unfold patSum at tsum
  simp only [Bool.and_eq_true, decide_eq_true_eq] at tsum
  obtain ⟨⟨ts1, ts2⟩, ts3⟩ := tsum
  have hNl : Nl n ar ai L (eC (xv hs) n (n - 1)) l := ⟨ll1, lln, lv, fun k hk => by
      have := allN_at ts1 hk
      rwa [decide_eq_true_eq] at this, ts2, fun k hk => by
      obtain ⟨x, y, m1, m2, m3, -⟩ := lq k hk
      exact ⟨x, y, m1, m2, m3⟩⟩
  obtain ⟨ws, wg, wl, wq⟩ := wgt_at twgt hn
  have wb : ∀ k, k < n → ab (wX (xv hs) n k) ≤ 60 := fun k hk => by
    unfold patLag at tlag
    simp only [Bool.and_eq_true, decide_eq_true_eq] at tlag
    have := allN_at tlag.1.1.1.1.1 hk
    simp only [Bool.and_eq_true, decide_eq_true_eq] at this
    exact this.1.1.1.1.2
  have hend : ∀ i, i < n → sumF (fun k => eC (xv hs) n (n - 1) k * pwr (ab (xv hs i)) k) n ≤ 1 / 4 := fun i hi => by
    have := allN_at tend hi
    rwa [decide_eq_true_eq] at this
  refine ⟨d, l, ws, L, ⟨hP, hpl, hV, hvl, dv, dl, hdf, triG_zero n1 dv, np, lv, ⟨hL1, hL5⟩, fun A c w hr => long_near hC hL5 hNl ht A c w hr, fun A0 A A' c0 c c' w hc h1 h2 h3 => miss_near hC hL5 hNl hend hP hV A0 A A' c0 c c' hc w h1 h2 h3, wg, wl, fun k hk => ?_, ?_⟩, fun i j hi hj => ?_⟩
  · obtain ⟨V, m1, m2, m3⟩ := wq k hk
    have h1 := wb k hk
    have h2 := ab_lm (wX (xv hs) n k)
    unfold Lm at m3 h2
    exact ⟨V, 0, m1, m2, by unfold Lm; constructor <;> grind, by unfold Lm; constructor <;> grind⟩
  · obtain ⟨s, x, y, g, m1, m2, e1, -⟩ := sumW_near n5 wb wq n (Nat.le_refl _)
    refine ⟨s, x, y, g, m1, m2, fun h2 => ?_⟩
    unfold patWs at twsz
    simp only [Bool.or_eq_true, decide_eq_true_eq] at twsz
    rcases twsz with h | h
    · omega
    · rw [h] at e1
      have hn5 := nat_le_rat n5
      rw [show ((5 : Nat) : Rat) = 5 from rfl] at hn5
      have e2 := e1.le (show _ ≤ 1 / 1000 by grind)
      have e3 := e2.fst
      rw [show x - 0 = x by grind] at e3
      exact ⟨e3, e2.snd⟩
  · unfold patTop at ttop
    simp only [Bool.and_eq_true, decide_eq_true_eq] at ttop
    obtain ⟨⟨t1, t2⟩, t3⟩ := ttop
    obtain ⟨r1, w1, q1⟩ := near_new hC tnew tids dq hi hj
    obtain ⟨lo, w2, q2⟩ := near_nev hC tnev tids hi hj
    have hzi := zt_ok i hi
    have hzj := zt_ok j hj
    obtain ⟨r4, x4, y4, m1, m2, e4, HP⟩ := at_near hC hL5 hNl hzi hzj ((N1.lm (zt_bd i hi) (zt_bd j hj)).le (by grind)) (z_in hi hj) ts3
    have hlag : ∃ r3, Nz L (exZ ar ai n (ztV i) (ztV j)) (41 / 100) r3 ∧ ∀ (A A' : Option Addr) (c c' : Nat) (w : World), n ≤ c → Reads w w.heap.size 1 A n (cplx (ptsL hs)) → Reads w w.heap.size 1 A' n (cplx (vlL ks)) →
        Calls Try.prog 40 #[.slice A n c, .slice A' n c', .complex .f32 (zt i) (zt j)] w fun e w' => e = .returned (.tuple #[.complex .f32 r3.1 r3.2, .bool true]) ∧ Below w.heap.size w w' := by
      have heq : ∀ k, k < n → eqC (zt i, zt j) ((ptsL hs).getD k (0, 0)) = decide (ztV i = xv hs k ∧ ztV j = 0) := fun k hk => by
        rw [ptsL_at (by omega)]
        exact eqC_val hzi hzj (hw_nv (hh k hk)) nv_zero
      by_cases hit : ∃ k, k < n ∧ (ztV i = xv hs k ∧ ztV j = 0)
      · obtain ⟨p, p1, ⟨p2, p3⟩, p4⟩ := first_of n hit
        refine ⟨(vlL ks).getD p (0, 0), ?_, fun A A' c c' w hc hr hr' => lagrangeAt_hit A A' c c' n p (ptsL hs) (vlL ks) (zt i, zt j) hpl hvl hc hP hV ⟨nv_fin hzi, nv_fin hzj⟩ p1 (fun k hk => by rw [heq k (by omega)]; exact decide_eq_false (p4 k hk)) (by rw [heq p p1]; exact decide_eq_true ⟨p2, p3⟩) w hr hr'⟩
        refine ⟨_, _, hC.v1 p p1, hC.v2 p p1, ?_⟩
        rw [p2, p3, exZ_zp, show zp (xv hs p) 0 = fun m => (pwr (xv hs p) m, 0) from funext (zp_real (xv hs p))]
        exact (E2.refl _ _).le (by grind)
      · obtain ⟨ws', s, r, g1, g2, g3, g4⟩ := near_lag hC tlag twgt tids hi hj (fun k hk h => hit ⟨k, hk, by grind, h.2⟩)
        exact ⟨r, g4.nz hL0 t3, fun A A' c c' w hc hr hr' => lagrangeAt_w A A' c c' n (ptsL hs) (vlL ks) ws' (zt i, zt j) r s hpl hvl hc hP hV ⟨nv_fin hzi, nv_fin hzj⟩ (fun k hk => by rw [heq k hk]; exact decide_eq_false fun h => hit ⟨k, hk, h⟩) g1 g2 g3 g4.fin w hr hr'⟩
    obtain ⟨r3, l3, l4⟩ := hlag
    exact ⟨exZ ar ai n (ztV i) (ztV j), r1, _, r3, r4, ⟨w1, q1.nz hL0 t2⟩, ⟨lo, w2, rfl, q2.nz hL0 t1⟩, ⟨l3, l4⟩, HP, x4, y4, m1, m2, e4.le (by grind)⟩
end Go.Proofs.Ytlpibibpckkjhaa
