/-
  Exact polynomials with rational terms, their values at complex numbers, sums of them by complex terms; numbers that lie near exact ones.
  Neville's value in a triangle, by words (impl.NevilleAt).
  Exact differences of points as words; Neville's values near exact ones, by shares.
  Newton's value, by words (impl.NewtonAt).
  Divided differences and Newton's value near exact ones, by shares.
  The terms of Newton's polynomial near exact ones, by shares.
  A term of a product with a polynomial of two terms, near the exact one.
  Newton's polynomial: its terms near the exact ones.
  A summand of Lagrange's value, near the exact one.
  Lagrange's exact identities; the weights as words.
-/
import Derived.Test.YtlpibibpckkjhaaQe
import Derived.Test.YtlpibibpckkjhaaQd
namespace Go.Proofs.Ytlpibibpckkjhaa
open Go.RowKit
def addL : List Rat → List Rat → List Rat
  | [], q => q
  | p, [] => p
  | a :: p, b :: q => (a + b) :: addL p q
def sclL (s : Rat) (p : List Rat) : List Rat := p.map (s * ·)
def mulx (x : Rat) (p : List Rat) : List Rat := addL (0 :: p) (sclL (-x) p)
def magL (Z : Rat) : List Rat → Rat
  | [] => 0
  | c :: p => ab c + Z * magL Z p
/-- The value of a polynomial at a complex number. -/
def evP (ξ η : Rat) : List Rat → Rat × Rat
  | [] => (0, 0)
  | c :: p => (c + (ξ * (evP ξ η p).1 - η * (evP ξ η p).2), ξ * (evP ξ η p).2 + η * (evP ξ η p).1)
section
variable {ξ η Z : Rat}
theorem evP_add : ∀ p q : List Rat, evP ξ η (addL p q) = ((evP ξ η p).1 + (evP ξ η q).1, (evP ξ η p).2 + (evP ξ η q).2)
  | [], q => by
    simp only [addL, evP]
    ext <;> simp only <;> grind
  | a :: p, [] => by
    simp only [addL, evP]
    ext <;> simp only <;> grind
  | a :: p, b :: q => by
    have ih := evP_add p q
    simp only [addL, evP, ih]
    ext <;> simp only <;> grind
theorem evP_scl (s : Rat) : ∀ p : List Rat, evP ξ η (sclL s p) = (s * (evP ξ η p).1, s * (evP ξ η p).2)
  | [] => by simp [sclL, evP]
  | c :: p => by
    have ih := evP_scl s p
    unfold sclL at ih ⊢
    simp only [List.map_cons, evP, ih]
    ext <;> simp only <;> grind
theorem evP_mulx (x : Rat) (p : List Rat) : evP ξ η (mulx x p) = ((ξ - x) * (evP ξ η p).1 - η * (evP ξ η p).2, (ξ - x) * (evP ξ η p).2 + η * (evP ξ η p).1) := by
  unfold mulx
  rw [evP_add, evP_scl]
  simp only [evP]
  ext <;> simp only <;> grind
theorem evP_mag (h : E2 ξ η Z) : ∀ p : List Rat, E2 (evP ξ η p).1 (evP ξ η p).2 (magL Z p)
  | [] => E2.zero Rat.le_refl
  | c :: p => by
    have ih := evP_mag h p
    have h1 := (E2.real (ab_lm c)).add (h.mul ih)
    simp only [evP, magL]
    rwa [show (0 : Rat) + (ξ * (evP ξ η p).2 + η * (evP ξ η p).1) = ξ * (evP ξ η p).2 + η * (evP ξ η p).1 by grind] at h1
end
/-- A sum of complex numbers by complex terms. -/
def lin (ar ai : Nat → Rat) (t : Nat → Rat × Rat) : Nat → Rat × Rat
  | 0 => (0, 0)
  | m + 1 => ((lin ar ai t m).1 + (ar m * (t m).1 - ai m * (t m).2), (lin ar ai t m).2 + (ar m * (t m).2 + ai m * (t m).1))
section
variable {ar ai La : Nat → Rat} {t s : Nat → Rat × Rat} {T : Rat}
theorem lin_bd : ∀ n, (∀ m, m < n → E2 (ar m) (ai m) (La m)) → (∀ m, m < n → E2 (t m).1 (t m).2 T) → E2 (lin ar ai t n).1 (lin ar ai t n).2 (sumF La n * T)
  | 0, _, _ => by
    simp only [lin, sumF]
    exact E2.zero (by grind)
  | n + 1, h, k => by
    have ih := lin_bd n (fun m hm => h m (by omega)) (fun m hm => k m (by omega))
    have h1 := ih.add ((h n (by omega)).mul (k n (by omega)))
    simp only [lin, sumF]
    rwa [show (sumF La n + La n) * T = sumF La n * T + La n * T by grind]
theorem lin_congr : ∀ n, (∀ m, m < n → t m = s m) → lin ar ai t n = lin ar ai s n
  | 0, _ => rfl
  | n + 1, h => by rw [lin, lin, lin_congr n (fun m hm => h m (by omega)), h n (by omega)]
theorem lin_add : ∀ n, lin ar ai (fun m => ((t m).1 + (s m).1, (t m).2 + (s m).2)) n = ((lin ar ai t n).1 + (lin ar ai s n).1, (lin ar ai t n).2 + (lin ar ai s n).2)
  | 0 => by
    simp only [lin]
    ext <;> simp only <;> grind
  | n + 1 => by
    have ih := lin_add n
    simp only [lin, ih]
    ext <;> simp only <;> grind
theorem lin_sub : ∀ n, lin ar ai (fun m => ((t m).1 - (s m).1, (t m).2 - (s m).2)) n = ((lin ar ai t n).1 - (lin ar ai s n).1, (lin ar ai t n).2 - (lin ar ai s n).2)
  | 0 => by
    simp only [lin]
    ext <;> simp only <;> grind
  | n + 1 => by
    have ih := lin_sub n
    simp only [lin, ih]
    ext <;> simp only <;> grind
theorem lin_mul (c d : Rat) : ∀ n, lin ar ai (fun m => (c * (t m).1 - d * (t m).2, c * (t m).2 + d * (t m).1)) n = (c * (lin ar ai t n).1 - d * (lin ar ai t n).2, c * (lin ar ai t n).2 + d * (lin ar ai t n).1)
  | 0 => by
    simp only [lin]
    ext <;> simp only <;> grind
  | n + 1 => by
    have ih := lin_mul c d n
    simp only [lin, ih]
    ext <;> simp only <;> grind
theorem lin_scl (c : Rat) : ∀ n, lin ar ai (fun m => (c * (t m).1, c * (t m).2)) n = (c * (lin ar ai t n).1, c * (lin ar ai t n).2)
  | 0 => by
    simp only [lin]
    ext <;> simp only <;> grind
  | n + 1 => by
    have ih := lin_scl c n
    simp only [lin, ih]
    ext <;> simp only <;> grind
end
/-- Words near an exact number: error and size by shares of L. -/
def LQ (L : Rat) (ex : Rat × Rat) (M e : Rat) (z : Nat × Nat) : Prop := ∃ a b, NV .f32 z.1 a ∧ NV .f32 z.2 b ∧ E2 (a - ex.1) (b - ex.2) (e * L) ∧ E2 ex.1 ex.2 (M * L)
/-- A range for L, and for a share. -/
def Lr (L : Rat) : Prop := 1 / 1000 ≤ L ∧ L ≤ 100000000
def Sh (M : Rat) : Prop := 1 / 100000 ≤ M ∧ M ≤ 1000000
theorem md_of {L M : Rat} (hL : Lr L) (hM : Sh M) : Md (M * L) := by
  obtain ⟨a, b⟩ := hL
  obtain ⟨c, d⟩ := hM
  have k1 := Rat.mul_nonneg (show (0 : Rat) ≤ M - 1 / 100000 by grind) (show (0 : Rat) ≤ L by grind)
  have k2 := Rat.mul_nonneg (show (0 : Rat) ≤ 1000000 - M by grind) (show (0 : Rat) ≤ L by grind)
  exact ⟨by grind, by grind⟩
section
variable {L M N P e f : Rat} {x y : Nat × Nat} {u v : Rat × Rat}
theorem minusLQ (hL : Lr L) (hx : LQ L u M e x) (hy : LQ L v N f y) (hP : E2 (u.1 - v.1) (u.2 - v.2) (P * L)) (hS : Sh (P + (e + f))) : ∃ r, minusW x y = some r ∧ LQ L (u.1 - v.1, u.2 - v.2) P (e + f + (P + (e + f)) / 11000000) r := by
  obtain ⟨a, b, n1, n2, e1, -⟩ := hx
  obtain ⟨c, d, n3, n4, e2, -⟩ := hy
  have hd := e1.sub e2
  rw [show a - u.1 - (c - v.1) = (a - c) - (u.1 - v.1) by grind, show b - u.2 - (d - v.2) = (b - d) - (u.2 - v.2) by grind] at hd
  have hE := hP.of hd
  rw [show P * L + (e * L + f * L) = (P + (e + f)) * L by grind] at hE
  obtain ⟨r, π, κ, g, m1, m2, er⟩ := minusE n1 n2 n3 n4 hE (md_of hL hS)
  refine ⟨r, g, π, κ, m1, m2, (er.trans hd).le (by grind), hP⟩
theorem plusLQ (hL : Lr L) (hx : LQ L u M e x) (hy : LQ L v N f y) (hP : E2 (u.1 + v.1) (u.2 + v.2) (P * L)) (hS : Sh (P + (e + f))) : ∃ r, plusW x y = some r ∧ LQ L (u.1 + v.1, u.2 + v.2) P (e + f + (P + (e + f)) / 11000000) r := by
  obtain ⟨a, b, n1, n2, e1, -⟩ := hx
  obtain ⟨c, d, n3, n4, e2, -⟩ := hy
  have hd := e1.add e2
  rw [show a - u.1 + (c - v.1) = (a + c) - (u.1 + v.1) by grind, show b - u.2 + (d - v.2) = (b + d) - (u.2 + v.2) by grind] at hd
  have hE := hP.of hd
  rw [show P * L + (e * L + f * L) = (P + (e + f)) * L by grind] at hE
  obtain ⟨r, π, κ, g, m1, m2, er⟩ := plusE n1 n2 n3 n4 hE (md_of hL hS)
  refine ⟨r, g, π, κ, m1, m2, (er.trans hd).le (by grind), hP⟩
/-- A product with an exact number. -/
theorem mulLQ {c d D : Rat} (hL : Lr L) (hx1 : NV .f32 x.1 c) (hx2 : NV .f32 x.2 d) (hD : E2 c d D) (hy : LQ L v N f y) (hS : Sh (D * (N + f))) : ∃ r, mulW x y = some r ∧ LQ L (c * v.1 - d * v.2, c * v.2 + d * v.1) (D * N) (D * f + (D * (N + f)) / 11000000) r := by
  obtain ⟨a, b, n3, n4, e2, hv⟩ := hy
  have hE := hv.of e2
  rw [show N * L + f * L = (N + f) * L by grind] at hE
  obtain ⟨r, π, κ, g, m1, m2, er⟩ := mulE hx1 hx2 n3 n4 hD hE (by rw [show D * ((N + f) * L) = D * (N + f) * L by grind]; exact md_of hL hS)
  have hd := hD.mul e2
  rw [show c * (a - v.1) - d * (b - v.2) = (c * a - d * b) - (c * v.1 - d * v.2) by grind, show c * (b - v.2) + d * (a - v.1) = (c * b + d * a) - (c * v.2 + d * v.1) by grind] at hd
  refine ⟨r, g, π, κ, m1, m2, (er.trans hd).le (by grind), (hD.mul hv).le (by grind)⟩
/-- A quotient by an exact real number. -/
theorem divLQ {h q : Rat} (hL : Lr L) (hy1 : NV .f32 y.1 h) (hy2 : NV .f32 y.2 0) (hh : 1 / 10 ≤ h ∧ h ≤ 10) (hq : q * h = 1) (hx : LQ L u M e x) (hP : E2 (q * u.1) (q * u.2) (P * L)) (hS : Sh (P + q * e)) : ∃ r, quoW x y = some r ∧ LQ L (q * u.1, q * u.2) P (q * e + (P + q * e) / 11000000) r := by
  obtain ⟨a, b, n1, n2, e1, -⟩ := hx
  have hq0 : 0 ≤ q := by
    rcases (show 0 ≤ q ∨ 0 < -q by grind) with k | k
    · exact k
    · have := Rat.mul_pos k (show (0 : Rat) < h by grind)
      grind
  have hqL : Lm q q := by unfold Lm; constructor <;> grind
  have hd := e1.scale hqL
  rw [show q * (a - u.1) = q * a - q * u.1 by grind, show q * (b - u.2) = q * b - q * u.2 by grind] at hd
  have hE := hP.of hd
  rw [show P * L + q * (e * L) = (P + q * e) * L by grind] at hE
  have k1 := Rat.mul_nonneg (show (0 : Rat) ≤ h - 1 / 10 by grind) (show (0 : Rat) ≤ h + 1 / 10 by grind)
  have k2 := Rat.mul_nonneg (show (0 : Rat) ≤ 10 - h by grind) (show (0 : Rat) ≤ 10 + h by grind)
  have hm := md_of hL hS
  have k3 := Rat.mul_nonneg (show (0 : Rat) ≤ h * h - 1 / 100 by grind) (show (0 : Rat) ≤ (P + q * e) * L by have := hm.pos; grind)
  have k4 := Rat.mul_nonneg (show (0 : Rat) ≤ 100 - h * h by grind) (show (0 : Rat) ≤ (P + q * e) * L by have := hm.pos; grind)
  obtain ⟨c1, c2⟩ := hL
  obtain ⟨c3, c4⟩ := hS
  have k5 := Rat.mul_nonneg (show (0 : Rat) ≤ (P + q * e) - 1 / 100000 by grind) (show (0 : Rat) ≤ L by grind)
  have k6 := Rat.mul_nonneg (show (0 : Rat) ≤ 1000000 - (P + q * e) by grind) (show (0 : Rat) ≤ L by grind)
  have hhh : h * h + 0 * 0 = h * h := by grind
  obtain ⟨r, π, κ, g, m1, m2, er⟩ := quoE (q := q * a) (r := q * b) n1 n2 hy1 hy2 (by rw [show q * a * h - q * b * 0 = a * (q * h) by grind, hq]; grind) (by rw [show q * a * 0 + q * b * h = b * (q * h) by grind, hq]; grind) hE hm (by rw [hhh]; exact ⟨by grind, by grind⟩) (by rw [hhh]; exact ⟨by grind, by grind⟩)
  refine ⟨r, g, π, κ, m1, m2, (er.trans hd).le (by grind), hP⟩
end
end Go.Proofs.Ytlpibibpckkjhaa
namespace Go.Proofs.Ytlpibibpckkjhaa
open Go.RowKit
def nstep (pts : List (Nat × Nat)) (z : Nat × Nat) (k i : Nat) (x y : Nat × Nat) : Option (Nat × Nat) :=
  (minusW z (pts.getD (i - k) (0, 0))).bind fun a => (mulW a x).bind fun b => (minusW z (pts.getD i (0, 0))).bind fun c => (mulW c y).bind fun d => (minusW b d).bind fun e => (minusW (pts.getD i (0, 0)) (pts.getD (i - k) (0, 0))).bind fun h => quoW e h
set_option maxRecDepth 100000 in
set_option maxHeartbeats 1600000 in
theorem nevilleAt_w (A A' : Option Addr) (c c' n : Nat) (pts vals lo : List (Nat × Nat)) (z : Nat × Nat) (hn : 1 ≤ n) (hl : pts.length = n) (hl' : vals.length = n) (hc : n ≤ c) (hP : PtsOk pts) (hV : vals.all finCB = true) (hzf : fin32B z.1 = true ∧ fin32B z.2 = true) (h : triG (nstep pts z) n vals (n - 1) = some lo)
    (hf : fin32B (lo.getD (n - 1) (0, 0)).1 = true ∧ fin32B (lo.getD (n - 1) (0, 0)).2 = true) (w : World) (hr : Reads w w.heap.size 1 A n (cplx pts)) (hr' : Reads w w.heap.size 1 A' n (cplx vals)) :
    Calls Try.prog 39 #[.slice A n c, .slice A' n c', .complex .f32 z.1 z.2] w fun e w' => e = .returned (.tuple #[.complex .f32 (lo.getD (n - 1) (0, 0)).1 (lo.getD (n - 1) (0, 0)).2, .bool true]) ∧ Below w.heap.size w w' := by
  obtain ⟨X, hX⟩ : ∃ X, X = lo.getD (n - 1) (0, 0) := ⟨_, rfl⟩
  rw [← hX] at hf ⊢
  replace hX := Lib.hid hX
  have HF := finite_v hf.1 hf.2
  have HZ := fun W => allFinite_b (some ⟨W.heap.size, 0, none⟩) 1 (W.heap.size + 1) [(z.1, z.2)] (W.alloc (.cells #[.complex .f32 z.1 z.2] 36)) (comp_one W z.1 z.2) (by simp) (by simp)
  have hfa : [(z.1, z.2)].all finCB = true := by simp [finCB, hzf]
  simp only [hfa] at HZ
  clear hfa hzf hf
  have HA := areValued_any A A' c c' n pts vals hl hl' hc hP hV w hr hr'
  have hn17 : n ≤ 17 := by rw [← hl]; exact hP.len.2
  have hlo : lo.length = n := by rw [triG_len h, hl']
  go_enter Try.func39, Try.ntmps39
  go_wp2_with fail
  (with_reducible refine HA.mono ?_)
  rintro e w1 ⟨rfl, hb1⟩
  clear HA
  have z1 := hb1.size
  have hb1a : Below w1.heap.size w1 (w1.alloc (.cells #[.complex .f32 z.1 z.2] 36)) := (Below.refl _ _).alloc (Nat.le_refl _) _
  go_wp2_with fail
  refine (HZ w1).mono ?_
  rintro e w1b ⟨rfl, hb1b⟩
  clear HZ
  replace hb1 := (hb1.trans (hb1a.mono z1)).trans (hb1b.mono (by simp; omega))
  replace z1 := hb1.size
  clear hb1a hb1b
  have HC := cloneC_any A' c' w.heap.size vals (by omega) w1b (by rw [hl']; exact hr'.below hb1) z1 (by omega)
  rw [hl'] at HC
  go_wp2_with fail
  (with_reducible refine HC.mono ?_)
  rintro e w2 ⟨v, rfl, hrow, hb2⟩
  clear HC
  obtain ⟨gl, cl, rfl, hgl⟩ := World.ownsRow.form hrow hn
  have hVl := CV.of_row hrow
  have hb3 := hb1.trans (hb2.mono z1)
  have z3 := hb3.size
  have hgl1 : w.heap.size ≤ gl := by have := (hrow.lt gl rfl).1; omega
  replace h := Lib.hid h
  clear hrow hb1 hb2 hr' z1 hP hV
  go_wp2
  go_loopw [9, 10, 11] (fun q _ _ wr => ∃ k : Nat, 1 ≤ k ∧ k ≤ n ∧ q = .int .i64 (k : Int) ∧ (∃ s, Hid (triG (nstep pts z) n vals (k - 1) = some s) ∧ CV wr gl s) ∧ Below w.heap.size w wr) (fun q _ _ _ => n - (intOf q).toNat)
  case atStart => exact ⟨1, Nat.le_refl _, hn, rfl, ⟨vals, rfl, hVl⟩, hb3⟩
  case round =>
    obtain ⟨k, hk1, hkn, rfl, ⟨s, hs, hVs⟩, hbr⟩ := hrel
    obtain ⟨wo, rfl⟩ : ∃ wo : World, wo = wr := ⟨_, rfl⟩
    have zo := hbr.size
    have hsl : s.length = n := by rw [triG_len hs.out, hl']
    have hVsl := hVs.lt
    clear hVl hb3
    by_cases hlt : k < n
    · obtain ⟨s2, hs2⟩ := triG_upto h.out k (by omega)
      have hs3 : rowG (nstep pts z) n k s (n - k) = some s2 := by
        obtain ⟨j, rfl⟩ : ∃ j, k = j + 1 := ⟨k - 1, by omega⟩
        rw [triG, show j = j + 1 - 1 by omega, hs.out, Option.bind_some] at hs2
        exact hs2
      replace hs2 := Lib.hid hs2
      replace hs3 := Lib.hid hs3
      have hwn : IntKind.i64.wrap ((n : Int) - 1) = ((n - 1 : Nat) : Int) := wrap_sub' n 1 hn (by omega)
      have hk0 : (k : Int) < (n : Int) := by omega
      have hnk : ((n - 1 : Nat) : Int) = (n : Int) - 1 := by omega
      go_wp2
      go_loopw [10, 11] (fun q _ wr => ∃ i1 : Nat, k ≤ i1 ∧ i1 ≤ n ∧ q = .int .i64 ((i1 : Int) - 1) ∧ (∃ s', Hid (rowG (nstep pts z) n k s (n - i1) = some s') ∧ CV wr gl s') ∧ Below w.heap.size w wr) (fun q _ _ => (intOf q + 1).toNat)
      case atStart => exact ⟨n, by omega, Nat.le_refl _, by first | rfl | (rw [hnk]), ⟨s, by show rowG _ _ _ _ _ = _; rw [Nat.sub_self]; rfl, hVs⟩, hbr⟩
      case round =>
        obtain ⟨i1, hki, hin, rfl, ⟨s', hs', hVs'⟩, hbq⟩ := hrel
        obtain ⟨wq, rfl⟩ : ∃ wq : World, wq = wr := ⟨_, rfl⟩
        clear hVs hbr zo hVsl
        have zq := hbq.size
        have hsl' : s'.length = n := by rw [rowG_len hs'.out, hsl]
        have hVsl' := hVs'.lt
        by_cases hlt2 : k + 1 ≤ i1
        · obtain ⟨i, rfl⟩ : ∃ i, i1 = i + 1 := ⟨i1 - 1, by omega⟩
          obtain ⟨s4, hs4⟩ := rowG_upto hs3.out (n - i) (by omega)
          obtain ⟨r, hr1, hr2⟩ := rowG_step (j := n - (i + 1)) (lo := s4) (by rw [show n - (i + 1) + 1 = n - i by omega]; exact hs4) hs'.out
          rw [show n - 1 - (n - (i + 1)) = i by omega] at hr1 hr2
          unfold nstep at hr1
          simp only [Option.bind_eq_some_iff] at hr1
          obtain ⟨a, g1, b, g2, a3, g3, a4, g4, a5, g5, a6, g6, g7⟩ := hr1
          have H1 := minusW_calls g1
          have H2 := mulW_calls g2
          have H3 := minusW_calls g3
          have H4 := mulW_calls g4
          have H5 := minusW_calls g5
          have H6 := minusW_calls g6
          have H7 := quoW_calls g7
          have hpr := hr.below hbq
          obtain ⟨ad1, rfl, hB1, hc1⟩ := comp_at (l := pts) (k := i) (by rw [hl]; exact hpr) (by omega)
          obtain ⟨ad2, e2, -, hc2⟩ := comp_at (l := pts) (k := i - k) (by rw [hl]; exact hpr) (by omega)
          cases e2
          have hc3 := hVs'.cell (i := i) (by omega)
          have hc4 := hVs'.cell (i := i - 1) (by omega)
          have hfo := hVs'.frozen i
          have hz : ((i + 1 : Nat) : Int) - 1 = (i : Int) := by omega
          rw [hz]
          have hwi : IntKind.i64.wrap ((i : Int) - 1) = ((i - 1 : Nat) : Int) := wrap_sub' i 1 (by omega) (by omega)
          have hwk : IntKind.i64.wrap ((i : Int) - (k : Int)) = ((i - k : Nat) : Int) := wrap_sub' i k (by omega) (by omega)
          have hi0 : (0 : Int) ≤ (i : Int) := by omega
          have hi1 : (i : Int) < (n : Int) := by omega
          have hi2 : ((i - 1 : Nat) : Int) < (n : Int) := by omega
          have hi3 : ((i - k : Nat) : Int) < (n : Int) := by omega
          have hi4 : i < n := by omega
          have hi5 : i - 1 < n := by omega
          have hi6 : i - k < n := by omega
          have hik : (k : Int) ≤ (i : Int) := by omega
          have hVd := Lib.hid hVs'.drew
          have hs5 : Hid (rowG (nstep pts z) n k s (n - i) = some (s'.set i (r.1, r.2))) := by
            show _ = _
            rw [hs4, hr2]
          clear hs3 hs4 hr2 g1 g2 g3 g4 g5 g6 g7 hpr hr hVs' hs' h hs2
          generalize s'.getD i (0, 0) = X1 at *
          generalize s'.getD (i - 1) (0, 0) = X2 at *
          generalize pts.getD i (0, 0) = X3 at *
          generalize pts.getD (i - k) (0, 0) = X4 at *
          go_wp2_with fail
          refine wp_region_still_tail 26 (by kernel_rfl) (by kernel_rfl) ?_
          simp only [List.take_succ_cons, List.take_zero, List.drop_succ_cons, List.drop_zero]
          repeat still_step
          still_call (H1 _)
          repeat still_step
          still_call (H2 _)
          repeat still_step
          still_call (H3 _)
          repeat still_step
          still_call (H4 _)
          repeat still_step
          still_call (H5 _)
          repeat still_step
          refine wpStill_nil ?_
          change wpList _ _ _ _ _ wq.drew
          have hbd := below_drew hbq
          have hVd' := hVd.out
          replace hc1 : wq.drew.cell? (ad1.add i) = some (.complex .f32 X3.1 X3.2) := hc1
          replace hc2 : wq.drew.cell? (ad1.add (i - k)) = some (.complex .f32 X4.1 X4.2) := hc2
          replace hfo : wq.drew.frozen? ⟨gl, i, none⟩ = false := hfo
          replace zq : w.heap.size ≤ wq.drew.heap.size := zq
          clear hVd hbq hc3 hc4 H1 H2 H3 H4 H5
          generalize wq.drew = wd at *
          have hVn := Lib.hid (CV.set (hVd'.drew) (i := i) (by omega) r.1 r.2)
          have hbn := Lib.hid (below_set (below_drew hbd) (a := ⟨gl, i, none⟩) hgl1 (.complex .f32 r.1 r.2))
          have hcd := hVd'.cell (i := i) (by omega)
          clear hVd' hbd
          go_wp2_with fail
          refine wp_region_still_tail 16 (by kernel_rfl) (by kernel_rfl) ?_
          simp only [List.take_succ_cons, List.take_zero, List.drop_succ_cons, List.drop_zero]
          repeat still_step
          still_call (H6 _)
          repeat still_step
          still_call (H7 _)
          repeat still_step
          refine wpStill_nil ?_
          change wpList _ _ _ _ _ wd.drew
          go_wp2
          exact ⟨⟨i, by omega, by omega, by rw [show ((i - 1 : Nat) : Int) = (i : Int) - 1 by omega], ⟨_, hs5.out, hVn.out⟩, hbn.out⟩, by simp [intOf]; omega⟩
        · obtain rfl : k = i1 := by omega
          have he : s' = s2 := by
            have := hs'.out
            rw [hs3.out] at this
            exact (Option.some.inj this).symm
          have hs6 : Hid (triG (nstep pts z) n vals (k + 1 - 1) = some s') := by
            show _ = _
            rw [he, Nat.add_sub_cancel]
            exact hs2.out
          have hge : ¬ (k : Int) - 1 ≥ (k : Int) := by omega
          clear hs' hs3 hs2 he h hr hs
          go_wp2
          exact ⟨⟨k + 1, by omega, by omega, by go_num, ⟨s', hs6, hVs'⟩, hbq⟩, by simp [intOf]; omega⟩
    · obtain rfl : n = k := by omega
      have he : s = lo := by
        have := hs.out
        rw [h.out] at this
        exact (Option.some.inj this).symm
      subst he
      have hc5 := hVs.cell (i := n - 1) (by omega)
      have hwn : IntKind.i64.wrap ((n : Int) - 1) = ((n - 1 : Nat) : Int) := wrap_sub' n 1 hn (by omega)
      have hn1 : ((n - 1 : Nat) : Int) < (n : Int) := by omega
      have hn2 : n - 1 < n := by omega
      clear hs h hr
      rw [← hX.out] at hc5
      clear hX
      go_wp2_with fail
      refine (HF _).mono ?_
      rintro e w3 ⟨rfl, hb4⟩
      go_wp2
      go_ret2
      exact ⟨rfl, hbr.trans (hb4.mono zo)⟩
end Go.Proofs.Ytlpibibpckkjhaa
namespace Go.Proofs.Ytlpibibpckkjhaa
open Go.RowKit
/-- A number of sixteenths as a word. -/
def zt (i : Nat) : Nat := (floatBits .quo .f32 (floatOfInt .f32 ((i : Int) - 16)) 1098907648).getD 0
def ztV (i : Nat) : Rat := (((i : Int) - 16 : Int) : Rat) / 16
def hwV (h : Nat) : Rat := (((h : Int) - 8 : Int) : Rat) / 2
def subB (x y : Nat) (v : Rat) : Bool := match floatBits .sub .f32 x y with
  | some r => fin32B r && decide (V32 r = v)
  | none => false
theorem subB_is {x y : Nat} {v : Rat} (h : subB x y v = true) : ∃ r, floatBits .sub .f32 x y = some r ∧ NV .f32 r v := by
  unfold subB at h
  split at h
  · rename_i r e
    simp only [Bool.and_eq_true, decide_eq_true_eq] at h
    exact ⟨r, e, by rw [← h.2]; exact nv_of_fin h.1⟩
  · cases h
theorem zz_tab : subB 0 0 0 = true := by decide +kernel
theorem hh_tab : (List.range 19).all (fun a => (List.range 19).all fun b => subB (hw a) (hw b) (hwV a - hwV b)) = true := by decide +kernel
theorem zh_tab : (List.range 33).all (fun a => (List.range 19).all fun b => subB (zt a) (hw b) (ztV a - hwV b)) = true := by decide +kernel
theorem z0_tab : (List.range 33).all (fun a => subB (zt a) 0 (ztV a) && fin32B (zt a) && decide (V32 (zt a) = ztV a)) = true := by decide +kernel
theorem hh_diff (a b : Nat) (ha : a < 19) (hb : b < 19) : ∃ r, minusW (hw a, 0) (hw b, 0) = some r ∧ NV .f32 r.1 (hwV a - hwV b) ∧ NV .f32 r.2 0 := by
  obtain ⟨r, e, n⟩ := subB_is (List.all_eq_true.1 (List.all_eq_true.1 hh_tab a (List.mem_range.2 ha)) b (List.mem_range.2 hb))
  obtain ⟨s, f, m⟩ := subB_is zz_tab
  exact ⟨(r, s), by unfold minusW; simp only [e, f, Option.bind_some], n, m⟩
theorem zt_ok (a : Nat) (ha : a < 33) : NV .f32 (zt a) (ztV a) := by
  have h := List.all_eq_true.1 z0_tab a (List.mem_range.2 ha)
  simp only [Bool.and_eq_true, decide_eq_true_eq] at h
  rw [← h.2]
  exact nv_of_fin h.1.2
theorem zh_diff (a c b : Nat) (ha : a < 33) (hc : c < 33) (hb : b < 19) : ∃ r, minusW (zt a, zt c) (hw b, 0) = some r ∧ NV .f32 r.1 (ztV a - hwV b) ∧ NV .f32 r.2 (ztV c) := by
  obtain ⟨r, e, n⟩ := subB_is (List.all_eq_true.1 (List.all_eq_true.1 zh_tab a (List.mem_range.2 ha)) b (List.mem_range.2 hb))
  have h := List.all_eq_true.1 z0_tab c (List.mem_range.2 hc)
  simp only [Bool.and_eq_true] at h
  obtain ⟨s, f, m⟩ := subB_is h.1.1
  exact ⟨(r, s), by unfold minusW; simp only [e, f, Option.bind_some], n, m⟩
theorem zt_bd (a : Nat) (ha : a < 33) : Lm (ztV a) 1 := by
  have h : (List.range 33).all (fun a => decide (-1 ≤ ztV a) && decide (ztV a ≤ 1)) = true := by decide +kernel
  have h2 := List.all_eq_true.1 h a (List.mem_range.2 ha)
  simp only [Bool.and_eq_true, decide_eq_true_eq] at h2
  exact h2
def Zc : Rat := 14143 / 10000
def pwr (x : Rat) : Nat → Rat
  | 0 => 1
  | n + 1 => pwr x n * x
def mx (x y : Rat) : Rat := if x < y then y else x
theorem mx_l (x y : Rat) : x ≤ mx x y := by unfold mx; split <;> grind
theorem mx_r (x y : Rat) : y ≤ mx x y := by unfold mx; split <;> grind
def supM (f : Nat → Rat) : Nat → Rat
  | 0 => 0
  | m + 1 => mx (supM f m) (f m)
theorem supM_le (f : Nat → Rat) : ∀ n m, m < n → f m ≤ supM f n
  | 0, m, h => by omega
  | n + 1, m, h => by
    rw [supM]
    by_cases e : m = n
    · subst e; exact mx_r _ _
    · have a := supM_le f n m (by omega)
      have b := mx_l (supM f n) (f n)
      grind
/-- The polynomial that passes the powers at the points from i - k to i. -/
def nc (X : Nat → Rat) (m : Nat) : Nat → Nat → List Rat
  | 0, i => [pwr (X i) m]
  | k + 1, i => sclL (1 / (X i - X (i - (k + 1)))) (addL (mulx (X (i - (k + 1))) (nc X m k i)) (sclL (-1) (mulx (X i) (nc X m k (i - 1)))))
def mgN (X : Nat → Rat) (n k i : Nat) : Rat := supM (fun m => magL Zc (nc X m k i)) n
def dD (X : Nat → Rat) (i : Nat) : Rat := ab (X i) + Zc
def mE (d N e : Rat) : Rat := d * e + d * (N + e) / 11000000
def sE (P e f : Rat) : Rat := e + f + (P + (e + f)) / 11000000
def qE (q P e : Rat) : Rat := q * e + (P + q * e) / 11000000
def eN (X : Nat → Rat) (n : Nat) : Nat → Nat → Rat
  | 0, _ => 0
  | k + 1, i => qE (1 / (X i - X (i - (k + 1)))) (mgN X n (k + 1) i) (sE ((X i - X (i - (k + 1))) * mgN X n (k + 1) i) (mE (dD X (i - (k + 1))) (mgN X n k i) (eN X n k i)) (mE (dD X i) (mgN X n k (i - 1)) (eN X n k (i - 1))))
def shB (M : Rat) : Bool := decide (1 / 100000 ≤ M) && decide (M ≤ 1000000)
theorem shB_is {M : Rat} (h : shB M = true) : Sh M := by
  unfold shB at h
  simp only [Bool.and_eq_true, decide_eq_true_eq] at h
  exact h
def hB (h : Rat) : Bool := decide (1 / 10 ≤ h) && decide (h ≤ 10)
theorem hB_is {h : Rat} (k : hB h = true) : 1 / 10 ≤ h ∧ h ≤ 10 := by
  unfold hB at k
  simpa only [Bool.and_eq_true, decide_eq_true_eq] using k
/-- What a step of the triangle asks. -/
def nevB (X : Nat → Rat) (n k i : Nat) : Bool :=
  hB (X i - X (i - (k + 1))) && shB (dD X (i - (k + 1)) * (mgN X n k i + eN X n k i)) && shB (dD X i * (mgN X n k (i - 1) + eN X n k (i - 1))) &&
  shB ((X i - X (i - (k + 1))) * mgN X n (k + 1) i + (mE (dD X (i - (k + 1))) (mgN X n k i) (eN X n k i) + mE (dD X i) (mgN X n k (i - 1)) (eN X n k (i - 1)))) &&
  shB (mgN X n (k + 1) i + 1 / (X i - X (i - (k + 1))) * sE ((X i - X (i - (k + 1))) * mgN X n (k + 1) i) (mE (dD X (i - (k + 1))) (mgN X n k i) (eN X n k i)) (mE (dD X i) (mgN X n k (i - 1)) (eN X n k (i - 1))))
section
variable {X : Nat → Rat} {n : Nat} {ar ai La : Nat → Rat} {ξ η L : Rat}
def exN (X : Nat → Rat) (ar ai : Nat → Rat) (ξ η : Rat) (n k i : Nat) : Rat × Rat := lin ar ai (fun m => evP ξ η (nc X m k i)) n
theorem exN_bd (hz : E2 ξ η Zc) (hL : L = sumF La n) (hA : ∀ m, m < n → E2 (ar m) (ai m) (La m)) (k i : Nat) : E2 (exN X ar ai ξ η n k i).1 (exN X ar ai ξ η n k i).2 (mgN X n k i * L) := by
  have h := lin_bd (ar := ar) (ai := ai) (t := fun m => evP ξ η (nc X m k i)) n hA (fun m hm => (evP_mag hz (nc X m k i)).le (supM_le (fun m => magL Zc (nc X m k i)) n m hm))
  rw [hL, Rat.mul_comm]
  exact h
theorem exN_step (k i : Nat) : exN X ar ai ξ η n (k + 1) i = (1 / (X i - X (i - (k + 1))) * (((ξ - X (i - (k + 1))) * (exN X ar ai ξ η n k i).1 - η * (exN X ar ai ξ η n k i).2) - ((ξ - X i) * (exN X ar ai ξ η n k (i - 1)).1 - η * (exN X ar ai ξ η n k (i - 1)).2)),
    1 / (X i - X (i - (k + 1))) * (((ξ - X (i - (k + 1))) * (exN X ar ai ξ η n k i).2 + η * (exN X ar ai ξ η n k i).1) - ((ξ - X i) * (exN X ar ai ξ η n k (i - 1)).2 + η * (exN X ar ai ξ η n k (i - 1)).1))) := by
  unfold exN
  have h1 := lin_mul (ar := ar) (ai := ai) (t := fun m => evP ξ η (nc X m k i)) (ξ - X (i - (k + 1))) η n
  have h2 := lin_mul (ar := ar) (ai := ai) (t := fun m => evP ξ η (nc X m k (i - 1))) (ξ - X i) η n
  have h3 := lin_sub (ar := ar) (ai := ai) (t := fun m => ((ξ - X (i - (k + 1))) * (evP ξ η (nc X m k i)).1 - η * (evP ξ η (nc X m k i)).2, (ξ - X (i - (k + 1))) * (evP ξ η (nc X m k i)).2 + η * (evP ξ η (nc X m k i)).1)) (s := fun m => ((ξ - X i) * (evP ξ η (nc X m k (i - 1))).1 - η * (evP ξ η (nc X m k (i - 1))).2, (ξ - X i) * (evP ξ η (nc X m k (i - 1))).2 + η * (evP ξ η (nc X m k (i - 1))).1)) n
  have h4 := lin_scl (ar := ar) (ai := ai) (t := fun m => (((ξ - X (i - (k + 1))) * (evP ξ η (nc X m k i)).1 - η * (evP ξ η (nc X m k i)).2) - ((ξ - X i) * (evP ξ η (nc X m k (i - 1))).1 - η * (evP ξ η (nc X m k (i - 1))).2), ((ξ - X (i - (k + 1))) * (evP ξ η (nc X m k i)).2 + η * (evP ξ η (nc X m k i)).1) - ((ξ - X i) * (evP ξ η (nc X m k (i - 1))).2 + η * (evP ξ η (nc X m k (i - 1))).1))) (1 / (X i - X (i - (k + 1)))) n
  rw [h3, h1, h2] at h4
  rw [← h4]
  refine lin_congr n fun m _ => ?_
  rw [nc, evP_scl, evP_add, evP_scl, evP_mulx, evP_mulx]
  ext <;> simp only <;> grind
/-- The points of a list of halves. -/
def xv (hs : List Nat) (i : Nat) : Rat := hwV (hs.getD i 0)
theorem z_len (hX : E2 ξ η Zc) (x : Rat) : E2 (ξ - x) η (ab x + Zc) := by
  have h := hX.sub (E2.real (ab_lm x))
  rw [show η - 0 = η by grind] at h
  exact h.le (by grind)
theorem nev_step {hs : List Nat} {a c k i : Nat} {x y : Nat × Nat} (hn : hs.length = n) (hh : ∀ j, j < n → hs.getD j 0 < 19) (ha : a < 33) (hc : c < 33) (hz : E2 (ztV a) (ztV c) Zc) (hLr : Lr L) (hL : L = sumF La n) (hA : ∀ m, m < n → E2 (ar m) (ai m) (La m)) (hki : k + 1 ≤ i) (hin : i < n) (hb : nevB (xv hs) n k i = true)
    (hx : LQ L (exN (xv hs) ar ai (ztV a) (ztV c) n k i) (mgN (xv hs) n k i) (eN (xv hs) n k i) x) (hy : LQ L (exN (xv hs) ar ai (ztV a) (ztV c) n k (i - 1)) (mgN (xv hs) n k (i - 1)) (eN (xv hs) n k (i - 1)) y) :
    ∃ r, nstep (ptsL hs) (zt a, zt c) (k + 1) i x y = some r ∧ LQ L (exN (xv hs) ar ai (ztV a) (ztV c) n (k + 1) i) (mgN (xv hs) n (k + 1) i) (eN (xv hs) n (k + 1) i) r := by
  unfold nevB at hb
  simp only [Bool.and_eq_true] at hb
  obtain ⟨⟨⟨⟨b1, b2⟩, b3⟩, b4⟩, b5⟩ := hb
  have hh1 := hB_is b1
  have hq : 1 / (xv hs i - xv hs (i - (k + 1))) * (xv hs i - xv hs (i - (k + 1))) = 1 := Rat.div_mul_cancel (by grind)
  obtain ⟨r1, g1, m1, m1'⟩ := zh_diff a c (hs.getD (i - (k + 1)) 0) ha hc (hh _ (by omega))
  obtain ⟨r2, g2, m2, m2'⟩ := zh_diff a c (hs.getD i 0) ha hc (hh _ hin)
  obtain ⟨r3, g3, m3, m3'⟩ := hh_diff (hs.getD i 0) (hs.getD (i - (k + 1)) 0) (hh _ hin) (hh _ (by omega))
  have hD1 := z_len hz (xv hs (i - (k + 1)))
  have hD2 := z_len hz (xv hs i)
  obtain ⟨s1, f1, q1⟩ := mulLQ hLr m1 m1' hD1 hx (shB_is b2)
  obtain ⟨s2, f2, q2⟩ := mulLQ hLr m2 m2' hD2 hy (shB_is b3)
  have hst := exN_step (X := xv hs) (n := n) (ar := ar) (ai := ai) (ξ := ztV a) (η := ztV c) k i
  have hbd := exN_bd (X := xv hs) hz hL hA (k + 1) i
  have hP : E2 ((ztV a - xv hs (i - (k + 1))) * (exN (xv hs) ar ai (ztV a) (ztV c) n k i).1 - ztV c * (exN (xv hs) ar ai (ztV a) (ztV c) n k i).2 - ((ztV a - xv hs i) * (exN (xv hs) ar ai (ztV a) (ztV c) n k (i - 1)).1 - ztV c * (exN (xv hs) ar ai (ztV a) (ztV c) n k (i - 1)).2))
      ((ztV a - xv hs (i - (k + 1))) * (exN (xv hs) ar ai (ztV a) (ztV c) n k i).2 + ztV c * (exN (xv hs) ar ai (ztV a) (ztV c) n k i).1 - ((ztV a - xv hs i) * (exN (xv hs) ar ai (ztV a) (ztV c) n k (i - 1)).2 + ztV c * (exN (xv hs) ar ai (ztV a) (ztV c) n k (i - 1)).1)) ((xv hs i - xv hs (i - (k + 1))) * mgN (xv hs) n (k + 1) i * L) := by
    have h := hbd.scale (T := xv hs i - xv hs (i - (k + 1))) (t := xv hs i - xv hs (i - (k + 1))) (by unfold Lm; constructor <;> grind)
    rw [hst] at h
    simp only at h
    generalize xv hs i - xv hs (i - (k + 1)) = H at *
    have e : ∀ w : Rat, H * (1 / H * w) = w := fun w => by
      rw [← Rat.mul_assoc, Rat.mul_comm H, hq, Rat.one_mul]
    rw [e, e] at h
    exact h.le (by grind)
  obtain ⟨s3, f3, q3⟩ := minusLQ hLr q1 q2 hP (shB_is b4)
  obtain ⟨s4, f4, q4⟩ := divLQ hLr m3 m3' hh1 hq q3 (by rw [hst] at hbd; exact hbd) (shB_is b5)
  refine ⟨s4, ?_, ?_⟩
  · unfold nstep
    rw [ptsL_at (show i - (k + 1) < hs.length by omega), ptsL_at (show i < hs.length by omega)]
    simp only [g1, g2, g3, f1, f2, f3, f4, Option.bind_some]
  · rw [hst, eN]
    exact q4
end
end Go.Proofs.Ytlpibibpckkjhaa
namespace Go.Proofs.Ytlpibibpckkjhaa
open Go.RowKit
def newtW (pts d : List (Nat × Nat)) (z : Nat × Nat) (n : Nat) : Nat → Option (Nat × Nat)
  | 0 => some (d.getD (n - 1) (0, 0))
  | j + 1 => (newtW pts d z n j).bind fun v => (minusW z (pts.getD (n - 2 - j) (0, 0))).bind fun a => (mulW v a).bind fun b => plusW b (d.getD (n - 2 - j) (0, 0))
theorem newtW_upto {pts d : List (Nat × Nat)} {z r : Nat × Nat} {n m : Nat} (h : newtW pts d z n m = some r) : ∀ j, j ≤ m → ∃ s, newtW pts d z n j = some s := by
  induction m generalizing r with
  | zero =>
    intro j hj
    obtain rfl : j = 0 := by omega
    exact ⟨r, h⟩
  | succ m ih =>
    intro j hj
    have h' := h
    rw [newtW, Option.bind_eq_some_iff] at h
    obtain ⟨s, h1, -⟩ := h
    by_cases e : j = m + 1
    · subst e
      exact ⟨r, h'⟩
    · exact ih h1 j (by omega)
set_option maxRecDepth 100000 in
set_option maxHeartbeats 1600000 in
theorem newtonAt_w (A A' : Option Addr) (c c' n : Nat) (pts d : List (Nat × Nat)) (z r : Nat × Nat) (hn : 1 ≤ n) (hl : pts.length = n) (hl' : d.length = n) (hc : n ≤ c) (hP : PtsOk pts) (hV : d.all finCB = true) (hzf : fin32B z.1 = true ∧ fin32B z.2 = true) (h : newtW pts d z n (n - 1) = some r)
    (hf : fin32B r.1 = true ∧ fin32B r.2 = true) (w : World) (hr : Reads w w.heap.size 1 A n (cplx pts)) (hr' : Reads w w.heap.size 1 A' n (cplx d)) :
    Calls Try.prog 38 #[.slice A n c, .slice A' n c', .complex .f32 z.1 z.2] w fun e w' => e = .returned (.tuple #[.complex .f32 r.1 r.2, .bool true]) ∧ Below w.heap.size w w' := by
  have HF := finite_v hf.1 hf.2
  have HZ := fun W => allFinite_b (some ⟨W.heap.size, 0, none⟩) 1 (W.heap.size + 1) [(z.1, z.2)] (W.alloc (.cells #[.complex .f32 z.1 z.2] 36)) (comp_one W z.1 z.2) (by simp) (by simp)
  have hfa : [(z.1, z.2)].all finCB = true := by simp [finCB, hzf]
  simp only [hfa] at HZ
  clear hfa hzf hf
  have HA := areValued_any A A' c c' n pts d hl hl' hc hP hV w hr hr'
  have hn17 : n ≤ 17 := by rw [← hl]; exact hP.len.2
  go_enter Try.func38, Try.ntmps38
  go_wp2_with fail
  (with_reducible refine HA.mono ?_)
  rintro e w1 ⟨rfl, hb1⟩
  clear HA
  have z1 := hb1.size
  have hb1a : Below w1.heap.size w1 (w1.alloc (.cells #[.complex .f32 z.1 z.2] 36)) := (Below.refl _ _).alloc (Nat.le_refl _) _
  go_wp2_with fail
  refine (HZ w1).mono ?_
  rintro e w2 ⟨rfl, hb1b⟩
  clear HZ
  replace hb1 := (hb1.trans (hb1a.mono z1)).trans (hb1b.mono (by simp; omega))
  replace z1 := hb1.size
  clear hb1a hb1b
  have hrp := hr.below hb1
  have hrd := hr'.below hb1
  have hwn : IntKind.i64.wrap ((n : Int) - 1) = ((n - 1 : Nat) : Int) := wrap_sub' n 1 hn (by omega)
  have hn1 : ((n - 1 : Nat) : Int) < (n : Int) := by omega
  have hn2 : n - 1 < n := by omega
  obtain ⟨ad, rfl, -, hc1⟩ := comp_at (l := d) (k := n - 1) (by rw [hl']; exact hrd) (by omega)
  have hw2 : IntKind.i64.wrap (((n - 1 : Nat) : Int) - 1) = (n : Int) - 2 := by
    rw [show ((n - 1 : Nat) : Int) - 1 = (n : Int) - 2 by omega]
    exact IntWalk.i64_in _ (by omega)
  replace h := Lib.hid h
  have h0 : Hid (newtW pts d z n 0 = some (d.getD (n - 1) (0, 0))) := rfl
  clear hP hV
  generalize d.getD (n - 1) (0, 0) = X at *
  go_wp2_with fail
  clear hc1 hn1 hn2 hwn hw2
  go_loopw [9, 10] (fun v q wr => ∃ (i1 : Nat) (x : Nat × Nat), i1 + 1 ≤ n ∧ q = .int .i64 ((i1 : Int) - 1) ∧ v = .complex .f32 x.1 x.2 ∧ Hid (newtW pts d z n (n - 1 - i1) = some x) ∧ Below w.heap.size w wr) (fun _ q _ => (intOf q + 1).toNat)
  case atStart => exact ⟨n - 1, X, by omega, by rw [show ((n - 1 : Nat) : Int) - 1 = (n : Int) - 2 by omega], rfl, by rw [Nat.sub_self]; exact h0, hb1⟩
  case round =>
    obtain ⟨i1, x, hi1, rfl, rfl, hx, hbr⟩ := hrel
    obtain ⟨wq, rfl⟩ : ∃ wq : World, wq = wr := ⟨_, rfl⟩
    replace hrp := hr.below hbr
    replace hrd := hr'.below hbr
    have zq := hbr.size
    clear hb1 z1
    by_cases hlt : 1 ≤ i1
    · obtain ⟨i, rfl⟩ : ∃ i, i1 = i + 1 := ⟨i1 - 1, by omega⟩
      obtain ⟨s, hs⟩ := newtW_upto h.out (n - 1 - i) (by omega)
      have hs2 := hs
      rw [show n - 1 - i = n - 1 - (i + 1) + 1 by omega, newtW, hx.out, Option.bind_some] at hs2
      rw [show n - 2 - (n - 1 - (i + 1)) = i by omega] at hs2
      simp only [Option.bind_eq_some_iff] at hs2
      obtain ⟨a, g1, b, g2, g3⟩ := hs2
      have H1 := minusW_calls g1
      have H2 := mulW_calls g2
      have H3 := plusW_calls g3
      obtain ⟨ad1, rfl, -, hc1⟩ := comp_at (l := pts) (k := i) (by rw [hl]; exact hrp) (by omega)
      obtain ⟨ad2, e2, -, hc2⟩ := comp_at (l := d) (k := i) (by rw [hl']; exact hrd) (by omega)
      cases e2
      have hz : ((i + 1 : Nat) : Int) - 1 = (i : Int) := by omega
      rw [hz]
      have hi0 : (0 : Int) ≤ (i : Int) := by omega
      have hi2 : (i : Int) < (n : Int) := by omega
      have hi3 : i < n := by omega
      replace hs := Lib.hid hs
      clear g1 g2 g3 hx h h0 hrp hrd hr hr'
      generalize pts.getD i (0, 0) = X1 at *
      generalize d.getD i (0, 0) = X2 at *
      go_wp2_with fail
      refine wp_region_still_tail 13 (by kernel_rfl) (by kernel_rfl) ?_
      simp only [List.take_succ_cons, List.take_zero, List.drop_succ_cons, List.drop_zero]
      repeat still_step
      still_call (H1 _)
      repeat still_step
      still_call (H2 _)
      repeat still_step
      still_call (H3 _)
      repeat still_step
      refine wpStill_nil ?_
      change wpList _ _ _ _ _ wq.drew
      have hbn := below_drew hbr
      go_wp2
      exact ⟨⟨i, s, by omega, rfl, rfl, hs, hbn⟩, by simp [intOf]⟩
    · obtain rfl : i1 = 0 := by omega
      have he : x = r := by
        have := hx.out
        rw [Nat.sub_zero, h.out] at this
        exact (Option.some.inj this).symm
      subst he
      clear hx h h0 hrp hrd hr hr'
      go_wp2_with fail
      refine (HF _).mono ?_
      rintro e w3 ⟨rfl, hb4⟩
      go_wp2
      go_ret2
      exact ⟨rfl, hbr.trans (hb4.mono zq)⟩
end Go.Proofs.Ytlpibibpckkjhaa
namespace Go.Proofs.Ytlpibibpckkjhaa
open Go.RowKit
def dd (X : Nat → Rat) (m : Nat) : Nat → Nat → Rat
  | 0, i => pwr (X i) m
  | k + 1, i => 1 / (X i - X (i - (k + 1))) * (dd X m k i - dd X m k (i - 1))
def mgD (X : Nat → Rat) (n k i : Nat) : Rat := supM (fun m => ab (dd X m k i)) n
def eD (X : Nat → Rat) (n : Nat) : Nat → Nat → Rat
  | 0, _ => 0
  | k + 1, i => qE (1 / (X i - X (i - (k + 1)))) (mgD X n (k + 1) i) (sE ((X i - X (i - (k + 1))) * mgD X n (k + 1) i) (eD X n k i) (eD X n k (i - 1)))
def divB (X : Nat → Rat) (n k i : Nat) : Bool :=
  hB (X i - X (i - (k + 1))) && shB ((X i - X (i - (k + 1))) * mgD X n (k + 1) i + (eD X n k i + eD X n k (i - 1))) && shB (mgD X n (k + 1) i + 1 / (X i - X (i - (k + 1))) * sE ((X i - X (i - (k + 1))) * mgD X n (k + 1) i) (eD X n k i) (eD X n k (i - 1)))
/-- The polynomial that Newton's way has come to. -/
def nv (X : Nat → Rat) (n m : Nat) : Nat → List Rat
  | 0 => [dd X m (n - 1) (n - 1)]
  | j + 1 => addL (mulx (X (n - 2 - j)) (nv X n m j)) [dd X m (n - 2 - j) (n - 2 - j)]
def mgV (X : Nat → Rat) (n j : Nat) : Rat := supM (fun m => magL Zc (nv X n m j)) n
def eV (X : Nat → Rat) (n : Nat) : Nat → Rat
  | 0 => eD X n (n - 1) (n - 1)
  | j + 1 => sE (mgV X n (j + 1)) (mE (dD X (n - 2 - j)) (mgV X n j) (eV X n j)) (eD X n (n - 2 - j) (n - 2 - j))
def newB (X : Nat → Rat) (n j : Nat) : Bool := shB (dD X (n - 2 - j) * (mgV X n j + eV X n j)) && shB (mgV X n (j + 1) + (mE (dD X (n - 2 - j)) (mgV X n j) (eV X n j) + eD X n (n - 2 - j) (n - 2 - j)))
section
variable {X : Nat → Rat} {n : Nat} {ar ai La : Nat → Rat} {ξ η L M N P e f : Rat} {x y : Nat × Nat} {u v : Rat × Rat}
/-- A product with an exact number behind. -/
theorem mulLQ2 {c d D : Rat} (hL : Lr L) (hx : LQ L u N f x) (hy1 : NV .f32 y.1 c) (hy2 : NV .f32 y.2 d) (hD : E2 c d D) (hS : Sh (D * (N + f))) : ∃ r, mulW x y = some r ∧ LQ L (c * u.1 - d * u.2, c * u.2 + d * u.1) (D * N) (D * f + (D * (N + f)) / 11000000) r := by
  obtain ⟨a, b, n3, n4, e2, hv⟩ := hx
  have hE := hv.of e2
  rw [show N * L + f * L = (N + f) * L by grind] at hE
  obtain ⟨r, π, κ, g, m1, m2, er⟩ := mulE n3 n4 hy1 hy2 hE hD (by rw [show (N + f) * L * D = D * (N + f) * L by grind]; exact md_of hL hS)
  have hd := hD.mul e2
  rw [show c * (a - u.1) - d * (b - u.2) = (a * c - b * d) - (c * u.1 - d * u.2) by grind, show c * (b - u.2) + d * (a - u.1) = (a * d + b * c) - (c * u.2 + d * u.1) by grind] at hd
  refine ⟨r, g, π, κ, m1, m2, (er.trans hd).le (by grind), (hD.mul hv).le (by grind)⟩
def exD (X : Nat → Rat) (ar ai : Nat → Rat) (n k i : Nat) : Rat × Rat := lin ar ai (fun m => (dd X m k i, 0)) n
theorem exD_bd (hL : L = sumF La n) (hA : ∀ m, m < n → E2 (ar m) (ai m) (La m)) (k i : Nat) : E2 (exD X ar ai n k i).1 (exD X ar ai n k i).2 (mgD X n k i * L) := by
  have h := lin_bd (ar := ar) (ai := ai) (t := fun m => (dd X m k i, 0)) n hA (fun m hm => (E2.real (ab_lm (dd X m k i))).le (supM_le (fun m => ab (dd X m k i)) n m hm))
  rw [hL, Rat.mul_comm]
  exact h
theorem exD_step (k i : Nat) : exD X ar ai n (k + 1) i = (1 / (X i - X (i - (k + 1))) * ((exD X ar ai n k i).1 - (exD X ar ai n k (i - 1)).1), 1 / (X i - X (i - (k + 1))) * ((exD X ar ai n k i).2 - (exD X ar ai n k (i - 1)).2)) := by
  unfold exD
  have h3 := lin_sub (ar := ar) (ai := ai) (t := fun m => (dd X m k i, 0)) (s := fun m => (dd X m k (i - 1), 0)) n
  have h4 := lin_scl (ar := ar) (ai := ai) (t := fun m => (dd X m k i - dd X m k (i - 1), (0 : Rat) - 0)) (1 / (X i - X (i - (k + 1)))) n
  simp only at h3 h4
  rw [h3] at h4
  rw [← h4]
  refine lin_congr n fun m _ => ?_
  rw [dd]
  ext <;> simp only <;> grind
theorem div_step {hs : List Nat} {k i : Nat} (hn : hs.length = n) (hh : ∀ j, j < n → hs.getD j 0 < 19) (hLr : Lr L) (hL : L = sumF La n) (hA : ∀ m, m < n → E2 (ar m) (ai m) (La m)) (hki : k + 1 ≤ i) (hin : i < n) (hb : divB (xv hs) n k i = true)
    (hx : LQ L (exD (xv hs) ar ai n k i) (mgD (xv hs) n k i) (eD (xv hs) n k i) x) (hy : LQ L (exD (xv hs) ar ai n k (i - 1)) (mgD (xv hs) n k (i - 1)) (eD (xv hs) n k (i - 1)) y) :
    ∃ r, dstep (ptsL hs) (k + 1) i x y = some r ∧ LQ L (exD (xv hs) ar ai n (k + 1) i) (mgD (xv hs) n (k + 1) i) (eD (xv hs) n (k + 1) i) r := by
  unfold divB at hb
  simp only [Bool.and_eq_true] at hb
  obtain ⟨⟨b1, b4⟩, b5⟩ := hb
  have hh1 := hB_is b1
  have hq : 1 / (xv hs i - xv hs (i - (k + 1))) * (xv hs i - xv hs (i - (k + 1))) = 1 := Rat.div_mul_cancel (by grind)
  obtain ⟨r3, g3, m3, m3'⟩ := hh_diff (hs.getD i 0) (hs.getD (i - (k + 1)) 0) (hh _ hin) (hh _ (by omega))
  have hst := exD_step (X := xv hs) (n := n) (ar := ar) (ai := ai) k i
  have hbd := exD_bd (X := xv hs) hL hA (k + 1) i
  have hP : E2 ((exD (xv hs) ar ai n k i).1 - (exD (xv hs) ar ai n k (i - 1)).1) ((exD (xv hs) ar ai n k i).2 - (exD (xv hs) ar ai n k (i - 1)).2) ((xv hs i - xv hs (i - (k + 1))) * mgD (xv hs) n (k + 1) i * L) := by
    have h := hbd.scale (T := xv hs i - xv hs (i - (k + 1))) (t := xv hs i - xv hs (i - (k + 1))) (by unfold Lm; constructor <;> grind)
    rw [hst] at h
    simp only at h
    generalize xv hs i - xv hs (i - (k + 1)) = H at *
    have e : ∀ w : Rat, H * (1 / H * w) = w := fun w => by
      rw [← Rat.mul_assoc, Rat.mul_comm H, hq, Rat.one_mul]
    rw [e, e] at h
    exact h.le (by grind)
  obtain ⟨s3, f3, q3⟩ := minusLQ hLr hx hy hP (shB_is b4)
  obtain ⟨s4, f4, q4⟩ := divLQ hLr m3 m3' hh1 hq q3 (by rw [hst] at hbd; exact hbd) (shB_is b5)
  refine ⟨s4, ?_, ?_⟩
  · unfold dstep
    rw [ptsL_at (show i - (k + 1) < hs.length by omega), ptsL_at (show i < hs.length by omega)]
    simp only [g3, f3, f4, Option.bind_some]
  · rw [hst, eD]
    exact q4
def exV (X : Nat → Rat) (ar ai : Nat → Rat) (ξ η : Rat) (n j : Nat) : Rat × Rat := lin ar ai (fun m => evP ξ η (nv X n m j)) n
theorem exV_bd (hz : E2 ξ η Zc) (hL : L = sumF La n) (hA : ∀ m, m < n → E2 (ar m) (ai m) (La m)) (j : Nat) : E2 (exV X ar ai ξ η n j).1 (exV X ar ai ξ η n j).2 (mgV X n j * L) := by
  have h := lin_bd (ar := ar) (ai := ai) (t := fun m => evP ξ η (nv X n m j)) n hA (fun m hm => (evP_mag hz (nv X n m j)).le (supM_le (fun m => magL Zc (nv X n m j)) n m hm))
  rw [hL, Rat.mul_comm]
  exact h
theorem evP_one (c : Rat) : evP ξ η [c] = (c, 0) := by
  simp only [evP]
  ext <;> simp only <;> grind
theorem exV_step (j : Nat) : exV X ar ai ξ η n (j + 1) = ((ξ - X (n - 2 - j)) * (exV X ar ai ξ η n j).1 - η * (exV X ar ai ξ η n j).2 + (exD X ar ai n (n - 2 - j) (n - 2 - j)).1, (ξ - X (n - 2 - j)) * (exV X ar ai ξ η n j).2 + η * (exV X ar ai ξ η n j).1 + (exD X ar ai n (n - 2 - j) (n - 2 - j)).2) := by
  unfold exV exD
  have h1 := lin_mul (ar := ar) (ai := ai) (t := fun m => evP ξ η (nv X n m j)) (ξ - X (n - 2 - j)) η n
  have h2 := lin_add (ar := ar) (ai := ai) (t := fun m => ((ξ - X (n - 2 - j)) * (evP ξ η (nv X n m j)).1 - η * (evP ξ η (nv X n m j)).2, (ξ - X (n - 2 - j)) * (evP ξ η (nv X n m j)).2 + η * (evP ξ η (nv X n m j)).1)) (s := fun m => (dd X m (n - 2 - j) (n - 2 - j), 0)) n
  rw [h1] at h2
  simp only at h2
  rw [← h2]
  refine lin_congr n fun m _ => ?_
  rw [nv, evP_add, evP_mulx, evP_one]
theorem new_step {hs : List Nat} {a c j : Nat} {d : List (Nat × Nat)} (hn : hs.length = n) (hh : ∀ j, j < n → hs.getD j 0 < 19) (ha : a < 33) (hc : c < 33) (hz : E2 (ztV a) (ztV c) Zc) (hLr : Lr L) (hL : L = sumF La n) (hA : ∀ m, m < n → E2 (ar m) (ai m) (La m)) (hj : j + 1 < n) (hb : newB (xv hs) n j = true)
    (hd : LQ L (exD (xv hs) ar ai n (n - 2 - j) (n - 2 - j)) (mgD (xv hs) n (n - 2 - j) (n - 2 - j)) (eD (xv hs) n (n - 2 - j) (n - 2 - j)) (d.getD (n - 2 - j) (0, 0)))
    (hx : newtW (ptsL hs) d (zt a, zt c) n j = some x ∧ LQ L (exV (xv hs) ar ai (ztV a) (ztV c) n j) (mgV (xv hs) n j) (eV (xv hs) n j) x) :
    ∃ r, newtW (ptsL hs) d (zt a, zt c) n (j + 1) = some r ∧ LQ L (exV (xv hs) ar ai (ztV a) (ztV c) n (j + 1)) (mgV (xv hs) n (j + 1)) (eV (xv hs) n (j + 1)) r := by
  obtain ⟨hx1, hx2⟩ := hx
  unfold newB at hb
  simp only [Bool.and_eq_true] at hb
  obtain ⟨b1, b2⟩ := hb
  obtain ⟨r1, g1, m1, m1'⟩ := zh_diff a c (hs.getD (n - 2 - j) 0) ha hc (hh _ (by omega))
  have hD1 := z_len hz (xv hs (n - 2 - j))
  obtain ⟨s1, f1, q1⟩ := mulLQ2 hLr hx2 m1 m1' hD1 (shB_is b1)
  have hst := exV_step (X := xv hs) (n := n) (ar := ar) (ai := ai) (ξ := ztV a) (η := ztV c) j
  have hbd := exV_bd (X := xv hs) hz hL hA (j + 1)
  obtain ⟨s2, f2, q2⟩ := plusLQ hLr q1 hd (by rw [hst] at hbd; exact hbd) (shB_is b2)
  refine ⟨s2, ?_, ?_⟩
  · rw [newtW, hx1, Option.bind_some, ptsL_at (show n - 2 - j < hs.length by omega)]
    simp only [g1, f1, f2, Option.bind_some]
  · rw [hst, eV]
    exact q2
end
end Go.Proofs.Ytlpibibpckkjhaa
namespace Go.Proofs.Ytlpibibpckkjhaa
open Go.RowKit
def cm (X : Nat → Rat) (n j k : Nat) : Rat := 1 / 1000 + supM (fun m => ab ((nv X n m j).getD k 0)) n
def prevR (f : Nat → Rat) : Nat → Rat
  | 0 => 0
  | k + 1 => f k
/-- The error of a term of the product. -/
def pE (x : Rat) (M e : Nat → Rat) (k : Nat) : Rat := sE (prevR M k + x * M k) (sE (prevR M k) 0 (mE 1 (prevR M k) (prevR e k))) (mE x (M k) (e k))
def xD (X : Nat → Rat) (i : Nat) : Rat := ab (X i) + 1 / 50
def eC (X : Nat → Rat) (n : Nat) : Nat → Nat → Rat
  | 0, k => if k = 0 then eD X n (n - 1) (n - 1) else 0
  | j + 1, k => sE (cm X n (j + 1) k) (pE (xD X (n - 2 - j)) (cm X n j) (eC X n j) k) (if k = 0 then eD X n (n - 2 - j) (n - 2 - j) else 0)
/-- What a term of a product asks. -/
def prodB (x : Rat) (M e : Nat → Rat) (k : Nat) : Bool :=
  (decide (k = 0) || (shB (1 * (prevR M k + prevR e k)) && shB (prevR M k + (0 + mE 1 (prevR M k) (prevR e k))))) &&
  shB (x * (M k + e k)) && shB (prevR M k + x * M k + (sE (prevR M k) 0 (mE 1 (prevR M k) (prevR e k)) + mE x (M k) (e k))) && decide (0 ≤ M k) && decide (0 ≤ e k) && decide (0 ≤ prevR M k) && decide (0 ≤ prevR e k)
def cofB (X : Nat → Rat) (n j k : Nat) : Bool :=
  prodB (xD X (n - 2 - j)) (cm X n j) (eC X n j) k && shB (cm X n (j + 1) k + (pE (xD X (n - 2 - j)) (cm X n j) (eC X n j) k + (if k = 0 then eD X n (n - 2 - j) (n - 2 - j) else 0)))
section
variable {X : Nat → Rat} {n : Nat} {ar ai La : Nat → Rat} {L : Rat}
def exC (X : Nat → Rat) (ar ai : Nat → Rat) (n j k : Nat) : Rat × Rat := lin ar ai (fun m => ((nv X n m j).getD k 0, 0)) n
theorem exC_bd (hL : L = sumF La n) (hL0 : 0 ≤ L) (hA : ∀ m, m < n → E2 (ar m) (ai m) (La m)) (j k : Nat) : E2 (exC X ar ai n j k).1 (exC X ar ai n j k).2 (cm X n j k * L) := by
  have h := lin_bd (ar := ar) (ai := ai) (t := fun m => ((nv X n m j).getD k 0, 0)) n hA (fun m hm => (E2.real (ab_lm ((nv X n m j).getD k 0))).le (supM_le (fun m => ab ((nv X n m j).getD k 0)) n m hm))
  rw [← hL] at h
  unfold exC cm
  generalize supM (fun m => ab ((nv X n m j).getD k 0)) n = S at *
  exact h.le (by grind)
theorem addL_at : ∀ (p q : List Rat) (k : Nat), (addL p q).getD k 0 = p.getD k 0 + q.getD k 0
  | [], q, k => by rw [addL, List.getD_nil, Rat.zero_add]
  | a :: p, [], k => by simp only [addL, List.getD_nil, Rat.add_zero]
  | a :: p, b :: q, 0 => by simp [addL]
  | a :: p, b :: q, k + 1 => by
    have ih := addL_at p q k
    simpa [addL] using ih
theorem sclL_at (s : Rat) (p : List Rat) (k : Nat) : (sclL s p).getD k 0 = s * p.getD k 0 := by
  unfold sclL
  simp only [List.getD, List.getElem?_map]
  cases p[k]? <;> simp
theorem mulx_at (x : Rat) (p : List Rat) (k : Nat) : (mulx x p).getD k 0 = prevR (fun k => p.getD k 0) k - x * p.getD k 0 := by
  unfold mulx
  rw [addL_at, sclL_at]
  cases k with
  | zero => simp [prevR]; grind
  | succ k => simp [prevR]; grind
theorem exC_step (j k : Nat) : exC X ar ai n (j + 1) k = ((match k with | 0 => 0 | k + 1 => (exC X ar ai n j k).1) - X (n - 2 - j) * (exC X ar ai n j k).1 + (if k = 0 then (exD X ar ai n (n - 2 - j) (n - 2 - j)).1 else 0), (match k with | 0 => 0 | k + 1 => (exC X ar ai n j k).2) - X (n - 2 - j) * (exC X ar ai n j k).2 + (if k = 0 then (exD X ar ai n (n - 2 - j) (n - 2 - j)).2 else 0)) := by
  unfold exC exD
  have h0 := lin_scl (ar := ar) (ai := ai) (t := fun m => ((nv X n m j).getD k 0, 0)) (X (n - 2 - j)) n
  cases k with
  | zero =>
    have h2 := lin_sub (ar := ar) (ai := ai) (t := fun m => (dd X m (n - 2 - j) (n - 2 - j), 0)) (s := fun m => (X (n - 2 - j) * (nv X n m j).getD 0 0, X (n - 2 - j) * 0)) n
    rw [h0] at h2
    simp only [if_true] at h2 ⊢
    rw [show ((0 : Rat) - X (n - 2 - j) * (lin ar ai (fun m => ((nv X n m j).getD 0 0, 0)) n).1 + (lin ar ai (fun m => (dd X m (n - 2 - j) (n - 2 - j), 0)) n).1, (0 : Rat) - X (n - 2 - j) * (lin ar ai (fun m => ((nv X n m j).getD 0 0, 0)) n).2 + (lin ar ai (fun m => (dd X m (n - 2 - j) (n - 2 - j), 0)) n).2) = ((lin ar ai (fun m => (dd X m (n - 2 - j) (n - 2 - j), 0)) n).1 - X (n - 2 - j) * (lin ar ai (fun m => ((nv X n m j).getD 0 0, 0)) n).1, (lin ar ai (fun m => (dd X m (n - 2 - j) (n - 2 - j), 0)) n).2 - X (n - 2 - j) * (lin ar ai (fun m => ((nv X n m j).getD 0 0, 0)) n).2) by ext <;> simp only <;> grind]
    rw [← h2]
    refine lin_congr n fun m _ => ?_
    rw [nv, addL_at, mulx_at]
    ext <;> simp [prevR] <;> grind
  | succ k =>
    have h2 := lin_sub (ar := ar) (ai := ai) (t := fun m => ((nv X n m j).getD k 0, 0)) (s := fun m => (X (n - 2 - j) * (nv X n m j).getD (k + 1) 0, X (n - 2 - j) * 0)) n
    rw [h0] at h2
    simp only [Nat.succ_ne_zero, if_false] at h2 ⊢
    rw [Rat.add_zero, Rat.add_zero, ← h2]
    refine lin_congr n fun m _ => ?_
    rw [nv, addL_at, mulx_at]
    ext <;> simp [prevR] <;> grind
end
end Go.Proofs.Ytlpibibpckkjhaa
namespace Go.Proofs.Ytlpibibpckkjhaa
open Go.RowKit
theorem prodT_lo (a : List (Nat × Nat)) (t0 t1 : Nat × Nat) (k : Nat) : ∀ m, m < k → prodT a [t0, t1] k m = some (0, 0)
  | 0, _ => rfl
  | m + 1, h => by
    rw [prodT, prodT_lo a t0 t1 k m (by omega), Option.bind_some, if_neg (by simp only [List.length_cons, List.length_nil]; omega)]
theorem prodT_at (a : List (Nat × Nat)) (t0 t1 : Nat × Nat) (k : Nat) : prodT a [t0, t1] (k + 1) (k + 1) = (mulW (a.getD k (0, 0)) t1).bind fun m => plusW (0, 0) m := by
  rw [prodT, prodT_lo a t0 t1 (k + 1) k (by omega), Option.bind_some, if_pos (by simp only [List.length_cons, List.length_nil]; omega)]
  rw [show k + 1 - k = 1 by omega]; rfl
theorem prodT_hi (a : List (Nat × Nat)) (t0 t1 : Nat × Nat) (k : Nat) : prodT a [t0, t1] k (k + 1) = (prodT a [t0, t1] k k).bind fun s => (mulW (a.getD k (0, 0)) t0).bind fun m => plusW s m := by
  rw [prodT]
  congr 1
  funext s
  rw [if_pos (by simp only [List.length_cons, List.length_nil]; omega), Nat.sub_self]; rfl
theorem prodT_past (a : List (Nat × Nat)) (t0 t1 : Nat × Nat) (k : Nat) : ∀ m, k + 1 ≤ m → prodT a [t0, t1] k m = prodT a [t0, t1] k (k + 1)
  | 0, h => by omega
  | m + 1, h => by
    by_cases e : m = k
    · rw [e]
    · rw [prodT, prodT_past a t0 t1 k m (by omega)]
      have : ¬ (m ≤ k ∧ k - m < [t0, t1].length) := by omega
      simp only [this, if_false]
      cases prodT a [t0, t1] k (k + 1) <;> rfl
section
variable {L x D : Rat} {u : Nat → Rat × Rat} {M e : Nat → Rat} {a : List (Nat × Nat)} {t : Nat × Nat}
def prevC (f : Nat → Rat × Rat) : Nat → Rat × Rat
  | 0 => (0, 0)
  | k + 1 => f k
theorem LQ.zero : LQ L (0, 0) 0 0 (0, 0) := ⟨0, 0, nv_zero, nv_zero, by
  simp only
  rw [show (0 : Rat) - 0 = 0 by grind]
  exact E2.zero (by grind), E2.zero (by grind)⟩
theorem LQ.le {v : Rat × Rat} {P Q f g : Rat} {z : Nat × Nat} (hL : 0 ≤ L) (h : LQ L v P f z) (hv : E2 v.1 v.2 (Q * L)) (hf : f ≤ g) : LQ L v Q g z := by
  obtain ⟨p, q, n1, n2, k, -⟩ := h
  exact ⟨p, q, n1, n2, k.le (by have := Rat.mul_le_mul_of_nonneg_right hf hL; grind), hv⟩
theorem prod_term (hLr : Lr L) (k : Nat) (ha : ∀ i, i ≤ k → LQ L (u i) (M i) (e i) (a.getD i (0, 0))) (hx1 : NV .f32 t.1 (-x)) (hx2 : NV .f32 t.2 0) (hD : E2 (-x) 0 D) (hb : prodB D M e k = true) :
    ∃ r, (k ≤ a.length → prodT a [t, (1065353216, 0)] k a.length = some r) ∧ (a.length < k → r = (0, 0)) ∧ LQ L ((prevC u k).1 - x * (u k).1, (prevC u k).2 - x * (u k).2) (prevR M k + D * M k) (pE D M e k) r := by
  unfold prodB at hb
  simp only [Bool.and_eq_true, Bool.or_eq_true, decide_eq_true_eq] at hb
  obtain ⟨⟨⟨⟨⟨⟨b0, b1⟩, b2⟩, b3⟩, b4⟩, b5⟩, b6⟩ := hb
  have hL0 : 0 ≤ L := by have := hLr.1; grind
  have hD0 := hD.pos
  -- what the former term gives
  have hs : ∃ s, prodT a [t, (1065353216, 0)] k k = some s ∧ LQ L (prevC u k) (prevR M k) (sE (prevR M k) 0 (mE 1 (prevR M k) (prevR e k))) s := by
    cases k with
    | zero => exact ⟨(0, 0), rfl, LQ.zero.le hL0 (E2.zero (by simp [prevR])) (by simp only [prevR, sE, mE]; grind)⟩
    | succ k =>
      obtain ⟨c1, c2⟩ := b0.resolve_left (by omega)
      have h1' : NV .f32 1065353216 1 := by
        have h : (fin32B 1065353216 && decide (V32 1065353216 = 1)) = true := by decide +kernel
        simp only [Bool.and_eq_true, decide_eq_true_eq] at h
        rw [← h.2]; exact nv_of_fin h.1
      obtain ⟨r1, f1, q1⟩ := mulLQ2 (c := 1) (d := 0) (D := 1) (y := (1065353216, 0)) hLr (ha k (by omega)) h1' nv_zero (E2.real (by unfold Lm; constructor <;> grind)) (shB_is c1)
      have q1' : LQ L (u k) (M k) (mE 1 (M k) (e k)) r1 := by
        rw [show (1 : Rat) * (u k).1 - 0 * (u k).2 = (u k).1 by grind, show (1 : Rat) * (u k).2 + 0 * (u k).1 = (u k).2 by grind, show (1 : Rat) * M k = M k by grind] at q1
        exact q1
      obtain ⟨r2, f2, q2⟩ := plusLQ (P := M k) hLr (LQ.zero) q1' (by
        obtain ⟨-, -, -, -, -, h⟩ := ha k (by omega)
        rwa [show ((0, 0) : Rat × Rat).1 + (u k).1 = (u k).1 by simp; grind, show ((0, 0) : Rat × Rat).2 + (u k).2 = (u k).2 by simp; grind]) (shB_is c2)
      refine ⟨r2, ?_, ?_⟩
      · rw [prodT_at, f1, Option.bind_some, f2]
      · rw [show ((0, 0) : Rat × Rat).1 + (u k).1 = (u k).1 by simp; grind, show ((0, 0) : Rat × Rat).2 + (u k).2 = (u k).2 by simp; grind] at q2
        exact q2
  obtain ⟨s, hs1, hs2⟩ := hs
  obtain ⟨-, -, -, -, -, hP1⟩ := id hs2
  obtain ⟨p, q, n1, n2, hk1, hk2⟩ := id (ha k (Nat.le_refl _))
  have hP2 := hD.mul hk2
  rw [show -x * (u k).1 - 0 * (u k).2 = -(x * (u k).1) by grind, show -x * (u k).2 + 0 * (u k).1 = -(x * (u k).2) by grind] at hP2
  have hP := hP1.add hP2
  rw [show (prevC u k).1 + -(x * (u k).1) = (prevC u k).1 - x * (u k).1 by grind, show (prevC u k).2 + -(x * (u k).2) = (prevC u k).2 - x * (u k).2 by grind] at hP
  rcases Nat.lt_or_ge k a.length with hlt | hge
  · obtain ⟨r1, f1, q1⟩ := mulLQ2 (c := -x) (d := 0) (D := D) (y := t) hLr (ha k (Nat.le_refl _)) hx1 hx2 hD (shB_is b1)
    rw [show -x * (u k).1 - 0 * (u k).2 = -(x * (u k).1) by grind, show -x * (u k).2 + 0 * (u k).1 = -(x * (u k).2) by grind] at q1
    obtain ⟨r2, f2, q2⟩ := plusLQ (P := prevR M k + D * M k) hLr hs2 q1 (by
      rw [show (prevC u k).1 + -(x * (u k).1) = (prevC u k).1 - x * (u k).1 by grind, show (prevC u k).2 + -(x * (u k).2) = (prevC u k).2 - x * (u k).2 by grind]
      exact hP.le (by grind)) (shB_is b2)
    refine ⟨r2, fun _ => ?_, fun h => absurd h (by omega), ?_⟩
    · rw [prodT_past a _ _ k a.length (by omega), prodT_hi, hs1, Option.bind_some, f1, Option.bind_some, f2]
    · rw [show (prevC u k).1 + -(x * (u k).1) = (prevC u k).1 - x * (u k).1 by grind, show (prevC u k).2 + -(x * (u k).2) = (prevC u k).2 - x * (u k).2 by grind] at q2
      exact q2
  · have e0 : a.getD k (0, 0) = (0, 0) := by simp [List.getD, List.getElem?_eq_none hge]
    rw [e0] at n1 n2
    obtain rfl : p = 0 := (nv_val n1).trans (nv_val nv_zero).symm
    obtain rfl : q = 0 := (nv_val n2).trans (nv_val nv_zero).symm
    have h3 := hD.mul hk1
    rw [show -x * (0 - (u k).1) - 0 * (0 - (u k).2) = x * (u k).1 by grind, show -x * (0 - (u k).2) + 0 * (0 - (u k).1) = x * (u k).2 by grind] at h3
    have k0 := Rat.mul_nonneg hD0 b3
    have k1 := Rat.mul_nonneg hD0 b4
    have k2 : 0 ≤ sE (prevR M k) 0 (mE 1 (prevR M k) (prevR e k)) := by unfold sE mE; grind
    have k3 : sE (prevR M k) 0 (mE 1 (prevR M k) (prevR e k)) + D * e k ≤ pE D M e k := by
      unfold pE
      generalize sE (prevR M k) 0 (mE 1 (prevR M k) (prevR e k)) = S at *
      unfold sE mE
      grind
    have k4 : prevR e k ≤ sE (prevR M k) 0 (mE 1 (prevR M k) (prevR e k)) := by unfold sE mE; grind
    rcases Nat.eq_or_lt_of_le hge with he | hgt
    · obtain ⟨p', q', m1, m2, he', -⟩ := hs2
      have h4 := he'.add h3
      rw [show p' - (prevC u k).1 + x * (u k).1 = p' - ((prevC u k).1 - x * (u k).1) by grind, show q' - (prevC u k).2 + x * (u k).2 = q' - ((prevC u k).2 - x * (u k).2) by grind] at h4
      refine ⟨s, fun _ => by rw [he]; exact hs1, fun h => absurd h (by omega), p', q', m1, m2, h4.le ?_, hP.le (by grind)⟩
      have := Rat.mul_le_mul_of_nonneg_right k3 hL0
      grind
    · obtain ⟨i, rfl⟩ : ∃ i, k = i + 1 := ⟨k - 1, by omega⟩
      obtain ⟨p', q', m1, m2, he', -⟩ := ha i (by omega)
      have e1 : a.getD i (0, 0) = (0, 0) := by simp [List.getD, List.getElem?_eq_none (show a.length ≤ i by omega)]
      rw [e1] at m1 m2
      obtain rfl : p' = 0 := (nv_val m1).trans (nv_val nv_zero).symm
      obtain rfl : q' = 0 := (nv_val m2).trans (nv_val nv_zero).symm
      have h4 := he'.add h3
      rw [show 0 - (u i).1 + x * (u (i + 1)).1 = 0 - ((u i).1 - x * (u (i + 1)).1) by grind, show 0 - (u i).2 + x * (u (i + 1)).2 = 0 - ((u i).2 - x * (u (i + 1)).2) by grind] at h4
      refine ⟨(0, 0), fun h => absurd h (by omega), fun _ => rfl, 0, 0, nv_zero, nv_zero, h4.le ?_, hP.le (by grind)⟩
      have k5 : e i + D * e (i + 1) ≤ pE D M e (i + 1) := by
        simp only [prevR] at k3 k4
        grind
      have := Rat.mul_le_mul_of_nonneg_right k5 hL0
      grind
/-- A trimmed list lies as near. -/
theorem trL_near {v : Rat × Rat} {P f : Rat} {l : List (Nat × Nat)} {k : Nat} (h : LQ L v P f (l.getD k (0, 0))) : LQ L v P f ((trL l).getD k (0, 0)) := by
  unfold trL
  rcases Nat.lt_or_ge k (trimN l l.length) with h1 | h1
  · rw [show (l.take (trimN l l.length)).getD k (0, 0) = l.getD k (0, 0) by simp [List.getD, h1]]
    exact h
  · rw [show (l.take (trimN l l.length)).getD k (0, 0) = (0, 0) by rw [List.getD, List.getElem?_eq_none (by rw [List.length_take]; omega)]; rfl]
    obtain ⟨p, q, n1, n2, e1, e2⟩ := h
    have hz : p = 0 ∧ q = 0 := by
      rcases Nat.lt_or_ge k l.length with h2 | h2
      · exact zeroC_val n1 n2 (trimN_zero l l.length k h1 h2)
      · have e0 : l.getD k (0, 0) = (0, 0) := by simp [List.getD, List.getElem?_eq_none h2]
        rw [e0] at n1 n2
        exact ⟨(nv_val n1).trans (nv_val nv_zero).symm, (nv_val n2).trans (nv_val nv_zero).symm⟩
    obtain ⟨rfl, rfl⟩ := hz
    exact ⟨0, 0, nv_zero, nv_zero, e1, e2⟩
theorem LQ.fin {v : Rat × Rat} {P f : Rat} {z : Nat × Nat} (h : LQ L v P f z) : fin32B z.1 = true ∧ fin32B z.2 = true := by
  obtain ⟨p, q, n1, n2, -⟩ := h
  exact ⟨nv_fin n1, nv_fin n2⟩
end
end Go.Proofs.Ytlpibibpckkjhaa
namespace Go.Proofs.Ytlpibibpckkjhaa
open Go.RowKit
theorem turn_tab : (List.range 19).all (fun h => polyB [turnW (hw h, 0), (1065353216, 0)] && fin32B (turnW (hw h, 0)).1 && decide (V32 (turnW (hw h, 0)).1 = -(hwV h)) && fin32B (turnW (hw h, 0)).2 && decide (V32 (turnW (hw h, 0)).2 = 0)) = true := by decide +kernel
theorem turn_ok (h : Nat) (hh : h < 19) : polyB [turnW (hw h, 0), (1065353216, 0)] = true ∧ NV .f32 (turnW (hw h, 0)).1 (-(hwV h)) ∧ NV .f32 (turnW (hw h, 0)).2 0 := by
  have k := List.all_eq_true.1 turn_tab h (List.mem_range.2 hh)
  simp only [Bool.and_eq_true, decide_eq_true_eq] at k
  obtain ⟨⟨⟨⟨k1, k2⟩, k3⟩, k4⟩, k5⟩ := k
  exact ⟨k1, by rw [← k3]; exact nv_of_fin k2, by rw [← k5]; exact nv_of_fin k4⟩
theorem listOf (f : Nat → Option (Nat × Nat)) (n : Nat) (h : ∀ k, k < n → ∃ r, f k = some r) : ∃ l : List (Nat × Nat), l.length = n ∧ ∀ k, k < n → f k = some (l.getD k (0, 0)) := by
  refine ⟨(List.range n).map fun k => (f k).getD (0, 0), by simp, fun k hk => ?_⟩
  obtain ⟨r, e⟩ := h k hk
  simp [List.getD, hk, e]
theorem fin_all {l : List (Nat × Nat)} {n : Nat} (h : ∀ k, k < n → fin32B (l.getD k (0, 0)).1 = true ∧ fin32B (l.getD k (0, 0)).2 = true) (hl : l.length ≤ n) (h1 : 1 ≤ l.length) (h17 : l.length ≤ 17) : polyB (trL l) = true := trim_valid h1 h17 fun k hk => h k (by omega)
theorem one_ok {z : Nat × Nat} (h : fin32B z.1 = true ∧ fin32B z.2 = true) : polyB [z] = true := by
  unfold polyB finCB
  simp [h.1, h.2]
theorem trL_le (l : List (Nat × Nat)) : (trL l).length ≤ l.length := by rw [trL_len]; exact trimN_le _ _
theorem trL_pos {l : List (Nat × Nat)} (h : 1 ≤ l.length) : 1 ≤ (trL l).length := by rw [trL_len]; exact trimN_pos _ _ h
section
variable {X : Nat → Rat} {n : Nat} {ar ai La : Nat → Rat} {L : Rat}
theorem npoly_near {hs : List Nat} {d : List (Nat × Nat)} (hn : hs.length = n) (hn1 : 1 ≤ n) (hn8 : n ≤ 8) (hh : ∀ j, j < n → hs.getD j 0 < 19) (hLr : Lr L) (hL : L = sumF La n) (hA : ∀ m, m < n → E2 (ar m) (ai m) (La m))
    (hd : ∀ i, i < n → LQ L (exD (xv hs) ar ai n i i) (mgD (xv hs) n i i) (eD (xv hs) n i i) (d.getD i (0, 0))) :
    ∀ j, j + 1 ≤ n → (∀ i, i < j → ∀ k, k < n → cofB (xv hs) n i k = true) → ∃ l, NPoly (ptsL hs) d n j l ∧ l.length ≤ j + 1 ∧ ∀ k, k < n → LQ L (exC (xv hs) ar ai n j k) (cm (xv hs) n j k) (eC (xv hs) n j k) (l.getD k (0, 0))
  | 0, _, _ => by
    have hL0 : 0 ≤ L := by have := hLr.1; grind
    have h := hd (n - 1) (by omega)
    refine ⟨[d.getD (n - 1) (0, 0)], ⟨rfl, one_ok h.fin⟩, by simp, fun k hk => ?_⟩
    have hb := exC_bd (X := xv hs) hL hL0 hA 0 k
    cases k with
    | zero =>
      have e : exC (xv hs) ar ai n 0 0 = exD (xv hs) ar ai n (n - 1) (n - 1) := rfl
      rw [e] at hb ⊢
      rw [eC, if_pos rfl]
      exact h.le hL0 hb Rat.le_refl
    | succ k =>
      have e : exC (xv hs) ar ai n 0 (k + 1) = (0, 0) := by
        have h := lin_scl (ar := ar) (ai := ai) (t := fun _ => ((0 : Rat), (0 : Rat))) 0 n
        simp only [Rat.zero_mul] at h
        unfold exC
        simpa [nv, List.getD] using h
      rw [e] at hb ⊢
      rw [eC, if_neg (Nat.succ_ne_zero _)]
      exact LQ.zero.le hL0 hb Rat.le_refl
  | j + 1, hj, hB => by
    have hL0 : 0 ≤ L := by have := hLr.1; grind
    obtain ⟨l, hl1, hl2, hl3⟩ := npoly_near hn hn1 hn8 hh hLr hL hA hd j (by omega) fun i hi => hB i (by omega)
    have hlp := hl1.ok
    have hl0 := (polyB_len hlp).1
    obtain ⟨t1, t2, t3⟩ := turn_ok (hs.getD (n - 2 - j) 0) (hh _ (by omega))
    have hpt : (ptsL hs).getD (n - 2 - j) (0, 0) = (hw (hs.getD (n - 2 - j) 0), 0) := ptsL_at (by omega)
    have hdi := hd (n - 2 - j) (by omega)
    have hx : hwV (hs.getD (n - 2 - j) 0) = xv hs (n - 2 - j) := rfl
    rw [hx] at t2
    have hD : E2 (-(xv hs (n - 2 - j))) 0 (xD (xv hs) (n - 2 - j)) := by
      have h := (E2.real (ab_lm (xv hs (n - 2 - j)))).neg
      rw [show -(0 : Rat) = 0 by grind] at h
      exact h.le (by unfold xD; grind)
    have hpr : ∀ k, k < n → ∃ r, (k ≤ l.length → prodT l [turnW ((ptsL hs).getD (n - 2 - j) (0, 0)), (1065353216, 0)] k l.length = some r) ∧ (l.length < k → r = (0, 0)) ∧ LQ L ((prevC (exC (xv hs) ar ai n j) k).1 - xv hs (n - 2 - j) * (exC (xv hs) ar ai n j k).1, (prevC (exC (xv hs) ar ai n j) k).2 - xv hs (n - 2 - j) * (exC (xv hs) ar ai n j k).2) (prevR (cm (xv hs) n j) k + xD (xv hs) (n - 2 - j) * cm (xv hs) n j k) (pE (xD (xv hs) (n - 2 - j)) (cm (xv hs) n j) (eC (xv hs) n j) k) r := fun k hk => by
      have hb := hB j (by omega) k hk
      unfold cofB at hb
      rw [Bool.and_eq_true] at hb
      rw [hpt]
      exact prod_term hLr k (fun i hi => hl3 i (by omega)) t2 t3 hD hb.1
    obtain ⟨m, hm1, hm2⟩ := listOf (fun k => prodT l [turnW ((ptsL hs).getD (n - 2 - j) (0, 0)), (1065353216, 0)] k l.length) (l.length + 1) fun k hk => by
      obtain ⟨r, h, -⟩ := hpr k (by omega)
      exact ⟨r, h (by omega)⟩
    have hm3 : ∀ k, k < n → LQ L ((prevC (exC (xv hs) ar ai n j) k).1 - xv hs (n - 2 - j) * (exC (xv hs) ar ai n j k).1, (prevC (exC (xv hs) ar ai n j) k).2 - xv hs (n - 2 - j) * (exC (xv hs) ar ai n j k).2) (prevR (cm (xv hs) n j) k + xD (xv hs) (n - 2 - j) * cm (xv hs) n j k) (pE (xD (xv hs) (n - 2 - j)) (cm (xv hs) n j) (eC (xv hs) n j) k) (m.getD k (0, 0)) := fun k hk => by
      obtain ⟨r, h1, h2, h3⟩ := hpr k hk
      rcases Nat.lt_or_ge k (l.length + 1) with h4 | h4
      · have h5 := hm2 k h4
        rw [h1 (by omega)] at h5
        rw [← Option.some.inj h5]
        exact h3
      · rw [show m.getD k (0, 0) = r by rw [h2 (by omega), List.getD, List.getElem?_eq_none (by omega)]; rfl]
        exact h3
    have hmR : ProdR l [turnW ((ptsL hs).getD (n - 2 - j) (0, 0)), (1065353216, 0)] m := ⟨by simp [hm1], fun k hk => hm2 k (by omega)⟩
    have hmP : polyB (trL m) = true := fin_all (n := n) (fun k hk => (hm3 k hk).fin) (by omega) (by omega) (by omega)
    have hm4 := fun k hk => trL_near (hm3 k hk)
    have hmL := trL_le m
    have hmL0 := trL_pos (l := m) (by omega)
    have hsm : ∀ k, k < n → ∃ r, (k < (trL m).length → plusW ((trL m).getD k (0, 0)) ([d.getD (n - 2 - j) (0, 0)].getD k (0, 0)) = some r) ∧ ((trL m).length ≤ k → r = (0, 0)) ∧ LQ L (exC (xv hs) ar ai n (j + 1) k) (cm (xv hs) n (j + 1) k) (eC (xv hs) n (j + 1) k) r := fun k hk => by
      have hb := hB j (by omega) k hk
      unfold cofB at hb
      rw [Bool.and_eq_true] at hb
      have hS := shB_is hb.2
      have hbd := exC_bd (X := xv hs) hL hL0 hA (j + 1) k
      have hst := exC_step (X := xv hs) (n := n) (ar := ar) (ai := ai) j k
      have h4 := hm4 k hk
      cases k with
      | zero =>
        simp only [if_true] at hst hS
        simp only [prevC] at h4
        rw [hst] at hbd
        obtain ⟨r, g, q⟩ := plusLQ hLr h4 hdi hbd hS
        refine ⟨r, fun _ => g, fun h => absurd h (by omega), ?_⟩
        rw [hst, eC, if_pos rfl]
        exact q
      | succ k =>
        simp only [Nat.succ_ne_zero, if_false] at hst hS
        simp only [prevC] at h4
        rw [hst] at hbd
        rcases Nat.lt_or_ge (k + 1) (trL m).length with h5 | h5
        · obtain ⟨r, g, q⟩ := plusLQ hLr h4 LQ.zero hbd hS
          refine ⟨r, fun _ => g, fun h => absurd h (by omega), ?_⟩
          rw [hst, eC, if_neg (Nat.succ_ne_zero _)]
          exact q
        · refine ⟨(0, 0), fun h => absurd h (by omega), fun _ => rfl, ?_⟩
          rw [show (trL m).getD (k + 1) (0, 0) = (0, 0) by rw [List.getD, List.getElem?_eq_none h5]; rfl] at h4
          rw [hst, eC, if_neg (Nat.succ_ne_zero _)]
          rw [Rat.add_zero, Rat.add_zero] at hbd ⊢
          refine h4.le hL0 hbd ?_
          unfold sE
          have := hS.1
          grind
    obtain ⟨s, hs1, hs2⟩ := listOf (fun k => plusW ((trL m).getD k (0, 0)) ([d.getD (n - 2 - j) (0, 0)].getD k (0, 0))) (trL m).length fun k hk => by
      obtain ⟨r, h, -⟩ := hsm k (by omega)
      exact ⟨r, h hk⟩
    have hs3 : ∀ k, k < n → LQ L (exC (xv hs) ar ai n (j + 1) k) (cm (xv hs) n (j + 1) k) (eC (xv hs) n (j + 1) k) (s.getD k (0, 0)) := fun k hk => by
      obtain ⟨r, h1, h2, h3⟩ := hsm k hk
      rcases Nat.lt_or_ge k (trL m).length with h4 | h4
      · have h5 := hs2 k h4
        rw [h1 h4] at h5
        rw [← Option.some.inj h5]
        exact h3
      · rw [show s.getD k (0, 0) = r by rw [h2 h4, List.getD, List.getElem?_eq_none (by omega)]; rfl]
        exact h3
    have hsR : SumR (trL m) [d.getD (n - 2 - j) (0, 0)] s := ⟨by simp [hs1]; omega, fun k hk => hs2 k (by omega)⟩
    have hsP : polyB (trL s) = true := fin_all (n := n) (fun k hk => (hs3 k hk).fin) (by omega) (by omega) (by omega)
    have hsL := trL_le s
    exact ⟨trL s, ⟨l, m, s, hl1, hlp, by rw [hpt]; exact t1, hmR, hmP, one_ok hdi.fin, hsR, hsP, rfl⟩, by omega, fun k hk => trL_near (hs3 k hk)⟩
end
end Go.Proofs.Ytlpibibpckkjhaa
namespace Go.Proofs.Ytlpibibpckkjhaa
open Go.RowKit
/-- The length of a quotient. -/
theorem quoLen {a b p q v m ρ : Rat} (h1 : a * p - b * q = v) (h2 : a * q + b * p = 0) (hv : Lm v (m * ρ)) (hρ : 0 < ρ) (hD : ρ * ρ ≤ p * p + q * q) (hm : 0 ≤ m) : E2 a b m := by
  refine ⟨hm, ?_⟩
  rcases (show a * a + b * b ≤ m * m ∨ 0 < a * a + b * b - m * m by grind) with h | h
  · exact h
  · exfalso
    have k1 := Rat.mul_pos h (Rat.mul_pos hρ hρ)
    have k2 : (a * a + b * b) * (p * p + q * q) = v * v := by
      rw [← h1]
      have : (a * q + b * p) * (a * q + b * p) = 0 := by rw [h2]; grind
      grind
    have k3 := Rat.mul_nonneg (show (0 : Rat) ≤ a * a + b * b by have := sq_pos a; have := sq_pos b; grind) (show (0 : Rat) ≤ p * p + q * q - ρ * ρ by grind)
    unfold Lm at hv
    have k4 := Rat.mul_nonneg (show (0 : Rat) ≤ m * ρ - v by grind) (show (0 : Rat) ≤ m * ρ + v by grind)
    grind
/-- Q is the quotient of a real number and a complex one. -/
def QOf (Q : Rat × Rat) (W p q : Rat) : Prop := Q.1 * p - Q.2 * q = W ∧ Q.1 * q + Q.2 * p = 0
theorem qOf_ex {W p q : Rat} (h : 0 < p * p + q * q) : ∃ Q, QOf Q W p q := by
  obtain ⟨i, hi⟩ : ∃ i, i * (p * p + q * q) = 1 := ⟨1 / (p * p + q * q), Rat.div_mul_cancel (by grind)⟩
  refine ⟨(W * p * i, -(W * q * i)), ?_, ?_⟩
  · simp only
    rw [show W * p * i * p - -(W * q * i) * q = W * (i * (p * p + q * q)) by grind, hi, Rat.mul_one]
  · simp only
    grind
theorem quo_near {W V p q ρ M wb : Rat} {w d : Nat × Nat} {Q : Rat × Rat} (n1 : NV .f32 w.1 V) (n2 : NV .f32 w.2 0) (hV : Lm (V - W) (wb / 11000000)) (hW : Lm W wb) (n3 : NV .f32 d.1 p) (n4 : NV .f32 d.2 q) (hD : ρ * ρ ≤ p * p + q * q) (hD2 : p * p + q * q ≤ 100) (hρ : 1 / 16 ≤ ρ ∧ ρ ≤ 10) (hwb : 1 / 100 ≤ wb ∧ wb ≤ 1000) (hM : M * ρ = wb) (hQ : QOf Q W p q) :
    ∃ r a b, quoW w d = some r ∧ NV .f32 r.1 a ∧ NV .f32 r.2 b ∧ E2 (a - Q.1) (b - Q.2) (21 / 10 * M / 11000000) ∧ E2 Q.1 Q.2 M := by
  have hM0 : 0 ≤ M := by
    rcases (show 0 ≤ M ∨ 0 < -M by grind) with k | k
    · exact k
    · have := Rat.mul_pos k (show (0 : Rat) < ρ by grind)
      grind
  have hM1 : 1 / 1000 ≤ M := by
    rcases (show 1 / 1000 ≤ M ∨ 0 < 1 / 1000 - M by grind) with k | k
    · exact k
    · have := Rat.mul_pos k (show (0 : Rat) < ρ by grind)
      grind
  have hM2 : M ≤ 16000 := by
    have := Rat.mul_nonneg hM0 (show (0 : Rat) ≤ ρ - 1 / 16 by grind)
    grind
  have hρ2 := Rat.mul_nonneg (show (0 : Rat) ≤ ρ - 1 / 16 by grind) (show (0 : Rat) ≤ ρ + 1 / 16 by grind)
  have hDp : 0 < p * p + q * q := by grind
  have hQL : E2 Q.1 Q.2 M := quoLen hQ.1 hQ.2 (by rw [hM]; exact hW) (by grind) hD hM0
  obtain ⟨R, hR⟩ := qOf_ex (W := V) hDp
  have hdL : E2 (R.1 - Q.1) (R.2 - Q.2) (M / 11000000) := quoLen (v := V - W) (by have := hQ.1; have := hR.1; grind) (by have := hQ.2; have := hR.2; grind) (by rw [show M / 11000000 * ρ = wb / 11000000 by grind]; exact hV) (by grind) hD (by grind)
  have hRL := hQL.of hdL
  have m1 := Rat.mul_nonneg (show (0 : Rat) ≤ M + M / 11000000 by grind) (show (0 : Rat) ≤ p * p + q * q - 1 / 256 by grind)
  have m2 := Rat.mul_nonneg (show (0 : Rat) ≤ M + M / 11000000 by grind) (show (0 : Rat) ≤ 100 - (p * p + q * q) by grind)
  obtain ⟨r, a, b, g, k1, k2, er⟩ := quoE n1 n2 n3 n4 (q := R.1) (r := R.2) hR.1.symm hR.2.symm hRL ⟨by grind, by grind⟩ ⟨by grind, by grind⟩ ⟨by grind, by grind⟩
  exact ⟨r, a, b, g, k1, k2, (er.trans hdL).le (by grind), hQL⟩
/-- What a summand knows. -/
structure LagK (pts vals ws : List (Nat × Nat)) (z : Nat × Nat) (Q v : Nat → Rat × Rat) (M μ : Nat → Rat) (k : Nat) : Prop where
  q : ∃ d r a b, minusW z (pts.getD k (0, 0)) = some d ∧ quoW (ws.getD k (0, 0)) d = some r ∧ NV .f32 r.1 a ∧ NV .f32 r.2 b ∧ E2 (a - (Q k).1) (b - (Q k).2) (21 / 10 * M k / 11000000) ∧ E2 (Q k).1 (Q k).2 (M k)
  v1 : NV .f32 (vals.getD k (0, 0)).1 (v k).1
  v2 : NV .f32 (vals.getD k (0, 0)).2 (v k).2
  vm : E2 (v k).1 (v k).2 (μ k)
  m : 1 / 1000 ≤ M k ∧ M k ≤ 16000
  μm : 1 / 1000 ≤ μ k ∧ μ k ≤ 1000000000000
theorem sumF_top {f : Nat → Rat} {c : Rat} : ∀ k, (∀ i, i < k → f i ≤ c) → sumF f k ≤ k * c
  | 0, _ => by rw [sumF]; grind
  | k + 1, h => by
    have := sumF_top k fun i hi => h i (by omega)
    have := h k (by omega)
    rw [sumF]; push_cast; grind
/-- A step of a sum. -/
theorem sum_near {s m : Nat × Nat} {A Qv : Rat × Rat} {S W : Rat} {k : Nat} {a b c d : Rat} (hk : k < 8) (n1 : NV .f32 s.1 a) (n2 : NV .f32 s.2 b) (n3 : NV .f32 m.1 c) (n4 : NV .f32 m.2 d) (e1 : E2 (a - A.1) (b - A.2) ((33 / 10 + 11 / 10 * k) * S / 11000000)) (h1 : E2 A.1 A.2 S) (e2 : E2 (c - Qv.1) (d - Qv.2) (32 / 10 * W / 11000000)) (h2 : E2 Qv.1 Qv.2 W) (hW : 1 / 10000000 ≤ W) (hS : S + W ≤ 200000000000000000) :
    ∃ r a' b', plusW s m = some r ∧ NV .f32 r.1 a' ∧ NV .f32 r.2 b' ∧ E2 (a' - (A.1 + Qv.1)) (b' - (A.2 + Qv.2)) ((33 / 10 + 11 / 10 * (k + 1 : Nat)) * (S + W) / 11000000) ∧ E2 (A.1 + Qv.1) (A.2 + Qv.2) (S + W) := by
  have hS0 := h1.pos
  have hd := e1.add e2
  rw [show a - A.1 + (c - Qv.1) = (a + c) - (A.1 + Qv.1) by grind, show b - A.2 + (d - Qv.2) = (b + d) - (A.2 + Qv.2) by grind] at hd
  have hs := h1.add h2
  have hE := hs.of hd
  have hkr : (0 : Rat) ≤ (k : Rat) ∧ (k : Rat) ≤ 8 := ⟨by exact_mod_cast Nat.zero_le k, by exact_mod_cast (by omega : k ≤ 8)⟩
  have hc : ((k + 1 : Nat) : Rat) = (k : Rat) + 1 := by push_cast; rfl
  rw [hc]
  generalize (k : Rat) = κ at *
  have k1 := Rat.mul_nonneg (show (0 : Rat) ≤ 8 - κ by grind) hS0
  have k2 := Rat.mul_nonneg hkr.1 hS0
  have k3 := Rat.mul_nonneg hkr.1 (show (0 : Rat) ≤ W by grind)
  obtain ⟨r, a', b', g, m1, m2, er⟩ := plusE n1 n2 n3 n4 (M := 11 / 10 * (S + W)) (hE.le (by grind)) ⟨by grind, by grind⟩
  exact ⟨r, a', b', g, m1, m2, (er.trans hd).le (by grind), hs⟩
def one1 : Nat → Rat × Rat := fun _ => (1, 0)
theorem lag_near {pts vals ws : List (Nat × Nat)} {z : Nat × Nat} {Q v : Nat → Rat × Rat} {M μ : Nat → Rat} {n : Nat} (hn : n ≤ 8) (h : ∀ k, k < n → LagK pts vals ws z Q v M μ k) : ∀ k, k ≤ n → ∃ t a b c d, lagT pts vals ws z k = some t ∧
    NV .f32 t.1.1 a ∧ NV .f32 t.1.2 b ∧ E2 (a - (lin (fun i => (Q i).1) (fun i => (Q i).2) v k).1) (b - (lin (fun i => (Q i).1) (fun i => (Q i).2) v k).2) ((33 / 10 + 11 / 10 * k) * sumF (fun i => M i * μ i) k / 11000000) ∧ E2 (lin (fun i => (Q i).1) (fun i => (Q i).2) v k).1 (lin (fun i => (Q i).1) (fun i => (Q i).2) v k).2 (sumF (fun i => M i * μ i) k) ∧
    NV .f32 t.2.1 c ∧ NV .f32 t.2.2 d ∧ E2 (c - (lin (fun i => (Q i).1) (fun i => (Q i).2) one1 k).1) (d - (lin (fun i => (Q i).1) (fun i => (Q i).2) one1 k).2) ((33 / 10 + 11 / 10 * k) * sumF M k / 11000000) ∧ E2 (lin (fun i => (Q i).1) (fun i => (Q i).2) one1 k).1 (lin (fun i => (Q i).1) (fun i => (Q i).2) one1 k).2 (sumF M k)
  | 0, _ => ⟨((0, 0), (0, 0)), 0, 0, 0, 0, rfl, nv_zero, nv_zero, by
      simp only [lin, sumF]
      rw [show (0 : Rat) - 0 = 0 by grind]
      exact E2.zero (by grind), E2.zero Rat.le_refl, nv_zero, nv_zero, by
      simp only [lin, sumF]
      rw [show (0 : Rat) - 0 = 0 by grind]
      exact E2.zero (by grind), E2.zero Rat.le_refl⟩
  | k + 1, hk => by
    obtain ⟨t, a, b, c, d, g0, n1, n2, e1, s1, n3, n4, e2, s2⟩ := lag_near hn h k (by omega)
    obtain ⟨⟨dd, q, x, y, g1, g2, n5, n6, e3, s3⟩, v1, v2, vm, ⟨m1, m2⟩, ⟨m3, m4⟩⟩ := h k (by omega)
    have kW1 := Rat.mul_nonneg (show (0 : Rat) ≤ M k - 1 / 1000 by grind) (show (0 : Rat) ≤ μ k - 1 / 1000 by grind)
    have kW2 := Rat.mul_nonneg (show (0 : Rat) ≤ 16000 - M k by grind) (show (0 : Rat) ≤ μ k by grind)
    have hqs := s3.of e3
    obtain ⟨m, π, κ, g3, n7, n8, e4⟩ := mulE n5 n6 v1 v2 (hqs.le (show M k + 21 / 10 * M k / 11000000 ≤ 1001 / 1000 * M k by grind)) vm ⟨by grind, by grind⟩
    have hd := e3.mul vm
    rw [show (x - (Q k).1) * (v k).1 - (y - (Q k).2) * (v k).2 = (x * (v k).1 - y * (v k).2) - ((Q k).1 * (v k).1 - (Q k).2 * (v k).2) by grind, show (x - (Q k).1) * (v k).2 + (y - (Q k).2) * (v k).1 = (x * (v k).2 + y * (v k).1) - ((Q k).1 * (v k).2 + (Q k).2 * (v k).1) by grind] at hd
    have em := (e4.trans hd).le (show 1001 / 1000 * M k * μ k / 11000000 + 21 / 10 * M k / 11000000 * μ k ≤ 32 / 10 * (M k * μ k) / 11000000 by grind)
    have sm := s3.mul vm
    have hA0 : sumF (fun i => M i * μ i) k ≤ k * 16000000000000000 := sumF_top k fun i hi => by
      obtain ⟨-, -, -, -, ⟨p1, p2⟩, ⟨p3, p4⟩⟩ := h i (by omega)
      have := Rat.mul_nonneg (show (0 : Rat) ≤ 16000 - M i by grind) (show (0 : Rat) ≤ μ i by grind)
      grind
    have hB0 : sumF M k ≤ k * 16000 := sumF_top k fun i hi => (h i (by omega)).m.2
    have hkr : (k : Rat) ≤ 8 := by exact_mod_cast (by omega : k ≤ 8)
    obtain ⟨r1, a', b', f1, j1, j2, E1, S1⟩ := sum_near (k := k) (Qv := ((Q k).1 * (v k).1 - (Q k).2 * (v k).2, (Q k).1 * (v k).2 + (Q k).2 * (v k).1)) (by omega) n1 n2 n7 n8 e1 s1 em sm (by grind) (by grind)
    obtain ⟨r2, c', d', f2, j3, j4, E3, S3⟩ := sum_near (k := k) (Qv := ((Q k).1, (Q k).2)) (by omega) n3 n4 n5 n6 e2 s2 (e3.le (by grind)) s3 (by grind) (by grind)
    refine ⟨(r1, r2), a', b', c', d', ?_, j1, j2, ?_, ?_, j3, j4, ?_, ?_⟩
    · rw [lagT, g0, Option.bind_some]
      simp only [g1, g2, g3, f1, f2, Option.bind_some]
    · exact E1
    · exact S1
    · simp only [lin, sumF, one1]
      rw [show (Q k).1 * (1 : Rat) - (Q k).2 * 0 = (Q k).1 by grind, show (Q k).1 * (0 : Rat) + (Q k).2 * 1 = (Q k).2 by grind]
      exact E3
    · simp only [lin, sumF, one1]
      rw [show (Q k).1 * (1 : Rat) - (Q k).2 * 0 = (Q k).1 by grind, show (Q k).1 * (0 : Rat) + (Q k).2 * 1 = (Q k).2 by grind]
      exact S3
theorem one_add {ε δ β : Rat} (h : E2 ε δ β) (hβ : β ≤ 1 / 100) : (1 - β) * (1 - β) ≤ (1 + ε) * (1 + ε) + δ * δ := by
  have h1 := h.fst
  have h0 := h.pos
  unfold Lm at h1
  have k1 := Rat.mul_nonneg (show (0 : Rat) ≤ (1 + ε) - (1 - β) by grind) (show (0 : Rat) ≤ (1 + ε) + (1 - β) by grind)
  have := sq_pos δ
  grind
theorem div_one {ε δ β a b u v R T : Rat} (h : E2 ε δ β) (hβ : β ≤ 1 / 100) (h1 : a * (1 + ε) - b * δ = u) (h2 : a * δ + b * (1 + ε) = v) (hR : E2 u v R) (hT0 : 0 ≤ T) (hT : R ≤ T * (1 - β)) : E2 a b T := by
  refine ⟨hT0, ?_⟩
  have k1 := one_add h hβ
  have h0 := h.pos
  rcases (show a * a + b * b ≤ T * T ∨ 0 < a * a + b * b - T * T by grind) with k | k
  · exact k
  · exfalso
    have k2 := Rat.mul_pos k (Rat.mul_pos (show (0 : Rat) < 1 - β by grind) (show (0 : Rat) < 1 - β by grind))
    have k3 : (a * a + b * b) * ((1 + ε) * (1 + ε) + δ * δ) = u * u + v * v := by
      rw [← h1, ← h2]
      grind
    have k4 := Rat.mul_nonneg (show (0 : Rat) ≤ a * a + b * b by have := sq_pos a; have := sq_pos b; grind) (show (0 : Rat) ≤ (1 + ε) * (1 + ε) + δ * δ - (1 - β) * (1 - β) by grind)
    have k5 := Rat.mul_nonneg (show (0 : Rat) ≤ T * (1 - β) - R by grind) (show (0 : Rat) ≤ T * (1 - β) + R by have := hR.pos; grind)
    have k6 := hR.2
    grind
/-- The quotient of the two sums. -/
theorem lag_quo {s t : Nat × Nat} {a b c d L mz α β T Nb SB eA eB : Rat} {A B N p : Rat × Rat} (n1 : NV .f32 s.1 a) (n2 : NV .f32 s.2 b) (n3 : NV .f32 t.1 c) (n4 : NV .f32 t.2 d) (e1 : E2 (a - A.1) (b - A.2) eA) (e2 : E2 (c - B.1) (d - B.2) eB) (hB : E2 B.1 B.2 SB) (hSB : SB ≤ 1000) (heB : eB ≤ 1)
    (hN : E2 N.1 N.2 Nb) (hNb : 1 / 1000 ≤ Nb ∧ Nb ≤ 100000) (hA1 : N.1 * A.1 - N.2 * A.2 = p.1) (hA2 : N.1 * A.2 + N.2 * A.1 = p.2) (hB1 : N.1 * B.1 - N.2 * B.2 = 1) (hB2 : N.1 * B.2 + N.2 * B.1 = 0) (hp : E2 p.1 p.2 (mz * L)) (hL : Lr L) (hmz : 1 ≤ mz ∧ mz ≤ 1000)
    (hα : Nb * eA ≤ α * L) (hβ : Nb * eB ≤ β) (hβ1 : β ≤ 1 / 100) (hT : α + mz * β ≤ T * (1 - β)) (hT1 : T ≤ 10) :
    ∃ r, quoW s t = some r ∧ LQ L p mz (T + (mz + T) / 11000000) r := by
  obtain ⟨l1, l2⟩ := hL
  have hε := (hN.mul e2).le hβ
  have hR1 := (hN.mul e1).le hα
  have hR := hR1.sub (hp.mul hε)
  have hβ0 := hε.pos
  have hT0 : 0 ≤ T := by
    rcases (show 0 ≤ T ∨ 0 < -T by grind) with k | k
    · exact k
    · have k1 := Rat.mul_pos k (show (0 : Rat) < 1 - β by grind)
      have k2 := hR1.pos
      have k3 : 0 ≤ α := by
        rcases (show 0 ≤ α ∨ 0 < -α by grind) with k4 | k4
        · exact k4
        · have := Rat.mul_pos k4 (show (0 : Rat) < L by grind)
          grind
      have k5 := Rat.mul_nonneg (show (0 : Rat) ≤ mz by grind) hβ0
      grind
  have h1a := one_add hε hβ1
  generalize he1 : N.1 * (c - B.1) - N.2 * (d - B.2) = ε at *
  generalize he2 : N.1 * (d - B.2) + N.2 * (c - B.1) = δ at *
  have hc1 : N.1 * c - N.2 * d = 1 + ε := by grind
  have hc2 : N.1 * d + N.2 * c = δ := by grind
  have hNB : (N.1 * N.1 + N.2 * N.2) * (c * c + d * d) = (1 + ε) * (1 + ε) + δ * δ := by
    rw [← hc1, ← hc2]; grind
  have hβ2 := Rat.mul_nonneg (show (0 : Rat) ≤ 1 / 100 - β by grind) (show (0 : Rat) ≤ 1 - β by grind)
  have hcd0 : 0 ≤ c * c + d * d := by have := sq_pos c; have := sq_pos d; grind
  have hlo : 1 / 100000000000 ≤ c * c + d * d := by
    have k1 := Rat.mul_nonneg hcd0 (show (0 : Rat) ≤ Nb * Nb - (N.1 * N.1 + N.2 * N.2) by have := hN.2; grind)
    have k2 := Rat.mul_nonneg (show (0 : Rat) ≤ 100000 - Nb by grind) (show (0 : Rat) ≤ 100000 + Nb by grind)
    have k3 := Rat.mul_nonneg hcd0 k2
    grind
  have hhi : c * c + d * d ≤ 2000000 := by
    have k1 := hB.of e2
    have k2 := (k1.le (show SB + eB ≤ 1001 by grind)).2
    grind
  obtain ⟨i, hi⟩ : ∃ i, i * (c * c + d * d) = 1 := ⟨1 / (c * c + d * d), Rat.div_mul_cancel (by grind)⟩
  obtain ⟨q1, hq1⟩ : ∃ q, q = (a * c + b * d) * i := ⟨_, rfl⟩
  obtain ⟨q2, hq2⟩ : ∃ q, q = (b * c - a * d) * i := ⟨_, rfl⟩
  have f1 : a = q1 * c - q2 * d := by
    rw [hq1, hq2, show (a * c + b * d) * i * c - (b * c - a * d) * i * d = a * (i * (c * c + d * d)) by grind, hi, Rat.mul_one]
  have f2 : b = q1 * d + q2 * c := by
    rw [hq1, hq2, show (a * c + b * d) * i * d + (b * c - a * d) * i * c = b * (i * (c * c + d * d)) by grind, hi, Rat.mul_one]
  have ht : E2 (q1 - p.1) (q2 - p.2) (T * L) := by
    refine div_one hε hβ1 (u := N.1 * (a - A.1) - N.2 * (b - A.2) - (p.1 * ε - p.2 * δ)) (v := N.1 * (b - A.2) + N.2 * (a - A.1) - (p.1 * δ + p.2 * ε)) ?_ ?_ hR (Rat.mul_nonneg hT0 (by grind)) ?_
    · rw [show N.1 * (a - A.1) - N.2 * (b - A.2) = (N.1 * a - N.2 * b) - (N.1 * A.1 - N.2 * A.2) by grind, hA1, f1, f2, show N.1 * (q1 * c - q2 * d) - N.2 * (q1 * d + q2 * c) = q1 * (N.1 * c - N.2 * d) - q2 * (N.1 * d + N.2 * c) by grind, hc1, hc2]
      grind
    · rw [show N.1 * (b - A.2) + N.2 * (a - A.1) = (N.1 * b + N.2 * a) - (N.1 * A.2 + N.2 * A.1) by grind, hA2, f1, f2, show N.1 * (q1 * d + q2 * c) + N.2 * (q1 * c - q2 * d) = q1 * (N.1 * d + N.2 * c) + q2 * (N.1 * c - N.2 * d) by grind, hc1, hc2]
      grind
    · have := Rat.mul_le_mul_of_nonneg_right hT (show (0 : Rat) ≤ L by grind)
      grind
  have hq := hp.of ht
  have hM0 := Rat.mul_nonneg (show (0 : Rat) ≤ mz + T - 1 by grind) (show (0 : Rat) ≤ L by grind)
  have hM1 := Rat.mul_nonneg (show (0 : Rat) ≤ 1010 - (mz + T) by grind) (show (0 : Rat) ≤ L by grind)
  have hX1 := Rat.mul_nonneg (show (0 : Rat) ≤ (mz + T) * L - 1 / 1000 by grind) (show (0 : Rat) ≤ c * c + d * d - 1 / 100000000000 by grind)
  have hX2 := Rat.mul_nonneg (show (0 : Rat) ≤ (mz + T) * L by grind) (show (0 : Rat) ≤ 2000000 - (c * c + d * d) by grind)
  obtain ⟨r, π, κ, g, m1, m2, er⟩ := quoE n1 n2 n3 n4 f1 f2 (hq.le (show mz * L + T * L ≤ (mz + T) * L by grind)) ⟨by grind, by grind⟩ ⟨by grind, by grind⟩ ⟨by grind, by grind⟩
  exact ⟨r, g, π, κ, m1, m2, (er.trans ht).le (by grind), hp⟩
end Go.Proofs.Ytlpibibpckkjhaa
namespace Go.Proofs.Ytlpibibpckkjhaa
open Go.RowKit
def dpr (X : Nat → Rat) (k : Nat) : Nat → Rat
  | 0 => 1
  | m + 1 => if m = k then dpr X k m else dpr X k m * (X k - X m)
def wX (X : Nat → Rat) (n k : Nat) : Rat := 1 / dpr X k n
/-- The product of all the factors, and of all but one. -/
def allL (X : Nat → Rat) : Nat → List Rat
  | 0 => [1]
  | m + 1 => mulx (X m) (allL X m)
def butL (X : Nat → Rat) (k : Nat) : Nat → List Rat
  | 0 => [1]
  | m + 1 => if m = k then butL X k m else mulx (X m) (butL X k m)
def lagL (X : Nat → Rat) (n m : Nat) : Nat → List Rat
  | 0 => []
  | k + 1 => addL (lagL X n m k) (sclL (wX X n k * pwr (X k) m) (butL X k n))
def monL (n m : Nat) : List Rat := List.replicate m 0 ++ 1 :: List.replicate (n - 1 - m) 0
def lagB (X : Nat → Rat) (n m : Nat) : Bool := decide (lagL X n m n = monL n m)
section
variable {X : Nat → Rat} {n : Nat} {ar ai : Nat → Rat} {ξ η : Rat} {Q v : Nat → Rat × Rat}
theorem all_but (k : Nat) : ∀ m, (m ≤ k → evP ξ η (allL X m) = evP ξ η (butL X k m)) ∧ (k < m → evP ξ η (allL X m) = ((ξ - X k) * (evP ξ η (butL X k m)).1 - η * (evP ξ η (butL X k m)).2, (ξ - X k) * (evP ξ η (butL X k m)).2 + η * (evP ξ η (butL X k m)).1))
  | 0 => ⟨fun _ => rfl, fun h => absurd h (Nat.not_lt_zero _)⟩
  | m + 1 => by
    obtain ⟨h1, h2⟩ := all_but k m
    refine ⟨fun h => ?_, fun h => ?_⟩
    · rw [allL, butL, if_neg (by omega), evP_mulx, evP_mulx, h1 (by omega)]
    · by_cases e : m = k
      · rw [allL, butL, if_pos e, evP_mulx, h1 (by omega), e]
      · rw [allL, butL, if_neg e, evP_mulx, evP_mulx, h2 (by omega)]
        ext <;> simp only <;> grind
/-- A summand times the product of all the factors. -/
theorem all_Q {k : Nat} (hk : k < n) (hQ : QOf (Q k) (wX X n k) (ξ - X k) η) : (evP ξ η (allL X n)).1 * (Q k).1 - (evP ξ η (allL X n)).2 * (Q k).2 = wX X n k * (evP ξ η (butL X k n)).1 ∧ (evP ξ η (allL X n)).1 * (Q k).2 + (evP ξ η (allL X n)).2 * (Q k).1 = wX X n k * (evP ξ η (butL X k n)).2 := by
  have h := (all_but (X := X) (ξ := ξ) (η := η) k n).2 hk
  obtain ⟨q1, q2⟩ := hQ
  rw [h]
  simp only
  generalize (evP ξ η (butL X k n)).1 = b1 at *
  generalize (evP ξ η (butL X k n)).2 = b2 at *
  generalize (Q k).1 = x at *
  generalize (Q k).2 = y at *
  refine ⟨?_, ?_⟩
  · rw [← q1]
    have : b2 * (x * η + y * (ξ - X k)) = 0 := by rw [q2]; grind
    grind
  · rw [← q1]
    have : b1 * (x * η + y * (ξ - X k)) = 0 := by rw [q2]; grind
    grind
theorem lag_A (hQ : ∀ k, k < n → QOf (Q k) (wX X n k) (ξ - X k) η) (hv : ∀ k, k < n → v k = lin ar ai (fun m => (pwr (X k) m, 0)) n) : ∀ k, k ≤ n →
    (evP ξ η (allL X n)).1 * (lin (fun i => (Q i).1) (fun i => (Q i).2) v k).1 - (evP ξ η (allL X n)).2 * (lin (fun i => (Q i).1) (fun i => (Q i).2) v k).2 = (lin ar ai (fun m => evP ξ η (lagL X n m k)) n).1 ∧
    (evP ξ η (allL X n)).1 * (lin (fun i => (Q i).1) (fun i => (Q i).2) v k).2 + (evP ξ η (allL X n)).2 * (lin (fun i => (Q i).1) (fun i => (Q i).2) v k).1 = (lin ar ai (fun m => evP ξ η (lagL X n m k)) n).2
  | 0, _ => by
    have h := lin_scl (ar := ar) (ai := ai) (t := fun _ => ((0 : Rat), (0 : Rat))) 0 n
    simp only [Rat.zero_mul] at h
    simp only [lagL, evP, lin, h]
    constructor <;> grind
  | k + 1, hk => by
    obtain ⟨i1, i2⟩ := lag_A hQ hv k (by omega)
    obtain ⟨h1, h2⟩ := all_Q (by omega) (hQ k (by omega))
    have hm := lin_mul (ar := ar) (ai := ai) (t := fun m => (pwr (X k) m, (0 : Rat))) (wX X n k * (evP ξ η (butL X k n)).1) (wX X n k * (evP ξ η (butL X k n)).2) n
    rw [← hv k (by omega)] at hm
    have ha := lin_add (ar := ar) (ai := ai) (t := fun m => evP ξ η (lagL X n m k)) (s := fun m => (wX X n k * (evP ξ η (butL X k n)).1 * pwr (X k) m - wX X n k * (evP ξ η (butL X k n)).2 * (0 : Rat), wX X n k * (evP ξ η (butL X k n)).1 * (0 : Rat) + wX X n k * (evP ξ η (butL X k n)).2 * pwr (X k) m)) n
    rw [hm] at ha
    have e : lin ar ai (fun m => evP ξ η (lagL X n m (k + 1))) n = lin ar ai (fun m => ((evP ξ η (lagL X n m k)).1 + (wX X n k * (evP ξ η (butL X k n)).1 * pwr (X k) m - wX X n k * (evP ξ η (butL X k n)).2 * (0 : Rat)), (evP ξ η (lagL X n m k)).2 + (wX X n k * (evP ξ η (butL X k n)).1 * (0 : Rat) + wX X n k * (evP ξ η (butL X k n)).2 * pwr (X k) m))) n := by
      refine lin_congr n fun m _ => ?_
      rw [lagL, evP_add, evP_scl]
      ext <;> simp only <;> grind
    rw [e, ha]
    simp only [lin]
    generalize (lin ar ai (fun m => evP ξ η (lagL X n m k)) n).1 = F at *
    generalize (lin ar ai (fun m => evP ξ η (lagL X n m k)) n).2 = G at *
    rw [← i1, ← i2, ← h1, ← h2]
    constructor <;> grind
theorem lag_B (hQ : ∀ k, k < n → QOf (Q k) (wX X n k) (ξ - X k) η) : ∀ k, k ≤ n →
    (evP ξ η (allL X n)).1 * (lin (fun i => (Q i).1) (fun i => (Q i).2) one1 k).1 - (evP ξ η (allL X n)).2 * (lin (fun i => (Q i).1) (fun i => (Q i).2) one1 k).2 = (evP ξ η (lagL X n 0 k)).1 ∧
    (evP ξ η (allL X n)).1 * (lin (fun i => (Q i).1) (fun i => (Q i).2) one1 k).2 + (evP ξ η (allL X n)).2 * (lin (fun i => (Q i).1) (fun i => (Q i).2) one1 k).1 = (evP ξ η (lagL X n 0 k)).2
  | 0, _ => by
    simp only [lagL, evP, lin]
    constructor <;> grind
  | k + 1, hk => by
    obtain ⟨i1, i2⟩ := lag_B hQ k (by omega)
    obtain ⟨h1, h2⟩ := all_Q (by omega) (hQ k (by omega))
    rw [lagL, evP_add, evP_scl]
    simp only [lin, one1, pwr]
    rw [← i1, ← i2]
    generalize evP ξ η (allL X n) = P at *
    constructor <;> grind
theorem evP_zeros : ∀ r, evP ξ η (List.replicate r 0) = (0, 0)
  | 0 => rfl
  | r + 1 => by
    rw [List.replicate_succ, evP, evP_zeros r]
    ext <;> simp only <;> grind
theorem evP_mon0 : evP ξ η (monL n 0) = (1, 0) := by
  unfold monL
  rw [List.replicate_zero, List.nil_append, evP, evP_zeros]
  ext <;> simp only <;> grind
end
end Go.Proofs.Ytlpibibpckkjhaa
