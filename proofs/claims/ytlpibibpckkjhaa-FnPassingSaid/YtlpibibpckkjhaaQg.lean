/-
  The exact coefficients that pass the values, and their lengths.
  What the shares ask of a list of points: one test a list.
  Values by Neville, Newton and Newton's polynomial: words near the exact value.
  Lagrange's value: words near the exact value.
  Lagrange's value elsewhere than at the points: words near the exact value.
  The polynomial that passes: its terms near the exact coefficients.
  The exact coefficients behind drawn values.
  All the lists of points.
  A long table in parts.
-/
import Derived.Test.YtlpibibpckkjhaaQf
namespace Go.Proofs.Ytlpibibpckkjhaa
open Go.RowKit
def bX (X : Nat → Rat) (n l m : Nat) : Rat := wX X n l * (butL X l n).getD m 0
def cR (X : Nat → Rat) (n : Nat) (V : Nat → Rat) (m : Nat) : Rat := sumF (fun l => bX X n l m * V l) n
def delB (X : Nat → Rat) (n : Nat) : Bool := (List.range n).all fun i => (List.range n).all fun l => decide (sumF (fun m => bX X n l m * pwr (X i) m) n = if i = l then 1 else 0)
theorem sumF_congr {f g : Nat → Rat} : ∀ n, (∀ k, k < n → f k = g k) → sumF f n = sumF g n
  | 0, _ => rfl
  | n + 1, h => by rw [sumF, sumF, sumF_congr n (fun k hk => h k (by omega)), h n (by omega)]
theorem sumF_add {f g : Nat → Rat} : ∀ n, sumF (fun k => f k + g k) n = sumF f n + sumF g n
  | 0 => by simp only [sumF]; grind
  | n + 1 => by rw [sumF, sumF, sumF, sumF_add n]; grind
theorem sumF_mul {f : Nat → Rat} (c : Rat) : ∀ n, sumF (fun k => f k * c) n = sumF f n * c
  | 0 => by simp only [sumF]; grind
  | n + 1 => by rw [sumF, sumF, sumF_mul c n]; grind
theorem sumF_swap {b : Nat → Nat → Rat} {V p : Nat → Rat} {n : Nat} : ∀ k, sumF (fun m => sumF (fun l => b l m * V l) n * p m) k = sumF (fun l => sumF (fun m => b l m * p m) k * V l) n
  | 0 => by
    rw [sumF]
    rw [sumF_congr (g := fun _ => (0 : Rat) * 0) n (fun l _ => by simp only [sumF]; grind), sumF_mul]
    grind
  | k + 1 => by
    rw [sumF, sumF_swap k, ← sumF_mul (p k) n, ← sumF_add n]
    refine sumF_congr n fun l _ => ?_
    rw [sumF]; grind
theorem sumF_del {V : Nat → Rat} {i : Nat} : ∀ n, sumF (fun l => (if i = l then (1 : Rat) else 0) * V l) n = if i < n then V i else 0
  | 0 => by simp [sumF]
  | n + 1 => by
    rw [sumF, sumF_del n]
    by_cases h : i = n
    · subst h
      rw [if_neg (by omega), if_pos rfl, if_pos (by omega)]; grind
    · rw [if_neg h]
      by_cases h2 : i < n
      · rw [if_pos h2, if_pos (by omega)]; grind
      · rw [if_neg h2, if_neg (by omega)]; grind
theorem coef_hits {X V : Nat → Rat} {n i : Nat} (h : delB X n = true) (hi : i < n) : sumF (fun m => cR X n V m * pwr (X i) m) n = V i := by
  unfold cR
  rw [sumF_swap n, sumF_congr (g := fun l => (if i = l then (1 : Rat) else 0) * V l) n, sumF_del, if_pos hi]
  intro l hl
  have k := List.all_eq_true.1 (List.all_eq_true.1 h i (List.mem_range.2 hi)) l (List.mem_range.2 hl)
  rw [decide_eq_true_eq] at k
  rw [k]
theorem lin_pw {ar ai p : Nat → Rat} : ∀ n, lin ar ai (fun m => (p m, 0)) n = (sumF (fun m => ar m * p m) n, sumF (fun m => ai m * p m) n)
  | 0 => rfl
  | n + 1 => by
    rw [lin, lin_pw n, sumF, sumF]
    ext <;> simp only <;> grind
/-- A length, near enough. -/
theorem len_go {s δ : Rat} (hδ : 0 ≤ δ) : ∀ k : Nat, s ≤ (k * δ) * (k * δ) → ∃ r, 0 ≤ r ∧ s ≤ r * r ∧ ∃ t, 0 ≤ t ∧ r ≤ t + δ ∧ (t = 0 ∨ t * t ≤ s)
  | 0, h => ⟨0, Rat.le_refl, by
      have e0 : ((0 : Nat) : Rat) = 0 := rfl
      rw [e0] at h; grind, 0, Rat.le_refl, by grind, .inl rfl⟩
  | k + 1, h => by
    have hk : (0 : Rat) ≤ (k : Rat) := by exact_mod_cast Nat.zero_le k
    have hc : ((k + 1 : Nat) : Rat) = (k : Rat) + 1 := by push_cast; rfl
    have h0 := Rat.mul_nonneg hk hδ
    rcases (show s ≤ (k * δ) * (k * δ) ∨ (k * δ) * (k * δ) ≤ s by grind) with h1 | h1
    · exact len_go hδ k h1
    · rw [hc] at h
      exact ⟨((k : Rat) + 1) * δ, by grind, h, k * δ, h0, by grind, .inr h1⟩
theorem len_ex {a b B : Rat} (hB : E2 a b B) (hB2 : B ≤ 100000000) : ∃ r t, E2 a b r ∧ 0 ≤ t ∧ t * t ≤ a * a + b * b ∧ r ≤ t + 1 / 100000 := by
  have h0 := hB.pos
  have h := hB.2
  have hb := Rat.mul_nonneg (show (0 : Rat) ≤ 100000000 - B by grind) (show (0 : Rat) ≤ 100000000 + B by grind)
  have e : (((10000000000000 : Nat) : Nat) : Rat) = 10000000000000 := rfl
  obtain ⟨r, h1, h2, t, h3, h4, h5⟩ := len_go (s := a * a + b * b) (δ := 1 / 100000) (by grind) 10000000000000 (by rw [e]; grind)
  refine ⟨r, t, ⟨h1, h2⟩, h3, ?_, h4⟩
  rcases h5 with h5 | h5
  · rw [h5]
    have := sq_pos a
    have := sq_pos b
    grind
  · exact h5
end Go.Proofs.Ytlpibibpckkjhaa
namespace Go.Proofs.Ytlpibibpckkjhaa
open Go.RowKit
def allN (n : Nat) (f : Nat → Bool) : Bool := (List.range n).all f
theorem allN_at {n : Nat} {f : Nat → Bool} (h : allN n f = true) {k : Nat} (hk : k < n) : f k = true := List.all_eq_true.1 h k (List.mem_range.2 hk)
def patNev (X : Nat → Rat) (n : Nat) : Bool := allN n fun i => allN i fun k => nevB X n k i
def patDiv (X : Nat → Rat) (n : Nat) : Bool := allN n fun i => allN i fun k => divB X n k i
def patNew (X : Nat → Rat) (n : Nat) : Bool := allN (n - 1) fun j => newB X n j
def patCof (X : Nat → Rat) (n : Nat) : Bool := allN (n - 1) fun j => allN n fun k => cofB X n j k
def patIds (X : Nat → Rat) (n : Nat) : Bool := delB X n && allN n fun m => lagB X n m && decide (nc X m (n - 1) (n - 1) = monL n m) && decide (nv X n m (n - 1) = monL n m)
def wgtO (hs : List Nat) (n k : Nat) : Option (Nat × Nat) := (wtT (ptsL hs) k n).bind fun p => quoW (1065353216, 0) p
def patWgt (hs : List Nat) (n : Nat) : Bool := allN n fun k => match wgtO hs n k with
  | some w => fin32B w.1 && fin32B w.2 && decide (V32 w.2 = 0) && decide (ab (V32 w.1 - wX (xv hs) n k) ≤ ab (wX (xv hs) n k) / 11000000)
  | none => false
end Go.Proofs.Ytlpibibpckkjhaa
namespace Go.Proofs.Ytlpibibpckkjhaa
open Go.RowKit
/-- Points, values, and the exact coefficients behind them. -/
structure Cx (hs : List Nat) (n : Nat) (ar ai La : Nat → Rat) (L : Rat) (vals : List (Nat × Nat)) : Prop where
  len : hs.length = n
  n1 : 1 ≤ n
  n5 : n ≤ 5
  hh : ∀ j, j < n → hs.getD j 0 < 19
  r : Lr L
  s : L = sumF La n
  a : ∀ m, m < n → E2 (ar m) (ai m) (La m)
  vl : vals.length = n
  v1 : ∀ i, i < n → NV .f32 (vals.getD i (0, 0)).1 (lin ar ai (fun m => (pwr (xv hs i) m, 0)) n).1
  v2 : ∀ i, i < n → NV .f32 (vals.getD i (0, 0)).2 (lin ar ai (fun m => (pwr (xv hs i) m, 0)) n).2
/-- The exact value. -/
def exZ (ar ai : Nat → Rat) (n : Nat) (ξ η : Rat) : Rat × Rat := lin ar ai (fun m => evP ξ η (monL n m)) n
section
variable {hs : List Nat} {n : Nat} {ar ai La : Nat → Rat} {L : Rat} {vals : List (Nat × Nat)}
theorem LQ.exact {u : Rat × Rat} {M e : Rat} {z : Nat × Nat} (n1 : NV .f32 z.1 u.1) (n2 : NV .f32 z.2 u.2) (h : E2 u.1 u.2 (M * L)) (he : 0 ≤ e * L) : LQ L u M e z := by
  refine ⟨u.1, u.2, n1, n2, ?_, h⟩
  rw [show u.1 - u.1 = 0 by grind, show u.2 - u.2 = 0 by grind]
  exact E2.zero he
theorem z_in {a c : Nat} (ha : a < 33) (hc : c < 33) : E2 (ztV a) (ztV c) Zc := (E2.lm (zt_bd a ha) (zt_bd c hc)).le (by unfold Zc; grind)
theorem near_nev (h : Cx hs n ar ai La L vals) (hb : patNev (xv hs) n = true) (hi : patIds (xv hs) n = true) {a c : Nat} (ha : a < 33) (hc : c < 33) : ∃ lo, triG (nstep (ptsL hs) (zt a, zt c)) n vals (n - 1) = some lo ∧ LQ L (exZ ar ai n (ztV a) (ztV c)) (mgN (xv hs) n (n - 1) (n - 1)) (eN (xv hs) n (n - 1) (n - 1)) (lo.getD (n - 1) (0, 0)) := by
  have hz := z_in ha hc
  obtain ⟨lo, h1, -, h2⟩ := triG_ok (step := nstep (ptsL hs) (zt a, zt c)) (Q := fun k i x => LQ L (exN (xv hs) ar ai (ztV a) (ztV c) n k i) (mgN (xv hs) n k i) (eN (xv hs) n k i) x) h.vl (fun i hi => by
      have e : exN (xv hs) ar ai (ztV a) (ztV c) n 0 i = lin ar ai (fun m => (pwr (xv hs i) m, 0)) n := by
        unfold exN
        refine lin_congr n fun m _ => ?_
        rw [nc, evP_one]
      refine LQ.exact (by rw [e]; exact h.v1 i hi) (by rw [e]; exact h.v2 i hi) (exN_bd hz h.s h.a 0 i) ?_
      rw [eN, Rat.zero_mul]; exact Rat.le_refl) (fun k i x y hk hki hin hx hy => by
      obtain ⟨j, rfl⟩ : ∃ j, k = j + 1 := ⟨k - 1, by omega⟩
      rw [Nat.add_sub_cancel] at hx hy
      exact nev_step h.len h.hh ha hc hz h.r h.s h.a hki hin (allN_at (allN_at hb hin) (by omega)) hx hy) (n - 1) (Nat.le_refl _)
  have h3 := h2 (n - 1) (by have := h.n1; omega)
  rw [Nat.min_self] at h3
  refine ⟨lo, h1, ?_⟩
  have e : exN (xv hs) ar ai (ztV a) (ztV c) n (n - 1) (n - 1) = exZ ar ai n (ztV a) (ztV c) := by
    unfold exN exZ
    refine lin_congr n fun m hm => ?_
    unfold patIds at hi
    rw [Bool.and_eq_true] at hi
    have k := allN_at hi.2 hm
    simp only [Bool.and_eq_true, decide_eq_true_eq] at k
    rw [k.1.2]
  rw [e] at h3
  exact h3
theorem near_div (h : Cx hs n ar ai La L vals) (hb : patDiv (xv hs) n = true) : ∃ d, triG (dstep (ptsL hs)) n vals (n - 1) = some d ∧ d.length = n ∧ ∀ i, i < n → LQ L (exD (xv hs) ar ai n i i) (mgD (xv hs) n i i) (eD (xv hs) n i i) (d.getD i (0, 0)) := by
  obtain ⟨lo, h1, h0, h2⟩ := triG_ok (step := dstep (ptsL hs)) (Q := fun k i x => LQ L (exD (xv hs) ar ai n k i) (mgD (xv hs) n k i) (eD (xv hs) n k i) x) h.vl (fun i hi => by
      refine LQ.exact (h.v1 i hi) (h.v2 i hi) (exD_bd h.s h.a 0 i) ?_
      rw [eD, Rat.zero_mul]; exact Rat.le_refl) (fun k i x y hk hki hin hx hy => by
      obtain ⟨j, rfl⟩ : ∃ j, k = j + 1 := ⟨k - 1, by omega⟩
      rw [Nat.add_sub_cancel] at hx hy
      exact div_step h.len h.hh h.r h.s h.a hki hin (allN_at (allN_at hb hin) (by omega)) hx hy) (n - 1) (Nat.le_refl _)
  refine ⟨lo, h1, h0, fun i hi => ?_⟩
  have h3 := h2 i hi
  rw [Nat.min_eq_left (by omega)] at h3
  exact h3
theorem near_new (h : Cx hs n ar ai La L vals) (hb : patNew (xv hs) n = true) (hi : patIds (xv hs) n = true) {d : List (Nat × Nat)} (hd : ∀ i, i < n → LQ L (exD (xv hs) ar ai n i i) (mgD (xv hs) n i i) (eD (xv hs) n i i) (d.getD i (0, 0))) {a c : Nat} (ha : a < 33) (hc : c < 33) :
    ∃ r, newtW (ptsL hs) d (zt a, zt c) n (n - 1) = some r ∧ LQ L (exZ ar ai n (ztV a) (ztV c)) (mgV (xv hs) n (n - 1)) (eV (xv hs) n (n - 1)) r := by
  have hz := z_in ha hc
  have hL0 : 0 ≤ L := by have := h.r.1; grind
  have hn1 := h.n1
  have key : ∀ j, j + 1 ≤ n → ∃ r, newtW (ptsL hs) d (zt a, zt c) n j = some r ∧ LQ L (exV (xv hs) ar ai (ztV a) (ztV c) n j) (mgV (xv hs) n j) (eV (xv hs) n j) r := by
    intro j
    induction j with
    | zero =>
      intro _
      refine ⟨_, rfl, ?_⟩
      have e : exV (xv hs) ar ai (ztV a) (ztV c) n 0 = exD (xv hs) ar ai n (n - 1) (n - 1) := by
        unfold exV exD
        refine lin_congr n fun m _ => ?_
        rw [nv, evP_one]
      have k := exV_bd (X := xv hs) hz h.s h.a 0
      rw [e] at k ⊢
      exact (hd (n - 1) (by omega)).le hL0 k Rat.le_refl
    | succ j ih =>
      intro hj
      obtain ⟨r, h1⟩ := ih (by omega)
      exact new_step h.len h.hh ha hc hz h.r h.s h.a (by omega) (allN_at hb (by omega)) (hd _ (by omega)) h1
  obtain ⟨r, h1, h2⟩ := key (n - 1) (by omega)
  refine ⟨r, h1, ?_⟩
  have e : exV (xv hs) ar ai (ztV a) (ztV c) n (n - 1) = exZ ar ai n (ztV a) (ztV c) := by
    unfold exV exZ
    refine lin_congr n fun m hm => ?_
    unfold patIds at hi
    rw [Bool.and_eq_true] at hi
    have k := allN_at hi.2 hm
    simp only [Bool.and_eq_true, decide_eq_true_eq] at k
    rw [k.2]
  rw [e] at h2
  exact h2
end
end Go.Proofs.Ytlpibibpckkjhaa
namespace Go.Proofs.Ytlpibibpckkjhaa
open Go.RowKit
def muX (X : Nat → Rat) (n i : Nat) : Rat := supM (fun m => ab (pwr (X i) m)) n
def butD (X : Nat → Rat) (k : Nat) : Nat → Rat
  | 0 => 1
  | m + 1 => if m = k then butD X k m else dD X m * butD X k m
def gX (X : Nat → Rat) (n i : Nat) : Rat := 14143 / 10000 * (butD X i n * ab (wX X n i))
def mzX (n : Nat) : Rat := supM (fun m => magL Zc (monL n m)) n
def alX (X : Nat → Rat) (n : Nat) : Rat := (33 / 10 + 11 / 10 * (n : Rat)) * sumF (fun i => gX X n i * muX X n i) n / 11000000
def beX (X : Nat → Rat) (n : Nat) : Rat := (33 / 10 + 11 / 10 * (n : Rat)) * sumF (fun i => gX X n i) n / 11000000
def tX (X : Nat → Rat) (n : Nat) : Rat := (alX X n + mzX n * beX X n) / (1 - beX X n)
def eL (X : Nat → Rat) (n : Nat) : Rat := tX X n + (mzX n + tX X n) / 11000000
def patLag (X : Nat → Rat) (n : Nat) : Bool :=
  (allN n fun k => decide (1 / 100 ≤ ab (wX X n k)) && decide (ab (wX X n k) ≤ 60) && decide (1 ≤ muX X n k) && decide (muX X n k ≤ 1000) && decide (1 ≤ butD X k n) && decide (butD X k n ≤ 7000)) &&
  decide (sumF (fun k => ab (wX X n k)) n ≤ 60) && decide (beX X n ≤ 1 / 100) && decide (tX X n ≤ 10) && decide (1 ≤ mzX n) && decide (mzX n ≤ 1000)
def minF (f : Nat → Rat) : Nat → Rat
  | 0 => f 0
  | k + 1 => if f (k + 1) < minF f k then f (k + 1) else minF f k
theorem minF_in {f : Nat → Rat} {P : Rat → Prop} : ∀ m, (∀ k, k ≤ m → P (f k)) → P (minF f m)
  | 0, h => h 0 (Nat.le_refl _)
  | m + 1, h => by
    rw [minF]
    split
    · exact h _ (Nat.le_refl _)
    · exact minF_in m fun k hk => h k (by omega)
theorem minF_le {f : Nat → Rat} : ∀ m k, k ≤ m → minF f m ≤ f k
  | 0, k, h => by
    obtain rfl : k = 0 := by omega
    exact Rat.le_refl
  | m + 1, k, h => by
    rw [minF]
    by_cases e : k = m + 1
    · subst e
      split <;> grind
    · have := minF_le (f := f) m k (by omega)
      split <;> grind
section
variable {hs : List Nat} {n : Nat} {ar ai La : Nat → Rat} {L ξ η : Rat} {vals : List (Nat × Nat)} {X : Nat → Rat}
theorem but_bd (hz : E2 ξ η Zc) (k : Nat) : ∀ m, E2 (evP ξ η (butL X k m)).1 (evP ξ η (butL X k m)).2 (butD X k m)
  | 0 => by
    simp only [butL, butD]
    rw [evP_one]
    exact E2.real (by unfold Lm; constructor <;> grind)
  | m + 1 => by
    have ih := but_bd hz k m
    rw [butL, butD]
    split
    · exact ih
    · rw [evP_mulx]
      exact (z_len hz (X m)).mul ih
def rho (X : Nat → Rat) (ξ η : Rat) (k : Nat) : Rat := mx (ab (ξ - X k)) (ab η)
theorem rho_sq (k : Nat) : rho X ξ η k * rho X ξ η k ≤ (ξ - X k) * (ξ - X k) + η * η := by
  have h1 := sq_pos (ξ - X k)
  have h2 := sq_pos η
  have h3 : ∀ x : Rat, ab x * ab x = x * x := fun x => by unfold ab; split <;> grind
  unfold rho mx
  split
  · rw [h3]; grind
  · rw [h3]; grind
theorem all_bd (hz : E2 ξ η Zc) {k : Nat} (hk : k < n) : E2 (evP ξ η (allL X n)).1 (evP ξ η (allL X n)).2 (14143 / 10000 * rho X ξ η k * butD X k n) := by
  rw [(all_but k n).2 hk]
  have h1 : Lm (ξ - X k) (rho X ξ η k) := (ab_lm (ξ - X k)).le (mx_l _ _)
  have h2 : Lm η (rho X ξ η k) := (ab_lm η).le (mx_r _ _)
  exact (E2.lm h1 h2).mul (but_bd hz k n)
theorem sixteen {i j : Int} {u v : Rat} (hu : u = (i : Rat) / 16) (hv : v = (j : Rat) / 16) (h : ¬ (u = 0 ∧ v = 0)) : 1 / 16 ≤ mx (ab u) (ab v) := by
  have one : ∀ (i : Int) (u : Rat), u = (i : Rat) / 16 → u ≠ 0 → 1 / 16 ≤ ab u := fun i u hu h => by
    have hi : i ≠ 0 := fun e => h (by rw [hu, e, show ((0 : Int) : Rat) = 0 from rfl]; grind)
    unfold ab
    rcases (show 1 ≤ i ∨ i ≤ -1 by omega) with k | k
    · have k2 : (1 : Rat) ≤ (i : Rat) := by exact_mod_cast k
      split <;> grind
    · have k2 : (i : Rat) ≤ ((-1 : Int) : Rat) := by exact_mod_cast k
      rw [show ((-1 : Int) : Rat) = -1 from rfl] at k2
      split <;> grind
  by_cases e : u = 0
  · have k := one j v hv fun e2 => h ⟨e, e2⟩
    have := mx_r (ab u) (ab v)
    grind
  · have k := one i u hu e
    have := mx_l (ab u) (ab v)
    grind
theorem div_mul_self {x ρ : Rat} (h : 0 < ρ) : x / ρ * ρ = x := Rat.div_mul_cancel (by grind)
theorem M_bd {x ρ : Rat} (h : 1 / 16 ≤ ρ ∧ ρ ≤ 10) (hx : 1 / 100 ≤ x) : 1 / 1000 ≤ x / ρ ∧ x / ρ ≤ 16 * x := by
  have e := div_mul_self (x := x) (ρ := ρ) (by grind)
  generalize x / ρ = M at *
  have h0 : 0 ≤ M := by
    rcases (show 0 ≤ M ∨ 0 < -M by grind) with k | k
    · exact k
    · have := Rat.mul_pos k (show (0 : Rat) < ρ by grind)
      grind
  have k1 := Rat.mul_nonneg h0 (show (0 : Rat) ≤ ρ - 1 / 16 by grind)
  have k2 := Rat.mul_nonneg h0 (show (0 : Rat) ≤ 10 - ρ by grind)
  constructor <;> grind
theorem wgt_at (h : patWgt hs n = true) (hl : hs.length = n) : ∃ ws, WgtR (ptsL hs) ws ∧ ws.length = n ∧ ∀ k, k < n → ∃ V, NV .f32 (ws.getD k (0, 0)).1 V ∧ NV .f32 (ws.getD k (0, 0)).2 0 ∧ Lm (V - wX (xv hs) n k) (ab (wX (xv hs) n k) / 11000000) := by
  have key : ∀ k, k < n → ∃ w, wgtO hs n k = some w ∧ fin32B w.1 = true ∧ fin32B w.2 = true ∧ V32 w.2 = 0 ∧ ab (V32 w.1 - wX (xv hs) n k) ≤ ab (wX (xv hs) n k) / 11000000 := fun k hk => by
    have h1 := allN_at h hk
    split at h1
    · rename_i w e
      simp only [Bool.and_eq_true, decide_eq_true_eq] at h1
      exact ⟨w, e, h1.1.1.1, h1.1.1.2, h1.1.2, h1.2⟩
    · cases h1
  obtain ⟨ws, e1, e2⟩ := listOf (wgtO hs n) n fun k hk => by
    obtain ⟨w, e, -⟩ := key k hk
    exact ⟨w, e⟩
  have hp : (ptsL hs).length = n := by simp [ptsL, hl]
  have at_ : ∀ k, k < n → fin32B (ws.getD k (0, 0)).1 = true ∧ fin32B (ws.getD k (0, 0)).2 = true ∧ V32 (ws.getD k (0, 0)).2 = 0 ∧ ab (V32 (ws.getD k (0, 0)).1 - wX (xv hs) n k) ≤ ab (wX (xv hs) n k) / 11000000 := fun k hk => by
    obtain ⟨w, e, h2⟩ := key k hk
    rw [e2 k hk] at e
    rw [Option.some.inj e]
    exact h2
  refine ⟨ws, ⟨by rw [e1, hp], fun i hi => ?_, fun i hi => ?_⟩, e1, fun k hk => ?_⟩
  · have k := e2 i (by omega)
    unfold wgtO at k
    rw [Option.bind_eq_some_iff] at k
    rw [e1]
    exact k
  · obtain ⟨a, b, -⟩ := at_ i (by omega)
    exact ⟨a, b⟩
  · obtain ⟨a, b, c, d⟩ := at_ k hk
    exact ⟨_, nv_of_fin a, by rw [← c]; exact nv_of_fin b, (ab_lm _).le d⟩
end
end Go.Proofs.Ytlpibibpckkjhaa
namespace Go.Proofs.Ytlpibibpckkjhaa
open Go.RowKit
section
variable {hs : List Nat} {n : Nat} {ar ai La : Nat → Rat} {L ξ η : Rat} {vals : List (Nat × Nat)} {X : Nat → Rat}
theorem sumF_lin {f g : Nat → Rat} (c : Rat) (n : Nat) (h : ∀ k, k < n → c * f k ≤ g k) : c * sumF f n ≤ sumF g n := by
  have e := sumF_mul (f := f) c n
  have k := sumF_le (f := fun k => f k * c) (g := g) n fun k hk => by have := h k hk; grind
  rw [e] at k
  grind
theorem zx_num (a h : Nat) : ztV a - hwV h = (((a : Int) + 48 - 8 * (h : Int) : Int) : Rat) / 16 := by
  unfold ztV hwV
  push_cast
  grind
theorem hw_bd (h : Nat) (hh : h < 19) : Lm (hwV h) 5 := by
  have t : (List.range 19).all (fun a => decide (-5 ≤ hwV a) && decide (hwV a ≤ 5)) = true := by decide +kernel
  have h2 := List.all_eq_true.1 t h (List.mem_range.2 hh)
  simp only [Bool.and_eq_true, decide_eq_true_eq] at h2
  exact h2
theorem near_lag (h : Cx hs n ar ai La L vals) (hb : patLag (xv hs) n = true) (hw : patWgt hs n = true) (hi : patIds (xv hs) n = true) {a c : Nat} (ha : a < 33) (hc : c < 33) (hne : ∀ k, k < n → ¬ (ztV a - xv hs k = 0 ∧ ztV c = 0)) :
    ∃ ws s r, WgtR (ptsL hs) ws ∧ lagT (ptsL hs) vals ws (zt a, zt c) n = some s ∧ quoW s.1 s.2 = some r ∧ LQ L (exZ ar ai n (ztV a) (ztV c)) (mzX n) (eL (xv hs) n) r := by
  have hz := z_in ha hc
  obtain ⟨l1, l2⟩ := h.r
  have hn1 := h.n1
  have hn5 := h.n5
  unfold patLag at hb
  simp only [Bool.and_eq_true, decide_eq_true_eq] at hb
  obtain ⟨⟨⟨⟨⟨b1, b2⟩, b3⟩, b4⟩, b5⟩, b6⟩ := hb
  have bk : ∀ k, k < n → 1 / 100 ≤ ab (wX (xv hs) n k) ∧ ab (wX (xv hs) n k) ≤ 60 ∧ 1 ≤ muX (xv hs) n k ∧ muX (xv hs) n k ≤ 1000 ∧ 1 ≤ butD (xv hs) k n ∧ butD (xv hs) k n ≤ 7000 := fun k hk => by
    have := allN_at b1 hk
    simp only [Bool.and_eq_true, decide_eq_true_eq] at this
    obtain ⟨⟨⟨⟨⟨c1, c2⟩, c3⟩, c4⟩, c5⟩, c6⟩ := this
    exact ⟨c1, c2, c3, c4, c5, c6⟩
  clear b1
  have hρ : ∀ k, k < n → 1 / 16 ≤ rho (xv hs) (ztV a) (ztV c) k ∧ rho (xv hs) (ztV a) (ztV c) k ≤ 10 := fun k hk => by
    refine ⟨sixteen (zx_num a (hs.getD k 0)) (rfl : ztV c = (((c : Int) - 16 : Int) : Rat) / 16) (hne k hk), ?_⟩
    have z1 := zt_bd a ha
    have z2 := zt_bd c hc
    have z3 : Lm (xv hs k) 5 := hw_bd _ (h.hh k hk)
    unfold Lm at z1 z2 z3
    unfold rho mx ab
    split <;> split <;> grind
  obtain ⟨ws, hW, hwl, hwa⟩ := wgt_at hw h.len
  have hQ : ∀ k, ∃ Q, k < n → QOf Q (wX (xv hs) n k) (ztV a - xv hs k) (ztV c) := fun k => by
    by_cases hk : k < n
    · have h1 := rho_sq (X := xv hs) (ξ := ztV a) (η := ztV c) k
      have h2 := (hρ k hk).1
      have h3 := Rat.mul_pos (show (0 : Rat) < rho (xv hs) (ztV a) (ztV c) k by grind) (show (0 : Rat) < rho (xv hs) (ztV a) (ztV c) k by grind)
      obtain ⟨Q, q⟩ := qOf_ex (W := wX (xv hs) n k) (p := ztV a - xv hs k) (q := ztV c) (by grind)
      exact ⟨Q, fun _ => q⟩
    · exact ⟨(0, 0), fun h => absurd h hk⟩
  obtain ⟨Q, hQ⟩ : ∃ Q : Nat → Rat × Rat, ∀ k, k < n → QOf (Q k) (wX (xv hs) n k) (ztV a - xv hs k) (ztV c) := ⟨fun k => (hQ k).choose, fun k hk => (hQ k).choose_spec hk⟩
  obtain ⟨v, hv⟩ : ∃ v : Nat → Rat × Rat, ∀ k, v k = lin ar ai (fun m => (pwr (xv hs k) m, 0)) n := ⟨_, fun _ => rfl⟩
  obtain ⟨M, hM⟩ : ∃ M : Nat → Rat, ∀ k, M k = ab (wX (xv hs) n k) / rho (xv hs) (ztV a) (ztV c) k := ⟨_, fun _ => rfl⟩
  have hMb : ∀ k, k < n → 1 / 1000 ≤ M k ∧ M k ≤ 16 * ab (wX (xv hs) n k) := fun k hk => by
    rw [hM]
    exact M_bd (hρ k hk) (bk k hk).1
  have hMρ : ∀ k, k < n → M k * rho (xv hs) (ztV a) (ztV c) k = ab (wX (xv hs) n k) := fun k hk => by
    rw [hM]
    exact div_mul_self (by have := (hρ k hk).1; grind)
  have hK : ∀ k, k < n → LagK (ptsL hs) vals ws (zt a, zt c) Q v M (fun k => muX (xv hs) n k * L) k := fun k hk => by
    obtain ⟨d, g1, d1, d2⟩ := zh_diff a c (hs.getD k 0) ha hc (h.hh k hk)
    obtain ⟨V, w1, w2, w3⟩ := hwa k hk
    obtain ⟨p1, p2⟩ := hρ k hk
    obtain ⟨c1, c2, c3, c4, -, -⟩ := bk k hk
    obtain ⟨r, x, y, g2, x1, x2, x3, x4⟩ := quo_near w1 w2 w3 (ab_lm _) d1 d2 (rho_sq (X := xv hs) (ξ := ztV a) (η := ztV c) k) (by
      have z1 := zt_bd a ha
      have z2 := zt_bd c hc
      have z3 : Lm (hwV (hs.getD k 0)) 5 := hw_bd _ (h.hh k hk)
      unfold Lm at z1 z2 z3
      have k1 := Rat.mul_nonneg (show (0 : Rat) ≤ 6 - (ztV a - hwV (hs.getD k 0)) by grind) (show (0 : Rat) ≤ 6 + (ztV a - hwV (hs.getD k 0)) by grind)
      have k2 := Rat.mul_nonneg (show (0 : Rat) ≤ 1 - ztV c by grind) (show (0 : Rat) ≤ 1 + ztV c by grind)
      grind) ⟨p1, p2⟩ ⟨c1, by grind⟩ (hMρ k hk) (hQ k hk)
    have m1 := hMb k hk
    have m2 := Rat.mul_nonneg (show (0 : Rat) ≤ muX (xv hs) n k - 1 by grind) (show (0 : Rat) ≤ L by grind)
    have m3 := Rat.mul_nonneg (show (0 : Rat) ≤ 1000 - muX (xv hs) n k by grind) (show (0 : Rat) ≤ L by grind)
    have hb0 := lin_bd (ar := ar) (ai := ai) (t := fun m => (pwr (xv hs k) m, 0)) n h.a (fun m hm => (E2.real (ab_lm (pwr (xv hs k) m))).le (supM_le (fun m => ab (pwr (xv hs k) m)) n m hm))
    refine ⟨⟨d, r, x, y, ?_, g2, x1, x2, x3, x4⟩, ?_, ?_, ?_, ⟨m1.1, by grind⟩, ⟨by grind, by grind⟩⟩
    · rw [ptsL_at (by rw [h.len]; exact hk)]; exact g1
    · rw [hv]; exact h.v1 k hk
    · rw [hv]; exact h.v2 k hk
    · rw [hv, h.s, Rat.mul_comm]; exact hb0
  obtain ⟨s, x1, x2, x3, x4, g, n1, n2, e1, -, n3, n4, e2, sB⟩ := lag_near (n := n) (by omega) hK n (Nat.le_refl _)
  -- the product of all the factors
  have hNb : E2 (evP (ztV a) (ztV c) (allL (xv hs) n)).1 (evP (ztV a) (ztV c) (allL (xv hs) n)).2 (minF (fun k => 14143 / 10000 * rho (xv hs) (ztV a) (ztV c) k * butD (xv hs) k n) (n - 1)) := minF_in (P := fun x => E2 _ _ x) (n - 1) fun k hk => all_bd hz (by omega)
  have hNk : ∀ k, k < n → minF (fun k => 14143 / 10000 * rho (xv hs) (ztV a) (ztV c) k * butD (xv hs) k n) (n - 1) ≤ 14143 / 10000 * rho (xv hs) (ztV a) (ztV c) k * butD (xv hs) k n := fun k hk => minF_le (f := fun k => 14143 / 10000 * rho (xv hs) (ztV a) (ztV c) k * butD (xv hs) k n) (n - 1) k (by omega)
  have hNlo : 1 / 1000 ≤ minF (fun k => 14143 / 10000 * rho (xv hs) (ztV a) (ztV c) k * butD (xv hs) k n) (n - 1) := minF_in (P := fun x => 1 / 1000 ≤ x) (n - 1) fun k hk => by
    obtain ⟨-, -, -, -, c5, -⟩ := bk k (by omega)
    have c7 := (hρ k (by omega)).1
    have := Rat.mul_nonneg (show (0 : Rat) ≤ rho (xv hs) (ztV a) (ztV c) k - 1 / 16 by grind) (show (0 : Rat) ≤ butD (xv hs) k n - 1 by grind)
    grind
  have hNhi : minF (fun k => 14143 / 10000 * rho (xv hs) (ztV a) (ztV c) k * butD (xv hs) k n) (n - 1) ≤ 100000 := by
    have c0 := hNk 0 (by omega)
    obtain ⟨-, -, -, -, c5, c6⟩ := bk 0 (by omega)
    obtain ⟨c7, c8⟩ := hρ 0 (by omega)
    have := Rat.mul_nonneg (show (0 : Rat) ≤ 10 - rho (xv hs) (ztV a) (ztV c) 0 by grind) (show (0 : Rat) ≤ butD (xv hs) 0 n by grind)
    grind
  generalize minF (fun k => 14143 / 10000 * rho (xv hs) (ztV a) (ztV c) k * butD (xv hs) k n) (n - 1) = Nb at *
  have hG : ∀ k, k < n → Nb * M k ≤ gX (xv hs) n k := fun k hk => by
    have k1 := Rat.mul_nonneg (show (0 : Rat) ≤ 14143 / 10000 * rho (xv hs) (ztV a) (ztV c) k * butD (xv hs) k n - Nb by have := hNk k hk; grind) (show (0 : Rat) ≤ M k by have := (hMb k hk).1; grind)
    have k2 := hMρ k hk
    unfold gX
    rw [← k2]
    grind
  have hSA : Nb * sumF (fun i => M i * (muX (xv hs) n i * L)) n ≤ sumF (fun i => gX (xv hs) n i * muX (xv hs) n i) n * L := by
    rw [← sumF_mul L n]
    refine sumF_lin Nb n fun k hk => ?_
    have k1 := hG k hk
    obtain ⟨-, -, c3, -⟩ := bk k hk
    have k2 := Rat.mul_nonneg (show (0 : Rat) ≤ gX (xv hs) n k - Nb * M k by grind) (show (0 : Rat) ≤ muX (xv hs) n k by grind)
    have k3 := Rat.mul_nonneg k2 (show (0 : Rat) ≤ L by grind)
    grind
  have hSB : Nb * sumF M n ≤ sumF (fun i => gX (xv hs) n i) n := sumF_lin Nb n hG
  have hSM : sumF M n ≤ 1000 := by
    have k1 := sumF_le (f := M) (g := fun k => ab (wX (xv hs) n k) * 16) n fun k hk => by have := (hMb k hk).2; grind
    rw [sumF_mul] at k1
    grind
  have hnr : (0 : Rat) ≤ (n : Rat) ∧ (n : Rat) ≤ 5 := ⟨by exact_mod_cast Nat.zero_le n, by exact_mod_cast hn5⟩
  have hSM0 := sumF_pos (f := M) n fun k hk => by have := (hMb k hk).1; grind
  -- the identities
  have hexA : lin ar ai (fun m => evP (ztV a) (ztV c) (lagL (xv hs) n m n)) n = exZ ar ai n (ztV a) (ztV c) := by
    unfold exZ
    refine lin_congr n fun m hm => ?_
    unfold patIds at hi
    rw [Bool.and_eq_true] at hi
    have k := allN_at hi.2 hm
    unfold lagB at k
    simp only [Bool.and_eq_true, decide_eq_true_eq] at k
    rw [k.1.1]
  have hexB : evP (ztV a) (ztV c) (lagL (xv hs) n 0 n) = (1, 0) := by
    unfold patIds at hi
    rw [Bool.and_eq_true] at hi
    have k := allN_at hi.2 (show 0 < n by omega)
    unfold lagB at k
    simp only [Bool.and_eq_true, decide_eq_true_eq] at k
    rw [k.1.1, evP_mon0]
  obtain ⟨a1, a2⟩ := lag_A (v := v) (ar := ar) (ai := ai) hQ (fun k _ => hv k) n (Nat.le_refl _)
  rw [hexA] at a1 a2
  obtain ⟨a3, a4⟩ := lag_B hQ n (Nat.le_refl _)
  rw [hexB] at a3 a4
  have hexbd : E2 (exZ ar ai n (ztV a) (ztV c)).1 (exZ ar ai n (ztV a) (ztV c)).2 (mzX n * L) := by
    have k := lin_bd (ar := ar) (ai := ai) (t := fun m => evP (ztV a) (ztV c) (monL n m)) n h.a (fun m hm => (evP_mag hz (monL n m)).le (supM_le (fun m => magL Zc (monL n m)) n m hm))
    rw [h.s, Rat.mul_comm]; exact k
  have k5 := Rat.mul_nonneg hnr.1 hSM0
  have k6 := Rat.mul_nonneg (show (0 : Rat) ≤ 5 - (n : Rat) by grind) hSM0
  have hβ0 : (1 : Rat) - beX (xv hs) n > 0 := by grind
  have hT : alX (xv hs) n + mzX n * beX (xv hs) n ≤ tX (xv hs) n * (1 - beX (xv hs) n) := by
    unfold tX
    rw [div_mul_self hβ0]; exact Rat.le_refl
  obtain ⟨r, g2, q⟩ := lag_quo (L := L) (mz := mzX n) (α := alX (xv hs) n) (β := beX (xv hs) n) (T := tX (xv hs) n) n1 n2 n3 n4 e1 e2 sB hSM (by grind) hNb ⟨hNlo, hNhi⟩ a1 a2 a3 a4 hexbd ⟨l1, l2⟩ ⟨b5, b6⟩ (by
      unfold alX
      generalize sumF (fun i => M i * (muX (xv hs) n i * L)) n = S1 at *
      generalize sumF (fun i => gX (xv hs) n i * muX (xv hs) n i) n = S2 at *
      have k := Rat.mul_nonneg (show (0 : Rat) ≤ 33 / 10 + 11 / 10 * (n : Rat) by grind) (show (0 : Rat) ≤ S2 * L - Nb * S1 by grind)
      grind) (by
      unfold beX
      generalize sumF M n = S1 at *
      generalize sumF (fun i => gX (xv hs) n i) n = S2 at *
      have k := Rat.mul_nonneg (show (0 : Rat) ≤ 33 / 10 + 11 / 10 * (n : Rat) by grind) (show (0 : Rat) ≤ S2 - Nb * S1 by grind)
      grind) b3 hT b4
  exact ⟨ws, s, r, hW, g, g2, q⟩
end
end Go.Proofs.Ytlpibibpckkjhaa
namespace Go.Proofs.Ytlpibibpckkjhaa
open Go.RowKit
theorem monL_at (n m k : Nat) : (monL n m).getD k 0 = if k = m then 1 else 0 := by
  unfold monL
  rw [List.getD]
  rcases (show k < m ∨ k = m ∨ m < k by omega) with h | h | h
  · rw [List.getElem?_append_left (by simpa using h), if_neg (by omega)]
    simp [h]
  · subst h
    rw [List.getElem?_append_right (by simp), if_pos rfl]
    simp
  · obtain ⟨d, rfl⟩ : ∃ d, k = m + 1 + d := ⟨k - m - 1, by omega⟩
    rw [List.getElem?_append_right (by simp; omega), if_neg (by omega)]
    rw [List.length_replicate, show m + 1 + d - m = d + 1 by omega, List.getElem?_cons_succ]
    by_cases h2 : d < n - 1 - m
    · simp [h2]
    · rw [List.getElem?_eq_none (by simp; omega)]; rfl
section
variable {hs : List Nat} {n : Nat} {ar ai La : Nat → Rat} {L : Rat} {vals : List (Nat × Nat)}
theorem lin_del (k : Nat) : ∀ N, lin ar ai (fun m => (if k = m then (1 : Rat) else 0, (0 : Rat))) N = if k < N then (ar k, ai k) else (0, 0)
  | 0 => by simp [lin]
  | N + 1 => by
    rw [lin, lin_del k N]
    by_cases h : k = N
    · subst h
      rw [if_neg (by omega), if_pos rfl, if_pos (by omega)]
      ext <;> simp only <;> grind
    · rw [if_neg h]
      by_cases h2 : k < N
      · rw [if_pos h2, if_pos (by omega)]
        ext <;> simp only <;> grind
      · rw [if_neg h2, if_neg (by omega)]
        ext <;> simp only <;> grind
theorem near_poly (h : Cx hs n ar ai La L vals) (hb : patCof (xv hs) n = true) (hi : patIds (xv hs) n = true) {d : List (Nat × Nat)} (hd : ∀ i, i < n → LQ L (exD (xv hs) ar ai n i i) (mgD (xv hs) n i i) (eD (xv hs) n i i) (d.getD i (0, 0))) :
    ∃ l, NPoly (ptsL hs) d n (n - 1) l ∧ l.length ≤ n ∧ ∀ k, k < n → LQ L (ar k, ai k) (cm (xv hs) n (n - 1) k) (eC (xv hs) n (n - 1) k) (l.getD k (0, 0)) := by
  have hn1 := h.n1
  obtain ⟨l, h1, h2, h3⟩ := npoly_near h.len h.n1 (by have := h.n5; omega) h.hh h.r h.s h.a hd (n - 1) (by omega) fun i hi k hk => allN_at (allN_at hb hi) hk
  refine ⟨l, h1, by omega, fun k hk => ?_⟩
  have h4 := h3 k hk
  have e : exC (xv hs) ar ai n (n - 1) k = (ar k, ai k) := by
    have h5 := lin_del (ar := ar) (ai := ai) k n
    rw [if_pos hk] at h5
    rw [← h5]
    unfold exC
    refine lin_congr n fun m hm => ?_
    unfold patIds at hi
    rw [Bool.and_eq_true] at hi
    have k := allN_at hi.2 hm
    simp only [Bool.and_eq_true, decide_eq_true_eq] at k
    rw [k.2, monL_at]
  rw [e] at h4
  exact h4
end
end Go.Proofs.Ytlpibibpckkjhaa
namespace Go.Proofs.Ytlpibibpckkjhaa
open Go.RowKit
def patBnd (X : Nat → Rat) (n : Nat) : Bool := allN n fun m => decide (sumF (fun l => ab (bX X n l m)) n ≤ 4000)
section
variable {hs : List Nat} {n : Nat} {vals : List (Nat × Nat)} {X : Nat → Rat}
theorem cR_bd {V : Nat → Rat} {m : Nat} {B : Rat} (hB : 0 ≤ B) (hV : ∀ l, l < n → Lm (V l) B) : ∀ N, N ≤ n → Lm (sumF (fun l => bX X n l m * V l) N) (sumF (fun l => ab (bX X n l m)) N * B)
  | 0, _ => by
    simp only [sumF]
    unfold Lm; constructor <;> grind
  | N + 1, h => by
    have ih := cR_bd (m := m) hB hV N (by omega)
    have h1 := ab_lm (bX X n N m)
    have h2 := hV N (by omega)
    rw [sumF, sumF]
    unfold Lm at ih h1 h2 ⊢
    have k1 := Rat.mul_nonneg (show (0 : Rat) ≤ ab (bX X n N m) - bX X n N m by grind) (show (0 : Rat) ≤ B - V N by grind)
    have k2 := Rat.mul_nonneg (show (0 : Rat) ≤ ab (bX X n N m) - bX X n N m by grind) (show (0 : Rat) ≤ B + V N by grind)
    have k3 := Rat.mul_nonneg (show (0 : Rat) ≤ ab (bX X n N m) + bX X n N m by grind) (show (0 : Rat) ≤ B - V N by grind)
    have k4 := Rat.mul_nonneg (show (0 : Rat) ≤ ab (bX X n N m) + bX X n N m by grind) (show (0 : Rat) ≤ B + V N by grind)
    constructor <;> grind
theorem cx_ex {vr vi : Nat → Rat} (hl : hs.length = n) (hn1 : 1 ≤ n) (hn5 : n ≤ 5) (hh : ∀ j, j < n → hs.getD j 0 < 19) (hvl : vals.length = n) (hv : ∀ i, i < n → NV .f32 (vals.getD i (0, 0)).1 (vr i) ∧ NV .f32 (vals.getD i (0, 0)).2 (vi i) ∧ Lm (vr i) 16 ∧ Lm (vi i) 16) (hd : delB (xv hs) n = true) (hb : patBnd (xv hs) n = true) :
    ∃ ar ai La t : Nat → Rat, ∃ L, Cx hs n ar ai La L vals ∧ L ≤ 500000 ∧ ∀ m, m < n → 0 ≤ t m ∧ t m * t m ≤ ar m * ar m + ai m * ai m ∧ La m ≤ t m + 1 / 500 ∧ 1 / 1000 ≤ La m := by
  have key : ∀ m, ∃ r t, m < n → E2 (cR (xv hs) n vr m) (cR (xv hs) n vi m) r ∧ 0 ≤ t ∧ t * t ≤ cR (xv hs) n vr m * cR (xv hs) n vr m + cR (xv hs) n vi m * cR (xv hs) n vi m ∧ r ≤ t + 1 / 100000 ∧ r ≤ 92000 := fun m => by
    by_cases hm : m < n
    · have b1 := allN_at hb hm
      rw [decide_eq_true_eq] at b1
      have h1 := cR_bd (X := xv hs) (m := m) (show (0 : Rat) ≤ 16 by grind) (fun l hl => (hv l hl).2.2.1) n (Nat.le_refl _)
      have h2 := cR_bd (X := xv hs) (m := m) (show (0 : Rat) ≤ 16 by grind) (fun l hl => (hv l hl).2.2.2) n (Nat.le_refl _)
      have hE := (E2.lm h1 h2).le (show 14143 / 10000 * (sumF (fun l => ab (bX (xv hs) n l m)) n * 16) ≤ 91000 by grind)
      obtain ⟨r, t, e1, e2, e3, e4⟩ := len_ex hE (by grind)
      refine ⟨r, t, fun _ => ⟨e1, e2, e3, e4, ?_⟩⟩
      rcases (show t ≤ 91001 ∨ 91001 < t by grind) with k | k
      · grind
      · exfalso
        have k1 := Rat.mul_pos (show (0 : Rat) < t - 91001 by grind) (show (0 : Rat) < t + 91001 by grind)
        have := hE.2
        grind
    · exact ⟨0, 0, fun h => absurd h hm⟩
  obtain ⟨R, hR⟩ : ∃ R : Nat → Rat, ∀ m, R m = (key m).choose + 1 / 1000 := ⟨_, fun _ => rfl⟩
  have sp : ∀ m, m < n → E2 (cR (xv hs) n vr m) (cR (xv hs) n vi m) (R m) ∧ 0 ≤ (key m).choose_spec.choose ∧ (key m).choose_spec.choose * (key m).choose_spec.choose ≤ cR (xv hs) n vr m * cR (xv hs) n vr m + cR (xv hs) n vi m * cR (xv hs) n vi m ∧ R m ≤ (key m).choose_spec.choose + 1 / 500 ∧ 1 / 1000 ≤ R m ∧ R m ≤ 93000 := fun m hm => by
    obtain ⟨e1, e2, e3, e4, e5⟩ := (key m).choose_spec.choose_spec hm
    have h0 := e1.pos
    have hRm := hR m
    exact ⟨e1.le (by grind), e2, e3, by grind, by grind, by grind⟩
  refine ⟨cR (xv hs) n vr, cR (xv hs) n vi, R, fun m => (key m).choose_spec.choose, sumF R n, ⟨hl, hn1, hn5, hh, ⟨?_, ?_⟩, rfl, fun m hm => (sp m hm).1, hvl, fun i hi => ?_, fun i hi => ?_⟩, ?_, fun m hm => ?_⟩
  · have k := sumF_upto (f := R) (n := n) (fun k hk => by have := (sp k hk).2.2.2.2.1; grind) (n - 1) (by omega)
    rw [show n - (n - 1) = 1 by omega, sumF, sumF] at k
    have := (sp 0 (by omega)).2.2.2.2.1
    grind
  · have k := sumF_top (f := R) (c := 93000) n fun m hm => (sp m hm).2.2.2.2.2
    have hnr : (n : Rat) ≤ 5 := by exact_mod_cast hn5
    grind
  · rw [lin_pw]
    simp only
    rw [coef_hits hd hi]
    exact (hv i hi).1
  · rw [lin_pw]
    simp only
    rw [coef_hits hd hi]
    exact (hv i hi).2.1
  · have k := sumF_top (f := R) (c := 93000) n fun m hm => (sp m hm).2.2.2.2.2
    have hnr : (n : Rat) ≤ 5 := by exact_mod_cast hn5
    grind
  · obtain ⟨-, e2, e3, e4, e5, -⟩ := sp m hm
    exact ⟨e2, e3, e4, e5⟩
end
end Go.Proofs.Ytlpibibpckkjhaa
namespace Go.Proofs.Ytlpibibpckkjhaa
open Go.RowKit
def patP : Nat → List (List Nat × Nat)
  | 0 => (List.range 5).map fun s => ([], 2 * s)
  | n + 1 => (patP n).flatMap fun p => [(p.1 ++ [p.2], p.2 + 1), (p.1 ++ [p.2], p.2 + 2)]
def patL : Nat → List (List Nat)
  | 0 => []
  | n + 1 => (patP n).map fun p => p.1 ++ [p.2]
theorem pts_in {l : List Nat} {a : Nat} (h : Pts l a) : (l, a) ∈ patP l.length := by
  induction h with
  | none s h => exact List.mem_map.2 ⟨s, List.mem_range.2 h, rfl⟩
  | more l a y h hy ih =>
    rw [List.length_append, List.length_singleton, patP]
    refine List.mem_flatMap.2 ⟨(l, a), ih, ?_⟩
    rcases (show y = 0 ∨ y = 1 by omega) with e | e <;> subst e <;> simp
theorem pts_L {l : List Nat} {a n : Nat} (h : Pts l a) (hn : l.length = n) (h1 : 1 ≤ n) : l ∈ patL n := by
  obtain ⟨m, rfl⟩ : ∃ m, n = m + 1 := ⟨n - 1, by omega⟩
  cases h with
  | none s h => simp at hn
  | more l a y h hy =>
    rw [List.length_append, List.length_singleton] at hn
    refine List.mem_map.2 ⟨(l, a), ?_, rfl⟩
    rw [← show l.length = m by omega]
    exact pts_in h
theorem pat_at {f : List Nat → Bool} {n : Nat} (h : (patL n).all f = true) {l : List Nat} {a : Nat} (hp : Pts l a) (hn : l.length = n) (h1 : 1 ≤ n) : f l = true := List.all_eq_true.1 h l (pts_L hp hn h1)
end Go.Proofs.Ytlpibibpckkjhaa
namespace Go.Proofs.Ytlpibibpckkjhaa
open Go.RowKit
def cutL (m j : Nat) (l : List (List Nat)) : List (List Nat) := (l.drop (j * m)).take m
theorem all_cut {f : List Nat → Bool} {m k : Nat} {l : List (List Nat)} (hm : 0 < m) (hl : l.length ≤ k * m) (h : ∀ j, j < k → (cutL m j l).all f = true) : l.all f = true := by
  refine List.all_eq_true.2 fun x hx => ?_
  obtain ⟨i, hi, rfl⟩ := List.getElem_of_mem hx
  have h1 : i / m < k := Nat.div_lt_of_lt_mul (by rw [Nat.mul_comm]; omega)
  refine List.all_eq_true.1 (h (i / m) h1) _ ?_
  have e : i / m * m + i % m = i := Nat.div_add_mod' i m
  have e2 := Nat.mod_lt i hm
  unfold cutL
  refine List.mem_of_getElem? (i := i % m) ?_
  rw [List.getElem?_take, if_pos e2, List.getElem?_drop, e, List.getElem?_eq_getElem hi]
theorem pat_len : (patL 1).length = 5 ∧ (patL 2).length = 10 ∧ (patL 3).length = 20 ∧ (patL 4).length = 40 ∧ (patL 5).length = 80 := by decide +kernel
/-- All the patterns of a length, in ten parts. -/
theorem all_ten {f : List Nat → Bool} (h : ∀ j, j < 10 → (cutL 8 j (patL 5)).all f = true) : (patL 5).all f = true := all_cut (by omega) (by rw [pat_len.2.2.2.2]; omega) h
theorem all_of {f : Nat → List Nat → Bool} (h1 : (List.range 5).all (fun n => (patL n).all (f n)) = true) (h5 : ∀ j, j < 10 → (cutL 8 j (patL 5)).all (f 5) = true) {hs : List Nat} {a n : Nat} (hp : Pts hs a) (hn : hs.length = n) (n1 : 1 ≤ n) (n5 : n ≤ 5) : f n hs = true := by
  by_cases e : n = 5
  · subst e
    exact pat_at (all_ten h5) hp hn n1
  · exact pat_at (List.all_eq_true.1 h1 n (List.mem_range.2 (by omega))) hp hn n1
/-- What the ends of the shares are asked. -/
def patTop (X : Nat → Rat) (n : Nat) : Bool := decide (eN X n (n - 1) (n - 1) ≤ 6 / 100) && decide (eV X n (n - 1) ≤ 5 / 100) && decide (eL X n ≤ 41 / 100)
def patSum (X : Nat → Rat) (n : Nat) : Bool := allN n (fun k => decide (eC X n (n - 1) k ≤ 1 / 10)) && decide (sumF (eC X n (n - 1)) n ≤ 34 / 1000) && decide (sumF (fun k => eC X n (n - 1) k * pwr Zc k) n ≤ 48 / 1000)
def patEnd (X : Nat → Rat) (n : Nat) : Bool := allN n (fun i => decide (sumF (fun k => eC X n (n - 1) k * pwr (ab (X i)) k) n ≤ 1 / 4))
def patWs (X : Nat → Rat) (n : Nat) : Bool := decide (n ≤ 1) || decide (sumF (wX X n) n = 0)
def patPts (hs : List Nat) (n : Nat) : Bool := (ptsL hs).all finCB && allN n (fun j => decide (hs.getD j 0 < 19)) && allN n fun i => allN i fun k => !eqC ((ptsL hs).getD i (0, 0)) ((ptsL hs).getD k (0, 0))
end Go.Proofs.Ytlpibibpckkjhaa
