/-
  The exact exponential, root and logarithm of a series, and what they are to each other.
-/
import Derived.Test.YtlilhebnbhlkhaaSeW
namespace Go.Proofs.Ytlilhebnbhlkhaa
open Go.RowKit

theorem kpos {k : Nat} (h : 1 ≤ k) : (k : Rat) * (1 / (k : Rat)) = 1 := by
  have h1 : (1 : Rat) ≤ (k : Rat) := by exact_mod_cast h
  have := Rat.div_mul_cancel (a := 1) (b := (k : Rat)) (by grind)
  grind
theorem esum_msum {b E : Sq} {k : Nat} : ∀ m, msum (th b) E k 1 m = esum b E k m
  | 0 => rfl
  | m + 1 => by
    rw [msum, esum, esum_msum m, show 1 + m = m + 1 by omega]
    rfl
theorem ca_z (x : Rat × Rat) : ca (0, 0) x = x := ceq (by simp only [ca]; grind) (by simp only [ca]; grind)
theorem cm_z (x : Rat × Rat) : cm (0, 0) x = (0, 0) := ceq (by simp only [cm]; grind) (by simp only [cm]; grind)
theorem th_z (f : Sq) : th f 0 = (0, 0) := by
  unfold th
  rw [show ((0 : Nat) : Rat) = 0 from rfl]
  exact ceq (by simp only; grind) (by simp only; grind)
theorem cv_noz {Y H : Sq} (h : Y 0 = (0, 0)) (k : Nat) : cv Y H k = msum Y H k 1 k := by
  rw [cv_msum, msum_head, h, cm_z, ca_z]
theorem ex_exp (b : Sq) : ∃ E : Sq, E 0 = (1, 0) ∧ (∀ k, 1 ≤ k → E k = cr (1 / (k : Rat)) (esum b E k k)) ∧ ∀ k, th E k = cv (th b) E k := by
  have ec : ∀ (k : Nat) (f g : Sq), (∀ i, i < k → f i = g i) → ∀ m, m ≤ k → esum b f k m = esum b g k m := by
    intro k f g h m
    induction m with
    | zero => intro _; rfl
    | succ m ih =>
      intro hm
      rw [esum, esum, ih (by omega), h _ (by omega)]
  have key := cov_eq (F := fun k f => if k = 0 then (1, 0) else cr (1 / (k : Rat)) (esum b f k k)) (fun k f g h => by
    by_cases e : k = 0
    · simp only [e, if_true]
    · simp only [e, if_false]
      rw [ec k f g h k (Nat.le_refl _)])
  generalize cov (fun k f => if k = 0 then (1, 0) else cr (1 / (k : Rat)) (esum b f k k)) = E at key
  have h1 : E 0 = (1, 0) := by rw [key]; rfl
  have h2 : ∀ k, 1 ≤ k → E k = cr (1 / (k : Rat)) (esum b E k k) := fun k hk => by rw [key, if_neg (by omega)]
  refine ⟨E, h1, h2, fun k => ?_⟩
  rw [cv_noz (th_z b), esum_msum]
  by_cases e : k = 0
  · subst e
    rw [th_z]; rfl
  · have h3 := h2 k (by omega)
    have h4 := kpos (k := k) (by omega)
    generalize esum b E k k = S at *
    unfold th
    rw [h3]
    simp only [cr]
    exact ceq (by simp only; grind) (by simp only; grind)
theorem ex_root (a : Sq) (h0 : a 0 = (1, 0)) : ∃ R : Sq, R 0 = (1, 0) ∧ (∀ k, 1 ≤ k → R k = cr (1 / 2) (cs (a k) (msum R R k 1 (k - 1)))) ∧ ∀ k, cv R R k = a k := by
  have key := cov_eq (F := fun k f => if k = 0 then (1, 0) else cr (1 / 2) (cs (a k) (msum f f k 1 (k - 1)))) (fun k f g h => by
    by_cases e : k = 0
    · simp only [e, if_true]
    · simp only [e, if_false]
      rw [msum_congr (k - 1) (fun j hj => h _ (by omega)) (fun j hj => h _ (by omega))])
  generalize cov (fun k f => if k = 0 then (1, 0) else cr (1 / 2) (cs (a k) (msum f f k 1 (k - 1)))) = R at key
  have h1 : R 0 = (1, 0) := by rw [key]; rfl
  have h2 : ∀ k, 1 ≤ k → R k = cr (1 / 2) (cs (a k) (msum R R k 1 (k - 1))) := fun k hk => by rw [key, if_neg (by omega)]
  refine ⟨R, h1, h2, fun k => ?_⟩
  rw [cv_msum, msum_head, h1]
  by_cases e : k = 0
  · subst e
    rw [h1, h0]
    simp only [msum, ca, cm]
    exact ceq (by grind) (by grind)
  · have h3 := h2 k (by omega)
    obtain ⟨j, rfl⟩ : ∃ j, k = j + 1 := ⟨k - 1, by omega⟩
    rw [msum, show j + 1 - (1 + j) = 0 by omega, h1, show 1 + j = j + 1 by omega]
    rw [Nat.add_sub_cancel] at h3
    generalize msum R R (j + 1) 1 j = S at *
    rw [h3]
    simp only [ca, cm, cr, cs]
    exact ceq (by simp only; grind) (by simp only; grind)
/-- The slope. -/
def dS (a : Sq) : Sq := fun j => cr ((j + 1 : Nat) : Rat) (a (j + 1))
/-- What a logarithm's terms are. -/
def lgS (a I : Sq) : Sq := fun k => if k = 0 then (0, 0) else cr (1 / (k : Rat)) (cv (dS a) I (k - 1))
theorem th_lg (a I : Sq) (k : Nat) : th (lgS a I) k = cv (th a) I k := by
  cases k with
  | zero => rw [th_z, cv, th_z, cm_z]
  | succ k =>
    have h4 := kpos (k := k + 1) (by omega)
    rw [cv, th_z, cm_z, ca_z, show (fun i => th a (i + 1)) = dS a from rfl]
    unfold th lgS
    rw [if_neg (by omega), Nat.add_sub_cancel]
    generalize cv (dS a) I k = S
    simp only [cr]
    exact ceq (by simp only; grind) (by simp only; grind)
theorem cv_one' (g : Sq) (k : Nat) : cv g c1 k = g k := by rw [cv_comm, cv_one]
theorem th_inj {f g : Sq} {k : Nat} (hk : 1 ≤ k) (h : th f k = th g k) : f k = g k := by
  have h4 := kpos hk
  unfold th at h
  have i1 := congrArg Prod.fst h
  have i2 := congrArg Prod.snd h
  simp only at i1 i2
  generalize 1 / (k : Rat) = q at *
  generalize (k : Rat) = c at *
  exact ceq (by grind) (by grind)
theorem log_exp {b E J : Sq} (hb : b 0 = (0, 0)) (hE : ∀ k, th E k = cv (th b) E k) (hJ : ∀ k, cv E J k = c1 k) : ∀ k, lgS E J k = b k := fun k => by
  by_cases e : k = 0
  · subst e
    rw [hb]; rfl
  · refine th_inj (k := k) (by omega) ?_
    rw [th_lg, show th E = cv (th b) E from funext hE, cv_assoc, show cv E J = c1 from funext hJ, cv_one']
theorem th_uniq {Y H R : Sq} (h0 : H 0 = R 0) (hY : Y 0 = (0, 0)) (h1 : ∀ k, th H k = cv Y H k) (h2 : ∀ k, th R k = cv Y R k) : ∀ k, H k = R k := fun k => by
  induction k using Nat.strongRecOn with
  | _ k ih =>
    by_cases e : k = 0
    · rw [e, h0]
    · refine th_inj (k := k) (by omega) ?_
      rw [h1, h2, cv_noz hY, cv_noz hY]
      exact msum_congr k (fun _ _ => rfl) fun j hj => ih _ (by omega)
theorem cv_cr (c : Rat) (f g : Sq) (k : Nat) : cv (fun i => cr c (f i)) g k = cr c (cv f g k) := by
  have h := cv_cm (c, 0) k f g
  have e : ∀ x : Rat × Rat, cm (c, 0) x = cr c x := fun x => ceq (by simp only [cm, cr]; grind) (by simp only [cm, cr]; grind)
  simp only [e] at h
  exact h
/-- The root is what half the logarithm gives. -/
theorem half_root {a I R H : Sq} (hI : ∀ k, cv a I k = c1 k) (hR0 : R 0 = (1, 0)) (hR : ∀ k, cv R R k = a k) (hH0 : H 0 = (1, 0)) (hH : ∀ k, th H k = cv (th fun i => cr (1 / 2) (lgS a I i)) H k) : ∀ k, H k = R k := by
  refine th_uniq (by rw [hH0, hR0]) (th_z _) hH fun k => ?_
  have e1 : (th fun i => cr (1 / 2) (lgS a I i)) = fun k => cr (1 / 2) (cv (th a) I k) := funext fun i => by
    rw [← th_lg]
    unfold th
    simp only [cr]
    exact ceq (by simp only; grind) (by simp only; grind)
  have e2 : th a = fun k => cr 2 (cv (th R) R k) := funext fun i => by
    rw [show a = cv R R from funext fun k => (hR k).symm, th_cv, cv_comm i R (th R)]
    simp only [ca, cr]
    exact ceq (by simp only; grind) (by simp only; grind)
  have e3 : ∀ i, cv (th a) I i = cr 2 (cv (cv (th R) R) I i) := fun i => by rw [e2, cv_cr]
  have e4 : (fun k => cr (1 / 2) (cv (th a) I k)) = cv (cv (th R) R) I := funext fun i => by
    rw [e3]
    simp only [cr]
    exact ceq (by simp only; grind) (by simp only; grind)
  rw [e1, e4, cv_assoc, show cv I R = cv R I from funext fun i => cv_comm i I R, cv_assoc]
  have e5 : cv R (cv R I) = c1 := funext fun i => by rw [← cv_assoc, show cv R R = a from funext hR, hI]
  rw [e5, cv_one']
end Go.Proofs.Ytlilhebnbhlkhaa
