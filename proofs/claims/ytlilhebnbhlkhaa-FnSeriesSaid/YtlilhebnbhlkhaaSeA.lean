/-
  Sequences of complex numbers, their products; the exact inverse, exponential, logarithm and root.
-/
import Derived.Test.YtlilhebnbhlkhaaQd
namespace Go.Proofs.Ytlilhebnbhlkhaa
open Go.RowKit

def cm (x y : Rat × Rat) : Rat × Rat := (x.1 * y.1 - x.2 * y.2, x.1 * y.2 + x.2 * y.1)
def ca (x y : Rat × Rat) : Rat × Rat := (x.1 + y.1, x.2 + y.2)
def cs (x y : Rat × Rat) : Rat × Rat := (x.1 - y.1, x.2 - y.2)
def cr (c : Rat) (x : Rat × Rat) : Rat × Rat := (c * x.1, c * x.2)
abbrev Sq := Nat → Rat × Rat
/-- The product of sequences. -/
def cv (f g : Sq) : Sq
  | 0 => cm (f 0) (g 0)
  | k + 1 => ca (cm (f 0) (g (k + 1))) (cv (fun i => f (i + 1)) g k)
theorem ceq {x y : Rat × Rat} (h1 : x.1 = y.1) (h2 : x.2 = y.2) : x = y := Prod.ext h1 h2
theorem cv_congr : ∀ (k : Nat) (f g f' g' : Sq), (∀ i, i ≤ k → f i = f' i) → (∀ i, i ≤ k → g i = g' i) → cv f g k = cv f' g' k
  | 0, f, g, f', g', h1, h2 => by rw [cv, cv, h1 0 (Nat.le_refl _), h2 0 (Nat.le_refl _)]
  | k + 1, f, g, f', g', h1, h2 => by
    rw [cv, cv, h1 0 (by omega), h2 (k + 1) (Nat.le_refl _), cv_congr k _ g _ g' (fun i hi => h1 (i + 1) (by omega)) (fun i hi => h2 i (by omega))]
theorem cv_ca : ∀ (k : Nat) (f f' g : Sq), cv (fun i => ca (f i) (f' i)) g k = ca (cv f g k) (cv f' g k)
  | 0, f, f', g => by
    simp only [cv, cm, ca]
    exact ceq (by grind) (by grind)
  | k + 1, f, f', g => by
    rw [cv, cv, cv, cv_ca k]
    simp only [cm, ca]
    exact ceq (by grind) (by grind)
theorem cv_cm (c : Rat × Rat) : ∀ (k : Nat) (f g : Sq), cv (fun i => cm c (f i)) g k = cm c (cv f g k)
  | 0, f, g => by
    simp only [cv, cm]
    exact ceq (by grind) (by grind)
  | k + 1, f, g => by
    rw [cv, cv, cv_cm c k]
    simp only [cm, ca]
    exact ceq (by grind) (by grind)
theorem cv_assoc : ∀ (k : Nat) (f g h : Sq), cv (cv f g) h k = cv f (cv g h) k
  | 0, f, g, h => by
    simp only [cv, cm]
    exact ceq (by grind) (by grind)
  | k + 1, f, g, h => by
    have e : (fun i => cv f g (i + 1)) = fun i => ca (cm (f 0) (g (i + 1))) (cv (fun i => f (i + 1)) g i) := rfl
    rw [cv, e, cv_ca, cv_cm, cv_assoc k]
    simp only [cv]
    generalize cv (fun i => f (i + 1)) (cv g h) k = X
    generalize cv (fun i => g (i + 1)) h k = Y
    simp only [cm, ca]
    exact ceq (by grind) (by grind)
theorem cv_last : ∀ (k : Nat) (f g : Sq), cv f g (k + 1) = ca (cv f (fun i => g (i + 1)) k) (cm (f (k + 1)) (g 0))
  | 0, f, g => by
    simp only [cv, cm, ca]
  | k + 1, f, g => by
    rw [cv, cv_last k, cv]
    simp only [cm, ca]
    exact ceq (by grind) (by grind)
theorem cm_comm (x y : Rat × Rat) : cm x y = cm y x := ceq (by simp only [cm]; grind) (by simp only [cm]; grind)
theorem cv_comm : ∀ (k : Nat) (f g : Sq), cv f g k = cv g f k
  | 0, f, g => by rw [cv, cv, cm_comm]
  | k + 1, f, g => by
    rw [cv, cv_last, cv_comm k, cm_comm (g (k + 1))]
    simp only [ca]
    exact ceq (by grind) (by grind)
/-- The sequence 1, 0, 0, .. -/
def c1 : Sq := fun k => if k = 0 then (1, 0) else (0, 0)
theorem cv_zero (g : Sq) : ∀ k, cv (fun _ => (0, 0)) g k = (0, 0)
  | 0 => by
    simp only [cv, cm]
    exact ceq (by grind) (by grind)
  | k + 1 => by
    rw [cv, cv_zero g k]
    simp only [cm, ca]
    exact ceq (by grind) (by grind)
theorem cv_one (g : Sq) (k : Nat) : cv c1 g k = g k := by
  cases k with
  | zero =>
    simp only [cv, cm, c1, if_pos]
    exact ceq (by grind) (by grind)
  | succ k =>
    rw [cv, show (fun i => c1 (i + 1)) = fun _ => ((0 : Rat), (0 : Rat)) from funext fun i => rfl, cv_zero]
    simp only [cm, ca, c1, if_pos]
    exact ceq (by grind) (by grind)
/-- Each term times its index. -/
def th (f : Sq) : Sq := fun k => ((k : Rat) * (f k).1, (k : Rat) * (f k).2)
theorem th_cv : ∀ (k : Nat) (f g : Sq), th (cv f g) k = ca (cv (th f) g k) (cv f (th g) k)
  | 0, f, g => by
    simp only [th, cv, cm, ca]
    rw [show ((0 : Nat) : Rat) = 0 from rfl]
    exact ceq (by grind) (by grind)
  | k + 1, f, g => by
    have ih := th_cv k (fun i => f (i + 1)) g
    have e : (fun i => th f (i + 1)) = fun i => ca (th (fun i => f (i + 1)) i) (f (i + 1)) := funext fun i => by
      simp only [th, ca]
      push_cast
      exact ceq (by grind) (by grind)
    have e2 : cv (th f) g (k + 1) = ca (cv (th fun i => f (i + 1)) g k) (cv (fun i => f (i + 1)) g k) := by
      rw [cv, e, cv_ca]
      simp only [th, cm, ca]
      rw [show ((0 : Nat) : Rat) = 0 from rfl]
      exact ceq (by grind) (by grind)
    rw [e2]
    have i1 := congrArg Prod.fst ih
    have i2 := congrArg Prod.snd ih
    clear ih e e2
    simp only [th, cv, cm, ca] at i1 i2 ⊢
    push_cast
    exact ceq (by grind) (by grind)
end Go.Proofs.Ytlilhebnbhlkhaa
