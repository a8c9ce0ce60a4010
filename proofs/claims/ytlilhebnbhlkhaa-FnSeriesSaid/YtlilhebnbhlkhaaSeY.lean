/-
  Series as words near exact ones: what each step asks of the bounds, and the words that it gives.
-/
import Derived.Test.YtlilhebnbhlkhaaSeX
import Derived.Test.YtlilhebnbhlkhaaSeG
namespace Go.Proofs.Ytlilhebnbhlkhaa
open Go.RowKit

def allN (n : Nat) (f : Nat → Bool) : Bool := (List.range n).all f
theorem allN_at {n : Nat} {f : Nat → Bool} (h : allN n f = true) {k : Nat} (hk : k < n) : f k = true := List.all_eq_true.1 h k (List.mem_range.2 hk)
def at2 (t : List (Rat × Rat)) (k : Nat) : Rat × Rat := t.getD k (0, 0)
/-- A list of words near exact numbers. -/
structure Near (u : Sq) (A : Bd2) (n : Nat) (a : List (Nat × Nat)) : Prop where
  len : a.length = n
  ap : ∀ k, k < n → Ap (u k) (A k) (a.getD k (0, 0))
theorem Near.ser {u : Sq} {A : Bd2} {n : Nat} {a : List (Nat × Nat)} (h : Near u A n a) (h1 : 1 ≤ n) (h2 : n ≤ 16) : Ser a n := ⟨h.len, h1, h2, by
  refine List.all_eq_true.2 fun x hx => ?_
  obtain ⟨i, hi, rfl⟩ := List.getElem_of_mem hx
  obtain ⟨k1, k2⟩ := (h.ap i (by have := h.len; omega)).fin
  rw [List.getD, List.getElem?_eq_getElem hi] at k1 k2
  unfold finCB
  rw [Bool.and_eq_true]
  exact ⟨k1, k2⟩⟩
theorem Near.congr {u v : Sq} {A : Bd2} {n : Nat} {a : List (Nat × Nat)} (h : Near u A n a) (e : ∀ k, k < n → u k = v k) : Near v A n a := ⟨h.len, fun k hk => by rw [← e k hk]; exact h.ap k hk⟩
def invOk (A T : Bd2) (n : Nat) : Bool := allN n fun k => if k = 0 then leB (r1 (1, 0)) (T 0) else okmix A T k 1 k && okB ((bmix A T k 1 k).1 + (bmix A T k 1 k).2) && okB ((r1 (bmix A T k 1 k)).1 + (r1 (bmix A T k 1 k)).2) && leB (r1 (r1 (bmix A T k 1 k))) (T k)
def expOk (A T : Bd2) (n : Nat) : Bool := allN n fun k => if k = 0 then leB (1, 0) (T 0) else okexp A T k k && okB (1 / (k : Rat) * ((bexp A T k k).1 + (bexp A T k k).2)) && leB (rp (1 / (k : Rat)) (bexp A T k k)) (T k)
def rootOk (A T : Bd2) (n : Nat) : Bool := allN n fun k => if k = 0 then leB (1, 0) (T 0) else okmix T T k 1 (k - 1) && okB ((A k).1 + (bmix T T k 1 (k - 1)).1 + ((A k).2 + (bmix T T k 1 (k - 1)).2)) && okB (1 / 2 * ((bp (A k) (bmix T T k 1 (k - 1))).1 + (bp (A k) (bmix T T k 1 (k - 1))).2)) && leB (rs (1 / 2) (bp (A k) (bmix T T k 1 (k - 1)))) (T k)
def mulOk (A B T : Bd2) (n : Nat) : Bool := allN n fun k => okmix A B k 0 (k + 1) && leB (bmix A B k 0 (k + 1)) (T k)
def slopeOk (A T : Bd2) (n : Nat) : Bool := allN n fun k => leB (0, 0) (T k) && (decide (n ≤ k + 1) || (okB (((k + 1 : Nat) : Rat) * ((A (k + 1)).1 + (A (k + 1)).2)) && leB (rs ((k + 1 : Nat) : Rat) (A (k + 1))) (T k)))
def riseOk (A T : Bd2) (n : Nat) : Bool := allN n fun k => if k = 0 then leB (0, 0) (T 0) else okB (1 / (k : Rat) * ((A (k - 1)).1 + (A (k - 1)).2)) && leB (rp (1 / (k : Rat)) (A (k - 1))) (T k)
def timOk (p : Rat × Rat) (A T : Bd2) (n : Nat) : Bool := allN n fun k => okB ((p.1 + p.2) * ((A k).1 + (A k).2)) && leB (bm p (A k)) (T k)
theorem nv_one32 : NV .f32 1065353216 1 := by
  have h : fin32B 1065353216 = true ∧ V32 1065353216 = 1 := by decide +kernel
  have := nv_of_fin h.1
  rwa [h.2] at this
theorem nv_half : NV .f32 1056964608 (1 / 2) := by
  have h : fin32B 1056964608 = true ∧ V32 1056964608 = 1 / 2 := by decide +kernel
  have := nv_of_fin h.1
  rwa [h.2] at this
theorem ap_one : Ap (1, 0) (1, 0) (1065353216, 0) := Ap.exact nv_one32 nv_zero (E2.real (by unfold Lm; constructor <;> grind))
theorem len_at {a : List (Nat × Nat)} {n k : Nat} (h : a.length = n) (hk : k < a.length) : k < n := by omega
section
variable {u v : Sq} {A B T : Bd2} {a b : List (Nat × Nat)} {n : Nat}
theorem inv_near {I : Sq} (ha : Near u A n a) (hn : n ≤ 7) (hn1 : 1 ≤ n) (h1 : I 0 = (1, 0)) (h2 : ∀ k, 1 ≤ k → I k = cs (0, 0) (msum u I k 1 k)) (hb : invOk A T 7 = true) : ∃ o, InvR a o ∧ Near I T n o := by
  obtain ⟨o, e1, e2⟩ := build (R := fun o k r => (k = 0 → quoW (1065353216, 0) (1065353216, 0) = some r) ∧ (1 ≤ k → ∃ s m, mixN a o k 1 k = some s ∧ minusW (0, 0) s = some m ∧ quoW m (1065353216, 0) = some r)) (Q := fun k r => Ap (I k) (T k) r) (n := n)
    (fun o k hl hk hq => by
      have hbk := allN_at hb (show k < 7 by omega)
      by_cases e : k = 0
      · subst e
        rw [if_pos rfl] at hbk
        obtain ⟨r, g, q⟩ := Ap.one ap_one nv_one32 (by decide +kernel)
        exact ⟨r, ⟨fun _ => g, fun h => absurd h (by omega)⟩, by rw [h1]; exact q.le hbk⟩
      · rw [if_neg e, Bool.and_eq_true, Bool.and_eq_true, Bool.and_eq_true] at hbk
        obtain ⟨⟨⟨b1, b2⟩, b3⟩, b4⟩ := hbk
        obtain ⟨s, g1, q1⟩ := mixN_ap (u := u) (v := I) (a := a) (b := o) k (fun j hj => ha.ap (1 + j) (by omega)) (fun j hj => hq _ (by omega)) b1
        obtain ⟨m, g2, q2⟩ := Ap.neg q1 b2
        obtain ⟨r, g3, q3⟩ := Ap.one q2 nv_one32 b3
        refine ⟨r, ⟨fun h => absurd h e, fun _ => ⟨s, m, g1, g2, g3⟩⟩, ?_⟩
        rw [h2 k (by omega)]
        exact q3.le b4)
    (fun o o' k r h hR => ⟨hR.1, fun hk => by
      obtain ⟨s, m, g1, g2, g3⟩ := hR.2 hk
      exact ⟨s, m, by rw [← g1]; exact (mixN_congr k (fun _ _ => rfl) (fun j hj => h _ (by omega))).symm, g2, g3⟩⟩) n (Nat.le_refl _)
  exact ⟨o, ⟨by rw [e1, ha.len], (e2 0 (by omega)).1.1 rfl, fun k hk1 hk => (e2 k (len_at e1 hk)).1.2 hk1⟩, e1, fun k hk => (e2 k hk).2⟩
theorem exp_near {E : Sq} (ha : Near u A n a) (hn : n ≤ 7) (hn1 : 1 ≤ n) (h1 : E 0 = (1, 0)) (h2 : ∀ k, 1 ≤ k → E k = cr (1 / (k : Rat)) (esum u E k k)) (hb : expOk A T 7 = true) : ∃ o, ExpR a o ∧ Near E T n o := by
  obtain ⟨o, e1, e2⟩ := build (R := fun o k r => (k = 0 → r = (1065353216, 0)) ∧ (1 ≤ k → ∃ s, expN a o k k = some s ∧ partW s k = some r)) (Q := fun k r => Ap (E k) (T k) r) (n := n)
    (fun o k hl hk hq => by
      have hbk := allN_at hb (show k < 7 by omega)
      by_cases e : k = 0
      · subst e
        rw [if_pos rfl] at hbk
        exact ⟨(1065353216, 0), ⟨fun _ => rfl, fun h => absurd h (by omega)⟩, by rw [h1]; exact ap_one.le hbk⟩
      · rw [if_neg e, Bool.and_eq_true, Bool.and_eq_true] at hbk
        obtain ⟨⟨b1, b2⟩, b3⟩ := hbk
        obtain ⟨s, g1, q1⟩ := expN_ap (u := u) (v := E) (a := a) (b := o) k (by omega) (fun j hj => ha.ap (j + 1) (by omega)) (fun j hj => hq _ (by omega)) b1
        have hp := kpos (k := k) (by omega)
        obtain ⟨r, g2, q2⟩ := Ap.part (q := 1 / (k : Rat)) q1 (fi_ok k (by omega)) (by
          have h3 : (1 : Rat) ≤ (k : Rat) := by exact_mod_cast (show 1 ≤ k by omega)
          rcases (show 0 ≤ 1 / (k : Rat) ∨ 0 < -(1 / (k : Rat)) by grind) with h | h
          · exact h
          · have := Rat.mul_pos (show (0 : Rat) < (k : Rat) by grind) h
            grind) (by grind) b2
        refine ⟨r, ⟨fun h => absurd h e, fun _ => ⟨s, g1, g2⟩⟩, ?_⟩
        rw [h2 k (by omega)]
        exact q2.le b3)
    (fun o o' k r h hR => ⟨hR.1, fun hk => by
      obtain ⟨s, g1, g2⟩ := hR.2 hk
      exact ⟨s, by rw [← g1]; exact (expN_congr k (fun j hj => h _ (by omega))).symm, g2⟩⟩) n (Nat.le_refl _)
  exact ⟨o, ⟨by rw [e1, ha.len], (e2 0 (by omega)).1.1 rfl, fun k hk1 hk => (e2 k (len_at e1 hk)).1.2 hk1⟩, e1, fun k hk => (e2 k hk).2⟩
theorem root_near {R : Sq} (ha : Near u A n a) (hn : n ≤ 7) (hn1 : 1 ≤ n) (h1 : R 0 = (1, 0)) (h2 : ∀ k, 1 ≤ k → R k = cr (1 / 2) (cs (u k) (msum R R k 1 (k - 1)))) (hb : rootOk A T 7 = true) : ∃ o, RootR a o ∧ Near R T n o := by
  obtain ⟨o, e1, e2⟩ := build (R := fun o k r => (k = 0 → r = (1065353216, 0)) ∧ (1 ≤ k → ∃ s d, mixN o o k 1 (k - 1) = some s ∧ minusW (a.getD k (0, 0)) s = some d ∧ scaleW d 1056964608 = some r)) (Q := fun k r => Ap (R k) (T k) r) (n := n)
    (fun o k hl hk hq => by
      have hbk := allN_at hb (show k < 7 by omega)
      by_cases e : k = 0
      · subst e
        rw [if_pos rfl] at hbk
        exact ⟨(1065353216, 0), ⟨fun _ => rfl, fun h => absurd h (by omega)⟩, by rw [h1]; exact ap_one.le hbk⟩
      · rw [if_neg e, Bool.and_eq_true, Bool.and_eq_true, Bool.and_eq_true] at hbk
        obtain ⟨⟨⟨b1, b2⟩, b3⟩, b4⟩ := hbk
        obtain ⟨s, g1, q1⟩ := mixN_ap (u := R) (v := R) (a := o) (b := o) (k - 1) (fun j hj => hq _ (by omega)) (fun j hj => hq _ (by omega)) b1
        obtain ⟨d, g2, q2⟩ := Ap.sub (ha.ap k hk) q1 b2
        obtain ⟨r, g3, q3⟩ := Ap.scale q2 nv_half (by grind) b3
        refine ⟨r, ⟨fun h => absurd h e, fun _ => ⟨s, d, g1, g2, g3⟩⟩, ?_⟩
        rw [h2 k (by omega)]
        exact q3.le b4)
    (fun o o' k r h hR => ⟨hR.1, fun hk => by
      obtain ⟨s, d, g1, g2, g3⟩ := hR.2 hk
      exact ⟨s, d, by rw [← g1]; exact (mixN_congr (k - 1) (fun j hj => h _ (by omega)) (fun j hj => h _ (by omega))).symm, g2, g3⟩⟩) n (Nat.le_refl _)
  exact ⟨o, ⟨by rw [e1, ha.len], (e2 0 (by omega)).1.1 rfl, fun k hk1 hk => (e2 k (len_at e1 hk)).1.2 hk1⟩, e1, fun k hk => (e2 k hk).2⟩
theorem mul_near (ha : Near u A n a) (hb' : Near v B n b) (hn : n ≤ 7) (hb : mulOk A B T 7 = true) : ∃ o, MulR a b o ∧ Near (cv u v) T n o := by
  obtain ⟨o, e1, e2⟩ := listF (Q := fun k r => mixN a b k 0 (k + 1) = some r ∧ Ap (cv u v k) (T k) r) n fun k hk => by
    have hbk := allN_at hb (show k < 7 by omega)
    rw [Bool.and_eq_true] at hbk
    obtain ⟨s, g1, q1⟩ := mixN_ap (u := u) (v := v) (a := a) (b := b) (k := k) (f := 0) (k + 1) (fun j hj => ha.ap _ (by omega)) (fun j hj => hb'.ap _ (by omega)) hbk.1
    rw [← cv_msum] at q1
    exact ⟨s, g1, q1.le hbk.2⟩
  exact ⟨o, ⟨by rw [e1, ha.len], fun k hk => (e2 k (len_at e1 hk)).1⟩, e1, fun k hk => (e2 k hk).2⟩
/-- The slope of a series of n terms: a zero behind it. -/
def dN (n : Nat) (u : Sq) : Sq := fun k => if k + 1 < n then dS u k else (0, 0)
theorem slope_near (ha : Near u A n a) (hn : n ≤ 7) (hn1 : 1 ≤ n) (hb : slopeOk A T 7 = true) : ∃ o, SlopeR a o ∧ Near (dN n u) T n o := by
  obtain ⟨o, e1, e2⟩ := listF (Q := fun k r => (k + 1 < n → scaleW (a.getD (k + 1) (0, 0)) (floatOfInt .f32 ((k + 1 : Nat) : Int)) = some r) ∧ (¬ k + 1 < n → r = (0, 0)) ∧ Ap (dN n u k) (T k) r) n fun k hk => by
    have hbk := allN_at hb (show k < 7 by omega)
    rw [Bool.and_eq_true, Bool.or_eq_true, decide_eq_true_eq] at hbk
    obtain ⟨b1, b2⟩ := hbk
    unfold dN
    by_cases e : k + 1 < n
    · rcases b2 with b2 | b2
      · omega
      · rw [Bool.and_eq_true] at b2
        obtain ⟨r, g, q⟩ := Ap.scale (ha.ap (k + 1) e) (fi_ok (k + 1) (by omega)) (by exact_mod_cast Nat.zero_le (k + 1)) b2.1
        exact ⟨r, fun _ => g, fun h => absurd e h, by rw [if_pos e]; exact q.le b2.2⟩
    · exact ⟨(0, 0), fun h => absurd h e, fun _ => rfl, by rw [if_neg e]; exact Ap.zero.le b1⟩
  exact ⟨o, ⟨by rw [e1, ha.len], fun k hk => (e2 k (by omega)).1 (by omega), by rw [e1]; exact (e2 (n - 1) (by omega)).2.1 (by omega)⟩, e1, fun k hk => (e2 k hk).2.2⟩
/-- The rise. -/
def riS (u : Sq) : Sq := fun k => if k = 0 then (0, 0) else cr (1 / (k : Rat)) (u (k - 1))
theorem inv_pos {k : Nat} (h : 1 ≤ k) : 0 ≤ 1 / (k : Rat) := by
  have hp := kpos h
  have h3 : (1 : Rat) ≤ (k : Rat) := by exact_mod_cast h
  rcases (show 0 ≤ 1 / (k : Rat) ∨ 0 < -(1 / (k : Rat)) by grind) with h | h
  · exact h
  · have := Rat.mul_pos (show (0 : Rat) < (k : Rat) by grind) h
    grind
theorem rise_near (ha : Near u A n a) (hn : n ≤ 7) (hn1 : 1 ≤ n) (hb : riseOk A T 7 = true) : ∃ o, RiseR a o ∧ Near (riS u) T n o := by
  obtain ⟨o, e1, e2⟩ := listF (Q := fun k r => (k = 0 → r = (0, 0)) ∧ (1 ≤ k → partW (a.getD (k - 1) (0, 0)) k = some r) ∧ Ap (riS u k) (T k) r) n fun k hk => by
    have hbk := allN_at hb (show k < 7 by omega)
    unfold riS
    by_cases e : k = 0
    · rw [if_pos e] at hbk ⊢
      subst e
      exact ⟨(0, 0), fun _ => rfl, fun h => absurd h (by omega), Ap.zero.le hbk⟩
    · rw [if_neg e, Bool.and_eq_true] at hbk
      have hp := kpos (k := k) (by omega)
      obtain ⟨r, g, q⟩ := Ap.part (q := 1 / (k : Rat)) (ha.ap (k - 1) (by omega)) (fi_ok k (by omega)) (inv_pos (by omega)) (by grind) hbk.1
      exact ⟨r, fun h => absurd h e, fun _ => g, by rw [if_neg e]; exact q.le hbk.2⟩
  exact ⟨o, ⟨by rw [e1, ha.len], (e2 0 (by omega)).1 rfl, fun k hk1 hk => (e2 k (len_at e1 hk)).2.1 hk1⟩, e1, fun k hk => (e2 k hk).2.2⟩
theorem tim_near {p : Rat × Rat} {P : Rat × Rat} {z : Nat × Nat} (hp : Ap p P z) (ha : Near u A n a) (hn : n ≤ 7) (hb : timOk P A T 7 = true) : ∃ o, TimR z a o ∧ Near (fun k => cm p (u k)) T n o := by
  obtain ⟨o, e1, e2⟩ := listF (Q := fun k r => mulW z (a.getD k (0, 0)) = some r ∧ Ap (cm p (u k)) (T k) r) n fun k hk => by
    have hbk := allN_at hb (show k < 7 by omega)
    rw [Bool.and_eq_true] at hbk
    obtain ⟨r, g, q⟩ := Ap.mul hp (ha.ap k hk) hbk.1
    exact ⟨r, g, q.le hbk.2⟩
  exact ⟨o, ⟨by rw [e1, ha.len], fun k hk => (e2 k (len_at e1 hk)).1⟩, e1, fun k hk => (e2 k hk).2⟩
end
end Go.Proofs.Ytlilhebnbhlkhaa
