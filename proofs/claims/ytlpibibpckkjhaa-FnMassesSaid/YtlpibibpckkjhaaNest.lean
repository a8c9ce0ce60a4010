/-
  A polynomial's value at a real number by values (impl.nested, impl.PolyAt; impl.finite, impl.checked).
-/
import Derived.Test.YtlpibibpckkjhaaSqrt
import Derived.Test.YtlpibibpckkjhaaPoOf
namespace Go.Proofs.Ytlpibibpckkjhaa
open Go.RowKit

theorem small_mul {d x e : Rat} (h1 : -e ≤ d) (h2 : d ≤ e) (h3 : -1 ≤ x) (h4 : x ≤ 1) : -e ≤ d * x ∧ d * x ≤ e := by
  have a1 := Rat.mul_nonneg (show (0 : Rat) ≤ e - d by grind) (show (0 : Rat) ≤ 1 + x by grind)
  have a2 := Rat.mul_nonneg (show (0 : Rat) ≤ e + d by grind) (show (0 : Rat) ≤ 1 - x by grind)
  have a3 := Rat.mul_nonneg (show (0 : Rat) ≤ e - d by grind) (show (0 : Rat) ≤ 1 - x by grind)
  have a4 := Rat.mul_nonneg (show (0 : Rat) ≤ e + d by grind) (show (0 : Rat) ≤ 1 + x by grind)
  constructor <;> grind
/-- The value from the top down, j terms taken besides the last. -/
def hor (f : Nat → Rat) (x : Rat) (n : Nat) : Nat → Rat
  | 0 => f (n - 1)
  | j + 1 => hor f x n j * x + f (n - 2 - j)
theorem hor_bd {f : Nat → Rat} {x C : Rat} {n : Nat} (hf : ∀ k, k < n → -C ≤ f k ∧ f k ≤ C) (h3 : -1 ≤ x) (h4 : x ≤ 1) : ∀ j, j < n → -(C * ((j + 1 : Nat) : Rat)) ≤ hor f x n j ∧ hor f x n j ≤ C * ((j + 1 : Nat) : Rat)
  | 0, hj => by
    have := hf (n - 1) (by omega)
    have e : ((0 + 1 : Nat) : Rat) = 1 := rfl
    rw [e]
    unfold hor
    grind
  | j + 1, hj => by
    have ih := hor_bd hf h3 h4 j (by omega)
    have h5 := small_mul ih.1 ih.2 h3 h4
    have h6 := hf (n - 2 - j) (by omega)
    have e : ((j + 1 + 1 : Nat) : Rat) = ((j + 1 : Nat) : Rat) + 1 := by rw [Rat.natCast_add (j + 1) 1]; rfl
    rw [e]
    unfold hor
    grind
theorem nv_zero : NV .f32 0 0 := ⟨false, 0, -149, by decide +kernel, by simp [sg]⟩
/-- Terms as values. -/
def Trms (l : List (Nat × Nat)) (re im : Nat → Rat) (C : Rat) : Prop := ∀ k, k < l.length → NV .f32 (l.getD k (0, 0)).1 (re k) ∧ NV .f32 (l.getD k (0, 0)).2 (im k) ∧ (-C ≤ re k ∧ re k ≤ C) ∧ (-C ≤ im k ∧ im k ≤ C)

theorem nest_step {p q x c1 c2 : Nat} {π κ ξ a b h g e : Rat} (hp : NV .f32 p π) (hq : NV .f32 q κ) (hx : NV .f32 x ξ) (h3 : -1 ≤ ξ) (h4 : ξ ≤ 1) (ha : NV .f32 c1 a) (hb : NV .f32 c2 b) (a1 : -5 ≤ a ∧ a ≤ 5) (b1 : -5 ≤ b ∧ b ≤ 5)
    (hh : -50 ≤ h ∧ h ≤ 50) (hg : -50 ≤ g ∧ g ≤ 50) (e1 : Nr π h e) (e2 : Nr κ g e) (he : e ≤ 1) :
    ∃ p' q' r s π' κ', NV .f32 r π' ∧ NV .f32 s κ' ∧ Nr π' (h * ξ + a) (e + 1 / 100000) ∧ Nr κ' (g * ξ + b) (e + 1 / 100000) ∧
      (∀ w, Calls Try.prog 58 #[.complex .f32 p q, .complex .f32 x 0] w fun e w' => e = .returned (.complex .f32 p' q') ∧ w' = w) ∧
      (∀ w, Calls Try.prog 57 #[.complex .f32 p' q', .complex .f32 c1 c2] w fun e w' => e = .returned (.complex .f32 r s) ∧ w' = w) := by
  unfold Nr at e1 e2
  have d1 := small_mul (d := π - h) (e := e) (by grind) (by grind) h3 h4
  have d2 := small_mul (d := κ - g) (e := e) (by grind) (by grind) h3 h4
  have d3 := small_mul hh.1 hh.2 h3 h4
  have d4 := small_mul hg.1 hg.2 h3 h4
  have z1 : π * 0 = 0 := by grind
  have z2 : κ * 0 = 0 := by grind
  obtain ⟨p', q', μ, ν, n1, n2, f1, f2, HM⟩ := mulC_v hp hq hx nv_zero (by unfold Bd; grind) (by unfold Bd; grind) (by unfold Bd; grind) (by unfold Bd; grind)
  unfold Nr at f1 f2
  obtain ⟨r, s, π', κ', n3, n4, f3, f4, HP⟩ := plus_v n1 n2 ha hb (by unfold Bd; grind) (by unfold Bd; grind)
  unfold Nr at f3 f4
  exact ⟨p', q', r, s, π', κ', n3, n4, by unfold Nr; grind, by unfold Nr; grind, HM, HP⟩

set_option maxRecDepth 100000 in
set_option maxHeartbeats 800000 in
theorem nested_v (n x : Nat) (l : List (Nat × Nat)) (hl : l.length = n) (re im : Nat → Rat) (ξ : Rat) (hT : Trms l re im 5) (hx : NV .f32 x ξ) (h3 : -1 ≤ ξ) (h4 : ξ ≤ 1) (hn1 : 1 ≤ n) (hn : n ≤ 10) :
    ∃ r s π κ, NV .f32 r π ∧ NV .f32 s κ ∧ Nr π (hor re ξ n (n - 1)) (1 / 10000) ∧ Nr κ (hor im ξ n (n - 1)) (1 / 10000) ∧
      ∀ (A : Option Addr) (c B : Nat) w, Reads w B 1 A n (cplx l) → Calls Try.prog 53 #[.slice A n c, .complex .f32 x 0] w fun e w' => e = .returned (.complex .f32 r s) ∧ ∃ m, w' = w.drewN m := by
  -- the steps, one after another
  have key : ∀ j, j < n → ∃ P Q : Nat → Nat, P 0 = (l.getD (n - 1) (0, 0)).1 ∧ Q 0 = (l.getD (n - 1) (0, 0)).2 ∧
      (∀ i, i ≤ j → ∃ π κ, NV .f32 (P i) π ∧ NV .f32 (Q i) κ ∧ Nr π (hor re ξ n i) (((i : Nat) : Rat) * (1 / 100000)) ∧ Nr κ (hor im ξ n i) (((i : Nat) : Rat) * (1 / 100000))) ∧
      (∀ i, i < j → ∃ p' q', (∀ w, Calls Try.prog 58 #[.complex .f32 (P i) (Q i), .complex .f32 x 0] w fun e w' => e = .returned (.complex .f32 p' q') ∧ w' = w) ∧
        (∀ w, Calls Try.prog 57 #[.complex .f32 p' q', .complex .f32 (l.getD (n - 2 - i) (0, 0)).1 (l.getD (n - 2 - i) (0, 0)).2] w fun e w' => e = .returned (.complex .f32 (P (i + 1)) (Q (i + 1))) ∧ w' = w)) := by
    intro j
    induction j with
    | zero =>
      intro _
      obtain ⟨t1, t2, -, -⟩ := hT (n - 1) (by omega)
      refine ⟨fun _ => (l.getD (n - 1) (0, 0)).1, fun _ => (l.getD (n - 1) (0, 0)).2, rfl, rfl, fun i hi => ?_, fun i hi => absurd hi (Nat.not_lt_zero _)⟩
      obtain rfl : i = 0 := by omega
      have e0 : ((0 : Nat) : Rat) = 0 := rfl
      refine ⟨_, _, t1, t2, ?_, ?_⟩
      · unfold Nr hor; rw [e0]; grind
      · unfold Nr hor; rw [e0]; grind
    | succ j ih =>
      intro hj
      obtain ⟨P, Q, hP0, hQ0, hv, hs⟩ := ih (by omega)
      obtain ⟨π, κ, v1, v2, v3, v4⟩ := hv j (Nat.le_refl _)
      obtain ⟨t1, t2, t3, t4⟩ := hT (n - 2 - j) (by omega)
      have bb := hor_bd (C := 5) (fun k hk => (hT k (by omega)).2.2.1) h3 h4 j (by omega)
      have bb2 := hor_bd (C := 5) (fun k hk => (hT k (by omega)).2.2.2) h3 h4 j (by omega)
      have hj10 : ((j + 1 : Nat) : Rat) ≤ 10 := by
        have : ((j + 1 : Nat) : Rat) ≤ ((10 : Nat) : Rat) := Rat.natCast_le_natCast.2 (by omega)
        exact this
      have hjj : ((j : Nat) : Rat) ≤ 10 := by
        have : ((j : Nat) : Rat) ≤ ((10 : Nat) : Rat) := Rat.natCast_le_natCast.2 (by omega)
        exact this
      obtain ⟨p', q', r, s, π', κ', m1, m2, m3, m4, HM, HP⟩ := nest_step v1 v2 hx h3 h4 t1 t2 t3 t4 (by grind) (by grind) v3 v4 (by grind)
      have ej : ((j + 1 : Nat) : Rat) = ((j : Nat) : Rat) + 1 := by rw [Rat.natCast_add j 1]; rfl
      have eE : ((j : Nat) : Rat) * (1 / 100000) + 1 / 100000 = ((j + 1 : Nat) : Rat) * (1 / 100000) := by rw [ej]; grind
      rw [eE] at m3 m4
      refine ⟨fun i => if i = j + 1 then r else P i, fun i => if i = j + 1 then s else Q i, ?_, ?_, fun i hi => ?_, fun i hi => ?_⟩
      · simp only [show ¬ (0 = j + 1) by omega, if_false]; exact hP0
      · simp only [show ¬ (0 = j + 1) by omega, if_false]; exact hQ0
      · by_cases e : i = j + 1
        · subst e
          simp only [if_true]
          exact ⟨π', κ', m1, m2, m3, m4⟩
        · simp only [e, if_false]
          exact hv i (by omega)
      · by_cases e : i = j
        · subst e
          simp only [show ¬ (i = i + 1) by omega, if_false, if_true]
          exact ⟨p', q', HM, HP⟩
        · simp only [show ¬ (i = j + 1) by omega, show ¬ (i + 1 = j + 1) by omega, if_false]
          exact hs i (by omega)
  obtain ⟨P, Q, hP0, hQ0, hv, hs⟩ := key (n - 1) (by omega)
  obtain ⟨π, κ, v1, v2, v3, v4⟩ := hv (n - 1) (Nat.le_refl _)
  have hn10 : ((n - 1 : Nat) : Rat) ≤ 10 := by
    have : ((n - 1 : Nat) : Rat) ≤ ((10 : Nat) : Rat) := Rat.natCast_le_natCast.2 (by omega)
    exact this
  refine ⟨P (n - 1), Q (n - 1), π, κ, v1, v2, by unfold Nr at *; grind, by unfold Nr at *; grind, fun A c B w hr => ?_⟩
  replace hs := Lib.hid hs
  clear key hv v1 v2 v3 v4 hn10 hT hx h3 h4
  have hk1 : (n : Int) - 1 = ((n - 1 : Nat) : Int) := by omega
  obtain ⟨ad, rfl, hab, hc0⟩ := comp_at (k := n - 1) (by rw [hl]; exact hr) (by omega)
  rw [← hP0, ← hQ0] at hc0
  obtain ⟨N, hN⟩ : ∃ N, N = n - 1 := ⟨_, rfl⟩
  rw [← hN] at hc0 hk1 hs ⊢
  have hnN : n = N + 1 := by omega
  replace hN := Lib.hid hN
  clear hP0 hQ0
  subst hnN
  go_enter Try.func53, Try.ntmps53
  go_wp2
  go_loopw [6, 7] (fun v q wr => ∃ j k : Nat, j ≤ N ∧ Hid (k + j = N) ∧ q = .int .i64 ((k : Int) - 1) ∧ v = .complex .f32 (P j) (Q j) ∧ ∃ m, wr = w.drewN m) (fun _ q _ => (intOf q + 1).toNat)
  case atStart => exact ⟨0, N, Nat.zero_le _, rfl, by go_num, rfl, 0, rfl⟩
  case round =>
    obtain ⟨j, k, hj, hjk, rfl, rfl, m, hW0⟩ := hrel
    by_cases hlt : 1 ≤ k
    · obtain ⟨i, hi⟩ : ∃ i, k = i + 1 := ⟨k - 1, by omega⟩
      subst hi
      have hij : i + 1 + j = N := hjk.out
      obtain ⟨p', q', HM, HP⟩ := hs.out j (by omega)
      have hix : N + 1 - 2 - j = i := by omega
      rw [hix] at HP
      obtain ⟨ad', e, -, hc1⟩ := comp_at (k := i) (by rw [hl]; exact hr) (by omega)
      cases e
      have hc1' : wr.cell? (ad.add i) = some (.complex .f32 (l.getD i (0, 0)).1 (l.getD i (0, 0)).2) := by rw [hW0]; exact hc1
      have hW := Lib.hid hW0
      have HMH := Lib.hid HM
      have HPH := Lib.hid HP
      have hb1 : (i : Int) < (N : Int) + 1 := by omega
      have hb0 : (0 : Int) ≤ (i : Int) := by omega
      have hz : ((i + 1 : Nat) : Int) - 1 = (i : Int) := by omega
      rw [hz]
      clear hW0 HM HP hc1 hr hc0 hix hz hjk
      generalize (l.getD i (0, 0)).1 = c1 at *
      generalize (l.getD i (0, 0)).2 = c2 at *
      replace hij := Lib.hid hij
      go_wp2_with fail
      go_quiet ((first | (go_at_call 58; exact Calls.quiet_of_same (HMH.out _)) | (go_at_call 57; exact Calls.quiet_of_same (HPH.out _))))
      go_wp2
      exact ⟨⟨j + 1, i, by have := hij.out; omega, (by have := hij.out; show _ = _; omega), by go_num, rfl, m + nq, by rw [hW.out, World.drewN_drewN]⟩, (by simp [intOf]; all_goals omega)⟩
    · obtain rfl : k = 0 := by omega
      have hjN : j = N := by have := hjk.out; omega
      subst hjN
      go_wp2
      go_ret
      exact ⟨rfl, m, rfl⟩

theorem finite_v {x1 x2 : Nat} (h1 : fin32B x1 = true) (h2 : fin32B x2 = true) (w : World) :
    Calls Try.prog 52 #[.complex .f32 x1 x2] w fun e w' => e = .returned (.tuple #[.complex .f32 x1 x2, .bool true]) ∧ Below w.heap.size w w' := by
  have H := isFiniteC_b x1 x2 w
  have hF : finCB (x1, x2) = true := by unfold finCB; rw [h1, h2]; rfl
  rw [hF] at H
  clear h1 h2 hF
  go_enter Try.func52, Try.ntmps52
  go_wp2_with fail
  refine H.mono ?_
  rintro e w1 ⟨rfl, hb⟩
  go_wp2
  go_ret2
  exact ⟨rfl, hb⟩
theorem checked_v {x : Nat} (h1 : fin32B x = true) (w : World) :
    Calls Try.prog 46 #[.float .f32 x] w fun e w' => e = .returned (.tuple #[.float .f32 x, .bool true]) ∧ Below w.heap.size w w' := by
  have H := isFinite_b x w
  rw [h1] at H
  clear h1
  go_enter Try.func46, Try.ntmps46
  go_wp2_with fail
  refine H.mono ?_
  rintro e w1 ⟨rfl, hb⟩
  go_wp2
  go_ret2
  exact ⟨rfl, hb⟩
theorem comp_one (w : World) (x y : Nat) : Reads (w.alloc (.cells #[.complex .f32 x y] 36)) (w.heap.size + 1) 1 (some ⟨w.heap.size, 0, none⟩) [(x, y)].length (cplx [(x, y)]) := by
  have h := reads_new w [.complex .f32 x y] 36
  simpa [cplx] using h
set_option maxRecDepth 100000 in
set_option maxHeartbeats 800000 in
theorem polyAt_v (n x : Nat) (l : List (Nat × Nat)) (hl : l.length = n) (re im : Nat → Rat) (ξ : Rat) (hT : Trms l re im 5) (hx : NV .f32 x ξ) (h3 : -1 ≤ ξ) (h4 : ξ ≤ 1) (hn1 : 1 ≤ n) (hn : n ≤ 10) (hv : polyB l = true) :
    ∃ r s π κ, NV .f32 r π ∧ NV .f32 s κ ∧ Nr π (hor re ξ n (n - 1)) (1 / 10000) ∧ Nr κ (hor im ξ n (n - 1)) (1 / 10000) ∧
      ∀ (A : Option Addr) (c : Nat) w, Reads w w.heap.size 1 A n (cplx l) → Calls Try.prog 11 #[.agg #[.slice A n c], .complex .f32 x 0] w fun e w' => e = .returned (.tuple #[.complex .f32 r s, .bool true]) ∧ Below w.heap.size w w' := by
  obtain ⟨r, s, π, κ, v1, v2, v3, v4, HN⟩ := nested_v n x l hl re im ξ hT hx h3 h4 hn1 hn
  refine ⟨r, s, π, κ, v1, v2, v3, v4, fun A c w hr => ?_⟩
  have hfx := nv_fin hx
  have HF := finite_v (nv_fin v1) (nv_fin v2)
  subst hl
  have hb1 : Below w.heap.size w (w.alloc (.cells #[.slice A l.length c] 33)) := (Below.refl _ _).alloc (Nat.le_refl _) _
  have hP1 := Blk.new w 33 #[.slice A l.length c]
  have HV := validPoly_b A c w.heap.size l _ (hr.below hb1) hb1.size (by omega)
  rw [hv] at HV
  have HA := fun W => allFinite_b (some ⟨W.heap.size, 0, none⟩) 1 (W.heap.size + 1) [(x, 0)] (W.alloc (.cells #[.complex .f32 x 0] 36)) (comp_one W x 0) (by simp) (by simp)
  have hfa : [(x, 0)].all finCB = true := by
    have h0 := nv_fin nv_zero
    simp [finCB, hfx, h0]
  simp only [hfa] at HA
  clear hT hx h3 h4 v1 v2 v3 v4 hfx hfa hv
  go_enter Try.func11, Try.ntmps11
  go_wp2_with fail
  (with_reducible refine HV.mono ?_)
  rintro e w1 ⟨rfl, hb2⟩
  clear HV
  have z2 := hb2.size
  simp only [World.size_alloc] at z2
  have hP2 := hP1.below hb2 (by simp)
  have hb3 := hb1.trans (hb2.mono (by simp))
  clear hP1 hb1 hb2
  have hb4 : Below w1.heap.size w1 (w1.alloc (.cells #[.complex .f32 x 0] 36)) := (Below.refl _ _).alloc (Nat.le_refl _) _
  have hP3 := hP2.below hb4 (by omega)
  have z4 := hb4.size
  have hb5 := hb3.trans (hb4.mono (by omega))
  go_wp2_with fail
  refine (HA w1).mono ?_
  rintro e w2 ⟨rfl, hb6⟩
  clear HA
  have z6 := hb6.size
  have hP4 := hP3.below hb6 (by omega)
  have hb7 := hb5.trans (hb6.mono (by omega))
  clear hP2 hP3 hb3 hb4 hb5 hb6
  have cP : w2.cell? ⟨w.heap.size, 0, none⟩ = some (.slice A l.length c) := hP4.cell 0
  have HN2 := HN A c w.heap.size w2 (hr.below hb7)
  go_wp2_with fail
  (with_reducible refine HN2.mono ?_)
  rintro e w3 ⟨rfl, m, rfl⟩
  clear HN2 HN
  have hb8 := below_drewN hb7 m
  have z8 := hb8.size
  go_wp2_with fail
  refine (HF _).mono ?_
  rintro e w4 ⟨rfl, hb9⟩
  go_wp2
  go_ret2
  exact ⟨rfl, hb8.trans (hb9.mono (by omega))⟩
end Go.Proofs.Ytlpibibpckkjhaa
