/-
  The length of a complex number by values (impl.power, math.Sqrt, impl.LongOf): not below 0 and not too great, nearly.
-/
import Derived.Test.YtlpibibpckkjhaaLeaf
namespace Go.Proofs.Ytlpibibpckkjhaa
open Go.RowKit

theorem rootFrom_le (n : Nat) : ∀ (todo root : Nat), root * root ≤ n → Ieee.Datum.rootFrom n todo root * Ieee.Datum.rootFrom n todo root ≤ n
  | 0, root, h => by unfold Ieee.Datum.rootFrom; exact h
  | todo + 1, root, h => by
    unfold Ieee.Datum.rootFrom
    refine rootFrom_le n todo _ ?_
    split
    · assumption
    · exact h
theorem sqrt_ok {x : Nat} {a B : Rat} (hx : NV .f64 x a) (ha : 0 ≤ a) (hB : 0 < B) (hB2 : B < 127) (h : 9 * a ≤ 4 * (B * B)) : ∃ r c, FloatKind.f64.format.sqrt x = some r ∧ NV .f64 r c ∧ 0 - 1 / 1000000000000 ≤ c ∧ c ≤ B + 1 / 1000000000000 := by
  obtain ⟨s, m, i, ex, ev⟩ := hx
  -- whatever datum the root is: rounded
  have fin : ∀ (s' : Bool) (m' : Nat) (i' : Int), (FloatKind.f64.format.read x).root (FloatKind.f64.format.fractionBits + 2) = some (.number s' m' i') → 0 ≤ (sg s' m' : Rat) * (2 : Rat) ^ i' → (sg s' m' : Rat) * (2 : Rat) ^ i' ≤ B → ∃ r c, FloatKind.f64.format.sqrt x = some r ∧ NV .f64 r c ∧ 0 - 1 / 1000000000000 ≤ c ∧ c ≤ B + 1 / 1000000000000 := by
    intro s' m' i' he h1 h2
    obtain ⟨c, hc, b1, b2⟩ := write_ok .f64 7 (by decide) (by decide) s' m' i' _ rfl (by rw [p7]; grind) (by rw [p7]; grind)
    rw [p7b] at b1 b2
    refine ⟨_, c, ?_, hc, by grind, by grind⟩
    show ((FloatKind.f64.format.read x).root (FloatKind.f64.format.fractionBits + 2)).map FloatKind.f64.format.write = _
    rw [he]; rfl
  by_cases h0 : m = 0
  · refine fin s m i ?_ ?_ ?_
    · rw [ex]
      show (if m = 0 then some (Ieee.Datum.number s m i) else _) = _
      rw [if_pos h0]
    · rw [ev]; exact ha
    · have : a = 0 := by
        rw [← ev, h0]
        unfold sg
        cases s <;> simp
      rw [ev, this]; exact Rat.le_of_lt hB
  · have hi := two_pos i
    have hm1 : (1 : Rat) ≤ ((m : Nat) : Rat) := by
      have : ((1 : Nat) : Rat) ≤ ((m : Nat) : Rat) := Rat.natCast_le_natCast.2 (Nat.pos_of_ne_zero h0)
      exact this
    have c1 : ∀ x : Nat, (((x : Nat) : Int) : Rat) = ((x : Nat) : Rat) := fun _ => rfl
    have hs : s = false := by
      cases s with
      | false => rfl
      | true =>
        exfalso
        unfold sg at ev
        simp only [if_true, Rat.intCast_neg, c1] at ev
        have := Rat.mul_le_mul_of_nonneg_right hm1 (Rat.le_of_lt hi)
        grind
    subst hs
    obtain ⟨more, hmore⟩ : ∃ more : Nat, more = (2 * (FloatKind.f64.format.fractionBits + 2) - m.log2) + ((i - ((2 * (FloatKind.f64.format.fractionBits + 2) - m.log2 : Nat) : Int)) % 2).toNat := ⟨_, rfl⟩
    have heven : 2 * ((i - (more : Int)) / 2) = i - (more : Int) := by
      rw [hmore]
      generalize (2 * (FloatKind.f64.format.fractionBits + 2) - m.log2) = q
      omega
    obtain ⟨whole, hwh⟩ : ∃ whole, whole = Ieee.Datum.rootFrom (m <<< more) ((m <<< more).log2 / 2 + 1) 0 := ⟨_, rfl⟩
    have hw2 : whole * whole ≤ m <<< more := by rw [hwh]; exact rootFrom_le _ _ _ (Nat.zero_le _)
    rw [Nat.shiftLeft_eq] at hw2
    refine fin false (2 * whole + (whole * whole != m <<< more).toNat) ((i - (more : Int)) / 2 - 1) ?_ ?_ ?_
    · rw [ex]
      unfold Ieee.Datum.root
      simp only
      rw [if_neg h0, if_neg (by simp), ← hmore, ← hwh]
    · unfold sg
      simp only [Bool.false_eq_true, if_false, c1]
      have h1 : (0 : Rat) ≤ ((2 * whole + (whole * whole != m <<< more).toNat : Nat) : Rat) := by
        have : ((0 : Nat) : Rat) ≤ _ := Rat.natCast_le_natCast.2 (Nat.zero_le (2 * whole + (whole * whole != m <<< more).toNat))
        exact this
      exact Rat.mul_nonneg h1 (Rat.le_of_lt (two_pos _))
    · unfold sg at ev ⊢
      simp only [Bool.false_eq_true, if_false, c1] at ev ⊢
      generalize hM : 2 * whole + (whole * whole != m <<< more).toNat = M
      have hMle : M ≤ 2 * whole + 1 := by
        rw [← hM]
        cases (whole * whole != m <<< more) <;> simp
      have hMM : M * M ≤ 9 * (m * 2 ^ more) := by
        have hn1 : 1 ≤ m * 2 ^ more := Nat.mul_pos (Nat.pos_of_ne_zero h0) (Nat.two_pow_pos _)
        have h1 : M * M ≤ (2 * whole + 1) * (2 * whole + 1) := Nat.mul_le_mul hMle hMle
        rcases Nat.eq_zero_or_pos whole with h2 | h2
        · subst h2; omega
        · have h3 : (2 * whole + 1) * (2 * whole + 1) ≤ (3 * whole) * (3 * whole) := Nat.mul_le_mul (by omega) (by omega)
          have h4 : (3 * whole) * (3 * whole) = 9 * (whole * whole) := by grind
          omega
      -- in units
      generalize hH : (i - (more : Int)) / 2 = H at *
      have hu := two_pos (H - 1)
      have e1 : (2 : Rat) ^ i = ((2 ^ more : Nat) : Rat) * ((2 : Rat) ^ H * (2 : Rat) ^ H) := by
        rw [← pw_nat, ← pw_add, ← pw_add]; congr 1; omega
      have e2 : (2 : Rat) ^ H = 2 * (2 : Rat) ^ (H - 1) := by
        have h3 := pw_add (H - 1) 1
        rw [show H - 1 + 1 = H by omega] at h3
        have e4 : (2 : Rat) ^ (1 : Int) = 2 := by decide +kernel
        rw [h3, e4]; grind
      rw [e1, e2] at ev
      have hMMr : ((M : Nat) : Rat) * ((M : Nat) : Rat) ≤ 9 * (((m : Nat) : Rat) * ((2 ^ more : Nat) : Rat)) := by
        have := Rat.natCast_le_natCast.2 hMM
        simp only [Rat.natCast_mul] at this
        exact this
      generalize (2 : Rat) ^ (H - 1) = U at *
      generalize ((2 ^ more : Nat) : Rat) = T at *
      generalize ((M : Nat) : Rat) = Mr at *
      generalize ((m : Nat) : Rat) = mr at *
      have hUU : 0 ≤ U * U := Rat.mul_nonneg (Rat.le_of_lt hu) (Rat.le_of_lt hu)
      have h5 := Rat.mul_le_mul_of_nonneg_right hMMr hUU
      have h6 : (Mr * U) * (Mr * U) ≤ B * B := by grind
      rcases (show Mr * U ≤ B ∨ B < Mr * U by grind) with h7 | h7
      · exact h7
      · exfalso
        have h8 : B * B < (Mr * U) * (Mr * U) := by
          have g1 : B * B < (Mr * U) * B := Rat.mul_lt_mul_of_pos_right h7 hB
          have g2 : B * (Mr * U) < (Mr * U) * (Mr * U) := Rat.mul_lt_mul_of_pos_right h7 (by grind)
          grind
        grind
theorem sqrt_run {x r : Nat} (h : FloatKind.f64.format.sqrt x = some r) (w : World) : (callFunc 110 #[.float .f64 x]).run Try.prog w = .ok (.value (.float .f64 r)) w := by
  rw [run_callFunc_extern (P := Try.prog) (f := 110) (e := Extern.MathSqrt.sqrt) Try.func110 (by kernel_rfl) (by kernel_rfl) (by kernel_rfl) (by kernel_rfl)]
  have e : Extern.MathSqrt.sqrt #[.float .f64 x] = (match FloatKind.f64.format.sqrt x with
    | some r => pure (.float .f64 r)
    | none => do pure (.float .f64 (← choose (.nanBits .f64 x x)))) := rfl
  rw [e, h]
  rfl
/-- A number whose sign bit is not set. -/
def NN (k : FloatKind) (x : Nat) : Prop := ∃ m i, k.format.read x = .number false m i
theorem nn_val {k : FloatKind} {x : Nat} {a : Rat} (h : NN k x) (hx : NV k x a) : 0 ≤ a := by
  obtain ⟨m, i, e⟩ := h
  obtain ⟨s', m', i', e', rfl⟩ := hx
  rw [e] at e'
  cases e'
  unfold sg
  simp only [Bool.false_eq_true, if_false]
  have h1 : (0 : Rat) ≤ ((m : Nat) : Rat) := by
    have : ((0 : Nat) : Rat) ≤ ((m : Nat) : Rat) := Rat.natCast_le_natCast.2 (Nat.zero_le m)
    exact this
  exact Rat.mul_nonneg h1 (Rat.le_of_lt (two_pos _))
/-- What is written keeps its sign. -/
theorem write_nn (m : Nat) (i : Int) {a : Rat} (h : NV .f64 (FloatKind.f64.format.write (.number false m i)) a) : NN .f64 (FloatKind.f64.format.write (.number false m i)) := by
  have hB : FloatKind.f64.format.binade = 4503599627370496 := by decide
  have hI : FloatKind.f64.format.infRung = 9218868437227405312 := by decide
  have hS : FloatKind.f64.format.signWeight = 9223372036854775808 := by decide
  obtain ⟨s', m', i', e, -⟩ := h
  have key : ∃ R, FloatKind.f64.format.write (.number false m i) = R ∧ R ≤ 9218868437227405312 := by
    show ∃ R, FloatKind.f64.format.nearest false m i = R ∧ _
    unfold Ieee.Format.nearest Ieee.Format.word
    simp only [Bool.false_eq_true, if_false]
    split
    · exact ⟨_, rfl, by omega⟩
    · exact ⟨_, rfl, by rw [hI]; exact Nat.min_le_right _ _⟩
  obtain ⟨R, hR, hle⟩ := key
  rw [hR] at e ⊢
  unfold NN
  have hn : (R / 9223372036854775808 % 2 == 1) = false := by
    rw [Nat.div_eq_of_lt (by omega)]; rfl
  have e2 := e
  unfold Ieee.Format.read at e2
  simp only [hB, hI, hS, hn] at e2
  split at e2
  · cases e2; exact ⟨_, _, e⟩
  · split at e2
    · cases e2; exact ⟨_, _, e⟩
    · split at e2 <;> cases e2
theorem mul_self_nn {x r : Nat} {a c : Rat} (hx : NV .f64 x a) (h : floatBits .mul .f64 x x = some r) (hr : NV .f64 r c) : NN .f64 r := by
  obtain ⟨s, m, i, ex, -⟩ := hx
  have h2 : ((FloatKind.f64.format.read x).product (FloatKind.f64.format.read x)).map FloatKind.f64.format.write = some r := h
  rw [ex] at h2
  have h3 : some (FloatKind.f64.format.write (.number (s ^^ s) (m * m) (i + i))) = some r := h2
  cases h3
  rw [Bool.xor_self] at hr ⊢
  exact write_nn _ _ hr
theorem add_nn {x y r : Nat} {c : Rat} (hx : NN .f64 x) (hy : NN .f64 y) (h : floatBits .add .f64 x y = some r) (hr : NV .f64 r c) : NN .f64 r := by
  obtain ⟨m, i, ex⟩ := hx
  obtain ⟨n, j, ey⟩ := hy
  have h2 : ((FloatKind.f64.format.read x).sum (FloatKind.f64.format.read y)).map FloatKind.f64.format.write = some r := h
  rw [ex, ey] at h2
  have hs : (if Ieee.signed false m (i - min i j).toNat + Ieee.signed false n (j - min i j).toNat = 0 then false && false else decide (Ieee.signed false m (i - min i j).toNat + Ieee.signed false n (j - min i j).toNat < 0)) = false := by
    have h3 : 0 ≤ Ieee.signed false m (i - min i j).toNat := by unfold Ieee.signed; rw [if_neg (by simp)]; exact Int.natCast_nonneg _
    have h4 : 0 ≤ Ieee.signed false n (j - min i j).toNat := by unfold Ieee.signed; rw [if_neg (by simp)]; exact Int.natCast_nonneg _
    split
    · rfl
    · exact decide_eq_false (by omega)
  have h3 : some (FloatKind.f64.format.write (.number (if Ieee.signed false m (i - min i j).toNat + Ieee.signed false n (j - min i j).toNat = 0 then false && false else decide (Ieee.signed false m (i - min i j).toNat + Ieee.signed false n (j - min i j).toNat < 0)) (Ieee.signed false m (i - min i j).toNat + Ieee.signed false n (j - min i j).toNat).natAbs (min i j))) = some r := h2
  rw [hs] at h3
  cases h3
  exact write_nn _ _ hr
theorem power_v {x1 x2 : Nat} {a b : Rat} (hx1 : NV .f32 x1 a) (hx2 : NV .f32 x2 b) (h1 : a * a < 60) (h2 : b * b < 60) (g1 : 0 ≤ a * a) (g2 : 0 ≤ b * b) :
    ∃ r c, NV .f64 r c ∧ 0 ≤ c ∧ Nr c (a * a + b * b) (1 / 100000000000) ∧ ∀ w, Calls Try.prog 94 #[.complex .f32 x1 x2] w fun e w' => e = .returned (.float .f64 r) ∧ w' = w := by
  obtain ⟨u1, f1, n1⟩ := wide_exact hx1
  obtain ⟨u2, f2, n2⟩ := wide_exact hx2
  obtain ⟨r1, c1, i1, m1, e1⟩ := mul64 n1 n1 (by grind) (by grind)
  obtain ⟨r2, c2, i2, m2, e2⟩ := mul64 n2 n2 (by grind) (by grind)
  unfold Nr at e1 e2
  obtain ⟨r, c, i3, m3, e3⟩ := add64 m1 m2 (by grind) (by grind)
  unfold Nr at e3
  have k1 := cvW f1
  have k2 := cvW f2
  have j1 := ar64 _ _ _ _ i1
  have j2 := ar64 _ _ _ _ i2
  have j3 := ar64 _ _ _ _ i3
  refine ⟨r, c, m3, nn_val (add_nn (mul_self_nn n1 i1 m1) (mul_self_nn n2 i2 m2) i3 m3) m3, by unfold Nr; grind, fun w => ?_⟩
  clear f1 f2 n1 n2 i1 i2 i3 m1 m2 m3 e1 e2 e3 hx1 hx2 h1 h2 g1 g2
  go_enter Try.func94, Try.ntmps94
  go_wp2
  go_ret
  exact ⟨rfl, rfl⟩
/-- The numbers that a product with itself gives are not below 0. -/
theorem sq_nonneg (a : Rat) : 0 ≤ a * a := by
  rcases (show 0 ≤ a ∨ 0 ≤ -a by grind) with h | h
  · exact Rat.mul_nonneg h h
  · have := Rat.mul_nonneg h h; grind
set_option maxRecDepth 100000 in
theorem longOf_v {x1 x2 : Nat} {a b B : Rat} (hx1 : NV .f32 x1 a) (hx2 : NV .f32 x2 b) (h1 : a * a < 60) (h2 : b * b < 60) (hB : 1 ≤ B) (hB2 : B < 120) (h : 9 * (a * a + b * b) + 1 ≤ 4 * (B * B)) :
    ∃ r c, NV .f32 r c ∧ 0 - 1 / 200000 ≤ c ∧ c ≤ B + 1 / 200000 ∧ ∀ w, Calls Try.prog 71 #[.complex .f32 x1 x2] w fun e w' => e = .returned (.float .f32 r) ∧ w' = w := by
  obtain ⟨p, π, n1, e0, e1, HP⟩ := power_v hx1 hx2 h1 h2 (sq_nonneg a) (sq_nonneg b)
  unfold Nr at e1
  obtain ⟨q, κ, g1, n2, b1, b2⟩ := sqrt_ok (B := B) n1 e0 (by grind) (by grind) (by grind)
  obtain ⟨r, c, g2, n3, e3⟩ := narrow n2 (by grind) (by grind)
  unfold Nr at e3
  have k1 := sqrt_run g1
  have k2 := cvN g2
  refine ⟨r, c, n3, by grind, by grind, fun w => ?_⟩
  clear e0 e1 e3 g1 g2 n1 n2 n3 b1 b2 hx1 hx2 h1 h2 hB hB2 h
  go_enter Try.func71, Try.ntmps71
  go_wp2_with fail
  refine (HP w).mono ?_
  rintro e w1 ⟨rfl, rfl⟩
  have HQ : Calls Try.prog 98 #[.float .f64 p] w1 fun e w' => e = .returned (.float .f64 q) ∧ w' = w1 := by
    go_enter Try.func98, Try.ntmps98
    go_wp2
    go_ret
    exact ⟨rfl, rfl⟩
  go_wp2_with fail
  refine HQ.mono ?_
  rintro e w2 ⟨rfl, rfl⟩
  go_wp2
  go_ret
  exact ⟨rfl, rfl⟩
end Go.Proofs.Ytlpibibpckkjhaa
