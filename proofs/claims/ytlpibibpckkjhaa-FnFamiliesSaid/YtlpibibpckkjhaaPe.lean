/-
  Contracts: the sine of any number of turns from 0 on, by words (impl.partOfTurn, sine, SineTurns).
  Points at which a circle is seen from the side, and fits there (impl.RoundPoints, RoundFit): tables and values.
  Fits at points of a half circle: they pass their values (plain); impl.RoundPoints, RoundFit, ValuesShared: contracts.
  Contracts: impl.RoundPoints, RoundFit, ValuesShared: the walks.
-/
import Derived.Test.YtlpibibpckkjhaaPd
namespace Go.Proofs.Ytlpibibpckkjhaa
open Go.RowKit
def whW (y : Nat) : Nat := FloatKind.f64.encode ((FloatKind.f64.decode y).integral .zero)
def numW (y : Nat) : Bool := match FloatKind.f64.decode y with | .nan _ _ => false | _ => true
/-- The whole turns, as the program takes them. -/
def wh0 (y : Nat) : Nat := if (FloatKind.f64.format.order (whW y) 0 == some .eq) then 0 else whW y
def hiW (f : Nat) : Bool := FloatKind.f64.format.order f 4602678819172646912 == some .gt || FloatKind.f64.format.order f 4602678819172646912 == some .eq
def quW (f : Nat) : Bool := FloatKind.f64.format.order f 4598175219545276416 == some .gt
def f2W (f : Nat) : Option Nat := if hiW f then fd .sub f 4602678819172646912 else some f
def f3W (f : Nat) : Option Nat := if quW f then fd .sub 4602678819172646912 f else some f
def sinW (y : Nat) : Option Nat :=
  if numW y then (fd .sub y (wh0 y)).bind fun f => if (FloatKind.f64.format.order f 0 == some .lt) then none else (f2W f).bind fun f2 => (f3W f2).bind fun f3 => (sineCO f3).map fun r => if hiW f then Op.negFloat .f64 r else r
  else none
def okW (y : Nat) : Bool := (bits .andNot .u64 (y : Int) 9223372036854775808 == (y : Int)) && FloatKind.f64.format.order y 4841369599423283200 == some .lt
def sinT (x : Nat) : Option Nat := if fin32B x then (floatToFloatBits .f32 x .f64).bind fun y => if okW y then (sinW y).bind fun r => floatToFloatBits .f64 r .f32 else none else none
theorem run_truncG (y : Nat) (h2 : numW y = true) (w : World) : (callFunc 116 #[.float .f64 y]).run Try.prog w = .ok (.value (.float .f64 (whW y))) w := by
  rw [run_callFunc_extern (P := Try.prog) (f := 116) (e := Extern.MathFloor.toIntegral "math.archTrunc" .zero) Try.func116 (by kernel_rfl) (by kernel_rfl) (by kernel_rfl) (by kernel_rfl)]
  rw [show Extern.MathFloor.toIntegral "math.archTrunc" .zero #[.float .f64 y] = _ from by conv => { lhs; whnf }]
  unfold whW
  unfold numW at h2
  cases hd : FloatKind.f64.decode y with
  | nan s t => rw [hd] at h2; cases h2
  | infinity s => rfl
  | number s m e => rfl
theorem truncG (y : Nat) (h2 : numW y = true) (w : World) :
    Calls Try.prog 114 #[.float .f64 y] w fun e w' => e = .returned (.float .f64 (whW y)) ∧ w' = w := by
  have H := run_truncG y h2
  generalize whW y = z at *
  go_enter Try.func114, Try.ntmps114
  go_wp2
  go_ret
  exact ⟨rfl, rfl⟩
theorem partG (y f : Nat) (h2 : numW y = true) (hs : fd .sub y (wh0 y) = some f) (hl : (FloatKind.f64.format.order f 0 == some .lt) = false) (w : World) :
    Calls Try.prog 109 #[.float .f64 y] w fun e w' => e = .returned (.float .f64 f) ∧ w' = w := by
  have H := truncG y h2
  unfold wh0 at hs
  generalize whW y = z at *
  cases h0 : (FloatKind.f64.format.order z 0 == some .eq) with
  | true =>
    rw [h0, if_pos rfl] at hs
    have k3 := ar64 _ _ _ _ hs
    clear h2 hs
    go_enter Try.func109, Try.ntmps109
    go_wp2_with fail
    refine (H _).mono ?_
    rintro e w1 ⟨rfl, rfl⟩
    go_wp2
    go_ret
    exact ⟨rfl, rfl⟩
  | false =>
    rw [h0, if_neg (by simp)] at hs
    have k3 := ar64 _ _ _ _ hs
    clear h2 hs
    go_enter Try.func109, Try.ntmps109
    go_wp2_with fail
    refine (H _).mono ?_
    rintro e w1 ⟨rfl, rfl⟩
    go_wp2
    go_ret
    exact ⟨rfl, rfl⟩
set_option maxRecDepth 100000 in
set_option maxHeartbeats 1600000 in
theorem sineG (y r : Nat) (h : sinW y = some r) (w : World) :
    Calls Try.prog 97 #[.float .f64 y] w fun e w' => e = .returned (.float .f64 r) ∧ w' = w := by
  unfold sinW at h
  by_cases hn : numW y = true
  · rw [if_pos hn] at h
    obtain ⟨f, s1, h⟩ := bind3 h
    by_cases hl : (FloatKind.f64.format.order f 0 == some .lt) = true
    · rw [if_pos hl] at h; cases h
    · rw [if_neg hl] at h
      obtain ⟨f2, s2, h⟩ := bind3 h
      obtain ⟨f3, s3, h⟩ := bind3 h
      obtain ⟨r0, hC, hr⟩ := Option.map_eq_some_iff.1 h
      have H := partG y f hn s1 (by simpa using hl)
      obtain ⟨z, u, p, g1, g2, g3, g4⟩ := sineC_parts hC
      have j1 := ar64 _ _ _ _ g1
      have j2 := ar64 _ _ _ _ g2
      have j4 := ar64 _ _ _ _ g4
      have hT := Lib.hid g3
      have kn := neg64 r0
      unfold f2W at s2
      unfold f3W at s3
      clear h hC g1 g2 g3 g4 s1 hl hn
      cases hh : hiW f <;> cases hq : quW f2
      all_goals
        rw [hh] at s2 hr
        rw [hq] at s3
        unfold hiW at hh
        unfold quW at hq
        simp only [if_true, Bool.false_eq_true, if_false, Option.some.injEq] at s2 s3 hr
      -- low, below a quarter
      · subst s2
        subst s3
        subst hr
        clear kn
        go_enter Try.func97, Try.ntmps97
        go_wp2_with fail
        refine (H _).mono ?_
        rintro e w1 ⟨rfl, rfl⟩
        go_wp2
        rw [← kk_eight]
        go_loopw [7, 8] (fun pv kv wr => ∃ j pc, j ≤ 8 ∧ kv = .float .f64 (kk j) ∧ pv = .float .f64 pc ∧ Hid (sineTO u j pc = some p) ∧ wr = w1) (fun _ kv _ => kBack kv)
        case atStart => exact ⟨8, _, Nat.le_refl _, rfl, rfl, hT, rfl⟩
        case round =>
          obtain ⟨j, pc, hj, rfl, rfl, hs, rfl⟩ := hrel
          clear hT H j1 j2
          match j with
          | 0 =>
            have ke := kk_end
            have e := hs.out
            unfold sineTO at e
            cases e
            go_wp2
            go_ret
            exact ⟨rfl, rfl⟩
          | j + 1 =>
            obtain ⟨a1, a2, a3, a4, a5, a6, a7⟩ := kk_facts j (by omega)
            obtain ⟨t, q, p1, b1, b2, b3, b4⟩ := sineT_parts hs.out
            have hT2 := Lib.hid b4
            have c2 := ar64 _ _ _ _ a2
            have c3 := ar64 _ _ _ _ a3
            have c4 := ar64 _ _ _ _ a4
            have c5 := ar64 _ _ _ _ a5
            have d1 := ar64 _ _ _ _ b1
            have d2 := ar64 .quo t (kk (2 * (j + 1) * (2 * (j + 1) + 1))) q b2
            have d3 := ar64 _ _ _ _ b3
            clear a2 a3 a4 a5 b1 b2 b3 b4 hs
            go_wp2
            exact ⟨⟨j, p1, by omega, rfl, rfl, hT2, trivial⟩, by rw [a6, a7]; omega⟩
      -- low, above a quarter
      · subst s2
        subst hr
        have k3 := ar64 _ _ _ _ s3
        clear kn s3
        go_enter Try.func97, Try.ntmps97
        go_wp2_with fail
        refine (H _).mono ?_
        rintro e w1 ⟨rfl, rfl⟩
        go_wp2
        rw [← kk_eight]
        go_loopw [7, 8] (fun pv kv wr => ∃ j pc, j ≤ 8 ∧ kv = .float .f64 (kk j) ∧ pv = .float .f64 pc ∧ Hid (sineTO u j pc = some p) ∧ wr = w1) (fun _ kv _ => kBack kv)
        case atStart => exact ⟨8, _, Nat.le_refl _, rfl, rfl, hT, rfl⟩
        case round =>
          obtain ⟨j, pc, hj, rfl, rfl, hs, rfl⟩ := hrel
          clear hT H j1 j2 k3
          match j with
          | 0 =>
            have ke := kk_end
            have e := hs.out
            unfold sineTO at e
            cases e
            go_wp2
            go_ret
            exact ⟨rfl, rfl⟩
          | j + 1 =>
            obtain ⟨a1, a2, a3, a4, a5, a6, a7⟩ := kk_facts j (by omega)
            obtain ⟨t, q, p1, b1, b2, b3, b4⟩ := sineT_parts hs.out
            have hT2 := Lib.hid b4
            have c2 := ar64 _ _ _ _ a2
            have c3 := ar64 _ _ _ _ a3
            have c4 := ar64 _ _ _ _ a4
            have c5 := ar64 _ _ _ _ a5
            have d1 := ar64 _ _ _ _ b1
            have d2 := ar64 .quo t (kk (2 * (j + 1) * (2 * (j + 1) + 1))) q b2
            have d3 := ar64 _ _ _ _ b3
            clear a2 a3 a4 a5 b1 b2 b3 b4 hs
            go_wp2
            exact ⟨⟨j, p1, by omega, rfl, rfl, hT2, trivial⟩, by rw [a6, a7]; omega⟩
      -- high, below three quarters
      · subst s3
        subst hr
        have k3 := ar64 _ _ _ _ s2
        clear s2
        generalize Op.negFloat .f64 r0 = nr at *
        go_enter Try.func97, Try.ntmps97
        go_wp2_with fail
        refine (H _).mono ?_
        rintro e w1 ⟨rfl, rfl⟩
        go_wp2
        rw [← kk_eight]
        go_loopw [7, 8] (fun pv kv wr => ∃ j pc, j ≤ 8 ∧ kv = .float .f64 (kk j) ∧ pv = .float .f64 pc ∧ Hid (sineTO u j pc = some p) ∧ wr = w1) (fun _ kv _ => kBack kv)
        case atStart => exact ⟨8, _, Nat.le_refl _, rfl, rfl, hT, rfl⟩
        case round =>
          obtain ⟨j, pc, hj, rfl, rfl, hs, rfl⟩ := hrel
          clear hT H j1 j2 k3
          match j with
          | 0 =>
            have ke := kk_end
            have e := hs.out
            unfold sineTO at e
            cases e
            go_wp2
            go_ret
            exact ⟨rfl, rfl⟩
          | j + 1 =>
            obtain ⟨a1, a2, a3, a4, a5, a6, a7⟩ := kk_facts j (by omega)
            obtain ⟨t, q, p1, b1, b2, b3, b4⟩ := sineT_parts hs.out
            have hT2 := Lib.hid b4
            have c2 := ar64 _ _ _ _ a2
            have c3 := ar64 _ _ _ _ a3
            have c4 := ar64 _ _ _ _ a4
            have c5 := ar64 _ _ _ _ a5
            have d1 := ar64 _ _ _ _ b1
            have d2 := ar64 .quo t (kk (2 * (j + 1) * (2 * (j + 1) + 1))) q b2
            have d3 := ar64 _ _ _ _ b3
            clear a2 a3 a4 a5 b1 b2 b3 b4 hs
            go_wp2
            exact ⟨⟨j, p1, by omega, rfl, rfl, hT2, trivial⟩, by rw [a6, a7]; omega⟩
      -- high, above three quarters
      · subst hr
        have k3 := ar64 _ _ _ _ s2
        have k4 := ar64 _ _ _ _ s3
        clear s2 s3
        generalize Op.negFloat .f64 r0 = nr at *
        go_enter Try.func97, Try.ntmps97
        go_wp2_with fail
        refine (H _).mono ?_
        rintro e w1 ⟨rfl, rfl⟩
        go_wp2
        rw [← kk_eight]
        go_loopw [7, 8] (fun pv kv wr => ∃ j pc, j ≤ 8 ∧ kv = .float .f64 (kk j) ∧ pv = .float .f64 pc ∧ Hid (sineTO u j pc = some p) ∧ wr = w1) (fun _ kv _ => kBack kv)
        case atStart => exact ⟨8, _, Nat.le_refl _, rfl, rfl, hT, rfl⟩
        case round =>
          obtain ⟨j, pc, hj, rfl, rfl, hs, rfl⟩ := hrel
          clear hT H j1 j2 k3 k4
          match j with
          | 0 =>
            have ke := kk_end
            have e := hs.out
            unfold sineTO at e
            cases e
            go_wp2
            go_ret
            exact ⟨rfl, rfl⟩
          | j + 1 =>
            obtain ⟨a1, a2, a3, a4, a5, a6, a7⟩ := kk_facts j (by omega)
            obtain ⟨t, q, p1, b1, b2, b3, b4⟩ := sineT_parts hs.out
            have hT2 := Lib.hid b4
            have c2 := ar64 _ _ _ _ a2
            have c3 := ar64 _ _ _ _ a3
            have c4 := ar64 _ _ _ _ a4
            have c5 := ar64 _ _ _ _ a5
            have d1 := ar64 _ _ _ _ b1
            have d2 := ar64 .quo t (kk (2 * (j + 1) * (2 * (j + 1) + 1))) q b2
            have d3 := ar64 _ _ _ _ b3
            clear a2 a3 a4 a5 b1 b2 b3 b4 hs
            go_wp2
            exact ⟨⟨j, p1, by omega, rfl, rfl, hT2, trivial⟩, by rw [a6, a7]; omega⟩
  · rw [if_neg hn] at h; cases h
theorem isHugeG (y : Nat) (h : okW y = true) (w : World) :
    Calls Try.prog 96 #[.float .f64 y] w fun e w' => e = .returned (.bool false) ∧ w' = w := by
  unfold okW at h
  simp only [Bool.and_eq_true, beq_iff_eq] at h
  have H := abs_any y h.1 w
  have k1 : (FloatKind.f64.format.order y 4841369599423283200 == some .gt || FloatKind.f64.format.order y 4841369599423283200 == some .eq) = false := by rw [h.2]; rfl
  clear h
  go_enter Try.func96, Try.ntmps96
  go_wp2_with fail
  refine H.mono ?_
  rintro e w1 ⟨rfl, rfl⟩
  go_wp2
  go_ret
  exact ⟨rfl, rfl⟩
theorem SineTurns_w (x0 x : Nat) (h : sinT x0 = some x) (w : World) :
    Calls Try.prog 64 #[.float .f32 x0] w fun e w' => e = .returned (.float .f32 x) ∧ Below w.heap.size w w' := by
  unfold sinT at h
  by_cases hf : fin32B x0 = true
  · rw [if_pos hf] at h
    obtain ⟨y, h1, h⟩ := bind3 h
    by_cases hok : okW y = true
    · rw [if_pos hok] at h
      obtain ⟨r, h2, h3⟩ := bind3 h
      have H1 := isFinite_b x0 w
      have H2 := isHugeG y hok
      have H3 := sineG y r h2
      have c1 := cv64 _ _ h1
      have c2 := cv32 _ _ h3
      rw [hf] at H1
      clear hf h1 h2 h3 h hok
      go_enter Try.func64, Try.ntmps64
      go_wp2_with fail
      refine H1.mono ?_
      rintro e w1 ⟨rfl, hb⟩
      go_wp2_with fail
      refine (H2 w1).mono ?_
      rintro e w2 ⟨rfl, rfl⟩
      go_wp2_with fail
      refine (H3 w2).mono ?_
      rintro e w3 ⟨rfl, rfl⟩
      go_wp2
      go_ret
      exact ⟨rfl, hb⟩
    · rw [if_neg hok] at h; cases h
  · rw [if_neg hf] at h; cases h
end Go.Proofs.Ytlpibibpckkjhaa
namespace Go.Proofs.Ytlpibibpckkjhaa
open Go.RowKit
def ptW (n k : Nat) : Option Nat := (fb .quo (floatOfInt .f32 (2 * (k : Int) + 1)) (floatOfInt .f32 (4 * (n : Int)))).bind fun q => (fb .add q 1048576000).bind sinT
def sjW (n j k : Nat) : Option Nat := (fb .quo (floatOfInt .f32 ((j * (2 * k + 1) : Nat) : Int)) (floatOfInt .f32 (4 * (n : Int)))).bind fun q => (fb .add q 1048576000).bind sinT
def byW (n j : Nat) : Option Nat := if j = 0 then fb .quo 1065353216 (floatOfInt .f32 (n : Int)) else fb .quo 1073741824 (floatOfInt .f32 (n : Int))
def ptN (n k : Nat) : Nat := (ptW n k).getD 0
def sjN (n j k : Nat) : Nat := (sjW n j k).getD 0
def byN (n j : Nat) : Nat := (byW n j).getD 0
def PV (n k : Nat) : Rat := V32 (ptN n k)
def SV (n j k : Nat) : Rat := V32 (sjN n j k)
def BY (n j : Nat) : Rat := V32 (byN n j)
def okO (o : Option Nat) : Bool := match o with
  | some x => fin32B x && decide (ab (V32 x) ≤ 1)
  | none => false
theorem okO_is {o : Option Nat} (h : okO o = true) : o = some (o.getD 0) ∧ NV .f32 (o.getD 0) (V32 (o.getD 0)) ∧ ab (V32 (o.getD 0)) ≤ 1 := by
  cases o with
  | none => cases h
  | some x =>
    unfold okO at h
    simp only [Bool.and_eq_true, decide_eq_true_eq] at h
    exact ⟨rfl, nv_of_fin h.1, h.2⟩
def rnB (n : Nat) : Bool := (List.range n).all fun k => okO (ptW n k) && okO (byW n k) && ((List.range n).all fun j => okO (sjW n j k)) && (k == 0 || decide (PV n k < PV n (k - 1)))
theorem rn1 : rnB 1 = true := by decide +kernel
theorem rn2 : rnB 2 = true := by decide +kernel
theorem rn3 : rnB 3 = true := by decide +kernel
theorem rn4 : rnB 4 = true := by decide +kernel
theorem rn5 : rnB 5 = true := by decide +kernel
theorem rn6 : rnB 6 = true := by decide +kernel
theorem rn_all (n : Nat) (h1 : 1 ≤ n) (h6 : n ≤ 6) : rnB n = true := by
  obtain rfl | rfl | rfl | rfl | rfl | rfl : n = 1 ∨ n = 2 ∨ n = 3 ∨ n = 4 ∨ n = 5 ∨ n = 6 := by omega
  · exact rn1
  · exact rn2
  · exact rn3
  · exact rn4
  · exact rn5
  · exact rn6
theorem rn_ok (n k : Nat) (h1 : 1 ≤ n) (h6 : n ≤ 6) (hk : k < n) : ptW n k = some (ptN n k) ∧ NV .f32 (ptN n k) (PV n k) ∧ Lm (PV n k) 1 ∧ byW n k = some (byN n k) ∧ NV .f32 (byN n k) (BY n k) ∧ Lm (BY n k) 1 ∧ (1 ≤ k → PV n k < PV n (k - 1)) := by
  have h := List.all_eq_true.1 (rn_all n h1 h6) k (List.mem_range.2 hk)
  simp only [Bool.and_eq_true, Bool.or_eq_true, beq_iff_eq, decide_eq_true_eq] at h
  obtain ⟨⟨⟨a1, a2⟩, -⟩, a4⟩ := h
  obtain ⟨b1, b2, b3⟩ := okO_is a1
  obtain ⟨c1, c2, c3⟩ := okO_is a2
  refine ⟨b1, b2, (ab_lm _).le b3, c1, c2, (ab_lm _).le c3, fun hk1 => ?_⟩
  rcases a4 with h0 | h0
  · omega
  · exact h0
theorem sj_ok (n j k : Nat) (h1 : 1 ≤ n) (h6 : n ≤ 6) (hk : k < n) (hj : j < n) : sjW n j k = some (sjN n j k) ∧ NV .f32 (sjN n j k) (SV n j k) ∧ Lm (SV n j k) 1 := by
  have h := List.all_eq_true.1 (rn_all n h1 h6) k (List.mem_range.2 hk)
  simp only [Bool.and_eq_true] at h
  obtain ⟨⟨-, a3⟩, -⟩ := h
  obtain ⟨b1, b2, b3⟩ := okO_is (List.all_eq_true.1 a3 j (List.mem_range.2 hj))
  exact ⟨b1, b2, (ab_lm _).le b3⟩
/-- The sum of values by the sines. -/
def dotS (n j : Nat) (V : Nat → Rat) : Nat → Rat
  | 0 => 0
  | l + 1 => dotS n j V l + V l * SV n j l
def fX (n : Nat) (V : Nat → Rat) (j : Nat) : Rat := BY n j * dotS n j V n
/-- What a value gives at a point. -/
def mtx (n k l : Nat) : Nat → Rat
  | 0 => 0
  | j + 1 => mtx n k l j + BY n j * SV n j l * (rowE 0 (PV n k) j).1
def dlt (k l : Nat) : Rat := if k = l then 1 else 0
def mtB (n : Nat) : Bool := (List.range n).all fun k => ((List.range n).all fun l => decide (ab (mtx n k l n - dlt k l) ≤ 1 / 10000)) && ((List.range n).all fun j => decide (ab (rowE 0 (PV n k) j).1 ≤ 101 / 100))
theorem mt1 : mtB 1 = true := by decide +kernel
theorem mt2 : mtB 2 = true := by decide +kernel
theorem mt3 : mtB 3 = true := by decide +kernel
theorem mt4 : mtB 4 = true := by decide +kernel
theorem mt5 : mtB 5 = true := by decide +kernel
theorem mt6 : mtB 6 = true := by decide +kernel
theorem mt_all (n : Nat) (h1 : 1 ≤ n) (h6 : n ≤ 6) : mtB n = true := by
  obtain rfl | rfl | rfl | rfl | rfl | rfl : n = 1 ∨ n = 2 ∨ n = 3 ∨ n = 4 ∨ n = 5 ∨ n = 6 := by omega
  · exact mt1
  · exact mt2
  · exact mt3
  · exact mt4
  · exact mt5
  · exact mt6
end Go.Proofs.Ytlpibibpckkjhaa
namespace Go.Proofs.Ytlpibibpckkjhaa
open Go.RowKit
theorem mt_ok (n k : Nat) (h1 : 1 ≤ n) (h6 : n ≤ 6) (hk : k < n) : (∀ l, l < n → Lm (mtx n k l n - dlt k l) (1 / 10000)) ∧ ∀ j, j < n → Lm (rowE 0 (PV n k) j).1 (101 / 100) := by
  have h := List.all_eq_true.1 (mt_all n h1 h6) k (List.mem_range.2 hk)
  simp only [Bool.and_eq_true] at h
  refine ⟨fun l hl => ?_, fun j hj => ?_⟩
  · have := List.all_eq_true.1 h.1 l (List.mem_range.2 hl)
    simp only [decide_eq_true_eq] at this
    exact (ab_lm _).le this
  · have := List.all_eq_true.1 h.2 j (List.mem_range.2 hj)
    simp only [decide_eq_true_eq] at this
    exact (ab_lm _).le this
/-- The sum of values by what they give. -/
def mSum (n k m : Nat) (V : Nat → Rat) : Nat → Rat
  | 0 => 0
  | l + 1 => mSum n k m V l + V l * mtx n k l m
theorem sumR_add (A B : Nat → Rat) (kind : Nat) (X : Rat) : ∀ m, sumR (fun j => A j + B j) kind X m = sumR A kind X m + sumR B kind X m
  | 0 => by simp only [sumR]; grind
  | m + 1 => by
    have ih := sumR_add A B kind X m
    simp only [sumR]
    rw [ih]; grind
theorem sumR_one (n k l : Nat) (c : Rat) : ∀ m, sumR (fun j => BY n j * (c * SV n j l)) 0 (PV n k) m = c * mtx n k l m
  | 0 => by simp only [sumR, mtx]; grind
  | m + 1 => by
    have ih := sumR_one n k l c m
    simp only [sumR, mtx]
    rw [ih]; grind
theorem sumR_zero (kind : Nat) (X : Rat) : ∀ m, sumR (fun _ => 0) kind X m = 0
  | 0 => rfl
  | m + 1 => by
    have ih := sumR_zero kind X m
    simp only [sumR]
    rw [ih]; grind
theorem swap_sum (n k : Nat) (V : Nat → Rat) (m : Nat) : ∀ q, sumR (fun j => BY n j * dotS n j V q) 0 (PV n k) m = mSum n k m V q
  | 0 => by
    have e : (fun j => BY n j * dotS n j V 0) = fun _ => 0 := by
      funext j
      rw [dotS]; grind
    rw [e, sumR_zero]; rfl
  | q + 1 => by
    have ih := swap_sum n k V m q
    have e : (fun j => BY n j * dotS n j V (q + 1)) = fun j => BY n j * dotS n j V q + BY n j * (V q * SV n j q) := by
      funext j
      rw [dotS]; grind
    rw [e, sumR_add, ih, sumR_one, mSum]
theorem mSum_near {n k : Nat} {V : Nat → Rat} (h1 : 1 ≤ n) (h6 : n ≤ 6) (hk : k < n) (hV : ∀ l, l < n → Lm (V l) 2) : ∀ q, q ≤ n → Nr (mSum n k n V q) (if k < q then V k else 0) (((q : Nat) : Rat) * (1 / 5000))
  | 0, _ => by
    have e0 : ((0 : Nat) : Rat) = 0 := rfl
    rw [mSum, if_neg (by omega), e0]
    unfold Nr; constructor <;> grind
  | q + 1, hq => by
    have ih := mSum_near h1 h6 hk hV q (by omega)
    have hm := (mt_ok n k h1 h6 hk).1 q (by omega)
    have hp := (hV q (by omega)).mul hm
    rw [mSum, nat_succ_rat q]
    by_cases e : k = q
    · subst e
      rw [if_neg (by omega)] at ih
      rw [if_pos (by omega)]
      unfold dlt at hp
      rw [if_pos rfl] at hp
      unfold Lm at hp
      unfold Nr at *
      constructor <;> grind
    · unfold dlt at hp
      rw [if_neg e] at hp
      unfold Lm at hp
      by_cases e2 : k < q
      · rw [if_pos e2] at ih
        rw [if_pos (by omega)]
        unfold Nr at *
        constructor <;> grind
      · rw [if_neg e2] at ih
        rw [if_neg (by omega)]
        unfold Nr at *
        constructor <;> grind
theorem sumR_near {A B : Nat → Rat} {kind : Nat} {X e : Rat} (he : 0 ≤ e) : ∀ m, (∀ j, j < m → Nr (A j) (B j) e ∧ Lm (rowE kind X j).1 (101 / 100)) → Nr (sumR A kind X m) (sumR B kind X m) (((m : Nat) : Rat) * (101 / 100 * e))
  | 0, _ => by
    have e0 : ((0 : Nat) : Rat) = 0 := rfl
    rw [sumR, sumR, e0]
    unfold Nr; constructor <;> grind
  | m + 1, h => by
    have ih := sumR_near (A := A) (B := B) (kind := kind) (X := X) he m (fun j hj => h j (by omega))
    obtain ⟨h1, h2⟩ := h m (by omega)
    have hp := (lm_nr.1 h1).mul h2
    rw [sumR, sumR, nat_succ_rat m]
    unfold Lm at hp
    unfold Nr at *
    constructor <;> grind
/-- The fit's sum at a point is the value there, nearly. -/
theorem fit_pass {n k : Nat} {V F : Nat → Rat} (h1 : 1 ≤ n) (h6 : n ≤ 6) (hk : k < n) (hV : ∀ l, l < n → Lm (V l) 2) (hF : ∀ j, j < n → Nr (F j) (fX n V j) (1 / 50000)) : Nr (sumR F 0 (PV n k) n) (V k) (1 / 500) := by
  have a := sumR_near (A := F) (B := fX n V) (kind := 0) (X := PV n k) (e := 1 / 50000) (by grind) n (fun j hj => ⟨hF j hj, (mt_ok n k h1 h6 hk).2 j hj⟩)
  have b := swap_sum n k V n n
  have c := mSum_near h1 h6 hk hV n (Nat.le_refl _)
  rw [if_pos hk] at c
  have e : (fun j => BY n j * dotS n j V n) = fX n V := rfl
  rw [e] at b
  rw [b] at a
  have hn := nat_le_rat h6
  have e6 : ((6 : Nat) : Rat) = 6 := rfl
  rw [e6] at hn
  unfold Nr at *
  constructor <;> grind
/-- Where a sum by sines stands. -/
def DotAt (n j : Nat) (V : Nat → Rat) (l x : Nat) : Prop := ∃ a, NV .f32 x a ∧ Nr a (dotS n j V l) (((l : Nat) : Rat) * (1 / 1000000))
theorem dotS_bd {n j : Nat} {V : Nat → Rat} (h1 : 1 ≤ n) (h6 : n ≤ 6) (hj : j < n) (hV : ∀ l, l < n → Lm (V l) 2) : ∀ l, l ≤ n → Lm (dotS n j V l) (2 * ((l : Nat) : Rat))
  | 0, _ => by
    have e0 : ((0 : Nat) : Rat) = 0 := rfl
    rw [dotS, e0]; unfold Lm; constructor <;> grind
  | l + 1, hl => by
    have ih := dotS_bd h1 h6 hj hV l (by omega)
    have h2 := (hV l (by omega)).mul (sj_ok n j l h1 h6 (by omega) hj).2.2
    rw [dotS, nat_succ_rat l]
    exact (ih.add h2).le (by grind)
theorem dot_zero {n j : Nat} {V : Nat → Rat} : DotAt n j V 0 0 := by
  have e0 : ((0 : Nat) : Rat) = 0 := rfl
  refine ⟨0, nv_zero, ?_⟩
  rw [dotS, e0]; unfold Nr; constructor <;> grind
theorem dot_step {n j l x v : Nat} {V : Nat → Rat} (h1 : 1 ≤ n) (h6 : n ≤ 6) (hj : j < n) (hl : l < n) (hV : ∀ l, l < n → Lm (V l) 2) (hv : NV .f32 v (V l)) (h : DotAt n j V l x) :
    ∃ p y, fb .mul v (sjN n j l) = some p ∧ fb .add x p = some y ∧ DotAt n j V (l + 1) y := by
  obtain ⟨a, ha, he⟩ := h
  obtain ⟨-, ns, ls⟩ := sj_ok n j l h1 h6 hl hj
  have hp := (hV l hl).mul ls
  have hb := dotS_bd h1 h6 hj hV l (by omega)
  have hl6 := nat_le_rat (show l ≤ 5 by omega)
  have hl0 := nat_le_rat (Nat.zero_le l)
  have e5 : ((5 : Nat) : Rat) = 5 := rfl
  have e0 : ((0 : Nat) : Rat) = 0 := rfl
  rw [e5] at hl6
  rw [e0] at hl0
  unfold Lm at hp hb
  obtain ⟨p, π, g1, n1, r1⟩ := mulM hv ns (M := 2) ⟨by grind, by grind⟩ (by grind) (by grind)
  rw [un32] at r1
  unfold Nr at r1 he
  obtain ⟨y, η, g2, n2, r2⟩ := addM ha n1 (M := 13) ⟨by grind, by grind⟩ (by grind) (by grind)
  rw [un32] at r2
  unfold Nr at r2
  refine ⟨p, y, g1, g2, η, n2, ?_⟩
  rw [dotS, nat_succ_rat l]
  unfold Nr; constructor <;> grind
theorem dot_end {n j x : Nat} {V : Nat → Rat} (h1 : 1 ≤ n) (h6 : n ≤ 6) (hj : j < n) (hV : ∀ l, l < n → Lm (V l) 2) (h : DotAt n j V n x) :
    ∃ y F, fb .mul x (byN n j) = some y ∧ NV .f32 y F ∧ Nr F (fX n V j) (1 / 50000) ∧ Lm F 13 := by
  obtain ⟨a, ha, he⟩ := h
  obtain ⟨-, -, -, -, nb, lb, -⟩ := rn_ok n j h1 h6 hj
  have hb := dotS_bd h1 h6 hj hV n (Nat.le_refl _)
  have hn6 := nat_le_rat h6
  have hn0 := nat_le_rat (Nat.zero_le n)
  have e6 : ((6 : Nat) : Rat) = 6 := rfl
  have e0 : ((0 : Nat) : Rat) = 0 := rfl
  rw [e6] at hn6
  rw [e0] at hn0
  have hb2 : Lm (dotS n j V n) 12 := hb.le (by grind)
  have ha2 : Lm a (12 + 1 / 100) := (hb2.of he).le (by grind)
  have hp := ha2.mul lb
  obtain ⟨y, F, g, n2, r⟩ := mulM ha nb (M := 13) ⟨by grind, by grind⟩ (by unfold Lm at hp; grind) (by unfold Lm at hp; grind)
  rw [un32] at r
  have hm := Nr.mul he (Nr.refl (BY n j)) hb2 lb
  have e2 : fX n V j = dotS n j V n * BY n j := by unfold fX; grind
  have hF : Nr F (fX n V j) (1 / 50000) := by
    rw [e2]
    exact (r.trans hm).le (by grind)
  refine ⟨y, F, g, n2, hF, ?_⟩
  have h3 : Lm (fX n V j) 12 := by rw [e2]; exact (hb2.mul lb).le (by grind)
  exact (h3.of hF).le (by grind)
end Go.Proofs.Ytlpibibpckkjhaa
namespace Go.Proofs.Ytlpibibpckkjhaa
open Go.RowKit
def ptL (n m : Nat) : List Nat := (List.range m).map (ptN n)
theorem map_range_succ (f : Nat → Nat) (k : Nat) : (List.range k).map f ++ [f k] = (List.range (k + 1)).map f := by simp [List.range_succ]
theorem map_range_at (f : Nat → Nat) {m k : Nat} (h : k < m) : ((List.range m).map f).getD k 0 = f k := by simp [List.getD, h]
theorem ptL_succ (n k : Nat) : ptL n k ++ [ptN n k] = ptL n (k + 1) := map_range_succ (ptN n) k
@[simp] theorem ptL_len (n m : Nat) : (ptL n m).length = m := by simp [ptL]
theorem ptL_at {n m k : Nat} (h : k < m) : (ptL n m).getD k 0 = ptN n k := map_range_at (ptN n) h
set_option maxRecDepth 100000 in
set_option maxHeartbeats 1600000 in
theorem roundPoints_w (n : Nat) (h1 : 1 ≤ n) (h6 : n ≤ 6) (w : World) :
    Calls Try.prog 63 #[.int .i64 (n : Int)] w fun e w' => ∃ g c, e = .returned (.slice (some ⟨g, 0, none⟩) n c) ∧ Own w' g (g + 1) 25 (some ⟨g, 0, none⟩) (flts (ptL n n)) ∧ w.heap.size ≤ g ∧ g < w'.heap.size ∧ Below w.heap.size w w' := by
  obtain ⟨i0, hi, hz0, hz1, hz2⟩ := info_parts infoF
  go_enter Try.func63, Try.ntmps63
  go_wp2
  have hown0 : (w.alloc (.cells #[] 25)).ownsRow w.heap.size 25 1 (.slice (some ⟨w.heap.size, 0, none⟩) 0 0) 0 (flts (ptL n 0)) := by
    have h := World.ownsRow_made (base := w.heap.size) (e := 25) (size := 1) w #[] 0 (by simp) (by simp [maxLen]) rfl
    simpa [flts, ptL] using h
  have hb0 : Below w.heap.size w (w.alloc (.cells #[] 25)) := (Below.refl _ _).alloc (Nat.le_refl _) _
  go_loopw [3, 4, 7] (fun v _ q wr => ∃ k : Nat, k ≤ n ∧ q = .int .i64 (k : Int) ∧ wr.ownsRow w.heap.size 25 1 v k (flts (ptL n k)) ∧ Below w.heap.size w wr) (fun _ _ q _ => n - (intOf q).toNat)
  case atStart => exact ⟨0, Nat.zero_le _, rfl, hown0, hb0⟩
  case round =>
    obtain ⟨k, hk, rfl, hown, hbr⟩ := hrel
    clear hown0 hb0
    have hsz := hbr.size
    obtain ⟨wo, rfl⟩ : ∃ wo : World, wo = wr := ⟨_, rfl⟩
    obtain ⟨A1, c1, rfl, -, -, -⟩ := Own.of_row hown (Nat.le_refl _)
    by_cases hlt : k < n
    · have hp := (rn_ok n k h1 h6 hlt).1
      unfold ptW at hp
      obtain ⟨q, g1, hp⟩ := bind3 hp
      obtain ⟨y, g2, g3⟩ := bind3 hp
      have j1 := ar32 _ _ _ _ g1
      have j2 := ar32 _ _ _ _ g2
      have HS := SineTurns_w y _ g3
      have hsn := Lib.hid (ptL_succ n k)
      clear g1 g2 g3 hp
      generalize ptN n k = x at *
      go_wp2_with fail
      refine (HS _).mono ?_
      rintro e w2 ⟨rfl, hb2⟩
      have hown2 := ownsRow_kp hown (Kp.of_below (lo := 0) (hi := 0) hb2) (Nat.zero_le _)
      have hsz2 := hb2.size
      go_wp2_with (at_builtin; refine wpList_append_any _ rfl (.tmp 10) (.tmp 21) _ rfl w.heap.size 25 i0 _ 1 4 Try.underlying26 hi hz0 hz1 hz2 rfl (by omega) (.slice A1 k c1) k (flts (ptL n k)) rfl (hown2.alloc _) (w2.heap.size + 1) (some ⟨w2.heap.size, 0, none⟩) 1 1 [.float .f32 x] rfl (reads_new w2 [_] _) (one_flt x) (by simp only [maxLen]; omega) (by omega) (by simp; omega) ?_; intro v1 w3 hown3 hg3 hat3)
      have hb3 : Below w.heap.size w2 w3 := ((Below.refl _ _).alloc (by omega) _).grown hg3 (by simp; omega) (fun j hj => (hown2.lt j hj).1)
      rw [flts_snoc, hsn.out] at hown3
      go_wp2
      go_roundw
      case rel => exact ⟨k + 1, by omega, by go_num, hown3, (hbr.trans (hb2.mono hsz)).trans hb3⟩
      case measure => (simp [intOf]; all_goals omega)
    · obtain rfl : k = n := by omega
      obtain ⟨g, cg, e2, hlg⟩ := World.ownsRow.form hown (by omega)
      cases e2
      have hOw := own_row hown
      go_wp2
      go_ret
      exact ⟨g, c1, rfl, hOw, by omega, by omega, hbr⟩
set_option maxRecDepth 100000 in
theorem RoundPoints_w (n : Nat) (h1 : 1 ≤ n) (h6 : n ≤ 6) (w : World) :
    Calls Try.prog 19 #[.int .i64 (n : Int)] w fun e w' => ∃ g c, e = .returned (.tuple #[.slice (some ⟨g, 0, none⟩) n c, .bool true]) ∧ Own w' g (g + 1) 25 (some ⟨g, 0, none⟩) (flts (ptL n n)) ∧ w.heap.size ≤ g ∧ g < w'.heap.size ∧ Below w.heap.size w w' := by
  have H1 := within_all (n : Int) 1 17
  rw [show (decide ((1 : Int) ≤ (n : Int)) && decide ((n : Int) ≤ 17)) = true by simp; omega] at H1
  have H2 := roundPoints_w n h1 h6
  go_enter Try.func19, Try.ntmps19
  go_wp2_with fail
  refine (H1 _).mono ?_
  rintro e w1 ⟨rfl, rfl⟩
  go_wp2_with fail
  refine (H2 _).mono ?_
  rintro e w2 ⟨g, c, rfl, hO, hg1, hg2, hb⟩
  go_wp2
  go_ret2
  exact ⟨g, c, rfl, hO, hg1, hg2, hb⟩
theorem wrap_mul (j k : Nat) (hj : j ≤ 10) (hk : k ≤ 10) : IntKind.i64.wrap ((j : Int) * (2 * (k : Int) + 1)) = ((j * (2 * k + 1) : Nat) : Int) := by
  have e : (j : Int) * (2 * (k : Int) + 1) = ((j * (2 * k + 1) : Nat) : Int) := by push_cast; rfl
  have h : j * (2 * k + 1) ≤ 10 * 21 := Nat.mul_le_mul hj (by omega)
  rw [e]
  simp only [IntKind.wrap, IntKind.signed, IntKind.bits]
  simp
  omega
set_option maxRecDepth 100000 in
set_option maxHeartbeats 1600000 in
theorem RoundFit_v (n : Nat) (h1 : 1 ≤ n) (h6 : n ≤ 6) (A : Option Addr) (c : Nat) (vs : List Nat) (hl : vs.length = n) (V : Nat → Rat) (hV : ∀ l, l < n → NV .f32 (vs.getD l 0) (V l) ∧ Lm (V l) 2) (w : World) (hr : Reads w w.heap.size 1 A n (flts vs)) :
    Calls Try.prog 20 #[.slice A n c] w fun e w' => ∃ fl g c', e = .returned (.tuple #[.slice (some ⟨g, 0, none⟩) n c', .bool true]) ∧ fl.length = n ∧ (∀ j, j < n → ∃ F, NV .f32 (fl.getD j 0) F ∧ Nr F (fX n V j) (1 / 50000) ∧ Lm F 13) ∧ Own w' g (g + 1) 25 (some ⟨g, 0, none⟩) (flts fl) ∧ w.heap.size ≤ g ∧ g < w'.heap.size ∧ Below w.heap.size w w' := by
  obtain ⟨i0, hi, hz0, hz1, hz2⟩ := info_parts infoF
  have hall : vs.all fin32B = true := List.all_eq_true.2 fun y hy => by
    obtain ⟨k, hk2, rfl⟩ := List.mem_iff_getElem.1 hy
    have h := nv_fin (hV k (by omega)).1
    rw [List.getD, List.getElem?_eq_getElem hk2] at h
    exact h
  have HA := areFinite_b A c w.heap.size vs w (by rw [hl]; exact hr) (Nat.le_refl _) (by omega)
  rw [hall, hl] at HA
  have hst := Lib.hid (fun j l x (hj : j < n) (hl : l < n) (h : DotAt n j V l x) => dot_step h1 h6 hj hl (fun l hl => (hV l hl).2) (hV l hl).1 h)
  have hen := Lib.hid (fun j x (hj : j < n) (h : DotAt n j V n x) => dot_end h1 h6 hj (fun l hl => (hV l hl).2) h)
  clear hall hV
  go_enter Try.func20, Try.ntmps20
  go_wp2_with fail
  (with_reducible refine HA.mono ?_)
  rintro e w1 ⟨rfl, hb1⟩
  clear HA
  have z1 := hb1.size
  have hr1 := hr.below hb1
  clear hr
  go_wp2
  have hown0 : (w1.alloc (.cells #[] 25)).ownsRow w.heap.size 25 1 (.slice (some ⟨w1.heap.size, 0, none⟩) 0 0) 0 (flts []) := by
    have h := World.ownsRow_made (base := w.heap.size) (e := 25) (size := 1) w1 #[] 0 (by omega) (by simp [maxLen]) rfl
    simpa [flts] using h
  have hb0 : Below w1.heap.size w1 (w1.alloc (.cells #[] 25)) := (Below.refl _ _).alloc (Nat.le_refl _) _
  have hF0 : Hid (∀ j, j < 0 → ∃ F, NV .f32 (([] : List Nat).getD j 0) F ∧ Nr F (fX n V j) (1 / 50000) ∧ Lm F 13) := fun j hj => by omega
  go_loopw [5, 6, 7, 8, 9, 10, 26] (fun v _ _ _ _ _ q wr => ∃ j : Nat, j ≤ n ∧ q = .int .i64 (j : Int) ∧ (∃ fl, fl.length = j ∧ Hid (∀ i, i < j → ∃ F, NV .f32 (fl.getD i 0) F ∧ Nr F (fX n V i) (1 / 50000) ∧ Lm F 13) ∧ wr.ownsRow w.heap.size 25 1 v j (flts fl)) ∧ Below w.heap.size w1 wr) (fun _ _ _ _ _ _ q _ => n - (intOf q).toNat)
  case atStart => exact ⟨0, Nat.zero_le _, rfl, ⟨[], rfl, hF0, hown0⟩, (hb0.mono z1)⟩
  case round =>
    obtain ⟨j, hj, rfl, ⟨fl, hfl, hF, hown⟩, hbr⟩ := hrel
    clear hown0 hb0 hF0
    have hsz := hbr.size
    obtain ⟨wo, rfl⟩ : ∃ wo : World, wo = wr := ⟨_, rfl⟩
    obtain ⟨A1, c1, rfl, -, -, hOw⟩ := Own.of_row hown (Nat.le_refl _)
    by_cases hlt : j < n
    · have hro : Reads wo w.heap.size 1 A n (flts vs) := hr1.below hbr
      have hD0 := Lib.hid (dot_zero (n := n) (j := j) (V := V))
      go_wp2
      go_loopw [7, 8, 9, 31] (fun a _ _ q wr => ∃ l x : Nat, l ≤ n ∧ q = .int .i64 (l : Int) ∧ a = .float .f32 x ∧ Hid (DotAt n j V l x) ∧ Below wo.heap.size wo wr) (fun _ _ _ q _ => n - (intOf q).toNat)
      case atStart => exact ⟨0, 0, Nat.zero_le _, rfl, rfl, hD0, Below.refl _ _⟩
      case round =>
        obtain ⟨l, x, hln, rfl, rfl, hDl, hbi⟩ := hrel
        clear hD0
        obtain ⟨w3, rfl⟩ : ∃ w3 : World, w3 = wr := ⟨_, rfl⟩
        by_cases hltl : l < n
        · obtain ⟨p, y, g4, g5, hD2⟩ := hst.out j l x hlt hltl hDl.out
          have hs := (sj_ok n j l h1 h6 hltl hlt).1
          unfold sjW at hs
          obtain ⟨q, g1, hs⟩ := bind3 hs
          obtain ⟨yy, g2, g3⟩ := bind3 hs
          have j1 := ar32 _ _ _ _ g1
          have j2 := ar32 _ _ _ _ g2
          have j4 := ar32 _ _ _ _ g4
          have j5 := ar32 _ _ _ _ g5
          have HS := SineTurns_w yy _ g3
          have hwr := wrap_mul j l (by omega) (by omega)
          obtain ⟨ad, rfl, -, hc1⟩ := flt_atN (hro.below (hbi.mono (by omega))) hl hltl
          replace hD2 := Lib.hid hD2
          have hl0 : (0 : Int) ≤ (l : Int) := by omega
          have hln' : (l : Int) < (n : Int) := by omega
          clear g1 g2 g3 g4 g5 hs hDl
          generalize sjN n j l = sw at *
          generalize vs.getD l 0 = vl at *
          generalize ((j * (2 * l + 1) : Nat) : Int) = jl at *
          go_wp2_with fail
          refine (HS _).mono ?_
          rintro e w4 ⟨rfl, hb4⟩
          go_wp2
          go_roundw
          case rel => exact ⟨l + 1, y, by omega, by go_num, rfl, hD2, hbi.trans (hb4.mono hbi.size)⟩
          case measure => (simp [intOf]; all_goals omega)
        · obtain rfl : l = n := by omega
          obtain ⟨y, F, g6, nF, rF, lF⟩ := hen.out j x hlt hDl.out
          have hby := (rn_ok l j h1 h6 hlt).2.2.2.1
          have j6 := ar32 _ _ _ _ g6
          have hown3 := ownsRow_kp hown (Kp.of_below (lo := 0) (hi := 0) hbi) (Nat.zero_le _)
          have z3 := hbi.size
          have hF2 : Hid (∀ i, i < j + 1 → ∃ F, NV .f32 ((fl ++ [y]).getD i 0) F ∧ Nr F (fX l V i) (1 / 50000) ∧ Lm F 13) := fun i hi => by
            by_cases e : i = j
            · subst e
              refine ⟨F, ?_, rF, lF⟩
              rw [← hfl]
              simpa [List.getD] using nF
            · obtain ⟨F', a1, a2, a3⟩ := hF.out i (by omega)
              refine ⟨F', ?_, a2, a3⟩
              have : (fl ++ [y]).getD i 0 = fl.getD i 0 := by
                simp only [List.getD]
                rw [List.getElem?_append_left (by omega)]
              rw [this]; exact a1
          clear g6 nF rF lF hDl hst hen hro hown hOw
          by_cases hj0 : j = 0
          · subst hj0
            unfold byW at hby
            rw [if_pos rfl] at hby
            have j8 : ∀ w, (binOp .quo 25 (.float .f32 1073741824) (.float .f32 (floatOfInt .f32 (l : Int)))).run Try.prog w = .ok (.float .f32 ((fb .quo 1073741824 (floatOfInt .f32 (l : Int))).getD 0)) w := fun w => by
              have h2 : (fb .quo 1073741824 (floatOfInt .f32 (l : Int))) = some ((fb .quo 1073741824 (floatOfInt .f32 (l : Int))).getD 0) := by
                have key : ∀ n ∈ List.range 7, n = 0 ∨ (fb .quo 1073741824 (floatOfInt .f32 (n : Int))) = some ((fb .quo 1073741824 (floatOfInt .f32 (n : Int))).getD 0) := by decide +kernel
                rcases key l (List.mem_range.2 (by omega)) with h | h
                · omega
                · exact h
              exact ar32 _ _ _ _ h2 w
            have j7 := ar32 _ _ _ _ hby
            generalize (fb .quo 1073741824 (floatOfInt .f32 (l : Int))).getD 0 = two at *
            clear hby
            generalize byN l 0 = bw at *
            go_wp2_with (at_builtin; refine wpList_append_any _ rfl (.tmp 61) (.tmp 65) _ rfl w.heap.size 25 i0 _ 1 4 Try.underlying26 hi hz0 hz1 hz2 rfl (by omega) (.slice A1 0 c1) 0 (flts fl) rfl (hown3.alloc _) (w3.heap.size + 1) (some ⟨w3.heap.size, 0, none⟩) 1 1 [.float .f32 y] rfl (reads_new w3 [_] _) (one_flt y) (by simp only [maxLen]; omega) (by omega) (by simp; omega) ?_; intro v1 w5 hown5 hg5 hat5)
            have hb5 : Below w.heap.size w3 w5 := ((Below.refl _ _).alloc (by omega) _).grown hg5 (by simp; omega) (fun j hj => (hown3.lt j hj).1)
            rw [flts_snoc] at hown5
            go_wp2
            go_roundw
            case rel => exact ⟨0 + 1, by omega, by go_num, ⟨fl ++ [y], by simp [hfl], hF2, hown5⟩, (hbr.trans (hbi.mono (by omega))).trans hb5⟩
            case measure => (simp [intOf]; all_goals omega)
          · unfold byW at hby
            rw [if_neg hj0] at hby
            have j7 := ar32 _ _ _ _ hby
            have hjn : ((j : Int) == 0) = false := by simp; omega
            have hjn2 : ¬ (j : Int) = 0 := by omega
            clear hby
            generalize byN l j = bw at *
            go_wp2_with (at_builtin; refine wpList_append_any _ rfl (.tmp 61) (.tmp 65) _ rfl w.heap.size 25 i0 _ 1 4 Try.underlying26 hi hz0 hz1 hz2 rfl (by omega) (.slice A1 j c1) j (flts fl) rfl (hown3.alloc _) (w3.heap.size + 1) (some ⟨w3.heap.size, 0, none⟩) 1 1 [.float .f32 y] rfl (reads_new w3 [_] _) (one_flt y) (by simp only [maxLen]; omega) (by omega) (by simp; omega) ?_; intro v1 w5 hown5 hg5 hat5)
            have hb5 : Below w.heap.size w3 w5 := ((Below.refl _ _).alloc (by omega) _).grown hg5 (by simp; omega) (fun j hj => (hown3.lt j hj).1)
            rw [flts_snoc] at hown5
            go_wp2
            go_roundw
            case rel => exact ⟨j + 1, by omega, by go_num, ⟨fl ++ [y], by simp [hfl], hF2, hown5⟩, (hbr.trans (hbi.mono (by omega))).trans hb5⟩
            case measure => (simp [intOf]; all_goals omega)
    · obtain rfl : j = n := by omega
      obtain ⟨g, cg, e2, hlg⟩ := World.ownsRow.form hown (by omega)
      cases e2
      have hOg := own_row hown
      have hfin : fl.all fin32B = true := List.all_eq_true.2 fun y hy => by
        obtain ⟨k, hk2, rfl⟩ := List.mem_iff_getElem.1 hy
        obtain ⟨F, h, -, -⟩ := hF.out k (by omega)
        have h := nv_fin h
        rw [List.getD, List.getElem?_eq_getElem hk2] at h
        exact h
      have HA := areFinite_b (some ⟨g, 0, none⟩) c1 wo.heap.size fl wo (hOg.reads' (by omega) (by simp)) (Nat.le_refl _) (by omega)
      rw [hfin, hfl] at HA
      clear hst hen hfin
      go_wp2_with fail
      (with_reducible refine HA.mono ?_)
      rintro e w3 ⟨rfl, hb3⟩
      have z3 := hb3.size
      go_wp2
      go_ret2
      exact ⟨fl, g, c1, rfl, hfl, hF.out, hOg.below hb3 (by omega), by omega, by omega, (hb1.trans (hbr.mono (by omega))).trans (hb3.mono (by omega))⟩
end Go.Proofs.Ytlpibibpckkjhaa
