/-
  Contracts: the sine of a number of turns between a quarter and three quarters: its terms (impl.sine), and the 32-bit sine (impl.SineTurns).
-/
import Derived.Test.YtlpibibpckkjhaaEvnS
namespace Go.Proofs.Ytlpibibpckkjhaa
open Go.RowKit

theorem neg64 (x : Nat) (w : World) : (Op.unary .neg (.float .f64 x)).run Try.prog w = .ok (.float .f64 (Op.negFloat .f64 x)) w := rfl
/-- A small whole number as a 64-bit number. -/
def kk (j : Nat) : Nat := floatOfInt .f64 (j : Int)
def kBack (v : Value) : Nat := match v with
  | .float _ b => ((List.range 9).find? fun j => kk j == b).getD 0
  | _ => 0
theorem kk_facts (j : Nat) (h : j < 8) : (FloatKind.f64.format.order (kk (j + 1)) 4607182418800017408 == some .gt || FloatKind.f64.format.order (kk (j + 1)) 4607182418800017408 == some .eq) = true ∧
    fd .mul 4611686018427387904 (kk (j + 1)) = some (kk (2 * (j + 1))) ∧ fd .add (kk (2 * (j + 1))) 4607182418800017408 = some (kk (2 * (j + 1) + 1)) ∧ fd .mul (kk (2 * (j + 1))) (kk (2 * (j + 1) + 1)) = some (kk (2 * (j + 1) * (2 * (j + 1) + 1))) ∧
    fd .sub (kk (j + 1)) 4607182418800017408 = some (kk j) ∧ kBack (.float .f64 (kk (j + 1))) = j + 1 ∧ kBack (.float .f64 (kk j)) = j := by
  have key : ∀ j ∈ List.range 8, (FloatKind.f64.format.order (kk (j + 1)) 4607182418800017408 == some .gt || FloatKind.f64.format.order (kk (j + 1)) 4607182418800017408 == some .eq) = true ∧
    fd .mul 4611686018427387904 (kk (j + 1)) = some (kk (2 * (j + 1))) ∧ fd .add (kk (2 * (j + 1))) 4607182418800017408 = some (kk (2 * (j + 1) + 1)) ∧ fd .mul (kk (2 * (j + 1))) (kk (2 * (j + 1) + 1)) = some (kk (2 * (j + 1) * (2 * (j + 1) + 1))) ∧
    fd .sub (kk (j + 1)) 4607182418800017408 = some (kk j) ∧ kBack (.float .f64 (kk (j + 1))) = j + 1 ∧ kBack (.float .f64 (kk j)) = j := by decide +kernel
  exact key j (List.mem_range.2 h)
theorem kk_end : (FloatKind.f64.format.order (kk 0) 4607182418800017408 == some .gt || FloatKind.f64.format.order (kk 0) 4607182418800017408 == some .eq) = false := by decide +kernel
theorem kk_eight : kk 8 = 4620693217682128896 := by decide +kernel

set_option maxRecDepth 100000 in
set_option maxHeartbeats 800000 in
theorem sine_any (y r : Nat) (h : sineO y = some r) (w : World) :
    Calls Try.prog 97 #[.float .f64 y] w fun e w' => e = .returned (.float .f64 r) ∧ w' = w := by
  obtain ⟨hg, hways⟩ := sine_parts h
  have H := partOfTurn_any y (goodY_of hg) w
  clear h hg
  rcases hways with ⟨hl, f, f1, hC⟩ | ⟨f, r', f1, hh, hC, rfl⟩
  · unfold lowY at hl
    simp only [Bool.and_eq_true, beq_iff_eq] at hl
    have k1 : (FloatKind.f64.format.order y 4602678819172646912 == some .gt || FloatKind.f64.format.order y 4602678819172646912 == some .eq) = false := by rw [hl.1]; rfl
    have k2 : (FloatKind.f64.format.order y 4598175219545276416 == some .gt) = true := by rw [hl.2]; rfl
    have k3 := ar64 _ _ _ _ f1
    obtain ⟨z, u, p, g1, g2, g3, g4⟩ := sineC_parts hC
    have j1 := ar64 _ _ _ _ g1
    have j2 := ar64 _ _ _ _ g2
    have j4 := ar64 _ _ _ _ g4
    have hT := Lib.hid g3
    clear hl f1 g1 g2 g3 g4 hC
    go_enter Try.func97, Try.ntmps97
    go_wp2_with fail
    refine H.mono ?_
    rintro e w1 ⟨rfl, rfl⟩
    go_wp2
    rw [← kk_eight]
    go_loopw [7, 8] (fun pv kv wr => ∃ j pc, j ≤ 8 ∧ kv = .float .f64 (kk j) ∧ pv = .float .f64 pc ∧ Hid (sineTO u j pc = some p) ∧ wr = w1) (fun _ kv _ => kBack kv)
    case atStart => exact ⟨8, _, Nat.le_refl _, rfl, rfl, hT, rfl⟩
    case round =>
      obtain ⟨j, pc, hj, rfl, rfl, hs, rfl⟩ := hrel
      clear hT H k1 k2 k3 j1 j2
      match j with
      | 0 =>
        have ke := kk_end
        have e := hs.out
        unfold sineTO at e
        cases e
        go_wp2
        go_ret
        exact ⟨rfl, rfl⟩
      | j + 1 =>
        obtain ⟨a1, a2, a3, a4, a5, a6, a7⟩ := kk_facts j (by omega)
        obtain ⟨t, q, p1, b1, b2, b3, b4⟩ := sineT_parts hs.out
        have hT2 := Lib.hid b4
        have c2 := ar64 _ _ _ _ a2
        have c3 := ar64 _ _ _ _ a3
        have c4 := ar64 _ _ _ _ a4
        have c5 := ar64 _ _ _ _ a5
        have d1 := ar64 _ _ _ _ b1
        have d2 := ar64 .quo t (kk (2 * (j + 1) * (2 * (j + 1) + 1))) q b2
        have d3 := ar64 _ _ _ _ b3
        clear a2 a3 a4 a5 b1 b2 b3 b4 hs
        go_wp2
        exact ⟨⟨j, p1, by omega, rfl, rfl, hT2, trivial⟩, by rw [a6, a7]; omega⟩
  · unfold highY at hh
    simp only [Bool.and_eq_true, Bool.or_eq_true, beq_iff_eq] at hh
    have k1 : (FloatKind.f64.format.order y 4602678819172646912 == some .gt || FloatKind.f64.format.order y 4602678819172646912 == some .eq) = true := by rcases hh.1 with e | e <;> rw [e] <;> rfl
    have kn := neg64 r'
    have k2 : (FloatKind.f64.format.order f 4598175219545276416 == some .gt) = false := by rw [hh.2]; rfl
    have k3 := ar64 _ _ _ _ f1
    obtain ⟨z, u, p, g1, g2, g3, g4⟩ := sineC_parts hC
    have j1 := ar64 _ _ _ _ g1
    have j2 := ar64 _ _ _ _ g2
    have j4 := ar64 _ _ _ _ g4
    have hT := Lib.hid g3
    clear hh f1 g1 g2 g3 g4 hC
    go_enter Try.func97, Try.ntmps97
    go_wp2_with fail
    refine H.mono ?_
    rintro e w1 ⟨rfl, rfl⟩
    go_wp2
    rw [← kk_eight]
    go_loopw [7, 8] (fun pv kv wr => ∃ j pc, j ≤ 8 ∧ kv = .float .f64 (kk j) ∧ pv = .float .f64 pc ∧ Hid (sineTO u j pc = some p) ∧ wr = w1) (fun _ kv _ => kBack kv)
    case atStart => exact ⟨8, _, Nat.le_refl _, rfl, rfl, hT, rfl⟩
    case round =>
      obtain ⟨j, pc, hj, rfl, rfl, hs, rfl⟩ := hrel
      clear hT H k1 k2 k3 j1 j2
      match j with
      | 0 =>
        have ke := kk_end
        have e := hs.out
        unfold sineTO at e
        cases e
        go_wp2
        go_ret
        exact ⟨rfl, rfl⟩
      | j + 1 =>
        obtain ⟨a1, a2, a3, a4, a5, a6, a7⟩ := kk_facts j (by omega)
        obtain ⟨t, q, p1, b1, b2, b3, b4⟩ := sineT_parts hs.out
        have hT2 := Lib.hid b4
        have c2 := ar64 _ _ _ _ a2
        have c3 := ar64 _ _ _ _ a3
        have c4 := ar64 _ _ _ _ a4
        have c5 := ar64 _ _ _ _ a5
        have d1 := ar64 _ _ _ _ b1
        have d2 := ar64 .quo t (kk (2 * (j + 1) * (2 * (j + 1) + 1))) q b2
        have d3 := ar64 _ _ _ _ b3
        clear a2 a3 a4 a5 b1 b2 b3 b4 hs
        go_wp2
        exact ⟨⟨j, p1, by omega, rfl, rfl, hT2, trivial⟩, by rw [a6, a7]; omega⟩
theorem SineTurns_any (x0 y r x : Nat) (hf : fin32B x0 = true) (h1 : floatToFloatBits .f32 x0 .f64 = some y) (h2 : sineO y = some r) (h3 : floatToFloatBits .f64 r .f32 = some x) (w : World) :
    Calls Try.prog 64 #[.float .f32 x0] w fun e w' => e = .returned (.float .f32 x) ∧ Below w.heap.size w w' := by
  have H1 := isFinite_b x0 w
  have H2 := isHuge_any y (goodY_of (sine_parts h2).1)
  have H3 := sine_any y r h2
  have c1 := cv64 _ _ h1
  have c2 := cv32 _ _ h3
  rw [hf] at H1
  clear hf h1 h2 h3
  go_enter Try.func64, Try.ntmps64
  go_wp2_with fail
  refine H1.mono ?_
  rintro e w1 ⟨rfl, hb⟩
  go_wp2_with fail
  refine (H2 w1).mono ?_
  rintro e w2 ⟨rfl, rfl⟩
  go_wp2_with fail
  refine (H3 w2).mono ?_
  rintro e w3 ⟨rfl, rfl⟩
  go_wp2
  go_ret
  exact ⟨rfl, hb⟩
end Go.Proofs.Ytlpibibpckkjhaa
