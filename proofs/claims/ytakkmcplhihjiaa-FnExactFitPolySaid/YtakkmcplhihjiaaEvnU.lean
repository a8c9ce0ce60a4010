/-
  Contracts: the reference's sine of a number of turns between a quarter and three quarters (spec.l01SineWide, l06Cosine).
-/
import Derived.Test.YtakkmcplhihjiaaEvnT
namespace Go.Proofs.Ytakkmcplhihjiaa
open Go.RowKit

set_option maxRecDepth 100000 in
set_option maxHeartbeats 1600000 in
theorem l01SineWide_any (y r : Nat) (h : sineO y = some r) (w : World) :
    Calls Try.prog 41 #[.float .f64 y] w fun e w' => e = .returned (.float .f64 r) ∧ w' = w := by
  obtain ⟨hg, hways⟩ := sine_parts h
  have hG := goodY_of hg
  have m1 := ar64 _ _ _ _ hG.sub
  have m2 : (FloatKind.f64.format.order 0 0 != some .eq) = false := by decide +kernel
  have m3 : (FloatKind.f64.format.order y 4841369599423283200 == some .gt || FloatKind.f64.format.order y 4841369599423283200 == some .eq) = false := by rw [hG.lt]; rfl
  have m4 : (FloatKind.f64.format.order y 14064741636278059008 == some .lt || FloatKind.f64.format.order y 14064741636278059008 == some .eq) = false := by rw [hG.gt]; rfl
  have m5 := cvI y 0 hG.int
  have m6 : floatOfInt .f64 0 = 0 := by decide +kernel
  have m7 := ar64 _ _ _ _ hG.sub0
  have m8 : (FloatKind.f64.format.order y 0 == some .lt) = false := by rw [hG.pos]; rfl
  clear h hg hG
  rcases hways with ⟨hl, f, f1, hC⟩ | ⟨f, r', f1, hh, hC, rfl⟩
  · unfold lowY at hl
    simp only [Bool.and_eq_true, beq_iff_eq] at hl
    have k1 : (FloatKind.f64.format.order y 4602678819172646912 == some .gt || FloatKind.f64.format.order y 4602678819172646912 == some .eq) = false := by rw [hl.1]; rfl
    have k2 : (FloatKind.f64.format.order y 4598175219545276416 == some .gt) = true := by rw [hl.2]; rfl
    clear hl
    have k3 := ar64 _ _ _ _ f1
    obtain ⟨z, u, p, g1, g2, g3, g4⟩ := sineC_parts hC
    have j1 := ar64 _ _ _ _ g1
    have j2 := ar64 _ _ _ _ g2
    have j4 := ar64 _ _ _ _ g4
    have hT := Lib.hid g3
    clear f1 g1 g2 g3 g4 hC
    go_enter Try.func41, Try.ntmps41
    go_wp2
    go_loopw [7, 8] (fun pv kv wr => ∃ j pc : Nat, j ≤ 8 ∧ kv = .int .i64 (j : Int) ∧ pv = .float .f64 pc ∧ Hid (sineTO u j pc = some p) ∧ wr = w) (fun _ kv _ => (intOf kv).toNat)
    case atStart => exact ⟨8, _, Nat.le_refl _, rfl, rfl, hT, rfl⟩
    case round =>
      obtain ⟨j, pc, hj, rfl, rfl, hs, rfl⟩ := hrel
      clear hT k1 k2 k3 j1 j2 m1 m2 m3 m4 m5 m6 m7 m8
      by_cases h0 : j = 0
      · subst h0
        have e := hs.out
        unfold sineTO at e
        cases e
        go_wp2
        go_ret
        exact ⟨rfl, rfl⟩
      · obtain rfl | rfl | rfl | rfl | rfl | rfl | rfl | rfl : j = 0 + 1 ∨ j = 1 + 1 ∨ j = 2 + 1 ∨ j = 3 + 1 ∨ j = 4 + 1 ∨ j = 5 + 1 ∨ j = 6 + 1 ∨ j = 7 + 1 := by omega
        · obtain ⟨t, q, p1, b1, b2, b3, b4⟩ := sineT_parts hs.out
          have hT2 := Lib.hid b4
          have d1 := ar64 _ _ _ _ b1
          have d2 := ar64 .quo t (floatOfInt .f64 6) q b2
          have d3 := ar64 _ _ _ _ b3
          clear b1 b2 b3 b4 hs
          go_wp2
          exact ⟨⟨0, p1, by omega, rfl, rfl, hT2, trivial⟩, by simp [intOf]⟩
        · obtain ⟨t, q, p1, b1, b2, b3, b4⟩ := sineT_parts hs.out
          have hT2 := Lib.hid b4
          have d1 := ar64 _ _ _ _ b1
          have d2 := ar64 .quo t (floatOfInt .f64 20) q b2
          have d3 := ar64 _ _ _ _ b3
          clear b1 b2 b3 b4 hs
          go_wp2
          exact ⟨⟨1, p1, by omega, rfl, rfl, hT2, trivial⟩, by simp [intOf]⟩
        · obtain ⟨t, q, p1, b1, b2, b3, b4⟩ := sineT_parts hs.out
          have hT2 := Lib.hid b4
          have d1 := ar64 _ _ _ _ b1
          have d2 := ar64 .quo t (floatOfInt .f64 42) q b2
          have d3 := ar64 _ _ _ _ b3
          clear b1 b2 b3 b4 hs
          go_wp2
          exact ⟨⟨2, p1, by omega, rfl, rfl, hT2, trivial⟩, by simp [intOf]⟩
        · obtain ⟨t, q, p1, b1, b2, b3, b4⟩ := sineT_parts hs.out
          have hT2 := Lib.hid b4
          have d1 := ar64 _ _ _ _ b1
          have d2 := ar64 .quo t (floatOfInt .f64 72) q b2
          have d3 := ar64 _ _ _ _ b3
          clear b1 b2 b3 b4 hs
          go_wp2
          exact ⟨⟨3, p1, by omega, rfl, rfl, hT2, trivial⟩, by simp [intOf]⟩
        · obtain ⟨t, q, p1, b1, b2, b3, b4⟩ := sineT_parts hs.out
          have hT2 := Lib.hid b4
          have d1 := ar64 _ _ _ _ b1
          have d2 := ar64 .quo t (floatOfInt .f64 110) q b2
          have d3 := ar64 _ _ _ _ b3
          clear b1 b2 b3 b4 hs
          go_wp2
          exact ⟨⟨4, p1, by omega, rfl, rfl, hT2, trivial⟩, by simp [intOf]⟩
        · obtain ⟨t, q, p1, b1, b2, b3, b4⟩ := sineT_parts hs.out
          have hT2 := Lib.hid b4
          have d1 := ar64 _ _ _ _ b1
          have d2 := ar64 .quo t (floatOfInt .f64 156) q b2
          have d3 := ar64 _ _ _ _ b3
          clear b1 b2 b3 b4 hs
          go_wp2
          exact ⟨⟨5, p1, by omega, rfl, rfl, hT2, trivial⟩, by simp [intOf]⟩
        · obtain ⟨t, q, p1, b1, b2, b3, b4⟩ := sineT_parts hs.out
          have hT2 := Lib.hid b4
          have d1 := ar64 _ _ _ _ b1
          have d2 := ar64 .quo t (floatOfInt .f64 210) q b2
          have d3 := ar64 _ _ _ _ b3
          clear b1 b2 b3 b4 hs
          go_wp2
          exact ⟨⟨6, p1, by omega, rfl, rfl, hT2, trivial⟩, by simp [intOf]⟩
        · obtain ⟨t, q, p1, b1, b2, b3, b4⟩ := sineT_parts hs.out
          have hT2 := Lib.hid b4
          have d1 := ar64 _ _ _ _ b1
          have d2 := ar64 .quo t (floatOfInt .f64 272) q b2
          have d3 := ar64 _ _ _ _ b3
          clear b1 b2 b3 b4 hs
          go_wp2
          exact ⟨⟨7, p1, by omega, rfl, rfl, hT2, trivial⟩, by simp [intOf]⟩
  · unfold highY at hh
    simp only [Bool.and_eq_true, Bool.or_eq_true, beq_iff_eq] at hh
    have k1 : (FloatKind.f64.format.order y 4602678819172646912 == some .gt || FloatKind.f64.format.order y 4602678819172646912 == some .eq) = true := by rcases hh.1 with e | e <;> rw [e] <;> rfl
    have k2 : (FloatKind.f64.format.order f 4598175219545276416 == some .gt) = false := by rw [hh.2]; rfl
    clear hh
    have k3 := ar64 _ _ _ _ f1
    obtain ⟨z, u, p, g1, g2, g3, g4⟩ := sineC_parts hC
    have j1 := ar64 _ _ _ _ g1
    have j2 := ar64 _ _ _ _ g2
    have j4 := ar64 _ _ _ _ g4
    have kn := neg64 r'
    have hT := Lib.hid g3
    clear f1 g1 g2 g3 g4 hC
    go_enter Try.func41, Try.ntmps41
    go_wp2
    go_loopw [7, 8] (fun pv kv wr => ∃ j pc : Nat, j ≤ 8 ∧ kv = .int .i64 (j : Int) ∧ pv = .float .f64 pc ∧ Hid (sineTO u j pc = some p) ∧ wr = w) (fun _ kv _ => (intOf kv).toNat)
    case atStart => exact ⟨8, _, Nat.le_refl _, rfl, rfl, hT, rfl⟩
    case round =>
      obtain ⟨j, pc, hj, rfl, rfl, hs, rfl⟩ := hrel
      clear hT k1 k2 k3 j1 j2 m1 m2 m3 m4 m5 m6 m7 m8
      by_cases h0 : j = 0
      · subst h0
        have e := hs.out
        unfold sineTO at e
        cases e
        go_wp2
        go_ret
        exact ⟨rfl, rfl⟩
      · obtain rfl | rfl | rfl | rfl | rfl | rfl | rfl | rfl : j = 0 + 1 ∨ j = 1 + 1 ∨ j = 2 + 1 ∨ j = 3 + 1 ∨ j = 4 + 1 ∨ j = 5 + 1 ∨ j = 6 + 1 ∨ j = 7 + 1 := by omega
        · obtain ⟨t, q, p1, b1, b2, b3, b4⟩ := sineT_parts hs.out
          have hT2 := Lib.hid b4
          have d1 := ar64 _ _ _ _ b1
          have d2 := ar64 .quo t (floatOfInt .f64 6) q b2
          have d3 := ar64 _ _ _ _ b3
          clear b1 b2 b3 b4 hs
          go_wp2
          exact ⟨⟨0, p1, by omega, rfl, rfl, hT2, trivial⟩, by simp [intOf]⟩
        · obtain ⟨t, q, p1, b1, b2, b3, b4⟩ := sineT_parts hs.out
          have hT2 := Lib.hid b4
          have d1 := ar64 _ _ _ _ b1
          have d2 := ar64 .quo t (floatOfInt .f64 20) q b2
          have d3 := ar64 _ _ _ _ b3
          clear b1 b2 b3 b4 hs
          go_wp2
          exact ⟨⟨1, p1, by omega, rfl, rfl, hT2, trivial⟩, by simp [intOf]⟩
        · obtain ⟨t, q, p1, b1, b2, b3, b4⟩ := sineT_parts hs.out
          have hT2 := Lib.hid b4
          have d1 := ar64 _ _ _ _ b1
          have d2 := ar64 .quo t (floatOfInt .f64 42) q b2
          have d3 := ar64 _ _ _ _ b3
          clear b1 b2 b3 b4 hs
          go_wp2
          exact ⟨⟨2, p1, by omega, rfl, rfl, hT2, trivial⟩, by simp [intOf]⟩
        · obtain ⟨t, q, p1, b1, b2, b3, b4⟩ := sineT_parts hs.out
          have hT2 := Lib.hid b4
          have d1 := ar64 _ _ _ _ b1
          have d2 := ar64 .quo t (floatOfInt .f64 72) q b2
          have d3 := ar64 _ _ _ _ b3
          clear b1 b2 b3 b4 hs
          go_wp2
          exact ⟨⟨3, p1, by omega, rfl, rfl, hT2, trivial⟩, by simp [intOf]⟩
        · obtain ⟨t, q, p1, b1, b2, b3, b4⟩ := sineT_parts hs.out
          have hT2 := Lib.hid b4
          have d1 := ar64 _ _ _ _ b1
          have d2 := ar64 .quo t (floatOfInt .f64 110) q b2
          have d3 := ar64 _ _ _ _ b3
          clear b1 b2 b3 b4 hs
          go_wp2
          exact ⟨⟨4, p1, by omega, rfl, rfl, hT2, trivial⟩, by simp [intOf]⟩
        · obtain ⟨t, q, p1, b1, b2, b3, b4⟩ := sineT_parts hs.out
          have hT2 := Lib.hid b4
          have d1 := ar64 _ _ _ _ b1
          have d2 := ar64 .quo t (floatOfInt .f64 156) q b2
          have d3 := ar64 _ _ _ _ b3
          clear b1 b2 b3 b4 hs
          go_wp2
          exact ⟨⟨5, p1, by omega, rfl, rfl, hT2, trivial⟩, by simp [intOf]⟩
        · obtain ⟨t, q, p1, b1, b2, b3, b4⟩ := sineT_parts hs.out
          have hT2 := Lib.hid b4
          have d1 := ar64 _ _ _ _ b1
          have d2 := ar64 .quo t (floatOfInt .f64 210) q b2
          have d3 := ar64 _ _ _ _ b3
          clear b1 b2 b3 b4 hs
          go_wp2
          exact ⟨⟨6, p1, by omega, rfl, rfl, hT2, trivial⟩, by simp [intOf]⟩
        · obtain ⟨t, q, p1, b1, b2, b3, b4⟩ := sineT_parts hs.out
          have hT2 := Lib.hid b4
          have d1 := ar64 _ _ _ _ b1
          have d2 := ar64 .quo t (floatOfInt .f64 272) q b2
          have d3 := ar64 _ _ _ _ b3
          clear b1 b2 b3 b4 hs
          go_wp2
          exact ⟨⟨7, p1, by omega, rfl, rfl, hT2, trivial⟩, by simp [intOf]⟩
theorem l06Cosine_any (a b q x0 y r x : Nat) (f1 : fb .quo a b = some q) (f2 : fb .add q 1048576000 = some x0) (h1 : floatToFloatBits .f32 x0 .f64 = some y) (h2 : sineO y = some r) (h3 : floatToFloatBits .f64 r .f32 = some x) (w : World) :
    Calls Try.prog 17 #[.float .f32 a, .float .f32 b] w fun e w' => e = .returned (.float .f32 x) ∧ w' = w := by
  have H3 := l01SineWide_any y r h2
  have c1 := cv64 _ _ h1
  have c2 := cv32 _ _ h3
  have g1 := ar32 _ _ _ _ f1
  have g2 := ar32 _ _ _ _ f2
  have HN : ∀ w, Calls Try.prog 40 #[.float .f64 r] w fun e w' => e = .returned (.float .f32 x) ∧ w' = w := by
    intro w
    go_enter Try.func40, Try.ntmps40
    go_wp2
    go_ret
    exact ⟨rfl, rfl⟩
  clear f1 f2 h1 h2 h3
  go_enter Try.func17, Try.ntmps17
  go_wp2_with fail
  refine (H3 w).mono ?_
  rintro e w1 ⟨rfl, rfl⟩
  go_wp2_with fail
  refine (HN w1).mono ?_
  rintro e w2 ⟨rfl, rfl⟩
  go_wp2
  go_ret
  exact ⟨rfl, rfl⟩
end Go.Proofs.Ytakkmcplhihjiaa
