/-
  The exponential of a series, by words (impl.ExpSeries).
-/
import Derived.Test.YtlilhebnbhlkhaaSeD
namespace Go.Proofs.Ytlilhebnbhlkhaa
open Go.RowKit

/-- What an exponential's term is made of, out of its first summands. -/
def expN (a b : List (Nat × Nat)) (k : Nat) : Nat → Option (Nat × Nat)
  | 0 => some (0, 0)
  | m + 1 => (expN a b k m).bind fun s => (scaleW (a.getD (m + 1) (0, 0)) (floatOfInt .f32 ((m + 1 : Nat) : Int))).bind fun t => (mulW t (b.getD (k - (m + 1)) (0, 0))).bind fun p => plusW s p
theorem expN_upto {a b : List (Nat × Nat)} {k : Nat} {r : Nat × Nat} {m : Nat} (h : expN a b k m = some r) : ∀ j, j ≤ m → ∃ s, expN a b k j = some s := by
  induction m generalizing r with
  | zero =>
    intro j hj
    obtain rfl : j = 0 := by omega
    exact ⟨r, h⟩
  | succ m ih =>
    intro j hj
    have h' := h
    rw [expN, Option.bind_eq_some_iff] at h
    obtain ⟨s, h1, -⟩ := h
    by_cases e : j = m + 1
    · subst e
      exact ⟨r, h'⟩
    · exact ih h1 j (by omega)
theorem expN_step {a b : List (Nat × Nat)} {k m : Nat} {s r : Nat × Nat} (h : expN a b k (m + 1) = some r) (hs : expN a b k m = some s) : ∃ t p, scaleW (a.getD (m + 1) (0, 0)) (floatOfInt .f32 ((m + 1 : Nat) : Int)) = some t ∧ mulW t (b.getD (k - (m + 1)) (0, 0)) = some p ∧ plusW s p = some r := by
  rw [expN, hs, Option.bind_some, Option.bind_eq_some_iff] at h
  obtain ⟨t, h1, h2⟩ := h
  rw [Option.bind_eq_some_iff] at h2
  obtain ⟨p, h2, h3⟩ := h2
  exact ⟨t, p, h1, h2, h3⟩
theorem expN_congr {a b b' : List (Nat × Nat)} {k : Nat} : ∀ m, (∀ j, j < m → b.getD (k - (j + 1)) (0, 0) = b'.getD (k - (j + 1)) (0, 0)) → expN a b k m = expN a b' k m
  | 0, _ => rfl
  | m + 1, h => by
    rw [expN, expN, expN_congr m (fun j hj => h j (by omega)), h m (by omega)]
structure ExpR (a o : List (Nat × Nat)) : Prop where
  len : o.length = a.length
  z : o.getD 0 (0, 0) = (1065353216, 0)
  at_ : ∀ k, 1 ≤ k → k < o.length → ∃ s, expN a o k k = some s ∧ partW s k = some (o.getD k (0, 0))
set_option maxRecDepth 100000 in
set_option maxHeartbeats 1600000 in
theorem expSeries_ok (A : Option Addr) (c n : Nat) (a o : List (Nat × Nat)) (ha : Ser a n) (ho : Ser o n) (h0 : a.getD 0 (0, 0) = (0, 0)) (h : ExpR a o) (w : World) (hr : Reads w w.heap.size 1 A n (cplx a)) :
    Calls Try.prog 22 #[.slice A n c] w fun e w' => ∃ g c'', e = .returned (.tuple #[.slice (some ⟨g, 0, none⟩) n c'', .bool true]) ∧ n ≤ c'' ∧ CV w' g o ∧ w.heap.size ≤ g ∧ Below w.heap.size w w' := by
  obtain ⟨i0, hi, hz0, hz1, hz2⟩ := info_parts infoC
  have HS := isSeries_y A c w.heap.size n a ha w hr (Nat.le_refl _)
  obtain ⟨hlen, hz, hat⟩ := h
  have hn1 := ha.n1
  have hn2 := ha.n2
  have hal := ha.len
  have hol := ho.len
  obtain ⟨q1, q2, q3⟩ := one_order
  replace hat := Lib.hid hat
  replace hz := Lib.hid hz
  clear ha hlen
  go_enter Try.func22, Try.ntmps22
  go_wp2_with fail
  refine HS.mono ?_
  rintro e w1 ⟨rfl, hb1⟩
  clear HS
  have hr1 := hr.below hb1
  have z1 := hb1.size
  obtain ⟨ad, rfl, hadB, hc1⟩ := comp_at (l := a) (k := 0) (by rw [hal]; exact hr1) (by omega)
  rw [h0, adz] at hc1
  have hn3 : (0 : Int) < (n : Int) := by omega
  have hn4 : 0 < n := by omega
  go_wp2_with (at_make; refine wpList_make_full _ rfl _ _ _ rfl w1.heap.size 26 i0 (.complex .f32 0 0) 1 Try.underlying24 hi hz0 hz1 .i64 .i64 _ _ n rfl rfl (by omega) (by omega) (by rw [hz2]; omega) (by unfold maxLen; omega) (by omega) ?_; intro w2 hown2 hg2; have hb3 : Below w1.heap.size w1 w2 := (Below.refl _ _).grown hg2 (Nat.le_refl _) (by simp); rw [made_zero] at hown2; have hV2 := CV.of_row hown2; have hfr := hV2.frozen 0; have hc3 := hV2.cell (i := 0) (by simp; omega); clear hown2 hg2)
  obtain ⟨O, hO⟩ : ∃ O, O = w1.heap.size := ⟨_, rfl⟩
  rw [← hO] at hV2 ⊢
  have hOl : w.heap.size ≤ O := by omega
  have hb4 : Below w.heap.size w w2 := hb1.trans (hb3.mono z1)
  have hV4 := CV.set hV2 (i := 0) (by simp; omega) 1065353216 0
  have hb5 := below_set hb4 (a := ⟨O, 0, none⟩) hOl (.complex .f32 1065353216 0)
  have hs0 : Hid (∀ j, j < 1 → ((List.replicate n ((0, 0) : Nat × Nat)).set 0 (1065353216, 0)).getD j (0, 0) = o.getD j (0, 0)) := fun j hj => by
    obtain rfl : j = 0 := by omega
    rw [getD_set _ _ _ _ _ (by simp; omega), if_pos rfl, hz.out]
  have hsl : ((List.replicate n ((0, 0) : Nat × Nat)).set 0 (1065353216, 0)).length = n := by simp
  generalize (List.replicate n ((0, 0) : Nat × Nat)).set 0 (1065353216, 0) = s0 at *
  clear hb1 hb3 z1 hr1 hc1 hO hz hfr hc3 hV2 hb4
  go_loopw [5, 6, 7] (fun q _ _ wr => ∃ k : Nat, 1 ≤ k ∧ k ≤ n ∧ q = .int .i64 (k : Int) ∧ (∃ s : List (Nat × Nat), s.length = n ∧ Hid (∀ j, j < k → s.getD j (0, 0) = o.getD j (0, 0)) ∧ CV wr O s) ∧ Below w.heap.size w wr) (fun q _ _ _ => n - (intOf q).toNat)
  case atStart => exact ⟨1, Nat.le_refl _, hn1, rfl, ⟨s0, hsl, hs0, hV4⟩, hb5⟩
  case round =>
    obtain ⟨k, hk1, hk, rfl, ⟨s, hsl', hs, hVs⟩, hbr⟩ := hrel
    obtain ⟨wo, rfl⟩ : ∃ wo : World, wo = wr := ⟨_, rfl⟩
    clear hV4 hb5 hs0 hsl
    have zo := hbr.size
    have hro := hr.below hbr
    by_cases hlt : k < n
    · obtain ⟨sm, g1, g2⟩ := hat.out k hk1 (by omega)
      have hx : expN a s k k = some sm := by
        rw [← g1]
        exact expN_congr k (fun j hj => hs.out _ (by omega))
      have hrs := hVs.rd hsl'
      have H2 := partW_calls g2
      have hkn : (k : Int) < (n : Int) := by omega
      have hk0 : (0 : Int) ≤ (k : Int) := by omega
      have hx0 : Hid (expN a s k 0 = some (0, 0)) := rfl
      replace hx := Lib.hid hx
      have hVd := fun q => Lib.hid (CV.set (CV.drewN hVs q) (i := k) (by omega) (o.getD k (0, 0)).1 (o.getD k (0, 0)).2)
      have hbn := fun q => Lib.hid (below_set (below_drewN hbr q) (a := ⟨O, k, none⟩) hOl (.complex .f32 (o.getD k (0, 0)).1 (o.getD k (0, 0)).2))
      have hn5 : Hid (∀ j, j < k + 1 → (s.set k ((o.getD k (0, 0)).1, (o.getD k (0, 0)).2)).getD j (0, 0) = o.getD j (0, 0)) := fun j hj => by
        rw [getD_set _ _ _ _ _ (by omega)]
        split
        · rename_i e; rw [e]
        · exact hs.out j (by omega)
      have hsl2 : (s.set k ((o.getD k (0, 0)).1, (o.getD k (0, 0)).2)).length = n := by rw [List.length_set, hsl']
      clear hs hat g1 g2
      generalize o.getD k (0, 0) = Y at *
      go_wp2
      go_loopw [6, 7] (fun v q wr => ∃ (j : Nat) (x : Nat × Nat), j ≤ k ∧ q = .int .i64 ((j : Int) + 1) ∧ v = .complex .f32 x.1 x.2 ∧ Hid (expN a s k j = some x) ∧ ∃ q, wr = wo.drewN q) (fun _ q _ => (k + 1) - (intOf q).toNat)
      case atStart => exact ⟨0, (0, 0), Nat.zero_le _, rfl, rfl, hx0, 0, rfl⟩
      case round =>
        obtain ⟨j, x, hj, rfl, rfl, hxj, dq, hW⟩ := hrel
        clear hx0
        by_cases hlt2 : j < k
        · obtain ⟨sn, hsn⟩ := expN_upto hx.out (j + 1) (by omega)
          obtain ⟨tt, p, g1, g2, g3⟩ := expN_step hsn hxj.out
          have H1 := scaleW_calls g1
          have H3 := mulW_calls g2
          have H4 := plusW_calls g3
          have hrw : Reads wr w.heap.size 1 (some ad) n (cplx a) := by rw [hW]; exact hro.drewN _
          have hrw' : Reads wr wo.heap.size 1 (some ⟨O, 0, none⟩) n (cplx s) := by rw [hW]; exact hrs.drewN _
          obtain ⟨ad1, e1, -, hc1⟩ := comp_at (l := a) (k := j + 1) (by rw [hal]; exact hrw) (by omega)
          cases e1
          obtain ⟨ad2, e2, -, hc2⟩ := comp_at (l := s) (k := k - (j + 1)) (by rw [hsl']; exact hrw') (by omega)
          cases e2
          rw [add0] at hc2
          have hsn2 : Hid (expN a s k (j + 1) = some sn) := hsn
          have hWq : Hid (wr = wo.drewN dq) := hW
          have hle : (j : Int) + 1 ≤ (k : Int) := by omega
          have f1 : ((j + 1 : Nat) : Int) < (n : Int) := by omega
          have f2 : (0 : Int) ≤ ((j + 1 : Nat) : Int) := by omega
          have f3 : j + 1 < n := by omega
          have wk : IntKind.i64.wrap ((k : Int) - ((j + 1 : Nat) : Int)) = ((k - (j + 1) : Nat) : Int) := by
            rw [show (k : Int) - ((j + 1 : Nat) : Int) = ((k - (j + 1) : Nat) : Int) by omega]
            exact IntWalk.i64_in _ (by omega)
          have f4 : ((k - (j + 1) : Nat) : Int) < (n : Int) := by omega
          have f5 : (0 : Int) ≤ ((k - (j + 1) : Nat) : Int) := by omega
          have f6 : k - (j + 1) < n := by omega
          have e3 : (j : Int) + 1 = ((j + 1 : Nat) : Int) := by omega
          clear hr hro hrs hrw hrw' hW g1 g2 g3 hsn hxj hx hVs hVd hbn H2 hn5
          rw [e3] at hle ⊢
          generalize a.getD (j + 1) (0, 0) = X1 at *
          generalize s.getD (k - (j + 1)) (0, 0) = X2 at *
          generalize hi' : j + 1 = i at *
          replace hi' := Lib.hid hi'
          generalize hki : k - i = l at *
          replace hki := Lib.hid hki
          go_wp2_with fail
          go_big_quiet ((first | (go_at_call 71; with_reducible exact Calls.quiet_of_same (H1 _)) | (go_at_call 50; with_reducible exact Calls.quiet_of_same (H3 _)) | (go_at_call 66; with_reducible exact Calls.quiet_of_same (H4 _))))
          go_wp2
          go_roundw
          case rel => exact ⟨i, sn, by have := hi'.out; omega, by go_num, rfl, hsn2, dq + nq, by rw [hWq.out, World.drewN_drewN]⟩
          case measure => (have := hi'.out; simp [intOf]; all_goals omega)
        · obtain rfl : j = k := by omega
          have he : x = sm := by
            have := hxj.out
            rw [hx.out] at this
            exact (Option.some.inj this).symm
          subst he
          have hle : ¬ (j : Int) + 1 ≤ (j : Int) := by omega
          have hfo := hVs.frozen j
          have hck := hVs.cell (i := j) (by omega)
          subst hW
          clear hr hro hrs hx hxj hVs
          go_wp2_with fail
          refine (H2 _).mono ?_
          rintro e w6 ⟨rfl, rfl⟩
          go_wp2
          go_roundw
          case rel => exact ⟨j + 1, by omega, by omega, by go_num, ⟨_, hsl2, hn5, (hVd _).out⟩, (hbn _).out⟩
          case measure => (simp [intOf]; all_goals omega)
    · obtain rfl : k = n := by omega
      have he := eq_of_at hsl' hol hs.out
      subst he
      have HC := checkedSeries_y (some ⟨O, 0, none⟩) k wo.heap.size k s ho wo (hVs.rd hsl') (Nat.le_refl _)
      have hVl := hVs.lt
      clear hs hat hr hro
      go_wp2_with fail
      refine HC.mono ?_
      rintro e w6 ⟨rfl, hb6⟩
      go_wp2
      go_ret2
      exact ⟨O, k, rfl, Nat.le_refl _, hVs.below hb6 hVl, hOl, hbr.trans (hb6.mono zo)⟩
end Go.Proofs.Ytlilhebnbhlkhaa
