/-
  Slopes and rises of series, by words (impl.ScaleComplex, part, SlopeSeries, RiseSeries).
-/
import Derived.Test.YtlilhebnbhlkhaaSeC
namespace Go.Proofs.Ytlilhebnbhlkhaa
open Go.RowKit

def scaleW (x : Nat × Nat) (c : Nat) : Option (Nat × Nat) := (floatBits .mul .f32 x.1 c).bind fun p => (floatBits .mul .f32 x.2 c).bind fun q => some (p, q)
theorem scaleW_calls {x r : Nat × Nat} {c : Nat} (h : scaleW x c = some r) (w : World) :
    Calls Try.prog 71 #[.complex .f32 x.1 x.2, .float .f32 c] w fun e w' => e = .returned (.complex .f32 r.1 r.2) ∧ w' = w := by
  unfold scaleW at h
  simp only [Option.bind_eq_some_iff] at h
  obtain ⟨p, g1, q, g2, e⟩ := h
  cases e
  have j1 := ar32 _ _ _ _ g1
  have j2 := ar32 _ _ _ _ g2
  clear g1 g2
  go_enter Try.func71, Try.ntmps71
  go_wp2
  go_ret
  exact ⟨rfl, rfl⟩
def partW (x : Nat × Nat) (k : Nat) : Option (Nat × Nat) := (floatBits .quo .f32 x.1 (floatOfInt .f32 (k : Int))).bind fun p => (floatBits .quo .f32 x.2 (floatOfInt .f32 (k : Int))).bind fun q => some (p, q)
theorem partW_calls {x r : Nat × Nat} {k : Nat} (h : partW x k = some r) (w : World) :
    Calls Try.prog 72 #[.complex .f32 x.1 x.2, .int .i64 (k : Int)] w fun e w' => e = .returned (.complex .f32 r.1 r.2) ∧ w' = w := by
  unfold partW at h
  simp only [Option.bind_eq_some_iff] at h
  obtain ⟨p, g1, q, g2, e⟩ := h
  cases e
  have j1 := ar32 _ _ _ _ g1
  have j2 := ar32 _ _ _ _ g2
  clear g1 g2
  go_enter Try.func72, Try.ntmps72
  go_wp2
  go_ret
  exact ⟨rfl, rfl⟩
structure SlopeR (a o : List (Nat × Nat)) : Prop where
  len : o.length = a.length
  at_ : ∀ k, k + 1 < o.length → scaleW (a.getD (k + 1) (0, 0)) (floatOfInt .f32 ((k + 1 : Nat) : Int)) = some (o.getD k (0, 0))
  z : o.getD (o.length - 1) (0, 0) = (0, 0)
structure RiseR (a o : List (Nat × Nat)) : Prop where
  len : o.length = a.length
  z : o.getD 0 (0, 0) = (0, 0)
  at_ : ∀ k, 1 ≤ k → k < o.length → partW (a.getD (k - 1) (0, 0)) k = some (o.getD k (0, 0))
theorem zeros_at {n : Nat} : ∀ j, j < n → (List.replicate n ((0, 0) : Nat × Nat)).getD j (0, 0) = (0, 0) := fun j hj => by simp [List.getD, hj]
set_option maxRecDepth 100000 in
set_option maxHeartbeats 1600000 in
theorem slopeSeries_ok (A : Option Addr) (c n : Nat) (a o : List (Nat × Nat)) (ha : Ser a n) (ho : Ser o n) (h : SlopeR a o) (w : World) (hr : Reads w w.heap.size 1 A n (cplx a)) :
    Calls Try.prog 26 #[.slice A n c] w fun e w' => ∃ g c'', e = .returned (.tuple #[.slice (some ⟨g, 0, none⟩) n c'', .bool true]) ∧ n ≤ c'' ∧ CV w' g o ∧ w.heap.size ≤ g ∧ Below w.heap.size w w' := by
  obtain ⟨i0, hi, hz0, hz1, hz2⟩ := info_parts infoC
  have HS := isSeries_y A c w.heap.size n a ha w hr (Nat.le_refl _)
  obtain ⟨hlen, hat, hz⟩ := h
  have hn1 := ha.n1
  have hn2 := ha.n2
  have hal := ha.len
  have hol := ho.len
  replace hat := Lib.hid hat
  replace hz := Lib.hid hz
  clear ha hlen
  obtain ⟨N, hN⟩ : ∃ N, N + 1 = n := ⟨n - 1, by omega⟩
  have hwn : IntKind.i64.wrap ((n : Int) - 1) = (N : Int) := by
    rw [show (n : Int) - 1 = (N : Int) by omega]
    exact IntWalk.i64_in _ (by omega)
  go_enter Try.func26, Try.ntmps26
  go_wp2_with fail
  refine HS.mono ?_
  rintro e w1 ⟨rfl, hb1⟩
  clear HS
  have z1 := hb1.size
  go_wp2_with (at_make; refine wpList_make_full _ rfl _ _ _ rfl w1.heap.size 26 i0 (.complex .f32 0 0) 1 Try.underlying24 hi hz0 hz1 .i64 .i64 _ _ n rfl rfl (by omega) (by omega) (by rw [hz2]; omega) (by unfold maxLen; omega) (by omega) ?_; intro w2 hown2 hg2)
  have hb3 : Below w1.heap.size w1 w2 := (Below.refl _ _).grown hg2 (Nat.le_refl _) (by simp)
  rw [made_zero] at hown2
  have hV2 := CV.of_row hown2
  obtain ⟨O, hO⟩ : ∃ O, O = w1.heap.size := ⟨_, rfl⟩
  rw [← hO] at hV2 ⊢
  have hOl : w.heap.size ≤ O := by omega
  have hb4 : Below w.heap.size w w2 := hb1.trans (hb3.mono z1)
  have hs0 : Hid (∀ j, j < n → (List.replicate n ((0, 0) : Nat × Nat)).getD j (0, 0) = (0, 0)) := zeros_at
  have hsl : (List.replicate n ((0, 0) : Nat × Nat)).length = n := by simp
  clear hb1 hb3 z1 hO hown2 hg2
  generalize List.replicate n ((0, 0) : Nat × Nat) = s0 at *
  go_wp2_with fail
  go_loopw [5, 15] (fun _ q wr => ∃ k : Nat, k ≤ N ∧ q = .int .i64 (k : Int) ∧ (∃ s : List (Nat × Nat), s.length = n ∧ Hid (∀ j, j < k → s.getD j (0, 0) = o.getD j (0, 0)) ∧ Hid (∀ j, k ≤ j → j < n → s.getD j (0, 0) = (0, 0)) ∧ CV wr O s) ∧ Below w.heap.size w wr) (fun _ q _ => N - (intOf q).toNat)
  case atStart => exact ⟨0, Nat.zero_le _, rfl, ⟨s0, hsl, fun j hj => absurd hj (Nat.not_lt_zero _), fun j _ hj => hs0.out j hj, hV2⟩, hb4⟩
  case round =>
    obtain ⟨k, hk, rfl, ⟨s, hsl', hs, hs2, hVs⟩, hbr⟩ := hrel
    obtain ⟨wo, rfl⟩ : ∃ wo : World, wo = wr := ⟨_, rfl⟩
    clear hV2 hb4 hs0 hsl
    have zo := hbr.size
    have hro := hr.below hbr
    by_cases hlt : k < N
    · have H1 := scaleW_calls (hat.out k (by omega))
      obtain ⟨ad, rfl, -, hc1⟩ := comp_at (l := a) (k := k + 1) (by rw [hal]; exact hro) (by omega)
      have hfo := hVs.frozen k
      have hck := hVs.cell (i := k) (by omega)
      have hkn : (k : Int) < (N : Int) := by omega
      have hk0 : (0 : Int) ≤ (k : Int) := by omega
      have hwk : IntKind.i64.wrap ((k : Int) + 1) = ((k + 1 : Nat) : Int) := by
        rw [show (k : Int) + 1 = ((k + 1 : Nat) : Int) by omega]
        exact IntWalk.i64_in _ (by omega)
      have f1 : ((k + 1 : Nat) : Int) < (n : Int) := by omega
      have f2 : (0 : Int) ≤ ((k + 1 : Nat) : Int) := by omega
      have f3 : k + 1 < n := by omega
      have f4 : (k : Int) < (n : Int) := by omega
      have f5 : k < n := by omega
      have hVd := Lib.hid (CV.set hVs (i := k) (by omega) (o.getD k (0, 0)).1 (o.getD k (0, 0)).2)
      have hbn := Lib.hid (below_set hbr (a := ⟨O, k, none⟩) hOl (.complex .f32 (o.getD k (0, 0)).1 (o.getD k (0, 0)).2))
      have hn5 : Hid (∀ j, j < k + 1 → (s.set k ((o.getD k (0, 0)).1, (o.getD k (0, 0)).2)).getD j (0, 0) = o.getD j (0, 0)) := fun j hj => by
        rw [getD_set _ _ _ _ _ (by omega)]
        split
        · rename_i e; rw [e]
        · exact hs.out j (by omega)
      have hn6 : Hid (∀ j, k + 1 ≤ j → j < n → (s.set k ((o.getD k (0, 0)).1, (o.getD k (0, 0)).2)).getD j (0, 0) = (0, 0)) := fun j h1 h2 => by
        rw [getD_set _ _ _ _ _ (by omega), if_neg (by omega)]
        exact hs2.out j (by omega) h2
      have hsl2 : (s.set k ((o.getD k (0, 0)).1, (o.getD k (0, 0)).2)).length = n := by rw [List.length_set, hsl']
      clear hs hs2 hVs hr hro hat hz
      generalize o.getD k (0, 0) = Y at *
      generalize a.getD (k + 1) (0, 0) = X at *
      generalize hkk : k + 1 = K at *
      replace hkk := Lib.hid hkk
      go_wp2_with fail
      refine (H1 _).mono ?_
      rintro e w6 ⟨rfl, rfl⟩
      go_wp2
      exact ⟨⟨K, by have := hkk.out; omega, rfl, ⟨_, hsl2, hn5, hn6, hVd.out⟩, hbn.out⟩, by have := hkk.out; simp [intOf]; omega⟩
    · obtain rfl : k = N := by omega
      have he : s = o := eq_of_at hsl' hol fun j hj => by
        by_cases e : j < k
        · exact hs.out j e
        · rw [hs2.out j (by omega) hj, show j = o.length - 1 by omega, hz.out]
      subst he
      have HC := checkedSeries_y (some ⟨O, 0, none⟩) n wo.heap.size n s ho wo (hVs.rd hsl') (Nat.le_refl _)
      have hVl := hVs.lt
      clear hs hs2 hat hr hro hz
      go_wp2_with fail
      refine HC.mono ?_
      rintro e w6 ⟨rfl, hb6⟩
      go_wp2
      go_ret2
      exact ⟨O, n, rfl, Nat.le_refl _, hVs.below hb6 hVl, hOl, hbr.trans (hb6.mono zo)⟩
set_option maxRecDepth 100000 in
set_option maxHeartbeats 1600000 in
theorem riseSeries_ok (A : Option Addr) (c n : Nat) (a o : List (Nat × Nat)) (ha : Ser a n) (ho : Ser o n) (h : RiseR a o) (w : World) (hr : Reads w w.heap.size 1 A n (cplx a)) :
    Calls Try.prog 25 #[.slice A n c] w fun e w' => ∃ g c'', e = .returned (.tuple #[.slice (some ⟨g, 0, none⟩) n c'', .bool true]) ∧ n ≤ c'' ∧ CV w' g o ∧ w.heap.size ≤ g ∧ Below w.heap.size w w' := by
  obtain ⟨i0, hi, hz0, hz1, hz2⟩ := info_parts infoC
  have HS := isSeries_y A c w.heap.size n a ha w hr (Nat.le_refl _)
  obtain ⟨hlen, hz, hat⟩ := h
  have hn1 := ha.n1
  have hn2 := ha.n2
  have hal := ha.len
  have hol := ho.len
  replace hat := Lib.hid hat
  replace hz := Lib.hid hz
  clear ha hlen
  go_enter Try.func25, Try.ntmps25
  go_wp2_with fail
  refine HS.mono ?_
  rintro e w1 ⟨rfl, hb1⟩
  clear HS
  have z1 := hb1.size
  go_wp2_with (at_make; refine wpList_make_full _ rfl _ _ _ rfl w1.heap.size 26 i0 (.complex .f32 0 0) 1 Try.underlying24 hi hz0 hz1 .i64 .i64 _ _ n rfl rfl (by omega) (by omega) (by rw [hz2]; omega) (by unfold maxLen; omega) (by omega) ?_; intro w2 hown2 hg2)
  have hb3 : Below w1.heap.size w1 w2 := (Below.refl _ _).grown hg2 (Nat.le_refl _) (by simp)
  rw [made_zero] at hown2
  have hV2 := CV.of_row hown2
  obtain ⟨O, hO⟩ : ∃ O, O = w1.heap.size := ⟨_, rfl⟩
  rw [← hO] at hV2 ⊢
  have hOl : w.heap.size ≤ O := by omega
  have hb4 : Below w.heap.size w w2 := hb1.trans (hb3.mono z1)
  have hs0 : Hid (∀ j, j < n → (List.replicate n ((0, 0) : Nat × Nat)).getD j (0, 0) = (0, 0)) := zeros_at
  have hsl : (List.replicate n ((0, 0) : Nat × Nat)).length = n := by simp
  clear hb1 hb3 z1 hO hown2 hg2
  generalize List.replicate n ((0, 0) : Nat × Nat) = s0 at *
  go_wp2_with fail
  go_loopw [5] (fun q wr => ∃ k : Nat, 1 ≤ k ∧ k ≤ n ∧ q = .int .i64 (k : Int) ∧ (∃ s : List (Nat × Nat), s.length = n ∧ Hid (∀ j, j < k → s.getD j (0, 0) = o.getD j (0, 0)) ∧ CV wr O s) ∧ Below w.heap.size w wr) (fun q _ => n - (intOf q).toNat)
  case atStart => exact ⟨1, Nat.le_refl _, hn1, rfl, ⟨s0, hsl, fun j hj => by rw [show j = 0 by omega, hz.out]; exact hs0.out 0 (by omega), hV2⟩, hb4⟩
  case round =>
    obtain ⟨k, hk1, hk, rfl, ⟨s, hsl', hs, hVs⟩, hbr⟩ := hrel
    obtain ⟨wo, rfl⟩ : ∃ wo : World, wo = wr := ⟨_, rfl⟩
    clear hV2 hb4 hs0 hsl
    have zo := hbr.size
    have hro := hr.below hbr
    by_cases hlt : k < n
    · have H1 := partW_calls (hat.out k hk1 (by omega))
      obtain ⟨ad, rfl, -, hc1⟩ := comp_at (l := a) (k := k - 1) (by rw [hal]; exact hro) (by omega)
      have hfo := hVs.frozen k
      have hck := hVs.cell (i := k) (by omega)
      have hk0 : (0 : Int) ≤ (k : Int) := by omega
      have hwk : IntKind.i64.wrap ((k : Int) - 1) = ((k - 1 : Nat) : Int) := by
        rw [show (k : Int) - 1 = ((k - 1 : Nat) : Int) by omega]
        exact IntWalk.i64_in _ (by omega)
      have f1 : ((k - 1 : Nat) : Int) < (n : Int) := by omega
      have f2 : (0 : Int) ≤ ((k - 1 : Nat) : Int) := by omega
      have f3 : k - 1 < n := by omega
      have f4 : (k : Int) < (n : Int) := by omega
      have hVd := Lib.hid (CV.set hVs (i := k) (by omega) (o.getD k (0, 0)).1 (o.getD k (0, 0)).2)
      have hbn := Lib.hid (below_set hbr (a := ⟨O, k, none⟩) hOl (.complex .f32 (o.getD k (0, 0)).1 (o.getD k (0, 0)).2))
      have hn5 : Hid (∀ j, j < k + 1 → (s.set k ((o.getD k (0, 0)).1, (o.getD k (0, 0)).2)).getD j (0, 0) = o.getD j (0, 0)) := fun j hj => by
        rw [getD_set _ _ _ _ _ (by omega)]
        split
        · rename_i e; rw [e]
        · exact hs.out j (by omega)
      have hsl2 : (s.set k ((o.getD k (0, 0)).1, (o.getD k (0, 0)).2)).length = n := by rw [List.length_set, hsl']
      clear hs hVs hr hro hat hz
      generalize o.getD k (0, 0) = Y at *
      generalize a.getD (k - 1) (0, 0) = X at *
      generalize hkk : k - 1 = K at *
      replace hkk := Lib.hid hkk
      go_wp2_with fail
      refine (H1 _).mono ?_
      rintro e w6 ⟨rfl, rfl⟩
      go_wp2
      exact ⟨⟨k + 1, by omega, by omega, by go_num, ⟨_, hsl2, hn5, hVd.out⟩, hbn.out⟩, by simp [intOf]; omega⟩
    · obtain rfl : k = n := by omega
      have he := eq_of_at hsl' hol hs.out
      subst he
      have HC := checkedSeries_y (some ⟨O, 0, none⟩) k wo.heap.size k s ho wo (hVs.rd hsl') (Nat.le_refl _)
      have hVl := hVs.lt
      clear hs hat hr hro hz
      go_wp2_with fail
      refine HC.mono ?_
      rintro e w6 ⟨rfl, hb6⟩
      go_wp2
      go_ret2
      exact ⟨O, k, rfl, Nat.le_refl _, hVs.below hb6 hVl, hOl, hbr.trans (hb6.mono zo)⟩
end Go.Proofs.Ytlilhebnbhlkhaa
