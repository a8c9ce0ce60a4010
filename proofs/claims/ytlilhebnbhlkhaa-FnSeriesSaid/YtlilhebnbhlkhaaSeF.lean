/-
  The root, the logarithm and powers of a series, by words (impl.RootSeries, LogSeries, PowerSeries).
-/
import Derived.Test.YtlilhebnbhlkhaaSeE
namespace Go.Proofs.Ytlilhebnbhlkhaa
open Go.RowKit

/-- The root of a series that begins with 1. -/
structure RootR (a o : List (Nat × Nat)) : Prop where
  len : o.length = a.length
  z : o.getD 0 (0, 0) = (1065353216, 0)
  at_ : ∀ k, 1 ≤ k → k < o.length → ∃ s d, mixN o o k 1 (k - 1) = some s ∧ minusW (a.getD k (0, 0)) s = some d ∧ scaleW d 1056964608 = some (o.getD k (0, 0))
set_option maxRecDepth 100000 in
set_option maxHeartbeats 1600000 in
theorem rootSeries_ok (A : Option Addr) (c n : Nat) (a o : List (Nat × Nat)) (ha : Ser a n) (ho : Ser o n) (h0 : a.getD 0 (0, 0) = (1065353216, 0)) (h : RootR a o) (w : World) (hr : Reads w w.heap.size 1 A n (cplx a)) :
    Calls Try.prog 24 #[.slice A n c] w fun e w' => ∃ g c'', e = .returned (.tuple #[.slice (some ⟨g, 0, none⟩) n c'', .bool true]) ∧ n ≤ c'' ∧ CV w' g o ∧ w.heap.size ≤ g ∧ Below w.heap.size w w' := by
  obtain ⟨i0, hi, hz0, hz1, hz2⟩ := info_parts infoC
  have HS := isSeries_y A c w.heap.size n a ha w hr (Nat.le_refl _)
  obtain ⟨hlen, hz, hat⟩ := h
  have hn1 := ha.n1
  have hn2 := ha.n2
  have hal := ha.len
  have hol := ho.len
  obtain ⟨q1, q2, q3⟩ := one_order
  replace hat := Lib.hid hat
  replace hz := Lib.hid hz
  clear ha hlen
  go_enter Try.func24, Try.ntmps24
  go_wp2_with fail
  refine HS.mono ?_
  rintro e w1 ⟨rfl, hb1⟩
  clear HS
  have hr1 := hr.below hb1
  have z1 := hb1.size
  obtain ⟨ad, rfl, hadB, hc1⟩ := comp_at (l := a) (k := 0) (by rw [hal]; exact hr1) (by omega)
  rw [h0, adz] at hc1
  have hn3 : (0 : Int) < (n : Int) := by omega
  have hn4 : 0 < n := by omega
  go_wp2_with (at_make; refine wpList_make_full _ rfl _ _ _ rfl w1.heap.size 26 i0 (.complex .f32 0 0) 1 Try.underlying24 hi hz0 hz1 .i64 .i64 _ _ n rfl rfl (by omega) (by omega) (by rw [hz2]; omega) (by unfold maxLen; omega) (by omega) ?_; intro w2 hown2 hg2; have hb3 : Below w1.heap.size w1 w2 := (Below.refl _ _).grown hg2 (Nat.le_refl _) (by simp); rw [made_zero] at hown2; have hV2 := CV.of_row hown2; have hfr := hV2.frozen 0; have hc3 := hV2.cell (i := 0) (by simp; omega); clear hown2 hg2)
  obtain ⟨O, hO⟩ : ∃ O, O = w1.heap.size := ⟨_, rfl⟩
  rw [← hO] at hV2 ⊢
  have hOl : w.heap.size ≤ O := by omega
  have hb4 : Below w.heap.size w w2 := hb1.trans (hb3.mono z1)
  have hV4 := CV.set hV2 (i := 0) (by simp; omega) 1065353216 0
  have hb5 := below_set hb4 (a := ⟨O, 0, none⟩) hOl (.complex .f32 1065353216 0)
  have hs0 : Hid (∀ j, j < 1 → ((List.replicate n ((0, 0) : Nat × Nat)).set 0 (1065353216, 0)).getD j (0, 0) = o.getD j (0, 0)) := fun j hj => by
    obtain rfl : j = 0 := by omega
    rw [getD_set _ _ _ _ _ (by simp; omega), if_pos rfl, hz.out]
  have hsl : ((List.replicate n ((0, 0) : Nat × Nat)).set 0 (1065353216, 0)).length = n := by simp
  generalize (List.replicate n ((0, 0) : Nat × Nat)).set 0 (1065353216, 0) = s0 at *
  clear hb1 hb3 z1 hr1 hc1 hO hz hfr hc3 hV2 hb4
  go_loopw [5] (fun q wr => ∃ k : Nat, 1 ≤ k ∧ k ≤ n ∧ q = .int .i64 (k : Int) ∧ (∃ s : List (Nat × Nat), s.length = n ∧ Hid (∀ j, j < k → s.getD j (0, 0) = o.getD j (0, 0)) ∧ CV wr O s) ∧ Below w.heap.size w wr) (fun q _ => n - (intOf q).toNat)
  case atStart => exact ⟨1, Nat.le_refl _, hn1, rfl, ⟨s0, hsl, hs0, hV4⟩, hb5⟩
  case round =>
    obtain ⟨k, hk1, hk, rfl, ⟨s, hsl', hs, hVs⟩, hbr⟩ := hrel
    obtain ⟨wo, rfl⟩ : ∃ wo : World, wo = wr := ⟨_, rfl⟩
    clear hV4 hb5 hs0 hsl
    have zo := hbr.size
    have hro := hr.below hbr
    by_cases hlt : k < n
    · obtain ⟨sm, m, g1, g2, g3⟩ := hat.out k hk1 (by omega)
      have hwk : IntKind.i64.wrap ((k : Int) - 1) = ((k - 1 : Nat) : Int) := by
        rw [show (k : Int) - 1 = ((k - 1 : Nat) : Int) by omega]
        exact IntWalk.i64_in _ (by omega)
      have hx : mixN s s k 1 (k - 1) = some sm := by
        rw [← g1]
        exact mixN_congr (k - 1) (fun j hj => hs.out _ (by omega)) (fun j hj => hs.out _ (by omega))
      have hrs := hVs.rd hsl'
      have HX := fun (W : World) (hW : ∃ q, W = wo.drewN q) => mixed_w (some ⟨O, 0, none⟩) (some ⟨O, 0, none⟩) n n wo.heap.size n n k 1 (k - 1) 1 ((k - 1 : Nat) : Int) s s hsl' hsl' sm (by omega) (by omega) (by omega) (by omega) (by omega) (by omega) (by omega) hx W (by obtain ⟨q, rfl⟩ := hW; exact hrs.drewN q) (by obtain ⟨q, rfl⟩ := hW; exact hrs.drewN q)
      have H1 := minusW_calls g2
      have H2 := scaleW_calls g3
      obtain ⟨ad2, e2, -, hc1⟩ := comp_at (l := a) (k := k) (by rw [hal]; exact hro) (by omega)
      cases e2
      have hfo := hVs.frozen k
      have hck := hVs.cell (i := k) (by omega)
      have hkn : (k : Int) < (n : Int) := by omega
      have hk0 : (0 : Int) ≤ (k : Int) := by omega
      have hVd := fun q => Lib.hid (CV.set (CV.drewN hVs q) (i := k) (by omega) (o.getD k (0, 0)).1 (o.getD k (0, 0)).2)
      have hbn := fun q => Lib.hid (below_set (below_drewN hbr q) (a := ⟨O, k, none⟩) hOl (.complex .f32 (o.getD k (0, 0)).1 (o.getD k (0, 0)).2))
      have hn5 : Hid (∀ j, j < k + 1 → (s.set k ((o.getD k (0, 0)).1, (o.getD k (0, 0)).2)).getD j (0, 0) = o.getD j (0, 0)) := fun j hj => by
        rw [getD_set _ _ _ _ _ (by omega)]
        split
        · rename_i e; rw [e]
        · exact hs.out j (by omega)
      have hsl2 : (s.set k ((o.getD k (0, 0)).1, (o.getD k (0, 0)).2)).length = n := by rw [List.length_set, hsl']
      clear hs hVs hr hro hat g1 g2 g3 hx hrs
      generalize o.getD k (0, 0) = Y at *
      generalize a.getD k (0, 0) = X at *
      go_wp2_with fail
      go_region_with (first | (go_at_call 52; (with_reducible refine (HX _ ?_).mono ?_); exact ⟨1, rfl⟩; rintro e w6 ⟨rfl, q, rfl⟩) | (go_at_call 47; refine (H1 _).mono ?_; rintro e w6 ⟨rfl, rfl⟩) | (go_at_call 71; refine (H2 _).mono ?_; rintro e w6 ⟨rfl, rfl⟩))
      all_goals
        go_wp2
        exact ⟨⟨k + 1, by omega, by omega, by go_num, ⟨_, hsl2, hn5, (hVd _).out⟩, (hbn _).out⟩, by simp [intOf]; omega⟩
    · obtain rfl : k = n := by omega
      have he := eq_of_at hsl' hol hs.out
      subst he
      have HC := checkedSeries_y (some ⟨O, 0, none⟩) k wo.heap.size k s ho wo (hVs.rd hsl') (Nat.le_refl _)
      have hVl := hVs.lt
      clear hs hat hr hro
      go_wp2_with fail
      refine HC.mono ?_
      rintro e w6 ⟨rfl, hb6⟩
      go_wp2
      go_ret2
      exact ⟨O, k, rfl, Nat.le_refl _, hVs.below hb6 hVl, hOl, hbr.trans (hb6.mono zo)⟩
theorem logSeries_ok (A : Option Addr) (c n : Nat) (a s i q o : List (Nat × Nat)) (ha : Ser a n) (hs : Ser s n) (hi : Ser i n) (hq : Ser q n) (ho : Ser o n) (h0 : a.getD 0 (0, 0) = (1065353216, 0)) (h1 : SlopeR a s) (h2 : InvR a i) (h3 : MulR s i q) (h4 : RiseR q o) (w : World) (hr : Reads w w.heap.size 1 A n (cplx a)) :
    Calls Try.prog 23 #[.slice A n c] w fun e w' => ∃ g c'', e = .returned (.tuple #[.slice (some ⟨g, 0, none⟩) n c'', .bool true]) ∧ n ≤ c'' ∧ CV w' g o ∧ w.heap.size ≤ g ∧ Below w.heap.size w w' := by
  have HS := isSeries_y A c w.heap.size n a ha w hr (Nat.le_refl _)
  have hn1 := ha.n1
  have hal := ha.len
  obtain ⟨q1, q2, q3⟩ := one_order
  go_enter Try.func23, Try.ntmps23
  go_wp2_with fail
  refine HS.mono ?_
  rintro e w1 ⟨rfl, hb1⟩
  clear HS
  have hr1 : Reads w1 w1.heap.size 1 A n (cplx a) := (hr.below hb1).more hb1.size
  have z1 := hb1.size
  have HL := slopeSeries_ok A c n a s ha hs h1 w1 hr1
  obtain ⟨ad, rfl, hadB, hc1⟩ := comp_at (l := a) (k := 0) (by rw [hal]; exact hr1) (by omega)
  rw [h0, adz] at hc1
  have hn3 : (0 : Int) < (n : Int) := by omega
  have hn4 : 0 < n := by omega
  go_wp2_with fail
  (with_reducible refine HL.mono ?_)
  rintro e w2 ⟨gs, cs, rfl, hcs, hVs, hgs, hb2⟩
  have HD := divSeries_ok (some ⟨gs, 0, none⟩) (some ad) cs c n s a i q hs ha hi hq h0 h2 h3 w2 (hVs.rd hs.len) ((hr1.below hb2).more hb2.size)
  have hb3 := hb1.trans (hb2.mono z1)
  clear HL hc1 hb2
  go_wp2_with fail
  (with_reducible refine HD.mono ?_)
  rintro e w3 ⟨gq, cq, rfl, hcq, hVq, hgq, hb4⟩
  have HR := riseSeries_ok (some ⟨gq, 0, none⟩) cq n q o hq ho h4 w3 (hVq.rd hq.len)
  have hb5 := hb3.trans (hb4.mono hb3.size)
  clear HD hb4 hb3
  go_wp2_with fail
  (with_reducible refine HR.mono ?_)
  rintro e w4 ⟨go, co, rfl, hco, hVo, hgo, hb6⟩
  have z5 := hb5.size
  go_wp2
  go_ret2
  exact ⟨go, co, rfl, hco, hVo, by omega, hb5.trans (hb6.mono z5)⟩
end Go.Proofs.Ytlilhebnbhlkhaa
