/-
  The inverse of a series, by words (impl.InverseSeries, DivSeries).
-/
import Derived.Test.YtlilhebnbhlkhaaSeB
namespace Go.Proofs.Ytlilhebnbhlkhaa
open Go.RowKit

theorem mixN_congr {a b a' b' : List (Nat × Nat)} {k f : Nat} : ∀ m, (∀ j, j < m → a.getD (f + j) (0, 0) = a'.getD (f + j) (0, 0)) → (∀ j, j < m → b.getD (k - (f + j)) (0, 0) = b'.getD (k - (f + j)) (0, 0)) → mixN a b k f m = mixN a' b' k f m
  | 0, _, _ => rfl
  | m + 1, h1, h2 => by
    rw [mixN, mixN, mixN_congr m (fun j hj => h1 j (by omega)) (fun j hj => h2 j (by omega)), h1 m (by omega), h2 m (by omega)]
/-- The inverse of a series that begins with 1. -/
structure InvR (a o : List (Nat × Nat)) : Prop where
  len : o.length = a.length
  z : quoW (1065353216, 0) (1065353216, 0) = some (o.getD 0 (0, 0))
  at_ : ∀ k, 1 ≤ k → k < o.length → ∃ s m, mixN a o k 1 k = some s ∧ minusW (0, 0) s = some m ∧ quoW m (1065353216, 0) = some (o.getD k (0, 0))
theorem CV.drewN {w : World} {g : Nat} {l : List (Nat × Nat)} (h : CV w g l) (n : Nat) : CV (w.drewN n) g l := h
theorem one_order : FloatKind.f32.format.order 1065353216 0 = some .gt ∧ FloatKind.f32.format.order 0 0 = some .eq ∧ FloatKind.f32.format.order 1065353216 1065353216 = some .eq := by decide +kernel
theorem eq_of_at {s o : List (Nat × Nat)} {n : Nat} (h1 : s.length = n) (h2 : o.length = n) (h : ∀ j, j < n → s.getD j (0, 0) = o.getD j (0, 0)) : s = o := by
  refine List.ext_getElem (by omega) fun j k1 k2 => ?_
  have := h j (by omega)
  simpa [List.getD, List.getElem?_eq_getElem k1, List.getElem?_eq_getElem k2] using this
set_option maxRecDepth 100000 in
set_option maxHeartbeats 1600000 in
theorem inverseSeries_ok (A : Option Addr) (c n : Nat) (a o : List (Nat × Nat)) (ha : Ser a n) (ho : Ser o n) (h0 : a.getD 0 (0, 0) = (1065353216, 0)) (h : InvR a o) (w : World) (hr : Reads w w.heap.size 1 A n (cplx a)) :
    Calls Try.prog 20 #[.slice A n c] w fun e w' => ∃ g c'', e = .returned (.tuple #[.slice (some ⟨g, 0, none⟩) n c'', .bool true]) ∧ n ≤ c'' ∧ CV w' g o ∧ w.heap.size ≤ g ∧ Below w.heap.size w w' := by
  obtain ⟨i0, hi, hz0, hz1, hz2⟩ := info_parts infoC
  have HS := isSeries_y A c w.heap.size n a ha w hr (Nat.le_refl _)
  obtain ⟨hlen, hz, hat⟩ := h
  have hn1 := ha.n1
  have hn2 := ha.n2
  have hal := ha.len
  have hol := ho.len
  obtain ⟨q1, q2, -⟩ := one_order
  have HQ0 := quoW_calls hz
  replace hat := Lib.hid hat
  clear hz ha hlen
  go_enter Try.func20, Try.ntmps20
  go_wp2_with fail
  refine HS.mono ?_
  rintro e w1 ⟨rfl, hb1⟩
  clear HS
  have hr1 := hr.below hb1
  have z1 := hb1.size
  obtain ⟨ad, rfl, hadB, hc1⟩ := comp_at (l := a) (k := 0) (by rw [hal]; exact hr1) (by omega)
  rw [h0] at hc1
  rw [adz] at hc1
  have hn3 : (0 : Int) < (n : Int) := by omega
  have hn4 : 0 < n := by omega
  go_wp2_with (at_make; refine wpList_make_full _ rfl _ _ _ rfl w1.heap.size 26 i0 (.complex .f32 0 0) 1 Try.underlying24 hi hz0 hz1 .i64 .i64 _ _ n rfl rfl (by omega) (by omega) (by rw [hz2]; omega) (by unfold maxLen; omega) (by omega) ?_; intro w2 hown2 hg2; have hb3 : Below w1.heap.size w1 w2 := (Below.refl _ _).grown hg2 (Nat.le_refl _) (by simp); rw [made_zero] at hown2; have hc2 := (hb3.cell (p := ad) (by omega)).trans hc1; have hV2 := CV.of_row hown2; clear hown2 hg2)
  refine (HQ0 _).mono ?_
  rintro e w3 ⟨rfl, rfl⟩
  clear HQ0
  obtain ⟨O, hO⟩ : ∃ O, O = w1.heap.size := ⟨_, rfl⟩
  rw [← hO] at hV2 ⊢
  have hOl : w.heap.size ≤ O := by omega
  have hb4 : Below w.heap.size w w3 := hb1.trans (hb3.mono z1)
  have hfr := hV2.frozen 0
  have hc3 := hV2.cell (i := 0) (by simp; omega)
  clear hb1 hb3 z1 hr1 hc1 hO
  have hV4 := CV.set hV2 (i := 0) (by simp; omega) (o.getD 0 (0, 0)).1 (o.getD 0 (0, 0)).2
  have hb5 := below_set hb4 (a := ⟨O, 0, none⟩) hOl (.complex .f32 (o.getD 0 (0, 0)).1 (o.getD 0 (0, 0)).2)
  have hs0 : Hid (∀ j, j < 1 → ((List.replicate n ((0, 0) : Nat × Nat)).set 0 ((o.getD 0 (0, 0)).1, (o.getD 0 (0, 0)).2)).getD j (0, 0) = o.getD j (0, 0)) := fun j hj => by
    obtain rfl : j = 0 := by omega
    rw [getD_set _ _ _ _ _ (by simp; omega), if_pos rfl]
  have hsl : ((List.replicate n ((0, 0) : Nat × Nat)).set 0 ((o.getD 0 (0, 0)).1, (o.getD 0 (0, 0)).2)).length = n := by simp
  generalize (List.replicate n ((0, 0) : Nat × Nat)).set 0 ((o.getD 0 (0, 0)).1, (o.getD 0 (0, 0)).2) = s0 at *
  generalize (o.getD 0 (0, 0)).1 = y1 at *
  generalize (o.getD 0 (0, 0)).2 = y2 at *
  go_wp2_with fail
  go_loopw [5] (fun q wr => ∃ k : Nat, 1 ≤ k ∧ k ≤ n ∧ q = .int .i64 (k : Int) ∧ (∃ s : List (Nat × Nat), s.length = n ∧ Hid (∀ j, j < k → s.getD j (0, 0) = o.getD j (0, 0)) ∧ CV wr O s) ∧ Below w.heap.size w wr) (fun q _ => n - (intOf q).toNat)
  case atStart => exact ⟨1, Nat.le_refl _, hn1, rfl, ⟨s0, hsl, hs0, hV4⟩, hb5⟩
  case round =>
    obtain ⟨k, hk1, hk, rfl, ⟨s, hsl', hs, hVs⟩, hbr⟩ := hrel
    obtain ⟨wo, rfl⟩ : ∃ wo : World, wo = wr := ⟨_, rfl⟩
    clear hV4 hV2 hb5 hb4 hs0 hsl hc2 hc3 hfr
    have zo := hbr.size
    have hro := hr.below hbr
    by_cases hlt : k < n
    · obtain ⟨sm, m, g1, g2, g3⟩ := hat.out k hk1 (by omega)
      have hx : mixN a s k 1 k = some sm := by
        rw [← g1]
        exact mixN_congr k (fun _ _ => rfl) (fun j hj => hs.out _ (by omega))
      have hrs := hVs.rd hsl'
      have HX := fun (W : World) (hW : ∃ q, W = wo.drewN q) => mixed_w (some ad) (some ⟨O, 0, none⟩) c n wo.heap.size n n k 1 k 1 (k : Int) a s hal hsl' sm (by omega) (by omega) (by omega) (by omega) (by omega) (by omega) (by omega) hx W (by obtain ⟨q, rfl⟩ := hW; exact (hro.more zo).drewN q) (by obtain ⟨q, rfl⟩ := hW; exact hrs.drewN q)
      have H1 := minusW_calls g2
      have H2 := quoW_calls g3
      obtain ⟨ad2, e2, -, hc1⟩ := comp_at (l := a) (k := 0) (by rw [hal]; exact hro) (by omega)
      cases e2
      rw [h0, adz] at hc1
      have hfo := hVs.frozen k
      have hck := hVs.cell (i := k) (by omega)
      have hkn : (k : Int) < (n : Int) := by omega
      have hk0 : (0 : Int) ≤ (k : Int) := by omega
      have hVd := fun q => Lib.hid (CV.set (CV.drewN hVs q) (i := k) (by omega) (o.getD k (0, 0)).1 (o.getD k (0, 0)).2)
      have hbn := fun q => Lib.hid (below_set (below_drewN hbr q) (a := ⟨O, k, none⟩) hOl (.complex .f32 (o.getD k (0, 0)).1 (o.getD k (0, 0)).2))
      have hn5 : Hid (∀ j, j < k + 1 → (s.set k ((o.getD k (0, 0)).1, (o.getD k (0, 0)).2)).getD j (0, 0) = o.getD j (0, 0)) := fun j hj => by
        rw [getD_set _ _ _ _ _ (by omega)]
        split
        · rename_i e; rw [e]
        · exact hs.out j (by omega)
      have hsl2 : (s.set k ((o.getD k (0, 0)).1, (o.getD k (0, 0)).2)).length = n := by rw [List.length_set, hsl']
      clear hs hVs hr hro hat g1 g2 g3 hx hrs
      generalize o.getD k (0, 0) = Y at *
      go_wp2_with fail
      go_region_with (first | (go_at_call 52; (with_reducible refine (HX _ ?_).mono ?_); exact ⟨1, rfl⟩; rintro e w6 ⟨rfl, q, rfl⟩) | (go_at_call 47; refine (H1 _).mono ?_; rintro e w6 ⟨rfl, rfl⟩) | (go_at_call 49; refine (H2 _).mono ?_; rintro e w6 ⟨rfl, rfl⟩))
      all_goals
        go_wp2
        exact ⟨⟨k + 1, by omega, by omega, by go_num, ⟨_, hsl2, hn5, (hVd _).out⟩, (hbn _).out⟩, by simp [intOf]; omega⟩
    · obtain rfl : k = n := by omega
      have he := eq_of_at hsl' hol hs.out
      subst he
      have HC := checkedSeries_y (some ⟨O, 0, none⟩) k wo.heap.size k s ho wo (hVs.rd hsl') (Nat.le_refl _)
      have hVl := hVs.lt
      clear hs hat hr hro
      go_wp2_with fail
      refine HC.mono ?_
      rintro e w6 ⟨rfl, hb6⟩
      go_wp2
      go_ret2
      exact ⟨O, k, rfl, Nat.le_refl _, hVs.below hb6 hVl, hOl, hbr.trans (hb6.mono zo)⟩
theorem divSeries_ok (A A' : Option Addr) (c c' n : Nat) (a b i o : List (Nat × Nat)) (ha : Ser a n) (hb : Ser b n) (hi : Ser i n) (ho : Ser o n) (h0 : b.getD 0 (0, 0) = (1065353216, 0)) (h1 : InvR b i) (h2 : MulR a i o) (w : World) (hr : Reads w w.heap.size 1 A n (cplx a)) (hr' : Reads w w.heap.size 1 A' n (cplx b)) :
    Calls Try.prog 27 #[.slice A n c, .slice A' n c'] w fun e w' => ∃ g c'', e = .returned (.tuple #[.slice (some ⟨g, 0, none⟩) n c'', .bool true]) ∧ n ≤ c'' ∧ CV w' g o ∧ w.heap.size ≤ g ∧ Below w.heap.size w w' := by
  have HI := inverseSeries_ok A' c' n b i hb hi h0 h1 w hr'
  have HM := fun (W : World) (hW : Below w.heap.size w W) (g c2 : Nat) (hV : CV W g i) => mulSeries_ok A (some ⟨g, 0, none⟩) c c2 n a i o ha hi ho h2 W ((hr.below hW).more hW.size) (hV.rd hi.len)
  clear ha hb hi ho h0 h1 h2 hr hr'
  go_enter Try.func27, Try.ntmps27
  go_wp2_with fail
  (with_reducible refine HI.mono ?_)
  rintro e w1 ⟨g, c2, rfl, hc2, hV, hg, hb1⟩
  have HM1 := HM w1 hb1 g c2 hV
  clear HI HM
  go_wp2_with fail
  (with_reducible refine HM1.mono ?_)
  rintro e w2 ⟨g2, c3, rfl, hc3, hV2, hg2, hb2⟩
  have z1 := hb1.size
  go_wp2
  go_ret2
  exact ⟨g2, c3, rfl, hc3, hV2, by omega, hb1.trans (hb2.mono z1)⟩
end Go.Proofs.Ytlilhebnbhlkhaa
