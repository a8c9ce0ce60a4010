/-
  The series that turns a series back, by words (impl.TurnSeries).
-/
import Derived.Test.YtlilhebnbhlkhaaSeH
namespace Go.Proofs.Ytlilhebnbhlkhaa
open Go.RowKit

set_option maxRecDepth 100000 in
set_option maxHeartbeats 1600000 in
theorem turnSeries_ok (A : Option Addr) (c n : Nat) (a o : List (Nat × Nat)) (h2n : 2 ≤ n) (ha : Ser a n) (ho : Ser o n) (h0 : a.getD 0 (0, 0) = (0, 0)) (h1 : a.getD 1 (0, 0) = (1065353216, 0)) (h : TurnR a o n) (w : World) (hr : Reads w w.heap.size 1 A n (cplx a)) :
    Calls Try.prog 30 #[.slice A n c] w fun e w' => ∃ g c'', e = .returned (.tuple #[.slice (some ⟨g, 0, none⟩) n c'', .bool true]) ∧ n ≤ c'' ∧ CV w' g o ∧ w.heap.size ≤ g ∧ Below w.heap.size w w' := by
  obtain ⟨i0, hi, hz0, hz1, hz2⟩ := info_parts infoC
  have HS := isSeries_y A c w.heap.size n a ha w hr (Nat.le_refl _)
  obtain ⟨-, hz, ho1, hat⟩ := h
  have hn1 := ha.n1
  have hn2 := ha.n2
  have hal := ha.len
  have hol := ho.len
  obtain ⟨q1, q2, q3⟩ := one_order
  have HQ0 := quoW_calls ho1
  replace hat := Lib.hid hat
  replace hz := Lib.hid hz
  clear ho1
  go_enter Try.func30, Try.ntmps30
  go_wp2_with fail
  refine HS.mono ?_
  rintro e w1 ⟨rfl, hb1⟩
  clear HS
  have hr1 := hr.below hb1
  have z1 := hb1.size
  obtain ⟨ad, rfl, hadB, hc1⟩ := comp_at (l := a) (k := 0) (by rw [hal]; exact hr1) (by omega)
  obtain ⟨ad', e', -, hc1'⟩ := comp_at (l := a) (k := 1) (by rw [hal]; exact hr1) (by omega)
  cases e'
  rw [h0, adz] at hc1
  rw [h1, show ad.add 1 = ⟨ad.block, ad.off + 1, none⟩ from rfl] at hc1'
  have hn3 : (0 : Int) < (n : Int) := by omega
  have hn4 : 0 < n := by omega
  have hn5 : ¬ (n : Int) < 2 := by omega
  have hn6 : (1 : Int) < (n : Int) := by omega
  have hn7 : 1 < n := by omega
  go_wp2_with (at_make; refine wpList_make_full _ rfl _ _ _ rfl w1.heap.size 26 i0 (.complex .f32 0 0) 1 Try.underlying24 hi hz0 hz1 .i64 .i64 _ _ n rfl rfl (by omega) (by omega) (by rw [hz2]; omega) (by unfold maxLen; omega) (by omega) ?_; intro w2 hown2 hg2; have hb3 : Below w1.heap.size w1 w2 := (Below.refl _ _).grown hg2 (Nat.le_refl _) (by simp); rw [made_zero] at hown2; have hc2 := (hb3.cell (p := ⟨ad.block, ad.off + 1, none⟩) (show ad.block < w1.heap.size by omega)).trans hc1'; have hV2 := CV.of_row hown2; clear hown2 hg2)
  refine (HQ0 _).mono ?_
  rintro e w3 ⟨rfl, rfl⟩
  clear HQ0
  obtain ⟨O, hO⟩ : ∃ O, O = w1.heap.size := ⟨_, rfl⟩
  rw [← hO] at hV2 ⊢
  have hOl : w.heap.size ≤ O := by omega
  have hb4 : Below w.heap.size w w3 := hb1.trans (hb3.mono z1)
  have hfr := hV2.frozen 1
  have hc3 := hV2.cell (i := 1) (by simp; omega)
  have hV4 := CV.set hV2 (i := 1) (by simp; omega) (o.getD 1 (0, 0)).1 (o.getD 1 (0, 0)).2
  have hb5 := below_set hb4 (a := ⟨O, 1, none⟩) hOl (.complex .f32 (o.getD 1 (0, 0)).1 (o.getD 1 (0, 0)).2)
  have hs0 : ((List.replicate n ((0, 0) : Nat × Nat)).set 1 ((o.getD 1 (0, 0)).1, (o.getD 1 (0, 0)).2)) = trK o n 2 := by
    refine eq_of_at (n := n) (by simp) (trK_len hol (by omega)) fun j hj => ?_
    rw [getD_set _ _ _ _ _ (by simp; omega), trK_at hol (by omega)]
    rcases (show j = 0 ∨ j = 1 ∨ 2 ≤ j by omega) with e | e | e
    · subst e
      rw [if_neg (by omega), if_pos (by omega), hz.out, zeros_at 0 (by omega)]
    · subst e
      rw [if_pos rfl, if_pos (by omega)]
    · rw [if_neg (by omega), if_neg (by omega), zeros_at j hj]
  rw [hs0] at hV4
  generalize (o.getD 1 (0, 0)).1 = y1 at *
  generalize (o.getD 1 (0, 0)).2 = y2 at *
  clear hb1 hb3 z1 hr1 hc1 hO hs0 hb4
  go_wp2_with fail
  go_loopw [5, 6, 7] (fun q _ _ wr => ∃ k : Nat, 2 ≤ k ∧ k ≤ n ∧ q = .int .i64 (k : Int) ∧ CV wr O (trK o n k) ∧ Below w.heap.size w wr) (fun q _ _ _ => n - (intOf q).toNat)
  case atStart => exact ⟨2, Nat.le_refl _, h2n, rfl, hV4, hb5⟩
  case round =>
    obtain ⟨k, hk2, hk, rfl, hVs, hbr⟩ := hrel
    obtain ⟨wo, rfl⟩ : ∃ wo : World, wo = wr := ⟨_, rfl⟩
    clear hV4 hV2 hb5 hc2 hc3 hfr
    have zo := hbr.size
    have hro := hr.below hbr
    have hsl := trK_len hol hk
    by_cases hlt : k < n
    · obtain ⟨m, d, g1, g2, g3, g4⟩ := hat.out k hk2 hlt
      have htz : (trK o n k).getD 0 (0, 0) = (0, 0) := by
        rw [trK_at hol hk, if_pos (by omega)]
        exact hz.out
      have HC := composeSeries_ok (some ad) (some ⟨O, 0, none⟩) c n n a (trK o n k) m ha (trK_ser ho hk) g2 htz g1 wo (hro.more zo) (hVs.rd hsl)
      have H1 := minusW_calls g3
      have H2 := quoW_calls g4
      have hml := g2.len
      have hkn : (k : Int) < (n : Int) := by omega
      have hk0 : (0 : Int) ≤ (k : Int) := by omega
      have hset : (trK o n k).set k ((o.getD k (0, 0)).1, (o.getD k (0, 0)).2) = trK o n (k + 1) := by
        refine eq_of_at (n := n) (by rw [List.length_set, hsl]) (trK_len hol (by omega)) fun j hj => ?_
        rw [getD_set _ _ _ _ _ (by omega), trK_at hol hk, trK_at hol (by omega)]
        rcases (show j < k ∨ j = k ∨ k < j by omega) with e | e | e
        · rw [if_neg (by omega), if_pos e, if_pos (by omega)]
        · subst e
          rw [if_pos rfl, if_pos (by omega)]
        · rw [if_neg (by omega), if_neg (by omega), if_neg (by omega)]
      replace hset := Lib.hid hset
      clear g1 g2 g3 g4 htz hat
      generalize o.getD k (0, 0) = Y at *
      go_wp2_with fail
      (with_reducible refine HC.mono ?_)
      rintro e w4 ⟨gm, cm', rfl, hcm, hVm, hgm, hb6⟩
      have hb7 := hbr.trans (hb6.mono zo)
      have hVo := hVs.below hb6 hVs.lt
      have hOm : O ≠ gm := by have := hVs.lt; omega
      obtain ⟨ad2, e2, -, hc1⟩ := comp_at (l := a) (k := 1) (by rw [hal]; exact hr.below hb7) (by omega)
      cases e2
      rw [h1, show ad.add 1 = ⟨ad.block, ad.off + 1, none⟩ from rfl] at hc1
      have hc2 := hVm.cell (i := k) (by omega)
      have hc3 := hVo.cell (i := k) (by omega)
      have hfo := hVo.frozen k
      have hVd := CV.set (CV.drew hVo) (i := k) (by omega) Y.1 Y.2
      rw [hset.out] at hVd
      replace hVd := Lib.hid hVd
      have hbn := Lib.hid (below_set (below_drew hb7) (a := ⟨O, k, none⟩) hOl (.complex .f32 Y.1 Y.2))
      clear HC hVm hr hro hVs hVo
      generalize m.getD k (0, 0) = X1 at *
      go_wp2_with fail
      refine wp_region_still_tail 12 (by kernel_rfl) (by kernel_rfl) ?_
      simp only [List.take_succ_cons, List.take_zero, List.drop_succ_cons, List.drop_zero]
      repeat still_step
      still_call (H1 _)
      repeat still_step
      still_call (H2 _)
      repeat still_step
      refine wpStill_nil ?_
      change wpList _ _ _ _ _ w4.drew
      go_wp2
      exact ⟨⟨k + 1, by omega, by omega, by go_num, hVd.out, hbn.out⟩, by simp [intOf]; try omega⟩
    · obtain rfl : k = n := by omega
      have he : trK o k k = o := eq_of_at hsl hol fun j hj => by rw [trK_at hol (Nat.le_refl _), if_pos hj]
      rw [he] at hVs
      have HC := checkedSeries_y (some ⟨O, 0, none⟩) k wo.heap.size k o ho wo (hVs.rd hol) (Nat.le_refl _)
      have hVl := hVs.lt
      clear hat hr hro
      go_wp2_with fail
      refine HC.mono ?_
      rintro e w6 ⟨rfl, hb6⟩
      go_wp2
      go_ret2
      exact ⟨O, k, rfl, Nat.le_refl _, hVs.below hb6 hVl, hOl, hbr.trans (hb6.mono zo)⟩
end Go.Proofs.Ytlilhebnbhlkhaa
