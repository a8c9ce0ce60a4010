/-
  The law FnSeries, walked by contracts: whatever the arguments, it returns true and turns nothing that was there.
-/
import Derived.Test.YtlilhebnbhlkhaaLq1
namespace Go.Proofs.Ytlilhebnbhlkhaa
open Go.RowKit

theorem half_fin : finCB (1056964608, 0) = true := by decide +kernel
theorem half_zero : mulW (1056964608, 0) (0, 0) = some (0, 0) := by decide +kernel
theorem nines_at {ks : List (Nat × Nat)} {n k : Nat} (hk : ks.length = n) (hS : Nines ks) (h : k < n) : Ap (q9V (ks.getD k (0, 0)).1, q9V (ks.getD k (0, 0)).2) (14143 / 10000, 0) ((q9L ks).getD k (0, 0)) := by
  have hm : ks.getD k (0, 0) ∈ ks := by
    rw [List.getD, List.getElem?_eq_getElem (by omega)]
    exact List.getElem_mem _
  obtain ⟨h1, h2⟩ := hS _ hm
  rw [q9L_at (by omega)]
  obtain ⟨-, n1, l1⟩ := q9_ok _ h1
  obtain ⟨-, n2, l2⟩ := q9_ok _ h2
  exact Ap.exact n1 n2 ((E2.lm l1 l2).le (by grind))
def drS (z : Rat × Rat) (ks : List (Nat × Nat)) : Sq := fun k => if k = 0 then z else (q9V (ks.getD k (0, 0)).1, q9V (ks.getD k (0, 0)).2)
theorem dr_near {ks : List (Nat × Nat)} {n : Nat} {z : Rat × Rat} {zw : Nat × Nat} {T : Bd2} (hn : n ≤ 7) (hk : ks.length = n) (hS : Nines ks) (h0 : Ap z (T 0) zw) (hT : allN 7 (fun k => decide (k = 0) || leB (14143 / 10000, 0) (T k)) = true) : Near (drS z ks) T n ((q9L ks).set 0 zw) := ⟨by rw [List.length_set, q9L_len, hk], fun k hkn => by
  rw [getD_set _ _ _ _ _ (by rw [q9L_len]; omega)]
  unfold drS
  by_cases e : k = 0
  · subst e
    rw [if_pos rfl, if_pos rfl]
    exact h0
  · rw [if_neg e, if_neg e]
    have h := allN_at hT (show k < 7 by omega)
    rw [Bool.or_eq_true, decide_eq_true_eq] at h
    exact (nines_at hk hS hkn).le (h.resolve_left e)⟩
set_option maxRecDepth 100000 in
set_option maxHeartbeats 6400000 in
theorem lawSer (A A' : Option Addr) (c c' : Nat) (zs ms : List Int) (w : World) (hr : Reads w w.heap.size 1 A zs.length (byts zs)) (hr' : Reads w w.heap.size 1 A' ms.length (byts ms)) (hz : Byt zs) (hm : Byt ms) :
    Calls Try.prog 4 #[.slice A zs.length c, .slice A' ms.length c'] w fun e w' => e = .returned (.bool true) ∧ Below w.heap.size w w' := by
  have HL := b10Long_any A A' c c' zs.length ms.length w
  cases hlong : (decide (1048576 < zs.length) || decide (1048576 < ms.length)) with
  | true =>
    rw [hlong] at HL
    clear hlong
    go_enter Try.func4, Try.ntmps4
    go_wp2_with fail
    refine HL.mono ?_
    rintro e w' ⟨rfl, rfl⟩
    go_wp2
    go_ret
    exact ⟨rfl, Below.refl _ _⟩
  | false =>
  rw [hlong] at HL
  clear hlong
  go_enter Try.func4, Try.ntmps4
  go_wp2_with fail
  refine HL.mono ?_
  rintro e w ⟨rfl, rfl⟩
  clear HL
  go_wp2_with fail
  refine (b10At_any A' c' w.heap.size ms 0 6 (by omega) (by omega) hm _ hr').mono ?_
  rintro e w ⟨n0, rfl, hn5, rfl⟩
  obtain ⟨n, hn, h2, h7⟩ : ∃ n : Nat, 2 + (n0 : Int) = (n : Int) ∧ 2 ≤ n ∧ n ≤ 7 := ⟨n0 + 2, by omega, by omega, by omega⟩
  have HA := b10Terms_any A c n zs ⟨by omega, by omega⟩ hz w hr
  have HB := fun (W : World) (hW : Below w.heap.size w W) => b10Terms_any A' c' n ms ⟨by omega, by omega⟩ hm W ((hr'.below hW).more hW.size)
  go_wp2_with fail
  clear hn hn5
  (with_reducible refine HA.mono ?_)
  rintro e w1 ⟨ga, ca, ks, rfl, hca, hkl, hks, hVa, hga, hb1⟩
  have HB1 := HB w1 hb1
  clear HA HB
  go_wp2_with fail
  (with_reducible refine HB1.mono ?_)
  rintro e w2 ⟨gb, cb, ls, rfl, hcb, hll, hls, hVb, hgb, hb2⟩
  clear HB1
  have z1 := hb1.size
  have hVa2 := hVa.below hb2 hVa.lt
  have hab : ga ≠ gb := by have := hVa.lt; omega
  have hgb2 : w.heap.size ≤ gb := by omega
  have hb := hb1.trans (hb2.mono z1)
  replace hr' := hr'.below hb
  have hna := dr_near (z := (1, 0)) (zw := (1065353216, 0)) (T := tA) h7 hkl hks (ap_one.le (by decide +kernel)) (by decide +kernel)
  have hnb := dr_near (z := (0, 0)) (zw := (0, 0)) (T := tB) h7 hll hls (Ap.zero.le (by decide +kernel)) (by decide +kernel)
  obtain ⟨i, un, e, s, j, q, l, r, sq, ri, sl, sa, qa, la, t, h, I, R, hF⟩ := ser_all ⟨h2, h7⟩ hna hnb rfl rfl
  have hfa := hVa2.frozen 0
  have hxa := hVa2.cell (i := 0) (by rw [q9L_len]; omega)
  have hxb := hVb.cell (i := 0) (by rw [q9L_len]; omega)
  have hfb := hVb.frozen 0
  have hn3 : (0 : Int) < (n : Int) := by omega
  have hn4 : 0 < n := by omega
  have hVa3 := CV.other (CV.set hVa2 (i := 0) (by rw [q9L_len]; omega) 1065353216 0) (b := gb) (o := 0) (fun e => hab e.symm) (.complex .f32 0 0)
  have hVb3 := CV.set (CV.other hVb (b := ga) (o := 0) hab (.complex .f32 1065353216 0)) (i := 0) (by rw [q9L_len]; omega) 0 0
  have hb3 := below_set (below_set hb (a := ⟨ga, 0, none⟩) hga (.complex .f32 1065353216 0)) (a := ⟨gb, 0, none⟩) hgb2 (.complex .f32 0 0)
  have hr3 := hr'.below (w' := (w2.setCell ⟨ga, 0, none⟩ (.complex .f32 1065353216 0)).setCell ⟨gb, 0, none⟩ (.complex .f32 0 0)) (below_set (below_set (Below.refl _ _) (a := ⟨ga, 0, none⟩) hga (.complex .f32 1065353216 0)) (a := ⟨gb, 0, none⟩) hgb2 (.complex .f32 0 0))
  have ha0 : ((q9L ks).set 0 (1065353216, 0)).getD 0 (0, 0) = (1065353216, 0) := by rw [getD_set _ _ _ _ _ (by rw [q9L_len]; omega), if_pos rfl]
  have hb0 : ((q9L ls).set 0 (0, 0)).getD 0 (0, 0) = (0, 0) := by rw [getD_set _ _ _ _ _ (by rw [q9L_len]; omega), if_pos rfl]
  have ht0 : t.getD 0 (0, 0) = (0, 0) := by
    have h1 := hF.f_t.1.at_ 0 (by rw [hF.f_t.2.len]; omega)
    rw [hF.f_la.1.z, half_zero] at h1
    exact (Option.some.inj h1).symm
  have hsa := hna.ser (by omega) (by omega)
  have hsb := hnb.ser (by omega) (by omega)
  have hC0 := ((CVs.nil _).add hVa3).add hVb3
  obtain ⟨w3, hw3⟩ : ∃ w3, w3 = (w2.setCell ⟨ga, 0, none⟩ (.complex .f32 1065353216 0)).setCell ⟨gb, 0, none⟩ (.complex .f32 0 0) := ⟨_, rfl⟩
  clear hVa hVb hVa2 hVa3 hVb3 hb1 hb2 hr hr' hb hna hnb z1
  replace hF := Lib.hid hF
  go_wp2_with fail
  rw [← hw3] at hC0 hb3 hr3 ⊢
  clear hw3 hfa hxa hxb hfb
  have hsi := hF.out.f_i.2.ser (show 1 ≤ n by omega) (show n ≤ 16 by omega)
  have hsun := hF.out.f_un.2.ser (show 1 ≤ n by omega) (show n ≤ 16 by omega)
  have hse : Ser e n := by
    obtain ⟨E, hE⟩ := hF.out.f_e.2
    exact hE.ser (by omega) (by omega)
  have hsl := hF.out.f_l.2.ser (show 1 ≤ n by omega) (show n ≤ 16 by omega)
  have hsr := hF.out.f_r.2.ser (show 1 ≤ n by omega) (show n ≤ 16 by omega)
  have hssq := hF.out.f_sq.2.ser (show 1 ≤ n by omega) (show n ≤ 16 by omega)
  have hsh := hF.out.f_h.2.ser (show 1 ≤ n by omega) (show n ≤ 16 by omega)
  generalize hA : (q9L ks).set 0 (1065353216, 0) = a at *
  generalize hB : (q9L ls).set 0 (0, 0) = b at *
  have hu : Hid (drS (1, 0) ks 0 = (1, 0)) := rfl
  have hv : Hid (drS (0, 0) ls 0 = (0, 0)) := rfl
  generalize drS (1, 0) ks = u at *
  generalize drS (0, 0) ls = v at *
  clear hA hB
  rename CVs w3 _ => hC
  rename Reads w3 _ _ _ _ _ => hr'
  rename Below _ w w3 => hb
  have HX := inverseSeries_ok (some ⟨ga, 0, none⟩) ca n a i hsa hsi ha0 hF.out.f_i.1 w3 ((hC.at_ (g := ga) (x := a) (by simp)).rd (by first | exact hsa.len | exact hsb.len | exact hsi.len | exact hse.len | exact hsr.len | exact hF.out.f_ri.2.len))
  replace hC := Lib.hid hC
  (with_reducible refine HX.mono ?_)
  rintro e' w4 ⟨gi, ci, rfl, -, hVn, -, hbn⟩
  have zz := hb.size
  replace hC := (hC.out.below hbn).add hVn
  replace hr' := hr'.below (hbn.mono zz)
  replace hb := hb.trans (hbn.mono zz)
  clear HX hVn hbn zz
  have HX := mulSeries_ok (some ⟨ga, 0, none⟩) (some ⟨gi, 0, none⟩) ca ci n a i un hsa hsi hsun hF.out.f_un.1 w4 ((hC.at_ (g := ga) (x := a) (by simp)).rd (by first | exact hsa.len | exact hsb.len | exact hsi.len | exact hse.len | exact hsr.len | exact hF.out.f_ri.2.len)) ((hC.at_ (g := gi) (x := i) (by simp)).rd (by first | exact hsa.len | exact hsb.len | exact hsi.len | exact hse.len | exact hsr.len | exact hF.out.f_ri.2.len))
  replace hC := Lib.hid hC
  go_wp2_with fail
  (with_reducible refine HX.mono ?_)
  rintro e' w5 ⟨gu, cu, rfl, -, hVn, -, hbn⟩
  have zz := hb.size
  replace hC := (hC.out.below hbn).add hVn
  replace hr' := hr'.below (hbn.mono zz)
  replace hb := hb.trans (hbn.mono zz)
  clear HX hVn hbn zz
  have HX := expSeries_ok (some ⟨gb, 0, none⟩) cb n b e hsb hse hb0 hF.out.f_e.1 w5 ((hC.at_ (g := gb) (x := b) (by simp)).rd (by first | exact hsa.len | exact hsb.len | exact hsi.len | exact hse.len | exact hsr.len | exact hF.out.f_ri.2.len))
  replace hC := Lib.hid hC
  go_wp2_with fail
  (with_reducible refine HX.mono ?_)
  rintro e' w6 ⟨ge, ce, rfl, -, hVn, -, hbn⟩
  have zz := hb.size
  replace hC := (hC.out.below hbn).add hVn
  replace hr' := hr'.below (hbn.mono zz)
  replace hb := hb.trans (hbn.mono zz)
  clear HX hVn hbn zz
  have HX := logSeries_ok (some ⟨ge, 0, none⟩) ce n e s j q l hse hF.out.f_s.2 hF.out.f_j.2 hF.out.f_q.2 hsl hF.out.f_e.1.z hF.out.f_s.1 hF.out.f_j.1 hF.out.f_q.1 hF.out.f_l.1 w6 ((hC.at_ (g := ge) (x := e) (by simp)).rd (by first | exact hsa.len | exact hsb.len | exact hsi.len | exact hse.len | exact hsr.len | exact hF.out.f_ri.2.len))
  replace hC := Lib.hid hC
  go_wp2_with fail
  (with_reducible refine HX.mono ?_)
  rintro e' w7 ⟨gl, cl, rfl, -, hVn, -, hbn⟩
  have zz := hb.size
  replace hC := (hC.out.below hbn).add hVn
  replace hr' := hr'.below (hbn.mono zz)
  replace hb := hb.trans (hbn.mono zz)
  clear HX hVn hbn zz
  have HX := rootSeries_ok (some ⟨ga, 0, none⟩) ca n a r hsa hsr ha0 hF.out.f_r.1 w7 ((hC.at_ (g := ga) (x := a) (by simp)).rd (by first | exact hsa.len | exact hsb.len | exact hsi.len | exact hse.len | exact hsr.len | exact hF.out.f_ri.2.len))
  replace hC := Lib.hid hC
  go_wp2_with fail
  (with_reducible refine HX.mono ?_)
  rintro e' w8 ⟨gr, cr', rfl, -, hVn, -, hbn⟩
  have zz := hb.size
  replace hC := (hC.out.below hbn).add hVn
  replace hr' := hr'.below (hbn.mono zz)
  replace hb := hb.trans (hbn.mono zz)
  clear HX hVn hbn zz
  have HX := mulSeries_ok (some ⟨gr, 0, none⟩) (some ⟨gr, 0, none⟩) cr' cr' n r r sq hsr hsr hssq hF.out.f_sq.1 w8 ((hC.at_ (g := gr) (x := r) (by simp)).rd (by first | exact hsa.len | exact hsb.len | exact hsi.len | exact hse.len | exact hsr.len | exact hF.out.f_ri.2.len)) ((hC.at_ (g := gr) (x := r) (by simp)).rd (by first | exact hsa.len | exact hsb.len | exact hsi.len | exact hse.len | exact hsr.len | exact hF.out.f_ri.2.len))
  replace hC := Lib.hid hC
  go_wp2_with fail
  (with_reducible refine HX.mono ?_)
  rintro e' w9 ⟨gs, cs', rfl, -, hVn, -, hbn⟩
  have zz := hb.size
  replace hC := (hC.out.below hbn).add hVn
  replace hr' := hr'.below (hbn.mono zz)
  replace hb := hb.trans (hbn.mono zz)
  clear HX hVn hbn zz
  have HX := riseSeries_ok (some ⟨ga, 0, none⟩) ca n a ri hsa hF.out.f_ri.2 hF.out.f_ri.1 w9 ((hC.at_ (g := ga) (x := a) (by simp)).rd (by first | exact hsa.len | exact hsb.len | exact hsi.len | exact hse.len | exact hsr.len | exact hF.out.f_ri.2.len))
  replace hC := Lib.hid hC
  go_wp2_with fail
  (with_reducible refine HX.mono ?_)
  rintro e' w10 ⟨gt, ct, rfl, -, hVn, -, hbn⟩
  have zz := hb.size
  replace hC := (hC.out.below hbn).add hVn
  replace hr' := hr'.below (hbn.mono zz)
  replace hb := hb.trans (hbn.mono zz)
  clear HX hVn hbn zz
  have HX := slopeSeries_ok (some ⟨gt, 0, none⟩) ct n ri sl hF.out.f_ri.2 hF.out.f_sl.2.1 hF.out.f_sl.1 w10 ((hC.at_ (g := gt) (x := ri) (by simp)).rd (by first | exact hsa.len | exact hsb.len | exact hsi.len | exact hse.len | exact hsr.len | exact hF.out.f_ri.2.len))
  replace hC := Lib.hid hC
  go_wp2_with fail
  (with_reducible refine HX.mono ?_)
  rintro e' w11 ⟨gd, cd, rfl, -, hVn, -, hbn⟩
  have zz := hb.size
  replace hC := (hC.out.below hbn).add hVn
  replace hr' := hr'.below (hbn.mono zz)
  replace hb := hb.trans (hbn.mono zz)
  clear HX hVn hbn zz
  have HX := divSeries_ok (some ⟨ga, 0, none⟩) (some ⟨ga, 0, none⟩) ca ca n a a i un hsa hsa hsi hsun ha0 hF.out.f_i.1 hF.out.f_un.1 w11 ((hC.at_ (g := ga) (x := a) (by simp)).rd (by first | exact hsa.len | exact hsb.len | exact hsi.len | exact hse.len | exact hsr.len | exact hF.out.f_ri.2.len)) ((hC.at_ (g := ga) (x := a) (by simp)).rd (by first | exact hsa.len | exact hsb.len | exact hsi.len | exact hse.len | exact hsr.len | exact hF.out.f_ri.2.len))
  replace hC := Lib.hid hC
  go_wp2_with fail
  (with_reducible refine HX.mono ?_)
  rintro e' w12 ⟨gq, cq, rfl, -, hVn, -, hbn⟩
  have zz := hb.size
  replace hC := (hC.out.below hbn).add hVn
  replace hr' := hr'.below (hbn.mono zz)
  replace hb := hb.trans (hbn.mono zz)
  clear HX hVn hbn zz
  have HX := powerSeries_ok (some ⟨ga, 0, none⟩) ca n (1056964608, 0) a sa i qa la t h half_fin hsa hF.out.f_sa.2 hsi hF.out.f_qa.2 hF.out.f_la.2 hF.out.f_t.2 hsh ha0 ht0 hF.out.f_sa.1 hF.out.f_i.1 hF.out.f_qa.1 hF.out.f_la.1 hF.out.f_t.1 hF.out.f_h.1 w12 ((hC.at_ (g := ga) (x := a) (by simp)).rd (by first | exact hsa.len | exact hsb.len | exact hsi.len | exact hse.len | exact hsr.len | exact hF.out.f_ri.2.len))
  replace hC := Lib.hid hC
  go_wp2_with fail
  (with_reducible refine HX.mono ?_)
  rintro e' w13 ⟨gh, ch, rfl, -, hVn, -, hbn⟩
  have zz := hb.size
  replace hC := (hC.out.below hbn).add hVn
  replace hr' := hr'.below (hbn.mono zz)
  replace hb := hb.trans (hbn.mono zz)
  clear HX hVn hbn zz
  have hCi := (((CVs.nil _).add (hC.at_ (g := gr) (x := r) (by simp))).add (hC.at_ (g := ge) (x := e) (by simp))).add (hC.at_ (g := gi) (x := i) (by simp))
  have hCf := (((((((((CVs.nil _).add (hC.at_ (g := ga) (x := a) (by simp))).add (hC.at_ (g := gb) (x := b) (by simp))).add (hC.at_ (g := gu) (x := un) (by simp))).add (hC.at_ (g := gl) (x := l) (by simp))).add (hC.at_ (g := gr) (x := r) (by simp))).add (hC.at_ (g := gs) (x := sq) (by simp))).add (hC.at_ (g := gd) (x := sl) (by simp))).add (hC.at_ (g := gq) (x := un) (by simp))).add (hC.at_ (g := gh) (x := h) (by simp))
  replace hb0 := Lib.hid hb0
  clear hC hsa hsb hsi hsun hse hsl hsr hssq hsh ha0 ht0
  go_upto_region 18 with fail
  exact serT1 A' c' ga ca gb cb gi ci ge ce gu cu gl cl gr cr' gs cs' gd cd gq cq gh ch n ms hm u v I R a b i un e s j q l r sq ri sl sa qa la t h ⟨h2, h7⟩ hF hu hv hb0 w _ hr' hCi hCf hab hgb2 hb _ _ (by assumption) (by assumption)
end Go.Proofs.Ytlilhebnbhlkhaa
