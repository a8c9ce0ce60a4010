/-
  The law FnMasses, walked by contracts: whatever the arguments, it returns true and turns nothing that was there.
-/
import Derived.Test.YtlpibibpckkjhaaMasL
namespace Go.Proofs.Ytlpibibpckkjhaa
open Go.RowKit

theorem wrap_sub (a b : Nat) (h : b ≤ a) (h2 : a ≤ 100) : IntKind.i64.wrap ((a : Int) - (b : Int)) = ((a - b : Nat) : Int) := by
  have e : (a : Int) - (b : Int) = ((a - b : Nat) : Int) := by omega
  rw [e]
  simp only [IntKind.wrap, IntKind.signed, IntKind.bits]
  simp
  omega
theorem min_run (k : Nat) (h1 : 1 ≤ k) (h8 : k ≤ 8) : ∃ m : Nat, 2 ≤ m ∧ m ≤ 8 ∧ m ≤ 2 * k ∧ ∀ w, (Builtin.min_ #[2, 2] 2 #[.int .i64 (2 * (k : Int)), .int .i64 8]).run Try.prog w = .ok (.int .i64 (m : Int)) w := by
  by_cases h : 2 * k ≤ 8
  · refine ⟨2 * k, by omega, by omega, by omega, fun w => ?_⟩
    have e : ((2 * k : Nat) : Int) = 2 * (k : Int) := by omega
    rw [e]
    simp [Builtin.min_, Builtin.min2]
    omega
  · refine ⟨8, by omega, by omega, by omega, fun w => ?_⟩
    have e2 : ¬ 2 * (k : Int) ≤ 8 := by omega
    simp [Builtin.min_, Builtin.min2, e2]
set_option maxRecDepth 100000 in
set_option maxHeartbeats 3200000 in
theorem lawMas (A A' : Option Addr) (c c' : Nat) (zs ms : List Int) (w : World) (hr : Reads w w.heap.size 1 A zs.length (byts zs)) (hr' : Reads w w.heap.size 1 A' ms.length (byts ms)) (hz : Byt zs) (hm : Byt ms) :
    Calls Try.prog 4 #[.slice A zs.length c, .slice A' ms.length c'] w fun e w' => e = .returned (.bool true) ∧ Below w.heap.size w w' := by
  have HL := r8Long_any A A' c c' zs.length ms.length w
  cases hlong : (decide (48 < zs.length) || decide (48 < ms.length)) with
  | true =>
    rw [hlong] at HL
    clear hlong
    go_enter Try.func4, Try.ntmps4
    go_wp2_with fail
    refine HL.mono ?_
    rintro e w' ⟨rfl, rfl⟩
    go_wp2
    go_ret
    exact ⟨rfl, Below.refl _ _⟩
  | false =>
  rw [hlong] at HL
  clear hlong
  obtain ⟨i0, hi, hz0, hz1, hz2⟩ := info_parts infoF
  go_enter Try.func4, Try.ntmps4
  go_wp2_with fail
  refine HL.mono ?_
  rintro e w' ⟨rfl, rfl⟩
  clear HL
  go_wp2_with fail
  refine (r8At_any A' c' w.heap.size ms 40 8 (by omega) (by omega) hm _ hr').mono ?_
  rintro e w1 ⟨x, rfl, hx, rfl⟩
  obtain ⟨n, hn, h1, h8⟩ : ∃ n : Nat, 1 + (x : Int) = (n : Int) ∧ 1 ≤ n ∧ n ≤ 8 := ⟨x + 1, by omega, by omega, by omega⟩
  go_wp2_with fail

  clear hn hx
  refine (evenI_any n h1 h8 _).mono ?_
  rintro e w1 ⟨g, c1, g', c2, rfl, hgg, hO1, hO2, hg1, hg2, hg3, hg4, hb1⟩
  have z1 := hb1.size
  have hR1 : Reads w1 w1.heap.size 1 (some ⟨g, 0, none⟩) (nodesL n n).length (flts (nodesL n n)) := (hO1.reads' (B := w1.heap.size) (by omega) (by simp))
  have hR2 : Reads w1 w1.heap.size 1 (some ⟨g', 0, none⟩) (weightsL n n).length (flts (weightsL n n)) := (hO2.reads' (B := w1.heap.size) (by omega) (by simp))
  clear hgg hg1 hg2 hg3 hg4 hO1 hO2
  go_wp2
  go_loopw [9, 10, 11, 12] (fun s i _ _ wr => ∃ k t : Nat, k ≤ n ∧ i = .int .i64 (k : Int) ∧ s = .float .f64 t ∧ Hid (SumAt n k t) ∧ Below w1.heap.size w1 wr) (fun _ i _ _ _ => n - (intOf i).toNat)
  case atStart => exact ⟨0, 0, Nat.zero_le _, rfl, rfl, sumAt_zero n, Below.refl _ _⟩
  case round =>
    obtain ⟨k, t, hk, rfl, rfl, hS, hbr⟩ := hrel
    obtain ⟨wo, rfl⟩ : ∃ wo : World, wo = wr := ⟨_, rfl⟩
    have zr := hbr.size
    by_cases hlt : k < n
    · -- <L1
      obtain ⟨u, t2, fa, fb, hS2⟩ := sumAt_step h1 h8 hlt hS.out
      replace hS2 := Lib.hid hS2
      obtain ⟨y, u1, q1, x64, m64, q2, hN⟩ := node_law n k h1 h8 hlt
      obtain ⟨ad1, e1, hB1, hc1⟩ := flt_at (k := k) (hR1.below hbr) (by simpa using hlt)
      obtain ⟨ad2, e2, hB2, hc2⟩ := flt_at (k := k) (hR2.below hbr) (by simpa using hlt)
      obtain ⟨ad3, e3, -, hc3⟩ := flt_at (k := n - 1 - k) (hR1.below hbr) (by simp; omega)
      obtain ⟨ad4, e4, -, hc4⟩ := flt_at (k := k - 1) (hR1.below hbr) (by simp; omega)
      cases e1
      cases e2
      cases e3
      cases e4
      replace hB1 : g < w1.heap.size := hB1
      replace hB2 : g' < w1.heap.size := hB2
      rw [nodesL_at n k n hlt, add0] at hc1
      rw [weightsL_at n k n hlt, add0] at hc2
      rw [nodesL_at n (n - 1 - k) n (by omega), add0] at hc3
      rw [nodesL_at n (k - 1) n (by omega), add0] at hc4
      have ka := cvW fa
      have kb := ar64 _ _ _ _ fb
      have kn := neg64 m64
      have kc := cvW hN.wide
      have kd := cvW hN.wx
      have ke := cvW hN.wm
      have HG1 := hN.gap1
      have HG2 := hN.gap2
      have t1 := hN.t1
      have t2' := hN.t2
      have t3 := hN.t3
      have t4 := hN.t4
      have t5 := hN.t5
      have t6 := hN.t6
      have HA := hN.at_ wo
      generalize Op.negFloat .f64 m64 = ng at kn HG2
      clear hN hS fa fb hr hr' hR1 hR2
      generalize nodeN n k = nx at *
      generalize nodeW n k = nw at *
      generalize nodeN n (n - 1 - k) = nm at *
      generalize nodeN n (k - 1) = np at *
      go_wp2_with fail
      (with_reducible refine HA.mono ?_)
      rintro e w3 ⟨rfl, hb5⟩
      replace hc1 := (hb5.cell (p := ⟨g, k, none⟩) (show g < wo.heap.size by omega)).trans hc1
      replace hc2 := (hb5.cell (p := ⟨g', k, none⟩) (show g' < wo.heap.size by omega)).trans hc2
      replace hc3 := (hb5.cell (p := ⟨g, n - 1 - k, none⟩) (show g < wo.heap.size by omega)).trans hc3
      replace hc4 := (hb5.cell (p := ⟨g, k - 1, none⟩) (show g < wo.heap.size by omega)).trans hc4
      have hb6 := hbr.trans (hb5.mono zr)
      have hwa := wrap_sub n 1 h1 (by omega)
      have hwb := wrap_sub (n - 1) k (by omega) (by omega)
      have hwc : 1 ≤ k → IntKind.i64.wrap ((k : Int) - 1) = ((k - 1 : Nat) : Int) := fun h => wrap_sub k 1 h (by omega)
      clear HA hbr hb5 hB1 hB2
      rcases Nat.eq_zero_or_pos k with h0 | h0
      · subst h0
        clear hc4 t5 hwc
        replace hc3 : w3.cell? ⟨g, n - 1, none⟩ = some (.float .f32 nm) := hc3
        go_wp2_with fail
        go_big_quiet ((go_at_call 12; first | with_reducible exact Calls.quiet_of_same (HG1 _) | with_reducible exact Calls.quiet_of_same (HG2 _)))
        go_wp2
        go_roundw
        case rel => exact ⟨0 + 1, t2, by omega, by go_num, rfl, hS2, below_drewN hb6 _⟩
        case measure => (simp [intOf]; all_goals omega)
      · replace t5 := t5 h0
        replace hwc := hwc h0
        go_wp2_with fail
        go_big_quiet ((go_at_call 12; first | with_reducible exact Calls.quiet_of_same (HG1 _) | with_reducible exact Calls.quiet_of_same (HG2 _)))
        go_wp2
        go_roundw
        case rel => exact ⟨k + 1, t2, by omega, by go_num, rfl, hS2, below_drewN hb6 _⟩
        case measure => (simp [intOf]; all_goals omega)
      -- L1>
    · obtain rfl : k = n := by omega
      obtain ⟨g3, HG3, t7⟩ := sumAt_last h1 h8 hS.out
      have hb6 := hb1.trans (hbr.mono z1)
      have hra := hr.below hb6
      have hrb := hr'.below hb6
      clear hS hR1 hR2 hbr hb1 z1 zr
      obtain ⟨m, m2, m8, mk, Hmin⟩ := min_run k h1 h8
      go_wp2_with fail
      refine (r8At_any A' c' w.heap.size ms 41 m (by omega) (by omega) hm _ hrb).mono ?_
      rintro e w2 ⟨y, rfl, hy, rfl⟩
      clear Hmin
      obtain ⟨N, hN, hN1, hN8, hN2⟩ : ∃ N : Nat, 1 + (y : Int) = (N : Int) ∧ 1 ≤ N ∧ N ≤ 8 ∧ N ≤ 2 * k := ⟨y + 1, by omega, by omega, by omega, by omega⟩
      clear hy m2 m8 mk
      go_wp2_with fail
      have zo := hb6.size
      refine (r8Poly_any A c N zs ⟨hN1, hN8⟩ hz _ (hra.more zo)).mono ?_
      rintro e w2 ⟨A2, cc2, l, rfl, hll, hpv, hT, hlast, hO, hb7⟩
      -- <M1
      have hall := Lib.hid hT
      have hlast' := Lib.hid hlast
      clear hT hlast hN
      have z7 := hb7.size
      have hb8 : Below w2.heap.size w2 (w2.alloc (.cells #[.slice A2 N cc2] 33)) := (Below.refl _ _).alloc (Nat.le_refl _) _
      have hP3 := Blk.new w2 33 #[.slice A2 N cc2]
      have hb9 := (hb6.trans (hb7.mono zo)).trans (hb8.mono (by omega))
      have hR3 : Reads (w2.alloc (.cells #[.slice A2 N cc2] 33)) w2.heap.size 1 A2 N (cplx l) := (hO.below hb8 (Nat.le_refl _)).reads' (Nat.le_refl _) (by simp [hll])
      have cP3 : (w2.alloc (.cells #[.slice A2 N cc2] 33)).cell? ⟨w2.heap.size, 0, none⟩ = some (.slice A2 N cc2) := hP3.cell 0
      have HM := massOf_v A2 cc2 N k l hll (reV l) (imV l) hall.out hpv hN1 hN8 h1 h8 hN2 _ (hR3.more (by simp))
      clear hb6 hb7 hra hrb hO
      go_wp2_with fail
      (with_reducible refine HM.mono ?_)
      rintro e w4 ⟨r1, s1, π1, κ1, rfl, v1, v2, e1, e2, hb10⟩
      clear HM cP3
      have z10 := hb10.size
      simp only [World.size_alloc] at z10
      have hb11 := hb9.trans (hb10.mono (by simp; omega))
      have hP4 := hP3.below hb10 (by simp)
      have cP4 : w4.cell? ⟨w2.heap.size, 0, none⟩ = some (.slice A2 N cc2) := hP4.cell 0
      have hR4 := (hR3.below (hb10.mono (by simp)))
      have HE := exactMass_v A2 cc2 N l hll (reV l) (imV l) hall.out hN1 hN8 hpv hlast'.out w4 (hR4.more (by omega))
      replace e1 := Lib.hid e1
      replace e2 := Lib.hid e2
      clear hb8 hb9 hb10 hP3 hR3
      go_wp2_with fail
      (with_reducible refine HE.mono ?_)
      rintro e w5 ⟨r2, s2, π2, κ2, rfl, v3, v4, e3, e4, hb12⟩
      clear HE cP4
      have z12 := hb12.size
      have hb13 := hb11.trans (hb12.mono (by omega))
      have hP5 := hP4.below hb12 (by omega)
      have cP5 : w5.cell? ⟨w2.heap.size, 0, none⟩ = some (.slice A2 N cc2) := hP5.cell 0
      have HL := longOfPoly_v A2 cc2 N l hll (reV l) (imV l) (fun i hi => by obtain ⟨a1, a2, a3, a4⟩ := hall.out i hi; exact ⟨a1, a2, by grind, by grind⟩) (by omega) hpv w5 ((hR4.below (hb12.mono (by omega))).more (by omega))
      replace e3 := Lib.hid e3
      replace e4 := Lib.hid e4
      clear hb11 hb12 hP4 hR4
      go_wp2_with fail
      (with_reducible refine HL.mono ?_)
      rintro e w6 ⟨r3, v5, rfl, v6, l1, l2, hb14⟩
      clear HL cP5 hP5
      have z14 := hb14.size
      have hb15 := hb13.trans (hb14.mono (by omega))
      obtain ⟨f, u, v, m, HF, f1, f2, f3, f4⟩ := mass_test v1 v2 v3 v4 e1.out e2.out e3.out e4.out v6 l1 l2
      have ka := cvW f1
      have kb := ar64 _ _ _ _ f2
      have kc := ar64 _ _ _ _ f3
      clear f1 f2 f3 v1 v2 v3 v4 e1 e2 e3 e4 v6 l1 l2 hb13 hb14 hall hlast' hpv hN1 hN8 hN2 hll zo z7 z10 z12 z14
      go_wp2_with fail
      refine (HG3 _).mono ?_
      rintro e w7 ⟨rfl, rfl⟩
      go_wp2_with fail
      refine (HF _).mono ?_
      rintro e w8 ⟨rfl, rfl⟩
      have hrb := hr'.below hb15
      go_wp2_with fail
      refine (r8At_any A' c' w.heap.size ms 42 3 (by omega) (by omega) hm _ hrb).mono ?_
      rintro e w9 ⟨d, rfl, hd, rfl⟩
      -- M1>
      clear hrb HG3 HF t7 ka kb kc f4
      go_wp2
      have z8 := hb15.size
      have hb0 : Below w8.heap.size w8 (((w8.alloc (.cells #[] 25)).alloc (.cells #[] 25)).alloc (.cells #[] 25)) := (((Below.refl _ _).alloc (Nat.le_refl _) _).alloc (by simp) _).alloc (by simp; omega) _
      have ho1 : (((w8.alloc (.cells #[] 25)).alloc (.cells #[] 25)).alloc (.cells #[] 25)).ownsRow w8.heap.size 25 1 (.slice (some ⟨w8.heap.size, 0, none⟩) 0 0) 0 (flts ((List.range 0).map xsN)) := by
        have h := World.ownsRow_made (base := w8.heap.size) (e := 25) (size := 1) w8 #[] 0 (by simp) (by simp [maxLen]) rfl
        have h2 := (h.alloc (.cells #[] 25)).alloc (.cells #[] 25)
        simpa [flts] using h2
      have ho2 : (((w8.alloc (.cells #[] 25)).alloc (.cells #[] 25)).alloc (.cells #[] 25)).ownsRow w8.heap.size 25 1 (.slice (some ⟨w8.heap.size + 1, 0, none⟩) 0 0) 0 (flts (([] : List Nat).map qw)) := by
        have h := World.ownsRow_made (base := w8.heap.size) (e := 25) (size := 1) (w8.alloc (.cells #[] 25)) #[] 0 (by simp) (by simp [maxLen]) rfl
        have h2 := h.alloc (.cells #[] 25)
        simpa [flts] using h2
      have ho3 : (((w8.alloc (.cells #[] 25)).alloc (.cells #[] 25)).alloc (.cells #[] 25)).ownsRow w8.heap.size 25 1 (.slice (some ⟨w8.heap.size + 1 + 1, 0, none⟩) 0 0) 0 (flts (onesN 0)) := by
        have h := World.ownsRow_made (base := w8.heap.size) (e := 25) (size := 1) ((w8.alloc (.cells #[] 25)).alloc (.cells #[] 25)) #[] 0 (by simp; omega) (by simp [maxLen]) rfl
        simpa [flts, onesN] using h
      go_loopw [21, 22, 23, 24] (fun a b e i wr => ∃ j : Nat, j ≤ d + 1 ∧ i = .int .i64 (j : Int) ∧ (∃ ts : List Nat, ts.length = j ∧ Hid (∀ t ∈ ts, t < 17) ∧ wr.ownsRow w8.heap.size 25 1 b j (flts (ts.map qw))) ∧ wr.ownsRow w8.heap.size 25 1 a j (flts ((List.range j).map xsN)) ∧ wr.ownsRow w8.heap.size 25 1 e j (flts (onesN j)) ∧ (a.ownBlock ≠ b.ownBlock ∧ a.ownBlock ≠ e.ownBlock ∧ b.ownBlock ≠ e.ownBlock) ∧ Below w8.heap.size w8 wr) (fun _ _ _ i _ => d + 1 - (intOf i).toNat)
      case atStart => exact ⟨0, Nat.zero_le _, rfl, ⟨[], rfl, fun t ht => by simp at ht, ho2⟩, ho1, ho3, ⟨by simp [Value.ownBlock], by simp [Value.ownBlock]; omega, by simp [Value.ownBlock]⟩, hb0⟩
      case round =>
        obtain ⟨j, hj, rfl, ⟨ts, htl, hts, hr2⟩, hr1, hr3, ⟨ne12, ne13, ne23⟩, hbr⟩ := hrel
        clear ho1 ho2 ho3 hb0
        obtain ⟨wq, rfl⟩ : ∃ wq : World, wq = wr := ⟨_, rfl⟩
        have zr := hbr.size
        by_cases hlt : j ≤ d
        · -- <L2
          obtain ⟨Aa, ca, rfl, -, hka, -⟩ := Own.of_row hr1 (Nat.le_refl _)
          obtain ⟨Ab, cb, rfl, -, hkb, -⟩ := Own.of_row hr2 (Nat.le_refl _)
          obtain ⟨Ae, ce, rfl, -, hke, -⟩ := Own.of_row hr3 (Nat.le_refl _)
          have jx := ar32 _ _ _ _ (xs_step j (by omega))
          have ex : (List.range j).map xsN ++ [xsN j] = (List.range (j + 1)).map xsN := by rw [List.range_succ, List.map_append]; rfl
          have ee : onesN j ++ [1065353216] = onesN (j + 1) := by unfold onesN; rw [List.replicate_succ']
          replace ex := Lib.hid ex
          replace ee := Lib.hid ee
          generalize xsN j = xj at *
          go_wp2_with (at_builtin; refine wpList_append_any _ rfl (.tmp 201) (.tmp 205) _ rfl w8.heap.size 25 i0 _ 1 4 Try.underlying26 hi hz0 hz1 hz2 rfl (by omega) (.slice Aa j ca) j (flts ((List.range j).map xsN)) rfl (hr1.alloc _) (wq.heap.size + 1) (some ⟨wq.heap.size, 0, none⟩) 1 1 [.float .f32 xj] rfl (reads_new wq [_] _) (one_flt xj) (by simp only [maxLen]; omega) (by omega) (by simp; omega) ?_; intro v1 w10 hr4 hg4 hat4)
          rw [flts_snoc, ex.out] at hr4
          have hb4 : Below w8.heap.size wq w10 := ((Below.refl _ _).alloc zr _).grown hg4 (by simp; omega) (fun j hj => (hr1.lt j hj).1)
          have ne4 : v1.ownBlock ≠ (Value.slice Ab j cb).ownBlock := row_apart hr2 ne12 hat4
          have ne5 : v1.ownBlock ≠ (Value.slice Ae j ce).ownBlock := row_apart hr3 ne13 hat4
          have hr5 : w10.ownsRow w8.heap.size 25 1 (.slice Ab j cb) j (flts (ts.map qw)) := (hr2.alloc _).kept hg4 (.inr fun e => ne12 e.symm)
          have hr6 : w10.ownsRow w8.heap.size 25 1 (.slice Ae j ce) j (flts (onesN j)) := (hr3.alloc _).kept hg4 (.inr fun e => ne13 e.symm)
          have hbt := hbr.trans (hb4.mono (Nat.le_refl _))
          have zt := hbt.size
          clear hr1 hr2 hr3 hg4 hat4 ne12 ne13 hbr hb4 jx ex
          refine (r8At_any A c w.heap.size zs j 17 (by omega) (by omega) hz _ (hr.below (hb15.trans (hbt.mono z8)))).mono ?_
          rintro e w11 ⟨q, rfl, hq, rfl⟩
          have jq := ar32 _ _ _ _ (qw_ok q (by omega)).1
          have eq_ : ts.map qw ++ [qw q] = (ts ++ [q]).map qw := by rw [List.map_append]; rfl
          replace eq_ := Lib.hid eq_
          have htn : Hid (∀ t ∈ ts ++ [q], t < 17) := fun t ht => by
            rcases List.mem_append.1 ht with h | h
            · exact hts.out t h
            · obtain rfl : t = q := by simpa using h
              omega
          clear hts
          generalize qw q = xq at *
          go_wp2_with (at_builtin; first
            | (refine wpList_append_any _ rfl (.tmp 207) (.tmp 214) _ rfl w8.heap.size 25 i0 _ 1 4 Try.underlying26 hi hz0 hz1 hz2 rfl (by omega) (.slice Ab j cb) j (flts (ts.map qw)) rfl (hr5.alloc _) (w10.heap.size + 1) (some ⟨w10.heap.size, 0, none⟩) 1 1 [.float .f32 xq] rfl (reads_new w10 [_] _) (one_flt xq) (by simp only [maxLen]; omega) (by omega) (by simp; omega) ?_
               intro v2 w12 hr7 hg7 hat7
               rw [flts_snoc, eq_.out] at hr7
               have hb7 : Below w8.heap.size w10 w12 := ((Below.refl _ _).alloc zt _).grown hg7 (by simp; omega) (fun j hj => (hr5.lt j hj).1)
               have ne7 : v2.ownBlock ≠ v1.ownBlock := row_apart hr4 ne4.symm hat7
               have ne8 : v2.ownBlock ≠ (Value.slice Ae j ce).ownBlock := row_apart hr6 ne23 hat7
               have hr8 : w12.ownsRow w8.heap.size 25 1 v1 (j + 1) (flts ((List.range (j + 1)).map xsN)) := (hr4.alloc _).kept hg7 (.inr ne4)
               have hr9 : w12.ownsRow w8.heap.size 25 1 (.slice Ae j ce) j (flts (onesN j)) := (hr6.alloc _).kept hg7 (.inr fun e => ne23 e.symm)
               have hbu := hbt.trans (hb7.mono (Nat.le_refl _))
               have zu := hbu.size
               clear hr4 hr5 hr6 hg7 hat7 ne4 ne23 hbt hb7 jq eq_ zt)
            | (refine wpList_append_any _ rfl (.tmp 216) (.tmp 217) _ rfl w8.heap.size 25 i0 _ 1 4 Try.underlying26 hi hz0 hz1 hz2 rfl (by omega) (.slice Ae j ce) j (flts (onesN j)) rfl (hr9.alloc _) (w12.heap.size + 1) (some ⟨w12.heap.size, 0, none⟩) 1 1 [.float .f32 1065353216] rfl (reads_new w12 [_] _) (one_flt _) (by simp only [maxLen]; omega) (by omega) (by simp; omega) ?_
               intro v3 w13 hra hga hata
               rw [flts_snoc, ee.out] at hra
               have hba : Below w8.heap.size w12 w13 := ((Below.refl _ _).alloc zu _).grown hga (by simp; omega) (fun j hj => (hr9.lt j hj).1)
               have ne9 : v3.ownBlock ≠ v1.ownBlock := row_apart hr8 ne5.symm hata
               have nea : v3.ownBlock ≠ v2.ownBlock := row_apart hr7 ne8.symm hata
               have hrb : w13.ownsRow w8.heap.size 25 1 v1 (j + 1) (flts ((List.range (j + 1)).map xsN)) := (hr8.alloc _).kept hga (.inr ne5)
               have hrc : w13.ownsRow w8.heap.size 25 1 v2 (j + 1) (flts ((ts ++ [q]).map qw)) := (hr7.alloc _).kept hga (.inr ne8)
               have hbv := hbu.trans (hba.mono (Nat.le_refl _))
               clear hr8 hr7 hr9 hga hata ne5 ne8 hbu hba ee zu))
          exact ⟨⟨j + 1, by omega, by go_num, ⟨ts ++ [q], by simp [htl], htn, hrc⟩, hrb, hra, ⟨ne7.symm, ne9.symm, nea.symm⟩, hbv⟩, by simp [intOf]; omega⟩
          -- L2>
        · obtain rfl : j = d + 1 := by omega
          clear hlt hj ne12 ne13 ne23
          obtain ⟨ga, ca, rfl, la⟩ := World.ownsRow.form hr1 (by omega)
          obtain ⟨gb, cb, rfl, lb⟩ := World.ownsRow.form hr2 (by omega)
          obtain ⟨ge, ce, rfl, le⟩ := World.ownsRow.form hr3 (by omega)
          have hOa := own_row hr1
          have hOb := own_row hr2
          have hOe := own_row hr3
          obtain ⟨L, hans, hG⟩ := fit_ok d (by omega) ts htl hts.out
          have HF := fitI (some ⟨ga, 0, none⟩) (some ⟨gb, 0, none⟩) (some ⟨ge, 0, none⟩) ca cb ce ((List.range (d + 1)).map xsN) (ts.map qw) (onesN (d + 1)) (d : Int) wq (hOa.reads' (by omega) (flts_len _)) (hOb.reads' (by omega) (flts_len _)) (hOe.reads' (by omega) (flts_len _)) (by simp; omega) (by simp; omega) (by simp [onesN]; omega)
          rw [hans] at HF
          simp only [List.length_map, List.length_range, htl, onesN, List.length_replicate] at HF
          have hb17 := hb15.trans (hbr.mono z8)
          clear hr1 hr2 hr3 hOe le hans hbr hb15
          go_wp2_with fail
          (with_reducible refine HF.mono ?_)
          rintro e w14 ⟨hb18, gf, cf, rfl, hOf⟩
          clear HF
          have z18 := hb18.size
          have hb19 := hb17.trans (hb18.mono (by omega))
          have hOa := hOa.below hb18 (by omega)
          have hOb := hOb.below hb18 (by omega)
          clear hb17 hb18
          have hb20 : Below w14.heap.size w14 (w14.alloc (.cells #[.slice (some ⟨gf, 0, none⟩) L.length cf] 33)) := (Below.refl _ _).alloc (Nat.le_refl _) _
          have hPf := Blk.new w14 33 #[.slice (some ⟨gf, 0, none⟩) L.length cf]
          go_wp2
          generalize w14.alloc (.cells #[.slice (some ⟨gf, 0, none⟩) L.length cf] 33) = w15 at hb20 hPf ⊢
          have z20 := hPf.lt
          have hb21 := hb19.trans (hb20.mono (by omega))
          have z21 := hb21.size
          have hOa := hOa.below hb20 (by omega)
          have hOb := hOb.below hb20 (by omega)
          have hOf := (hOf.below hb20 (by omega)).reads' (B := w14.heap.size) (n := L.length) (Nat.le_refl _) (by simp)
          have hRa : Reads w15 w14.heap.size 1 (some ⟨ga, 0, none⟩) ((List.range (d + 1)).map xsN).length (flts ((List.range (d + 1)).map xsN)) := hOa.reads' (by omega) (flts_len _)
          have hRb : Reads w15 w14.heap.size 1 (some ⟨gb, 0, none⟩) (ts.map qw).length (flts (ts.map qw)) := hOb.reads' (by omega) (flts_len _)
          clear hb19 hb20 hOa hOb zr la lb
          go_loopw [27, 28, 29] (fun i _ _ wr => ∃ j : Nat, j ≤ d + 1 ∧ i = .int .i64 (j : Int) ∧ Below w15.heap.size w15 wr) (fun i _ _ _ => d + 1 - (intOf i).toNat)
          case atStart => exact ⟨0, Nat.zero_le _, rfl, Below.refl _ _⟩
          case round =>
            obtain ⟨j, hj, rfl, hbr⟩ := hrel
            obtain ⟨wq, rfl⟩ : ∃ wq : World, wq = wr := ⟨_, rfl⟩
            have zr := hbr.size
            by_cases hlt : j ≤ d
            · -- <L3
              obtain ⟨r, s, u1, v1, g1, HP, f1, f2, HG, t1⟩ := fit_test hG htl hts.out (show j < d + 1 by omega)
              obtain ⟨ad1, e1, hB1, hc1⟩ := flt_at (k := j) (hRa.below (hbr.mono (by omega))) (by simp; omega)
              obtain ⟨ad2, e2, hB2, hc2⟩ := flt_at (k := j) (hRb.below (hbr.mono (by omega))) (by simp; omega)
              cases e1
              cases e2
              replace hB1 : ga < w14.heap.size := hB1
              replace hB2 : gb < w14.heap.size := hB2
              have hj0 : (0 : Int) ≤ (j : Int) := by omega
              have hj1 : (j : Int) < ((d + 1 : Nat) : Int) := by omega
              have hj2 : (j : Int) < (d : Int) + 1 := by omega
              have hj3 : j < d + 1 := by omega
              have hxe : ((List.range (d + 1)).map xsN).getD j 0 = xsN j := by simp [List.getD, show j < d + 1 by omega]
              rw [hxe, add0] at hc1
              rw [add0] at hc2
              have ka := cvW f1
              have kb := cvW f2
              have cP : wq.cell? ⟨w14.heap.size, 0, none⟩ = some (.slice (some ⟨gf, 0, none⟩) L.length cf) := (hPf.below hbr (by omega)).cell 0
              have HP1 := fun W (hW : Below wq.heap.size wq W) => HP (some ⟨gf, 0, none⟩) cf W ((hOf.below ((hbr.trans (hW.mono zr)).mono (by omega))).more (by have := hW.size; omega))
              clear hxe f1 f2 HP hG hts hRa hRb
              generalize xsN j = xj at *
              generalize (ts.map qw).getD j 0 = yj at *
              go_wp2_with fail
              have S0 : wq.drew.cell? ⟨w14.heap.size, 0, none⟩ = some (.slice (some ⟨gf, 0, none⟩) L.length cf) ∧ wq.drew.cell? ⟨ga, j, none⟩ = some (.float .f32 xj) ∧ wq.drew.cell? ⟨gb, j, none⟩ = some (.float .f32 yj) ∧ Below wq.heap.size wq wq.drew := ⟨cP, hc1, hc2, below_drew (Below.refl _ _)⟩
              have hBa : ga < wq.heap.size := by omega
              have hBb : gb < wq.heap.size := by omega
              have hBp : w14.heap.size < wq.heap.size := by omega
              have Sc : ∀ W W' : World, (W.cell? ⟨w14.heap.size, 0, none⟩ = some (.slice (some ⟨gf, 0, none⟩) L.length cf) ∧ W.cell? ⟨ga, j, none⟩ = some (.float .f32 xj) ∧ W.cell? ⟨gb, j, none⟩ = some (.float .f32 yj) ∧ Below wq.heap.size wq W) → Below W.heap.size W W' → (W'.cell? ⟨w14.heap.size, 0, none⟩ = some (.slice (some ⟨gf, 0, none⟩) L.length cf) ∧ W'.cell? ⟨ga, j, none⟩ = some (.float .f32 xj) ∧ W'.cell? ⟨gb, j, none⟩ = some (.float .f32 yj) ∧ Below wq.heap.size wq W') := fun W W' h hb =>
                ⟨(hb.cell (p := ⟨w14.heap.size, 0, none⟩) (Nat.lt_of_lt_of_le hBp h.2.2.2.size)).trans h.1, (hb.cell (p := ⟨ga, j, none⟩) (Nat.lt_of_lt_of_le hBa h.2.2.2.size)).trans h.2.1, (hb.cell (p := ⟨gb, j, none⟩) (Nat.lt_of_lt_of_le hBb h.2.2.2.size)).trans h.2.2.1, h.2.2.2.trans (hb.mono h.2.2.2.size)⟩
              have hdr : Below wq.heap.size wq wq.drew := below_drew (Below.refl _ _)
              clear cP hc1 hc2 hr hr' hPf hOf
              go_region_held3 (fun w' => w'.cell? ⟨w14.heap.size, 0, none⟩ = some (.slice (some ⟨gf, 0, none⟩) L.length cf) ∧ w'.cell? ⟨ga, j, none⟩ = some (.float .f32 xj) ∧ w'.cell? ⟨gb, j, none⟩ = some (.float .f32 yj) ∧ Below wq.heap.size wq w')
                (first | exact S0 | exact Sc _ _ (by assumption) (by assumption) | trace_state)
                (first | (go_at_call 11; (with_reducible refine (HP1 _ (by assumption)).mono ?_); rintro e w16 ⟨rfl, hb22⟩))
              rename_i hheld
              obtain ⟨-, -, hc3, hb23⟩ := hheld
              have hb24 := hbr.trans (hb23.mono zr)
              clear S0 Sc HP1 hb22 hdr hb23 hbr
              go_wp2_with fail
              refine (HG _).mono ?_
              rintro e w17 ⟨rfl, rfl⟩
              go_wp2
              go_roundw
              case rel => exact ⟨j + 1, by omega, by go_num, hb24⟩
              case measure => (simp [intOf]; all_goals omega)
              -- L3>
            · obtain rfl : j = d + 1 := by omega
              have hb25 := hb21.trans (hbr.mono z21)
              have z25 := hb25.size
              clear hOf hRa hRb hPf hG hts hbr hr hr'
              obtain ⟨M, hM, hM1, g9, HF9, t9⟩ := mean_some
              obtain ⟨⟨ma, mb⟩, rfl⟩ := List.length_eq_one_iff.1 hM1
              simp only [List.getD_cons_zero] at HF9
              have r1' : Reads (((wq.alloc (.cells #[.float .f32 0, .float .f32 1065353216, .float .f32 1073741824] 25)).alloc (.cells #[.float .f32 1065353216, .float .f32 1073741824, .float .f32 1086324736] 25)).alloc (.cells #[.float .f32 1065353216, .float .f32 1065353216, .float .f32 1065353216] 25)) (((wq.alloc (.cells #[.float .f32 0, .float .f32 1065353216, .float .f32 1073741824] 25)).alloc (.cells #[.float .f32 1065353216, .float .f32 1073741824, .float .f32 1086324736] 25)).alloc (.cells #[.float .f32 1065353216, .float .f32 1065353216, .float .f32 1065353216] 25)).heap.size 1 (some ⟨wq.heap.size, 0, none⟩) [0, 1065353216, 1073741824].length (flts [0, 1065353216, 1073741824]) := ((reads_new wq (flts [0, 1065353216, 1073741824]) 25).below (((Below.refl _ _).alloc (by simp) _).alloc (by simp) _)).more (by simp)
              have r2' : Reads (((wq.alloc (.cells #[.float .f32 0, .float .f32 1065353216, .float .f32 1073741824] 25)).alloc (.cells #[.float .f32 1065353216, .float .f32 1073741824, .float .f32 1086324736] 25)).alloc (.cells #[.float .f32 1065353216, .float .f32 1065353216, .float .f32 1065353216] 25)) (((wq.alloc (.cells #[.float .f32 0, .float .f32 1065353216, .float .f32 1073741824] 25)).alloc (.cells #[.float .f32 1065353216, .float .f32 1073741824, .float .f32 1086324736] 25)).alloc (.cells #[.float .f32 1065353216, .float .f32 1065353216, .float .f32 1065353216] 25)).heap.size 1 (some ⟨wq.heap.size + 1, 0, none⟩) [1065353216, 1073741824, 1086324736].length (flts [1065353216, 1073741824, 1086324736]) := by
                have h := (reads_new (wq.alloc (.cells #[.float .f32 0, .float .f32 1065353216, .float .f32 1073741824] 25)) (flts [1065353216, 1073741824, 1086324736]) 25).below ((Below.refl _ _).alloc (by simp) (.cells #[.float .f32 1065353216, .float .f32 1065353216, .float .f32 1065353216] 25))
                rw [show (wq.alloc (.cells #[.float .f32 0, .float .f32 1065353216, .float .f32 1073741824] 25)).heap.size = wq.heap.size + 1 by simp] at h
                exact h.more (by simp)
              have r3' : Reads (((wq.alloc (.cells #[.float .f32 0, .float .f32 1065353216, .float .f32 1073741824] 25)).alloc (.cells #[.float .f32 1065353216, .float .f32 1073741824, .float .f32 1086324736] 25)).alloc (.cells #[.float .f32 1065353216, .float .f32 1065353216, .float .f32 1065353216] 25)) (((wq.alloc (.cells #[.float .f32 0, .float .f32 1065353216, .float .f32 1073741824] 25)).alloc (.cells #[.float .f32 1065353216, .float .f32 1073741824, .float .f32 1086324736] 25)).alloc (.cells #[.float .f32 1065353216, .float .f32 1065353216, .float .f32 1065353216] 25)).heap.size 1 (some ⟨wq.heap.size + 1 + 1, 0, none⟩) [1065353216, 1065353216, 1065353216].length (flts [1065353216, 1065353216, 1065353216]) := by
                have h := reads_new ((wq.alloc (.cells #[.float .f32 0, .float .f32 1065353216, .float .f32 1073741824] 25)).alloc (.cells #[.float .f32 1065353216, .float .f32 1073741824, .float .f32 1086324736] 25)) (flts [1065353216, 1065353216, 1065353216]) 25
                rw [show ((wq.alloc (.cells #[.float .f32 0, .float .f32 1065353216, .float .f32 1073741824] 25)).alloc (.cells #[.float .f32 1065353216, .float .f32 1073741824, .float .f32 1086324736] 25)).heap.size = wq.heap.size + 1 + 1 by simp] at h
                exact h.more (by simp)
              have hb26 : Below wq.heap.size wq (((wq.alloc (.cells #[.float .f32 0, .float .f32 1065353216, .float .f32 1073741824] 25)).alloc (.cells #[.float .f32 1065353216, .float .f32 1073741824, .float .f32 1086324736] 25)).alloc (.cells #[.float .f32 1065353216, .float .f32 1065353216, .float .f32 1065353216] 25)) := (((Below.refl _ _).alloc (Nat.le_refl _) _).alloc (by simp) _).alloc (by simp; omega) _
              have HF := fitI (some ⟨wq.heap.size, 0, none⟩) (some ⟨wq.heap.size + 1, 0, none⟩) (some ⟨wq.heap.size + 1 + 1, 0, none⟩) 3 3 3 [0, 1065353216, 1073741824] [1065353216, 1073741824, 1086324736] [1065353216, 1065353216, 1065353216] 0 _ r1' r2' r3' (by simp) (by simp) (by simp)
              rw [hM] at HF
              simp only [List.length_cons, List.length_nil, Nat.zero_add, Nat.reduceAdd] at HF
              clear r1' r2' r3' hM
              go_wp2_with fail
              (with_reducible refine HF.mono ?_)
              rintro e w18 ⟨hb27, gm, cm, rfl, hOm⟩
              clear HF
              have hb28 := (hb25.trans (hb26.mono z25)).trans (hb27.mono (by simp; omega))
              have z28 := hb28.size
              have hb29 : Below w18.heap.size w18 (w18.alloc (.cells #[.slice (some ⟨gm, 0, none⟩) 1 cm] 33)) := (Below.refl _ _).alloc (Nat.le_refl _) _
              have hb30 := hb28.trans (hb29.mono z28)
              have hPm := Blk.new w18 33 #[.slice (some ⟨gm, 0, none⟩) 1 cm]
              obtain ⟨ad, e1, -, hc9⟩ := comp_at (l := [(ma, mb)]) (k := 0) ((hOm.below hb29 (by omega)).reads' (B := w18.heap.size) (Nat.le_refl _) (by simp)) (by simp)
              cases e1
              simp only [List.getD_cons_zero, add0] at hc9
              have cPm : (w18.alloc (.cells #[.slice (some ⟨gm, 0, none⟩) 1 cm] 33)).cell? ⟨w18.heap.size, 0, none⟩ = some (.slice (some ⟨gm, 0, none⟩) 1 cm) := hPm.cell 0
              clear hb25 hb26 hb27 hb28 hb29 hPm hOm hb21
              go_wp2_with fail
              refine (HF9 _).mono ?_
              rintro e w19 ⟨rfl, rfl⟩
              go_wp2
              go_ret
              exact ⟨rfl, hb30⟩
end Go.Proofs.Ytlpibibpckkjhaa
