/-
  The law FnRuled, walked by contracts: whatever the arguments, it returns true and turns nothing that was there.
-/
import Derived.Test.YtciakaecdllfcaaRuledPack
import Derived.Test.YtciakaecdllfcaaDesk
namespace Go.Proofs.Ytciakaecdllfcaa
open Go.RowKit

set_option maxRecDepth 100000 in
set_option maxHeartbeats 3200000 in
theorem lawRuled (A A' : Option Addr) (c c' : Nat) (zs ms : List Int) (w : World) (hr : Reads w w.heap.size 1 A zs.length (byts zs)) (hr' : Reads w w.heap.size 1 A' ms.length (byts ms)) (hz : Byt zs) (hm : Byt ms) (hn : zs.length ≤ 1048576) (hn' : ms.length ≤ 1048576) :
    Calls Try.prog 4 #[.slice A zs.length c, .slice A' ms.length c'] w fun e w' => e = .returned (.bool true) ∧ Below w.heap.size w w' := by
  obtain ⟨i0, hi, hz0, hz1, hz2⟩ := info_parts info2
  have HL := b10Long_any A A' c c' zs.length ms.length w
  rw [show (decide (1048576 < zs.length) || decide (1048576 < ms.length)) = false by simp; omega] at HL
  have y0 : Below w.heap.size w (w.alloc (.cells #[.int .i64 2, .int .i64 3, .int .i64 5, .int .i64 7] 2)) := (Below.refl _ _).alloc (Nat.le_refl _) _
  have hblk : Blk (w.alloc (.cells #[.int .i64 2, .int .i64 3, .int .i64 5, .int .i64 7] 2)) w.heap.size 2 (ints [2, 3, 5, 7]).toArray := heap_alloc_new w _
  go_enter Try.func4, Try.ntmps4
  go_wp2_with fail
  refine HL.mono ?_
  rintro e w' ⟨rfl, rfl⟩
  clear HL
  go_wp2_with fail
  refine (b10At_any A' c' w.heap.size ms 0 4 (by omega) (by omega) hm _ (hr'.below y0)).mono ?_
  rintro e w1 ⟨i, rfl, hi4, rfl⟩
  have hA : (⟨w.heap.size, 0, none⟩ : Addr).add i = ⟨w.heap.size, i, none⟩ := by unfold Addr.add; split <;> simp_all
  have hcp : (w.alloc (.cells #[.int .i64 2, .int .i64 3, .int .i64 5, .int .i64 7] 2)).cell? ⟨w.heap.size, i, none⟩ = some (.int .i64 (([2, 3, 5, 7] : List Int).getD i 0)) := by
    rw [hblk.cell i]
    rcases (by omega : i = 0 ∨ i = 1 ∨ i = 2 ∨ i = 3) with rfl | rfl | rfl | rfl <;> rfl
  have hP := primes_at hi4
  clear hblk
  generalize (([2, 3, 5, 7] : List Int).getD i 0) = p at *
  have hp := isP_one hP
  have HP := Lib.hid hP
  clear hP
  generalize hw0 : w.alloc (.cells #[.int .i64 2, .int .i64 3, .int .i64 5, .int .i64 7] 2) = w0 at *
  clear hw0
  have z0 := y0.size
  go_wp2_with fail
  refine (b10At_any A' c' w.heap.size ms 1 5 (by omega) (by omega) hm _ (hr'.below y0)).mono ?_
  rintro e w1 ⟨r, rfl, hr5, rfl⟩
  clear hcp hA
  go_wp2_with fail
  refine (b10List_any A c w.heap.size zs p r r rfl w0 (hr.below y0) (by omega) hz (by omega) (by omega)).mono ?_
  rintro e w1 ⟨A1, c1, rule, rfl, -, hl1, hR, o1, hb1⟩
  have z1 := hb1.size
  have y1 := y0.trans (hb1.mono (by omega))
  clear y0 hb1
  go_wp2_with fail
  refine (b10List_any A' c' w.heap.size ms p r r rfl w1 (hr'.below y1) (by omega) hm (by omega) (by omega)).mono ?_
  rintro e w2 ⟨A2, c2, first, rfl, -, hl2, hF, o2, hb2⟩
  have z2 := hb2.size
  have y2 := y1.trans (hb2.mono (by omega))
  replace o1 := o1.below hb2 (by omega)
  clear y1 hb2
  obtain ⟨L, hLL, hLO, hLE, KI, KS⟩ := pack1 (q := 20) (n := 20) rfl (by omega) HP.out hl1 hl2 (by omega) hR hF
  replace KI := Lib.hid KI
  replace KS := Lib.hid KS
  clear hR hF
  go_wp2_with fail
  refine (KI.out A1 A2 c1 c2 w2.heap.size w2 (o1.reads' (by omega) (by simpa using hl1)) (o2.reads' (by omega) (by simpa using hl2)) (Nat.le_refl _)).mono ?_
  rintro e w3 ⟨A3, c3, rfl, hc3, o3, hb3⟩
  have z3 := hb3.size
  have y3 := y2.trans (hb3.mono (by omega))
  replace o1 := o1.below hb3 (by omega)
  replace o2 := o2.below hb3 (by omega)
  clear y2 hb3
  go_wp2_with fail
  refine (KS.out A1 A2 c1 c2 w3.heap.size w3 (o1.reads' (by omega) (by simpa using hl1)) (o2.reads' (by omega) (by simpa using hl2)) (Nat.le_refl _)).mono ?_
  rintro e w4 ⟨A4, c4, rfl, o4, hb4⟩
  have z4 := hb4.size
  have y4 := y3.trans (hb4.mono (by omega))
  replace o3 := o3.below hb4 (by omega)
  clear y3 hb4 o1 o2 KI KS hl1 hl2
  go_wp2_with fail
  refine (b10Ints_any A3 A4 c3 c4 w4.heap.size 20 L hLL w4 (o3.reads' (by omega) (by simpa using hLL)) (o4.reads' (by omega) (by simpa using hLL)) (by omega)).mono ?_
  rintro e w5 ⟨rfl, hb5⟩
  have z5 := hb5.size
  have y5 := y4.trans (hb5.mono (by omega))
  replace o3 := o3.below hb5 (by omega)
  clear y4 hb5 o4
  obtain ⟨F, hFe, hF20, RI, RS, K2⟩ := pack2 (q := 20) (n := 20) rfl (by omega) HP.out hLL hLO
  have hFr : F.length ≤ r := by rw [hFe]; exact hLE
  have hdF : decide ((r : Int) < (F.length : Int)) = false := by simp; omega
  replace RI := Lib.hid RI
  replace RS := Lib.hid RS
  replace K2 := Lib.hid K2
  clear hFe hLE
  go_wp2_with fail
  refine (RI.out A3 c3 w5.heap.size w5 (o3.reads' (by omega) (by simpa using hLL)) (Nat.le_refl _)).mono ?_
  rintro e w6 ⟨A6, c6, rfl, o6, hb6⟩
  have z6 := hb6.size
  have y6 := y5.trans (hb6.mono (by omega))
  replace o3 := o3.below hb6 (by omega)
  clear y5 hb6
  go_wp2_with fail
  refine (RS.out A3 c3 w6.heap.size w6 (o3.reads' (by omega) (by simpa using hLL)) (Nat.le_refl _)).mono ?_
  rintro e w7 ⟨A7, c7, rfl, o7, hb7⟩
  have z7 := hb7.size
  have y7 := y6.trans (hb7.mono (by omega))
  replace o3 := o3.below hb7 (by omega)
  replace o6 := o6.below hb7 (by omega)
  clear y6 hb7 RI RS
  go_wp2_with fail
  refine (b10Ints_any A6 A7 c6 c7 w7.heap.size F.length F rfl w7 (o6.reads' (by omega) (by simp)) (o7.reads' (by omega) (by simp)) (by omega)).mono ?_
  rintro e w8 ⟨rfl, hb8⟩
  have z8 := hb8.size
  have y8 := y7.trans (hb8.mono (by omega))
  replace o3 := o3.below hb8 (by omega)
  replace o6 := o6.below hb8 (by omega)
  clear y7 hb8 o7
  have hba : Below w8.heap.size w8 (w8.alloc (.cells #[] 2)) := (Below.refl _ _).alloc (Nat.le_refl _) _
  have hown : (w8.alloc (.cells #[] 2)).ownsRow w8.heap.size 2 1 (.slice (some ⟨w8.heap.size, 0, none⟩) 0 0) 0 [] := World.ownsRow_made w8 #[] 0 (Nat.le_refl _) (by simp [maxLen]) rfl
  have rT : Reads (w8.alloc (.cells #[] 2)) w8.heap.size 1 A3 F.length (ints (L.take F.length)) := by
    have := (o3.take F.length).below hba (by omega)
    rw [ints_take] at this
    exact this.reads' (by omega) (by rw [ints_len, List.length_take]; omega)
  go_wp2_with (at_builtin; refine wpList_append_any _ rfl (.tmp 111) (.tmp 115) _ rfl w8.heap.size 2 i0 _ 1 8 Try.underlying22 hi hz0 hz1 hz2 rfl (by omega) (.slice (some ⟨w8.heap.size, 0, none⟩) 0 0) 0 [] rfl hown w8.heap.size A3 F.length c3 (ints (L.take F.length)) rfl rT (ints_one _) (by simp only [maxLen]; omega) (by omega) (by simp) ?_; intro v9 w9 hown9 hg9 hat9)
  have hown9' : w9.ownsRow w8.heap.size 2 1 v9 F.length (ints (L.take F.length)) := by simpa using hown9
  have hb9 : Below w8.heap.size w8 w9 := hba.grown hg9 (by simp) (fun k hk => by simp [Value.ownBlock] at hk; omega)
  clear hown9 hg9 hat9 rT hown hba
  obtain ⟨A9, c9, rfl, -, -, o9⟩ := Own.of_row hown9' (Nat.le_refl _)
  have z9 := hb9.size
  have y9 := y8.trans (hb9.mono (by omega))
  replace o3 := o3.below hb9 (by omega)
  replace o6 := o6.below hb9 (by omega)
  clear y8 hb9 hown9'
  go_wp2_with fail
  refine (K2.out A6 A9 c6 c9 w9.heap.size w9 (o6.reads' (by omega) (by simp)) (o9.reads' (by omega) (by rw [ints_len, List.length_take]; omega)) (Nat.le_refl _)).mono ?_
  rintro e w10 ⟨A10, c10, rfl, -, o10, hb10⟩
  have z10 := hb10.size
  have y10 := y9.trans (hb10.mono (by omega))
  replace o3 := o3.below hb10 (by omega)
  clear y9 hb10 o6 o9 K2 hdF
  go_wp2_with fail
  refine (b10List_any A c w.heap.size zs p 12 12 rfl w10 (hr.below y10) (by omega) hz (by omega) (by omega)).mono ?_
  rintro e w11 ⟨A11, c11, D, rfl, hc11, hDl, hDO, o11, hb11⟩
  have z11 := hb11.size
  have y11 := y10.trans (hb11.mono (by omega))
  replace o3 := o3.below hb11 (by omega)
  replace o10 := o10.below hb11 (by omega)
  clear y10 hb11
  obtain ⟨G, -, hG12, SI, -, K3⟩ := pack2 (q := 12) (n := 12) rfl (by omega) HP.out hDl hDO
  have hdG : decide ((12 : Int) < (G.length : Int)) = false := by simp; omega
  replace SI := Lib.hid SI
  replace K3 := Lib.hid K3
  go_wp2_with fail
  refine (SI.out A11 c11 w11.heap.size w11 (o11.reads' (by omega) (by simpa using hDl)) (Nat.le_refl _)).mono ?_
  rintro e w12 ⟨A12, c12, rfl, o12, hb12⟩
  have z12 := hb12.size
  have y12 := y11.trans (hb12.mono (by omega))
  replace o3 := o3.below hb12 (by omega)
  replace o10 := o10.below hb12 (by omega)
  replace o11 := o11.below hb12 (by omega)
  clear y11 hb12 SI
  go_wp2_with fail
  refine (b10Ints_any A10 A3 c10 c3 w12.heap.size 20 L hLL w12 (o10.reads' (by omega) (by simpa using hLL)) (o3.reads' (by omega) (by simpa using hLL)) (by omega)).mono ?_
  rintro e w13 ⟨rfl, hb13⟩
  have z13 := hb13.size
  have y13 := y12.trans (hb13.mono (by omega))
  replace o11 := o11.below hb13 (by omega)
  replace o12 := o12.below hb13 (by omega)
  clear y12 hb13 o3 o10
  have hba : Below w13.heap.size w13 (w13.alloc (.cells #[] 2)) := (Below.refl _ _).alloc (Nat.le_refl _) _
  have hown : (w13.alloc (.cells #[] 2)).ownsRow w13.heap.size 2 1 (.slice (some ⟨w13.heap.size, 0, none⟩) 0 0) 0 [] := World.ownsRow_made w13 #[] 0 (Nat.le_refl _) (by simp [maxLen]) rfl
  have rT : Reads (w13.alloc (.cells #[] 2)) w13.heap.size 1 A11 G.length (ints (D.take G.length)) := by
    have := (o11.take G.length).below hba (by omega)
    rw [ints_take] at this
    exact this.reads' (by omega) (by rw [ints_len, List.length_take]; omega)
  go_wp2_with (at_builtin; refine wpList_append_any _ rfl (.tmp 149) (.tmp 153) _ rfl w13.heap.size 2 i0 _ 1 8 Try.underlying22 hi hz0 hz1 hz2 rfl (by omega) (.slice (some ⟨w13.heap.size, 0, none⟩) 0 0) 0 [] rfl hown w13.heap.size A11 G.length c11 (ints (D.take G.length)) rfl rT (ints_one _) (by simp only [maxLen]; omega) (by omega) (by simp) ?_; intro v14 w14 hown14 hg14 hat14)
  have hown14' : w14.ownsRow w13.heap.size 2 1 v14 G.length (ints (D.take G.length)) := by simpa using hown14
  have hb14 : Below w13.heap.size w13 w14 := hba.grown hg14 (by simp) (fun k hk => by simp [Value.ownBlock] at hk; omega)
  clear hown14 hg14 hat14 rT hown hba
  obtain ⟨A14, c14, rfl, -, -, o14⟩ := Own.of_row hown14' (Nat.le_refl _)
  have z14 := hb14.size
  have y14 := y13.trans (hb14.mono (by omega))
  replace o11 := o11.below hb14 (by omega)
  replace o12 := o12.below hb14 (by omega)
  clear y13 hb14 hown14'
  go_wp2_with fail
  refine (K3.out A12 A14 c12 c14 w14.heap.size w14 (o12.reads' (by omega) (by simp)) (o14.reads' (by omega) (by rw [ints_len, List.length_take]; omega)) (Nat.le_refl _)).mono ?_
  rintro e w15 ⟨A15, c15, rfl, -, o15, hb15⟩
  have z15 := hb15.size
  have y15 := y14.trans (hb15.mono (by omega))
  replace o11 := o11.below hb15 (by omega)
  clear y14 hb15 o12 o14 K3 hdG
  have hb16 := below_two w15 (.cells #[.complex .f32 1065353216 0, .complex .f32 1065353216 0] 37) (.cells #[.complex .f32 1065353216 0, .complex .f32 1065353216 0] 37)
  have B2 := heap_alloc_new (w15.alloc (.cells #[.complex .f32 1065353216 0, .complex .f32 1065353216 0] 37)) (.cells #[.complex .f32 1065353216 0, .complex .f32 1065353216 0] 37)
  rw [show (w15.alloc (.cells #[.complex .f32 1065353216 0, .complex .f32 1065353216 0] 37)).heap.size = w15.heap.size + 1 by simp] at B2
  have r1 : Reads ((w15.alloc (.cells #[.complex .f32 1065353216 0, .complex .f32 1065353216 0] 37)).alloc (.cells #[.complex .f32 1065353216 0, .complex .f32 1065353216 0] 37)) (w15.heap.size + 2) 1 (some ⟨w15.heap.size, 0, none⟩) 2 (cplx [(1065353216, 0), (1065353216, 0)]) :=
    Own.reads (xs := cplx [(1065353216, 0), (1065353216, 0)]) (lo := 0) (E := 37) (.inr ⟨w15.heap.size, _, rfl, by omega, by omega, (Below.heap_alloc _ _ _ (by simp)).trans (heap_alloc_new w15 _), by simp [cplx], by simp [cplx]⟩)
  have r2 : Reads ((w15.alloc (.cells #[.complex .f32 1065353216 0, .complex .f32 1065353216 0] 37)).alloc (.cells #[.complex .f32 1065353216 0, .complex .f32 1065353216 0] 37)) (w15.heap.size + 2) 1 (some ⟨w15.heap.size + 1, 0, none⟩) 2 (cplx [(1065353216, 0), (1065353216, 0)]) :=
    Own.reads (xs := cplx [(1065353216, 0), (1065353216, 0)]) (lo := 0) (E := 37) (.inr ⟨w15.heap.size + 1, _, rfl, by omega, by omega, B2, by simp [cplx], by simp [cplx]⟩)
  go_wp2_with fail
  refine (runRule_any _ _ 2 2 _ _ r1 r2 (by simp)).mono ?_
  rintro e w16 ⟨A16, c16, rfl, o16, hb17⟩
  clear r1 r2 B2
  have z16 := (hb16.trans (hb17.mono (by simp; omega))).size
  have y16 := y15.trans ((hb16.trans (hb17.mono (by simp; omega))).mono (by omega))
  replace o11 := o11.below (hb16.trans (hb17.mono (by simp; omega))) (by omega)
  replace o15 := o15.below (hb16.trans (hb17.mono (by simp; omega))) (by omega)
  clear y15 hb16 hb17
  replace o16 := o16.wide (Nat.zero_le _) (Nat.le_refl _)
  go_wp2_with fail
  refine (b10Ints_any A15 A11 c15 c11 w16.heap.size 12 D hDl w16 (o15.reads' (by omega) (by simpa using hDl)) (o11.reads' (by omega) (by simpa using hDl)) (by omega)).mono ?_
  rintro e w17 ⟨rfl, hb17⟩
  have z17 := hb17.size
  have y17 := y16.trans (hb17.mono (by omega))
  replace o16 := o16.below hb17 (by omega)
  clear y16 hb17 o11 o15
  obtain ⟨ad, rfl, -, hc7⟩ := comp_at (l := fibC) (k := 7) (o16.reads' (Nat.le_refl _) (by simp)) (by decide)
  have e7 : (fibC.getD 7 (0, 0)).1 = 1101529088 ∧ (fibC.getD 7 (0, 0)).2 = 0 := ⟨rfl, rfl⟩
  rw [e7.1, e7.2] at hc7
  have hc7' : w17.cell? { block := ad.block, off := ad.off + 7 } = some (.complex .f32 1101529088 0) := by simpa [Addr.add] using hc7
  have e8 : (FloatKind.f32.format.order 1101529088 1101529088 == some .eq) = true := by decide +kernel
  have e9 : (FloatKind.f32.format.order 0 0 == some .eq) = true := by decide +kernel
  clear o16 e7
  go_wp2_with fail
  refine (b10At_any A' c' w.heap.size ms 2 5 (by omega) (by omega) hm _ (hr'.below y17)).mono ?_
  rintro e w18 ⟨x, rfl, hx5, rfl⟩
  clear hc7 hc7' e8 e9
  have FX := facts (x := x) (by omega)
  generalize ratB x = q at *
  obtain ⟨S, R, hSl, hRl, hSn, hlast, KSp⟩ := pack3 FX
  replace hSn := Lib.hid hSn
  replace hlast := Lib.hid hlast
  replace KSp := Lib.hid KSp
  have kq := ar32 _ _ _ _ FX.ratio
  have HA := Lib.hid FX.add
  have HM := Lib.hid FX.mul
  clear FX
  obtain ⟨j0, hj, hzc0, hzc1, hzc2⟩ := info_partsC infoC
  go_wp2_with fail
  have hown0 : (w17.alloc (.cells #[] 37)).ownsRow w.heap.size 37 1 (.slice (some ⟨w17.heap.size, 0, none⟩) 0 0) 0 (cplx []) :=
    ⟨rfl, .inr ⟨_, 0, #[], rfl, by omega, heap_alloc_new w17 _, by simp, by simp [maxLen], by simp, by simp [cplx]⟩⟩
  have hb0 : Below w.heap.size w (w17.alloc (.cells #[] 37)) := y17.alloc (by omega) _
  clear kq y17 z0 z1 z2 z3 z4 z5 z6 z7 z8 z9 z10 z11 z12 z13 z14 z15 z16 z17
  go_loopw [28, 29, 30, 31] (fun v sm tm i wr => ∃ k : Nat, k ≤ 6 ∧ i = .int .i64 k ∧ sm = .float .f32 (stB q k).1 ∧ tm = .float .f32 (stB q k).2 ∧ wr.ownsRow w.heap.size 37 1 v k (cplx (S.take k)) ∧ Below w.heap.size w wr) (fun _ _ _ i _ => 6 - (intOf i).toNat)
  case atStart => exact ⟨0, Nat.zero_le _, rfl, rfl, rfl, hown0, hb0⟩
  case round =>
    obtain ⟨k, hk, rfl, rfl, rfl, hown, hbr⟩ := hrel
    obtain ⟨Ao, co, rfl, -, hko, hO⟩ := Own.of_row hown (Nat.le_refl _)
    clear hown0 hb0
    by_cases hlt : k < 6
    · obtain ⟨wo, rfl⟩ : ∃ wo : World, wo = wr := ⟨_, rfl⟩
      have hd6 : decide ((k : Int) < 6) = true := by simp; omega
      have zo := hbr.size
      have kA := ar32 _ _ _ _ (HA.out k hlt)
      have kM := ar32 _ _ _ _ (HM.out k hlt)
      have hE := Lib.hid (hSn.out k hlt)
      clear hO
      generalize hn1 : (stB q (k + 1)).1 = n1 at *
      generalize hn2 : (stB q (k + 1)).2 = n2 at *
      have HN1 := Lib.hid hn1
      have HN2 := Lib.hid hn2
      clear hn1 hn2
      generalize (stB q k).1 = s1 at *
      generalize (stB q k).2 = s2 at *
      go_wp2_with (at_builtin; refine wpList_append_any _ rfl (.tmp 204) (.tmp 207) _ rfl w.heap.size 37 j0 _ 1 8 Try.underlying34 hj hzc0 hzc1 hzc2 rfl (by omega) (.slice Ao k co) k (cplx (S.take k)) rfl (hown.alloc _) (wo.heap.size + 1) (some ⟨wo.heap.size, 0, none⟩) 1 1 [.complex .f32 n1 0] rfl (reads_one wo _ _) (one_c _ _) (by simp only [maxLen]; omega) (by omega) (by simp; omega) ?_; intro v1 w4 hown4 hg4 hat4)
      have hb4 : Below w.heap.size w w4 := (hbr.alloc zo _).grown hg4 (by simp; omega) (fun j hj => (hown.lt j hj).1)
      exact ⟨⟨k + 1, by omega, by go_num, by rw [HN1.out], by rw [HN2.out], by rw [hE.out]; simpa [cplx] using hown4, hb4⟩, by simp [intOf]; omega⟩
    · obtain rfl : k = 6 := by omega
      have hd6 : decide (((6 : Nat) : Int) < 6) = false := rfl
      rw [List.take_of_length_le (by omega)] at hO
      clear hown
      go_wp2_with fail
      refine (KSp.out Ao co wr.heap.size wr (hO.reads' (Nat.le_refl _) (by simpa using hSl)) (Nat.le_refl _)).mono ?_
      rintro e w4 ⟨A4, c4, rfl, o4, hb4⟩
      obtain ⟨a1, ha1, hlast⟩ := bind_some hlast.out
      obtain ⟨a2, ha2, hlast⟩ := bind_some hlast
      obtain ⟨a3, ha3, hlast⟩ := bind_some hlast
      obtain ⟨a4, ha4, hlast⟩ := bind_some hlast
      obtain ⟨a5, ha5, hlast⟩ := bind_some hlast
      have e5 : (FloatKind.f64.format.order a5 4576918229304087675 == some .lt) = true := by
        cases h : (FloatKind.f64.format.order a5 4576918229304087675 == some .lt) with
        | true => rfl
        | false => rw [h, if_neg (by decide)] at hlast; cases hlast
      have u1 := up _ _ ha1
      have u2 := up _ _ ha2
      have u3 := ar64 _ _ _ _ ha3
      have u4 := ar64 _ _ _ _ ha4
      have HG := gap_any _ _ _ ha5
      obtain ⟨ad5, rfl, -, hc5⟩ := comp_at (l := R) (k := 0) (o4.reads' (Nat.le_refl _) (by simp)) (by omega)
      have hc5' : w4.cell? ad5 = some (.complex .f32 (R.getD 0 (0, 0)).1 (R.getD 0 (0, 0)).2) := by simpa [Addr.add] using hc5
      have hbf := hbr.trans (hb4.mono hbr.size)
      clear ha1 ha2 ha3 ha4 ha5 hlast o4 hO
      generalize (R.getD 0 (0, 0)).1 = f1 at *
      generalize (R.getD 0 (0, 0)).2 = f2 at *
      go_wp2_with fail
      refine (HG _).mono ?_
      rintro e w5 ⟨rfl, rfl⟩
      go_wp2
      go_ret
      exact ⟨rfl, hbf⟩
end Go.Proofs.Ytciakaecdllfcaa
