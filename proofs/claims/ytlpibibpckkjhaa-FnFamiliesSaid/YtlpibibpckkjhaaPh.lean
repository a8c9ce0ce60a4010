/-
  The law FnFamilies, walked by contracts: whatever the arguments, it returns true and turns nothing that was there.
-/
import Derived.Test.YtlpibibpckkjhaaPg
namespace Go.Proofs.Ytlpibibpckkjhaa
open Go.RowKit
set_option maxRecDepth 100000 in
set_option maxHeartbeats 6400000 in
theorem lawFam (A A' : Option Addr) (c c' : Nat) (zs ms : List Int) (w : World) (hr : Reads w w.heap.size 1 A zs.length (byts zs)) (hr' : Reads w w.heap.size 1 A' ms.length (byts ms)) (hz : Byt zs) (hm : Byt ms) :
    Calls Try.prog 3 #[.slice A zs.length c, .slice A' ms.length c'] w fun e w' => e = .returned (.bool true) ∧ Below w.heap.size w w' := by
  have HL := r8Long_any A A' c c' zs.length ms.length w
  cases hlong : (decide (48 < zs.length) || decide (48 < ms.length)) with
  | true =>
    rw [hlong] at HL
    clear hlong
    go_enter Try.func3, Try.ntmps3
    go_wp2_with fail
    refine HL.mono ?_
    rintro e w' ⟨rfl, rfl⟩
    go_wp2
    go_ret
    exact ⟨rfl, Below.refl _ _⟩
  | false =>
  rw [hlong] at HL
  clear hlong
  obtain ⟨i0, hi, hz0, hz1, hz2⟩ := info_parts infoF
  obtain ⟨i1, hj, hy0, hy1, hy2⟩ := info_parts infoC
  go_enter Try.func3, Try.ntmps3
  go_wp2_with fail
  refine HL.mono ?_
  rintro e w' ⟨rfl, rfl⟩
  clear HL
  go_wp2_with fail
  refine (r8At_any A' c' w.heap.size ms 40 5 (by omega) (by omega) hm _ hr').mono ?_
  rintro e w1 ⟨kind, rfl, hk5, rfl⟩
  have hk : kind ≤ 4 := by omega
  go_wp2_with fail
  refine (r8At_any A' c' w.heap.size ms 41 6 (by omega) (by omega) hm _ hr').mono ?_
  rintro e w1 ⟨n0, rfl, hn5, rfl⟩
  obtain ⟨n, hn, h1, h6⟩ : ∃ n : Nat, 1 + (n0 : Int) = (n : Int) ∧ 1 ≤ n ∧ n ≤ 6 := ⟨n0 + 1, by omega, by omega, by omega⟩
  go_wp2_with fail
  clear hn hn5
  refine (r8At_any A' c' w.heap.size ms 42 17 (by omega) (by omega) hm _ hr').mono ?_
  rintro e w1 ⟨i, rfl, hi17, rfl⟩
  obtain ⟨ex, nx, -⟩ := x_ok i (by omega)
  have jx := ar32 _ _ _ _ ex
  have hfx := nv_fin nx
  obtain ⟨r, hrow⟩ := row_ok kind i n hk (by omega) h6
  obtain ⟨-, -, -, hv, -⟩ := row_facts kind i hk (by omega)
  have HR := familyRowX_w kind n (xF i) r hk (by omega) hrow.is hfx hrow.fin
  have HA := familyAt_w kind n (xF i) (RW kind i n) r hk (by omega) hrow.is hfx (hrow.at_ n (Nat.le_refl _)) (nv_fin (hv n h6).1)
  have hto := tm_ok kind n hk h6
  have HP := familyPoly_w kind n (tmL kind n) hk (by omega) hto.is hto.valid hto.trim
  obtain ⟨pr, ps, pπ, pn, pnr, HPA⟩ := fam_polyAt kind i n hk (by omega) h6
  replace hv := Lib.hid hv
  have hTl : (cplx (reC (tmL kind n).1)).length = n + 1 := by simp [hto.len]
  clear ex nx hfx
  go_wp2_with fail
  (with_reducible refine (HR _).mono ?_)
  rintro e w1 ⟨g, cr, rfl, hOr, hg1, hg2, hb1⟩
  clear HR
  have z1 := hb1.size
  go_wp2_with fail
  (with_reducible refine (HA _).mono ?_)
  rintro e w2 ⟨rfl, hb2⟩
  have z2 := hb2.size
  have hO2 := hOr.below hb2 (by omega)
  have hb3 := hb1.trans (hb2.mono (by omega))
  clear hOr hb1 hb2
  go_wp2_with fail
  (with_reducible refine (HP _).mono ?_)
  rintro e w3 ⟨gp, cp, rfl, hOp, hb4⟩
  clear HP
  have z4 := hb4.size
  have hO3 := hO2.below hb4 (by omega)
  have hb5 := hb3.trans (hb4.mono (by omega))
  have hb6 : Below w3.heap.size w3 (w3.alloc (.cells #[.slice (some ⟨gp, 0, none⟩) (n + 1) cp] 33)) := (Below.refl _ _).alloc (Nat.le_refl _) _
  have hPv := Blk.new w3 33 #[.slice (some ⟨gp, 0, none⟩) (n + 1) cp]
  have cPv : (w3.alloc (.cells #[.slice (some ⟨gp, 0, none⟩) (n + 1) cp] 33)).cell? ⟨w3.heap.size, 0, none⟩ = some (.slice (some ⟨gp, 0, none⟩) (n + 1) cp) := hPv.cell 0
  have hRp : Reads (w3.alloc (.cells #[.slice (some ⟨gp, 0, none⟩) (n + 1) cp] 33)) w3.heap.size 1 (some ⟨gp, 0, none⟩) (n + 1) (cplx (reC (tmL kind n).1)) := (hOp.below hb6 (Nat.le_refl _)).reads' (Nat.le_refl _) hTl
  have HPA1 := HPA (some ⟨gp, 0, none⟩) cp _ (hRp.more (by simp))
  clear HPA hO2 hb3 hb4 hOp
  go_wp2_with fail
  (with_reducible refine HPA1.mono ?_)
  rintro e w4 ⟨rfl, hb7⟩
  clear HPA1 cPv
  have z7 := hb7.size
  simp only [World.size_alloc] at z7
  have hP4 := hPv.below hb7 (by simp)
  have hR4 := hRp.below (hb7.mono (by simp))
  have hO4 := (hO3.below hb6 (by omega)).below hb7 (by simp; omega)
  have hb8 := (hb5.trans (hb6.mono (by omega))).trans (hb7.mono (by simp; omega))
  obtain ⟨P, hPe⟩ : ∃ P, P = w3.heap.size := ⟨_, rfl⟩
  rw [← hPe] at hP4 hR4 z7 ⊢
  have hgP : g < P := by omega
  have z8 := hb8.size
  have hPlt := hP4.lt
  have hwP : Hid (w.heap.size ≤ P) := by show _ ≤ _; omega
  clear hPv hRp hO3 hb5 hb6 hb7 hPe z1 z2 z4
  have hv0 := hv.out n h6
  obtain ⟨u, u2, gq, f1, f2, HG, HT⟩ := fam_test pn hv0.1 pnr
  have k1 := cvW f1
  have k2 := cvW f2
  have q1 := eq_yes hv0.1
  have q0 := eq_yes nv_one
  have hz0' := RW_zero kind i hk (by omega)
  have hlr : (flts r.1).length = n + 1 := by simp [hrow.len]
  have hRr : Reads w4 (g + 1) 1 (some ⟨g, 0, none⟩) (n + 1) (flts r.1) := hO4.reads' (by omega) hlr
  obtain ⟨ad1, e1, -, hc1⟩ := flt_atN hRr hrow.len (show 0 < n + 1 by omega)
  obtain ⟨ad2, e2, -, hc2⟩ := flt_atN hRr hrow.len (show n < n + 1 by omega)
  cases e1
  cases e2
  rw [add0, hrow.at_ 0 (by omega), hz0'] at hc1
  rw [add0, hrow.at_ n (by omega)] at hc2
  have HSz := fun W (hW : Below w4.heap.size w4 W) => r8Size_v (some ⟨gp, 0, none⟩) cp (n + 1) (xF i) (reC (tmL kind n).1) (by simp [hto.len]) (by omega) (by omega) (tT kind n) (fun _ => 0) (xV i) (fun k hk2 => by
    rw [reC_at (by rw [hto.len]; exact hk2)]
    exact ⟨hto.nv k (by omega), nv_zero, (ab_lm _).le (by have := hto.bd k (by omega); grind), by unfold Lm; constructor <;> grind⟩) (x_ok i (by omega)).2.1 (x_ok i (by omega)).2.2 W ((hR4.below (hW.mono (by omega))).more (by have := hW.size; omega))
  have hgw : g < w4.heap.size := by omega
  replace HT := Lib.hid HT
  replace HSz := Lib.hid HSz
  have hn0 : (0 : Int) ≤ (n : Int) := by omega
  have hn1 : (n : Int) < (n : Int) + 1 := by omega
  have hn2 : n < n + 1 := by omega
  have hn3 : (0 : Int) < (n : Int) + 1 := by omega
  have hn4 : 0 < n + 1 := by omega
  have hwn : IntKind.i64.wrap ((n : Int) + 1) = (n : Int) + 1 := IntWalk.i64_in _ (by omega)
  have cP4 : w4.cell? ⟨P, 0, none⟩ = some (.slice (some ⟨gp, 0, none⟩) (n + 1) cp) := hP4.cell 0
  have hb10 := hb8.drew
  replace hb8 := Lib.hid hb8
  replace hb10 := Lib.hid hb10
  replace hO4 := Lib.hid hO4
  clear hv0 pn pnr f1 f2 hR4 hP4 hRr hto hTl hz0'
  have hat := Lib.hid hrow.at_
  have hfitt := Lib.hid (show r.1.length = n + 1 from hrow.len)
  clear hrow
  generalize hxx : xF i = xx at *
  generalize hry : RW kind i n = ry at *
  replace hxx := Lib.hid hxx
  replace hry := Lib.hid hry
  go_upto_region 10 with fail
  go_cut [144] from 47 (fun t w' => t = .bool false ∧ Below w4.heap.size w4 w')
  case first =>
    -- <R10
    go_wp2_with fail
    refine wp_region_still_tail 53 (by kernel_rfl) (by kernel_rfl) ?_
    simp only [List.take_succ_cons, List.take_zero, List.drop_succ_cons, List.drop_zero]
    repeat still_step
    still_call (HG _)
    repeat still_step
    refine wpStill_nil ?_
    change wpList _ _ _ _ _ w4.drew
    go_wp2_with fail
    refine (HSz.out _ (below_drew (Below.refl _ _))).mono ?_
    rintro e w5 ⟨s, σ, rfl, hs, s1, s2, hb11⟩
    obtain ⟨a, m, ea, em, ht⟩ := HT.out s σ hs s1 s2
    have ka := ar64 _ _ _ _ ea
    have kb := ar64 _ _ _ _ em
    go_wp2_with fail
    go_meet
    case rel => exact ⟨rfl, (below_drew (Below.refl _ _)).trans (hb11.mono (by simp))⟩
    -- R10>
  case rest =>
    obtain ⟨rfl, hbc⟩ := hcut
    clear HT HSz HG k1 k2 q0 hc1 hc2 jx
    go_upto_region 12 with fail
    have zc := hbc.size
    have hb12 : Below w.heap.size w wc := hb8.out.trans (hbc.mono z8)
    have hRc : Reads wc wc.heap.size 1 (some ⟨g, 0, none⟩) (n + 1) (flts r.1) := (hO4.out.below hbc (by omega)).reads' (by omega) hlr
    exact famT1 A A' c c' zs ms w wc kind n xx ry hk h1 h6 (hr.below hb12) (hr'.below hb12) hz hm hb12 q1 HA i (by omega) hxx g cr r.1 hfitt hat hRc _ _ (by assumption) (by assumption)
end Go.Proofs.Ytlpibibpckkjhaa
