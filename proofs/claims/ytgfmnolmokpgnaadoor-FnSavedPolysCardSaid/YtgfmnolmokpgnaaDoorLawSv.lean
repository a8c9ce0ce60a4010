/-
  The law FnSavedPolys, walked by contracts: whatever the arguments, it returns true and turns nothing that was there.
-/
import Derived.Test.YtgfmnolmokpgnaaDoorLawSvB
import Derived.Deep.RegionLaw
import Derived.Deep.RegionHeld3
namespace Go.Proofs.YtgfmnolmokpgnaaDoor
open Go.RowKit

theorem infoN : (Tryd.prog.info? 3).map (fun i => (i.zero, i.size, i.bytes)) = some (some (.int .i64 0), 1, 8) := by kernel_rfl

/-- Six cells stay, in two blocks that are not new. -/
def Six (p g m : Nat) (u0 u1 u2 v0 v1 v2 : Value) (w0 w : World) : Prop :=
  w.cell? ⟨p, 0, none⟩ = some u0 ∧ w.cell? ⟨p, 1, none⟩ = some u1 ∧ w.cell? ⟨p, 2, none⟩ = some u2 ∧ w.cell? ⟨g, m, none⟩ = some v0 ∧ w.cell? ⟨g, m + 1, none⟩ = some v1 ∧ w.cell? ⟨g, m + 2, none⟩ = some v2 ∧ Below w0.heap.size w0 w
section
variable {p g m : Nat} {u0 u1 u2 v0 v1 v2 : Value} {w0 w w' : World}
theorem Six.start (h : w.cell? ⟨p, 0, none⟩ = some u0 ∧ w.cell? ⟨p, 1, none⟩ = some u1 ∧ w.cell? ⟨p, 2, none⟩ = some u2 ∧ w.cell? ⟨g, m, none⟩ = some v0 ∧ w.cell? ⟨g, m + 1, none⟩ = some v1 ∧ w.cell? ⟨g, m + 2, none⟩ = some v2) : Six p g m u0 u1 u2 v0 v1 v2 w w.drew :=
  ⟨h.1, h.2.1, h.2.2.1, h.2.2.2.1, h.2.2.2.2.1, h.2.2.2.2.2, below_drew (Below.refl _ _)⟩
theorem Six.call (h : Six p g m u0 u1 u2 v0 v1 v2 w0 w) (hp : p < w0.heap.size) (hg : g < w0.heap.size) (hb : Below w.heap.size w w') : Six p g m u0 u1 u2 v0 v1 v2 w0 w' := by
  obtain ⟨h0, h1, h2, h3, h4, h5, h6⟩ := h
  have hp' := Nat.lt_of_lt_of_le hp h6.size
  have hg' := Nat.lt_of_lt_of_le hg h6.size
  exact ⟨(hb.cell hp').trans h0, (hb.cell hp').trans h1, (hb.cell hp').trans h2, (hb.cell hg').trans h3, (hb.cell hg').trans h4, (hb.cell hg').trans h5, h6.trans (hb.mono h6.size)⟩
theorem Six.alloc {o : Obj} (h : Six p g m u0 u1 u2 v0 v1 v2 w0 w) (hp : p < w0.heap.size) (hg : g < w0.heap.size) : Six p g m u0 u1 u2 v0 v1 v2 w0 (w.alloc o) :=
  h.call hp hg ((Below.refl _ _).alloc (Nat.le_refl _) _)
end

set_option maxRecDepth 100000 in
set_option maxHeartbeats 3200000 in
theorem lawSv (A0 A1 : Option Addr) (c0 c1 : Nat) (zs ms : List Int) (w : World) (hr : Reads w w.heap.size 1 A0 zs.length (byts zs)) (hr' : Reads w w.heap.size 1 A1 ms.length (byts ms)) (hz : Byt zs) (hm : Byt ms) (hn : zs.length ≤ 1048576) (hn' : ms.length ≤ 1048576) :
    Calls Tryd.prog 3 #[.slice A0 zs.length c0, .slice A1 ms.length c1] w fun e w' => e = .returned (.bool true) ∧ Below w.heap.size w w' := by
  obtain ⟨i0, hi, hz0, hz1, hz2⟩ := info_parts infoN
  have HL := b10Long_any A0 A1 c0 c1 zs.length ms.length w
  rw [show (decide (1048576 < zs.length) || decide (1048576 < ms.length)) = false by simp; omega] at HL
  have HD := b10Saved_any A0 c0 zs w hr hz
  have HM := fun W (hW : Below w.heap.size w W) (i n : Int) hi hn => b10At_any A1 c1 w.heap.size ms i n hi hn hm W (hr'.below hW)
  clear hr hz hr' hm
  go_enter Tryd.func3, Tryd.ntmps3
  go_wp2_with fail
  refine HL.mono ?_
  rintro e w' ⟨rfl, rfl⟩
  clear HL
  go_wp2_with fail
  (with_reducible refine HD.mono ?_)
  rintro e w1 ⟨vs, g, c, xs, a, b, A, A', cc, cc', hv4, hG, rfl, hown, hel, hb1⟩
  clear HD
  have HG := Lib.hid hG
  clear hG
  have hR1 := hel.rds hown (Nat.le_refl _)
  have hvc : vs.length ≤ c := by
    rcases hown.2 with ⟨e, _⟩ | ⟨g', cap, cur, e, _, _, hq, _⟩
    · cases e
    · cases e; exact hq
  clear hel hown
  have hbE : Below w1.heap.size w1 (w1.alloc (.cells #[.int .i64 0] 3)) := (Below.refl _ _).alloc (Nat.le_refl _) _
  have hown0 : (w1.alloc (.cells #[.int .i64 0] 3)).ownsRow w1.heap.size 3 1 (.slice (some ⟨w1.heap.size, 0, none⟩) 1 1) 1 (ints (endsL vs 0)) := by
    rw [endsL_zero]
    exact own_made w1 [.int .i64 0] 3 (by simp)
  have hz1' := hb1.size
  have hR2 := hR1.below hbE
  have hb2 := hb1.trans (hbE.mono hz1')
  have hRR := Lib.hid hR1
  clear hR1
  go_wp2
  go_loopw [6, 7, 8, 9, 10, 11, 36] (fun v _ _ _ _ _ i wr => ∃ k : Nat, k ≤ vs.length ∧ i = .int .i64 k ∧ wr.ownsRow w1.heap.size 3 1 v (k + 1) (ints (endsL vs k)) ∧ Below w1.heap.size w1 wr) (fun _ _ _ _ _ _ i _ => vs.length - (intOf i).toNat)
  case atStart => exact ⟨0, Nat.zero_le _, rfl, hown0, hbE⟩
  case round =>
    obtain ⟨k, hk, rfl, hown, hbr⟩ := hrel
    clear hown0 hbE hR2 hb2
    obtain ⟨Ae, ce, rfl, -, hke, hO⟩ := Own.of_row hown (Nat.le_refl _)
    by_cases hlt : k < vs.length
    · have hR := hRR.out.below hbr
      have x0 := hR.c0 k hlt
      have x1 := hR.c1 k hlt
      have x2 := hR.c2 k hlt
      simp only [Nat.zero_add] at x0 x1 x2
      have hgv := HG.out (vs.getD k nilS) (by rw [List.getD, List.getElem?_eq_getElem hlt]; exact List.getElem_mem hlt)
      have HS := storeSaved_any (vs.getD k nilS) (A k) (A' k) (cc k) (cc' k) wr (hR.r1 k hlt) (hR.r2 k hlt) hgv
      have HN := Lib.hid (endsN_succ hlt)
      have HONE := fun W (hW : RdS W g 0 vs A A' cc cc') => hW.one hlt
      generalize vs.getD k nilS = v at *
      go_wp2_with fail
      (with_reducible refine HS.mono ?_)
      rintro e w2 ⟨rfl, hb2⟩
      clear HS x0 x1 x2
      have hbr2 := hbr.trans (hb2.mono hbr.size)
      obtain ⟨l1, l2⟩ := ls_store hgv
      have hlen : (storeL v).length ≤ 232 := by
        have h := (storesL_len (vs := [v]) (fun u hu => by obtain rfl : u = v := by simpa using hu
                                                           exact hgv)).1
        simpa [storesL] using h
      have HLD := loadSavedI_any (txt (storeL v)) w2 (by rw [txt_size]; omega)
      rw [txt_data, l1, l2] at HLD
      clear l1 l2
      generalize storeL v = l at *
      go_wp2_with fail
      (with_reducible refine HLD.mono ?_)
      rintro e w3 ⟨B, B', d, d', rfl, hI, hb3⟩
      clear HLD
      have hbr3 := hbr2.trans (hb3.mono hbr2.size)
      have hrd := hI.reads (Nat.le_refl _)
      have hb34 : Below w3.heap.size w3 (w3.alloc (.cells #[.string (txt v.nm), .slice B v.P.length d, .slice B' v.W.length d'] 36)) := (Below.refl _ _).alloc (Nat.le_refl _) _
      have hX4 := blk_new w3 #[.string (txt v.nm), .slice B v.P.length d, .slice B' v.W.length d'] 36
      have hr1 := (hrd.1.below hb34).more hb34.size
      have hr2 := (hrd.2.below hb34).more hb34.size
      have hbr4 := hbr3.trans (hb34.mono hbr3.size)
      have hb24 := hb2.trans ((hb3.trans (hb34.mono hb3.size)).mono hb2.size)
      have hR4 := hR.below hb24
      have hown4 := ownsRow_below hown hb24
      clear hrd hI hb3 hb2 hR hown hO hbr hbr2 hbr3
      have hp3 : w3.heap.size < (w3.alloc (.cells #[.string (txt v.nm), .slice B v.P.length d, .slice B' v.W.length d'] 36)).heap.size := hX4.lt
      generalize hp : w3.heap.size = p at *
      have hnx : ∀ K : World → Prop, (∀ w4, w3.alloc (.cells #[.string (txt v.nm), .slice B v.P.length d, .slice B' v.W.length d'] 36) = w4 → K w4) → K (w3.alloc (.cells #[.string (txt v.nm), .slice B v.P.length d, .slice B' v.W.length d'] 36)) := fun K h => h _ rfl
      clear hnx
      go_wp2_with fail
      generalize w3.alloc (.cells #[.string (txt v.nm), .slice B v.P.length d, .slice B' v.W.length d'] 36) = w4 at *
      clear hb34 hp
      have hck : ¬ c = k := by omega
      have hck2 : (k : Int) + 1 ≤ (c : Int) := by omega
      have hck4 : (0 : Int) ≤ (k : Int) := by omega
      have hck5 : (k : Int) ≤ (k : Int) + 1 := by omega
      have hck6 : ((k : Int) + 1).toNat = k + 1 := by omega
      have hck7 : (0 : Int) ≤ (k : Int) + 1 := by omega
      have hck8 : (k : Int) < (c : Int) := by omega
      have hck9 : k ≤ k + 1 := by omega
      have hck10 : k + 1 ≤ c := by omega
      have hck3 : IntKind.i64.wrap ((k : Int) + 1) = (k : Int) + 1 := IntWalk.i64_in _ (by omega)
      have hb45 : Below w4.heap.size w4 w4.drew := below_drew (Below.refl _ _)
      have hR5 := HONE w4 hR4
      have x0 := hR5.c0 0 (by simp)
      have x1 := hR5.c1 0 (by simp)
      have x2 := hR5.c2 0 (by simp)
      have r1 := hR5.r1 0 (by simp)
      have r2 := hR5.r2 0 (by simp)
      obtain ⟨-, g1, g2, g3⟩ := good_fin hgv
      have HV := validSaved_any v (A k) (A' k) (cc k) (cc' k) w4.heap.size w4.drew (r1.below hb45) (r2.below hb45) (Nat.le_refl _) (by omega) (by omega) (by omega)
      rw [hgv.ok] at HV
      simp only [Nat.zero_mul, Nat.add_zero, List.getD_cons_zero] at x0 x1 x2
      have HSM := fun (w5 : World) (hb5 : Below w4.heap.size w4 w5) => sameSaved_any w5.heap.size 0 g (k * 3) 1 1 (c - k) [v] (fun _ => B) (fun _ => B') (fun j => A (k + j)) (fun j => A' (k + j)) (fun _ => d) (fun _ => d') (fun j => cc (k + j)) (fun j => cc' (k + j)) (w5.alloc (.cells #[.string (txt v.nm), .slice B v.P.length d, .slice B' v.W.length d'] 36)) rfl
        (RdS.new (blk_new w5 #[.string (txt v.nm), .slice B v.P.length d, .slice B' v.W.length d'] 36) ((hr1.below (hb5.alloc hb5.size _)).more (by have := hb5.size; simp; omega)) ((hr2.below (hb5.alloc hb5.size _)).more (by have := hb5.size; simp; omega)))
        (hR5.below (hb5.alloc hb5.size _)) (fun u hu => by obtain rfl : u = v := by simpa using hu
                                                           exact hgv) (by simp)
      clear r1 r2 hgv hr1 hr2 hR5 HONE
      have hgl : g < w4.heap.size := hR4.lt
      have h6 : w4.cell? ⟨p, 0, none⟩ = some (.string (txt v.nm)) ∧ w4.cell? ⟨p, 1, none⟩ = some (.slice B v.P.length d) ∧ w4.cell? ⟨p, 2, none⟩ = some (.slice B' v.W.length d') ∧ w4.cell? ⟨g, k * 3, none⟩ = some (.string (txt v.nm)) ∧ w4.cell? ⟨g, k * 3 + 1, none⟩ = some (.slice (A k) v.P.length (cc k)) ∧ w4.cell? ⟨g, k * 3 + 2, none⟩ = some (.slice (A' k) v.W.length (cc' k)) := ⟨hX4.cell 0, hX4.cell 1, hX4.cell 2, x0, x1, x2⟩
      clear x0 x1 x2
      go_region_held3 (fun w' => w'.cell? ⟨p, 0, none⟩ = some (.string (txt v.nm)) ∧ w'.cell? ⟨p, 1, none⟩ = some (.slice B v.P.length d) ∧ w'.cell? ⟨p, 2, none⟩ = some (.slice B' v.W.length d') ∧ w'.cell? ⟨g, k * 3, none⟩ = some (.string (txt v.nm)) ∧ w'.cell? ⟨g, k * 3 + 1, none⟩ = some (.slice (A k) v.P.length (cc k)) ∧ w'.cell? ⟨g, k * 3 + 2, none⟩ = some (.slice (A' k) v.W.length (cc' k)) ∧ Below w4.heap.size w4 w')
        (first | exact Six.start h6 | exact Six.call (by assumption) hp3 hgl (by assumption) | exact Six.alloc (by assumption) hp3 hgl | trace_state)
        (first | (go_at_call 8; refine HV.mono ?_; rintro e w5 ⟨rfl, hb5⟩; have HB5 := hb45.trans hb5) | (go_at_call 9; refine (HSM w5 HB5).mono ?_; rintro e w6 ⟨rfl, hb6⟩))
      rename_i hheld
      obtain ⟨-, -, -, -, -, -, hb46⟩ := hheld
      clear hb6 HB5 hb5 hb45 HV HSM h6 hX4 hck hck2 hck3 hck4 hck5 hck6 hck7 hck8 hck9 hck10 hR4
      have hbr6 := hbr4.trans (hb46.mono hbr4.size)
      have hown6 := ownsRow_below hown4 hb46
      obtain ⟨Ax, cx, hAx, -, -, hO6⟩ := Own.of_row hown6 (Nat.le_refl _)
      have hx0 : Reads w6 w6.heap.size 1 Ae (endsL vs k).length (ints (endsL vs k)) := by
        cases hAx
        exact hO6.reads' (Nat.le_refl _) (by simp)
      obtain ⟨ad, rfl, hab, hcell⟩ := int_at hx0 (show k < _ by simp)
      rw [endsL_at (Nat.le_refl k)] at hcell
      clear hx0 hO6 hAx hown4 hb46 hbr4 hgl hp3
      have hek := endsN_le HG.out (by omega) k
      have hsz : (txt l).size = l.length := txt_size l
      have hkk : (endsL vs k ++ [((endsN vs k + l.length : Nat) : Int)]) = endsL vs (k + 1) := by rw [← HN.out]; exact endsL_snoc vs k
      have HKK := Lib.hid hkk
      clear hkk
      generalize endsN vs k = ek at *
      have hw1 : IntKind.i64.wrap ((ek : Int) + (l.length : Int)) = (ek : Int) + (l.length : Int) := IntWalk.i64_in _ (by omega)
      go_wp2_with (at_builtin; refine wpList_append_any _ rfl (.tmp 77) (.tmp 87) _ rfl w1.heap.size 3 i0 _ 1 8 Tryd.underlying26 hi hz0 hz1 hz2 rfl (by omega) (.slice (some ad) (k + 1) ce) (k + 1) (ints (endsL vs k)) rfl (hown6.alloc _) (w6.heap.size + 1) (some ⟨w6.heap.size, 0, none⟩) 1 1 [.int .i64 ((ek : Int) + (l.length : Int))] rfl (reads_new w6 [_] _) (one_int _) (by simp only [maxLen]; omega) (by omega) (by simp; have := hbr6.size; omega) ?_; intro v1 w7 hown7 hg7 hat7)
      have hs16 := hbr6.size
      have hb7 : Below w1.heap.size w6 w7 := ((Below.refl _ _).alloc hs16 _).grown hg7 (by simp; omega) (fun j hj => (hown6.lt j hj).1)
      obtain ⟨A7, c7, rfl⟩ : ∃ A7 c7, v1 = .slice A7 (k + 1 + 1) c7 := by
        obtain ⟨A7, c7, h, -⟩ := Own.of_row hown7 (Nat.le_refl _)
        exact ⟨A7, c7, h⟩
      rw [ints_snoc, show (ek : Int) + (l.length : Int) = ((ek + l.length : Nat) : Int) by omega, HKK.out] at hown7
      refine ⟨⟨k + 1, by omega, by go_num, hown7, hbr6.trans hb7⟩, ?_⟩
      simp [intOf]; omega
    · obtain rfl : k = vs.length := by omega
      obtain ⟨ge, c9, h9⟩ := row_own1 hown (by omega)
      cases h9
      have hR := hRR.out.below hbr
      have HSA := storeAll_any g 0 vs.length c vs A A' cc cc' wr rfl hR HG.out (by omega)
      have hTl := storesL_len HG.out
      have hTs : (txt (storesL vs)).size = (storesL vs).length := txt_size _
      have hall := all_rec HG.out (by omega)
      have hRI := fun W => recI_any (txt (storesL vs)) W (by rw [txt_size]; omega)
      rw [txt_data, hall.1, hall.2] at hRI
      clear hRR hall hO
      go_wp2_with fail
      (with_reducible refine HSA.mono ?_)
      rintro e w2 ⟨rfl, hb2⟩
      clear HSA
      have hbr2 := hbr.trans (hb2.mono hbr.size)
      have hR2 := hR.below hb2
      have hown2 := ownsRow_below hown hb2
      clear hR hown hbr hb2
      go_wp2_with fail
      (with_reducible refine (hRI _).mono ?_)
      rintro e w3 ⟨g2, c2, xs2, a2, b2, D, D', d, d', rfl, hr3, he3, hb3⟩
      clear hRI
      have hS3 := he3.rds hr3 (Nat.le_refl _)
      have hbr3 := hbr2.trans (hb3.mono hbr2.size)
      have hR3 := hR2.below hb3
      have hown3 := ownsRow_below hown2 hb3
      clear hr3 he3 hR2 hown2 hbr2 hb3
      obtain ⟨Ax, cx, hAx, -, -, hO3⟩ := Own.of_row hown3 (Nat.le_refl _)
      have hx0 : Reads w3 w3.heap.size 1 (some ⟨ge, 0, none⟩) (endsL vs vs.length).length (ints (endsL vs vs.length)) := by
        cases hAx
        exact hO3.reads' (Nat.le_refl _) (by simp)
      have hEN := Lib.hid hx0
      have hcell := ends_cell hx0 (Nat.le_refl _)
      rw [endsN_all] at hcell
      clear hx0 hO3 hAx hown3
      have HSS := sameSaved_any g2 0 g 0 vs.length c2 c vs D D' A A' d d' cc cc' w3 rfl hS3 hR3 HG.out (by omega)
      clear hS3
      have hEQ : (((storesL vs).length : Int) == ((storesL vs).length : Int)) = true := by simp
      have hct0 := fun k c h1 h2 h3 => cut_rec HG.out (by omega) (k := k) (c := c) h1 h2 h3
      have hbt0 := fun k c x h1 h2 => bent_rec HG.out (by omega) (k := k) (c := c) h1 h2 x
      have hEA := endsN_all vs
      have HCT := Lib.hid hct0
      have HBT := Lib.hid hbt0
      clear hct0 hbt0
      generalize storesL vs = T at *
      go_wp2_with fail
      (with_reducible refine HSS.mono ?_)
      rintro e w4 ⟨rfl, hb4⟩
      clear HSS hcell hEQ
      have hbr4 := hbr3.trans (hb4.mono hbr3.size)
      have hEN4 := Lib.hid (hEN.out.below hb4)
      have hfin4 := hb1.trans (hbr4.mono hz1')
      have hs34 := hb4.size
      clear hEN hR3 hbr3 hb4
      by_cases hz : T.length = 0
      · go_wp2
        go_ret
        exact ⟨rfl, hfin4⟩
      · go_wp2_with fail
        (with_reducible refine (HM w4 hfin4 0 256 (by omega) (by omega)).mono ?_)
        rintro e w' ⟨q0, rfl, hq0, rfl⟩
        have hw1 : IntKind.i64.wrap (256 * (q0 : Int)) = 256 * (q0 : Int) := IntWalk.i64_in _ (by omega)
        go_wp2_with fail
        (with_reducible refine (HM w4 hfin4 1 256 (by omega) (by omega)).mono ?_)
        rintro e w' ⟨q1, rfl, hq1, rfl⟩
        have hw2 : IntKind.i64.wrap (256 * (q0 : Int) + (q1 : Int)) = 256 * (q0 : Int) + (q1 : Int) := IntWalk.i64_in _ (by omega)
        have hTi : ¬ ((T.length : Int) = 0) := by omega
        obtain ⟨ct, hct, hct2⟩ : ∃ ct : Nat, (256 * (q0 : Int) + (q1 : Int)) % (T.length : Int) = (ct : Int) ∧ ct < T.length := by
          have h1 := Int.emod_nonneg (256 * (q0 : Int) + (q1 : Int)) hTi
          have h2 := Int.emod_lt_of_pos (256 * (q0 : Int) + (q1 : Int)) (show (0 : Int) < (T.length : Int) by omega)
          exact ⟨((256 * (q0 : Int) + (q1 : Int)) % (T.length : Int)).toNat, by omega, by omega⟩
        go_wp2
        rw [hct]
        go_loopw [18] (fun q wr => ∃ kp : Nat, kp ≤ vs.length ∧ q = .int .i64 kp ∧ endsN vs kp ≤ ct ∧ wr = w4) (fun q _ => vs.length - (intOf q).toNat)
        case atStart => exact ⟨0, Nat.zero_le _, rfl, by simp [endsN, storesL], rfl⟩
        case round =>
          obtain ⟨kp, hkp, rfl, hke1, rfl⟩ := hrel
          by_cases hlk : kp < vs.length
          · have hcell := ends_cell hEN4.out (show kp + 1 ≤ _ by omega)
            have hw3 : IntKind.i64.wrap ((kp : Int) + 1) = (kp : Int) + 1 := IntWalk.i64_in _ (by omega)
            have hk1 : ((kp : Int) + 1).toNat = kp + 1 := by omega
            have hk2 : (0 : Int) ≤ (kp : Int) + 1 := by omega
            have hk3 : (kp : Int) + 1 < (vs.length : Int) + 1 := by omega
            by_cases hgo : endsN vs (kp + 1) ≤ ct
            · have hgi : ((endsN vs (kp + 1) : Nat) : Int) ≤ (ct : Int) := by omega
              have hgd : decide (((endsN vs (kp + 1) : Nat) : Int) ≤ (ct : Int)) = true := decide_eq_true hgi
              have hkd : decide ((kp : Int) < (vs.length : Int)) = true := decide_eq_true (by omega)
              generalize endsN vs (kp + 1) = e1 at hcell hgi hgd
              go_wp2
              go_roundw
              case rel => exact ⟨kp + 1, by omega, by go_num, hgo, by trivial⟩
              case measure => simp [intOf]; omega
            · have hgi : ¬ ((endsN vs (kp + 1) : Nat) : Int) ≤ (ct : Int) := by omega
              have hgd : decide (((endsN vs (kp + 1) : Nat) : Int) ≤ (ct : Int)) = false := decide_eq_false hgi
              have hkd : decide ((kp : Int) < (vs.length : Int)) = true := decide_eq_true (by omega)
              have hcr := HCT.out kp ct hlk hke1 (by omega)
              have hX1 : (txt T).extract 0 ct = txt (T.take ct) := by rw [extract_txt]; simp
              have HR1 := recI_any (txt (T.take ct)) wr (by rw [txt_size, List.length_take]; omega)
              have hlk2 : (vs.take kp).length = kp := by rw [List.length_take]; omega
              rw [txt_data, hcr.1, hcr.2] at HR1
              unfold GivesRec at HR1
              rw [hlk2] at HR1
              clear HCT hcr
              go_wp2_with fail
              (with_reducible refine HR1.mono ?_)
              rintro e w5 ⟨g3, c3, xs3, a3, b3, F, F', f, f', rfl, -, -, hb5⟩
              clear HR1 hcell hgi hgd hkd hX1
              have hcell5 := ends_cell (hEN4.out.below (hb5.mono hs34)) (show kp ≤ _ by omega)
              have hfin5 := hfin4.trans (hb5.mono hfin4.size)
              have hcv := Lib.run_convert_string_bytes (P := Tryd.prog) w5 9 22 5 (txt T) (u := .string) Tryd.underlying9 Tryd.underlying22 Tryd.underlying5
              rw [hTs] at hcv
              have hbB := Lib.bytesWorld_below w5 5 (txt T)
              have hby := byts_conv w5 T
              have hfz := byts_frozen w5 T ct hct2
              have hh6 := Lib.bytesWorld_at_new w5 5 (txt T)
              have hcp : T.length ≤ grownCap w5 T.length 0 5 := grownCap_ge _ _ _ _
              generalize Lib.bytesWorld w5 5 (txt T) = w6 at *
              generalize Lib.bytesCells w5 5 (txt T) = cs6 at *
              generalize grownCap w5 T.length 0 5 = gc at *
              have hfin6 := hfin5.trans (hbB.mono hfin5.size)
              have hc6 := hby ct hct2
              rw [add0] at hc6
              have hlt6 : w5.heap.size < w6.heap.size := (Array.getElem?_eq_some_iff.1 hh6).1
              have hwh := hfin5.size
              generalize hgh : w5.heap.size = h at *
              have HBK := fun x => HBT.out kp ct x hlk hke1
              clear HBT
              generalize endsN vs kp = ek at *
              have HM6 := HM w6.drew (below_drew hfin6) 2 255 (by omega) (by omega)
              go_wp2_with fail
              clear hcv hcell5 hEN4 hEA hfin4 hfin5 hbr4 hs34
              go_region_law (first | (go_simp; go_at_call 12; (with_reducible refine HM6.mono ?_); rintro e w' ⟨q2, rfl, hq2, rfl⟩; obtain ⟨nb, hnb⟩ := byte_more (T[ct]'hct2) q2; have hw4 : IntKind.i64.wrap (1 + (q2 : Int)) = 1 + (q2 : Int) := IntWalk.i64_in _ (by omega); have hw5 : IntKind.u8.wrap (1 + (q2 : Int)) = 1 + (q2 : Int) := by rw [IntKind.wrap_u8]; omega))
              all_goals
                have hby7 : Byts (w6.setCell ⟨h, ct, none⟩ (.int .u8 (nb.toNat : Int))).drew h (T.set ct nb) := byts_set hh6 hby
                have hb67 : Below h w6 (w6.setCell ⟨h, ct, none⟩ (.int .u8 (nb.toNat : Int))).drew := below_drew ((Below.refl h w6).setCell (p := ⟨h, ct, none⟩) (Nat.le_refl _) _)
                have hfin7 := hfin6.trans (hb67.mono hwh)
                have hs67 : w6.heap.size ≤ (w6.setCell ⟨h, ct, none⟩ (.int .u8 (nb.toNat : Int))).drew.heap.size := hb67.size
                generalize (w6.setCell ⟨h, ct, none⟩ (.int .u8 (nb.toNat : Int))).drew = w7 at *
                have hkus := HBK nb
                have hTL : (T.set ct nb).length = T.length := by simp
                generalize T.set ct nb = l2 at *
                have hcv7 := byts_text (c := gc) hby7 hTL
                have HR2 := recI_any (txt l2) w7 (by rw [txt_size]; omega)
                rw [txt_data] at HR2
                have hgd := recL_gd 8 l2
                have hln := recL_len 8 l2
                obtain ⟨ht1, ht2⟩ := recL_take 8 l2
                generalize recL 8 l2 = us at *
                generalize recN 8 l2 = o at *
                have HGD := Lib.hid hgd
                have HT1 := Lib.hid ht1
                clear hgd ht1 HBK hh6 hby hfz hc6 hfin6 hb67 hbB HM6
                go_wp2_with fail
                (with_reducible refine HR2.mono ?_)
                rintro e w8 ⟨g4, c4, xs4, a4, b4, G, G', q, q', rfl, hr8, he8, hb8⟩
                clear HR2 hcv7
                have hS8 := he8.rds hr8 (Nat.le_refl _)
                have hfin8 := hfin7.trans (hb8.mono hfin7.size)
                have hby8 := hby7.below hb8 (show h < w7.heap.size by omega)
                have HSA := storeAll_any g4 0 us.length c4 us G G' q q' w8 rfl hS8 HGD.out hln
                rw [HT1.out] at HSA
                have hs78 := hb8.size
                clear hr8 he8 hS8 hby7
                go_wp2_with fail
                (with_reducible refine HSA.mono ?_)
                rintro e w9 ⟨rfl, hb9⟩
                clear HSA
                have hfin9 := hfin8.trans (hb9.mono hfin8.size)
                have hby9 := (hby8.below hb9 (show h < w8.heap.size by omega)).take (n := o)
                have hcv9 := byts_text (n := o) (c := gc) hby9 (by rw [List.length_take]; omega)
                have k1 : (kp : Int) ≤ (us.length : Int) := by omega
                have k2 : (0 : Int) ≤ (o : Int) := by omega
                have k3 : (o : Int) ≤ (T.length : Int) := by omega
                have k4 : (o : Int) ≤ (gc : Int) := by omega
                have k5 : o ≤ gc := by omega
                go_wp2
                go_ret
                exact ⟨rfl, hfin9⟩
          · exfalso
            obtain rfl : kp = vs.length := by omega
            omega
end Go.Proofs.YtgfmnolmokpgnaaDoor
