/-
  Contracts: slices of what is saved with the same content are the same (SameSaved).
-/
import Derived.Test.YtgfmnolmokpgnaaDoorSame
namespace Go.Proofs.YtgfmnolmokpgnaaDoor
open Go.RowKit

theorem good_fin {v : Sav} (h : Gd v) : v.P.all finCB = true ∧ v.P.length ≤ 17 ∧ v.W.length ≤ 17 ∧ v.nm.length ≤ 8 := by
  have hs := h.ok
  rw [savB, Bool.and_eq_true, Bool.and_eq_true] at hs
  obtain ⟨s1, s2, s3⟩ := hs
  unfold nameB at s1
  unfold polyB at s2
  unfold wholeB at s3
  simp only [Bool.and_eq_true, decide_eq_true_eq] at s1 s2 s3
  exact ⟨s2.1.2, s2.1.1.2, s3.1.1.2, s1.1.2⟩

set_option maxRecDepth 100000 in
theorem sameSaved1_any (v : Sav) (A1 A2 B1 B2 : Option Addr) (c1 c2 d1 d2 B : Nat) (w : World) (h1 : Reads w B 1 A1 v.P.length (cplx v.P)) (h2 : Reads w B 1 A2 v.W.length (ints v.W)) (g1 : Reads w B 1 B1 v.P.length (cplx v.P)) (g2 : Reads w B 1 B2 v.W.length (ints v.W)) (hB : B ≤ w.heap.size) (hv : Gd v) :
    Calls Tryd.prog 24 #[.agg #[.string (txt v.nm), .slice A1 v.P.length c1, .slice A2 v.W.length c2], .agg #[.string (txt v.nm), .slice B1 v.P.length d1, .slice B2 v.W.length d2]] w fun e w' => e = .returned (.bool true) ∧ Below w.heap.size w w' := by
  obtain ⟨hf, hp, ht, hn⟩ := good_fin hv
  have HF := Lib.hid hf
  clear hv hf hn
  have hb2 : Below w.heap.size w ((w.alloc (.cells #[.string (txt v.nm), .slice A1 v.P.length c1, .slice A2 v.W.length c2] 36)).alloc (.cells #[.string (txt v.nm), .slice B1 v.P.length d1, .slice B2 v.W.length d2] 36)) := ((Below.refl _ _).alloc (Nat.le_refl _) _).alloc (by simp) _
  have hk2 := blk_new (w.alloc (.cells #[.string (txt v.nm), .slice A1 v.P.length c1, .slice A2 v.W.length c2] 36)) #[.string (txt v.nm), .slice B1 v.P.length d1, .slice B2 v.W.length d2] 36
  have hk1 := (blk_new w #[.string (txt v.nm), .slice A1 v.P.length c1, .slice A2 v.W.length c2] 36).below ((Below.refl _ _).alloc (Nat.le_refl _) (.cells #[.string (txt v.nm), .slice B1 v.P.length d1, .slice B2 v.W.length d2] 36)) (blk_new w _ _).lt
  have HP := samePoly_any A1 B1 c1 d1 B v.P _ (h1.below (hb2.mono hB)) (g1.below (hb2.mono hB)) (Nat.le_trans hB hb2.size) HF.out (by omega)
  have HQ := fun W (hW : Below w.heap.size w W) => sameWhole_any A2 B2 c2 d2 B v.W W (h2.below (hW.mono hB)) (g2.below (hW.mono hB)) (Nat.le_trans hB hW.size) (by omega)
  clear h1 h2 g1 g2
  go_enter Tryd.func24, Tryd.ntmps24
  go_wp2_with fail
  (with_reducible refine HP.mono ?_)
  rintro e w1 ⟨rfl, hb1⟩
  clear HP
  have hk1' := hk1.below hb1 hk1.lt
  have hk2' := hk2.below hb1 hk2.lt
  have hw1 := hb2.trans (hb1.mono hb2.size)
  have y1 : w1.cell? ⟨w.heap.size, 2, none⟩ = _ := hk1'.cell 2
  have y2 := hk2'.cell 2
  simp at y1 y2
  clear hb1 hk1 hk2 hk1' hk2'
  go_wp2_with fail
  (with_reducible refine (HQ _ hw1).mono ?_)
  rintro e w2 ⟨rfl, hb2'⟩
  clear HQ
  go_wp2
  go_ret
  exact ⟨rfl, hw1.trans (hb2'.mono hw1.size)⟩

/-- A slice of what is saved reads as a list. -/
structure RdS (w : World) (g o : Nat) (vs : List Sav) (A A' : Nat → Option Addr) (c c' : Nat → Nat) : Prop where
  lt : g < w.heap.size
  c0 : ∀ k, k < vs.length → w.cell? ⟨g, o + k * 3, none⟩ = some (.string (txt (vs.getD k nilS).nm))
  c1 : ∀ k, k < vs.length → w.cell? ⟨g, o + k * 3 + 1, none⟩ = some (.slice (A k) (vs.getD k nilS).P.length (c k))
  c2 : ∀ k, k < vs.length → w.cell? ⟨g, o + k * 3 + 2, none⟩ = some (.slice (A' k) (vs.getD k nilS).W.length (c' k))
  r1 : ∀ k, k < vs.length → Reads w w.heap.size 1 (A k) (vs.getD k nilS).P.length (cplx (vs.getD k nilS).P)
  r2 : ∀ k, k < vs.length → Reads w w.heap.size 1 (A' k) (vs.getD k nilS).W.length (ints (vs.getD k nilS).W)
theorem RdS.below {w w' : World} {g o : Nat} {vs : List Sav} {A A' : Nat → Option Addr} {c c' : Nat → Nat} (h : RdS w g o vs A A' c c') (hb : Below w.heap.size w w') : RdS w' g o vs A A' c c' :=
  ⟨Nat.lt_of_lt_of_le h.lt hb.size, fun k hk => (hb.cell h.lt).trans (h.c0 k hk), fun k hk => (hb.cell h.lt).trans (h.c1 k hk), fun k hk => (hb.cell h.lt).trans (h.c2 k hk), fun k hk => ((h.r1 k hk).below hb).more hb.size, fun k hk => ((h.r2 k hk).below hb).more hb.size⟩

set_option maxRecDepth 100000 in
set_option maxHeartbeats 800000 in
theorem equalFuncS_any (g o g' o' n c c' : Nat) (vs : List Sav) (A A' D D' : Nat → Option Addr) (cc cc' d d' : Nat → Nat) (w : World) (hn : vs.length = n) (hr : RdS w g o vs A A' cc cc') (hr' : RdS w g' o' vs D D' d d') (hG : ∀ v ∈ vs, Gd v) (h8 : vs.length ≤ 8) :
    Calls Tryd.prog 23 #[.slice (some ⟨g, o, none⟩) n c, .slice (some ⟨g', o', none⟩) n c', .func (.func 24) #[] #[]] w fun e w' => e = .returned (.bool true) ∧ Below w.heap.size w w' := by
  have HG := Lib.hid hG
  have HR := Lib.hid hr
  have HR' := Lib.hid hr'
  have hl := hr.lt
  have hl' := hr'.lt
  clear hG hr hr'
  go_enter Tryd.func23, Tryd.ntmps23
  go_wp2
  go_loopw [7, 8, 9, 17] (fun _ _ _ i wr => ∃ k : Nat, k ≤ n ∧ i = .int .i64 k ∧ Below w.heap.size w wr) (fun _ _ _ i _ => n - (intOf i).toNat)
  case atStart => exact ⟨0, Nat.zero_le _, rfl, Below.refl _ _⟩
  case round =>
    obtain ⟨k, hk, rfl, hbr⟩ := hrel
    by_cases hlt : k < n
    · have hr := HR.out.below hbr
      have hr' := HR'.out.below hbr
      have hkv : k < vs.length := by omega
      have x0 := hr.c0 k hkv
      have x1 := hr.c1 k hkv
      have x2 := hr.c2 k hkv
      have y0 := hr'.c0 k hkv
      have y1 := hr'.c1 k hkv
      have y2 := hr'.c2 k hkv
      have r1 := hr.r1 k hkv
      have r2 := hr.r2 k hkv
      have r3 := hr'.r1 k hkv
      have r4 := hr'.r2 k hkv
      have hgv := HG.out (vs.getD k nilS) (by rw [List.getD, List.getElem?_eq_getElem hkv]; exact List.getElem_mem hkv)
      generalize vs.getD k nilS = v at *
      clear hr hr'
      have hbX : Below wr.heap.size wr (wr.alloc (.cells #[.string (txt v.nm), .slice (A k) v.P.length (cc k), .slice (A' k) v.W.length (cc' k)] 36)) := (Below.refl _ _).alloc (Nat.le_refl _) _
      have hbY : Below wr.heap.size wr ((wr.alloc (.cells #[.string (txt v.nm), .slice (A k) v.P.length (cc k), .slice (A' k) v.W.length (cc' k)] 36)).alloc (.cells #[.string (txt v.nm), .slice (D k) v.P.length (d k), .slice (D' k) v.W.length (d' k)] 36)) := hbX.alloc hbX.size _
      have hgw := Nat.lt_of_lt_of_le hl' hbr.size
      have z0 := (hbX.cell (p := ⟨g', o' + k * 3, none⟩) hgw).trans y0
      have z1 := (hbX.cell (p := ⟨g', o' + k * 3 + 1, none⟩) hgw).trans y1
      have z2 := (hbX.cell (p := ⟨g', o' + k * 3 + 2, none⟩) hgw).trans y2
      have HS := sameSaved1_any v (A k) (A' k) (D k) (D' k) (cc k) (cc' k) (d k) (d' k) wr.heap.size _ (r1.below hbY) (r2.below hbY) (r3.below hbY) (r4.below hbY) hbY.size hgv
      clear y0 y1 y2 r1 r2 r3 r4 hgv
      go_wp2_with fail
      (with_reducible refine HS.mono ?_)
      rintro e w1 ⟨rfl, hb1⟩
      clear HS z0 z1 z2 x0 x1 x2
      have hbr1 := hbr.trans ((hbY.trans (hb1.mono hbY.size)).mono hbr.size)
      go_wp2
      go_roundw
      case rel => exact ⟨k + 1, by omega, by go_num, hbr1⟩
      case measure => simp [intOf]; omega
    · obtain rfl : k = n := by omega
      go_wp2
      go_ret
      exact ⟨rfl, hbr⟩

set_option maxRecDepth 100000 in
theorem sameSaved_any (g o g' o' n c c' : Nat) (vs : List Sav) (A A' D D' : Nat → Option Addr) (cc cc' d d' : Nat → Nat) (w : World) (hn : vs.length = n) (hr : RdS w g o vs A A' cc cc') (hr' : RdS w g' o' vs D D' d d') (hG : ∀ v ∈ vs, Gd v) (h8 : vs.length ≤ 8) :
    Calls Tryd.prog 9 #[.slice (some ⟨g, o, none⟩) n c, .slice (some ⟨g', o', none⟩) n c'] w fun e w' => e = .returned (.bool true) ∧ Below w.heap.size w w' := by
  have H := equalFuncS_any g o g' o' n c c' vs A A' D D' cc cc' d d' w hn hr hr' hG h8
  clear hr hr' hG
  go_enter Tryd.func9, Tryd.ntmps9
  go_wp2_with fail
  refine H.mono ?_
  rintro e w1 ⟨rfl, hb⟩
  go_wp2
  go_ret
  exact ⟨rfl, hb⟩

theorem storeSaved_any (v : Sav) (A A' : Option Addr) (c c' : Nat) (w : World) (h1 : Reads w w.heap.size 1 A v.P.length (cplx v.P)) (h2 : Reads w w.heap.size 1 A' v.W.length (ints v.W)) (hv : Gd v) :
    Calls Tryd.prog 6 #[.agg #[.string (txt v.nm), .slice A v.P.length c, .slice A' v.W.length c']] w fun e w' => e = .returned (.tuple #[.string (txt (storeL v)), .bool true]) ∧ Below w.heap.size w w' := by
  obtain ⟨-, g1, g2, g3⟩ := good_fin hv
  have hb0 : Below w.heap.size w (w.alloc (.cells #[.string (txt v.nm), .slice A v.P.length c, .slice A' v.W.length c'] 36)) := (Below.refl _ _).alloc (Nat.le_refl _) _
  have hk0 := blk_new w #[.string (txt v.nm), .slice A v.P.length c, .slice A' v.W.length c'] 36
  have HV := validSaved_any v A A' c c' w.heap.size _ (h1.below hb0) (h2.below hb0) hb0.size (by omega) (by omega) (by omega)
  rw [hv.ok] at HV
  have HS := fun W (hW : Below w.heap.size w W) => store_any v A A' c c' w.heap.size W (h1.below hW) (h2.below hW) hW.size (sml_of hv.ok fun k hk => hv.b _ (by rw [List.getD, List.getElem?_eq_getElem hk]; exact List.getElem_mem hk))
  clear h1 h2 hv
  generalize storeL v = l at *
  go_enter Tryd.func6, Tryd.ntmps6
  go_wp2_with fail
  refine HV.mono ?_
  rintro e w1 ⟨rfl, hb1⟩
  have hk1 := hk0.below hb1 hk0.lt
  have hw1 := hb0.trans (hb1.mono hb0.size)
  have x0 : w1.cell? ⟨w.heap.size, 0, none⟩ = _ := hk1.cell 0
  have x1 : w1.cell? ⟨w.heap.size, 1, none⟩ = _ := hk1.cell 1
  have x2 : w1.cell? ⟨w.heap.size, 2, none⟩ = _ := hk1.cell 2
  clear HV hk0 hk1 hb1
  go_wp2_with fail
  refine (HS _ hw1).mono ?_
  rintro e w2 ⟨rfl, hb2⟩
  go_wp2
  go_ret2
  exact ⟨rfl, hw1.trans (hb2.mono hw1.size)⟩
end Go.Proofs.YtgfmnolmokpgnaaDoor
