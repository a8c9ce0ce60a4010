/-
  Contract: impl.ReadComplex, walked.
-/
import Derived.Test.YtfiakhhippfkaaaGreatDoorReadC
namespace Go.Proofs.YtfiakhhippfkaaaGreatDoor
open Go.RowKit

theorem tail_ext {x : List UInt8} (h : x.length = 16) : (txt x).extract 0 8 = txt (x.take 8) ∧ (txt x).extract 8 16 = txt (x.drop 8) := by
  constructor
  · rw [extract_txt, txt_data]; rfl
  · rw [extract_txt, txt_data]
    congr 1
    rw [List.take_of_length_le (by simp [h])]

theorem ownsRow_below {w w' : World} {base E n : Nat} {v : Value} {xs : List Value} (h : w.ownsRow base E 1 v n xs) (hb : Below w.heap.size w w') : w'.ownsRow base E 1 v n xs := by
  obtain ⟨h1, h2⟩ := h
  refine ⟨h1, ?_⟩
  rcases h2 with h | ⟨g, cap, cur, e, hg, hh, hr⟩
  · exact .inl h
  · refine .inr ⟨g, cap, cur, e, hg, (hb.block g ?_).trans hh, hr⟩
    exact (Array.getElem?_eq_some_iff.1 hh).1

set_option maxRecDepth 100000 in
set_option maxHeartbeats 400000 in
theorem readComplex_any (s : ByteArray) (w : World) (hsh : w.ShapedOpen Tryz.prog) (hE : ErrS w) (hT : Tz4 w) (hs : s.size ≤ 1048576) :
    Calls Tryz.prog 10 #[.string s] w (GivesC (rcR s.data.toList) (rcB s.data.toList) w) := by
  obtain ⟨i0, hi, hz0, hz1, hz2⟩ := info_parts infoC
  by_cases hno : s.data.toList = noneL
  · have hb : rcB s.data.toList = true := by rw [rcB, if_pos hno]
    have hR : rcR s.data.toList = [] := by rw [rcR, hb, if_pos rfl, if_pos hno]
    rw [hb, hR]
    have HP := partsOrNone_none s hno w
    clear hno hb hR hsh hE hT
    go_enter Tryz.func10, Tryz.ntmps10
    go_wp2_with fail
    (with_reducible refine HP.mono ?_)
    rintro e w1 ⟨rfl, rfl⟩
    clear HP
    go_wp2
    refine wp_loop_rounds 1 ?_
    rw [rounds_succ]
    go_wp2
    go_ret2
    exact ⟨_, _, rfl, .inl rfl, (Below.refl _ _).alloc (Nat.le_refl _) _⟩
  · have HP := partsOrNone_some s hno w hsh hs
    have hpl := parts_le 44 s.data.toList
    rw [← Lib.size_eq] at hpl
    have hpp := parts_pos 44 s.data.toList
    have hbE : rcB s.data.toList = (decide ((parts 44 s.data.toList).length ≤ 256) && (parts 44 s.data.toList).all hxxB) := by rw [rcB, if_neg hno]
    have hRE : rcR s.data.toList = if (decide ((parts 44 s.data.toList).length ≤ 256) && (parts 44 s.data.toList).all hxxB) then (parts 44 s.data.toList).map hxxV else [] := by rw [rcR, hbE, if_neg hno]
    have HbE := Lib.hid hbE
    have HRE := Lib.hid hRE
    have HEV := Lib.hid hE
    have HT := Lib.hid hT
    clear hno hbE hRE hE hT hsh
    generalize rcR s.data.toList = R at *
    generalize rcB s.data.toList = b at *
    generalize parts 44 s.data.toList = ps at *
    go_enter Tryz.func10, Tryz.ntmps10
    go_wp2_with fail
    (with_reducible refine HP.mono ?_)
    rintro e w1 ⟨A, rfl, hO, hb1⟩
    clear HP
    have hr := hO.reads' (Nat.le_refl _) (n := ps.length) (by simp)
    have hb0 : Below w1.heap.size w1 (w1.alloc (.cells #[] 42)) := (Below.refl _ _).alloc (Nat.le_refl _) _
    have hown : (w1.alloc (.cells #[] 42)).ownsRow w1.heap.size 42 1 (.slice (some ⟨w1.heap.size, 0, none⟩) 0 0) 0 [] := World.ownsRow_made w1 #[] 0 (Nat.le_refl _) (by simp [maxLen]) rfl
    clear hO
    go_wp2
    go_loopw [5, 17] (fun v i wr => ∃ k : Nat, k ≤ ps.length ∧ i = .int .i64 k ∧ (1 ≤ k → ps.length ≤ 256) ∧ Hid (∀ j, j < k → hxxB (ps.getD j []) = true) ∧ wr.ownsRow w1.heap.size 42 1 v k (cplx ((ps.take k).map hxxV)) ∧ Below w1.heap.size w1 wr) (fun _ i _ => ps.length - (intOf i).toNat)
    case atStart => exact ⟨0, Nat.zero_le _, rfl, fun h => by omega, fun j hj => by omega, hown, hb0⟩
    case round =>
      obtain ⟨k, hk, rfl, h64k, hno, hown, hbr1⟩ := hrel
      obtain ⟨Ao, co, rfl, -, hco, hOo⟩ := Own.of_row hown (Nat.le_refl _)
      have hbr : Below w.heap.size w wr := hb1.trans (hbr1.mono hb1.size)
      by_cases hlt : k < ps.length
      · obtain ⟨ad, rfl, hab, hcell⟩ := str_at (hr.below hbr1) hlt
        have hX := txt_size (ps.getD k [])
        by_cases h16 : (ps.getD k []).length = 16
        · by_cases h256 : ps.length ≤ 256
          · have e1 := (tail_ext h16).1
            have e2 := (tail_ext h16).2
            have s1 : (txt ((ps.getD k []).take 8)).size = 8 := by rw [txt_size, List.length_take, h16]; rfl
            have s2 : (txt ((ps.getD k []).drop 8)).size = 8 := by rw [txt_size, List.length_drop, h16]
            have H1 := readHex_any (txt ((ps.getD k []).take 8)) s1 wr (HEV.out.on hbr) (HT.out.on hbr)
            have H2 := fun W (hW : Below w.heap.size w W) => readHex_any (txt ((ps.getD k []).drop 8)) s2 W (HEV.out.on hW) (HT.out.on hW)
            rw [txt_data] at H1
            simp only [txt_data] at H2
            have hBx : hxxB (ps.getD k []) = (hxB ((ps.getD k []).take 8) && hxB ((ps.getD k []).drop 8)) := by rw [hxxB, decide_eq_true h16, Bool.true_and]
            have HN := Lib.hid (take_hxx hlt)
            have hXs : (txt (ps.getD k [])).size = 16 := by rw [hX, h16]
            have h256' : ¬ ((256 : Int) < (ps.length : Int)) := by omega
            cases hc : hxxB (ps.getD k []) with
            | true =>
              have hNO : Hid (∀ j, j < k + 1 → hxxB (ps.getD j []) = true) := fun j hj => by
                rcases Nat.lt_or_ge j k with h | h
                · exact hno.out j h
                · have : j = k := by omega
                  subst this; exact hc
              rw [hBx, Bool.and_eq_true] at hc
              have hvv : hxxV (ps.getD k []) = (hxV ((ps.getD k []).take 8), hxV ((ps.getD k []).drop 8)) := rfl
              rw [hvv] at HN
              unfold GivesX at H1 H2
              rw [hc.1] at H1
              simp only [hc.2] at H2
              clear hvv hBx hc hr hno h64k s1 s2 hX h16
              generalize hxV ((ps.getD k []).take 8) = va at *
              generalize hxV ((ps.getD k []).drop 8) = vb at *
              generalize txt ((ps.getD k []).take 8) = X1 at *
              generalize txt ((ps.getD k []).drop 8) = X2 at *
              generalize txt (ps.getD k []) = X at *
              go_wp2_with fail
              (with_reducible refine H1.mono ?_)
              rintro e w2 ⟨v1, rfl, hv1, hb2⟩
              have hv1' := hv1 (by first | rfl | trivial)
              subst hv1'
              clear H1 hcell hOo
              have hbr2 : Below w.heap.size w w2 := hbr.trans (hb2.mono hbr.size)
              go_wp2_with fail
              (with_reducible refine (H2 _ hbr2).mono ?_)
              rintro e w3 ⟨v2, rfl, hv2, hb3⟩
              have hv2' := hv2 (by first | rfl | trivial)
              subst hv2'
              clear H2
              have hown2 := ownsRow_below (ownsRow_below hown hb2) hb3
              have hbr3 : Below w1.heap.size w1 w3 := (hbr1.trans (hb2.mono hbr1.size)).trans (hb3.mono (Nat.le_trans hbr1.size hb2.size))
              clear hown hb2 hb3 hbr hbr1 hbr2
              go_wp2_with (at_builtin; refine wpList_append_any _ rfl (.tmp 47) (.tmp 51) _ rfl w1.heap.size 42 i0 _ 1 8 Tryz.underlying22 hi hz0 hz1 hz2 rfl (by omega) (.slice Ao k co) k (cplx ((ps.take k).map hxxV)) rfl (hown2.alloc _) (w3.heap.size + 1) (some ⟨w3.heap.size, 0, none⟩) 1 1 [.complex .f32 v1 v2] rfl (reads_one w3 _ _) (one_cx v1 v2) (by simp only [maxLen]; omega) (by omega) (by simp; have := hbr3.size; omega) ?_; intro v3 w5 hown1 hg1 hat1)
              have hb11 : Below w1.heap.size w1 w5 := (hbr3.alloc hbr3.size _).grown hg1 (by simp; have := hbr3.size; omega) (fun j hj => (hown2.lt j hj).1)
              clear hg1 hat1 hown2
              go_wp2
              go_roundw
              case rel => exact ⟨k + 1, by omega, by go_num, fun _ => h256, hNO, by rw [HN.out, cplx_append]; simpa [cplx] using hown1, hb11⟩
              case measure => simp [intOf]; omega
            | false =>
              have hall := no_hxx hlt hc
              have hb' : Hid (b = false) := by show _ = _; rw [HbE.out, hall, Bool.and_false]
              have hR' : Hid (R = []) := by show _ = _; rw [HRE.out, hall, Bool.and_false]; rfl
              rw [hBx] at hc
              unfold GivesX at H1 H2
              clear hall hBx hr hno h64k s1 s2 hX h16 HN
              generalize hxB ((ps.getD k []).take 8) = ba at *
              generalize hxB ((ps.getD k []).drop 8) = bb at *
              generalize txt ((ps.getD k []).take 8) = X1 at *
              generalize txt ((ps.getD k []).drop 8) = X2 at *
              generalize txt (ps.getD k []) = X at *
              go_wp2_with fail
              (with_reducible refine H1.mono ?_)
              rintro e w2 ⟨v1, rfl, -, hb2⟩
              clear H1 hcell hOo
              have hbr2 : Below w.heap.size w w2 := hbr.trans (hb2.mono hbr.size)
              go_wp2_with fail
              (with_reducible refine (H2 _ hbr2).mono ?_)
              rintro e w3 ⟨v2, rfl, -, hb3⟩
              clear H2
              cases ba <;> cases bb <;> simp at hc
              all_goals
                go_wp2
                go_ret2
                rw [hb'.out, hR'.out]
                exact ⟨none, 0, rfl, .inl rfl, hbr2.trans (hb3.mono hbr2.size)⟩
          · have h64n : decide (ps.length ≤ 256) = false := by simpa using h256
            have hb' : Hid (b = false) := by show _ = _; rw [HbE.out, h64n]; rfl
            have hR' : Hid (R = []) := by show _ = _; rw [HRE.out, h64n]; rfl
            have h256' : (256 : Int) < (ps.length : Int) := by omega
            have hXs : (txt (ps.getD k [])).size = 16 := by rw [hX, h16]
            clear h64n hX h16 hr hno h64k
            generalize txt (ps.getD k []) = X at *
            go_wp2
            go_ret2
            rw [hb'.out, hR'.out]
            exact ⟨none, 0, rfl, .inl rfl, hbr⟩
        · have hall := no_hxx hlt (by rw [hxxB, decide_eq_false h16, Bool.false_and])
          have hb' : Hid (b = false) := by show _ = _; rw [HbE.out, hall, Bool.and_false]
          have hR' : Hid (R = []) := by show _ = _; rw [HRE.out, hall, Bool.and_false]; rfl
          have h16' : ((txt (ps.getD k [])).size : Int) ≠ 16 := by omega
          clear hall hX h16 hr hno h64k
          generalize txt (ps.getD k []) = X at *
          go_wp2
          go_ret2
          rw [hb'.out, hR'.out]
          exact ⟨none, 0, rfl, .inl rfl, hbr⟩
      · have hkn : k = ps.length := by omega
        have hall := all_hxx (ps := ps) (fun j hj => hno.out j (by omega))
        have h64d : decide (ps.length ≤ 256) = true := by simpa using h64k (by omega)
        have hb' : Hid (b = true) := by show _ = _; rw [HbE.out, hall, h64d]; rfl
        have hR' : Hid (R = ps.map hxxV) := by show _ = _; rw [HRE.out, hall, h64d]; rfl
        subst hkn
        rw [List.take_of_length_le (Nat.le_refl _)] at hOo
        clear hall h64d hr hno hown h64k
        go_wp2
        go_ret2
        rw [hb'.out, hR'.out]
        exact ⟨Ao, co, by rw [List.length_map]; rfl, hOo.wide hb1.size (Nat.le_refl _), hbr⟩
end Go.Proofs.YtfiakhhippfkaaaGreatDoor
