/-
  Contract: spec.l01CRead, walked.
-/
import Derived.Test.YtfiakhhippfkaaaGreatDoorReadI
namespace Go.Proofs.YtfiakhhippfkaaaGreatDoor
open Go.RowKit

/-- The slice that is made lies in block b, or from block n on. -/
def OutAt (b n : Nat) (v : Value) : Prop := v.ownBlock = some b ∨ ∃ g, v.ownBlock = some g ∧ n ≤ g
theorem OutAt.ne_ {b n g : Nat} {v : Value} (h : OutAt b n v) (h1 : b + 1 ≤ g) (h2 : g < n) : some g ≠ v.ownBlock := by
  rcases h with h | ⟨g', h, h3⟩
  · rw [h]; intro e; injection e; omega
  · rw [h]; intro e; injection e; omega
theorem OutAt.next {b n m : Nat} {v v' : Value} (h : OutAt b n v) (hat : v'.ownBlock = v.ownBlock ∨ v'.ownBlock = some m) (hm : n ≤ m) : OutAt b n v' := by
  rcases hat with e | e
  · unfold OutAt; rw [e]; exact h
  · exact .inr ⟨m, e, hm⟩

set_option maxRecDepth 100000 in
set_option maxHeartbeats 400000 in
theorem l01CRead_any (s : ByteArray) (w : World) (hs : s.size ≤ 1048576) :
    Calls Tryz.prog 15 #[.string s] w (GivesC (rcR s.data.toList) (rcB s.data.toList) w) := by
  obtain ⟨i0, hi, hz0, hz1, hz2⟩ := info_parts infoC
  have hb0 : Below w.heap.size w (w.alloc (.cells #[] 42)) := (Below.refl _ _).alloc (Nat.le_refl _) _
  have hown : (w.alloc (.cells #[] 42)).ownsRow w.heap.size 42 1 (.slice (some ⟨w.heap.size, 0, none⟩) 0 0) 0 [] := World.ownsRow_made w #[] 0 (Nat.le_refl _) (by simp [maxLen]) rfl
  by_cases hno : s.data.toList = noneL
  · have hb : rcB s.data.toList = true := by rw [rcB, if_pos hno]
    have hR : rcR s.data.toList = [] := by rw [rcR, hb, if_pos rfl, if_pos hno]
    rw [hb, hR]
    have hx : s.toList = [110, 111, 110, 101] := by rw [Lib.toList_data]; exact hno
    clear hno hb hR
    go_enter Tryz.func15, Tryz.ntmps15
    go_wp2
    go_ret2
    exact ⟨_, _, rfl, .inl rfl, hb0⟩
  · have hx : ¬ s.toList = [110, 111, 110, 101] := by rw [Lib.toList_data]; exact hno
    have hx2 : (s.toList == [110, 111, 110, 101]) = false := by rw [Lib.toList_data]; exact beq_false_of_ne hno
    have HC : ∀ W : World, Calls Tryz.prog 21 #[.string s, .int .u8 44] W _ := fun W => l01Cut_any s 44 W hs
    have hpl := parts_le 44 s.data.toList
    rw [← Lib.size_eq] at hpl
    have hbE : rcB s.data.toList = (decide ((parts 44 s.data.toList).length ≤ 256) && (parts 44 s.data.toList).all hxxB) := by rw [rcB, if_neg hno]
    have hRE : rcR s.data.toList = if (decide ((parts 44 s.data.toList).length ≤ 256) && (parts 44 s.data.toList).all hxxB) then (parts 44 s.data.toList).map hxxV else [] := by rw [rcR, hbE, if_neg hno]
    have HbE := Lib.hid hbE
    have HRE := Lib.hid hRE
    clear hno hbE hRE
    generalize rcR s.data.toList = R at *
    generalize rcB s.data.toList = b at *
    generalize parts 44 s.data.toList = ps at *
    by_cases h64 : ps.length ≤ 256
    · have h64' : ¬ ((256 : Int) < (ps.length : Int)) := by omega
      go_enter Tryz.func15, Tryz.ntmps15
      go_wp2_with fail
      (with_reducible refine (HC _).mono ?_)
      rintro e w1 ⟨A, c1, rfl, hcap, hO, hb1⟩
      clear HC
      have hb01 : Below w.heap.size w w1 := hb0.trans (hb1.mono hb0.size)
      have hown1 := ownsRow_below hown hb1
      have hO1 : Own w1 (w.heap.size + 1) w1.heap.size 9 A (strs ps) := hO.wide (by simp) (Nat.le_refl _)
      clear hown hO
      go_wp2
      go_loopw [4, 6] (fun v i wr => ∃ k : Nat, k ≤ ps.length ∧ i = .int .i64 k ∧ Hid (∀ j, j < k → hxxB (ps.getD j []) = true) ∧ wr.ownsRow w.heap.size 42 1 v k (cplx ((ps.take k).map hxxV)) ∧ Below w.heap.size w wr ∧ Own wr (w.heap.size + 1) w1.heap.size 9 A (strs ps) ∧ OutAt w.heap.size w1.heap.size v ∧ w1.heap.size ≤ wr.heap.size) (fun _ i _ => ps.length - (intOf i).toNat)
      case atStart => exact ⟨0, Nat.zero_le _, rfl, fun j hj => by omega, hown1, hb01, hO1, .inl rfl, Nat.le_refl _⟩
      case round =>
        obtain ⟨k, hk, rfl, hno, hown, hbr, hOp, hat, hsz⟩ := hrel
        obtain ⟨Ao, co, rfl, -, hco, hOo⟩ := Own.of_row hown (Nat.le_refl _)
        by_cases hlt : k < ps.length
        · obtain ⟨ad, rfl, hab, hcell⟩ := str_at (n := ps.length) (hOp.reads' (Nat.le_refl _) (by simp)) hlt
          have hX := txt_size (ps.getD k [])
          by_cases h16 : (ps.getD k []).length = 16
          · have e1 := (tail_ext h16).1
            have e2 := (tail_ext h16).2
            have s1 : (txt ((ps.getD k []).take 8)).size = 8 := by rw [txt_size, List.length_take, h16]; rfl
            have s2 : (txt ((ps.getD k []).drop 8)).size = 8 := by rw [txt_size, List.length_drop, h16]
            have H1 := fun W => l01Digits_any (txt ((ps.getD k []).take 8)) s1 W
            have H2 := fun W => l01Digits_any (txt ((ps.getD k []).drop 8)) s2 W
            simp only [txt_data] at H1 H2
            have hBx : hxxB (ps.getD k []) = (hxB ((ps.getD k []).take 8) && hxB ((ps.getD k []).drop 8)) := by rw [hxxB, decide_eq_true h16, Bool.true_and]
            have HN := Lib.hid (take_hxx hlt)
            have hXs : (txt (ps.getD k [])).size = 16 := by rw [hX, h16]
            cases hc : hxxB (ps.getD k []) with
            | true =>
              have hNO : Hid (∀ j, j < k + 1 → hxxB (ps.getD j []) = true) := fun j hj => by
                rcases Nat.lt_or_ge j k with h | h
                · exact hno.out j h
                · have : j = k := by omega
                  subst this; exact hc
              rw [hBx, Bool.and_eq_true] at hc
              have hvv : hxxV (ps.getD k []) = (hxV ((ps.getD k []).take 8), hxV ((ps.getD k []).drop 8)) := rfl
              rw [hvv] at HN
              simp only [hc.1] at H1
              simp only [hc.2] at H2
              clear hvv hBx hc hno s1 s2 hX h16 hOo
              generalize hxV ((ps.getD k []).take 8) = va at *
              generalize hxV ((ps.getD k []).drop 8) = vb at *
              generalize txt ((ps.getD k []).take 8) = X1 at *
              generalize txt ((ps.getD k []).drop 8) = X2 at *
              generalize txt (ps.getD k []) = X at *
              go_wp2_with fail
              refine (H1 _).mono ?_
              rintro e w' ⟨rfl, rfl⟩
              go_wp2_with fail
              refine (H2 _).mono ?_
              rintro e w' ⟨rfl, rfl⟩
              clear H1 H2 hcell
              go_wp2_with (at_builtin; refine wpList_append_any _ rfl (.tmp 56) (.tmp 60) _ rfl w.heap.size 42 i0 _ 1 8 Tryz.underlying22 hi hz0 hz1 hz2 rfl (by omega) (.slice Ao k co) k (cplx ((ps.take k).map hxxV)) rfl (hown.alloc _) _ (some ⟨_, 0, none⟩) 1 1 [.complex .f32 va vb] rfl (reads_one _ _ _) (one_cx va vb) (by simp only [maxLen]; omega) (by omega) (by simp; have := hbr.size; omega) ?_; intro v1 w5 hown1 hg1 hat1)
              have hb11 : Below w.heap.size w w5 := (hbr.alloc hbr.size _).grown hg1 (by simp; have := hbr.size; omega) (fun j hj => (hown.lt j hj).1)
              have hOp5 : Own w5 (w.heap.size + 1) w1.heap.size 9 _ (strs ps) := (hOp.keep (w' := wr.alloc (.cells #[.complex .f32 va vb] 42)) (fun g _ _ h3 => Below.heap_alloc _ _ _ h3)).keep (fun g g1 g2 g3 => hg1.block g g3 (hat.ne_ g1 g2))
              have hat5 := hat.next hat1 (show w1.heap.size ≤ (wr.alloc (.cells #[.complex .f32 va vb] 42)).heap.size by simp; omega)
              have hsz5 : w1.heap.size ≤ w5.heap.size := Nat.le_trans hsz (Nat.le_trans (by simp) hg1.size)
              clear hg1 hat1 hown hat hOp
              go_wp2
              go_roundw
              case rel => exact ⟨k + 1, by omega, by go_num, hNO, by rw [HN.out, cplx_append]; simpa [cplx] using hown1, hb11, hOp5, hat5, hsz5⟩
              case measure => simp [intOf]; omega
            | false =>
              have hall := no_hxx hlt hc
              have hb' : Hid (b = false) := by show _ = _; rw [HbE.out, hall, Bool.and_false]
              have hR' : Hid (R = []) := by show _ = _; rw [HRE.out, hall, Bool.and_false]; rfl
              rw [hBx] at hc
              clear hall hBx hno s1 s2 hX h16 HN hOo
              generalize hxB ((ps.getD k []).take 8) = ba at *
              generalize hxB ((ps.getD k []).drop 8) = bb at *
              generalize hxV ((ps.getD k []).take 8) = va at *
              generalize hxV ((ps.getD k []).drop 8) = vb at *
              generalize txt ((ps.getD k []).take 8) = X1 at *
              generalize txt ((ps.getD k []).drop 8) = X2 at *
              generalize txt (ps.getD k []) = X at *
              go_wp2_with fail
              refine (H1 _).mono ?_
              rintro e w' ⟨rfl, rfl⟩
              go_wp2_with fail
              refine (H2 _).mono ?_
              rintro e w' ⟨rfl, rfl⟩
              clear H1 H2 hcell
              cases ba <;> cases bb <;> simp at hc
              all_goals
                go_wp2
                go_ret2
                rw [hb'.out, hR'.out]
                exact ⟨none, 0, rfl, .inl rfl, hbr⟩
          · have hall := no_hxx hlt (by rw [hxxB, decide_eq_false h16, Bool.false_and])
            have hb' : Hid (b = false) := by show _ = _; rw [HbE.out, hall, Bool.and_false]
            have hR' : Hid (R = []) := by show _ = _; rw [HRE.out, hall, Bool.and_false]; rfl
            have h16' : ((txt (ps.getD k [])).size : Int) ≠ 16 := by omega
            clear hall hX h16 hno
            generalize txt (ps.getD k []) = X at *
            go_wp2
            go_ret2
            rw [hb'.out, hR'.out]
            exact ⟨none, 0, rfl, .inl rfl, hbr⟩
        · have hkn : k = ps.length := by omega
          have hall := all_hxx (ps := ps) (fun j hj => hno.out j (by omega))
          have h64d : decide (ps.length ≤ 256) = true := by simpa using h64
          have hb' : Hid (b = true) := by show _ = _; rw [HbE.out, hall, h64d]; rfl
          have hR' : Hid (R = ps.map hxxV) := by show _ = _; rw [HRE.out, hall, h64d]; rfl
          subst hkn
          rw [List.take_of_length_le (Nat.le_refl _)] at hOo
          clear hall h64d hno hown
          go_wp2
          go_ret2
          rw [hb'.out, hR'.out]
          exact ⟨Ao, co, by rw [List.length_map]; rfl, hOo, hbr⟩
    · have h64' : (256 : Int) < (ps.length : Int) := by omega
      have h64d : decide (ps.length ≤ 256) = false := by simpa using h64
      have hb' : Hid (b = false) := by show _ = _; rw [HbE.out, h64d]; rfl
      have hR' : Hid (R = []) := by show _ = _; rw [HRE.out, h64d]; rfl
      clear h64d
      go_enter Tryz.func15, Tryz.ntmps15
      go_wp2_with fail
      (with_reducible refine (HC _).mono ?_)
      rintro e w1 ⟨A, c1, rfl, hcap, hO, hb1⟩
      clear HC
      go_wp2
      go_ret2
      rw [hb'.out, hR'.out]
      exact ⟨none, 0, rfl, .inl rfl, hb0.trans (hb1.mono hb0.size)⟩
end Go.Proofs.YtfiakhhippfkaaaGreatDoor
