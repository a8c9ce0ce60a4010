/-
  Contracts: impl.partsOrNone, impl.ReadList: the integers of a list with a text.
-/
import Derived.Test.YtlcckgpidjneeaaDoorNumS
namespace Go.Proofs.YtlcckgpidjneeaaDoor
open Go.RowKit

theorem partsOrNone_none (s : ByteArray) (hno : s.data.toList = noneL) (w : World) :
    Calls Tryd.prog 67 #[.string s] w fun e w' => e = .returned (.slice none 0 0) ∧ w = w' := by
  have hx : s.toList = [110, 111, 110, 101] := by rw [Lib.toList_data]; exact hno
  clear hno
  go_enter Tryd.func67, Tryd.ntmps67
  go_wp2
  go_ret
  exact ⟨rfl, rfl⟩
theorem partsOrNone_some (s : ByteArray) (hno : ¬ s.data.toList = noneL) (w : World) (hsh : w.ShapedOpen Tryd.prog) (hs : s.size ≤ 1048576) :
    Calls Tryd.prog 67 #[.string s] w fun e w' => ∃ A, e = .returned (.slice A (parts 44 s.data.toList).length (parts 44 s.data.toList).length) ∧ Own w' w.heap.size w'.heap.size 9 A (strs (parts 44 s.data.toList)) ∧ Below w.heap.size w w' := by
  have hx : ¬ s.toList = [110, 111, 110, 101] := by rw [Lib.toList_data]; exact hno
  have hx2 : (s.toList == [110, 111, 110, 101]) = false := by rw [Lib.toList_data]; exact beq_false_of_ne hno
  have H := split_any s 44 w hsh hs
  clear hno hsh
  generalize parts 44 s.data.toList = ps at *
  go_enter Tryd.func67, Tryd.ntmps67
  go_wp2_with fail
  (with_reducible refine H.mono ?_)
  rintro e w1 ⟨A, rfl, hO, hb1⟩
  clear H
  go_wp2
  go_ret
  exact ⟨A, rfl, hO, hb1⟩

set_option maxRecDepth 100000 in
set_option maxHeartbeats 400000 in
theorem readList_any (s : ByteArray) (w : World) (hsh : w.ShapedOpen Tryd.prog) (hE : ErrVars w) (htab : Lib.TabBelow Tryd.prog w.heap.size w "internal/strconv.uint64pow10" .u64 Lib.pow10Tab) (hs : s.size ≤ 1048576) :
    Calls Tryd.prog 48 #[.string s] w (GivesL (rlR s.data.toList) (rlB s.data.toList) w) := by
  obtain ⟨i0, hi, hz0, hz1, hz2⟩ := info_parts info2
  by_cases hno : s.data.toList = noneL
  · have hb : rlB s.data.toList = true := by rw [rlB, if_pos hno]
    have hR : rlR s.data.toList = [] := by rw [rlR, hb, if_pos rfl, if_pos hno]
    rw [hb, hR]
    have HP := partsOrNone_none s hno w
    clear hno hb hR hsh hE htab
    go_enter Tryd.func48, Tryd.ntmps48
    go_wp2_with fail
    (with_reducible refine HP.mono ?_)
    rintro e w1 ⟨rfl, rfl⟩
    clear HP
    go_wp2
    refine wp_loop_rounds 1 ?_
    rw [rounds_succ]
    go_wp2
    go_ret2
    exact ⟨_, _, rfl, .inl rfl, (Below.refl _ _).alloc (Nat.le_refl _) _⟩
  · have HP := partsOrNone_some s hno w hsh hs
    have hpl := parts_le 44 s.data.toList
    rw [← Lib.size_eq] at hpl
    have hpp := parts_pos 44 s.data.toList
    have hmem : ∀ x ∈ parts 44 s.data.toList, x.length ≤ 1048576 := fun x hx => by
      have := parts_mem hx
      rw [← Lib.size_eq] at this; omega
    have hbE : rlB s.data.toList = (decide ((parts 44 s.data.toList).length ≤ 64) && (parts 44 s.data.toList).all rdB) := by rw [rlB, if_neg hno]
    have hRE : rlR s.data.toList = if (decide ((parts 44 s.data.toList).length ≤ 64) && (parts 44 s.data.toList).all rdB) then (parts 44 s.data.toList).map sv else [] := by rw [rlR, hbE, if_neg hno]
    have HbE := Lib.hid hbE
    have HRE := Lib.hid hRE
    have HM := Lib.hid hmem
    have HEV := Lib.hid hE
    have HT := Lib.hid htab
    clear hno hbE hRE hmem hE htab hsh
    generalize rlR s.data.toList = R at *
    generalize rlB s.data.toList = b at *
    generalize parts 44 s.data.toList = ps at *
    go_enter Tryd.func48, Tryd.ntmps48
    go_wp2_with fail
    (with_reducible refine HP.mono ?_)
    rintro e w1 ⟨A, rfl, hO, hb1⟩
    clear HP
    have hr := hO.reads' (Nat.le_refl _) (n := ps.length) (by simp)
    have hb0 : Below w1.heap.size w1 (w1.alloc (.cells #[] 2)) := (Below.refl _ _).alloc (Nat.le_refl _) _
    have hown : (w1.alloc (.cells #[] 2)).ownsRow w1.heap.size 2 1 (.slice (some ⟨w1.heap.size, 0, none⟩) 0 0) 0 [] := World.ownsRow_made w1 #[] 0 (Nat.le_refl _) (by simp [maxLen]) rfl
    clear hO
    go_wp2
    go_loopw [5, 7, 8, 9, 15] (fun v _ _ _ i wr => ∃ k : Nat, k ≤ ps.length ∧ i = .int .i64 k ∧ (1 ≤ k → ps.length ≤ 64) ∧ Hid (∀ j, j < k → rdB (ps.getD j []) = true) ∧ wr.ownsRow w1.heap.size 2 1 v k (ints ((ps.take k).map sv)) ∧ Below w1.heap.size w1 wr) (fun _ _ _ _ i _ => ps.length - (intOf i).toNat)
    case atStart => exact ⟨0, Nat.zero_le _, rfl, fun h => by omega, fun j hj => by omega, hown, hb0⟩
    case round =>
      obtain ⟨k, hk, rfl, h64k, hno, hown, hbr1⟩ := hrel
      obtain ⟨Ao, co, rfl, -, hco, hOo⟩ := Own.of_row hown (Nat.le_refl _)
      have hbr : Below w.heap.size w wr := hb1.trans (hbr1.mono hb1.size)
      by_cases hlt : k < ps.length
      · obtain ⟨ad, rfl, hab, hcell⟩ := str_at (hr.below hbr1) hlt
        have HV := readDecimal_any (txt (ps.getD k [])) wr (by rw [txt_size]; exact HM.out _ (getD_mem hlt)) (HEV.out.on hbr) (fun W' hW' => HT.out W' (hbr.trans (hW'.mono hbr.size)))
        rw [txt_data] at HV
        have HN := Lib.hid (take_sv hlt)
        by_cases h64 : ps.length ≤ 64
        · have h64' : ¬ ((64 : Int) < (ps.length : Int)) := by omega
          have h64d : decide ((64 : Int) < (ps.length : Int)) = false := by simp; omega
          cases hrd : rdB (ps.getD k []) with
          | true =>
            have hNO : Hid (∀ j, j < k + 1 → rdB (ps.getD j []) = true) := fun j hj => by
              rcases Nat.lt_or_ge j k with h | h
              · exact hno.out j h
              · have : j = k := by omega
                subst this; exact hrd
            rw [hrd] at HV
            have hv : rdV (ps.getD k []) = sv (ps.getD k []) := by rw [rdV, hrd]; rfl
            rw [hv] at HV
            clear hrd hv hr hno HM h64k
            generalize sv (ps.getD k []) = z at *
            generalize txt (ps.getD k []) = X at *
            go_wp2_with fail
            (with_reducible refine HV.mono ?_)
            rintro e w2 ⟨rfl, hb2⟩
            clear HV hcell hOo
            have hown2 := ownsRow_below hown hb2
            have hbr2 : Below w1.heap.size w1 w2 := hbr1.trans (hb2.mono hbr1.size)
            clear hown hb2 hbr hbr1
            go_wp2_with (at_builtin; refine wpList_append_any _ rfl (.tmp 31) (.tmp 33) _ rfl w1.heap.size 2 i0 _ 1 8 Tryd.underlying25 hi hz0 hz1 hz2 rfl (by omega) (.slice Ao k co) k (ints ((ps.take k).map sv)) rfl (hown2.alloc _) (w2.heap.size + 1) (some ⟨w2.heap.size, 0, none⟩) 1 1 [.int .i64 z] rfl (reads_one w2 _ _) (one_i64 z) (by simp only [maxLen]; omega) (by omega) (by simp; have := hbr2.size; omega) ?_; intro v1 w5 hown1 hg1 hat1)
            have hb11 : Below w1.heap.size w1 w5 := (hbr2.alloc hbr2.size _).grown hg1 (by simp; have := hbr2.size; omega) (fun j hj => (hown2.lt j hj).1)
            clear hg1 hat1 hown2
            go_wp2
            go_roundw
            case rel => exact ⟨k + 1, by omega, by go_num, fun _ => h64, hNO, by rw [HN.out, ints_append]; simpa [ints] using hown1, hb11⟩
            case measure => simp [intOf]; omega
          | false =>
            have hall := all_no hlt hrd
            have hb' : Hid (b = false) := by show _ = _; rw [HbE.out, hall, Bool.and_false]
            have hR' : Hid (R = []) := by show _ = _; rw [HRE.out, hall, Bool.and_false]; rfl
            rw [hrd] at HV
            clear hrd hr hno HM hall h64k
            generalize rdV (ps.getD k []) = z at *
            generalize txt (ps.getD k []) = X at *
            go_wp2_with fail
            (with_reducible refine HV.mono ?_)
            rintro e w2 ⟨rfl, hb2⟩
            clear HV hcell hOo
            go_wp2
            go_ret2
            rw [hb'.out, hR'.out]
            exact ⟨none, 0, rfl, .inl rfl, hbr.trans (hb2.mono hbr.size)⟩
        · have h64' : (64 : Int) < (ps.length : Int) := by omega
          have h64d : decide ((64 : Int) < (ps.length : Int)) = true := by simp; omega
          have h64n : decide (ps.length ≤ 64) = false := by simpa using h64
          have hb' : Hid (b = false) := by show _ = _; rw [HbE.out, h64n]; rfl
          have hR' : Hid (R = []) := by show _ = _; rw [HRE.out, h64n]; rfl
          clear hr hno HM h64k h64n
          generalize rdV (ps.getD k []) = z at *
          generalize rdB (ps.getD k []) = ok at *
          generalize txt (ps.getD k []) = X at *
          go_wp2_with fail
          (with_reducible refine HV.mono ?_)
          rintro e w2 ⟨rfl, hb2⟩
          clear HV hcell hOo
          cases ok
          all_goals
            go_wp2
            go_ret2
            rw [hb'.out, hR'.out]
            exact ⟨none, 0, rfl, .inl rfl, hbr.trans (hb2.mono hbr.size)⟩
      · have hkn : k = ps.length := by omega
        have hall := all_rd (ps := ps) (fun j hj => hno.out j (by omega))
        have h64d : decide (ps.length ≤ 64) = true := by simpa using h64k (by omega)
        have hb' : Hid (b = true) := by show _ = _; rw [HbE.out, hall, h64d]; rfl
        have hR' : Hid (R = ps.map sv) := by show _ = _; rw [HRE.out, hall, h64d]; rfl
        subst hkn
        rw [List.take_of_length_le (Nat.le_refl _)] at hOo
        clear hall h64d hr hno hown h64k
        go_wp2
        go_ret2
        rw [hb'.out, hR'.out]
        exact ⟨Ao, co, by rw [List.length_map]; rfl, hOo.wide hb1.size (Nat.le_refl _), hbr⟩
end Go.Proofs.YtlcckgpidjneeaaDoor
