/-
  Contracts: impl.listOrNone, impl.ListText, impl.RealText, spec.RealText.
-/
import Derived.Test.YtlcckgpidjneeaaDoorRealT
namespace Go.Proofs.YtlcckgpidjneeaaDoor
open Go.RowKit

theorem join_any (A : Option Addr) (c lo hi : Nat) (zs : List Int) (w : World) (h1 : 1 ≤ zs.length) (hn : zs.length ≤ 64) (hc : zs.length ≤ c) (hv : inV zs) (hO : Own w lo hi 9 A (strs (zs.map Lib.itoa))) (hhi : hi ≤ w.heap.size) :
    Calls Tryd.prog 71 #[.slice A zs.length c, .string ⟨#[44]⟩] w fun e w' => e = .returned (.string (txt (jtx zs zs.length))) ∧ Below w.heap.size w w' := by
  have hr := hO.reads' (Nat.le_refl _) (n := zs.length) (by simp)
  rcases hO with h | ⟨g, cur, rfl, g1, g2, _, _, _⟩
  · have : (strs (zs.map Lib.itoa)).length = 0 := by rw [h]; rfl
    simp at this
    subst this
    simp at h1
  · have hl : ((zs.map Lib.itoa).map txt).length = zs.length := by simp
    have hjl := jtx_len hv zs.length (Nat.le_refl _)
    have hmap : ((zs.map Lib.itoa).map txt).map (·.data.toList) = zs.map Lib.itoa := by simp
    have H := Tryd.strings_Join g 0 c ((zs.map Lib.itoa).map txt) ⟨#[44]⟩ w (fun j x hx => by
      obtain ⟨_, ha, _, hcell⟩ := hr.2 (by omega)
      cases ha
      have := hcell j (.string x) (by
        rw [List.getElem?_map] at hx
        rw [strs, List.getElem?_map]
        cases hy : (zs.map Lib.itoa)[j]? with
        | none => rw [hy] at hx; cases hx
        | some y => rw [hy] at hx; simp only [Option.map_some, Option.some.injEq] at hx ⊢; rw [hx])
      have hadd : (⟨g, 0, none⟩ : Addr).add j = ⟨g, 0 + j, none⟩ := by unfold Addr.add; split <;> simp_all
      rw [hadd] at this
      exact this) (by omega) (by rw [hl]; omega) (by rw [hl]; exact hc) (by rw [hmap]; show (Lib.join (zs.map Lib.itoa) [44]).length ≤ _; rw [← jtx_all]; omega)
    rw [hl, hmap] at H
    rw [jtx_all]
    exact H

theorem listOrNone_any (A : Option Addr) (c lo hi : Nat) (zs : List Int) (w : World) (h1 : 1 ≤ zs.length) (hn : zs.length ≤ 64) (hc : zs.length ≤ c) (hv : inV zs) (hO : Own w lo hi 9 A (strs (zs.map Lib.itoa))) (hhi : hi ≤ w.heap.size) :
    Calls Tryd.prog 60 #[.slice A zs.length c] w fun e w' => e = .returned (.string (txt (jtx zs zs.length))) ∧ Below w.heap.size w w' := by
  have H := join_any A c lo hi zs w h1 hn hc hv hO hhi
  have hz : ((zs.length : Int) == 0) = false := beq_false_of_ne (by omega)
  clear hO hv
  generalize jtx zs zs.length = o at *
  go_enter Tryd.func60, Tryd.ntmps60
  go_wp2_with fail
  (with_reducible refine H.mono ?_)
  rintro e w1 ⟨rfl, hb1⟩
  clear H
  go_wp2
  go_ret
  exact ⟨rfl, hb1⟩

theorem take_snoc_itoa {zs : List Int} {k : Nat} (hk : k < zs.length) : (zs.take (k + 1)).map Lib.itoa = (zs.take k).map Lib.itoa ++ [Lib.itoa (zs.getD k 0)] := by
  rw [List.take_add_one, List.getElem?_eq_getElem hk, List.map_append, List.getD, List.getElem?_eq_getElem hk]
  rfl

set_option maxRecDepth 100000 in
set_option maxHeartbeats 800000 in
theorem listText_any (A : Option Addr) (c B : Nat) (zs : List Int) (w : World) (hr : Reads w B 1 A zs.length (ints zs)) (hB : B ≤ w.heap.size) (h1 : 1 ≤ zs.length) (hn : zs.length ≤ 64) (hv : inV zs) (htab : Lib.TabBelow Tryd.prog w.heap.size w "internal/strconv.uint64pow10" .u64 Lib.pow10Tab) :
    Calls Tryd.prog 35 #[.slice A zs.length c] w fun e w' => e = .returned (.tuple #[.string (txt (jtx zs zs.length)), .bool true]) ∧ Below w.heap.size w w' := by
  obtain ⟨i0, hi, hz0, hz1, hz2⟩ := info_parts info9
  have hb0 : Below w.heap.size w (w.alloc (.cells #[] 9)) := (Below.refl _ _).alloc (Nat.le_refl _) _
  have hown : (w.alloc (.cells #[] 9)).ownsRow w.heap.size 9 1 (.slice (some ⟨w.heap.size, 0, none⟩) 0 0) 0 [] := World.ownsRow_made w #[] 0 (Nat.le_refl _) (by simp [maxLen]) rfl
  have HV := Lib.hid hv
  have HT := Lib.hid htab
  clear hv htab
  go_enter Tryd.func35, Tryd.ntmps35
  go_wp2
  go_loopw [4, 6, 10] (fun v _ i wr => ∃ k : Nat, k ≤ zs.length ∧ i = .int .i64 k ∧ wr.ownsRow w.heap.size 9 1 v k (strs ((zs.take k).map Lib.itoa)) ∧ Below w.heap.size w wr) (fun _ _ i _ => zs.length - (intOf i).toNat)
  case atStart => exact ⟨0, Nat.zero_le _, rfl, hown, hb0⟩
  case round =>
    obtain ⟨k, hk, rfl, hown, hbr⟩ := hrel
    obtain ⟨Ao, co, rfl, -, hco, hO⟩ := Own.of_row hown (Nat.le_refl _)
    by_cases hlt : k < zs.length
    · obtain ⟨ad, rfl, hab, hcell⟩ := int_at (hr.below (hbr.mono hB)) hlt
      have hvk := HV.out.at_ hlt
      have hd1 : decide (-1000000000000000 ≤ zs.getD k 0) = true := by simpa using hvk.1
      have hd2 : decide (zs.getD k 0 ≤ 1000000000000000) = true := by simpa using hvk.2
      have hlen : ¬ ((64 : Int) < (zs.length : Int)) := by omega
      have HW := within_any (zs.getD k 0) (-1000000000000000) 1000000000000000 true (by unfold inB; rw [hd1, hd2]; rfl)
      have HD := fun W (hW : Below w.heap.size w W) => decimal_any (zs.getD k 0) (by omega) (by omega) W (HT.out.on hW).here
      have HN := Lib.hid (take_snoc_itoa hlt)
      clear hd1 hd2 hvk hr
      generalize zs.getD k 0 = z at *
      generalize Lib.itoa z = d at *
      go_wp2_with (first | (go_at_call 58; refine (HW _).mono ?_; rintro e w' ⟨rfl, rfl⟩) | (go_at_call 59; go_in))
      (with_reducible refine (HD _ hbr).mono ?_)
      rintro e w2 ⟨rfl, hb2⟩
      have hown2 := ownsRow_below hown hb2
      have hbr2 : Below w.heap.size w w2 := hbr.trans (hb2.mono hbr.size)
      clear HD hown hb2 hO hcell
      go_wp2_with (at_builtin; refine wpList_append_any _ rfl (.tmp 22) (.tmp 25) _ rfl w.heap.size 9 i0 _ 1 16 Tryd.underlying35 hi hz0 hz1 hz2 rfl (by omega) (.slice Ao k co) k (strs ((zs.take k).map Lib.itoa)) rfl (hown2.alloc _) (w2.heap.size + 1) (some ⟨w2.heap.size, 0, none⟩) 1 1 [.string (txt d)] rfl (reads_one w2 _ _) (one_str _) (by simp only [maxLen]; omega) (by omega) (by simp; have := hbr2.size; omega) ?_; intro v1 w5 hown1 hg1 hat1)
      have hb11 : Below w.heap.size w w5 := (hbr2.alloc hbr2.size _).grown hg1 (by simp; have := hbr2.size; omega) (fun j hj => (hown2.lt j hj).1)
      clear hg1 hat1 hown2
      go_wp2
      go_roundw
      case rel => exact ⟨k + 1, by omega, by go_num, by rw [HN.out, strs_append]; simpa [strs] using hown1, hb11⟩
      case measure => simp [intOf]; omega
    · have hkn : k = zs.length := by omega
      subst hkn
      rw [List.take_of_length_le (Nat.le_refl _)] at hO
      have HL := listOrNone_any Ao co _ _ zs wr h1 hn hco HV.out hO (Nat.le_refl _)
      clear hown hO hr HT
      generalize ho : jtx zs zs.length = o at HL
      have HO := Lib.hid ho
      clear ho
      go_wp2_with fail
      (with_reducible refine HL.mono ?_)
      rintro e w2 ⟨rfl, hb2⟩
      clear HL
      go_wp2
      go_ret2
      exact ⟨by rw [HO.out]; rfl, hbr.trans (hb2.mono hbr.size)⟩

/-- The text of a polynomial of integers. -/
def rtx (zs : List Int) : List UInt8 := if realB zs then jtx zs zs.length else []
theorem realB_parts {zs : List Int} (h : realB zs = true) : 1 ≤ zs.length ∧ zs.length ≤ 9 ∧ inV zs := by
  simp only [realB, Bool.and_eq_true, decide_eq_true_eq] at h
  refine ⟨h.1.1.1, h.1.1.2, fun z hz => ?_⟩
  have := List.all_eq_true.1 h.2 z hz
  simp only [inB, Bool.and_eq_true, decide_eq_true_eq] at this
  omega

set_option maxRecDepth 100000 in
theorem realTextS_any (A : Option Addr) (c B : Nat) (zs : List Int) (w : World) (hr : Reads w B 1 A zs.length (ints zs)) (hB : B ≤ w.heap.size) (hn : zs.length ≤ 1048576) :
    Calls Tryd.prog 11 #[.agg #[.slice A zs.length c]] w fun e w' => e = .returned (.tuple #[.string (txt (rtx zs)), .bool (realB zs)]) ∧ Below w.heap.size w w' := by
  have hb0 : Below w.heap.size w (w.alloc (.cells #[.slice A zs.length c] 31)) := (Below.refl _ _).alloc (Nat.le_refl _) _
  have hc0 : (w.alloc (.cells #[.slice A zs.length c] 31)).cell? ⟨w.heap.size, 0, none⟩ = some (.slice A zs.length c) := by
    rw [cell_of_row _ _ 0 _ _ _ (heap_alloc_new w _)]; rfl
  have hr0 := hr.below (hb0.mono hB)
  have HI := l04Is_any w.heap.size A c B zs _ hc0 hr0 hn
  cases hb : realB zs with
  | true =>
    have hp := realB_parts hb
    have HT := l01Text_any A c B zs _ hr0 (Nat.le_trans hB hb0.size) hp.1 (by omega) hp.2.2
    have hx : rtx zs = jtx zs zs.length := by rw [rtx, hb]; rfl
    rw [hx]
    rw [hb] at HI
    clear hb hp hr hr0 hc0 hx
    generalize jtx zs zs.length = o at *
    go_enter Tryd.func11, Tryd.ntmps11
    go_wp2_with fail
    (with_reducible refine HI.mono ?_)
    rintro e w' ⟨rfl, rfl⟩
    clear HI
    go_wp2_with fail
    (with_reducible refine HT.mono ?_)
    rintro e w2 ⟨rfl, hb2⟩
    clear HT
    go_wp2
    go_ret2
    exact ⟨rfl, hb0.trans (hb2.mono hb0.size)⟩
  | false =>
    have hx : rtx zs = [] := by rw [rtx, hb]; rfl
    rw [hx]
    rw [hb] at HI
    clear hb hr hr0 hc0 hx
    go_enter Tryd.func11, Tryd.ntmps11
    go_wp2_with fail
    (with_reducible refine HI.mono ?_)
    rintro e w' ⟨rfl, rfl⟩
    clear HI
    go_wp2
    go_ret2
    exact ⟨rfl, hb0⟩

set_option maxRecDepth 100000 in
theorem realTextI_any (A : Option Addr) (c B : Nat) (zs : List Int) (w : World) (hr : Reads w B 1 A zs.length (ints zs)) (hB : B ≤ w.heap.size) (hn : zs.length ≤ 1048576) (htab : Lib.TabBelow Tryd.prog w.heap.size w "internal/strconv.uint64pow10" .u64 Lib.pow10Tab) :
    Calls Tryd.prog 13 #[.agg #[.slice A zs.length c]] w fun e w' => e = .returned (.tuple #[.string (txt (rtx zs)), .bool (realB zs)]) ∧ Below w.heap.size w w' := by
  have hb0 : Below w.heap.size w (w.alloc (.cells #[.slice A zs.length c] 31)) := (Below.refl _ _).alloc (Nat.le_refl _) _
  have hr0 := hr.below (hb0.mono hB)
  have HI := validReal_any A c B zs _ hr0 (Nat.le_trans hB hb0.size) hn
  cases hb : realB zs with
  | true =>
    have hp := realB_parts hb
    have HT := fun W (hW : Below w.heap.size w W) => listText_any A c B zs W (hr.below (hW.mono hB)) (Nat.le_trans hB hW.size) hp.1 (by omega) hp.2.2 (fun W' hW' => htab W' (hW.trans (hW'.mono hW.size)))
    have hx : rtx zs = jtx zs zs.length := by rw [rtx, hb]; rfl
    rw [hx]
    rw [hb] at HI
    clear hb hp hr hr0 hx htab
    generalize jtx zs zs.length = o at *
    go_enter Tryd.func13, Tryd.ntmps13
    go_wp2_with fail
    (with_reducible refine HI.mono ?_)
    rintro e w1 ⟨rfl, hb1⟩
    have hb01 : Below w.heap.size w w1 := hb0.trans (hb1.mono hb0.size)
    have hc1 : w1.cell? ⟨w.heap.size, 0, none⟩ = some (.slice A zs.length c) := (hb1.cell (by simp)).trans (by rw [cell_of_row _ _ 0 _ _ _ (heap_alloc_new w _)]; rfl)
    clear HI
    go_wp2_with fail
    (with_reducible refine (HT _ hb01).mono ?_)
    rintro e w2 ⟨rfl, hb2⟩
    clear HT
    go_wp2
    go_ret2
    exact ⟨rfl, hb01.trans (hb2.mono hb01.size)⟩
  | false =>
    have hx : rtx zs = [] := by rw [rtx, hb]; rfl
    rw [hx]
    rw [hb] at HI
    clear hb hr hr0 hx htab
    go_enter Tryd.func13, Tryd.ntmps13
    go_wp2_with fail
    (with_reducible refine HI.mono ?_)
    rintro e w1 ⟨rfl, hb1⟩
    clear HI
    go_wp2
    go_ret2
    exact ⟨rfl, hb0.trans (hb1.mono hb0.size)⟩
end Go.Proofs.YtlcckgpidjneeaaDoor
