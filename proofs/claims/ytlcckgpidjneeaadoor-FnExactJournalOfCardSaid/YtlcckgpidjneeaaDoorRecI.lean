/-
  Contracts: strings.Cut at a mark of one byte, impl.RecoverJournal, spec.RecoverJournal.
-/
import Derived.Test.YtlcckgpidjneeaaDoorRecS
import Derived.Test.YtlcckgpidjneeaaDoorShelfCut
import Derived.Test.YtlcckgpidjneeaaDoorHand
namespace Go.Proofs.YtlcckgpidjneeaaDoor
open Go.RowKit

theorem cut_any (c : UInt8) (s : ByteArray) (w : World) (hsh : w.ShapedOpen Tryd.prog) (hs : s.size ≤ 1048576) :
    Calls Tryd.prog 45 #[.string s, .string ⟨#[c]⟩] w fun e w' => e = .returned (.tuple #[.string (txt (Lib.cut s.data.toList [c]).1), .string (txt (Lib.cut s.data.toList [c]).2.1), .bool (Lib.cut s.data.toList [c]).2.2]) ∧ Below w.heap.size w w' := by
  refine (Tryd.strings_Cut_shaped s ⟨#[c]⟩ w hsh (by omega)).mono ?_
  rintro e w' ⟨rfl, n, rfl⟩
  exact ⟨rfl, below_drewN (Below.refl _ _) n⟩
theorem cut_yes (c : UInt8) (s : ByteArray) (w : World) (hsh : w.ShapedOpen Tryd.prog) (hs : s.size ≤ 1048576) (h : c ∈ s.data.toList) :
    Calls Tryd.prog 45 #[.string s, .string ⟨#[c]⟩] w fun e w' => e = .returned (.tuple #[.string (txt (pre c s.data.toList)), .string (txt (s.data.toList.drop ((pre c s.data.toList).length + 1))), .bool true]) ∧ Below w.heap.size w w' := by
  have H := cut_any c s w hsh hs
  rwa [cut_pre, if_pos h] at H
theorem cut_no (c : UInt8) (s : ByteArray) (w : World) (hsh : w.ShapedOpen Tryd.prog) (hs : s.size ≤ 1048576) (h : c ∉ s.data.toList) :
    Calls Tryd.prog 45 #[.string s, .string ⟨#[c]⟩] w fun e w' => e = .returned (.tuple #[.string s, .string (txt []), .bool false]) ∧ Below w.heap.size w w' := by
  have H := cut_any c s w hsh hs
  rw [cut_pre, if_neg h] at H
  simp only [txt_of] at H
  exact H
theorem cut_yes' (c : UInt8) (l : List UInt8) (s : ByteArray) (hl : s.data.toList = l) (w : World) (hsh : w.ShapedOpen Tryd.prog) (hs : s.size ≤ 1048576) (h : c ∈ l) :
    Calls Tryd.prog 45 #[.string s, .string ⟨#[c]⟩] w fun e w' => e = .returned (.tuple #[.string (txt (pre c l)), .string (txt (l.drop ((pre c l).length + 1))), .bool true]) ∧ Below w.heap.size w w' := by
  subst hl
  exact cut_yes c s w hsh hs h
theorem checkOf' (n : Nat) (y : List UInt8) (w : World) (hn : n < 65003) (hs : y.length ≤ 1048576) :
    Calls Tryd.prog 39 #[.int .i64 (n : Int), .string (txt y)] w fun e w' => e = .returned (.tuple #[.int .i64 (chk n y : Nat), .bool true]) ∧ w = w' := by
  have H := checkOf_any n (txt y) w hn (by rw [txt_size]; omega)
  rwa [txt_data] at H
theorem cut_len (c : UInt8) (l : List UInt8) : (Lib.cut l [c]).2.1.length ≤ l.length := by
  rw [cut_pre]; split <;> simp

def RecPost3 (R : List (List UInt8) × Nat) (w : World) (e : Ending) (w' : World) : Prop :=
  ∃ A c', e = .returned (.tuple #[.slice A R.1.length c', .int .i64 (R.2 : Nat), .bool true]) ∧ Own w' w.heap.size w'.heap.size 9 A (strs R.1) ∧ Below w.heap.size w w'

set_option maxRecDepth 100000 in
set_option maxHeartbeats 1600000 in
theorem recI_any (s : ByteArray) (w : World) (hsh : w.ShapedOpen Tryd.prog) (htab : Lib.TabBelow Tryd.prog w.heap.size w "internal/strconv.uint64pow10" .u64 Lib.pow10Tab) (hn : s.size ≤ 16000) :
    Calls Tryd.prog 21 #[.string s] w (RecPost3 (recAll 0 (lns s.data.toList)) w) := by
  obtain ⟨i0, hi, hz0, hz1, hz2⟩ := info_parts info9
  have hb0 : Below w.heap.size w (w.alloc (.cells #[] 9)) := (Below.refl _ _).alloc (Nat.le_refl _) _
  have hown : (w.alloc (.cells #[] 9)).ownsRow w.heap.size 9 1 (.slice (some ⟨w.heap.size, 0, none⟩) 0 0) 0 [] := World.ownsRow_made w #[] 0 (Nat.le_refl _) (by simp [maxLen]) rfl
  have hsl := getElem_txt s
  have HL := Lib.hid hsl
  clear hsl
  go_enter Tryd.func21, Tryd.ntmps21
  go_wp2
  go_loopw [5, 6, 7, 8, 9, 10, 11, 12, 13, 14, 15] (fun v n c _ _ _ _ _ _ _ _ wr => ∃ a cc : Nat, ∃ done, a ≤ s.size ∧ n = .int .i64 (a : Int) ∧ c = .int .i64 (cc : Int) ∧ cc < 65003 ∧ done.length ≤ a ∧ Hid (Recing (lns s.data.toList) cc a done (lns (s.data.toList.drop a))) ∧ wr.ownsRow w.heap.size 9 1 v done.length (strs done) ∧ Below w.heap.size w wr) (fun _ n _ _ _ _ _ _ _ _ _ _ => s.size - (intOf n).toNat)
  case atStart => exact ⟨0, 0, [], Nat.zero_le _, rfl, rfl, by omega, by simp, Recing.start _, hown, hb0⟩
  case round =>
    obtain ⟨a, cc, done, ha, rfl, rfl, hcc, hdl, hrec, hown, hbr⟩ := hrel
    obtain ⟨Ao, co, rfl, -, hco, hO2⟩ := Own.of_row hown (Nat.le_refl _)
    have hTd : (s.extract a s.size).data.toList = s.data.toList.drop a := by
      rw [extract_txt, txt_data, List.take_of_length_le (by rw [List.length_drop, ← Lib.size_eq]; omega)]
    have hTs : (s.extract a s.size).size = s.size - a := by rw [ByteArray.size_extract]; omega
    have HTD := Lib.hid hTd
    have HTS := Lib.hid hTs
    clear hTd hTs
    by_cases h10 : 10 ∈ s.data.toList.drop a
    · have hpl := pre_lt h10
      rw [List.length_drop, ← Lib.size_eq] at hpl
      have hlns : lns (s.data.toList.drop a) = pre 10 (s.data.toList.drop a) :: lns (s.data.toList.drop (a + ((pre 10 (s.data.toList.drop a)).length + 1))) := by
        rw [lns_step, if_pos h10, List.drop_drop]
      have hrn := hrec.out
      rw [hlns] at hrn
      have HR := Lib.hid hrn
      have HC1 := cut_yes' 10 (s.data.toList.drop a) (s.extract a s.size) HTD.out wr (shaped_below hsh hbr) (by have := HTS.out; omega) h10
      clear hrec hrn hlns h10 HTD HTS
      generalize s.data.toList.drop a = L at *
      generalize L.drop ((pre 10 L).length + 1) = L2 at *
      generalize hp : pre 10 L = p at *
      clear hp
      have hps : (txt p).size ≤ 1048576 := by rw [txt_size]; omega
      by_cases h32 : 32 ∈ p
      · have HC2 := fun W (hW : Below wr.heap.size wr W) => cut_yes' 32 p (txt p) (txt_data p) W (shaped_below hsh (hbr.trans (hW.mono hbr.size))) hps h32
        have hyl : (p.drop ((pre 32 p).length + 1)).length ≤ 1048576 := by rw [txt_size] at hps; rw [List.length_drop]; omega
        have HC3 := fun W => checkOf' cc (p.drop ((pre 32 p).length + 1)) W hcc hyl
        have hcd := chk_lt hcc (p.drop ((pre 32 p).length + 1))
        have HD := fun W (hW : Below w.heap.size w W) => decimal_any (chk cc (p.drop ((pre 32 p).length + 1)) : Nat) (by omega) (by omega) W (htab.on hW).here
        rw [itoa_nat] at HD
        by_cases hd : pre 32 p = Lib.decDigits (chk cc (p.drop ((pre 32 p).length + 1)))
        · have HN := Lib.hid (HR.out.next (recStep_some h32 hd))
          have ht := teq (a := txt (pre 32 p)) rfl rfl hd
          clear hd HR h32 htab hsh hyl
          generalize p.drop ((pre 32 p).length + 1) = y at *
          generalize chk cc y = cd at *
          generalize pre 32 p = z at *
          go_wp2_with fail
          generalize s.extract a s.size = T at *
          (with_reducible refine HC1.mono ?_)
          rintro e w1 ⟨rfl, hb1⟩
          clear HC1
          go_wp2_with fail
          (with_reducible refine (HC2 w1 hb1).mono ?_)
          rintro e w2 ⟨rfl, hb2⟩
          have hb3 := hb1.trans (hb2.mono hb1.size)
          clear HC2
          go_wp2_with fail
          (with_reducible refine (HC3 _).mono ?_)
          rintro e w3 ⟨rfl, rfl⟩
          clear HC3
          go_wp2_with fail
          (with_reducible refine (HD _ (hbr.trans (hb3.mono hbr.size))).mono ?_)
          rintro e w4 ⟨rfl, hb4⟩
          clear HD
          have hb5 := hb3.trans (hb4.mono hb3.size)
          have hown9 := ownsRow_below hown hb5
          have hbr9 : Below w.heap.size w w4 := hbr.trans (hb5.mono hbr.size)
          clear hb1 hb2 hb3 hb4 hb5 hO2 hown hbr
          go_wp2_with (at_builtin; refine wpList_append_any _ rfl (.tmp 54) (.tmp 56) _ rfl w.heap.size 9 i0 _ 1 16 Tryd.underlying35 hi hz0 hz1 hz2 rfl (by omega) (.slice Ao done.length co) done.length (strs done) rfl (hown9.alloc _) (w4.heap.size + 1) (some ⟨w4.heap.size, 0, none⟩) 1 1 [.string (txt y)] rfl (reads_one w4 _ _) (one_str _) (by simp only [maxLen]; omega) (by omega) (by simp; have := hbr9.size; omega) ?_; intro v1 w5 hown1 hg1 hat1)
          have hb11 : Below w.heap.size w w5 := (hbr9.alloc hbr9.size _).grown hg1 (by simp; have := hbr9.size; omega) (fun j hj => (hown9.lt j hj).1)
          clear hg1 hat1 hown9
          go_wp2
          go_roundw
          case rel => exact ⟨a + (p.length + 1), cd, _, by omega, by rw [← txt_size p]; go_num, rfl, hcd, by simp; omega, HN.out, by rw [strs_append, List.length_append]; simpa [strs] using hown1, hb11⟩
          case measure => simp [intOf]; have := txt_size p; omega
        · have hfin := HR.out.stop (.inr ⟨_, _, rfl, recStep_none2 h32 hd⟩)
          have H1 := Lib.hid hfin.1
          have H2 := Lib.hid hfin.2
          have ht := tne (a := txt (pre 32 p)) rfl rfl hd
          clear hd HR h32 htab hsh hyl hfin
          generalize p.drop ((pre 32 p).length + 1) = y at *
          generalize chk cc y = cd at *
          generalize pre 32 p = z at *
          go_wp2_with fail
          generalize s.extract a s.size = T at *
          (with_reducible refine HC1.mono ?_)
          rintro e w1 ⟨rfl, hb1⟩
          clear HC1
          go_wp2_with fail
          (with_reducible refine (HC2 w1 hb1).mono ?_)
          rintro e w2 ⟨rfl, hb2⟩
          have hb3 := hb1.trans (hb2.mono hb1.size)
          clear HC2
          go_wp2_with fail
          (with_reducible refine (HC3 _).mono ?_)
          rintro e w3 ⟨rfl, rfl⟩
          clear HC3
          go_wp2_with fail
          (with_reducible refine (HD _ (hbr.trans (hb3.mono hbr.size))).mono ?_)
          rintro e w4 ⟨rfl, hb4⟩
          clear HD
          have hb5 := hb3.trans (hb4.mono hb3.size)
          go_wp2
          go_ret3
          unfold RecPost3
          rw [← H1.out, ← H2.out]
          exact ⟨_, _, rfl, (hO2.below hb5 (Nat.le_refl _)).wide (Nat.le_refl _) hb5.size, hbr.trans (hb5.mono hbr.size)⟩
      · have hfin := HR.out.stop (.inr ⟨_, _, rfl, recStep_none1 h32⟩)
        have H1 := Lib.hid hfin.1
        have H2 := Lib.hid hfin.2
        have HC2 := fun W (hW : Below wr.heap.size wr W) => cut_no 32 (txt p) W (shaped_below hsh (hbr.trans (hW.mono hbr.size))) hps (by rw [txt_data]; exact h32)
        have HC3 := fun W => checkOf' cc [] W hcc (by simp)
        clear HR h32 htab hsh hfin
        go_wp2_with fail
        generalize s.extract a s.size = T at *
        (with_reducible refine HC1.mono ?_)
        rintro e w1 ⟨rfl, hb1⟩
        clear HC1
        go_wp2_with fail
        (with_reducible refine (HC2 w1 hb1).mono ?_)
        rintro e w2 ⟨rfl, hb2⟩
        have hb3 := hb1.trans (hb2.mono hb1.size)
        clear HC2
        go_wp2_with fail
        (with_reducible refine (HC3 _).mono ?_)
        rintro e w3 ⟨rfl, rfl⟩
        clear HC3
        go_wp2
        go_ret3
        unfold RecPost3
        rw [← H1.out, ← H2.out]
        exact ⟨_, _, rfl, (hO2.below hb3 (Nat.le_refl _)).wide (Nat.le_refl _) hb3.size, hbr.trans (hb3.mono hbr.size)⟩
    · have hfin := hrec.out.stop (.inl (by rw [lns_step, if_neg h10]))
      have H1 := Lib.hid hfin.1
      have H2 := Lib.hid hfin.2
      have HC1 := cut_no 10 (s.extract a s.size) wr (shaped_below hsh hbr) (by have := HTS.out; omega) (by rw [HTD.out]; exact h10)
      have HC2 := fun W (hW : Below wr.heap.size wr W) => cut_any 32 (s.extract a s.size) W (shaped_below hsh (hbr.trans (hW.mono hbr.size))) (by have := HTS.out; omega)
      have hcl : (txt (Lib.cut (s.extract a s.size).data.toList [32]).2.1).size ≤ 1048576 := by
        have := cut_len 32 (s.extract a s.size).data.toList
        rw [← Lib.size_eq] at this
        rw [txt_size]
        have := HTS.out
        omega
      have HC3 := fun W => checkOf_any cc (txt (Lib.cut (s.extract a s.size).data.toList [32]).2.1) W hcc (by omega)
      clear hfin hrec h10 hsh htab
      go_wp2_with fail
      generalize s.extract a s.size = T at *
      generalize (Lib.cut T.data.toList [32]).1 = x1 at *
      generalize (Lib.cut T.data.toList [32]).2.1 = x2 at *
      generalize (Lib.cut T.data.toList [32]).2.2 = x3 at *
      refine HC1.mono ?_
      rintro e w1 ⟨rfl, hb1⟩
      clear HC1
      go_wp2_with fail
      refine (HC2 w1 hb1).mono ?_
      rintro e w2 ⟨rfl, hb2⟩
      have hb3 := hb1.trans (hb2.mono hb1.size)
      clear HC2
      go_wp2_with fail
      refine (HC3 _).mono ?_
      rintro e w3 ⟨rfl, rfl⟩
      clear HC3
      go_wp2
      go_ret3
      unfold RecPost3
      rw [← H1.out, ← H2.out]
      exact ⟨_, _, rfl, (hO2.below hb3 (Nat.le_refl _)).wide (Nat.le_refl _) hb3.size, hbr.trans (hb3.mono hbr.size)⟩
end Go.Proofs.YtlcckgpidjneeaaDoor
