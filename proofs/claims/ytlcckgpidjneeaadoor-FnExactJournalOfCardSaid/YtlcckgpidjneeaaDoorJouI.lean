/-
  Contract: impl.JournalOf: the journal of lines, written by a strings.Builder.
-/
import Derived.Test.YtlcckgpidjneeaaDoorJouS
import Derived.Test.YtlcckgpidjneeaaDoorRecI
import Derived.Test.YtlcckgpidjneeaaDoorShelfBuild
import Derived.Test.YtlcckgpidjneeaaDoorShelfCut
import Derived.Test.YtlcckgpidjneeaaDoorHand
namespace Go.Proofs.YtlcckgpidjneeaaDoor
open Go.RowKit

theorem isb_below {T e : TypeId} {B b : Nat} {bs : List Value} {w w' : World} (h : Lib.IsBuilder T e B b bs w) (hb : Below w.heap.size w w') : Lib.IsBuilder T e B b bs w' := by
  have step : ∀ {p : Value}, Lib.BuilderAt T e B b p bs w → Lib.BuilderAt T e B b p bs w' := fun {p} h => by
    obtain ⟨h1, v, h2, h3, h4⟩ := h
    exact ⟨h1, v, (hb.block b (Array.getElem?_eq_some_iff.1 h2).1).trans h2, ownsRow_below h3 hb, h4⟩
  rcases h with h | h
  · exact .inl (step h)
  · exact .inr (step h)
theorem isb_new (w : World) (T e : TypeId) : Lib.IsBuilder T e w.heap.size w.heap.size [] (w.alloc (.cells #[.pointer none, .slice none 0 0] T)) :=
  .inl ⟨Nat.le_refl _, .slice none 0 0, heap_alloc_new w _, World.ownsRow_nil _ _ _ _, by simp [Value.ownBlock]⟩
theorem indexByte_mem (c : UInt8) : ∀ l : List UInt8, decide (0 ≤ Lib.indexByte l c) = decide (c ∈ l)
  | [] => by simp [Lib.indexByte]
  | b :: l => by
    have ih := indexByte_mem c l
    have hge := Lib.indexByte_ge l c
    rw [Lib.indexByte]
    by_cases hb : b = c
    · subst hb; simp
    · have hb' : ¬ c = b := fun e => hb e.symm
      by_cases hm : c ∈ l
      · have h0 : 0 ≤ Lib.indexByte l c := by simpa [hm] using ih
        have h1 : ¬ Lib.indexByte l c = -1 := by omega
        simp [hb, hm, h1]; omega
      · have h0 : ¬ 0 ≤ Lib.indexByte l c := by simpa [hm] using ih
        have h1 : Lib.indexByte l c = -1 := by omega
        simp [hb, hb', hm, h1]
theorem contains_any (l : List UInt8) (b : Bool) (hb : decide ((10 : UInt8) ∈ l) = b) (w : World) :
    Calls Tryd.prog 38 #[.string (txt l), .string ⟨#[10]⟩] w fun e w' => e = .returned (.bool b) ∧ w = w' := by
  refine (Tryd.strings_Contains_one (txt l) 10 w).mono ?_
  rintro e w' ⟨rfl, rfl⟩
  rw [txt_data, indexByte_mem, hb]
  exact ⟨rfl, rfl⟩

theorem blen_any (B b : Nat) (l : List UInt8) (n : Nat) (hl : l.length = n) (w : World) (h : Lib.IsBuilder 62 5 B b (Lib.byteCells l) w) :
    Calls Tryd.prog 42 #[.pointer (some ⟨b, 0, none⟩)] w fun e w' => e = .returned (.int .i64 (n : Int)) ∧ w = w' := by
  refine (Tryd.Builder_Len B b (Lib.byteCells l) w h).mono ?_
  rintro e w' ⟨rfl, rfl⟩
  exact ⟨by rw [bc_len, hl], rfl⟩

set_option maxRecDepth 100000 in
set_option maxHeartbeats 1600000 in
theorem journI_any (A : Option Addr) (c B : Nat) (ls : List (List UInt8)) (w : World) (hr : Reads w B 1 A ls.length (strs ls)) (hB : B ≤ w.heap.size) (hn : ls.length ≤ 1048576) (hx : ∀ x ∈ ls, x.length ≤ 1048576) (htab : Lib.TabBelow Tryd.prog w.heap.size w "internal/strconv.uint64pow10" .u64 Lib.pow10Tab) :
    Calls Tryd.prog 18 #[.slice A ls.length c] w fun e w' => e = .returned (.tuple #[.string (txt (jout ls)), .bool (jokB ls)]) ∧ Below w.heap.size w w' := by
  have HM := Lib.hid hx
  have HT := Lib.hid htab
  have hib := isb_new w 62 5
  have hb0 : Below w.heap.size w (w.alloc (.cells #[.pointer none, .slice none 0 0] 62)) := (Below.refl _ _).alloc (Nat.le_refl _) _
  clear hx htab
  go_enter Tryd.func18, Tryd.ntmps18
  go_wp2
  go_loopw [5, 7, 11] (fun n _ i wr => ∃ k cc : Nat, ∃ out, k ≤ ls.length ∧ i = .int .i64 k ∧ n = .int .i64 (cc : Int) ∧ cc < 65003 ∧ out.length ≤ 16000 ∧ Hid ((cc, out) = jst ls k) ∧ Hid (∀ j, j < k → (10 : UInt8) ∉ ls.getD j []) ∧ Lib.IsBuilder 62 5 w.heap.size w.heap.size (Lib.byteCells out) wr ∧ Below w.heap.size w wr) (fun _ _ i _ => ls.length - (intOf i).toNat)
  case atStart => exact ⟨0, 0, [], Nat.zero_le _, rfl, rfl, by omega, by simp, rfl, fun j hj => by omega, hib, hb0⟩
  case round =>
    obtain ⟨k, cc, out, hk, rfl, rfl, hcc, hol, hJ, hno, hib, hbr⟩ := hrel
    by_cases hlt : k < ls.length
    · obtain ⟨ad, rfl, hab, hcell⟩ := str_at (hr.below (hbr.mono hB)) hlt
      have hxl : (txt (ls.getD k [])).size ≤ 1048576 := by rw [txt_size]; exact HM.out _ (getD_mem hlt)
      have hxl2 : (ls.getD k []).length ≤ 1048576 := HM.out _ (getD_mem hlt)
      by_cases h10 : (10 : UInt8) ∈ ls.getD k []
      · have hb : Hid (jokB ls = false) := jok_nl hlt h10
        have HC := fun W => contains_any (ls.getD k []) true (by simpa using h10) W
        clear hr hJ hno h10 HM HT
        generalize ls.getD k [] = x at *
        go_wp2_with fail
        (with_reducible refine (HC _).mono ?_)
        rintro e w2 ⟨rfl, rfl⟩
        clear HC
        go_wp2
        go_ret2
        rw [jout, hb.out]
        exact ⟨rfl, hbr⟩
      · have HC := fun W => contains_any (ls.getD k []) false (by simpa using h10) W
        have HC2 := fun W => checkOf' cc (ls.getD k []) W hcc hxl2
        have hcd := chk_lt hcc (ls.getD k [])
        have HD := fun W (hW : Below w.heap.size w W) => decimal_any (chk cc (ls.getD k []) : Nat) (by omega) (by omega) W (HT.out.on hW).here
        rw [itoa_nat] at HD
        have hN : Hid ((chk cc (ls.getD k []), out ++ jline (chk cc (ls.getD k [])) (ls.getD k [])) = jst ls (k + 1)) := by
          show _ = _
          rw [jst, ← hJ.out]
        have hNK : Hid (∀ j, j < k + 1 → (10 : UInt8) ∉ ls.getD j []) := fun j hj => by
          rcases Nat.lt_or_ge j k with h | h
          · exact hno.out j h
          · have : j = k := by omega
            subst this; exact h10
        have hdl : (txt (Lib.decDigits (chk cc (ls.getD k [])))).size ≤ 21 := by rw [txt_size]; exact dec_le5 hcd
        have hjl : (jline (chk cc (ls.getD k [])) (ls.getD k [])).length ≤ 1048600 := by
          have := dec_le5 hcd
          rw [jline_len]; omega
        clear hr hJ hno h10 HM
        generalize hgx : ls.getD k [] = x at *
        generalize hgc : chk cc x = cd at *
        clear hgx hgc
        have a1 : ¬ 9223372036854775807 < (txt (Lib.decDigits cd)).size + 1 := by omega
        have a2 : ¬ 9223372036854775807 < (txt (Lib.decDigits cd)).size + 1 + (txt x).size := by omega
        have a3 : ¬ 9223372036854775807 < (txt (Lib.decDigits cd)).size + 1 + (txt x).size + 1 := by omega
        have HV : Hid (txt (Lib.decDigits cd) ++ (⟨#[32]⟩ : ByteArray) ++ txt x ++ (⟨#[10]⟩ : ByteArray) = txt (jline cd x)) := by
          show _ = _
          rw [show (⟨#[32]⟩ : ByteArray) = txt [32] from rfl, show (⟨#[10]⟩ : ByteArray) = txt [10] from rfl, cat_add, cat_add, cat_add]
          simp [jline]
        go_wp2_with fail
        (with_reducible refine (HC _).mono ?_)
        rintro e w2 ⟨rfl, rfl⟩
        clear HC
        go_wp2_with fail
        (with_reducible refine (HC2 _).mono ?_)
        rintro e w3 ⟨rfl, rfl⟩
        clear HC2
        go_wp2_with fail
        (with_reducible refine (HD _ hbr).mono ?_)
        rintro e w4 ⟨rfl, hb4⟩
        have hib4 := isb_below hib hb4
        have hbr4 : Below w.heap.size w w4 := hbr.trans (hb4.mono hbr.size)
        clear HD hib hb4 hcell
        have HW := Tryd.Builder_WriteString w.heap.size w.heap.size (Lib.byteCells out) (txt (jline cd x)) w4 hib4 (by rw [bc_len, txt_size]; omega) hbr4.size
        rw [← HV.out] at HW
        go_wp2_with fail
        (with_reducible refine HW.mono ?_)
        rintro e w5 ⟨rfl, hat, hb5⟩
        rw [HV.out] at hat
        have hib5 : Lib.IsBuilder 62 5 w.heap.size w.heap.size (Lib.byteCells (out ++ jline cd x)) w5 := .inr (by rw [Lib.byteCells_append]; have h9 := hat; rw [Lib.strCells_eq, txt_data] at h9; exact h9)
        have hbr5 : Below w.heap.size w w5 := hbr4.trans hb5
        clear HW hat hib4 hb5 hbr4 a1 a2 a3
        by_cases hlen : (out ++ jline cd x).length ≤ 16000
        · have HL := blen_any w.heap.size w.heap.size (out ++ jline cd x) _ rfl w5 hib5
          have hl1 : ¬ (16000 < ((out ++ jline cd x).length : Int)) := by omega
          generalize out ++ jline cd x = o2 at *
          go_wp2_with fail
          (with_reducible refine HL.mono ?_)
          rintro e w6 ⟨rfl, rfl⟩
          clear HL
          go_wp2
          go_roundw
          case rel => exact ⟨k + 1, cd, o2, by omega, by go_num, rfl, hcd, hlen, hN, hNK, hib5, hbr5⟩
          case measure => simp [intOf]; omega
        · have HL := blen_any w.heap.size w.heap.size (out ++ jline cd x) _ rfl w5 hib5
          have hl1 : (16000 : Int) < ((out ++ jline cd x).length : Int) := by omega
          have hb : Hid (jokB ls = false) := jok_long (k := k + 1) (by omega) (by rw [← hN.out]; show 16000 < (out ++ jline cd x).length; omega)
          generalize out ++ jline cd x = o2 at *
          clear hN hlen
          go_wp2_with fail
          (with_reducible refine HL.mono ?_)
          rintro e w6 ⟨rfl, rfl⟩
          clear HL
          go_wp2
          go_ret2
          rw [jout, hb.out]
          exact ⟨rfl, hbr5⟩
    · have hkn : k = ls.length := by omega
      have HF : Hid (out = (jst ls ls.length).2) := by
        show _ = _
        rw [← hkn, ← hJ.out]
      have hb : Hid (jokB ls = true) := jok_yes (fun j hj => hno.out j (by omega)) (by rw [← HF.out]; exact hol)
      have HS := Tryd.Builder_String_any w.heap.size w.heap.size out wr hib hbr.size
      clear hJ hr hno HM HT
      subst hkn
      go_wp2_with fail
      (with_reducible refine HS.mono ?_)
      rintro e w2 ⟨rfl, hb2⟩
      clear HS
      go_wp2
      go_ret2
      rw [jout, hb.out, if_pos rfl, ← HF.out]
      exact ⟨rfl, hbr.trans hb2⟩
end Go.Proofs.YtlcckgpidjneeaaDoor
