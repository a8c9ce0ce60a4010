/-
  Contracts: spec.l08Journal, spec.JournalOf: the journal of lines.
-/
import Derived.Test.YtlcckgpidjneeaaDoorJouP
import Derived.Test.YtlcckgpidjneeaaDoorRecS
namespace Go.Proofs.YtlcckgpidjneeaaDoor
open Go.RowKit

theorem cat_add (a b : List UInt8) : txt a ++ txt b = txt (a ++ b) := by
  rw [← txt_of (txt a ++ txt b)]; simp

set_option maxRecDepth 100000 in
set_option maxHeartbeats 800000 in
theorem l08Journal_any (A : Option Addr) (c B : Nat) (ls : List (List UInt8)) (w : World) (hr : Reads w B 1 A ls.length (strs ls)) (hB : B ≤ w.heap.size) (hn : ls.length ≤ 1048576) (hsum : jsum ls ls.length ≤ 16000) :
    Calls Tryd.prog 37 #[.slice A ls.length c] w fun e w' => e = .returned (.string (txt (jst ls ls.length).2)) ∧ Below w.heap.size w w' := by
  go_enter Tryd.func37, Tryd.ntmps37
  go_wp2
  go_loopw [3, 4, 5] (fun o n i wr => ∃ k cc : Nat, ∃ out, k ≤ ls.length ∧ i = .int .i64 k ∧ n = .int .i64 (cc : Int) ∧ o = .string (txt out) ∧ cc < 65003 ∧ Hid ((cc, out) = jst ls k) ∧ Below w.heap.size w wr) (fun _ _ i _ => ls.length - (intOf i).toNat)
  case atStart => exact ⟨0, 0, [], Nat.zero_le _, rfl, rfl, rfl, by omega, rfl, Below.refl _ _⟩
  case round =>
    obtain ⟨k, cc, out, hk, rfl, rfl, rfl, hcc, hJ, hbr⟩ := hrel
    by_cases hlt : k < ls.length
    · obtain ⟨ad, rfl, hab, hcell⟩ := str_at ((hr.below (hbr.mono hB))) hlt
      have hcd := chk_lt hcc (ls.getD k [])
      have hN : Hid ((chk cc (ls.getD k []), out ++ jline (chk cc (ls.getD k [])) (ls.getD k [])) = jst ls (k + 1)) := by
        show _ = _
        rw [jst, ← hJ.out]
      have hxl : (txt (ls.getD k [])).size ≤ 16000 := by
        have := jsum_at ls hlt
        rw [txt_size]; omega
      have hol : (txt out).size ≤ 400000 := by
        have h1 := jst_up ls k
        have h2 := jsum_mono ls hk
        rw [← hJ.out] at h1
        simp only at h1
        rw [txt_size]; omega
      have hdl : (txt (Lib.decDigits (chk cc (ls.getD k [])))).size ≤ 21 := by rw [txt_size]; exact dec_le5 hcd
      have HC := fun W => l01Check_any cc (txt (ls.getD k [])) W hcc (by omega)
      rw [txt_data] at HC
      have HD := fun W => l01Dec_pos (chk cc (ls.getD k [])) W (by omega)
      clear hr hJ
      generalize hx : ls.getD k [] = x at *
      generalize chk cc x = cd at *
      clear hx
      have a1 : ¬ 9223372036854775807 < (txt (Lib.decDigits cd)).size + 1 := by omega
      have a2 : ¬ 9223372036854775807 < (txt (Lib.decDigits cd)).size + 1 + (txt x).size := by omega
      have a3 : ¬ 9223372036854775807 < (txt (Lib.decDigits cd)).size + 1 + (txt x).size + 1 := by omega
      have a4 : ¬ 9223372036854775807 < (txt out).size + ((txt (Lib.decDigits cd)).size + 1 + (txt x).size + 1) := by omega
      have hpb : (ad.add k).block < wr.heap.size := by rw [block_of_add]; have := hbr.size; omega
      go_wp2_with fail
      (with_reducible refine (HC _).mono ?_)
      rintro e w2 ⟨rfl, rfl⟩
      clear HC
      go_wp2_with fail
      go_region_held3 (fun w' => w'.cell? (ad.add k) = some (.string (txt x)) ∧ Below wr.heap.size wr w')
        (first | exact Stays.start hcell | exact Stays.call (by assumption) hpb (by assumption) | trace_state)
        (first | (go_at_call 55; refine (HD _).mono ?_; rintro e w' ⟨rfl, hb9⟩))
      rename_i hheld
      obtain ⟨-, hb10⟩ := hheld
      have HV : Hid (txt out ++ (txt (Lib.decDigits cd) ++ (⟨#[32]⟩ : ByteArray) ++ txt x ++ (⟨#[10]⟩ : ByteArray)) = txt (out ++ jline cd x)) := by
        show _ = _
        rw [show (⟨#[32]⟩ : ByteArray) = txt [32] from rfl, show (⟨#[10]⟩ : ByteArray) = txt [10] from rfl, cat_add, cat_add, cat_add, cat_add]
        simp [jline]
      clear hcell hb9 HD a1 a2 a3 a4
      go_wp2
      go_roundw
      case rel => exact ⟨k + 1, cd, _, by omega, by go_num, rfl, by rw [HV.out], hcd, hN, hbr.trans (hb10.mono hbr.size)⟩
      case measure => simp [intOf]; omega
    · have hkn : k = ls.length := by omega
      have HF : Hid (out = (jst ls ls.length).2) := by
        show _ = _
        rw [← hkn, ← hJ.out]
      clear hJ hr
      subst hkn
      go_wp2
      go_ret
      exact ⟨by rw [HF.out]; rfl, hbr⟩

set_option maxRecDepth 100000 in
set_option maxHeartbeats 800000 in
theorem journS_any (A : Option Addr) (c B : Nat) (ls : List (List UInt8)) (w : World) (hr : Reads w B 1 A ls.length (strs ls)) (hB : B ≤ w.heap.size) (hn : ls.length ≤ 1048576) (hx : ∀ x ∈ ls, x.length ≤ 1048576) :
    Calls Tryd.prog 16 #[.slice A ls.length c] w fun e w' => e = .returned (.tuple #[.string (txt (jout ls)), .bool (jokB ls)]) ∧ Below w.heap.size w w' := by
  have HM := Lib.hid hx
  have HJ := fun (h : jsum ls ls.length ≤ 16000) W (hW : Below w.heap.size w W) => l08Journal_any A c B ls W (hr.below (hW.mono hB)) (Nat.le_trans hB hW.size) hn h
  clear hx
  go_enter Tryd.func16, Tryd.ntmps16
  go_wp2
  go_loopw [4, 5, 6] (fun t i _ wr => ∃ k : Nat, k ≤ ls.length ∧ i = .int .i64 k ∧ t = .int .i64 (jsum ls k : Nat) ∧ jsum ls k ≤ 16000 ∧ Hid (∀ j, j < k → (10 : UInt8) ∉ ls.getD j []) ∧ wr = w) (fun _ i _ _ => ls.length - (intOf i).toNat)
  case atStart => exact ⟨0, Nat.zero_le _, rfl, rfl, by simp [jsum], fun j hj => by omega, rfl⟩
  case round =>
    obtain ⟨k, hk, rfl, rfl, hs, hno, rfl⟩ := hrel
    by_cases hlt : k < ls.length
    · obtain ⟨ad, rfl, hab, hcell⟩ := str_at hr hlt
      have hxl : (txt (ls.getD k [])).size ≤ 1048576 := by rw [txt_size]; exact HM.out _ (getD_mem hlt)
      have HX : Hid ((txt (ls.getD k [])).data.toList = ls.getD k []) := txt_data _
      have hJs : Hid (jsum ls (k + 1) = jsum ls k + ((txt (ls.getD k [])).size + 3)) := by
        show _ = _
        rw [txt_size, jsum]
      generalize txt (ls.getD k []) = X at *
      by_cases htot : jsum ls k + (X.size + 3) ≤ 16000
      · have ht1 : ¬ (16000 < (jsum ls k : Int) + ((X.size : Int) + 3)) := by omega
        clear HJ hr
        go_wp2
        go_loop [6] (fun j => ∃ q : Nat, q ≤ X.size ∧ j = .int .i64 q ∧ Hid (∀ i, i < q → X.data.toList[i]? ≠ some 10)) (fun j => X.size - (intOf j).toNat)
        case atStart => exact ⟨0, Nat.zero_le _, rfl, fun i hi => by omega⟩
        case round =>
          obtain ⟨q, hq, rfl, hno2⟩ := hrel
          by_cases hqx : q < X.size
          · by_cases h10 : X[q] = 10
            · have hin : (10 : UInt8) ∈ ls.getD k [] := by
                rw [← HX.out]
                exact List.mem_iff_getElem?.2 ⟨q, by rw [byte_at X q hqx, h10]⟩
              have hb : Hid (jokB ls = false) := jok_nl hlt hin
              have hb1 : ((X[q].toNat : Int) == 10) = true := by rw [h10]; rfl
              clear h10 hin
              go_wp2
              go_ret2
              rw [jout, hb.out]
              exact ⟨rfl, Below.refl _ _⟩
            · have hNO : Hid (∀ i, i < q + 1 → X.data.toList[i]? ≠ some 10) := fun i hi => by
                rcases Nat.lt_or_ge i q with h | h
                · exact hno2.out i h
                · have : i = q := by omega
                  subst this
                  rw [byte_at X i hqx]
                  simpa using h10
              have hb1 : ((X[q].toNat : Int) == 10) = false := by
                simp
                intro e
                exact h10 (UInt8.toNat_inj.1 (by show X[q].toNat = 10; omega))
              clear h10
              go_wp2
              go_round
              case rel => exact ⟨q + 1, by omega, by go_num, hNO⟩
              case measure => simp [intOf]; omega
          · have hNK : Hid (∀ j, j < k + 1 → (10 : UInt8) ∉ ls.getD j []) := fun j hj => by
              rcases Nat.lt_or_ge j k with h | h
              · exact hno.out j h
              · have : j = k := by omega
                subst this
                rw [← HX.out]
                intro hm
                obtain ⟨i, hi⟩ := List.mem_iff_getElem?.1 hm
                have hil := (List.getElem?_eq_some_iff.1 hi).1
                rw [← Lib.size_eq] at hil
                exact hno2.out i (by omega) hi
            go_wp2
            go_roundw
            case rel => exact ⟨k + 1, by omega, by go_num, by rw [hJs.out]; go_num, by rw [hJs.out]; omega, hNK, trivial⟩
            case measure => simp [intOf]; omega
      · have ht1 : (16000 : Int) < (jsum ls k : Int) + ((X.size : Int) + 3) := by omega
        have hb : Hid (jokB ls = false) := jok_long (k := k + 1) (by omega) (by have := jsum_le ls (k + 1); rw [hJs.out] at this; omega)
        clear HJ hr
        go_wp2
        go_ret2
        rw [jout, hb.out]
        exact ⟨rfl, Below.refl _ _⟩
    · have hkn : k = ls.length := by omega
      subst hkn
      have H := HJ hs _ (Below.refl _ _)
      have hsz : (txt (jst ls ls.length).2).size ≤ 400000 := by
        have h1 := jst_up ls ls.length
        rw [txt_size]; omega
      clear HJ hr
      by_cases hlo : (jst ls ls.length).2.length ≤ 16000
      · have hb : Hid (jokB ls = true) := jok_yes hno.out hlo
        have hl1 : ¬ (16000 < ((txt (jst ls ls.length).2).size : Int)) := by rw [txt_size]; omega
        have HV : Hid (jout ls = (jst ls ls.length).2) := by show _ = _; rw [jout, hb.out]; rfl
        clear hlo
        generalize (jst ls ls.length).2 = o at *
        go_wp2_with fail
        (with_reducible refine H.mono ?_)
        rintro e w2 ⟨rfl, hb2⟩
        clear H
        go_wp2
        go_ret2
        rw [HV.out, hb.out]
        exact ⟨rfl, hb2⟩
      · have hb : Hid (jokB ls = false) := jok_long (Nat.le_refl _) (by omega)
        have hl1 : (16000 : Int) < ((txt (jst ls ls.length).2).size : Int) := by rw [txt_size]; omega
        clear hlo
        generalize (jst ls ls.length).2 = o at *
        go_wp2_with fail
        (with_reducible refine H.mono ?_)
        rintro e w2 ⟨rfl, hb2⟩
        clear H
        go_wp2
        go_ret2
        rw [jout, hb.out]
        exact ⟨rfl, hb2⟩
end Go.Proofs.YtlcckgpidjneeaaDoor
