/-
  Contracts: impl.IsName, impl.ValidWhole, impl.ValidSaved: what is saved is valid.
-/
import Derived.Test.YtgfmnolmokpgnaaDoorOkS
import Derived.Test.YtgfmnolmokpgnaaDoorShelfS
namespace Go.Proofs.YtgfmnolmokpgnaaDoor
open Go.RowKit

def letters : List UInt8 := [97, 98, 99, 100, 101, 102, 103, 104, 105, 106, 107, 108, 109, 110, 111, 112, 113, 114, 115, 116, 117, 118, 119, 120, 121, 122]
theorem letters_low (c : UInt8) : letters.contains c = lowB c := by
  have h : ∀ n ∈ List.range 256, letters.contains (UInt8.ofNat n) = lowB (UInt8.ofNat n) := by decide +kernel
  have := h c.toNat (List.mem_range.2 c.toNat_lt)
  rwa [UInt8.ofNat_toNat] at this
theorem drop_all {p : UInt8 → Bool} : ∀ {l : List UInt8}, (∀ x ∈ l, p x = true) → l.dropWhile p = []
  | [], _ => rfl
  | a :: l, h => by
    rw [List.dropWhile_cons, if_pos (h a (by simp))]
    exact drop_all fun x hx => h x (by simp [hx])
theorem trim_nil (l : List UInt8) : (Lib.trimS l letters).isEmpty = l.all lowB := by
  have hf : (fun b => letters.contains b) = lowB := funext letters_low
  unfold Lib.trimS Lib.trimLeftS Lib.trimRightS
  rw [hf]
  cases h : l.all lowB with
  | true =>
    have h1 : l.reverse.dropWhile lowB = [] := by
      exact drop_all fun x hx => List.all_eq_true.1 h x (List.mem_reverse.1 hx)
    rw [h1]; rfl
  | false =>
    rw [List.all_eq_false] at h
    obtain ⟨x, hx, hl⟩ := h
    have hl2 : lowB x = false := by simpa using hl
    have hne : ∀ m : List UInt8, x ∈ m → x ∈ m.dropWhile lowB := fun m => by
      induction m with
      | nil => intro h; cases h
      | cons y m ih =>
        intro h
        rw [List.dropWhile_cons]
        split
        · rename_i hy
          rcases List.mem_cons.1 h with rfl | h
          · rw [hl2] at hy; cases hy
          · exact ih h
        · exact h
    have h2 := hne _ (List.mem_reverse.2 (hne _ (List.mem_reverse.2 hx)))
    cases hd : ((l.reverse.dropWhile lowB).reverse).dropWhile lowB with
    | nil => rw [hd] at h2; cases h2
    | cons a b => rfl

set_option maxRecDepth 100000 in
theorem isName_any (s : ByteArray) (w : World) (hs : s.size ≤ 1048576) :
    Calls Tryd.prog 20 #[.string s] w fun e w' => e = .returned (.bool (nameB s.data.toList)) ∧ Below w.heap.size w w' := by
  have HT := fun W => Any.strings_Trim_laid Tryd.lays160 (by kernel_rfl) s ⟨#[97, 98, 99, 100, 101, 102, 103, 104, 105, 106, 107, 108, 109, 110, 111, 112, 113, 114, 115, 116, 117, 118, 119, 120, 121, 122]⟩ W (by omega) (by decide) (ascii_of_all (by decide))
  have hTr : (Lib.trimS s.data.toList letters).isEmpty = s.data.toList.all lowB := trim_nil _
  have HV : Hid (nameB s.data.toList = (decide (1 ≤ s.size) && decide (s.size ≤ 8) && s.data.toList.all lowB)) := by
    show _ = _
    rw [nameB, ← Lib.size_eq]
  have HT' : ∀ W, Calls Tryd.prog 40 #[.string s, .string ⟨#[97, 98, 99, 100, 101, 102, 103, 104, 105, 106, 107, 108, 109, 110, 111, 112, 113, 114, 115, 116, 117, 118, 119, 120, 121, 122]⟩] W fun e w' => e = .returned (.string ⟨(Lib.trimS s.data.toList letters).toArray⟩) ∧ Below W.heap.size W w' := HT
  clear HT
  have hX : (⟨(Lib.trimS s.data.toList letters).toArray⟩ : ByteArray).toList.isEmpty = s.data.toList.all lowB := by
    rw [Lib.toList_data]
    simpa using hTr
  clear hTr
  generalize (⟨(Lib.trimS s.data.toList letters).toArray⟩ : ByteArray) = X at *
  generalize s.data.toList.all lowB = ok at *
  by_cases h1 : 1 ≤ s.size
  · by_cases h2 : s.size ≤ 8
    · have t1 : decide ((1 : Int) ≤ (s.size : Int)) = true := by simp; omega
      have t2 : decide ((s.size : Int) ≤ 8) = true := by simp; omega
      have HV2 : Hid (nameB s.data.toList = ok) := by show _ = _; rw [HV.out, decide_eq_true h1, decide_eq_true h2]; rfl
      clear h1 h2
      go_enter Tryd.func20, Tryd.ntmps20
      go_wp2_with fail
      (with_reducible refine (HT' _).mono ?_)
      rintro e w1 ⟨rfl, hb⟩
      go_wp2
      go_ret
      exact ⟨by rw [HV2.out]; rfl, hb⟩
    · have t1 : decide ((1 : Int) ≤ (s.size : Int)) = true := by simp; omega
      have t2 : decide ((s.size : Int) ≤ 8) = false := by simp; omega
      have HV2 : Hid (nameB s.data.toList = false) := by show _ = _; rw [HV.out, decide_eq_false h2]; simp
      clear h1 h2
      go_enter Tryd.func20, Tryd.ntmps20
      go_wp2
      go_ret
      exact ⟨by rw [HV2.out]; rfl, Below.refl _ _⟩
  · have t1 : decide ((1 : Int) ≤ (s.size : Int)) = false := by simp; omega
    have HV2 : Hid (nameB s.data.toList = false) := by show _ = _; rw [HV.out, decide_eq_false h1]; simp
    clear h1
    go_enter Tryd.func20, Tryd.ntmps20
    go_wp2
    go_ret
    exact ⟨by rw [HV2.out]; rfl, Below.refl _ _⟩
theorem within_any (n : Int) (w : World) :
    Calls Tryd.prog 44 #[.int .i64 n, .int .i64 (-1000000), .int .i64 1000000] w fun e w' => e = .returned (.bool (termB n)) ∧ w = w' := by
  unfold termB
  by_cases h1 : -1000000 ≤ n
  · have h1' : decide (-1000000 ≤ n) = true := by simp [h1]
    go_enter Tryd.func44, Tryd.ntmps44
    go_wp2
    go_ret
    exact ⟨by simp [h1], rfl⟩
  · have h1' : decide (-1000000 ≤ n) = false := by simp; omega
    go_enter Tryd.func44, Tryd.ntmps44
    go_wp2
    go_ret
    exact ⟨by simp, rfl⟩
theorem validWhole1_any (n : Int) (w : World) :
    Calls Tryd.prog 43 #[.int .i64 n] w fun e w' => e = .returned (.bool (!termB n)) ∧ w = w' := by
  have H := fun W => within_any n W
  generalize termB n = b at *
  go_enter Tryd.func43, Tryd.ntmps43
  go_wp2_with fail
  (with_reducible refine (H _).mono ?_)
  rintro e w1 ⟨rfl, rfl⟩
  go_wp2
  go_ret
  exact ⟨rfl, rfl⟩
/-- The place of the first term of a list, from a place on, that is out of bounds; -1 if there is none. -/
def ixW : Nat → List Int → Int
  | _, [] => -1
  | k, z :: l => if termB z then ixW (k + 1) l else (k : Int)
theorem ixW_step {l : List Int} {k : Nat} (h : k < l.length) : ixW k (l.drop k) = if termB (l.getD k 0) then ixW (k + 1) (l.drop (k + 1)) else (k : Int) := by
  rw [List.drop_eq_getElem_cons h, ixW, List.getD, List.getElem?_eq_getElem h]
  rfl
theorem ixW_all (k : Nat) (l : List Int) : decide (0 ≤ ixW k l) = !l.all termB := by
  induction l generalizing k with
  | nil => rfl
  | cons z l ih =>
    rw [ixW, List.all_cons]
    cases termB z with
    | true => simpa using ih (k + 1)
    | false => simp
theorem indexFuncW_q (A : Option Addr) (c B : Nat) (l : List Int) (w : World) (hr : Reads w B 1 A l.length (ints l)) (hB : B ≤ w.heap.size) (hn : l.length ≤ 1048576) :
    Calls Tryd.prog 64 #[.slice A l.length c, .func (.func 43) #[] #[]] w fun e w' => e = .returned (.int .i64 (ixW 0 l)) ∧ Qt w w' := by
  have HI : Hid (∃ r, r = ixW 0 l) := ⟨_, rfl⟩
  obtain ⟨r, hr0⟩ := HI.out
  rw [← hr0]
  have HR := Lib.hid hr0
  clear HI hr0
  go_enter Tryd.func64, Tryd.ntmps64
  go_wp2
  go_loopw [8] (fun i wr => ∃ k : Nat, k ≤ l.length ∧ i = .int .i64 k ∧ Hid (r = ixW k (l.drop k)) ∧ Qt w wr) (fun i _ => l.length - (intOf i).toNat)
  case atStart => exact ⟨0, Nat.zero_le _, rfl, HR, Qt.refl _⟩
  case round =>
    obtain ⟨k, hk, rfl, hR, hbr⟩ := hrel
    by_cases hlt : k < l.length
    · obtain ⟨wo, rfl⟩ : ∃ wo : World, wo = wr := ⟨_, rfl⟩
      obtain ⟨ad, rfl, hab, hc1⟩ := int_at (hr.below (hbr.below.mono hB)) hlt
      have hS := hR.out
      rw [ixW_step hlt] at hS
      clear hr hR
      generalize l.getD k 0 = x at *
      have H := validWhole1_any x wo
      cases hf : termB x with
      | true =>
        rw [hf, if_pos rfl] at hS
        rw [hf] at H
        have hS := Lib.hid hS
        clear hf
        go_wp2_with fail
        refine H.mono ?_
        rintro e w1 ⟨rfl, rfl⟩
        go_wp2
        go_roundw
        case rel => exact ⟨k + 1, by omega, by go_num, hS, hbr⟩
        case measure => simp [intOf]; omega
      | false =>
        rw [hf, if_neg (by simp)] at hS
        rw [hf] at H
        have hS := Lib.hid hS
        clear hf
        go_wp2_with fail
        refine H.mono ?_
        rintro e w1 ⟨rfl, rfl⟩
        go_wp2
        go_ret
        exact ⟨by rw [hS.out]; rfl, hbr⟩
    · have hkn : k = l.length := by omega
      subst hkn
      have hS : Hid (r = -1) := by
        show _ = _
        rw [hR.out, List.drop_eq_nil_of_le (Nat.le_refl _)]; rfl
      clear hR
      go_wp2
      go_ret
      exact ⟨by rw [hS.out]; rfl, hbr⟩
theorem containsFuncW_q (A : Option Addr) (c B : Nat) (l : List Int) (w : World) (hr : Reads w B 1 A l.length (ints l)) (hB : B ≤ w.heap.size) (hn : l.length ≤ 1048576) :
    Calls Tryd.prog 42 #[.slice A l.length c, .func (.func 43) #[] #[]] w fun e w' => e = .returned (.bool (!l.all termB)) ∧ Qt w w' := by
  have H := indexFuncW_q A c B l w hr hB hn
  have hD := ixW_all 0 l
  clear hr
  generalize ixW 0 l = r at *
  generalize l.all termB = b at *
  go_enter Tryd.func42, Tryd.ntmps42
  go_wp2_with fail
  refine H.mono ?_
  rintro e w1 ⟨rfl, hb⟩
  go_wp2
  go_ret
  exact ⟨rfl, hb⟩

set_option maxRecDepth 100000 in
set_option maxHeartbeats 400000 in
theorem validWhole_any (A : Option Addr) (c B : Nat) (l : List Int) (w : World) (hr : Reads w B 1 A l.length (ints l)) (hB : B ≤ w.heap.size) (hn : l.length ≤ 1048576) :
    Calls Tryd.prog 22 #[.agg #[.slice A l.length c]] w fun e w' => e = .returned (.bool (wholeB l)) ∧ Below w.heap.size w w' := by
  have hb0 : Below w.heap.size w (w.alloc (.cells #[.slice A l.length c] 34)) := (Below.refl _ _).alloc (Nat.le_refl _) _
  have HC := containsFuncW_q A c B l _ (hr.below (hb0.mono hB)) (Nat.le_trans hB hb0.size) hn
  by_cases h1 : 1 ≤ l.length
  · by_cases h2 : l.length ≤ 17
    · have h1' : decide ((l.length : Int) < 1) = false := by simp; omega
      have h2' : decide ((17 : Int) < (l.length : Int)) = false := by simp; omega
      have HV : Hid (wholeB l = (l.all termB && (decide (l.length = 1) || !(l.getD (l.length - 1) 0 == 0)))) := by
        show _ = _
        rw [wholeB, decide_eq_true h1, decide_eq_true h2]; rfl
      by_cases hone : l.length = 1
      · have h3' : decide ((1 : Int) < (l.length : Int)) = false := by simp; omega
        have HV2 : Hid (wholeB l = l.all termB) := by show _ = _; rw [HV.out, decide_eq_true hone]; simp
        clear hone hr
        generalize l.all termB = ok at *
        go_enter Tryd.func22, Tryd.ntmps22
        go_wp2_with fail
        (with_reducible refine HC.mono ?_)
        rintro e w1 ⟨rfl, hb⟩
        go_wp2
        go_ret
        exact ⟨by rw [HV2.out]; simp, hb0.trans (hb.below.mono hb0.size)⟩
      · have h3' : decide ((1 : Int) < (l.length : Int)) = true := by simp; omega
        obtain ⟨ad, rfl, hab, hcell⟩ := int_at (k := l.length - 1) (hr.below (hb0.mono hB)) (by omega)
        have hi2 : ((l.length : Int) - 1).toNat = l.length - 1 := by omega
        have hi3 : (0 : Int) ≤ (l.length : Int) - 1 := by omega
        have hi4 : (l.length : Int) - 1 < (l.length : Int) := by omega
        have HV2 : Hid (wholeB l = (l.all termB && !(l.getD (l.length - 1) 0 == 0))) := by show _ = _; rw [HV.out, decide_eq_false hone]; simp
        clear hone hr
        generalize l.getD (l.length - 1) 0 = x at *
        generalize l.all termB = ok at *
        by_cases hx : x = 0
        · have hx' : (x == (0 : Int)) = true := by simp [hx]
          have HX := Lib.hid hx
          clear hx HC
          go_enter Tryd.func22, Tryd.ntmps22
          go_wp2
          go_ret
          exact ⟨by rw [HV2.out, HX.out]; simp, hb0⟩
        · have hx' : (x == (0 : Int)) = false := by simp [hx]
          have HX : Hid ((x == (0 : Int)) = false) := hx'
          clear hx
          go_enter Tryd.func22, Tryd.ntmps22
          go_wp2_with fail
          (with_reducible refine HC.mono ?_)
          rintro e w1 ⟨rfl, hb⟩
          go_wp2
          go_ret
          exact ⟨by rw [HV2.out, HX.out]; simp, hb0.trans (hb.below.mono hb0.size)⟩
    · have h1' : decide ((l.length : Int) < 1) = false := by simp; omega
      have h2' : decide ((17 : Int) < (l.length : Int)) = true := by simp; omega
      clear HC hr
      go_enter Tryd.func22, Tryd.ntmps22
      go_wp2
      go_ret
      exact ⟨by rw [wholeB, decide_eq_false h2]; simp, hb0⟩
  · have h1' : decide ((l.length : Int) < 1) = true := by simp; omega
    clear HC hr
    go_enter Tryd.func22, Tryd.ntmps22
    go_wp2
    go_ret
    exact ⟨by rw [wholeB, decide_eq_false h1]; simp, hb0⟩
end Go.Proofs.YtgfmnolmokpgnaaDoor
