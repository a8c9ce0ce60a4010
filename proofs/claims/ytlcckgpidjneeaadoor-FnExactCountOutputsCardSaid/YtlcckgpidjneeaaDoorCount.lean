/-
  Contracts: CountOutputs, the reference's and the program's.
-/
import Derived.Test.YtlcckgpidjneeaaDoorLinesOf
namespace Go.Proofs.YtlcckgpidjneeaaDoor
open Go.RowKit

def isBad (l : List UInt8) : Bool := decide (l = [110, 111]) || decide (l = [119, 104, 97, 116])
/-- How many of the first k lines say no or what. -/
def bads (ls : List (List UInt8)) : Nat → Nat
  | 0 => 0
  | k + 1 => bads ls k + if isBad (ls.getD k []) then 1 else 0
theorem bads_le (ls : List (List UInt8)) : ∀ k, bads ls k ≤ k
  | 0 => Nat.le_refl _
  | k + 1 => by have := bads_le ls k; unfold bads; split <;> omega

theorem txt_toList (y : List UInt8) : (txt y).toList = y := by rw [Lib.toList_data, txt_data]
theorem isBad_one {y : List UInt8} (h : y = [110, 111]) : isBad y = true := by subst h; rfl
theorem isBad_two {y : List UInt8} (h : y = [119, 104, 97, 116]) : isBad y = true := by subst h; rfl
theorem isBad_no {y : List UInt8} (h : ¬ y = [110, 111]) (h' : ¬ y = [119, 104, 97, 116]) : isBad y = false := by simp [isBad, h, h']
theorem bads_yes {ls : List (List UInt8)} {k : Nat} (h : isBad (ls.getD k []) = true) : bads ls (k + 1) = bads ls k + 1 := by rw [bads, if_pos h]
theorem bads_no {ls : List (List UInt8)} {k : Nat} (h : isBad (ls.getD k []) = false) : bads ls (k + 1) = bads ls k := by rw [bads, h]; rfl
theorem eq_txt {y z : List UInt8} (h : y = z) : ((txt y).toList == z) = true := by rw [txt_toList]; simpa using h
theorem ne_txt {y z : List UInt8} (h : ¬ y = z) : ((txt y).toList == z) = false := by rw [txt_toList]; simpa using h
theorem neq_txt {y z : List UInt8} (h : ¬ y = z) : ¬ (txt y).toList = z := by rw [txt_toList]; exact h
theorem eqq_txt {y z : List UInt8} (h : y = z) : (txt y).toList = z := by rw [txt_toList]; exact h

theorem countS_loop (s : ByteArray) (w : World) (hn : s.size ≤ 16000) (hre : rest s.data.toList = []) :
    Calls Tryd.prog 8 #[.string s] w fun e w' => e = .returned (.tuple #[.int .i64 (bads (lns s.data.toList) (lns s.data.toList).length : Nat), .int .i64 (((lns s.data.toList).length : Int) - (bads (lns s.data.toList) (lns s.data.toList).length : Nat)), .bool true]) ∧ Below w.heap.size w w' := by
  have H := l08Lines_any s w (by omega)
  have h3 := lns_le s.data.toList
  have h2 := getElem_txt s
  have hlen : (lns s.data.toList).length ≤ 16000 := by omega
  have HE := Lib.hid (show (txt (rest s.data.toList)).toList.isEmpty = true by rw [isEmpty_txt]; simpa using hre)
  clear hre h2 h3
  generalize s.data.toList = l at *
  generalize rest l = r at *
  generalize lns l = ls at *
  go_enter Tryd.func8, Tryd.ntmps8
  go_wp2_with fail
  refine H.mono ?_
  rintro e w1 ⟨A, c1, rfl, hO, hb⟩
  have hr := hO.reads' (Nat.le_refl _) (n := ls.length) (by simp)
  have he := HE.out
  clear H HE
  go_wp2
  go_loopw [7, 8] (fun b i wr => ∃ k : Nat, k ≤ ls.length ∧ i = .int .i64 k ∧ b = .int .i64 (bads ls k : Nat) ∧ wr = w1) (fun _ i _ => ls.length - (intOf i).toNat)
  case atStart => exact ⟨0, Nat.zero_le _, rfl, rfl, rfl⟩
  case round =>
    obtain ⟨k, hk, rfl, rfl, rfl⟩ := hrel
    have hbd := bads_le ls k
    by_cases hlt : k < ls.length
    · obtain ⟨ad, rfl, hab, hcell⟩ := str_at hr hlt
      clear hr
      by_cases h1 : ls.getD k [] = [110, 111]
      · have HS := Lib.hid (bads_yes (isBad_one h1))
        have hx := eqq_txt h1
        clear h1
        generalize ls.getD k [] = y at *
        go_wp2
        go_roundw
        case rel => exact ⟨k + 1, by omega, by go_num, by rw [HS.out]; go_num, trivial⟩
        case measure => simp [intOf]; omega
      · by_cases h2 : ls.getD k [] = [119, 104, 97, 116]
        · have HS := Lib.hid (bads_yes (isBad_two h2))
          have hx := neq_txt h1
          have hx1 := ne_txt h1
          have hx2 := eq_txt h2
          clear h1 h2
          generalize ls.getD k [] = y at *
          go_wp2
          go_roundw
          case rel => exact ⟨k + 1, by omega, by go_num, by rw [HS.out]; go_num, trivial⟩
          case measure => simp [intOf]; omega
        · have HS := Lib.hid (bads_no (isBad_no h1 h2))
          have hx := neq_txt h1
          have hx1 := ne_txt h1
          have hx2 := ne_txt h2
          clear h1 h2
          generalize ls.getD k [] = y at *
          go_wp2
          go_roundw
          case rel => exact ⟨k + 1, by omega, by go_num, by rw [HS.out], trivial⟩
          case measure => simp [intOf]; omega
    · have hkn : k = ls.length := by omega
      subst hkn
      clear hr
      go_wp2
      go_ret3
      exact ⟨rfl, hb⟩
theorem countI_loop (s : ByteArray) (w : World) (hsh : w.ShapedOpen Tryd.prog) (hn : s.size ≤ 16000) (hre : rest s.data.toList = []) :
    Calls Tryd.prog 9 #[.string s] w fun e w' => e = .returned (.tuple #[.int .i64 (bads (lns s.data.toList) (lns s.data.toList).length : Nat), .int .i64 (((lns s.data.toList).length : Int) - (bads (lns s.data.toList) (lns s.data.toList).length : Nat)), .bool true]) ∧ Below w.heap.size w w' := by
  have H := linesOf_any s w hsh (by omega) true (by simp [hre, hn])
  have h3 := lns_le s.data.toList
  have h2 := getElem_txt s
  have hlen : (lns s.data.toList).length ≤ 16000 := by omega
  clear hre h2 h3 hsh
  generalize s.data.toList = l at *
  generalize lns l = ls at *
  go_enter Tryd.func9, Tryd.ntmps9
  go_wp2_with fail
  refine H.mono ?_
  rintro e w1 ⟨A, c1, rfl, hO, hb⟩
  have hr := hO.reads' (Nat.le_refl _) (n := ls.length) (by simp)
  clear H
  go_wp2
  go_loopw [7, 19] (fun b i wr => ∃ k : Nat, k ≤ ls.length ∧ i = .int .i64 k ∧ b = .int .i64 (bads ls k : Nat) ∧ wr = w1) (fun _ i _ => ls.length - (intOf i).toNat)
  case atStart => exact ⟨0, Nat.zero_le _, rfl, rfl, rfl⟩
  case round =>
    obtain ⟨k, hk, rfl, rfl, rfl⟩ := hrel
    have hbd := bads_le ls k
    by_cases hlt : k < ls.length
    · obtain ⟨ad, rfl, hab, hcell⟩ := str_at hr hlt
      clear hr
      by_cases h1 : ls.getD k [] = [110, 111]
      · have HS := Lib.hid (bads_yes (isBad_one h1))
        have hx := eqq_txt h1
        clear h1
        generalize ls.getD k [] = y at *
        go_wp2
        go_roundw
        case rel => exact ⟨k + 1, by omega, by go_num, by rw [HS.out]; go_num, trivial⟩
        case measure => simp [intOf]; omega
      · by_cases h2 : ls.getD k [] = [119, 104, 97, 116]
        · have HS := Lib.hid (bads_yes (isBad_two h2))
          have hx := neq_txt h1
          have hx1 := ne_txt h1
          have hx2 := eq_txt h2
          clear h1 h2
          generalize ls.getD k [] = y at *
          go_wp2
          go_roundw
          case rel => exact ⟨k + 1, by omega, by go_num, by rw [HS.out]; go_num, trivial⟩
          case measure => simp [intOf]; omega
        · have HS := Lib.hid (bads_no (isBad_no h1 h2))
          have hx := neq_txt h1
          have hx1 := ne_txt h1
          have hx2 := ne_txt h2
          clear h1 h2
          generalize ls.getD k [] = y at *
          go_wp2
          go_roundw
          case rel => exact ⟨k + 1, by omega, by go_num, by rw [HS.out], trivial⟩
          case measure => simp [intOf]; omega
    · have hkn : k = ls.length := by omega
      subst hkn
      clear hr
      go_wp2
      go_ret3
      exact ⟨rfl, hb⟩
/-- Whether a text has outputs that can be counted. -/
def cntB (s : ByteArray) : Bool := decide (rest s.data.toList = []) && decide (s.size ≤ 16000)
def cntV (s : ByteArray) : Value := if cntB s then .tuple #[.int .i64 (bads (lns s.data.toList) (lns s.data.toList).length : Nat), .int .i64 (((lns s.data.toList).length : Int) - (bads (lns s.data.toList) (lns s.data.toList).length : Nat)), .bool true] else .tuple #[.int .i64 0, .int .i64 0, .bool false]

theorem countS_any (s : ByteArray) (w : World) (hn : s.size ≤ 1048576) :
    Calls Tryd.prog 8 #[.string s] w fun e w' => e = .returned (cntV s) ∧ Below w.heap.size w w' := by
  by_cases hs : s.size ≤ 16000
  · by_cases hr : rest s.data.toList = []
    · have e : cntV s = .tuple #[.int .i64 (bads (lns s.data.toList) (lns s.data.toList).length : Nat), .int .i64 (((lns s.data.toList).length : Int) - (bads (lns s.data.toList) (lns s.data.toList).length : Nat)), .bool true] := by
        unfold cntV cntB; simp [hr, hs]
      rw [e]
      exact countS_loop s w hs hr
    · have e : cntV s = .tuple #[.int .i64 0, .int .i64 0, .bool false] := by
        unfold cntV cntB; simp [hr]
      rw [e]
      have H := l08Lines_any s w hn
      have HE := Lib.hid (show (txt (rest s.data.toList)).toList.isEmpty = false by rw [isEmpty_txt]; simpa using hr)
      clear e hr
      generalize s.data.toList = l at *
      generalize rest l = r at *
      generalize lns l = ls at *
      go_enter Tryd.func8, Tryd.ntmps8
      go_wp2_with fail
      refine H.mono ?_
      rintro e w1 ⟨A, c1, rfl, hO, hb⟩
      have he := HE.out
      clear H HE
      go_wp2
      go_ret3
      exact ⟨rfl, hb⟩
  · have e : cntV s = .tuple #[.int .i64 0, .int .i64 0, .bool false] := by
      unfold cntV cntB; simp [hs]
    rw [e]
    clear e
    go_enter Tryd.func8, Tryd.ntmps8
    go_wp2
    go_ret3
    exact ⟨rfl, Below.refl _ _⟩

theorem countI_any (s : ByteArray) (w : World) (hsh : w.ShapedOpen Tryd.prog) (hn : s.size ≤ 1048576) :
    Calls Tryd.prog 9 #[.string s] w fun e w' => e = .returned (cntV s) ∧ Below w.heap.size w w' := by
  cases hb : cntB s with
  | true =>
    have hb' := hb
    unfold cntB at hb'
    simp only [Bool.and_eq_true, decide_eq_true_eq] at hb'
    have e : cntV s = .tuple #[.int .i64 (bads (lns s.data.toList) (lns s.data.toList).length : Nat), .int .i64 (((lns s.data.toList).length : Int) - (bads (lns s.data.toList) (lns s.data.toList).length : Nat)), .bool true] := by
      unfold cntV; rw [hb]; rfl
    rw [e]
    exact countI_loop s w hsh hb'.2 hb'.1
  | false =>
    have e : cntV s = .tuple #[.int .i64 0, .int .i64 0, .bool false] := by
      unfold cntV; rw [hb]; rfl
    rw [e]
    have H := linesOf_any s w hsh hn false hb
    clear e hb hsh
    generalize s.data.toList = l at *
    generalize lns l = ls at *
    go_enter Tryd.func9, Tryd.ntmps9
    go_wp2_with fail
    refine H.mono ?_
    rintro e w1 ⟨A, c1, rfl, hO, hb⟩
    clear H
    go_wp2
    go_ret3
    exact ⟨rfl, hb⟩
end Go.Proofs.YtlcckgpidjneeaaDoor
