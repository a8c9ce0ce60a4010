/-
  Contracts: strings.Split at a mark of one byte, impl.linesOf.
-/
import Derived.Test.YtlcckgpidjneeaaDoorLines
import Derived.Test.YtlcckgpidjneeaaDoorShelfSplit
namespace Go.Proofs.YtlcckgpidjneeaaDoor
open Go.RowKit

theorem split_any (s : ByteArray) (c : UInt8) (w : World) (hsh : w.ShapedOpen Tryd.prog) (hn : s.size ≤ 1048576) :
    Calls Tryd.prog 53 #[.string s, .string ⟨#[c]⟩] w fun e w' => ∃ A, e = .returned (.slice A (parts c s.data.toList).length (parts c s.data.toList).length) ∧ Own w' w.heap.size w'.heap.size 9 A (strs (parts c s.data.toList)) ∧ Below w.heap.size w w' := by
  refine (Tryd.strings_Split_shaped s ⟨#[c]⟩ w hsh (by omega) (by show 1 ≤ 1; omega)).mono ?_
  rintro e w' ⟨rfl, rfl⟩
  have h1 : Lib.countB s ⟨#[c]⟩ + 1 = (parts c s.data.toList).length := countB_parts c s
  have h2 : (Lib.splitB ⟨#[c]⟩ 0 (Lib.countB s ⟨#[c]⟩) s).map Value.string = strs (parts c s.data.toList) := by
    rw [show (⟨#[c]⟩ : ByteArray) = txt [c] from rfl, splitB_parts, List.map_map]
    rfl
  refine ⟨some ⟨w.heap.size, 0, none⟩, by rw [h1], .inr ⟨w.heap.size, (strs (parts c s.data.toList)).toArray, rfl, Nat.le_refl _, by simp, ?_, by simp, by rw [List.take_of_length_le (by simp)]⟩, (Below.refl _ _).alloc (Nat.le_refl _) _⟩
  rw [h2]
  exact heap_alloc_new w _

theorem isEmpty_txt (r : List UInt8) : (txt r).toList.isEmpty = decide (r = []) := by
  rw [Lib.toList_data, txt_data]
  cases r <;> simp

theorem linesOf_any (s : ByteArray) (w : World) (hsh : w.ShapedOpen Tryd.prog) (hn : s.size ≤ 1048576) (b : Bool) (hb : (decide (rest s.data.toList = []) && decide (s.size ≤ 16000)) = b) :
    Calls Tryd.prog 29 #[.string s] w fun e w' => ∃ A c', e = .returned (.tuple #[.slice A (lns s.data.toList).length c', .bool b]) ∧ Own w' w.heap.size w'.heap.size 9 A (strs (lns s.data.toList)) ∧ Below w.heap.size w w' := by
  have H := split_any s 10 w hsh hn
  have h1 := lns_len s.data.toList
  have h3 := lns_le s.data.toList
  have h2 := getElem_txt s
  have hr := rest_at s.data.toList
  have hps := parts_split s.data.toList
  clear hsh
  generalize s.data.toList = l at *
  generalize hp : parts 10 l = ps at *
  generalize lns l = ls at *
  generalize rest l = r at *
  have hlt : ls.length < ps.length := by omega
  have hle : ls.length ≤ ps.length := by omega
  have hps1 : ps.length ≤ 1048577 := by omega
  have e1 : IntKind.i64.wrap ((ps.length : Int) - 1) = (ls.length : Int) := by rw [IntWalk.i64_in _ (by omega)]; omega
  have e2 : ((ps.length : Int) - 1) = (ls.length : Int) := by omega
  have H1 := Lib.hid h1
  have E1 := Lib.hid e1
  have E2 := Lib.hid e2
  have HPS := Lib.hid hps
  have HB := Lib.hid hb
  clear h1 e1 h2 h3 hps hb e2
  by_cases hre : r = []
  · have HE := Lib.hid (show (txt r).toList.isEmpty = true by rw [isEmpty_txt]; simpa using hre)
    by_cases hs : s.size ≤ 16000
    · have hs1 : decide ((s.size : Int) ≤ 16000) = true := by simp; omega
      have HR := Lib.hid hre
      clear hre
      go_enter Tryd.func29, Tryd.ntmps29
      go_wp2_with fail
      refine H.mono ?_
      rintro e w1 ⟨A, rfl, hO, hb⟩
      obtain ⟨ad, rfl, hab, hcell⟩ := str_at (k := ls.length) (n := ps.length) (hO.reads' (Nat.le_refl _) (by simp)) hlt
      rw [hr] at hcell
      clear hp hr H
      have e1 := E1.out
      have e2 := E2.out
      have he := HE.out
      clear E1 E2 HE
      go_wp2
      go_quiet (fail)
      go_wp2
      go_ret2
      refine ⟨some ad, ps.length, by rw [← HB.out]; simp [HR.out, hs], ?_, below_drewN hb _⟩
      rw [HPS.out, strs_append] at hO
      exact hO.pre
    · have hs1 : decide ((s.size : Int) ≤ 16000) = false := by simp; omega
      clear hre
      go_enter Tryd.func29, Tryd.ntmps29
      go_wp2_with fail
      refine H.mono ?_
      rintro e w1 ⟨A, rfl, hO, hb⟩
      obtain ⟨ad, rfl, hab, hcell⟩ := str_at (k := ls.length) (n := ps.length) (hO.reads' (Nat.le_refl _) (by simp)) hlt
      rw [hr] at hcell
      clear hp hr H
      have e1 := E1.out
      have e2 := E2.out
      have he := HE.out
      clear E1 E2 HE
      go_wp2
      go_quiet (fail)
      go_wp2
      go_ret2
      refine ⟨some ad, ps.length, by rw [← HB.out]; simp [hs], ?_, below_drewN hb _⟩
      rw [HPS.out, strs_append] at hO
      exact hO.pre
  · have HE := Lib.hid (show (txt r).toList.isEmpty = false by rw [isEmpty_txt]; simpa using hre)
    have HR := Lib.hid hre
    clear hre
    go_enter Tryd.func29, Tryd.ntmps29
    go_wp2_with fail
    refine H.mono ?_
    rintro e w1 ⟨A, rfl, hO, hb⟩
    obtain ⟨ad, rfl, hab, hcell⟩ := str_at (k := ls.length) (n := ps.length) (hO.reads' (Nat.le_refl _) (by simp)) hlt
    rw [hr] at hcell
    clear hp hr H
    have e1 := E1.out
    have e2 := E2.out
    have he := HE.out
    clear E1 E2 HE
    go_wp2
    go_quiet (fail)
    go_wp2
    go_ret2
    refine ⟨some ad, ps.length, by rw [← HB.out]; simp [HR.out], ?_, below_drewN hb _⟩
    rw [HPS.out, strs_append] at hO
    exact hO.pre
end Go.Proofs.YtlcckgpidjneeaaDoor
