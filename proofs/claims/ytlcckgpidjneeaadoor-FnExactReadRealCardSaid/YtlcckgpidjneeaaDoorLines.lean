/-
  Contracts: spec.l08Lines, impl.linesOf: the lines of a text, and what is left behind them.
-/
import Derived.Test.YtlcckgpidjneeaaDoorStrs
import Derived.Deep.QuietTactic
import Derived.BigQuiet
import Derived.IntWalk
namespace Go.Proofs.YtlcckgpidjneeaaDoor
open Go.RowKit

/-- The lines of a text that end with a newline. -/
def lns (l : List UInt8) : List (List UInt8) := (parts 10 l).dropLast
/-- What is left behind the last newline. -/
def rest (l : List UInt8) : List UInt8 := (parts 10 l).getLastD []
theorem lns_len (l : List UInt8) : (lns l).length + 1 = (parts 10 l).length := by
  have := parts_pos 10 l
  simp [lns]; omega
theorem rest_at (l : List UInt8) : (parts 10 l).getD ((lns l).length) [] = rest l := by
  have h := parts_ne 10 l
  have := lns_len l
  unfold rest
  rw [List.getLastD_eq_getLast?, List.getLast?_eq_getElem?, List.getD, show (parts 10 l).length - 1 = (lns l).length by omega]
theorem lns_le (l : List UInt8) : (lns l).length ≤ l.length := by
  have := lns_len l
  have := parts_le 10 l
  omega
theorem Own.pre {w : World} {lo hi : Nat} {E : TypeId} {A : Option Addr} {xs ys : List Value} (h : Own w lo hi E A (xs ++ ys)) : Own w lo hi E A xs := by
  rcases h with h | ⟨g, cur, rfl, h1, h2, h3, h4, h5⟩
  · left; simp at h; exact h.1
  · right
    refine ⟨g, cur, rfl, h1, h2, h3, by simp at h4; omega, ?_⟩
    have := congrArg (List.take xs.length) h5
    rw [List.take_take] at this
    simpa using this
theorem parts_split (l : List UInt8) : parts 10 l = lns l ++ [rest l] := by
  have h := parts_ne 10 l
  unfold lns rest
  rw [List.getLastD_eq_getLast?, List.getLast?_eq_some_getLast h]
  exact (List.dropLast_concat_getLast h).symm

theorem l08Lines_any (s : ByteArray) (w : World) (hn : s.size ≤ 1048576) :
    Calls Tryd.prog 28 #[.string s] w fun e w' => ∃ A c', e = .returned (.tuple #[.slice A (lns s.data.toList).length c', .string (txt (rest s.data.toList))]) ∧ Own w' w.heap.size w'.heap.size 9 A (strs (lns s.data.toList)) ∧ Below w.heap.size w w' := by
  have H := l01Cut_any s 10 w hn
  have h1 := lns_len s.data.toList
  have h3 := lns_le s.data.toList
  have h2 := getElem_txt s
  have hr := rest_at s.data.toList
  have hps := parts_split s.data.toList
  generalize s.data.toList = l at *
  generalize hp : parts 10 l = ps at *
  generalize lns l = ls at *
  generalize rest l = r at *
  have hlt : ls.length < ps.length := by omega
  have hps1 : ps.length ≤ 1048577 := by omega
  have e1 : IntKind.i64.wrap ((ps.length : Int) - 1) = (ls.length : Int) := by rw [IntWalk.i64_in _ (by omega)]; omega
  have H1 := Lib.hid h1
  have E1 := Lib.hid e1
  clear h1 e1 h2 h3
  go_enter Tryd.func28, Tryd.ntmps28
  go_wp2_with fail
  refine H.mono ?_
  rintro e w1 ⟨A, c1, rfl, hc, hO, hb⟩
  obtain ⟨ad, rfl, hab, hcell⟩ := str_at (k := ls.length) (n := ps.length) (hO.reads' (Nat.le_refl _) (by simp)) hlt
  rw [hr] at hcell
  have HP := Lib.hid hp
  have HPS := Lib.hid hps
  clear hp hps hr H
  have e1 := E1.out
  clear E1
  go_wp2
  go_quiet (fail)
  go_wp2
  go_ret2
  refine ⟨_, _, rfl, ?_, below_drewN hb _⟩
  have h9 := hO.drewN
  rw [HPS.out, strs_append] at hO
  exact hO.pre
end Go.Proofs.YtlcckgpidjneeaaDoor
