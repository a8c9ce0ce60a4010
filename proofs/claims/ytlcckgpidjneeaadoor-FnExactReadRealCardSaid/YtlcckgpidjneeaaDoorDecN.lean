/-
  Contract: spec.l01Dec at a number below 0; at every number.
-/
import Derived.Test.YtlcckgpidjneeaaDoorChk
namespace Go.Proofs.YtlcckgpidjneeaaDoor
open Go.RowKit

theorem negmod0 (u : Nat) (h : u % 10 = 0) : (-(u : Int)).tmod 10 = 0 := by
  rw [Int.neg_tmod, Int.tmod_eq_emod_of_nonneg (by omega)]; omega
theorem negmod1 (u : Nat) : (-(u : Int)).tmod 10 = -((u % 10 : Nat) : Int) := by
  rw [Int.neg_tmod, Int.tmod_eq_emod_of_nonneg (by omega)]; omega
theorem negdiv (u : Nat) : (-(u : Int)).tdiv 10 = -((u / 10 : Nat) : Int) := by
  rw [Int.neg_tdiv, Int.tdiv_eq_ediv_of_nonneg (by omega)]; omega
theorem digit_cell' (u : Nat) (out : List UInt8) (x : Int) (hx : x = 48 + ((u % 10 : Nat) : Int)) : [Value.int .u8 x] ++ Lib.byteCells out = Lib.byteCells (UInt8.ofNat (48 + u % 10) :: out) := by
  rw [← digit_cell, hx]
  rw [show ((u % 10 : Nat) : Int) = (u : Int) % 10 by omega]
theorem conv_of {w : World} {base n : Nat} {v : Value} {l : List UInt8} (hl : l ≠ []) (hn : l.length = n) (h : w.ownsRow base 5 1 v n (Lib.byteCells l)) :
    ∃ a c, v = .slice (some a) n c ∧ (convert 60 9 (.slice (some a) n c)).run Tryd.prog w = .ok (.string (txt l)) w := by
  subst hn
  obtain ⟨A, c, rfl, -, -, hO⟩ := Own.of_row h (Nat.le_refl _)
  have hr := hO.reads' (Nat.le_refl _) (n := l.length) (by simp)
  have hp : 0 < l.length := by
    cases l with
    | nil => exact absurd rfl hl
    | cons a b => simp
  obtain ⟨a, rfl, -, hc⟩ := hr.2 hp
  exact ⟨a, c, rfl, run_convert_bytes_back w 60 9 5 a c l Tryd.underlying60 Tryd.underlying5 Tryd.underlying9 (fun j hj => hc j _ (by simp [Lib.byteCells, List.getElem?_eq_getElem hj]))⟩

set_option maxRecDepth 100000 in
set_option maxHeartbeats 800000 in
theorem l01Dec_neg (n : Nat) (w : World) (h1n : 1 ≤ n) (hn : n ≤ 9223372036854775807) :
    Calls Tryd.prog 55 #[.int .i64 (-(n : Int))] w fun e w' => e = .returned (.string (txt (45 :: Lib.decDigits n))) ∧ Below w.heap.size w w' := by
  obtain ⟨i0, hi, hz0, hz1, hz2⟩ := info_parts info5
  have hb0 : Below w.heap.size w (w.alloc (.cells #[] 5)) := (Below.refl _ _).alloc (Nat.le_refl _) _
  have hown : (w.alloc (.cells #[] 5)).ownsRow w.heap.size 5 1 (.slice (some ⟨w.heap.size, 0, none⟩) 0 0) 0 [] := World.ownsRow_made w #[] 0 (Nat.le_refl _) (by simp [maxLen]) rfl
  have hl21 := Lib.itoa_length_le (n : Int) (by omega) (by omega)
  rw [Lib.itoa, if_neg (by omega), Int.toNat_natCast] at hl21
  have HL := Lib.hid hl21
  have hneg : -(n : Int) < 0 := by omega
  have H1N := Lib.hid h1n
  clear hl21 h1n
  go_enter Tryd.func55, Tryd.ntmps55
  go_wp2
  go_loopw [3, 4, 5] (fun v r d wr => ∃ u : Nat, ∃ out, r = .int .i64 (-(u : Int)) ∧ u ≤ 9223372036854775807 ∧ Hid (Digs n u out) ∧ wr.ownsRow w.heap.size 5 1 v out.length (Lib.byteCells out) ∧ Below w.heap.size w wr) (fun v r _ _ => (intOf r).natAbs + emptyOf v)
  case atStart => exact ⟨n, [], rfl, hn, .inl ⟨rfl, rfl⟩, hown, hb0⟩
  case round =>
    obtain ⟨u, out, rfl, hu, hD, hown, hbr⟩ := hrel
    obtain ⟨Ao, co, rfl, -, hco, hO⟩ := Own.of_row hown (Nat.le_refl _)
    have hl := hD.out.len
    have hl2 : out.length ≤ 21 := by have := HL.out; omega
    clear hl
    by_cases hu0 : u = 0
    · subst hu0
      have hne : out ≠ [] := fun e => by
        rcases hD.out with ⟨_, h⟩ | ⟨h, _⟩
        · have := H1N.out; omega
        · exact h e
      have hz : ((out.length : Int) == 0) = false := by
        cases out with
        | nil => exact absurd rfl hne
        | cons a b => simp; omega
      have hall := Lib.hid (hD.out.all hne rfl)
      have hsrc := (hO.reads' (Nat.le_refl _) (n := out.length) (by simp)).below ((Below.refl wr.heap.size wr).alloc (Nat.le_refl _) (.cells #[.int .u8 45] 5))
      clear hne
      go_wp2_with (at_builtin; refine wpList_append_any _ rfl (.tmp 31) (.tmp 32) _ rfl w.heap.size 5 i0 _ 1 1 Tryd.underlying60 hi hz0 hz1 hz2 rfl (by omega) (.slice (some ⟨wr.heap.size, 0, none⟩) 1 1) 1 [.int .u8 45] rfl (own_lit wr w.heap.size hbr.size _ _) wr.heap.size Ao out.length co (Lib.byteCells out) rfl hsrc (bc_one out) (by simp only [maxLen]; omega) (by omega) (by simp; have := hbr.size; omega) ?_; intro v1 w1 hown1 hg1 hat1; obtain ⟨a1, c1, rfl, hconv⟩ := conv_of (l := 45 :: out) (by simp) (by rw [List.length_cons, Nat.add_comm]) hown1)
      have hb1 : Below w.heap.size w w1 := (hbr.alloc hbr.size _).grown hg1 (by simp; have := hbr.size; omega) (fun j hj => by simp [Value.ownBlock] at hj; have := hbr.size; omega)
      go_ret
      exact ⟨by rw [← hall.out]; rfl, hb1⟩
    · have HN := Lib.hid (hD.out.next (.inr hu0))
      have hun : ((-(u : Int)) != 0) = true := by simp; omega
      have hq := negdiv u
      have hd9 : u % 10 ≤ 9 := by omega
      by_cases hd : u % 10 = 0
      · have hm := negmod0 u hd
        have hx : Hid ((48 : Int) = 48 + ((u % 10 : Nat) : Int)) := by show _ = _; omega
        have hsrc := (hO.reads' (Nat.le_refl _) (n := out.length) (by simp)).below ((Below.refl wr.heap.size wr).alloc (Nat.le_refl _) (.cells #[.int .u8 48] 5))
        clear hd
        cases hz : ((out.length : Int) == 0)
        all_goals
          go_wp2_with (at_builtin; refine wpList_append_any _ rfl (.tmp 24) (.tmp 25) _ rfl w.heap.size 5 i0 _ 1 1 Tryd.underlying60 hi hz0 hz1 hz2 rfl (by omega) (.slice (some ⟨wr.heap.size, 0, none⟩) 1 1) 1 [.int .u8 48] rfl (own_lit wr w.heap.size hbr.size _ _) wr.heap.size Ao out.length co (Lib.byteCells out) rfl hsrc (bc_one out) (by simp only [maxLen]; omega) (by omega) (by simp; have := hbr.size; omega) ?_; intro v1 w1 hown1 hg1 hat1)
          have hb1 : Below w.heap.size w w1 := (hbr.alloc hbr.size _).grown hg1 (by simp; have := hbr.size; omega) (fun j hj => by simp [Value.ownBlock] at hj; have := hbr.size; omega)
          clear hg1 hat1 hown
          have hown2 : w1.ownsRow w.heap.size 5 1 v1 (UInt8.ofNat (48 + u % 10) :: out).length (Lib.byteCells (UInt8.ofNat (48 + u % 10) :: out)) := by
            rw [← digit_cell' u out _ hx.out, List.length_cons, Nat.add_comm]; exact hown1
          clear hown1
          obtain ⟨A1, c1, rfl, -, -, -⟩ := Own.of_row hown2 (Nat.le_refl _)
          go_wp2
          go_roundw
          case rel => exact ⟨u / 10, _, by go_num, by omega, HN.out, hown2, hb1⟩
          case measure => simp [intOf, emptyOf]; omega
      · have hm := negmod1 u
        have hx : Hid ((48 + ((u % 10 : Nat) : Int) : Int) = 48 + ((u % 10 : Nat) : Int)) := rfl
        have hdn : -((u % 10 : Nat) : Int) < 0 := by omega
        have hsrc := (hO.reads' (Nat.le_refl _) (n := out.length) (by simp)).below ((Below.refl wr.heap.size wr).alloc (Nat.le_refl _) (.cells #[.int .u8 (48 + ((u % 10 : Nat) : Int))] 5))
        have hd0 : 0 < u % 10 := by omega
        clear hd
        generalize hg : u % 10 = d at *
        have HG := Lib.hid hg
        clear hg
        cases hz : ((out.length : Int) == 0)
        all_goals
          go_wp2_with (at_builtin; refine wpList_append_any _ rfl (.tmp 24) (.tmp 25) _ rfl w.heap.size 5 i0 _ 1 1 Tryd.underlying60 hi hz0 hz1 hz2 rfl (by omega) (.slice (some ⟨wr.heap.size, 0, none⟩) 1 1) 1 [.int .u8 (48 + (d : Int))] rfl (own_lit wr w.heap.size hbr.size _ _) wr.heap.size Ao out.length co (Lib.byteCells out) rfl hsrc (bc_one out) (by simp only [maxLen]; omega) (by omega) (by simp; have := hbr.size; omega) ?_; intro v1 w1 hown1 hg1 hat1)
          have hb1 : Below w.heap.size w w1 := (hbr.alloc hbr.size _).grown hg1 (by simp; have := hbr.size; omega) (fun j hj => by simp [Value.ownBlock] at hj; have := hbr.size; omega)
          clear hg1 hat1 hown
          have hown2 : w1.ownsRow w.heap.size 5 1 v1 (UInt8.ofNat (48 + u % 10) :: out).length (Lib.byteCells (UInt8.ofNat (48 + u % 10) :: out)) := by
            rw [← digit_cell' u out _ (by rw [HG.out]), List.length_cons, Nat.add_comm]; exact hown1
          clear hown1
          obtain ⟨A1, c1, rfl, -, -, -⟩ := Own.of_row hown2 (Nat.le_refl _)
          go_wp2
          go_roundw
          case rel => exact ⟨u / 10, _, by go_num, by omega, (by have := HN.out; rw [HG.out]; exact this), hown2, hb1⟩
          case measure => simp [intOf, emptyOf]; omega
end Go.Proofs.YtlcckgpidjneeaaDoor
