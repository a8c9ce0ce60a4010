/-
  Contracts: spec.l01Dec: a number in decimal, digit by digit; that it is what strconv.FormatInt makes.
-/
import Derived.Test.YtlcckgpidjneeaaDoorStrs
import Derived.Lib.ItoaNum
import Derived.Lib.ItoaLen
import Derived.Lib.UnsafeStr
import Derived.Laws.IdiomStrings
namespace Go.Proofs.YtlcckgpidjneeaaDoor
open Go.RowKit

/-- The digits in front of the last ones: none of 0. -/
def front (u : Nat) : List UInt8 := if u = 0 then [] else Lib.decDigits u
theorem digits_front (u : Nat) : Lib.decDigits u = front (u / 10) ++ [UInt8.ofNat (48 + u % 10)] := by
  rw [Lib.decDigits]
  by_cases h : u < 10
  · rw [dif_pos h, front, if_pos (by omega), Nat.mod_eq_of_lt h]; rfl
  · rw [dif_neg h, front, if_neg (by omega)]
theorem front_digits {u : Nat} (h : u ≠ 0) : front u = front (u / 10) ++ [UInt8.ofNat (48 + u % 10)] := by
  rw [front, if_neg h, digits_front]
/-- The digits under way: those that are done, and what is left in front of them. -/
def Digs (N u : Nat) (out : List UInt8) : Prop := (out = [] ∧ u = N) ∨ (out ≠ [] ∧ Lib.decDigits N = front u ++ out)
theorem Digs.next {N u : Nat} {out : List UInt8} (h : Digs N u out) (hu : out = [] ∨ u ≠ 0) : Digs N (u / 10) (UInt8.ofNat (48 + u % 10) :: out) := by
  refine .inr ⟨by simp, ?_⟩
  rcases h with ⟨rfl, rfl⟩ | ⟨h1, h2⟩
  · exact digits_front u
  · rw [h2, front_digits (hu.resolve_left h1)]; simp
theorem Digs.all {N u : Nat} {out : List UInt8} (h : Digs N u out) (h1 : out ≠ []) (hu : u = 0) : out = Lib.decDigits N := by
  rcases h with ⟨h, _⟩ | ⟨_, h⟩
  · exact absurd h h1
  · rw [h, hu]; rfl
theorem Digs.len {N u : Nat} {out : List UInt8} (h : Digs N u out) : out.length ≤ (Lib.decDigits N).length := by
  rcases h with ⟨rfl, _⟩ | ⟨_, h⟩
  · simp
  · rw [h]; simp

@[simp] theorem bc_len (l : List UInt8) : (Lib.byteCells l).length = l.length := Lib.byteCells_length l
theorem bc_one (l : List UInt8) : ∀ u ∈ Lib.byteCells l, u.oneCell' = true := by
  intro u hu
  obtain ⟨b, _, rfl⟩ := List.mem_map.1 hu
  rfl
theorem info5 : (Tryd.prog.info? 5).map (fun i => (i.zero, i.size, i.bytes)) = some (some (.int .u8 0), 1, 1) := by kernel_rfl

theorem own_lit (w : World) (base : Nat) (hb : base ≤ w.heap.size) (u : Value) (E : TypeId) : (w.alloc (.cells #[u] E)).ownsRow base E 1 (.slice (some ⟨w.heap.size, 0, none⟩) 1 1) 1 [u] :=
  ⟨by simp, .inr ⟨w.heap.size, 1, #[u], rfl, hb, heap_alloc_new w _, Nat.le_refl _, by simp [maxLen], rfl, by simp⟩⟩
def emptyOf : Value → Nat
  | .slice _ 0 _ => 1
  | _ => 0
theorem digit_cell (u : Nat) (out : List UInt8) : [Value.int .u8 (48 + (u : Int) % 10)] ++ Lib.byteCells out = Lib.byteCells (UInt8.ofNat (48 + u % 10) :: out) := by
  have h : (UInt8.ofNat (48 + u % 10)).toNat = 48 + u % 10 := by
    rw [UInt8.toNat_ofNat']; omega
  simp only [Lib.byteCells, List.map_cons, h, List.singleton_append]
  rw [show ((48 + u % 10 : Nat) : Int) = 48 + (u : Int) % 10 by omega]

set_option maxRecDepth 100000 in
theorem l01Dec_pos (n : Nat) (w : World) (hn : n ≤ 9223372036854775807) :
    Calls Tryd.prog 55 #[.int .i64 (n : Int)] w fun e w' => e = .returned (.string (txt (Lib.decDigits n))) ∧ Below w.heap.size w w' := by
  obtain ⟨i0, hi, hz0, hz1, hz2⟩ := info_parts info5
  have hb0 : Below w.heap.size w (w.alloc (.cells #[] 5)) := (Below.refl _ _).alloc (Nat.le_refl _) _
  have hown : (w.alloc (.cells #[] 5)).ownsRow w.heap.size 5 1 (.slice (some ⟨w.heap.size, 0, none⟩) 0 0) 0 [] := World.ownsRow_made w #[] 0 (Nat.le_refl _) (by simp [maxLen]) rfl
  have hl21 := Lib.itoa_length_le (n : Int) (by omega) (by omega)
  rw [Lib.itoa, if_neg (by omega), Int.toNat_natCast] at hl21
  have HL := Lib.hid hl21
  clear hl21
  go_enter Tryd.func55, Tryd.ntmps55
  go_wp2
  go_loopw [3, 4, 5] (fun v r d wr => ∃ u : Nat, ∃ out, r = .int .i64 (u : Int) ∧ u ≤ 9223372036854775807 ∧ Hid (Digs n u out) ∧ wr.ownsRow w.heap.size 5 1 v out.length (Lib.byteCells out) ∧ Below w.heap.size w wr) (fun v r _ _ => (intOf r).natAbs + emptyOf v)
  case atStart => exact ⟨n, [], rfl, hn, .inl ⟨rfl, rfl⟩, hown, hb0⟩
  case round =>
    obtain ⟨u, out, rfl, hu, hD, hown, hbr⟩ := hrel
    obtain ⟨Ao, co, rfl, -, hco, hO⟩ := Own.of_row hown (Nat.le_refl _)
    have hl := hD.out.len
    have hl2 : out.length ≤ 21 := by have := HL.out; omega
    clear hl
    by_cases hgo : out = [] ∨ u ≠ 0
    · have HN := Lib.hid (hD.out.next hgo)
      have hsrc := (hO.reads' (Nat.le_refl _) (n := out.length) (by simp)).below ((Below.refl wr.heap.size wr).alloc (Nat.le_refl _) (.cells #[.int .u8 (48 + (u : Int) % 10)] 5))
      have hmod : (0 : Int) ≤ (u : Int) % 10 := by omega
      by_cases h0 : out = []
      · have hz : ((out.length : Int) == 0) = true := by subst h0; rfl
        clear h0 hgo
        go_wp2_with (at_builtin; refine wpList_append_any _ rfl (.tmp 24) (.tmp 25) _ rfl w.heap.size 5 i0 _ 1 1 Tryd.underlying60 hi hz0 hz1 hz2 rfl (by omega) (.slice (some ⟨wr.heap.size, 0, none⟩) 1 1) 1 [.int .u8 (48 + (u : Int) % 10)] rfl (own_lit wr w.heap.size hbr.size _ _) wr.heap.size Ao out.length co (Lib.byteCells out) rfl hsrc (bc_one out) (by simp only [maxLen]; omega) (by omega) (by simp; have := hbr.size; omega) ?_; intro v1 w1 hown1 hg1 hat1)
        have hb1 : Below w.heap.size w w1 := (hbr.alloc hbr.size _).grown hg1 (by simp; have := hbr.size; omega) (fun j hj => by simp [Value.ownBlock] at hj; have := hbr.size; omega)
        clear hg1 hat1 hown
        have hown2 : w1.ownsRow w.heap.size 5 1 v1 (UInt8.ofNat (48 + u % 10) :: out).length (Lib.byteCells (UInt8.ofNat (48 + u % 10) :: out)) := by
          rw [← digit_cell, List.length_cons, Nat.add_comm]; exact hown1
        clear hown1
        obtain ⟨A1, c1, rfl, -, -, -⟩ := Own.of_row hown2 (Nat.le_refl _)
        go_wp2
        go_roundw
        case rel => exact ⟨u / 10, _, by go_num, by omega, HN.out, hown2, hb1⟩
        case measure =>
          have hl0 : out.length = 0 := by simpa using hz
          rw [hl0]
          simp [intOf, emptyOf]
          omega
      · have hz : ((out.length : Int) == 0) = false := by
          cases out with
          | nil => exact absurd rfl h0
          | cons a b => simp; omega
        have hun : ((u : Int) != 0) = true := by
          have := hgo.resolve_left h0
          simp; omega
        clear h0 hgo
        go_wp2_with (at_builtin; refine wpList_append_any _ rfl (.tmp 24) (.tmp 25) _ rfl w.heap.size 5 i0 _ 1 1 Tryd.underlying60 hi hz0 hz1 hz2 rfl (by omega) (.slice (some ⟨wr.heap.size, 0, none⟩) 1 1) 1 [.int .u8 (48 + (u : Int) % 10)] rfl (own_lit wr w.heap.size hbr.size _ _) wr.heap.size Ao out.length co (Lib.byteCells out) rfl hsrc (bc_one out) (by simp only [maxLen]; omega) (by omega) (by simp; have := hbr.size; omega) ?_; intro v1 w1 hown1 hg1 hat1)
        have hb1 : Below w.heap.size w w1 := (hbr.alloc hbr.size _).grown hg1 (by simp; have := hbr.size; omega) (fun j hj => by simp [Value.ownBlock] at hj; have := hbr.size; omega)
        clear hg1 hat1 hown
        have hown2 : w1.ownsRow w.heap.size 5 1 v1 (UInt8.ofNat (48 + u % 10) :: out).length (Lib.byteCells (UInt8.ofNat (48 + u % 10) :: out)) := by
          rw [← digit_cell, List.length_cons, Nat.add_comm]; exact hown1
        clear hown1
        obtain ⟨A1, c1, rfl, -, -, -⟩ := Own.of_row hown2 (Nat.le_refl _)
        go_wp2
        go_roundw
        case rel => exact ⟨u / 10, _, by go_num, by omega, HN.out, hown2, hb1⟩
        case measure =>
          have hu0 : u ≠ 0 := by intro e; subst e; simp at hun
          simp [intOf, emptyOf]
          omega
    · have hz : ((out.length : Int) == 0) = false := by
        cases out with
        | nil => exact absurd (.inl rfl) hgo
        | cons a b => simp; omega
      have hu0 : u = 0 := by
        rcases Nat.eq_zero_or_pos u with h | h
        · exact h
        · exact absurd (.inr (by omega)) hgo
      have hun : ((u : Int) != 0) = false := by subst hu0; rfl
      have hall := Lib.hid (hD.out.all (fun e => hgo (.inl e)) hu0)
      have hrd := hO.reads' (Nat.le_refl _) (n := out.length) (by simp)
      have hlt : 0 < out.length := by
        cases out with
        | nil => exact absurd (.inl rfl) hgo
        | cons a b => simp
      obtain ⟨ad, rfl, -, hcell⟩ := hrd.2 hlt
      have hconv := run_convert_bytes_back (P := Tryd.prog) wr 60 9 5 ad co out Tryd.underlying60 Tryd.underlying5 Tryd.underlying9 (fun j hj => hcell j _ (by simp [Lib.byteCells, List.getElem?_eq_getElem hj]))
      clear hcell hgo hlt hrd hO hu0
      go_wp2
      go_ret
      exact ⟨by rw [← hall.out]; rfl, hbr⟩
end Go.Proofs.YtlcckgpidjneeaaDoor
