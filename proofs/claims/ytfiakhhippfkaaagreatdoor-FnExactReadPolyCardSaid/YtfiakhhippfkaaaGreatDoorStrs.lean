/-
  Words on slices of texts in memory; the contract of the reference's l01Cut: the parts of a text between marks.
-/
import Derived.Test.YtfiakhhippfkaaaGreatDoorParts
import Derived.Test.YtfiakhhippfkaaaGreatDoorAppend
import Derived.Test.YtfiakhhippfkaaaGreatDoorProg
import Derived.KernelRfl
namespace Go.Proofs.YtfiakhhippfkaaaGreatDoor
open Go.RowKit

/-- Texts as values in memory. -/
def strs (ls : List (List UInt8)) : List Value := ls.map fun l => Value.string (txt l)
@[simp] theorem strs_len (ls : List (List UInt8)) : (strs ls).length = ls.length := by simp [strs]
theorem strs_at {ls : List (List UInt8)} {k : Nat} (h : k < ls.length) : (strs ls)[k]? = some (.string (txt (ls.getD k []))) := by
  simp [strs, List.getD, List.getElem?_eq_getElem h]
theorem strs_one (ls : List (List UInt8)) : ∀ u ∈ strs ls, u.oneCell' = true := by
  intro u hu
  obtain ⟨l, _, rfl⟩ := List.mem_map.1 hu
  rfl
theorem strs_append (a b : List (List UInt8)) : strs (a ++ b) = strs a ++ strs b := by simp [strs]
theorem str_at {w : World} {B : Nat} {A : Option Addr} {ls : List (List UInt8)} {k n : Nat} (h : Reads w B 1 A n (strs ls)) (hk : k < n) :
    ∃ ad, A = some ad ∧ ad.block < B ∧ w.cell? (ad.add k) = some (.string (txt (ls.getD k []))) := by
  obtain ⟨ad, u, e, hb, hu, hc⟩ := h.at_ hk
  have hl : (strs ls).length = n := by simpa using h.1
  rw [strs_at (by rw [strs_len] at hl; omega)] at hu
  cases hu
  exact ⟨ad, e, hb, hc⟩
theorem info9 : (Tryz.prog.info? 9).map (fun i => (i.zero, i.size, i.bytes)) = some (some (.string ByteArray.empty), 1, 16) := by kernel_rfl

theorem reads_one (w : World) (u : Value) (E : TypeId) : Reads (w.alloc (.cells #[u] E)) (w.heap.size + 1) 1 (some ⟨w.heap.size, 0, none⟩) 1 [u] :=
  Own.reads (xs := [u]) (lo := 0) (E := E) (.inr ⟨w.heap.size, _, rfl, by omega, by omega, heap_alloc_new w _, by simp, by simp⟩)
theorem one_str (x : ByteArray) : ∀ u ∈ [Value.string x], u.oneCell' = true := by intro u hu; simp at hu; subst hu; rfl

theorem byte_at (s : ByteArray) (k : Nat) (h : k < s.size) : s.data.toList[k]? = some s[k] := by
  rw [List.getElem?_eq_getElem (by rw [← Lib.size_eq]; exact h)]
  rfl

theorem getElem_txt (s : ByteArray) : s.data.toList.length = s.size := (Lib.size_eq s).symm

set_option maxRecDepth 100000 in
set_option maxHeartbeats 800000 in
theorem l01Cut_any (s : ByteArray) (c : UInt8) (w : World) (hn : s.size ≤ 1048576) :
    Calls Tryz.prog 21 #[.string s, .int .u8 (c.toNat : Int)] w fun e w' => ∃ A c', e = .returned (.slice A (parts c s.data.toList).length c') ∧ (parts c s.data.toList).length ≤ c' ∧ Own w' w.heap.size w'.heap.size 9 A (strs (parts c s.data.toList)) ∧ Below w.heap.size w w' := by
  obtain ⟨i0, hi, hz0, hz1, hz2⟩ := info_parts info9
  have hb0 : Below w.heap.size w (w.alloc (.cells #[] 9)) := (Below.refl _ _).alloc (Nat.le_refl _) _
  have hown : (w.alloc (.cells #[] 9)).ownsRow w.heap.size 9 1 (.slice (some ⟨w.heap.size, 0, none⟩) 0 0) 0 [] := World.ownsRow_made w #[] 0 (Nat.le_refl _) (by simp [maxLen]) rfl
  have hsl := getElem_txt s
  have HL := Lib.hid hsl
  clear hsl
  go_enter Tryz.func21, Tryz.ntmps21
  go_wp2
  go_loopw [5, 6, 7] (fun v f i wr => ∃ k m : Nat, ∃ done, i = .int .i64 k ∧ f = .int .i64 m ∧ Hid (Cutting c s.data.toList k m done) ∧ wr.ownsRow w.heap.size 9 1 v done.length (strs done) ∧ Below w.heap.size w wr) (fun _ _ i _ => s.size + 1 - (intOf i).toNat)
  case atStart => exact ⟨0, 0, [], rfl, rfl, Cutting.start _ _, hown, hb0⟩
  case round =>
    obtain ⟨k, m, done, rfl, rfl, hcut, hown, hbr⟩ := hrel
    obtain ⟨Ao, co, rfl, -, hco, -⟩ := Own.of_row hown (Nat.le_refl _)
    have hle := hcut.out.le
    have hle1 : k ≤ s.size + 1 := by have := HL.out; omega
    have hle2 : m ≤ k := hle.2.1
    have hle3 : done.length ≤ s.size + 1 := by have := HL.out; omega
    clear hle
    by_cases hk : k ≤ s.size
    · by_cases hlt : k < s.size
      · have hb := byte_at s k hlt
        have hke : ((k : Int) == (s.size : Int)) = false := by simp; omega
        by_cases hc : s[k] = c
        · have hnext := hcut.out.cut (by have := HL.out; omega) (by rw [hb, hc])
          have hd : ((s[k].toNat : Int) == (c.toNat : Int)) = true := by rw [hc]; simp
          have hx : s.extract m k = txt ((s.data.toList.drop m).take (k - m)) := extract_txt s m k
          have HX := Lib.hid hx
          have HN := Lib.hid hnext
          clear hb hc hx hnext
          go_wp2_with (at_builtin; refine wpList_append_any _ rfl (.tmp 26) (.tmp 31) _ rfl w.heap.size 9 i0 _ 1 16 Tryz.underlying37 hi hz0 hz1 hz2 rfl (by omega) (.slice Ao done.length co) done.length (strs done) rfl (hown.alloc _) (wr.heap.size + 1) (some ⟨wr.heap.size, 0, none⟩) 1 1 [.string (s.extract m k)] rfl (reads_one wr _ _) (one_str _) (by simp only [maxLen]; omega) (by omega) (by simp; have := hbr.size; omega) ?_; intro v1 w1 hown1 hg1 hat1)
          have hb1 : Below w.heap.size w w1 := (hbr.alloc hbr.size _).grown hg1 (by simp; have := hbr.size; omega) (fun j hj => (hown.lt j hj).1)
          clear hg1 hat1 hown
          go_wp2
          go_roundw
          case rel => exact ⟨k + 1, k + 1, _, by go_num, by go_num, HN.out, by rw [strs_append, List.length_append]; simpa [strs, HX.out] using hown1, hb1⟩
          case measure => simp [intOf]; omega
        · have hnext := hcut.out.skip (by have := HL.out; omega) (by rw [hb]; simpa using hc)
          have hd : ((s[k].toNat : Int) == (c.toNat : Int)) = false := by
            simp
            intro e
            exact hc (UInt8.toNat_inj.1 (by omega))
          have HN := Lib.hid hnext
          clear hb hc hnext
          go_wp2
          go_roundw
          case rel => exact ⟨k + 1, m, done, by go_num, rfl, HN.out, hown, hbr⟩
          case measure => simp [intOf]; omega
      · have hks : k = s.size := by omega
        have hnext := hcut.out.last (by have := HL.out; omega)
        have hx : s.extract m k = txt ((s.data.toList.drop m).take (k - m)) := extract_txt s m k
        have hke : ((k : Int) == (s.size : Int)) = true := by simp; omega
        have HX := Lib.hid hx
        have HN := Lib.hid hnext
        have HK := Lib.hid hks
        clear hx hnext hks
        go_wp2_with (at_builtin; refine wpList_append_any _ rfl (.tmp 26) (.tmp 31) _ rfl w.heap.size 9 i0 _ 1 16 Tryz.underlying37 hi hz0 hz1 hz2 rfl (by omega) (.slice Ao done.length co) done.length (strs done) rfl (hown.alloc _) (wr.heap.size + 1) (some ⟨wr.heap.size, 0, none⟩) 1 1 [.string (s.extract m k)] rfl (reads_one wr _ _) (one_str _) (by simp only [maxLen]; omega) (by omega) (by simp; have := hbr.size; omega) ?_; intro v1 w1 hown1 hg1 hat1)
        have hb1 : Below w.heap.size w w1 := (hbr.alloc hbr.size _).grown hg1 (by simp; have := hbr.size; omega) (fun j hj => (hown.lt j hj).1)
        clear hg1 hat1 hown
        go_wp2
        go_roundw
        case rel => exact ⟨k + 1, k + 1, _, by go_num, by go_num, HN.out, by rw [strs_append, List.length_append]; simpa [strs, HX.out] using hown1, hb1⟩
        case measure => simp [intOf]; omega
    · have hall := hcut.out.all (by have := HL.out; omega)
      subst hall
      clear hcut
      go_wp2
      obtain ⟨A, c1, e1, -, hc1, hO⟩ := Own.of_row hown (Nat.le_refl _)
      cases e1
      go_ret
      exact ⟨_, _, rfl, hc1, hO, hbr⟩
end Go.Proofs.YtfiakhhippfkaaaGreatDoor
