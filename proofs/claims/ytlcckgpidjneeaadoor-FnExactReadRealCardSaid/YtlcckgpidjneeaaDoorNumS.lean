/-
  Contracts: spec.l01Numbers, impl.ReadList: the integers of a list with a text.
-/
import Derived.Test.YtlcckgpidjneeaaDoorDecI
import Derived.Test.YtlcckgpidjneeaaDoorLinesOf
import Derived.Test.YtlcckgpidjneeaaDoorHand
namespace Go.Proofs.YtlcckgpidjneeaaDoor
open Go.RowKit

def noneL : List UInt8 := [110, 111, 110, 101]
def rlB (l : List UInt8) : Bool := if l = noneL then true else decide ((parts 44 l).length ≤ 64) && (parts 44 l).all rdB
def rlR (l : List UInt8) : List Int := if rlB l then (if l = noneL then [] else (parts 44 l).map sv) else []
def GivesL (R : List Int) (b : Bool) (w : World) (e : Ending) (w' : World) : Prop :=
  ∃ A c, e = .returned (.tuple #[.slice A R.length c, .bool b]) ∧ Own w' w.heap.size w'.heap.size 2 A (ints R) ∧ Below w.heap.size w w'
theorem take_sv {ps : List (List UInt8)} {k : Nat} (hk : k < ps.length) : (ps.take (k + 1)).map sv = (ps.take k).map sv ++ [sv (ps.getD k [])] := by
  rw [List.take_add_one, List.getElem?_eq_getElem hk, List.map_append, List.getD, List.getElem?_eq_getElem hk]
  rfl
theorem ints_append (a b : List Int) : ints (a ++ b) = ints a ++ ints b := by simp [ints]
theorem all_rd {ps : List (List UInt8)} (h : ∀ j, j < ps.length → rdB (ps.getD j []) = true) : ps.all rdB = true := by
  rw [List.all_eq_true]
  intro x hx
  obtain ⟨j, hj, rfl⟩ := List.mem_iff_getElem.1 hx
  have := h j hj
  rwa [List.getD, List.getElem?_eq_getElem hj] at this
theorem all_no {ps : List (List UInt8)} {k : Nat} (hk : k < ps.length) (h : rdB (ps.getD k []) = false) : ps.all rdB = false := by
  cases ha : ps.all rdB with
  | false => rfl
  | true =>
    have := List.all_eq_true.1 ha _ (getD_mem hk)
    rw [h] at this; cases this
theorem one_i64 (x : Int) : ∀ u ∈ [Value.int .i64 x], u.oneCell' = true := by intro u hu; simp at hu; subst hu; rfl

/-- The slice that is made lies in block b, or from block n on. -/
def OutAt (b n : Nat) (v : Value) : Prop := v.ownBlock = some b ∨ ∃ g, v.ownBlock = some g ∧ n ≤ g
theorem OutAt.ne_ {b n g : Nat} {v : Value} (h : OutAt b n v) (h1 : b + 1 ≤ g) (h2 : g < n) : some g ≠ v.ownBlock := by
  rcases h with h | ⟨g', h, h3⟩
  · rw [h]; intro e; injection e; omega
  · rw [h]; intro e; injection e; omega
theorem OutAt.next {b n m : Nat} {v v' : Value} (h : OutAt b n v) (hat : v'.ownBlock = v.ownBlock ∨ v'.ownBlock = some m) (hm : n ≤ m) : OutAt b n v' := by
  rcases hat with e | e
  · unfold OutAt; rw [e]; exact h
  · exact .inr ⟨m, e, hm⟩

set_option maxRecDepth 100000 in
set_option maxHeartbeats 400000 in
theorem l01Numbers_any (s : ByteArray) (w : World) (hs : s.size ≤ 1048576) :
    Calls Tryd.prog 66 #[.string s] w (GivesL (rlR s.data.toList) (rlB s.data.toList) w) := by
  obtain ⟨i0, hi, hz0, hz1, hz2⟩ := info_parts info2
  have hb0 : Below w.heap.size w (w.alloc (.cells #[] 2)) := (Below.refl _ _).alloc (Nat.le_refl _) _
  have hown : (w.alloc (.cells #[] 2)).ownsRow w.heap.size 2 1 (.slice (some ⟨w.heap.size, 0, none⟩) 0 0) 0 [] := World.ownsRow_made w #[] 0 (Nat.le_refl _) (by simp [maxLen]) rfl
  by_cases hno : s.data.toList = noneL
  · have hb : rlB s.data.toList = true := by rw [rlB, if_pos hno]
    have hR : rlR s.data.toList = [] := by rw [rlR, hb, if_pos rfl, if_pos hno]
    rw [hb, hR]
    have hx : s.toList = [110, 111, 110, 101] := by rw [Lib.toList_data]; exact hno
    clear hno hb hR
    go_enter Tryd.func66, Tryd.ntmps66
    go_wp2
    go_ret2
    exact ⟨_, _, rfl, .inl rfl, hb0⟩
  · have hx : ¬ s.toList = [110, 111, 110, 101] := by rw [Lib.toList_data]; exact hno
    have hx2 : (s.toList == [110, 111, 110, 101]) = false := by rw [Lib.toList_data]; exact beq_false_of_ne hno
    have HC : ∀ W : World, Calls Tryd.prog 52 #[.string s, .int .u8 44] W _ := fun W => l01Cut_any s 44 W hs
    have hpl := parts_le 44 s.data.toList
    rw [← Lib.size_eq] at hpl
    have hmem : ∀ x ∈ parts 44 s.data.toList, x.length ≤ 1048576 := fun x hx => by
      have := parts_mem hx
      rw [← Lib.size_eq] at this; omega
    have hbE : rlB s.data.toList = (decide ((parts 44 s.data.toList).length ≤ 64) && (parts 44 s.data.toList).all rdB) := by rw [rlB, if_neg hno]
    have hRE : rlR s.data.toList = if (decide ((parts 44 s.data.toList).length ≤ 64) && (parts 44 s.data.toList).all rdB) then (parts 44 s.data.toList).map sv else [] := by rw [rlR, hbE, if_neg hno]
    have HbE := Lib.hid hbE
    have HRE := Lib.hid hRE
    clear hno hbE hRE
    generalize rlR s.data.toList = R at *
    generalize rlB s.data.toList = b at *
    generalize parts 44 s.data.toList = ps at *
    by_cases h64 : ps.length ≤ 64
    · have h64' : ¬ ((64 : Int) < (ps.length : Int)) := by omega
      have HM := Lib.hid hmem
      clear hmem
      go_enter Tryd.func66, Tryd.ntmps66
      go_wp2_with fail
      (with_reducible refine (HC _).mono ?_)
      rintro e w1 ⟨A, c1, rfl, hcap, hO, hb1⟩
      clear HC
      have hb01 : Below w.heap.size w w1 := hb0.trans (hb1.mono hb0.size)
      have hown1 := ownsRow_below hown hb1
      have hO1 : Own w1 (w.heap.size + 1) w1.heap.size 9 A (strs ps) := hO.wide (by simp) (Nat.le_refl _)
      clear hown hO
      go_wp2
      go_loopw [4, 6, 7, 8] (fun v i _ _ wr => ∃ k : Nat, k ≤ ps.length ∧ i = .int .i64 k ∧ Hid (∀ j, j < k → rdB (ps.getD j []) = true) ∧ wr.ownsRow w.heap.size 2 1 v k (ints ((ps.take k).map sv)) ∧ Below w.heap.size w wr ∧ Own wr (w.heap.size + 1) w1.heap.size 9 A (strs ps) ∧ OutAt w.heap.size w1.heap.size v ∧ w1.heap.size ≤ wr.heap.size) (fun _ i _ _ _ => ps.length - (intOf i).toNat)
      case atStart => exact ⟨0, Nat.zero_le _, rfl, fun j hj => by omega, hown1, hb01, hO1, .inl rfl, Nat.le_refl _⟩
      case round =>
        obtain ⟨k, hk, rfl, hno, hown, hbr, hOp, hat, hsz⟩ := hrel
        obtain ⟨Ao, co, rfl, -, hco, hOo⟩ := Own.of_row hown (Nat.le_refl _)
        by_cases hlt : k < ps.length
        · obtain ⟨ad, rfl, hab, hcell⟩ := str_at (n := ps.length) (hOp.reads' (Nat.le_refl _) (by simp)) hlt
          have HV := fun W => l01Value_any (txt (ps.getD k [])) W (by rw [txt_size]; exact HM.out _ (getD_mem hlt))
          rw [txt_data] at HV
          have HN := Lib.hid (take_sv hlt)
          cases hrd : rdB (ps.getD k []) with
          | true =>
            have hNO : Hid (∀ j, j < k + 1 → rdB (ps.getD j []) = true) := fun j hj => by
              rcases Nat.lt_or_ge j k with h | h
              · exact hno.out j h
              · have : j = k := by omega
                subst this; exact hrd
            rw [hrd] at HV
            have hv : rdV (ps.getD k []) = sv (ps.getD k []) := by rw [rdV, hrd]; rfl
            rw [hv] at HV
            clear hrd hv hno HM
            generalize sv (ps.getD k []) = z at *
            generalize txt (ps.getD k []) = X at *
            go_wp2_with fail
            (with_reducible refine (HV _).mono ?_)
            rintro e w2 ⟨rfl, hb2⟩
            clear HV hcell hOo
            have hown2 := ownsRow_below hown hb2
            have hbr2 : Below w.heap.size w w2 := hbr.trans (hb2.mono hbr.size)
            have hOp2 := hOp.below hb2 hsz
            have hsz2 : w1.heap.size ≤ w2.heap.size := Nat.le_trans hsz hb2.size
            clear hown hb2 hbr hOp hsz
            go_wp2_with (at_builtin; refine wpList_append_any _ rfl (.tmp 34) (.tmp 36) _ rfl w.heap.size 2 i0 _ 1 8 Tryd.underlying25 hi hz0 hz1 hz2 rfl (by omega) (.slice Ao k co) k (ints ((ps.take k).map sv)) rfl (hown2.alloc _) (w2.heap.size + 1) (some ⟨w2.heap.size, 0, none⟩) 1 1 [.int .i64 z] rfl (reads_one w2 _ _) (one_i64 z) (by simp only [maxLen]; omega) (by omega) (by simp; have := hbr2.size; omega) ?_; intro v1 w5 hown1 hg1 hat1)
            have hb11 : Below w.heap.size w w5 := (hbr2.alloc hbr2.size _).grown hg1 (by simp; have := hbr2.size; omega) (fun j hj => (hown2.lt j hj).1)
            have hOp5 : Own w5 (w.heap.size + 1) w1.heap.size 9 _ (strs ps) := (hOp2.keep (w' := w2.alloc (.cells #[.int .i64 z] 2)) (fun g _ _ h3 => Below.heap_alloc _ _ _ h3)).keep (fun g g1 g2 g3 => hg1.block g g3 (hat.ne_ g1 g2))
            have hat5 := hat.next hat1 (show w1.heap.size ≤ (w2.alloc (.cells #[.int .i64 z] 2)).heap.size by simp; omega)
            have hsz5 : w1.heap.size ≤ w5.heap.size := Nat.le_trans hsz2 (Nat.le_trans (by simp) hg1.size)
            clear hg1 hat1 hown2 hat hOp2
            go_wp2
            go_roundw
            case rel => exact ⟨k + 1, by omega, by go_num, hNO, by rw [HN.out, ints_append]; simpa [ints] using hown1, hb11, hOp5, hat5, hsz5⟩
            case measure => simp [intOf]; omega
          | false =>
            have hall := all_no hlt hrd
            have hb' : Hid (b = false) := by show _ = _; rw [HbE.out, hall, Bool.and_false]
            have hR' : Hid (R = []) := by show _ = _; rw [HRE.out, hall, Bool.and_false]; rfl
            rw [hrd] at HV
            clear hrd hno HM hall
            generalize rdV (ps.getD k []) = z at *
            generalize txt (ps.getD k []) = X at *
            go_wp2_with fail
            (with_reducible refine (HV _).mono ?_)
            rintro e w2 ⟨rfl, hb2⟩
            clear HV hcell hOo
            go_wp2
            go_ret2
            rw [hb'.out, hR'.out]
            exact ⟨none, 0, rfl, .inl rfl, hbr.trans (hb2.mono hbr.size)⟩
        · have hkn : k = ps.length := by omega
          have hall := all_rd (ps := ps) (fun j hj => hno.out j (by omega))
          have h64d : decide (ps.length ≤ 64) = true := by simpa using h64
          have hb' : Hid (b = true) := by show _ = _; rw [HbE.out, hall, h64d]; rfl
          have hR' : Hid (R = ps.map sv) := by show _ = _; rw [HRE.out, hall, h64d]; rfl
          subst hkn
          rw [List.take_of_length_le (Nat.le_refl _)] at hOo
          clear hall h64d hno hown
          go_wp2
          go_ret2
          rw [hb'.out, hR'.out]
          exact ⟨Ao, co, by rw [List.length_map]; rfl, hOo, hbr⟩
    · have h64' : (64 : Int) < (ps.length : Int) := by omega
      have h64d : decide (ps.length ≤ 64) = false := by simpa using h64
      have hb' : Hid (b = false) := by show _ = _; rw [HbE.out, h64d]; rfl
      have hR' : Hid (R = []) := by show _ = _; rw [HRE.out, h64d]; rfl
      clear hmem h64d
      go_enter Tryd.func66, Tryd.ntmps66
      go_wp2_with fail
      (with_reducible refine (HC _).mono ?_)
      rintro e w1 ⟨A, c1, rfl, hcap, hO, hb1⟩
      clear HC
      go_wp2
      go_ret2
      rw [hb'.out, hR'.out]
      exact ⟨none, 0, rfl, .inl rfl, hb0.trans (hb1.mono hb0.size)⟩
end Go.Proofs.YtlcckgpidjneeaaDoor
