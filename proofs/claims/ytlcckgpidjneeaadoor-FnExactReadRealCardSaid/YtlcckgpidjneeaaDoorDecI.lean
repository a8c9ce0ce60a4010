/-
  Contract: impl.ReadDecimal: the number with a text, by strconv.ParseInt.
-/
import Derived.Test.YtlcckgpidjneeaaDoorValS
import Derived.Test.YtlcckgpidjneeaaDoorShelfParse
import Derived.Lib.AtoiErrMem
namespace Go.Proofs.YtlcckgpidjneeaaDoor
open Go.RowKit

/-- The two errors of package strconv are there. -/
def ErrVars (w : World) : Prop := (∃ tp p, w.var? Tryd.prog "strconv.ErrSyntax" = some #[.iface tp p]) ∧ (∃ tp p, w.var? Tryd.prog "strconv.ErrRange" = some #[.iface tp p])
theorem ErrVars.on {w w' : World} (h : ErrVars w) (hb : Below w.heap.size w w') : ErrVars w' := by
  have step : ∀ {n : String} {cs : Array Value}, w.var? Tryd.prog n = some cs → w'.var? Tryd.prog n = some cs := fun {n cs} h => by
    unfold World.var? at h ⊢
    cases hg : Tryd.prog.globalNamed n with
    | none => rw [hg] at h; cases h
    | some g =>
      rw [hg] at h
      simp only [Option.bind_some] at h ⊢
      have hlt : g < w.heap.size := by
        rcases Nat.lt_or_ge g w.heap.size with h' | h'
        · exact h'
        · rw [Array.getElem?_eq_none h'] at h; cases h
      rw [hb.block g hlt]
      exact h
  obtain ⟨⟨a, b, h1⟩, ⟨c, d, h2⟩⟩ := h
  exact ⟨⟨a, b, step h1⟩, ⟨c, d, step h2⟩⟩

theorem parse_ok (s : ByteArray) (v : Int) (hs : s.size ≤ 1048576) (h : Lib.parseIntB 64 s.data.toList = .ok v) (w : World) :
    Calls Tryd.prog 76 #[.string s, .int .i64 10, .int .i64 64] w fun e w' => e = .returned (.tuple #[.int .i64 v, .nilIface]) ∧ Below w.heap.size w w' := by
  refine (Any.strconv_ParseInt_10_at64_ok Tryd.laysC174 s (by omega) v h w).mono ?_
  rintro e w' ⟨rfl, h | ⟨t, rfl⟩⟩
  · subst h; exact ⟨rfl, Below.refl _ _⟩
  · exact ⟨rfl, Lib.bytesWorld_below w _ t⟩
/-- What ParseInt returns beside a number that it could not read. -/
def Fails (w : World) (e : Ending) (w' : World) : Prop := ∃ v N, e = .returned (.tuple #[.int .i64 v, .iface 125 (.pointer (some ⟨N, 0, none⟩))]) ∧ Below w.heap.size w w'
theorem parse_no (s : ByteArray) (hs : s.size ≤ 1048576) (h : ∀ v, Lib.parseIntB 64 s.data.toList ≠ .ok v) (w : World) (hE : ErrVars w) :
    Calls Tryd.prog 76 #[.string s, .int .i64 10, .int .i64 64] w (Fails w) := by
  obtain ⟨⟨ts, ps, hsy⟩, ⟨tr, pr, hra⟩⟩ := hE
  rcases hp : Lib.parseIntB 64 s.data.toList with v | _ | _
  · exact absurd hp (h v)
  · refine (Any.strconv_ParseInt_10_at64_syntax_var Tryd.laysC174 s (by omega) hp ts ps w hsy).mono ?_
    rintro e w' ⟨N, rfl, _, _, hb⟩
    exact ⟨_, N, rfl, hb⟩
  · refine (Any.strconv_ParseInt_10_at64_range_var Tryd.laysC174 s (by omega) hp tr pr w hra).mono ?_
    rintro e w' ⟨N, rfl, _, _, hb⟩
    exact ⟨_, N, rfl, hb⟩

set_option maxRecDepth 100000 in
theorem readDecimal_any (s : ByteArray) (w : World) (hs : s.size ≤ 1048576) (hE : ErrVars w) (htab : Lib.TabBelow Tryd.prog w.heap.size w "internal/strconv.uint64pow10" .u64 Lib.pow10Tab) :
    Calls Tryd.prog 68 #[.string s] w fun e w' => e = .returned (.tuple #[.int .i64 (rdV s.data.toList), .bool (rdB s.data.toList)]) ∧ Below w.heap.size w w' := by
  by_cases hok : ∃ v, Lib.parseIntB 64 s.data.toList = .ok v
  · obtain ⟨v, hv⟩ := hok
    have HP := parse_ok s v hs hv w
    by_cases hin : -1000000000000000 ≤ v ∧ v ≤ 1000000000000000
    · have HW := fun W => within_any v (-1000000000000000) 1000000000000000 true (by simp [inB, hin.1, hin.2]) W
      have HD := fun W (hW : Below w.heap.size w W) => decimal_any v (by omega) (by omega) W (htab.on hW).here
      by_cases heq : Lib.itoa v = s.data.toList
      · have hb : rdB s.data.toList = true := by rw [← heq]; exact rdB_itoa hin.1 hin.2
        have hV : Hid (rdV s.data.toList = v) := by show _ = _; rw [rdV, hb, if_pos rfl, ← heq, sv_itoa]
        have HB := Lib.hid hb
        have ht := teq (a := txt (Lib.itoa v)) (b := s) rfl (txt_of s).symm heq
        clear hb heq hin hv hE htab
        generalize Lib.itoa v = d at *
        go_enter Tryd.func68, Tryd.ntmps68
        go_wp2_with fail
        (with_reducible refine HP.mono ?_)
        rintro e w1 ⟨rfl, hb1⟩
        clear HP
        go_wp2_with (first | (go_at_call 58; refine (HW _).mono ?_; rintro e w' ⟨rfl, rfl⟩) | (go_at_call 59; go_in))
        (with_reducible refine (HD _ hb1).mono ?_)
        rintro e w2 ⟨rfl, hb2⟩
        clear HD
        go_wp2
        go_ret2
        exact ⟨by rw [hV.out, HB.out]; rfl, hb1.trans (hb2.mono hb1.size)⟩
      · have hb : rdB s.data.toList = false := by
          cases hb : rdB s.data.toList with
          | false => rfl
          | true =>
            have h1 := rdB_parse hb
            rw [hv] at h1
            injection h1 with h1
            exact absurd (by rw [h1]; exact (rdB_parts hb).2.2) heq
        have hV : Hid (rdV s.data.toList = 0) := by show _ = _; rw [rdV, hb]; rfl
        have HB := Lib.hid hb
        have ht := tne (a := txt (Lib.itoa v)) (b := s) rfl (txt_of s).symm heq
        clear hb heq hin hv hE htab
        generalize Lib.itoa v = d at *
        go_enter Tryd.func68, Tryd.ntmps68
        go_wp2_with fail
        (with_reducible refine HP.mono ?_)
        rintro e w1 ⟨rfl, hb1⟩
        clear HP
        go_wp2_with (first | (go_at_call 58; refine (HW _).mono ?_; rintro e w' ⟨rfl, rfl⟩) | (go_at_call 59; go_in))
        (with_reducible refine (HD _ hb1).mono ?_)
        rintro e w2 ⟨rfl, hb2⟩
        clear HD
        go_wp2
        go_ret2
        exact ⟨by rw [hV.out, HB.out]; rfl, hb1.trans (hb2.mono hb1.size)⟩
    · have HW := fun W => within_any v (-1000000000000000) 1000000000000000 false (by simp only [inB, Bool.and_eq_false_iff, decide_eq_false_iff_not]; omega) W
      have hb : rdB s.data.toList = false := by
        cases hb : rdB s.data.toList with
        | false => rfl
        | true =>
          have h1 := rdB_parse hb
          rw [hv] at h1
          injection h1 with h1
          exact absurd (by rw [h1]; exact (rdB_parts hb).2.1) hin
      have hV : Hid (rdV s.data.toList = 0) := by show _ = _; rw [rdV, hb]; rfl
      have HB := Lib.hid hb
      clear hb hin hv hE htab
      go_enter Tryd.func68, Tryd.ntmps68
      go_wp2_with fail
      (with_reducible refine HP.mono ?_)
      rintro e w1 ⟨rfl, hb1⟩
      clear HP
      go_wp2_with (first | (go_at_call 58; refine (HW _).mono ?_; rintro e w' ⟨rfl, rfl⟩) | (go_at_call 59; go_in))
      go_ret2
      exact ⟨by rw [hV.out, HB.out]; rfl, hb1⟩
  · have hb : rdB s.data.toList = false := by
      cases hb : rdB s.data.toList with
      | false => rfl
      | true => exact absurd ⟨_, rdB_parse hb⟩ hok
    have HP := parse_no s hs (fun v hv => hok ⟨v, hv⟩) w hE
    have hV : Hid (rdV s.data.toList = 0) := by show _ = _; rw [rdV, hb]; rfl
    have HB := Lib.hid hb
    clear hb hok hE htab
    go_enter Tryd.func68, Tryd.ntmps68
    go_wp2_with fail
    (with_reducible refine HP.mono ?_)
    rintro e w1 ⟨v, N, rfl, hb1⟩
    clear HP
    go_wp2
    go_ret2
    exact ⟨by rw [hV.out, HB.out]; rfl, hb1⟩
end Go.Proofs.YtlcckgpidjneeaaDoor
