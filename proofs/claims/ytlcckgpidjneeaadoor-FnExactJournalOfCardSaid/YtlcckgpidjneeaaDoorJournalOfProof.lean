/-
  The law FnExactJournalOf: it returns true, whatever the arguments: the row, and the card that ties the listed variables to the program's text. No condition.
-/
import Derived.Test.YtlcckgpidjneeaaDoorRows
import Derived.WalkKit
import Derived.ProofKit
import Derived.OpenShut
import Derived.ShutString
import Derived.Below
import Derived.SliceStrings
import Derived.LaidMore
import Derived.Lay
import Derived.SevenTiedAt
import Derived.Stop.Joined
import Derived.Test.YtlcckgpidjneeaaDoorCards
import Derived.Test.YtlcckgpidjneeaaDoorTie
import Derived.Test.YtlcckgpidjneeaaDoorLawJou
import Derived.Test.YtlcckgpidjneeaaDoorPow
namespace Go.Proofs.YtlcckgpidjneeaaDoor.fnExactJournalOf
open Go.ChangeShapes Go.WideShapes Go.ChangeAt Go.RowKit
open Go.ChangeMaps (open_string shut_string)
set_option linter.unusedVariables false      -- a walk need not use every 'w<i>' (that an integer argument fits its kind)

theorem laidOut : laidOutB Tryd.prog = true := by kernel_rfl
theorem own : ownKnob Tryd.prog.godebug = none := by kernel_rfl

theorem walk (a0 : Option Addr) (len0 cap0 : Nat) (zs : List (List UInt8)) (w : World) (hl : zs.length = len0) (hr : Reads w w.heap.size 1 a0 len0 (strs zs)) (hm : len0 ≤ maxLen) (hz : ∀ x ∈ zs, x.length ≤ maxLen) (hL : laidMetH Tryd.prog Rows.fnExactJournalOfRow.laid w) :
    Calls Tryd.prog 5 #[.slice a0 len0 cap0] w fun e w' => e = .returned (.bool true) ∧ Below w.heap.size w w' := by
  rw [MakeChecks.laidMetH_plain _ _ _ (by kernel_rfl)] at hL
  subst hl
  exact lawJou a0 cap0 zs w hr hm hz (Lib.tabBelow_of_tabIs (pow_tab hL))

theorem reads_of {w : World} {a : Addr} {len cap : Nat} {ss : List ByteArray} (hl : len ≤ cap) (hz : ss.length = cap) (hc : ∀ i, i < ss.length → w.cell? (a.add i) = some (.string (ss.getD i ByteArray.empty))) :
    ((ss.take len).map (·.data.toList)).length = len ∧ Reads w w.heap.size 1 (some a) len (strs ((ss.take len).map (·.data.toList))) := by
  have h1 : ((ss.take len).map (·.data.toList)).length = len := by simp; omega
  refine ⟨h1, by rw [strs_len]; omega, fun hn => ⟨a, rfl, ?_, fun j u hu => ?_⟩⟩
  · have := World.block_lt_of_cell? w _ (hc 0 (by omega))
    rwa [block_of_add] at this
  · obtain ⟨hj, hv⟩ := List.getElem?_eq_some_iff.1 hu
    rw [strs_len, h1] at hj
    rw [hc j (by omega), ← hv]
    simp [strs, txt_of, List.getD, List.getElem?_eq_getElem (show j < ss.length by omega)]

/-! ### THE ROW's STEP: WRITTEN OUT: LEAVE IT -/
set_option maxRecDepth 100000 in
theorem lifted (os : Os) (started : os.Started) (H : Type) (enc : TypeId × Value → H) :
    ReturnsInHanded {} Tryd.checked os 5 .any (fun w args => (Rows.fnExactJournalOfSpec.pre enc Tryd.prog Tryd.f5 Rows.fnExactJournalOfRow.domain false w args ∧ laidMetH Tryd.prog Rows.fnExactJournalOfRow.laid w) ∧ sizedMet enc Tryd.prog Tryd.f5 (OpenSpec.ofChange Rows.fnExactJournalOfSpec) false w args) (Rows.fnExactJournalOfSpec.post enc Tryd.prog Tryd.f5 false true false false) := by
  refine returns_laid (C := Tryd.checked) (X := fun w _ => laidMetH Tryd.prog Rows.fnExactJournalOfRow.laid w) (fun _ _ _ hh h => h.of_heap hh) own started (by kernel_rfl) Tryd.func5
    (ChangeSpec.witness_shaped (enc := enc) (C := Tryd.checked) (os := os) (X := fun w _ => laidMetH Tryd.prog Rows.fnExactJournalOfRow.laid w) false (World.laidAll Tryd.prog os Rows.fnExactJournalOfRow.laid) #[.slice none 0 0] 8 (World.laidAll_os _ _ _)
      (World.shaped_of_ZipB (by kernel_rfl) (by kernel_rfl)) (by kernel_rfl) (by kernel_rfl) (by kernel_rfl)
      (by rw [MakeChecks.laidMetH_plain _ _ _ (by kernel_rfl)]; exact laidMet_laidAll _ (by kernel_rfl) (by kernel_rfl))) ?_
  intro W base args ds gs before hval0 hW hsh hL
  have hval : ∀ (j : Nat) t v, Tryd.f5.params[j]? = some t → args[j]? = some v → Value.okWide Tryd.prog W .any base t v := hval0
  have hW' := hW
  obtain ⟨p, q, hA0, hV, rfl, hfz, hnd⟩ := hW
  have hA : DataW.TrodAll enc Tryd.prog W 0 (fun _ => true) true Tryd.f5.params.toList args.toList ds p := hA0
  rw [Tryd.params5] at hA hval
  obtain ⟨v0, vs0, d0, ds0, p0, q0, hargs, rfl, rfl, h0, r0⟩ := trodAll_cons hA
  obtain ⟨rfl, rfl, rfl⟩ := trodAll_nil r0
  obtain rfl : args = #[v0] := by cases args; simp_all
  obtain ⟨rfl, rfl⟩ := trodVars_none hV
  obtain ⟨a0, len0, cap0, rfl⟩ := okWide_slice Tryd.underlying35 (hval 0 35 v0 rfl rfl)
  have k0 := h0
  have lt0 : ∀ x ∈ p0, x.block < W.heap.size := by obtain ⟨m, hm⟩ := k0; exact DataW.trod_lt m _ _ _ hm
  obtain ⟨zs, hzl, hzr, hzm, hzz⟩ : ∃ zs : List (List UInt8), zs.length = len0 ∧ Reads W W.heap.size 1 a0 len0 (strs zs) ∧ len0 ≤ maxLen ∧ ∀ x ∈ zs, x.length ≤ maxLen := by
    obtain ⟨fuel, hf⟩ := h0
    rcases open_strings Tryd.underlying35 Tryd.underlying9 (by kernel_rfl) hf with ⟨hcs, _⟩ | ⟨x, l, c, ss, hcs, _, hl, hm, hz, _, hcell, hwz⟩
    · simp [Value.cells] at hcs
      obtain ⟨rfl, rfl, rfl⟩ := hcs
      exact ⟨[], rfl, Reads.none_, by simp [maxLen], by simp⟩
    · simp [Value.cells] at hcs
      obtain ⟨rfl, rfl, rfl⟩ := hcs
      have hr := reads_of hl (by simpa using hz) hcell
      refine ⟨_, hr.1, hr.2, Nat.le_trans hl hm, fun y hy => ?_⟩
      obtain ⟨s, hs, rfl⟩ := List.mem_map.1 hy
      have := hwz s (List.mem_of_mem_take hs)
      rwa [Lib.size_eq] at this
  clear hA0 hval0
  refine (walk a0 len0 cap0 zs W hzl hzr hzm hzz hL).mono fun e W' ⟨he, bel⟩ => ?_
  subst he
  exact ⟨_, rfl, _, _, _, [], _, [], hW', (trodAll_cons_mk (shut_bool Tryd.underlying4 _) trodAll_mk0), (trodAll_cons_mk (Below.trod laidOut (by kernel_rfl) (of_decide_eq_true (by kernel_rfl)) k0 bel lt0) trodAll_mk0), rfl, bel.frame _, fun h => by cases h⟩

theorem over : Rows.fnExactJournalOfRow.holds Tryd.pinned (OpenSpec.ofChange Rows.fnExactJournalOfSpec) :=
  OpenClaim.holds_of_wide 5 Tryd.f5 rfl rfl rfl rfl rfl rfl rfl ⟨rfl, rfl, rfl, rfl, rfl⟩ rfl rfl rfl rfl rfl (by kernel_rfl) Tryd.func5 (by kernel_rfl)
    (of_decide_eq_true (by kernel_rfl)) (by unfold Func.isWrapper; first | (rw [if_pos (by decide +kernel)]; kernel_rfl) | (rw [if_neg (by decide +kernel)]; exact ⟨rfl, rfl⟩))
    (fun os started H enc _ => lifted os started H enc)

theorem row : Rows.FnExactJournalOfSaid := over

/-- ████ THE STATEMENT ████ -/
theorem proved : Rows.FnExactJournalOfCardSaid :=
  Claim7.holds_tied_plain_at .later [] [.data, .data, .data] true (true, "de46b4abbd2b27ff5b2332af893e3bf15004cb1327a2b1db3027b0c4bcb2f53d") true row (fun _ h => by cases h) (by kernel_rfl) (fun _ h => by cases h) fnExactJournalOf_row_tie rfl ⟨rfl, rfl⟩ (by kernel_rfl) rfl
    (fun f fn hf hfn => by
      obtain rfl : f = 5 := Option.some.inj ((show Tryd.prog.funcNamed Rows.fnExactJournalOfRow.func = some 5 by kernel_rfl).symm.trans hf) |>.symm
      obtain rfl : fn = Tryd.f5 := (Option.some.inj (Tryd.func5.symm.trans hfn)).symm
      exact ⟨by kernel_rfl, fun j t ht => by
        rw [Tryd.params5] at ht
        have hm : t ∈ [35] := by simpa using Array.mem_of_getElem? ht
        have hall : ([35].all fun u => !Tryd.prog.wantsStandIn u) = true := by kernel_rfl
        exact (show Tryd.prog.wantsStandIn t = false by simpa using List.all_eq_true.1 hall t hm)⟩)
    (by kernel_rfl)
#print axioms proved
end Go.Proofs.YtlcckgpidjneeaaDoor.fnExactJournalOf
