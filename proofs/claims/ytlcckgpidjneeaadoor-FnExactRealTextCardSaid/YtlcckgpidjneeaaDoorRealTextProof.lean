/-
  The law FnExactRealText: it returns true, whatever the arguments: the row, and the card that ties the listed variables to the program's text. No condition.
-/
import Derived.Test.YtlcckgpidjneeaaDoorRows
import Derived.WalkKit
import Derived.ProofKit
import Derived.OpenShut
import Derived.ShutString
import Derived.Below
import Derived.SliceStrings
import Derived.LaidMore
import Derived.Lay
import Derived.SevenTiedAt
import Derived.Stop.Joined
import Derived.Test.YtlcckgpidjneeaaDoorCards
import Derived.Test.YtlcckgpidjneeaaDoorTie
import Derived.Test.YtlcckgpidjneeaaDoorLawReal
import Derived.Test.YtlcckgpidjneeaaDoorPow
namespace Go.Proofs.YtlcckgpidjneeaaDoor.fnExactRealText
open Go.ChangeShapes Go.WideShapes Go.ChangeAt Go.RowKit
open Go.ChangeMaps (open_string shut_string)
set_option linter.unusedVariables false      -- a walk need not use every 'w<i>' (that an integer argument fits its kind)

theorem laidOut : laidOutB Tryd.prog = true := by kernel_rfl
theorem own : ownKnob Tryd.prog.godebug = none := by kernel_rfl

theorem walk (a0 : Option Addr) (len0 cap0 : Nat) (zs : List Int) (w : World) (hl : zs.length = len0) (hr : Reads w w.heap.size 1 a0 len0 (ints zs)) (hm : len0 ≤ maxLen) (hL : laidMetH Tryd.prog Rows.fnExactRealTextRow.laid w) :
    Calls Tryd.prog 4 #[.agg #[.slice a0 len0 cap0]] w fun e w' => e = .returned (.bool true) ∧ Below w.heap.size w w' := by
  rw [MakeChecks.laidMetH_plain _ _ _ (by kernel_rfl)] at hL
  subst hl
  exact lawReal a0 cap0 zs w hr hm (Lib.tabBelow_of_tabIs (pow_tab hL))

theorem reads_of {w : World} {a : Addr} {len cap : Nat} {zs : List Int} (hl : len ≤ cap) (hz : zs.length = cap) (hc : ∀ i, i < zs.length → w.cell? (a.add i) = some (.int .i64 (zs.getD i 0))) :
    (zs.take len).length = len ∧ Reads w w.heap.size 1 (some a) len (ints (zs.take len)) := by
  have h1 : (zs.take len).length = len := by rw [List.length_take]; omega
  refine ⟨h1, by rw [ints_len]; omega, fun hn => ⟨a, rfl, ?_, fun j u hu => ?_⟩⟩
  · have := World.block_lt_of_cell? w _ (hc 0 (by omega))
    rwa [block_of_add] at this
  · obtain ⟨hj, hv⟩ := List.getElem?_eq_some_iff.1 hu
    rw [ints_len, h1] at hj
    rw [hc j (by omega), ← hv]
    simp [ints, List.getD, List.getElem?_eq_getElem (show j < zs.length by omega)]

/-- A struct of one field of one cell, by value, opened. -/
theorem open_agg1 {H : Type} {enc : TypeId × Value → H} {P : Program} {w : World} {base : Nat} {spare : Nat → Bool} {held : Bool} {r : Reach} {b0 : Nat} {t : TypeId} {f0 : Field} {v : Value} {d : DataW H} {p : List MemPlace}
    (hs : P.underlying t = some (.struct #[f0])) (ho : f0.offset = 0) (hk : P.cellsOf f0.type = 1) (hC : P.cellsOf t = 1) (hv : Value.okWide P w r b0 t v) (h : DataW.Trod enc P w base spare held t v d p) :
    ∃ (v0 : Value) (y0 : DataW H × List MemPlace) (n : Nat), v = .agg #[v0] ∧ DataW.trod enc P w base spare held n f0.type [v0] = some y0 := by
  obtain ⟨cs, rfl, hsz⟩ := okWide_struct hs hv
  obtain ⟨l⟩ := cs
  match l, hsz.trans hC with
  | [c0], _ =>
    obtain ⟨fuel, hf⟩ := h
    obtain ⟨xs, n, _, _, _, hlen, hx⟩ := DataW.trod_struct hs hf
    match xs, hlen with
    | [y0], _ => exact ⟨c0, y0, n, rfl, by simpa [Value.cells, ho, hk] using hx 0 f0 rfl⟩

/-! ### THE ROW's STEP: WRITTEN OUT: LEAVE IT -/
set_option maxRecDepth 100000 in
theorem lifted (os : Os) (started : os.Started) (H : Type) (enc : TypeId × Value → H) :
    ReturnsInHanded {} Tryd.checked os 4 .any (fun w args => (Rows.fnExactRealTextSpec.pre enc Tryd.prog Tryd.f4 Rows.fnExactRealTextRow.domain false w args ∧ laidMetH Tryd.prog Rows.fnExactRealTextRow.laid w) ∧ sizedMet enc Tryd.prog Tryd.f4 (OpenSpec.ofChange Rows.fnExactRealTextSpec) false w args) (Rows.fnExactRealTextSpec.post enc Tryd.prog Tryd.f4 false true false false) := by
  refine returns_laid (C := Tryd.checked) (X := fun w _ => laidMetH Tryd.prog Rows.fnExactRealTextRow.laid w) (fun _ _ _ hh h => h.of_heap hh) own started (by kernel_rfl) Tryd.func4
    (ChangeSpec.witness_shaped (enc := enc) (C := Tryd.checked) (os := os) (X := fun w _ => laidMetH Tryd.prog Rows.fnExactRealTextRow.laid w) false (World.laidAll Tryd.prog os Rows.fnExactRealTextRow.laid) #[.agg #[.slice none 0 0]] 8 (World.laidAll_os _ _ _)
      (World.shaped_of_ZipB (by kernel_rfl) (by kernel_rfl)) (by kernel_rfl) (by kernel_rfl) (by kernel_rfl)
      (by rw [MakeChecks.laidMetH_plain _ _ _ (by kernel_rfl)]; exact laidMet_laidAll _ (by kernel_rfl) (by kernel_rfl))) ?_
  intro W base args ds gs before hval0 hW hsh hL
  have hval : ∀ (j : Nat) t v, Tryd.f4.params[j]? = some t → args[j]? = some v → Value.okWide Tryd.prog W .any base t v := hval0
  have hW' := hW
  obtain ⟨p, q, hA0, hV, rfl, hfz, hnd⟩ := hW
  have hA : DataW.TrodAll enc Tryd.prog W 0 (fun _ => true) true Tryd.f4.params.toList args.toList ds p := hA0
  rw [Tryd.params4] at hA hval
  obtain ⟨v0, vs0, d0, ds0, p0, q0, hargs, rfl, rfl, h0, r0⟩ := trodAll_cons hA
  obtain ⟨rfl, rfl, rfl⟩ := trodAll_nil r0
  obtain rfl : args = #[v0] := by cases args; simp_all
  obtain ⟨rfl, rfl⟩ := trodVars_none hV
  have k0 := h0
  have lt0 : ∀ x ∈ p0, x.block < W.heap.size := by obtain ⟨m, hm⟩ := k0; exact DataW.trod_lt m _ _ _ hm
  obtain ⟨u0, y0, fuel, rfl, hf⟩ := open_agg1 Tryd.underlying27 rfl (by kernel_rfl) (by kernel_rfl) (hval 0 27 v0 rfl rfl) h0
  obtain ⟨a0, len0, cap0, zs, rfl, hzl, hzr, hzm⟩ : ∃ a0 len0 cap0, ∃ zs : List Int, u0 = .slice a0 len0 cap0 ∧ zs.length = len0 ∧ Reads W W.heap.size 1 a0 len0 (ints zs) ∧ len0 ≤ maxLen := by
    rcases open_ints Tryd.underlying25 Tryd.underlying2 (by kernel_rfl) hf with ⟨hcs, _⟩ | ⟨x, l, c, zs, hcs, _, hl, hm, hz, _, hcell, hwz⟩
    · obtain rfl : u0 = .slice none 0 0 := by simpa using hcs
      exact ⟨none, 0, 0, [], rfl, rfl, Reads.none_, by simp [maxLen]⟩
    · obtain rfl : u0 = .slice (some x) l c := by simpa using hcs
      have hr := reads_of hl (by simpa using hz) hcell
      exact ⟨some x, l, c, _, rfl, hr.1, hr.2, Nat.le_trans hl hm⟩
  clear hA0 hval0
  refine (walk a0 len0 cap0 zs W hzl hzr hzm hL).mono fun e W' ⟨he, bel⟩ => ?_
  subst he
  exact ⟨_, rfl, _, _, _, [], _, [], hW', (trodAll_cons_mk (shut_bool Tryd.underlying4 _) trodAll_mk0), (trodAll_cons_mk (Below.trod laidOut (by kernel_rfl) (of_decide_eq_true (by kernel_rfl)) k0 bel lt0) trodAll_mk0), rfl, bel.frame _, fun h => by cases h⟩

theorem over : Rows.fnExactRealTextRow.holds Tryd.pinned (OpenSpec.ofChange Rows.fnExactRealTextSpec) :=
  OpenClaim.holds_of_wide 4 Tryd.f4 rfl rfl rfl rfl rfl rfl rfl ⟨rfl, rfl, rfl, rfl, rfl⟩ rfl rfl rfl rfl rfl (by kernel_rfl) Tryd.func4 (by kernel_rfl)
    (of_decide_eq_true (by kernel_rfl)) (by unfold Func.isWrapper; first | (rw [if_pos (by decide +kernel)]; kernel_rfl) | (rw [if_neg (by decide +kernel)]; exact ⟨rfl, rfl⟩))
    (fun os started H enc _ => lifted os started H enc)

theorem row : Rows.FnExactRealTextSaid := over

/-- ████ THE STATEMENT ████ -/
theorem proved : Rows.FnExactRealTextCardSaid :=
  Claim7.holds_tied_plain_at .later [] [.data, .data, .data] true (true, "de46b4abbd2b27ff5b2332af893e3bf15004cb1327a2b1db3027b0c4bcb2f53d") true row (fun _ h => by cases h) (by kernel_rfl) (fun _ h => by cases h) fnExactRealText_row_tie rfl ⟨rfl, rfl⟩ (by kernel_rfl) rfl
    (fun f fn hf hfn => by
      obtain rfl : f = 4 := Option.some.inj ((show Tryd.prog.funcNamed Rows.fnExactRealTextRow.func = some 4 by kernel_rfl).symm.trans hf) |>.symm
      obtain rfl : fn = Tryd.f4 := (Option.some.inj (Tryd.func4.symm.trans hfn)).symm
      exact ⟨by kernel_rfl, fun j t ht => by
        rw [Tryd.params4] at ht
        have hm : t ∈ [27] := by simpa using Array.mem_of_getElem? ht
        have hall : ([27].all fun u => !Tryd.prog.wantsStandIn u) = true := by kernel_rfl
        exact (show Tryd.prog.wantsStandIn t = false by simpa using List.all_eq_true.1 hall t hm)⟩)
    (by kernel_rfl)
#print axioms proved
end Go.Proofs.YtlcckgpidjneeaaDoor.fnExactRealText
