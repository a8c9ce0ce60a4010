/-
  The law FnExactFitPoly: it returns true, whatever the arguments. No condition.
-/
import Derived.Test.YtakkmcplhihjiaaRows
import Derived.WalkKit
import Derived.ProofKit
import Derived.OpenShut
import Derived.ShutString
import Derived.ChangeOld
import Derived.Below
import Derived.Deep.Slices
import Derived.Test.YtakkmcplhihjiaaLawFit
import Derived.Test.YtakkmcplhihjiaaFitB
namespace Go.Proofs.Ytakkmcplhihjiaa.fnExactFitPoly
open Go.ChangeShapes Go.WideShapes Go.ChangeAt Go.RowKit
open Go.ChangeMaps (open_string shut_string)
set_option linter.unusedVariables false

theorem own : ownKnob Try.prog.godebug = none := by kernel_rfl
theorem laidOut : laidOutB Try.prog = true := by kernel_rfl

/-- A value that reads as a 32-bit number is one. -/
theorem float_of {H : Type} {enc : TypeId × Value → H} {P : Program} {w : World} {base : Nat} {spare : Nat → Bool} {held : Bool} {t : TypeId} {n : Nat} {v : Value} {y : DataW H × List MemPlace}
    (ht : P.underlying t = some (.float .f32)) (h : DataW.trod enc P w base spare held n t [v] = some y) : ∃ b, v = .float .f32 b := by
  cases n with
  | zero => simp [DataW.trod] at h
  | succ n =>
    cases v with
    | float k b =>
      simp only [DataW.trod, ht] at h
      by_cases hk : k = .f32
      · subst hk; exact ⟨b, rfl⟩
      · simp [hk] at h
    | _ => simp [DataW.trod, ht] at h
/-- A slice of 32-bit numbers that came in, as the walk reads it. -/
theorem reads_of {H : Type} {enc : TypeId × Value → H} {P : Program} {w : World} {spare : Nat → Bool} {held : Bool} {t e : TypeId} {fuel : Nat} {a : Option Addr} {len cap : Nat} {x : DataW H × List MemPlace}
    (ht : P.underlying t = some (.slice e)) (he : P.underlying e = some (.float .f32)) (hc : P.cellsOf e = 1) (h : DataW.trod enc P w 0 spare held fuel t (Value.slice a len cap).cells.toList = some x) :
    ∃ l : List Nat, l.length = len ∧ Reads w w.heap.size 1 a l.length (flts l) := by
  rcases Go.Deep.open_slice1 ht hc h with ⟨hcs, -⟩ | ⟨ad, len', cap', m, n, V, D, Pl, hcs, -, hl, -, hm, -, hx⟩
  · simp [Value.cells] at hcs
    obtain ⟨rfl, rfl, rfl⟩ := hcs
    exact ⟨[], rfl, Reads.none_⟩
  · simp [Value.cells] at hcs
    obtain ⟨rfl, rfl, rfl⟩ := hcs
    have hle : len ≤ m := by rw [hm]; split <;> omega
    have key : ∀ k, k ≤ len → ∃ l : List Nat, l.length = k ∧ ∀ i, i < k → w.cell? (ad.add i) = some (.float .f32 (l.getD i 0)) := by
      intro k
      induction k with
      | zero => exact fun _ => ⟨[], rfl, fun i hi => absurd hi (Nat.not_lt_zero _)⟩
      | succ k ih =>
        intro hk
        obtain ⟨l, h1, h2⟩ := ih (by omega)
        obtain ⟨h3, h4⟩ := hx k (by omega)
        obtain ⟨b, hb⟩ := float_of he h4
        refine ⟨l ++ [b], by simp [h1], fun i hi => ?_⟩
        rcases Nat.lt_or_ge i k with hlt | hge
        · rw [h2 i hlt]
          simp [List.getD, List.getElem?_append_left (show i < l.length by omega)]
        · obtain rfl : i = k := by omega
          rw [h3, hb, ← h1]
          simp [List.getD]
    obtain ⟨l, h1, h2⟩ := key len (Nat.le_refl _)
    refine ⟨l, h1, by simp, fun hn => ⟨ad, rfl, ?_, fun j u hu => ?_⟩⟩
    · have h3 := World.block_lt_of_cell? w _ (h2 0 (by omega))
      rwa [block_of_add] at h3
    · have hj := (List.getElem?_eq_some_iff.1 hu).1
      rw [flts_len] at hj
      rw [flts_at hj] at hu
      rw [h2 j (by omega)]
      exact hu

theorem walk (a0 : Option Addr) (cap0 : Nat) (a1 : Option Addr) (cap1 : Nat) (a2 : Option Addr) (cap2 : Nat) (l0 l1 l2 : List Nat) (a3 : Int) (w : World) (r0 : Reads w w.heap.size 1 a0 l0.length (flts l0)) (r1 : Reads w w.heap.size 1 a1 l1.length (flts l1)) (r2 : Reads w w.heap.size 1 a2 l2.length (flts l2)) :
    Calls Try.prog 4 #[.slice a0 l0.length cap0, .slice a1 l1.length cap1, .slice a2 l2.length cap2, .int .i64 a3] w fun e w' => e = .returned (.bool true) ∧ Below w.heap.size w w' := by
  by_cases h0 : l0.length ≤ 1048576
  · by_cases h1 : l1.length ≤ 1048576
    · by_cases h2 : l2.length ≤ 1048576
      · have hl : ((fitAns l0 l1 l2 a3).getD []).length ≤ 17 ∧ Wids ((fitAns l0 l1 l2 a3).getD []) := by
          cases e : fitAns l0 l1 l2 a3 with
          | none => exact ⟨Nat.zero_le _, fun _ hk => absurd hk (Nat.not_lt_zero _)⟩
          | some l => exact ⟨(ans_ok e).2.1, (ans_ok e).2.2⟩
        exact lawFit_in a0 a1 a2 cap0 cap1 cap2 l0 l1 l2 a3 _ _
          (fun A1 A2 A3 c1 c2 c3 W k1 k2 k3 => (fitS A1 A2 A3 c1 c2 c3 l0 l1 l2 a3 W k1 k2 k3 h0 h1).mono fun _ _ h => givesF_any h)
          (fun A1 A2 A3 c1 c2 c3 W k1 k2 k3 => (fitI A1 A2 A3 c1 c2 c3 l0 l1 l2 a3 W k1 k2 k3 h0 h1 h2).mono fun _ _ h => givesF_any h)
          hl.1 hl.2 w r0 r1 r2 h0 h1 h2
      · clear r0 r1 r2
        go_enter Try.func4, Try.ntmps4
        go_wp2_with fail
        go_ret
        exact ⟨rfl, Below.refl _ _⟩
    · clear r0 r1 r2
      go_enter Try.func4, Try.ntmps4
      go_wp2_with fail
      go_ret
      exact ⟨rfl, Below.refl _ _⟩
  · clear r0 r1 r2
    go_enter Try.func4, Try.ntmps4
    go_wp2_with fail
    go_ret
    exact ⟨rfl, Below.refl _ _⟩

/-! ### THE ROW's STEP -/
set_option maxRecDepth 100000 in
theorem lifted (os : Os) (started : os.Started) (H : Type) (enc : TypeId × Value → H) :
    ReturnsInHanded {} Try.checked os 4 .any (Rows.fnExactFitPolySpec.pre6 enc Try.prog Try.f4 Rows.fnExactFitPolyRow.domain false) (Rows.fnExactFitPolySpec.post enc Try.prog Try.f4 false true false false) := by
  refine returnsInHanded_of_change (C := Try.checked) own started (by kernel_rfl) Try.func4
    (ChangeSpec.witness6 (enc := enc) (C := Try.checked) false ⟨#[], #[.slice none 0 0, .slice none 0 0, .slice none 0 0, .int .i64 0], []⟩ 8 (by kernel_rfl) (by kernel_rfl) (by kernel_rfl) (by kernel_rfl)) ?_
  intro W base args ds gs before hval0 hW hcnd _
  have hval : ∀ (j : Nat) t v, Try.f4.params[j]? = some t → args[j]? = some v → Value.okWide Try.prog W .any base t v := hval0
  have hW' := hW
  obtain ⟨p, q, hA0, hV, rfl, hfz, hnd⟩ := hW
  have hA : DataW.TrodAll enc Try.prog W 0 (fun _ => true) true Try.f4.params.toList args.toList ds p := hA0
  rw [Try.params4] at hA hval
  obtain ⟨v0, vs0, d0, ds0, p0, q0, hargs, rfl, rfl, h0, r0⟩ := trodAll_cons hA
  obtain ⟨v1, vs1, d1, ds1, p1, q1, rfl, rfl, rfl, h1, r1⟩ := trodAll_cons r0
  obtain ⟨v2, vs2, d2, ds2, p2, q2, rfl, rfl, rfl, h2, r2⟩ := trodAll_cons r1
  obtain ⟨v3, vs3, d3, ds3, p3, q3, rfl, rfl, rfl, h3, r3⟩ := trodAll_cons r2
  obtain ⟨rfl, rfl, rfl⟩ := trodAll_nil r3
  obtain rfl : args = #[v0, v1, v2, v3] := by cases args; simp_all
  obtain ⟨rfl, rfl⟩ := trodVars_none hV
  obtain ⟨a0, len0, cap0, rfl⟩ := okWide_slice Try.underlying22 (hval 0 22 v0 rfl rfl)
  have k0 := h0
  have lt0 : ∀ x ∈ p0, x.block < W.heap.size := by obtain ⟨m, hm⟩ := k0; exact DataW.trod_lt m _ _ _ hm
  obtain ⟨l0, hl0, w0⟩ : ∃ l : List Nat, l.length = len0 ∧ Reads W W.heap.size 1 a0 l.length (flts l) := by
    obtain ⟨fuel, hf⟩ := h0
    exact reads_of Try.underlying22 Try.underlying38 (by kernel_rfl) hf
  subst hl0
  obtain ⟨a1, len1, cap1, rfl⟩ := okWide_slice Try.underlying22 (hval 1 22 v1 rfl rfl)
  have k1 := h1
  have lt1 : ∀ x ∈ p1, x.block < W.heap.size := by obtain ⟨m, hm⟩ := k1; exact DataW.trod_lt m _ _ _ hm
  obtain ⟨l1, hl1, w1⟩ : ∃ l : List Nat, l.length = len1 ∧ Reads W W.heap.size 1 a1 l.length (flts l) := by
    obtain ⟨fuel, hf⟩ := h1
    exact reads_of Try.underlying22 Try.underlying38 (by kernel_rfl) hf
  subst hl1
  obtain ⟨a2, len2, cap2, rfl⟩ := okWide_slice Try.underlying22 (hval 2 22 v2 rfl rfl)
  have k2 := h2
  have lt2 : ∀ x ∈ p2, x.block < W.heap.size := by obtain ⟨m, hm⟩ := k2; exact DataW.trod_lt m _ _ _ hm
  obtain ⟨l2, hl2, w2⟩ : ∃ l : List Nat, l.length = len2 ∧ Reads W W.heap.size 1 a2 l.length (flts l) := by
    obtain ⟨fuel, hf⟩ := h2
    exact reads_of Try.underlying22 Try.underlying38 (by kernel_rfl) hf
  subst hl2
  obtain ⟨a3, rfl, rfl, rfl, w3⟩ := open_int Try.underlying2 (hval 3 2 v3 rfl rfl) h3
  clear hA0 hval0
  refine (walk a0 cap0 a1 cap1 a2 cap2 l0 l1 l2 a3 W w0 w1 w2).mono fun e W' ⟨he, bel⟩ => ?_
  subst he
  exact ⟨_, rfl, _, _, _, [], _, [], hW', trodAll_mk1 (shut_bool Try.underlying4 _), (trodAll_cons_mk (Below.trod laidOut (by kernel_rfl) (of_decide_eq_true (by kernel_rfl)) k0 bel lt0) (trodAll_cons_mk (Below.trod laidOut (by kernel_rfl) (of_decide_eq_true (by kernel_rfl)) k1 bel lt1) (trodAll_cons_mk (Below.trod laidOut (by kernel_rfl) (of_decide_eq_true (by kernel_rfl)) k2 bel lt2) (trodAll_cons_mk (shut_int Try.underlying2 w3) trodAll_mk0)))), rfl, bel.frame _, fun h => by cases h⟩

theorem over : Rows.fnExactFitPolyRow.holds Try.pinned (OpenSpec.ofChange Rows.fnExactFitPolySpec) :=
  OpenClaim.holds_of_wide 4 Try.f4 rfl rfl rfl rfl rfl rfl rfl ⟨rfl, rfl, rfl, rfl, rfl⟩ rfl rfl rfl rfl rfl (by kernel_rfl) Try.func4 (by kernel_rfl)
    (of_decide_eq_true (by kernel_rfl)) (by unfold Func.isWrapper; first | (rw [if_pos (by decide +kernel)]; kernel_rfl) | (rw [if_neg (by decide +kernel)]; exact ⟨rfl, rfl⟩))
    (fun os started H enc _ => lifted os started H enc)

/-- THE STATEMENT -/
theorem proved : Rows.FnExactFitPolySaid := over
#print axioms proved
end Go.Proofs.Ytakkmcplhihjiaa.fnExactFitPoly
