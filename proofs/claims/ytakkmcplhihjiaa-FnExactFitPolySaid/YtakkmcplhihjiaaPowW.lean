/-
  Contracts: powers (impl.powerOf, spec.l06Powers) and numbers without their sign (impl.magnitude, spec.l06Size), whatever the numbers.
-/
import Derived.Test.YtakkmcplhihjiaaMatW
namespace Go.Proofs.Ytakkmcplhihjiaa
open Go.RowKit

theorem o4a : Op4 .add := .inl rfl
theorem o4s : Op4 .sub := .inr (.inl rfl)
theorem o4m : Op4 .mul := .inr (.inr (.inl rfl))
theorem o4q : Op4 .quo := .inr (.inr (.inr rfl))
theorem neg32 (x : Nat) (w : World) : (Op.unary .neg (.float .f32 x)).run Try.prog w = .ok (.float .f32 (Op.negFloat .f32 x)) w := rfl

theorem powerOf_any (x t : Nat) (ht : t < 100) (w : World) :
    Calls Try.prog 33 #[.float .f32 x, .int .i64 (t : Int)] w fun e w' => ∃ z m, e = .returned (.float .f32 z) ∧ cn z = powO (cn x) t ∧ w' = w.drewN m := by
  have HM := fun a b w => run_op o4m a b w
  go_enter Try.func33, Try.ntmps33
  go_wp2
  go_loopw [5, 7] (fun o q wr => ∃ k z : Nat, k ≤ t ∧ q = .int .i64 (k : Int) ∧ o = .float .f32 z ∧ Hid (cn z = powO (cn x) k) ∧ ∃ m, wr = w.drewN m) (fun _ q _ => t - (intOf q).toNat)
  case atStart => exact ⟨0, _, Nat.zero_le _, rfl, rfl, cn_one, 0, rfl⟩
  case round =>
    obtain ⟨k, z, hk, rfl, rfl, hz, m, rfl⟩ := hrel
    by_cases hlt : k < t
    · go_wp2
      exact ⟨⟨k + 1, _, by omega, by go_num, rfl, by show _ = _; rw [cn_op o4m, hz.out]; rfl, _, rfl⟩, by simp [intOf]; omega⟩
    · obtain rfl : k = t := by omega
      go_wp2
      go_ret
      exact ⟨z, m, rfl, hz.out, rfl⟩

theorem magnitude_any (x : Nat) : ∃ z, Mg z x ∧ ∀ w, Calls Try.prog 34 #[.float .f32 x] w fun e w' => e = .returned (.float .f32 z) ∧ w' = w := by
  have kn := neg32 x
  cases h : (FloatKind.f32.format.order x 0 == some .lt) with
  | true =>
    have h' := mg_neg x (by simpa using h)
    refine ⟨_, h', fun w => ?_⟩
    clear h'
    go_enter Try.func34, Try.ntmps34
    go_wp2
    go_ret
    exact ⟨rfl, rfl⟩
  | false =>
    have h' := mg_self x (by intro e; rw [e] at h; cases h)
    refine ⟨_, h', fun w => ?_⟩
    clear h'
    go_enter Try.func34, Try.ntmps34
    go_wp2
    go_ret
    exact ⟨rfl, rfl⟩
theorem l06Size_any (x : Nat) : ∃ z, Mg z x ∧ ∀ w, Calls Try.prog 50 #[.float .f32 x] w fun e w' => e = .returned (.float .f32 z) ∧ w' = w := by
  cases h : (FloatKind.f32.format.order x 0 == some .lt || FloatKind.f32.format.order x 0 == some .eq) with
  | true =>
    obtain ⟨z, h1, h2⟩ := mg_sub x (by simpa using h)
    have k1 := ar32 _ _ _ _ h1
    refine ⟨_, h2, fun w => ?_⟩
    clear h2 h1
    go_enter Try.func50, Try.ntmps50
    go_wp2
    go_ret
    exact ⟨rfl, rfl⟩
  | false =>
    have h' := mg_self x (by intro e; rw [e] at h; cases h)
    refine ⟨_, h', fun w => ?_⟩
    clear h'
    go_enter Try.func50, Try.ntmps50
    go_wp2
    go_ret
    exact ⟨rfl, rfl⟩

theorem Vec.of_row {w : World} {base g c n : Nat} {l : List Nat} (h : w.ownsRow base 38 1 (.slice (some ⟨g, 0, none⟩) n c) n (flts l)) : Vec w g n (fun i => cn (l.getD i 0)) := by
  have hl := h.1
  simp at hl
  obtain ⟨cs, hb, e1, e2, e3⟩ := blk_of_row h
  refine ⟨fun i hi => ?_, fun i hi => hb.frozen i⟩
  refine ⟨l.getD i 0, ?_, rfl⟩
  rw [hb.cell i]
  have h2 : (flts l)[i]? = some (.float .f32 (l.getD i 0)) := flts_at (by omega)
  rw [← e2, List.getElem?_take, if_pos hi] at h2
  simpa using h2

set_option maxRecDepth 100000 in
set_option maxHeartbeats 800000 in
theorem l06Powers_any (x t : Nat) (ht : t < 100) (w : World) :
    Calls Try.prog 27 #[.float .f32 x, .int .i64 (t : Int)] w fun e w' => ∃ V c, e = .returned (.slice (some ⟨V, 0, none⟩) (t + 1) c) ∧ Vec w' V (t + 1) (powO (cn x)) ∧ w.heap.size ≤ V ∧ Below w.heap.size w w' := by
  obtain ⟨i0, hi, hz0, hz1, hz2⟩ := info_parts infoF
  have HM := fun a b w => run_op o4m a b w
  go_enter Try.func27, Try.ntmps27
  go_wp2
  have hown0 : (w.alloc (.cells #[.float .f32 1065353216] 38)).ownsRow w.heap.size 38 1 (.slice (some ⟨w.heap.size, 0, none⟩) 1 1) 1 (flts [1065353216]) := ⟨rfl, .inr ⟨w.heap.size, 1, #[.float .f32 1065353216], rfl, Nat.le_refl _, heap_alloc_new w _, by omega, by simp [maxLen], rfl, rfl⟩⟩
  have hb0 : Below w.heap.size w (w.alloc (.cells #[.float .f32 1065353216] 38)) := (Below.refl _ _).alloc (Nat.le_refl _) _
  have hp0 : ∀ i, i < 1 → cn (([1065353216] : List Nat).getD i 0) = powO (cn x) i := fun i hi => by
    obtain rfl : i = 0 := by omega
    exact cn_one
  go_loopw [5, 6] (fun v q wr => ∃ k : Nat, k ≤ t ∧ q = .int .i64 (k : Int) ∧ (∃ l : List Nat, l.length = k + 1 ∧ Hid (∀ i, i < k + 1 → cn (l.getD i 0) = powO (cn x) i) ∧ wr.ownsRow w.heap.size 38 1 v (k + 1) (flts l)) ∧ Below w.heap.size w wr) (fun _ q _ => t - (intOf q).toNat)
  case atStart => exact ⟨0, Nat.zero_le _, rfl, ⟨_, rfl, hp0, hown0⟩, hb0⟩
  case round =>
    obtain ⟨k, hk, rfl, ⟨l, hl, hp, hown⟩, hbr⟩ := hrel
    clear hown0 hb0 hp0
    have hsz := hbr.size
    obtain ⟨wo, rfl⟩ : ∃ wo : World, wo = wr := ⟨_, rfl⟩
    obtain ⟨g, c, rfl, hg1, hg2⟩ := World.ownsRow.form hown (by omega)
    by_cases hlt : k < t
    · obtain ⟨one, hc1, hx0⟩ := (Vec.of_row hown).cl k (by omega)
      have hx := hx0.trans (hp.out k (by omega))
      clear hx0
      go_wp2_with (at_builtin; refine wpList_append_any _ rfl (.tmp 13) (.tmp 20) _ rfl w.heap.size 38 i0 _ 1 4 Try.underlying22 hi hz0 hz1 hz2 rfl (by omega) (.slice (some ⟨g, 0, none⟩) (k + 1) c) (k + 1) (flts l) rfl (World.ownsRow.alloc (w := wo.drewN (opN .mul one x)) hown _) (wo.heap.size + 1) (some ⟨wo.heap.size, 0, none⟩) 1 1 [.float .f32 (opB .mul one x wo)] rfl (reads_new (wo.drewN (opN .mul one x)) [_] _) (one_flt _) (by simp only [maxLen]; omega) (by omega) (by simp; omega) ?_; intro v1 w3 hown3 hg3 hat3)
      have hb3 : Below w.heap.size wo w3 := ((below_drewN (Below.refl _ _) _).alloc (by simpa using hsz) _).grown hg3 (by simp; omega) (fun j hj => (hown.lt j hj).1)
      rw [flts_snoc] at hown3
      refine ⟨⟨k + 1, by omega, by go_num, ⟨_, by simp [hl], ?_, hown3⟩, hbr.trans hb3⟩, by simp [intOf]; omega⟩
      intro i hi
      rcases Nat.lt_or_ge i (k + 1) with h | h
      · rw [← hp.out i h]
        simp [List.getD, List.getElem?_append_left (show i < l.length by omega)]
      · obtain rfl : i = k + 1 := by omega
        have e : (l ++ [opB .mul one x wo]).getD (k + 1) 0 = opB .mul one x wo := by
          rw [← hl]; simp [List.getD]
        rw [e, cn_op o4m, hx]
        rfl
    · obtain rfl : k = t := by omega
      go_wp2
      go_ret
      exact ⟨g, c, rfl, (Vec.of_row hown).eq (fun i hi => hp.out i hi), hg1, hbr⟩
end Go.Proofs.Ytakkmcplhihjiaa
