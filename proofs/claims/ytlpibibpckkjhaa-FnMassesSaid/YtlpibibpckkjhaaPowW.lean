/-
  Contracts: powers (impl.powerOf, spec.l06Powers) and numbers without their sign (impl.magnitude, spec.l06Size), whatever the numbers.
-/
import Derived.Test.YtlpibibpckkjhaaMatW
namespace Go.Proofs.Ytlpibibpckkjhaa
open Go.RowKit

theorem o4a : Op4 .add := .inl rfl
theorem o4s : Op4 .sub := .inr (.inl rfl)
theorem o4m : Op4 .mul := .inr (.inr (.inl rfl))
theorem o4q : Op4 .quo := .inr (.inr (.inr rfl))
theorem neg32 (x : Nat) (w : World) : (Op.unary .neg (.float .f32 x)).run Try.prog w = .ok (.float .f32 (Op.negFloat .f32 x)) w := rfl

theorem powerOf_any (x t : Nat) (ht : t < 100) (w : World) :
    Calls Try.prog 74 #[.float .f32 x, .int .i64 (t : Int)] w fun e w' => ∃ z m, e = .returned (.float .f32 z) ∧ cn z = powO (cn x) t ∧ w' = w.drewN m := by
  have HM := fun a b w => run_op o4m a b w
  go_enter Try.func74, Try.ntmps74
  go_wp2
  go_loopw [5, 7] (fun o q wr => ∃ k z : Nat, k ≤ t ∧ q = .int .i64 (k : Int) ∧ o = .float .f32 z ∧ Hid (cn z = powO (cn x) k) ∧ ∃ m, wr = w.drewN m) (fun _ q _ => t - (intOf q).toNat)
  case atStart => exact ⟨0, _, Nat.zero_le _, rfl, rfl, cn_one, 0, rfl⟩
  case round =>
    obtain ⟨k, z, hk, rfl, rfl, hz, m, rfl⟩ := hrel
    by_cases hlt : k < t
    · go_wp2
      exact ⟨⟨k + 1, _, by omega, by go_num, rfl, by show _ = _; rw [cn_op o4m, hz.out]; rfl, _, rfl⟩, by simp [intOf]; omega⟩
    · obtain rfl : k = t := by omega
      go_wp2
      go_ret
      exact ⟨z, m, rfl, hz.out, rfl⟩

theorem magnitude_any (x : Nat) : ∃ z, Mg z x ∧ ∀ w, Calls Try.prog 75 #[.float .f32 x] w fun e w' => e = .returned (.float .f32 z) ∧ w' = w := by
  have kn := neg32 x
  cases h : (FloatKind.f32.format.order x 0 == some .lt) with
  | true =>
    have h' := mg_neg x (by simpa using h)
    refine ⟨_, h', fun w => ?_⟩
    clear h'
    go_enter Try.func75, Try.ntmps75
    go_wp2
    go_ret
    exact ⟨rfl, rfl⟩
  | false =>
    have h' := mg_self x (by intro e; rw [e] at h; cases h)
    refine ⟨_, h', fun w => ?_⟩
    clear h'
    go_enter Try.func75, Try.ntmps75
    go_wp2
    go_ret
    exact ⟨rfl, rfl⟩
theorem Vec.of_row {w : World} {base g c n : Nat} {l : List Nat} (h : w.ownsRow base 25 1 (.slice (some ⟨g, 0, none⟩) n c) n (flts l)) : Vec w g n (fun i => cn (l.getD i 0)) := by
  have hl := h.1
  simp at hl
  obtain ⟨cs, hb, e1, e2, e3⟩ := blk_of_row h
  refine ⟨fun i hi => ?_, fun i hi => hb.frozen i⟩
  refine ⟨l.getD i 0, ?_, rfl⟩
  rw [hb.cell i]
  have h2 : (flts l)[i]? = some (.float .f32 (l.getD i 0)) := flts_at (by omega)
  rw [← e2, List.getElem?_take, if_pos hi] at h2
  simpa using h2

end Go.Proofs.Ytlpibibpckkjhaa
