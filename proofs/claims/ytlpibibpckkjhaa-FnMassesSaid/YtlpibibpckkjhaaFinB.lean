/-
  Contracts: which numbers are finite (impl.IsFinite, areFinite, IsFiniteComplex, allFinite with the closures between them; spec.l01Finite, l01CFinite, l02CFinite), whatever the numbers.
-/
import Derived.Test.YtlpibibpckkjhaaCplx
import Derived.Test.YtlpibibpckkjhaaFltP
namespace Go.Proofs.Ytlpibibpckkjhaa
open Go.RowKit

theorem ar32 (op : BinOp) (x y r : Nat) (h : floatBits op .f32 x y = some r) (w : World) : (binOp op 25 (.float .f32 x) (.float .f32 y)).run Try.prog w = .ok (.float .f32 r) w := run_float_arith w op _ _ x y r h
/-- The word that a difference without an answer gives: one that is no number. -/
def nanAt (x : Nat) (w : World) : Nat := Question.cut (.nanBits .f32 x x) (w.tape w.drawn (.nanBits .f32 x x))
theorem nan_run (x : Nat) (h : floatBits .sub .f32 x x = none) (w : World) : (binOp .sub 25 (.float .f32 x) (.float .f32 x)).run Try.prog w = .ok (.float .f32 (nanAt x w)) w.drew := by
  have h1 : FloatKind.f32.format.sub x x = none := h
  simp [binOp, Op.floatArith, h1, nanAt, Question.forced]
theorem nan_order (x : Nat) (w : World) (y : Nat) : FloatKind.f32.format.order (nanAt x w) y = none := by
  obtain ⟨t, ht⟩ : ∃ t, t = w.tape w.drawn (.nanBits .f32 x x) := ⟨_, rfl⟩
  unfold nanAt
  rw [← ht]
  have hB : FloatKind.f32.format.binade = 8388608 := by decide
  have hI : FloatKind.f32.format.infRung = 2139095040 := by decide
  have hS : FloatKind.f32.format.signWeight = 2147483648 := by decide
  have hr : ∃ s u, FloatKind.f32.format.read (Question.cut (.nanBits .f32 x x) t) = .nan s u := by
    show ∃ s u, FloatKind.f32.format.read (t % 2 * 2 ^ 31 + 0x7f800000 + 1 + t / 2 % (2 ^ 23 - 1)) = .nan s u
    unfold Ieee.Format.read
    simp only [hB, hI, hS]
    have h1 : (t % 2 * 2 ^ 31 + 0x7f800000 + 1 + t / 2 % (2 ^ 23 - 1)) % 2147483648 = 2139095041 + t / 2 % 8388607 := by omega
    rw [h1, if_neg (by omega), if_neg (by omega), if_neg (by omega)]
    exact ⟨_, _, rfl⟩
  obtain ⟨s, u, hr⟩ := hr
  unfold Ieee.Format.order
  rw [hr]
  rfl
theorem below_drew {B : Nat} {a w : World} (h : Below B a w) : Below B a w.drew := ⟨h.os, h.tape, h.output, h.size, h.block⟩

theorem isFinite_b (x : Nat) (w : World) :
    Calls Try.prog 43 #[.float .f32 x] w fun e w' => e = .returned (.bool (fin32B x)) ∧ Below w.heap.size w w' := by
  cases h : fin32B x with
  | true =>
    have k1 := ar32 _ _ _ _ (sub_yes h)
    have k2 : (FloatKind.f32.format.order 0 0 == some .eq) = true := by decide +kernel
    clear h
    go_enter Try.func43, Try.ntmps43
    go_wp2
    go_ret
    exact ⟨rfl, Below.refl _ _⟩
  | false =>
    have k1 := nan_run x (sub_no h)
    have k2 : ∀ w, (FloatKind.f32.format.order (nanAt x w) 0 == some .eq) = false := fun w => by rw [nan_order]; rfl
    clear h
    go_enter Try.func43, Try.ntmps43
    go_wp2
    go_ret
    exact ⟨rfl, below_drew (Below.refl _ _)⟩
theorem areFinite1_b (x : Nat) (w : World) :
    Calls Try.prog 85 #[.float .f32 x] w fun e w' => e = .returned (.bool (!fin32B x)) ∧ Below w.heap.size w w' := by
  have H := isFinite_b x w
  generalize fin32B x = b at *
  go_enter Try.func85, Try.ntmps85
  go_wp2_with fail
  refine H.mono ?_
  rintro e w1 ⟨rfl, hb⟩
  go_wp2
  go_ret
  exact ⟨rfl, hb⟩

/-- The place of the first of two that is not finite; -1 if there is none. -/
def ix2 : Bool → Bool → Int
  | false, _ => 0
  | true, false => 1
  | true, true => -1
theorem indexFunc32_b (ad : Addr) (c x y : Nat) (w : World) (h0 : w.cell? ad = some (.float .f32 x)) (h1 : w.cell? (ad.add 1) = some (.float .f32 y)) :
    Calls Try.prog 99 #[.slice (some ad) 2 c, .func (.func 85) #[] #[]] w fun e w' => e = .returned (.int .i64 (ix2 (fin32B x) (fin32B y))) ∧ Below w.heap.size w w' := by
  have HX := areFinite1_b x w
  have HY := fun W => areFinite1_b y W
  have h0' : w.cell? (ad.add 0) = some (.float .f32 x) := by simpa [Addr.add] using h0
  have h1' : w.cell? { block := ad.block, off := ad.off + 1 } = some (.float .f32 y) := by simpa [Addr.add] using h1
  have hlt := World.block_lt_of_cell? w _ h0
  generalize fin32B x = bx at *
  generalize fin32B y = by_ at *
  cases bx with
  | false =>
    clear HY h1 h1'
    go_enter Try.func99, Try.ntmps99
    go_wp2
    refine wp_loop_rounds 3 ?_
    rw [rounds_succ]
    go_wp2_with fail
    refine HX.mono ?_
    rintro e w1 ⟨rfl, hb⟩
    go_wp2
    go_ret
    exact ⟨rfl, hb⟩
  | true =>
    go_enter Try.func99, Try.ntmps99
    go_wp2
    refine wp_loop_rounds 3 ?_
    rw [rounds_succ]
    go_wp2_with fail
    refine HX.mono ?_
    rintro e w1 ⟨rfl, hb⟩
    have h2 : w1.cell? { block := ad.block, off := ad.off + 1 } = some (.float .f32 y) := (hb.cell (p := ⟨ad.block, ad.off + 1, none⟩) hlt).trans h1'
    have h3 : w1.cell? (ad.add 1) = some (.float .f32 y) := (hb.cell (by rw [block_of_add]; exact hlt)).trans h1
    have HY1 := HY w1
    clear HX HY h0 h0' h1 h1'
    go_wp2_with fail
    rw [rounds_succ]
    go_wp2_with fail
    refine HY1.mono ?_
    rintro e w2 ⟨rfl, hb2⟩
    have hb12 := hb.trans (hb2.mono hb.size)
    clear HY1 h2 h3
    cases by_ with
    | false =>
      go_wp2
      go_ret
      exact ⟨rfl, hb12⟩
    | true =>
      go_wp2_with fail
      rw [rounds_succ]
      go_wp2
      go_ret
      exact ⟨rfl, hb12⟩
end Go.Proofs.Ytlpibibpckkjhaa
