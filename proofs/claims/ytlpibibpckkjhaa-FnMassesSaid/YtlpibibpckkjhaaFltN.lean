/-
  Plain laws: 32-bit numbers up to the bits of those that are no numbers; what a float operation gives, whatever its operands.
-/
import Derived.Test.YtlpibibpckkjhaaEvnR
namespace Go.Proofs.Ytlpibibpckkjhaa
open Go.RowKit

/-- A 32-bit number by its bits; none: it is no number. -/
def cn (x : Nat) : Option Nat := match FloatKind.f32.format.read x with
  | .nan _ _ => none
  | _ => some x
theorem cn_cases (x : Nat) : (∃ s t, FloatKind.f32.format.read x = .nan s t ∧ cn x = none) ∨ ((∀ s t, FloatKind.f32.format.read x ≠ .nan s t) ∧ cn x = some x) := by
  unfold cn
  cases h : FloatKind.f32.format.read x with
  | nan s t => exact .inl ⟨s, t, rfl, rfl⟩
  | infinity s => exact .inr ⟨fun _ _ h => by simp at h, rfl⟩
  | number s m i => exact .inr ⟨fun _ _ h => by simp at h, rfl⟩
theorem cn_some {x v : Nat} (h : cn x = some v) : v = x := by
  rcases cn_cases x with ⟨s, t, -, e⟩ | ⟨-, e⟩
  · rw [e] at h; cases h
  · rw [e] at h; cases h; rfl
theorem word_num (s : Bool) (r : Nat) (h : r ≤ 2139095040) : cn (FloatKind.f32.format.word s r) = some (FloatKind.f32.format.word s r) := by
  have hB : FloatKind.f32.format.binade = 8388608 := by decide
  have hI : FloatKind.f32.format.infRung = 2139095040 := by decide
  have hS : FloatKind.f32.format.signWeight = 2147483648 := by decide
  rcases cn_cases (FloatKind.f32.format.word s r) with ⟨s', t', e, -⟩ | ⟨-, e⟩
  · exfalso
    have hw : FloatKind.f32.format.word s r % 2147483648 = r := by
      unfold Ieee.Format.word
      rw [hS]
      split <;> omega
    unfold Ieee.Format.read at e
    simp only [hB, hI, hS, hw] at e
    split at e
    · cases e
    · split at e
      · cases e
      · split at e
        · cases e
        · omega
  · exact e
theorem write_num (d : Ieee.Datum) (h : ∀ s t, d ≠ .nan s t) : cn (FloatKind.f32.format.write d) = some (FloatKind.f32.format.write d) := by
  have hI : FloatKind.f32.format.infRung = 2139095040 := by decide
  cases d with
  | nan s t => exact absurd rfl (h s t)
  | infinity s => exact word_num s _ (by rw [hI]; omega)
  | number s m i =>
    show cn (FloatKind.f32.format.nearest s m i) = some (FloatKind.f32.format.nearest s m i)
    unfold Ieee.Format.nearest
    split
    · exact word_num s 0 (by omega)
    · refine word_num s _ ?_
      rw [hI]
      exact Nat.min_le_right _ _
theorem sum_num {a b d : Ieee.Datum} (h : a.sum b = some d) : ∀ s t, d ≠ .nan s t := by
  rintro s t rfl
  cases a <;> cases b <;> simp [Ieee.Datum.sum] at h
theorem prod_num {a b d : Ieee.Datum} (h : a.product b = some d) : ∀ s t, d ≠ .nan s t := by
  rintro s t rfl
  cases a <;> cases b <;> simp [Ieee.Datum.product] at h
theorem quot_num {n : Nat} {a b d : Ieee.Datum} (h : a.quotient n b = some d) : ∀ s t, d ≠ .nan s t := by
  rintro s t rfl
  cases a <;> cases b <;> simp [Ieee.Datum.quotient] at h
  repeat (split at h <;> simp at h)

/-- The four operations. -/
def Op4 (op : BinOp) : Prop := op = .add ∨ op = .sub ∨ op = .mul ∨ op = .quo
theorem fb_num {op : BinOp} {x y r : Nat} (ho : Op4 op) (h : floatBits op .f32 x y = some r) : cn r = some r ∧ cn x = some x ∧ cn y = some y := by
  have key : ∀ (f : Ieee.Datum → Ieee.Datum → Option Ieee.Datum) (y' : Ieee.Datum), (∀ s t, FloatKind.f32.format.read y = .nan s t → ∃ s' t', y' = .nan s' t') → (∀ a b d, f a b = some d → ∀ s t, d ≠ .nan s t) → (∀ s t b, f (.nan s t) b = none) → (∀ a s t, f a (.nan s t) = none) → (f (FloatKind.f32.format.read x) y').map FloatKind.f32.format.write = some r → cn r = some r ∧ cn x = some x ∧ cn y = some y := by
    intro f y' h0 h1 h2 h3 h4
    rw [Option.map_eq_some_iff] at h4
    obtain ⟨d, h5, rfl⟩ := h4
    refine ⟨write_num d (h1 _ _ _ h5), ?_, ?_⟩
    · rcases cn_cases x with ⟨s, t, e, -⟩ | ⟨-, e⟩
      · rw [e, h2] at h5; cases h5
      · exact e
    · rcases cn_cases y with ⟨s, t, e, -⟩ | ⟨-, e⟩
      · obtain ⟨s', t', e'⟩ := h0 s t e
        rw [e', h3] at h5; cases h5
      · exact e
  rcases ho with rfl | rfl | rfl | rfl
  · exact key (fun a b => a.sum b) _ (fun s t e => ⟨s, t, e⟩) (fun a b d => sum_num) (fun s t b => by cases b <;> rfl) (fun a s t => by cases a <;> rfl) h
  · exact key (fun a b => a.sum b) (FloatKind.f32.format.read y).opposite (fun s t e => ⟨!s, t, by rw [e]; rfl⟩) (fun a b d => sum_num) (fun s t b => by cases b <;> rfl) (fun a s t => by cases a <;> rfl) h
  · exact key (fun a b => a.product b) _ (fun s t e => ⟨s, t, e⟩) (fun a b d => prod_num) (fun s t b => by cases b <;> rfl) (fun a s t => by cases a <;> rfl) h
  · exact key (fun a b => a.quotient (FloatKind.f32.format.fractionBits + 2) b) _ (fun s t e => ⟨s, t, e⟩) (fun a b d => quot_num) (fun s t b => by cases b <;> rfl) (fun a s t => by cases a <;> rfl) h

/-- What an operation gives, and how many draws it makes. -/
def opB (op : BinOp) (x y : Nat) (w : World) : Nat := match floatBits op .f32 x y with
  | some r => r
  | none => Question.cut (.nanBits .f32 x y) (w.tape w.drawn (.nanBits .f32 x y))
def opN (op : BinOp) (x y : Nat) : Nat := match floatBits op .f32 x y with
  | some _ => 0
  | none => 1
/-- The same up to what is no number. -/
def opO (op : BinOp) (a b : Option Nat) : Option Nat := a.bind fun x => b.bind fun y => floatBits op .f32 x y
theorem nan_cut (x y t : Nat) : cn (Question.cut (.nanBits .f32 x y) t) = none := by
  have hB : FloatKind.f32.format.binade = 8388608 := by decide
  have hI : FloatKind.f32.format.infRung = 2139095040 := by decide
  have hS : FloatKind.f32.format.signWeight = 2147483648 := by decide
  rcases cn_cases (Question.cut (.nanBits .f32 x y) t) with ⟨s, t', -, e⟩ | ⟨h, -⟩
  · exact e
  · exfalso
    have hr : ∃ s u, FloatKind.f32.format.read (Question.cut (.nanBits .f32 x y) t) = .nan s u := by
      show ∃ s u, FloatKind.f32.format.read (t % 2 * 2 ^ 31 + 0x7f800000 + 1 + t / 2 % (2 ^ 23 - 1)) = .nan s u
      unfold Ieee.Format.read
      simp only [hB, hI, hS]
      have h1 : (t % 2 * 2 ^ 31 + 0x7f800000 + 1 + t / 2 % (2 ^ 23 - 1)) % 2147483648 = 2139095041 + t / 2 % 8388607 := by omega
      rw [h1, if_neg (by omega), if_neg (by omega), if_neg (by omega)]
      exact ⟨_, _, rfl⟩
    obtain ⟨s, u, e⟩ := hr
    exact h s u e
theorem cn_op {op : BinOp} (ho : Op4 op) (x y : Nat) (w : World) : cn (opB op x y w) = opO op (cn x) (cn y) := by
  unfold opB
  cases h : floatBits op .f32 x y with
  | some r =>
    obtain ⟨h1, h2, h3⟩ := fb_num ho h
    rw [h2, h3]
    simp only [opO, Option.bind_some, h]
    exact h1
  | none =>
    rw [nan_cut]
    unfold opO
    rcases cn_cases x with ⟨_, _, -, e⟩ | ⟨-, e⟩
    · rw [e]; rfl
    · rcases cn_cases y with ⟨_, _, -, e2⟩ | ⟨-, e2⟩
      · rw [e, e2]; rfl
      · rw [e, e2]; exact h.symm
theorem run_op {op : BinOp} (ho : Op4 op) (x y : Nat) (w : World) : (binOp op 25 (.float .f32 x) (.float .f32 y)).run Try.prog w = .ok (.float .f32 (opB op x y w)) (w.drewN (opN op x y)) := by
  unfold opB opN
  cases h : floatBits op .f32 x y with
  | some r => exact ar32 _ _ _ _ h w
  | none =>
    rcases ho with rfl | rfl | rfl | rfl
    · have h1 : FloatKind.f32.format.add x y = none := h
      simp [binOp, Op.floatArith, h1, Question.forced]
      rfl
    · have h1 : FloatKind.f32.format.sub x y = none := h
      simp [binOp, Op.floatArith, h1, Question.forced]
      rfl
    · have h1 : FloatKind.f32.format.mul x y = none := h
      simp [binOp, Op.floatArith, h1, Question.forced]
      rfl
    · have h1 : FloatKind.f32.format.div x y = none := h
      simp [binOp, Op.floatArith, h1, Question.forced]
      rfl
end Go.Proofs.Ytlpibibpckkjhaa
