/-
  Contract: impl.readHex of eight bytes.
-/
import Derived.Test.YtfiakhhippfkaaaGreatDoorHexO
namespace Go.Proofs.YtfiakhhippfkaaaGreatDoor
open Go.RowKit

theorem anyV_lt {b : UInt8} {d : Nat} (h : anyV b = some d) : d < 16 := by
  unfold anyV at h
  split at h
  · injection h with h; omega
  · split at h
    · injection h with h; omega
    · cases h
theorem run_any_lt {m n : Nat} {l : List UInt8} {j : Nat} (hm : m < 16 ^ j) (h : run anyV m l = some n) : n < 16 ^ (j + l.length) := by
  induction l generalizing m j with
  | nil => simp only [run, Option.some.injEq] at h; subst h; simpa using hm
  | cons b l ih =>
    simp only [run] at h
    cases hb : anyV b with
    | none => rw [hb] at h; cases h
    | some d =>
      rw [hb] at h
      have hd := anyV_lt hb
      have := ih (j := j + 1) (by rw [Nat.pow_succ]; omega) h
      rw [List.length_cons, show j + (l.length + 1) = j + 1 + l.length by omega]
      exact this
theorem hxB_none {l : List UInt8} (h : run anyV 0 l = none) : hxB l = false := by
  unfold hxB
  cases hl : run lowV 0 l with
  | none => rfl
  | some n => rw [any_of_low hl] at h; cases h
theorem hxB_yes {l : List UInt8} {n : Nat} (hn : n < 4294967296) (h : run anyV 0 l = some n) (he : pad 8 (bitsN n) = l) : hxB l = true ∧ hxV l = n := by
  have h1 := (pad_iff (k := 8) (l := l) (n := bitsN n) (by have := bitsN_lt hn; simpa using this)).1 he
  have h2 := any_of_low h1.2
  rw [h] at h2
  injection h2 with h2
  have hb : hxB l = true := by unfold hxB; rw [h1.2, ← h2]; exact decide_eq_true h2.symm
  exact ⟨hb, by rw [hxV, hb, if_pos rfl, h1.2, ← h2]; rfl⟩
theorem hxB_no {l : List UInt8} {n : Nat} (hl : l.length = 8) (h : run anyV 0 l = some n) (he : ¬ pad 8 (bitsN n) = l) : hxB l = false := by
  unfold hxB
  cases hw : run lowV 0 l with
  | none => rfl
  | some m =>
    have h2 := any_of_low hw
    rw [h] at h2
    injection h2 with h2
    subst h2
    refine decide_eq_false fun e => he ?_
    rw [e]
    exact (run_lt hl hw).2

/-- What readHex hands back. -/
def GivesX (l : List UInt8) (w : World) (e : Ending) (w' : World) : Prop := ∃ v, e = .returned (.tuple #[.float .f32 v, .bool (hxB l)]) ∧ (hxB l = true → v = hxV l) ∧ Below w.heap.size w w'
set_option maxRecDepth 100000 in
theorem readHex_any (s : ByteArray) (hs : s.size = 8) (w : World) (hE : ErrS w) (hT : Tz4 w) :
    Calls Tryz.prog 18 #[.string s] w (GivesX s.data.toList w) := by
  cases hr : run anyV 0 s.data.toList with
  | none =>
    have H := pub16_no s hs hr w hE
    have hB := Lib.hid (hxB_none hr)
    have hX : ∀ w, (callFunc 26 #[.int .u32 0]).run Tryz.prog w = .ok (.value (.float .f32 0)) w := fun w => run_frombits 0 w
    clear hr hE hT
    go_enter Tryz.func18, Tryz.ntmps18
    go_wp2_with fail
    (with_reducible refine H.mono ?_)
    rintro e w1 ⟨N, rfl, hb⟩
    clear H
    go_wp2
    go_ret2
    exact ⟨0, by rw [hB.out]; rfl, fun h => (by rw [hB.out] at h; cases h), hb⟩
  | some n =>
    have hn : n < 4294967296 := by
      have := run_any_lt (j := 0) (m := 0) (by simp) hr
      rw [← Lib.size_eq, hs] at this
      simpa using this
    have H := pub16_ok s hs n hr w
    have HO := fun W (hW : Below w.heap.size w W) => hexOf_any n hn W (hT.on hW)
    have hX := run_frombits n
    have hw : IntKind.u32.wrap (n : Int) = (n : Int) := by rw [IntKind.wrap_u32]; omega
    by_cases he : pad 8 (bitsN n) = s.data.toList
    · obtain ⟨hB, hV⟩ := hxB_yes hn hr he
      replace hB := Lib.hid hB
      replace hV := Lib.hid hV
      have hq : (⟨(pad 8 (bitsN n)).toArray⟩ : ByteArray) = s := by rw [he]
      rw [hq] at HO
      clear hr hE hT he hq
      go_enter Tryz.func18, Tryz.ntmps18
      go_wp2_with fail
      (with_reducible refine H.mono ?_)
      rintro e w1 ⟨rfl, hb⟩
      clear H
      go_wp2_with fail
      (with_reducible refine (HO _ hb).mono ?_)
      rintro e w2 ⟨rfl, hb2⟩
      clear HO
      go_wp2
      go_ret2
      exact ⟨n, by rw [hB.out]; simp, fun _ => hV.out.symm, hb.trans (hb2.mono hb.size)⟩
    · have hB := Lib.hid (hxB_no (by rw [← Lib.size_eq]; exact hs) hr he)
      have hq2 : ¬ (⟨(pad 8 (bitsN n)).toArray⟩ : ByteArray).toList = s.toList := fun h => he (by rw [Lib.toList_data, Lib.toList_data] at h; simpa using h)
      clear hr hE hT he
      generalize (⟨(pad 8 (bitsN n)).toArray⟩ : ByteArray) = q at *
      go_enter Tryz.func18, Tryz.ntmps18
      go_wp2_with fail
      (with_reducible refine H.mono ?_)
      rintro e w1 ⟨rfl, hb⟩
      clear H
      go_wp2_with fail
      (with_reducible refine (HO _ hb).mono ?_)
      rintro e w2 ⟨rfl, hb2⟩
      clear HO
      go_wp2
      go_ret2
      exact ⟨n, by rw [hB.out]; simp [hq2], fun h => (by rw [hB.out] at h; cases h), hb.trans (hb2.mono hb.size)⟩
end Go.Proofs.YtfiakhhippfkaaaGreatDoor
