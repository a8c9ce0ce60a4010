/-
  Contracts: impl.areRemainders, slices.Clone, slices.Clip, and FollowRule, the reference's and the program's.
-/
import Derived.Test.YtciakaecdllfcaaLists
import Derived.Test.YtciakaecdllfcaaAppend
namespace Go.Proofs.Ytciakaecdllfcaa
open Go.RowKit

theorem areRem_any (A : Option Addr) (c B : Nat) (zs : List Int) (p : Int) (least : Int) (ln : Nat) (hln : least = ln) (b : Bool) (hb : listB p ln zs = b) (w : World) (hr : Reads w B 1 A zs.length (ints zs)) (hB : B ≤ w.heap.size) (hn : zs.length ≤ 1048576) :
    Calls Try.prog 30 #[.slice A zs.length c, .int .i64 least, .int .i64 p] w fun e w' => e = .returned (.bool b) ∧ Below w.heap.size w w' := by
  unfold listB at hb
  have hln1 : (ln : Int) ≤ least := by omega
  have hln2 : least ≤ (ln : Int) := by omega
  clear hln
  have hb0 : Below w.heap.size w (w.alloc (.cells #[.int .i64 p] 2)) := (Below.refl _ _).alloc (Nat.le_refl _) _
  have hc0 : (w.alloc (.cells #[.int .i64 p] 2)).cell? ⟨w.heap.size, 0, none⟩ = some (.int .i64 p) := by
    rw [cell_of_row _ _ 0 _ _ _ (heap_alloc_new w _)]; rfl
  cases h1 : isP p with
  | false =>
    rw [h1] at hb
    subst hb
    have H := isPrime_any p false h1
    clear h1 hr
    go_enter Try.func30, Try.ntmps30
    go_wp2_with fail
    refine (H _).mono ?_
    rintro e w1 ⟨rfl, hb1⟩
    go_wp2_with fail
    go_ret
    exact ⟨by simp, hb0.trans (hb1.mono (by simp))⟩
  | true =>
    have hp := isP_one h1
    have H := isPrime_any p true h1
    rw [h1] at hb
    clear h1
    by_cases h2 : ln ≤ zs.length
    · have h2' : decide (least ≤ (zs.length : Int)) = true := by simp; omega
      by_cases h3 : zs.length ≤ 64
      · have h3' : decide ((zs.length : Int) ≤ 64) = true := by simp; omega
        simp only [h2, h3, decide_true, Bool.true_and] at hb
        go_enter Try.func30, Try.ntmps30
        go_wp2_with fail
        refine (H _).mono ?_
        rintro e w1 ⟨rfl, hb1⟩
        have hb2 := hb0.trans (hb1.mono (by simp))
        have hc1 : w1.cell? ⟨w.heap.size, 0, none⟩ = some (.int .i64 p) := (hb1.cell (by simp)).trans hc0
        go_wp2_with fail
        refine (containsFunc_any A c B zs p ⟨w.heap.size, 0, none⟩ b hb hp w1 hc1 (hr.below (hb2.mono hB)) hn).mono ?_
        rintro e w2 ⟨rfl, rfl⟩
        go_wp2
        go_ret
        exact ⟨by simp, hb2⟩
      · have h3' : decide ((zs.length : Int) ≤ 64) = false := by simp; omega
        simp only [h3, decide_false, Bool.and_false, Bool.false_and] at hb
        subst hb
        go_enter Try.func30, Try.ntmps30
        go_wp2_with fail
        refine (H _).mono ?_
        rintro e w1 ⟨rfl, hb1⟩
        go_wp2_with fail
        go_ret
        exact ⟨rfl, hb0.trans (hb1.mono (by simp))⟩
    · have h2' : decide (least ≤ (zs.length : Int)) = false := by simp; omega
      simp only [h2, decide_false, Bool.and_false, Bool.false_and] at hb
      subst hb
      go_enter Try.func30, Try.ntmps30
      go_wp2_with fail
      refine (H _).mono ?_
      rintro e w1 ⟨rfl, hb1⟩
      go_wp2_with fail
      go_ret
      exact ⟨rfl, hb0.trans (hb1.mono (by simp))⟩

theorem clone_any (A : Option Addr) (c B : Nat) (zs : List Int) (w : World) (hr : Reads w B 1 A zs.length (ints zs)) (hB : B ≤ w.heap.size) (hn : zs.length ≤ 1048576) :
    Calls Try.prog 32 #[.slice A zs.length c] w fun e w' => ∃ v, e = .returned v ∧ w'.ownsRow w.heap.size 2 1 v zs.length (ints zs) ∧ Below w.heap.size w w' := by
  obtain ⟨i0, hi, hz0, hz1, hz2⟩ := info_parts info2
  have kn := fun (w : World) (a : Option Addr) (l c n' c' : Nat) => Lib.run_eql_slice_nil (P := Try.prog) w 22 2 a l c n' c' Try.underlying22
  rcases A with _ | ad
  · have hz : zs.length = 0 := by
      rcases Nat.eq_zero_or_pos zs.length with h | h
      · exact h
      · obtain ⟨ad, h, _⟩ := hr.2 h; cases h
    obtain rfl : zs = [] := List.eq_nil_of_length_eq_zero hz
    clear hz hr
    go_enter Try.func32, Try.ntmps32
    go_wp2_with fail
    go_ret
    exact ⟨_, rfl, World.ownsRow_nil _ _ _ _, Below.refl _ _⟩
  · have hb0 : Below w.heap.size w (w.alloc (.cells #[] 2)) := (Below.refl _ _).alloc (Nat.le_refl _) _
    have hown : (w.alloc (.cells #[] 2)).ownsRow w.heap.size 2 1 (.slice (some ⟨w.heap.size, 0, none⟩) 0 0) 0 [] := World.ownsRow_made w #[] 0 (Nat.le_refl _) (by simp [maxLen]) rfl
    go_enter Try.func32, Try.ntmps32
    go_wp2_with (at_builtin; refine wpList_append_any _ rfl (.tmp 5) (.tmp 6) _ rfl w.heap.size 2 i0 _ 1 8 Try.underlying22 hi hz0 hz1 hz2 rfl (by omega) (.slice (some ⟨w.heap.size, 0, none⟩) 0 0) 0 [] rfl hown B (some ad) zs.length c (ints zs) rfl (hr.below (hb0.mono hB)) (ints_one zs) (by simp only [maxLen]; omega) (by omega) (by simp) ?_; intro v1 w1 hown1 hg1 hat1)
    go_ret
    refine ⟨_, rfl, by simpa using hown1, hb0.grown hg1 (by simp) (fun k hk => ?_)⟩
    simp [Value.ownBlock] at hk
    omega
end Go.Proofs.Ytciakaecdllfcaa
