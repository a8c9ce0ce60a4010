/-
  What the law FnRuled asks of FollowRule and RuleOver, in two packs: a rule followed over a prime; a rule found, and followed again.
-/
import Derived.Test.YtciakaecdllfcaaFast
import Derived.Test.YtciakaecdllfcaaDraw
import Derived.Test.YtciakaecdllfcaaFollowC
import Derived.Test.YtciakaecdllfcaaRuleI
import Derived.Test.YtciakaecdllfcaaBmEnd
namespace Go.Proofs.Ytciakaecdllfcaa
open Go.RowKit

theorem primes_at {i : Nat} (h : (i : Int) < 4) : isP (([2, 3, 5, 7] : List Int).getD i 0) = true := by
  rcases (by omega : i = 0 ∨ i = 1 ∨ i = 2 ∨ i = 3) with rfl | rfl | rfl | rfl <;> rfl
theorem listB_mk {p : Int} {ln : Nat} {zs : List Int} (h1 : isP p = true) (h2 : ln ≤ zs.length) (h3 : zs.length ≤ 64) (h4 : overB p zs = true) : listB p ln zs = true := by
  simp [listB, h1, h2, h3, h4]
theorem overB_take {p : Int} {zs : List Int} (h : overB p zs = true) (n : Nat) : overB p (zs.take n) = true := by
  unfold overB at h ⊢
  rw [List.all_eq_true] at h ⊢
  exact fun x hx => h x (List.mem_of_mem_take hx)

/-- FollowRule returns this list. -/
def FolI (r : Nat) (rule first : List Int) (p q : Int) (n : Nat) (L : List Int) : Prop := ∀ (A A' : Option Addr) (c c' B : Nat) (w : World), Reads w B 1 A r (ints rule) → Reads w B 1 A' r (ints first) → B ≤ w.heap.size →
  Calls Try.prog 9 #[.slice A r c, .slice A' r c', .int .i64 p, .int .i64 q] w fun e w' => ∃ A2 c2, e = .returned (.tuple #[.slice A2 n c2, .bool true]) ∧ n ≤ c2 ∧ Own w' w.heap.size w'.heap.size 2 A2 (ints L) ∧ Below w.heap.size w w'
def FolS (r : Nat) (rule first : List Int) (p q : Int) (n : Nat) (L : List Int) : Prop := ∀ (A A' : Option Addr) (c c' B : Nat) (w : World), Reads w B 1 A r (ints rule) → Reads w B 1 A' r (ints first) → B ≤ w.heap.size →
  Calls Try.prog 7 #[.slice A r c, .slice A' r c', .int .i64 p, .int .i64 q] w fun e w' => ∃ A2 c2, e = .returned (.tuple #[.slice A2 n c2, .bool true]) ∧ Own w' w.heap.size w'.heap.size 2 A2 (ints L) ∧ Below w.heap.size w w'

theorem pack1 {p q : Int} {n r : Nat} {rule first : List Int} (hq : q = n) (hn : n ≤ 64) (hP : isP p = true) (hl1 : rule.length = r) (hl2 : first.length = r) (h64 : r ≤ 64) (hR : overB p rule = true) (hF : overB p first = true) :
    ∃ L : List Int, L.length = n ∧ overB p L = true ∧ (ruleOf p L).length ≤ r ∧ FolI r rule first p q n L ∧ FolS r rule first p q n L := by
  subst hq
  have hl : rule.length = first.length := hl1.trans hl2.symm
  have h1 : listB p 0 rule = true := listB_mk hP (by omega) (by omega) hR
  have h2 : listB p 0 first = true := listB_mk hP (by omega) (by omega) hF
  have hp := isP_one hP
  refine ⟨ext p rule first n, ext_len _ _ _ _, overB_ext (by omega) hF n, by rw [← hl1]; exact least hP hl, fun A A' c c' B w hr hr' hB => ?_, fun A A' c c' B w hr hr' hB => ?_⟩
  · have := folC_any A A' c c' B rule first p n hn h1 h2 hl w (by rw [hl1]; exact hr) (by rw [hl2]; exact hr') hB
    rw [hl1, hl2] at this
    exact this
  have hfb : folB p rule first (n : Int) = true := by simp [folB, h1, h2, hl, inB]; omega
  have hfl : folL p rule first (n : Int) = ext p rule first n := by simp [folL, hfb]
  have this := folS_any A A' c c' B rule first p n w (by rw [hl1]; exact hr) (by rw [hl2]; exact hr') hB (by omega) (by omega)
  rw [hl1, hl2] at this
  refine this.mono ?_
  rintro e w' ⟨A2, c2, he, ho, hb⟩
  rw [hfb, hfl, ext_len] at he
  rw [hfl] at ho
  exact ⟨A2, c2, he, ho, hb⟩

theorem pack2 {p q : Int} {n : Nat} {L : List Int} (hq : q = n) (hn : 1 ≤ n ∧ n ≤ 64) (hP : isP p = true) (hL : L.length = n) (hO : overB p L = true) :
    ∃ F : List Int, F = ruleOf p L ∧ F.length ≤ n ∧
      (∀ (A : Option Addr) (c B : Nat) (w : World), Reads w B 1 A n (ints L) → B ≤ w.heap.size → Calls Try.prog 17 #[.slice A n c, .int .i64 p] w (Gives w.heap.size F true w)) ∧
      (∀ (A : Option Addr) (c B : Nat) (w : World), Reads w B 1 A n (ints L) → B ≤ w.heap.size → Calls Try.prog 18 #[.slice A n c, .int .i64 p] w (Gives w.heap.size F true w)) ∧
      FolI F.length F (L.take F.length) p q n L := by
  have h1 : listB p 1 L = true := listB_mk hP (by omega) (by omega) hO
  have hp := isP_one hP
  have hrl : rulL p L = ruleOf p L := by simp [rulL, h1]
  have hle : (ruleOf p L).length ≤ n := by have := ruleOf_le (s := L) hP; omega
  have hrem := remade_all hP hO hL
  have hlt : (ruleOf p L).length = (L.take (ruleOf p L).length).length := by rw [List.length_take]; omega
  refine ⟨ruleOf p L, rfl, hle, fun A c B w hr hB => ?_, fun A c B w hr hB => ?_, ?_⟩
  · have := rulI_any A c B L p w (by rw [hL]; exact hr) hB (by omega)
    rw [hrl, h1, hL] at this
    exact this
  · have := rulS_any A c B L p w (by rw [hL]; exact hr) hB (by omega)
    rw [hrl, h1, hL] at this
    exact this
  · subst hq
    intro A A' c c' B w hr hr' hB
    have := folC_any A A' c c' B (ruleOf p L) (L.take (ruleOf p L).length) p n hn.2 (listB_mk hP (by omega) (by omega) (ruleOf_over (by omega))) (listB_mk hP (by omega) (by omega) (overB_take hO _)) hlt w hr (by rw [← hlt]; exact hr') hB
    rw [hrem, ← hlt] at this
    exact this

/-- The sums of a ratio, speeded up. -/
theorem pack3 {x q : Nat} (h : Facts x q) : ∃ S R : List (Nat × Nat), S.length = 6 ∧ R.length = 4 ∧ (∀ k, k < 6 → S.take (k + 1) = S.take k ++ [((stB q (k + 1)).1, 0)]) ∧ lastB q (R.getD 0 (0, 0)).1 = some () ∧
    (∀ (A : Option Addr) (c B : Nat) (w : World), Reads w B 1 A 6 (cplx S) → B ≤ w.heap.size → Calls Try.prog 20 #[.slice A 6 c] w fun e w' => ∃ A2 c2, e = .returned (.tuple #[.slice A2 4 c2, .bool true]) ∧ Own w' w.heap.size w'.heap.size 37 A2 (cplx R) ∧ Below w.heap.size w w') := by
  have hl := sumsB_len q
  have hR := fastB_len q
  refine ⟨sumsB q, fastB q, hl, hR, fun k hk => sumsB_next hk, h.last, fun A c B w hr hB => ?_⟩
  have := speedUp_any A c B (sumsB q) (fastB q) (by omega) (by omega) h.sums h.fast (fun i hi => h.sped i (by omega)) w (by rw [hl]; exact hr) hB
  rw [hl, hR] at this
  exact this
end Go.Proofs.Ytciakaecdllfcaa
