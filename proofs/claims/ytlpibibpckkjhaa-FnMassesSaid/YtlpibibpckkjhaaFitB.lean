/-
  Contract: the program's fit, as a list of terms or none.
-/
import Derived.Test.YtlpibibpckkjhaaFitA
import Derived.Test.YtlpibibpckkjhaaFitJ
namespace Go.Proofs.Ytlpibibpckkjhaa
open Go.RowKit

theorem fitI (A1 A2 A3 : Option Addr) (c1 c2 c3 : Nat) (xs ys ws : List Nat) (d : Int) (w : World) (h1 : Reads w w.heap.size 1 A1 xs.length (flts xs)) (h2 : Reads w w.heap.size 1 A2 ys.length (flts ys)) (h3 : Reads w w.heap.size 1 A3 ws.length (flts ws)) (hn1 : xs.length ≤ 1048576) (hn2 : ys.length ≤ 1048576) (hn3 : ws.length ≤ 1048576) :
    Calls Try.prog 27 #[.slice A1 xs.length c1, .slice A2 ys.length c2, .slice A3 ws.length c3, .int .i64 d] w (GivesF (fitAns xs ys ws d) w) := by
  by_cases h : fitPre xs ys ws d ∧ ws.all leastB = true
  · obtain ⟨⟨a1, a2, a3, a4, a5, a6, a7, a8⟩, a9⟩ := id h
    obtain ⟨dn, rfl⟩ := Int.eq_ofNat_of_zero_le a7
    rw [a3] at h2 ⊢
    rw [a4] at h3 ⊢
    refine (fitI_any A1 A2 A3 c1 c2 c3 xs.length dn xs ys ws rfl a3 a4 w h1 h2 h3 a1 a2 a5 a6 a9 (by omega)).mono ?_
    rintro e w' ⟨hF, hb⟩
    exact givesF_of h.1 h.2 hF hb
  · refine (fitI_no A1 A2 A3 c1 c2 c3 xs ys ws d w h1 h2 h3 hn1 hn2 hn3 h).mono ?_
    rintro e w' ⟨he, hb⟩
    exact givesF_no h he hb
end Go.Proofs.Ytlpibibpckkjhaa
