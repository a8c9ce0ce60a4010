/-
  Contracts: the row of the polynomials of kind 2 (impl.familyRow, spec.l06Row), where no step is without an answer.
-/
import Derived.Test.YtlpibibpckkjhaaEvnR
namespace Go.Proofs.Ytlpibibpckkjhaa
open Go.RowKit

/-- 32-bit numbers as values in memory, by their bits. -/
def flts (l : List Nat) : List Value := l.map fun x => Value.float .f32 x
@[simp] theorem flts_len (l : List Nat) : (flts l).length = l.length := by simp [flts]
theorem flts_at {l : List Nat} {k : Nat} (h : k < l.length) : (flts l)[k]? = some (.float .f32 (l.getD k 0)) := by
  simp [flts, List.getD, List.getElem?_eq_getElem h]
theorem flt_at {w : World} {B : Nat} {A : Option Addr} {l : List Nat} {k : Nat} (h : Reads w B 1 A l.length (flts l)) (hk : k < l.length) :
    ∃ ad, A = some ad ∧ ad.block < B ∧ w.cell? (ad.add k) = some (.float .f32 (l.getD k 0)) := by
  obtain ⟨ad, u, e, hb, hu, hc⟩ := h.at_ hk
  rw [flts_at hk] at hu
  cases hu
  exact ⟨ad, e, hb, hc⟩
theorem flts_snoc (l : List Nat) (x : Nat) : flts l ++ [.float .f32 x] = flts (l ++ [x]) := by simp [flts]
theorem one_flt (x : Nat) : ∀ u ∈ [Value.float .f32 x], u.oneCell' = true := by intro u hu; simp at hu; subst hu; rfl
theorem infoF : (Try.prog.info? 25).map (fun i => (i.zero, i.size, i.bytes)) = some (some (.float .f32 0), 1, 4) := by kernel_rfl
theorem info_parts {P : Program} {e : TypeId} {z : Value} {s b : Nat} (h : (P.info? e).map (fun i => (i.zero, i.size, i.bytes)) = some (some z, s, b)) :
    ∃ i, P.info? e = some i ∧ i.zero = some z ∧ i.size = s ∧ i.bytes = b := by
  cases hi : P.info? e with
  | none => rw [hi] at h; cases h
  | some i =>
    rw [hi] at h
    simp at h
    exact ⟨i, rfl, h.1, h.2.1, h.2.2⟩
theorem reads_new (w : World) (cs : List Value) (E : TypeId) : Reads (w.alloc (.cells cs.toArray E)) (w.heap.size + 1) 1 (some ⟨w.heap.size, 0, none⟩) cs.length cs :=
  Own.reads (xs := cs) (lo := 0) (E := E) (.inr ⟨w.heap.size, _, rfl, by omega, by omega, heap_alloc_new w _, by simp, by simp⟩)

theorem ownsRow_kp {w w' : World} {base a b : Nat} {e : TypeId} {size : Nat} {v : Value} {n : Nat} {xs : List Value} (h : w.ownsRow base e size v n xs) (hk : Kp a b w w') (hd : b ≤ base) : w'.ownsRow base e size v n xs := by
  obtain ⟨h1, h2⟩ := h
  refine ⟨h1, ?_⟩
  rcases h2 with h2 | ⟨g, cap, cur, hv, hg, hh, r⟩
  · exact .inl h2
  · refine .inr ⟨g, cap, cur, hv, hg, (hk.block g ?_ (by omega)).trans hh, r⟩
    rcases Nat.lt_or_ge g w.heap.size with h | h
    · exact h
    · rw [Array.getElem?_eq_none h] at hh; cases hh

set_option maxRecDepth 100000 in
set_option maxHeartbeats 800000 in
theorem familyRow_any (n x : Nat) (r : List Nat × Nat) (hn : n < 100) (h : rowO x n = some r) (w : World) :
    Calls Try.prog 44 #[.int .i64 2, .int .i64 (n : Int), .float .f32 x] w fun e w' => ∃ A c, e = .returned (.slice A (n + 1) c) ∧ Own w' w.heap.size w'.heap.size 25 A (flts r.1) ∧ Below w.heap.size w w' := by
  obtain ⟨i0, hi, hz0, hz1, hz2⟩ := info_parts infoF
  have hup := Lib.hid (row_upto h)
  have hr := Lib.hid h
  clear h
  go_enter Try.func44, Try.ntmps44
  go_wp2
  have hown0 : (w.alloc (.cells #[.float .f32 1065353216] 25)).ownsRow w.heap.size 25 1 (.slice (some ⟨w.heap.size, 0, none⟩) 1 1) 1 (flts [1065353216]) := ⟨rfl, .inr ⟨w.heap.size, 1, #[.float .f32 1065353216], rfl, Nat.le_refl _, heap_alloc_new w _, by omega, by simp [maxLen], rfl, rfl⟩⟩
  have hb0 : Below w.heap.size w (w.alloc (.cells #[.float .f32 1065353216] 25)) := (Below.refl _ _).alloc (Nat.le_refl _) _
  go_loopw [7, 8, 9, 10, 11, 12, 13, 14, 17] (fun v b _ _ _ _ _ _ q wr => ∃ k : Nat, k ≤ n ∧ q = .int .i64 (k : Int) ∧ (∃ s, Hid (rowO x k = some s) ∧ b = .float .f32 s.2 ∧ wr.ownsRow w.heap.size 25 1 v (k + 1) (flts s.1)) ∧ Below w.heap.size w wr) (fun _ _ _ _ _ _ _ _ q _ => n - (intOf q).toNat)
  case atStart => exact ⟨0, Nat.zero_le _, rfl, ⟨_, Lib.hid rfl, rfl, hown0⟩, hb0⟩
  case round =>
    obtain ⟨k, hk, rfl, ⟨s, hs, rfl, hown⟩, hbr⟩ := hrel
    clear hown0 hb0
    obtain ⟨Ao, co, rfl, -, hko, hO⟩ := Own.of_row hown (Nat.le_refl _)
    have hsz := hbr.size
    have hlen := row_len hs.out
    obtain ⟨wo, rfl⟩ : ∃ wo : World, wo = wr := ⟨_, rfl⟩
    by_cases hlt : k < n
    · obtain ⟨s', hs'⟩ := hup.out (k + 1) (by omega)
      obtain ⟨s1, a, c, y, e1, e2, e3, e4⟩ := row_parts hs'
      rw [hs.out] at e1
      cases e1
      obtain ⟨m1, m2, m3, m4, f1, f2, f3, f4, f5⟩ := rstep_parts e3
      have H := rule_any k a c e2 wo
      obtain ⟨ad, had, hab, hc1⟩ := flt_at (hO.reads' (Nat.le_refl _) (by simp)) (k := k) (by omega)
      subst had
      obtain ⟨h1, h2⟩ := s
      simp only at *
      clear e2 e3
      generalize hone : h1.getD k 0 = one at *
      go_wp2_with fail
      refine H.mono ?_
      rintro e w2 ⟨rfl, hb2⟩
      have hc2 : w2.cell? (ad.add k) = some (.float .f32 one) := by rw [← hc1]; exact hb2.cell (by rw [block_of_add]; exact hab)
      have hown2 := ownsRow_kp hown (Kp.of_below (lo := 0) (hi := 0) hb2) (Nat.zero_le _)
      have hsz2 := hb2.size
      clear H hc1 hO hown hab
      have g1 := ar32 _ _ _ _ f1
      have g2 := ar32 _ _ _ _ f2
      have g3 := ar32 _ _ _ _ f3
      have g4 := ar32 _ _ _ _ f4
      have g5 := ar32 _ _ _ _ f5
      clear f1 f2 f3 f4 f5
      go_wp2_with (at_builtin; refine wpList_append_any _ rfl (.tmp 43) (.tmp 45) _ rfl w.heap.size 25 i0 _ 1 4 Try.underlying26 hi hz0 hz1 hz2 rfl (by omega) (.slice (some ad) (k + 1) co) (k + 1) (flts h1) rfl (hown2.alloc _) (w2.heap.size + 1) (some ⟨w2.heap.size, 0, none⟩) 1 1 [.float .f32 y] rfl (reads_new w2 [_] _) (one_flt y) (by simp only [maxLen]; omega) (by omega) (by simp; omega) ?_; intro v1 w3 hown3 hg3 hat3)
      have hb3 : Below w.heap.size w2 w3 := ((Below.refl _ _).alloc (by omega) _).grown hg3 (by simp; omega) (fun j hj => (hown2.lt j hj).1)
      obtain ⟨A1, c1, rfl⟩ : ∃ A1 c1, v1 = .slice A1 (k + 1 + 1) c1 := by
        obtain ⟨A1, c1, h, -⟩ := Own.of_row hown3 (Nat.le_refl _)
        exact ⟨A1, c1, h⟩
      rw [flts_snoc] at hown3
      subst e4
      exact ⟨⟨k + 1, by omega, by go_num, ⟨_, Lib.hid hs', rfl, hown3⟩, (hbr.trans (hb2.mono hsz)).trans hb3⟩, by simp [intOf]; omega⟩
    · obtain rfl : k = n := by omega
      go_wp2
      go_ret
      have e := hs.out
      rw [hr.out] at e
      cases e
      exact ⟨Ao, co, rfl, hO, hbr⟩
end Go.Proofs.Ytlpibibpckkjhaa
