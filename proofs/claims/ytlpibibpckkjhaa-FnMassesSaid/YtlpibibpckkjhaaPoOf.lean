/-
  Contracts: lists of numbers as complex ones (impl.complexes, spec.l06Complex), trimmed lists (impl.trim, spec.l02Trim, slices.Clip), their polynomials (impl.polyOf, spec.l02Give).
-/
import Derived.Test.YtlpibibpckkjhaaPoly
import Derived.Test.YtlpibibpckkjhaaEvnI
namespace Go.Proofs.Ytlpibibpckkjhaa
open Go.RowKit

theorem infoC : (Try.prog.info? 36).map (fun i => (i.zero, i.size, i.bytes)) = some (some (.complex .f32 0 0), 1, 8) := by kernel_rfl
theorem cplx_snoc (l : List (Nat × Nat)) (x y : Nat) : cplx l ++ [.complex .f32 x y] = cplx (l ++ [(x, y)]) := by simp [cplx]
theorem one_cplx (x y : Nat) : ∀ u ∈ [Value.complex .f32 x y], u.oneCell' = true := by intro u hu; simp at hu; subst hu; rfl
/-- Real numbers as complex ones. -/
def reC (l : List Nat) : List (Nat × Nat) := l.map fun x => (x, 0)
@[simp] theorem reC_len (l : List Nat) : (reC l).length = l.length := by simp [reC]
theorem reC_snoc {l : List Nat} {k : Nat} (hk : k < l.length) : reC (l.take k) ++ [(l.getD k 0, 0)] = reC (l.take (k + 1)) := by
  rw [List.take_succ_eq_append_getElem hk]
  simp only [reC, List.map_append, List.map_cons, List.map_nil, List.getD, List.getElem?_eq_getElem hk, Option.getD_some]

set_option maxRecDepth 100000 in
set_option maxHeartbeats 800000 in
theorem complexes_any (A : Option Addr) (c B : Nat) (l : List Nat) (w : World) (hr : Reads w B 1 A l.length (flts l)) (hB : B ≤ w.heap.size) (h1 : 1 ≤ l.length) (hn : l.length ≤ 1000) :
    Calls Try.prog 48 #[.slice A l.length c] w fun e w' => ∃ g c', e = .returned (.slice (some ⟨g, 0, none⟩) l.length c') ∧ w'.ownsRow w.heap.size 36 1 (.slice (some ⟨g, 0, none⟩) l.length c') l.length (cplx (reC l)) ∧ Below w.heap.size w w' := by
  obtain ⟨i0, hi, hz0, hz1, hz2⟩ := info_parts infoC
  go_enter Try.func48, Try.ntmps48
  go_wp2
  have hown0 : (w.alloc (.cells #[] 36)).ownsRow w.heap.size 36 1 (.slice (some ⟨w.heap.size, 0, none⟩) 0 0) 0 (cplx (reC (l.take 0))) := by
    have h := World.ownsRow_made (base := w.heap.size) (e := 36) (size := 1) w #[] 0 (by simp) (by simp [maxLen]) rfl
    simpa [reC, cplx] using h
  have hb0 : Below w.heap.size w (w.alloc (.cells #[] 36)) := (Below.refl _ _).alloc (Nat.le_refl _) _
  go_loopw [3, 5, 9] (fun v _ q wr => ∃ k : Nat, k ≤ l.length ∧ q = .int .i64 (k : Int) ∧ wr.ownsRow w.heap.size 36 1 v k (cplx (reC (l.take k))) ∧ Below w.heap.size w wr) (fun _ _ q _ => l.length - (intOf q).toNat)
  case atStart => exact ⟨0, Nat.zero_le _, rfl, hown0, hb0⟩
  case round =>
    obtain ⟨k, hk, rfl, hown, hbr⟩ := hrel
    clear hown0 hb0
    have hsz := hbr.size
    obtain ⟨wo, rfl⟩ : ∃ wo : World, wo = wr := ⟨_, rfl⟩
    obtain ⟨A1, c1, rfl, -, -, -⟩ := Own.of_row hown (Nat.le_refl _)
    by_cases hlt : k < l.length
    · obtain ⟨ad, rfl, hab, hc1⟩ := flt_at (hr.below (hbr.mono hB)) hlt
      have hsn := reC_snoc hlt
      generalize l.getD k 0 = x at *
      go_wp2_with (at_builtin; refine wpList_append_any _ rfl (.tmp 13) (.tmp 16) _ rfl w.heap.size 36 i0 _ 1 8 Try.underlying31 hi hz0 hz1 hz2 rfl (by omega) (.slice A1 k c1) k (cplx (reC (l.take k))) rfl (hown.alloc _) (wo.heap.size + 1) (some ⟨wo.heap.size, 0, none⟩) 1 1 [.complex .f32 x 0] rfl (reads_new wo [_] _) (one_cplx x 0) (by simp only [maxLen]; omega) (by omega) (by simp; omega) ?_; intro v1 w3 hown3 hg3 hat3)
      have hb3 : Below w.heap.size wo w3 := ((Below.refl _ _).alloc (by simpa using hsz) _).grown hg3 (by simp; omega) (fun j hj => (hown.lt j hj).1)
      rw [cplx_snoc, hsn] at hown3
      go_wp2
      go_roundw
      case rel => exact ⟨k + 1, by omega, by go_num, hown3, hbr.trans hb3⟩
      case measure => simp [intOf]; omega
    · obtain rfl : k = l.length := by omega
      rw [List.take_length] at hown
      obtain ⟨g, cg, e, -, -⟩ := World.ownsRow.form hown (by omega)
      injection e with e1 e2 e3
      subst e1 e3
      go_wp2
      go_ret
      exact ⟨g, _, rfl, hown, hbr⟩

/-- How many terms are kept. -/
def trimN (l : List (Nat × Nat)) : Nat → Nat
  | 0 => 0
  | n + 1 => if decide (1 ≤ n) && zeroC (l.getD n (0, 0)) then trimN l n else n + 1
theorem trimN_le (l : List (Nat × Nat)) (n : Nat) : trimN l n ≤ n := by
  induction n with
  | zero => exact Nat.le_refl _
  | succ n ih =>
    rw [trimN]
    split <;> omega
theorem trimN_pos (l : List (Nat × Nat)) (n : Nat) (h : 1 ≤ n) : 1 ≤ trimN l n := by
  induction n with
  | zero => omega
  | succ n ih =>
    rw [trimN]
    split
    · rename_i h2
      simp at h2
      exact ih h2.1
    · omega

theorem trim_any (g c B : Nat) (l : List (Nat × Nat)) (w : World) (hr : Reads w B 1 (some ⟨g, 0, none⟩) l.length (cplx l)) (h1 : 1 ≤ l.length) (hn : l.length ≤ 1000) (hc : l.length ≤ c) :
    Calls Try.prog 87 #[.slice (some ⟨g, 0, none⟩) l.length c] w fun e w' => e = .returned (.slice (some ⟨g, 0, none⟩) (trimN l l.length) c) ∧ w' = w := by
  go_enter Try.func87, Try.ntmps87
  go_wp2
  go_loopw [3] (fun q wr => ∃ k : Nat, 1 ≤ k ∧ k ≤ l.length ∧ q = .int .i64 (k : Int) ∧ Hid (trimN l l.length = trimN l k) ∧ wr = w) (fun q _ => (intOf q).toNat)
  case atStart => exact ⟨l.length, h1, Nat.le_refl _, rfl, rfl, rfl⟩
  case round =>
    obtain ⟨k, hk1, hk, rfl, hT, rfl⟩ := hrel
    obtain ⟨k, rfl⟩ : ∃ j, k = j + 1 := ⟨k - 1, by omega⟩
    have hs := hT.out
    rw [trimN] at hs
    by_cases hlt : 1 ≤ k
    · obtain ⟨ad, e, hab, hc1⟩ := comp_at hr (show k < l.length by omega)
      cases e
      have e0 : (⟨g, 0, none⟩ : Addr).add k = ⟨g, k, none⟩ := by unfold Addr.add; split <;> simp_all
      rw [e0] at hc1
      unfold zeroC at hs
      clear hr e0
      generalize (l.getD k (0, 0)).1 = x at *
      generalize (l.getD k (0, 0)).2 = y at *
      cases hz : (FloatKind.f32.format.order x 0 == some .eq && FloatKind.f32.format.order y 0 == some .eq) with
      | true =>
        rw [hz, decide_eq_true hlt, Bool.and_self, if_pos rfl] at hs
        replace hs := Lib.hid hs
        go_wp2
        exact ⟨⟨k, hlt, by omega, by go_num, hs, trivial⟩, by simp [intOf]⟩
      | false =>
        rw [hz, Bool.and_false, if_neg (by simp)] at hs
        replace hs := Lib.hid hs
        clear hT
        go_wp2
        go_ret
        exact ⟨by rw [hs.out]; rfl, rfl⟩
    · obtain rfl : k = 0 := by omega
      rw [if_neg (by simp)] at hs
      replace hs := Lib.hid hs
      clear hT hr
      go_wp2
      go_ret
      exact ⟨by rw [hs.out]; rfl, rfl⟩
/-- What a list of terms gives: its polynomial, or none. -/
def PolP (lo : Nat) (b : Bool) (k : Nat) (l2 : List (Nat × Nat)) (e : Ending) (w' : World) : Prop :=
  (b = true ∧ ∃ g c, e = .returned (.tuple #[.agg #[.slice (some ⟨g, 0, none⟩) k c], .bool true]) ∧ k ≤ c ∧ Own w' lo w'.heap.size 36 (some ⟨g, 0, none⟩) (cplx l2)) ∨
  (b = false ∧ e = .returned (.tuple #[.agg #[.slice none 0 0], .bool false]))
theorem clip_any (g n c : Nat) (w : World) (hc : n ≤ c) :
    Calls Try.prog 86 #[.slice (some ⟨g, 0, none⟩) n c] w fun e w' => e = .returned (.slice (some ⟨g, 0, none⟩) n n) ∧ w' = w := by
  go_enter Try.func86, Try.ntmps86
  go_wp2
  go_ret
  exact ⟨rfl, rfl⟩
theorem reads_take {w : World} {B : Nat} {A : Option Addr} {l : List (Nat × Nat)} (h : Reads w B 1 A l.length (cplx l)) {k : Nat} (hk : k ≤ l.length) : Reads w B 1 A (l.take k).length (cplx (l.take k)) := by
  refine ⟨by simp, fun h0 => ?_⟩
  rw [List.length_take, Nat.min_eq_left hk] at h0
  obtain ⟨ad, e, h1, h2⟩ := h.2 (by omega)
  refine ⟨ad, e, h1, fun j u hu => h2 j u ?_⟩
  have e2 : cplx (l.take k) = (cplx l).take k := by simp [cplx, List.map_take]
  rw [e2, List.getElem?_take] at hu
  split at hu
  · exact hu
  · cases hu

set_option maxRecDepth 100000 in
set_option maxHeartbeats 800000 in
theorem polyOf_any (lo g c : Nat) (l : List (Nat × Nat)) (w : World) (ho : Own w lo w.heap.size 36 (some ⟨g, 0, none⟩) (cplx l)) (h1 : 1 ≤ l.length) (hn : l.length ≤ 1000) (hc : l.length ≤ c) :
    Calls Try.prog 47 #[.slice (some ⟨g, 0, none⟩) l.length c] w fun e w' => PolP lo (polyB (l.take (trimN l l.length))) (trimN l l.length) (l.take (trimN l l.length)) e w' ∧ Below w.heap.size w w' := by
  have hr := ho.reads
  rw [cplx_len] at hr
  have hk1 := trimN_pos l l.length h1
  have hk := trimN_le l l.length
  have HT := fun W (hr : Reads W w.heap.size 1 (some ⟨g, 0, none⟩) l.length (cplx l)) => trim_any g c w.heap.size l W hr h1 hn hc
  have hlt : (l.take (trimN l l.length)).length = trimN l l.length := by rw [List.length_take]; omega
  have HC := fun W => clip_any g (trimN l l.length) c W (by omega)
  have HV := fun W (hr : Reads W w.heap.size 1 (some ⟨g, 0, none⟩) (l.take (trimN l l.length)).length (cplx (l.take (trimN l l.length)))) (hB : w.heap.size ≤ W.heap.size) => validPoly_b (some ⟨g, 0, none⟩) (trimN l l.length) w.heap.size (l.take (trimN l l.length)) W hr hB (by omega)
  have hown : ∀ W, Own W lo w.heap.size 36 (some ⟨g, 0, none⟩) (cplx l) → Own W lo w.heap.size 36 (some ⟨g, 0, none⟩) (cplx (l.take (trimN l l.length))) := fun W h => by
    rcases h with h | ⟨g', cur, e, a1, a2, a3, a4, a5⟩
    · have : l = [] := by simpa [cplx] using h
      subst this; exact .inl rfl
    · refine .inr ⟨g', cur, e, a1, a2, a3, ?_, ?_⟩
      · rw [cplx_len] at a4 ⊢; omega
      · rw [cplx_len] at a5
        rw [cplx_len, hlt]
        have e2 : cplx (l.take (trimN l l.length)) = (cplx l).take (trimN l l.length) := by simp [cplx, List.map_take]
        rw [e2, ← a5, List.take_take, Nat.min_eq_left hk]
  have hrt := reads_take hr hk
  rw [hlt] at HV hrt
  generalize polyB (l.take (trimN l l.length)) = b at *
  generalize l.take (trimN l l.length) = l2 at *
  generalize trimN l l.length = k at *
  replace hown := Lib.hid hown
  go_enter Try.func47, Try.ntmps47
  go_wp2_with fail
  have hb1 : Below w.heap.size w (w.alloc (.cells #[.slice none 0 0] 33)) := (Below.refl _ _).alloc (Nat.le_refl _) _
  refine (HT _ (hr.below hb1)).mono ?_
  rintro e w1 ⟨rfl, rfl⟩
  clear HT
  go_wp2_with fail
  refine (HC _).mono ?_
  rintro e w1 ⟨rfl, rfl⟩
  clear HC
  have hb2 : Below w.heap.size w ((w.alloc (.cells #[.slice none 0 0] 33)).alloc (.cells #[.slice (some ⟨g, 0, none⟩) k k] 33)) := hb1.alloc (by simp) _
  have HV1 := HV _ (hrt.below hb2) hb2.size
  have hP1 : Blk ((w.alloc (.cells #[.slice none 0 0] 33)).alloc (.cells #[.slice (some ⟨g, 0, none⟩) k k] 33)) w.heap.size 33 #[.slice none 0 0] := (Blk.new w _ _).alloc _
  have hP2 : Blk ((w.alloc (.cells #[.slice none 0 0] 33)).alloc (.cells #[.slice (some ⟨g, 0, none⟩) k k] 33)) (w.heap.size + 1) 33 #[.slice (some ⟨g, 0, none⟩) k k] := by
    have h := Blk.new (w.alloc (.cells #[.slice none 0 0] 33)) 33 #[.slice (some ⟨g, 0, none⟩) k k]
    simpa using h
  clear HV hr
  go_wp2_with fail
  refine HV1.mono ?_
  rintro e w3 ⟨rfl, hb3⟩
  clear HV1
  have hsz := hb3.size
  simp only [World.size_alloc] at hsz
  have hQ1 := hP1.below hb3 (by simp; omega)
  have hQ2 := hP2.below hb3 (by simp)
  have c1 : w3.cell? ⟨w.heap.size, 0, none⟩ = some (.slice none 0 0) := hQ1.cell 0
  have c2 : w3.cell? ⟨w.heap.size + 1, 0, none⟩ = some (.slice (some ⟨g, 0, none⟩) k k) := hQ2.cell 0
  have f1 := hQ1.frozen 0
  have hb4 := hb2.trans (hb3.mono (by simp; omega))
  have ho4 := hown.out w3 (ho.below hb4 (Nat.le_refl _))
  cases b with
  | true =>
    go_wp2
    refine bodyPost_ret (v := .tuple #[.agg #[.slice (some ⟨g, 0, none⟩) k k], .bool true]) (by simp [results, Try.results47, go_sem, c1]) rfl ?_
    exact ⟨.inl ⟨rfl, g, k, rfl, Nat.le_refl _, (ho4.below (below_set (Below.refl _ _) (Nat.le_refl _) _) (Nat.le_refl _)).wide (Nat.le_refl _) (by simp; omega)⟩, below_set hb4 (Nat.le_refl _) _⟩
  | false =>
    go_wp2
    refine bodyPost_ret (v := .tuple #[.agg #[.slice none 0 0], .bool false]) (by simp [results, Try.results47, go_sem, c1]) rfl ?_
    exact ⟨.inr ⟨rfl, rfl⟩, below_set hb4 (Nat.le_refl _) _⟩

end Go.Proofs.Ytlpibibpckkjhaa
