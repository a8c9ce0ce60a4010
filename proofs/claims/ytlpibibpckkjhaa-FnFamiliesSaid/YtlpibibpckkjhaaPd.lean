/-
  Complex numbers of a slice of the call's own, that are stored one by one; trimmed lists of finite numbers.
  A polynomial of a family's weights (impl.PolyOfFamily) by values.
  A polynomial of a family's weights (impl.PolyOfFamily): the walk.
  A family's weights of a polynomial (impl.FamilyOf) by values: the numbers.
  A family's weights of a polynomial (impl.FamilyOf) by values: the walk; slices.Clone and impl.checkedList of complex numbers.
-/
import Derived.Test.YtlpibibpckkjhaaPc
import Derived.StillTailTactics
namespace Go.Proofs.Ytlpibibpckkjhaa
open Go.RowKit
/-- The numbers lie at the block's beginning; nothing of it is frozen. -/
def CV (w : World) (g : Nat) (lo : List (Nat × Nat)) : Prop := ∃ sp : List Value, Blk w g 36 (cplx lo ++ sp).toArray
section
variable {w w' : World} {g : Nat} {lo : List (Nat × Nat)}
theorem CV.lt (h : CV w g lo) : g < w.heap.size := by obtain ⟨sp, h⟩ := h; exact Blk.lt h
theorem CV.cell (h : CV w g lo) {i : Nat} (hi : i < lo.length) : w.cell? ⟨g, i, none⟩ = some (.complex .f32 (lo.getD i (0, 0)).1 (lo.getD i (0, 0)).2) := by
  obtain ⟨sp, h⟩ := h
  rw [Blk.cell h i, List.getElem?_toArray, List.getElem?_append_left (by simpa using hi)]
  exact cplx_at hi
theorem CV.frozen (h : CV w g lo) (i : Nat) : w.frozen? ⟨g, i, none⟩ = false := by obtain ⟨sp, h⟩ := h; exact Blk.frozen h i
theorem CV.below {B : Nat} (h : CV w g lo) (hb : Below B w w') (hg : g < B) : CV w' g lo := by obtain ⟨sp, h⟩ := h; exact ⟨sp, Blk.below h hb hg⟩
theorem CV.drew (h : CV w g lo) : CV w.drew g lo := h
theorem CV.set (h : CV w g lo) {i : Nat} (hi : i < lo.length) (x y : Nat) : CV (w.setCell ⟨g, i, none⟩ (.complex .f32 x y)) g (lo.set i (x, y)) := by
  obtain ⟨sp, h⟩ := h
  refine ⟨sp, ?_⟩
  have h2 := Blk.set_ h i (.complex .f32 x y)
  have e : (cplx lo ++ sp).toArray.setIfInBounds i (.complex .f32 x y) = (cplx (lo.set i (x, y)) ++ sp).toArray := by
    rw [List.setIfInBounds_toArray, List.set_append, if_pos (by simpa using hi)]
    simp [cplx, List.map_set]
  rw [e] at h2
  exact h2
theorem CV.other (h : CV w g lo) {b o : Nat} (hb : b ≠ g) (u : Value) : CV (w.setCell ⟨b, o, none⟩ u) g lo := by
  obtain ⟨sp, h⟩ := h
  refine ⟨sp, ?_⟩
  unfold Blk at *
  rw [← h]
  exact Below.heap_setCell _ _ _ _ (by simpa using hb.symm)
theorem CV.own (h : CV w g lo) {a b : Nat} (h1 : a ≤ g) (h2 : g < b) : Own w a b 36 (some ⟨g, 0, none⟩) (cplx lo) := by
  obtain ⟨sp, h⟩ := h
  exact .inr ⟨g, _, rfl, h1, h2, h, by simp, by simp⟩
theorem CV.of_row {base n c : Nat} (h : w.ownsRow base 36 1 (.slice (some ⟨g, 0, none⟩) n c) n (cplx lo)) : CV w g lo := by
  obtain ⟨cs, hb, e1, e2, e3⟩ := blk_of_row h
  refine ⟨cs.toList.drop n, ?_⟩
  rw [← e2, List.take_append_drop]
  exact hb
theorem made_zero (n : Nat) : (madeCells (Value.complex .f32 0 0).cells (n * 1)).toList = cplx (List.replicate n (0, 0)) := by
  have : (madeCells (Value.complex .f32 0 0).cells (n * 1)) = (Array.range (n * 1)).map fun _ => Value.complex .f32 0 0 := by
    unfold madeCells
    congr 1
    funext j
    show (#[Value.complex .f32 0 0])[j % 1]! = _
    rw [Nat.mod_one]; rfl
  rw [this]
  refine List.ext_getElem (by simp [cplx]) fun i h1 h2 => ?_
  simp [cplx]
end
theorem getD_set {α : Type} (l : List α) (i k : Nat) (x d : α) (hi : i < l.length) : (l.set i x).getD k d = if k = i then x else l.getD k d := by
  simp only [List.getD, List.getElem?_set]
  by_cases e : i = k
  · subst e; simp [hi]
  · have e2 : ¬ k = i := fun h => e h.symm
    simp [e, e2]
/-- A trimmed list of finite numbers is a polynomial. -/
theorem trim_valid {l : List (Nat × Nat)} (h1 : 1 ≤ l.length) (h17 : l.length ≤ 17) (hf : ∀ k, k < l.length → fin32B (l.getD k (0, 0)).1 = true ∧ fin32B (l.getD k (0, 0)).2 = true) : polyB (l.take (trimN l l.length)) = true := by
  have hle := trimN_le l l.length
  have hpos := trimN_pos l l.length h1
  have hlen : (l.take (trimN l l.length)).length = trimN l l.length := by rw [List.length_take]; omega
  have hat : ∀ k, k < trimN l l.length → (l.take (trimN l l.length)).getD k (0, 0) = l.getD k (0, 0) := fun k hk => by simp [List.getD, hk]
  have hall : (l.take (trimN l l.length)).all finCB = true := by
    refine List.all_eq_true.2 fun z hz => ?_
    obtain ⟨k, hk, rfl⟩ := List.mem_iff_getElem.1 hz
    have e : (l.take (trimN l l.length)).getD k (0, 0) = (l.take (trimN l l.length))[k] := by rw [List.getD, List.getElem?_eq_getElem hk]; rfl
    rw [← e, hat k (by omega)]
    obtain ⟨a, b⟩ := hf k (by omega)
    unfold finCB
    rw [a, b]; rfl
  have hst := trimN_stop l l.length
  unfold polyB
  rw [hall, hlen]
  rcases hst with h | h
  · have : trimN l l.length = 1 := by omega
    rw [this]; rfl
  · rw [hat _ (by omega), h]
    simp; omega
theorem zeroC_val {x y : Nat} {a b : Rat} (hx : NV .f32 x a) (hy : NV .f32 y b) (h : zeroC (x, y) = true) : a = 0 ∧ b = 0 := by
  unfold zeroC at h
  rw [Bool.and_eq_true] at h
  have key : ∀ {x : Nat} {a : Rat}, NV .f32 x a → (FloatKind.f32.format.order x 0 == some .eq) = true → a = 0 := fun {x a} hx h => by
    have h1 := eq_of_beq h
    obtain ⟨o1, -, o3⟩ := order_val .f32 hx nv_zero
    rcases (show a < 0 ∨ a = 0 ∨ 0 < a by grind) with h2 | h2 | h2
    · rw [o1 h2] at h1; cases h1
    · exact h2
    · rw [o3 h2] at h1; cases h1
  exact ⟨key hx h.1, key hy h.2⟩
end Go.Proofs.Ytlpibibpckkjhaa
namespace Go.Proofs.Ytlpibibpckkjhaa
open Go.RowKit
def tmL (kind k : Nat) : List Nat × List Nat := (termW kind k).getD ([], [])
/-- A term of a family's polynomial. -/
def tT (kind k i : Nat) : Rat := V32 ((tmL kind k).1.getD i 0)
def tmB (kind k : Nat) : Bool := match termW kind k with
  | some r => polyB (reC r.1) && decide (trimN (reC r.1) (k + 1) = k + 1) && r.1.all fin32B && (List.range (k + 1)).all (fun i => decide (ab (V32 (r.1.getD i 0)) ≤ 100)) && decide (1 / 1000 ≤ ab (V32 (r.1.getD k 0)))
  | none => false
theorem tm_tab : (List.range 5).all (fun kind => (List.range 7).all (tmB kind)) = true := by decide +kernel
structure TmOk (kind k : Nat) : Prop where
  is : termW kind k = some (tmL kind k)
  valid : polyB (reC (tmL kind k).1) = true
  trim : trimN (reC (tmL kind k).1) (k + 1) = k + 1
  len : (tmL kind k).1.length = k + 1
  nv : ∀ i, i ≤ k → NV .f32 ((tmL kind k).1.getD i 0) (tT kind k i)
  bd : ∀ i, i ≤ k → ab (tT kind k i) ≤ 100
  lead : 1 / 1000 ≤ ab (tT kind k k)
theorem tm_ok (kind k : Nat) (hk : kind ≤ 4) (hk6 : k ≤ 6) : TmOk kind k := by
  have h := List.all_eq_true.1 (List.all_eq_true.1 tm_tab kind (List.mem_range.2 (by omega))) k (List.mem_range.2 (by omega))
  unfold tmB at h
  cases e : termW kind k with
  | none => rw [e] at h; cases h
  | some r =>
    rw [e] at h
    simp only [Bool.and_eq_true, decide_eq_true_eq] at h
    obtain ⟨⟨⟨⟨h1, h2⟩, h3⟩, h4⟩, h5⟩ := h
    have e2 : tmL kind k = r := by unfold tmL; rw [e]; rfl
    have hl := (termW_len e).1
    refine ⟨by rw [e2]; exact e, by rw [e2]; exact h1, by rw [e2]; exact h2, by rw [e2]; exact hl, fun i hi => ?_, fun i hi => ?_, ?_⟩
    · unfold tT
      rw [e2]
      refine nv_of_fin (List.all_eq_true.1 h3 _ ?_)
      rw [List.getD, List.getElem?_eq_getElem (by omega)]
      exact List.getElem_mem _
    · unfold tT
      rw [e2]
      have := List.all_eq_true.1 h4 i (List.mem_range.2 (by omega))
      simpa using this
    · unfold tT
      rw [e2]
      exact h5
theorem tT_beyond {kind k i : Nat} (hk : kind ≤ 4) (hk6 : k ≤ 6) (hi : k < i) : tT kind k i = 0 := by
  unfold tT
  have hl := (tm_ok kind k hk hk6).len
  rw [List.getD, List.getElem?_eq_none (by omega)]
  exact v32_zero
theorem ab_zero {x : Rat} (h : x = 0) : ab x = 0 := by subst h; decide +kernel
theorem ab_pos (x : Rat) : 0 ≤ ab x := by unfold ab; split <;> grind
/-- A term of the sum of so many polynomials by their weights. -/
def sT (W : Nat → Rat) (kind i : Nat) : Nat → Rat
  | 0 => 0
  | k + 1 => sT W kind i k + W k * tT kind k i
def sgT (kind i : Nat) : Nat → Rat
  | 0 => 1 / 1000
  | k + 1 => sgT kind i k + (ab (tT kind k i) + 1 / 1000)
def erT (kind i : Nat) : Nat → Rat
  | 0 => 0
  | k + 1 => erT kind i k + 4 * sgT kind i (k + 1)
theorem sgT_pos (kind i : Nat) : ∀ k, 1 / 1000 ≤ sgT kind i k
  | 0 => by rw [sgT]; grind
  | k + 1 => by
    have := sgT_pos kind i k
    have := ab_pos (tT kind k i)
    rw [sgT]; grind
theorem erT_pos (kind i : Nat) : ∀ k, 0 ≤ erT kind i k
  | 0 => by rw [erT]; grind
  | k + 1 => by
    have := erT_pos kind i k
    have := sgT_pos kind i (k + 1)
    rw [erT]; grind
def sgB (kind i : Nat) : Bool := (List.range 7).all fun k => decide (sgT kind i k ≤ 300) && decide (erT kind i k ≤ 3000)
theorem sg_tab : (List.range 5).all (fun kind => (List.range 6).all (sgB kind)) = true := by decide +kernel
theorem sg_ok (kind i k : Nat) (hk : kind ≤ 4) (hi : i ≤ 5) (hk6 : k ≤ 6) : sgT kind i k ≤ 300 ∧ erT kind i k ≤ 3000 := by
  have h := List.all_eq_true.1 (List.all_eq_true.1 sg_tab kind (List.mem_range.2 (by omega))) i (List.mem_range.2 (by omega))
  unfold sgB at h
  have h2 := List.all_eq_true.1 h k (List.mem_range.2 (by omega))
  simpa using h2
theorem sT_bd {W : Nat → Rat} {D : Rat} {kind i : Nat} : ∀ k, (∀ j, j < k → Lm (W j) D) → 0 ≤ D → Lm (sT W kind i k) (D * (sgT kind i k - 1 / 1000 - ((k : Nat) : Rat) / 1000))
  | 0, _, _ => by
    have e0 : ((0 : Nat) : Rat) = 0 := rfl
    rw [sT, sgT, e0]; unfold Lm; constructor <;> grind
  | k + 1, h, hD => by
    have ih := sT_bd (W := W) (D := D) (kind := kind) (i := i) k (fun j hj => h j (by omega)) hD
    have h2 := (h k (by omega)).mul (ab_lm (tT kind k i))
    rw [sT, sgT, nat_succ_rat k]
    refine (ih.add h2).le ?_
    grind
/-- A number of the polynomial made of so many others. -/
def PAt (W : Nat → Rat) (kind : Nat) (D : Rat) (i k : Nat) (z : Nat × Nat) : Prop := ∃ a b, NV .f32 z.1 a ∧ NV .f32 z.2 b ∧ N1 (a - sT W kind i k) b (erT kind i k * (D / 16000000))
theorem pAt_zero {W : Nat → Rat} {kind i : Nat} {D : Rat} : PAt W kind D i 0 (0, 0) := by
  refine ⟨0, 0, nv_zero, nv_zero, ?_⟩
  rw [sT, erT]
  unfold N1; refine ⟨?_, ?_, ?_, ?_⟩ <;> grind
theorem pAt_skip {W : Nat → Rat} {kind i k : Nat} {D : Rat} {z : Nat × Nat} (hk : kind ≤ 4) (hk6 : k ≤ 6) (hi : k < i) (hD : 0 ≤ D) (h : PAt W kind D i k z) : PAt W kind D i (k + 1) z := by
  obtain ⟨a, b, h1, h2, h3⟩ := h
  refine ⟨a, b, h1, h2, ?_⟩
  rw [sT, tT_beyond hk hk6 hi, erT]
  have := sgT_pos kind i (k + 1)
  have := Rat.mul_nonneg (show (0 : Rat) ≤ 4 * sgT kind i (k + 1) by grind) (show (0 : Rat) ≤ D / 16000000 by grind)
  rw [show sT W kind i k + W k * 0 = sT W kind i k by grind]
  exact h3.le (by grind)
theorem pAt_step {W : Nat → Rat} {kind i k : Nat} {D : Rat} {z : Nat × Nat} {wx wy : Nat} (hk : kind ≤ 4) (hk5 : k ≤ 5) (hi : i ≤ k) (hD : 1 / 10 ≤ D ∧ D ≤ 10) (hW : ∀ j, j ≤ k → Lm (W j) D) (hx : NV .f32 wx (W k)) (hy : NV .f32 wy 0) (h : PAt W kind D i k z) :
    ∃ p q r s, (∀ w, Calls Try.prog 58 #[.complex .f32 wx wy, .complex .f32 ((tmL kind k).1.getD i 0) 0] w fun e w' => e = .returned (.complex .f32 p q) ∧ w' = w) ∧
      (∀ w, Calls Try.prog 57 #[.complex .f32 z.1 z.2, .complex .f32 p q] w fun e w' => e = .returned (.complex .f32 r s) ∧ w' = w) ∧ PAt W kind D i (k + 1) (r, s) := by
  obtain ⟨a, b, h1, h2, h3⟩ := h
  have hT := (tm_ok kind k hk (by omega)).nv i hi
  have hab := ab_lm (tT kind k i)
  have hp := ab_pos (tT kind k i)
  have hb := (tm_ok kind k hk (by omega)).bd i hi
  have hWk := hW k (Nat.le_refl _)
  have hN : N1 (W k) 0 D := by unfold Lm at hWk; unfold N1; refine ⟨?_, ?_, ?_, ?_⟩ <;> grind
  have hNT : N1 (tT kind k i) 0 (ab (tT kind k i) + 1 / 1000) := by unfold Lm at hab; unfold N1; refine ⟨?_, ?_, ?_, ?_⟩ <;> grind
  have hM := hN.mul hNT
  obtain ⟨b1, b2, b3, b4⟩ := hN.prods hNT
  have hMd : Md (D * (ab (tT kind k i) + 1 / 1000)) := by
    have m1 := Rat.mul_nonneg (show (0 : Rat) ≤ D - 1 / 10 by grind) (show (0 : Rat) ≤ ab (tT kind k i) + 1 / 1000 by grind)
    have m2 := Rat.mul_nonneg (show (0 : Rat) ≤ 10 - D by grind) (show (0 : Rat) ≤ ab (tT kind k i) + 1 / 1000 by grind)
    constructor <;> grind
  obtain ⟨p, q, π, κ, n1, n2, r1, r2, HM⟩ := mulC_m hx hy hT nv_zero hMd b1 b2 b3 b4 hM.fst hM.snd
  obtain ⟨s1, s2⟩ := sg_ok kind i (k + 1) hk (by omega) (by omega)
  have s3 := sgT_pos kind i (k + 1)
  have s4 := (sg_ok kind i k hk (by omega) (by omega)).2
  have s5 := erT_pos kind i k
  have hS := sT_bd (kind := kind) (i := i) (k + 1) (fun j hj => hW j (by omega)) (by grind)
  have eS : sT W kind i (k + 1) = sT W kind i k + W k * tT kind k i := rfl
  have eG : sgT kind i (k + 1) = sgT kind i k + (ab (tT kind k i) + 1 / 1000) := rfl
  have hk0 := nat_le_rat (Nat.zero_le (k + 1))
  have e0 : ((0 : Nat) : Rat) = 0 := rfl
  rw [e0] at hk0
  have d1 := N1.nr r1 r2
  have d2 : N1 (a + π - sT W kind i (k + 1)) (b + κ) (erT kind i k * (D / 16000000) + (D * (ab (tT kind k i) + 1 / 1000) / 16000000 + D * (ab (tT kind k i) + 1 / 1000) / 16000000)) := by
    rw [eS]
    have d3 := h3.add d1
    unfold N1 at d3 ⊢
    refine ⟨?_, ?_, ?_, ?_⟩ <;> grind
  have hED : erT kind i k * (D / 16000000) ≤ D / 3000 := by
    have m1 := Rat.mul_nonneg (show (0 : Rat) ≤ 3000 - erT kind i k by grind) (show (0 : Rat) ≤ D / 16000000 by grind)
    grind
  have hkD := Rat.mul_nonneg hk0 (show (0 : Rat) ≤ D by grind)
  have hpD := Rat.mul_nonneg hp (show (0 : Rat) ≤ D by grind)
  have hbD := Rat.mul_nonneg (show (0 : Rat) ≤ 100 - ab (tT kind k i) by grind) (show (0 : Rat) ≤ D by grind)
  have hsD := Rat.mul_nonneg (show (0 : Rat) ≤ sgT kind i (k + 1) - 1 / 1000 by grind) (show (0 : Rat) ≤ D by grind)
  have hsD2 := Rat.mul_nonneg (show (0 : Rat) ≤ 300 - sgT kind i (k + 1) by grind) (show (0 : Rat) ≤ D by grind)
  have hgk := sgT_pos kind i k
  have hgD := Rat.mul_nonneg (show (0 : Rat) ≤ sgT kind i k by grind) (show (0 : Rat) ≤ D by grind)
  have hL : N1 (a + π) (b + κ) (D * sgT kind i (k + 1)) := by
    unfold Lm at hS
    unfold N1 at d2 ⊢
    refine ⟨?_, ?_, ?_, ?_⟩ <;> grind
  obtain ⟨r, s, ρ, σ, n3, n4, r3, r4, HP⟩ := plus_m h1 h2 n1 n2 (M := D * sgT kind i (k + 1)) (by constructor <;> grind) hL.fst hL.snd
  refine ⟨p, q, r, s, HM, HP, ρ, σ, n3, n4, ?_⟩
  have d4 := (N1.nr r3 r4).add d2
  have eE : erT kind i (k + 1) = erT kind i k + 4 * sgT kind i (k + 1) := rfl
  rw [eE]
  have hm : D * (ab (tT kind k i) + 1 / 1000) ≤ D * sgT kind i (k + 1) := by rw [eG]; grind
  clear eG eE hL hS d1 d2 r1 r2 r3 r4 b1 b2 b3 b4 hM hN hNT hMd h3 hsD hsD2 hbD hpD hkD hED hgD hgk hk0 s1 s2 s3 s4 s5 hWk hb hab hp HM HP n1 n2 n3 n4 h1 h2 hT hW hx hy
  generalize sT W kind i (k + 1) = S at *
  generalize sgT kind i (k + 1) = G at *
  generalize erT kind i k = E at *
  generalize ab (tT kind k i) = T at *
  unfold N1 at d4 ⊢
  refine ⟨?_, ?_, ?_, ?_⟩ <;> grind
end Go.Proofs.Ytlpibibpckkjhaa
namespace Go.Proofs.Ytlpibibpckkjhaa
open Go.RowKit
set_option maxRecDepth 100000 in
set_option maxHeartbeats 1600000 in
theorem polyOfFamily_v (kind m : Nat) (A : Option Addr) (c : Nat) (wide : List (Nat × Nat)) (hl : wide.length = m) (hm1 : 1 ≤ m) (hm : m ≤ 6) (hk : kind ≤ 4) (W : Nat → Rat) (D : Rat) (hD : 1 / 10 ≤ D ∧ D ≤ 10) (hW : ∀ k, k < m → NV .f32 (wide.getD k (0, 0)).1 (W k) ∧ NV .f32 (wide.getD k (0, 0)).2 0 ∧ Lm (W k) D) (w : World) (hr : Reads w w.heap.size 1 A m (cplx wide)) :
    Calls Try.prog 16 #[.int .i64 (kind : Int), .slice A m c] w fun e w' => ∃ lo g c', e = .returned (.tuple #[.agg #[.slice (some ⟨g, 0, none⟩) (trimN lo m) c'], .bool true]) ∧ lo.length = m ∧ (∀ i, i < m → PAt W kind D i m (lo.getD i (0, 0))) ∧ polyB (lo.take (trimN lo m)) = true ∧ Own w' w.heap.size w'.heap.size 36 (some ⟨g, 0, none⟩) (cplx (lo.take (trimN lo m))) ∧ Below w.heap.size w w' := by
  obtain ⟨i0, hi, hz0, hz1, hz2⟩ := info_parts infoC
  have hall : wide.all finCB = true := List.all_eq_true.2 fun y hy => by
    obtain ⟨k, hk2, rfl⟩ := List.mem_iff_getElem.1 hy
    obtain ⟨h1, h2, -⟩ := hW k (by omega)
    rw [List.getD, List.getElem?_eq_getElem hk2] at h1 h2
    unfold finCB
    have a := nv_fin h1
    have b := nv_fin h2
    simp only [Option.getD_some] at a b
    rw [a, b]; rfl
  have HK := within_all (kind : Int) 0 4
  rw [show (decide ((0 : Int) ≤ (kind : Int)) && decide ((kind : Int) ≤ 4)) = true by simp; omega] at HK
  have hb0 : Below w.heap.size w (w.alloc (.cells #[.slice none 0 0] 33)) := (Below.refl _ _).alloc (Nat.le_refl _) _
  have hR0 := Blk.new w 33 #[.slice none 0 0]
  have HA := allFinite_b A c w.heap.size wide _ (by rw [hl]; exact hr.below hb0) hb0.size (by omega)
  rw [hall, hl] at HA
  have hstep := Lib.hid (fun i k z (hkm : k < m) (hi : i ≤ k) (h : PAt W kind D i k z) => pAt_step hk (by omega) hi hD (fun j hj => (hW j (by omega)).2.2) (hW k hkm).1 (hW k hkm).2.1 h)
  have hskip := Lib.hid (fun i k z (hkm : k < m) (hi : k < i) (h : PAt W kind D i k z) => pAt_skip hk (by omega) hi (by grind) h)
  clear hall hW hD
  go_enter Try.func16, Try.ntmps16
  go_wp2_with fail
  refine (HK _).mono ?_
  rintro e w1 ⟨rfl, rfl⟩
  clear HK
  go_wp2_with fail
  (with_reducible refine HA.mono ?_)
  rintro e w1 ⟨rfl, hb1⟩
  clear HA
  have z1 := hb1.size
  simp only [World.size_alloc] at z1
  have hR1 := hR0.below hb1 (by simp)
  have hb2 := hb0.trans (hb1.mono (by simp))
  clear hR0 hb0 hb1
  go_wp2_with (at_make; refine wpList_make_full _ rfl _ _ _ rfl (w.heap.size + 1) 36 i0 (.complex .f32 0 0) 1 Try.underlying31 hi hz0 hz1 .i64 .i64 _ _ m rfl rfl (by omega) (by omega) (by rw [hz2]; omega) (by unfold maxLen; omega) (by omega) ?_; intro w2 hown2 hg2)
  have hb3 : Below w1.heap.size w1 w2 := (Below.refl _ _).grown hg2 (Nat.le_refl _) (by simp)
  have z3 := hb3.size
  rw [made_zero] at hown2
  have hV2 := CV.of_row hown2
  have hR2 := hR1.below hb3 (by omega)
  have hb4 := hb2.trans (hb3.mono (by omega))
  have hlr : (List.replicate m ((0, 0) : Nat × Nat)).length = m := by simp
  have hP0 : Hid (∀ i, i < m → PAt W kind D i 0 ((List.replicate m ((0, 0) : Nat × Nat)).getD i (0, 0))) := fun i hi => by
    have : (List.replicate m ((0, 0) : Nat × Nat)).getD i (0, 0) = (0, 0) := by simp [List.getD, hi]
    rw [this]
    exact pAt_zero
  obtain ⟨O, hO⟩ : ∃ O, O = w1.heap.size := ⟨_, rfl⟩
  rw [← hO] at hV2 ⊢
  have hOl : w.heap.size < O := by omega
  have hOw := hV2.lt
  clear hown2 hg2 hb2 hb3 hR1 z1 hO
  go_wp2_with fail
  go_loopw [7, 8, 9, 10, 11, 12, 37] (fun _ _ _ _ _ _ q wr => ∃ k : Nat, k ≤ m ∧ q = .int .i64 (k : Int) ∧ (∃ lo, lo.length = m ∧ Hid (∀ i, i < m → PAt W kind D i k (lo.getD i (0, 0))) ∧ CV wr O lo) ∧ Blk wr w.heap.size 33 #[.slice none 0 0] ∧ Below w.heap.size w wr) (fun _ _ _ _ _ _ q _ => m - (intOf q).toNat)
  case atStart => exact ⟨0, Nat.zero_le _, rfl, ⟨_, hlr, hP0, hV2⟩, hR2, hb4⟩
  case round =>
    obtain ⟨k, hkm, rfl, ⟨lo, hlo, hPA, hV⟩, hR, hbr⟩ := hrel
    clear hV2 hR2 hb4 hP0 hlr
    obtain ⟨wo, rfl⟩ : ∃ wo : World, wo = wr := ⟨_, rfl⟩
    have zo := hbr.size
    have hVl := hV.lt
    by_cases hlt : k < m
    · have HF := familyPoly_w kind k (tmL kind k) hk (by omega) (tm_ok kind k hk (by omega)).is (tm_ok kind k hk (by omega)).valid (tm_ok kind k hk (by omega)).trim wo
      have hTl : (cplx (reC (tmL kind k).1)).length = k + 1 := by simp [(tm_ok kind k hk (by omega)).len]
      have hTl2 : (reC (tmL kind k).1).length = k + 1 := by simp [(tm_ok kind k hk (by omega)).len]
      have hTat : ∀ i, i < k + 1 → (reC (tmL kind k).1).getD i (0, 0) = ((tmL kind k).1.getD i 0, 0) := fun i hi => reC_at (by rw [(tm_ok kind k hk (by omega)).len]; exact hi)
      obtain ⟨ad, rfl, -, hc1⟩ := comp_at (l := wide) (k := k) (by rw [hl]; exact hr.below hbr) (by omega)
      have hS := Lib.hid (fun i z (hi : i ≤ k) h => hstep.out i k z hlt hi h)
      have hK := Lib.hid (fun i z (hi : k < i) h => hskip.out i k z hlt hi h)
      generalize (wide.getD k (0, 0)).1 = wx at *
      generalize (wide.getD k (0, 0)).2 = wy at *
      have hk0 : (0 : Int) ≤ (k : Int) := by omega
      have hkm' : (k : Int) < (m : Int) := by omega
      go_wp2_with fail
      (with_reducible refine HF.mono ?_)
      rintro e w3 ⟨gf, cf, rfl, hOf, hb5⟩
      clear HF hc1
      have z5 := hb5.size
      have hV3 := hV.below hb5 hVl
      have hR3 := hR.below hb5 (by omega)
      have hb6 := hbr.trans (hb5.mono zo)
      clear hV hR hbr hb5
      have hb7 : Below w3.heap.size w3 (w3.alloc (.cells #[.slice (some ⟨gf, 0, none⟩) (k + 1) cf] 33)) := (Below.refl _ _).alloc (Nat.le_refl _) _
      have hPf := Blk.new w3 33 #[.slice (some ⟨gf, 0, none⟩) (k + 1) cf]
      have cPf : (w3.alloc (.cells #[.slice (some ⟨gf, 0, none⟩) (k + 1) cf] 33)).cell? ⟨w3.heap.size, 0, none⟩ = some (.slice (some ⟨gf, 0, none⟩) (k + 1) cf) := hPf.cell 0
      go_wp2
      have hV4 := hV3.below hb7 (by omega)
      have hR4 := hR3.below hb7 (by omega)
      have hOf4 := hOf.below hb7 (Nat.le_refl _)
      have hb8 := hb6.trans (hb7.mono (by omega))
      generalize w3.alloc (.cells #[.slice (some ⟨gf, 0, none⟩) (k + 1) cf] 33) = w4 at *
      have z8 := hb8.size
      have z7 := hb7.size
      have hVl4 := hV4.lt
      clear hV3 hR3 hOf hb6 hb7 hPf cPf
      have hP4 : Hid (∀ i, i < m → PAt W kind D i (if i < 0 then k + 1 else k) (lo.getD i (0, 0))) := fun i hi => by
        rw [if_neg (by omega)]
        exact hPA.out i hi
      go_loopw [11, 12, 54] (fun _ _ q wr => ∃ i : Nat, i ≤ k + 1 ∧ q = .int .i64 (i : Int) ∧ (∃ lo, lo.length = m ∧ Hid (∀ i', i' < m → PAt W kind D i' (if i' < i then k + 1 else k) (lo.getD i' (0, 0))) ∧ CV wr O lo) ∧ Kp O (O + 1) w4 wr) (fun _ _ q _ => k + 1 - (intOf q).toNat)
      case atStart => exact ⟨0, Nat.zero_le _, rfl, ⟨lo, hlo, hP4, hV4⟩, Kp.refl _ _ _⟩
      case round =>
        obtain ⟨i, hik, rfl, ⟨li, hli, hPi, hVi⟩, hki⟩ := hrel
        clear hV4 hP4 hPA hlo
        obtain ⟨w5, rfl⟩ : ∃ w5 : World, w5 = wr := ⟨_, rfl⟩
        by_cases hlti : i < k + 1
        · have hz := hPi.out i (by omega)
          rw [if_neg (by omega)] at hz
          obtain ⟨p, q, r, s, HM, HP, hz2⟩ := hS.out i (li.getD i (0, 0)) (by omega) hz
          have hcv := hVi.cell (i := i) (by omega)
          have hfv := hVi.frozen i
          obtain ⟨ad2, e2, -, hc2⟩ := comp_at (l := reC (tmL kind k).1) (k := i) (by rw [hTl2]; exact (hOf4.kp hki (.inr (by omega))).reads' (Nat.le_refl _) hTl) (by omega)
          cases e2
          rw [hTat i hlti, add0] at hc2
          simp only at hc2
          have hP5 : Hid (∀ i', i' < m → PAt W kind D i' (if i' < i + 1 then k + 1 else k) ((li.set i (r, s)).getD i' (0, 0))) := fun i' hi' => by
            rw [getD_set _ _ _ _ _ (by omega)]
            by_cases e : i' = i
            · rw [if_pos e, if_pos (by omega), e]; exact hz2
            · rw [if_neg e]
              have h := hPi.out i' hi'
              by_cases e2 : i' < i
              · rw [if_pos e2] at h; rw [if_pos (by omega)]; exact h
              · rw [if_neg e2] at h; rw [if_neg (by omega)]; exact h
          have hVn := CV.set (hVi.drew) (i := i) (by omega) r s
          have hkn := (hki.drewN 1).setCell (p := ⟨O, i, none⟩) ⟨Nat.le_refl _, Nat.lt_succ_self _⟩ (.complex .f32 r s)
          have hil : i < m := by omega
          have hi0 : (0 : Int) ≤ (i : Int) := by omega
          have him : (i : Int) < (m : Int) := by omega
          have hik' : (i : Int) < (k : Int) + 1 := by omega
          have hik2 : i < k + 1 := hlti
          replace hVn := Lib.hid hVn
          replace hkn := Lib.hid hkn
          replace hS := Lib.hid hS
          clear hz hz2 hVi hki hPi hstep hskip hK hTat hOf4 hr
          generalize (li.getD i (0, 0)).1 = a1 at *
          generalize (li.getD i (0, 0)).2 = a2 at *
          generalize (tmL kind k).1.getD i 0 = t1 at *
          go_wp2_with fail
          refine wp_region_still_tail 11 (by kernel_rfl) (by kernel_rfl) ?_
          simp only [List.take_succ_cons, List.take_zero, List.drop_succ_cons, List.drop_zero]
          repeat still_step
          still_call (HM _)
          repeat still_step
          still_call (HP _)
          repeat still_step
          refine wpStill_nil ?_
          change wpList _ _ _ _ _ w5.drew
          go_wp2
          go_roundw
          case rel => exact ⟨i + 1, by omega, by go_num, ⟨_, by simpa using hli, hP5, hVn.out⟩, hkn.out⟩
          case measure => (simp [intOf]; all_goals omega)
        · obtain rfl : i = k + 1 := by omega
          have hb9 := hki.below (B := w.heap.size) (by omega) z8
          have hb10 := hb8.trans hb9
          have hR5 := hR4.kp hki (.inl (by omega))
          have hP5 : Hid (∀ i', i' < m → PAt W kind D i' (k + 1) (li.getD i' (0, 0))) := fun i' hi' => by
            have h := hPi.out i' hi'
            by_cases e : i' < k + 1
            · rw [if_pos e] at h; exact h
            · rw [if_neg e] at h
              exact hskip.out i' k _ hlt (by omega) h
          clear hPi hS hK hTat hOf4 hb8 hb9 hR4 hki hstep hskip
          go_wp2
          go_roundw
          case rel => exact ⟨k + 1, by omega, by go_num, ⟨_, hli, hP5, hVi⟩, hR5, hb10⟩
          case measure => (simp [intOf]; all_goals omega)
    · obtain rfl : k = m := by omega
      have hfin : ∀ i, i < lo.length → fin32B (lo.getD i (0, 0)).1 = true ∧ fin32B (lo.getD i (0, 0)).2 = true := fun i hi => by
        obtain ⟨a, b, h1, h2, -⟩ := hPA.out i (by omega)
        exact ⟨nv_fin h1, nv_fin h2⟩
      have hval := trim_valid (l := lo) (by omega) (by omega) hfin
      have HP := polyOf_any (w.heap.size + 1) O k lo wo (hV.own (by omega) hVl) (by omega) (by omega) (by omega)
      rw [hval, hlo] at HP
      rw [hlo] at hval
      clear hfin hstep hskip
      go_wp2_with fail
      (with_reducible refine HP.mono ?_)
      rintro e w3 ⟨hPP, hb5⟩
      clear HP
      rcases hPP with ⟨-, gf, cf, rfl, -, hOf⟩ | ⟨h0, -⟩
      · have hR3 := hR.below hb5 (by omega)
        have hb6 := hbr.trans (hb5.mono zo)
        have cR : w3.cell? ⟨w.heap.size, 0, none⟩ = some (.slice none 0 0) := hR3.cell 0
        have fR := hR3.frozen 0
        clear hR hbr hb5
        go_wp2
        refine bodyPost_ret (v := .tuple #[.agg #[.slice (some ⟨gf, 0, none⟩) (trimN lo k) cf], .bool true]) (by simp [results, Try.results16, go_sem, cR]) rfl ?_
        exact ⟨lo, gf, cf, rfl, hlo, hPA.out, hval, (hOf.keep fun g' b1 b2 _ => Below.heap_setCell _ _ _ _ (by simp; omega)).wide (by omega) (by simp), below_set hb6 (by simp) _⟩
      · cases h0
end Go.Proofs.Ytlpibibpckkjhaa
namespace Go.Proofs.Ytlpibibpckkjhaa
open Go.RowKit
/-- Errors of what is left when so many of six polynomials are taken away. -/
def elS (kind : Nat) : Nat → Nat → Rat
  | 0, i => erT kind i 6
  | d + 1, i => elS kind d i + (elS kind d (5 - d) / ab (tT kind (5 - d) (5 - d)) + 8) * ab (tT kind (5 - d) i) + 4 * sgT kind i 6 + 1 / 20
def dlT (kind k : Nat) : Rat := elS kind (5 - k) k / ab (tT kind k k) + 4
def elB (kind : Nat) : Bool := (List.range 7).all (fun d => (List.range 6).all fun i => decide (elS kind d i ≤ 100000)) && (List.range 6).all (fun k => decide (dlT kind k ≤ 50000))
theorem el_tab : (List.range 5).all elB = true := by decide +kernel
theorem el_ok (kind : Nat) (hk : kind ≤ 4) : (∀ d i, d ≤ 6 → i ≤ 5 → elS kind d i ≤ 100000) ∧ ∀ k, k ≤ 5 → dlT kind k ≤ 50000 := by
  have h := List.all_eq_true.1 el_tab kind (List.mem_range.2 (by omega))
  unfold elB at h
  rw [Bool.and_eq_true] at h
  refine ⟨fun d i hd hi => ?_, fun k hk5 => ?_⟩
  · have := List.all_eq_true.1 (List.all_eq_true.1 h.1 d (List.mem_range.2 (by omega))) i (List.mem_range.2 (by omega))
    simpa using this
  · have := List.all_eq_true.1 h.2 k (List.mem_range.2 (by omega))
    simpa using this
theorem erT_mono (kind i : Nat) : ∀ k j, k ≤ j → erT kind i k ≤ erT kind i j
  | k, 0, h => by obtain rfl : k = 0 := by omega
                  exact Rat.le_refl
  | k, j + 1, h => by
    rcases Nat.eq_or_lt_of_le h with e | e
    · rw [e]; exact Rat.le_refl
    · have h1 := erT_mono kind i k j (by omega)
      have h2 := sgT_pos kind i (j + 1)
      have e2 : erT kind i (j + 1) = erT kind i j + 4 * sgT kind i (j + 1) := rfl
      rw [e2]; grind
theorem sgT_mono (kind i : Nat) : ∀ k j, k ≤ j → sgT kind i k ≤ sgT kind i j
  | k, 0, h => by obtain rfl : k = 0 := by omega
                  exact Rat.le_refl
  | k, j + 1, h => by
    rcases Nat.eq_or_lt_of_le h with e | e
    · rw [e]; exact Rat.le_refl
    · have h1 := sgT_mono kind i k j (by omega)
      have h2 := ab_pos (tT kind j i)
      have e2 : sgT kind i (j + 1) = sgT kind i j + (ab (tT kind j i) + 1 / 1000) := rfl
      rw [e2]; grind
theorem div_nonneg {a b : Rat} (ha : 0 ≤ a) (hb : 0 < b) : 0 ≤ a / b := by
  rcases (show 0 ≤ a / b ∨ a / b < 0 by grind) with h | h
  · exact h
  · have e : a / b * b = a := Rat.div_mul_cancel (by grind)
    have := Rat.mul_pos (show (0 : Rat) < -(a / b) by grind) hb
    grind
theorem elS_pos (kind : Nat) (hk : kind ≤ 4) : ∀ d i, d ≤ 6 → 0 ≤ elS kind d i
  | 0, i, _ => erT_pos kind i 6
  | d + 1, i, hd => by
    have h1 := elS_pos kind hk d i (by omega)
    have h2 := elS_pos kind hk d (5 - d) (by omega)
    have h3 := (tm_ok kind (5 - d) hk (by omega)).lead
    have h4 := div_nonneg h2 (show 0 < ab (tT kind (5 - d) (5 - d)) by grind)
    have h5 := ab_pos (tT kind (5 - d) i)
    have h6 := Rat.mul_nonneg (show (0 : Rat) ≤ elS kind d (5 - d) / ab (tT kind (5 - d) (5 - d)) + 8 by grind) h5
    have h7 := sgT_pos kind i 6
    rw [elS]; grind
theorem elS_mono (kind : Nat) (hk : kind ≤ 4) : ∀ d i, d ≤ 6 → erT kind i 6 ≤ elS kind d i
  | 0, i, _ => Rat.le_refl
  | d + 1, i, hd => by
    have h1 := elS_mono kind hk d i (by omega)
    have h2 := elS_pos kind hk d (5 - d) (by omega)
    have h3 := (tm_ok kind (5 - d) hk (by omega)).lead
    have h4 := div_nonneg h2 (show 0 < ab (tT kind (5 - d) (5 - d)) by grind)
    have h5 := ab_pos (tT kind (5 - d) i)
    have h6 := Rat.mul_nonneg (show (0 : Rat) ≤ elS kind d (5 - d) / ab (tT kind (5 - d) (5 - d)) + 8 by grind) h5
    have h7 := sgT_pos kind i 6
    rw [elS]; grind
/-- What is left of a number when the polynomials from k on are taken away. -/
def LAt (W : Nat → Rat) (kind : Nat) (D : Rat) (i k : Nat) (z : Nat × Nat) : Prop := ∃ a b, NV .f32 z.1 a ∧ NV .f32 z.2 b ∧ N1 (a - sT W kind i k) b (elS kind (6 - k) i * (D / 16000000))
/-- A weight that is found again. -/
def OAt (W : Nat → Rat) (kind : Nat) (D : Rat) (k : Nat) (z : Nat × Nat) : Prop := ∃ a b, NV .f32 z.1 a ∧ NV .f32 z.2 b ∧ N1 (a - W k) b (dlT kind k * (D / 16000000))
theorem sT_same {W : Nat → Rat} {kind i : Nat} {k : Nat} : ∀ m, k ≤ m → (∀ j, k ≤ j → j < m → W j = 0) → sT W kind i m = sT W kind i k
  | 0, h, _ => by obtain rfl : k = 0 := by omega
                  rfl
  | m + 1, h, hz => by
    rcases Nat.eq_or_lt_of_le h with e | e
    · rw [e]
    · have h1 := sT_same (W := W) (kind := kind) (i := i) (k := k) m (by omega) (fun j a b => hz j a (by omega))
      have e2 : sT W kind i (m + 1) = sT W kind i m + W m * tT kind m i := rfl
      rw [e2, h1, hz m (by omega) (by omega)]
      grind
theorem sT_low {W : Nat → Rat} {kind i : Nat} (hk : kind ≤ 4) : ∀ k, k ≤ i → k ≤ 6 → sT W kind i k = 0
  | 0, _, _ => rfl
  | k + 1, h, h6 => by
    have h1 := sT_low (W := W) (kind := kind) (i := i) hk k (by omega) (by omega)
    have e2 : sT W kind i (k + 1) = sT W kind i k + W k * tT kind k i := rfl
    rw [e2, h1, tT_beyond hk (by omega) (by omega)]
    grind
theorem lAt_start {W : Nat → Rat} {kind i m k : Nat} {D : Rat} {z : Nat × Nat} (hk : kind ≤ 4) (hm : m ≤ 6) (hkm : k ≤ m) (hD : 0 ≤ D) (hz : ∀ j, k ≤ j → j < m → W j = 0) (h : PAt W kind D i m z) : LAt W kind D i k z := by
  obtain ⟨a, b, h1, h2, h3⟩ := h
  rw [sT_same m hkm hz] at h3
  refine ⟨a, b, h1, h2, h3.le ?_⟩
  have e1 := erT_mono kind i m 6 hm
  have e2 := elS_mono kind hk (6 - k) i (by omega)
  exact Rat.mul_le_mul_of_nonneg_right (by grind) (by grind)
theorem ab_cases (t : Rat) : (ab t = t ∧ 0 ≤ t) ∨ (ab t = -t ∧ t < 0) := by unfold ab; split <;> grind
theorem N1.div {x y t e g : Rat} (h : N1 (x * t) (y * t) e) (ht : 0 < ab t) (hg : g * ab t = e) : N1 x y g := by
  have key : ∀ u : Rat, u * t ≤ e → -(u * t) ≤ e → u ≤ g := fun u h1 h2 => by
    rcases (show u ≤ g ∨ 0 < u - g by grind) with h | h
    · exact h
    · have hm := Rat.mul_pos h ht
      rcases ab_cases t with ⟨e1, e2⟩ | ⟨e1, e2⟩ <;> rw [e1] at hm hg <;> grind
  unfold N1 at *
  refine ⟨key _ ?_ ?_, key _ ?_ ?_, key _ ?_ ?_, key _ ?_ ?_⟩ <;> grind
theorem ab_sq (t : Rat) : ab t * ab t = t * t := by rcases ab_cases t with ⟨e, -⟩ | ⟨e, -⟩ <;> rw [e] <;> grind
/-- A weight is found again. -/
theorem out_step {W : Nat → Rat} {kind k : Nat} {D : Rat} {z : Nat × Nat} (hk : kind ≤ 4) (hk5 : k ≤ 5) (hD : 1 / 10 ≤ D ∧ D ≤ 10) (hW : Lm (W k) D) (h : LAt W kind D k (k + 1) z) :
    ∃ r s, (∀ w, Calls Try.prog 60 #[.complex .f32 z.1 z.2, .complex .f32 ((tmL kind k).1.getD k 0) 0] w fun e w' => e = .returned (.complex .f32 r s) ∧ w' = w) ∧ OAt W kind D k (r, s) := by
  obtain ⟨a, b, h1, h2, h3⟩ := h
  have eS : sT W kind k (k + 1) = W k * tT kind k k := by
    have e2 : sT W kind k (k + 1) = sT W kind k k + W k * tT kind k k := rfl
    rw [e2, sT_low hk k (Nat.le_refl _) (by omega)]; grind
  have eD : 6 - (k + 1) = 5 - k := by omega
  rw [eS, eD] at h3
  have hT := (tm_ok kind k hk (by omega)).nv k (Nat.le_refl _)
  have ht := (tm_ok kind k hk (by omega)).lead
  have hb := (tm_ok kind k hk (by omega)).bd k (Nat.le_refl _)
  have hd := (el_ok kind hk).2 k hk5
  have hE := elS_pos kind hk (5 - k) k (by omega)
  unfold dlT at hd
  have eg : elS kind (5 - k) k / ab (tT kind k k) * ab (tT kind k k) = elS kind (5 - k) k := Rat.div_mul_cancel (by grind)
  have hg0 := div_nonneg hE (show 0 < ab (tT kind k k) by grind)
  have hsq := ab_sq (tT kind k k)
  have htne : tT kind k k ≠ 0 := fun e => by rw [ab_zero e] at ht; grind
  obtain ⟨q1, e1⟩ := div_ex a (tT kind k k) htne
  obtain ⟨q2, e2⟩ := div_ex b (tT kind k k) htne
  unfold OAt dlT
  generalize elS kind (5 - k) k / ab (tT kind k k) = g at *
  generalize elS kind (5 - k) k = E at *
  generalize hτ : ab (tT kind k k) = τ at *
  generalize tT kind k k = t at *
  generalize W k = ω at *
  have hτ0 : 0 < ab t := by rw [hτ]; grind
  have hq : N1 (q1 - ω) q2 (g * (D / 16000000)) := N1.div (t := t) (e := E * (D / 16000000)) (by rw [show (q1 - ω) * t = a - ω * t by grind, e2]; exact h3) hτ0 (by rw [hτ]; grind)
  have hgD : g * (D / 16000000) ≤ D / 100 := by
    have := Rat.mul_nonneg (show (0 : Rat) ≤ 50000 - g by grind) (show (0 : Rat) ≤ D by grind)
    grind
  have hqb : N1 q1 q2 (2 * D) := by unfold Lm at hW; unfold N1 at hq ⊢; refine ⟨?_, ?_, ?_, ?_⟩ <;> grind
  have hQ : t * t + 0 * 0 = τ * τ := by rw [hsq]; grind
  have hτ2 : 1 / 1000000 ≤ τ * τ ∧ τ * τ ≤ 10000 := by
    have m1 := Rat.mul_nonneg (show (0 : Rat) ≤ τ - 1 / 1000 by grind) (show (0 : Rat) ≤ τ by grind)
    have m2 := Rat.mul_nonneg (show (0 : Rat) ≤ 100 - τ by grind) (show (0 : Rat) ≤ τ by grind)
    constructor <;> grind
  have hDQ := Rat.mul_nonneg (show (0 : Rat) ≤ D - 1 / 10 by grind) (show (0 : Rat) ≤ τ * τ by grind)
  have hDQ2 := Rat.mul_nonneg (show (0 : Rat) ≤ 10 - D by grind) (show (0 : Rat) ≤ τ * τ by grind)
  have hat : a * t = q1 * (τ * τ) := by rw [← e1, hsq]; grind
  have hbt : b * t = q2 * (τ * τ) := by rw [← e2, hsq]; grind
  have lQ : Lm (τ * τ) (τ * τ) := by unfold Lm; constructor <;> grind
  have p1 : Lm (a * t) (4 * (2 * D) * (τ * τ)) := by rw [hat]; exact (hqb.fst.mul lQ).le (by grind)
  have p2 : Lm (b * t) (4 * (2 * D) * (τ * τ)) := by rw [hbt]; exact (hqb.snd.mul lQ).le (by grind)
  have p0 : Lm 0 (4 * (2 * D) * (τ * τ)) := by unfold Lm; constructor <;> grind
  obtain ⟨r, s, ρ, σ, n1, n2, r1, r2, HQ⟩ := quoC_m (Q := τ * τ) (q1 := q1) (q2 := q2) (M := 2 * D) h1 h2 hT nv_zero hQ (by constructor <;> grind) (by constructor <;> grind) (by constructor <;> grind) (by rw [← hat]; grind) (by rw [← hbt]; grind) hqb.fst hqb.snd p1 (by rw [Rat.mul_zero]; exact p0) (by rw [Rat.mul_zero]; exact p0) p2
  refine ⟨r, s, HQ, ρ, σ, n1, n2, ?_⟩
  have d := (N1.nr r1 r2).add hq
  unfold N1 at d ⊢
  refine ⟨?_, ?_, ?_, ?_⟩ <;> grind
end Go.Proofs.Ytlpibibpckkjhaa
namespace Go.Proofs.Ytlpibibpckkjhaa
open Go.RowKit
theorem cplx_one (l : List (Nat × Nat)) : ∀ u ∈ cplx l, u.oneCell' = true := fun u hu => by
  obtain ⟨z, -, rfl⟩ := List.mem_map.1 hu
  rfl
theorem cloneC_any (A : Option Addr) (c B : Nat) (l : List (Nat × Nat)) (hl1 : 1 ≤ l.length) (w : World) (hr : Reads w B 1 A l.length (cplx l)) (hB : B ≤ w.heap.size) (hn : l.length ≤ 1048576) :
    Calls Try.prog 59 #[.slice A l.length c] w fun e w' => ∃ v, e = .returned v ∧ w'.ownsRow w.heap.size 36 1 v l.length (cplx l) ∧ Below w.heap.size w w' := by
  obtain ⟨i0, hi, hz0, hz1, hz2⟩ := info_parts infoC
  obtain ⟨ad, rfl, -⟩ := hr.2 (by omega)
  have hb0 : Below w.heap.size w (w.alloc (.cells #[] 36)) := (Below.refl _ _).alloc (Nat.le_refl _) _
  have hown : (w.alloc (.cells #[] 36)).ownsRow w.heap.size 36 1 (.slice (some ⟨w.heap.size, 0, none⟩) 0 0) 0 [] := World.ownsRow_made w #[] 0 (Nat.le_refl _) (by simp [maxLen]) rfl
  have kn := fun (w : World) (a : Option Addr) (l c n' c' : Nat) => Lib.run_eql_slice_nil (P := Try.prog) w 31 36 a l c n' c' Try.underlying31
  go_enter Try.func59, Try.ntmps59
  go_wp2_with (at_builtin; refine wpList_append_any _ rfl (.tmp 5) (.tmp 6) _ rfl w.heap.size 36 i0 _ 1 8 Try.underlying31 hi hz0 hz1 hz2 rfl (by omega) (.slice (some ⟨w.heap.size, 0, none⟩) 0 0) 0 [] rfl hown B (some ad) l.length c (cplx l) rfl (hr.below (hb0.mono hB)) (cplx_one l) (by simp only [maxLen]; omega) (by omega) (by simp) ?_; intro v1 w1 hown1 hg1 hat1)
  go_ret
  refine ⟨_, rfl, by simpa using hown1, hb0.grown hg1 (by simp) (fun k hk => ?_)⟩
  simp [Value.ownBlock] at hk
  omega
theorem checkedList_yes (A : Option Addr) (c B n : Nat) (l : List (Nat × Nat)) (hl : l.length = n) (w : World) (hr : Reads w B 1 A n (cplx l)) (hB : B ≤ w.heap.size) (hn : n ≤ 1048576) (hf : ∀ k, k < n → fin32B (l.getD k (0, 0)).1 = true ∧ fin32B (l.getD k (0, 0)).2 = true) :
    Calls Try.prog 62 #[.slice A n c] w fun e w' => e = .returned (.tuple #[.slice A n c, .bool true]) ∧ Below w.heap.size w w' := by
  subst hl
  have hall : l.all finCB = true := List.all_eq_true.2 fun z hz => by
    obtain ⟨k, hk, rfl⟩ := List.mem_iff_getElem.1 hz
    have e : l.getD k (0, 0) = l[k] := by rw [List.getD, List.getElem?_eq_getElem hk]; rfl
    rw [← e]
    obtain ⟨a, b⟩ := hf k hk
    unfold finCB
    rw [a, b]; rfl
  have H := allFinite_b A c B l w hr hB hn
  rw [hall] at H
  clear hall hf hr
  go_enter Try.func62, Try.ntmps62
  go_wp2_with fail
  refine H.mono ?_
  rintro e w1 ⟨rfl, hb⟩
  go_wp2
  go_ret2
  exact ⟨rfl, hb⟩
/-- What a polynomial takes away of a number. -/
theorem left_step {W : Nat → Rat} {kind i k : Nat} {D : Rat} {z o : Nat × Nat} (hk : kind ≤ 4) (hk5 : k ≤ 5) (hi : i ≤ k) (hD : 1 / 10 ≤ D ∧ D ≤ 10) (hW : ∀ j, j ≤ k → Lm (W j) D) (h : LAt W kind D i (k + 1) z) (ho : OAt W kind D k o) :
    ∃ p q r s, (∀ w, Calls Try.prog 58 #[.complex .f32 o.1 o.2, .complex .f32 ((tmL kind k).1.getD i 0) 0] w fun e w' => e = .returned (.complex .f32 p q) ∧ w' = w) ∧
      (∀ w, Calls Try.prog 61 #[.complex .f32 z.1 z.2, .complex .f32 p q] w fun e w' => e = .returned (.complex .f32 r s) ∧ w' = w) ∧ LAt W kind D i k (r, s) := by
  obtain ⟨a, b, h1, h2, h3⟩ := h
  obtain ⟨α, β, g1, g2, g3⟩ := ho
  have hT := (tm_ok kind k hk (by omega)).nv i hi
  have hab := ab_lm (tT kind k i)
  have hp := ab_pos (tT kind k i)
  have hb := (tm_ok kind k hk (by omega)).bd i hi
  have hd := (el_ok kind hk).2 k hk5
  have eD : 6 - (k + 1) = 5 - k := by omega
  have eD2 : 6 - k = (5 - k) + 1 := by omega
  have eD3 : 5 - (5 - k) = k := by omega
  have hE := (el_ok kind hk).1 (6 - k) i (by omega) (by omega)
  have hS := sT_bd (W := W) (kind := kind) (i := i) k (fun j hj => hW j (by omega)) (show 0 ≤ D by grind)
  have hm := sgT_mono kind i k 6 (by omega)
  have hsg := sgT_pos kind i 6
  have hsg3 := (sg_ok kind i 6 hk (by omega) (by omega)).1
  have hlead := (tm_ok kind k hk (by omega)).lead
  have eS : sT W kind i (k + 1) = sT W kind i k + W k * tT kind k i := rfl
  have hWk := hW k (Nat.le_refl _)
  unfold LAt
  rw [eD, eS] at h3
  rw [eD2, elS, eD3] at hE ⊢
  unfold dlT at hd g3
  have hg0 := div_nonneg (elS_pos kind hk (5 - k) k (by omega)) (show 0 < ab (tT kind k k) by grind)
  have hE0 := elS_pos kind hk (5 - k) i (by omega)
  have hkk := nat_le_rat (Nat.zero_le k)
  have e0 : ((0 : Nat) : Rat) = 0 := rfl
  rw [e0] at hkk
  generalize elS kind (5 - k) k / ab (tT kind k k) = g at *
  generalize elS kind (5 - k) i = E at *
  generalize sgT kind i k = G0 at *
  generalize sgT kind i 6 = G at *
  generalize sT W kind i k = S at *
  generalize W k = ω at *
  generalize tT kind k i = t at *
  generalize hτ : ab t = τ at *
  generalize ((k : Nat) : Rat) = K at *
  have hD0 : 0 ≤ D := by grind
  have mgD := Rat.mul_nonneg (show (0 : Rat) ≤ 50000 - (g + 4) by grind) hD0
  have mg := Rat.mul_nonneg hg0 hD0
  have mG := Rat.mul_nonneg (show (0 : Rat) ≤ G - G0 by grind) hD0
  have mK := Rat.mul_nonneg hkk hD0
  have mτ := Rat.mul_nonneg hp hD0
  have mτ2 := Rat.mul_nonneg (show (0 : Rat) ≤ 100 - τ by grind) hD0
  have mG1 := Rat.mul_nonneg (show (0 : Rat) ≤ G - 1 / 1000 by grind) hD0
  have mG3 := Rat.mul_nonneg (show (0 : Rat) ≤ 300 - G by grind) hD0
  have mE := Rat.mul_nonneg hE0 hD0
  have mEE := Rat.mul_nonneg (show (0 : Rat) ≤ 100000 - (E + (g + 8) * τ + 4 * G + 1 / 20) by grind) hD0
  have mgτ := Rat.mul_nonneg (Rat.mul_nonneg hg0 hp) hD0
  have ho2 : N1 α β (2 * D) := by unfold Lm at hWk; unfold N1 at g3 ⊢; refine ⟨?_, ?_, ?_, ?_⟩ <;> grind
  have hNT : N1 t 0 (τ + 1 / 1000) := by unfold Lm at hab; unfold N1; refine ⟨?_, ?_, ?_, ?_⟩ <;> grind
  have hNT0 : N1 t 0 τ := by unfold Lm at hab; unfold N1; refine ⟨?_, ?_, ?_, ?_⟩ <;> grind
  have hM := ho2.mul hNT
  obtain ⟨b1, b2, b3, b4⟩ := ho2.prods hNT
  obtain ⟨p, q, π, κ, n1, n2, r1, r2, HM⟩ := mulC_m g1 g2 hT nv_zero (M := 2 * D * (τ + 1 / 1000)) (by constructor <;> grind) b1 b2 b3 b4 hM.fst hM.snd
  have d1 := (N1.nr r1 r2)
  have d2 := g3.mul hNT0
  have d3 : N1 (a - π - S) (b - κ) ((E + (g + 4) * τ + (4 * τ + 4 / 1000)) * (D / 16000000)) := by
    unfold N1 at d1 d2 h3 ⊢
    refine ⟨?_, ?_, ?_, ?_⟩ <;> grind
  have hL : N1 (a - π) (b - κ) (D * (G + 1 / 100)) := by
    unfold Lm at hS
    unfold N1 at d3 ⊢
    refine ⟨?_, ?_, ?_, ?_⟩ <;> grind
  obtain ⟨r, s, ρ, σ, n3, n4, r3, r4, HP⟩ := minus_m h1 h2 n1 n2 (M := D * (G + 1 / 100)) (by constructor <;> grind) hL.fst hL.snd
  refine ⟨p, q, r, s, HM, HP, ρ, σ, n3, n4, ?_⟩
  have d4 := (N1.nr r3 r4).add d3
  clear d1 d2 d3 hL hS hM b1 b2 b3 b4 r1 r2 r3 r4 h3 g3 HM HP
  unfold N1 at d4 ⊢
  refine ⟨?_, ?_, ?_, ?_⟩ <;> grind
set_option maxRecDepth 100000 in
set_option maxHeartbeats 1600000 in
theorem familyOf_v (kind m : Nat) (A : Option Addr) (c : Nat) (l : List (Nat × Nat)) (hl : l.length = m) (hm1 : 1 ≤ m) (hm : m ≤ 6) (hk : kind ≤ 4) (W : Nat → Rat) (D : Rat) (hD : 1 / 10 ≤ D ∧ D ≤ 10) (hv : polyB l = true) (hL : ∀ i, i < m → LAt W kind D i m (l.getD i (0, 0))) (hW : ∀ j, j < m → Lm (W j) D) (w : World) (hr : Reads w w.heap.size 1 A m (cplx l)) :
    Calls Try.prog 17 #[.int .i64 (kind : Int), .agg #[.slice A m c]] w fun e w' => ∃ lo g c', e = .returned (.tuple #[.slice (some ⟨g, 0, none⟩) m c', .bool true]) ∧ lo.length = m ∧ (∀ k, k < m → OAt W kind D k (lo.getD k (0, 0))) ∧ Own w' w.heap.size w'.heap.size 36 (some ⟨g, 0, none⟩) (cplx lo) ∧ Below w.heap.size w w' := by
  obtain ⟨i0, hi, hz0, hz1, hz2⟩ := info_parts infoC
  have HK := within_all (kind : Int) 0 4
  rw [show (decide ((0 : Int) ≤ (kind : Int)) && decide ((kind : Int) ≤ 4)) = true by simp; omega] at HK
  have hb0 : Below w.heap.size w (w.alloc (.cells #[.slice A m c] 33)) := (Below.refl _ _).alloc (Nat.le_refl _) _
  have hR0 := Blk.new w 33 #[.slice A m c]
  have cR0 : (w.alloc (.cells #[.slice A m c] 33)).cell? ⟨w.heap.size, 0, none⟩ = some (.slice A m c) := hR0.cell 0
  have HV := validPoly_b A c w.heap.size l _ (by rw [hl]; exact hr.below hb0) hb0.size (by omega)
  rw [hv, hl] at HV
  have hout := Lib.hid (fun k z (hkm : k < m) (h : LAt W kind D k (k + 1) z) => out_step hk (by omega) hD (hW k hkm) h)
  have hleft := Lib.hid (fun i k z o (hkm : k < m) (hi : i ≤ k) (h : LAt W kind D i (k + 1) z) (ho : OAt W kind D k o) => left_step hk (by omega) hi hD (fun j hj => hW j (by omega)) h ho)
  replace hL := Lib.hid hL
  clear hW hD hv
  go_enter Try.func17, Try.ntmps17
  go_wp2_with fail
  refine (HK _).mono ?_
  rintro e w1 ⟨rfl, rfl⟩
  clear HK
  go_wp2_with fail
  (with_reducible refine HV.mono ?_)
  rintro e w1 ⟨rfl, hb1⟩
  clear HV cR0
  have z1 := hb1.size
  simp only [World.size_alloc] at z1
  have hR1 := hR0.below hb1 (by simp)
  have cR1 : w1.cell? ⟨w.heap.size, 0, none⟩ = some (.slice A m c) := hR1.cell 0
  have hb2 := hb0.trans (hb1.mono (by simp))
  have HC := cloneC_any A c w.heap.size l (by omega) w1 (by rw [hl]; exact hr.below hb2) (by omega) (by omega)
  rw [hl] at HC
  clear hR0 hb0 hb1
  go_wp2_with fail
  (with_reducible refine HC.mono ?_)
  rintro e w2 ⟨v, rfl, hrow, hb3⟩
  clear HC cR1 hR1
  obtain ⟨gl, cl, rfl, hgl⟩ := World.ownsRow.form hrow (by omega)
  have hVl := CV.of_row hrow
  have z3 := hb3.size
  have hb4 := hb2.trans (hb3.mono (by omega))
  have hgl1 : w.heap.size ≤ gl := by have := (hrow.lt gl rfl).1; omega
  clear hrow hb2 hb3
  go_wp2_with (at_make; refine wpList_make_full _ rfl _ _ _ rfl (w.heap.size + 1) 36 i0 (.complex .f32 0 0) 1 Try.underlying31 hi hz0 hz1 .i64 .i64 _ _ m rfl rfl (by omega) (by omega) (by rw [hz2]; omega) (by unfold maxLen; omega) (by omega) ?_; intro w3 hown3 hg3)
  have hb5 : Below w2.heap.size w2 w3 := (Below.refl _ _).grown hg3 (Nat.le_refl _) (by simp)
  have z5 := hb5.size
  rw [made_zero] at hown3
  have hVo := CV.of_row hown3
  have hVl3 := hVl.below hb5 hVl.lt
  have hb6 := hb4.trans (hb5.mono (by omega))
  have hlr : (List.replicate m ((0, 0) : Nat × Nat)).length = m := by simp
  obtain ⟨O, hO⟩ : ∃ O, O = w2.heap.size := ⟨_, rfl⟩
  rw [← hO] at hVo ⊢
  have hglO : gl < O := by have := hVl.lt; omega
  have hOw := hVo.lt
  have hLk : Hid (∀ i, i < m → LAt W kind D i m (l.getD i (0, 0))) := hL
  have hOk : Hid (∀ j, m ≤ j → j < m → OAt W kind D j ((List.replicate m ((0, 0) : Nat × Nat)).getD j (0, 0))) := fun j a b => by omega
  obtain ⟨w4, hw4⟩ : ∃ w4, w4 = w3 := ⟨_, rfl⟩
  rw [← hw4] at hVo hVl3 hb6 hOw ⊢
  clear hown3 hg3 hb4 hb5 hVl hL hw4 z5 z3 z1 hO hr
  go_wp2_with fail
  go_loopw [8, 9, 10, 11] (fun q _ _ _ wr => ∃ k : Nat, k ≤ m ∧ q = .int .i64 ((k : Int) - 1) ∧ (∃ li lo, li.length = m ∧ lo.length = m ∧ Hid (∀ i, i < k → LAt W kind D i k (li.getD i (0, 0))) ∧ Hid (∀ j, k ≤ j → j < m → OAt W kind D j (lo.getD j (0, 0))) ∧ CV wr gl li ∧ CV wr O lo) ∧ Below w.heap.size w wr) (fun q _ _ _ _ => (intOf q + 1).toNat)
  case atStart => exact ⟨m, Nat.le_refl _, by go_num, ⟨l, _, hl, hlr, hLk, hOk, hVl3, hVo⟩, hb6⟩
  case round =>
    obtain ⟨k, hkm, rfl, ⟨li, lo, hli, hlo, hLi, hOi, hVl, hVo2⟩, hbr⟩ := hrel
    clear hVl3 hVo hb6 hLk hOk hlr
    obtain ⟨wo, rfl⟩ : ∃ wo : World, wo = wr := ⟨_, rfl⟩
    have zo := hbr.size
    have hOl := hVo2.lt
    by_cases hlt : 1 ≤ k
    · obtain ⟨k, rfl⟩ : ∃ j, k = j + 1 := ⟨k - 1, by omega⟩
      have HF := familyPoly_w kind k (tmL kind k) hk (by omega) (tm_ok kind k hk (by omega)).is (tm_ok kind k hk (by omega)).valid (tm_ok kind k hk (by omega)).trim wo
      have hTl : (cplx (reC (tmL kind k).1)).length = k + 1 := by simp [(tm_ok kind k hk (by omega)).len]
      have hTl2 : (reC (tmL kind k).1).length = k + 1 := by simp [(tm_ok kind k hk (by omega)).len]
      have hTat : ∀ i, i < k + 1 → (reC (tmL kind k).1).getD i (0, 0) = ((tmL kind k).1.getD i 0, 0) := fun i hi => reC_at (by rw [(tm_ok kind k hk (by omega)).len]; exact hi)
      have hz : ((k + 1 : Nat) : Int) - 1 = (k : Int) := by omega
      rw [hz]
      have hk0 : (0 : Int) ≤ (k : Int) := by omega
      have hkm' : (k : Int) < (m : Int) := by omega
      have hkm2 : k < m := by omega
      go_wp2_with fail
      (with_reducible refine HF.mono ?_)
      rintro e w5 ⟨gf, cf, rfl, hOf, hb5⟩
      clear HF
      have z5 := hb5.size
      have hVl5 := hVl.below hb5 (by omega)
      have hVo5 := hVo2.below hb5 (by omega)
      have hb6 := hbr.trans (hb5.mono zo)
      clear hVl hVo2 hbr hb5
      have hb7 : Below w5.heap.size w5 (w5.alloc (.cells #[.slice (some ⟨gf, 0, none⟩) (k + 1) cf] 33)) := (Below.refl _ _).alloc (Nat.le_refl _) _
      have hPf := Blk.new w5 33 #[.slice (some ⟨gf, 0, none⟩) (k + 1) cf]
      go_wp2_with fail
      have hVl6 := hVl5.below hb7 (by omega)
      have hVo6 := hVo5.below hb7 (by omega)
      have hOf6 := hOf.below hb7 (Nat.le_refl _)
      have hb8 := hb6.trans (hb7.mono (by omega))
      have z7 := hb7.size
      obtain ⟨V, hVv⟩ : ∃ V, V = w5.heap.size := ⟨_, rfl⟩
      rw [← hVv] at hPf ⊢
      have hVO : O < V := by omega
      have hfV : Hid (w5.heap.size ≤ V) := by show _ ≤ _; omega
      have hwV : Hid (wo.heap.size ≤ V) := by show _ ≤ _; omega
      replace hVv := Lib.hid hVv
      generalize w5.alloc (.cells #[.slice (some ⟨gf, 0, none⟩) (k + 1) cf] 33) = w6 at *
      have z8 := hb8.size
      have hVo6l := hVo6.lt
      have hVV := hPf.lt
      clear hVl5 hVo5 hOf hb6 hb7
      have hzk := hLi.out k (by omega)
      obtain ⟨r, s, HQ, hok⟩ := hout.out k (li.getD k (0, 0)) hkm2 hzk
      have hcl := hVl6.cell (i := k) (by omega)
      have hco := hVo6.cell (i := k) (by omega)
      have hfo := hVo6.frozen k
      have cV : w6.cell? ⟨V, 0, none⟩ = some (.slice (some ⟨gf, 0, none⟩) (k + 1) cf) := hPf.cell 0
      obtain ⟨ad2, e2, -, hc2⟩ := comp_at (l := reC (tmL kind k).1) (k := k) (by rw [hTl2]; exact hOf6.reads' (Nat.le_refl _) hTl) (by omega)
      cases e2
      rw [hTat k (by omega), add0] at hc2
      simp only at hc2
      have hVo7 := CV.set (hVo6.drew) (i := k) (by omega) r s
      have hVl7 := CV.other (hVl6.drew) (b := O) (o := k) (by omega) (.complex .f32 r s)
      have hk7 : Kp O (O + 1) w6 (w6.drew.setCell ⟨O, k, none⟩ (.complex .f32 r s)) := ((Kp.refl O (O + 1) w6).drewN 1).setCell (p := ⟨O, k, none⟩) ⟨Nat.le_refl _, Nat.lt_succ_self _⟩ (.complex .f32 r s)
      have hO7 : Hid (∀ j, k ≤ j → j < m → OAt W kind D j ((lo.set k (r, s)).getD j (0, 0))) := fun j h1 h2 => by
        rw [getD_set _ _ _ _ _ (by omega)]
        by_cases e : j = k
        · rw [if_pos e, e]; exact hok
        · rw [if_neg e]; exact hOi.out j (by omega) h2
      have hL7 : Hid (∀ i, i ≤ k → LAt W kind D i (if i < 0 then k else k + 1) (li.getD i (0, 0))) := fun i hi => by
        rw [if_neg (by omega)]
        exact hLi.out i (by omega)
      replace hVo7 := Lib.hid hVo7
      replace hVl7 := Lib.hid hVl7
      replace hk7 := Lib.hid hk7
      have hk1 : (k : Int) < (k : Int) + 1 := by omega
      have hk2 : k < k + 1 := by omega
      clear hzk hVl6 hVo6 hout
      generalize hl1 : (li.getD k (0, 0)).1 = x1 at *
      generalize hl2 : (li.getD k (0, 0)).2 = x2 at *
      clear hl1 hl2
      generalize (lo.getD k (0, 0)).1 = y1 at *
      generalize (lo.getD k (0, 0)).2 = y2 at *
      generalize htk : (tmL kind k).1.getD k 0 = t1 at *
      clear htk
      refine wp_region_still_tail 13 (by kernel_rfl) (by kernel_rfl) ?_
      simp only [List.take_succ_cons, List.take_zero, List.drop_succ_cons, List.drop_zero]
      repeat still_step
      still_call (HQ _)
      repeat still_step
      refine wpStill_nil ?_
      change wpList _ _ _ _ _ w6.drew
      go_wp2
      obtain ⟨w7, hw7⟩ : ∃ w7, w7 = (w6.setCell ⟨O, k, none⟩ (.complex .f32 r s)).drew := ⟨_, rfl⟩
      rw [← hw7]
      have hVo8 : CV w7 O (lo.set k (r, s)) := by rw [hw7]; exact hVo7.out
      have hVl8 : CV w7 gl li := by rw [hw7]; exact hVl7.out
      have hk8 : Kp O (O + 1) w6 w7 := by rw [hw7]; exact hk7.out
      have hb9 := hb8.trans (hk8.below (B := w.heap.size) (by omega) z8)
      have hPf8 := hPf.kp hk8 (.inr (by omega))
      have hOf8 := hOf6.kp hk8 (.inr (by omega))
      have z9 := hk8.size
      have hlo2 : (lo.set k (r, s)).length = m := by simpa using hlo
      obtain ⟨lo2, hlo2e⟩ : ∃ lo2, lo2 = lo.set k (r, s) := ⟨_, rfl⟩
      rw [← hlo2e] at hVo8 hlo2 hO7
      have hok2 : lo2.getD k (0, 0) = (r, s) := by rw [hlo2e, getD_set _ _ _ _ _ (by omega), if_pos rfl]
      clear hw7 hVo7 hVl7 hk7 hk8 hb8 hPf hOf6 hlo2e hcl hco hfo cV hc2 HQ hLi hOi
      go_loopw [11, 56] (fun _ q wr => ∃ i : Nat, i ≤ k + 1 ∧ q = .int .i64 (i : Int) ∧ (∃ li, li.length = m ∧ Hid (∀ i', i' ≤ k → LAt W kind D i' (if i' < i then k else k + 1) (li.getD i' (0, 0))) ∧ CV wr gl li) ∧ Kp gl (gl + 1) w7 wr) (fun _ q _ => k + 1 - (intOf q).toNat)
      case atStart => exact ⟨0, Nat.zero_le _, rfl, ⟨li, hli, hL7, hVl8⟩, Kp.refl _ _ _⟩
      case round =>
        obtain ⟨i, hik, rfl, ⟨ln, hln, hLn, hVn⟩, hkn⟩ := hrel
        clear hVl8 hL7 hli
        obtain ⟨w8, rfl⟩ : ∃ w8 : World, w8 = wr := ⟨_, rfl⟩
        by_cases hlti : i < k + 1
        · have hz2 := hLn.out i (by omega)
          rw [if_neg (by omega)] at hz2
          obtain ⟨p, q, r', s', HM, HP, hz3⟩ := hleft.out i k (ln.getD i (0, 0)) (r, s) hkm2 (by omega) hz2 hok
          have hVo9 : CV w8 O lo2 := by obtain ⟨sp, h⟩ := hVo8; exact ⟨sp, Blk.kp h hkn (.inr (by omega))⟩
          have hcl := hVn.cell (i := i) (by omega)
          have hfl := hVn.frozen i
          have hco := hVo9.cell (i := k) (by omega)
          rw [hok2] at hco
          have cV : w8.cell? ⟨V, 0, none⟩ = some (.slice (some ⟨gf, 0, none⟩) (k + 1) cf) := (hPf8.kp hkn (.inr (by omega))).cell 0
          obtain ⟨ad2, e2, -, hc2⟩ := comp_at (l := reC (tmL kind k).1) (k := i) (by rw [hTl2]; exact (hOf8.kp hkn (.inr (by omega))).reads' (Nat.le_refl _) hTl) (by omega)
          cases e2
          rw [hTat i hlti, add0] at hc2
          simp only at hc2
          have hP5 : Hid (∀ i', i' ≤ k → LAt W kind D i' (if i' < i + 1 then k else k + 1) ((ln.set i (r', s')).getD i' (0, 0))) := fun i' hi' => by
            rw [getD_set _ _ _ _ _ (by omega)]
            by_cases e : i' = i
            · rw [if_pos e, if_pos (by omega), e]; exact hz3
            · rw [if_neg e]
              have h := hLn.out i' hi'
              by_cases e2 : i' < i
              · rw [if_pos e2] at h; rw [if_pos (by omega)]; exact h
              · rw [if_neg e2] at h; rw [if_neg (by omega)]; exact h
          have hVn2 := CV.set (hVn.drew) (i := i) (by omega) r' s'
          have hkn2 := (hkn.drewN 1).setCell (p := ⟨gl, i, none⟩) ⟨Nat.le_refl _, Nat.lt_succ_self _⟩ (.complex .f32 r' s')
          have hil : i < m := by omega
          have hi0 : (0 : Int) ≤ (i : Int) := by omega
          have him : (i : Int) < (m : Int) := by omega
          have hik' : (i : Int) < (k : Int) + 1 := by omega
          have hln2 : (ln.set i (r', s')).length = m := by simpa using hln
          replace hVn2 := Lib.hid hVn2
          replace hkn2 := Lib.hid hkn2
          clear hz2 hz3 hVn hkn hLn hleft hTat hOf8 hPf8 hVo9 hVo8 hO7 hb9
          generalize (ln.getD i (0, 0)).1 = x1 at *
          generalize (ln.getD i (0, 0)).2 = x2 at *
          generalize (tmL kind k).1.getD i 0 = t1 at *
          go_wp2_with fail
          refine wp_region_still_tail 18 (by kernel_rfl) (by kernel_rfl) ?_
          simp only [List.take_succ_cons, List.take_zero, List.drop_succ_cons, List.drop_zero]
          repeat still_step
          still_call (HM _)
          repeat still_step
          still_call (HP _)
          repeat still_step
          refine wpStill_nil ?_
          change wpList _ _ _ _ _ w8.drew
          go_wp2
          go_roundw
          case rel => exact ⟨i + 1, by omega, by go_num, ⟨_, hln2, hP5, hVn2.out⟩, hkn2.out⟩
          case measure => (simp [intOf]; all_goals omega)
        · obtain rfl : i = k + 1 := by omega
          have hb10 := hb9.trans (hkn.below (B := w.heap.size) (by omega) (by omega))
          have hVo9 : CV w8 O lo2 := by obtain ⟨sp, h⟩ := hVo8; exact ⟨sp, Blk.kp h hkn (.inr (by omega))⟩
          have hP5 : Hid (∀ i', i' < k → LAt W kind D i' k (ln.getD i' (0, 0))) := fun i' hi' => by
            have h := hLn.out i' (by omega)
            rw [if_pos (by omega)] at h
            exact h
          clear hLn hleft hTat hOf8 hb9 hkn hVo8
          go_wp2
          go_roundw
          case rel => exact ⟨k, by omega, by go_num, ⟨ln, lo2, hln, hlo2, hP5, hO7, hVn, hVo9⟩, hb10⟩
          case measure => (simp [intOf]; all_goals omega)
    · obtain rfl : k = 0 := by omega
      have HC := checkedList_yes (some ⟨O, 0, none⟩) m wo.heap.size m lo hlo wo ((hVo2.own (Nat.zero_le _) hOl).reads' (Nat.le_refl _) (by simp [hlo])) (Nat.le_refl _) (by omega) (fun j hj => by
        obtain ⟨a, b, h1, h2, -⟩ := hOi.out j (Nat.zero_le _) hj
        exact ⟨nv_fin h1, nv_fin h2⟩)
      clear hout hleft hLi
      go_wp2_with fail
      (with_reducible refine HC.mono ?_)
      rintro e w5 ⟨rfl, hb5⟩
      have z5 := hb5.size
      have hVo5 := hVo2.below hb5 (by omega)
      go_wp2
      go_ret2
      exact ⟨lo, O, m, rfl, hlo, fun k hk => hOi.out k (Nat.zero_le _) hk, hVo5.own (by omega) (by omega), hbr.trans (hb5.mono zo)⟩
end Go.Proofs.Ytlpibibpckkjhaa
