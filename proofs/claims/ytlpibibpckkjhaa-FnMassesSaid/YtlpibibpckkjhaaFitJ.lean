/-
  Contract: the program's fit (impl.FitPoly) of lists as they have to be, whatever the numbers.
-/
import Derived.Test.YtlpibibpckkjhaaFitI
import Derived.Deep.RegionHeld3
namespace Go.Proofs.Ytlpibibpckkjhaa
open Go.RowKit

/-- A row of the matrix, done up to column k0 and there up to value j. -/
def fAt (X Y W : Nat → Option Nat) (n m i k0 j : Nat) : Nat → Option Nat := fun k => if k < k0 then mat0 X Y W n m i k else if k = k0 then (if k < n then sumO X W (i + k) j else rhsO X Y W i j) else some 0
section
variable (X Y W : Nat → Option Nat)
theorem fAt_start (n m i k : Nat) : some 0 = fAt X Y W n m i 0 0 k := by
  unfold fAt
  rw [if_neg (by omega)]
  split
  · split <;> rfl
  · rfl
theorem fAt_step (n m i k0 j k : Nat) (h : k0 < n) : updV (fAt X Y W n m i k0 j) k0 (sumO X W (i + k0) (j + 1)) k = fAt X Y W n m i k0 (j + 1) k := by
  unfold updV fAt
  by_cases e : k = k0
  · subst e
    rw [if_pos rfl, if_neg (by omega), if_pos rfl, if_pos h]
  · rw [if_neg e]
    by_cases h2 : k < k0
    · rw [if_pos h2, if_pos h2]
    · rw [if_neg h2, if_neg h2, if_neg e, if_neg e]
theorem fAt_self (n m i k0 j : Nat) (h : k0 < n) : fAt X Y W n m i k0 j k0 = sumO X W (i + k0) j := by
  unfold fAt
  rw [if_neg (by omega), if_pos rfl, if_pos h]
theorem fAt_stepR (n m i j k : Nat) : updV (fAt X Y W n m i n j) n (rhsO X Y W i (j + 1)) k = fAt X Y W n m i n (j + 1) k := by
  unfold updV fAt
  by_cases e : k = n
  · subst e
    rw [if_pos rfl, if_neg (by omega), if_pos rfl, if_neg (by omega)]
  · rw [if_neg e]
    by_cases h2 : k < n
    · rw [if_pos h2, if_pos h2]
    · rw [if_neg h2, if_neg e, if_neg h2, if_neg e]
theorem fAt_selfR (n m i j : Nat) : fAt X Y W n m i n j n = rhsO X Y W i j := by
  unfold fAt
  rw [if_neg (by omega), if_pos rfl, if_neg (by omega)]
theorem fAt_next (n m i k0 k : Nat) : fAt X Y W n m i k0 m k = fAt X Y W n m i (k0 + 1) 0 k := by
  unfold fAt
  by_cases h1 : k < k0
  · rw [if_pos h1, if_pos (by omega)]
  · rw [if_neg h1]
    by_cases h2 : k = k0
    · subst h2
      rw [if_pos rfl, if_pos (Nat.lt_succ_self _)]
      rfl
    · rw [if_neg h2, if_neg (by omega)]
      by_cases h3 : k = k0 + 1
      · rw [if_pos h3]
        split <;> rfl
      · rw [if_neg h3]
theorem fAt_end (n m i k : Nat) (h : k < n + 1) : fAt X Y W n m i n m k = mat0 X Y W n m i k := by
  unfold fAt
  by_cases h1 : k < n
  · rw [if_pos h1]
  · rw [if_neg h1, if_pos (by omega)]
    unfold mat0
    rfl
end

/-- A post that speaks of the common end alone. -/
def Qn (R : Act → World → Prop) : Exit → Act → World → Prop
  | .normal, a, w => R a w
  | _, _, _ => False
/-- The ways through a region meet again. -/
theorem region_join {P : Program} {id : Nat} {ops : Array Oper} {a : Act} {w : World} {Q : Exit → Act → World → Prop} {F : Nat → Nat → Act} {G : Nat → Nat → World} (C : Nat → Prop)
    (hreg : ∀ R : Act → World → Prop, (∀ z m, C z → R (F z m) (G z m)) → (Code.region id ops true).wp P (Qn R) a w) (hJ : ∀ z m, C z → Q .normal (F z m) (G z m)) : (Code.region id ops true).wp P Q a w :=
  Code.wp_mono (fun e a w h => by
    cases e with
    | normal => exact h
    | _ => exact False.elim h) (hreg (fun a w => Q .normal a w) hJ)

set_option linter.unusedSimpArgs false in
set_option maxRecDepth 100000 in
set_option maxHeartbeats 64000000 in
theorem fitI_any (A1 A2 A3 : Option Addr) (c1 c2 c3 m dn : Nat) (xs ys ws : List Nat) (hx : xs.length = m) (hy : ys.length = m) (hw : ws.length = m) (w : World) (h1 : Reads w w.heap.size 1 A1 m (flts xs)) (h2 : Reads w w.heap.size 1 A2 m (flts ys)) (h3 : Reads w w.heap.size 1 A3 m (flts ws)) (a1 : 1 ≤ m) (a2 : m ≤ 17) (a5 : xs.all fin32B = true) (a6 : ys.all fin32B = true) (a7 : ws.all leastB = true) (hd : dn ≤ 4) :
    Calls Try.prog 27 #[.slice A1 m c1, .slice A2 m c2, .slice A3 m c3, .int .i64 (dn : Int)] w fun e w' => FitP w.heap.size (dn + 1) (gaussO (dn + 1) (fitM xs ys ws (dn + 1)) (dn + 1)) e w' ∧ Below w.heap.size w w' := by
  have hb0 : Below w.heap.size w (w.alloc (.cells #[.slice none 0 0] 33)) := (Below.refl _ _).alloc (Nat.le_refl _) _
  rw [least_all, Bool.and_eq_true] at a7
  have H1 := areFiniteN A1 c1 w.heap.size m xs hx _ (h1.below hb0) hb0.size (by omega)
  have H2 := fun W (h2 : Reads W w.heap.size 1 A2 m (flts ys)) hB => areFiniteN A2 c2 w.heap.size m ys hy W h2 hB (by omega)
  have H3 := fun W (h3 : Reads W w.heap.size 1 A3 m (flts ws)) hB => areFiniteN A3 c3 w.heap.size m ws hw W h3 hB (by omega)
  have H4 := within04_any (dn : Int)
  have H5 := fun W (h3 : Reads W w.heap.size 1 A3 m (flts ws)) hB => containsWN A3 c3 w.heap.size m ws hw W h3 hB (by omega)
  have e4 : (decide (0 ≤ (dn : Int)) && decide ((dn : Int) ≤ 4)) = true := by simp; omega
  rw [e4] at H4
  rw [a5] at H1
  rw [a6] at H2
  rw [a7.1] at H3
  rw [a7.2] at H5
  clear e4 a5 a6 a7
  have hP1 : Blk (w.alloc (.cells #[.slice none 0 0] 33)) w.heap.size 33 #[.slice none 0 0] := Blk.new w _ _
  have HM := fun a b w => run_op o4m a b w
  have HA := fun a b w => run_op o4a a b w
  have HQ := fun a b w => run_op o4q a b w
  have HSb := fun a b w => run_op o4s a b w
  obtain ⟨G, hGe⟩ : ∃ G, Hid (G = gaussO (dn + 1) (fitM xs ys ws (dn + 1)) (dn + 1)) := ⟨_, rfl⟩
  obtain ⟨X, hX⟩ : ∃ X : Nat → Option Nat, Hid (X = fun i => cn (xs.getD i 0)) := ⟨_, rfl⟩
  obtain ⟨Y, hY⟩ : ∃ Y : Nat → Option Nat, Hid (Y = fun i => cn (ys.getD i 0)) := ⟨_, rfl⟩
  obtain ⟨W, hW⟩ : ∃ W : Nat → Option Nat, Hid (W = fun i => cn (ws.getD i 0)) := ⟨_, rfl⟩
  obtain ⟨i0, hi, hz0, hz1, hz2⟩ := info_parts infoF
  obtain ⟨i1, hj, hy0, hy1, hy2⟩ := info_parts infoS
  go_enter Try.func27, Try.ntmps27
  go_wp2_with fail
  (with_reducible refine H1.mono ?_)
  rintro e w1 ⟨rfl, hb1⟩
  clear H1
  have z1 := hb1.size
  simp only [World.size_alloc] at z1
  have hP2 := hP1.below hb1 (by simp)
  have hb2 := hb0.trans (hb1.mono (by simp))
  clear hP1 hb0 hb1
  have H2' := H2 w1 (h2.below hb2) hb2.size
  go_wp2_with fail
  (with_reducible refine H2'.mono ?_)
  rintro e w2 ⟨rfl, hb3⟩
  clear H2 H2'
  have z2 := hb3.size
  have hP3 := hP2.below hb3 (by omega)
  have hb4 := hb2.trans (hb3.mono (by omega))
  clear hP2 hb2 hb3
  have H3' := H3 w2 (h3.below hb4) hb4.size
  go_wp2_with fail
  (with_reducible refine H3'.mono ?_)
  rintro e w3 ⟨rfl, hb5⟩
  clear H3 H3'
  have z3 := hb5.size
  have hP4 := hP3.below hb5 (by omega)
  have hb6 := hb4.trans (hb5.mono (by omega))
  clear hP3 hb4 hb5
  have H5' := H5 w3 (h3.below hb6) hb6.size
  go_wp2_with fail
  refine (H4 _).mono ?_
  rintro e w4 ⟨rfl, rfl⟩
  clear H4
  go_wp2_with fail
  (with_reducible refine H5'.mono ?_)
  rintro e w5 ⟨rfl, hb7⟩
  clear H5 H5'
  have z5 := hb7.size
  have hP5 := hP4.below hb7 (by omega)
  have hb8 := hb6.trans (hb7.mono (by omega))
  clear hP4 hb6 hb7
  go_wp2
  have hrow0 : (w5.alloc (.cells #[] 26)).ownsRow (w.heap.size + 1) 26 1 (.slice (some ⟨w5.heap.size, 0, none⟩) 0 0) 0 [] := by
    have h := World.ownsRow_made (base := w.heap.size + 1) (e := 26) (size := 1) w5 #[] 0 (by omega) (by simp [maxLen]) rfl
    simpa using h
  have hb5 : Below w.heap.size w (w5.alloc (.cells #[] 26)) := hb8.alloc (by omega) _
  have hP6 := hP5.alloc (.cells #[] 26)
  have hR0 := Rws.empty _ (w.heap.size + 1) (dn + 1 + 1) (fun _ => 0) (mat0 X Y W (dn + 1) m) hrow0
  go_loopw [12, 13, 14, 15, 16, 17, 18, 19, 78] (fun v1 _ _ _ _ _ _ _ q wr => ∃ i : Nat, i ≤ dn + 1 ∧ q = .int .i64 (i : Int) ∧ (∃ g, Rws wr (w.heap.size + 1) v1 i (dn + 1 + 1) g (mat0 X Y W (dn + 1) m)) ∧ Blk wr w.heap.size 33 #[.slice none 0 0] ∧ Below w.heap.size w wr) (fun _ _ _ _ _ _ _ _ q _ => dn + 1 - (intOf q).toNat)
  case atStart => exact ⟨0, Nat.zero_le _, rfl, ⟨_, hR0⟩, hP6, hb5⟩
  case round =>
    obtain ⟨i, hi2, rfl, ⟨g, hR⟩, hP, hbr⟩ := hrel
    clear hR0 hrow0 hP6 hb5 hP5 hb8
    obtain ⟨wo, rfl⟩ : ∃ wo : World, wo = wr := ⟨_, rfl⟩
    have hsz := hP.lt
    obtain ⟨B1, d1, rfl, -, -, -⟩ := Own.of_row hR.row (Nat.le_refl _)
    by_cases hlt : i < dn + 1
    · go_wp2_with (at_make; refine wpList_make_full _ rfl _ _ _ rfl (w.heap.size + 1) 25 i0 (.float .f32 0) 1 Try.underlying26 hi hz0 hz1 .i64 .i64 _ _ (dn + 1 + 1) rfl rfl (by omega) (by omega) (by rw [hz2]; omega) (by unfold maxLen; omega) (by omega) ?_; intro w6 hown6 hg6)
      have hb6 : Below wo.heap.size wo w6 := (Below.refl _ _).grown hg6 (Nat.le_refl _) (by simp)
      have hV6 := (Vec.made hown6).eq (a' := fAt X Y W (dn + 1) m i 0 0) (fun k _ => fAt_start X Y W (dn + 1) m i k)
      have hz6 := hb6.size
      have hGl : wo.heap.size < w6.heap.size := (blk_of_row hown6).choose_spec.1.lt
      obtain ⟨N, hN⟩ : ∃ N, N = wo.heap.size := ⟨_, rfl⟩
      rw [← hN] at hV6 hb6 hGl ⊢
      replace hN := Lib.hid hN
      clear hown6 hg6
      have HPw := fun x t (ht : t < 100) W => powerOf_any x t ht W
      go_wp2_with fail
      go_loopw [15, 16, 17, 85] (fun _ _ _ q wr => ∃ k0 : Nat, k0 ≤ dn + 1 ∧ q = .int .i64 (k0 : Int) ∧ Vec wr N (dn + 1 + 1) (fAt X Y W (dn + 1) m i k0 0) ∧ Below N wo wr) (fun _ _ _ q _ => dn + 1 - (intOf q).toNat)
      case atStart => exact ⟨0, Nat.zero_le _, rfl, hV6, hb6⟩
      case round =>
        obtain ⟨k0, hk0, rfl, hV7, hb7⟩ := hrel
        clear hV6 hb6
        by_cases hltk : k0 < dn + 1
        · have hltkI : (k0 : Int) < (dn : Int) + 1 := by omega
          go_wp2
          go_loopw [16, 17, 90] (fun _ _ q wr => ∃ j : Nat, j ≤ m ∧ q = .int .i64 (j : Int) ∧ Vec wr N (dn + 1 + 1) (fAt X Y W (dn + 1) m i k0 j) ∧ Below N wo wr) (fun _ _ q _ => m - (intOf q).toNat)
          case atStart => exact ⟨0, Nat.zero_le _, rfl, hV7, hb7⟩
          case round =>
            obtain ⟨j, hj1, rfl, hV8, hb8⟩ := hrel
            clear hV7 hb7
            obtain ⟨w8, rfl⟩ : ∃ w8 : World, w8 = wr := ⟨_, rfl⟩
            by_cases hltj : j < m
            · have hbw := hbr.trans (hb8.mono (by have := hN.out; omega))
              obtain ⟨ad3, rfl, hab3, q3⟩ := flt_atN (h3.below hbw) hw hltj
              obtain ⟨ad1, rfl, hab1, q1⟩ := flt_atN (h1.below hbw) hx hltj
              have eX : Hid (cn (xs.getD j 0) = X j) := by show _ = _; rw [hX.out]
              have eW : Hid (cn (ws.getD j 0) = W j) := by show _ = _; rw [hW.out]
              generalize xs.getD j 0 = xj at *
              generalize ws.getD j 0 = wj at *
              obtain ⟨t, ht⟩ : ∃ t, t = i + k0 := ⟨_, rfl⟩
              have htz : (i : Int) + (k0 : Int) = (t : Int) := by omega
              have HP := HPw xj t (by omega)
              have hwr : IntKind.i64.wrap ((i : Int) + (k0 : Int)) = (t : Int) := by rw [htz]; exact IntWalk.i64_in _ (by omega)
              clear htz
              obtain ⟨y1, f1, e1⟩ := hV8.cl k0 (by omega)
              have f3 := hV8.cf k0 (by omega)
              replace ht := Lib.hid ht
              replace e1 := Lib.hid e1
              clear hbw
              go_wp2_with fail
              have g1 : (k0 : Int) < (dn : Int) + 1 + 1 := by omega
              have g2 : (0 : Int) ≤ (k0 : Int) := by omega
              have g3 : (j : Int) < (m : Int) := by omega
              have g4 : (0 : Int) ≤ (j : Int) := by omega
              have hxx : ∀ z U U', cn z = powO (cn xj) t → cn (opB .add y1 (opB .mul wj z U) U') = sumO X W (i + k0) (j + 1) := fun z U U' hz => by
                rw [cn_op o4a, cn_op o4m, e1.out, fAt_self X Y W (dn + 1) m i k0 j hltk, eW.out, hz, eX.out, ht.out]; rfl
              apply region_join (fun z => Hid (cn z = powO (cn xj) t))
              · intro R hJ
                go_region_with (go_at_call 74; (with_reducible refine (HP _).mono ?_); rintro e w' ⟨z, m', rfl, hz, rfl⟩; replace hz := Lib.hid hz)
                all_goals
                  change R _ _
                  exact hJ z m' hz
              intro z m' hz
              go_wp2
              go_roundw
              case rel => exact ⟨j + 1, by omega, by go_num, ((hV8.drewN _).set_ (by omega) _).eq (fun k _ => by rw [hxx _ _ _ hz.out]; exact fAt_step X Y W (dn + 1) m i k0 j k hltk), below_set (below_drewN hb8 _) (Nat.le_refl _) _⟩
              case measure => (simp [intOf]; all_goals omega)
            · obtain rfl : j = m := by omega
              have hV9 := hV8.eq (a' := fAt X Y W (dn + 1) j i (k0 + 1) 0) (fun k _ => fAt_next X Y W (dn + 1) j i k0 k)
              clear hV8
              go_wp2
              go_roundw
              case rel => exact ⟨k0 + 1, by omega, by go_num, hV9, hb8⟩
              case measure => (simp [intOf]; all_goals omega)
        · obtain rfl : k0 = dn + 1 := by omega
          have hltkI : ¬ ((dn : Int) + 1 < (dn : Int) + 1) := by omega
          go_wp2
          go_loopw [18, 19, 115] (fun _ _ q wr => ∃ j : Nat, j ≤ m ∧ q = .int .i64 (j : Int) ∧ Vec wr N (dn + 1 + 1) (fAt X Y W (dn + 1) m i (dn + 1) j) ∧ Below N wo wr) (fun _ _ q _ => m - (intOf q).toNat)
          case atStart => exact ⟨0, Nat.zero_le _, rfl, hV7, hb7⟩
          case round =>
            obtain ⟨j, hj1, rfl, hV8, hb8⟩ := hrel
            clear hV7 hb7
            obtain ⟨w8, rfl⟩ : ∃ w8 : World, w8 = wr := ⟨_, rfl⟩
            by_cases hltj : j < m
            · have hbw := hbr.trans (hb8.mono (by have := hN.out; omega))
              obtain ⟨ad3, rfl, hab3, q3⟩ := flt_atN (h3.below hbw) hw hltj
              obtain ⟨ad1, rfl, hab1, q1⟩ := flt_atN (h1.below hbw) hx hltj
              obtain ⟨ad2, rfl, hab2, q2⟩ := flt_atN (h2.below hbw) hy hltj
              have eX : Hid (cn (xs.getD j 0) = X j) := by show _ = _; rw [hX.out]
              have eY : Hid (cn (ys.getD j 0) = Y j) := by show _ = _; rw [hY.out]
              have eW : Hid (cn (ws.getD j 0) = W j) := by show _ = _; rw [hW.out]
              generalize xs.getD j 0 = xj at *
              generalize ys.getD j 0 = yj at *
              generalize ws.getD j 0 = wj at *
              have HP := HPw xj i (by omega)
              obtain ⟨y1, f1, e1⟩ := hV8.cl (dn + 1) (by omega)
              have f3 := hV8.cf (dn + 1) (by omega)
              replace e1 := Lib.hid e1
              clear hbw
              have g1 : (dn : Int) + 1 < (dn : Int) + 1 + 1 := by omega
              have g2 : (0 : Int) ≤ (dn : Int) + 1 := by omega
              have g3 : (j : Int) < (m : Int) := by omega
              have g4 : (0 : Int) ≤ (j : Int) := by omega
              have hxx : ∀ z U U' U'', cn z = powO (cn xj) i → cn (opB .add y1 (opB .mul (opB .mul wj z U) yj U') U'') = rhsO X Y W i (j + 1) := fun z U U' U'' hz => by
                rw [cn_op o4a, cn_op o4m, cn_op o4m, e1.out, fAt_selfR, eW.out, eY.out, hz, eX.out]; rfl
              go_wp2_with fail
              have n1 : N ≠ (ad3.add j).block := by rw [block_of_add]; have := hN.out; omega
              have n2 : N ≠ (ad2.add j).block := by rw [block_of_add]; have := hN.out; omega
              apply region_join (fun z => Hid (cn z = powO (cn xj) i))
              · intro R hJ
                refine wp_region_held_drew (S := fun w' => w'.cell? (ad3.add j) = some (.float .f32 wj) ∧ w'.cell? (ad2.add j) = some (.float .f32 yj)) (by kernel_rfl) ?_ (fun hHeld => ?_)
                · (try dsimp only)
                  go_keep
                refine wpAnyH_take (i := 0) (v := ?_) rfl (by kernel_rfl) (by kernel_rfl) (by kernel_rfl) (fun _ _ _ h => h) (Or.inl ⟨by rfl, ?_⟩) (by assumption) ?_
                rotate_left 1
                · ((intro w hSw; (try dsimp only at hSw)); go_simp; try with_reducible rfl)
                (try simp only [Act.put, List.setIfInBounds_toArray, List.set_cons_zero, List.set_cons_succ])
                refine wpAnyH_take (i := 1) (v := ?_) rfl (by kernel_rfl) (by kernel_rfl) (by kernel_rfl) (fun _ _ _ h => h) (Or.inl ⟨by rfl, ?_⟩) (by assumption) ?_
                rotate_left 1
                · ((intro w hSw; (try dsimp only at hSw)); go_simp; try with_reducible rfl)
                (try simp only [Act.put, List.setIfInBounds_toArray, List.set_cons_zero, List.set_cons_succ])
                refine wpAnyH_take (i := 2) (v := ?_) rfl (by kernel_rfl) (by kernel_rfl) (by kernel_rfl) (fun _ _ _ h => h) (Or.inl ⟨by rfl, ?_⟩) (by assumption) ?_
                rotate_left 1
                · ((intro w hSw; (try dsimp only at hSw)); go_simp; try with_reducible rfl)
                (try simp only [Act.put, List.setIfInBounds_toArray, List.set_cons_zero, List.set_cons_succ])
                refine wpAnyH_take (i := 4) (v := ?_) rfl (by kernel_rfl) (by kernel_rfl) (by kernel_rfl) (fun _ _ _ h => h) (Or.inl ⟨by rfl, ?_⟩) (by assumption) ?_
                rotate_left 1
                · ((intro w hSw; (try dsimp only at hSw)); go_simp; try with_reducible rfl)
                (try simp only [Act.put, List.setIfInBounds_toArray, List.set_cons_zero, List.set_cons_succ])
                refine wpAnyH_take (i := 5) (v := ?_) rfl (by kernel_rfl) (by kernel_rfl) (by kernel_rfl) (fun _ _ _ h => h) (Or.inl ⟨by rfl, ?_⟩) (by assumption) ?_
                rotate_left 1
                · ((intro w hSw; (try dsimp only at hSw)); go_simp; try with_reducible rfl)
                (try simp only [Act.put, List.setIfInBounds_toArray, List.set_cons_zero, List.set_cons_succ])
                refine wpAnyH_take (i := 6) (v := ?_) rfl (by kernel_rfl) (by kernel_rfl) (by kernel_rfl) (fun _ _ _ h => h) (Or.inl ⟨by rfl, ?_⟩) (by assumption) ?_
                rotate_left 1
                · ((intro w hSw; (try dsimp only at hSw)); go_simp; try with_reducible rfl)
                (try simp only [Act.put, List.setIfInBounds_toArray, List.set_cons_zero, List.set_cons_succ])
                refine wpAnyH_take (i := 7) (v := ?_) rfl (by kernel_rfl) (by kernel_rfl) (by kernel_rfl) (fun _ _ _ h => h) (Or.inl ⟨by rfl, ?_⟩) (by assumption) ?_
                rotate_left 1
                · ((intro w hSw; (try dsimp only at hSw)); go_simp; try with_reducible rfl)
                (try simp only [Act.put, List.setIfInBounds_toArray, List.set_cons_zero, List.set_cons_succ])
                refine wpAnyH_take (i := 8) (v := ?_) rfl (by kernel_rfl) (by kernel_rfl) (by kernel_rfl) (fun _ _ _ h => h) (Or.inl ⟨by rfl, ?_⟩) (by assumption) ?_
                rotate_left 1
                · ((intro w hSw; (try dsimp only at hSw)); go_simp; try with_reducible rfl)
                (try simp only [Act.put, List.setIfInBounds_toArray, List.set_cons_zero, List.set_cons_succ])
                refine wpAnyH_take (i := 9) (v := ?_) rfl (by kernel_rfl) (by kernel_rfl) (by kernel_rfl) (fun _ _ _ h => h) (Or.inl ⟨by rfl, ?_⟩) (by assumption) ?_
                rotate_left 1
                · ((intro w hSw; (try dsimp only at hSw)); go_simp; try with_reducible rfl)
                (try simp only [Act.put, List.setIfInBounds_toArray, List.set_cons_zero, List.set_cons_succ])
                refine wpAnyH_take (i := 12) (v := ?_) rfl (by kernel_rfl) (by kernel_rfl) (by kernel_rfl) (fun _ _ _ h => h) (Or.inl ⟨by rfl, ?_⟩) (by assumption) ?_
                rotate_left 1
                · ((intro w hSw; (try dsimp only at hSw)); go_simp; try with_reducible rfl)
                (try simp only [Act.put, List.setIfInBounds_toArray, List.set_cons_zero, List.set_cons_succ])
                refine wpAnyH_take (i := 13) (v := ?_) rfl (by kernel_rfl) (by kernel_rfl) (by kernel_rfl) (fun _ _ _ h => h) (Or.inl ⟨by rfl, ?_⟩) (by assumption) ?_
                rotate_left 1
                · ((intro w hSw; (try dsimp only at hSw)); go_simp; try with_reducible rfl)
                (try simp only [Act.put, List.setIfInBounds_toArray, List.set_cons_zero, List.set_cons_succ])
                refine wpAnyH_take (i := 14) (v := ?_) rfl (by kernel_rfl) (by kernel_rfl) (by kernel_rfl) (fun _ _ _ h => h) (Or.inl ⟨by rfl, ?_⟩) (by assumption) ?_
                rotate_left 1
                · ((intro w hSw; (try dsimp only at hSw)); go_simp; try with_reducible rfl)
                (try simp only [Act.put, List.setIfInBounds_toArray, List.set_cons_zero, List.set_cons_succ])
                refine wpAnyH_take (i := 15) (v := ?_) rfl (by kernel_rfl) (by kernel_rfl) (by kernel_rfl) (fun _ _ _ h => h) (Or.inl ⟨by rfl, ?_⟩) (by assumption) ?_
                rotate_left 1
                · ((intro w hSw; (try dsimp only at hSw)); go_simp; try with_reducible rfl)
                (try simp only [Act.put, List.setIfInBounds_toArray, List.set_cons_zero, List.set_cons_succ])
                refine wpAnyH_ready (rs := [3, 10]) (by kernel_rfl) (by simp) ?_
                refine AllReadyH.cons rfl (fun K hK => ?_) ?_
                · go_simp
                  refine hK.out _ _ ?_ (fun hHeld => ?_)
                  · (try dsimp only)
                    go_keep
                  clear hK K
                  (try simp only [Act.put, List.setIfInBounds_toArray, List.set_cons_zero, List.set_cons_succ])
                  refine wpAnyH_ready (rs := [10]) (by kernel_rfl) (by simp) ?_
                  refine AllReadyH.cons rfl (fun K hK => ?_) ?_
                  · go_simp
                    go_wp2_with (go_at_call 74; (with_reducible refine (HP _).mono ?_); rintro e w' ⟨z, m', rfl, hz, rfl⟩; replace hz := Lib.hid hz)
                    refine hK.out _ _ ?_ (fun hHeld => ?_)
                    · (try dsimp only)
                      go_keep
                    clear hK K
                    (try simp only [Act.put, List.setIfInBounds_toArray, List.set_cons_zero, List.set_cons_succ])
                    refine wpAnyH_ready (rs := [11]) (by kernel_rfl) (by simp) ?_
                    refine AllReadyH.cons rfl (fun K hK => ?_) ?_
                    · go_simp
                      refine hK.out _ _ ?_ (fun hHeld => ?_)
                      · (try dsimp only)
                        go_keep
                      clear hK K
                      (try simp only [Act.put, List.setIfInBounds_toArray, List.set_cons_zero, List.set_cons_succ])
                      refine wpAnyH_ready (rs := [16]) (by kernel_rfl) (by simp) ?_
                      refine AllReadyH.cons rfl (fun K hK => ?_) ?_
                      · go_simp
                        refine hK.out _ _ ?_ (fun hHeld => ?_)
                        · (try dsimp only)
                          go_keep
                        clear hK K
                        (try simp only [Act.put, List.setIfInBounds_toArray, List.set_cons_zero, List.set_cons_succ])
                        refine wpAnyH_ready (rs := [17]) (by kernel_rfl) (by simp) ?_
                        refine AllReadyH.cons rfl (fun K hK => ?_) ?_
                        · go_simp
                          refine hK.out _ _ ?_ (fun hHeld => ?_)
                          · (try dsimp only)
                            go_keep
                          clear hK K
                          (try simp only [Act.put, List.setIfInBounds_toArray, List.set_cons_zero, List.set_cons_succ])
                          refine wpAnyH_take (i := 18) (v := ?_) rfl (by kernel_rfl) (by kernel_rfl) (by kernel_rfl) (fun _ _ _ h => h) (Or.inl ⟨by rfl, ?_⟩) (by assumption) ?_
                          rotate_left 1
                          · ((intro w hSw; (try dsimp only at hSw)); go_simp; try with_reducible rfl)
                          (try simp only [Act.put, List.setIfInBounds_toArray, List.set_cons_zero, List.set_cons_succ])
                          refine wpAnyH_ready (rs := [19]) (by kernel_rfl) (by simp) ?_
                          refine AllReadyH.cons rfl (fun K hK => ?_) ?_
                          · go_simp
                            refine hK.out _ _ ?_ (fun hHeld => ?_)
                            · (try dsimp only)
                              go_keep
                            clear hK K
                            (try simp only [Act.put, List.setIfInBounds_toArray, List.set_cons_zero, List.set_cons_succ])
                            refine wpAnyH_done (by kernel_rfl) ?_ _
                            change R _ _
                            exact hJ z m' hz
                          exact AllReadyH.nil
                        exact AllReadyH.nil
                      exact AllReadyH.nil
                    exact AllReadyH.nil
                  exact AllReadyH.nil
                refine AllReadyH.cons rfl (fun K hK => ?_) ?_
                · go_simp
                  go_wp2_with (go_at_call 74; (with_reducible refine (HP _).mono ?_); rintro e w' ⟨z, m', rfl, hz, rfl⟩; replace hz := Lib.hid hz)
                  refine hK.out _ _ ?_ (fun hHeld => ?_)
                  · (try dsimp only)
                    go_keep
                  clear hK K
                  (try simp only [Act.put, List.setIfInBounds_toArray, List.set_cons_zero, List.set_cons_succ])
                  refine wpAnyH_ready (rs := [3, 11]) (by kernel_rfl) (by simp) ?_
                  refine AllReadyH.cons rfl (fun K hK => ?_) ?_
                  · go_simp
                    refine hK.out _ _ ?_ (fun hHeld => ?_)
                    · (try dsimp only)
                      go_keep
                    clear hK K
                    (try simp only [Act.put, List.setIfInBounds_toArray, List.set_cons_zero, List.set_cons_succ])
                    refine wpAnyH_ready (rs := [11]) (by kernel_rfl) (by simp) ?_
                    refine AllReadyH.cons rfl (fun K hK => ?_) ?_
                    · go_simp
                      refine hK.out _ _ ?_ (fun hHeld => ?_)
                      · (try dsimp only)
                        go_keep
                      clear hK K
                      (try simp only [Act.put, List.setIfInBounds_toArray, List.set_cons_zero, List.set_cons_succ])
                      refine wpAnyH_ready (rs := [16]) (by kernel_rfl) (by simp) ?_
                      refine AllReadyH.cons rfl (fun K hK => ?_) ?_
                      · go_simp
                        refine hK.out _ _ ?_ (fun hHeld => ?_)
                        · (try dsimp only)
                          go_keep
                        clear hK K
                        (try simp only [Act.put, List.setIfInBounds_toArray, List.set_cons_zero, List.set_cons_succ])
                        refine wpAnyH_ready (rs := [17]) (by kernel_rfl) (by simp) ?_
                        refine AllReadyH.cons rfl (fun K hK => ?_) ?_
                        · go_simp
                          refine hK.out _ _ ?_ (fun hHeld => ?_)
                          · (try dsimp only)
                            go_keep
                          clear hK K
                          (try simp only [Act.put, List.setIfInBounds_toArray, List.set_cons_zero, List.set_cons_succ])
                          refine wpAnyH_take (i := 18) (v := ?_) rfl (by kernel_rfl) (by kernel_rfl) (by kernel_rfl) (fun _ _ _ h => h) (Or.inl ⟨by rfl, ?_⟩) (by assumption) ?_
                          rotate_left 1
                          · ((intro w hSw; (try dsimp only at hSw)); go_simp; try with_reducible rfl)
                          (try simp only [Act.put, List.setIfInBounds_toArray, List.set_cons_zero, List.set_cons_succ])
                          refine wpAnyH_ready (rs := [19]) (by kernel_rfl) (by simp) ?_
                          refine AllReadyH.cons rfl (fun K hK => ?_) ?_
                          · go_simp
                            refine hK.out _ _ ?_ (fun hHeld => ?_)
                            · (try dsimp only)
                              go_keep
                            clear hK K
                            (try simp only [Act.put, List.setIfInBounds_toArray, List.set_cons_zero, List.set_cons_succ])
                            refine wpAnyH_done (by kernel_rfl) ?_ _
                            change R _ _
                            exact hJ z m' hz
                          exact AllReadyH.nil
                        exact AllReadyH.nil
                      exact AllReadyH.nil
                    exact AllReadyH.nil
                  refine AllReadyH.cons rfl (fun K hK => ?_) ?_
                  · go_simp
                    refine hK.out _ _ ?_ (fun hHeld => ?_)
                    · (try dsimp only)
                      go_keep
                    clear hK K
                    (try simp only [Act.put, List.setIfInBounds_toArray, List.set_cons_zero, List.set_cons_succ])
                    refine wpAnyH_ready (rs := [3, 16]) (by kernel_rfl) (by simp) ?_
                    refine AllReadyH.cons rfl (fun K hK => ?_) ?_
                    · go_simp
                      refine hK.out _ _ ?_ (fun hHeld => ?_)
                      · (try dsimp only)
                        go_keep
                      clear hK K
                      (try simp only [Act.put, List.setIfInBounds_toArray, List.set_cons_zero, List.set_cons_succ])
                      refine wpAnyH_ready (rs := [16]) (by kernel_rfl) (by simp) ?_
                      refine AllReadyH.cons rfl (fun K hK => ?_) ?_
                      · go_simp
                        refine hK.out _ _ ?_ (fun hHeld => ?_)
                        · (try dsimp only)
                          go_keep
                        clear hK K
                        (try simp only [Act.put, List.setIfInBounds_toArray, List.set_cons_zero, List.set_cons_succ])
                        refine wpAnyH_ready (rs := [17]) (by kernel_rfl) (by simp) ?_
                        refine AllReadyH.cons rfl (fun K hK => ?_) ?_
                        · go_simp
                          refine hK.out _ _ ?_ (fun hHeld => ?_)
                          · (try dsimp only)
                            go_keep
                          clear hK K
                          (try simp only [Act.put, List.setIfInBounds_toArray, List.set_cons_zero, List.set_cons_succ])
                          refine wpAnyH_take (i := 18) (v := ?_) rfl (by kernel_rfl) (by kernel_rfl) (by kernel_rfl) (fun _ _ _ h => h) (Or.inl ⟨by rfl, ?_⟩) (by assumption) ?_
                          rotate_left 1
                          · ((intro w hSw; (try dsimp only at hSw)); go_simp; try with_reducible rfl)
                          (try simp only [Act.put, List.setIfInBounds_toArray, List.set_cons_zero, List.set_cons_succ])
                          refine wpAnyH_ready (rs := [19]) (by kernel_rfl) (by simp) ?_
                          refine AllReadyH.cons rfl (fun K hK => ?_) ?_
                          · go_simp
                            refine hK.out _ _ ?_ (fun hHeld => ?_)
                            · (try dsimp only)
                              go_keep
                            clear hK K
                            (try simp only [Act.put, List.setIfInBounds_toArray, List.set_cons_zero, List.set_cons_succ])
                            refine wpAnyH_done (by kernel_rfl) ?_ _
                            change R _ _
                            exact hJ z m' hz
                          exact AllReadyH.nil
                        exact AllReadyH.nil
                      exact AllReadyH.nil
                    refine AllReadyH.cons rfl (fun K hK => ?_) ?_
                    · go_simp
                      refine hK.out _ _ ?_ (fun hHeld => ?_)
                      · (try dsimp only)
                        go_keep
                      clear hK K
                      (try simp only [Act.put, List.setIfInBounds_toArray, List.set_cons_zero, List.set_cons_succ])
                      refine wpAnyH_ready (rs := [3]) (by kernel_rfl) (by simp) ?_
                      refine AllReadyH.cons rfl (fun K hK => ?_) ?_
                      · go_simp
                        refine hK.out _ _ ?_ (fun hHeld => ?_)
                        · (try dsimp only)
                          go_keep
                        clear hK K
                        (try simp only [Act.put, List.setIfInBounds_toArray, List.set_cons_zero, List.set_cons_succ])
                        refine wpAnyH_ready (rs := [17]) (by kernel_rfl) (by simp) ?_
                        refine AllReadyH.cons rfl (fun K hK => ?_) ?_
                        · go_simp
                          refine hK.out _ _ ?_ (fun hHeld => ?_)
                          · (try dsimp only)
                            go_keep
                          clear hK K
                          (try simp only [Act.put, List.setIfInBounds_toArray, List.set_cons_zero, List.set_cons_succ])
                          refine wpAnyH_take (i := 18) (v := ?_) rfl (by kernel_rfl) (by kernel_rfl) (by kernel_rfl) (fun _ _ _ h => h) (Or.inl ⟨by rfl, ?_⟩) (by assumption) ?_
                          rotate_left 1
                          · ((intro w hSw; (try dsimp only at hSw)); go_simp; try with_reducible rfl)
                          (try simp only [Act.put, List.setIfInBounds_toArray, List.set_cons_zero, List.set_cons_succ])
                          refine wpAnyH_ready (rs := [19]) (by kernel_rfl) (by simp) ?_
                          refine AllReadyH.cons rfl (fun K hK => ?_) ?_
                          · go_simp
                            refine hK.out _ _ ?_ (fun hHeld => ?_)
                            · (try dsimp only)
                              go_keep
                            clear hK K
                            (try simp only [Act.put, List.setIfInBounds_toArray, List.set_cons_zero, List.set_cons_succ])
                            refine wpAnyH_done (by kernel_rfl) ?_ _
                            change R _ _
                            exact hJ z m' hz
                          exact AllReadyH.nil
                        exact AllReadyH.nil
                      exact AllReadyH.nil
                    exact AllReadyH.nil
                  exact AllReadyH.nil
                exact AllReadyH.nil
              intro z m' hz
              go_wp2
              go_roundw
              case rel => exact ⟨j + 1, by omega, by go_num, ((hV8.drewN _).set_ (by omega) _).eq (fun k _ => by rw [hxx _ _ _ _ hz.out]; exact fAt_stepR X Y W (dn + 1) m i j k), below_set (below_drewN hb8 _) (Nat.le_refl _) _⟩
              case measure => (simp [intOf]; all_goals omega)
            · obtain rfl : j = m := by omega
              have hV9 := hV8.eq (a' := mat0 X Y W (dn + 1) j i) (fun k hk => fAt_end X Y W (dn + 1) j i k hk)
              clear hV8
              go_wp2_with (at_builtin; refine wpList_append_any _ rfl (.tmp 140) (.tmp 142) _ rfl (w.heap.size + 1) 26 i1 _ 1 24 Try.underlying76 hj hy0 hy1 hy2 rfl (by omega) (.slice B1 i d1) i (hdrs (dn + 1 + 1) g i) rfl ((hR.below (hb8.mono (by have := hN.out; omega))).row.alloc _) (w8.heap.size + 1) (some ⟨w8.heap.size, 0, none⟩) 1 1 [hdr (dn + 1 + 1) N] rfl (reads_new w8 [_] _) (one_hdr _ _) (by simp only [maxLen]; omega) (by omega) (by simp; have := hN.out; have := hb8.size; omega) ?_; intro v3 w9 hown9 hg9 hat9)
              have hN' := hN.out
              have hz8 := hb8.size
              have hR9 := (hR.push ((hb8.mono (B' := wo.heap.size) (by omega)).trans ((Below.refl _ _).alloc (by omega) _)) (hV9.keep ((Below.refl _ _).alloc (Nat.le_refl _) _)) (by omega) (by omega) (by simp; omega) hown9 hg9 hat9).eq (A' := mat0 X Y W (dn + 1) j) (fun i' k _ _ => by split <;> simp_all)
              have hb9 : Below (w.heap.size + 1) w8 w9 := ((Below.refl _ _).alloc (by omega) _).grown hg9 (by simp; omega) (fun j hj => (hR.row.lt j hj).1)
              have hb10 : Below (w.heap.size + 1) wo w9 := (hb8.mono (by omega)).trans hb9
              go_wp2
              go_roundw
              case rel => exact ⟨i + 1, by omega, by go_num, ⟨_, hR9⟩, hP.below hb10 (by omega), hbr.trans (hb10.mono (by omega))⟩
              case measure => (simp [intOf]; all_goals omega)
    · obtain rfl : i = dn + 1 := by omega
      obtain ⟨R, cR, eR, hR1, hR2⟩ := World.ownsRow.form hR.row (by omega)
      injection eR with eR1 eR2 eR3
      subst eR1 eR3
      have hM := hR.mat.eq (A' := fitM xs ys ws (dn + 1)) (fun i k _ _ => by unfold fitM; rw [hx, ← hX.out, ← hY.out, ← hW.out])
      clear hR hlt h1 h2 h3
      obtain ⟨A, hA⟩ : ∃ A, A = fitM xs ys ws (dn + 1) := ⟨_, rfl⟩
      rw [← hA] at hM hGe
      obtain ⟨n, hn⟩ : ∃ n, n = dn + 1 := ⟨_, rfl⟩
      have hnI : (dn : Int) + 1 = (n : Int) := by omega
      rw [← hn] at hM hGe ⊢
      replace hA := Lib.hid hA
      have hn1 : 1 ≤ n := by omega
      have hn5 : n ≤ 5 := by omega
      replace hn := Lib.hid hn
      have hFin : Hid (∀ e w', FitP w.heap.size n (gaussO n A n) e w' → FitP w.heap.size (dn + 1) (gaussO (dn + 1) (fitM xs ys ws (dn + 1)) (dn + 1)) e w') := by
        intro e w' h
        rw [← hA.out, ← hn.out]
        exact h
      have hwo1 : w.heap.size + 1 ≤ wo.heap.size := hsz
      go_wp2_with fail
      clear hnI HA hi2 hsz hR2 hX hY hW hx hy hw a1 a2
      go_loopw [20, 21, 22, 23, 24, 25, 146] (fun _ _ _ _ _ _ q wr => ∃ k : Nat, k ≤ n ∧ q = .int .i64 (k : Int) ∧ ∃ B g', Hid (gaussO n A k = some B) ∧ Mat wr (w.heap.size + 1) R g' n (n + 1) B ∧ Blk wr w.heap.size 33 #[.slice none 0 0] ∧ Below w.heap.size w wr) (fun _ _ _ _ _ _ q _ => n - (intOf q).toNat)
      case atStart => exact ⟨0, Nat.zero_le _, rfl, A, g, Lib.hid rfl, hM, hP, hbr⟩
      case round =>
        obtain ⟨k, hk, rfl, B, g1, hG, hM1, hP1, hb1⟩ := hrel
        clear hM hP hbr
        have hwo1 := hP1.lt
        obtain ⟨wo, rfl⟩ : ∃ wo : World, wo = wr := ⟨_, rfl⟩
        by_cases hlt : k < n
        · go_wp2
          go_loopw [21, 22] (fun bv iv wr => ∃ t i1 : Nat, Hid (i1 = k + 1 + t) ∧ k + 1 + t ≤ n ∧ iv = .int .i64 (i1 : Int) ∧ bv = .int .i64 ((best B k t : Nat) : Int) ∧ ∃ m, wr = wo.drewN m) (fun _ iv _ => n - (intOf iv).toNat)
          case atStart => exact ⟨0, k + 1, rfl, by omega, by go_num, rfl, 0, rfl⟩
          case round =>
            obtain ⟨t, i1, hi1, ht, rfl, rfl, m, hW0⟩ := hrel
            have hM2 : Mat wr (w.heap.size + 1) R g1 n (n + 1) B := by rw [hW0]; exact hM1.drewN m
            have hP2 : Blk wr w.heap.size 33 #[.slice none 0 0] := by rw [hW0]; exact hP1
            have hW := Lib.hid hW0
            clear hW0
            have hbl := best_le B k t
            have hbs : best B k (t + 1) = if bigger B k (k + 1 + t) (best B k t) then k + 1 + t else best B k t := rfl
            generalize hbb : best B k t = b at *
            by_cases hlt2 : k + 1 + t < n
            · rw [← hi1.out] at hbs hlt2
              have c1 := hM2.hd i1 hlt2
              have c2 := hM2.hd b (by omega)
              obtain ⟨x1, c3, e1⟩ := hM2.cl i1 k hlt2 (by omega)
              obtain ⟨x2, c4, e2⟩ := hM2.cl b k (by omega) (by omega)
              obtain ⟨z1, g1', H1⟩ := magnitude_any x1
              obtain ⟨z2, g2', H2⟩ := magnitude_any x2
              have hcmp := mg_cmp g1' g2'
              rw [e1, e2] at hcmp
              have hbg : (FloatKind.f32.format.order z1 z2 == some .gt) = bigger B k i1 b := by rw [hcmp]; rfl
              have HH1 := Lib.hid H1
              have HH2 := Lib.hid H2
              have k1 : (k : Int) < (n : Int) + 1 := by omega
              clear H1 H2 hcmp g1' g2' e1 e2
              cases hbo : bigger B k i1 b with
              | true =>
                rw [hbo] at hbg hbs
                clear hM2 hM1
                go_wp2_with fail
                go_quiet ((go_at_call 75; first | exact Calls.quiet_of_same (HH1.out _) | exact Calls.quiet_of_same (HH2.out _)))
                go_wp2
                exact ⟨⟨t + 1, i1 + 1, by show _ = _; rw [hi1.out]; omega, by have := hi1.out; omega, by go_num, by rw [hbs]; rfl, m + nq, by rw [hW.out, World.drewN_drewN]⟩, by simp [intOf]; omega⟩
              | false =>
                rw [hbo] at hbg hbs
                clear hM2 hM1
                go_wp2_with fail
                go_quiet ((go_at_call 75; first | exact Calls.quiet_of_same (HH1.out _) | exact Calls.quiet_of_same (HH2.out _)))
                go_wp2
                exact ⟨⟨t + 1, i1 + 1, by show _ = _; rw [hi1.out]; omega, by have := hi1.out; omega, by go_num, by rw [hbs]; rfl, m + nq, by rw [hW.out, World.drewN_drewN]⟩, by simp [intOf]; omega⟩
            · have htn : t = n - 1 - k := by omega
              have hkt : i1 = n := by have := hi1.out; omega
              rw [hkt]
              rw [htn] at hbb
              have hbn : b < n := by omega
              have hpv : pivot n B k = swapM B k b := by rw [pivot, hbb]
              have hbw : Below w.heap.size w wr := by rw [hW.out]; exact below_drewN hb1 m
              have hM4 := hM2.swap hlt hbn
              have c1 := hM2.hd b hbn
              have c2 := hM2.hd k hlt
              have f1 := hM2.hf b hbn
              have f2 := hM2.hf k hlt
              have hlR := hM2.lowR
              have q1 : (wr.setCell ⟨R, k, none⟩ (.slice (some ⟨g1 b, 0, none⟩) (n + 1) (n + 1))).cell? ⟨R, b, none⟩ = some (.slice (some ⟨g1 b, 0, none⟩) (n + 1) (n + 1)) := by
                by_cases e : k = b
                · subst e; exact set_same c2
                · rw [set_other (by intro e2; exact e (congrArg Addr.off e2))]; exact c1
              have c5 := hM4.hd k hlt
              obtain ⟨xp, c6, e6⟩ := hM4.cl k k hlt (by omega)
              have hzz := isZ_order xp
              rw [e6, ← hpv] at hzz
              rw [← hpv] at hM4
              have hst := gauss_step hG.out
              have hb4 : Below w.heap.size w ((wr.setCell ⟨R, k, none⟩ (.slice (some ⟨g1 b, 0, none⟩) (n + 1) (n + 1))).setCell ⟨R, b, none⟩ (.slice (some ⟨g1 k, 0, none⟩) (n + 1) (n + 1))) := below_set (below_set hbw (by show _ ≤ R; omega) _) (by show _ ≤ R; omega) _
              have hP4 := (hP2.other (show R ≠ w.heap.size by omega) (o := k) (.slice (some ⟨g1 b, 0, none⟩) (n + 1) (n + 1))).other (show R ≠ w.heap.size by omega) (o := b) (.slice (some ⟨g1 k, 0, none⟩) (n + 1) (n + 1))
              clear hM2 hM1 e6 hbs hbl hP2 hP1 hb1
              unfold hdr at *
              go_wp2_with fail
              go_region
              have hM5 := hM4.drewN 1
              have hP5 := hP4.drewN 1
              have hb5 := below_drewN hb4 1
              change Mat (World.drew _) _ _ _ _ _ _ at hM5
              change Blk (World.drew _) _ _ _ at hP5
              change Below _ _ (World.drew _) at hb5
              generalize hwq : ((wr.setCell ⟨R, k, none⟩ (.slice (some ⟨g1 b, 0, none⟩) (n + 1) (n + 1))).setCell ⟨R, b, none⟩ (.slice (some ⟨g1 k, 0, none⟩) (n + 1) (n + 1))).drew = wq at hM5 hP5 hb5 ⊢
              clear hwq hM4 hP4 hb4 c1 c2 f1 f2 q1 c5 c6 hzz hbw hW
              obtain ⟨g2, hg2⟩ : ∃ g2, g2 = fun i => g1 (swp k b i) := ⟨_, rfl⟩
              rw [← hg2] at hM5
              clear hg2 hpv hbb
              have c5 := hM5.hd k hlt
              obtain ⟨xp, c6, e6⟩ := hM5.cl k k hlt (by omega)
              have hzz := isZ_order xp
              rw [e6] at hzz
              have k1 : (k : Int) < (n : Int) + 1 := by omega
              cases hz : isZ (pivot n B k k k) with
              | true =>
                rw [hz] at hzz
                rw [hz, if_pos rfl] at hst
                have hno := gauss_none n A (k + 1) hst (n - (k + 1))
                rw [show k + 1 + (n - (k + 1)) = n by omega] at hno
                replace hno := Lib.hid hno
                have cP : wq.cell? ⟨w.heap.size, 0, none⟩ = some (.slice none 0 0) := hP5.cell 0
                have fP := hP5.frozen 0
                clear hM5 hz hst e6
                go_wp2
                refine bodyPost_ret (v := .tuple #[.agg #[.slice none 0 0], .bool false]) (by simp [results, Try.results27, go_sem, cP]) rfl ?_
                exact ⟨hFin.out _ _ (.inl ⟨hno.out, rfl⟩), below_set hb5 (Nat.le_refl _) _⟩
              | false =>
                rw [hz] at hzz
                rw [hz, if_neg (by simp)] at hst
                replace hst := Lib.hid hst
                clear hz e6 hG
                go_wp2
                generalize pivot n B k = C at *
                have hM6 := hM5.eq (A' := elimAt C k (k + 1) (k + 1)) (fun i j _ _ => (elim_begin C k i j).symm)
                go_loopw [23, 24, 25] (fun iv _ _ wr => ∃ i0 : Nat, k + 1 ≤ i0 ∧ i0 ≤ n ∧ iv = .int .i64 (i0 : Int) ∧ Mat wr (w.heap.size + 1) R g2 n (n + 1) (elimAt C k i0 (k + 1)) ∧ Blk wr w.heap.size 33 #[.slice none 0 0] ∧ Below w.heap.size w wr) (fun iv _ _ _ => n - (intOf iv).toNat)
                case atStart => exact ⟨k + 1, Nat.le_refl _, hlt, by go_num, hM6, hP5, hb5⟩
                case round =>
                  obtain ⟨i0, hi1', hi2, rfl, hM7, hP7, hb7⟩ := hrel
                  clear hM6 hM5 hP5 hb5 hzz c5 c6
                  obtain ⟨w6, rfl⟩ : ∃ w6 : World, w6 = wr := ⟨_, rfl⟩
                  by_cases hlt6 : i0 < n
                  · have d1 := hM7.hd i0 hlt6
                    have d2 := hM7.hd k hlt
                    obtain ⟨x1, d3, e3⟩ := hM7.cl i0 k hlt6 (by omega)
                    obtain ⟨x2, d4, e4⟩ := hM7.cl k k hlt (by omega)
                    rw [elim_col] at e3 e4
                    go_wp2_with fail
                    go_region_held (fun w' => w'.cell? ⟨R, i0, none⟩ = some (.slice (some ⟨g2 i0, 0, none⟩) (n + 1) (n + 1)) ∧ w'.cell? ⟨R, k, none⟩ = some (.slice (some ⟨g2 k, 0, none⟩) (n + 1) (n + 1)) ∧ w'.cell? ⟨g2 i0, k, none⟩ = some (.float .f32 x1) ∧ w'.cell? ⟨g2 k, k, none⟩ = some (.float .f32 x2)) (go_keep) (fail)
                    have hf : cn (opB .quo x1 x2 w6.drew) = opO .quo (C i0 k) (C k k) := by rw [cn_op o4q, e3, e4]
                    have hM8 : Mat (w6.drewN (1 + opN .quo x1 x2)) (w.heap.size + 1) R g2 n (n + 1) (elimAt C k i0 (k + 1)) := hM7.drewN _
                    have hP8 : Blk (w6.drewN (1 + opN .quo x1 x2)) w.heap.size 33 #[.slice none 0 0] := hP7.drewN _
                    have hb8 : Below w.heap.size w (w6.drewN (1 + opN .quo x1 x2)) := below_drewN hb7 _
                    clear hM7 hP7 hb7 d1 d2 d3 d4 e3 e4
                    generalize opB .quo x1 x2 w6.drew = f at *
                    generalize w6.drewN (1 + opN .quo x1 x2) = w7 at *
                    go_wp2
                    go_loopw [25] (fun jv wr => ∃ j0 : Nat, k + 1 ≤ j0 ∧ j0 ≤ n + 1 ∧ jv = .int .i64 (j0 : Int) ∧ Mat wr (w.heap.size + 1) R g2 n (n + 1) (elimAt C k i0 j0) ∧ Blk wr w.heap.size 33 #[.slice none 0 0] ∧ Below w.heap.size w wr) (fun jv _ => n + 1 - (intOf jv).toNat)
                    case atStart => exact ⟨k + 1, Nat.le_refl _, by omega, by go_num, hM8, hP8, hb8⟩
                    case round =>
                      obtain ⟨j0, hj1, hj2, rfl, hM9, hP9, hb9⟩ := hrel
                      clear hM8 hP8 hb8
                      obtain ⟨w8, rfl⟩ : ∃ w8 : World, w8 = wr := ⟨_, rfl⟩
                      by_cases hlt8 : j0 < n + 1
                      · have d1 := hM9.hd i0 hlt6
                        have d2 := hM9.hd k hlt
                        obtain ⟨y1, d3, e3⟩ := hM9.cl i0 j0 hlt6 hlt8
                        obtain ⟨y2, d4, e4⟩ := hM9.cl k j0 hlt hlt8
                        rw [elim_row] at e4
                        have d5 := hM9.cf i0 j0 hlt6 hlt8
                        have n2 : g2 i0 ≠ g2 k := fun e => absurd (hM9.inj i0 k hlt6 hlt e) (by omega)
                        have hx : ∀ W W', cn (opB .sub y1 (opB .mul f y2 W) W') = opO .sub (elimAt C k i0 j0 i0 j0) (opO .mul (opO .quo (C i0 k) (C k k)) (C k j0)) := fun W W' => by rw [cn_op o4s, cn_op o4m, hf, e3, e4]
                        have hlg := hM9.low i0 hlt6
                        have hlg2 : w.heap.size ≤ g2 i0 := by omega
                        have k2 : (j0 : Int) < (n : Int) + 1 := by omega
                        clear e3 e4
                        replace hx := Lib.hid hx
                        go_wp2_with fail
                        go_region
                        all_goals
                          go_wp2
                          exact ⟨⟨j0 + 1, by omega, by omega, by go_num, elim_mat (hM9.drewN _) hlt6 hlt8 (by omega) (by omega) (hx.out _ _), (hP9.drewN _).other (by omega) _, below_set (below_drewN hb9 _) hlg2 _⟩, by simp [intOf]; omega⟩
                      · obtain rfl : j0 = n + 1 := by omega
                        have hM10 := hM9.eq (A' := elimAt C k (i0 + 1) (k + 1)) (fun i j _ hj => elim_next C k i0 n i j (by omega))
                        clear hM9
                        go_wp2
                        exact ⟨⟨i0 + 1, by omega, by omega, by go_num, hM10, hP9, hb9⟩, by simp [intOf]; omega⟩
                  · obtain rfl : i0 = n := by omega
                    have hM8 := hM7.eq (A' := elimAt C k i0 0) (fun i j hi _ => elim_end C k i0 i0 (Nat.le_refl _) i j hi)
                    clear hM7
                    go_wp2
                    go_roundw
                    case rel => exact ⟨k + 1, by omega, by go_num, _, g2, hst, hM8, hP7, hb7⟩
                    case measure => (simp [intOf]; all_goals omega)
        · obtain rfl : k = n := by omega
          have hRlt := hM1.ltR (by omega)
          have hglt := fun i (hi : i < k) => hM1.ltg hi (by omega)
          go_wp2_with (at_make; refine wpList_make_full _ rfl _ _ _ rfl wo.heap.size 25 i0 (.float .f32 0) 1 Try.underlying26 hi hz0 hz1 .i64 .i64 _ _ k rfl rfl rfl rfl (by rw [hz2]; omega) (by unfold maxLen; omega) (Nat.le_refl _) ?_; intro w6 hown6 hg6)
          have hb6 : Below wo.heap.size wo w6 := (Below.refl _ _).grown hg6 (Nat.le_refl _) (by simp)
          have hO := Vec.made hown6
          have hM2 := hM1.keep hb6
          have hP2 := hP1.below hb6 hwo1
          have hb2 := hb1.trans (hb6.mono (by omega))
          have hgO : Hid (∀ i, i < k → wo.heap.size ≠ g1 i) := fun i hi => Nat.ne_of_gt (hglt i hi)
          have hRO : wo.heap.size ≠ R := Nat.ne_of_gt hRlt
          have hlO : w.heap.size ≤ wo.heap.size := by omega
          have hPO : wo.heap.size ≠ w.heap.size := by omega
          generalize wo.heap.size = O at *
          clear hM1 hP1 hb1 hglt hown6 hg6 hb6 hlt
          go_loopw [27, 28, 29] (fun iv _ _ wr => ∃ d : Nat, d ≤ k ∧ iv = .int .i64 ((k : Int) - 1 - (d : Int)) ∧ Mat wr (w.heap.size + 1) R g1 k (k + 1) B ∧ Vec wr O k (solO B k d) ∧ Blk wr w.heap.size 33 #[.slice none 0 0] ∧ Below w.heap.size w wr) (fun iv _ _ _ => ((intOf iv) + 1).toNat)
          case atStart => exact ⟨0, Nat.zero_le _, by go_num, hM2, hO, hP2, hb2⟩
          case round =>
            obtain ⟨d, hd2, rfl, hM3, hO3, hP3, hb3⟩ := hrel
            clear hM2 hO hP2 hb2
            obtain ⟨w3, rfl⟩ : ∃ w3 : World, w3 = wr := ⟨_, rfl⟩
            by_cases hltd : d < k
            · obtain ⟨i0, hi0⟩ : ∃ i0, i0 = k - 1 - d := ⟨_, rfl⟩
              have hiz : (k : Int) - 1 - (d : Int) = (i0 : Int) := by omega
              have hin : i0 < k := by omega
              have f1 := hM3.hd i0 hin
              obtain ⟨y0, c0, e0⟩ := hM3.cl i0 k hin (by omega)
              have k1 : (k : Int) < (k : Int) + 1 := by omega
              rw [hiz]
              clear hiz
              replace hi0 := Lib.hid hi0
              replace e0 := Lib.hid e0
              go_wp2
              go_loopw [28, 29] (fun xv jv wr => ∃ t z j : Nat, t ≤ d ∧ Hid (j = i0 + 1 + t) ∧ j ≤ k ∧ i0 < j ∧ jv = .int .i64 (j : Int) ∧ xv = .float .f32 z ∧ Hid (cn z = leftO B k (solO B k d) i0 t) ∧ ∃ m, wr = w3.drewN m) (fun _ jv _ => k - (intOf jv).toNat)
              case atStart => exact ⟨0, y0, i0 + 1, Nat.zero_le _, rfl, hin, Nat.lt_succ_self _, by go_num, rfl, e0, 0, rfl⟩
              case round =>
                obtain ⟨t, z, j, ht, hj', hjn0, hij, rfl, rfl, hz, m, hW0⟩ := hrel
                have hM4 : Mat wr (w.heap.size + 1) R g1 k (k + 1) B := by rw [hW0]; exact hM3.drewN m
                have hO4 : Vec wr O k (solO B k d) := by rw [hW0]; exact hO3.drewN m
                have hb4 : Below w.heap.size w wr := by rw [hW0]; exact below_drewN hb3 m
                have hP4 : Blk wr w.heap.size 33 #[.slice none 0 0] := by rw [hW0]; exact hP3
                have hW := Lib.hid hW0
                clear hW0 c0 e0 f1
                obtain ⟨w4, rfl⟩ : ∃ w4 : World, w4 = wr := ⟨_, rfl⟩
                by_cases hltt : t < d
                · have hjn : j < k := by have := hi0.out; have := hj'.out; omega
                  have d1 := hM4.hd i0 hin
                  obtain ⟨y1, d3, e3⟩ := hM4.cl i0 j hin (by omega)
                  obtain ⟨y2, d4, e4⟩ := hO4.cl j hjn
                  have hx : ∀ W W', cn (opB .sub z (opB .mul y1 y2 W) W') = leftO B k (solO B k d) i0 (t + 1) := fun W W' => by rw [cn_op o4s, cn_op o4m, hz.out, e3, e4, hj'.out]; rfl
                  have k2 : (j : Int) < (k : Int) + 1 := by omega
                  replace hx := Lib.hid hx
                  clear e3 e4 hM3 hO3 hM4 hO4 hP3 hb3
                  go_wp2_with fail
                  go_region_held (fun w' => w'.cell? ⟨R, i0, none⟩ = some (.slice (some ⟨g1 i0, 0, none⟩) (k + 1) (k + 1)) ∧ w'.cell? ⟨g1 i0, j, none⟩ = some (.float .f32 y1) ∧ w'.cell? ⟨O, j, none⟩ = some (.float .f32 y2)) (go_keep) (fail)
                  go_wp2
                  go_roundw
                  case rel => exact ⟨t + 1, _, j + 1, by omega, (by have := hj'.out; show _ = _; omega), hjn, by omega, by go_num, rfl, hx.out _ _, _, by rw [hW.out, World.drewN_drewN]⟩
                  case measure => (simp [intOf]; all_goals omega)
                · obtain rfl : t = d := by omega
                  have hnn : k ≤ j := by have := hi0.out; have := hj'.out; omega
                  have d1 := hM4.hd i0 hin
                  obtain ⟨y1, d3, e3⟩ := hM4.cl i0 i0 hin (by omega)
                  obtain ⟨y2, d4, e4⟩ := hO4.cl i0 hin
                  have d5 := hO4.cf i0 hin
                  have hx : ∀ W, cn (opB .quo z y1 W) = opO .quo (leftO B k (solO B k t) i0 t) (B i0 i0) := fun W => by rw [cn_op o4q, hz.out, e3]
                  have k2 : (i0 : Int) < (k : Int) + 1 := by omega
                  replace hx := Lib.hid hx
                  clear e3 e4 hM3 hO3 hP3 hb3
                  go_wp2
                  go_roundw
                  case rel => exact ⟨t + 1, by omega, (by have := hi0.out; congr 1; omega), (hM4.drewN _).other hRO hgO.out _, sol_vec (hO4.drewN _) hin hi0.out (hx.out _), (hP4.drewN _).other hPO _, below_set (below_drewN hb4 _) hlO _⟩
                  case measure => (simp [intOf]; all_goals omega)
            · obtain rfl : d = k := by omega
              obtain ⟨l, hl, hcn, hrd⟩ := hO3.reads
              have hOl := hO3.lt (by omega)
              have HC := fun c => complexesN (some ⟨O, 0, none⟩) c (O + 1) d l hl w3 hrd hOl (by omega) (by omega)
              replace hcn := Lib.hid hcn
              clear hO3 hrd hM3
              go_wp2_with fail
              (with_reducible refine (HC _).mono ?_)
              rintro e w6 ⟨gc, c2', rfl, hown, hb7⟩
              clear HC
              have hz6 := hb7.size
              obtain ⟨cs2, hBl, hs1, hs2, hc3⟩ := blk_of_row hown
              have hgc := hown.lt gc rfl
              have hO2 := (own_row hown).wide hgc.1 hBl.lt
              have HG := polyOfN w3.heap.size gc c2' d (reC l) (by simp [hl]) w6 hO2 (by omega) (by omega) hc3
              have hP6 := hP3.below hb7 (by omega)
              have hb8 := hb3.trans (hb7.mono (by omega))
              clear hP3 hown hBl hs1 hs2 hO2 hb3
              go_wp2_with fail
              (with_reducible refine HG.mono ?_)
              rintro e w7 ⟨hPol, hb9⟩
              clear HG
              have hz7 := hb9.size
              have hP7 := hP6.below hb9 (by omega)
              have cP : w7.cell? ⟨w.heap.size, 0, none⟩ = some (.slice none 0 0) := hP7.cell 0
              have fP := hP7.frozen 0
              have hb10 := hb8.trans (hb9.mono (by omega))
              clear hP6 hb8
              rcases hPol with ⟨hb, g4, c4, rfl, hc4, hOw⟩ | ⟨hb, rfl⟩
              · have hb' := Lib.hid hb
                clear hb
                generalize hk' : trimN (reC l) d = k' at *
                replace hk' := Lib.hid hk'
                go_wp2
                refine bodyPost_ret (v := .tuple #[.agg #[.slice (some ⟨g4, 0, none⟩) k' c4], .bool true]) (by simp [results, Try.results27, go_sem, cP]) rfl ?_
                refine ⟨hFin.out _ _ (.inr ⟨B, hG.out, l, hl, hcn.out, .inl ?_⟩), below_set hb10 (Nat.le_refl _) _⟩
                rw [hk'.out]
                exact ⟨hb'.out, g4, c4, rfl, hc4, (hOw.keep fun g' b1 b2 _ => Below.heap_setCell _ _ _ _ (by simp; omega)).wide (by omega) (by simp)⟩
              · have hb' := Lib.hid hb
                clear hb
                go_wp2
                refine bodyPost_ret (v := .tuple #[.agg #[.slice none 0 0], .bool false]) (by simp [results, Try.results27, go_sem, cP]) rfl ?_
                exact ⟨hFin.out _ _ (.inr ⟨B, hG.out, l, hl, hcn.out, .inr ⟨hb'.out, rfl⟩⟩), below_set hb10 (Nat.le_refl _) _⟩
end Go.Proofs.Ytlpibibpckkjhaa
