/-
  Contract: the reference's fit (spec.FitPoly) of lists as they have to be, whatever the numbers.
-/
import Derived.Test.YtakkmcplhihjiaaFitS
namespace Go.Proofs.Ytakkmcplhihjiaa
open Go.RowKit

theorem flt_atN {w : World} {B n : Nat} {A : Option Addr} {l : List Nat} {k : Nat} (h : Reads w B 1 A n (flts l)) (hl : l.length = n) (hk : k < n) :
    ∃ ad, A = some ad ∧ ad.block < B ∧ w.cell? (ad.add k) = some (.float .f32 (l.getD k 0)) := by
  subst hl; exact flt_at h hk
theorem l02FiniteN (A : Option Addr) (c B n : Nat) (l : List Nat) (hl : l.length = n) (w : World) (hr : Reads w B 1 A n (flts l)) (hB : B ≤ w.heap.size) (hn : n ≤ 1048576) :
    Calls Try.prog 19 #[.slice A n c] w fun e w' => e = .returned (.bool (l.all fin32B)) ∧ Below w.heap.size w w' := by
  subst hl; exact l02Finite_b A c B l w hr hB hn
theorem Vec.reads {w : World} {V n : Nat} {a : Nat → Option Nat} (h : Vec w V n a) : ∃ l : List Nat, l.length = n ∧ (∀ i, i < n → cn (l.getD i 0) = a i) ∧ Reads w (V + 1) 1 (some ⟨V, 0, none⟩) n (flts l) := by
  have key : ∀ m, m ≤ n → ∃ l : List Nat, l.length = m ∧ (∀ i, i < m → cn (l.getD i 0) = a i) ∧ ∀ i, i < m → w.cell? ⟨V, i, none⟩ = some (.float .f32 (l.getD i 0)) := by
    intro m
    induction m with
    | zero => exact fun _ => ⟨[], rfl, fun i hi => absurd hi (Nat.not_lt_zero _), fun i hi => absurd hi (Nat.not_lt_zero _)⟩
    | succ m ih =>
      intro hm
      obtain ⟨l, h1, h2, h3⟩ := ih (by omega)
      obtain ⟨x, h4, h5⟩ := h.cl m (by omega)
      refine ⟨l ++ [x], by simp [h1], fun i hi => ?_, fun i hi => ?_⟩
      all_goals
        rcases Nat.lt_or_ge i m with hlt | hge
        · have e : (l ++ [x]).getD i 0 = l.getD i 0 := by simp [List.getD, List.getElem?_append_left (show i < l.length by omega)]
          rw [e]
          first | exact h2 i hlt | exact h3 i hlt
        · obtain rfl : i = m := by omega
          have e : (l ++ [x]).getD i 0 = x := by rw [← h1]; simp [List.getD]
          rw [e]
          first | exact h5 | exact h4
  obtain ⟨l, h1, h2, h3⟩ := key n (Nat.le_refl _)
  refine ⟨l, h1, h2, by simp [h1], fun hn => ⟨_, rfl, Nat.lt_succ_self _, fun j u hu => ?_⟩⟩
  have hj : j < n := by
    have := (List.getElem?_eq_some_iff.1 hu).1
    simpa [h1] using this
  have e0 : (⟨V, 0, none⟩ : Addr).add j = ⟨V, j, none⟩ := by unfold Addr.add; split <;> simp_all
  rw [e0, h3 j hj]
  rw [flts_at (by omega)] at hu
  exact hu
theorem Blk.other {w : World} {p : Nat} {t : TypeId} {cs : Array Value} (h : Blk w p t cs) {b o : Nat} (hb : b ≠ p) (v : Value) : Blk (w.setCell ⟨b, o, none⟩ v) p t cs :=
  (Below.heap_setCell _ _ _ _ (fun e => hb e.symm)).trans h
theorem l06ComplexN (A : Option Addr) (c B n : Nat) (l : List Nat) (hl : l.length = n) (w : World) (hr : Reads w B 1 A n (flts l)) (hB : B ≤ w.heap.size) (h1 : 1 ≤ n) (hn : n ≤ 1000) :
    Calls Try.prog 30 #[.slice A n c] w fun e w' => ∃ g c', e = .returned (.slice (some ⟨g, 0, none⟩) n c') ∧ w'.ownsRow w.heap.size 69 1 (.slice (some ⟨g, 0, none⟩) n c') n (cplx (reC l)) ∧ Below w.heap.size w w' := by
  subst hl; exact l06Complex_any A c B l w hr hB h1 hn
theorem l02GiveN (lo g c n : Nat) (l : List (Nat × Nat)) (hl : l.length = n) (w : World) (ho : Own w lo w.heap.size 69 (some ⟨g, 0, none⟩) (cplx l)) (h1 : 1 ≤ n) (hn : n ≤ 1000) (hc : n ≤ c) :
    Calls Try.prog 29 #[.slice (some ⟨g, 0, none⟩) n c] w fun e w' => PolP w.heap.size (polyB (l.take (trimN l n))) (trimN l n) (l.take (trimN l n)) e w' ∧ Below w.heap.size w w' := by
  subst hl; exact l02Give_any lo g c l w ho h1 hn hc
theorem one_hdr (c g : Nat) : ∀ u ∈ [hdr c g], u.oneCell' = true := by intro u hu; simp at hu; subst hu; rfl
theorem rep_snoc (i : Nat) : flts (List.replicate i 0) ++ [.float .f32 0] = flts (List.replicate (i + 1) 0) := by
  rw [flts_snoc, List.replicate_succ']
/-- The sums of powers, done up to row i0, column k0 of value j. -/
def sAt (X W : Nat → Option Nat) (j i0 k0 : Nat) : Mx := fun i k => if i < i0 ∨ (i = i0 ∧ k < k0) then sumO X W (i + k) (j + 1) else sumO X W (i + k) j
def rAt (X Y W : Nat → Option Nat) (j i0 : Nat) : Nat → Option Nat := fun i => if i < i0 then rhsO X Y W i (j + 1) else rhsO X Y W i j

section
variable (X Y W : Nat → Option Nat)
theorem sAt_step (j i0 k0 : Nat) (i k : Nat) : upd (sAt X W j i0 k0) i0 k0 (sumO X W (i0 + k0) (j + 1)) i k = sAt X W j i0 (k0 + 1) i k := by
  unfold upd sAt
  by_cases h : i = i0 ∧ k = k0
  · obtain ⟨rfl, rfl⟩ := h
    rw [if_pos ⟨rfl, rfl⟩, if_pos (by omega)]
  · rw [if_neg h]
    by_cases h2 : i < i0 ∨ (i = i0 ∧ k < k0)
    · rw [if_pos h2, if_pos (by omega)]
    · rw [if_neg h2, if_neg (by omega)]
theorem sAt_self (j i0 k0 : Nat) : sAt X W j i0 k0 i0 k0 = sumO X W (i0 + k0) j := by unfold sAt; rw [if_neg (by omega)]
theorem sAt_row (j i0 n i k : Nat) (hk : k < n) : sAt X W j i0 n i k = sAt X W j (i0 + 1) 0 i k := by
  unfold sAt
  by_cases h2 : i < i0 ∨ (i = i0 ∧ k < n)
  · rw [if_pos h2, if_pos (by omega)]
  · rw [if_neg h2, if_neg (by omega)]
theorem sAt_end (j n i k : Nat) (hi : i < n) : sAt X W j n 0 i k = sAt X W (j + 1) 0 0 i k := by
  unfold sAt
  rw [if_pos (by omega), if_neg (by omega)]
theorem rAt_step (j i0 i : Nat) : updV (rAt X Y W j i0) i0 (rhsO X Y W i0 (j + 1)) i = rAt X Y W j (i0 + 1) i := by
  unfold updV rAt
  by_cases h : i = i0
  · subst h; rw [if_pos rfl, if_pos (by omega)]
  · rw [if_neg h]
    by_cases h2 : i < i0
    · rw [if_pos h2, if_pos (by omega)]
    · rw [if_neg h2, if_neg (by omega)]
theorem rAt_self (j i0 : Nat) : rAt X Y W j i0 i0 = rhsO X Y W i0 j := by unfold rAt; rw [if_neg (by omega)]
theorem rAt_end (j n i : Nat) (hi : i < n) : rAt X Y W j n i = rAt X Y W (j + 1) 0 i := by
  unfold rAt
  rw [if_pos (by omega), if_neg (by omega)]
end

set_option maxRecDepth 100000 in
set_option maxHeartbeats 6400000 in
theorem fitS_any (A1 A2 A3 : Option Addr) (c1 c2 c3 m dn : Nat) (xs ys ws : List Nat) (hx : xs.length = m) (hy : ys.length = m) (hw : ws.length = m) (w : World) (h1 : Reads w w.heap.size 1 A1 m (flts xs)) (h2 : Reads w w.heap.size 1 A2 m (flts ys)) (h3 : Reads w w.heap.size 1 A3 m (flts ws)) (a1 : 1 ≤ m) (a2 : m ≤ 17) (a5 : xs.all fin32B = true) (a6 : ys.all fin32B = true) (hd : dn ≤ 4) :
    Calls Try.prog 10 #[.slice A1 m c1, .slice A2 m c2, .slice A3 m c3, .int .i64 (dn : Int)] w fun e w' => ((ws.all leastB = false ∧ e = .returned (.tuple #[.agg #[.slice none 0 0], .bool false])) ∨ (ws.all leastB = true ∧ FitP w.heap.size (dn + 1) (gaussO (dn + 1) (fitM xs ys ws (dn + 1)) (dn + 1)) e w')) ∧ Below w.heap.size w w' := by
  have hb0 : Below w.heap.size w (w.alloc (.cells #[.slice none 0 0] 30)) := (Below.refl _ _).alloc (Nat.le_refl _) _
  have H1 := l02FiniteN A1 c1 w.heap.size m xs hx _ (h1.below hb0) hb0.size (by omega)
  have H2 := fun W (h2 : Reads W w.heap.size 1 A2 m (flts ys)) hB => l02FiniteN A2 c2 w.heap.size m ys hy W h2 hB (by omega)
  have H3 := l00In04_any (dn : Int)
  have e3 : (decide (0 ≤ (dn : Int)) && decide ((dn : Int) ≤ 4)) = true := by simp; omega
  rw [e3] at H3
  rw [a5] at H1
  rw [a6] at H2
  clear e3 a5 a6
  have hP1 : Blk (w.alloc (.cells #[.slice none 0 0] 30)) w.heap.size 30 #[.slice none 0 0] := Blk.new w _ _
  have HM := fun a b w => run_op o4m a b w
  have HA := fun a b w => run_op o4a a b w
  obtain ⟨G, hGe⟩ : ∃ G, Hid (G = gaussO (dn + 1) (fitM xs ys ws (dn + 1)) (dn + 1)) := ⟨_, rfl⟩
  obtain ⟨X, hX⟩ : ∃ X : Nat → Option Nat, Hid (X = fun i => cn (xs.getD i 0)) := ⟨_, rfl⟩
  obtain ⟨Y, hY⟩ : ∃ Y : Nat → Option Nat, Hid (Y = fun i => cn (ys.getD i 0)) := ⟨_, rfl⟩
  obtain ⟨W, hW⟩ : ∃ W : Nat → Option Nat, Hid (W = fun i => cn (ws.getD i 0)) := ⟨_, rfl⟩
  obtain ⟨i0, hi, hz0, hz1, hz2⟩ := info_parts infoF
  obtain ⟨i1, hj, hy0, hy1, hy2⟩ := info_parts infoS
  go_enter Try.func10, Try.ntmps10
  go_wp2_with fail
  (with_reducible refine H1.mono ?_)
  rintro e w1 ⟨rfl, hb1⟩
  clear H1
  have z1 := hb1.size
  simp only [World.size_alloc] at z1
  have hP2 := hP1.below hb1 (by simp)
  have hb2 := hb0.trans (hb1.mono (by simp))
  clear hP1 hb0 hb1
  have H2' := H2 w1 (h2.below hb2) hb2.size
  go_wp2_with fail
  (with_reducible refine H2'.mono ?_)
  rintro e w2 ⟨rfl, hb3⟩
  clear H2 H2'
  have z2 := hb3.size
  have hP3 := hP2.below hb3 (by omega)
  have hb4 := hb2.trans (hb3.mono (by omega))
  clear hP2 hb2 hb3
  go_wp2_with fail
  refine (H3 _).mono ?_
  rintro e w3 ⟨rfl, rfl⟩
  clear H3
  go_wp2
  have hrow0 : ((w3.alloc (.cells #[] 22)).alloc (.cells #[] 38)).ownsRow (w.heap.size + 1) 22 1 (.slice (some ⟨w3.heap.size, 0, none⟩) 0 0) 0 [] := by
    have h := World.ownsRow_made (base := w.heap.size + 1) (e := 22) (size := 1) w3 #[] 0 (by omega) (by simp [maxLen]) rfl
    have h2 := h.alloc (.cells #[] 38)
    simpa using h2
  have hrow1 : ((w3.alloc (.cells #[] 22)).alloc (.cells #[] 38)).ownsRow (w.heap.size + 1) 38 1 (.slice (some ⟨w3.heap.size + 1, 0, none⟩) 0 0) 0 (flts (List.replicate 0 0)) := by
    have h := World.ownsRow_made (base := w.heap.size + 1) (e := 38) (size := 1) (w3.alloc (.cells #[] 22)) #[] 0 (by simp; omega) (by simp [maxLen]) rfl
    simpa [flts] using h
  have hb5 : Below w.heap.size w ((w3.alloc (.cells #[] 22)).alloc (.cells #[] 38)) := (hb4.alloc (by omega) _).alloc (by simp; omega) _
  have hP4 := (hP3.alloc (.cells #[] 22)).alloc (.cells #[] 38)
  have hR0 := Rws.empty _ (w.heap.size + 1) (dn + 1) (fun _ => 0) (fun _ _ => some 0) hrow0
  go_loopw [11, 12, 13] (fun v1 v2 q wr => ∃ i : Nat, i ≤ dn + 1 ∧ q = .int .i64 (i : Int) ∧ (∃ g, Rws wr (w.heap.size + 1) v1 i (dn + 1) g (fun _ _ => some 0) ∧ wr.ownsRow (w.heap.size + 1) 38 1 v2 i (flts (List.replicate i 0)) ∧ v1.ownBlock ≠ v2.ownBlock ∧ Hid (∀ j, j < i → some (g j) ≠ v2.ownBlock)) ∧ Blk wr w.heap.size 30 #[.slice none 0 0] ∧ Below w.heap.size w wr) (fun _ _ q _ => dn + 1 - (intOf q).toNat)
  case atStart => exact ⟨0, Nat.zero_le _, rfl, ⟨_, hR0, hrow1, by simp [Value.ownBlock], fun _ hi => absurd hi (Nat.not_lt_zero _)⟩, hP4, hb5⟩
  case round =>
    obtain ⟨i, hi2, rfl, ⟨g, hR, hown, hne, hgn⟩, hP, hbr⟩ := hrel
    clear hR0 hrow0 hrow1 hP4 hb5 hP3 hb4
    obtain ⟨wo, rfl⟩ : ∃ wo : World, wo = wr := ⟨_, rfl⟩
    have hsz := hP.lt
    obtain ⟨B1, d1, rfl, -, -, -⟩ := Own.of_row hR.row (Nat.le_refl _)
    obtain ⟨B2, d2, rfl, -, -, -⟩ := Own.of_row hown (Nat.le_refl _)
    by_cases hlt : i < dn + 1
    · go_wp2_with (first
        | (at_make; refine wpList_make_full _ rfl _ _ _ rfl (w.heap.size + 1) 38 i0 (.float .f32 0) 1 Try.underlying22 hi hz0 hz1 .i64 .i64 _ _ (dn + 1) rfl rfl (by omega) (by omega) (by rw [hz2]; omega) (by unfold maxLen; omega) (by omega) ?_
           intro w4 hown4 hg4
           have hb4 : Below wo.heap.size wo w4 := (Below.refl _ _).grown hg4 (Nat.le_refl _) (by simp)
           have hV4 := Vec.made hown4
           have hR4 := hR.below hb4
           have hn4 := ownsRow_kp hown (Kp.of_below (lo := 0) (hi := 0) hb4) (Nat.zero_le _)
           have hz4 := (blk_of_row hown4).choose_spec.1.lt)
        | (at_builtin; first
            | (refine wpList_append_any _ rfl (.tmp 63) (.tmp 67) _ rfl (w.heap.size + 1) 22 i1 _ 1 24 Try.underlying49 hj hy0 hy1 hy2 rfl (by omega) (.slice B1 i d1) i (hdrs (dn + 1) g i) rfl (hR4.row.alloc _) (w4.heap.size + 1) (some ⟨w4.heap.size, 0, none⟩) 1 1 [hdr (dn + 1) wo.heap.size] rfl (reads_new w4 [_] _) (one_hdr _ _) (by simp only [maxLen]; omega) (by omega) (by simp; omega) ?_
               intro v3 w5 hown5 hg5 hat5
               have hR5 := hR.push (hb4.trans ((Below.refl _ _).alloc (by omega) _)) (hV4.keep ((Below.refl _ _).alloc (Nat.le_refl _) _)) (by omega) (Nat.le_refl _) (by simp; omega) hown5 hg5 hat5
               have hn5 := (hn4.alloc (.cells #[hdr (dn + 1) wo.heap.size] 22)).kept hg5 (.inr fun e => hne e.symm)
               have hb5 : Below (w.heap.size + 1) w4 w5 := ((Below.refl _ _).alloc (by omega) _).grown hg5 (by simp; omega) (fun j hj => (hR.row.lt j hj).1)
               have hne5 : v3.ownBlock ≠ (Value.slice B2 i d2).ownBlock := row_apart hn4 hne hat5
               have hsz5 := hb5.size)
            | (refine wpList_append_any _ rfl (.tmp 69) (.tmp 70) _ rfl (w.heap.size + 1) 38 i0 _ 1 4 Try.underlying22 hi hz0 hz1 hz2 rfl (by omega) (.slice B2 i d2) i (flts (List.replicate i 0)) rfl (hn5.alloc _) (w5.heap.size + 1) (some ⟨w5.heap.size, 0, none⟩) 1 1 [.float .f32 0] rfl (reads_new w5 [_] _) (one_flt 0) (by simp only [maxLen]; omega) (by omega) (by simp; omega) ?_
               intro v4 w6 hown6 hg6 hat6
               rw [rep_snoc] at hown6)))
      have hsz6 := hg6.size
      simp only [World.size_alloc] at hsz6
      have hgs : ∀ j, j < i + 1 → some ((fun j => if j = i then wo.heap.size else g j) j) ≠ (Value.slice B2 i d2).ownBlock := fun j hj => by
        by_cases e : j = i
        · simp only [if_pos e]
          intro e2
          exact absurd (hown.lt _ e2.symm).2 (Nat.lt_irrefl _)
        · simp only [if_neg e]
          exact hgn.out j (by omega)
      have hR6 := ((hR5.below ((Below.refl _ _).alloc (Nat.le_refl _) (.cells #[.float .f32 0] 38))).grown hg6 hne5 hgs).eq (A' := fun _ _ => some 0) (fun i' j _ _ => by simp)
      have hne6 : v3.ownBlock ≠ v4.ownBlock := (row_apart hR5.row hne5.symm hat6).symm
      have hgn6 : Hid (∀ j, j < i + 1 → some ((fun j => if j = i then wo.heap.size else g j) j) ≠ v4.ownBlock) := fun j hj => by
        rcases hat6 with e | e
        · rw [e]; exact hgs j hj
        · rw [e]
          intro e2
          injection e2 with e2
          have := hR5.lt j hj
          simp only [World.size_alloc] at e2
          omega
      have hb6 : Below (w.heap.size + 1) w5 w6 := ((Below.refl _ _).alloc (by omega) _).grown hg6 (by simp; omega) (fun j hj => (hown.lt j hj).1)
      have hb46 : Below (w.heap.size + 1) wo w6 := ((hb4.mono (by omega)).trans hb5).trans hb6
      exact ⟨⟨i + 1, by omega, by go_num, ⟨_, hR6, hown6, hne6, hgn6⟩, hP.below hb46 (by omega), hbr.trans (hb46.mono (by omega))⟩, by simp [intOf]; omega⟩
    · obtain rfl : i = dn + 1 := by omega
      obtain ⟨R, cR, eR, hR1, hR2⟩ := World.ownsRow.form hR.row (by omega)
      injection eR with eR1 eR2 eR3
      subst eR1 eR3
      obtain ⟨V, cV, eV, hV1, hV2⟩ := World.ownsRow.form hown (by omega)
      injection eV with eV1 eV2 eV3
      subst eV1 eV3
      have hM := hR.mat.eq (A' := sAt X W 0 0 0) (fun i j _ _ => by unfold sAt; rw [if_neg (by omega)]; rfl)
      have hV := (Vec.of_row hown).eq (a' := rAt X Y W 0 0) (fun i hi => by unfold rAt; rw [if_neg (by omega), show (List.replicate (dn + 1) 0).getD i 0 = 0 by simp [List.getD, hi]]; exact cn_zero)
      have hVR : V ≠ R := fun e => hne (by rw [e]; rfl)
      have hVg : Hid (∀ i, i < dn + 1 → V ≠ g i) := fun i hi e => hgn.out i hi (by rw [e]; rfl)
      have hL0 : Hid (∀ i, i < 0 → leastB (ws.getD i 0) = true) := fun i hi => absurd hi (Nat.not_lt_zero _)
      clear hR hown hne hgn hlt
      go_wp2
      go_loopw [14, 15, 16, 17] (fun q _ _ _ wr => ∃ j : Nat, j ≤ m ∧ q = .int .i64 (j : Int) ∧ Hid (∀ i, i < j → leastB (ws.getD i 0) = true) ∧ Mat wr (w.heap.size + 1) R g (dn + 1) (dn + 1) (sAt X W j 0 0) ∧ Vec wr V (dn + 1) (rAt X Y W j 0) ∧ Blk wr w.heap.size 30 #[.slice none 0 0] ∧ Below w.heap.size w wr) (fun q _ _ _ _ => m - (intOf q).toNat)
      case atStart => exact ⟨0, Nat.zero_le _, rfl, hL0, hM, hV, hP, hbr⟩
      case round =>
        obtain ⟨j, hj1, rfl, hL, hM1, hV3, hP1, hb1⟩ := hrel
        clear hL0 hM hV hP hbr
        obtain ⟨w4, rfl⟩ : ∃ w4 : World, w4 = wr := ⟨_, rfl⟩
        have hsz4 := hP1.lt
        by_cases hltj : j < m
        · obtain ⟨ad3, rfl, hab3, q3w⟩ := flt_atN h3 hw hltj
          obtain ⟨ad1, rfl, hab1, q1w⟩ := flt_atN h1 hx hltj
          obtain ⟨ad2, rfl, hab2, q2w⟩ := flt_atN h2 hy hltj
          have q3 := (hb1.cell (p := ad3.add j) (by rw [block_of_add]; exact hab3)).trans q3w
          have q1 := (hb1.cell (p := ad1.add j) (by rw [block_of_add]; exact hab1)).trans q1w
          replace q3w := Lib.hid q3w
          replace q2w := Lib.hid q2w
          clear q1w
          have eX : Hid (cn (xs.getD j 0) = X j) := by show _ = _; rw [hX.out]
          have eY : Hid (cn (ys.getD j 0) = Y j) := by show _ = _; rw [hY.out]
          have eW : Hid (cn (ws.getD j 0) = W j) := by show _ = _; rw [hW.out]
          have hls : Hid (leastB (ws.getD j 0) = true → ∀ i, i < j + 1 → leastB (ws.getD i 0) = true) := fun h i hi => by
            rcases Nat.lt_or_ge i j with h2 | h2
            · exact hL.out i h2
            · rw [show i = j by omega]; exact h
          have hno : Hid (leastB (ws.getD j 0) = false → ws.all leastB = false) := fun h => by
            cases e : ws.all leastB with
            | false => rfl
            | true =>
              have e2 := List.all_eq_true.1 e (ws.getD j 0) (by rw [List.getD, List.getElem?_eq_getElem (by omega)]; exact List.getElem_mem _)
              rw [e2] at h; cases h
          generalize xs.getD j 0 = xj at *
          generalize ys.getD j 0 = yj at *
          generalize ws.getD j 0 = wj at *
          have HL := l02Least_b wj w4
          have HPw := fun W => l06Powers_any xj (2 * dn) (by omega) W
          rw [show ((2 * dn : Nat) : Int) = 2 * (dn : Int) by omega] at HPw
          cases hlb : leastB wj with
          | false =>
            rw [hlb] at HL
            have hnn : Hid (ws.all leastB = false) := hno.out hlb
            clear hls hno
            go_wp2_with fail
            (with_reducible refine HL.mono ?_)
            rintro e w5 ⟨rfl, hb5⟩
            have hP5 := hP1.below hb5 hsz4
            have cP : w5.cell? ⟨w.heap.size, 0, none⟩ = some (.slice none 0 0) := hP5.cell 0
            have fP := hP5.frozen 0
            have hb6 := hb1.trans (hb5.mono (by omega))
            go_wp2
            refine bodyPost_ret (v := .tuple #[.agg #[.slice none 0 0], .bool false]) (by simp [results, Try.results10, go_sem, cP]) rfl ?_
            exact ⟨.inl ⟨hnn.out, rfl⟩, below_set hb6 (Nat.le_refl _) _⟩
          | true =>
            rw [hlb] at HL
            have hL1 := Lib.hid (hls.out hlb)
            clear hls hno
            go_wp2_with fail
            (with_reducible refine HL.mono ?_)
            rintro e w5 ⟨rfl, hb5⟩
            have hz5 := hb5.size
            have hM5 := hM1.keep hb5
            have hV5 := hV3.keep hb5
            have hP5 := hP1.below hb5 hsz4
            have hb6 := hb1.trans (hb5.mono (by omega))
            have q1' := (hb5.cell (p := ad1.add j) (by rw [block_of_add]; omega)).trans q1
            clear q1 hM1 hV3 hP1 hb1
            go_wp2_with fail
            (with_reducible refine (HPw w5).mono ?_)
            rintro e w6 ⟨Vp, cp, rfl, hVp, hVpl, hb7⟩
            clear HPw HL
            have hz6 := hb7.size
            have hVpn : Hid (∀ i, i < dn + 1 → Vp ≠ g i) := fun i hi e => by have := hM5.ltg hi (by omega); omega
            have hVpR : Vp ≠ R := fun e => by have := hM5.ltR (by omega); omega
            have hVpV : Vp ≠ V := fun e => by have := hV5.lt (by omega); omega
            have hM6 := hM5.keep hb7
            have hV6 := (hV5.keep hb7).eq (a' := rAt X Y W j 0) (fun i _ => rfl)
            have hP6 := hP5.below hb7 (by omega)
            have hb8 := hb6.trans (hb7.mono (by omega))
            have hpl : w.heap.size < Vp := by omega
            clear q1' q3 hM5 hV5 hP5 hb6
            go_wp2
            go_loopw [16, 17] (fun iv _ wr => ∃ i0 : Nat, i0 ≤ dn + 1 ∧ iv = .int .i64 (i0 : Int) ∧ Mat wr (w.heap.size + 1) R g (dn + 1) (dn + 1) (sAt X W j i0 0) ∧ Vec wr V (dn + 1) (rAt X Y W j i0) ∧ Vec wr Vp (2 * dn + 1) (powO (cn xj)) ∧ Blk wr w.heap.size 30 #[.slice none 0 0] ∧ Below w.heap.size w wr) (fun iv _ _ => dn + 1 - (intOf iv).toNat)
            case atStart => exact ⟨0, Nat.zero_le _, rfl, hM6, hV6, hVp, hP6, hb8⟩
            case round =>
              obtain ⟨i0, hi01, rfl, hM7, hV7, hp7, hP7, hb9⟩ := hrel
              clear hM6 hV6 hVp hP6 hb8
              by_cases hlti : i0 < dn + 1
              · go_wp2
                go_loopw [17] (fun kv wr => ∃ k0 : Nat, k0 ≤ dn + 1 ∧ kv = .int .i64 (k0 : Int) ∧ Mat wr (w.heap.size + 1) R g (dn + 1) (dn + 1) (sAt X W j i0 k0) ∧ Vec wr V (dn + 1) (rAt X Y W j i0) ∧ Vec wr Vp (2 * dn + 1) (powO (cn xj)) ∧ Blk wr w.heap.size 30 #[.slice none 0 0] ∧ Below w.heap.size w wr) (fun kv _ => dn + 1 - (intOf kv).toNat)
                case atStart => exact ⟨0, Nat.zero_le _, rfl, hM7, hV7, hp7, hP7, hb9⟩
                case round =>
                  obtain ⟨k0, hk1, rfl, hM8, hV8, hp8, hP8, hb10⟩ := hrel
                  clear hM7 hV7 hp7 hP7 hb9
                  obtain ⟨w8, rfl⟩ : ∃ w8 : World, w8 = wr := ⟨_, rfl⟩
                  have p3 : w8.cell? (ad3.add j) = some (.float .f32 wj) := (hb10.cell (by rw [block_of_add]; exact hab3)).trans q3w.out
                  by_cases hltk : k0 < dn + 1
                  · obtain ⟨t, ht⟩ : ∃ t, t = i0 + k0 := ⟨_, rfl⟩
                    have htz : (i0 : Int) + (k0 : Int) = (t : Int) := by omega
                    have ht2 : t < 2 * dn + 1 := by omega
                    have f1 := hM8.hd i0 hlti
                    obtain ⟨y1, f2, e1⟩ := hM8.cl i0 k0 hlti hltk
                    have f3 := hM8.cf i0 k0 hlti hltk
                    obtain ⟨y2, f4, e2⟩ := hp8.cl t ht2
                    replace ht := Lib.hid ht
                    have hxx : ∀ U U', cn (opB .add y1 (opB .mul wj y2 U) U') = sumO X W (i0 + k0) (j + 1) := fun U U' => by
                      rw [cn_op o4a, cn_op o4m, e1, e2, eW.out, sAt_self, eX.out, ht.out]; rfl
                    have hgp := hVpn.out i0 hlti
                    have hgv := hVg.out i0 hlti
                    have hgl := hM8.low i0 hlti
                    have hgl2 : w.heap.size ≤ g i0 := by omega
                    clear e1 e2
                    go_wp2_with fail
                    go_region
                    all_goals
                      go_wp2
                      exact ⟨⟨k0 + 1, by omega, by go_num, ((hM8.drewN _).set_ hlti hltk _).eq (fun i k _ _ => by rw [hxx]; exact sAt_step X W j i0 k0 i k), (hV8.drewN _).other (fun e => hgv e.symm) _, (hp8.drewN _).other (fun e => hgp e.symm) _, (hP8.drewN _).other (by omega) _, below_set (below_drewN hb10 _) hgl2 _⟩, by simp [intOf]; omega⟩
                  · obtain rfl : k0 = dn + 1 := by omega
                    have hM9 := hM8.eq (A' := sAt X W j (i0 + 1) 0) (fun i k _ hk => sAt_row X W j i0 (dn + 1) i k hk)
                    have p2 : w8.cell? (ad2.add j) = some (.float .f32 yj) := (hb10.cell (by rw [block_of_add]; exact hab2)).trans q2w.out
                    obtain ⟨y1, f1, e1⟩ := hV8.cl i0 hlti
                    have f3 := hV8.cf i0 hlti
                    obtain ⟨y2, f4, e2⟩ := hp8.cl i0 (by omega)
                    have hxx : ∀ U U' U'', cn (opB .add y1 (opB .mul (opB .mul wj y2 U) yj U') U'') = rhsO X Y W i0 (j + 1) := fun U U' U'' => by
                      rw [cn_op o4a, cn_op o4m, cn_op o4m, e1, e2, eW.out, eY.out, rAt_self, eX.out]; rfl
                    have hVl : w.heap.size ≤ V := by omega
                    have hVg2 := hVg.out
                    have ht2 : i0 < 2 * dn + 1 := by omega
                    clear e1 e2 hM8
                    go_wp2_with fail
                    go_region
                    all_goals
                      go_wp2
                      exact ⟨⟨i0 + 1, by omega, by go_num, (hM9.drewN _).other hVR hVg2 _, ((hV8.drewN _).set_ hlti _).eq (fun i _ => by rw [hxx]; exact rAt_step X Y W j i0 i), (hp8.drewN _).other (fun e => hVpV e.symm) _, (hP8.drewN _).other (by omega) _, below_set (below_drewN hb10 _) hVl _⟩, by simp [intOf]; omega⟩
              · obtain rfl : i0 = dn + 1 := by omega
                have hM8 := hM7.eq (A' := sAt X W (j + 1) 0 0) (fun i k hi _ => sAt_end X W j (dn + 1) i k hi)
                have hV8 := hV7.eq (a' := rAt X Y W (j + 1) 0) (fun i hi => rAt_end X Y W j (dn + 1) i hi)
                clear hM7 hV7 hp7
                go_wp2
                exact ⟨⟨j + 1, by omega, by go_num, hL1, hM8, hV8, hP7, hb9⟩, by simp [intOf]; omega⟩
        · obtain rfl : j = m := by omega
          have hall : Hid (ws.all leastB = true) := List.all_eq_true.2 fun x hx => by
            obtain ⟨i, hi, rfl⟩ := List.mem_iff_getElem.1 hx
            have := hL.out i (by omega)
            rw [List.getD, List.getElem?_eq_getElem hi] at this
            exact this
          have hM2 := hM1.eq (A' := fitM xs ys ws (dn + 1)) (fun i k _ hk => by
            unfold fitM mat0
            rw [if_pos hk, hx, ← hX.out, ← hW.out]
            unfold sAt
            rw [if_neg (by omega)])
          have hV4 := hV3.eq (a' := fun i => fitM xs ys ws (dn + 1) i (dn + 1)) (fun i _ => by
            unfold fitM mat0
            rw [if_neg (by omega), hx, ← hX.out, ← hY.out, ← hW.out]
            unfold rAt
            rw [if_neg (by omega)])
          have HS := fun cR cV => l06Solve_any (w.heap.size + 1) R V (dn + 1) cR cV g _ w4 (by omega) (by omega) hM2 hV4 hVR hVg.out hV1 (by omega)
          rw [← hGe.out] at HS
          clear hM1 hV3 hM2 hV4 hL hltj
          go_wp2_with fail
          refine (HS _ _).mono ?_
          rintro e w5 ⟨hb5, hS⟩
          clear HS
          have hz5 := hb5.size
          have hP5 := hP1.below hb5 (by omega)
          have hb6 := hb1.trans (hb5.mono (by omega))
          clear hP1 hb1
          have cP : w5.cell? ⟨w.heap.size, 0, none⟩ = some (.slice none 0 0) := hP5.cell 0
          have fP := hP5.frozen 0
          cases G with
          | none =>
            subst hS
            go_wp2
            refine bodyPost_ret (v := .tuple #[.agg #[.slice none 0 0], .bool false]) (by simp [results, Try.results10, go_sem, cP]) rfl ?_
            exact ⟨.inr ⟨hall.out, .inl ⟨hGe.out.symm, rfl⟩⟩, below_set hb6 (Nat.le_refl _) _⟩
          | some B =>
            obtain ⟨O, cO, rfl, hVO⟩ := hS
            obtain ⟨l, hl, hcn, hrd⟩ := hVO.reads
            have hOl := hVO.lt (by omega)
            have HC := l06ComplexN (some ⟨O, 0, none⟩) cO (O + 1) (dn + 1) l hl w5 hrd hOl (by omega) (by omega)
            replace hcn := Lib.hid hcn
            clear hVO hrd
            go_wp2_with fail
            (with_reducible refine HC.mono ?_)
            rintro e w6 ⟨g2, c2', rfl, hown, hb7⟩
            clear HC
            have hz6 := hb7.size
            obtain ⟨cs2, hBl, hs1, hs2, hc3⟩ := blk_of_row hown
            have hO2 := (own_row hown).wide (Nat.zero_le _) hBl.lt
            have HG := l02GiveN 0 g2 c2' (dn + 1) (reC l) (by simp [hl]) w6 hO2 (by omega) (by omega) hc3
            have hP6 := hP5.below hb7 (by omega)
            have hb8 := hb6.trans (hb7.mono (by omega))
            clear hP5 hown hBl hs1 hs2 hO2 cP fP hb6
            go_wp2_with fail
            (with_reducible refine HG.mono ?_)
            rintro e w7 ⟨hPol, hb9⟩
            clear HG
            have hz7 := hb9.size
            have hP7 := hP6.below hb9 (by omega)
            have cP : w7.cell? ⟨w.heap.size, 0, none⟩ = some (.slice none 0 0) := hP7.cell 0
            have fP := hP7.frozen 0
            have hb10 := hb8.trans (hb9.mono (by omega))
            clear hP6 hb8
            rcases hPol with ⟨hb, g4, c4, rfl, hc4, hO⟩ | ⟨hb, rfl⟩
            · have hb' := Lib.hid hb
              clear hb
              generalize hk : trimN (reC l) (dn + 1) = k at *
              replace hk := Lib.hid hk
              go_wp2
              refine bodyPost_ret (v := .tuple #[.agg #[.slice (some ⟨g4, 0, none⟩) k c4], .bool true]) (by simp [results, Try.results10, go_sem, cP]) rfl ?_
              refine ⟨.inr ⟨hall.out, .inr ⟨B, hGe.out.symm, l, hl, hcn.out, .inl ?_⟩⟩, below_set hb10 (Nat.le_refl _) _⟩
              rw [hk.out]
              exact ⟨hb'.out, g4, c4, rfl, hc4, (hO.keep fun g' b1 b2 _ => Below.heap_setCell _ _ _ _ (by simp; omega)).wide (by omega) (by simp)⟩
            · have hb' := Lib.hid hb
              clear hb
              go_wp2
              refine bodyPost_ret (v := .tuple #[.agg #[.slice none 0 0], .bool false]) (by simp [results, Try.results10, go_sem, cP]) rfl ?_
              exact ⟨.inr ⟨hall.out, .inr ⟨B, hGe.out.symm, l, hl, hcn.out, .inr ⟨hb'.out, rfl⟩⟩⟩, below_set hb10 (Nat.le_refl _) _⟩
end Go.Proofs.Ytakkmcplhihjiaa
