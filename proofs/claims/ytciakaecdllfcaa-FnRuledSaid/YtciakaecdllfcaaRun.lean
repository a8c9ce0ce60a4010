/-
  Contracts: slices.Clone, slices.Clip of complex numbers; RunRule at the rule and the beginning of the law FnRuled.
-/
import Derived.Test.YtciakaecdllfcaaFin
namespace Go.Proofs.Ytciakaecdllfcaa
open Go.RowKit

theorem infoC : (Try.prog.info? 37).map (fun i => (i.zero, i.size, i.bytes)) = some (some (.complex .f32 0 0), 1, 8) := by kernel_rfl
theorem cplx_one (l : List (Nat × Nat)) : ∀ u ∈ cplx l, u.oneCell' = true := by
  intro u hu
  obtain ⟨z, -, rfl⟩ := List.mem_map.1 hu
  rfl
theorem one_c (x y : Nat) : ∀ u ∈ [Value.complex .f32 x y], u.oneCell' = true := by intro u hu; simp at hu; subst hu; rfl
theorem info_partsC {P : Program} {e : TypeId} {z : Value} {s b : Nat} (h : (P.info? e).map (fun i => (i.zero, i.size, i.bytes)) = some (some z, s, b)) :
    ∃ i, P.info? e = some i ∧ i.zero = some z ∧ i.size = s ∧ i.bytes = b := by
  cases hi : P.info? e with
  | none => rw [hi] at h; cases h
  | some i =>
    rw [hi] at h
    simp at h
    exact ⟨i, rfl, h.1, h.2.1, h.2.2⟩

theorem cloneC_any (A : Option Addr) (c B : Nat) (l : List (Nat × Nat)) (w : World) (hr : Reads w B 1 A l.length (cplx l)) (hB : B ≤ w.heap.size) (hn : l.length ≤ 1048576) :
    Calls Try.prog 41 #[.slice A l.length c] w fun e w' => ∃ v, e = .returned v ∧ w'.ownsRow w.heap.size 37 1 v l.length (cplx l) ∧ Below w.heap.size w w' := by
  obtain ⟨i0, hi, hz0, hz1, hz2⟩ := info_partsC infoC
  have kn := fun (w : World) (a : Option Addr) (l c n' c' : Nat) => Lib.run_eql_slice_nil (P := Try.prog) w 34 37 a l c n' c' Try.underlying34
  rcases A with _ | ad
  · have hz : l.length = 0 := by
      rcases Nat.eq_zero_or_pos l.length with h | h
      · exact h
      · obtain ⟨ad, h, _⟩ := hr.2 h; cases h
    obtain rfl : l = [] := List.eq_nil_of_length_eq_zero hz
    clear hz hr
    go_enter Try.func41, Try.ntmps41
    go_wp2_with fail
    go_ret
    exact ⟨_, rfl, World.ownsRow_nil _ _ _ _, Below.refl _ _⟩
  · have hb0 : Below w.heap.size w (w.alloc (.cells #[] 37)) := (Below.refl _ _).alloc (Nat.le_refl _) _
    have hown : (w.alloc (.cells #[] 37)).ownsRow w.heap.size 37 1 (.slice (some ⟨w.heap.size, 0, none⟩) 0 0) 0 [] := World.ownsRow_made w #[] 0 (Nat.le_refl _) (by simp [maxLen]) rfl
    go_enter Try.func41, Try.ntmps41
    go_wp2_with (at_builtin; refine wpList_append_any _ rfl (.tmp 5) (.tmp 6) _ rfl w.heap.size 37 i0 _ 1 8 Try.underlying34 hi hz0 hz1 hz2 rfl (by omega) (.slice (some ⟨w.heap.size, 0, none⟩) 0 0) 0 [] rfl hown B (some ad) l.length c (cplx l) rfl (hr.below (hb0.mono hB)) (cplx_one l) (by simp only [maxLen]; omega) (by omega) (by simp) ?_; intro v1 w1 hown1 hg1 hat1)
    go_ret
    refine ⟨_, rfl, by simpa using hown1, hb0.grown hg1 (by simp) (fun k hk => ?_)⟩
    simp [Value.ownBlock] at hk
    omega

theorem clipC_any (A : Option Addr) (n c : Nat) (hn : n ≤ c) (w : World) :
    Calls Try.prog 45 #[.slice A n c] w fun e w' => e = .returned (.slice A n n) ∧ w = w' := by
  go_enter Try.func45, Try.ntmps45
  go_wp2
  go_ret
  exact ⟨rfl, rfl⟩

/-- The numbers that the law's rule makes. -/
def fibs : List Nat := [1065353216, 1065353216, 1073741824, 1077936128, 1084227584, 1090519040, 1095761920, 1101529088]
def fibC : List (Nat × Nat) := fibs.map fun x => (x, 0)
def accB (k j : Nat) : Nat := if j = 0 then 0 else if j = 1 then fibs.getD (k - 1) 0 else fibs.getD k 0
theorem run_all : ((List.range 6).all fun k => (List.range 2).all fun j => decide (mulB (1065353216, 0) (fibs.getD (k + 2 - 1 - j) 0, 0) = some (fibs.getD (k + 2 - 1 - j) 0, 0)) && decide (plusB (accB (k + 2) j, 0) (fibs.getD (k + 2 - 1 - j) 0, 0) = some (accB (k + 2) (j + 1), 0))) = true := by decide +kernel
theorem run_at {k j : Nat} (hk : 2 ≤ k) (hk8 : k < 8) (hj : j < 2) : mulB (1065353216, 0) (fibs.getD (k - 1 - j) 0, 0) = some (fibs.getD (k - 1 - j) 0, 0) ∧ plusB (accB k j, 0) (fibs.getD (k - 1 - j) 0, 0) = some (accB k (j + 1), 0) := by
  have h := List.all_eq_true.1 run_all (k - 2) (List.mem_range.2 (by omega))
  have h2 := List.all_eq_true.1 h j (List.mem_range.2 hj)
  simp only [Bool.and_eq_true, decide_eq_true_eq] at h2
  rw [show k - 2 + 2 = k by omega] at h2
  exact h2
theorem fibs_fin : FinC fibC := by unfold FinC Fin32; decide +kernel
theorem fibC_take_len {k : Nat} (h : k ≤ 8) : (fibC.take k).length = k := by rw [List.length_take]; show min k 8 = k; omega
theorem fibC_take_at {k i : Nat} (h : k ≤ 8) (hi : i < k) : ((fibC.take k).getD i (0, 0)).1 = fibs.getD i 0 ∧ ((fibC.take k).getD i (0, 0)).2 = 0 := by
  have hl : fibs.length = 8 := rfl
  rw [List.getD, List.getElem?_take, if_pos hi]
  simp [fibC, List.getD, List.getElem?_eq_getElem (show i < fibs.length by omega)]
theorem fibC_next {k : Nat} (h : k < 8) : fibC.take (k + 1) = fibC.take k ++ [(accB k 2, 0)] := by
  have hl : fibC.length = 8 := rfl
  rw [List.take_succ_eq_append_getElem (by omega)]
  simp [fibC, accB, List.getD, List.getElem?_eq_getElem (show k < fibs.length from h)]

set_option maxHeartbeats 800000 in
theorem runRule_any (A A' : Option Addr) (c c' B : Nat) (w : World) (hr : Reads w B 1 A 2 (cplx [(1065353216, 0), (1065353216, 0)])) (hr' : Reads w B 1 A' 2 (cplx [(1065353216, 0), (1065353216, 0)])) (hB : B ≤ w.heap.size) :
    Calls Try.prog 19 #[.slice A 2 c, .slice A' 2 c', .int .i64 8] w fun e w' => ∃ A2 c2, e = .returned (.tuple #[.slice A2 8 c2, .bool true]) ∧ Own w' w.heap.size w'.heap.size 37 A2 (cplx fibC) ∧ Below w.heap.size w w' := by
  obtain ⟨i0, hi, hz0, hz1, hz2⟩ := info_partsC infoC
  have hf : FinC [(1065353216, 0), (1065353216, 0)] := by unfold FinC Fin32; decide +kernel
  have H := areSeries_any A A' c c' B [(1065353216, 0), (1065353216, 0)] [(1065353216, 0), (1065353216, 0)] hf hf w hr hr' hB (by simp) rfl
  have HI := within_any 8 1 16 true (by decide)
  clear hf
  go_enter Try.func19, Try.ntmps19
  go_wp2_with fail
  refine H.mono ?_
  rintro e w1 ⟨rfl, hb1⟩
  go_wp2_with fail
  refine (HI _).mono ?_
  rintro e w' ⟨rfl, rfl⟩
  go_wp2_with fail
  refine (cloneC_any A' c' B [(1065353216, 0), (1065353216, 0)] w1 (hr'.below (hb1.mono hB)) (Nat.le_trans hB hb1.size) (by simp)).mono ?_
  rintro e w2 ⟨v, rfl, hown2, hb2⟩
  have hb3 := hb1.trans (hb2.mono hb1.size)
  replace hown2 := ownsRow_base hown2 hb1.size
  clear H HI hb1 hb2 hr'
  go_wp2_with fail
  go_loopw [8] (fun v wr => ∃ k : Nat, 2 ≤ k ∧ k ≤ 8 ∧ wr.ownsRow w.heap.size 37 1 v k (cplx (fibC.take k)) ∧ Below w.heap.size w wr) (fun v _ => 8 - lenOf v)
  case atStart => exact ⟨2, Nat.le_refl _, by omega, hown2, hb3⟩
  case round =>
    obtain ⟨k, hk2, hk8, hown, hbr⟩ := hrel
    obtain ⟨Ao, co, rfl, -, hko, hO⟩ := Own.of_row hown (Nat.le_refl _)
    by_cases hlt : k < 8
    · obtain ⟨wo, rfl⟩ : ∃ wo : World, wo = wr := ⟨_, rfl⟩
      have hd8 : decide ((k : Int) < 8) = true := by simp; omega
      have hE := Lib.hid (fibC_next hlt)
      have hXL := Lib.hid (fibC_take_len hk8)
      have hXA := Lib.hid (fun i (hi : i < k) => fibC_take_at hk8 hi)
      generalize fibC.take k = X at *
      go_wp2_with fail
      go_loop [9, 29] (fun s i => ∃ j : Nat, j ≤ 2 ∧ i = .int .i64 j ∧ s = .complex .f32 (accB k j) 0) (fun _ i => 2 - (intOf i).toNat)
      case atStart => exact ⟨0, Nat.zero_le _, rfl, rfl⟩
      case round =>
        obtain ⟨j, hj, rfl, rfl⟩ := hrel
        by_cases hlt2 : j < 2
        · obtain ⟨ad, rfl, hab, hc1⟩ := comp_at (l := [(1065353216, 0), (1065353216, 0)]) (hr.below (hbr.mono hB)) hlt2
          have e1 : (([(1065353216, 0), (1065353216, 0)] : List (Nat × Nat)).getD j (0, 0)).1 = 1065353216 ∧ (([(1065353216, 0), (1065353216, 0)] : List (Nat × Nat)).getD j (0, 0)).2 = 0 := by
            rcases (by omega : j = 0 ∨ j = 1) with rfl | rfl <;> exact ⟨rfl, rfl⟩
          rw [e1.1, e1.2] at hc1
          have hO2 : Reads wo wo.heap.size 1 Ao X.length (cplx X) := by have := hO.reads; rwa [cplx_len] at this
          obtain ⟨ad2, rfl, hab2, hc2⟩ := comp_at (k := k - 1 - j) hO2 (by have := hXL.out; omega)
          rw [(hXA.out _ (by omega)).1, (hXA.out _ (by omega)).2] at hc2
          have hM := mul_any _ _ _ _ _ _ (run_at hk2 hlt hlt2).1
          have hP := plus_any _ _ _ _ _ _ (run_at hk2 hlt hlt2).2
          clear hO2 hr hO e1
          generalize fibs.getD (k - 1 - j) 0 = y at *
          generalize hz : accB k (j + 1) = z at *
          have HZ := Lib.hid hz
          clear hz
          generalize accB k j = x at *
          go_wp2_with fail
          refine (hM _).mono ?_
          rintro e w' ⟨rfl, rfl⟩
          go_wp2_with fail
          refine (hP _).mono ?_
          rintro e w' ⟨rfl, rfl⟩
          go_wp2
          go_round
          case rel => exact ⟨j + 1, by omega, by go_num, by rw [HZ.out]⟩
          case measure => simp [intOf]; omega
        · obtain rfl : j = 2 := by omega
          clear hO hr
          generalize accB k 2 = y at *
          go_wp2_with (at_builtin; refine wpList_append_any _ rfl (.tmp 47) (.tmp 49) _ rfl w.heap.size 37 i0 _ 1 8 Try.underlying34 hi hz0 hz1 hz2 rfl (by omega) (.slice Ao k co) k (cplx X) rfl (hown.alloc _) (wo.heap.size + 1) (some ⟨wo.heap.size, 0, none⟩) 1 1 [.complex .f32 y 0] rfl (reads_one wo _ _) (one_c y 0) (by simp only [maxLen]; omega) (by omega) (by simp; have := hbr.size; omega) ?_; intro v1 w1 hown1 hg1 hat1)
          have hb1 : Below w.heap.size w w1 := (hbr.alloc hbr.size _).grown hg1 (by simp; have := hbr.size; omega) (fun j hj => (hown.lt j hj).1)
          have hv1 : ∃ A1 c1, v1 = .slice A1 (k + 1) c1 := by
            obtain ⟨A1, c1, h, -⟩ := Own.of_row hown1 (Nat.le_refl _)
            exact ⟨A1, c1, h⟩
          obtain ⟨A1, c1, rfl⟩ := hv1
          clear hg1 hat1 hown
          go_wp2
          go_roundw
          case rel => exact ⟨k + 1, by omega, by omega, by rw [hE.out]; simpa [cplx] using hown1, hb1⟩
          case measure => simp [lenOf]; omega
    · obtain rfl : k = 8 := by omega
      have hE : fibC.take 8 = fibC := rfl
      rw [hE] at hO
      have hl8 : fibC.length = 8 := rfl
      clear hr hown
      go_wp2_with fail
      refine (clipC_any Ao 8 co hko _).mono ?_
      rintro e w' ⟨rfl, rfl⟩
      go_wp2_with fail
      refine (checkedSeries_any Ao 8 _ fibC fibs_fin wr (hO.reads' (Nat.le_refl _) (by simp)) (Nat.le_refl _) (by omega)).mono ?_
      rintro e w3 ⟨rfl, hb4⟩
      go_wp2
      go_ret2
      exact ⟨Ao, 8, rfl, (hO.below hb4 (Nat.le_refl _)).wide (Nat.le_refl _) hb4.size, hbr.trans (hb4.mono hbr.size)⟩
end Go.Proofs.Ytciakaecdllfcaa
