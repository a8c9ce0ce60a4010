/-
  Series of series, by words (impl.composeSeries, ComposeSeries).
-/
import Derived.Test.YtlilhebnbhlkhaaSeG
namespace Go.Proofs.Ytlilhebnbhlkhaa
open Go.RowKit

theorem MulR.det {a b o o' : List (Nat × Nat)} (h : MulR a b o) (h' : MulR a b o') : o = o' := by
  obtain ⟨h1, h2⟩ := h
  obtain ⟨k1, k2⟩ := h'
  refine eq_of_at (n := a.length) h1 k1 fun j hj => ?_
  have e1 := h2 j (by omega)
  rw [k2 j (by omega)] at e1
  exact (Option.some.inj e1).symm
/-- What a series of a series is after so many steps. -/
def ComR (a b : List (Nat × Nat)) (n : Nat) : Nat → List (Nat × Nat) → Prop
  | 0, s => s = (List.replicate n (0, 0)).set 0 (a.getD (n - 1) (0, 0))
  | j + 1, s => ∃ s0 m r, ComR a b n j s0 ∧ MulR s0 b m ∧ plusW (m.getD 0 (0, 0)) (a.getD (n - 2 - j) (0, 0)) = some r ∧ s = m.set 0 r
theorem ComR.len {a b : List (Nat × Nat)} {n : Nat} : ∀ {j : Nat} {s : List (Nat × Nat)}, ComR a b n j s → s.length = n
  | 0, s, h => by
    rw [ComR] at h
    rw [h]; simp
  | j + 1, s, h => by
    obtain ⟨s0, m, r, h1, h2, -, rfl⟩ := h
    rw [List.length_set, h2.len, h1.len]
theorem ComR.det {a b : List (Nat × Nat)} {n : Nat} : ∀ {j : Nat} {s s' : List (Nat × Nat)}, ComR a b n j s → ComR a b n j s' → s = s'
  | 0, _, _, h, h' => by
    rw [ComR] at h h'
    rw [h, h']
  | j + 1, _, _, h, h' => by
    obtain ⟨s0, m, r, h1, h2, h3, rfl⟩ := h
    obtain ⟨s1, m', r', k1, k2, k3, rfl⟩ := h'
    obtain rfl := h1.det k1
    obtain rfl := h2.det k2
    rw [h3] at k3
    cases k3
    rfl
theorem ComR.upto {a b : List (Nat × Nat)} {n : Nat} : ∀ {m : Nat} {s : List (Nat × Nat)}, ComR a b n m s → ∀ j, j ≤ m → ∃ s', ComR a b n j s'
  | 0, s, h, j, hj => by
    obtain rfl : j = 0 := by omega
    exact ⟨s, h⟩
  | m + 1, s, h, j, hj => by
    by_cases e : j = m + 1
    · subst e; exact ⟨s, h⟩
    · obtain ⟨s0, -, -, h1, -⟩ := h
      exact h1.upto j (by omega)
theorem ComR.step {a b : List (Nat × Nat)} {n m j : Nat} {o s : List (Nat × Nat)} (h : ComR a b n m o) (hj : j < m) (hs : ComR a b n j s) : ∃ q r, MulR s b q ∧ plusW (q.getD 0 (0, 0)) (a.getD (n - 2 - j) (0, 0)) = some r ∧ ComR a b n (j + 1) (q.set 0 r) := by
  obtain ⟨s', h1⟩ := h.upto (j + 1) (by omega)
  obtain ⟨s0, q, r, k1, k2, k3, k4⟩ := h1
  obtain rfl := k1.det hs
  exact ⟨q, r, k2, k3, _, _, _, k1, k2, k3, rfl⟩
set_option maxRecDepth 100000 in
set_option maxHeartbeats 1600000 in
theorem composeSeries_w (A A' : Option Addr) (c c' n : Nat) (a b o : List (Nat × Nat)) (ha : a.length = n) (hb : b.length = n) (hn : 1 ≤ n ∧ n ≤ 16) (h : ComR a b n (n - 1) o) (w : World) (hr : Reads w w.heap.size 1 A n (cplx a)) (hr' : Reads w w.heap.size 1 A' n (cplx b)) :
    Calls Try.prog 73 #[.slice A n c, .slice A' n c'] w fun e w' => ∃ g c'', e = .returned (.slice (some ⟨g, 0, none⟩) n c'') ∧ n ≤ c'' ∧ CV w' g o ∧ w.heap.size ≤ g ∧ Below w.heap.size w w' := by
  obtain ⟨i0, hi, hz0, hz1, hz2⟩ := info_parts infoC
  obtain ⟨hn1, hn2⟩ := hn
  obtain ⟨N, hN⟩ : ∃ N, N + 1 = n := ⟨n - 1, by omega⟩
  have hwn : IntKind.i64.wrap ((n : Int) - 1) = (N : Int) := by
    rw [show (n : Int) - 1 = (N : Int) by omega]
    exact IntWalk.i64_in _ (by omega)
  have hwm : IntKind.i64.wrap ((n : Int) - 2) = (n : Int) - 2 := IntWalk.i64_in _ (by omega)
  obtain ⟨ad, rfl, hadB, hc1⟩ := comp_at (l := a) (k := N) (by rw [ha]; exact hr) (by omega)
  have hn3 : (0 : Int) < (n : Int) := by omega
  have hn4 : 0 < n := by omega
  have hn5 : (N : Int) < (n : Int) := by omega
  have hn6 : (0 : Int) ≤ (N : Int) := by omega
  have hn7 : N < n := by omega
  have h0 : Hid (ComR a b n 0 ((List.replicate n ((0, 0) : Nat × Nat)).set 0 ((a.getD N (0, 0)).1, (a.getD N (0, 0)).2))) := by
    show _ = _
    rw [show n - 1 = N by omega]
  rw [show n - 1 = N by omega] at h
  replace h := Lib.hid h
  generalize a.getD N (0, 0) = Y0 at *
  go_enter Try.func73, Try.ntmps73
  go_wp2_with (at_make; refine wpList_make_full _ rfl _ _ _ rfl w.heap.size 26 i0 (.complex .f32 0 0) 1 Try.underlying24 hi hz0 hz1 .i64 .i64 _ _ n rfl rfl (by omega) (by omega) (by rw [hz2]; omega) (by unfold maxLen; omega) (by omega) ?_; intro w2 hown2 hg2; have hb3 : Below w.heap.size w w2 := (Below.refl _ _).grown hg2 (Nat.le_refl _) (by simp); rw [made_zero] at hown2; have hc2 := (hb3.cell (p := ad.add N) (by rw [block_of_add]; omega)).trans hc1; have hV2 := CV.of_row hown2; have hfr := hV2.frozen 0; have hc3 := hV2.cell (i := 0) (by simp; omega); clear hown2 hg2)
  obtain ⟨O, hO⟩ : ∃ O, O = w.heap.size := ⟨_, rfl⟩
  rw [← hO] at hV2 ⊢
  have hV4 := CV.set hV2 (i := 0) (by simp; omega) Y0.1 Y0.2
  have hOl : w.heap.size ≤ O := by omega
  have hb5 := below_set hb3 (a := ⟨O, 0, none⟩) hOl (.complex .f32 Y0.1 Y0.2)
  generalize (List.replicate n ((0, 0) : Nat × Nat)).set 0 (Y0.1, Y0.2) = s0 at *
  clear hb3 hO hfr hc3 hV2 hc2 hc1
  go_loopw [6, 7] (fun v q wr => ∃ j : Nat, j ≤ N ∧ q = .int .i64 ((n : Int) - 2 - (j : Int)) ∧ (∃ (g cg : Nat) (s : List (Nat × Nat)), v = .slice (some ⟨g, 0, none⟩) n cg ∧ n ≤ cg ∧ w.heap.size ≤ g ∧ Hid (ComR a b n j s) ∧ CV wr g s) ∧ Below w.heap.size w wr) (fun _ q _ => (intOf q + 1).toNat)
  case atStart => exact ⟨0, Nat.zero_le _, by simp, ⟨O, n, s0, rfl, Nat.le_refl _, hOl, h0, hV4⟩, hb5⟩
  case round =>
    obtain ⟨j, hj, rfl, ⟨g, cg, s, rfl, hcg, hgl, hC, hVs⟩, hbr⟩ := hrel
    obtain ⟨wo, rfl⟩ : ∃ wo : World, wo = wr := ⟨_, rfl⟩
    clear hV4 hb5 h0
    have zo := hbr.size
    by_cases hlt : j < N
    · obtain ⟨q, r, g1, g2, g3⟩ := h.out.step hlt hC.out
      have hsl := hC.out.len
      have HM := mulSeries_w (some ⟨g, 0, none⟩) A' cg c' n s b q hsl hb ⟨hn1, hn2⟩ g1 wo (hVs.rd hsl) ((hr'.below hbr).more zo)
      have H1 := plusW_calls g2
      have hql : q.length = n := by rw [g1.len, hsl]
      have hkk : (n : Int) - 2 - (j : Int) = ((n - 2 - j : Nat) : Int) := by omega
      have hg3 : Hid (ComR a b n (j + 1) (q.set 0 (r.1, r.2))) := g3
      have f1 : ((n - 2 - j : Nat) : Int) < (n : Int) := by omega
      have f2 : (0 : Int) ≤ ((n - 2 - j : Nat) : Int) := by omega
      have f3 : n - 2 - j < n := by omega
      have f4 : ((n - 2 - j : Nat) : Int) ≥ 0 := by omega
      rw [hkk]
      clear g1 g2 g3 hC hVs
      generalize hK : n - 2 - j = K at *
      replace hK := Lib.hid hK
      go_wp2_with fail
      (with_reducible refine HM.mono ?_)
      rintro e w3 ⟨gq, cq, rfl, hcq, hVq, hgq, hb6⟩
      have hb7 := hbr.trans (hb6.mono zo)
      have z7 := hb7.size
      obtain ⟨ad2, e2, -, hc1⟩ := comp_at (l := a) (k := K) (by rw [ha]; exact hr.below hb7) (by omega)
      cases e2
      have hc2 := hVq.cell (i := 0) (by omega)
      have hfo := hVq.frozen 0
      have hVd := Lib.hid (CV.set (CV.drew hVq) (i := 0) (by omega) r.1 r.2)
      have hbn := Lib.hid (below_set (below_drew hb7) (a := ⟨gq, 0, none⟩) (show w.heap.size ≤ gq by omega) (.complex .f32 r.1 r.2))
      clear HM hVq hr hr'
      generalize a.getD K (0, 0) = X1 at *
      generalize q.getD 0 (0, 0) = X2 at *
      go_wp2_with fail
      refine wp_region_still_tail 10 (by kernel_rfl) (by kernel_rfl) ?_
      simp only [List.take_succ_cons, List.take_zero, List.drop_succ_cons, List.drop_zero]
      repeat still_step
      still_call (H1 _)
      repeat still_step
      refine wpStill_nil ?_
      change wpList _ _ _ _ _ w3.drew
      go_wp2
      exact ⟨⟨j + 1, by omega, by have := hK.out; go_num, ⟨gq, cq, _, rfl, hcq, by omega, hg3, hVd.out⟩, hbn.out⟩, by have := hK.out; simp [intOf]; try omega⟩
    · obtain rfl : j = N := by omega
      have he := hC.out.det h.out
      subst he
      have hge : ¬ (n : Int) - 2 - (j : Int) ≥ 0 := by omega
      clear hr hr' h hC
      go_wp2
      go_ret
      exact ⟨g, cg, rfl, hcg, hVs, hgl, hbr⟩
theorem composeSeries_ok (A A' : Option Addr) (c c' n : Nat) (a b o : List (Nat × Nat)) (ha : Ser a n) (hb : Ser b n) (ho : Ser o n) (h0 : b.getD 0 (0, 0) = (0, 0)) (h : ComR a b n (n - 1) o) (w : World) (hr : Reads w w.heap.size 1 A n (cplx a)) (hr' : Reads w w.heap.size 1 A' n (cplx b)) :
    Calls Try.prog 31 #[.slice A n c, .slice A' n c'] w fun e w' => ∃ g c'', e = .returned (.tuple #[.slice (some ⟨g, 0, none⟩) n c'', .bool true]) ∧ n ≤ c'' ∧ CV w' g o ∧ w.heap.size ≤ g ∧ Below w.heap.size w w' := by
  have HS := areSeries_y A A' c c' w.heap.size n a b ha hb w hr hr' (Nat.le_refl _)
  have HM := fun (W : World) (hW : Below w.heap.size w W) => composeSeries_w A A' c c' n a b o ha.len hb.len ⟨ha.n1, ha.n2⟩ h W ((hr.below hW).more hW.size) ((hr'.below hW).more hW.size)
  have hn1 := ha.n1
  have hbl := hb.len
  obtain ⟨q1, q2, q3⟩ := one_order
  have hn3 : (0 : Int) < (n : Int) := by omega
  have hn4 : 0 < n := by omega
  clear ha hb h hr
  go_enter Try.func31, Try.ntmps31
  go_wp2_with fail
  refine HS.mono ?_
  rintro e w1 ⟨rfl, hb1⟩
  have HM1 := HM w1 hb1
  obtain ⟨ad, rfl, hadB, hc1⟩ := comp_at (l := b) (k := 0) (by rw [hbl]; exact hr'.below hb1) (by omega)
  rw [h0, adz] at hc1
  clear HS HM hr'
  go_wp2_with fail
  (with_reducible refine HM1.mono ?_)
  rintro e w2 ⟨g, c2, rfl, hc2, hV, hg, hb2⟩
  have HC := checkedSeries_y (some ⟨g, 0, none⟩) c2 w2.heap.size n o ho w2 (hV.rd ho.len) (Nat.le_refl _)
  clear HM1 hc1
  go_wp2_with fail
  refine HC.mono ?_
  rintro e w3 ⟨rfl, hb3⟩
  have z1 := hb1.size
  go_wp2
  go_ret2
  exact ⟨g, c2, rfl, hc2, hV.below hb3 hV.lt, by omega, hb1.trans ((hb2.trans (hb3.mono hb2.size)).mono z1)⟩
/-- A list's beginning, zeros behind it. -/
def trK (o : List (Nat × Nat)) (n k : Nat) : List (Nat × Nat) := o.take k ++ List.replicate (n - k) (0, 0)
theorem trK_len {o : List (Nat × Nat)} {n k : Nat} (h : o.length = n) (hk : k ≤ n) : (trK o n k).length = n := by
  unfold trK
  simp; omega
theorem trK_at {o : List (Nat × Nat)} {n k : Nat} (h : o.length = n) (hk : k ≤ n) (j : Nat) : (trK o n k).getD j (0, 0) = if j < k then o.getD j (0, 0) else (0, 0) := by
  unfold trK
  rw [List.getD]
  split
  · rename_i hj
    rw [List.getElem?_append_left (by simp; omega), List.getElem?_take, if_pos hj, List.getD]
  · rename_i hj
    rw [List.getElem?_append_right (by simp; omega)]
    by_cases e : j < n
    · rw [List.getElem?_replicate, if_pos (by simp; omega)]; rfl
    · rw [List.getElem?_eq_none (by simp; omega)]; rfl
theorem zero_fin : finCB (0, 0) = true := by decide +kernel
theorem trK_ser {o : List (Nat × Nat)} {n k : Nat} (h : Ser o n) (hk : k ≤ n) : Ser (trK o n k) n := by
  refine ⟨trK_len h.len hk, h.n1, h.n2, ?_⟩
  unfold trK
  rw [List.all_append, Bool.and_eq_true]
  refine ⟨List.all_eq_true.2 fun x hx => List.all_eq_true.1 h.fin x (List.mem_of_mem_take hx), List.all_eq_true.2 fun x hx => ?_⟩
  rw [List.eq_of_mem_replicate hx]
  exact zero_fin
/-- The series that turns a series back. -/
structure TurnR (a o : List (Nat × Nat)) (n : Nat) : Prop where
  len : o.length = n
  z : o.getD 0 (0, 0) = (0, 0)
  o1 : quoW (1065353216, 0) (1065353216, 0) = some (o.getD 1 (0, 0))
  at_ : ∀ k, 2 ≤ k → k < n → ∃ m d, ComR a (trK o n k) n (n - 1) m ∧ Ser m n ∧ minusW (0, 0) (m.getD k (0, 0)) = some d ∧ quoW d (1065353216, 0) = some (o.getD k (0, 0))
end Go.Proofs.Ytlilhebnbhlkhaa
