/-
  Powers of series, by words (impl.PowerSeries).
-/
import Derived.Test.YtlilhebnbhlkhaaSeF
namespace Go.Proofs.Ytlilhebnbhlkhaa
open Go.RowKit

structure TimR (p : Nat × Nat) (a o : List (Nat × Nat)) : Prop where
  len : o.length = a.length
  at_ : ∀ k, k < o.length → mulW p (a.getD k (0, 0)) = some (o.getD k (0, 0))
set_option maxRecDepth 100000 in
set_option maxHeartbeats 1600000 in
theorem powerSeries_ok (A : Option Addr) (c n : Nat) (p : Nat × Nat) (a s i q l t o : List (Nat × Nat)) (hp : finCB p = true) (ha : Ser a n) (hs : Ser s n) (hi : Ser i n) (hq : Ser q n) (hl : Ser l n) (ht : Ser t n) (ho : Ser o n) (h0 : a.getD 0 (0, 0) = (1065353216, 0)) (ht0 : t.getD 0 (0, 0) = (0, 0)) (h1 : SlopeR a s) (h2 : InvR a i) (h3 : MulR s i q) (h4 : RiseR q l) (h5 : TimR p l t) (h6 : ExpR t o) (w : World) (hr : Reads w w.heap.size 1 A n (cplx a)) :
    Calls Try.prog 28 #[.slice A n c, .complex .f32 p.1 p.2] w fun e w' => ∃ g c'', e = .returned (.tuple #[.slice (some ⟨g, 0, none⟩) n c'', .bool true]) ∧ n ≤ c'' ∧ CV w' g o ∧ w.heap.size ≤ g ∧ Below w.heap.size w w' := by
  obtain ⟨i0, hi', hz0, hz1, hz2⟩ := info_parts infoC
  have HL := logSeries_ok A c n a s i q l ha hs hi hq hl h0 h1 h2 h3 h4 w hr
  have hn1 := ha.n1
  have hn2 := ha.n2
  have hll := hl.len
  obtain ⟨htl, hat⟩ := h5
  rw [hll] at htl
  have HE := fun (W : World) (g c2 : Nat) (hV : Reads W W.heap.size 1 (some ⟨g, 0, none⟩) n (cplx t)) => expSeries_ok (some ⟨g, 0, none⟩) c2 n t o ht ho ht0 h6 W hV
  have HF := fun (W : World) => allFinite_b (some ⟨W.heap.size, 0, none⟩) 1 (W.heap.size + 1) [p] (W.alloc (.cells #[.complex .f32 p.1 p.2] 26)) (reads_new W (cplx [p]) 26) (by simp) (by simp)
  have hpa : [p].all finCB = true := by simp [hp]
  rw [hpa] at HF
  replace hat := Lib.hid hat
  clear h0 h1 h2 h3 h4 h6 hr ha hs hi hq hpa
  go_enter Try.func28, Try.ntmps28
  go_wp2_with fail
  (with_reducible refine HL.mono ?_)
  rintro e w1 ⟨gl, cl, rfl, hcl, hVl, hgl, hb1⟩
  have HF1 := HF w1
  have z1 := hb1.size
  have hRl := hVl.rd hll
  clear HL HF
  go_wp2_with fail
  refine HF1.mono ?_
  rintro e w2 ⟨rfl, hb2⟩
  clear HF1
  have hb3 : Below w1.heap.size w1 w2 := ((Below.refl _ _).alloc (Nat.le_refl _) _).trans (hb2.mono (by simp))
  have hb4 := hb1.trans (hb3.mono z1)
  have z3 := hb3.size
  have z2 := hb4.size
  clear hb2 hVl
  go_wp2
  have hown0 : (w2.alloc (.cells #[] 26)).ownsRow w1.heap.size 26 1 (.slice (some ⟨w2.heap.size, 0, none⟩) 0 0) 0 (cplx (t.take 0)) := World.ownsRow_made w2 #[] 0 z3 (by simp [maxLen]) rfl
  have hb0 : Below w1.heap.size w1 (w2.alloc (.cells #[] 26)) := hb3.alloc z3 _
  go_loopw [8, 10, 27] (fun v _ q wr => ∃ k : Nat, k ≤ n ∧ q = .int .i64 (k : Int) ∧ wr.ownsRow w1.heap.size 26 1 v k (cplx (t.take k)) ∧ Below w1.heap.size w1 wr) (fun _ _ q _ => n - (intOf q).toNat)
  case atStart => exact ⟨0, Nat.zero_le _, rfl, hown0, hb0⟩
  case round =>
    obtain ⟨k, hk, rfl, hown, hbr⟩ := hrel
    obtain ⟨wo, rfl⟩ : ∃ wo : World, wo = wr := ⟨_, rfl⟩
    clear hown0 hb0 hb3 z3
    have zo := hbr.size
    by_cases hlt : k < n
    · obtain ⟨Ao, co, rfl, -, hko, -⟩ := Own.of_row hown (Nat.le_refl _)
      have HM := mulW_calls (hat.out k (by omega))
      obtain ⟨ad, e1, -, hc1⟩ := comp_at (l := l) (k := k) (by rw [hll]; exact hRl.below hbr) (by omega)
      cases e1
      rw [add0] at hc1
      have hk1 : (k : Int) < (n : Int) := by omega
      have hk0 : (0 : Int) ≤ (k : Int) := by omega
      have hsn := Lib.hid (take_snoc_c (lo := t) (k := k) (by omega))
      clear hat HE hRl
      generalize t.getD k (0, 0) = Y at *
      generalize l.getD k (0, 0) = X at *
      go_wp2_with fail
      refine (HM _).mono ?_
      rintro e w3 ⟨rfl, rfl⟩
      go_wp2_with (at_builtin; refine wpList_append_any _ rfl (.tmp 31) (.tmp 35) _ rfl w1.heap.size 26 i0 _ 1 8 Try.underlying24 hi' hz0 hz1 hz2 rfl (by omega) (.slice Ao k co) k (cplx (t.take k)) rfl (hown.alloc _) (w3.heap.size + 1) (some ⟨w3.heap.size, 0, none⟩) 1 1 [.complex .f32 Y.1 Y.2] rfl (reads_new w3 [_] _) (one_cplx Y.1 Y.2) (by simp only [maxLen]; omega) (by omega) (by simp; omega) ?_; intro v1 w4 hown3 hg3 hat3)
      have hb5 : Below w1.heap.size w3 w4 := ((Below.refl _ _).alloc (by omega) _).grown hg3 (by simp; omega) (fun j hj => (hown.lt j hj).1)
      rw [hsn.out] at hown3
      have hb6 := hbr.trans hb5
      exact ⟨⟨k + 1, by omega, by go_num, hown3, hb6⟩, by simp [intOf]; omega⟩
    · obtain rfl : n = k := by omega
      obtain ⟨g, cg, rfl, hlg⟩ := World.ownsRow.form hown (by omega)
      rw [List.take_of_length_le (by omega)] at hown
      have hV := CV.of_row hown
      have HE1 := HE wo g cg (hV.rd htl)
      have hb5 := hb1.trans (hbr.mono z1)
      clear hat hRl hown HE hbr
      go_wp2_with fail
      (with_reducible refine HE1.mono ?_)
      rintro e w5 ⟨go, co, rfl, hco, hVo, hgo, hb6⟩
      have z5 := hb5.size
      go_wp2
      go_ret2
      exact ⟨go, co, rfl, hco, hVo, by omega, hb5.trans (hb6.mono z5)⟩
end Go.Proofs.Ytlilhebnbhlkhaa
