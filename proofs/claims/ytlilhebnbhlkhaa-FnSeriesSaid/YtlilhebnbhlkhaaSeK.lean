/-
  Values of series (impl.SeriesAt, SeriesShared).
-/
import Derived.Test.YtlilhebnbhlkhaaSeJ
namespace Go.Proofs.Ytlilhebnbhlkhaa
open Go.RowKit

theorem seriesAt_ok (n : Nat) (a : List (Nat × Nat)) (z r : Nat × Nat) (ha : Ser a n) (hz : finCB z = true) (hr : fin32B r.1 = true ∧ fin32B r.2 = true)
    (HN : ∀ (A : Option Addr) (c B : Nat) w, Reads w B 1 A n (cplx a) → Calls Try.prog 74 #[.slice A n c, .complex .f32 z.1 z.2] w fun e w' => e = .returned (.complex .f32 r.1 r.2) ∧ ∃ m, w' = w.drewN m)
    (A : Option Addr) (c : Nat) (w : World) (hR : Reads w w.heap.size 1 A n (cplx a)) :
    Calls Try.prog 32 #[.slice A n c, .complex .f32 z.1 z.2] w fun e w' => e = .returned (.tuple #[.complex .f32 r.1 r.2, .bool true]) ∧ Below w.heap.size w w' := by
  have HS := isSeries_y A c w.heap.size n a ha w hR (Nat.le_refl _)
  have HF := fun (W : World) => allFinite_b (some ⟨W.heap.size, 0, none⟩) 1 (W.heap.size + 1) [z] (W.alloc (.cells #[.complex .f32 z.1 z.2] 26)) (reads_new W (cplx [z]) 26) (by simp) (by simp)
  have hpa : [z].all finCB = true := by simp [hz]
  rw [hpa] at HF
  have HE := finite_v hr.1 hr.2
  clear hpa hr hz ha
  go_enter Try.func32, Try.ntmps32
  go_wp2_with fail
  refine HS.mono ?_
  rintro e w1 ⟨rfl, hb1⟩
  have HF1 := HF w1
  have z1 := hb1.size
  clear HS HF
  go_wp2_with fail
  refine HF1.mono ?_
  rintro e w2 ⟨rfl, hb2⟩
  clear HF1
  have hb3 : Below w1.heap.size w1 w2 := ((Below.refl _ _).alloc (Nat.le_refl _) _).trans (hb2.mono (by simp))
  have hb4 := hb1.trans (hb3.mono z1)
  have HN2 := HN A c w.heap.size w2 (hR.below hb4)
  clear HN hb1 hb2 hb3 hR
  go_wp2_with fail
  (with_reducible refine HN2.mono ?_)
  rintro e w3 ⟨rfl, m, rfl⟩
  have hb5 := below_drewN hb4 m
  have z5 := hb5.size
  clear HN2
  go_wp2_with fail
  refine (HE _).mono ?_
  rintro e w4 ⟨rfl, hb6⟩
  go_wp2
  go_ret2
  exact ⟨rfl, hb5.trans (hb6.mono z5)⟩
theorem within_any (a b m : Int) (w : World) :
    Calls Try.prog 45 #[.int .i64 a, .int .i64 b, .int .i64 m] w fun e w' => e = .returned (.bool (decide (b ≤ a) && decide (a ≤ m))) ∧ w' = w := by
  by_cases h1 : b ≤ a <;> by_cases h2 : a ≤ m
  all_goals
    have h3 : a ≥ b ↔ b ≤ a := Iff.rfl
    go_enter Try.func45, Try.ntmps45
    go_wp2
    go_ret
    refine ⟨?_, rfl⟩
    simp [h1, h2]
theorem areWorkers_y (m : Nat) (hm : 1 ≤ m ∧ m ≤ 8) (w : World) :
    Calls Try.prog 75 #[.int .i64 (m : Int)] w fun e w' => e = .returned (.bool true) ∧ w' = w := by
  have HW := within_any (m : Int) 1 8
  have e1 : decide ((1 : Int) ≤ (m : Int)) = true := by simp; omega
  have e2 : decide ((m : Int) ≤ 8) = true := by simp; omega
  rw [e1, e2] at HW
  go_enter Try.func75, Try.ntmps75
  go_wp2_with fail
  refine (HW _).mono ?_
  rintro e w1 ⟨rfl, rfl⟩
  go_wp2
  go_ret
  exact ⟨rfl, rfl⟩
set_option maxRecDepth 100000 in
set_option maxHeartbeats 1600000 in
theorem seriesShared_ok (A A' : Option Addr) (c c' n p m : Nat) (a pts o : List (Nat × Nat)) (ha : Ser a n) (hpl : pts.length = p) (hol : o.length = p) (hp : 1 ≤ p ∧ p ≤ 8) (hm : 1 ≤ m ∧ m ≤ 8)
    (HA : ∀ k, k < p → ∀ w, Reads w w.heap.size 1 A n (cplx a) → Calls Try.prog 32 #[.slice A n c, .complex .f32 (pts.getD k (0, 0)).1 (pts.getD k (0, 0)).2] w fun e w' => e = .returned (.tuple #[.complex .f32 (o.getD k (0, 0)).1 (o.getD k (0, 0)).2, .bool true]) ∧ Below w.heap.size w w')
    (w : World) (hr : Reads w w.heap.size 1 A n (cplx a)) (hr' : Reads w w.heap.size 1 A' p (cplx pts)) :
    Calls Try.prog 33 #[.slice A n c, .slice A' p c', .int .i64 (m : Int)] w fun e w' => ∃ g c'', e = .returned (.tuple #[.slice (some ⟨g, 0, none⟩) p c'', .bool true]) ∧ CV w' g o ∧ w.heap.size ≤ g ∧ Below w.heap.size w w' := by
  obtain ⟨i0, hi, hz0, hz1, hz2⟩ := info_parts infoC
  have HS := isSeries_y A c w.heap.size n a ha w hr (Nat.le_refl _)
  have HW := areWorkers_y m hm
  have hp1 : ¬ (p : Int) > 256 := by omega
  replace HA := Lib.hid HA
  go_enter Try.func33, Try.ntmps33
  go_wp2_with fail
  refine HS.mono ?_
  rintro e w1 ⟨rfl, hb1⟩
  clear HS
  have z1 := hb1.size
  go_wp2_with fail
  refine (HW _).mono ?_
  rintro e w2 ⟨rfl, rfl⟩
  clear HW
  go_wp2
  have hown0 : (w2.alloc (.cells #[] 26)).ownsRow w.heap.size 26 1 (.slice (some ⟨w2.heap.size, 0, none⟩) 0 0) 0 (cplx (o.take 0)) := World.ownsRow_made w2 #[] 0 z1 (by simp [maxLen]) rfl
  have hb0 : Below w.heap.size w (w2.alloc (.cells #[] 26)) := hb1.alloc z1 _
  go_loopw [8, 10, 11, 12, 29] (fun v _ _ _ q wr => ∃ k : Nat, k ≤ p ∧ q = .int .i64 (k : Int) ∧ wr.ownsRow w.heap.size 26 1 v k (cplx (o.take k)) ∧ Below w.heap.size w wr) (fun _ _ _ _ q _ => p - (intOf q).toNat)
  case atStart => exact ⟨0, Nat.zero_le _, rfl, hown0, hb0⟩
  case round =>
    obtain ⟨k, hk, rfl, hown, hbr⟩ := hrel
    obtain ⟨wo, rfl⟩ : ∃ wo : World, wo = wr := ⟨_, rfl⟩
    clear hown0 hb0 hb1 z1
    have zo := hbr.size
    by_cases hlt : k < p
    · obtain ⟨Ao, co, rfl, -, hko, hO⟩ := Own.of_row hown (Nat.le_refl _)
      have HX := HA.out k hlt wo ((hr.below hbr).more zo)
      obtain ⟨ad, rfl, -, hc1⟩ := comp_at (l := pts) (k := k) (by rw [hpl]; exact hr'.below hbr) (by omega)
      have hsn := Lib.hid (take_snoc_c (lo := o) (k := k) (by omega))
      have hk1 : (k : Int) < (p : Int) := by omega
      have hk0 : (0 : Int) ≤ (k : Int) := by omega
      clear HA hr hr' hO
      generalize o.getD k (0, 0) = Y at *
      generalize pts.getD k (0, 0) = X at *
      go_wp2_with fail
      (with_reducible refine HX.mono ?_)
      rintro e w3 ⟨rfl, hb3⟩
      have hown2 := ownsRow_kp hown (Kp.of_below (lo := 0) (hi := 0) hb3) (Nat.zero_le _)
      have hb4 := hbr.trans (hb3.mono zo)
      have z4 := hb4.size
      clear HX hown hbr hb3 hc1
      go_wp2_with (at_builtin; refine wpList_append_any _ rfl (.tmp 41) (.tmp 43) _ rfl w.heap.size 26 i0 _ 1 8 Try.underlying24 hi hz0 hz1 hz2 rfl (by omega) (.slice Ao k co) k (cplx (o.take k)) rfl (hown2.alloc _) (w3.heap.size + 1) (some ⟨w3.heap.size, 0, none⟩) 1 1 [.complex .f32 Y.1 Y.2] rfl (reads_new w3 [_] _) (one_cplx Y.1 Y.2) (by simp only [maxLen]; omega) (by omega) (by simp; omega) ?_; intro v1 w4 hown3 hg3 hat3)
      have hb5 : Below w.heap.size w3 w4 := ((Below.refl _ _).alloc (by omega) _).grown hg3 (by simp; omega) (fun j hj => (hown2.lt j hj).1)
      rw [hsn.out] at hown3
      have hb6 := hb4.trans hb5
      exact ⟨⟨k + 1, by omega, by go_num, hown3, hb6⟩, by simp [intOf]; omega⟩
    · obtain rfl : p = k := by omega
      obtain ⟨g, cg, rfl, hlg⟩ := World.ownsRow.form hown (by omega)
      rw [List.take_of_length_le (by omega)] at hown
      have hV := CV.of_row hown
      clear HA hr hr' hown
      go_wp2
      go_ret2
      exact ⟨g, cg, rfl, hV, hlg.1, hbr⟩
end Go.Proofs.Ytlilhebnbhlkhaa
