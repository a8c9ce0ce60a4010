/-
  Draws; lengths and equality of complex numbers (laws.b10Long, b10At, spec.B10Terms, LongOf, SameComplex).
-/
import Derived.Test.YtlilhebnbhlkhaaSeI
namespace Go.Proofs.Ytlilhebnbhlkhaa
open Go.RowKit

theorem b10Long_any (A A' : Option Addr) (c c' n n' : Nat) (w : World) :
    Calls Try.prog 5 #[.slice A n c, .slice A' n' c'] w fun e w' => e = .returned (.bool (decide (1048576 < n) || decide (1048576 < n'))) ∧ w' = w := by
  by_cases h1 : 1048576 < n <;> by_cases h2 : 1048576 < n'
  all_goals
    go_enter Try.func5, Try.ntmps5
    go_wp2
    go_ret
    refine ⟨?_, rfl⟩
    simp [h1, h2]
    try omega
theorem nat_of' {x n : Int} {w w' : World} (h0 : 0 ≤ x) (h1 : x < n) (hw : w' = w) : ∃ y : Nat, Ending.returned (.int .i64 x) = .returned (.int .i64 y) ∧ (y : Int) < n ∧ w' = w := by
  obtain ⟨y, rfl⟩ := Int.eq_ofNat_of_zero_le h0
  exact ⟨y, rfl, h1, hw⟩
theorem b10At_any (A : Option Addr) (c B : Nat) (zs : List Int) (i n : Int) (hi : 0 ≤ i ∧ i ≤ 100) (hn : 1 < n ∧ n ≤ 256) (hz : Byt zs) (w : World) (hr : Reads w B 1 A zs.length (byts zs)) :
    Calls Try.prog 7 #[.slice A zs.length c, .int .i64 i, .int .i64 n] w fun e w' => ∃ x : Nat, e = .returned (.int .i64 x) ∧ (x : Int) < n ∧ w' = w := by
  obtain ⟨k, rfl⟩ := Int.eq_ofNat_of_zero_le hi.1
  have hn0 : ¬ n = 0 := by omega
  by_cases h : k < zs.length
  · obtain ⟨ad, rfl, hab, hc1⟩ := byt_at hr h
    have hb := hz.at_ h
    clear hr
    generalize zs.getD k 0 = x at *
    go_enter Try.func7, Try.ntmps7
    go_wp2
    go_ret
    exact nat_of' (Int.emod_nonneg _ (by omega)) (Int.emod_lt_of_pos _ (by omega)) rfl
  · go_enter Try.func7, Try.ntmps7
    go_wp2
    go_ret
    exact nat_of' (Int.emod_nonneg _ (by omega)) (Int.emod_lt_of_pos _ (by omega)) rfl
theorem powerWide_calls {x : Nat × Nat} {r : Nat} (h : powerW x = some r) (w : World) :
    Calls Try.prog 100 #[.complex .f32 x.1 x.2] w fun e w' => e = .returned (.float .f64 r) ∧ w' = w := by
  unfold powerW widW at h
  simp only [Option.bind_eq_some_iff] at h
  obtain ⟨u1, f1, u2, f2, r1, g1, r2, g2, g3⟩ := h
  have k1 := cvW f1
  have k2 := cvW f2
  have j1 := ar64 _ _ _ _ g1
  have j2 := ar64 _ _ _ _ g2
  have j5 := ar64 _ _ _ _ g3
  clear f1 f2 g1 g2 g3
  go_enter Try.func100, Try.ntmps100
  go_wp2
  go_ret
  exact ⟨rfl, rfl⟩
theorem sLongW_calls {x : Nat × Nat} {r : Nat} (h : longW x = some r) (w : World) : Calls Try.prog 13 #[.complex .f32 x.1 x.2] w fun e w' => e = .returned (.float .f32 r) ∧ w' = w := by
  unfold longW at h
  simp only [Option.bind_eq_some_iff] at h
  obtain ⟨p, hp, s, hs, hn⟩ := h
  unfold narW at hn
  have HP := powerWide_calls hp
  have k1 := cvN hn
  have hq := sqrt_run hs
  clear hp hs hn
  have HN : ∀ w, Calls Try.prog 99 #[.float .f64 s] w fun e w' => e = .returned (.float .f32 r) ∧ w' = w := fun w => by
    go_enter Try.func99, Try.ntmps99
    go_wp2
    go_ret
    exact ⟨rfl, rfl⟩
  have HS : ∀ w, Calls Try.prog 84 #[.float .f64 p] w fun e w' => e = .returned (.float .f64 s) ∧ w' = w := fun w => by
    go_enter Try.func84, Try.ntmps84
    go_wp2
    go_ret
    exact ⟨rfl, rfl⟩
  have HL : ∀ w, Calls Try.prog 59 #[.complex .f32 x.1 x.2] w fun e w' => e = .returned (.float .f32 r) ∧ w' = w := fun w => by
    go_enter Try.func59, Try.ntmps59
    go_wp2_with fail
    refine (HP _).mono ?_
    rintro e w1 ⟨rfl, rfl⟩
    go_wp2_with fail
    refine (HS _).mono ?_
    rintro e w1 ⟨rfl, rfl⟩
    go_wp2_with fail
    refine (HN _).mono ?_
    rintro e w1 ⟨rfl, rfl⟩
    go_wp2
    go_ret
    exact ⟨rfl, rfl⟩
  go_enter Try.func13, Try.ntmps13
  go_wp2_with fail
  refine (HL _).mono ?_
  rintro e w1 ⟨rfl, rfl⟩
  go_wp2
  go_ret
  exact ⟨rfl, rfl⟩
theorem run_bits (n : Nat) (w : World) : (callFunc 115 #[.float .f32 n]).run Try.prog w = .ok (.value (.int .u32 (n : Int))) w := by
  rw [run_callFunc_extern (P := Try.prog) (f := 115) (e := Extern.MathFloatBits.float32bits) Try.func115 (by kernel_rfl) (by kernel_rfl) (by kernel_rfl) (by kernel_rfl)]
  rfl
theorem fin_eqo {x : Nat} (h : fin32B x = true) : FloatKind.f32.format.order x x = some .eq := by
  obtain ⟨s, m, i, h1, -⟩ := fin_number h
  exact (order_val .f32 ⟨s, m, i, h1, rfl⟩ ⟨s, m, i, h1, rfl⟩).2.1 rfl
set_option maxRecDepth 100000 in
theorem l01Bits_fin (n : Nat) (h : fin32B n = true) (w : World) :
    Calls Try.prog 110 #[.float .f32 n] w fun e w' => e = .returned (.int .i64 (wrap64 (n : Int))) ∧ w' = w := by
  have hx := run_bits n
  have h1 := fin_eqo h
  have h2 : (FloatKind.f32.format.order n n != some .eq) = false := by rw [h1]; rfl
  go_enter Try.func110, Try.ntmps110
  go_wp2
  go_ret
  exact ⟨rfl, rfl⟩
theorem l01Same_fin (n : Nat) (h : fin32B n = true) (w : World) :
    Calls Try.prog 102 #[.float .f32 n, .float .f32 n] w fun e w' => e = .returned (.bool true) ∧ w' = w := by
  have HB := l01Bits_fin n h
  go_enter Try.func102, Try.ntmps102
  go_wp2_with fail
  refine (HB _).mono ?_
  rintro e w1 ⟨rfl, rfl⟩
  go_wp2_with fail
  refine (HB _).mono ?_
  rintro e w1 ⟨rfl, rfl⟩
  go_wp2
  go_ret
  exact ⟨rfl, rfl⟩
theorem sSameComplex_fin (x : Nat × Nat) (h1 : fin32B x.1 = true) (h2 : fin32B x.2 = true) (w : World) :
    Calls Try.prog 34 #[.complex .f32 x.1 x.2, .complex .f32 x.1 x.2] w fun e w' => e = .returned (.bool true) ∧ w' = w := by
  have HA := l01Same_fin _ h1
  have HB := l01Same_fin _ h2
  have HC : ∀ w, Calls Try.prog 76 #[.complex .f32 x.1 x.2, .complex .f32 x.1 x.2] w fun e w' => e = .returned (.bool true) ∧ w' = w := fun w => by
    go_enter Try.func76, Try.ntmps76
    go_wp2_with fail
    refine (HA _).mono ?_
    rintro e w1 ⟨rfl, rfl⟩
    go_wp2_with fail
    refine (HB _).mono ?_
    rintro e w1 ⟨rfl, rfl⟩
    go_wp2
    go_ret
    exact ⟨rfl, rfl⟩
  go_enter Try.func34, Try.ntmps34
  go_wp2_with fail
  refine (HC _).mono ?_
  rintro e w1 ⟨rfl, rfl⟩
  go_wp2
  go_ret
  exact ⟨rfl, rfl⟩
/-- A number of quarters in the unit's range as a word. -/
def q9 (k : Nat) : Nat := qt ((k : Int) - 4) 1082130432
def q9V (k : Nat) : Rat := (((k : Int) - 4 : Int) : Rat) / 4
def q9B (k : Nat) : Bool := floatBits .quo .f32 (floatOfInt .f32 ((k : Int) - 4)) 1082130432 == some (q9 k) && fin32B (q9 k) && decide (V32 (q9 k) = q9V k) && decide (-1 ≤ q9V k) && decide (q9V k ≤ 1)
theorem q9_tab : (List.range 9).all q9B = true := by decide +kernel
theorem q9_ok (k : Nat) (h : k < 9) : floatBits .quo .f32 (floatOfInt .f32 ((k : Int) - 4)) 1082130432 = some (q9 k) ∧ NV .f32 (q9 k) (q9V k) ∧ Lm (q9V k) 1 := by
  have t := List.all_eq_true.1 q9_tab k (List.mem_range.2 h)
  unfold q9B at t
  simp only [Bool.and_eq_true, decide_eq_true_eq, beq_iff_eq] at t
  obtain ⟨⟨⟨⟨t1, t2⟩, t3⟩, t4⟩, t5⟩ := t
  exact ⟨t1, by rw [← t3]; exact nv_of_fin t2, t4, t5⟩
def q9L (ks : List (Nat × Nat)) : List (Nat × Nat) := ks.map fun k => (q9 k.1, q9 k.2)
@[simp] theorem q9L_len (ks : List (Nat × Nat)) : (q9L ks).length = ks.length := by simp [q9L]
theorem q9L_at {ks : List (Nat × Nat)} {k : Nat} (h : k < ks.length) : (q9L ks).getD k (0, 0) = (q9 (ks.getD k (0, 0)).1, q9 (ks.getD k (0, 0)).2) := by
  simp [q9L, List.getD, List.getElem?_eq_getElem h]
theorem q9L_snoc (ks : List (Nat × Nat)) (i j : Nat) : q9L ks ++ [(q9 i, q9 j)] = q9L (ks ++ [(i, j)]) := by simp [q9L]
def Nines (ks : List (Nat × Nat)) : Prop := ∀ k ∈ ks, k.1 < 9 ∧ k.2 < 9
set_option maxRecDepth 100000 in
set_option maxHeartbeats 1600000 in
theorem drawSome_any (A0 : Option Addr) (c0 n g : Nat) (zs : List Int) (hn : 1 ≤ n ∧ n ≤ 20) (w : World) (hs1 : Src w g c0 A0 zs 0) :
    Calls Try.prog 36 #[.pointer (some ⟨g, 0, none⟩), .int .i64 (n : Int)] w fun e w' => ∃ g' c' ks, e = .returned (.slice (some ⟨g', 0, none⟩) n c') ∧ n ≤ c' ∧ ks.length = n ∧ Nines ks ∧ CV w' g' (q9L ks) ∧ w.heap.size ≤ g' ∧ Kp g (g + 1) w w' := by
  obtain ⟨i0, hi, hz0, hz1, hz2⟩ := info_parts infoC
  have hgl := hs1.lt
  go_enter Try.func36, Try.ntmps36
  go_wp2
  have hown0 : (w.alloc (.cells #[] 26)).ownsRow w.heap.size 26 1 (.slice (some ⟨w.heap.size, 0, none⟩) 0 0) 0 (cplx (q9L [])) := World.ownsRow_made w #[] 0 (Nat.le_refl _) (by simp [maxLen]) rfl
  have hb0 : Below w.heap.size w (w.alloc (.cells #[] 26)) := (Below.refl _ _).alloc (Nat.le_refl _) _
  have hs0 := hs1.below hb0 hgl
  go_loopw [1, 5, 6] (fun q v _ wr => ∃ k : Nat, k ≤ n ∧ q = .int .i64 ((n : Int) - (k : Int)) ∧ (∃ l : List (Nat × Nat), l.length = k ∧ Hid (Nines l) ∧ wr.ownsRow w.heap.size 26 1 v k (cplx (q9L l))) ∧ Src wr g c0 A0 zs (2 * k) ∧ Kp g (g + 1) w wr) (fun q _ _ _ => (intOf q).toNat)
  case atStart => exact ⟨0, Nat.zero_le _, by simp, ⟨[], rfl, fun x hx => by simp at hx, hown0⟩, hs0, Kp.of_below hb0⟩
  case round =>
    obtain ⟨k, hk, rfl, ⟨l, hl, hLx, hown⟩, hsr, hkr⟩ := hrel
    clear hown0 hb0 hs0 hs1
    obtain ⟨Ao, co, rfl, -, hko, hO⟩ := Own.of_row hown (Nat.le_refl _)
    have hsz := hkr.size
    obtain ⟨wo, rfl⟩ : ∃ wo : World, wo = wr := ⟨_, rfl⟩
    by_cases hlt : k < n
    · clear hO
      have H := hsr.pick (by omega) 9 (by omega)
      have hgt : ((n : Int) - (k : Int)) > 0 := by omega
      go_wp2_with fail
      refine H.mono ?_
      rintro e w2 ⟨x, rfl, hx, hs2, hk2⟩
      have hown2 := ownsRow_kp hown hk2 (by omega)
      have hsz2 := hk2.size
      have jx := ar32 _ _ _ _ (q9_ok x (by omega)).1
      have hx0 : (0 : Int) ≤ (x : Int) := by omega
      have H2 := hs2.pick (by omega) 9 (by omega)
      have hkk := hkr.trans hk2
      clear hown H hsr hs2 hk2 hkr
      generalize hqx : q9 x = qx at *
      replace hqx := Lib.hid hqx
      go_wp2_with fail
      refine H2.mono ?_
      rintro e w3 ⟨y, rfl, hy, hs3, hk3⟩
      have hown3 := ownsRow_kp hown2 hk3 (by omega)
      have hsz3 := hk3.size
      have jy := ar32 _ _ _ _ (q9_ok y (by omega)).1
      have hy0 : (0 : Int) ≤ (y : Int) := by omega
      have hkk2 := hkk.trans hk3
      have hsn := Lib.hid (show q9L l ++ [(qx, q9 y)] = q9L (l ++ [(x, y)]) by rw [← hqx.out]; exact q9L_snoc l x y)
      clear hown2 H2 hk3 hkk jx
      generalize q9 y = qy at *
      go_wp2_with (at_builtin; refine wpList_append_any _ rfl (.tmp 17) (.tmp 25) _ rfl w.heap.size 26 i0 _ 1 8 Try.underlying24 hi hz0 hz1 hz2 rfl (by omega) (.slice Ao k co) k (cplx (q9L l)) rfl (hown3.alloc _) (w3.heap.size + 1) (some ⟨w3.heap.size, 0, none⟩) 1 1 [.complex .f32 qx qy] rfl (reads_new w3 [_] _) (one_cplx qx qy) (by simp only [maxLen]; omega) (by omega) (by simp; omega) ?_; intro v1 w4 hown4 hg4 hat4)
      have hb4 : Below w.heap.size w3 w4 := ((Below.refl _ _).alloc (by omega) _).grown hg4 (by simp; omega) (fun j hj => (hown3.lt j hj).1)
      have hs4 := hs3.below hb4 (by omega)
      have hk4 : Kp g (g + 1) w w4 := ⟨hb4.os.trans hkk2.os, hb4.tape.trans hkk2.tape, hb4.output.trans hkk2.output, Nat.le_trans hkk2.size (Nat.le_trans (by simp) hg4.size), fun i hi hd => (hb4.block i (by omega)).trans (hkk2.block i hi hd)⟩
      rw [cplx_snoc, hsn.out] at hown4
      refine ⟨⟨k + 1, by omega, by go_num, ⟨l ++ [(x, y)], by simp [hl], ?_, hown4⟩, hs4.up (by omega), hk4⟩, by simp [intOf]; omega⟩
      intro z hz
      rcases List.mem_append.1 hz with h | h
      · exact hLx.out z h
      · obtain rfl : z = (x, y) := by simpa using h
        exact ⟨by omega, by omega⟩
    · obtain rfl : n = k := by omega
      have hgt : ¬ ((n : Int) - (n : Int)) > 0 := by omega
      obtain ⟨go, cg, e2, hlg⟩ := World.ownsRow.form hown (by omega)
      cases e2
      have hV := CV.of_row hown
      clear hown hsr hO
      go_wp2
      go_ret
      exact ⟨go, co, rfl, hko, l, hl, hLx.out, hV, hlg.1, hkr⟩
set_option maxRecDepth 100000 in
theorem b10Terms_any (A0 : Option Addr) (c0 n : Nat) (zs : List Int) (hn : 1 ≤ n ∧ n ≤ 20) (hz : Byt zs) (w : World) (hr : Reads w w.heap.size 1 A0 zs.length (byts zs)) :
    Calls Try.prog 6 #[.slice A0 zs.length c0, .int .i64 (n : Int)] w fun e w' => ∃ g' c' ks, e = .returned (.slice (some ⟨g', 0, none⟩) n c') ∧ n ≤ c' ∧ ks.length = n ∧ Nines ks ∧ CV w' g' (q9L ks) ∧ w.heap.size ≤ g' ∧ Below w.heap.size w w' := by
  go_enter Try.func6, Try.ntmps6
  go_wp2_with fail
  refine (l00From_any A0 c0 zs.length _).mono ?_
  rintro e w1 ⟨rfl, hw1⟩
  obtain ⟨hs1, hb1⟩ := src_new A0 c0 zs hz w w1 hr hw1
  have z1 : w.heap.size + 1 ≤ w1.heap.size := by rw [hw1]; simp
  clear hw1 hr
  obtain ⟨g, hg⟩ : ∃ g, g = w.heap.size := ⟨_, rfl⟩
  rw [← hg] at hs1 z1 ⊢
  have hgl : Hid (g = w.heap.size) := Lib.hid hg
  replace hg : w.heap.size ≤ g := by omega
  have HD := drawSome_any A0 c0 n g zs hn w1 hs1
  go_wp2_with fail
  (with_reducible refine HD.mono ?_)
  rintro e w2 ⟨g', c', ks, rfl, hc', hkl, hks, hV, hg', hkp⟩
  have hb2 := hb1.trans (hkp.below (B := w.heap.size) hg (by have := hgl.out; omega))
  go_wp2
  go_ret
  exact ⟨g', c', ks, rfl, hc', hkl, hks, hV, by omega, hb2⟩
end Go.Proofs.Ytlilhebnbhlkhaa
