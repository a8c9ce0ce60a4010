/-
  The law's own helpers on slices of complex numbers and on polynomials, each by its contract: comparison, marks.
-/
import Derived.Test.YtakkmcplhihjiaaMkF
import Derived.Test.YtakkmcplhihjiaaPoOf
namespace Go.Proofs.Ytakkmcplhihjiaa
open Go.RowKit

theorem sameComplex_self (a b : Nat) (ha : Num64 a) (hb : Num64 b) (w : World) :
    Calls Try.prog 57 #[.complex .f64 a b, .complex .f64 a b] w fun e w' => e = .returned (.bool true) ∧ w' = w := by
  have HA := sameFloat_self a ha
  have HB := sameFloat_self b hb
  clear ha hb
  go_enter Try.func57, Try.ntmps57
  go_wp2_with fail
  refine (HA _).mono ?_
  rintro e w1 ⟨rfl, rfl⟩
  go_wp2_with fail
  refine (HB _).mono ?_
  rintro e w1 ⟨rfl, rfl⟩
  go_wp2_with fail
  go_ret
  exact ⟨rfl, rfl⟩

theorem eqComplex64S_same (A A' : Option Addr) (c c' B : Nat) (l : List (Nat × Nat)) (w : World) (hr : Reads w B 1 A l.length (cplx l)) (hr' : Reads w B 1 A' l.length (cplx l)) (hw : Wids l) (hn : l.length ≤ 1048576) :
    Calls Try.prog 37 #[.slice A l.length c, .slice A' l.length c'] w fun e w' => e = .returned (.bool true) ∧ ∃ n, w' = w.drewN n := by
  have HWd := Lib.hid hw
  clear hw
  go_enter Try.func37, Try.ntmps37
  go_wp2
  go_loopw [5] (fun i wr => ∃ k : Nat, k ≤ l.length ∧ i = .int .i64 k ∧ ∃ n, wr = w.drewN n) (fun i _ => l.length - (intOf i).toNat)
  case atStart => exact ⟨0, Nat.zero_le _, rfl, 0, rfl⟩
  case round =>
    obtain ⟨k, hk, rfl, n, rfl⟩ := hrel
    by_cases hlt : k < l.length
    · obtain ⟨ad, rfl, hab, hc1⟩ := comp_at hr hlt
      obtain ⟨ad', rfl, hab', hc2⟩ := comp_at hr' hlt
      obtain ⟨⟨a, ha1, ha2⟩, ⟨b, hb1, hb2⟩⟩ := HWd.out k hlt
      have HC := fun w => sameComplex_self a b ha2 hb2 w
      have HV := fun w => run_convert_complex (P := Try.prog) w 69 73 .f32 .f64 (l.getD k (0, 0)).1 (l.getD k (0, 0)).2 a b (by rw [Try.underlying69]; rfl) Try.underlying73 (cConv_of ha1 hb1)
      have hc1' : (w.drewN n).cell? (ad.add k) = some (.complex .f32 (l.getD k (0, 0)).1 (l.getD k (0, 0)).2) := hc1
      have hc2' : (w.drewN n).cell? (ad'.add k) = some (.complex .f32 (l.getD k (0, 0)).1 (l.getD k (0, 0)).2) := hc2
      clear hr hr' ha1 hb1 ha2 hb2 hc1 hc2
      generalize (l.getD k (0, 0)).1 = x at *
      generalize (l.getD k (0, 0)).2 = y at *
      have HCH := Lib.hid HC
      clear HC
      generalize hW : w.drewN n = w3 at *
      have HW := Lib.hid hW
      clear hW
      go_wp2_with fail
      go_quiet ((go_at_call 57; exact Calls.quiet_of_same (HCH.out _)))
      go_wp2
      go_roundw
      case rel => exact ⟨k + 1, by omega, by go_num, n + nq, by rw [← HW.out, World.drewN_drewN]⟩
      case measure => simp [intOf]; omega
    · have hkn : k = l.length := by omega
      subst hkn
      go_wp2
      go_ret
      exact ⟨rfl, n, rfl⟩
theorem eqComplex64S_b (A A' : Option Addr) (c c' B : Nat) (l : List (Nat × Nat)) (w : World) (hr : Reads w B 1 A l.length (cplx l)) (hr' : Reads w B 1 A' l.length (cplx l)) (hw : Wids l) (hn : l.length ≤ 1048576) :
    Calls Try.prog 37 #[.slice A l.length c, .slice A' l.length c'] w fun e w' => e = .returned (.bool true) ∧ Below w.heap.size w w' :=
  (eqComplex64S_same A A' c c' B l w hr hr' hw hn).mono fun _ _ ⟨h1, n, h2⟩ => ⟨h1, by rw [h2]; exact below_drewN (Below.refl _ _) n⟩

theorem markComplex64S_any (A : Option Addr) (c lo hi : Nat) (k0 : Int) (l : List (Nat × Nat)) (w : World) (ho : Own w lo hi 69 A (cplx l)) (hk0 : 0 ≤ k0) (hn : k0 + (l.length : Int) < 256) :
    Calls Try.prog 38 #[.slice A l.length c, .int .i64 k0] w fun e w' => e = .returned (.int .i64 (k0 + (l.length : Int))) ∧ Own w' lo hi 69 A (cplx (cmarks k0 l.length)) ∧ Kp lo hi w w' := by
  by_cases hz : l.length = 0
  · obtain rfl : l = [] := List.eq_nil_of_length_eq_zero hz
    go_enter Try.func38, Try.ntmps38
    go_wp2
    refine wp_loop_rounds 1 ?_
    rw [rounds_succ]
    go_wp2
    go_ret
    exact ⟨by simp, .inl rfl, Kp.refl _ _ _⟩
  · rcases ho with h | ⟨g, cs0, rfl, h1, h2, h3, h4, h5⟩
    · exact absurd (by simpa [cplx] using h) hz
    · rw [cplx_len] at h4
      have hb0 : Blk w g 69 cs0 := h3
      clear h3 h5
      go_enter Try.func38, Try.ntmps38
      go_wp2
      go_loopw [1, 5] (fun q i wr => ∃ k : Nat, k ≤ l.length ∧ i = .int .i64 k ∧ q = .int .i64 (k0 + (k : Int)) ∧ (∃ cs, Blk wr g 69 cs ∧ cs.size = cs0.size ∧ ∀ j, j < k → cs[j]? = some (.complex .f32 (mkb (k0 + (j : Int))) 1065353216)) ∧ Kp lo hi w wr) (fun _ i _ => l.length - (intOf i).toNat)
      case atStart => exact ⟨0, Nat.zero_le _, rfl, by go_num, ⟨cs0, hb0, rfl, fun j hj => by omega⟩, Kp.refl _ _ _⟩
      case round =>
        obtain ⟨k, hk, rfl, rfl, ⟨cs, hblk, hsz, hcs⟩, hkp⟩ := hrel
        by_cases hlt : k < l.length
        · have hc2 : wr.cell? ⟨g, k, none⟩ = cs[k]? := hblk.cell k
          have hc3 := hblk.frozen k
          obtain ⟨u, hc4⟩ : ∃ u, cs[k]? = some u := ⟨cs[k]'(by omega), Array.getElem?_eq_getElem (by omega)⟩
          rw [hc4] at hc2
          have HS := Lib.hid hsz
          have HV := fun w => run_convert_complex (P := Try.prog) w 73 69 .f64 .f32 _ _ _ _ (by rw [Try.underlying73]; rfl) Try.underlying69 (mk_conv (k0 + (k : Int)) (by omega) (by omega))
          clear hsz hc4 hz
          have HC := Lib.hid hcs
          clear hcs
          have HF := fun w => run_convert_int_float (P := Try.prog) w 3 48 .i64 .f64 (k0 + (k : Int)) (by rw [Try.underlying3]; rfl) Try.underlying48
          go_wp2
          go_roundw
          case rel =>
            refine ⟨k + 1, by omega, by go_num, by go_num, ⟨_, hblk.set_ k _, by have := HS.out; simp; omega, fun j hj => ?_⟩, hkp.setCell ⟨h1, h2⟩ _⟩
            rcases Nat.lt_or_ge j k with h | h
            · rw [Array.getElem?_setIfInBounds_ne (by omega)]; exact HC.out j h
            · have : j = k := by omega
              subst this
              rw [Array.getElem?_setIfInBounds_self_of_lt (by have := HS.out; omega)]
          case measure => simp [intOf]; omega
        · have hkn : k = l.length := by omega
          have HC : Hid (∀ j, j < l.length → cs[j]? = some (.complex .f32 (mkb (k0 + (j : Int))) 1065353216)) := fun j hj => hcs j (by omega)
          have HS := Lib.hid hsz
          clear hcs hsz
          subst hkn
          go_wp2
          go_ret
          refine ⟨by simp, hblk.own (by simp; have := HS.out; omega) (fun j hj => ?_) h1 h2, hkp⟩
          rw [cplx_len, cmarks_len] at hj
          rw [HC.out j hj, cplx_at (by simpa using hj), cmarks_at hj]

theorem heldComplex64S_b (A : Option Addr) (c B : Nat) (k0 : Int) (n : Nat) (w : World) (hr : Reads w B 1 A n (cplx (cmarks k0 n))) (hk0 : 0 ≤ k0) (hn : k0 + (n : Int) < 256) :
    Calls Try.prog 39 #[.slice A n c, .int .i64 k0] w fun e w' => e = .returned (.int .i64 (k0 + (n : Int))) ∧ Below w.heap.size w w' := by
  go_enter Try.func39, Try.ntmps39
  go_wp2
  go_loopw [1, 5] (fun q i wr => ∃ k : Nat, k ≤ n ∧ i = .int .i64 k ∧ q = .int .i64 (k0 + (k : Int)) ∧ ∃ m, wr = w.drewN m) (fun _ i _ => n - (intOf i).toNat)
  case atStart => exact ⟨0, Nat.zero_le _, rfl, by go_num, 0, rfl⟩
  case round =>
    obtain ⟨k, hk, rfl, rfl, m, rfl⟩ := hrel
    by_cases hlt : k < n
    · have hr2 : Reads w B 1 A (cmarks k0 n).length (cplx (cmarks k0 n)) := by rw [cmarks_len]; exact hr
      obtain ⟨ad, rfl, hab, hc1⟩ := comp_at hr2 (by rw [cmarks_len]; exact hlt)
      rw [cmarks_at hlt] at hc1
      simp only at hc1
      have HV := fun w => run_convert_complex (P := Try.prog) w 73 69 .f64 .f32 _ _ _ _ (by rw [Try.underlying73]; rfl) Try.underlying69 (mk_conv (k0 + (k : Int)) (by omega) (by omega))
      have HF := fun w => run_convert_int_float (P := Try.prog) w 3 48 .i64 .f64 (k0 + (k : Int)) (by rw [Try.underlying3]; rfl) Try.underlying48
      have q1 : (FloatKind.f32.format.order (mkb (k0 + (k : Int))) (mkb (k0 + (k : Int))) == some .eq) = true := by rw [(mkb_ok _ (by omega) (by omega)).2]; rfl
      have q2 : (FloatKind.f32.format.order 1065353216 1065353216 == some .eq) = true := by decide +kernel
      clear hr hr2
      go_wp2
      go_roundw
      case rel => exact ⟨k + 1, by omega, by go_num, by go_num, _, rfl⟩
      case measure => simp [intOf]; omega
    · have hkn : k = n := by omega
      subst hkn
      go_wp2
      go_ret
      exact ⟨by simp, below_drewN (Below.refl _ _) m⟩
/-- Two blocks of a call's own, laid first. -/
theorem below_two (w : World) (o1 o2 : Obj) : Below w.heap.size w ((w.alloc o1).alloc o2) := ((Below.refl _ _).alloc (Nat.le_refl _) _).alloc (by simp) _

theorem eqPoly_b (A A' : Option Addr) (c c' B : Nat) (l : List (Nat × Nat)) (w : World) (hr : Reads w B 1 A l.length (cplx l)) (hr' : Reads w B 1 A' l.length (cplx l)) (hB : B ≤ w.heap.size) (hw : Wids l) (hn : l.length ≤ 1048576) :
    Calls Try.prog 13 #[.agg #[.slice A l.length c], .agg #[.slice A' l.length c']] w fun e w' => e = .returned (.bool true) ∧ Below w.heap.size w w' := by
  have hb2 := below_two w (.cells #[.slice A l.length c] 30) (.cells #[.slice A' l.length c'] 30)
  go_enter Try.func13, Try.ntmps13
  go_wp2_with fail
  refine (eqComplex64S_b A A' c c' B l _ (hr.below (hb2.mono hB)) (hr'.below (hb2.mono hB)) hw hn).mono ?_
  rintro e w1 ⟨rfl, hb1⟩
  go_wp2_with fail
  go_ret
  exact ⟨rfl, hb2.trans (hb1.mono (by simp; omega))⟩

theorem markPoly_b (A : Option Addr) (c lo hi : Nat) (k0 : Int) (l : List (Nat × Nat)) (w : World) (ho : Own w lo hi 69 A (cplx l)) (hi2 : hi ≤ w.heap.size) (hk0 : 0 ≤ k0) (hn : k0 + (l.length : Int) < 256) :
    Calls Try.prog 14 #[.agg #[.slice A l.length c], .int .i64 k0] w fun e w' => e = .returned (.int .i64 (k0 + (l.length : Int))) ∧ Own w' lo hi 69 A (cplx (cmarks k0 l.length)) ∧ Kp lo hi w w' := by
  have hb2 : Below w.heap.size w (w.alloc (.cells #[.slice A l.length c] 30)) := (Below.refl _ _).alloc (Nat.le_refl _) _
  go_enter Try.func14, Try.ntmps14
  go_wp2_with fail
  refine (markComplex64S_any A c lo hi k0 l _ (ho.below hb2 hi2) hk0 hn).mono ?_
  rintro e w1 ⟨rfl, ho1, hk1⟩
  go_wp2_with fail
  go_ret
  exact ⟨rfl, ho1, (Kp.of_below hb2).trans hk1⟩

theorem heldPoly_b (A : Option Addr) (c B : Nat) (k0 : Int) (n : Nat) (w : World) (hr : Reads w B 1 A n (cplx (cmarks k0 n))) (hB : B ≤ w.heap.size) (hk0 : 0 ≤ k0) (hn : k0 + (n : Int) < 256) :
    Calls Try.prog 15 #[.agg #[.slice A n c], .int .i64 k0] w fun e w' => e = .returned (.int .i64 (k0 + (n : Int))) ∧ Below w.heap.size w w' := by
  have hb2 : Below w.heap.size w (w.alloc (.cells #[.slice A n c] 30)) := (Below.refl _ _).alloc (Nat.le_refl _) _
  go_enter Try.func15, Try.ntmps15
  go_wp2_with fail
  refine (heldComplex64S_b A c B k0 n _ (hr.below (hb2.mono hB)) hk0 hn).mono ?_
  rintro e w1 ⟨rfl, hb1⟩
  go_wp2_with fail
  go_ret
  exact ⟨rfl, hb2.trans (hb1.mono (by simp))⟩

end Go.Proofs.Ytakkmcplhihjiaa
