/-
  The law's own helpers on slices of complex numbers, each by its contract: comparison, marks.
-/
import Derived.Test.YtgfmnolmokpgnaaGreatDoorWords
import Derived.Test.YtgfmnolmokpgnaaGreatDoorProg
import Derived.Deep.QuietTactic
import Derived.BigQuiet
import Derived.KernelRfl
import Derived.Deep.RegionWith
namespace Go.Proofs.YtgfmnolmokpgnaaGreatDoor
open Go.RowKit

@[go_sem] theorem run_store_complex {P : Program} {w : World} {a : Addr} {m : Mode} (k : FloatKind) (x y : Nat) : (store a (.complex k x y) m).run P w = stored P w a (.complex k x y) m := run_store P w a _ m rfl
@[go_sem] theorem run_store_float {P : Program} {w : World} {a : Addr} {m : Mode} (k : FloatKind) (x : Nat) : (store a (.float k x) m).run P w = stored P w a (.float k x) m := run_store P w a _ m rfl

/-- A 64-bit number that is no not-a-number. -/
def Num64 (y : Nat) : Prop := FloatKind.f64.format.order y y = some .eq
/-- A 32-bit number that widens to a 64-bit one that is no not-a-number. -/
def Wid (x : Nat) : Prop := ∃ y, floatToFloatBits .f32 x .f64 = some y ∧ Num64 y

theorem quo_one {y : Nat} (h : Num64 y) : ∃ q, floatBits .quo .f64 4607182418800017408 y = some q := by
  unfold Num64 at h
  unfold floatBits
  simp only
  show ∃ q, FloatKind.f64.format.div 4607182418800017408 y = some q
  unfold Ieee.Format.div
  have h1 : FloatKind.f64.format.read 4607182418800017408 = .number false 4503599627370496 (-52) := by decide +kernel
  rw [h1]
  unfold Ieee.Format.order at h
  cases hr : FloatKind.f64.format.read y with
  | nan s f => rw [hr] at h; simp [Ieee.Datum.order] at h
  | infinity s => exact ⟨_, rfl⟩
  | number s m e =>
    simp only [Ieee.Datum.quotient]
    by_cases hm : m = 0
    · rw [if_pos hm, if_neg (by omega)]; exact ⟨_, rfl⟩
    · rw [if_neg hm]; exact ⟨_, rfl⟩

theorem sameFloat_self (y : Nat) (h : Num64 y) (w : World) :
    Calls Tryz.prog 74 #[.float .f64 y, .float .f64 y] w fun e w' => e = .returned (.bool true) ∧ w' = w := by
  obtain ⟨q, hq⟩ := quo_one h
  have hQ := fun w => run_float_arith (P := Tryz.prog) w .quo 70 .f64 4607182418800017408 y q hq
  have h1 : (FloatKind.f64.format.order y y != some .eq) = false := by rw [h]; rfl
  have h2 : (FloatKind.f64.format.order y y == some .eq) = true := by rw [h]; rfl
  clear hq h
  go_enter Tryz.func74, Tryz.ntmps74
  cases h0 : (FloatKind.f64.format.order y 0 == some .eq) with
  | true =>
    go_wp2
    go_ret
    exact ⟨rfl, rfl⟩
  | false =>
    go_wp2
    go_ret
    exact ⟨rfl, rfl⟩

theorem sameComplex_self (a b : Nat) (ha : Num64 a) (hb : Num64 b) (w : World) :
    Calls Tryz.prog 62 #[.complex .f64 a b, .complex .f64 a b] w fun e w' => e = .returned (.bool true) ∧ w' = w := by
  have HA := sameFloat_self a ha
  have HB := sameFloat_self b hb
  clear ha hb
  go_enter Tryz.func62, Tryz.ntmps62
  go_wp2_with fail
  refine (HA _).mono ?_
  rintro e w1 ⟨rfl, rfl⟩
  go_wp2_with fail
  refine (HB _).mono ?_
  rintro e w1 ⟨rfl, rfl⟩
  go_wp2_with fail
  go_ret
  exact ⟨rfl, rfl⟩

/-- Complex numbers as values in memory, by the bits of their parts. -/
def cplx (l : List (Nat × Nat)) : List Value := l.map fun z => Value.complex .f32 z.1 z.2
@[simp] theorem cplx_len (l : List (Nat × Nat)) : (cplx l).length = l.length := by simp [cplx]
theorem cplx_at {l : List (Nat × Nat)} {k : Nat} (h : k < l.length) : (cplx l)[k]? = some (.complex .f32 (l.getD k (0, 0)).1 (l.getD k (0, 0)).2) := by
  simp [cplx, List.getD, List.getElem?_eq_getElem h]
theorem comp_at {w : World} {B : Nat} {A : Option Addr} {l : List (Nat × Nat)} {k : Nat} (h : Reads w B 1 A l.length (cplx l)) (hk : k < l.length) :
    ∃ ad, A = some ad ∧ ad.block < B ∧ w.cell? (ad.add k) = some (.complex .f32 (l.getD k (0, 0)).1 (l.getD k (0, 0)).2) := by
  obtain ⟨ad, u, e, hb, hu, hc⟩ := h.at_ hk
  rw [cplx_at hk] at hu
  cases hu
  exact ⟨ad, e, hb, hc⟩
theorem cConv_of {s k : FloatKind} {x y a b : Nat} (h1 : floatToFloatBits s x k = some a) (h2 : floatToFloatBits s y k = some b) : cConvBits s x y k = some (a, b) := by
  simp [cConvBits, h1, h2]
/-- All parts widen. -/
def Wids (l : List (Nat × Nat)) : Prop := ∀ k, k < l.length → Wid (l.getD k (0, 0)).1 ∧ Wid (l.getD k (0, 0)).2

theorem eqComplex64S_same (A A' : Option Addr) (c c' B : Nat) (l : List (Nat × Nat)) (w : World) (hr : Reads w B 1 A l.length (cplx l)) (hr' : Reads w B 1 A' l.length (cplx l)) (hw : Wids l) (hn : l.length ≤ 1048576) :
    Calls Tryz.prog 39 #[.slice A l.length c, .slice A' l.length c'] w fun e w' => e = .returned (.bool true) ∧ ∃ n, w' = w.drewN n := by
  have HWd := Lib.hid hw
  clear hw
  go_enter Tryz.func39, Tryz.ntmps39
  go_wp2
  go_loopw [5] (fun i wr => ∃ k : Nat, k ≤ l.length ∧ i = .int .i64 k ∧ ∃ n, wr = w.drewN n) (fun i _ => l.length - (intOf i).toNat)
  case atStart => exact ⟨0, Nat.zero_le _, rfl, 0, rfl⟩
  case round =>
    obtain ⟨k, hk, rfl, n, rfl⟩ := hrel
    by_cases hlt : k < l.length
    · obtain ⟨ad, rfl, hab, hc1⟩ := comp_at hr hlt
      obtain ⟨ad', rfl, hab', hc2⟩ := comp_at hr' hlt
      obtain ⟨⟨a, ha1, ha2⟩, ⟨b, hb1, hb2⟩⟩ := HWd.out k hlt
      have HC := fun w => sameComplex_self a b ha2 hb2 w
      have HV := fun w => run_convert_complex (P := Tryz.prog) w 55 69 .f32 .f64 (l.getD k (0, 0)).1 (l.getD k (0, 0)).2 a b (by rw [Tryz.underlying55]; rfl) Tryz.underlying69 (cConv_of ha1 hb1)
      have hc1' : (w.drewN n).cell? (ad.add k) = some (.complex .f32 (l.getD k (0, 0)).1 (l.getD k (0, 0)).2) := hc1
      have hc2' : (w.drewN n).cell? (ad'.add k) = some (.complex .f32 (l.getD k (0, 0)).1 (l.getD k (0, 0)).2) := hc2
      clear hr hr' ha1 hb1 ha2 hb2 hc1 hc2
      generalize (l.getD k (0, 0)).1 = x at *
      generalize (l.getD k (0, 0)).2 = y at *
      have HCH := Lib.hid HC
      clear HC
      generalize hW : w.drewN n = w3 at *
      have HW := Lib.hid hW
      clear hW
      go_wp2_with fail
      go_quiet ((go_at_call 62; exact Calls.quiet_of_same (HCH.out _)))
      go_wp2
      go_roundw
      case rel => exact ⟨k + 1, by omega, by go_num, n + nq, by rw [← HW.out, World.drewN_drewN]⟩
      case measure => simp [intOf]; omega
    · have hkn : k = l.length := by omega
      subst hkn
      go_wp2
      go_ret
      exact ⟨rfl, n, rfl⟩
theorem eqComplex64S_b (A A' : Option Addr) (c c' B : Nat) (l : List (Nat × Nat)) (w : World) (hr : Reads w B 1 A l.length (cplx l)) (hr' : Reads w B 1 A' l.length (cplx l)) (hw : Wids l) (hn : l.length ≤ 1048576) :
    Calls Tryz.prog 39 #[.slice A l.length c, .slice A' l.length c'] w fun e w' => e = .returned (.bool true) ∧ Below w.heap.size w w' :=
  (eqComplex64S_same A A' c c' B l w hr hr' hw hn).mono fun _ _ ⟨h1, n, h2⟩ => ⟨h1, by rw [h2]; exact below_drewN (Below.refl _ _) n⟩

/-- The bits of a small integer as a 32-bit number. -/
def mkb (k : Int) : Nat := (floatToFloatBits .f64 (floatOfInt .f64 k) .f32).getD 0
theorem mkb_ok (k : Int) (h0 : 0 ≤ k) (h1 : k < 1024) : floatToFloatBits .f64 (floatOfInt .f64 k) .f32 = some (mkb k) ∧ FloatKind.f32.format.order (mkb k) (mkb k) = some .eq := by
  have key : ∀ n ∈ List.range 1024, floatToFloatBits .f64 (floatOfInt .f64 (n : Int)) .f32 = some (mkb (n : Int)) ∧ FloatKind.f32.format.order (mkb (n : Int)) (mkb (n : Int)) = some .eq := by decide +kernel
  obtain ⟨n, rfl⟩ := Int.eq_ofNat_of_zero_le h0
  exact key n (List.mem_range.2 (by omega))
/-- The marks of a slice of complex numbers. -/
def cmarks (k0 : Int) (n : Nat) : List (Nat × Nat) := (List.range n).map fun (j : Nat) => (mkb (k0 + (j : Int)), 1065353216)
@[simp] theorem cmarks_len (k0 : Int) (n : Nat) : (cmarks k0 n).length = n := by simp [cmarks]
theorem cmarks_at {k0 : Int} {n j : Nat} (h : j < n) : (cmarks k0 n).getD j (0, 0) = (mkb (k0 + (j : Int)), 1065353216) := by
  simp [cmarks, List.getD, h]
theorem mk_conv (k : Int) (h0 : 0 ≤ k) (h1 : k < 1024) : cConvBits .f64 (floatOfInt .f64 k) 4607182418800017408 .f32 = some (mkb k, 1065353216) := by
  have h2 : floatToFloatBits .f64 4607182418800017408 .f32 = some 1065353216 := by decide +kernel
  simp [cConvBits, (mkb_ok k h0 h1).1, h2]

theorem markComplex64S_any (A : Option Addr) (c lo hi : Nat) (k0 : Int) (l : List (Nat × Nat)) (w : World) (ho : Own w lo hi 55 A (cplx l)) (hk0 : 0 ≤ k0) (hn : k0 + (l.length : Int) < 1024) :
    Calls Tryz.prog 24 #[.slice A l.length c, .int .i64 k0] w fun e w' => e = .returned (.int .i64 (k0 + (l.length : Int))) ∧ Own w' lo hi 55 A (cplx (cmarks k0 l.length)) ∧ Kp lo hi w w' := by
  by_cases hz : l.length = 0
  · obtain rfl : l = [] := List.eq_nil_of_length_eq_zero hz
    go_enter Tryz.func24, Tryz.ntmps24
    go_wp2
    refine wp_loop_rounds 1 ?_
    rw [rounds_succ]
    go_wp2
    go_ret
    exact ⟨by simp, .inl rfl, Kp.refl _ _ _⟩
  · rcases ho with h | ⟨g, cs0, rfl, h1, h2, h3, h4, h5⟩
    · exact absurd (by simpa [cplx] using h) hz
    · rw [cplx_len] at h4
      have hb0 : Blk w g 55 cs0 := h3
      clear h3 h5
      go_enter Tryz.func24, Tryz.ntmps24
      go_wp2
      go_loopw [1, 5] (fun q i wr => ∃ k : Nat, k ≤ l.length ∧ i = .int .i64 k ∧ q = .int .i64 (k0 + (k : Int)) ∧ (∃ cs, Blk wr g 55 cs ∧ cs.size = cs0.size ∧ ∀ j, j < k → cs[j]? = some (.complex .f32 (mkb (k0 + (j : Int))) 1065353216)) ∧ Kp lo hi w wr) (fun _ i _ => l.length - (intOf i).toNat)
      case atStart => exact ⟨0, Nat.zero_le _, rfl, by go_num, ⟨cs0, hb0, rfl, fun j hj => by omega⟩, Kp.refl _ _ _⟩
      case round =>
        obtain ⟨k, hk, rfl, rfl, ⟨cs, hblk, hsz, hcs⟩, hkp⟩ := hrel
        by_cases hlt : k < l.length
        · have hc2 : wr.cell? ⟨g, k, none⟩ = cs[k]? := hblk.cell k
          have hc3 := hblk.frozen k
          obtain ⟨u, hc4⟩ : ∃ u, cs[k]? = some u := ⟨cs[k]'(by omega), Array.getElem?_eq_getElem (by omega)⟩
          rw [hc4] at hc2
          have HS := Lib.hid hsz
          have HV := fun w => run_convert_complex (P := Tryz.prog) w 69 55 .f64 .f32 _ _ _ _ (by rw [Tryz.underlying69]; rfl) Tryz.underlying55 (mk_conv (k0 + (k : Int)) (by omega) (by omega))
          clear hsz hc4 hz
          have HC := Lib.hid hcs
          clear hcs
          have HF := fun w => run_convert_int_float (P := Tryz.prog) w 3 70 .i64 .f64 (k0 + (k : Int)) (by rw [Tryz.underlying3]; rfl) Tryz.underlying70
          go_wp2
          go_roundw
          case rel =>
            refine ⟨k + 1, by omega, by go_num, by go_num, ⟨_, hblk.set_ k _, by have := HS.out; simp; omega, fun j hj => ?_⟩, hkp.setCell ⟨h1, h2⟩ _⟩
            rcases Nat.lt_or_ge j k with h | h
            · rw [Array.getElem?_setIfInBounds_ne (by omega)]; exact HC.out j h
            · have : j = k := by omega
              subst this
              rw [Array.getElem?_setIfInBounds_self_of_lt (by have := HS.out; omega)]
          case measure => simp [intOf]; omega
        · have hkn : k = l.length := by omega
          have HC : Hid (∀ j, j < l.length → cs[j]? = some (.complex .f32 (mkb (k0 + (j : Int))) 1065353216)) := fun j hj => hcs j (by omega)
          have HS := Lib.hid hsz
          clear hcs hsz
          subst hkn
          go_wp2
          go_ret
          refine ⟨by simp, hblk.own (by simp; have := HS.out; omega) (fun j hj => ?_) h1 h2, hkp⟩
          rw [cplx_len, cmarks_len] at hj
          rw [HC.out j hj, cplx_at (by simpa using hj), cmarks_at hj]

theorem heldComplex64S_b (A : Option Addr) (c B : Nat) (k0 : Int) (n : Nat) (w : World) (hr : Reads w B 1 A n (cplx (cmarks k0 n))) (hk0 : 0 ≤ k0) (hn : k0 + (n : Int) < 1024) :
    Calls Tryz.prog 26 #[.slice A n c, .int .i64 k0] w fun e w' => e = .returned (.int .i64 (k0 + (n : Int))) ∧ Below w.heap.size w w' := by
  go_enter Tryz.func26, Tryz.ntmps26
  go_wp2
  go_loopw [1, 5] (fun q i wr => ∃ k : Nat, k ≤ n ∧ i = .int .i64 k ∧ q = .int .i64 (k0 + (k : Int)) ∧ ∃ m, wr = w.drewN m) (fun _ i _ => n - (intOf i).toNat)
  case atStart => exact ⟨0, Nat.zero_le _, rfl, by go_num, 0, rfl⟩
  case round =>
    obtain ⟨k, hk, rfl, rfl, m, rfl⟩ := hrel
    by_cases hlt : k < n
    · have hr2 : Reads w B 1 A (cmarks k0 n).length (cplx (cmarks k0 n)) := by rw [cmarks_len]; exact hr
      obtain ⟨ad, rfl, hab, hc1⟩ := comp_at hr2 (by rw [cmarks_len]; exact hlt)
      rw [cmarks_at hlt] at hc1
      simp only at hc1
      have HV := fun w => run_convert_complex (P := Tryz.prog) w 69 55 .f64 .f32 _ _ _ _ (by rw [Tryz.underlying69]; rfl) Tryz.underlying55 (mk_conv (k0 + (k : Int)) (by omega) (by omega))
      have HF := fun w => run_convert_int_float (P := Tryz.prog) w 3 70 .i64 .f64 (k0 + (k : Int)) (by rw [Tryz.underlying3]; rfl) Tryz.underlying70
      have q1 : (FloatKind.f32.format.order (mkb (k0 + (k : Int))) (mkb (k0 + (k : Int))) == some .eq) = true := by rw [(mkb_ok _ (by omega) (by omega)).2]; rfl
      have q2 : (FloatKind.f32.format.order 1065353216 1065353216 == some .eq) = true := by decide +kernel
      clear hr hr2
      go_wp2
      go_roundw
      case rel => exact ⟨k + 1, by omega, by go_num, by go_num, _, rfl⟩
      case measure => simp [intOf]; omega
    · have hkn : k = n := by omega
      subst hkn
      go_wp2
      go_ret
      exact ⟨by simp, below_drewN (Below.refl _ _) m⟩
end Go.Proofs.YtgfmnolmokpgnaaGreatDoor
