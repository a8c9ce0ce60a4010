/-
  The law's own helpers on slices of 32-bit numbers, whatever the numbers: copies, comparison, marks.
-/
import Derived.Test.YtakkmcplhihjiaaMkP
import Derived.Test.YtakkmcplhihjiaaFltN
namespace Go.Proofs.Ytakkmcplhihjiaa
open Go.RowKit

theorem toFloat32S_any (A : Option Addr) (c B : Nat) (zs : List Nat) (w : World) (hr : Reads w B 1 A zs.length (flts zs)) (hB : B ≤ w.heap.size) (hn : zs.length ≤ 1048576) :
    Calls Try.prog 11 #[.slice A zs.length c] w fun e w' => ∃ A' c', e = .returned (.slice A' zs.length c') ∧ Own w' w.heap.size w'.heap.size 38 A' (flts zs) ∧ Below w.heap.size w w' := by
  obtain ⟨i0, hi, hz0, hz1, hz2⟩ := info_parts infoF
  go_enter Try.func11, Try.ntmps11
  go_wp2_with (at_make; refine wpList_make_full _ rfl _ _ _ rfl w.heap.size 38 i0 (.float .f32 0) 1 Try.underlying22 hi hz0 hz1 .i64 .i64 _ _ zs.length rfl rfl rfl rfl (by rw [hz2]; omega) (by unfold maxLen; omega) (Nat.le_refl _) ?_; intro w1 hown hg)
  obtain ⟨cs, hblk, hsz, -, -⟩ := blk_of_row hown
  have hb1 : Below w.heap.size w w1 := (Below.refl _ _).grown hg (Nat.le_refl _) (by simp)
  clear hown hg
  go_loopw [4] (fun i wr => ∃ k : Nat, k ≤ zs.length ∧ i = .int .i64 k ∧ (∃ cs, Blk wr w.heap.size 38 cs ∧ cs.size = zs.length ∧ ∀ j, j < k → cs[j]? = some (.float .f32 (zs.getD j 0))) ∧ Below w.heap.size w wr) (fun i _ => zs.length - (intOf i).toNat)
  case atStart => exact ⟨0, Nat.zero_le _, rfl, ⟨cs, hblk, hsz, fun j hj => by omega⟩, hb1⟩
  case round =>
    obtain ⟨k, hk, rfl, ⟨cs, hblk, hsz, hcs⟩, hbr⟩ := hrel
    by_cases hlt : k < zs.length
    · obtain ⟨ad, rfl, hab, hcell⟩ := flt_at hr hlt
      have hc1 : wr.cell? (ad.add k) = some (.float .f32 (zs.getD k 0)) := (hbr.cell (by rw [block_of_add]; omega)).trans hcell
      have hc2 : wr.cell? ⟨w.heap.size, k, none⟩ = cs[k]? := hblk.cell k
      have hc3 := hblk.frozen k
      have hc4 : ∃ u, cs[k]? = some u := ⟨cs[k]'(by omega), Array.getElem?_eq_getElem (by omega)⟩
      obtain ⟨u, hc4⟩ := hc4
      rw [hc4] at hc2
      have HS := Lib.hid hsz
      clear hsz hcell hr hc4
      go_wp2
      go_roundw
      case rel =>
        refine ⟨k + 1, by omega, by go_num, ⟨_, hblk.set_ k _, by have := HS.out; simp; omega, fun j hj => ?_⟩, hbr.setCell (Nat.le_refl _) _⟩
        rcases Nat.lt_or_ge j k with h | h
        · rw [Array.getElem?_setIfInBounds_ne (by omega)]; exact hcs j h
        · have : j = k := by omega
          subst this
          rw [Array.getElem?_setIfInBounds_self_of_lt (by have := HS.out; omega)]
          simp [List.getElem?_eq_getElem hlt]
      case measure => simp [intOf]; omega
    · have hkn : k = zs.length := by omega
      subst hkn
      have hcs' : ∀ j, j < zs.length → cs[j]? = some (.float .f32 (zs.getD j 0)) := hcs
      clear hcs
      go_wp2
      go_ret
      exact ⟨_, _, rfl, hblk.own (by simp; omega) (fun j hj => by rw [flts_len] at hj; rw [hcs' j hj, flts_at hj]) (Nat.le_refl _) hblk.lt, hbr⟩

/-- The word that the widening of what is no number gives. -/
def wnAt (x : Nat) (w : World) : Nat := Question.cut (.nanConv .f64 x) (w.tape w.drawn (.nanConv .f64 x))
theorem wn_order (x : Nat) (w : World) (y : Nat) : FloatKind.f64.format.order (wnAt x w) y = none := by
  obtain ⟨t, ht⟩ : ∃ t, t = w.tape w.drawn (.nanConv .f64 x) := ⟨_, rfl⟩
  unfold wnAt
  rw [← ht]
  have hB : FloatKind.f64.format.binade = 4503599627370496 := by decide
  have hI : FloatKind.f64.format.infRung = 9218868437227405312 := by decide
  have hS : FloatKind.f64.format.signWeight = 9223372036854775808 := by decide
  have hr : ∃ s u, FloatKind.f64.format.read (Question.cut (.nanConv .f64 x) t) = .nan s u := by
    show ∃ s u, FloatKind.f64.format.read (t % 2 * 2 ^ 63 + 0x7ff0000000000000 + 1 + t / 2 % (2 ^ 52 - 1)) = .nan s u
    unfold Ieee.Format.read
    simp only [hB, hI, hS]
    have h1 : (t % 2 * 2 ^ 63 + 0x7ff0000000000000 + 1 + t / 2 % (2 ^ 52 - 1)) % 9223372036854775808 = 9218868437227405313 + t / 2 % 4503599627370495 := by omega
    rw [h1, if_neg (by omega), if_neg (by omega), if_neg (by omega)]
    exact ⟨_, _, rfl⟩
  obtain ⟨s, u, hr⟩ := hr
  unfold Ieee.Format.order
  rw [hr]
  rfl
theorem wn_run (x : Nat) (s : Bool) (t : Nat) (h : FloatKind.f32.format.read x = .nan s t) (w : World) : (convert 38 48 (.float .f32 x)).run Try.prog w = .ok (.float .f64 (wnAt x w)) w.drew := by
  obtain ⟨u, hu⟩ : ∃ u, Try.prog.underlying 38 = some u := ⟨_, Try.underlying38⟩
  have hd := Try.underlying48
  have hdec : FloatKind.f32.decode x = .nan s t := h
  cases u <;> simp [convert, run_underlying hu, run_underlying hd, Conv.floatToFloat, hdec, wnAt, Question.forced]
theorem wide_cases (x : Nat) : (∃ y, floatToFloatBits .f32 x .f64 = some y ∧ Num64 y) ∨ ∃ s t, FloatKind.f32.format.read x = .nan s t := by
  cases h : FloatKind.f32.format.read x with
  | nan s t => exact .inr ⟨s, t, rfl⟩
  | infinity s =>
    refine .inl ⟨FloatKind.f64.encode (.infinity s), ?_, ?_⟩
    · unfold floatToFloatBits
      rw [if_neg (by decide)]
      have hdec : FloatKind.f32.decode x = .infinity s := h
      rw [hdec]
    · unfold Num64
      cases s <;> decide +kernel
  | number s m i =>
    refine .inl (fin_wide ?_)
    rcases sub_cases x with e | e
    · unfold fin32B; rw [e]; rfl
    · exfalso
      have hd : floatBits .sub .f32 x x = ((FloatKind.f32.format.read x).sum (FloatKind.f32.format.read x).opposite).map FloatKind.f32.format.write := rfl
      rw [hd, h] at e
      cases e
theorem sameFloat_nan (a b : Nat) (ha : ∀ y, FloatKind.f64.format.order a y = none) (hb : ∀ y, FloatKind.f64.format.order b y = none) (w : World) :
    Calls Try.prog 25 #[.float .f64 a, .float .f64 b] w fun e w' => e = .returned (.bool true) ∧ w' = w := by
  have h1 : (FloatKind.f64.format.order a a != some .eq) = true := by rw [ha]; rfl
  have h2 : (FloatKind.f64.format.order b b != some .eq) = true := by rw [hb]; rfl
  clear ha hb
  go_enter Try.func25, Try.ntmps25
  go_wp2
  go_ret
  exact ⟨rfl, rfl⟩

set_option maxHeartbeats 800000 in
theorem eqFloat32S_all (A A' : Option Addr) (c c' B : Nat) (l : List Nat) (w : World) (hr : Reads w B 1 A l.length (flts l)) (hr' : Reads w B 1 A' l.length (flts l)) (hn : l.length ≤ 1048576) :
    Calls Try.prog 7 #[.slice A l.length c, .slice A' l.length c'] w fun e w' => e = .returned (.bool true) ∧ Below w.heap.size w w' := by
  go_enter Try.func7, Try.ntmps7
  go_wp2
  go_loopw [5] (fun i wr => ∃ k : Nat, k ≤ l.length ∧ i = .int .i64 k ∧ ∃ n, wr = w.drewN n) (fun i _ => l.length - (intOf i).toNat)
  case atStart => exact ⟨0, Nat.zero_le _, rfl, 0, rfl⟩
  case round =>
    obtain ⟨k, hk, rfl, n, rfl⟩ := hrel
    by_cases hlt : k < l.length
    · obtain ⟨ad, rfl, hab, hc1⟩ := flt_at hr hlt
      obtain ⟨ad', rfl, hab', hc2⟩ := flt_at hr' hlt
      have hc1' : (w.drewN n).cell? (ad.add k) = some (.float .f32 (l.getD k 0)) := hc1
      have hc2' : (w.drewN n).cell? (ad'.add k) = some (.float .f32 (l.getD k 0)) := hc2
      rcases wide_cases (l.getD k 0) with ⟨a, ha1, ha2⟩ | ⟨s, t, hs⟩
      · have HC := fun w => sameFloat_self a ha2 w
        have HV := fun w => run_convert_float_float (P := Try.prog) w 38 48 .f32 .f64 (l.getD k 0) a (by rw [Try.underlying38]; rfl) Try.underlying48 ha1
        clear hr hr' ha1 ha2 hc1 hc2
        generalize l.getD k 0 = x at *
        have HCH := Lib.hid HC
        clear HC
        generalize hW : w.drewN n = w3 at *
        have HW := Lib.hid hW
        clear hW
        go_wp2_with fail
        go_quiet ((go_at_call 25; exact Calls.quiet_of_same (HCH.out _)))
        go_wp2
        go_roundw
        case rel => exact ⟨k + 1, by omega, by go_num, n + nq, by rw [← HW.out, World.drewN_drewN]⟩
        case measure => simp [intOf]; omega
      · have HC := fun a b h1 h2 W => sameFloat_nan a b h1 h2 W
        have HV := fun W => wn_run (l.getD k 0) s t hs W
        clear hr hr' hs hc1 hc2
        generalize l.getD k 0 = x at *
        generalize hW : w.drewN n = w3 at *
        have HW := Lib.hid hW
        clear hW
        go_wp2_with fail
        go_region_with (go_at_call 25; refine (HC _ _ (wn_order _ _) (wn_order _ _) _).mono ?_; rintro e w' ⟨rfl, rfl⟩)
        all_goals
          go_wp2
          go_roundw
          case rel => exact ⟨k + 1, by omega, by go_num, n + 3, by rw [← HW.out]; rfl⟩
          case measure => simp [intOf]; omega
    · have hkn : k = l.length := by omega
      subst hkn
      go_wp2
      go_ret
      exact ⟨rfl, below_drewN (Below.refl _ _) n⟩
theorem markFloat32S_big (A : Option Addr) (c lo hi : Nat) (k0 : Int) (l : List Nat) (w : World) (ho : Own w lo hi 38 A (flts l)) (hk0 : 0 ≤ k0) (hk1 : k0 ≤ 4194304) (hn : l.length ≤ 1048576) :
    Calls Try.prog 8 #[.slice A l.length c, .int .i64 k0] w fun e w' => e = .returned (.int .i64 (k0 + (l.length : Int))) ∧ Own w' lo hi 38 A (flts (fmarks k0 l.length)) ∧ Kp lo hi w w' := by
  by_cases hz : l.length = 0
  · obtain rfl : l = [] := List.eq_nil_of_length_eq_zero hz
    go_enter Try.func8, Try.ntmps8
    go_wp2
    refine wp_loop_rounds 1 ?_
    rw [rounds_succ]
    go_wp2
    go_ret
    exact ⟨by simp, .inl rfl, Kp.refl _ _ _⟩
  · rcases ho with h | ⟨g, cs0, rfl, h1, h2, h3, h4, h5⟩
    · exact absurd (by simpa [flts] using h) hz
    · rw [flts_len] at h4
      have hb0 : Blk w g 38 cs0 := h3
      clear h3 h5
      go_enter Try.func8, Try.ntmps8
      go_wp2
      go_loopw [1, 5] (fun q i wr => ∃ k : Nat, k ≤ l.length ∧ i = .int .i64 k ∧ q = .int .i64 (k0 + (k : Int)) ∧ (∃ cs, Blk wr g 38 cs ∧ cs.size = cs0.size ∧ ∀ j, j < k → cs[j]? = some (.float .f32 (mkf (k0 + (j : Int))))) ∧ Kp lo hi w wr) (fun _ i _ => l.length - (intOf i).toNat)
      case atStart => exact ⟨0, Nat.zero_le _, rfl, by go_num, ⟨cs0, hb0, rfl, fun j hj => by omega⟩, Kp.refl _ _ _⟩
      case round =>
        obtain ⟨k, hk, rfl, rfl, ⟨cs, hblk, hsz, hcs⟩, hkp⟩ := hrel
        by_cases hlt : k < l.length
        · have hc2 : wr.cell? ⟨g, k, none⟩ = cs[k]? := hblk.cell k
          have hc3 := hblk.frozen k
          obtain ⟨u, hc4⟩ : ∃ u, cs[k]? = some u := ⟨cs[k]'(by omega), Array.getElem?_eq_getElem (by omega)⟩
          rw [hc4] at hc2
          have HS := Lib.hid hsz
          clear hsz hc4 hz
          have HC := Lib.hid hcs
          clear hcs
          have HF := cvIF (k0 + (k : Int))
          go_wp2
          go_roundw
          case rel =>
            refine ⟨k + 1, by omega, by go_num, by go_num, ⟨_, hblk.set_ k _, by have := HS.out; simp; omega, fun j hj => ?_⟩, hkp.setCell ⟨h1, h2⟩ _⟩
            rcases Nat.lt_or_ge j k with h | h
            · rw [Array.getElem?_setIfInBounds_ne (by omega)]; exact HC.out j h
            · have : j = k := by omega
              subst this
              rw [Array.getElem?_setIfInBounds_self_of_lt (by have := HS.out; omega)]
          case measure => simp [intOf]; omega
        · have hkn : k = l.length := by omega
          have HC : Hid (∀ j, j < l.length → cs[j]? = some (.float .f32 (mkf (k0 + (j : Int))))) := fun j hj => hcs j (by omega)
          have HS := Lib.hid hsz
          clear hcs hsz
          subst hkn
          go_wp2
          go_ret
          refine ⟨by simp, hblk.own (by simp; have := HS.out; omega) (fun j hj => ?_) h1 h2, hkp⟩
          rw [flts_len, fmarks_len] at hj
          rw [HC.out j hj, flts_at (by simpa using hj), fmarks_at hj]

end Go.Proofs.Ytakkmcplhihjiaa
