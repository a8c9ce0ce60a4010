/-
  The law's own helpers on slices of 32-bit numbers, each by its contract: comparison, marks.
-/
import Derived.Test.YtakkmcplhihjiaaFinL
namespace Go.Proofs.Ytakkmcplhihjiaa
open Go.RowKit

theorem sameFloat_self (y : Nat) (h : Num64 y) (w : World) :
    Calls Try.prog 25 #[.float .f64 y, .float .f64 y] w fun e w' => e = .returned (.bool true) ∧ w' = w := by
  obtain ⟨q, hq⟩ := quo_one h
  have hQ := fun w => run_float_arith (P := Try.prog) w .quo 48 .f64 4607182418800017408 y q hq
  have h1 : (FloatKind.f64.format.order y y != some .eq) = false := by rw [h]; rfl
  have h2 : (FloatKind.f64.format.order y y == some .eq) = true := by rw [h]; rfl
  clear hq h
  go_enter Try.func25, Try.ntmps25
  cases h0 : (FloatKind.f64.format.order y 0 == some .eq) with
  | true =>
    go_wp2
    go_ret
    exact ⟨rfl, rfl⟩
  | false =>
    go_wp2
    go_ret
    exact ⟨rfl, rfl⟩


/-- All numbers are finite. -/
def Fins (l : List Nat) : Prop := l.all fin32B = true
theorem Fins.at_ {l : List Nat} (h : Fins l) {k : Nat} (hk : k < l.length) : fin32B (l.getD k 0) = true := by
  rw [List.getD, List.getElem?_eq_getElem hk]
  exact List.all_eq_true.1 h _ (List.getElem_mem hk)
theorem eqFloat32S_b (A A' : Option Addr) (c c' B : Nat) (l : List Nat) (w : World) (hr : Reads w B 1 A l.length (flts l)) (hr' : Reads w B 1 A' l.length (flts l)) (hw : Fins l) (hn : l.length ≤ 1048576) :
    Calls Try.prog 7 #[.slice A l.length c, .slice A' l.length c'] w fun e w' => e = .returned (.bool true) ∧ Below w.heap.size w w' := by
  have HWd := Lib.hid hw
  clear hw
  go_enter Try.func7, Try.ntmps7
  go_wp2
  go_loopw [5] (fun i wr => ∃ k : Nat, k ≤ l.length ∧ i = .int .i64 k ∧ ∃ n, wr = w.drewN n) (fun i _ => l.length - (intOf i).toNat)
  case atStart => exact ⟨0, Nat.zero_le _, rfl, 0, rfl⟩
  case round =>
    obtain ⟨k, hk, rfl, n, rfl⟩ := hrel
    by_cases hlt : k < l.length
    · obtain ⟨ad, rfl, hab, hc1⟩ := flt_at hr hlt
      obtain ⟨ad', rfl, hab', hc2⟩ := flt_at hr' hlt
      obtain ⟨a, ha1, ha2⟩ := fin_wide (HWd.out.at_ hlt)
      have HC := fun w => sameFloat_self a ha2 w
      have HV := fun w => run_convert_float_float (P := Try.prog) w 38 48 .f32 .f64 (l.getD k 0) a (by rw [Try.underlying38]; rfl) Try.underlying48 ha1
      have hc1' : (w.drewN n).cell? (ad.add k) = some (.float .f32 (l.getD k 0)) := hc1
      have hc2' : (w.drewN n).cell? (ad'.add k) = some (.float .f32 (l.getD k 0)) := hc2
      clear hr hr' ha1 ha2 hc1 hc2
      generalize l.getD k 0 = x at *
      have HCH := Lib.hid HC
      clear HC
      generalize hW : w.drewN n = w3 at *
      have HW := Lib.hid hW
      clear hW
      go_wp2_with fail
      go_quiet ((go_at_call 25; exact Calls.quiet_of_same (HCH.out _)))
      go_wp2
      go_roundw
      case rel => exact ⟨k + 1, by omega, by go_num, n + nq, by rw [← HW.out, World.drewN_drewN]⟩
      case measure => simp [intOf]; omega
    · have hkn : k = l.length := by omega
      subst hkn
      go_wp2
      go_ret
      exact ⟨rfl, below_drewN (Below.refl _ _) n⟩
theorem eqFloat32S_nil (w : World) : Calls Try.prog 7 #[.slice none 0 0, .slice none 0 0] w fun e w' => e = .returned (.bool true) ∧ Below w.heap.size w w' :=
  eqFloat32S_b none none 0 0 0 [] w Reads.none_ Reads.none_ rfl (by simp)

/-- A small integer as a 32-bit number. -/
def mkf (k : Int) : Nat := floatOfInt .f32 k
theorem mkf_ok (k : Int) (h0 : 0 ≤ k) (h1 : k < 1024) : FloatKind.f32.format.order (mkf k) (mkf k) = some .eq := by
  have key : ∀ n ∈ List.range 1024, FloatKind.f32.format.order (mkf (n : Int)) (mkf (n : Int)) = some .eq := by decide +kernel
  obtain ⟨n, rfl⟩ := Int.eq_ofNat_of_zero_le h0
  exact key n (List.mem_range.2 (by omega))
/-- The marks of a slice of numbers. -/
def fmarks (k0 : Int) (n : Nat) : List Nat := (List.range n).map fun (j : Nat) => mkf (k0 + (j : Int))
@[simp] theorem fmarks_len (k0 : Int) (n : Nat) : (fmarks k0 n).length = n := by simp [fmarks]
theorem fmarks_at {k0 : Int} {n j : Nat} (h : j < n) : (fmarks k0 n).getD j 0 = mkf (k0 + (j : Int)) := by
  simp [fmarks, List.getD, h]
theorem cvIF (k : Int) (w : World) : (convert 3 38 (.int .i64 k)).run Try.prog w = .ok (.float .f32 (mkf k)) w :=
  run_convert_int_float (P := Try.prog) w 3 38 .i64 .f32 k (by rw [Try.underlying3]; rfl) Try.underlying38

theorem markFloat32S_any (A : Option Addr) (c lo hi : Nat) (k0 : Int) (l : List Nat) (w : World) (ho : Own w lo hi 38 A (flts l)) (hk0 : 0 ≤ k0) (hn : k0 + (l.length : Int) < 1024) :
    Calls Try.prog 8 #[.slice A l.length c, .int .i64 k0] w fun e w' => e = .returned (.int .i64 (k0 + (l.length : Int))) ∧ Own w' lo hi 38 A (flts (fmarks k0 l.length)) ∧ Kp lo hi w w' := by
  by_cases hz : l.length = 0
  · obtain rfl : l = [] := List.eq_nil_of_length_eq_zero hz
    go_enter Try.func8, Try.ntmps8
    go_wp2
    refine wp_loop_rounds 1 ?_
    rw [rounds_succ]
    go_wp2
    go_ret
    exact ⟨by simp, .inl rfl, Kp.refl _ _ _⟩
  · rcases ho with h | ⟨g, cs0, rfl, h1, h2, h3, h4, h5⟩
    · exact absurd (by simpa [flts] using h) hz
    · rw [flts_len] at h4
      have hb0 : Blk w g 38 cs0 := h3
      clear h3 h5
      go_enter Try.func8, Try.ntmps8
      go_wp2
      go_loopw [1, 5] (fun q i wr => ∃ k : Nat, k ≤ l.length ∧ i = .int .i64 k ∧ q = .int .i64 (k0 + (k : Int)) ∧ (∃ cs, Blk wr g 38 cs ∧ cs.size = cs0.size ∧ ∀ j, j < k → cs[j]? = some (.float .f32 (mkf (k0 + (j : Int))))) ∧ Kp lo hi w wr) (fun _ i _ => l.length - (intOf i).toNat)
      case atStart => exact ⟨0, Nat.zero_le _, rfl, by go_num, ⟨cs0, hb0, rfl, fun j hj => by omega⟩, Kp.refl _ _ _⟩
      case round =>
        obtain ⟨k, hk, rfl, rfl, ⟨cs, hblk, hsz, hcs⟩, hkp⟩ := hrel
        by_cases hlt : k < l.length
        · have hc2 : wr.cell? ⟨g, k, none⟩ = cs[k]? := hblk.cell k
          have hc3 := hblk.frozen k
          obtain ⟨u, hc4⟩ : ∃ u, cs[k]? = some u := ⟨cs[k]'(by omega), Array.getElem?_eq_getElem (by omega)⟩
          rw [hc4] at hc2
          have HS := Lib.hid hsz
          clear hsz hc4 hz
          have HC := Lib.hid hcs
          clear hcs
          have HF := cvIF (k0 + (k : Int))
          go_wp2
          go_roundw
          case rel =>
            refine ⟨k + 1, by omega, by go_num, by go_num, ⟨_, hblk.set_ k _, by have := HS.out; simp; omega, fun j hj => ?_⟩, hkp.setCell ⟨h1, h2⟩ _⟩
            rcases Nat.lt_or_ge j k with h | h
            · rw [Array.getElem?_setIfInBounds_ne (by omega)]; exact HC.out j h
            · have : j = k := by omega
              subst this
              rw [Array.getElem?_setIfInBounds_self_of_lt (by have := HS.out; omega)]
          case measure => simp [intOf]; omega
        · have hkn : k = l.length := by omega
          have HC : Hid (∀ j, j < l.length → cs[j]? = some (.float .f32 (mkf (k0 + (j : Int))))) := fun j hj => hcs j (by omega)
          have HS := Lib.hid hsz
          clear hcs hsz
          subst hkn
          go_wp2
          go_ret
          refine ⟨by simp, hblk.own (by simp; have := HS.out; omega) (fun j hj => ?_) h1 h2, hkp⟩
          rw [flts_len, fmarks_len] at hj
          rw [HC.out j hj, flts_at (by simpa using hj), fmarks_at hj]

theorem heldFloat32S_b (A : Option Addr) (c B : Nat) (k0 : Int) (n : Nat) (w : World) (hr : Reads w B 1 A n (flts (fmarks k0 n))) (hk0 : 0 ≤ k0) (hn : k0 + (n : Int) < 1024) :
    Calls Try.prog 9 #[.slice A n c, .int .i64 k0] w fun e w' => e = .returned (.int .i64 (k0 + (n : Int))) ∧ Below w.heap.size w w' := by
  go_enter Try.func9, Try.ntmps9
  go_wp2
  go_loopw [1, 5] (fun q i wr => ∃ k : Nat, k ≤ n ∧ i = .int .i64 k ∧ q = .int .i64 (k0 + (k : Int)) ∧ ∃ m, wr = w.drewN m) (fun _ i _ => n - (intOf i).toNat)
  case atStart => exact ⟨0, Nat.zero_le _, rfl, by go_num, 0, rfl⟩
  case round =>
    obtain ⟨k, hk, rfl, rfl, m, rfl⟩ := hrel
    by_cases hlt : k < n
    · have hr2 : Reads w B 1 A (fmarks k0 n).length (flts (fmarks k0 n)) := by rw [fmarks_len]; exact hr
      obtain ⟨ad, rfl, hab, hc1⟩ := flt_at hr2 (by rw [fmarks_len]; exact hlt)
      rw [fmarks_at hlt] at hc1
      have HF := cvIF (k0 + (k : Int))
      have q1 : (FloatKind.f32.format.order (mkf (k0 + (k : Int))) (mkf (k0 + (k : Int))) != some .eq) = false := by rw [mkf_ok _ (by omega) (by omega)]; rfl
      have hc2 : (w.drewN m).cell? (ad.add k) = some (.float .f32 (mkf (k0 + (k : Int)))) := hc1
      clear hr hr2 hc1
      go_wp2
      go_roundw
      case rel => exact ⟨k + 1, by omega, by go_num, by go_num, _, rfl⟩
      case measure => simp [intOf]; omega
    · have hkn : k = n := by omega
      subst hkn
      go_wp2
      go_ret
      exact ⟨by simp, below_drewN (Below.refl _ _) m⟩
end Go.Proofs.Ytakkmcplhihjiaa
