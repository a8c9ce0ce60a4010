/-
  The sum of a polynomial's lengths by values (impl.LongOfPoly): a number not below 0, nearly.
-/
import Derived.Test.YtlpibibpckkjhaaNest
namespace Go.Proofs.Ytlpibibpckkjhaa
open Go.RowKit

theorem sq_le {a b : Rat} (h1 : -b ≤ a) (h2 : a ≤ b) : a * a ≤ b * b := by
  have := Rat.mul_nonneg (show (0 : Rat) ≤ b - a by grind) (show (0 : Rat) ≤ b + a by grind)
  grind
theorem nat_le_rat {a b : Nat} (h : a ≤ b) : ((a : Nat) : Rat) ≤ ((b : Nat) : Rat) := Rat.natCast_le_natCast.2 h
theorem nat_succ_rat (a : Nat) : ((a + 1 : Nat) : Rat) = ((a : Nat) : Rat) + 1 := by rw [Rat.natCast_add a 1]; rfl

set_option maxRecDepth 100000 in
set_option maxHeartbeats 800000 in
theorem longOfPoly_v (A : Option Addr) (c n : Nat) (l : List (Nat × Nat)) (hl : l.length = n) (re im : Nat → Rat) (hT : Trms l re im 5) (hn : n ≤ 10) (hv : polyB l = true) (w : World) (hr : Reads w w.heap.size 1 A n (cplx l)) :
    Calls Try.prog 26 #[.agg #[.slice A n c]] w fun e w' => ∃ r v, e = .returned (.tuple #[.float .f32 r, .bool true]) ∧ NV .f32 r v ∧ 0 - 1 / 1000 ≤ v ∧ v ≤ 120 ∧ Below w.heap.size w w' := by
  subst hl
  have hb1 : Below w.heap.size w (w.alloc (.cells #[.slice A l.length c] 33)) := (Below.refl _ _).alloc (Nat.le_refl _) _
  have hP1 := Blk.new w 33 #[.slice A l.length c]
  have HV := validPoly_b A c w.heap.size l _ (hr.below hb1) hb1.size (by omega)
  rw [hv] at HV
  replace hT := Lib.hid hT
  go_enter Try.func26, Try.ntmps26
  go_wp2_with fail
  (with_reducible refine HV.mono ?_)
  rintro e w1 ⟨rfl, hb2⟩
  clear HV hv
  have z2 := hb2.size
  simp only [World.size_alloc] at z2
  have hP2 := hP1.below hb2 (by simp)
  have hb3 := hb1.trans (hb2.mono (by simp))
  clear hP1 hb1 hb2
  have cP : w1.cell? ⟨w.heap.size, 0, none⟩ = some (.slice A l.length c) := hP2.cell 0
  have hr1 := hr.below hb3
  clear hr
  go_wp2
  go_loopw [4, 6, 13] (fun v _ q wr => ∃ k : Nat, k ≤ l.length ∧ q = .int .i64 (k : Int) ∧ (∃ r t, v = .float .f32 r ∧ NV .f32 r t ∧ Hid (0 - ((k : Nat) : Rat) * (1 / 50000) ≤ t ∧ t ≤ ((k : Nat) : Rat) * (11 + 1 / 50000))) ∧ Reads wr w.heap.size 1 A l.length (cplx l) ∧ Below w.heap.size w wr) (fun _ _ q _ => l.length - (intOf q).toNat)
  case atStart => exact ⟨0, Nat.zero_le _, rfl, ⟨0, 0, rfl, nv_zero, by have e0 : ((0 : Nat) : Rat) = 0 := rfl; show _ ∧ _; rw [e0]; grind⟩, hr1, hb3⟩
  case round =>
    obtain ⟨k, hk, rfl, ⟨r, t, rfl, hrt, ht⟩, hr2, hb4⟩ := hrel
    clear hr1 hb3 cP
    have hk10 := nat_le_rat (show k ≤ 10 by omega)
    have e10 : ((10 : Nat) : Rat) = 10 := rfl
    rw [e10] at hk10
    have hk0 := nat_le_rat (Nat.zero_le k)
    have e0 : ((0 : Nat) : Rat) = 0 := rfl
    rw [e0] at hk0
    have ht' := ht.out
    by_cases hlt : k < l.length
    · obtain ⟨t1, t2, t3, t4⟩ := hT.out k hlt
      have s3 := sq_le t3.1 t3.2
      have s4 := sq_le t4.1 t4.2
      obtain ⟨r2, c2, n2, b1, b2, HL⟩ := longOf_v (B := 11) t1 t2 (by grind) (by grind) (by decide) (by decide) (by grind)
      obtain ⟨r3, c3, g3, n3, e3⟩ := add32 hrt n2 (by grind) (by grind)
      unfold Nr at e3
      have j3 := ar32 _ _ _ _ g3
      have es := nat_succ_rat k
      have hfin : Hid (0 - ((k + 1 : Nat) : Rat) * (1 / 50000) ≤ c3 ∧ c3 ≤ ((k + 1 : Nat) : Rat) * (11 + 1 / 50000)) := by
        show _ ∧ _
        rw [es]
        grind
      obtain ⟨ad, rfl, hab, hc1⟩ := comp_at hr2 hlt
      obtain ⟨w5, rfl⟩ : ∃ w5 : World, w5 = wr := ⟨_, rfl⟩
      replace n3 := Lib.hid n3
      clear t1 t2 t3 t4 s3 s4 b1 b2 g3 e3 es ht ht' hk10 hk0 hrt n2
      generalize (l.getD k (0, 0)).1 = x1 at *
      generalize (l.getD k (0, 0)).2 = x2 at *
      go_wp2_with fail
      refine (HL _).mono ?_
      rintro e w6 ⟨rfl, rfl⟩
      go_wp2
      go_roundw
      case rel => exact ⟨k + 1, by omega, by go_num, ⟨r3, c3, rfl, n3.out, hfin⟩, hr2, hb4⟩
      case measure => (simp [intOf]; all_goals omega)
    · obtain rfl : k = l.length := by omega
      have HC := checked_v (nv_fin hrt)
      have hfin : 0 - 1 / 1000 ≤ t ∧ t ≤ 120 := by grind
      replace hfin := Lib.hid hfin
      replace hrt := Lib.hid hrt
      clear ht ht' hk10 hk0
      go_wp2_with fail
      refine (HC _).mono ?_
      rintro e w6 ⟨rfl, hb5⟩
      go_wp2
      go_ret2
      exact ⟨r, t, rfl, hrt.out, hfin.out.1, hfin.out.2, hb4.trans (hb5.mono hb4.size)⟩
end Go.Proofs.Ytlpibibpckkjhaa
