/-
  The law FnExactFollowRule, walked by contracts: whatever the arguments, it returns true and turns nothing that was there.
-/
import Derived.Test.YtciakaecdllfcaaFollowI
namespace Go.Proofs.Ytciakaecdllfcaa
open Go.RowKit

set_option maxHeartbeats 1600000 in
theorem lawFollow (A A' : Option Addr) (c c' : Nat) (rule first : List Int) (p count : Int) (w : World) (hr : Reads w w.heap.size 1 A rule.length (ints rule)) (hr' : Reads w w.heap.size 1 A' first.length (ints first))
    (hn : rule.length ≤ 1048576) (hn' : first.length ≤ 1048576) :
    Calls Try.prog 3 #[.slice A rule.length c, .slice A' first.length c', .int .i64 p, .int .i64 count] w fun e w' => e = .returned (.bool true) ∧ Below w.heap.size w w' := by
  obtain ⟨L, hL⟩ : ∃ L, folL p rule first count = L := ⟨_, rfl⟩
  obtain ⟨b, hb⟩ : ∃ b, folB p rule first count = b := ⟨_, rfl⟩
  have hLn : L.length ≤ 64 := by
    rw [← hL, folL]
    split
    · rename_i h
      rw [ext_len]
      simp only [folB, Bool.and_eq_true] at h
      have := h.2
      simp only [inB, Bool.and_eq_true, decide_eq_true_eq] at this
      omega
    · simp
  have HS := folS_any (rule := rule) (first := first) (p := p) (count := count)
  have HI := folI_any (rule := rule) (first := first) (p := p) (count := count)
  rw [hL, hb] at HS HI
  have KS := Lib.hid HS
  have KI := Lib.hid HI
  clear hL hb HS HI
  have hbb : (b != b) = false := by simp
  go_enter Try.func3, Try.ntmps3
  go_wp2_with fail
  refine (toInt64S_any A c w.heap.size rule w hr (Nat.le_refl _) hn).mono ?_
  rintro e w1 ⟨A1, c1, rfl, o1, hb1⟩
  have z1 := hb1.size
  go_wp2_with fail
  refine (toInt64S_any A' c' w.heap.size first w1 (hr'.below hb1) z1 hn').mono ?_
  rintro e w2 ⟨A2, c2, rfl, o2, hb2⟩
  have z2 := hb2.size
  go_wp2_with fail
  refine (KS.out A1 A2 c1 c2 w2.heap.size w2 ((o1.below hb2 (Nat.le_refl _)).reads' (by omega) (by simp)) (o2.reads' (Nat.le_refl _) (by simp)) (Nat.le_refl _) hn hn').mono ?_
  rintro e w3 ⟨A3, c3, rfl, o3, hb3⟩
  have z3 := hb3.size
  clear o1 o2
  have y3 := hb1.trans ((hb2.mono z1).trans (hb3.mono (Nat.le_trans z1 z2)))
  go_wp2_with fail
  refine (toInt64S_any A c w.heap.size rule w3 (hr.below y3) (by omega) hn).mono ?_
  rintro e w4 ⟨A4, c4, rfl, o4, hb4⟩
  have z4 := hb4.size
  have y4 := y3.trans (hb4.mono (by omega))
  replace o3 := o3.below hb4 (Nat.le_refl _)
  go_wp2_with fail
  refine (toInt64S_any A' c' w.heap.size first w4 (hr'.below y4) (by omega) hn').mono ?_
  rintro e w5 ⟨A5, c5, rfl, o5, hb5⟩
  have z5 := hb5.size
  have y5 := y4.trans (hb5.mono (by omega))
  replace o3 := o3.below hb5 (by omega)
  replace o4 := o4.below hb5 (by omega)
  clear hb1 hb2 hb3 hb4 y3 y4
  go_wp2_with fail
  refine (KI.out A4 A5 c4 c5 w5.heap.size w5 (o4.reads' (by omega) (by simp)) (o5.reads' (by omega) (by simp)) (Nat.le_refl _) hn hn').mono ?_
  rintro e w6 ⟨A6, c6, rfl, o6, hb6⟩
  have z6 := hb6.size
  have y6 := y5.trans (hb6.mono (by omega))
  replace o3 := o3.below hb6 (by omega)
  replace o4 := o4.below hb6 (by omega)
  replace o5 := o5.below hb6 (by omega)
  go_wp2_with fail
  refine (eqInt64S_b A6 A3 c6 c3 w6.heap.size L w6 (o6.reads' (by omega) (by simp)) (o3.reads' (by omega) (by simp)) (by omega)).mono ?_
  rintro e w7 ⟨rfl, hb7⟩
  have z7 := hb7.size
  have y7 := y6.trans (hb7.mono (by omega))
  replace o3 := o3.below hb7 (by omega)
  replace o4 := o4.below hb7 (by omega)
  replace o5 := o5.below hb7 (by omega)
  replace o6 := o6.below hb7 (by omega)
  clear y6 hb7
  go_wp2_with fail
  refine (toInt64S_any A c w.heap.size rule w7 (hr.below y7) (by omega) hn).mono ?_
  rintro e w8 ⟨A8, c8, rfl, o8, hb8⟩
  have z8 := hb8.size
  have y8 := y7.trans (hb8.mono (by omega))
  replace o3 := o3.below hb8 (by omega)
  replace o4 := o4.below hb8 (by omega)
  replace o5 := o5.below hb8 (by omega)
  replace o6 := o6.below hb8 (by omega)
  clear y7 hb8
  go_wp2_with fail
  refine (eqInt64S_b A4 A8 c4 c8 w8.heap.size rule w8 (o4.reads' (by omega) (by simp)) (o8.reads' (by omega) (by simp)) hn).mono ?_
  rintro e w9 ⟨rfl, hb9⟩
  have z9 := hb9.size
  have y9 := y8.trans (hb9.mono (by omega))
  replace o3 := o3.below hb9 (by omega)
  replace o4 := o4.below hb9 (by omega)
  replace o5 := o5.below hb9 (by omega)
  replace o6 := o6.below hb9 (by omega)
  replace o8 := o8.below hb9 (by omega)
  clear y8 hb9
  go_wp2_with fail
  clear o8
  refine (toInt64S_any A' c' w.heap.size first w9 (hr'.below y9) (by omega) hn').mono ?_
  rintro e w10 ⟨A10, c10, rfl, o10, hb10⟩
  have z10 := hb10.size
  have y10 := y9.trans (hb10.mono (by omega))
  replace o3 := o3.below hb10 (by omega)
  replace o4 := o4.below hb10 (by omega)
  replace o5 := o5.below hb10 (by omega)
  replace o6 := o6.below hb10 (by omega)
  clear y9 hb10
  go_wp2_with fail
  refine (eqInt64S_b A5 A10 c5 c10 w10.heap.size first w10 (o5.reads' (by omega) (by simp)) (o10.reads' (by omega) (by simp)) hn').mono ?_
  rintro e w11 ⟨rfl, hb11⟩
  have z11 := hb11.size
  have y11 := y10.trans (hb11.mono (by omega))
  replace o3 := o3.below hb11 (by omega)
  replace o4 := o4.below hb11 (by omega)
  replace o5 := o5.below hb11 (by omega)
  replace o6 := o6.below hb11 (by omega)
  replace o10 := o10.below hb11 (by omega)
  clear y10 hb11
  go_wp2_with fail
  clear o10
  refine (markInt64S_any A4 c4 _ _ 1 rule w11 o4 hn (by omega)).mono ?_
  rintro e w12 ⟨rfl, m4, hk12⟩
  have z12 := hk12.size
  have y12 := y11.trans (hk12.below (by omega) (by omega))
  replace o3 := o3.kp hk12 (by omega)
  replace o5 := o5.kp hk12 (by omega)
  replace o6 := o6.kp hk12 (by omega)
  replace o4 := m4
  clear y11 hk12
  go_wp2_with fail
  refine (markInt64S_any A5 c5 _ _ (1 + (rule.length : Int)) first w12 o5 hn' (by omega)).mono ?_
  rintro e w13 ⟨rfl, m5, hk13⟩
  have z13 := hk13.size
  have y13 := y12.trans (hk13.below (by omega) (by omega))
  replace o3 := o3.kp hk13 (by omega)
  replace o4 := o4.kp hk13 (by omega)
  replace o6 := o6.kp hk13 (by omega)
  replace o5 := m5
  clear y12 hk13
  go_wp2_with fail
  clear o4
  clear o5
  refine (eqInt64S_b A6 A3 c6 c3 w13.heap.size L w13 (o6.reads' (by omega) (by simp)) (o3.reads' (by omega) (by simp)) (by omega)).mono ?_
  rintro e w14 ⟨rfl, hb14⟩
  have z14 := hb14.size
  have y14 := y13.trans (hb14.mono (by omega))
  replace o3 := o3.below hb14 (by omega)
  replace o6 := o6.below hb14 (by omega)
  clear y13 hb14
  go_wp2_with fail
  refine (markInt64S_any A6 c6 _ _ 1 L w14 o6 (by omega) (by omega)).mono ?_
  rintro e w15 ⟨rfl, m6, hk15⟩
  have z15 := hk15.size
  have y15 := y14.trans (hk15.below (by omega) (by omega))
  replace o3 := o3.kp hk15 (by omega)
  replace o6 := m6
  clear y14 hk15
  go_wp2_with fail
  refine (heldInt64S_b A6 c6 w15.heap.size 1 L.length w15 (o6.reads' (by omega) (by simp)) (by omega) (by omega)).mono ?_
  rintro e w16 ⟨rfl, hb16⟩
  have z16 := hb16.size
  have y16 := y15.trans (hb16.mono (by omega))
  replace o3 := o3.below hb16 (by omega)
  replace o6 := o6.below hb16 (by omega)
  clear y15 hb16
  go_wp2_with fail
  refine (toInt64S_any A c w.heap.size rule w16 (hr.below y16) (by omega) hn).mono ?_
  rintro e w17 ⟨A17, c17, rfl, o17, hb17⟩
  have z17 := hb17.size
  have y17 := y16.trans (hb17.mono (by omega))
  replace o3 := o3.below hb17 (by omega)
  replace o6 := o6.below hb17 (by omega)
  clear y16 hb17
  go_wp2_with fail
  refine (toInt64S_any A' c' w.heap.size first w17 (hr'.below y17) (by omega) hn').mono ?_
  rintro e w18 ⟨A18, c18, rfl, o18, hb18⟩
  have z18 := hb18.size
  have y18 := y17.trans (hb18.mono (by omega))
  replace o3 := o3.below hb18 (by omega)
  replace o6 := o6.below hb18 (by omega)
  replace o17 := o17.below hb18 (by omega)
  clear y17 hb18
  go_wp2_with fail
  refine (KI.out A17 A18 c17 c18 w18.heap.size w18 (o17.reads' (by omega) (by simp)) (o18.reads' (by omega) (by simp)) (Nat.le_refl _) hn hn').mono ?_
  rintro e w19 ⟨A19, c19, rfl, o19, hb19⟩
  have z19 := hb19.size
  have y19 := y18.trans (hb19.mono (by omega))
  replace o3 := o3.below hb19 (by omega)
  replace o6 := o6.below hb19 (by omega)
  replace o17 := o17.below hb19 (by omega)
  replace o18 := o18.below hb19 (by omega)
  clear y18 hb19
  go_wp2_with fail
  clear o17
  clear o18
  refine (eqInt64S_b A19 A3 c19 c3 w19.heap.size L w19 (o19.reads' (by omega) (by simp)) (o3.reads' (by omega) (by simp)) (by omega)).mono ?_
  rintro e w20 ⟨rfl, hb20⟩
  have z20 := hb20.size
  have y20 := y19.trans (hb20.mono (by omega))
  replace o3 := o3.below hb20 (by omega)
  replace o6 := o6.below hb20 (by omega)
  replace o19 := o19.below hb20 (by omega)
  clear y19 hb20
  go_wp2_with fail
  clear o19
  clear o3
  refine (heldInt64S_b A6 c6 w20.heap.size 1 L.length w20 (o6.reads' (by omega) (by simp)) (by omega) (by omega)).mono ?_
  rintro e w21 ⟨rfl, hb21⟩
  have z21 := hb21.size
  have y21 := y20.trans (hb21.mono (by omega))
  replace o6 := o6.below hb21 (by omega)
  clear y20 hb21
  go_wp2_with fail
  go_ret
  exact ⟨rfl, y21⟩
end Go.Proofs.Ytciakaecdllfcaa
