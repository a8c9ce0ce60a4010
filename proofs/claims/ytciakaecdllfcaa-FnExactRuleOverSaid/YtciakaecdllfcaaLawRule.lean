/-
  The law FnExactRuleOver, walked by contracts: whatever the arguments, it returns true and turns nothing that was there.
-/
import Derived.Test.YtciakaecdllfcaaRuleI
namespace Go.Proofs.Ytciakaecdllfcaa
open Go.RowKit

theorem rulL_len (p : Int) (zs : List Int) : (rulL p zs).length ≤ 64 := by
  unfold rulL
  split
  · rename_i h
    have h1 := listB_parts h
    have := ruleOf_le (s := zs) h1.1
    omega
  · simp

set_option maxHeartbeats 1600000 in
theorem lawRule (A : Option Addr) (c : Nat) (zs : List Int) (p : Int) (w : World) (hr : Reads w w.heap.size 1 A zs.length (ints zs)) (hn : zs.length ≤ 1048576) :
    Calls Try.prog 6 #[.slice A zs.length c, .int .i64 p] w fun e w' => e = .returned (.bool true) ∧ Below w.heap.size w w' := by
  have hLn := rulL_len p zs
  have KS := Lib.hid (fun A c B w => rulS_any A c B zs p w)
  have KI := Lib.hid (fun A c B w => rulI_any A c B zs p w)
  generalize rulL p zs = L at *
  generalize listB p 1 zs = b at *
  have hbb : (b != b) = false := by simp
  have y0 : Below w.heap.size w w := Below.refl _ _
  go_enter Try.func6, Try.ntmps6
  go_wp2_with fail
  refine (toInt64S_any A c w.heap.size zs w hr (Nat.le_refl _) hn).mono ?_
  rintro e w1 ⟨A1, c1, rfl, o1, hb1⟩
  have z1 := hb1.size
  have y1 := y0.trans hb1
  clear y0 hb1
  go_wp2_with fail
  refine (KS.out A1 c1 w1.heap.size w1 (o1.reads' (by omega) (by simp)) (Nat.le_refl _) hn).mono ?_
  rintro e w2 ⟨A2, c2, rfl, o2, hb2⟩
  have z2 := hb2.size
  have y2 := y1.trans (hb2.mono (by omega))
  replace o1 := o1.below hb2 (by omega)
  clear y1 hb2
  go_wp2_with fail
  clear o1
  refine (toInt64S_any A c w.heap.size zs w2 (hr.below y2) (by omega) hn).mono ?_
  rintro e w3 ⟨A3, c3, rfl, o3, hb3⟩
  have z3 := hb3.size
  have y3 := y2.trans (hb3.mono (by omega))
  replace o2 := o2.below hb3 (by omega)
  clear y2 hb3
  go_wp2_with fail
  refine (KI.out A3 c3 w3.heap.size w3 (o3.reads' (by omega) (by simp)) (Nat.le_refl _) hn).mono ?_
  rintro e w4 ⟨A4, c4, rfl, o4, hb4⟩
  have z4 := hb4.size
  have y4 := y3.trans (hb4.mono (by omega))
  replace o2 := o2.below hb4 (by omega)
  replace o3 := o3.below hb4 (by omega)
  clear y3 hb4
  go_wp2_with fail
  refine (eqInt64S_b A4 A2 c4 c2 w4.heap.size L w4 (o4.reads' (by omega) (by simp)) (o2.reads' (by omega) (by simp)) (by omega)).mono ?_
  rintro e w5 ⟨rfl, hb5⟩
  have z5 := hb5.size
  have y5 := y4.trans (hb5.mono (by omega))
  replace o2 := o2.below hb5 (by omega)
  replace o3 := o3.below hb5 (by omega)
  replace o4 := o4.below hb5 (by omega)
  clear y4 hb5
  go_wp2_with fail
  refine (toInt64S_any A c w.heap.size zs w5 (hr.below y5) (by omega) hn).mono ?_
  rintro e w6 ⟨A6, c6, rfl, o6, hb6⟩
  have z6 := hb6.size
  have y6 := y5.trans (hb6.mono (by omega))
  replace o2 := o2.below hb6 (by omega)
  replace o3 := o3.below hb6 (by omega)
  replace o4 := o4.below hb6 (by omega)
  clear y5 hb6
  go_wp2_with fail
  refine (eqInt64S_b A3 A6 c3 c6 w6.heap.size zs w6 (o3.reads' (by omega) (by simp)) (o6.reads' (by omega) (by simp)) hn).mono ?_
  rintro e w7 ⟨rfl, hb7⟩
  have z7 := hb7.size
  have y7 := y6.trans (hb7.mono (by omega))
  replace o2 := o2.below hb7 (by omega)
  replace o3 := o3.below hb7 (by omega)
  replace o4 := o4.below hb7 (by omega)
  replace o6 := o6.below hb7 (by omega)
  clear y6 hb7
  go_wp2_with fail
  clear o6
  refine (markInt64S_any A3 c3 _ _ 1 zs w7 o3 hn (by omega)).mono ?_
  rintro e w8 ⟨rfl, m3, hk8⟩
  have z8 := hk8.size
  have y8 := y7.trans (hk8.below (by omega) (by omega))
  replace o2 := o2.kp hk8 (by omega)
  replace o4 := o4.kp hk8 (by omega)
  replace o3 := m3
  clear y7 hk8
  go_wp2_with fail
  clear o3
  refine (eqInt64S_b A4 A2 c4 c2 w8.heap.size L w8 (o4.reads' (by omega) (by simp)) (o2.reads' (by omega) (by simp)) (by omega)).mono ?_
  rintro e w9 ⟨rfl, hb9⟩
  have z9 := hb9.size
  have y9 := y8.trans (hb9.mono (by omega))
  replace o2 := o2.below hb9 (by omega)
  replace o4 := o4.below hb9 (by omega)
  clear y8 hb9
  go_wp2_with fail
  refine (markInt64S_any A4 c4 _ _ 1 L w9 o4 (by omega) (by omega)).mono ?_
  rintro e w10 ⟨rfl, m4, hk10⟩
  have z10 := hk10.size
  have y10 := y9.trans (hk10.below (by omega) (by omega))
  replace o2 := o2.kp hk10 (by omega)
  replace o4 := m4
  clear y9 hk10
  go_wp2_with fail
  refine (heldInt64S_b A4 c4 w10.heap.size 1 L.length w10 (o4.reads' (by omega) (by simp)) (by omega) (by omega)).mono ?_
  rintro e w11 ⟨rfl, hb11⟩
  have z11 := hb11.size
  have y11 := y10.trans (hb11.mono (by omega))
  replace o2 := o2.below hb11 (by omega)
  replace o4 := o4.below hb11 (by omega)
  clear y10 hb11
  go_wp2_with fail
  refine (toInt64S_any A c w.heap.size zs w11 (hr.below y11) (by omega) hn).mono ?_
  rintro e w12 ⟨A12, c12, rfl, o12, hb12⟩
  have z12 := hb12.size
  have y12 := y11.trans (hb12.mono (by omega))
  replace o2 := o2.below hb12 (by omega)
  replace o4 := o4.below hb12 (by omega)
  clear y11 hb12
  go_wp2_with fail
  refine (KI.out A12 c12 w12.heap.size w12 (o12.reads' (by omega) (by simp)) (Nat.le_refl _) hn).mono ?_
  rintro e w13 ⟨A13, c13, rfl, o13, hb13⟩
  have z13 := hb13.size
  have y13 := y12.trans (hb13.mono (by omega))
  replace o2 := o2.below hb13 (by omega)
  replace o4 := o4.below hb13 (by omega)
  replace o12 := o12.below hb13 (by omega)
  clear y12 hb13
  go_wp2_with fail
  clear o12
  refine (eqInt64S_b A13 A2 c13 c2 w13.heap.size L w13 (o13.reads' (by omega) (by simp)) (o2.reads' (by omega) (by simp)) (by omega)).mono ?_
  rintro e w14 ⟨rfl, hb14⟩
  have z14 := hb14.size
  have y14 := y13.trans (hb14.mono (by omega))
  replace o2 := o2.below hb14 (by omega)
  replace o4 := o4.below hb14 (by omega)
  replace o13 := o13.below hb14 (by omega)
  clear y13 hb14
  go_wp2_with fail
  clear o13
  clear o2
  refine (heldInt64S_b A4 c4 w14.heap.size 1 L.length w14 (o4.reads' (by omega) (by simp)) (by omega) (by omega)).mono ?_
  rintro e w15 ⟨rfl, hb15⟩
  have z15 := hb15.size
  have y15 := y14.trans (hb15.mono (by omega))
  replace o4 := o4.below hb15 (by omega)
  clear y14 hb15
  go_wp2_with fail
  go_ret
  exact ⟨rfl, y15⟩
end Go.Proofs.Ytciakaecdllfcaa
