/-
  The contract of the reference's FollowRule.
-/
import Derived.Test.YtciakaecdllfcaaFollowW
namespace Go.Proofs.Ytciakaecdllfcaa
open Go.RowKit

theorem reads_one (w : World) (u : Value) (E : TypeId) : Reads (w.alloc (.cells #[u] E)) (w.heap.size + 1) 1 (some ⟨w.heap.size, 0, none⟩) 1 [u] :=
  Own.reads (xs := [u]) (lo := 0) (E := E) (.inr ⟨w.heap.size, _, rfl, by omega, by omega, heap_alloc_new w _, by simp, by simp⟩)

theorem one_int (x : Int) : ∀ u ∈ [Value.int .i64 x], u.oneCell' = true := by intro u hu; simp at hu; subst hu; rfl

def folB (p : Int) (rule first : List Int) (count : Int) : Bool := listB p 0 rule && listB p 0 first && decide (rule.length = first.length) && inB count 0 64
/-- The list that FollowRule returns. -/
def folL (p : Int) (rule first : List Int) (count : Int) : List Int := if folB p rule first count then ext p rule first count.toNat else []

theorem listB_parts {p : Int} {ln : Nat} {zs : List Int} (h : listB p ln zs = true) : isP p = true ∧ ln ≤ zs.length ∧ zs.length ≤ 64 ∧ overB p zs = true := by
  simp only [listB, Bool.and_eq_true, decide_eq_true_eq] at h
  exact ⟨h.1.1.1, h.1.1.2, h.1.2, h.2⟩

/-- What a function with a slice of integers and a bool returns. -/
def Gives (B : Nat) (zs : List Int) (b : Bool) (w : World) (e : Ending) (w' : World) : Prop :=
  ∃ A c, e = .returned (.tuple #[.slice A zs.length c, .bool b]) ∧ Own w' B w'.heap.size 2 A (ints zs) ∧ Below w.heap.size w w'

set_option maxHeartbeats 800000 in
theorem folS_any (A A' : Option Addr) (c c' B : Nat) (rule first : List Int) (p count : Int) (w : World) (hr : Reads w B 1 A rule.length (ints rule)) (hr' : Reads w B 1 A' first.length (ints first)) (hB : B ≤ w.heap.size) (hn : rule.length ≤ 1048576) (hn' : first.length ≤ 1048576) :
    Calls Try.prog 7 #[.slice A rule.length c, .slice A' first.length c', .int .i64 p, .int .i64 count] w (Gives w.heap.size (folL p rule first count) (folB p rule first count) w) := by
  obtain ⟨i0, hi, hz0, hz1, hz2⟩ := info_parts info2
  cases h1 : listB p 0 rule with
  | false =>
    have hf : folB p rule first count = false := by simp [folB, h1]
    rw [folL, hf]
    have H := l07List_any A c B rule p 0 0 rfl false h1 w hr hn
    clear h1 hf hr hr'
    go_enter Try.func7, Try.ntmps7
    go_wp2_with fail
    refine H.mono ?_
    rintro e w' ⟨rfl, rfl⟩
    go_wp2_with fail
    go_ret2
    exact ⟨none, 0, rfl, Own.nil, Below.refl _ _⟩
  | true =>
  cases h2 : listB p 0 first with
  | false =>
    have hf : folB p rule first count = false := by simp [folB, h2]
    rw [folL, hf]
    have H := l07List_any A c B rule p 0 0 rfl true h1 w hr hn
    have H2 := l07List_any A' c' B first p 0 0 rfl false h2 w hr' hn'
    clear h1 h2 hf hr hr'
    go_enter Try.func7, Try.ntmps7
    go_wp2_with fail
    refine H.mono ?_
    rintro e w' ⟨rfl, rfl⟩
    go_wp2_with fail
    refine H2.mono ?_
    rintro e w' ⟨rfl, rfl⟩
    go_wp2_with fail
    go_ret2
    exact ⟨none, 0, rfl, Own.nil, Below.refl _ _⟩
  | true =>
  have H := l07List_any A c B rule p 0 0 rfl true h1 w hr hn
  have H2 := l07List_any A' c' B first p 0 0 rfl true h2 w hr' hn'
  by_cases h3 : rule.length = first.length
  · cases h4 : inB count 0 64 with
    | false =>
      have hf : folB p rule first count = false := by simp [folB, h4]
      rw [folL, hf]
      have H3 := l00In_any count 0 64 false h4 w
      have h3' : ((rule.length : Int) != (first.length : Int)) = false := by simp [h3]
      clear h1 h2 h3 h4 hf hr hr'
      go_enter Try.func7, Try.ntmps7
      go_wp2_with fail
      refine H.mono ?_
      rintro e w' ⟨rfl, rfl⟩
      go_wp2_with fail
      refine H2.mono ?_
      rintro e w' ⟨rfl, rfl⟩
      go_wp2_with fail
      refine H3.mono ?_
      rintro e w' ⟨rfl, rfl⟩
      go_wp2_with fail
      go_ret2
      exact ⟨none, 0, rfl, Own.nil, Below.refl _ _⟩
    | true =>
      have hf : folB p rule first count = true := by simp [folB, h1, h2, h3, h4]
      rw [folL, hf]
      have H3 := l00In_any count 0 64 true h4 w
      have h3' : ((rule.length : Int) != (first.length : Int)) = false := by simp [h3]
      have hcn : 0 ≤ count ∧ count ≤ 64 := by simpa [inB] using h4
      have hp := isP_one (listB_parts h1).1
      have hro := (listB_parts h1).2.2.2
      have hfo := (listB_parts h2).2.2.2
      have hlr := (listB_parts h1).2.2.1
      have hlf : first.length ≤ rule.length := by omega
      have hlf2 : rule.length ≤ first.length := by omega
      obtain ⟨n, rfl⟩ := Int.eq_ofNat_of_zero_le hcn.1
      have hRO := Lib.hid hro
      have hFO := Lib.hid hfo
      simp only [if_true, Int.toNat_natCast]
      clear h1 h2 h3 h4 hf hro hfo
      go_enter Try.func7, Try.ntmps7
      go_wp2_with fail
      refine H.mono ?_
      rintro e w' ⟨rfl, rfl⟩
      go_wp2_with fail
      refine H2.mono ?_
      rintro e w' ⟨rfl, rfl⟩
      go_wp2_with fail
      refine H3.mono ?_
      rintro e w' ⟨rfl, rfl⟩
      clear H H2 H3
      go_wp2_with fail
      go_loopw [10, 11] (fun v i wr => ∃ k : Nat, k ≤ n ∧ i = .int .i64 k ∧ wr.ownsRow w.heap.size 2 1 v k (ints (ext p rule first k)) ∧ Below w.heap.size w wr) (fun _ i _ => n - (intOf i).toNat)
      case atStart => exact ⟨0, Nat.zero_le _, rfl, World.ownsRow_made w #[] 0 (Nat.le_refl _) (by simp [maxLen]) rfl, (Below.refl _ _).alloc (Nat.le_refl _) _⟩
      case round =>
        obtain ⟨k, hk, rfl, hown, hbr⟩ := hrel
        obtain ⟨Ao, co, rfl, -, hko, hO⟩ := Own.of_row hown (Nat.le_refl _)
        by_cases hlt : k < n
        · by_cases hkf : k < first.length
          · obtain ⟨ad, rfl, hab, hc1⟩ := int_at (hr'.below (hbr.mono hB)) hkf
            have hE : Hid (ext p rule first (k + 1) = ext p rule first k ++ [first.getD k 0]) := by show _ = _; rw [ext, if_pos hkf]
            clear hO hr hr'
            generalize first.getD k 0 = x at *
            go_wp2_with (at_builtin; refine wpList_append_any _ rfl (.tmp 46) (.tmp 51) _ rfl w.heap.size 2 i0 _ 1 8 Try.underlying22 hi hz0 hz1 hz2 rfl (by omega) (.slice Ao k co) k (ints (ext p rule first k)) rfl (hown.alloc _) (wr.heap.size + 1) (some ⟨wr.heap.size, 0, none⟩) 1 1 [.int .i64 x] rfl (reads_one wr _ _) (one_int x) (by simp only [maxLen]; omega) (by omega) (by simp; have := hbr.size; omega) ?_; intro v1 w1 hown1 hg1 hat1)
            have hb1 : Below w.heap.size w w1 := (hbr.alloc hbr.size _).grown hg1 (by simp; have := hbr.size; omega) (fun j hj => (hown.lt j hj).1)
            clear hg1 hat1 hown
            go_wp2
            go_roundw
            case rel => exact ⟨k + 1, by omega, by go_num, by rw [hE.out]; simpa [ints] using hown1, hb1⟩
            case measure => simp [intOf]; omega
          · obtain ⟨wo, rfl⟩ : ∃ wo : World, wo = wr := ⟨_, rfl⟩
            have hE : Hid (ext p rule first (k + 1) = ext p rule first k ++ [md p (dotTo rule (ext p rule first k) rule.length)]) := ext_next (by omega)
            have hXO : Hid (overB p (ext p rule first k) = true) := overB_ext (by omega) hFO.out k
            have hXL : Hid ((ext p rule first k).length = k) := ext_len _ _ _ _
            generalize ext p rule first k = X at *
            go_wp2_with fail
            go_loopw [12, 55] (fun s i w2 => ∃ j : Nat, j ≤ rule.length ∧ i = .int .i64 j ∧ s = .int .i64 (dotTo rule X j) ∧ ∃ m, w2 = wo.drewN m) (fun _ i _ => rule.length - (intOf i).toNat)
            case atStart => exact ⟨0, Nat.zero_le _, rfl, rfl, 0, rfl⟩
            case round =>
              obtain ⟨j, hj, rfl, rfl, m, rfl⟩ := hrel
              by_cases hlt2 : j < rule.length
              · obtain ⟨ad, rfl, hab, hc1⟩ := int_at (hr.below (hbr.mono hB)) hlt2
                have hO2 : Reads wo wo.heap.size 1 Ao X.length (ints X) := by have := hO.reads; rwa [ints_len] at this
                obtain ⟨ad2, rfl, hab2, hc2⟩ := int_at (k := k - 1 - j) hO2 (by have := hXL.out; omega)
                have hd := dotTo_bd (by omega) hp.2 hRO.out hXO.out j
                have ha := overB_getD (by omega) hRO.out j
                have hb := overB_getD (by omega) hXO.out (k - 1 - j)
                have hab' := mul_bd (n := 12) (m := 12) ⟨ha.1, by omega⟩ ⟨hb.1, by omega⟩
                have hD : Hid (dotTo rule X (j + 1) = dotTo rule X j + rule.getD j 0 * X.getD (k - 1 - j) 0) := by
                  show _ = _
                  rw [dotTo, hXL.out]
                clear hO2 hr hr' hO
                generalize rule.getD j 0 = a at *
                generalize X.getD (k - 1 - j) 0 = b at *
                generalize dotTo rule X j = D at *
                go_wp2_with fail
                go_quiet (fail)
                go_wp2
                go_roundw
                case rel => exact ⟨j + 1, by omega, by go_num, by rw [hD.out], _, rfl⟩
                case measure => simp [intOf]; omega
              · have hjn : j = rule.length := by omega
                subst hjn
                have hd := dotTo_bd (by omega) hp.2 hRO.out hXO.out rule.length
                have HM := l03Mod_any (dotTo rule X rule.length) p (by omega) (by omega)
                have hown2 : (wo.drewN m).ownsRow w.heap.size 2 1 (.slice Ao k co) k (ints X) := hown
                have hbr2 := below_drewN hbr m
                clear hO hr hr' hown hbr
                generalize hmd : md p (dotTo rule X rule.length) = y at *
                generalize dotTo rule X rule.length = D at *
                generalize wo.drewN m = w2 at *
                clear hmd
                go_wp2_with (first | (go_at_call 29; refine (HM _).mono ?_; rintro e w' ⟨rfl, rfl⟩) | (at_builtin; refine wpList_append_any _ rfl (.tmp 73) (.tmp 77) _ rfl w.heap.size 2 i0 _ 1 8 Try.underlying22 hi hz0 hz1 hz2 rfl (by omega) (.slice Ao k co) k (ints X) rfl (hown2.alloc _) (w2.heap.size + 1) (some ⟨w2.heap.size, 0, none⟩) 1 1 [.int .i64 y] rfl (reads_one w2 _ _) (one_int y) (by simp only [maxLen]; omega) (by omega) (by simp; have := hbr2.size; omega) ?_; intro v1 w1 hown1 hg1 hat1))
                have hb1 : Below w.heap.size w w1 := (hbr2.alloc hbr2.size _).grown hg1 (by simp; have := hbr2.size; omega) (fun j hj => (hown2.lt j hj).1)
                clear hg1 hat1 hown2
                go_wp2
                go_roundw
                case rel => exact ⟨k + 1, by omega, by go_num, by rw [hE.out]; simpa [ints] using hown1, hb1⟩
                case measure => simp [intOf]; omega
        · have hkn : k = n := by omega
          subst hkn
          have hXL : Hid ((ext p rule first k).length = k) := ext_len _ _ _ _
          clear hr hr' hown
          generalize ext p rule first k = X at *
          go_wp2
          go_ret2
          exact ⟨Ao, co, by rw [hXL.out]; rfl, hO, hbr⟩
  · have hf : folB p rule first count = false := by simp [folB, h3]
    rw [folL, hf]
    have h3' : ((rule.length : Int) != (first.length : Int)) = true := by rw [bne_iff_ne]; omega
    clear h1 h2 h3 hf hr hr'
    go_enter Try.func7, Try.ntmps7
    go_wp2_with fail
    refine H.mono ?_
    rintro e w' ⟨rfl, rfl⟩
    go_wp2_with fail
    refine H2.mono ?_
    rintro e w' ⟨rfl, rfl⟩
    go_wp2_with fail
    go_ret2
    exact ⟨none, 0, rfl, Own.nil, Below.refl _ _⟩
end Go.Proofs.Ytciakaecdllfcaa
