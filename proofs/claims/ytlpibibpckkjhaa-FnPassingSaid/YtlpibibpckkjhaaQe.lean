/-
  Weights of points and Lagrange's value, by words (impl.PointWeights, LagrangeAt).
  Lagrange's value, by words (impl.LagrangeAt): at a point, and elsewhere.
  Sums and products of lists, by words (impl.termAt, turned, sums, products, AddPolys, MulPolys).
  Sums and products of polynomials, by words (impl.AddPolys, MulPolys).
  Newton's polynomial by its terms, by words (impl.NewtonPoly).
  The polynomial that passes values, by words (impl.PassingPoly); the same polynomial (impl.SamePoly).
  How far a polynomial misses values (impl.MissOf); the length of a polynomial (impl.LongOfPoly).
-/
import Derived.Test.YtlpibibpckkjhaaQd
import Derived.Deep.RegionHeld3
import Derived.Deep.CutRange
namespace Go.Proofs.Ytlpibibpckkjhaa
open Go.RowKit
/-- A product of differences, out of its first factors. -/
def wtT (pts : List (Nat × Nat)) (i : Nat) : Nat → Option (Nat × Nat)
  | 0 => some (1065353216, 0)
  | k + 1 => (wtT pts i k).bind fun p => if k = i then some p else (minusW (pts.getD i (0, 0)) (pts.getD k (0, 0))).bind fun d => mulW p d
theorem wtT_upto {pts : List (Nat × Nat)} {i : Nat} {r : Nat × Nat} {m : Nat} (h : wtT pts i m = some r) : ∀ j, j ≤ m → ∃ s, wtT pts i j = some s := by
  induction m generalizing r with
  | zero =>
    intro j hj
    obtain rfl : j = 0 := by omega
    exact ⟨r, h⟩
  | succ m ih =>
    intro j hj
    have h' := h
    rw [wtT, Option.bind_eq_some_iff] at h
    obtain ⟨s, h1, -⟩ := h
    by_cases e : j = m + 1
    · subst e
      exact ⟨r, h'⟩
    · exact ih h1 j (by omega)
structure WgtR (pts lo : List (Nat × Nat)) : Prop where
  len : lo.length = pts.length
  at_ : ∀ i, i < lo.length → ∃ p, wtT pts i lo.length = some p ∧ quoW (1065353216, 0) p = some (lo.getD i (0, 0))
  fin : ∀ i, i < lo.length → fin32B (lo.getD i (0, 0)).1 = true ∧ fin32B (lo.getD i (0, 0)).2 = true
theorem take_snoc_c {lo : List (Nat × Nat)} {k : Nat} (hk : k < lo.length) : cplx (lo.take k) ++ [.complex .f32 (lo.getD k (0, 0)).1 (lo.getD k (0, 0)).2] = cplx (lo.take (k + 1)) := by
  rw [cplx_snoc]
  congr 1
  rw [List.take_add_one, List.getD, List.getElem?_eq_getElem hk]
  rfl
set_option maxRecDepth 100000 in
set_option maxHeartbeats 1600000 in
theorem pointWeights_w (A : Option Addr) (c n : Nat) (pts lo : List (Nat × Nat)) (hl : pts.length = n) (hc : n ≤ c) (hP : PtsOk pts) (h : WgtR pts lo) (w : World) (hr : Reads w w.heap.size 1 A n (cplx pts)) :
    Calls Try.prog 34 #[.slice A n c] w fun e w' => ∃ g c', e = .returned (.tuple #[.slice (some ⟨g, 0, none⟩) n c', .bool true]) ∧ Own w' w.heap.size w'.heap.size 36 (some ⟨g, 0, none⟩) (cplx lo) ∧ Below w.heap.size w w' := by
  obtain ⟨i0, hi, hz0, hz1, hz2⟩ := info_parts infoC
  have HA := arePoints_any A c w.heap.size n pts hl hc hP w hr (Nat.le_refl _)
  have hn17 : n ≤ 17 := by rw [← hl]; exact hP.len.2
  have hn1 : 1 ≤ n := by rw [← hl]; exact hP.len.1
  obtain ⟨hlen, hat, hfin⟩ := h
  rw [hl] at hlen
  replace hat := Lib.hid hat
  replace hfin := Lib.hid hfin
  clear hP
  go_enter Try.func34, Try.ntmps34
  go_wp2_with fail
  (with_reducible refine HA.mono ?_)
  rintro e w1 ⟨rfl, hb1⟩
  clear HA
  have z1 := hb1.size
  go_wp2
  have hown0 : (w1.alloc (.cells #[] 36)).ownsRow w.heap.size 36 1 (.slice (some ⟨w1.heap.size, 0, none⟩) 0 0) 0 (cplx (lo.take 0)) := World.ownsRow_made w1 #[] 0 z1 (by simp [maxLen]) rfl
  have hb0 : Below w.heap.size w (w1.alloc (.cells #[] 36)) := hb1.alloc z1 _
  go_loopw [4, 5, 6, 7, 8, 9, 16] (fun v _ _ _ _ _ q wr => ∃ k : Nat, k ≤ n ∧ q = .int .i64 (k : Int) ∧ wr.ownsRow w.heap.size 36 1 v k (cplx (lo.take k)) ∧ Below w.heap.size w wr) (fun _ _ _ _ _ _ q _ => n - (intOf q).toNat)
  case atStart => exact ⟨0, Nat.zero_le _, rfl, hown0, hb0⟩
  case round =>
    obtain ⟨k, hk, rfl, hown, hbr⟩ := hrel
    obtain ⟨wo, rfl⟩ : ∃ wo : World, wo = wr := ⟨_, rfl⟩
    clear hown0 hb0 hb1 z1
    have zo := hbr.size
    by_cases hlt : k < n
    · obtain ⟨Ao, co, rfl, -, hko, -⟩ := Own.of_row hown (Nat.le_refl _)
      obtain ⟨p, hp, hq⟩ := hat.out k (by omega)
      rw [hlen] at hp
      obtain ⟨ad, rfl, -, hc1⟩ := comp_at (l := pts) (k := k) (by rw [hl]; exact hr.below hbr) (by omega)
      have hp0 : Hid (wtT pts k 0 = some (1065353216, 0)) := rfl
      have hsn := Lib.hid (take_snoc_c (lo := lo) (k := k) (by omega))
      have HQ := quoW_calls hq
      replace hp := Lib.hid hp
      have hk1 : (k : Int) < (n : Int) := by omega
      clear hat hq hfin
      generalize lo.getD k (0, 0) = Y at *
      generalize hX : pts.getD k (0, 0) = X at *
      replace hX := Lib.hid hX
      go_wp2
      go_loopw [7, 8, 9, 23] (fun v _ _ q wr => ∃ (i : Nat) (x : Nat × Nat), i ≤ n ∧ q = .int .i64 (i : Int) ∧ v = .complex .f32 x.1 x.2 ∧ Hid (wtT pts k i = some x) ∧ wr = wo) (fun _ _ _ q _ => n - (intOf q).toNat)
      case atStart => exact ⟨0, (1065353216, 0), Nat.zero_le _, rfl, rfl, hp0, rfl⟩
      case round =>
        obtain ⟨i, x, hin, rfl, rfl, hx, rfl⟩ := hrel
        clear hp0
        by_cases hlt2 : i < n
        · obtain ⟨ad2, e2, -, hc2⟩ := comp_at (l := pts) (k := i) (by rw [hl]; exact hr.below hbr) (by omega)
          cases e2
          have hi1 : (i : Int) < (n : Int) := by omega
          obtain ⟨s, hs⟩ := wtT_upto hp.out (i + 1) (by omega)
          have hs2 := hs
          rw [wtT, hx.out, Option.bind_some] at hs2
          by_cases hik : i = k
          · subst hik
            rw [if_pos rfl] at hs2
            have hs3 : Hid (wtT pts i (i + 1) = some x) := by show _ = _; rw [hs, hs2]
            have hne : ¬ (i : Int) ≠ (i : Int) := by omega
            clear hx hr hs hs2 hp HQ
            generalize pts.getD i (0, 0) = X2 at *
            go_wp2
            go_roundw
            case rel => exact ⟨i + 1, x, by omega, by go_num, rfl, hs3, trivial⟩
            case measure => (simp [intOf]; all_goals omega)
          · rw [if_neg hik, hX.out, Option.bind_eq_some_iff] at hs2
            obtain ⟨d, g1, g2⟩ := hs2
            have H1 := minusW_calls g1
            have H2 := mulW_calls g2
            replace hs := Lib.hid hs
            have hne : (i : Int) ≠ (k : Int) := by omega
            have hne2 : ¬ i = k := by omega
            clear hx hr hp HQ g1 g2 hX
            generalize pts.getD i (0, 0) = X2 at *
            go_wp2_with fail
            refine (H1 _).mono ?_
            rintro e w3 ⟨rfl, rfl⟩
            go_wp2_with fail
            refine (H2 _).mono ?_
            rintro e w3 ⟨rfl, rfl⟩
            go_wp2
            go_roundw
            case rel => exact ⟨i + 1, s, by omega, by go_num, rfl, hs, trivial⟩
            case measure => (simp [intOf]; all_goals omega)
        · obtain rfl : i = n := by omega
          have he : x = p := by
            have := hx.out
            rw [hp.out] at this
            exact (Option.some.inj this).symm
          subst he
          clear hx hp hr
          go_wp2_with fail
          refine (HQ _).mono ?_
          rintro e w3 ⟨rfl, rfl⟩
          clear HQ
          go_wp2_with (at_builtin; refine wpList_append_any _ rfl (.tmp 37) (.tmp 40) _ rfl w.heap.size 36 i0 _ 1 8 Try.underlying31 hi hz0 hz1 hz2 rfl (by omega) (.slice Ao k co) k (cplx (lo.take k)) rfl (hown.alloc _) (w3.heap.size + 1) (some ⟨w3.heap.size, 0, none⟩) 1 1 [.complex .f32 Y.1 Y.2] rfl (reads_new w3 [_] _) (one_cplx Y.1 Y.2) (by simp only [maxLen]; omega) (by omega) (by simp; omega) ?_; intro v1 w4 hown3 hg3 hat3)
          have hb3 : Below w.heap.size w3 w4 := ((Below.refl _ _).alloc (by omega) _).grown hg3 (by simp; omega) (fun j hj => (hown.lt j hj).1)
          rw [hsn.out] at hown3
          have hb4 := hbr.trans hb3
          go_roundw
          case rel => exact ⟨k + 1, by omega, by go_num, hown3, hb4⟩
          case measure => (simp [intOf]; all_goals omega)
    · obtain rfl : n = k := by omega
      obtain ⟨g, cg, rfl, hlg⟩ := World.ownsRow.form hown (by omega)
      rw [List.take_of_length_le (by omega)] at hown
      have hO := (own_row hown).wide (lo' := w.heap.size) (hi' := wo.heap.size) hlg.1 (by omega)
      have HL := checkedList_yes (some ⟨g, 0, none⟩) cg wo.heap.size n lo hlen wo (hO.reads' (Nat.le_refl _) (by simp [hlen])) (Nat.le_refl _) (by omega) (fun k hk => hfin.out k (by omega))
      clear hat hfin hr hown
      go_wp2_with fail
      (with_reducible refine HL.mono ?_)
      rintro e w3 ⟨rfl, hb4⟩
      go_wp2
      go_ret2
      exact ⟨g, cg, rfl, (hO.below hb4 (Nat.le_refl _)).wide (Nat.le_refl _) hb4.size, hbr.trans (hb4.mono zo)⟩
end Go.Proofs.Ytlpibibpckkjhaa
namespace Go.Proofs.Ytlpibibpckkjhaa
open Go.RowKit
/-- What stands above and below, out of the first summands. -/
def lagT (pts vals ws : List (Nat × Nat)) (z : Nat × Nat) : Nat → Option ((Nat × Nat) × (Nat × Nat))
  | 0 => some ((0, 0), (0, 0))
  | k + 1 => (lagT pts vals ws z k).bind fun s => (minusW z (pts.getD k (0, 0))).bind fun d => (quoW (ws.getD k (0, 0)) d).bind fun q => (mulW q (vals.getD k (0, 0))).bind fun m => (plusW s.1 m).bind fun a => (plusW s.2 q).bind fun b => some (a, b)
theorem lagT_upto {pts vals ws : List (Nat × Nat)} {z : Nat × Nat} {r : (Nat × Nat) × (Nat × Nat)} {m : Nat} (h : lagT pts vals ws z m = some r) : ∀ j, j ≤ m → ∃ s, lagT pts vals ws z j = some s := by
  induction m generalizing r with
  | zero =>
    intro j hj
    obtain rfl : j = 0 := by omega
    exact ⟨r, h⟩
  | succ m ih =>
    intro j hj
    have h' := h
    rw [lagT, Option.bind_eq_some_iff] at h
    obtain ⟨s, h1, -⟩ := h
    by_cases e : j = m + 1
    · subst e
      exact ⟨r, h'⟩
    · exact ih h1 j (by omega)
set_option maxRecDepth 100000 in
set_option maxHeartbeats 1600000 in
theorem lagrangeAt_hit (A A' : Option Addr) (c c' n p : Nat) (pts vals : List (Nat × Nat)) (z : Nat × Nat) (hl : pts.length = n) (hl' : vals.length = n) (hc : n ≤ c) (hP : PtsOk pts) (hV : vals.all finCB = true) (hzf : fin32B z.1 = true ∧ fin32B z.2 = true) (hp : p < n)
    (h1 : ∀ k, k < p → eqC z (pts.getD k (0, 0)) = false) (h2 : eqC z (pts.getD p (0, 0)) = true) (w : World) (hr : Reads w w.heap.size 1 A n (cplx pts)) (hr' : Reads w w.heap.size 1 A' n (cplx vals)) :
    Calls Try.prog 40 #[.slice A n c, .slice A' n c', .complex .f32 z.1 z.2] w fun e w' => e = .returned (.tuple #[.complex .f32 (vals.getD p (0, 0)).1 (vals.getD p (0, 0)).2, .bool true]) ∧ Below w.heap.size w w' := by
  have HZ := fun W => allFinite_b (some ⟨W.heap.size, 0, none⟩) 1 (W.heap.size + 1) [(z.1, z.2)] (W.alloc (.cells #[.complex .f32 z.1 z.2] 36)) (comp_one W z.1 z.2) (by simp) (by simp)
  have hfa : [(z.1, z.2)].all finCB = true := by simp [finCB, hzf]
  simp only [hfa] at HZ
  clear hfa hzf
  have HA := areValued_any A A' c c' n pts vals hl hl' hc hP hV w hr hr'
  have hn17 : n ≤ 17 := by rw [← hl]; exact hP.len.2
  obtain ⟨X, hX⟩ : ∃ X, X = vals.getD p (0, 0) := ⟨_, rfl⟩
  rw [← hX]
  replace hX := Lib.hid hX
  clear hP hV
  go_enter Try.func40, Try.ntmps40
  go_wp2_with fail
  (with_reducible refine HA.mono ?_)
  rintro e w1 ⟨rfl, hb1⟩
  clear HA
  have z1 := hb1.size
  have hb1a : Below w1.heap.size w1 (w1.alloc (.cells #[.complex .f32 z.1 z.2] 36)) := (Below.refl _ _).alloc (Nat.le_refl _) _
  go_wp2_with fail
  refine (HZ w1).mono ?_
  rintro e w2 ⟨rfl, hb1b⟩
  clear HZ
  replace hb1 := (hb1.trans (hb1a.mono z1)).trans (hb1b.mono (by simp; omega))
  replace z1 := hb1.size
  clear hb1a hb1b
  have HI := index_any A c w.heap.size n n p pts z hl (Nat.le_refl _) (by omega) (by omega) h1 (fun _ => h2) p (fun _ => rfl) (fun h' => absurd hp h') w2 (hr.below hb1)
  obtain ⟨ad, rfl, -, hc1⟩ := comp_at (l := vals) (k := p) (by rw [hl']; exact hr'.below hb1) (by omega)
  rw [← hX.out] at hc1
  have hp0 : (0 : Int) ≤ (p : Int) := by omega
  have hp1 : (p : Int) < (n : Int) := by omega
  clear h1 h2 hr hr' hX
  go_wp2_with fail
  refine HI.mono ?_
  rintro e w3 ⟨rfl, rfl⟩
  go_wp2
  go_ret2
  exact ⟨rfl, hb1⟩
set_option maxRecDepth 100000 in
set_option maxHeartbeats 1600000 in
theorem lagrangeAt_w (A A' : Option Addr) (c c' n : Nat) (pts vals ws : List (Nat × Nat)) (z r : Nat × Nat) (s : (Nat × Nat) × (Nat × Nat)) (hl : pts.length = n) (hl' : vals.length = n) (hc : n ≤ c) (hP : PtsOk pts) (hV : vals.all finCB = true) (hzf : fin32B z.1 = true ∧ fin32B z.2 = true)
    (h1 : ∀ k, k < n → eqC z (pts.getD k (0, 0)) = false) (hW : WgtR pts ws) (hs : lagT pts vals ws z n = some s) (hq : quoW s.1 s.2 = some r) (hf : fin32B r.1 = true ∧ fin32B r.2 = true) (w : World) (hr : Reads w w.heap.size 1 A n (cplx pts)) (hr' : Reads w w.heap.size 1 A' n (cplx vals)) :
    Calls Try.prog 40 #[.slice A n c, .slice A' n c', .complex .f32 z.1 z.2] w fun e w' => e = .returned (.tuple #[.complex .f32 r.1 r.2, .bool true]) ∧ Below w.heap.size w w' := by
  have HF := finite_v hf.1 hf.2
  have HZ := fun W => allFinite_b (some ⟨W.heap.size, 0, none⟩) 1 (W.heap.size + 1) [(z.1, z.2)] (W.alloc (.cells #[.complex .f32 z.1 z.2] 36)) (comp_one W z.1 z.2) (by simp) (by simp)
  have hfa : [(z.1, z.2)].all finCB = true := by simp [finCB, hzf]
  simp only [hfa] at HZ
  clear hfa hzf hf
  have HA := areValued_any A A' c c' n pts vals hl hl' hc hP hV w hr hr'
  have hn17 : n ≤ 17 := by rw [← hl]; exact hP.len.2
  have hwl : ws.length = n := by rw [hW.len, hl]
  have HQ := quoW_calls hq
  replace hs := Lib.hid hs
  clear hV hq
  go_enter Try.func40, Try.ntmps40
  go_wp2_with fail
  (with_reducible refine HA.mono ?_)
  rintro e w1 ⟨rfl, hb1⟩
  clear HA
  have z1 := hb1.size
  have hb1a : Below w1.heap.size w1 (w1.alloc (.cells #[.complex .f32 z.1 z.2] 36)) := (Below.refl _ _).alloc (Nat.le_refl _) _
  go_wp2_with fail
  refine (HZ w1).mono ?_
  rintro e w2 ⟨rfl, hb1b⟩
  clear HZ
  replace hb1 := (hb1.trans (hb1a.mono z1)).trans (hb1b.mono (by simp; omega))
  replace z1 := hb1.size
  clear hb1a hb1b
  have HI := index_any A c w.heap.size n n n pts z hl (Nat.le_refl _) (by omega) (Nat.le_refl _) h1 (fun h => absurd h (by omega)) (-1) (fun h => absurd h (by omega)) (fun _ => rfl) w2 (hr.below hb1)
  clear h1
  go_wp2_with fail
  refine HI.mono ?_
  rintro e w3 ⟨rfl, rfl⟩
  clear HI
  have HP := pointWeights_w A c n pts ws hl hc hP hW w3 ((hr.below hb1).more z1)
  go_wp2_with fail
  (with_reducible refine HP.mono ?_)
  rintro e w4 ⟨gw, cw, rfl, hOw, hb2⟩
  clear HP hP hW
  have z2 := hb2.size
  have hb3 := hb1.trans (hb2.mono z1)
  have hRw : Reads w4 w4.heap.size 1 (some ⟨gw, 0, none⟩) n (cplx ws) := hOw.reads' (Nat.le_refl _) (by simp [hwl])
  have hRp := hr.below hb3
  have hRv := hr'.below hb3
  have h00 : Hid (lagT pts vals ws z 0 = some ((0, 0), (0, 0))) := rfl
  clear hOw hb1 hb2 z1 hr hr'
  go_wp2
  go_loopw [11, 12, 13, 14, 15, 44] (fun a b _ _ _ q wr => ∃ (k : Nat) (t : (Nat × Nat) × (Nat × Nat)), k ≤ n ∧ q = .int .i64 (k : Int) ∧ a = .complex .f32 t.1.1 t.1.2 ∧ b = .complex .f32 t.2.1 t.2.2 ∧ Hid (lagT pts vals ws z k = some t) ∧ wr = w4) (fun _ _ _ _ _ q _ => n - (intOf q).toNat)
  case atStart => exact ⟨0, ((0, 0), (0, 0)), Nat.zero_le _, rfl, rfl, rfl, h00, rfl⟩
  case round =>
    obtain ⟨k, t, hk, rfl, rfl, rfl, ht, rfl⟩ := hrel
    clear h00
    by_cases hlt : k < n
    · obtain ⟨ad1, e1, -, hc1⟩ := comp_at (l := ws) (k := k) (by rw [hwl]; exact hRw) (by omega)
      cases e1
      obtain ⟨ad2, rfl, -, hc2⟩ := comp_at (l := pts) (k := k) (by rw [hl]; exact hRp) (by omega)
      obtain ⟨ad3, rfl, -, hc3⟩ := comp_at (l := vals) (k := k) (by rw [hl']; exact hRv) (by omega)
      rw [add0] at hc1
      obtain ⟨u, hu⟩ := lagT_upto hs.out (k + 1) (by omega)
      have hu2 := hu
      rw [lagT, ht.out, Option.bind_some] at hu2
      simp only [Option.bind_eq_some_iff] at hu2
      obtain ⟨d, g1, q, g2, m, g3, a, g4, b, g5, e⟩ := hu2
      cases e
      have H1 := minusW_calls g1
      have H2 := quoW_calls g2
      have H3 := mulW_calls g3
      have H4 := plusW_calls g4
      have H5 := plusW_calls g5
      replace hu := Lib.hid hu
      have hk1 : (k : Int) < (n : Int) := by omega
      have hk0 : (0 : Int) ≤ (k : Int) := by omega
      clear ht hs hRw hRp hRv g1 g2 g3 g4 g5 HQ
      generalize ws.getD k (0, 0) = X1 at *
      generalize pts.getD k (0, 0) = X2 at *
      generalize vals.getD k (0, 0) = X3 at *
      go_wp2_with fail
      refine (H1 _).mono ?_
      rintro e w5 ⟨rfl, rfl⟩
      go_wp2_with fail
      refine (H2 _).mono ?_
      rintro e w5 ⟨rfl, rfl⟩
      go_wp2_with fail
      refine (H3 _).mono ?_
      rintro e w5 ⟨rfl, rfl⟩
      go_wp2_with fail
      refine (H4 _).mono ?_
      rintro e w5 ⟨rfl, rfl⟩
      go_wp2_with fail
      refine (H5 _).mono ?_
      rintro e w5 ⟨rfl, rfl⟩
      go_wp2
      go_roundw
      case rel => exact ⟨k + 1, (a, b), by omega, by go_num, rfl, rfl, hu, trivial⟩
      case measure => (simp [intOf]; all_goals omega)
    · obtain rfl : n = k := by omega
      have he : t = s := by
        have := ht.out
        rw [hs.out] at this
        exact (Option.some.inj this).symm
      subst he
      clear ht hs hRw hRp hRv
      go_wp2_with fail
      refine (HQ _).mono ?_
      rintro e w5 ⟨rfl, rfl⟩
      go_wp2_with fail
      refine (HF _).mono ?_
      rintro e w6 ⟨rfl, hb4⟩
      go_wp2
      go_ret2
      exact ⟨rfl, hb3.trans (hb4.mono hb3.size)⟩
end Go.Proofs.Ytlpibibpckkjhaa
namespace Go.Proofs.Ytlpibibpckkjhaa
open Go.RowKit
theorem termAt_w (A : Option Addr) (c B n k : Nat) (l : List (Nat × Nat)) (hl : l.length = n) (hn : n ≤ 1000) (w : World) (hr : Reads w B 1 A n (cplx l)) :
    Calls Try.prog 111 #[.slice A n c, .int .i64 (k : Int)] w fun e w' => e = .returned (.complex .f32 (l.getD k (0, 0)).1 (l.getD k (0, 0)).2) ∧ w' = w := by
  subst hl
  have hk0 : ¬ (k : Int) < 0 := by omega
  by_cases hk : k < l.length
  · obtain ⟨ad, rfl, -, hc1⟩ := comp_at hr hk
    have h1 : ¬ (k : Int) ≥ (l.length : Int) := by omega
    have h2 : (0 : Int) ≤ (k : Int) := by omega
    have h3 : (k : Int) < (l.length : Int) := by omega
    obtain ⟨X, hX⟩ : ∃ X, X = l.getD k (0, 0) := ⟨_, rfl⟩
    rw [← hX] at hc1 ⊢
    clear hr hX
    go_enter Try.func111, Try.ntmps111
    go_wp2
    go_ret
    exact ⟨rfl, rfl⟩
  · have e : l.getD k (0, 0) = (0, 0) := by simp [List.getD, List.getElem?_eq_none (show l.length ≤ k by omega)]
    rw [e]
    have h1 : (k : Int) ≥ (l.length : Int) := by omega
    clear hr e
    go_enter Try.func111, Try.ntmps111
    go_wp2
    go_ret
    exact ⟨rfl, rfl⟩
def turnW (x : Nat × Nat) : Nat × Nat := (Op.negFloat .f32 x.1, Op.negFloat .f32 x.2)
theorem turned_w (x : Nat × Nat) (w : World) :
    Calls Try.prog 80 #[.complex .f32 x.1 x.2] w fun e w' => e = .returned (.complex .f32 (turnW x).1 (turnW x).2) ∧ w' = w := by
  unfold turnW
  simp only
  have kn : ∀ w, (Op.unary .neg (.float .f32 x.1)).run Try.prog w = .ok (.float .f32 (Op.negFloat .f32 x.1)) w := fun w => rfl
  have km : ∀ w, (Op.unary .neg (.float .f32 x.2)).run Try.prog w = .ok (.float .f32 (Op.negFloat .f32 x.2)) w := fun w => rfl
  generalize Op.negFloat .f32 x.1 = y at *
  generalize Op.negFloat .f32 x.2 = z at *
  go_enter Try.func80, Try.ntmps80
  go_wp2
  go_ret
  exact ⟨rfl, rfl⟩
/-- A list of sums. -/
structure SumR (a b lo : List (Nat × Nat)) : Prop where
  len : lo.length = max a.length b.length
  at_ : ∀ k, k < lo.length → plusW (a.getD k (0, 0)) (b.getD k (0, 0)) = some (lo.getD k (0, 0))
theorem max_runI (a b : Nat) (w : World) : (Builtin.max_ #[3, 3] 3 #[.int .i64 (a : Int), .int .i64 (b : Int)]).run Try.prog w = .ok (.int .i64 ((max a b : Nat) : Int)) w := by
  by_cases h : (a : Int) ≤ (b : Int)
  · have e : max a b = b := by omega
    rw [e]
    simp [Builtin.max_, Builtin.max2]
    omega
  · have e : max a b = a := by omega
    rw [e]
    simp [Builtin.max_, Builtin.max2]
    omega
set_option maxRecDepth 100000 in
set_option maxHeartbeats 1600000 in
theorem sums_w (A A' : Option Addr) (c c' n m N : Nat) (a b lo : List (Nat × Nat)) (ha : a.length = n) (hb : b.length = m) (hN : N = max n m) (hn : n ≤ 100) (hm : m ≤ 100) (h : SumR a b lo) (w : World) (hr : Reads w w.heap.size 1 A n (cplx a)) (hr' : Reads w w.heap.size 1 A' m (cplx b)) (h1 : 1 ≤ n) :
    Calls Try.prog 103 #[.slice A n c, .slice A' m c'] w fun e w' => ∃ g c'', e = .returned (.slice (some ⟨g, 0, none⟩) N c'') ∧ N ≤ c'' ∧ w'.ownsRow w.heap.size 36 1 (.slice (some ⟨g, 0, none⟩) N c'') N (cplx lo) ∧ w.heap.size ≤ g ∧ g < w'.heap.size ∧ Below w.heap.size w w' := by
  obtain ⟨i0, hi, hz0, hz1, hz2⟩ := info_parts infoC
  obtain ⟨hlen, hat⟩ := h
  rw [ha, hb, ← hN] at hlen
  have hmx := max_runI n m
  rw [← hN] at hmx
  have hN1 : n ≤ N := by omega
  have hN2 : m ≤ N := by omega
  have hN3 : N ≤ 100 := by omega
  clear hN
  replace hat := Lib.hid hat
  go_enter Try.func103, Try.ntmps103
  go_wp2
  have hown0 : (w.alloc (.cells #[] 36)).ownsRow w.heap.size 36 1 (.slice (some ⟨w.heap.size, 0, none⟩) 0 0) 0 (cplx (lo.take 0)) := World.ownsRow_made w #[] 0 (Nat.le_refl _) (by simp [maxLen]) rfl
  have hb0 : Below w.heap.size w (w.alloc (.cells #[] 36)) := (Below.refl _ _).alloc (Nat.le_refl _) _
  go_loopw [5, 6, 13] (fun v _ q wr => ∃ k : Nat, k ≤ N ∧ q = .int .i64 (k : Int) ∧ wr.ownsRow w.heap.size 36 1 v k (cplx (lo.take k)) ∧ Below w.heap.size w wr) (fun _ _ q _ => N - (intOf q).toNat)
  case atStart => exact ⟨0, Nat.zero_le _, rfl, hown0, hb0⟩
  case round =>
    obtain ⟨k, hk, rfl, hown, hbr⟩ := hrel
    obtain ⟨wo, rfl⟩ : ∃ wo : World, wo = wr := ⟨_, rfl⟩
    clear hown0 hb0
    have zo := hbr.size
    obtain ⟨Ao, co, rfl, -, hko, -⟩ := Own.of_row hown (Nat.le_refl _)
    by_cases hlt : k < N
    · have H1 := termAt_w A c w.heap.size n k a ha (by omega) wo (hr.below hbr)
      have H2 := termAt_w A' c' w.heap.size m k b hb (by omega) wo (hr'.below hbr)
      have H3 := plusW_calls (hat.out k (by omega))
      have hsn : cplx (lo.take k) ++ [.complex .f32 (lo.getD k (0, 0)).1 (lo.getD k (0, 0)).2] = cplx (lo.take (k + 1)) := by
        rw [cplx_snoc]
        congr 1
        rw [List.take_add_one, List.getD, List.getElem?_eq_getElem (show k < lo.length by omega)]
        rfl
      replace hsn := Lib.hid hsn
      have hk1 : (k : Int) < (N : Int) := by omega
      clear hat hmx hr hr'
      generalize lo.getD k (0, 0) = X at *
      generalize a.getD k (0, 0) = Y at *
      generalize b.getD k (0, 0) = Z at *
      go_wp2_with fail
      refine H1.mono ?_
      rintro e w1 ⟨rfl, rfl⟩
      go_wp2_with fail
      refine H2.mono ?_
      rintro e w1 ⟨rfl, rfl⟩
      go_wp2_with fail
      refine (H3 _).mono ?_
      rintro e w1 ⟨rfl, rfl⟩
      clear H1 H2 H3
      go_wp2_with (at_builtin; refine wpList_append_any _ rfl (.tmp 16) (.tmp 24) _ rfl w.heap.size 36 i0 _ 1 8 Try.underlying31 hi hz0 hz1 hz2 rfl (by omega) (.slice Ao k co) k (cplx (lo.take k)) rfl (hown.alloc _) (w1.heap.size + 1) (some ⟨w1.heap.size, 0, none⟩) 1 1 [.complex .f32 X.1 X.2] rfl (reads_new w1 [_] _) (one_cplx X.1 X.2) (by simp only [maxLen]; omega) (by omega) (by simp; omega) ?_; intro v1 w3 hown3 hg3 hat3)
      have hb3 : Below w.heap.size w1 w3 := ((Below.refl _ _).alloc (by omega) _).grown hg3 (by simp; omega) (fun j hj => (hown.lt j hj).1)
      rw [hsn.out] at hown3
      exact ⟨⟨k + 1, by omega, by go_num, hown3, hbr.trans hb3⟩, by simp [intOf]; omega⟩
    · obtain rfl : N = k := by omega
      obtain ⟨g, cg, e2, hlg⟩ := World.ownsRow.form hown (by omega)
      cases e2
      rw [List.take_of_length_le (by omega)] at hown
      clear hat hmx hr hr'
      go_wp2
      go_ret
      exact ⟨g, co, rfl, hko, hown, hlg.1, hlg.2, hbr⟩
/-- A term of a product, out of its first summands. -/
def prodT (a b : List (Nat × Nat)) (k : Nat) : Nat → Option (Nat × Nat)
  | 0 => some (0, 0)
  | i + 1 => (prodT a b k i).bind fun s => if i ≤ k ∧ k - i < b.length then (mulW (a.getD i (0, 0)) (b.getD (k - i) (0, 0))).bind fun m => plusW s m else some s
theorem prodT_upto {a b : List (Nat × Nat)} {k : Nat} {r : Nat × Nat} {m : Nat} (h : prodT a b k m = some r) : ∀ j, j ≤ m → ∃ s, prodT a b k j = some s := by
  induction m generalizing r with
  | zero =>
    intro j hj
    obtain rfl : j = 0 := by omega
    exact ⟨r, h⟩
  | succ m ih =>
    intro j hj
    have h' := h
    rw [prodT, Option.bind_eq_some_iff] at h
    obtain ⟨s, h1, -⟩ := h
    by_cases e : j = m + 1
    · subst e
      exact ⟨r, h'⟩
    · exact ih h1 j (by omega)
/-- A list of terms of a product. -/
structure ProdR (a b lo : List (Nat × Nat)) : Prop where
  len : lo.length = a.length + b.length - 1
  at_ : ∀ k, k < lo.length → prodT a b k a.length = some (lo.getD k (0, 0))
set_option maxRecDepth 100000 in
set_option maxHeartbeats 1600000 in
theorem products_w (A A' : Option Addr) (c c' n m N : Nat) (a b lo : List (Nat × Nat)) (ha : a.length = n) (hb : b.length = m) (hN : n + m = N + 1) (hn : 1 ≤ n ∧ n ≤ 40) (hm : 1 ≤ m ∧ m ≤ 40) (h : ProdR a b lo) (w : World) (hr : Reads w w.heap.size 1 A n (cplx a)) (hr' : Reads w w.heap.size 1 A' m (cplx b)) :
    Calls Try.prog 102 #[.slice A n c, .slice A' m c'] w fun e w' => ∃ g c'', e = .returned (.slice (some ⟨g, 0, none⟩) N c'') ∧ N ≤ c'' ∧ CV w' g lo ∧ lo.length = N ∧ w.heap.size ≤ g ∧ Below w.heap.size w w' := by
  obtain ⟨i0, hi, hz0, hz1, hz2⟩ := info_parts infoC
  obtain ⟨hlen, hat⟩ := h
  have hwn : IntKind.i64.wrap ((n : Int) + (m : Int) - 1) = (N : Int) := by
    rw [show (n : Int) + (m : Int) - 1 = (N : Int) by omega]
    exact IntWalk.i64_in _ (by omega)
  have hnm : IntKind.i64.wrap ((n : Int) + (m : Int)) = (n : Int) + (m : Int) := IntWalk.i64_in _ (by omega)
  replace hat := Lib.hid hat
  go_enter Try.func102, Try.ntmps102
  go_wp2_with (at_make; refine wpList_make_full _ rfl _ _ _ rfl w.heap.size 36 i0 (.complex .f32 0 0) 1 Try.underlying31 hi hz0 hz1 .i64 .i64 _ _ N rfl rfl (by omega) (by omega) (by rw [hz2]; omega) (by unfold maxLen; omega) (by omega) ?_; intro w2 hown2 hg2)
  have hb3 : Below w.heap.size w w2 := (Below.refl _ _).grown hg2 (Nat.le_refl _) (by simp)
  rw [made_zero] at hown2
  have hV2 := CV.of_row hown2
  obtain ⟨O, hO⟩ : ∃ O, O = w.heap.size := ⟨_, rfl⟩
  rw [← hO] at hV2 ⊢
  have hOl : w.heap.size ≤ O := by omega
  have hlN : lo.length = N := by omega
  have hz0' : ∀ j, j < N → (List.replicate N ((0, 0) : Nat × Nat)).getD j (0, 0) = (0, 0) := fun j hj => by simp [List.getD, hj]
  clear hown2 hg2 hO hwn hnm
  go_wp2_with fail
  go_loopw [6, 7, 8, 18] (fun _ _ _ q wr => ∃ k : Nat, k ≤ N ∧ q = .int .i64 (k : Int) ∧ (∃ s : List (Nat × Nat), s.length = N ∧ Hid (∀ j, j < k → s.getD j (0, 0) = lo.getD j (0, 0)) ∧ Hid (∀ j, k ≤ j → j < N → s.getD j (0, 0) = (0, 0)) ∧ CV wr O s) ∧ Below w.heap.size w wr) (fun _ _ _ q _ => N - (intOf q).toNat)
  case atStart => exact ⟨0, Nat.zero_le _, rfl, ⟨_, by simp, fun j hj => by omega, fun j _ hj => hz0' j hj, hV2⟩, hb3⟩
  case round =>
    obtain ⟨k, hk, rfl, ⟨s, hsl, hs1, hs2, hVs⟩, hbr⟩ := hrel
    obtain ⟨wo, rfl⟩ : ∃ wo : World, wo = wr := ⟨_, rfl⟩
    clear hV2 hb3 hz0'
    have zo := hbr.size
    by_cases hlt : k < N
    · have hall := Lib.hid (hat.out k (by omega))
      have h00 : Hid (prodT a b k 0 = some (s.getD k (0, 0))) := by
        show _ = _
        rw [hs2.out k (Nat.le_refl _) hlt]; rfl
      have hs3 : Hid (∀ j, k < j → j < N → s.getD j (0, 0) = (0, 0)) := fun j h1 h2 => hs2.out j (by omega) h2
      have hk1 : (k : Int) < (N : Int) := by omega
      clear hs2
      go_wp2
      go_loopw [7, 8, 23] (fun _ _ q wr => ∃ i : Nat, i ≤ n ∧ q = .int .i64 (i : Int) ∧ (∃ s : List (Nat × Nat), s.length = N ∧ Hid (∀ j, j < k → s.getD j (0, 0) = lo.getD j (0, 0)) ∧ Hid (∀ j, k < j → j < N → s.getD j (0, 0) = (0, 0)) ∧ Hid (prodT a b k i = some (s.getD k (0, 0))) ∧ CV wr O s) ∧ Below w.heap.size w wr) (fun _ _ q _ => n - (intOf q).toNat)
      case atStart => exact ⟨0, Nat.zero_le _, rfl, ⟨s, hsl, hs1, hs3, h00, hVs⟩, hbr⟩
      case round =>
        obtain ⟨i, hin, rfl, ⟨t, htl, ht1, ht2, ht3, hVt⟩, hbq⟩ := hrel
        obtain ⟨wq, rfl⟩ : ∃ wq : World, wq = wr := ⟨_, rfl⟩
        clear hVs hbr zo h00 hs1 hs3
        have zq := hbq.size
        by_cases hlt2 : i < n
        · obtain ⟨ad1, rfl, -, hc1⟩ := comp_at (l := a) (k := i) (by rw [ha]; exact hr.below hbq) (by omega)
          have hi1 : (i : Int) < (n : Int) := by omega
          have hwk : IntKind.i64.wrap ((k : Int) - (i : Int)) = (k : Int) - (i : Int) := IntWalk.i64_in _ (by omega)
          obtain ⟨u, hu⟩ := prodT_upto hall.out (i + 1) (by omega)
          have hu2 := hu
          rw [prodT, ht3.out, Option.bind_some] at hu2
          by_cases hc : i ≤ k ∧ k - i < m
          · obtain ⟨hc1', hc2'⟩ := hc
            rw [if_pos ⟨hc1', by omega⟩, Option.bind_eq_some_iff] at hu2
            obtain ⟨v, g1, g2⟩ := hu2
            have H1 := mulW_calls g1
            have H2 := plusW_calls g2
            obtain ⟨ad2, rfl, -, hc2⟩ := comp_at (l := b) (k := k - i) (by rw [hb]; exact hr'.below hbq) (by omega)
            have hc3 := hVt.cell (i := k) (by omega)
            have hfo := hVt.frozen k
            have e1 : (k : Int) - (i : Int) = ((k - i : Nat) : Int) := by omega
            replace hwk : IntKind.i64.wrap ((k : Int) - (i : Int)) = ((k - i : Nat) : Int) := by rw [hwk]; exact e1
            have f1 : ((k - i : Nat) : Int) ≥ 0 := by omega
            have f2 : ((k - i : Nat) : Int) < (m : Int) := by omega
            have f3 : k - i < m := by omega
            have hVd := Lib.hid (CV.set (hVt.drew) (i := k) (by omega) u.1 u.2)
            have hbn := Lib.hid (below_set (below_drew hbq) (a := ⟨O, k, none⟩) hOl (.complex .f32 u.1 u.2))
            have hn1 : Hid (∀ j, j < k → (t.set k (u.1, u.2)).getD j (0, 0) = lo.getD j (0, 0)) := fun j hj => by
              rw [getD_set _ _ _ _ _ (by omega), if_neg (by omega)]; exact ht1.out j hj
            have hn2 : Hid (∀ j, k < j → j < N → (t.set k (u.1, u.2)).getD j (0, 0) = (0, 0)) := fun j h1 h2 => by
              rw [getD_set _ _ _ _ _ (by omega), if_neg (by omega)]; exact ht2.out j h1 h2
            have hn3 : Hid (prodT a b k (i + 1) = some ((t.set k (u.1, u.2)).getD k (0, 0))) := by
              show _ = _
              rw [getD_set _ _ _ _ _ (by omega), if_pos rfl, hu]
            have htl2 : (t.set k (u.1, u.2)).length = N := by rw [List.length_set, htl]
            clear ht1 ht2 ht3 hVt hr hr' hat hall g1 g2 hu e1
            generalize a.getD i (0, 0) = X1 at *
            generalize b.getD (k - i) (0, 0) = X2 at *
            generalize t.getD k (0, 0) = X3 at *
            go_wp2_with fail
            refine wp_region_still_tail 16 (by kernel_rfl) (by kernel_rfl) ?_
            simp only [List.take_succ_cons, List.take_zero, List.drop_succ_cons, List.drop_zero]
            repeat still_step
            still_call (H1 _)
            repeat still_step
            still_call (H2 _)
            repeat still_step
            refine wpStill_nil ?_
            change wpList _ _ _ _ _ wq.drew
            go_wp2
            go_roundw
            case rel => exact ⟨i + 1, by omega, by go_num, ⟨_, htl2, hn1, hn2, hn3, hVd.out⟩, hbn.out⟩
            case measure => (simp [intOf]; all_goals omega)
          · rw [if_neg (by rw [hb]; exact hc)] at hu2
            have hu3 : Hid (prodT a b k (i + 1) = some (t.getD k (0, 0))) := by
              show _ = _
              rw [hu, hu2]
            clear ht3 hr hr' hat hall hu hu2
            generalize a.getD i (0, 0) = X1 at *
            by_cases hik : i ≤ k
            · have f1 : (k : Int) - (i : Int) ≥ 0 := by omega
              have f2 : ¬ (k : Int) - (i : Int) < (m : Int) := by omega
              go_wp2
              go_roundw
              case rel => exact ⟨i + 1, by omega, by go_num, ⟨t, htl, ht1, ht2, hu3, hVt⟩, hbq⟩
              case measure => (simp [intOf]; all_goals omega)
            · have f1 : ¬ (k : Int) - (i : Int) ≥ 0 := by omega
              go_wp2
              go_roundw
              case rel => exact ⟨i + 1, by omega, by go_num, ⟨t, htl, ht1, ht2, hu3, hVt⟩, hbq⟩
              case measure => (simp [intOf]; all_goals omega)
        · obtain rfl : n = i := by omega
          have hk2 : Hid (∀ j, j < k + 1 → t.getD j (0, 0) = lo.getD j (0, 0)) := fun j hj => by
            by_cases e : j = k
            · subst e
              have h1 := hall.out
              rw [ha, ht3.out] at h1
              exact Option.some.inj h1
            · exact ht1.out j (by omega)
          have hk3 : Hid (∀ j, k + 1 ≤ j → j < N → t.getD j (0, 0) = (0, 0)) := fun j h1 h2 => ht2.out j (by omega) h2
          clear ht1 ht2 ht3 hr hr' hat hall
          go_wp2
          go_roundw
          case rel => exact ⟨k + 1, by omega, by go_num, ⟨t, htl, hk2, hk3, hVt⟩, hbq⟩
          case measure => (simp [intOf]; all_goals omega)
    · obtain rfl : N = k := by omega
      have he : s = lo := by
        refine List.ext_getElem (by omega) fun j h1 h2 => ?_
        have := hs1.out j (by omega)
        simpa [List.getD, List.getElem?_eq_getElem h1, List.getElem?_eq_getElem h2] using this
      subst he
      clear hr hr' hat hs1 hs2
      go_wp2
      go_ret
      exact ⟨O, N, rfl, Nat.le_refl _, hVs, hlN, hOl, hbr⟩
end Go.Proofs.Ytlpibibpckkjhaa
namespace Go.Proofs.Ytlpibibpckkjhaa
open Go.RowKit
def trL (l : List (Nat × Nat)) : List (Nat × Nat) := l.take (trimN l l.length)
theorem trL_len (l : List (Nat × Nat)) : (trL l).length = trimN l l.length := by
  unfold trL
  rw [List.length_take]
  have := trimN_le l l.length
  omega
set_option maxRecDepth 100000 in
set_option maxHeartbeats 1600000 in
theorem mulPolys_w (A A' : Option Addr) (c c' n m : Nat) (a b lo : List (Nat × Nat)) (ha : a.length = n) (hb : b.length = m) (hn : 1 ≤ n ∧ n ≤ 17) (hm : 1 ≤ m ∧ m ≤ 17) (h : ProdR a b lo) (va : polyB a = true) (vb : polyB b = true) (vl : polyB (trL lo) = true) (w : World) (hr : Reads w w.heap.size 1 A n (cplx a)) (hr' : Reads w w.heap.size 1 A' m (cplx b)) :
    Calls Try.prog 79 #[.agg #[.slice A n c], .agg #[.slice A' m c']] w fun e w' => ∃ g c'', e = .returned (.tuple #[.agg #[.slice (some ⟨g, 0, none⟩) (trL lo).length c''], .bool true]) ∧ Own w' w.heap.size w'.heap.size 36 (some ⟨g, 0, none⟩) (cplx (trL lo)) ∧ Below w.heap.size w w' := by
  obtain ⟨N, hN⟩ : ∃ N, n + m = N + 1 := ⟨n + m - 1, by omega⟩
  have hlN0 : lo.length = N := by rw [h.len, ha, hb]; omega
  have e1 : (trL lo).length = trimN lo N := by rw [trL_len, hlN0]
  have e2 : trL lo = lo.take (trimN lo N) := by unfold trL; rw [hlN0]
  rw [e1, e2]
  rw [e2] at vl
  clear e1 e2 hlN0
  have hb1 : Below w.heap.size w (w.alloc (.cells #[.slice A n c] 33)) := (Below.refl _ _).alloc (Nat.le_refl _) _
  have hb2 : Below w.heap.size w ((w.alloc (.cells #[.slice A n c] 33)).alloc (.cells #[.slice A' m c'] 33)) := hb1.alloc (by simp) _
  have hb3 : Below w.heap.size w (((w.alloc (.cells #[.slice A n c] 33)).alloc (.cells #[.slice A' m c'] 33)).alloc (.cells #[.slice none 0 0] 33)) := hb2.alloc (by simp; omega) _
  have hP1 : Blk (((w.alloc (.cells #[.slice A n c] 33)).alloc (.cells #[.slice A' m c'] 33)).alloc (.cells #[.slice none 0 0] 33)) w.heap.size 33 #[.slice A n c] := ((Blk.new w 33 #[.slice A n c]).alloc _).alloc _
  have hP2 : Blk (((w.alloc (.cells #[.slice A n c] 33)).alloc (.cells #[.slice A' m c'] 33)).alloc (.cells #[.slice none 0 0] 33)) (w.heap.size + 1) 33 #[.slice A' m c'] := by
    have h := (Blk.new (w.alloc (.cells #[.slice A n c] 33)) 33 #[.slice A' m c']).alloc (.cells #[.slice none 0 0] 33)
    simpa using h
  have hP3 : Blk (((w.alloc (.cells #[.slice A n c] 33)).alloc (.cells #[.slice A' m c'] 33)).alloc (.cells #[.slice none 0 0] 33)) (w.heap.size + 1 + 1) 33 #[.slice none 0 0] := by
    have h := Blk.new ((w.alloc (.cells #[.slice A n c] 33)).alloc (.cells #[.slice A' m c'] 33)) 33 #[.slice none 0 0]
    simpa using h
  have z0 : w.heap.size + 3 ≤ (((w.alloc (.cells #[.slice A n c] 33)).alloc (.cells #[.slice A' m c'] 33)).alloc (.cells #[.slice none 0 0] 33)).heap.size := by simp
  clear hb1 hb2
  go_enter Try.func79, Try.ntmps79
  go_wp2_with fail
  generalize (((w.alloc (.cells #[.slice A n c] 33)).alloc (.cells #[.slice A' m c'] 33)).alloc (.cells #[.slice none 0 0] 33)) = w0 at *
  have HV := validPoly_b A c w.heap.size a w0 (by rw [ha]; exact hr.below hb3) (by omega) (by omega)
  rw [va, ha] at HV
  (with_reducible refine HV.mono ?_)
  rintro e w1 ⟨rfl, hb4⟩
  clear HV
  have z1 := hb4.size
  have hb5 := hb3.trans (hb4.mono (by omega))
  have hQ2 := hP2.below hb4 (by omega)
  have HV := validPoly_b A' c' w.heap.size b w1 (by rw [hb]; exact hr'.below hb5) (by omega) (by omega)
  rw [vb, hb] at HV
  have cP2 : w1.cell? ⟨w.heap.size + 1, 0, none⟩ = some (.slice A' m c') := hQ2.cell 0
  go_wp2_with fail
  (with_reducible refine HV.mono ?_)
  rintro e w2 ⟨rfl, hb6⟩
  clear HV cP2 hQ2
  have z2 := hb6.size
  have hb7 := hb4.trans (hb6.mono z1)
  have hb8 := hb3.trans (hb7.mono (by omega))
  have hQ1 := hP1.below hb7 (by omega)
  have hQ2 := hP2.below hb7 (by omega)
  have hQ3 := hP3.below hb7 (by omega)
  have c1 : w2.cell? ⟨w.heap.size, 0, none⟩ = some (.slice A n c) := hQ1.cell 0
  have c2 : w2.cell? ⟨w.heap.size + 1, 0, none⟩ = some (.slice A' m c') := hQ2.cell 0
  have HM := products_w A A' c c' n m N a b lo ha hb hN ⟨hn.1, by omega⟩ ⟨hm.1, by omega⟩ h w2 ((hr.below hb8).more (by omega)) ((hr'.below hb8).more (by omega))
  clear hb3 hb4 hb5 hb6 hb7 hP1 hP2 hP3 hQ1 hQ2 hr hr'
  go_wp2_with fail
  (with_reducible refine HM.mono ?_)
  rintro e w3 ⟨g, cg, rfl, hcg, hV, hlN, hg, hb9⟩
  clear HM c1 c2
  have z3 := hb9.size
  have hQ3' := hQ3.below hb9 (by omega)
  have hgl := hV.lt
  have HP := polyOf_any (w.heap.size + 3) g cg lo w3 (hV.own (by omega) hgl) (by omega) (by omega) (by omega)
  rw [hlN] at HP
  rw [vl] at HP
  have hb10 := hb8.trans (hb9.mono (by omega))
  clear hb8 hb9 hV hQ3
  go_wp2_with fail
  (with_reducible refine HP.mono ?_)
  rintro e w4 ⟨hPP, hb11⟩
  clear HP
  rcases hPP with ⟨-, gf, cf, rfl, -, hOf⟩ | ⟨h0, -⟩
  · have z4 := hb11.size
    have hQ4 := hQ3'.below hb11 (by omega)
    have hb12 := hb10.trans (hb11.mono (by omega))
    have cR : w4.cell? ⟨w.heap.size + 1 + 1, 0, none⟩ = some (.slice none 0 0) := hQ4.cell 0
    have fR := hQ4.frozen 0
    clear hb10 hb11 hQ3' hQ4
    go_wp2
    refine bodyPost_ret (v := .tuple #[.agg #[.slice (some ⟨gf, 0, none⟩) (trimN lo N) cf], .bool true]) (by simp [results, Try.results79, go_sem, cR]) rfl ?_
    exact ⟨gf, cf, rfl, (hOf.keep fun g' b1 b2 _ => Below.heap_setCell _ _ _ _ (by simp; omega)).wide (by omega) (by simp), below_set hb12 (by simp; omega) _⟩
  · cases h0
set_option maxRecDepth 100000 in
set_option maxHeartbeats 1600000 in
theorem addPolys_w (A A' : Option Addr) (c c' n m : Nat) (a b lo : List (Nat × Nat)) (ha : a.length = n) (hb : b.length = m) (hn : 1 ≤ n ∧ n ≤ 17) (hm : 1 ≤ m ∧ m ≤ 17) (h : SumR a b lo) (va : polyB a = true) (vb : polyB b = true) (vl : polyB (trL lo) = true) (w : World) (hr : Reads w w.heap.size 1 A n (cplx a)) (hr' : Reads w w.heap.size 1 A' m (cplx b)) :
    Calls Try.prog 81 #[.agg #[.slice A n c], .agg #[.slice A' m c']] w fun e w' => ∃ g c'', e = .returned (.tuple #[.agg #[.slice (some ⟨g, 0, none⟩) (trL lo).length c''], .bool true]) ∧ Own w' w.heap.size w'.heap.size 36 (some ⟨g, 0, none⟩) (cplx (trL lo)) ∧ Below w.heap.size w w' := by
  obtain ⟨N, hN⟩ : ∃ N, N = max n m := ⟨_, rfl⟩
  have hlN0 : lo.length = N := by rw [h.len, ha, hb, hN]
  have e1 : (trL lo).length = trimN lo N := by rw [trL_len, hlN0]
  have e2 : trL lo = lo.take (trimN lo N) := by unfold trL; rw [hlN0]
  rw [e1, e2]
  rw [e2] at vl
  clear e1 e2
  have hN1 : 1 ≤ N ∧ N ≤ 17 := by omega
  replace hN := Lib.hid hN
  have hb1 : Below w.heap.size w (w.alloc (.cells #[.slice A n c] 33)) := (Below.refl _ _).alloc (Nat.le_refl _) _
  have hb2 : Below w.heap.size w ((w.alloc (.cells #[.slice A n c] 33)).alloc (.cells #[.slice A' m c'] 33)) := hb1.alloc (by simp) _
  have hb3 : Below w.heap.size w (((w.alloc (.cells #[.slice A n c] 33)).alloc (.cells #[.slice A' m c'] 33)).alloc (.cells #[.slice none 0 0] 33)) := hb2.alloc (by simp; omega) _
  have hP1 : Blk (((w.alloc (.cells #[.slice A n c] 33)).alloc (.cells #[.slice A' m c'] 33)).alloc (.cells #[.slice none 0 0] 33)) w.heap.size 33 #[.slice A n c] := ((Blk.new w 33 #[.slice A n c]).alloc _).alloc _
  have hP2 : Blk (((w.alloc (.cells #[.slice A n c] 33)).alloc (.cells #[.slice A' m c'] 33)).alloc (.cells #[.slice none 0 0] 33)) (w.heap.size + 1) 33 #[.slice A' m c'] := by
    have h := (Blk.new (w.alloc (.cells #[.slice A n c] 33)) 33 #[.slice A' m c']).alloc (.cells #[.slice none 0 0] 33)
    simpa using h
  have hP3 : Blk (((w.alloc (.cells #[.slice A n c] 33)).alloc (.cells #[.slice A' m c'] 33)).alloc (.cells #[.slice none 0 0] 33)) (w.heap.size + 1 + 1) 33 #[.slice none 0 0] := by
    have h := Blk.new ((w.alloc (.cells #[.slice A n c] 33)).alloc (.cells #[.slice A' m c'] 33)) 33 #[.slice none 0 0]
    simpa using h
  have z0 : w.heap.size + 3 ≤ (((w.alloc (.cells #[.slice A n c] 33)).alloc (.cells #[.slice A' m c'] 33)).alloc (.cells #[.slice none 0 0] 33)).heap.size := by simp
  clear hb1 hb2
  go_enter Try.func81, Try.ntmps81
  go_wp2_with fail
  generalize (((w.alloc (.cells #[.slice A n c] 33)).alloc (.cells #[.slice A' m c'] 33)).alloc (.cells #[.slice none 0 0] 33)) = w0 at *
  have HV := validPoly_b A c w.heap.size a w0 (by rw [ha]; exact hr.below hb3) (by omega) (by omega)
  rw [va, ha] at HV
  (with_reducible refine HV.mono ?_)
  rintro e w1 ⟨rfl, hb4⟩
  clear HV
  have z1 := hb4.size
  have hb5 := hb3.trans (hb4.mono (by omega))
  have hQ2 := hP2.below hb4 (by omega)
  have HV := validPoly_b A' c' w.heap.size b w1 (by rw [hb]; exact hr'.below hb5) (by omega) (by omega)
  rw [vb, hb] at HV
  have cP2 : w1.cell? ⟨w.heap.size + 1, 0, none⟩ = some (.slice A' m c') := hQ2.cell 0
  go_wp2_with fail
  (with_reducible refine HV.mono ?_)
  rintro e w2 ⟨rfl, hb6⟩
  clear HV cP2 hQ2
  have z2 := hb6.size
  have hb7 := hb4.trans (hb6.mono z1)
  have hb8 := hb3.trans (hb7.mono (by omega))
  have hQ1 := hP1.below hb7 (by omega)
  have hQ2 := hP2.below hb7 (by omega)
  have hQ3 := hP3.below hb7 (by omega)
  have c1 : w2.cell? ⟨w.heap.size, 0, none⟩ = some (.slice A n c) := hQ1.cell 0
  have c2 : w2.cell? ⟨w.heap.size + 1, 0, none⟩ = some (.slice A' m c') := hQ2.cell 0
  have HM := sums_w A A' c c' n m N a b lo ha hb hN.out (by omega) (by omega) h w2 ((hr.below hb8).more (by omega)) ((hr'.below hb8).more (by omega)) hn.1
  clear hb3 hb4 hb5 hb6 hb7 hP1 hP2 hP3 hQ1 hQ2 hr hr'
  go_wp2_with fail
  (with_reducible refine HM.mono ?_)
  rintro e w3 ⟨g, cg, rfl, hcg, hrow, hg, hgl, hb9⟩
  clear HM c1 c2
  have z3 := hb9.size
  have hQ3' := hQ3.below hb9 (by omega)
  have HP := polyOf_any (w.heap.size + 3) g cg lo w3 ((own_row hrow).wide (by omega) (by omega)) (by omega) (by omega) (by omega)
  rw [hlN0] at HP
  rw [vl] at HP
  have hb10 := hb8.trans (hb9.mono (by omega))
  clear hb8 hb9 hrow hQ3
  go_wp2_with fail
  (with_reducible refine HP.mono ?_)
  rintro e w4 ⟨hPP, hb11⟩
  clear HP
  rcases hPP with ⟨-, gf, cf, rfl, -, hOf⟩ | ⟨h0, -⟩
  · have z4 := hb11.size
    have hQ4 := hQ3'.below hb11 (by omega)
    have hb12 := hb10.trans (hb11.mono (by omega))
    have cR : w4.cell? ⟨w.heap.size + 1 + 1, 0, none⟩ = some (.slice none 0 0) := hQ4.cell 0
    have fR := hQ4.frozen 0
    clear hb10 hb11 hQ3' hQ4
    go_wp2
    refine bodyPost_ret (v := .tuple #[.agg #[.slice (some ⟨gf, 0, none⟩) (trimN lo N) cf], .bool true]) (by simp [results, Try.results81, go_sem, cR]) rfl ?_
    exact ⟨gf, cf, rfl, (hOf.keep fun g' b1 b2 _ => Below.heap_setCell _ _ _ _ (by simp; omega)).wide (by omega) (by simp), below_set hb12 (by simp; omega) _⟩
  · cases h0
end Go.Proofs.Ytlpibibpckkjhaa
namespace Go.Proofs.Ytlpibibpckkjhaa
open Go.RowKit
/-- The polynomial after so many steps. -/
def NPoly (pts d : List (Nat × Nat)) (n : Nat) : Nat → List (Nat × Nat) → Prop
  | 0, l => l = [d.getD (n - 1) (0, 0)] ∧ polyB l = true
  | j + 1, l => ∃ l0 m s, NPoly pts d n j l0 ∧ polyB l0 = true ∧ polyB [turnW (pts.getD (n - 2 - j) (0, 0)), (1065353216, 0)] = true ∧ ProdR l0 [turnW (pts.getD (n - 2 - j) (0, 0)), (1065353216, 0)] m ∧ polyB (trL m) = true ∧
      polyB [d.getD (n - 2 - j) (0, 0)] = true ∧ SumR (trL m) [d.getD (n - 2 - j) (0, 0)] s ∧ polyB (trL s) = true ∧ l = trL s
theorem ProdR.det {a b l l' : List (Nat × Nat)} (h : ProdR a b l) (h' : ProdR a b l') : l = l' := by
  refine List.ext_getElem (by rw [h.len, h'.len]) fun j h1 h2 => ?_
  have a1 := h.at_ j h1
  have a2 := h'.at_ j h2
  rw [a1] at a2
  have := Option.some.inj a2
  simpa [List.getD, List.getElem?_eq_getElem h1, List.getElem?_eq_getElem h2] using this
theorem SumR.det {a b l l' : List (Nat × Nat)} (h : SumR a b l) (h' : SumR a b l') : l = l' := by
  refine List.ext_getElem (by rw [h.len, h'.len]) fun j h1 h2 => ?_
  have a1 := h.at_ j h1
  have a2 := h'.at_ j h2
  rw [a1] at a2
  have := Option.some.inj a2
  simpa [List.getD, List.getElem?_eq_getElem h1, List.getElem?_eq_getElem h2] using this
theorem NPoly.det {pts d : List (Nat × Nat)} {n : Nat} : ∀ {j : Nat} {l l' : List (Nat × Nat)}, NPoly pts d n j l → NPoly pts d n j l' → l = l'
  | 0, _, _, h, h' => by rw [h.1, h'.1]
  | j + 1, _, _, h, h' => by
    obtain ⟨l0, m, s, h1, -, -, h2, -, -, h3, -, rfl⟩ := h
    obtain ⟨l0', m', s', h1', -, -, h2', -, -, h3', -, rfl⟩ := h'
    obtain rfl := NPoly.det h1 h1'
    obtain rfl := h2.det h2'
    obtain rfl := h3.det h3'
    rfl
theorem NPoly.upto {pts d : List (Nat × Nat)} {n : Nat} : ∀ {m : Nat} {l : List (Nat × Nat)}, NPoly pts d n m l → ∀ j, j ≤ m → ∃ l', NPoly pts d n j l'
  | 0, l, h, j, hj => by
    obtain rfl : j = 0 := by omega
    exact ⟨l, h⟩
  | m + 1, l, h, j, hj => by
    by_cases e : j = m + 1
    · subst e
      exact ⟨l, h⟩
    · obtain ⟨l0, -, -, h1, -⟩ := h
      exact h1.upto j (by omega)
theorem NPoly.ok {pts d : List (Nat × Nat)} {n : Nat} : ∀ {j : Nat} {l : List (Nat × Nat)}, NPoly pts d n j l → polyB l = true
  | 0, _, h => h.2
  | _ + 1, _, h => by
    obtain ⟨l0, m, s, -, -, -, -, -, -, -, h4, rfl⟩ := h
    exact h4
theorem CV.of_own {w : World} {a b g : Nat} {l : List (Nat × Nat)} (hl : 1 ≤ l.length) (h : Own w a b 36 (some ⟨g, 0, none⟩) (cplx l)) : CV w g l := by
  rcases h with h | ⟨g', cur, e, -, -, h3, h4, h5⟩
  · have h2 : l = [] := by simpa [cplx] using h
    subst h2
    simp at hl
  · cases e
    refine ⟨cur.toList.drop (cplx l).length, ?_⟩
    have e2 : cplx l ++ cur.toList.drop (cplx l).length = cur.toList := by
      conv => lhs; lhs; rw [← h5]
      exact List.take_append_drop _ _
    rw [e2]
    exact h3
theorem polyB_len {l : List (Nat × Nat)} (h : polyB l = true) : 1 ≤ l.length ∧ l.length ≤ 17 := by
  unfold polyB at h
  simp only [Bool.and_eq_true, decide_eq_true_eq] at h
  omega
theorem own_lo {w : World} {a b g : Nat} {l : List (Nat × Nat)} (hl : 1 ≤ l.length) (h : Own w a b 36 (some ⟨g, 0, none⟩) (cplx l)) : a ≤ g := by
  rcases h with h | ⟨g', cur, e, h1, -⟩
  · have h2 : l = [] := by simpa [cplx] using h
    subst h2
    simp at hl
  · cases e
    exact h1
/-- A polynomial's cell is overwritten by a new one. -/
theorem poly_store {w w5 w6 : World} {P g gn k0 cg cn : Nat} {l : List (Nat × Nat)} (h1 : 1 ≤ l.length) (hP : Blk w5 P 33 #[.slice (some ⟨g, 0, none⟩) k0 cg]) (hR : Blk w5 w.heap.size 33 #[.slice none 0 0]) (hb : Below w.heap.size w w5) (hPw : w.heap.size < P) (hPl : P < w5.heap.size)
    (hO : Own w6 w5.heap.size w6.heap.size 36 (some ⟨gn, 0, none⟩) (cplx l)) (hb6 : Below w5.heap.size w5 w6) :
    Hid ((∃ g c, Blk (w6.setCell ⟨P, 0, none⟩ (.slice (some ⟨gn, 0, none⟩) l.length cn)) P 33 #[.slice (some ⟨g, 0, none⟩) l.length c] ∧ CV (w6.setCell ⟨P, 0, none⟩ (.slice (some ⟨gn, 0, none⟩) l.length cn)) g l ∧ Hid (P ≠ g ∧ w.heap.size < g)) ∧ Blk (w6.setCell ⟨P, 0, none⟩ (.slice (some ⟨gn, 0, none⟩) l.length cn)) w.heap.size 33 #[.slice none 0 0] ∧ Below w.heap.size w (w6.setCell ⟨P, 0, none⟩ (.slice (some ⟨gn, 0, none⟩) l.length cn))) := by
  have hz := hb.size
  have hg := own_lo h1 hO
  have hP6 := hP.below hb6 hPl
  have hR6 := hR.below hb6 (by omega)
  have hne : P ≠ gn := by omega
  refine ⟨⟨gn, cn, ?_, CV.other (CV.of_own h1 hO) hne _, hne, by omega⟩, ?_, below_set (hb.trans (hb6.mono hz)) (a := ⟨P, 0, none⟩) (show w.heap.size ≤ P by omega) _⟩
  · exact Blk.set_ hP6 0 _
  · unfold Blk at hR6 ⊢
    rw [← hR6]
    exact Below.heap_setCell _ _ _ _ (by simp; omega)
set_option maxRecDepth 100000 in
set_option maxHeartbeats 3200000 in
theorem newtonPoly_w (A A' : Option Addr) (c c' n : Nat) (pts d l : List (Nat × Nat)) (hn : 1 ≤ n) (hl : pts.length = n) (hl' : d.length = n) (hc : n ≤ c) (hP : PtsOk pts) (hV : d.all finCB = true) (h : NPoly pts d n (n - 1) l) (w : World) (hr : Reads w w.heap.size 1 A n (cplx pts)) (hr' : Reads w w.heap.size 1 A' n (cplx d)) :
    Calls Try.prog 32 #[.slice A n c, .slice A' n c'] w fun e w' => ∃ g c'', e = .returned (.tuple #[.agg #[.slice (some ⟨g, 0, none⟩) l.length c''], .bool true]) ∧ Own w' w.heap.size w'.heap.size 36 (some ⟨g, 0, none⟩) (cplx l) ∧ Below w.heap.size w w' := by
  have hn17 : n ≤ 17 := by rw [← hl]; exact hP.len.2
  have hb0 : Below w.heap.size w (w.alloc (.cells #[.slice none 0 0] 33)) := (Below.refl _ _).alloc (Nat.le_refl _) _
  have hR0 := Blk.new w 33 #[.slice none 0 0]
  have HA := areValued_any A A' c c' n pts d hl hl' hc hP hV (w.alloc (.cells #[.slice none 0 0] 33)) ((hr.below hb0).more hb0.size) ((hr'.below hb0).more hb0.size)
  go_enter Try.func32, Try.ntmps32
  go_wp2_with fail
  (with_reducible refine HA.mono ?_)
  rintro e w1 ⟨rfl, hb1⟩
  clear HA
  have z1 := hb1.size
  simp only [World.size_alloc] at z1
  have hR1 := hR0.below hb1 (by simp)
  have hb2 := hb0.trans (hb1.mono (by simp))
  clear hR0 hb0 hb1 hP hV
  have hwn : IntKind.i64.wrap ((n : Int) - 1) = ((n - 1 : Nat) : Int) := wrap_sub' n 1 hn (by omega)
  have hn1 : ((n - 1 : Nat) : Int) < (n : Int) := by omega
  have hn2 : n - 1 < n := by omega
  have hw2 : IntKind.i64.wrap (((n - 1 : Nat) : Int) - 1) = (n : Int) - 2 := by
    rw [show ((n - 1 : Nat) : Int) - 1 = (n : Int) - 2 by omega]
    exact IntWalk.i64_in _ (by omega)
  obtain ⟨ad, rfl, -, hc1⟩ := comp_at (l := d) (k := n - 1) (by rw [hl']; exact hr'.below hb2) (by omega)
  obtain ⟨l0, hl0⟩ := NPoly.upto h 0 (by omega)
  have hl0e := hl0.1
  generalize d.getD (n - 1) (0, 0) = X at *
  have hb3 : Below w1.heap.size w1 (w1.alloc (.cells #[.complex .f32 X.1 X.2] 36)) := (Below.refl _ _).alloc (Nat.le_refl _) _
  have hb4 : Below w1.heap.size w1 ((w1.alloc (.cells #[.complex .f32 X.1 X.2] 36)).alloc (.cells #[.slice (some ⟨w1.heap.size, 0, none⟩) 1 1] 33)) := hb3.alloc (by simp) _
  go_wp2_with fail
  have hV0 : CV ((w1.alloc (.cells #[.complex .f32 X.1 X.2] 36)).alloc (.cells #[.slice (some ⟨w1.heap.size, 0, none⟩) 1 1] 33)) w1.heap.size l0 := by
    rw [hl0e]
    exact ⟨[], by simpa [cplx] using (Blk.new w1 36 #[.complex .f32 X.1 X.2]).alloc (.cells #[.slice (some ⟨w1.heap.size, 0, none⟩) 1 1] 33)⟩
  have hP0 : Blk ((w1.alloc (.cells #[.complex .f32 X.1 X.2] 36)).alloc (.cells #[.slice (some ⟨w1.heap.size, 0, none⟩) 1 1] 33)) (w1.heap.size + 1) 33 #[.slice (some ⟨w1.heap.size, 0, none⟩) 1 1] := by
    have h := Blk.new (w1.alloc (.cells #[.complex .f32 X.1 X.2] 36)) 33 #[.slice (some ⟨w1.heap.size, 0, none⟩) 1 1]
    simpa using h
  have hR2 := hR1.below hb4 (by omega)
  have hb5 := hb2.trans (hb4.mono (by omega))
  have hl01 : l0.length = 1 := by rw [hl0e]; rfl
  have hP1 : Hid (w1.heap.size + 1 ≠ w1.heap.size ∧ w.heap.size < w1.heap.size) := by show _ ∧ _; omega
  have hP2 : Hid (w.heap.size + 1 ≤ w1.heap.size + 1) := by show _ ≤ _; omega
  replace hl0 := Lib.hid hl0
  replace h := Lib.hid h
  have hP3 : w.heap.size < w1.heap.size + 1 := by omega
  have hg1 : Hid (w.heap.size ≤ w1.heap.size) := by show _ ≤ _; omega
  generalize ((w1.alloc (.cells #[.complex .f32 X.1 X.2] 36)).alloc (.cells #[.slice (some ⟨w1.heap.size, 0, none⟩) 1 1] 33)) = w2 at *
  obtain ⟨P, hPe⟩ : ∃ P, P = w1.heap.size + 1 := ⟨_, rfl⟩
  obtain ⟨G, hGe⟩ : ∃ G, G = w1.heap.size := ⟨_, rfl⟩
  rw [← hPe] at hP0 hP1 hP2 hP3 ⊢
  rw [← hGe] at hP0 hP1 hV0 ⊢
  clear hb2 hb3 hb4 hR1 hc1 hl0e hwn hn1 hn2 hw2 hPe hGe hg1 z1
  go_loopw [8, 9] (fun ok q wr => ∃ i1 : Nat, i1 + 1 ≤ n ∧ q = .int .i64 ((i1 : Int) - 1) ∧ ok = .bool true ∧ (∃ l g cg, Hid (NPoly pts d n (n - 1 - i1) l) ∧ Blk wr P 33 #[.slice (some ⟨g, 0, none⟩) l.length cg] ∧ CV wr g l ∧ Hid (P ≠ g ∧ w.heap.size < g)) ∧ Blk wr w.heap.size 33 #[.slice none 0 0] ∧ Below w.heap.size w wr) (fun _ q _ => (intOf q + 1).toNat)
  case atStart => exact ⟨n - 1, by omega, by rw [show ((n - 1 : Nat) : Int) - 1 = (n : Int) - 2 by omega], rfl, ⟨l0, G, 1, by rw [Nat.sub_self]; exact hl0, by rw [hl01]; exact hP0, hV0, hP1⟩, hR2, hb5⟩
  case round =>
    obtain ⟨i1, hi1, rfl, rfl, ⟨la, g, cg, hNP, hBP, hVg, hPg⟩, hBR, hbr⟩ := hrel
    obtain ⟨wo, rfl⟩ : ∃ wo : World, wo = wr := ⟨_, rfl⟩
    clear hP0 hV0 hP1 hR2 hb5 hl0 hl01
    have zo := hbr.size
    have hgl := hVg.lt
    have hPl := hBP.lt
    by_cases hlt : 1 ≤ i1
    · obtain ⟨i, rfl⟩ : ∃ i, i1 = i + 1 := ⟨i1 - 1, by omega⟩
      obtain ⟨ln, hln⟩ := NPoly.upto h.out (n - 1 - i) (by omega)
      have hln2 := hln
      rw [show n - 1 - i = n - 1 - (i + 1) + 1 by omega] at hln2
      obtain ⟨l0, m, s, q1, q2, q3, q4, q5, q6, q7, q8, q9⟩ := hln2
      obtain rfl := hNP.out.det q1
      rw [show n - 2 - (n - 1 - (i + 1)) = i by omega] at q3 q4 q6 q7
      obtain ⟨ad1, rfl, hB1, hc1⟩ := comp_at (l := pts) (k := i) (by rw [hl]; exact hr.below hbr) (by omega)
      obtain ⟨ad2, e2, hB2, hc2⟩ := comp_at (l := d) (k := i) (by rw [hl']; exact hr'.below hbr) (by omega)
      cases e2
      have hz : ((i + 1 : Nat) : Int) - 1 = (i : Int) := by omega
      rw [hz]
      have hi0 : (0 : Int) ≤ (i : Int) := by omega
      have hi2 : (i : Int) < (n : Int) := by omega
      have hi3 : i < n := by omega
      have H1 := turned_w (pts.getD i (0, 0))
      generalize pts.getD i (0, 0) = X1 at *
      generalize hX2e : d.getD i (0, 0) = X2 at *
      have cP : wo.cell? ⟨P, 0, none⟩ = some (.slice (some ⟨g, 0, none⟩) la.length cg) := hBP.cell 0
      have fP := hBP.frozen 0
      go_upto_region 8 with fail
      have hbd : Below w.heap.size w wo.drew := below_drew hbr
      have hba : Below wo.heap.size wo ((wo.alloc (.cells #[.complex .f32 (turnW X1).1 (turnW X1).2, .complex .f32 1065353216 0] 36)).drew) := below_drew ((Below.refl _ _).alloc (Nat.le_refl _) _)
      have hla := polyB_len q2
      have hRa : Reads ((wo.alloc (.cells #[.complex .f32 (turnW X1).1 (turnW X1).2, .complex .f32 1065353216 0] 36)).drew) (wo.heap.size + 1) 1 (some ⟨g, 0, none⟩) la.length (cplx la) := ((hVg.below hba hgl).own (a := 0) (b := wo.heap.size + 1) (by omega) (by omega)).reads' (Nat.le_refl _) (by simp)
      have hRb : Reads ((wo.alloc (.cells #[.complex .f32 (turnW X1).1 (turnW X1).2, .complex .f32 1065353216 0] 36)).drew) (wo.heap.size + 1) 1 (some ⟨wo.heap.size, 0, none⟩) 2 (cplx [turnW X1, (1065353216, 0)]) := (reads_new wo (cplx [turnW X1, (1065353216, 0)]) 36).drewN 1
      have HM := mulPolys_w (some ⟨g, 0, none⟩) (some ⟨wo.heap.size, 0, none⟩) cg 2 la.length 2 la [turnW X1, (1065353216, 0)] m rfl rfl ⟨hla.1, by omega⟩ (by omega) q4 q2 q3 q5 _ (hRa.more (by simp)) (hRb.more (by simp))
      have hP5 := hBP.below hba hPl
      have hR5 := hBR.below hba (by omega)
      have hb5 := hbr.trans (hba.mono zo)
      go_cut [8] from 26 to 56 (fun ok wc => ok = .bool true ∧ (∃ g c, Blk wc P 33 #[.slice (some ⟨g, 0, none⟩) (trL m).length c] ∧ CV wc g (trL m) ∧ Hid (P ≠ g ∧ w.heap.size < g)) ∧ Blk wc w.heap.size 33 #[.slice none 0 0] ∧ Below w.heap.size w wc)
      case first =>
        clear hRa hRb hr hr' h hNP q1 q2 q3 q4 q6 q7 q8 q9 hVg hbr hba
        generalize turnW X1 = T at *
        go_region_with ((first
          | (go_at_call 80; refine (H1 _).mono ?_; rintro e w' ⟨rfl, rfl⟩)
          | (go_at_call 79; (with_reducible refine HM.mono ?_); rintro e w6 ⟨gn, cn, rfl, hOn, hb6⟩; have hP6 := hP5.below hb6 (by simp; omega); have cP6 : w6.cell? ⟨P, 0, none⟩ = some (.slice (some ⟨g, 0, none⟩) la.length cg) := hP6.cell 0; have fP6 := hP6.frozen 0; have hJ := poly_store (w := w) (cn := cn) (polyB_len q5).1 hP5 hR5 hb5 hP3 (by simp; omega) hOn hb6)))
        all_goals (go_wp2_with fail; go_meet; case rel => exact ⟨rfl, hJ.out⟩)
      case rest =>
        obtain ⟨rfl, ⟨g2, c2, hP7, hV7, hPg2⟩, hR7, hb7⟩ := hcut
        obtain ⟨wd, rfl⟩ : ∃ wd : World, wd = wc := ⟨_, rfl⟩
        clear hRa hRb HM hP5 hR5 hb5 hba hbd hBP hVg hBR hbr zo hgl hPl cP fP H1 hc1 hc2 hla
        obtain ⟨ad3, e3, hB3, hc3⟩ := comp_at (l := d) (k := i) (by rw [hl']; exact hr'.below hb7) (by omega)
        cases e3
        rw [hX2e] at hc3
        clear hX2e
        have zd := hb7.size
        have hgl2 := hV7.lt
        have hPl2 := hP7.lt
        have cP2 : wd.cell? ⟨P, 0, none⟩ = some (.slice (some ⟨g2, 0, none⟩) (trL m).length c2) := hP7.cell 0
        have fP2 := hP7.frozen 0
        go_upto_region 10 with fail
        have hbd : Below w.heap.size w wd.drew := below_drew hb7
        have hba : Below wd.heap.size wd ((wd.alloc (.cells #[.complex .f32 X2.1 X2.2] 36)).drew) := below_drew ((Below.refl _ _).alloc (Nat.le_refl _) _)
        have hla := polyB_len q5
        have hRa : Reads ((wd.alloc (.cells #[.complex .f32 X2.1 X2.2] 36)).drew) (wd.heap.size + 1) 1 (some ⟨g2, 0, none⟩) (trL m).length (cplx (trL m)) := ((hV7.below hba hgl2).own (a := 0) (b := wd.heap.size + 1) (by omega) (by omega)).reads' (Nat.le_refl _) (by simp)
        have hRb : Reads ((wd.alloc (.cells #[.complex .f32 X2.1 X2.2] 36)).drew) (wd.heap.size + 1) 1 (some ⟨wd.heap.size, 0, none⟩) 1 (cplx [X2]) := (reads_new wd (cplx [X2]) 36).drewN 1
        have HM := addPolys_w (some ⟨g2, 0, none⟩) (some ⟨wd.heap.size, 0, none⟩) c2 1 (trL m).length 1 (trL m) [X2] s rfl rfl hla (by omega) q7 q5 q6 q8 _ (hRa.more (by simp)) (hRb.more (by simp))
        have hP5 := hP7.below hba hPl2
        have hR5 := hR7.below hba (by omega)
        have hb5 := hb7.trans (hba.mono zd)
        subst q9
        have hln3 := Lib.hid hln
        clear hRa hRb hr hr' h hNP q1 q2 q3 q4 q6 q7 hV7 hb7 hba hln
        go_region_with ((go_at_call 81; (with_reducible refine HM.mono ?_); rintro e w6 ⟨gn, cn, rfl, hOn, hb6⟩; have hP6 := hP5.below hb6 (by simp; omega); have cP6 : w6.cell? ⟨P, 0, none⟩ = some (.slice (some ⟨g2, 0, none⟩) (trL m).length c2) := hP6.cell 0; have fP6 := hP6.frozen 0; have hJ := poly_store (w := w) (cn := cn) (polyB_len q8).1 hP5 hR5 hb5 hP3 (by simp; omega) hOn hb6))
        all_goals (
          clear HM hP5 hR5 hb5 hbd hP7 hR7 cP2 fP2 hc3 hOn hb6 hP6 cP6 fP6
          go_wp2
          obtain ⟨⟨g3, c3, hP8, hV8, hPg3⟩, hR8, hb8⟩ := hJ.out
          exact ⟨⟨i, by omega, rfl, rfl, ⟨_, g3, c3, hln3, hP8, hV8, hPg3⟩, hR8, hb8⟩, by (simp [intOf]; all_goals omega)⟩)
    · obtain rfl : i1 = 0 := by omega
      obtain rfl : la = l := by
        have := hNP.out
        rw [Nat.sub_zero] at this
        exact this.det h.out
      have cP : wo.cell? ⟨P, 0, none⟩ = some (.slice (some ⟨g, 0, none⟩) la.length cg) := hBP.cell 0
      have cR : wo.cell? ⟨w.heap.size, 0, none⟩ = some (.slice none 0 0) := hBR.cell 0
      have fR := hBR.frozen 0
      have hO := hVg.own (a := w.heap.size) (b := wo.heap.size) (by have := hPg.out; omega) hgl
      replace hO := hVg.own (a := w.heap.size + 1) (b := wo.heap.size) (by have := hPg.out; omega) hgl
      clear hr hr' h hNP hVg
      go_wp2
      refine bodyPost_ret (v := .tuple #[.agg #[.slice (some ⟨g, 0, none⟩) la.length cg], .bool true]) (by simp [results, Try.results32, go_sem, cR]) rfl ?_
      exact ⟨g, cg, rfl, (hO.keep fun g' b1 b2 _ => Below.heap_setCell _ _ _ _ (by simp; omega)).wide (by omega) (by simp), below_set hbr (by simp) _⟩
end Go.Proofs.Ytlpibibpckkjhaa
namespace Go.Proofs.Ytlpibibpckkjhaa
open Go.RowKit
set_option maxRecDepth 100000 in
set_option maxHeartbeats 1600000 in
theorem passingPoly_w (A A' : Option Addr) (c c' n : Nat) (pts vals d l : List (Nat × Nat)) (hn : 1 ≤ n) (hl : pts.length = n) (hl' : vals.length = n) (hc : n ≤ c) (hP : PtsOk pts) (hV : vals.all finCB = true) (h1 : triG (dstep pts) n vals (n - 1) = some d)
    (hf : d.all finCB = true) (h : NPoly pts d n (n - 1) l) (w : World) (hr : Reads w w.heap.size 1 A n (cplx pts)) (hr' : Reads w w.heap.size 1 A' n (cplx vals)) :
    Calls Try.prog 31 #[.slice A n c, .slice A' n c'] w fun e w' => ∃ g c'', e = .returned (.tuple #[.agg #[.slice (some ⟨g, 0, none⟩) l.length c''], .bool true]) ∧ Own w' w.heap.size w'.heap.size 36 (some ⟨g, 0, none⟩) (cplx l) ∧ Below w.heap.size w w' := by
  have hb0 : Below w.heap.size w (w.alloc (.cells #[.slice none 0 0] 33)) := (Below.refl _ _).alloc (Nat.le_refl _) _
  have hR0 := Blk.new w 33 #[.slice none 0 0]
  have hdl : d.length = n := by rw [triG_len h1, hl']
  have hfd : ∀ k, k < n → fin32B (d.getD k (0, 0)).1 = true ∧ fin32B (d.getD k (0, 0)).2 = true := fun k hk => by
    have := List.all_eq_true.1 hf (d.getD k (0, 0)) (by rw [List.getD, List.getElem?_eq_getElem (by omega)]; exact List.getElem_mem _)
    unfold finCB at this
    simpa using this
  have HD := dividedOf_w A A' c c' n pts vals d hn hl hl' hc hP hV h1 hfd (w.alloc (.cells #[.slice none 0 0] 33)) ((hr.below hb0).more hb0.size) ((hr'.below hb0).more hb0.size)
  clear hfd h1
  go_enter Try.func31, Try.ntmps31
  go_wp2_with fail
  (with_reducible refine HD.mono ?_)
  rintro e w1 ⟨g, cg, rfl, hO, hb1⟩
  clear HD
  have z1 := hb1.size
  simp only [World.size_alloc] at z1
  have hR1 := hR0.below hb1 (by simp)
  have hb2 := hb0.trans (hb1.mono (by simp))
  have HN := newtonPoly_w A (some ⟨g, 0, none⟩) c cg n pts d l hn hl hdl hc hP hf h w1 ((hr.below hb2).more hb2.size) (hO.reads' (Nat.le_refl _) (by simp [hdl]))
  clear hR0 hb0 hb1 hO hP hV hf h hr hr'
  go_wp2_with fail
  (with_reducible refine HN.mono ?_)
  rintro e w2 ⟨g2, c2, rfl, hO2, hb3⟩
  clear HN
  have z2 := hb3.size
  have hR2 := hR1.below hb3 (by omega)
  have hb4 := hb2.trans (hb3.mono (by omega))
  have cR : w2.cell? ⟨w.heap.size, 0, none⟩ = some (.slice none 0 0) := hR2.cell 0
  have fR := hR2.frozen 0
  clear hR1 hb2 hb3
  go_wp2
  refine bodyPost_ret (v := .tuple #[.agg #[.slice (some ⟨g2, 0, none⟩) l.length c2], .bool true]) (by simp [results, Try.results31, go_sem, cR]) rfl ?_
  exact ⟨g2, c2, rfl, (hO2.keep fun g' b1 b2 _ => Below.heap_setCell _ _ _ _ (by simp; omega)).wide (by omega) (by simp), below_set hb4 (by simp) _⟩
def sgn (y : Nat) : Bool := decide (wrap64 (y : Int) < 0)
set_option maxRecDepth 100000 in
theorem signbit_any (y : Nat) (w : World) :
    Calls Try.prog 115 #[.float .f64 y] w fun e w' => e = .returned (.bool (sgn y)) ∧ w' = w := by
  have h2 := run_bits64 y
  go_enter Try.func115, Try.ntmps115
  go_wp2
  go_ret
  exact ⟨rfl, rfl⟩
theorem fin_eqo {x : Nat} (h : fin32B x = true) : FloatKind.f32.format.order x x = some .eq := by
  obtain ⟨s, m, i, hr, _⟩ := fin_number h
  unfold Ieee.Format.order
  rw [hr]
  simp [Ieee.Datum.order]
set_option maxRecDepth 100000 in
theorem sameNumber_any (x : Nat) (h : fin32B x = true) (w : World) :
    Calls Try.prog 112 #[.float .f32 x, .float .f32 x] w fun e w' => e = .returned (.bool true) ∧ w' = w := by
  have h1 : (FloatKind.f32.format.order x x == some .eq) = true := by rw [fin_eqo h]; rfl
  have h2 : (FloatKind.f32.format.order x x != some .eq) = false := by rw [fin_eqo h]; rfl
  obtain ⟨y, hy, -⟩ := fin_wide h
  have HV := fun w => run_convert_float_float (P := Try.prog) w 25 39 .f32 .f64 x y (by rw [Try.underlying25]; rfl) Try.underlying39 hy
  have HS := signbit_any y
  have hsg : (sgn y == sgn y) = true := by simp
  generalize sgn y = b at *
  clear h hy
  go_enter Try.func112, Try.ntmps112
  go_wp2_with fail
  refine (HS _).mono ?_
  rintro e w1 ⟨rfl, rfl⟩
  go_wp2_with fail
  refine (HS _).mono ?_
  rintro e w1 ⟨rfl, rfl⟩
  go_wp2
  go_ret
  exact ⟨by cases b <;> rfl, rfl⟩
theorem sameComplex_any (x y : Nat) (h : finCB (x, y) = true) (w : World) :
    Calls Try.prog 105 #[.complex .f32 x y, .complex .f32 x y] w fun e w' => e = .returned (.bool true) ∧ w' = w := by
  unfold finCB at h
  rw [Bool.and_eq_true] at h
  have H1 := sameNumber_any x h.1
  have H2 := sameNumber_any y h.2
  go_enter Try.func105, Try.ntmps105
  go_wp2_with fail
  refine (H1 _).mono ?_
  rintro e w1 ⟨rfl, rfl⟩
  go_wp2_with fail
  refine (H2 _).mono ?_
  rintro e w1 ⟨rfl, rfl⟩
  go_wp2
  go_ret
  exact ⟨rfl, rfl⟩
theorem all_getD {l : List (Nat × Nat)} (h : l.all finCB = true) {k : Nat} (hk : k < l.length) : finCB ((l.getD k (0, 0)).1, (l.getD k (0, 0)).2) = true := by
  have : l.getD k (0, 0) ∈ l := by rw [List.getD, List.getElem?_eq_getElem hk]; exact List.getElem_mem hk
  exact List.all_eq_true.1 h _ this
theorem equalFuncC_any (A A' : Option Addr) (c c' B : Nat) (l : List (Nat × Nat)) (w : World) (hr : Reads w B 1 A l.length (cplx l)) (hr' : Reads w B 1 A' l.length (cplx l)) (hf : l.all finCB = true) (hn : l.length ≤ 1048576) :
    Calls Try.prog 104 #[.slice A l.length c, .slice A' l.length c', .func (.func 105) #[] #[]] w fun e w' => e = .returned (.bool true) ∧ w' = w := by
  have HF := Lib.hid hf
  clear hf
  go_enter Try.func104, Try.ntmps104
  go_wp2
  go_loopw [7, 8, 9, 17] (fun _ _ _ i wr => ∃ k : Nat, k ≤ l.length ∧ i = .int .i64 k ∧ wr = w) (fun _ _ _ i _ => l.length - (intOf i).toNat)
  case atStart => exact ⟨0, Nat.zero_le _, rfl, rfl⟩
  case round =>
    obtain ⟨k, hk, rfl, rfl⟩ := hrel
    by_cases hlt : k < l.length
    · obtain ⟨ad, rfl, hab, hc1⟩ := comp_at hr hlt
      obtain ⟨ad', rfl, hab', hc2⟩ := comp_at hr' hlt
      have HC := sameComplex_any _ _ (all_getD HF.out hlt)
      generalize (l.getD k (0, 0)).1 = x at *
      generalize (l.getD k (0, 0)).2 = y at *
      clear hr hr'
      go_wp2_with fail
      refine (HC _).mono ?_
      rintro e w1 ⟨rfl, rfl⟩
      go_wp2
      go_roundw
      case rel => exact ⟨k + 1, by omega, by go_num, by trivial⟩
      case measure => simp [intOf]; omega
    · obtain rfl : k = l.length := by omega
      go_wp2
      go_ret
      exact ⟨rfl, rfl⟩
theorem samePoly_any (A A' : Option Addr) (c c' B : Nat) (l : List (Nat × Nat)) (w : World) (hr : Reads w B 1 A l.length (cplx l)) (hr' : Reads w B 1 A' l.length (cplx l)) (hB : B ≤ w.heap.size) (hf : l.all finCB = true) (hn : l.length ≤ 1048576) :
    Calls Try.prog 35 #[.agg #[.slice A l.length c], .agg #[.slice A' l.length c']] w fun e w' => e = .returned (.bool true) ∧ Below w.heap.size w w' := by
  have hb2 : Below w.heap.size w ((w.alloc (.cells #[.slice A l.length c] 33)).alloc (.cells #[.slice A' l.length c'] 33)) := ((Below.refl _ _).alloc (Nat.le_refl _) _).alloc (by simp) _
  have H : ∀ W, Below w.heap.size w W → Calls Try.prog 82 #[.slice A l.length c, .slice A' l.length c'] W fun e w' => e = .returned (.bool true) ∧ w' = W := fun W hW => by
    have HE := equalFuncC_any A A' c c' B l W (hr.below (hW.mono hB)) (hr'.below (hW.mono hB)) hf hn
    go_enter Try.func82, Try.ntmps82
    go_wp2_with fail
    refine HE.mono ?_
    rintro e w1 ⟨rfl, rfl⟩
    go_wp2
    go_ret
    exact ⟨rfl, rfl⟩
  clear hr hr' hf
  go_enter Try.func35, Try.ntmps35
  go_wp2_with fail
  refine (H _ hb2).mono ?_
  rintro e w1 ⟨rfl, rfl⟩
  go_wp2
  go_ret
  exact ⟨rfl, hb2⟩
end Go.Proofs.Ytlpibibpckkjhaa
namespace Go.Proofs.Ytlpibibpckkjhaa
open Go.RowKit
/-- The value of a polynomial at a point, as words. -/
def PAtR (p : List (Nat × Nat)) (z r : Nat × Nat) : Prop := ∀ (A : Option Addr) (c : Nat) w, Reads w w.heap.size 1 A p.length (cplx p) → Calls Try.prog 11 #[.agg #[.slice A p.length c], .complex .f32 z.1 z.2] w fun e w' => e = .returned (.tuple #[.complex .f32 r.1 r.2, .bool true]) ∧ Below w.heap.size w w'
set_option maxRecDepth 100000 in
set_option maxHeartbeats 1600000 in
theorem missOf_v (A0 A A' : Option Addr) (c0 c c' n N : Nat) (p pts vals : List (Nat × Nat)) (B : Rat) (hB : 0 ≤ B) (hpl : p.length = N) (hl : pts.length = n) (hl' : vals.length = n) (hc : n ≤ c) (hP : PtsOk pts) (hV : vals.all finCB = true) (hp : polyB p = true)
    (hM : ∀ i, i < n → ∃ r d L v, PAtR p (pts.getD i (0, 0)) r ∧ minusW r (vals.getD i (0, 0)) = some d ∧ longW d = some L ∧ NV .f32 L v ∧ v ≤ B) (w : World) (hr0 : Reads w w.heap.size 1 A0 N (cplx p)) (hr : Reads w w.heap.size 1 A n (cplx pts)) (hr' : Reads w w.heap.size 1 A' n (cplx vals)) :
    Calls Try.prog 33 #[.agg #[.slice A0 N c0], .slice A n c, .slice A' n c'] w fun e w' => ∃ m v, e = .returned (.tuple #[.float .f32 m, .bool true]) ∧ NV .f32 m v ∧ 0 ≤ v ∧ v ≤ B ∧ Below w.heap.size w w' := by
  subst hpl
  have hb1 : Below w.heap.size w (w.alloc (.cells #[.slice A0 p.length c0] 33)) := (Below.refl _ _).alloc (Nat.le_refl _) _
  have hP1 := Blk.new w 33 #[.slice A0 p.length c0]
  have hp17 := polyB_len hp
  have HV := validPoly_b A0 c0 w.heap.size p _ (hr0.below hb1) hb1.size (by omega)
  rw [hp] at HV
  replace hM := Lib.hid hM
  have hn17 : n ≤ 17 := by rw [← hl]; exact hP.len.2
  replace hB := Lib.hid hB
  go_enter Try.func33, Try.ntmps33
  go_wp2_with fail
  (with_reducible refine HV.mono ?_)
  rintro e w1 ⟨rfl, hb2⟩
  clear HV
  have z1 := hb2.size
  simp only [World.size_alloc] at z1
  have hP2 := hP1.below hb2 (by simp)
  have hb3 := hb1.trans (hb2.mono (by simp))
  have HA := areValued_any A A' c c' n pts vals hl hl' hc hP hV w1 ((hr.below hb3).more hb3.size) ((hr'.below hb3).more hb3.size)
  clear hP1 hb1 hb2 hP hV
  go_wp2_with fail
  (with_reducible refine HA.mono ?_)
  rintro e w2 ⟨rfl, hb4⟩
  clear HA
  have z2 := hb4.size
  have hP3 := hP2.below hb4 (by omega)
  have hb5 := hb3.trans (hb4.mono (by omega))
  clear hP2 hb3 hb4
  have h00 : Hid (∃ v, NV .f32 0 v ∧ 0 ≤ v ∧ v ≤ B) := ⟨0, nv_zero, Rat.le_refl, hB.out⟩
  go_wp2
  go_loopw [8, 9, 10, 11, 12, 24] (fun m _ _ _ _ q wr => ∃ (k x : Nat), k ≤ n ∧ q = .int .i64 (k : Int) ∧ m = .float .f32 x ∧ Hid (∃ v, NV .f32 x v ∧ 0 ≤ v ∧ v ≤ B) ∧ Blk wr w.heap.size 33 #[.slice A0 p.length c0] ∧ Below w.heap.size w wr) (fun _ _ _ _ _ q _ => n - (intOf q).toNat)
  case atStart => exact ⟨0, 0, Nat.zero_le _, rfl, rfl, h00, hP3, hb5⟩
  case round =>
    obtain ⟨k, x, hk, rfl, rfl, hx, hP4, hbr⟩ := hrel
    obtain ⟨wo, rfl⟩ : ∃ wo : World, wo = wr := ⟨_, rfl⟩
    clear hP3 hb5 h00
    have zo := hbr.size
    have hPl := hP4.lt
    by_cases hlt : k < n
    · obtain ⟨ad1, rfl, -, hc1⟩ := comp_at (l := pts) (k := k) (by rw [hl]; exact hr.below hbr) (by omega)
      obtain ⟨ad2, rfl, hB2, hc2⟩ := comp_at (l := vals) (k := k) (by rw [hl']; exact hr'.below hbr) (by omega)
      obtain ⟨r, d, L, v, HP, g1, g2, nL, bL⟩ := hM.out k hlt
      have H1 := HP A0 c0 wo ((hr0.below hbr).more zo)
      have H2 := minusW_calls g1
      have H3 := longW_calls g2
      obtain ⟨v0, n0, a0, b0⟩ := hx.out
      obtain ⟨y, vy, ny, ⟨y1, y2, y3⟩, HMx⟩ := max_any n0 nL #[25, 25] 25
      have hy : Hid (∃ v, NV .f32 y v ∧ 0 ≤ v ∧ v ≤ B) := ⟨vy, ny, by grind, by rcases y3 with e | e <;> grind⟩
      have cP : wo.cell? ⟨w.heap.size, 0, none⟩ = some (.slice A0 p.length c0) := hP4.cell 0
      have hk1 : (k : Int) < (n : Int) := by omega
      have hk0 : (0 : Int) ≤ (k : Int) := by omega
      clear hx hM HP g1 g2 nL bL n0 a0 b0 ny y1 y2 y3 hr hr' hr0
      generalize pts.getD k (0, 0) = X1 at *
      generalize vals.getD k (0, 0) = X2 at *
      go_wp2_with fail
      (with_reducible refine H1.mono ?_)
      rintro e w5 ⟨rfl, hb6⟩
      have hP5 := hP4.below hb6 (by omega)
      have hb7 := hbr.trans (hb6.mono zo)
      replace hc2 := (hb6.cell (p := ad2.add k) (by rw [block_of_add]; omega)).trans hc2
      clear H1 cP hP4 hbr hb6
      go_wp2_with fail
      refine (H2 _).mono ?_
      rintro e w6 ⟨rfl, rfl⟩
      go_wp2_with fail
      refine (H3 _).mono ?_
      rintro e w6 ⟨rfl, rfl⟩
      go_wp2
      go_roundw
      case rel => exact ⟨k + 1, y, by omega, by go_num, rfl, hy, hP5, hb7⟩
      case measure => (simp [intOf]; all_goals omega)
    · obtain rfl : n = k := by omega
      obtain ⟨v0, n0, a0, b0⟩ := hx.out
      have HC := checked_v (nv_fin n0)
      have hfin := Lib.hid (show NV .f32 x v0 ∧ 0 ≤ v0 ∧ v0 ≤ B from ⟨n0, a0, b0⟩)
      clear hx hM n0 a0 b0 hr hr' hr0
      go_wp2_with fail
      refine (HC _).mono ?_
      rintro e w6 ⟨rfl, hb6⟩
      go_wp2
      go_ret2
      exact ⟨x, v0, rfl, hfin.out.1, hfin.out.2.1, hfin.out.2.2, hbr.trans (hb6.mono zo)⟩
def sumF (f : Nat → Rat) : Nat → Rat
  | 0 => 0
  | k + 1 => sumF f k + f k
theorem sumF_le {f g : Nat → Rat} : ∀ n, (∀ k, k < n → f k ≤ g k) → sumF f n ≤ sumF g n
  | 0, _ => Rat.le_refl
  | n + 1, h => by
    have a := sumF_le n (fun k hk => h k (by omega))
    have b := h n (by omega)
    rw [sumF, sumF]; grind
theorem sumF_pos {f : Nat → Rat} : ∀ n, (∀ k, k < n → 0 ≤ f k) → 0 ≤ sumF f n
  | 0, _ => Rat.le_refl
  | n + 1, h => by
    have a := sumF_pos n (fun k hk => h k (by omega))
    have b := h n (by omega)
    rw [sumF]; grind
theorem sumF_upto {f : Nat → Rat} {n : Nat} (h : ∀ k, k < n → 0 ≤ f k) : ∀ d, d ≤ n → sumF f (n - d) ≤ sumF f n
  | 0, _ => by rw [Nat.sub_zero]; exact Rat.le_refl
  | d + 1, hd => by
    have a := sumF_upto h d (by omega)
    have b := h (n - (d + 1)) (by omega)
    have e : n - d = n - (d + 1) + 1 := by omega
    rw [e, sumF] at a
    grind
/-- The length so far. -/
def LonAt (t R : Nat → Rat) (S : Rat) (k x : Nat) : Prop := ∃ v, NV .f32 x v ∧ -(S / 10000) ≤ v ∧ v ≤ sumF R k + ((k : Nat) : Rat) * (S / 100000) ∧ sumF t k ≤ v + ((k : Nat) : Rat) * (S / 100000) + sumF R k / 10000 ∧ 0 - ((k : Nat) : Rat) * (S / 500000) ≤ v
set_option maxRecDepth 100000 in
set_option maxHeartbeats 800000 in
theorem longOfPoly_g (A : Option Addr) (c n : Nat) (l : List (Nat × Nat)) (hl : l.length = n) (re im R t : Nat → Rat) (S : Rat) (hn : n ≤ 17) (hT : ∀ k, k < n → NV .f32 (l.getD k (0, 0)).1 (re k) ∧ NV .f32 (l.getD k (0, 0)).2 (im k) ∧ E2 (re k) (im k) (R k) ∧ Me (R k) ∧ 0 ≤ t k ∧ t k * t k ≤ re k * re k + im k * im k)
    (hS : sumF R n ≤ S) (hM : 1 / 1000000 ≤ S ∧ S ≤ 1000000000000) (hv : polyB l = true) (w : World) (hr : Reads w w.heap.size 1 A n (cplx l)) :
    Calls Try.prog 26 #[.agg #[.slice A n c]] w fun e w' => ∃ r v, e = .returned (.tuple #[.float .f32 r, .bool true]) ∧ NV .f32 r v ∧ v ≤ 2 * S ∧ sumF t n ≤ v + S / 1000 ∧ Below w.heap.size w w' := by
  subst hl
  have hb1 : Below w.heap.size w (w.alloc (.cells #[.slice A l.length c] 33)) := (Below.refl _ _).alloc (Nat.le_refl _) _
  have hP1 := Blk.new w 33 #[.slice A l.length c]
  have HV := validPoly_b A c w.heap.size l _ (hr.below hb1) hb1.size (by omega)
  rw [hv] at HV
  have hRp : ∀ k, k < l.length → 0 ≤ R k := fun k hk => (hT k hk).2.2.1.pos
  have hup : Hid (∀ k, k ≤ l.length → 0 ≤ sumF R k ∧ sumF R k ≤ S) := fun k hk => by
    have a := sumF_upto hRp (l.length - k) (by omega)
    rw [show l.length - (l.length - k) = k by omega] at a
    exact ⟨sumF_pos k (fun j hj => hRp j (by omega)), by grind⟩
  replace hT := Lib.hid hT
  replace hM := Lib.hid hM
  clear hRp hS
  go_enter Try.func26, Try.ntmps26
  go_wp2_with fail
  (with_reducible refine HV.mono ?_)
  rintro e w1 ⟨rfl, hb2⟩
  clear HV hv
  have z2 := hb2.size
  simp only [World.size_alloc] at z2
  have hP2 := hP1.below hb2 (by simp)
  have hb3 := hb1.trans (hb2.mono (by simp))
  clear hP1 hb1 hb2
  have cP : w1.cell? ⟨w.heap.size, 0, none⟩ = some (.slice A l.length c) := hP2.cell 0
  have hr1 := hr.below hb3
  have h0 : Hid (LonAt t R S 0 0) := by
    have := hM.out
    have e0 : ((0 : Nat) : Rat) = 0 := rfl
    refine ⟨0, nv_zero, ?_, ?_, ?_, ?_⟩ <;> (try simp only [sumF, e0]) <;> grind
  clear hr
  go_wp2
  go_loopw [4, 6, 13] (fun v _ q wr => ∃ k x : Nat, k ≤ l.length ∧ q = .int .i64 (k : Int) ∧ v = .float .f32 x ∧ Hid (LonAt t R S k x) ∧ wr = w1) (fun _ _ q _ => l.length - (intOf q).toNat)
  case atStart => exact ⟨0, 0, Nat.zero_le _, rfl, rfl, h0, rfl⟩
  case round =>
    obtain ⟨k, x, hk, rfl, rfl, hx, rfl⟩ := hrel
    clear h0 cP
    have hk17 := nat_le_rat (show k ≤ 17 by omega)
    have e17 : ((17 : Nat) : Rat) = 17 := rfl
    rw [e17] at hk17
    have hk0 := nat_le_rat (Nat.zero_le k)
    have e0 : ((0 : Nat) : Rat) = 0 := rfl
    rw [e0] at hk0
    obtain ⟨v, nv, v1, v2, v3, v4⟩ := hx.out
    obtain ⟨s1, s2⟩ := hM.out
    have hkS := Rat.mul_nonneg (show (0 : Rat) ≤ 17 - ((k : Nat) : Rat) by grind) (show (0 : Rat) ≤ S by grind)
    have hkS2 := Rat.mul_nonneg hk0 (show (0 : Rat) ≤ S by grind)
    by_cases hlt : k < l.length
    · obtain ⟨a1, a2, a3, a4, a5, a6⟩ := hT.out k hlt
      obtain ⟨u1, u2⟩ := hup.out (k + 1) (by omega)
      rw [sumF] at u1 u2
      obtain ⟨y, ν, g1, ny, y1, y2, y3⟩ := longE a1 a2 a3 a4
      have y4 := y3 _ a5 a6
      have hR0 := a3.pos
      obtain ⟨z, ζ, g2, nz, ez⟩ := addM nv ny (M := 2 * S) ⟨by grind, by grind⟩ (by grind) (by grind)
      rw [un32] at ez
      unfold Nr at ez
      have hfin : Hid (LonAt t R S (k + 1) z) := by
        have es := nat_succ_rat k
        refine ⟨ζ, nz, ?_, ?_, ?_, ?_⟩ <;> (try rw [es]) <;> (try rw [sumF]) <;> (try rw [sumF]) <;> grind
      have H1 := longW_calls g1
      have j2 := ar32 _ _ _ _ g2
      obtain ⟨ad, rfl, -, hc1⟩ := comp_at hr1 hlt
      obtain ⟨w5, rfl⟩ : ∃ w5 : World, w5 = wr := ⟨_, rfl⟩
      clear a1 a2 a3 a4 a5 a6 u1 u2 g1 ny y1 y2 y3 y4 hR0 g2 nz ez nv v1 v2 v3 v4 s1 s2 hx hkS hkS2 hk17 hk0
      generalize l.getD k (0, 0) = X at *
      go_wp2_with fail
      refine (H1 _).mono ?_
      rintro e w6 ⟨rfl, rfl⟩
      go_wp2
      go_roundw
      case rel => exact ⟨k + 1, z, by omega, by go_num, rfl, hfin, trivial⟩
      case measure => (simp [intOf]; all_goals omega)
    · obtain rfl : k = l.length := by omega
      have HC := checked_v (nv_fin nv)
      obtain ⟨u1, u2⟩ := hup.out l.length (Nat.le_refl _)
      have hfin := Lib.hid (show NV .f32 x v ∧ v ≤ 2 * S ∧ sumF t l.length ≤ v + S / 1000 from ⟨nv, by grind, by grind⟩)
      clear nv v1 v2 v3 v4 s1 s2 hx hkS hkS2 hk17 hk0 u1 u2
      go_wp2_with fail
      refine (HC _).mono ?_
      rintro e w6 ⟨rfl, hb5⟩
      go_wp2
      go_ret2
      exact ⟨x, v, rfl, hfin.out.1, hfin.out.2.1, hfin.out.2.2, hb3.trans (hb5.mono hb3.size)⟩
end Go.Proofs.Ytlpibibpckkjhaa
