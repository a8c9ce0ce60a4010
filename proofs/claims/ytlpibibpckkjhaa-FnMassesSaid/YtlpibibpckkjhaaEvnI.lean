/-
  Contracts: the nodes and weights of even masses by the program (impl.EvenNodes).
-/
import Derived.Test.YtlpibibpckkjhaaEvnE
namespace Go.Proofs.Ytlpibibpckkjhaa
open Go.RowKit

theorem Blk.new (w : World) (t : TypeId) (cs : Array Value) : Blk (w.alloc (.cells cs t)) w.heap.size t cs := heap_alloc_new w _
theorem Blk.alloc {w : World} {g : Nat} {t : TypeId} {cs : Array Value} (h : Blk w g t cs) (o : Obj) : Blk (w.alloc o) g t cs := h.below ((Below.refl w.heap.size w).alloc (Nat.le_refl _) o) h.lt
theorem own_row {w : World} {base g c n : Nat} {E : TypeId} {xs : List Value} (h : w.ownsRow base E 1 (.slice (some ⟨g, 0, none⟩) n c) n xs) : Own w g (g + 1) E (some ⟨g, 0, none⟩) xs := by
  have hl := h.1
  obtain ⟨cs, hb, e1, e2, e3⟩ := blk_of_row h
  exact .inr ⟨g, cs, rfl, Nat.le_refl _, Nat.lt_succ_self _, hb, by omega, by rw [show xs.length = n by omega]; exact e2⟩
theorem below_set {B : Nat} {w w' : World} {a : Addr} (h : Below B w w') (ha : B ≤ a.block) (u : Value) : Below B w (w'.setCell a u) :=
  h.trans ⟨rfl, rfl, rfl, by simp [World.setCell], fun k hk => Below.heap_setCell _ _ _ _ (by omega)⟩

set_option maxRecDepth 100000 in
theorem evenI_no (n : Int) (h : ¬ (1 ≤ n ∧ n ≤ 8)) (w : World) :
    Calls Try.prog 22 #[.int .i64 n] w fun e w' => e = .returned (.tuple #[.slice none 0 0, .slice none 0 0, .bool false]) ∧ Below w.heap.size w w' := by
  have H := within_any n
  have hb : (decide (1 ≤ n) && decide (n ≤ 8)) = false := by simp; omega
  rw [hb] at H
  go_enter Try.func22, Try.ntmps22
  go_wp2_with fail
  refine (H _).mono ?_
  rintro e w1 ⟨rfl, rfl⟩
  go_wp2
  go_ret3
  exact ⟨rfl, (Below.refl _ _).alloc (Nat.le_refl _) _⟩

set_option maxRecDepth 100000 in
set_option maxHeartbeats 1600000 in
theorem evenI_any (n : Nat) (h1 : 1 ≤ n) (h8 : n ≤ 8) (w : World) :
    Calls Try.prog 22 #[.int .i64 (n : Int)] w fun e w' => ∃ g c g' c', e = .returned (.tuple #[.slice (some ⟨g, 0, none⟩) n c, .slice (some ⟨g', 0, none⟩) n c', .bool true]) ∧ g ≠ g' ∧ Own w' g (g + 1) 25 (some ⟨g, 0, none⟩) (flts (nodesL n n)) ∧ Own w' g' (g' + 1) 25 (some ⟨g', 0, none⟩) (flts (weightsL n n)) ∧ w.heap.size ≤ g ∧ w.heap.size ≤ g' ∧ g < w'.heap.size ∧ g' < w'.heap.size ∧ Below w.heap.size w w' := by
  have H := within_any (n : Int)
  have hb : (decide (1 ≤ (n : Int)) && decide ((n : Int) ≤ 8)) = true := by simp; omega
  rw [hb] at H
  clear hb
  obtain ⟨i0, hi, hz0, hz1, hz2⟩ := info_parts infoF
  go_enter Try.func22, Try.ntmps22
  go_wp2_with fail
  refine (H _).mono ?_
  rintro e w1 ⟨rfl, rfl⟩
  clear H
  go_wp2
  have hA : Blk ((((w.alloc (.cells #[.int .i64 (n : Int)] 2)).alloc (.cells #[.float .f32 (floatOfInt .f32 (n : Int))] 25)).alloc (.cells #[] 25)).alloc (.cells #[] 25)) w.heap.size 2 #[.int .i64 (n : Int)] := by
    exact (((Blk.new w _ _).alloc _).alloc _).alloc _
  have hM : Blk ((((w.alloc (.cells #[.int .i64 (n : Int)] 2)).alloc (.cells #[.float .f32 (floatOfInt .f32 (n : Int))] 25)).alloc (.cells #[] 25)).alloc (.cells #[] 25)) (w.heap.size + 1) 25 #[.float .f32 (floatOfInt .f32 (n : Int))] := by
    have h := ((Blk.new (w.alloc (.cells #[.int .i64 (n : Int)] 2)) 25 #[.float .f32 (floatOfInt .f32 (n : Int))]).alloc (.cells #[] 25)).alloc (.cells #[] 25)
    simpa using h
  have hb0 : Below w.heap.size w ((((w.alloc (.cells #[.int .i64 (n : Int)] 2)).alloc (.cells #[.float .f32 (floatOfInt .f32 (n : Int))] 25)).alloc (.cells #[] 25)).alloc (.cells #[] 25)) := ((((Below.refl _ _).alloc (Nat.le_refl _) _).alloc (by simp) _).alloc (by simp; omega) _).alloc (by simp; omega) _
  have hown1 : ((((w.alloc (.cells #[.int .i64 (n : Int)] 2)).alloc (.cells #[.float .f32 (floatOfInt .f32 (n : Int))] 25)).alloc (.cells #[] 25)).alloc (.cells #[] 25)).ownsRow (w.heap.size + 2) 25 1 (.slice (some ⟨w.heap.size + 1 + 1, 0, none⟩) 0 0) 0 (flts (nodesL n 0)) := by
    have h := World.ownsRow_made (base := w.heap.size + 2) (e := 25) (size := 1) ((w.alloc (.cells #[.int .i64 (n : Int)] 2)).alloc (.cells #[.float .f32 (floatOfInt .f32 (n : Int))] 25)) #[] 0 (by simp) (by simp [maxLen]) rfl
    have h2 := h.alloc (.cells #[] 25)
    simpa [nodesL, flts] using h2
  have hown2 : ((((w.alloc (.cells #[.int .i64 (n : Int)] 2)).alloc (.cells #[.float .f32 (floatOfInt .f32 (n : Int))] 25)).alloc (.cells #[] 25)).alloc (.cells #[] 25)).ownsRow (w.heap.size + 2) 25 1 (.slice (some ⟨w.heap.size + 1 + 1 + 1, 0, none⟩) 0 0) 0 (flts (weightsL n 0)) := by
    have h := World.ownsRow_made (base := w.heap.size + 2) (e := 25) (size := 1) (((w.alloc (.cells #[.int .i64 (n : Int)] 2)).alloc (.cells #[.float .f32 (floatOfInt .f32 (n : Int))] 25)).alloc (.cells #[] 25)) #[] 0 (by simp) (by simp [maxLen]) rfl
    simpa [weightsL, flts] using h
  go_loopw [6, 7, 8, 9, 10, 11, 12, 13, 14, 23] (fun v1 v2 _ _ _ _ _ _ _ q wr => ∃ k : Nat, k ≤ n ∧ q = .int .i64 (k : Int) ∧ wr.ownsRow (w.heap.size + 2) 25 1 v1 k (flts (nodesL n k)) ∧ wr.ownsRow (w.heap.size + 2) 25 1 v2 k (flts (weightsL n k)) ∧ v1.ownBlock ≠ v2.ownBlock ∧ Blk wr w.heap.size 2 #[.int .i64 (n : Int)] ∧ Blk wr (w.heap.size + 1) 25 #[.float .f32 (floatOfInt .f32 (n : Int))] ∧ Below w.heap.size w wr) (fun _ _ _ _ _ _ _ _ _ q _ => n - (intOf q).toNat)
  case atStart => exact ⟨0, Nat.zero_le _, rfl, hown1, hown2, by simp [Value.ownBlock], hA, hM, hb0⟩
  case round =>
    obtain ⟨k, hk, rfl, ho1, ho2, hne, hA1, hM1, hbr⟩ := hrel
    clear hown1 hown2 hb0 hA hM
    obtain ⟨wo, rfl⟩ : ∃ wo : World, wo = wr := ⟨_, rfl⟩
    have hsz0 := hbr.size
    have hszM := hM1.lt
    by_cases hlt : k < n
    · obtain ⟨x0, p, s, e1, e2, e3, e4⟩ := node_parts (node_some n k h1 h8 hlt).1
      obtain ⟨y0, y, r, f1, f2, f3, f4, f5⟩ := start_parts e1
      obtain ⟨a, q, g1, g2, g3⟩ := turn_parts f1
      have HC := SineTurns_any y0 y r x0 f2 f3 f4 f5
      have j1 := ar32 _ _ _ _ g1
      have j2 := ar32 _ _ _ _ g2
      have j3 := ar32 _ _ _ _ g3
      have he := Lib.hid e2
      have cA : wo.cell? ⟨w.heap.size, 0, none⟩ = some (.int .i64 (n : Int)) := hA1.cell 0
      clear g1 g2 g3 f1 f2 f3 f4 f5 e1 e2
      go_wp2_with fail
      refine (HC wo).mono ?_
      rintro e w2 ⟨rfl, hb2⟩
      clear HC
      have hsz2 := hb2.size
      have ho1 := ownsRow_kp ho1 (Kp.of_below (lo := 0) (hi := 0) hb2) (Nat.zero_le _)
      have ho2 := ownsRow_kp ho2 (Kp.of_below (lo := 0) (hi := 0) hb2) (Nat.zero_le _)
      have hlt1 := fun j hj => (ho1.lt j hj).2
      have hlt2 := fun j hj => (ho2.lt j hj).2
      have hA2 := hA1.below hb2 (by omega)
      have hM2 := hM1.below hb2 hszM
      go_wp2
      have hX0 := Blk.new w2 25 #[.float .f32 x0]
      have hbx : Below w2.heap.size w2 (w2.alloc (.cells #[.float .f32 x0] 25)) := (Below.refl _ _).alloc (Nat.le_refl _) _
      go_loopw [11, 12, 37] (fun _ _ tv wr => ∃ t x : Nat, t ≤ 12 ∧ tv = .int .i64 (t : Int) ∧ Blk wr w2.heap.size 25 #[.float .f32 x] ∧ Hid (iterO n (12 - t) x = some (nodeN n k)) ∧ Below w2.heap.size w2 wr) (fun _ _ tv _ => 12 - (intOf tv).toNat)
      case atStart => exact ⟨0, x0, Nat.zero_le _, rfl, hX0, he, hbx⟩
      case round =>
        obtain ⟨t, x, ht, rfl, hX, hx, hb3⟩ := hrel
        clear he hX0 hbx cA
        obtain ⟨w3, rfl⟩ : ∃ w3 : World, w3 = wr := ⟨_, rfl⟩
        have hA3 := hA2.below hb3 (by omega)
        have hM3 := hM2.below hb3 (by omega)
        have cA3 : w3.cell? ⟨w.heap.size, 0, none⟩ = some (.int .i64 (n : Int)) := hA3.cell 0
        have cM3 : w3.cell? ⟨w.heap.size + 1, 0, none⟩ = some (.float .f32 (floatOfInt .f32 (n : Int))) := hM3.cell 0
        have cX3 : w3.cell? ⟨w2.heap.size, 0, none⟩ = some (.float .f32 x) := hX.cell 0
        by_cases hlt12 : t < 12
        · have hx1 := hx.out
          rw [show 12 - t = (12 - (t + 1)) + 1 by omega] at hx1
          obtain ⟨x1, i1, i2⟩ := iter_parts hx1
          obtain ⟨p1, s1, d, l1, l2, l3⟩ := nstep_parts i1
          have HS := slopeI_any _ _ _ n x p1 s1 (by omega) h1 l1 w3 cA3 cX3 cM3
          have j2 := ar32 _ _ _ _ l2
          have j3 := ar32 _ _ _ _ l3
          have hi2 := Lib.hid i2
          clear hx1 i1 i2 l1 l2 l3 hx ho1 ho2
          go_wp2_with fail
          refine HS.mono ?_
          rintro e w4 ⟨rfl, hb4⟩
          have hX4 := hX.below hb4 hX.lt
          have cX4 : w4.cell? ⟨w2.heap.size, 0, none⟩ = some (.float .f32 x) := hX4.cell 0
          have fX4 := hX4.frozen 0
          clear HS cA3 cM3 cX3
          go_wp2
          exact ⟨⟨t + 1, x1, by omega, by go_num, hX4.set_ 0 _, hi2, below_set (hb3.trans (hb4.mono hb3.size)) (by simp) _⟩, by simp [intOf]; omega⟩
        · obtain rfl : t = 12 := by omega
          have hx1 := hx.out
          unfold iterO at hx1
          cases hx1
          have HS := slopeI_any _ _ _ n (nodeN n k) p s (by omega) h1 e3 w3 cA3 cX3 cM3
          obtain ⟨t1, t2, t3, t4, g1, g2, g3, g4, g5⟩ := weight_parts e4
          have j1 := ar32 _ _ _ _ g1
          have j2 := ar32 _ _ _ _ g2
          have j3 := ar32 _ _ _ _ g3
          have j4 := ar32 _ _ _ _ g4
          have j5 := ar32 _ _ _ _ g5
          have hsz3 := hb3.size
          have ho1 := ownsRow_kp ho1 (Kp.of_below (lo := 0) (hi := 0) hb3) (Nat.zero_le _)
          have ho2 := ownsRow_kp ho2 (Kp.of_below (lo := 0) (hi := 0) hb3) (Nat.zero_le _)
          have eN := nodesL_succ n k
          have eW := weightsL_succ n k
          generalize nodeN n k = xn at *
          generalize nodeW n k = xw at *
          clear e3 e4 g1 g2 g3 g4 g5 hx cA3 cM3
          go_wp2_with fail
          refine HS.mono ?_
          rintro e w4 ⟨rfl, hb4⟩
          clear HS
          have hsz4 := hb4.size
          have ho1 := ownsRow_kp ho1 (Kp.of_below (lo := 0) (hi := 0) hb4) (Nat.zero_le _)
          have ho2 := ownsRow_kp ho2 (Kp.of_below (lo := 0) (hi := 0) hb4) (Nat.zero_le _)
          have hA4 := hA3.below hb4 hA3.lt
          have hM4 := hM3.below hb4 hM3.lt
          have hX4 := hX.below hb4 hX.lt
          have cX4 : w4.cell? ⟨w2.heap.size, 0, none⟩ = some (.float .f32 xn) := hX4.cell 0
          clear hA3 hM3 hX cX3
          obtain ⟨A1, c1, rfl, -, -, -⟩ := Own.of_row ho1 (Nat.le_refl _)
          obtain ⟨A2, c2, rfl, -, -, -⟩ := Own.of_row ho2 (Nat.le_refl _)
          have nX1 : some w2.heap.size ≠ (Value.slice A1 k c1).ownBlock := fun e => absurd (hlt1 _ e.symm) (Nat.lt_irrefl _)
          have nX2 : some w2.heap.size ≠ (Value.slice A2 k c2).ownBlock := fun e => absurd (hlt2 _ e.symm) (Nat.lt_irrefl _)
          go_wp2_with (at_builtin; first
            | (refine wpList_append_any _ rfl (.tmp 55) (.tmp 57) _ rfl (w.heap.size + 2) 25 i0 _ 1 4 Try.underlying26 hi hz0 hz1 hz2 rfl (by omega) (.slice A1 k c1) k (flts (nodesL n k)) rfl (ho1.alloc _) (w4.heap.size + 1) (some ⟨w4.heap.size, 0, none⟩) 1 1 [.float .f32 xn] rfl (reads_new w4 [_] _) (one_flt xn) (by simp only [maxLen]; omega) (by omega) (by simp; omega) ?_
               intro v1 w5 ho5 hg5 hat5
               rw [flts_snoc, eN] at ho5
               have hb5 : Below (w.heap.size + 2) w4 w5 := ((Below.refl _ _).alloc (by omega) _).grown hg5 (by simp; omega) (fun j hj => (ho1.lt j hj).1)
               have hne5 : v1.ownBlock ≠ (Value.slice A2 k c2).ownBlock := row_apart ho2 hne hat5
               have ho6 : w5.ownsRow (w.heap.size + 2) 25 1 (.slice A2 k c2) k (flts (weightsL n k)) := (ho2.alloc _).kept hg5 (.inr fun e => hne e.symm)
               have cX5 : w5.cell? ⟨w2.heap.size, 0, none⟩ = some (.float .f32 xn) := hg5.cell ((hX4.alloc _).cell 0) nX1
               have hsz5 := hb5.size
               clear ho1 ho2 hne hat5 hg5 cX4)
            | (refine wpList_append_any _ rfl (.tmp 59) (.tmp 69) _ rfl (w.heap.size + 2) 25 i0 _ 1 4 Try.underlying26 hi hz0 hz1 hz2 rfl (by omega) (.slice A2 k c2) k (flts (weightsL n k)) rfl (ho6.alloc _) (w5.heap.size + 1) (some ⟨w5.heap.size, 0, none⟩) 1 1 [.float .f32 xw] rfl (reads_new w5 [_] _) (one_flt xw) (by simp only [maxLen]; omega) (by omega) (by simp; omega) ?_
               intro v2 w6 ho7 hg7 hat7
               rw [flts_snoc, eW] at ho7
               have hb6 : Below (w.heap.size + 2) w5 w6 := ((Below.refl _ _).alloc (by omega) _).grown hg7 (by simp; omega) (fun j hj => (ho6.lt j hj).1)
               have hne6 : v2.ownBlock ≠ v1.ownBlock := row_apart ho5 hne5.symm hat7
               have ho8 : w6.ownsRow (w.heap.size + 2) 25 1 v1 (k + 1) (flts (nodesL n (k + 1))) := (ho5.alloc _).kept hg7 (.inr hne5)
               have hsz6 := hb6.size
               clear ho5 ho6 hne5 hat7 hg7))
          have hb46 := hb5.trans hb6
          exact ⟨⟨k + 1, by omega, by go_num, ho8, ho7, hne6.symm, hA4.below hb46 (by omega), hM4.below hb46 (by omega), hbr.trans ((hb2.mono hsz0).trans ((hb3.mono (by omega)).trans ((hb4.mono (by omega)).trans (hb46.mono (by omega)))))⟩, by simp [intOf]; omega⟩
    · obtain rfl : k = n := by omega
      obtain ⟨g1, c1, rfl, l1⟩ := World.ownsRow.form ho1 (by omega)
      obtain ⟨g2, c2, rfl, l2⟩ := World.ownsRow.form ho2 (by omega)
      have hO1 := own_row ho1
      have hO2 := own_row ho2
      have hg12 : g1 ≠ g2 := fun e => hne (by rw [e]; rfl)
      have HF1 := areFinite_b (some ⟨g1, 0, none⟩) c1 wo.heap.size (nodesL k k) wo (hO1.reads' (by omega) (by simp)) (Nat.le_refl _) (by simp; omega)
      rw [nodesL_len, nodesL_fin k h1 h8] at HF1
      clear ho1 ho2 hne hA1 hM1
      go_wp2_with fail
      refine HF1.mono ?_
      rintro e w2 ⟨rfl, hb2⟩
      clear HF1
      have hsz2 := hb2.size
      have HF2 := areFinite_b (some ⟨g2, 0, none⟩) c2 w2.heap.size (weightsL k k) w2 ((hO2.below hb2 (by omega)).reads' (by omega) (by simp)) (Nat.le_refl _) (by simp; omega)
      rw [weightsL_len, weightsL_fin k h1 h8] at HF2
      go_wp2_with fail
      refine HF2.mono ?_
      rintro e w3 ⟨rfl, hb3⟩
      clear HF2
      have hsz3 := hb3.size
      go_wp2
      go_ret3
      exact ⟨g1, c1, g2, c2, rfl, hg12, (hO1.below hb2 (by omega)).below hb3 (by omega), (hO2.below hb2 (by omega)).below hb3 (by omega), by omega, by omega, by omega, by omega, (hbr.trans (hb2.mono hsz0)).trans (hb3.mono (by omega))⟩
end Go.Proofs.Ytlpibibpckkjhaa
