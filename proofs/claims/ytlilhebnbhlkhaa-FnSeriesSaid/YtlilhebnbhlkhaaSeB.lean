/-
  Series: their test, sums of products, products, by words (impl.IsSeries, mixed, mulSeries, ..).
-/
import Derived.Test.YtlilhebnbhlkhaaQd
import Derived.BigQuiet
import Derived.Deep.RegionHeld3
import Derived.StillTailTactics
namespace Go.Proofs.Ytlilhebnbhlkhaa
open Go.RowKit

/-- A series: as many terms as may be, finite. -/
structure Ser (l : List (Nat × Nat)) (n : Nat) : Prop where
  len : l.length = n
  n1 : 1 ≤ n
  n2 : n ≤ 16
  fin : l.all finCB = true
theorem isSeries_y (A : Option Addr) (c B n : Nat) (l : List (Nat × Nat)) (h : Ser l n) (w : World) (hr : Reads w B 1 A n (cplx l)) (hB : B ≤ w.heap.size) :
    Calls Try.prog 29 #[.slice A n c] w fun e w' => e = .returned (.bool true) ∧ Below w.heap.size w w' := by
  obtain ⟨rfl, n1, n2, hf⟩ := h
  have HF := allFinite_b A c B l w hr hB (by omega)
  rw [hf] at HF
  go_enter Try.func29, Try.ntmps29
  have hk1 : (1 : Int) ≤ (l.length : Int) := by omega
  have hk2 : (l.length : Int) ≤ 16 := by omega
  have hk3 : (l.length : Int) ≥ 1 := by omega
  go_wp2_with fail
  refine HF.mono ?_
  rintro e w1 ⟨rfl, hb1⟩
  go_wp2
  go_ret
  exact ⟨rfl, hb1⟩
theorem checkedSeries_y (A : Option Addr) (c B n : Nat) (l : List (Nat × Nat)) (h : Ser l n) (w : World) (hr : Reads w B 1 A n (cplx l)) (hB : B ≤ w.heap.size) :
    Calls Try.prog 68 #[.slice A n c] w fun e w' => e = .returned (.tuple #[.slice A n c, .bool true]) ∧ Below w.heap.size w w' := by
  have HS := isSeries_y A c B n l h w hr hB
  clear h hr
  go_enter Try.func68, Try.ntmps68
  go_wp2_with fail
  refine HS.mono ?_
  rintro e w1 ⟨rfl, hb1⟩
  go_wp2
  go_ret2
  exact ⟨rfl, hb1⟩
theorem areSeries_y (A A' : Option Addr) (c c' B n : Nat) (l l' : List (Nat × Nat)) (h : Ser l n) (h' : Ser l' n) (w : World) (hr : Reads w B 1 A n (cplx l)) (hr' : Reads w B 1 A' n (cplx l')) (hB : B ≤ w.heap.size) :
    Calls Try.prog 69 #[.slice A n c, .slice A' n c'] w fun e w' => e = .returned (.bool true) ∧ Below w.heap.size w w' := by
  have HS := isSeries_y A c B n l h w hr hB
  have HS' := fun (W : World) (hW : Below w.heap.size w W) => isSeries_y A' c' B n l' h' W (hr'.below (hW.mono hB)) (by have := hW.size; omega)
  clear h h' hr hr'
  go_enter Try.func69, Try.ntmps69
  go_wp2_with fail
  refine HS.mono ?_
  rintro e w1 ⟨rfl, hb1⟩
  go_wp2_with fail
  refine (HS' w1 hb1).mono ?_
  rintro e w2 ⟨rfl, hb2⟩
  go_wp2
  go_ret
  exact ⟨rfl, hb1.trans (hb2.mono hb1.size)⟩
/-- A sum of products, out of its first summands. -/
def mixN (a b : List (Nat × Nat)) (k f : Nat) : Nat → Option (Nat × Nat)
  | 0 => some (0, 0)
  | m + 1 => (mixN a b k f m).bind fun s => (mulW (a.getD (f + m) (0, 0)) (b.getD (k - (f + m)) (0, 0))).bind fun p => plusW s p
theorem mixN_upto {a b : List (Nat × Nat)} {k f : Nat} {r : Nat × Nat} {m : Nat} (h : mixN a b k f m = some r) : ∀ j, j ≤ m → ∃ s, mixN a b k f j = some s := by
  induction m generalizing r with
  | zero =>
    intro j hj
    obtain rfl : j = 0 := by omega
    exact ⟨r, h⟩
  | succ m ih =>
    intro j hj
    have h' := h
    rw [mixN, Option.bind_eq_some_iff] at h
    obtain ⟨s, h1, -⟩ := h
    by_cases e : j = m + 1
    · subst e
      exact ⟨r, h'⟩
    · exact ih h1 j (by omega)
theorem mixN_step {a b : List (Nat × Nat)} {k f m : Nat} {s r : Nat × Nat} (h : mixN a b k f (m + 1) = some r) (hs : mixN a b k f m = some s) : ∃ p, mulW (a.getD (f + m) (0, 0)) (b.getD (k - (f + m)) (0, 0)) = some p ∧ plusW s p = some r := by
  rw [mixN, hs, Option.bind_some, Option.bind_eq_some_iff] at h
  exact h
set_option maxRecDepth 100000 in
set_option maxHeartbeats 800000 in
theorem mixed_w (A A' : Option Addr) (c c' B n n' k f m : Nat) (F t : Int) (a b : List (Nat × Nat)) (ha : a.length = n) (hb : b.length = n') (r : Nat × Nat) (hF : F = (f : Int)) (ht : t = (f : Int) + (m : Int) - 1) (hn : n ≤ 1000) (hn' : n' ≤ 1000) (hfm : f + m ≤ n) (hkm : f + m ≤ k + 1) (hkn : k < n') (h : mixN a b k f m = some r)
    (w : World) (hr : Reads w B 1 A n (cplx a)) (hr' : Reads w B 1 A' n' (cplx b)) :
    Calls Try.prog 52 #[.slice A n c, .slice A' n' c', .int .i64 (k : Int), .int .i64 F, .int .i64 t] w fun e w' => e = .returned (.complex .f32 r.1 r.2) ∧ ∃ q, w' = w.drewN q := by
  subst ha hb ht hF
  have h0 : Hid (mixN a b k f 0 = some (0, 0)) := rfl
  replace h := Lib.hid h
  go_enter Try.func52, Try.ntmps52
  go_wp2
  go_loopw [11, 12] (fun v q wr => ∃ (j : Nat) (x : Nat × Nat), j ≤ m ∧ q = .int .i64 ((f : Int) + (j : Int)) ∧ v = .complex .f32 x.1 x.2 ∧ Hid (mixN a b k f j = some x) ∧ ∃ q, wr = w.drewN q) (fun _ q _ => (f + m) - (intOf q).toNat)
  case atStart => exact ⟨0, (0, 0), Nat.zero_le _, by simp, rfl, h0, 0, rfl⟩
  case round =>
    obtain ⟨j, x, hj, rfl, rfl, hx, dq, hW⟩ := hrel
    clear h0
    by_cases hlt : j < m
    · obtain ⟨s, hs⟩ := mixN_upto h.out (j + 1) (by omega)
      obtain ⟨p, g1, g2⟩ := mixN_step hs hx.out
      have H1 := mulW_calls g1
      have H2 := plusW_calls g2
      have hrw : Reads wr B 1 A a.length (cplx a) := by rw [hW]; exact hr.drewN _
      have hrw' : Reads wr B 1 A' b.length (cplx b) := by rw [hW]; exact hr'.drewN _
      obtain ⟨ad1, rfl, -, hc1⟩ := comp_at hrw (show f + j < a.length by omega)
      obtain ⟨ad2, rfl, -, hc2⟩ := comp_at hrw' (show k - (f + j) < b.length by omega)
      have hsn : Hid (mixN a b k f (j + 1) = some s) := hs
      have hWq : Hid (wr = w.drewN dq) := hW
      have hle : (f : Int) + (j : Int) ≤ (f : Int) + (m : Int) - 1 := by omega
      have e1 : (f : Int) + (j : Int) = ((f + j : Nat) : Int) := by omega
      have f1 : ((f + j : Nat) : Int) < (a.length : Int) := by omega
      have f2 : (0 : Int) ≤ ((f + j : Nat) : Int) := by omega
      have f3 : f + j < a.length := by omega
      have wk : IntKind.i64.wrap ((k : Int) - ((f + j : Nat) : Int)) = ((k - (f + j) : Nat) : Int) := by
        rw [show (k : Int) - ((f + j : Nat) : Int) = ((k - (f + j) : Nat) : Int) by omega]
        exact IntWalk.i64_in _ (by omega)
      have f4 : ((k - (f + j) : Nat) : Int) < (b.length : Int) := by omega
      have f5 : (0 : Int) ≤ ((k - (f + j) : Nat) : Int) := by omega
      have f6 : k - (f + j) < b.length := by omega
      clear hr hr' hrw hrw' hW g1 g2 hs hx h
      rw [e1] at hle ⊢
      generalize a.getD (f + j) (0, 0) = X1 at *
      generalize b.getD (k - (f + j)) (0, 0) = X2 at *
      generalize hi : f + j = i at *
      replace hi := Lib.hid hi
      generalize hki : k - i = l at *
      replace hki := Lib.hid hki
      go_wp2_with fail
      go_big_quiet ((first | (go_at_call 50; with_reducible exact Calls.quiet_of_same (H1 _)) | (go_at_call 66; with_reducible exact Calls.quiet_of_same (H2 _))))
      go_wp2
      go_roundw
      case rel => exact ⟨j + 1, s, by omega, by have := hi.out; go_num, rfl, hsn, dq + nq, by rw [hWq.out, World.drewN_drewN]⟩
      case measure => (have := hi.out; simp [intOf]; all_goals omega)
    · obtain rfl : j = m := by omega
      have he : x = r := by
        have := hx.out
        rw [h.out] at this
        exact (Option.some.inj this).symm
      subst he
      have hle : ¬ (f : Int) + (j : Int) ≤ (f : Int) + (j : Int) - 1 := by omega
      clear hr hr' h hx
      go_wp2
      go_ret
      exact ⟨rfl, dq, rfl⟩
theorem take_snoc_c {lo : List (Nat × Nat)} {k : Nat} (hk : k < lo.length) : cplx (lo.take k) ++ [.complex .f32 (lo.getD k (0, 0)).1 (lo.getD k (0, 0)).2] = cplx (lo.take (k + 1)) := by
  rw [cplx_snoc]
  congr 1
  rw [List.take_add_one, List.getD, List.getElem?_eq_getElem hk]
  rfl
/-- A product of series. -/
structure MulR (a b o : List (Nat × Nat)) : Prop where
  len : o.length = a.length
  at_ : ∀ k, k < o.length → mixN a b k 0 (k + 1) = some (o.getD k (0, 0))
set_option maxRecDepth 100000 in
set_option maxHeartbeats 1600000 in
theorem mulSeries_w (A A' : Option Addr) (c c' n : Nat) (a b o : List (Nat × Nat)) (ha : a.length = n) (hb : b.length = n) (hn : 1 ≤ n ∧ n ≤ 16) (h : MulR a b o) (w : World) (hr : Reads w w.heap.size 1 A n (cplx a)) (hr' : Reads w w.heap.size 1 A' n (cplx b)) :
    Calls Try.prog 70 #[.slice A n c, .slice A' n c'] w fun e w' => ∃ g c'', e = .returned (.slice (some ⟨g, 0, none⟩) n c'') ∧ n ≤ c'' ∧ CV w' g o ∧ w.heap.size ≤ g ∧ Below w.heap.size w w' := by
  obtain ⟨i0, hi, hz0, hz1, hz2⟩ := info_parts infoC
  obtain ⟨hlen, hat⟩ := h
  rw [ha] at hlen
  replace hat := Lib.hid hat
  go_enter Try.func70, Try.ntmps70
  go_wp2
  have hown0 : (w.alloc (.cells #[] 26)).ownsRow w.heap.size 26 1 (.slice (some ⟨w.heap.size, 0, none⟩) 0 0) 0 (cplx (o.take 0)) := World.ownsRow_made w #[] 0 (Nat.le_refl _) (by simp [maxLen]) rfl
  have hb0 : Below w.heap.size w (w.alloc (.cells #[] 26)) := (Below.refl _ _).alloc (Nat.le_refl _) _
  go_loopw [5, 6, 10] (fun v _ q wr => ∃ k : Nat, k ≤ n ∧ q = .int .i64 (k : Int) ∧ wr.ownsRow w.heap.size 26 1 v k (cplx (o.take k)) ∧ Below w.heap.size w wr) (fun _ _ q _ => n - (intOf q).toNat)
  case atStart => exact ⟨0, Nat.zero_le _, rfl, hown0, hb0⟩
  case round =>
    obtain ⟨k, hk, rfl, hown, hbr⟩ := hrel
    obtain ⟨wo, rfl⟩ : ∃ wo : World, wo = wr := ⟨_, rfl⟩
    clear hown0 hb0
    have zo := hbr.size
    by_cases hlt : k < n
    · obtain ⟨Ao, co, rfl, -, hko, -⟩ := Own.of_row hown (Nat.le_refl _)
      have hM := hat.out k (by omega)
      have HX := mixed_w A A' c c' w.heap.size n n k 0 (k + 1) 0 (k : Int) a b ha hb _ (by omega) (by omega) (by omega) (by omega) (by omega) (by omega) (by omega) hM wo (hr.below hbr) (hr'.below hbr)
      have hsn := Lib.hid (take_snoc_c (lo := o) (k := k) (by omega))
      have hk1 : (k : Int) < (n : Int) := by omega
      clear hat hM
      generalize o.getD k (0, 0) = Y at *
      go_wp2_with fail
      (with_reducible refine HX.mono ?_)
      rintro e w2 ⟨rfl, q, rfl⟩
      clear HX
      have hbq := below_drewN hbr q
      have hown2 : (wo.drewN q).ownsRow w.heap.size 26 1 (.slice Ao k co) k (cplx (o.take k)) := hown
      clear hown hbr
      generalize wo.drewN q = w3 at *
      have zq := hbq.size
      go_wp2_with (at_builtin; refine wpList_append_any _ rfl (.tmp 13) (.tmp 19) _ rfl w.heap.size 26 i0 _ 1 8 Try.underlying24 hi hz0 hz1 hz2 rfl (by omega) (.slice Ao k co) k (cplx (o.take k)) rfl (hown2.alloc _) (w3.heap.size + 1) (some ⟨w3.heap.size, 0, none⟩) 1 1 [.complex .f32 Y.1 Y.2] rfl (reads_new w3 [_] _) (one_cplx Y.1 Y.2) (by simp only [maxLen]; omega) (by omega) (by simp; omega) ?_; intro v1 w4 hown3 hg3 hat3)
      have hb3 : Below w.heap.size w3 w4 := ((Below.refl _ _).alloc (by omega) _).grown hg3 (by simp; omega) (fun j hj => (hown2.lt j hj).1)
      rw [hsn.out] at hown3
      have hb4 := hbq.trans hb3
      exact ⟨⟨k + 1, by omega, by go_num, hown3, hb4⟩, by simp [intOf]; omega⟩
    · obtain rfl : n = k := by omega
      obtain ⟨g, cg, rfl, hlg⟩ := World.ownsRow.form hown (by omega)
      rw [List.take_of_length_le (by omega)] at hown
      obtain ⟨Ao, co, e2, -, hko, -⟩ := Own.of_row hown (Nat.le_refl _)
      cases e2
      have hV := CV.of_row hown
      clear hat hr hr' hown
      go_wp2
      go_ret
      exact ⟨g, cg, rfl, hko, hV, hlg.1, hbr⟩
theorem adz (a : Addr) : a.add 0 = a := by unfold Addr.add; split <;> simp_all
theorem CV.rd {w : World} {g n : Nat} {l : List (Nat × Nat)} (h : CV w g l) (hl : l.length = n) : Reads w w.heap.size 1 (some ⟨g, 0, none⟩) n (cplx l) := (h.own (Nat.zero_le _) h.lt).reads' (Nat.le_refl _) (by simp [hl])
theorem mulSeries_ok (A A' : Option Addr) (c c' n : Nat) (a b o : List (Nat × Nat)) (ha : Ser a n) (hb : Ser b n) (ho : Ser o n) (h : MulR a b o) (w : World) (hr : Reads w w.heap.size 1 A n (cplx a)) (hr' : Reads w w.heap.size 1 A' n (cplx b)) :
    Calls Try.prog 21 #[.slice A n c, .slice A' n c'] w fun e w' => ∃ g c'', e = .returned (.tuple #[.slice (some ⟨g, 0, none⟩) n c'', .bool true]) ∧ n ≤ c'' ∧ CV w' g o ∧ w.heap.size ≤ g ∧ Below w.heap.size w w' := by
  have HS := areSeries_y A A' c c' w.heap.size n a b ha hb w hr hr' (Nat.le_refl _)
  have HM := fun (W : World) (hW : Below w.heap.size w W) => mulSeries_w A A' c c' n a b o ha.len hb.len ⟨ha.n1, ha.n2⟩ h W ((hr.below hW).more hW.size) ((hr'.below hW).more hW.size)
  clear ha hb h hr hr'
  go_enter Try.func21, Try.ntmps21
  go_wp2_with fail
  refine HS.mono ?_
  rintro e w1 ⟨rfl, hb1⟩
  have HM1 := HM w1 hb1
  clear HS HM
  go_wp2_with fail
  (with_reducible refine HM1.mono ?_)
  rintro e w2 ⟨g, c2, rfl, hc2, hV, hg, hb2⟩
  have HC := checkedSeries_y (some ⟨g, 0, none⟩) c2 w2.heap.size n o ho w2 (hV.rd ho.len) (Nat.le_refl _)
  clear HM1
  go_wp2_with fail
  refine HC.mono ?_
  rintro e w3 ⟨rfl, hb3⟩
  have z1 := hb1.size
  go_wp2
  go_ret2
  exact ⟨g, c2, rfl, hc2, hV.below hb3 hV.lt, by omega, hb1.trans ((hb2.trans (hb3.mono hb2.size)).mono z1)⟩
end Go.Proofs.Ytlilhebnbhlkhaa
