/-
  Contracts: a whole drawn (l03DrawOk); what can be saved, drawn of bytes (spec.B10Saved): it is valid, at most four.
-/
import Derived.Test.YtgfmnolmokpgnaaDoorDrwW
namespace Go.Proofs.YtgfmnolmokpgnaaDoor
open Go.RowKit

set_option maxRecDepth 100000 in
theorem drawOkW_any (g c m : Nat) (A : Option Addr) (zs : List Int) (w : World) (h : Src w g c A zs m) (hm : m ≤ 800) :
    Calls Tryd.prog 17 #[.pointer (some ⟨g, 0, none⟩)] w fun e w' => ∃ A' c' l, e = .returned (.agg #[.slice A' l.length c']) ∧ wholeB l = true ∧ Own w' w.heap.size w'.heap.size 2 A' (ints l) ∧ Src w' g c A zs (m + 6) ∧ Kp g (g + 1) w w' := by
  have hg := h.lt
  have hb0 : Below w.heap.size w (w.alloc (.cells #[.slice none 0 0] 34)) := (Below.refl _ _).alloc (Nat.le_refl _) _
  have hk0 := blk_new w #[.slice none 0 0] 34
  have hs0 := h.below hb0 hg
  have H := hs0.pick (by omega) 5 (by omega)
  go_enter Tryd.func17, Tryd.ntmps17
  go_wp2_with fail
  refine H.mono ?_
  rintro e w1 ⟨x, rfl, hx, hs1, hk1⟩
  clear H
  have hB1 := hk0.kp hk1 (by omega)
  have HT := drawTermsW_any g c _ (1 + x) A zs w1 hs1 (by omega) (by omega)
  rw [show ((1 + x : Nat) : Int) = 1 + (x : Int) by omega] at HT
  have hz1 := hk1.size
  simp at hz1
  go_wp2_with fail
  refine HT.mono ?_
  rintro e w2 ⟨A2, c2, l, rfl, hv, hO, hs2, hk2⟩
  clear HT
  have hB2 := hB1.kp hk2 (by omega)
  have f2 := hB2.frozen 0
  have c2' : w2.cell? ⟨w.heap.size, 0, none⟩ = _ := hB2.cell 0
  simp at c2'
  have hz2 := hk2.size
  have hkf := ((Kp.of_below hb0).trans hk1).trans hk2
  have hkF : Kp g (g + 1) w (w2.setCell ⟨w.heap.size, 0, none⟩ (.slice A2 l.length c2)) := kp_two hkf ((Below.refl w.heap.size w2).setCell (p := ⟨w.heap.size, 0, none⟩) (Nat.le_refl _) _)
  have hsF : Src (w2.setCell ⟨w.heap.size, 0, none⟩ (.slice A2 l.length c2)) g c A zs (m + 6) := (hs2.below ((Below.refl w.heap.size w2).setCell (p := ⟨w.heap.size, 0, none⟩) (Nat.le_refl _) _) hg).up (by omega)
  have hOF : Own (w2.setCell ⟨w.heap.size, 0, none⟩ (.slice A2 l.length c2)) w.heap.size (w2.setCell ⟨w.heap.size, 0, none⟩ (.slice A2 l.length c2)).heap.size 2 A2 (ints l) := (own_setL hO (by omega) _).wide (by omega) (by simp [World.setCell])
  go_wp2
  refine bodyPost_ret (v := .agg #[.slice A2 l.length c2]) (by simp [results, Tryd.results17, go_sem, c2']) rfl ⟨A2, c2, l, rfl, hv, hOF, hsF, hkF⟩

/-- The names that are drawn. -/
def nms : List (List UInt8) := [[97], [114, 111, 111, 116, 115], [119, 97, 118, 101], [122, 122]]
theorem nms_at {k : Nat} {v : Value} (hk : k < 4) (h : (#[.string ⟨#[97]⟩, .string ⟨#[114, 111, 111, 116, 115]⟩, .string ⟨#[119, 97, 118, 101]⟩, .string ⟨#[122, 122]⟩] : Array Value)[k]? = some v) : ∃ x, v = .string (txt x) ∧ nameB x = true := by
  match k, hk with
  | 0, _ => exact ⟨[97], (Option.some.inj h).symm, by decide⟩
  | 1, _ => exact ⟨[114, 111, 111, 116, 115], (Option.some.inj h).symm, by decide⟩
  | 2, _ => exact ⟨[119, 97, 118, 101], (Option.some.inj h).symm, by decide⟩
  | 3, _ => exact ⟨[122, 122], (Option.some.inj h).symm, by decide⟩

theorem ownsRow_low3 {w : World} {base lo E n : Nat} {v : Value} {xs : List Value} (h : w.ownsRow base E 3 v n xs) (hlo : lo ≤ base) : w.ownsRow lo E 3 v n xs := by
  obtain ⟨h1, h2⟩ := h
  refine ⟨h1, ?_⟩
  rcases h2 with h2 | ⟨g, cap, cur, e, hg, hr⟩
  · exact .inl h2
  · exact .inr ⟨g, cap, cur, e, by omega, hr⟩
theorem EL.low {w : World} {g lo lo' hi : Nat} {vs : List Sav} {xs : List Value} {a b : Nat → Nat} {A A' : Nat → Option Addr} {c c' : Nat → Nat} (h : EL w g lo hi vs xs a b A A' c c') (hl : lo' ≤ lo) : EL w g lo' hi vs xs a b A A' c c' :=
  ⟨h.len, h.c0, h.c1, h.c2, h.el, fun k hk => Nat.le_trans hl (h.lo k hk), h.hi, h.ap, h.mono⟩

/-- What is drawn: a slice of what can be saved. -/
def GivesDr (w : World) (e : Ending) (w' : World) : Prop :=
  ∃ vs g c xs a b A A' cc cc', vs.length ≤ 4 ∧ (∀ v ∈ vs, Gd v) ∧ e = .returned (.slice (some ⟨g, 0, none⟩) vs.length c) ∧ w'.ownsRow w.heap.size 36 3 (.slice (some ⟨g, 0, none⟩) vs.length c) vs.length xs ∧ EL w' g w.heap.size w'.heap.size vs xs a b A A' cc cc' ∧ Below w.heap.size w w'

set_option maxRecDepth 100000 in
set_option maxHeartbeats 1600000 in
theorem b10Saved_any (A0 : Option Addr) (c0 : Nat) (zs : List Int) (w : World) (hr : Reads w w.heap.size 1 A0 zs.length (byts zs)) (hz : Byt zs) :
    Calls Tryd.prog 5 #[.slice A0 zs.length c0] w (GivesDr w) := by
  obtain ⟨i0, hi, hz0, hz1, hz2⟩ := info_parts infoSv
  go_enter Tryd.func5, Tryd.ntmps5
  go_wp2_with fail
  refine (l00From_any A0 c0 zs.length w).mono ?_
  rintro e w1 ⟨rfl, hw1⟩
  have hb1 : Below w.heap.size w w1 := by rw [hw1]; exact (Below.refl _ _).alloc (Nat.le_refl _) _
  have hs1 : Src w1 w.heap.size c0 A0 zs 0 := ⟨⟨0, 0, Nat.le_refl _, by rw [hw1]; exact heap_alloc_new w _⟩, hr.below hb1, hz⟩
  clear hw1 hr hz
  have hlt1 := hs1.lt
  have hb2 : Below w.heap.size w (w1.alloc (.cells #[] 36)) := hb1.alloc hb1.size _
  have hown0 : (w1.alloc (.cells #[] 36)).ownsRow (w.heap.size + 1) 36 3 (.slice (some ⟨w1.heap.size, 0, none⟩) 0 0) 0 [] := World.ownsRow_made w1 #[] 0 (by omega) (by simp [maxLen]) rfl
  have hs2 := hs1.below ((Below.refl w1.heap.size w1).alloc (Nat.le_refl _) (.cells #[] 36)) hlt1
  have H := hs2.pick (by omega) 5 (by omega)
  go_wp2_with fail
  refine H.mono ?_
  rintro e w2 ⟨n, rfl, hn, hs3, hk3⟩
  clear H
  have hown3 := ownsRow_kp hown0 hk3 (Nat.le_refl _)
  have hb3 : Below w.heap.size w w2 := hb2.trans (hk3.below (Nat.le_refl _) hb2.size)
  clear hown0 hb2 hs2 hk3 hs1 hb1
  have hs3' : Src w2 w.heap.size c0 A0 zs (1 + 24 * 0) := hs3
  have hown3' : w2.ownsRow (w.heap.size + 1) 36 3 (.slice (some ⟨w1.heap.size, 0, none⟩) 0 0) ([] : List Sav).length [] := hown3
  clear hs3 hown3
  go_wp2
  go_loopw [4, 5, 6] (fun o q _ wr => ∃ vs g c xs a b A A' cc cc', vs.length ≤ n ∧ Hid (∀ v ∈ vs, Gd v) ∧ q = .int .i64 ((n : Int) - (vs.length : Int)) ∧ o = .slice (some ⟨g, 0, none⟩) vs.length c ∧ wr.ownsRow (w.heap.size + 1) 36 3 (.slice (some ⟨g, 0, none⟩) vs.length c) vs.length xs ∧ EL wr g (w.heap.size + 1) wr.heap.size vs xs a b A A' cc cc' ∧ Src wr w.heap.size c0 A0 zs (1 + 24 * vs.length) ∧ Below w.heap.size w wr) (fun _ q _ _ => (intOf q).toNat)
  case atStart => exact ⟨[], w1.heap.size, 0, [], fun _ => 0, fun _ => 0, fun _ => none, fun _ => none, fun _ => 0, fun _ => 0, Nat.zero_le _, fun v hv => by simp at hv, by simp, rfl, hown3', EL.nil, hs3', hb3⟩
  case round =>
    obtain ⟨vs, g, c, xs, a, b, A, A', cc, cc', hvn, hG, rfl, rfl, hown, hel, hsr, hbr⟩ := hrel
    clear hown3' hs3' hb3
    have hlt_g := hown.lt g rfl
    have hlt1' := hsr.lt
    by_cases hlt : vs.length < n
    · have hbA : Below wr.heap.size wr (wr.alloc (.cells #[.string ⟨#[97]⟩, .string ⟨#[114, 111, 111, 116, 115]⟩, .string ⟨#[119, 97, 118, 101]⟩, .string ⟨#[122, 122]⟩] 9)) := (Below.refl _ _).alloc (Nat.le_refl _) _
      have hBA := blk_new wr #[.string ⟨#[97]⟩, .string ⟨#[114, 111, 111, 116, 115]⟩, .string ⟨#[119, 97, 118, 101]⟩, .string ⟨#[122, 122]⟩] 9
      have HT := text_any w.heap.size c0 _ _ A0 zs _ _ (hsr.below hbA hlt1') (by omega) hBA (by omega) rfl
      have hgt : (n : Int) - (vs.length : Int) > 0 := by omega
      go_wp2_with fail
      (with_reducible refine HT.mono ?_)
      rintro e w3 ⟨kk, v, hk4, hv4, rfl, hs3, hk3⟩
      clear HT
      obtain ⟨nm, rfl, hnm⟩ := nms_at hk4 hv4
      clear hv4
      have hz3 := hk3.size
      simp at hz3
      have hkr3 := (Kp.of_below hbA).trans hk3
      clear hbA hBA hk3
      have hb4 : Below wr.heap.size w3 (w3.alloc (.cells #[.string (txt nm), .slice none 0 0, .slice none 0 0] 36)) := (Below.refl _ _).alloc (by omega) _
      have hB4 := blk_new w3 #[.string (txt nm), .slice none 0 0, .slice none 0 0] 36
      have hs4 := hs3.below ((Below.refl w3.heap.size w3).alloc (Nat.le_refl _) (.cells #[.string (txt nm), .slice none 0 0, .slice none 0 0] 36)) hs3.lt
      have hkr4 := kp_two hkr3 hb4
      have HP := drawOkP_any w.heap.size c0 _ A0 zs _ hs4 (by omega)
      clear hs3 hb4 hkr3
      go_wp2_with fail
      (with_reducible refine HP.mono ?_)
      rintro e w5 ⟨A5, c5, P, rfl, hvP, hoP, hO5, hs5, hk5⟩
      clear HP hs4
      have hz5 := hk5.size
      simp at hz5
      have hB5 := hB4.kp hk5 (by omega)
      have hkr5 := hkr4.trans hk5
      have f5 := hB5.frozen 1
      have d5 : w5.cell? ⟨w3.heap.size, 1, none⟩ = _ := hB5.cell 1
      simp at d5
      have hB6 : Blk (w5.setCell ⟨w3.heap.size, 1, none⟩ (.slice A5 P.length c5)) w3.heap.size 36 #[.string (txt nm), .slice A5 P.length c5, .slice none 0 0] := hB5.set_ 1 _
      have hb6 := (Below.refl w3.heap.size w5).setCell (p := ⟨w3.heap.size, 1, none⟩) (Nat.le_refl _) (.slice A5 P.length c5)
      have hO6 := own_setL (o := 1) hO5 (show w3.heap.size < _ by simp) (.slice A5 P.length c5)
      have hs6 := hs5.below hb6 (by omega)
      have hkr6 := kp_two hkr5 (hb6.mono (by omega))
      have hz6 : (w5.setCell ⟨w3.heap.size, 1, none⟩ (.slice A5 P.length c5)).heap.size = w5.heap.size := by simp [World.setCell]
      have HW := drawOkW_any w.heap.size c0 _ A0 zs _ hs6 (by omega)
      clear hB4 hB5 hk5 hkr4 hkr5 hb6 hO5 hs5
      go_wp2_with fail
      (with_reducible refine HW.mono ?_)
      rintro e w7 ⟨A7, c7, W, rfl, hvW, hO7, hs7, hk7⟩
      clear HW hs6 f5 d5
      have hz7 := hk7.size
      rw [hz6] at hz7 hO7
      have hB7 := hB6.kp hk7 (by omega)
      have hO6' := hO6.kp hk7 (.inr (by simp; omega))
      have hkr7 := hkr6.trans hk7
      have f7 := hB7.frozen 2
      have d7 : w7.cell? ⟨w3.heap.size, 2, none⟩ = _ := hB7.cell 2
      simp at d7
      clear hB6 hO6 hk7 hkr6 hz6
      have hB8 : Blk (w7.setCell ⟨w3.heap.size, 2, none⟩ (.slice A7 W.length c7)) w3.heap.size 36 #[.string (txt nm), .slice A5 P.length c5, .slice A7 W.length c7] := hB7.set_ 2 _
      have hb8 := (Below.refl w3.heap.size w7).setCell (p := ⟨w3.heap.size, 2, none⟩) (Nat.le_refl _) (.slice A7 W.length c7)
      have hO8 := own_setL (o := 2) hO6' (show w3.heap.size < _ by simp) (.slice A7 W.length c7)
      have hO8' := own_setL (o := 2) hO7 (show w3.heap.size < _ by omega) (.slice A7 W.length c7)
      have hs8 := hs7.below hb8 (by omega)
      have hkr8 := kp_two hkr7 (hb8.mono (by omega))
      have hz8 : (w7.setCell ⟨w3.heap.size, 2, none⟩ (.slice A7 W.length c7)).heap.size = w7.heap.size := by simp [World.setCell]
      have x0 : (w7.setCell ⟨w3.heap.size, 2, none⟩ (.slice A7 W.length c7)).cell? ⟨w3.heap.size, 0, none⟩ = _ := hB8.cell 0
      have x1 : (w7.setCell ⟨w3.heap.size, 2, none⟩ (.slice A7 W.length c7)).cell? ⟨w3.heap.size, 1, none⟩ = _ := hB8.cell 1
      have x2 : (w7.setCell ⟨w3.heap.size, 2, none⟩ (.slice A7 W.length c7)).cell? ⟨w3.heap.size, 2, none⟩ = _ := hB8.cell 2
      simp at x0 x1 x2
      clear hB7 hB8 hb8 hO6' hO7 hs7 hkr7
      have hI8 : SavIn (w7.setCell ⟨w3.heap.size, 2, none⟩ (.slice A7 W.length c7)) (w3.heap.size + 1) (w7.setCell ⟨w3.heap.size, 2, none⟩ (.slice A7 W.length c7)).heap.size ⟨nm, P, W⟩ A5 A7 :=
        ⟨w5.heap.size, hz5, by rw [hz8]; exact hz7, by simpa using hO8, by rw [hz8]; exact hO8'⟩
      have hGv : Gd ⟨nm, P, W⟩ := ⟨by simp [savB, hnm, hvP, hvW], fun z hz => (hoP z hz).2⟩
      have hel8 := hel.kp hkr8 (fun k hk => .inr (hel.lo k hk))
      have hown8 := ownsRow_kp hown hkr8 (Nat.le_refl _)
      have hbr8 := hbr.trans (hkr8.below (Nat.le_refl _) hbr.size)
      have hl8 := hkr8.size
      have hGs : Hid (∀ u ∈ vs ++ [⟨nm, P, W⟩], Gd u) := fun u hu => by
        rcases List.mem_append.1 hu with h | h
        · exact hG.out u h
        · obtain rfl : u = ⟨nm, P, W⟩ := by simpa using h
          exact hGv
      clear hO8 hO8' hkr8 hel hown hbr hG hnm hvP hoP hvW hGv
      have hgw : g < w3.heap.size := by omega
      have he9 := hel8.snoc (d := c5) (d' := c7) hI8 (by omega) (Nat.le_refl _) hl8 (by omega) (.inl (by omega))
      clear hI8 hel8
      go_wp2_with (at_builtin; refine wpList_append_any _ rfl (.tmp 26) (.tmp 28) _ rfl (w.heap.size + 1) 36 i0 _ 3 64 Tryd.underlying24 hi hz0 hz1 hz2 rfl (by omega) (.slice (some ⟨g, 0, none⟩) vs.length c) vs.length xs rfl (hown8.alloc _) (w7.heap.size + 1) (some ⟨w7.heap.size, 0, none⟩) 1 1 [.string (txt nm), .slice A5 P.length c5, .slice A7 W.length c7] rfl (by have h := reads_three (w7.setCell ⟨w3.heap.size, 2, none⟩ (.slice A7 W.length c7)) (.string (txt nm)) (.slice A5 P.length c5) (.slice A7 W.length c7) 36; rw [hz8] at h; exact h) (one_sv _ _ _ _ _ _ _) (by simp only [maxLen]; omega) (by omega) (by simp; omega) ?_; intro v2 w10 hown10 hg10 hat10)
      have hal : Below (w7.setCell ⟨w3.heap.size, 2, none⟩ (.slice A7 W.length c7)).heap.size (w7.setCell ⟨w3.heap.size, 2, none⟩ (.slice A7 W.length c7)) ((w7.setCell ⟨w3.heap.size, 2, none⟩ (.slice A7 W.length c7)).alloc (.cells #[.string (txt nm), .slice A5 P.length c5, .slice A7 W.length c7] 36)) := (Below.refl _ _).alloc (Nat.le_refl _) _
      have he10 := ((he9.below hal (Nat.le_refl _)).grown hg10).wide (Nat.le_trans hal.size hg10.size)
      have hbl : Below (w.heap.size + 1) (w7.setCell ⟨w3.heap.size, 2, none⟩ (.slice A7 W.length c7)) w10 := (hal.mono (by omega)).grown hg10 (by simp; omega) (fun j hj => by cases hj; exact hlt_g.1)
      have hbr10 := hbr8.trans (hbl.mono (by omega))
      have hs10 := hs8.below hbl (by omega)
      have hsz10 := hg10.size
      obtain ⟨g2, c2, rfl, e3⟩ := row_own hown10 (by omega)
      rw [e3] at hat10
      have hreg : ∃ a b A A' cc cc', EL w10 g2 (w.heap.size + 1) w10.heap.size (vs ++ [⟨nm, P, W⟩]) (xs ++ [.string (txt nm), .slice A5 P.length c5, .slice A7 W.length c7]) a b A A' cc cc' := by
        rcases hat10 with h | h
        · cases h
          exact ⟨_, _, _, _, _, _, he10⟩
        · cases h
          exact ⟨_, _, _, _, _, _, (((he9.below hal (Nat.le_refl _)).grown hg10).reg (by simp)).wide (Nat.le_trans hal.size hsz10)⟩
      obtain ⟨a2, b2, D, D', d, d', he11⟩ := hreg
      have hl2 : (vs ++ [(⟨nm, P, W⟩ : Sav)]).length = vs.length + 1 := by simp
      refine ⟨⟨vs ++ [⟨nm, P, W⟩], g2, c2, _, a2, b2, D, D', d, d', by omega, hGs, by (try rw [hl2]); first | done | go_num, by rw [hl2], by rw [hl2]; exact hown10, he11, hs10.up (by rw [hl2]; omega), hbr10⟩, by simp [intOf]; omega⟩
    · have hGd := hG.out
      go_wp2
      go_ret
      exact ⟨vs, g, c, xs, a, b, A, A', cc, cc', by omega, hGd, rfl, ownsRow_low3 hown (by omega), EL.low hel (by omega), hbr⟩
end Go.Proofs.YtgfmnolmokpgnaaDoor
