/-
  Contracts: spec.RecoverAll, impl.RecoverAll.
-/
import Derived.Test.YtgfmnolmokpgnaaDoorRowsP
namespace Go.Proofs.YtgfmnolmokpgnaaDoor
open Go.RowKit

theorem infoSv : (Tryd.prog.info? 36).map (fun i => (i.zero, i.size, i.bytes)) = some (some (.agg #[.string ByteArray.empty, .slice none 0 0, .slice none 0 0]), 3, 64) := by kernel_rfl
theorem grown_kp {w w' : World} {g : Nat} (h : w.grownBy w' (some g)) : Kp g (g + 1) w w' :=
  ⟨h.os, h.tape, h.output, h.size, fun k hk hd => h.block k hk (fun e => by cases e; omega)⟩
theorem EL.grown {w w' : World} {g lo hi : Nat} {vs : List Sav} {xs : List Value} {a b : Nat → Nat} {A A' : Nat → Option Addr} {c c' : Nat → Nat} (h : EL w g lo hi vs xs a b A A' c c') (hg : w.grownBy w' (some g)) : EL w' g lo hi vs xs a b A A' c c' :=
  h.kp (grown_kp hg) fun k hk => (h.ap k hk).elim (fun e => .inr (by omega)) .inl
theorem reads_three (w : World) (x y z : Value) (E : TypeId) : Reads (w.alloc (.cells #[x, y, z] E)) (w.heap.size + 1) 3 (some ⟨w.heap.size, 0, none⟩) 1 [x, y, z] := by
  refine ⟨rfl, fun _ => ⟨_, rfl, by simp, fun j u hu => ?_⟩⟩
  have hadd : (⟨w.heap.size, 0, none⟩ : Addr).add j = ⟨w.heap.size, j, none⟩ := by unfold Addr.add; split <;> simp_all
  rw [hadd, cell_of_row _ _ j _ _ _ (heap_alloc_new w _)]
  simpa using hu
theorem one_sv (x : ByteArray) (A A' : Option Addr) (n c n' c' : Nat) : ∀ u ∈ [Value.string x, .slice A n c, .slice A' n' c'], u.oneCell' = true := by
  intro u hu
  simp only [List.mem_cons, List.not_mem_nil, or_false] at hu
  rcases hu with rfl | rfl | rfl <;> rfl
/-- The row of the call's own, after an append. -/
theorem row_own {w : World} {base E n : Nat} {v : Value} {xs : List Value} (h : w.ownsRow base E 3 v n xs) (hn : 0 < n) : ∃ g c, v = .slice (some ⟨g, 0, none⟩) n c ∧ v.ownBlock = some g := by
  rcases h.2 with ⟨_, e⟩ | ⟨g, cap, cur, rfl, _⟩
  · omega
  · exact ⟨g, cap, rfl, rfl⟩

/-- What a recovery gives: a slice of what is saved, and how many bytes it had. -/
def GivesRec (vs : List Sav) (n : Nat) (w : World) (e : Ending) (w' : World) : Prop :=
  ∃ g c xs a b A A' cc cc', e = .returned (.tuple #[.slice (some ⟨g, 0, none⟩) vs.length c, .int .i64 (n : Int), .bool true]) ∧ w'.ownsRow w.heap.size 36 3 (.slice (some ⟨g, 0, none⟩) vs.length c) vs.length xs ∧ EL w' g w.heap.size w'.heap.size vs xs a b A A' cc cc' ∧ Below w.heap.size w w'

theorem rec_give {w w' : World} {l : List UInt8} {done : List Sav} {p g c : Nat} {xs : List Value} {a b : Nat → Nat} {A A' : Nat → Option Addr} {cc cc' : Nat → Nat} (e1 : done = recL 8 l) (e2 : p = recN 8 l)
    (ho : w'.ownsRow w.heap.size 36 3 (.slice (some ⟨g, 0, none⟩) done.length c) done.length xs) (he : EL w' g w.heap.size w'.heap.size done xs a b A A' cc cc') (hb : Below w.heap.size w w') :
    GivesRec (recL 8 l) (recN 8 l) w (.returned (.tuple #[.slice (some ⟨g, 0, none⟩) done.length c, .int .i64 (p : Int), .bool true])) w' := by
  rw [← e1, ← e2]
  exact ⟨g, c, xs, a, b, A, A', cc, cc', rfl, ho, he, hb⟩
theorem ownsRow_below3 {w w' : World} {base E n : Nat} {v : Value} {xs : List Value} (h : w.ownsRow base E 3 v n xs) (hb : Below w.heap.size w w') : w'.ownsRow base E 3 v n xs := by
  obtain ⟨h1, h2⟩ := h
  refine ⟨h1, ?_⟩
  rcases h2 with h | ⟨g, cap, cur, e, hg, hh, hr⟩
  · exact .inl h
  · exact .inr ⟨g, cap, cur, e, hg, (hb.block g (Array.getElem?_eq_some_iff.1 hh).1).trans hh, hr⟩

set_option maxRecDepth 100000 in
set_option maxHeartbeats 1600000 in
theorem recI_any (s : ByteArray) (w : World) (hn : s.size ≤ 1048576) :
    Calls Tryd.prog 11 #[.string s] w (GivesRec (recL 8 s.data.toList) (recN 8 s.data.toList) w) := by
  have HZ := Lib.hid (Lib.size_eq s)
  obtain ⟨i0, hi, hz0, hz1, hz2⟩ := info_parts infoSv
  have hb0 : Below w.heap.size w (w.alloc (.cells #[] 36)) := (Below.refl _ _).alloc (Nat.le_refl _) _
  have hown0 : (w.alloc (.cells #[] 36)).ownsRow w.heap.size 36 3 (.slice (some ⟨w.heap.size, 0, none⟩) 0 0) 0 [] := World.ownsRow_made w #[] 0 (Nat.le_refl _) (by simp [maxLen]) rfl
  go_enter Tryd.func11, Tryd.ntmps11
  go_wp2
  go_loopw [5, 6, 7, 8, 9] (fun o at_ _ _ _ wr => ∃ done p g c xs a b A A' cc cc', Hid (RecSt s.data.toList done p) ∧ done.length ≤ 8 ∧ p ≤ s.size ∧ o = .slice (some ⟨g, 0, none⟩) done.length c ∧ at_ = .int .i64 ((p : Nat) : Int) ∧ wr.ownsRow w.heap.size 36 3 (.slice (some ⟨g, 0, none⟩) done.length c) done.length xs ∧ EL wr g w.heap.size wr.heap.size done xs a b A A' cc cc' ∧ Below w.heap.size w wr) (fun o _ _ _ _ _ => 8 - (match o with | .slice _ n _ => n | _ => 0))
  case atStart => exact ⟨[], 0, w.heap.size, 0, [], fun _ => 0, fun _ => 0, fun _ => none, fun _ => none, fun _ => 0, fun _ => 0, RecSt.start _, by simp, by omega, rfl, rfl, hown0, EL.nil, hb0⟩
  case round =>
    obtain ⟨done, p, g, c, xs, a, b, A, A', cc, cc', hst, hdl, hp, rfl, rfl, hown, hel, hbr⟩ := hrel
    clear hown0 hb0
    have hlt_g : w.heap.size ≤ g ∧ g < wr.heap.size := hown.lt g rfl
    by_cases hlt : done.length < 8
    · have hd : (s.extract p s.size).data.toList = s.data.toList.drop p := by
        rw [extract_txt, txt_data, List.take_of_length_le (by rw [List.length_drop, ← HZ.out]; omega)]
      have hsz : (s.extract p s.size).size ≤ 1048576 := by rw [ByteArray.size_extract]; omega
      have HB := load_any (s.extract p s.size) wr hsz
      rw [hd] at HB
      have hC := nC_lt (s.data.toList.drop p)
      clear hd hsz
      cases hbb : begB (s.data.toList.drop p) with
      | false =>
        have h3 : begM (s.data.toList.drop p) = 0 := by rw [begM, hbb]; rfl
        obtain ⟨e1, e2⟩ := hst.out.stop (.inr hbb)
        have E1 := Lib.hid e1
        have E2 := Lib.hid e2
        unfold GivesLd at HB
        simp only [h3, hbb] at HB
        clear h3 hbb hst hC e1 e2
        go_wp2_with fail
        (with_reducible refine HB.mono ?_)
        rintro e w1 ⟨A1, A1', c1, c1', rfl, hI, hb1⟩
        clear HB hI
        generalize begR (s.data.toList.drop p) = v at *
        have hn1 : Below wr.heap.size wr (w1.alloc (.cells #[.string (txt v.nm), .slice A1 v.P.length c1, .slice A1' v.W.length c1'] 36)) := hb1.alloc hb1.size _
        have ho1 := ownsRow_below3 hown hn1
        have he1 := (hel.below hn1 (Nat.le_refl _)).wide hn1.size
        have hbr1 := hbr.trans (hn1.mono hbr.size)
        clear hown hel hbr hn1 hb1
        go_wp2
        go_ret3
        exact rec_give E1.out E2.out ho1 he1 hbr1
      | true =>
        have h3 : begM (s.data.toList.drop p) = nC (s.data.toList.drop p) + 2 := by rw [begM, hbb]; rfl
        have h4 : begR (s.data.toList.drop p) = begV (s.data.toList.drop p) := by rw [begR, hbb]; rfl
        have HNX := Lib.hid (hst.out.next hlt hbb)
        have hle := beg_le hbb
        rw [List.length_drop, ← HZ.out] at hle
        unfold GivesLd at HB
        simp only [h3, h4, hbb] at HB
        clear h3 h4 hbb hst
        generalize begV (s.data.toList.drop p) = v at *
        generalize hq : nC (s.data.toList.drop p) + 2 = q at *
        have hq0 : 2 ≤ q := by omega
        have hq1 : q ≤ 4000 := by omega
        clear hq hC
        go_wp2_with fail
        (with_reducible refine HB.mono ?_)
        rintro e w1 ⟨A1, A1', c1, c1', rfl, hI, hb1⟩
        clear HB
        have ho1 := ownsRow_below3 hown hb1
        have he1 := hel.below hb1 (Nat.le_refl _)
        have hbr1 := hbr.trans (hb1.mono hbr.size)
        have hs1 := hb1.size
        have he2 := he1.snoc (d := c1) (d' := c1') hI (Nat.le_refl _) (Nat.le_refl _) hs1 hbr.size (.inl hlt_g.2)
        clear hown hel hbr hb1 he1 hI
        have HS3 := Lib.hid hs1
        go_wp2_with (at_builtin; refine wpList_append_any _ rfl (.tmp 24) (.tmp 26) _ rfl w.heap.size 36 i0 _ 3 64 Tryd.underlying24 hi hz0 hz1 hz2 rfl (by omega) (.slice (some ⟨g, 0, none⟩) done.length c) done.length xs rfl ((ho1.alloc _).alloc _) (w1.heap.size + 1 + 1) (some ⟨w1.heap.size + 1, 0, none⟩) 1 1 [.string (txt v.nm), .slice A1 v.P.length c1, .slice A1' v.W.length c1'] rfl (by have h := reads_three (w1.alloc (.cells #[.string (txt v.nm), .slice A1 v.P.length c1, .slice A1' v.W.length c1'] 36)) (.string (txt v.nm)) (.slice A1 v.P.length c1) (.slice A1' v.W.length c1') 36; simpa using h) (one_sv _ _ _ _ _ _ _) (by simp only [maxLen]; omega) (by omega) (by simp; omega) ?_; intro v2 w2 hown2 hg2 hat2)
        have hal : Below w1.heap.size w1 ((w1.alloc (.cells #[.string (txt v.nm), .slice A1 v.P.length c1, .slice A1' v.W.length c1'] 36)).alloc (.cells #[.string (txt v.nm), .slice A1 v.P.length c1, .slice A1' v.W.length c1'] 36)) := ((Below.refl _ _).alloc (Nat.le_refl _) _).alloc (by simp) _
        have he3 := ((he2.below hal (Nat.le_refl _)).grown hg2).wide (Nat.le_trans hal.size hg2.size)
        have hbr2 : Below w.heap.size w w2 := (hbr1.trans (hal.mono hbr1.size)).grown hg2 (by have := hbr1.size; simp; omega) (fun j hj => by cases hj; exact hlt_g.1)
        have hsz2 := hg2.size
        obtain ⟨g2, c2, rfl, e3⟩ := row_own hown2 (by omega)
        rw [e3] at hat2
        have hreg : ∃ a b A A' cc cc', EL w2 g2 w.heap.size w2.heap.size (done ++ [v]) (xs ++ [.string (txt v.nm), .slice A1 v.P.length c1, .slice A1' v.W.length c1']) a b A A' cc cc' := by
          rcases hat2 with h | h
          · cases h
            exact ⟨_, _, _, _, _, _, he3⟩
          · cases h
            exact ⟨_, _, _, _, _, _, (((he2.below hal (Nat.le_refl _)).grown hg2).reg (by simp; omega)).wide (Nat.le_trans hal.size hsz2)⟩
        obtain ⟨a2, b2, D, D', d, d', he4⟩ := hreg
        have hl2 : (done ++ [v]).length = done.length + 1 := by simp
        refine ⟨⟨done ++ [v], p + q, g2, c2, _, a2, b2, D, D', d, d', HNX.out, by omega, by omega, by rw [hl2], by simp, by rw [hl2]; exact hown2, he4, hbr2⟩, ?_⟩
        show 8 - (done.length + 1) < 8 - done.length
        omega
    · obtain ⟨e1, e2⟩ := hst.out.stop (.inl (by omega))
      have E1 := Lib.hid e1
      have E2 := Lib.hid e2
      clear e1 e2 hst
      go_wp2
      go_ret3
      exact rec_give E1.out E2.out hown hel hbr
end Go.Proofs.YtgfmnolmokpgnaaDoor
