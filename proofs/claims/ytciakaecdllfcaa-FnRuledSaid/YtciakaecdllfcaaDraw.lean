/-
  Contracts: a source of numbers drawn of bytes (spec.l00From, next, pick), spec.B10List, and the small functions of the law FnRuled (b10Long, b10At, b10Ints).
-/
import Derived.Test.YtciakaecdllfcaaFollowI
import Derived.Laws.Bits64b
namespace Go.Proofs.Ytciakaecdllfcaa
open Go.RowKit

/-- Bytes as values in memory. -/
def byts (zs : List Int) : List Value := zs.map (Value.int .u8)
@[simp] theorem byts_len (zs : List Int) : (byts zs).length = zs.length := by simp [byts]
theorem byts_at {zs : List Int} {k : Nat} (h : k < zs.length) : (byts zs)[k]? = some (.int .u8 (zs.getD k 0)) := by
  simp [byts, List.getD, List.getElem?_eq_getElem h]
theorem byt_at {w : World} {B : Nat} {A : Option Addr} {zs : List Int} {k : Nat} (h : Reads w B 1 A zs.length (byts zs)) (hk : k < zs.length) :
    ∃ ad, A = some ad ∧ ad.block < B ∧ w.cell? (ad.add k) = some (.int .u8 (zs.getD k 0)) := by
  obtain ⟨ad, u, e, hb, hu, hc⟩ := h.at_ hk
  rw [byts_at hk] at hu
  cases hu
  exact ⟨ad, e, hb, hc⟩
def Byt (zs : List Int) : Prop := ∀ z ∈ zs, 0 ≤ z ∧ z ≤ 255
theorem Byt.at_ {zs : List Int} (h : Byt zs) {k : Nat} (hk : k < zs.length) : 0 ≤ zs.getD k 0 ∧ zs.getD k 0 ≤ 255 := by
  rw [List.getD, List.getElem?_eq_getElem hk]
  exact h _ (List.getElem_mem hk)

theorem b10Long_any (A A' : Option Addr) (c c' n n' : Nat) (w : World) :
    Calls Try.prog 13 #[.slice A n c, .slice A' n' c'] w fun e w' => e = .returned (.bool (decide (1048576 < n) || decide (1048576 < n'))) ∧ w = w' := by
  by_cases h1 : 1048576 < n <;> by_cases h2 : 1048576 < n'
  all_goals
    go_enter Try.func13, Try.ntmps13
    go_wp2
    go_ret
    refine ⟨?_, rfl⟩
    simp [h1, h2]
    try omega

theorem b10Ints_any (A A' : Option Addr) (c c' B : Nat) (n : Nat) (zs : List Int) (hl : zs.length = n) (w : World) (hr : Reads w B 1 A n (ints zs)) (hr' : Reads w B 1 A' n (ints zs)) (hn : n ≤ 1048576) :
    Calls Try.prog 16 #[.slice A n c, .slice A' n c'] w fun e w' => e = .returned (.bool true) ∧ Below w.heap.size w w' := by
  subst hl
  go_enter Try.func16, Try.ntmps16
  go_wp2
  go_loopw [13] (fun i wr => ∃ k : Nat, k ≤ zs.length ∧ i = .int .i64 k ∧ ∃ n, wr = w.drewN n) (fun i _ => zs.length - (intOf i).toNat)
  case atStart => exact ⟨0, Nat.zero_le _, rfl, 0, rfl⟩
  case round =>
    obtain ⟨k, hk, rfl, n, rfl⟩ := hrel
    by_cases hlt : k < zs.length
    · obtain ⟨ad, rfl, hab, hc1⟩ := int_at hr hlt
      obtain ⟨ad', rfl, hab', hc2⟩ := int_at hr' hlt
      clear hr hr'
      go_wp2
      go_quiet (fail)
      go_wp2
      go_roundw
      case rel => exact ⟨k + 1, by omega, by go_num, _, rfl⟩
      case measure => simp [intOf]; omega
    · have hkn : k = zs.length := by omega
      subst hkn
      go_wp2
      go_ret
      exact ⟨rfl, below_drewN (Below.refl _ _) n⟩

theorem nat_of {x n : Int} {w w' : World} (h0 : 0 ≤ x) (h1 : x < n) (hw : w = w') : ∃ y : Nat, Ending.returned (.int .i64 x) = .returned (.int .i64 y) ∧ (y : Int) < n ∧ w = w' := by
  obtain ⟨y, rfl⟩ := Int.eq_ofNat_of_zero_le h0
  exact ⟨y, rfl, h1, hw⟩

theorem b10At_any (A : Option Addr) (c B : Nat) (zs : List Int) (i n : Int) (hi : 0 ≤ i ∧ i ≤ 5) (hn : 1 < n ∧ n ≤ 256) (hz : Byt zs) (w : World) (hr : Reads w B 1 A zs.length (byts zs)) :
    Calls Try.prog 14 #[.slice A zs.length c, .int .i64 i, .int .i64 n] w fun e w' => ∃ x : Nat, e = .returned (.int .i64 x) ∧ (x : Int) < n ∧ w = w' := by
  obtain ⟨k, rfl⟩ := Int.eq_ofNat_of_zero_le hi.1
  have hn0 : ¬ n = 0 := by omega
  by_cases h : k < zs.length
  · obtain ⟨ad, rfl, hab, hc1⟩ := byt_at hr h
    have hb := hz.at_ h
    clear hr
    generalize zs.getD k 0 = x at *
    go_enter Try.func14, Try.ntmps14
    go_wp2
    go_ret
    exact nat_of (Int.emod_nonneg _ (by omega)) (Int.emod_lt_of_pos _ (by omega)) rfl
  · go_enter Try.func14, Try.ntmps14
    go_wp2
    go_ret
    exact nat_of (Int.emod_nonneg _ (by omega)) (Int.emod_lt_of_pos _ (by omega)) rfl

theorem l00From_any (A : Option Addr) (c n : Nat) (w : World) :
    Calls Try.prog 35 #[.slice A n c] w fun e w' => e = .returned (.pointer (some ⟨w.heap.size, 0, none⟩)) ∧ w' = w.alloc (.cells #[.slice A n c, .int .i64 0, .int .u64 0] 74) := by
  go_enter Try.func35, Try.ntmps35
  go_wp2
  go_ret
  exact ⟨rfl, rfl⟩

theorem seed_bd (X : Int) : 0 ≤ wrap64 (bits .and .u64 (IntKind.u64.wrap X / 1099511627776) 255) ∧ wrap64 (bits .and .u64 (IntKind.u64.wrap X / 1099511627776) 255) ≤ 255 := by
  have h : 0 ≤ IntKind.u64.wrap X ∧ IntKind.u64.wrap X < 18446744073709551616 := by
    simp only [IntKind.wrap, IntKind.signed, IntKind.bits]
    simp
    omega
  have h2 := bits_and_u64_nat (IntKind.u64.wrap X / 1099511627776).toNat 255 (by omega) (by omega)
  rw [Int.toNat_of_nonneg (by omega)] at h2
  have h3 : (IntKind.u64.wrap X / 1099511627776).toNat &&& 255 ≤ 255 := Nat.and_le_right
  have h4 : bits .and .u64 (IntKind.u64.wrap X / 1099511627776) 255 = (((IntKind.u64.wrap X / 1099511627776).toNat &&& 255 : Nat) : Int) := h2
  rw [h4]
  unfold wrap64
  omega

theorem next_any (g B c at_ : Nat) (A : Option Addr) (zs : List Int) (sd : Int) (w : World) (hr : Reads w B 1 A zs.length (byts zs)) (hz : Byt zs) (hat : at_ ≤ 1048576)
    (hg : Blk w g 74 #[.slice A zs.length c, .int .i64 at_, .int .u64 sd]) :
    Calls Try.prog 62 #[.pointer (some ⟨g, 0, none⟩)] w fun e w' => ∃ x sd' : Int, e = .returned (.int .i64 x) ∧ 0 ≤ x ∧ x ≤ 255 ∧ Blk w' g 74 #[.slice A zs.length c, .int .i64 (at_ + 1 : Nat), .int .u64 sd'] ∧ Kp g (g + 1) w w' := by
  have c0 : w.cell? ⟨g, 0, none⟩ = _ := hg.cell 0
  have c1 : w.cell? ⟨g, 1, none⟩ = _ := hg.cell 1
  have c2 : w.cell? ⟨g, 2, none⟩ = _ := hg.cell 2
  have f1 := hg.frozen 1
  have f2 := hg.frozen 2
  simp at c0 c1 c2
  by_cases h : at_ < zs.length
  · obtain ⟨ad, rfl, hab, hc1⟩ := byt_at hr h
    have hb := hz.at_ h
    clear hr
    generalize zs.getD at_ 0 = x at *
    go_enter Try.func62, Try.ntmps62
    go_wp2
    go_quiet (fail)
    go_wp2
    go_quiet (fail)
    go_wp2
    go_quiet (fail)
    go_wp2
    go_ret
    refine ⟨x, _, rfl, hb.1, hb.2, ((((hg.drewN _).set_ 1 _).set_ 2 _).drewN _), ((((Kp.refl g (g + 1) w).drewN _).setCell ⟨?_, ?_⟩ _).setCell ⟨?_, ?_⟩ _).drewN _⟩
    all_goals simp
  · clear hr
    go_enter Try.func62, Try.ntmps62
    go_wp2
    go_quiet (fail)
    go_wp2
    go_quiet (fail)
    go_wp2
    go_ret
    refine ⟨_, _, rfl, (seed_bd _).1, (seed_bd _).2, ((((hg.drewN _).set_ 1 _).set_ 2 _).drewN _), ((((Kp.refl g (g + 1) w).drewN _).setCell ⟨?_, ?_⟩ _).setCell ⟨?_, ?_⟩ _).drewN _⟩
    all_goals simp

theorem pick_any (g B c at_ : Nat) (A : Option Addr) (zs : List Int) (sd n : Int) (w : World) (hr : Reads w B 1 A zs.length (byts zs)) (hz : Byt zs) (hat : at_ ≤ 1048576)
    (hg : Blk w g 74 #[.slice A zs.length c, .int .i64 at_, .int .u64 sd]) (hp : 1 < n ∧ n ≤ 200) :
    Calls Try.prog 36 #[.pointer (some ⟨g, 0, none⟩), .int .i64 n] w fun e w' => ∃ x sd' : Int, e = .returned (.int .i64 x) ∧ 0 ≤ x ∧ x < n ∧ Blk w' g 74 #[.slice A zs.length c, .int .i64 (at_ + 1 : Nat), .int .u64 sd'] ∧ Kp g (g + 1) w w' := by
  have hp0 : ¬ n = 0 := by omega
  have H := next_any g B c at_ A zs sd w hr hz hat hg
  clear hr hg
  go_enter Try.func36, Try.ntmps36
  go_wp2_with fail
  refine H.mono ?_
  rintro e w1 ⟨x, sd', rfl, hx0, hx1, hb1, hk1⟩
  go_wp2
  go_ret
  exact ⟨_, _, rfl, Int.emod_nonneg _ (by omega), Int.emod_lt_of_pos _ (by omega), hb1, hk1⟩

theorem ownsRow_kp {w w' : World} {base a b : Nat} {e : TypeId} {size : Nat} {v : Value} {n : Nat} {xs : List Value} (h : w.ownsRow base e size v n xs) (hk : Kp a b w w') (hd : b ≤ base) : w'.ownsRow base e size v n xs := by
  obtain ⟨h1, h2⟩ := h
  refine ⟨h1, ?_⟩
  rcases h2 with h2 | ⟨g, cap, cur, hv, hg, hh, r⟩
  · exact .inl h2
  · refine .inr ⟨g, cap, cur, hv, hg, (hk.block g ?_ (by omega)).trans hh, r⟩
    rcases Nat.lt_or_ge g w.heap.size with h | h
    · exact h
    · rw [Array.getElem?_eq_none h] at hh; cases hh

theorem over_mem {p : Int} {L : List Int} (h : ∀ x ∈ L, 0 ≤ x ∧ x < p) : overB p L = true :=
  overB_true fun k hk => by
    have := h (L[k]) (List.getElem_mem hk)
    rw [inB_eq, List.getD, List.getElem?_eq_getElem hk]
    simp; omega

set_option maxHeartbeats 800000 in
theorem b10List_any (A : Option Addr) (c B : Nat) (zs : List Int) (p q : Int) (n : Nat) (hq : q = n) (w : World) (hr : Reads w B 1 A zs.length (byts zs)) (hB : B ≤ w.heap.size) (hz : Byt zs) (hp : 1 < p ∧ p ≤ 200) (hn : n ≤ 1000) :
    Calls Try.prog 15 #[.slice A zs.length c, .int .i64 p, .int .i64 q] w fun e w' => ∃ A' c' L, e = .returned (.slice A' n c') ∧ n ≤ c' ∧ L.length = n ∧ overB p L = true ∧ Own w' w.heap.size w'.heap.size 2 A' (ints L) ∧ Below w.heap.size w w' := by
  subst hq
  obtain ⟨i0, hi, hz0, hz1, hz2⟩ := info_parts info2
  go_enter Try.func15, Try.ntmps15
  go_wp2_with fail
  refine (l00From_any A c zs.length w).mono ?_
  rintro e w1 ⟨rfl, hw1⟩
  have hblk : Blk w1 w.heap.size 74 #[.slice A zs.length c, .int .i64 (0 : Nat), .int .u64 0] := by rw [hw1]; exact heap_alloc_new w _
  have hb1 : Below w.heap.size w w1 := by rw [hw1]; exact (Below.refl _ _).alloc (Nat.le_refl _) _
  clear hw1
  generalize hgg : w.heap.size = g at *
  have HG := Lib.hid hgg
  clear hgg
  go_wp2_with fail
  have hs1 := hblk.lt
  have hown0 : (w1.alloc (.cells #[] 2)).ownsRow (g + 1) 2 1 (.slice (some ⟨w1.heap.size, 0, none⟩) 0 0) 0 (ints []) :=
    ⟨rfl, .inr ⟨_, 0, #[], rfl, by omega, heap_alloc_new w1 _, by simp, by simp [maxLen], by simp, by simp [ints]⟩⟩
  have hblk0 : Blk (w1.alloc (.cells #[] 2)) g 74 #[.slice A zs.length c, .int .i64 (0 : Nat), .int .u64 0] := (Below.heap_alloc w1 _ g hs1).trans hblk
  have hb0 : Below g w (w1.alloc (.cells #[] 2)) := hb1.alloc (by omega) _
  go_loopw [2, 8] (fun q v wr => ∃ k : Nat, k ≤ n ∧ q = .int .i64 ((n : Int) - (k : Int)) ∧ (∃ (sd : Int) (L : List Int), L.length = k ∧ Hid (∀ x ∈ L, 0 ≤ x ∧ x < p) ∧ wr.ownsRow (g + 1) 2 1 v k (ints L) ∧ Blk wr g 74 #[.slice A zs.length c, .int .i64 k, .int .u64 sd]) ∧ Below g w wr) (fun q _ _ => (intOf q).toNat)
  case atStart => exact ⟨0, Nat.zero_le _, by simp, ⟨0, [], rfl, fun x hx => by simp at hx, hown0, hblk0⟩, hb0⟩
  case round =>
    obtain ⟨k, hk, rfl, ⟨sd, L, hL, hLx, hown, hblk⟩, hbr⟩ := hrel
    clear hown0 hblk0 hb0 hs1
    obtain ⟨Ao, co, rfl, -, hko, hO⟩ := Own.of_row hown (Nat.le_refl _)
    by_cases hlt : k < n
    · obtain ⟨wo, rfl⟩ : ∃ wo : World, wo = wr := ⟨_, rfl⟩
      clear hO
      go_wp2_with fail
      refine (pick_any g B c k A zs sd p wo (hr.below (hbr.mono hB)) hz (by omega) hblk hp).mono ?_
      rintro e w2 ⟨x, sd', rfl, hx0, hx1, hblk2, hk2⟩
      have hown2 := ownsRow_kp hown hk2 (Nat.le_refl _)
      have hs2 := hblk2.lt
      clear hown
      go_wp2_with (at_builtin; refine wpList_append_any _ rfl (.tmp 16) (.tmp 20) _ rfl (g + 1) 2 i0 _ 1 8 Try.underlying22 hi hz0 hz1 hz2 rfl (by omega) (.slice Ao k co) k (ints L) rfl (hown2.alloc _) (w2.heap.size + 1) (some ⟨w2.heap.size, 0, none⟩) 1 1 [.int .i64 x] rfl (reads_one w2 _ _) (one_int x) (by simp only [maxLen]; omega) (by omega) (by simp; omega) ?_; intro v1 w3 hown3 hg3 hat3)
      have hb3 : Below (g + 1) w2 w3 := ((Below.refl _ _).alloc (by omega) _).grown hg3 (by simp; omega) (fun j hj => (hown2.lt j hj).1)
      have hblk3 := hblk2.below hb3 (by omega)
      have hbr3 : Below g w w3 := (hbr.trans (hk2.below (Nat.le_refl _) (Nat.le_of_lt hblk.lt))).trans (hb3.mono (by omega))
      obtain ⟨A1, c1, rfl⟩ : ∃ A1 c1, v1 = .slice A1 (k + 1) c1 := by
        obtain ⟨A1, c1, h, -⟩ := Own.of_row hown3 (Nat.le_refl _)
        exact ⟨A1, c1, h⟩
      refine ⟨⟨k + 1, by omega, by go_num, ⟨sd', L ++ [x], by simp [hL], ?_, by simpa [ints] using hown3, hblk3⟩, hbr3⟩, by simp [intOf]; omega⟩
      intro y hy
      rcases List.mem_append.1 hy with h | h
      · exact hLx.out y h
      · obtain rfl : y = x := by simpa using h
        exact ⟨hx0, hx1⟩
    · obtain rfl : k = n := by omega
      have hfin := over_mem hLx.out
      clear hr hown hLx
      go_wp2
      go_ret
      rw [HG.out]
      exact ⟨Ao, co, L, rfl, hko, hL, hfin, hO.wide (by omega) (Nat.le_refl _), hbr⟩
end Go.Proofs.Ytciakaecdllfcaa
