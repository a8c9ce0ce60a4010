/-
  Contracts: a source of numbers drawn of bytes (spec.l00From, next, pick, one, text), and the small functions of the law FnSavedPolys (b10Long, b10At).
-/
import Derived.Test.YtgfmnolmokpgnaaDoorRndP
import Derived.Test.YtgfmnolmokpgnaaDoorRecA
import Derived.Laws.Bits64b
namespace Go.Proofs.YtgfmnolmokpgnaaDoor
open Go.RowKit

/-- Bytes as values in memory. -/
def byts (zs : List Int) : List Value := zs.map (Value.int .u8)
@[simp] theorem byts_len (zs : List Int) : (byts zs).length = zs.length := by simp [byts]
theorem byts_at {zs : List Int} {k : Nat} (h : k < zs.length) : (byts zs)[k]? = some (.int .u8 (zs.getD k 0)) := by
  simp [byts, List.getD, List.getElem?_eq_getElem h]
theorem byt_at {w : World} {B : Nat} {A : Option Addr} {zs : List Int} {k : Nat} (h : Reads w B 1 A zs.length (byts zs)) (hk : k < zs.length) :
    ∃ ad, A = some ad ∧ ad.block < B ∧ w.cell? (ad.add k) = some (.int .u8 (zs.getD k 0)) := by
  obtain ⟨ad, u, e, hb, hu, hc⟩ := h.at_ hk
  rw [byts_at hk] at hu
  cases hu
  exact ⟨ad, e, hb, hc⟩
def Byt (zs : List Int) : Prop := ∀ z ∈ zs, 0 ≤ z ∧ z ≤ 255
theorem Byt.at_ {zs : List Int} (h : Byt zs) {k : Nat} (hk : k < zs.length) : 0 ≤ zs.getD k 0 ∧ zs.getD k 0 ≤ 255 := by
  rw [List.getD, List.getElem?_eq_getElem hk]
  exact h _ (List.getElem_mem hk)

theorem b10Long_any (A A' : Option Addr) (c c' n n' : Nat) (w : World) :
    Calls Tryd.prog 4 #[.slice A n c, .slice A' n' c'] w fun e w' => e = .returned (.bool (decide (1048576 < n) || decide (1048576 < n'))) ∧ w = w' := by
  by_cases h1 : 1048576 < n <;> by_cases h2 : 1048576 < n'
  all_goals
    go_enter Tryd.func4, Tryd.ntmps4
    go_wp2
    go_ret
    refine ⟨?_, rfl⟩
    simp [h1, h2]
    try omega

theorem nat_of {x n : Int} {w w' : World} (h0 : 0 ≤ x) (h1 : x < n) (hw : w = w') : ∃ y : Nat, Ending.returned (.int .i64 x) = .returned (.int .i64 y) ∧ (y : Int) < n ∧ w = w' := by
  obtain ⟨y, rfl⟩ := Int.eq_ofNat_of_zero_le h0
  exact ⟨y, rfl, h1, hw⟩

theorem b10At_any (A : Option Addr) (c B : Nat) (zs : List Int) (i n : Int) (hi : 0 ≤ i ∧ i ≤ 5) (hn : 1 < n ∧ n ≤ 256) (hz : Byt zs) (w : World) (hr : Reads w B 1 A zs.length (byts zs)) :
    Calls Tryd.prog 12 #[.slice A zs.length c, .int .i64 i, .int .i64 n] w fun e w' => ∃ x : Nat, e = .returned (.int .i64 x) ∧ (x : Int) < n ∧ w = w' := by
  obtain ⟨k, rfl⟩ := Int.eq_ofNat_of_zero_le hi.1
  have hn0 : ¬ n = 0 := by omega
  by_cases h : k < zs.length
  · obtain ⟨ad, rfl, hab, hc1⟩ := byt_at hr h
    have hb := hz.at_ h
    clear hr
    generalize zs.getD k 0 = x at *
    go_enter Tryd.func12, Tryd.ntmps12
    go_wp2
    go_ret
    exact nat_of (Int.emod_nonneg _ (by omega)) (Int.emod_lt_of_pos _ (by omega)) rfl
  · go_enter Tryd.func12, Tryd.ntmps12
    go_wp2
    go_ret
    exact nat_of (Int.emod_nonneg _ (by omega)) (Int.emod_lt_of_pos _ (by omega)) rfl

theorem l00From_any (A : Option Addr) (c n : Nat) (w : World) :
    Calls Tryd.prog 13 #[.slice A n c] w fun e w' => e = .returned (.pointer (some ⟨w.heap.size, 0, none⟩)) ∧ w' = w.alloc (.cells #[.slice A n c, .int .i64 0, .int .u64 0] 72) := by
  go_enter Tryd.func13, Tryd.ntmps13
  go_wp2
  go_ret
  exact ⟨rfl, rfl⟩

theorem seed_bd (X : Int) : 0 ≤ wrap64 (bits .and .u64 (IntKind.u64.wrap X / 1099511627776) 255) ∧ wrap64 (bits .and .u64 (IntKind.u64.wrap X / 1099511627776) 255) ≤ 255 := by
  have h : 0 ≤ IntKind.u64.wrap X ∧ IntKind.u64.wrap X < 18446744073709551616 := by
    simp only [IntKind.wrap, IntKind.signed, IntKind.bits]
    simp
    omega
  have h2 := bits_and_u64_nat (IntKind.u64.wrap X / 1099511627776).toNat 255 (by omega) (by omega)
  rw [Int.toNat_of_nonneg (by omega)] at h2
  have h3 : (IntKind.u64.wrap X / 1099511627776).toNat &&& 255 ≤ 255 := Nat.and_le_right
  have h4 : bits .and .u64 (IntKind.u64.wrap X / 1099511627776) 255 = (((IntKind.u64.wrap X / 1099511627776).toNat &&& 255 : Nat) : Int) := h2
  rw [h4]
  unfold wrap64
  omega

theorem next_any (g B c at_ : Nat) (A : Option Addr) (zs : List Int) (sd : Int) (w : World) (hr : Reads w B 1 A zs.length (byts zs)) (hz : Byt zs) (hat : at_ ≤ 1048576)
    (hg : Blk w g 72 #[.slice A zs.length c, .int .i64 at_, .int .u64 sd]) :
    Calls Tryd.prog 29 #[.pointer (some ⟨g, 0, none⟩)] w fun e w' => ∃ x sd' : Int, e = .returned (.int .i64 x) ∧ 0 ≤ x ∧ x ≤ 255 ∧ Blk w' g 72 #[.slice A zs.length c, .int .i64 (at_ + 1 : Nat), .int .u64 sd'] ∧ Kp g (g + 1) w w' := by
  have c0 : w.cell? ⟨g, 0, none⟩ = _ := hg.cell 0
  have c1 : w.cell? ⟨g, 1, none⟩ = _ := hg.cell 1
  have c2 : w.cell? ⟨g, 2, none⟩ = _ := hg.cell 2
  have f1 := hg.frozen 1
  have f2 := hg.frozen 2
  simp at c0 c1 c2
  by_cases h : at_ < zs.length
  · obtain ⟨ad, rfl, hab, hc1⟩ := byt_at hr h
    have hb := hz.at_ h
    clear hr
    generalize zs.getD at_ 0 = x at *
    go_enter Tryd.func29, Tryd.ntmps29
    go_wp2
    go_quiet (fail)
    go_wp2
    go_quiet (fail)
    go_wp2
    go_quiet (fail)
    go_wp2
    go_ret
    refine ⟨x, _, rfl, hb.1, hb.2, ((((hg.drewN _).set_ 1 _).set_ 2 _).drewN _), ((((Kp.refl g (g + 1) w).drewN _).setCell ⟨?_, ?_⟩ _).setCell ⟨?_, ?_⟩ _).drewN _⟩
    all_goals simp
  · clear hr
    go_enter Tryd.func29, Tryd.ntmps29
    go_wp2
    go_quiet (fail)
    go_wp2
    go_quiet (fail)
    go_wp2
    go_ret
    refine ⟨_, _, rfl, (seed_bd _).1, (seed_bd _).2, ((((hg.drewN _).set_ 1 _).set_ 2 _).drewN _), ((((Kp.refl g (g + 1) w).drewN _).setCell ⟨?_, ?_⟩ _).setCell ⟨?_, ?_⟩ _).drewN _⟩
    all_goals simp

theorem pick_any (g B c at_ : Nat) (A : Option Addr) (zs : List Int) (sd n : Int) (w : World) (hr : Reads w B 1 A zs.length (byts zs)) (hz : Byt zs) (hat : at_ ≤ 1048576)
    (hg : Blk w g 72 #[.slice A zs.length c, .int .i64 at_, .int .u64 sd]) (hp : 1 < n ∧ n ≤ 200) :
    Calls Tryd.prog 14 #[.pointer (some ⟨g, 0, none⟩), .int .i64 n] w fun e w' => ∃ x sd' : Int, e = .returned (.int .i64 x) ∧ 0 ≤ x ∧ x < n ∧ Blk w' g 72 #[.slice A zs.length c, .int .i64 (at_ + 1 : Nat), .int .u64 sd'] ∧ Kp g (g + 1) w w' := by
  have hp0 : ¬ n = 0 := by omega
  have H := next_any g B c at_ A zs sd w hr hz hat hg
  clear hr hg
  go_enter Tryd.func14, Tryd.ntmps14
  go_wp2_with fail
  refine H.mono ?_
  rintro e w1 ⟨x, sd', rfl, hx0, hx1, hb1, hk1⟩
  go_wp2
  go_ret
  exact ⟨_, _, rfl, Int.emod_nonneg _ (by omega), Int.emod_lt_of_pos _ (by omega), hb1, hk1⟩

/-- A source that has drawn at most m numbers. -/
structure Src (w : World) (g c : Nat) (A : Option Addr) (zs : List Int) (m : Nat) : Prop where
  blk : ∃ (a : Nat) (sd : Int), a ≤ m ∧ Blk w g 72 #[.slice A zs.length c, .int .i64 (a : Int), .int .u64 sd]
  rd : Reads w g 1 A zs.length (byts zs)
  by_ : Byt zs
section
variable {w w' : World} {g c m : Nat} {A : Option Addr} {zs : List Int}
theorem Src.lt (h : Src w g c A zs m) : g < w.heap.size := by
  obtain ⟨a, sd, _, hb⟩ := h.blk
  exact hb.lt
theorem Src.below {B : Nat} (h : Src w g c A zs m) (hb : Below B w w') (hB : g < B) : Src w' g c A zs m := by
  obtain ⟨a, sd, h1, h2⟩ := h.blk
  exact ⟨⟨a, sd, h1, h2.below hb hB⟩, h.rd.below (hb.mono (by omega)), h.by_⟩
theorem Src.up {m' : Nat} (h : Src w g c A zs m) (hm : m ≤ m') : Src w g c A zs m' := by
  obtain ⟨a, sd, h1, h2⟩ := h.blk
  exact ⟨⟨a, sd, Nat.le_trans h1 hm, h2⟩, h.rd, h.by_⟩
theorem Src.pick (h : Src w g c A zs m) (hm : m ≤ 1048576) (n : Int) (hp : 1 < n ∧ n ≤ 200) :
    Calls Tryd.prog 14 #[.pointer (some ⟨g, 0, none⟩), .int .i64 n] w fun e w' => ∃ x : Nat, e = .returned (.int .i64 (x : Int)) ∧ (x : Int) < n ∧ Src w' g c A zs (m + 1) ∧ Kp g (g + 1) w w' := by
  obtain ⟨a, sd, h1, h2⟩ := h.blk
  refine (pick_any g g c a A zs sd n w h.rd h.by_ (by omega) h2 hp).mono ?_
  rintro e w1 ⟨x, sd', rfl, hx0, hx1, hb1, hk1⟩
  obtain ⟨y, rfl⟩ := Int.eq_ofNat_of_zero_le hx0
  exact ⟨y, rfl, hx1, ⟨⟨a + 1, sd', by omega, hb1⟩, h.rd.below (hk1.below (Nat.le_refl _) (Nat.le_of_lt h.lt)), h.by_⟩, hk1⟩
end

theorem one_any (g c m : Nat) (A : Option Addr) (zs : List Int) (w : World) (h : Src w g c A zs m) (hm : m ≤ 1048576) :
    Calls Tryd.prog 68 #[.pointer (some ⟨g, 0, none⟩), .int .i64 2] w fun e w' => ∃ b : Bool, e = .returned (.bool b) ∧ Src w' g c A zs (m + 1) ∧ Kp g (g + 1) w w' := by
  have H := h.pick hm 2 (by omega)
  go_enter Tryd.func68, Tryd.ntmps68
  go_wp2_with fail
  refine H.mono ?_
  rintro e w1 ⟨x, rfl, hx, hs, hk⟩
  go_wp2
  go_ret
  exact ⟨_, rfl, hs, hk⟩

theorem text_any (g c m gl : Nat) (A : Option Addr) (zs : List Int) (cs : Array Value) (w : World) (h : Src w g c A zs m) (hm : m ≤ 1048576) (hl : Blk w gl 9 cs) (hne : gl ≠ g) (h4 : cs.size = 4) :
    Calls Tryd.prog 15 #[.pointer (some ⟨g, 0, none⟩), .slice (some ⟨gl, 0, none⟩) 4 4] w fun e w' => ∃ k : Nat, ∃ v, k < 4 ∧ cs[k]? = some v ∧ e = .returned v ∧ Src w' g c A zs (m + 1) ∧ Kp g (g + 1) w w' := by
  have H := h.pick hm 4 (by omega)
  go_enter Tryd.func15, Tryd.ntmps15
  go_wp2_with fail
  refine H.mono ?_
  rintro e w1 ⟨x, rfl, hx, hs, hk⟩
  have hx4 : x < 4 := by omega
  have hc : w1.cell? ⟨gl, x, none⟩ = some (cs[x]'(by omega)) := by
    rw [(hl.kp hk (by omega)).cell, Array.getElem?_eq_getElem (by omega)]
  go_wp2
  go_ret
  exact ⟨x, _, hx4, Array.getElem?_eq_getElem (by omega), rfl, hs, hk⟩
end Go.Proofs.YtgfmnolmokpgnaaDoor
