/-
  Contracts: a source of numbers drawn of bytes (spec.l00From, next, pick, one), and the small functions of the laws (r8Long, r8At).
  Contracts: polynomials drawn of a source (l02DrawSmall, l02DrawTerms): they are valid, of small values.
  A polynomial drawn of bytes (spec.R8Poly).
-/
import Derived.Test.YtlpibibpckkjhaaMasA
import Derived.Laws.Bits64b
namespace Go.Proofs.Ytlpibibpckkjhaa
open Go.RowKit

/-- Bytes as values in memory. -/
def byts (zs : List Int) : List Value := zs.map (Value.int .u8)
@[simp] theorem byts_len (zs : List Int) : (byts zs).length = zs.length := by simp [byts]
theorem byts_at {zs : List Int} {k : Nat} (h : k < zs.length) : (byts zs)[k]? = some (.int .u8 (zs.getD k 0)) := by
  simp [byts, List.getD, List.getElem?_eq_getElem h]
theorem byt_at {w : World} {B : Nat} {A : Option Addr} {zs : List Int} {k : Nat} (h : Reads w B 1 A zs.length (byts zs)) (hk : k < zs.length) :
    ∃ ad, A = some ad ∧ ad.block < B ∧ w.cell? (ad.add k) = some (.int .u8 (zs.getD k 0)) := by
  obtain ⟨ad, u, e, hb, hu, hc⟩ := h.at_ hk
  rw [byts_at hk] at hu
  cases hu
  exact ⟨ad, e, hb, hc⟩
def Byt (zs : List Int) : Prop := ∀ z ∈ zs, 0 ≤ z ∧ z ≤ 255
theorem Byt.at_ {zs : List Int} (h : Byt zs) {k : Nat} (hk : k < zs.length) : 0 ≤ zs.getD k 0 ∧ zs.getD k 0 ≤ 255 := by
  rw [List.getD, List.getElem?_eq_getElem hk]
  exact h _ (List.getElem_mem hk)

theorem r8Long_any (A A' : Option Addr) (c c' n n' : Nat) (w : World) :
    Calls Try.prog 6 #[.slice A n c, .slice A' n' c'] w fun e w' => e = .returned (.bool (decide (48 < n) || decide (48 < n'))) ∧ w = w' := by
  by_cases h1 : 48 < n <;> by_cases h2 : 48 < n'
  all_goals
    go_enter Try.func6, Try.ntmps6
    go_wp2
    go_ret
    refine ⟨?_, rfl⟩
    simp [h1, h2]
    try omega

theorem nat_of {x n : Int} {w w' : World} (h0 : 0 ≤ x) (h1 : x < n) (hw : w = w') : ∃ y : Nat, Ending.returned (.int .i64 x) = .returned (.int .i64 y) ∧ (y : Int) < n ∧ w = w' := by
  obtain ⟨y, rfl⟩ := Int.eq_ofNat_of_zero_le h0
  exact ⟨y, rfl, h1, hw⟩

theorem r8At_any (A : Option Addr) (c B : Nat) (zs : List Int) (i n : Int) (hi : 0 ≤ i ∧ i ≤ 47) (hn : 1 < n ∧ n ≤ 256) (hz : Byt zs) (w : World) (hr : Reads w B 1 A zs.length (byts zs)) :
    Calls Try.prog 7 #[.slice A zs.length c, .int .i64 i, .int .i64 n] w fun e w' => ∃ x : Nat, e = .returned (.int .i64 x) ∧ (x : Int) < n ∧ w = w' := by
  obtain ⟨k, rfl⟩ := Int.eq_ofNat_of_zero_le hi.1
  have hn0 : ¬ n = 0 := by omega
  by_cases h : k < zs.length
  · obtain ⟨ad, rfl, hab, hc1⟩ := byt_at hr h
    have hb := hz.at_ h
    clear hr
    generalize zs.getD k 0 = x at *
    go_enter Try.func7, Try.ntmps7
    go_wp2
    go_ret
    exact nat_of (Int.emod_nonneg _ (by omega)) (Int.emod_lt_of_pos _ (by omega)) rfl
  · go_enter Try.func7, Try.ntmps7
    go_wp2
    go_ret
    exact ⟨0, rfl, by omega, rfl⟩

theorem l00From_any (A : Option Addr) (c n : Nat) (w : World) :
    Calls Try.prog 67 #[.slice A n c] w fun e w' => e = .returned (.pointer (some ⟨w.heap.size, 0, none⟩)) ∧ w' = w.alloc (.cells #[.slice A n c, .int .i64 0, .int .u64 0] 118) := by
  go_enter Try.func67, Try.ntmps67
  go_wp2
  go_ret
  exact ⟨rfl, rfl⟩

theorem seed_bd (X : Int) : 0 ≤ wrap64 (bits .and .u64 (IntKind.u64.wrap X / 1099511627776) 255) ∧ wrap64 (bits .and .u64 (IntKind.u64.wrap X / 1099511627776) 255) ≤ 255 := by
  have h : 0 ≤ IntKind.u64.wrap X ∧ IntKind.u64.wrap X < 18446744073709551616 := by
    simp only [IntKind.wrap, IntKind.signed, IntKind.bits]
    simp
    omega
  have h2 := bits_and_u64_nat (IntKind.u64.wrap X / 1099511627776).toNat 255 (by omega) (by omega)
  rw [Int.toNat_of_nonneg (by omega)] at h2
  have h3 : (IntKind.u64.wrap X / 1099511627776).toNat &&& 255 ≤ 255 := Nat.and_le_right
  have h4 : bits .and .u64 (IntKind.u64.wrap X / 1099511627776) 255 = (((IntKind.u64.wrap X / 1099511627776).toNat &&& 255 : Nat) : Int) := h2
  rw [h4]
  unfold wrap64
  omega

theorem next_any (g B c at_ : Nat) (A : Option Addr) (zs : List Int) (sd : Int) (w : World) (hr : Reads w B 1 A zs.length (byts zs)) (hz : Byt zs) (hat : at_ ≤ 1048576)
    (hg : Blk w g 118 #[.slice A zs.length c, .int .i64 at_, .int .u64 sd]) :
    Calls Try.prog 100 #[.pointer (some ⟨g, 0, none⟩)] w fun e w' => ∃ x sd' : Int, e = .returned (.int .i64 x) ∧ 0 ≤ x ∧ x ≤ 255 ∧ Blk w' g 118 #[.slice A zs.length c, .int .i64 (at_ + 1 : Nat), .int .u64 sd'] ∧ Kp g (g + 1) w w' := by
  have c0 : w.cell? ⟨g, 0, none⟩ = _ := hg.cell 0
  have c1 : w.cell? ⟨g, 1, none⟩ = _ := hg.cell 1
  have c2 : w.cell? ⟨g, 2, none⟩ = _ := hg.cell 2
  have f1 := hg.frozen 1
  have f2 := hg.frozen 2
  simp at c0 c1 c2
  by_cases h : at_ < zs.length
  · obtain ⟨ad, rfl, hab, hc1⟩ := byt_at hr h
    have hb := hz.at_ h
    clear hr
    generalize zs.getD at_ 0 = x at *
    go_enter Try.func100, Try.ntmps100
    go_wp2
    go_quiet (fail)
    go_wp2
    go_quiet (fail)
    go_wp2
    go_quiet (fail)
    go_wp2
    go_ret
    refine ⟨x, _, rfl, hb.1, hb.2, ((((hg.drewN _).set_ 1 _).set_ 2 _).drewN _), ((((Kp.refl g (g + 1) w).drewN _).setCell ⟨?_, ?_⟩ _).setCell ⟨?_, ?_⟩ _).drewN _⟩
    all_goals simp
  · clear hr
    go_enter Try.func100, Try.ntmps100
    go_wp2
    go_quiet (fail)
    go_wp2
    go_quiet (fail)
    go_wp2
    go_ret
    refine ⟨_, _, rfl, (seed_bd _).1, (seed_bd _).2, ((((hg.drewN _).set_ 1 _).set_ 2 _).drewN _), ((((Kp.refl g (g + 1) w).drewN _).setCell ⟨?_, ?_⟩ _).setCell ⟨?_, ?_⟩ _).drewN _⟩
    all_goals simp

theorem pick_any (g B c at_ : Nat) (A : Option Addr) (zs : List Int) (sd n : Int) (w : World) (hr : Reads w B 1 A zs.length (byts zs)) (hz : Byt zs) (hat : at_ ≤ 1048576)
    (hg : Blk w g 118 #[.slice A zs.length c, .int .i64 at_, .int .u64 sd]) (hp : 1 < n ∧ n ≤ 200) :
    Calls Try.prog 76 #[.pointer (some ⟨g, 0, none⟩), .int .i64 n] w fun e w' => ∃ x sd' : Int, e = .returned (.int .i64 x) ∧ 0 ≤ x ∧ x < n ∧ Blk w' g 118 #[.slice A zs.length c, .int .i64 (at_ + 1 : Nat), .int .u64 sd'] ∧ Kp g (g + 1) w w' := by
  have hp0 : ¬ n = 0 := by omega
  have H := next_any g B c at_ A zs sd w hr hz hat hg
  clear hr hg
  go_enter Try.func76, Try.ntmps76
  go_wp2_with fail
  refine H.mono ?_
  rintro e w1 ⟨x, sd', rfl, hx0, hx1, hb1, hk1⟩
  go_wp2
  go_ret
  exact ⟨_, _, rfl, Int.emod_nonneg _ (by omega), Int.emod_lt_of_pos _ (by omega), hb1, hk1⟩

/-- A source that has drawn at most m numbers. -/
structure Src (w : World) (g c : Nat) (A : Option Addr) (zs : List Int) (m : Nat) : Prop where
  blk : ∃ (a : Nat) (sd : Int), a ≤ m ∧ Blk w g 118 #[.slice A zs.length c, .int .i64 (a : Int), .int .u64 sd]
  rd : Reads w g 1 A zs.length (byts zs)
  by_ : Byt zs
section
variable {w w' : World} {g c m : Nat} {A : Option Addr} {zs : List Int}
theorem Src.lt (h : Src w g c A zs m) : g < w.heap.size := by
  obtain ⟨a, sd, _, hb⟩ := h.blk
  exact hb.lt
theorem Src.below {B : Nat} (h : Src w g c A zs m) (hb : Below B w w') (hB : g < B) : Src w' g c A zs m := by
  obtain ⟨a, sd, h1, h2⟩ := h.blk
  exact ⟨⟨a, sd, h1, h2.below hb hB⟩, h.rd.below (hb.mono (by omega)), h.by_⟩
theorem Src.up {m' : Nat} (h : Src w g c A zs m) (hm : m ≤ m') : Src w g c A zs m' := by
  obtain ⟨a, sd, h1, h2⟩ := h.blk
  exact ⟨⟨a, sd, Nat.le_trans h1 hm, h2⟩, h.rd, h.by_⟩
theorem Src.pick (h : Src w g c A zs m) (hm : m ≤ 1048576) (n : Int) (hp : 1 < n ∧ n ≤ 200) :
    Calls Try.prog 76 #[.pointer (some ⟨g, 0, none⟩), .int .i64 n] w fun e w' => ∃ x : Nat, e = .returned (.int .i64 (x : Int)) ∧ (x : Int) < n ∧ Src w' g c A zs (m + 1) ∧ Kp g (g + 1) w w' := by
  obtain ⟨a, sd, h1, h2⟩ := h.blk
  refine (pick_any g g c a A zs sd n w h.rd h.by_ (by omega) h2 hp).mono ?_
  rintro e w1 ⟨x, sd', rfl, hx0, hx1, hb1, hk1⟩
  obtain ⟨y, rfl⟩ := Int.eq_ofNat_of_zero_le hx0
  exact ⟨y, rfl, hx1, ⟨⟨a + 1, sd', by omega, hb1⟩, h.rd.below (hk1.below (Nat.le_refl _) (Nat.le_of_lt h.lt)), h.by_⟩, hk1⟩
end

theorem one_any (g c m : Nat) (A : Option Addr) (zs : List Int) (w : World) (h : Src w g c A zs m) (hm : m ≤ 1048576) :
    Calls Try.prog 101 #[.pointer (some ⟨g, 0, none⟩), .int .i64 2] w fun e w' => ∃ b : Bool, e = .returned (.bool b) ∧ Src w' g c A zs (m + 1) ∧ Kp g (g + 1) w w' := by
  have H := h.pick hm 2 (by omega)
  go_enter Try.func101, Try.ntmps101
  go_wp2_with fail
  refine H.mono ?_
  rintro e w1 ⟨x, rfl, hx, hs, hk⟩
  go_wp2
  go_ret
  exact ⟨_, rfl, hs, hk⟩
end Go.Proofs.Ytlpibibpckkjhaa
namespace Go.Proofs.Ytlpibibpckkjhaa
open Go.RowKit

/-- A whole number as a 32-bit number, by another one. -/
def qt (n : Int) (d : Nat) : Nat := (floatBits .quo .f32 (floatOfInt .f32 n) d).getD 0
theorem qt_small (x : Nat) (h : x < 33) : floatBits .quo .f32 (floatOfInt .f32 ((x : Int) - 16)) 1082130432 = some (qt ((x : Int) - 16) 1082130432) ∧ fin32B (qt ((x : Int) - 16) 1082130432) = true ∧ (-4 ≤ V32 (qt ((x : Int) - 16) 1082130432) ∧ V32 (qt ((x : Int) - 16) 1082130432) ≤ 4) := by
  have key : ∀ n ∈ List.range 33, floatBits .quo .f32 (floatOfInt .f32 ((n : Int) - 16)) 1082130432 = some (qt ((n : Int) - 16) 1082130432) ∧ fin32B (qt ((n : Int) - 16) 1082130432) = true ∧ (-4 ≤ V32 (qt ((n : Int) - 16) 1082130432) ∧ V32 (qt ((n : Int) - 16) 1082130432) ≤ 4) := by decide +kernel
  exact key x (List.mem_range.2 h)
theorem qt_last (x : Nat) (h : x < 8) : floatBits .quo .f32 (floatOfInt .f32 (1 + (x : Int))) 1073741824 = some (qt (1 + (x : Int)) 1073741824) ∧ fin32B (qt (1 + (x : Int)) 1073741824) = true ∧ (1 / 2 ≤ V32 (qt (1 + (x : Int)) 1073741824) ∧ V32 (qt (1 + (x : Int)) 1073741824) ≤ 4) ∧ zeroC (qt (1 + (x : Int)) 1073741824, 0) = false := by
  have key : ∀ n ∈ List.range 8, floatBits .quo .f32 (floatOfInt .f32 (1 + (n : Int))) 1073741824 = some (qt (1 + (n : Int)) 1073741824) ∧ fin32B (qt (1 + (n : Int)) 1073741824) = true ∧ (1 / 2 ≤ V32 (qt (1 + (n : Int)) 1073741824) ∧ V32 (qt (1 + (n : Int)) 1073741824) ≤ 4) ∧ zeroC (qt (1 + (n : Int)) 1073741824, 0) = false := by decide +kernel
  exact key x (List.mem_range.2 h)
theorem fin_zero : fin32B 0 = true := by decide +kernel

/-- A complex number of finite parts, of 32 bits each. -/
def Okc (z : Nat × Nat) : Prop := finCB z = true ∧ (-4 ≤ V32 z.1 ∧ V32 z.1 ≤ 4) ∧ (-4 ≤ V32 z.2 ∧ V32 z.2 ≤ 4)
theorem v32_zero : V32 0 = 0 := by decide +kernel
theorem v32_zero_bd : -4 ≤ V32 0 ∧ V32 0 ≤ 4 := by rw [v32_zero]; grind
theorem okc {x y : Nat} (h1 : fin32B x = true) (h2 : fin32B y = true) (h3 : -4 ≤ V32 x ∧ V32 x ≤ 4) (h4 : -4 ≤ V32 y ∧ V32 y ≤ 4) : Okc (x, y) := ⟨by simp [finCB, h1, h2], h3, h4⟩

set_option maxRecDepth 100000 in
theorem drawSmall_any (g c m : Nat) (A : Option Addr) (zs : List Int) (w : World) (h : Src w g c A zs m) (hm : m ≤ 1000) :
    Calls Try.prog 77 #[.pointer (some ⟨g, 0, none⟩)] w fun e w' => ∃ x y, e = .returned (.complex .f32 x y) ∧ Okc (x, y) ∧ Src w' g c A zs (m + 3) ∧ Kp g (g + 1) w w' := by
  have H := h.pick (by omega) 33 (by omega)
  go_enter Try.func77, Try.ntmps77
  go_wp2_with fail
  refine H.mono ?_
  rintro e w1 ⟨x, rfl, hx, hs1, hk1⟩
  clear H
  obtain ⟨f1, f2, f3⟩ := qt_small x (by omega)
  have H1 := one_any g c _ A zs w1 hs1 (by omega)
  generalize qt ((x : Int) - 16) 1082130432 = q at *
  have hQ := fun w => run_float_arith (P := Try.prog) w .quo 25 .f32 _ _ q f1
  go_wp2_with fail
  refine H1.mono ?_
  rintro e w2 ⟨b, rfl, hs2, hk2⟩
  clear H1
  cases b with
  | true =>
    go_wp2
    go_ret
    exact ⟨q, 0, rfl, okc f2 fin_zero f3 v32_zero_bd, hs2.up (by omega), hk1.trans hk2⟩
  | false =>
    have H2 := hs2.pick (by omega) 33 (by omega)
    go_wp2_with fail
    refine H2.mono ?_
    rintro e w3 ⟨y, rfl, hy, hs3, hk3⟩
    clear H2
    obtain ⟨g1, g2, g3⟩ := qt_small y (by omega)
    generalize qt ((y : Int) - 16) 1082130432 = q2 at *
    have hQ2 := fun w => run_float_arith (P := Try.prog) w .quo 25 .f32 _ _ q2 g1
    go_wp2
    go_ret
    exact ⟨q, q2, rfl, okc f2 g2 f3 g3, hs3, (hk1.trans hk2).trans hk3⟩
/-- Numbers of a list are good. -/
def Okl (l : List (Nat × Nat)) : Prop := ∀ z ∈ l, Okc z
theorem okl_valid {l : List (Nat × Nat)} {q : Nat} (h : Okl l) (hl : l.length ≤ 16) (hq : Okc (q, 0)) (hz : zeroC (q, 0) = false) : polyB (l ++ [(q, 0)]) = true ∧ Okl (l ++ [(q, 0)]) := by
  have ho : Okl (l ++ [(q, 0)]) := fun z hz => by
    rcases List.mem_append.1 hz with h' | h'
    · exact h z h'
    · obtain rfl : z = (q, 0) := by simpa using h'
      exact hq
  refine ⟨?_, ho⟩
  unfold polyB
  have h1 : (l ++ [(q, 0)]).all finCB = true := List.all_eq_true.2 fun z hz => (ho z hz).1
  have h2 : (l ++ [(q, 0)]).getD ((l ++ [(q, 0)]).length - 1) (0, 0) = (q, 0) := by simp [List.getD]
  rw [h1, h2, hz]
  simp; omega


/-- The parts of a list of numbers as values. -/
def reV (l : List (Nat × Nat)) (k : Nat) : Rat := V32 (l.getD k (0, 0)).1
def imV (l : List (Nat × Nat)) (k : Nat) : Rat := V32 (l.getD k (0, 0)).2
theorem okl_trms {l : List (Nat × Nat)} (h : Okl l) : Trms l (reV l) (imV l) 4 := fun k hk => by
  have e : l.getD k (0, 0) ∈ l := by
    rw [List.getD, List.getElem?_eq_getElem hk]
    exact List.getElem_mem hk
  obtain ⟨a, b, c⟩ := h _ e
  unfold finCB at a
  rw [Bool.and_eq_true] at a
  exact ⟨nv_of_fin a.1, nv_of_fin a.2, b, c⟩
set_option maxRecDepth 100000 in
set_option maxHeartbeats 800000 in
theorem drawTerms_any (g c m n : Nat) (A : Option Addr) (zs : List Int) (w : World) (h : Src w g c A zs m) (hm : m ≤ 900) (hn : 1 ≤ n ∧ n ≤ 8) :
    Calls Try.prog 68 #[.pointer (some ⟨g, 0, none⟩), .int .i64 (n : Int)] w fun e w' => ∃ A' c' l, e = .returned (.slice A' n c') ∧ l.length = n ∧ polyB l = true ∧ Trms l (reV l) (imV l) 4 ∧ 1 / 2 ≤ reV l (n - 1) ∧ Own w' w.heap.size w'.heap.size 36 A' (cplx l) ∧ Src w' g c A zs (m + 40) ∧ Kp g (g + 1) w w' := by
  obtain ⟨i0, hi, hz0, hz1, hz2⟩ := info_parts infoC
  have hg := h.lt
  go_enter Try.func68, Try.ntmps68
  go_wp2
  have hown0 : (w.alloc (.cells #[] 36)).ownsRow w.heap.size 36 1 (.slice (some ⟨w.heap.size, 0, none⟩) 0 0) 0 (cplx []) := World.ownsRow_made w #[] 0 (Nat.le_refl _) (by simp [maxLen]) rfl
  have hb0 : Below w.heap.size w (w.alloc (.cells #[] 36)) := (Below.refl _ _).alloc (Nat.le_refl _) _
  have hs0 := h.below hb0 hg
  go_loopw [1, 5] (fun q v wr => ∃ k : Nat, k + 1 ≤ n ∧ q = .int .i64 ((n : Int) - (k : Int)) ∧ (∃ l : List (Nat × Nat), l.length = k ∧ Hid (Okl l) ∧ wr.ownsRow w.heap.size 36 1 v k (cplx l)) ∧ Src wr g c A zs (m + 3 * k) ∧ Kp g (g + 1) w wr) (fun q _ _ => (intOf q).toNat)
  case atStart => exact ⟨0, hn.1, by simp, ⟨[], rfl, fun x hx => by simp at hx, hown0⟩, hs0, Kp.of_below hb0⟩
  case round =>
    obtain ⟨k, hk, rfl, ⟨l, hl, hLx, hown⟩, hsr, hkr⟩ := hrel
    clear hown0 hb0 hs0
    obtain ⟨Ao, co, rfl, -, hko, hO⟩ := Own.of_row hown (Nat.le_refl _)
    have hsz := hkr.size
    clear hO
    obtain ⟨wo, rfl⟩ : ∃ wo : World, wo = wr := ⟨_, rfl⟩
    by_cases hlt : k + 1 < n
    · have H := drawSmall_any g c _ A zs wo hsr (by omega)
      have hgt : ((n : Int) - (k : Int)) > 1 := by omega
      go_wp2_with fail
      refine H.mono ?_
      rintro e w2 ⟨x, y, rfl, hxy, hs2, hk2⟩
      have hown2 := ownsRow_kp hown hk2 (by omega)
      have hsz2 := hk2.size
      clear hown H
      go_wp2_with (at_builtin; refine wpList_append_any _ rfl (.tmp 12) (.tmp 15) _ rfl w.heap.size 36 i0 _ 1 8 Try.underlying31 hi hz0 hz1 hz2 rfl (by omega) (.slice Ao k co) k (cplx l) rfl (hown2.alloc _) (w2.heap.size + 1) (some ⟨w2.heap.size, 0, none⟩) 1 1 [.complex .f32 x y] rfl (reads_new w2 [_] _) (one_cplx x y) (by simp only [maxLen]; omega) (by omega) (by simp; omega) ?_; intro v1 w3 hown3 hg3 hat3)
      have hb3 : Below w.heap.size w2 w3 := ((Below.refl _ _).alloc (by omega) _).grown hg3 (by simp; omega) (fun j hj => (hown2.lt j hj).1)
      have hs3 := hs2.below hb3 hg
      have hk3 : Kp g (g + 1) w w3 := ⟨hb3.os.trans (hkr.trans hk2).os, hb3.tape.trans (hkr.trans hk2).tape, hb3.output.trans (hkr.trans hk2).output, Nat.le_trans (hkr.trans hk2).size (Nat.le_trans (by simp) hg3.size), fun i hi hd => (hb3.block i (by omega)).trans ((hkr.trans hk2).block i hi hd)⟩
      obtain ⟨A1, c1, rfl⟩ : ∃ A1 c1, v1 = .slice A1 (k + 1) c1 := by
        obtain ⟨A1, c1, h, -⟩ := Own.of_row hown3 (Nat.le_refl _)
        exact ⟨A1, c1, h⟩
      rw [cplx_snoc] at hown3
      refine ⟨⟨k + 1, by omega, by go_num, ⟨l ++ [(x, y)], by simp [hl], ?_, hown3⟩, hs3.up (by omega), hk3⟩, by simp [intOf]; omega⟩
      intro z hz
      rcases List.mem_append.1 hz with h | h
      · exact hLx.out z h
      · obtain rfl : z = (x, y) := by simpa using h
        exact hxy
    · obtain rfl : n = k + 1 := by omega
      have H := hsr.pick (by omega) 8 (by omega)
      go_wp2_with fail
      refine H.mono ?_
      rintro e w2 ⟨x, rfl, hx, hs2, hk2⟩
      obtain ⟨f1, f2, f3, f4⟩ := qt_last x (by omega)
      have hown2 := ownsRow_kp hown hk2 (by omega)
      have hsz2 := hk2.size
      generalize qt (1 + (x : Int)) 1073741824 = q at *
      have hQ := fun w => run_float_arith (P := Try.prog) w .quo 25 .f32 _ _ q f1
      obtain ⟨v1', v2'⟩ := okl_valid (q := q) hLx.out (by omega) (okc f2 fin_zero ⟨by grind, f3.2⟩ v32_zero_bd) f4
      have HV1 := Lib.hid v1'
      have HV2 := Lib.hid (okl_trms v2')
      have HV3 : Hid (1 / 2 ≤ reV (l ++ [(q, 0)]) (k + 1 - 1)) := by
        have e : (l ++ [(q, 0)]).getD (k + 1 - 1) (0, 0) = (q, 0) := by rw [← hl]; simp [List.getD]
        unfold reV
        rw [e]
        exact f3.1
      clear hown H f1 f2 f3 f4 v1' v2' hLx
      go_wp2_with (at_builtin; refine wpList_append_any _ rfl (.tmp 22) (.tmp 25) _ rfl w.heap.size 36 i0 _ 1 8 Try.underlying31 hi hz0 hz1 hz2 rfl (by omega) (.slice Ao k co) k (cplx l) rfl (hown2.alloc _) (w2.heap.size + 1) (some ⟨w2.heap.size, 0, none⟩) 1 1 [.complex .f32 q 0] rfl (reads_new w2 [_] _) (one_cplx q 0) (by simp only [maxLen]; omega) (by omega) (by simp; omega) ?_; intro v1 w3 hown3 hg3 hat3)
      have hb3 : Below w.heap.size w2 w3 := ((Below.refl _ _).alloc (by omega) _).grown hg3 (by simp; omega) (fun j hj => (hown2.lt j hj).1)
      have hs3 := hs2.below hb3 hg
      have hk3 : Kp g (g + 1) w w3 := ⟨hb3.os.trans (hkr.trans hk2).os, hb3.tape.trans (hkr.trans hk2).tape, hb3.output.trans (hkr.trans hk2).output, Nat.le_trans (hkr.trans hk2).size (Nat.le_trans (by simp) hg3.size), fun i hi hd => (hb3.block i (by omega)).trans ((hkr.trans hk2).block i hi hd)⟩
      rw [cplx_snoc] at hown3
      obtain ⟨A1, c1, rfl, e1, -, hO3⟩ := Own.of_row hown3 (Nat.le_refl _)
      go_wp2
      go_ret
      exact ⟨A1, c1, l ++ [(q, 0)], rfl, by simp [hl], HV1.out, HV2.out, HV3.out, hO3, hs3.up (by omega), hk3⟩
end Go.Proofs.Ytlpibibpckkjhaa
namespace Go.Proofs.Ytlpibibpckkjhaa
open Go.RowKit

set_option maxRecDepth 100000 in
set_option maxHeartbeats 800000 in
theorem r8Poly_any (A0 : Option Addr) (c0 n : Nat) (zs : List Int) (hn : 1 ≤ n ∧ n ≤ 8) (hz : Byt zs) (w : World) (hr : Reads w w.heap.size 1 A0 zs.length (byts zs)) :
    Calls Try.prog 23 #[.slice A0 zs.length c0, .int .i64 (n : Int)] w fun e w' => ∃ A' c' l, e = .returned (.agg #[.slice A' n c']) ∧ l.length = n ∧ polyB l = true ∧ Trms l (reV l) (imV l) 4 ∧ 1 / 2 ≤ reV l (n - 1) ∧ Own w' w.heap.size w'.heap.size 36 A' (cplx l) ∧ Below w.heap.size w w' := by
  have hb0 : Below w.heap.size w (w.alloc (.cells #[.slice none 0 0] 33)) := (Below.refl _ _).alloc (Nat.le_refl _) _
  have hR0 := Blk.new w 33 #[.slice none 0 0]
  go_enter Try.func23, Try.ntmps23
  go_wp2_with fail
  refine (l00From_any A0 c0 zs.length _).mono ?_
  rintro e w1 ⟨rfl, hw1⟩
  have hb1 : Below w.heap.size w w1 := by rw [hw1]; exact hb0.alloc (by simp) _
  have hs1 : Src w1 (w.alloc (.cells #[.slice none 0 0] 33)).heap.size c0 A0 zs 0 := ⟨⟨0, 0, Nat.le_refl _, by rw [hw1]; exact heap_alloc_new _ _⟩, (hr.below hb1).more (by simp), hz⟩
  have hR1 : Blk w1 w.heap.size 33 #[.slice none 0 0] := by rw [hw1]; exact hR0.alloc _
  clear hw1 hr hz hR0 hb0
  have H := drawTerms_any _ c0 0 n A0 zs w1 hs1 (by omega) hn
  have hlt := hs1.lt
  simp only [World.size_alloc] at H hlt
  go_wp2_with fail
  (with_reducible refine H.mono ?_)
  rintro e w2 ⟨A', c', l, rfl, hl, hp, hT, hlast, hO, hs2, hk⟩
  clear H
  have z2 := hk.size
  have hR2 := hR1.kp hk (by omega)
  have hb2 := hb1.trans (hk.below (B := w.heap.size) (by omega) (by omega))
  have cR : w2.cell? ⟨w.heap.size, 0, none⟩ = some (.slice none 0 0) := hR2.cell 0
  have fR := hR2.frozen 0
  have hT' := Lib.hid hT
  have hlast' := Lib.hid hlast
  clear hT hlast hs1 hs2 hR1
  go_wp2
  refine bodyPost_ret (v := .agg #[.slice A' n c']) (by simp [results, Try.results23, go_sem, cR]) rfl ?_
  exact ⟨A', c', l, rfl, hl, hp, hT'.out, hlast'.out, (hO.keep fun g' b1 b2 _ => Below.heap_setCell _ _ _ _ (by simp; omega)).wide (by omega) (by simp), below_set hb2 (by simp) _⟩
end Go.Proofs.Ytlpibibpckkjhaa
