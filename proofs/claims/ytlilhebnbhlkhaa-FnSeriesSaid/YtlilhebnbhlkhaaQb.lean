/-
  Plain laws: 32-bit numbers up to the bits of those that are no numbers; what a float operation gives, whatever its operands.
  Plain laws: comparisons of 32-bit numbers up to what is no number; a number without its sign.
  Plain laws: the fit of least squares as float steps, up to what is no number: sums of powers, elimination, the way back.
  Words on memory: a matrix of 32-bit numbers as a slice of slices, each row in a block of its own; a list of such numbers.
  Contracts: powers (impl.powerOf, spec.l06Powers) and numbers without their sign (impl.magnitude, spec.l06Size), whatever the numbers.
  Contract: the reference's solving of equations (spec.l06Solve), whatever the numbers.
  Contracts: whether a weight is below 0 (impl.FitPoly's closure, slices.ContainsFunc), whether it is finite and not below 0 (spec.l02Least).
  Words on memory: a matrix whose rows are appended one by one.
  Contract: the reference's fit (spec.FitPoly), whatever the numbers.
  Contract: the reference's fit (spec.FitPoly) of lists as they have to be, whatever the numbers.
  Contract: the program's fit (impl.FitPoly) of lists that are not as they have to be.
  The polynomial that rises as another one says, by values (impl.RisePoly).
  The mass of a polynomial by its rise, by values (impl.ExactMass).
  The exact mass by values (impl.ExactMass).
  The moments of the nodes against their weights (plain).
  The mass by nodes and weights (impl.MassOf), by values.
  The mass by nodes and weights (impl.MassOf): the walk.
  A family's polynomial at a number (impl.isKind, impl.FamilyAt): kind 2 at the nodes.
  Contracts: a source of numbers drawn of bytes (spec.l00From, next, pick, one), and the small functions of the laws (r8Long, r8At).
  Contracts: polynomials drawn of a source (l02DrawSmall, l02DrawTerms): they are valid, of small values.
  A polynomial drawn of bytes (spec.R8Poly).
  Plain laws: what a fit answers, as a list of terms or none; the reference's fit gives it.
  Contract: the program's fit (impl.FitPoly) of lists as they have to be, whatever the numbers.
  Contract: the program's fit, as a list of terms or none.
  Plain: fits of as few numbers as can be: degree 0 and 1 by all their cases; the fit that is a mean.
  Plain: the fit of degree 2 at -1, 0, 1 as a chain of steps.
  Plain: the matrix of the fit of degree 2 at -1, 0, 1.
  Plain: the trimmed terms of a list of numbers have the values of all.
  Plain: the trimmed terms of finite numbers: a valid polynomial with the values of all.
  Plain: steps up to errors, as Options; the fit of degree 2 by values.
  Plain: the fit of degree 2 at -1, 0, 1 passes its values, nearly.
  Plain: the fits of degree 0, 1 and 2 at -1, 0, 1 pass their values, nearly.
  Values of 64-bit words; a number's opposite; comparisons by values; one node of the law FnMasses.
  The fits of the law FnMasses: they are found, and their values are near enough.
-/
import Derived.Test.YtlilhebnbhlkhaaQa
import Derived.Deep.RegionHeld
import Derived.BigRegion
import Derived.Laws.Bits64b
import Derived.Deep.RegionHeld3
namespace Go.Proofs.Ytlilhebnbhlkhaa
open Go.RowKit
theorem neg32 (x : Nat) (w : World) : (Op.unary .neg (.float .f32 x)).run Try.prog w = .ok (.float .f32 (Op.negFloat .f32 x)) w := rfl
end Go.Proofs.Ytlilhebnbhlkhaa
namespace Go.Proofs.Ytlilhebnbhlkhaa
open Go.RowKit
/-- The number that a 32-bit word says. -/
def V32 (x : Nat) : Rat := dv (FloatKind.f32.format.read x)
theorem nv_of_fin {x : Nat} (h : fin32B x = true) : NV .f32 x (V32 x) := by
  obtain ⟨s, m, i, hr, -⟩ := fin_number h
  refine ⟨s, m, i, hr, ?_⟩
  unfold V32
  rw [hr]
  rfl
theorem nv_val {x : Nat} {a : Rat} (h : NV .f32 x a) : a = V32 x := by
  obtain ⟨s, m, i, hr, rfl⟩ := h
  unfold V32
  rw [hr]
  rfl
end Go.Proofs.Ytlilhebnbhlkhaa
namespace Go.Proofs.Ytlilhebnbhlkhaa
open Go.RowKit
theorem add0 (g k : Nat) : (⟨g, 0, none⟩ : Addr).add k = ⟨g, k, none⟩ := by unfold Addr.add; split <;> simp_all
end Go.Proofs.Ytlilhebnbhlkhaa
namespace Go.Proofs.Ytlilhebnbhlkhaa
open Go.RowKit
/-- Bytes as values in memory. -/
def byts (zs : List Int) : List Value := zs.map (Value.int .u8)
@[simp] theorem byts_len (zs : List Int) : (byts zs).length = zs.length := by simp [byts]
theorem byts_at {zs : List Int} {k : Nat} (h : k < zs.length) : (byts zs)[k]? = some (.int .u8 (zs.getD k 0)) := by
  simp [byts, List.getD, List.getElem?_eq_getElem h]
theorem byt_at {w : World} {B : Nat} {A : Option Addr} {zs : List Int} {k : Nat} (h : Reads w B 1 A zs.length (byts zs)) (hk : k < zs.length) :
    ∃ ad, A = some ad ∧ ad.block < B ∧ w.cell? (ad.add k) = some (.int .u8 (zs.getD k 0)) := by
  obtain ⟨ad, u, e, hb, hu, hc⟩ := h.at_ hk
  rw [byts_at hk] at hu
  cases hu
  exact ⟨ad, e, hb, hc⟩
def Byt (zs : List Int) : Prop := ∀ z ∈ zs, 0 ≤ z ∧ z ≤ 255
theorem Byt.at_ {zs : List Int} (h : Byt zs) {k : Nat} (hk : k < zs.length) : 0 ≤ zs.getD k 0 ∧ zs.getD k 0 ≤ 255 := by
  rw [List.getD, List.getElem?_eq_getElem hk]
  exact h _ (List.getElem_mem hk)
theorem nat_of {x n : Int} {w w' : World} (h0 : 0 ≤ x) (h1 : x < n) (hw : w = w') : ∃ y : Nat, Ending.returned (.int .i64 x) = .returned (.int .i64 y) ∧ (y : Int) < n ∧ w = w' := by
  obtain ⟨y, rfl⟩ := Int.eq_ofNat_of_zero_le h0
  exact ⟨y, rfl, h1, hw⟩
theorem l00From_any (A : Option Addr) (c n : Nat) (w : World) :
    Calls Try.prog 35 #[.slice A n c] w fun e w' => e = .returned (.pointer (some ⟨w.heap.size, 0, none⟩)) ∧ w' = w.alloc (.cells #[.slice A n c, .int .i64 0, .int .u64 0] 77) := by
  go_enter Try.func35, Try.ntmps35
  go_wp2
  go_ret
  exact ⟨rfl, rfl⟩
theorem seed_bd (X : Int) : 0 ≤ wrap64 (bits .and .u64 (IntKind.u64.wrap X / 1099511627776) 255) ∧ wrap64 (bits .and .u64 (IntKind.u64.wrap X / 1099511627776) 255) ≤ 255 := by
  have h : 0 ≤ IntKind.u64.wrap X ∧ IntKind.u64.wrap X < 18446744073709551616 := by
    simp only [IntKind.wrap, IntKind.signed, IntKind.bits]
    simp
    omega
  have h2 := bits_and_u64_nat (IntKind.u64.wrap X / 1099511627776).toNat 255 (by omega) (by omega)
  rw [Int.toNat_of_nonneg (by omega)] at h2
  have h3 : (IntKind.u64.wrap X / 1099511627776).toNat &&& 255 ≤ 255 := Nat.and_le_right
  have h4 : bits .and .u64 (IntKind.u64.wrap X / 1099511627776) 255 = (((IntKind.u64.wrap X / 1099511627776).toNat &&& 255 : Nat) : Int) := h2
  rw [h4]
  unfold wrap64
  omega
theorem next_any (g B c at_ : Nat) (A : Option Addr) (zs : List Int) (sd : Int) (w : World) (hr : Reads w B 1 A zs.length (byts zs)) (hz : Byt zs) (hat : at_ ≤ 1048576)
    (hg : Blk w g 77 #[.slice A zs.length c, .int .i64 at_, .int .u64 sd]) :
    Calls Try.prog 101 #[.pointer (some ⟨g, 0, none⟩)] w fun e w' => ∃ x sd' : Int, e = .returned (.int .i64 x) ∧ 0 ≤ x ∧ x ≤ 255 ∧ Blk w' g 77 #[.slice A zs.length c, .int .i64 (at_ + 1 : Nat), .int .u64 sd'] ∧ Kp g (g + 1) w w' := by
  have c0 : w.cell? ⟨g, 0, none⟩ = _ := hg.cell 0
  have c1 : w.cell? ⟨g, 1, none⟩ = _ := hg.cell 1
  have c2 : w.cell? ⟨g, 2, none⟩ = _ := hg.cell 2
  have f1 := hg.frozen 1
  have f2 := hg.frozen 2
  simp at c0 c1 c2
  by_cases h : at_ < zs.length
  · obtain ⟨ad, rfl, hab, hc1⟩ := byt_at hr h
    have hb := hz.at_ h
    clear hr
    generalize zs.getD at_ 0 = x at *
    go_enter Try.func101, Try.ntmps101
    go_wp2
    go_quiet (fail)
    go_wp2
    go_quiet (fail)
    go_wp2
    go_quiet (fail)
    go_wp2
    go_ret
    refine ⟨x, _, rfl, hb.1, hb.2, ((((hg.drewN _).set_ 1 _).set_ 2 _).drewN _), ((((Kp.refl g (g + 1) w).drewN _).setCell ⟨?_, ?_⟩ _).setCell ⟨?_, ?_⟩ _).drewN _⟩
    all_goals simp
  · clear hr
    go_enter Try.func101, Try.ntmps101
    go_wp2
    go_quiet (fail)
    go_wp2
    go_quiet (fail)
    go_wp2
    go_ret
    refine ⟨_, _, rfl, (seed_bd _).1, (seed_bd _).2, ((((hg.drewN _).set_ 1 _).set_ 2 _).drewN _), ((((Kp.refl g (g + 1) w).drewN _).setCell ⟨?_, ?_⟩ _).setCell ⟨?_, ?_⟩ _).drewN _⟩
    all_goals simp
theorem pick_any (g B c at_ : Nat) (A : Option Addr) (zs : List Int) (sd n : Int) (w : World) (hr : Reads w B 1 A zs.length (byts zs)) (hz : Byt zs) (hat : at_ ≤ 1048576)
    (hg : Blk w g 77 #[.slice A zs.length c, .int .i64 at_, .int .u64 sd]) (hp : 1 < n ∧ n ≤ 200) :
    Calls Try.prog 60 #[.pointer (some ⟨g, 0, none⟩), .int .i64 n] w fun e w' => ∃ x sd' : Int, e = .returned (.int .i64 x) ∧ 0 ≤ x ∧ x < n ∧ Blk w' g 77 #[.slice A zs.length c, .int .i64 (at_ + 1 : Nat), .int .u64 sd'] ∧ Kp g (g + 1) w w' := by
  have hp0 : ¬ n = 0 := by omega
  have H := next_any g B c at_ A zs sd w hr hz hat hg
  clear hr hg
  go_enter Try.func60, Try.ntmps60
  go_wp2_with fail
  refine H.mono ?_
  rintro e w1 ⟨x, sd', rfl, hx0, hx1, hb1, hk1⟩
  go_wp2
  go_ret
  exact ⟨_, _, rfl, Int.emod_nonneg _ (by omega), Int.emod_lt_of_pos _ (by omega), hb1, hk1⟩
/-- A source that has drawn at most m numbers. -/
structure Src (w : World) (g c : Nat) (A : Option Addr) (zs : List Int) (m : Nat) : Prop where
  blk : ∃ (a : Nat) (sd : Int), a ≤ m ∧ Blk w g 77 #[.slice A zs.length c, .int .i64 (a : Int), .int .u64 sd]
  rd : Reads w g 1 A zs.length (byts zs)
  by_ : Byt zs
section
variable {w w' : World} {g c m : Nat} {A : Option Addr} {zs : List Int}
theorem Src.lt (h : Src w g c A zs m) : g < w.heap.size := by
  obtain ⟨a, sd, _, hb⟩ := h.blk
  exact hb.lt
theorem Src.below {B : Nat} (h : Src w g c A zs m) (hb : Below B w w') (hB : g < B) : Src w' g c A zs m := by
  obtain ⟨a, sd, h1, h2⟩ := h.blk
  exact ⟨⟨a, sd, h1, h2.below hb hB⟩, h.rd.below (hb.mono (by omega)), h.by_⟩
theorem Src.up {m' : Nat} (h : Src w g c A zs m) (hm : m ≤ m') : Src w g c A zs m' := by
  obtain ⟨a, sd, h1, h2⟩ := h.blk
  exact ⟨⟨a, sd, Nat.le_trans h1 hm, h2⟩, h.rd, h.by_⟩
theorem Src.pick (h : Src w g c A zs m) (hm : m ≤ 1048576) (n : Int) (hp : 1 < n ∧ n ≤ 200) :
    Calls Try.prog 60 #[.pointer (some ⟨g, 0, none⟩), .int .i64 n] w fun e w' => ∃ x : Nat, e = .returned (.int .i64 (x : Int)) ∧ (x : Int) < n ∧ Src w' g c A zs (m + 1) ∧ Kp g (g + 1) w w' := by
  obtain ⟨a, sd, h1, h2⟩ := h.blk
  refine (pick_any g g c a A zs sd n w h.rd h.by_ (by omega) h2 hp).mono ?_
  rintro e w1 ⟨x, sd', rfl, hx0, hx1, hb1, hk1⟩
  obtain ⟨y, rfl⟩ := Int.eq_ofNat_of_zero_le hx0
  exact ⟨y, rfl, hx1, ⟨⟨a + 1, sd', by omega, hb1⟩, h.rd.below (hk1.below (Nat.le_refl _) (Nat.le_of_lt h.lt)), h.by_⟩, hk1⟩
end
end Go.Proofs.Ytlilhebnbhlkhaa
namespace Go.Proofs.Ytlilhebnbhlkhaa
open Go.RowKit
/-- A whole number as a 32-bit number, by another one. -/
def qt (n : Int) (d : Nat) : Nat := (floatBits .quo .f32 (floatOfInt .f32 n) d).getD 0
theorem qt_small (x : Nat) (h : x < 33) : floatBits .quo .f32 (floatOfInt .f32 ((x : Int) - 16)) 1082130432 = some (qt ((x : Int) - 16) 1082130432) ∧ fin32B (qt ((x : Int) - 16) 1082130432) = true ∧ (-4 ≤ V32 (qt ((x : Int) - 16) 1082130432) ∧ V32 (qt ((x : Int) - 16) 1082130432) ≤ 4) := by
  have key : ∀ n ∈ List.range 33, floatBits .quo .f32 (floatOfInt .f32 ((n : Int) - 16)) 1082130432 = some (qt ((n : Int) - 16) 1082130432) ∧ fin32B (qt ((n : Int) - 16) 1082130432) = true ∧ (-4 ≤ V32 (qt ((n : Int) - 16) 1082130432) ∧ V32 (qt ((n : Int) - 16) 1082130432) ≤ 4) := by decide +kernel
  exact key x (List.mem_range.2 h)
end Go.Proofs.Ytlilhebnbhlkhaa
namespace Go.Proofs.Ytlilhebnbhlkhaa
open Go.RowKit
theorem trimN_stop (l : List (Nat × Nat)) : ∀ n, trimN l n ≤ 1 ∨ zeroC (l.getD (trimN l n - 1) (0, 0)) = false
  | 0 => .inl (by simp [trimN])
  | n + 1 => by
    rw [trimN]
    by_cases h : (decide (1 ≤ n) && zeroC (l.getD n (0, 0))) = true
    · rw [if_pos h]; exact trimN_stop l n
    · rw [if_neg h]
      by_cases h1 : 1 ≤ n
      · right
        rw [Nat.add_sub_cancel]
        simpa [h1] using h
      · left; omega
theorem trimN_zero (l : List (Nat × Nat)) : ∀ n k, trimN l n ≤ k → k < n → zeroC (l.getD k (0, 0)) = true
  | 0, k, _, hk => absurd hk (Nat.not_lt_zero _)
  | n + 1, k, h1, hk => by
    rw [trimN] at h1
    by_cases h : (decide (1 ≤ n) && zeroC (l.getD n (0, 0))) = true
    · rw [if_pos h] at h1
      rcases Nat.lt_or_ge k n with h2 | h2
      · exact trimN_zero l n k h1 h2
      · obtain rfl : k = n := by omega
        rw [Bool.and_eq_true] at h
        exact h.2
    · rw [if_neg h] at h1; omega
end Go.Proofs.Ytlilhebnbhlkhaa
namespace Go.Proofs.Ytlilhebnbhlkhaa
open Go.RowKit
def V64 (x : Nat) : Rat := dv (FloatKind.f64.format.read x)
def num64 (x : Nat) : Bool := match FloatKind.f64.format.read x with
  | .number _ _ _ => true
  | _ => false
theorem nv64_of {x : Nat} (h : num64 x = true) : NV .f64 x (V64 x) := by
  unfold num64 at h
  cases e : FloatKind.f64.format.read x with
  | number s m i => exact ⟨s, m, i, e, by unfold V64; rw [e]; rfl⟩
  | infinity s => rw [e] at h; cases h
  | nan s t => rw [e] at h; cases h
theorem nv64_is {x : Nat} {a : Rat} (h : num64 x = true) (hv : V64 x = a) : NV .f64 x a := hv ▸ nv64_of h
theorem nv_01 : NV .f64 4576918229304087675 (5764607523034235 / 576460752303423488) := nv64_is (by decide +kernel) (by decide +kernel)
theorem nv64_one : NV .f64 4607182418800017408 1 := nv64_is (by decide +kernel) (by decide +kernel)
theorem nv64_zero : NV .f64 0 0 := nv64_is (by decide +kernel) (by decide +kernel)
/-- The opposite of a number. -/
theorem neg_val {k : FloatKind} {x : Nat} {a : Rat} (h : NV k x a) : NV k (Op.negFloat k x) (-a) := by
  obtain ⟨s, m, i, e, rfl⟩ := h
  have hS : k.format.signWeight = 2 ^ (k.format.exponentBits + k.format.fractionBits) := rfl
  have e1 : Op.negFloat k x % k.format.signWeight = x % k.format.signWeight := by
    unfold Op.negFloat
    rw [hS, Nat.xor_mod_two_pow, Nat.mod_self, Nat.xor_zero]
  have e2 : (Op.negFloat k x / k.format.signWeight % 2 == 1) = !(x / k.format.signWeight % 2 == 1) := by
    unfold Op.negFloat
    rw [hS, Nat.xor_div_two_pow, Nat.div_self (Nat.two_pow_pos _)]
    generalize x / 2 ^ (k.format.exponentBits + k.format.fractionBits) = q
    have h1 : (q ^^^ 1) % 2 = q % 2 ^^^ 1 := by
      have := Nat.xor_mod_two_pow (a := q) (b := 1) (n := 1)
      simpa using this
    rw [h1]
    rcases Nat.mod_two_eq_zero_or_one q with h2 | h2 <;> rw [h2] <;> decide
  have e3 : k.format.read (Op.negFloat k x) = (k.format.read x).opposite := by
    unfold Ieee.Format.read
    simp only [e1, e2]
    split
    · rfl
    · split
      · rfl
      · split <;> rfl
  refine ⟨!s, m, i, by rw [e3, e]; rfl, ?_⟩
  rw [opp_val, Rat.intCast_neg]
  grind
section
variable {k : FloatKind} {x y : Nat} {a b : Rat}
theorem gt_no (hx : NV k x a) (hy : NV k y b) (h : a ≤ b) : (k.format.order x y == some .gt) = false := by
  obtain ⟨o1, o2, -⟩ := order_val k hx hy
  rcases (show a < b ∨ a = b by grind) with h | h
  · rw [o1 h]; rfl
  · rw [o2 h]; rfl
theorem lt_yes (hx : NV k x a) (hy : NV k y b) (h : a < b) : (k.format.order x y == some .lt) = true := by
  rw [(order_val k hx hy).1 h]; rfl
end
end Go.Proofs.Ytlilhebnbhlkhaa
