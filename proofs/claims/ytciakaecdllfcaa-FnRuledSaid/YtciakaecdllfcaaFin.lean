/-
  Contracts: finite numbers are found finite (IsFinite, areFinite, IsFiniteComplex, allFinite and the closures between them), series are found series (IsSeries, areSeries, checkedSeries).
-/
import Derived.Test.YtciakaecdllfcaaComp
import Derived.Test.YtciakaecdllfcaaFollowI
namespace Go.Proofs.Ytciakaecdllfcaa
open Go.RowKit

/-- A 32-bit number that is finite: less itself it is 0. -/
def Fin32 (x : Nat) : Prop := floatBits .sub .f32 x x = some 0

theorem isFinite_any (x : Nat) (h : Fin32 x) (w : World) :
    Calls Try.prog 79 #[.float .f32 x] w fun e w' => e = .returned (.bool true) ∧ w = w' := by
  have k1 := ar32 _ _ _ _ h
  have k2 : (FloatKind.f32.format.order 0 0 == some .eq) = true := by decide +kernel
  clear h
  go_enter Try.func79, Try.ntmps79
  go_wp2
  go_ret
  exact ⟨rfl, rfl⟩

theorem areFinite1_any (x : Nat) (h : Fin32 x) (w : World) :
    Calls Try.prog 78 #[.float .f32 x] w fun e w' => e = .returned (.bool false) ∧ w = w' := by
  have H := isFinite_any x h
  clear h
  go_enter Try.func78, Try.ntmps78
  go_wp2_with fail
  refine (H _).mono ?_
  rintro e w1 ⟨rfl, rfl⟩
  go_wp2
  go_ret
  exact ⟨rfl, rfl⟩

theorem indexFunc32_any (ad : Addr) (c x y : Nat) (hx : Fin32 x) (hy : Fin32 y) (w : World) (h0 : w.cell? ad = some (.float .f32 x)) (h1 : w.cell? (ad.add 1) = some (.float .f32 y)) :
    Calls Try.prog 80 #[.slice (some ad) 2 c, .func (.func 78) #[] #[]] w fun e w' => e = .returned (.int .i64 (-1)) ∧ w = w' := by
  have HX := areFinite1_any x hx
  have HY := areFinite1_any y hy
  have h0' : w.cell? (ad.add 0) = some (.float .f32 x) := by simpa [Addr.add] using h0
  have h1' : w.cell? { block := ad.block, off := ad.off + 1 } = some (.float .f32 y) := by simpa [Addr.add] using h1
  clear hx hy
  go_enter Try.func80, Try.ntmps80
  go_wp2
  refine wp_loop_rounds 3 ?_
  rw [rounds_succ]
  go_wp2_with fail
  refine (HX _).mono ?_
  rintro e w1 ⟨rfl, rfl⟩
  go_wp2_with fail
  rw [rounds_succ]
  go_wp2_with fail
  refine (HY _).mono ?_
  rintro e w1 ⟨rfl, rfl⟩
  go_wp2_with fail
  rw [rounds_succ]
  go_wp2
  go_ret
  exact ⟨rfl, rfl⟩

theorem containsFunc32_any (ad : Addr) (c x y : Nat) (hx : Fin32 x) (hy : Fin32 y) (w : World) (h0 : w.cell? ad = some (.float .f32 x)) (h1 : w.cell? (ad.add 1) = some (.float .f32 y)) :
    Calls Try.prog 77 #[.slice (some ad) 2 c, .func (.func 78) #[] #[]] w fun e w' => e = .returned (.bool false) ∧ w = w' := by
  have H := indexFunc32_any ad c x y hx hy w h0 h1
  clear hx hy h0 h1
  go_enter Try.func77, Try.ntmps77
  go_wp2_with fail
  refine H.mono ?_
  rintro e w1 ⟨rfl, rfl⟩
  go_wp2
  go_ret
  exact ⟨rfl, rfl⟩

theorem areFinite_any (ad : Addr) (c x y : Nat) (hx : Fin32 x) (hy : Fin32 y) (w : World) (h0 : w.cell? ad = some (.float .f32 x)) (h1 : w.cell? (ad.add 1) = some (.float .f32 y)) :
    Calls Try.prog 76 #[.slice (some ad) 2 c] w fun e w' => e = .returned (.bool true) ∧ w = w' := by
  have H := containsFunc32_any ad c x y hx hy w h0 h1
  clear hx hy h0 h1
  go_enter Try.func76, Try.ntmps76
  go_wp2_with fail
  refine H.mono ?_
  rintro e w1 ⟨rfl, rfl⟩
  go_wp2
  go_ret
  exact ⟨rfl, rfl⟩

theorem isFiniteC_any (x y : Nat) (hx : Fin32 x) (hy : Fin32 y) (w : World) :
    Calls Try.prog 72 #[.complex .f32 x y] w fun e w' => e = .returned (.bool true) ∧ Below w.heap.size w w' := by
  have hb : Blk (w.alloc (.cells #[.float .f32 x, .float .f32 y] 38)) w.heap.size 38 #[.float .f32 x, .float .f32 y] := heap_alloc_new w _
  have H := areFinite_any ⟨w.heap.size, 0, none⟩ 2 x y hx hy _ (hb.cell 0) (hb.cell 1)
  have hb0 : Below w.heap.size w (w.alloc (.cells #[.float .f32 x, .float .f32 y] 38)) := (Below.refl _ _).alloc (Nat.le_refl _) _
  clear hx hy hb
  go_enter Try.func72, Try.ntmps72
  go_wp2_with fail
  refine H.mono ?_
  rintro e w1 ⟨rfl, rfl⟩
  go_wp2
  go_ret
  exact ⟨rfl, hb0⟩

theorem allFinite1_any (x y : Nat) (hx : Fin32 x) (hy : Fin32 y) (w : World) :
    Calls Try.prog 71 #[.complex .f32 x y] w fun e w' => e = .returned (.bool false) ∧ Below w.heap.size w w' := by
  have H := isFiniteC_any x y hx hy w
  clear hx hy
  go_enter Try.func71, Try.ntmps71
  go_wp2_with fail
  refine H.mono ?_
  rintro e w1 ⟨rfl, hb⟩
  go_wp2
  go_ret
  exact ⟨rfl, hb⟩

/-- Complex numbers of which both parts are finite. -/
def FinC (l : List (Nat × Nat)) : Prop := ∀ z ∈ l, Fin32 z.1 ∧ Fin32 z.2
theorem FinC.at_ {l : List (Nat × Nat)} (h : FinC l) {k : Nat} (hk : k < l.length) : Fin32 (l.getD k (0, 0)).1 ∧ Fin32 (l.getD k (0, 0)).2 := by
  rw [List.getD, List.getElem?_eq_getElem hk]
  exact h _ (List.getElem_mem hk)

theorem indexFuncC_any (A : Option Addr) (c B : Nat) (l : List (Nat × Nat)) (hf : FinC l) (w : World) (hr : Reads w B 1 A l.length (cplx l)) (hB : B ≤ w.heap.size) (hn : l.length ≤ 1048576) :
    Calls Try.prog 75 #[.slice A l.length c, .func (.func 71) #[] #[]] w fun e w' => e = .returned (.int .i64 (-1)) ∧ Below w.heap.size w w' := by
  go_enter Try.func75, Try.ntmps75
  go_wp2
  go_loopw [8] (fun i wr => ∃ k : Nat, k ≤ l.length ∧ i = .int .i64 k ∧ Below w.heap.size w wr) (fun i _ => l.length - (intOf i).toNat)
  case atStart => exact ⟨0, Nat.zero_le _, rfl, Below.refl _ _⟩
  case round =>
    obtain ⟨k, hk, rfl, hbr⟩ := hrel
    by_cases hlt : k < l.length
    · obtain ⟨wo, rfl⟩ : ∃ wo : World, wo = wr := ⟨_, rfl⟩
      obtain ⟨ad, rfl, hab, hc1⟩ := comp_at (hr.below (hbr.mono hB)) hlt
      have hfk := hf.at_ hlt
      clear hr
      generalize (l.getD k (0, 0)).1 = x at *
      generalize (l.getD k (0, 0)).2 = y at *
      have H := allFinite1_any x y hfk.1 hfk.2 wo
      go_wp2_with fail
      refine H.mono ?_
      rintro e w1 ⟨rfl, hb⟩
      go_wp2
      go_roundw
      case rel => exact ⟨k + 1, by omega, by go_num, hbr.trans (hb.mono hbr.size)⟩
      case measure => simp [intOf]; omega
    · have hkn : k = l.length := by omega
      subst hkn
      go_wp2
      go_ret
      exact ⟨rfl, hbr⟩

theorem containsFuncC_any (A : Option Addr) (c B : Nat) (l : List (Nat × Nat)) (hf : FinC l) (w : World) (hr : Reads w B 1 A l.length (cplx l)) (hB : B ≤ w.heap.size) (hn : l.length ≤ 1048576) :
    Calls Try.prog 70 #[.slice A l.length c, .func (.func 71) #[] #[]] w fun e w' => e = .returned (.bool false) ∧ Below w.heap.size w w' := by
  have H := indexFuncC_any A c B l hf w hr hB hn
  clear hf hr
  go_enter Try.func70, Try.ntmps70
  go_wp2_with fail
  refine H.mono ?_
  rintro e w1 ⟨rfl, hb⟩
  go_wp2
  go_ret
  exact ⟨rfl, hb⟩

theorem allFinite_any (A : Option Addr) (c B : Nat) (l : List (Nat × Nat)) (hf : FinC l) (w : World) (hr : Reads w B 1 A l.length (cplx l)) (hB : B ≤ w.heap.size) (hn : l.length ≤ 1048576) :
    Calls Try.prog 64 #[.slice A l.length c] w fun e w' => e = .returned (.bool true) ∧ Below w.heap.size w w' := by
  have H := containsFuncC_any A c B l hf w hr hB hn
  clear hf hr
  go_enter Try.func64, Try.ntmps64
  go_wp2_with fail
  refine H.mono ?_
  rintro e w1 ⟨rfl, hb⟩
  go_wp2
  go_ret
  exact ⟨rfl, hb⟩

theorem isSeries_any (A : Option Addr) (c B : Nat) (l : List (Nat × Nat)) (hf : FinC l) (w : World) (hr : Reads w B 1 A l.length (cplx l)) (hB : B ≤ w.heap.size) (hn : 1 ≤ l.length ∧ l.length ≤ 16) :
    Calls Try.prog 46 #[.slice A l.length c] w fun e w' => e = .returned (.bool true) ∧ Below w.heap.size w w' := by
  have H := allFinite_any A c B l hf w hr hB (by omega)
  clear hf hr
  go_enter Try.func46, Try.ntmps46
  go_wp2_with fail
  refine H.mono ?_
  rintro e w1 ⟨rfl, hb⟩
  go_wp2
  go_ret
  exact ⟨rfl, hb⟩

theorem areSeries_any (A A' : Option Addr) (c c' B : Nat) (l l' : List (Nat × Nat)) (hf : FinC l) (hf' : FinC l') (w : World) (hr : Reads w B 1 A l.length (cplx l)) (hr' : Reads w B 1 A' l'.length (cplx l')) (hB : B ≤ w.heap.size) (hn : 1 ≤ l.length ∧ l.length ≤ 16) (hn' : l'.length = l.length) :
    Calls Try.prog 40 #[.slice A l.length c, .slice A' l'.length c'] w fun e w' => e = .returned (.bool true) ∧ Below w.heap.size w w' := by
  have H := isSeries_any A c B l hf w hr hB hn
  have h1 : decide ((l.length : Int) = (l'.length : Int)) = true := by simp [hn']
  have h2 : ((l.length : Int) == (l'.length : Int)) = true := by simp [hn']
  go_enter Try.func40, Try.ntmps40
  go_wp2_with fail
  refine H.mono ?_
  rintro e w1 ⟨rfl, hb⟩
  have z := hb.size
  have H2 := isSeries_any A' c' B l' hf' w1 (hr'.below (hb.mono hB)) (by omega) (by omega)
  clear hf hf' hr hr' H hn'
  go_wp2_with fail
  refine H2.mono ?_
  rintro e w2 ⟨rfl, hb2⟩
  go_wp2
  go_ret
  exact ⟨rfl, hb.trans (hb2.mono z)⟩

theorem checkedSeries_any (A : Option Addr) (c B : Nat) (l : List (Nat × Nat)) (hf : FinC l) (w : World) (hr : Reads w B 1 A l.length (cplx l)) (hB : B ≤ w.heap.size) (hn : 1 ≤ l.length ∧ l.length ≤ 16) :
    Calls Try.prog 44 #[.slice A l.length c] w fun e w' => e = .returned (.tuple #[.slice A l.length c, .bool true]) ∧ Below w.heap.size w w' := by
  have H := isSeries_any A c B l hf w hr hB hn
  clear hf hr
  go_enter Try.func44, Try.ntmps44
  go_wp2_with fail
  refine H.mono ?_
  rintro e w1 ⟨rfl, hb⟩
  go_wp2
  go_ret2
  exact ⟨rfl, hb⟩
end Go.Proofs.Ytciakaecdllfcaa
