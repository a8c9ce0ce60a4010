/-
  Contract: spec.l07Store: the bytes of what is saved.
-/
import Derived.Test.YtgfmnolmokpgnaaGreatDoorOkS
import Derived.Laws.IdiomStrings
import Derived.Lib.ConvBytes
import Derived.Lib.AtoiErrMem
import Derived.ArgAppend
import Derived.Lib.SlBytesConst
namespace Go.Proofs.YtgfmnolmokpgnaaGreatDoor
open Go.RowKit

theorem ownsRow_below {w w' : World} {base E n : Nat} {v : Value} {xs : List Value} (h : w.ownsRow base E 1 v n xs) (hb : Below w.heap.size w w') : w'.ownsRow base E 1 v n xs := by
  obtain ⟨h1, h2⟩ := h
  refine ⟨h1, ?_⟩
  rcases h2 with h | ⟨g, cap, cur, e, hg, hh, hr⟩
  · exact .inl h
  · exact .inr ⟨g, cap, cur, e, hg, (hb.block g (Array.getElem?_eq_some_iff.1 hh).1).trans hh, hr⟩
theorem conv_of {w : World} {base n : Nat} {v : Value} {l : List UInt8} (hl : l ≠ []) (hn : l.length = n) (h : w.ownsRow base 5 1 v n (Lib.byteCells l)) :
    ∃ a c, v = .slice (some a) n c ∧ (convert 68 9 (.slice (some a) n c)).run Tryz.prog w = .ok (.string (txt l)) w := by
  subst hn
  obtain ⟨A, c, rfl, -, -, hO⟩ := Own.of_row h (Nat.le_refl _)
  have hr := hO.reads' (Nat.le_refl _) (n := l.length) (by simp [Lib.byteCells])
  have hp : 0 < l.length := by
    cases l with
    | nil => exact absurd rfl hl
    | cons a b => simp
  obtain ⟨a, rfl, -, hc⟩ := hr.2 hp
  exact ⟨a, c, rfl, run_convert_bytes_back w 68 9 5 a c l Tryz.underlying68 Tryz.underlying5 Tryz.underlying9 (fun j hj => hc j _ (by simp [Lib.byteCells, List.getElem?_eq_getElem hj]))⟩
theorem bc_append (a b : List UInt8) : Lib.byteCells (a ++ b) = Lib.byteCells a ++ Lib.byteCells b := by simp [Lib.byteCells]
theorem bc_len (l : List UInt8) : (Lib.byteCells l).length = l.length := by simp [Lib.byteCells]
theorem bc_u8 (n : Nat) (h : n < 256) : [Value.int .u8 (n : Int)] = Lib.byteCells [UInt8.ofNat n] := by
  simp only [Lib.byteCells, List.map_cons, List.map_nil, u8_nat]
  rw [Nat.mod_eq_of_lt h]
theorem bc_le2 (m : Nat) (hm : m < 65536) : Lib.byteCells (le2 m) = [.int .u8 ((m : Int) % 256), .int .u8 ((m : Int) / 256)] := by
  have h4 : (m / 256) % 256 = m / 256 := by omega
  simp only [Lib.byteCells, le2, List.map_cons, List.map_nil, u8_nat]
  rw [h4]
  simp
/-- The bytes of a text, made a slice. -/
theorem reads_conv (w : World) (s : ByteArray) : Reads (Lib.bytesWorld w 5 s) (w.heap.size + 1) 1 (some ⟨w.heap.size, 0, none⟩) s.size (Lib.byteCells s.data.toList) := by
  refine ⟨by rw [bc_len, Lib.size_eq]; omega, fun hn => ⟨_, rfl, by simp, fun j u hu => ?_⟩⟩
  have hj : j < s.data.toList.length := by
    have := (List.getElem?_eq_some_iff.1 hu).1
    rwa [bc_len] at this
  have hadd : (⟨w.heap.size, 0, none⟩ : Addr).add j = ⟨w.heap.size, j, none⟩ := by unfold Addr.add; split <;> simp_all
  rw [hadd, Lib.bytesWorld_cell w 5 s j (by rw [Lib.size_eq]; exact hj)]
  rw [Lib.byteCells, List.getElem?_map, List.getElem?_eq_getElem hj] at hu
  rw [List.getD, List.getElem?_eq_getElem hj]
  exact hu

theorem pairsL_snoc {l : List (Nat × Nat)} {k : Nat} (h : k < l.length) : pairsL (l.take (k + 1)) = pairsL (l.take k) ++ le4 (bitsN (l.getD k (0, 0)).1) ++ le4 (bitsN (l.getD k (0, 0)).2) := by
  rw [List.take_add_one, List.getElem?_eq_getElem h, pairsL, List.flatMap_append, List.append_assoc]
  simp [pairsL, pairL, List.getD, List.getElem?_eq_getElem h]
theorem termsL_snoc {l : List Int} {k : Nat} (h : k < l.length) : termsL (l.take (k + 1)) = termsL (l.take k) ++ le4 (l.getD k 0 + 2147483648).toNat := by
  rw [List.take_add_one, List.getElem?_eq_getElem h, termsL, List.flatMap_append]
  simp [termsL, termL, List.getD, List.getElem?_eq_getElem h]
/-- What is saved is small enough, and its numbers are 32 bits. -/
structure Sml (v : Sav) : Prop where
  n : v.nm.length ≤ 8
  p : v.P.length ≤ 17
  w : v.W.length ≤ 17
  b : ∀ k, k < v.P.length → (v.P.getD k (0, 0)).1 < 4294967296 ∧ (v.P.getD k (0, 0)).2 < 4294967296
  t : ∀ k, k < v.W.length → -1000000 ≤ v.W.getD k 0 ∧ v.W.getD k 0 ≤ 1000000

theorem reads_at (w : World) (cs : List Value) (E : TypeId) (g : Nat) (hg : g = w.heap.size) : Reads (w.alloc (.cells cs.toArray E)) (g + 1) 1 (some ⟨g, 0, none⟩) cs.length cs := by
  subst hg; exact reads_new w cs E
theorem Reads.cells {w : World} {B n : Nat} {a : Addr} {xs : List Value} (h : Reads w B 1 (some a) n xs) {j : Nat} {u : Value} (hu : xs[j]? = some u) : w.cell? (a.add j) = some u := by
  have hj := (List.getElem?_eq_some_iff.1 hu).1
  obtain ⟨ad, e, _, hc⟩ := h.2 (by have := h.1; omega)
  cases e
  exact hc j u hu
theorem ownsRow_lower {w : World} {base lo E n : Nat} {v : Value} {xs : List Value} (h : w.ownsRow base E 1 v n xs) (hlo : lo ≤ base) : w.ownsRow lo E 1 v n xs := by
  obtain ⟨h1, h2⟩ := h
  refine ⟨h1, ?_⟩
  rcases h2 with h | ⟨g, cap, cur, e, hg, r⟩
  · exact .inl h
  · exact .inr ⟨g, cap, cur, e, Nat.le_trans hlo hg, r⟩
theorem first_row {w : World} {base lo : Nat} {x : Value} (v : Sav) (hx : [.int .u8 (v.nm.length : Int)] = Lib.byteCells [UInt8.ofNat v.nm.length]) (hlo : lo ≤ base) (h : w.ownsRow base 5 1 x (4 + 1) (Lib.byteCells [80, 79, 76, 49] ++ [.int .u8 (v.nm.length : Int)])) :
    ∃ A c, x = .slice A 5 c ∧ w.ownsRow lo 5 1 (.slice A 5 c) 5 (Lib.byteCells (80 :: 79 :: 76 :: 49 :: [UInt8.ofNat v.nm.length])) := by
  have h1 : w.ownsRow lo 5 1 x 5 (Lib.byteCells (80 :: 79 :: 76 :: 49 :: [UInt8.ofNat v.nm.length])) := by
    have h := ownsRow_lower h hlo
    rw [hx, ← bc_append] at h
    exact h
  obtain ⟨A, c, rfl, -, -, -⟩ := Own.of_row h1 (Nat.le_refl _)
  exact ⟨A, c, rfl, h1⟩
theorem head_row {w : World} {base : Nat} {x : Value} (v : Sav) (hx : [.int .u8 (v.P.length : Int)] = Lib.byteCells [UInt8.ofNat v.P.length]) (h : w.ownsRow base 5 1 x (5 + (txt v.nm).size + 1) (Lib.byteCells [80, 79, 76, 49, UInt8.ofNat v.nm.length] ++ Lib.byteCells v.nm ++ [.int .u8 (v.P.length : Int)])) :
    ∃ n A c, x = .slice A n c ∧ n ≤ 6 + v.nm.length ∧ w.ownsRow base 5 1 (.slice A n c) n (Lib.byteCells (headL v)) := by
  have h1 : w.ownsRow base 5 1 x (6 + v.nm.length) (Lib.byteCells (headL v)) := by
    rw [hx, ← bc_append, ← bc_append, txt_size, show 5 + v.nm.length + 1 = 6 + v.nm.length by omega] at h
    have e : [80, 79, 76, 49, UInt8.ofNat v.nm.length] ++ v.nm ++ [UInt8.ofNat v.P.length] = headL v := by simp [headL]
    rw [e] at h
    exact h
  obtain ⟨A, c, rfl, -, -, -⟩ := Own.of_row h1 (Nat.le_refl _)
  exact ⟨_, A, c, rfl, Nat.le_refl _, h1⟩
theorem own_made (w : World) (cs : List Value) (E : TypeId) (hc : cs.length ≤ 1048576) : (w.alloc (.cells cs.toArray E)).ownsRow w.heap.size E 1 (.slice (some ⟨w.heap.size, 0, none⟩) cs.length cs.length) cs.length cs :=
  ⟨by simp, .inr ⟨_, cs.length, cs.toArray, rfl, Nat.le_refl _, heap_alloc_new w _, Nat.le_refl _, by unfold maxLen; omega, by simp, by simp⟩⟩

set_option maxRecDepth 100000 in
set_option maxHeartbeats 1600000 in
theorem l07Store_any (p : Nat) (v : Sav) (A A' : Option Addr) (c c' B : Nat) (w : World) (h : SavAt w p v A A' c c' B) (hB : B ≤ w.heap.size) (hv : Sml v) :
    Calls Tryz.prog 31 #[.pointer (some ⟨p, 0, none⟩)] w fun e w' => e = .returned (.string (txt (storeL v))) ∧ Below w.heap.size w w' := by
  obtain ⟨i0, hi, hz0, hz1, hz2⟩ := info_parts info5
  have hp := World.block_lt_of_cell? w _ h.c0
  simp only at hp
  have hn8 := hv.n
  have hp17 := hv.p
  have hw17 := hv.w
  have HV := Lib.hid hv
  have HS := Lib.hid h
  have H0 := h.c0
  have hns : (txt v.nm).size ≤ 8 := by rw [txt_size]; exact hn8
  clear h hv
  have kc := fun (w : World) (C : Array Value) (n c : Nat) => Lib.run_convert_bytes_const (P := Tryz.prog) w 68 5 C n c Tryz.underlying68 Tryz.underlying5
  go_enter Tryz.func31, Tryz.ntmps31
  have hnu : (v.nm.length : Int) < 256 := by omega
  have hnz : (txt v.nm).size = v.nm.length := txt_size _
  have hH1 := Lib.hid (bc_u8 v.nm.length (by omega))
  have hc0 : ∀ (o : Obj) (j : Nat) (u : Value), (Lib.byteCells [80, 79, 76, 49])[j]? = some u → ((w.alloc (.cells (Lib.byteCells [80, 79, 76, 49]).toArray 5 (4, 5))).alloc o).cell? ((⟨w.heap.size, 0, none⟩ : Addr).add j) = some u := fun o j u hu => by
    have hadd : (⟨w.heap.size, 0, none⟩ : Addr).add j = ⟨w.heap.size, j, none⟩ := by unfold Addr.add; split <;> simp_all
    rw [hadd, cell_of_row _ w.heap.size j _ _ _ ((Below.heap_alloc _ _ _ (by simp)).trans (heap_alloc_new w _))]
    simpa using hu
  have hpu : (v.P.length : Int) < 256 := by omega
  have hH2 := Lib.hid (bc_u8 v.P.length (by omega))
  have HC0 := Lib.hid hc0
  have hgr : ∀ (o1 o2 : Obj) (w1 : World), ((w.alloc o1).alloc o2).grownBy w1 none → Below w.heap.size w w1 := fun o1 o2 w1 hg => (((Below.refl _ _).alloc (Nat.le_refl _) _).alloc (by simp) _).grown hg (by simp; omega) (fun j hj => by cases hj)
  have HGR := Lib.hid hgr
  clear hc0 hgr
  go_wp2_with (first | (at_builtin; refine wpList_append_grows _ rfl (.tmp 8) (.tmp 15) _ rfl 5 i0 _ 1 1 Tryz.underlying68 hi hz0 hz1 hz2 rfl (by omega) (some ⟨w.heap.size, 0, none⟩) 4 4 (Lib.byteCells [80, 79, 76, 49]) rfl (by intro h; cases h) rfl (by intro b hb; cases hb; exact HC0.out _) ⟨w.heap.size + 1, 0, none⟩ 1 1 [.int .u8 (v.nm.length : Int)] rfl rfl (by intro j u hu; exact (reads_at _ [.int .u8 (v.nm.length : Int)] _ _ (by simp)).cells hu) (by rw [hH1.out]; exact bc_one _) (by omega) (by simp only [maxLen]; omega) (by omega) ?_; intro v1 w1 hown1 hg1; have hb1 := HGR.out _ _ _ hg1; obtain ⟨A1, c1, rfl, hown1a⟩ := first_row v hH1.out (show w.heap.size ≤ _ by simp; omega) hown1; have HS1 := Lib.hid (HS.out.below hb1 hB); have hs1 := hb1.size; have H0a := HS1.out.c0; clear hown1 hg1 HGR HC0 hH1 hnu kc H0; have hcv := Lib.run_convert_string_bytes (P := Tryz.prog) w1 9 68 5 (txt v.nm) (u := .string) Tryz.underlying9 Tryz.underlying68 Tryz.underlying5; have hbc := Lib.bytesWorld_below w1 5 (txt v.nm); have hrc := reads_conv w1 (txt v.nm); rw [txt_data] at hrc; have hzc := Lib.bytesWorld_size w1 5 (txt v.nm); generalize Lib.bytesWorld w1 5 (txt v.nm) = w2 at *; generalize grownCap w1 (txt v.nm).size 0 5 = gc at *; have hown2 := ownsRow_below hown1a hbc; have hb2 := hb1.trans (hbc.mono hb1.size); clear hown1a) | (at_builtin; refine wpList_append_any _ rfl (.tmp 17) (.tmp 22) _ rfl w.heap.size 5 i0 _ 1 1 Tryz.underlying68 hi hz0 hz1 hz2 rfl (by omega) (.slice A1 5 c1) 5 _ rfl hown2 (w1.heap.size + 1) (some ⟨w1.heap.size, 0, none⟩) (txt v.nm).size gc (Lib.byteCells v.nm) rfl hrc (bc_one _) (by simp only [maxLen]; omega) (by omega) (by omega) ?_; intro v3 w3 hown3 hg3 hat3; have hb3 : Below w.heap.size w w3 := hb2.grown hg3 (by omega) (fun j hj => (hown2.lt j hj).1); clear hg3 hat3 hown2 hrc hcv hbc hb2; have hb3s := hb3.size; have HS3 := Lib.hid (HS.out.below hb3 hB); have H1a := HS3.out.c1; obtain ⟨A3, c3, rfl, -, -, -⟩ := Own.of_row hown3 (Nat.le_refl _)) | (at_builtin; refine wpList_append_any _ rfl (.tmp 24) (.tmp 32) _ rfl w.heap.size 5 i0 _ 1 1 Tryz.underlying68 hi hz0 hz1 hz2 rfl (by omega) (.slice A3 (5 + (txt v.nm).size) c3) (5 + (txt v.nm).size) _ rfl (hown3.alloc _) (w3.heap.size + 1) (some ⟨w3.heap.size, 0, none⟩) 1 1 [.int .u8 (v.P.length : Int)] rfl (reads_new w3 [_] _) (by rw [hH2.out]; exact bc_one _) (by simp only [maxLen]; omega) (by omega) (by simp; omega) ?_; intro v4 w4 hown4 hg4 hat4; have hb4 : Below w.heap.size w w4 := (hb3.alloc hb3.size _).grown hg4 (by simp; omega) (fun j hj => (hown3.lt j hj).1); clear hg4 hat4 H1a HS3; have HS4 := Lib.hid (HS.out.below hb4 hB); have H1b := HS4.out.c1; obtain ⟨n4, A4, c4, rfl, hn4, hown5⟩ := head_row v hH2.out hown4; clear hown3 hown4))
  clear hb3 hb1 hnz hns hs1 hb3s
  go_loopw [3, 40] (fun o i wr => ∃ k n : Nat, ∃ A c, k ≤ v.P.length ∧ i = .int .i64 k ∧ o = .slice A n c ∧ n ≤ 14 + 8 * k ∧ wr.ownsRow w.heap.size 5 1 (.slice A n c) n (Lib.byteCells (headL v ++ pairsL (v.P.take k))) ∧ Below w.heap.size w wr) (fun _ i _ => v.P.length - (intOf i).toNat)
  case atStart => exact ⟨0, n4, A4, c4, Nat.zero_le _, rfl, rfl, by omega, by simpa [pairsL] using hown5, hb4⟩
  case round =>
    obtain ⟨k, n, Ao, co, hk, rfl, rfl, hn, hown, hbr⟩ := hrel
    clear hown5 HS4 H1b hb4
    have HSr := HS.out.below hbr hB
    have hrs := hbr.size
    have G1 := HSr.c1
    by_cases hlt : k < v.P.length
    · obtain ⟨ad, rfl, hab, hcell⟩ := comp_at HSr.r1 hlt
      obtain ⟨hx, hy⟩ := HV.out.b k hlt
      have HR := Lib.hid HSr
      have HE := Lib.hid (pairsL_snoc hlt)
      clear HSr
      generalize (v.P.getD k (0, 0)).1 = x at *
      generalize (v.P.getD k (0, 0)).2 = y at *
      have hbx := bitsN_lt hx
      have hby := bitsN_lt hy
      have HB := fun W => l01Bits_any x hx W
      have HB2 := fun W => l01Bits_any y hy W
      clear hx hy
      generalize bitsN x = bx at *
      generalize bitsN y = by_ at *
      have HW := l07Word_any w.heap.size n bx Ao co _ wr hown hrs hbx (by omega)
      clear hown
      go_wp2_with fail
      (with_reducible refine (HB _).mono ?_)
      rintro e w5 ⟨rfl, rfl⟩
      clear HB
      go_wp2_with fail
      (with_reducible refine HW.mono ?_)
      rintro e w5 ⟨A5, c5, rfl, hown5, hb5⟩
      clear HW
      have hbr5 := hbr.trans hb5
      have hrs5 := hbr5.size
      have HS5 := HS.out.below hbr5 hB
      have G2 := HS5.c1
      have hcell5 : w5.cell? (ad.add k) = some (.complex .f32 x y) := (hb5.cell (by rw [block_of_add]; omega)).trans hcell
      have HW := l07Word_any w.heap.size (n + 4) by_ A5 c5 _ w5 hown5 hrs5 hby (by omega)
      clear hown5 hcell HS5 G1
      go_wp2_with fail
      (with_reducible refine (HB2 _).mono ?_)
      rintro e w6 ⟨rfl, rfl⟩
      clear HB2
      go_wp2_with fail
      (with_reducible refine HW.mono ?_)
      rintro e w6 ⟨A6, c6, rfl, hown6, hb6⟩
      clear HW
      have hbr6 := hbr5.trans hb6
      have hx6 : Lib.byteCells (headL v ++ pairsL (v.P.take k)) ++ Lib.byteCells (le4 bx) ++ Lib.byteCells (le4 by_) = Lib.byteCells (headL v ++ pairsL (v.P.take (k + 1))) := by
        rw [HE.out, ← bc_append, ← bc_append]; simp
      rw [hx6] at hown6
      clear hx6 HE
      go_wp2
      go_roundw
      case rel => exact ⟨k + 1, n + 4 + 4, A6, c6, by omega, by go_num, rfl, by omega, hown6, hbr6⟩
      case measure => simp [intOf]; omega
    · have hfull : v.P.take k = v.P := List.take_of_length_le (by omega)
      rw [hfull] at hown
      clear hfull
      have hn2 : n ≤ 150 := by omega
      clear hn8
      have G2 := HSr.c2
      have hH3 := Lib.hid (bc_u8 v.W.length (by omega))
      have hwu : (v.W.length : Int) < 256 := by omega
      clear HSr
      go_wp2_with (at_builtin; refine wpList_append_any _ rfl (.tmp 68) (.tmp 76) _ rfl w.heap.size 5 i0 _ 1 1 Tryz.underlying68 hi hz0 hz1 hz2 rfl (by omega) (.slice Ao n co) n _ rfl (hown.alloc _) (wr.heap.size + 1) (some ⟨wr.heap.size, 0, none⟩) 1 1 [.int .u8 (v.W.length : Int)] rfl (reads_new wr [_] _) (by rw [hH3.out]; exact bc_one _) (by simp only [maxLen]; omega) (by omega) (by simp; omega) ?_; intro v7 w7 hown7 hg7 hat7; have hb7 : Below w.heap.size w w7 := (hbr.alloc hbr.size _).grown hg7 (by simp; omega) (fun j hj => (hown.lt j hj).1); clear hg7 hat7 hown G1 G2; have HS7 := Lib.hid (HS.out.below hb7 hB); have G7 := HS7.out.c2; obtain ⟨A7, c7, rfl, -, -, -⟩ := Own.of_row hown7 (Nat.le_refl _))
      rw [hH3.out, ← bc_append, List.append_assoc] at hown7
      clear hbr hrs hH3
      go_loopw [3, 84] (fun o i wr => ∃ k m : Nat, ∃ A c, k ≤ v.W.length ∧ i = .int .i64 k ∧ o = .slice A m c ∧ m ≤ 151 + 4 * k ∧ wr.ownsRow w.heap.size 5 1 (.slice A m c) m (Lib.byteCells (headL v ++ pairsL v.P ++ UInt8.ofNat v.W.length :: termsL (v.W.take k))) ∧ Below w.heap.size w wr) (fun _ i _ => v.W.length - (intOf i).toNat)
      case atStart => exact ⟨0, n + 1, A7, c7, Nat.zero_le _, rfl, rfl, by omega, by simpa [termsL] using hown7, hb7⟩
      case round =>
        obtain ⟨k2, m, Ap, cp, hk2, rfl, rfl, hm, hown, hbr⟩ := hrel
        clear hown7 HS7 G7 hb7
        have HSr := HS.out.below hbr hB
        have hrs := hbr.size
        have G1 := HSr.c2
        have hp0 : headL v ++ pairsL v.P ++ UInt8.ofNat v.W.length :: termsL (v.W.take k2) ≠ [] := by simp
        by_cases hlt2 : k2 < v.W.length
        · obtain ⟨ad, rfl, hab, hcell⟩ := int_at HSr.r2 hlt2
          obtain ⟨hx, hy⟩ := HV.out.t k2 hlt2
          have HE := Lib.hid (termsL_snoc hlt2)
          clear HSr
          generalize v.W.getD k2 0 = x at *
          have HW := l07Word_any w.heap.size m (x + 2147483648).toNat Ap cp _ wr hown hrs (by omega) (by omega)
          rw [Int.toNat_of_nonneg (by omega)] at HW
          clear hown hp0
          go_wp2_with fail
          (with_reducible refine HW.mono ?_)
          rintro e w8 ⟨A8, c8, rfl, hown8, hb8⟩
          clear HW
          have hbr8 := hbr.trans hb8
          have hx8 : Lib.byteCells (headL v ++ pairsL v.P ++ UInt8.ofNat v.W.length :: termsL (v.W.take k2)) ++ Lib.byteCells (le4 (x + 2147483648).toNat) = Lib.byteCells (headL v ++ pairsL v.P ++ UInt8.ofNat v.W.length :: termsL (v.W.take (k2 + 1))) := by
            rw [HE.out, ← bc_append]; simp
          rw [hx8] at hown8
          clear hx8 HE
          go_wp2
          go_roundw
          case rel => exact ⟨k2 + 1, m + 4, A8, c8, by omega, by go_num, rfl, by omega, hown8, hbr8⟩
          case measure => simp [intOf]; omega
        · have hfull : v.W.take k2 = v.W := List.take_of_length_le (by omega)
          rw [hfull] at hown hp0
          have hbody : headL v ++ pairsL v.P ++ UInt8.ofNat v.W.length :: termsL v.W = bodyL v := rfl
          rw [hbody] at hown hp0
          have hlen : (bodyL v).length = m := by
            have := hown.1
            simpa [bc_len] using this
          have HST : Hid (storeL v = bodyL v ++ le2 (chk 0 (bodyL v))) := rfl
          clear hfull hbody HSr G1
          generalize bodyL v = bd at *
          obtain ⟨ad, ca, e, hcv⟩ := conv_of hp0 hlen hown
          cases e
          have hm2 : m ≤ 300 := by omega
          have HL := Lib.hid hlen
          clear hlen hm
          have HC := fun W => l01Check_any 0 (txt bd) W (by omega) (by rw [txt_size, HL.out]; omega)
          simp only [txt_data, show ((0 : Nat) : Int) = 0 from rfl] at HC
          have hcl := chk_lt (n := 0) (by omega) bd
          generalize chk 0 bd = q at *
          have HB2 := Lib.hid (bc_le2 q (by omega))
          go_wp2_with fail
          (with_reducible refine (HC _).mono ?_)
          rintro e w9 ⟨rfl, rfl⟩
          clear HC hcv
          go_wp2_with (at_builtin; refine wpList_append_any _ rfl (.tmp 102) (.tmp 109) _ rfl w.heap.size 5 i0 _ 1 1 Tryz.underlying68 hi hz0 hz1 hz2 rfl (by omega) (.slice (some ad) m cp) m _ rfl (hown.alloc _) (wr.heap.size + 1) (some ⟨wr.heap.size, 0, none⟩) 2 2 [.int .u8 ((q : Int) % 256), .int .u8 ((q : Int) / 256)] rfl (reads_new wr [_, _] _) (by rw [← HB2.out]; exact bc_one _) (by simp only [maxLen]; omega) (by omega) (by simp; omega) ?_; intro v9 w9 hown9 hg9 hat9; have hb9 : Below w.heap.size w w9 := (hbr.alloc hbr.size _).grown hg9 (by simp; omega) (fun j hj => (hown.lt j hj).1); rw [← HB2.out, ← bc_append] at hown9; obtain ⟨a9, c9, rfl, hcv9⟩ := conv_of (l := bd ++ le2 q) (by simp [le2]) (by rw [List.length_append, HL.out]; rfl) hown9; clear hown9 hg9 hat9 hown)
          go_ret
          exact ⟨by rw [HST.out]; rfl, hb9⟩
end Go.Proofs.YtgfmnolmokpgnaaGreatDoor
