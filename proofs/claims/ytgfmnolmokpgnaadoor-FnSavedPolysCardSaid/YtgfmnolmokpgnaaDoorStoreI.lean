/-
  Contract: impl.store: the bytes of what is saved, by a strings.Builder.
-/
import Derived.Test.YtgfmnolmokpgnaaDoorBytesI

namespace Go.Proofs.YtgfmnolmokpgnaaDoor
open Go.RowKit

theorem isf_below {T e : TypeId} {B b : Nat} {bs : List Value} {w w' : World} (h : Lib.IsBuilderF T e B b bs w) (hb : Below w.heap.size w w') : Lib.IsBuilderF T e B b bs w' := by
  have step : ∀ {p : Value}, Lib.BuilderAtF T e B b p bs w → Lib.BuilderAtF T e B b p bs w' := fun {p} h => by
    obtain ⟨h1, v, h2, ⟨h5, h6⟩, h4⟩ := h
    refine ⟨h1, v, (hb.block b (Array.getElem?_eq_some_iff.1 h2).1).trans h2, ⟨h5, ?_⟩, h4⟩
    rcases h6 with h6 | ⟨g, cap, cur, fz, e1, hg, hh, r⟩
    · exact .inl h6
    · exact .inr ⟨g, cap, cur, fz, e1, hg, (hb.block g (Array.getElem?_eq_some_iff.1 hh).1).trans hh, r⟩
  rcases h with h | h
  · exact .inl (step h)
  · exact .inr (step h)
theorem isf_new (w : World) (T e : TypeId) (g : Nat) (hg : g = w.heap.size) : Lib.IsBuilderF T e g g [] (w.alloc (.cells #[.pointer none, .slice none 0 0] T)) := by
  subst hg
  exact .inl ⟨Nat.le_refl _, .slice none 0 0, heap_alloc_new w _, World.ownsRowF_nil _ _ _ _, by simp [Value.ownBlock]⟩
theorem conv_one (W : World) (g n : Nat) (hg : g = W.heap.size) (hn : n < 256) :
    (convert 22 9 (.slice (some ⟨g, 0, none⟩) 1 1)).run Tryd.prog (W.alloc (.cells #[.int .u8 (n : Int)] 5)) = .ok (.string (txt [UInt8.ofNat n])) (W.alloc (.cells #[.int .u8 (n : Int)] 5)) := by
  subst hg
  exact run_convert_bytes_back (P := Tryd.prog) (W.alloc (.cells #[.int .u8 (n : Int)] 5)) 22 9 5 ⟨W.heap.size, 0, none⟩ 1 [UInt8.ofNat n] Tryd.underlying22 Tryd.underlying5 Tryd.underlying9 (fun j hj => by
    obtain rfl : j = 0 := by simpa using hj
    have h : (⟨W.heap.size, 0, none⟩ : Addr).add 0 = ⟨W.heap.size, 0, none⟩ := rfl
    rw [h, cell_of_row _ _ 0 _ _ _ (heap_alloc_new W _)]
    simp [Nat.mod_eq_of_lt hn])

theorem wr_any (B b : Nat) (l x : List UInt8) (X : ByteArray) (hX : X = txt x) (W : World) (h : Lib.IsBuilderF 64 5 B b (Lib.byteCells l) W) (hlen : l.length + x.length ≤ 1048576) (hB : B ≤ W.heap.size) :
    Calls Tryd.prog 27 #[.pointer (some ⟨b, 0, none⟩), .string X] W fun e w' => e = .returned (.tuple #[.int .i64 X.size, .nilIface]) ∧ Lib.IsBuilderF 64 5 B b (Lib.byteCells (l ++ x)) w' ∧ Below B W w' := by
  subst hX
  refine (Tryd.Builder_WriteString_f B b (Lib.byteCells l) (txt x) W h (by rw [bc_len, txt_size]; omega) hB).mono ?_
  rintro e w' ⟨rfl, h1, h2⟩
  refine ⟨rfl, .inr ?_, h2⟩
  rw [bc_append]
  rwa [Lib.strCells_eq, txt_data] at h1
theorem by4_any (m : Nat) (hm : m < 4294967296) (w : World) :
    Calls Tryd.prog 32 #[.int .i64 (m : Int), .int .i64 4] w fun e w' => e = .returned (.string (txt (le4 m))) ∧ Below w.heap.size w w' := by
  have h := bytesOf_any m 4 hm (by omega) w
  rw [leK4] at h
  exact h
theorem by2_any (m : Nat) (hm : m < 4294967296) (w : World) :
    Calls Tryd.prog 32 #[.int .i64 (m : Int), .int .i64 2] w fun e w' => e = .returned (.string (txt (le2 m))) ∧ Below w.heap.size w w' := by
  have h := bytesOf_any m 2 hm (by omega) w
  rw [leK2] at h
  exact h
theorem bstr_any (B b : Nat) (l : List UInt8) (w : World) (h : Lib.IsBuilderF 64 5 B b (Lib.byteCells l) w) (hBw : B ≤ w.heap.size) :
    Calls Tryd.prog 28 #[.pointer (some ⟨b, 0, none⟩)] w fun e w' => e = .returned (.string (txt l)) ∧ Lib.IsBuilderF 64 5 B b (Lib.byteCells l) w' ∧ Below B w w' := Tryd.Builder_String_any_f B b l w h hBw
theorem head_txt (v : Sav) : (⟨#[80, 79, 76, 49]⟩ : ByteArray) ++ txt [UInt8.ofNat v.nm.length] ++ txt v.nm ++ txt [UInt8.ofNat v.P.length] = txt (headL v) := by
  rw [show (⟨#[80, 79, 76, 49]⟩ : ByteArray) = txt [80, 79, 76, 49] from rfl, cat_add, cat_add, cat_add]
  simp [headL]

set_option maxRecDepth 100000 in
set_option maxHeartbeats 1600000 in
theorem store_any (v : Sav) (A A' : Option Addr) (c c' B : Nat) (w : World) (hr1 : Reads w B 1 A v.P.length (cplx v.P)) (hr2 : Reads w B 1 A' v.W.length (ints v.W)) (hB : B ≤ w.heap.size) (hv : Sml v) :
    Calls Tryd.prog 18 #[.agg #[.string (txt v.nm), .slice A v.P.length c, .slice A' v.W.length c']] w fun e w' => e = .returned (.string (txt (storeL v))) ∧ Below w.heap.size w w' := by
  have hb0 : Below w.heap.size w (w.alloc (.cells #[.string (txt v.nm), .slice A v.P.length c, .slice A' v.W.length c'] 36)) := (Below.refl _ _).alloc (Nat.le_refl _) _
  have hk0 := blk_new w #[.string (txt v.nm), .slice A v.P.length c, .slice A' v.W.length c'] 36
  have hn8 := hv.n
  have hp17 := hv.p
  have hw17 := hv.w
  have HV := Lib.hid hv
  have hnu : (v.nm.length : Int) < 256 := by omega
  have hpu : (v.P.length : Int) < 256 := by omega
  have hns : (txt v.nm).size = v.nm.length := txt_size _
  have hs1 : ∀ n, (txt [UInt8.ofNat n]).size = 1 := fun n => rfl
  have k1 := fun o o2 => conv_one ((w.alloc o).alloc o2) (w.heap.size + 1 + 1) v.nm.length (by simp) (by omega)
  have k2 := fun o o2 o3 => conv_one (((w.alloc o).alloc o2).alloc o3) (w.heap.size + 1 + 1 + 1) v.P.length (by simp) (by omega)
  clear hv
  go_enter Tryd.func18, Tryd.ntmps18
  go_wp2_with fail
  have hk3 : Blk ((((w.alloc (.cells #[.string (txt v.nm), .slice A v.P.length c, .slice A' v.W.length c'] 36)).alloc (.cells #[.pointer none, .slice none 0 0] 64)).alloc (.cells #[.int .u8 (v.nm.length : Int)] 5)).alloc (.cells #[.int .u8 (v.P.length : Int)] 5)) w.heap.size 36 #[.string (txt v.nm), .slice A v.P.length c, .slice A' v.W.length c'] :=
    (Below.heap_alloc _ _ _ (by simp; omega)).trans ((Below.heap_alloc _ _ _ (by simp; omega)).trans ((Below.heap_alloc _ _ _ (by simp)).trans hk0))
  have hw3 : Below w.heap.size w ((((w.alloc (.cells #[.string (txt v.nm), .slice A v.P.length c, .slice A' v.W.length c'] 36)).alloc (.cells #[.pointer none, .slice none 0 0] 64)).alloc (.cells #[.int .u8 (v.nm.length : Int)] 5)).alloc (.cells #[.int .u8 (v.P.length : Int)] 5)) :=
    ((hb0.alloc hb0.size _).alloc (by simp; omega) _).alloc (by simp; omega) _
  have hi3 : Lib.IsBuilderF 64 5 (w.heap.size + 1) (w.heap.size + 1) (Lib.byteCells []) ((((w.alloc (.cells #[.string (txt v.nm), .slice A v.P.length c, .slice A' v.W.length c'] 36)).alloc (.cells #[.pointer none, .slice none 0 0] 64)).alloc (.cells #[.int .u8 (v.nm.length : Int)] 5)).alloc (.cells #[.int .u8 (v.P.length : Int)] 5)) := by
    have h := isf_new (w.alloc (.cells #[.string (txt v.nm), .slice A v.P.length c, .slice A' v.W.length c'] 36)) 64 5 (w.heap.size + 1) (by simp)
    exact isf_below (isf_below h ((Below.refl _ _).alloc (Nat.le_refl _) _)) ((Below.refl _ _).alloc (Nat.le_refl _) _)
  have HW := wr_any (w.heap.size + 1) (w.heap.size + 1) [] (headL v) _ (head_txt v) _ hi3 (by rw [headL_len]; simp; omega) (by simp)
  clear hi3 k1 k2
  (with_reducible refine HW.mono ?_)
  rintro e w4 ⟨rfl, hi4, hb4⟩
  clear HW
  have hk4 := hk3.below hb4 (by omega)
  have hw4 := hw3.trans (hb4.mono (by omega))
  rw [List.nil_append] at hi4
  clear hk3 hw3 hb4 hk0 hb0 hns hnu
  have c1 : w4.cell? ⟨w.heap.size, 1, none⟩ = some (.slice A v.P.length c) := hk4.cell 1
  have hs4 : ∀ n, (txt (le4 n)).size = 4 := fun n => rfl
  have hl4 := hk4.lt
  go_wp2
  go_loopw [5, 34] (fun _ i wr => ∃ k : Nat, k ≤ v.P.length ∧ i = .int .i64 k ∧ Lib.IsBuilderF 64 5 (w.heap.size + 1) (w.heap.size + 1) (Lib.byteCells (headL v ++ pairsL (v.P.take k))) wr ∧ Blk wr w.heap.size 36 #[.string (txt v.nm), .slice A v.P.length c, .slice A' v.W.length c'] ∧ Below w.heap.size w wr) (fun _ i _ => v.P.length - (intOf i).toNat)
  case atStart => exact ⟨0, Nat.zero_le _, rfl, by simpa [pairsL] using hi4, hk4, hw4⟩
  case round =>
    obtain ⟨k, hk, rfl, hib, hkr, hbr⟩ := hrel
    clear c1 hi4 hk4 hw4 hl4
    have hlr := hkr.lt
    by_cases hlt : k < v.P.length
    · obtain ⟨ad, rfl, hab, hcell⟩ := comp_at (hr1.below (hbr.mono hB)) hlt
      obtain ⟨hx, hy⟩ := HV.out.b k hlt
      have HE := Lib.hid (pairsL_snoc hlt)
      have HL : Hid ((headL v ++ pairsL (v.P.take k)).length + 8 ≤ 1048576) := by
        show _ ≤ _
        have h1 : (v.P.take k).length ≤ 17 := by rw [List.length_take]; omega
        rw [List.length_append, headL_len, pairsL_len]; omega
      generalize (v.P.getD k (0, 0)).1 = x at *
      generalize (v.P.getD k (0, 0)).2 = y at *
      have hbx := bitsN_lt hx
      have hby := bitsN_lt hy
      have HB := fun W => bitsOf_any x hx W
      have HB2 := fun W => bitsOf_any y hy W
      generalize bitsN x = bx at *
      generalize bitsN y = by_ at *
      have HY := fun W => by4_any bx hbx W
      have HY2 := fun W => by4_any by_ hby W
      clear hx hy hbx hby
      go_wp2_with fail
      (with_reducible refine (HB _).mono ?_)
      rintro e w5 ⟨rfl, rfl⟩
      clear HB
      go_wp2_with fail
      (with_reducible refine (HY _).mono ?_)
      rintro e w5 ⟨rfl, hb5⟩
      clear HY
      have hib5 := isf_below hib hb5
      have hkr5 := hkr.below hb5 hkr.lt
      have hbr5 := hbr.trans (hb5.mono hbr.size)
      clear hib hkr hbr hb5
      go_wp2_with fail
      (with_reducible refine (HB2 _).mono ?_)
      rintro e w6 ⟨rfl, rfl⟩
      clear HB2
      go_wp2_with fail
      (with_reducible refine (HY2 _).mono ?_)
      rintro e w6 ⟨rfl, hb6⟩
      clear HY2
      have hib6 := isf_below hib5 hb6
      have hkr6 := hkr5.below hb6 hkr5.lt
      have hbr6 := hbr5.trans (hb6.mono hbr5.size)
      clear hib5 hkr5 hbr5 hb6
      have hl6 := hkr6.lt
      have HWr := wr_any (w.heap.size + 1) (w.heap.size + 1) _ (le4 bx ++ le4 by_) (txt (le4 bx) ++ txt (le4 by_)) (cat_add _ _) w6 hib6 (by have := HL.out; simpa [le4] using this) hl6
      clear hib6
      go_wp2_with fail
      (with_reducible refine HWr.mono ?_)
      rintro e w7 ⟨rfl, hib7, hb7⟩
      clear HWr
      have hkr7 := hkr6.below hb7 (by omega)
      have hbr7 := hbr6.trans (hb7.mono (by omega))
      have hE : headL v ++ pairsL (v.P.take k) ++ (le4 bx ++ le4 by_) = headL v ++ pairsL (v.P.take (k + 1)) := by rw [HE.out]; simp
      rw [hE] at hib7
      clear hE HE HL hkr6 hbr6 hb7
      go_wp2
      go_roundw
      case rel => exact ⟨k + 1, by omega, by go_num, hib7, hkr7, hbr7⟩
      case measure => simp [intOf]; omega
    · have hfull : v.P.take k = v.P := List.take_of_length_le (by omega)
      rw [hfull] at hib
      clear hfull
      have c1 : wr.cell? ⟨w.heap.size, 2, none⟩ = some (.slice A' v.W.length c') := hkr.cell 2
      have hwu : (v.W.length : Int) < 256 := by omega
      have k3 := conv_one wr wr.heap.size v.W.length rfl (by omega)
      have hib2 := isf_below hib ((Below.refl _ _).alloc (o := .cells #[.int .u8 (v.W.length : Int)] 5) (Nat.le_refl _))
      have hkr2 : Blk (wr.alloc (.cells #[.int .u8 (v.W.length : Int)] 5)) _ _ _ := (Below.heap_alloc _ _ _ hkr.lt).trans hkr
      have hbr2 := hbr.alloc (o := .cells #[.int .u8 (v.W.length : Int)] 5) hbr.size
      have HL : Hid ((headL v ++ pairsL v.P).length + 80 ≤ 1048576) := by
        show _ ≤ _
        rw [List.length_append, headL_len, pairsL_len]; omega
      have HWr := wr_any (w.heap.size + 1) (w.heap.size + 1) _ [UInt8.ofNat v.W.length] (txt [UInt8.ofNat v.W.length]) rfl _ hib2 (by have := HL.out; simp only [List.length_cons, List.length_nil]; omega) (by simp; omega)
      clear hib hib2 hbr
      go_wp2_with fail
      (with_reducible refine HWr.mono ?_)
      rintro e w8 ⟨rfl, hib8, hb8⟩
      clear HWr k3 c1 hpu hs1
      have hkr8 := hkr2.below hb8 (by omega)
      have hbr8 := hbr2.trans (hb8.mono (by omega))
      have hl8 := hkr8.lt
      clear hkr hkr2 hbr2 hb8 hlr
      have c2 : w8.cell? ⟨w.heap.size, 2, none⟩ = some (.slice A' v.W.length c') := hkr8.cell 2
      go_wp2
      go_loopw [7, 61] (fun _ i wr => ∃ k2 : Nat, k2 ≤ v.W.length ∧ i = .int .i64 k2 ∧ Lib.IsBuilderF 64 5 (w.heap.size + 1) (w.heap.size + 1) (Lib.byteCells (headL v ++ pairsL v.P ++ UInt8.ofNat v.W.length :: termsL (v.W.take k2))) wr ∧ Blk wr w.heap.size 36 #[.string (txt v.nm), .slice A v.P.length c, .slice A' v.W.length c'] ∧ Below w.heap.size w wr) (fun _ i _ => v.W.length - (intOf i).toNat)
      case atStart => exact ⟨0, Nat.zero_le _, rfl, by simpa [termsL] using hib8, hkr8, hbr8⟩
      case round =>
        obtain ⟨k2, hk2, rfl, hib, hkr, hbr⟩ := hrel
        clear c2 hib8 hkr8 hbr8 hl8
        have hlr := hkr.lt
        have HL2 : Hid ((headL v ++ pairsL v.P ++ UInt8.ofNat v.W.length :: termsL (v.W.take k2)).length + 4 ≤ 1048576 ∧ (headL v ++ pairsL v.P ++ UInt8.ofNat v.W.length :: termsL (v.W.take k2)).length ≤ 1000) := by
          show _ ∧ _
          have h1 : (v.W.take k2).length ≤ 17 := by rw [List.length_take]; omega
          rw [List.length_append, List.length_append, List.length_cons, headL_len, pairsL_len, termsL_len]; omega
        by_cases hlt2 : k2 < v.W.length
        · obtain ⟨ad, rfl, hab, hcell⟩ := int_at (hr2.below (hbr.mono hB)) hlt2
          obtain ⟨hx, hy⟩ := HV.out.t k2 hlt2
          have HE := Lib.hid (termsL_snoc hlt2)
          generalize v.W.getD k2 0 = x at *
          have HY := fun W => by4_any (x + 2147483648).toNat (by omega) W
          rw [Int.toNat_of_nonneg (by omega)] at HY
          generalize hz : (x + 2147483648).toNat = z at *
          clear hz
          go_wp2_with fail
          (with_reducible refine (HY _).mono ?_)
          rintro e w5 ⟨rfl, hb5⟩
          clear HY
          have hib5 := isf_below hib hb5
          have hkr5 := hkr.below hb5 hkr.lt
          have hbr5 := hbr.trans (hb5.mono hbr.size)
          clear hib hkr hbr hb5
          have hl6 := hkr5.lt
          have HWr := wr_any (w.heap.size + 1) (w.heap.size + 1) _ (le4 z) (txt (le4 z)) rfl w5 hib5 HL2.out.1 hl6
          clear hib5
          go_wp2_with fail
          (with_reducible refine HWr.mono ?_)
          rintro e w7 ⟨rfl, hib7, hb7⟩
          clear HWr
          have hkr7 := hkr5.below hb7 (by omega)
          have hbr7 := hbr5.trans (hb7.mono (by omega))
          have hE : headL v ++ pairsL v.P ++ UInt8.ofNat v.W.length :: termsL (v.W.take k2) ++ le4 z = headL v ++ pairsL v.P ++ UInt8.ofNat v.W.length :: termsL (v.W.take (k2 + 1)) := by rw [HE.out]; simp
          rw [hE] at hib7
          clear hE HE HL2 hkr5 hbr5 hb7
          go_wp2
          go_roundw
          case rel => exact ⟨k2 + 1, by omega, by go_num, hib7, hkr7, hbr7⟩
          case measure => simp [intOf]; omega
        · have hfull : v.W.take k2 = v.W := List.take_of_length_le (by omega)
          rw [hfull] at hib HL2
          clear hfull
          have HST : Hid (storeL v = bodyL v ++ le2 (chk 0 (bodyL v))) := rfl
          have hbody : headL v ++ pairsL v.P ++ UInt8.ofNat v.W.length :: termsL v.W = bodyL v := rfl
          rw [hbody] at hib HL2
          clear hbody HL
          generalize bodyL v = bd at *
          have hsz : (txt bd).size ≤ 1000 := by rw [txt_size]; exact HL2.out.2
          have HC := fun W => checkOf_any 0 (txt bd) W (by omega) (by omega)
          simp only [txt_data, show ((0 : Nat) : Int) = 0 from rfl] at HC
          have hcl := chk_lt (n := 0) (by omega) bd
          generalize chk 0 bd = q at *
          have HY := fun W => by2_any q (by omega) W
          have hs2 : ∀ n, (txt (le2 n)).size = 2 := fun n => rfl
          have HS := bstr_any (w.heap.size + 1) (w.heap.size + 1) bd wr hib hlr
          clear hib
          go_wp2_with fail
          (with_reducible refine HS.mono ?_)
          rintro e w5 ⟨rfl, hib5, hb5⟩
          clear HS
          have hkr5 := hkr.below hb5 (by omega)
          have hbr5 := hbr.trans (hb5.mono (by omega))
          have hl5 := hkr5.lt
          clear hkr hbr hb5
          go_wp2_with fail
          (with_reducible refine (HC _).mono ?_)
          rintro e w6 ⟨rfl, rfl⟩
          clear HC
          have HS := bstr_any (w.heap.size + 1) (w.heap.size + 1) bd w5 hib5 hl5
          clear hib5
          go_wp2_with fail
          (with_reducible refine HS.mono ?_)
          rintro e w6 ⟨rfl, hib6, hb6⟩
          clear HS
          have hbr6 := hbr5.trans (hb6.mono (by omega))
          clear hkr5 hbr5 hb6
          go_wp2_with fail
          (with_reducible refine (HY _).mono ?_)
          rintro e w7 ⟨rfl, hb7⟩
          clear HY
          have hbr7 := hbr6.trans (hb7.mono hbr6.size)
          have hfin : Hid (txt bd ++ txt (le2 q) = txt (bd ++ le2 q)) := cat_add _ _
          clear hib6 hb7 hbr6
          go_wp2
          go_ret
          exact ⟨by rw [HST.out, ← hfin.out]; rfl, hbr7⟩
end Go.Proofs.YtgfmnolmokpgnaaDoor
