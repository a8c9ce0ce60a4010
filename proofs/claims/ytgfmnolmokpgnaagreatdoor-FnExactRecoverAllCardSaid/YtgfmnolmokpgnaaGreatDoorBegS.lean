/-
  Contract: spec.l07Begin: what bytes begin with.
-/
import Derived.Test.YtgfmnolmokpgnaaGreatDoorStoreS
import Derived.Outline
import Derived.Deep.RegionLaw
import Derived.Deep.RegionHeld3
namespace Go.Proofs.YtgfmnolmokpgnaaGreatDoor
open Go.RowKit

theorem info2 : (Tryz.prog.info? 2).map (fun i => (i.zero, i.size, i.bytes)) = some (some (.int .i64 0), 1, 8) := by kernel_rfl
theorem one_int (x : Int) : ∀ u ∈ [Value.int .i64 x], u.oneCell' = true := by intro u hu; simp at hu; subst hu; rfl
theorem one_cx (x y : Nat) : ∀ u ∈ [Value.complex .f32 x y], u.oneCell' = true := by intro u hu; simp at hu; subst hu; rfl
theorem infoC : (Tryz.prog.info? 55).map (fun i => (i.zero, i.size, i.bytes)) = some (some (.complex .f32 0 0), 1, 8) := by kernel_rfl
theorem sml_of {v : Sav} (h : savB v = true) (hb : ∀ k, k < v.P.length → (v.P.getD k (0, 0)).1 < 4294967296 ∧ (v.P.getD k (0, 0)).2 < 4294967296) : Sml v := by
  rw [savB, Bool.and_eq_true, Bool.and_eq_true] at h
  obtain ⟨h1, h2, h3⟩ := h
  unfold nameB at h1
  unfold polyB at h2
  unfold wholeB at h3
  simp only [Bool.and_eq_true, decide_eq_true_eq] at h1 h2 h3
  refine ⟨h1.1.2, h2.1.1.2, h3.1.1.2, hb, fun k hk => ?_⟩
  have := List.all_eq_true.1 h3.1.2 (v.W.getD k 0) (by rw [List.getD, List.getElem?_eq_getElem hk]; exact List.getElem_mem hk)
  unfold termB at this
  simpa using this
theorem rdP_lt (l : List UInt8) (a n : Nat) : ∀ k, k < (rdP l a n).length → ((rdP l a n).getD k (0, 0)).1 < 4294967296 ∧ ((rdP l a n).getD k (0, 0)).2 < 4294967296 := by
  intro k hk
  rw [rdP_len] at hk
  have : (rdP l a n).getD k (0, 0) = (rd4 l (a + 8 * k), rd4 l (a + 8 * k + 4)) := by simp [rdP, List.getD, hk]
  rw [this]
  exact ⟨rd4_lt _ _, rd4_lt _ _⟩

theorem ownsRow_kp {w w' : World} {base a b : Nat} {e : TypeId} {size : Nat} {v : Value} {n : Nat} {xs : List Value} (h : w.ownsRow base e size v n xs) (hk : Kp a b w w') (hd : b ≤ base) : w'.ownsRow base e size v n xs := by
  obtain ⟨h1, h2⟩ := h
  refine ⟨h1, ?_⟩
  rcases h2 with h2 | ⟨g, cap, cur, hv, hg, hh, r⟩
  · exact .inl h2
  · refine .inr ⟨g, cap, cur, hv, hg, (hk.block g ?_ (by omega)).trans hh, r⟩
    rcases Nat.lt_or_ge g w.heap.size with h | h
    · exact h
    · rw [Array.getElem?_eq_none h] at hh; cases hh
theorem row_set {w : World} {g o : Nat} {e : TypeId} {size : Nat} {v : Value} {n : Nat} {xs : List Value} (h : w.ownsRow (g + 1) e size v n xs) (u : Value) : (w.setCell ⟨g, o, none⟩ u).ownsRow (g + 1) e size v n xs :=
  ownsRow_kp h ((Kp.refl g (g + 1) w).setCell ⟨Nat.le_refl _, by simp⟩ u) (Nat.le_refl _)

theorem Blk.dr {w w' : World} {g : Nat} {t : TypeId} {cs : Array Value} (h : Blk w g t cs) {n : Nat} (e : w' = w.drewN n) : Blk w' g t cs := by rw [e]; exact h.drewN _
theorem below_dr {B : Nat} {a w w' : World} (h : Below B a w) {n : Nat} (e : w' = w.drewN n) : Below B a w' := by rw [e]; exact below_drewN h _
theorem row_dr {w w' : World} {base E m : Nat} {v : Value} {xs : List Value} (h : w.ownsRow base E 1 v m xs) {n : Nat} (e : w' = w.drewN n) : w'.ownsRow base E 1 v m xs :=
  ownsRow_below h (below_dr (Below.refl _ _) e)

theorem Blk.set_ne {w : World} {g b o : Nat} {t : TypeId} {cs : Array Value} (h : Blk w g t cs) (hne : g ≠ b) (u : Value) : Blk (w.setCell ⟨b, o, none⟩ u) g t cs := by
  unfold Blk at h ⊢
  simp only [World.setCell]
  rw [Array.getElem?_modify, if_neg (fun e => hne e.symm)]
  exact h

theorem Own.dr {w w' : World} {lo hi : Nat} {E : TypeId} {A : Option Addr} {xs : List Value} (h : Own w lo hi E A xs) {n : Nat} (e : w' = w.drewN n) : Own w' lo hi E A xs := by rw [e]; exact h.drewN _

theorem own_set {w : World} {b o hi : Nat} {E : TypeId} {A : Option Addr} {xs : List Value} (h : Own w (b + 1) hi E A xs) (v : Value) : Own (w.setCell ⟨b, o, none⟩ v) (b + 1) hi E A xs :=
  h.keep fun g h1 _ _ => Below.heap_setCell _ _ _ _ (by simp; omega)

/-- The two lists of what is saved lie from block lo on and below hi, one behind the other. -/
def SavIn (w : World) (lo hi : Nat) (v : Sav) (A A' : Option Addr) : Prop := ∃ m, lo ≤ m ∧ m ≤ hi ∧ Own w lo m 55 A (cplx v.P) ∧ Own w m hi 2 A' (ints v.W)
def GivesBeg (l : List UInt8) (w : World) (e : Ending) (w' : World) : Prop :=
  ∃ A A' c c', e = .returned (.tuple #[.agg #[.string (txt (begR l).nm), .slice A (begR l).P.length c, .slice A' (begR l).W.length c'], .int .i64 (begM l : Nat)]) ∧ SavIn w' w.heap.size w'.heap.size (begR l) A A' ∧ Below w.heap.size w w'
theorem beg_no {l : List UInt8} {w w' : World} (h : begB l = false) (hb : Below w.heap.size w w') :
    GivesBeg l w (.returned (.tuple #[.agg #[.string ⟨#[]⟩, .slice none 0 0, .slice none 0 0], .int .i64 0])) w' := by
  have h1 : begR l = ⟨[], [], []⟩ := by rw [begR, h]; rfl
  have h2 : begM l = 0 := by rw [begM, h]; rfl
  unfold GivesBeg
  rw [h1, h2]
  exact ⟨none, none, 0, 0, rfl, ⟨w.heap.size, Nat.le_refl _, hb.size, .inl rfl, .inl rfl⟩, hb⟩

theorem own_setL {w : World} {b o lo hi : Nat} {E : TypeId} {A : Option Addr} {xs : List Value} (h : Own w lo hi E A xs) (hlo : b < lo) (v : Value) : Own (w.setCell ⟨b, o, none⟩ v) lo hi E A xs :=
  h.keep fun g h1 _ _ => Below.heap_setCell _ _ _ _ (by simp; omega)
theorem own_set3 {w : World} {b lo hi : Nat} {E : TypeId} {A : Option Addr} {xs : List Value} {u1 u2 u3 : Value} (h : Own w lo hi E A xs) (hlo : b < lo) : Own (((w.setCell ⟨b, 0, none⟩ u1).setCell ⟨b, 1, none⟩ u2).setCell ⟨b, 2, none⟩ u3) lo hi E A xs :=
  own_setL (own_setL (own_setL h hlo u1) hlo u2) hlo u3
theorem beg_yes {l : List UInt8} {w w' : World} {A A' : Option Addr} {c c' n m : Nat} {q : Int} {nm : List UInt8} {P : List (Nat × Nat)} {W : List Int} (h : begB l = true) (hv : begV l = ⟨nm, P, W⟩) (hP : P.length = n) (hW : W.length = m) (hq : ((nC l + 2 : Nat) : Int) = q)
    (hs : SavIn w' w.heap.size w'.heap.size ⟨nm, P, W⟩ A A') (hb : Below w.heap.size w w') : GivesBeg l w (.returned (.tuple #[.agg #[.string (txt nm), .slice A n c, .slice A' m c'], .int .i64 q])) w' := by
  have h1 : begR l = ⟨nm, P, W⟩ := by rw [begR, h]; exact hv
  have h2 : begM l = nC l + 2 := by rw [begM, h]; rfl
  subst hP hW hq
  unfold GivesBeg
  rw [h1, h2]
  exact ⟨A, A', c, c', rfl, hs, hb⟩

set_option maxRecDepth 100000 in
set_option maxHeartbeats 1600000 in
theorem begin_short (s : ByteArray) (w : World) (hn : s.size ≤ 1048576) (h : s.size < 5) :
    Calls Tryz.prog 15 #[.string s] w (GivesBeg s.data.toList w) := by
  have HN := Lib.hid (begB_no (longB_no1 (l := s.data.toList) (by rw [← Lib.size_eq]; exact h)))
  go_enter Tryz.func15, Tryz.ntmps15
  go_wp2
  exact bodyPost_ret (v := .tuple #[.agg #[.string ⟨#[]⟩, .slice none 0 0, .slice none 0 0], .int .i64 0]) (by simp [results, Tryz.results15, go_sem]) rfl (beg_no HN.out (((Below.refl _ _).alloc (Nat.le_refl _) _)))

set_option maxRecDepth 100000 in
set_option maxHeartbeats 1600000 in
theorem begin_long (s : ByteArray) (w : World) (hn : s.size ≤ 1048576) (h : ¬ s.size < 5) :
    Calls Tryz.prog 15 #[.string s] w (GivesBeg s.data.toList w) := by
  have hz : s.data.toList.length = s.size := (Lib.size_eq s).symm
  have HZ := Lib.hid hz
  clear hz
  have k4 : 4 < s.size := by omega
  have hA : nA s.data.toList = 5 + s[4].toNat := by rw [nA, at1_of s 4 k4]
  have hal : s[4].toNat < 256 := s[4].toNat_lt
  obtain ⟨a, ha⟩ : ∃ a, s[4].toNat = a := ⟨_, rfl⟩
  rw [ha] at hA hal
  have HA := Lib.hid hA
  clear hA
  by_cases h2 : s.size < 5 + a + 1
  · have HN := Lib.hid (begB_no (longB_no2 (l := s.data.toList) (by rw [HZ.out, HA.out]; exact h2)))
    have t2 : decide ((s.size : Int) < 5 + (a : Int) + 1) = true := by simp; omega
    go_enter Tryz.func15, Tryz.ntmps15
    go_wp2
    exact bodyPost_ret (v := .tuple #[.agg #[.string ⟨#[]⟩, .slice none 0 0, .slice none 0 0], .int .i64 0]) (by simp [results, Tryz.results15, go_sem]) rfl (beg_no HN.out (((Below.refl _ _).alloc (Nat.le_refl _) _)))
  · have t2 : decide ((s.size : Int) < 5 + (a : Int) + 1) = false := by simp; omega
    have i1 : (5 + (a : Int)).toNat = 5 + a := by omega
    have i2 : 5 + (a : Int) < (s.size : Int) := by omega
    have i3 : 5 + (a : Int) ≤ (s.size : Int) := by omega
    have i4 : (0 : Int) ≤ 5 + (a : Int) := by omega
    have i5 : (5 : Int) ≤ 5 + (a : Int) := by omega
    have k5 : 5 + a < s.size := by omega
    have hA1 : nB s.data.toList = 6 + a + 8 * s[5 + a].toNat := by rw [nB, HA.out, at1_of s _ k5]; omega
    have hbl : s[5 + a].toNat < 256 := s[5 + a].toNat_lt
    obtain ⟨b, hb⟩ : ∃ b, s[5 + a].toNat = b := ⟨_, rfl⟩
    rw [hb] at hA1 hbl
    have HB := Lib.hid hA1
    clear hA1
    by_cases h3 : s.size < 6 + a + 8 * b + 1
    · have HN := Lib.hid (begB_no (longB_no3 (l := s.data.toList) (by rw [HZ.out, HB.out]; exact h3)))
      have t3 : decide ((s.size : Int) < 5 + (a : Int) + 1 + 8 * (b : Int) + 1) = true := by simp; omega
      go_enter Tryz.func15, Tryz.ntmps15
      go_wp2
      exact bodyPost_ret (v := .tuple #[.agg #[.string ⟨#[]⟩, .slice none 0 0, .slice none 0 0], .int .i64 0]) (by simp [results, Tryz.results15, go_sem]) rfl (beg_no HN.out (((Below.refl _ _).alloc (Nat.le_refl _) _).alloc (by simp) _))
    · have t3 : decide ((s.size : Int) < 5 + (a : Int) + 1 + 8 * (b : Int) + 1) = false := by simp; omega
      have HT3 := Lib.hid h3
      obtain ⟨i0, hi, hz0, hz1, hz2⟩ := info_parts infoC
      have hex : s.extract 5 (5 + a) = txt ((s.data.toList.drop 5).take a) := by rw [extract_txt, show 5 + a - 5 = a by omega]
      go_enter Tryz.func15, Tryz.ntmps15
      go_wp2
      go_loopw [4, 6, 7, 8, 9, 10] (fun at_ n _ _ _ _ wr => ∃ k, ∃ A c, k ≤ b ∧ at_ = .int .i64 ((6 + a + 8 * k : Nat) : Int) ∧ n = .int .i64 ((b - k : Nat) : Int) ∧ Blk wr w.heap.size 29 #[.string ⟨#[]⟩, .slice none 0 0, .slice none 0 0] ∧ Blk wr (w.heap.size + 1) 29 #[.string (txt ((s.data.toList.drop 5).take a)), .slice A k c, .slice none 0 0] ∧ wr.ownsRow (w.heap.size + 1 + 1) 55 1 (.slice A k c) k (cplx (rdP s.data.toList (6 + a) k)) ∧ Below w.heap.size w wr) (fun _ n _ _ _ _ _ => (intOf n).toNat)
      case atStart =>
        refine ⟨0, none, 0, Nat.zero_le _, by go_num, by go_num, ?_, ?_, World.ownsRow_nil _ _ _ _, ((Below.refl _ _).alloc (Nat.le_refl _) _).alloc (by simp) _⟩
        · exact (Below.heap_alloc _ _ _ (by simp)).trans (heap_alloc_new w _)
        · have := heap_alloc_new (w.alloc (.cells #[.string ⟨#[]⟩, .slice none 0 0, .slice none 0 0] 29)) (.cells #[.string (txt ((s.data.toList.drop 5).take a)), .slice none 0 0, .slice none 0 0] 29)
          unfold Blk
          rw [← this]
          simp
      case round =>
        obtain ⟨k, A, c, hk, rfl, rfl, hB1, hB2, hown, hbr⟩ := hrel
        clear t2 t3 i1 i2 i3 i4 i5 hex ha hb
        have hrs := hbr.size
        have hl2 := hB2.lt
        by_cases hlt : k < b
        · have p1 : decide ((0 : Int) < ((b - k : Nat) : Int)) = true := by simp; omega
          have hsn := rdP_snoc s.data.toList (6 + a) k
          have hqn : 6 + a + 8 * (k + 1) = 6 + a + 8 * k + 8 := by omega
          have hqm : 6 + a + 8 * k + 9 ≤ s.size := by have := HT3.out; omega
          have HQN := Lib.hid hqn
          have hnn : ((b - k : Nat) : Int) - 1 = ((b - (k + 1) : Nat) : Int) := by omega
          have HNN := Lib.hid hnn
          have hn1 : (1 : Int) ≤ ((b - k : Nat) : Int) := by omega
          have hn2 : ((b - k : Nat) : Int) ≤ 256 := by omega
          clear hqn hnn
          generalize 6 + a + 8 * k = q at *
          generalize b - k = nn at *
          have HSN := Lib.hid hsn
          clear hsn
          have j1 : (q : Int) + 4 ≤ (s.size : Int) := by omega
          have j2 : (q : Int) + 8 ≤ (s.size : Int) := by omega
          have j3 : (0 : Int) ≤ (q : Int) + 4 := by omega
          have j4 : (q : Int) + 4 ≤ (q : Int) + 8 := by omega
          have j5 : ((q : Int) + 4).toNat = q + 4 := by omega
          have j6 : ((q : Int) + 8).toNat = q + 8 := by omega
          have HR1 := fun W => l07Read_any (s.extract q (q + 4)) W (by rw [ByteArray.size_extract]; omega)
          rw [rd4_ext s q] at HR1
          have HR2 := fun W => l07Read_any (s.extract (q + 4) (q + 4 + 4)) W (by rw [ByteArray.size_extract]; omega)
          rw [rd4_ext s (q + 4)] at HR2
          have hx := rd4_lt s.data.toList q
          have hy := rd4_lt s.data.toList (q + 4)
          generalize rd4 s.data.toList q = x at *
          generalize rd4 s.data.toList (q + 4) = y at *
          have HF1 := fun W => fromBitsS_any x hx W
          have HF2 := fun W => fromBitsS_any y hy W
          go_wp2_with fail
          (with_reducible refine (HR1 _).mono ?_)
          rintro e w3 ⟨rfl, n1, hw3⟩
          have hC1 := hB1.dr hw3
          have hC2 := hB2.dr hw3
          have hown3 := row_dr hown hw3
          have hbr3 := below_dr hbr hw3
          clear hw3 hB1 hB2 hown hbr HR1 hrs hl2
          go_wp2_with fail
          (with_reducible refine (HF1 _).mono ?_)
          rintro e w4 ⟨rfl, rfl⟩
          clear HF1
          go_wp2_with fail
          (with_reducible refine (HR2 _).mono ?_)
          rintro e w5 ⟨rfl, n2, hw5⟩
          have hD1 := hC1.dr hw5
          have hD2 := hC2.dr hw5
          have hown5 := row_dr hown3 hw5
          have hbr5 := below_dr hbr3 hw5
          clear hw5 hC1 hC2 hown3 hbr3 HR2
          go_wp2_with fail
          (with_reducible refine (HF2 _).mono ?_)
          rintro e w6 ⟨rfl, rfl⟩
          clear HF2
          have c1 : w5.cell? ⟨w.heap.size + 1, 1, none⟩ = some (.slice A k c) := hD2.cell 1
          have hl5 := hD2.lt
          have hs5 := hbr5.size
          go_wp2_with (at_builtin; refine wpList_append_any _ rfl (.tmp 78) (.tmp 82) _ rfl (w.heap.size + 1 + 1) 55 i0 _ 1 8 Tryz.underlying22 hi hz0 hz1 hz2 rfl (by omega) (.slice A k c) k _ rfl (hown5.alloc _) (w5.heap.size + 1) (some ⟨w5.heap.size, 0, none⟩) 1 1 [.complex .f32 x y] rfl (reads_new w5 [_] _) (one_cx x y) (by simp only [maxLen]; omega) (by omega) (by simp; omega) ?_; intro v7 w7 hown7 hg7 hat7; have hb7 : Below (w.heap.size + 1 + 1) w5 w7 := ((Below.refl _ _).alloc (by omega) _).grown hg7 (by simp; omega) (fun j hj => (hown5.lt j hj).1); have hE1 := hD1.below hb7 (by omega); have hE2 := hD2.below hb7 (by omega); have hbr7 := hbr5.trans (hb7.mono (by omega)); clear hg7 hat7 hown5 c1 hD1 hD2; obtain ⟨A7, c7, rfl, -, -, -⟩ := Own.of_row hown7 (Nat.le_refl _); have f1 := hE2.frozen 1; have c1 : w7.cell? ⟨w.heap.size + 1, 1, none⟩ = _ := hE2.cell 1)
          have hrel : cplx (rdP s.data.toList (6 + a) k) ++ [.complex .f32 x y] = cplx (rdP s.data.toList (6 + a) (k + 1)) := by
            rw [HSN.out]; simp [cplx]
          rw [hrel] at hown7
          clear hrel HSN
          go_roundw
          case rel => exact ⟨k + 1, A7, c7, by omega, by rw [HQN.out]; go_num, by rw [HNN.out], hE1.set_ne (by omega) _, hE2.set_ 1 _, row_set hown7 _, hbr7.setCell (by simp) _⟩
          case measure => simp [intOf]; omega
        · obtain rfl : k = b := by omega
          have hn0 : ((k - k : Nat) : Int) = 0 := by omega
          rw [hn0]
          clear hn0 hlt hk
          have k6 : 6 + a + 8 * k < s.size := by have := HT3.out; omega
          have hA2 : nC s.data.toList = 6 + a + 8 * k + 1 + 4 * s[6 + a + 8 * k].toNat := by rw [nC, HB.out, at1_of s _ k6]
          have hdl : s[6 + a + 8 * k].toNat < 256 := s[6 + a + 8 * k].toNat_lt
          obtain ⟨d, hd⟩ : ∃ d, s[6 + a + 8 * k].toNat = d := ⟨_, rfl⟩
          rw [hd] at hA2 hdl
          have HC := Lib.hid hA2
          have HK := Lib.hid hbl
          clear hA2 h2 h3 hbl hal
          have ht0 : 6 + a + 8 * k ≤ 1048576 := by omega
          have c1 : wr.cell? ⟨w.heap.size + 1, 1, none⟩ = some (.slice A k c) := hB2.cell 1
          have HRP : Hid (begV s.data.toList = ⟨(s.data.toList.drop 5).take a, rdP s.data.toList (6 + a) k, rdW s.data.toList (6 + a + 8 * k + 1) d⟩) := by
            show _ = _
            have ha4 : at1 s.data.toList 4 = a := by have := HA.out; unfold nA at this; omega
            have hb4 : at1 s.data.toList (nA s.data.toList) = k := by have := HB.out; unfold nB at this; rw [HA.out] at this ⊢; omega
            have hd4 : at1 s.data.toList (nB s.data.toList) = d := by have := HC.out; unfold nC at this; rw [HB.out] at this ⊢; omega
            rw [begV, ha4, hb4, hd4, HA.out, HB.out, show 5 + a + 1 = 6 + a by omega]
          generalize hm0 : 6 + a + 8 * k = m0 at *
          clear hm0
          by_cases h4 : s.size < m0 + 1 + 4 * d + 2
          · have HN := Lib.hid (begB_no (longB_no4 (l := s.data.toList) (by rw [HZ.out, HC.out]; exact h4)))
            have t4 : decide ((s.size : Int) < (m0 : Int) + 1 + 4 * (d : Int) + 2) = true := by simp; omega
            have z1 : wr.cell? ⟨w.heap.size, 0, none⟩ = _ := hB1.cell 0
            have z2 : wr.cell? ⟨w.heap.size, 1, none⟩ = _ := hB1.cell 1
            have z3 : wr.cell? ⟨w.heap.size, 2, none⟩ = _ := hB1.cell 2
            have f1 := hB1.frozen 0
            have f2 := hB1.frozen 1
            have f3 := hB1.frozen 2
            go_wp2
            refine bodyPost_ret (v := .tuple #[.agg #[.string ⟨#[]⟩, .slice none 0 0, .slice none 0 0], .int .i64 0]) (by simp [results, Tryz.results15, go_sem, z1, z2, z3]) rfl (beg_no HN.out ?_)
            exact ((hbr.setCell (Nat.le_refl _) _).setCell (Nat.le_refl _) _).setCell (Nat.le_refl _) _
          · have t4 : decide ((s.size : Int) < (m0 : Int) + 1 + 4 * (d : Int) + 2) = false := by simp; omega
            have HT4 := Lib.hid h4
            obtain ⟨j0, gi, gz0, gz1, gz2⟩ := info_parts info2
            obtain ⟨A', c', e', -, -, hOP⟩ := Own.of_row hown (Nat.le_refl _)
            cases e'
            clear hown c1
            obtain ⟨M, hM⟩ : ∃ M, wr.heap.size = M := ⟨_, rfl⟩
            rw [hM] at hOP hl2 hrs
            go_wp2
            go_loopw [4, 6] (fun at_ n wr2 => ∃ k2, ∃ A2 c2, k2 ≤ d ∧ at_ = .int .i64 ((m0 + 1 + 4 * k2 : Nat) : Int) ∧ n = .int .i64 ((d - k2 : Nat) : Int) ∧ Blk wr2 w.heap.size 29 #[.string ⟨#[]⟩, .slice none 0 0, .slice none 0 0] ∧ Blk wr2 (w.heap.size + 1) 29 #[.string (txt ((s.data.toList.drop 5).take a)), .slice A k c, .slice A2 k2 c2] ∧ Own wr2 (w.heap.size + 1 + 1) M 55 A (cplx (rdP s.data.toList (6 + a) k)) ∧ wr2.ownsRow M 2 1 (.slice A2 k2 c2) k2 (ints (rdW s.data.toList (m0 + 1) k2)) ∧ Below w.heap.size w wr2 ∧ M ≤ wr2.heap.size) (fun _ n _ => (intOf n).toNat)
            case atStart => exact ⟨0, none, 0, Nat.zero_le _, by go_num, by go_num, hB1, hB2, hOP, World.ownsRow_nil _ _ _ _, hbr, by omega⟩
            case round =>
              obtain ⟨k2, A2, c2, hk2, rfl, rfl, hC1, hC2, hOP2, hown, hbr2, hMs⟩ := hrel
              clear hB1 hB2 hOP hbr t4 h4 hd
              by_cases hlt2 : k2 < d
              · have p1 : decide ((0 : Int) < ((d - k2 : Nat) : Int)) = true := by simp; omega
                have HSN := Lib.hid (rdW_snoc s.data.toList (m0 + 1) k2)
                have HQN : Hid (m0 + 1 + 4 * (k2 + 1) = m0 + 1 + 4 * k2 + 4) := by show _ = _; omega
                have hqm : m0 + 1 + 4 * k2 + 6 ≤ s.size := by have := HT4.out; omega
                have HNN : Hid (((d - k2 : Nat) : Int) - 1 = ((d - (k2 + 1) : Nat) : Int)) := by show _ = _; omega
                have hn1 : (1 : Int) ≤ ((d - k2 : Nat) : Int) := by omega
                have hn2 : ((d - k2 : Nat) : Int) ≤ 256 := by omega
                generalize m0 + 1 + 4 * k2 = q at *
                generalize d - k2 = nn at *
                have j1 : (q : Int) + 4 ≤ (s.size : Int) := by omega
                have j3 : (0 : Int) ≤ (q : Int) + 4 := by omega
                have j4 : (q : Int) ≤ (q : Int) + 4 := by omega
                have j5 : ((q : Int) + 4).toNat = q + 4 := by omega
                have HR1 := fun W => l07Read_any (s.extract q (q + 4)) W (by rw [ByteArray.size_extract]; omega)
                rw [rd4_ext s q] at HR1
                have hx := rd4_lt s.data.toList q
                generalize rd4 s.data.toList q = x at *
                have hqw : IntKind.i64.wrap ((q : Int) + 4) = (q : Int) + 4 := IntWalk.i64_in _ (by omega)
                have hxw : IntKind.i64.wrap ((x : Int) - 2147483648) = (x : Int) - 2147483648 := IntWalk.i64_in _ (by omega)
                clear hx
                have c1 : wr.cell? ⟨w.heap.size + 1, 2, none⟩ = some (.slice A2 k2 c2) := hC2.cell 2
                go_wp2_with fail
                go_region_law (first | (go_simp; go_at_call 29; (with_reducible refine (HR1 _).mono ?_); rintro e w5 ⟨rfl, n2, hw5⟩; have hD1 := Blk.dr (w := wr.drew) hC1 hw5; have hD2 := Blk.dr (w := wr.drew) hC2 hw5; have hown5 := row_dr (w := wr.drew) hown hw5; have hbr5 := below_dr (below_drew hbr2) hw5; have hOP5 := Own.dr (w := wr.drew) hOP2 hw5; have HMS5 : Hid (M ≤ w5.heap.size) := (by show _; rw [hw5]; exact hMs); have c3 : w5.cell? ⟨w.heap.size + 1, 2, none⟩ = some (.slice A2 k2 c2) := hD2.cell 2; have c4 : ∀ o : Obj, (w5.alloc o).cell? ⟨w.heap.size + 1, 2, none⟩ = some (.slice A2 k2 c2) := (fun o => (show Blk (w5.alloc o) _ _ _ from (Below.heap_alloc _ _ _ hD2.lt).trans hD2).cell 2); clear hw5) | (refine step_append_any _ rfl (.tmp 109) (.tmp 117) _ rfl M 2 j0 _ 1 8 Tryz.underlying25 gi gz0 gz1 gz2 rfl (by omega) (.slice A2 k2 c2) k2 _ rfl (hown5.alloc _) (w5.heap.size + 1) (some ⟨w5.heap.size, 0, none⟩) 1 1 [.int .i64 ((x : Int) - 2147483648)] rfl (reads_new w5 [_] _) (one_int _) (by simp only [maxLen]; omega) (by omega) (by simp; have := HMS5.out; omega) ?_; intro v7 w7 hown7 hg7 hat7; have hb7 : Below M w5 w7 := ((Below.refl _ _).alloc HMS5.out _).grown hg7 (by simp; have := HMS5.out; omega) (fun j hj => (hown5.lt j hj).1); have hE1 := hD1.below hb7 (by omega); have hE2 := hD2.below hb7 (by omega); have hbr7 := hbr5.trans (hb7.mono (by omega)); have hOP7 := hOP5.below hb7 (Nat.le_refl _); clear hg7 hat7; obtain ⟨A7, c7, rfl, -, -, -⟩ := Own.of_row hown7 (Nat.le_refl _); have f7 := hE2.frozen 2; have c7' : w7.cell? ⟨w.heap.size + 1, 2, none⟩ = _ := hE2.cell 2; have hM7 : Hid (M ≤ w7.heap.size) := Nat.le_trans HMS5.out hb7.size))
                all_goals
                  have hrel : ints (rdW s.data.toList (m0 + 1) k2) ++ [.int .i64 ((x : Int) - 2147483648)] = ints (rdW s.data.toList (m0 + 1) (k2 + 1)) := by
                    rw [HSN.out]; simp [ints]
                  rw [hrel] at hown7
                  clear hrel HSN hown5 hD1 hD2 c3 c4 c1 hOP5 hown hC1 hC2 hOP2 hb7 HR1
                  have hM8 := hM7.out
                  go_wp2
                  go_roundw
                  case rel => exact ⟨k2 + 1, A7, c7, by omega, by rw [HQN.out]; go_num, by rw [HNN.out], hE1.set_ne (by omega) _, hE2.set_ 2 _, own_set hOP7 _, ownsRow_kp hown7 ((Kp.refl (w.heap.size + 1) (w.heap.size + 1 + 1) w7).setCell ⟨Nat.le_refl _, by simp⟩ _) (by omega), hbr7.setCell (by simp) _, by simpa [World.setCell] using hM8⟩
                  case measure => simp [intOf]; omega
              · obtain rfl : k2 = d := by omega
                have hn0 : ((k2 - k2 : Nat) : Int) = 0 := by omega
                rw [hn0]
                obtain ⟨A', c', e', -, -, hOW⟩ := Own.of_row hown (Nat.le_refl _)
                cases e'
                clear hn0 hlt2 hk2 hown
                have hsav : SavAt wr (w.heap.size + 1) ⟨(s.data.toList.drop 5).take a, rdP s.data.toList (6 + a) k, rdW s.data.toList (m0 + 1) k2⟩ A A2 c c2 wr.heap.size :=
                  ⟨hC2.cell 0, by rw [rdP_len]; exact hC2.cell 1, by rw [rdW_len]; exact hC2.cell 2, hOP2.reads' hMs (by simp), hOW.reads' (Nat.le_refl _) (by simp)⟩
                have hnml : ((s.data.toList.drop 5).take a).length ≤ 1048576 := by rw [List.length_take]; omega
                have HSV := fun W (hW : Below wr.heap.size wr W) => l07Saved_any _ _ A A2 c c2 _ W (hsav.below hW (Nat.le_refl _)) hW.size hnml (by rw [rdP_len]; have := HK.out; omega) (by rw [rdW_len]; omega)
                have HBits := Lib.hid (rdP_lt s.data.toList (6 + a) k)
                have HVE : Hid (begV s.data.toList = _) := HRP.out
                generalize hv : (⟨(s.data.toList.drop 5).take a, rdP s.data.toList (6 + a) k, rdW s.data.toList (m0 + 1) k2⟩ : Sav) = v at *
                have HVV := Lib.hid hv
                clear hv
                have hdr : Below wr.heap.size wr wr.drew := below_drew (Below.refl _ _)
                have htr : ∀ W W' : World, Below wr.heap.size wr W → Below W.heap.size W W' → Below wr.heap.size wr W' := fun W W' h h' => h.trans (h'.mono h.size)
                have p1 : decide ((0 : Int) < 0) = false := by simp
                cases hsb : savB v with
                | false =>
                  have HN := Lib.hid (begB_no2 (l := s.data.toList) (by rw [HVE.out]; exact hsb))
                  simp only [hsb] at HSV
                  clear hsb
                  go_wp2_with fail
                  have HQ : ∀ n, Calls Tryz.prog 30 #[.pointer (some ⟨w.heap.size + 1, 0, none⟩)] (wr.drewN n) fun e w' => e = .returned (.bool false) ∧ ∃ m, w' = (wr.drewN n).drewN m := fun n => HSV (wr.drewN n) (below_drewN (Below.refl _ _) n)
                  clear HSV
                  have z1 : wr.cell? ⟨w.heap.size, 0, none⟩ = _ := hC1.cell 0
                  have z2 : wr.cell? ⟨w.heap.size, 1, none⟩ = _ := hC1.cell 1
                  have z3 : wr.cell? ⟨w.heap.size, 2, none⟩ = _ := hC1.cell 2
                  have f1 := hC1.frozen 0
                  have f2 := hC1.frozen 1
                  have f3 := hC1.frozen 2
                  go_quiet ((go_at_call 30; exact Calls.quiet_of (HQ _)))
                  go_wp2
                  refine bodyPost_ret (v := .tuple #[.agg #[.string ⟨#[]⟩, .slice none 0 0, .slice none 0 0], .int .i64 0]) (by simp [results, Tryz.results15, go_sem, z1, z2, z3]) rfl (beg_no HN.out ?_)
                  exact (((below_drewN hbr2 nq).setCell (Nat.le_refl _) _).setCell (Nat.le_refl _) _).setCell (Nat.le_refl _) _
                | true =>
                  have hbits : ∀ k, k < v.P.length → (v.P.getD k (0, 0)).1 < 4294967296 ∧ (v.P.getD k (0, 0)).2 < 4294967296 := by rw [← HVV.out]; exact HBits.out
                  have hsml := sml_of hsb hbits
                  have HST := fun W (hW : Below wr.heap.size wr W) => l07Store_any _ v A A2 c c2 _ W (hsav.below hW (Nat.le_refl _)) hW.size hsml
                  have hlong := longB_yes (l := s.data.toList) (by rw [HZ.out, HA.out]; omega) (by rw [HZ.out, HB.out]; omega) (by rw [HZ.out, HC.out]; have := HT4.out; omega)
                  have HSB : Hid (savB v = true) := hsb
                  simp only [hsb] at HSV
                  have hq6 : m0 + 1 + 4 * k2 + 2 ≤ s.size := by have := HT4.out; omega
                  have HLG := Lib.hid hlong
                  clear hsb hbits hsml hlong
                  generalize hq2 : m0 + 1 + 4 * k2 = q2 at *
                  have HQ2 := Lib.hid hq2
                  clear hq2
                  have j1 : (q2 : Int) + 2 ≤ (s.size : Int) := by omega
                  have j2 : (0 : Int) ≤ (q2 : Int) + 2 := by omega
                  have j3 : ((q2 : Int) + 2).toNat = q2 + 2 := by omega
                  have hdd : ∀ W W' : World, Below wr.heap.size wr W → Qt W W' → Below wr.heap.size wr W' := fun W W' h h' => htr W W' h h'.below
                  by_cases heq : storeL v = s.data.toList.take (q2 + 2)
                  · have HY := Lib.hid (begB_yes (l := s.data.toList) HLG.out (by rw [HVE.out]; exact HSB.out) (by rw [HVE.out, HC.out]; exact heq))
                    have hex2 : txt (storeL v) = s.extract 0 (q2 + 2) := by rw [extract_txt, heq]; simp
                    rw [hex2] at HST
                    clear heq hex2
                    have hqw : IntKind.i64.wrap ((q2 : Int) + 2) = (q2 : Int) + 2 := IntWalk.i64_in _ (by omega)
                    go_wp2_with fail
                    go_region_held3 (fun w' => Below wr.heap.size wr w')
                      (first | exact hdr | exact htr _ _ (by assumption) (by assumption) | exact hdd _ _ (by assumption) (by assumption) | trace_state)
                      (first | (go_at_call 30; refine (HSV _ (by assumption)).mono ?_; rintro e w8 ⟨rfl, hb8⟩) | (go_at_call 31; refine (HST _ (by assumption)).mono ?_; rintro e w9 ⟨rfl, hb9⟩))
                    rename_i hheld
                    have hwd := hbr2.trans (hheld.mono hbr2.size)
                    have hD1 := hC1.below hheld hC1.lt
                    have hD2 := hC2.below hheld hC2.lt
                    have z1 : w9.cell? ⟨w.heap.size, 0, none⟩ = _ := hD1.cell 0
                    have z2 : w9.cell? ⟨w.heap.size, 1, none⟩ = _ := hD1.cell 1
                    have z3 : w9.cell? ⟨w.heap.size, 2, none⟩ = _ := hD1.cell 2
                    have f1 := hD1.frozen 0
                    have f2 := hD1.frozen 1
                    have f3 := hD1.frozen 2
                    have y1 : w9.cell? ⟨w.heap.size + 1, 0, none⟩ = _ := hD2.cell 0
                    have y2 : w9.cell? ⟨w.heap.size + 1, 1, none⟩ = _ := hD2.cell 1
                    have y3 : w9.cell? ⟨w.heap.size + 1, 2, none⟩ = _ := hD2.cell 2
                    have hO1 := hOP2.below hheld hMs
                    have hO2 := hOW.below hheld (Nat.le_refl _)
                    have hs9 := hheld.size
                    have HEV : Hid (begV s.data.toList = ⟨(s.data.toList.drop 5).take a, rdP s.data.toList (6 + a) k, rdW s.data.toList (m0 + 1) k2⟩) := by show _ = _; rw [HVE.out, HVV.out]
                    clear hC1 hC2 hD1 hD2 hOP2 hOW hheld hb8 hb9 hdd htr hdr HSV HST hsav hbr2
                    go_wp2
                    refine bodyPost_ret (v := .tuple #[.agg #[.string (txt ((s.data.toList.drop 5).take a)), .slice A k c, .slice A2 k2 c2], .int .i64 ((q2 : Int) + 2)]) (by simp [results, Tryz.results15, go_sem, z1, z2, z3]) rfl ?_
                    refine beg_yes HY.out HEV.out (rdP_len _ _ _) (rdW_len _ _ _) (by rw [HC.out]; rfl) ⟨M, by omega, by simp [World.setCell]; omega, ?_, ?_⟩ (((hwd.setCell (Nat.le_refl _) _).setCell (Nat.le_refl _) _).setCell (Nat.le_refl _) _)
                    · exact (own_set3 hO1 (by omega)).wide (by omega) (Nat.le_refl _)
                    · exact (own_set3 hO2 (by omega)).wide (Nat.le_refl _) (by simp [World.setCell]; omega)
                  · have HN := Lib.hid (begB_no3 (l := s.data.toList) (by rw [HVE.out, HC.out]; exact heq))
                    have hne : ¬ (txt (storeL v)).toList = (s.extract 0 (q2 + 2)).toList := fun h => heq (by
                      rw [Lib.toList_data, Lib.toList_data, txt_data, extract_txt, txt_data] at h
                      simpa using h)
                    have hneb : ((txt (storeL v)).toList == (s.extract 0 (q2 + 2)).toList) = false := by simpa using hne
                    clear hne
                    generalize txt (storeL v) = X at *
                    clear heq
                    have hqw : IntKind.i64.wrap ((q2 : Int) + 2) = (q2 : Int) + 2 := IntWalk.i64_in _ (by omega)
                    go_wp2_with fail
                    go_region_held3 (fun w' => Below wr.heap.size wr w')
                      (first | exact hdr | exact htr _ _ (by assumption) (by assumption) | exact hdd _ _ (by assumption) (by assumption) | trace_state)
                      (first | (go_at_call 30; refine (HSV _ (by assumption)).mono ?_; rintro e w8 ⟨rfl, hb8⟩) | (go_at_call 31; refine (HST _ (by assumption)).mono ?_; rintro e w9 ⟨rfl, hb9⟩))
                    rename_i hheld
                    have hwd := hbr2.trans (hheld.mono hbr2.size)
                    have hD1 := hC1.below hheld hC1.lt
                    have hD2 := hC2.below hheld hC2.lt
                    have z1 : w9.cell? ⟨w.heap.size, 0, none⟩ = _ := hD1.cell 0
                    have z2 : w9.cell? ⟨w.heap.size, 1, none⟩ = _ := hD1.cell 1
                    have z3 : w9.cell? ⟨w.heap.size, 2, none⟩ = _ := hD1.cell 2
                    have f1 := hD1.frozen 0
                    have f2 := hD1.frozen 1
                    have f3 := hD1.frozen 2
                    clear hC1 hC2 hD1 hD2 hOP2 hOW hheld hb8 hb9 hdd htr hdr HSV HST hsav hbr2
                    go_wp2
                    refine bodyPost_ret (v := .tuple #[.agg #[.string ⟨#[]⟩, .slice none 0 0, .slice none 0 0], .int .i64 0]) (by simp [results, Tryz.results15, go_sem, z1, z2, z3]) rfl (beg_no HN.out ?_)
                    exact (((hwd.setCell (Nat.le_refl _) _).setCell (Nat.le_refl _) _).setCell (Nat.le_refl _) _)
end Go.Proofs.YtgfmnolmokpgnaaGreatDoor
