/-
  The law's own helpers on slices of texts, each by its contract: a comparison (eqStringS), marks (markText, markStringS, heldStringS).
-/
import Derived.Test.YtlcckgpidjneeaaDoorRecS
namespace Go.Proofs.YtlcckgpidjneeaaDoor
open Go.RowKit

/-- The text that marks a place. -/
def mk (k : Nat) : List UInt8 := 109 :: Lib.decDigits k

def dg (u : Nat) : UInt8 := UInt8.ofNat (48 + u % 10)
theorem dg_nat (u : Nat) : (dg u).toNat = 48 + u % 10 := by unfold dg; rw [UInt8.toNat_ofNat']; omega
theorem cat_txt (a b : ByteArray) : (a ++ b).data.toList = a.data.toList ++ b.data.toList := by simp

theorem cat_m (X : ByteArray) : (⟨#[109]⟩ : ByteArray) ++ X = txt (109 :: X.data.toList) := by
  rw [← txt_of (⟨#[109]⟩ ++ X), cat_txt]; rfl

set_option maxRecDepth 100000 in
theorem markText_any (k : Nat) (w : World) (hk : 1 ≤ k) (hk2 : k ≤ 4194304) :
    Calls Tryd.prog 46 #[.int .i64 (k : Int)] w fun e w' => e = .returned (.string (txt (mk k))) ∧ Below w.heap.size w w' := by
  have hl21 := Lib.itoa_length_le (k : Int) (by omega) (by omega)
  rw [Lib.itoa, if_neg (by omega), Int.toNat_natCast] at hl21
  have HL := Lib.hid hl21
  clear hl21
  have hpos : ¬ ((k : Int) ≤ 0) := by omega
  go_enter Tryd.func46, Tryd.ntmps46
  go_wp2
  go_loopw [0, 3] (fun r v wr => ∃ u : Nat, ∃ X : ByteArray, r = .int .i64 (u : Int) ∧ v = .string X ∧ u ≤ 4194304 ∧ Hid (Lib.decDigits k = front u ++ X.data.toList) ∧ Below w.heap.size w wr) (fun r _ _ => (intOf r).toNat)
  case atStart => exact ⟨k, ⟨#[]⟩, rfl, rfl, hk2, (by show _ = _; rw [front, if_neg (by omega)]; simp), Below.refl _ _⟩
  case round =>
    obtain ⟨u, X, rfl, rfl, hu, hD, hbr⟩ := hrel
    by_cases hgo : 0 < u
    · have hN : Hid (Lib.decDigits k = front (u / 10) ++ ((⟨#[dg u]⟩ : ByteArray) ++ X).data.toList) := by
        show _ = _
        rw [hD.out, front_digits (by omega), cat_txt]; simp [dg]
      have hXs : X.size ≤ 21 := by
        have h1 := congrArg List.length hD.out
        have h2 := HL.out
        rw [List.length_append] at h1
        rw [Lib.size_eq]; omega
      have hconv : (convert 60 9 (.slice (some ⟨wr.heap.size, 0, none⟩) 1 1)).run Tryd.prog (wr.alloc (.cells #[.int .u8 (48 + (u : Int) % 10)] 5)) = .ok (.string ⟨#[dg u]⟩) (wr.alloc (.cells #[.int .u8 (48 + (u : Int) % 10)] 5)) := run_convert_bytes_back (P := Tryd.prog) (wr.alloc (.cells #[.int .u8 (48 + (u : Int) % 10)] 5)) 60 9 5 ⟨wr.heap.size, 0, none⟩ 1 [dg u] Tryd.underlying60 Tryd.underlying5 Tryd.underlying9 (fun j hj => by
        have h0 : j = 0 := by simpa using hj
        subst h0
        have h := dg_nat u
        have hc := cell_of_row (wr.alloc (.cells #[.int .u8 (48 + (u : Int) % 10)] 5)) wr.heap.size 0 _ _ _ (heap_alloc_new wr _)
        have ha : (⟨wr.heap.size, 0, none⟩ : Addr).add 0 = ⟨wr.heap.size, 0, none⟩ := by unfold Addr.add; simp
        rw [ha, hc]
        simp only [List.getElem_cons_zero, h]
        rw [show ((48 + u % 10 : Nat) : Int) = 48 + (u : Int) % 10 by omega]
        rfl)
      have hmod : (0 : Int) ≤ (u : Int) % 10 := by omega
      have hgt : ¬ ((u : Int) ≤ 0) := by omega
      go_wp2
      go_roundw
      case rel => exact ⟨u / 10, _, by go_num, rfl, by omega, hN, hbr.alloc hbr.size _⟩
      case measure => simp [intOf]; omega
    · have hu0 : u = 0 := by omega
      have hN : Hid (Lib.decDigits k = X.data.toList) := by
        show _ = _
        rw [hD.out, front, if_pos hu0]; rfl
      have hXs : X.size ≤ 21 := by
        have h2 := HL.out
        rw [hN.out, ← Lib.size_eq] at h2; omega
      subst hu0
      clear hD
      go_wp2
      go_ret
      refine ⟨?_, hbr⟩
      rw [mk, hN.out]
      show Ending.returned (.string (⟨#[109]⟩ ++ X)) = _
      rw [cat_m]

/-- Two slices with the same texts are found equal. -/
theorem eqStringS_any (A A' : Option Addr) (c c' B : Nat) (zs : List (List UInt8)) (w : World) (hr : Reads w B 1 A zs.length (strs zs)) (hr' : Reads w B 1 A' zs.length (strs zs)) (hn : zs.length ≤ 1048577) :
    Calls Tryd.prog 19 #[.slice A zs.length c, .slice A' zs.length c'] w fun e w' => e = .returned (.bool true) ∧ Below w.heap.size w w' := by
  go_enter Tryd.func19, Tryd.ntmps19
  go_wp2
  go_loopw [5] (fun i wr => ∃ k : Nat, k ≤ zs.length ∧ i = .int .i64 k ∧ ∃ n, wr = w.drewN n) (fun i _ => zs.length - (intOf i).toNat)
  case atStart => exact ⟨0, Nat.zero_le _, rfl, 0, rfl⟩
  case round =>
    obtain ⟨k, hk, rfl, n, rfl⟩ := hrel
    by_cases hlt : k < zs.length
    · obtain ⟨ad, rfl, hab, hc1⟩ := str_at hr hlt
      obtain ⟨ad', rfl, hab', hc2⟩ := str_at hr' hlt
      clear hr hr'
      generalize txt (zs.getD k []) = X at *
      go_wp2
      go_quiet (fail)
      go_wp2
      go_roundw
      case rel => exact ⟨k + 1, by omega, by go_num, _, rfl⟩
      case measure => simp [intOf]; omega
    · have hkn : k = zs.length := by omega
      subst hkn
      go_wp2
      go_ret
      exact ⟨rfl, below_drewN (Below.refl _ _) n⟩

/-- The texts that mark a slice. -/
def tmarks (k0 n : Nat) : List (List UInt8) := (List.range n).map fun (j : Nat) => mk (k0 + j)
@[simp] theorem tmarks_len (k0 n : Nat) : (tmarks k0 n).length = n := by simp [tmarks]
theorem tmarks_at {k0 n j : Nat} (h : j < n) : (tmarks k0 n).getD j [] = mk (k0 + j) := by
  simp [tmarks, List.getD, h]

theorem markStringS_any (A : Option Addr) (c lo hi : Nat) (k0 : Nat) (zs : List (List UInt8)) (w : World) (ho : Own w lo hi 9 A (strs zs)) (hn : zs.length ≤ 1048577) (hk0 : 1 ≤ k0) (hk1 : k0 ≤ 2097152) :
    Calls Tryd.prog 22 #[.slice A zs.length c, .int .i64 (k0 : Int)] w fun e w' => e = .returned (.int .i64 ((k0 : Int) + (zs.length : Int))) ∧ Own w' lo hi 9 A (strs (tmarks k0 zs.length)) ∧ Kp lo hi w w' := by
  by_cases hz : zs.length = 0
  · obtain rfl : zs = [] := List.eq_nil_of_length_eq_zero hz
    go_enter Tryd.func22, Tryd.ntmps22
    go_wp2
    refine wp_loop_rounds 1 ?_
    rw [rounds_succ]
    go_wp2
    go_ret
    exact ⟨by simp, .inl rfl, Kp.refl _ _ _⟩
  · rcases ho with h | ⟨g, cs0, rfl, h1, h2, h3, h4, h5⟩
    · exact absurd (by simpa [strs] using h) hz
    · rw [strs_len] at h4
      have hb0 : Blk w g 9 cs0 := h3
      clear h3 h5
      go_enter Tryd.func22, Tryd.ntmps22
      go_wp2
      go_loopw [1, 5] (fun q i wr => ∃ k : Nat, k ≤ zs.length ∧ i = .int .i64 k ∧ q = .int .i64 ((k0 : Int) + (k : Int)) ∧ (∃ cs, Blk wr g 9 cs ∧ cs.size = cs0.size ∧ ∀ j, j < k → cs[j]? = some (.string (txt (mk (k0 + j))))) ∧ Kp lo hi w wr) (fun _ i _ => zs.length - (intOf i).toNat)
      case atStart => exact ⟨0, Nat.zero_le _, rfl, by go_num, ⟨cs0, hb0, rfl, fun j hj => by omega⟩, Kp.refl _ _ _⟩
      case round =>
        obtain ⟨k, hk, rfl, rfl, ⟨cs, hblk, hsz, hcs⟩, hkp⟩ := hrel
        by_cases hlt : k < zs.length
        · have HM := fun W => markText_any (k0 + k) W (by omega) (by omega)
          rw [show ((k0 + k : Nat) : Int) = (k0 : Int) + (k : Int) by omega] at HM
          obtain ⟨u, hc4⟩ : ∃ u, cs[k]? = some u := ⟨cs[k]'(by omega), Array.getElem?_eq_getElem (by omega)⟩
          have HS := Lib.hid hsz
          have HC := Lib.hid hcs
          clear hsz hcs hz
          go_wp2_with fail
          (with_reducible refine (HM _).mono ?_)
          rintro e w2 ⟨rfl, hb2⟩
          have hblk2 := hblk.below hb2 (hblk.lt)
          have hkp2 : Kp lo hi w w2 := hkp.trans (Kp.of_below hb2)
          have hc2 : w2.cell? ⟨g, k, none⟩ = cs[k]? := hblk2.cell k
          have hc3 := hblk2.frozen k
          rw [hc4] at hc2
          clear hc4 HM hblk hkp hb2
          go_wp2
          go_roundw
          case rel =>
            refine ⟨k + 1, by omega, by go_num, by go_num, ⟨_, hblk2.set_ k _, by have := HS.out; simp; omega, fun j hj => ?_⟩, hkp2.setCell ⟨h1, h2⟩ _⟩
            rcases Nat.lt_or_ge j k with h | h
            · rw [Array.getElem?_setIfInBounds_ne (by omega)]; exact HC.out j h
            · have : j = k := by omega
              subst this
              rw [Array.getElem?_setIfInBounds_self_of_lt (by have := HS.out; omega)]
          case measure => simp [intOf]; omega
        · have hkn : k = zs.length := by omega
          have HC : Hid (∀ j, j < zs.length → cs[j]? = some (.string (txt (mk (k0 + j))))) := fun j hj => hcs j (by omega)
          have HS := Lib.hid hsz
          clear hcs hsz
          subst hkn
          go_wp2
          go_ret
          refine ⟨by simp, hblk.own (by simp; have := HS.out; omega) (fun j hj => ?_) h1 h2, hkp⟩
          rw [strs_len, tmarks_len] at hj
          rw [HC.out j hj, strs_at (by simpa using hj), tmarks_at hj]

theorem heldStringS_any (A : Option Addr) (c : Nat) (k0 : Nat) (n : Nat) (w : World) (hr : Reads w w.heap.size 1 A n (strs (tmarks k0 n))) (hn : n ≤ 1048577) (hk0 : 1 ≤ k0) (hk1 : k0 ≤ 2097152) :
    Calls Tryd.prog 23 #[.slice A n c, .int .i64 (k0 : Int)] w fun e w' => e = .returned (.int .i64 ((k0 : Int) + (n : Int))) ∧ Below w.heap.size w w' := by
  go_enter Tryd.func23, Tryd.ntmps23
  go_wp2
  go_loopw [1, 5] (fun q i wr => ∃ k : Nat, k ≤ n ∧ i = .int .i64 k ∧ q = .int .i64 ((k0 : Int) + (k : Int)) ∧ Below w.heap.size w wr) (fun _ i _ => n - (intOf i).toNat)
  case atStart => exact ⟨0, Nat.zero_le _, rfl, by go_num, Below.refl _ _⟩
  case round =>
    obtain ⟨k, hk, rfl, rfl, hbr⟩ := hrel
    by_cases hlt : k < n
    · obtain ⟨ad, rfl, hab, hcell⟩ := str_at (hr.below hbr) hlt
      rw [tmarks_at hlt] at hcell
      have HM := fun W => markText_any (k0 + k) W (by omega) (by omega)
      rw [show ((k0 + k : Nat) : Int) = (k0 : Int) + (k : Int) by omega] at HM
      have hpb : (ad.add k).block < wr.heap.size := by rw [block_of_add]; have := hbr.size; omega
      generalize txt (mk (k0 + k)) = X at *
      clear hr
      go_wp2_with fail
      go_region_held3 (fun w' => w'.cell? (ad.add k) = some (.string X) ∧ Below wr.heap.size wr w')
        (first | exact Stays.start hcell | exact Stays.call (by assumption) hpb (by assumption) | trace_state)
        (first | (go_at_call 46; refine (HM _).mono ?_; rintro e w' ⟨rfl, hb9⟩))
      rename_i hheld
      obtain ⟨-, hb10⟩ := hheld
      clear hcell hb9 HM
      go_wp2
      go_roundw
      case rel => exact ⟨k + 1, by omega, by go_num, by go_num, hbr.trans (hb10.mono hbr.size)⟩
      case measure => simp [intOf]; omega
    · have hkn : k = n := by omega
      subst hkn
      go_wp2
      go_ret
      exact ⟨by simp, hbr⟩
end Go.Proofs.YtlcckgpidjneeaaDoor
