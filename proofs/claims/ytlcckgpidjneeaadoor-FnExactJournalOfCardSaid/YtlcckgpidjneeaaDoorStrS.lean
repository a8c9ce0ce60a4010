/-
  The law's own helpers on slices of texts, each by its contract: a copy (toStringS), how much they hold (szStringS).
-/
import Derived.Test.YtlcckgpidjneeaaDoorMarks
namespace Go.Proofs.YtlcckgpidjneeaaDoor
open Go.RowKit

theorem toStringS_any (A : Option Addr) (c B : Nat) (zs : List (List UInt8)) (w : World) (hr : Reads w B 1 A zs.length (strs zs)) (hB : B ≤ w.heap.size) (hn : zs.length ≤ 1048576) :
    Calls Tryd.prog 17 #[.slice A zs.length c] w fun e w' => ∃ A' c', e = .returned (.slice A' zs.length c') ∧ Own w' w.heap.size w'.heap.size 9 A' (strs zs) ∧ Below w.heap.size w w' := by
  obtain ⟨i0, hi, hz0, hz1, hz2⟩ := info_parts info9
  go_enter Tryd.func17, Tryd.ntmps17
  go_wp2_with (at_make; refine wpList_make_full _ rfl _ _ _ rfl w.heap.size 9 i0 (.string ByteArray.empty) 1 Tryd.underlying35 hi hz0 hz1 .i64 .i64 _ _ zs.length rfl rfl rfl rfl (by rw [hz2]; omega) (by unfold maxLen; omega) (Nat.le_refl _) ?_; intro w1 hown hg)
  obtain ⟨cs, hblk, hsz, -, -⟩ := blk_of_row hown
  have hb1 : Below w.heap.size w w1 := (Below.refl _ _).grown hg (Nat.le_refl _) (by simp)
  clear hown hg
  go_loopw [4] (fun i wr => ∃ k : Nat, k ≤ zs.length ∧ i = .int .i64 k ∧ (∃ cs, Blk wr w.heap.size 9 cs ∧ cs.size = zs.length ∧ ∀ j, j < k → cs[j]? = some (.string (txt (zs.getD j [])))) ∧ Below w.heap.size w wr) (fun i _ => zs.length - (intOf i).toNat)
  case atStart => exact ⟨0, Nat.zero_le _, rfl, ⟨cs, hblk, hsz, fun j hj => by omega⟩, hb1⟩
  case round =>
    obtain ⟨k, hk, rfl, ⟨cs, hblk, hsz, hcs⟩, hbr⟩ := hrel
    by_cases hlt : k < zs.length
    · obtain ⟨ad, rfl, hab, hcell⟩ := str_at hr hlt
      have hc1 : wr.cell? (ad.add k) = some (.string (txt (zs.getD k []))) := (hbr.cell (by rw [block_of_add]; omega)).trans hcell
      have hc2 : wr.cell? ⟨w.heap.size, k, none⟩ = cs[k]? := hblk.cell k
      have hc3 := hblk.frozen k
      obtain ⟨u, hc4⟩ : ∃ u, cs[k]? = some u := ⟨cs[k]'(by omega), Array.getElem?_eq_getElem (by omega)⟩
      rw [hc4] at hc2
      have HS := Lib.hid hsz
      have HC := Lib.hid hcs
      clear hsz hcell hr hc4 hcs
      generalize hgx : txt (zs.getD k []) = x at *
      have HX := Lib.hid hgx
      clear hgx
      go_wp2
      go_roundw
      case rel =>
        refine ⟨k + 1, by omega, by go_num, ⟨_, hblk.set_ k _, by have := HS.out; simp; omega, fun j hj => ?_⟩, hbr.setCell (Nat.le_refl _) _⟩
        rcases Nat.lt_or_ge j k with h | h
        · rw [Array.getElem?_setIfInBounds_ne (by omega)]; exact HC.out j h
        · have : j = k := by omega
          subst this
          rw [Array.getElem?_setIfInBounds_self_of_lt (by have := HS.out; omega), HX.out]
      case measure => simp [intOf]; omega
    · have hkn : k = zs.length := by omega
      subst hkn
      have HC : Hid (∀ j, j < zs.length → cs[j]? = some (.string (txt (zs.getD j [])))) := hcs
      have HS := Lib.hid hsz
      clear hcs hsz
      go_wp2
      go_ret
      exact ⟨_, _, rfl, hblk.own (by simp; have := HS.out; omega) (fun j hj => by rw [strs_len] at hj; rw [HC.out j hj, strs_at hj]) (Nat.le_refl _) hblk.lt, hbr⟩

/-- How much the first k texts hold. -/
def ssum (zs : List (List UInt8)) : Nat → Nat
  | 0 => 0
  | k + 1 => ssum zs k + (zs.getD k []).length
theorem ssum_mono (ls : List (List UInt8)) {j k : Nat} (h : j ≤ k) : ssum ls j ≤ ssum ls k := by
  induction k with
  | zero => have : j = 0 := by omega
            subst this; exact Nat.le_refl _
  | succ k ih =>
    rcases Nat.lt_or_ge j (k + 1) with h' | h'
    · have := ih (by omega)
      simp only [ssum]
      omega
    · have : j = k + 1 := by omega
      subst this; exact Nat.le_refl _
theorem ssum_mem {ls : List (List UInt8)} {x : List UInt8} (h : x ∈ ls) : x.length ≤ ssum ls ls.length := by
  obtain ⟨k, hk⟩ := List.mem_iff_getElem?.1 h
  have hlt := (List.getElem?_eq_some_iff.1 hk).1
  have h2 := ssum_mono ls (show k + 1 ≤ ls.length by omega)
  simp only [ssum] at h2
  rw [List.getD, hk] at h2
  simp only [Option.getD_some] at h2
  omega

theorem szStringS_no (A : Option Addr) (c B : Nat) (zs : List (List UInt8)) (w : World) (hr : Reads w B 1 A zs.length (strs zs)) (hn : zs.length ≤ 9223372036854775807) (hz : ∀ x ∈ zs, x.length ≤ 9223372036854775807) (hbig : 1048576 < zs.length + ssum zs zs.length) :
    Calls Tryd.prog 15 #[.slice A zs.length c, .int .i64 1048576] w fun e w' => e = .returned (.int .i64 (-1)) ∧ w = w' := by
  by_cases h0 : zs.length ≤ 1048576
  · have h1 : ¬ ((1048576 : Int) - (zs.length : Int) < 0) := by omega
    have HZ := Lib.hid hz
    clear hz
    go_enter Tryd.func15, Tryd.ntmps15
    go_wp2
    go_loop [1, 5] (fun q i => ∃ k : Nat, k ≤ zs.length ∧ i = .int .i64 k ∧ q = .int .i64 ((1048576 : Int) - (zs.length : Int) - (ssum zs k : Nat)) ∧ zs.length + ssum zs k ≤ 1048576) (fun _ i => zs.length - (intOf i).toNat)
    case atStart => exact ⟨0, Nat.zero_le _, rfl, by simp [ssum], by simp [ssum]; omega⟩
    case round =>
      obtain ⟨k, hk, rfl, rfl, hs⟩ := hrel
      by_cases hlt : k < zs.length
      · obtain ⟨ad, rfl, hab, hcell⟩ := str_at hr hlt
        have hxl : (txt (zs.getD k [])).size ≤ 9223372036854775807 := by rw [txt_size]; exact HZ.out _ (getD_mem hlt)
        have hJs : Hid (ssum zs (k + 1) = ssum zs k + (txt (zs.getD k [])).size) := by
          show _ = _
          rw [txt_size, ssum]
        generalize txt (zs.getD k []) = X at *
        clear hr
        by_cases hgo : zs.length + (ssum zs k + X.size) ≤ 1048576
        · have h2 : ¬ ((1048576 : Int) - (zs.length : Int) - (ssum zs k : Int) - (X.size : Int) < 0) := by omega
          go_wp2
          go_round
          case rel => exact ⟨k + 1, by omega, by go_num, by rw [hJs.out]; go_num, by rw [hJs.out]; omega⟩
          case measure => simp [intOf]; omega
        · have h2 : (1048576 : Int) - (zs.length : Int) - (ssum zs k : Int) - (X.size : Int) < 0 := by omega
          go_wp2
          go_ret
          exact ⟨rfl, rfl⟩
      · have hkn : k = zs.length := by omega
        subst hkn
        omega
  · have h1 : (1048576 : Int) - (zs.length : Int) < 0 := by omega
    clear hz hr
    go_enter Tryd.func15, Tryd.ntmps15
    go_wp2
    go_ret
    exact ⟨rfl, rfl⟩

theorem szStringS_yes (A : Option Addr) (c B : Nat) (zs : List (List UInt8)) (w : World) (hr : Reads w B 1 A zs.length (strs zs)) (hsm : zs.length + ssum zs zs.length ≤ 1048576) :
    Calls Tryd.prog 15 #[.slice A zs.length c, .int .i64 1048576] w fun e w' => e = .returned (.int .i64 ((1048576 : Int) - (zs.length : Int) - (ssum zs zs.length : Nat))) ∧ w = w' := by
  have h1 : ¬ ((1048576 : Int) - (zs.length : Int) < 0) := by omega
  go_enter Tryd.func15, Tryd.ntmps15
  go_wp2
  go_loop [1, 5] (fun q i => ∃ k : Nat, k ≤ zs.length ∧ i = .int .i64 k ∧ q = .int .i64 ((1048576 : Int) - (zs.length : Int) - (ssum zs k : Nat))) (fun _ i => zs.length - (intOf i).toNat)
  case atStart => exact ⟨0, Nat.zero_le _, rfl, by simp [ssum]⟩
  case round =>
    obtain ⟨k, hk, rfl, rfl⟩ := hrel
    have hmono := ssum_mono zs hk
    by_cases hlt : k < zs.length
    · obtain ⟨ad, rfl, hab, hcell⟩ := str_at hr hlt
      have hJs : Hid (ssum zs (k + 1) = ssum zs k + (txt (zs.getD k [])).size) := by
        show _ = _
        rw [txt_size, ssum]
      have hs1 : zs.length + (ssum zs k + (txt (zs.getD k [])).size) ≤ 1048576 := by
        have := ssum_mono zs (show k + 1 ≤ zs.length by omega)
        rw [hJs.out] at this
        omega
      generalize txt (zs.getD k []) = X at *
      clear hr
      have h2 : ¬ ((1048576 : Int) - (zs.length : Int) - (ssum zs k : Int) - (X.size : Int) < 0) := by omega
      go_wp2
      go_round
      case rel => exact ⟨k + 1, by omega, by go_num, by rw [hJs.out]; go_num⟩
      case measure => simp [intOf]; omega
    · have hkn : k = zs.length := by omega
      subst hkn
      go_wp2
      go_ret
      exact ⟨rfl, rfl⟩
end Go.Proofs.YtlcckgpidjneeaaDoor
