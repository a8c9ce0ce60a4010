/-
  Contract: the law's markText: the text that marks a place.
-/
import Derived.Test.YtgfmnolmokpgnaaGreatDoorMkS
import Derived.Lib.ItoaNum
import Derived.Lib.ItoaLen
namespace Go.Proofs.YtgfmnolmokpgnaaGreatDoor
open Go.RowKit

/-- The digits in front of the last ones: none of 0. -/
def front (u : Nat) : List UInt8 := if u = 0 then [] else Lib.decDigits u
theorem digits_front (u : Nat) : Lib.decDigits u = front (u / 10) ++ [UInt8.ofNat (48 + u % 10)] := by
  rw [Lib.decDigits]
  by_cases h : u < 10
  · rw [dif_pos h, front, if_pos (by omega), Nat.mod_eq_of_lt h]; rfl
  · rw [dif_neg h, front, if_neg (by omega)]
theorem front_digits {u : Nat} (h : u ≠ 0) : front u = front (u / 10) ++ [UInt8.ofNat (48 + u % 10)] := by
  rw [front, if_neg h, digits_front]

/-- The text that marks a place. -/
def mk (k : Nat) : List UInt8 := 109 :: Lib.decDigits k

def dg (u : Nat) : UInt8 := UInt8.ofNat (48 + u % 10)
theorem dg_nat (u : Nat) : (dg u).toNat = 48 + u % 10 := by unfold dg; rw [UInt8.toNat_ofNat']; omega
theorem cat_txt (a b : ByteArray) : (a ++ b).data.toList = a.data.toList ++ b.data.toList := by simp

theorem cat_m (X : ByteArray) : (⟨#[109]⟩ : ByteArray) ++ X = txt (109 :: X.data.toList) := by
  rw [← txt_of (⟨#[109]⟩ ++ X), cat_txt]; rfl

set_option maxRecDepth 100000 in
theorem markText_any (k : Nat) (w : World) (hk : 1 ≤ k) (hk2 : k ≤ 4194304) :
    Calls Tryz.prog 23 #[.int .i64 (k : Int)] w fun e w' => e = .returned (.string (txt (mk k))) ∧ Below w.heap.size w w' := by
  have hl21 := Lib.itoa_length_le (k : Int) (by omega) (by omega)
  rw [Lib.itoa, if_neg (by omega), Int.toNat_natCast] at hl21
  have HL := Lib.hid hl21
  clear hl21
  have hpos : ¬ ((k : Int) ≤ 0) := by omega
  go_enter Tryz.func23, Tryz.ntmps23
  go_wp2
  go_loopw [0, 3] (fun r v wr => ∃ u : Nat, ∃ X : ByteArray, r = .int .i64 (u : Int) ∧ v = .string X ∧ u ≤ 4194304 ∧ Hid (Lib.decDigits k = front u ++ X.data.toList) ∧ Below w.heap.size w wr) (fun r _ _ => (intOf r).toNat)
  case atStart => exact ⟨k, ⟨#[]⟩, rfl, rfl, hk2, (by show _ = _; rw [front, if_neg (by omega)]; simp), Below.refl _ _⟩
  case round =>
    obtain ⟨u, X, rfl, rfl, hu, hD, hbr⟩ := hrel
    by_cases hgo : 0 < u
    · have hN : Hid (Lib.decDigits k = front (u / 10) ++ ((⟨#[dg u]⟩ : ByteArray) ++ X).data.toList) := by
        show _ = _
        rw [hD.out, front_digits (by omega), cat_txt]; simp [dg]
      have hXs : X.size ≤ 21 := by
        have h1 := congrArg List.length hD.out
        have h2 := HL.out
        rw [List.length_append] at h1
        rw [Lib.size_eq]; omega
      have hconv : (convert 68 9 (.slice (some ⟨wr.heap.size, 0, none⟩) 1 1)).run Tryz.prog (wr.alloc (.cells #[.int .u8 (48 + (u : Int) % 10)] 5)) = .ok (.string ⟨#[dg u]⟩) (wr.alloc (.cells #[.int .u8 (48 + (u : Int) % 10)] 5)) := run_convert_bytes_back (P := Tryz.prog) (wr.alloc (.cells #[.int .u8 (48 + (u : Int) % 10)] 5)) 68 9 5 ⟨wr.heap.size, 0, none⟩ 1 [dg u] Tryz.underlying68 Tryz.underlying5 Tryz.underlying9 (fun j hj => by
        have h0 : j = 0 := by simpa using hj
        subst h0
        have h := dg_nat u
        have hc := cell_of_row (wr.alloc (.cells #[.int .u8 (48 + (u : Int) % 10)] 5)) wr.heap.size 0 _ _ _ (heap_alloc_new wr _)
        have ha : (⟨wr.heap.size, 0, none⟩ : Addr).add 0 = ⟨wr.heap.size, 0, none⟩ := by unfold Addr.add; simp
        rw [ha, hc]
        simp only [List.getElem_cons_zero, h]
        rw [show ((48 + u % 10 : Nat) : Int) = 48 + (u : Int) % 10 by omega]
        rfl)
      have hmod : (0 : Int) ≤ (u : Int) % 10 := by omega
      have hgt : ¬ ((u : Int) ≤ 0) := by omega
      go_wp2
      go_roundw
      case rel => exact ⟨u / 10, _, by go_num, rfl, by omega, hN, hbr.alloc hbr.size _⟩
      case measure => simp [intOf]; omega
    · have hu0 : u = 0 := by omega
      have hN : Hid (Lib.decDigits k = X.data.toList) := by
        show _ = _
        rw [hD.out, front, if_pos hu0]; rfl
      have hXs : X.size ≤ 21 := by
        have h2 := HL.out
        rw [hN.out, ← Lib.size_eq] at h2; omega
      subst hu0
      clear hD
      go_wp2
      go_ret
      refine ⟨?_, hbr⟩
      rw [mk, hN.out]
      show Ending.returned (.string (⟨#[109]⟩ ++ X)) = _
      rw [cat_m]

end Go.Proofs.YtgfmnolmokpgnaaGreatDoor
