/-
  Contract: impl.StoreAll.
-/
import Derived.Test.YtgfmnolmokpgnaaDoorSameS
namespace Go.Proofs.YtgfmnolmokpgnaaDoor
open Go.RowKit

theorem storesL_snoc {vs : List Sav} {k : Nat} (h : k < vs.length) : storesL (vs.take (k + 1)) = storesL (vs.take k) ++ storeL (vs.getD k nilS) := by
  rw [List.take_succ_eq_append_getElem h, storesL_app]
  simp [storesL, List.getD, h]

set_option maxRecDepth 100000 in
set_option maxHeartbeats 1600000 in
theorem storeAll_any (g o n c : Nat) (vs : List Sav) (A A' : Nat → Option Addr) (cc cc' : Nat → Nat) (w : World) (hn : vs.length = n) (hr : RdS w g o vs A A' cc cc') (hG : ∀ v ∈ vs, Gd v) (h8 : vs.length ≤ 8) :
    Calls Tryd.prog 10 #[.slice (some ⟨g, o, none⟩) n c] w fun e w' => e = .returned (.tuple #[.string (txt (storesL vs)), .bool true]) ∧ Below w.heap.size w w' := by
  have HG := Lib.hid hG
  have HR := Lib.hid hr
  have hl := hr.lt
  clear hG hr
  have hb0 : Below w.heap.size w (w.alloc (.cells #[.pointer none, .slice none 0 0] 64)) := (Below.refl _ _).alloc (Nat.le_refl _) _
  have hi0 : Lib.IsBuilderF 64 5 w.heap.size w.heap.size (Lib.byteCells []) (w.alloc (.cells #[.pointer none, .slice none 0 0] 64)) := isf_new w _ _ _ rfl
  go_enter Tryd.func10, Tryd.ntmps10
  go_wp2
  go_loopw [6, 13] (fun _ i wr => ∃ k : Nat, k ≤ n ∧ i = .int .i64 k ∧ Lib.IsBuilderF 64 5 w.heap.size w.heap.size (Lib.byteCells (storesL (vs.take k))) wr ∧ Below w.heap.size w wr) (fun _ i _ => n - (intOf i).toNat)
  case atStart => exact ⟨0, Nat.zero_le _, rfl, by simpa [storesL] using hi0, hb0⟩
  case round =>
    obtain ⟨k, hk, rfl, hib, hbr⟩ := hrel
    clear hi0 hb0
    by_cases hlt : k < n
    · have hr := HR.out.below hbr
      have hkv : k < vs.length := by omega
      have x0 := hr.c0 k hkv
      have x1 := hr.c1 k hkv
      have x2 := hr.c2 k hkv
      have r1 := hr.r1 k hkv
      have r2 := hr.r2 k hkv
      have hgv := HG.out (vs.getD k nilS) (by rw [List.getD, List.getElem?_eq_getElem hkv]; exact List.getElem_mem hkv)
      have hsl : Hid ((storesL (vs.take k)).length + (storeL (vs.getD k nilS)).length ≤ 1048576) := by
        show _ ≤ _
        have h1 := (storesL_len (vs := vs.take (k + 1)) (fun v hv => HG.out v (List.mem_of_mem_take hv))).1
        rw [storesL_snoc hkv, List.length_append] at h1
        have h2 : (vs.take (k + 1)).length ≤ 8 := by rw [List.length_take]; omega
        omega
      have HE := Lib.hid (storesL_snoc hkv)
      generalize storesL (vs.take k) = L at *
      generalize vs.getD k nilS = v at *
      clear hr
      obtain ⟨-, g1, g2, g3⟩ := good_fin hgv
      have hbX : Below wr.heap.size wr (wr.alloc (.cells #[.string (txt v.nm), .slice (A k) v.P.length (cc k), .slice (A' k) v.W.length (cc' k)] 36)) := (Below.refl _ _).alloc (Nat.le_refl _) _
      have hkX := blk_new wr #[.string (txt v.nm), .slice (A k) v.P.length (cc k), .slice (A' k) v.W.length (cc' k)] 36
      have HV := validSaved_any v (A k) (A' k) (cc k) (cc' k) wr.heap.size _ (r1.below hbX) (r2.below hbX) hbX.size (by omega) (by omega) (by omega)
      rw [hgv.ok] at HV
      have HS := fun W (hW : Below wr.heap.size wr W) => store_any v (A k) (A' k) (cc k) (cc' k) wr.heap.size W (r1.below hW) (r2.below hW) hW.size (sml_of hgv.ok fun j hj => hgv.b _ (by rw [List.getD, List.getElem?_eq_getElem hj]; exact List.getElem_mem hj))
      clear r1 r2 hgv
      generalize storeL v = l at *
      go_wp2_with fail
      (with_reducible refine HV.mono ?_)
      rintro e w1 ⟨rfl, hb1⟩
      clear HV x0 x1 x2
      have hk1 := hkX.below hb1 hkX.lt
      have hw1 := hbX.trans (hb1.mono hbX.size)
      have y0 : w1.cell? ⟨wr.heap.size, 0, none⟩ = _ := hk1.cell 0
      have y1 : w1.cell? ⟨wr.heap.size, 1, none⟩ = _ := hk1.cell 1
      have y2 : w1.cell? ⟨wr.heap.size, 2, none⟩ = _ := hk1.cell 2
      clear hb1 hkX hk1 hbX
      go_wp2_with fail
      (with_reducible refine (HS _ hw1).mono ?_)
      rintro e w2 ⟨rfl, hb2⟩
      clear HS y0 y1 y2
      have hw2 := hw1.trans (hb2.mono hw1.size)
      have HW := wr_any w.heap.size w.heap.size L l _ rfl w2 (isf_below hib hw2) hsl.out (Nat.le_trans hbr.size hw2.size)
      clear hib hw1 hb2
      go_wp2_with fail
      (with_reducible refine HW.mono ?_)
      rintro e w3 ⟨rfl, hib3, hb3⟩
      clear HW
      rw [← HE.out] at hib3
      have hbr3 := (hbr.trans (hw2.mono hbr.size)).trans hb3
      clear hw2 hb3
      go_wp2
      go_roundw
      case rel => exact ⟨k + 1, by omega, by go_num, hib3, hbr3⟩
      case measure => simp [intOf]; omega
    · obtain rfl : k = n := by omega
      have hT : vs.take k = vs := by rw [← hn, List.take_length]
      rw [hT] at hib
      have HB := bstr_any w.heap.size w.heap.size (storesL vs) wr hib hbr.size
      clear hib hT
      generalize hLL : storesL vs = L at *
      have HLL := Lib.hid hLL
      clear hLL
      go_wp2_with fail
      (with_reducible refine HB.mono ?_)
      rintro e w1 ⟨rfl, -, hb1⟩
      have hbf := hbr.trans hb1
      go_wp2
      go_ret2
      exact ⟨by rw [HLL.out]; rfl, hbf⟩
end Go.Proofs.YtgfmnolmokpgnaaDoor
