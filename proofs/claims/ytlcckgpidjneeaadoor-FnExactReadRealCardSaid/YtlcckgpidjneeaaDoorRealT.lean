/-
  Contracts: the text of a list of integers (spec.l01Text, impl.ListText, impl.listOrNone), RealText.
-/
import Derived.Test.YtlcckgpidjneeaaDoorDecN
import Derived.Test.YtlcckgpidjneeaaDoorReal
import Derived.Test.YtlcckgpidjneeaaDoorShelfBuild
import Derived.Lib.ItoaMem
import Derived.Test.YtlcckgpidjneeaaDoorJouS
namespace Go.Proofs.YtlcckgpidjneeaaDoor
open Go.RowKit

theorem l01Dec_any (n : Int) (w : World) (h0 : -1000000000000000 ≤ n) (h1 : n ≤ 1000000000000000) :
    Calls Tryd.prog 55 #[.int .i64 n] w fun e w' => e = .returned (.string (txt (Lib.itoa n))) ∧ Below w.heap.size w w' := by
  by_cases h : n < 0
  · obtain ⟨u, rfl⟩ : ∃ u : Nat, n = -(u : Int) := ⟨n.natAbs, by omega⟩
    rw [Lib.itoa_neg u (by omega)]
    exact l01Dec_neg u w (by omega) (by omega)
  · obtain ⟨u, rfl⟩ : ∃ u : Nat, n = (u : Int) := ⟨n.toNat, by omega⟩
    rw [itoa_nat]
    exact l01Dec_pos u w (by omega)

/-- The text of the first k numbers of a list. -/
def jtx (zs : List Int) (k : Nat) : List UInt8 := Lib.join ((zs.take k).map Lib.itoa) [44]
theorem jtx_one {zs : List Int} (h : 1 ≤ zs.length) : jtx zs 1 = Lib.itoa (zs.getD 0 0) := by
  cases zs with
  | nil => simp at h
  | cons z r => simp [jtx, Lib.join_one]
theorem jtx_next {zs : List Int} {k : Nat} (h1 : 1 ≤ k) (hk : k < zs.length) : jtx zs (k + 1) = jtx zs k ++ (44 :: Lib.itoa (zs.getD k 0)) := by
  cases zs with
  | nil => simp at hk
  | cons z r =>
    obtain ⟨j, rfl⟩ : ∃ j, k = j + 1 := ⟨k - 1, by omega⟩
    have hj : j < r.length := by simpa using hk
    unfold jtx
    simp only [List.take_succ_cons, List.map_cons, Lib.join_cons]
    rw [List.map_take, List.map_take, Lib.joinTail_take_succ [44] (r.map Lib.itoa) j (Lib.itoa r[j]) (by simp [List.getElem?_eq_getElem hj])]
    simp [List.getD, List.getElem?_eq_getElem hj]
def inV (zs : List Int) : Prop := ∀ z ∈ zs, -1000000000000000 ≤ z ∧ z ≤ 1000000000000000
theorem inV.at_ {zs : List Int} (h : inV zs) {k : Nat} (hk : k < zs.length) : -1000000000000000 ≤ zs.getD k 0 ∧ zs.getD k 0 ≤ 1000000000000000 := by
  rw [List.getD, List.getElem?_eq_getElem hk]; exact h _ (List.getElem_mem hk)
theorem itoa_le {n : Int} (h0 : -1000000000000000 ≤ n) (h1 : n ≤ 1000000000000000) : (Lib.itoa n).length ≤ 21 := Lib.itoa_length_le n (by omega) (by omega)
theorem jtx_len {zs : List Int} (hv : inV zs) : ∀ k, k ≤ zs.length → (jtx zs k).length ≤ 22 * k
  | 0, _ => by simp [jtx, Lib.join_nil]
  | k + 1, h => by
    have ih := jtx_len hv k (by omega)
    have hz := hv.at_ (show k < zs.length by omega)
    have h21 := itoa_le hz.1 hz.2
    rcases Nat.eq_zero_or_pos k with h0 | h0
    · subst h0
      rw [jtx_one (by omega)]; omega
    · rw [jtx_next h0 (by omega), List.length_append, List.length_cons]; omega
theorem jtx_all (zs : List Int) : jtx zs zs.length = Lib.join (zs.map Lib.itoa) [44] := by simp [jtx]

set_option maxRecDepth 100000 in
theorem l01Text_any (A : Option Addr) (c B : Nat) (zs : List Int) (w : World) (hr : Reads w B 1 A zs.length (ints zs)) (hB : B ≤ w.heap.size) (h1 : 1 ≤ zs.length) (hn : zs.length ≤ 64) (hv : inV zs) :
    Calls Tryd.prog 32 #[.slice A zs.length c] w fun e w' => e = .returned (.string (txt (jtx zs zs.length))) ∧ Below w.heap.size w w' := by
  have hz : ((zs.length : Int) == 0) = false := beq_false_of_ne (by omega)
  obtain ⟨ad0, hA, hab0, hc0⟩ := int_at (k := 0) hr (by omega)
  rw [show ad0.add 0 = ad0 by unfold Addr.add; simp] at hc0
  have HD0 := l01Dec_any (zs.getD 0 0) w (hv.at_ (by omega)).1 (hv.at_ (by omega)).2
  have HV := Lib.hid hv
  rw [← jtx_one h1] at HD0
  have hsz0 : (jtx zs 1).length ≤ 22 := by have := jtx_len hv 1 h1; omega
  clear hv
  subst hA
  generalize zs.getD 0 0 = z0 at *
  go_enter Tryd.func32, Tryd.ntmps32
  go_wp2_with fail
  (with_reducible refine HD0.mono ?_)
  rintro e w1 ⟨rfl, hb1⟩
  clear HD0 hc0
  go_wp2
  go_loopw [3, 4] (fun o i wr => ∃ k : Nat, ∃ out, 1 ≤ k ∧ k ≤ zs.length ∧ i = .int .i64 k ∧ o = .string (txt out) ∧ Hid (out = jtx zs k) ∧ out.length ≤ 22 * k ∧ Below w.heap.size w wr) (fun _ i _ => zs.length - (intOf i).toNat)
  case atStart => exact ⟨1, _, Nat.le_refl _, h1, rfl, rfl, rfl, hsz0, hb1⟩
  case round =>
    obtain ⟨k, out, hk1, hk, rfl, rfl, hJ, hol, hbr⟩ := hrel
    by_cases hlt : k < zs.length
    · obtain ⟨ad, he, hab, hcell⟩ := int_at (hr.below (hbr.mono hB)) hlt
      cases he
      have hvk := HV.out.at_ hlt
      have HD := fun W => l01Dec_any (zs.getD k 0) W hvk.1 hvk.2
      have hdl : (txt (Lib.itoa (zs.getD k 0))).size ≤ 21 := by rw [txt_size]; exact itoa_le hvk.1 hvk.2
      have hol2 : (txt out).size ≤ 1408 := by rw [txt_size]; omega
      have HN : Hid (out ++ (44 :: Lib.itoa (zs.getD k 0)) = jtx zs (k + 1)) := by
        show _ = _
        rw [jtx_next hk1 hlt, hJ.out]
      have hnl : (out ++ (44 :: Lib.itoa (zs.getD k 0))).length ≤ 22 * (k + 1) := by
        have := itoa_le hvk.1 hvk.2
        rw [List.length_append, List.length_cons]; omega
      have HC : Hid (txt out ++ ((⟨#[44]⟩ : ByteArray) ++ txt (Lib.itoa (zs.getD k 0))) = txt (out ++ (44 :: Lib.itoa (zs.getD k 0)))) := by
        show _ = _
        rw [show (⟨#[44]⟩ : ByteArray) = txt [44] from rfl, cat_add, cat_add]; rfl
      clear hvk hr
      generalize zs.getD k 0 = z at *
      generalize Lib.itoa z = d at *
      have a1 : ¬ 9223372036854775807 < 1 + (txt d).size := by omega
      have a2 : ¬ 9223372036854775807 < (txt out).size + (1 + (txt d).size) := by omega
      go_wp2_with fail
      (with_reducible refine (HD _).mono ?_)
      rintro e w2 ⟨rfl, hb2⟩
      clear HD hcell
      go_wp2
      go_roundw
      case rel => exact ⟨k + 1, _, by omega, by omega, by go_num, by rw [HC.out], HN, hnl, hbr.trans (hb2.mono hbr.size)⟩
      case measure => simp [intOf]; omega
    · have hkn : k = zs.length := by omega
      have HN : Hid (out = jtx zs zs.length) := by
        show _ = _
        rw [← hkn]; exact hJ.out
      clear hJ hr
      subst hkn
      go_wp2
      go_ret
      exact ⟨by rw [← HN.out]; rfl, hbr⟩
end Go.Proofs.YtlcckgpidjneeaaDoor
