/-
  Contract: strconv.ParseUint(s, 16, 32) of eight bytes.
-/
import Derived.Test.YtfiakhhippfkaaaGreatDoorPu
import Derived.Test.YtfiakhhippfkaaaGreatDoorShelfHex
namespace Go.Proofs.YtfiakhhippfkaaaGreatDoor
open Go.RowKit

/-- strconv's error of syntax is there. -/
def ErrS (w : World) : Prop := ∃ tp p, w.var? Tryz.prog "strconv.ErrSyntax" = some #[.iface tp p]
theorem var_on {w w' : World} {n : String} {cs : Array Value} (h : w.var? Tryz.prog n = some cs) (hb : Below w.heap.size w w') : w'.var? Tryz.prog n = some cs := by
  unfold World.var? at h ⊢
  cases hg : Tryz.prog.globalNamed n with
  | none => rw [hg] at h; cases h
  | some g =>
    rw [hg] at h
    simp only [Option.bind_some] at h ⊢
    have hlt : g < w.heap.size := by
      rcases Nat.lt_or_ge g w.heap.size with h' | h'
      · exact h'
      · rw [Array.getElem?_eq_none h'] at h; cases h
    rw [hb.block g hlt]
    exact h
theorem ErrS.on {w w' : World} (h : ErrS w) (hb : Below w.heap.size w w') : ErrS w' := by
  obtain ⟨a, b, h⟩ := h
  exact ⟨a, b, var_on h hb⟩

theorem pub16_ok (s : ByteArray) (hs : s.size = 8) (n : Nat) (h : run anyV 0 s.data.toList = some n) (w : World) :
    Calls Tryz.prog 25 #[.string s, .int .i64 16, .int .i64 32] w fun e w' => e = .returned (.tuple #[.int .u64 (n : Int), .nilIface]) ∧ Below w.heap.size w w' := by
  have H := pu16 s hs w
  rw [h] at H
  have HB := Lib.bytesWorld_below w 5 s
  clear h
  generalize Lib.bytesWorld w 5 s = W1 at *
  go_enter Tryz.func25, Tryz.ntmps25
  go_wp2_with fail
  refine H.mono ?_
  rintro e w1 ⟨rfl, rfl⟩
  unfold puT
  go_wp2
  go_ret2
  exact ⟨rfl, HB⟩
/-- What ParseUint returns beside a text that is no number. -/
def FailsU (w : World) (e : Ending) (w' : World) : Prop := ∃ N, e = .returned (.tuple #[.int .u64 0, .iface 77 (.pointer (some ⟨N, 0, none⟩))]) ∧ Below w.heap.size w w'
set_option maxRecDepth 100000 in
theorem pub16_no (s : ByteArray) (hs : s.size = 8) (h : run anyV 0 s.data.toList = none) (w : World) (hE : ErrS w) :
    Calls Tryz.prog 25 #[.string s, .int .i64 16, .int .i64 32] w (FailsU w) := by
  have H := pu16 s hs w
  rw [h] at H
  have HB := Lib.bytesWorld_below w 5 s
  obtain ⟨tp, p, hv⟩ := hE.on HB
  have hc : (Lib.bytesWorld w 5 s).cell? ⟨Tryz.laysPu14_ren.g 0, 0, none⟩ = some (.iface tp p) := by have h0 := World.var?_cell Tryz.laysPu14.m0 hv 0; simpa using h0
  have HT : Calls Tryz.prog 37 #[.string ⟨#[80, 97, 114, 115, 101, 85, 105, 110, 116]⟩, .string s, .int .i64 16, .int .i64 32, .iface 73 (.int .i64 2)] (Lib.bytesWorld w 5 s) fun e w' => ∃ N, e = .returned (.iface 77 (.pointer (some ⟨N, 0, none⟩))) ∧ Below (Lib.bytesWorld w 5 s).heap.size (Lib.bytesWorld w 5 s) w' :=
    (AnyPu.strconv_toError_syntax (ρ := Tryz.laysPu14_ren) { Tryz.laysPu14 with } ⟨#[80, 97, 114, 115, 101, 85, 105, 110, 116]⟩ s 16 32 (.iface tp p) (Lib.bytesWorld w 5 s) (by omega) hc (Or.inr ⟨tp, p, rfl⟩)).mono fun e w' ⟨N, h1, _, _, h2⟩ => ⟨N, h1, h2⟩
  clear h hE hv hc
  generalize Lib.bytesWorld w 5 s = W1 at *
  go_enter Tryz.func25, Tryz.ntmps25
  go_wp2_with fail
  refine H.mono ?_
  rintro e w1 ⟨rfl, rfl⟩
  unfold puT
  clear H
  go_wp2_with fail
  (with_reducible refine HT.mono ?_)
  rintro e w2 ⟨N, rfl, hb2⟩
  go_wp2
  go_ret2
  exact ⟨N, rfl, HB.trans (hb2.mono HB.size)⟩
end Go.Proofs.YtfiakhhippfkaaaGreatDoor
