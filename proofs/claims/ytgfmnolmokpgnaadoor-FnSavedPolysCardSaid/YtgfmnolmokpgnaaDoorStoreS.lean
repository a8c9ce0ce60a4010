/-
  Contract: spec.l07Store: the bytes of what is saved.
-/
import Derived.Test.YtgfmnolmokpgnaaDoorOkS
import Derived.Laws.IdiomStrings
import Derived.Lib.ConvBytes
import Derived.Lib.AtoiErrMem
import Derived.ArgAppend
import Derived.Lib.SlBytesConst
namespace Go.Proofs.YtgfmnolmokpgnaaDoor
open Go.RowKit

theorem ownsRow_below {w w' : World} {base E n : Nat} {v : Value} {xs : List Value} (h : w.ownsRow base E 1 v n xs) (hb : Below w.heap.size w w') : w'.ownsRow base E 1 v n xs := by
  obtain ⟨h1, h2⟩ := h
  refine ⟨h1, ?_⟩
  rcases h2 with h | ⟨g, cap, cur, e, hg, hh, hr⟩
  · exact .inl h
  · exact .inr ⟨g, cap, cur, e, hg, (hb.block g (Array.getElem?_eq_some_iff.1 hh).1).trans hh, hr⟩
theorem conv_of {w : World} {base n : Nat} {v : Value} {l : List UInt8} (hl : l ≠ []) (hn : l.length = n) (h : w.ownsRow base 5 1 v n (Lib.byteCells l)) :
    ∃ a c, v = .slice (some a) n c ∧ (convert 22 9 (.slice (some a) n c)).run Tryd.prog w = .ok (.string (txt l)) w := by
  subst hn
  obtain ⟨A, c, rfl, -, -, hO⟩ := Own.of_row h (Nat.le_refl _)
  have hr := hO.reads' (Nat.le_refl _) (n := l.length) (by simp [Lib.byteCells])
  have hp : 0 < l.length := by
    cases l with
    | nil => exact absurd rfl hl
    | cons a b => simp
  obtain ⟨a, rfl, -, hc⟩ := hr.2 hp
  exact ⟨a, c, rfl, run_convert_bytes_back w 22 9 5 a c l Tryd.underlying22 Tryd.underlying5 Tryd.underlying9 (fun j hj => hc j _ (by simp [Lib.byteCells, List.getElem?_eq_getElem hj]))⟩
theorem bc_append (a b : List UInt8) : Lib.byteCells (a ++ b) = Lib.byteCells a ++ Lib.byteCells b := by simp [Lib.byteCells]
theorem bc_len (l : List UInt8) : (Lib.byteCells l).length = l.length := by simp [Lib.byteCells]
theorem bc_u8 (n : Nat) (h : n < 256) : [Value.int .u8 (n : Int)] = Lib.byteCells [UInt8.ofNat n] := by
  simp only [Lib.byteCells, List.map_cons, List.map_nil, u8_nat]
  rw [Nat.mod_eq_of_lt h]
theorem bc_le2 (m : Nat) (hm : m < 65536) : Lib.byteCells (le2 m) = [.int .u8 ((m : Int) % 256), .int .u8 ((m : Int) / 256)] := by
  have h4 : (m / 256) % 256 = m / 256 := by omega
  simp only [Lib.byteCells, le2, List.map_cons, List.map_nil, u8_nat]
  rw [h4]
  simp
/-- The bytes of a text, made a slice. -/
theorem reads_conv (w : World) (s : ByteArray) : Reads (Lib.bytesWorld w 5 s) (w.heap.size + 1) 1 (some ⟨w.heap.size, 0, none⟩) s.size (Lib.byteCells s.data.toList) := by
  refine ⟨by rw [bc_len, Lib.size_eq]; omega, fun hn => ⟨_, rfl, by simp, fun j u hu => ?_⟩⟩
  have hj : j < s.data.toList.length := by
    have := (List.getElem?_eq_some_iff.1 hu).1
    rwa [bc_len] at this
  have hadd : (⟨w.heap.size, 0, none⟩ : Addr).add j = ⟨w.heap.size, j, none⟩ := by unfold Addr.add; split <;> simp_all
  rw [hadd, Lib.bytesWorld_cell w 5 s j (by rw [Lib.size_eq]; exact hj)]
  rw [Lib.byteCells, List.getElem?_map, List.getElem?_eq_getElem hj] at hu
  rw [List.getD, List.getElem?_eq_getElem hj]
  exact hu

theorem pairsL_snoc {l : List (Nat × Nat)} {k : Nat} (h : k < l.length) : pairsL (l.take (k + 1)) = pairsL (l.take k) ++ le4 (bitsN (l.getD k (0, 0)).1) ++ le4 (bitsN (l.getD k (0, 0)).2) := by
  rw [List.take_add_one, List.getElem?_eq_getElem h, pairsL, List.flatMap_append, List.append_assoc]
  simp [pairsL, pairL, List.getD, List.getElem?_eq_getElem h]
theorem termsL_snoc {l : List Int} {k : Nat} (h : k < l.length) : termsL (l.take (k + 1)) = termsL (l.take k) ++ le4 (l.getD k 0 + 2147483648).toNat := by
  rw [List.take_add_one, List.getElem?_eq_getElem h, termsL, List.flatMap_append]
  simp [termsL, termL, List.getD, List.getElem?_eq_getElem h]
/-- What is saved is small enough, and its numbers are 32 bits. -/
structure Sml (v : Sav) : Prop where
  n : v.nm.length ≤ 8
  p : v.P.length ≤ 17
  w : v.W.length ≤ 17
  b : ∀ k, k < v.P.length → (v.P.getD k (0, 0)).1 < 4294967296 ∧ (v.P.getD k (0, 0)).2 < 4294967296
  t : ∀ k, k < v.W.length → -1000000 ≤ v.W.getD k 0 ∧ v.W.getD k 0 ≤ 1000000

theorem reads_at (w : World) (cs : List Value) (E : TypeId) (g : Nat) (hg : g = w.heap.size) : Reads (w.alloc (.cells cs.toArray E)) (g + 1) 1 (some ⟨g, 0, none⟩) cs.length cs := by
  subst hg; exact reads_new w cs E
theorem Reads.cells {w : World} {B n : Nat} {a : Addr} {xs : List Value} (h : Reads w B 1 (some a) n xs) {j : Nat} {u : Value} (hu : xs[j]? = some u) : w.cell? (a.add j) = some u := by
  have hj := (List.getElem?_eq_some_iff.1 hu).1
  obtain ⟨ad, e, _, hc⟩ := h.2 (by have := h.1; omega)
  cases e
  exact hc j u hu
theorem ownsRow_lower {w : World} {base lo E n : Nat} {v : Value} {xs : List Value} (h : w.ownsRow base E 1 v n xs) (hlo : lo ≤ base) : w.ownsRow lo E 1 v n xs := by
  obtain ⟨h1, h2⟩ := h
  refine ⟨h1, ?_⟩
  rcases h2 with h | ⟨g, cap, cur, e, hg, r⟩
  · exact .inl h
  · exact .inr ⟨g, cap, cur, e, Nat.le_trans hlo hg, r⟩
theorem first_row {w : World} {base lo : Nat} {x : Value} (v : Sav) (hx : [.int .u8 (v.nm.length : Int)] = Lib.byteCells [UInt8.ofNat v.nm.length]) (hlo : lo ≤ base) (h : w.ownsRow base 5 1 x (4 + 1) (Lib.byteCells [80, 79, 76, 49] ++ [.int .u8 (v.nm.length : Int)])) :
    ∃ A c, x = .slice A 5 c ∧ w.ownsRow lo 5 1 (.slice A 5 c) 5 (Lib.byteCells (80 :: 79 :: 76 :: 49 :: [UInt8.ofNat v.nm.length])) := by
  have h1 : w.ownsRow lo 5 1 x 5 (Lib.byteCells (80 :: 79 :: 76 :: 49 :: [UInt8.ofNat v.nm.length])) := by
    have h := ownsRow_lower h hlo
    rw [hx, ← bc_append] at h
    exact h
  obtain ⟨A, c, rfl, -, -, -⟩ := Own.of_row h1 (Nat.le_refl _)
  exact ⟨A, c, rfl, h1⟩
theorem head_row {w : World} {base : Nat} {x : Value} (v : Sav) (hx : [.int .u8 (v.P.length : Int)] = Lib.byteCells [UInt8.ofNat v.P.length]) (h : w.ownsRow base 5 1 x (5 + (txt v.nm).size + 1) (Lib.byteCells [80, 79, 76, 49, UInt8.ofNat v.nm.length] ++ Lib.byteCells v.nm ++ [.int .u8 (v.P.length : Int)])) :
    ∃ n A c, x = .slice A n c ∧ n ≤ 6 + v.nm.length ∧ w.ownsRow base 5 1 (.slice A n c) n (Lib.byteCells (headL v)) := by
  have h1 : w.ownsRow base 5 1 x (6 + v.nm.length) (Lib.byteCells (headL v)) := by
    rw [hx, ← bc_append, ← bc_append, txt_size, show 5 + v.nm.length + 1 = 6 + v.nm.length by omega] at h
    have e : [80, 79, 76, 49, UInt8.ofNat v.nm.length] ++ v.nm ++ [UInt8.ofNat v.P.length] = headL v := by simp [headL]
    rw [e] at h
    exact h
  obtain ⟨A, c, rfl, -, -, -⟩ := Own.of_row h1 (Nat.le_refl _)
  exact ⟨_, A, c, rfl, Nat.le_refl _, h1⟩
theorem own_made (w : World) (cs : List Value) (E : TypeId) (hc : cs.length ≤ 1048576) : (w.alloc (.cells cs.toArray E)).ownsRow w.heap.size E 1 (.slice (some ⟨w.heap.size, 0, none⟩) cs.length cs.length) cs.length cs :=
  ⟨by simp, .inr ⟨_, cs.length, cs.toArray, rfl, Nat.le_refl _, heap_alloc_new w _, Nat.le_refl _, by unfold maxLen; omega, by simp, by simp⟩⟩

end Go.Proofs.YtgfmnolmokpgnaaDoor
