/-
  Words on memory, no program in sight: a slice that reads as a list; a slice in memory that lies apart from what there was; what a call may turn.
-/
import Derived.WalkKit
import Derived.WalkLawsBesides
import Derived.WalkSpells
import Derived.Deep.AppendLies
import Derived.Deep.Draws
import Derived.Maps.AppendAt
import Derived.Lib.Hide
namespace Go.Proofs.Ytlpibibpckkjhaa
open Go.RowKit

theorem block_of_add (a : Addr) (n : Nat) : (a.add n).block = a.block := by unfold Addr.add; split <;> rfl
theorem add_of_add (a : Addr) (i j : Nat) : (a.add i).add j = a.add (i + j) := by
  unfold Addr.add
  by_cases hi : i = 0 <;> by_cases hj : j = 0 <;> simp [hi, hj, Nat.add_assoc]

/-- The slice value with the address A and n elements of 'size' cells holds the cells xs, and lies below block B. -/
def Reads (w : World) (B size : Nat) (A : Option Addr) (n : Nat) (xs : List Value) : Prop :=
  xs.length = n * size ∧ (0 < n → ∃ ad, A = some ad ∧ ad.block < B ∧ ∀ j u, xs[j]? = some u → w.cell? (ad.add j) = some u)

section
variable {w w' : World} {B B' size n : Nat} {A : Option Addr} {xs : List Value}
theorem Reads.none_ : Reads w B size A 0 [] := ⟨by simp, fun h => absurd h (by omega)⟩
theorem Reads.at_ {k : Nat} (h : Reads w B 1 A n xs) (hk : k < n) : ∃ ad u, A = some ad ∧ ad.block < B ∧ xs[k]? = some u ∧ w.cell? (ad.add k) = some u := by
  obtain ⟨ad, e, hb, hc⟩ := h.2 (by omega)
  have hl : k < xs.length := by have := h.1; omega
  exact ⟨ad, xs[k], e, hb, List.getElem?_eq_getElem hl, hc k _ (List.getElem?_eq_getElem hl)⟩
theorem Reads.keep (h : Reads w B size A n xs) (hk : ∀ p : Addr, p.block < B → w'.cell? p = w.cell? p) : Reads w' B size A n xs :=
  ⟨h.1, fun hn => by
    obtain ⟨ad, e, hb, hc⟩ := h.2 hn
    exact ⟨ad, e, hb, fun j u hu => (hk _ (by rw [block_of_add]; exact hb)).trans (hc j u hu)⟩⟩
theorem Reads.more (h : Reads w B size A n xs) (hB : B ≤ B') : Reads w B' size A n xs :=
  ⟨h.1, fun hn => by
    obtain ⟨ad, e, hb, hc⟩ := h.2 hn
    exact ⟨ad, e, by omega, hc⟩⟩
theorem Reads.below (h : Reads w B size A n xs) (hb : Below B w w') : Reads w' B size A n xs := h.keep fun _ hp => hb.cell hp
theorem Reads.drewN (h : Reads w B size A n xs) (k : Nat) : Reads (w.drewN k) B size A n xs := h
end

/-- What a call turns lies from block lo on and below block hi; what is older and lies elsewhere is as it was. -/
structure Kp (lo hi : Nat) (w w' : World) : Prop where
  os : w'.os = w.os
  tape : w'.tape = w.tape
  output : w'.output = w.output
  size : w.heap.size ≤ w'.heap.size
  block : ∀ k, k < w.heap.size → (k < lo ∨ hi ≤ k) → w'.heap[k]? = w.heap[k]?

theorem Kp.refl (lo hi : Nat) (w : World) : Kp lo hi w w := ⟨rfl, rfl, rfl, Nat.le_refl _, fun _ _ _ => rfl⟩
theorem Kp.of_below {lo hi : Nat} {w w' : World} (h : Below w.heap.size w w') : Kp lo hi w w' := ⟨h.os, h.tape, h.output, h.size, fun k hk _ => h.block k hk⟩
theorem Kp.below {lo hi B : Nat} {w w' : World} (h : Kp lo hi w w') (hB : B ≤ lo) (hs : B ≤ w.heap.size) : Below B w w' := ⟨h.os, h.tape, h.output, h.size, fun k hk => h.block k (by omega) (.inl (by omega))⟩
theorem Kp.trans {lo hi : Nat} {a b c : World} (h : Kp lo hi a b) (k : Kp lo hi b c) : Kp lo hi a c :=
  ⟨k.os.trans h.os, k.tape.trans h.tape, k.output.trans h.output, Nat.le_trans h.size k.size, fun i hi hj => (k.block i (Nat.lt_of_lt_of_le hi h.size) hj).trans (h.block i hi hj)⟩
theorem Kp.drewN {lo hi : Nat} {a b : World} (h : Kp lo hi a b) (n : Nat) : Kp lo hi a (b.drewN n) := ⟨h.os, h.tape, h.output, h.size, h.block⟩
theorem Kp.setCell {lo hi : Nat} {a b : World} (h : Kp lo hi a b) {p : Addr} (hp : lo ≤ p.block ∧ p.block < hi) (u : Value) : Kp lo hi a (b.setCell p u) :=
  h.trans ⟨rfl, rfl, rfl, by simp [World.setCell], fun k _ hk => Below.heap_setCell _ _ _ _ (by omega)⟩
theorem below_drewN {B : Nat} {a w : World} (h : Below B a w) (n : Nat) : Below B a (w.drewN n) := ⟨h.os, h.tape, h.output, h.size, h.block⟩

/-- A slice in memory: its cells begin a block from lo on and below hi, of elements of type E, none of which is frozen; they are xs. -/
def Own (w : World) (lo hi : Nat) (E : TypeId) (A : Option Addr) (xs : List Value) : Prop :=
  xs = [] ∨ ∃ g cur, A = some ⟨g, 0, none⟩ ∧ lo ≤ g ∧ g < hi ∧ w.heap[g]? = some (.cells cur E (0, 0)) ∧ xs.length ≤ cur.size ∧ cur.toList.take xs.length = xs

section
variable {w w' : World} {lo hi lo' hi' : Nat} {E : TypeId} {A : Option Addr} {xs : List Value}
theorem Own.reads (h : Own w lo hi E A xs) : Reads w hi 1 A xs.length xs := by
  refine ⟨by simp, fun hn => ?_⟩
  rcases h with rfl | ⟨g, cur, rfl, h1, h2, h3, h4, h5⟩
  · simp at hn
  · refine ⟨_, rfl, h2, fun j u hu => ?_⟩
    have hadd : (⟨g, 0, none⟩ : Addr).add j = ⟨g, j, none⟩ := by unfold Addr.add; split <;> simp_all
    rw [hadd, cell_of_row w g j cur E (0, 0) h3]
    have hj : j < xs.length := (List.getElem?_eq_some_iff.1 hu).1
    rw [← h5, List.getElem?_take, if_pos hj] at hu
    simpa using hu
theorem Own.reads' {B n : Nat} (h : Own w lo hi E A xs) (hB : hi ≤ B) (hn : xs.length = n) : Reads w B 1 A n xs := by
  subst hn; exact h.reads.more hB
theorem Own.keep (h : Own w lo hi E A xs) (hk : ∀ g, lo ≤ g → g < hi → g < w.heap.size → w'.heap[g]? = w.heap[g]?) : Own w' lo hi E A xs := by
  rcases h with rfl | ⟨g, cur, rfl, h1, h2, h3, h4, h5⟩
  · exact .inl rfl
  · exact .inr ⟨g, cur, rfl, h1, h2, (hk g h1 h2 (by
      rcases Nat.lt_or_ge g w.heap.size with h | h
      · exact h
      · rw [Array.getElem?_eq_none h] at h3; cases h3)).trans h3, h4, h5⟩
theorem Own.kp {a b : Nat} (h : Own w lo hi E A xs) (hk : Kp a b w w') (hd : hi ≤ a ∨ b ≤ lo) : Own w' lo hi E A xs :=
  h.keep fun g h1 h2 h3 => hk.block g h3 (by omega)
theorem Own.below {B : Nat} (h : Own w lo hi E A xs) (hb : Below B w w') (hB : hi ≤ B) : Own w' lo hi E A xs :=
  h.keep fun g _ h2 _ => hb.block g (by omega)
theorem Own.drewN (h : Own w lo hi E A xs) (n : Nat) : Own (w.drewN n) lo hi E A xs := h
theorem Own.wide (h : Own w lo hi E A xs) (h1 : lo' ≤ lo) (h2 : hi ≤ hi') : Own w lo' hi' E A xs := by
  rcases h with rfl | ⟨g, cur, rfl, a, b, c⟩
  · exact .inl rfl
  · exact .inr ⟨g, cur, rfl, by omega, by omega, c⟩
theorem Own.nil : Own w lo hi E A [] := .inl rfl
theorem Own.of_row {base : Nat} {v : Value} {n : Nat} (h : w.ownsRow base E 1 v n xs) (hB : w.heap.size ≤ hi) : ∃ A c, v = .slice A n c ∧ n = xs.length ∧ n ≤ c ∧ Own w base hi E A xs := by
  obtain ⟨h1, h2⟩ := h
  rcases h2 with ⟨rfl, rfl⟩ | ⟨g, cap, cur, rfl, hg, hh, hn, hcap, hsz, ht⟩
  · have : xs = [] := List.eq_nil_of_length_eq_zero (by simpa using h1)
    exact ⟨none, 0, rfl, by rw [this]; rfl, Nat.le_refl _, .inl this⟩
  · refine ⟨_, cap, rfl, by omega, hn, .inr ⟨g, cur, rfl, hg, ?_, hh, by omega, by rw [show xs.length = n * 1 from h1]; exact ht⟩⟩
    have := (Array.getElem?_eq_some_iff.1 hh).1
    omega
end

/-- Integers as values in memory. -/
def ints (zs : List Int) : List Value := zs.map (Value.int .i64)
@[simp] theorem ints_len (zs : List Int) : (ints zs).length = zs.length := by simp [ints]
theorem ints_at {zs : List Int} {k : Nat} (h : k < zs.length) : (ints zs)[k]? = some (.int .i64 (zs.getD k 0)) := by
  simp [ints, List.getD, List.getElem?_eq_getElem h]
theorem ints_one (zs : List Int) : ∀ u ∈ ints zs, u.oneCell' = true := ints_oneCell _ zs
/-- A number of a slice of integers, where it lies. -/
theorem int_at {w : World} {B : Nat} {A : Option Addr} {zs : List Int} {k : Nat} (h : Reads w B 1 A zs.length (ints zs)) (hk : k < zs.length) :
    ∃ ad, A = some ad ∧ ad.block < B ∧ w.cell? (ad.add k) = some (.int .i64 (zs.getD k 0)) := by
  obtain ⟨ad, u, e, hb, hu, hc⟩ := h.at_ hk
  rw [ints_at hk] at hu
  cases hu
  exact ⟨ad, e, hb, hc⟩

/-- A block of the call's own that is known whole. -/
def Blk (w : World) (g : Nat) (t : TypeId) (cs : Array Value) : Prop := w.heap[g]? = some (.cells cs t (0, 0))
section
variable {w w' : World} {g : Nat} {t : TypeId} {cs : Array Value}
theorem Blk.lt (h : Blk w g t cs) : g < w.heap.size := by
  rcases Nat.lt_or_ge g w.heap.size with hlt | hge
  · exact hlt
  · unfold Blk at h; rw [Array.getElem?_eq_none hge] at h; cases h
theorem Blk.cell (h : Blk w g t cs) (i : Nat) : w.cell? ⟨g, i, none⟩ = cs[i]? := cell_of_row w g i cs t (0, 0) h
theorem Blk.frozen (h : Blk w g t cs) (i : Nat) : w.frozen? ⟨g, i, none⟩ = false := by
  unfold Blk at h
  simp [World.frozen?, h]
theorem Blk.drewN (h : Blk w g t cs) (n : Nat) : Blk (w.drewN n) g t cs := h
theorem Blk.set_ (h : Blk w g t cs) (i : Nat) (u : Value) : Blk (w.setCell ⟨g, i, none⟩ u) g t (cs.setIfInBounds i u) := by
  unfold Blk at h ⊢
  simp [World.setCell, Array.getElem?_modify, h]
theorem Blk.below {B : Nat} (h : Blk w g t cs) (hb : Below B w w') (hg : g < B) : Blk w' g t cs := (hb.block g hg).trans h
theorem Blk.kp {a b : Nat} (h : Blk w g t cs) (hb : Kp a b w w') (hg : g < a ∨ b ≤ g) : Blk w' g t cs := (hb.block g h.lt hg).trans h
theorem Blk.own {xs : List Value} (h : Blk w g t cs) (hl : xs.length ≤ cs.size) (hx : ∀ j, j < xs.length → cs[j]? = xs[j]?) {lo hi : Nat} (h1 : lo ≤ g) (h2 : g < hi) : Own w lo hi t (some ⟨g, 0, none⟩) xs := by
  refine .inr ⟨g, cs, rfl, h1, h2, h, hl, ?_⟩
  refine List.ext_getElem? fun j => ?_
  rw [List.getElem?_take]
  split
  · rename_i hj
    rw [← hx j hj]; simp
  · rw [List.getElem?_eq_none (by omega)]
theorem blk_of_row {base n c : Nat} {xs : List Value} (h : w.ownsRow base t 1 (.slice (some ⟨g, 0, none⟩) n c) n xs) : ∃ cs, Blk w g t cs ∧ cs.size = c ∧ cs.toList.take n = xs ∧ n ≤ c := by
  rcases h.2 with ⟨h, _⟩ | ⟨g', cap, cur, e, _, hh, hn, _, hsz, ht⟩
  · cases h
  · injection e with e1 e2 e3
    injection e1 with e1
    injection e1 with e1
    subst e1; subst e3
    exact ⟨cur, hh, by omega, by simpa using ht, hn⟩
end
end Go.Proofs.Ytlpibibpckkjhaa
