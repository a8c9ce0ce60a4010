/-
  Plain laws: what is saved, its bytes, and what bytes begin with. No program in sight.
-/
import Derived.Test.YtgfmnolmokpgnaaDoorTxt
import Derived.Test.YtgfmnolmokpgnaaDoorPoly
namespace Go.Proofs.YtgfmnolmokpgnaaDoor
open Go.RowKit

/-- What is saved. -/
structure Sav where
  nm : List UInt8
  P : List (Nat × Nat)
  W : List Int

def lowB (c : UInt8) : Bool := decide (97 ≤ c.toNat) && decide (c.toNat ≤ 122)
def nameB (l : List UInt8) : Bool := decide (1 ≤ l.length) && decide (l.length ≤ 8) && l.all lowB
def termB (t : Int) : Bool := decide (-1000000 ≤ t) && decide (t ≤ 1000000)
def wholeB (l : List Int) : Bool := decide (1 ≤ l.length) && decide (l.length ≤ 17) && l.all termB && (decide (l.length = 1) || !(l.getD (l.length - 1) 0 == 0))
def savB (v : Sav) : Bool := nameB v.nm && (polyB v.P && wholeB v.W)

def le4 (n : Nat) : List UInt8 := [UInt8.ofNat n, UInt8.ofNat (n / 256), UInt8.ofNat (n / 65536), UInt8.ofNat (n / 16777216)]
def le2 (n : Nat) : List UInt8 := [UInt8.ofNat n, UInt8.ofNat (n / 256)]
def pairL (z : Nat × Nat) : List UInt8 := le4 (bitsN z.1) ++ le4 (bitsN z.2)
def termL (t : Int) : List UInt8 := le4 (t + 2147483648).toNat
def headL (v : Sav) : List UInt8 := 80 :: 79 :: 76 :: 49 :: UInt8.ofNat v.nm.length :: (v.nm ++ [UInt8.ofNat v.P.length])
def pairsL (l : List (Nat × Nat)) : List UInt8 := l.flatMap pairL
def termsL (l : List Int) : List UInt8 := l.flatMap termL
def bodyL (v : Sav) : List UInt8 := headL v ++ pairsL v.P ++ UInt8.ofNat v.W.length :: termsL v.W
def storeL (v : Sav) : List UInt8 := bodyL v ++ le2 (chk 0 (bodyL v))

theorem u8_nat (n : Nat) : (UInt8.ofNat n).toNat = n % 256 := UInt8.toNat_ofNat'
theorem le4_len (n : Nat) : (le4 n).length = 4 := rfl
theorem pairL_len (z : Nat × Nat) : (pairL z).length = 8 := rfl
theorem termL_len (t : Int) : (termL t).length = 4 := rfl
theorem pairsL_len (l : List (Nat × Nat)) : (pairsL l).length = 8 * l.length := by
  induction l with
  | nil => rfl
  | cons z l ih =>
    rw [pairsL, List.flatMap_cons, List.length_append, pairL_len, ← pairsL, ih, List.length_cons]
    omega
theorem termsL_len (l : List Int) : (termsL l).length = 4 * l.length := by
  induction l with
  | nil => rfl
  | cons z l ih =>
    rw [termsL, List.flatMap_cons, List.length_append, termL_len, ← termsL, ih, List.length_cons]
    omega
theorem headL_len (v : Sav) : (headL v).length = 6 + v.nm.length := by
  simp [headL]; omega
theorem bodyL_len (v : Sav) : (bodyL v).length = 7 + v.nm.length + 8 * v.P.length + 4 * v.W.length := by
  rw [bodyL, List.length_append, List.length_append, headL_len, pairsL_len, List.length_cons, termsL_len]
  omega
theorem storeL_len (v : Sav) : (storeL v).length = 9 + v.nm.length + 8 * v.P.length + 4 * v.W.length := by
  rw [storeL, List.length_append, bodyL_len]
  show _ + 2 = _
  omega

/-- A byte's value. -/
def at1 (l : List UInt8) (k : Nat) : Nat := (l.getD k 0).toNat
theorem at1_lt (l : List UInt8) (k : Nat) : at1 l k < 256 := (l.getD k 0).toNat_lt
/-- The number of four bytes. -/
def rd4 (l : List UInt8) (k : Nat) : Nat := at1 l k + 256 * at1 l (k + 1) + 65536 * at1 l (k + 2) + 16777216 * at1 l (k + 3)
theorem rd4_lt (l : List UInt8) (k : Nat) : rd4 l k < 4294967296 := by
  have := at1_lt l k; have := at1_lt l (k + 1); have := at1_lt l (k + 2); have := at1_lt l (k + 3)
  unfold rd4; omega
def rdP (l : List UInt8) (a n : Nat) : List (Nat × Nat) := (List.range n).map fun j => (rd4 l (a + 8 * j), rd4 l (a + 8 * j + 4))
def rdW (l : List UInt8) (a n : Nat) : List Int := (List.range n).map fun j => (rd4 l (a + 4 * j) : Int) - 2147483648
@[simp] theorem rdP_len (l : List UInt8) (a n : Nat) : (rdP l a n).length = n := by simp [rdP]
@[simp] theorem rdW_len (l : List UInt8) (a n : Nat) : (rdW l a n).length = n := by simp [rdW]
theorem rdP_snoc (l : List UInt8) (a n : Nat) : rdP l a (n + 1) = rdP l a n ++ [(rd4 l (a + 8 * n), rd4 l (a + 8 * n + 4))] := by
  simp [rdP, List.range_succ]
theorem rdW_snoc (l : List UInt8) (a n : Nat) : rdW l a (n + 1) = rdW l a n ++ [(rd4 l (a + 4 * n) : Int) - 2147483648] := by
  simp [rdW, List.range_succ]

/-- Where the count of the terms lies; of the whole's terms; the check. -/
def nA (l : List UInt8) : Nat := 5 + at1 l 4
def nB (l : List UInt8) : Nat := nA l + 1 + 8 * at1 l (nA l)
def nC (l : List UInt8) : Nat := nB l + 1 + 4 * at1 l (nB l)
theorem nA_lt (l : List UInt8) : nA l < 261 := by have := at1_lt l 4; unfold nA; omega
theorem nB_lt (l : List UInt8) : nB l < 2302 := by have := nA_lt l; have := at1_lt l (nA l); unfold nB; omega
theorem nC_lt (l : List UInt8) : nC l < 3323 := by have := nB_lt l; have := at1_lt l (nB l); unfold nC; omega
def longB (l : List UInt8) : Bool := decide (5 ≤ l.length) && (decide (nA l + 1 ≤ l.length) && (decide (nB l + 1 ≤ l.length) && decide (nC l + 2 ≤ l.length)))
def begV (l : List UInt8) : Sav := ⟨(l.drop 5).take (at1 l 4), rdP l (nA l + 1) (at1 l (nA l)), rdW l (nB l + 1) (at1 l (nB l))⟩
/-- Bytes begin with what is saved; that, and how many bytes it has. -/
def begB (l : List UInt8) : Bool := longB l && (savB (begV l) && decide (storeL (begV l) = l.take (nC l + 2)))
def begR (l : List UInt8) : Sav := if begB l then begV l else ⟨[], [], []⟩
def begM (l : List UInt8) : Nat := if begB l then nC l + 2 else 0

theorem begB_no {l : List UInt8} (h : longB l = false) : begB l = false := by rw [begB, h]; rfl
theorem begB_no2 {l : List UInt8} (h : savB (begV l) = false) : begB l = false := by rw [begB, h]; simp
theorem begB_no3 {l : List UInt8} (h : ¬ storeL (begV l) = l.take (nC l + 2)) : begB l = false := by rw [begB]; simp [h]
theorem begB_yes {l : List UInt8} (h1 : longB l = true) (h2 : savB (begV l) = true) (h3 : storeL (begV l) = l.take (nC l + 2)) : begB l = true := by rw [begB, h1, h2]; simp [h3]
theorem longB_no1 {l : List UInt8} (h : l.length < 5) : longB l = false := by rw [longB]; simp; omega
theorem longB_no2 {l : List UInt8} (h : l.length < nA l + 1) : longB l = false := by rw [longB]; simp; omega
theorem longB_no3 {l : List UInt8} (h : l.length < nB l + 1) : longB l = false := by rw [longB]; simp; omega
theorem longB_no4 {l : List UInt8} (h : l.length < nC l + 2) : longB l = false := by rw [longB]; simp; omega
theorem longB_yes {l : List UInt8} (h1 : nA l + 1 ≤ l.length) (h2 : nB l + 1 ≤ l.length) (h3 : nC l + 2 ≤ l.length) : longB l = true := by
  have : 5 ≤ l.length := by unfold nA at h1; omega
  rw [longB]; simp; omega
theorem begV_len {l : List UInt8} (h : longB l = true) : (storeL (begV l)).length = nC l + 2 := by
  rw [longB] at h
  simp only [Bool.and_eq_true, decide_eq_true_eq] at h
  have h2 := h.2.1
  unfold nA at h2
  rw [storeL_len]
  simp only [begV, List.length_take, List.length_drop, rdP_len, rdW_len]
  unfold nC nB nA
  omega
/-- The prefix test of the program's loader is the reference's comparison. -/
theorem prefix_iff {l : List UInt8} (h : longB l = true) : storeL (begV l) <+: l ↔ storeL (begV l) = l.take (nC l + 2) := by
  rw [List.prefix_iff_eq_take, begV_len h]
end Go.Proofs.YtgfmnolmokpgnaaDoor
