/-
  Plain laws (no program in sight): the search for a shortest rule (RuleOver), as the program makes it (lists that grow) and as the reference makes it (lists of a fixed length); both find the same.
-/
import Derived.Test.YtciakaecdllfcaaFollow
namespace Go.Proofs.Ytciakaecdllfcaa

/-- The first y from 0 on whose product with n has the remainder 1; 0 if there is none. -/
def inv (p n : Int) : Int := (((List.range p.toNat).find? fun (y : Nat) => md p (n * (y : Int)) == 1).getD 0 : Nat)

theorem inv_range (p n : Int) : 0 ≤ inv p n ∧ (0 < p → inv p n < p) := by
  unfold inv
  refine ⟨by omega, fun hp => ?_⟩
  cases h : (List.range p.toNat).find? fun (y : Nat) => md p (n * (y : Int)) == 1 with
  | none => simp; exact hp
  | some y =>
    have := List.mem_of_find?_eq_some h
    rw [List.mem_range] at this
    simp; omega

structure St where
  c : List Int
  b : List Int
  l : Nat
  m : Nat
  x : Int

/-- The number s of k plus the sum of the products of c of i and s of k - i, i from 1 to a number. -/
def dsum (s c : List Int) (k : Nat) : Nat → Int
  | 0 => s.getD k 0
  | i + 1 => dsum s c k i + c.getD (i + 1) 0 * s.getD (k - (i + 1)) 0

def pad (c : List Int) (n : Nat) : List Int := c ++ List.replicate (n - c.length) 0
theorem pad_len (c : List Int) (n : Nat) : (pad c n).length = max c.length n := by simp [pad]; omega
theorem pad_getD (c : List Int) (n j : Nat) : (pad c n).getD j 0 = c.getD j 0 := by
  unfold pad
  simp only [List.getD, List.getElem?_append, List.getElem?_replicate]
  split
  · rfl
  · rename_i h
    rw [List.getElem?_eq_none (by omega : c.length ≤ j)]
    split <;> rfl

/-- c with the first n of the numbers of b, moved up by m, taken away f times. -/
def updTo (p f : Int) (b c : List Int) (m : Nat) : Nat → List Int
  | 0 => c
  | i + 1 => (updTo p f b c m i).set (i + m) (md p ((updTo p f b c m i).getD (i + m) 0 - f * b.getD i 0))
theorem updTo_len (p f : Int) (b c : List Int) (m : Nat) : ∀ n, (updTo p f b c m n).length = c.length
  | 0 => rfl
  | n + 1 => by simp [updTo, updTo_len p f b c m n]
theorem updTo_getD (p f : Int) (b c : List Int) (m j : Nat) : ∀ n, (updTo p f b c m n).getD j 0 = if m ≤ j ∧ j - m < n ∧ j < c.length then md p (c.getD j 0 - f * b.getD (j - m) 0) else c.getD j 0
  | 0 => by simp [updTo]
  | n + 1 => by
    have ih := updTo_getD p f b c m j n
    rw [updTo]
    by_cases e : n + m = j
    · subst e
      have hne : ¬ (m ≤ n + m ∧ n + m - m < n ∧ n + m < c.length) := by omega
      rw [if_neg hne] at ih
      by_cases hl : n + m < c.length
      · rw [if_pos (by omega)]
        simp only [List.getD, List.getElem?_set, updTo_len]
        simp only [List.getD] at ih
        simp [hl, ih]
      · rw [if_neg (by omega)]
        simp only [List.getD, List.getElem?_set, updTo_len]
        simp [hl]
    · have hs : ((updTo p f b c m n).set (n + m) (md p ((updTo p f b c m n).getD (n + m) 0 - f * b.getD n 0))).getD j 0 = (updTo p f b c m n).getD j 0 := by
        simp only [List.getD, List.getElem?_set]
        rw [if_neg e]
      rw [hs, ih]
      have hiff : (m ≤ j ∧ j - m < n ∧ j < c.length) ↔ (m ≤ j ∧ j - m < n + 1 ∧ j < c.length) := by omega
      by_cases hh : m ≤ j ∧ j - m < n ∧ j < c.length
      · rw [if_pos hh, if_pos (hiff.1 hh)]
      · rw [if_neg hh, if_neg (fun h => hh (hiff.2 h))]

/-- A step of the program's. -/
def step (p : Int) (s : List Int) (k : Nat) (q : St) : St :=
  let d := md p (dsum s q.c k q.l)
  if d = 0 then { q with m := q.m + 1 }
  else
    let f := md p (d * inv p q.x)
    let c := updTo p f q.b (pad q.c (q.b.length + q.m)) q.m q.b.length
    if 2 * q.l ≤ k then { c := c, b := q.c, l := k + 1 - q.l, m := 1, x := d } else { q with c := c, m := q.m + 1 }
def run (p : Int) (s : List Int) : Nat → St
  | 0 => { c := [1], b := [1], l := 0, m := 1, x := 1 }
  | k + 1 => step p s k (run p s k)

/-- A step of the reference's. -/
def stepS (p : Int) (s : List Int) (k : Nat) (q : St) : St :=
  let d := md p (dsum s q.c k q.l)
  if d = 0 then { q with m := q.m + 1 }
  else
    let f := (d * inv p q.x).tmod p
    let c := updTo p f q.b q.c q.m (q.c.length - q.m)
    if 2 * q.l ≤ k then { c := c, b := q.c, l := k + 1 - q.l, m := 1, x := d } else { q with c := c, m := q.m + 1 }
def one (n : Nat) : List Int := (List.replicate n (0 : Int)).set 0 1
def runS (p : Int) (s : List Int) (n : Nat) : Nat → St
  | 0 => { c := one n, b := one n, l := 0, m := 1, x := 1 }
  | k + 1 => stepS p s k (runS p s n k)

def outTo (p : Int) (c : List Int) (n : Nat) : List Int := (List.range n).map fun i => md p (-(c.getD (i + 1) 0))

theorem dsum_congr {s c c' : List Int} {k : Nat} (h : ∀ i, c.getD i 0 = c'.getD i 0) : ∀ n, dsum s c k n = dsum s c' k n
  | 0 => rfl
  | n + 1 => by rw [dsum, dsum, dsum_congr h n, h]

/-- What holds of the program's state at the head of the step k. -/
structure Ok (p : Int) (q : St) (k : Nat) : Prop where
  c : overB p q.c = true
  b : overB p q.b = true
  cl : q.c.length ≤ k + 1
  bl : q.b.length + q.m ≤ k + 2
  l : q.l ≤ k
  m : 1 ≤ q.m
  x : 0 < q.x ∧ q.x ≤ p - 1
  one : 1 ≤ q.c.length

theorem overB_of {p : Int} {l : List Int} (h : ∀ i, i < l.length → 0 ≤ l.getD i 0 ∧ l.getD i 0 ≤ p - 1) : overB p l = true := by
  unfold overB
  rw [List.all_eq_true]
  intro x hx
  obtain ⟨i, hi, rfl⟩ := List.mem_iff_getElem.1 hx
  have := h i hi
  simpa [List.getD, List.getElem?_eq_getElem hi] using this

theorem overB_upd {p f : Int} {b c : List Int} {m n : Nat} (hp : 0 < p) (h : overB p c = true) : overB p (updTo p f b c m n) = true := by
  refine overB_of fun i _ => ?_
  rw [updTo_getD]
  split
  · have := md_range (p := p) (x := c.getD i 0 - f * b.getD (i - m) 0) hp; omega
  · exact overB_getD hp h i
theorem overB_pad {p : Int} {c : List Int} {n : Nat} (hp : 0 < p) (h : overB p c = true) : overB p (pad c n) = true :=
  overB_of fun i _ => by rw [pad_getD]; exact overB_getD hp h i

theorem ok_step {p : Int} {s : List Int} {q : St} {k : Nat} (hp : 1 < p) (h : Ok p q k) : Ok p (step p s k q) (k + 1) := by
  obtain ⟨h1, h2, h3, h4, h5, h6, h7, h8⟩ := h
  have hd := md_range (p := p) (x := dsum s q.c k q.l) (by omega)
  unfold step
  simp only
  split
  · exact ⟨h1, h2, by simp only; omega, by simp only; omega, by simp only; omega, by simp only; omega, h7, h8⟩
  · rename_i hne
    have hc := overB_upd (f := md p (md p (dsum s q.c k q.l) * inv p q.x)) (b := q.b) (m := q.m) (n := q.b.length) (by omega) (overB_pad (n := q.b.length + q.m) (by omega) h1)
    split
    · exact ⟨hc, h1, by simp only [updTo_len, pad_len]; omega, by simp only; omega, by simp only; omega, by simp, by simp only; omega, by simp only [updTo_len, pad_len]; omega⟩
    · exact ⟨hc, h2, by simp only [updTo_len, pad_len]; omega, by simp only; omega, by simp only; omega, by simp only; omega, h7, by simp only [updTo_len, pad_len]; omega⟩
theorem ok_run {p : Int} {s : List Int} (hp : 1 < p) : ∀ k, Ok p (run p s k) k
  | 0 => ⟨by simp [run, overB]; omega, by simp [run, overB]; omega, by simp [run], by simp [run], by simp [run], by simp [run], by simp [run]; omega, by simp [run]⟩
  | k + 1 => ok_step hp (ok_run hp k)

/-- How the reference's state stands to the program's. -/
structure Alike (q r : St) (n : Nat) : Prop where
  c : ∀ i, q.c.getD i 0 = r.c.getD i 0
  b : ∀ i, q.b.getD i 0 = r.b.getD i 0
  cl : r.c.length = n
  bl : r.b.length = n
  l : q.l = r.l
  m : q.m = r.m
  x : q.x = r.x

theorem md_id {p x : Int} (hp : 0 < p) (h : 0 ≤ x ∧ x ≤ p - 1) : md p x = x := by
  rw [md_emod hp]; exact Int.emod_eq_of_lt h.1 (by omega)

theorem alike_step {p : Int} {s : List Int} {q r : St} {k n : Nat} (hp : 1 < p) (hn : k + 2 ≤ n) (ho : Ok p q k) (h : Alike q r n) : Alike (step p s k q) (stepS p s k r) n := by
  obtain ⟨h1, h2, h3, h4, h5, h6, h7⟩ := h
  have hd := md_range (p := p) (x := dsum s q.c k q.l) (by omega)
  have hi := inv_range p q.x
  have hdd : md p (dsum s r.c k r.l) = md p (dsum s q.c k q.l) := by rw [← h5, dsum_congr h1]
  have hf : (md p (dsum s r.c k r.l) * inv p r.x).tmod p = md p (md p (dsum s q.c k q.l) * inv p q.x) := by
    rw [hdd, ← h7, md_emod (by omega), md_emod (by omega), Int.tmod_eq_emod_of_nonneg (Int.mul_nonneg (Int.emod_nonneg _ (by omega)) hi.1)]
  unfold step stepS
  simp only
  rw [hf, hdd]
  split
  · exact ⟨h1, h2, h3, h4, h5, by simp only; omega, h7⟩
  · rename_i hne
    have hcc : ∀ i, (updTo p (md p (md p (dsum s q.c k q.l) * inv p q.x)) q.b (pad q.c (q.b.length + q.m)) q.m q.b.length).getD i 0 =
        (updTo p (md p (md p (dsum s q.c k q.l) * inv p q.x)) r.b r.c r.m (r.c.length - r.m)).getD i 0 := by
      intro i
      rw [updTo_getD, updTo_getD, pad_getD, pad_len, ← h6, ← h1, ← h2]
      by_cases c1 : q.m ≤ i ∧ i - q.m < q.b.length ∧ i < max q.c.length (q.b.length + q.m)
      · rw [if_pos c1, if_pos (by have := ho.bl; omega)]
      · rw [if_neg c1]
        split
        · rename_i c2
          have hb0 : q.b.getD (i - q.m) 0 = 0 := by
            simp only [List.getD]
            rw [List.getElem?_eq_none (by omega)]; rfl
          rw [hb0, Int.mul_zero, Int.sub_zero, md_id (by omega) (overB_getD (by omega) ho.c i)]
        · rfl
    rw [← h5]
    split
    · exact ⟨hcc, h1, by simp only [updTo_len]; exact h3, h3, rfl, rfl, rfl⟩
    · exact ⟨hcc, h2, by simp only [updTo_len]; exact h3, h4, rfl, by simp only; omega, h7⟩

theorem one_getD (n i : Nat) (hn : 1 ≤ n) : (one n).getD i 0 = ([1] : List Int).getD i 0 := by
  unfold one
  simp only [List.getD, List.getElem?_set, List.getElem?_replicate, List.length_replicate]
  cases i with
  | zero => simp [show 0 < n from hn]
  | succ i => simp; split <;> rfl

theorem alike_run {p : Int} {s : List Int} {n : Nat} (hp : 1 < p) : ∀ k, k + 1 ≤ n → Alike (run p s k) (runS p s n k) n
  | 0, h => ⟨fun i => (one_getD n i h).symm, fun i => (one_getD n i h).symm, by simp [runS, one], by simp [runS, one], rfl, rfl, rfl⟩
  | k + 1, h => alike_step hp (by omega) (ok_run hp k) (alike_run hp k (by omega))

theorem outTo_congr {p : Int} {c c' : List Int} (h : ∀ i, c.getD i 0 = c'.getD i 0) (n : Nat) : outTo p c n = outTo p c' n := by
  unfold outTo; simp only [h]

/-- THE RULE THAT IS FOUND: the program's and the reference's. -/
def ruleOf (p : Int) (s : List Int) : List Int := outTo p (run p s s.length).c (run p s s.length).l
theorem ruleOf_eq {p : Int} {s : List Int} {n : Nat} (hp : 1 < p) (hn : s.length + 1 ≤ n) : outTo p (runS p s n s.length).c (runS p s n s.length).l = ruleOf p s := by
  have h := alike_run (s := s) hp s.length hn
  unfold ruleOf
  rw [h.l]
  exact (outTo_congr h.c _).symm
end Go.Proofs.Ytciakaecdllfcaa
