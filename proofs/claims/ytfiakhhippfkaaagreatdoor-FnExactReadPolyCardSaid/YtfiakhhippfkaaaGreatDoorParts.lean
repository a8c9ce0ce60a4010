/-
  Plain laws (no program in sight): the parts of a text between marks, as the reference cuts them and as strings.Split does.
-/
import Derived.Lib.SplitLaws
import Derived.Lib.Hide
namespace Go.Proofs.YtfiakhhippfkaaaGreatDoor

/-- The parts of a text between marks. -/
def parts (c : UInt8) : List UInt8 → List (List UInt8)
  | [] => [[]]
  | b :: l => if b = c then [] :: parts c l else ((b :: (parts c l).headD []) :: (parts c l).tail)

theorem parts_ne (c : UInt8) (l : List UInt8) : parts c l ≠ [] := by
  cases l with
  | nil => simp [parts]
  | cons b l => unfold parts; split <;> simp
theorem parts_pos (c : UInt8) (l : List UInt8) : 1 ≤ (parts c l).length := by
  have := parts_ne c l
  cases h : parts c l with
  | nil => exact absurd h this
  | cons a t => simp
theorem parts_free {c : UInt8} : ∀ {x : List UInt8}, (∀ b ∈ x, b ≠ c) → parts c x = [x]
  | [], _ => rfl
  | b :: x, h => by
    unfold parts
    rw [if_neg (h b (by simp)), parts_free (fun b' hb => h b' (by simp [hb]))]
    rfl
theorem parts_cut {c : UInt8} : ∀ {x y : List UInt8}, (∀ b ∈ x, b ≠ c) → parts c (x ++ c :: y) = x :: parts c y
  | [], y, _ => by simp [parts]
  | b :: x, y, h => by
    rw [List.cons_append, parts, if_neg (h b (by simp)), parts_cut (fun b' hb => h b' (by simp [hb]))]
    rfl
theorem parts_len (c : UInt8) : ∀ l : List UInt8, (parts c l).length = l.count c + 1
  | [] => rfl
  | b :: l => by
    unfold parts
    split
    · rename_i h; subst h; simp [parts_len b l]
    · rename_i h
      have := parts_len c l
      simp [h, this]
theorem parts_le (c : UInt8) (l : List UInt8) : (parts c l).length ≤ l.length + 1 := by
  have := List.count_le_length (a := c) (l := l)
  rw [parts_len]; omega

/-- The cut under way: k bytes are seen, the part that is open begins at f, done are the parts before it. -/
def Cutting (c : UInt8) (l : List UInt8) (k f : Nat) (done : List (List UInt8)) : Prop :=
  (k ≤ l.length ∧ f ≤ k ∧ parts c l = done ++ parts c (l.drop f) ∧ ∀ j, f ≤ j → j < k → l[j]? ≠ some c) ∨ (k = l.length + 1 ∧ f = k ∧ parts c l = done)
theorem Cutting.start (c : UInt8) (l : List UInt8) : Cutting c l 0 0 [] := .inl ⟨Nat.zero_le _, Nat.le_refl _, by simp, fun j _ h => by omega⟩
theorem Cutting.le {c : UInt8} {l : List UInt8} {k f : Nat} {done : List (List UInt8)} (h : Cutting c l k f done) : k ≤ l.length + 1 ∧ f ≤ k ∧ done.length ≤ l.length + 1 := by
  rcases h with ⟨h1, h2, h3, _⟩ | ⟨h1, h2, h3⟩
  · have := parts_le c l
    rw [h3] at this
    simp at this
    omega
  · have := parts_le c l
    rw [h3] at this
    omega
theorem take_drop_free {c : UInt8} {l : List UInt8} {k f : Nat} (h : ∀ j, f ≤ j → j < k → l[j]? ≠ some c) : ∀ b ∈ (l.drop f).take (k - f), b ≠ c := by
  intro b hb e
  subst e
  obtain ⟨i, hi⟩ := List.mem_iff_getElem?.1 hb
  rw [List.getElem?_take] at hi
  split at hi
  · rename_i hlt
    rw [List.getElem?_drop] at hi
    exact h (f + i) (by omega) (by omega) hi
  · cases hi
theorem Cutting.skip {c : UInt8} {l : List UInt8} {k f : Nat} {done : List (List UInt8)} (h : Cutting c l k f done) (hk : k < l.length) (hc : l[k]? ≠ some c) : Cutting c l (k + 1) f done := by
  rcases h with ⟨h1, h2, h3, h4⟩ | ⟨h1, _⟩
  · refine .inl ⟨by omega, by omega, h3, fun j hj hj' => ?_⟩
    rcases Nat.lt_or_ge j k with h | h
    · exact h4 j hj h
    · have : j = k := by omega
      subst this; exact hc
  · omega
theorem Cutting.cut {c : UInt8} {l : List UInt8} {k f : Nat} {done : List (List UInt8)} (h : Cutting c l k f done) (hk : k < l.length) (hc : l[k]? = some c) : Cutting c l (k + 1) (k + 1) (done ++ [(l.drop f).take (k - f)]) := by
  rcases h with ⟨h1, h2, h3, h4⟩ | ⟨h1, _⟩
  · refine .inl ⟨by omega, by omega, ?_, fun j hj hj' => by omega⟩
    have e : l.drop f = (l.drop f).take (k - f) ++ c :: l.drop (k + 1) := by
      have e1 : l.drop f = (l.drop f).take (k - f) ++ (l.drop f).drop (k - f) := (List.take_append_drop _ _).symm
      have e2 : (l.drop f).drop (k - f) = c :: l.drop (k + 1) := by
        rw [List.drop_drop, show f + (k - f) = k by omega, List.drop_eq_getElem_cons hk]
        rw [List.getElem?_eq_getElem hk] at hc
        injection hc with hc
        rw [hc]
      rw [e2] at e1
      exact e1
    rw [h3]
    rw [show parts c (l.drop f) = parts c ((l.drop f).take (k - f) ++ c :: l.drop (k + 1)) by rw [← e]]
    rw [parts_cut (take_drop_free h4)]
    simp
  · omega
theorem Cutting.last {c : UInt8} {l : List UInt8} {k f : Nat} {done : List (List UInt8)} (h : Cutting c l k f done) (hk : k = l.length) : Cutting c l (k + 1) (k + 1) (done ++ [(l.drop f).take (k - f)]) := by
  rcases h with ⟨h1, h2, h3, h4⟩ | ⟨h1, _⟩
  · refine .inr ⟨by omega, rfl, ?_⟩
    have e : (l.drop f).take (k - f) = l.drop f := List.take_of_length_le (by simp; omega)
    rw [h3, parts_free (x := l.drop f) (by rw [← e]; exact take_drop_free h4), e]
  · omega
theorem Cutting.all {c : UInt8} {l : List UInt8} {k f : Nat} {done : List (List UInt8)} (h : Cutting c l k f done) (hk : l.length < k) : done = parts c l := by
  rcases h with ⟨h1, _⟩ | ⟨_, _, h⟩
  · omega
  · exact h.symm

/-- A text of bytes. -/
def txt (l : List UInt8) : ByteArray := ⟨l.toArray⟩
@[simp] theorem txt_data (l : List UInt8) : (txt l).data.toList = l := by simp [txt]
theorem txt_size (l : List UInt8) : (txt l).size = l.length := by simp [txt, ByteArray.size]
theorem txt_of (s : ByteArray) : txt s.data.toList = s := by simp [txt]
theorem extract_txt (s : ByteArray) (a b : Nat) : s.extract a b = txt ((s.data.toList.drop a).take (b - a)) := by
  apply ByteArray.ext
  simp only [txt, ByteArray.data_extract]
  apply Array.ext'
  simp [List.extract_eq_take_drop]

theorem index_cons (b c : UInt8) (l : List UInt8) : Lib.index (b :: l) [c] = if b = c then 0 else if Lib.index l [c] == -1 then -1 else Lib.index l [c] + 1 := by
  rw [Lib.index]
  by_cases h : b = c
  · subst h; simp [List.isPrefixOf]
  · have hp : ([c] : List UInt8).isPrefixOf (b :: l) = false := by simp [List.isPrefixOf, Ne.symm h]
    rw [hp, if_neg h]; simp
theorem splitK_parts (c : UInt8) : ∀ l : List UInt8, Lib.splitK [c] 0 (l.count c) l = parts c l
  | [] => rfl
  | b :: l => by
    have ih := splitK_parts c l
    by_cases h : b = c
    · subst h
      have hi : Lib.index (b :: l) [b] = 0 := by rw [index_cons, if_pos rfl]
      rw [List.count_cons_self, Lib.splitK, hi, if_neg (by decide)]
      unfold parts
      rw [if_pos rfl, ← ih]
      simp
    · rw [List.count_cons_of_ne (by simpa using h)]
      unfold parts
      rw [if_neg h, ← ih]
      cases hk : l.count c with
      | zero => rfl
      | succ k =>
        have hm : Lib.index l [c] ≠ -1 := fun e => by
          have := Lib.count_miss e
          rw [Lib.count_one, hk] at this
          omega
        have hge := Lib.index_ge l [c]
        obtain ⟨j, hj⟩ : ∃ j : Nat, Lib.index l [c] = j := ⟨(Lib.index l [c]).toNat, by omega⟩
        have hm' : ¬ ((j : Int) == -1) = true := by simp
        have hi : Lib.index (b :: l) [c] = ((j + 1 : Nat) : Int) := by rw [index_cons, if_neg h, hj, if_neg hm']; omega
        have hm2 : ¬ (((j + 1 : Nat) : Int) == -1) = true := by
          intro e
          have := beq_iff_eq.1 e
          omega
        simp only [Lib.splitK, hi, hj]
        rw [if_neg hm2, if_neg hm']
        simp [Nat.add_assoc]
/-- strings.Split at a mark of one byte. -/
theorem splitB_parts (c : UInt8) (s : ByteArray) : Lib.splitB (txt [c]) 0 (Lib.countB s (txt [c])) s = (parts c s.data.toList).map txt := by
  have h := Lib.splitB_data (txt [c]) 0 (Lib.countB s (txt [c])) s
  have hc : Lib.countB s (txt [c]) = s.data.toList.count c := by rw [Lib.countB, txt_data, Lib.count_one]
  rw [txt_data, hc, splitK_parts, ← hc] at h
  rw [← h, List.map_map]
  conv => lhs; rw [← List.map_id (Lib.splitB (txt [c]) 0 (Lib.countB s (txt [c])) s)]
  apply List.map_congr_left
  intro x _
  simp [txt_of]
theorem countB_parts (c : UInt8) (s : ByteArray) : Lib.countB s (txt [c]) + 1 = (parts c s.data.toList).length := by
  rw [Lib.countB, txt_data, Lib.count_one, parts_len]
end Go.Proofs.YtfiakhhippfkaaaGreatDoor
