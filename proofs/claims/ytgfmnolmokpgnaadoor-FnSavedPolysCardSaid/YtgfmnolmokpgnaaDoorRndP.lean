/-
  Plain laws: what is stored is what its bytes begin with; what is recovered of all that is stored, cut or bent. No program in sight.
-/
import Derived.Test.YtgfmnolmokpgnaaDoorRowsP
namespace Go.Proofs.YtgfmnolmokpgnaaDoor
open Go.RowKit

theorem at1_off (a b : List UInt8) (k : Nat) : at1 (a ++ b) (a.length + k) = at1 b k := by
  simp [at1, List.getD, List.getElem?_append_right]
theorem at1_mid (a b : List UInt8) (x : UInt8) : at1 (a ++ x :: b) a.length = x.toNat := at1_off a (x :: b) 0
theorem rd4_off (a b : List UInt8) (k : Nat) : rd4 (a ++ b) (a.length + k) = rd4 b k := by
  simp only [rd4, Nat.add_assoc, at1_off]
theorem rd4_le4 (n : Nat) (h : n < 4294967296) (b : List UInt8) : rd4 (le4 n ++ b) 0 = n := by
  have e : rd4 (le4 n ++ b) 0 = n % 256 + 256 * (n / 256 % 256) + 65536 * (n / 65536 % 256) + 16777216 * (n / 16777216 % 256) := by
    simp [rd4, at1, le4, List.getD]
  rw [e]; omega
theorem bits_fin {x : Nat} (h : fin32B x = true) : bitsN x = x := by
  obtain ⟨s, m, i, hr, _⟩ := fin_number h
  have : FloatKind.f32.format.order x x = some .eq := by
    unfold Ieee.Format.order
    rw [hr]
    simp [Ieee.Datum.order]
  rw [bitsN, this]; rfl

theorem rdP_cons (l : List UInt8) (a n : Nat) : rdP l a (n + 1) = (rd4 l a, rd4 l (a + 4)) :: rdP l (a + 8) n := by
  simp only [rdP, List.range_succ_eq_map, List.map_cons, List.map_map]
  congr 1
  apply List.map_congr_left
  intro j _
  simp only [Function.comp]
  rw [show a + 8 * (j + 1) = a + 8 + 8 * j by omega]
theorem rdW_cons (l : List UInt8) (a n : Nat) : rdW l a (n + 1) = ((rd4 l a : Int) - 2147483648) :: rdW l (a + 4) n := by
  simp only [rdW, List.range_succ_eq_map, List.map_cons, List.map_map]
  congr 1
  apply List.map_congr_left
  intro j _
  simp only [Function.comp]
  rw [show a + 4 * (j + 1) = a + 4 + 4 * j by omega]
theorem rdP_back : ∀ (P : List (Nat × Nat)) (a b : List UInt8), P.all finCB = true → (∀ z ∈ P, z.1 < 4294967296 ∧ z.2 < 4294967296) → rdP (a ++ (pairsL P ++ b)) a.length P.length = P
  | [], _, _, _, _ => rfl
  | z :: P, a, b, h, hb => by
    rw [List.all_cons, Bool.and_eq_true] at h
    obtain ⟨h1, h2⟩ := h
    unfold finCB at h1
    rw [Bool.and_eq_true] at h1
    obtain ⟨b1, b2⟩ := hb z (by simp)
    have e : a ++ (pairsL (z :: P) ++ b) = (a ++ pairL z) ++ (pairsL P ++ b) := by simp [pairsL]
    have e1 : a ++ (pairsL (z :: P) ++ b) = a ++ (le4 (bitsN z.1) ++ (le4 (bitsN z.2) ++ (pairsL P ++ b))) := by simp [pairsL, pairL]
    have e2 : a ++ (pairsL (z :: P) ++ b) = (a ++ le4 (bitsN z.1)) ++ (le4 (bitsN z.2) ++ (pairsL P ++ b)) := by simp [pairsL, pairL]
    have r1 : rd4 (a ++ (pairsL (z :: P) ++ b)) a.length = z.1 := by
      rw [e1, ← Nat.add_zero a.length, rd4_off, rd4_le4 _ (by rw [bits_fin h1.1]; exact b1), bits_fin h1.1]
    have r2 : rd4 (a ++ (pairsL (z :: P) ++ b)) (a.length + 4) = z.2 := by
      rw [e2, show a.length + 4 = (a ++ le4 (bitsN z.1)).length + 0 by simp [le4_len], rd4_off, rd4_le4 _ (by rw [bits_fin h1.2]; exact b2), bits_fin h1.2]
    have ih := rdP_back P (a ++ pairL z) b h2 (fun y hy => hb y (by simp [hy]))
    rw [List.length_append, pairL_len, ← e] at ih
    rw [List.length_cons, rdP_cons, r1, r2, ih]
theorem rdW_back : ∀ (W : List Int) (a b : List UInt8), W.all termB = true → rdW (a ++ (termsL W ++ b)) a.length W.length = W
  | [], _, _, _ => rfl
  | t :: W, a, b, h => by
    rw [List.all_cons, Bool.and_eq_true] at h
    obtain ⟨h1, h2⟩ := h
    unfold termB at h1
    simp only [Bool.and_eq_true, decide_eq_true_eq] at h1
    have e : a ++ (termsL (t :: W) ++ b) = (a ++ termL t) ++ (termsL W ++ b) := by simp [termsL]
    have e1 : a ++ (termsL (t :: W) ++ b) = a ++ (le4 (t + 2147483648).toNat ++ (termsL W ++ b)) := by simp [termsL, termL]
    have r1 : rd4 (a ++ (termsL (t :: W) ++ b)) a.length = (t + 2147483648).toNat := by
      rw [e1, ← Nat.add_zero a.length, rd4_off, rd4_le4 _ (by omega)]
    have ih := rdW_back W (a ++ termL t) b h2
    rw [List.length_append, termL_len, ← e] at ih
    rw [List.length_cons, rdW_cons, r1, ih, show (((t + 2147483648).toNat : Nat) : Int) - 2147483648 = t by omega]

/-- It can be saved, and its numbers are of 32 bits. -/
structure Gd (v : Sav) : Prop where
  ok : savB v = true
  b : ∀ z ∈ v.P, z.1 < 4294967296 ∧ z.2 < 4294967296

theorem rt {v : Sav} (h : Gd v) (r : List UInt8) : begB (storeL v ++ r) = true ∧ begV (storeL v ++ r) = v ∧ nC (storeL v ++ r) + 2 = (storeL v).length := by
  have hs := h.ok
  rw [savB, Bool.and_eq_true, Bool.and_eq_true] at hs
  obtain ⟨s1, s2, s3⟩ := hs
  unfold nameB at s1
  unfold polyB at s2
  unfold wholeB at s3
  simp only [Bool.and_eq_true, decide_eq_true_eq] at s1 s2 s3
  have n1 : v.nm.length ≤ 8 := s1.1.2
  have n2 : v.P.length ≤ 17 := s2.1.1.2
  have n3 : v.W.length ≤ 17 := s3.1.1.2
  have v1 : storeL v ++ r = [80, 79, 76, 49] ++ UInt8.ofNat v.nm.length :: (v.nm ++ (UInt8.ofNat v.P.length :: (pairsL v.P ++ (UInt8.ofNat v.W.length :: (termsL v.W ++ (le2 (chk 0 (bodyL v)) ++ r)))))) := by
    simp [storeL, bodyL, headL]
  have v1' : storeL v ++ r = [80, 79, 76, 49, UInt8.ofNat v.nm.length] ++ (v.nm ++ (UInt8.ofNat v.P.length :: (pairsL v.P ++ (UInt8.ofNat v.W.length :: (termsL v.W ++ (le2 (chk 0 (bodyL v)) ++ r)))))) := v1
  have v2 : storeL v ++ r = ([80, 79, 76, 49, UInt8.ofNat v.nm.length] ++ v.nm) ++ UInt8.ofNat v.P.length :: (pairsL v.P ++ (UInt8.ofNat v.W.length :: (termsL v.W ++ (le2 (chk 0 (bodyL v)) ++ r)))) := by
    rw [v1']; simp
  have v3 : storeL v ++ r = headL v ++ (pairsL v.P ++ (UInt8.ofNat v.W.length :: (termsL v.W ++ (le2 (chk 0 (bodyL v)) ++ r)))) := by
    simp [storeL, bodyL]
  have v4 : storeL v ++ r = (headL v ++ pairsL v.P) ++ UInt8.ofNat v.W.length :: (termsL v.W ++ (le2 (chk 0 (bodyL v)) ++ r)) := by
    simp [storeL, bodyL]
  have v5 : storeL v ++ r = (headL v ++ pairsL v.P ++ [UInt8.ofNat v.W.length]) ++ (termsL v.W ++ (le2 (chk 0 (bodyL v)) ++ r)) := by
    simp [storeL, bodyL]
  have a1 : at1 (storeL v ++ r) 4 = v.nm.length := by
    have h0 := at1_mid [80, 79, 76, 49] (v.nm ++ (UInt8.ofNat v.P.length :: (pairsL v.P ++ (UInt8.ofNat v.W.length :: (termsL v.W ++ (le2 (chk 0 (bodyL v)) ++ r)))))) (UInt8.ofNat v.nm.length)
    rw [← v1] at h0
    rw [u8_nat, Nat.mod_eq_of_lt (by omega)] at h0
    exact h0
  have a2 : at1 (storeL v ++ r) (5 + v.nm.length) = v.P.length := by
    have h0 := at1_mid ([80, 79, 76, 49, UInt8.ofNat v.nm.length] ++ v.nm) (pairsL v.P ++ (UInt8.ofNat v.W.length :: (termsL v.W ++ (le2 (chk 0 (bodyL v)) ++ r)))) (UInt8.ofNat v.P.length)
    rw [← v2, u8_nat, Nat.mod_eq_of_lt (by omega), show ([80, 79, 76, 49, UInt8.ofNat v.nm.length] ++ v.nm).length = 5 + v.nm.length by simp; omega] at h0
    exact h0
  have a3 : at1 (storeL v ++ r) (6 + v.nm.length + 8 * v.P.length) = v.W.length := by
    have h0 := at1_mid (headL v ++ pairsL v.P) (termsL v.W ++ (le2 (chk 0 (bodyL v)) ++ r)) (UInt8.ofNat v.W.length)
    rw [← v4, u8_nat, Nat.mod_eq_of_lt (by omega), List.length_append, headL_len, pairsL_len] at h0
    exact h0
  have eA : nA (storeL v ++ r) = 5 + v.nm.length := by rw [nA, a1]
  have eB : nB (storeL v ++ r) = 6 + v.nm.length + 8 * v.P.length := by rw [nB, eA, a2]; omega
  have eC : nC (storeL v ++ r) = 7 + v.nm.length + 8 * v.P.length + 4 * v.W.length := by rw [nC, eB, a3]; omega
  have hlen : nC (storeL v ++ r) + 2 = (storeL v).length := by rw [eC, storeL_len]; omega
  have hV : begV (storeL v ++ r) = v := by
    unfold begV
    rw [eA, eB, a1, a2, a3]
    have p1 : ((storeL v ++ r).drop 5).take v.nm.length = v.nm := by rw [v1']; simp
    have p2 : rdP (storeL v ++ r) (5 + v.nm.length + 1) v.P.length = v.P := by
      rw [v3, show 5 + v.nm.length + 1 = (headL v).length by rw [headL_len]; omega]
      exact rdP_back _ _ _ s2.1.2 h.b
    have p3 : rdW (storeL v ++ r) (6 + v.nm.length + 8 * v.P.length + 1) v.W.length = v.W := by
      rw [v5, show 6 + v.nm.length + 8 * v.P.length + 1 = (headL v ++ pairsL v.P ++ [UInt8.ofNat v.W.length]).length by
        rw [List.length_append, List.length_append, headL_len, pairsL_len]; rfl]
      exact rdW_back _ _ _ s3.1.2
    rw [p1, p2, p3]
  have hL : (storeL v ++ r).length = (storeL v).length + r.length := by simp
  have hl1 : longB (storeL v ++ r) = true := by
    apply longB_yes
    · rw [eA, hL, storeL_len]; omega
    · rw [eB, hL, storeL_len]; omega
    · rw [hlen, hL]; omega
  refine ⟨begB_yes hl1 (by rw [hV]; exact h.ok) ?_, hV, hlen⟩
  rw [hV, hlen, List.take_left]

theorem beg_gd {l : List UInt8} (h : begB l = true) : Gd (begV l) := by
  rw [begB, Bool.and_eq_true, Bool.and_eq_true] at h
  refine ⟨h.2.1, fun z hz => ?_⟩
  obtain ⟨k, hk, rfl⟩ := List.getElem_of_mem hz
  have := rdP_lt l (nA l + 1) (at1 l (nA l)) k hk
  rwa [List.getD, show (rdP l (nA l + 1) (at1 l (nA l)))[k]? = some ((begV l).P[k]) from List.getElem?_eq_getElem hk] at this
theorem beg_cut {l : List UInt8} (h : begB l = true) : storeL (begV l) ++ l.drop (nC l + 2) = l := by
  rw [begB, Bool.and_eq_true, Bool.and_eq_true] at h
  rw [of_decide_eq_true h.2.2, List.take_append_drop]
theorem cut_no {v : Sav} (h : Gd v) {l r : List UInt8} (e : storeL v = l ++ r) (hr : r ≠ []) : begB l = false := by
  cases hb : begB l with
  | false => rfl
  | true =>
    exfalso
    have h1 := (rt h []).2.1
    rw [List.append_nil] at h1
    have h2 := (rt (beg_gd hb) (l.drop (nC l + 2) ++ r)).2.1
    rw [← List.append_assoc, beg_cut hb, ← e, h1] at h2
    have h3 := congrArg List.length (beg_cut hb)
    have h4 := congrArg List.length e
    rw [← h2] at h3
    rw [List.length_append] at h3 h4
    exact hr (List.eq_nil_of_length_eq_zero (by omega))

/-- The bytes of all that are stored. -/
def storesL (vs : List Sav) : List UInt8 := vs.flatMap storeL
theorem storesL_cons (v : Sav) (vs : List Sav) : storesL (v :: vs) = storeL v ++ storesL vs := rfl
theorem storesL_app (us vs : List Sav) : storesL (us ++ vs) = storesL us ++ storesL vs := by simp [storesL]
theorem recL_all : ∀ (f : Nat) (vs : List Sav) (r : List UInt8), (∀ v ∈ vs, Gd v) → vs.length ≤ f → recL f (storesL vs ++ r) = vs ++ recL (f - vs.length) r ∧ recN f (storesL vs ++ r) = (storesL vs).length + recN (f - vs.length) r
  | f, [], r, _, _ => by simp [storesL]
  | 0, v :: vs, r, _, h => by simp at h
  | f + 1, v :: vs, r, hG, h => by
    obtain ⟨h1, h2, h3⟩ := rt (hG v (by simp)) (storesL vs ++ r)
    have ih := recL_all f vs r (fun u hu => hG u (by simp [hu])) (by simpa using h)
    rw [storesL_cons, List.append_assoc, recL, recN, if_pos h1, if_pos h1, h2, h3, List.drop_left, ih.1, ih.2]
    simp [Nat.add_assoc]
theorem recL_no {f : Nat} {l : List UInt8} (h : begB l = false) : recL f l = [] ∧ recN f l = 0 := by
  cases f with
  | zero => exact ⟨rfl, rfl⟩
  | succ f => rw [recL, recN, h]; exact ⟨rfl, rfl⟩
theorem begB_nil : begB [] = false := begB_no (longB_no1 (by simp))
theorem recL_gd : ∀ (f : Nat) (l : List UInt8), ∀ v ∈ recL f l, Gd v
  | 0, _, v, h => by simp [recL] at h
  | f + 1, l, v, h => by
    rw [recL] at h
    split at h
    · rename_i hb
      rcases List.mem_cons.1 h with rfl | h
      · exact beg_gd hb
      · exact recL_gd f _ v h
    · simp at h
theorem recL_take : ∀ (f : Nat) (l : List UInt8), storesL (recL f l) = l.take (recN f l) ∧ recN f l ≤ l.length
  | 0, l => by simp [recL, recN, storesL]
  | f + 1, l => by
    rw [recL, recN]
    split
    · rename_i hb
      have ih := recL_take f (l.drop (nC l + 2))
      have hle := beg_le hb
      rw [begB, Bool.and_eq_true, Bool.and_eq_true] at hb
      rw [List.length_drop] at ih
      refine ⟨?_, by omega⟩
      rw [storesL_cons, of_decide_eq_true hb.2.2, ih.1]
      exact (List.take_add (l := l) (i := nC l + 2) (j := recN f (l.drop (nC l + 2)))).symm
    · simp [storesL]

/-- Where the k-th ends. -/
def endsN (vs : List Sav) (k : Nat) : Nat := (storesL (vs.take k)).length
theorem endsN_all (vs : List Sav) : endsN vs vs.length = (storesL vs).length := by rw [endsN, List.take_length]
theorem endsN_succ {vs : List Sav} {k : Nat} (h : k < vs.length) : endsN vs (k + 1) = endsN vs k + (storeL (vs.getD k nilS)).length := by
  rw [endsN, endsN, List.take_succ_eq_append_getElem h, storesL_app, List.length_append]
  simp [storesL, List.getD, h]
theorem all_rec {vs : List Sav} (hG : ∀ v ∈ vs, Gd v) (h8 : vs.length ≤ 8) : recL 8 (storesL vs) = vs ∧ recN 8 (storesL vs) = (storesL vs).length := by
  have h := recL_all 8 vs [] hG h8
  rw [List.append_nil, (recL_no begB_nil).1, (recL_no begB_nil).2] at h
  simpa using h
theorem cut_rec {vs : List Sav} (hG : ∀ v ∈ vs, Gd v) (h8 : vs.length ≤ 8) {k c : Nat} (hk : k < vs.length) (h1 : endsN vs k ≤ c) (h2 : c < endsN vs (k + 1)) :
    recL 8 ((storesL vs).take c) = vs.take k ∧ recN 8 ((storesL vs).take c) = endsN vs k := by
  have hl : (vs.take k).length = k := by rw [List.length_take]; omega
  have hgk : Gd (vs.getD k nilS) := hG _ (by rw [List.getD, List.getElem?_eq_getElem hk]; exact List.getElem_mem hk)
  rw [endsN_succ hk] at h2
  have e : storesL vs = storesL (vs.take k) ++ (storeL (vs.getD k nilS) ++ storesL (vs.drop (k + 1))) := by
    rw [← storesL_cons, ← storesL_app]
    congr 1
    rw [List.getD, List.getElem?_eq_getElem hk, Option.getD_some, ← List.drop_eq_getElem_cons hk, List.take_append_drop]
  have e2 : (storesL vs).take c = storesL (vs.take k) ++ (storeL (vs.getD k nilS)).take (c - endsN vs k) := by
    rw [e, List.take_append, List.take_of_length_le h1]
    congr 1
    show List.take (c - endsN vs k) _ = _
    rw [List.take_append_of_le_length (by omega)]
  have hno : begB ((storeL (vs.getD k nilS)).take (c - endsN vs k)) = false :=
    cut_no hgk (List.take_append_drop _ _).symm (fun h0 => by
      have := congrArg List.length h0
      rw [List.length_drop, List.length_nil] at this
      omega)
  have h := recL_all 8 (vs.take k) ((storeL (vs.getD k nilS)).take (c - endsN vs k)) (fun u hu => hG u (List.mem_of_mem_take hu)) (by omega)
  rw [(recL_no hno).1, (recL_no hno).2] at h
  rw [e2]
  exact ⟨by simpa using h.1, by simpa [endsN] using h.2⟩
theorem bent_rec {vs : List Sav} (hG : ∀ v ∈ vs, Gd v) (h8 : vs.length ≤ 8) {k c : Nat} (hk : k < vs.length) (h1 : endsN vs k ≤ c) (x : UInt8) :
    k ≤ (recL 8 ((storesL vs).set c x)).length := by
  have hl : (vs.take k).length = k := by rw [List.length_take]; omega
  have e : (storesL vs).set c x = storesL (vs.take k) ++ ((storesL vs).set c x).drop (endsN vs k) := by
    have e0 : ((storesL vs).set c x).take (endsN vs k) = storesL (vs.take k) := by
      rw [List.take_set_of_le h1]
      have e : storesL vs = storesL (vs.take k) ++ storesL (vs.drop k) := by rw [← storesL_app, List.take_append_drop]
      rw [e, endsN, List.take_left]
    rw [← e0, List.take_append_drop]
  have h := (recL_all 8 (vs.take k) (((storesL vs).set c x).drop (endsN vs k)) (fun u hu => hG u (List.mem_of_mem_take hu)) (by omega)).1
  rw [e, h, List.length_append, hl]
  omega
theorem storesL_len {vs : List Sav} (hG : ∀ v ∈ vs, Gd v) : (storesL vs).length ≤ 232 * vs.length ∧ 9 * vs.length ≤ (storesL vs).length := by
  induction vs with
  | nil => simp [storesL]
  | cons v vs ih =>
    have ih := ih fun u hu => hG u (by simp [hu])
    have hs := (hG v (by simp)).ok
    rw [savB, Bool.and_eq_true, Bool.and_eq_true] at hs
    obtain ⟨s1, s2, s3⟩ := hs
    unfold nameB at s1
    unfold polyB at s2
    unfold wholeB at s3
    simp only [Bool.and_eq_true, decide_eq_true_eq] at s1 s2 s3
    have n1 : v.nm.length ≤ 8 := s1.1.2
    have n2 : v.P.length ≤ 17 := s2.1.1.2
    have n3 : v.W.length ≤ 17 := s3.1.1.2
    rw [storesL_cons, List.length_append, storeL_len, List.length_cons]
    omega
end Go.Proofs.YtgfmnolmokpgnaaDoor
