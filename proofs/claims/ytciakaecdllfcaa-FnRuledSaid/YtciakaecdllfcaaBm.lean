/-
  Plain laws (no program in sight): the rule that is found makes its list again, and is no longer than a rule that made it (Massey's lemma).
-/
import Derived.Test.YtciakaecdllfcaaRule
namespace Go.Proofs.Ytciakaecdllfcaa

def sumTo (f : Nat → Int) : Nat → Int
  | 0 => 0
  | n + 1 => sumTo f n + f n
theorem sumTo_congr {f g : Nat → Int} : ∀ n, (∀ i, i < n → f i = g i) → sumTo f n = sumTo g n
  | 0, _ => rfl
  | n + 1, h => by rw [sumTo, sumTo, sumTo_congr n (fun i hi => h i (by omega)), h n (by omega)]
theorem sumTo_dvd {p : Int} {f : Nat → Int} : ∀ n, (∀ i, i < n → p ∣ f i) → p ∣ sumTo f n
  | 0, _ => ⟨0, by simp [sumTo]⟩
  | n + 1, h => Int.dvd_add (sumTo_dvd n (fun i hi => h i (by omega))) (h n (by omega))
theorem sumTo_sub (f g : Nat → Int) : ∀ n, sumTo (fun i => f i - g i) n = sumTo f n - sumTo g n
  | 0 => rfl
  | n + 1 => by rw [sumTo, sumTo, sumTo, sumTo_sub f g n]; omega
theorem sumTo_add (f g : Nat → Int) : ∀ n, sumTo (fun i => f i + g i) n = sumTo f n + sumTo g n
  | 0 => rfl
  | n + 1 => by rw [sumTo, sumTo, sumTo, sumTo_add f g n]; omega
theorem sumTo_mul (a : Int) (f : Nat → Int) : ∀ n, sumTo (fun i => a * f i) n = a * sumTo f n
  | 0 => by simp [sumTo]
  | n + 1 => by rw [sumTo, sumTo, sumTo_mul a f n, Int.mul_add]
theorem sumTo_zero {f : Nat → Int} : ∀ n, (∀ i, i < n → f i = 0) → sumTo f n = 0
  | 0, _ => rfl
  | n + 1, h => by rw [sumTo, sumTo_zero n (fun i hi => h i (by omega)), h n (by omega)]; rfl
theorem sumTo_more {f : Nat → Int} {n : Nat} : ∀ m, (∀ i, n ≤ i → i < n + m → f i = 0) → sumTo f (n + m) = sumTo f n
  | 0, _ => rfl
  | m + 1, h => by rw [← Nat.add_assoc, sumTo, sumTo_more m (fun i h1 h2 => h i h1 (by omega)), h (n + m) (by omega) (by omega)]; omega
theorem sumTo_head (f : Nat → Int) : ∀ n, sumTo f (n + 1) = f 0 + sumTo (fun i => f (i + 1)) n
  | 0 => by simp [sumTo]
  | n + 1 => by rw [sumTo, sumTo_head f n, sumTo]; omega
theorem sumTo_shift (g : Nat → Int) (m : Nat) : ∀ n, sumTo (fun i => if m ≤ i then g (i - m) else 0) (m + n) = sumTo g n
  | 0 => by rw [Nat.add_zero]; exact sumTo_zero m fun i hi => if_neg (by omega)
  | n + 1 => by rw [← Nat.add_assoc, sumTo, sumTo_shift g m n, sumTo, if_pos (by omega), Nat.add_sub_cancel_left]
theorem sumTo_swap (f : Nat → Nat → Int) (m : Nat) : ∀ n, sumTo (fun i => sumTo (f i) m) n = sumTo (fun j => sumTo (fun i => f i j) n) m
  | 0 => by rw [sumTo]; exact (sumTo_zero m fun _ _ => rfl).symm
  | n + 1 => by rw [sumTo, sumTo_swap f m n, ← sumTo_add]; rfl

/-- The sum of the products of c of i and s of k - i, i from 0 to l. -/
def tt (c s : Nat → Int) (l k : Nat) : Int := sumTo (fun i => c i * s (k - i)) (l + 1)
theorem tt_more {c s : Nat → Int} {l l' k : Nat} (h : ∀ i, l < i → c i = 0) (hl : l ≤ l') : tt c s l' k = tt c s l k := by
  unfold tt
  rw [show l' + 1 = l + 1 + (l' - l) from by omega]
  exact sumTo_more _ fun i h1 _ => by rw [h i (by omega), Int.zero_mul]

theorem dsum_tt {s c : List Int} {k : Nat} (hc : c.getD 0 0 = 1) : ∀ l, dsum s c k l = tt (fun i => c.getD i 0) (fun i => s.getD i 0) l k
  | 0 => by simp only [dsum, tt, sumTo, hc, Nat.sub_zero]; omega
  | l + 1 => by rw [dsum, dsum_tt hc l]; rfl

/-- Up to k the list goes by the rule c of length l. -/
def Gen (p : Int) (c s : Nat → Int) (l k : Nat) : Prop := ∀ j, l ≤ j → j < k → p ∣ tt c s l j

/-- MASSEY's LEMMA. -/
theorem massey {p : Int} {c d s : Nat → Int} {l r k : Nat} (hd0 : d 0 = 1) (hd : Gen p d s r (k + 1)) (hc : Gen p c s l k) (hlr : l + r ≤ k) : p ∣ tt c s l k := by
  have e1 : sumTo (fun i => c i * tt d s r (k - i)) (l + 1) = sumTo (fun j => d j * tt c s l (k - j)) (r + 1) := by
    have a1 : sumTo (fun i => c i * tt d s r (k - i)) (l + 1) = sumTo (fun i => sumTo (fun j => c i * (d j * s (k - i - j))) (r + 1)) (l + 1) :=
      sumTo_congr _ fun i _ => (sumTo_mul (c i) (fun j => d j * s (k - i - j)) (r + 1)).symm
    have a2 : sumTo (fun j => d j * tt c s l (k - j)) (r + 1) = sumTo (fun j => sumTo (fun i => d j * (c i * s (k - j - i))) (l + 1)) (r + 1) :=
      sumTo_congr _ fun j _ => (sumTo_mul (d j) (fun i => c i * s (k - j - i)) (l + 1)).symm
    rw [a1, a2, sumTo_swap]
    refine sumTo_congr _ fun j _ => sumTo_congr _ fun i _ => ?_
    rw [Nat.sub_right_comm, Int.mul_left_comm]
  have h1 : p ∣ sumTo (fun i => c i * tt d s r (k - i)) (l + 1) := sumTo_dvd _ fun i hi => Int.dvd_mul_of_dvd_right (hd (k - i) (by omega) (by omega))
  rw [e1, sumTo_head, hd0, Int.one_mul, Nat.sub_zero] at h1
  have h2 : p ∣ sumTo (fun j => d (j + 1) * tt c s l (k - (j + 1))) r := sumTo_dvd _ fun j hj => Int.dvd_mul_of_dvd_right (hc (k - (j + 1)) (by omega) (by omega))
  have h3 := Int.dvd_sub h1 h2
  rwa [Int.add_sub_cancel] at h3

theorem md_dvd {p : Int} (hp : 0 < p) (x : Int) : p ∣ x - md p x := by
  rw [md_emod hp]; exact Int.dvd_self_sub_emod
theorem md_zero {p x : Int} (hp : 0 < p) : md p x = 0 ↔ p ∣ x := by
  rw [md_emod hp]; exact ⟨fun h => Int.dvd_of_emod_eq_zero h, fun h => Int.emod_eq_zero_of_dvd h⟩

def isP (p : Int) : Bool := p == 2 || p == 3 || p == 5 || p == 7 || p == 11 || p == 13
theorem isP_cases {p : Int} (h : isP p = true) : p = 2 ∨ p = 3 ∨ p = 5 ∨ p = 7 ∨ p = 11 ∨ p = 13 := by
  simp only [isP, Bool.or_eq_true, beq_iff_eq] at h; omega
theorem isP_one {p : Int} (h : isP p = true) : 1 < p ∧ p ≤ 13 := by have := isP_cases h; omega
theorem inv_mul {p x : Int} (h : isP p = true) (h0 : 0 < x) (h1 : x ≤ p - 1) : md p (x * inv p x) = 1 := by
  obtain ⟨n, rfl⟩ := Int.eq_ofNat_of_zero_le (show 0 ≤ x by omega)
  have key : ∀ q ∈ [2, 3, 5, 7, 11, 13], ∀ y ∈ List.range 13, 0 < y → (y : Int) ≤ (q : Int) - 1 → md (q : Int) ((y : Int) * inv (q : Int) (y : Int)) = 1 := by decide +kernel
  have hp := isP_cases h
  have hn : n ∈ List.range 13 := by rw [List.mem_range]; omega
  rcases hp with rfl | rfl | rfl | rfl | rfl | rfl
  · exact key 2 (by simp) n hn (by omega) h1
  · exact key 3 (by simp) n hn (by omega) h1
  · exact key 5 (by simp) n hn (by omega) h1
  · exact key 7 (by simp) n hn (by omega) h1
  · exact key 11 (by simp) n hn (by omega) h1
  · exact key 13 (by simp) n hn (by omega) h1

abbrev at0 (l : List Int) : Nat → Int := fun i => l.getD i 0

/-- What holds of the search at the head of the step k. -/
structure Inv (p : Int) (s : List Int) (q : St) (k : Nat) : Prop where
  one : at0 q.c 0 = 1
  deg : ∀ i, q.l < i → at0 q.c i = 0
  gen : Gen p (at0 q.c) (at0 s) q.l k
  back : (q.l = 0 ∧ q.m = k + 1 ∧ ∀ i, 0 < i → at0 q.b i = 0) ∨
    ∃ lb kb, kb + q.m = k ∧ q.l + lb = kb + 1 ∧ (∀ i, lb < i → at0 q.b i = 0) ∧ Gen p (at0 q.b) (at0 s) lb kb ∧ p ∣ tt (at0 q.b) (at0 s) lb kb - q.x

theorem tt_upd {p f : Int} {b c s : Nat → Int} {c' : Nat → Int} {m l' j : Nat} (hm : m ≤ l') (h : ∀ i, i ≤ l' → p ∣ (c i - f * (if m ≤ i then b (i - m) else 0)) - c' i) :
    p ∣ (tt c s l' j - f * tt b s (l' - m) (j - m)) - tt c' s l' j := by
  have e : tt b s (l' - m) (j - m) = sumTo (fun i => (if m ≤ i then b (i - m) else 0) * s (j - i)) (l' + 1) := by
    have := sumTo_shift (fun i => b i * s (j - m - i)) m (l' - m + 1)
    rw [show m + (l' - m + 1) = l' + 1 from by omega] at this
    rw [tt, ← this]
    refine sumTo_congr _ fun i _ => ?_
    split
    · rw [show j - m - (i - m) = j - i from by omega]
    · rw [Int.zero_mul]
  have e2 : (tt c s l' j - f * tt b s (l' - m) (j - m)) - tt c' s l' j = sumTo (fun i => ((c i - f * (if m ≤ i then b (i - m) else 0)) - c' i) * s (j - i)) (l' + 1) := by
    rw [e, ← sumTo_mul, tt, tt, ← sumTo_sub, ← sumTo_sub]
    refine sumTo_congr _ fun i _ => ?_
    rw [Int.sub_mul, Int.sub_mul, Int.mul_assoc]
  rw [e2]
  exact sumTo_dvd _ fun i hi => Int.dvd_mul_of_dvd_left (h i (by omega))

theorem dvd_of_sub {p a b : Int} (h : p ∣ a - b) (ha : p ∣ a) : p ∣ b := by
  have := Int.dvd_sub ha h
  rwa [show a - (a - b) = b from by omega] at this

theorem inv_step {p : Int} {s : List Int} {q : St} {k : Nat} (hP : isP p = true) (ho : Ok p q k) (h : Inv p s q k) : Inv p s (step p s k q) (k + 1) := by
  have hp : 0 < p := by have := isP_one hP; omega
  obtain ⟨h1, h2, h3, h4⟩ := h
  have hdt : dsum s q.c k q.l = tt (at0 q.c) (at0 s) q.l k := dsum_tt h1 q.l
  unfold step
  simp only
  split
  · rename_i hd
    have hd' : p ∣ tt (at0 q.c) (at0 s) q.l k := hdt ▸ (md_zero hp).1 hd
    refine ⟨h1, h2, fun j a b => ?_, ?_⟩
    · rcases Nat.lt_or_ge j k with hj | hj
      · exact h3 j a hj
      · have : j = k := by omega
        subst this; exact hd'
    · rcases h4 with ⟨a, b, c⟩ | ⟨lb, kb, a, b, c⟩
      · exact .inl ⟨a, by simp only; omega, c⟩
      · exact .inr ⟨lb, kb, by simp only; omega, b, c⟩
  · rename_i hd
    -- the new c, at an index
    have hx := ho.x
    have hdd := md_range (p := p) (x := dsum s q.c k q.l) hp
    have hf := md_range (p := p) (x := md p (dsum s q.c k q.l) * inv p q.x) hp
    have hup : ∀ i, at0 (updTo p (md p (md p (dsum s q.c k q.l) * inv p q.x)) q.b (pad q.c (q.b.length + q.m)) q.m q.b.length) i =
        if q.m ≤ i ∧ i - q.m < q.b.length then md p (at0 q.c i - md p (md p (dsum s q.c k q.l) * inv p q.x) * at0 q.b (i - q.m)) else at0 q.c i := by
      intro i
      show List.getD _ i 0 = _
      rw [updTo_getD, pad_getD, pad_len]
      by_cases c1 : q.m ≤ i ∧ i - q.m < q.b.length
      · rw [if_pos c1, if_pos ⟨c1.1, c1.2, by omega⟩]
      · rw [if_neg c1, if_neg (fun h => c1 ⟨h.1, h.2.1⟩)]
    have hcg : ∀ i, p ∣ (at0 q.c i - md p (md p (dsum s q.c k q.l) * inv p q.x) * (if q.m ≤ i then at0 q.b (i - q.m) else 0)) -
        at0 (updTo p (md p (md p (dsum s q.c k q.l) * inv p q.x)) q.b (pad q.c (q.b.length + q.m)) q.m q.b.length) i := by
      intro i
      rw [hup]
      by_cases c1 : q.m ≤ i ∧ i - q.m < q.b.length
      · rw [if_pos c1, if_pos c1.1]; exact md_dvd hp _
      · rw [if_neg c1]
        by_cases c2 : q.m ≤ i
        · have hb0 : at0 q.b (i - q.m) = 0 := by
            simp only [at0, List.getD]
            rw [List.getElem?_eq_none (by omega)]; rfl
          rw [if_pos c2, hb0, Int.mul_zero, Int.sub_zero, Int.sub_self]; exact Int.dvd_zero _
        · rw [if_neg c2, Int.mul_zero, Int.sub_zero, Int.sub_self]; exact Int.dvd_zero _
    have hm := ho.m
    have hone : at0 (updTo p (md p (md p (dsum s q.c k q.l) * inv p q.x)) q.b (pad q.c (q.b.length + q.m)) q.m q.b.length) 0 = 1 := by
      rw [hup, if_neg (by omega)]; exact h1
    -- the new length, whatever the case
    have key : ∀ l', q.l ≤ l' → (l' = k + 1 ∨ l' ≤ k) → (∀ lb kb, kb + q.m = k → q.l + lb = kb + 1 → q.m + lb ≤ l') → (q.m = k + 1 → l' = k + 1) →
        (∀ i, l' < i → at0 (updTo p (md p (md p (dsum s q.c k q.l) * inv p q.x)) q.b (pad q.c (q.b.length + q.m)) q.m q.b.length) i = 0) ∧
        Gen p (at0 (updTo p (md p (md p (dsum s q.c k q.l) * inv p q.x)) q.b (pad q.c (q.b.length + q.m)) q.m q.b.length)) (at0 s) l' (k + 1) := by
      intro l' hl hl2 hlb hph
      constructor
      · intro i hi
        rw [hup, h2 i (by omega)]
        split
        · rename_i c1
          have hb0 : at0 q.b (i - q.m) = 0 := by
            rcases h4 with ⟨a, b, c⟩ | ⟨lb, kb, a, b, c, _⟩
            · exact c _ (by have := hph b; omega)
            · exact c _ (by have := hlb lb kb a b; omega)
          rw [hb0, Int.mul_zero, Int.sub_zero, md_emod hp]; rfl
        · rfl
      · intro j hj hjk
        rcases h4 with ⟨a, b, c⟩ | ⟨lb, kb, a, b, c, d, e⟩
        · have := hph b; omega
        · have hml : q.m + lb ≤ l' := hlb lb kb a b
          have hu := tt_upd (s := at0 s) (j := j) (show q.m ≤ l' by omega) (fun i _ => hcg i)
          refine dvd_of_sub hu ?_
          rw [tt_more h2 hl, tt_more c (show lb ≤ l' - q.m by omega)]
          rcases Nat.lt_or_ge j k with hj2 | hj2
          · exact Int.dvd_sub (h3 j (by omega) hj2) (Int.dvd_mul_of_dvd_right (d (j - q.m) (by omega) (by omega)))
          · have hjk : j = k := by omega
            subst hjk
            have hkb : j - q.m = kb := by omega
            rw [hkb, ← hdt]
            -- d less (d times the inverse of x) times x
            have hi := inv_mul hP hx.1 hx.2
            have g1 : p ∣ q.x * inv p q.x - 1 := by have := md_dvd hp (q.x * inv p q.x); rwa [hi] at this
            have g2 := md_dvd hp (dsum s q.c j q.l)
            have g3 := md_dvd hp (md p (dsum s q.c j q.l) * inv p q.x)
            generalize dsum s q.c j q.l = D at *
            generalize hE : md p (md p D * inv p q.x) = F at *
            generalize tt (at0 q.b) (at0 s) lb kb = X at *
            generalize md p D = D' at *
            generalize inv p q.x = v at *
            have z1 : p ∣ F * (X - q.x) := Int.dvd_mul_of_dvd_right e
            have z2 : p ∣ (D' * v - F) * q.x := Int.dvd_mul_of_dvd_left g3
            have z3 : p ∣ D' * (q.x * v - 1) := Int.dvd_mul_of_dvd_right g1
            have z := Int.dvd_add (Int.dvd_sub (Int.dvd_sub g2 z1) z3) z2
            have ez : D - D' - F * (X - q.x) - D' * (q.x * v - 1) + (D' * v - F) * q.x = D - F * X := by
              rw [Int.mul_sub, Int.mul_sub, Int.sub_mul, Int.mul_one, show D' * v * q.x = D' * (q.x * v) from by rw [Int.mul_assoc, Int.mul_comm v]]
              omega
            rwa [ez] at z
    split
    · rename_i h2l
      obtain ⟨k1, k2⟩ := key (k + 1 - q.l) (by omega) (by rcases Nat.eq_zero_or_pos q.l with h | h <;> omega) (fun lb kb a b => by omega) (fun hm1 => by
        rcases h4 with ⟨a, _⟩ | ⟨lb, kb, a, b, _⟩ <;> omega)
      refine ⟨hone, k1, k2, .inr ⟨q.l, k, rfl, by simp only; omega, h2, h3, ?_⟩⟩
      simp only
      rw [← hdt]
      exact md_dvd hp _
    · rename_i h2l
      obtain ⟨k1, k2⟩ := key q.l (Nat.le_refl _) (.inr ho.l) (fun lb kb a b => by omega) (fun hm1 => by
        rcases h4 with ⟨a, _⟩ | ⟨lb, kb, a, b, _⟩ <;> omega)
      refine ⟨hone, k1, k2, ?_⟩
      rcases h4 with ⟨a, b, c⟩ | ⟨lb, kb, a, b, c⟩
      · omega
      · exact .inr ⟨lb, kb, by simp only; omega, b, c⟩

theorem inv_run {p : Int} {s : List Int} (hP : isP p = true) : ∀ k, Inv p s (run p s k) k
  | 0 => ⟨rfl, fun i hi => by cases i with | zero => exact absurd hi (by simp [run]) | succ i => rfl, fun j _ hj => by omega, .inl ⟨rfl, rfl, fun i hi => by cases i with | zero => omega | succ i => rfl⟩⟩
  | k + 1 => inv_step hP (ok_run (isP_one hP).1 k) (inv_run hP k)

/-- NO LONGER THAN A RULE THAT MADE THE LIST. -/
theorem run_least {p : Int} {s : List Int} {d : Nat → Int} {r : Nat} (hP : isP p = true) (hd0 : d 0 = 1) : ∀ k, Gen p d (at0 s) r k → (run p s k).l ≤ r
  | 0, _ => by simp [run]
  | k + 1, hg => by
    have ih := run_least hP hd0 k (fun j a b => hg j a (by omega))
    have hi := inv_run (s := s) hP k
    have hp : 0 < p := by have := isP_one hP; omega
    show (step p s k (run p s k)).l ≤ r
    unfold step
    simp only
    split
    · exact ih
    · rename_i hd
      split
      · rename_i h2
        show k + 1 - (run p s k).l ≤ r
        rcases Nat.lt_or_ge r (k + 1 - (run p s k).l) with hlt | hge
        · have := massey hd0 hg hi.gen (show (run p s k).l + r ≤ k by omega)
          rw [← dsum_tt hi.one] at this
          exact absurd ((md_zero hp).2 this) hd
        · exact hge
      · exact ih
end Go.Proofs.Ytciakaecdllfcaa
