/-
  Contract: the reference's solving of equations (spec.l06Solve), whatever the numbers.
-/
import Derived.Test.YtlpibibpckkjhaaPowW
import Derived.Deep.RegionHeld
import Derived.BigRegion
namespace Go.Proofs.Ytlpibibpckkjhaa
open Go.RowKit

abbrev hdr (c g : Nat) : Value := .slice (some ⟨g, 0, none⟩) c c
theorem swapM_comm (B : Mx) (k b : Nat) : swapM B b k = swapM B k b := by
  funext i j
  unfold swapM
  rw [swp_comm]
/-- Two rows and their right sides changed about, as the reference does it. -/
theorem swap_sys {w : World} {lo R V n c k b xk xb : Nat} {g : Nat → Nat} {B : Mx} {a : Nat → Option Nat} (hM : Mat w lo R g n c B) (hV : Vec w V n a) (hVR : V ≠ R) (hVg : ∀ i, i < n → V ≠ g i) (hk : k < n) (hb : b < n)
    (ck : w.cell? ⟨V, k, none⟩ = some (.float .f32 xk)) (ek : cn xk = a k) (cb : w.cell? ⟨V, b, none⟩ = some (.float .f32 xb)) (eb : cn xb = a b) :
    (w.setCell ⟨R, b, none⟩ (hdr c (g k))).cell? ⟨R, k, none⟩ = some (hdr c (g k)) ∧
    ((w.setCell ⟨R, b, none⟩ (hdr c (g k))).setCell ⟨R, k, none⟩ (hdr c (g b))).cell? ⟨V, b, none⟩ = some (.float .f32 xb) ∧
    ((w.setCell ⟨R, b, none⟩ (hdr c (g k))).setCell ⟨R, k, none⟩ (hdr c (g b))).cell? ⟨V, k, none⟩ = some (.float .f32 xk) ∧
    (((w.setCell ⟨R, b, none⟩ (hdr c (g k))).setCell ⟨R, k, none⟩ (hdr c (g b))).setCell ⟨V, b, none⟩ (.float .f32 xk)).cell? ⟨V, k, none⟩ = some (.float .f32 xk) ∧
    Mat ((((w.setCell ⟨R, b, none⟩ (hdr c (g k))).setCell ⟨R, k, none⟩ (hdr c (g b))).setCell ⟨V, b, none⟩ (.float .f32 xk)).setCell ⟨V, k, none⟩ (.float .f32 xb)) lo R (fun i => g (swp b k i)) n c (swapM B b k) ∧
    Vec ((((w.setCell ⟨R, b, none⟩ (hdr c (g k))).setCell ⟨R, k, none⟩ (hdr c (g b))).setCell ⟨V, b, none⟩ (.float .f32 xk)).setCell ⟨V, k, none⟩ (.float .f32 xb)) V n (fun i => a (swp b k i)) := by
  have hRV : R ≠ V := fun e => hVR e.symm
  have q1 : (w.setCell ⟨R, b, none⟩ (hdr c (g k))).cell? ⟨R, k, none⟩ = some (hdr c (g k)) := by
    by_cases e : b = k
    · subst e; exact set_same (hM.hd b hb)
    · rw [set_other (by intro e2; exact e (congrArg Addr.off e2))]
      exact hM.hd k hk
  have q2 : ∀ i v, w.cell? ⟨V, i, none⟩ = some v → ((w.setCell ⟨R, b, none⟩ (hdr c (g k))).setCell ⟨R, k, none⟩ (hdr c (g b))).cell? ⟨V, i, none⟩ = some v := fun i v h => by
    rw [set_other (by intro e; exact hRV (congrArg Addr.block e)), set_other (by intro e; exact hRV (congrArg Addr.block e))]
    exact h
  have hM2 := hM.swap hb hk
  have hV2 := (hV.other hRV (o := b) (hdr c (g k))).other hRV (o := k) (hdr c (g b))
  have hne : ∀ i, i < n → V ≠ g (swp b k i) := fun i hi => hVg _ (swp_lt hb hk hi)
  refine ⟨q1, q2 _ _ cb, q2 _ _ ck, ?_, (hM2.other hVR hne _).other hVR hne _, ?_⟩
  · by_cases e : b = k
    · subst e; exact set_same (q2 _ _ cb)
    · rw [set_other (by intro e2; exact e (congrArg Addr.off e2))]
      exact q2 _ _ ck
  · refine ((hV2.set_ hb xk).set_ hk xb).eq (fun i hi => ?_)
    unfold updV swp
    rw [ek, eb]
    by_cases e1 : i = k
    · subst e1
      rw [if_pos rfl]
      by_cases e2 : i = b
      · subst e2; rw [if_pos rfl]
      · rw [if_neg e2, if_pos rfl]
    · rw [if_neg e1]
      by_cases e2 : i = b
      · rw [if_pos e2, if_pos e2]
      · rw [if_neg e2, if_neg e2, if_neg e1]

theorem elim_mat {w : World} {lo R n c k i0 j0 x : Nat} {g : Nat → Nat} {C : Mx} (h : Mat w lo R g n c (elimAt C k i0 j0)) (hi : i0 < n) (hj : j0 < c) (h1 : k < i0) (h2 : k < j0)
    (hx : cn x = opO .sub (elimAt C k i0 j0 i0 j0) (opO .mul (opO .quo (C i0 k) (C k k)) (C k j0))) : Mat (w.setCell ⟨g i0, j0, none⟩ (.float .f32 x)) lo R g n c (elimAt C k i0 (j0 + 1)) :=
  (h.set_ hi hj x).eq (fun i j _ _ => by rw [hx]; exact elim_step C k i0 j0 h1 h2 i j)
theorem elim_done (A : Mx) (k i n : Nat) (i' j' : Nat) (hj : j' < n) : elimAt A k i n i' j' = elimAt A k (i + 1) (k + 1) i' j' := by
  unfold elimAt
  by_cases h3 : k < i' ∧ k < j' ∧ (i' < i ∨ (i' = i ∧ j' < n))
  · rw [if_pos h3, if_pos (by omega)]
  · rw [if_neg h3, if_neg (by omega)]
theorem elim_vec {w : World} {V n k i0 x : Nat} {C : Mx} (h : Vec w V n (fun i => elimAt C k i0 (k + 1) i n)) (hi : i0 < n) (h1 : k < i0) (h2 : k < n)
    (hx : cn x = opO .sub (C i0 n) (opO .mul (opO .quo (C i0 k) (C k k)) (C k n))) : Vec (w.setCell ⟨V, i0, none⟩ (.float .f32 x)) V n (fun i => elimAt C k (i0 + 1) (k + 1) i n) := by
  refine (h.set_ hi x).eq (fun i _ => ?_)
  unfold updV
  by_cases e : i = i0
  · subst e
    rw [if_pos rfl, hx]
    unfold elimAt
    rw [if_pos (by omega)]
  · rw [if_neg e]
    show elimAt C k i0 (k + 1) i n = _
    unfold elimAt
    by_cases h3 : k < i ∧ k < n ∧ (i < i0 ∨ (i = i0 ∧ n < k + 1))
    · rw [if_pos h3, if_pos (by omega)]
    · rw [if_neg h3, if_neg (by omega)]
theorem elim_self (A : Mx) (k i0 j0 : Nat) : elimAt A k i0 j0 i0 j0 = A i0 j0 := by
  unfold elimAt; rw [if_neg (by omega)]

theorem Vec.made {w : World} {base g n : Nat} (h : w.ownsRow base 25 1 (.slice (some ⟨g, 0, none⟩) n n) n (madeCells (Value.float .f32 0).cells (n * 1)).toList) : Vec w g n (fun _ => some 0) := by
  obtain ⟨cs, hb, e1, e2, e3⟩ := blk_of_row h
  refine ⟨fun i hi => ⟨0, ?_, cn_zero⟩, fun i hi => hb.frozen i⟩
  rw [hb.cell i]
  have h2 : (madeCells (Value.float .f32 0).cells (n * 1)).toList[i]? = some (.float .f32 0) := by
    have : (madeCells (Value.float .f32 0).cells (n * 1)) = (Array.range (n * 1)).map fun _ => Value.float .f32 0 := by
      unfold madeCells
      congr 1
      funext j
      show (#[Value.float .f32 0])[j % 1]! = _
      rw [Nat.mod_one]; rfl
    rw [this]
    simp [hi]
  rw [← e2, List.getElem?_take, if_pos hi] at h2
  simpa using h2
theorem Vec.lt {w : World} {V n : Nat} {a : Nat → Option Nat} (h : Vec w V n a) (hn : 0 < n) : V < w.heap.size := by
  obtain ⟨x, h1, -⟩ := h.cl 0 hn
  exact World.block_lt_of_cell? w _ h1
theorem Mat.ltR {w : World} {lo R n c : Nat} {g : Nat → Nat} {A : Mx} (h : Mat w lo R g n c A) (hn : 0 < n) : R < w.heap.size := World.block_lt_of_cell? w _ (h.hd 0 hn)
theorem Mat.ltg {w : World} {lo R n c : Nat} {g : Nat → Nat} {A : Mx} (h : Mat w lo R g n c A) {i : Nat} (hi : i < n) (hc : 0 < c) : g i < w.heap.size := by
  obtain ⟨x, h1, -⟩ := h.cl i 0 hi hc
  exact World.block_lt_of_cell? w _ h1
theorem sol_vec {w : World} {O n d i0 x : Nat} {B : Mx} (h : Vec w O n (solO B n d)) (hi : i0 < n) (e : i0 = n - 1 - d) (hx : cn x = opO .quo (leftO B n (solO B n d) i0 d) (B i0 i0)) : Vec (w.setCell ⟨O, i0, none⟩ (.float .f32 x)) O n (solO B n (d + 1)) := by
  refine (h.set_ hi x).eq (fun k _ => ?_)
  subst e
  show updV _ _ _ _ = if k = n - 1 - d then _ else _
  unfold updV
  rw [hx]

/-- What solving equations answers. -/
def SolP (lo n : Nat) (G : Option Mx) (w : World) (e : Ending) (w' : World) : Prop :=
  Below lo w w' ∧ match G with
    | none => e = .returned (.tuple #[.slice none 0 0, .bool false])
    | some B => ∃ O c, e = .returned (.tuple #[.slice (some ⟨O, 0, none⟩) n c, .bool true]) ∧ Vec w' O n (solO B n n)
theorem solP_none {lo n : Nat} {G : Option Mx} {w w' : World} {e : Ending} (h : G = none) (hb : Below lo w w') (he : e = .returned (.tuple #[.slice none 0 0, .bool false])) : SolP lo n G w e w' := by
  subst h; exact ⟨hb, he⟩
theorem solP_some {lo n O c : Nat} {G : Option Mx} {B : Mx} {w w' : World} {e : Ending} (h : G = some B) (hb : Below lo w w') (he : e = .returned (.tuple #[.slice (some ⟨O, 0, none⟩) n c, .bool true])) (hv : Vec w' O n (solO B n n)) : SolP lo n G w e w' := by
  subst h; exact ⟨hb, O, c, he, hv⟩

end Go.Proofs.Ytlpibibpckkjhaa
