/-
  Contracts: spec.l07Name, spec.l03Terms, spec.l03Is, spec.l07Saved: what is saved is valid.
-/
import Derived.Test.YtgfmnolmokpgnaaGreatDoorWordS
import Derived.Test.YtgfmnolmokpgnaaGreatDoorQt
namespace Go.Proofs.YtgfmnolmokpgnaaGreatDoor
open Go.RowKit

theorem low_no {s : ByteArray} {k : Nat} (h : k < s.size) (hc : lowB s[k] = false) : nameB s.data.toList = false := by
  rw [nameB]
  have : s.data.toList.all lowB = false := by
    rw [List.all_eq_false]
    exact ⟨s[k], List.mem_of_getElem? (byte_at s k h), by rw [hc]; simp⟩
  rw [this]; simp
theorem low_all {s : ByteArray} (h : ∀ j, (hj : j < s.size) → lowB s[j] = true) : s.data.toList.all lowB = true := by
  rw [List.all_eq_true]
  intro x hx
  obtain ⟨j, hj, rfl⟩ := List.mem_iff_getElem.1 hx
  exact h j (by rw [Lib.size_eq]; exact hj)

theorem name_len {s : ByteArray} (h : s.data.toList.all lowB = true) : nameB s.data.toList = (decide (1 ≤ s.size) && decide (s.size ≤ 8)) := by
  rw [nameB, h, ← Lib.size_eq]; simp

set_option maxRecDepth 100000 in
theorem l07Name_any (s : ByteArray) (w : World) (hs : s.size ≤ 1048576) :
    Calls Tryz.prog 43 #[.string s] w fun e w' => e = .returned (.bool (nameB s.data.toList)) ∧ w = w' := by
  go_enter Tryz.func43, Tryz.ntmps43
  go_wp2
  go_loop [3] (fun i => ∃ k : Nat, k ≤ s.size ∧ i = .int .i64 k ∧ Hid (∀ j, (hj : j < s.size) → j < k → lowB s[j] = true)) (fun i => s.size - (intOf i).toNat)
  case atStart => exact ⟨0, Nat.zero_le _, rfl, fun j hj h => by omega⟩
  case round =>
    obtain ⟨k, hk, rfl, hall⟩ := hrel
    by_cases hlt : k < s.size
    · cases hc : lowB s[k] with
      | false =>
        have HN := Lib.hid (low_no hlt hc)
        unfold lowB at hc
        by_cases h1 : s[k].toNat < 97
        · have h1' : decide ((s[k].toNat : Int) < 97) = true := by simp; omega
          clear hc
          go_wp2
          go_ret
          exact ⟨by rw [HN.out]; rfl, rfl⟩
        · have h1' : decide ((s[k].toNat : Int) < 97) = false := by simp; omega
          have h2' : decide ((122 : Int) < (s[k].toNat : Int)) = true := by simp at hc ⊢; omega
          clear hc
          go_wp2
          go_ret
          exact ⟨by rw [HN.out]; rfl, rfl⟩
      | true =>
        have HN : Hid (∀ j, (hj : j < s.size) → j < k + 1 → lowB s[j] = true) := fun j hj h => by
          rcases Nat.lt_or_ge j k with h' | h'
          · exact hall.out j hj h'
          · obtain rfl : j = k := by omega
            exact hc
        unfold lowB at hc
        have h1' : decide ((s[k].toNat : Int) < 97) = false := by simp at hc ⊢; omega
        have h2' : decide ((122 : Int) < (s[k].toNat : Int)) = false := by simp at hc ⊢; omega
        clear hc
        go_wp2
        go_round
        case rel => exact ⟨k + 1, by omega, by go_num, HN⟩
        case measure => simp [intOf]; omega
    · have HN : Hid (nameB s.data.toList = (decide (1 ≤ s.size) && decide (s.size ≤ 8))) := name_len (low_all fun j hj => hall.out j hj (by omega))
      by_cases h1 : 1 ≤ s.size
      · have h1' : decide ((1 : Int) ≤ (s.size : Int)) = true := by simp; omega
        go_wp2
        go_ret
        refine ⟨by rw [HN.out]; simp [h1]; try omega, rfl⟩
      · have h1' : decide ((1 : Int) ≤ (s.size : Int)) = false := by simp; omega
        go_wp2
        go_ret
        refine ⟨by rw [HN.out]; simp [h1], rfl⟩

theorem term_no {l : List Int} {k : Nat} (h : k < l.length) (hc : termB (l.getD k 0) = false) : wholeB l = false := by
  rw [wholeB]
  have : l.all termB = false := by
    rw [List.all_eq_false]
    refine ⟨l.getD k 0, ?_, by rw [hc]; simp⟩
    rw [List.getD, List.getElem?_eq_getElem h]; exact List.getElem_mem h
  rw [this]; simp
theorem term_all {l : List Int} (h : ∀ j, j < l.length → termB (l.getD j 0) = true) : l.all termB = true := by
  rw [List.all_eq_true]
  intro x hx
  obtain ⟨j, hj, rfl⟩ := List.mem_iff_getElem.1 hx
  have := h j hj
  rwa [List.getD, List.getElem?_eq_getElem hj] at this

theorem l00In_any (n : Int) (w : World) :
    Calls Tryz.prog 41 #[.int .i64 n, .int .i64 (-1000000), .int .i64 1000000] w fun e w' => e = .returned (.bool (termB n)) ∧ w = w' := by
  unfold termB
  by_cases h1 : -1000000 ≤ n
  · have h1' : decide (-1000000 ≤ n) = true := by simp [h1]
    go_enter Tryz.func41, Tryz.ntmps41
    go_wp2
    go_ret
    exact ⟨by simp [h1], rfl⟩
  · have h1' : decide (-1000000 ≤ n) = false := by simp; omega
    go_enter Tryz.func41, Tryz.ntmps41
    go_wp2
    go_ret
    exact ⟨by simp, rfl⟩

set_option maxRecDepth 100000 in
set_option maxHeartbeats 400000 in
theorem l03Terms_any (A : Option Addr) (c B : Nat) (l : List Int) (w : World) (hr : Reads w B 1 A l.length (ints l)) (hn : l.length ≤ 1048576) :
    Calls Tryz.prog 64 #[.slice A l.length c] w fun e w' => e = .returned (.bool (wholeB l)) ∧ ∃ n, w' = w.drewN n := by
  by_cases h1 : 1 ≤ l.length
  · by_cases h2 : l.length ≤ 17
    · have h1' : decide ((l.length : Int) < 1) = false := by simp; omega
      have h2' : decide ((17 : Int) < (l.length : Int)) = false := by simp; omega
      go_enter Tryz.func64, Tryz.ntmps64
      go_wp2
      go_loopw [4, 15] (fun _ i wr => ∃ k : Nat, k ≤ l.length ∧ i = .int .i64 k ∧ Hid (∀ j, j < k → termB (l.getD j 0) = true) ∧ ∃ m, wr = w.drewN m) (fun _ i _ => l.length - (intOf i).toNat)
      case atStart => exact ⟨0, Nat.zero_le _, rfl, fun j hj => by omega, 0, rfl⟩
      case round =>
        obtain ⟨k, hk, rfl, hall, m, rfl⟩ := hrel
        by_cases hlt : k < l.length
        · obtain ⟨ad, rfl, hab, hcell⟩ := int_at hr hlt
          have hcell' : (w.drewN m).cell? (ad.add k) = some (.int .i64 (l.getD k 0)) := hcell
          have HI := fun W => l00In_any (l.getD k 0) W
          clear hr hcell
          cases hc : termB (l.getD k 0) with
          | false =>
            have HN := Lib.hid (term_no hlt hc)
            simp only [hc] at HI
            clear hc
            generalize l.getD k 0 = x at *
            go_wp2_with fail
            (with_reducible refine (HI _).mono ?_)
            rintro e w1 ⟨rfl, rfl⟩
            go_wp2
            go_ret
            exact ⟨by rw [HN.out]; rfl, m, rfl⟩
          | true =>
            have HN : Hid (∀ j, j < k + 1 → termB (l.getD j 0) = true) := fun j h => by
              rcases Nat.lt_or_ge j k with h' | h'
              · exact hall.out j h'
              · obtain rfl : j = k := by omega
                exact hc
            simp only [hc] at HI
            clear hc
            generalize l.getD k 0 = x at *
            go_wp2_with fail
            (with_reducible refine (HI _).mono ?_)
            rintro e w1 ⟨rfl, rfl⟩
            go_wp2
            go_roundw
            case rel => exact ⟨k + 1, by omega, by go_num, HN, m, rfl⟩
            case measure => simp [intOf]; omega
        · have hT := term_all (l := l) fun j hj => hall.out j (by omega)
          have HV : Hid (wholeB l = (decide (l.length = 1) || !(l.getD (l.length - 1) 0 == 0))) := by
            show _ = _
            rw [wholeB, hT, decide_eq_true h1, decide_eq_true h2]; rfl
          clear hT hall
          by_cases hone : l.length = 1
          · have hone' : ((l.length : Int) == 1) = true := by simp; omega
            have HO := Lib.hid hone
            clear hone
            go_wp2
            go_ret
            exact ⟨by rw [HV.out, HO.out]; rfl, m, rfl⟩
          · obtain ⟨ad, rfl, hab, hcell⟩ := int_at (k := l.length - 1) hr (by omega)
            have hcell' : (w.drewN m).cell? (ad.add (l.length - 1)) = some (.int .i64 (l.getD (l.length - 1) 0)) := hcell
            have hone' : ((l.length : Int) == 1) = false := by simp; omega
            have hi2 : ((l.length : Int) - 1).toNat = l.length - 1 := by omega
            have hi3 : (0 : Int) ≤ (l.length : Int) - 1 := by omega
            have hi4 : (l.length : Int) - 1 < (l.length : Int) := by omega
            have HO : Hid (¬ l.length = 1) := hone
            clear hone hcell hr
            generalize l.getD (l.length - 1) 0 = x at *
            go_wp2
            go_ret
            refine ⟨?_, m, rfl⟩
            rw [HV.out, decide_eq_false HO.out]; rfl
    · have h1' : decide ((l.length : Int) < 1) = false := by simp; omega
      have h2' : decide ((17 : Int) < (l.length : Int)) = true := by simp; omega
      go_enter Tryz.func64, Tryz.ntmps64
      go_wp2
      go_ret
      exact ⟨by rw [wholeB, decide_eq_false h2]; simp, 0, rfl⟩
  · have h1' : decide ((l.length : Int) < 1) = true := by simp; omega
    go_enter Tryz.func64, Tryz.ntmps64
    go_wp2
    go_ret
    exact ⟨by rw [wholeB, decide_eq_false h1]; simp, 0, rfl⟩
theorem l03Is_any (p o : Nat) (A : Option Addr) (c B : Nat) (l : List Int) (w : World) (hp : w.cell? ⟨p, o, none⟩ = some (.slice A l.length c)) (hr : Reads w B 1 A l.length (ints l)) (hn : l.length ≤ 1048576) :
    Calls Tryz.prog 45 #[.pointer (some ⟨p, o, none⟩)] w fun e w' => e = .returned (.bool (wholeB l)) ∧ ∃ n, w' = w.drewN n := by
  have HT := fun W h => l03Terms_any A c B l W h hn
  have HH := fun W (h : Reads W B 1 A l.length (ints l)) => HT W h
  clear HT
  go_enter Tryz.func45, Tryz.ntmps45
  go_wp2_with fail
  (with_reducible refine (HH _ hr).mono ?_)
  rintro e w1 ⟨rfl, n, rfl⟩
  clear HH
  go_wp2
  go_ret
  exact ⟨rfl, n, rfl⟩

/-- What is saved lies in the three cells of a block. -/
structure SavAt (w : World) (p : Nat) (v : Sav) (A A' : Option Addr) (c c' B : Nat) : Prop where
  c0 : w.cell? ⟨p, 0, none⟩ = some (.string (txt v.nm))
  c1 : w.cell? ⟨p, 1, none⟩ = some (.slice A v.P.length c)
  c2 : w.cell? ⟨p, 2, none⟩ = some (.slice A' v.W.length c')
  r1 : Reads w B 1 A v.P.length (cplx v.P)
  r2 : Reads w B 1 A' v.W.length (ints v.W)
theorem SavAt.below {w w' : World} {p : Nat} {v : Sav} {A A' : Option Addr} {c c' B : Nat} (h : SavAt w p v A A' c c' B) (hb : Below w.heap.size w w') (hB : B ≤ w.heap.size) : SavAt w' p v A A' c c' B :=
  have hp := World.block_lt_of_cell? w _ h.c0
  ⟨(hb.cell (p := ⟨p, 0, none⟩) hp).trans h.c0, (hb.cell (p := ⟨p, 1, none⟩) hp).trans h.c1, (hb.cell (p := ⟨p, 2, none⟩) hp).trans h.c2, h.r1.below (hb.mono hB), h.r2.below (hb.mono hB)⟩

set_option maxRecDepth 100000 in
theorem l07Saved_any (p : Nat) (v : Sav) (A A' : Option Addr) (c c' B : Nat) (w : World) (h : SavAt w p v A A' c c' B) (hB : B ≤ w.heap.size) (hn : v.nm.length ≤ 1048576) (hP : v.P.length ≤ 1048576) (hW : v.W.length ≤ 1048576) :
    Calls Tryz.prog 30 #[.pointer (some ⟨p, 0, none⟩)] w fun e w' => e = .returned (.bool (savB v)) ∧ Qt w w' := by
  have hp := World.block_lt_of_cell? w _ h.c0
  have HN := fun W => l07Name_any (txt v.nm) W (by rw [txt_size]; exact hn)
  rw [txt_data] at HN
  have H0 := h.c0
  have H1 := h.c1
  have H2 := h.c2
  have HP2 := l02Is_q p 1 A c B v.P w h.c1 h.r1 hB hP
  have HW2 := fun W (hb : Qt w W) => l03Is_any p 2 A' c' B v.W W ((h.below hb.below hB).c2) ((h.below hb.below hB).r2) hW
  unfold savB
  clear h
  cases h1 : nameB v.nm with
  | false =>
    simp only [h1] at HN
    clear h1 HP2 HW2
    go_enter Tryz.func30, Tryz.ntmps30
    go_wp2_with fail
    (with_reducible refine (HN _).mono ?_)
    rintro e w1 ⟨rfl, rfl⟩
    go_wp2
    go_ret
    exact ⟨rfl, Qt.refl _⟩
  | true =>
    simp only [h1] at HN
    clear h1
    cases h2 : polyB v.P with
    | false =>
      simp only [h2] at HP2
      clear h2 HW2
      go_enter Tryz.func30, Tryz.ntmps30
      go_wp2_with fail
      (with_reducible refine (HN _).mono ?_)
      rintro e w1 ⟨rfl, rfl⟩
      go_wp2_with fail
      (with_reducible refine HP2.mono ?_)
      rintro e w1 ⟨rfl, hb1⟩
      go_wp2
      go_ret
      exact ⟨rfl, hb1⟩
    | true =>
      simp only [h2] at HP2
      clear h2
      go_enter Tryz.func30, Tryz.ntmps30
      go_wp2_with fail
      (with_reducible refine (HN _).mono ?_)
      rintro e w1 ⟨rfl, rfl⟩
      go_wp2_with fail
      (with_reducible refine HP2.mono ?_)
      rintro e w1 ⟨rfl, hb1⟩
      go_wp2_with fail
      (with_reducible refine (HW2 _ hb1).mono ?_)
      rintro e w2 ⟨rfl, n, rfl⟩
      go_wp2
      go_ret
      exact ⟨rfl, hb1.trans ⟨n, rfl⟩⟩
end Go.Proofs.YtgfmnolmokpgnaaGreatDoor
