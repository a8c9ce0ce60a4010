/-
  Contract: spec.l08Recover: the lines of the longest journal at the beginning of a text, and its length.
-/
import Derived.Test.YtlcckgpidjneeaaDoorRecP
import Derived.Deep.RegionHeld3
import Derived.Deep.DeepCutAuto
namespace Go.Proofs.YtlcckgpidjneeaaDoor
open Go.RowKit

theorem parts_mem {c : UInt8} : ∀ {l x : List UInt8}, x ∈ parts c l → x.length ≤ l.length
  | [], x, h => by simp [parts] at h; subst h; simp
  | b :: l, x, h => by
    have ih := fun y (hy : y ∈ parts c l) => parts_mem hy
    unfold parts at h
    split at h
    · rcases List.mem_cons.1 h with rfl | h
      · simp
      · have := ih x h; simp; omega
    · rcases List.mem_cons.1 h with rfl | h
      · have hd : (parts c l).headD [] ∈ parts c l := by
          cases hp : parts c l with
          | nil => exact absurd hp (parts_ne c l)
          | cons a t => simp
        have := ih _ hd
        rw [List.length_cons, List.length_cons]; omega
      · have := ih x (List.mem_of_mem_tail h); simp; omega
theorem lns_mem {l x : List UInt8} (h : x ∈ lns l) : x.length ≤ l.length := parts_mem (List.dropLast_subset _ h)
theorem getD_mem {ls : List (List UInt8)} {k : Nat} (h : k < ls.length) : ls.getD k [] ∈ ls := by
  rw [List.getD, List.getElem?_eq_getElem h]; exact List.getElem_mem h
theorem drop_getD {ls : List (List UInt8)} {k : Nat} (h : k < ls.length) : ls.drop k = ls.getD k [] :: ls.drop (k + 1) := by
  rw [List.drop_eq_getElem_cons h, List.getD, List.getElem?_eq_getElem h]; rfl

/-- What the reading of a journal returns. -/
def RecPost (R : List (List UInt8) × Nat) (w : World) (e : Ending) (w' : World) : Prop :=
  ∃ A c', e = .returned (.tuple #[.slice A R.1.length c', .int .i64 (R.2 : Nat)]) ∧ Own w' w.heap.size w'.heap.size 9 A (strs R.1) ∧ Below w.heap.size w w'

/-- A cell of an old block holds what it held, over a call that makes memory. -/
def Stays (p : Addr) (v : Value) (w0 w : World) : Prop := w.cell? p = some v ∧ Below w0.heap.size w0 w
theorem Stays.start {p : Addr} {v : Value} {w : World} (h : w.cell? p = some v) : Stays p v w w.drew := ⟨h, ⟨rfl, rfl, rfl, Nat.le_refl _, fun _ _ => rfl⟩⟩
theorem Stays.call {p : Addr} {v : Value} {w0 w w' : World} (h : Stays p v w0 w) (hp : p.block < w0.heap.size) (hb : Below w.heap.size w w') : Stays p v w0 w' :=
  ⟨(hb.cell (Nat.lt_of_lt_of_le hp h.2.size)).trans h.1, h.2.trans (hb.mono h.2.size)⟩

theorem ownsRow_below {w w' : World} {base E n : Nat} {v : Value} {xs : List Value} (h : w.ownsRow base E 1 v n xs) (hb : Below w.heap.size w w') : w'.ownsRow base E 1 v n xs := by
  obtain ⟨h1, h2⟩ := h
  refine ⟨h1, ?_⟩
  rcases h2 with h | ⟨g, cap, cur, e, hg, hh, hr⟩
  · exact .inl h
  · refine .inr ⟨g, cap, cur, e, hg, (hb.block g ?_).trans hh, hr⟩
    exact (Array.getElem?_eq_some_iff.1 hh).1
theorem txt_toL (y : List UInt8) : (txt y).toList = y := by rw [Lib.toList_data, txt_data]
theorem teq {a b : ByteArray} {x y : List UInt8} (ha : a = txt x) (hb : b = txt y) (h : x = y) : (a.toList == b.toList) = true := by
  rw [ha, hb, txt_toL, txt_toL, h]; simp
theorem tne {a b : ByteArray} {x y : List UInt8} (ha : a = txt x) (hb : b = txt y) (h : ¬ x = y) : (a.toList == b.toList) = false := by
  rw [ha, hb, txt_toL, txt_toL]; simpa using h

set_option maxRecDepth 100000 in
set_option maxHeartbeats 1600000 in
theorem recS_any (s : ByteArray) (w : World) (hn : s.size ≤ 1048576) :
    Calls Tryd.prog 44 #[.string s] w (RecPost (recAll 0 (lns s.data.toList)) w) := by
  obtain ⟨i0, hi, hz0, hz1, hz2⟩ := info_parts info9
  have H := l08Lines_any s w (by omega)
  have h3 := lns_le s.data.toList
  have h2 := getElem_txt s
  have hlen : (lns s.data.toList).length ≤ 1048576 := by omega
  have hmem : ∀ x ∈ lns s.data.toList, x.length ≤ 1048576 := fun x hx => by have := lns_mem hx; omega
  have HM := Lib.hid hmem
  clear h2 h3 hmem
  generalize s.data.toList = l at *
  generalize rest l = r at *
  generalize lns l = ls at *
  go_enter Tryd.func44, Tryd.ntmps44
  go_wp2_with fail
  refine H.mono ?_
  rintro e w1 ⟨A, c1, rfl, hO, hb⟩
  clear H
  have hr := hO.reads' (Nat.le_refl _) (n := ls.length) (by simp)
  have hb0 : Below w1.heap.size w1 (w1.alloc (.cells #[] 9)) := (Below.refl _ _).alloc (Nat.le_refl _) _
  have hown : (w1.alloc (.cells #[] 9)).ownsRow w1.heap.size 9 1 (.slice (some ⟨w1.heap.size, 0, none⟩) 0 0) 0 [] := World.ownsRow_made w1 #[] 0 (Nat.le_refl _) (by simp [maxLen]) rfl
  go_wp2
  go_loopw [6, 7, 8, 9, 10, 11] (fun v c n i _ _ wr => ∃ k cc m : Nat, ∃ done, k ≤ ls.length ∧ i = .int .i64 k ∧ c = .int .i64 (cc : Int) ∧ n = .int .i64 (m : Int) ∧ cc < 65003 ∧ m ≤ k * 1048577 ∧ done.length ≤ k ∧ Hid (Recing ls cc m done (ls.drop k)) ∧ wr.ownsRow w1.heap.size 9 1 v done.length (strs done) ∧ Below w1.heap.size w1 wr) (fun _ _ _ i _ _ _ => ls.length - (intOf i).toNat)
  case atStart => exact ⟨0, 0, 0, [], Nat.zero_le _, rfl, rfl, rfl, by omega, by omega, by simp, Recing.start _, hown, hb0⟩
  case round =>
    obtain ⟨k, cc, m, done, hk, rfl, rfl, rfl, hcc, hm, hdl, hrec, hown, hbr⟩ := hrel
    obtain ⟨Ao, co, rfl, -, hco, hO2⟩ := Own.of_row hown (Nat.le_refl _)
    by_cases hlt : k < ls.length
    · obtain ⟨ad, rfl, hab, hcell⟩ := str_at (hr.below hbr) hlt
      clear hr hO
      have hXl : (txt (ls.getD k [])).size ≤ 1048576 := by rw [txt_size]; exact HM.out _ (getD_mem hlt)
      have HX : Hid ((txt (ls.getD k [])).data.toList = ls.getD k []) := txt_data _
      generalize txt (ls.getD k []) = X at *
      go_wp2
      go_loop [10] (fun j => ∃ q : Nat, q ≤ X.size ∧ j = .int .i64 q ∧ Hid (∀ i, i < q → X.data.toList[i]? ≠ some 32)) (fun j => X.size - (intOf j).toNat)
      case atStart => exact ⟨0, Nat.zero_le _, rfl, fun i hi => by omega⟩
      case round =>
        obtain ⟨q, hq, rfl, hno⟩ := hrel
        by_cases hqx : q < X.size
        · by_cases h32 : X[q] = 32
          · have hp := pre_at (c := 32) (l := X.data.toList) (j := q) (by rw [← Lib.size_eq]; exact hq) hno.out (.inr (by rw [byte_at X q hqx, h32]))
            have hb1 : ((X[q].toNat : Int) != 32) = false := by rw [h32]; rfl
            have hqe : ((q : Int) == (X.size : Int)) = false := by simp; omega
            have hin := hp.2.2 (by rw [← Lib.size_eq]; exact hqx)
            have HP := Lib.hid hp.1
            have HIN := Lib.hid hin
            have hYd : (X.extract (q + 1) X.size).data.toList = X.data.toList.drop (q + 1) := by
              rw [extract_txt, txt_data, List.take_of_length_le (by rw [List.length_drop, ← Lib.size_eq]; omega)]
            have hYs : (X.extract (q + 1) X.size).size ≤ 1048576 := by rw [ByteArray.size_extract]; omega
            have hZd : X.extract 0 q = txt (pre 32 X.data.toList) := by
              rw [extract_txt, pre_take, hp.1]; simp
            have HYD := Lib.hid hYd
            have HZD := Lib.hid hZd
            have HC := fun W => l01Check_any cc (X.extract (q + 1) X.size) W hcc (by omega)
            have q1 : IntKind.i64.wrap ((q : Int) + 1) = (q : Int) + 1 := IntWalk.i64_in _ (by omega)
            have q3 : ((q : Int) + 1).toNat = q + 1 := by omega
            have q4 : (q : Int) + 1 ≤ (X.size : Int) := by omega
            clear h32 hp hin hYd hZd
            go_wp2_with fail
            generalize X.extract (q + 1) X.size = Y at *
            refine (HC _).mono ?_
            rintro e w' ⟨rfl, rfl⟩
            go_wp2_with fail
            have hdl9 := chk_lt hcc Y.data.toList
            have HD := fun W => l01Dec_pos (chk cc Y.data.toList) W (by omega)
            generalize hcd : chk cc Y.data.toList = cd at *
            have HCD := Lib.hid hcd
            clear hcd HC
            have hpb : (ad.add k).block < wr.heap.size := by rw [block_of_add]; have := hbr.size; omega
            go_region_held3 (fun w' => w'.cell? (ad.add k) = some (.string X) ∧ Below wr.heap.size wr w')
              (first | exact Stays.start hcell | exact Stays.call (by assumption) hpb (by assumption) | trace_state)
              (first | (go_at_call 55; refine (HD _).mono ?_; rintro e w' ⟨rfl, hb9⟩))
            rename_i hheld
            obtain ⟨hcell2, hb10⟩ := hheld
            have hpb1 : (ad.add k).block < w1.heap.size := by rw [block_of_add]; exact hab
            have HC1 := Lib.hid ((hbr.cell hpb1).symm.trans hcell)
            clear hcell hb9 HD
            have hown9 := ownsRow_below hown hb10
            have hbr9 : Below w1.heap.size w1 w' := hbr.trans (hb10.mono hbr.size)
            have hO9 : Own w' w1.heap.size w'.heap.size 9 Ao (strs done) := (hO2.below hb10 (Nat.le_refl _)).wide (Nat.le_refl _) hb10.size
            clear hown hO2 hbr hb10
            have hxd : ls.drop k = X.data.toList :: ls.drop (k + 1) := by rw [HX.out]; exact drop_getD hlt
            have hcdx : chk cc (X.data.toList.drop ((pre 32 X.data.toList).length + 1)) = cd := by rw [HP.out, ← HYD.out]; exact HCD.out
            have hyx : X.data.toList.drop ((pre 32 X.data.toList).length + 1) = Y.data.toList := by rw [HP.out, ← HYD.out]
            by_cases hd : pre 32 X.data.toList = Lib.decDigits cd
            · have hst : recStep cc X.data.toList = some (Y.data.toList, cd) := by
                rw [recStep_some HIN.out (by rw [hcdx]; exact hd), hcdx, hyx]
              have hnx := hrec.out
              rw [hxd] at hnx
              have HN := Lib.hid (hnx.next hst)
              have ht := teq HZD.out rfl hd
              clear hxd hcdx hyx hd hst hnx hrec
              rw [ht]
              clear ht
              go_wp2_with (at_builtin; refine wpList_append_any _ rfl (.tmp 68) (.tmp 70) _ rfl w1.heap.size 9 i0 _ 1 16 Tryd.underlying35 hi hz0 hz1 hz2 rfl (by omega) (.slice Ao done.length co) done.length (strs done) rfl (hown9.alloc _) (w'.heap.size + 1) (some ⟨w'.heap.size, 0, none⟩) 1 1 [.string Y] rfl (reads_one w' _ _) (one_str _) (by simp only [maxLen]; omega) (by omega) (by simp; have := hbr9.size; omega) ?_; intro v1 w2 hown1 hg1 hat1; have hb11 : Below w1.heap.size w1 w2 := (hbr9.alloc hbr9.size _).grown hg1 (by simp; have := hbr9.size; omega) (fun j hj => (hown9.lt j hj).1); have hcell3 := (hb11.cell hpb1).trans HC1.out)
              clear hg1 hat1 hown9 hcell2
              go_wp2
              go_roundw
              case rel => exact ⟨k + 1, cd, m + (X.data.toList.length + 1), _, by omega, by go_num, rfl, by rw [← Lib.size_eq]; go_num, hdl9, by rw [← Lib.size_eq]; omega, by simp; omega, HN.out, by rw [strs_append, List.length_append]; simpa [strs, txt_of] using hown1, hb11⟩
              case measure => simp [intOf]; omega
            · have hst : recStep cc X.data.toList = none := recStep_none2 HIN.out (by rw [hcdx]; exact hd)
              have hfin := hrec.out.stop (.inr ⟨_, _, hxd, hst⟩)
              have H1 := Lib.hid hfin.1
              have H2 := Lib.hid hfin.2
              have ht := tne HZD.out rfl hd
              clear hxd hcdx hyx hd hst hfin hrec
              rw [ht]
              clear ht
              go_wp2
              go_ret2
              unfold RecPost
              rw [← H1.out, ← H2.out]
              exact ⟨_, _, rfl, hO9.wide hb.size (Nat.le_refl _), hb.trans (hbr9.mono hb.size)⟩
          · have hNO : Hid (∀ i, i < q + 1 → X.data.toList[i]? ≠ some 32) := fun i hi => by
              rcases Nat.lt_or_ge i q with h | h
              · exact hno.out i h
              · have : i = q := by omega
                subst this
                rw [byte_at X i hqx]
                simpa using h32
            have hb1 : ((X[q].toNat : Int) != 32) = true := by
              simp
              intro e
              exact h32 (UInt8.toNat_inj.1 (by show X[q].toNat = 32; omega))
            clear h32
            go_wp2
            go_round
            case rel => exact ⟨q + 1, by omega, by go_num, hNO⟩
            case measure => simp [intOf]; omega
        · have hqe : ((q : Int) == (X.size : Int)) = true := by simp; omega
          have hp := pre_at (c := 32) (l := X.data.toList) (j := q) (by rw [← Lib.size_eq]; exact hq) hno.out (.inl (by rw [← Lib.size_eq]; omega))
          have hni : (32 : UInt8) ∉ X.data.toList := fun e => by have := hp.2.1 e; rw [← Lib.size_eq] at this; omega
          have hxd : ls.drop k = X.data.toList :: ls.drop (k + 1) := by rw [HX.out]; exact drop_getD hlt
          have hfin := hrec.out.stop (.inr ⟨_, _, hxd, recStep_none1 hni⟩)
          have H1 := Lib.hid hfin.1
          have H2 := Lib.hid hfin.2
          clear hp hni hxd hfin hrec
          go_wp2
          go_ret2
          unfold RecPost
          rw [← H1.out, ← H2.out]
          exact ⟨_, _, rfl, hO2.wide hb.size (Nat.le_refl _), hb.trans (hbr.mono hb.size)⟩
    · have hst := hrec.out.stop (.inl (List.drop_eq_nil_of_le (by omega)))
      have H1 := Lib.hid hst.1
      have H2 := Lib.hid hst.2
      clear hst hr hrec
      go_wp2
      go_ret2
      unfold RecPost
      rw [← H1.out, ← H2.out]
      exact ⟨_, _, rfl, hO2.wide hb.size (Nat.le_refl _), hb.trans (hbr.mono hb.size)⟩
end Go.Proofs.YtlcckgpidjneeaaDoor
