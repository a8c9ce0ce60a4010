/-
  The bounds of all the series of the law; the words behind them.
-/
import Derived.Test.YtlilhebnbhlkhaaSeY
namespace Go.Proofs.Ytlilhebnbhlkhaa
open Go.RowKit

def tA : Bd2 := at2 [(1, 0), (14143/10000, 0), (14143/10000, 0), (14143/10000, 0), (14143/10000, 0), (14143/10000, 0), (14143/10000, 0)]
def tB : Bd2 := at2 [(1/1000000, 0), (14143/10000, 0), (14143/10000, 0), (14143/10000, 0), (14143/10000, 0), (14143/10000, 0), (14143/10000, 0)]
def tI : Bd2 := at2 [(1, 91/1000000000), (14143/10000, 643/1000000000), (17073/5000, 3077/1250000000), (82439/10000, 21443/2500000000), (24879/1250, 70319/2500000000), (480523/10000, 176761/2000000000), (1160127/10000, 2689811/10000000000)]
def tU : Bd2 := at2 [(1, 2729/10000000000), (14143/5000, 7073/5000000000), (17073/2500, 55441/10000000000), (82439/5000, 48507/2500000000), (24879/625, 634927/10000000000), (480523/5000, 198603/1000000000), (1160127/5000, 6012421/10000000000)]
def tE : Bd2 := at2 [(1, 0), (14143/10000, 1747/2000000000), (4829/2000, 21997/10000000000), (38861/10000, 45887/10000000000), (1499/250, 86289/10000000000), (89579/10000, 7579/500000000), (130441/10000, 126737/5000000000)]
def tS : Bd2 := at2 [(14143/10000, 10021/10000000000), (4829/1000, 9677/2000000000), (116583/10000, 7413/500000000), (2998/125, 4587/125000000), (89579/2000, 399309/5000000000), (391323/5000, 795997/5000000000), (1/1000, 0)]
def tJ : Bd2 := at2 [(1, 91/1000000000), (14143/10000, 3033/2000000000), (11037/2500, 75869/10000000000), (16931/1250, 163363/5000000000), (413081/10000, 162889/1250000000), (314301/2500, 1239617/2500000000), (3823657/10000, 1142071/625000000)]
def tQ : Bd2 := at2 [(14143/10000, 347/250000000), (68293/10000, 25659/2500000000), (247319/10000, 514603/10000000000), (809479/10000, 1103123/5000000000), (2540091/10000, 8728281/10000000000), (12523/16, 32930329/10000000000), (22627517/10000, 29277243/2500000000)]
def tL : Bd2 := at2 [(1/1000, 0), (14143/10000, 18757/10000000000), (34147/10000, 63093/10000000000), (2061/250, 99981/5000000000), (20237/1000, 124269/2000000000), (508019/10000, 480209/2500000000), (16306/125, 5938211/10000000000)]
def tR : Bd2 := at2 [(1, 0), (442/625, 643/5000000000), (9573/10000, 621/2000000000), (6921/5000, 7483/10000000000), (21443/10000, 17863/10000000000), (35487/10000, 21173/5000000000), (15569/2500, 12503/1250000000)]
def tSq : Bd2 := at2 [(1, 1819/10000000000), (884/625, 5787/10000000000), (6037/2500, 2923/2000000000), (1649/400, 34937/10000000000), (71629/10000, 40931/5000000000), (25561/2000, 4767/250000000), (2937/125, 444103/10000000000)]
def tRi : Bd2 := at2 [(1/1000, 0), (1, 3449/10000000000), (442/625, 2439/10000000000), (943/2000, 813/5000000000), (221/625, 61/500000000), (2829/10000, 61/625000000), (1179/5000, 813/10000000000)]
def tSl : Bd2 := at2 [(1, 4359/10000000000), (884/625, 1541/2500000000), (2829/2000, 1541/2500000000), (884/625, 3083/5000000000), (2829/2000, 3083/5000000000), (3537/2500, 1233/2000000000), (1/1000, 0)]
def tSA : Bd2 := at2 [(14143/10000, 643/5000000000), (14143/5000, 643/2500000000), (42429/10000, 1929/5000000000), (14143/2500, 5143/10000000000), (14143/2000, 6429/10000000000), (42429/5000, 1543/2000000000), (1/1000, 0)]
def tQA : Bd2 := at2 [(14143/10000, 1029/2000000000), (48289/10000, 26657/10000000000), (130727/10000, 13117/1250000000), (329759/10000, 368121/10000000000), (810281/10000, 1208249/10000000000), (246301/1250, 3792613/10000000000), (467231/1000, 2297529/2000000000)]
def tLA : Bd2 := at2 [(1/1000, 0), (14143/10000, 5011/5000000000), (4829/2000, 4331/2000000000), (5447/1250, 10001/2000000000), (2061/250, 60229/5000000000), (162057/10000, 74383/2500000000), (164201/5000, 149069/2000000000)]
def tT : Bd2 := at2 [(1/2000, 1/10000000000), (442/625, 2827/5000000000), (12073/10000, 5963/5000000000), (5447/2500, 3373/1250000000), (2061/500, 63977/10000000000), (81029/10000, 156133/10000000000), (164201/10000, 969/25000000)]
def tH : Bd2 := at2 [(1, 0), (442/625, 5011/5000000000), (7287/5000, 26697/10000000000), (7729/2500, 17487/2500000000), (838/125, 181751/10000000000), (29563/2000, 470077/10000000000), (66017/2000, 606119/5000000000)]
theorem ok_I : invOk tA tI 7 = true := by decide +kernel
theorem ok_U : mulOk tA tI tU 7 = true := by decide +kernel
theorem ok_E : expOk tB tE 7 = true := by decide +kernel
theorem ok_S : slopeOk tE tS 7 = true := by decide +kernel
theorem ok_J : invOk tE tJ 7 = true := by decide +kernel
theorem ok_Q : mulOk tS tJ tQ 7 = true := by decide +kernel
theorem ok_L : riseOk tQ tL 7 = true := by decide +kernel
theorem ok_R : rootOk tA tR 7 = true := by decide +kernel
theorem ok_Sq : mulOk tR tR tSq 7 = true := by decide +kernel
theorem ok_Ri : riseOk tA tRi 7 = true := by decide +kernel
theorem ok_Sl : slopeOk tRi tSl 7 = true := by decide +kernel
theorem ok_SA : slopeOk tA tSA 7 = true := by decide +kernel
theorem ok_QA : mulOk tSA tI tQA 7 = true := by decide +kernel
theorem ok_LA : riseOk tQA tLA 7 = true := by decide +kernel
theorem ok_T : timOk (1 / 2, 0) tLA tT 7 = true := by decide +kernel
theorem ok_H : expOk tT tH 7 = true := by decide +kernel
def endB (k : Nat) : Bool := decide ((tU k).2 ≤ 1 / 1200) && decide ((tL k).2 ≤ 1 / 1200) && decide ((tSq k).2 ≤ 1 / 1200) && decide ((tH k).2 + (tR k).2 ≤ 1 / 1200) && decide ((tSl k).2 ≤ 1 / 1200) && decide ((tI k).1 + (tI k).2 ≤ 150) && decide ((tE k).1 + (tE k).2 ≤ 150) && decide ((tR k).1 + (tR k).2 ≤ 150) && decide (1 / 1000 ≤ (tI k).1) && decide (1 / 1000 ≤ (tE k).1) && decide (1 / 1000 ≤ (tR k).1)
theorem end_tab : allN 7 endB = true := by decide +kernel
structure EndR (k : Nat) : Prop where
  u : (tU k).2 ≤ 1 / 1200
  l : (tL k).2 ≤ 1 / 1200
  q : (tSq k).2 ≤ 1 / 1200
  h : (tH k).2 + (tR k).2 ≤ 1 / 1200
  s : (tSl k).2 ≤ 1 / 1200
  i1 : (tI k).1 + (tI k).2 ≤ 150
  e1 : (tE k).1 + (tE k).2 ≤ 150
  r1 : (tR k).1 + (tR k).2 ≤ 150
  i2 : 1 / 1000 ≤ (tI k).1
  e2 : 1 / 1000 ≤ (tE k).1
  r2 : 1 / 1000 ≤ (tR k).1
theorem end_at {k : Nat} (hk : k < 7) : EndR k := by
  have h := allN_at end_tab hk
  unfold endB at h
  simp only [Bool.and_eq_true, decide_eq_true_eq] at h
  obtain ⟨⟨⟨⟨⟨⟨⟨⟨⟨⟨a1, a2⟩, a3⟩, a4⟩, a5⟩, a6⟩, a7⟩, a8⟩, a9⟩, b1⟩, b2⟩ := h
  exact ⟨a1, a2, a3, a4, a5, a6, a7, a8, a9, b1, b2⟩
/-- All the words of the law's first part. -/
structure SerF (n : Nat) (a b i un e s j q l r sq ri sl sa qa la t h : List (Nat × Nat)) (u v I R : Sq) : Prop where
  f_na : Near u tA n a
  f_nb : Near v tB n b
  f_i : InvR a i ∧ Near I tI n i
  f_un : MulR a i un ∧ Near c1 tU n un
  f_e : ExpR b e ∧ ∃ E, Near E tE n e
  f_s : SlopeR e s ∧ Ser s n
  f_j : InvR e j ∧ Ser j n
  f_q : MulR s j q ∧ Ser q n
  f_l : RiseR q l ∧ Near v tL n l
  f_r : RootR a r ∧ Near R tR n r
  f_sq : MulR r r sq ∧ Near u tSq n sq
  f_ri : RiseR a ri ∧ Ser ri n
  f_sl : SlopeR ri sl ∧ Ser sl n ∧ ∀ k, k + 1 < n → Ap (u k) (tSl k) (sl.getD k (0, 0))
  f_sa : SlopeR a sa ∧ Ser sa n
  f_qa : MulR sa i qa ∧ Ser qa n
  f_la : RiseR qa la ∧ Ser la n
  f_t : TimR (1056964608, 0) la t ∧ Ser t n
  f_h : ExpR t h ∧ Near R tH n h
theorem dN_at {n k : Nat} {u : Sq} (h : k + 1 < n) : dN n u k = dS u k := by unfold dN; rw [if_pos h]
theorem ser_all {u v : Sq} {n : Nat} {a b : List (Nat × Nat)} (hn : 2 ≤ n ∧ n ≤ 7) (ha : Near u tA n a) (hb : Near v tB n b) (h0 : u 0 = (1, 0)) (h1 : v 0 = (0, 0)) :
    ∃ i un e s j q l r sq ri sl sa qa la t h I R, SerF n a b i un e s j q l r sq ri sl sa qa la t h u v I R := by
  obtain ⟨hn2, hn7⟩ := hn
  have hn1 : 1 ≤ n := by omega
  have h16 : n ≤ 16 := by omega
  obtain ⟨I, I0, I1, I2⟩ := ex_inv u h0
  obtain ⟨i, ri1, ni⟩ := inv_near ha hn7 hn1 I0 I1 ok_I
  obtain ⟨un, run, nun⟩ := mul_near ha ni hn7 ok_U
  obtain ⟨E, E0, E1, E2'⟩ := ex_exp v
  obtain ⟨e, re, ne⟩ := exp_near hb hn7 hn1 E0 E1 ok_E
  obtain ⟨s, rs', ns⟩ := slope_near ne hn7 hn1 ok_S
  obtain ⟨J, J0, J1, J2⟩ := ex_inv E E0
  obtain ⟨j, rj, nj⟩ := inv_near ne hn7 hn1 J0 J1 ok_J
  obtain ⟨q, rq, nq⟩ := mul_near ns nj hn7 ok_Q
  obtain ⟨l, rl, nl⟩ := rise_near nq hn7 hn1 ok_L
  obtain ⟨R, R0, R1, R2⟩ := ex_root u h0
  obtain ⟨r, rr, nr⟩ := root_near ha hn7 hn1 R0 R1 ok_R
  obtain ⟨sq, rsq, nsq⟩ := mul_near nr nr hn7 ok_Sq
  obtain ⟨ri, rri, nri⟩ := rise_near ha hn7 hn1 ok_Ri
  obtain ⟨sl, rsl, nsl⟩ := slope_near nri hn7 hn1 ok_Sl
  obtain ⟨sa, rsa, nsa⟩ := slope_near ha hn7 hn1 ok_SA
  obtain ⟨qa, rqa, nqa⟩ := mul_near nsa ni hn7 ok_QA
  obtain ⟨la, rla, nla⟩ := rise_near nqa hn7 hn1 ok_LA
  have hp : Ap (1 / 2, 0) (1 / 2, 0) (1056964608, 0) := Ap.exact nv_half nv_zero (E2.real (by unfold Lm; constructor <;> grind))
  obtain ⟨t, rt, nt⟩ := tim_near hp nla hn7 ok_T
  have eL : ∀ (w K : Sq) (k : Nat), k < n → riS (cv (dN n w) K) k = lgS w K k := fun w K k hk => by
    unfold riS lgS
    split
    · rfl
    · rw [cv_congr (k - 1) (dN n w) K (dS w) K (fun i hi => dN_at (by omega)) (fun _ _ => rfl)]
  have nt' := nt.congr (v := fun k => cr (1 / 2) (lgS u I k)) fun k hk => by
    rw [eL u I k hk]
    exact ceq (by simp only [cm, cr]; grind) (by simp only [cm, cr]; grind)
  obtain ⟨H, H0, H1, H2⟩ := ex_exp (fun k => cr (1 / 2) (lgS u I k))
  obtain ⟨h, rh, nh⟩ := exp_near nt' hn7 hn1 H0 H1 ok_H
  have hHR := half_root I2 R0 R2 H0 H2
  have hlv := log_exp h1 E2' J2
  refine ⟨i, un, e, s, j, q, l, r, sq, ri, sl, sa, qa, la, t, h, I, R, ha, hb, ⟨ri1, ni⟩, ⟨run, nun.congr fun k _ => I2 k⟩, ⟨re, E, ne⟩, ⟨rs', ns.ser hn1 h16⟩, ⟨rj, nj.ser hn1 h16⟩, ⟨rq, nq.ser hn1 h16⟩, ⟨rl, nl.congr fun k hk => by rw [eL E J k hk, hlv]⟩, ⟨rr, nr⟩, ⟨rsq, nsq.congr fun k _ => R2 k⟩, ⟨rri, nri.ser hn1 h16⟩, ⟨rsl, nsl.ser hn1 h16, fun k hk => ?_⟩, ⟨rsa, nsa.ser hn1 h16⟩, ⟨rqa, nqa.ser hn1 h16⟩, ⟨rla, nla.ser hn1 h16⟩, ⟨rt, nt.ser hn1 h16⟩, ⟨rh, nh.congr fun k _ => hHR k⟩⟩
  have h2 := nsl.ap k (by omega)
  have h3 := kpos (k := k + 1) (by omega)
  have e1 : dN n (riS u) k = u k := by
    rw [dN_at hk]
    unfold dS riS
    rw [if_neg (by omega), Nat.add_sub_cancel]
    exact ceq (by simp only [cr]; grind) (by simp only [cr]; grind)
  rwa [e1] at h2
end Go.Proofs.Ytlilhebnbhlkhaa
