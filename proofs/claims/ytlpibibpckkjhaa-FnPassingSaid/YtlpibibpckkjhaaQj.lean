/-
  The law FnPassing: its code from a statement on; sums of complex numbers.
  The law FnPassing from its last part on: values at the points, the sum of the weights.
  The law FnPassing from the drawn number on: values in four ways.
  The law FnPassing from its first test on: all that was made is as it should be.
  The law FnPassing, walked by contracts: whatever the arguments, it returns true and turns nothing that was there.
-/
import Derived.Test.YtlpibibpckkjhaaQh
import Derived.Deep.RegionHeld3
import Derived.StillTailTactics
import Derived.Deep.CutRange
import Derived.BigQuiet
namespace Go.Proofs.Ytlpibibpckkjhaa
open Go.RowKit
/-- A sequence's code from a statement on. -/
def nthTail : Nat → Code → Code
  | n + 1, .seq _ c => nthTail n c
  | _, c => c
def tailAt (f : Func) (n : Nat) : Code := nthTail n (match f.body with | some c => c | none => .skip)
def headAt (f : Func) (n : Nat) : Code := match tailAt f n with | .seq c _ => c | c => c
theorem plus_run {x y r : Nat × Nat} (h : plusW x y = some r) (w : World) : (binOp .add 36 (.complex .f32 x.1 x.2) (.complex .f32 y.1 y.2)).run Try.prog w = .ok (.complex .f32 r.1 r.2) w := by
  unfold plusW at h
  simp only [Option.bind_eq_some_iff] at h
  obtain ⟨p, h1, q, h2, h3⟩ := h
  cases h3
  exact run_complex_sum w .add (.inl rfl) _ _ _ _ _ _ _ _ (by unfold cSumBits; rw [h1, Option.bind_some, h2, Option.bind_some])
theorem adz (a : Addr) : a.add 0 = a := by unfold Addr.add; split <;> simp_all
theorem Reads.step {w w' : World} {A : Option Addr} {n : Nat} {xs : List Value} (h : Reads w w.heap.size 1 A n xs) (hb : Below w.heap.size w w') : Reads w' w'.heap.size 1 A n xs := (h.below hb).more hb.size
theorem Own.rd {w : World} {lo n : Nat} {A : Option Addr} {xs : List Value} {E : TypeId} (h : Own w lo w.heap.size E A xs) (hn : xs.length = n) : Reads w w.heap.size 1 A n xs := h.reads' (Nat.le_refl _) hn
theorem eqC_self {x : Nat × Nat} (h : finCB x = true) : eqC x x = true := by
  unfold finCB at h
  rw [Bool.and_eq_true] at h
  unfold eqC
  rw [fin_eqo h.1, fin_eqo h.2]
  rfl
theorem sumW_upto {ws : List (Nat × Nat)} {r : Nat × Nat} {m : Nat} (h : sumW ws m = some r) : ∀ j, j ≤ m → ∃ s, sumW ws j = some s := by
  induction m generalizing r with
  | zero => intro j hj; exact ⟨_, by rw [show j = 0 by omega]; exact h⟩
  | succ m ih =>
    intro j hj
    by_cases e : j = m + 1
    · subst e; exact ⟨r, h⟩
    · rw [sumW, Option.bind_eq_some_iff] at h
      obtain ⟨s, h1, -⟩ := h
      exact ih h1 j (by omega)
theorem sumW_step {ws : List (Nat × Nat)} {j : Nat} {s r : Nat × Nat} (h : sumW ws (j + 1) = some r) (hs : sumW ws j = some s) : plusW s (ws.getD j (0, 0)) = some r := by
  rw [sumW, hs, Option.bind_some] at h
  exact h
end Go.Proofs.Ytlpibibpckkjhaa
namespace Go.Proofs.Ytlpibibpckkjhaa
open Go.RowKit
set_option maxRecDepth 100000 in
set_option maxHeartbeats 6400000 in
theorem pasT3 (Ap Av : Option Addr) (cp cv gw cw n : Nat) (h1 : 1 ≤ n) (h5 : n ≤ 5) (hs : List Nat) (vals d l ws : List (Nat × Nat)) (L : Rat) (hF : Hid (PFac n hs vals d l ws L)) (hcp : n ≤ cp) (w wo : World)
    (hRp : Reads wo wo.heap.size 1 Ap n (cplx (ptsL hs))) (hRv : Reads wo wo.heap.size 1 Av n (cplx vals)) (hRw : Reads wo wo.heap.size 1 (some ⟨gw, 0, none⟩) n (cplx ws)) (hb : Below w.heap.size w wo)
    {v0 v1 v2 v3 v4 v8 v9 v10 v11 v12 v13 v14 v15 v17 v18 v19 v20 v21 v22 v23 v24 v25 v26 v27 v28 v29 v30 v31 v32 v33 v34 v35 v36 v37 v38 v39 v40 v41 v42 v43 v44 v45 v46 v47 v48 v49 v50 v51 v52 v53 v54 v55 v56 v57 v58 v59 v60 v61 v62 v63 v64 v65 v66 v67 v68 v69 v70 v71 v72 v73 v74 v75 v76 v77 v78 v79 v80 v81 v82 v83 v84 v85 v86 v87 v88 v89 v90 v91 v92 v93 v94 v95 v96 v97 v98 v99 v100 v101 v102 v103 v104 v105 v106 v107 v108 v109 v110 v111 v112 v113 v114 v115 v116 v117 v118 v119 v120 v121 v122 v123 v124 v125 v126 v127 v128 v129 v130 v131 v132 v133 v134 v135 v136 v137 v138 v139 v140 v141 v142 v143 v144 v145 v146 v147 v148 v149 v150 v151 v152 v153 v154 v155 v156 v157 v158 v159 v160 v161 v162 v163 v164 v165 v166 v167 v168 v169 v170 v171 v172 v173 v174 v175 v176 v177 v178 v179 v180 v181 v182 v183 v184 v185 v186 v187 v188 v189 v190 v191 v192 v193 v194 v195 v196 v197 v198 v199 v200 v201 v202 v203 v204 v205 v206 v207 v208 v209 v210 v211 v212 v213 v214 v215 v216 v217 v218 v219 v220 v221 v222 v223 v224 v225 v226 v227 v228 v229 v230 v231 v232 v233 v234 v235 v236 v237 v238 v239 v240 v241 v242 v243 v244 v245 v246 v247 v248 v249 v250 v251 v252 v253 v254 : Value} :
    let Q' : Exit → Act → World → Prop := bodyPost Try.prog Try.f5 fun e w' => e = .returned (.bool true) ∧ Below w.heap.size w w'
    ∀ K : Act → World → Prop, (∀ a w, Code.wp Try.prog (tailAt Try.f5 21) Q' a w → K a w) → Code.wp Try.prog (headAt Try.f5 20) (Exit.then K Q') { tmps := #[v0, v1, v2, v3, v4, .int .i64 (n : Int), .slice Ap n cp, .slice Av n cv, v8, v9, v10, v11, v12, v13, v14, v15, .slice (some ⟨gw, 0, none⟩) n cw, v17, v18, v19, v20, v21, v22, v23, v24, v25, v26, v27, v28, v29, v30, v31, v32, v33, v34, v35, v36, v37, v38, v39, v40, v41, v42, v43, v44, v45, v46, v47, v48, v49, v50, v51, v52, v53, v54, v55, v56, v57, v58, v59, v60, v61, v62, v63, v64, v65, v66, v67, v68, v69, v70, v71, v72, v73, v74, v75, v76, v77, v78, v79, v80, v81, v82, v83, v84, v85, v86, v87, v88, v89, v90, v91, v92, v93, v94, v95, v96, v97, v98, v99, v100, v101, v102, v103, v104, v105, v106, v107, v108, v109, v110, v111, v112, v113, v114, v115, v116, v117, v118, v119, v120, v121, v122, v123, v124, v125, v126, v127, v128, v129, v130, v131, v132, v133, v134, v135, v136, v137, v138, v139, v140, v141, v142, v143, v144, v145, v146, v147, v148, v149, v150, v151, v152, v153, v154, v155, v156, v157, v158, v159, v160, v161, v162, v163, v164, v165, v166, v167, v168, v169, v170, v171, v172, v173, v174, v175, v176, v177, v178, v179, v180, v181, v182, v183, v184, v185, v186, v187, v188, v189, v190, v191, v192, v193, v194, v195, v196, v197, v198, v199, v200, v201, v202, v203, v204, v205, v206, v207, v208, v209, v210, v211, v212, v213, v214, v215, v216, v217, v218, v219, v220, v221, v222, v223, v224, v225, v226, v227, v228, v229, v230, v231, v232, v233, v234, v235, v236, v237, v238, v239, v240, v241, v242, v243, v244, v245, v246, v247, v248, v249, v250, v251, v252, v253, v254], defers := [] } wo := by
  intro Q' K hK
  dsimp only [headAt, tailAt, Try.f5, nthTail] at hK ⊢
  have z0 := hb.size
  have hs0 : Hid (sumW ws 0 = some (0, 0)) := rfl
  go_wp2
  go_loopw [30, 31, 32, 33] (fun s i _ _ wr => ∃ (k x y : Nat), k ≤ n ∧ i = .int .i64 (k : Int) ∧ s = .complex .f32 x y ∧ Hid (sumW ws k = some (x, y)) ∧ Below wo.heap.size wo wr) (fun _ i _ _ _ => n - (intOf i).toNat)
  case atStart => exact ⟨0, 0, 0, Nat.zero_le _, rfl, rfl, hs0, Below.refl _ _⟩
  case round =>
    obtain ⟨k, x, y, hk, rfl, rfl, hS, hbr⟩ := hrel
    obtain ⟨wq, rfl⟩ : ∃ wq : World, wq = wr := ⟨_, rfl⟩
    have zr := hbr.size
    have hpl := hF.out.pl
    have hvl := hF.out.vl
    have hwl := hF.out.wl
    by_cases hlt : k < n
    · -- <L1
      have hRp1 := hRp.step hbr
      have hRv1 := hRv.step hbr
      have hRw1 := hRw.step hbr
      have hPf := hF.out.P.fin
      have hfp := all_getD hPf (show k < (ptsL hs).length by omega)
      have hfv := all_getD hF.out.V (show k < vals.length by omega)
      have HL := lagrangeAt_hit Ap Av cp cv n k (ptsL hs) vals ((ptsL hs).getD k (0, 0)) hpl hvl hcp hF.out.P hF.out.V (by unfold finCB at hfp; rwa [Bool.and_eq_true] at hfp) hlt (fun j hj => hF.out.P.ne k j hj (by omega)) (eqC_self hfp) wq hRp1 hRv1
      obtain ⟨s, a, b, hsw, -⟩ := hF.out.sw
      obtain ⟨r, hr⟩ := sumW_upto hsw (k + 1) (by omega)
      have jp := plus_run (sumW_step hr hS.out)
      obtain ⟨ad, rfl, -, hc1⟩ := comp_at (l := ptsL hs) (k := k) (by rw [hpl]; exact hRp1) (by omega)
      have hk0 : (0 : Int) ≤ (k : Int) := by omega
      have hk1 : (k : Int) < (n : Int) := by omega
      have hS2 : Hid (sumW ws (k + 1) = some (r.1, r.2)) := hr
      unfold finCB at hfv
      rw [Bool.and_eq_true] at hfv
      have q1 := fin_eqo hfv.1
      have q2 := fin_eqo hfv.2
      clear hRp1 hfp hPf hsw hr hS hfv
      generalize (ptsL hs).getD k (0, 0) = X1 at *
      go_wp2_with fail
      (with_reducible refine HL.mono ?_)
      rintro e w5 ⟨rfl, hb5⟩
      clear HL hc1
      have hRv2 := hRv1.step hb5
      have hRw2 := hRw1.step hb5
      have hb6 := hbr.trans (hb5.mono zr)
      obtain ⟨ad2, rfl, -, hc2⟩ := comp_at (l := vals) (k := k) (by rw [hvl]; exact hRv2) (by omega)
      obtain ⟨ad3, e3, -, hc3⟩ := comp_at (l := ws) (k := k) (by rw [hwl]; exact hRw2) (by omega)
      cases e3
      rw [add0] at hc3
      clear hRv1 hRw1 hRv2 hRw2 hb5
      generalize vals.getD k (0, 0) = X2 at *
      generalize ws.getD k (0, 0) = X3 at *
      go_wp2
      exact ⟨⟨k + 1, r.1, r.2, by omega, by go_num, rfl, hS2, hb6⟩, by simp [intOf]; omega⟩
      -- L1>
    · -- <L2
      obtain rfl : k = n := by omega
      have hb6 := hb.trans (hbr.mono z0)
      obtain ⟨s, a, b, hsw, n1, n2, hsm⟩ := hF.out.sw
      have e1 := hS.out.symm.trans hsw
      cases e1
      by_cases hk1 : k = 1
      · have hk2 : (k : Int) = 1 := by omega
        clear hF hs0 hRp hRv hRw hS hsw
        go_wp2
        go_ret
        exact ⟨rfl, hb6⟩
      · have hk2 : ¬ (k : Int) = 1 := by omega
        obtain ⟨m1, m2⟩ := hsm (by omega)
        obtain ⟨g, HG, HT⟩ := bnd_sum (x := (x, y)) n1 n2 m1 m2
        obtain ⟨t, σ, nt, t1, t2, HS⟩ := r8Sum_v k ws hwl (by omega) hF.out.wb
        obtain ⟨p, q, f1, f2, f3⟩ := HT t σ nt t1 t2
        have j1 := ar64 _ _ _ _ f1
        have j2 := ar64 _ _ _ _ f2
        have HS2 := fun (W : World) (hW : Below wo.heap.size wo W) => HS (some ⟨gw, 0, none⟩) cw wo.heap.size W (hRw.below hW)
        clear hF hs0 hRp hRv hRw hS hsw n1 n2 m1 m2 nt t1 t2 HT f1 f2 HS hsm
        go_wp2_with fail
        refine (HG _).mono ?_
        rintro e w6 ⟨rfl, rfl⟩
        go_wp2_with fail
        refine (HS2 _ hbr).mono ?_
        rintro e w6 ⟨rfl, rfl⟩
        go_wp2
        go_ret
        exact ⟨rfl, hb6⟩
      -- L2>
end Go.Proofs.Ytlpibibpckkjhaa
namespace Go.Proofs.Ytlpibibpckkjhaa
open Go.RowKit
set_option maxRecDepth 100000 in
set_option maxHeartbeats 6400000 in
theorem pasT2 (A Ap Av : Option Addr) (c cp cv gd cd gw cw gl cl P n r : Nat) (zs : List Int) (h1 : 1 ≤ n) (h5 : n ≤ 5) (hs : List Nat) (vals d l ws : List (Nat × Nat)) (L v : Rat) (hF : Hid (PFac n hs vals d l ws L)) (hA : Hid (∀ i j, i < 33 → j < 33 → ∃ u r1 r2 r3 r4, PNum n hs vals d l (zt i, zt j) L u r1 r2 r3 r4))
    (hv : Hid (NV .f32 r v ∧ v ≤ 3 * L ∧ 96 / 100 * L - 11 / 1000 ≤ v)) (hcp : n ≤ cp) (hz : Byt zs) (w wo : World) (hr : Reads wo w.heap.size 1 A zs.length (byts zs))
    (hRp : Reads wo wo.heap.size 1 Ap n (cplx (ptsL hs))) (hRv : Reads wo wo.heap.size 1 Av n (cplx vals)) (hRd : Reads wo wo.heap.size 1 (some ⟨gd, 0, none⟩) n (cplx d)) (hRw : Reads wo wo.heap.size 1 (some ⟨gw, 0, none⟩) n (cplx ws)) (hRl : Reads wo wo.heap.size 1 (some ⟨gl, 0, none⟩) l.length (cplx l)) (hP : Blk wo P 33 #[.slice (some ⟨gl, 0, none⟩) l.length cl]) (hb : Below w.heap.size w wo)
    {v1 v2 v3 v4 v9 v11 v12 v13 v14 v15 v17 v19 v20 v21 v22 v23 v24 v25 v26 v27 v28 v29 v30 v31 v32 v33 v34 v35 v36 v37 v38 v39 v40 v41 v42 v43 v44 v45 v46 v47 v48 v49 v50 v51 v52 v53 v54 v55 v56 v57 v58 v59 v60 v61 v62 v63 v64 v65 v66 v67 v68 v69 v70 v71 v72 v73 v74 v75 v76 v77 v78 v79 v80 v81 v82 v83 v84 v85 v86 v87 v88 v89 v90 v91 v92 v93 v94 v95 v96 v97 v98 v99 v100 v101 v102 v103 v104 v105 v106 v107 v108 v109 v110 v111 v112 v113 v114 v115 v116 v117 v118 v119 v120 v121 v122 v123 v124 v125 v126 v127 v128 v129 v130 v131 v132 v133 v134 v135 v136 v137 v138 v139 v140 v141 v142 v143 v144 v145 v146 v147 v148 v149 v150 v151 v152 v153 v154 v155 v156 v157 v158 v159 v160 v161 v162 v163 v164 v165 v166 v167 v168 v169 v170 v171 v172 v173 v174 v175 v176 v177 v178 v179 v180 v181 v182 v183 v184 v185 v186 v187 v188 v189 v190 v191 v192 v193 v194 v195 v196 v197 v198 v199 v200 v201 v202 v203 v204 v205 v206 v207 v208 v209 v210 v211 v212 v213 v214 v215 v216 v217 v218 v219 v220 v221 v222 v223 v224 v225 v226 v227 v228 v229 v230 v231 v232 v233 v234 v235 v236 v237 v238 v239 v240 v241 v242 v243 v244 v245 v246 v247 v248 v249 v250 v251 v252 v253 v254 : Value} :
    let Q' : Exit → Act → World → Prop := bodyPost Try.prog Try.f5 fun e w' => e = .returned (.bool true) ∧ Below w.heap.size w w'
    ∀ K : Act → World → Prop, (∀ a w, Code.wp Try.prog (tailAt Try.f5 14) Q' a w → K a w) → Code.wp Try.prog (headAt Try.f5 13) (Exit.then K Q') { tmps := #[.slice A zs.length c, v1, v2, v3, v4, .int .i64 (n : Int), .slice Ap n cp, .slice Av n cv, .slice (some ⟨gd, 0, none⟩) n cd, v9, .pointer (some ⟨P, 0, none⟩), v11, v12, v13, v14, v15, .slice (some ⟨gw, 0, none⟩) n cw, v17, .float .f32 r, v19, v20, v21, v22, v23, v24, v25, v26, v27, v28, v29, v30, v31, v32, v33, v34, v35, v36, v37, v38, v39, v40, v41, v42, v43, v44, v45, v46, v47, v48, v49, v50, v51, v52, v53, v54, v55, v56, v57, v58, v59, v60, v61, v62, v63, v64, v65, v66, v67, v68, v69, v70, v71, v72, v73, v74, v75, v76, v77, v78, v79, v80, v81, v82, v83, v84, v85, v86, v87, v88, v89, v90, v91, v92, v93, v94, v95, v96, v97, v98, v99, v100, v101, v102, v103, v104, v105, v106, v107, v108, v109, v110, v111, v112, v113, v114, v115, v116, v117, v118, v119, v120, v121, v122, v123, v124, v125, v126, v127, v128, v129, v130, v131, v132, v133, v134, v135, v136, v137, v138, v139, v140, v141, v142, v143, v144, v145, v146, v147, v148, v149, v150, v151, v152, v153, v154, v155, v156, v157, v158, v159, v160, v161, v162, v163, v164, v165, v166, v167, v168, v169, v170, v171, v172, v173, v174, v175, v176, v177, v178, v179, v180, v181, v182, v183, v184, v185, v186, v187, v188, v189, v190, v191, v192, v193, v194, v195, v196, v197, v198, v199, v200, v201, v202, v203, v204, v205, v206, v207, v208, v209, v210, v211, v212, v213, v214, v215, v216, v217, v218, v219, v220, v221, v222, v223, v224, v225, v226, v227, v228, v229, v230, v231, v232, v233, v234, v235, v236, v237, v238, v239, v240, v241, v242, v243, v244, v245, v246, v247, v248, v249, v250, v251, v252, v253, v254], defers := [] } wo := by
  intro Q' K hK
  dsimp only [headAt, tailAt, Try.f5, nthTail] at hK ⊢
  have z0 := hb.size
  have HZ := r8Small_any A c zs hz wo (hr.more z0)
  go_wp2_with fail
  (with_reducible refine HZ.mono ?_)
  rintro e w1 ⟨i, j, rfl, hi, hj, hb1⟩
  have jz := z_run i j hi hj 36
  obtain ⟨u, r1, r2, r3, r4, hN⟩ := hA.out i j hi hj
  have hzi := nv_fin (zt_ok i hi)
  have hzj := nv_fin (zt_ok j hj)
  have z1 := hb1.size
  have hRp1 := hRp.step hb1
  have hRv1 := hRv.step hb1
  have hRd1 := hRd.step hb1
  have hRw1 := hRw.step hb1
  have hRl1 := hRl.step hb1
  have hP1 := hP.below hb1 hP.lt
  have hb2 := hb.trans (hb1.mono z0)
  have HN := newtonAt_w Ap (some ⟨gd, 0, none⟩) cp cd n (ptsL hs) d (zt i, zt j) r1 h1 hF.out.pl hF.out.dl hcp hF.out.P hF.out.df ⟨hzi, hzj⟩ hN.newt.1 hN.newt.2.fin w1 hRp1 hRd1
  clear HZ hr hRp hRv hRd hRw hRl hP hb hA hz
  have hzz : Hid (fin32B (zt i) = true ∧ fin32B (zt j) = true) := ⟨hzi, hzj⟩
  replace hN := Lib.hid hN
  clear hzi hzj
  generalize qz i = qi at *
  generalize qz j = qj at *
  generalize zt i = zi at *
  generalize zt j = zj at *
  go_wp2_with fail
  (with_reducible refine HN.mono ?_)
  rintro e w2 ⟨rfl, hb3⟩
  obtain ⟨lo, n1, n2, n3⟩ := hN.out.nev
  have HV := nevilleAt_w Ap Av cp cv n (ptsL hs) vals lo (zi, zj) h1 hF.out.pl hF.out.vl hcp hF.out.P hF.out.V hzz.out n1 (by rw [n2]; exact n3.fin) w2 (hRp1.step hb3) (hRv1.step hb3)
  rw [n2] at HV
  clear n1 n2 n3 HN
  have hRp2 := hRp1.step hb3
  have hRv2 := hRv1.step hb3
  have hRw2 := hRw1.step hb3
  have hRl2 := hRl1.step hb3
  have hP2 := hP1.below hb3 hP1.lt
  have hb4 := hb2.trans (hb3.mono hb2.size)
  clear hRp1 hRv1 hRd1 hRw1 hRl1 hP1 hb2 hb3 hb1 z0 z1
  go_wp2_with fail
  (with_reducible refine HV.mono ?_)
  rintro e w3 ⟨rfl, hb5⟩
  have HL := hN.out.lag.2 Ap Av cp cv w3 hcp (hRp2.step hb5) (hRv2.step hb5)
  have hRp3 := hRp2.step hb5
  have hRv3 := hRv2.step hb5
  have hRw3 := hRw2.step hb5
  have hRl3 := hRl2.step hb5
  have hP3 := hP2.below hb5 hP2.lt
  have hb6 := hb4.trans (hb5.mono hb4.size)
  clear hRp2 hRv2 hRw2 hRl2 hP2 hb4 hb5 HV
  go_wp2_with fail
  (with_reducible refine HL.mono ?_)
  rintro e w4 ⟨rfl, hb7⟩
  have HP := hN.out.pat.1 (some ⟨gl, 0, none⟩) cl w4 (hRl3.step hb7)
  have hRp4 := hRp3.step hb7
  have hRv4 := hRv3.step hb7
  have hRw4 := hRw3.step hb7
  have hP4 := hP3.below hb7 hP3.lt
  have hb8 := hb6.trans (hb7.mono hb6.size)
  have cP : w4.cell? ⟨P, 0, none⟩ = some (.slice (some ⟨gl, 0, none⟩) l.length cl) := hP4.cell 0
  clear hRp3 hRv3 hRw3 hRl3 hP3 hb6 hb7 HL
  go_wp2_with fail
  (with_reducible refine HP.mono ?_)
  rintro e w5 ⟨rfl, hb9⟩
  have hRp5 := hRp4.step hb9
  have hRv5 := hRv4.step hb9
  have hRw5 := hRw4.step hb9
  have hb10 := hb8.trans (hb9.mono hb8.size)
  obtain ⟨nv, v1, v2⟩ := hv.out
  have hL := hF.out.hL
  obtain ⟨r', p, q, s, σ, f1, f2, f3, f4, ns, sσ⟩ := bnd_far nv hL v1 v2
  obtain ⟨g1, φ1, ng1, b1, HG1⟩ := far_near hL hN.out.newt.2 (hN.out.nev.choose_spec.2.2) (by grind)
  obtain ⟨g2, φ2, ng2, b2, HG2⟩ := far_near hL (hN.out.nev.choose_spec.2.2) hN.out.lag.1 (by grind)
  obtain ⟨g3, φ3, ng3, b3, HG3⟩ := far_near hL hN.out.pat.2 (hN.out.nev.choose_spec.2.2) (by grind)
  have t1 := gt_no ng1 ns (by grind)
  have t2 := gt_no ng2 ns (by grind)
  have t3 := gt_no ng3 ns (by grind)
  have j1 := cvW f1
  have j2 := ar64 _ _ _ _ f2
  have j3 := ar64 _ _ _ _ f3
  have j4 := ar64 _ _ _ _ f4
  clear nv v1 v2 hv hL f1 f2 f3 f4 ns sσ ng1 b1 ng2 b2 ng3 b3 HP cP hP4 hRp4 hRv4 hRw4 hb8 hb9 hN hzz jz
  go_wp2_with fail
  refine (HG1 _).mono ?_
  rintro e w6 ⟨rfl, rfl⟩
  go_wp2_with fail
  refine (HG2 _).mono ?_
  rintro e w6 ⟨rfl, rfl⟩
  go_wp2_with fail
  refine (HG3 _).mono ?_
  rintro e w6 ⟨rfl, rfl⟩
  go_upto_region 24 with fail
  exact pasT3 Ap Av cp cv gw cw n h1 h5 hs vals d l ws L hF hcp w _ hRp5 hRv5 hRw5 hb10 _ (by assumption)
end Go.Proofs.Ytlpibibpckkjhaa
namespace Go.Proofs.Ytlpibibpckkjhaa
open Go.RowKit
def seqFst : Code → Code
  | .seq a _ => a
  | c => c
def seqSnd : Code → Code
  | .seq _ b => b
  | c => c
set_option maxRecDepth 100000 in
set_option maxHeartbeats 6400000 in
theorem pasT1 (A Ap Av : Option Addr) (c cp cv gd cd gw cw gl cl gm cm' P M n m : Nat) (zs : List Int) (h1 : 1 ≤ n) (h5 : n ≤ 5) (hs : List Nat) (vals d l ws : List (Nat × Nat)) (L μ : Rat) (hF : Hid (PFac n hs vals d l ws L)) (hA : Hid (∀ i j, i < 33 → j < 33 → ∃ u r1 r2 r3 r4, PNum n hs vals d l (zt i, zt j) L u r1 r2 r3 r4))
    (hm : Hid (NV .f32 m μ ∧ μ ≤ 27 / 100 * L)) (hcp : n ≤ cp) (hz : Byt zs) (w wo : World) (hr : Reads wo w.heap.size 1 A zs.length (byts zs))
    (hRp : Reads wo wo.heap.size 1 Ap n (cplx (ptsL hs))) (hRv : Reads wo wo.heap.size 1 Av n (cplx vals)) (hRd : Reads wo wo.heap.size 1 (some ⟨gd, 0, none⟩) n (cplx d)) (hRw : Reads wo wo.heap.size 1 (some ⟨gw, 0, none⟩) n (cplx ws)) (hRl : Reads wo wo.heap.size 1 (some ⟨gl, 0, none⟩) l.length (cplx l)) (hRm : Reads wo wo.heap.size 1 (some ⟨gm, 0, none⟩) l.length (cplx l))
    (hP : Blk wo P 33 #[.slice (some ⟨gl, 0, none⟩) l.length cl]) (hM : Blk wo M 33 #[.slice (some ⟨gm, 0, none⟩) l.length cm']) (hb : Below w.heap.size w wo)
    {v1 v2 v3 v4 v18 v19 v20 v21 v22 v23 v24 v25 v26 v27 v28 v29 v30 v31 v32 v33 v34 v35 v36 v37 v38 v39 v40 v41 v42 v43 v44 v45 v46 v47 v48 v49 v50 v51 v52 v53 v54 v55 v56 v57 v58 v59 v60 v61 v62 v63 v64 v65 v66 v67 v68 v69 v70 v71 v72 v73 v74 v75 v76 v77 v78 v79 v80 v81 v82 v83 v84 v85 v86 v87 v88 v89 v90 v91 v92 v93 v94 v95 v96 v97 v98 v99 v100 v101 v102 v103 v104 v105 v106 v107 v108 v109 v110 v111 v112 v113 v114 v115 v116 v117 v118 v119 v120 v121 v122 v123 v124 v125 v126 v127 v128 v129 v130 v131 v132 v133 v134 v135 v136 v137 v138 v139 v140 v141 v142 v143 v144 v145 v146 v147 v148 v149 v150 v151 v152 v153 v154 v155 v156 v157 v158 v159 v160 v161 v162 v163 v164 v165 v166 v167 v168 v169 v170 v171 v172 v173 v174 v175 v176 v177 v178 v179 v180 v181 v182 v183 v184 v185 v186 v187 v188 v189 v190 v191 v192 v193 v194 v195 v196 v197 v198 v199 v200 v201 v202 v203 v204 v205 v206 v207 v208 v209 v210 v211 v212 v213 v214 v215 v216 v217 v218 v219 v220 v221 v222 v223 v224 v225 v226 v227 v228 v229 v230 v231 v232 v233 v234 v235 v236 v237 v238 v239 v240 v241 v242 v243 v244 v245 v246 v247 v248 v249 v250 v251 v252 v253 v254 : Value} :
    let Q' : Exit → Act → World → Prop := bodyPost Try.prog Try.f5 fun e w' => e = .returned (.bool true) ∧ Below w.heap.size w w'
    ∀ K K' : Act → World → Prop, (∀ a w, Code.wp Try.prog (tailAt Try.f5 11) Q' a w → K a w) → (∀ a w, Code.wp Try.prog (seqSnd (headAt Try.f5 10)) (Exit.then K Q') a w → K' a w) →
      Code.wp Try.prog (seqFst (headAt Try.f5 10)) (Exit.then K' (Exit.then K Q')) { tmps := #[.slice A zs.length c, v1, v2, v3, v4, .int .i64 (n : Int), .slice Ap n cp, .slice Av n cv, .slice (some ⟨gd, 0, none⟩) n cd, .bool true, .pointer (some ⟨P, 0, none⟩), .bool true, .pointer (some ⟨M, 0, none⟩), .bool true, .float .f32 m, .bool true, .slice (some ⟨gw, 0, none⟩) n cw, .bool true, v18, v19, v20, v21, v22, v23, v24, v25, v26, v27, v28, v29, v30, v31, v32, v33, v34, v35, v36, v37, v38, v39, v40, v41, v42, v43, v44, v45, v46, v47, v48, v49, v50, v51, v52, v53, v54, v55, v56, v57, v58, v59, v60, v61, v62, v63, v64, v65, v66, v67, v68, v69, v70, v71, v72, v73, v74, v75, v76, v77, v78, v79, v80, v81, v82, v83, v84, v85, v86, v87, v88, v89, v90, v91, v92, v93, v94, v95, v96, v97, v98, v99, v100, v101, v102, v103, v104, v105, v106, v107, v108, v109, v110, v111, v112, v113, v114, v115, v116, v117, v118, v119, v120, v121, v122, v123, v124, v125, v126, v127, v128, v129, v130, v131, v132, v133, v134, v135, v136, v137, v138, v139, v140, v141, v142, v143, v144, v145, v146, v147, v148, v149, v150, v151, v152, v153, v154, v155, v156, v157, v158, v159, v160, v161, v162, v163, v164, v165, v166, v167, v168, v169, v170, v171, v172, v173, v174, v175, v176, v177, v178, v179, v180, v181, v182, v183, v184, v185, v186, v187, v188, v189, v190, v191, v192, v193, v194, v195, v196, v197, v198, v199, v200, v201, v202, v203, v204, v205, v206, v207, v208, v209, v210, v211, v212, v213, v214, v215, v216, v217, v218, v219, v220, v221, v222, v223, v224, v225, v226, v227, v228, v229, v230, v231, v232, v233, v234, v235, v236, v237, v238, v239, v240, v241, v242, v243, v244, v245, v246, v247, v248, v249, v250, v251, v252, v253, v254], defers := [] } wo := by
  intro Q' K K' hK hK'
  dsimp only [seqFst, seqSnd, headAt, tailAt, Try.f5, nthTail] at hK hK' ⊢
  have hdr : Below wo.heap.size wo wo.drew := below_drew (Below.refl _ _)
  have cP : wo.cell? ⟨P, 0, none⟩ = some (.slice (some ⟨gl, 0, none⟩) l.length cl) := hP.cell 0
  have cM : wo.cell? ⟨M, 0, none⟩ = some (.slice (some ⟨gm, 0, none⟩) l.length cm') := hM.cell 0
  have hfl : l.all finCB = true := by
    have h := hF.out.lv
    unfold polyB at h
    simp only [Bool.and_eq_true] at h
    exact h.1.2
  have HS := samePoly_any (some ⟨gm, 0, none⟩) (some ⟨gl, 0, none⟩) cm' cl wo.heap.size l wo.drew hRm hRl (Nat.le_refl _) hfl (by have := polyB_len hF.out.lv; omega)
  have hvl := hF.out.vl
  have hdl := hF.out.dl
  have hfv := all_getD hF.out.V (show 0 < vals.length by omega)
  obtain ⟨ad, rfl, -, hc1⟩ := comp_at (l := vals) (k := 0) (by rw [hvl]; exact hRv) (by omega)
  obtain ⟨ad2, e2, -, hc2⟩ := comp_at (l := d) (k := 0) (by rw [hdl]; exact hRd) (by omega)
  cases e2
  rw [adz] at hc1
  rw [add0] at hc2
  rw [hF.out.d0] at hc2
  unfold finCB at hfv
  rw [Bool.and_eq_true] at hfv
  have q1 := fin_eqo hfv.1
  have q2 := fin_eqo hfv.2
  have hn1 : (0 : Int) < (n : Int) := by omega
  have hn2 : 0 < n := by omega
  replace hr := Lib.hid hr
  replace hz := Lib.hid hz
  clear hfl hfv
  generalize vals.getD 0 (0, 0) = X at *
  go_wp2_with fail
  refine wp_region_still_tail 42 (by kernel_rfl) (by kernel_rfl) ?_
  simp only [List.take_succ_cons, List.take_zero, List.drop_succ_cons, List.drop_zero]
  repeat still_step
  refine wpStill_nil ?_
  change wpList _ _ _ _ _ wo.drew
  go_wp2_with fail
  (with_reducible refine HS.mono ?_)
  rintro e w1 ⟨rfl, hb1⟩
  have hb2 : Below wo.heap.size wo w1 := hdr.trans hb1
  have hRp1 := hRp.step hb2
  have hRv1 := hRv.step hb2
  have hRd1 := hRd.step hb2
  have hRw1 := hRw.step hb2
  have hRl1 := hRl.step hb2
  have hP1 := hP.below hb2 hP.lt
  have HAr := arePoints_any Ap cp w1.heap.size n (ptsL hs) hF.out.pl hcp hF.out.P w1 hRp1 (Nat.le_refl _)
  have z0 := hb.size
  have hr1 : Hid (Reads w1 w.heap.size 1 A zs.length (byts zs)) := hr.out.below (hb2.mono z0)
  have hb3 := hb.trans (hb2.mono z0)
  clear HS hRp hRv hRd hRw hRl hRm hP hM cP cM hdr hb hb1 hb2 hc1 hc2 hr z0 q1 q2
  go_wp2_with fail
  (with_reducible refine HAr.mono ?_)
  rintro e w2 ⟨rfl, hb4⟩
  have hRp2 := hRp1.step hb4
  have hRv2 := hRv1.step hb4
  have hRd2 := hRd1.step hb4
  have hRw2 := hRw1.step hb4
  have hRl2 := hRl1.step hb4
  have hP2 := hP1.below hb4 hP1.lt
  have HL := hF.out.long (some ⟨gl, 0, none⟩) cl w2 hRl2
  have cP : w2.cell? ⟨P, 0, none⟩ = some (.slice (some ⟨gl, 0, none⟩) l.length cl) := hP2.cell 0
  have z1 := hb3.size
  have hr2 : Hid (Reads w2 w.heap.size 1 A zs.length (byts zs)) := hr1.out.below (hb4.mono z1)
  have hb5 := hb3.trans (hb4.mono z1)
  clear HAr hRp1 hRv1 hRd1 hRw1 hRl1 hP1 hb3 hb4 hr1 z1
  go_wp2_with fail
  (with_reducible refine HL.mono ?_)
  rintro e w3 ⟨r, v, rfl, nv, v1, v2, v3, hb6⟩
  have hRp3 := hRp2.step hb6
  have hRv3 := hRv2.step hb6
  have hRd3 := hRd2.step hb6
  have hRw3 := hRw2.step hb6
  have hRl3 := hRl2.step hb6
  have hP3 := hP2.below hb6 hP2.lt
  have z2 := hb5.size
  have hr3 : Hid (Reads w3 w.heap.size 1 A zs.length (byts zs)) := hr2.out.below (hb6.mono z2)
  have hb7 := hb5.trans (hb6.mono z2)
  obtain ⟨m', r', p, q, s, f1, f2, f3, f4, f5, ht⟩ := bnd_miss hm.out.1 nv hF.out.hL hm.out.2 v1 v2 v3
  have hv : Hid (NV .f32 r v ∧ v ≤ 3 * L ∧ 96 / 100 * L - 11 / 1000 ≤ v) := ⟨nv, v1, v2⟩
  have j1 := cvW f1
  have j2 := cvW f2
  have j3 := ar64 _ _ _ _ f3
  have j4 := ar64 _ _ _ _ f4
  have j5 := ar64 _ _ _ _ f5
  clear HL hRp2 hRv2 hRd2 hRw2 hRl2 hP2 hb5 hb6 hr2 z2 cP nv v1 v2 v3 f1 f2 f3 f4 f5
  go_upto_region 16 with fail
  exact pasT2 A (Ap) (some ad) c cp cv gd cd gw cw gl cl P n r zs h1 h5 hs vals d l ws L v hF hA hv hcp hz.out w w3 hr3.out hRp3 hRv3 hRd3 hRw3 hRl3 hP3 hb7 _ (by assumption)
end Go.Proofs.Ytlpibibpckkjhaa
namespace Go.Proofs.Ytlpibibpckkjhaa
open Go.RowKit
set_option maxRecDepth 100000 in
set_option maxHeartbeats 6400000 in
theorem lawPas (A A' : Option Addr) (c c' : Nat) (zs ms : List Int) (w : World) (hr : Reads w w.heap.size 1 A zs.length (byts zs)) (hr' : Reads w w.heap.size 1 A' ms.length (byts ms)) (hz : Byt zs) (hm : Byt ms) :
    Calls Try.prog 5 #[.slice A zs.length c, .slice A' ms.length c'] w fun e w' => e = .returned (.bool true) ∧ Below w.heap.size w w' := by
  have HL := r8Long_any A A' c c' zs.length ms.length w
  cases hlong : (decide (48 < zs.length) || decide (48 < ms.length)) with
  | true =>
    rw [hlong] at HL
    clear hlong
    go_enter Try.func5, Try.ntmps5
    go_wp2_with fail
    refine HL.mono ?_
    rintro e w' ⟨rfl, rfl⟩
    go_wp2
    go_ret
    exact ⟨rfl, Below.refl _ _⟩
  | false =>
  rw [hlong] at HL
  clear hlong
  go_enter Try.func5, Try.ntmps5
  go_wp2_with fail
  refine HL.mono ?_
  rintro e w' ⟨rfl, rfl⟩
  clear HL
  go_wp2_with fail
  refine (r8At_any A' c' w.heap.size ms 40 5 (by omega) (by omega) hm _ hr').mono ?_
  rintro e w1 ⟨n0, rfl, hn5, rfl⟩
  obtain ⟨n, hn, h1, h5⟩ : ∃ n : Nat, 1 + (n0 : Int) = (n : Int) ∧ 1 ≤ n ∧ n ≤ 5 := ⟨n0 + 1, by omega, by omega, by omega⟩
  have HP := r8Points_any A c n zs ⟨h1, h5⟩ hz w hr
  have HV0 := fun (W : World) (hW : Below w.heap.size w W) => r8Many_any A' c' n ms ⟨h1, by omega⟩ hm W ((hr'.below hW).more hW.size)
  go_wp2_with fail
  clear hn hn5
  (with_reducible refine HP.mono ?_)
  rintro e w1 ⟨Ap, cp, hs, a, rfl, hcp, hsl, hpt, hOp, hb1⟩
  have hpl : (cplx (ptsL hs)).length = n := by simp [hsl]
  have hRp1 : Reads w1 w1.heap.size 1 Ap n (cplx (ptsL hs)) := hOp.rd hpl
  have HV := HV0 w1 hb1
  clear HP HV0 hOp hpl
  go_wp2_with fail
  (with_reducible refine HV.mono ?_)
  rintro e w2 ⟨Av, cv, ks, rfl, hcv, hkl, hks, hOv, hb2⟩
  obtain ⟨d, l, ws, L, hF, hA⟩ := pas_all hpt hsl h1 h5 hkl hks
  have hvl : (cplx (vlL ks)).length = n := by simp [hkl]
  have hRv2 : Reads w2 w2.heap.size 1 Av n (cplx (vlL ks)) := hOv.rd hvl
  have hRp2 := hRp1.step hb2
  have hb3 := hb1.trans (hb2.mono hb1.size)
  have HD := dividedOf_w Ap Av cp cv n (ptsL hs) (vlL ks) d h1 hF.pl hF.vl hcp hF.P hF.V hF.dv (fun k hk => by
    have h := all_getD hF.df (show k < d.length by rw [hF.dl]; exact hk)
    unfold finCB at h
    rwa [Bool.and_eq_true] at h) w2 hRp2 hRv2
  replace hA := Lib.hid hA
  replace hF := Lib.hid hF
  replace hr := Lib.hid hr
  clear HV hOv hRp1 hb1 hb2 hr' hvl hpt hks
  generalize vlL ks = vals at *
  go_wp2_with fail
  (with_reducible refine HD.mono ?_)
  rintro e w3 ⟨gd, cd, rfl, hOd, hb4⟩
  have hRp3 := hRp2.step hb4
  have hRv3 := hRv2.step hb4
  have hRd3 : Reads w3 w3.heap.size 1 (some ⟨gd, 0, none⟩) n (cplx d) := hOd.rd (by simp [hF.out.dl])
  have hb5 := hb3.trans (hb4.mono hb3.size)
  have HQ := passingPoly_w Ap Av cp cv n (ptsL hs) vals d l h1 hF.out.pl hF.out.vl hcp hF.out.P hF.out.V hF.out.dv hF.out.df hF.out.np w3 hRp3 hRv3
  clear HD hOd hRp2 hRv2 hb3 hb4
  go_wp2_with fail
  (with_reducible refine HQ.mono ?_)
  rintro e w4 ⟨gl, cl, rfl, hOl, hb6⟩
  have hll : (cplx l).length = l.length := by simp
  have hb7 : Below w4.heap.size w4 (w4.alloc (.cells #[.slice (some ⟨gl, 0, none⟩) l.length cl] 33)) := (Below.refl _ _).alloc (Nat.le_refl _) _
  have hPv := Blk.new w4 33 #[.slice (some ⟨gl, 0, none⟩) l.length cl]
  have hRl5 := (hOl.rd hll).step hb7
  have hRp5 := (hRp3.step hb6).step hb7
  have hRv5 := (hRv3.step hb6).step hb7
  have hRd5 := (hRd3.step hb6).step hb7
  have hb8 := hb5.trans ((hb6.trans (hb7.mono hb6.size)).mono hb5.size)
  have HN := newtonPoly_w Ap (some ⟨gd, 0, none⟩) cp cd n (ptsL hs) d l h1 hF.out.pl hF.out.dl hcp hF.out.P hF.out.df hF.out.np _ hRp5 hRd5
  clear HQ hOl hRp3 hRv3 hRd3 hb5 hb6 hb7
  obtain ⟨P, hPe⟩ : ∃ P, P = w4.heap.size := ⟨_, rfl⟩
  rw [← hPe] at hPv
  go_wp2_with fail
  (with_reducible refine HN.mono ?_)
  rintro e w5 ⟨gm, cm', rfl, hOm, hb9⟩
  rw [← hPe]
  have hb10 : Below w5.heap.size w5 (w5.alloc (.cells #[.slice (some ⟨gm, 0, none⟩) l.length cm'] 33)) := (Below.refl _ _).alloc (Nat.le_refl _) _
  have hMv := Blk.new w5 33 #[.slice (some ⟨gm, 0, none⟩) l.length cm']
  have hP6 := (hPv.below hb9 hPv.lt).below hb10 (hPv.below hb9 hPv.lt).lt
  have hRm6 := (hOm.rd hll).step hb10
  have hRl6 := (hRl5.step hb9).step hb10
  have hRp6 := (hRp5.step hb9).step hb10
  have hRv6 := (hRv5.step hb9).step hb10
  have hRd6 := (hRd5.step hb9).step hb10
  have hb11 := hb8.trans ((hb9.trans (hb10.mono hb9.size)).mono hb8.size)
  have HM := hF.out.miss (some ⟨gl, 0, none⟩) Ap Av cl cp cv _ hcp hRl6 hRp6 hRv6
  have cP := hP6.cell 0
  clear HN hOm hPv hPe hRl5 hRp5 hRv5 hRd5 hb8 hb9 hb10
  obtain ⟨M, hMe⟩ : ∃ M, M = w5.heap.size := ⟨_, rfl⟩
  rw [← hMe] at hMv
  go_wp2_with fail
  (with_reducible refine HM.mono ?_)
  rintro e w6 ⟨m, μ, rfl, nm, -, m1, hb12⟩
  rw [← hMe]
  have hm' : Hid (NV .f32 m μ ∧ μ ≤ 27 / 100 * L) := ⟨nm, m1⟩
  have hP7 := hP6.below hb12 hP6.lt
  have hM7 := hMv.below hb12 hMv.lt
  have hRm7 := hRm6.step hb12
  have hRl7 := hRl6.step hb12
  have hRp7 := hRp6.step hb12
  have hRv7 := hRv6.step hb12
  have hRd7 := hRd6.step hb12
  have hb13 := hb11.trans (hb12.mono hb11.size)
  have HW := pointWeights_w Ap cp n (ptsL hs) ws hF.out.pl hcp hF.out.P hF.out.wg w6 hRp7
  clear HM hP6 hMv hMe hRm6 hRl6 hRp6 hRv6 hRd6 hb11 hb12 cP nm m1
  go_wp2_with fail
  (with_reducible refine HW.mono ?_)
  rintro e w7 ⟨gw, cw, rfl, hOw, hb14⟩
  have hP8 := hP7.below hb14 hP7.lt
  have hM8 := hM7.below hb14 hM7.lt
  have hRw8 : Reads w7 w7.heap.size 1 (some ⟨gw, 0, none⟩) n (cplx ws) := hOw.rd (by simp [hF.out.wl])
  have hRm8 := hRm7.step hb14
  have hRl8 := hRl7.step hb14
  have hRp8 := hRp7.step hb14
  have hRv8 := hRv7.step hb14
  have hRd8 := hRd7.step hb14
  have hb15 := hb13.trans (hb14.mono hb13.size)
  have hr8 := hr.out.below hb15
  clear HW hP7 hM7 hOw hRm7 hRl7 hRp7 hRv7 hRd7 hb13 hb14
  go_upto_region 11 with fail
  exact pasT1 A Ap Av c cp cv gd cd gw cw gl cl gm cm' P M n m zs h1 h5 hs vals d l ws L μ hF hA hm' hcp hz w w7 hr8 hRp8 hRv8 hRd8 hRw8 hRl8 hRm8 hP8 hM8 hb15 _ _ (by assumption) (by assumption)
end Go.Proofs.Ytlpibibpckkjhaa
