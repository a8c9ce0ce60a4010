/-
  The law FnSeries: each term against what it is to be.
-/
import Derived.Test.YtlilhebnbhlkhaaLq4
namespace Go.Proofs.Ytlilhebnbhlkhaa
open Go.RowKit

set_option maxRecDepth 100000 in
set_option maxHeartbeats 6400000 in
theorem serT3 (A' : Option Addr) (c' ga ca gb cb gu cu gl cl gr cr' gs cs' gd cd gq cq gh ch mo n : Nat) (ms : List Int) (hm : Byt ms) (u v I R : Sq) (μ : Rat) (a b i un e s j q l r sq ri sl sa qa la t h : List (Nat × Nat)) (hn : 2 ≤ n ∧ n ≤ 7) (hF : Hid (SerF n a b i un e s j q l r sq ri sl sa qa la t h u v I R)) (hu : Hid (u 0 = (1, 0))) (hv : Hid (v 0 = (0, 0))) (hb0 : Hid (b.getD 0 (0, 0) = (0, 0))) (hμ : Hid (NV .f64 mo μ ∧ 36 / 10000 ≤ μ)) (w wo : World) (hr' : Reads wo w.heap.size 1 A' ms.length (byts ms))
    (hC : CVs wo [(gh, h), (gq, un), (gd, sl), (gs, sq), (gr, r), (gl, l), (gu, un), (gb, b), (ga, a)]) (hab : ga ≠ gb) (hgb : w.heap.size ≤ gb) (hb : Below w.heap.size w wo)
    {v0 v2 v3 v4 v8 v9 v11 v12 v13 v15 v17 v19 v20 v21 v23 v25 v27 v28 v29 v31 v32 v33 v34 v35 v36 v37 v38 v39 v40 v41 v42 v43 v44 v45 v46 v47 v48 v49 v50 v51 v52 v53 v54 v55 v56 v57 v58 v59 v60 v61 v62 v63 v64 v65 v66 v67 v68 v69 v70 v71 v72 v73 v74 v75 v76 v77 v78 v79 v80 v81 v82 v83 v84 v85 v86 v87 v88 v89 v90 v91 v92 v93 v94 v95 v96 v97 v98 v99 v100 v101 v102 v103 v104 v105 v106 v107 v108 v109 v110 v111 v112 v113 v114 v115 v116 v117 v118 v119 v120 v121 v122 v123 v124 v125 v126 v127 v128 v129 v130 v131 v132 v133 v134 v135 v136 v137 v138 v139 v140 v141 v142 v143 v144 v145 v146 v147 v148 v149 v150 v151 v152 v153 v154 v155 v156 v157 v158 v159 v160 v161 v162 v163 v164 v165 v166 v167 v168 v169 v170 v171 v172 v173 v174 v175 v176 v177 v178 v179 v180 v181 v182 v183 v184 v185 v186 v187 v188 v189 v190 v191 v192 v193 v194 v195 v196 v197 v198 v199 v200 v201 v202 v203 v204 v205 v206 v207 v208 v209 v210 v211 v212 v213 v214 v215 v216 v217 v218 v219 v220 v221 v222 v223 v224 v225 v226 v227 v228 v229 v230 v231 v232 v233 v234 v235 v236 v237 v238 v239 v240 v241 v242 v243 v244 v245 v246 v247 v248 v249 v250 v251 v252 v253 v254 v255 v256 v257 v258 v259 v260 v261 v262 v263 v264 v265 v266 v267 v268 v269 v270 v271 v272 v273 v274 v275 v276 v277 v278 v279 v280 v281 v282 v283 v284 v285 v286 v287 v288 v289 v290 v291 v292 v293 v294 v295 v296 v297 v298 v299 v300 v301 v302 v303 v304 v305 v306 v307 v308 v309 v310 v311 v312 v313 v314 v315 v316 v317 v318 v319 v320 v321 v322 v323 v324 v325 v326 v327 v328 v329 v330 v331 v332 v333 v334 v335 v336 v337 v338 v339 v340 v341 v342 v343 v344 v345 v346 v347 v348 v349 v350 v351 v352 v353 v354 v355 v356 v357 v358 v359 v360 v361 v362 v363 v364 v365 v366 v367 v368 v369 v370 v371 v372 v373 v374 v375 v376 v377 v378 v379 v380 v381 v382 v383 v384 v385 v386 v387 v388 v389 v390 v391 v392 v393 v394 v395 v396 v397 v398 v399 v400 v401 v402 v403 v404 v405 v406 v407 v408 v409 v410 v411 v412 v413 v414 v415 v416 v417 v418 v419 v420 v421 v422 v423 v424 v425 v426 v427 v428 v429 v430 v431 v432 v433 : Value} :
    let Q' : Exit → Act → World → Prop := bodyPost Try.prog Try.f4 fun e w' => e = .returned (.bool true) ∧ Below w.heap.size w w'
    ∀ K K' : Act → World → Prop, (∀ a w, Code.wp Try.prog (tailAt Try.f4 22) Q' a w → K a w) → (∀ a w, Code.wp Try.prog (seqSnd (headAt Try.f4 21)) (Exit.then K Q') a w → K' a w) →
      Code.wp Try.prog (seqFst (headAt Try.f4 21)) (Exit.then K' (Exit.then K Q')) { tmps := #[v0, .slice A' ms.length c', v2, v3, v4, .int .i64 (n : Int), .slice (some ⟨ga, 0, none⟩) n ca, .slice (some ⟨gb, 0, none⟩) n cb, v8, v9, .slice (some ⟨gu, 0, none⟩) n cu, v11, v12, v13, .slice (some ⟨gl, 0, none⟩) n cl, v15, .slice (some ⟨gr, 0, none⟩) n cr', v17, .slice (some ⟨gs, 0, none⟩) n cs', v19, v20, v21, .slice (some ⟨gd, 0, none⟩) n cd, v23, .slice (some ⟨gq, 0, none⟩) n cq, v25, .slice (some ⟨gh, 0, none⟩) n ch, v27, v28, v29, .float .f64 mo, v31, v32, v33, v34, v35, v36, v37, v38, v39, v40, v41, v42, v43, v44, v45, v46, v47, v48, v49, v50, v51, v52, v53, v54, v55, v56, v57, v58, v59, v60, v61, v62, v63, v64, v65, v66, v67, v68, v69, v70, v71, v72, v73, v74, v75, v76, v77, v78, v79, v80, v81, v82, v83, v84, v85, v86, v87, v88, v89, v90, v91, v92, v93, v94, v95, v96, v97, v98, v99, v100, v101, v102, v103, v104, v105, v106, v107, v108, v109, v110, v111, v112, v113, v114, v115, v116, v117, v118, v119, v120, v121, v122, v123, v124, v125, v126, v127, v128, v129, v130, v131, v132, v133, v134, v135, v136, v137, v138, v139, v140, v141, v142, v143, v144, v145, v146, v147, v148, v149, v150, v151, v152, v153, v154, v155, v156, v157, v158, v159, v160, v161, v162, v163, v164, v165, v166, v167, v168, v169, v170, v171, v172, v173, v174, v175, v176, v177, v178, v179, v180, v181, v182, v183, v184, v185, v186, v187, v188, v189, v190, v191, v192, v193, v194, v195, v196, v197, v198, v199, v200, v201, v202, v203, v204, v205, v206, v207, v208, v209, v210, v211, v212, v213, v214, v215, v216, v217, v218, v219, v220, v221, v222, v223, v224, v225, v226, v227, v228, v229, v230, v231, v232, v233, v234, v235, v236, v237, v238, v239, v240, v241, v242, v243, v244, v245, v246, v247, v248, v249, v250, v251, v252, v253, v254, v255, v256, v257, v258, v259, v260, v261, v262, v263, v264, v265, v266, v267, v268, v269, v270, v271, v272, v273, v274, v275, v276, v277, v278, v279, v280, v281, v282, v283, v284, v285, v286, v287, v288, v289, v290, v291, v292, v293, v294, v295, v296, v297, v298, v299, v300, v301, v302, v303, v304, v305, v306, v307, v308, v309, v310, v311, v312, v313, v314, v315, v316, v317, v318, v319, v320, v321, v322, v323, v324, v325, v326, v327, v328, v329, v330, v331, v332, v333, v334, v335, v336, v337, v338, v339, v340, v341, v342, v343, v344, v345, v346, v347, v348, v349, v350, v351, v352, v353, v354, v355, v356, v357, v358, v359, v360, v361, v362, v363, v364, v365, v366, v367, v368, v369, v370, v371, v372, v373, v374, v375, v376, v377, v378, v379, v380, v381, v382, v383, v384, v385, v386, v387, v388, v389, v390, v391, v392, v393, v394, v395, v396, v397, v398, v399, v400, v401, v402, v403, v404, v405, v406, v407, v408, v409, v410, v411, v412, v413, v414, v415, v416, v417, v418, v419, v420, v421, v422, v423, v424, v425, v426, v427, v428, v429, v430, v431, v432, v433], defers := [] } wo := by
  intro Q' K K' hK hK'
  dsimp only [seqFst, seqSnd, headAt, tailAt, Try.f4, nthTail] at hK hK' ⊢
  have z0 := hb.size
  obtain ⟨hn2, hn7⟩ := hn
  have ula := hF.out.f_na.len
  have ulb := hF.out.f_nb.len
  have ulu := hF.out.f_un.2.len
  have ull := hF.out.f_l.2.len
  have ulr := hF.out.f_r.2.len
  have uls := hF.out.f_sq.2.len
  have uld := hF.out.f_sl.2.1.len
  have ulh := hF.out.f_h.2.len
  have htA : ∀ k, k < n → (tA k).2 = 0 := fun k hk => by
    have t : allN 7 (fun k => decide ((tA k).2 = 0)) = true := by decide +kernel
    have := allN_at t (show k < 7 by omega)
    rwa [decide_eq_true_eq] at this
  have htB : ∀ k, k < n → (tB k).2 = 0 := fun k hk => by
    have t : allN 7 (fun k => decide ((tB k).2 = 0)) = true := by decide +kernel
    have := allN_at t (show k < 7 by omega)
    rwa [decide_eq_true_eq] at this
  replace htA := Lib.hid htA
  replace htB := Lib.hid htB
  go_wp2_with fail
  go_loopw [31, 32, 234] (fun _ _ q wr => ∃ k : Nat, k ≤ n ∧ q = .int .i64 (k : Int) ∧ ∃ d, wr = wo.drewN d) (fun _ _ q _ => n - (intOf q).toNat)
  case atStart => exact ⟨0, Nat.zero_le _, rfl, 0, rfl⟩
  case round =>
    obtain ⟨k, hk, rfl, dq, hW⟩ := hrel
    by_cases hlt : k < n
    · replace hC := hC.drewN dq
      rw [← hW] at hC
      replace hW := Lib.hid hW
      have hE := end_at (show k < 7 by omega)
      obtain ⟨w3, rfl⟩ : ∃ w3 : World, w3 = wr := ⟨_, rfl⟩
      replace hb := Lib.hid hb
      replace hr' := Lib.hid hr'
      replace htA := htA.out
      replace htB := htB.out
      by_cases hk0 : k = 0
      · subst hk0
        have hn0 : (0 : Int) < (n : Int) := by omega
        have hn00 : 0 < n := by omega
        have hcc : c1 0 = (1, 0) := rfl
        obtain ⟨d1, L1, l1, γ1, f1, f2, f3, nγ1, b1⟩ := ap_test (y := (1065353216, 0)) (B := (1, 0)) (hF.out.f_un.2.ap 0 hlt) ap_one (by have := hE.u; simp only; grind)
        obtain ⟨d3, L3, l3, γ3, f7, f8, f9, nγ3, b3⟩ := ap_test (hF.out.f_l.2.ap 0 hlt) (hF.out.f_nb.ap 0 hlt) (by have := hE.l; have := htB 0 hlt; grind)
        obtain ⟨d4, L4, l4, γ4, f10, f11, f12, nγ4, b4⟩ := ap_test (hF.out.f_sq.2.ap 0 hlt) (hF.out.f_na.ap 0 hlt) (by have := hE.q; have := htA 0 hlt; grind)
        obtain ⟨d5, L5, l5, γ5, f13, f14, f15, nγ5, b5⟩ := ap_test (hF.out.f_h.2.ap 0 hlt) (hF.out.f_r.2.ap 0 hlt) hE.h
        have t1 := gt_no nγ1 hμ.out.1 (by have := hμ.out.2; grind)
        have t3 := gt_no nγ3 hμ.out.1 (by have := hμ.out.2; grind)
        have t4 := gt_no nγ4 hμ.out.1 (by have := hμ.out.2; grind)
        have t5 := gt_no nγ5 hμ.out.1 (by have := hμ.out.2; grind)
        have m1 := minus_run f1
        have m3 := minus_run f7
        have m4 := minus_run f10
        have m5 := minus_run f13
        have HL1 := sLongW_calls f2
        have HL3 := sLongW_calls f8
        have HL4 := sLongW_calls f11
        have HL5 := sLongW_calls f14
        have kl1 := cvW f3
        have kl3 := cvW f9
        have kl4 := cvW f12
        have kl5 := cvW f15
        have c1 := (hC.at_ (g := gu) (x := un) (by simp)).cell (i := 0) (by omega)
        have c2 := (hC.at_ (g := gq) (x := un) (by simp)).cell (i := 0) (by omega)
        have c3 := (hC.at_ (g := gl) (x := l) (by simp)).cell (i := 0) (by omega)
        have c4 := (hC.at_ (g := gb) (x := b) (by simp)).cell (i := 0) (by omega)
        have c5 := (hC.at_ (g := gs) (x := sq) (by simp)).cell (i := 0) (by omega)
        have c6 := (hC.at_ (g := ga) (x := a) (by simp)).cell (i := 0) (by omega)
        have c7 := (hC.at_ (g := gh) (x := h) (by simp)).cell (i := 0) (by omega)
        have c8 := (hC.at_ (g := gr) (x := r) (by simp)).cell (i := 0) (by omega)
        have c9 := (hC.at_ (g := gd) (x := sl) (by simp)).cell (i := 0) (by omega)
        have hsl : ∀ (_ : 0 + 1 < n), ∃ d6 L6 l6 γ6, minusW (sl.getD 0 (0, 0)) (a.getD 0 (0, 0)) = some d6 ∧ longW d6 = some L6 ∧ floatToFloatBits .f32 L6 .f64 = some l6 ∧ NV .f64 l6 γ6 ∧ γ6 ≤ 9 / 10000 := fun hk2 => ap_test (hF.out.f_sl.2.2 0 hk2) (hF.out.f_na.ap 0 hlt) (by have := hE.s; have := htA 0 hlt; grind)
        have hwn : IntKind.i64.wrap ((n : Int) - 1) = (n : Int) - 1 := IntWalk.i64_in _ (by omega)
        replace hC := Lib.hid hC
        clear hE htA htB f1 f2 f3 f7 f8 f9 f10 f11 f12 f13 f14 f15 nγ1 nγ3 nγ4 nγ5 b1 b3 b4 b5
        by_cases hk2 : 0 + 1 < n
        · obtain ⟨d6, L6, l6, γ6, f16, f17, f18, nγ6, b6⟩ := hsl hk2
          have t6 := gt_no nγ6 nv_001 (by grind)
          have m6 := minus_run f16
          have HL6 := sLongW_calls f17
          have kl6 := cvW f18
          have hk3 : decide ((0 : Int) < (n : Int) - 1) = true := by simp; omega
          have hk4 : (1 : Int) < (n : Int) := by omega
          clear hsl f16 f17 f18 nγ6 b6 hF
          generalize un.getD 0 (0, 0) = X0 at *
          generalize l.getD 0 (0, 0) = X1 at *
          generalize b.getD 0 (0, 0) = X2 at *
          generalize sq.getD 0 (0, 0) = X3 at *
          generalize a.getD 0 (0, 0) = X4 at *
          generalize h.getD 0 (0, 0) = X5 at *
          generalize r.getD 0 (0, 0) = X6 at *
          generalize sl.getD 0 (0, 0) = X7 at *
          go_wp2_with fail
          go_big_quiet ((go_at_call 13; first | with_reducible exact Calls.quiet_of_same (HL1 _) | with_reducible exact Calls.quiet_of_same (HL3 _) | with_reducible exact Calls.quiet_of_same (HL4 _) | with_reducible exact Calls.quiet_of_same (HL5 _)))
          go_wp2_with fail
          replace c9 : (w3.drewN nq).cell? ⟨gd, 0, none⟩ = some (.complex .f32 X7.1 X7.2) := c9
          replace c6 : (w3.drewN nq).cell? ⟨ga, 0, none⟩ = some (.complex .f32 X4.1 X4.2) := c6
          have hW2 : Hid (w3.drewN nq = wo.drewN (dq + nq)) := by
            show _ = _
            rw [hW.out, World.drewN_drewN]
          clear hW hC c1 c2 c3 c4 c5 c7 c8 m1 m3 m4 m5 HL1 HL3 HL4 HL5
          generalize w3.drewN nq = w4 at *
          generalize dq + nq = dq2 at *
          go_wp2_with fail
          go_big_quiet ((go_at_call 13; with_reducible exact Calls.quiet_of_same (HL6 _)))
          go_wp2
          exact ⟨⟨1, by omega, by rfl, dq2 + nq, by rw [hW2.out, World.drewN_drewN]⟩, by simp [intOf]; try omega⟩
        · omega
      · have hk00 : ¬ (k : Int) = 0 := by omega
        have hk01 : (0 : Int) ≤ (k : Int) := by omega
        have hk02 : (k : Int) < (n : Int) := by omega
        obtain ⟨d1, L1, l1, γ1, f1, f2, f3, nγ1, b1⟩ := ap_test (y := (0, 0)) (B := (0, 0)) (hF.out.f_un.2.ap k hlt) (by unfold c1; rw [if_neg hk0]; exact Ap.zero) (by have := hE.u; simp only; grind)
        obtain ⟨d3, L3, l3, γ3, f7, f8, f9, nγ3, b3⟩ := ap_test (hF.out.f_l.2.ap k hlt) (hF.out.f_nb.ap k hlt) (by have := hE.l; have := htB k hlt; grind)
        obtain ⟨d4, L4, l4, γ4, f10, f11, f12, nγ4, b4⟩ := ap_test (hF.out.f_sq.2.ap k hlt) (hF.out.f_na.ap k hlt) (by have := hE.q; have := htA k hlt; grind)
        obtain ⟨d5, L5, l5, γ5, f13, f14, f15, nγ5, b5⟩ := ap_test (hF.out.f_h.2.ap k hlt) (hF.out.f_r.2.ap k hlt) hE.h
        have t1 := gt_no nγ1 hμ.out.1 (by have := hμ.out.2; grind)
        have t3 := gt_no nγ3 hμ.out.1 (by have := hμ.out.2; grind)
        have t4 := gt_no nγ4 hμ.out.1 (by have := hμ.out.2; grind)
        have t5 := gt_no nγ5 hμ.out.1 (by have := hμ.out.2; grind)
        have m1 := minus_run f1
        have m3 := minus_run f7
        have m4 := minus_run f10
        have m5 := minus_run f13
        have HL1 := sLongW_calls f2
        have HL3 := sLongW_calls f8
        have HL4 := sLongW_calls f11
        have HL5 := sLongW_calls f14
        have kl1 := cvW f3
        have kl3 := cvW f9
        have kl4 := cvW f12
        have kl5 := cvW f15
        have c1 := (hC.at_ (g := gu) (x := un) (by simp)).cell (i := k) (by omega)
        have c2 := (hC.at_ (g := gq) (x := un) (by simp)).cell (i := k) (by omega)
        have c3 := (hC.at_ (g := gl) (x := l) (by simp)).cell (i := k) (by omega)
        have c4 := (hC.at_ (g := gb) (x := b) (by simp)).cell (i := k) (by omega)
        have c5 := (hC.at_ (g := gs) (x := sq) (by simp)).cell (i := k) (by omega)
        have c6 := (hC.at_ (g := ga) (x := a) (by simp)).cell (i := k) (by omega)
        have c7 := (hC.at_ (g := gh) (x := h) (by simp)).cell (i := k) (by omega)
        have c8 := (hC.at_ (g := gr) (x := r) (by simp)).cell (i := k) (by omega)
        have c9 := (hC.at_ (g := gd) (x := sl) (by simp)).cell (i := k) (by omega)
        have hsl : ∀ (_ : k + 1 < n), ∃ d6 L6 l6 γ6, minusW (sl.getD k (0, 0)) (a.getD k (0, 0)) = some d6 ∧ longW d6 = some L6 ∧ floatToFloatBits .f32 L6 .f64 = some l6 ∧ NV .f64 l6 γ6 ∧ γ6 ≤ 9 / 10000 := fun hk2 => ap_test (hF.out.f_sl.2.2 k hk2) (hF.out.f_na.ap k hlt) (by have := hE.s; have := htA k hlt; grind)
        have hwn : IntKind.i64.wrap ((n : Int) - 1) = (n : Int) - 1 := IntWalk.i64_in _ (by omega)
        replace hC := Lib.hid hC
        clear hE htA htB f1 f2 f3 f7 f8 f9 f10 f11 f12 f13 f14 f15 nγ1 nγ3 nγ4 nγ5 b1 b3 b4 b5
        by_cases hk2 : k + 1 < n
        · obtain ⟨d6, L6, l6, γ6, f16, f17, f18, nγ6, b6⟩ := hsl hk2
          have t6 := gt_no nγ6 nv_001 (by grind)
          have m6 := minus_run f16
          have HL6 := sLongW_calls f17
          have kl6 := cvW f18
          have hk3 : (k : Int) < (n : Int) - 1 := by omega
          clear hsl f16 f17 f18 nγ6 b6 hF
          generalize un.getD k (0, 0) = X0 at *
          generalize l.getD k (0, 0) = X1 at *
          generalize b.getD k (0, 0) = X2 at *
          generalize sq.getD k (0, 0) = X3 at *
          generalize a.getD k (0, 0) = X4 at *
          generalize h.getD k (0, 0) = X5 at *
          generalize r.getD k (0, 0) = X6 at *
          generalize sl.getD k (0, 0) = X7 at *
          go_wp2_with fail
          go_big_quiet ((go_at_call 13; first | with_reducible exact Calls.quiet_of_same (HL1 _) | with_reducible exact Calls.quiet_of_same (HL3 _) | with_reducible exact Calls.quiet_of_same (HL4 _) | with_reducible exact Calls.quiet_of_same (HL5 _)))
          go_wp2_with fail
          replace c9 : (w3.drewN nq).cell? ⟨gd, k, none⟩ = some (.complex .f32 X7.1 X7.2) := c9
          replace c6 : (w3.drewN nq).cell? ⟨ga, k, none⟩ = some (.complex .f32 X4.1 X4.2) := c6
          have hW2 : Hid (w3.drewN nq = wo.drewN (dq + nq)) := by
            show _ = _
            rw [hW.out, World.drewN_drewN]
          clear hW hC c1 c2 c3 c4 c5 c7 c8 m1 m3 m4 m5 HL1 HL3 HL4 HL5
          generalize w3.drewN nq = w4 at *
          generalize dq + nq = dq2 at *
          go_wp2_with fail
          go_big_quiet ((go_at_call 13; with_reducible exact Calls.quiet_of_same (HL6 _)))
          go_wp2
          exact ⟨⟨k + 1, by omega, by go_num, dq2 + nq, by rw [hW2.out, World.drewN_drewN]⟩, by simp [intOf]; try omega⟩
        · have hk3 : decide ((k : Int) < (n : Int) - 1) = false := by simp; omega
          clear hsl hF
          generalize un.getD k (0, 0) = X0 at *
          generalize l.getD k (0, 0) = X1 at *
          generalize b.getD k (0, 0) = X2 at *
          generalize sq.getD k (0, 0) = X3 at *
          generalize a.getD k (0, 0) = X4 at *
          generalize h.getD k (0, 0) = X5 at *
          generalize r.getD k (0, 0) = X6 at *
          generalize sl.getD k (0, 0) = X7 at *
          go_wp2_with fail
          go_big_quiet ((go_at_call 13; first | with_reducible exact Calls.quiet_of_same (HL1 _) | with_reducible exact Calls.quiet_of_same (HL3 _) | with_reducible exact Calls.quiet_of_same (HL4 _) | with_reducible exact Calls.quiet_of_same (HL5 _)))
          go_wp2_with fail
          have hW2 : Hid (w3.drewN nq = wo.drewN (dq + nq)) := by
            show _ = _
            rw [hW.out, World.drewN_drewN]
          clear hW hC c1 c2 c3 c4 c5 c6 c7 c8 c9 m1 m3 m4 m5 HL1 HL3 HL4 HL5
          generalize w3.drewN nq = w4 at *
          generalize dq + nq = dq2 at *
          go_wp2_with fail
          go_big_quiet (fail)
          go_wp2
          exact ⟨⟨k + 1, by omega, by go_num, dq2 + nq, by rw [hW2.out, World.drewN_drewN]⟩, by simp [intOf]; try omega⟩
    · obtain rfl : k = n := by omega
      replace hC := hC.drewN dq
      have hb2 := below_drewN hb dq
      have hr2 := hr'.drewN dq
      rw [← hW] at hC hb2 hr2
      have hVa := hC.at_ (g := ga) (x := a) (by simp)
      have hVb := hC.at_ (g := gb) (x := b) (by simp)
      clear htA htB hC hW hb hr'
      go_upto_region 38 with fail
      exact serT4 A' c' ga ca gb cb k ms hm u v a b ⟨hn2, hn7⟩ hF.out.f_na hu hF.out.f_nb hv hb0 w _ hr2 hVa hVb hab hgb hb2 _ (by assumption)
end Go.Proofs.Ytlilhebnbhlkhaa
