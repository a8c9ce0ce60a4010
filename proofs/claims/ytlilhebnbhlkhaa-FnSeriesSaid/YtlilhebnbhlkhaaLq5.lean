/-
  The law FnSeries from its last part on: values of the series at numbers.
-/
import Derived.Test.YtlilhebnbhlkhaaSeM
namespace Go.Proofs.Ytlilhebnbhlkhaa
open Go.RowKit

set_option maxRecDepth 100000 in
set_option maxHeartbeats 6400000 in
theorem serT5 (A' : Option Addr) (c' ga ca n : Nat) (ms : List Int) (hm : Byt ms) (u : Sq) (a : List (Nat × Nat)) (hn : 1 ≤ n ∧ n ≤ 7) (ha : Hid (Near u tA n a)) (hu : Hid (u 0 = (1, 0))) (w wo : World) (hr' : Reads wo w.heap.size 1 A' ms.length (byts ms)) (hVa : CV wo ga a) (hb : Below w.heap.size w wo)
    {v0 v2 v3 v4 v5 v7 v8 v9 v10 v11 v12 v13 v14 v15 v16 v17 v18 v19 v20 v21 v22 v23 v24 v25 v26 v27 v28 v29 v30 v31 v32 v33 v34 v35 v36 v37 v38 v39 v40 v41 v42 v43 v44 v45 v46 v47 v48 v49 v50 v51 v52 v53 v54 v55 v56 v57 v58 v59 v60 v61 v62 v63 v64 v65 v66 v67 v68 v69 v70 v71 v72 v73 v74 v75 v76 v77 v78 v79 v80 v81 v82 v83 v84 v85 v86 v87 v88 v89 v90 v91 v92 v93 v94 v95 v96 v97 v98 v99 v100 v101 v102 v103 v104 v105 v106 v107 v108 v109 v110 v111 v112 v113 v114 v115 v116 v117 v118 v119 v120 v121 v122 v123 v124 v125 v126 v127 v128 v129 v130 v131 v132 v133 v134 v135 v136 v137 v138 v139 v140 v141 v142 v143 v144 v145 v146 v147 v148 v149 v150 v151 v152 v153 v154 v155 v156 v157 v158 v159 v160 v161 v162 v163 v164 v165 v166 v167 v168 v169 v170 v171 v172 v173 v174 v175 v176 v177 v178 v179 v180 v181 v182 v183 v184 v185 v186 v187 v188 v189 v190 v191 v192 v193 v194 v195 v196 v197 v198 v199 v200 v201 v202 v203 v204 v205 v206 v207 v208 v209 v210 v211 v212 v213 v214 v215 v216 v217 v218 v219 v220 v221 v222 v223 v224 v225 v226 v227 v228 v229 v230 v231 v232 v233 v234 v235 v236 v237 v238 v239 v240 v241 v242 v243 v244 v245 v246 v247 v248 v249 v250 v251 v252 v253 v254 v255 v256 v257 v258 v259 v260 v261 v262 v263 v264 v265 v266 v267 v268 v269 v270 v271 v272 v273 v274 v275 v276 v277 v278 v279 v280 v281 v282 v283 v284 v285 v286 v287 v288 v289 v290 v291 v292 v293 v294 v295 v296 v297 v298 v299 v300 v301 v302 v303 v304 v305 v306 v307 v308 v309 v310 v311 v312 v313 v314 v315 v316 v317 v318 v319 v320 v321 v322 v323 v324 v325 v326 v327 v328 v329 v330 v331 v332 v333 v334 v335 v336 v337 v338 v339 v340 v341 v342 v343 v344 v345 v346 v347 v348 v349 v350 v351 v352 v353 v354 v355 v356 v357 v358 v359 v360 v361 v362 v363 v364 v365 v366 v367 v368 v369 v370 v371 v372 v373 v374 v375 v376 v377 v378 v379 v380 v381 v382 v383 v384 v385 v386 v387 v388 v389 v390 v391 v392 v393 v394 v395 v396 v397 v398 v399 v400 v401 v402 v403 v404 v405 v406 v407 v408 v409 v410 v411 v412 v413 v414 v415 v416 v417 v418 v419 v420 v421 v422 v423 v424 v425 v426 v427 v428 v429 v430 v431 v432 v433 : Value} :
    let Q' : Exit → Act → World → Prop := bodyPost Try.prog Try.f4 fun e w' => e = .returned (.bool true) ∧ Below w.heap.size w w'
    ∀ K : Act → World → Prop, (∀ a w, Code.wp Try.prog (tailAt Try.f4 30) Q' a w → K a w) → Code.wp Try.prog (headAt Try.f4 29) (Exit.then K Q') { tmps := #[v0, .slice A' ms.length c', v2, v3, v4, v5, .slice (some ⟨ga, 0, none⟩) n ca, v7, v8, v9, v10, v11, v12, v13, v14, v15, v16, v17, v18, v19, v20, v21, v22, v23, v24, v25, v26, v27, v28, v29, v30, v31, v32, v33, v34, v35, v36, v37, v38, v39, v40, v41, v42, v43, v44, v45, v46, v47, v48, v49, v50, v51, v52, v53, v54, v55, v56, v57, v58, v59, v60, v61, v62, v63, v64, v65, v66, v67, v68, v69, v70, v71, v72, v73, v74, v75, v76, v77, v78, v79, v80, v81, v82, v83, v84, v85, v86, v87, v88, v89, v90, v91, v92, v93, v94, v95, v96, v97, v98, v99, v100, v101, v102, v103, v104, v105, v106, v107, v108, v109, v110, v111, v112, v113, v114, v115, v116, v117, v118, v119, v120, v121, v122, v123, v124, v125, v126, v127, v128, v129, v130, v131, v132, v133, v134, v135, v136, v137, v138, v139, v140, v141, v142, v143, v144, v145, v146, v147, v148, v149, v150, v151, v152, v153, v154, v155, v156, v157, v158, v159, v160, v161, v162, v163, v164, v165, v166, v167, v168, v169, v170, v171, v172, v173, v174, v175, v176, v177, v178, v179, v180, v181, v182, v183, v184, v185, v186, v187, v188, v189, v190, v191, v192, v193, v194, v195, v196, v197, v198, v199, v200, v201, v202, v203, v204, v205, v206, v207, v208, v209, v210, v211, v212, v213, v214, v215, v216, v217, v218, v219, v220, v221, v222, v223, v224, v225, v226, v227, v228, v229, v230, v231, v232, v233, v234, v235, v236, v237, v238, v239, v240, v241, v242, v243, v244, v245, v246, v247, v248, v249, v250, v251, v252, v253, v254, v255, v256, v257, v258, v259, v260, v261, v262, v263, v264, v265, v266, v267, v268, v269, v270, v271, v272, v273, v274, v275, v276, v277, v278, v279, v280, v281, v282, v283, v284, v285, v286, v287, v288, v289, v290, v291, v292, v293, v294, v295, v296, v297, v298, v299, v300, v301, v302, v303, v304, v305, v306, v307, v308, v309, v310, v311, v312, v313, v314, v315, v316, v317, v318, v319, v320, v321, v322, v323, v324, v325, v326, v327, v328, v329, v330, v331, v332, v333, v334, v335, v336, v337, v338, v339, v340, v341, v342, v343, v344, v345, v346, v347, v348, v349, v350, v351, v352, v353, v354, v355, v356, v357, v358, v359, v360, v361, v362, v363, v364, v365, v366, v367, v368, v369, v370, v371, v372, v373, v374, v375, v376, v377, v378, v379, v380, v381, v382, v383, v384, v385, v386, v387, v388, v389, v390, v391, v392, v393, v394, v395, v396, v397, v398, v399, v400, v401, v402, v403, v404, v405, v406, v407, v408, v409, v410, v411, v412, v413, v414, v415, v416, v417, v418, v419, v420, v421, v422, v423, v424, v425, v426, v427, v428, v429, v430, v431, v432, v433], defers := [] } wo := by
  intro Q' K hK
  dsimp only [headAt, tailAt, Try.f4, nthTail] at hK ⊢
  have z0 := hb.size
  obtain ⟨hn1, hn7⟩ := hn
  have hal := ha.out.len
  have HB2 := b10At_any A' c' w.heap.size ms 8 8 (by omega) (by omega) hm
  go_wp2_with fail
  refine (b10At_any A' c' w.heap.size ms 7 9 (by omega) (by omega) hm wo hr').mono ?_
  rintro e w1 ⟨q, rfl, hq, rfl⟩
  obtain ⟨e8, v8, n8, l8⟩ := q8_ok q (by omega)
  have jx := ar32 _ _ _ _ e8
  have hq0 : (0 : Int) ≤ (q : Int) := by omega
  obtain ⟨r, hrf, -, HX⟩ := at_val ha.out hn1 hn7 n8 l8
  obtain ⟨r0, hrf0, hz0, HX0⟩ := at_val ha.out hn1 hn7 nv_zero (ξ := 0) (by unfold Lm; constructor <;> grind)
  obtain ⟨c0, d0, n0, n0', e0⟩ := hz0 rfl
  rw [hu.out] at e0
  obtain ⟨dd, L, l, γ, g1, g2, g3, nγ, lγ⟩ := near_test (y := (1065353216, 0)) n0 n0' nv_one32 nv_zero e0 (by grind)
  have htest := lt_yes nγ nv_001 (by grind)
  have jm := minus_run g1
  have HL := sLongW_calls g2
  have kl := cvW g3
  have HSm := sSameComplex_fin r hrf.1 hrf.2
  have hser := ha.out.ser hn1 (by omega)
  have HX1 := HX (some ⟨ga, 0, none⟩) ca w1 (hVa.rd hal)
  clear hz0 e0 n0 n0' g1 g2 g3 nγ lγ n8 l8 e8
  generalize q8 q = qx at *
  go_wp2_with fail
  (with_reducible refine HX1.mono ?_)
  rintro e w2 ⟨rfl, hb1⟩
  have hVa2 := hVa.below hb1 hVa.lt
  have hb2 := hb.trans (hb1.mono z0)
  have z2 := hb2.size
  have hr2 := hr'.below (hb1.mono z0)
  have hb3 : Below w2.heap.size w2 (w2.alloc (.cells #[.complex .f32 qx 0, .complex .f32 0 0] 26)) := (Below.refl _ _).alloc (Nat.le_refl _) _
  have hRp : Reads (w2.alloc (.cells #[.complex .f32 qx 0, .complex .f32 0 0] 26)) (w2.heap.size + 1) 1 (some ⟨w2.heap.size, 0, none⟩) 2 (cplx [(qx, 0), (0, 0)]) := reads_new w2 (cplx [(qx, 0), (0, 0)]) 26
  have hVa3 := hVa2.below hb3 hVa2.lt
  have hr3 := hr2.below (hb3.mono z2)
  have hb4 := hb2.trans (hb3.mono z2)
  have HB3 := HB2 _ hr3
  clear HX1 HB2 hr' hVa hb hb1 z0
  go_wp2_with fail
  (with_reducible refine HB3.mono ?_)
  rintro e w3 ⟨m0, rfl, hm0, rfl⟩
  obtain ⟨m, hmm, hm1, hm8⟩ : ∃ m : Nat, 1 + (m0 : Int) = (m : Int) ∧ 1 ≤ m ∧ m ≤ 8 := ⟨m0 + 1, by omega, by omega, by omega⟩
  have HSh := seriesShared_ok (some ⟨ga, 0, none⟩) (some ⟨w2.heap.size, 0, none⟩) ca 2 n 2 m a [(qx, 0), (0, 0)] [r, r0] hser rfl rfl ⟨by omega, by omega⟩ ⟨hm1, hm8⟩ (fun k hk W hR => by
    rcases (show k = 0 ∨ k = 1 by omega) with e | e
    · subst e
      exact HX (some ⟨ga, 0, none⟩) ca W hR
    · subst e
      exact HX0 (some ⟨ga, 0, none⟩) ca W hR) _ (hVa3.rd hal) (hRp.more (by simp))
  clear HB3 HX HX0
  go_wp2_with fail
  clear hmm
  (with_reducible refine HSh.mono ?_)
  rintro e w4 ⟨gs, cs, rfl, hVs, hgs, hb5⟩
  have hb6 := hb4.trans (hb5.mono hb4.size)
  have hc1 := hVs.cell (i := 0) (by simp)
  have hc2 := hVs.cell (i := 1) (by simp)
  simp only [List.getD_cons_zero, List.getD_cons_succ] at hc1 hc2
  clear HSh hVa2 hVa3 hr2 hr3 hRp hb2 hb3 hb4 hb5
  go_wp2_with fail
  refine (HSm _).mono ?_
  rintro e w5 ⟨rfl, rfl⟩
  go_wp2_with fail
  refine (HL _).mono ?_
  rintro e w5 ⟨rfl, rfl⟩
  go_wp2
  go_ret
  exact ⟨rfl, hb6⟩
end Go.Proofs.Ytlilhebnbhlkhaa
