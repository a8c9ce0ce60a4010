/-
  The law FnSeries from the reversed series on.
-/
import Derived.Test.YtlilhebnbhlkhaaLq5
namespace Go.Proofs.Ytlilhebnbhlkhaa
open Go.RowKit

/-- What a step of the law's second sum needs. -/
theorem wide_step {x : Nat × Nat} {v : Rat × Rat} {k s : Nat} (hS : Scl 901 (k - 1) s) (hx : Vl x v 900) (h1 : k = 1 → 99 / 100 ≤ v.1) :
    ∃ L l s', longW x = some L ∧ floatToFloatBits .f32 L .f64 = some l ∧ Scl 901 k s' ∧ ∀ (ts : Array TypeId) (ty : TypeId) w, (Builtin.max_ ts ty #[.float .f64 s, .float .f64 l]).run Try.prog w = .ok (.float .f64 s') w := by
  obtain ⟨σ, ns, s1, s2, s3⟩ := hS
  obtain ⟨n1, n2, e1⟩ := hx
  obtain ⟨L, l, d1, g1, g2, m1, p1, p2, p3⟩ := long_up n1 n2 e1 ⟨by grind, by grind⟩
  obtain ⟨r, ε, nr, ⟨q1, q2, q3⟩, HM⟩ := max_any ns m1 #[] default
  refine ⟨L, l, r, g1, g2, ⟨ε, nr, by grind, by rcases q3 with h | h <;> grind, fun hk => ?_⟩, fun ts ty w => by rw [← HM w]; rfl⟩
  by_cases hk1 : k = 1
  · have e2 := h1 hk1
    have hb2 := sq_pos v.2
    have := Rat.mul_nonneg (show (0 : Rat) ≤ v.1 - 99 / 100 by grind) (show (0 : Rat) ≤ v.1 + 99 / 100 by grind)
    have := p3 (99 / 100) (by grind) (by grind)
    grind
  · have := s3 (by omega)
    grind

set_option maxRecDepth 100000 in
set_option maxHeartbeats 6400000 in
theorem serT4 (A' : Option Addr) (c' ga ca gb cb n : Nat) (ms : List Int) (hm : Byt ms) (u v : Sq) (a b : List (Nat × Nat)) (hn : 2 ≤ n ∧ n ≤ 7) (ha : Hid (Near u tA n a)) (hu : Hid (u 0 = (1, 0))) (hbn : Hid (Near v tB n b)) (hv : Hid (v 0 = (0, 0))) (hb0 : Hid (b.getD 0 (0, 0) = (0, 0))) (w wo : World) (hr' : Reads wo w.heap.size 1 A' ms.length (byts ms)) (hVa : CV wo ga a) (hVb : CV wo gb b) (hab : ga ≠ gb) (hgb : w.heap.size ≤ gb) (hb : Below w.heap.size w wo)
    {v0 v2 v3 v4 v8 v9 v10 v11 v12 v13 v14 v15 v16 v17 v18 v19 v20 v21 v22 v23 v24 v25 v26 v27 v28 v29 v30 v31 v32 v33 v34 v35 v36 v37 v38 v39 v40 v41 v42 v43 v44 v45 v46 v47 v48 v49 v50 v51 v52 v53 v54 v55 v56 v57 v58 v59 v60 v61 v62 v63 v64 v65 v66 v67 v68 v69 v70 v71 v72 v73 v74 v75 v76 v77 v78 v79 v80 v81 v82 v83 v84 v85 v86 v87 v88 v89 v90 v91 v92 v93 v94 v95 v96 v97 v98 v99 v100 v101 v102 v103 v104 v105 v106 v107 v108 v109 v110 v111 v112 v113 v114 v115 v116 v117 v118 v119 v120 v121 v122 v123 v124 v125 v126 v127 v128 v129 v130 v131 v132 v133 v134 v135 v136 v137 v138 v139 v140 v141 v142 v143 v144 v145 v146 v147 v148 v149 v150 v151 v152 v153 v154 v155 v156 v157 v158 v159 v160 v161 v162 v163 v164 v165 v166 v167 v168 v169 v170 v171 v172 v173 v174 v175 v176 v177 v178 v179 v180 v181 v182 v183 v184 v185 v186 v187 v188 v189 v190 v191 v192 v193 v194 v195 v196 v197 v198 v199 v200 v201 v202 v203 v204 v205 v206 v207 v208 v209 v210 v211 v212 v213 v214 v215 v216 v217 v218 v219 v220 v221 v222 v223 v224 v225 v226 v227 v228 v229 v230 v231 v232 v233 v234 v235 v236 v237 v238 v239 v240 v241 v242 v243 v244 v245 v246 v247 v248 v249 v250 v251 v252 v253 v254 v255 v256 v257 v258 v259 v260 v261 v262 v263 v264 v265 v266 v267 v268 v269 v270 v271 v272 v273 v274 v275 v276 v277 v278 v279 v280 v281 v282 v283 v284 v285 v286 v287 v288 v289 v290 v291 v292 v293 v294 v295 v296 v297 v298 v299 v300 v301 v302 v303 v304 v305 v306 v307 v308 v309 v310 v311 v312 v313 v314 v315 v316 v317 v318 v319 v320 v321 v322 v323 v324 v325 v326 v327 v328 v329 v330 v331 v332 v333 v334 v335 v336 v337 v338 v339 v340 v341 v342 v343 v344 v345 v346 v347 v348 v349 v350 v351 v352 v353 v354 v355 v356 v357 v358 v359 v360 v361 v362 v363 v364 v365 v366 v367 v368 v369 v370 v371 v372 v373 v374 v375 v376 v377 v378 v379 v380 v381 v382 v383 v384 v385 v386 v387 v388 v389 v390 v391 v392 v393 v394 v395 v396 v397 v398 v399 v400 v401 v402 v403 v404 v405 v406 v407 v408 v409 v410 v411 v412 v413 v414 v415 v416 v417 v418 v419 v420 v421 v422 v423 v424 v425 v426 v427 v428 v429 v430 v431 v432 v433 : Value} :
    let Q' : Exit → Act → World → Prop := bodyPost Try.prog Try.f4 fun e w' => e = .returned (.bool true) ∧ Below w.heap.size w w'
    ∀ K : Act → World → Prop, (∀ a w, Code.wp Try.prog (tailAt Try.f4 23) Q' a w → K a w) → Code.wp Try.prog (headAt Try.f4 22) (Exit.then K Q') { tmps := #[v0, .slice A' ms.length c', v2, v3, v4, .int .i64 (n : Int), .slice (some ⟨ga, 0, none⟩) n ca, .slice (some ⟨gb, 0, none⟩) n cb, v8, v9, v10, v11, v12, v13, v14, v15, v16, v17, v18, v19, v20, v21, v22, v23, v24, v25, v26, v27, v28, v29, v30, v31, v32, v33, v34, v35, v36, v37, v38, v39, v40, v41, v42, v43, v44, v45, v46, v47, v48, v49, v50, v51, v52, v53, v54, v55, v56, v57, v58, v59, v60, v61, v62, v63, v64, v65, v66, v67, v68, v69, v70, v71, v72, v73, v74, v75, v76, v77, v78, v79, v80, v81, v82, v83, v84, v85, v86, v87, v88, v89, v90, v91, v92, v93, v94, v95, v96, v97, v98, v99, v100, v101, v102, v103, v104, v105, v106, v107, v108, v109, v110, v111, v112, v113, v114, v115, v116, v117, v118, v119, v120, v121, v122, v123, v124, v125, v126, v127, v128, v129, v130, v131, v132, v133, v134, v135, v136, v137, v138, v139, v140, v141, v142, v143, v144, v145, v146, v147, v148, v149, v150, v151, v152, v153, v154, v155, v156, v157, v158, v159, v160, v161, v162, v163, v164, v165, v166, v167, v168, v169, v170, v171, v172, v173, v174, v175, v176, v177, v178, v179, v180, v181, v182, v183, v184, v185, v186, v187, v188, v189, v190, v191, v192, v193, v194, v195, v196, v197, v198, v199, v200, v201, v202, v203, v204, v205, v206, v207, v208, v209, v210, v211, v212, v213, v214, v215, v216, v217, v218, v219, v220, v221, v222, v223, v224, v225, v226, v227, v228, v229, v230, v231, v232, v233, v234, v235, v236, v237, v238, v239, v240, v241, v242, v243, v244, v245, v246, v247, v248, v249, v250, v251, v252, v253, v254, v255, v256, v257, v258, v259, v260, v261, v262, v263, v264, v265, v266, v267, v268, v269, v270, v271, v272, v273, v274, v275, v276, v277, v278, v279, v280, v281, v282, v283, v284, v285, v286, v287, v288, v289, v290, v291, v292, v293, v294, v295, v296, v297, v298, v299, v300, v301, v302, v303, v304, v305, v306, v307, v308, v309, v310, v311, v312, v313, v314, v315, v316, v317, v318, v319, v320, v321, v322, v323, v324, v325, v326, v327, v328, v329, v330, v331, v332, v333, v334, v335, v336, v337, v338, v339, v340, v341, v342, v343, v344, v345, v346, v347, v348, v349, v350, v351, v352, v353, v354, v355, v356, v357, v358, v359, v360, v361, v362, v363, v364, v365, v366, v367, v368, v369, v370, v371, v372, v373, v374, v375, v376, v377, v378, v379, v380, v381, v382, v383, v384, v385, v386, v387, v388, v389, v390, v391, v392, v393, v394, v395, v396, v397, v398, v399, v400, v401, v402, v403, v404, v405, v406, v407, v408, v409, v410, v411, v412, v413, v414, v415, v416, v417, v418, v419, v420, v421, v422, v423, v424, v425, v426, v427, v428, v429, v430, v431, v432, v433], defers := [] } wo := by
  intro Q' K hK
  dsimp only [headAt, tailAt, Try.f4, nthTail] at hK ⊢
  have z0 := hb.size
  obtain ⟨hn2, hn7⟩ := hn
  have hbl := hbn.out.len
  have hnb : Near (fun k => if k = 1 then (1, 0) else v k) tC n (b.set 1 (1065353216, 0)) := ⟨by rw [List.length_set, hbl], fun k hk => by
    rw [getD_set _ _ _ _ _ (by omega)]
    by_cases e : k = 1
    · subst e
      rw [if_pos rfl, if_pos rfl]
      exact ap_one.le (by decide +kernel)
    · rw [if_neg e, if_neg e]
      have t : allN 7 (fun k => decide (k = 1) || leB (tB k) (tC k)) = true := by decide +kernel
      have t2 := allN_at t (show k < 7 by omega)
      rw [Bool.or_eq_true, decide_eq_true_eq] at t2
      exact (hbn.out.ap k hk).le (t2.resolve_left e)⟩
  obtain ⟨t, wy, hT, hC, hts, hws, hvt, ⟨vt1, hvt1, hvt2⟩, hwy⟩ := turn_near hnb ⟨hn2, hn7⟩ (by rw [if_neg (by omega)]; exact hv.out) (by rw [if_pos rfl])
  have hb0' : (b.set 1 (1065353216, 0)).getD 0 (0, 0) = (0, 0) := by
    rw [getD_set _ _ _ _ _ (by omega), if_neg (by omega)]; exact hb0.out
  have hb1' : (b.set 1 (1065353216, 0)).getD 1 (0, 0) = (1065353216, 0) := by
    rw [getD_set _ _ _ _ _ (by omega), if_pos rfl]
  have hbs := hnb.ser (by omega) (by omega)
  have hfo := hVb.frozen 1
  have hcb := hVb.cell (i := 1) (by omega)
  have hVb1 := CV.set hVb (i := 1) (by omega) 1065353216 0
  have hVa1 := CV.other hVa (b := gb) (o := 1) (fun e => hab e.symm) (.complex .f32 1065353216 0)
  have hb1 := below_set hb (a := ⟨gb, 1, none⟩) hgb (.complex .f32 1065353216 0)
  have hr1 := hr'.below (w' := wo.setCell ⟨gb, 1, none⟩ (.complex .f32 1065353216 0)) (below_set (Below.refl _ _) (a := ⟨gb, 1, none⟩) hgb (.complex .f32 1065353216 0))
  have hn3 : (1 : Int) < (n : Int) := by omega
  have hn4 : 1 < n := by omega
  have HT := turnSeries_ok (some ⟨gb, 0, none⟩) cb n _ t hn2 hbs hts hb0' hb1' hT _ (hVb1.rd hbs.len)
  have hLt := fun (W : World) (g c2 : Nat) (hW : Below (wo.setCell ⟨gb, 1, none⟩ (.complex .f32 1065353216 0)).heap.size (wo.setCell ⟨gb, 1, none⟩ (.complex .f32 1065353216 0)) W) (hV : CV W g t) => composeSeries_ok (some ⟨gb, 0, none⟩) (some ⟨g, 0, none⟩) cb c2 n _ t wy hbs hts hws hT.z hC W ((hVb1.below hW hVb1.lt).rd hbs.len) (hV.rd hts.len)
  replace hvt := Lib.hid hvt
  replace hwy := Lib.hid hwy
  replace hvt1 := Lib.hid (show Vl (t.getD 1 (0, 0)) vt1 900 ∧ 99 / 100 ≤ vt1.1 from ⟨hvt1, hvt2⟩)
  have htl := hts.len
  have hwl := hws.len
  clear hVa hVb hT hC hnb hbs hb0' hb1' hb hr' hvt2
  go_wp2_with fail
  (with_reducible refine HT.mono ?_)
  rintro e w1 ⟨gt, ct, rfl, hct, hVt, hgt, hb2⟩
  have HC := hLt w1 gt ct hb2 hVt
  have hVa2 := hVa1.below hb2 hVa1.lt
  have z1 := hb1.size
  have hb3 := hb1.trans (hb2.mono z1)
  have hr2 := hr1.below (hb2.mono z1)
  clear HT hLt hVb1 hVa1 hb1 hb2 hr1
  go_wp2_with fail
  (with_reducible refine HC.mono ?_)
  rintro e w2 ⟨gw, cw, rfl, hcw, hVw, hgw, hb4⟩
  have hVa3 := hVa2.below hb4 hVa2.lt
  have hVt3 := hVt.below hb4 hVt.lt
  have z3 := hb3.size
  have hb5 := hb3.trans (hb4.mono z3)
  have hr3 := hr2.below (hb4.mono z3)
  have hs0 : Hid (Scl 901 (0 - 1) 0) := scl_zero (by grind)
  clear HC hVa2 hVt hb3 hb4 hr2 z1 z3 hfo hcb
  go_wp2_with fail
  go_loopw [37, 38, 352] (fun s _ q wr => ∃ k x : Nat, k ≤ n ∧ q = .int .i64 (k : Int) ∧ s = .float .f64 x ∧ Hid (Scl 901 (k - 1) x) ∧ wr = w2) (fun _ _ q _ => n - (intOf q).toNat)
  case atStart => exact ⟨0, 0, Nat.zero_le _, rfl, rfl, hs0, rfl⟩
  case round =>
    obtain ⟨k, x, hk, rfl, rfl, hS, rfl⟩ := hrel
    clear hs0
    by_cases hlt : k < n
    · -- <L3
      have hv0 : ∃ v, Vl (t.getD k (0, 0)) v 900 ∧ (k = 1 → 99 / 100 ≤ v.1) := by
        by_cases e : k = 1
        · subst e
          exact ⟨vt1, hvt1.out.1, fun _ => hvt1.out.2⟩
        · obtain ⟨v, h⟩ := hvt.out k hlt
          exact ⟨v, h, fun h => absurd h e⟩
      obtain ⟨v', hv1, hv2⟩ := hv0
      obtain ⟨L, l, s', g1, g2, hS2, HM⟩ := wide_step hS.out hv1 hv2
      have HL := sLongW_calls g1
      have kl := cvW g2
      have HM2 := HM #[35, 35] 35
      have hc1 := hVt3.cell (i := k) (by omega)
      have hk0 : (0 : Int) ≤ (k : Int) := by omega
      have hk1 : (k : Int) < (n : Int) := by omega
      replace hS2 := Lib.hid hS2
      obtain ⟨w3, rfl⟩ : ∃ w3 : World, w3 = wr := ⟨_, rfl⟩
      clear hvt hwy hvt1 hv1 hv2 g1 g2 HM hS hVa3 hVw hr3 hVt3
      generalize t.getD k (0, 0) = X at *
      go_wp2_with fail
      refine (HL _).mono ?_
      rintro e w4 ⟨rfl, rfl⟩
      go_wp2
      exact ⟨⟨k + 1, s', by omega, by go_num, rfl, hS2, trivial⟩, by simp [intOf]; omega⟩
      -- L3>
    · obtain rfl : k = n := by omega
      obtain ⟨p, q, m, μ, g1, g2, g3, nμ, lμ⟩ := most_ok hS.out (by omega) (by grind)
      have j1 := ar64 _ _ _ _ g1
      have j2 := ar64 _ _ _ _ g2
      have j3 := ar64 _ _ _ _ g3
      have hμ := Lib.hid (show NV .f64 m μ ∧ 36 / 10000 ≤ μ from ⟨nμ, lμ⟩)
      obtain ⟨w3, rfl⟩ : ∃ w3 : World, w3 = wr := ⟨_, rfl⟩
      clear hvt hvt1 hS g1 g2 g3 nμ lμ hVt3
      go_wp2_with fail
      go_loopw [39, 40, 366] (fun _ _ q wr => ∃ i : Nat, i ≤ k ∧ q = .int .i64 (i : Int) ∧ wr = w3) (fun _ _ q _ => k - (intOf q).toNat)
      case atStart => exact ⟨0, Nat.zero_le _, rfl, rfl⟩
      case round =>
        obtain ⟨i, hi, rfl, rfl⟩ := hrel
        by_cases hlt2 : i < k
        · -- <L4
          obtain ⟨x', y', n1, n2, e1⟩ := hwy.out i hlt2
          have hc1 := hVw.cell (i := i) (by omega)
          have hk0 : (0 : Int) ≤ (i : Int) := by omega
          have hk1 : (i : Int) < (k : Int) := by omega
          obtain ⟨w4, rfl⟩ : ∃ w4 : World, w4 = wr := ⟨_, rfl⟩
          by_cases hi1 : i = 1
          · subst hi1
            rw [if_pos rfl] at e1
            obtain ⟨dd, L, l, γ, f1, f2, f3, nγ, lγ⟩ := near_test (y := (1065353216, 0)) n1 n2 nv_one32 nv_zero (by rw [show y' - (0 : Rat) = y' by grind]; exact e1) (by grind)
            have htest := gt_no nγ hμ.out.1 (by have := hμ.out.2; grind)
            have jm := minus_run f1
            have HL := sLongW_calls f2
            have kl := cvW f3
            clear hwy e1 n1 n2 f1 f2 f3 nγ lγ hVa3 hVw hr3
            generalize wy.getD 1 (0, 0) = X at *
            go_wp2_with fail
            refine (HL _).mono ?_
            rintro e w5 ⟨rfl, rfl⟩
            go_wp2
            exact ⟨⟨2, by omega, rfl, trivial⟩, by simp [intOf]; omega⟩
          · rw [if_neg hi1] at e1
            obtain ⟨dd, L, l, γ, f1, f2, f3, nγ, lγ⟩ := near_test (y := (0, 0)) n1 n2 nv_zero nv_zero (by rw [show y' - (0 : Rat) = y' by grind]; exact e1) (by grind)
            have htest := gt_no nγ hμ.out.1 (by have := hμ.out.2; grind)
            have jm := minus_run f1
            have HL := sLongW_calls f2
            have kl := cvW f3
            have hi2 : ¬ (i : Int) = 1 := by omega
            clear hwy e1 n1 n2 f1 f2 f3 nγ lγ hVa3 hVw hr3
            generalize wy.getD i (0, 0) = X at *
            go_wp2_with fail
            refine (HL _).mono ?_
            rintro e w5 ⟨rfl, rfl⟩
            go_wp2
            exact ⟨⟨i + 1, by omega, by go_num, trivial⟩, by simp [intOf]; omega⟩
          -- L4>
        · obtain rfl : i = k := by omega
          go_upto_region 58 with fail
          exact serT5 A' c' ga ca i ms hm u a ⟨by omega, hn7⟩ ha hu w _ hr3 hVa3 hb5 _ (by assumption)
end Go.Proofs.Ytlilhebnbhlkhaa
