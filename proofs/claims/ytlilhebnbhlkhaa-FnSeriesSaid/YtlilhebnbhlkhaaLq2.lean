/-
  The law FnSeries: the greatest length.
-/
import Derived.Test.YtlilhebnbhlkhaaLq3
namespace Go.Proofs.Ytlilhebnbhlkhaa
open Go.RowKit

set_option maxRecDepth 100000 in
set_option maxHeartbeats 6400000 in
theorem serT2 (A' : Option Addr) (c' ga ca gb cb gi ci ge ce gu cu gl cl gr cr' gs cs' gd cd gq cq gh ch n : Nat) (ms : List Int) (hm : Byt ms) (u v I R : Sq) (a b i un e s j q l r sq ri sl sa qa la t h : List (Nat × Nat)) (hn : 2 ≤ n ∧ n ≤ 7) (hF : Hid (SerF n a b i un e s j q l r sq ri sl sa qa la t h u v I R)) (hu : Hid (u 0 = (1, 0))) (hv : Hid (v 0 = (0, 0))) (hb0 : Hid (b.getD 0 (0, 0) = (0, 0))) (w wo : World) (hr' : Reads wo w.heap.size 1 A' ms.length (byts ms))
    (hCi : CVs wo [(gi, i), (ge, e), (gr, r)]) (hC : CVs wo [(gh, h), (gq, un), (gd, sl), (gs, sq), (gr, r), (gl, l), (gu, un), (gb, b), (ga, a)]) (hab : ga ≠ gb) (hgb : w.heap.size ≤ gb) (hb : Below w.heap.size w wo)
    {v0 v2 v3 v4 v9 v11 v13 v15 v17 v19 v20 v21 v23 v25 v27 v28 v29 v30 v31 v32 v33 v34 v35 v36 v37 v38 v39 v40 v41 v42 v43 v44 v45 v46 v47 v48 v49 v50 v51 v52 v53 v54 v55 v56 v57 v58 v59 v60 v61 v62 v63 v64 v65 v66 v67 v68 v69 v70 v71 v72 v73 v74 v75 v76 v77 v78 v79 v80 v81 v82 v83 v84 v85 v86 v87 v88 v89 v90 v91 v92 v93 v94 v95 v96 v97 v98 v99 v100 v101 v102 v103 v104 v105 v106 v107 v108 v109 v110 v111 v112 v113 v114 v115 v116 v117 v118 v119 v120 v121 v122 v123 v124 v125 v126 v127 v128 v129 v130 v131 v132 v133 v134 v135 v136 v137 v138 v139 v140 v141 v142 v143 v144 v145 v146 v147 v148 v149 v150 v151 v152 v153 v154 v155 v156 v157 v158 v159 v160 v161 v162 v163 v164 v165 v166 v167 v168 v169 v170 v171 v172 v173 v174 v175 v176 v177 v178 v179 v180 v181 v182 v183 v184 v185 v186 v187 v188 v189 v190 v191 v192 v193 v194 v195 v196 v197 v198 v199 v200 v201 v202 v203 v204 v205 v206 v207 v208 v209 v210 v211 v212 v213 v214 v215 v216 v217 v218 v219 v220 v221 v222 v223 v224 v225 v226 v227 v228 v229 v230 v231 v232 v233 v234 v235 v236 v237 v238 v239 v240 v241 v242 v243 v244 v245 v246 v247 v248 v249 v250 v251 v252 v253 v254 v255 v256 v257 v258 v259 v260 v261 v262 v263 v264 v265 v266 v267 v268 v269 v270 v271 v272 v273 v274 v275 v276 v277 v278 v279 v280 v281 v282 v283 v284 v285 v286 v287 v288 v289 v290 v291 v292 v293 v294 v295 v296 v297 v298 v299 v300 v301 v302 v303 v304 v305 v306 v307 v308 v309 v310 v311 v312 v313 v314 v315 v316 v317 v318 v319 v320 v321 v322 v323 v324 v325 v326 v327 v328 v329 v330 v331 v332 v333 v334 v335 v336 v337 v338 v339 v340 v341 v342 v343 v344 v345 v346 v347 v348 v349 v350 v351 v352 v353 v354 v355 v356 v357 v358 v359 v360 v361 v362 v363 v364 v365 v366 v367 v368 v369 v370 v371 v372 v373 v374 v375 v376 v377 v378 v379 v380 v381 v382 v383 v384 v385 v386 v387 v388 v389 v390 v391 v392 v393 v394 v395 v396 v397 v398 v399 v400 v401 v402 v403 v404 v405 v406 v407 v408 v409 v410 v411 v412 v413 v414 v415 v416 v417 v418 v419 v420 v421 v422 v423 v424 v425 v426 v427 v428 v429 v430 v431 v432 v433 : Value} :
    let Q' : Exit → Act → World → Prop := bodyPost Try.prog Try.f4 fun e w' => e = .returned (.bool true) ∧ Below w.heap.size w w'
    ∀ K : Act → World → Prop, (∀ a w, Code.wp Try.prog (tailAt Try.f4 19) Q' a w → K a w) → Code.wp Try.prog (headAt Try.f4 18) (Exit.then K Q') { tmps := #[v0, .slice A' ms.length c', v2, v3, v4, .int .i64 (n : Int), .slice (some ⟨ga, 0, none⟩) n ca, .slice (some ⟨gb, 0, none⟩) n cb, .slice (some ⟨gi, 0, none⟩) n ci, v9, .slice (some ⟨gu, 0, none⟩) n cu, v11, .slice (some ⟨ge, 0, none⟩) n ce, v13, .slice (some ⟨gl, 0, none⟩) n cl, v15, .slice (some ⟨gr, 0, none⟩) n cr', v17, .slice (some ⟨gs, 0, none⟩) n cs', v19, v20, v21, .slice (some ⟨gd, 0, none⟩) n cd, v23, .slice (some ⟨gq, 0, none⟩) n cq, v25, .slice (some ⟨gh, 0, none⟩) n ch, v27, v28, v29, v30, v31, v32, v33, v34, v35, v36, v37, v38, v39, v40, v41, v42, v43, v44, v45, v46, v47, v48, v49, v50, v51, v52, v53, v54, v55, v56, v57, v58, v59, v60, v61, v62, v63, v64, v65, v66, v67, v68, v69, v70, v71, v72, v73, v74, v75, v76, v77, v78, v79, v80, v81, v82, v83, v84, v85, v86, v87, v88, v89, v90, v91, v92, v93, v94, v95, v96, v97, v98, v99, v100, v101, v102, v103, v104, v105, v106, v107, v108, v109, v110, v111, v112, v113, v114, v115, v116, v117, v118, v119, v120, v121, v122, v123, v124, v125, v126, v127, v128, v129, v130, v131, v132, v133, v134, v135, v136, v137, v138, v139, v140, v141, v142, v143, v144, v145, v146, v147, v148, v149, v150, v151, v152, v153, v154, v155, v156, v157, v158, v159, v160, v161, v162, v163, v164, v165, v166, v167, v168, v169, v170, v171, v172, v173, v174, v175, v176, v177, v178, v179, v180, v181, v182, v183, v184, v185, v186, v187, v188, v189, v190, v191, v192, v193, v194, v195, v196, v197, v198, v199, v200, v201, v202, v203, v204, v205, v206, v207, v208, v209, v210, v211, v212, v213, v214, v215, v216, v217, v218, v219, v220, v221, v222, v223, v224, v225, v226, v227, v228, v229, v230, v231, v232, v233, v234, v235, v236, v237, v238, v239, v240, v241, v242, v243, v244, v245, v246, v247, v248, v249, v250, v251, v252, v253, v254, v255, v256, v257, v258, v259, v260, v261, v262, v263, v264, v265, v266, v267, v268, v269, v270, v271, v272, v273, v274, v275, v276, v277, v278, v279, v280, v281, v282, v283, v284, v285, v286, v287, v288, v289, v290, v291, v292, v293, v294, v295, v296, v297, v298, v299, v300, v301, v302, v303, v304, v305, v306, v307, v308, v309, v310, v311, v312, v313, v314, v315, v316, v317, v318, v319, v320, v321, v322, v323, v324, v325, v326, v327, v328, v329, v330, v331, v332, v333, v334, v335, v336, v337, v338, v339, v340, v341, v342, v343, v344, v345, v346, v347, v348, v349, v350, v351, v352, v353, v354, v355, v356, v357, v358, v359, v360, v361, v362, v363, v364, v365, v366, v367, v368, v369, v370, v371, v372, v373, v374, v375, v376, v377, v378, v379, v380, v381, v382, v383, v384, v385, v386, v387, v388, v389, v390, v391, v392, v393, v394, v395, v396, v397, v398, v399, v400, v401, v402, v403, v404, v405, v406, v407, v408, v409, v410, v411, v412, v413, v414, v415, v416, v417, v418, v419, v420, v421, v422, v423, v424, v425, v426, v427, v428, v429, v430, v431, v432, v433], defers := [] } wo := by
  intro Q' K hK
  dsimp only [headAt, tailAt, Try.f4, nthTail] at hK ⊢
  have z0 := hb.size
  obtain ⟨hn2, hn7⟩ := hn
  have uli := hF.out.f_i.2.len
  obtain ⟨E, hE⟩ := hF.out.f_e.2
  have ule := hE.len
  have ulr := hF.out.f_r.2.len
  have hi0 : Hid (Ap (1, 0) (r1 (1, 0)) (i.getD 0 (0, 0))) := by
    obtain ⟨r0, g0, q0⟩ := Ap.one ap_one nv_one32 (by decide +kernel)
    have h1 := hF.out.f_i.1.z
    rw [g0] at h1
    cases h1
    exact q0
  have hs0 : Hid (Scl 151 0 0) := scl_zero (by grind)
  replace hE := Lib.hid hE
  go_wp2_with fail
  go_loopw [28, 29, 202] (fun s _ q wr => ∃ k x : Nat, k ≤ n ∧ q = .int .i64 (k : Int) ∧ s = .float .f64 x ∧ Hid (Scl 151 k x) ∧ ∃ d, wr = wo.drewN d) (fun _ _ q _ => n - (intOf q).toNat)
  case atStart => exact ⟨0, 0, Nat.zero_le _, rfl, rfl, hs0, 0, rfl⟩
  case round =>
    obtain ⟨k, x, hk, rfl, rfl, hS, dq, hW⟩ := hrel
    clear hs0
    by_cases hlt : k < n
    · -- <L1
      have hE1 := end_at (show k < 7 by omega)
      have hst : ∃ L1 l1 L2 l2 L3 l3 s', longW (i.getD k (0, 0)) = some L1 ∧ floatToFloatBits .f32 L1 .f64 = some l1 ∧ longW (e.getD k (0, 0)) = some L2 ∧ floatToFloatBits .f32 L2 .f64 = some l2 ∧ longW (r.getD k (0, 0)) = some L3 ∧ floatToFloatBits .f32 L3 .f64 = some l3 ∧ Scl 151 (k + 1) s' ∧
          ∀ (ts : Array TypeId) (ty : TypeId) w, (Builtin.max_ ts ty #[.float .f64 x, .float .f64 l1, .float .f64 l2, .float .f64 l3]).run Try.prog w = .ok (.float .f64 s') w := by
        by_cases hk0 : k = 0
        · subst hk0
          exact scl_step hS.out hi0.out (hE.out.ap 0 hlt) (hF.out.f_r.2.ap 0 hlt) (by unfold r1; constructor <;> simp only <;> grind) ⟨hE1.e2, hE1.e1⟩ ⟨hE1.r2, hE1.r1⟩ (fun _ => ⟨rfl, by unfold r1; simp only; grind, by unfold r1; simp only; grind⟩)
        · exact scl_step hS.out (hF.out.f_i.2.ap k hlt) (hE.out.ap k hlt) (hF.out.f_r.2.ap k hlt) ⟨hE1.i2, hE1.i1⟩ ⟨hE1.e2, hE1.e1⟩ ⟨hE1.r2, hE1.r1⟩ (fun h => absurd h hk0)
      obtain ⟨L1, l1, L2, l2, L3, l3, s', f1, f2, f3, f4, f5, f6, hS2, HM⟩ := hst
      have HL1 := sLongW_calls f1
      have HL2 := sLongW_calls f3
      have HL3 := sLongW_calls f5
      have kl1 := cvW f2
      have kl2 := cvW f4
      have kl3 := cvW f6
      have HM2 := HM #[35, 35, 35, 35] 35
      replace hCi := hCi.drewN dq
      rw [← hW] at hCi
      have c1 := (hCi.at_ (g := gi) (x := i) (by simp)).cell (i := k) (by omega)
      have c2 := (hCi.at_ (g := ge) (x := e) (by simp)).cell (i := k) (by omega)
      have c3 := (hCi.at_ (g := gr) (x := r) (by simp)).cell (i := k) (by omega)
      have hk1 : (k : Int) < (n : Int) := by omega
      have hk0 : (0 : Int) ≤ (k : Int) := by omega
      replace hS2 := Lib.hid hS2
      replace hW := Lib.hid hW
      obtain ⟨w3, rfl⟩ : ∃ w3 : World, w3 = wr := ⟨_, rfl⟩
      clear hF hE hE1 hS f1 f2 f3 f4 f5 f6 HM hCi hC hi0 hb hr'
      generalize i.getD k (0, 0) = X1 at *
      generalize e.getD k (0, 0) = X2 at *
      generalize r.getD k (0, 0) = X3 at *
      go_wp2_with fail
      go_big_quiet ((go_at_call 13; first | with_reducible exact Calls.quiet_of_same (HL1 _) | with_reducible exact Calls.quiet_of_same (HL2 _) | with_reducible exact Calls.quiet_of_same (HL3 _)))
      go_wp2
      exact ⟨⟨k + 1, s', by omega, by go_num, rfl, hS2, dq + nq, by rw [hW.out, World.drewN_drewN]⟩, by simp [intOf]; omega⟩
      -- L1>
    · obtain rfl : k = n := by omega
      obtain ⟨p, q', m, μ, g1, g2, g3, nμ, lμ⟩ := most_ok hS.out (by omega) (by grind)
      have j1 := ar64 _ _ _ _ g1
      have j2 := ar64 _ _ _ _ g2
      have j3 := ar64 _ _ _ _ g3
      have hμ := Lib.hid (show NV .f64 m μ ∧ 36 / 10000 ≤ μ from ⟨nμ, lμ⟩)
      replace hC := hC.drewN dq
      have hb2 := below_drewN hb dq
      have hr2 := hr'.drewN dq
      rw [← hW] at hC hb2 hr2
      clear hW hb hr' hCi hS g1 g2 g3 nμ lμ
      go_upto_region 27 with fail
      exact serT3 A' c' ga ca gb cb gu cu gl cl gr cr' gs cs' gd cd gq cq gh ch m k ms hm u v I R μ a b i un e s j q l r sq ri sl sa qa la t h ⟨hn2, hn7⟩ hF hu hv hb0 hμ w _ hr2 hC hab hgb hb2 _ _ (by assumption) (by assumption)
end Go.Proofs.Ytlilhebnbhlkhaa
