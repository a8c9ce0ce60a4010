/-
  The law FnFamilies: what its walk leans on: trimmed weights, words of draws, the law's code from a statement on.
  The law FnFamilies from its last part on: values at points that are shared.
  The law FnFamilies from the points of a half circle on: their fit is passed.
  The law FnFamilies from the sum that is told on: what is told and found again.
  The law FnFamilies from the weights on: they are drawn one by one.
  The law FnFamilies from the rules on: each value follows of the two before it.
-/
import Derived.Test.YtlpibibpckkjhaaPf
import Derived.Deep.RegionHeld3
import Derived.StillTailTactics
import Derived.Deep.CutRange
namespace Go.Proofs.Ytlpibibpckkjhaa
open Go.RowKit
def leadB (kind i : Nat) : Bool := decide (erT kind i 6 * (2 / 16000000) * 8 ≤ ab (tT kind i i))
theorem lead_tab : (List.range 5).all (fun kind => (List.range 6).all (leadB kind)) = true := by decide +kernel
/-- Weights whose terms are trimmed are zero. -/
theorem trim_zero {W : Nat → Rat} {kind m : Nat} {lo : List (Nat × Nat)} (hk : kind ≤ 4) (hm : m ≤ 6) (hq : ∀ j, j < m → Lm (W j) (1 / 8) → W j = 0) (hP : ∀ i, i < m → PAt W kind 2 i m (lo.getD i (0, 0))) : ∀ d j, m - d ≤ j → trimN lo m ≤ j → j < m → W j = 0
  | 0, j, h, _, hj => by omega
  | d + 1, j, h, ht, hj => by
    have ih := fun i (hi : j < i) (him : i < m) => trim_zero hk hm hq hP d i (by omega) (by omega) him
    obtain ⟨a, b, h1, h2, h3⟩ := hP j hj
    have hz := trimN_zero lo m j ht hj
    obtain ⟨ha, -⟩ := zeroC_val h1 h2 hz
    have e1 : sT W kind j m = sT W kind j (j + 1) := sT_same m (by omega) (fun i a b => ih i (by omega) b)
    have e2 : sT W kind j (j + 1) = sT W kind j j + W j * tT kind j j := rfl
    rw [e1, e2, sT_low hk j (Nat.le_refl _) (by omega), ha] at h3
    have hl := List.all_eq_true.1 (List.all_eq_true.1 lead_tab kind (List.mem_range.2 (by omega))) j (List.mem_range.2 (by omega))
    unfold leadB at hl
    simp only [decide_eq_true_eq] at hl
    have hmono := erT_mono kind j m 6 hm
    have hlead := (tm_ok kind j hk (by omega)).lead
    have h4 : N1 (-W j * tT kind j j) (0 * tT kind j j) (ab (tT kind j j) / 8) := by
      have h5 := h3.fst.le (B := ab (tT kind j j) / 8) (by grind)
      unfold Lm at h5
      unfold N1; refine ⟨?_, ?_, ?_, ?_⟩ <;> grind
    have h6 := (N1.div h4 (g := 1 / 8) (by grind) (by grind)).fst
    refine hq j hj ?_
    unfold Lm at h6 ⊢
    constructor <;> grind
def qB (t : Nat) : Bool := !decide (ab (V32 (qw t)) ≤ 1 / 8) || decide (V32 (qw t) = 0)
theorem q_tab : (List.range 17).all qB = true := by decide +kernel
theorem q_small (t : Nat) (ht : t < 17) (h : Lm (V32 (qw t)) (1 / 8)) : V32 (qw t) = 0 := by
  have a := List.all_eq_true.1 q_tab t (List.mem_range.2 ht)
  unfold qB at a
  simp only [Bool.or_eq_true, Bool.not_eq_true', decide_eq_false_iff_not, decide_eq_true_eq] at a
  rcases a with a | a
  · exfalso
    apply a
    unfold Lm at h
    rcases ab_cases (V32 (qw t)) with ⟨e, -⟩ | ⟨e, -⟩ <;> rw [e] <;> grind
  · exact a
theorem wrap_sub (a b : Nat) (h : b ≤ a) (h2 : a ≤ 100) : IntKind.i64.wrap ((a : Int) - (b : Int)) = ((a - b : Nat) : Int) := by
  have e : (a : Int) - (b : Int) = ((a - b : Nat) : Int) := by omega
  rw [e]
  simp only [IntKind.wrap, IntKind.signed, IntKind.bits]
  simp
  omega
theorem eq_yes {k : FloatKind} {x : Nat} {a : Rat} (hx : NV k x a) : k.format.order x x = some .eq := (order_val k hx hx).2.1 rfl
def tsW (ts : List Nat) (l : Nat) : Rat := V32 (qw (ts.getD l 0))
theorem tsW_low {ts : List Nat} {q l : Nat} (h : l < ts.length) : tsW ts l = tsW (ts ++ [q]) l := by
  unfold tsW; simp [List.getD, List.getElem?_append_left h]
theorem tsW_at {ts : List Nat} (hts : ∀ t ∈ ts, t < 17) (l : Nat) (hl : l < ts.length) : NV .f32 (qw (ts.getD l 0)) (tsW ts l) ∧ Lm (tsW ts l) 2 := by
  have hm : ts.getD l 0 < 17 := by
    rw [List.getD, List.getElem?_eq_getElem hl]
    exact hts _ (List.getElem_mem _)
  obtain ⟨-, h2, h3⟩ := qw_ok _ hm
  exact ⟨nv_of_fin h2, h3⟩
theorem tsW_lm {ts : List Nat} (hts : ∀ t ∈ ts, t < 17) (l : Nat) (hl : l < ts.length) : Lm (tsW ts l) 2 := (tsW_at hts l hl).2
theorem tsW_last {ts : List Nat} {q j : Nat} (htl : ts.length = j) (hq : q < 17) : NV .f32 (qw q) (tsW (ts ++ [q]) j) := by
  obtain ⟨-, h2, -⟩ := qw_ok _ hq
  have e : tsW (ts ++ [q]) j = V32 (qw q) := by
    unfold tsW; subst htl; simp [List.getD]
  rw [e]
  exact nv_of_fin h2
theorem wS_congr {W W' : Nat → Rat} {kind i : Nat} : ∀ k, (∀ l, l < k → W l = W' l) → wS W kind i k = wS W' kind i k
  | 0, _ => rfl
  | k + 1, h => by
    rw [wS, wS, wS_congr k (fun l hl => h l (by omega)), h k (by omega)]
theorem szAt_congr {W W' : Nat → Rat} {kind i k s z : Nat} (h : ∀ l, l < k → W l = W' l) (hs : SzAt W kind i k s z) : SzAt W' kind i k s z := by
  obtain ⟨σ, ζ, h1, h2, h3, h4⟩ := hs
  rw [wS_congr k h] at h3
  exact ⟨σ, ζ, h1, h2, h3, h4⟩
/-- A sequence's code from a statement on. -/
def nthTail : Nat → Code → Code
  | n + 1, .seq _ c => nthTail n c
  | _, c => c
def tailAt (f : Func) (n : Nat) : Code := nthTail n (match f.body with | some c => c | none => .skip)
def headAt (f : Func) (n : Nat) : Code := match tailAt f n with | .seq c _ => c | c => c
end Go.Proofs.Ytlpibibpckkjhaa
namespace Go.Proofs.Ytlpibibpckkjhaa
open Go.RowKit
set_option maxRecDepth 100000 in
set_option maxHeartbeats 6400000 in
theorem famT5 (A A' : Option Addr) (c c' : Nat) (zs ms : List Int) (w wo : World) (kind n xx ry : Nat) (hk : kind ≤ 4) (hn : n ≤ 6) (hr' : Reads wo w.heap.size 1 A' ms.length (byts ms)) (hm : Byt ms) (hb : Below w.heap.size w wo) (q1 : FloatKind.f32.format.order ry ry = some .eq)
    (HA : ∀ w, Calls Try.prog 9 #[.int .i64 (kind : Int), .int .i64 (n : Int), .float .f32 xx] w fun e w' => e = .returned (.tuple #[.float .f32 ry, .bool true]) ∧ Below w.heap.size w w')
    {v2 v3 v4 v8 v9 v11 v12 v13 v14 v15 v16 v17 v18 v19 v20 v21 v22 v23 v24 v25 v26 v27 v28 v29 v30 v31 v32 v33 v34 v35 v36 v37 v38 v39 v40 v41 v42 v43 v44 v45 v46 v47 v48 v49 v50 v51 v52 v53 v54 v55 v56 v57 v58 v59 v60 v61 v62 v63 v64 v65 v66 v67 v68 v69 v70 v71 v72 v73 v74 v75 v76 v77 v78 v79 v80 v81 v82 v83 v84 v85 v86 v87 v88 v89 v90 v91 v92 v93 v94 v95 v96 v97 v98 v99 v100 v101 v102 v103 v104 v105 v106 v107 v108 v109 v110 v111 v112 v113 v114 v115 v116 v117 v118 v119 v120 v121 v122 v123 v124 v125 v126 v127 v128 v129 v130 v131 v132 v133 v134 v135 v136 v137 v138 v139 v140 v141 v142 v143 v144 v145 v146 v147 v148 v149 v150 v151 v152 v153 v154 v155 v156 v157 v158 v159 v160 v161 v162 v163 v164 v165 v166 v167 v168 v169 v170 v171 v172 v173 v174 v175 v176 v177 v178 v179 v180 v181 v182 v183 v184 v185 v186 v187 v188 v189 v190 v191 v192 v193 v194 v195 v196 v197 v198 v199 v200 v201 v202 v203 v204 v205 v206 v207 v208 v209 v210 v211 v212 v213 v214 v215 v216 v217 v218 v219 v220 v221 v222 v223 v224 v225 v226 v227 v228 v229 v230 v231 v232 v233 v234 v235 v236 v237 v238 v239 v240 v241 v242 v243 v244 v245 v246 v247 v248 v249 v250 v251 v252 v253 v254 v255 v256 v257 v258 v259 v260 v261 v262 v263 v264 v265 v266 v267 v268 v269 v270 v271 v272 v273 v274 v275 v276 v277 v278 v279 v280 v281 v282 v283 v284 v285 v286 v287 v288 v289 v290 v291 v292 v293 v294 v295 v296 v297 v298 v299 v300 v301 v302 v303 v304 v305 v306 v307 v308 v309 v310 v311 v312 v313 v314 v315 v316 v317 v318 v319 v320 v321 v322 v323 v324 v325 v326 v327 v328 v329 v330 v331 v332 v333 v334 v335 v336 v337 v338 v339 v340 v341 v342 v343 v344 v345 v346 v347 v348 v349 v350 v351 v352 v353 v354 v355 v356 v357 v358 v359 v360 v361 v362 v363 v364 v365 v366 v367 v368 v369 v370 v371 v372 v373 v374 v375 v376 v377 v378 v379 v380 v381 v382 v383 v384 v385 v386 v387 v388 v389 v390 v391 v392 v393 v394 v395 v396 v397 v398 v399 v400 v401 v402 v403 v404 v405 v406 v407 v408 v409 v410 v411 v412 v413 v414 v415 v416 v417 v418 v419 v420 v421 v422 v423 v424 v425 v426 v427 v428 v429 v430 v431 v432 v433 v434 v435 v436 v437 v438 v439 v440 v441 v442 v443 v444 v445 v446 : Value} :
    let Q' : Exit → Act → World → Prop := bodyPost Try.prog Try.f3 fun e w' => e = .returned (.bool true) ∧ Below w.heap.size w w'
    ∀ K : Act → World → Prop, (∀ a w, Code.wp Try.prog (tailAt Try.f3 27) Q' a w → K a w) → Code.wp Try.prog (headAt Try.f3 26) (Exit.then K Q') { tmps := #[.slice A zs.length c, .slice A' ms.length c', v2, v3, v4, .int .i64 (kind : Int), .int .i64 (n : Int), .float .f32 xx, v8, v9, .float .f32 ry, v11, v12, v13, v14, v15, v16, v17, v18, v19, v20, v21, v22, v23, v24, v25, v26, v27, v28, v29, v30, v31, v32, v33, v34, v35, v36, v37, v38, v39, v40, v41, v42, v43, v44, v45, v46, v47, v48, v49, v50, v51, v52, v53, v54, v55, v56, v57, v58, v59, v60, v61, v62, v63, v64, v65, v66, v67, v68, v69, v70, v71, v72, v73, v74, v75, v76, v77, v78, v79, v80, v81, v82, v83, v84, v85, v86, v87, v88, v89, v90, v91, v92, v93, v94, v95, v96, v97, v98, v99, v100, v101, v102, v103, v104, v105, v106, v107, v108, v109, v110, v111, v112, v113, v114, v115, v116, v117, v118, v119, v120, v121, v122, v123, v124, v125, v126, v127, v128, v129, v130, v131, v132, v133, v134, v135, v136, v137, v138, v139, v140, v141, v142, v143, v144, v145, v146, v147, v148, v149, v150, v151, v152, v153, v154, v155, v156, v157, v158, v159, v160, v161, v162, v163, v164, v165, v166, v167, v168, v169, v170, v171, v172, v173, v174, v175, v176, v177, v178, v179, v180, v181, v182, v183, v184, v185, v186, v187, v188, v189, v190, v191, v192, v193, v194, v195, v196, v197, v198, v199, v200, v201, v202, v203, v204, v205, v206, v207, v208, v209, v210, v211, v212, v213, v214, v215, v216, v217, v218, v219, v220, v221, v222, v223, v224, v225, v226, v227, v228, v229, v230, v231, v232, v233, v234, v235, v236, v237, v238, v239, v240, v241, v242, v243, v244, v245, v246, v247, v248, v249, v250, v251, v252, v253, v254, v255, v256, v257, v258, v259, v260, v261, v262, v263, v264, v265, v266, v267, v268, v269, v270, v271, v272, v273, v274, v275, v276, v277, v278, v279, v280, v281, v282, v283, v284, v285, v286, v287, v288, v289, v290, v291, v292, v293, v294, v295, v296, v297, v298, v299, v300, v301, v302, v303, v304, v305, v306, v307, v308, v309, v310, v311, v312, v313, v314, v315, v316, v317, v318, v319, v320, v321, v322, v323, v324, v325, v326, v327, v328, v329, v330, v331, v332, v333, v334, v335, v336, v337, v338, v339, v340, v341, v342, v343, v344, v345, v346, v347, v348, v349, v350, v351, v352, v353, v354, v355, v356, v357, v358, v359, v360, v361, v362, v363, v364, v365, v366, v367, v368, v369, v370, v371, v372, v373, v374, v375, v376, v377, v378, v379, v380, v381, v382, v383, v384, v385, v386, v387, v388, v389, v390, v391, v392, v393, v394, v395, v396, v397, v398, v399, v400, v401, v402, v403, v404, v405, v406, v407, v408, v409, v410, v411, v412, v413, v414, v415, v416, v417, v418, v419, v420, v421, v422, v423, v424, v425, v426, v427, v428, v429, v430, v431, v432, v433, v434, v435, v436, v437, v438, v439, v440, v441, v442, v443, v444, v445, v446], defers := [] } wo := by
  intro Q' K hK
  dsimp only [headAt, tailAt, Try.f3, nthTail] at hK ⊢
  have hb1 : Below wo.heap.size wo (wo.alloc (.cells #[.float .f32 xx, .float .f32 xx] 25)) := (Below.refl _ _).alloc (Nat.le_refl _) _
  have z0 := hb.size
  have hR : Reads (wo.alloc (.cells #[.float .f32 xx, .float .f32 xx] 25)) (wo.heap.size + 1) 1 (some ⟨wo.heap.size, 0, none⟩) 2 (flts [xx, xx]) := reads_new wo (flts [xx, xx]) 25
  have hra := hr'.below (hb1.mono z0)
  go_wp2_with fail
  refine (r8At_any A' c' w.heap.size ms 44 8 (by omega) (by omega) hm _ hra).mono ?_
  rintro e w1 ⟨m0, rfl, hm0, rfl⟩
  obtain ⟨m, hmm, hm1, hm8⟩ : ∃ m : Nat, 1 + (m0 : Int) = (m : Int) ∧ 1 ≤ m ∧ m ≤ 8 := ⟨m0 + 1, by omega, by omega, by omega⟩
  have HV := valuesShared_w kind n xx ry m (some ⟨wo.heap.size, 0, none⟩) 2 hk (by omega) ⟨hm1, hm8⟩ HA _ (hR.more (by simp))
  clear HA hR
  go_wp2_with fail
  clear hmm
  (with_reducible refine HV.mono ?_)
  rintro e w2 ⟨gs, cs, rfl, hOs, hgs, hb2⟩
  have hb3 := (hb.trans (hb1.mono z0)).trans (hb2.mono (by simp; omega))
  have hRs : Reads w2 (gs + 1) 1 (some ⟨gs, 0, none⟩) 2 (flts [ry, ry]) := hOs.reads' (by omega) rfl
  obtain ⟨ad1, e1, -, hc1⟩ := flt_atN (l := [ry, ry]) (n := 2) hRs rfl (show 0 < 2 by omega)
  obtain ⟨ad2, e2, -, hc2⟩ := flt_atN (l := [ry, ry]) (n := 2) hRs rfl (show 1 < 2 by omega)
  cases e1
  cases e2
  simp only [add0, List.getD_cons_zero, List.getD_cons_succ] at hc1 hc2
  clear HV hb1 hb2 hra
  go_wp2
  go_ret
  exact ⟨rfl, hb3⟩
end Go.Proofs.Ytlpibibpckkjhaa
namespace Go.Proofs.Ytlpibibpckkjhaa
open Go.RowKit
theorem pick_all {m : Nat} {p : Nat → Rat → Prop} (h : ∀ j, j < m → ∃ F, p j F) : ∃ F : Nat → Rat, ∀ j, j < m → p j (F j) := by
  have h2 : ∀ j, ∃ F, j < m → p j F := fun j => by
    by_cases e : j < m
    · obtain ⟨F, hF⟩ := h j e
      exact ⟨F, fun _ => hF⟩
    · exact ⟨0, fun h => absurd h e⟩
  exact ⟨fun j => (h2 j).choose, fun j => (h2 j).choose_spec⟩
set_option maxRecDepth 100000 in
set_option maxHeartbeats 6400000 in
theorem famT4 (A A' : Option Addr) (c c' : Nat) (zs ms : List Int) (w wo : World) (kind n xx ry : Nat) (hk : kind ≤ 4) (hn : n ≤ 6) (hr' : Reads wo w.heap.size 1 A' ms.length (byts ms)) (hm : Byt ms) (hb : Below w.heap.size w wo) (q1 : FloatKind.f32.format.order ry ry = some .eq)
    (HA : ∀ w, Calls Try.prog 9 #[.int .i64 (kind : Int), .int .i64 (n : Int), .float .f32 xx] w fun e w' => e = .returned (.tuple #[.float .f32 ry, .bool true]) ∧ Below w.heap.size w w')
    (m ga ca : Nat) (hm1 : 1 ≤ m) (hm6 : m ≤ 6) (vs : List Nat) (hvl : vs.length = m) (V : Nat → Rat) (hV : ∀ l, l < m → NV .f32 (vs.getD l 0) (V l) ∧ Lm (V l) 2) (hRa : Reads wo wo.heap.size 1 (some ⟨ga, 0, none⟩) m (flts vs))
    {v2 v3 v4 v8 v9 v11 v12 v13 v14 v15 v16 v17 v18 v19 v20 v21 v24 v25 v26 v27 v28 v29 v30 v31 v32 v33 v34 v35 v36 v37 v38 v39 v40 v41 v42 v43 v44 v45 v46 v47 v48 v49 v50 v51 v52 v53 v54 v55 v56 v57 v58 v59 v60 v61 v62 v63 v64 v65 v66 v67 v68 v69 v70 v71 v72 v73 v74 v75 v76 v77 v78 v79 v80 v81 v82 v83 v84 v85 v86 v87 v88 v89 v90 v91 v92 v93 v94 v95 v96 v97 v98 v99 v100 v101 v102 v103 v104 v105 v106 v107 v108 v109 v110 v111 v112 v113 v114 v115 v116 v117 v118 v119 v120 v121 v122 v123 v124 v125 v126 v127 v128 v129 v130 v131 v132 v133 v134 v135 v136 v137 v138 v139 v140 v141 v142 v143 v144 v145 v146 v147 v148 v149 v150 v151 v152 v153 v154 v155 v156 v157 v158 v159 v160 v161 v162 v163 v164 v165 v166 v167 v168 v169 v170 v171 v172 v173 v174 v175 v176 v177 v178 v179 v180 v181 v182 v183 v184 v185 v186 v187 v188 v189 v190 v191 v192 v193 v194 v195 v196 v197 v198 v199 v200 v201 v202 v203 v204 v205 v206 v207 v208 v209 v210 v211 v212 v213 v214 v215 v216 v217 v218 v219 v220 v221 v222 v223 v224 v225 v226 v227 v228 v229 v230 v231 v232 v233 v234 v235 v236 v237 v238 v239 v240 v241 v242 v243 v244 v245 v246 v247 v248 v249 v250 v251 v252 v253 v254 v255 v256 v257 v258 v259 v260 v261 v262 v263 v264 v265 v266 v267 v268 v269 v270 v271 v272 v273 v274 v275 v276 v277 v278 v279 v280 v281 v282 v283 v284 v285 v286 v287 v288 v289 v290 v291 v292 v293 v294 v295 v296 v297 v298 v299 v300 v301 v302 v303 v304 v305 v306 v307 v308 v309 v310 v311 v312 v313 v314 v315 v316 v317 v318 v319 v320 v321 v322 v323 v324 v325 v326 v327 v328 v329 v330 v331 v332 v333 v334 v335 v336 v337 v338 v339 v340 v341 v342 v343 v344 v345 v346 v347 v348 v349 v350 v351 v352 v353 v354 v355 v356 v357 v358 v359 v360 v361 v362 v363 v364 v365 v366 v367 v368 v369 v370 v371 v372 v373 v374 v375 v376 v377 v378 v379 v380 v381 v382 v383 v384 v385 v386 v387 v388 v389 v390 v391 v392 v393 v394 v395 v396 v397 v398 v399 v400 v401 v402 v403 v404 v405 v406 v407 v408 v409 v410 v411 v412 v413 v414 v415 v416 v417 v418 v419 v420 v421 v422 v423 v424 v425 v426 v427 v428 v429 v430 v431 v432 v433 v434 v435 v436 v437 v438 v439 v440 v441 v442 v443 v444 v445 v446 : Value} :
    let Q' : Exit → Act → World → Prop := bodyPost Try.prog Try.f3 fun e w' => e = .returned (.bool true) ∧ Below w.heap.size w w'
    ∀ K : Act → World → Prop, (∀ a w, Code.wp Try.prog (tailAt Try.f3 23) Q' a w → K a w) → Code.wp Try.prog (headAt Try.f3 22) (Exit.then K Q') { tmps := #[.slice A zs.length c, .slice A' ms.length c', v2, v3, v4, .int .i64 (kind : Int), .int .i64 (n : Int), .float .f32 xx, v8, v9, .float .f32 ry, v11, v12, v13, v14, v15, v16, v17, v18, v19, v20, v21, .int .i64 (m : Int), .slice (some ⟨ga, 0, none⟩) m ca, v24, v25, v26, v27, v28, v29, v30, v31, v32, v33, v34, v35, v36, v37, v38, v39, v40, v41, v42, v43, v44, v45, v46, v47, v48, v49, v50, v51, v52, v53, v54, v55, v56, v57, v58, v59, v60, v61, v62, v63, v64, v65, v66, v67, v68, v69, v70, v71, v72, v73, v74, v75, v76, v77, v78, v79, v80, v81, v82, v83, v84, v85, v86, v87, v88, v89, v90, v91, v92, v93, v94, v95, v96, v97, v98, v99, v100, v101, v102, v103, v104, v105, v106, v107, v108, v109, v110, v111, v112, v113, v114, v115, v116, v117, v118, v119, v120, v121, v122, v123, v124, v125, v126, v127, v128, v129, v130, v131, v132, v133, v134, v135, v136, v137, v138, v139, v140, v141, v142, v143, v144, v145, v146, v147, v148, v149, v150, v151, v152, v153, v154, v155, v156, v157, v158, v159, v160, v161, v162, v163, v164, v165, v166, v167, v168, v169, v170, v171, v172, v173, v174, v175, v176, v177, v178, v179, v180, v181, v182, v183, v184, v185, v186, v187, v188, v189, v190, v191, v192, v193, v194, v195, v196, v197, v198, v199, v200, v201, v202, v203, v204, v205, v206, v207, v208, v209, v210, v211, v212, v213, v214, v215, v216, v217, v218, v219, v220, v221, v222, v223, v224, v225, v226, v227, v228, v229, v230, v231, v232, v233, v234, v235, v236, v237, v238, v239, v240, v241, v242, v243, v244, v245, v246, v247, v248, v249, v250, v251, v252, v253, v254, v255, v256, v257, v258, v259, v260, v261, v262, v263, v264, v265, v266, v267, v268, v269, v270, v271, v272, v273, v274, v275, v276, v277, v278, v279, v280, v281, v282, v283, v284, v285, v286, v287, v288, v289, v290, v291, v292, v293, v294, v295, v296, v297, v298, v299, v300, v301, v302, v303, v304, v305, v306, v307, v308, v309, v310, v311, v312, v313, v314, v315, v316, v317, v318, v319, v320, v321, v322, v323, v324, v325, v326, v327, v328, v329, v330, v331, v332, v333, v334, v335, v336, v337, v338, v339, v340, v341, v342, v343, v344, v345, v346, v347, v348, v349, v350, v351, v352, v353, v354, v355, v356, v357, v358, v359, v360, v361, v362, v363, v364, v365, v366, v367, v368, v369, v370, v371, v372, v373, v374, v375, v376, v377, v378, v379, v380, v381, v382, v383, v384, v385, v386, v387, v388, v389, v390, v391, v392, v393, v394, v395, v396, v397, v398, v399, v400, v401, v402, v403, v404, v405, v406, v407, v408, v409, v410, v411, v412, v413, v414, v415, v416, v417, v418, v419, v420, v421, v422, v423, v424, v425, v426, v427, v428, v429, v430, v431, v432, v433, v434, v435, v436, v437, v438, v439, v440, v441, v442, v443, v444, v445, v446], defers := [] } wo := by
  intro Q' K hK
  dsimp only [headAt, tailAt, Try.f3, nthTail] at hK ⊢
  have z0 := hb.size
  go_wp2_with fail
  refine (RoundPoints_w m hm1 hm6 _).mono ?_
  rintro e w1 ⟨gp, cp, rfl, hOp, hgp1, hgp2, hb1⟩
  have z1 := hb1.size
  have HF := RoundFit_v m hm1 hm6 (some ⟨ga, 0, none⟩) ca vs hvl V hV w1 ((hRa.below hb1).more z1)
  go_wp2_with fail
  (with_reducible refine HF.mono ?_)
  rintro e w2 ⟨fl, gf, cf, rfl, hfl, hF, hOf, hgf1, hgf2, hb2⟩
  have z2 := hb2.size
  have hb3 := hb1.trans (hb2.mono z1)
  have hRp : Reads w2 w2.heap.size 1 (some ⟨gp, 0, none⟩) m (flts (ptL m m)) := ((hOp.below hb2 (by omega)).reads' (B := gp + 1) (by omega) (by simp)).more (by omega)
  have hRf : Reads w2 w2.heap.size 1 (some ⟨gf, 0, none⟩) m (flts fl) := (hOf.reads' (B := gf + 1) (by omega) (by simp [hfl])).more (by omega)
  have hRw : Reads w2 w2.heap.size 1 (some ⟨ga, 0, none⟩) m (flts vs) := (hRa.below hb3).more (by omega)
  have hbw := hb.trans (hb3.mono z0)
  have hrm := hr'.below (hb3.mono z0)
  obtain ⟨F, hF2⟩ := pick_all hF
  replace hF2 := Lib.hid hF2
  replace hV := Lib.hid hV
  clear HF hF hOp hOf hRa hb hb1 hb2 hb3 hr' hgp1 hgf1
  have zw := hbw.size
  go_wp2
  go_loopw [42, 43, 44] (fun i _ _ wr => ∃ k : Nat, k ≤ m ∧ i = .int .i64 (k : Int) ∧ Below w2.heap.size w2 wr) (fun i _ _ _ => m - (intOf i).toNat)
  case atStart => exact ⟨0, Nat.zero_le _, rfl, Below.refl _ _⟩
  case round =>
    obtain ⟨k, hkm, rfl, hbr⟩ := hrel
    obtain ⟨wq, rfl⟩ : ∃ wq : World, wq = wr := ⟨_, rfl⟩
    have zr := hbr.size
    by_cases hlt : k < m
    · obtain ⟨-, np, lp, -⟩ := rn_ok m k hm1 hm6 hlt
      have HS := familySum_v 0 m (ptN m k) (some ⟨gf, 0, none⟩) cf fl hfl hm1 hm6 (by omega) F (PV m k) 13 (fun j hj => ⟨(hF2.out j hj).1, (hF2.out j hj).2.2⟩) (by constructor <;> grind) np lp wq ((hRf.below hbr).more zr)
      simp only [Int.natCast_zero] at HS
      obtain ⟨ad1, e1, hB1, hc1⟩ := flt_atN (hRp.below hbr) (by simp) hlt
      obtain ⟨ad2, e2, -, hc2⟩ := flt_atN (k := k - 1) (hRp.below hbr) (by simp) (by omega)
      obtain ⟨ad3, e3, hB3, hc3⟩ := flt_atN (hRw.below hbr) hvl hlt
      cases e1
      cases e2
      cases e3
      rw [ptL_at hlt, add0] at hc1
      rw [ptL_at (by omega), add0] at hc2
      rw [add0] at hc3
      have hwc : 1 ≤ k → IntKind.i64.wrap ((k : Int) - 1) = ((k - 1 : Nat) : Int) := fun h => wrap_sub k 1 h (by omega)
      have hk0 : (0 : Int) ≤ (k : Int) := by omega
      have hk1 : (k : Int) < (m : Int) := by omega
      obtain ⟨t1, t2, t3⟩ := points_order m k hm1 hm6 hlt
      have hpt := Lib.hid (fun u U hu hU => point_test (u := u) (w := vs.getD k 0) (F := F) (V := V) (U := U) hm1 hm6 hlt (fun l hl => (hV.out l hl).2) (fun j hj => (hF2.out j hj).2.1) (hV.out k hlt).1 hu hU)
      clear hRp hRf hRw hrm np lp
      generalize ptN m k = pk at *
      generalize ptN m (k - 1) = pm at *
      generalize vs.getD k 0 = vk at *
      replace hB1 : gp < w2.heap.size := hB1
      replace hB3 : ga < w2.heap.size := hB3
      go_wp2_with fail
      (with_reducible refine HS.mono ?_)
      rintro e w3 ⟨u, U, rfl, hu, hU, hb5⟩
      clear HS
      obtain ⟨u64, w64, g, f1, f2, HG, t4⟩ := hpt.out u U hu hU
      have j1 := cvW f1
      have j2 := cvW f2
      replace hc1 := (hb5.cell (p := ⟨gp, k, none⟩) (show gp < wq.heap.size by omega)).trans hc1
      replace hc2 := (hb5.cell (p := ⟨gp, k - 1, none⟩) (show gp < wq.heap.size by omega)).trans hc2
      replace hc3 := (hb5.cell (p := ⟨ga, k, none⟩) (show ga < wq.heap.size by omega)).trans hc3
      have hb6 := hbr.trans (hb5.mono zr)
      clear hbr hb5 hB1 hB3 hu hU f1 f2 hpt hF2 hV
      rcases Nat.eq_zero_or_pos k with h0 | h0
      · subst h0
        clear hc2 t3 hwc
        go_wp2_with fail
        go_big_quiet ((go_at_call 12; with_reducible exact Calls.quiet_of_same (HG _)))
        go_wp2
        go_roundw
        case rel => exact ⟨0 + 1, by omega, by go_num, below_drewN hb6 _⟩
        case measure => (simp [intOf]; all_goals omega)
      · replace t3 := t3 h0
        replace hwc := hwc h0
        go_wp2_with fail
        go_big_quiet ((go_at_call 12; with_reducible exact Calls.quiet_of_same (HG _)))
        go_wp2
        go_roundw
        case rel => exact ⟨k + 1, by omega, by go_num, below_drewN hb6 _⟩
        case measure => (simp [intOf]; all_goals omega)
    · go_upto_region 55 with fail
      have hb7 := hbw.trans (hbr.mono zw)
      exact famT5 A A' c c' zs ms w wq kind n xx ry hk hn (hrm.below (hbr.mono zw)) hm hb7 q1 HA _ (by assumption)
end Go.Proofs.Ytlpibibpckkjhaa
namespace Go.Proofs.Ytlpibibpckkjhaa
open Go.RowKit
set_option maxRecDepth 100000 in
set_option maxHeartbeats 6400000 in
theorem famT3 (A A' : Option Addr) (c c' : Nat) (zs ms : List Int) (w wo : World) (kind n xx ry : Nat) (hk : kind ≤ 4) (hn : n ≤ 6) (hr' : Reads wo w.heap.size 1 A' ms.length (byts ms)) (hm : Byt ms) (hb : Below w.heap.size w wo) (q1 : FloatKind.f32.format.order ry ry = some .eq)
    (HA : ∀ w, Calls Try.prog 9 #[.int .i64 (kind : Int), .int .i64 (n : Int), .float .f32 xx] w fun e w' => e = .returned (.tuple #[.float .f32 ry, .bool true]) ∧ Below w.heap.size w w')
    (m ga ca gb cb : Nat) (hm1 : 1 ≤ m) (hm6 : m ≤ 6) (vs : List Nat) (hvl : vs.length = m) (V : Nat → Rat) (hV : ∀ l, l < m → NV .f32 (vs.getD l 0) (V l) ∧ Lm (V l) 2) (hVq : ∀ l, l < m → Lm (V l) (1 / 8) → V l = 0) (hRa : Reads wo wo.heap.size 1 (some ⟨ga, 0, none⟩) m (flts vs)) (hRb : Reads wo wo.heap.size 1 (some ⟨gb, 0, none⟩) m (cplx (reC vs)))
    (i sb zb : Nat) (hi : i < 17) (hx : NV .f32 xx (xV i)) (hX : Lm (xV i) 1) (hS : SzAt V kind i m sb zb)
    {v2 v3 v4 v8 v9 v11 v12 v13 v14 v15 v16 v17 v18 v19 v20 v21 v27 v28 v29 v30 v31 v32 v33 v34 v35 v36 v37 v38 v39 v40 v41 v42 v43 v44 v45 v46 v47 v48 v49 v50 v51 v52 v53 v54 v55 v56 v57 v58 v59 v60 v61 v62 v63 v64 v65 v66 v67 v68 v69 v70 v71 v72 v73 v74 v75 v76 v77 v78 v79 v80 v81 v82 v83 v84 v85 v86 v87 v88 v89 v90 v91 v92 v93 v94 v95 v96 v97 v98 v99 v100 v101 v102 v103 v104 v105 v106 v107 v108 v109 v110 v111 v112 v113 v114 v115 v116 v117 v118 v119 v120 v121 v122 v123 v124 v125 v126 v127 v128 v129 v130 v131 v132 v133 v134 v135 v136 v137 v138 v139 v140 v141 v142 v143 v144 v145 v146 v147 v148 v149 v150 v151 v152 v153 v154 v155 v156 v157 v158 v159 v160 v161 v162 v163 v164 v165 v166 v167 v168 v169 v170 v171 v172 v173 v174 v175 v176 v177 v178 v179 v180 v181 v182 v183 v184 v185 v186 v187 v188 v189 v190 v191 v192 v193 v194 v195 v196 v197 v198 v199 v200 v201 v202 v203 v204 v205 v206 v207 v208 v209 v210 v211 v212 v213 v214 v215 v216 v217 v218 v219 v220 v221 v222 v223 v224 v225 v226 v227 v228 v229 v230 v231 v232 v233 v234 v235 v236 v237 v238 v239 v240 v241 v242 v243 v244 v245 v246 v247 v248 v249 v250 v251 v252 v253 v254 v255 v256 v257 v258 v259 v260 v261 v262 v263 v264 v265 v266 v267 v268 v269 v270 v271 v272 v273 v274 v275 v276 v277 v278 v279 v280 v281 v282 v283 v284 v285 v286 v287 v288 v289 v290 v291 v292 v293 v294 v295 v296 v297 v298 v299 v300 v301 v302 v303 v304 v305 v306 v307 v308 v309 v310 v311 v312 v313 v314 v315 v316 v317 v318 v319 v320 v321 v322 v323 v324 v325 v326 v327 v328 v329 v330 v331 v332 v333 v334 v335 v336 v337 v338 v339 v340 v341 v342 v343 v344 v345 v346 v347 v348 v349 v350 v351 v352 v353 v354 v355 v356 v357 v358 v359 v360 v361 v362 v363 v364 v365 v366 v367 v368 v369 v370 v371 v372 v373 v374 v375 v376 v377 v378 v379 v380 v381 v382 v383 v384 v385 v386 v387 v388 v389 v390 v391 v392 v393 v394 v395 v396 v397 v398 v399 v400 v401 v402 v403 v404 v405 v406 v407 v408 v409 v410 v411 v412 v413 v414 v415 v416 v417 v418 v419 v420 v421 v422 v423 v424 v425 v426 v427 v428 v429 v430 v431 v432 v433 v434 v435 v436 v437 v438 v439 v440 v441 v442 v443 v444 v445 v446 : Value} :
    let Q' : Exit → Act → World → Prop := bodyPost Try.prog Try.f3 fun e w' => e = .returned (.bool true) ∧ Below w.heap.size w w'
    ∀ K : Act → World → Prop, (∀ a w, Code.wp Try.prog (tailAt Try.f3 18) Q' a w → K a w) → Code.wp Try.prog (headAt Try.f3 17) (Exit.then K Q') { tmps := #[.slice A zs.length c, .slice A' ms.length c', v2, v3, v4, .int .i64 (kind : Int), .int .i64 (n : Int), .float .f32 xx, v8, v9, .float .f32 ry, v11, v12, v13, v14, v15, v16, v17, v18, v19, v20, v21, .int .i64 (m : Int), .slice (some ⟨ga, 0, none⟩) m ca, .slice (some ⟨gb, 0, none⟩) m cb, .float .f64 sb, .float .f64 zb, v27, v28, v29, v30, v31, v32, v33, v34, v35, v36, v37, v38, v39, v40, v41, v42, v43, v44, v45, v46, v47, v48, v49, v50, v51, v52, v53, v54, v55, v56, v57, v58, v59, v60, v61, v62, v63, v64, v65, v66, v67, v68, v69, v70, v71, v72, v73, v74, v75, v76, v77, v78, v79, v80, v81, v82, v83, v84, v85, v86, v87, v88, v89, v90, v91, v92, v93, v94, v95, v96, v97, v98, v99, v100, v101, v102, v103, v104, v105, v106, v107, v108, v109, v110, v111, v112, v113, v114, v115, v116, v117, v118, v119, v120, v121, v122, v123, v124, v125, v126, v127, v128, v129, v130, v131, v132, v133, v134, v135, v136, v137, v138, v139, v140, v141, v142, v143, v144, v145, v146, v147, v148, v149, v150, v151, v152, v153, v154, v155, v156, v157, v158, v159, v160, v161, v162, v163, v164, v165, v166, v167, v168, v169, v170, v171, v172, v173, v174, v175, v176, v177, v178, v179, v180, v181, v182, v183, v184, v185, v186, v187, v188, v189, v190, v191, v192, v193, v194, v195, v196, v197, v198, v199, v200, v201, v202, v203, v204, v205, v206, v207, v208, v209, v210, v211, v212, v213, v214, v215, v216, v217, v218, v219, v220, v221, v222, v223, v224, v225, v226, v227, v228, v229, v230, v231, v232, v233, v234, v235, v236, v237, v238, v239, v240, v241, v242, v243, v244, v245, v246, v247, v248, v249, v250, v251, v252, v253, v254, v255, v256, v257, v258, v259, v260, v261, v262, v263, v264, v265, v266, v267, v268, v269, v270, v271, v272, v273, v274, v275, v276, v277, v278, v279, v280, v281, v282, v283, v284, v285, v286, v287, v288, v289, v290, v291, v292, v293, v294, v295, v296, v297, v298, v299, v300, v301, v302, v303, v304, v305, v306, v307, v308, v309, v310, v311, v312, v313, v314, v315, v316, v317, v318, v319, v320, v321, v322, v323, v324, v325, v326, v327, v328, v329, v330, v331, v332, v333, v334, v335, v336, v337, v338, v339, v340, v341, v342, v343, v344, v345, v346, v347, v348, v349, v350, v351, v352, v353, v354, v355, v356, v357, v358, v359, v360, v361, v362, v363, v364, v365, v366, v367, v368, v369, v370, v371, v372, v373, v374, v375, v376, v377, v378, v379, v380, v381, v382, v383, v384, v385, v386, v387, v388, v389, v390, v391, v392, v393, v394, v395, v396, v397, v398, v399, v400, v401, v402, v403, v404, v405, v406, v407, v408, v409, v410, v411, v412, v413, v414, v415, v416, v417, v418, v419, v420, v421, v422, v423, v424, v425, v426, v427, v428, v429, v430, v431, v432, v433, v434, v435, v436, v437, v438, v439, v440, v441, v442, v443, v444, v445, v446], defers := [] } wo := by
  intro Q' K hK
  dsimp only [headAt, tailAt, Try.f3, nthTail] at hK ⊢
  have z0 := hb.size
  have HS := familySum_v kind m xx (some ⟨ga, 0, none⟩) ca vs hvl hm1 hm6 hk V (xV i) 2 hV (by constructor <;> grind) hx hX wo hRa
  have hVl : ∀ l, l < m → Lm (V l) 2 := fun l hl => (hV l hl).2
  go_wp2_with fail
  (with_reducible refine HS.mono ?_)
  rintro e w1 ⟨u, U, rfl, hu, hU, hb1⟩
  clear HS
  have z1 := hb1.size
  obtain ⟨t64, g, b, f1, HG, f2, t1⟩ := told_test hk hi hm6 hVl hu hU hS
  have j1 := cvW f1
  have j2 := ar64 _ _ _ _ f2
  have HP := polyOfFamily_v kind m (some ⟨gb, 0, none⟩) cb (reC vs) (by simp [hvl]) hm1 hm6 hk V 2 (by constructor <;> grind) (fun k hk2 => by
    rw [reC_at (by omega)]
    exact ⟨(hV k hk2).1, nv_zero, (hV k hk2).2⟩) w1 ((hRb.below hb1).more z1)
  go_wp2_with fail
  (with_reducible refine HP.mono ?_)
  rintro e w2 ⟨lo, gl, cl, rfl, hlo, hPA, hval, hOl, hb2⟩
  clear HP
  have z2 := hb2.size
  have hle := trimN_le lo m
  have hpos := trimN_pos lo m hm1
  have hz := fun j h1 h2 => trim_zero hk hm6 hVq hPA m j (by omega) h1 h2
  have hL : ∀ i', i' < trimN lo m → LAt V kind 2 i' (trimN lo m) ((lo.take (trimN lo m)).getD i' (0, 0)) := fun i' hi' => by
    have e : (lo.take (trimN lo m)).getD i' (0, 0) = lo.getD i' (0, 0) := by simp [List.getD, hi']
    rw [e]
    exact lAt_start hk hm6 hle (by grind) hz (hPA i' (by omega))
  have hlt : (lo.take (trimN lo m)).length = trimN lo m := by rw [List.length_take]; omega
  obtain ⟨l, hle2⟩ : ∃ l, l = lo.take (trimN lo m) := ⟨_, rfl⟩
  obtain ⟨q, hqe⟩ : ∃ q, q = trimN lo m := ⟨_, rfl⟩
  rw [← hle2] at hL hlt hval hOl
  rw [← hqe] at hL hlt hle hpos ⊢
  have hb3 : Below w2.heap.size w2 (w2.alloc (.cells #[.slice (some ⟨gl, 0, none⟩) q cl] 33)) := (Below.refl _ _).alloc (Nat.le_refl _) _
  have hPb := Blk.new w2 33 #[.slice (some ⟨gl, 0, none⟩) q cl]
  have cP : (w2.alloc (.cells #[.slice (some ⟨gl, 0, none⟩) q cl] 33)).cell? ⟨w2.heap.size, 0, none⟩ = some (.slice (some ⟨gl, 0, none⟩) q cl) := hPb.cell 0
  have hRl : Reads (w2.alloc (.cells #[.slice (some ⟨gl, 0, none⟩) q cl] 33)) w2.heap.size 1 (some ⟨gl, 0, none⟩) q (cplx l) := (hOl.below hb3 (Nat.le_refl _)).reads' (Nat.le_refl _) (by simp [hlt])
  have HO := familyOf_v kind q (some ⟨gl, 0, none⟩) cl l hlt hpos (by omega) hk V 2 (by constructor <;> grind) hval hL (fun j hj => hVl j (by omega)) _ (hRl.more (by simp))
  have hb4 := (hb1.trans (hb2.mono z1)).trans (hb3.mono (by omega))
  clear hz hPA hL hval hOl hRl hb1 hb2 hle2 hqe hb3 f1 f2 hu hU
  go_wp2_with fail
  (with_reducible refine HO.mono ?_)
  rintro e w4 ⟨bo, gk, ck, rfl, hbo, hOA, hOk, hb5⟩
  have z5 := hb5.size
  simp only [World.size_alloc] at z5
  have hP4 := hPb.below hb5 (by simp)
  have cP4 : w4.cell? ⟨w2.heap.size, 0, none⟩ = some (.slice (some ⟨gl, 0, none⟩) q cl) := hP4.cell 0
  have hb6 := hb4.trans (hb5.mono (by simp; omega))
  have hRk : Reads w4 w4.heap.size 1 (some ⟨gk, 0, none⟩) q (cplx bo) := hOk.reads' (Nat.le_refl _) (by simp [hbo])
  have hRa4 := (hRa.below hb6).more hb6.size
  have hRb4 := (hRb.below hb6).more hb6.size
  have hbw := hb.trans (hb6.mono z0)
  have hrm := hr'.below (hb6.mono z0)
  have zw := hbw.size
  replace hOA := Lib.hid hOA
  replace hS := Lib.hid hS
  clear HO cP hPb hP4 hb4 hb5 hb6 hOk hRa hRb hr' hb
  go_wp2_with fail
  refine (HG _).mono ?_
  rintro e w5 ⟨rfl, rfl⟩
  clear HG j1
  have hqm : ¬ (m : Int) < (q : Int) := by omega
  have hqm2 : ¬ m < q := by omega
  go_wp2
  clear j2 t1 hqm hqm2 cP4
  go_loopw [37] (fun i wr => ∃ k : Nat, k ≤ q ∧ i = .int .i64 (k : Int) ∧ Below w5.heap.size w5 wr) (fun i _ => q - (intOf i).toNat)
  case atStart => exact ⟨0, Nat.zero_le _, rfl, Below.refl _ _⟩
  case round =>
    obtain ⟨k, hkq, rfl, hbr⟩ := hrel
    obtain ⟨wq, rfl⟩ : ∃ wq : World, wq = wr := ⟨_, rfl⟩
    have zr := hbr.size
    by_cases hlt2 : k < q
    · obtain ⟨ad1, e1, -, hc1⟩ := comp_at (l := bo) (k := k) (by rw [hbo]; exact hRk.below hbr) (by omega)
      obtain ⟨ad2, e2, -, hc2⟩ := comp_at (l := reC vs) (k := k) (by rw [reC_len, hvl]; exact hRb4.below hbr) (by simp; omega)
      cases e1
      cases e2
      rw [add0] at hc1 hc2
      rw [reC_at (by omega)] at hc2
      obtain ⟨f, b2, HF, f2, t2⟩ := back_test hk hm6 (show k < m by omega) (hV k (by omega)).1 (hOA.out k hlt2) hS.out
      have j3 := ar64 _ _ _ _ f2
      have hk0 : (0 : Int) ≤ (k : Int) := by omega
      have hk1 : (k : Int) < (q : Int) := by omega
      have hk2 : (k : Int) < (m : Int) := by omega
      have hk3 : k < m := by omega
      clear hRk hRa4 hRb4 hrm hS hOA f2 hV hVq hVl
      generalize bo.getD k (0, 0) = bk at *
      generalize vs.getD k 0 = vk at *
      go_wp2_with fail
      go_big_quiet ((go_at_call 18; with_reducible exact Calls.quiet_of_same (HF _)))
      go_wp2
      go_roundw
      case rel => exact ⟨k + 1, by omega, by go_num, below_drewN hbr _⟩
      case measure => (simp [intOf]; all_goals omega)
    · go_upto_region 45 with fail
      have hb7 := hbw.trans (hbr.mono zw)
      exact famT4 A A' c c' zs ms w wq kind n xx ry hk hn (hrm.below (hbr.mono zw)) hm hb7 q1 HA m ga ca hm1 hm6 vs hvl V hV ((hRa4.below hbr).more zr) _ (by assumption)
end Go.Proofs.Ytlpibibpckkjhaa
namespace Go.Proofs.Ytlpibibpckkjhaa
open Go.RowKit
theorem qw_eighth {ts : List Nat} (hts : ∀ t ∈ ts, t < 17) (l : Nat) (hl : l < ts.length) (h : Lm (tsW ts l) (1 / 8)) : tsW ts l = 0 := by
  have hm : ts.getD l 0 < 17 := by
    rw [List.getD, List.getElem?_eq_getElem hl]
    exact hts _ (List.getElem_mem _)
  exact q_small _ hm h
set_option maxRecDepth 100000 in
set_option maxHeartbeats 6400000 in
theorem famT2 (A A' : Option Addr) (c c' : Nat) (zs ms : List Int) (w wo : World) (kind n xx ry : Nat) (hk : kind ≤ 4) (hn : n ≤ 6) (hr : Reads wo w.heap.size 1 A zs.length (byts zs)) (hr' : Reads wo w.heap.size 1 A' ms.length (byts ms)) (hz : Byt zs) (hm : Byt ms) (hb13 : Below w.heap.size w wo) (q1 : FloatKind.f32.format.order ry ry = some .eq)
    (HA : ∀ w, Calls Try.prog 9 #[.int .i64 (kind : Int), .int .i64 (n : Int), .float .f32 xx] w fun e w' => e = .returned (.tuple #[.float .f32 ry, .bool true]) ∧ Below w.heap.size w w')
    (i : Nat) (hi17 : i < 17) (hxx : Hid (xF i = xx))
    {v2 v3 v4 v8 v9 v11 v12 v13 v14 v15 v16 v17 v18 v19 v20 v21 v22 v23 v24 v25 v26 v27 v28 v29 v30 v31 v32 v33 v34 v35 v36 v37 v38 v39 v40 v41 v42 v43 v44 v45 v46 v47 v48 v49 v50 v51 v52 v53 v54 v55 v56 v57 v58 v59 v60 v61 v62 v63 v64 v65 v66 v67 v68 v69 v70 v71 v72 v73 v74 v75 v76 v77 v78 v79 v80 v81 v82 v83 v84 v85 v86 v87 v88 v89 v90 v91 v92 v93 v94 v95 v96 v97 v98 v99 v100 v101 v102 v103 v104 v105 v106 v107 v108 v109 v110 v111 v112 v113 v114 v115 v116 v117 v118 v119 v120 v121 v122 v123 v124 v125 v126 v127 v128 v129 v130 v131 v132 v133 v134 v135 v136 v137 v138 v139 v140 v141 v142 v143 v144 v145 v146 v147 v148 v149 v150 v151 v152 v153 v154 v155 v156 v157 v158 v159 v160 v161 v162 v163 v164 v165 v166 v167 v168 v169 v170 v171 v172 v173 v174 v175 v176 v177 v178 v179 v180 v181 v182 v183 v184 v185 v186 v187 v188 v189 v190 v191 v192 v193 v194 v195 v196 v197 v198 v199 v200 v201 v202 v203 v204 v205 v206 v207 v208 v209 v210 v211 v212 v213 v214 v215 v216 v217 v218 v219 v220 v221 v222 v223 v224 v225 v226 v227 v228 v229 v230 v231 v232 v233 v234 v235 v236 v237 v238 v239 v240 v241 v242 v243 v244 v245 v246 v247 v248 v249 v250 v251 v252 v253 v254 v255 v256 v257 v258 v259 v260 v261 v262 v263 v264 v265 v266 v267 v268 v269 v270 v271 v272 v273 v274 v275 v276 v277 v278 v279 v280 v281 v282 v283 v284 v285 v286 v287 v288 v289 v290 v291 v292 v293 v294 v295 v296 v297 v298 v299 v300 v301 v302 v303 v304 v305 v306 v307 v308 v309 v310 v311 v312 v313 v314 v315 v316 v317 v318 v319 v320 v321 v322 v323 v324 v325 v326 v327 v328 v329 v330 v331 v332 v333 v334 v335 v336 v337 v338 v339 v340 v341 v342 v343 v344 v345 v346 v347 v348 v349 v350 v351 v352 v353 v354 v355 v356 v357 v358 v359 v360 v361 v362 v363 v364 v365 v366 v367 v368 v369 v370 v371 v372 v373 v374 v375 v376 v377 v378 v379 v380 v381 v382 v383 v384 v385 v386 v387 v388 v389 v390 v391 v392 v393 v394 v395 v396 v397 v398 v399 v400 v401 v402 v403 v404 v405 v406 v407 v408 v409 v410 v411 v412 v413 v414 v415 v416 v417 v418 v419 v420 v421 v422 v423 v424 v425 v426 v427 v428 v429 v430 v431 v432 v433 v434 v435 v436 v437 v438 v439 v440 v441 v442 v443 v444 v445 v446 : Value} :
    let Q' : Exit → Act → World → Prop := bodyPost Try.prog Try.f3 fun e w' => e = .returned (.bool true) ∧ Below w.heap.size w w'
    ∀ K : Act → World → Prop, (∀ a w, Code.wp Try.prog (tailAt Try.f3 12) Q' a w → K a w) → Code.wp Try.prog (headAt Try.f3 11) (Exit.then K Q') { tmps := #[.slice A zs.length c, .slice A' ms.length c', v2, v3, v4, .int .i64 (kind : Int), .int .i64 (n : Int), .float .f32 xx, v8, v9, .float .f32 ry, v11, v12, v13, v14, v15, v16, v17, v18, v19, v20, v21, v22, v23, v24, v25, v26, v27, v28, v29, v30, v31, v32, v33, v34, v35, v36, v37, v38, v39, v40, v41, v42, v43, v44, v45, v46, v47, v48, v49, v50, v51, v52, v53, v54, v55, v56, v57, v58, v59, v60, v61, v62, v63, v64, v65, v66, v67, v68, v69, v70, v71, v72, v73, v74, v75, v76, v77, v78, v79, v80, v81, v82, v83, v84, v85, v86, v87, v88, v89, v90, v91, v92, v93, v94, v95, v96, v97, v98, v99, v100, v101, v102, v103, v104, v105, v106, v107, v108, v109, v110, v111, v112, v113, v114, v115, v116, v117, v118, v119, v120, v121, v122, v123, v124, v125, v126, v127, v128, v129, v130, v131, v132, v133, v134, v135, v136, v137, v138, v139, v140, v141, v142, v143, v144, v145, v146, v147, v148, v149, v150, v151, v152, v153, v154, v155, v156, v157, v158, v159, v160, v161, v162, v163, v164, v165, v166, v167, v168, v169, v170, v171, v172, v173, v174, v175, v176, v177, v178, v179, v180, v181, v182, v183, v184, v185, v186, v187, v188, v189, v190, v191, v192, v193, v194, v195, v196, v197, v198, v199, v200, v201, v202, v203, v204, v205, v206, v207, v208, v209, v210, v211, v212, v213, v214, v215, v216, v217, v218, v219, v220, v221, v222, v223, v224, v225, v226, v227, v228, v229, v230, v231, v232, v233, v234, v235, v236, v237, v238, v239, v240, v241, v242, v243, v244, v245, v246, v247, v248, v249, v250, v251, v252, v253, v254, v255, v256, v257, v258, v259, v260, v261, v262, v263, v264, v265, v266, v267, v268, v269, v270, v271, v272, v273, v274, v275, v276, v277, v278, v279, v280, v281, v282, v283, v284, v285, v286, v287, v288, v289, v290, v291, v292, v293, v294, v295, v296, v297, v298, v299, v300, v301, v302, v303, v304, v305, v306, v307, v308, v309, v310, v311, v312, v313, v314, v315, v316, v317, v318, v319, v320, v321, v322, v323, v324, v325, v326, v327, v328, v329, v330, v331, v332, v333, v334, v335, v336, v337, v338, v339, v340, v341, v342, v343, v344, v345, v346, v347, v348, v349, v350, v351, v352, v353, v354, v355, v356, v357, v358, v359, v360, v361, v362, v363, v364, v365, v366, v367, v368, v369, v370, v371, v372, v373, v374, v375, v376, v377, v378, v379, v380, v381, v382, v383, v384, v385, v386, v387, v388, v389, v390, v391, v392, v393, v394, v395, v396, v397, v398, v399, v400, v401, v402, v403, v404, v405, v406, v407, v408, v409, v410, v411, v412, v413, v414, v415, v416, v417, v418, v419, v420, v421, v422, v423, v424, v425, v426, v427, v428, v429, v430, v431, v432, v433, v434, v435, v436, v437, v438, v439, v440, v441, v442, v443, v444, v445, v446], defers := [] } wo := by
  intro Q' K hK
  dsimp only [headAt, tailAt, Try.f3, nthTail] at hK ⊢
  obtain ⟨i0, hi, hz0, hz1, hz2⟩ := info_parts infoF
  obtain ⟨i1, hj, hy0, hy1, hy2⟩ := info_parts infoC
  obtain ⟨r, -, -, hv, -⟩ := row_facts kind i hk hi17
  replace hv := Lib.hid hv
  have zw := hb13.size
  go_wp2_with fail
  refine (r8At_any A' c' w.heap.size ms 43 6 (by omega) (by omega) hm _ hr').mono ?_
  rintro e w7 ⟨m0, rfl, hm5, rfl⟩
  obtain ⟨m, hmm, hm1, hm6⟩ : ∃ m : Nat, 1 + (m0 : Int) = (m : Int) ∧ 1 ≤ m ∧ m ≤ 6 := ⟨m0 + 1, by omega, by omega, by omega⟩
  go_wp2_with fail
  clear hmm hm5
  have ho1 : ((wo.alloc (.cells #[] 25)).alloc (.cells #[] 36)).ownsRow wo.heap.size 25 1 (.slice (some ⟨wo.heap.size, 0, none⟩) 0 0) 0 (flts (([] : List Nat).map qw)) := by
    have h := World.ownsRow_made (base := wo.heap.size) (e := 25) (size := 1) wo #[] 0 (by simp) (by simp [maxLen]) rfl
    have h2 := h.alloc (.cells #[] 36)
    simpa [flts] using h2
  have ho2 : ((wo.alloc (.cells #[] 25)).alloc (.cells #[] 36)).ownsRow wo.heap.size 36 1 (.slice (some ⟨wo.heap.size + 1, 0, none⟩) 0 0) 0 (cplx (reC (([] : List Nat).map qw))) := by
    have h := World.ownsRow_made (base := wo.heap.size) (e := 36) (size := 1) (wo.alloc (.cells #[] 25)) #[] 0 (by simp) (by simp [maxLen]) rfl
    simpa [cplx, reC] using h
  have hb0 : Below wo.heap.size wo ((wo.alloc (.cells #[] 25)).alloc (.cells #[] 36)) := ((Below.refl _ _).alloc (Nat.le_refl _) _).alloc (by simp) _
  go_loopw [23, 24, 25, 26, 27, 28, 29, 30] (fun a b s z q _ _ _ wr => ∃ (j : Nat) (ts : List Nat) (sb zb : Nat), j ≤ m ∧ q = .int .i64 (j : Int) ∧ s = .float .f64 sb ∧ z = .float .f64 zb ∧ ts.length = j ∧ Hid (∀ t ∈ ts, t < 17) ∧ Hid (SzAt (tsW ts) kind i j sb zb) ∧ wr.ownsRow wo.heap.size 25 1 a j (flts (ts.map qw)) ∧ wr.ownsRow wo.heap.size 36 1 b j (cplx (reC (ts.map qw))) ∧ a.ownBlock ≠ b.ownBlock ∧ Below wo.heap.size wo wr) (fun _ _ _ _ q _ _ _ _ => m - (intOf q).toNat)
  case atStart => exact ⟨0, [], 0, 4607182418800017408, Nat.zero_le _, rfl, rfl, rfl, rfl, (fun t ht => by simp at ht), szAt_zero, ho1, ho2, by simp [Value.ownBlock], hb0⟩
  case round =>
    obtain ⟨j, ts, sb, zb, hjm, rfl, rfl, rfl, htl, hts, hS, hr1, hr2, hne, hbr⟩ := hrel
    clear ho1 ho2 hb0
    obtain ⟨wq, rfl⟩ : ∃ wq : World, wq = wr := ⟨_, rfl⟩
    have zr := hbr.size
    have hbw := hb13.trans (hbr.mono zw)
    by_cases hlt : j < m
    · -- <L2
      obtain ⟨rj, hrj⟩ := row_ok kind i j hk (by omega) (by omega)
      obtain ⟨-, nx, -⟩ := x_ok i (by omega)
      have HAj := familyAt_w kind j (xF i) (RW kind i j) rj hk (by omega) hrj.is (nv_fin nx) (hrj.at_ j (Nat.le_refl _)) (nv_fin (hv.out j (by omega)).1)
      rw [hxx.out] at HAj
      have hrz := hr.below (hbr.mono zw)
      obtain ⟨Aa, ca, rfl, -, hka, -⟩ := Own.of_row hr1 (Nat.le_refl _)
      obtain ⟨Ab, cb, rfl, -, hkb, -⟩ := Own.of_row hr2 (Nat.le_refl _)
      clear hrj nx
      go_wp2_with fail
      refine (r8At_any A c w.heap.size zs j 17 (by omega) (by omega) hz _ hrz).mono ?_
      rintro e w8 ⟨q, rfl, hq, rfl⟩
      have hq17 : q < 17 := by omega
      have jq := ar32 _ _ _ _ (qw_ok q hq17).1
      have hts2 : Hid (∀ t ∈ ts ++ [q], t < 17) := fun t ht => by
        rcases List.mem_append.1 ht with h | h
        · exact hts.out t h
        · obtain rfl : t = q := by simpa using h
          omega
      obtain ⟨w64, v64, p, s', g1, g2, a, mm, m2, z', f1, f2, f3, f4, HG1, HG2, f5, f6, f7, f8, hS2⟩ := szAt_step (k := j) (W := tsW (ts ++ [q])) hk (by omega) (by omega) (tsW_last htl hq17) (fun l hl => tsW_lm hts2.out l (by simp; omega)) (szAt_congr (fun l hl => tsW_low (by omega)) hS.out)
      replace hS2 := Lib.hid hS2
      have k1 := cvW f1
      have k2 := cvW f2
      have k3 := ar64 _ _ _ _ f3
      have k4 := ar64 _ _ _ _ f4
      have k5 := ar64 _ _ _ _ f5
      have k6 := ar64 _ _ _ _ f6
      have k7 := ar64 _ _ _ _ f7
      have k8 := ar64 _ _ _ _ f8
      have ea : ts.map qw ++ [qw q] = (ts ++ [q]).map qw := by rw [List.map_append]; rfl
      have eb : reC (ts.map qw) ++ [(qw q, 0)] = reC ((ts ++ [q]).map qw) := by rw [List.map_append]; simp [reC]
      replace ea := Lib.hid ea
      replace eb := Lib.hid eb
      clear hS hts f1 f2 f3 f4 f5 f6 f7 f8 hrz hr hr' HA
      generalize qw q = xq at *
      generalize RW kind i j = yj at *
      go_wp2_with fail
      (with_reducible refine (HAj _).mono ?_)
      rintro e w9 ⟨rfl, hb14⟩
      clear HAj
      have z9 := hb14.size
      have hr3 := ownsRow_kp hr1 (Kp.of_below (lo := 0) (hi := 0) hb14) (Nat.zero_le _)
      have hr4 := ownsRow_kp hr2 (Kp.of_below (lo := 0) (hi := 0) hb14) (Nat.zero_le _)
      have hbx := hbr.trans (hb14.mono zr)
      have zx := hbx.size
      clear hr1 hr2 hbr hbw hb14
      go_wp2_with (at_builtin; first
        | (refine wpList_append_any _ rfl (.tmp 232) (.tmp 234) _ rfl wo.heap.size 25 i0 _ 1 4 Try.underlying26 hi hz0 hz1 hz2 rfl (by omega) (.slice Aa j ca) j (flts (ts.map qw)) rfl (hr3.alloc _) (w9.heap.size + 1) (some ⟨w9.heap.size, 0, none⟩) 1 1 [.float .f32 xq] rfl (reads_new w9 [_] _) (one_flt xq) (by simp only [maxLen]; omega) (by omega) (by simp; omega) ?_
           intro v1 w10 hr5 hg5 hat5
           rw [flts_snoc, ea.out] at hr5
           have hb15 : Below wo.heap.size w9 w10 := ((Below.refl _ _).alloc (by omega) _).grown hg5 (by simp; omega) (fun j hj => (hr3.lt j hj).1)
           have ne5 : v1.ownBlock ≠ (Value.slice Ab j cb).ownBlock := row_apart hr4 hne hat5
           have hr6 : w10.ownsRow wo.heap.size 36 1 (.slice Ab j cb) j (cplx (reC (ts.map qw))) := (hr4.alloc _).kept hg5 (.inr fun e => hne e.symm)
           have hby := hbx.trans (hb15.mono (Nat.le_refl _))
           have zy := hby.size
           clear hr3 hr4 hg5 hat5 hne hbx hb15 ea zx)
        | (refine wpList_append_any _ rfl (.tmp 236) (.tmp 239) _ rfl wo.heap.size 36 i1 _ 1 8 Try.underlying31 hj hy0 hy1 hy2 rfl (by omega) (.slice Ab j cb) j (cplx (reC (ts.map qw))) rfl (hr6.alloc _) (w10.heap.size + 1) (some ⟨w10.heap.size, 0, none⟩) 1 1 [.complex .f32 xq 0] rfl (reads_new w10 [_] _) (one_cplx xq 0) (by simp only [maxLen]; omega) (by omega) (by simp; omega) ?_
           intro v2 w11 hr7 hg7 hat7
           rw [cplx_snoc, eb.out] at hr7
           have hb16 : Below wo.heap.size w10 w11 := ((Below.refl _ _).alloc zy _).grown hg7 (by simp; omega) (fun j hj => (hr6.lt j hj).1)
           have ne7 : v2.ownBlock ≠ v1.ownBlock := row_apart hr5 ne5.symm hat7
           have hr8 : w11.ownsRow wo.heap.size 25 1 v1 (j + 1) (flts ((ts ++ [q]).map qw)) := (hr5.alloc _).kept hg7 (.inr ne5)
           have hbz := hby.trans (hb16.mono (Nat.le_refl _))
           clear hr5 hr6 hg7 hat7 ne5 hby hb16 eb zy))
      refine (HG1 _).mono ?_
      rintro e w12 ⟨rfl, rfl⟩
      go_wp2_with fail
      refine (HG2 _).mono ?_
      rintro e w12 ⟨rfl, rfl⟩
      go_wp2_with fail
      exact ⟨⟨j + 1, ts ++ [q], s', z', by omega, by go_num, rfl, rfl, by simp [htl], hts2, hS2, hr8, hr7, ne7.symm, hbz⟩, by simp [intOf]; omega⟩
      -- L2>
    · obtain rfl : j = m := by omega
      clear hlt hjm
      go_upto_region 35 with fail
      obtain ⟨ga, ca, rfl, la⟩ := World.ownsRow.form hr1 (by omega)
      obtain ⟨gb, cb, rfl, lb⟩ := World.ownsRow.form hr2 (by omega)
      have hOa := own_row hr1
      have hOb := own_row hr2
      obtain ⟨-, nx, lx⟩ := x_ok i hi17
      rw [hxx.out] at nx
      exact famT3 A A' c c' zs ms w wq kind n xx ry hk hn (hr'.below (hbr.mono zw)) hm hbw q1 HA j ga ca gb cb hm1 hm6 (ts.map qw) (by simp [htl]) (tsW ts) (fun l hl => by
        have h := tsW_at hts.out l (by omega)
        rw [show (ts.map qw).getD l 0 = qw (ts.getD l 0) by simp [List.getD, show l < ts.length by omega]]
        exact h) (fun l hl => qw_eighth hts.out l (by omega)) (hOa.reads' (B := wq.heap.size) (by omega) (by simp [htl])) (hOb.reads' (B := wq.heap.size) (by omega) (by simp [htl])) i sb zb hi17 nx lx hS.out _ (by assumption)
end Go.Proofs.Ytlpibibpckkjhaa
namespace Go.Proofs.Ytlpibibpckkjhaa
open Go.RowKit
def seqFst : Code → Code
  | .seq a _ => a
  | c => c
def seqSnd : Code → Code
  | .seq _ b => b
  | c => c
set_option maxRecDepth 100000 in
set_option maxHeartbeats 6400000 in
theorem famT1 (A A' : Option Addr) (c c' : Nat) (zs ms : List Int) (w wc : World) (kind n xx ry : Nat) (hk : kind ≤ 4) (h1 : 1 ≤ n) (h6 : n ≤ 6) (hr : Reads wc w.heap.size 1 A zs.length (byts zs)) (hr' : Reads wc w.heap.size 1 A' ms.length (byts ms)) (hz : Byt zs) (hm : Byt ms) (hb : Below w.heap.size w wc) (q1 : FloatKind.f32.format.order ry ry = some .eq)
    (HA : ∀ w, Calls Try.prog 9 #[.int .i64 (kind : Int), .int .i64 (n : Int), .float .f32 xx] w fun e w' => e = .returned (.tuple #[.float .f32 ry, .bool true]) ∧ Below w.heap.size w w')
    (i : Nat) (hi17 : i < 17) (hxx : Hid (xF i = xx)) (g cr : Nat) (row : List Nat) (hfitt : Hid (row.length = n + 1)) (hat : Hid (∀ j, j ≤ n → row.getD j 0 = RW kind i j)) (hRc : Reads wc wc.heap.size 1 (some ⟨g, 0, none⟩) (n + 1) (flts row))
    {v2 v3 v4 v9 v11 v12 v13 v14 v15 v16 v17 v18 v19 v20 v21 v22 v23 v24 v25 v26 v27 v28 v29 v30 v31 v32 v33 v34 v35 v36 v37 v38 v39 v40 v41 v42 v43 v44 v45 v46 v47 v48 v49 v50 v51 v52 v53 v54 v55 v56 v57 v58 v59 v60 v61 v62 v63 v64 v65 v66 v67 v68 v69 v70 v71 v72 v73 v74 v75 v76 v77 v78 v79 v80 v81 v82 v83 v84 v85 v86 v87 v88 v89 v90 v91 v92 v93 v94 v95 v96 v97 v98 v99 v100 v101 v102 v103 v104 v105 v106 v107 v108 v109 v110 v111 v112 v113 v114 v115 v116 v117 v118 v119 v120 v121 v122 v123 v124 v125 v126 v127 v128 v129 v130 v131 v132 v133 v134 v135 v136 v137 v138 v139 v140 v141 v142 v143 v144 v145 v146 v147 v148 v149 v150 v151 v152 v153 v154 v155 v156 v157 v158 v159 v160 v161 v162 v163 v164 v165 v166 v167 v168 v169 v170 v171 v172 v173 v174 v175 v176 v177 v178 v179 v180 v181 v182 v183 v184 v185 v186 v187 v188 v189 v190 v191 v192 v193 v194 v195 v196 v197 v198 v199 v200 v201 v202 v203 v204 v205 v206 v207 v208 v209 v210 v211 v212 v213 v214 v215 v216 v217 v218 v219 v220 v221 v222 v223 v224 v225 v226 v227 v228 v229 v230 v231 v232 v233 v234 v235 v236 v237 v238 v239 v240 v241 v242 v243 v244 v245 v246 v247 v248 v249 v250 v251 v252 v253 v254 v255 v256 v257 v258 v259 v260 v261 v262 v263 v264 v265 v266 v267 v268 v269 v270 v271 v272 v273 v274 v275 v276 v277 v278 v279 v280 v281 v282 v283 v284 v285 v286 v287 v288 v289 v290 v291 v292 v293 v294 v295 v296 v297 v298 v299 v300 v301 v302 v303 v304 v305 v306 v307 v308 v309 v310 v311 v312 v313 v314 v315 v316 v317 v318 v319 v320 v321 v322 v323 v324 v325 v326 v327 v328 v329 v330 v331 v332 v333 v334 v335 v336 v337 v338 v339 v340 v341 v342 v343 v344 v345 v346 v347 v348 v349 v350 v351 v352 v353 v354 v355 v356 v357 v358 v359 v360 v361 v362 v363 v364 v365 v366 v367 v368 v369 v370 v371 v372 v373 v374 v375 v376 v377 v378 v379 v380 v381 v382 v383 v384 v385 v386 v387 v388 v389 v390 v391 v392 v393 v394 v395 v396 v397 v398 v399 v400 v401 v402 v403 v404 v405 v406 v407 v408 v409 v410 v411 v412 v413 v414 v415 v416 v417 v418 v419 v420 v421 v422 v423 v424 v425 v426 v427 v428 v429 v430 v431 v432 v433 v434 v435 v436 v437 v438 v439 v440 v441 v442 v443 v444 v445 v446 : Value} :
    let Q' : Exit → Act → World → Prop := bodyPost Try.prog Try.f3 fun e w' => e = .returned (.bool true) ∧ Below w.heap.size w w'
    ∀ K K' : Act → World → Prop, (∀ a w, Code.wp Try.prog (tailAt Try.f3 11) Q' a w → K a w) → (∀ a w, Code.wp Try.prog (seqSnd (headAt Try.f3 10)) (Exit.then K Q') a w → K' a w) →
      Code.wp Try.prog (seqFst (headAt Try.f3 10)) (Exit.then K' (Exit.then K Q')) { tmps := #[.slice A zs.length c, .slice A' ms.length c', v2, v3, v4, .int .i64 (kind : Int), .int .i64 (n : Int), .float .f32 xx, .slice (some ⟨g, 0, none⟩) (n + 1) cr, v9, .float .f32 ry, v11, v12, v13, v14, v15, v16, v17, v18, v19, v20, v21, v22, v23, v24, v25, v26, v27, v28, v29, v30, v31, v32, v33, v34, v35, v36, v37, v38, v39, v40, v41, v42, v43, v44, v45, v46, v47, v48, v49, v50, v51, v52, v53, v54, v55, v56, v57, v58, v59, v60, v61, v62, v63, v64, v65, v66, v67, v68, v69, v70, v71, v72, v73, v74, v75, v76, v77, v78, v79, v80, v81, v82, v83, v84, v85, v86, v87, v88, v89, v90, v91, v92, v93, v94, v95, v96, v97, v98, v99, v100, v101, v102, v103, v104, v105, v106, v107, v108, v109, v110, v111, v112, v113, v114, v115, v116, v117, v118, v119, v120, v121, v122, v123, v124, v125, v126, v127, v128, v129, v130, v131, v132, v133, v134, v135, v136, v137, v138, v139, v140, v141, v142, v143, v144, v145, v146, v147, v148, v149, v150, v151, v152, v153, v154, v155, v156, v157, v158, v159, v160, v161, v162, v163, v164, v165, v166, v167, v168, v169, v170, v171, v172, v173, v174, v175, v176, v177, v178, v179, v180, v181, v182, v183, v184, v185, v186, v187, v188, v189, v190, v191, v192, v193, v194, v195, v196, v197, v198, v199, v200, v201, v202, v203, v204, v205, v206, v207, v208, v209, v210, v211, v212, v213, v214, v215, v216, v217, v218, v219, v220, v221, v222, v223, v224, v225, v226, v227, v228, v229, v230, v231, v232, v233, v234, v235, v236, v237, v238, v239, v240, v241, v242, v243, v244, v245, v246, v247, v248, v249, v250, v251, v252, v253, v254, v255, v256, v257, v258, v259, v260, v261, v262, v263, v264, v265, v266, v267, v268, v269, v270, v271, v272, v273, v274, v275, v276, v277, v278, v279, v280, v281, v282, v283, v284, v285, v286, v287, v288, v289, v290, v291, v292, v293, v294, v295, v296, v297, v298, v299, v300, v301, v302, v303, v304, v305, v306, v307, v308, v309, v310, v311, v312, v313, v314, v315, v316, v317, v318, v319, v320, v321, v322, v323, v324, v325, v326, v327, v328, v329, v330, v331, v332, v333, v334, v335, v336, v337, v338, v339, v340, v341, v342, v343, v344, v345, v346, v347, v348, v349, v350, v351, v352, v353, v354, v355, v356, v357, v358, v359, v360, v361, v362, v363, v364, v365, v366, v367, v368, v369, v370, v371, v372, v373, v374, v375, v376, v377, v378, v379, v380, v381, v382, v383, v384, v385, v386, v387, v388, v389, v390, v391, v392, v393, v394, v395, v396, v397, v398, v399, v400, v401, v402, v403, v404, v405, v406, v407, v408, v409, v410, v411, v412, v413, v414, v415, v416, v417, v418, v419, v420, v421, v422, v423, v424, v425, v426, v427, v428, v429, v430, v431, v432, v433, v434, v435, v436, v437, v438, v439, v440, v441, v442, v443, v444, v445, v446], defers := [] } wc := by
  intro Q' K K' hK hK'
  dsimp only [seqFst, seqSnd, headAt, tailAt, Try.f3, nthTail] at hK hK' ⊢
  have z0 := hb.size
  go_wp2_with fail
  go_loopw [16, 17, 18, 19, 20, 21] (fun i _ _ _ _ _ wr => ∃ k : Nat, 1 ≤ k ∧ k ≤ n ∧ i = .int .i64 (k : Int) ∧ Below wc.heap.size wc wr) (fun i _ _ _ _ _ _ => n - (intOf i).toNat)
  case atStart => exact ⟨1, Nat.le_refl _, h1, rfl, Below.refl _ _⟩
  case round =>
    obtain ⟨k, hk1, hkn, rfl, hbr⟩ := hrel
    obtain ⟨wo, rfl⟩ : ∃ wo : World, wo = wr := ⟨_, rfl⟩
    have zr := hbr.size
    by_cases hlt : k < n
    · -- <L1
      obtain ⟨ra, rb, rc, a64, x64, p, b64, q, y64, tt, c64, z64, v, want, n64, g1, g2, h1', g3, h2', h3', h4', hR⟩ := rec_ok kind i k hk (by omega) hk1 (by omega)
      have HQ := ruleOf_w kind k ra rb rc hk (by omega) hR.rule
      have hRo := hRc.below hbr
      obtain ⟨ad1, e1, -, hc1⟩ := flt_atN hRo hfitt.out (show k < n + 1 by omega)
      obtain ⟨ad2, e2, -, hc2⟩ := flt_atN hRo hfitt.out (show k - 1 < n + 1 by omega)
      obtain ⟨ad3, e3, -, hc3⟩ := flt_atN hRo hfitt.out (show k + 1 < n + 1 by omega)
      cases e1
      cases e2
      cases e3
      rw [add0, hat.out k (by omega)] at hc1
      rw [add0, hat.out (k - 1) (by omega)] at hc2
      rw [add0, hat.out (k + 1) (by omega)] at hc3
      have j1 := cvW hR.fa
      have j2 := cvW hR.fx
      have j3 := ar64 _ _ _ _ hR.ep
      have j4 := cvW hR.fb_
      have j5 := ar64 _ _ _ _ hR.eq_
      have j6 := cvW hR.fy
      have j7 := ar64 _ _ _ _ hR.et
      have j8 := cvW hR.fc
      have j9 := cvW hR.fz
      have j10 := ar64 _ _ _ _ hR.ev
      have j11 := ar64 _ _ _ _ hR.ew
      have j12 := cvW hR.fn
      have j13 := ar64 _ _ _ _ hR.eh1
      have j14 := ar64 _ _ _ _ hR.eh2
      have j15 := ar64 _ _ _ _ hR.eh3
      have j16 := ar64 _ _ _ _ hR.eh4
      have HG1 := hR.gap1
      have HG2 := hR.gap2
      have HG3 := hR.gap3
      have j17 := hR.test
      rw [hxx.out] at j2
      have hk0 : (0 : Int) ≤ (k : Int) := by omega
      have hk2 : (k : Int) < (n : Int) + 1 := by omega
      have hk3 : (k : Int) < (n : Int) := by omega
      have hk4 : k < n + 1 := by omega
      have hk5' : k - 1 < n + 1 := by omega
      have hk6 : k + 1 < n + 1 := by omega
      have hk7 : (k : Int) + 1 < (n : Int) + 1 := by omega
      have hwa : IntKind.i64.wrap ((k : Int) - 1) = ((k - 1 : Nat) : Int) := wrap_sub k 1 hk1 (by omega)
      have hwb : IntKind.i64.wrap ((k : Int) + 1) = ((k + 1 : Nat) : Int) := by
        rw [show (k : Int) + 1 = ((k + 1 : Nat) : Int) by omega]
        exact IntWalk.i64_in _ (by omega)
      clear hR hRo hRc hat hfitt hr hr' HA
      generalize RW kind i k = yk at *
      generalize RW kind i (k - 1) = yp at *
      generalize RW kind i (k + 1) = yn at *
      obtain ⟨kn, hkk⟩ : ∃ kn, kn = k + 1 := ⟨_, rfl⟩
      have hkn1 : (kn : Int) < (n : Int) + 1 := by omega
      rw [← hkk] at hc3 hk6 hwb
      replace hkk := Lib.hid hkk
      clear hk7
      go_wp2_with fail
      refine (HQ _).mono ?_
      rintro e w5 ⟨rfl, rfl⟩
      clear HQ
      go_wp2_with fail
      go_big_quiet ((go_at_call 12; first | with_reducible exact Calls.quiet_of_same (HG1 _) | with_reducible exact Calls.quiet_of_same (HG2 _) | with_reducible exact Calls.quiet_of_same (HG3 _)))
      go_wp2_with fail
      have hb6 : Below wc.heap.size wc (w5.drewN nq) := below_drewN hbr _
      replace hc1 : (w5.drewN nq).cell? ⟨g, k, none⟩ = some (.float .f32 yk) := hc1
      replace hc3 : (w5.drewN nq).cell? ⟨g, kn, none⟩ = some (.float .f32 yn) := hc3
      clear j1 j2 j3 j4 j5 j7 j8 j9 j10 j11 hc2 hbr zr
      generalize w5.drewN nq = w6 at *
      go_big_quiet ((go_at_call 12; first | with_reducible exact Calls.quiet_of_same (HG1 _) | with_reducible exact Calls.quiet_of_same (HG2 _) | with_reducible exact Calls.quiet_of_same (HG3 _)))
      go_wp2
      go_roundw
      case rel => exact ⟨kn, by have := hkk.out; omega, by have := hkk.out; omega, by rfl, below_drewN hb6 _⟩
      case measure => (have := hkk.out; simp [intOf]; all_goals omega)
      -- L1>
    · obtain rfl : n = k := by omega
      go_upto_region 19 with fail
      exact famT2 A A' c c' zs ms w wo kind n xx ry hk h6 (hr.below (hbr.mono z0)) (hr'.below (hbr.mono z0)) hz hm (hb.trans (hbr.mono z0)) q1 HA i hi17 hxx _ (by assumption)
end Go.Proofs.Ytlpibibpckkjhaa
