/- The references of layer 7: May, its last loop taken out. -/
import Derived.Test.YtdiamknibfamdaaGreatRfZ
import Derived.Test.YtdiamknibfamdaaGreatRfD
namespace Go.Proofs.YtdiamknibfamdaaGreat
open Go.RowKit Go.Shelf
attribute [local go_sem ↓] Go.wp_at_zero Go.wp_at_succ

/-- The loops of a code that lie in no other one, in order. -/
def loopsOf : Code → List Code
  | .loop c => [.loop c]
  | .seq a b => loopsOf a ++ loopsOf b
  | .block _ c => loopsOf c
  | .scope c => loopsOf c
  | .cond _ a b => loopsOf a ++ loopsOf b
  | _ => []
def bodyOf : Code → Code
  | .loop c => c
  | c => c
/-- The last two statements. -/
def tailSeq : Code → Code
  | .seq _ (.seq b c) => tailSeq (.seq b c)
  | c => c
noncomputable def loop70 : Code := ((loopsOf (Tryz.f70.body.getD .skip))[2]?).getD .skip
noncomputable def body70 : Code := bodyOf loop70
noncomputable def tail70 : Code := tailSeq (Tryz.f70.body.getD .skip)

set_option maxHeartbeats 8000000 in
set_option maxRecDepth 100000 in
theorem past_no0a {R : Prop} {w wo : World} {B i : Nat} {K' K : Act → World → Prop} {b0 b1' b2 b3 : Value} {pa : Option Addr} {pc : Nat} {ps : List Past} {v0 v2 v3 v4 v5 v6 v7 v8 v10 v11 v12 v13 v14 v15 v16 v17 v18 v19 v20 v21 v22 v23 v24 v25 v26 v27 v28 v29 v30 v31 v32 v33 v34 v35 v36 v37 v38 v39 v40 v41 v42 v43 v44 v45 v46 v47 v48 v49 v50 v51 v52 v53 v54 v55 v56 v57 v58 v59 v60 v61 v62 v63 v64 v65 v66 v67 v68 v69 v70 v71 v72 v73 v74 v75 v76 v77 v78 v79 v80 v81 v82 v83 v84 v85 v86 v87 v88 v89 v90 v91 v92 v93 v94 v95 v96 v97 v98 v99 v100 v101 v102 v103 v104 v105 v106 v107 v108 v109 v110 v111 v112 v113 v114 v115 v116 v117 v118 v119 v120 v121 v122 v123 v124 v125 v126 v127 v128 v129 v130 v131 v132 v133 v134 v135 v136 v137 v138 v139 v140 v141 v142 v143 v144 v145 v146 v147 v148 v149 v150 v151 v152 v153 v154 v155 v156 v157 v158 v159 v160 v161 v162 v163 v164 v165 v166 v167 v168 v169 v170 v171 v172 v173 v174 v175 v176 v177 v178 v179 v180 v181 v182 v183 v184 v185 v186 v187 v188 v189 v190 v191 v192 v193 v194 v195 v196 v197 v198 v199 v200 v201 v202 v203 v204 v205 v206 v207 v208 v209 v210 v211 v212 v213 v214 v215 v216 v217 v218 : Value}
    (hp : wo.heap[B]? = some (.cells #[b0, b1', b2, b3, .slice pa ps.length pc] 27 (0, 0))) (hps : SlOk ePast wo ⟨pa, pc, ps⟩) (hbel : Below w.heap.size w wo) (_hpl : ps.length ≤ pc) (_hpc : pc ≤ 9223372036854775807) (hlt : i < ps.length) {x : Past} (hx : ps[i]? = some x) (hi : i = 0) (hbad : ¬ R) (hsome : x.who < 1 ∨ x.who > 15 ∨ x.inc < 1 ∨ x.inc > 4611686018427387903 ∨ x.n < 1 ∨ x.n > 4611686018427387903 ∨ x.out.code < 0) :
    Code.wp Tryz.prog body70 (Exit.then K' (Exit.inBlock 8 (Exit.then K (bodyPost Tryz.prog Tryz.f70 (Tells R w))))) ⟨#[v0, .pointer (some ⟨B, 0, none⟩), v2, v3, v4, v5, v6, v7, v8, .int .i64 i, v10, v11, v12, v13, v14, v15, v16, v17, v18, v19, v20, v21, v22, v23, v24, v25, v26, v27, v28, v29, v30, v31, v32, v33, v34, v35, v36, v37, v38, v39, v40, v41, v42, v43, v44, v45, v46, v47, v48, v49, v50, v51, v52, v53, v54, v55, v56, v57, v58, v59, v60, v61, v62, v63, v64, v65, v66, v67, v68, v69, v70, v71, v72, v73, v74, v75, v76, v77, v78, v79, v80, v81, v82, v83, v84, v85, v86, v87, v88, v89, v90, v91, v92, v93, v94, v95, v96, v97, v98, v99, v100, v101, v102, v103, v104, v105, v106, v107, v108, v109, v110, v111, v112, v113, v114, v115, v116, v117, v118, v119, v120, v121, v122, v123, v124, v125, v126, v127, v128, v129, v130, v131, v132, v133, v134, v135, v136, v137, v138, v139, v140, v141, v142, v143, v144, v145, v146, v147, v148, v149, v150, v151, v152, v153, v154, v155, v156, v157, v158, v159, v160, v161, v162, v163, v164, v165, v166, v167, v168, v169, v170, v171, v172, v173, v174, v175, v176, v177, v178, v179, v180, v181, v182, v183, v184, v185, v186, v187, v188, v189, v190, v191, v192, v193, v194, v195, v196, v197, v198, v199, v200, v201, v202, v203, v204, v205, v206, v207, v208, v209, v210, v211, v212, v213, v214, v215, v216, v217, v218], []⟩ wo := by
  unfold body70
  conv => arg 2; whnf
  simp only [List.append_eq, List.cons_append, List.nil_append]
  obtain ⟨b, off, x', ha, hy, hb, hat, hok⟩ := hps.get (j := i) hlt
  dsimp only at ha hy
  rw [hx] at hy
  cases hy
  obtain ⟨d0, d1, d2, d3, d4, d5, d6, d7⟩ := at_past hat
  simp only [show ePast.k = 8 from rfl] at d0 d1 d2 d3 d4 d5 d6 d7
  cases ha
  obtain ⟨t0, t1, t2, t3, t4, -, -, -, -, -⟩ := cells5 hp
  have HP : Aside _ := hp
  have HB : Aside (Below w.heap.size w wo) := hbel
  have HBAD : Aside (¬ R) := hbad
  have hBlt := box_lt hp
  have hltz : (i : Int) < (ps.length : Int) := by omega
  have hi0 : (0 : Int) ≤ (i : Int) := by omega
  have hbne : b ≠ wo.heap.size := by omega
  obtain ⟨xw, xi, xn, xc, xe, xa, xl, xo⟩ := x
  have hdB : decide ((i : Int) > 0) = false := decide_eq_false (by omega)
  have hdBn : decide (0 < i) = false := decide_eq_false (by omega)
  dsimp only at d0 d1 d2 d3 d4 d5 d6 d7  hsome
  have HS : Hid (xw < 1 ∨ xw > 15 ∨ xi < 1 ∨ xi > 4611686018427387903 ∨ xn < 1 ∨ xn > 4611686018427387903 ∨ xc < 0) := hsome
  clear hat hok hps hp hbel hbad hsome hx hi
  go_wp2_with fail
  have HP2 : Aside _ := box_mono HP.out (balloc (b1 wo (.cells #[.int .i64 xw, .int .u64 xi, .int .u64 xn, .int .i64 xc, .int .u64 xe, .int .u64 xa, .int .u64 xl, .int .i64 xo] 82)) (.cells #[.int .i64 xc, .int .u64 xe, .int .u64 xa, .int .u64 xl, .int .i64 xo] 63))
  have HX2 : Aside _ := box_mono (heap_top wo (.cells #[.int .i64 xw, .int .u64 xi, .int .u64 xn, .int .i64 xc, .int .u64 xe, .int .u64 xa, .int .u64 xl, .int .i64 xo] 82) _ rfl) (b1 (wo.alloc (.cells #[.int .i64 xw, .int .u64 xi, .int .u64 xn, .int .i64 xc, .int .u64 xe, .int .u64 xa, .int .u64 xl, .int .i64 xo] 82)) (.cells #[.int .i64 xc, .int .u64 xe, .int .u64 xa, .int .u64 xl, .int .i64 xo] 63))
  have HO2 : Aside _ := heap_top (wo.alloc (.cells #[.int .i64 xw, .int .u64 xi, .int .u64 xn, .int .i64 xc, .int .u64 xe, .int .u64 xa, .int .u64 xl, .int .i64 xo] 82)) (.cells #[.int .i64 xc, .int .u64 xe, .int .u64 xa, .int .u64 xl, .int .i64 xo] 63) (wo.heap.size + 1) (by simp)
  have HB2 : Aside (Below w.heap.size w ((wo.alloc (.cells #[.int .i64 xw, .int .u64 xi, .int .u64 xn, .int .i64 xc, .int .u64 xe, .int .u64 xa, .int .u64 xl, .int .i64 xo] 82)).alloc (.cells #[.int .i64 xc, .int .u64 xe, .int .u64 xa, .int .u64 xl, .int .i64 xo] 63))) := balloc (balloc HB.out _) _
  have HBW : Aside (Below wo.heap.size wo ((wo.alloc (.cells #[.int .i64 xw, .int .u64 xi, .int .u64 xn, .int .i64 xc, .int .u64 xe, .int .u64 xa, .int .u64 xl, .int .i64 xo] 82)).alloc (.cells #[.int .i64 xc, .int .u64 xe, .int .u64 xa, .int .u64 xl, .int .i64 xo] 63))) := balloc (b1 _ _) _
  generalize (wo.alloc (.cells #[.int .i64 xw, .int .u64 xi, .int .u64 xn, .int .i64 xc, .int .u64 xe, .int .u64 xa, .int .u64 xl, .int .i64 xo] 82)).alloc (.cells #[.int .i64 xc, .int .u64 xe, .int .u64 xa, .int .u64 xl, .int .i64 xo] 63) = w2 at HP2 HX2 HO2 HB2 HBW ⊢
  clear t0 t1 t2 t3 t4 d0 d1 d2 d3 d4 d5 d6 d7
  obtain ⟨-, -, -, -, t4, -, -, -, -, -⟩ := cells5 HP2.out
  obtain ⟨x0, x1, x2, x3, x4, x5, x6, x7, -, -, -, -, -, -, -, -⟩ := cells8 HX2.out
  obtain ⟨o0, o1, o2, o3, o4, -, -, -, -, -⟩ := cells5 HO2.out
  have bd : ∀ m, Below w2.heap.size w2 (w2.drewN m) := fun m => ⟨rfl, rfl, rfl, Nat.le_refl _, fun _ _ => rfl⟩
  by_cases c0 : xw < 1
  · have e0 : decide (xw < 1) = true := decide_eq_true c0
    clear c0
    go_quiet (fail)
    go_wp2
    go_ret
    exact tells_no HBAD.out (bthen HB2.out (bd _))
  have e0 : decide (xw < 1) = false := decide_eq_false c0
  by_cases c1 : xw > 15
  · have e1 : decide (xw > 15) = true := decide_eq_true c1
    have f1 : decide (15 < xw) = true := decide_eq_true c1
    clear c1
    go_quiet (fail)
    go_wp2
    go_ret
    exact tells_no HBAD.out (bthen HB2.out (bd _))
  have e1 : decide (xw > 15) = false := decide_eq_false c1
  have f1 : decide (15 < xw) = false := decide_eq_false c1
  by_cases c2 : xi < 1
  · have e2 : decide (xi < 1) = true := decide_eq_true c2
    clear c2
    go_quiet (fail)
    go_wp2
    go_ret
    exact tells_no HBAD.out (bthen HB2.out (bd _))
  have e2 : decide (xi < 1) = false := decide_eq_false c2
  by_cases c3 : xi > 4611686018427387903
  · have e3 : decide (xi > 4611686018427387903) = true := decide_eq_true c3
    have f3 : decide (4611686018427387903 < xi) = true := decide_eq_true c3
    clear c3
    go_quiet (fail)
    go_wp2
    go_ret
    exact tells_no HBAD.out (bthen HB2.out (bd _))
  have e3 : decide (xi > 4611686018427387903) = false := decide_eq_false c3
  have f3 : decide (4611686018427387903 < xi) = false := decide_eq_false c3
  by_cases c4 : xn < 1
  · have e4 : decide (xn < 1) = true := decide_eq_true c4
    clear c4
    go_quiet (fail)
    go_wp2
    go_ret
    exact tells_no HBAD.out (bthen HB2.out (bd _))
  have e4 : decide (xn < 1) = false := decide_eq_false c4
  by_cases c5 : xn > 4611686018427387903
  · have e5 : decide (xn > 4611686018427387903) = true := decide_eq_true c5
    have f5 : decide (4611686018427387903 < xn) = true := decide_eq_true c5
    clear c5
    go_quiet (fail)
    go_wp2
    go_ret
    exact tells_no HBAD.out (bthen HB2.out (bd _))
  have e5 : decide (xn > 4611686018427387903) = false := decide_eq_false c5
  have f5 : decide (4611686018427387903 < xn) = false := decide_eq_false c5
  by_cases c6 : xc < 0
  · have e6 : decide (xc < 0) = true := decide_eq_true c6
    clear c6
    go_quiet (fail)
    go_wp2
    go_ret
    exact tells_no HBAD.out (bthen HB2.out (bd _))
  have e6 : decide (xc < 0) = false := decide_eq_false c6
  exact absurd HS.out (by omega)

set_option maxHeartbeats 8000000 in
set_option maxRecDepth 100000 in
theorem past_no0b {R : Prop} {w wo : World} {B i : Nat} {K' K : Act → World → Prop} {b0 b1' b2 b3 : Value} {pa : Option Addr} {pc : Nat} {ps : List Past} {v0 v2 v3 v4 v5 v6 v7 v8 v10 v11 v12 v13 v14 v15 v16 v17 v18 v19 v20 v21 v22 v23 v24 v25 v26 v27 v28 v29 v30 v31 v32 v33 v34 v35 v36 v37 v38 v39 v40 v41 v42 v43 v44 v45 v46 v47 v48 v49 v50 v51 v52 v53 v54 v55 v56 v57 v58 v59 v60 v61 v62 v63 v64 v65 v66 v67 v68 v69 v70 v71 v72 v73 v74 v75 v76 v77 v78 v79 v80 v81 v82 v83 v84 v85 v86 v87 v88 v89 v90 v91 v92 v93 v94 v95 v96 v97 v98 v99 v100 v101 v102 v103 v104 v105 v106 v107 v108 v109 v110 v111 v112 v113 v114 v115 v116 v117 v118 v119 v120 v121 v122 v123 v124 v125 v126 v127 v128 v129 v130 v131 v132 v133 v134 v135 v136 v137 v138 v139 v140 v141 v142 v143 v144 v145 v146 v147 v148 v149 v150 v151 v152 v153 v154 v155 v156 v157 v158 v159 v160 v161 v162 v163 v164 v165 v166 v167 v168 v169 v170 v171 v172 v173 v174 v175 v176 v177 v178 v179 v180 v181 v182 v183 v184 v185 v186 v187 v188 v189 v190 v191 v192 v193 v194 v195 v196 v197 v198 v199 v200 v201 v202 v203 v204 v205 v206 v207 v208 v209 v210 v211 v212 v213 v214 v215 v216 v217 v218 : Value}
    (hp : wo.heap[B]? = some (.cells #[b0, b1', b2, b3, .slice pa ps.length pc] 27 (0, 0))) (hps : SlOk ePast wo ⟨pa, pc, ps⟩) (hbel : Below w.heap.size w wo) (_hpl : ps.length ≤ pc) (_hpc : pc ≤ 9223372036854775807) (hlt : i < ps.length) {x : Past} (hx : ps[i]? = some x) (hi : i = 0) (hbad : ¬ R) (hfirst : ¬ x.who < 1 ∧ ¬ x.who > 15 ∧ ¬ x.inc < 1 ∧ ¬ x.inc > 4611686018427387903 ∧ ¬ x.n < 1 ∧ ¬ x.n > 4611686018427387903 ∧ ¬ x.out.code < 0) (hsome : x.out.code > 9 ∨ x.out.owner < 0 ∨ x.out.owner > 15 ∨ x.out.epoch > 4611686018427387903 ∨ x.out.at_ > 4611686018427387903 ∨ x.out.ledger > 4611686018427387903) :
    Code.wp Tryz.prog body70 (Exit.then K' (Exit.inBlock 8 (Exit.then K (bodyPost Tryz.prog Tryz.f70 (Tells R w))))) ⟨#[v0, .pointer (some ⟨B, 0, none⟩), v2, v3, v4, v5, v6, v7, v8, .int .i64 i, v10, v11, v12, v13, v14, v15, v16, v17, v18, v19, v20, v21, v22, v23, v24, v25, v26, v27, v28, v29, v30, v31, v32, v33, v34, v35, v36, v37, v38, v39, v40, v41, v42, v43, v44, v45, v46, v47, v48, v49, v50, v51, v52, v53, v54, v55, v56, v57, v58, v59, v60, v61, v62, v63, v64, v65, v66, v67, v68, v69, v70, v71, v72, v73, v74, v75, v76, v77, v78, v79, v80, v81, v82, v83, v84, v85, v86, v87, v88, v89, v90, v91, v92, v93, v94, v95, v96, v97, v98, v99, v100, v101, v102, v103, v104, v105, v106, v107, v108, v109, v110, v111, v112, v113, v114, v115, v116, v117, v118, v119, v120, v121, v122, v123, v124, v125, v126, v127, v128, v129, v130, v131, v132, v133, v134, v135, v136, v137, v138, v139, v140, v141, v142, v143, v144, v145, v146, v147, v148, v149, v150, v151, v152, v153, v154, v155, v156, v157, v158, v159, v160, v161, v162, v163, v164, v165, v166, v167, v168, v169, v170, v171, v172, v173, v174, v175, v176, v177, v178, v179, v180, v181, v182, v183, v184, v185, v186, v187, v188, v189, v190, v191, v192, v193, v194, v195, v196, v197, v198, v199, v200, v201, v202, v203, v204, v205, v206, v207, v208, v209, v210, v211, v212, v213, v214, v215, v216, v217, v218], []⟩ wo := by
  unfold body70
  conv => arg 2; whnf
  simp only [List.append_eq, List.cons_append, List.nil_append]
  obtain ⟨b, off, x', ha, hy, hb, hat, hok⟩ := hps.get (j := i) hlt
  dsimp only at ha hy
  rw [hx] at hy
  cases hy
  obtain ⟨d0, d1, d2, d3, d4, d5, d6, d7⟩ := at_past hat
  simp only [show ePast.k = 8 from rfl] at d0 d1 d2 d3 d4 d5 d6 d7
  cases ha
  obtain ⟨t0, t1, t2, t3, t4, -, -, -, -, -⟩ := cells5 hp
  have HP : Aside _ := hp
  have HB : Aside (Below w.heap.size w wo) := hbel
  have HBAD : Aside (¬ R) := hbad
  have hBlt := box_lt hp
  have hltz : (i : Int) < (ps.length : Int) := by omega
  have hi0 : (0 : Int) ≤ (i : Int) := by omega
  have hbne : b ≠ wo.heap.size := by omega
  obtain ⟨xw, xi, xn, xc, xe, xa, xl, xo⟩ := x
  have hdB : decide ((i : Int) > 0) = false := decide_eq_false (by omega)
  have hdBn : decide (0 < i) = false := decide_eq_false (by omega)
  dsimp only at d0 d1 d2 d3 d4 d5 d6 d7  hfirst hsome
  have HS : Hid (xc > 9 ∨ xo < 0 ∨ xo > 15 ∨ xe > 4611686018427387903 ∨ xa > 4611686018427387903 ∨ xl > 4611686018427387903) := hsome
  obtain ⟨c0, c1, c2, c3, c4, c5, c6⟩ := hfirst
  have e0 : decide (xw < 1) = false := decide_eq_false c0
  have e1 : decide (xw > 15) = false := decide_eq_false c1
  have f1 : decide (15 < xw) = false := decide_eq_false c1
  have e2 : decide (xi < 1) = false := decide_eq_false c2
  have e3 : decide (xi > 4611686018427387903) = false := decide_eq_false c3
  have f3 : decide (4611686018427387903 < xi) = false := decide_eq_false c3
  have e4 : decide (xn < 1) = false := decide_eq_false c4
  have e5 : decide (xn > 4611686018427387903) = false := decide_eq_false c5
  have f5 : decide (4611686018427387903 < xn) = false := decide_eq_false c5
  have e6 : decide (xc < 0) = false := decide_eq_false c6
  clear c0 c1 c2 c3 c4 c5 c6
  clear hat hok hps hp hbel hbad hsome hx hi
  go_wp2_with fail
  have HP2 : Aside _ := box_mono HP.out (balloc (b1 wo (.cells #[.int .i64 xw, .int .u64 xi, .int .u64 xn, .int .i64 xc, .int .u64 xe, .int .u64 xa, .int .u64 xl, .int .i64 xo] 82)) (.cells #[.int .i64 xc, .int .u64 xe, .int .u64 xa, .int .u64 xl, .int .i64 xo] 63))
  have HX2 : Aside _ := box_mono (heap_top wo (.cells #[.int .i64 xw, .int .u64 xi, .int .u64 xn, .int .i64 xc, .int .u64 xe, .int .u64 xa, .int .u64 xl, .int .i64 xo] 82) _ rfl) (b1 (wo.alloc (.cells #[.int .i64 xw, .int .u64 xi, .int .u64 xn, .int .i64 xc, .int .u64 xe, .int .u64 xa, .int .u64 xl, .int .i64 xo] 82)) (.cells #[.int .i64 xc, .int .u64 xe, .int .u64 xa, .int .u64 xl, .int .i64 xo] 63))
  have HO2 : Aside _ := heap_top (wo.alloc (.cells #[.int .i64 xw, .int .u64 xi, .int .u64 xn, .int .i64 xc, .int .u64 xe, .int .u64 xa, .int .u64 xl, .int .i64 xo] 82)) (.cells #[.int .i64 xc, .int .u64 xe, .int .u64 xa, .int .u64 xl, .int .i64 xo] 63) (wo.heap.size + 1) (by simp)
  have HB2 : Aside (Below w.heap.size w ((wo.alloc (.cells #[.int .i64 xw, .int .u64 xi, .int .u64 xn, .int .i64 xc, .int .u64 xe, .int .u64 xa, .int .u64 xl, .int .i64 xo] 82)).alloc (.cells #[.int .i64 xc, .int .u64 xe, .int .u64 xa, .int .u64 xl, .int .i64 xo] 63))) := balloc (balloc HB.out _) _
  have HBW : Aside (Below wo.heap.size wo ((wo.alloc (.cells #[.int .i64 xw, .int .u64 xi, .int .u64 xn, .int .i64 xc, .int .u64 xe, .int .u64 xa, .int .u64 xl, .int .i64 xo] 82)).alloc (.cells #[.int .i64 xc, .int .u64 xe, .int .u64 xa, .int .u64 xl, .int .i64 xo] 63))) := balloc (b1 _ _) _
  generalize (wo.alloc (.cells #[.int .i64 xw, .int .u64 xi, .int .u64 xn, .int .i64 xc, .int .u64 xe, .int .u64 xa, .int .u64 xl, .int .i64 xo] 82)).alloc (.cells #[.int .i64 xc, .int .u64 xe, .int .u64 xa, .int .u64 xl, .int .i64 xo] 63) = w2 at HP2 HX2 HO2 HB2 HBW ⊢
  clear t0 t1 t2 t3 t4 d0 d1 d2 d3 d4 d5 d6 d7
  obtain ⟨-, -, -, -, t4, -, -, -, -, -⟩ := cells5 HP2.out
  obtain ⟨x0, x1, x2, x3, x4, x5, x6, x7, -, -, -, -, -, -, -, -⟩ := cells8 HX2.out
  obtain ⟨o0, o1, o2, o3, o4, -, -, -, -, -⟩ := cells5 HO2.out
  have bd : ∀ m, Below w2.heap.size w2 (w2.drewN m) := fun m => ⟨rfl, rfl, rfl, Nat.le_refl _, fun _ _ => rfl⟩
  by_cases c7 : xc > 9
  · have e7 : decide (xc > 9) = true := decide_eq_true c7
    have f7 : decide (9 < xc) = true := decide_eq_true c7
    clear c7
    go_quiet (fail)
    go_wp2
    go_ret
    exact tells_no HBAD.out (bthen HB2.out (bd _))
  have e7 : decide (xc > 9) = false := decide_eq_false c7
  have f7 : decide (9 < xc) = false := decide_eq_false c7
  by_cases c8 : xo < 0
  · have e8 : decide (xo < 0) = true := decide_eq_true c8
    clear c8
    go_quiet (fail)
    go_wp2
    go_ret
    exact tells_no HBAD.out (bthen HB2.out (bd _))
  have e8 : decide (xo < 0) = false := decide_eq_false c8
  by_cases c9 : xo > 15
  · have e9 : decide (xo > 15) = true := decide_eq_true c9
    have f9 : decide (15 < xo) = true := decide_eq_true c9
    clear c9
    go_quiet (fail)
    go_wp2
    go_ret
    exact tells_no HBAD.out (bthen HB2.out (bd _))
  have e9 : decide (xo > 15) = false := decide_eq_false c9
  have f9 : decide (15 < xo) = false := decide_eq_false c9
  by_cases c10 : xe > 4611686018427387903
  · have e10 : decide (xe > 4611686018427387903) = true := decide_eq_true c10
    have f10 : decide (4611686018427387903 < xe) = true := decide_eq_true c10
    clear c10
    go_quiet (fail)
    go_wp2
    go_ret
    exact tells_no HBAD.out (bthen HB2.out (bd _))
  have e10 : decide (xe > 4611686018427387903) = false := decide_eq_false c10
  have f10 : decide (4611686018427387903 < xe) = false := decide_eq_false c10
  by_cases c11 : xa > 4611686018427387903
  · have e11 : decide (xa > 4611686018427387903) = true := decide_eq_true c11
    have f11 : decide (4611686018427387903 < xa) = true := decide_eq_true c11
    clear c11
    go_quiet (fail)
    go_wp2
    go_ret
    exact tells_no HBAD.out (bthen HB2.out (bd _))
  have e11 : decide (xa > 4611686018427387903) = false := decide_eq_false c11
  have f11 : decide (4611686018427387903 < xa) = false := decide_eq_false c11
  by_cases c12 : xl > 4611686018427387903
  · have e12 : decide (xl > 4611686018427387903) = true := decide_eq_true c12
    have f12 : decide (4611686018427387903 < xl) = true := decide_eq_true c12
    clear c12
    go_quiet (fail)
    go_wp2
    go_ret
    exact tells_no HBAD.out (bthen HB2.out (bd _))
  have e12 : decide (xl > 4611686018427387903) = false := decide_eq_false c12
  have f12 : decide (4611686018427387903 < xl) = false := decide_eq_false c12
  exact absurd HS.out (by omega)

end Go.Proofs.YtdiamknibfamdaaGreat
