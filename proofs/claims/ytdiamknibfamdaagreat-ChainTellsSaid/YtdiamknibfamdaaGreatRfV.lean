/- The references of layer 7: May. -/
import Derived.Test.YtdiamknibfamdaaGreatRfS
namespace Go.Proofs.YtdiamknibfamdaaGreat
open Go.RowKit Go.Shelf
attribute [local go_sem ↓] Go.wp_at_zero Go.wp_at_succ

set_option maxHeartbeats 8000000 in
set_option maxRecDepth 100000 in
theorem past_loop {R : Prop} {w wk : World} {B : Nat} {K : Act → World → Prop} {b0 b1' b2 b3 : Value} {pa : Option Addr} {pc : Nat} {ps : List Past} {v0 v2 v3 v4 v5 v6 v7 v8 v10 v11 v12 v13 v14 v15 v16 v17 v18 v19 v20 v21 v22 v23 v24 v25 v26 v27 v28 v29 v30 v31 v32 v33 v34 v35 v36 v37 v38 v39 v40 v41 v42 v43 v44 v45 v46 v47 v48 v49 v50 v51 v52 v53 v54 v55 v56 v57 v58 v59 v60 v61 v62 v63 v64 v65 v66 v67 v68 v69 v70 v71 v72 v73 v74 v75 v76 v77 v78 v79 v80 v81 v82 v83 v84 v85 v86 v87 v88 v89 v90 v91 v92 v93 v94 v95 v96 v97 v98 v99 v100 v101 v102 v103 v104 v105 v106 v107 v108 v109 v110 v111 v112 v113 v114 v115 v116 v117 v118 v119 v120 v121 v122 v123 v124 v125 v126 v127 v128 v129 v130 v131 v132 v133 v134 v135 v136 v137 v138 v139 v140 v141 v142 v143 v144 v145 v146 v147 v148 v149 v150 v151 v152 v153 v154 v155 v156 v157 v158 v159 v160 v161 v162 v163 v164 v165 v166 v167 v168 v169 v170 v171 v172 v173 v174 v175 v176 v177 v178 v179 v180 v181 v182 v183 v184 v185 v186 v187 v188 v189 v190 v191 v192 v193 v194 v195 v196 v197 v198 v199 v200 v201 v202 v203 v204 v205 v206 v207 v208 v209 v210 v211 v212 v213 v214 v215 v216 v217 v218 : Value}
    (hK : ∀ a w', Code.wp Tryz.prog tail70 (bodyPost Tryz.prog Tryz.f70 (Tells R w)) a w' → K a w') (hp : wk.heap[B]? = some (.cells #[b0, b1', b2, b3, .slice pa ps.length pc] 27 (0, 0))) (hps : SlOk ePast w ⟨pa, pc, ps⟩) (hbel : Below w.heap.size w wk) (hpl : ps.length ≤ pc) (hpc : pc ≤ 9223372036854775807)
    (hbad : ∀ i, i < ps.length → ¬ PastGood ps i → ¬ R) (hgood : (∀ i, i < ps.length → PastGood ps i) → R) :
    Code.wp Tryz.prog loop70 (Exit.inBlock 8 (Exit.then K (bodyPost Tryz.prog Tryz.f70 (Tells R w)))) ⟨#[v0, .pointer (some ⟨B, 0, none⟩), v2, v3, v4, v5, v6, v7, v8, .int .i64 (0 : Int), v10, v11, v12, v13, v14, v15, v16, v17, v18, v19, v20, v21, v22, v23, v24, v25, v26, v27, v28, v29, v30, v31, v32, v33, v34, v35, v36, v37, v38, v39, v40, v41, v42, v43, v44, v45, v46, v47, v48, v49, v50, v51, v52, v53, v54, v55, v56, v57, v58, v59, v60, v61, v62, v63, v64, v65, v66, v67, v68, v69, v70, v71, v72, v73, v74, v75, v76, v77, v78, v79, v80, v81, v82, v83, v84, v85, v86, v87, v88, v89, v90, v91, v92, v93, v94, v95, v96, v97, v98, v99, v100, v101, v102, v103, v104, v105, v106, v107, v108, v109, v110, v111, v112, v113, v114, v115, v116, v117, v118, v119, v120, v121, v122, v123, v124, v125, v126, v127, v128, v129, v130, v131, v132, v133, v134, v135, v136, v137, v138, v139, v140, v141, v142, v143, v144, v145, v146, v147, v148, v149, v150, v151, v152, v153, v154, v155, v156, v157, v158, v159, v160, v161, v162, v163, v164, v165, v166, v167, v168, v169, v170, v171, v172, v173, v174, v175, v176, v177, v178, v179, v180, v181, v182, v183, v184, v185, v186, v187, v188, v189, v190, v191, v192, v193, v194, v195, v196, v197, v198, v199, v200, v201, v202, v203, v204, v205, v206, v207, v208, v209, v210, v211, v212, v213, v214, v215, v216, v217, v218], []⟩ wk := by
  unfold loop70
  conv => arg 2; whnf
  simp only [List.append_eq, List.cons_append, List.nil_append]
  have HBAD : Aside _ := hbad
  have HGOOD : Aside _ := hgood
  have HPS : Aside _ := hps
  have HP0 : Aside _ := hp
  have HB0 : Aside _ := hbel
  clear hbad hgood hps hp hbel
  go_loopg [9] ps.length (fun gg s9 wr => ∃ i : Nat, i ≤ ps.length ∧ ps.length - i ≤ gg ∧ s9 = .int .i64 i ∧ Aside ((∀ j, j < i → PastGood ps j) ∧ Below w.heap.size w wr ∧ wr.heap[B]? = some (.cells #[b0, b1', b2, b3, .slice pa ps.length pc] 27 (0, 0))))
  case atStart => exact ⟨0, Nat.zero_le _, by omega, rfl, fun j hj => absurd hj (Nat.not_lt_zero _), HB0.out, HP0.out⟩
  case round =>
    obtain ⟨i, hi, hg, rfl, D⟩ := hrel
    obtain ⟨wo, rfl⟩ : ∃ wo : World, wo = wr := ⟨_, rfl⟩
    by_cases hlt : i < ps.length
    · obtain ⟨x, hx⟩ : ∃ x, ps[i]? = some x := ⟨_, List.getElem?_eq_getElem hlt⟩
      have hps := HPS.out.mono D.out.2.1
      by_cases hgd : PastGood ps i
      · have HG : Aside _ := hgd
        have hp := D.out.2.2
        have hbel := D.out.2.1
        have HX : Hid _ := hx
        have hpre : i = 0 ∨ ∃ j : Nat, i = j + 1 := by cases i with
          | zero => exact .inl rfl
          | succ j => exact .inr ⟨j, rfl⟩
        rcases hpre with hi0' | ⟨j, hj⟩
        · have H0 : Hid (i = 0) := hi0'
          obtain ⟨b, off, x', ha, hy, hb, hat, hok⟩ := hps.get (j := i) hlt
          dsimp only at ha hy
          rw [hx] at hy
          cases hy
          obtain ⟨d0, d1, d2, d3, d4, d5, d6, d7⟩ := at_past hat
          simp only [show ePast.k = 8 from rfl] at d0 d1 d2 d3 d4 d5 d6 d7
          cases ha
          obtain ⟨t0, t1, t2, t3, t4, -, -, -, -, -⟩ := cells5 hp
          have HP : Aside _ := hp
          have HB : Aside (Below w.heap.size w wo) := hbel
          have hBlt := box_lt hp
          have hltz : (i : Int) < (ps.length : Int) := by omega
          have hi0 : (0 : Int) ≤ (i : Int) := by omega
          have hbne : b ≠ wo.heap.size := by omega
          obtain ⟨xw, xi, xn, xc, xe, xa, xl, xo⟩ := x
          have hdB : decide ((i : Int) > 0) = false := decide_eq_false (by omega)
          have hdBn : decide (0 < i) = false := decide_eq_false (by omega)
          dsimp only at d0 d1 d2 d3 d4 d5 d6 d7
          have hg1 := (hgd _ hx).1
          dsimp only at hg1
          have e0 : decide (xw < 1) = false := decide_eq_false (by omega)
          have e1 : decide (xw > 15) = false := decide_eq_false (by omega)
          have f1 : decide (15 < xw) = false := decide_eq_false (by omega)
          have e2 : decide (xi < 1) = false := decide_eq_false (by omega)
          have e3 : decide (xi > 4611686018427387903) = false := decide_eq_false (by omega)
          have f3 : decide (4611686018427387903 < xi) = false := decide_eq_false (by omega)
          have e4 : decide (xn < 1) = false := decide_eq_false (by omega)
          have e5 : decide (xn > 4611686018427387903) = false := decide_eq_false (by omega)
          have f5 : decide (4611686018427387903 < xn) = false := decide_eq_false (by omega)
          have e6 : decide (xc < 0) = false := decide_eq_false (by omega)
          have e7 : decide (xc > 9) = false := decide_eq_false (by omega)
          have f7 : decide (9 < xc) = false := decide_eq_false (by omega)
          have e8 : decide (xo < 0) = false := decide_eq_false (by omega)
          have e9 : decide (xo > 15) = false := decide_eq_false (by omega)
          have f9 : decide (15 < xo) = false := decide_eq_false (by omega)
          have e10 : decide (xe > 4611686018427387903) = false := decide_eq_false (by omega)
          have f10 : decide (4611686018427387903 < xe) = false := decide_eq_false (by omega)
          have e11 : decide (xa > 4611686018427387903) = false := decide_eq_false (by omega)
          have f11 : decide (4611686018427387903 < xa) = false := decide_eq_false (by omega)
          have e12 : decide (xl > 4611686018427387903) = false := decide_eq_false (by omega)
          have f12 : decide (4611686018427387903 < xl) = false := decide_eq_false (by omega)
          clear hat hok hps hp hbel hgd hx hg1 hi0'
          go_wp2_with fail
          have HP2 : Aside _ := box_mono HP.out (balloc (b1 wo (.cells #[.int .i64 xw, .int .u64 xi, .int .u64 xn, .int .i64 xc, .int .u64 xe, .int .u64 xa, .int .u64 xl, .int .i64 xo] 82)) (.cells #[.int .i64 xc, .int .u64 xe, .int .u64 xa, .int .u64 xl, .int .i64 xo] 63))
          have HX2 : Aside _ := box_mono (heap_top wo (.cells #[.int .i64 xw, .int .u64 xi, .int .u64 xn, .int .i64 xc, .int .u64 xe, .int .u64 xa, .int .u64 xl, .int .i64 xo] 82) _ rfl) (b1 (wo.alloc (.cells #[.int .i64 xw, .int .u64 xi, .int .u64 xn, .int .i64 xc, .int .u64 xe, .int .u64 xa, .int .u64 xl, .int .i64 xo] 82)) (.cells #[.int .i64 xc, .int .u64 xe, .int .u64 xa, .int .u64 xl, .int .i64 xo] 63))
          have HO2 : Aside _ := heap_top (wo.alloc (.cells #[.int .i64 xw, .int .u64 xi, .int .u64 xn, .int .i64 xc, .int .u64 xe, .int .u64 xa, .int .u64 xl, .int .i64 xo] 82)) (.cells #[.int .i64 xc, .int .u64 xe, .int .u64 xa, .int .u64 xl, .int .i64 xo] 63) (wo.heap.size + 1) (by simp)
          have HB2 : Aside (Below w.heap.size w ((wo.alloc (.cells #[.int .i64 xw, .int .u64 xi, .int .u64 xn, .int .i64 xc, .int .u64 xe, .int .u64 xa, .int .u64 xl, .int .i64 xo] 82)).alloc (.cells #[.int .i64 xc, .int .u64 xe, .int .u64 xa, .int .u64 xl, .int .i64 xo] 63))) := balloc (balloc HB.out _) _
          have HBW : Aside (Below wo.heap.size wo ((wo.alloc (.cells #[.int .i64 xw, .int .u64 xi, .int .u64 xn, .int .i64 xc, .int .u64 xe, .int .u64 xa, .int .u64 xl, .int .i64 xo] 82)).alloc (.cells #[.int .i64 xc, .int .u64 xe, .int .u64 xa, .int .u64 xl, .int .i64 xo] 63))) := balloc (b1 _ _) _
          generalize (wo.alloc (.cells #[.int .i64 xw, .int .u64 xi, .int .u64 xn, .int .i64 xc, .int .u64 xe, .int .u64 xa, .int .u64 xl, .int .i64 xo] 82)).alloc (.cells #[.int .i64 xc, .int .u64 xe, .int .u64 xa, .int .u64 xl, .int .i64 xo] 63) = w2 at HP2 HX2 HO2 HB2 HBW ⊢
          clear t0 t1 t2 t3 t4 d0 d1 d2 d3 d4 d5 d6 d7
          obtain ⟨-, -, -, -, t4, -, -, -, -, -⟩ := cells5 HP2.out
          obtain ⟨x0, x1, x2, x3, x4, x5, x6, x7, -, -, -, -, -, -, -, -⟩ := cells8 HX2.out
          obtain ⟨o0, o1, o2, o3, o4, -, -, -, -, -⟩ := cells5 HO2.out
          have bd : ∀ m, Below w2.heap.size w2 (w2.drewN m) := fun m => ⟨rfl, rfl, rfl, Nat.le_refl _, fun _ _ => rfl⟩
          go_quiet (fail)
          go_wp2
          go_roundg (ps.length - (i + 1))
          case measure => omega
          case rel =>
            refine ⟨i + 1, by omega, by omega, by go_num, fun j' hj' => ?_, bthen HB2.out (bd _), box_mono HP2.out (bd _)⟩
            by_cases he : j' = i
            · rw [he]; exact HG.out
            · exact D.out.1 j' (by have := H0.out; omega)
        · have HJ : Hid (i = j + 1) := hj
          obtain ⟨y, hy⟩ : ∃ y, ps[j]? = some y := ⟨_, List.getElem?_eq_getElem (show j < ps.length by omega)⟩
          have HYJ : Hid _ := hy
          obtain ⟨b, off, x', ha, hy, hb, hat, hok⟩ := hps.get (j := i) hlt
          dsimp only at ha hy
          rw [hx] at hy
          cases hy
          obtain ⟨d0, d1, d2, d3, d4, d5, d6, d7⟩ := at_past hat
          simp only [show ePast.k = 8 from rfl] at d0 d1 d2 d3 d4 d5 d6 d7
          cases ha
          obtain ⟨t0, t1, t2, t3, t4, -, -, -, -, -⟩ := cells5 hp
          have HP : Aside _ := hp
          have HB : Aside (Below w.heap.size w wo) := hbel
          have hBlt := box_lt hp
          have hltz : (i : Int) < (ps.length : Int) := by omega
          have hi0 : (0 : Int) ≤ (i : Int) := by omega
          have hbne : b ≠ wo.heap.size := by omega
          obtain ⟨b7, o7, y', ha7, hy7, hb7, hat7, _⟩ := hps.get (j := j) (show j < ps.length by omega)
          dsimp only at ha7 hy7
          rw [hy] at hy7
          cases hy7
          cases ha7
          obtain ⟨y0, -⟩ := at_past hat7
          simp only [show ePast.k = 8 from rfl] at y0
          have hij2 : IntKind.i64.wrap ((i : Int) - 1) = (j : Int) := by rw [wrap_i64 (by omega) (by omega)]; omega
          have hj0 : (0 : Int) ≤ (j : Int) := by omega
          have hjl : (j : Int) < (ps.length : Int) := by omega
          obtain ⟨yw, yi, yn, yc, ye, ya, yl, yo⟩ := y
          obtain ⟨xw, xi, xn, xc, xe, xa, xl, xo⟩ := x
          have hdB : decide ((i : Int) > 0) = true := decide_eq_true (by omega)
          have hdBn : decide (0 < i) = true := decide_eq_true (by omega)
          dsimp only at d0 d1 d2 d3 d4 d5 d6 d7 y0
          have hg1 := (hgd _ hx).1
          have hg2 := (hgd _ hx).2 j _ hj.symm hy
          dsimp only at hg1 hg2
          have e0 : decide (xw < 1) = false := decide_eq_false (by omega)
          have e1 : decide (xw > 15) = false := decide_eq_false (by omega)
          have f1 : decide (15 < xw) = false := decide_eq_false (by omega)
          have e2 : decide (xw ≤ yw) = false := decide_eq_false (by omega)
          have e3 : decide (xi < 1) = false := decide_eq_false (by omega)
          have e4 : decide (xi > 4611686018427387903) = false := decide_eq_false (by omega)
          have f4 : decide (4611686018427387903 < xi) = false := decide_eq_false (by omega)
          have e5 : decide (xn < 1) = false := decide_eq_false (by omega)
          have e6 : decide (xn > 4611686018427387903) = false := decide_eq_false (by omega)
          have f6 : decide (4611686018427387903 < xn) = false := decide_eq_false (by omega)
          have e7 : decide (xc < 0) = false := decide_eq_false (by omega)
          have e8 : decide (xc > 9) = false := decide_eq_false (by omega)
          have f8 : decide (9 < xc) = false := decide_eq_false (by omega)
          have e9 : decide (xo < 0) = false := decide_eq_false (by omega)
          have e10 : decide (xo > 15) = false := decide_eq_false (by omega)
          have f10 : decide (15 < xo) = false := decide_eq_false (by omega)
          have e11 : decide (xe > 4611686018427387903) = false := decide_eq_false (by omega)
          have f11 : decide (4611686018427387903 < xe) = false := decide_eq_false (by omega)
          have e12 : decide (xa > 4611686018427387903) = false := decide_eq_false (by omega)
          have f12 : decide (4611686018427387903 < xa) = false := decide_eq_false (by omega)
          have e13 : decide (xl > 4611686018427387903) = false := decide_eq_false (by omega)
          have f13 : decide (4611686018427387903 < xl) = false := decide_eq_false (by omega)
          clear hat hok hps hp hbel hgd hx hg1 hj hy hat7 hg2
          go_wp2_with fail
          have HP2 : Aside _ := box_mono HP.out (balloc (b1 wo (.cells #[.int .i64 xw, .int .u64 xi, .int .u64 xn, .int .i64 xc, .int .u64 xe, .int .u64 xa, .int .u64 xl, .int .i64 xo] 82)) (.cells #[.int .i64 xc, .int .u64 xe, .int .u64 xa, .int .u64 xl, .int .i64 xo] 63))
          have HX2 : Aside _ := box_mono (heap_top wo (.cells #[.int .i64 xw, .int .u64 xi, .int .u64 xn, .int .i64 xc, .int .u64 xe, .int .u64 xa, .int .u64 xl, .int .i64 xo] 82) _ rfl) (b1 (wo.alloc (.cells #[.int .i64 xw, .int .u64 xi, .int .u64 xn, .int .i64 xc, .int .u64 xe, .int .u64 xa, .int .u64 xl, .int .i64 xo] 82)) (.cells #[.int .i64 xc, .int .u64 xe, .int .u64 xa, .int .u64 xl, .int .i64 xo] 63))
          have HO2 : Aside _ := heap_top (wo.alloc (.cells #[.int .i64 xw, .int .u64 xi, .int .u64 xn, .int .i64 xc, .int .u64 xe, .int .u64 xa, .int .u64 xl, .int .i64 xo] 82)) (.cells #[.int .i64 xc, .int .u64 xe, .int .u64 xa, .int .u64 xl, .int .i64 xo] 63) (wo.heap.size + 1) (by simp)
          have HB2 : Aside (Below w.heap.size w ((wo.alloc (.cells #[.int .i64 xw, .int .u64 xi, .int .u64 xn, .int .i64 xc, .int .u64 xe, .int .u64 xa, .int .u64 xl, .int .i64 xo] 82)).alloc (.cells #[.int .i64 xc, .int .u64 xe, .int .u64 xa, .int .u64 xl, .int .i64 xo] 63))) := balloc (balloc HB.out _) _
          have HBW : Aside (Below wo.heap.size wo ((wo.alloc (.cells #[.int .i64 xw, .int .u64 xi, .int .u64 xn, .int .i64 xc, .int .u64 xe, .int .u64 xa, .int .u64 xl, .int .i64 xo] 82)).alloc (.cells #[.int .i64 xc, .int .u64 xe, .int .u64 xa, .int .u64 xl, .int .i64 xo] 63))) := balloc (b1 _ _) _
          generalize (wo.alloc (.cells #[.int .i64 xw, .int .u64 xi, .int .u64 xn, .int .i64 xc, .int .u64 xe, .int .u64 xa, .int .u64 xl, .int .i64 xo] 82)).alloc (.cells #[.int .i64 xc, .int .u64 xe, .int .u64 xa, .int .u64 xl, .int .i64 xo] 63) = w2 at HP2 HX2 HO2 HB2 HBW ⊢
          clear t0 t1 t2 t3 t4 d0 d1 d2 d3 d4 d5 d6 d7
          obtain ⟨-, -, -, -, t4, -, -, -, -, -⟩ := cells5 HP2.out
          obtain ⟨x0, x1, x2, x3, x4, x5, x6, x7, -, -, -, -, -, -, -, -⟩ := cells8 HX2.out
          obtain ⟨o0, o1, o2, o3, o4, -, -, -, -, -⟩ := cells5 HO2.out
          have y0 := (HBW.out.cell (p := ⟨b, off + j * 8, none⟩) hb).trans y0
          have bd : ∀ m, Below w2.heap.size w2 (w2.drewN m) := fun m => ⟨rfl, rfl, rfl, Nat.le_refl _, fun _ _ => rfl⟩
          go_quiet (fail)
          go_wp2
          go_roundg (ps.length - (i + 1))
          case measure => omega
          case rel =>
            refine ⟨i + 1, by omega, by omega, by go_num, fun j' hj' => ?_, bthen HB2.out (bd _), box_mono HP2.out (bd _)⟩
            by_cases he : j' = i
            · rw [he]; exact HG.out
            · exact D.out.1 j' (by have := HJ.out; omega)
      · have hbad := HBAD.out i hlt hgd
        have hp := D.out.2.2
        have hbel := D.out.2.1
        have hpre : i = 0 ∨ ∃ j : Nat, i = j + 1 := by cases i with
          | zero => exact .inl rfl
          | succ j => exact .inr ⟨j, rfl⟩
        rcases hpre with h0 | ⟨j, hj⟩
        · by_cases hf : ¬ x.who < 1 ∧ ¬ x.who > 15 ∧ ¬ x.inc < 1 ∧ ¬ x.inc > 4611686018427387903 ∧ ¬ x.n < 1 ∧ ¬ x.n > 4611686018427387903 ∧ ¬ x.out.code < 0
          · refine past_no0b hp hps hbel hpl hpc hlt hx h0 hbad hf ?_
            refine Classical.byContradiction fun hn => hgd ?_
            intro x' hx'
            rw [hx] at hx'
            cases hx'
            exact ⟨by omega, fun j y h => by omega⟩
          · exact past_no0a hp hps hbel hpl hpc hlt hx h0 hbad (by omega)
        · obtain ⟨y, hy⟩ : ∃ y, ps[j]? = some y := ⟨_, List.getElem?_eq_getElem (show j < ps.length by omega)⟩
          by_cases hf : ¬ x.who < 1 ∧ ¬ x.who > 15 ∧ ¬ x.who ≤ y.who ∧ ¬ x.inc < 1 ∧ ¬ x.inc > 4611686018427387903 ∧ ¬ x.n < 1 ∧ ¬ x.n > 4611686018427387903
          · refine past_noSb hp hps hbel hpl hpc hlt hx hj hy hbad hf ?_
            refine Classical.byContradiction fun hn => hgd ?_
            intro x' hx'
            rw [hx] at hx'
            cases hx'
            refine ⟨by omega, fun j' y' h h2 => ?_⟩
            obtain rfl : j' = j := by omega
            rw [hy] at h2
            cases h2
            omega
          · exact past_noSa hp hps hbel hpl hpc hlt hx hj hy hbad (by omega)
    · have hltz : ¬ (i : Int) < (ps.length : Int) := by omega
      obtain ⟨-, -, -, -, t4, -, -, -, -, -⟩ := cells5 D.out.2.2
      go_wp2
      unfold tail70
      conv => arg 2; whnf
      go_wp2
      go_ret
      exact tells_yes (HGOOD.out fun j hj => D.out.1 j (by omega)) D.out.2.1
end Go.Proofs.YtdiamknibfamdaaGreat
