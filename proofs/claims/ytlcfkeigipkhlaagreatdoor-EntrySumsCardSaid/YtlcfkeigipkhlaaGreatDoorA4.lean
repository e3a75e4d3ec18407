/- The program's code of the functions that are met, in words that the abstract machine carries out; each is shown to be the given code by the kernel. Printed by a program of mine. -/
import Derived.Test.YtlcfkeigipkhlaaGreatDoorW0
import Derived.Test.YtlcfkeigipkhlaaGreatDoorProg
set_option linter.unusedVariables false
set_option linter.defProp false
namespace Go.Proofs.YtlcfkeigipkhlaaGreatDoorAbs
open Go Go.Proofs
variable (call : FuncId → List AV → M) (n : Nat) (r : List AV) (K : AExit → List AV → M) (H : Heap)
variable (v0 v1 v2 v3 v4 v5 v6 v7 v8 v9 v10 v11 v12 v13 v14 v15 v16 v17 v18 v19 v20 v21 v22 v23 v24 v25 v26 v27 v28 v29 : AV)
variable (v30 v31 v32 v33 v34 v35 v36 v37 v38 v39 v40 v41 v42 v43 v44 v45 v46 v47 v48 v49 v50 v51 v52 v53 v54 v55 v56 v57 v58 v59 : AV)
variable (v60 v61 v62 v63 v64 v65 v66 v67 v68 v69 v70 v71 v72 v73 v74 v75 v76 v77 v78 v79 v80 v81 v82 v83 v84 v85 v86 v87 v88 v89 : AV)
variable (v90 v91 v92 v93 v94 v95 v96 v97 v98 v99 v100 v101 v102 v103 v104 v105 v106 v107 v108 v109 v110 v111 v112 v113 v114 v115 v116 v117 v118 v119 : AV)
variable (v120 v121 v122 v123 v124 v125 v126 v127 v128 v129 v130 v131 v132 v133 v134 v135 v136 v137 v138 v139 v140 v141 v142 v143 v144 v145 v146 v147 v148 v149 : AV)
variable (v150 v151 v152 v153 v154 v155 v156 v157 v158 v159 v160 v161 v162 v163 v164 v165 v166 v167 v168 v169 v170 v171 v172 v173 v174 v175 v176 v177 v178 v179 : AV)
variable (v180 v181 v182 v183 v184 v185 v186 v187 v188 v189 v190 v191 v192 v193 v194 v195 v196 v197 v198 v199 v200 v201 v202 v203 v204 v205 v206 v207 v208 v209 : AV)
variable (v210 v211 v212 v213 v214 v215 v216 v217 v218 v219 v220 v221 v222 v223 v224 v225 v226 v227 v228 v229 v230 v231 v232 v233 v234 v235 v236 v237 v238 v239 : AV)
/-! ### 54 transposal/wide.Add -/
noncomputable def c54_0 : Code := (Tryz.f54.body).getD .skip
noncomputable def c54_1 : Code := csnd c54_0
noncomputable def c54_2 : Code := csnd c54_1
noncomputable def c54_3 : Code := csnd c54_2
noncomputable def c54_4 : Code := cfst c54_3
noncomputable def c54_5 : Code := csnd c54_4
noncomputable def c54_6 : Code := cfst c54_5
noncomputable def g54_6 := codeA Tryz.prog call n c54_6 .nil
theorem q54_6 : g54_6 call n (rg 29 [(4, v4), (5, v5), (6, v6), (22, v22)]) K H = (
  mvK (nj v6) fun x23 =>
  binK (nj x23) (some (.int .u64 1)) Tryz.prog .add 37 (.tmp 23) (.const (.int .u64 1)) fun x24 =>
  mvK (nj x24) fun x6 =>
  K .norm (rg 29 [(4, v4), (5, v5), (6, x6), (22, v22), (23, x23), (24, x24)])) H := regP (by kernel_rfl) (by kernel_rfl)
noncomputable def c54_7 : Code := csnd c54_5
noncomputable def g54_7 := codeA Tryz.prog call n c54_7 .nil
theorem q54_7 : g54_7 call n r K H = K .norm r H := by kernel_rfl
noncomputable def a54_5 : Ann := .two none .nil .nil
noncomputable def g54_5 := codeA Tryz.prog call n c54_5 a54_5
theorem q54_5 : g54_5 call n (rg 29 [(4, v4), (5, v5), (6, v6), (22, v22)]) K H = cndK (nj v22) (g54_6 call n (rg 29 [(4, v4), (5, v5), (6, v6), (22, v22)]) K) (g54_7 call n (rg 29 [(4, v4), (5, v5), (6, v6), (22, v22)]) K) H := by kernel_rfl
noncomputable def a54_4 : Ann := .two (some 4194416) .nil a54_5
noncomputable def g54_4 := codeA Tryz.prog call n c54_4 a54_4
theorem q54_4 : g54_4 call n (rg 29 [(2, v2), (4, v4), (5, v5), (6, v6)]) K H = (
  mvK (nj v5) fun x19 =>
  fldK (nj v2) 1 fun x20 =>
  ld1K (nj x20) fun x21 =>
  binK (nj x19) (nj x21) Tryz.prog .lss 37 (.tmp 19) (.tmp 21) fun x22 =>
  g54_5 call n (rg 29 [(4, v4), (5, v5), (6, v6), (22, x22)]) K) H := seqP (cfst c54_4) c54_5 (by kernel_rfl) (by kernel_rfl)
noncomputable def c54_8 : Code := csnd c54_3
noncomputable def c54_9 : Code := csnd c54_8
noncomputable def g54_9 := codeA Tryz.prog call n c54_9 .nil
theorem q54_9 : g54_9 call n r K H = K .ret r H := by kernel_rfl
noncomputable def a54_8 : Ann := .two (some 16) .nil .nil
noncomputable def g54_8 := codeA Tryz.prog call n c54_8 a54_8
theorem q54_8 : g54_8 call n (rg 29 [(4, v4), (5, v5), (6, v6)]) K H = (
  mvK (nj v6) fun x25 =>
  cnvZ (nj x25) .i64 fun x26 =>
  mvK (nj v5) fun x27 =>
  bldZ [(0, 1), (1, 1)] [(.int .i64 0), (.int .u64 0)] [(0, (nj x26)), (1, (nj x27))] fun x28 =>
  stK (nj v4) (nj x28) 2 fun _ =>
  g54_9 call n (rg 29 [(4, v4)]) K) H := seqP (cfst c54_8) c54_9 (by kernel_rfl) (by kernel_rfl)
noncomputable def a54_3 : Ann := .two (some 112) a54_4 a54_8
noncomputable def g54_3 := codeA Tryz.prog call n c54_3 a54_3
theorem q54_3 : g54_3 call n r K H = g54_4 call n r (seqK (fun r => g54_8 call n (keepA (some 112) r) K) K) H := by kernel_rfl
noncomputable def a54_2 : Ann := .two (some 116) .nil a54_3
noncomputable def g54_2 := codeA Tryz.prog call n c54_2 a54_2
theorem q54_2 : g54_2 call n (rg 29 [(2, v2), (3, v3), (4, v4), (5, v5)]) K H = (
  fldK (nj v2) 0 fun x12 =>
  ld1K (nj x12) fun x13 =>
  cnvZ (nj x13) .u64 fun x14 =>
  fldK (nj v3) 0 fun x15 =>
  ld1K (nj x15) fun x16 =>
  cnvZ (nj x16) .u64 fun x17 =>
  binK (nj x14) (nj x17) Tryz.prog .add 37 (.tmp 14) (.tmp 17) fun x18 =>
  mvK (nj x18) fun x6 =>
  g54_3 call n (rg 29 [(2, v2), (4, v4), (5, v5), (6, x6)]) K) H := seqP (cfst c54_2) c54_3 (by kernel_rfl) (by kernel_rfl)
noncomputable def a54_1 : Ann := .two (some 60) .nil a54_2
noncomputable def g54_1 := codeA Tryz.prog call n c54_1 a54_1
theorem q54_1 : g54_1 call n (rg 29 [(2, v2), (3, v3), (4, v4)]) K H = (
  fldK (nj v2) 1 fun x7 =>
  ld1K (nj x7) fun x8 =>
  fldK (nj v3) 1 fun x9 =>
  ld1K (nj x9) fun x10 =>
  binK (nj x8) (nj x10) Tryz.prog .add 37 (.tmp 8) (.tmp 10) fun x11 =>
  mvK (nj x11) fun x5 =>
  g54_2 call n (rg 29 [(2, v2), (3, v3), (4, v4), (5, x5)]) K) H := seqP (cfst c54_1) c54_2 (by kernel_rfl) (by kernel_rfl)
noncomputable def a54_0 : Ann := .two (some 28) .nil a54_1
noncomputable def g54_0 := codeA Tryz.prog call n c54_0 a54_0
theorem q54_0 : g54_0 call n (rg 29 [(0, v0), (1, v1)]) K H = (
  boxK (nj v0) 41 fun x2 =>
  boxK (nj v1) 41 fun x3 =>
  alcK 41 [(.int .i64 0), (.int .u64 0)] fun x4 =>
  g54_1 call n (rg 29 [(2, x2), (3, x3), (4, x4)]) K) H := seqP (cfst c54_0) c54_1 (by kernel_rfl) (by kernel_rfl)
theorem ret54 (l : List (Nat × AV)) : retK Tryz.prog Tryz.f54 .ret (rg 29 l) H = ofO (resO [((nj (getL l 4)).bind fun a => ldA 2 a H)]) (fun v => .ret (v, H)) := by kernel_rfl
theorem ent54 (L : Lib) (hs : L.sum 54 = none) (ha : L.ann 54 = a54_0) : callA Tryz.prog L (n + 1) 54 [v0, v1] H = g54_0 (callA Tryz.prog L n) n (rg 29 [(0, v0), (1, v1)]) (retK Tryz.prog Tryz.f54) H := entP hs Tryz.func54 ha (by kernel_rfl)
def w54 := And.intro @q54_6 <| And.intro @q54_7 <| And.intro @q54_5 <| And.intro @q54_4 <| And.intro @q54_9 <| And.intro @q54_8 <| And.intro @q54_3 <| And.intro @q54_2 <| And.intro @q54_1 <| And.intro @q54_0 <| @ret54


/-! ### 55 transposal/wide.Of -/
noncomputable def c55_0 : Code := (Tryz.f55.body).getD .skip
noncomputable def c55_1 : Code := csnd c55_0
noncomputable def c55_2 : Code := csnd c55_1
noncomputable def g55_2 := codeA Tryz.prog call n c55_2 .nil
theorem q55_2 : g55_2 call n r K H = K .ret r H := by kernel_rfl
noncomputable def a55_1 : Ann := .two (some 4) .nil .nil
noncomputable def g55_1 := codeA Tryz.prog call n c55_1 a55_1
theorem q55_1 : g55_1 call n (rg 8 [(0, v0), (2, v2)]) K H = (
  mvK (nj v0) fun x3 =>
  binK (nj x3) (some (.int .u64 63)) Tryz.prog .shr 2 (.tmp 3) (.const (.int .u64 63)) fun x4 =>
  mvK (nj v0) fun x5 =>
  cnvZ (nj x5) .u64 fun x6 =>
  bldZ [(0, 1), (1, 1)] [(.int .i64 0), (.int .u64 0)] [(0, (nj x4)), (1, (nj x6))] fun x7 =>
  stK (nj v2) (nj x7) 2 fun _ =>
  g55_2 call n (rg 8 [(2, v2)]) K) H := seqP (cfst c55_1) c55_2 (by kernel_rfl) (by kernel_rfl)
noncomputable def a55_0 : Ann := .two (some 5) .nil a55_1
noncomputable def g55_0 := codeA Tryz.prog call n c55_0 a55_0
theorem q55_0 : g55_0 call n (rg 8 [(0, v0)]) K H = (
  alcK 41 [(.int .i64 0), (.int .u64 0)] fun x2 =>
  g55_1 call n (rg 8 [(0, v0), (2, x2)]) K) H := seqP (cfst c55_0) c55_1 (by kernel_rfl) (by kernel_rfl)
theorem ret55 (l : List (Nat × AV)) : retK Tryz.prog Tryz.f55 .ret (rg 8 l) H = ofO (resO [((nj (getL l 2)).bind fun a => ldA 2 a H)]) (fun v => .ret (v, H)) := by kernel_rfl
theorem ent55 (L : Lib) (hs : L.sum 55 = none) (ha : L.ann 55 = a55_0) : callA Tryz.prog L (n + 1) 55 [v0] H = g55_0 (callA Tryz.prog L n) n (rg 8 [(0, v0)]) (retK Tryz.prog Tryz.f55) H := entP hs Tryz.func55 ha (by kernel_rfl)
def w55 := And.intro @q55_2 <| And.intro @q55_1 <| And.intro @q55_0 <| @ret55


/-! ### 56 transposal/transposalref01.Add -/
noncomputable def c56_0 : Code := (Tryz.f56.body).getD .skip
noncomputable def c56_1 : Code := csnd c56_0
noncomputable def c56_2 : Code := csnd c56_1
noncomputable def c56_3 : Code := csnd c56_2
noncomputable def c56_4 : Code := cfst c56_3
noncomputable def c56_5 : Code := csnd c56_4
noncomputable def c56_6 : Code := cfst c56_5
noncomputable def c56_7 : Code := cfst c56_6
noncomputable def c56_8 : Code := cfst c56_7
noncomputable def c56_9 : Code := csnd c56_8
noncomputable def c56_10 : Code := cfst c56_9
noncomputable def g56_10 := codeA Tryz.prog call n c56_10 .nil
theorem q56_10 : g56_10 call n r K H = K .norm r H := by kernel_rfl
noncomputable def c56_11 : Code := csnd c56_9
noncomputable def g56_11 := codeA Tryz.prog call n c56_11 .nil
theorem q56_11 : g56_11 call n r K H = K (.exit 0) r H := by kernel_rfl
noncomputable def a56_9 : Ann := .two none .nil .nil
noncomputable def g56_9 := codeA Tryz.prog call n c56_9 a56_9
theorem q56_9 : g56_9 call n (rg 29 [(2, v2), (3, v3), (4, v4), (5, v5), (6, v6), (7, v7), (10, v10)]) K H = cndK (nj v10) (g56_10 call n (rg 29 [(2, v2), (3, v3), (4, v4), (5, v5), (6, v6), (7, v7), (10, v10)]) K) (g56_11 call n (rg 29 [(2, v2), (3, v3), (4, v4), (5, v5), (6, v6), (7, v7), (10, v10)]) K) H := by kernel_rfl
noncomputable def a56_8 : Ann := .two (some 1276) .nil a56_9
noncomputable def g56_8 := codeA Tryz.prog call n c56_8 a56_8
theorem q56_8 : g56_8 call n (rg 29 [(2, v2), (3, v3), (4, v4), (5, v5), (6, v6), (7, v7)]) K H = (
  mvK (nj v7) fun x9 =>
  binK (nj x9) (some (.int .i64 128)) Tryz.prog .lss 3 (.tmp 9) (.const (.int .i64 128)) fun x10 =>
  g56_9 call n (rg 29 [(2, v2), (3, v3), (4, v4), (5, v5), (6, v6), (7, v7), (10, x10)]) K) H := seqP (cfst c56_8) c56_9 (by kernel_rfl) (by kernel_rfl)
noncomputable def c56_12 : Code := csnd c56_7
noncomputable def c56_13 : Code := cfst c56_12
noncomputable def c56_14 : Code := cfst c56_13
noncomputable def c56_15 : Code := csnd c56_14
noncomputable def c56_16 : Code := csnd c56_15
noncomputable def g56_16 := codeA Tryz.prog call n c56_16 .nil
theorem q56_16 : g56_16 call n (rg 29 [(2, v2), (3, v3), (4, v4), (5, v5), (7, v7), (8, v8)]) K H = (
  mvK (nj v8) fun x26 =>
  binK (nj x26) (some (.int .i64 2)) Tryz.prog .quo 3 (.tmp 26) (.const (.int .i64 2)) fun x27 =>
  mvK (nj x27) fun x6 =>
  K .norm (rg 29 [(2, v2), (3, v3), (4, v4), (5, v5), (6, x6), (7, v7), (8, v8), (26, x26), (27, x27)])) H := regP (by kernel_rfl) (by kernel_rfl)
noncomputable def a56_15 : Ann := .two (some 444) .nil .nil
noncomputable def g56_15 := codeA Tryz.prog call n c56_15 a56_15
theorem q56_15 : g56_15 call n (rg 29 [(2, v2), (3, v3), (4, v4), (5, v5), (7, v7), (8, v8)]) K H = (
  mvK (nj v7) fun x22 =>
  mvK (nj v8) fun x23 =>
  binK (nj x23) (some (.int .i64 2)) Tryz.prog .rem 3 (.tmp 23) (.const (.int .i64 2)) fun x24 =>
  idxY (nj v5) (nj x22) 128 1 fun x25 =>
  stK (nj x25) (nj x24) 1 fun _ =>
  g56_16 call n (rg 29 [(2, v2), (3, v3), (4, v4), (5, v5), (7, v7), (8, v8)]) K) H := seqP (cfst c56_15) c56_16 (by kernel_rfl) (by kernel_rfl)
noncomputable def a56_14 : Ann := .two (some 444) .nil a56_15
noncomputable def g56_14 := codeA Tryz.prog call n c56_14 a56_14
theorem q56_14 : g56_14 call n (rg 29 [(2, v2), (3, v3), (4, v4), (5, v5), (6, v6), (7, v7)]) K H = (
  mvK (nj v7) fun x13 =>
  idxY (nj v2) (nj x13) 128 1 fun x14 =>
  ld1K (nj x14) fun x15 =>
  mvK (nj v7) fun x16 =>
  idxY (nj v3) (nj x16) 128 1 fun x17 =>
  ld1K (nj x17) fun x18 =>
  binK (nj x15) (nj x18) Tryz.prog .add 3 (.tmp 15) (.tmp 18) fun x19 =>
  mvK (nj v6) fun x20 =>
  binK (nj x19) (nj x20) Tryz.prog .add 3 (.tmp 19) (.tmp 20) fun x21 =>
  mvK (nj x21) fun x8 =>
  g56_15 call n (rg 29 [(2, v2), (3, v3), (4, v4), (5, v5), (7, v7), (8, x8)]) K) H := seqP (cfst c56_14) c56_15 (by kernel_rfl) (by kernel_rfl)
noncomputable def g56_13 := codeA Tryz.prog call n c56_13 a56_14
theorem q56_13 : g56_13 call n r K H = g56_14 call n r (blkK 1 K) H := by kernel_rfl
noncomputable def c56_17 : Code := csnd c56_12
noncomputable def g56_17 := codeA Tryz.prog call n c56_17 .nil
theorem q56_17 : g56_17 call n (rg 29 [(2, v2), (3, v3), (4, v4), (5, v5), (6, v6), (7, v7)]) K H = (
  mvK (nj v7) fun x11 =>
  binK (nj x11) (some (.int .i64 1)) Tryz.prog .add 3 (.tmp 11) (.const (.int .i64 1)) fun x12 =>
  mvK (nj x12) fun x7 =>
  K .norm (rg 29 [(2, v2), (3, v3), (4, v4), (5, v5), (6, v6), (7, x7), (11, x11), (12, x12)])) H := regP (by kernel_rfl) (by kernel_rfl)
noncomputable def a56_12 : Ann := .two (some 252) a56_14 .nil
noncomputable def g56_12 := codeA Tryz.prog call n c56_12 a56_12
theorem q56_12 : g56_12 call n r K H = g56_13 call n r (seqK (fun r => g56_17 call n (keepA (some 252) r) K) K) H := by kernel_rfl
noncomputable def a56_7 : Ann := .two (some 252) a56_8 a56_12
noncomputable def g56_7 := codeA Tryz.prog call n c56_7 a56_7
theorem q56_7 : g56_7 call n r K H = g56_8 call n r (seqK (fun r => g56_12 call n (keepA (some 252) r) K) K) H := by kernel_rfl
noncomputable def a56_6 : Ann := .two (some 252) a56_7 .nil
noncomputable def g56_6 := codeA Tryz.prog call n c56_6 a56_6
-- loop: registers [2, 3, 4, 5, 6, 7]
theorem q56_6 : g56_6 call n r K H = loopA (g56_7 call n) (some 252) n r K H := by kernel_rfl
noncomputable def g56_5 := codeA Tryz.prog call n c56_5 a56_6
theorem q56_5 : g56_5 call n r K H = g56_6 call n r (blkK 0 K) H := by kernel_rfl
noncomputable def a56_4 : Ann := .two (some 252) .nil a56_6
noncomputable def g56_4 := codeA Tryz.prog call n c56_4 a56_4
theorem q56_4 : g56_4 call n (rg 29 [(2, v2), (3, v3), (4, v4), (5, v5), (6, v6)]) K H = (
  mvK (some (.int .i64 0)) fun x7 =>
  g56_5 call n (rg 29 [(2, v2), (3, v3), (4, v4), (5, v5), (6, v6), (7, x7)]) K) H := seqP (cfst c56_4) c56_5 (by kernel_rfl) (by kernel_rfl)
noncomputable def c56_18 : Code := csnd c56_3
noncomputable def c56_19 : Code := csnd c56_18
noncomputable def g56_19 := codeA Tryz.prog call n c56_19 .nil
theorem q56_19 : g56_19 call n r K H = K .ret r H := by kernel_rfl
noncomputable def a56_18 : Ann := .two (some 16) .nil .nil
noncomputable def g56_18 := codeA Tryz.prog call n c56_18 a56_18
theorem q56_18 : g56_18 call n (rg 29 [(4, v4), (5, v5)]) K H = (
  ldK (nj v5) 128 fun x28 =>
  stK (nj v4) (nj x28) 128 fun _ =>
  g56_19 call n (rg 29 [(4, v4)]) K) H := seqP (cfst c56_18) c56_19 (by kernel_rfl) (by kernel_rfl)
noncomputable def a56_3 : Ann := .two (some 48) a56_4 a56_18
noncomputable def g56_3 := codeA Tryz.prog call n c56_3 a56_3
theorem q56_3 : g56_3 call n r K H = g56_4 call n r (seqK (fun r => g56_18 call n (keepA (some 48) r) K) K) H := by kernel_rfl
noncomputable def a56_2 : Ann := .two (some 124) .nil a56_3
noncomputable def g56_2 := codeA Tryz.prog call n c56_2 a56_2
theorem q56_2 : g56_2 call n (rg 29 [(2, v2), (3, v3), (4, v4), (5, v5)]) K H = (
  mvK (some (.int .i64 0)) fun x6 =>
  g56_3 call n (rg 29 [(2, v2), (3, v3), (4, v4), (5, v5), (6, x6)]) K) H := seqP (cfst c56_2) c56_3 (by kernel_rfl) (by kernel_rfl)
noncomputable def a56_1 : Ann := .two (some 60) .nil a56_2
noncomputable def g56_1 := codeA Tryz.prog call n c56_1 a56_1
theorem q56_1 : g56_1 call n (rg 29 [(2, v2), (3, v3), (4, v4)]) K H = (
  alcK 36 (List.replicate 128 (.int .i64 0)) fun x5 =>
  g56_2 call n (rg 29 [(2, v2), (3, v3), (4, v4), (5, x5)]) K) H := seqP (cfst c56_1) c56_2 (by kernel_rfl) (by kernel_rfl)
noncomputable def a56_0 : Ann := .two (some 28) .nil a56_1
noncomputable def g56_0 := codeA Tryz.prog call n c56_0 a56_0
theorem q56_0 : g56_0 call n (rg 29 [(0, v0), (1, v1)]) K H = (
  boxK (nj v0) 36 fun x2 =>
  boxK (nj v1) 36 fun x3 =>
  alcK 36 (List.replicate 128 (.int .i64 0)) fun x4 =>
  g56_1 call n (rg 29 [(2, x2), (3, x3), (4, x4)]) K) H := seqP (cfst c56_0) c56_1 (by kernel_rfl) (by kernel_rfl)
theorem ret56 (l : List (Nat × AV)) : retK Tryz.prog Tryz.f56 .ret (rg 29 l) H = ofO (resO [((nj (getL l 4)).bind fun a => ldA 128 a H)]) (fun v => .ret (v, H)) := by kernel_rfl
theorem ent56 (L : Lib) (hs : L.sum 56 = none) (ha : L.ann 56 = a56_0) : callA Tryz.prog L (n + 1) 56 [v0, v1] H = g56_0 (callA Tryz.prog L n) n (rg 29 [(0, v0), (1, v1)]) (retK Tryz.prog Tryz.f56) H := entP hs Tryz.func56 ha (by kernel_rfl)
def w56 := And.intro @q56_10 <| And.intro @q56_11 <| And.intro @q56_9 <| And.intro @q56_8 <| And.intro @q56_16 <| And.intro @q56_15 <| And.intro @q56_14 <| And.intro @q56_13 <| And.intro @q56_17 <| And.intro @q56_12 <| And.intro @q56_7 <| And.intro @q56_6 <| And.intro @q56_5 <| And.intro @q56_4 <| And.intro @q56_19 <| And.intro @q56_18 <| And.intro @q56_3 <| And.intro @q56_2 <| And.intro @q56_1 <| And.intro @q56_0 <| @ret56


/-! ### 57 transposal/transposalref01.Bits -/
noncomputable def c57_0 : Code := (Tryz.f57.body).getD .skip
noncomputable def c57_1 : Code := csnd c57_0
noncomputable def c57_2 : Code := csnd c57_1
noncomputable def c57_3 : Code := cfst c57_2
noncomputable def c57_4 : Code := csnd c57_3
noncomputable def c57_5 : Code := cfst c57_4
noncomputable def c57_6 : Code := cfst c57_5
noncomputable def c57_7 : Code := cfst c57_6
noncomputable def c57_8 : Code := csnd c57_7
noncomputable def c57_9 : Code := cfst c57_8
noncomputable def g57_9 := codeA Tryz.prog call n c57_9 .nil
theorem q57_9 : g57_9 call n r K H = K .norm r H := by kernel_rfl
noncomputable def c57_10 : Code := csnd c57_8
noncomputable def g57_10 := codeA Tryz.prog call n c57_10 .nil
theorem q57_10 : g57_10 call n r K H = K (.exit 0) r H := by kernel_rfl
noncomputable def a57_8 : Ann := .two none .nil .nil
noncomputable def g57_8 := codeA Tryz.prog call n c57_8 a57_8
theorem q57_8 : g57_8 call n (rg 28 [(0, v0), (1, v1), (4, v4), (5, v5), (6, v6), (8, v8)]) K H = cndK (nj v8) (g57_9 call n (rg 28 [(0, v0), (1, v1), (4, v4), (5, v5), (6, v6), (8, v8)]) K) (g57_10 call n (rg 28 [(0, v0), (1, v1), (4, v4), (5, v5), (6, v6), (8, v8)]) K) H := by kernel_rfl
noncomputable def a57_7 : Ann := .two (some 371) .nil a57_8
noncomputable def g57_7 := codeA Tryz.prog call n c57_7 a57_7
theorem q57_7 : g57_7 call n (rg 28 [(0, v0), (1, v1), (4, v4), (5, v5), (6, v6)]) K H = (
  mvK (nj v6) fun x7 =>
  binK (nj x7) (some (.int .i64 64)) Tryz.prog .lss 3 (.tmp 7) (.const (.int .i64 64)) fun x8 =>
  g57_8 call n (rg 28 [(0, v0), (1, v1), (4, v4), (5, v5), (6, v6), (8, x8)]) K) H := seqP (cfst c57_7) c57_8 (by kernel_rfl) (by kernel_rfl)
noncomputable def c57_11 : Code := csnd c57_6
noncomputable def c57_12 : Code := cfst c57_11
noncomputable def c57_13 : Code := cfst c57_12
noncomputable def c57_14 : Code := csnd c57_13
noncomputable def g57_14 := codeA Tryz.prog call n c57_14 .nil
theorem q57_14 : g57_14 call n (rg 28 [(0, v0), (1, v1), (4, v4), (5, v5), (6, v6)]) K H = (
  mvK (nj v6) fun x18 =>
  binK (some (.int .i64 64)) (nj x18) Tryz.prog .add 3 (.const (.int .i64 64)) (.tmp 18) fun x19 =>
  mvK (nj v0) fun x20 =>
  cnvZ (nj x20) .u64 fun x21 =>
  mvK (nj v6) fun x22 =>
  binK (nj x21) (nj x22) Tryz.prog .shr 37 (.tmp 21) (.tmp 22) fun x23 =>
  binK (nj x23) (some (.int .u64 2)) Tryz.prog .rem 37 (.tmp 23) (.const (.int .u64 2)) fun x24 =>
  cnvZ (nj x24) .i64 fun x25 =>
  idxY (nj v5) (nj x19) 128 1 fun x26 =>
  stK (nj x26) (nj x25) 1 fun _ =>
  K .norm (rg 28 [(0, v0), (1, v1), (4, v4), (5, v5), (6, v6), (18, x18), (19, x19), (20, x20), (21, x21), (22, x22), (23, x23), (24, x24), (25, x25), (26, x26)])) H := regP (by kernel_rfl) (by kernel_rfl)
noncomputable def a57_13 : Ann := .two (some 115) .nil .nil
noncomputable def g57_13 := codeA Tryz.prog call n c57_13 a57_13
theorem q57_13 : g57_13 call n (rg 28 [(0, v0), (1, v1), (4, v4), (5, v5), (6, v6)]) K H = (
  mvK (nj v6) fun x11 =>
  mvK (nj v1) fun x12 =>
  mvK (nj v6) fun x13 =>
  binK (nj x12) (nj x13) Tryz.prog .shr 37 (.tmp 12) (.tmp 13) fun x14 =>
  binK (nj x14) (some (.int .u64 2)) Tryz.prog .rem 37 (.tmp 14) (.const (.int .u64 2)) fun x15 =>
  cnvZ (nj x15) .i64 fun x16 =>
  idxY (nj v5) (nj x11) 128 1 fun x17 =>
  stK (nj x17) (nj x16) 1 fun _ =>
  g57_14 call n (rg 28 [(0, v0), (1, v1), (4, v4), (5, v5), (6, v6)]) K) H := seqP (cfst c57_13) c57_14 (by kernel_rfl) (by kernel_rfl)
noncomputable def g57_12 := codeA Tryz.prog call n c57_12 a57_13
theorem q57_12 : g57_12 call n r K H = g57_13 call n r (blkK 1 K) H := by kernel_rfl
noncomputable def c57_15 : Code := csnd c57_11
noncomputable def g57_15 := codeA Tryz.prog call n c57_15 .nil
theorem q57_15 : g57_15 call n (rg 28 [(0, v0), (1, v1), (4, v4), (5, v5), (6, v6)]) K H = (
  mvK (nj v6) fun x9 =>
  binK (nj x9) (some (.int .i64 1)) Tryz.prog .add 3 (.tmp 9) (.const (.int .i64 1)) fun x10 =>
  mvK (nj x10) fun x6 =>
  K .norm (rg 28 [(0, v0), (1, v1), (4, v4), (5, v5), (6, x6), (9, x9), (10, x10)])) H := regP (by kernel_rfl) (by kernel_rfl)
noncomputable def a57_11 : Ann := .two (some 115) a57_13 .nil
noncomputable def g57_11 := codeA Tryz.prog call n c57_11 a57_11
theorem q57_11 : g57_11 call n r K H = g57_12 call n r (seqK (fun r => g57_15 call n (keepA (some 115) r) K) K) H := by kernel_rfl
noncomputable def a57_6 : Ann := .two (some 115) a57_7 a57_11
noncomputable def g57_6 := codeA Tryz.prog call n c57_6 a57_6
theorem q57_6 : g57_6 call n r K H = g57_7 call n r (seqK (fun r => g57_11 call n (keepA (some 115) r) K) K) H := by kernel_rfl
noncomputable def a57_5 : Ann := .two (some 115) a57_6 .nil
noncomputable def g57_5 := codeA Tryz.prog call n c57_5 a57_5
-- loop: registers [0, 1, 4, 5, 6]
theorem q57_5 : g57_5 call n r K H = loopA (g57_6 call n) (some 115) n r K H := by kernel_rfl
noncomputable def g57_4 := codeA Tryz.prog call n c57_4 a57_5
theorem q57_4 : g57_4 call n r K H = g57_5 call n r (blkK 0 K) H := by kernel_rfl
noncomputable def a57_3 : Ann := .two (some 115) .nil a57_5
noncomputable def g57_3 := codeA Tryz.prog call n c57_3 a57_3
theorem q57_3 : g57_3 call n (rg 28 [(0, v0), (1, v1), (4, v4), (5, v5)]) K H = (
  mvK (some (.int .i64 0)) fun x6 =>
  g57_4 call n (rg 28 [(0, v0), (1, v1), (4, v4), (5, v5), (6, x6)]) K) H := seqP (cfst c57_3) c57_4 (by kernel_rfl) (by kernel_rfl)
noncomputable def c57_16 : Code := csnd c57_2
noncomputable def c57_17 : Code := csnd c57_16
noncomputable def g57_17 := codeA Tryz.prog call n c57_17 .nil
theorem q57_17 : g57_17 call n r K H = K .ret r H := by kernel_rfl
noncomputable def a57_16 : Ann := .two (some 16) .nil .nil
noncomputable def g57_16 := codeA Tryz.prog call n c57_16 a57_16
theorem q57_16 : g57_16 call n (rg 28 [(4, v4), (5, v5)]) K H = (
  ldK (nj v5) 128 fun x27 =>
  stK (nj v4) (nj x27) 128 fun _ =>
  g57_17 call n (rg 28 [(4, v4)]) K) H := seqP (cfst c57_16) c57_17 (by kernel_rfl) (by kernel_rfl)
noncomputable def a57_2 : Ann := .two (some 48) a57_3 a57_16
noncomputable def g57_2 := codeA Tryz.prog call n c57_2 a57_2
theorem q57_2 : g57_2 call n r K H = g57_3 call n r (seqK (fun r => g57_16 call n (keepA (some 48) r) K) K) H := by kernel_rfl
noncomputable def a57_1 : Ann := .two (some 51) .nil a57_2
noncomputable def g57_1 := codeA Tryz.prog call n c57_1 a57_1
theorem q57_1 : g57_1 call n (rg 28 [(0, v0), (1, v1), (4, v4)]) K H = (
  alcK 36 (List.replicate 128 (.int .i64 0)) fun x5 =>
  g57_2 call n (rg 28 [(0, v0), (1, v1), (4, v4), (5, x5)]) K) H := seqP (cfst c57_1) c57_2 (by kernel_rfl) (by kernel_rfl)
noncomputable def a57_0 : Ann := .two (some 19) .nil a57_1
noncomputable def g57_0 := codeA Tryz.prog call n c57_0 a57_0
theorem q57_0 : g57_0 call n (rg 28 [(0, v0), (1, v1)]) K H = (
  alcK 36 (List.replicate 128 (.int .i64 0)) fun x4 =>
  g57_1 call n (rg 28 [(0, v0), (1, v1), (4, x4)]) K) H := seqP (cfst c57_0) c57_1 (by kernel_rfl) (by kernel_rfl)
theorem ret57 (l : List (Nat × AV)) : retK Tryz.prog Tryz.f57 .ret (rg 28 l) H = ofO (resO [((nj (getL l 4)).bind fun a => ldA 128 a H)]) (fun v => .ret (v, H)) := by kernel_rfl
theorem ent57 (L : Lib) (hs : L.sum 57 = none) (ha : L.ann 57 = a57_0) : callA Tryz.prog L (n + 1) 57 [v0, v1] H = g57_0 (callA Tryz.prog L n) n (rg 28 [(0, v0), (1, v1)]) (retK Tryz.prog Tryz.f57) H := entP hs Tryz.func57 ha (by kernel_rfl)
def w57 := And.intro @q57_9 <| And.intro @q57_10 <| And.intro @q57_8 <| And.intro @q57_7 <| And.intro @q57_14 <| And.intro @q57_13 <| And.intro @q57_12 <| And.intro @q57_15 <| And.intro @q57_11 <| And.intro @q57_6 <| And.intro @q57_5 <| And.intro @q57_4 <| And.intro @q57_3 <| And.intro @q57_17 <| And.intro @q57_16 <| And.intro @q57_2 <| And.intro @q57_1 <| And.intro @q57_0 <| @ret57


end Go.Proofs.YtlcfkeigipkhlaaGreatDoorAbs
