/- The program's code of the functions that are met, in words that the abstract machine carries out; each is shown to be the given code by the kernel. Printed by a program of mine. -/
import Derived.Test.YtlcfkeigipkhlaaGreatDoorW0
import Derived.Test.YtlcfkeigipkhlaaGreatDoorProg
set_option linter.unusedVariables false
set_option linter.defProp false
namespace Go.Proofs.YtlcfkeigipkhlaaGreatDoorAbs
open Go Go.Proofs
variable (call : FuncId → List AV → M) (n : Nat) (r : List AV) (K : AExit → List AV → M) (H : Heap)
variable (v0 v1 v2 v3 v4 v5 v6 v7 v8 v9 v10 v11 v12 v13 v14 v15 v16 v17 v18 v19 v20 v21 v22 v23 v24 v25 v26 v27 v28 v29 : AV)
variable (v30 v31 v32 v33 v34 v35 v36 v37 v38 v39 v40 v41 v42 v43 v44 v45 v46 v47 v48 v49 v50 v51 v52 v53 v54 v55 v56 v57 v58 v59 : AV)
variable (v60 v61 v62 v63 v64 v65 v66 v67 v68 v69 v70 v71 v72 v73 v74 v75 v76 v77 v78 v79 v80 v81 v82 v83 v84 v85 v86 v87 v88 v89 : AV)
variable (v90 v91 v92 v93 v94 v95 v96 v97 v98 v99 v100 v101 v102 v103 v104 v105 v106 v107 v108 v109 v110 v111 v112 v113 v114 v115 v116 v117 v118 v119 : AV)
variable (v120 v121 v122 v123 v124 v125 v126 v127 v128 v129 v130 v131 v132 v133 v134 v135 v136 v137 v138 v139 v140 v141 v142 v143 v144 v145 v146 v147 v148 v149 : AV)
variable (v150 v151 v152 v153 v154 v155 v156 v157 v158 v159 v160 v161 v162 v163 v164 v165 v166 v167 v168 v169 v170 v171 v172 v173 v174 v175 v176 v177 v178 v179 : AV)
variable (v180 v181 v182 v183 v184 v185 v186 v187 v188 v189 v190 v191 v192 v193 v194 v195 v196 v197 v198 v199 v200 v201 v202 v203 v204 v205 v206 v207 v208 v209 : AV)
variable (v210 v211 v212 v213 v214 v215 v216 v217 v218 v219 v220 v221 v222 v223 v224 v225 v226 v227 v228 v229 v230 v231 v232 v233 v234 v235 v236 v237 v238 v239 : AV)
/-! ### 3 transposal/transposallaw09.EntrySums -/
noncomputable def c3_0 : Code := (Tryz.f3.body).getD .skip
noncomputable def c3_1 : Code := csnd c3_0
noncomputable def c3_2 : Code := cfst c3_1
noncomputable def c3_3 : Code := csnd c3_2
noncomputable def c3_4 : Code := cfst c3_3
noncomputable def c3_5 : Code := csnd c3_4
noncomputable def g3_5 := codeA Tryz.prog call n c3_5 .nil
theorem q3_5 : g3_5 call n r K H = K .ret r H := by kernel_rfl
noncomputable def a3_4 : Ann := .two (some 16) .nil .nil
noncomputable def g3_4 := codeA Tryz.prog call n c3_4 a3_4
theorem q3_4 : g3_4 call n (rg 70 [(0, v0), (1, v1), (13, v13)]) K H = (
  mvK (some (.bool false)) fun x4 =>
  g3_5 call n (rg 70 [(4, x4)]) K) H := seqP (cfst c3_4) c3_5 (by kernel_rfl) (by kernel_rfl)
noncomputable def c3_6 : Code := csnd c3_3
noncomputable def g3_6 := codeA Tryz.prog call n c3_6 .nil
theorem q3_6 : g3_6 call n r K H = K .norm r H := by kernel_rfl
noncomputable def a3_3 : Ann := .two none a3_4 .nil
noncomputable def g3_3 := codeA Tryz.prog call n c3_3 a3_3
theorem q3_3 : g3_3 call n (rg 70 [(0, v0), (1, v1), (13, v13)]) K H = cndK (nj v13) (g3_4 call n (rg 70 [(0, v0), (1, v1), (13, v13)]) K) (g3_6 call n (rg 70 [(0, v0), (1, v1), (13, v13)]) K) H := by kernel_rfl
noncomputable def a3_2 : Ann := .two (some 8195) .nil a3_3
noncomputable def g3_2 := codeA Tryz.prog call n c3_2 a3_2
theorem q3_2 : g3_2 call n (rg 70 [(0, v0), (1, v1)]) K H = (
  calK (some (.fn 18 [] [])) call [] fun x12 =>
  unK (nj x12) .not fun x13 =>
  g3_3 call n (rg 70 [(0, v0), (1, v1), (13, x13)]) K) H := seqP (cfst c3_2) c3_3 (by kernel_rfl) (by kernel_rfl)
noncomputable def c3_7 : Code := csnd c3_1
noncomputable def c3_8 : Code := cfst c3_7
noncomputable def c3_9 : Code := csnd c3_8
noncomputable def c3_10 : Code := cfst c3_9
noncomputable def c3_11 : Code := csnd c3_10
noncomputable def g3_11 := codeA Tryz.prog call n c3_11 .nil
theorem q3_11 : g3_11 call n r K H = K .ret r H := by kernel_rfl
noncomputable def a3_10 : Ann := .two (some 16) .nil .nil
noncomputable def g3_10 := codeA Tryz.prog call n c3_10 a3_10
theorem q3_10 : g3_10 call n (rg 70 [(0, v0), (1, v1), (16, v16)]) K H = (
  mvK (some (.bool true)) fun x4 =>
  g3_11 call n (rg 70 [(4, x4)]) K) H := seqP (cfst c3_10) c3_11 (by kernel_rfl) (by kernel_rfl)
noncomputable def c3_12 : Code := csnd c3_9
noncomputable def g3_12 := codeA Tryz.prog call n c3_12 .nil
theorem q3_12 : g3_12 call n r K H = K .norm r H := by kernel_rfl
noncomputable def a3_9 : Ann := .two none a3_10 .nil
noncomputable def g3_9 := codeA Tryz.prog call n c3_9 a3_9
theorem q3_9 : g3_9 call n (rg 70 [(0, v0), (1, v1), (16, v16)]) K H = cndK (nj v16) (g3_10 call n (rg 70 [(0, v0), (1, v1), (16, v16)]) K) (g3_12 call n (rg 70 [(0, v0), (1, v1), (16, v16)]) K) H := by kernel_rfl
noncomputable def a3_8 : Ann := .two (some 65539) .nil a3_9
noncomputable def g3_8 := codeA Tryz.prog call n c3_8 a3_8
theorem q3_8 : g3_8 call n (rg 70 [(0, v0), (1, v1)]) K H = (
  mvK (nj v0) fun x14 =>
  lenSZ (nj x14) fun x15 =>
  binK (nj x15) (some (.int .i64 70)) Tryz.prog .gtr 3 (.tmp 15) (.const (.int .i64 70)) fun x16 =>
  g3_9 call n (rg 70 [(0, v0), (1, v1), (16, x16)]) K) H := seqP (cfst c3_8) c3_9 (by kernel_rfl) (by kernel_rfl)
noncomputable def c3_13 : Code := csnd c3_7
noncomputable def c3_14 : Code := csnd c3_13
noncomputable def c3_15 : Code := cfst c3_14
noncomputable def c3_16 : Code := csnd c3_15
noncomputable def c3_17 : Code := cfst c3_16
noncomputable def c3_18 : Code := cfst c3_17
noncomputable def c3_19 : Code := csnd c3_18
noncomputable def c3_20 : Code := cfst c3_19
noncomputable def c3_21 : Code := cfst c3_20
noncomputable def g3_21 := codeA Tryz.prog call n c3_21 .nil
theorem q3_21 : g3_21 call n r K H = K .norm r H := by kernel_rfl
noncomputable def c3_22 : Code := csnd c3_20
noncomputable def g3_22 := codeA Tryz.prog call n c3_22 .nil
theorem q3_22 : g3_22 call n r K H = K (.exit 0) r H := by kernel_rfl
noncomputable def a3_20 : Ann := .two none .nil .nil
noncomputable def g3_20 := codeA Tryz.prog call n c3_20 a3_20
theorem q3_20 : g3_20 call n (rg 70 [(0, v0), (1, v1), (20, v20), (21, v21), (22, v22)]) K H = cndK (nj v22) (g3_21 call n (rg 70 [(0, v0), (1, v1), (20, v20), (21, v21), (22, v22)]) K) (g3_22 call n (rg 70 [(0, v0), (1, v1), (20, v20), (21, v21), (22, v22)]) K) H := by kernel_rfl
noncomputable def c3_23 : Code := csnd c3_19
noncomputable def c3_24 : Code := cfst c3_23
noncomputable def c3_25 : Code := cfst c3_24
noncomputable def c3_26 : Code := csnd c3_25
noncomputable def c3_27 : Code := csnd c3_26
noncomputable def c3_28 : Code := cfst c3_27
noncomputable def g3_28 := codeA Tryz.prog call n c3_28 .nil
theorem q3_28 : g3_28 call n (rg 70 [(0, v0), (1, v1), (5, v5), (20, v20), (21, v21), (24, v24)]) K H = (
  mvK (nj v0) fun x25 =>
  mvK (nj v5) fun x26 =>
  idxZ (nj x25) (nj x26) 4 fun x27 =>
  fldK (nj x27) 1 fun x28 =>
  ld1K (nj x28) fun x29 =>
  binK (nj x29) (some (.int .u16 3)) Tryz.prog .rem 26 (.tmp 29) (.const (.int .u16 3)) fun x30 =>
  idxZ (nj x25) (nj x26) 4 fun x31 =>
  fldK (nj x31) 1 fun x32 =>
  stK (nj x32) (nj x30) 1 fun _ =>
  K .norm (rg 70 [(0, v0), (1, v1), (5, v5), (20, v20), (21, v21), (24, v24), (25, x25), (26, x26), (27, x27), (28, x28), (29, x29), (30, x30), (31, x31), (32, x32)])) H := regP (by kernel_rfl) (by kernel_rfl)
noncomputable def c3_29 : Code := csnd c3_27
noncomputable def g3_29 := codeA Tryz.prog call n c3_29 .nil
theorem q3_29 : g3_29 call n r K H = K .norm r H := by kernel_rfl
noncomputable def a3_27 : Ann := .two none .nil .nil
noncomputable def g3_27 := codeA Tryz.prog call n c3_27 a3_27
theorem q3_27 : g3_27 call n (rg 70 [(0, v0), (1, v1), (5, v5), (20, v20), (21, v21), (24, v24)]) K H = cndK (nj v24) (g3_28 call n (rg 70 [(0, v0), (1, v1), (5, v5), (20, v20), (21, v21), (24, v24)]) K) (g3_29 call n (rg 70 [(0, v0), (1, v1), (5, v5), (20, v20), (21, v21), (24, v24)]) K) H := by kernel_rfl
noncomputable def a3_26 : Ann := .two (some 19922979) .nil a3_27
noncomputable def g3_26 := codeA Tryz.prog call n c3_26 a3_26
theorem q3_26 : g3_26 call n (rg 70 [(0, v0), (1, v1), (5, v5), (20, v20), (21, v21)]) K H = (
  mvK (nj v1) fun x24 =>
  g3_27 call n (rg 70 [(0, v0), (1, v1), (5, v5), (20, v20), (21, v21), (24, x24)]) K) H := seqP (cfst c3_26) c3_27 (by kernel_rfl) (by kernel_rfl)
noncomputable def a3_25 : Ann := .two (some 3145763) .nil a3_26
noncomputable def g3_25 := codeA Tryz.prog call n c3_25 a3_25
theorem q3_25 : g3_25 call n (rg 70 [(0, v0), (1, v1), (20, v20), (21, v21)]) K H = (
  mvK (nj v21) fun x23 =>
  mvK (nj x23) fun x5 =>
  g3_26 call n (rg 70 [(0, v0), (1, v1), (5, x5), (20, v20), (21, v21)]) K) H := seqP (cfst c3_25) c3_26 (by kernel_rfl) (by kernel_rfl)
noncomputable def g3_24 := codeA Tryz.prog call n c3_24 a3_25
theorem q3_24 : g3_24 call n r K H = g3_25 call n r (blkK 1 K) H := by kernel_rfl
noncomputable def c3_30 : Code := csnd c3_23
noncomputable def g3_30 := codeA Tryz.prog call n c3_30 .nil
theorem q3_30 : g3_30 call n (rg 70 [(0, v0), (1, v1), (20, v20), (21, v21)]) K H = (
  binK (nj v21) (some (.int .i64 1)) Tryz.prog .add 3 (.tmp 21) (.const (.int .i64 1)) fun x33 =>
  mvK (nj x33) fun x21 =>
  K .norm (rg 70 [(0, v0), (1, v1), (20, v20), (21, x21), (33, x33)])) H := regP (by kernel_rfl) (by kernel_rfl)
noncomputable def a3_23 : Ann := .two (some 3145731) a3_25 .nil
noncomputable def g3_23 := codeA Tryz.prog call n c3_23 a3_23
theorem q3_23 : g3_23 call n r K H = g3_24 call n r (seqK (fun r => g3_30 call n (keepA (some 3145731) r) K) K) H := by kernel_rfl
noncomputable def a3_19 : Ann := .two (some 3145731) a3_20 a3_23
noncomputable def g3_19 := codeA Tryz.prog call n c3_19 a3_19
theorem q3_19 : g3_19 call n r K H = g3_20 call n r (seqK (fun r => g3_23 call n (keepA (some 3145731) r) K) K) H := by kernel_rfl
noncomputable def a3_18 : Ann := .two (some 7340035) .nil a3_19
noncomputable def g3_18 := codeA Tryz.prog call n c3_18 a3_18
theorem q3_18 : g3_18 call n (rg 70 [(0, v0), (1, v1), (20, v20), (21, v21)]) K H = (
  binK (nj v21) (nj v20) Tryz.prog .lss 3 (.tmp 21) (.tmp 20) fun x22 =>
  g3_19 call n (rg 70 [(0, v0), (1, v1), (20, v20), (21, v21), (22, x22)]) K) H := seqP (cfst c3_18) c3_19 (by kernel_rfl) (by kernel_rfl)
noncomputable def a3_17 : Ann := .two (some 3145731) a3_18 .nil
noncomputable def g3_17 := codeA Tryz.prog call n c3_17 a3_17
-- loop: registers [0, 1, 20, 21]
theorem q3_17 : g3_17 call n r K H = loopA (g3_18 call n) (some 3145731) n r K H := by kernel_rfl
noncomputable def g3_16 := codeA Tryz.prog call n c3_16 a3_17
theorem q3_16 : g3_16 call n r K H = g3_17 call n r (blkK 0 K) H := by kernel_rfl
noncomputable def a3_15 : Ann := .two (some 3145731) .nil a3_17
noncomputable def g3_15 := codeA Tryz.prog call n c3_15 a3_15
theorem q3_15 : g3_15 call n (rg 70 [(0, v0), (1, v1)]) K H = (
  mvK (nj v0) fun x19 =>
  lenSZ (nj x19) fun x20 =>
  mvK (some (.int .i64 0)) fun x21 =>
  g3_16 call n (rg 70 [(0, v0), (1, v1), (20, x20), (21, x21)]) K) H := seqP (cfst c3_15) c3_16 (by kernel_rfl) (by kernel_rfl)
noncomputable def c3_31 : Code := csnd c3_14
noncomputable def c3_32 : Code := csnd c3_31
noncomputable def c3_33 : Code := cfst c3_32
noncomputable def c3_34 : Code := csnd c3_33
noncomputable def c3_35 : Code := cfst c3_34
noncomputable def c3_36 : Code := cfst c3_35
noncomputable def c3_37 : Code := csnd c3_36
noncomputable def c3_38 : Code := cfst c3_37
noncomputable def c3_39 : Code := cfst c3_38
noncomputable def g3_39 := codeA Tryz.prog call n c3_39 .nil
theorem q3_39 : g3_39 call n r K H = K .norm r H := by kernel_rfl
noncomputable def c3_40 : Code := csnd c3_38
noncomputable def g3_40 := codeA Tryz.prog call n c3_40 .nil
theorem q3_40 : g3_40 call n r K H = K (.exit 2) r H := by kernel_rfl
noncomputable def a3_38 : Ann := .two none .nil .nil
noncomputable def g3_38 := codeA Tryz.prog call n c3_38 a3_38
theorem q3_38 : g3_38 call n (rg 70 [(6, v6), (7, v7), (40, v40), (42, v42)]) K H = cndK (nj v42) (g3_39 call n (rg 70 [(6, v6), (7, v7), (40, v40), (42, v42)]) K) (g3_40 call n (rg 70 [(6, v6), (7, v7), (40, v40), (42, v42)]) K) H := by kernel_rfl
noncomputable def c3_41 : Code := csnd c3_37
noncomputable def c3_42 : Code := cfst c3_41
noncomputable def c3_43 : Code := csnd c3_42
noncomputable def c3_44 : Code := csnd c3_43
noncomputable def c3_45 : Code := csnd c3_44
noncomputable def c3_46 : Code := cfst c3_45
noncomputable def c3_47 : Code := csnd c3_46
noncomputable def g3_47 := codeA Tryz.prog call n c3_47 .nil
theorem q3_47 : g3_47 call n r K H = K .ret r H := by kernel_rfl
noncomputable def a3_46 : Ann := .two (some 16) .nil .nil
noncomputable def g3_46 := codeA Tryz.prog call n c3_46 a3_46
theorem q3_46 : g3_46 call n (rg 70 [(6, v6), (7, v7), (40, v40), (64, v64)]) K H = (
  mvK (some (.bool false)) fun x4 =>
  g3_47 call n (rg 70 [(4, x4)]) K) H := seqP (cfst c3_46) c3_47 (by kernel_rfl) (by kernel_rfl)
noncomputable def c3_48 : Code := csnd c3_45
noncomputable def g3_48 := codeA Tryz.prog call n c3_48 .nil
theorem q3_48 : g3_48 call n r K H = K .norm r H := by kernel_rfl
noncomputable def a3_45 : Ann := .two none a3_46 .nil
noncomputable def g3_45 := codeA Tryz.prog call n c3_45 a3_45
theorem q3_45 : g3_45 call n (rg 70 [(6, v6), (7, v7), (40, v40), (64, v64)]) K H = cndK (nj v64) (g3_46 call n (rg 70 [(6, v6), (7, v7), (40, v40), (64, v64)]) K) (g3_48 call n (rg 70 [(6, v6), (7, v7), (40, v40), (64, v64)]) K) H := by kernel_rfl
noncomputable def a3_44 : Ann := .two (some 18446745173221179584) .nil a3_45
noncomputable def g3_44 := codeA Tryz.prog call n c3_44 a3_44
theorem q3_44 : g3_44 call n (rg 70 [(6, v6), (7, v7), (8, v8), (10, v10), (11, v11), (40, v40)]) K H = (
  mvK (nj v6) fun x51 =>
  mvK (nj v8) fun x52 =>
  lokK (nj x51) (nj x52) Tryz.prog 29 false fun x53 =>
  fv1Z (nj x53) 0 fun x54 =>
  mvK (nj v10) fun x55 =>
  binK (nj x54) (nj x55) Tryz.prog .neq 2 (.tmp 54) (.tmp 55) fun x56 =>
  mvK (nj x56) fun x57 =>
  grdK (wantV x57 false) (fun K => mvK (nj v6) K) fun x58 =>
  grdK (wantV x57 false) (fun K => mvK (nj v8) K) fun x59 =>
  grdK (wantV x57 false) (fun K => lokK (nj x58) (nj x59) Tryz.prog 29 false K) fun x60 =>
  grdK (wantV x57 false) (fun K => fv1Z (nj x60) 1 K) fun x61 =>
  grdK (wantV x57 false) (fun K => mvK (nj v11) K) fun x62 =>
  grdK (wantV x57 false) (fun K => binK (nj x61) (nj x62) Tryz.prog .neq 37 (.tmp 61) (.tmp 62) K) fun x63 =>
  pickK (nj x57) (some (.bool true)) (nj x63) fun x64 =>
  g3_45 call n (rg 70 [(6, v6), (7, v7), (40, v40), (64, x64)]) K) H := seqP (cfst c3_44) c3_45 (by kernel_rfl) (by kernel_rfl)
noncomputable def a3_43 : Ann := .two (some 1099511631296) .nil a3_44
noncomputable def g3_43 := codeA Tryz.prog call n c3_43 a3_43
theorem q3_43 : g3_43 call n (rg 70 [(6, v6), (7, v7), (8, v8), (9, v9), (40, v40)]) K H = (
  ldK (nj v9) 128 fun x47 =>
  calK (some (.fn 22 [] [])) call [(nj x47)] fun x48 =>
  mvK (nj x48) fun x46 =>
  exrK (nj x46) 0 fun x49 =>
  exrK (nj x46) 1 fun x50 =>
  mvK (nj x49) fun x10 =>
  mvK (nj x50) fun x11 =>
  g3_44 call n (rg 70 [(6, v6), (7, v7), (8, v8), (10, x10), (11, x11), (40, v40)]) K) H := seqP (cfst c3_43) c3_44 (by kernel_rfl) (by kernel_rfl)
noncomputable def a3_42 : Ann := .two (some 1099511628736) .nil a3_43
noncomputable def g3_42 := codeA Tryz.prog call n c3_42 a3_42
theorem q3_42 : g3_42 call n (rg 70 [(6, v6), (7, v7), (40, v40)]) K H = (
  entK (nj v40) fun x43 =>
  exrK (nj x43) 0 fun x44 =>
  exrK (nj x43) 1 fun x45 =>
  alcK 36 (List.replicate 128 (.int .i64 0)) fun x9 =>
  mvK (nj x44) fun x8 =>
  stK (nj x9) (nj x45) 128 fun _ =>
  g3_43 call n (rg 70 [(6, v6), (7, v7), (8, x8), (9, x9), (40, v40)]) K) H := seqP (cfst c3_42) c3_43 (by kernel_rfl) (by kernel_rfl)
noncomputable def g3_41 := codeA Tryz.prog call n c3_41 a3_42
theorem q3_41 : g3_41 call n r K H = g3_42 call n r (blkK 3 K) H := by kernel_rfl
noncomputable def a3_37 : Ann := .two (some 1099511627968) a3_38 a3_42
noncomputable def g3_37 := codeA Tryz.prog call n c3_37 a3_37
theorem q3_37 : g3_37 call n r K H = g3_38 call n r (seqK (fun r => g3_41 call n (keepA (some 1099511627968) r) K) K) H := by kernel_rfl
noncomputable def a3_36 : Ann := .two (some 5497558139072) .nil a3_37
noncomputable def g3_36 := codeA Tryz.prog call n c3_36 a3_36
theorem q3_36 : g3_36 call n (rg 70 [(6, v6), (7, v7), (40, v40)]) K H = (
  nxtK (nj v40) false fun x41 =>
  exrK (nj x41) 0 fun x42 =>
  g3_37 call n (rg 70 [(6, v6), (7, v7), (40, v40), (42, x42)]) K) H := seqP (cfst c3_36) c3_37 (by kernel_rfl) (by kernel_rfl)
noncomputable def a3_35 : Ann := .two (some 1099511627968) a3_36 .nil
noncomputable def g3_35 := codeA Tryz.prog call n c3_35 a3_35
-- loop: registers [6, 7, 40]
theorem q3_35 : g3_35 call n r K H = loopA (g3_36 call n) (some 1099511627968) n r K H := by kernel_rfl
noncomputable def g3_34 := codeA Tryz.prog call n c3_34 a3_35
theorem q3_34 : g3_34 call n r K H = g3_35 call n r (blkK 2 K) H := by kernel_rfl
noncomputable def a3_33 : Ann := .two (some 1099511627968) .nil a3_35
noncomputable def g3_33 := codeA Tryz.prog call n c3_33 a3_33
theorem q3_33 : g3_33 call n (rg 70 [(6, v6), (7, v7)]) K H = (
  mvK (nj v7) fun x39 =>
  rngZ (nj x39) fun x40 =>
  g3_34 call n (rg 70 [(6, v6), (7, v7), (40, x40)]) K) H := seqP (cfst c3_33) c3_34 (by kernel_rfl) (by kernel_rfl)
noncomputable def c3_49 : Code := csnd c3_32
noncomputable def c3_50 : Code := csnd c3_49
noncomputable def g3_50 := codeA Tryz.prog call n c3_50 .nil
theorem q3_50 : g3_50 call n r K H = K .ret r H := by kernel_rfl
noncomputable def a3_49 : Ann := .two (some 16) .nil .nil
noncomputable def g3_49 := codeA Tryz.prog call n c3_49 a3_49
theorem q3_49 : g3_49 call n (rg 70 [(6, v6), (7, v7)]) K H = (
  mvK (nj v6) fun x65 =>
  lenMZ (nj x65) fun x66 =>
  mvK (nj v7) fun x67 =>
  lenMZ (nj x67) fun x68 =>
  binK (nj x66) (nj x68) Tryz.prog .eql 3 (.tmp 66) (.tmp 68) fun x69 =>
  mvK (nj x69) fun x4 =>
  g3_50 call n (rg 70 [(4, x4)]) K) H := seqP (cfst c3_49) c3_50 (by kernel_rfl) (by kernel_rfl)
noncomputable def a3_32 : Ann := .two (some 192) a3_33 a3_49
noncomputable def g3_32 := codeA Tryz.prog call n c3_32 a3_32
theorem q3_32 : g3_32 call n r K H = g3_33 call n r (seqK (fun r => g3_49 call n (keepA (some 192) r) K) K) H := by kernel_rfl
noncomputable def a3_31 : Ann := .two (some 192) .nil a3_32
noncomputable def g3_31 := codeA Tryz.prog call n c3_31 a3_31
theorem q3_31 : g3_31 call n (rg 70 [(0, v0)]) K H = (
  mvK (nj v0) fun x34 =>
  bldZ [(0, 1), (1, 1)] [(.int .i32 0), .nils] [(1, (nj x34))] fun x35 =>
  calK (some (.fn 20 [] [])) call [(nj x35)] fun x36 =>
  mvK (nj v0) fun x37 =>
  calK (some (.fn 21 [] [])) call [(nj x37)] fun x38 =>
  mvK (nj x36) fun x6 =>
  mvK (nj x38) fun x7 =>
  g3_32 call n (rg 70 [(6, x6), (7, x7)]) K) H := seqP (cfst c3_31) c3_32 (by kernel_rfl) (by kernel_rfl)
noncomputable def a3_14 : Ann := .two (some 1) a3_15 a3_31
noncomputable def g3_14 := codeA Tryz.prog call n c3_14 a3_14
theorem q3_14 : g3_14 call n r K H = g3_15 call n r (seqK (fun r => g3_31 call n (keepA (some 1) r) K) K) H := by kernel_rfl
noncomputable def a3_13 : Ann := .two (some 3) .nil a3_14
noncomputable def g3_13 := codeA Tryz.prog call n c3_13 a3_13
theorem q3_13 : g3_13 call n (rg 70 [(0, v0), (1, v1)]) K H = (
  mvK (nj v0) fun x17 =>
  calK (some (.fn 19 [] [])) call [(nj x17)] fun x18 =>
  mvK (nj x18) fun x0 =>
  g3_14 call n (rg 70 [(0, x0), (1, v1)]) K) H := seqP (cfst c3_13) c3_14 (by kernel_rfl) (by kernel_rfl)
noncomputable def a3_7 : Ann := .two (some 3) a3_8 a3_13
noncomputable def g3_7 := codeA Tryz.prog call n c3_7 a3_7
theorem q3_7 : g3_7 call n r K H = g3_8 call n r (seqK (fun r => g3_13 call n (keepA (some 3) r) K) K) H := by kernel_rfl
noncomputable def a3_1 : Ann := .two (some 3) a3_2 a3_7
noncomputable def g3_1 := codeA Tryz.prog call n c3_1 a3_1
theorem q3_1 : g3_1 call n r K H = g3_2 call n r (seqK (fun r => g3_7 call n (keepA (some 3) r) K) K) H := by kernel_rfl
noncomputable def a3_0 : Ann := .two (some 3) .nil a3_1
noncomputable def g3_0 := codeA Tryz.prog call n c3_0 a3_0
theorem q3_0 : g3_0 call n (rg 70 [(0, v0), (1, v1)]) K H = (
  mvK (some (.bool false)) fun x4 =>
  g3_1 call n (rg 70 [(0, v0), (1, v1)]) K) H := seqP (cfst c3_0) c3_1 (by kernel_rfl) (by kernel_rfl)
theorem ret3 (l : List (Nat × AV)) : retK Tryz.prog Tryz.f3 .ret (rg 70 l) H = ofO (resO [nj (getL l 4)]) (fun v => .ret (v, H)) := by kernel_rfl
theorem ent3 (L : Lib) (hs : L.sum 3 = none) (ha : L.ann 3 = a3_0) : callA Tryz.prog L (n + 1) 3 [v0, v1] H = g3_0 (callA Tryz.prog L n) n (rg 70 [(0, v0), (1, v1)]) (retK Tryz.prog Tryz.f3) H := entP hs Tryz.func3 ha (by kernel_rfl)
def w3 := And.intro @q3_5 <| And.intro @q3_4 <| And.intro @q3_6 <| And.intro @q3_3 <| And.intro @q3_2 <| And.intro @q3_11 <| And.intro @q3_10 <| And.intro @q3_12 <| And.intro @q3_9 <| And.intro @q3_8 <| And.intro @q3_21 <| And.intro @q3_22 <| And.intro @q3_20 <| And.intro @q3_28 <| And.intro @q3_29 <| And.intro @q3_27 <| And.intro @q3_26 <| And.intro @q3_25 <| And.intro @q3_24 <| And.intro @q3_30 <| And.intro @q3_23 <| And.intro @q3_19 <| And.intro @q3_18 <| And.intro @q3_17 <| And.intro @q3_16 <| And.intro @q3_15 <| And.intro @q3_39 <| And.intro @q3_40 <| And.intro @q3_38 <| And.intro @q3_47 <| And.intro @q3_46 <| And.intro @q3_48 <| And.intro @q3_45 <| And.intro @q3_44 <| And.intro @q3_43 <| And.intro @q3_42 <| And.intro @q3_41 <| And.intro @q3_37 <| And.intro @q3_36 <| And.intro @q3_35 <| And.intro @q3_34 <| And.intro @q3_33 <| And.intro @q3_50 <| And.intro @q3_49 <| And.intro @q3_32 <| And.intro @q3_31 <| And.intro @q3_14 <| And.intro @q3_13 <| And.intro @q3_7 <| And.intro @q3_1 <| And.intro @q3_0 <| @ret3


end Go.Proofs.YtlcfkeigipkhlaaGreatDoorAbs
