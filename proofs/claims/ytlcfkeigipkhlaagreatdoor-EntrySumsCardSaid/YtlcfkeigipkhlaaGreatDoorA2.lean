/- The program's code of the functions that are met, in words that the abstract machine carries out; each is shown to be the given code by the kernel. Printed by a program of mine. -/
import Derived.Test.YtlcfkeigipkhlaaGreatDoorW0
import Derived.Test.YtlcfkeigipkhlaaGreatDoorProg
set_option linter.unusedVariables false
set_option linter.defProp false
namespace Go.Proofs.YtlcfkeigipkhlaaGreatDoorAbs
open Go Go.Proofs
variable (call : FuncId → List AV → M) (n : Nat) (r : List AV) (K : AExit → List AV → M) (H : Heap)
variable (v0 v1 v2 v3 v4 v5 v6 v7 v8 v9 v10 v11 v12 v13 v14 v15 v16 v17 v18 v19 v20 v21 v22 v23 v24 v25 v26 v27 v28 v29 : AV)
variable (v30 v31 v32 v33 v34 v35 v36 v37 v38 v39 v40 v41 v42 v43 v44 v45 v46 v47 v48 v49 v50 v51 v52 v53 v54 v55 v56 v57 v58 v59 : AV)
variable (v60 v61 v62 v63 v64 v65 v66 v67 v68 v69 v70 v71 v72 v73 v74 v75 v76 v77 v78 v79 v80 v81 v82 v83 v84 v85 v86 v87 v88 v89 : AV)
variable (v90 v91 v92 v93 v94 v95 v96 v97 v98 v99 v100 v101 v102 v103 v104 v105 v106 v107 v108 v109 v110 v111 v112 v113 v114 v115 v116 v117 v118 v119 : AV)
variable (v120 v121 v122 v123 v124 v125 v126 v127 v128 v129 v130 v131 v132 v133 v134 v135 v136 v137 v138 v139 v140 v141 v142 v143 v144 v145 v146 v147 v148 v149 : AV)
variable (v150 v151 v152 v153 v154 v155 v156 v157 v158 v159 v160 v161 v162 v163 v164 v165 v166 v167 v168 v169 v170 v171 v172 v173 v174 v175 v176 v177 v178 v179 : AV)
variable (v180 v181 v182 v183 v184 v185 v186 v187 v188 v189 v190 v191 v192 v193 v194 v195 v196 v197 v198 v199 v200 v201 v202 v203 v204 v205 v206 v207 v208 v209 : AV)
variable (v210 v211 v212 v213 v214 v215 v216 v217 v218 v219 v220 v221 v222 v223 v224 v225 v226 v227 v228 v229 v230 v231 v232 v233 v234 v235 v236 v237 v238 v239 : AV)
/-! ### 19 slices.Clone[[]transposal/entry.Line,transposal/entry.Line] -/
noncomputable def c19_0 : Code := (Tryz.f19.body).getD .skip
noncomputable def c19_1 : Code := csnd c19_0
noncomputable def c19_2 : Code := cfst c19_1
noncomputable def c19_3 : Code := csnd c19_2
noncomputable def c19_4 : Code := cfst c19_3
noncomputable def c19_5 : Code := csnd c19_4
noncomputable def g19_5 := codeA Tryz.prog call n c19_5 .nil
theorem q19_5 : g19_5 call n r K H = K .ret r H := by kernel_rfl
noncomputable def a19_4 : Ann := .two (some 4) .nil .nil
noncomputable def g19_4 := codeA Tryz.prog call n c19_4 a19_4
theorem q19_4 : g19_4 call n (rg 8 [(0, v0), (4, v4)]) K H = (
  mvK (some .nils) fun x2 =>
  g19_5 call n (rg 8 [(2, x2)]) K) H := seqP (cfst c19_4) c19_5 (by kernel_rfl) (by kernel_rfl)
noncomputable def c19_6 : Code := csnd c19_3
noncomputable def g19_6 := codeA Tryz.prog call n c19_6 .nil
theorem q19_6 : g19_6 call n r K H = K .norm r H := by kernel_rfl
noncomputable def a19_3 : Ann := .two none a19_4 .nil
noncomputable def g19_3 := codeA Tryz.prog call n c19_3 a19_3
theorem q19_3 : g19_3 call n (rg 8 [(0, v0), (4, v4)]) K H = cndK (nj v4) (g19_4 call n (rg 8 [(0, v0), (4, v4)]) K) (g19_6 call n (rg 8 [(0, v0), (4, v4)]) K) H := by kernel_rfl
noncomputable def a19_2 : Ann := .two (some 17) .nil a19_3
noncomputable def g19_2 := codeA Tryz.prog call n c19_2 a19_2
theorem q19_2 : g19_2 call n (rg 8 [(0, v0)]) K H = (
  mvK (nj v0) fun x3 =>
  binK (nj x3) (some .nils) Tryz.prog .eql 22 (.tmp 3) (.const (.slice none 0 0)) fun x4 =>
  g19_3 call n (rg 8 [(0, v0), (4, x4)]) K) H := seqP (cfst c19_2) c19_3 (by kernel_rfl) (by kernel_rfl)
noncomputable def c19_7 : Code := csnd c19_1
noncomputable def c19_8 : Code := csnd c19_7
noncomputable def g19_8 := codeA Tryz.prog call n c19_8 .nil
theorem q19_8 : g19_8 call n r K H = K .ret r H := by kernel_rfl
noncomputable def a19_7 : Ann := .two (some 4) .nil .nil
noncomputable def g19_7 := codeA Tryz.prog call n c19_7 a19_7
theorem q19_7 : g19_7 call n (rg 8 [(0, v0)]) K H = (
  bslZ 28 [(.int .u32 0), (.int .u16 0), (.int .u16 0), (.int .i64 0)] 0 [] fun x5 =>
  mvK (nj v0) fun x6 =>
  bltK Tryz.prog .append #[22, 22] 22 [(nj x5), (nj x6)] fun x7 =>
  mvK (nj x7) fun x2 =>
  g19_8 call n (rg 8 [(2, x2)]) K) H := seqP (cfst c19_7) c19_8 (by kernel_rfl) (by kernel_rfl)
noncomputable def a19_1 : Ann := .two (some 1) a19_2 a19_7
noncomputable def g19_1 := codeA Tryz.prog call n c19_1 a19_1
theorem q19_1 : g19_1 call n r K H = g19_2 call n r (seqK (fun r => g19_7 call n (keepA (some 1) r) K) K) H := by kernel_rfl
noncomputable def a19_0 : Ann := .two (some 1) .nil a19_1
noncomputable def g19_0 := codeA Tryz.prog call n c19_0 a19_0
theorem q19_0 : g19_0 call n (rg 8 [(0, v0)]) K H = (
  mvK (some .nils) fun x2 =>
  g19_1 call n (rg 8 [(0, v0)]) K) H := seqP (cfst c19_0) c19_1 (by kernel_rfl) (by kernel_rfl)
theorem ret19 (l : List (Nat × AV)) : retK Tryz.prog Tryz.f19 .ret (rg 8 l) H = ofO (resO [nj (getL l 2)]) (fun v => .ret (v, H)) := by kernel_rfl
theorem ent19 (L : Lib) (hs : L.sum 19 = none) (ha : L.ann 19 = a19_0) : callA Tryz.prog L (n + 1) 19 [v0] H = g19_0 (callA Tryz.prog L n) n (rg 8 [(0, v0)]) (retK Tryz.prog Tryz.f19) H := entP hs Tryz.func19 ha (by kernel_rfl)
def w19 := And.intro @q19_5 <| And.intro @q19_4 <| And.intro @q19_6 <| And.intro @q19_3 <| And.intro @q19_2 <| And.intro @q19_8 <| And.intro @q19_7 <| And.intro @q19_1 <| And.intro @q19_0 <| @ret19


/-! ### 20 (transposal/entry.Journal).Sums -/
noncomputable def c20_0 : Code := (Tryz.f20.body).getD .skip
noncomputable def c20_1 : Code := csnd c20_0
noncomputable def c20_2 : Code := csnd c20_1
noncomputable def c20_3 : Code := cfst c20_2
noncomputable def c20_4 : Code := csnd c20_3
noncomputable def c20_5 : Code := cfst c20_4
noncomputable def c20_6 : Code := cfst c20_5
noncomputable def c20_7 : Code := csnd c20_6
noncomputable def c20_8 : Code := cfst c20_7
noncomputable def c20_9 : Code := cfst c20_8
noncomputable def g20_9 := codeA Tryz.prog call n c20_9 .nil
theorem q20_9 : g20_9 call n r K H = K .norm r H := by kernel_rfl
noncomputable def c20_10 : Code := csnd c20_8
noncomputable def g20_10 := codeA Tryz.prog call n c20_10 .nil
theorem q20_10 : g20_10 call n r K H = K (.exit 0) r H := by kernel_rfl
noncomputable def a20_8 : Ann := .two none .nil .nil
noncomputable def g20_8 := codeA Tryz.prog call n c20_8 a20_8
theorem q20_8 : g20_8 call n (rg 27 [(3, v3), (8, v8), (9, v9), (10, v10), (11, v11)]) K H = cndK (nj v11) (g20_9 call n (rg 27 [(3, v3), (8, v8), (9, v9), (10, v10), (11, v11)]) K) (g20_10 call n (rg 27 [(3, v3), (8, v8), (9, v9), (10, v10), (11, v11)]) K) H := by kernel_rfl
noncomputable def c20_11 : Code := csnd c20_7
noncomputable def c20_12 : Code := cfst c20_11
noncomputable def c20_13 : Code := cfst c20_12
noncomputable def c20_14 : Code := csnd c20_13
noncomputable def g20_14 := codeA Tryz.prog call n c20_14 .nil
theorem q20_14 : g20_14 call n (rg 27 [(3, v3), (5, v5), (8, v8), (9, v9), (10, v10)]) K H = (
  mvK (nj v3) fun x14 =>
  fldK (nj v5) 1 fun x15 =>
  ld1K (nj x15) fun x16 =>
  mvK (nj v3) fun x17 =>
  fldK (nj v5) 1 fun x18 =>
  ld1K (nj x18) fun x19 =>
  lokK (nj x17) (nj x19) Tryz.prog 29 false fun x20 =>
  fldK (nj v5) 3 fun x21 =>
  ld1K (nj x21) fun x22 =>
  calK (some (.fn 55 [] [])) call [(nj x22)] fun x23 =>
  ndmK (nj x17) (nj x19) Tryz.prog (some true) 29 false x20 <|
  ndlK (nj x18) Tryz.prog (some true) 26 x19 <|
  ndlK (nj x15) Tryz.prog (some true) 26 x16 <|
  calK (some (.fn 54 [] [])) call [(nj x20), (nj x23)] fun x24 =>
  ndlK (nj x18) Tryz.prog (some true) 26 x19 <|
  ndlK (nj x15) Tryz.prog (some true) 26 x16 <|
  updK (nj x14) (nj x16) (nj x24) Tryz.prog 29 fun _ =>
  K .norm (rg 27 [(3, v3), (5, v5), (8, v8), (9, v9), (10, v10), (14, x14), (15, x15), (16, x16), (17, x17), (18, x18), (19, x19), (20, x20), (21, x21), (22, x22), (23, x23), (24, x24)])) H := regP (by kernel_rfl) (by kernel_rfl)
noncomputable def a20_13 : Ann := .two (some 1832) .nil .nil
noncomputable def g20_13 := codeA Tryz.prog call n c20_13 a20_13
theorem q20_13 : g20_13 call n (rg 27 [(3, v3), (8, v8), (9, v9), (10, v10)]) K H = (
  idxZ (nj v8) (nj v10) 4 fun x12 =>
  ldK (nj x12) 4 fun x13 =>
  alcK 28 [(.int .u32 0), (.int .u16 0), (.int .u16 0), (.int .i64 0)] fun x5 =>
  stK (nj x5) (nj x13) 4 fun _ =>
  g20_14 call n (rg 27 [(3, v3), (5, x5), (8, v8), (9, v9), (10, v10)]) K) H := seqP (cfst c20_13) c20_14 (by kernel_rfl) (by kernel_rfl)
noncomputable def g20_12 := codeA Tryz.prog call n c20_12 a20_13
theorem q20_12 : g20_12 call n r K H = g20_13 call n r (blkK 1 K) H := by kernel_rfl
noncomputable def c20_15 : Code := csnd c20_11
noncomputable def g20_15 := codeA Tryz.prog call n c20_15 .nil
theorem q20_15 : g20_15 call n (rg 27 [(3, v3), (8, v8), (9, v9), (10, v10)]) K H = (
  binK (nj v10) (some (.int .i64 1)) Tryz.prog .add 3 (.tmp 10) (.const (.int .i64 1)) fun x25 =>
  mvK (nj x25) fun x10 =>
  K .norm (rg 27 [(3, v3), (8, v8), (9, v9), (10, x10), (25, x25)])) H := regP (by kernel_rfl) (by kernel_rfl)
noncomputable def a20_11 : Ann := .two (some 1800) a20_13 .nil
noncomputable def g20_11 := codeA Tryz.prog call n c20_11 a20_11
theorem q20_11 : g20_11 call n r K H = g20_12 call n r (seqK (fun r => g20_15 call n (keepA (some 1800) r) K) K) H := by kernel_rfl
noncomputable def a20_7 : Ann := .two (some 1800) a20_8 a20_11
noncomputable def g20_7 := codeA Tryz.prog call n c20_7 a20_7
theorem q20_7 : g20_7 call n r K H = g20_8 call n r (seqK (fun r => g20_11 call n (keepA (some 1800) r) K) K) H := by kernel_rfl
noncomputable def a20_6 : Ann := .two (some 3848) .nil a20_7
noncomputable def g20_6 := codeA Tryz.prog call n c20_6 a20_6
theorem q20_6 : g20_6 call n (rg 27 [(3, v3), (8, v8), (9, v9), (10, v10)]) K H = (
  binK (nj v10) (nj v9) Tryz.prog .lss 3 (.tmp 10) (.tmp 9) fun x11 =>
  g20_7 call n (rg 27 [(3, v3), (8, v8), (9, v9), (10, v10), (11, x11)]) K) H := seqP (cfst c20_6) c20_7 (by kernel_rfl) (by kernel_rfl)
noncomputable def a20_5 : Ann := .two (some 1800) a20_6 .nil
noncomputable def g20_5 := codeA Tryz.prog call n c20_5 a20_5
-- loop: registers [3, 8, 9, 10]
theorem q20_5 : g20_5 call n r K H = loopA (g20_6 call n) (some 1800) n r K H := by kernel_rfl
noncomputable def g20_4 := codeA Tryz.prog call n c20_4 a20_5
theorem q20_4 : g20_4 call n r K H = g20_5 call n r (blkK 0 K) H := by kernel_rfl
noncomputable def a20_3 : Ann := .two (some 1800) .nil a20_5
noncomputable def g20_3 := codeA Tryz.prog call n c20_3 a20_3
theorem q20_3 : g20_3 call n (rg 27 [(1, v1), (3, v3)]) K H = (
  fldK (nj v1) 1 fun x7 =>
  ld1K (nj x7) fun x8 =>
  lenSZ (nj x8) fun x9 =>
  mvK (some (.int .i64 0)) fun x10 =>
  g20_4 call n (rg 27 [(3, v3), (8, x8), (9, x9), (10, x10)]) K) H := seqP (cfst c20_3) c20_4 (by kernel_rfl) (by kernel_rfl)
noncomputable def c20_16 : Code := csnd c20_2
noncomputable def c20_17 : Code := csnd c20_16
noncomputable def g20_17 := codeA Tryz.prog call n c20_17 .nil
theorem q20_17 : g20_17 call n r K H = K .ret r H := by kernel_rfl
noncomputable def a20_16 : Ann := .two (some 4) .nil .nil
noncomputable def g20_16 := codeA Tryz.prog call n c20_16 a20_16
theorem q20_16 : g20_16 call n (rg 27 [(3, v3)]) K H = (
  mvK (nj v3) fun x26 =>
  mvK (nj x26) fun x2 =>
  g20_17 call n (rg 27 [(2, x2)]) K) H := seqP (cfst c20_16) c20_17 (by kernel_rfl) (by kernel_rfl)
noncomputable def a20_2 : Ann := .two (some 8) a20_3 a20_16
noncomputable def g20_2 := codeA Tryz.prog call n c20_2 a20_2
theorem q20_2 : g20_2 call n r K H = g20_3 call n r (seqK (fun r => g20_16 call n (keepA (some 8) r) K) K) H := by kernel_rfl
noncomputable def a20_1 : Ann := .two (some 10) .nil a20_2
noncomputable def g20_1 := codeA Tryz.prog call n c20_1 a20_1
theorem q20_1 : g20_1 call n (rg 27 [(1, v1)]) K H = (
  mapK fun x6 =>
  mvK (nj x6) fun x3 =>
  g20_2 call n (rg 27 [(1, v1), (3, x3)]) K) H := seqP (cfst c20_1) c20_2 (by kernel_rfl) (by kernel_rfl)
noncomputable def a20_0 : Ann := .two (some 2) .nil a20_1
noncomputable def g20_0 := codeA Tryz.prog call n c20_0 a20_0
theorem q20_0 : g20_0 call n (rg 27 [(0, v0)]) K H = (
  boxK (nj v0) 32 fun x1 =>
  mvK (some (.mp none)) fun x2 =>
  g20_1 call n (rg 27 [(1, x1)]) K) H := seqP (cfst c20_0) c20_1 (by kernel_rfl) (by kernel_rfl)
theorem ret20 (l : List (Nat × AV)) : retK Tryz.prog Tryz.f20 .ret (rg 27 l) H = ofO (resO [nj (getL l 2)]) (fun v => .ret (v, H)) := by kernel_rfl
theorem ent20 (L : Lib) (hs : L.sum 20 = none) (ha : L.ann 20 = a20_0) : callA Tryz.prog L (n + 1) 20 [v0] H = g20_0 (callA Tryz.prog L n) n (rg 27 [(0, v0)]) (retK Tryz.prog Tryz.f20) H := entP hs Tryz.func20 ha (by kernel_rfl)
def w20 := And.intro @q20_9 <| And.intro @q20_10 <| And.intro @q20_8 <| And.intro @q20_14 <| And.intro @q20_13 <| And.intro @q20_12 <| And.intro @q20_15 <| And.intro @q20_11 <| And.intro @q20_7 <| And.intro @q20_6 <| And.intro @q20_5 <| And.intro @q20_4 <| And.intro @q20_3 <| And.intro @q20_17 <| And.intro @q20_16 <| And.intro @q20_2 <| And.intro @q20_1 <| And.intro @q20_0 <| @ret20


/-! ### 21 transposal/transposallaw09.sums -/
noncomputable def c21_0 : Code := (Tryz.f21.body).getD .skip
noncomputable def c21_1 : Code := csnd c21_0
noncomputable def c21_2 : Code := csnd c21_1
noncomputable def c21_3 : Code := cfst c21_2
noncomputable def c21_4 : Code := csnd c21_3
noncomputable def c21_5 : Code := cfst c21_4
noncomputable def c21_6 : Code := cfst c21_5
noncomputable def c21_7 : Code := csnd c21_6
noncomputable def c21_8 : Code := cfst c21_7
noncomputable def c21_9 : Code := cfst c21_8
noncomputable def g21_9 := codeA Tryz.prog call n c21_9 .nil
theorem q21_9 : g21_9 call n r K H = K .norm r H := by kernel_rfl
noncomputable def c21_10 : Code := csnd c21_8
noncomputable def g21_10 := codeA Tryz.prog call n c21_10 .nil
theorem q21_10 : g21_10 call n r K H = K (.exit 0) r H := by kernel_rfl
noncomputable def a21_8 : Ann := .two none .nil .nil
noncomputable def g21_8 := codeA Tryz.prog call n c21_8 a21_8
theorem q21_8 : g21_8 call n (rg 30 [(3, v3), (7, v7), (8, v8), (9, v9), (10, v10)]) K H = cndK (nj v10) (g21_9 call n (rg 30 [(3, v3), (7, v7), (8, v8), (9, v9), (10, v10)]) K) (g21_10 call n (rg 30 [(3, v3), (7, v7), (8, v8), (9, v9), (10, v10)]) K) H := by kernel_rfl
noncomputable def c21_11 : Code := csnd c21_7
noncomputable def c21_12 : Code := cfst c21_11
noncomputable def c21_13 : Code := cfst c21_12
noncomputable def c21_14 : Code := csnd c21_13
noncomputable def g21_14 := codeA Tryz.prog call n c21_14 .nil
theorem q21_14 : g21_14 call n (rg 30 [(3, v3), (5, v5), (7, v7), (8, v8), (9, v9)]) K H = (
  mvK (nj v3) fun x13 =>
  fldK (nj v5) 1 fun x14 =>
  ld1K (nj x14) fun x15 =>
  mvK (nj v3) fun x16 =>
  fldK (nj v5) 1 fun x17 =>
  ld1K (nj x17) fun x18 =>
  lokK (nj x16) (nj x18) Tryz.prog 34 false fun x19 =>
  fldK (nj v5) 3 fun x20 =>
  ld1K (nj x20) fun x21 =>
  binK (nj x21) (some (.int .u64 63)) Tryz.prog .shr 2 (.tmp 21) (.const (.int .u64 63)) fun x22 =>
  fldK (nj v5) 3 fun x23 =>
  ld1K (nj x23) fun x24 =>
  cnvZ (nj x24) .u64 fun x25 =>
  calK (some (.fn 57 [] [])) call [(nj x22), (nj x25)] fun x26 =>
  ndlK (nj x23) Tryz.prog (some true) 2 x24 <|
  ndlK (nj x20) Tryz.prog (some true) 2 x21 <|
  ndmK (nj x16) (nj x18) Tryz.prog (some true) 34 false x19 <|
  ndlK (nj x17) Tryz.prog (some true) 26 x18 <|
  ndlK (nj x14) Tryz.prog (some true) 26 x15 <|
  calK (some (.fn 56 [] [])) call [(nj x19), (nj x26)] fun x27 =>
  ndlK (nj x23) Tryz.prog (some true) 2 x24 <|
  ndlK (nj x20) Tryz.prog (some true) 2 x21 <|
  ndlK (nj x17) Tryz.prog (some true) 26 x18 <|
  ndlK (nj x14) Tryz.prog (some true) 26 x15 <|
  updK (nj x13) (nj x15) (nj x27) Tryz.prog 34 fun _ =>
  K .norm (rg 30 [(3, v3), (5, v5), (7, v7), (8, v8), (9, v9), (13, x13), (14, x14), (15, x15), (16, x16), (17, x17), (18, x18), (19, x19), (20, x20), (21, x21), (22, x22), (23, x23), (24, x24), (25, x25), (26, x26), (27, x27)])) H := regP (by kernel_rfl) (by kernel_rfl)
noncomputable def a21_13 : Ann := .two (some 936) .nil .nil
noncomputable def g21_13 := codeA Tryz.prog call n c21_13 a21_13
theorem q21_13 : g21_13 call n (rg 30 [(3, v3), (7, v7), (8, v8), (9, v9)]) K H = (
  idxZ (nj v7) (nj v9) 4 fun x11 =>
  ldK (nj x11) 4 fun x12 =>
  alcK 28 [(.int .u32 0), (.int .u16 0), (.int .u16 0), (.int .i64 0)] fun x5 =>
  stK (nj x5) (nj x12) 4 fun _ =>
  g21_14 call n (rg 30 [(3, v3), (5, x5), (7, v7), (8, v8), (9, v9)]) K) H := seqP (cfst c21_13) c21_14 (by kernel_rfl) (by kernel_rfl)
noncomputable def g21_12 := codeA Tryz.prog call n c21_12 a21_13
theorem q21_12 : g21_12 call n r K H = g21_13 call n r (blkK 1 K) H := by kernel_rfl
noncomputable def c21_15 : Code := csnd c21_11
noncomputable def g21_15 := codeA Tryz.prog call n c21_15 .nil
theorem q21_15 : g21_15 call n (rg 30 [(3, v3), (7, v7), (8, v8), (9, v9)]) K H = (
  binK (nj v9) (some (.int .i64 1)) Tryz.prog .add 3 (.tmp 9) (.const (.int .i64 1)) fun x28 =>
  mvK (nj x28) fun x9 =>
  K .norm (rg 30 [(3, v3), (7, v7), (8, v8), (9, x9), (28, x28)])) H := regP (by kernel_rfl) (by kernel_rfl)
noncomputable def a21_11 : Ann := .two (some 904) a21_13 .nil
noncomputable def g21_11 := codeA Tryz.prog call n c21_11 a21_11
theorem q21_11 : g21_11 call n r K H = g21_12 call n r (seqK (fun r => g21_15 call n (keepA (some 904) r) K) K) H := by kernel_rfl
noncomputable def a21_7 : Ann := .two (some 904) a21_8 a21_11
noncomputable def g21_7 := codeA Tryz.prog call n c21_7 a21_7
theorem q21_7 : g21_7 call n r K H = g21_8 call n r (seqK (fun r => g21_11 call n (keepA (some 904) r) K) K) H := by kernel_rfl
noncomputable def a21_6 : Ann := .two (some 1928) .nil a21_7
noncomputable def g21_6 := codeA Tryz.prog call n c21_6 a21_6
theorem q21_6 : g21_6 call n (rg 30 [(3, v3), (7, v7), (8, v8), (9, v9)]) K H = (
  binK (nj v9) (nj v8) Tryz.prog .lss 3 (.tmp 9) (.tmp 8) fun x10 =>
  g21_7 call n (rg 30 [(3, v3), (7, v7), (8, v8), (9, v9), (10, x10)]) K) H := seqP (cfst c21_6) c21_7 (by kernel_rfl) (by kernel_rfl)
noncomputable def a21_5 : Ann := .two (some 904) a21_6 .nil
noncomputable def g21_5 := codeA Tryz.prog call n c21_5 a21_5
-- loop: registers [3, 7, 8, 9]
theorem q21_5 : g21_5 call n r K H = loopA (g21_6 call n) (some 904) n r K H := by kernel_rfl
noncomputable def g21_4 := codeA Tryz.prog call n c21_4 a21_5
theorem q21_4 : g21_4 call n r K H = g21_5 call n r (blkK 0 K) H := by kernel_rfl
noncomputable def a21_3 : Ann := .two (some 904) .nil a21_5
noncomputable def g21_3 := codeA Tryz.prog call n c21_3 a21_3
theorem q21_3 : g21_3 call n (rg 30 [(0, v0), (3, v3)]) K H = (
  mvK (nj v0) fun x7 =>
  lenSZ (nj x7) fun x8 =>
  mvK (some (.int .i64 0)) fun x9 =>
  g21_4 call n (rg 30 [(3, v3), (7, x7), (8, x8), (9, x9)]) K) H := seqP (cfst c21_3) c21_4 (by kernel_rfl) (by kernel_rfl)
noncomputable def c21_16 : Code := csnd c21_2
noncomputable def c21_17 : Code := csnd c21_16
noncomputable def g21_17 := codeA Tryz.prog call n c21_17 .nil
theorem q21_17 : g21_17 call n r K H = K .ret r H := by kernel_rfl
noncomputable def a21_16 : Ann := .two (some 4) .nil .nil
noncomputable def g21_16 := codeA Tryz.prog call n c21_16 a21_16
theorem q21_16 : g21_16 call n (rg 30 [(3, v3)]) K H = (
  mvK (nj v3) fun x29 =>
  mvK (nj x29) fun x2 =>
  g21_17 call n (rg 30 [(2, x2)]) K) H := seqP (cfst c21_16) c21_17 (by kernel_rfl) (by kernel_rfl)
noncomputable def a21_2 : Ann := .two (some 8) a21_3 a21_16
noncomputable def g21_2 := codeA Tryz.prog call n c21_2 a21_2
theorem q21_2 : g21_2 call n r K H = g21_3 call n r (seqK (fun r => g21_16 call n (keepA (some 8) r) K) K) H := by kernel_rfl
noncomputable def a21_1 : Ann := .two (some 9) .nil a21_2
noncomputable def g21_1 := codeA Tryz.prog call n c21_1 a21_1
theorem q21_1 : g21_1 call n (rg 30 [(0, v0)]) K H = (
  mapK fun x6 =>
  mvK (nj x6) fun x3 =>
  g21_2 call n (rg 30 [(0, v0), (3, x3)]) K) H := seqP (cfst c21_1) c21_2 (by kernel_rfl) (by kernel_rfl)
noncomputable def a21_0 : Ann := .two (some 1) .nil a21_1
noncomputable def g21_0 := codeA Tryz.prog call n c21_0 a21_0
theorem q21_0 : g21_0 call n (rg 30 [(0, v0)]) K H = (
  mvK (some (.mp none)) fun x2 =>
  g21_1 call n (rg 30 [(0, v0)]) K) H := seqP (cfst c21_0) c21_1 (by kernel_rfl) (by kernel_rfl)
theorem ret21 (l : List (Nat × AV)) : retK Tryz.prog Tryz.f21 .ret (rg 30 l) H = ofO (resO [nj (getL l 2)]) (fun v => .ret (v, H)) := by kernel_rfl
theorem ent21 (L : Lib) (hs : L.sum 21 = none) (ha : L.ann 21 = a21_0) : callA Tryz.prog L (n + 1) 21 [v0] H = g21_0 (callA Tryz.prog L n) n (rg 30 [(0, v0)]) (retK Tryz.prog Tryz.f21) H := entP hs Tryz.func21 ha (by kernel_rfl)
def w21 := And.intro @q21_9 <| And.intro @q21_10 <| And.intro @q21_8 <| And.intro @q21_14 <| And.intro @q21_13 <| And.intro @q21_12 <| And.intro @q21_15 <| And.intro @q21_11 <| And.intro @q21_7 <| And.intro @q21_6 <| And.intro @q21_5 <| And.intro @q21_4 <| And.intro @q21_3 <| And.intro @q21_17 <| And.intro @q21_16 <| And.intro @q21_2 <| And.intro @q21_1 <| And.intro @q21_0 <| @ret21


/-! ### 22 transposal/transposalref01.Number -/
noncomputable def c22_0 : Code := (Tryz.f22.body).getD .skip
noncomputable def c22_1 : Code := csnd c22_0
noncomputable def c22_2 : Code := csnd c22_1
noncomputable def c22_3 : Code := cfst c22_2
noncomputable def c22_4 : Code := csnd c22_3
noncomputable def c22_5 : Code := cfst c22_4
noncomputable def c22_6 : Code := cfst c22_5
noncomputable def c22_7 : Code := cfst c22_6
noncomputable def c22_8 : Code := csnd c22_7
noncomputable def c22_9 : Code := cfst c22_8
noncomputable def g22_9 := codeA Tryz.prog call n c22_9 .nil
theorem q22_9 : g22_9 call n r K H = K .norm r H := by kernel_rfl
noncomputable def c22_10 : Code := csnd c22_8
noncomputable def g22_10 := codeA Tryz.prog call n c22_10 .nil
theorem q22_10 : g22_10 call n r K H = K (.exit 0) r H := by kernel_rfl
noncomputable def a22_8 : Ann := .two none .nil .nil
noncomputable def g22_8 := codeA Tryz.prog call n c22_8 a22_8
theorem q22_8 : g22_8 call n (rg 31 [(1, v1), (4, v4), (5, v5), (6, v6), (8, v8)]) K H = cndK (nj v8) (g22_9 call n (rg 31 [(1, v1), (4, v4), (5, v5), (6, v6), (8, v8)]) K) (g22_10 call n (rg 31 [(1, v1), (4, v4), (5, v5), (6, v6), (8, v8)]) K) H := by kernel_rfl
noncomputable def a22_7 : Ann := .two (some 370) .nil a22_8
noncomputable def g22_7 := codeA Tryz.prog call n c22_7 a22_7
theorem q22_7 : g22_7 call n (rg 31 [(1, v1), (4, v4), (5, v5), (6, v6)]) K H = (
  mvK (nj v6) fun x7 =>
  binK (nj x7) (some (.int .i64 64)) Tryz.prog .lss 3 (.tmp 7) (.const (.int .i64 64)) fun x8 =>
  g22_8 call n (rg 31 [(1, v1), (4, v4), (5, v5), (6, v6), (8, x8)]) K) H := seqP (cfst c22_7) c22_8 (by kernel_rfl) (by kernel_rfl)
noncomputable def c22_11 : Code := csnd c22_6
noncomputable def c22_12 : Code := cfst c22_11
noncomputable def c22_13 : Code := cfst c22_12
noncomputable def c22_14 : Code := csnd c22_13
noncomputable def g22_14 := codeA Tryz.prog call n c22_14 .nil
theorem q22_14 : g22_14 call n (rg 31 [(1, v1), (4, v4), (5, v5), (6, v6)]) K H = (
  mvK (nj v4) fun x19 =>
  mvK (nj v6) fun x20 =>
  binK (some (.int .i64 64)) (nj x20) Tryz.prog .add 3 (.const (.int .i64 64)) (.tmp 20) fun x21 =>
  idxY (nj v1) (nj x21) 128 1 fun x22 =>
  ld1K (nj x22) fun x23 =>
  cnvZ (nj x23) .u64 fun x24 =>
  mvK (nj v6) fun x25 =>
  binK (nj x24) (nj x25) Tryz.prog .shl 37 (.tmp 24) (.tmp 25) fun x26 =>
  binK (nj x19) (nj x26) Tryz.prog .add 37 (.tmp 19) (.tmp 26) fun x27 =>
  mvK (nj x27) fun x4 =>
  K .norm (rg 31 [(1, v1), (4, x4), (5, v5), (6, v6), (19, x19), (20, x20), (21, x21), (22, x22), (23, x23), (24, x24), (25, x25), (26, x26), (27, x27)])) H := regP (by kernel_rfl) (by kernel_rfl)
noncomputable def a22_13 : Ann := .two (some 114) .nil .nil
noncomputable def g22_13 := codeA Tryz.prog call n c22_13 a22_13
theorem q22_13 : g22_13 call n (rg 31 [(1, v1), (4, v4), (5, v5), (6, v6)]) K H = (
  mvK (nj v5) fun x11 =>
  mvK (nj v6) fun x12 =>
  idxY (nj v1) (nj x12) 128 1 fun x13 =>
  ld1K (nj x13) fun x14 =>
  cnvZ (nj x14) .u64 fun x15 =>
  mvK (nj v6) fun x16 =>
  binK (nj x15) (nj x16) Tryz.prog .shl 37 (.tmp 15) (.tmp 16) fun x17 =>
  binK (nj x11) (nj x17) Tryz.prog .add 37 (.tmp 11) (.tmp 17) fun x18 =>
  mvK (nj x18) fun x5 =>
  g22_14 call n (rg 31 [(1, v1), (4, v4), (5, x5), (6, v6)]) K) H := seqP (cfst c22_13) c22_14 (by kernel_rfl) (by kernel_rfl)
noncomputable def g22_12 := codeA Tryz.prog call n c22_12 a22_13
theorem q22_12 : g22_12 call n r K H = g22_13 call n r (blkK 1 K) H := by kernel_rfl
noncomputable def c22_15 : Code := csnd c22_11
noncomputable def g22_15 := codeA Tryz.prog call n c22_15 .nil
theorem q22_15 : g22_15 call n (rg 31 [(1, v1), (4, v4), (5, v5), (6, v6)]) K H = (
  mvK (nj v6) fun x9 =>
  binK (nj x9) (some (.int .i64 1)) Tryz.prog .add 3 (.tmp 9) (.const (.int .i64 1)) fun x10 =>
  mvK (nj x10) fun x6 =>
  K .norm (rg 31 [(1, v1), (4, v4), (5, v5), (6, x6), (9, x9), (10, x10)])) H := regP (by kernel_rfl) (by kernel_rfl)
noncomputable def a22_11 : Ann := .two (some 114) a22_13 .nil
noncomputable def g22_11 := codeA Tryz.prog call n c22_11 a22_11
theorem q22_11 : g22_11 call n r K H = g22_12 call n r (seqK (fun r => g22_15 call n (keepA (some 114) r) K) K) H := by kernel_rfl
noncomputable def a22_6 : Ann := .two (some 114) a22_7 a22_11
noncomputable def g22_6 := codeA Tryz.prog call n c22_6 a22_6
theorem q22_6 : g22_6 call n r K H = g22_7 call n r (seqK (fun r => g22_11 call n (keepA (some 114) r) K) K) H := by kernel_rfl
noncomputable def a22_5 : Ann := .two (some 114) a22_6 .nil
noncomputable def g22_5 := codeA Tryz.prog call n c22_5 a22_5
-- loop: registers [1, 4, 5, 6]
theorem q22_5 : g22_5 call n r K H = loopA (g22_6 call n) (some 114) n r K H := by kernel_rfl
noncomputable def g22_4 := codeA Tryz.prog call n c22_4 a22_5
theorem q22_4 : g22_4 call n r K H = g22_5 call n r (blkK 0 K) H := by kernel_rfl
noncomputable def a22_3 : Ann := .two (some 114) .nil a22_5
noncomputable def g22_3 := codeA Tryz.prog call n c22_3 a22_3
theorem q22_3 : g22_3 call n (rg 31 [(1, v1), (4, v4), (5, v5)]) K H = (
  mvK (some (.int .i64 0)) fun x6 =>
  g22_4 call n (rg 31 [(1, v1), (4, v4), (5, v5), (6, x6)]) K) H := seqP (cfst c22_3) c22_4 (by kernel_rfl) (by kernel_rfl)
noncomputable def c22_16 : Code := csnd c22_2
noncomputable def c22_17 : Code := csnd c22_16
noncomputable def g22_17 := codeA Tryz.prog call n c22_17 .nil
theorem q22_17 : g22_17 call n r K H = K .ret r H := by kernel_rfl
noncomputable def a22_16 : Ann := .two (some 12) .nil .nil
noncomputable def g22_16 := codeA Tryz.prog call n c22_16 a22_16
theorem q22_16 : g22_16 call n (rg 31 [(4, v4), (5, v5)]) K H = (
  mvK (nj v4) fun x28 =>
  cnvZ (nj x28) .i64 fun x29 =>
  mvK (nj v5) fun x30 =>
  mvK (nj x29) fun x2 =>
  mvK (nj x30) fun x3 =>
  g22_17 call n (rg 31 [(2, x2), (3, x3)]) K) H := seqP (cfst c22_16) c22_17 (by kernel_rfl) (by kernel_rfl)
noncomputable def a22_2 : Ann := .two (some 48) a22_3 a22_16
noncomputable def g22_2 := codeA Tryz.prog call n c22_2 a22_2
theorem q22_2 : g22_2 call n r K H = g22_3 call n r (seqK (fun r => g22_16 call n (keepA (some 48) r) K) K) H := by kernel_rfl
noncomputable def a22_1 : Ann := .two (some 50) .nil a22_2
noncomputable def g22_1 := codeA Tryz.prog call n c22_1 a22_1
theorem q22_1 : g22_1 call n (rg 31 [(1, v1)]) K H = (
  mvK (some (.int .u64 0)) fun x4 =>
  mvK (some (.int .u64 0)) fun x5 =>
  g22_2 call n (rg 31 [(1, v1), (4, x4), (5, x5)]) K) H := seqP (cfst c22_1) c22_2 (by kernel_rfl) (by kernel_rfl)
noncomputable def a22_0 : Ann := .two (some 2) .nil a22_1
noncomputable def g22_0 := codeA Tryz.prog call n c22_0 a22_0
theorem q22_0 : g22_0 call n (rg 31 [(0, v0)]) K H = (
  boxK (nj v0) 36 fun x1 =>
  mvK (some (.int .i64 0)) fun x2 =>
  mvK (some (.int .u64 0)) fun x3 =>
  g22_1 call n (rg 31 [(1, x1)]) K) H := seqP (cfst c22_0) c22_1 (by kernel_rfl) (by kernel_rfl)
theorem ret22 (l : List (Nat × AV)) : retK Tryz.prog Tryz.f22 .ret (rg 31 l) H = ofO (resO [nj (getL l 2), nj (getL l 3)]) (fun v => .ret (v, H)) := by kernel_rfl
theorem ent22 (L : Lib) (hs : L.sum 22 = none) (ha : L.ann 22 = a22_0) : callA Tryz.prog L (n + 1) 22 [v0] H = g22_0 (callA Tryz.prog L n) n (rg 31 [(0, v0)]) (retK Tryz.prog Tryz.f22) H := entP hs Tryz.func22 ha (by kernel_rfl)
def w22 := And.intro @q22_9 <| And.intro @q22_10 <| And.intro @q22_8 <| And.intro @q22_7 <| And.intro @q22_14 <| And.intro @q22_13 <| And.intro @q22_12 <| And.intro @q22_15 <| And.intro @q22_11 <| And.intro @q22_6 <| And.intro @q22_5 <| And.intro @q22_4 <| And.intro @q22_3 <| And.intro @q22_17 <| And.intro @q22_16 <| And.intro @q22_2 <| And.intro @q22_1 <| And.intro @q22_0 <| @ret22


end Go.Proofs.YtlcfkeigipkhlaaGreatDoorAbs
