/- The program's code of the functions that are met, in words that the abstract machine carries out; each is shown to be the given code by the kernel. Printed by a program of mine. -/
import Derived.Test.YtlcfkeigipkhlaaGreatDoorW0
import Derived.Test.YtlcfkeigipkhlaaGreatDoorProg
set_option linter.unusedVariables false
set_option linter.defProp false
namespace Go.Proofs.YtlcfkeigipkhlaaGreatDoorAbs
open Go Go.Proofs
variable (call : FuncId → List AV → M) (n : Nat) (r : List AV) (K : AExit → List AV → M) (H : Heap)
variable (v0 v1 v2 v3 v4 v5 v6 v7 v8 v9 v10 v11 v12 v13 v14 v15 v16 v17 v18 v19 v20 v21 v22 v23 v24 v25 v26 v27 v28 v29 : AV)
variable (v30 v31 v32 v33 v34 v35 v36 v37 v38 v39 v40 v41 v42 v43 v44 v45 v46 v47 v48 v49 v50 v51 v52 v53 v54 v55 v56 v57 v58 v59 : AV)
variable (v60 v61 v62 v63 v64 v65 v66 v67 v68 v69 v70 v71 v72 v73 v74 v75 v76 v77 v78 v79 v80 v81 v82 v83 v84 v85 v86 v87 v88 v89 : AV)
variable (v90 v91 v92 v93 v94 v95 v96 v97 v98 v99 v100 v101 v102 v103 v104 v105 v106 v107 v108 v109 v110 v111 v112 v113 v114 v115 v116 v117 v118 v119 : AV)
variable (v120 v121 v122 v123 v124 v125 v126 v127 v128 v129 v130 v131 v132 v133 v134 v135 v136 v137 v138 v139 v140 v141 v142 v143 v144 v145 v146 v147 v148 v149 : AV)
variable (v150 v151 v152 v153 v154 v155 v156 v157 v158 v159 v160 v161 v162 v163 v164 v165 v166 v167 v168 v169 v170 v171 v172 v173 v174 v175 v176 v177 v178 v179 : AV)
variable (v180 v181 v182 v183 v184 v185 v186 v187 v188 v189 v190 v191 v192 v193 v194 v195 v196 v197 v198 v199 v200 v201 v202 v203 v204 v205 v206 v207 v208 v209 : AV)
variable (v210 v211 v212 v213 v214 v215 v216 v217 v218 v219 v220 v221 v222 v223 v224 v225 v226 v227 v228 v229 v230 v231 v232 v233 v234 v235 v236 v237 v238 v239 : AV)
theorem lda26 (x : AV) : loadA Tryz.prog 26 x H = ld1 x H := by kernel_rfl
theorem lda36 (x : AV) : loadA Tryz.prog 36 x H = ldA 128 x H := by kernel_rfl
theorem lok29 (x k : AV) (ok : Bool) : lookupA Tryz.prog 29 x k ok H = lokA .i (.agg [(.int .i64 0), (.int .u64 0)]) x k ok H := lok_eq (by kernel_rfl)
theorem lda28 (x : AV) : loadA Tryz.prog 28 x H = ldA 4 x H := by kernel_rfl
theorem lda2 (x : AV) : loadA Tryz.prog 2 x H = ld1 x H := by kernel_rfl
theorem app22_22_22 (x y : AV) (K : AV → M) : bltK Tryz.prog .append #[22, 22] 22 [some x, some y] K H = appC 28 4 [(.int .u32 0), (.int .u16 0), (.int .u16 0), (.int .i64 0)] 16 x y K H := app_eq (by kernel_rfl)
theorem lda32 (x : AV) : loadA Tryz.prog 32 x H = ldA 2 x H := by kernel_rfl
theorem lda22 (x : AV) : loadA Tryz.prog 22 x H = ld1 x H := by kernel_rfl
theorem lda41 (x : AV) : loadA Tryz.prog 41 x H = ldA 2 x H := by kernel_rfl
theorem lda55 (x : AV) : loadA Tryz.prog 55 x H = ldA 5 x H := by kernel_rfl
theorem lda57 (x : AV) : loadA Tryz.prog 57 x H = ldA 4 x H := by kernel_rfl
theorem lda65 (x : AV) : loadA Tryz.prog 65 x H = ldA 4 x H := by kernel_rfl
theorem lda73 (x : AV) : loadA Tryz.prog 73 x H = ldA 5 x H := by kernel_rfl
theorem lda71 (x : AV) : loadA Tryz.prog 71 x H = ld1 x H := by kernel_rfl
theorem lda30 (x : AV) : loadA Tryz.prog 30 x H = ld1 x H := by kernel_rfl
theorem app71_71_71 (x y : AV) (K : AV → M) : bltK Tryz.prog .append #[71, 71] 71 [some x, some y] K H = appC 32 2 [(.int .i32 0), .nils] 32 x y K H := app_eq (by kernel_rfl)
theorem app52_52_52 (x y : AV) (K : AV → M) : bltK Tryz.prog .append #[52, 52] 52 [some x, some y] K H = appC 5 1 [(.int .u8 0)] 1 x y K H := app_eq (by kernel_rfl)
theorem lda21 (x : AV) : loadA Tryz.prog 21 x H = ld1 x H := by kernel_rfl
theorem lda61 (x : AV) : loadA Tryz.prog 61 x H = ld1 x H := by kernel_rfl
theorem app61_61_61 (x y : AV) (K : AV → M) : bltK Tryz.prog .append #[61, 61] 61 [some x, some y] K H = appC 30 1 [(.int .i32 0)] 4 x y K H := app_eq (by kernel_rfl)
theorem lda59 (x : AV) : loadA Tryz.prog 59 x H = ld1 x H := by kernel_rfl
theorem lda60 (x : AV) : loadA Tryz.prog 60 x H = ld1 x H := by kernel_rfl
theorem lda63 (x : AV) : loadA Tryz.prog 63 x H = ldA 2 x H := by kernel_rfl
theorem upd29 (x k v : AV) : mapUpdateA Tryz.prog 29 x k v H = updM .i x k v H := upd_eq (by kernel_rfl)
theorem lok34 (x k : AV) (ok : Bool) : lookupA Tryz.prog 34 x k ok H = lokA .i (.agg (List.replicate 128 (.int .i64 0))) x k ok H := lok_eq (by kernel_rfl)
theorem upd34 (x k v : AV) : mapUpdateA Tryz.prog 34 x k v H = updM .i x k v H := upd_eq (by kernel_rfl)
theorem lda3 (x : AV) : loadA Tryz.prog 3 x H = ld1 x H := by kernel_rfl
theorem lda37 (x : AV) : loadA Tryz.prog 37 x H = ld1 x H := by kernel_rfl
theorem lda53 (x : AV) : loadA Tryz.prog 53 x H = ld1 x H := by kernel_rfl
theorem lda110 (x : AV) : loadA Tryz.prog 110 x H = ldA 2 x H := by kernel_rfl
theorem lda108 (x : AV) : loadA Tryz.prog 108 x H = ld1 x H := by kernel_rfl
theorem lda49 (x : AV) : loadA Tryz.prog 49 x H = ld1 x H := by kernel_rfl
theorem lda50 (x : AV) : loadA Tryz.prog 50 x H = ld1 x H := by kernel_rfl
theorem lda52 (x : AV) : loadA Tryz.prog 52 x H = ld1 x H := by kernel_rfl
theorem lda51 (x : AV) : loadA Tryz.prog 51 x H = ld1 x H := by kernel_rfl
theorem lda5 (x : AV) : loadA Tryz.prog 5 x H = ld1 x H := by kernel_rfl
theorem lda25 (x : AV) : loadA Tryz.prog 25 x H = ld1 x H := by kernel_rfl
theorem lda116 (x : AV) : loadA Tryz.prog 116 x H = ldA 4 x H := by kernel_rfl
theorem lda9 (x : AV) : loadA Tryz.prog 9 x H = ld1 x H := by kernel_rfl
theorem lda114 (x : AV) : loadA Tryz.prog 114 x H = ld1 x H := by kernel_rfl
theorem app59_59_59 (x y : AV) (K : AV → M) : bltK Tryz.prog .append #[59, 59] 59 [some x, some y] K H = appC 116 4 [(.int .u32 0), (.str ⟨#[]⟩), (.int .u8 0), (.int .u32 0)] 32 x y K H := app_eq (by kernel_rfl)
theorem app60_60_60 (x y : AV) (K : AV → M) : bltK Tryz.prog .append #[60, 60] 60 [some x, some y] K H = appC 26 1 [(.int .u16 0)] 2 x y K H := app_eq (by kernel_rfl)
theorem lda43 (x : AV) : loadA Tryz.prog 43 x H = ld1 x H := by kernel_rfl
theorem lda44 (x : AV) : loadA Tryz.prog 44 x H = ld1 x H := by kernel_rfl
theorem lda165 (x : AV) : loadA Tryz.prog 165 x H = ldA 4 x H := by kernel_rfl
theorem lok170 (x k : AV) (ok : Bool) : lookupA Tryz.prog 170 x k ok H = lokA .i (.int .i64 0) x k ok H := lok_eq (by kernel_rfl)
theorem upd170 (x k v : AV) : mapUpdateA Tryz.prog 170 x k v H = updM .i x k v H := upd_eq (by kernel_rfl)
theorem app52_9_52 (x y : AV) (K : AV → M) : bltK Tryz.prog .append #[52, 9] 52 [some x, some y] K H = appC 5 1 [(.int .u8 0)] 1 x y K H := app_eq (by kernel_rfl)
theorem app180_180_180 (x y : AV) (K : AV → M) : bltK Tryz.prog .append #[180, 180] 180 [some x, some y] K H = appC 25 1 [(.int .u32 0)] 4 x y K H := app_eq (by kernel_rfl)
theorem lda197 (x : AV) : loadA Tryz.prog 197 x H = ldA 256 x H := by kernel_rfl
theorem app60_50_60 (x y : AV) (K : AV → M) : bltK Tryz.prog .append #[60, 50] 60 [some x, some y] K H = appC 26 1 [(.int .u16 0)] 2 x y K H := app_eq (by kernel_rfl)
theorem cpy60_50_3 (x y : AV) (K : AV → M) : bltK Tryz.prog .copy #[60, 50] 3 [some x, some y] K H = cpyC 1 x y K H := cpy_eq (e := 26) (by kernel_rfl)
theorem cpy60_60_3 (x y : AV) (K : AV → M) : bltK Tryz.prog .copy #[60, 60] 3 [some x, some y] K H = cpyC 1 x y K H := cpy_eq (e := 26) (by kernel_rfl)
theorem lda4 (x : AV) : loadA Tryz.prog 4 x H = ld1 x H := by kernel_rfl
theorem lda210 (x : AV) : loadA Tryz.prog 210 x H = ld1 x H := by kernel_rfl
theorem cpy52_52_3 (x y : AV) (K : AV → M) : bltK Tryz.prog .copy #[52, 52] 3 [some x, some y] K H = cpyC 1 x y K H := cpy_eq (e := 5) (by kernel_rfl)
theorem lda244 (x : AV) : loadA Tryz.prog 244 x H = ld1 x H := by kernel_rfl
theorem lda264 (x : AV) : loadA Tryz.prog 264 x H = ldA 2 x H := by kernel_rfl
def wfacts := And.intro @lda26 <| And.intro @lda36 <| And.intro @lok29 <| And.intro @lda28 <| And.intro @lda2 <| And.intro @app22_22_22 <| And.intro @lda32 <| And.intro @lda22 <| And.intro @lda41 <| And.intro @lda55 <| And.intro @lda57 <| And.intro @lda65 <| And.intro @lda73 <| And.intro @lda71 <| And.intro @lda30 <| And.intro @app71_71_71 <| And.intro @app52_52_52 <| And.intro @lda21 <| And.intro @lda61 <| And.intro @app61_61_61 <| And.intro @lda59 <| And.intro @lda60 <| And.intro @lda63 <| And.intro @upd29 <| And.intro @lok34 <| And.intro @upd34 <| And.intro @lda3 <| And.intro @lda37 <| And.intro @lda53 <| And.intro @lda110 <| And.intro @lda108 <| And.intro @lda49 <| And.intro @lda50 <| And.intro @lda52 <| And.intro @lda51 <| And.intro @lda5 <| And.intro @lda25 <| And.intro @lda116 <| And.intro @lda9 <| And.intro @lda114 <| And.intro @app59_59_59 <| And.intro @app60_60_60 <| And.intro @lda43 <| And.intro @lda44 <| And.intro @lda165 <| And.intro @lok170 <| And.intro @upd170 <| And.intro @app52_9_52 <| And.intro @app180_180_180 <| And.intro @lda197 <| And.intro @app60_50_60 <| And.intro @cpy60_50_3 <| And.intro @cpy60_60_3 <| And.intro @lda4 <| And.intro @lda210 <| And.intro @cpy52_52_3 <| And.intro @lda244 <| And.intro @lda264 <| True.intro

end Go.Proofs.YtlcfkeigipkhlaaGreatDoorAbs
