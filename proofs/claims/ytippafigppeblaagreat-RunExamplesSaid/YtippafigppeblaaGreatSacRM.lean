/- The closed statement's own function in direct form; its calls of run.All and of awake are parameters. -/
import Derived.Test.YtippafigppeblaaGreatSacCfg
import Derived.KernelRfl
namespace Go.Sac
set_option linter.unusedVariables false
set_option maxRecDepth 100000
open Go
def s3 (N : Nat) (κ : Oracles) (ap8 ap15 : List AV → St → R) (S : St) : R :=
 bindP (some (.bool false)) fun v0 =>
 bindC (apart κ.toOracle 6 [] S) pnA fun v21 S =>
 bindC (oAl S [.int .i64 0, .int .i64 0, .int .i64 0, .int .i64 0, .int .i64 0, .int .i64 0, .int .i64 0, .int .i64 0, .int .i64 0, .int .i64 0, .int .i64 0]) pnA fun v1 S =>
 bindC (ok (oStore 11 S v1 v21)) pnA fun _ S =>
 bindP (oFill (plS [(0, 1), (1, 1), (2, 1), (3, 1), (4, 1), (5, 1), (6, 1), (7, 3), (10, 3)]) [.int .u8 0, .int .i64 0, .int .i64 0, .int .i64 0, .int .i64 0, .bool false, .str [], .int .u64 0, .int .i64 0, .int .i64 0, .int .u64 0, .int .i64 0, .int .i64 0] [(0, (.int .u8 2))]) fun v22 =>
 bindP (oFill (plS [(0, 1), (1, 1), (2, 1), (3, 1), (4, 1), (5, 1), (6, 1), (7, 3), (10, 3)]) [.int .u8 0, .int .i64 0, .int .i64 0, .int .i64 0, .int .i64 0, .bool false, .str [], .int .u64 0, .int .i64 0, .int .i64 0, .int .u64 0, .int .i64 0, .int .i64 0] [(0, (.int .u8 11))]) fun v23 =>
 bindC (oAl S [.int .u8 0, .int .i64 0, .int .i64 0, .int .i64 0, .int .i64 0, .bool false, .str [], .int .u64 0, .int .i64 0, .int .i64 0, .int .u64 0, .int .i64 0, .int .i64 0]) pnA fun v2 S =>
 bindC (oAl S [.int .u8 0, .int .i64 0, .int .i64 0, .int .i64 0, .int .i64 0, .bool false, .str [], .int .u64 0, .int .i64 0, .int .i64 0, .int .u64 0, .int .i64 0, .int .i64 0]) pnA fun v3 S =>
 bindC (ok (oStore 13 S v2 v22)) pnA fun _ S =>
 bindC (ok (oStore 13 S v3 v23)) pnA fun _ S =>
 bindC (callN κ.toOracle 7 [] S) pnA fun v24 S =>
 bindP (some v24) fun v4 =>
 bindP (oLoad 11 true S v1) fun v26 =>
 bindC (callN κ.toOracle 7 [] S) (fun v Sx => bif (true && true) && false then pnA v Sx else none) fun v27 S1 =>
 bindC (apart κ.toOracle 9 [(.int .i64 0)] S1) (fun _ _ => none) fun v28 S2 =>
 bindP (oLoad 13 true S2 v2) fun v29 =>
 bindP (oFill (plS [(0, 1), (1, 1), (2, 1), (3, 1), (4, 1), (5, 1), (6, 1), (7, 3), (10, 3)]) [.int .u8 0, .int .i64 0, .int .i64 0, .int .i64 0, .int .i64 0, .bool false, .str [], .int .u64 0, .int .i64 0, .int .i64 0, .int .u64 0, .int .i64 0, .int .i64 0] [(0, (.int .u8 12))]) fun v30 =>
 bindP (oLoad 13 true S2 v3) fun v31 =>
 bindP (oLoad 13 true S2 v3) fun v32 =>
 bindC (oBS S2 13 [.int .u8 0, .int .i64 0, .int .i64 0, .int .i64 0, .int .i64 0, .bool false, .str [], .int .u64 0, .int .i64 0, .int .i64 0, .int .u64 0, .int .i64 0, .int .i64 0] 5 [(0, v28), (1, v29), (2, v30), (3, v31), (4, v32)]) (fun _ _ => none) fun v33 S3 =>
 bindC (oApp false 13 112 S3 v27 v33) (fun v Sx => bif (true && (((false || (chkA (oLoad 13 true S v3) v32 && chkA (oLoad 13 true S1 v3) v32)) && true) && (((false || (chkA (oLoad 13 true S v3) v31 && chkA (oLoad 13 true S1 v3) v31)) && true) && (((false || (chkA (oLoad 13 true S v2) v29 && chkA (oLoad 13 true S1 v2) v29)) && true) && ((true && true) && (((false || (chkA (oLoad 11 true S v1) v26 && chkA (oLoad 11 true S1 v1) v26)) && true) && true)))))) && true then pnA v Sx else none) fun v34 S4 =>
 bindC (ap8 [v26, v34] S4) (fun _ _ => none) fun v35 S5 =>
 bindP (some v35) fun v25 =>
 bindP (oExt v25 0) fun v36 =>
 bindP (oExt v25 1) fun v37 =>
 bindP (oExt v25 2) fun v38 =>
 bindP (some v36) fun v5 =>
 bindP (some v37) fun v6 =>
 bindP (some v38) fun v7 =>
 bif ((true && (true && true)) && ((true && ((false || (chkA (oLoad 13 true S v3) v32 && chkA (oLoad 13 true S1 v3) v32)) && true)) && ((true && ((false || (chkA (oLoad 13 true S v3) v31 && chkA (oLoad 13 true S1 v3) v31)) && true)) && ((true && ((false || (chkA (oLoad 13 true S v2) v29 && chkA (oLoad 13 true S1 v2) v29)) && true)) && ((true && (true && true)) && (((false || (chkA (oLoad 11 true S3 v1) v26 && chkA (oLoad 11 true S4 v1) v26)) && ((false || (chkA (oLoad 11 true S v1) v26 && chkA (oLoad 11 true S1 v1) v26)) && true)) && true)))))) then
 (let S := S5;
 bindP (some v7) fun v39 =>
 bindP (bN (eG (some [.i]) false false false v39 (.int .i64 0))) fun v40 =>
 bindP (some v40) fun v41 =>
 bindP (guardP v41 false (some v6)) fun v42 =>
 bindP (guardP v41 false (oLen S (.slice 50) v42)) fun v43 =>
 bindP (guardP v41 false (bN (eG (some [.i]) false false false v43 (.int .i64 10)))) fun v44 =>
 bindP (oPick v41 (.bool true) v44) fun v45 =>
 bindP (some v45) fun v46 =>
 bindP (guardP v46 false (some v5)) fun v47 =>
 bindP (guardP v46 false (oIndexAddrS 4 v47 (.int .i64 5))) fun v48 =>
 bindP (guardP v46 false (oFieldAddr 0 1 v48)) fun v49 =>
 bindP (guardP v46 false (oLoad 1 false S v49)) fun v50 =>
 bindP (guardP v46 false (bN (eG (some [.i]) false false false v50 (.int .u8 9)))) fun v51 =>
 bindP (oPick v46 (.bool true) v51) fun v52 =>
 bindP (some v52) fun v53 =>
 bindP (guardP v53 false (some v5)) fun v54 =>
 bindP (guardP v53 false (oIndexAddrS 4 v54 (.int .i64 6))) fun v55 =>
 bindP (guardP v53 false (oFieldAddr 0 1 v55)) fun v56 =>
 bindP (guardP v53 false (oLoad 1 false S v56)) fun v57 =>
 bindP (guardP v53 false (bN (eG (some [.i]) false false false v57 (.int .u8 9)))) fun v58 =>
 bindP (oPick v53 (.bool true) v58) fun v59 =>
 bindP (some v59) fun v60 =>
 bindP (guardP v60 false (some v6)) fun v61 =>
 bindP (guardP v60 false (oIndexAddrS 14 v61 (.int .i64 6))) fun v62 =>
 bindP (guardP v60 false (oFieldAddr 1 1 v62)) fun v63 =>
 bindP (guardP v60 false (oLoad 1 false S v63)) fun v64 =>
 bindP (oPick v60 (.bool true) v64) fun v65 =>
 bindP (some v65) fun v66 =>
 bindP (guardP v66 false (some v6)) fun v67 =>
 bindP (guardP v66 false (oIndexAddrS 14 v67 (.int .i64 6))) fun v68 =>
 bindP (guardP v66 false (oFieldAddr 13 1 v68)) fun v69 =>
 bindP (guardP v66 false (oLoad 1 false S v69)) fun v70 =>
 bindP (guardP v66 false (oLen S (.slice 61) v70)) fun v71 =>
 bindP (guardP v66 false (bN (eG (some [.i]) false false false v71 (.int .i64 0)))) fun v72 =>
 bindP (oPick v66 (.bool true) v72) fun v73 =>
 bindP (some v73) fun v74 =>
 bindP (guardP v74 false (some v6)) fun v75 =>
 bindP (guardP v74 false (oIndexAddrS 14 v75 (.int .i64 7))) fun v76 =>
 bindP (guardP v74 false (oFieldAddr 1 1 v76)) fun v77 =>
 bindP (guardP v74 false (oLoad 1 false S v77)) fun v78 =>
 bindP (oPick v74 (.bool true) v78) fun v79 =>
 bindP (some v79) fun v80 =>
 bindP (guardP v80 false (some v6)) fun v81 =>
 bindP (guardP v80 false (oIndexAddrS 14 v81 (.int .i64 8))) fun v82 =>
 bindP (guardP v80 false (oFieldAddr 1 1 v82)) fun v83 =>
 bindP (guardP v80 false (oLoad 1 false S v83)) fun v84 =>
 bindP (guardP v80 false (oUn .not v84)) fun v85 =>
 bindP (oPick v80 (.bool true) v85) fun v86 =>
 bindP (some v86) fun v87 =>
 bindP (guardP v87 false (some v6)) fun v88 =>
 bindP (guardP v87 false (oIndexAddrS 14 v88 (.int .i64 8))) fun v89 =>
 bindP (guardP v87 false (oFieldAddr 2 1 v89)) fun v90 =>
 bindP (guardP v87 false (oLoad 1 false S v90)) fun v91 =>
 bindP (guardP v87 false (oUn .not v91)) fun v92 =>
 bindP (oPick v87 (.bool true) v92) fun v93 =>
 bindP (some v93) fun v94 =>
 bindP (guardP v94 false (some v6)) fun v95 =>
 bindP (guardP v94 false (oIndexAddrS 14 v95 (.int .i64 8))) fun v96 =>
 bindP (guardP v94 false (oFieldAddr 4 5 v96)) fun v97 =>
 bindP (guardP v94 false (oFieldAddr 4 1 v97)) fun v98 =>
 bindP (guardP v94 false (oLoad 1 false S v98)) fun v99 =>
 bindP (guardP v94 false (oIndexAddrS 10 v99 (.int .i64 0))) fun v100 =>
 bindP (guardP v94 false (oFieldAddr 9 1 v100)) fun v101 =>
 bindP (guardP v94 false (oLoad 1 false S v101)) fun v102 =>
 bindP (guardP v94 false (oIndexAddrS 8 v102 (.int .i64 0))) fun v103 =>
 bindP (guardP v94 false (oFieldAddr 0 1 v103)) fun v104 =>
 bindP (guardP v94 false (oLoad 1 false S v104)) fun v105 =>
 bindP (guardP v94 false (bN (eG (some [.i]) false false false v105 (.int .u8 2)))) fun v106 =>
 bindP (oPick v94 (.bool true) v106) fun v107 =>
 bindP (some v107) fun v108 =>
 bindP (guardP v108 false (some v6)) fun v109 =>
 bindP (guardP v108 false (oIndexAddrS 14 v109 (.int .i64 9))) fun v110 =>
 bindP (guardP v108 false (oFieldAddr 2 1 v110)) fun v111 =>
 bindP (guardP v108 false (oLoad 1 false S v111)) fun v112 =>
 bindP (oPick v108 (.bool true) v112) fun v113 =>
 bindP (some v113) fun v114 =>
 bindP (guardP v114 false (some v6)) fun v115 =>
 bindP (guardP v114 false (oIndexAddrS 14 v115 (.int .i64 9))) fun v116 =>
 bindP (guardP v114 false (oFieldAddr 1 1 v116)) fun v117 =>
 bindP (guardP v114 false (oLoad 1 false S v117)) fun v118 =>
 bindP (guardP v114 false (oUn .not v118)) fun v119 =>
 bindP (oPick v114 (.bool true) v119) fun v120 =>
 ifA v120
 (bindP (some (.bool false)) fun v0 =>
 some (.ret v0, S))
 (bindP (some v4) fun v121 =>
 bindP (slS 13 v121 none (some (.int .i64 3)) none) fun v122 =>
 bindC (callN κ.toOracle 10 [v122] S) (fun v Sx => bif (true && true) && false then pnA v Sx else none) fun v123 S6 =>
 bindC (apart κ.toOracle 9 [(.int .i64 0)] S6) (fun _ _ => none) fun v124 S7 =>
 bindP (oLoad 13 true S7 v2) fun v125 =>
 bindP (oLoad 13 true S7 v3) fun v126 =>
 bindC (oBS S7 13 [.int .u8 0, .int .i64 0, .int .i64 0, .int .i64 0, .int .i64 0, .bool false, .str [], .int .u64 0, .int .i64 0, .int .i64 0, .int .u64 0, .int .i64 0, .int .i64 0] 3 [(0, v124), (1, v125), (2, v126)]) (fun _ _ => none) fun v127 S8 =>
 bindC (oApp true 13 112 S8 v123 v127) (fun v Sx => bif (true && (((false || (chkA (oLoad 13 true S v3) v126 && chkA (oLoad 13 true S6 v3) v126)) && true) && (((false || (chkA (oLoad 13 true S v2) v125 && chkA (oLoad 13 true S6 v2) v125)) && true) && ((true && true) && true)))) && true then pnA v Sx else none) fun v128 S9 =>
 bindP (some v128) fun v8 =>
 bif ((true && ((false || (chkA (oLoad 13 true S v3) v126 && chkA (oLoad 13 true S6 v3) v126)) && true)) && ((true && ((false || (chkA (oLoad 13 true S v2) v125 && chkA (oLoad 13 true S6 v2) v125)) && true)) && ((true && (true && true)) && true))) then
 (let S := S9;
 bindP (oLoad 11 true S v1) fun v130 =>
 bindP (some v8) fun v131 =>
 bindC (ap8 [v130, v131] S) pnA fun v132 S =>
 bindP (some v132) fun v129 =>
 bindP (oExt v129 0) fun v133 =>
 bindP (oExt v129 1) fun v134 =>
 bindP (oExt v129 2) fun v135 =>
 bindP (some v134) fun v6 =>
 bindP (some v135) fun v7 =>
 bindP (some v7) fun v136 =>
 bindP (bN (eG (some [.i]) false false false v136 (.int .i64 0))) fun v137 =>
 bindP (some v137) fun v138 =>
 bindP (guardP v138 false (some v6)) fun v139 =>
 bindP (guardP v138 false (oLen S (.slice 50) v139)) fun v140 =>
 bindP (guardP v138 false (bN (eG (some [.i]) false false false v140 (.int .i64 7)))) fun v141 =>
 bindP (oPick v138 (.bool true) v141) fun v142 =>
 bindP (some v142) fun v143 =>
 bindP (guardP v143 false (some v6)) fun v144 =>
 bindP (guardP v143 false (oIndexAddrS 14 v144 (.int .i64 5))) fun v145 =>
 bindP (guardP v143 false (oFieldAddr 1 1 v145)) fun v146 =>
 bindP (guardP v143 false (oLoad 1 false S v146)) fun v147 =>
 bindP (oPick v143 (.bool true) v147) fun v148 =>
 bindP (some v148) fun v149 =>
 bindP (guardP v149 false (some v6)) fun v150 =>
 bindP (guardP v149 false (oIndexAddrS 14 v150 (.int .i64 5))) fun v151 =>
 bindP (guardP v149 false (oFieldAddr 13 1 v151)) fun v152 =>
 bindP (guardP v149 false (oLoad 1 false S v152)) fun v153 =>
 bindP (guardP v149 false (oLen S (.slice 61) v153)) fun v154 =>
 bindP (guardP v149 false (bN (eG (some [.i]) false false false v154 (.int .i64 1)))) fun v155 =>
 bindP (oPick v149 (.bool true) v155) fun v156 =>
 bindP (some v156) fun v157 =>
 bindP (guardP v157 false (some v6)) fun v158 =>
 bindP (guardP v157 false (oIndexAddrS 14 v158 (.int .i64 5))) fun v159 =>
 bindP (guardP v157 false (oFieldAddr 13 1 v159)) fun v160 =>
 bindP (guardP v157 false (oLoad 1 false S v160)) fun v161 =>
 bindP (guardP v157 false (oIndexAddrS 15 v161 (.int .i64 0))) fun v162 =>
 bindP (guardP v157 false (oFieldAddr 0 1 v162)) fun v163 =>
 bindP (guardP v157 false (oLoad 1 false S v163)) fun v164 =>
 bindP (guardP v157 false (bN (eG (some [.i]) false false false v164 (.int .u8 4)))) fun v165 =>
 bindP (oPick v157 (.bool true) v165) fun v166 =>
 bindP (some v166) fun v167 =>
 bindP (guardP v167 false (some v6)) fun v168 =>
 bindP (guardP v167 false (oIndexAddrS 14 v168 (.int .i64 6))) fun v169 =>
 bindP (guardP v167 false (oFieldAddr 2 1 v169)) fun v170 =>
 bindP (guardP v167 false (oLoad 1 false S v170)) fun v171 =>
 bindP (guardP v167 false (oUn .not v171)) fun v172 =>
 bindP (oPick v167 (.bool true) v172) fun v173 =>
 bindP (some v173) fun v174 =>
 bindP (guardP v174 false (some v6)) fun v175 =>
 bindP (guardP v174 false (oIndexAddrS 14 v175 (.int .i64 6))) fun v176 =>
 bindP (guardP v174 false (oFieldAddr 4 5 v176)) fun v177 =>
 bindP (guardP v174 false (oFieldAddr 4 1 v177)) fun v178 =>
 bindP (guardP v174 false (oLoad 1 false S v178)) fun v179 =>
 bindP (guardP v174 false (oIndexAddrS 10 v179 (.int .i64 0))) fun v180 =>
 bindP (guardP v174 false (oFieldAddr 9 1 v180)) fun v181 =>
 bindP (guardP v174 false (oLoad 1 false S v181)) fun v182 =>
 bindP (guardP v174 false (oIndexAddrS 8 v182 (.int .i64 0))) fun v183 =>
 bindP (guardP v174 false (oFieldAddr 0 1 v183)) fun v184 =>
 bindP (guardP v174 false (oLoad 1 false S v184)) fun v185 =>
 bindP (guardP v174 false (bN (eG (some [.i]) false false false v185 (.int .u8 0)))) fun v186 =>
 bindP (oPick v174 (.bool true) v186) fun v187 =>
 bindP (some v187) fun v188 =>
 bindP (guardP v188 false (some v6)) fun v189 =>
 bindP (guardP v188 false (oIndexAddrS 14 v189 (.int .i64 6))) fun v190 =>
 bindP (guardP v188 false (oFieldAddr 9 1 v190)) fun v191 =>
 bindP (guardP v188 false (oLoad 1 false S v191)) fun v192 =>
 bindP (guardP v188 false (oLen S (.slice 116) v192)) fun v193 =>
 bindP (guardP v188 false (bN (eG (some [.i]) false false false v193 (.int .i64 0)))) fun v194 =>
 bindP (oPick v188 (.bool true) v194) fun v195 =>
 ifA v195
 (bindP (some (.bool false)) fun v0 =>
 some (.ret v0, S))
 (bindP (some v8) fun v196 =>
 bindC (apart κ.toOracle 9 [(.int .i64 2)] S) pnA fun v197 S =>
 bindP (oIndexAddrS 13 v196 (.int .i64 3)) fun v198 =>
 bindC (ok (oStore 13 S v198 v197)) pnA fun _ S =>
 bindP (oLoad 11 true S v1) fun v200 =>
 bindP (some v8) fun v201 =>
 bindP (oLoad 13 true S v2) fun v202 =>
 bindC (oBS S 13 [.int .u8 0, .int .i64 0, .int .i64 0, .int .i64 0, .int .i64 0, .bool false, .str [], .int .u64 0, .int .i64 0, .int .i64 0, .int .u64 0, .int .i64 0, .int .i64 0] 1 [(0, v202)]) (fun _ _ => none) fun v203 S10 =>
 bindC (oApp true 13 112 S10 v201 v203) (fun v Sx => bif (true && true) && true then pnA v Sx else none) fun v204 S11 =>
 bindC (ap8 [v200, v204] S11) (fun _ _ => none) fun v205 S12 =>
 bindP (some v205) fun v199 =>
 bindP (oExt v199 0) fun v206 =>
 bindP (oExt v199 1) fun v207 =>
 bindP (oExt v199 2) fun v208 =>
 bindP (some v207) fun v6 =>
 bindP (some v208) fun v7 =>
 bif ((true && true) && ((true && true) && (((false || (chkA (oLoad 11 true S10 v1) v200 && chkA (oLoad 11 true S11 v1) v200)) && true) && true))) then
 (let S := S12;
 bindP (some v7) fun v209 =>
 bindP (bN (eG (some [.i]) false false false v209 (.int .i64 0))) fun v210 =>
 bindP (some v210) fun v211 =>
 bindP (guardP v211 false (some v6)) fun v212 =>
 bindP (guardP v211 false (oLen S (.slice 50) v212)) fun v213 =>
 bindP (guardP v211 false (bN (eG (some [.i]) false false false v213 (.int .i64 8)))) fun v214 =>
 bindP (oPick v211 (.bool true) v214) fun v215 =>
 bindP (some v215) fun v216 =>
 bindP (guardP v216 false (some v6)) fun v217 =>
 bindP (guardP v216 false (oIndexAddrS 14 v217 (.int .i64 5))) fun v218 =>
 bindP (guardP v216 false (oFieldAddr 13 1 v218)) fun v219 =>
 bindP (guardP v216 false (oLoad 1 false S v219)) fun v220 =>
 bindP (guardP v216 false (oLen S (.slice 61) v220)) fun v221 =>
 bindP (guardP v216 false (bN (eG (some [.i]) false false false v221 (.int .i64 0)))) fun v222 =>
 bindP (oPick v216 (.bool true) v222) fun v223 =>
 bindP (some v223) fun v224 =>
 bindP (guardP v224 false (some v6)) fun v225 =>
 bindP (guardP v224 false (oIndexAddrS 14 v225 (.int .i64 5))) fun v226 =>
 bindP (guardP v224 false (oFieldAddr 12 1 v226)) fun v227 =>
 bindP (guardP v224 false (oLoad 1 false S v227)) fun v228 =>
 bindP (guardP v224 false (oLen S (.slice 61) v228)) fun v229 =>
 bindP (guardP v224 false (bN (eG (some [.i]) false false false v229 (.int .i64 1)))) fun v230 =>
 bindP (oPick v224 (.bool true) v230) fun v231 =>
 bindP (some v231) fun v232 =>
 bindP (guardP v232 false (some v6)) fun v233 =>
 bindP (guardP v232 false (oIndexAddrS 14 v233 (.int .i64 6))) fun v234 =>
 bindP (guardP v232 false (oFieldAddr 4 5 v234)) fun v235 =>
 bindP (guardP v232 false (oFieldAddr 4 1 v235)) fun v236 =>
 bindP (guardP v232 false (oLoad 1 false S v236)) fun v237 =>
 bindP (guardP v232 false (oIndexAddrS 10 v237 (.int .i64 0))) fun v238 =>
 bindP (guardP v232 false (oFieldAddr 9 1 v238)) fun v239 =>
 bindP (guardP v232 false (oLoad 1 false S v239)) fun v240 =>
 bindP (guardP v232 false (oIndexAddrS 8 v240 (.int .i64 0))) fun v241 =>
 bindP (guardP v232 false (oFieldAddr 0 1 v241)) fun v242 =>
 bindP (guardP v232 false (oLoad 1 false S v242)) fun v243 =>
 bindP (guardP v232 false (bN (eG (some [.i]) false false false v243 (.int .u8 1)))) fun v244 =>
 bindP (oPick v232 (.bool true) v244) fun v245 =>
 bindP (some v245) fun v246 =>
 bindP (guardP v246 false (some v6)) fun v247 =>
 bindP (guardP v246 false (oIndexAddrS 14 v247 (.int .i64 6))) fun v248 =>
 bindP (guardP v246 false (oFieldAddr 9 1 v248)) fun v249 =>
 bindP (guardP v246 false (oLoad 1 false S v249)) fun v250 =>
 bindP (guardP v246 false (oLen S (.slice 116) v250)) fun v251 =>
 bindP (guardP v246 false (bN (eG (some [.i]) false false false v251 (.int .i64 0)))) fun v252 =>
 bindP (oPick v246 (.bool true) v252) fun v253 =>
 ifA v253
 (bindP (some (.bool false)) fun v0 =>
 some (.ret v0, S))
 (bindP (some v6) fun v254 =>
 bindP (oIndexAddrS 14 v254 (.int .i64 7)) fun v255 =>
 bindP (oFieldAddr 4 5 v255) fun v256 =>
 bindP (oFieldAddr 4 1 v256) fun v257 =>
 bindP (oLoad 1 false S v257) fun v258 =>
 bindP (oIndexAddrS 10 v258 (.int .i64 0)) fun v259 =>
 bindP (oFieldAddr 9 1 v259) fun v260 =>
 bindP (oLoad 1 false S v260) fun v261 =>
 bindP (oIndexAddrS 8 v261 (.int .i64 0)) fun v262 =>
 bindP (oLoad 8 true S v262) fun v263 =>
 bindC (oAl S [.int .u8 0, .int .i64 0, .int .i64 0, .int .i64 0, .int .i64 0, .int .i64 0, .int .i64 0, .lst .nil 0 []]) pnA fun v9 S =>
 bindC (ok (oStore 8 S v9 v263)) pnA fun _ S =>
 bindP (oFieldAddr 0 1 v9) fun v264 =>
 bindP (oLoad 1 false S v264) fun v265 =>
 bindP (bN (eG (some [.i]) false false false v265 (.int .u8 3))) fun v266 =>
 bindP (some v266) fun v267 =>
 bindP (guardP v267 false (oFieldAddr 6 1 v9)) fun v268 =>
 bindP (guardP v267 false (oLoad 1 false S v268)) fun v269 =>
 bindP (guardP v267 false (bN (eG (some [.i]) false false false v269 (.int .i64 (-1))))) fun v270 =>
 bindP (oPick v267 (.bool true) v270) fun v271 =>
 bindP (some v271) fun v272 =>
 bindP (guardP v272 false (oFieldAddr 1 1 v9)) fun v273 =>
 bindP (guardP v272 false (oLoad 1 false S v273)) fun v274 =>
 bindP (guardP v272 false (bN (eG (some [.i]) false false false v274 (.int .i64 1)))) fun v275 =>
 bindP (oPick v272 (.bool true) v275) fun v276 =>
 ifA v276
 (bindP (some (.bool false)) fun v0 =>
 some (.ret v0, S))
 (bindP (oFill (plS [(0, 3), (3, 1), (4, 1), (5, 1), (6, 1), (7, 1), (8, 1), (9, 1), (10, 1)]) [.int .i64 0, .int .i64 0, .int .i64 0, .int .i64 0, .int .i64 0, .int .i64 0, .int .i64 0, .int .i64 0, .int .i64 0, .int .i64 0, .int .i64 0] []) fun v278 =>
 bindC (okv (oMS true 13 112 [.int .u8 0, .int .i64 0, .int .i64 0, .int .i64 0, .int .i64 0, .bool false, .str [], .int .u64 0, .int .i64 0, .int .i64 0, .int .u64 0, .int .i64 0, .int .i64 0] S (.int .i64 4097) (.int .i64 4097))) pnA fun v279 S =>
 bindC (ap8 [v278, v279] S) pnA fun v280 S =>
 bindP (some v280) fun v277 =>
 bindP (oExt v277 0) fun v281 =>
 bindP (oExt v277 1) fun v282 =>
 bindP (oExt v277 2) fun v283 =>
 bindP (some v283) fun v7 =>
 bindP (oLoad 11 true S v1) fun v285 =>
 bindC (okv (oMS true 13 112 [.int .u8 0, .int .i64 0, .int .i64 0, .int .i64 0, .int .i64 0, .bool false, .str [], .int .u64 0, .int .i64 0, .int .i64 0, .int .u64 0, .int .i64 0, .int .i64 0] S (.int .i64 4097) (.int .i64 4097))) (fun v Sx => bif (true && true) && true then pnA v Sx else none) fun v286 S13 =>
 bindC (ap8 [v285, v286] S13) (fun _ _ => none) fun v287 S14 =>
 bindP (some v287) fun v284 =>
 bindP (oExt v284 0) fun v288 =>
 bindP (oExt v284 1) fun v289 =>
 bindP (oExt v284 2) fun v290 =>
 bindP (some v288) fun v10 =>
 bindP (some v289) fun v11 =>
 bindP (some v290) fun v12 =>
 bif ((true && true) && (((false || (chkA (oLoad 11 true S v1) v285 && chkA (oLoad 11 true S13 v1) v285)) && true) && true)) then
 (let S := S14;
 bindP (oLoad 11 true S v1) fun v292 =>
 bindP (oLoad 13 true S v2) fun v293 =>
 bindP (oFill (plS [(0, 1), (1, 1), (2, 1), (3, 1), (4, 1), (5, 1), (6, 1), (7, 3), (10, 3)]) [.int .u8 0, .int .i64 0, .int .i64 0, .int .i64 0, .int .i64 0, .bool false, .str [], .int .u64 0, .int .i64 0, .int .i64 0, .int .u64 0, .int .i64 0, .int .i64 0] []) fun v294 =>
 bindC (oBS S 13 [.int .u8 0, .int .i64 0, .int .i64 0, .int .i64 0, .int .i64 0, .bool false, .str [], .int .u64 0, .int .i64 0, .int .i64 0, .int .u64 0, .int .i64 0, .int .i64 0] 2 [(0, v293), (1, v294)]) pnA fun v295 S =>
 bindC (ap8 [v292, v295] S) pnA fun v296 S =>
 bindP (some v296) fun v291 =>
 bindP (oExt v291 0) fun v297 =>
 bindP (oExt v291 1) fun v298 =>
 bindP (oExt v291 2) fun v299 =>
 bindP (some v297) fun v13 =>
 bindP (some v298) fun v14 =>
 bindP (some v299) fun v15 =>
 bindP (some .nilptr) fun v16 =>
 bindP (some v16) fun v301 =>
 bindP (oLoad 13 true S v2) fun v302 =>
 bindC (callN κ.toOracle 11 [v301, v302] S) pnA fun v303 S =>
 bindP (some v303) fun v300 =>
 bindP (oExt v300 0) fun v304 =>
 bindP (oExt v300 1) fun v305 =>
 bindC (oAl S [.int .u8 0, .lst .nil 0 [], .int .i64 0, .str []]) pnA fun v17 S =>
 bindC (ok (oStore 4 S v17 v304)) pnA fun _ S =>
 bindP (some v305) fun v18 =>
 bindP (oLoad 11 true S v1) fun v307 =>
 bindC (callN κ.toOracle 12 [v307] S) pnA fun v308 S =>
 bindP (some v308) fun v306 =>
 bindP (oExt v306 0) fun v309 =>
 bindP (oExt v306 1) fun v310 =>
 bindP (some v309) fun v19 =>
 bindP (some v310) fun v20 =>
 bindP (some v7) fun v311 =>
 bindP (bN (eG (some [.i]) false false false v311 (.int .i64 0))) fun v312 =>
 bindP (some v312) fun v313 =>
 bindP (guardP v313 true (some v7)) fun v314 =>
 bindP (guardP v313 true (bN (eG (some [.i]) false false false v314 (.int .i64 5)))) fun v315 =>
 bindP (oPick v313 v315 (.bool false)) fun v316 =>
 bindP (some v316) fun v317 =>
 bindP (guardP v317 true (some v12)) fun v318 =>
 bindP (guardP v317 true (bE (eG (some [.i]) false false false v318 (.int .i64 5)))) fun v319 =>
 bindP (oPick v317 v319 (.bool false)) fun v320 =>
 bindP (some v320) fun v321 =>
 bindP (guardP v321 true (some v15)) fun v322 =>
 bindP (guardP v321 true (bE (eG (some [.i]) false false false v322 (.int .i64 2)))) fun v323 =>
 bindP (oPick v321 v323 (.bool false)) fun v324 =>
 bindP (some v324) fun v325 =>
 bindP (guardP v325 true (some v18)) fun v326 =>
 bindP (guardP v325 true (bE (eG (some [.i]) false false false v326 (.int .i64 1)))) fun v327 =>
 bindP (oPick v325 v327 (.bool false)) fun v328 =>
 bindP (some v328) fun v329 =>
 bindP (guardP v329 true (some v16)) fun v330 =>
 bindC (guardC v329 true S (callN κ.toOracle 14 [v330] S)) pnA fun v331 S =>
 bindP (guardP v329 true (oFill (plS [(0, 1), (1, 1), (2, 1), (3, 1), (4, 5), (9, 1), (10, 1), (11, 1), (12, 1), (13, 1)]) [.int .i64 0, .bool false, .bool false, .bool false, .int .i64 0, .int .i64 0, .int .i64 0, .int .i64 0, .lst .nil 0 [], .lst .nil 0 [], .lst .nil 0 [], .int .i64 0, .lst .nil 0 [], .lst .nil 0 []] [])) fun v332 =>
 bindC (guardC v329 true S (apart κ.toOracle 13 [v331, v332] S)) pnA fun v333 S =>
 bindP (oPick v329 v333 (.bool false)) fun v334 =>
 bindP (some v334) fun v335 =>
 bindP (guardP v335 true (some v20)) fun v336 =>
 bindP (guardP v335 true (bE (eG (some [.i]) false false false v336 (.int .i64 0)))) fun v337 =>
 bindP (oPick v335 v337 (.bool false)) fun v338 =>
 bindP (some v338) fun v339 =>
 bindP (guardP v339 true (some v19)) fun v340 =>
 bindC (guardC v339 true S (callN κ.toOracle 14 [v340] S)) pnA fun v341 S =>
 bindP (guardP v339 true (oFill (plS [(0, 1), (1, 1), (2, 1), (3, 1), (4, 1)]) [.int .i64 0, .int .i64 0, .int .i64 0, .int .i64 0, .lst .nil 0 []] [(1, (.int .i64 1)), (2, (.int .i64 1)), (3, (.int .i64 (-1)))])) fun v342 =>
 bindP (guardP v339 true (oFill (plS [(0, 1), (1, 1), (2, 1), (3, 1), (4, 5), (9, 1), (10, 1), (11, 1), (12, 1), (13, 1)]) [.int .i64 0, .bool false, .bool false, .bool false, .int .i64 0, .int .i64 0, .int .i64 0, .int .i64 0, .lst .nil 0 [], .lst .nil 0 [], .lst .nil 0 [], .int .i64 0, .lst .nil 0 [], .lst .nil 0 []] [(1, (.bool true)), (2, (.bool true)), (4, v342), (7, (.int .i64 (-1)))])) fun v343 =>
 bindC (guardC v339 true S (apart κ.toOracle 13 [v341, v343] S)) pnA fun v344 S =>
 bindP (oPick v339 v344 (.bool false)) fun v345 =>
 bindP (some v345) fun v346 =>
 bindC (guardC v346 true S (ap15 [] S)) pnA fun v347 S =>
 bindP (oPick v346 v347 (.bool false)) fun v348 =>
 bindP (some v348) fun v0 =>
 some (.ret v0, S))
 else none)))
 else none))
 else none))
 else none
theorem e3 (N : Nat) (κ : Oracles) (S : St) : runF (Cs N) κ false 3 [] S = s3 N κ (apart κ.toOracle 8) (apart κ.toOracle 15) S := by kernel_rfl
end Go.Sac
