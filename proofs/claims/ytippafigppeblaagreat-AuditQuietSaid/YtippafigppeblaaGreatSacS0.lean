/- Direct forms, printed by mksh.py. -/
import Derived.Test.YtippafigppeblaaGreatSacCfg
import Derived.KernelRfl
namespace Go.Sac
set_option linter.unusedVariables false
set_option maxRecDepth 100000
open Go
/- sacristan/sacristanlaw36.AuditQuiet -/
def s4 (N : Nat) (κ : Oracles) (S : St) : R :=
 bindP (some (.bool false)) fun v0 =>
 bindC (apart κ.toOracle 6 [] S) pnA fun v5 S =>
 bindC (oAl S [.int .i64 0, .int .i64 0, .int .i64 0, .int .i64 0, .int .i64 0, .int .i64 0, .int .i64 0, .int .i64 0, .int .i64 0, .int .i64 0, .int .i64 0]) pnA fun v1 S =>
 bindC (ok (oStore 11 S v1 v5)) pnA fun _ S =>
 bindP (oLoad 11 true S v1) fun v7 =>
 bindC (apart κ.toOracle 8 [v7, (.lst .nil 0 [])] S) pnA fun v8 S =>
 bindP (some v8) fun v6 =>
 bindP (oExt v6 0) fun v9 =>
 bindP (oExt v6 1) fun v10 =>
 bindP (oExt v6 2) fun v11 =>
 bindP (some v9) fun v2 =>
 bindP (some v10) fun v3 =>
 bindP (some v11) fun v4 =>
 bindP (some v4) fun v12 =>
 bindP (bE (eG (some [.i]) false false false v12 (.int .i64 0))) fun v13 =>
 bindP (some v13) fun v14 =>
 bindP (guardP v14 true (some v3)) fun v15 =>
 bindP (guardP v14 true (oLen S (.slice 50) v15)) fun v16 =>
 bindP (guardP v14 true (bE (eG (some [.i]) false false false v16 (.int .i64 1)))) fun v17 =>
 bindP (oPick v14 v17 (.bool false)) fun v18 =>
 bindP (some v18) fun v19 =>
 bindP (guardP v19 true (some v3)) fun v20 =>
 bindP (guardP v19 true (oIndexAddrS 14 v20 (.int .i64 0))) fun v21 =>
 bindP (guardP v19 true (oFieldAddr 1 1 v21)) fun v22 =>
 bindP (guardP v19 true (oLoad 1 false S v22)) fun v23 =>
 bindP (oPick v19 v23 (.bool false)) fun v24 =>
 bindP (some v24) fun v25 =>
 bindP (guardP v25 true (some v3)) fun v26 =>
 bindP (guardP v25 true (oIndexAddrS 14 v26 (.int .i64 0))) fun v27 =>
 bindP (guardP v25 true (oFieldAddr 2 1 v27)) fun v28 =>
 bindP (guardP v25 true (oLoad 1 false S v28)) fun v29 =>
 bindP (oPick v25 v29 (.bool false)) fun v30 =>
 bindP (some v30) fun v31 =>
 bindP (guardP v31 true (some v3)) fun v32 =>
 bindP (guardP v31 true (oIndexAddrS 14 v32 (.int .i64 0))) fun v33 =>
 bindP (guardP v31 true (oFieldAddr 11 1 v33)) fun v34 =>
 bindP (guardP v31 true (oLoad 1 false S v34)) fun v35 =>
 bindP (guardP v31 true (bE (eG (some [.i]) false false false v35 (.int .i64 (-1))))) fun v36 =>
 bindP (oPick v31 v36 (.bool false)) fun v37 =>
 bindP (some v37) fun v38 =>
 bindP (guardP v38 true (some v3)) fun v39 =>
 bindC (guardC v38 true S (apart κ.toOracle 16 [v39] S)) pnA fun v40 S =>
 bindP (oPick v38 v40 (.bool false)) fun v41 =>
 bindP (some v41) fun v42 =>
 bindP (guardP v42 true (some v3)) fun v43 =>
 bindC (guardC v42 true S (apart κ.toOracle 17 [v43] S)) pnA fun v44 S =>
 bindP (oPick v42 v44 (.bool false)) fun v45 =>
 bindP (some v45) fun v46 =>
 bindP (guardP v46 true (oLoad 11 true S v1)) fun v47 =>
 bindP (guardP v46 true (some v3)) fun v48 =>
 bindC (guardC v46 true S (apart κ.toOracle 18 [v47, v48] S)) pnA fun v49 S =>
 bindP (oPick v46 v49 (.bool false)) fun v50 =>
 bindP (some v50) fun v51 =>
 bindP (guardP v51 true (some v3)) fun v52 =>
 bindC (guardC v51 true S (apart κ.toOracle 19 [v52] S)) pnA fun v53 S =>
 bindP (oPick v51 v53 (.bool false)) fun v54 =>
 bindP (some v54) fun v55 =>
 bindC (guardC v55 true S (apart κ.toOracle 20 [] S)) pnA fun v56 S =>
 bindP (oPick v55 v56 (.bool false)) fun v57 =>
 bindP (some v57) fun v0 =>
 some (.ret v0, S)
theorem e4 (N : Nat) (κ : Oracles) (S : St) : runF (Cs N) κ false 4 [] S = s4 N κ S := by kernel_rfl
/- sacristan/sacristanlaw30.Config -/
def s6 (N : Nat) (κ : Oracles) (S : St) : R :=
 bindC (oAl S [.int .i64 0, .int .i64 0, .int .i64 0, .int .i64 0, .int .i64 0, .int .i64 0, .int .i64 0, .int .i64 0, .int .i64 0, .int .i64 0, .int .i64 0]) pnA fun v0 S =>
 bindP (oFill (plS [(0, 1), (1, 1), (2, 1)]) [.int .i64 0, .int .i64 0, .int .i64 0] [(0, (.int .i64 10)), (1, (.int .i64 10)), (2, (.int .i64 10))]) fun v1 =>
 bindP (oFill (plS [(0, 3), (3, 1), (4, 1), (5, 1), (6, 1), (7, 1), (8, 1), (9, 1), (10, 1)]) [.int .i64 0, .int .i64 0, .int .i64 0, .int .i64 0, .int .i64 0, .int .i64 0, .int .i64 0, .int .i64 0, .int .i64 0, .int .i64 0, .int .i64 0] [(0, v1), (1, (.int .i64 2)), (2, (.int .i64 48)), (3, (.int .i64 2)), (4, (.int .i64 2)), (5, (.int .i64 5)), (6, (.int .i64 10)), (7, (.int .i64 2)), (8, (.int .i64 3))]) fun v2 =>
 bindC (ok (oStore 11 S v0 v2)) pnA fun _ S =>
 (resA [(oLoad 11 true S v0)]).map fun vs => (.ret (packV vs), S)
theorem e6 (N : Nat) (κ : Oracles) (S : St) : runF (Cs N) κ false 6 [] S = s6 N κ S := by kernel_rfl
/- sacristan/run.All -/
def s8 (N : Nat) (κ : Oracles) (v0 v1 : AV) (S : St) : R :=
 bindC (oBox S v0) pnA fun v2 S =>
 bindP (some (.lst .nil 0 [])) fun v4 =>
 bindP (some (.lst .nil 0 [])) fun v5 =>
 bindP (some (.int .i64 0)) fun v6 =>
 bindP (oLoad 11 true S v2) fun v16 =>
 bindC (apart κ.toOracle 31 [v16] S) pnA fun v17 S =>
 bindP (some v17) fun v7 =>
 bindP (some v7) fun v18 =>
 bindP (bN (eG (some [.i]) false false false v18 (.int .i64 0))) fun v19 =>
 ifA v19
 (bindP (some v7) fun v20 =>
 bindP (some (.lst .nil 0 [])) fun v4 =>
 bindP (some (.lst .nil 0 [])) fun v5 =>
 bindP (some v20) fun v6 =>
 some (.ret (.tup [v4, v5, v6]), S))
 (bindP (some v1) fun v21 =>
 bindP (oLen S (.slice 31) v21) fun v22 =>
 bindP (oArith .gtr v22 (.int .i64 4096)) fun v23 =>
 ifA v23
 (bindP (some (.lst .nil 0 [])) fun v4 =>
 bindP (some (.lst .nil 0 [])) fun v5 =>
 bindP (some (.int .i64 5)) fun v6 =>
 some (.ret (.tup [v4, v5, v6]), S))
 (bindP (oLoad 11 true S v2) fun v25 =>
 bindC (callN κ.toOracle 12 [v25] S) pnA fun v26 S =>
 bindP (some v26) fun v24 =>
 bindP (oExt v24 0) fun v27 =>
 bindP (oExt v24 1) fun v28 =>
 bindP (some v27) fun v8 =>
 bindP (some v28) fun v9 =>
 bindP (some v9) fun v29 =>
 bindP (bN (eG (some [.i]) false false false v29 (.int .i64 0))) fun v30 =>
 ifA v30
 (bindP (some v9) fun v31 =>
 bindP (some (.lst .nil 0 [])) fun v4 =>
 bindP (some (.lst .nil 0 [])) fun v5 =>
 bindP (some v31) fun v6 =>
 some (.ret (.tup [v4, v5, v6]), S))
 (bindP (some (.lst .nil 0 [])) fun v10 =>
 bindP (some v8) fun v32 =>
 bindC (callN κ.toOracle 14 [v32] S) pnA fun v33 S =>
 bindC (oBS S 14 [.int .i64 0, .bool false, .bool false, .bool false, .int .i64 0, .int .i64 0, .int .i64 0, .int .i64 0, .lst .nil 0 [], .lst .nil 0 [], .lst .nil 0 [], .int .i64 0, .lst .nil 0 [], .lst .nil 0 []] 1 [(0, v33)]) pnA fun v34 S =>
 bindP (some v34) fun v11 =>
 bindP (some v1) fun v35 =>
 bindP (oLen S (.slice 31) v35) fun v36 =>
 bindP (some (.int .i64 0)) fun v37 =>
 loop1 (fun vals S1 k1 =>
 let S := gcHead false S.objs.length [] vals S1;
 let v4 := vals.getD 0 .junk;
 let v5 := vals.getD 1 .junk;
 let v6 := vals.getD 2 .junk;
 let v10 := vals.getD 3 .junk;
 let v11 := vals.getD 4 .junk;
 let v37 := vals.getD 5 .junk;
 bindP (oArith .lss v37 v36) fun v38 =>
 ifA v38
 (bindP (oIndexAddrS 13 v35 v37) fun v39 =>
 bindP (oLoad 13 true S v39) fun v40 =>
 bindC (oAl S [.int .u8 0, .int .i64 0, .int .i64 0, .int .i64 0, .int .i64 0, .bool false, .str [], .int .u64 0, .int .i64 0, .int .i64 0, .int .u64 0, .int .i64 0, .int .i64 0]) pnA fun v13 S =>
 bindC (ok (oStore 13 S v13 v40)) pnA fun _ S =>
 bindP (some v8) fun v42 =>
 bindP (oLoad 13 true S v13) fun v43 =>
 bindC (callN κ.toOracle 11 [v42, v43] S) pnA fun v44 S =>
 bindP (some v44) fun v41 =>
 bindP (oExt v41 0) fun v45 =>
 bindP (oExt v41 1) fun v46 =>
 bindC (oAl S [.int .u8 0, .lst .nil 0 [], .int .i64 0, .str []]) pnA fun v14 S =>
 bindC (ok (oStore 4 S v14 v45)) pnA fun _ S =>
 bindP (some v46) fun v15 =>
 bindP (some v15) fun v47 =>
 bindP (bN (eG (some [.i]) false false false v47 (.int .i64 0))) fun v48 =>
 ifA v48
 (bindP (some v15) fun v49 =>
 bindP (some (.lst .nil 0 [])) fun v4 =>
 bindP (some (.lst .nil 0 [])) fun v5 =>
 bindP (some v49) fun v6 =>
 some (.ret (.tup [v4, v5, v6]), S))
 (bindP (some v10) fun v50 =>
 bindP (oLoad 4 true S v14) fun v51 =>
 bindC (oBS S 4 [.int .u8 0, .lst .nil 0 [], .int .i64 0, .str []] 1 [(0, v51)]) pnA fun v52 S =>
 bindC (oApp false 4 56 S v50 v52) pnA fun v53 S =>
 bindP (some v11) fun v54 =>
 bindP (some v8) fun v55 =>
 bindC (callN κ.toOracle 14 [v55] S) pnA fun v56 S =>
 bindC (oBS S 14 [.int .i64 0, .bool false, .bool false, .bool false, .int .i64 0, .int .i64 0, .int .i64 0, .int .i64 0, .lst .nil 0 [], .lst .nil 0 [], .lst .nil 0 [], .int .i64 0, .lst .nil 0 [], .lst .nil 0 []] 1 [(0, v56)]) pnA fun v57 S =>
 bindC (oApp false 14 176 S v54 v57) pnA fun v58 S =>
 bindP (some v53) fun v10 =>
 bindP (some v58) fun v11 =>
 bindP (oArith .add v37 (.int .i64 1)) fun v59 =>
 bindP (some v59) fun v37 =>
 bif sameD [] [] then k1 [v4, v5, v6, v10, v11, v37] S else none))
 (bindP (some v10) fun v60 =>
 bindP (some v11) fun v61 =>
 bindP (some v60) fun v4 =>
 bindP (some v61) fun v5 =>
 bindP (some (.int .i64 0)) fun v6 =>
 some (.ret (.tup [v4, v5, v6]), S))) N [v4, v5, v6, v10, v11, v37] S)))
theorem e8 (N : Nat) (κ : Oracles) (v0 v1 : AV) (S : St) : runF (Cs N) κ false 8 [v0, v1] S = s8 N κ v0 v1 S := by kernel_rfl
/- sacristan/run.New -/
def s12 (N : Nat) (κ : Oracles) (v0 : AV) (S : St) : R :=
 bindC (oBox S v0) pnA fun v1 S =>
 bindP (some .nilptr) fun v2 =>
 bindP (some (.int .i64 0)) fun v3 =>
 bindP (oLoad 11 true S v1) fun v8 =>
 bindC (callN κ.toOracle 47 [v8] S) pnA fun v9 S =>
 bindP (some v9) fun v7 =>
 bindP (oExt v7 0) fun v10 =>
 bindP (oExt v7 1) fun v11 =>
 bindP (some v10) fun v4 =>
 bindP (some v11) fun v5 =>
 bindP (some v5) fun v12 =>
 bindP (bN (eG (some [.i]) false false false v12 (.int .i64 0))) fun v13 =>
 ifA v13
 (bindP (some v5) fun v14 =>
 bindP (some .nilptr) fun v2 =>
 bindP (some v14) fun v3 =>
 some (.ret (.tup [v2, v3]), S))
 (bindP (oLoad 11 true S v1) fun v16 =>
 bindP (some v4) fun v17 =>
 bindC (callN κ.toOracle 45 [v16, v17] S) pnA fun v18 S =>
 bindP (some v18) fun v15 =>
 bindP (oExt v15 0) fun v19 =>
 bindP (oExt v15 1) fun v20 =>
 bindP (some v19) fun v6 =>
 bindP (some v20) fun v5 =>
 bindP (some v5) fun v21 =>
 bindP (bN (eG (some [.i]) false false false v21 (.int .i64 0))) fun v22 =>
 ifA v22
 (bindP (some v5) fun v23 =>
 bindP (some .nilptr) fun v2 =>
 bindP (some v23) fun v3 =>
 some (.ret (.tup [v2, v3]), S))
 (bindP (oLoad 11 true S v1) fun v24 =>
 bindP (some v4) fun v25 =>
 bindP (some v6) fun v26 =>
 bindP (some v6) fun v27 =>
 bindC (callN κ.toOracle 48 [v27] S) (fun v Sx => bif (true && true) && true then pnA v Sx else none) fun v28 S1 =>
 bindP (oFill (plS [(0, 1), (1, 1), (2, 1), (3, 1), (4, 5), (9, 1), (10, 1), (11, 1), (12, 1), (13, 1)]) [.int .i64 0, .bool false, .bool false, .bool false, .int .i64 0, .int .i64 0, .int .i64 0, .int .i64 0, .lst .nil 0 [], .lst .nil 0 [], .lst .nil 0 [], .int .i64 0, .lst .nil 0 [], .lst .nil 0 []] [(1, (.bool true)), (2, (.bool true)), (4, v28), (7, (.int .i64 (-1)))]) fun v29 =>
 bindP (oFill (plS [(0, 11), (11, 1), (12, 1), (13, 1), (14, 14)]) [.int .i64 0, .int .i64 0, .int .i64 0, .int .i64 0, .int .i64 0, .int .i64 0, .int .i64 0, .int .i64 0, .int .i64 0, .int .i64 0, .int .i64 0, .nilptr, .nilptr, .int .i64 0, .int .i64 0, .bool false, .bool false, .bool false, .int .i64 0, .int .i64 0, .int .i64 0, .int .i64 0, .lst .nil 0 [], .lst .nil 0 [], .lst .nil 0 [], .int .i64 0, .lst .nil 0 [], .lst .nil 0 []] [(0, v24), (1, v25), (2, v26), (4, v29)]) fun v30 =>
 bindC (oBox S1 v30) (fun v Sx => bif (true && (((false || (chkA (oLoad 11 true S v1) v24 && chkA (oLoad 11 true S1 v1) v24)) && true) && true)) && true then pnA v Sx else none) fun v31 S2 =>
 bindP (some v31) fun v2 =>
 bindP (some (.int .i64 0)) fun v3 =>
 bif ((true && ((false || (chkA (oLoad 11 true S v1) v24 && chkA (oLoad 11 true S1 v1) v24)) && true)) && true) then
 (let S := S2;
 some (.ret (.tup [v2, v3]), S))
 else none))
theorem e12 (N : Nat) (κ : Oracles) (v0 : AV) (S : St) : runF (Cs N) κ false 12 [v0] S = s12 N κ v0 S := by kernel_rfl
/- (*sacristan/run.Run).Moment -/
def s14 (N : Nat) (κ : Oracles) (v0 : AV) (S : St) : R :=
 bindC (oAl S [.int .i64 0, .bool false, .bool false, .bool false, .int .i64 0, .int .i64 0, .int .i64 0, .int .i64 0, .lst .nil 0 [], .lst .nil 0 [], .lst .nil 0 [], .int .i64 0, .lst .nil 0 [], .lst .nil 0 []]) pnA fun v2 S =>
 bindP (some v0) fun v4 =>
 bindP (bE (eNil kPtr v4 .nilptr)) fun v5 =>
 ifA v5
 (bindP (oFill (plS [(0, 1), (1, 1), (2, 1), (3, 1), (4, 5), (9, 1), (10, 1), (11, 1), (12, 1), (13, 1)]) [.int .i64 0, .bool false, .bool false, .bool false, .int .i64 0, .int .i64 0, .int .i64 0, .int .i64 0, .lst .nil 0 [], .lst .nil 0 [], .lst .nil 0 [], .int .i64 0, .lst .nil 0 [], .lst .nil 0 []] []) fun v6 =>
 bindC (ok (oStore 14 S v2 v6)) pnA fun _ S =>
 (resA [(oLoad 14 true S v2)]).map fun vs => (.ret (packV vs), S))
 (bindP (some v0) fun v7 =>
 bindP (oNilC v7) fun v8 =>
 bindP (oFieldAddr 14 14 v8) fun v9 =>
 bindP (oLoad 14 true S v9) fun v10 =>
 bindC (oAl S [.int .i64 0, .bool false, .bool false, .bool false, .int .i64 0, .int .i64 0, .int .i64 0, .int .i64 0, .lst .nil 0 [], .lst .nil 0 [], .lst .nil 0 [], .int .i64 0, .lst .nil 0 [], .lst .nil 0 []]) pnA fun v3 S =>
 bindC (ok (oStore 14 S v3 v10)) pnA fun _ S =>
 bindP (oFieldAddr 4 5 v3) fun v11 =>
 bindP (oLoad 5 true S v11) fun v12 =>
 bindC (apart κ.toOracle 53 [v12] S) pnA fun v13 S =>
 bindP (oFieldAddr 4 5 v3) fun v14 =>
 bindC (ok (oStore 5 S v14 v13)) pnA fun _ S =>
 bindP (oFieldAddr 9 1 v3) fun v15 =>
 bindP (oLoad 1 false S v15) fun v16 =>
 bindC (apart κ.toOracle 54 [v16] S) (fun _ _ => none) fun v17 S1 =>
 bindP (oFieldAddr 10 1 v3) fun v18 =>
 bindP (oLoad 1 false S1 v18) fun v19 =>
 bindC (apart κ.toOracle 55 [v19] S1) (fun _ _ => none) fun v20 S2 =>
 bindP (oFieldAddr 9 1 v3) fun v21 =>
 bindC (ok (oStore 1 S2 v21 v17)) (fun v Sx => bif (true && true) && true then pnA v Sx else none) fun _ S3 =>
 bindP (oFieldAddr 10 1 v3) fun v22 =>
 bindC (ok (oStore 1 S3 v22 v20)) (fun v Sx => bif (true && true) && true then pnA v Sx else none) fun _ S4 =>
 bif true then
 (let S := S4;
 bindP (oFieldAddr 12 1 v3) fun v23 =>
 bindP (oLoad 1 false S v23) fun v24 =>
 bindC (apart κ.toOracle 56 [v24] S) (fun _ _ => none) fun v25 S5 =>
 bindP (oFieldAddr 13 1 v3) fun v26 =>
 bindP (oLoad 1 false S5 v26) fun v27 =>
 bindC (apart κ.toOracle 56 [v27] S5) (fun _ _ => none) fun v28 S6 =>
 bindP (oFieldAddr 12 1 v3) fun v29 =>
 bindC (ok (oStore 1 S6 v29 v25)) (fun v Sx => bif (true && true) && true then pnA v Sx else none) fun _ S7 =>
 bindP (oFieldAddr 13 1 v3) fun v30 =>
 bindC (ok (oStore 1 S7 v30 v28)) (fun v Sx => bif (true && true) && true then pnA v Sx else none) fun _ S8 =>
 bif true then
 (let S := S8;
 bindP (oLoad 14 true S v3) fun v31 =>
 bindC (ok (oStore 14 S v2 v31)) pnA fun _ S =>
 (resA [(oLoad 14 true S v2)]).map fun vs => (.ret (packV vs), S))
 else none)
 else none)
theorem e14 (N : Nat) (κ : Oracles) (v0 : AV) (S : St) : runF (Cs N) κ false 14 [v0] S = s14 N κ v0 S := by kernel_rfl
/- sacristan/audit.Unique -/
def s16 (N : Nat) (κ : Oracles) (v0 : AV) (S : St) : R :=
 bindP (some (.bool false)) fun v2 =>
 bindP (some (.bool true)) fun v3 =>
 let j1 : List AV → St → R := (fun vals S =>
 let v3 := vals.getD 0 .junk;
 bindP (some v3) fun v60 =>
 bindP (some v60) fun v2 =>
 some (.ret v2, S));
 bindP (some v0) fun v11 =>
 bindP (oLen S (.slice 50) v11) fun v12 =>
 bindP (some (.int .i64 0)) fun v13 =>
 loop1 (fun vals S1 k2 =>
 let S := gcHead false S.objs.length [] vals S1;
 let v3 := vals.getD 0 .junk;
 let v13 := vals.getD 1 .junk;
 bindP (oArith .lss v13 v12) fun v14 =>
 ifA v14
 (bindP (oIndexAddrS 14 v11 v13) fun v15 =>
 bindP (oLoad 14 true S v15) fun v16 =>
 bindC (oAl S [.int .i64 0, .bool false, .bool false, .bool false, .int .i64 0, .int .i64 0, .int .i64 0, .int .i64 0, .lst .nil 0 [], .lst .nil 0 [], .lst .nil 0 [], .int .i64 0, .lst .nil 0 [], .lst .nil 0 []]) pnA fun v5 S =>
 bindC (ok (oStore 14 S v5 v16)) pnA fun _ S =>
 bindC (oMM S) pnA fun v17 S =>
 bindC (oMM S) pnA fun v18 S =>
 bindP (some v17) fun v6 =>
 bindP (some v18) fun v7 =>
 bindP (oFieldAddr 9 1 v5) fun v19 =>
 bindP (oLoad 1 false S v19) fun v20 =>
 bindP (oLen S (.slice 116) v20) fun v21 =>
 bindP (some (.int .i64 0)) fun v22 =>
 loop1 (fun vals S1 k3 =>
 let S := gcHead false S.objs.length [] vals S1;
 let v3 := vals.getD 0 .junk;
 let v22 := vals.getD 1 .junk;
 bindP (oArith .lss v22 v21) fun v23 =>
 ifA v23
 (bindP (oIndexAddrS 9 v20 v22) fun v24 =>
 bindP (oLoad 9 true S v24) fun v25 =>
 bindC (oAl S [.int .i64 0, .int .i64 0, .int .i64 0, .int .i64 0, .int .i64 0, .bool false, .bool false, .bool false, .int .i64 0]) pnA fun v9 S =>
 bindC (ok (oStore 9 S v9 v25)) pnA fun _ S =>
 bindP (oFieldAddr 2 3 v9) fun v26 =>
 bindP (oFieldAddr 0 1 v26) fun v27 =>
 bindP (oLoad 1 false S v27) fun v28 =>
 bindP (oFieldAddr 2 3 v9) fun v29 =>
 bindP (oFieldAddr 1 1 v29) fun v30 =>
 bindP (oLoad 1 false S v30) fun v31 =>
 bindP (oFill (plS [(0, 1), (1, 1)]) [.int .i64 0, .int .i64 0] [(0, v28), (1, v31)]) fun v32 =>
 bindC (oAl S [.int .i64 0, .int .i64 0]) pnA fun v10 S =>
 bindC (ok (oStore 2 S v10 v32)) pnA fun _ S =>
 bindP (some v7) fun v33 =>
 bindP (oFieldAddr 2 3 v9) fun v34 =>
 bindP (oLoad 3 true S v34) fun v35 =>
 bindP (oLook (some [.i, .i, .i]) true (pack false [.bool false]) S v33 v35 false) fun v36 =>
 bindP (some v36) fun v37 =>
 bindP (guardP v37 false (oFieldAddr 5 1 v9)) fun v38 =>
 bindP (guardP v37 false (oLoad 1 false S v38)) fun v39 =>
 bindP (guardP v37 false (some v39)) fun v40 =>
 bindP (guardP v40 true (some v6)) fun v41 =>
 bindP (guardP v40 true (oLoad 2 true S v10)) fun v42 =>
 bindP (guardP v40 true (oLook (some [.i, .i]) true (pack false [.bool false]) S v41 v42 false)) fun v43 =>
 bindP (guardP v37 false (oPick v40 v43 (.bool false))) fun v44 =>
 bindP (oPick v37 (.bool true) v44) fun v45 =>
 ifA v45
 (bindP (some (.bool false)) fun v3 =>
 bif sameD [] [] then Join j1 [v3] S else none)
 (bindP (some v7) fun v46 =>
 bindP (oFieldAddr 2 3 v9) fun v47 =>
 bindP (oLoad 3 true S v47) fun v48 =>
 bindC (ok (oMUp (some [.i, .i, .i]) true S v46 v48 (.bool true))) pnA fun _ S =>
 bindP (some v6) fun v49 =>
 bindP (oLoad 2 true S v10) fun v50 =>
 bindP (some v6) fun v51 =>
 bindP (oLoad 2 true S v10) fun v52 =>
 bindP (oLook (some [.i, .i]) true (pack false [.bool false]) S v51 v52 false) fun v53 =>
 bindP (some v53) fun v54 =>
 bindP (guardP v54 false (oFieldAddr 5 1 v9)) fun v55 =>
 bindP (guardP v54 false (oLoad 1 false S v55)) fun v56 =>
 bindP (oPick v54 (.bool true) v56) fun v57 =>
 bindC (ok (oMUp (some [.i, .i]) true S v49 v50 v57)) (fun v Sx => bif (true && true) && true then pnA v Sx else none) fun _ S4 =>
 bif true then
 (let S := S4;
 bindP (oArith .add v22 (.int .i64 1)) fun v58 =>
 bindP (some v58) fun v22 =>
 bif sameD [] [] then k3 [v3, v22] S else none)
 else none))
 (bindP (oArith .add v13 (.int .i64 1)) fun v59 =>
 bindP (some v59) fun v13 =>
 bif sameD [] [] then k2 [v3, v13] S else none)) N [v3, v22] S)
 (bif sameD [] [] then Join j1 [v3] S else none)) N [v3, v13] S
theorem e16 (N : Nat) (κ : Oracles) (v0 : AV) (S : St) : runF (Cs N) κ false 16 [v0] S = s16 N κ v0 S := by kernel_rfl
/- sacristan/audit.Tracked -/
def s17 (N : Nat) (κ : Oracles) (v0 : AV) (S : St) : R :=
 bindP (some (.bool false)) fun v2 =>
 bindP (some v0) fun v3 =>
 bindC (callN κ.toOracle 57 [v3, (.func 58 [] [])] S) pnA fun v4 S =>
 bindP (oUn .not v4) fun v5 =>
 bindP (some v5) fun v2 =>
 some (.ret v2, S)
theorem e17 (N : Nat) (κ : Oracles) (v0 : AV) (S : St) : runF (Cs N) κ false 17 [v0] S = s17 N κ v0 S := by kernel_rfl
/- sacristan/audit.Fits -/
def s18 (N : Nat) (κ : Oracles) (v0 v1 : AV) (S : St) : R :=
 bindC (oBox S v0) pnA fun v2 S =>
 bindP (some (.bool false)) fun v4 =>
 bindP (some v1) fun v5 =>
 bindP (some (.func 62 [] [v2])) fun v6 =>
 bindC (callN κ.toOracle 57 [v5, v6] S) pnA fun v7 S =>
 bindP (oUn .not v7) fun v8 =>
 bindP (some v8) fun v4 =>
 some (.ret v4, S)
theorem e18 (N : Nat) (κ : Oracles) (v0 v1 : AV) (S : St) : runF (Cs N) κ false 18 [v0, v1] S = s18 N κ v0 v1 S := by kernel_rfl
/- sacristan/audit.Restarts -/
def s19 (N : Nat) (κ : Oracles) (v0 : AV) (S : St) : R :=
 bindP (some (.bool false)) fun v2 =>
 bindC (oMM S) pnA fun v13 S =>
 bindP (some v13) fun v3 =>
 bindP (some v0) fun v14 =>
 bindP (oLen S (.slice 50) v14) fun v15 =>
 bindP (some (.int .i64 0)) fun v16 =>
 loop1 (fun vals S1 k1 =>
 let S := gcHead false S.objs.length [] vals S1;
 let v16 := vals.getD 0 .junk;
 bindP (oArith .lss v16 v15) fun v17 =>
 ifA v17
 (bindP (oIndexAddrS 14 v14 v16) fun v18 =>
 bindP (oLoad 14 true S v18) fun v19 =>
 bindC (oAl S [.int .i64 0, .bool false, .bool false, .bool false, .int .i64 0, .int .i64 0, .int .i64 0, .int .i64 0, .lst .nil 0 [], .lst .nil 0 [], .lst .nil 0 [], .int .i64 0, .lst .nil 0 [], .lst .nil 0 []]) pnA fun v5 S =>
 bindC (ok (oStore 14 S v5 v19)) pnA fun _ S =>
 bindP (oFieldAddr 4 5 v5) fun v20 =>
 bindP (oFieldAddr 4 1 v20) fun v21 =>
 bindP (oLoad 1 false S v21) fun v22 =>
 bindP (oLen S (.slice 58) v22) fun v23 =>
 bindP (some (.int .i64 0)) fun v24 =>
 loop1 (fun vals S1 k2 =>
 let S := gcHead false S.objs.length [] vals S1;
 let v24 := vals.getD 0 .junk;
 bindP (oArith .lss v24 v23) fun v25 =>
 ifA v25
 (bindP (oIndexAddrS 10 v22 v24) fun v26 =>
 bindP (oLoad 10 true S v26) fun v27 =>
 bindC (oAl S [.int .i64 0, .int .i64 0, .int .i64 0, .int .i64 0, .lst .nil 0 [], .lst .nil 0 [], .int .i64 0, .int .i64 0, .bool false, .lst .nil 0 []]) pnA fun v7 S =>
 bindC (ok (oStore 10 S v7 v27)) pnA fun _ S =>
 bindP (oFieldAddr 9 1 v7) fun v28 =>
 bindP (oLoad 1 false S v28) fun v29 =>
 bindP (oLen S (.slice 52) v29) fun v30 =>
 bindP (oFieldAddr 0 6 v7) fun v31 =>
 bindP (oFieldAddr 5 1 v31) fun v32 =>
 bindP (oLoad 1 false S v32) fun v33 =>
 bindP (oLen S (.slice 134) v33) fun v34 =>
 bindP (maxmin false [v30, v34]) fun v35 =>
 bindP (some (.int .i64 0)) fun v36 =>
 loop1 (fun vals S1 k3 =>
 let S := gcHead false S.objs.length [] vals S1;
 let v36 := vals.getD 0 .junk;
 bindP (oArith .lss v36 v35) fun v37 =>
 ifA v37
 (let j4 : List AV → St → R := (fun vals S =>
 bindP (oArith .add v36 (.int .i64 1)) fun v74 =>
 bindP (some v74) fun v36 =>
 bif sameD [] [] then k3 [v36] S else none);
 bindP (some v36) fun v38 =>
 bindP (some v38) fun v8 =>
 bindP (oFieldAddr 6 1 v7) fun v39 =>
 bindP (oLoad 1 false S v39) fun v40 =>
 bindP (some v8) fun v41 =>
 bindP (oFill (plS [(0, 1), (1, 1)]) [.int .i64 0, .int .i64 0] [(0, v40), (1, v41)]) fun v42 =>
 bindC (oAl S [.int .i64 0, .int .i64 0]) pnA fun v9 S =>
 bindC (ok (oStore 2 S v9 v42)) pnA fun _ S =>
 bindP (some v3) fun v43 =>
 bindP (oLoad 2 true S v9) fun v44 =>
 bindP (oLook (some [.i, .i]) true (pack false [.nilptr]) S v43 v44 false) fun v45 =>
 bindP (some v45) fun v10 =>
 let j5 : List AV → St → R := (fun vals S =>
 let v10 := vals.getD 0 .junk;
 bindP (some v10) fun v60 =>
 bindP (some v10) fun v61 =>
 bindP (oNilC v61) fun v62 =>
 bindP (oFieldAddr 5 1 v62) fun v63 =>
 bindP (oLoad 1 false S v63) fun v64 =>
 bindP (oFieldAddr 9 1 v7) fun v65 =>
 bindP (oLoad 1 false S v65) fun v66 =>
 bindP (some v8) fun v67 =>
 bindP (oIndexAddrS 8 v66 v67) fun v68 =>
 bindP (oFieldAddr 7 1 v68) fun v69 =>
 bindP (oLoad 1 false S v69) fun v70 =>
 bindC (oApp false 1 8 S v64 v70) (fun v Sx => bif (true && true) && true then pnA v Sx else none) fun v71 S6 =>
 bindP (oNilC v60) fun v72 =>
 bindP (oFieldAddr 5 1 v72) fun v73 =>
 bindC (ok (oStore 1 S6 v73 v71)) (fun v Sx => bif (true && true) && true then pnA v Sx else none) fun _ S7 =>
 bif true then
 (let S := S7;
 bif sameD [] [] then Join j4 [] S else none)
 else none);
 bindP (some v10) fun v46 =>
 bindP (bE (eNil kPtr v46 .nilptr)) fun v47 =>
 ifA v47
 (bindP (oFieldAddr 0 6 v7) fun v48 =>
 bindP (oFieldAddr 5 1 v48) fun v49 =>
 bindP (oLoad 1 false S v49) fun v50 =>
 bindP (some v8) fun v51 =>
 bindP (oIndexAddrS 6 v50 v51) fun v52 =>
 bindP (oFieldAddr 0 5 v52) fun v53 =>
 bindP (oLoad 5 true S v53) fun v54 =>
 bindP (oFill (plS [(0, 5), (5, 1)]) [.bool false, .int .i64 0, .int .i64 0, .int .i64 0, .int .i64 0, .lst .nil 0 []] [(0, v54)]) fun v55 =>
 bindC (oBox S v55) pnA fun v56 S =>
 bindP (some v56) fun v10 =>
 bindP (some v3) fun v57 =>
 bindP (oLoad 2 true S v9) fun v58 =>
 bindP (some v10) fun v59 =>
 bindC (ok (oMUp (some [.i, .i]) true S v57 v58 v59)) pnA fun _ S =>
 bif sameD [] [] then Join j5 [v10] S else none)
 (bif sameD [] [] then Join j5 [v10] S else none))
 (bindP (oArith .add v24 (.int .i64 1)) fun v75 =>
 bindP (some v75) fun v24 =>
 bif sameD [] [] then k2 [v24] S else none)) N [v36] S)
 (bindP (oArith .add v16 (.int .i64 1)) fun v76 =>
 bindP (some v76) fun v16 =>
 bif sameD [] [] then k1 [v16] S else none)) N [v24] S)
 (bindP (some v3) fun v77 =>
 bindC (okv (oRg S v77)) pnA fun v78 S =>
 loop1 (fun vals S1 k8 =>
 let S := gcHead false S.objs.length [] vals S1;
 let v2 := vals.getD 0 .junk;
 bindC (okv (oNext S v78)) pnA fun v79 S =>
 bindP (oExt v79 0) fun v80 =>
 ifA v80
 (bindC (okv (oEntry S v78)) pnA fun v81 S =>
 bindP (oExt v81 1) fun v82 =>
 bindP (some v82) fun v12 =>
 bindP (some v12) fun v83 =>
 bindC (callN κ.toOracle 64 [v83] S) pnA fun v84 S =>
 bindP (oUn .not v84) fun v85 =>
 ifA v85
 (bindP (some (.bool false)) fun v2 =>
 some (.ret v2, S))
 (bif sameD [] [] then k8 [v2] S else none))
 (bindP (some (.bool true)) fun v2 =>
 some (.ret v2, S))) N [v2] S)) N [v16] S
theorem e19 (N : Nat) (κ : Oracles) (v0 : AV) (S : St) : runF (Cs N) κ false 19 [v0] S = s19 N κ v0 S := by kernel_rfl
/- sacristan/sacristanlaw36.awake -/
def s20 (N : Nat) (κ : Oracles) (S : St) : R :=
 bindP (some (.bool false)) fun v0 =>
 bindC (apart κ.toOracle 65 [] S) pnA fun v1 S =>
 bindC (apart κ.toOracle 16 [v1] S) pnA fun v2 S =>
 bindP (oUn .not v2) fun v3 =>
 bindP (some v3) fun v4 =>
 bindC (guardC v4 true S (apart κ.toOracle 16 [(.lst .nil 0 [])] S)) pnA fun v5 S =>
 bindP (oPick v4 v5 (.bool false)) fun v6 =>
 bindP (some v6) fun v0 =>
 some (.ret v0, S)
theorem e20 (N : Nat) (κ : Oracles) (S : St) : runF (Cs N) κ false 20 [] S = s20 N κ S := by kernel_rfl
/- sacristan/spec.Config -/
def s31 (N : Nat) (κ : Oracles) (v0 : AV) (S : St) : R :=
 bindC (oBox S v0) pnA fun v1 S =>
 bindP (some (.int .i64 0)) fun v2 =>
 bindP (some (.func 76 [] [v1])) fun v3 =>
 bindP (some (.func 78 [] [v1])) fun v4 =>
 bindP (some (.func 80 [] [v1])) fun v5 =>
 bindP (some (.func 82 [] [v1])) fun v6 =>
 bindP (some (.func 83 [] [v1])) fun v7 =>
 bindP (some (.func 84 [] [v1])) fun v8 =>
 bindP (some (.func 85 [] [v1])) fun v9 =>
 bindP (some (.func 86 [] [v1])) fun v10 =>
 bindP (some (.func 87 [] [v1])) fun v11 =>
 bindC (oBS S 1 [.nilfunc] 9 [(0, v3), (1, v4), (2, v5), (3, v6), (4, v7), (5, v8), (6, v9), (7, v10), (8, v11)]) pnA fun v12 S =>
 bindC (callN κ.toOracle 75 [v12] S) pnA fun v13 S =>
 bindP (some v13) fun v2 =>
 some (.ret v2, S)
theorem e31 (N : Nat) (κ : Oracles) (v0 : AV) (S : St) : runF (Cs N) κ false 31 [v0] S = s31 N κ v0 S := by kernel_rfl
/- (*sacristan/world.World).Now -/
def s33 (N : Nat) (κ : Oracles) (v0 : AV) (S : St) : R :=
 bindP (some (.int .i64 0)) fun v2 =>
 bindP (some v0) fun v3 =>
 bindP (bE (eNil kPtr v3 .nilptr)) fun v4 =>
 ifA v4
 (bindP (some (.int .i64 0)) fun v2 =>
 some (.ret v2, S))
 (bindP (some v0) fun v5 =>
 bindP (oNilC v5) fun v6 =>
 bindP (oFieldAddr 0 1 v6) fun v7 =>
 bindP (oLoad 1 false S v7) fun v8 =>
 bindP (some v8) fun v2 =>
 some (.ret v2, S))
theorem e33 (N : Nat) (κ : Oracles) (v0 : AV) (S : St) : runF (Cs N) κ false 33 [v0] S = s33 N κ v0 S := by kernel_rfl
/- (*sacristan/world.World).Procs -/
def s40 (N : Nat) (κ : Oracles) (v0 : AV) (S : St) : R :=
 bindP (some .nilptr) fun v2 =>
 bindP (some v0) fun v3 =>
 bindP (bE (eNil kPtr v3 .nilptr)) fun v4 =>
 ifA v4
 (bindP (some .nilptr) fun v2 =>
 some (.ret v2, S))
 (bindP (some v0) fun v5 =>
 bindP (oNilC v5) fun v6 =>
 bindP (oFieldAddr 4 1 v6) fun v7 =>
 bindP (oLoad 1 false S v7) fun v8 =>
 bindP (some v8) fun v2 =>
 some (.ret v2, S))
theorem e40 (N : Nat) (κ : Oracles) (v0 : AV) (S : St) : runF (Cs N) κ false 40 [v0] S = s40 N κ v0 S := by kernel_rfl
/- sacristan/agent.Boot -/
def s45 (N : Nat) (κ : Oracles) (v0 v1 : AV) (S : St) : R :=
 bindC (oBox S v0) pnA fun v2 S =>
 bindP (some .nilptr) fun v4 =>
 bindP (some (.int .i64 0)) fun v5 =>
 bindP (some v1) fun v14 =>
 bindP (bE (eNil kPtr v14 .nilptr)) fun v15 =>
 ifA v15
 (bindP (some .nilptr) fun v4 =>
 bindP (some (.int .i64 1)) fun v5 =>
 some (.ret (.tup [v4, v5]), S))
 (bindP (oLoad 11 true S v2) fun v16 =>
 bindC (apart κ.toOracle 31 [v16] S) pnA fun v17 S =>
 bindP (some v17) fun v6 =>
 bindP (some v6) fun v18 =>
 bindP (bN (eG (some [.i]) false false false v18 (.int .i64 0))) fun v19 =>
 ifA v19
 (bindP (some v6) fun v20 =>
 bindP (some .nilptr) fun v4 =>
 bindP (some v20) fun v5 =>
 some (.ret (.tup [v4, v5]), S))
 (bindP (oLoad 11 true S v2) fun v22 =>
 bindP (some v1) fun v23 =>
 bindC (callN κ.toOracle 103 [v23] S) (fun v Sx => bif (true && true) && true then pnA v Sx else none) fun v24 S1 =>
 bindC (callN κ.toOracle 102 [v22, v24] S1) (fun v Sx => bif (true && (((false || (chkA (oLoad 11 true S v2) v22 && chkA (oLoad 11 true S1 v2) v22)) && true) && true)) && true then pnA v Sx else none) fun v25 S2 =>
 bindP (some v25) fun v21 =>
 bindP (oExt v21 0) fun v26 =>
 bindP (oExt v21 1) fun v27 =>
 bindP (some v26) fun v7 =>
 bindP (some v27) fun v8 =>
 bif ((true && ((false || (chkA (oLoad 11 true S v2) v22 && chkA (oLoad 11 true S1 v2) v22)) && true)) && true) then
 (let S := S2;
 bindP (some v8) fun v28 =>
 bindP (bN (eG (some [.i]) false false false v28 (.int .i64 0))) fun v29 =>
 ifA v29
 (bindP (some v8) fun v30 =>
 bindP (some .nilptr) fun v4 =>
 bindP (some v30) fun v5 =>
 some (.ret (.tup [v4, v5]), S))
 (bindP (oLoad 11 true S v2) fun v32 =>
 bindP (some v1) fun v33 =>
 bindC (callN κ.toOracle 105 [v33] S) (fun v Sx => bif (true && true) && (rfA (some v7) fun v35 => true) then pnA v Sx else none) fun v34 S3 =>
 bindP (some v7) fun v35 =>
 bindC (callN κ.toOracle 106 [v35] S3) (fun v Sx => bif (true && (((false || (chkA (oLoad 11 true S v2) v32 && chkA (oLoad 11 true S3 v2) v32)) && true) && true)) && true then pnA v Sx else none) fun v36 S4 =>
 bindC (callN κ.toOracle 104 [v32, v34, v36] S4) (fun v Sx => bif (true && (((false || (chkA (oLoad 11 true S3 v2) v32 && chkA (oLoad 11 true S4 v2) v32)) && ((false || (chkA (oLoad 11 true S v2) v32 && chkA (oLoad 11 true S3 v2) v32)) && true)) && true)) && true then pnA v Sx else none) fun v37 S5 =>
 bindP (some v37) fun v31 =>
 bindP (oExt v31 0) fun v38 =>
 bindP (oExt v31 1) fun v39 =>
 bindP (some v38) fun v9 =>
 bindP (some v39) fun v8 =>
 bif ((true && ((false || (chkA (oLoad 11 true S3 v2) v32 && chkA (oLoad 11 true S4 v2) v32)) && ((false || (chkA (oLoad 11 true S v2) v32 && chkA (oLoad 11 true S3 v2) v32)) && true))) && true) then
 (let S := S5;
 bindP (some v8) fun v40 =>
 bindP (bN (eG (some [.i]) false false false v40 (.int .i64 0))) fun v41 =>
 ifA v41
 (bindP (some v8) fun v42 =>
 bindP (some .nilptr) fun v4 =>
 bindP (some v42) fun v5 =>
 some (.ret (.tup [v4, v5]), S))
 (bindP (oLoad 11 true S v2) fun v44 =>
 bindP (some v7) fun v45 =>
 bindC (callN κ.toOracle 108 [v45] S) (fun v Sx => bif (true && true) && (rfA (some v1) fun v47 => (rfA (some v1) fun v49 => true)) then pnA v Sx else none) fun v46 S6 =>
 bindP (some v1) fun v47 =>
 bindC (callN κ.toOracle 33 [v47] S6) (fun v Sx => bif (true && (((false || (chkA (oLoad 11 true S v2) v44 && chkA (oLoad 11 true S6 v2) v44)) && true) && true)) && (rfA (some v1) fun v49 => true) then pnA v Sx else none) fun v48 S7 =>
 bindP (some v1) fun v49 =>
 bindC (callN κ.toOracle 40 [v49] S7) (fun v Sx => bif (true && (((false || (chkA (oLoad 11 true S6 v2) v44 && chkA (oLoad 11 true S7 v2) v44)) && ((false || (chkA (oLoad 11 true S v2) v44 && chkA (oLoad 11 true S6 v2) v44)) && true)) && true)) && true then pnA v Sx else none) fun v50 S8 =>
 bindC (callN κ.toOracle 95 [v50] S8) (fun v Sx => bif (true && (((false || (chkA (oLoad 11 true S7 v2) v44 && chkA (oLoad 11 true S8 v2) v44)) && ((false || (chkA (oLoad 11 true S6 v2) v44 && chkA (oLoad 11 true S7 v2) v44)) && ((false || (chkA (oLoad 11 true S v2) v44 && chkA (oLoad 11 true S6 v2) v44)) && true))) && true)) && true then pnA v Sx else none) fun v51 S9 =>
 bindC (apart κ.toOracle 107 [v44, v46, v48, v51] S9) (fun _ _ => none) fun v52 S10 =>
 bindP (some v52) fun v43 =>
 bindP (oExt v43 0) fun v53 =>
 bindP (oExt v43 1) fun v54 =>
 bindP (some v53) fun v10 =>
 bindP (some v54) fun v8 =>
 bif ((true && (true && (true && (true && true)))) && (((false || (chkA (oLoad 11 true S8 v2) v44 && chkA (oLoad 11 true S9 v2) v44)) && ((false || (chkA (oLoad 11 true S7 v2) v44 && chkA (oLoad 11 true S8 v2) v44)) && ((false || (chkA (oLoad 11 true S6 v2) v44 && chkA (oLoad 11 true S7 v2) v44)) && ((false || (chkA (oLoad 11 true S v2) v44 && chkA (oLoad 11 true S6 v2) v44)) && true)))) && true)) then
 (let S := S10;
 bindP (some v8) fun v55 =>
 bindP (bN (eG (some [.i]) false false false v55 (.int .i64 0))) fun v56 =>
 ifA v56
 (bindP (some v8) fun v57 =>
 bindP (some .nilptr) fun v4 =>
 bindP (some v57) fun v5 =>
 some (.ret (.tup [v4, v5]), S))
 (bindP (some v10) fun v58 =>
 bindP (oLen S (.slice 116) v58) fun v59 =>
 bindP (some (.int .i64 0)) fun v60 =>
 loop1 (fun vals S1 k11 =>
 let S := gcHead false S.objs.length [] vals S1;
 let v4 := vals.getD 0 .junk;
 let v5 := vals.getD 1 .junk;
 let v60 := vals.getD 2 .junk;
 bindP (oArith .lss v60 v59) fun v61 =>
 ifA v61
 (bindP (oIndexAddrS 9 v58 v60) fun v62 =>
 bindP (oLoad 9 true S v62) fun v63 =>
 bindC (oAl S [.int .i64 0, .int .i64 0, .int .i64 0, .int .i64 0, .int .i64 0, .bool false, .bool false, .bool false, .int .i64 0]) pnA fun v12 S =>
 bindC (ok (oStore 9 S v12 v63)) pnA fun _ S =>
 bindP (some v1) fun v64 =>
 bindC (callN κ.toOracle 40 [v64] S) (fun v Sx => bif (true && true) && (rfA (oFieldAddr 0 1 v12) fun v66 => false) then pnA v Sx else none) fun v65 S12 =>
 bindP (oFieldAddr 0 1 v12) fun v66 =>
 bindP (oLoad 1 false S12 v66) fun v67 =>
 bindP (oFieldAddr 1 1 v12) fun v68 =>
 bindP (oLoad 1 false S12 v68) fun v69 =>
 bindC (callN κ.toOracle 109 [v65, v67, v69] S12) (fun v Sx => bif (true && (((false || (chkA (oLoad 1 false S v68) v69 && chkA (oLoad 1 false S12 v68) v69)) && true) && (((false || (chkA (oLoad 1 false S v66) v67 && chkA (oLoad 1 false S12 v66) v67)) && true) && true))) && true then pnA v Sx else none) fun v70 S13 =>
 bindP (some v70) fun v13 =>
 bif ((true && ((false || (chkA (oLoad 1 false S v68) v69 && chkA (oLoad 1 false S12 v68) v69)) && true)) && ((true && ((false || (chkA (oLoad 1 false S v66) v67 && chkA (oLoad 1 false S12 v66) v67)) && true)) && true)) then
 (let S := S13;
 bindP (some v13) fun v71 =>
 bindP (bN (eG (some [.i]) false false false v71 (.int .i64 0))) fun v72 =>
 ifA v72
 (bindP (some v13) fun v73 =>
 bindP (some .nilptr) fun v4 =>
 bindP (some v73) fun v5 =>
 some (.ret (.tup [v4, v5]), S))
 (bindP (oArith .add v60 (.int .i64 1)) fun v74 =>
 bindP (some v74) fun v60 =>
 bif sameD [] [] then k11 [v4, v5, v60] S else none))
 else none)
 (bindP (some v7) fun v75 =>
 bindP (oLoad 11 true S v2) fun v76 =>
 bindP (some v1) fun v77 =>
 bindP (some v9) fun v78 =>
 bindC (callN κ.toOracle 110 [] S) (fun v Sx => bif (true && true) && true then pnA v Sx else none) fun v79 S14 =>
 bindP (oFill (plS [(0, 1), (1, 11), (12, 1), (13, 1), (14, 1), (15, 1), (16, 1)]) [.nilptr, .int .i64 0, .int .i64 0, .int .i64 0, .int .i64 0, .int .i64 0, .int .i64 0, .int .i64 0, .int .i64 0, .int .i64 0, .int .i64 0, .int .i64 0, .nilptr, .nilptr, .nilptr, .int .i64 0, .bool false] [(0, v75), (1, v76), (2, v77), (3, v78), (4, v79), (5, (.int .i64 (-1)))]) fun v80 =>
 bindC (oBox S14 v80) (fun v Sx => bif (true && (((false || (chkA (oLoad 11 true S v2) v76 && chkA (oLoad 11 true S14 v2) v76)) && true) && true)) && true then pnA v Sx else none) fun v81 S15 =>
 bindP (some v81) fun v4 =>
 bindP (some (.int .i64 0)) fun v5 =>
 bif ((true && ((false || (chkA (oLoad 11 true S v2) v76 && chkA (oLoad 11 true S14 v2) v76)) && true)) && true) then
 (let S := S15;
 some (.ret (.tup [v4, v5]), S))
 else none)) N [v4, v5, v60] S))
 else none))
 else none))
 else none))
theorem e45 (N : Nat) (κ : Oracles) (v0 v1 : AV) (S : St) : runF (Cs N) κ false 45 [v0, v1] S = s45 N κ v0 v1 S := by kernel_rfl
/- sacristan/world.New -/
def s47 (N : Nat) (κ : Oracles) (v0 : AV) (S : St) : R :=
 bindC (oBox S v0) pnA fun v1 S =>
 bindP (some .nilptr) fun v2 =>
 bindP (some (.int .i64 0)) fun v3 =>
 bindP (oLoad 11 true S v1) fun v9 =>
 bindC (apart κ.toOracle 31 [v9] S) pnA fun v10 S =>
 bindP (some v10) fun v4 =>
 bindP (some v4) fun v11 =>
 bindP (bN (eG (some [.i]) false false false v11 (.int .i64 0))) fun v12 =>
 ifA v12
 (bindP (some v4) fun v13 =>
 bindP (some .nilptr) fun v2 =>
 bindP (some v13) fun v3 =>
 some (.ret (.tup [v2, v3]), S))
 (bindC (callN κ.toOracle 119 [] S) pnA fun v14 S =>
 bindP (oFill (plS [(0, 1), (1, 1), (2, 1), (3, 1), (4, 1), (5, 1), (6, 6)]) [.int .i64 0, .nilptr, .nilptr, .nilptr, .nilptr, .nilptr, .int .u64 0, .int .i64 0, .int .i64 0, .int .u64 0, .int .i64 0, .int .i64 0] [(1, v14)]) fun v15 =>
 bindC (oBox S v15) pnA fun v16 S =>
 bindP (some v16) fun v5 =>
 bindC (oAl S [.int .i64 0, .int .i64 0, .int .i64 0, .int .i64 0]) pnA fun v6 S =>
 bindP (some v5) fun v18 =>
 bindP (oFieldAddr 4 1 v1) fun v19 =>
 bindP (oLoad 1 false S v19) fun v20 =>
 bindP (oArith .mul (.int .i64 2) v20) fun v21 =>
 bindP (oArith .add (.int .i64 2) v21) fun v22 =>
 bindP (some v5) fun v23 =>
 bindP (oNilC v23) fun v24 =>
 bindP (oFieldAddr 1 1 v24) fun v25 =>
 bindP (oLoad 1 false S v25) fun v26 =>
 bindC (callN κ.toOracle 120 [v22, v26] S) (fun v Sx => bif (true && true) && true then pnA v Sx else none) fun v27 S1 =>
 bindP (some v27) fun v17 =>
 bindP (oExt v17 0) fun v28 =>
 bindP (oExt v17 1) fun v29 =>
 bindP (oNilC v18) fun v30 =>
 bindP (oFieldAddr 2 1 v30) fun v31 =>
 bindC (ok (oStore 1 S1 v31 v28)) (fun v Sx => bif (true && true) && true then pnA v Sx else none) fun _ S2 =>
 bindP (oIndexAddrA 4 1 v6 (.int .i64 0)) fun v32 =>
 bindC (ok (oStore 1 S2 v32 v29)) (fun v Sx => bif (true && true) && true then pnA v Sx else none) fun _ S3 =>
 bif true then
 (let S := S3;
 bindP (some v5) fun v34 =>
 bindP (oLoad 11 true S v1) fun v35 =>
 bindC (apart κ.toOracle 121 [v35] S) (fun _ _ => none) fun v36 S4 =>
 bindP (some v5) fun v37 =>
 bindP (oNilC v37) fun v38 =>
 bindP (oFieldAddr 1 1 v38) fun v39 =>
 bindP (oLoad 1 false S4 v39) fun v40 =>
 bindC (callN κ.toOracle 120 [v36, v40] S4) (fun v Sx => bif (true && true) && true then pnA v Sx else none) fun v41 S5 =>
 bindP (some v41) fun v33 =>
 bindP (oExt v33 0) fun v42 =>
 bindP (oExt v33 1) fun v43 =>
 bindP (oNilC v34) fun v44 =>
 bindP (oFieldAddr 3 1 v44) fun v45 =>
 bindC (ok (oStore 1 S5 v45 v42)) (fun v Sx => bif (true && true) && true then pnA v Sx else none) fun _ S6 =>
 bindP (oIndexAddrA 4 1 v6 (.int .i64 1)) fun v46 =>
 bindC (ok (oStore 1 S6 v46 v43)) (fun v Sx => bif (true && true) && true then pnA v Sx else none) fun _ S7 =>
 bif true then
 (let S := S7;
 bindP (some v5) fun v48 =>
 bindP (some v5) fun v49 =>
 bindP (oNilC v49) fun v50 =>
 bindP (oFieldAddr 1 1 v50) fun v51 =>
 bindP (oLoad 1 false S v51) fun v52 =>
 bindC (callN κ.toOracle 122 [v52] S) pnA fun v53 S =>
 bindP (some v53) fun v47 =>
 bindP (oExt v47 0) fun v54 =>
 bindP (oExt v47 1) fun v55 =>
 bindP (oNilC v48) fun v56 =>
 bindP (oFieldAddr 4 1 v56) fun v57 =>
 bindC (ok (oStore 1 S v57 v54)) pnA fun _ S =>
 bindP (oIndexAddrA 4 1 v6 (.int .i64 2)) fun v58 =>
 bindC (ok (oStore 1 S v58 v55)) pnA fun _ S =>
 bindP (some v5) fun v60 =>
 bindP (some v5) fun v61 =>
 bindP (oNilC v61) fun v62 =>
 bindP (oFieldAddr 1 1 v62) fun v63 =>
 bindP (oLoad 1 false S v63) fun v64 =>
 bindC (callN κ.toOracle 123 [v64] S) pnA fun v65 S =>
 bindP (some v65) fun v59 =>
 bindP (oExt v59 0) fun v66 =>
 bindP (oExt v59 1) fun v67 =>
 bindP (oNilC v60) fun v68 =>
 bindP (oFieldAddr 5 1 v68) fun v69 =>
 bindC (ok (oStore 1 S v69 v66)) pnA fun _ S =>
 bindP (oIndexAddrA 4 1 v6 (.int .i64 3)) fun v70 =>
 bindC (ok (oStore 1 S v70 v67)) pnA fun _ S =>
 bindP (oLoad 4 true S v6) fun v71 =>
 bindP (some (.int .i64 0)) fun v72 =>
 loop1 (fun vals S1 k8 =>
 let S := gcHead false S.objs.length [] vals S1;
 let v2 := vals.getD 0 .junk;
 let v3 := vals.getD 1 .junk;
 let v72 := vals.getD 2 .junk;
 bindP (oArith .lss v72 (.int .i64 4)) fun v73 =>
 ifA v73
 (bindP (oIndexArr 4 1 false v71 v72) fun v74 =>
 bindP (some v74) fun v8 =>
 bindP (some v8) fun v75 =>
 bindP (bN (eG (some [.i]) false false false v75 (.int .i64 0))) fun v76 =>
 ifA v76
 (bindP (some v8) fun v77 =>
 bindP (some .nilptr) fun v2 =>
 bindP (some v77) fun v3 =>
 some (.ret (.tup [v2, v3]), S))
 (bindP (oArith .add v72 (.int .i64 1)) fun v78 =>
 bindP (some v78) fun v72 =>
 bif sameD [] [] then k8 [v2, v3, v72] S else none))
 (bindP (some v5) fun v79 =>
 bindP (some v79) fun v2 =>
 bindP (some (.int .i64 0)) fun v3 =>
 some (.ret (.tup [v2, v3]), S))) N [v2, v3, v72] S)
 else none)
 else none)
theorem e47 (N : Nat) (κ : Oracles) (v0 : AV) (S : St) : runF (Cs N) κ false 47 [v0] S = s47 N κ v0 S := by kernel_rfl
/- (*sacristan/agent.Agent).State -/
def s48 (N : Nat) (κ : Oracles) (v0 : AV) (S : St) : R :=
 bindC (oAl S [.int .i64 0, .int .i64 0, .int .i64 0, .int .i64 0, .lst .nil 0 []]) pnA fun v2 S =>
 bindP (some v0) fun v3 =>
 bindP (bE (eNil kPtr v3 .nilptr)) fun v4 =>
 ifA v4
 (bindP (oFill (plS [(0, 1), (1, 1), (2, 1), (3, 1), (4, 1)]) [.int .i64 0, .int .i64 0, .int .i64 0, .int .i64 0, .lst .nil 0 []] []) fun v5 =>
 bindC (ok (oStore 5 S v2 v5)) pnA fun _ S =>
 (resA [(oLoad 5 true S v2)]).map fun vs => (.ret (packV vs), S))
 (bindP (some v0) fun v6 =>
 bindP (oNilC v6) fun v7 =>
 bindP (oFieldAddr 0 1 v7) fun v8 =>
 bindP (oLoad 1 false S v8) fun v9 =>
 bindC (callN κ.toOracle 108 [v9] S) pnA fun v10 S =>
 bindC (ok (oStore 5 S v2 v10)) pnA fun _ S =>
 (resA [(oLoad 5 true S v2)]).map fun vs => (.ret (packV vs), S))
theorem e48 (N : Nat) (κ : Oracles) (v0 : AV) (S : St) : runF (Cs N) κ false 48 [v0] S = s48 N κ v0 S := by kernel_rfl
/- sacristan/state.Copy -/
def s53 (N : Nat) (κ : Oracles) (v0 : AV) (S : St) : R :=
 bindC (oBox S v0) pnA fun v1 S =>
 bindC (oAl S [.int .i64 0, .int .i64 0, .int .i64 0, .int .i64 0, .lst .nil 0 []]) pnA fun v2 S =>
 bindP (oLoad 5 true S v1) fun v8 =>
 bindC (oAl S [.int .i64 0, .int .i64 0, .int .i64 0, .int .i64 0, .lst .nil 0 []]) pnA fun v3 S =>
 bindC (ok (oStore 5 S v3 v8)) pnA fun _ S =>
 bindP (oFieldAddr 4 1 v1) fun v9 =>
 bindP (oLoad 1 false S v9) fun v10 =>
 bindC (callN κ.toOracle 126 [v10] S) pnA fun v11 S =>
 bindP (oFieldAddr 4 1 v3) fun v12 =>
 bindC (ok (oStore 1 S v12 v11)) pnA fun _ S =>
 bindP (oFieldAddr 4 1 v1) fun v13 =>
 bindP (oLoad 1 false S v13) fun v14 =>
 bindP (oLen S (.slice 58) v14) fun v15 =>
 bindP (some (.int .i64 0)) fun v16 =>
 loop1 (fun vals S1 k1 =>
 let S := gcHead false S.objs.length [] vals S1;
 let v16 := vals.getD 0 .junk;
 bindP (oArith .lss v16 v15) fun v17 =>
 ifA v17
 (bindP (some v16) fun v18 =>
 bindP (oIndexAddrS 10 v14 v16) fun v19 =>
 bindP (oLoad 10 true S v19) fun v20 =>
 bindC (oAl S [.int .i64 0, .int .i64 0, .int .i64 0, .int .i64 0, .lst .nil 0 [], .lst .nil 0 [], .int .i64 0, .int .i64 0, .bool false, .lst .nil 0 []]) pnA fun v5 S =>
 bindP (some v18) fun v4 =>
 bindC (ok (oStore 10 S v5 v20)) pnA fun _ S =>
 bindP (oFieldAddr 4 1 v3) fun v21 =>
 bindP (oLoad 1 false S v21) fun v22 =>
 bindP (some v4) fun v23 =>
 bindP (oFieldAddr 0 6 v5) fun v24 =>
 bindP (oLoad 6 true S v24) fun v25 =>
 bindC (apart κ.toOracle 127 [v25] S) (fun _ _ => none) fun v26 S2 =>
 bindP (oIndexAddrS 10 v22 v23) fun v27 =>
 bindP (oFieldAddr 0 6 v27) fun v28 =>
 bindC (ok (oStore 6 S2 v28 v26)) (fun v Sx => bif (true && true) && true then pnA v Sx else none) fun _ S3 =>
 bif true then
 (let S := S3;
 bindP (oFieldAddr 4 1 v3) fun v29 =>
 bindP (oLoad 1 false S v29) fun v30 =>
 bindP (some v4) fun v31 =>
 bindP (oFieldAddr 9 1 v5) fun v32 =>
 bindP (oLoad 1 false S v32) fun v33 =>
 bindC (callN κ.toOracle 128 [v33] S) (fun v Sx => bif (true && true) && true then pnA v Sx else none) fun v34 S4 =>
 bindP (oIndexAddrS 10 v30 v31) fun v35 =>
 bindP (oFieldAddr 9 1 v35) fun v36 =>
 bindC (ok (oStore 1 S4 v36 v34)) (fun v Sx => bif (true && ((true && true) && (((false || (chkA (oLoad 1 false S v29) v30 && chkA (oLoad 1 false S4 v29) v30)) && true) && true))) && true then pnA v Sx else none) fun _ S5 =>
 bif ((true && (true && true)) && ((true && ((false || (chkA (oLoad 1 false S v29) v30 && chkA (oLoad 1 false S4 v29) v30)) && true)) && true)) then
 (let S := S5;
 bindP (oFieldAddr 9 1 v5) fun v37 =>
 bindP (oLoad 1 false S v37) fun v38 =>
 bindP (oLen S (.slice 52) v38) fun v39 =>
 bindP (some (.int .i64 0)) fun v40 =>
 loop1 (fun vals S1 k6 =>
 let S := gcHead false S.objs.length [] vals S1;
 let v40 := vals.getD 0 .junk;
 bindP (oArith .lss v40 v39) fun v41 =>
 ifA v41
 (bindP (some v40) fun v42 =>
 bindP (oIndexAddrS 8 v38 v40) fun v43 =>
 bindP (oLoad 8 true S v43) fun v44 =>
 bindC (oAl S [.int .u8 0, .int .i64 0, .int .i64 0, .int .i64 0, .int .i64 0, .int .i64 0, .int .i64 0, .lst .nil 0 []]) pnA fun v7 S =>
 bindP (some v42) fun v6 =>
 bindC (ok (oStore 8 S v7 v44)) pnA fun _ S =>
 bindP (oFieldAddr 4 1 v3) fun v45 =>
 bindP (oLoad 1 false S v45) fun v46 =>
 bindP (some v4) fun v47 =>
 bindP (oIndexAddrS 10 v46 v47) fun v48 =>
 bindP (oFieldAddr 9 1 v48) fun v49 =>
 bindP (oLoad 1 false S v49) fun v50 =>
 bindP (some v6) fun v51 =>
 bindP (oFieldAddr 7 1 v7) fun v52 =>
 bindP (oLoad 1 false S v52) fun v53 =>
 bindC (apart κ.toOracle 55 [v53] S) (fun _ _ => none) fun v54 S7 =>
 bindP (oIndexAddrS 8 v50 v51) fun v55 =>
 bindP (oFieldAddr 7 1 v55) fun v56 =>
 bindC (ok (oStore 1 S7 v56 v54)) (fun v Sx => bif (true && true) && true then pnA v Sx else none) fun _ S8 =>
 bif true then
 (let S := S8;
 bindP (oArith .add v40 (.int .i64 1)) fun v57 =>
 bindP (some v57) fun v40 =>
 bif sameD [] [] then k6 [v40] S else none)
 else none)
 (bindP (oArith .add v16 (.int .i64 1)) fun v58 =>
 bindP (some v58) fun v16 =>
 bif sameD [] [] then k1 [v16] S else none)) N [v40] S)
 else none)
 else none)
 (bindP (oLoad 5 true S v3) fun v59 =>
 bindC (ok (oStore 5 S v2 v59)) pnA fun _ S =>
 (resA [(oLoad 5 true S v2)]).map fun vs => (.ret (packV vs), S))) N [v16] S
theorem e53 (N : Nat) (κ : Oracles) (v0 : AV) (S : St) : runF (Cs N) κ false 53 [v0] S = s53 N κ v0 S := by kernel_rfl
/- slices.Clone[[]sacristan/api.Proc,sacristan/api.Proc] -/
def s54 (N : Nat) (κ : Oracles) (v0 : AV) (S : St) : R :=
 bindP (some (.lst .nil 0 [])) fun v2 =>
 bindP (some v0) fun v3 =>
 bindP (bE (eNil kSli v3 (.lst .nil 0 []))) fun v4 =>
 ifA v4
 (bindP (some (.lst .nil 0 [])) fun v2 =>
 some (.ret v2, S))
 (bindC (oBS S 9 [.int .i64 0, .int .i64 0, .int .i64 0, .int .i64 0, .int .i64 0, .bool false, .bool false, .bool false, .int .i64 0] 0 []) pnA fun v5 S =>
 bindP (some v0) fun v6 =>
 bindC (oApp false 9 56 S v5 v6) pnA fun v7 S =>
 bindP (some v7) fun v2 =>
 some (.ret v2, S))
theorem e54 (N : Nat) (κ : Oracles) (v0 : AV) (S : St) : runF (Cs N) κ false 54 [v0] S = s54 N κ v0 S := by kernel_rfl
/- slices.Clone[[]int,int] -/
def s55 (N : Nat) (κ : Oracles) (v0 : AV) (S : St) : R :=
 bindP (some (.lst .nil 0 [])) fun v2 =>
 bindP (some v0) fun v3 =>
 bindP (bE (eNil kSli v3 (.lst .nil 0 []))) fun v4 =>
 ifA v4
 (bindP (some (.lst .nil 0 [])) fun v2 =>
 some (.ret v2, S))
 (bindC (oBS S 1 [.int .i64 0] 0 []) pnA fun v5 S =>
 bindP (some v0) fun v6 =>
 bindC (oApp false 1 8 S v5 v6) pnA fun v7 S =>
 bindP (some v7) fun v2 =>
 some (.ret v2, S))
theorem e55 (N : Nat) (κ : Oracles) (v0 : AV) (S : St) : runF (Cs N) κ false 55 [v0] S = s55 N κ v0 S := by kernel_rfl
/- sacristan/run.records -/
def s56 (N : Nat) (κ : Oracles) (v0 : AV) (S : St) : R :=
 bindP (some (.lst .nil 0 [])) fun v2 =>
 bindP (some v0) fun v5 =>
 bindC (callN κ.toOracle 129 [v5] S) pnA fun v6 S =>
 bindP (some v6) fun v3 =>
 bindP (some v3) fun v7 =>
 bindP (oLen S (.slice 61) v7) fun v8 =>
 bindP (some (.int .i64 0)) fun v9 =>
 loop1 (fun vals S1 k1 =>
 let S := gcHead false S.objs.length [] vals S1;
 let v9 := vals.getD 0 .junk;
 bindP (oArith .lss v9 v8) fun v10 =>
 ifA v10
 (bindP (some v9) fun v11 =>
 bindP (some v11) fun v4 =>
 bindP (some v3) fun v12 =>
 bindP (some v4) fun v13 =>
 bindP (some v3) fun v14 =>
 bindP (some v4) fun v15 =>
 bindP (oIndexAddrS 15 v14 v15) fun v16 =>
 bindP (oFieldAddr 2 6 v16) fun v17 =>
 bindP (oLoad 6 true S v17) fun v18 =>
 bindC (apart κ.toOracle 127 [v18] S) pnA fun v19 S =>
 bindP (oIndexAddrS 15 v12 v13) fun v20 =>
 bindP (oFieldAddr 2 6 v20) fun v21 =>
 bindC (ok (oStore 6 S v21 v19)) pnA fun _ S =>
 bindP (oArith .add v9 (.int .i64 1)) fun v22 =>
 bindP (some v22) fun v9 =>
 bif sameD [] [] then k1 [v9] S else none)
 (bindP (some v3) fun v23 =>
 bindP (some v23) fun v2 =>
 some (.ret v2, S))) N [v9] S
theorem e56 (N : Nat) (κ : Oracles) (v0 : AV) (S : St) : runF (Cs N) κ false 56 [v0] S = s56 N κ v0 S := by kernel_rfl
/- slices.ContainsFunc[[]sacristan/api.Moment,sacristan/api.Moment] -/
def s57 (N : Nat) (κ : Oracles) (v0 v1 : AV) (S : St) : R :=
 bindP (some (.bool false)) fun v4 =>
 bindP (some v0) fun v5 =>
 bindP (some v1) fun v6 =>
 bindC (callN κ.toOracle 130 [v5, v6] S) pnA fun v7 S =>
 bindP (oArith .geq v7 (.int .i64 0)) fun v8 =>
 bindP (some v8) fun v4 =>
 some (.ret v4, S)
theorem e57 (N : Nat) (κ : Oracles) (v0 v1 : AV) (S : St) : runF (Cs N) κ false 57 [v0, v1] S = s57 N κ v0 v1 S := by kernel_rfl
/- sacristan/audit.Tracked$1 -/
def s58 (N : Nat) (κ : Oracles) (v0 : AV) (S : St) : R :=
 bindC (oBox S v0) pnA fun v1 S =>
 bindP (some (.bool false)) fun v2 =>
 bindP (oFieldAddr 2 1 v1) fun v3 =>
 bindP (oLoad 1 false S v3) fun v4 =>
 bindP (some v4) fun v5 =>
 bindP (guardP v5 true (oFieldAddr 9 1 v1)) fun v6 =>
 bindP (guardP v5 true (oLoad 1 false S v6)) fun v7 =>
 bindP (guardP v5 true (some (.func 60 [] [v1]))) fun v8 =>
 bindC (guardC v5 true S (callN κ.toOracle 59 [v7, v8] S)) pnA fun v9 S =>
 bindP (oPick v5 v9 (.bool false)) fun v10 =>
 bindP (some v10) fun v2 =>
 some (.ret v2, S)
theorem e58 (N : Nat) (κ : Oracles) (v0 : AV) (S : St) : runF (Cs N) κ false 58 [v0] S = s58 N κ v0 S := by kernel_rfl
/- slices.ContainsFunc[[]sacristan/api.Proc,sacristan/api.Proc] -/
def s59 (N : Nat) (κ : Oracles) (v0 v1 : AV) (S : St) : R :=
 bindP (some (.bool false)) fun v4 =>
 bindP (some v0) fun v5 =>
 bindP (some v1) fun v6 =>
 bindC (callN κ.toOracle 131 [v5, v6] S) pnA fun v7 S =>
 bindP (oArith .geq v7 (.int .i64 0)) fun v8 =>
 bindP (some v8) fun v4 =>
 some (.ret v4, S)
theorem e59 (N : Nat) (κ : Oracles) (v0 v1 : AV) (S : St) : runF (Cs N) κ false 59 [v0, v1] S = s59 N κ v0 v1 S := by kernel_rfl
/- sacristan/audit.Fits$1 -/
def s62 (N : Nat) (κ : Oracles) (v0 v1 : AV) (S : St) : R :=
 bindC (oBox S v0) pnA fun v2 S =>
 bindP (some (.bool false)) fun v3 =>
 bindP (oFieldAddr 1 1 v2) fun v4 =>
 bindP (oLoad 1 false S v4) fun v5 =>
 bindP (some v5) fun v6 =>
 bindP (guardP v6 true (oLoad 11 true S v1)) fun v7 =>
 bindP (guardP v6 true (oFieldAddr 4 5 v2)) fun v8 =>
 bindP (guardP v6 true (oLoad 5 true S v8)) fun v9 =>
 bindC (guardC v6 true S (apart κ.toOracle 63 [v7, v9] S)) pnA fun v10 S =>
 bindP (guardP v6 true (oUn .not v10)) fun v11 =>
 bindP (oPick v6 v11 (.bool false)) fun v12 =>
 bindP (some v12) fun v3 =>
 some (.ret v3, S)
theorem e62 (N : Nat) (κ : Oracles) (v0 v1 : AV) (S : St) : runF (Cs N) κ false 62 [v0, v1] S = s62 N κ v0 v1 S := by kernel_rfl
/- sacristan/audit.fits -/
def s63 (N : Nat) (κ : Oracles) (v0 v1 : AV) (S : St) : R :=
 bindC (oBox S v0) pnA fun v2 S =>
 bindC (oBox S v1) pnA fun v3 S =>
 bindP (some (.bool false)) fun v4 =>
 bindP (some (.lst .nil 0 [])) fun v5 =>
 bindP (some (.lst .nil 0 [])) fun v6 =>
 bindP (oFieldAddr 4 1 v3) fun v11 =>
 bindP (oLoad 1 false S v11) fun v12 =>
 bindP (oLen S (.slice 58) v12) fun v13 =>
 bindP (some (.int .i64 0)) fun v14 =>
 loop1 (fun vals S1 k1 =>
 let S := gcHead false S.objs.length [] vals S1;
 let v4 := vals.getD 0 .junk;
 let v5 := vals.getD 1 .junk;
 let v6 := vals.getD 2 .junk;
 let v14 := vals.getD 3 .junk;
 bindP (oArith .lss v14 v13) fun v15 =>
 ifA v15
 (let j2 : List AV → St → R := (fun vals S =>
 let v4 := vals.getD 0 .junk;
 let v5 := vals.getD 1 .junk;
 let v6 := vals.getD 2 .junk;
 bindP (oArith .add v14 (.int .i64 1)) fun v38 =>
 bindP (some v38) fun v14 =>
 bif sameD [] [] then k1 [v4, v5, v6, v14] S else none);
 bindP (oIndexAddrS 10 v12 v14) fun v16 =>
 bindP (oLoad 10 true S v16) fun v17 =>
 bindC (oAl S [.int .i64 0, .int .i64 0, .int .i64 0, .int .i64 0, .lst .nil 0 [], .lst .nil 0 [], .int .i64 0, .int .i64 0, .bool false, .lst .nil 0 []]) pnA fun v8 S =>
 bindC (ok (oStore 10 S v8 v17)) pnA fun _ S =>
 bindP (oLoad 10 true S v8) fun v18 =>
 bindC (apart κ.toOracle 134 [v18] S) pnA fun v19 S =>
 ifA v19
 (bif sameD [] [] then Join j2 [v4, v5, v6] S else none)
 (bindP (some v6) fun v20 =>
 bindP (oFieldAddr 0 6 v8) fun v21 =>
 bindP (oFieldAddr 4 1 v21) fun v22 =>
 bindP (oLoad 1 false S v22) fun v23 =>
 bindC (apart κ.toOracle 135 [v20, v23] S) pnA fun v24 S =>
 bindP (oLen S (.slice 3) v24) fun v25 =>
 bindP (oArith .gtr v25 (.int .i64 0)) fun v26 =>
 ifA v26
 (bindP (some (.bool false)) fun v4 =>
 some (.ret v4, S))
 (bindP (some v5) fun v27 =>
 bindP (oFieldAddr 0 6 v8) fun v28 =>
 bindP (oFieldAddr 1 3 v28) fun v29 =>
 bindP (oLoad 3 true S v29) fun v30 =>
 bindC (oBS S 3 [.int .i64 0, .int .i64 0, .int .i64 0] 1 [(0, v30)]) (fun _ _ => none) fun v31 S3 =>
 bindC (oApp false 3 24 S3 v27 v31) (fun v Sx => bif (true && true) && (rfA (some v6) fun v33 => (rfA (oFieldAddr 0 6 v8) fun v34 => (rfA (oFieldAddr 4 1 v34) fun v35 => false))) then pnA v Sx else none) fun v32 S4 =>
 bindP (some v6) fun v33 =>
 bindP (oFieldAddr 0 6 v8) fun v34 =>
 bindP (oFieldAddr 4 1 v34) fun v35 =>
 bindP (oLoad 1 false S4 v35) fun v36 =>
 bindC (oApp false 1 8 S4 v33 v36) (fun v Sx => bif (true && (((false || (chkA (oLoad 1 false S3 v35) v36 && chkA (oLoad 1 false S4 v35) v36)) && true) && ((true && true) && true))) && true then pnA v Sx else none) fun v37 S5 =>
 bindP (some v32) fun v5 =>
 bindP (some v37) fun v6 =>
 bif ((true && ((false || (chkA (oLoad 1 false S3 v35) v36 && chkA (oLoad 1 false S4 v35) v36)) && true)) && ((true && (true && true)) && true)) then
 (let S := S5;
 bif sameD [] [] then Join j2 [v4, v5, v6] S else none)
 else none)))
 (bindP (some v5) fun v40 =>
 bindC (apart κ.toOracle 136 [v40] S) pnA fun v41 S =>
 bindP (some v41) fun v39 =>
 bindP (oExt v39 0) fun v42 =>
 bindP (oExt v39 1) fun v43 =>
 bindC (oAl S [.int .i64 0, .int .i64 0, .int .i64 0]) pnA fun v9 S =>
 bindC (ok (oStore 3 S v9 v42)) pnA fun _ S =>
 bindP (some v43) fun v10 =>
 bindP (some v10) fun v44 =>
 bindP (some v44) fun v45 =>
 bindP (guardP v45 true (oLoad 3 true S v9)) fun v46 =>
 bindP (guardP v45 true (oFieldAddr 0 3 v2)) fun v47 =>
 bindP (guardP v45 true (oLoad 3 true S v47)) fun v48 =>
 bindC (guardC v45 true S (apart κ.toOracle 137 [v46, v48] S)) pnA fun v49 S =>
 bindP (oPick v45 v49 (.bool false)) fun v50 =>
 bindP (some v50) fun v4 =>
 some (.ret v4, S))) N [v4, v5, v6, v14] S
theorem e63 (N : Nat) (κ : Oracles) (v0 v1 : AV) (S : St) : runF (Cs N) κ false 63 [v0, v1] S = s63 N κ v0 v1 S := by kernel_rfl
/- sacristan/sacristanlaw36.pair -/
def s65 (N : Nat) (κ : Oracles) (S : St) : R :=
 bindP (some (.lst .nil 0 [])) fun v0 =>
 bindP (oFill (plS [(0, 1), (1, 1), (2, 1)]) [.int .i64 0, .int .i64 0, .int .i64 0] [(0, (.int .i64 7)), (2, (.int .i64 1))]) fun v3 =>
 bindP (oFill (plS [(0, 1), (1, 1), (2, 3), (5, 1), (6, 1), (7, 1), (8, 1)]) [.int .i64 0, .int .i64 0, .int .i64 0, .int .i64 0, .int .i64 0, .bool false, .bool false, .bool false, .int .i64 0] [(0, (.int .i64 1)), (1, (.int .i64 1)), (2, v3), (3, (.bool true))]) fun v4 =>
 bindC (oAl S [.int .i64 0, .int .i64 0, .int .i64 0, .int .i64 0, .int .i64 0, .bool false, .bool false, .bool false, .int .i64 0]) pnA fun v1 S =>
 bindC (ok (oStore 9 S v1 v4)) pnA fun _ S =>
 bindP (oFill (plS [(0, 1), (1, 1), (2, 1)]) [.int .i64 0, .int .i64 0, .int .i64 0] [(0, (.int .i64 7)), (2, (.int .i64 2))]) fun v5 =>
 bindP (oFill (plS [(0, 1), (1, 1), (2, 3), (5, 1), (6, 1), (7, 1), (8, 1)]) [.int .i64 0, .int .i64 0, .int .i64 0, .int .i64 0, .int .i64 0, .bool false, .bool false, .bool false, .int .i64 0] [(0, (.int .i64 2)), (1, (.int .i64 2)), (2, v5), (3, (.bool true))]) fun v6 =>
 bindC (oAl S [.int .i64 0, .int .i64 0, .int .i64 0, .int .i64 0, .int .i64 0, .bool false, .bool false, .bool false, .int .i64 0]) pnA fun v2 S =>
 bindC (ok (oStore 9 S v2 v6)) pnA fun _ S =>
 bindP (oLoad 9 true S v1) fun v7 =>
 bindP (oLoad 9 true S v2) fun v8 =>
 bindC (oBS S 9 [.int .i64 0, .int .i64 0, .int .i64 0, .int .i64 0, .int .i64 0, .bool false, .bool false, .bool false, .int .i64 0] 2 [(0, v7), (1, v8)]) pnA fun v9 S =>
 bindP (oFill (plS [(0, 1), (1, 1), (2, 1), (3, 1), (4, 5), (9, 1), (10, 1), (11, 1), (12, 1), (13, 1)]) [.int .i64 0, .bool false, .bool false, .bool false, .int .i64 0, .int .i64 0, .int .i64 0, .int .i64 0, .lst .nil 0 [], .lst .nil 0 [], .lst .nil 0 [], .int .i64 0, .lst .nil 0 [], .lst .nil 0 []] [(1, (.bool true)), (5, v9)]) fun v10 =>
 bindC (oBS S 14 [.int .i64 0, .bool false, .bool false, .bool false, .int .i64 0, .int .i64 0, .int .i64 0, .int .i64 0, .lst .nil 0 [], .lst .nil 0 [], .lst .nil 0 [], .int .i64 0, .lst .nil 0 [], .lst .nil 0 []] 1 [(0, v10)]) pnA fun v11 S =>
 bindP (some v11) fun v0 =>
 some (.ret v0, S)
theorem e65 (N : Nat) (κ : Oracles) (S : St) : runF (Cs N) κ false 65 [] S = s65 N κ S := by kernel_rfl
/- sacristan/spec.ask -/
def s75 (N : Nat) (κ : Oracles) (v0 : AV) (S : St) : R :=
 bindP (some (.int .i64 0)) fun v2 =>
 bindP (some v0) fun v6 =>
 bindP (oLen S (.slice 93) v6) fun v7 =>
 bindP (some (.int .i64 0)) fun v8 =>
 loop1 (fun vals S1 k1 =>
 let S := gcHead false S.objs.length [] vals S1;
 let v2 := vals.getD 0 .junk;
 let v8 := vals.getD 1 .junk;
 bindP (oArith .lss v8 v7) fun v9 =>
 ifA v9
 (bindP (oIndexAddrS 1 v6 v8) fun v10 =>
 bindP (oLoad 1 false S v10) fun v11 =>
 bindP (some v11) fun v4 =>
 bindP (some v4) fun v12 =>
 bindC (callD κ.toOracle 75 v12 [] S) pnA fun v13 S =>
 bindP (some v13) fun v5 =>
 bindP (some v5) fun v14 =>
 bindP (bN (eG (some [.i]) false false false v14 (.int .i64 0))) fun v15 =>
 ifA v15
 (bindP (some v5) fun v16 =>
 bindP (some v16) fun v2 =>
 some (.ret v2, S))
 (bindP (oArith .add v8 (.int .i64 1)) fun v17 =>
 bindP (some v17) fun v8 =>
 bif sameD [] [] then k1 [v2, v8] S else none))
 (bindP (some (.int .i64 0)) fun v2 =>
 some (.ret v2, S))) N [v2, v8] S
theorem e75 (N : Nat) (κ : Oracles) (v0 : AV) (S : St) : runF (Cs N) κ false 75 [v0] S = s75 N κ v0 S := by kernel_rfl
/- sacristan/spec.Config$1 -/
def s76 (N : Nat) (κ : Oracles) (v0 : AV) (S : St) : R :=
 bindP (some (.int .i64 0)) fun v1 =>
 bindP (oFieldAddr 0 3 v0) fun v2 =>
 bindP (oLoad 3 true S v2) fun v3 =>
 bindC (apart κ.toOracle 77 [v3] S) pnA fun v4 S =>
 bindP (some v4) fun v1 =>
 some (.ret v1, S)
theorem e76 (N : Nat) (κ : Oracles) (v0 : AV) (S : St) : runF (Cs N) κ false 76 [v0] S = s76 N κ v0 S := by kernel_rfl
/- sacristan/res.Check -/
def s77 (N : Nat) (κ : Oracles) (v0 : AV) (S : St) : R :=
 bindC (oBox S v0) pnA fun v1 S =>
 bindP (some (.int .i64 0)) fun v2 =>
 bindP (oLoad 3 true S v1) fun v5 =>
 bindC (apart κ.toOracle 158 [v5] S) pnA fun v6 S =>
 bindP (some (.int .i64 0)) fun v7 =>
 loop1 (fun vals S1 k1 =>
 let S := gcHead false S.objs.length [] vals S1;
 let v2 := vals.getD 0 .junk;
 let v7 := vals.getD 1 .junk;
 bindP (oArith .lss v7 (.int .i64 3)) fun v8 =>
 ifA v8
 (bindP (oIndexArr 3 1 false v6 v7) fun v9 =>
 bindP (some v9) fun v4 =>
 bindP (some v4) fun v10 =>
 bindP (oArith .lss v10 (.int .i64 0)) fun v11 =>
 bindP (some v11) fun v12 =>
 bindP (guardP v12 false (some v4)) fun v13 =>
 bindP (guardP v12 false (oArith .gtr v13 (.int .i64 1099511627776))) fun v14 =>
 bindP (oPick v12 (.bool true) v14) fun v15 =>
 ifA v15
 (bindP (some (.int .i64 3)) fun v2 =>
 some (.ret v2, S))
 (bindP (oArith .add v7 (.int .i64 1)) fun v16 =>
 bindP (some v16) fun v7 =>
 bif sameD [] [] then k1 [v2, v7] S else none))
 (bindP (some (.int .i64 0)) fun v2 =>
 some (.ret v2, S))) N [v2, v7] S
theorem e77 (N : Nat) (κ : Oracles) (v0 : AV) (S : St) : runF (Cs N) κ false 77 [v0] S = s77 N κ v0 S := by kernel_rfl
/- sacristan/spec.Config$2 -/
def s78 (N : Nat) (κ : Oracles) (v0 : AV) (S : St) : R :=
 bindP (some (.int .i64 0)) fun v1 =>
 bindP (oFieldAddr 3 1 v0) fun v2 =>
 bindP (oLoad 1 false S v2) fun v3 =>
 bindC (apart κ.toOracle 79 [v3, (.int .i64 1), (.int .i64 8)] S) pnA fun v4 S =>
 bindP (some v4) fun v1 =>
 some (.ret v1, S)
theorem e78 (N : Nat) (κ : Oracles) (v0 : AV) (S : St) : runF (Cs N) κ false 78 [v0] S = s78 N κ v0 S := by kernel_rfl
/- sacristan/spec.in -/
def s79 (N : Nat) (κ : Oracles) (v0 v1 v2 : AV) (S : St) : R :=
 bindP (some (.int .i64 0)) fun v6 =>
 bindP (some v0) fun v7 =>
 bindP (some v1) fun v8 =>
 bindP (oArith .lss v7 v8) fun v9 =>
 bindP (some v9) fun v10 =>
 bindP (guardP v10 false (some v0)) fun v11 =>
 bindP (guardP v10 false (some v2)) fun v12 =>
 bindP (guardP v10 false (oArith .gtr v11 v12)) fun v13 =>
 bindP (oPick v10 (.bool true) v13) fun v14 =>
 ifA v14
 (bindP (some (.int .i64 3)) fun v6 =>
 some (.ret v6, S))
 (bindP (some (.int .i64 0)) fun v6 =>
 some (.ret v6, S))
theorem e79 (N : Nat) (κ : Oracles) (v0 v1 v2 : AV) (S : St) : runF (Cs N) κ false 79 [v0, v1, v2] S = s79 N κ v0 v1 v2 S := by kernel_rfl
/- sacristan/spec.Config$3 -/
def s80 (N : Nat) (κ : Oracles) (v0 : AV) (S : St) : R :=
 bindP (some (.int .i64 0)) fun v1 =>
 bindP (oFieldAddr 4 1 v0) fun v2 =>
 bindP (oLoad 1 false S v2) fun v3 =>
 bindP (oFieldAddr 3 1 v0) fun v4 =>
 bindP (oLoad 1 false S v4) fun v5 =>
 bindC (apart κ.toOracle 81 [v5] S) (fun _ _ => none) fun v6 S1 =>
 bindC (apart κ.toOracle 79 [v3, v6, (.int .i64 1024)] S1) (fun _ _ => none) fun v7 S2 =>
 bindP (some v7) fun v1 =>
 bif true then
 (let S := S2;
 some (.ret v1, S))
 else none
theorem e80 (N : Nat) (κ : Oracles) (v0 : AV) (S : St) : runF (Cs N) κ false 80 [v0] S = s80 N κ v0 S := by kernel_rfl
/- sacristan/spec.Need -/
def s81 (N : Nat) (κ : Oracles) (v0 : AV) (S : St) : R :=
 bindP (some (.int .i64 0)) fun v2 =>
 bindP (some v0) fun v3 =>
 bindP (oArith .lss v3 (.int .i64 1)) fun v4 =>
 bindP (some v4) fun v5 =>
 bindP (guardP v5 false (some v0)) fun v6 =>
 bindP (guardP v5 false (oArith .gtr v6 (.int .i64 8))) fun v7 =>
 bindP (oPick v5 (.bool true) v7) fun v8 =>
 ifA v8
 (bindP (some (.int .i64 0)) fun v2 =>
 some (.ret v2, S))
 (bindP (some v0) fun v9 =>
 bindP (oArith .add v9 (.int .i64 1)) fun v10 =>
 bindP (oArith .mul (.int .i64 16) v10) fun v11 =>
 bindP (some v11) fun v2 =>
 some (.ret v2, S))
theorem e81 (N : Nat) (κ : Oracles) (v0 : AV) (S : St) : runF (Cs N) κ false 81 [v0] S = s81 N κ v0 S := by kernel_rfl
/- sacristan/spec.Config$4 -/
def s82 (N : Nat) (κ : Oracles) (v0 : AV) (S : St) : R :=
 bindP (some (.int .i64 0)) fun v1 =>
 bindP (oFieldAddr 5 1 v0) fun v2 =>
 bindP (oLoad 1 false S v2) fun v3 =>
 bindC (apart κ.toOracle 79 [v3, (.int .i64 2), (.int .i64 16)] S) pnA fun v4 S =>
 bindP (some v4) fun v1 =>
 some (.ret v1, S)
theorem e82 (N : Nat) (κ : Oracles) (v0 : AV) (S : St) : runF (Cs N) κ false 82 [v0] S = s82 N κ v0 S := by kernel_rfl
/- sacristan/spec.Config$5 -/
def s83 (N : Nat) (κ : Oracles) (v0 : AV) (S : St) : R :=
 bindP (some (.int .i64 0)) fun v1 =>
 bindP (oFieldAddr 6 1 v0) fun v2 =>
 bindP (oLoad 1 false S v2) fun v3 =>
 bindC (apart κ.toOracle 79 [v3, (.int .i64 1), (.int .i64 64)] S) pnA fun v4 S =>
 bindP (some v4) fun v1 =>
 some (.ret v1, S)
theorem e83 (N : Nat) (κ : Oracles) (v0 : AV) (S : St) : runF (Cs N) κ false 83 [v0] S = s83 N κ v0 S := by kernel_rfl
/- sacristan/spec.Config$6 -/
def s84 (N : Nat) (κ : Oracles) (v0 : AV) (S : St) : R :=
 bindP (some (.int .i64 0)) fun v1 =>
 bindP (oFieldAddr 7 1 v0) fun v2 =>
 bindP (oLoad 1 false S v2) fun v3 =>
 bindC (apart κ.toOracle 79 [v3, (.int .i64 1), (.int .i64 1099511627776)] S) pnA fun v4 S =>
 bindP (some v4) fun v1 =>
 some (.ret v1, S)
theorem e84 (N : Nat) (κ : Oracles) (v0 : AV) (S : St) : runF (Cs N) κ false 84 [v0] S = s84 N κ v0 S := by kernel_rfl
/- sacristan/spec.Config$7 -/
def s85 (N : Nat) (κ : Oracles) (v0 : AV) (S : St) : R :=
 bindP (some (.int .i64 0)) fun v1 =>
 bindP (oFieldAddr 8 1 v0) fun v2 =>
 bindP (oLoad 1 false S v2) fun v3 =>
 bindC (apart κ.toOracle 79 [v3, (.int .i64 1), (.int .i64 1099511627776)] S) pnA fun v4 S =>
 bindP (some v4) fun v1 =>
 some (.ret v1, S)
theorem e85 (N : Nat) (κ : Oracles) (v0 : AV) (S : St) : runF (Cs N) κ false 85 [v0] S = s85 N κ v0 S := by kernel_rfl
/- sacristan/spec.Config$8 -/
def s86 (N : Nat) (κ : Oracles) (v0 : AV) (S : St) : R :=
 bindP (some (.int .i64 0)) fun v1 =>
 bindP (oFieldAddr 9 1 v0) fun v2 =>
 bindP (oLoad 1 false S v2) fun v3 =>
 bindC (apart κ.toOracle 79 [v3, (.int .i64 0), (.int .i64 1099511627776)] S) pnA fun v4 S =>
 bindP (some v4) fun v1 =>
 some (.ret v1, S)
theorem e86 (N : Nat) (κ : Oracles) (v0 : AV) (S : St) : runF (Cs N) κ false 86 [v0] S = s86 N κ v0 S := by kernel_rfl
/- sacristan/spec.Config$9 -/
def s87 (N : Nat) (κ : Oracles) (v0 : AV) (S : St) : R :=
 bindP (some (.int .i64 0)) fun v1 =>
 bindP (oFieldAddr 10 1 v0) fun v2 =>
 bindP (oLoad 1 false S v2) fun v3 =>
 bindC (apart κ.toOracle 79 [v3, (.int .i64 0), (.int .i64 1099511627776)] S) pnA fun v4 S =>
 bindP (some v4) fun v1 =>
 some (.ret v1, S)
theorem e87 (N : Nat) (κ : Oracles) (v0 : AV) (S : St) : runF (Cs N) κ false 87 [v0] S = s87 N κ v0 S := by kernel_rfl
/- (*sacristan/fuse.Fuse).Blown -/
def s91 (N : Nat) (κ : Oracles) (v0 : AV) (S : St) : R :=
 bindP (some (.bool false)) fun v2 =>
 bindP (some v0) fun v3 =>
 bindP (bN (eNil kPtr v3 .nilptr)) fun v4 =>
 bindP (some v4) fun v5 =>
 bindP (guardP v5 true (some v0)) fun v6 =>
 bindP (guardP v5 true (oNilC v6)) fun v7 =>
 bindP (guardP v5 true (oFieldAddr 0 1 v7)) fun v8 =>
 bindP (guardP v5 true (oLoad 1 false S v8)) fun v9 =>
 bindP (guardP v5 true (bE (eG (some [.i]) false false false v9 (.int .i64 2)))) fun v10 =>
 bindP (oPick v5 v10 (.bool false)) fun v11 =>
 bindP (some v11) fun v2 =>
 some (.ret v2, S)
theorem e91 (N : Nat) (κ : Oracles) (v0 : AV) (S : St) : runF (Cs N) κ false 91 [v0] S = s91 N κ v0 S := by kernel_rfl
/- (*sacristan/proc.Table).All -/
def s95 (N : Nat) (κ : Oracles) (v0 : AV) (S : St) : R :=
 bindP (some (.lst .nil 0 [])) fun v2 =>
 bindP (some v0) fun v5 =>
 bindP (bE (eNil kPtr v5 .nilptr)) fun v6 =>
 ifA v6
 (bindP (some (.lst .nil 0 [])) fun v2 =>
 some (.ret v2, S))
 (bindP (some (.lst .nil 0 [])) fun v3 =>
 bindP (some (.int .i64 1)) fun v4 =>
 loop1 (fun vals S1 k1 =>
 let S := gcHead false S.objs.length [] vals S1;
 let v3 := vals.getD 0 .junk;
 let v4 := vals.getD 1 .junk;
 bindP (some v4) fun v7 =>
 bindP (some v0) fun v8 =>
 bindP (oNilC v8) fun v9 =>
 bindP (oFieldAddr 1 1 v9) fun v10 =>
 bindP (oLoad 1 false S v10) fun v11 =>
 bindP (oLen S (.map 3 180) v11) fun v12 =>
 bindP (oArith .leq v7 v12) fun v13 =>
 ifA v13
 (bindP (some v3) fun v16 =>
 bindP (some v0) fun v17 =>
 bindP (oNilC v17) fun v18 =>
 bindP (oFieldAddr 1 1 v18) fun v19 =>
 bindP (oLoad 1 false S v19) fun v20 =>
 bindP (some v4) fun v21 =>
 bindP (oLook (some [.i]) false (pack false [.nilptr]) S v20 v21 false) fun v22 =>
 bindP (oNilC v22) fun v23 =>
 bindP (oLoad 9 true S v23) fun v24 =>
 bindC (oBS S 9 [.int .i64 0, .int .i64 0, .int .i64 0, .int .i64 0, .int .i64 0, .bool false, .bool false, .bool false, .int .i64 0] 1 [(0, v24)]) pnA fun v25 S =>
 bindC (oApp false 9 56 S v16 v25) pnA fun v26 S =>
 bindP (some v26) fun v3 =>
 bindP (some v4) fun v14 =>
 bindP (oArith .add v14 (.int .i64 1)) fun v15 =>
 bindP (some v15) fun v4 =>
 bif sameD [] [] then k1 [v3, v4] S else none)
 (bindP (some v3) fun v27 =>
 bindP (some v27) fun v2 =>
 some (.ret v2, S))) N [v3, v4] S)
theorem e95 (N : Nat) (κ : Oracles) (v0 : AV) (S : St) : runF (Cs N) κ false 95 [v0] S = s95 N κ v0 S := by kernel_rfl
/- sacristan/store.Open -/
def s102 (N : Nat) (κ : Oracles) (v0 v1 : AV) (S : St) : R :=
 bindC (oBox S v0) pnA fun v2 S =>
 bindP (some .nilptr) fun v4 =>
 bindP (some (.int .i64 0)) fun v5 =>
 bindP (oLoad 11 true S v2) fun v16 =>
 bindC (apart κ.toOracle 31 [v16] S) pnA fun v17 S =>
 bindP (some v17) fun v6 =>
 bindP (some v6) fun v18 =>
 bindP (bN (eG (some [.i]) false false false v18 (.int .i64 0))) fun v19 =>
 ifA v19
 (bindP (some v6) fun v20 =>
 bindP (some .nilptr) fun v4 =>
 bindP (some v20) fun v5 =>
 some (.ret (.tup [v4, v5]), S))
 (bindP (some v1) fun v21 =>
 bindP (bE (eNil kPtr v21 .nilptr)) fun v22 =>
 ifA v22
 (bindP (some .nilptr) fun v4 =>
 bindP (some (.int .i64 1)) fun v5 =>
 some (.ret (.tup [v4, v5]), S))
 (bindP (some v1) fun v24 =>
 bindP (oFieldAddr 4 1 v2) fun v25 =>
 bindP (oLoad 1 false S v25) fun v26 =>
 bindC (callN κ.toOracle 164 [v24, v26] S) pnA fun v27 S =>
 bindP (some v27) fun v23 =>
 bindP (oExt v23 0) fun v28 =>
 bindP (oExt v23 1) fun v29 =>
 bindP (oExt v23 2) fun v30 =>
 bindP (oExt v23 3) fun v31 =>
 bindP (some v28) fun v7 =>
 bindP (some v29) fun v8 =>
 bindP (some v30) fun v9 =>
 bindP (some v31) fun v10 =>
 bindP (some v10) fun v32 =>
 bindP (bN (eG (some [.i]) false false false v32 (.int .i64 0))) fun v33 =>
 ifA v33
 (bindP (some v10) fun v34 =>
 bindP (some .nilptr) fun v4 =>
 bindP (some v34) fun v5 =>
 some (.ret (.tup [v4, v5]), S))
 (bindP (some v7) fun v35 =>
 bindP (oLoad 11 true S v2) fun v36 =>
 bindP (some v1) fun v37 =>
 bindC (apart κ.toOracle 165 [] S) (fun _ _ => none) fun v38 S1 =>
 bindP (oFill (plS [(0, 1), (1, 11), (12, 1), (13, 5), (18, 1), (19, 1), (20, 1)]) [.nilptr, .int .i64 0, .int .i64 0, .int .i64 0, .int .i64 0, .int .i64 0, .int .i64 0, .int .i64 0, .int .i64 0, .int .i64 0, .int .i64 0, .int .i64 0, .nilptr, .int .i64 0, .int .i64 0, .int .i64 0, .int .i64 0, .lst .nil 0 [], .lst .nil 0 [], .lst .nil 0 [], .bool false] [(0, v35), (1, v36), (2, v37), (3, v38)]) fun v39 =>
 bindC (oBox S1 v39) (fun v Sx => bif (true && true) && true then pnA v Sx else none) fun v40 S2 =>
 bindP (some v40) fun v11 =>
 bif true then
 (let S := S2;
 let j3 : List AV → St → R := (fun vals S =>
 let v4 := vals.getD 0 .junk;
 let v5 := vals.getD 1 .junk;
 bindP (some v9) fun v55 =>
 bindP (oLen S (.slice 9) v55) fun v56 =>
 bindP (some (.int .i64 0)) fun v57 =>
 loop1 (fun vals S1 k4 =>
 let S := gcHead false S.objs.length [] vals S1;
 let v4 := vals.getD 0 .junk;
 let v5 := vals.getD 1 .junk;
 let v57 := vals.getD 2 .junk;
 bindP (oArith .lss v57 v56) fun v58 =>
 ifA v58
 (bindP (oIndexAddrS 1 v55 v57) fun v59 =>
 bindP (oLoad 1 false S v59) fun v60 =>
 bindP (some v60) fun v13 =>
 bindP (some v13) fun v62 =>
 bindC (apart κ.toOracle 167 [v62] S) pnA fun v63 S =>
 bindP (some v63) fun v61 =>
 bindP (oExt v61 0) fun v64 =>
 bindP (oExt v61 1) fun v65 =>
 bindC (oAl S [.int .u8 0, .int .i64 0, .int .i64 0, .int .i64 0, .int .i64 0, .int .i64 0, .lst .nil 0 [], .lst .nil 0 [], .int .i64 0, .int .i64 0, .int .i64 0, .int .i64 0, .int .i64 0, .int .i64 0, .int .i64 0]) pnA fun v14 S =>
 bindC (ok (oStore 15 S v14 v64)) pnA fun _ S =>
 bindP (some v65) fun v15 =>
 bindP (some v15) fun v66 =>
 bindP (bN (eG (some [.i]) false false false v66 (.int .i64 0))) fun v67 =>
 ifA v67
 (bindP (some .nilptr) fun v4 =>
 bindP (some (.int .i64 12)) fun v5 =>
 some (.ret (.tup [v4, v5]), S))
 (bindP (some v11) fun v69 =>
 bindP (oLoad 11 true S v2) fun v70 =>
 bindP (some v11) fun v71 =>
 bindP (oNilC v71) fun v72 =>
 bindP (oFieldAddr 13 5 v72) fun v73 =>
 bindP (oLoad 5 true S v73) fun v74 =>
 bindP (oLoad 15 true S v14) fun v75 =>
 bindC (apart κ.toOracle 168 [v70, v74, v75] S) (fun _ _ => none) fun v76 S5 =>
 bindP (some v76) fun v68 =>
 bindP (oExt v68 0) fun v77 =>
 bindP (oExt v68 1) fun v78 =>
 bindP (oNilC v69) fun v79 =>
 bindP (oFieldAddr 13 5 v79) fun v80 =>
 bindC (ok (oStore 5 S5 v80 v77)) (fun v Sx => bif (true && true) && true then pnA v Sx else none) fun _ S6 =>
 bindP (some v78) fun v15 =>
 bif true then
 (let S := S6;
 bindP (some v15) fun v81 =>
 bindP (bN (eG (some [.i]) false false false v81 (.int .i64 0))) fun v82 =>
 ifA v82
 (bindP (some .nilptr) fun v4 =>
 bindP (some (.int .i64 12)) fun v5 =>
 some (.ret (.tup [v4, v5]), S))
 (bindP (oArith .add v57 (.int .i64 1)) fun v83 =>
 bindP (some v83) fun v57 =>
 bif sameD [] [] then k4 [v4, v5, v57] S else none))
 else none))
 (bindP (some v11) fun v84 =>
 bindP (some v84) fun v4 =>
 bindP (some (.int .i64 0)) fun v5 =>
 some (.ret (.tup [v4, v5]), S))) N [v4, v5, v57] S);
 bindP (some v8) fun v41 =>
 bindP (oLen S (.slice 9) v41) fun v42 =>
 bindP (oArith .gtr v42 (.int .i64 0)) fun v43 =>
 ifA v43
 (bindP (some v11) fun v45 =>
 bindP (oLoad 11 true S v2) fun v46 =>
 bindP (some v8) fun v47 =>
 bindC (apart κ.toOracle 166 [v46, v47] S) pnA fun v48 S =>
 bindP (some v48) fun v44 =>
 bindP (oExt v44 0) fun v49 =>
 bindP (oExt v44 1) fun v50 =>
 bindP (oNilC v45) fun v51 =>
 bindP (oFieldAddr 13 5 v51) fun v52 =>
 bindC (ok (oStore 5 S v52 v49)) pnA fun _ S =>
 bindP (some v50) fun v10 =>
 bindP (some v10) fun v53 =>
 bindP (bN (eG (some [.i]) false false false v53 (.int .i64 0))) fun v54 =>
 ifA v54
 (bindP (some .nilptr) fun v4 =>
 bindP (some (.int .i64 12)) fun v5 =>
 some (.ret (.tup [v4, v5]), S))
 (bif sameD [] [] then Join j3 [v4, v5] S else none))
 (bif sameD [] [] then Join j3 [v4, v5] S else none))
 else none)))
theorem e102 (N : Nat) (κ : Oracles) (v0 v1 : AV) (S : St) : runF (Cs N) κ false 102 [v0, v1] S = s102 N κ v0 v1 S := by kernel_rfl
/- (*sacristan/world.World).Journal -/
def s103 (N : Nat) (κ : Oracles) (v0 : AV) (S : St) : R :=
 bindP (some .nilptr) fun v2 =>
 bindP (some v0) fun v3 =>
 bindP (bE (eNil kPtr v3 .nilptr)) fun v4 =>
 ifA v4
 (bindP (some .nilptr) fun v2 =>
 some (.ret v2, S))
 (bindP (some v0) fun v5 =>
 bindP (oNilC v5) fun v6 =>
 bindP (oFieldAddr 2 1 v6) fun v7 =>
 bindP (oLoad 1 false S v7) fun v8 =>
 bindP (some v8) fun v2 =>
 some (.ret v2, S))
theorem e103 (N : Nat) (κ : Oracles) (v0 : AV) (S : St) : runF (Cs N) κ false 103 [v0] S = s103 N κ v0 S := by kernel_rfl
/- sacristan/logs.Open -/
def s104 (N : Nat) (κ : Oracles) (v0 v1 v2 : AV) (S : St) : R :=
 bindC (oBox S v0) pnA fun v3 S =>
 bindP (some .nilptr) fun v6 =>
 bindP (some (.int .i64 0)) fun v7 =>
 bindP (some v1) fun v11 =>
 bindP (bE (eNil kPtr v11 .nilptr)) fun v12 =>
 ifA v12
 (bindP (some .nilptr) fun v6 =>
 bindP (some (.int .i64 1)) fun v7 =>
 some (.ret (.tup [v6, v7]), S))
 (bindP (oLoad 11 true S v3) fun v13 =>
 bindC (apart κ.toOracle 121 [v13] S) pnA fun v14 S =>
 bindP (some v14) fun v8 =>
 bindP (some v8) fun v15 =>
 bindP (bE (eG (some [.i]) false false false v15 (.int .i64 0))) fun v16 =>
 bindP (some v16) fun v17 =>
 bindP (guardP v17 false (some v1)) fun v18 =>
 bindC (guardC v17 false S (callN κ.toOracle 169 [v18] S)) pnA fun v19 S =>
 bindP (guardP v17 false (some v8)) fun v20 =>
 bindP (guardP v17 false (bN (eG (some [.i]) false false false v19 v20))) fun v21 =>
 bindP (oPick v17 (.bool true) v21) fun v22 =>
 bindP (some v22) fun v23 =>
 bindP (guardP v23 false (some v2)) fun v24 =>
 bindP (guardP v23 false (oArith .lss v24 (.int .i64 1))) fun v25 =>
 bindP (oPick v23 (.bool true) v25) fun v26 =>
 bindP (some v26) fun v27 =>
 bindP (guardP v27 false (some v2)) fun v28 =>
 bindP (guardP v27 false (oArith .gtr v28 (.int .i64 4294967295))) fun v29 =>
 bindP (oPick v27 (.bool true) v29) fun v30 =>
 ifA v30
 (bindP (some .nilptr) fun v6 =>
 bindP (some (.int .i64 2)) fun v7 =>
 some (.ret (.tup [v6, v7]), S))
 (bindP (some v1) fun v32 =>
 bindC (callN κ.toOracle 170 [v32, (.int .i64 0)] S) pnA fun v33 S =>
 bindP (some v33) fun v31 =>
 bindP (oExt v31 0) fun v34 =>
 bindP (oExt v31 1) fun v35 =>
 bindP (some v34) fun v9 =>
 bindP (some v35) fun v10 =>
 bindP (some v10) fun v36 =>
 bindP (bN (eG (some [.i]) false false false v36 (.int .i64 0))) fun v37 =>
 ifA v37
 (bindP (some v10) fun v38 =>
 bindP (some .nilptr) fun v6 =>
 bindP (some v38) fun v7 =>
 some (.ret (.tup [v6, v7]), S))
 (bindP (oLoad 11 true S v3) fun v39 =>
 bindP (some v1) fun v40 =>
 bindP (some v2) fun v41 =>
 bindP (oFill (plS [(0, 11), (11, 1), (12, 1)]) [.int .i64 0, .int .i64 0, .int .i64 0, .int .i64 0, .int .i64 0, .int .i64 0, .int .i64 0, .int .i64 0, .int .i64 0, .int .i64 0, .int .i64 0, .nilptr, .int .i64 0] [(0, v39), (1, v40), (2, v41)]) fun v42 =>
 bindC (oBox S v42) pnA fun v43 S =>
 bindP (some v43) fun v6 =>
 bindP (some (.int .i64 0)) fun v7 =>
 some (.ret (.tup [v6, v7]), S))))
theorem e104 (N : Nat) (κ : Oracles) (v0 v1 v2 : AV) (S : St) : runF (Cs N) κ false 104 [v0, v1, v2] S = s104 N κ v0 v1 v2 S := by kernel_rfl
/- (*sacristan/world.World).Logs -/
def s105 (N : Nat) (κ : Oracles) (v0 : AV) (S : St) : R :=
 bindP (some .nilptr) fun v2 =>
 bindP (some v0) fun v3 =>
 bindP (bE (eNil kPtr v3 .nilptr)) fun v4 =>
 ifA v4
 (bindP (some .nilptr) fun v2 =>
 some (.ret v2, S))
 (bindP (some v0) fun v5 =>
 bindP (oNilC v5) fun v6 =>
 bindP (oFieldAddr 3 1 v6) fun v7 =>
 bindP (oLoad 1 false S v7) fun v8 =>
 bindP (some v8) fun v2 =>
 some (.ret v2, S))
theorem e105 (N : Nat) (κ : Oracles) (v0 : AV) (S : St) : runF (Cs N) κ false 105 [v0] S = s105 N κ v0 S := by kernel_rfl
/- (*sacristan/store.Store).Boot -/
def s106 (N : Nat) (κ : Oracles) (v0 : AV) (S : St) : R :=
 bindP (some (.int .i64 0)) fun v2 =>
 bindP (some v0) fun v3 =>
 bindP (bE (eNil kPtr v3 .nilptr)) fun v4 =>
 ifA v4
 (bindP (some (.int .i64 0)) fun v2 =>
 some (.ret v2, S))
 (bindP (some v0) fun v5 =>
 bindP (oNilC v5) fun v6 =>
 bindP (oFieldAddr 0 1 v6) fun v7 =>
 bindP (oLoad 1 false S v7) fun v8 =>
 bindC (callN κ.toOracle 171 [v8] S) pnA fun v9 S =>
 bindP (some v9) fun v2 =>
 some (.ret v2, S))
theorem e106 (N : Nat) (κ : Oracles) (v0 : AV) (S : St) : runF (Cs N) κ false 106 [v0] S = s106 N κ v0 S := by kernel_rfl
/- sacristan/boot.Strays -/
def s107 (N : Nat) (κ : Oracles) (v0 v1 v2 v3 : AV) (S : St) : R :=
 bindC (oBox S v0) pnA fun v4 S =>
 bindC (oBox S v1) pnA fun v5 S =>
 bindP (some (.lst .nil 0 [])) fun v8 =>
 bindP (some (.int .i64 0)) fun v9 =>
 bindP (oLoad 11 true S v4) fun v13 =>
 bindP (oLoad 5 true S v5) fun v14 =>
 bindP (some v2) fun v15 =>
 bindC (apart κ.toOracle 172 [v13, v14, v15] S) pnA fun v16 S =>
 bindP (some v16) fun v12 =>
 bindP (oExt v12 0) fun v17 =>
 bindP (oExt v12 1) fun v18 =>
 bindC (oAl S [.int .i64 0, .int .i64 0, .int .i64 0, .int .i64 0, .lst .nil 0 [], .bool false]) pnA fun v10 S =>
 bindC (ok (oStore 6 S v10 v17)) pnA fun _ S =>
 bindP (some v18) fun v11 =>
 bindP (some v11) fun v19 =>
 bindP (bN (eG (some [.i]) false false false v19 (.int .i64 0))) fun v20 =>
 ifA v20
 (bindP (some v11) fun v21 =>
 bindP (some (.lst .nil 0 [])) fun v8 =>
 bindP (some v21) fun v9 =>
 some (.ret (.tup [v8, v9]), S))
 (bindP (some v3) fun v22 =>
 bindP (oLoad 6 true S v10) fun v23 =>
 bindP (some (.func 174 [v23] [])) fun v24 =>
 bindC (callN κ.toOracle 173 [v22, v24] S) pnA fun v25 S =>
 bindP (some v25) fun v8 =>
 bindP (some (.int .i64 0)) fun v9 =>
 some (.ret (.tup [v8, v9]), S))
theorem e107 (N : Nat) (κ : Oracles) (v0 v1 v2 v3 : AV) (S : St) : runF (Cs N) κ false 107 [v0, v1, v2, v3] S = s107 N κ v0 v1 v2 v3 S := by kernel_rfl
/- (*sacristan/store.Store).State -/
def s108 (N : Nat) (κ : Oracles) (v0 : AV) (S : St) : R :=
 bindC (oAl S [.int .i64 0, .int .i64 0, .int .i64 0, .int .i64 0, .lst .nil 0 []]) pnA fun v2 S =>
 bindP (some v0) fun v3 =>
 bindP (bE (eNil kPtr v3 .nilptr)) fun v4 =>
 ifA v4
 (bindP (oFill (plS [(0, 1), (1, 1), (2, 1), (3, 1), (4, 1)]) [.int .i64 0, .int .i64 0, .int .i64 0, .int .i64 0, .lst .nil 0 []] []) fun v5 =>
 bindC (ok (oStore 5 S v2 v5)) pnA fun _ S =>
 (resA [(oLoad 5 true S v2)]).map fun vs => (.ret (packV vs), S))
 (bindP (some v0) fun v6 =>
 bindP (oNilC v6) fun v7 =>
 bindP (oFieldAddr 13 5 v7) fun v8 =>
 bindP (oLoad 5 true S v8) fun v9 =>
 bindC (apart κ.toOracle 53 [v9] S) pnA fun v10 S =>
 bindC (ok (oStore 5 S v2 v10)) pnA fun _ S =>
 (resA [(oLoad 5 true S v2)]).map fun vs => (.ret (packV vs), S))
theorem e108 (N : Nat) (κ : Oracles) (v0 : AV) (S : St) : runF (Cs N) κ false 108 [v0] S = s108 N κ v0 S := by kernel_rfl
/- sacristan/probe.New -/
def s110 (N : Nat) (κ : Oracles) (S : St) : R :=
 bindP (some .nilptr) fun v0 =>
 bindC (oMM S) pnA fun v1 S =>
 bindP (oFill (plS [(0, 1)]) [.nilmap] [(0, v1)]) fun v2 =>
 bindC (oBox S v2) pnA fun v3 S =>
 bindP (some v3) fun v0 =>
 some (.ret v0, S)
theorem e110 (N : Nat) (κ : Oracles) (S : St) : runF (Cs N) κ false 110 [] S = s110 N κ S := by kernel_rfl
/- sacristan/fuse.New -/
def s119 (N : Nat) (κ : Oracles) (S : St) : R :=
 bindP (some .nilptr) fun v0 =>
 bindP (oFill (plS [(0, 1), (1, 1), (2, 1)]) [.int .i64 0, .int .i64 0, .nilfunc] []) fun v2 =>
 bindC (oBox S v2) pnA fun v3 S =>
 bindP (some v3) fun v1 =>
 bindP (some v1) fun v4 =>
 bindC (callN κ.toOracle 162 [v4, (.int .i64 0), (.int .i64 0)] S) pnA fun v5 S =>
 bindP (some v1) fun v6 =>
 bindP (some v6) fun v0 =>
 some (.ret v0, S)
theorem e119 (N : Nat) (κ : Oracles) (S : St) : runF (Cs N) κ false 119 [] S = s119 N κ S := by kernel_rfl
/- sacristan/disk.New -/
def s120 (N : Nat) (κ : Oracles) (v0 v1 : AV) (S : St) : R :=
 bindP (some .nilptr) fun v4 =>
 bindP (some (.int .i64 0)) fun v5 =>
 bindP (some v0) fun v6 =>
 bindP (oArith .lss v6 (.int .i64 1)) fun v7 =>
 bindP (some v7) fun v8 =>
 bindP (guardP v8 false (some v0)) fun v9 =>
 bindP (guardP v8 false (oArith .gtr v9 (.int .i64 65536))) fun v10 =>
 bindP (oPick v8 (.bool true) v10) fun v11 =>
 ifA v11
 (bindP (some .nilptr) fun v4 =>
 bindP (some (.int .i64 3)) fun v5 =>
 some (.ret (.tup [v4, v5]), S))
 (bindP (some v1) fun v12 =>
 bindP (bE (eNil kPtr v12 .nilptr)) fun v13 =>
 ifA v13
 (bindP (some .nilptr) fun v4 =>
 bindP (some (.int .i64 1)) fun v5 =>
 some (.ret (.tup [v4, v5]), S))
 (bindP (some v1) fun v14 =>
 bindP (some v0) fun v15 =>
 bindC (oMM S) pnA fun v16 S =>
 bindP (oFill (plS [(0, 1), (1, 1), (2, 1), (3, 1), (4, 1)]) [.nilptr, .int .i64 0, .bool false, .nilmap, .lst .nil 0 []] [(0, v14), (1, v15), (3, v16)]) fun v17 =>
 bindP (oFill (plS [(0, 5)]) [.nilptr, .int .i64 0, .bool false, .nilmap, .lst .nil 0 []] [(0, v17)]) fun v18 =>
 bindC (oBox S v18) pnA fun v19 S =>
 bindP (some v19) fun v4 =>
 bindP (some (.int .i64 0)) fun v5 =>
 some (.ret (.tup [v4, v5]), S)))
theorem e120 (N : Nat) (κ : Oracles) (v0 v1 : AV) (S : St) : runF (Cs N) κ false 120 [v0, v1] S = s120 N κ v0 v1 S := by kernel_rfl
/- sacristan/logs.Sectors -/
def s121 (N : Nat) (κ : Oracles) (v0 : AV) (S : St) : R :=
 bindC (oBox S v0) pnA fun v1 S =>
 bindP (some (.int .i64 0)) fun v2 =>
 bindP (oLoad 11 true S v1) fun v3 =>
 bindC (apart κ.toOracle 31 [v3] S) pnA fun v4 S =>
 bindP (bN (eG (some [.i]) false false false v4 (.int .i64 0))) fun v5 =>
 ifA v5
 (bindP (some (.int .i64 0)) fun v2 =>
 some (.ret v2, S))
 (bindP (oFieldAddr 3 1 v1) fun v6 =>
 bindP (oLoad 1 false S v6) fun v7 =>
 bindP (oArith .mul v7 (.int .i64 4)) fun v8 =>
 bindP (oFieldAddr 5 1 v1) fun v9 =>
 bindP (oLoad 1 false S v9) fun v10 =>
 bindP (oArith .mul v8 v10) fun v11 =>
 bindP (oFieldAddr 6 1 v1) fun v12 =>
 bindP (oLoad 1 false S v12) fun v13 =>
 bindP (oArith .mul v11 v13) fun v14 =>
 bindP (some v14) fun v2 =>
 some (.ret v2, S))
theorem e121 (N : Nat) (κ : Oracles) (v0 : AV) (S : St) : runF (Cs N) κ false 121 [v0] S = s121 N κ v0 S := by kernel_rfl
/- sacristan/proc.New -/
def s122 (N : Nat) (κ : Oracles) (v0 : AV) (S : St) : R :=
 bindP (some .nilptr) fun v2 =>
 bindP (some (.int .i64 0)) fun v3 =>
 bindP (some v0) fun v4 =>
 bindP (bE (eNil kPtr v4 .nilptr)) fun v5 =>
 ifA v5
 (bindP (some .nilptr) fun v2 =>
 bindP (some (.int .i64 1)) fun v3 =>
 some (.ret (.tup [v2, v3]), S))
 (bindP (some v0) fun v6 =>
 bindC (oMM S) pnA fun v7 S =>
 bindP (oFill (plS [(0, 1), (1, 1), (2, 1)]) [.nilptr, .nilmap, .bool false] [(0, v6), (1, v7)]) fun v8 =>
 bindC (oBox S v8) pnA fun v9 S =>
 bindP (some v9) fun v2 =>
 bindP (some (.int .i64 0)) fun v3 =>
 some (.ret (.tup [v2, v3]), S))
theorem e122 (N : Nat) (κ : Oracles) (v0 : AV) (S : St) : runF (Cs N) κ false 122 [v0] S = s122 N κ v0 S := by kernel_rfl
/- sacristan/beat.New -/
def s123 (N : Nat) (κ : Oracles) (v0 : AV) (S : St) : R :=
 bindP (some .nilptr) fun v2 =>
 bindP (some (.int .i64 0)) fun v3 =>
 bindP (some v0) fun v4 =>
 bindP (bE (eNil kPtr v4 .nilptr)) fun v5 =>
 ifA v5
 (bindP (some .nilptr) fun v2 =>
 bindP (some (.int .i64 1)) fun v3 =>
 some (.ret (.tup [v2, v3]), S))
 (bindP (some v0) fun v6 =>
 bindP (oFill (plS [(0, 1), (1, 1)]) [.nilptr, .lst .nil 0 []] [(0, v6)]) fun v7 =>
 bindC (oBox S v7) pnA fun v8 S =>
 bindP (some v8) fun v2 =>
 bindP (some (.int .i64 0)) fun v3 =>
 some (.ret (.tup [v2, v3]), S))
theorem e123 (N : Nat) (κ : Oracles) (v0 : AV) (S : St) : runF (Cs N) κ false 123 [v0] S = s123 N κ v0 S := by kernel_rfl
/- slices.Clone[[]sacristan/api.Alloc,sacristan/api.Alloc] -/
def s126 (N : Nat) (κ : Oracles) (v0 : AV) (S : St) : R :=
 bindP (some (.lst .nil 0 [])) fun v2 =>
 bindP (some v0) fun v3 =>
 bindP (bE (eNil kSli v3 (.lst .nil 0 []))) fun v4 =>
 ifA v4
 (bindP (some (.lst .nil 0 [])) fun v2 =>
 some (.ret v2, S))
 (bindC (oBSo S 10 [.int .i64 0, .int .i64 0, .int .i64 0, .int .i64 0, .lst .nil 0 [], .lst .nil 0 [], .int .i64 0, .int .i64 0, .bool false, .lst .nil 0 []] 0 []) pnA fun v5 S =>
 bindP (some v0) fun v6 =>
 bindC (oApp true 10 128 S v5 v6) pnA fun v7 S =>
 bindP (some v7) fun v2 =>
 some (.ret v2, S))
theorem e126 (N : Nat) (κ : Oracles) (v0 : AV) (S : St) : runF (Cs N) κ false 126 [v0] S = s126 N κ v0 S := by kernel_rfl
/- slices.Clone[[]sacristan/api.Rec,sacristan/api.Rec] -/
def s129 (N : Nat) (κ : Oracles) (v0 : AV) (S : St) : R :=
 bindP (some (.lst .nil 0 [])) fun v2 =>
 bindP (some v0) fun v3 =>
 bindP (bE (eNil kSli v3 (.lst .nil 0 []))) fun v4 =>
 ifA v4
 (bindP (some (.lst .nil 0 [])) fun v2 =>
 some (.ret v2, S))
 (bindC (oBSo S 15 [.int .u8 0, .int .i64 0, .int .i64 0, .int .i64 0, .int .i64 0, .int .i64 0, .lst .nil 0 [], .lst .nil 0 [], .int .i64 0, .int .i64 0, .int .i64 0, .int .i64 0, .int .i64 0, .int .i64 0, .int .i64 0] 0 []) pnA fun v5 S =>
 bindP (some v0) fun v6 =>
 bindC (oApp true 15 152 S v5 v6) pnA fun v7 S =>
 bindP (some v7) fun v2 =>
 some (.ret v2, S))
theorem e129 (N : Nat) (κ : Oracles) (v0 : AV) (S : St) : runF (Cs N) κ false 129 [v0] S = s129 N κ v0 S := by kernel_rfl
/- slices.IndexFunc[[]sacristan/api.Moment,sacristan/api.Moment] -/
def s130 (N : Nat) (κ : Oracles) (v0 v1 : AV) (S : St) : R :=
 bindP (some (.int .i64 0)) fun v4 =>
 bindP (some v0) fun v6 =>
 bindP (oLen S (.slice 50) v6) fun v7 =>
 bindP (some (.int .i64 0)) fun v8 =>
 loop1 (fun vals S1 k1 =>
 let S := gcHead false S.objs.length [] vals S1;
 let v4 := vals.getD 0 .junk;
 let v8 := vals.getD 1 .junk;
 bindP (oArith .lss v8 v7) fun v9 =>
 ifA v9
 (bindP (some v8) fun v10 =>
 bindP (some v10) fun v5 =>
 bindP (some v1) fun v11 =>
 bindP (some v0) fun v12 =>
 bindP (some v5) fun v13 =>
 bindP (oIndexAddrS 14 v12 v13) fun v14 =>
 bindP (oLoad 14 true S v14) fun v15 =>
 bindC (callD κ.toOracle 130 v11 [v15] S) pnA fun v16 S =>
 ifA v16
 (bindP (some v5) fun v17 =>
 bindP (some v17) fun v4 =>
 some (.ret v4, S))
 (bindP (oArith .add v8 (.int .i64 1)) fun v18 =>
 bindP (some v18) fun v8 =>
 bif sameD [] [] then k1 [v4, v8] S else none))
 (bindP (some (.int .i64 (-1))) fun v4 =>
 some (.ret v4, S))) N [v4, v8] S
theorem e130 (N : Nat) (κ : Oracles) (v0 v1 : AV) (S : St) : runF (Cs N) κ false 130 [v0, v1] S = s130 N κ v0 v1 S := by kernel_rfl
/- slices.IndexFunc[[]sacristan/api.Proc,sacristan/api.Proc] -/
def s131 (N : Nat) (κ : Oracles) (v0 v1 : AV) (S : St) : R :=
 bindP (some (.int .i64 0)) fun v4 =>
 bindP (some v0) fun v6 =>
 bindP (oLen S (.slice 116) v6) fun v7 =>
 bindP (some (.int .i64 0)) fun v8 =>
 loop1 (fun vals S1 k1 =>
 let S := gcHead false S.objs.length [] vals S1;
 let v4 := vals.getD 0 .junk;
 let v8 := vals.getD 1 .junk;
 bindP (oArith .lss v8 v7) fun v9 =>
 ifA v9
 (bindP (some v8) fun v10 =>
 bindP (some v10) fun v5 =>
 bindP (some v1) fun v11 =>
 bindP (some v0) fun v12 =>
 bindP (some v5) fun v13 =>
 bindP (oIndexAddrS 9 v12 v13) fun v14 =>
 bindP (oLoad 9 true S v14) fun v15 =>
 bindC (callD κ.toOracle 131 v11 [v15] S) pnA fun v16 S =>
 ifA v16
 (bindP (some v5) fun v17 =>
 bindP (some v17) fun v4 =>
 some (.ret v4, S))
 (bindP (oArith .add v8 (.int .i64 1)) fun v18 =>
 bindP (some v18) fun v8 =>
 bif sameD [] [] then k1 [v4, v8] S else none))
 (bindP (some (.int .i64 (-1))) fun v4 =>
 some (.ret v4, S))) N [v4, v8] S
theorem e131 (N : Nat) (κ : Oracles) (v0 v1 : AV) (S : St) : runF (Cs N) κ false 131 [v0, v1] S = s131 N κ v0 v1 S := by kernel_rfl
/- sacristan/res.Sum -/
def s136 (N : Nat) (κ : Oracles) (v0 : AV) (S : St) : R :=
 bindC (oAl S [.int .i64 0, .int .i64 0, .int .i64 0]) pnA fun v2 S =>
 bindP (some (.bool false)) fun v3 =>
 bindC (oAl S [.int .i64 0, .int .i64 0, .int .i64 0]) pnA fun v4 S =>
 bindP (some v0) fun v9 =>
 bindP (oLen S (.slice 23) v9) fun v10 =>
 bindP (some (.int .i64 0)) fun v11 =>
 loop1 (fun vals S1 k1 =>
 let S := gcHead false S.objs.length [] vals S1;
 let v3 := vals.getD 0 .junk;
 let v11 := vals.getD 1 .junk;
 bindP (oArith .lss v11 v10) fun v12 =>
 ifA v12
 (bindP (oIndexAddrS 3 v9 v11) fun v13 =>
 bindP (oLoad 3 true S v13) fun v14 =>
 bindC (oAl S [.int .i64 0, .int .i64 0, .int .i64 0]) pnA fun v6 S =>
 bindC (ok (oStore 3 S v6 v14)) pnA fun _ S =>
 bindP (oLoad 3 true S v6) fun v15 =>
 bindC (apart κ.toOracle 77 [v15] S) pnA fun v16 S =>
 bindP (bN (eG (some [.i]) false false false v16 (.int .i64 0))) fun v17 =>
 ifA v17
 (bindP (oFill (plS [(0, 1), (1, 1), (2, 1)]) [.int .i64 0, .int .i64 0, .int .i64 0] []) fun v18 =>
 bindC (ok (oStore 3 S v2 v18)) pnA fun _ S =>
 bindP (some (.bool false)) fun v3 =>
 (resA [(oLoad 3 true S v2), (some v3)]).map fun vs => (.ret (packV vs), S))
 (bindP (oLoad 3 true S v6) fun v19 =>
 bindC (apart κ.toOracle 158 [v19] S) pnA fun v20 S =>
 bindP (some (.int .i64 0)) fun v21 =>
 loop1 (fun vals S1 k2 =>
 let S := gcHead false S.objs.length [] vals S1;
 let v21 := vals.getD 0 .junk;
 bindP (oArith .lss v21 (.int .i64 3)) fun v22 =>
 ifA v22
 (bindP (some v21) fun v23 =>
 bindP (oIndexArr 3 1 false v20 v21) fun v24 =>
 bindP (some v23) fun v7 =>
 bindP (some v24) fun v8 =>
 bindP (some v7) fun v25 =>
 bindP (oIndexAddrA 3 1 v4 v25) fun v26 =>
 bindP (oLoad 1 false S v26) fun v27 =>
 bindP (some v8) fun v28 =>
 bindP (oArith .add v27 v28) fun v29 =>
 bindP (oIndexAddrA 3 1 v4 v25) fun v30 =>
 bindC (ok (oStore 1 S v30 v29)) pnA fun _ S =>
 bindP (oArith .add v21 (.int .i64 1)) fun v31 =>
 bindP (some v31) fun v21 =>
 bif sameD [] [] then k2 [v21] S else none)
 (bindP (oLoad 3 true S v4) fun v32 =>
 bindC (apart κ.toOracle 200 [v32] S) pnA fun v33 S =>
 bindC (apart κ.toOracle 77 [v33] S) pnA fun v34 S =>
 bindP (bN (eG (some [.i]) false false false v34 (.int .i64 0))) fun v35 =>
 ifA v35
 (bindP (oFill (plS [(0, 1), (1, 1), (2, 1)]) [.int .i64 0, .int .i64 0, .int .i64 0] []) fun v36 =>
 bindC (ok (oStore 3 S v2 v36)) pnA fun _ S =>
 bindP (some (.bool false)) fun v3 =>
 (resA [(oLoad 3 true S v2), (some v3)]).map fun vs => (.ret (packV vs), S))
 (bindP (oArith .add v11 (.int .i64 1)) fun v37 =>
 bindP (some v37) fun v11 =>
 bif sameD [] [] then k1 [v3, v11] S else none))) N [v21] S))
 (bindP (oLoad 3 true S v4) fun v38 =>
 bindC (apart κ.toOracle 200 [v38] S) pnA fun v39 S =>
 bindC (ok (oStore 3 S v2 v39)) pnA fun _ S =>
 bindP (some (.bool true)) fun v3 =>
 (resA [(oLoad 3 true S v2), (some v3)]).map fun vs => (.ret (packV vs), S))) N [v3, v11] S
theorem e136 (N : Nat) (κ : Oracles) (v0 : AV) (S : St) : runF (Cs N) κ false 136 [v0] S = s136 N κ v0 S := by kernel_rfl
/- sacristan/res.Fits -/
def s137 (N : Nat) (κ : Oracles) (v0 v1 : AV) (S : St) : R :=
 bindC (oBox S v0) pnA fun v2 S =>
 bindC (oBox S v1) pnA fun v3 S =>
 bindP (some (.bool false)) fun v4 =>
 bindP (oLoad 3 true S v3) fun v8 =>
 bindC (apart κ.toOracle 158 [v8] S) pnA fun v9 S =>
 bindC (oAl S [.int .i64 0, .int .i64 0, .int .i64 0]) pnA fun v5 S =>
 bindC (ok (oStore 3 S v5 v9)) pnA fun _ S =>
 bindP (oLoad 3 true S v2) fun v10 =>
 bindC (apart κ.toOracle 158 [v10] S) pnA fun v11 S =>
 bindP (some (.int .i64 0)) fun v12 =>
 loop1 (fun vals S1 k1 =>
 let S := gcHead false S.objs.length [] vals S1;
 let v4 := vals.getD 0 .junk;
 let v12 := vals.getD 1 .junk;
 bindP (oArith .lss v12 (.int .i64 3)) fun v13 =>
 ifA v13
 (bindP (some v12) fun v14 =>
 bindP (oIndexArr 3 1 false v11 v12) fun v15 =>
 bindP (some v14) fun v6 =>
 bindP (some v15) fun v7 =>
 bindP (some v7) fun v16 =>
 bindP (some v6) fun v17 =>
 bindP (oIndexAddrA 3 1 v5 v17) fun v18 =>
 bindP (oLoad 1 false S v18) fun v19 =>
 bindP (oArith .gtr v16 v19) fun v20 =>
 ifA v20
 (bindP (some (.bool false)) fun v4 =>
 some (.ret v4, S))
 (bindP (oArith .add v12 (.int .i64 1)) fun v21 =>
 bindP (some v21) fun v12 =>
 bif sameD [] [] then k1 [v4, v12] S else none))
 (bindP (some (.bool true)) fun v4 =>
 some (.ret v4, S))) N [v4, v12] S
theorem e137 (N : Nat) (κ : Oracles) (v0 v1 : AV) (S : St) : runF (Cs N) κ false 137 [v0, v1] S = s137 N κ v0 v1 S := by kernel_rfl
/- sacristan/res.amounts -/
def s158 (N : Nat) (κ : Oracles) (v0 : AV) (S : St) : R :=
 bindC (oBox S v0) pnA fun v1 S =>
 bindC (oAl S [.int .i64 0, .int .i64 0, .int .i64 0]) pnA fun v2 S =>
 bindP (oFieldAddr 0 1 v1) fun v3 =>
 bindP (oLoad 1 false S v3) fun v4 =>
 bindP (oFieldAddr 1 1 v1) fun v5 =>
 bindP (oLoad 1 false S v5) fun v6 =>
 bindP (oFieldAddr 2 1 v1) fun v7 =>
 bindP (oLoad 1 false S v7) fun v8 =>
 bindP (oFill (plA 1) [.int .i64 0, .int .i64 0, .int .i64 0] [(0, v4), (1, v6), (2, v8)]) fun v9 =>
 bindC (ok (oStore 3 S v2 v9)) pnA fun _ S =>
 (resA [(oLoad 3 true S v2)]).map fun vs => (.ret (packV vs), S)
theorem e158 (N : Nat) (κ : Oracles) (v0 : AV) (S : St) : runF (Cs N) κ false 158 [v0] S = s158 N κ v0 S := by kernel_rfl
/- (*sacristan/disk.store).kept -/
def s160 (N : Nat) (κ : Oracles) (v0 v1 : AV) (S : St) : R :=
 bindP (some (.str [])) fun v4 =>
 bindP (some v0) fun v8 =>
 bindP (oNilC v8) fun v9 =>
 bindP (oFieldAddr 3 1 v9) fun v10 =>
 bindP (oLoad 1 false S v10) fun v11 =>
 bindP (some v1) fun v12 =>
 bindP (oLook (some [.i]) false (pack false [.str []]) S v11 v12 true) fun v13 =>
 bindP (some v13) fun v7 =>
 bindP (oExt v7 0) fun v14 =>
 bindP (oExt v7 1) fun v15 =>
 bindP (some v14) fun v5 =>
 bindP (some v15) fun v6 =>
 bindP (some v6) fun v16 =>
 ifA v16
 (bindP (some v5) fun v17 =>
 bindP (some v17) fun v4 =>
 some (.ret v4, S))
 (bindC (apart κ.toOracle 211 [] S) pnA fun v18 S =>
 bindP (some v18) fun v4 =>
 some (.ret v4, S))
theorem e160 (N : Nat) (κ : Oracles) (v0 v1 : AV) (S : St) : runF (Cs N) κ false 160 [v0, v1] S = s160 N κ v0 v1 S := by kernel_rfl
/- (*sacristan/disk.store).keep -/
def s161 (N : Nat) (κ : Oracles) (v0 v1 : AV) (S : St) : R :=
 bindC (oBox S v1) pnA fun v3 S =>
 bindP (oFieldAddr 1 1 v3) fun v4 =>
 bindP (oLoad 1 false S v4) fun v5 =>
 bindC (apart κ.toOracle 211 [] S) (fun _ _ => none) fun v6 S1 =>
 bindP (bE (eG (some [.s]) false false false v5 v6)) fun v7 =>
 bif true then
 (let S := S1;
 ifA v7
 (bindP (some v0) fun v8 =>
 bindP (oNilC v8) fun v9 =>
 bindP (oFieldAddr 3 1 v9) fun v10 =>
 bindP (oLoad 1 false S v10) fun v11 =>
 bindP (oFieldAddr 0 1 v3) fun v12 =>
 bindP (oLoad 1 false S v12) fun v13 =>
 bindC (ok (oDel (some [.i]) false S v11 v13)) (fun v Sx => bif (true && true) && true then pnA v Sx else none) fun _ S2 =>
 bif true then
 (let S := S2;
 some (.ret (.tup []), S))
 else none)
 (bindP (some v0) fun v14 =>
 bindP (oNilC v14) fun v15 =>
 bindP (oFieldAddr 3 1 v15) fun v16 =>
 bindP (oLoad 1 false S v16) fun v17 =>
 bindP (oFieldAddr 0 1 v3) fun v18 =>
 bindP (oLoad 1 false S v18) fun v19 =>
 bindP (oFieldAddr 1 1 v3) fun v20 =>
 bindP (oLoad 1 false S v20) fun v21 =>
 bindC (ok (oMUp (some [.i]) false S v17 v19 v21)) (fun v Sx => bif (true && true) && true then pnA v Sx else none) fun _ S3 =>
 bif true then
 (let S := S3;
 some (.ret (.tup []), S))
 else none))
 else none
theorem e161 (N : Nat) (κ : Oracles) (v0 v1 : AV) (S : St) : runF (Cs N) κ false 161 [v0, v1] S = s161 N κ v0 v1 S := by kernel_rfl
/- (*sacristan/fuse.Fuse).set -/
def s162 (N : Nat) (κ : Oracles) (v0 v1 v2 : AV) (S : St) : R :=
 bindP (some v0) fun v6 =>
 bindP (some v0) fun v7 =>
 bindP (some v1) fun v8 =>
 bindP (some v2) fun v9 =>
 bindP (oNilC v6) fun v10 =>
 bindP (oFieldAddr 0 1 v10) fun v11 =>
 bindC (ok (oStore 1 S v11 v8)) pnA fun _ S =>
 bindP (oNilC v7) fun v12 =>
 bindP (oFieldAddr 1 1 v12) fun v13 =>
 bindC (ok (oStore 1 S v13 v9)) pnA fun _ S =>
 let j1 : List AV → St → R := (fun vals S =>
 bindP (some v0) fun v27 =>
 bindP (oNilC v27) fun v28 =>
 bindP (oFieldAddr 2 1 v28) fun v29 =>
 bindC (ok (oStore 1 S v29 (.func 212 [] []))) pnA fun _ S =>
 some (.ret (.tup []), S));
 bindP (some v1) fun v15 =>
 bindP (bE (eG (some [.i]) false false false v15 (.int .i64 1))) fun v16 =>
 bindP (some v16) fun v17 =>
 bindP (guardP v17 true (some v2)) fun v18 =>
 bindP (guardP v17 true (bE (eG (some [.i]) false false false v18 (.int .i64 0)))) fun v19 =>
 bindP (oPick v17 v19 (.bool false)) fun v20 =>
 bindP (some v20) fun v14 =>
 ifA v14
 (bif sameD [] [] then Join j1 [] S else none)
 (bindP (some v1) fun v22 =>
 bindP (bE (eG (some [.i]) false false false v22 (.int .i64 2))) fun v23 =>
 bindP (some v23) fun v21 =>
 ifA v21
 (bif sameD [] [] then Join j1 [] S else none)
 (bindP (some v1) fun v25 =>
 bindP (bE (eG (some [.i]) false false false v25 (.int .i64 1))) fun v26 =>
 bindP (some v26) fun v24 =>
 ifA v24
 (bindP (some v0) fun v30 =>
 bindP (oNilC v30) fun v31 =>
 bindP (oFieldAddr 2 1 v31) fun v32 =>
 bindC (ok (oStore 1 S v32 (.func 213 [] []))) pnA fun _ S =>
 some (.ret (.tup []), S))
 (bindP (some v0) fun v33 =>
 bindP (oNilC v33) fun v34 =>
 bindP (oFieldAddr 2 1 v34) fun v35 =>
 bindC (ok (oStore 1 S v35 (.func 214 [] []))) pnA fun _ S =>
 some (.ret (.tup []), S))))
theorem e162 (N : Nat) (κ : Oracles) (v0 v1 v2 : AV) (S : St) : runF (Cs N) κ false 162 [v0, v1, v2] S = s162 N κ v0 v1 v2 S := by kernel_rfl
/- sacristan/journal.Open -/
def s164 (N : Nat) (κ : Oracles) (v0 v1 : AV) (S : St) : R :=
 bindP (some .nilptr) fun v4 =>
 bindP (some (.lst .nil 0 [])) fun v5 =>
 bindP (some (.lst .nil 0 [])) fun v6 =>
 bindP (some (.int .i64 0)) fun v7 =>
 bindP (some v0) fun v11 =>
 bindP (bE (eNil kPtr v11 .nilptr)) fun v12 =>
 ifA v12
 (bindP (some .nilptr) fun v4 =>
 bindP (some (.lst .nil 0 [])) fun v5 =>
 bindP (some (.lst .nil 0 [])) fun v6 =>
 bindP (some (.int .i64 1)) fun v7 =>
 some (.ret (.tup [v4, v5, v6, v7]), S))
 (bindP (some v1) fun v13 =>
 bindP (oArith .lss v13 (.int .i64 1)) fun v14 =>
 bindP (some v14) fun v15 =>
 bindP (guardP v15 false (some v1)) fun v16 =>
 bindP (guardP v15 false (oArith .gtr v16 (.int .i64 32000))) fun v17 =>
 bindP (oPick v15 (.bool true) v17) fun v18 =>
 bindP (some v18) fun v19 =>
 bindP (guardP v19 false (some v0)) fun v20 =>
 bindC (guardC v19 false S (callN κ.toOracle 169 [v20] S)) pnA fun v21 S =>
 bindP (guardP v19 false (some v1)) fun v22 =>
 bindP (guardP v19 false (oArith .mul (.int .i64 2) v22)) fun v23 =>
 bindP (guardP v19 false (oArith .add (.int .i64 2) v23)) fun v24 =>
 bindP (guardP v19 false (bN (eG (some [.i]) false false false v21 v24))) fun v25 =>
 bindP (oPick v19 (.bool true) v25) fun v26 =>
 ifA v26
 (bindP (some .nilptr) fun v4 =>
 bindP (some (.lst .nil 0 [])) fun v5 =>
 bindP (some (.lst .nil 0 [])) fun v6 =>
 bindP (some (.int .i64 2)) fun v7 =>
 some (.ret (.tup [v4, v5, v6, v7]), S))
 (bindP (some v0) fun v28 =>
 bindC (callN κ.toOracle 215 [v28] S) pnA fun v29 S =>
 bindP (some v29) fun v27 =>
 bindP (oExt v27 0) fun v30 =>
 bindP (oExt v27 1) fun v31 =>
 bindC (oAl S [.int .i64 0, .int .i64 0, .int .i64 0, .int .i64 0, .int .i64 0]) pnA fun v8 S =>
 bindC (ok (oStore 5 S v8 v30)) pnA fun _ S =>
 bindP (some v31) fun v7 =>
 let j1 : List AV → St → R := (fun vals S =>
 let v4 := vals.getD 0 .junk;
 let v5 := vals.getD 1 .junk;
 let v6 := vals.getD 2 .junk;
 let v7 := vals.getD 3 .junk;
 bindP (some v0) fun v39 =>
 bindP (some v1) fun v40 =>
 bindP (oLoad 5 true S v8) fun v41 =>
 bindP (oFill (plS [(0, 1), (1, 1), (2, 5), (7, 1), (8, 1), (9, 1)]) [.nilptr, .int .i64 0, .int .i64 0, .int .i64 0, .int .i64 0, .int .i64 0, .int .i64 0, .int .i64 0, .int .i64 0, .bool false] [(0, v39), (1, v40), (2, v41)]) fun v42 =>
 bindC (oBox S v42) pnA fun v43 S =>
 bindP (some v43) fun v4 =>
 bindP (some v4) fun v45 =>
 bindC (callN κ.toOracle 216 [v45] S) pnA fun v46 S =>
 bindP (some v46) fun v44 =>
 bindP (oExt v44 0) fun v47 =>
 bindP (oExt v44 1) fun v48 =>
 bindP (some v47) fun v9 =>
 bindP (some v48) fun v7 =>
 bindP (some v7) fun v49 =>
 bindP (bN (eG (some [.i]) false false false v49 (.int .i64 0))) fun v50 =>
 ifA v50
 (bindP (some v7) fun v51 =>
 bindP (some .nilptr) fun v4 =>
 bindP (some (.lst .nil 0 [])) fun v5 =>
 bindP (some (.lst .nil 0 [])) fun v6 =>
 bindP (some v51) fun v7 =>
 some (.ret (.tup [v4, v5, v6, v7]), S))
 (bindP (some v9) fun v52 =>
 bindP (oLen S (.slice 9) v52) fun v53 =>
 bindP (oFieldAddr 4 1 v8) fun v54 =>
 bindP (oLoad 1 false S v54) fun v55 =>
 bindP (oArith .lss v53 v55) fun v56 =>
 ifA v56
 (bindP (some .nilptr) fun v4 =>
 bindP (some (.lst .nil 0 [])) fun v5 =>
 bindP (some (.lst .nil 0 [])) fun v6 =>
 bindP (some (.int .i64 12)) fun v7 =>
 some (.ret (.tup [v4, v5, v6, v7]), S))
 (bindP (some v4) fun v57 =>
 bindP (oNilC v57) fun v58 =>
 bindP (oFieldAddr 2 5 v58) fun v59 =>
 bindP (oFieldAddr 0 1 v59) fun v60 =>
 bindP (oLoad 1 false S v60) fun v61 =>
 bindP (oArith .add v61 (.int .i64 1)) fun v62 =>
 bindP (oNilC v57) fun v63 =>
 bindP (oFieldAddr 2 5 v63) fun v64 =>
 bindP (oFieldAddr 0 1 v64) fun v65 =>
 bindC (ok (oStore 1 S v65 v62)) pnA fun _ S =>
 bindP (some v4) fun v66 =>
 bindP (oNilC v66) fun v67 =>
 bindP (oFieldAddr 2 5 v67) fun v68 =>
 bindP (oFieldAddr 1 1 v68) fun v69 =>
 bindP (oLoad 1 false S v69) fun v70 =>
 bindP (oArith .add v70 (.int .i64 1)) fun v71 =>
 bindP (oNilC v66) fun v72 =>
 bindP (oFieldAddr 2 5 v72) fun v73 =>
 bindP (oFieldAddr 1 1 v73) fun v74 =>
 bindC (ok (oStore 1 S v74 v71)) pnA fun _ S =>
 bindP (some v0) fun v75 =>
 bindP (some v4) fun v76 =>
 bindP (oNilC v76) fun v77 =>
 bindP (oFieldAddr 2 5 v77) fun v78 =>
 bindP (oLoad 5 true S v78) fun v79 =>
 bindC (callN κ.toOracle 217 [v75, v79] S) pnA fun v80 S =>
 bindP (some v80) fun v10 =>
 bindP (some v10) fun v81 =>
 bindP (bN (eG (some [.i]) false false false v81 (.int .i64 0))) fun v82 =>
 ifA v82
 (bindP (some v10) fun v83 =>
 bindP (some .nilptr) fun v4 =>
 bindP (some (.lst .nil 0 [])) fun v5 =>
 bindP (some (.lst .nil 0 [])) fun v6 =>
 bindP (some v83) fun v7 =>
 some (.ret (.tup [v4, v5, v6, v7]), S))
 (bindP (some v4) fun v84 =>
 bindC (oBS S 1 [.str []] 0 []) (fun _ _ => none) fun v85 S2 =>
 bindP (some v9) fun v86 =>
 bindP (oFieldAddr 4 1 v8) fun v87 =>
 bindP (oLoad 1 false S2 v87) fun v88 =>
 bindP (slS 1 v86 none (some v88) none) fun v89 =>
 bindC (oApp false 1 16 S2 v85 v89) (fun v Sx => bif (true && true) && false then pnA v Sx else none) fun v90 S3 =>
 bindC (oBS S3 1 [.str []] 0 []) (fun _ _ => none) fun v91 S4 =>
 bindP (some v9) fun v92 =>
 bindP (oFieldAddr 4 1 v8) fun v93 =>
 bindP (oLoad 1 false S4 v93) fun v94 =>
 bindP (slS 1 v92 (some v94) none none) fun v95 =>
 bindC (oApp false 1 16 S4 v91 v95) (fun v Sx => bif (true && (((false || (chkA (oLoad 1 false S2 v93) v94 && chkA (oLoad 1 false S3 v93) v94)) && true) && ((true && true) && true))) && true then pnA v Sx else none) fun v96 S5 =>
 bindP (some v84) fun v4 =>
 bindP (some v90) fun v5 =>
 bindP (some v96) fun v6 =>
 bindP (some (.int .i64 0)) fun v7 =>
 bif ((true && ((false || (chkA (oLoad 1 false S2 v93) v94 && chkA (oLoad 1 false S3 v93) v94)) && true)) && ((true && (true && true)) && true)) then
 (let S := S5;
 some (.ret (.tup [v4, v5, v6, v7]), S))
 else none))));
 bindP (some v7) fun v32 =>
 bindP (bE (eG (some [.i]) false false false v32 (.int .i64 0))) fun v35 =>
 bindP (some v35) fun v34 =>
 ifA v34
 (bif sameD [] [] then Join j1 [v4, v5, v6, v7] S else none)
 (bindP (bE (eG (some [.i]) false false false v32 (.int .i64 6))) fun v37 =>
 bindP (some v37) fun v36 =>
 ifA v36
 (bindP (oFill (plS [(0, 1), (1, 1), (2, 1), (3, 1), (4, 1)]) [.int .i64 0, .int .i64 0, .int .i64 0, .int .i64 0, .int .i64 0] [(3, (.int .i64 1))]) fun v38 =>
 bindC (ok (oStore 5 S v8 v38)) pnA fun _ S =>
 bif sameD [] [] then Join j1 [v4, v5, v6, v7] S else none)
 (bindP (some v7) fun v33 =>
 bindP (some .nilptr) fun v4 =>
 bindP (some (.lst .nil 0 [])) fun v5 =>
 bindP (some (.lst .nil 0 [])) fun v6 =>
 bindP (some v33) fun v7 =>
 some (.ret (.tup [v4, v5, v6, v7]), S)))))
theorem e164 (N : Nat) (κ : Oracles) (v0 v1 : AV) (S : St) : runF (Cs N) κ false 164 [v0, v1] S = s164 N κ v0 v1 S := by kernel_rfl
end Go.Sac
