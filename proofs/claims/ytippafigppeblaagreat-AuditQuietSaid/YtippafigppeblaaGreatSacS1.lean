/- Direct forms, printed by mksh.py. -/
import Derived.Test.YtippafigppeblaaGreatSacCfg
import Derived.KernelRfl
namespace Go.Sac
set_option linter.unusedVariables false
set_option maxRecDepth 100000
open Go
/- sacristan/state.New -/
def s165 (N : Nat) (κ : Oracles) (S : St) : R :=
 bindC (oAl S [.int .i64 0, .int .i64 0, .int .i64 0, .int .i64 0, .lst .nil 0 []]) pnA fun v0 S =>
 bindP (oFill (plS [(0, 1), (1, 1), (2, 1), (3, 1), (4, 1)]) [.int .i64 0, .int .i64 0, .int .i64 0, .int .i64 0, .lst .nil 0 []] [(1, (.int .i64 1)), (2, (.int .i64 1)), (3, (.int .i64 (-1)))]) fun v1 =>
 bindC (ok (oStore 5 S v0 v1)) pnA fun _ S =>
 (resA [(oLoad 5 true S v0)]).map fun vs => (.ret (packV vs), S)
theorem e165 (N : Nat) (κ : Oracles) (S : St) : runF (Cs N) κ false 165 [] S = s165 N κ S := by kernel_rfl
/- (*sacristan/disk.Disk).Sectors -/
def s169 (N : Nat) (κ : Oracles) (v0 : AV) (S : St) : R :=
 bindP (some (.int .i64 0)) fun v2 =>
 bindP (some v0) fun v3 =>
 bindP (bE (eNil kPtr v3 .nilptr)) fun v4 =>
 ifA v4
 (bindP (some (.int .i64 0)) fun v2 =>
 some (.ret v2, S))
 (bindP (some v0) fun v5 =>
 bindP (oNilC v5) fun v6 =>
 bindP (oFieldAddr 0 5 v6) fun v7 =>
 bindP (oFieldAddr 1 1 v7) fun v8 =>
 bindP (oLoad 1 false S v8) fun v9 =>
 bindP (some v9) fun v2 =>
 some (.ret v2, S))
theorem e169 (N : Nat) (κ : Oracles) (v0 : AV) (S : St) : runF (Cs N) κ false 169 [v0] S = s169 N κ v0 S := by kernel_rfl
/- (*sacristan/journal.Journal).Boot -/
def s171 (N : Nat) (κ : Oracles) (v0 : AV) (S : St) : R :=
 bindP (some (.int .i64 0)) fun v2 =>
 bindP (some v0) fun v3 =>
 bindP (bE (eNil kPtr v3 .nilptr)) fun v4 =>
 ifA v4
 (bindP (some (.int .i64 0)) fun v2 =>
 some (.ret v2, S))
 (bindP (some v0) fun v5 =>
 bindP (oNilC v5) fun v6 =>
 bindP (oFieldAddr 2 5 v6) fun v7 =>
 bindP (oFieldAddr 1 1 v7) fun v8 =>
 bindP (oLoad 1 false S v8) fun v9 =>
 bindP (some v9) fun v2 =>
 some (.ret v2, S))
theorem e171 (N : Nat) (κ : Oracles) (v0 : AV) (S : St) : runF (Cs N) κ false 171 [v0] S = s171 N κ v0 S := by kernel_rfl
/- sacristan/boot.judged -/
def s172 (N : Nat) (κ : Oracles) (v0 v1 v2 : AV) (S : St) : R :=
 bindC (oBox S v0) pnA fun v3 S =>
 bindC (oBox S v1) pnA fun v4 S =>
 bindC (oAl S [.int .i64 0, .int .i64 0, .int .i64 0, .int .i64 0, .lst .nil 0 [], .bool false]) pnA fun v6 S =>
 bindP (some (.int .i64 0)) fun v7 =>
 bindP (oLoad 11 true S v3) fun v11 =>
 bindP (oLoad 5 true S v4) fun v12 =>
 bindC (apart κ.toOracle 219 [v11, v12] S) pnA fun v13 S =>
 bindP (some v13) fun v8 =>
 bindP (some v8) fun v14 =>
 bindP (bN (eG (some [.i]) false false false v14 (.int .i64 0))) fun v15 =>
 ifA v15
 (bindP (oFill (plS [(0, 5), (5, 1)]) [.int .i64 0, .int .i64 0, .int .i64 0, .int .i64 0, .lst .nil 0 [], .bool false] []) fun v16 =>
 bindP (some v8) fun v17 =>
 bindC (ok (oStore 6 S v6 v16)) pnA fun _ S =>
 bindP (some v17) fun v7 =>
 (resA [(oLoad 6 true S v6), (some v7)]).map fun vs => (.ret (packV vs), S))
 (bindP (some v2) fun v18 =>
 bindP (oArith .lss v18 (.int .i64 0)) fun v19 =>
 bindP (some v19) fun v20 =>
 bindP (guardP v20 false (some v2)) fun v21 =>
 bindP (guardP v20 false (oArith .gtr v21 (.int .i64 1099511627776))) fun v22 =>
 bindP (oPick v20 (.bool true) v22) fun v23 =>
 ifA v23
 (bindP (oFill (plS [(0, 5), (5, 1)]) [.int .i64 0, .int .i64 0, .int .i64 0, .int .i64 0, .lst .nil 0 [], .bool false] []) fun v24 =>
 bindC (ok (oStore 6 S v6 v24)) pnA fun _ S =>
 bindP (some (.int .i64 3)) fun v7 =>
 (resA [(oLoad 6 true S v6), (some v7)]).map fun vs => (.ret (packV vs), S))
 (bindP (oLoad 11 true S v3) fun v26 =>
 bindP (oFieldAddr 3 1 v4) fun v27 =>
 bindP (oLoad 1 false S v27) fun v28 =>
 bindP (some v2) fun v29 =>
 bindC (apart κ.toOracle 227 [v26, v28, v29] S) pnA fun v30 S =>
 bindP (some v30) fun v25 =>
 bindP (oExt v25 0) fun v31 =>
 bindP (oExt v25 1) fun v32 =>
 bindP (some v31) fun v9 =>
 bindP (some v32) fun v10 =>
 bindP (oLoad 5 true S v4) fun v33 =>
 bindP (some v9) fun v34 =>
 bindP (oFill (plS [(0, 5), (5, 1)]) [.int .i64 0, .int .i64 0, .int .i64 0, .int .i64 0, .lst .nil 0 [], .bool false] [(0, v33), (1, v34)]) fun v35 =>
 bindP (some v10) fun v36 =>
 bindC (ok (oStore 6 S v6 v35)) pnA fun _ S =>
 bindP (some v36) fun v7 =>
 (resA [(oLoad 6 true S v6), (some v7)]).map fun vs => (.ret (packV vs), S)))
theorem e172 (N : Nat) (κ : Oracles) (v0 v1 v2 : AV) (S : St) : runF (Cs N) κ false 172 [v0, v1, v2] S = s172 N κ v0 v1 v2 S := by kernel_rfl
/- sacristan/boot.filter[sacristan/api.Proc] -/
def s173 (N : Nat) (κ : Oracles) (v0 v1 : AV) (S : St) : R :=
 bindP (some (.lst .nil 0 [])) fun v4 =>
 bindP (some (.lst .nil 0 [])) fun v5 =>
 bindP (some v0) fun v8 =>
 bindP (oLen S (.slice 116) v8) fun v9 =>
 bindP (some (.int .i64 0)) fun v10 =>
 loop1 (fun vals S1 k1 =>
 let S := gcHead false S.objs.length [] vals S1;
 let v5 := vals.getD 0 .junk;
 let v10 := vals.getD 1 .junk;
 bindP (oArith .lss v10 v9) fun v11 =>
 ifA v11
 (let j2 : List AV → St → R := (fun vals S =>
 let v5 := vals.getD 0 .junk;
 bindP (oArith .add v10 (.int .i64 1)) fun v21 =>
 bindP (some v21) fun v10 =>
 bif sameD [] [] then k1 [v5, v10] S else none);
 bindP (oIndexAddrS 9 v8 v10) fun v12 =>
 bindP (oLoad 9 true S v12) fun v13 =>
 bindC (oAl S [.int .i64 0, .int .i64 0, .int .i64 0, .int .i64 0, .int .i64 0, .bool false, .bool false, .bool false, .int .i64 0]) pnA fun v7 S =>
 bindC (ok (oStore 9 S v7 v13)) pnA fun _ S =>
 bindP (some v1) fun v14 =>
 bindP (oLoad 9 true S v7) fun v15 =>
 bindC (callD κ.toOracle 173 v14 [v15] S) pnA fun v16 S =>
 ifA v16
 (bindP (some v5) fun v17 =>
 bindP (oLoad 9 true S v7) fun v18 =>
 bindC (oBS S 9 [.int .i64 0, .int .i64 0, .int .i64 0, .int .i64 0, .int .i64 0, .bool false, .bool false, .bool false, .int .i64 0] 1 [(0, v18)]) pnA fun v19 S =>
 bindC (oApp false 9 56 S v17 v19) pnA fun v20 S =>
 bindP (some v20) fun v5 =>
 bif sameD [] [] then Join j2 [v5] S else none)
 (bif sameD [] [] then Join j2 [v5] S else none))
 (bindP (some v5) fun v22 =>
 bindP (some v22) fun v4 =>
 some (.ret v4, S))) N [v5, v10] S
theorem e173 (N : Nat) (κ : Oracles) (v0 v1 : AV) (S : St) : runF (Cs N) κ false 173 [v0, v1] S = s173 N κ v0 v1 S := by kernel_rfl
/- sacristan/res.back -/
def s200 (N : Nat) (κ : Oracles) (v0 : AV) (S : St) : R :=
 bindC (oBox S v0) pnA fun v1 S =>
 bindC (oAl S [.int .i64 0, .int .i64 0, .int .i64 0]) pnA fun v2 S =>
 bindP (oIndexAddrA 3 1 v1 (.int .i64 0)) fun v3 =>
 bindP (oLoad 1 false S v3) fun v4 =>
 bindP (oIndexAddrA 3 1 v1 (.int .i64 1)) fun v5 =>
 bindP (oLoad 1 false S v5) fun v6 =>
 bindP (oIndexAddrA 3 1 v1 (.int .i64 2)) fun v7 =>
 bindP (oLoad 1 false S v7) fun v8 =>
 bindP (oFill (plS [(0, 1), (1, 1), (2, 1)]) [.int .i64 0, .int .i64 0, .int .i64 0] [(0, v4), (1, v6), (2, v8)]) fun v9 =>
 bindC (ok (oStore 3 S v2 v9)) pnA fun _ S =>
 (resA [(oLoad 3 true S v2)]).map fun vs => (.ret (packV vs), S)
theorem e200 (N : Nat) (κ : Oracles) (v0 : AV) (S : St) : runF (Cs N) κ false 200 [v0] S = s200 N κ v0 S := by kernel_rfl
/- sacristan/pack.least -/
def s207 (N : Nat) (κ : Oracles) (v0 : AV) (S : St) : R :=
 bindP (some (.int .i64 0)) fun v2 =>
 bindP (some (.int .i64 0)) fun v3 =>
 loop1 (fun vals S1 k1 =>
 let S := gcHead false S.objs.length [] vals S1;
 let v0 := vals.getD 0 .junk;
 let v3 := vals.getD 1 .junk;
 bindP (some v0) fun v4 =>
 bindP (oArith .gtr v4 (.int .u64 0)) fun v5 =>
 ifA v5
 (bindP (some v3) fun v8 =>
 bindP (oArith .add v8 (.int .i64 1)) fun v9 =>
 bindP (some v9) fun v3 =>
 bindP (some v0) fun v6 =>
 bindP (oShiftV .shr v6 (.int .u64 8)) fun v7 =>
 bindP (some v7) fun v0 =>
 bif sameD [] [] then k1 [v0, v3] S else none)
 (bindP (some v3) fun v10 =>
 bindP (some v10) fun v2 =>
 some (.ret v2, S))) N [v0, v3] S
theorem e207 (N : Nat) (κ : Oracles) (v0 : AV) (S : St) : runF (Cs N) κ false 207 [v0] S = s207 N κ v0 S := by kernel_rfl
/- sacristan/pack.bytes[uint64] -/
def s208 (N : Nat) (κ : Oracles) (v0 v1 : AV) (S : St) : R :=
 bindP (some (.str [])) fun v4 =>
 bindC (oAl S [.int .u8 0, .int .u8 0, .int .u8 0, .int .u8 0, .int .u8 0, .int .u8 0, .int .u8 0, .int .u8 0]) pnA fun v5 S =>
 bindP (some v0) fun v8 =>
 bindP (some v8) fun v6 =>
 bindP (some v1) fun v9 =>
 bindP (some (.int .i64 0)) fun v10 =>
 loop1 (fun vals S1 k1 =>
 let S := gcHead false S.objs.length [] vals S1;
 let v6 := vals.getD 0 .junk;
 let v10 := vals.getD 1 .junk;
 bindP (oArith .lss v10 v9) fun v11 =>
 ifA v11
 (bindP (some v10) fun v12 =>
 bindP (some v12) fun v7 =>
 bindP (some v1) fun v13 =>
 bindP (oArith .sub v13 (.int .i64 1)) fun v14 =>
 bindP (some v7) fun v15 =>
 bindP (oArith .sub v14 v15) fun v16 =>
 bindP (some v6) fun v17 =>
 bindP (cII .u8 v17) fun v18 =>
 bindP (oIndexAddrA 8 1 v5 v16) fun v19 =>
 bindC (ok (oStore 1 S v19 v18)) pnA fun _ S =>
 bindP (some v6) fun v20 =>
 bindP (oShiftV .shr v20 (.int .u64 8)) fun v21 =>
 bindP (some v21) fun v6 =>
 bindP (oArith .add v10 (.int .i64 1)) fun v22 =>
 bindP (some v22) fun v10 =>
 bif sameD [] [] then k1 [v6, v10] S else none)
 (bindP (some v1) fun v23 =>
 bindP (slA 8 1 v5 none (some v23) none) fun v24 =>
 bindP (cBS S v24) fun v25 =>
 bindP (some v25) fun v4 =>
 some (.ret v4, S))) N [v6, v10] S
theorem e208 (N : Nat) (κ : Oracles) (v0 v1 : AV) (S : St) : runF (Cs N) κ false 208 [v0, v1] S = s208 N κ v0 v1 S := by kernel_rfl
/- sacristan/disk.zeros -/
def s211 (N : Nat) (κ : Oracles) (S : St) : R :=
 bindP (some (.str [])) fun v0 =>
 bindC (apart κ.toOracle 276 [(.str [0]), (.int .i64 80)] S) pnA fun v1 S =>
 bindP (some v1) fun v0 =>
 some (.ret v0, S)
theorem e211 (N : Nat) (κ : Oracles) (S : St) : runF (Cs N) κ false 211 [] S = s211 N κ S := by kernel_rfl
/- (*sacristan/fuse.Fuse).set$3 -/
def s214 (N : Nat) (κ : Oracles) (v0 : AV) (S : St) : R :=
 bindP (some (.int .i64 0)) fun v2 =>
 bindP (some (.int .i64 0)) fun v2 =>
 some (.ret v2, S)
theorem e214 (N : Nat) (κ : Oracles) (v0 : AV) (S : St) : runF (Cs N) κ false 214 [v0] S = s214 N κ v0 S := by kernel_rfl
/- sacristan/slots.Load -/
def s215 (N : Nat) (κ : Oracles) (v0 : AV) (S : St) : R :=
 bindC (oAl S [.int .i64 0, .int .i64 0, .int .i64 0, .int .i64 0, .int .i64 0]) pnA fun v2 S =>
 bindP (some (.int .i64 0)) fun v3 =>
 bindP (some v0) fun v12 =>
 bindP (bE (eNil kPtr v12 .nilptr)) fun v13 =>
 ifA v13
 (bindP (oFill (plS [(0, 1), (1, 1), (2, 1), (3, 1), (4, 1)]) [.int .i64 0, .int .i64 0, .int .i64 0, .int .i64 0, .int .i64 0] []) fun v14 =>
 bindC (ok (oStore 5 S v2 v14)) pnA fun _ S =>
 bindP (some (.int .i64 1)) fun v3 =>
 (resA [(oLoad 5 true S v2), (some v3)]).map fun vs => (.ret (packV vs), S))
 (bindP (some v0) fun v15 =>
 bindC (callN κ.toOracle 169 [v15] S) pnA fun v16 S =>
 bindP (oArith .lss v16 (.int .i64 2)) fun v17 =>
 ifA v17
 (bindP (oFill (plS [(0, 1), (1, 1), (2, 1), (3, 1), (4, 1)]) [.int .i64 0, .int .i64 0, .int .i64 0, .int .i64 0, .int .i64 0] []) fun v18 =>
 bindC (ok (oStore 5 S v2 v18)) pnA fun _ S =>
 bindP (some (.int .i64 3)) fun v3 =>
 (resA [(oLoad 5 true S v2), (some v3)]).map fun vs => (.ret (packV vs), S))
 (bindC (oAl S [.int .i64 0, .int .i64 0, .int .i64 0, .int .i64 0, .int .i64 0, .int .i64 0, .int .i64 0, .int .i64 0, .int .i64 0, .int .i64 0]) pnA fun v4 S =>
 bindP (some (.int .i64 0)) fun v19 =>
 loop1 (fun vals S1 k1 =>
 let S := gcHead false S.objs.length [] vals S1;
 let v3 := vals.getD 0 .junk;
 let v19 := vals.getD 1 .junk;
 bindP (oArith .lss v19 (.int .i64 2)) fun v20 =>
 ifA v20
 (let j2 : List AV → St → R := (fun vals S =>
 let v3 := vals.getD 0 .junk;
 bindP (oArith .add v19 (.int .i64 1)) fun v49 =>
 bindP (some v49) fun v19 =>
 bif sameD [] [] then k1 [v3, v19] S else none);
 bindP (some v19) fun v21 =>
 bindP (some v21) fun v5 =>
 bindP (some v0) fun v23 =>
 bindP (some v5) fun v24 =>
 bindC (callN κ.toOracle 170 [v23, v24] S) pnA fun v25 S =>
 bindP (some v25) fun v22 =>
 bindP (oExt v22 0) fun v26 =>
 bindP (oExt v22 1) fun v27 =>
 bindP (some v26) fun v6 =>
 bindP (some v27) fun v7 =>
 bindP (some v7) fun v28 =>
 bindP (bN (eG (some [.i]) false false false v28 (.int .i64 0))) fun v29 =>
 ifA v29
 (bindP (oFill (plS [(0, 1), (1, 1), (2, 1), (3, 1), (4, 1)]) [.int .i64 0, .int .i64 0, .int .i64 0, .int .i64 0, .int .i64 0] []) fun v30 =>
 bindP (some v7) fun v31 =>
 bindC (ok (oStore 5 S v2 v30)) pnA fun _ S =>
 bindP (some v31) fun v3 =>
 (resA [(oLoad 5 true S v2), (some v3)]).map fun vs => (.ret (packV vs), S))
 (bindP (some v6) fun v33 =>
 bindC (apart κ.toOracle 277 [v33] S) pnA fun v34 S =>
 bindP (some v34) fun v32 =>
 bindP (oExt v32 0) fun v35 =>
 bindP (oExt v32 1) fun v36 =>
 bindC (oAl S [.int .i64 0, .int .i64 0, .int .i64 0, .int .i64 0, .int .i64 0]) pnA fun v8 S =>
 bindC (ok (oStore 5 S v8 v35)) pnA fun _ S =>
 bindP (some v36) fun v9 =>
 bindP (some v9) fun v37 =>
 bindP (bE (eG (some [.i]) false false false v37 (.int .i64 0))) fun v38 =>
 bindP (some v38) fun v39 =>
 bindP (guardP v39 true (oFieldAddr 0 1 v8)) fun v40 =>
 bindP (guardP v39 true (oLoad 1 false S v40)) fun v41 =>
 bindP (guardP v39 true (oArith .rem v41 (.int .i64 2))) fun v42 =>
 bindP (guardP v39 true (some v5)) fun v43 =>
 bindP (guardP v39 true (bE (eG (some [.i]) false false false v42 v43))) fun v44 =>
 bindP (oPick v39 v44 (.bool false)) fun v45 =>
 ifA v45
 (bindP (some v5) fun v46 =>
 bindP (oLoad 5 true S v8) fun v47 =>
 bindP (oIndexAddrA 2 5 v4 v46) fun v48 =>
 bindC (ok (oStore 5 S v48 v47)) pnA fun _ S =>
 bif sameD [] [] then Join j2 [v3] S else none)
 (bif sameD [] [] then Join j2 [v3] S else none)))
 (bindP (some (.func 278 [] [])) fun v10 =>
 bindP (oIndexAddrA 2 5 v4 (.int .i64 0)) fun v50 =>
 bindP (oLoad 5 true S v50) fun v51 =>
 bindC (oAl S [.int .i64 0, .int .i64 0, .int .i64 0, .int .i64 0, .int .i64 0]) pnA fun v11 S =>
 bindC (ok (oStore 5 S v11 v51)) pnA fun _ S =>
 let j3 : List AV → St → R := (fun vals S =>
 bindP (oFieldAddr 0 1 v11) fun v59 =>
 bindP (oLoad 1 false S v59) fun v60 =>
 bindP (bE (eG (some [.i]) false false false v60 (.int .i64 0))) fun v61 =>
 ifA v61
 (bindP (oFill (plS [(0, 1), (1, 1), (2, 1), (3, 1), (4, 1)]) [.int .i64 0, .int .i64 0, .int .i64 0, .int .i64 0, .int .i64 0] []) fun v62 =>
 bindC (ok (oStore 5 S v2 v62)) pnA fun _ S =>
 bindP (some (.int .i64 6)) fun v3 =>
 (resA [(oLoad 5 true S v2), (some v3)]).map fun vs => (.ret (packV vs), S))
 (bindP (oLoad 5 true S v11) fun v63 =>
 bindC (ok (oStore 5 S v2 v63)) pnA fun _ S =>
 bindP (some (.int .i64 0)) fun v3 =>
 (resA [(oLoad 5 true S v2), (some v3)]).map fun vs => (.ret (packV vs), S)));
 bindP (some v10) fun v52 =>
 bindP (oIndexAddrA 2 5 v4 (.int .i64 1)) fun v53 =>
 bindP (oLoad 5 true S v53) fun v54 =>
 bindP (oLoad 5 true S v11) fun v55 =>
 bindC (callD κ.toOracle 215 v52 [v54, v55] S) pnA fun v56 S =>
 ifA v56
 (bindP (oIndexAddrA 2 5 v4 (.int .i64 1)) fun v57 =>
 bindP (oLoad 5 true S v57) fun v58 =>
 bindC (ok (oStore 5 S v11 v58)) pnA fun _ S =>
 bif sameD [] [] then Join j3 [] S else none)
 (bif sameD [] [] then Join j3 [] S else none))) N [v3, v19] S))
theorem e215 (N : Nat) (κ : Oracles) (v0 : AV) (S : St) : runF (Cs N) κ false 215 [v0] S = s215 N κ v0 S := by kernel_rfl
/- (*sacristan/journal.Journal).scan -/
def s216 (N : Nat) (κ : Oracles) (v0 : AV) (S : St) : R :=
 bindC (oBox S v0) pnA fun v1 S =>
 bindC (oAl S [.lst .nil 0 []]) pnA fun v2 S =>
 bindP (some (.int .i64 0)) fun v3 =>
 bindP (oLoad 1 false S v1) fun v11 =>
 bindP (some (.func 279 [v11] [])) fun v12 =>
 bindP (some v12) fun v4 =>
 bindP (oLoad 1 false S v1) fun v13 =>
 bindP (some v4) fun v14 =>
 bindP (oLoad 1 false S v1) fun v15 =>
 bindP (oNilC v15) fun v16 =>
 bindP (oFieldAddr 2 5 v16) fun v17 =>
 bindP (oFieldAddr 2 1 v17) fun v18 =>
 bindP (oLoad 1 false S v18) fun v19 =>
 bindC (callD κ.toOracle 216 v14 [v19] S) (fun v Sx => bif (true && true) && true then pnA v Sx else none) fun v20 S1 =>
 bindP (oNilC v13) fun v21 =>
 bindP (oFieldAddr 8 1 v21) fun v22 =>
 bindC (ok (oStore 1 S1 v22 v20)) (fun v Sx => bif (true && ((true && true) && ((true && true) && (((false || (chkA (oLoad 1 false S v1) v13 && chkA (oLoad 1 false S1 v1) v13)) && true) && true)))) && true then pnA v Sx else none) fun _ S2 =>
 bif ((true && (true && true)) && ((true && (true && true)) && ((true && ((false || (chkA (oLoad 1 false S v1) v13 && chkA (oLoad 1 false S1 v1) v13)) && true)) && true))) then
 (let S := S2;
 bindC (oAl S [.int .i64 0]) (fun _ _ => none) fun v6 S =>
 bindP (oLoad 1 false S v1) fun v23 =>
 bindP (oNilC v23) fun v24 =>
 bindP (oFieldAddr 8 1 v24) fun v25 =>
 bindP (oLoad 1 false S v25) fun v26 =>
 bindP (oLoad 1 false S v1) fun v27 =>
 bindP (oNilC v27) fun v28 =>
 bindP (oFieldAddr 1 1 v28) fun v29 =>
 bindP (oLoad 1 false S v29) fun v30 =>
 bindP (oArith .add v26 v30) fun v31 =>
 bindP (some v31) fun v5 =>
 bindC (ok (oStore 1 S v6 (.int .i64 1))) (fun v Sx => bif (true && true) && true then pnA v Sx else none) fun _ S3 =>
 bif true then
 (let S := S3;
 bindP (some (.func 280 [] [v2, v1, v6])) fun v32 =>
 bindP (some v32) fun v7 =>
 bindP (oLoad 1 false S v1) fun v33 =>
 bindP (oLoad 1 false S v1) fun v34 =>
 bindP (oNilC v34) fun v35 =>
 bindP (oFieldAddr 2 5 v35) fun v36 =>
 bindP (oFieldAddr 3 1 v36) fun v37 =>
 bindP (oLoad 1 false S v37) fun v38 =>
 bindP (oArith .sub v38 (.int .i64 1)) fun v39 =>
 bindP (oNilC v33) fun v40 =>
 bindP (oFieldAddr 7 1 v40) fun v41 =>
 bindC (ok (oStore 1 S v41 v39)) (fun v Sx => bif (true && true) && true then pnA v Sx else none) fun _ S4 =>
 bif true then
 (let S := S4;
 let j5 : List AV → St → R := (fun vals S =>
 let v3 := vals.getD 0 .junk;
 bindP (oLoad 1 false S v2) fun v83 =>
 bindC (ok (oStore 1 S v2 v83)) pnA fun _ S =>
 bindP (some (.int .i64 0)) fun v3 =>
 (resA [(oLoad 1 false S v2), (some v3)]).map fun vs => (.ret (packV vs), S));
 loop1 (fun vals S1 k6 =>
 let S := gcHead false S.objs.length [] vals S1;
 let v3 := vals.getD 0 .junk;
 bindC (oAl S [.int .i64 0, .int .i64 0, .int .i64 0, .int .i64 0, .int .u8 0, .str []]) (fun _ _ => none) fun v8 S =>
 bindP (oLoad 1 false S v1) fun v43 =>
 bindP (oNilC v43) fun v44 =>
 bindP (oFieldAddr 0 1 v44) fun v45 =>
 bindP (oLoad 1 false S v45) fun v46 =>
 bindP (oLoad 1 false S v1) fun v47 =>
 bindP (oNilC v47) fun v48 =>
 bindP (oFieldAddr 8 1 v48) fun v49 =>
 bindP (oLoad 1 false S v49) fun v50 =>
 bindP (some v5) fun v51 =>
 bindP (oLoad 1 false S v1) fun v52 =>
 bindP (oNilC v52) fun v53 =>
 bindP (oFieldAddr 7 1 v53) fun v54 =>
 bindP (oLoad 1 false S v54) fun v55 =>
 bindP (oArith .add v55 (.int .i64 1)) fun v56 =>
 bindP (oLoad 1 false S v6) fun v57 =>
 bindC (callN κ.toOracle 281 [v46, v50, v51, v56, v57] S) (fun v Sx => bif (true && true) && true then pnA v Sx else none) fun v58 S7 =>
 bindP (some v58) fun v42 =>
 bindP (oExt v42 0) fun v59 =>
 bindP (oExt v42 1) fun v60 =>
 bindC (ok (oStore 6 S7 v8 v59)) (fun v Sx => bif (true && true) && true then pnA v Sx else none) fun _ S8 =>
 bindP (some v60) fun v9 =>
 bif true then
 (let S := S8;
 bindP (some v9) fun v62 =>
 bindP (bE (eG (some [.i]) false false false v62 (.int .i64 10))) fun v63 =>
 bindP (some v63) fun v61 =>
 ifA v61
 (bindP (some v9) fun v64 =>
 bindC (ok (oStore 1 S v2 (.lst .nil 0 []))) pnA fun _ S =>
 bindP (some v64) fun v3 =>
 (resA [(oLoad 1 false S v2), (some v3)]).map fun vs => (.ret (packV vs), S))
 (bindP (some v9) fun v66 =>
 bindP (bN (eG (some [.i]) false false false v66 (.int .i64 0))) fun v67 =>
 bindP (some v67) fun v65 =>
 ifA v65
 (bif sameD [] [] then Join j5 [v3] S else none)
 (bindP (some (.int .u8 2)) fun v10 =>
 let j9 : List AV → St → R := (fun vals S =>
 let v10 := vals.getD 0 .junk;
 bindP (oFieldAddr 4 1 v8) fun v76 =>
 bindP (oLoad 1 false S v76) fun v77 =>
 bindP (some v10) fun v78 =>
 bindP (bN (eG (some [.i]) false false false v77 v78)) fun v79 =>
 ifA v79
 (bif sameD [] [] then Join j5 [v3] S else none)
 (bindP (some v7) fun v80 =>
 bindP (oLoad 6 true S v8) fun v81 =>
 bindC (callD κ.toOracle 216 v80 [v81] S) pnA fun v82 S =>
 bif sameD [] [] then k6 [v3] S else none));
 bindP (oLoad 1 false S v2) fun v68 =>
 bindP (oLen S (.slice 9) v68) fun v69 =>
 bindP (oLoad 1 false S v1) fun v70 =>
 bindP (oNilC v70) fun v71 =>
 bindP (oFieldAddr 2 5 v71) fun v72 =>
 bindP (oFieldAddr 4 1 v72) fun v73 =>
 bindP (oLoad 1 false S v73) fun v74 =>
 bindP (oArith .lss v69 v74) fun v75 =>
 bif true then
 (let S := S;
 ifA v75
 (bindP (some (.int .u8 1)) fun v10 =>
 bif sameD [] [] then Join j9 [v10] S else none)
 (bif sameD [] [] then Join j9 [v10] S else none))
 else none)))
 else none) N [v3] S)
 else none)
 else none)
 else none
theorem e216 (N : Nat) (κ : Oracles) (v0 : AV) (S : St) : runF (Cs N) κ false 216 [v0] S = s216 N κ v0 S := by kernel_rfl
/- sacristan/slots.Save -/
def s217 (N : Nat) (κ : Oracles) (v0 v1 : AV) (S : St) : R :=
 bindC (oBox S v1) pnA fun v3 S =>
 bindP (some (.int .i64 0)) fun v4 =>
 bindP (some v0) fun v8 =>
 bindP (bE (eNil kPtr v8 .nilptr)) fun v9 =>
 ifA v9
 (bindP (some (.int .i64 1)) fun v4 =>
 some (.ret v4, S))
 (bindP (oLoad 5 true S v3) fun v11 =>
 bindC (apart κ.toOracle 282 [v11] S) pnA fun v12 S =>
 bindP (some v12) fun v10 =>
 bindP (oExt v10 0) fun v13 =>
 bindP (oExt v10 1) fun v14 =>
 bindP (some v13) fun v5 =>
 bindP (some v14) fun v6 =>
 bindP (some v6) fun v15 =>
 bindP (bN (eG (some [.i]) false false false v15 (.int .i64 0))) fun v16 =>
 ifA v16
 (bindP (some v6) fun v17 =>
 bindP (some v17) fun v4 =>
 some (.ret v4, S))
 (bindP (some v0) fun v18 =>
 bindC (callN κ.toOracle 169 [v18] S) pnA fun v19 S =>
 bindP (oArith .lss v19 (.int .i64 2)) fun v20 =>
 ifA v20
 (bindP (some (.int .i64 3)) fun v4 =>
 some (.ret v4, S))
 (bindP (some v0) fun v21 =>
 bindP (oFieldAddr 0 1 v3) fun v22 =>
 bindP (oLoad 1 false S v22) fun v23 =>
 bindP (oArith .rem v23 (.int .i64 2)) fun v24 =>
 bindP (some v5) fun v25 =>
 bindC (callN κ.toOracle 254 [v21, v24, v25] S) pnA fun v26 S =>
 bindP (some v26) fun v7 =>
 bindP (some v7) fun v27 =>
 bindP (bN (eG (some [.i]) false false false v27 (.int .i64 0))) fun v28 =>
 ifA v28
 (bindP (some v7) fun v29 =>
 bindP (some v29) fun v4 =>
 some (.ret v4, S))
 (bindP (some v0) fun v30 =>
 bindC (callN κ.toOracle 251 [v30] S) pnA fun v31 S =>
 bindP (some v31) fun v4 =>
 some (.ret v4, S)))))
theorem e217 (N : Nat) (κ : Oracles) (v0 v1 : AV) (S : St) : runF (Cs N) κ false 217 [v0, v1] S = s217 N κ v0 v1 S := by kernel_rfl
/- sacristan/state.Check -/
def s219 (N : Nat) (κ : Oracles) (v0 v1 : AV) (S : St) : R :=
 bindC (oBox S v0) pnA fun v2 S =>
 bindC (oBox S v1) pnA fun v3 S =>
 bindP (some (.int .i64 0)) fun v4 =>
 bindP (oLoad 11 true S v2) fun v11 =>
 bindC (apart κ.toOracle 31 [v11] S) pnA fun v12 S =>
 bindP (some v12) fun v5 =>
 bindP (some v5) fun v13 =>
 bindP (bN (eG (some [.i]) false false false v13 (.int .i64 0))) fun v14 =>
 ifA v14
 (bindP (some v5) fun v15 =>
 bindP (some v15) fun v4 =>
 some (.ret v4, S))
 (bindP (oFieldAddr 0 1 v3) fun v16 =>
 bindP (oLoad 1 false S v16) fun v17 =>
 bindC (apart κ.toOracle 288 [v17, (.int .i64 0), (.int .i64 1099511627776)] S) pnA fun v18 S =>
 bindP (oUn .not v18) fun v19 =>
 bindP (some v19) fun v20 =>
 bindP (guardP v20 false (oFieldAddr 1 1 v3)) fun v21 =>
 bindP (guardP v20 false (oLoad 1 false S v21)) fun v22 =>
 bindC (guardC v20 false S (apart κ.toOracle 288 [v22, (.int .i64 1), (.int .i64 1099511627776)] S)) pnA fun v23 S =>
 bindP (guardP v20 false (oUn .not v23)) fun v24 =>
 bindP (oPick v20 (.bool true) v24) fun v25 =>
 bindP (some v25) fun v26 =>
 bindP (guardP v26 false (oFieldAddr 2 1 v3)) fun v27 =>
 bindP (guardP v26 false (oLoad 1 false S v27)) fun v28 =>
 bindC (guardC v26 false S (apart κ.toOracle 288 [v28, (.int .i64 1), (.int .i64 1099511627776)] S)) pnA fun v29 S =>
 bindP (guardP v26 false (oUn .not v29)) fun v30 =>
 bindP (oPick v26 (.bool true) v30) fun v31 =>
 bindP (some v31) fun v32 =>
 bindP (guardP v32 false (oFieldAddr 3 1 v3)) fun v33 =>
 bindP (guardP v32 false (oLoad 1 false S v33)) fun v34 =>
 bindC (guardC v32 false S (apart κ.toOracle 288 [v34, (.int .i64 (-1)), (.int .i64 1099511627776)] S)) pnA fun v35 S =>
 bindP (guardP v32 false (oUn .not v35)) fun v36 =>
 bindP (oPick v32 (.bool true) v36) fun v37 =>
 bindP (some v37) fun v38 =>
 bindP (guardP v38 false (oFieldAddr 4 1 v3)) fun v39 =>
 bindP (guardP v38 false (oLoad 1 false S v39)) fun v40 =>
 bindP (guardP v38 false (oLen S (.slice 58) v40)) fun v41 =>
 bindP (guardP v38 false (oFieldAddr 3 1 v2)) fun v42 =>
 bindP (guardP v38 false (oLoad 1 false S v42)) fun v43 =>
 bindP (guardP v38 false (oArith .gtr v41 v43)) fun v44 =>
 bindP (oPick v38 (.bool true) v44) fun v45 =>
 ifA v45
 (bindP (some (.int .i64 2)) fun v4 =>
 some (.ret v4, S))
 (bindC (oMM S) pnA fun v46 S =>
 bindC (oMM S) pnA fun v47 S =>
 bindC (oMM S) pnA fun v48 S =>
 bindP (some v46) fun v6 =>
 bindP (some v47) fun v7 =>
 bindP (some v48) fun v8 =>
 bindP (oFieldAddr 4 1 v3) fun v49 =>
 bindP (oLoad 1 false S v49) fun v50 =>
 bindP (oLen S (.slice 58) v50) fun v51 =>
 bindP (some (.int .i64 0)) fun v52 =>
 loop1 (fun vals S1 k1 =>
 let S := gcHead false S.objs.length [] vals S1;
 let v4 := vals.getD 0 .junk;
 let v52 := vals.getD 1 .junk;
 bindP (oArith .lss v52 v51) fun v53 =>
 ifA v53
 (bindP (some v52) fun v54 =>
 bindP (oIndexAddrS 10 v50 v52) fun v55 =>
 bindP (oLoad 10 true S v55) fun v56 =>
 bindC (oAl S [.int .i64 0, .int .i64 0, .int .i64 0, .int .i64 0, .lst .nil 0 [], .lst .nil 0 [], .int .i64 0, .int .i64 0, .bool false, .lst .nil 0 []]) pnA fun v10 S =>
 bindP (some v54) fun v9 =>
 bindC (ok (oStore 10 S v10 v56)) pnA fun _ S =>
 bindP (some v9) fun v57 =>
 bindP (oArith .gtr v57 (.int .i64 0)) fun v58 =>
 bindP (some v58) fun v59 =>
 bindP (guardP v59 true (oFieldAddr 4 1 v3)) fun v60 =>
 bindP (guardP v59 true (oLoad 1 false S v60)) fun v61 =>
 bindP (guardP v59 true (some v9)) fun v62 =>
 bindP (guardP v59 true (oArith .sub v62 (.int .i64 1))) fun v63 =>
 bindP (guardP v59 true (oIndexAddrS 10 v61 v63)) fun v64 =>
 bindP (guardP v59 true (oFieldAddr 0 6 v64)) fun v65 =>
 bindP (guardP v59 true (oFieldAddr 0 1 v65)) fun v66 =>
 bindP (guardP v59 true (oLoad 1 false S v66)) fun v67 =>
 bindP (guardP v59 true (oFieldAddr 0 6 v10)) fun v68 =>
 bindP (guardP v59 true (oFieldAddr 0 1 v68)) fun v69 =>
 bindP (guardP v59 true (oLoad 1 false S v69)) fun v70 =>
 bindP (guardP v59 true (oArith .geq v67 v70)) fun v71 =>
 bindP (oPick v59 v71 (.bool false)) fun v72 =>
 bindP (some v72) fun v73 =>
 bindP (guardP v73 false (oFieldAddr 0 6 v10)) fun v74 =>
 bindP (guardP v73 false (oLoad 6 true S v74)) fun v75 =>
 bindC (guardC v73 false S (apart κ.toOracle 289 [v75] S)) (fun _ _ => none) fun v76 S2 =>
 bindP (guardP v73 false (bN (eG (some [.i]) false false false v76 (.int .i64 0)))) fun v77 =>
 bindP (oPick v73 (.bool true) v77) fun v78 =>
 bindP (some v78) fun v79 =>
 bindP (guardP v79 false (oFieldAddr 6 1 v10)) fun v80 =>
 bindP (guardP v79 false (oLoad 1 false S2 v80)) fun v81 =>
 bindP (guardP v79 false (oFieldAddr 2 1 v3)) fun v82 =>
 bindP (guardP v79 false (oLoad 1 false S2 v82)) fun v83 =>
 bindP (guardP v79 false (oArith .sub v83 (.int .i64 1))) fun v84 =>
 bindC (guardC v79 false S2 (apart κ.toOracle 288 [v81, (.int .i64 1), v84] S2)) (fun _ _ => none) fun v85 S3 =>
 bindP (guardP v79 false (oUn .not v85)) fun v86 =>
 bindP (oPick v79 (.bool true) v86) fun v87 =>
 bindP (some v87) fun v88 =>
 bindP (guardP v88 false (oFieldAddr 7 1 v10)) fun v89 =>
 bindP (guardP v88 false (oLoad 1 false S3 v89)) fun v90 =>
 bindP (guardP v88 false (oFieldAddr 3 1 v2)) fun v91 =>
 bindP (guardP v88 false (oLoad 1 false S3 v91)) fun v92 =>
 bindP (guardP v88 false (oArith .sub v92 (.int .i64 1))) fun v93 =>
 bindC (guardC v88 false S3 (apart κ.toOracle 288 [v90, (.int .i64 0), v93] S3)) (fun _ _ => none) fun v94 S4 =>
 bindP (guardP v88 false (oUn .not v94)) fun v95 =>
 bindP (oPick v88 (.bool true) v95) fun v96 =>
 bindP (some v96) fun v97 =>
 bindP (guardP v97 false (some v6)) fun v98 =>
 bindP (guardP v97 false (oFieldAddr 6 1 v10)) fun v99 =>
 bindP (guardP v97 false (oLoad 1 false S4 v99)) fun v100 =>
 bindP (guardP v97 false (oLook (some [.i]) false (pack false [.bool false]) S4 v98 v100 false)) fun v101 =>
 bindP (oPick v97 (.bool true) v101) fun v102 =>
 bindP (some v102) fun v103 =>
 bindP (guardP v103 false (some v7)) fun v104 =>
 bindP (guardP v103 false (oFieldAddr 7 1 v10)) fun v105 =>
 bindP (guardP v103 false (oLoad 1 false S4 v105)) fun v106 =>
 bindP (guardP v103 false (oLook (some [.i]) false (pack false [.bool false]) S4 v104 v106 false)) fun v107 =>
 bindP (oPick v103 (.bool true) v107) fun v108 =>
 bindP (some v108) fun v109 =>
 bindP (guardP v109 false (oLoad 10 true S4 v10)) fun v110 =>
 bindP (guardP v109 false (oFieldAddr 1 1 v3)) fun v111 =>
 bindP (guardP v109 false (oLoad 1 false S4 v111)) fun v112 =>
 bindP (guardP v109 false (some v8)) fun v113 =>
 bindC (guardC v109 false S4 (callN κ.toOracle 290 [v110, v112, v113] S4)) (fun v Sx => bif (true && true) && true then pnA v Sx else none) fun v114 S5 =>
 bindP (guardP v109 false (oUn .not v114)) fun v115 =>
 bindP (oPick v109 (.bool true) v115) fun v116 =>
 bif true then
 (let S := S5;
 ifA v116
 (bindP (some (.int .i64 2)) fun v4 =>
 some (.ret v4, S))
 (bindP (some v6) fun v117 =>
 bindP (oFieldAddr 6 1 v10) fun v118 =>
 bindP (oLoad 1 false S v118) fun v119 =>
 bindP (some v7) fun v120 =>
 bindP (oFieldAddr 7 1 v10) fun v121 =>
 bindP (oLoad 1 false S v121) fun v122 =>
 bindC (ok (oMUp (some [.i]) false S v117 v119 (.bool true))) (fun v Sx => bif (true && true) && true then pnA v Sx else none) fun _ S6 =>
 bindC (ok (oMUp (some [.i]) false S6 v120 v122 (.bool true))) (fun v Sx => bif (true && (((false || (chkA (oLoad 1 false S v121) v122 && chkA (oLoad 1 false S6 v121) v122)) && true) && ((true && true) && true))) && true then pnA v Sx else none) fun _ S7 =>
 bif ((true && ((false || (chkA (oLoad 1 false S v121) v122 && chkA (oLoad 1 false S6 v121) v122)) && true)) && ((true && (true && true)) && true)) then
 (let S := S7;
 bindP (oArith .add v52 (.int .i64 1)) fun v123 =>
 bindP (some v123) fun v52 =>
 bif sameD [] [] then k1 [v4, v52] S else none)
 else none))
 else none)
 (bindP (oLoad 11 true S v2) fun v124 =>
 bindP (oLoad 5 true S v3) fun v125 =>
 bindP (oFill (plS [(0, 1), (1, 1), (2, 1)]) [.int .i64 0, .int .i64 0, .int .i64 0] []) fun v126 =>
 bindC (apart κ.toOracle 291 [v124, v125, v126] S) pnA fun v127 S =>
 bindP (oUn .not v127) fun v128 =>
 bindP (some v128) fun v129 =>
 bindP (guardP v129 false (oLoad 5 true S v3)) fun v130 =>
 bindC (guardC v129 false S (apart κ.toOracle 292 [v130] S)) pnA fun v131 S =>
 bindP (guardP v129 false (oUn .not v131)) fun v132 =>
 bindP (oPick v129 (.bool true) v132) fun v133 =>
 ifA v133
 (bindP (some (.int .i64 2)) fun v4 =>
 some (.ret v4, S))
 (bindP (some (.int .i64 0)) fun v4 =>
 some (.ret v4, S)))) N [v4, v52] S))
theorem e219 (N : Nat) (κ : Oracles) (v0 v1 : AV) (S : St) : runF (Cs N) κ false 219 [v0, v1] S = s219 N κ v0 v1 S := by kernel_rfl
/- (*sacristan/disk.Disk).has -/
def s225 (N : Nat) (κ : Oracles) (v0 v1 : AV) (S : St) : R :=
 bindP (some (.int .i64 0)) fun v4 =>
 bindP (some v0) fun v5 =>
 bindP (bE (eNil kPtr v5 .nilptr)) fun v6 =>
 ifA v6
 (bindP (some (.int .i64 1)) fun v4 =>
 some (.ret v4, S))
 (bindP (some v1) fun v7 =>
 bindP (oArith .lss v7 (.int .i64 0)) fun v8 =>
 bindP (some v8) fun v9 =>
 bindP (guardP v9 false (some v1)) fun v10 =>
 bindP (guardP v9 false (some v0)) fun v11 =>
 bindP (guardP v9 false (oNilC v11)) fun v12 =>
 bindP (guardP v9 false (oFieldAddr 0 5 v12)) fun v13 =>
 bindP (guardP v9 false (oFieldAddr 1 1 v13)) fun v14 =>
 bindP (guardP v9 false (oLoad 1 false S v14)) fun v15 =>
 bindP (guardP v9 false (oArith .geq v10 v15)) fun v16 =>
 bindP (oPick v9 (.bool true) v16) fun v17 =>
 ifA v17
 (bindP (some (.int .i64 3)) fun v4 =>
 some (.ret v4, S))
 (bindP (some (.int .i64 0)) fun v4 =>
 some (.ret v4, S)))
theorem e225 (N : Nat) (κ : Oracles) (v0 v1 : AV) (S : St) : runF (Cs N) κ false 225 [v0, v1] S = s225 N κ v0 v1 S := by kernel_rfl
/- slices.Backward[[]sacristan/disk.write,sacristan/disk.write] -/
def s226 (N : Nat) (κ : Oracles) (v0 : AV) (S : St) : R :=
 bindC (oBox S v0) pnA fun v1 S =>
 bindP (some .nilfunc) fun v2 =>
 bindP (some (.func 303 [] [v1])) fun v3 =>
 bindP (some v3) fun v2 =>
 some (.ret v2, S)
theorem e226 (N : Nat) (κ : Oracles) (v0 : AV) (S : St) : runF (Cs N) κ false 226 [v0] S = s226 N κ v0 S := by kernel_rfl
/- sacristan/lease.Fenced -/
def s227 (N : Nat) (κ : Oracles) (v0 v1 v2 : AV) (S : St) : R :=
 bindC (oBox S v0) pnA fun v3 S =>
 bindP (some (.bool false)) fun v6 =>
 bindP (some (.int .i64 0)) fun v7 =>
 bindP (oLoad 11 true S v3) fun v8 =>
 bindP (some v1) fun v9 =>
 bindP (some v2) fun v10 =>
 bindC (callN κ.toOracle 304 [(.func 305 [] []), v8, v9, v10] S) pnA fun v11 S =>
 bindP (oExt v11 0) fun v12 =>
 bindP (oExt v11 1) fun v13 =>
 bindP (some v12) fun v6 =>
 bindP (some v13) fun v7 =>
 some (.ret (.tup [v6, v7]), S)
theorem e227 (N : Nat) (κ : Oracles) (v0 v1 v2 : AV) (S : St) : runF (Cs N) κ false 227 [v0, v1, v2] S = s227 N κ v0 v1 v2 S := by kernel_rfl
/- (*sacristan/fuse.Fuse).Burn -/
def s229 (N : Nat) (κ : Oracles) (v0 : AV) (S : St) : R :=
 bindP (some (.int .i64 0)) fun v2 =>
 bindP (some v0) fun v3 =>
 bindP (bE (eNil kPtr v3 .nilptr)) fun v4 =>
 ifA v4
 (bindP (some (.int .i64 1)) fun v2 =>
 some (.ret v2, S))
 (bindP (some v0) fun v5 =>
 bindP (oNilC v5) fun v6 =>
 bindP (oFieldAddr 2 1 v6) fun v7 =>
 bindP (oLoad 1 false S v7) fun v8 =>
 bindP (some v0) fun v9 =>
 bindC (callD κ.toOracle 229 v8 [v9] S) pnA fun v10 S =>
 bindP (some v10) fun v2 =>
 some (.ret v2, S))
theorem e229 (N : Nat) (κ : Oracles) (v0 : AV) (S : St) : runF (Cs N) κ false 229 [v0] S = s229 N κ v0 S := by kernel_rfl
/- (*sacristan/disk.Disk).Sync -/
def s251 (N : Nat) (κ : Oracles) (v0 : AV) (S : St) : R :=
 bindP (some (.int .i64 0)) fun v2 =>
 bindP (some v0) fun v6 =>
 bindP (bE (eNil kPtr v6 .nilptr)) fun v7 =>
 ifA v7
 (bindP (some (.int .i64 1)) fun v2 =>
 some (.ret v2, S))
 (bindP (some v0) fun v8 =>
 bindP (oNilC v8) fun v9 =>
 bindP (oFieldAddr 0 5 v9) fun v10 =>
 bindP (oFieldAddr 0 1 v10) fun v11 =>
 bindP (oLoad 1 false S v11) fun v12 =>
 bindC (callN κ.toOracle 229 [v12] S) pnA fun v13 S =>
 bindP (some v13) fun v3 =>
 bindP (some v3) fun v14 =>
 bindP (bN (eG (some [.i]) false false false v14 (.int .i64 0))) fun v15 =>
 ifA v15
 (bindP (some v3) fun v16 =>
 bindP (some v16) fun v2 =>
 some (.ret v2, S))
 (bindP (some v0) fun v17 =>
 bindP (oNilC v17) fun v18 =>
 bindP (oFieldAddr 0 5 v18) fun v19 =>
 bindP (oFieldAddr 4 1 v19) fun v20 =>
 bindP (oLoad 1 false S v20) fun v21 =>
 bindP (oLen S (.slice 254) v21) fun v22 =>
 bindP (some (.int .i64 0)) fun v23 =>
 loop1 (fun vals S1 k1 =>
 let S := gcHead false S.objs.length [] vals S1;
 let v23 := vals.getD 0 .junk;
 bindP (oArith .lss v23 v22) fun v24 =>
 ifA v24
 (bindP (oIndexAddrS 2 v21 v23) fun v25 =>
 bindP (oLoad 2 true S v25) fun v26 =>
 bindC (oAl S [.int .i64 0, .str []]) pnA fun v5 S =>
 bindC (ok (oStore 2 S v5 v26)) pnA fun _ S =>
 bindP (some v0) fun v27 =>
 bindP (oNilC v27) fun v28 =>
 bindP (oFieldAddr 0 5 v28) fun v29 =>
 bindP (oLoad 2 true S v5) fun v30 =>
 bindC (callN κ.toOracle 161 [v29, v30] S) (fun v Sx => bif (true && true) && true then pnA v Sx else none) fun v31 S2 =>
 bif true then
 (let S := S2;
 bindP (oArith .add v23 (.int .i64 1)) fun v32 =>
 bindP (some v32) fun v23 =>
 bif sameD [] [] then k1 [v23] S else none)
 else none)
 (bindP (some v0) fun v33 =>
 bindP (oNilC v33) fun v34 =>
 bindP (oFieldAddr 0 5 v34) fun v35 =>
 bindP (oFieldAddr 4 1 v35) fun v36 =>
 bindC (ok (oStore 1 S v36 (.lst .nil 0 []))) pnA fun _ S =>
 bindP (some (.int .i64 0)) fun v2 =>
 some (.ret v2, S))) N [v23] S))
theorem e251 (N : Nat) (κ : Oracles) (v0 : AV) (S : St) : runF (Cs N) κ false 251 [v0] S = s251 N κ v0 S := by kernel_rfl
/- (*sacristan/disk.Disk).Write -/
def s254 (N : Nat) (κ : Oracles) (v0 v1 v2 : AV) (S : St) : R :=
 bindP (some (.int .i64 0)) fun v6 =>
 bindP (some v0) fun v9 =>
 bindP (some v1) fun v10 =>
 bindC (callN κ.toOracle 225 [v9, v10] S) pnA fun v11 S =>
 bindP (some v11) fun v7 =>
 bindP (some v7) fun v12 =>
 bindP (bN (eG (some [.i]) false false false v12 (.int .i64 0))) fun v13 =>
 ifA v13
 (bindP (some v7) fun v14 =>
 bindP (some v14) fun v6 =>
 some (.ret v6, S))
 (bindP (some v2) fun v15 =>
 bindP (oLen S .string v15) fun v16 =>
 bindP (bN (eG (some [.i]) false false false v16 (.int .i64 80))) fun v17 =>
 ifA v17
 (bindP (some (.int .i64 2)) fun v6 =>
 some (.ret v6, S))
 (bindP (some v0) fun v18 =>
 bindP (oNilC v18) fun v19 =>
 bindP (oFieldAddr 0 5 v19) fun v20 =>
 bindP (oFieldAddr 0 1 v20) fun v21 =>
 bindP (oLoad 1 false S v21) fun v22 =>
 bindC (callN κ.toOracle 229 [v22] S) pnA fun v23 S =>
 bindP (some v23) fun v8 =>
 bindP (some v8) fun v24 =>
 bindP (bN (eG (some [.i]) false false false v24 (.int .i64 0))) fun v25 =>
 ifA v25
 (bindP (some v8) fun v26 =>
 bindP (some v26) fun v6 =>
 some (.ret v6, S))
 (bindP (some v0) fun v27 =>
 bindP (some v0) fun v28 =>
 bindP (oNilC v28) fun v29 =>
 bindP (oFieldAddr 0 5 v29) fun v30 =>
 bindP (oFieldAddr 4 1 v30) fun v31 =>
 bindP (oLoad 1 false S v31) fun v32 =>
 bindP (some v1) fun v33 =>
 bindP (some v2) fun v34 =>
 bindP (oFill (plS [(0, 1), (1, 1)]) [.int .i64 0, .str []] [(0, v33), (1, v34)]) fun v35 =>
 bindC (oBS S 2 [.int .i64 0, .str []] 1 [(0, v35)]) pnA fun v36 S =>
 bindC (oApp false 2 24 S v32 v36) pnA fun v37 S =>
 bindP (oNilC v27) fun v38 =>
 bindP (oFieldAddr 0 5 v38) fun v39 =>
 bindP (oFieldAddr 4 1 v39) fun v40 =>
 bindC (ok (oStore 1 S v40 v37)) pnA fun _ S =>
 bindP (some (.int .i64 0)) fun v6 =>
 some (.ret v6, S))))
theorem e254 (N : Nat) (κ : Oracles) (v0 v1 v2 : AV) (S : St) : runF (Cs N) κ false 254 [v0, v1, v2] S = s254 N κ v0 v1 v2 S := by kernel_rfl
/- sacristan/pack.number -/
def s275 (N : Nat) (κ : Oracles) (v0 : AV) (S : St) : R :=
 bindP (some (.int .u64 0)) fun v2 =>
 bindP (some (.int .u64 0)) fun v3 =>
 bindP (some v0) fun v5 =>
 bindP (oLen S .string v5) fun v6 =>
 bindP (some (.int .i64 0)) fun v7 =>
 loop1 (fun vals S1 k1 =>
 let S := gcHead false S.objs.length [] vals S1;
 let v3 := vals.getD 0 .junk;
 let v7 := vals.getD 1 .junk;
 bindP (oArith .lss v7 v6) fun v8 =>
 ifA v8
 (bindP (some v7) fun v9 =>
 bindP (some v9) fun v4 =>
 bindP (some v3) fun v10 =>
 bindP (oShiftV .shl v10 (.int .u64 8)) fun v11 =>
 bindP (some v0) fun v12 =>
 bindP (some v4) fun v13 =>
 bindP (oIndexStr v12 v13) fun v14 =>
 bindP (cII .u64 v14) fun v15 =>
 bindP (oArith .or v11 v15) fun v16 =>
 bindP (some v16) fun v3 =>
 bindP (oArith .add v7 (.int .i64 1)) fun v17 =>
 bindP (some v17) fun v7 =>
 bif sameD [] [] then k1 [v3, v7] S else none)
 (bindP (some v3) fun v18 =>
 bindP (some v18) fun v2 =>
 some (.ret v2, S))) N [v3, v7] S
theorem e275 (N : Nat) (κ : Oracles) (v0 : AV) (S : St) : runF (Cs N) κ false 275 [v0] S = s275 N κ v0 S := by kernel_rfl
/- sacristan/slots.Decode -/
def s277 (N : Nat) (κ : Oracles) (v0 : AV) (S : St) : R :=
 bindC (oAl S [.int .i64 0, .int .i64 0, .int .i64 0, .int .i64 0, .int .i64 0]) pnA fun v2 S =>
 bindP (some (.int .i64 0)) fun v3 =>
 bindP (some v0) fun v7 =>
 bindP (oLen S .string v7) fun v8 =>
 bindP (bN (eG (some [.i]) false false false v8 (.int .i64 80))) fun v9 =>
 ifA v9
 (bindP (oFill (plS [(0, 1), (1, 1), (2, 1), (3, 1), (4, 1)]) [.int .i64 0, .int .i64 0, .int .i64 0, .int .i64 0, .int .i64 0] []) fun v10 =>
 bindC (ok (oStore 5 S v2 v10)) pnA fun _ S =>
 bindP (some (.int .i64 12)) fun v3 =>
 (resA [(oLoad 5 true S v2), (some v3)]).map fun vs => (.ret (packV vs), S))
 (bindC (oAl S [.int .i64 0, .int .i64 0, .int .i64 0, .int .i64 0, .int .i64 0]) (fun _ _ => none) fun v4 S =>
 bindP (some v0) fun v11 =>
 bindP (slT v11 none (some (.int .i64 6)) none) fun v12 =>
 bindC (apart κ.toOracle 348 [v12] S) (fun _ _ => none) fun v13 S1 =>
 bindP (some v0) fun v14 =>
 bindP (slT v14 (some (.int .i64 6)) (some (.int .i64 10)) none) fun v15 =>
 bindC (apart κ.toOracle 348 [v15] S1) (fun _ _ => none) fun v16 S2 =>
 bindP (some v0) fun v17 =>
 bindP (slT v17 (some (.int .i64 10)) (some (.int .i64 11)) none) fun v18 =>
 bindC (apart κ.toOracle 348 [v18] S2) (fun _ _ => none) fun v19 S3 =>
 bindP (some v0) fun v20 =>
 bindP (slT v20 (some (.int .i64 11)) (some (.int .i64 17)) none) fun v21 =>
 bindC (apart κ.toOracle 348 [v21] S3) (fun _ _ => none) fun v22 S4 =>
 bindP (some v0) fun v23 =>
 bindP (slT v23 (some (.int .i64 17)) (some (.int .i64 19)) none) fun v24 =>
 bindC (apart κ.toOracle 348 [v24] S4) (fun _ _ => none) fun v25 S5 =>
 bindP (oFill (plS [(0, 1), (1, 1), (2, 1), (3, 1), (4, 1)]) [.int .i64 0, .int .i64 0, .int .i64 0, .int .i64 0, .int .i64 0] [(0, v13), (1, v16), (2, v19), (3, v22), (4, v25)]) fun v26 =>
 bindC (ok (oStore 5 S5 v4 v26)) (fun v Sx => bif (true && true) && true then pnA v Sx else none) fun _ S6 =>
 bif true then
 (let S := S6;
 bindP (oLoad 5 true S v4) fun v28 =>
 bindC (apart κ.toOracle 282 [v28] S) pnA fun v29 S =>
 bindP (some v29) fun v27 =>
 bindP (oExt v27 0) fun v30 =>
 bindP (oExt v27 1) fun v31 =>
 bindP (some v30) fun v5 =>
 bindP (some v31) fun v6 =>
 bindP (some v6) fun v32 =>
 bindP (bN (eG (some [.i]) false false false v32 (.int .i64 0))) fun v33 =>
 bindP (some v33) fun v34 =>
 bindP (guardP v34 false (some v5)) fun v35 =>
 bindP (guardP v34 false (some v0)) fun v36 =>
 bindP (guardP v34 false (bN (eG (some [.s]) false false false v35 v36))) fun v37 =>
 bindP (oPick v34 (.bool true) v37) fun v38 =>
 ifA v38
 (bindP (oFill (plS [(0, 1), (1, 1), (2, 1), (3, 1), (4, 1)]) [.int .i64 0, .int .i64 0, .int .i64 0, .int .i64 0, .int .i64 0] []) fun v39 =>
 bindC (ok (oStore 5 S v2 v39)) pnA fun _ S =>
 bindP (some (.int .i64 12)) fun v3 =>
 (resA [(oLoad 5 true S v2), (some v3)]).map fun vs => (.ret (packV vs), S))
 (bindP (oLoad 5 true S v4) fun v40 =>
 bindC (ok (oStore 5 S v2 v40)) pnA fun _ S =>
 bindP (some (.int .i64 0)) fun v3 =>
 (resA [(oLoad 5 true S v2), (some v3)]).map fun vs => (.ret (packV vs), S)))
 else none)
theorem e277 (N : Nat) (κ : Oracles) (v0 : AV) (S : St) : runF (Cs N) κ false 277 [v0] S = s277 N κ v0 S := by kernel_rfl
/- (sacristan/slots.header).newer -/
def s278 (N : Nat) (κ : Oracles) (v0 v1 : AV) (S : St) : R :=
 bindC (oBox S v0) pnA fun v2 S =>
 bindC (oBox S v1) pnA fun v3 S =>
 bindP (some (.bool false)) fun v4 =>
 bindP (oFieldAddr 0 1 v2) fun v5 =>
 bindP (oLoad 1 false S v5) fun v6 =>
 bindP (oFieldAddr 0 1 v3) fun v7 =>
 bindP (oLoad 1 false S v7) fun v8 =>
 bindP (oArith .gtr v6 v8) fun v9 =>
 bindP (some v9) fun v4 =>
 some (.ret v4, S)
theorem e278 (N : Nat) (κ : Oracles) (v0 v1 : AV) (S : St) : runF (Cs N) κ false 278 [v0, v1] S = s278 N κ v0 v1 S := by kernel_rfl
/- (*sacristan/journal.Journal).begin -/
def s279 (N : Nat) (κ : Oracles) (v0 v1 : AV) (S : St) : R :=
 bindP (some (.int .i64 0)) fun v4 =>
 bindP (some v0) fun v6 =>
 bindP (oNilC v6) fun v7 =>
 bindP (oFieldAddr 1 1 v7) fun v8 =>
 bindP (oLoad 1 false S v8) fun v9 =>
 bindP (oArith .add (.int .i64 2) v9) fun v10 =>
 bindP (oFill (plA 1) [.int .i64 0, .int .i64 0] [(0, (.int .i64 2)), (1, v10)]) fun v11 =>
 bindC (oAl S [.int .i64 0, .int .i64 0]) pnA fun v5 S =>
 bindC (ok (oStore 2 S v5 v11)) pnA fun _ S =>
 bindP (some v1) fun v12 =>
 bindP (oIndexAddrA 2 1 v5 v12) fun v13 =>
 bindP (oLoad 1 false S v13) fun v14 =>
 bindP (some v14) fun v4 =>
 some (.ret v4, S)
theorem e279 (N : Nat) (κ : Oracles) (v0 v1 : AV) (S : St) : runF (Cs N) κ false 279 [v0, v1] S = s279 N κ v0 v1 S := by kernel_rfl
/- sacristan/record.Read -/
def s281 (N : Nat) (κ : Oracles) (v0 v1 v2 v3 v4 : AV) (S : St) : R :=
 bindC (oAl S [.int .i64 0, .int .i64 0, .int .i64 0, .int .i64 0, .int .u8 0, .str []]) pnA fun v10 S =>
 bindP (some (.int .i64 0)) fun v11 =>
 bindP (some v0) fun v21 =>
 bindP (bE (eNil kPtr v21 .nilptr)) fun v22 =>
 ifA v22
 (bindP (oFill (plS [(0, 1), (1, 1), (2, 1), (3, 1), (4, 1), (5, 1)]) [.int .i64 0, .int .i64 0, .int .i64 0, .int .i64 0, .int .u8 0, .str []] []) fun v23 =>
 bindC (ok (oStore 6 S v10 v23)) pnA fun _ S =>
 bindP (some (.int .i64 1)) fun v11 =>
 (resA [(oLoad 6 true S v10), (some v11)]).map fun vs => (.ret (packV vs), S))
 (bindP (some v1) fun v24 =>
 bindP (oArith .lss v24 (.int .i64 0)) fun v25 =>
 bindP (some v25) fun v26 =>
 bindP (guardP v26 false (some v1)) fun v27 =>
 bindP (guardP v26 false (some v2)) fun v28 =>
 bindP (guardP v26 false (oArith .gtr v27 v28)) fun v29 =>
 bindP (oPick v26 (.bool true) v29) fun v30 =>
 bindP (some v30) fun v31 =>
 bindP (guardP v31 false (some v2)) fun v32 =>
 bindP (guardP v31 false (some v0)) fun v33 =>
 bindC (guardC v31 false S (callN κ.toOracle 169 [v33] S)) pnA fun v34 S =>
 bindP (guardP v31 false (oArith .gtr v32 v34)) fun v35 =>
 bindP (oPick v31 (.bool true) v35) fun v36 =>
 ifA v36
 (bindP (oFill (plS [(0, 1), (1, 1), (2, 1), (3, 1), (4, 1), (5, 1)]) [.int .i64 0, .int .i64 0, .int .i64 0, .int .i64 0, .int .u8 0, .str []] []) fun v37 =>
 bindC (ok (oStore 6 S v10 v37)) pnA fun _ S =>
 bindP (some (.int .i64 3)) fun v11 =>
 (resA [(oLoad 6 true S v10), (some v11)]).map fun vs => (.ret (packV vs), S))
 (bindP (some v0) fun v39 =>
 bindC (callN κ.toOracle 170 [v39, (.int .i64 0)] S) pnA fun v40 S =>
 bindP (some v40) fun v38 =>
 bindP (oExt v38 0) fun v41 =>
 bindP (oExt v38 1) fun v42 =>
 bindP (some v41) fun v12 =>
 bindP (some v42) fun v13 =>
 bindP (some v13) fun v43 =>
 bindP (bN (eG (some [.i]) false false false v43 (.int .i64 0))) fun v44 =>
 ifA v44
 (bindP (oFill (plS [(0, 1), (1, 1), (2, 1), (3, 1), (4, 1), (5, 1)]) [.int .i64 0, .int .i64 0, .int .i64 0, .int .i64 0, .int .u8 0, .str []] []) fun v45 =>
 bindP (some v13) fun v46 =>
 bindC (ok (oStore 6 S v10 v45)) pnA fun _ S =>
 bindP (some v46) fun v11 =>
 (resA [(oLoad 6 true S v10), (some v11)]).map fun vs => (.ret (packV vs), S))
 (bindP (some (.lst .nil 0 [])) fun v14 =>
 bindP (some (.int .i64 1)) fun v15 =>
 bindP (some (.int .i64 0)) fun v16 =>
 loop1 (fun vals S1 k1 =>
 let S := gcHead false S.objs.length [] vals S1;
 let v11 := vals.getD 0 .junk;
 let v14 := vals.getD 1 .junk;
 let v15 := vals.getD 2 .junk;
 let v16 := vals.getD 3 .junk;
 bindP (some v16) fun v47 =>
 bindP (some v15) fun v48 =>
 bindP (oArith .lss v47 v48) fun v49 =>
 ifA v49
 (let j2 : List AV → St → R := (fun vals S =>
 let v11 := vals.getD 0 .junk;
 let v14 := vals.getD 1 .junk;
 let v15 := vals.getD 2 .junk;
 bindP (some v16) fun v50 =>
 bindP (oArith .add v50 (.int .i64 1)) fun v51 =>
 bindP (some v51) fun v16 =>
 bif sameD [] [] then k1 [v11, v14, v15, v16] S else none);
 bindP (some v1) fun v52 =>
 bindP (some v16) fun v53 =>
 bindP (oArith .add v52 v53) fun v54 =>
 bindP (some v2) fun v55 =>
 bindP (oArith .geq v54 v55) fun v56 =>
 ifA v56
 (bindP (oFill (plS [(0, 1), (1, 1), (2, 1), (3, 1), (4, 1), (5, 1)]) [.int .i64 0, .int .i64 0, .int .i64 0, .int .i64 0, .int .u8 0, .str []] []) fun v57 =>
 bindC (ok (oStore 6 S v10 v57)) pnA fun _ S =>
 bindP (some (.int .i64 12)) fun v11 =>
 (resA [(oLoad 6 true S v10), (some v11)]).map fun vs => (.ret (packV vs), S))
 (bindP (some v0) fun v59 =>
 bindP (some v1) fun v60 =>
 bindP (some v16) fun v61 =>
 bindP (oArith .add v60 v61) fun v62 =>
 bindC (callN κ.toOracle 170 [v59, v62] S) pnA fun v63 S =>
 bindP (some v63) fun v58 =>
 bindP (oExt v58 0) fun v64 =>
 bindP (oExt v58 1) fun v65 =>
 bindP (some v64) fun v17 =>
 bindP (some v65) fun v18 =>
 bindP (some v18) fun v66 =>
 bindP (bN (eG (some [.i]) false false false v66 (.int .i64 0))) fun v67 =>
 ifA v67
 (bindP (oFill (plS [(0, 1), (1, 1), (2, 1), (3, 1), (4, 1), (5, 1)]) [.int .i64 0, .int .i64 0, .int .i64 0, .int .i64 0, .int .u8 0, .str []] []) fun v68 =>
 bindP (some v18) fun v69 =>
 bindC (ok (oStore 6 S v10 v68)) pnA fun _ S =>
 bindP (some v69) fun v11 =>
 (resA [(oLoad 6 true S v10), (some v11)]).map fun vs => (.ret (packV vs), S))
 (bindP (some v17) fun v71 =>
 bindC (apart κ.toOracle 349 [v71] S) pnA fun v72 S =>
 bindP (some v72) fun v70 =>
 bindP (oExt v70 0) fun v73 =>
 bindP (oExt v70 1) fun v74 =>
 bindC (oAl S [.int .i64 0, .int .i64 0, .int .i64 0, .int .i64 0, .int .u8 0, .str []]) pnA fun v19 S =>
 bindC (ok (oStore 6 S v19 v73)) pnA fun _ S =>
 bindP (some v74) fun v18 =>
 bindP (some v18) fun v75 =>
 bindP (bN (eG (some [.i]) false false false v75 (.int .i64 0))) fun v76 =>
 ifA v76
 (bindP (oFill (plS [(0, 1), (1, 1), (2, 1), (3, 1), (4, 1), (5, 1)]) [.int .i64 0, .int .i64 0, .int .i64 0, .int .i64 0, .int .u8 0, .str []] []) fun v77 =>
 bindC (ok (oStore 6 S v10 v77)) pnA fun _ S =>
 bindP (some (.int .i64 12)) fun v11 =>
 (resA [(oLoad 6 true S v10), (some v11)]).map fun vs => (.ret (packV vs), S))
 (let j3 : List AV → St → R := (fun vals S =>
 let v15 := vals.getD 0 .junk;
 bindP (some v14) fun v89 =>
 bindP (some v17) fun v90 =>
 bindC (oBS S 1 [.str []] 1 [(0, v90)]) pnA fun v91 S =>
 bindC (oApp false 1 16 S v89 v91) pnA fun v92 S =>
 bindP (some v92) fun v14 =>
 bif sameD [] [] then Join j2 [v11, v14, v15] S else none);
 bindP (some v16) fun v78 =>
 bindP (bE (eG (some [.i]) false false false v78 (.int .i64 0))) fun v79 =>
 ifA v79
 (bindP (oLoad 6 true S v19) fun v80 =>
 bindP (oFieldAddr 3 1 v19) fun v81 =>
 bindP (oLoad 1 false S v81) fun v82 =>
 bindC (ok (oStore 6 S v10 v80)) (fun v Sx => bif (true && true) && true then pnA v Sx else none) fun _ S4 =>
 bindP (some v82) fun v15 =>
 bif (((false || (chkA (oLoad 1 false S v81) v82 && chkA (oLoad 1 false S4 v81) v82)) && true) && ((true && true) && true)) then
 (let S := S4;
 bif sameD [] [] then Join j3 [v15] S else none)
 else none)
 (bindP (oFieldAddr 5 1 v10) fun v83 =>
 bindP (oLoad 1 false S v83) fun v84 =>
 bindP (oFieldAddr 5 1 v19) fun v85 =>
 bindP (oLoad 1 false S v85) fun v86 =>
 bindP (oArith .add v84 v86) fun v87 =>
 bindP (oFieldAddr 5 1 v10) fun v88 =>
 bindC (ok (oStore 1 S v88 v87)) pnA fun _ S =>
 bif sameD [] [] then Join j3 [v15] S else none)))))
 (bindP (oFieldAddr 0 1 v10) fun v94 =>
 bindP (oLoad 1 false S v94) fun v95 =>
 bindP (oFieldAddr 1 1 v10) fun v96 =>
 bindP (oLoad 1 false S v96) fun v97 =>
 bindP (oFieldAddr 4 1 v10) fun v98 =>
 bindP (oLoad 1 false S v98) fun v99 =>
 bindP (oFieldAddr 5 1 v10) fun v100 =>
 bindP (oLoad 1 false S v100) fun v101 =>
 bindC (apart κ.toOracle 350 [v95, v97, v99, v101] S) pnA fun v102 S =>
 bindP (some v102) fun v93 =>
 bindP (oExt v93 0) fun v103 =>
 bindP (oExt v93 1) fun v104 =>
 bindP (some v103) fun v20 =>
 bindP (some v104) fun v11 =>
 bindP (some v11) fun v105 =>
 bindP (bN (eG (some [.i]) false false false v105 (.int .i64 0))) fun v106 =>
 bindP (some v106) fun v107 =>
 bindP (guardP v107 false (oFieldAddr 1 1 v10)) fun v108 =>
 bindP (guardP v107 false (oLoad 1 false S v108)) fun v109 =>
 bindP (guardP v107 false (some v3)) fun v110 =>
 bindP (guardP v107 false (bN (eG (some [.i]) false false false v109 v110))) fun v111 =>
 bindP (oPick v107 (.bool true) v111) fun v112 =>
 bindP (some v112) fun v113 =>
 bindP (guardP v113 false (oFieldAddr 0 1 v10)) fun v114 =>
 bindP (guardP v113 false (oLoad 1 false S v114)) fun v115 =>
 bindP (guardP v113 false (some v4)) fun v116 =>
 bindP (guardP v113 false (oArith .lss v115 v116)) fun v117 =>
 bindP (oPick v113 (.bool true) v117) fun v118 =>
 bindP (some v118) fun v119 =>
 bindP (guardP v119 false (some v14)) fun v120 =>
 bindP (guardP v119 false (some v20)) fun v121 =>
 bindC (guardC v119 false S (apart κ.toOracle 351 [v120, v121] S)) pnA fun v122 S =>
 bindP (guardP v119 false (oUn .not v122)) fun v123 =>
 bindP (oPick v119 (.bool true) v123) fun v124 =>
 ifA v124
 (bindP (oFill (plS [(0, 1), (1, 1), (2, 1), (3, 1), (4, 1), (5, 1)]) [.int .i64 0, .int .i64 0, .int .i64 0, .int .i64 0, .int .u8 0, .str []] []) fun v125 =>
 bindC (ok (oStore 6 S v10 v125)) pnA fun _ S =>
 bindP (some (.int .i64 12)) fun v11 =>
 (resA [(oLoad 6 true S v10), (some v11)]).map fun vs => (.ret (packV vs), S))
 (bindP (oLoad 6 true S v10) fun v126 =>
 bindC (ok (oStore 6 S v10 v126)) pnA fun _ S =>
 bindP (some (.int .i64 0)) fun v11 =>
 (resA [(oLoad 6 true S v10), (some v11)]).map fun vs => (.ret (packV vs), S)))) N [v11, v14, v15, v16] S)))
theorem e281 (N : Nat) (κ : Oracles) (v0 v1 v2 v3 v4 : AV) (S : St) : runF (Cs N) κ false 281 [v0, v1, v2, v3, v4] S = s281 N κ v0 v1 v2 v3 v4 S := by kernel_rfl
/- sacristan/slots.Encode -/
def s282 (N : Nat) (κ : Oracles) (v0 : AV) (S : St) : R :=
 bindC (oBox S v0) pnA fun v1 S =>
 bindP (some (.str [])) fun v2 =>
 bindP (some (.int .i64 0)) fun v3 =>
 bindP (oFieldAddr 0 1 v1) fun v6 =>
 bindP (oLoad 1 false S v6) fun v7 =>
 bindC (apart κ.toOracle 352 [v7, (.int .i64 1), (.int .i64 281474976710655)] S) pnA fun v8 S =>
 bindP (oUn .not v8) fun v9 =>
 bindP (some v9) fun v10 =>
 bindP (guardP v10 false (oFieldAddr 3 1 v1)) fun v11 =>
 bindP (guardP v10 false (oLoad 1 false S v11)) fun v12 =>
 bindC (guardC v10 false S (apart κ.toOracle 352 [v12, (.int .i64 1), (.int .i64 281474976710655)] S)) pnA fun v13 S =>
 bindP (guardP v10 false (oUn .not v13)) fun v14 =>
 bindP (oPick v10 (.bool true) v14) fun v15 =>
 bindP (some v15) fun v16 =>
 bindP (guardP v16 false (oFieldAddr 1 1 v1)) fun v17 =>
 bindP (guardP v16 false (oLoad 1 false S v17)) fun v18 =>
 bindC (guardC v16 false S (apart κ.toOracle 352 [v18, (.int .i64 1), (.int .i64 4294967295)] S)) pnA fun v19 S =>
 bindP (guardP v16 false (oUn .not v19)) fun v20 =>
 bindP (oPick v16 (.bool true) v20) fun v21 =>
 bindP (some v21) fun v22 =>
 bindP (guardP v22 false (oFieldAddr 2 1 v1)) fun v23 =>
 bindP (guardP v22 false (oLoad 1 false S v23)) fun v24 =>
 bindC (guardC v22 false S (apart κ.toOracle 352 [v24, (.int .i64 0), (.int .i64 1)] S)) pnA fun v25 S =>
 bindP (guardP v22 false (oUn .not v25)) fun v26 =>
 bindP (oPick v22 (.bool true) v26) fun v27 =>
 bindP (some v27) fun v28 =>
 bindP (guardP v28 false (oFieldAddr 4 1 v1)) fun v29 =>
 bindP (guardP v28 false (oLoad 1 false S v29)) fun v30 =>
 bindC (guardC v28 false S (apart κ.toOracle 352 [v30, (.int .i64 0), (.int .i64 65535)] S)) pnA fun v31 S =>
 bindP (guardP v28 false (oUn .not v31)) fun v32 =>
 bindP (oPick v28 (.bool true) v32) fun v33 =>
 ifA v33
 (bindP (some (.str [])) fun v2 =>
 bindP (some (.int .i64 2)) fun v3 =>
 some (.ret (.tup [v2, v3]), S))
 (bindP (oFieldAddr 0 1 v1) fun v34 =>
 bindP (oLoad 1 false S v34) fun v35 =>
 bindC (apart κ.toOracle 353 [v35, (.int .i64 6)] S) (fun _ _ => none) fun v36 S1 =>
 bindP (oFieldAddr 1 1 v1) fun v37 =>
 bindP (oLoad 1 false S1 v37) fun v38 =>
 bindC (apart κ.toOracle 353 [v38, (.int .i64 4)] S1) (fun _ _ => none) fun v39 S2 =>
 bindP (oArith .add v36 v39) fun v40 =>
 bindP (oFieldAddr 2 1 v1) fun v41 =>
 bindP (oLoad 1 false S2 v41) fun v42 =>
 bindC (apart κ.toOracle 353 [v42, (.int .i64 1)] S2) (fun _ _ => none) fun v43 S3 =>
 bindP (oArith .add v40 v43) fun v44 =>
 bindP (oFieldAddr 3 1 v1) fun v45 =>
 bindP (oLoad 1 false S3 v45) fun v46 =>
 bindC (apart κ.toOracle 353 [v46, (.int .i64 6)] S3) (fun _ _ => none) fun v47 S4 =>
 bindP (oArith .add v44 v47) fun v48 =>
 bindP (oFieldAddr 4 1 v1) fun v49 =>
 bindP (oLoad 1 false S4 v49) fun v50 =>
 bindC (apart κ.toOracle 353 [v50, (.int .i64 2)] S4) (fun _ _ => none) fun v51 S5 =>
 bindP (oArith .add v48 v51) fun v52 =>
 bindP (some v52) fun v4 =>
 bif true then
 (let S := S5;
 bindP (some v4) fun v53 =>
 bindP (some v4) fun v54 =>
 bindC (apart κ.toOracle 331 [v54] S) pnA fun v55 S =>
 bindP (cII .i64 v55) fun v56 =>
 bindC (apart κ.toOracle 353 [v56, (.int .i64 4)] S) pnA fun v57 S =>
 bindP (oArith .add v53 v57) fun v58 =>
 bindP (some v58) fun v5 =>
 bindP (some v5) fun v59 =>
 bindP (some v5) fun v60 =>
 bindP (oLen S .string v60) fun v61 =>
 bindP (oArith .sub (.int .i64 74) v61) fun v62 =>
 bindC (apart κ.toOracle 276 [(.str [0]), v62] S) (fun _ _ => none) fun v63 S6 =>
 bindP (oArith .add v59 v63) fun v64 =>
 bindP (some v4) fun v65 =>
 bindP (slT v65 none (some (.int .i64 6)) none) fun v66 =>
 bindP (oArith .add v64 v66) fun v67 =>
 bindP (some v67) fun v2 =>
 bindP (some (.int .i64 0)) fun v3 =>
 bif true then
 (let S := S6;
 some (.ret (.tup [v2, v3]), S))
 else none)
 else none)
theorem e282 (N : Nat) (κ : Oracles) (v0 : AV) (S : St) : runF (Cs N) κ false 282 [v0] S = s282 N κ v0 S := by kernel_rfl
/- sacristan/state.from -/
def s288 (N : Nat) (κ : Oracles) (v0 v1 v2 : AV) (S : St) : R :=
 bindP (some (.bool false)) fun v6 =>
 bindP (some v0) fun v7 =>
 bindP (some v1) fun v8 =>
 bindP (oArith .geq v7 v8) fun v9 =>
 bindP (some v9) fun v10 =>
 bindP (guardP v10 true (some v0)) fun v11 =>
 bindP (guardP v10 true (some v2)) fun v12 =>
 bindP (guardP v10 true (oArith .leq v11 v12)) fun v13 =>
 bindP (oPick v10 v13 (.bool false)) fun v14 =>
 bindP (some v14) fun v6 =>
 some (.ret v6, S)
theorem e288 (N : Nat) (κ : Oracles) (v0 v1 v2 : AV) (S : St) : runF (Cs N) κ false 288 [v0, v1, v2] S = s288 N κ v0 v1 v2 S := by kernel_rfl
/- sacristan/state.room -/
def s291 (N : Nat) (κ : Oracles) (v0 v1 v2 : AV) (S : St) : R :=
 bindC (oBox S v0) pnA fun v3 S =>
 bindC (oBox S v1) pnA fun v4 S =>
 bindC (oBox S v2) pnA fun v5 S =>
 bindP (some (.bool false)) fun v6 =>
 bindP (oLoad 3 true S v5) fun v12 =>
 bindC (oBS S 3 [.int .i64 0, .int .i64 0, .int .i64 0] 1 [(0, v12)]) pnA fun v13 S =>
 bindP (some v13) fun v7 =>
 bindP (oFieldAddr 4 1 v4) fun v14 =>
 bindP (oLoad 1 false S v14) fun v15 =>
 bindP (oLen S (.slice 58) v15) fun v16 =>
 bindP (some (.int .i64 0)) fun v17 =>
 loop1 (fun vals S1 k1 =>
 let S := gcHead false S.objs.length [] vals S1;
 let v7 := vals.getD 0 .junk;
 let v17 := vals.getD 1 .junk;
 bindP (oArith .lss v17 v16) fun v18 =>
 ifA v18
 (let j2 : List AV → St → R := (fun vals S =>
 let v7 := vals.getD 0 .junk;
 bindP (oArith .add v17 (.int .i64 1)) fun v30 =>
 bindP (some v30) fun v17 =>
 bif sameD [] [] then k1 [v7, v17] S else none);
 bindP (oIndexAddrS 10 v15 v17) fun v19 =>
 bindP (oLoad 10 true S v19) fun v20 =>
 bindC (oAl S [.int .i64 0, .int .i64 0, .int .i64 0, .int .i64 0, .lst .nil 0 [], .lst .nil 0 [], .int .i64 0, .int .i64 0, .bool false, .lst .nil 0 []]) pnA fun v9 S =>
 bindC (ok (oStore 10 S v9 v20)) pnA fun _ S =>
 bindP (oLoad 10 true S v9) fun v21 =>
 bindC (apart κ.toOracle 134 [v21] S) pnA fun v22 S =>
 bindP (oUn .not v22) fun v23 =>
 ifA v23
 (bindP (some v7) fun v24 =>
 bindP (oFieldAddr 0 6 v9) fun v25 =>
 bindP (oFieldAddr 1 3 v25) fun v26 =>
 bindP (oLoad 3 true S v26) fun v27 =>
 bindC (oBS S 3 [.int .i64 0, .int .i64 0, .int .i64 0] 1 [(0, v27)]) pnA fun v28 S =>
 bindC (oApp false 3 24 S v24 v28) pnA fun v29 S =>
 bindP (some v29) fun v7 =>
 bif sameD [] [] then Join j2 [v7] S else none)
 (bif sameD [] [] then Join j2 [v7] S else none))
 (bindP (some v7) fun v32 =>
 bindC (apart κ.toOracle 136 [v32] S) pnA fun v33 S =>
 bindP (some v33) fun v31 =>
 bindP (oExt v31 0) fun v34 =>
 bindP (oExt v31 1) fun v35 =>
 bindC (oAl S [.int .i64 0, .int .i64 0, .int .i64 0]) pnA fun v10 S =>
 bindC (ok (oStore 3 S v10 v34)) pnA fun _ S =>
 bindP (some v35) fun v11 =>
 bindP (some v11) fun v36 =>
 bindP (some v36) fun v37 =>
 bindP (guardP v37 true (oLoad 3 true S v10)) fun v38 =>
 bindP (guardP v37 true (oFieldAddr 0 3 v3)) fun v39 =>
 bindP (guardP v37 true (oLoad 3 true S v39)) fun v40 =>
 bindC (guardC v37 true S (apart κ.toOracle 137 [v38, v40] S)) pnA fun v41 S =>
 bindP (oPick v37 v41 (.bool false)) fun v42 =>
 bindP (some v42) fun v6 =>
 some (.ret v6, S))) N [v7, v17] S
theorem e291 (N : Nat) (κ : Oracles) (v0 v1 v2 : AV) (S : St) : runF (Cs N) κ false 291 [v0, v1, v2] S = s291 N κ v0 v1 v2 S := by kernel_rfl
/- sacristan/state.apart -/
def s292 (N : Nat) (κ : Oracles) (v0 : AV) (S : St) : R :=
 bindC (oBox S v0) pnA fun v1 S =>
 bindP (some (.bool false)) fun v2 =>
 bindP (some (.lst .nil 0 [])) fun v3 =>
 bindP (oFieldAddr 4 1 v1) fun v6 =>
 bindP (oLoad 1 false S v6) fun v7 =>
 bindP (oLen S (.slice 58) v7) fun v8 =>
 bindP (some (.int .i64 0)) fun v9 =>
 loop1 (fun vals S1 k1 =>
 let S := gcHead false S.objs.length [] vals S1;
 let v2 := vals.getD 0 .junk;
 let v3 := vals.getD 1 .junk;
 let v9 := vals.getD 2 .junk;
 bindP (oArith .lss v9 v8) fun v10 =>
 ifA v10
 (let j2 : List AV → St → R := (fun vals S =>
 let v2 := vals.getD 0 .junk;
 let v3 := vals.getD 1 .junk;
 bindP (oArith .add v9 (.int .i64 1)) fun v28 =>
 bindP (some v28) fun v9 =>
 bif sameD [] [] then k1 [v2, v3, v9] S else none);
 bindP (oIndexAddrS 10 v7 v9) fun v11 =>
 bindP (oLoad 10 true S v11) fun v12 =>
 bindC (oAl S [.int .i64 0, .int .i64 0, .int .i64 0, .int .i64 0, .lst .nil 0 [], .lst .nil 0 [], .int .i64 0, .int .i64 0, .bool false, .lst .nil 0 []]) pnA fun v5 S =>
 bindC (ok (oStore 10 S v5 v12)) pnA fun _ S =>
 bindP (oLoad 10 true S v5) fun v13 =>
 bindC (apart κ.toOracle 134 [v13] S) pnA fun v14 S =>
 ifA v14
 (bif sameD [] [] then Join j2 [v2, v3] S else none)
 (bindP (some v3) fun v15 =>
 bindP (oFieldAddr 0 6 v5) fun v16 =>
 bindP (oFieldAddr 4 1 v16) fun v17 =>
 bindP (oLoad 1 false S v17) fun v18 =>
 bindC (apart κ.toOracle 135 [v15, v18] S) pnA fun v19 S =>
 bindP (oLen S (.slice 3) v19) fun v20 =>
 bindP (oArith .gtr v20 (.int .i64 0)) fun v21 =>
 ifA v21
 (bindP (some (.bool false)) fun v2 =>
 some (.ret v2, S))
 (bindP (some v3) fun v22 =>
 bindP (oFieldAddr 0 6 v5) fun v23 =>
 bindP (oFieldAddr 4 1 v23) fun v24 =>
 bindP (oLoad 1 false S v24) fun v25 =>
 bindC (oBS S 1 [.lst .nil 0 []] 2 [(0, v22), (1, v25)]) pnA fun v26 S =>
 bindC (apart κ.toOracle 363 [v26] S) pnA fun v27 S =>
 bindP (some v27) fun v3 =>
 bif sameD [] [] then Join j2 [v2, v3] S else none)))
 (bindP (some (.bool true)) fun v2 =>
 some (.ret v2, S))) N [v2, v3, v9] S
theorem e292 (N : Nat) (κ : Oracles) (v0 : AV) (S : St) : runF (Cs N) κ false 292 [v0] S = s292 N κ v0 S := by kernel_rfl
/- slices.Backward[[]sacristan/disk.write,sacristan/disk.write]$1 -/
def s303 (N : Nat) (κ : Oracles) (v0 v1 : AV) (S : St) : R :=
 bindP (oLoad 1 false S v1) fun v4 =>
 bindP (oLen S (.slice 254) v4) fun v5 =>
 bindP (oArith .sub v5 (.int .i64 1)) fun v6 =>
 bindP (some v6) fun v3 =>
 loop1 (fun vals S1 k1 =>
 let S := gcHead false S.objs.length [] vals S1;
 let v3 := vals.getD 0 .junk;
 bindP (some v3) fun v7 =>
 bindP (oArith .geq v7 (.int .i64 0)) fun v8 =>
 ifA v8
 (bindP (some v0) fun v11 =>
 bindP (some v3) fun v12 =>
 bindP (oLoad 1 false S v1) fun v13 =>
 bindP (some v3) fun v14 =>
 bindP (oIndexAddrS 2 v13 v14) fun v15 =>
 bindP (oLoad 2 true S v15) fun v16 =>
 bindC (callD κ.toOracle 303 v11 [v12, v16] S) pnA fun v17 S =>
 bindP (oUn .not v17) fun v18 =>
 ifA v18
 (some (.ret (.tup []), S))
 (bindP (some v3) fun v9 =>
 bindP (oArith .sub v9 (.int .i64 1)) fun v10 =>
 bindP (some v10) fun v3 =>
 bif sameD [] [] then k1 [v3] S else none))
 (some (.ret (.tup []), S))) N [v3] S
theorem e303 (N : Nat) (κ : Oracles) (v0 v1 : AV) (S : St) : runF (Cs N) κ false 303 [v0, v1] S = s303 N κ v0 v1 S := by kernel_rfl
/- sacristan/lease.ask -/
def s304 (N : Nat) (κ : Oracles) (v0 v1 v2 v3 : AV) (S : St) : R :=
 bindC (oBox S v1) pnA fun v5 S =>
 bindP (some (.bool false)) fun v8 =>
 bindP (some (.int .i64 0)) fun v9 =>
 bindP (oLoad 11 true S v5) fun v11 =>
 bindC (apart κ.toOracle 31 [v11] S) pnA fun v12 S =>
 bindP (some v12) fun v10 =>
 bindP (some v10) fun v13 =>
 bindP (bN (eG (some [.i]) false false false v13 (.int .i64 0))) fun v14 =>
 ifA v14
 (bindP (some v10) fun v15 =>
 bindP (some (.bool false)) fun v8 =>
 bindP (some v15) fun v9 =>
 some (.ret (.tup [v8, v9]), S))
 (bindP (some v2) fun v16 =>
 bindP (oArith .lss v16 (.int .i64 (-1))) fun v17 =>
 bindP (some v17) fun v18 =>
 bindP (guardP v18 false (some v2)) fun v19 =>
 bindP (guardP v18 false (oArith .gtr v19 (.int .i64 1099511627776))) fun v20 =>
 bindP (oPick v18 (.bool true) v20) fun v21 =>
 bindP (some v21) fun v22 =>
 bindP (guardP v22 false (some v3)) fun v23 =>
 bindP (guardP v22 false (oArith .lss v23 (.int .i64 0))) fun v24 =>
 bindP (oPick v22 (.bool true) v24) fun v25 =>
 bindP (some v25) fun v26 =>
 bindP (guardP v26 false (some v3)) fun v27 =>
 bindP (guardP v26 false (oArith .gtr v27 (.int .i64 1099511627776))) fun v28 =>
 bindP (oPick v26 (.bool true) v28) fun v29 =>
 ifA v29
 (bindP (some (.bool false)) fun v8 =>
 bindP (some (.int .i64 3)) fun v9 =>
 some (.ret (.tup [v8, v9]), S))
 (bindP (some v0) fun v30 =>
 bindP (oLoad 11 true S v5) fun v31 =>
 bindP (some v3) fun v32 =>
 bindP (oFill (plS [(0, 11), (11, 1)]) [.int .i64 0, .int .i64 0, .int .i64 0, .int .i64 0, .int .i64 0, .int .i64 0, .int .i64 0, .int .i64 0, .int .i64 0, .int .i64 0, .int .i64 0, .int .i64 0] [(0, v31), (1, v32)]) fun v33 =>
 bindP (some v2) fun v34 =>
 bindC (callD κ.toOracle 304 v30 [v33, v34] S) pnA fun v35 S =>
 bindP (some v35) fun v8 =>
 bindP (some (.int .i64 0)) fun v9 =>
 some (.ret (.tup [v8, v9]), S)))
theorem e304 (N : Nat) (κ : Oracles) (v0 v1 v2 v3 : AV) (S : St) : runF (Cs N) κ false 304 [v0, v1, v2, v3] S = s304 N κ v0 v1 v2 v3 S := by kernel_rfl
/- (sacristan/lease.node).fenced -/
def s305 (N : Nat) (κ : Oracles) (v0 v1 : AV) (S : St) : R :=
 bindC (oBox S v0) pnA fun v2 S =>
 bindP (some (.bool false)) fun v4 =>
 bindP (some v1) fun v5 =>
 bindP (oArith .lss v5 (.int .i64 0)) fun v6 =>
 bindP (some v6) fun v7 =>
 bindP (guardP v7 false (oFieldAddr 11 1 v2)) fun v8 =>
 bindP (guardP v7 false (oLoad 1 false S v8)) fun v9 =>
 bindP (guardP v7 false (some v1)) fun v10 =>
 bindP (guardP v7 false (oFieldAddr 0 11 v2)) fun v11 =>
 bindP (guardP v7 false (oFieldAddr 8 1 v11)) fun v12 =>
 bindP (guardP v7 false (oLoad 1 false S v12)) fun v13 =>
 bindP (guardP v7 false (oArith .add v10 v13)) fun v14 =>
 bindP (guardP v7 false (oFieldAddr 0 11 v2)) fun v15 =>
 bindP (guardP v7 false (oFieldAddr 9 1 v15)) fun v16 =>
 bindP (guardP v7 false (oLoad 1 false S v16)) fun v17 =>
 bindP (guardP v7 false (oArith .add v14 v17)) fun v18 =>
 bindP (guardP v7 false (oArith .gtr v9 v18)) fun v19 =>
 bindP (oPick v7 (.bool true) v19) fun v20 =>
 bindP (some v20) fun v4 =>
 some (.ret v4, S)
theorem e305 (N : Nat) (κ : Oracles) (v0 v1 : AV) (S : St) : runF (Cs N) κ false 305 [v0, v1] S = s305 N κ v0 v1 S := by kernel_rfl
/- sacristan/crc.Sum -/
def s331 (N : Nat) (κ : Oracles) (v0 : AV) (S : St) : R :=
 bindP (some (.int .u32 0)) fun v2 =>
 bindP (some v0) fun v3 =>
 bindC (apart κ.toOracle 398 [(.int .u32 0), v3] S) pnA fun v4 S =>
 bindP (some v4) fun v2 =>
 some (.ret v2, S)
theorem e331 (N : Nat) (κ : Oracles) (v0 : AV) (S : St) : runF (Cs N) κ false 331 [v0] S = s331 N κ v0 S := by kernel_rfl
/- sacristan/slots.number -/
def s348 (N : Nat) (κ : Oracles) (v0 : AV) (S : St) : R :=
 bindP (some (.int .i64 0)) fun v2 =>
 bindP (some v0) fun v6 =>
 bindC (apart κ.toOracle 405 [v6] S) pnA fun v7 S =>
 bindP (some v7) fun v5 =>
 bindP (oExt v5 0) fun v8 =>
 bindP (oExt v5 1) fun v9 =>
 bindP (some v8) fun v3 =>
 bindP (some v9) fun v4 =>
 bindP (some v3) fun v10 =>
 bindP (cII .i64 v10) fun v11 =>
 bindP (some v11) fun v2 =>
 some (.ret v2, S)
theorem e348 (N : Nat) (κ : Oracles) (v0 : AV) (S : St) : runF (Cs N) κ false 348 [v0] S = s348 N κ v0 S := by kernel_rfl
/- sacristan/frame.Decode -/
def s349 (N : Nat) (κ : Oracles) (v0 : AV) (S : St) : R :=
 bindC (oAl S [.int .i64 0, .int .i64 0, .int .i64 0, .int .i64 0, .int .u8 0, .str []]) pnA fun v2 S =>
 bindP (some (.int .i64 0)) fun v3 =>
 bindP (some v0) fun v8 =>
 bindP (oLen S .string v8) fun v9 =>
 bindP (bN (eG (some [.i]) false false false v9 (.int .i64 80))) fun v10 =>
 ifA v10
 (bindP (oFill (plS [(0, 1), (1, 1), (2, 1), (3, 1), (4, 1), (5, 1)]) [.int .i64 0, .int .i64 0, .int .i64 0, .int .i64 0, .int .u8 0, .str []] []) fun v53 =>
 bindC (ok (oStore 6 S v2 v53)) pnA fun _ S =>
 bindP (some (.int .i64 12)) fun v3 =>
 (resA [(oLoad 6 true S v2), (some v3)]).map fun vs => (.ret (packV vs), S))
 (bindP (some v0) fun v11 =>
 bindP (some (.func 406 [v11] [])) fun v12 =>
 bindP (some v12) fun v4 =>
 bindP (some v4) fun v13 =>
 bindC (callD κ.toOracle 349 v13 [(.int .i64 13), (.int .i64 14)] S) pnA fun v14 S =>
 bindP (some v14) fun v5 =>
 bindP (some v5) fun v16 =>
 bindP (oArith .gtr v16 (.int .i64 44)) fun v17 =>
 bindP (some v17) fun v15 =>
 ifA v15
 (bindP (oFill (plS [(0, 1), (1, 1), (2, 1), (3, 1), (4, 1), (5, 1)]) [.int .i64 0, .int .i64 0, .int .i64 0, .int .i64 0, .int .u8 0, .str []] []) fun v53 =>
 bindC (ok (oStore 6 S v2 v53)) pnA fun _ S =>
 bindP (some (.int .i64 12)) fun v3 =>
 (resA [(oLoad 6 true S v2), (some v3)]).map fun vs => (.ret (packV vs), S))
 (bindP (some v0) fun v19 =>
 bindP (slT v19 none (some (.int .i64 11)) none) fun v20 =>
 bindP (some v0) fun v21 =>
 bindP (slT v21 (some (.int .i64 69)) none none) fun v22 =>
 bindP (bN (eG (some [.s]) false false false v20 v22)) fun v23 =>
 bindP (some v23) fun v18 =>
 bif true then
 (let S := S;
 ifA v18
 (bindP (oFill (plS [(0, 1), (1, 1), (2, 1), (3, 1), (4, 1), (5, 1)]) [.int .i64 0, .int .i64 0, .int .i64 0, .int .i64 0, .int .u8 0, .str []] []) fun v53 =>
 bindC (ok (oStore 6 S v2 v53)) pnA fun _ S =>
 bindP (some (.int .i64 12)) fun v3 =>
 (resA [(oLoad 6 true S v2), (some v3)]).map fun vs => (.ret (packV vs), S))
 (bindP (some v4) fun v24 =>
 bindC (callD κ.toOracle 349 v24 [(.int .i64 0), (.int .i64 4)] S) (fun v Sx => bif (true && true) && (rfA (some v4) fun v26 => (rfA (some v4) fun v28 => (rfA (some v4) fun v30 => (rfA (some v4) fun v32 => (rfA (some v0) fun v35 => (rfA (some v5) fun v36 => (rfA (oArith .add (.int .i64 18) v36) fun v37 => (rfA (slT v35 (some (.int .i64 18)) (some v37) none) fun v38 => true)))))))) then pnA v Sx else none) fun v25 S1 =>
 bindP (some v4) fun v26 =>
 bindC (callD κ.toOracle 349 v26 [(.int .i64 4), (.int .i64 10)] S1) (fun v Sx => bif (true && true) && (rfA (some v4) fun v28 => (rfA (some v4) fun v30 => (rfA (some v4) fun v32 => (rfA (some v0) fun v35 => (rfA (some v5) fun v36 => (rfA (oArith .add (.int .i64 18) v36) fun v37 => (rfA (slT v35 (some (.int .i64 18)) (some v37) none) fun v38 => true))))))) then pnA v Sx else none) fun v27 S2 =>
 bindP (some v4) fun v28 =>
 bindC (callD κ.toOracle 349 v28 [(.int .i64 10), (.int .i64 11)] S2) (fun v Sx => bif (true && true) && (rfA (some v4) fun v30 => (rfA (some v4) fun v32 => (rfA (some v0) fun v35 => (rfA (some v5) fun v36 => (rfA (oArith .add (.int .i64 18) v36) fun v37 => (rfA (slT v35 (some (.int .i64 18)) (some v37) none) fun v38 => true)))))) then pnA v Sx else none) fun v29 S3 =>
 bindP (some v4) fun v30 =>
 bindC (callD κ.toOracle 349 v30 [(.int .i64 11), (.int .i64 12)] S3) (fun v Sx => bif (true && true) && (rfA (some v4) fun v32 => (rfA (some v0) fun v35 => (rfA (some v5) fun v36 => (rfA (oArith .add (.int .i64 18) v36) fun v37 => (rfA (slT v35 (some (.int .i64 18)) (some v37) none) fun v38 => true))))) then pnA v Sx else none) fun v31 S4 =>
 bindP (some v4) fun v32 =>
 bindC (callD κ.toOracle 349 v32 [(.int .i64 12), (.int .i64 13)] S4) (fun v Sx => bif (true && true) && (rfA (some v0) fun v35 => (rfA (some v5) fun v36 => (rfA (oArith .add (.int .i64 18) v36) fun v37 => (rfA (slT v35 (some (.int .i64 18)) (some v37) none) fun v38 => true)))) then pnA v Sx else none) fun v33 S5 =>
 bindP (cII .u8 v33) fun v34 =>
 bindP (some v0) fun v35 =>
 bindP (some v5) fun v36 =>
 bindP (oArith .add (.int .i64 18) v36) fun v37 =>
 bindP (slT v35 (some (.int .i64 18)) (some v37) none) fun v38 =>
 bindP (oFill (plS [(0, 1), (1, 1), (2, 1), (3, 1), (4, 1), (5, 1)]) [.int .i64 0, .int .i64 0, .int .i64 0, .int .i64 0, .int .u8 0, .str []] [(0, v25), (1, v27), (2, v29), (3, v31), (4, v34), (5, v38)]) fun v39 =>
 bindC (ok (oStore 6 S5 v2 v39)) (fun v Sx => bif (true && true) && true then pnA v Sx else none) fun _ S6 =>
 bif true then
 (let S := S6;
 bindP (oLoad 6 true S v2) fun v41 =>
 bindC (apart κ.toOracle 407 [v41] S) pnA fun v42 S =>
 bindP (some v42) fun v40 =>
 bindP (oExt v40 0) fun v43 =>
 bindP (oExt v40 1) fun v44 =>
 bindP (some v43) fun v6 =>
 bindP (some v44) fun v7 =>
 bindP (some v7) fun v45 =>
 bindP (bN (eG (some [.i]) false false false v45 (.int .i64 0))) fun v46 =>
 bindP (some v46) fun v47 =>
 bindP (guardP v47 false (some v6)) fun v48 =>
 bindP (guardP v47 false (some v0)) fun v49 =>
 bindP (guardP v47 false (bN (eG (some [.s]) false false false v48 v49))) fun v50 =>
 bindP (oPick v47 (.bool true) v50) fun v51 =>
 ifA v51
 (bindP (oFill (plS [(0, 1), (1, 1), (2, 1), (3, 1), (4, 1), (5, 1)]) [.int .i64 0, .int .i64 0, .int .i64 0, .int .i64 0, .int .u8 0, .str []] []) fun v53 =>
 bindC (ok (oStore 6 S v2 v53)) pnA fun _ S =>
 bindP (some (.int .i64 12)) fun v3 =>
 (resA [(oLoad 6 true S v2), (some v3)]).map fun vs => (.ret (packV vs), S))
 (bindP (oLoad 6 true S v2) fun v52 =>
 bindC (ok (oStore 6 S v2 v52)) pnA fun _ S =>
 bindP (some (.int .i64 0)) fun v3 =>
 (resA [(oLoad 6 true S v2), (some v3)]).map fun vs => (.ret (packV vs), S)))
 else none))
 else none))
theorem e349 (N : Nat) (κ : Oracles) (v0 : AV) (S : St) : runF (Cs N) κ false 349 [v0] S = s349 N κ v0 S := by kernel_rfl
/- sacristan/slots.from -/
def s352 (N : Nat) (κ : Oracles) (v0 v1 v2 : AV) (S : St) : R :=
 bindP (some (.bool false)) fun v6 =>
 bindP (some v0) fun v7 =>
 bindP (some v1) fun v8 =>
 bindP (oArith .geq v7 v8) fun v9 =>
 bindP (some v9) fun v10 =>
 bindP (guardP v10 true (some v0)) fun v11 =>
 bindP (guardP v10 true (some v2)) fun v12 =>
 bindP (guardP v10 true (oArith .leq v11 v12)) fun v13 =>
 bindP (oPick v10 v13 (.bool false)) fun v14 =>
 bindP (some v14) fun v6 =>
 some (.ret v6, S)
theorem e352 (N : Nat) (κ : Oracles) (v0 v1 v2 : AV) (S : St) : runF (Cs N) κ false 352 [v0, v1, v2] S = s352 N κ v0 v1 v2 S := by kernel_rfl
/- sacristan/slots.fixed -/
def s353 (N : Nat) (κ : Oracles) (v0 v1 : AV) (S : St) : R :=
 bindP (some (.str [])) fun v4 =>
 bindP (some v0) fun v8 =>
 bindP (cII .u64 v8) fun v9 =>
 bindP (some v1) fun v10 =>
 bindC (apart κ.toOracle 397 [v9, v10] S) pnA fun v11 S =>
 bindP (some v11) fun v7 =>
 bindP (oExt v7 0) fun v12 =>
 bindP (oExt v7 1) fun v13 =>
 bindP (some v12) fun v5 =>
 bindP (some v13) fun v6 =>
 bindP (some v5) fun v14 =>
 bindP (some v14) fun v4 =>
 some (.ret v4, S)
theorem e353 (N : Nat) (κ : Oracles) (v0 v1 : AV) (S : St) : runF (Cs N) κ false 353 [v0, v1] S = s353 N κ v0 v1 S := by kernel_rfl
/- sacristan/pack.Fixed -/
def s397 (N : Nat) (κ : Oracles) (v0 v1 : AV) (S : St) : R :=
 bindP (some (.str [])) fun v4 =>
 bindP (some (.int .i64 0)) fun v5 =>
 bindP (some v1) fun v6 =>
 bindP (oArith .lss v6 (.int .i64 1)) fun v7 =>
 bindP (some v7) fun v8 =>
 bindP (guardP v8 false (some v1)) fun v9 =>
 bindP (guardP v8 false (oArith .gtr v9 (.int .i64 8))) fun v10 =>
 bindP (oPick v8 (.bool true) v10) fun v11 =>
 ifA v11
 (bindP (some (.str [])) fun v4 =>
 bindP (some (.int .i64 2)) fun v5 =>
 some (.ret (.tup [v4, v5]), S))
 (bindP (some v0) fun v12 =>
 bindC (apart κ.toOracle 207 [v12] S) pnA fun v13 S =>
 bindP (some v1) fun v14 =>
 bindP (oArith .gtr v13 v14) fun v15 =>
 ifA v15
 (bindP (some (.str [])) fun v4 =>
 bindP (some (.int .i64 3)) fun v5 =>
 some (.ret (.tup [v4, v5]), S))
 (bindP (some v0) fun v16 =>
 bindP (some v1) fun v17 =>
 bindC (apart κ.toOracle 208 [v16, v17] S) pnA fun v18 S =>
 bindP (some v18) fun v4 =>
 bindP (some (.int .i64 0)) fun v5 =>
 some (.ret (.tup [v4, v5]), S)))
theorem e397 (N : Nat) (κ : Oracles) (v0 v1 : AV) (S : St) : runF (Cs N) κ false 397 [v0, v1] S = s397 N κ v0 v1 S := by kernel_rfl
/- sacristan/crc.More -/
def s398 (N : Nat) (κ : Oracles) (v0 v1 : AV) (S : St) : R :=
 bindP (some (.int .u32 0)) fun v4 =>
 bindP (some v0) fun v9 =>
 bindP (oUn .xor v9) fun v10 =>
 bindC (oAl S [.int .u32 0]) pnA fun v5 S =>
 bindC (ok (oStore 1 S v5 v10)) pnA fun _ S =>
 bindP (some (.func 441 [] [v5])) fun v11 =>
 bindP (some v11) fun v6 =>
 bindP (some v1) fun v12 =>
 bindP (oLen S .string v12) fun v13 =>
 bindP (some (.int .i64 0)) fun v14 =>
 loop1 (fun vals S1 k1 =>
 let S := gcHead false S.objs.length [] vals S1;
 let v14 := vals.getD 0 .junk;
 bindP (oArith .lss v14 v13) fun v15 =>
 ifA v15
 (bindP (some v14) fun v16 =>
 bindP (some v16) fun v7 =>
 bindP (some (.int .i64 0)) fun v17 =>
 loop1 (fun vals S1 k2 =>
 let S := gcHead false S.objs.length [] vals S1;
 let v17 := vals.getD 0 .junk;
 bindP (oArith .lss v17 (.int .i64 8)) fun v18 =>
 ifA v18
 (bindP (some v17) fun v19 =>
 bindP (some v19) fun v8 =>
 bindP (some v6) fun v20 =>
 bindP (some v1) fun v21 =>
 bindP (some v7) fun v22 =>
 bindP (oIndexStr v21 v22) fun v23 =>
 bindP (cII .u32 v23) fun v24 =>
 bindP (some v8) fun v25 =>
 bindP (oShiftV .shr v24 v25) fun v26 =>
 bindP (oArith .and v26 (.int .u32 1)) fun v27 =>
 bindC (callD κ.toOracle 398 v20 [v27] S) pnA fun v28 S =>
 bindP (oArith .add v17 (.int .i64 1)) fun v29 =>
 bindP (some v29) fun v17 =>
 bif sameD [] [] then k2 [v17] S else none)
 (bindP (oArith .add v14 (.int .i64 1)) fun v30 =>
 bindP (some v30) fun v14 =>
 bif sameD [] [] then k1 [v14] S else none)) N [v17] S)
 (bindP (oLoad 1 false S v5) fun v31 =>
 bindP (oUn .xor v31) fun v32 =>
 bindP (some v32) fun v4 =>
 some (.ret v4, S))) N [v14] S
theorem e398 (N : Nat) (κ : Oracles) (v0 v1 : AV) (S : St) : runF (Cs N) κ false 398 [v0, v1] S = s398 N κ v0 v1 S := by kernel_rfl
/- sacristan/pack.Unfixed -/
def s405 (N : Nat) (κ : Oracles) (v0 : AV) (S : St) : R :=
 bindP (some (.int .u64 0)) fun v2 =>
 bindP (some (.int .i64 0)) fun v3 =>
 bindP (some v0) fun v4 =>
 bindP (oLen S .string v4) fun v5 =>
 bindP (oArith .lss v5 (.int .i64 1)) fun v6 =>
 bindP (some v6) fun v7 =>
 bindP (guardP v7 false (some v0)) fun v8 =>
 bindP (guardP v7 false (oLen S .string v8)) fun v9 =>
 bindP (guardP v7 false (oArith .gtr v9 (.int .i64 8))) fun v10 =>
 bindP (oPick v7 (.bool true) v10) fun v11 =>
 ifA v11
 (bindP (some (.int .u64 0)) fun v2 =>
 bindP (some (.int .i64 2)) fun v3 =>
 some (.ret (.tup [v2, v3]), S))
 (bindP (some v0) fun v12 =>
 bindC (apart κ.toOracle 275 [v12] S) pnA fun v13 S =>
 bindP (some v13) fun v2 =>
 bindP (some (.int .i64 0)) fun v3 =>
 some (.ret (.tup [v2, v3]), S))
theorem e405 (N : Nat) (κ : Oracles) (v0 : AV) (S : St) : runF (Cs N) κ false 405 [v0] S = s405 N κ v0 S := by kernel_rfl
/- (sacristan/frame.sector).number -/
def s406 (N : Nat) (κ : Oracles) (v0 v1 v2 : AV) (S : St) : R :=
 bindP (some (.int .i64 0)) fun v6 =>
 bindP (some v0) fun v10 =>
 bindP (some v1) fun v11 =>
 bindP (some v2) fun v12 =>
 bindP (slT v10 (some v11) (some v12) none) fun v13 =>
 bindC (apart κ.toOracle 405 [v13] S) pnA fun v14 S =>
 bindP (some v14) fun v9 =>
 bindP (oExt v9 0) fun v15 =>
 bindP (oExt v9 1) fun v16 =>
 bindP (some v15) fun v7 =>
 bindP (some v16) fun v8 =>
 bindP (some v7) fun v17 =>
 bindP (cII .i64 v17) fun v18 =>
 bindP (some v18) fun v6 =>
 some (.ret v6, S)
theorem e406 (N : Nat) (κ : Oracles) (v0 v1 v2 : AV) (S : St) : runF (Cs N) κ false 406 [v0, v1, v2] S = s406 N κ v0 v1 v2 S := by kernel_rfl
/- sacristan/frame.Encode -/
def s407 (N : Nat) (κ : Oracles) (v0 : AV) (S : St) : R :=
 bindC (oBox S v0) pnA fun v1 S =>
 bindP (some (.str [])) fun v2 =>
 bindP (some (.int .i64 0)) fun v3 =>
 bindP (oFieldAddr 5 1 v1) fun v6 =>
 bindP (oLoad 1 false S v6) fun v7 =>
 bindP (oLen S .string v7) fun v8 =>
 bindP (oArith .gtr v8 (.int .i64 44)) fun v9 =>
 ifA v9
 (bindP (some (.str [])) fun v2 =>
 bindP (some (.int .i64 5)) fun v3 =>
 some (.ret (.tup [v2, v3]), S))
 (bindP (oFieldAddr 0 1 v1) fun v10 =>
 bindP (oLoad 1 false S v10) fun v11 =>
 bindC (apart κ.toOracle 444 [v11, (.int .i64 1), (.int .i64 4294967295)] S) pnA fun v12 S =>
 bindP (oUn .not v12) fun v13 =>
 bindP (some v13) fun v14 =>
 bindP (guardP v14 false (oFieldAddr 1 1 v1)) fun v15 =>
 bindP (guardP v14 false (oLoad 1 false S v15)) fun v16 =>
 bindC (guardC v14 false S (apart κ.toOracle 444 [v16, (.int .i64 1), (.int .i64 281474976710655)] S)) pnA fun v17 S =>
 bindP (guardP v14 false (oUn .not v17)) fun v18 =>
 bindP (oPick v14 (.bool true) v18) fun v19 =>
 bindP (some v19) fun v20 =>
 bindP (guardP v20 false (oFieldAddr 3 1 v1)) fun v21 =>
 bindP (guardP v20 false (oLoad 1 false S v21)) fun v22 =>
 bindC (guardC v20 false S (apart κ.toOracle 444 [v22, (.int .i64 1), (.int .i64 255)] S)) pnA fun v23 S =>
 bindP (guardP v20 false (oUn .not v23)) fun v24 =>
 bindP (oPick v20 (.bool true) v24) fun v25 =>
 bindP (some v25) fun v26 =>
 bindP (guardP v26 false (oFieldAddr 2 1 v1)) fun v27 =>
 bindP (guardP v26 false (oLoad 1 false S v27)) fun v28 =>
 bindP (guardP v26 false (oFieldAddr 3 1 v1)) fun v29 =>
 bindP (guardP v26 false (oLoad 1 false S v29)) fun v30 =>
 bindP (guardP v26 false (oArith .sub v30 (.int .i64 1))) fun v31 =>
 bindC (guardC v26 false S (apart κ.toOracle 444 [v28, (.int .i64 0), v31] S)) pnA fun v32 S =>
 bindP (guardP v26 false (oUn .not v32)) fun v33 =>
 bindP (oPick v26 (.bool true) v33) fun v34 =>
 ifA v34
 (bindP (some (.str [])) fun v2 =>
 bindP (some (.int .i64 2)) fun v3 =>
 some (.ret (.tup [v2, v3]), S))
 (bindP (oFieldAddr 0 1 v1) fun v35 =>
 bindP (oLoad 1 false S v35) fun v36 =>
 bindC (apart κ.toOracle 445 [v36, (.int .i64 4)] S) (fun _ _ => none) fun v37 S1 =>
 bindP (oFieldAddr 1 1 v1) fun v38 =>
 bindP (oLoad 1 false S1 v38) fun v39 =>
 bindC (apart κ.toOracle 445 [v39, (.int .i64 6)] S1) (fun _ _ => none) fun v40 S2 =>
 bindP (oArith .add v37 v40) fun v41 =>
 bindP (oFieldAddr 2 1 v1) fun v42 =>
 bindP (oLoad 1 false S2 v42) fun v43 =>
 bindC (apart κ.toOracle 445 [v43, (.int .i64 1)] S2) (fun _ _ => none) fun v44 S3 =>
 bindP (oArith .add v41 v44) fun v45 =>
 bindP (oFieldAddr 3 1 v1) fun v46 =>
 bindP (oLoad 1 false S3 v46) fun v47 =>
 bindC (apart κ.toOracle 445 [v47, (.int .i64 1)] S3) (fun _ _ => none) fun v48 S4 =>
 bindP (oArith .add v45 v48) fun v49 =>
 bindP (oFieldAddr 4 1 v1) fun v50 =>
 bindP (oLoad 1 false S4 v50) fun v51 =>
 bindP (cII .i64 v51) fun v52 =>
 bindC (apart κ.toOracle 445 [v52, (.int .i64 1)] S4) (fun _ _ => none) fun v53 S5 =>
 bindP (oArith .add v49 v53) fun v54 =>
 bindP (oFieldAddr 5 1 v1) fun v55 =>
 bindP (oLoad 1 false S5 v55) fun v56 =>
 bindP (oLen S5 .string v56) fun v57 =>
 bindC (apart κ.toOracle 445 [v57, (.int .i64 1)] S5) (fun _ _ => none) fun v58 S6 =>
 bindP (oArith .add v54 v58) fun v59 =>
 bindP (some v59) fun v4 =>
 bif true then
 (let S := S6;
 bindP (some v4) fun v60 =>
 bindP (some v4) fun v61 =>
 bindP (oFieldAddr 5 1 v1) fun v62 =>
 bindP (oLoad 1 false S v62) fun v63 =>
 bindP (oArith .add v61 v63) fun v64 =>
 bindC (apart κ.toOracle 331 [v64] S) (fun _ _ => none) fun v65 S7 =>
 bindP (cII .i64 v65) fun v66 =>
 bindC (apart κ.toOracle 445 [v66, (.int .i64 4)] S7) (fun _ _ => none) fun v67 S8 =>
 bindP (oArith .add v60 v67) fun v68 =>
 bindP (oFieldAddr 5 1 v1) fun v69 =>
 bindP (oLoad 1 false S8 v69) fun v70 =>
 bindP (oArith .add v68 v70) fun v71 =>
 bindP (some v71) fun v5 =>
 bif true then
 (let S := S8;
 bindP (some v5) fun v72 =>
 bindP (some v5) fun v73 =>
 bindP (oLen S .string v73) fun v74 =>
 bindP (oArith .sub (.int .i64 69) v74) fun v75 =>
 bindC (apart κ.toOracle 276 [(.str [0]), v75] S) (fun _ _ => none) fun v76 S9 =>
 bindP (oArith .add v72 v76) fun v77 =>
 bindP (some v4) fun v78 =>
 bindP (slT v78 none (some (.int .i64 11)) none) fun v79 =>
 bindP (oArith .add v77 v79) fun v80 =>
 bindP (some v80) fun v2 =>
 bindP (some (.int .i64 0)) fun v3 =>
 bif true then
 (let S := S9;
 some (.ret (.tup [v2, v3]), S))
 else none)
 else none)
 else none))
theorem e407 (N : Nat) (κ : Oracles) (v0 : AV) (S : St) : runF (Cs N) κ false 407 [v0] S = s407 N κ v0 S := by kernel_rfl
/- sacristan/crc.More$1 -/
def s441 (N : Nat) (κ : Oracles) (v0 v1 : AV) (S : St) : R :=
 bindP (oLoad 1 false S v1) fun v4 =>
 bindP (oArith .and v4 (.int .u32 1)) fun v5 =>
 bindP (some v5) fun v3 =>
 bindP (oLoad 1 false S v1) fun v6 =>
 bindP (oShiftV .shr v6 (.int .u64 1)) fun v7 =>
 bindC (ok (oStore 1 S v1 v7)) pnA fun _ S =>
 bindP (some v3) fun v8 =>
 bindP (some v0) fun v9 =>
 bindP (bN (eG (some [.i]) false false false v8 v9)) fun v10 =>
 ifA v10
 (bindP (oLoad 1 false S v1) fun v11 =>
 bindP (oArith .xor v11 (.int .u32 3988292384)) fun v12 =>
 bindC (ok (oStore 1 S v1 v12)) pnA fun _ S =>
 some (.ret (.tup []), S))
 (some (.ret (.tup []), S))
theorem e441 (N : Nat) (κ : Oracles) (v0 v1 : AV) (S : St) : runF (Cs N) κ false 441 [v0, v1] S = s441 N κ v0 v1 S := by kernel_rfl
/- sacristan/frame.from -/
def s444 (N : Nat) (κ : Oracles) (v0 v1 v2 : AV) (S : St) : R :=
 bindP (some (.bool false)) fun v6 =>
 bindP (some v0) fun v7 =>
 bindP (some v1) fun v8 =>
 bindP (oArith .geq v7 v8) fun v9 =>
 bindP (some v9) fun v10 =>
 bindP (guardP v10 true (some v0)) fun v11 =>
 bindP (guardP v10 true (some v2)) fun v12 =>
 bindP (guardP v10 true (oArith .leq v11 v12)) fun v13 =>
 bindP (oPick v10 v13 (.bool false)) fun v14 =>
 bindP (some v14) fun v6 =>
 some (.ret v6, S)
theorem e444 (N : Nat) (κ : Oracles) (v0 v1 v2 : AV) (S : St) : runF (Cs N) κ false 444 [v0, v1, v2] S = s444 N κ v0 v1 v2 S := by kernel_rfl
end Go.Sac
