/- Direct forms, printed by mksh.py. -/
import Derived.Test.YtippafigppeblaaGreatSacCfg
import Derived.KernelRfl
namespace Go.Sac
set_option linter.unusedVariables false
set_option maxRecDepth 100000
open Go
/- (sacristan/frame.sector).number -/
def s406 (N : Nat) (κ : Oracles) (v0 v1 v2 : AV) (S : St) : R :=
 bindP (slT v0 (some v1) (some v2) none) fun x1 =>
 bindC (apart κ.toOracle 405 [x1] S) pnA fun x2 S =>
 bindP (oExt x2 0) fun x3 =>
 bindP (oExt x2 1) fun x4 =>
 bindP (cII .i64 x3) fun x5 =>
 some (.ret x5, S)
theorem e406 (N : Nat) (κ : Oracles) (v0 v1 v2 : AV) (S : St) : runF (Cs N) κ false 406 [v0, v1, v2] S = s406 N κ v0 v1 v2 S := by kernel_rfl
/- sacristan/frame.Encode -/
def s407 (N : Nat) (κ : Oracles) (v0 : AV) (S : St) : R :=
 bindC (oBox S v0) pnA fun x1 S =>
 bindP (oFieldAddr 5 1 x1) fun x2 =>
 bindP (oLoad 1 false S x2) fun x3 =>
 bindP (oLen S .string x3) fun x4 =>
 bindP (oArith .gtr x4 (.int .i64 44)) fun x5 =>
 ifA x5
 (some (.ret (.tup [(.str []), (.int .i64 5)]), S))
 (bindP (oFieldAddr 0 1 x1) fun x6 =>
 bindP (oLoad 1 false S x6) fun x7 =>
 bindC (apart κ.toOracle 444 [x7, (.int .i64 1), (.int .i64 4294967295)] S) pnA fun x8 S =>
 bindP (oUn .not x8) fun x9 =>
 bindP (guardP x9 false (oFieldAddr 1 1 x1)) fun x10 =>
 bindP (guardP x9 false (oLoad 1 false S x10)) fun x11 =>
 bindC (guardC x9 false S (apart κ.toOracle 444 [x11, (.int .i64 1), (.int .i64 281474976710655)] S)) pnA fun x12 S =>
 bindP (guardP x9 false (oUn .not x12)) fun x13 =>
 bindP (oPick x9 (.bool true) x13) fun x14 =>
 bindP (guardP x14 false (oFieldAddr 3 1 x1)) fun x15 =>
 bindP (guardP x14 false (oLoad 1 false S x15)) fun x16 =>
 bindC (guardC x14 false S (apart κ.toOracle 444 [x16, (.int .i64 1), (.int .i64 255)] S)) pnA fun x17 S =>
 bindP (guardP x14 false (oUn .not x17)) fun x18 =>
 bindP (oPick x14 (.bool true) x18) fun x19 =>
 bindP (guardP x19 false (oFieldAddr 2 1 x1)) fun x20 =>
 bindP (guardP x19 false (oLoad 1 false S x20)) fun x21 =>
 bindP (guardP x19 false (oFieldAddr 3 1 x1)) fun x22 =>
 bindP (guardP x19 false (oLoad 1 false S x22)) fun x23 =>
 bindP (guardP x19 false (oArith .sub x23 (.int .i64 1))) fun x24 =>
 bindC (guardC x19 false S (apart κ.toOracle 444 [x21, (.int .i64 0), x24] S)) pnA fun x25 S =>
 bindP (guardP x19 false (oUn .not x25)) fun x26 =>
 bindP (oPick x19 (.bool true) x26) fun x27 =>
 ifA x27
 (some (.ret (.tup [(.str []), (.int .i64 2)]), S))
 (bindP (oFieldAddr 0 1 x1) fun x28 =>
 bindP (oLoad 1 false S x28) fun x29 =>
 bindC (apart κ.toOracle 445 [x29, (.int .i64 4)] S) (fun _ _ => none) fun x30 S31 =>
 bindP (oFieldAddr 1 1 x1) fun x32 =>
 bindP (oLoad 1 false S31 x32) fun x33 =>
 bindC (apart κ.toOracle 445 [x33, (.int .i64 6)] S31) (fun _ _ => none) fun x34 S35 =>
 bindP (oArith .add x30 x34) fun x36 =>
 bindP (oFieldAddr 2 1 x1) fun x37 =>
 bindP (oLoad 1 false S35 x37) fun x38 =>
 bindC (apart κ.toOracle 445 [x38, (.int .i64 1)] S35) (fun _ _ => none) fun x39 S40 =>
 bindP (oArith .add x36 x39) fun x41 =>
 bindP (oFieldAddr 3 1 x1) fun x42 =>
 bindP (oLoad 1 false S40 x42) fun x43 =>
 bindC (apart κ.toOracle 445 [x43, (.int .i64 1)] S40) (fun _ _ => none) fun x44 S45 =>
 bindP (oArith .add x41 x44) fun x46 =>
 bindP (oFieldAddr 4 1 x1) fun x47 =>
 bindP (oLoad 1 false S45 x47) fun x48 =>
 bindP (cII .i64 x48) fun x49 =>
 bindC (apart κ.toOracle 445 [x49, (.int .i64 1)] S45) (fun _ _ => none) fun x50 S51 =>
 bindP (oArith .add x46 x50) fun x52 =>
 bindP (oFieldAddr 5 1 x1) fun x53 =>
 bindP (oLoad 1 false S51 x53) fun x54 =>
 bindP (oLen S51 .string x54) fun x55 =>
 bindC (apart κ.toOracle 445 [x55, (.int .i64 1)] S51) (fun _ _ => none) fun x56 S57 =>
 bindP (oArith .add x52 x56) fun x58 =>
 bif true then
 (let S := S57;
 bindP (oFieldAddr 5 1 x1) fun x59 =>
 bindP (oLoad 1 false S x59) fun x60 =>
 bindP (oArith .add x58 x60) fun x61 =>
 bindC (apart κ.toOracle 331 [x61] S) (fun _ _ => none) fun x62 S63 =>
 bindP (cII .i64 x62) fun x64 =>
 bindC (apart κ.toOracle 445 [x64, (.int .i64 4)] S63) (fun _ _ => none) fun x65 S66 =>
 bindP (oArith .add x58 x65) fun x67 =>
 bindP (oFieldAddr 5 1 x1) fun x68 =>
 bindP (oLoad 1 false S66 x68) fun x69 =>
 bindP (oArith .add x67 x69) fun x70 =>
 bif true then
 (let S := S66;
 bindP (oLen S .string x70) fun x71 =>
 bindP (oArith .sub (.int .i64 69) x71) fun x72 =>
 bindC (apart κ.toOracle 276 [(.str [0]), x72] S) (fun _ _ => none) fun x73 S74 =>
 bindP (oArith .add x70 x73) fun x75 =>
 bindP (slT x58 none (some (.int .i64 11)) none) fun x76 =>
 bindP (oArith .add x75 x76) fun x77 =>
 bif true then
 (let S := S74;
 some (.ret (.tup [x77, (.int .i64 0)]), S))
 else none)
 else none)
 else none))
theorem e407 (N : Nat) (κ : Oracles) (v0 : AV) (S : St) : runF (Cs N) κ false 407 [v0] S = s407 N κ v0 S := by kernel_rfl
/- sacristan/record.pieces -/
def s408 (N : Nat) (κ : Oracles) (v0 : AV) (S : St) : R :=
 bindC (oBox S v0) pnA fun x1 S =>
 bindP (some (.func 446 [] [x1])) fun x2 =>
 some (.ret x2, S)
theorem e408 (N : Nat) (κ : Oracles) (v0 : AV) (S : St) : runF (Cs N) κ false 408 [v0] S = s408 N κ v0 S := by kernel_rfl
/- sacristan/task.in -/
def s409 (N : Nat) (κ : Oracles) (v0 v1 v2 : AV) (S : St) : R :=
 bindP (oArith .geq v0 v1) fun x1 =>
 bindP (guardP x1 true (some v0)) fun x2 =>
 bindP (guardP x1 true (some v2)) fun x3 =>
 bindP (guardP x1 true (oArith .leq x2 x3)) fun x4 =>
 bindP (oPick x1 x4 (.bool false)) fun x5 =>
 some (.ret x5, S)
theorem e409 (N : Nat) (κ : Oracles) (v0 v1 v2 : AV) (S : St) : runF (Cs N) κ false 409 [v0, v1, v2] S = s409 N κ v0 v1 v2 S := by kernel_rfl
/- sacristan/task.only -/
def s410 (N : Nat) (κ : Oracles) (v0 v1 v2 : AV) (S : St) : R :=
 bindP (bE (eG (some [.i]) false false false v0 (.int .i64 0))) fun x1 =>
 bindP (guardP x1 false (some v2)) fun x2 =>
 bindP (guardP x1 false (some x2)) fun x3 =>
 bindP (guardP x3 true (some v0)) fun x4 =>
 bindP (guardP x3 true (some v1)) fun x5 =>
 bindC (guardC x3 true S (apart κ.toOracle 409 [x4, (.int .i64 0), x5] S)) pnA fun x6 S =>
 bindP (guardP x1 false (oPick x3 x6 (.bool false))) fun x7 =>
 bindP (oPick x1 (.bool true) x7) fun x8 =>
 some (.ret x8, S)
theorem e410 (N : Nat) (κ : Oracles) (v0 v1 v2 : AV) (S : St) : runF (Cs N) κ false 410 [v0, v1, v2] S = s410 N κ v0 v1 v2 S := by kernel_rfl
/- sacristan/task.ranged -/
def s413 (N : Nat) (κ : Oracles) (v0 : AV) (S : St) : R :=
 bindP (oUn .not v0) fun x1 =>
 ifA x1
 (some (.ret (.int .i64 3), S))
 (some (.ret (.int .i64 0), S))
theorem e413 (N : Nat) (κ : Oracles) (v0 : AV) (S : St) : runF (Cs N) κ false 413 [v0] S = s413 N κ v0 S := by kernel_rfl
/- sacristan/task.change[sacristan/task.start] -/
def s415 (N : Nat) (κ : Oracles) (v0 v1 v2 v3 : AV) (S : St) : R :=
 bindC (oBox S v0) pnA fun x1 S =>
 bindC (oBox S v1) pnA fun x2 S =>
 bindC (oAl S [.int .u8 0, .int .i64 0, .int .i64 0, .int .i64 0, .int .i64 0, .int .i64 0, .int .i64 0, .lst .nil 0 []]) pnA fun x3 S =>
 bindP (oLoad 8 true S x1) fun x4 =>
 bindC (apart κ.toOracle 362 [x4] S) pnA fun x5 S =>
 bindP (bN (eG (some [.i]) false false false x5 (.int .i64 0))) fun x6 =>
 ifA x6
 (bindP (oFill (plS [(0, 1), (1, 1), (2, 1), (3, 1), (4, 1), (5, 1), (6, 1), (7, 1)]) [.int .u8 0, .int .i64 0, .int .i64 0, .int .i64 0, .int .i64 0, .int .i64 0, .int .i64 0, .lst .nil 0 []] []) fun x7 =>
 bindC (ok (oStore 8 S x3 x7)) pnA fun _ S =>
 (resA [(oLoad 8 true S x3), (some x5)]).map fun vs => (.ret (packV vs), S))
 (bindP (oLoad 7 true S x2) fun x8 =>
 bindC (callD κ.toOracle 415 v2 [x8] S) pnA fun x9 S =>
 bindP (bN (eG (some [.i]) false false false x9 (.int .i64 0))) fun x10 =>
 ifA x10
 (bindP (oFill (plS [(0, 1), (1, 1), (2, 1), (3, 1), (4, 1), (5, 1), (6, 1), (7, 1)]) [.int .u8 0, .int .i64 0, .int .i64 0, .int .i64 0, .int .i64 0, .int .i64 0, .int .i64 0, .lst .nil 0 []] []) fun x11 =>
 bindC (ok (oStore 8 S x3 x11)) pnA fun _ S =>
 (resA [(oLoad 8 true S x3), (some x9)]).map fun vs => (.ret (packV vs), S))
 (bindP (oLoad 8 true S x1) fun x12 =>
 bindC (oAl S [.int .u8 0, .int .i64 0, .int .i64 0, .int .i64 0, .int .i64 0, .int .i64 0, .int .i64 0, .lst .nil 0 []]) pnA fun x13 S =>
 bindC (ok (oStore 8 S x13 x12)) pnA fun _ S =>
 bindP (oFieldAddr 7 1 x1) fun x14 =>
 bindP (oLoad 1 false S x14) fun x15 =>
 bindP (oLen S (.slice 3) x15) fun x16 =>
 bindC (okv (oMS true 1 8 [.int .i64 0] S x16 x16)) pnA fun x17 S =>
 bindP (oFieldAddr 7 1 x13) fun x18 =>
 bindC (ok (oStore 1 S x18 x17)) pnA fun _ S =>
 bindP (oFieldAddr 7 1 x13) fun x19 =>
 bindP (oLoad 1 false S x19) fun x20 =>
 bindP (oFieldAddr 7 1 x1) fun x21 =>
 bindP (oLoad 1 false S x21) fun x22 =>
 bindC (okv (oCopy 1 S x20 x22)) pnA fun x23 S =>
 bindP (oLoad 7 true S x2) fun x24 =>
 bindC (callD κ.toOracle 415 v3 [x13, x24] S) pnA fun x25 S =>
 bindP (bN (eG (some [.i]) false false false x25 (.int .i64 0))) fun x26 =>
 ifA x26
 (bindP (oFill (plS [(0, 1), (1, 1), (2, 1), (3, 1), (4, 1), (5, 1), (6, 1), (7, 1)]) [.int .u8 0, .int .i64 0, .int .i64 0, .int .i64 0, .int .i64 0, .int .i64 0, .int .i64 0, .lst .nil 0 []] []) fun x27 =>
 bindC (ok (oStore 8 S x3 x27)) pnA fun _ S =>
 (resA [(oLoad 8 true S x3), (some x25)]).map fun vs => (.ret (packV vs), S))
 (bindP (oLoad 8 true S x13) fun x28 =>
 bindC (ok (oStore 8 S x3 x28)) pnA fun _ S =>
 (resA [(oLoad 8 true S x3), (some (.int .i64 0))]).map fun vs => (.ret (packV vs), S))))
theorem e415 (N : Nat) (κ : Oracles) (v0 v1 v2 v3 : AV) (S : St) : runF (Cs N) κ false 415 [v0, v1, v2, v3] S = s415 N κ v0 v1 v2 v3 S := by kernel_rfl
/- sacristan/task.Intent$1 -/
def s416 (N : Nat) (κ : Oracles) (v0 : AV) (S : St) : R :=
 bindC (oBox S v0) pnA fun x1 S =>
 bindP (oFieldAddr 0 5 x1) fun x2 =>
 bindP (oLoad 5 true S x2) fun x3 =>
 bindC (apart κ.toOracle 138 [x3] S) pnA fun x4 S =>
 bindP (bN (eG (some [.i]) false false false x4 (.int .i64 0))) fun x5 =>
 ifA x5
 (some (.ret x4, S))
 (bindP (oFieldAddr 5 1 x1) fun x6 =>
 bindP (oLoad 1 false S x6) fun x7 =>
 bindC (apart κ.toOracle 409 [x7, (.int .i64 1), (.int .i64 1099511627776)] S) pnA fun x8 S =>
 bindP (guardP x8 true (oFieldAddr 6 1 x1)) fun x9 =>
 bindP (guardP x8 true (oLoad 1 false S x9)) fun x10 =>
 bindC (guardC x8 true S (apart κ.toOracle 409 [x10, (.int .i64 0), (.int .i64 1099511627776)] S)) pnA fun x11 S =>
 bindP (oPick x8 x11 (.bool false)) fun x12 =>
 bindC (apart κ.toOracle 413 [x12] S) pnA fun x13 S =>
 some (.ret x13, S))
theorem e416 (N : Nat) (κ : Oracles) (v0 : AV) (S : St) : runF (Cs N) κ false 416 [v0] S = s416 N κ v0 S := by kernel_rfl
/- sacristan/task.Intent$2 -/
def s417 (N : Nat) (κ : Oracles) (v0 v1 : AV) (S : St) : R :=
 bindC (oBox S v1) pnA fun x1 S =>
 bindP (oNilC v0) fun x2 =>
 bindP (oFieldAddr 0 1 x2) fun x3 =>
 bindP (oLoad 1 false S x3) fun x4 =>
 bindP (bN (eG (some [.i]) false false false x4 (.int .u8 0))) fun x5 =>
 bindP (guardP x5 true (some v0)) fun x6 =>
 bindP (guardP x5 true (oNilC x6)) fun x7 =>
 bindP (guardP x5 true (oFieldAddr 0 1 x7)) fun x8 =>
 bindP (guardP x5 true (oLoad 1 false S x8)) fun x9 =>
 bindP (guardP x5 true (bN (eG (some [.i]) false false false x9 (.int .u8 3)))) fun x10 =>
 bindP (guardP x5 true (some x10)) fun x11 =>
 bindP (guardP x11 false (oFieldAddr 6 1 x1)) fun x12 =>
 bindP (guardP x11 false (oLoad 1 false S x12)) fun x13 =>
 bindP (guardP x11 false (some v0)) fun x14 =>
 bindP (guardP x11 false (oNilC x14)) fun x15 =>
 bindP (guardP x11 false (oFieldAddr 4 1 x15)) fun x16 =>
 bindP (guardP x11 false (oLoad 1 false S x16)) fun x17 =>
 bindP (guardP x11 false (oArith .lss x13 x17)) fun x18 =>
 bindP (guardP x5 true (oPick x11 (.bool true) x18)) fun x19 =>
 bindP (oPick x5 x19 (.bool false)) fun x20 =>
 bif true then
 (let S := S;
 ifA x20
 (some (.ret (.int .i64 7), S))
 (bindP (oFieldAddr 5 1 x1) fun x21 =>
 bindP (oLoad 1 false S x21) fun x22 =>
 bindP (oNilC v0) fun x23 =>
 bindP (oFieldAddr 1 1 x23) fun x24 =>
 bindP (oLoad 1 false S x24) fun x25 =>
 bindP (oArith .leq x22 x25) fun x26 =>
 bindP (guardP x26 false (oFieldAddr 6 1 x1)) fun x27 =>
 bindP (guardP x26 false (oLoad 1 false S x27)) fun x28 =>
 bindP (guardP x26 false (some v0)) fun x29 =>
 bindC (guardC x26 false S (callN κ.toOracle 418 [x29] S)) (fun v Sx => bif (true && true) && true then pnA v Sx else none) fun x30 S31 =>
 bindP (guardP x26 false (oArith .lss x28 x30)) fun x32 =>
 bindP (oPick x26 (.bool true) x32) fun x33 =>
 bif (((false || (chkA (guardP x26 false (oLoad 1 false S x27)) x28 && chkA (guardP x26 false (oLoad 1 false S31 x27)) x28)) && true) && ((true && true) && ((true && true) && true))) then
 (let S := S31;
 ifA x33
 (some (.ret (.int .i64 13), S))
 (bindP (oNilC v0) fun x34 =>
 bindP (oFieldAddr 7 1 x34) fun x35 =>
 bindP (oLoad 1 false S x35) fun x36 =>
 bindP (oFieldAddr 0 5 x1) fun x37 =>
 bindP (oFieldAddr 2 1 x37) fun x38 =>
 bindP (oLoad 1 false S x38) fun x39 =>
 bindP (oFieldAddr 6 1 x1) fun x40 =>
 bindP (oLoad 1 false S x40) fun x41 =>
 bindC (callN κ.toOracle 419 [x36, x39, x41] S) (fun v Sx => bif (true && true) && true then pnA v Sx else none) fun x42 S43 =>
 bindP (oExt x42 0) fun x44 =>
 bindP (oExt x42 1) fun x45 =>
 bif true then
 (let S := S43;
 bindP (oLen S (.slice 3) x44) fun x46 =>
 bindP (oArith .sub x46 (.int .i64 7)) fun x47 =>
 bindP (maxmin true [(.int .i64 0), x47]) fun x48 =>
 bindP (slS 1 x44 (some x48) none none) fun x49 =>
 bindP (oFieldAddr 5 1 x1) fun x50 =>
 bindP (oLoad 1 false S x50) fun x51 =>
 bindP (oFieldAddr 6 1 x1) fun x52 =>
 bindP (oLoad 1 false S x52) fun x53 =>
 bindC (oBS S 1 [.int .i64 0] 1 [(0, x53)]) (fun _ _ => none) fun x54 S55 =>
 bindC (oApp false 1 8 S55 x49 x54) (fun v Sx => bif (true && true) && true then pnA v Sx else none) fun x56 S57 =>
 bindP (oNilC v0) fun x58 =>
 bindP (oFieldAddr 0 1 x58) fun x59 =>
 bindC (ok (oStore 1 S57 x59 (.int .u8 1))) (fun v Sx => bif (true && ((true && true) && (((false || (chkA (oLoad 1 false S55 x50) x51 && chkA (oLoad 1 false S57 x50) x51)) && true) && true))) && true then pnA v Sx else none) fun _ S60 =>
 bindP (oNilC v0) fun x61 =>
 bindP (oFieldAddr 1 1 x61) fun x62 =>
 bindC (ok (oStore 1 S60 x62 x51)) (fun v Sx => bif (true && ((true && (true && true)) && (((false || (chkA (oLoad 1 false S57 x50) x51 && chkA (oLoad 1 false S60 x50) x51)) && ((false || (chkA (oLoad 1 false S55 x50) x51 && chkA (oLoad 1 false S57 x50) x51)) && true)) && true))) && true then pnA v Sx else none) fun _ S63 =>
 bindP (oNilC v0) fun x64 =>
 bindP (oFieldAddr 4 1 x64) fun x65 =>
 bindC (ok (oStore 1 S63 x65 (.int .i64 0))) (fun v Sx => bif (true && ((true && (true && (true && true))) && ((true && ((false || (chkA (oLoad 1 false S57 x50) x51 && chkA (oLoad 1 false S60 x50) x51)) && ((false || (chkA (oLoad 1 false S55 x50) x51 && chkA (oLoad 1 false S57 x50) x51)) && true))) && true))) && true then pnA v Sx else none) fun _ S66 =>
 bindP (oNilC v0) fun x67 =>
 bindP (oFieldAddr 7 1 x67) fun x68 =>
 bindC (ok (oStore 1 S66 x68 x56)) (fun v Sx => bif (true && ((true && (true && (true && (true && true)))) && ((true && (true && ((false || (chkA (oLoad 1 false S57 x50) x51 && chkA (oLoad 1 false S60 x50) x51)) && ((false || (chkA (oLoad 1 false S55 x50) x51 && chkA (oLoad 1 false S57 x50) x51)) && true)))) && true))) && true then pnA v Sx else none) fun _ S69 =>
 bif ((true && (true && (true && (true && (true && true))))) && ((true && (true && (true && ((false || (chkA (oLoad 1 false S57 x50) x51 && chkA (oLoad 1 false S60 x50) x51)) && ((false || (chkA (oLoad 1 false S55 x50) x51 && chkA (oLoad 1 false S57 x50) x51)) && true))))) && true)) then
 (let S := S69;
 some (.ret (.int .i64 0), S))
 else none)
 else none))
 else none))
 else none
theorem e417 (N : Nat) (κ : Oracles) (v0 v1 : AV) (S : St) : runF (Cs N) κ false 417 [v0, v1] S = s417 N κ v0 v1 S := by kernel_rfl
/- sacristan/task.last -/
def s418 (N : Nat) (κ : Oracles) (v0 : AV) (S : St) : R :=
 bindP (oNilC v0) fun x1 =>
 bindP (oFieldAddr 7 1 x1) fun x2 =>
 bindP (oLoad 1 false S x2) fun x3 =>
 bindP (oLen S (.slice 3) x3) fun x4 =>
 bindP (bE (eG (some [.i]) false false false x4 (.int .i64 0))) fun x5 =>
 ifA x5
 (some (.ret (.int .i64 (-1)), S))
 (bindP (oNilC v0) fun x6 =>
 bindP (oFieldAddr 7 1 x6) fun x7 =>
 bindP (oLoad 1 false S x7) fun x8 =>
 bindP (oNilC v0) fun x9 =>
 bindP (oFieldAddr 7 1 x9) fun x10 =>
 bindP (oLoad 1 false S x10) fun x11 =>
 bindP (oLen S (.slice 3) x11) fun x12 =>
 bindP (oArith .sub x12 (.int .i64 1)) fun x13 =>
 bindP (oIndexAddrS 1 x8 x13) fun x14 =>
 bindP (oLoad 1 false S x14) fun x15 =>
 bif true then
 (let S := S;
 some (.ret x15, S))
 else none)
theorem e418 (N : Nat) (κ : Oracles) (v0 : AV) (S : St) : runF (Cs N) κ false 418 [v0] S = s418 N κ v0 S := by kernel_rfl
/- sacristan/window.Keep -/
def s419 (N : Nat) (κ : Oracles) (v0 v1 v2 : AV) (S : St) : R :=
 bindC (apart κ.toOracle 447 [v0, v1, v2] S) pnA fun x1 S =>
 bindP (bN (eG (some [.i]) false false false x1 (.int .i64 0))) fun x2 =>
 ifA x2
 (some (.ret (.tup [(.lst .nil 0 []), x1]), S))
 (bindP (oArith .sub v2 v1) fun x3 =>
 bindC (apart κ.toOracle 271 [v0, x3] S) pnA fun x4 S =>
 bindP (oLen S (.slice 3) v0) fun x5 =>
 bindP (oArith .sub x5 (.int .i64 1)) fun x6 =>
 bindP (maxmin false [x4, x6]) fun x7 =>
 bindP (maxmin true [x7, (.int .i64 0)]) fun x8 =>
 bindP (slS 1 v0 (some x8) none none) fun x9 =>
 bindC (oApp false 1 8 S (.lst .nil 0 []) x9) pnA fun x10 S =>
 bindP (oLen S (.slice 3) x10) fun x11 =>
 bindP (oLen S (.slice 3) x10) fun x12 =>
 bindP (slS 1 x10 none (some x11) (some x12)) fun x13 =>
 some (.ret (.tup [x13, (.int .i64 0)]), S))
theorem e419 (N : Nat) (κ : Oracles) (v0 v1 v2 : AV) (S : St) : runF (Cs N) κ false 419 [v0, v1, v2] S = s419 N κ v0 v1 v2 S := by kernel_rfl
/- sacristan/task.change[[2]int] -/
def s420 (N : Nat) (κ : Oracles) (v0 v1 v2 v3 : AV) (S : St) : R :=
 bindC (oBox S v0) pnA fun x1 S =>
 bindC (oBox S v1) pnA fun x2 S =>
 bindC (oAl S [.int .u8 0, .int .i64 0, .int .i64 0, .int .i64 0, .int .i64 0, .int .i64 0, .int .i64 0, .lst .nil 0 []]) pnA fun x3 S =>
 bindP (oLoad 8 true S x1) fun x4 =>
 bindC (apart κ.toOracle 362 [x4] S) pnA fun x5 S =>
 bindP (bN (eG (some [.i]) false false false x5 (.int .i64 0))) fun x6 =>
 ifA x6
 (bindP (oFill (plS [(0, 1), (1, 1), (2, 1), (3, 1), (4, 1), (5, 1), (6, 1), (7, 1)]) [.int .u8 0, .int .i64 0, .int .i64 0, .int .i64 0, .int .i64 0, .int .i64 0, .int .i64 0, .lst .nil 0 []] []) fun x7 =>
 bindC (ok (oStore 8 S x3 x7)) pnA fun _ S =>
 (resA [(oLoad 8 true S x3), (some x5)]).map fun vs => (.ret (packV vs), S))
 (bindP (oLoad 2 true S x2) fun x8 =>
 bindC (callD κ.toOracle 420 v2 [x8] S) pnA fun x9 S =>
 bindP (bN (eG (some [.i]) false false false x9 (.int .i64 0))) fun x10 =>
 ifA x10
 (bindP (oFill (plS [(0, 1), (1, 1), (2, 1), (3, 1), (4, 1), (5, 1), (6, 1), (7, 1)]) [.int .u8 0, .int .i64 0, .int .i64 0, .int .i64 0, .int .i64 0, .int .i64 0, .int .i64 0, .lst .nil 0 []] []) fun x11 =>
 bindC (ok (oStore 8 S x3 x11)) pnA fun _ S =>
 (resA [(oLoad 8 true S x3), (some x9)]).map fun vs => (.ret (packV vs), S))
 (bindP (oLoad 8 true S x1) fun x12 =>
 bindC (oAl S [.int .u8 0, .int .i64 0, .int .i64 0, .int .i64 0, .int .i64 0, .int .i64 0, .int .i64 0, .lst .nil 0 []]) pnA fun x13 S =>
 bindC (ok (oStore 8 S x13 x12)) pnA fun _ S =>
 bindP (oFieldAddr 7 1 x1) fun x14 =>
 bindP (oLoad 1 false S x14) fun x15 =>
 bindP (oLen S (.slice 3) x15) fun x16 =>
 bindC (okv (oMS true 1 8 [.int .i64 0] S x16 x16)) pnA fun x17 S =>
 bindP (oFieldAddr 7 1 x13) fun x18 =>
 bindC (ok (oStore 1 S x18 x17)) pnA fun _ S =>
 bindP (oFieldAddr 7 1 x13) fun x19 =>
 bindP (oLoad 1 false S x19) fun x20 =>
 bindP (oFieldAddr 7 1 x1) fun x21 =>
 bindP (oLoad 1 false S x21) fun x22 =>
 bindC (okv (oCopy 1 S x20 x22)) pnA fun x23 S =>
 bindP (oLoad 2 true S x2) fun x24 =>
 bindC (callD κ.toOracle 420 v3 [x13, x24] S) pnA fun x25 S =>
 bindP (bN (eG (some [.i]) false false false x25 (.int .i64 0))) fun x26 =>
 ifA x26
 (bindP (oFill (plS [(0, 1), (1, 1), (2, 1), (3, 1), (4, 1), (5, 1), (6, 1), (7, 1)]) [.int .u8 0, .int .i64 0, .int .i64 0, .int .i64 0, .int .i64 0, .int .i64 0, .int .i64 0, .lst .nil 0 []] []) fun x27 =>
 bindC (ok (oStore 8 S x3 x27)) pnA fun _ S =>
 (resA [(oLoad 8 true S x3), (some x25)]).map fun vs => (.ret (packV vs), S))
 (bindP (oLoad 8 true S x13) fun x28 =>
 bindC (ok (oStore 8 S x3 x28)) pnA fun _ S =>
 (resA [(oLoad 8 true S x3), (some (.int .i64 0))]).map fun vs => (.ret (packV vs), S))))
theorem e420 (N : Nat) (κ : Oracles) (v0 v1 v2 v3 : AV) (S : St) : runF (Cs N) κ false 420 [v0, v1, v2, v3] S = s420 N κ v0 v1 v2 v3 S := by kernel_rfl
/- sacristan/task.Handle$1 -/
def s421 (N : Nat) (κ : Oracles) (v0 : AV) (S : St) : R :=
 bindC (oBox S v0) pnA fun x1 S =>
 bindP (oIndexAddrA 2 1 x1 (.int .i64 0)) fun x2 =>
 bindP (oLoad 1 false S x2) fun x3 =>
 bindC (apart κ.toOracle 409 [x3, (.int .i64 0), (.int .i64 1099511627776)] S) pnA fun x4 S =>
 bindP (guardP x4 true (oIndexAddrA 2 1 x1 (.int .i64 1))) fun x5 =>
 bindP (guardP x4 true (oLoad 1 false S x5)) fun x6 =>
 bindC (guardC x4 true S (apart κ.toOracle 409 [x6, (.int .i64 0), (.int .i64 1099511627776)] S)) pnA fun x7 S =>
 bindP (oPick x4 x7 (.bool false)) fun x8 =>
 bindC (apart κ.toOracle 413 [x8] S) pnA fun x9 S =>
 some (.ret x9, S)
theorem e421 (N : Nat) (κ : Oracles) (v0 : AV) (S : St) : runF (Cs N) κ false 421 [v0] S = s421 N κ v0 S := by kernel_rfl
/- sacristan/task.Handle$2 -/
def s422 (N : Nat) (κ : Oracles) (v0 v1 : AV) (S : St) : R :=
 bindC (oBox S v1) pnA fun x1 S =>
 bindP (oNilC v0) fun x2 =>
 bindP (oFieldAddr 0 1 x2) fun x3 =>
 bindP (oLoad 1 false S x3) fun x4 =>
 bindP (bN (eG (some [.i]) false false false x4 (.int .u8 1))) fun x5 =>
 ifA x5
 (some (.ret (.int .i64 7), S))
 (bindP (oIndexAddrA 2 1 x1 (.int .i64 0)) fun x6 =>
 bindP (oLoad 1 false S x6) fun x7 =>
 bindP (oIndexAddrA 2 1 x1 (.int .i64 1)) fun x8 =>
 bindP (oLoad 1 false S x8) fun x9 =>
 bindP (oNilC v0) fun x10 =>
 bindP (oFieldAddr 0 1 x10) fun x11 =>
 bindC (ok (oStore 1 S x11 (.int .u8 2))) (fun v Sx => bif (true && true) && true then pnA v Sx else none) fun _ S12 =>
 bindP (oNilC v0) fun x13 =>
 bindP (oFieldAddr 2 1 x13) fun x14 =>
 bindC (ok (oStore 1 S12 x14 x7)) (fun v Sx => bif (true && (((false || (chkA (oLoad 1 false S x8) x9 && chkA (oLoad 1 false S12 x8) x9)) && true) && (((false || (chkA (oLoad 1 false S x6) x7 && chkA (oLoad 1 false S12 x6) x7)) && true) && true))) && true then pnA v Sx else none) fun _ S15 =>
 bindP (oNilC v0) fun x16 =>
 bindP (oFieldAddr 3 1 x16) fun x17 =>
 bindC (ok (oStore 1 S15 x17 x9)) (fun v Sx => bif (true && (((false || (chkA (oLoad 1 false S12 x8) x9 && chkA (oLoad 1 false S15 x8) x9)) && ((false || (chkA (oLoad 1 false S x8) x9 && chkA (oLoad 1 false S12 x8) x9)) && true)) && ((true && ((false || (chkA (oLoad 1 false S x6) x7 && chkA (oLoad 1 false S12 x6) x7)) && true)) && true))) && true then pnA v Sx else none) fun _ S18 =>
 bif ((true && ((false || (chkA (oLoad 1 false S12 x8) x9 && chkA (oLoad 1 false S15 x8) x9)) && ((false || (chkA (oLoad 1 false S x8) x9 && chkA (oLoad 1 false S12 x8) x9)) && true))) && ((true && (true && ((false || (chkA (oLoad 1 false S x6) x7 && chkA (oLoad 1 false S12 x6) x7)) && true))) && true)) then
 (let S := S18;
 some (.ret (.int .i64 0), S))
 else none)
theorem e422 (N : Nat) (κ : Oracles) (v0 v1 : AV) (S : St) : runF (Cs N) κ false 422 [v0, v1] S = s422 N κ v0 v1 S := by kernel_rfl
/- sacristan/task.change[sacristan/task.exit] -/
def s426 (N : Nat) (κ : Oracles) (v0 v1 v2 v3 : AV) (S : St) : R :=
 bindC (oBox S v0) pnA fun x1 S =>
 bindC (oBox S v1) pnA fun x2 S =>
 bindC (oAl S [.int .u8 0, .int .i64 0, .int .i64 0, .int .i64 0, .int .i64 0, .int .i64 0, .int .i64 0, .lst .nil 0 []]) pnA fun x3 S =>
 bindP (oLoad 8 true S x1) fun x4 =>
 bindC (apart κ.toOracle 362 [x4] S) pnA fun x5 S =>
 bindP (bN (eG (some [.i]) false false false x5 (.int .i64 0))) fun x6 =>
 ifA x6
 (bindP (oFill (plS [(0, 1), (1, 1), (2, 1), (3, 1), (4, 1), (5, 1), (6, 1), (7, 1)]) [.int .u8 0, .int .i64 0, .int .i64 0, .int .i64 0, .int .i64 0, .int .i64 0, .int .i64 0, .lst .nil 0 []] []) fun x7 =>
 bindC (ok (oStore 8 S x3 x7)) pnA fun _ S =>
 (resA [(oLoad 8 true S x3), (some x5)]).map fun vs => (.ret (packV vs), S))
 (bindP (oLoad 8 true S x2) fun x8 =>
 bindC (callD κ.toOracle 426 v2 [x8] S) pnA fun x9 S =>
 bindP (bN (eG (some [.i]) false false false x9 (.int .i64 0))) fun x10 =>
 ifA x10
 (bindP (oFill (plS [(0, 1), (1, 1), (2, 1), (3, 1), (4, 1), (5, 1), (6, 1), (7, 1)]) [.int .u8 0, .int .i64 0, .int .i64 0, .int .i64 0, .int .i64 0, .int .i64 0, .int .i64 0, .lst .nil 0 []] []) fun x11 =>
 bindC (ok (oStore 8 S x3 x11)) pnA fun _ S =>
 (resA [(oLoad 8 true S x3), (some x9)]).map fun vs => (.ret (packV vs), S))
 (bindP (oLoad 8 true S x1) fun x12 =>
 bindC (oAl S [.int .u8 0, .int .i64 0, .int .i64 0, .int .i64 0, .int .i64 0, .int .i64 0, .int .i64 0, .lst .nil 0 []]) pnA fun x13 S =>
 bindC (ok (oStore 8 S x13 x12)) pnA fun _ S =>
 bindP (oFieldAddr 7 1 x1) fun x14 =>
 bindP (oLoad 1 false S x14) fun x15 =>
 bindP (oLen S (.slice 3) x15) fun x16 =>
 bindC (okv (oMS true 1 8 [.int .i64 0] S x16 x16)) pnA fun x17 S =>
 bindP (oFieldAddr 7 1 x13) fun x18 =>
 bindC (ok (oStore 1 S x18 x17)) pnA fun _ S =>
 bindP (oFieldAddr 7 1 x13) fun x19 =>
 bindP (oLoad 1 false S x19) fun x20 =>
 bindP (oFieldAddr 7 1 x1) fun x21 =>
 bindP (oLoad 1 false S x21) fun x22 =>
 bindC (okv (oCopy 1 S x20 x22)) pnA fun x23 S =>
 bindP (oLoad 8 true S x2) fun x24 =>
 bindC (callD κ.toOracle 426 v3 [x13, x24] S) pnA fun x25 S =>
 bindP (bN (eG (some [.i]) false false false x25 (.int .i64 0))) fun x26 =>
 ifA x26
 (bindP (oFill (plS [(0, 1), (1, 1), (2, 1), (3, 1), (4, 1), (5, 1), (6, 1), (7, 1)]) [.int .u8 0, .int .i64 0, .int .i64 0, .int .i64 0, .int .i64 0, .int .i64 0, .int .i64 0, .lst .nil 0 []] []) fun x27 =>
 bindC (ok (oStore 8 S x3 x27)) pnA fun _ S =>
 (resA [(oLoad 8 true S x3), (some x25)]).map fun vs => (.ret (packV vs), S))
 (bindP (oLoad 8 true S x13) fun x28 =>
 bindC (ok (oStore 8 S x3 x28)) pnA fun _ S =>
 (resA [(oLoad 8 true S x3), (some (.int .i64 0))]).map fun vs => (.ret (packV vs), S))))
theorem e426 (N : Nat) (κ : Oracles) (v0 v1 v2 v3 : AV) (S : St) : runF (Cs N) κ false 426 [v0, v1, v2, v3] S = s426 N κ v0 v1 v2 v3 S := by kernel_rfl
/- sacristan/task.Exit$1 -/
def s427 (N : Nat) (κ : Oracles) (v0 : AV) (S : St) : R :=
 bindC (oBox S v0) pnA fun x1 S =>
 bindP (oFieldAddr 0 5 x1) fun x2 =>
 bindP (oLoad 5 true S x2) fun x3 =>
 bindC (apart κ.toOracle 138 [x3] S) pnA fun x4 S =>
 bindP (bN (eG (some [.i]) false false false x4 (.int .i64 0))) fun x5 =>
 ifA x5
 (some (.ret x4, S))
 (bindP (oFieldAddr 7 1 x1) fun x6 =>
 bindP (oLoad 1 false S x6) fun x7 =>
 bindC (apart κ.toOracle 409 [x7, (.int .i64 0), (.int .i64 1099511627776)] S) pnA fun x8 S =>
 bindC (apart κ.toOracle 413 [x8] S) pnA fun x9 S =>
 some (.ret x9, S))
theorem e427 (N : Nat) (κ : Oracles) (v0 : AV) (S : St) : runF (Cs N) κ false 427 [v0] S = s427 N κ v0 S := by kernel_rfl
/- sacristan/task.ended -/
def s428 (N : Nat) (κ : Oracles) (v0 v1 : AV) (S : St) : R :=
 bindC (oBox S v1) pnA fun x1 S =>
 bindP (oNilC v0) fun x2 =>
 bindP (oFieldAddr 0 1 x2) fun x3 =>
 bindP (oLoad 1 false S x3) fun x4 =>
 bindP (bE (eG (some [.i]) false false false x4 (.int .u8 1))) fun x5 =>
 bindP (guardP x5 false (some v0)) fun x6 =>
 bindP (guardP x5 false (oNilC x6)) fun x7 =>
 bindP (guardP x5 false (oFieldAddr 0 1 x7)) fun x8 =>
 bindP (guardP x5 false (oLoad 1 false S x8)) fun x9 =>
 bindP (guardP x5 false (bE (eG (some [.i]) false false false x9 (.int .u8 2)))) fun x10 =>
 bindP (oPick x5 (.bool true) x10) fun x11 =>
 bindP (oUn .not x11) fun x12 =>
 bindP (guardP x12 true (some v0)) fun x13 =>
 bindP (guardP x12 true (oNilC x13)) fun x14 =>
 bindP (guardP x12 true (oFieldAddr 0 1 x14)) fun x15 =>
 bindP (guardP x12 true (oLoad 1 false S x15)) fun x16 =>
 bindP (guardP x12 true (bN (eG (some [.i]) false false false x16 (.int .u8 4)))) fun x17 =>
 bindP (oPick x12 x17 (.bool false)) fun x18 =>
 bindP (guardP x18 true (some v0)) fun x19 =>
 bindP (guardP x18 true (oNilC x19)) fun x20 =>
 bindP (guardP x18 true (oFieldAddr 0 1 x20)) fun x21 =>
 bindP (guardP x18 true (oLoad 1 false S x21)) fun x22 =>
 bindP (guardP x18 true (bN (eG (some [.i]) false false false x22 (.int .u8 5)))) fun x23 =>
 bindP (oPick x18 x23 (.bool false)) fun x24 =>
 ifA x24
 (some (.ret (.int .i64 7), S))
 (bindP (oFieldAddr 7 1 x1) fun x25 =>
 bindP (oLoad 1 false S x25) fun x26 =>
 bindC (callN κ.toOracle 418 [v0] S) (fun v Sx => bif (true && true) && true then pnA v Sx else none) fun x27 S28 =>
 bindP (oArith .lss x26 x27) fun x29 =>
 bif (((false || (chkA (oLoad 1 false S x25) x26 && chkA (oLoad 1 false S28 x25) x26)) && true) && true) then
 (let S := S28;
 ifA x29
 (some (.ret (.int .i64 13), S))
 (bindP (oNilC v0) fun x30 =>
 bindP (oFieldAddr 0 1 x30) fun x31 =>
 bindP (oLoad 1 false S x31) fun x32 =>
 bindP (bE (eG (some [.i]) false false false x32 (.int .u8 4))) fun x33 =>
 bindP (guardP x33 false (some v0)) fun x34 =>
 bindP (guardP x33 false (oNilC x34)) fun x35 =>
 bindP (guardP x33 false (oFieldAddr 0 1 x35)) fun x36 =>
 bindP (guardP x33 false (oLoad 1 false S x36)) fun x37 =>
 bindP (guardP x33 false (bE (eG (some [.i]) false false false x37 (.int .u8 5)))) fun x38 =>
 bindP (guardP x33 false (some x38)) fun x39 =>
 bindP (guardP x39 true (oFieldAddr 5 1 x1)) fun x40 =>
 bindP (guardP x39 true (oLoad 1 false S x40)) fun x41 =>
 bindP (guardP x33 false (oPick x39 x41 (.bool false))) fun x42 =>
 bindP (oPick x33 (.bool true) x42) fun x43 =>
 bindP (guardP x43 false (some x11)) fun x44 =>
 bindP (guardP x43 false (some x44)) fun x45 =>
 bindP (guardP x45 true (oFieldAddr 6 1 x1)) fun x46 =>
 bindP (guardP x45 true (oLoad 1 false S x46)) fun x47 =>
 bindP (guardP x45 true (bE (eG (some [.i]) false false false x47 (.int .i64 0)))) fun x48 =>
 bindP (guardP x43 false (oPick x45 x48 (.bool false))) fun x49 =>
 bindP (guardP x43 false (some x49)) fun x50 =>
 bindP (guardP x50 true (oFieldAddr 0 5 x1)) fun x51 =>
 bindP (guardP x50 true (oFieldAddr 0 1 x51)) fun x52 =>
 bindP (guardP x50 true (oLoad 1 false S x52)) fun x53 =>
 bindP (guardP x50 true (oUn .not x53)) fun x54 =>
 bindP (guardP x43 false (oPick x50 x54 (.bool false))) fun x55 =>
 bindP (oPick x43 (.bool true) x55) fun x56 =>
 bindP (oFieldAddr 6 1 x1) fun x57 =>
 bindP (oLoad 1 false S x57) fun x58 =>
 bindP (oNilC v0) fun x59 =>
 bindP (oFieldAddr 6 1 x59) fun x60 =>
 bindC (ok (oStore 1 S x60 x58)) pnA fun _ S =>
 bindP (oNilC v0) fun x61 =>
 bindP (oFieldAddr 2 1 x61) fun x62 =>
 bindC (ok (oStore 1 S x62 (.int .i64 0))) pnA fun _ S =>
 bindP (oNilC v0) fun x63 =>
 bindP (oFieldAddr 3 1 x63) fun x64 =>
 bindC (ok (oStore 1 S x64 (.int .i64 0))) pnA fun _ S =>
 bindP (oNilC v0) fun x65 =>
 bindP (oFieldAddr 5 1 x65) fun x66 =>
 bindC (ok (oStore 1 S x66 (.int .i64 0))) pnA fun _ S =>
 ifA x56
 (bindP (oNilC v0) fun x67 =>
 bindP (oFieldAddr 0 1 x67) fun x68 =>
 bindC (ok (oStore 1 S x68 (.int .u8 6))) pnA fun _ S =>
 some (.ret (.int .i64 0), S))
 (bindP (oNilC v0) fun x69 =>
 bindP (oFieldAddr 7 1 x69) fun x70 =>
 bindP (oLoad 1 false S x70) fun x71 =>
 bindP (oFieldAddr 0 5 x1) fun x72 =>
 bindP (oFieldAddr 2 1 x72) fun x73 =>
 bindP (oLoad 1 false S x73) fun x74 =>
 bindP (oFieldAddr 7 1 x1) fun x75 =>
 bindP (oLoad 1 false S x75) fun x76 =>
 bindC (apart κ.toOracle 448 [x71, x74, x76] S) (fun _ _ => none) fun x77 S78 =>
 bindP (oExt x77 0) fun x79 =>
 bindP (oExt x77 1) fun x80 =>
 bif true then
 (let S := S78;
 bindP (oFieldAddr 0 5 x1) fun x81 =>
 bindP (oFieldAddr 1 1 x81) fun x82 =>
 bindP (oLoad 1 false S x82) fun x83 =>
 bindP (oArith .geq x79 x83) fun x84 =>
 ifA x84
 (bindP (oNilC v0) fun x85 =>
 bindP (oFieldAddr 0 1 x85) fun x86 =>
 bindC (ok (oStore 1 S x86 (.int .u8 7))) pnA fun _ S =>
 some (.ret (.int .i64 0), S))
 (bindP (oFieldAddr 0 5 x1) fun x87 =>
 bindP (oLoad 5 true S x87) fun x88 =>
 bindC (apart κ.toOracle 449 [x88, x79] S) pnA fun x89 S =>
 bindP (oExt x89 0) fun x90 =>
 bindP (oExt x89 1) fun x91 =>
 bindP (oFieldAddr 7 1 x1) fun x92 =>
 bindP (oLoad 1 false S x92) fun x93 =>
 bindP (oArith .add x93 x90) fun x94 =>
 bindP (oNilC v0) fun x95 =>
 bindP (oFieldAddr 0 1 x95) fun x96 =>
 bindC (ok (oStore 1 S x96 (.int .u8 3))) (fun v Sx => bif (true && true) && true then pnA v Sx else none) fun _ S97 =>
 bindP (oNilC v0) fun x98 =>
 bindP (oFieldAddr 4 1 x98) fun x99 =>
 bindC (ok (oStore 1 S97 x99 x94)) (fun v Sx => bif (true && (((false || (chkA (oLoad 1 false S x92) x93 && chkA (oLoad 1 false S97 x92) x93)) && true) && true)) && true then pnA v Sx else none) fun _ S100 =>
 bif ((true && ((false || (chkA (oLoad 1 false S x92) x93 && chkA (oLoad 1 false S97 x92) x93)) && true)) && true) then
 (let S := S100;
 some (.ret (.int .i64 0), S))
 else none))
 else none)))
 else none)
theorem e428 (N : Nat) (κ : Oracles) (v0 v1 : AV) (S : St) : runF (Cs N) κ false 428 [v0, v1] S = s428 N κ v0 v1 S := by kernel_rfl
/- (sacristan/lease.node).over -/
def s429 (N : Nat) (κ : Oracles) (v0 v1 : AV) (S : St) : R :=
 bindC (oBox S v0) pnA fun x1 S =>
 bindP (oArith .lss v1 (.int .i64 0)) fun x2 =>
 bindP (guardP x2 false (oFieldAddr 11 1 x1)) fun x3 =>
 bindP (guardP x2 false (oLoad 1 false S x3)) fun x4 =>
 bindP (guardP x2 false (some v1)) fun x5 =>
 bindP (guardP x2 false (oFieldAddr 0 11 x1)) fun x6 =>
 bindP (guardP x2 false (oFieldAddr 8 1 x6)) fun x7 =>
 bindP (guardP x2 false (oLoad 1 false S x7)) fun x8 =>
 bindP (guardP x2 false (oArith .add x5 x8)) fun x9 =>
 bindP (guardP x2 false (oArith .gtr x4 x9)) fun x10 =>
 bindP (oPick x2 (.bool true) x10) fun x11 =>
 some (.ret x11, S)
theorem e429 (N : Nat) (κ : Oracles) (v0 v1 : AV) (S : St) : runF (Cs N) κ false 429 [v0, v1] S = s429 N κ v0 v1 S := by kernel_rfl
/- sacristan/plan.rules$1 -/
def s430 (N : Nat) (κ : Oracles) (v0 v1 v2 : AV) (S : St) : R :=
 bindC (oBox S v0) pnA fun x1 S =>
 bindC (oBox S v1) pnA fun x2 S =>
 bindC (oAl S [.int .u8 0, .int .i64 0]) pnA fun x3 S =>
 bindP (oFieldAddr 1 1 x2) fun x4 =>
 bindP (oLoad 1 false S x4) fun x5 =>
 bindP (guardP x5 false (oFieldAddr 14 1 x2)) fun x6 =>
 bindP (guardP x5 false (oLoad 1 false S x6)) fun x7 =>
 bindP (oPick x5 (.bool true) x7) fun x8 =>
 bindP (guardP x8 false (oFieldAddr 0 1 x1)) fun x9 =>
 bindP (guardP x8 false (oLoad 1 false S x9)) fun x10 =>
 bindP (guardP x8 false (bE (eG (some [.i]) false false false x10 (.int .u8 3)))) fun x11 =>
 bindP (guardP x8 false (some x11)) fun x12 =>
 bindP (guardP x12 true (oFieldAddr 0 1 x2)) fun x13 =>
 bindP (guardP x12 true (oLoad 1 false S x13)) fun x14 =>
 bindP (guardP x12 true (oFieldAddr 4 1 x1)) fun x15 =>
 bindP (guardP x12 true (oLoad 1 false S x15)) fun x16 =>
 bindP (guardP x12 true (oArith .lss x14 x16)) fun x17 =>
 bindP (guardP x8 false (oPick x12 x17 (.bool false))) fun x18 =>
 bindP (oPick x8 (.bool true) x18) fun x19 =>
 ifA x19
 (bindP (oLoad 2 true S v2) fun x20 =>
 bindC (ok (oStore 2 S x3 x20)) pnA fun _ S =>
 (resA [(oLoad 2 true S x3)]).map fun vs => (.ret (packV vs), S))
 (bindP (oFill (plS [(0, 1), (1, 1)]) [.int .u8 0, .int .i64 0] [(0, (.int .u8 1))]) fun x21 =>
 bindC (ok (oStore 2 S x3 x21)) pnA fun _ S =>
 (resA [(oLoad 2 true S x3)]).map fun vs => (.ret (packV vs), S))
theorem e430 (N : Nat) (κ : Oracles) (v0 v1 v2 : AV) (S : St) : runF (Cs N) κ false 430 [v0, v1, v2] S = s430 N κ v0 v1 v2 S := by kernel_rfl
/- sacristan/plan.rules$2 -/
def s431 (N : Nat) (κ : Oracles) (v0 : AV) (S : St) : R :=
 bindC (oBox S v0) pnA fun x1 S =>
 bindP (some (.func 432 [] [x1])) fun x2 =>
 some (.ret x2, S)
theorem e431 (N : Nat) (κ : Oracles) (v0 : AV) (S : St) : runF (Cs N) κ false 431 [v0] S = s431 N κ v0 S := by kernel_rfl
/- sacristan/plan.rules$2$1 -/
def s432 (N : Nat) (κ : Oracles) (v0 v1 v2 : AV) (S : St) : R :=
 bindC (oBox S v0) pnA fun x1 S =>
 bindC (oBox S v1) pnA fun x2 S =>
 bindC (oAl S [.int .u8 0, .int .i64 0]) pnA fun x3 S =>
 bindP (oFieldAddr 4 1 x2) fun x4 =>
 bindP (oLoad 1 false S x4) fun x5 =>
 bindP (oUn .not x5) fun x6 =>
 ifA x6
 (bindP (oFill (plS [(0, 1), (1, 1)]) [.int .u8 0, .int .i64 0] [(0, (.int .u8 3)), (1, (.int .i64 (-1)))]) fun x7 =>
 bindC (ok (oStore 2 S x3 x7)) pnA fun _ S =>
 (resA [(oLoad 2 true S x3)]).map fun vs => (.ret (packV vs), S))
 (bindP (oFieldAddr 5 9 x2) fun x8 =>
 bindP (oFieldAddr 5 1 x8) fun x9 =>
 bindP (oLoad 1 false S x9) fun x10 =>
 bindP (oUn .not x10) fun x11 =>
 ifA x11
 (bindP (oFieldAddr 5 9 x2) fun x12 =>
 bindP (oFieldAddr 8 1 x12) fun x13 =>
 bindP (oLoad 1 false S x13) fun x14 =>
 bindP (oFill (plS [(0, 1), (1, 1)]) [.int .u8 0, .int .i64 0] [(0, (.int .u8 3)), (1, x14)]) fun x15 =>
 bindC (ok (oStore 2 S x3 x15)) pnA fun _ S =>
 (resA [(oLoad 2 true S x3)]).map fun vs => (.ret (packV vs), S))
 (bindP (oLoad 1 false S v2) fun x16 =>
 bindP (oLoad 8 true S x1) fun x17 =>
 bindP (oLoad 15 true S x2) fun x18 =>
 bindC (callD κ.toOracle 432 x16 [x17, x18] S) pnA fun x19 S =>
 bindP (oFill (plS [(0, 1), (1, 1)]) [.int .u8 0, .int .i64 0] [(0, x19)]) fun x20 =>
 bindC (ok (oStore 2 S x3 x20)) pnA fun _ S =>
 (resA [(oLoad 2 true S x3)]).map fun vs => (.ret (packV vs), S)))
theorem e432 (N : Nat) (κ : Oracles) (v0 v1 v2 : AV) (S : St) : runF (Cs N) κ false 432 [v0, v1, v2] S = s432 N κ v0 v1 v2 S := by kernel_rfl
/- sacristan/plan.rules$3 -/
def s433 (N : Nat) (κ : Oracles) (v0 v1 v2 : AV) (S : St) : R :=
 ifA v1
 (some (.ret v0, S))
 (some (.ret v2, S))
theorem e433 (N : Nat) (κ : Oracles) (v0 v1 v2 : AV) (S : St) : runF (Cs N) κ false 433 [v0, v1, v2] S = s433 N κ v0 v1 v2 S := by kernel_rfl
/- sacristan/plan.rules$5 -/
def s435 (N : Nat) (κ : Oracles) (v0 v1 v2 : AV) (S : St) : R :=
 bindC (oBox S v0) pnA fun x1 S =>
 bindC (oBox S v1) pnA fun x2 S =>
 bindP (oLoad 1 false S v2) fun x3 =>
 bindP (oFieldAddr 2 1 x2) fun x4 =>
 bindP (oLoad 1 false S x4) fun x5 =>
 bindP (guardP x5 false (oFieldAddr 3 1 x2)) fun x6 =>
 bindP (guardP x5 false (oLoad 1 false S x6)) fun x7 =>
 bindP (oPick x5 (.bool true) x7) fun x8 =>
 bindC (callD κ.toOracle 435 x3 [(.int .u8 4), x8, (.int .u8 0)] S) pnA fun x9 S =>
 some (.ret x9, S)
theorem e435 (N : Nat) (κ : Oracles) (v0 v1 v2 : AV) (S : St) : runF (Cs N) κ false 435 [v0, v1, v2] S = s435 N κ v0 v1 v2 S := by kernel_rfl
/- (*sacristan/agent.Agent).record -/
def s438 (N : Nat) (κ : Oracles) (v0 v1 : AV) (S : St) : R :=
 bindC (oBox S v1) pnA fun x1 S =>
 bindP (oFieldAddr 2 5 x1) fun x2 =>
 bindP (oLoad 5 true S x2) fun x3 =>
 bindP (oFieldAddr 0 1 x1) fun x4 =>
 bindP (oLoad 1 false S x4) fun x5 =>
 bindP (oFieldAddr 1 1 x1) fun x6 =>
 bindP (oLoad 1 false S x6) fun x7 =>
 bindP (oFieldAddr 22 2 x1) fun x8 =>
 bindP (oLoad 2 true S x8) fun x9 =>
 bindP (oFieldAddr 7 15 x1) fun x10 =>
 bindP (oLoad 15 true S x10) fun x11 =>
 bindC (apart κ.toOracle 450 [x3, x5, x7, x9, x11] S) pnA fun x12 S =>
 bindP (oExt x12 0) fun x13 =>
 bindP (oExt x12 1) fun x14 =>
 bindP (oExt x12 2) fun x15 =>
 bindC (oAl S [.int .u8 0, .int .i64 0, .int .i64 0, .int .i64 0, .int .i64 0, .int .i64 0, .lst .nil 0 [], .lst .nil 0 [], .int .i64 0, .int .i64 0, .int .i64 0, .int .i64 0, .int .i64 0, .int .i64 0, .int .i64 0]) pnA fun x16 S =>
 bindC (ok (oStore 15 S x16 x13)) pnA fun _ S =>
 bindP (bN (eG (some [.i]) false false false x15 (.int .i64 0))) fun x17 =>
 bindP (guardP x17 false (some x14)) fun x18 =>
 bindP (guardP x17 false (oUn .not x18)) fun x19 =>
 bindP (oPick x17 (.bool true) x19) fun x20 =>
 ifA x20
 (some (.ret (.tup [(.bool false), x15]), S))
 (bindP (oNilC v0) fun x21 =>
 bindP (oFieldAddr 0 1 x21) fun x22 =>
 bindP (oLoad 1 false S x22) fun x23 =>
 bindP (oLoad 15 true S x16) fun x24 =>
 bindC (callN κ.toOracle 183 [x23, x24] S) (fun v Sx => bif (true && true) && true then pnA v Sx else none) fun x25 S26 =>
 bif true then
 (let S := S26;
 bindP (bE (eG (some [.i]) false false false x25 (.int .i64 0))) fun x27 =>
 ifA x27
 (some (.ret (.tup [(.bool true), (.int .i64 0)]), S))
 (bindP (bE (eG (some [.i]) false false false x25 (.int .i64 9))) fun x28 =>
 ifA x28
 (some (.ret (.tup [(.bool false), (.int .i64 0)]), S))
 (some (.ret (.tup [(.bool false), x25]), S))))
 else none)
theorem e438 (N : Nat) (κ : Oracles) (v0 v1 : AV) (S : St) : runF (Cs N) κ false 438 [v0, v1] S = s438 N κ v0 v1 S := by kernel_rfl
/- (*sacristan/proc.Table).Spawn -/
def s439 (N : Nat) (κ : Oracles) (v0 v1 : AV) (S : St) : R :=
 bindC (oBox S v1) pnA fun x1 S =>
 bindC (oAl S [.int .i64 0, .int .i64 0, .int .i64 0, .int .i64 0, .int .i64 0, .bool false, .bool false, .bool false, .int .i64 0]) pnA fun x2 S =>
 bindP (bE (eNil kPtr v0 .nilptr)) fun x3 =>
 ifA x3
 (bindP (oFill (plS [(0, 1), (1, 1), (2, 3), (5, 1), (6, 1), (7, 1), (8, 1)]) [.int .i64 0, .int .i64 0, .int .i64 0, .int .i64 0, .int .i64 0, .bool false, .bool false, .bool false, .int .i64 0] []) fun x4 =>
 bindC (ok (oStore 9 S x2 x4)) pnA fun _ S =>
 (resA [(oLoad 9 true S x2), (some (.int .i64 1))]).map fun vs => (.ret (packV vs), S))
 (bindP (oLoad 3 true S x1) fun x5 =>
 bindC (apart κ.toOracle 246 [x5] S) pnA fun x6 S =>
 bindP (bN (eG (some [.i]) false false false x6 (.int .i64 0))) fun x7 =>
 ifA x7
 (bindP (oFill (plS [(0, 1), (1, 1), (2, 3), (5, 1), (6, 1), (7, 1), (8, 1)]) [.int .i64 0, .int .i64 0, .int .i64 0, .int .i64 0, .int .i64 0, .bool false, .bool false, .bool false, .int .i64 0] []) fun x8 =>
 bindC (ok (oStore 9 S x2 x8)) pnA fun _ S =>
 (resA [(oLoad 9 true S x2), (some (.int .i64 2))]).map fun vs => (.ret (packV vs), S))
 (bindP (oNilC v0) fun x9 =>
 bindP (oFieldAddr 0 1 x9) fun x10 =>
 bindP (oLoad 1 false S x10) fun x11 =>
 bindC (callN κ.toOracle 229 [x11] S) pnA fun x12 S =>
 bindP (bN (eG (some [.i]) false false false x12 (.int .i64 0))) fun x13 =>
 ifA x13
 (bindP (oFill (plS [(0, 1), (1, 1), (2, 3), (5, 1), (6, 1), (7, 1), (8, 1)]) [.int .i64 0, .int .i64 0, .int .i64 0, .int .i64 0, .int .i64 0, .bool false, .bool false, .bool false, .int .i64 0] []) fun x14 =>
 bindC (ok (oStore 9 S x2 x14)) pnA fun _ S =>
 (resA [(oLoad 9 true S x2), (some x12)]).map fun vs => (.ret (packV vs), S))
 (bindP (oNilC v0) fun x15 =>
 bindP (oFieldAddr 2 1 x15) fun x16 =>
 bindP (oLoad 1 false S x16) fun x17 =>
 ifA x17
 (bindP (oFill (plS [(0, 1), (1, 1), (2, 3), (5, 1), (6, 1), (7, 1), (8, 1)]) [.int .i64 0, .int .i64 0, .int .i64 0, .int .i64 0, .int .i64 0, .bool false, .bool false, .bool false, .int .i64 0] []) fun x18 =>
 bindC (ok (oStore 9 S x2 x18)) pnA fun _ S =>
 (resA [(oLoad 9 true S x2), (some (.int .i64 11))]).map fun vs => (.ret (packV vs), S))
 (bindC (callN κ.toOracle 451 [v0] S) (fun v Sx => bif (true && true) && (rfA (some v0) fun x21 => (rfA (oNilC x21) fun x22 => (rfA (oFieldAddr 1 1 x22) fun x23 => false))) then pnA v Sx else none) fun x19 S20 =>
 bindP (oNilC v0) fun x24 =>
 bindP (oFieldAddr 1 1 x24) fun x25 =>
 bindP (oLoad 1 false S20 x25) fun x26 =>
 bindP (oLen S20 (.map 3 180) x26) fun x27 =>
 bindP (oArith .add x27 (.int .i64 1)) fun x28 =>
 bindP (oLoad 3 true S20 x1) fun x29 =>
 bindP (oFill (plS [(0, 1), (1, 1), (2, 3), (5, 1), (6, 1), (7, 1), (8, 1)]) [.int .i64 0, .int .i64 0, .int .i64 0, .int .i64 0, .int .i64 0, .bool false, .bool false, .bool false, .int .i64 0] [(0, x19), (1, x28), (2, x29), (3, (.bool true))]) fun x30 =>
 bindC (oBox S20 x30) (fun v Sx => bif (true && (((false || (chkA (oLoad 3 true S x1) x29 && chkA (oLoad 3 true S20 x1) x29)) && true) && ((true && true) && (((false || (chkA (oLoad 1 false S x25) x26 && chkA (oLoad 1 false S20 x25) x26)) && true) && true)))) && true then pnA v Sx else none) fun x31 S32 =>
 bif ((true && ((false || (chkA (oLoad 3 true S x1) x29 && chkA (oLoad 3 true S20 x1) x29)) && true)) && ((true && (true && true)) && ((true && ((false || (chkA (oLoad 1 false S x25) x26 && chkA (oLoad 1 false S20 x25) x26)) && true)) && true))) then
 (let S := S32;
 bindP (oNilC v0) fun x33 =>
 bindP (oFieldAddr 1 1 x33) fun x34 =>
 bindP (oLoad 1 false S x34) fun x35 =>
 bindP (oNilC x31) fun x36 =>
 bindP (oFieldAddr 1 1 x36) fun x37 =>
 bindP (oLoad 1 false S x37) fun x38 =>
 bindC (ok (oMUp (some [.i]) false S x35 x38 x31)) (fun v Sx => bif (true && true) && true then pnA v Sx else none) fun _ S39 =>
 bif true then
 (let S := S39;
 bindP (oNilC x31) fun x40 =>
 bindP (oLoad 9 true S x40) fun x41 =>
 bindC (ok (oStore 9 S x2 x41)) pnA fun _ S =>
 (resA [(oLoad 9 true S x2), (some (.int .i64 0))]).map fun vs => (.ret (packV vs), S))
 else none)
 else none))))
theorem e439 (N : Nat) (κ : Oracles) (v0 v1 : AV) (S : St) : runF (Cs N) κ false 439 [v0, v1] S = s439 N κ v0 v1 S := by kernel_rfl
/- sacristan/crc.More$1 -/
def s441 (N : Nat) (κ : Oracles) (v0 v1 : AV) (S : St) : R :=
 bindP (oLoad 1 false S v1) fun x1 =>
 bindP (oArith .and x1 (.int .u32 1)) fun x2 =>
 bindP (oLoad 1 false S v1) fun x3 =>
 bindP (oShiftV .shr x3 (.int .u64 1)) fun x4 =>
 bindC (ok (oStore 1 S v1 x4)) pnA fun _ S =>
 bindP (bN (eG (some [.i]) false false false x2 v0)) fun x5 =>
 ifA x5
 (bindP (oLoad 1 false S v1) fun x6 =>
 bindP (oArith .xor x6 (.int .u32 3988292384)) fun x7 =>
 bindC (ok (oStore 1 S v1 x7)) pnA fun _ S =>
 some (.ret (.tup []), S))
 (some (.ret (.tup []), S))
theorem e441 (N : Nat) (κ : Oracles) (v0 v1 : AV) (S : St) : runF (Cs N) κ false 441 [v0, v1] S = s441 N κ v0 v1 S := by kernel_rfl
/- sacristan/frame.from -/
def s444 (N : Nat) (κ : Oracles) (v0 v1 v2 : AV) (S : St) : R :=
 bindP (oArith .geq v0 v1) fun x1 =>
 bindP (guardP x1 true (some v0)) fun x2 =>
 bindP (guardP x1 true (some v2)) fun x3 =>
 bindP (guardP x1 true (oArith .leq x2 x3)) fun x4 =>
 bindP (oPick x1 x4 (.bool false)) fun x5 =>
 some (.ret x5, S)
theorem e444 (N : Nat) (κ : Oracles) (v0 v1 v2 : AV) (S : St) : runF (Cs N) κ false 444 [v0, v1, v2] S = s444 N κ v0 v1 v2 S := by kernel_rfl
/- sacristan/frame.fixed -/
def s445 (N : Nat) (κ : Oracles) (v0 v1 : AV) (S : St) : R :=
 bindP (cII .u64 v0) fun x1 =>
 bindC (apart κ.toOracle 397 [x1, v1] S) pnA fun x2 S =>
 bindP (oExt x2 0) fun x3 =>
 bindP (oExt x2 1) fun x4 =>
 some (.ret x3, S)
theorem e445 (N : Nat) (κ : Oracles) (v0 v1 : AV) (S : St) : runF (Cs N) κ false 445 [v0, v1] S = s445 N κ v0 v1 S := by kernel_rfl
/- sacristan/record.pieces$1 -/
def s446 (N : Nat) (κ : Oracles) (v0 v1 : AV) (S : St) : R :=
 bindP (oLoad 1 false S v1) fun x1 =>
 bindP (cSB x1) fun x2 =>
 loop1 (fun vals S1 k3 =>
 let S := gcHead false S.objs.length [] vals S1;
 let x4 := vals.getD 0 .junk;
 let x5 := vals.getD 1 .junk;
 bindP (bE (eG (some [.i]) false false false x4 (.int .i64 0))) fun x6 =>
 bindP (guardP x6 false (some x5)) fun x7 =>
 bindP (guardP x6 false (some x2)) fun x8 =>
 bindP (guardP x6 false (oLen S (.slice 5) x8)) fun x9 =>
 bindP (guardP x6 false (oArith .lss x7 x9)) fun x10 =>
 bindP (oPick x6 (.bool true) x10) fun x11 =>
 ifA x11
 (bindP (oArith .add x5 (.int .i64 44)) fun x12 =>
 bindP (oLen S (.slice 5) x2) fun x13 =>
 bindP (maxmin false [x12, x13]) fun x14 =>
 bindP (slS 1 x2 (some x5) (some x14) (some x14)) fun x15 =>
 bindC (callD κ.toOracle 446 v0 [x4, x15] S) pnA fun x16 S =>
 bindP (oUn .not x16) fun x17 =>
 ifA x17
 (some (.ret (.tup []), S))
 (bindP (oArith .add x4 (.int .i64 1)) fun x18 =>
 bindP (oArith .add x5 (.int .i64 44)) fun x19 =>
 bif sameD [] [] then k3 [x18, x19] S else none))
 (some (.ret (.tup []), S))) N [(.int .i64 0), (.int .i64 0)] S
theorem e446 (N : Nat) (κ : Oracles) (v0 v1 : AV) (S : St) : runF (Cs N) κ false 446 [v0, v1] S = s446 N κ v0 v1 S := by kernel_rfl
/- sacristan/window.tick -/
def s447 (N : Nat) (κ : Oracles) (v0 v1 v2 : AV) (S : St) : R :=
 bindC (apart κ.toOracle 203 [v0, v1] S) pnA fun x1 S =>
 bindP (bN (eG (some [.i]) false false false x1 (.int .i64 0))) fun x2 =>
 ifA x2
 (some (.ret x1, S))
 (bindP (oArith .lss v2 (.int .i64 0)) fun x3 =>
 bindP (guardP x3 false (some v2)) fun x4 =>
 bindP (guardP x3 false (oArith .gtr x4 (.int .i64 1099511627776))) fun x5 =>
 bindP (oPick x3 (.bool true) x5) fun x6 =>
 ifA x6
 (some (.ret (.int .i64 3), S))
 (some (.ret (.int .i64 0), S)))
theorem e447 (N : Nat) (κ : Oracles) (v0 v1 v2 : AV) (S : St) : runF (Cs N) κ false 447 [v0, v1, v2] S = s447 N κ v0 v1 v2 S := by kernel_rfl
/- sacristan/window.Count -/
def s448 (N : Nat) (κ : Oracles) (v0 v1 v2 : AV) (S : St) : R :=
 bindC (apart κ.toOracle 447 [v0, v1, v2] S) pnA fun x1 S =>
 bindP (bN (eG (some [.i]) false false false x1 (.int .i64 0))) fun x2 =>
 ifA x2
 (some (.ret (.tup [(.int .i64 0), x1]), S))
 (bindC (apart κ.toOracle 204 [v0, v1, v2] S) pnA fun x3 S =>
 some (.ret (.tup [x3, (.int .i64 0)]), S))
theorem e448 (N : Nat) (κ : Oracles) (v0 v1 v2 : AV) (S : St) : runF (Cs N) κ false 448 [v0, v1, v2] S = s448 N κ v0 v1 v2 S := by kernel_rfl
/- sacristan/plan.Record -/
def s450 (N : Nat) (κ : Oracles) (v0 v1 v2 v3 v4 : AV) (S : St) : R :=
 bindC (oBox S v0) pnA fun x1 S =>
 bindC (oBox S v3) pnA fun x2 S =>
 bindC (oBox S v4) pnA fun x3 S =>
 bindC (oAl S [.int .u8 0, .int .i64 0, .int .i64 0, .int .i64 0, .int .i64 0, .int .i64 0, .lst .nil 0 [], .lst .nil 0 [], .int .i64 0, .int .i64 0, .int .i64 0, .int .i64 0, .int .i64 0, .int .i64 0, .int .i64 0]) pnA fun x4 S =>
 bindP (oLoad 5 true S x1) fun x5 =>
 bindC (apart κ.toOracle 377 [x5, v1, v2] S) pnA fun x6 S =>
 bindP (oUn .not x6) fun x7 =>
 ifA x7
 (bindP (oFill (plS [(0, 1), (1, 1), (2, 6), (8, 1), (9, 1), (10, 1), (11, 1), (12, 1), (13, 1), (14, 1)]) [.int .u8 0, .int .i64 0, .int .i64 0, .int .i64 0, .int .i64 0, .int .i64 0, .lst .nil 0 [], .lst .nil 0 [], .int .i64 0, .int .i64 0, .int .i64 0, .int .i64 0, .int .i64 0, .int .i64 0, .int .i64 0] []) fun x8 =>
 bindC (ok (oStore 15 S x4 x8)) pnA fun _ S =>
 (resA [(oLoad 15 true S x4), (some (.bool false)), (some (.int .i64 3))]).map fun vs => (.ret (packV vs), S))
 (bindP (oFieldAddr 0 1 x2) fun x9 =>
 bindP (oLoad 1 false S x9) fun x10 =>
 bindP (oArith .gtr x10 (.int .u8 6)) fun x11 =>
 ifA x11
 (bindP (oFill (plS [(0, 1), (1, 1), (2, 6), (8, 1), (9, 1), (10, 1), (11, 1), (12, 1), (13, 1), (14, 1)]) [.int .u8 0, .int .i64 0, .int .i64 0, .int .i64 0, .int .i64 0, .int .i64 0, .lst .nil 0 [], .lst .nil 0 [], .int .i64 0, .int .i64 0, .int .i64 0, .int .i64 0, .int .i64 0, .int .i64 0, .int .i64 0] []) fun x12 =>
 bindC (ok (oStore 15 S x4 x12)) pnA fun _ S =>
 (resA [(oLoad 15 true S x4), (some (.bool false)), (some (.int .i64 2))]).map fun vs => (.ret (packV vs), S))
 (bindP (oFieldAddr 4 1 x1) fun x13 =>
 bindP (oLoad 1 false S x13) fun x14 =>
 bindP (oIndexAddrS 10 x14 v1) fun x15 =>
 bindP (oFieldAddr 0 6 x15) fun x16 =>
 bindP (oFieldAddr 0 1 x16) fun x17 =>
 bindP (oLoad 1 false S x17) fun x18 =>
 bindP (oFill (plS [(0, 1), (1, 1), (2, 6), (8, 1), (9, 1), (10, 1), (11, 1), (12, 1), (13, 1), (14, 1)]) [.int .u8 0, .int .i64 0, .int .i64 0, .int .i64 0, .int .i64 0, .int .i64 0, .lst .nil 0 [], .lst .nil 0 [], .int .i64 0, .int .i64 0, .int .i64 0, .int .i64 0, .int .i64 0, .int .i64 0, .int .i64 0] [(3, x18), (4, v2)]) fun x19 =>
 bindC (ok (oStore 15 S x4 x19)) pnA fun _ S =>
 let j20 : List AV → St → R := (fun vals S =>
 let x21 := vals.getD 0 .junk;
 let x22 := vals.getD 1 .junk;
 bindP (oLoad 15 true S x4) fun x23 =>
 bindC (ok (oStore 15 S x4 x23)) pnA fun _ S =>
 (resA [(oLoad 15 true S x4), (some (.bool true)), (some (.int .i64 0))]).map fun vs => (.ret (packV vs), S));
 bindP (oFieldAddr 0 1 x2) fun x24 =>
 bindP (oLoad 1 false S x24) fun x25 =>
 bindP (bE (eG (some [.i]) false false false x25 (.int .u8 1))) fun x26 =>
 ifA x26
 (bindP (oFieldAddr 0 1 x3) fun x27 =>
 bindP (oLoad 1 false S x27) fun x28 =>
 bindP (oFieldAddr 0 1 x4) fun x29 =>
 bindC (ok (oStore 1 S x29 (.int .u8 4))) (fun v Sx => bif (true && true) && true then pnA v Sx else none) fun _ S30 =>
 bindP (oFieldAddr 10 1 x4) fun x31 =>
 bindC (ok (oStore 1 S30 x31 x28)) (fun v Sx => bif (true && (((false || (chkA (oLoad 1 false S x27) x28 && chkA (oLoad 1 false S30 x27) x28)) && true) && true)) && true then pnA v Sx else none) fun _ S32 =>
 bif ((true && ((false || (chkA (oLoad 1 false S x27) x28 && chkA (oLoad 1 false S30 x27) x28)) && true)) && true) then
 (let S := S32;
 bif sameD [] [] then Join j20 [(.bool false), (.int .i64 0)] S else none)
 else none)
 (bindP (bE (eG (some [.i]) false false false x25 (.int .u8 2))) fun x33 =>
 ifA x33
 (bindP (oFieldAddr 5 9 x3) fun x34 =>
 bindP (oFieldAddr 0 1 x34) fun x35 =>
 bindP (oLoad 1 false S x35) fun x36 =>
 bindP (oFieldAddr 5 9 x3) fun x37 =>
 bindP (oFieldAddr 1 1 x37) fun x38 =>
 bindP (oLoad 1 false S x38) fun x39 =>
 bindP (oFieldAddr 0 1 x4) fun x40 =>
 bindC (ok (oStore 1 S x40 (.int .u8 5))) (fun v Sx => bif (true && true) && true then pnA v Sx else none) fun _ S41 =>
 bindP (oFieldAddr 12 1 x4) fun x42 =>
 bindC (ok (oStore 1 S41 x42 x36)) (fun v Sx => bif (true && (((false || (chkA (oLoad 1 false S x38) x39 && chkA (oLoad 1 false S41 x38) x39)) && true) && (((false || (chkA (oLoad 1 false S x35) x36 && chkA (oLoad 1 false S41 x35) x36)) && true) && true))) && true then pnA v Sx else none) fun _ S43 =>
 bindP (oFieldAddr 13 1 x4) fun x44 =>
 bindC (ok (oStore 1 S43 x44 x39)) (fun v Sx => bif (true && (((false || (chkA (oLoad 1 false S41 x38) x39 && chkA (oLoad 1 false S43 x38) x39)) && ((false || (chkA (oLoad 1 false S x38) x39 && chkA (oLoad 1 false S41 x38) x39)) && true)) && ((true && ((false || (chkA (oLoad 1 false S x35) x36 && chkA (oLoad 1 false S41 x35) x36)) && true)) && true))) && true then pnA v Sx else none) fun _ S45 =>
 bif ((true && ((false || (chkA (oLoad 1 false S41 x38) x39 && chkA (oLoad 1 false S43 x38) x39)) && ((false || (chkA (oLoad 1 false S x38) x39 && chkA (oLoad 1 false S41 x38) x39)) && true))) && ((true && (true && ((false || (chkA (oLoad 1 false S x35) x36 && chkA (oLoad 1 false S41 x35) x36)) && true))) && true)) then
 (let S := S45;
 bif sameD [] [] then Join j20 [(.bool false), (.int .i64 0)] S else none)
 else none)
 (bindP (bE (eG (some [.i]) false false false x25 (.int .u8 3))) fun x46 =>
 ifA x46
 (bindP (oFieldAddr 0 1 x3) fun x47 =>
 bindP (oLoad 1 false S x47) fun x48 =>
 bindP (oFieldAddr 1 1 x2) fun x49 =>
 bindP (oLoad 1 false S x49) fun x50 =>
 bindP (oFieldAddr 0 1 x4) fun x51 =>
 bindC (ok (oStore 1 S x51 (.int .u8 8))) (fun v Sx => bif (true && true) && true then pnA v Sx else none) fun _ S52 =>
 bindP (oFieldAddr 10 1 x4) fun x53 =>
 bindC (ok (oStore 1 S52 x53 x48)) (fun v Sx => bif (true && (((false || (chkA (oLoad 1 false S x49) x50 && chkA (oLoad 1 false S52 x49) x50)) && true) && (((false || (chkA (oLoad 1 false S x47) x48 && chkA (oLoad 1 false S52 x47) x48)) && true) && true))) && true then pnA v Sx else none) fun _ S54 =>
 bindP (oFieldAddr 14 1 x4) fun x55 =>
 bindC (ok (oStore 1 S54 x55 x50)) (fun v Sx => bif (true && (((false || (chkA (oLoad 1 false S52 x49) x50 && chkA (oLoad 1 false S54 x49) x50)) && ((false || (chkA (oLoad 1 false S x49) x50 && chkA (oLoad 1 false S52 x49) x50)) && true)) && ((true && ((false || (chkA (oLoad 1 false S x47) x48 && chkA (oLoad 1 false S52 x47) x48)) && true)) && true))) && true then pnA v Sx else none) fun _ S56 =>
 bif ((true && ((false || (chkA (oLoad 1 false S52 x49) x50 && chkA (oLoad 1 false S54 x49) x50)) && ((false || (chkA (oLoad 1 false S x49) x50 && chkA (oLoad 1 false S52 x49) x50)) && true))) && ((true && (true && ((false || (chkA (oLoad 1 false S x47) x48 && chkA (oLoad 1 false S52 x47) x48)) && true))) && true)) then
 (let S := S56;
 bif sameD [] [] then Join j20 [(.bool false), (.int .i64 0)] S else none)
 else none)
 (bindP (bE (eG (some [.i]) false false false x25 (.int .u8 4))) fun x57 =>
 ifA x57
 (bindP (oFieldAddr 0 1 x4) fun x58 =>
 bindC (ok (oStore 1 S x58 (.int .u8 7))) pnA fun _ S =>
 bif sameD [] [] then Join j20 [(.bool false), (.int .i64 0)] S else none)
 (bindP (oFill (plS [(0, 1), (1, 1), (2, 6), (8, 1), (9, 1), (10, 1), (11, 1), (12, 1), (13, 1), (14, 1)]) [.int .u8 0, .int .i64 0, .int .i64 0, .int .i64 0, .int .i64 0, .int .i64 0, .lst .nil 0 [], .lst .nil 0 [], .int .i64 0, .int .i64 0, .int .i64 0, .int .i64 0, .int .i64 0, .int .i64 0, .int .i64 0] []) fun x59 =>
 bindC (ok (oStore 15 S x4 x59)) pnA fun _ S =>
 (resA [(oLoad 15 true S x4), (some (.bool false)), (some (.int .i64 0))]).map fun vs => (.ret (packV vs), S)))))))
theorem e450 (N : Nat) (κ : Oracles) (v0 v1 v2 v3 v4 : AV) (S : St) : runF (Cs N) κ false 450 [v0, v1, v2, v3, v4] S = s450 N κ v0 v1 v2 v3 v4 S := by kernel_rfl
/- sacristan/delay.delays -/
def s452 (N : Nat) (κ : Oracles) (v0 : AV) (S : St) : R :=
 bindC (oBox S v0) pnA fun x1 S =>
 bindP (some (.func 453 [] [x1])) fun x2 =>
 some (.ret x2, S)
theorem e452 (N : Nat) (κ : Oracles) (v0 : AV) (S : St) : runF (Cs N) κ false 452 [v0] S = s452 N κ v0 S := by kernel_rfl
/- sacristan/delay.delays$1 -/
def s453 (N : Nat) (κ : Oracles) (v0 v1 : AV) (S : St) : R :=
 bindP (oFieldAddr 3 1 v1) fun x1 =>
 bindP (oLoad 1 false S x1) fun x2 =>
 loop1 (fun vals S1 k3 =>
 let S := gcHead false S.objs.length [] vals S1;
 let x4 := vals.getD 0 .junk;
 let x5 := vals.getD 1 .junk;
 bindC (callD κ.toOracle 453 v0 [x5, x4] S) pnA fun x6 S =>
 bindP (oUn .not x6) fun x7 =>
 bindP (guardP x7 false (some x4)) fun x8 =>
 bindP (guardP x7 false (oFieldAddr 4 1 v1)) fun x9 =>
 bindP (guardP x7 false (oLoad 1 false S x9)) fun x10 =>
 bindP (guardP x7 false (bE (eG (some [.i]) false false false x8 x10))) fun x11 =>
 bindP (oPick x7 (.bool true) x11) fun x12 =>
 ifA x12
 (some (.ret (.tup []), S))
 (bindP (oArith .mul (.int .i64 2) x4) fun x13 =>
 bindP (oFieldAddr 4 1 v1) fun x14 =>
 bindP (oLoad 1 false S x14) fun x15 =>
 bindP (maxmin false [x13, x15]) fun x16 =>
 bindP (oArith .add x5 (.int .i64 1)) fun x17 =>
 bif sameD [] [] then k3 [x16, x17] S else none)) N [x2, (.int .i64 1)] S
theorem e453 (N : Nat) (κ : Oracles) (v0 v1 : AV) (S : St) : runF (Cs N) κ false 453 [v0, v1] S = s453 N κ v0 v1 S := by kernel_rfl
/- (sacristan/cmd.place).check -/
def s470 (N : Nat) (κ : Oracles) (v0 : AV) (S : St) : R :=
 bindC (oBox S v0) pnA fun x1 S =>
 bindP (oFieldAddr 0 6 x1) fun x2 =>
 bindP (oLoad 6 true S x2) fun x3 =>
 bindC (apart κ.toOracle 289 [x3] S) pnA fun x4 S =>
 some (.ret x4, S)
theorem e470 (N : Nat) (κ : Oracles) (v0 : AV) (S : St) : runF (Cs N) κ false 470 [v0] S = s470 N κ v0 S := by kernel_rfl
end Go.Sac
