/- Direct forms, printed by mksh.py. -/
import Derived.Test.YtippafigppeblaaGreatSacCfg
import Derived.KernelRfl
namespace Go.Sac
set_option linter.unusedVariables false
set_option maxRecDepth 100000
open Go
/- sacristan/slots.Save -/
def s217 (N : Nat) (κ : Oracles) (v0 v1 : AV) (S : St) : R :=
 bindC (oBox S v1) pnA fun x1 S =>
 bindP (bE (eNil kPtr v0 .nilptr)) fun x2 =>
 ifA x2
 (some (.ret (.int .i64 1), S))
 (bindP (oLoad 5 true S x1) fun x3 =>
 bindC (apart κ.toOracle 282 [x3] S) pnA fun x4 S =>
 bindP (oExt x4 0) fun x5 =>
 bindP (oExt x4 1) fun x6 =>
 bindP (bN (eG (some [.i]) false false false x6 (.int .i64 0))) fun x7 =>
 ifA x7
 (some (.ret x6, S))
 (bindC (callN κ.toOracle 169 [v0] S) pnA fun x8 S =>
 bindP (oArith .lss x8 (.int .i64 2)) fun x9 =>
 ifA x9
 (some (.ret (.int .i64 3), S))
 (bindP (oFieldAddr 0 1 x1) fun x10 =>
 bindP (oLoad 1 false S x10) fun x11 =>
 bindP (oArith .rem x11 (.int .i64 2)) fun x12 =>
 bindC (callN κ.toOracle 254 [v0, x12, x5] S) pnA fun x13 S =>
 bindP (bN (eG (some [.i]) false false false x13 (.int .i64 0))) fun x14 =>
 ifA x14
 (some (.ret x13, S))
 (bindC (callN κ.toOracle 251 [v0] S) pnA fun x15 S =>
 some (.ret x15, S)))))
theorem e217 (N : Nat) (κ : Oracles) (v0 v1 : AV) (S : St) : runF (Cs N) κ false 217 [v0, v1] S = s217 N κ v0 v1 S := by kernel_rfl
/- sacristan/state.Check -/
def s219 (N : Nat) (κ : Oracles) (v0 v1 : AV) (S : St) : R :=
 bindC (oBox S v0) pnA fun x1 S =>
 bindC (oBox S v1) pnA fun x2 S =>
 bindP (oLoad 11 true S x1) fun x3 =>
 bindC (apart κ.toOracle 31 [x3] S) pnA fun x4 S =>
 bindP (bN (eG (some [.i]) false false false x4 (.int .i64 0))) fun x5 =>
 ifA x5
 (some (.ret x4, S))
 (bindP (oFieldAddr 0 1 x2) fun x6 =>
 bindP (oLoad 1 false S x6) fun x7 =>
 bindC (apart κ.toOracle 288 [x7, (.int .i64 0), (.int .i64 1099511627776)] S) pnA fun x8 S =>
 bindP (oUn .not x8) fun x9 =>
 bindP (guardP x9 false (oFieldAddr 1 1 x2)) fun x10 =>
 bindP (guardP x9 false (oLoad 1 false S x10)) fun x11 =>
 bindC (guardC x9 false S (apart κ.toOracle 288 [x11, (.int .i64 1), (.int .i64 1099511627776)] S)) pnA fun x12 S =>
 bindP (guardP x9 false (oUn .not x12)) fun x13 =>
 bindP (oPick x9 (.bool true) x13) fun x14 =>
 bindP (guardP x14 false (oFieldAddr 2 1 x2)) fun x15 =>
 bindP (guardP x14 false (oLoad 1 false S x15)) fun x16 =>
 bindC (guardC x14 false S (apart κ.toOracle 288 [x16, (.int .i64 1), (.int .i64 1099511627776)] S)) pnA fun x17 S =>
 bindP (guardP x14 false (oUn .not x17)) fun x18 =>
 bindP (oPick x14 (.bool true) x18) fun x19 =>
 bindP (guardP x19 false (oFieldAddr 3 1 x2)) fun x20 =>
 bindP (guardP x19 false (oLoad 1 false S x20)) fun x21 =>
 bindC (guardC x19 false S (apart κ.toOracle 288 [x21, (.int .i64 (-1)), (.int .i64 1099511627776)] S)) pnA fun x22 S =>
 bindP (guardP x19 false (oUn .not x22)) fun x23 =>
 bindP (oPick x19 (.bool true) x23) fun x24 =>
 bindP (guardP x24 false (oFieldAddr 4 1 x2)) fun x25 =>
 bindP (guardP x24 false (oLoad 1 false S x25)) fun x26 =>
 bindP (guardP x24 false (oLen S (.slice 58) x26)) fun x27 =>
 bindP (guardP x24 false (oFieldAddr 3 1 x1)) fun x28 =>
 bindP (guardP x24 false (oLoad 1 false S x28)) fun x29 =>
 bindP (guardP x24 false (oArith .gtr x27 x29)) fun x30 =>
 bindP (oPick x24 (.bool true) x30) fun x31 =>
 ifA x31
 (some (.ret (.int .i64 2), S))
 (bindC (oMM S) pnA fun x32 S =>
 bindC (oMM S) pnA fun x33 S =>
 bindC (oMM S) pnA fun x34 S =>
 bindP (oFieldAddr 4 1 x2) fun x35 =>
 bindP (oLoad 1 false S x35) fun x36 =>
 bindP (oLen S (.slice 58) x36) fun x37 =>
 loop1 (fun vals S1 k38 =>
 let S := gcHead false S.objs.length [] vals S1;
 let x39 := vals.getD 0 .junk;
 let x40 := vals.getD 1 .junk;
 bindP (oArith .lss x40 x37) fun x41 =>
 ifA x41
 (bindP (oIndexAddrS 10 x36 x40) fun x42 =>
 bindP (oLoad 10 true S x42) fun x43 =>
 bindC (oAl S [.int .i64 0, .int .i64 0, .int .i64 0, .int .i64 0, .lst .nil 0 [], .lst .nil 0 [], .int .i64 0, .int .i64 0, .bool false, .lst .nil 0 []]) pnA fun x44 S =>
 bindC (ok (oStore 10 S x44 x43)) pnA fun _ S =>
 bindP (oArith .gtr x40 (.int .i64 0)) fun x45 =>
 bindP (guardP x45 true (oFieldAddr 4 1 x2)) fun x46 =>
 bindP (guardP x45 true (oLoad 1 false S x46)) fun x47 =>
 bindP (guardP x45 true (some x40)) fun x48 =>
 bindP (guardP x45 true (oArith .sub x48 (.int .i64 1))) fun x49 =>
 bindP (guardP x45 true (oIndexAddrS 10 x47 x49)) fun x50 =>
 bindP (guardP x45 true (oFieldAddr 0 6 x50)) fun x51 =>
 bindP (guardP x45 true (oFieldAddr 0 1 x51)) fun x52 =>
 bindP (guardP x45 true (oLoad 1 false S x52)) fun x53 =>
 bindP (guardP x45 true (oFieldAddr 0 6 x44)) fun x54 =>
 bindP (guardP x45 true (oFieldAddr 0 1 x54)) fun x55 =>
 bindP (guardP x45 true (oLoad 1 false S x55)) fun x56 =>
 bindP (guardP x45 true (oArith .geq x53 x56)) fun x57 =>
 bindP (oPick x45 x57 (.bool false)) fun x58 =>
 bindP (guardP x58 false (oFieldAddr 0 6 x44)) fun x59 =>
 bindP (guardP x58 false (oLoad 6 true S x59)) fun x60 =>
 bindC (guardC x58 false S (apart κ.toOracle 289 [x60] S)) (fun _ _ => none) fun x61 S62 =>
 bindP (guardP x58 false (bN (eG (some [.i]) false false false x61 (.int .i64 0)))) fun x63 =>
 bindP (oPick x58 (.bool true) x63) fun x64 =>
 bindP (guardP x64 false (oFieldAddr 6 1 x44)) fun x65 =>
 bindP (guardP x64 false (oLoad 1 false S62 x65)) fun x66 =>
 bindP (guardP x64 false (oFieldAddr 2 1 x2)) fun x67 =>
 bindP (guardP x64 false (oLoad 1 false S62 x67)) fun x68 =>
 bindP (guardP x64 false (oArith .sub x68 (.int .i64 1))) fun x69 =>
 bindC (guardC x64 false S62 (apart κ.toOracle 288 [x66, (.int .i64 1), x69] S62)) (fun _ _ => none) fun x70 S71 =>
 bindP (guardP x64 false (oUn .not x70)) fun x72 =>
 bindP (oPick x64 (.bool true) x72) fun x73 =>
 bindP (guardP x73 false (oFieldAddr 7 1 x44)) fun x74 =>
 bindP (guardP x73 false (oLoad 1 false S71 x74)) fun x75 =>
 bindP (guardP x73 false (oFieldAddr 3 1 x1)) fun x76 =>
 bindP (guardP x73 false (oLoad 1 false S71 x76)) fun x77 =>
 bindP (guardP x73 false (oArith .sub x77 (.int .i64 1))) fun x78 =>
 bindC (guardC x73 false S71 (apart κ.toOracle 288 [x75, (.int .i64 0), x78] S71)) (fun _ _ => none) fun x79 S80 =>
 bindP (guardP x73 false (oUn .not x79)) fun x81 =>
 bindP (oPick x73 (.bool true) x81) fun x82 =>
 bindP (guardP x82 false (some x32)) fun x83 =>
 bindP (guardP x82 false (oFieldAddr 6 1 x44)) fun x84 =>
 bindP (guardP x82 false (oLoad 1 false S80 x84)) fun x85 =>
 bindP (guardP x82 false (oLook (some [.i]) false (pack false [.bool false]) S80 x83 x85 false)) fun x86 =>
 bindP (oPick x82 (.bool true) x86) fun x87 =>
 bindP (guardP x87 false (some x33)) fun x88 =>
 bindP (guardP x87 false (oFieldAddr 7 1 x44)) fun x89 =>
 bindP (guardP x87 false (oLoad 1 false S80 x89)) fun x90 =>
 bindP (guardP x87 false (oLook (some [.i]) false (pack false [.bool false]) S80 x88 x90 false)) fun x91 =>
 bindP (oPick x87 (.bool true) x91) fun x92 =>
 bindP (guardP x92 false (oLoad 10 true S80 x44)) fun x93 =>
 bindP (guardP x92 false (oFieldAddr 1 1 x2)) fun x94 =>
 bindP (guardP x92 false (oLoad 1 false S80 x94)) fun x95 =>
 bindP (guardP x92 false (some x34)) fun x96 =>
 bindC (guardC x92 false S80 (callN κ.toOracle 290 [x93, x95, x96] S80)) (fun v Sx => bif (true && true) && true then pnA v Sx else none) fun x97 S98 =>
 bindP (guardP x92 false (oUn .not x97)) fun x99 =>
 bindP (oPick x92 (.bool true) x99) fun x100 =>
 bif true then
 (let S := S98;
 ifA x100
 (some (.ret (.int .i64 2), S))
 (bindP (oFieldAddr 6 1 x44) fun x101 =>
 bindP (oLoad 1 false S x101) fun x102 =>
 bindP (oFieldAddr 7 1 x44) fun x103 =>
 bindP (oLoad 1 false S x103) fun x104 =>
 bindC (ok (oMUp (some [.i]) false S x32 x102 (.bool true))) (fun v Sx => bif (true && true) && true then pnA v Sx else none) fun _ S105 =>
 bindC (ok (oMUp (some [.i]) false S105 x33 x104 (.bool true))) (fun v Sx => bif (true && (((false || (chkA (oLoad 1 false S x103) x104 && chkA (oLoad 1 false S105 x103) x104)) && true) && ((true && true) && true))) && true then pnA v Sx else none) fun _ S106 =>
 bif ((true && ((false || (chkA (oLoad 1 false S x103) x104 && chkA (oLoad 1 false S105 x103) x104)) && true)) && ((true && (true && true)) && true)) then
 (let S := S106;
 bindP (oArith .add x40 (.int .i64 1)) fun x107 =>
 bif sameD [] [] then k38 [x39, x107] S else none)
 else none))
 else none)
 (bindP (oLoad 11 true S x1) fun x108 =>
 bindP (oLoad 5 true S x2) fun x109 =>
 bindP (oFill (plS [(0, 1), (1, 1), (2, 1)]) [.int .i64 0, .int .i64 0, .int .i64 0] []) fun x110 =>
 bindC (apart κ.toOracle 291 [x108, x109, x110] S) pnA fun x111 S =>
 bindP (oUn .not x111) fun x112 =>
 bindP (guardP x112 false (oLoad 5 true S x2)) fun x113 =>
 bindC (guardC x112 false S (apart κ.toOracle 292 [x113] S)) pnA fun x114 S =>
 bindP (guardP x112 false (oUn .not x114)) fun x115 =>
 bindP (oPick x112 (.bool true) x115) fun x116 =>
 ifA x116
 (some (.ret (.int .i64 2), S))
 (some (.ret (.int .i64 0), S)))) N [(.int .i64 0), (.int .i64 0)] S))
theorem e219 (N : Nat) (κ : Oracles) (v0 v1 : AV) (S : St) : runF (Cs N) κ false 219 [v0, v1] S = s219 N κ v0 v1 S := by kernel_rfl
/- sacristan/rec.uses -/
def s220 (N : Nat) (κ : Oracles) (v0 : AV) (S : St) : R :=
 let j1 : List AV → St → R := (fun vals S =>
 let x2 := vals.getD 0 .junk;
 some (.ret x2, S));
 let j3 : List AV → St → R := (fun vals S =>
 let x4 := vals.getD 0 .junk;
 bindP (oArith .or x4 (.int .i64 5)) fun x5 =>
 bif sameD [] [] then Join j1 [x5] S else none);
 let j6 : List AV → St → R := (fun vals S =>
 let x7 := vals.getD 0 .junk;
 bindP (oArith .or x7 (.int .i64 12)) fun x8 =>
 bif sameD [] [] then Join j1 [x8] S else none);
 let j9 : List AV → St → R := (fun vals S =>
 let x10 := vals.getD 0 .junk;
 bindP (oArith .or x10 (.int .i64 16)) fun x11 =>
 bif sameD [] [] then Join j6 [x11] S else none);
 let j12 : List AV → St → R := (fun vals S =>
 let x13 := vals.getD 0 .junk;
 bif sameD [] [] then Join j1 [x13] S else none);
 bindP (bE (eG (some [.i]) false false false v0 (.int .u8 8))) fun x14 =>
 ifA x14
 (bindP (oArith .or (.int .i64 0) (.int .i64 256)) fun x15 =>
 bif sameD [] [] then Join j9 [x15] S else none)
 (bindP (bE (eG (some [.i]) false false false v0 (.int .u8 4))) fun x16 =>
 ifA x16
 (bif sameD [] [] then Join j9 [(.int .i64 0)] S else none)
 (let j17 : List AV → St → R := (fun vals S =>
 let x18 := vals.getD 0 .junk;
 bindP (bE (eG (some [.i]) false false false v0 (.int .u8 2))) fun x19 =>
 ifA x19
 (bindP (oArith .or (.int .i64 0) (.int .i64 48)) fun x20 =>
 bif sameD [] [] then Join j3 [x20] S else none)
 (bindP (bE (eG (some [.i]) false false false v0 (.int .u8 3))) fun x21 =>
 ifA x21
 (bif sameD [] [] then Join j3 [(.int .i64 0)] S else none)
 (bindP (bE (eG (some [.i]) false false false v0 (.int .u8 1))) fun x22 =>
 ifA x22
 (bif sameD [] [] then Join j1 [(.int .i64 3)] S else none)
 (bindP (bE (eG (some [.i]) false false false v0 (.int .u8 5))) fun x23 =>
 ifA x23
 (bif sameD [] [] then Join j1 [(.int .i64 204)] S else none)
 (bindP (bE (eG (some [.i]) false false false v0 (.int .u8 9))) fun x24 =>
 ifA x24
 (bif sameD [] [] then Join j1 [(.int .i64 16)] S else none)
 (bif sameD [] [] then Join j12 [(.int .i64 0)] S else none))))));
 let j25 : List AV → St → R := (fun vals S =>
 let x26 := vals.getD 0 .junk;
 ifA x26
 (bif sameD [] [] then Join j6 [(.int .i64 0)] S else none)
 (bif sameD [] [] then Join j17 [x26] S else none));
 bindP (bE (eG (some [.i]) false false false v0 (.int .u8 6))) fun x27 =>
 ifA x27
 (bif sameD [] [] then Join j25 [x27] S else none)
 (bindP (bE (eG (some [.i]) false false false v0 (.int .u8 7))) fun x28 =>
 bif sameD [] [] then Join j25 [x28] S else none)))
theorem e220 (N : Nat) (κ : Oracles) (v0 : AV) (S : St) : runF (Cs N) κ false 220 [v0] S = s220 N κ v0 S := by kernel_rfl
/- sacristan/rec.fields -/
def s221 (N : Nat) (κ : Oracles) (v0 : AV) (S : St) : R :=
 bindP (oNilC v0) fun x1 =>
 bindP (oFieldAddr 1 1 x1) fun x2 =>
 bindP (oFill (plS [(0, 1), (1, 1), (2, 1)]) [.int .i64 0, .nilptr, .int .i64 0] [(0, (.int .i64 1)), (1, x2), (2, (.int .i64 1099511627776))]) fun x3 =>
 bindP (oNilC v0) fun x4 =>
 bindP (oFieldAddr 8 1 x4) fun x5 =>
 bindP (oFill (plS [(0, 1), (1, 1), (2, 1)]) [.int .i64 0, .nilptr, .int .i64 0] [(0, (.int .i64 4)), (1, x5), (2, (.int .i64 2147483648))]) fun x6 =>
 bindP (oNilC v0) fun x7 =>
 bindP (oFieldAddr 9 1 x7) fun x8 =>
 bindP (oFill (plS [(0, 1), (1, 1), (2, 1)]) [.int .i64 0, .nilptr, .int .i64 0] [(0, (.int .i64 8)), (1, x8), (2, (.int .i64 3))]) fun x9 =>
 bindP (oNilC v0) fun x10 =>
 bindP (oFieldAddr 10 1 x10) fun x11 =>
 bindP (oFill (plS [(0, 1), (1, 1), (2, 1)]) [.int .i64 0, .nilptr, .int .i64 0] [(0, (.int .i64 16)), (1, x11), (2, (.int .i64 1099511627776))]) fun x12 =>
 bindP (oNilC v0) fun x13 =>
 bindP (oFieldAddr 11 1 x13) fun x14 =>
 bindP (oFill (plS [(0, 1), (1, 1), (2, 1)]) [.int .i64 0, .nilptr, .int .i64 0] [(0, (.int .i64 32)), (1, x14), (2, (.int .i64 1099511627776))]) fun x15 =>
 bindP (oNilC v0) fun x16 =>
 bindP (oFieldAddr 12 1 x16) fun x17 =>
 bindP (oFill (plS [(0, 1), (1, 1), (2, 1)]) [.int .i64 0, .nilptr, .int .i64 0] [(0, (.int .i64 64)), (1, x17), (2, (.int .i64 1099511627776))]) fun x18 =>
 bindP (oNilC v0) fun x19 =>
 bindP (oFieldAddr 13 1 x19) fun x20 =>
 bindP (oFill (plS [(0, 1), (1, 1), (2, 1)]) [.int .i64 0, .nilptr, .int .i64 0] [(0, (.int .i64 128)), (1, x20), (2, (.int .i64 1099511627776))]) fun x21 =>
 bindC (oBS S 3 [.int .i64 0, .nilptr, .int .i64 0] 7 [(0, x3), (1, x6), (2, x9), (3, x12), (4, x15), (5, x18), (6, x21)]) (fun _ _ => none) fun x22 S23 =>
 bif true then
 (let S := S23;
 some (.ret x22, S))
 else none
theorem e221 (N : Nat) (κ : Oracles) (v0 : AV) (S : St) : runF (Cs N) κ false 221 [v0] S = s221 N κ v0 S := by kernel_rfl
/- sacristan/rec.Check -/
def s223 (N : Nat) (κ : Oracles) (v0 : AV) (S : St) : R :=
 bindC (oBox S v0) pnA fun x1 S =>
 bindP (oFieldAddr 0 1 x1) fun x2 =>
 bindP (oLoad 1 false S x2) fun x3 =>
 bindC (apart κ.toOracle 220 [x3] S) pnA fun x4 S =>
 bindP (bE (eG (some [.i]) false false false x4 (.int .i64 0))) fun x5 =>
 bindP (guardP x5 false (some x4)) fun x6 =>
 bindP (guardP x5 false (oArith .and x6 (.int .i64 256))) fun x7 =>
 bindP (guardP x5 false (bN (eG (some [.i]) false false false x7 (.int .i64 0)))) fun x8 =>
 bindP (guardP x5 false (oFieldAddr 14 1 x1)) fun x9 =>
 bindP (guardP x5 false (oLoad 1 false S x9)) fun x10 =>
 bindC (guardC x5 false S (apart κ.toOracle 295 [x8, x10] S)) pnA fun x11 S =>
 bindP (guardP x5 false (oUn .not x11)) fun x12 =>
 bindP (oPick x5 (.bool true) x12) fun x13 =>
 bindP (guardP x13 false (some x4)) fun x14 =>
 bindP (guardP x13 false (oArith .and x14 (.int .i64 2))) fun x15 =>
 bindP (guardP x13 false (bE (eG (some [.i]) false false false x15 (.int .i64 0)))) fun x16 =>
 bindP (guardP x13 false (some x16)) fun x17 =>
 bindP (guardP x17 true (oFieldAddr 2 6 x1)) fun x18 =>
 bindP (guardP x17 true (oLoad 6 true S x18)) fun x19 =>
 bindP (guardP x17 true (oFill (plS [(0, 1), (1, 3), (4, 1), (5, 1)]) [.int .i64 0, .int .i64 0, .int .i64 0, .int .i64 0, .lst .nil 0 [], .lst .nil 0 []] [])) fun x20 =>
 bindC (guardC x17 true S (apart κ.toOracle 296 [x19, x20] S)) pnA fun x21 S =>
 bindP (guardP x17 true (oUn .not x21)) fun x22 =>
 bindP (guardP x13 false (oPick x17 x22 (.bool false))) fun x23 =>
 bindP (oPick x13 (.bool true) x23) fun x24 =>
 ifA x24
 (some (.ret (.int .i64 2), S))
 (bindC (callN κ.toOracle 221 [x1] S) pnA fun x25 S =>
 bindP (oLen S (.slice 337) x25) fun x26 =>
 loop1 (fun vals S1 k27 =>
 let S := gcHead false S.objs.length [] vals S1;
 let x28 := vals.getD 0 .junk;
 let x29 := vals.getD 1 .junk;
 bindP (oArith .lss x29 x26) fun x30 =>
 ifA x30
 (bindP (oIndexAddrS 3 x25 x29) fun x31 =>
 bindP (oLoad 3 true S x31) fun x32 =>
 bindC (oAl S [.int .i64 0, .nilptr, .int .i64 0]) pnA fun x33 S =>
 bindC (ok (oStore 3 S x33 x32)) pnA fun _ S =>
 bindP (oFieldAddr 0 1 x33) fun x34 =>
 bindP (oLoad 1 false S x34) fun x35 =>
 bindP (oArith .and x4 x35) fun x36 =>
 bindP (bN (eG (some [.i]) false false false x36 (.int .i64 0))) fun x37 =>
 bindP (oFieldAddr 1 1 x33) fun x38 =>
 bindP (oLoad 1 false S x38) fun x39 =>
 bindP (oNilC x39) fun x40 =>
 bindP (oLoad 1 false S x40) fun x41 =>
 bindC (apart κ.toOracle 295 [x37, x41] S) (fun _ _ => none) fun x42 S43 =>
 bindP (oUn .not x42) fun x44 =>
 bif true then
 (let S := S43;
 ifA x44
 (some (.ret (.int .i64 2), S))
 (bindP (oArith .add x29 (.int .i64 1)) fun x45 =>
 bif sameD [] [] then k27 [x28, x45] S else none))
 else none)
 (bindC (callN κ.toOracle 221 [x1] S) pnA fun x46 S =>
 bindP (oLen S (.slice 337) x46) fun x47 =>
 loop1 (fun vals S1 k48 =>
 let S := gcHead false S.objs.length [] vals S1;
 let x49 := vals.getD 0 .junk;
 let x50 := vals.getD 1 .junk;
 bindP (oArith .lss x50 x47) fun x51 =>
 ifA x51
 (bindP (oIndexAddrS 3 x46 x50) fun x52 =>
 bindP (oLoad 3 true S x52) fun x53 =>
 bindC (oAl S [.int .i64 0, .nilptr, .int .i64 0]) pnA fun x54 S =>
 bindC (ok (oStore 3 S x54 x53)) pnA fun _ S =>
 bindP (oFieldAddr 0 1 x54) fun x55 =>
 bindP (oLoad 1 false S x55) fun x56 =>
 bindP (oArith .and x4 x56) fun x57 =>
 bindP (bN (eG (some [.i]) false false false x57 (.int .i64 0))) fun x58 =>
 bindP (guardP x58 true (oFieldAddr 1 1 x54)) fun x59 =>
 bindP (guardP x58 true (oLoad 1 false S x59)) fun x60 =>
 bindP (guardP x58 true (oNilC x60)) fun x61 =>
 bindP (guardP x58 true (oLoad 1 false S x61)) fun x62 =>
 bindP (guardP x58 true (oArith .lss x62 (.int .i64 0))) fun x63 =>
 bindP (guardP x58 true (some x63)) fun x64 =>
 bindP (guardP x64 false (oFieldAddr 1 1 x54)) fun x65 =>
 bindP (guardP x64 false (oLoad 1 false S x65)) fun x66 =>
 bindP (guardP x64 false (oNilC x66)) fun x67 =>
 bindP (guardP x64 false (oLoad 1 false S x67)) fun x68 =>
 bindP (guardP x64 false (oFieldAddr 2 1 x54)) fun x69 =>
 bindP (guardP x64 false (oLoad 1 false S x69)) fun x70 =>
 bindP (guardP x64 false (oArith .gtr x68 x70)) fun x71 =>
 bindP (guardP x58 true (oPick x64 (.bool true) x71)) fun x72 =>
 bindP (oPick x58 x72 (.bool false)) fun x73 =>
 bif true then
 (let S := S;
 ifA x73
 (some (.ret (.int .i64 3), S))
 (bindP (oArith .add x50 (.int .i64 1)) fun x74 =>
 bif sameD [] [] then k48 [x49, x74] S else none))
 else none)
 (bindP (oArith .and x4 (.int .i64 2)) fun x75 =>
 bindP (bN (eG (some [.i]) false false false x75 (.int .i64 0))) fun x76 =>
 ifA x76
 (bindP (oFieldAddr 2 6 x1) fun x77 =>
 bindP (oLoad 6 true S x77) fun x78 =>
 bindC (apart κ.toOracle 289 [x78] S) pnA fun x79 S =>
 some (.ret x79, S))
 (some (.ret (.int .i64 0), S)))) N [x28, (.int .i64 0)] S)) N [(.int .i64 0), (.int .i64 0)] S)
theorem e223 (N : Nat) (κ : Oracles) (v0 : AV) (S : St) : runF (Cs N) κ false 223 [v0] S = s223 N κ v0 S := by kernel_rfl
/- sacristan/state.table -/
def s224 (N : Nat) (κ : Oracles) (S : St) : R :=
 bindC (oMM S) pnA fun x1 S =>
 bindC (ok (oMUp (some [.i]) false S x1 (.int .u8 1) (.func 297 [] []))) pnA fun _ S =>
 bindC (ok (oMUp (some [.i]) false S x1 (.int .u8 2) (.func 298 [] []))) pnA fun _ S =>
 bindC (ok (oMUp (some [.i]) false S x1 (.int .u8 3) (.func 299 [] []))) pnA fun _ S =>
 bindC (ok (oMUp (some [.i]) false S x1 (.int .u8 4) (.func 300 [] []))) pnA fun _ S =>
 bindC (ok (oMUp (some [.i]) false S x1 (.int .u8 5) (.func 301 [] []))) pnA fun _ S =>
 bindC (ok (oMUp (some [.i]) false S x1 (.int .u8 6) (.func 301 [] []))) pnA fun _ S =>
 bindC (ok (oMUp (some [.i]) false S x1 (.int .u8 7) (.func 301 [] []))) pnA fun _ S =>
 bindC (ok (oMUp (some [.i]) false S x1 (.int .u8 8) (.func 301 [] []))) pnA fun _ S =>
 bindC (ok (oMUp (some [.i]) false S x1 (.int .u8 9) (.func 302 [] []))) pnA fun _ S =>
 some (.ret x1, S)
theorem e224 (N : Nat) (κ : Oracles) (S : St) : runF (Cs N) κ false 224 [] S = s224 N κ S := by kernel_rfl
/- (*sacristan/disk.Disk).has -/
def s225 (N : Nat) (κ : Oracles) (v0 v1 : AV) (S : St) : R :=
 bindP (bE (eNil kPtr v0 .nilptr)) fun x1 =>
 ifA x1
 (some (.ret (.int .i64 1), S))
 (bindP (oArith .lss v1 (.int .i64 0)) fun x2 =>
 bindP (guardP x2 false (some v1)) fun x3 =>
 bindP (guardP x2 false (some v0)) fun x4 =>
 bindP (guardP x2 false (oNilC x4)) fun x5 =>
 bindP (guardP x2 false (oFieldAddr 0 5 x5)) fun x6 =>
 bindP (guardP x2 false (oFieldAddr 1 1 x6)) fun x7 =>
 bindP (guardP x2 false (oLoad 1 false S x7)) fun x8 =>
 bindP (guardP x2 false (oArith .geq x3 x8)) fun x9 =>
 bindP (oPick x2 (.bool true) x9) fun x10 =>
 ifA x10
 (some (.ret (.int .i64 3), S))
 (some (.ret (.int .i64 0), S)))
theorem e225 (N : Nat) (κ : Oracles) (v0 v1 : AV) (S : St) : runF (Cs N) κ false 225 [v0, v1] S = s225 N κ v0 v1 S := by kernel_rfl
/- slices.Backward[[]sacristan/disk.write,sacristan/disk.write] -/
def s226 (N : Nat) (κ : Oracles) (v0 : AV) (S : St) : R :=
 bindC (oBox S v0) pnA fun x1 S =>
 bindP (some (.func 303 [] [x1])) fun x2 =>
 some (.ret x2, S)
theorem e226 (N : Nat) (κ : Oracles) (v0 : AV) (S : St) : runF (Cs N) κ false 226 [v0] S = s226 N κ v0 S := by kernel_rfl
/- sacristan/lease.Fenced -/
def s227 (N : Nat) (κ : Oracles) (v0 v1 v2 : AV) (S : St) : R :=
 bindC (oBox S v0) pnA fun x1 S =>
 bindP (oLoad 11 true S x1) fun x2 =>
 bindC (callN κ.toOracle 304 [(.func 305 [] []), x2, v1, v2] S) pnA fun x3 S =>
 bindP (oExt x3 0) fun x4 =>
 bindP (oExt x3 1) fun x5 =>
 some (.ret (.tup [x4, x5]), S)
theorem e227 (N : Nat) (κ : Oracles) (v0 v1 v2 : AV) (S : St) : runF (Cs N) κ false 227 [v0, v1, v2] S = s227 N κ v0 v1 v2 S := by kernel_rfl
/- (sacristan/boot.judge).keeps -/
def s228 (N : Nat) (κ : Oracles) (v0 v1 : AV) (S : St) : R :=
 bindC (oBox S v0) pnA fun x1 S =>
 bindC (oBox S v1) pnA fun x2 S =>
 bindP (oFieldAddr 0 5 x1) fun x3 =>
 bindP (oLoad 5 true S x3) fun x4 =>
 bindP (oFieldAddr 2 3 x2) fun x5 =>
 bindP (oLoad 3 true S x5) fun x6 =>
 bindC (apart κ.toOracle 186 [x4, x6] S) pnA fun x7 S =>
 bindP (oExt x7 0) fun x8 =>
 bindP (oExt x7 1) fun x9 =>
 bindP (oExt x7 2) fun x10 =>
 bindP (oFieldAddr 5 1 x2) fun x11 =>
 bindP (oLoad 1 false S x11) fun x12 =>
 bindP (guardP x12 true (some x10)) fun x13 =>
 bindP (oPick x12 x13 (.bool false)) fun x14 =>
 bindP (guardP x14 true (oFieldAddr 5 1 x1)) fun x15 =>
 bindP (guardP x14 true (oLoad 1 false S x15)) fun x16 =>
 bindP (guardP x14 true (oUn .not x16)) fun x17 =>
 bindP (oPick x14 x17 (.bool false)) fun x18 =>
 some (.ret x18, S)
theorem e228 (N : Nat) (κ : Oracles) (v0 v1 : AV) (S : St) : runF (Cs N) κ false 228 [v0, v1] S = s228 N κ v0 v1 S := by kernel_rfl
/- (*sacristan/fuse.Fuse).Burn -/
def s229 (N : Nat) (κ : Oracles) (v0 : AV) (S : St) : R :=
 bindP (bE (eNil kPtr v0 .nilptr)) fun x1 =>
 ifA x1
 (some (.ret (.int .i64 1), S))
 (bindP (oNilC v0) fun x2 =>
 bindP (oFieldAddr 2 1 x2) fun x3 =>
 bindP (oLoad 1 false S x3) fun x4 =>
 bindC (callD κ.toOracle 229 x4 [v0] S) pnA fun x5 S =>
 some (.ret x5, S))
theorem e229 (N : Nat) (κ : Oracles) (v0 : AV) (S : St) : runF (Cs N) κ false 229 [v0] S = s229 N κ v0 S := by kernel_rfl
/- sacristan/lease.Due -/
def s230 (N : Nat) (κ : Oracles) (v0 v1 v2 : AV) (S : St) : R :=
 bindC (oBox S v0) pnA fun x1 S =>
 bindP (oLoad 11 true S x1) fun x2 =>
 bindC (callN κ.toOracle 304 [(.func 306 [] []), x2, v1, v2] S) pnA fun x3 S =>
 bindP (oExt x3 0) fun x4 =>
 bindP (oExt x3 1) fun x5 =>
 some (.ret (.tup [x4, x5]), S)
theorem e230 (N : Nat) (κ : Oracles) (v0 v1 v2 : AV) (S : St) : runF (Cs N) κ false 230 [v0, v1, v2] S = s230 N κ v0 v1 v2 S := by kernel_rfl
/- (*sacristan/beat.Net).Send -/
def s231 (N : Nat) (κ : Oracles) (v0 v1 : AV) (S : St) : R :=
 bindP (bE (eNil kPtr v0 .nilptr)) fun x1 =>
 ifA x1
 (some (.ret (.int .i64 1), S))
 (bindP (oArith .lss v1 (.int .i64 0)) fun x2 =>
 bindP (guardP x2 false (some v1)) fun x3 =>
 bindP (guardP x2 false (oArith .gtr x3 (.int .i64 1099511627776))) fun x4 =>
 bindP (oPick x2 (.bool true) x4) fun x5 =>
 ifA x5
 (some (.ret (.int .i64 2), S))
 (bindP (oNilC v0) fun x6 =>
 bindP (oFieldAddr 0 1 x6) fun x7 =>
 bindP (oLoad 1 false S x7) fun x8 =>
 bindC (callN κ.toOracle 229 [x8] S) pnA fun x9 S =>
 bindP (bN (eG (some [.i]) false false false x9 (.int .i64 0))) fun x10 =>
 ifA x10
 (some (.ret x9, S))
 (bindP (oNilC v0) fun x11 =>
 bindP (oFieldAddr 1 1 x11) fun x12 =>
 bindP (oLoad 1 false S x12) fun x13 =>
 bindC (oBS S 1 [.int .i64 0] 1 [(0, v1)]) pnA fun x14 S =>
 bindC (oApp false 1 8 S x13 x14) pnA fun x15 S =>
 bindP (oNilC v0) fun x16 =>
 bindP (oFieldAddr 1 1 x16) fun x17 =>
 bindC (ok (oStore 1 S x17 x15)) pnA fun _ S =>
 some (.ret (.int .i64 0), S))))
theorem e231 (N : Nat) (κ : Oracles) (v0 v1 : AV) (S : St) : runF (Cs N) κ false 231 [v0, v1] S = s231 N κ v0 v1 S := by kernel_rfl
/- (*sacristan/agent.Agent).next -/
def s232 (N : Nat) (κ : Oracles) (v0 v1 v2 : AV) (S : St) : R :=
 bindP (oNilC v0) fun x1 =>
 bindP (oFieldAddr 0 1 x1) fun x2 =>
 bindP (oLoad 1 false S x2) fun x3 =>
 bindC (callN κ.toOracle 108 [x3] S) pnA fun x4 S =>
 bindP (oFill (plS [(0, 1), (1, 1), (2, 5), (7, 15), (22, 2)]) [.int .i64 0, .int .i64 0, .int .i64 0, .int .i64 0, .int .i64 0, .int .i64 0, .lst .nil 0 [], .int .i64 0, .bool false, .bool false, .bool false, .bool false, .int .i64 0, .int .i64 0, .int .i64 0, .int .i64 0, .int .i64 0, .bool false, .bool false, .bool false, .int .i64 0, .bool false, .int .u8 0, .int .i64 0] [(0, v1), (1, v2), (2, x4)]) fun x5 =>
 bindC (oAl S [.int .i64 0, .int .i64 0, .int .i64 0, .int .i64 0, .int .i64 0, .int .i64 0, .lst .nil 0 [], .int .i64 0, .bool false, .bool false, .bool false, .bool false, .int .i64 0, .int .i64 0, .int .i64 0, .int .i64 0, .int .i64 0, .bool false, .bool false, .bool false, .int .i64 0, .bool false, .int .u8 0, .int .i64 0]) pnA fun x6 S =>
 bindC (ok (oStore 24 S x6 x5)) pnA fun _ S =>
 bindP (oFieldAddr 2 5 x6) fun x7 =>
 bindP (oFieldAddr 4 1 x7) fun x8 =>
 bindP (oLoad 1 false S x8) fun x9 =>
 bindP (oIndexAddrS 10 x9 v1) fun x10 =>
 bindP (oLoad 10 true S x10) fun x11 =>
 bindC (oAl S [.int .i64 0, .int .i64 0, .int .i64 0, .int .i64 0, .lst .nil 0 [], .lst .nil 0 [], .int .i64 0, .int .i64 0, .bool false, .lst .nil 0 []]) pnA fun x12 S =>
 bindC (ok (oStore 10 S x12 x11)) pnA fun _ S =>
 bindC (oAl S [.int .i64 0, .int .i64 0, .int .i64 0]) (fun _ _ => none) fun x13 S =>
 bindP (oFieldAddr 0 6 x12) fun x14 =>
 bindP (oFieldAddr 0 1 x14) fun x15 =>
 bindP (oLoad 1 false S x15) fun x16 =>
 bindP (oFieldAddr 9 1 x12) fun x17 =>
 bindP (oLoad 1 false S x17) fun x18 =>
 bindP (oIndexAddrS 8 x18 v2) fun x19 =>
 bindP (oFieldAddr 1 1 x19) fun x20 =>
 bindP (oLoad 1 false S x20) fun x21 =>
 bindP (oFill (plS [(0, 1), (1, 1), (2, 1)]) [.int .i64 0, .int .i64 0, .int .i64 0] [(0, x16), (1, v2), (2, x21)]) fun x22 =>
 bindC (ok (oStore 3 S x13 x22)) (fun v Sx => bif (true && true) && true then pnA v Sx else none) fun _ S23 =>
 bif true then
 (let S := S23;
 bindP (oNilC v0) fun x24 =>
 bindP (oFieldAddr 14 1 x24) fun x25 =>
 bindP (oLoad 1 false S x25) fun x26 =>
 bindP (oLoad 3 true S x13) fun x27 =>
 bindP (oFieldAddr 0 6 x12) fun x28 =>
 bindP (oFieldAddr 5 1 x28) fun x29 =>
 bindP (oLoad 1 false S x29) fun x30 =>
 bindP (oIndexAddrS 6 x30 v2) fun x31 =>
 bindP (oFieldAddr 5 1 x31) fun x32 =>
 bindP (oLoad 1 false S x32) fun x33 =>
 bindC (callN κ.toOracle 307 [x26, x27, x33] S) (fun v Sx => bif (true && true) && true then pnA v Sx else none) fun x34 S35 =>
 bif true then
 (let S := S35;
 bindP (oNilC v0) fun x36 =>
 bindP (oFieldAddr 1 11 x36) fun x37 =>
 bindP (oLoad 11 true S x37) fun x38 =>
 bindP (oFieldAddr 2 5 x6) fun x39 =>
 bindP (oLoad 5 true S x39) fun x40 =>
 bindP (oNilC v0) fun x41 =>
 bindP (oFieldAddr 12 1 x41) fun x42 =>
 bindP (oLoad 1 false S x42) fun x43 =>
 bindC (callN κ.toOracle 33 [x43] S) (fun v Sx => bif (true && true) && (rfA (some v0) fun x46 => (rfA (oNilC x46) fun x47 => (rfA (oFieldAddr 12 1 x47) fun x48 => false))) then pnA v Sx else none) fun x44 S45 =>
 bindP (oNilC v0) fun x49 =>
 bindP (oFieldAddr 12 1 x49) fun x50 =>
 bindP (oLoad 1 false S45 x50) fun x51 =>
 bindC (callN κ.toOracle 40 [x51] S45) (fun v Sx => bif (true && (((false || (chkA (oLoad 1 false S x50) x51 && chkA (oLoad 1 false S45 x50) x51)) && true) && ((true && true) && (((false || (chkA (oLoad 5 true S x39) x40 && chkA (oLoad 5 true S45 x39) x40)) && true) && (((false || (chkA (oLoad 11 true S x37) x38 && chkA (oLoad 11 true S45 x37) x38)) && true) && true))))) && true then pnA v Sx else none) fun x52 S53 =>
 bindC (callN κ.toOracle 95 [x52] S53) (fun v Sx => bif (true && ((true && ((false || (chkA (oLoad 1 false S x50) x51 && chkA (oLoad 1 false S45 x50) x51)) && true)) && ((true && (true && true)) && (((false || (chkA (oLoad 5 true S45 x39) x40 && chkA (oLoad 5 true S53 x39) x40)) && ((false || (chkA (oLoad 5 true S x39) x40 && chkA (oLoad 5 true S45 x39) x40)) && true)) && (((false || (chkA (oLoad 11 true S45 x37) x38 && chkA (oLoad 11 true S53 x37) x38)) && ((false || (chkA (oLoad 11 true S x37) x38 && chkA (oLoad 11 true S45 x37) x38)) && true)) && true))))) && true then pnA v Sx else none) fun x54 S55 =>
 bindC (apart κ.toOracle 308 [x38, x40, v1, v2, x34, x44, x54] S55) (fun _ _ => none) fun x56 S57 =>
 bindP (oExt x56 0) fun x58 =>
 bindP (oExt x56 1) fun x59 =>
 bindP (oFieldAddr 7 15 x6) fun x60 =>
 bindC (ok (oStore 15 S57 x60 x58)) (fun v Sx => bif (true && ((true && (true && (true && true))) && ((true && (true && ((false || (chkA (oLoad 1 false S x50) x51 && chkA (oLoad 1 false S45 x50) x51)) && true))) && ((true && (true && (true && true))) && (((false || (chkA (oLoad 5 true S53 x39) x40 && chkA (oLoad 5 true S55 x39) x40)) && ((false || (chkA (oLoad 5 true S45 x39) x40 && chkA (oLoad 5 true S53 x39) x40)) && ((false || (chkA (oLoad 5 true S x39) x40 && chkA (oLoad 5 true S45 x39) x40)) && true))) && (((false || (chkA (oLoad 11 true S53 x37) x38 && chkA (oLoad 11 true S55 x37) x38)) && ((false || (chkA (oLoad 11 true S45 x37) x38 && chkA (oLoad 11 true S53 x37) x38)) && ((false || (chkA (oLoad 11 true S x37) x38 && chkA (oLoad 11 true S45 x37) x38)) && true))) && true)))))) && true then pnA v Sx else none) fun _ S61 =>
 bif ((true && (true && (true && (true && true)))) && ((true && (true && (true && ((false || (chkA (oLoad 1 false S x50) x51 && chkA (oLoad 1 false S45 x50) x51)) && true)))) && ((true && (true && (true && (true && true)))) && ((true && ((false || (chkA (oLoad 5 true S53 x39) x40 && chkA (oLoad 5 true S55 x39) x40)) && ((false || (chkA (oLoad 5 true S45 x39) x40 && chkA (oLoad 5 true S53 x39) x40)) && ((false || (chkA (oLoad 5 true S x39) x40 && chkA (oLoad 5 true S45 x39) x40)) && true)))) && ((true && ((false || (chkA (oLoad 11 true S53 x37) x38 && chkA (oLoad 11 true S55 x37) x38)) && ((false || (chkA (oLoad 11 true S45 x37) x38 && chkA (oLoad 11 true S53 x37) x38)) && ((false || (chkA (oLoad 11 true S x37) x38 && chkA (oLoad 11 true S45 x37) x38)) && true)))) && true))))) then
 (let S := S61;
 bindP (bN (eG (some [.i]) false false false x59 (.int .i64 0))) fun x62 =>
 ifA x62
 (some (.ret x59, S))
 (bindP (oFieldAddr 9 1 x12) fun x63 =>
 bindP (oLoad 1 false S x63) fun x64 =>
 bindP (oIndexAddrS 8 x64 v2) fun x65 =>
 bindP (oLoad 8 true S x65) fun x66 =>
 bindP (oFieldAddr 7 15 x6) fun x67 =>
 bindP (oLoad 15 true S x67) fun x68 =>
 bindC (apart κ.toOracle 309 [x66, x68] S) (fun _ _ => none) fun x69 S70 =>
 bindP (oExt x69 0) fun x71 =>
 bindP (oExt x69 1) fun x72 =>
 bindP (oFieldAddr 22 2 x6) fun x73 =>
 bindC (ok (oStore 2 S70 x73 x71)) (fun v Sx => bif (true && true) && true then pnA v Sx else none) fun _ S74 =>
 bif true then
 (let S := S74;
 bindP (bN (eG (some [.i]) false false false x72 (.int .i64 0))) fun x75 =>
 ifA x75
 (some (.ret x72, S))
 (bindC (callN κ.toOracle 310 [] S) (fun v Sx => bif (true && true) && (rfA (oFieldAddr 22 2 x6) fun x78 => (rfA (oFieldAddr 0 1 x78) fun x79 => false)) then pnA v Sx else none) fun x76 S77 =>
 bindP (oFieldAddr 22 2 x6) fun x80 =>
 bindP (oFieldAddr 0 1 x80) fun x81 =>
 bindP (oLoad 1 false S77 x81) fun x82 =>
 bindP (oIndexArr 7 1 false x76 x82) fun x83 =>
 bindP (oLoad 24 true S77 x6) fun x84 =>
 bindC (callD κ.toOracle 232 x83 [v0, x84] S77) (fun v Sx => bif (true && (((false || (chkA (oLoad 24 true S x6) x84 && chkA (oLoad 24 true S77 x6) x84)) && true) && (((false || (chkA (oLoad 1 false S x81) x82 && chkA (oLoad 1 false S77 x81) x82)) && true) && true))) && true then pnA v Sx else none) fun x85 S86 =>
 bif ((true && ((false || (chkA (oLoad 24 true S x6) x84 && chkA (oLoad 24 true S77 x6) x84)) && true)) && ((true && ((false || (chkA (oLoad 1 false S x81) x82 && chkA (oLoad 1 false S77 x81) x82)) && true)) && true)) then
 (let S := S86;
 some (.ret x85, S))
 else none))
 else none))
 else none)
 else none)
 else none
theorem e232 (N : Nat) (κ : Oracles) (v0 v1 v2 : AV) (S : St) : runF (Cs N) κ false 232 [v0, v1, v2] S = s232 N κ v0 v1 v2 S := by kernel_rfl
/- (*sacristan/probe.Health).Keep -/
def s233 (N : Nat) (κ : Oracles) (v0 v1 : AV) (S : St) : R :=
 bindP (bE (eNil kPtr v0 .nilptr)) fun x1 =>
 ifA x1
 (some (.ret (.tup []), S))
 (bindP (oNilC v0) fun x2 =>
 bindP (oFieldAddr 0 1 x2) fun x3 =>
 bindP (oLoad 1 false S x3) fun x4 =>
 bindC (okv (oRg S x4)) pnA fun x5 S =>
 loop1 (fun vals S1 k6 =>
 let S := gcHead false S.objs.length [] vals S1;
 bindC (okv (oNext S x5)) pnA fun x7 S =>
 bindP (oExt x7 0) fun x8 =>
 ifA x8
 (bindC (okv (oEntry S x5)) pnA fun x9 S =>
 bindP (oExt x9 0) fun x10 =>
 bindC (oAl S [.int .i64 0, .int .i64 0, .int .i64 0]) pnA fun x11 S =>
 bindC (ok (oStore 3 S x11 x10)) pnA fun _ S =>
 bindP (some (.func 312 [] [x11])) fun x12 =>
 bindC (callN κ.toOracle 311 [v1, x12] S) pnA fun x13 S =>
 bindP (oUn .not x13) fun x14 =>
 ifA x14
 (bindP (oNilC v0) fun x15 =>
 bindP (oFieldAddr 0 1 x15) fun x16 =>
 bindP (oLoad 1 false S x16) fun x17 =>
 bindP (oLoad 3 true S x11) fun x18 =>
 bindC (ok (oDel (some [.i, .i, .i]) true S x17 x18)) (fun v Sx => bif (true && true) && true then pnA v Sx else none) fun _ S19 =>
 bif true then
 (let S := S19;
 bif sameD [] [] then k6 [] S else none)
 else none)
 (bif sameD [] [] then k6 [] S else none))
 (some (.ret (.tup []), S))) N [] S)
theorem e233 (N : Nat) (κ : Oracles) (v0 v1 : AV) (S : St) : runF (Cs N) κ false 233 [v0, v1] S = s233 N κ v0 v1 S := by kernel_rfl
/- (*sacristan/logs.Logs).Sync -/
def s234 (N : Nat) (κ : Oracles) (v0 : AV) (S : St) : R :=
 bindP (bE (eNil kPtr v0 .nilptr)) fun x1 =>
 ifA x1
 (some (.ret (.int .i64 1), S))
 (bindP (oNilC v0) fun x2 =>
 bindP (oFieldAddr 11 1 x2) fun x3 =>
 bindP (oLoad 1 false S x3) fun x4 =>
 bindC (callN κ.toOracle 251 [x4] S) pnA fun x5 S =>
 some (.ret x5, S))
theorem e234 (N : Nat) (κ : Oracles) (v0 : AV) (S : St) : runF (Cs N) κ false 234 [v0] S = s234 N κ v0 S := by kernel_rfl
/- sacristan/cmd.Decode -/
def s235 (N : Nat) (κ : Oracles) (v0 : AV) (S : St) : R :=
 bindC (oAl S [.int .u8 0, .int .i64 0, .int .i64 0, .int .i64 0, .int .i64 0, .int .i64 0, .lst .nil 0 [], .lst .nil 0 [], .int .i64 0]) pnA fun x1 S =>
 bindP (oLen S .string v0) fun x2 =>
 bindP (oArith .gtr x2 (.int .i64 1024)) fun x3 =>
 ifA x3
 (bindP (oFill (plS [(0, 1), (1, 1), (2, 6), (8, 1)]) [.int .u8 0, .int .i64 0, .int .i64 0, .int .i64 0, .int .i64 0, .int .i64 0, .lst .nil 0 [], .lst .nil 0 [], .int .i64 0] []) fun x4 =>
 bindC (ok (oStore 9 S x1 x4)) pnA fun _ S =>
 (resA [(oLoad 9 true S x1), (some (.int .i64 5))]).map fun vs => (.ret (packV vs), S))
 (bindC (apart κ.toOracle 313 [v0, (.int .i64 3)] S) pnA fun x5 S =>
 bindP (oExt x5 0) fun x6 =>
 bindP (oExt x5 1) fun x7 =>
 bindP (oExt x5 2) fun x8 =>
 bindP (oUn .not x8) fun x9 =>
 ifA x9
 (bindP (oFill (plS [(0, 1), (1, 1), (2, 6), (8, 1)]) [.int .u8 0, .int .i64 0, .int .i64 0, .int .i64 0, .int .i64 0, .int .i64 0, .lst .nil 0 [], .lst .nil 0 [], .int .i64 0] []) fun x10 =>
 bindC (ok (oStore 9 S x1 x10)) pnA fun _ S =>
 (resA [(oLoad 9 true S x1), (some (.int .i64 4))]).map fun vs => (.ret (packV vs), S))
 (bindP (cII .u8 x6) fun x11 =>
 bindP (oFill (plS [(0, 1), (1, 1), (2, 6), (8, 1)]) [.int .u8 0, .int .i64 0, .int .i64 0, .int .i64 0, .int .i64 0, .int .i64 0, .lst .nil 0 [], .lst .nil 0 [], .int .i64 0] [(0, x11)]) fun x12 =>
 bindC (oAl S [.int .u8 0, .int .i64 0, .int .i64 0, .int .i64 0, .int .i64 0, .int .i64 0, .lst .nil 0 [], .lst .nil 0 [], .int .i64 0]) pnA fun x13 S =>
 bindC (ok (oStore 9 S x13 x12)) pnA fun _ S =>
 bindC (apart κ.toOracle 313 [x7, (.int .i64 1099511627776)] S) pnA fun x14 S =>
 bindP (oExt x14 0) fun x15 =>
 bindP (oExt x14 1) fun x16 =>
 bindP (oExt x14 2) fun x17 =>
 bindP (oFieldAddr 1 1 x13) fun x18 =>
 bindC (ok (oStore 1 S x18 x15)) pnA fun _ S =>
 bindP (oUn .not x17) fun x19 =>
 ifA x19
 (bindP (oFill (plS [(0, 1), (1, 1), (2, 6), (8, 1)]) [.int .u8 0, .int .i64 0, .int .i64 0, .int .i64 0, .int .i64 0, .int .i64 0, .lst .nil 0 [], .lst .nil 0 [], .int .i64 0] []) fun x20 =>
 bindC (ok (oStore 9 S x1 x20)) pnA fun _ S =>
 (resA [(oLoad 9 true S x1), (some (.int .i64 4))]).map fun vs => (.ret (packV vs), S))
 (let j21 : List AV → St → R := (fun vals S =>
 let x22 := vals.getD 0 .junk;
 let x23 := vals.getD 1 .junk;
 bindP (oUn .not x23) fun x24 =>
 bindP (guardP x24 false (some x22)) fun x25 =>
 bindP (guardP x24 false (bN (eG (some [.s]) false false false x25 (.str [])))) fun x26 =>
 bindP (oPick x24 (.bool true) x26) fun x27 =>
 bindP (guardP x27 false (oLoad 9 true S x13)) fun x28 =>
 bindC (guardC x27 false S (apart κ.toOracle 272 [x28] S)) pnA fun x29 S =>
 bindP (guardP x27 false (bN (eG (some [.i]) false false false x29 (.int .i64 0)))) fun x30 =>
 bindP (oPick x27 (.bool true) x30) fun x31 =>
 ifA x31
 (bindP (oFill (plS [(0, 1), (1, 1), (2, 6), (8, 1)]) [.int .u8 0, .int .i64 0, .int .i64 0, .int .i64 0, .int .i64 0, .int .i64 0, .lst .nil 0 [], .lst .nil 0 [], .int .i64 0] []) fun x32 =>
 bindC (ok (oStore 9 S x1 x32)) pnA fun _ S =>
 (resA [(oLoad 9 true S x1), (some (.int .i64 4))]).map fun vs => (.ret (packV vs), S))
 (bindP (oLoad 9 true S x13) fun x33 =>
 bindC (ok (oStore 9 S x1 x33)) pnA fun _ S =>
 (resA [(oLoad 9 true S x1), (some (.int .i64 0))]).map fun vs => (.ret (packV vs), S)));
 bindP (oFieldAddr 0 1 x13) fun x34 =>
 bindP (oLoad 1 false S x34) fun x35 =>
 bindP (bE (eG (some [.i]) false false false x35 (.int .u8 1))) fun x36 =>
 ifA x36
 (bindC (apart κ.toOracle 222 [x16] S) pnA fun x37 S =>
 bindP (oExt x37 0) fun x38 =>
 bindP (oExt x37 1) fun x39 =>
 bindP (oExt x37 2) fun x40 =>
 bindP (oFieldAddr 2 6 x13) fun x41 =>
 bindC (ok (oStore 6 S x41 x38)) pnA fun _ S =>
 bindP (bE (eG (some [.i]) false false false x40 (.int .i64 0))) fun x42 =>
 bif sameD [] [] then Join j21 [x39, x42] S else none)
 (bindC (apart κ.toOracle 313 [x16, (.int .i64 2147483648)] S) pnA fun x43 S =>
 bindP (oExt x43 0) fun x44 =>
 bindP (oExt x43 1) fun x45 =>
 bindP (oExt x43 2) fun x46 =>
 bindP (oFieldAddr 8 1 x13) fun x47 =>
 bindC (ok (oStore 1 S x47 x44)) pnA fun _ S =>
 bif sameD [] [] then Join j21 [x45, x46] S else none))))
theorem e235 (N : Nat) (κ : Oracles) (v0 : AV) (S : St) : runF (Cs N) κ false 235 [v0] S = s235 N κ v0 S := by kernel_rfl
/- sacristan/admit.Judge -/
def s236 (N : Nat) (κ : Oracles) (v0 v1 v2 v3 : AV) (S : St) : R :=
 bindC (oBox S v0) pnA fun x1 S =>
 bindC (oBox S v1) pnA fun x2 S =>
 bindC (oBox S v2) pnA fun x3 S =>
 bindC (oAl S [.int .u8 0, .int .i64 0, .int .i64 0, .int .i64 0, .int .i64 0, .int .i64 0, .lst .nil 0 [], .lst .nil 0 [], .int .i64 0, .int .i64 0, .int .i64 0, .int .i64 0, .int .i64 0, .int .i64 0, .int .i64 0]) pnA fun x4 S =>
 bindP (oLoad 11 true S x1) fun x5 =>
 bindP (oLoad 5 true S x2) fun x6 =>
 bindC (apart κ.toOracle 219 [x5, x6] S) pnA fun x7 S =>
 bindP (bN (eG (some [.i]) false false false x7 (.int .i64 0))) fun x8 =>
 ifA x8
 (bindP (oFill (plS [(0, 1), (1, 1), (2, 6), (8, 1), (9, 1), (10, 1), (11, 1), (12, 1), (13, 1), (14, 1)]) [.int .u8 0, .int .i64 0, .int .i64 0, .int .i64 0, .int .i64 0, .int .i64 0, .lst .nil 0 [], .lst .nil 0 [], .int .i64 0, .int .i64 0, .int .i64 0, .int .i64 0, .int .i64 0, .int .i64 0, .int .i64 0] []) fun x9 =>
 bindC (ok (oStore 15 S x4 x9)) pnA fun _ S =>
 (resA [(some (.int .u8 0)), (oLoad 15 true S x4), (some x7)]).map fun vs => (.ret (packV vs), S))
 (bindP (oLoad 9 true S x3) fun x10 =>
 bindC (apart κ.toOracle 272 [x10] S) pnA fun x11 S =>
 bindP (bN (eG (some [.i]) false false false x11 (.int .i64 0))) fun x12 =>
 bindP (guardP x12 false (some v3)) fun x13 =>
 bindP (guardP x12 false (oArith .lss x13 (.int .i64 0))) fun x14 =>
 bindP (oPick x12 (.bool true) x14) fun x15 =>
 bindP (guardP x15 false (some v3)) fun x16 =>
 bindP (guardP x15 false (oArith .gtr x16 (.int .i64 1099511627776))) fun x17 =>
 bindP (oPick x15 (.bool true) x17) fun x18 =>
 ifA x18
 (bindP (oFill (plS [(0, 1), (1, 1), (2, 6), (8, 1), (9, 1), (10, 1), (11, 1), (12, 1), (13, 1), (14, 1)]) [.int .u8 0, .int .i64 0, .int .i64 0, .int .i64 0, .int .i64 0, .int .i64 0, .lst .nil 0 [], .lst .nil 0 [], .int .i64 0, .int .i64 0, .int .i64 0, .int .i64 0, .int .i64 0, .int .i64 0, .int .i64 0] []) fun x19 =>
 bindC (ok (oStore 15 S x4 x19)) pnA fun _ S =>
 (resA [(some (.int .u8 0)), (oLoad 15 true S x4), (some (.int .i64 2))]).map fun vs => (.ret (packV vs), S))
 (bindP (oLoad 11 true S x1) fun x20 =>
 bindP (oLoad 5 true S x2) fun x21 =>
 bindP (oLoad 9 true S x3) fun x22 =>
 bindP (oFill (plS [(0, 11), (11, 5), (16, 9), (25, 1), (26, 3), (29, 1)]) [.int .i64 0, .int .i64 0, .int .i64 0, .int .i64 0, .int .i64 0, .int .i64 0, .int .i64 0, .int .i64 0, .int .i64 0, .int .i64 0, .int .i64 0, .int .i64 0, .int .i64 0, .int .i64 0, .int .i64 0, .lst .nil 0 [], .int .u8 0, .int .i64 0, .int .i64 0, .int .i64 0, .int .i64 0, .int .i64 0, .lst .nil 0 [], .lst .nil 0 [], .int .i64 0, .int .i64 0, .int .i64 0, .int .i64 0, .int .i64 0, .lst .nil 0 []] [(0, x20), (1, x21), (2, x22)]) fun x23 =>
 bindC (oAl S [.int .i64 0, .int .i64 0, .int .i64 0, .int .i64 0, .int .i64 0, .int .i64 0, .int .i64 0, .int .i64 0, .int .i64 0, .int .i64 0, .int .i64 0, .int .i64 0, .int .i64 0, .int .i64 0, .int .i64 0, .lst .nil 0 [], .int .u8 0, .int .i64 0, .int .i64 0, .int .i64 0, .int .i64 0, .int .i64 0, .lst .nil 0 [], .lst .nil 0 [], .int .i64 0, .int .i64 0, .int .i64 0, .int .i64 0, .int .i64 0, .lst .nil 0 []]) pnA fun x24 S =>
 bindC (ok (oStore 30 S x24 x23)) pnA fun _ S =>
 bindP (oLoad 5 true S x2) fun x25 =>
 bindC (apart κ.toOracle 314 [x25] S) pnA fun x26 S =>
 bindP (oExt x26 0) fun x27 =>
 bindP (oExt x26 1) fun x28 =>
 bindP (oExt x26 2) fun x29 =>
 bindP (oFieldAddr 26 3 x24) fun x30 =>
 bindC (ok (oStore 3 S x30 x27)) pnA fun _ S =>
 bindP (oFieldAddr 29 1 x24) fun x31 =>
 bindC (ok (oStore 1 S x31 x28)) pnA fun _ S =>
 bindP (oLoad 5 true S x2) fun x32 =>
 bindP (oFieldAddr 8 1 x3) fun x33 =>
 bindP (oLoad 1 false S x33) fun x34 =>
 bindC (apart κ.toOracle 132 [x32, x34] S) pnA fun x35 S =>
 bindP (oFieldAddr 25 1 x24) fun x36 =>
 bindC (ok (oStore 1 S x36 x35)) pnA fun _ S =>
 let j37 : List AV → St → R := (fun vals S =>
 bindP (oFill (plA 1) [.nilfunc, .nilfunc, .nilfunc] [(0, (.func 315 [] [])), (1, (.func 316 [] [])), (2, (.func 317 [] []))]) fun x38 =>
 bindC (oAl S [.nilfunc, .nilfunc, .nilfunc]) pnA fun x39 S =>
 bindC (ok (oStore 3 S x39 x38)) pnA fun _ S =>
 let j40 : List AV → St → R := (fun vals S =>
 let x41 := vals.getD 0 .junk;
 bindP (bN (eG (some [.i]) false false false x41 (.int .u8 0))) fun x42 =>
 ifA x42
 (bindP (oFill (plS [(0, 1), (1, 1), (2, 6), (8, 1), (9, 1), (10, 1), (11, 1), (12, 1), (13, 1), (14, 1)]) [.int .u8 0, .int .i64 0, .int .i64 0, .int .i64 0, .int .i64 0, .int .i64 0, .lst .nil 0 [], .lst .nil 0 [], .int .i64 0, .int .i64 0, .int .i64 0, .int .i64 0, .int .i64 0, .int .i64 0, .int .i64 0] []) fun x43 =>
 bindC (ok (oStore 15 S x4 x43)) pnA fun _ S =>
 (resA [(some x41), (oLoad 15 true S x4), (some (.int .i64 0))]).map fun vs => (.ret (packV vs), S))
 (let j44 : List AV → St → R := (fun vals S =>
 bindP (oLoad 15 true S x4) fun x45 =>
 bindC (ok (oStore 15 S x4 x45)) (fun v Sx => bif (true && true) && true then pnA v Sx else none) fun _ S46 =>
 bif true then
 (let S := S46;
 (resA [(some (.int .u8 0)), (oLoad 15 true S x4), (some (.int .i64 0))]).map fun vs => (.ret (packV vs), S))
 else none);
 bindP (oFieldAddr 0 1 x3) fun x47 =>
 bindP (oLoad 1 false S x47) fun x48 =>
 bindP (bE (eG (some [.i]) false false false x48 (.int .u8 1))) fun x49 =>
 ifA x49
 (bindP (oFieldAddr 1 1 x3) fun x50 =>
 bindP (oLoad 1 false S x50) fun x51 =>
 bindP (oFieldAddr 2 6 x3) fun x52 =>
 bindP (oLoad 6 true S x52) fun x53 =>
 bindC (apart κ.toOracle 127 [x53] S) (fun _ _ => none) fun x54 S55 =>
 bindP (oFill (plS [(0, 1), (1, 1), (2, 6), (8, 1), (9, 1), (10, 1), (11, 1), (12, 1), (13, 1), (14, 1)]) [.int .u8 0, .int .i64 0, .int .i64 0, .int .i64 0, .int .i64 0, .int .i64 0, .lst .nil 0 [], .lst .nil 0 [], .int .i64 0, .int .i64 0, .int .i64 0, .int .i64 0, .int .i64 0, .int .i64 0, .int .i64 0] [(0, (.int .u8 1)), (1, x51), (2, x54)]) fun x56 =>
 bindC (ok (oStore 15 S55 x4 x56)) (fun v Sx => bif (true && true) && true then pnA v Sx else none) fun _ S57 =>
 bif true then
 (let S := S57;
 bif sameD [] [] then Join j44 [] S else none)
 else none)
 (bindP (bE (eG (some [.i]) false false false x48 (.int .u8 2))) fun x58 =>
 ifA x58
 (bindP (oFieldAddr 1 1 x3) fun x59 =>
 bindP (oLoad 1 false S x59) fun x60 =>
 bindP (oFieldAddr 8 1 x3) fun x61 =>
 bindP (oLoad 1 false S x61) fun x62 =>
 bindP (oFieldAddr 10 1 x1) fun x63 =>
 bindP (oLoad 1 false S x63) fun x64 =>
 bindP (oFill (plS [(0, 1), (1, 1), (2, 6), (8, 1), (9, 1), (10, 1), (11, 1), (12, 1), (13, 1), (14, 1)]) [.int .u8 0, .int .i64 0, .int .i64 0, .int .i64 0, .int .i64 0, .int .i64 0, .lst .nil 0 [], .lst .nil 0 [], .int .i64 0, .int .i64 0, .int .i64 0, .int .i64 0, .int .i64 0, .int .i64 0, .int .i64 0] [(0, (.int .u8 2)), (1, x60), (3, x62), (5, v3), (6, x64)]) fun x65 =>
 bindC (ok (oStore 15 S x4 x65)) pnA fun _ S =>
 bif sameD [] [] then Join j44 [] S else none)
 (bindP (oFieldAddr 1 1 x3) fun x66 =>
 bindP (oLoad 1 false S x66) fun x67 =>
 bindP (oFieldAddr 8 1 x3) fun x68 =>
 bindP (oLoad 1 false S x68) fun x69 =>
 bindP (oFill (plS [(0, 1), (1, 1), (2, 6), (8, 1), (9, 1), (10, 1), (11, 1), (12, 1), (13, 1), (14, 1)]) [.int .u8 0, .int .i64 0, .int .i64 0, .int .i64 0, .int .i64 0, .int .i64 0, .lst .nil 0 [], .lst .nil 0 [], .int .i64 0, .int .i64 0, .int .i64 0, .int .i64 0, .int .i64 0, .int .i64 0, .int .i64 0] [(0, (.int .u8 3)), (1, x67), (3, x69)]) fun x70 =>
 bindC (ok (oStore 15 S x4 x70)) pnA fun _ S =>
 bif sameD [] [] then Join j44 [] S else none))));
 bindP (oLoad 3 true S x39) fun x71 =>
 loop1 (fun vals S1 k72 =>
 let S := gcHead false S.objs.length [] vals S1;
 let x73 := vals.getD 0 .junk;
 let x74 := vals.getD 1 .junk;
 bindP (oArith .lss x74 (.int .i64 3)) fun x75 =>
 ifA x75
 (bindP (oIndexArr 3 1 false x71 x74) fun x76 =>
 bindP (oLoad 30 true S x24) fun x77 =>
 bindC (callD κ.toOracle 236 x76 [x77] S) pnA fun x78 S =>
 bindP (bN (eG (some [.i]) false false false x78 (.int .u8 0))) fun x79 =>
 ifA x79
 (bif sameD [] [] then Join j40 [x78] S else none)
 (bindP (oArith .add x74 (.int .i64 1)) fun x80 =>
 bif sameD [] [] then k72 [x78, x80] S else none))
 (bif sameD [] [] then Join j40 [x73] S else none)) N [(.int .u8 0), (.int .i64 0)] S);
 bindP (oFieldAddr 0 1 x3) fun x81 =>
 bindP (oLoad 1 false S x81) fun x82 =>
 bindP (bE (eG (some [.i]) false false false x82 (.int .u8 1))) fun x83 =>
 ifA x83
 (bindP (oLoad 5 true S x2) fun x84 =>
 bindP (oFieldAddr 2 6 x3) fun x85 =>
 bindP (oFieldAddr 0 1 x85) fun x86 =>
 bindP (oLoad 1 false S x86) fun x87 =>
 bindC (apart κ.toOracle 132 [x84, x87] S) pnA fun x88 S =>
 bindP (oFieldAddr 25 1 x24) fun x89 =>
 bindC (ok (oStore 1 S x89 x88)) pnA fun _ S =>
 bif sameD [] [] then Join j37 [] S else none)
 (bif sameD [] [] then Join j37 [] S else none)))
theorem e236 (N : Nat) (κ : Oracles) (v0 v1 v2 v3 : AV) (S : St) : runF (Cs N) κ false 236 [v0, v1, v2, v3] S = s236 N κ v0 v1 v2 v3 S := by kernel_rfl
/- (*sacristan/store.Store).Do$1 -/
def s237 (N : Nat) (κ : Oracles) (v0 v1 : AV) (S : St) : R :=
 bindP (oLoad 15 true S v0) fun x1 =>
 bindC (apart κ.toOracle 238 [x1] S) pnA fun x2 S =>
 bindP (oExt x2 0) fun x3 =>
 bindP (oExt x2 1) fun x4 =>
 bindC (ok (oStore 1 S v1 x3)) pnA fun _ S =>
 some (.ret x4, S)
theorem e237 (N : Nat) (κ : Oracles) (v0 v1 : AV) (S : St) : runF (Cs N) κ false 237 [v0, v1] S = s237 N κ v0 v1 S := by kernel_rfl
/- sacristan/rec.Encode -/
def s238 (N : Nat) (κ : Oracles) (v0 : AV) (S : St) : R :=
 bindC (oBox S v0) pnA fun x1 S =>
 bindP (oLoad 15 true S x1) fun x2 =>
 bindC (apart κ.toOracle 223 [x2] S) pnA fun x3 S =>
 bindP (bN (eG (some [.i]) false false false x3 (.int .i64 0))) fun x4 =>
 ifA x4
 (some (.ret (.tup [(.str []), x3]), S))
 (bindP (oFieldAddr 0 1 x1) fun x5 =>
 bindP (oLoad 1 false S x5) fun x6 =>
 bindC (apart κ.toOracle 220 [x6] S) pnA fun x7 S =>
 bindP (oFieldAddr 0 1 x1) fun x8 =>
 bindP (oLoad 1 false S x8) fun x9 =>
 bindP (cII .u64 x9) fun x10 =>
 bindC (apart κ.toOracle 144 [x10] S) pnA fun x11 S =>
 bindC (callN κ.toOracle 221 [x1] S) pnA fun x12 S =>
 bindP (oLen S (.slice 337) x12) fun x13 =>
 loop1 (fun vals S1 k14 =>
 let S := gcHead false S.objs.length [] vals S1;
 let x15 := vals.getD 0 .junk;
 let x16 := vals.getD 1 .junk;
 bindP (oArith .lss x16 x13) fun x17 =>
 ifA x17
 (let j18 : List AV → St → R := (fun vals S =>
 let x19 := vals.getD 0 .junk;
 bindP (oArith .add x16 (.int .i64 1)) fun x20 =>
 bif sameD [] [] then k14 [x19, x20] S else none);
 bindP (oIndexAddrS 3 x12 x16) fun x21 =>
 bindP (oLoad 3 true S x21) fun x22 =>
 bindC (oAl S [.int .i64 0, .nilptr, .int .i64 0]) pnA fun x23 S =>
 bindC (ok (oStore 3 S x23 x22)) pnA fun _ S =>
 bindP (oFieldAddr 0 1 x23) fun x24 =>
 bindP (oLoad 1 false S x24) fun x25 =>
 bindP (oArith .and x7 x25) fun x26 =>
 bindP (bN (eG (some [.i]) false false false x26 (.int .i64 0))) fun x27 =>
 ifA x27
 (bindP (oFieldAddr 1 1 x23) fun x28 =>
 bindP (oLoad 1 false S x28) fun x29 =>
 bindP (oNilC x29) fun x30 =>
 bindP (oLoad 1 false S x30) fun x31 =>
 bindP (cII .u64 x31) fun x32 =>
 bindC (apart κ.toOracle 144 [x32] S) pnA fun x33 S =>
 bindP (oArith .add x15 x33) fun x34 =>
 bif sameD [] [] then Join j18 [x34] S else none)
 (bif sameD [] [] then Join j18 [x15] S else none))
 (let j35 : List AV → St → R := (fun vals S =>
 let x36 := vals.getD 0 .junk;
 let j37 : List AV → St → R := (fun vals S =>
 let x38 := vals.getD 0 .junk;
 some (.ret (.tup [x38, (.int .i64 0)]), S));
 bindP (oArith .and x7 (.int .i64 256)) fun x39 =>
 bindP (bN (eG (some [.i]) false false false x39 (.int .i64 0))) fun x40 =>
 ifA x40
 (bindP (oFieldAddr 14 1 x1) fun x41 =>
 bindP (oLoad 1 false S x41) fun x42 =>
 bindC (apart κ.toOracle 69 [x42] S) pnA fun x43 S =>
 bindP (oArith .add x36 x43) fun x44 =>
 bif sameD [] [] then Join j37 [x44] S else none)
 (bif sameD [] [] then Join j37 [x36] S else none));
 bindP (oArith .and x7 (.int .i64 2)) fun x45 =>
 bindP (bN (eG (some [.i]) false false false x45 (.int .i64 0))) fun x46 =>
 ifA x46
 (bindP (oFieldAddr 2 6 x1) fun x47 =>
 bindP (oLoad 6 true S x47) fun x48 =>
 bindC (apart κ.toOracle 274 [x48] S) pnA fun x49 S =>
 bindP (oExt x49 0) fun x50 =>
 bindP (oExt x49 1) fun x51 =>
 bindP (oArith .add x15 x50) fun x52 =>
 bif sameD [] [] then Join j35 [x52] S else none)
 (bif sameD [] [] then Join j35 [x15] S else none))) N [x11, (.int .i64 0)] S)
theorem e238 (N : Nat) (κ : Oracles) (v0 : AV) (S : St) : runF (Cs N) κ false 238 [v0] S = s238 N κ v0 S := by kernel_rfl
/- (*sacristan/store.Store).Do$2 -/
def s239 (N : Nat) (κ : Oracles) (v0 v1 : AV) (S : St) : R :=
 bindP (oLoad 1 false S v0) fun x1 =>
 bindP (oLen S .string x1) fun x2 =>
 bindC (apart κ.toOracle 240 [x2] S) pnA fun x3 S =>
 bindP (oExt x3 0) fun x4 =>
 bindP (oExt x3 1) fun x5 =>
 bindP (bN (eG (some [.i]) false false false x5 (.int .i64 0))) fun x6 =>
 bindP (guardP x6 false (some x4)) fun x7 =>
 bindP (guardP x6 false (oLoad 1 false S v1)) fun x8 =>
 bindP (guardP x6 false (oNilC x8)) fun x9 =>
 bindP (guardP x6 false (oFieldAddr 0 1 x9)) fun x10 =>
 bindP (guardP x6 false (oLoad 1 false S x10)) fun x11 =>
 bindC (guardC x6 false S (callN κ.toOracle 241 [x11] S)) pnA fun x12 S =>
 bindP (guardP x6 false (oArith .leq x7 x12)) fun x13 =>
 bindP (oPick x6 (.bool true) x13) fun x14 =>
 ifA x14
 (some (.ret x5, S))
 (bindP (oLoad 1 false S v1) fun x15 =>
 bindP (oNilC x15) fun x16 =>
 bindP (oFieldAddr 1 11 x16) fun x17 =>
 bindP (oLoad 11 true S x17) fun x18 =>
 bindP (oLoad 1 false S v1) fun x19 =>
 bindP (oNilC x19) fun x20 =>
 bindP (oFieldAddr 13 5 x20) fun x21 =>
 bindP (oLoad 5 true S x21) fun x22 =>
 bindC (apart κ.toOracle 242 [x18, x22] S) (fun _ _ => none) fun x23 S24 =>
 bindP (oExt x23 0) fun x25 =>
 bindP (oExt x23 1) fun x26 =>
 bif true then
 (let S := S24;
 bindP (bN (eG (some [.i]) false false false x26 (.int .i64 0))) fun x27 =>
 ifA x27
 (some (.ret x26, S))
 (bindP (oLoad 1 false S v1) fun x28 =>
 bindP (oNilC x28) fun x29 =>
 bindP (oFieldAddr 0 1 x29) fun x30 =>
 bindP (oLoad 1 false S x30) fun x31 =>
 bindC (callN κ.toOracle 243 [x31, x25] S) pnA fun x32 S =>
 some (.ret x32, S)))
 else none)
theorem e239 (N : Nat) (κ : Oracles) (v0 v1 : AV) (S : St) : runF (Cs N) κ false 239 [v0, v1] S = s239 N κ v0 v1 S := by kernel_rfl
/- sacristan/record.Parts -/
def s240 (N : Nat) (κ : Oracles) (v0 : AV) (S : St) : R :=
 bindP (oArith .lss v0 (.int .i64 0)) fun x1 =>
 ifA x1
 (some (.ret (.tup [(.int .i64 0), (.int .i64 3)]), S))
 (bindP (oArith .gtr v0 (.int .i64 4096)) fun x2 =>
 ifA x2
 (some (.ret (.tup [(.int .i64 0), (.int .i64 5)]), S))
 (bindP (oArith .add v0 (.int .i64 44)) fun x3 =>
 bindP (oArith .sub x3 (.int .i64 1)) fun x4 =>
 bindP (oArith .quo x4 (.int .i64 44)) fun x5 =>
 bindP (maxmin true [(.int .i64 1), x5]) fun x6 =>
 some (.ret (.tup [x6, (.int .i64 0)]), S)))
theorem e240 (N : Nat) (κ : Oracles) (v0 : AV) (S : St) : runF (Cs N) κ false 240 [v0] S = s240 N κ v0 S := by kernel_rfl
/- (*sacristan/journal.Journal).Room -/
def s241 (N : Nat) (κ : Oracles) (v0 : AV) (S : St) : R :=
 bindP (bE (eNil kPtr v0 .nilptr)) fun x1 =>
 ifA x1
 (some (.ret (.int .i64 0), S))
 (bindP (oNilC v0) fun x2 =>
 bindP (oFieldAddr 2 5 x2) fun x3 =>
 bindP (oFieldAddr 2 1 x3) fun x4 =>
 bindP (oLoad 1 false S x4) fun x5 =>
 bindC (callN κ.toOracle 279 [v0, x5] S) (fun v Sx => bif (true && true) && (rfA (some v0) fun x8 => (rfA (oNilC x8) fun x9 => (rfA (oFieldAddr 1 1 x9) fun x10 => false))) then pnA v Sx else none) fun x6 S7 =>
 bindP (oNilC v0) fun x11 =>
 bindP (oFieldAddr 1 1 x11) fun x12 =>
 bindP (oLoad 1 false S7 x12) fun x13 =>
 bindP (oArith .add x6 x13) fun x14 =>
 bindP (oNilC v0) fun x15 =>
 bindP (oFieldAddr 8 1 x15) fun x16 =>
 bindP (oLoad 1 false S7 x16) fun x17 =>
 bindP (oArith .sub x14 x17) fun x18 =>
 bif (((false || (chkA (oLoad 1 false S x16) x17 && chkA (oLoad 1 false S7 x16) x17)) && true) && (((false || (chkA (oLoad 1 false S x12) x13 && chkA (oLoad 1 false S7 x12) x13)) && true) && ((true && true) && true))) then
 (let S := S7;
 some (.ret x18, S))
 else none)
theorem e241 (N : Nat) (κ : Oracles) (v0 : AV) (S : St) : runF (Cs N) κ false 241 [v0] S = s241 N κ v0 S := by kernel_rfl
/- (*sacristan/store.Store).Do$3 -/
def s244 (N : Nat) (κ : Oracles) (v0 v1 v2 : AV) (S : St) : R :=
 bindP (oLoad 1 false S v0) fun x1 =>
 bindP (oNilC x1) fun x2 =>
 bindP (oFieldAddr 0 1 x2) fun x3 =>
 bindP (oLoad 1 false S x3) fun x4 =>
 bindP (oLoad 1 false S v1) fun x5 =>
 bindC (callN κ.toOracle 245 [x4, x5] S) (fun v Sx => bif (true && true) && true then pnA v Sx else none) fun x6 S7 =>
 bif true then
 (let S := S7;
 let j8 : List AV → St → R := (fun vals S =>
 some (.ret x6, S));
 bindP (bE (eG (some [.i]) false false false x6 (.int .i64 10))) fun x9 =>
 ifA x9
 (bindP (oLoad 1 false S v0) fun x10 =>
 bindP (oLoad 15 true S v2) fun x11 =>
 bindC (apart κ.toOracle 210 [x11] S) (fun _ _ => none) fun x12 S13 =>
 bindC (oBS S13 15 [.int .u8 0, .int .i64 0, .int .i64 0, .int .i64 0, .int .i64 0, .int .i64 0, .lst .nil 0 [], .lst .nil 0 [], .int .i64 0, .int .i64 0, .int .i64 0, .int .i64 0, .int .i64 0, .int .i64 0, .int .i64 0] 1 [(0, x12)]) (fun _ _ => none) fun x14 S15 =>
 bindP (oNilC x10) fun x16 =>
 bindP (oFieldAddr 19 1 x16) fun x17 =>
 bindC (ok (oStore 1 S15 x17 x14)) (fun v Sx => bif (true && true) && true then pnA v Sx else none) fun _ S18 =>
 bif true then
 (let S := S18;
 bif sameD [] [] then Join j8 [] S else none)
 else none)
 (bif sameD [] [] then Join j8 [] S else none))
 else none
theorem e244 (N : Nat) (κ : Oracles) (v0 v1 v2 : AV) (S : St) : runF (Cs N) κ false 244 [v0, v1, v2] S = s244 N κ v0 v1 v2 S := by kernel_rfl
/- (*sacristan/journal.Journal).Append -/
def s245 (N : Nat) (κ : Oracles) (v0 v1 : AV) (S : St) : R :=
 bindC (oBS S 1 [.str []] 1 [(0, v1)]) pnA fun x1 S =>
 bindC (callN κ.toOracle 319 [v0, x1] S) pnA fun x2 S =>
 bindP (oExt x2 0) fun x3 =>
 bindP (oExt x2 1) fun x4 =>
 bindP (bN (eG (some [.i]) false false false x4 (.int .i64 0))) fun x5 =>
 ifA x5
 (some (.ret x4, S))
 (bindP (oNilC v0) fun x6 =>
 bindP (oFieldAddr 0 1 x6) fun x7 =>
 bindP (oLoad 1 false S x7) fun x8 =>
 bindC (callN κ.toOracle 187 [x8] S) pnA fun x9 S =>
 bindP (guardP x9 false (some x3)) fun x10 =>
 bindP (guardP x9 false (some v0)) fun x11 =>
 bindC (guardC x9 false S (callN κ.toOracle 241 [x11] S)) pnA fun x12 S =>
 bindP (guardP x9 false (oArith .gtr x10 x12)) fun x13 =>
 bindP (oPick x9 (.bool true) x13) fun x14 =>
 ifA x14
 (some (.ret (.int .i64 9), S))
 (bindP (oNilC v0) fun x15 =>
 bindP (oFieldAddr 8 1 x15) fun x16 =>
 bindP (oLoad 1 false S x16) fun x17 =>
 bindP (oNilC v0) fun x18 =>
 bindP (oFieldAddr 7 1 x18) fun x19 =>
 bindP (oLoad 1 false S x19) fun x20 =>
 bindP (oArith .add x20 (.int .i64 1)) fun x21 =>
 bindC (callN κ.toOracle 320 [v0, x17, x21, (.int .u8 2), v1] S) (fun v Sx => bif (true && true) && true then pnA v Sx else none) fun x22 S23 =>
 bindP (oExt x22 0) fun x24 =>
 bindP (oExt x22 1) fun x25 =>
 bif true then
 (let S := S23;
 bindP (bN (eG (some [.i]) false false false x25 (.int .i64 0))) fun x26 =>
 ifA x26
 (some (.ret x25, S))
 (bindP (oNilC v0) fun x27 =>
 bindP (oFieldAddr 0 1 x27) fun x28 =>
 bindP (oLoad 1 false S x28) fun x29 =>
 bindC (callN κ.toOracle 251 [x29] S) pnA fun x30 S =>
 bindP (bN (eG (some [.i]) false false false x30 (.int .i64 0))) fun x31 =>
 ifA x31
 (bindC (callN κ.toOracle 321 [v0, x30] S) pnA fun x32 S =>
 some (.ret x32, S))
 (bindP (oNilC v0) fun x33 =>
 bindP (oFieldAddr 8 1 x33) fun x34 =>
 bindC (ok (oStore 1 S x34 x24)) pnA fun _ S =>
 bindP (oNilC v0) fun x35 =>
 bindP (oFieldAddr 7 1 x35) fun x36 =>
 bindP (oLoad 1 false S x36) fun x37 =>
 bindP (oArith .add x37 (.int .i64 1)) fun x38 =>
 bindP (oNilC v0) fun x39 =>
 bindP (oFieldAddr 7 1 x39) fun x40 =>
 bindC (ok (oStore 1 S x40 x38)) pnA fun _ S =>
 some (.ret (.int .i64 0), S))))
 else none))
theorem e245 (N : Nat) (κ : Oracles) (v0 v1 : AV) (S : St) : runF (Cs N) κ false 245 [v0, v1] S = s245 N κ v0 v1 S := by kernel_rfl
/- sacristan/token.Check -/
def s246 (N : Nat) (κ : Oracles) (v0 : AV) (S : St) : R :=
 bindC (oBox S v0) pnA fun x1 S =>
 bindP (oFill (plA 1) [.int .i64 0, .int .i64 0, .int .i64 0] [(0, (.int .i64 0)), (1, (.int .i64 0)), (2, (.int .i64 1))]) fun x2 =>
 bindP (oFill (plA 1) [.int .i64 0, .int .i64 0, .int .i64 0] [(0, (.int .i64 2147483648)), (1, (.int .i64 3)), (2, (.int .i64 1099511627776))]) fun x3 =>
 bindC (oAl S [.int .i64 0, .int .i64 0, .int .i64 0]) pnA fun x4 S =>
 bindC (oAl S [.int .i64 0, .int .i64 0, .int .i64 0]) pnA fun x5 S =>
 bindC (ok (oStore 3 S x4 x2)) pnA fun _ S =>
 bindC (ok (oStore 3 S x5 x3)) pnA fun _ S =>
 bindP (oLoad 3 true S x1) fun x6 =>
 bindC (apart κ.toOracle 322 [x6] S) pnA fun x7 S =>
 loop1 (fun vals S1 k8 =>
 let S := gcHead false S.objs.length [] vals S1;
 let x9 := vals.getD 0 .junk;
 let x10 := vals.getD 1 .junk;
 bindP (oArith .lss x10 (.int .i64 3)) fun x11 =>
 ifA x11
 (bindP (oIndexArr 3 1 false x7 x10) fun x12 =>
 bindP (oIndexAddrA 3 1 x4 x10) fun x13 =>
 bindP (oLoad 1 false S x13) fun x14 =>
 bindP (oArith .lss x12 x14) fun x15 =>
 bindP (guardP x15 false (some x12)) fun x16 =>
 bindP (guardP x15 false (some x10)) fun x17 =>
 bindP (guardP x15 false (oIndexAddrA 3 1 x5 x17)) fun x18 =>
 bindP (guardP x15 false (oLoad 1 false S x18)) fun x19 =>
 bindP (guardP x15 false (oArith .gtr x16 x19)) fun x20 =>
 bindP (oPick x15 (.bool true) x20) fun x21 =>
 ifA x21
 (some (.ret (.int .i64 3), S))
 (bindP (oArith .add x10 (.int .i64 1)) fun x22 =>
 bif sameD [] [] then k8 [x9, x22] S else none))
 (some (.ret (.int .i64 0), S))) N [(.int .i64 0), (.int .i64 0)] S
theorem e246 (N : Nat) (κ : Oracles) (v0 : AV) (S : St) : runF (Cs N) κ false 246 [v0] S = s246 N κ v0 S := by kernel_rfl
/- (*sacristan/disk.Disk).Sync -/
def s251 (N : Nat) (κ : Oracles) (v0 : AV) (S : St) : R :=
 bindP (bE (eNil kPtr v0 .nilptr)) fun x1 =>
 ifA x1
 (some (.ret (.int .i64 1), S))
 (bindP (oNilC v0) fun x2 =>
 bindP (oFieldAddr 0 5 x2) fun x3 =>
 bindP (oFieldAddr 0 1 x3) fun x4 =>
 bindP (oLoad 1 false S x4) fun x5 =>
 bindC (callN κ.toOracle 229 [x5] S) pnA fun x6 S =>
 bindP (bN (eG (some [.i]) false false false x6 (.int .i64 0))) fun x7 =>
 ifA x7
 (some (.ret x6, S))
 (bindP (oNilC v0) fun x8 =>
 bindP (oFieldAddr 0 5 x8) fun x9 =>
 bindP (oFieldAddr 4 1 x9) fun x10 =>
 bindP (oLoad 1 false S x10) fun x11 =>
 bindP (oLen S (.slice 254) x11) fun x12 =>
 loop1 (fun vals S1 k13 =>
 let S := gcHead false S.objs.length [] vals S1;
 let x14 := vals.getD 0 .junk;
 bindP (oArith .lss x14 x12) fun x15 =>
 ifA x15
 (bindP (oIndexAddrS 2 x11 x14) fun x16 =>
 bindP (oLoad 2 true S x16) fun x17 =>
 bindC (oAl S [.int .i64 0, .str []]) pnA fun x18 S =>
 bindC (ok (oStore 2 S x18 x17)) pnA fun _ S =>
 bindP (oNilC v0) fun x19 =>
 bindP (oFieldAddr 0 5 x19) fun x20 =>
 bindP (oLoad 2 true S x18) fun x21 =>
 bindC (callN κ.toOracle 161 [x20, x21] S) (fun v Sx => bif (true && true) && true then pnA v Sx else none) fun x22 S23 =>
 bif true then
 (let S := S23;
 bindP (oArith .add x14 (.int .i64 1)) fun x24 =>
 bif sameD [] [] then k13 [x24] S else none)
 else none)
 (bindP (oNilC v0) fun x25 =>
 bindP (oFieldAddr 0 5 x25) fun x26 =>
 bindP (oFieldAddr 4 1 x26) fun x27 =>
 bindC (ok (oStore 1 S x27 (.lst .nil 0 []))) pnA fun _ S =>
 some (.ret (.int .i64 0), S))) N [(.int .i64 0)] S))
theorem e251 (N : Nat) (κ : Oracles) (v0 : AV) (S : St) : runF (Cs N) κ false 251 [v0] S = s251 N κ v0 S := by kernel_rfl
/- (*sacristan/disk.Disk).Write -/
def s254 (N : Nat) (κ : Oracles) (v0 v1 v2 : AV) (S : St) : R :=
 bindC (callN κ.toOracle 225 [v0, v1] S) pnA fun x1 S =>
 bindP (bN (eG (some [.i]) false false false x1 (.int .i64 0))) fun x2 =>
 ifA x2
 (some (.ret x1, S))
 (bindP (oLen S .string v2) fun x3 =>
 bindP (bN (eG (some [.i]) false false false x3 (.int .i64 80))) fun x4 =>
 ifA x4
 (some (.ret (.int .i64 2), S))
 (bindP (oNilC v0) fun x5 =>
 bindP (oFieldAddr 0 5 x5) fun x6 =>
 bindP (oFieldAddr 0 1 x6) fun x7 =>
 bindP (oLoad 1 false S x7) fun x8 =>
 bindC (callN κ.toOracle 229 [x8] S) pnA fun x9 S =>
 bindP (bN (eG (some [.i]) false false false x9 (.int .i64 0))) fun x10 =>
 ifA x10
 (some (.ret x9, S))
 (bindP (oNilC v0) fun x11 =>
 bindP (oFieldAddr 0 5 x11) fun x12 =>
 bindP (oFieldAddr 4 1 x12) fun x13 =>
 bindP (oLoad 1 false S x13) fun x14 =>
 bindP (oFill (plS [(0, 1), (1, 1)]) [.int .i64 0, .str []] [(0, v1), (1, v2)]) fun x15 =>
 bindC (oBS S 2 [.int .i64 0, .str []] 1 [(0, x15)]) pnA fun x16 S =>
 bindC (oApp false 2 24 S x14 x16) pnA fun x17 S =>
 bindP (oNilC v0) fun x18 =>
 bindP (oFieldAddr 0 5 x18) fun x19 =>
 bindP (oFieldAddr 4 1 x19) fun x20 =>
 bindC (ok (oStore 1 S x20 x17)) pnA fun _ S =>
 some (.ret (.int .i64 0), S))))
theorem e254 (N : Nat) (κ : Oracles) (v0 v1 v2 : AV) (S : St) : runF (Cs N) κ false 254 [v0, v1, v2] S = s254 N κ v0 v1 v2 S := by kernel_rfl
/- slices.Collect[int] -/
def s258 (N : Nat) (κ : Oracles) (v0 : AV) (S : St) : R :=
 bindC (callN κ.toOracle 334 [(.lst .nil 0 []), v0] S) pnA fun x1 S =>
 some (.ret x1, S)
theorem e258 (N : Nat) (κ : Oracles) (v0 : AV) (S : St) : runF (Cs N) κ false 258 [v0] S = s258 N κ v0 S := by kernel_rfl
/- maps.Keys[map[int]bool,int,bool]$1 -/
def s259 (N : Nat) (κ : Oracles) (v0 v1 : AV) (S : St) : R :=
 bindP (oLoad 1 false S v1) fun x1 =>
 bindC (okv (oRg S x1)) pnA fun x2 S =>
 loop1 (fun vals S1 k3 =>
 let S := gcHead false S.objs.length [] vals S1;
 bindC (okv (oNext S x2)) pnA fun x4 S =>
 bindP (oExt x4 0) fun x5 =>
 ifA x5
 (bindC (okv (oEntry S x2)) pnA fun x6 S =>
 bindP (oExt x6 0) fun x7 =>
 bindC (callD κ.toOracle 259 v0 [x7] S) pnA fun x8 S =>
 bindP (oUn .not x8) fun x9 =>
 ifA x9
 (some (.ret (.tup []), S))
 (bif sameD [] [] then k3 [] S else none))
 (some (.ret (.tup []), S))) N [] S
theorem e259 (N : Nat) (κ : Oracles) (v0 v1 : AV) (S : St) : runF (Cs N) κ false 259 [v0, v1] S = s259 N κ v0 v1 S := by kernel_rfl
/- slices.insertionSortOrdered[int] -/
def s260 (N : Nat) (κ : Oracles) (v0 v1 v2 : AV) (S : St) : R :=
 bindP (oArith .add v1 (.int .i64 1)) fun x1 =>
 loop1 (fun vals S1 k2 =>
 let S := gcHead false S.objs.length [] vals S1;
 let x3 := vals.getD 0 .junk;
 bindP (oArith .lss x3 v2) fun x4 =>
 ifA x4
 (loop1 (fun vals S1 k5 =>
 let S := gcHead false S.objs.length [] vals S1;
 let x6 := vals.getD 0 .junk;
 bindP (oArith .gtr x6 v1) fun x7 =>
 bindP (guardP x7 true (some v0)) fun x8 =>
 bindP (guardP x7 true (some x6)) fun x9 =>
 bindP (guardP x7 true (oIndexAddrS 1 x8 x9)) fun x10 =>
 bindP (guardP x7 true (oLoad 1 false S x10)) fun x11 =>
 bindP (guardP x7 true (some v0)) fun x12 =>
 bindP (guardP x7 true (some x6)) fun x13 =>
 bindP (guardP x7 true (oArith .sub x13 (.int .i64 1))) fun x14 =>
 bindP (guardP x7 true (oIndexAddrS 1 x12 x14)) fun x15 =>
 bindP (guardP x7 true (oLoad 1 false S x15)) fun x16 =>
 bindC (guardC x7 true S (apart κ.toOracle 266 [x11, x16] S)) (fun _ _ => none) fun x17 S18 =>
 bindP (oPick x7 x17 (.bool false)) fun x19 =>
 bif true then
 (let S := S18;
 ifA x19
 (bindP (oArith .sub x6 (.int .i64 1)) fun x20 =>
 bindP (oArith .sub x6 (.int .i64 1)) fun x21 =>
 bindP (oIndexAddrS 1 v0 x21) fun x22 =>
 bindP (oLoad 1 false S x22) fun x23 =>
 bindP (oIndexAddrS 1 v0 x6) fun x24 =>
 bindP (oLoad 1 false S x24) fun x25 =>
 bindP (oIndexAddrS 1 v0 x6) fun x26 =>
 bindC (ok (oStore 1 S x26 x23)) (fun v Sx => bif (true && true) && true then pnA v Sx else none) fun _ S27 =>
 bindP (oIndexAddrS 1 v0 x20) fun x28 =>
 bindC (ok (oStore 1 S27 x28 x25)) (fun v Sx => bif (true && true) && true then pnA v Sx else none) fun _ S29 =>
 bif true then
 (let S := S29;
 bindP (oArith .sub x6 (.int .i64 1)) fun x30 =>
 bif sameD [] [] then k5 [x30] S else none)
 else none)
 (bindP (oArith .add x3 (.int .i64 1)) fun x31 =>
 bif sameD [] [] then k2 [x31] S else none))
 else none) N [x3] S)
 (some (.ret (.tup []), S))) N [x1] S
theorem e260 (N : Nat) (κ : Oracles) (v0 v1 v2 : AV) (S : St) : runF (Cs N) κ false 260 [v0, v1, v2] S = s260 N κ v0 v1 v2 S := by kernel_rfl
/- math/bits.Len64 -/
def s270 (N : Nat) (κ : Oracles) (v0 : AV) (S : St) : R :=
 let j1 : List AV → St → R := (fun vals S =>
 let x2 := vals.getD 0 .junk;
 let x3 := vals.getD 1 .junk;
 let j4 : List AV → St → R := (fun vals S =>
 let x5 := vals.getD 0 .junk;
 let x6 := vals.getD 1 .junk;
 let j7 : List AV → St → R := (fun vals S =>
 let x8 := vals.getD 0 .junk;
 let x9 := vals.getD 1 .junk;
 bindP (cII .u8 x8) fun x10 =>
 bindP (oIndexStr (.str [0, 1, 2, 2, 3, 3, 3, 3, 4, 4, 4, 4, 4, 4, 4, 4, 5, 5, 5, 5, 5, 5, 5, 5, 5, 5, 5, 5, 5, 5, 5, 5, 6, 6, 6, 6, 6, 6, 6, 6, 6, 6, 6, 6, 6, 6, 6, 6, 6, 6, 6, 6, 6, 6, 6, 6, 6, 6, 6, 6, 6, 6, 6, 6, 7, 7, 7, 7, 7, 7, 7, 7, 7, 7, 7, 7, 7, 7, 7, 7, 7, 7, 7, 7, 7, 7, 7, 7, 7, 7, 7, 7, 7, 7, 7, 7, 7, 7, 7, 7, 7, 7, 7, 7, 7, 7, 7, 7, 7, 7, 7, 7, 7, 7, 7, 7, 7, 7, 7, 7, 7, 7, 7, 7, 7, 7, 7, 7, 8, 8, 8, 8, 8, 8, 8, 8, 8, 8, 8, 8, 8, 8, 8, 8, 8, 8, 8, 8, 8, 8, 8, 8, 8, 8, 8, 8, 8, 8, 8, 8, 8, 8, 8, 8, 8, 8, 8, 8, 8, 8, 8, 8, 8, 8, 8, 8, 8, 8, 8, 8, 8, 8, 8, 8, 8, 8, 8, 8, 8, 8, 8, 8, 8, 8, 8, 8, 8, 8, 8, 8, 8, 8, 8, 8, 8, 8, 8, 8, 8, 8, 8, 8, 8, 8, 8, 8, 8, 8, 8, 8, 8, 8, 8, 8, 8, 8, 8, 8, 8, 8, 8, 8, 8, 8, 8, 8, 8, 8, 8, 8, 8, 8, 8, 8, 8, 8, 8, 8, 8, 8, 8, 8, 8, 8, 8, 8]) x10) fun x11 =>
 bindP (cII .i64 x11) fun x12 =>
 bindP (oArith .add x9 x12) fun x13 =>
 some (.ret x13, S));
 bindP (oArith .geq x5 (.int .u64 256)) fun x14 =>
 ifA x14
 (bindP (oShiftV .shr x5 (.int .u64 8)) fun x15 =>
 bindP (oArith .add x6 (.int .i64 8)) fun x16 =>
 bif sameD [] [] then Join j7 [x15, x16] S else none)
 (bif sameD [] [] then Join j7 [x5, x6] S else none));
 bindP (oArith .geq x2 (.int .u64 65536)) fun x17 =>
 ifA x17
 (bindP (oShiftV .shr x2 (.int .u64 16)) fun x18 =>
 bindP (oArith .add x3 (.int .i64 16)) fun x19 =>
 bif sameD [] [] then Join j4 [x18, x19] S else none)
 (bif sameD [] [] then Join j4 [x2, x3] S else none));
 bindP (oArith .geq v0 (.int .u64 4294967296)) fun x20 =>
 ifA x20
 (bindP (oShiftV .shr v0 (.int .u64 32)) fun x21 =>
 bif sameD [] [] then Join j1 [x21, (.int .i64 32)] S else none)
 (bif sameD [] [] then Join j1 [v0, (.int .i64 0)] S else none)
theorem e270 (N : Nat) (κ : Oracles) (v0 : AV) (S : St) : runF (Cs N) κ false 270 [v0] S = s270 N κ v0 S := by kernel_rfl
/- sacristan/window.first -/
def s271 (N : Nat) (κ : Oracles) (v0 v1 : AV) (S : St) : R :=
 loop1 (fun vals S1 k1 =>
 let S := gcHead false S.objs.length [] vals S1;
 let x2 := vals.getD 0 .junk;
 let x3 := vals.getD 1 .junk;
 let j4 : List AV → St → R := (fun vals S =>
 let x5 := vals.getD 0 .junk;
 let x6 := vals.getD 1 .junk;
 bindP (oArith .add x5 (.int .i64 1)) fun x7 =>
 bif sameD [] [] then k1 [x7, x6] S else none);
 let j8 : List AV → St → R := (fun vals S =>
 let x9 := vals.getD 0 .junk;
 let x10 := vals.getD 1 .junk;
 ifA x10
 (some (.ret x9, S))
 (bif sameD [] [] then Join j4 [x9, x10] S else none));
 bindP (oLen S (.slice 3) v0) fun x11 =>
 bindP (bE (eG (some [.i]) false false false x2 x11)) fun x12 =>
 ifA x12
 (bif sameD [] [] then Join j8 [x2, x12] S else none)
 (bindP (oIndexAddrS 1 v0 x2) fun x13 =>
 bindP (oLoad 1 false S x13) fun x14 =>
 bindP (oArith .gtr x14 v1) fun x15 =>
 bif sameD [] [] then Join j8 [x2, x15] S else none)) N [(.int .i64 0), undefA] S
theorem e271 (N : Nat) (κ : Oracles) (v0 v1 : AV) (S : St) : runF (Cs N) κ false 271 [v0, v1] S = s271 N κ v0 v1 S := by kernel_rfl
/- sacristan/cmd.of -/
def s273 (N : Nat) (κ : Oracles) (v0 : AV) (S : St) : R :=
 bindC (oBox S v0) pnA fun x1 S =>
 bindP (oFieldAddr 2 6 x1) fun x2 =>
 bindP (oLoad 6 true S x2) fun x3 =>
 bindP (oFill (plS [(0, 1), (1, 3), (4, 1), (5, 1)]) [.int .i64 0, .int .i64 0, .int .i64 0, .int .i64 0, .lst .nil 0 [], .lst .nil 0 []] []) fun x4 =>
 bindC (apart κ.toOracle 296 [x3, x4] S) pnA fun x5 S =>
 bindP (oFieldAddr 0 1 x1) fun x6 =>
 bindP (oLoad 1 false S x6) fun x7 =>
 bindP (bE (eG (some [.i]) false false false x7 (.int .u8 1))) fun x8 =>
 bindP (guardP x8 true (oFieldAddr 8 1 x1)) fun x9 =>
 bindP (guardP x8 true (oLoad 1 false S x9)) fun x10 =>
 bindP (guardP x8 true (bE (eG (some [.i]) false false false x10 (.int .i64 0)))) fun x11 =>
 bindP (oPick x8 x11 (.bool false)) fun x12 =>
 ifA x12
 (bindP (oFieldAddr 2 6 x1) fun x13 =>
 bindP (oLoad 6 true S x13) fun x14 =>
 bindP (oFill (plS [(0, 6)]) [.int .i64 0, .int .i64 0, .int .i64 0, .int .i64 0, .lst .nil 0 [], .lst .nil 0 []] [(0, x14)]) fun x15 =>
 bindP (mkI 401 x15) fun x16 =>
 some (.ret x16, S))
 (bindP (oFieldAddr 0 1 x1) fun x17 =>
 bindP (oLoad 1 false S x17) fun x18 =>
 bindP (bE (eG (some [.i]) false false false x18 (.int .u8 2))) fun x19 =>
 bindP (guardP x19 true (some x5)) fun x20 =>
 bindP (oPick x19 x20 (.bool false)) fun x21 =>
 ifA x21
 (bindP (oFieldAddr 8 1 x1) fun x22 =>
 bindP (oLoad 1 false S x22) fun x23 =>
 bindP (oFill (plS [(0, 1)]) [.int .i64 0] [(0, x23)]) fun x24 =>
 bindP (mkI 404 x24) fun x25 =>
 some (.ret x25, S))
 (bindP (oFieldAddr 0 1 x1) fun x26 =>
 bindP (oLoad 1 false S x26) fun x27 =>
 bindP (bE (eG (some [.i]) false false false x27 (.int .u8 3))) fun x28 =>
 bindP (guardP x28 true (some x5)) fun x29 =>
 bindP (oPick x28 x29 (.bool false)) fun x30 =>
 ifA x30
 (bindP (oFieldAddr 8 1 x1) fun x31 =>
 bindP (oLoad 1 false S x31) fun x32 =>
 bindP (oFill (plS [(0, 1)]) [.int .i64 0] [(0, x32)]) fun x33 =>
 bindP (mkI 405 x33) fun x34 =>
 some (.ret x34, S))
 (some (.ret .niliface, S))))
theorem e273 (N : Nat) (κ : Oracles) (v0 : AV) (S : St) : runF (Cs N) κ false 273 [v0] S = s273 N κ v0 S := by kernel_rfl
/- sacristan/spec.Encode -/
def s274 (N : Nat) (κ : Oracles) (v0 : AV) (S : St) : R :=
 bindC (oBox S v0) pnA fun x1 S =>
 bindP (oLoad 6 true S x1) fun x2 =>
 bindC (apart κ.toOracle 289 [x2] S) pnA fun x3 S =>
 bindP (bN (eG (some [.i]) false false false x3 (.int .i64 0))) fun x4 =>
 ifA x4
 (some (.ret (.tup [(.str []), x3]), S))
 (bindC (oAl S [.str []]) pnA fun x5 S =>
 bindC (ok (oStore 1 S x5 (.str []))) pnA fun _ S =>
 bindP (some (.func 341 [] [x5])) fun x6 =>
 bindP (oFieldAddr 0 1 x1) fun x7 =>
 bindP (oLoad 1 false S x7) fun x8 =>
 bindP (oFieldAddr 1 3 x1) fun x9 =>
 bindP (oFieldAddr 0 1 x9) fun x10 =>
 bindP (oLoad 1 false S x10) fun x11 =>
 bindP (oFieldAddr 1 3 x1) fun x12 =>
 bindP (oFieldAddr 1 1 x12) fun x13 =>
 bindP (oLoad 1 false S x13) fun x14 =>
 bindP (oFieldAddr 1 3 x1) fun x15 =>
 bindP (oFieldAddr 2 1 x15) fun x16 =>
 bindP (oLoad 1 false S x16) fun x17 =>
 bindP (oFieldAddr 4 1 x1) fun x18 =>
 bindP (oLoad 1 false S x18) fun x19 =>
 bindP (oLen S (.slice 3) x19) fun x20 =>
 bindC (oBS S 1 [.int .i64 0] 5 [(0, x8), (1, x11), (2, x14), (3, x17), (4, x20)]) pnA fun x21 S =>
 bindC (callD κ.toOracle 274 x6 [x21] S) pnA fun x22 S =>
 bindP (oFieldAddr 4 1 x1) fun x23 =>
 bindP (oLoad 1 false S x23) fun x24 =>
 bindC (callD κ.toOracle 274 x6 [x24] S) pnA fun x25 S =>
 bindP (oFieldAddr 5 1 x1) fun x26 =>
 bindP (oLoad 1 false S x26) fun x27 =>
 bindP (oLen S (.slice 134) x27) fun x28 =>
 bindC (oBS S 1 [.int .i64 0] 1 [(0, x28)]) pnA fun x29 S =>
 bindC (callD κ.toOracle 274 x6 [x29] S) pnA fun x30 S =>
 bindP (oFieldAddr 5 1 x1) fun x31 =>
 bindP (oLoad 1 false S x31) fun x32 =>
 bindP (oLen S (.slice 134) x32) fun x33 =>
 loop1 (fun vals S1 k34 =>
 let S := gcHead false S.objs.length [] vals S1;
 let x35 := vals.getD 0 .junk;
 bindP (oArith .lss x35 x33) fun x36 =>
 ifA x36
 (let j37 : List AV → St → R := (fun vals S =>
 bindP (oArith .add x35 (.int .i64 1)) fun x38 =>
 bif sameD [] [] then k34 [x38] S else none);
 bindP (oIndexAddrS 6 x32 x35) fun x39 =>
 bindP (oLoad 6 true S x39) fun x40 =>
 bindC (oAl S [.bool false, .int .i64 0, .int .i64 0, .int .i64 0, .int .i64 0, .int .i64 0]) pnA fun x41 S =>
 bindC (ok (oStore 6 S x41 x40)) pnA fun _ S =>
 let j42 : List AV → St → R := (fun vals S =>
 let x43 := vals.getD 0 .junk;
 bindP (oFieldAddr 0 5 x41) fun x44 =>
 bindP (oFieldAddr 1 1 x44) fun x45 =>
 bindP (oLoad 1 false S x45) fun x46 =>
 bindP (oFieldAddr 0 5 x41) fun x47 =>
 bindP (oFieldAddr 2 1 x47) fun x48 =>
 bindP (oLoad 1 false S x48) fun x49 =>
 bindP (oFieldAddr 0 5 x41) fun x50 =>
 bindP (oFieldAddr 3 1 x50) fun x51 =>
 bindP (oLoad 1 false S x51) fun x52 =>
 bindP (oFieldAddr 0 5 x41) fun x53 =>
 bindP (oFieldAddr 4 1 x53) fun x54 =>
 bindP (oLoad 1 false S x54) fun x55 =>
 bindP (oFieldAddr 5 1 x41) fun x56 =>
 bindP (oLoad 1 false S x56) fun x57 =>
 bindC (oBS S 1 [.int .i64 0] 6 [(0, x43), (1, x46), (2, x49), (3, x52), (4, x55), (5, x57)]) pnA fun x58 S =>
 bindC (callD κ.toOracle 274 x6 [x58] S) pnA fun x59 S =>
 bif sameD [] [] then Join j37 [] S else none);
 bindP (oFieldAddr 0 5 x41) fun x60 =>
 bindP (oFieldAddr 0 1 x60) fun x61 =>
 bindP (oLoad 1 false S x61) fun x62 =>
 ifA x62
 (bif sameD [] [] then Join j42 [(.int .i64 1)] S else none)
 (bif sameD [] [] then Join j42 [(.int .i64 0)] S else none))
 (bindP (oLoad 1 false S x5) fun x63 =>
 some (.ret (.tup [x63, (.int .i64 0)]), S))) N [(.int .i64 0)] S)
theorem e274 (N : Nat) (κ : Oracles) (v0 : AV) (S : St) : runF (Cs N) κ false 274 [v0] S = s274 N κ v0 S := by kernel_rfl
/- sacristan/pack.number -/
def s275 (N : Nat) (κ : Oracles) (v0 : AV) (S : St) : R :=
 bindP (oLen S .string v0) fun x1 =>
 loop1 (fun vals S1 k2 =>
 let S := gcHead false S.objs.length [] vals S1;
 let x3 := vals.getD 0 .junk;
 let x4 := vals.getD 1 .junk;
 bindP (oArith .lss x4 x1) fun x5 =>
 ifA x5
 (bindP (oShiftV .shl x3 (.int .u64 8)) fun x6 =>
 bindP (oIndexStr v0 x4) fun x7 =>
 bindP (cII .u64 x7) fun x8 =>
 bindP (oArith .or x6 x8) fun x9 =>
 bindP (oArith .add x4 (.int .i64 1)) fun x10 =>
 bif sameD [] [] then k2 [x9, x10] S else none)
 (some (.ret x3, S))) N [(.int .u64 0), (.int .i64 0)] S
theorem e275 (N : Nat) (κ : Oracles) (v0 : AV) (S : St) : runF (Cs N) κ false 275 [v0] S = s275 N κ v0 S := by kernel_rfl
/- sacristan/slots.Decode -/
def s277 (N : Nat) (κ : Oracles) (v0 : AV) (S : St) : R :=
 bindC (oAl S [.int .i64 0, .int .i64 0, .int .i64 0, .int .i64 0, .int .i64 0]) pnA fun x1 S =>
 bindP (oLen S .string v0) fun x2 =>
 bindP (bN (eG (some [.i]) false false false x2 (.int .i64 80))) fun x3 =>
 ifA x3
 (bindP (oFill (plS [(0, 1), (1, 1), (2, 1), (3, 1), (4, 1)]) [.int .i64 0, .int .i64 0, .int .i64 0, .int .i64 0, .int .i64 0] []) fun x4 =>
 bindC (ok (oStore 5 S x1 x4)) pnA fun _ S =>
 (resA [(oLoad 5 true S x1), (some (.int .i64 12))]).map fun vs => (.ret (packV vs), S))
 (bindC (oAl S [.int .i64 0, .int .i64 0, .int .i64 0, .int .i64 0, .int .i64 0]) (fun _ _ => none) fun x5 S =>
 bindP (slT v0 none (some (.int .i64 6)) none) fun x6 =>
 bindC (apart κ.toOracle 348 [x6] S) (fun _ _ => none) fun x7 S8 =>
 bindP (slT v0 (some (.int .i64 6)) (some (.int .i64 10)) none) fun x9 =>
 bindC (apart κ.toOracle 348 [x9] S8) (fun _ _ => none) fun x10 S11 =>
 bindP (slT v0 (some (.int .i64 10)) (some (.int .i64 11)) none) fun x12 =>
 bindC (apart κ.toOracle 348 [x12] S11) (fun _ _ => none) fun x13 S14 =>
 bindP (slT v0 (some (.int .i64 11)) (some (.int .i64 17)) none) fun x15 =>
 bindC (apart κ.toOracle 348 [x15] S14) (fun _ _ => none) fun x16 S17 =>
 bindP (slT v0 (some (.int .i64 17)) (some (.int .i64 19)) none) fun x18 =>
 bindC (apart κ.toOracle 348 [x18] S17) (fun _ _ => none) fun x19 S20 =>
 bindP (oFill (plS [(0, 1), (1, 1), (2, 1), (3, 1), (4, 1)]) [.int .i64 0, .int .i64 0, .int .i64 0, .int .i64 0, .int .i64 0] [(0, x7), (1, x10), (2, x13), (3, x16), (4, x19)]) fun x21 =>
 bindC (ok (oStore 5 S20 x5 x21)) (fun v Sx => bif (true && true) && true then pnA v Sx else none) fun _ S22 =>
 bif true then
 (let S := S22;
 bindP (oLoad 5 true S x5) fun x23 =>
 bindC (apart κ.toOracle 282 [x23] S) pnA fun x24 S =>
 bindP (oExt x24 0) fun x25 =>
 bindP (oExt x24 1) fun x26 =>
 bindP (bN (eG (some [.i]) false false false x26 (.int .i64 0))) fun x27 =>
 bindP (guardP x27 false (some x25)) fun x28 =>
 bindP (guardP x27 false (some v0)) fun x29 =>
 bindP (guardP x27 false (bN (eG (some [.s]) false false false x28 x29))) fun x30 =>
 bindP (oPick x27 (.bool true) x30) fun x31 =>
 ifA x31
 (bindP (oFill (plS [(0, 1), (1, 1), (2, 1), (3, 1), (4, 1)]) [.int .i64 0, .int .i64 0, .int .i64 0, .int .i64 0, .int .i64 0] []) fun x32 =>
 bindC (ok (oStore 5 S x1 x32)) pnA fun _ S =>
 (resA [(oLoad 5 true S x1), (some (.int .i64 12))]).map fun vs => (.ret (packV vs), S))
 (bindP (oLoad 5 true S x5) fun x33 =>
 bindC (ok (oStore 5 S x1 x33)) pnA fun _ S =>
 (resA [(oLoad 5 true S x1), (some (.int .i64 0))]).map fun vs => (.ret (packV vs), S)))
 else none)
theorem e277 (N : Nat) (κ : Oracles) (v0 : AV) (S : St) : runF (Cs N) κ false 277 [v0] S = s277 N κ v0 S := by kernel_rfl
/- (sacristan/slots.header).newer -/
def s278 (N : Nat) (κ : Oracles) (v0 v1 : AV) (S : St) : R :=
 bindC (oBox S v0) pnA fun x1 S =>
 bindC (oBox S v1) pnA fun x2 S =>
 bindP (oFieldAddr 0 1 x1) fun x3 =>
 bindP (oLoad 1 false S x3) fun x4 =>
 bindP (oFieldAddr 0 1 x2) fun x5 =>
 bindP (oLoad 1 false S x5) fun x6 =>
 bindP (oArith .gtr x4 x6) fun x7 =>
 some (.ret x7, S)
theorem e278 (N : Nat) (κ : Oracles) (v0 v1 : AV) (S : St) : runF (Cs N) κ false 278 [v0, v1] S = s278 N κ v0 v1 S := by kernel_rfl
/- (*sacristan/journal.Journal).begin -/
def s279 (N : Nat) (κ : Oracles) (v0 v1 : AV) (S : St) : R :=
 bindP (oNilC v0) fun x1 =>
 bindP (oFieldAddr 1 1 x1) fun x2 =>
 bindP (oLoad 1 false S x2) fun x3 =>
 bindP (oArith .add (.int .i64 2) x3) fun x4 =>
 bindP (oFill (plA 1) [.int .i64 0, .int .i64 0] [(0, (.int .i64 2)), (1, x4)]) fun x5 =>
 bindC (oAl S [.int .i64 0, .int .i64 0]) pnA fun x6 S =>
 bindC (ok (oStore 2 S x6 x5)) pnA fun _ S =>
 bindP (oIndexAddrA 2 1 x6 v1) fun x7 =>
 bindP (oLoad 1 false S x7) fun x8 =>
 some (.ret x8, S)
theorem e279 (N : Nat) (κ : Oracles) (v0 v1 : AV) (S : St) : runF (Cs N) κ false 279 [v0, v1] S = s279 N κ v0 v1 S := by kernel_rfl
/- (*sacristan/journal.Journal).scan$1 -/
def s280 (N : Nat) (κ : Oracles) (v0 v1 v2 v3 : AV) (S : St) : R :=
 bindC (oBox S v0) pnA fun x1 S =>
 bindP (oLoad 1 false S v1) fun x2 =>
 bindP (oFieldAddr 5 1 x1) fun x3 =>
 bindP (oLoad 1 false S x3) fun x4 =>
 bindC (oBS S 1 [.str []] 1 [(0, x4)]) pnA fun x5 S =>
 bindC (oApp false 1 16 S x2 x5) pnA fun x6 S =>
 bindC (ok (oStore 1 S v1 x6)) pnA fun _ S =>
 bindP (oLoad 1 false S v2) fun x7 =>
 bindP (oLoad 1 false S v2) fun x8 =>
 bindP (oLoad 1 false S v2) fun x9 =>
 bindP (oNilC x9) fun x10 =>
 bindP (oFieldAddr 8 1 x10) fun x11 =>
 bindP (oLoad 1 false S x11) fun x12 =>
 bindP (oFieldAddr 3 1 x1) fun x13 =>
 bindP (oLoad 1 false S x13) fun x14 =>
 bindP (oArith .add x12 x14) fun x15 =>
 bindP (oFieldAddr 1 1 x1) fun x16 =>
 bindP (oLoad 1 false S x16) fun x17 =>
 bindP (oFieldAddr 0 1 x1) fun x18 =>
 bindP (oLoad 1 false S x18) fun x19 =>
 bindP (oNilC x7) fun x20 =>
 bindP (oFieldAddr 8 1 x20) fun x21 =>
 bindC (ok (oStore 1 S x21 x15)) (fun v Sx => bif (true && true) && true then pnA v Sx else none) fun _ S22 =>
 bindP (oNilC x8) fun x23 =>
 bindP (oFieldAddr 7 1 x23) fun x24 =>
 bindC (ok (oStore 1 S22 x24 x17)) (fun v Sx => bif (true && (((false || (chkA (oLoad 1 false S x18) x19 && chkA (oLoad 1 false S22 x18) x19)) && true) && (((false || (chkA (oLoad 1 false S x16) x17 && chkA (oLoad 1 false S22 x16) x17)) && true) && ((true && true) && ((true && true) && ((true && true) && (((false || (chkA (oLoad 1 false S v2) x8 && chkA (oLoad 1 false S22 v2) x8)) && true) && ((true && true) && true)))))))) && true then pnA v Sx else none) fun _ S25 =>
 bindC (ok (oStore 1 S25 v3 x19)) (fun v Sx => bif (true && (((false || (chkA (oLoad 1 false S22 x18) x19 && chkA (oLoad 1 false S25 x18) x19)) && ((false || (chkA (oLoad 1 false S x18) x19 && chkA (oLoad 1 false S22 x18) x19)) && true)) && ((true && ((false || (chkA (oLoad 1 false S x16) x17 && chkA (oLoad 1 false S22 x16) x17)) && true)) && ((true && (true && true)) && ((true && (true && true)) && ((true && (true && true)) && ((true && ((false || (chkA (oLoad 1 false S v2) x8 && chkA (oLoad 1 false S22 v2) x8)) && true)) && ((true && (true && true)) && true)))))))) && true then pnA v Sx else none) fun _ S26 =>
 bif ((true && ((false || (chkA (oLoad 1 false S22 x18) x19 && chkA (oLoad 1 false S25 x18) x19)) && ((false || (chkA (oLoad 1 false S x18) x19 && chkA (oLoad 1 false S22 x18) x19)) && true))) && ((true && (true && ((false || (chkA (oLoad 1 false S x16) x17 && chkA (oLoad 1 false S22 x16) x17)) && true))) && ((true && (true && (true && true))) && ((true && (true && (true && true))) && ((true && (true && (true && true))) && ((true && (true && ((false || (chkA (oLoad 1 false S v2) x8 && chkA (oLoad 1 false S22 v2) x8)) && true))) && ((true && (true && (true && true))) && true))))))) then
 (let S := S26;
 some (.ret (.tup []), S))
 else none
theorem e280 (N : Nat) (κ : Oracles) (v0 v1 v2 v3 : AV) (S : St) : runF (Cs N) κ false 280 [v0, v1, v2, v3] S = s280 N κ v0 v1 v2 v3 S := by kernel_rfl
/- sacristan/record.Read -/
def s281 (N : Nat) (κ : Oracles) (v0 v1 v2 v3 v4 : AV) (S : St) : R :=
 bindC (oAl S [.int .i64 0, .int .i64 0, .int .i64 0, .int .i64 0, .int .u8 0, .str []]) pnA fun x1 S =>
 bindP (bE (eNil kPtr v0 .nilptr)) fun x2 =>
 ifA x2
 (bindP (oFill (plS [(0, 1), (1, 1), (2, 1), (3, 1), (4, 1), (5, 1)]) [.int .i64 0, .int .i64 0, .int .i64 0, .int .i64 0, .int .u8 0, .str []] []) fun x3 =>
 bindC (ok (oStore 6 S x1 x3)) pnA fun _ S =>
 (resA [(oLoad 6 true S x1), (some (.int .i64 1))]).map fun vs => (.ret (packV vs), S))
 (bindP (oArith .lss v1 (.int .i64 0)) fun x4 =>
 bindP (guardP x4 false (some v1)) fun x5 =>
 bindP (guardP x4 false (some v2)) fun x6 =>
 bindP (guardP x4 false (oArith .gtr x5 x6)) fun x7 =>
 bindP (oPick x4 (.bool true) x7) fun x8 =>
 bindP (guardP x8 false (some v2)) fun x9 =>
 bindP (guardP x8 false (some v0)) fun x10 =>
 bindC (guardC x8 false S (callN κ.toOracle 169 [x10] S)) pnA fun x11 S =>
 bindP (guardP x8 false (oArith .gtr x9 x11)) fun x12 =>
 bindP (oPick x8 (.bool true) x12) fun x13 =>
 ifA x13
 (bindP (oFill (plS [(0, 1), (1, 1), (2, 1), (3, 1), (4, 1), (5, 1)]) [.int .i64 0, .int .i64 0, .int .i64 0, .int .i64 0, .int .u8 0, .str []] []) fun x14 =>
 bindC (ok (oStore 6 S x1 x14)) pnA fun _ S =>
 (resA [(oLoad 6 true S x1), (some (.int .i64 3))]).map fun vs => (.ret (packV vs), S))
 (bindC (callN κ.toOracle 170 [v0, (.int .i64 0)] S) pnA fun x15 S =>
 bindP (oExt x15 0) fun x16 =>
 bindP (oExt x15 1) fun x17 =>
 bindP (bN (eG (some [.i]) false false false x17 (.int .i64 0))) fun x18 =>
 ifA x18
 (bindP (oFill (plS [(0, 1), (1, 1), (2, 1), (3, 1), (4, 1), (5, 1)]) [.int .i64 0, .int .i64 0, .int .i64 0, .int .i64 0, .int .u8 0, .str []] []) fun x19 =>
 bindC (ok (oStore 6 S x1 x19)) pnA fun _ S =>
 (resA [(oLoad 6 true S x1), (some x17)]).map fun vs => (.ret (packV vs), S))
 (loop1 (fun vals S1 k20 =>
 let S := gcHead false S.objs.length [] vals S1;
 let x21 := vals.getD 0 .junk;
 let x22 := vals.getD 1 .junk;
 let x23 := vals.getD 2 .junk;
 let x24 := vals.getD 3 .junk;
 bindP (oArith .lss x24 x23) fun x25 =>
 ifA x25
 (let j26 : List AV → St → R := (fun vals S =>
 let x27 := vals.getD 0 .junk;
 let x28 := vals.getD 1 .junk;
 let x29 := vals.getD 2 .junk;
 bindP (oArith .add x24 (.int .i64 1)) fun x30 =>
 bif sameD [] [] then k20 [x27, x28, x29, x30] S else none);
 bindP (oArith .add v1 x24) fun x31 =>
 bindP (oArith .geq x31 v2) fun x32 =>
 ifA x32
 (bindP (oFill (plS [(0, 1), (1, 1), (2, 1), (3, 1), (4, 1), (5, 1)]) [.int .i64 0, .int .i64 0, .int .i64 0, .int .i64 0, .int .u8 0, .str []] []) fun x33 =>
 bindC (ok (oStore 6 S x1 x33)) pnA fun _ S =>
 (resA [(oLoad 6 true S x1), (some (.int .i64 12))]).map fun vs => (.ret (packV vs), S))
 (bindP (oArith .add v1 x24) fun x34 =>
 bindC (callN κ.toOracle 170 [v0, x34] S) pnA fun x35 S =>
 bindP (oExt x35 0) fun x36 =>
 bindP (oExt x35 1) fun x37 =>
 bindP (bN (eG (some [.i]) false false false x37 (.int .i64 0))) fun x38 =>
 ifA x38
 (bindP (oFill (plS [(0, 1), (1, 1), (2, 1), (3, 1), (4, 1), (5, 1)]) [.int .i64 0, .int .i64 0, .int .i64 0, .int .i64 0, .int .u8 0, .str []] []) fun x39 =>
 bindC (ok (oStore 6 S x1 x39)) pnA fun _ S =>
 (resA [(oLoad 6 true S x1), (some x37)]).map fun vs => (.ret (packV vs), S))
 (bindC (apart κ.toOracle 349 [x36] S) pnA fun x40 S =>
 bindP (oExt x40 0) fun x41 =>
 bindP (oExt x40 1) fun x42 =>
 bindC (oAl S [.int .i64 0, .int .i64 0, .int .i64 0, .int .i64 0, .int .u8 0, .str []]) pnA fun x43 S =>
 bindC (ok (oStore 6 S x43 x41)) pnA fun _ S =>
 bindP (bN (eG (some [.i]) false false false x42 (.int .i64 0))) fun x44 =>
 ifA x44
 (bindP (oFill (plS [(0, 1), (1, 1), (2, 1), (3, 1), (4, 1), (5, 1)]) [.int .i64 0, .int .i64 0, .int .i64 0, .int .i64 0, .int .u8 0, .str []] []) fun x45 =>
 bindC (ok (oStore 6 S x1 x45)) pnA fun _ S =>
 (resA [(oLoad 6 true S x1), (some (.int .i64 12))]).map fun vs => (.ret (packV vs), S))
 (let j46 : List AV → St → R := (fun vals S =>
 let x47 := vals.getD 0 .junk;
 bindC (oBS S 1 [.str []] 1 [(0, x36)]) pnA fun x48 S =>
 bindC (oApp false 1 16 S x22 x48) pnA fun x49 S =>
 bif sameD [] [] then Join j26 [x21, x49, x47] S else none);
 bindP (bE (eG (some [.i]) false false false x24 (.int .i64 0))) fun x50 =>
 ifA x50
 (bindP (oLoad 6 true S x43) fun x51 =>
 bindP (oFieldAddr 3 1 x43) fun x52 =>
 bindP (oLoad 1 false S x52) fun x53 =>
 bindC (ok (oStore 6 S x1 x51)) (fun v Sx => bif (true && true) && true then pnA v Sx else none) fun _ S54 =>
 bif (((false || (chkA (oLoad 1 false S x52) x53 && chkA (oLoad 1 false S54 x52) x53)) && true) && ((true && true) && true)) then
 (let S := S54;
 bif sameD [] [] then Join j46 [x53] S else none)
 else none)
 (bindP (oFieldAddr 5 1 x1) fun x55 =>
 bindP (oLoad 1 false S x55) fun x56 =>
 bindP (oFieldAddr 5 1 x43) fun x57 =>
 bindP (oLoad 1 false S x57) fun x58 =>
 bindP (oArith .add x56 x58) fun x59 =>
 bindP (oFieldAddr 5 1 x1) fun x60 =>
 bindC (ok (oStore 1 S x60 x59)) pnA fun _ S =>
 bif sameD [] [] then Join j46 [x23] S else none)))))
 (bindP (oFieldAddr 0 1 x1) fun x61 =>
 bindP (oLoad 1 false S x61) fun x62 =>
 bindP (oFieldAddr 1 1 x1) fun x63 =>
 bindP (oLoad 1 false S x63) fun x64 =>
 bindP (oFieldAddr 4 1 x1) fun x65 =>
 bindP (oLoad 1 false S x65) fun x66 =>
 bindP (oFieldAddr 5 1 x1) fun x67 =>
 bindP (oLoad 1 false S x67) fun x68 =>
 bindC (apart κ.toOracle 350 [x62, x64, x66, x68] S) pnA fun x69 S =>
 bindP (oExt x69 0) fun x70 =>
 bindP (oExt x69 1) fun x71 =>
 bindP (bN (eG (some [.i]) false false false x71 (.int .i64 0))) fun x72 =>
 bindP (guardP x72 false (oFieldAddr 1 1 x1)) fun x73 =>
 bindP (guardP x72 false (oLoad 1 false S x73)) fun x74 =>
 bindP (guardP x72 false (some v3)) fun x75 =>
 bindP (guardP x72 false (bN (eG (some [.i]) false false false x74 x75))) fun x76 =>
 bindP (oPick x72 (.bool true) x76) fun x77 =>
 bindP (guardP x77 false (oFieldAddr 0 1 x1)) fun x78 =>
 bindP (guardP x77 false (oLoad 1 false S x78)) fun x79 =>
 bindP (guardP x77 false (some v4)) fun x80 =>
 bindP (guardP x77 false (oArith .lss x79 x80)) fun x81 =>
 bindP (oPick x77 (.bool true) x81) fun x82 =>
 bindP (guardP x82 false (some x22)) fun x83 =>
 bindP (guardP x82 false (some x70)) fun x84 =>
 bindC (guardC x82 false S (apart κ.toOracle 351 [x83, x84] S)) pnA fun x85 S =>
 bindP (guardP x82 false (oUn .not x85)) fun x86 =>
 bindP (oPick x82 (.bool true) x86) fun x87 =>
 ifA x87
 (bindP (oFill (plS [(0, 1), (1, 1), (2, 1), (3, 1), (4, 1), (5, 1)]) [.int .i64 0, .int .i64 0, .int .i64 0, .int .i64 0, .int .u8 0, .str []] []) fun x88 =>
 bindC (ok (oStore 6 S x1 x88)) pnA fun _ S =>
 (resA [(oLoad 6 true S x1), (some (.int .i64 12))]).map fun vs => (.ret (packV vs), S))
 (bindP (oLoad 6 true S x1) fun x89 =>
 bindC (ok (oStore 6 S x1 x89)) pnA fun _ S =>
 (resA [(oLoad 6 true S x1), (some (.int .i64 0))]).map fun vs => (.ret (packV vs), S)))) N [(.int .i64 0), (.lst .nil 0 []), (.int .i64 1), (.int .i64 0)] S)))
theorem e281 (N : Nat) (κ : Oracles) (v0 v1 v2 v3 v4 : AV) (S : St) : runF (Cs N) κ false 281 [v0, v1, v2, v3, v4] S = s281 N κ v0 v1 v2 v3 v4 S := by kernel_rfl
/- sacristan/slots.Encode -/
def s282 (N : Nat) (κ : Oracles) (v0 : AV) (S : St) : R :=
 bindC (oBox S v0) pnA fun x1 S =>
 bindP (oFieldAddr 0 1 x1) fun x2 =>
 bindP (oLoad 1 false S x2) fun x3 =>
 bindC (apart κ.toOracle 352 [x3, (.int .i64 1), (.int .i64 281474976710655)] S) pnA fun x4 S =>
 bindP (oUn .not x4) fun x5 =>
 bindP (guardP x5 false (oFieldAddr 3 1 x1)) fun x6 =>
 bindP (guardP x5 false (oLoad 1 false S x6)) fun x7 =>
 bindC (guardC x5 false S (apart κ.toOracle 352 [x7, (.int .i64 1), (.int .i64 281474976710655)] S)) pnA fun x8 S =>
 bindP (guardP x5 false (oUn .not x8)) fun x9 =>
 bindP (oPick x5 (.bool true) x9) fun x10 =>
 bindP (guardP x10 false (oFieldAddr 1 1 x1)) fun x11 =>
 bindP (guardP x10 false (oLoad 1 false S x11)) fun x12 =>
 bindC (guardC x10 false S (apart κ.toOracle 352 [x12, (.int .i64 1), (.int .i64 4294967295)] S)) pnA fun x13 S =>
 bindP (guardP x10 false (oUn .not x13)) fun x14 =>
 bindP (oPick x10 (.bool true) x14) fun x15 =>
 bindP (guardP x15 false (oFieldAddr 2 1 x1)) fun x16 =>
 bindP (guardP x15 false (oLoad 1 false S x16)) fun x17 =>
 bindC (guardC x15 false S (apart κ.toOracle 352 [x17, (.int .i64 0), (.int .i64 1)] S)) pnA fun x18 S =>
 bindP (guardP x15 false (oUn .not x18)) fun x19 =>
 bindP (oPick x15 (.bool true) x19) fun x20 =>
 bindP (guardP x20 false (oFieldAddr 4 1 x1)) fun x21 =>
 bindP (guardP x20 false (oLoad 1 false S x21)) fun x22 =>
 bindC (guardC x20 false S (apart κ.toOracle 352 [x22, (.int .i64 0), (.int .i64 65535)] S)) pnA fun x23 S =>
 bindP (guardP x20 false (oUn .not x23)) fun x24 =>
 bindP (oPick x20 (.bool true) x24) fun x25 =>
 ifA x25
 (some (.ret (.tup [(.str []), (.int .i64 2)]), S))
 (bindP (oFieldAddr 0 1 x1) fun x26 =>
 bindP (oLoad 1 false S x26) fun x27 =>
 bindC (apart κ.toOracle 353 [x27, (.int .i64 6)] S) (fun _ _ => none) fun x28 S29 =>
 bindP (oFieldAddr 1 1 x1) fun x30 =>
 bindP (oLoad 1 false S29 x30) fun x31 =>
 bindC (apart κ.toOracle 353 [x31, (.int .i64 4)] S29) (fun _ _ => none) fun x32 S33 =>
 bindP (oArith .add x28 x32) fun x34 =>
 bindP (oFieldAddr 2 1 x1) fun x35 =>
 bindP (oLoad 1 false S33 x35) fun x36 =>
 bindC (apart κ.toOracle 353 [x36, (.int .i64 1)] S33) (fun _ _ => none) fun x37 S38 =>
 bindP (oArith .add x34 x37) fun x39 =>
 bindP (oFieldAddr 3 1 x1) fun x40 =>
 bindP (oLoad 1 false S38 x40) fun x41 =>
 bindC (apart κ.toOracle 353 [x41, (.int .i64 6)] S38) (fun _ _ => none) fun x42 S43 =>
 bindP (oArith .add x39 x42) fun x44 =>
 bindP (oFieldAddr 4 1 x1) fun x45 =>
 bindP (oLoad 1 false S43 x45) fun x46 =>
 bindC (apart κ.toOracle 353 [x46, (.int .i64 2)] S43) (fun _ _ => none) fun x47 S48 =>
 bindP (oArith .add x44 x47) fun x49 =>
 bif true then
 (let S := S48;
 bindC (apart κ.toOracle 331 [x49] S) pnA fun x50 S =>
 bindP (cII .i64 x50) fun x51 =>
 bindC (apart κ.toOracle 353 [x51, (.int .i64 4)] S) pnA fun x52 S =>
 bindP (oArith .add x49 x52) fun x53 =>
 bindP (oLen S .string x53) fun x54 =>
 bindP (oArith .sub (.int .i64 74) x54) fun x55 =>
 bindC (apart κ.toOracle 276 [(.str [0]), x55] S) (fun _ _ => none) fun x56 S57 =>
 bindP (oArith .add x53 x56) fun x58 =>
 bindP (slT x49 none (some (.int .i64 6)) none) fun x59 =>
 bindP (oArith .add x58 x59) fun x60 =>
 bif true then
 (let S := S57;
 some (.ret (.tup [x60, (.int .i64 0)]), S))
 else none)
 else none)
theorem e282 (N : Nat) (κ : Oracles) (v0 : AV) (S : St) : runF (Cs N) κ false 282 [v0] S = s282 N κ v0 S := by kernel_rfl
/- sacristan/state.from -/
def s288 (N : Nat) (κ : Oracles) (v0 v1 v2 : AV) (S : St) : R :=
 bindP (oArith .geq v0 v1) fun x1 =>
 bindP (guardP x1 true (some v0)) fun x2 =>
 bindP (guardP x1 true (some v2)) fun x3 =>
 bindP (guardP x1 true (oArith .leq x2 x3)) fun x4 =>
 bindP (oPick x1 x4 (.bool false)) fun x5 =>
 some (.ret x5, S)
theorem e288 (N : Nat) (κ : Oracles) (v0 v1 v2 : AV) (S : St) : runF (Cs N) κ false 288 [v0, v1, v2] S = s288 N κ v0 v1 v2 S := by kernel_rfl
/- sacristan/spec.Check -/
def s289 (N : Nat) (κ : Oracles) (v0 : AV) (S : St) : R :=
 bindC (oBox S v0) pnA fun x1 S =>
 bindP (some (.func 355 [] [x1])) fun x2 =>
 bindP (some (.func 356 [] [x1])) fun x3 =>
 bindP (some (.func 357 [] [x1])) fun x4 =>
 bindP (some (.func 359 [] [x1])) fun x5 =>
 bindC (oBS S 1 [.nilfunc] 4 [(0, x2), (1, x3), (2, x4), (3, x5)]) pnA fun x6 S =>
 bindP (oFieldAddr 5 1 x1) fun x7 =>
 bindP (oLoad 1 false S x7) fun x8 =>
 bindP (oFieldAddr 5 1 x1) fun x9 =>
 bindP (oLoad 1 false S x9) fun x10 =>
 bindP (oLen S (.slice 134) x10) fun x11 =>
 bindP (maxmin false [x11, (.int .i64 4)]) fun x12 =>
 bindP (slS 6 x8 none (some x12) none) fun x13 =>
 bindP (oLen S (.slice 134) x13) fun x14 =>
 loop1 (fun vals S1 k15 =>
 let S := gcHead false S.objs.length [] vals S1;
 let x16 := vals.getD 0 .junk;
 let x17 := vals.getD 1 .junk;
 bindP (oArith .lss x17 x14) fun x18 =>
 ifA x18
 (bindP (oIndexAddrS 6 x13 x17) fun x19 =>
 bindP (oLoad 6 true S x19) fun x20 =>
 bindC (oAl S [.bool false, .int .i64 0, .int .i64 0, .int .i64 0, .int .i64 0, .int .i64 0]) pnA fun x21 S =>
 bindC (ok (oStore 6 S x21 x20)) pnA fun _ S =>
 bindP (some (.func 360 [] [x21])) fun x22 =>
 bindP (some (.func 361 [] [x21])) fun x23 =>
 bindC (oBS S 1 [.nilfunc] 2 [(0, x22), (1, x23)]) pnA fun x24 S =>
 bindC (oApp false 1 8 S x16 x24) pnA fun x25 S =>
 bindP (oArith .add x17 (.int .i64 1)) fun x26 =>
 bif sameD [] [] then k15 [x25, x26] S else none)
 (bindC (callN κ.toOracle 75 [x16] S) pnA fun x27 S =>
 some (.ret x27, S))) N [x6, (.int .i64 0)] S
theorem e289 (N : Nat) (κ : Oracles) (v0 : AV) (S : St) : runF (Cs N) κ false 289 [v0] S = s289 N κ v0 S := by kernel_rfl
/- sacristan/state.tasks -/
def s290 (N : Nat) (κ : Oracles) (v0 v1 v2 : AV) (S : St) : R :=
 bindC (oBox S v0) pnA fun x1 S =>
 bindP (oFieldAddr 9 1 x1) fun x2 =>
 bindP (oLoad 1 false S x2) fun x3 =>
 bindP (oLen S (.slice 52) x3) fun x4 =>
 bindP (oFieldAddr 0 6 x1) fun x5 =>
 bindP (oFieldAddr 5 1 x5) fun x6 =>
 bindP (oLoad 1 false S x6) fun x7 =>
 bindP (oLen S (.slice 134) x7) fun x8 =>
 bindP (bN (eG (some [.i]) false false false x4 x8)) fun x9 =>
 ifA x9
 (some (.ret (.bool false), S))
 (bindP (oFieldAddr 9 1 x1) fun x10 =>
 bindP (oLoad 1 false S x10) fun x11 =>
 bindP (oLen S (.slice 52) x11) fun x12 =>
 loop1 (fun vals S1 k13 =>
 let S := gcHead false S.objs.length [] vals S1;
 let x14 := vals.getD 0 .junk;
 let x15 := vals.getD 1 .junk;
 bindP (oArith .lss x15 x12) fun x16 =>
 ifA x16
 (bindP (oIndexAddrS 8 x11 x15) fun x17 =>
 bindP (oLoad 8 true S x17) fun x18 =>
 bindC (oAl S [.int .u8 0, .int .i64 0, .int .i64 0, .int .i64 0, .int .i64 0, .int .i64 0, .int .i64 0, .lst .nil 0 []]) pnA fun x19 S =>
 bindC (ok (oStore 8 S x19 x18)) pnA fun _ S =>
 bindP (oLoad 8 true S x19) fun x20 =>
 bindC (apart κ.toOracle 362 [x20] S) pnA fun x21 S =>
 bindP (bN (eG (some [.i]) false false false x21 (.int .i64 0))) fun x22 =>
 bindP (guardP x22 false (oFieldAddr 1 1 x19)) fun x23 =>
 bindP (guardP x22 false (oLoad 1 false S x23)) fun x24 =>
 bindP (guardP x22 false (some v1)) fun x25 =>
 bindP (guardP x22 false (oArith .geq x24 x25)) fun x26 =>
 bindP (oPick x22 (.bool true) x26) fun x27 =>
 bindP (guardP x27 false (oFieldAddr 1 1 x19)) fun x28 =>
 bindP (guardP x27 false (oLoad 1 false S x28)) fun x29 =>
 bindP (guardP x27 false (bN (eG (some [.i]) false false false x29 (.int .i64 0)))) fun x30 =>
 bindP (guardP x27 false (some x30)) fun x31 =>
 bindP (guardP x31 true (some v2)) fun x32 =>
 bindP (guardP x31 true (oFieldAddr 1 1 x19)) fun x33 =>
 bindP (guardP x31 true (oLoad 1 false S x33)) fun x34 =>
 bindP (guardP x31 true (oLook (some [.i]) false (pack false [.bool false]) S x32 x34 false)) fun x35 =>
 bindP (guardP x27 false (oPick x31 x35 (.bool false))) fun x36 =>
 bindP (oPick x27 (.bool true) x36) fun x37 =>
 ifA x37
 (some (.ret (.bool false), S))
 (bindP (oFieldAddr 1 1 x19) fun x38 =>
 bindP (oLoad 1 false S x38) fun x39 =>
 bindC (ok (oMUp (some [.i]) false S v2 x39 (.bool true))) pnA fun _ S =>
 bindP (oFieldAddr 0 1 x19) fun x40 =>
 bindP (oLoad 1 false S x40) fun x41 =>
 bindP (bE (eG (some [.i]) false false false x41 (.int .u8 4))) fun x42 =>
 bindP (guardP x42 false (oFieldAddr 0 1 x19)) fun x43 =>
 bindP (guardP x42 false (oLoad 1 false S x43)) fun x44 =>
 bindP (guardP x42 false (bE (eG (some [.i]) false false false x44 (.int .u8 5)))) fun x45 =>
 bindP (oPick x42 (.bool true) x45) fun x46 =>
 bindP (guardP x46 false (oFieldAddr 0 1 x19)) fun x47 =>
 bindP (guardP x46 false (oLoad 1 false S x47)) fun x48 =>
 bindC (guardC x46 false S (apart κ.toOracle 196 [x48] S)) pnA fun x49 S =>
 bindP (oPick x46 (.bool true) x49) fun x50 =>
 bindP (oFieldAddr 8 1 x1) fun x51 =>
 bindP (oLoad 1 false S x51) fun x52 =>
 bindP (guardP x52 true (some x50)) fun x53 =>
 bindP (guardP x52 true (oUn .not x53)) fun x54 =>
 bindP (oPick x52 x54 (.bool false)) fun x55 =>
 bindP (guardP x55 false (oFieldAddr 8 1 x1)) fun x56 =>
 bindP (guardP x55 false (oLoad 1 false S x56)) fun x57 =>
 bindP (guardP x55 false (oUn .not x57)) fun x58 =>
 bindP (guardP x55 false (some x58)) fun x59 =>
 bindP (guardP x59 true (oFieldAddr 0 1 x19)) fun x60 =>
 bindP (guardP x59 true (oLoad 1 false S x60)) fun x61 =>
 bindP (guardP x59 true (bE (eG (some [.i]) false false false x61 (.int .u8 4)))) fun x62 =>
 bindP (guardP x55 false (oPick x59 x62 (.bool false))) fun x63 =>
 bindP (oPick x55 (.bool true) x63) fun x64 =>
 ifA x64
 (some (.ret (.bool false), S))
 (bindP (oArith .add x15 (.int .i64 1)) fun x65 =>
 bif sameD [] [] then k13 [x14, x65] S else none)))
 (some (.ret (.bool true), S))) N [(.bool false), (.int .i64 0)] S)
theorem e290 (N : Nat) (κ : Oracles) (v0 v1 v2 : AV) (S : St) : runF (Cs N) κ false 290 [v0, v1, v2] S = s290 N κ v0 v1 v2 S := by kernel_rfl
end Go.Sac
