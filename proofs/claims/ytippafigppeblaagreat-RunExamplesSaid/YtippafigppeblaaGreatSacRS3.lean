/- Direct forms, printed by mksh.py. -/
import Derived.Test.YtippafigppeblaaGreatSacCfg
import Derived.KernelRfl
namespace Go.Sac
set_option linter.unusedVariables false
set_option maxRecDepth 100000
open Go
/- sacristan/state.room -/
def s291 (N : Nat) (κ : Oracles) (v0 v1 v2 : AV) (S : St) : R :=
 bindC (oBox S v0) pnA fun x1 S =>
 bindC (oBox S v1) pnA fun x2 S =>
 bindC (oBox S v2) pnA fun x3 S =>
 bindP (oLoad 3 true S x3) fun x4 =>
 bindC (oBS S 3 [.int .i64 0, .int .i64 0, .int .i64 0] 1 [(0, x4)]) pnA fun x5 S =>
 bindP (oFieldAddr 4 1 x2) fun x6 =>
 bindP (oLoad 1 false S x6) fun x7 =>
 bindP (oLen S (.slice 58) x7) fun x8 =>
 loop1 (fun vals S1 k9 =>
 let S := gcHead false S.objs.length [] vals S1;
 let x10 := vals.getD 0 .junk;
 let x11 := vals.getD 1 .junk;
 bindP (oArith .lss x11 x8) fun x12 =>
 ifA x12
 (let j13 : List AV → St → R := (fun vals S =>
 let x14 := vals.getD 0 .junk;
 bindP (oArith .add x11 (.int .i64 1)) fun x15 =>
 bif sameD [] [] then k9 [x14, x15] S else none);
 bindP (oIndexAddrS 10 x7 x11) fun x16 =>
 bindP (oLoad 10 true S x16) fun x17 =>
 bindC (oAl S [.int .i64 0, .int .i64 0, .int .i64 0, .int .i64 0, .lst .nil 0 [], .lst .nil 0 [], .int .i64 0, .int .i64 0, .bool false, .lst .nil 0 []]) pnA fun x18 S =>
 bindC (ok (oStore 10 S x18 x17)) pnA fun _ S =>
 bindP (oLoad 10 true S x18) fun x19 =>
 bindC (apart κ.toOracle 134 [x19] S) pnA fun x20 S =>
 bindP (oUn .not x20) fun x21 =>
 ifA x21
 (bindP (oFieldAddr 0 6 x18) fun x22 =>
 bindP (oFieldAddr 1 3 x22) fun x23 =>
 bindP (oLoad 3 true S x23) fun x24 =>
 bindC (oBS S 3 [.int .i64 0, .int .i64 0, .int .i64 0] 1 [(0, x24)]) pnA fun x25 S =>
 bindC (oApp false 3 24 S x10 x25) pnA fun x26 S =>
 bif sameD [] [] then Join j13 [x26] S else none)
 (bif sameD [] [] then Join j13 [x10] S else none))
 (bindC (apart κ.toOracle 136 [x10] S) pnA fun x27 S =>
 bindP (oExt x27 0) fun x28 =>
 bindP (oExt x27 1) fun x29 =>
 bindC (oAl S [.int .i64 0, .int .i64 0, .int .i64 0]) pnA fun x30 S =>
 bindC (ok (oStore 3 S x30 x28)) pnA fun _ S =>
 bindP (guardP x29 true (oLoad 3 true S x30)) fun x31 =>
 bindP (guardP x29 true (oFieldAddr 0 3 x1)) fun x32 =>
 bindP (guardP x29 true (oLoad 3 true S x32)) fun x33 =>
 bindC (guardC x29 true S (apart κ.toOracle 137 [x31, x33] S)) pnA fun x34 S =>
 bindP (oPick x29 x34 (.bool false)) fun x35 =>
 some (.ret x35, S))) N [x5, (.int .i64 0)] S
theorem e291 (N : Nat) (κ : Oracles) (v0 v1 v2 : AV) (S : St) : runF (Cs N) κ false 291 [v0, v1, v2] S = s291 N κ v0 v1 v2 S := by kernel_rfl
/- sacristan/state.apart -/
def s292 (N : Nat) (κ : Oracles) (v0 : AV) (S : St) : R :=
 bindC (oBox S v0) pnA fun x1 S =>
 bindP (oFieldAddr 4 1 x1) fun x2 =>
 bindP (oLoad 1 false S x2) fun x3 =>
 bindP (oLen S (.slice 58) x3) fun x4 =>
 loop1 (fun vals S1 k5 =>
 let S := gcHead false S.objs.length [] vals S1;
 let x6 := vals.getD 0 .junk;
 let x7 := vals.getD 1 .junk;
 let x8 := vals.getD 2 .junk;
 bindP (oArith .lss x8 x4) fun x9 =>
 ifA x9
 (let j10 : List AV → St → R := (fun vals S =>
 let x11 := vals.getD 0 .junk;
 let x12 := vals.getD 1 .junk;
 bindP (oArith .add x8 (.int .i64 1)) fun x13 =>
 bif sameD [] [] then k5 [x11, x12, x13] S else none);
 bindP (oIndexAddrS 10 x3 x8) fun x14 =>
 bindP (oLoad 10 true S x14) fun x15 =>
 bindC (oAl S [.int .i64 0, .int .i64 0, .int .i64 0, .int .i64 0, .lst .nil 0 [], .lst .nil 0 [], .int .i64 0, .int .i64 0, .bool false, .lst .nil 0 []]) pnA fun x16 S =>
 bindC (ok (oStore 10 S x16 x15)) pnA fun _ S =>
 bindP (oLoad 10 true S x16) fun x17 =>
 bindC (apart κ.toOracle 134 [x17] S) pnA fun x18 S =>
 ifA x18
 (bif sameD [] [] then Join j10 [x6, x7] S else none)
 (bindP (oFieldAddr 0 6 x16) fun x19 =>
 bindP (oFieldAddr 4 1 x19) fun x20 =>
 bindP (oLoad 1 false S x20) fun x21 =>
 bindC (apart κ.toOracle 135 [x7, x21] S) pnA fun x22 S =>
 bindP (oLen S (.slice 3) x22) fun x23 =>
 bindP (oArith .gtr x23 (.int .i64 0)) fun x24 =>
 ifA x24
 (some (.ret (.bool false), S))
 (bindP (oFieldAddr 0 6 x16) fun x25 =>
 bindP (oFieldAddr 4 1 x25) fun x26 =>
 bindP (oLoad 1 false S x26) fun x27 =>
 bindC (oBS S 1 [.lst .nil 0 []] 2 [(0, x7), (1, x27)]) pnA fun x28 S =>
 bindC (apart κ.toOracle 363 [x28] S) pnA fun x29 S =>
 bif sameD [] [] then Join j10 [x6, x29] S else none)))
 (some (.ret (.bool true), S))) N [(.bool false), (.lst .nil 0 []), (.int .i64 0)] S
theorem e292 (N : Nat) (κ : Oracles) (v0 : AV) (S : St) : runF (Cs N) κ false 292 [v0] S = s292 N κ v0 S := by kernel_rfl
/- (*sacristan/spec.reader).spec -/
def s294 (N : Nat) (κ : Oracles) (v0 : AV) (S : St) : R :=
 bindC (oAl S [.int .i64 0, .int .i64 0, .int .i64 0, .int .i64 0, .lst .nil 0 [], .lst .nil 0 []]) pnA fun x1 S =>
 bindC (callN κ.toOracle 364 [v0, (.int .i64 2147483648)] S) pnA fun x2 S =>
 bindP (oFill (plS [(0, 1), (1, 3), (4, 1), (5, 1)]) [.int .i64 0, .int .i64 0, .int .i64 0, .int .i64 0, .lst .nil 0 [], .lst .nil 0 []] [(0, x2)]) fun x3 =>
 bindC (oAl S [.int .i64 0, .int .i64 0, .int .i64 0, .int .i64 0, .lst .nil 0 [], .lst .nil 0 []]) pnA fun x4 S =>
 bindC (ok (oStore 6 S x4 x3)) pnA fun _ S =>
 bindC (callN κ.toOracle 364 [v0, (.int .i64 1099511627776)] S) pnA fun x5 S =>
 bindP (oFieldAddr 1 3 x4) fun x6 =>
 bindP (oFieldAddr 0 1 x6) fun x7 =>
 bindC (ok (oStore 1 S x7 x5)) pnA fun _ S =>
 bindC (callN κ.toOracle 364 [v0, (.int .i64 1099511627776)] S) pnA fun x8 S =>
 bindP (oFieldAddr 1 3 x4) fun x9 =>
 bindP (oFieldAddr 1 1 x9) fun x10 =>
 bindC (ok (oStore 1 S x10 x8)) pnA fun _ S =>
 bindC (callN κ.toOracle 364 [v0, (.int .i64 1099511627776)] S) pnA fun x11 S =>
 bindP (oFieldAddr 1 3 x4) fun x12 =>
 bindP (oFieldAddr 2 1 x12) fun x13 =>
 bindC (ok (oStore 1 S x13 x11)) pnA fun _ S =>
 bindC (callN κ.toOracle 364 [v0, (.int .i64 8)] S) pnA fun x14 S =>
 loop1 (fun vals S1 k15 =>
 let S := gcHead false S.objs.length [] vals S1;
 let x16 := vals.getD 0 .junk;
 bindP (oArith .lss x16 x14) fun x17 =>
 ifA x17
 (bindP (oFieldAddr 4 1 x4) fun x18 =>
 bindP (oLoad 1 false S x18) fun x19 =>
 bindC (callN κ.toOracle 364 [v0, (.int .i64 65535)] S) (fun v Sx => bif (true && true) && true then pnA v Sx else none) fun x20 S21 =>
 bindC (oBS S21 1 [.int .i64 0] 1 [(0, x20)]) (fun _ _ => none) fun x22 S23 =>
 bindC (oApp false 1 8 S23 x19 x22) (fun v Sx => bif (true && (((false || (chkA (oLoad 1 false S x18) x19 && chkA (oLoad 1 false S21 x18) x19)) && true) && true)) && true then pnA v Sx else none) fun x24 S25 =>
 bindP (oFieldAddr 4 1 x4) fun x26 =>
 bindC (ok (oStore 1 S25 x26 x24)) (fun v Sx => bif (true && ((true && ((false || (chkA (oLoad 1 false S x18) x19 && chkA (oLoad 1 false S21 x18) x19)) && true)) && true)) && true then pnA v Sx else none) fun _ S27 =>
 bif ((true && (true && ((false || (chkA (oLoad 1 false S x18) x19 && chkA (oLoad 1 false S21 x18) x19)) && true))) && true) then
 (let S := S27;
 bindP (oArith .add x16 (.int .i64 1)) fun x28 =>
 bif sameD [] [] then k15 [x28] S else none)
 else none)
 (bindC (callN κ.toOracle 364 [v0, (.int .i64 4)] S) pnA fun x29 S =>
 loop1 (fun vals S1 k30 =>
 let S := gcHead false S.objs.length [] vals S1;
 let x31 := vals.getD 0 .junk;
 bindP (oArith .lss x31 x29) fun x32 =>
 ifA x32
 (bindC (oAl S [.bool false, .int .i64 0, .int .i64 0, .int .i64 0, .int .i64 0, .int .i64 0]) pnA fun x33 S =>
 bindC (callN κ.toOracle 364 [v0, (.int .i64 1)] S) pnA fun x34 S =>
 bindP (bE (eG (some [.i]) false false false x34 (.int .i64 1))) fun x35 =>
 bindP (oFieldAddr 0 5 x33) fun x36 =>
 bindP (oFieldAddr 0 1 x36) fun x37 =>
 bindC (ok (oStore 1 S x37 x35)) pnA fun _ S =>
 bindC (callN κ.toOracle 364 [v0, (.int .i64 8)] S) pnA fun x38 S =>
 bindP (oFieldAddr 0 5 x33) fun x39 =>
 bindP (oFieldAddr 1 1 x39) fun x40 =>
 bindC (ok (oStore 1 S x40 x38)) pnA fun _ S =>
 bindC (callN κ.toOracle 364 [v0, (.int .i64 1099511627776)] S) pnA fun x41 S =>
 bindP (oFieldAddr 0 5 x33) fun x42 =>
 bindP (oFieldAddr 2 1 x42) fun x43 =>
 bindC (ok (oStore 1 S x43 x41)) pnA fun _ S =>
 bindC (callN κ.toOracle 364 [v0, (.int .i64 1099511627776)] S) pnA fun x44 S =>
 bindP (oFieldAddr 0 5 x33) fun x45 =>
 bindP (oFieldAddr 3 1 x45) fun x46 =>
 bindC (ok (oStore 1 S x46 x44)) pnA fun _ S =>
 bindC (callN κ.toOracle 364 [v0, (.int .i64 1099511627776)] S) pnA fun x47 S =>
 bindP (oFieldAddr 0 5 x33) fun x48 =>
 bindP (oFieldAddr 4 1 x48) fun x49 =>
 bindC (ok (oStore 1 S x49 x47)) pnA fun _ S =>
 bindC (callN κ.toOracle 364 [v0, (.int .i64 1000)] S) pnA fun x50 S =>
 bindP (oFieldAddr 5 1 x33) fun x51 =>
 bindC (ok (oStore 1 S x51 x50)) pnA fun _ S =>
 bindP (oFieldAddr 5 1 x4) fun x52 =>
 bindP (oLoad 1 false S x52) fun x53 =>
 bindP (oLoad 6 true S x33) fun x54 =>
 bindC (oBS S 6 [.bool false, .int .i64 0, .int .i64 0, .int .i64 0, .int .i64 0, .int .i64 0] 1 [(0, x54)]) pnA fun x55 S =>
 bindC (oApp false 6 48 S x53 x55) pnA fun x56 S =>
 bindP (oFieldAddr 5 1 x4) fun x57 =>
 bindC (ok (oStore 1 S x57 x56)) pnA fun _ S =>
 bindP (oArith .add x31 (.int .i64 1)) fun x58 =>
 bif sameD [] [] then k30 [x58] S else none)
 (bindP (oLoad 6 true S x4) fun x59 =>
 bindC (ok (oStore 6 S x1 x59)) pnA fun _ S =>
 (resA [(oLoad 6 true S x1)]).map fun vs => (.ret (packV vs), S))) N [(.int .i64 0)] S)) N [(.int .i64 0)] S
theorem e294 (N : Nat) (κ : Oracles) (v0 : AV) (S : St) : runF (Cs N) κ false 294 [v0] S = s294 N κ v0 S := by kernel_rfl
/- sacristan/rec.zero[int] -/
def s295 (N : Nat) (κ : Oracles) (v0 v1 : AV) (S : St) : R :=
 bindP (guardP v0 false (some v1)) fun x1 =>
 bindP (guardP v0 false (some (.int .i64 0))) fun x2 =>
 bindP (guardP v0 false (bE (eG (some [.i]) false false false x1 x2))) fun x3 =>
 bindP (oPick v0 (.bool true) x3) fun x4 =>
 some (.ret x4, S)
theorem e295 (N : Nat) (κ : Oracles) (v0 v1 : AV) (S : St) : runF (Cs N) κ false 295 [v0, v1] S = s295 N κ v0 v1 S := by kernel_rfl
/- sacristan/spec.Equal -/
def s296 (N : Nat) (κ : Oracles) (v0 v1 : AV) (S : St) : R :=
 bindC (oBox S v0) pnA fun x1 S =>
 bindC (oBox S v1) pnA fun x2 S =>
 bindP (oFieldAddr 0 1 x1) fun x3 =>
 bindP (oLoad 1 false S x3) fun x4 =>
 bindP (oFieldAddr 0 1 x2) fun x5 =>
 bindP (oLoad 1 false S x5) fun x6 =>
 bindP (bE (eG (some [.i]) false false false x4 x6)) fun x7 =>
 bindP (guardP x7 true (oFieldAddr 1 3 x1)) fun x8 =>
 bindP (guardP x7 true (oLoad 3 true S x8)) fun x9 =>
 bindP (guardP x7 true (oFieldAddr 1 3 x2)) fun x10 =>
 bindP (guardP x7 true (oLoad 3 true S x10)) fun x11 =>
 bindP (guardP x7 true (bE (eG (some [.i, .i, .i]) true false false x9 x11))) fun x12 =>
 bindP (oPick x7 x12 (.bool false)) fun x13 =>
 bindP (guardP x13 true (oFieldAddr 4 1 x1)) fun x14 =>
 bindP (guardP x13 true (oLoad 1 false S x14)) fun x15 =>
 bindP (guardP x13 true (oFieldAddr 4 1 x2)) fun x16 =>
 bindP (guardP x13 true (oLoad 1 false S x16)) fun x17 =>
 bindC (guardC x13 true S (apart κ.toOracle 365 [x15, x17] S)) pnA fun x18 S =>
 bindP (oPick x13 x18 (.bool false)) fun x19 =>
 bindP (guardP x19 true (oFieldAddr 5 1 x1)) fun x20 =>
 bindP (guardP x19 true (oLoad 1 false S x20)) fun x21 =>
 bindP (guardP x19 true (oFieldAddr 5 1 x2)) fun x22 =>
 bindP (guardP x19 true (oLoad 1 false S x22)) fun x23 =>
 bindC (guardC x19 true S (apart κ.toOracle 366 [x21, x23] S)) pnA fun x24 S =>
 bindP (oPick x19 x24 (.bool false)) fun x25 =>
 some (.ret x25, S)
theorem e296 (N : Nat) (κ : Oracles) (v0 v1 : AV) (S : St) : runF (Cs N) κ false 296 [v0, v1] S = s296 N κ v0 v1 S := by kernel_rfl
/- (*sacristan/state.node).place -/
def s297 (N : Nat) (κ : Oracles) (v0 v1 : AV) (S : St) : R :=
 bindC (oBox S v1) pnA fun x1 S =>
 bindP (oNilC v0) fun x2 =>
 bindP (oFieldAddr 11 5 x2) fun x3 =>
 bindP (oFieldAddr 1 1 x1) fun x4 =>
 bindP (oLoad 1 false S x4) fun x5 =>
 bindP (oNilC x3) fun x6 =>
 bindP (oFieldAddr 0 1 x6) fun x7 =>
 bindP (oLoad 1 false S x7) fun x8 =>
 bindP (oArith .lss x5 x8) fun x9 =>
 bif true then
 (let S := S;
 ifA x9
 (some (.ret (.int .i64 13), S))
 (bindP (oNilC x3) fun x10 =>
 bindP (oLoad 5 true S x10) fun x11 =>
 bindP (oFieldAddr 2 6 x1) fun x12 =>
 bindP (oFieldAddr 0 1 x12) fun x13 =>
 bindP (oLoad 1 false S x13) fun x14 =>
 bindC (apart κ.toOracle 132 [x11, x14] S) (fun _ _ => none) fun x15 S16 =>
 bindP (oArith .geq x15 (.int .i64 0)) fun x17 =>
 bif true then
 (let S := S16;
 ifA x17
 (some (.ret (.int .i64 8), S))
 (bindP (oNilC x3) fun x18 =>
 bindP (oFieldAddr 4 1 x18) fun x19 =>
 bindP (oLoad 1 false S x19) fun x20 =>
 bindP (oLen S (.slice 58) x20) fun x21 =>
 bindP (oNilC v0) fun x22 =>
 bindP (oFieldAddr 0 11 x22) fun x23 =>
 bindP (oFieldAddr 3 1 x23) fun x24 =>
 bindP (oLoad 1 false S x24) fun x25 =>
 bindP (oArith .geq x21 x25) fun x26 =>
 bindP (guardP x26 false (some v0)) fun x27 =>
 bindP (guardP x26 false (oNilC x27)) fun x28 =>
 bindP (guardP x26 false (oFieldAddr 0 11 x28)) fun x29 =>
 bindP (guardP x26 false (oLoad 11 true S x29)) fun x30 =>
 bindP (guardP x26 false (some x3)) fun x31 =>
 bindP (guardP x26 false (oNilC x31)) fun x32 =>
 bindP (guardP x26 false (oLoad 5 true S x32)) fun x33 =>
 bindP (guardP x26 false (oFieldAddr 2 6 x1)) fun x34 =>
 bindP (guardP x26 false (oFieldAddr 1 3 x34)) fun x35 =>
 bindP (guardP x26 false (oLoad 3 true S x35)) fun x36 =>
 bindC (guardC x26 false S (apart κ.toOracle 291 [x30, x33, x36] S)) (fun _ _ => none) fun x37 S38 =>
 bindP (guardP x26 false (oUn .not x37)) fun x39 =>
 bindP (oPick x26 (.bool true) x39) fun x40 =>
 bif true then
 (let S := S38;
 ifA x40
 (some (.ret (.int .i64 9), S))
 (bindC (oAl S [.int .i64 0, .int .i64 0, .int .i64 0, .int .i64 0, .lst .nil 0 [], .lst .nil 0 [], .int .i64 0, .int .i64 0, .bool false, .lst .nil 0 []]) (fun _ _ => none) fun x41 S =>
 bindP (oFieldAddr 2 6 x1) fun x42 =>
 bindP (oLoad 6 true S x42) fun x43 =>
 bindC (apart κ.toOracle 127 [x43] S) (fun _ _ => none) fun x44 S45 =>
 bindP (oNilC x3) fun x46 =>
 bindP (oFieldAddr 2 1 x46) fun x47 =>
 bindP (oLoad 1 false S45 x47) fun x48 =>
 bindP (oFieldAddr 2 6 x1) fun x49 =>
 bindP (oFieldAddr 5 1 x49) fun x50 =>
 bindP (oLoad 1 false S45 x50) fun x51 =>
 bindP (oLen S45 (.slice 134) x51) fun x52 =>
 bindC (okv (oMS true 8 80 [.int .u8 0, .int .i64 0, .int .i64 0, .int .i64 0, .int .i64 0, .int .i64 0, .int .i64 0, .lst .nil 0 []] S45 x52 x52)) (fun v Sx => bif (true && true) && true then pnA v Sx else none) fun x53 S54 =>
 bindP (oFill (plS [(0, 6), (6, 1), (7, 1), (8, 1), (9, 1)]) [.int .i64 0, .int .i64 0, .int .i64 0, .int .i64 0, .lst .nil 0 [], .lst .nil 0 [], .int .i64 0, .int .i64 0, .bool false, .lst .nil 0 []] [(0, x44), (1, x48), (4, x53)]) fun x55 =>
 bindC (ok (oStore 10 S54 x41 x55)) (fun v Sx => bif (true && ((true && true) && ((true && true) && (((false || (chkA (oLoad 1 false S45 x47) x48 && chkA (oLoad 1 false S54 x47) x48)) && true) && (((false || (chkA (lentArgs [x43] S45) ((lentArgs [x43] S).getD .junk) && chkA (lentArgs [x43] S54) ((lentArgs [x43] S).getD .junk))) && true) && (((false || (chkA (oLoad 6 true S45 x42) x43 && chkA (oLoad 6 true S54 x42) x43)) && true) && true)))))) && true then pnA v Sx else none) fun _ S56 =>
 bif ((true && (true && true)) && ((true && (true && true)) && ((true && ((false || (chkA (oLoad 1 false S45 x47) x48 && chkA (oLoad 1 false S54 x47) x48)) && true)) && ((true && ((false || (chkA (lentArgs [x43] S45) ((lentArgs [x43] S).getD .junk) && chkA (lentArgs [x43] S54) ((lentArgs [x43] S).getD .junk))) && true)) && ((true && ((false || (chkA (oLoad 6 true S45 x42) x43 && chkA (oLoad 6 true S54 x42) x43)) && true)) && true))))) then
 (let S := S56;
 loop1 (fun vals S1 k57 =>
 let S := gcHead false S.objs.length [] vals S1;
 let x58 := vals.getD 0 .junk;
 bindP (oNilC x3) fun x59 =>
 bindP (oFieldAddr 4 1 x59) fun x60 =>
 bindP (oLoad 1 false S x60) fun x61 =>
 bindP (oLen S (.slice 58) x61) fun x62 =>
 bindP (oArith .lss x58 x62) fun x63 =>
 bindP (guardP x63 true (some x3)) fun x64 =>
 bindP (guardP x63 true (oNilC x64)) fun x65 =>
 bindP (guardP x63 true (oFieldAddr 4 1 x65)) fun x66 =>
 bindP (guardP x63 true (oLoad 1 false S x66)) fun x67 =>
 bindP (guardP x63 true (some x58)) fun x68 =>
 bindP (guardP x63 true (oIndexAddrS 10 x67 x68)) fun x69 =>
 bindP (guardP x63 true (oFieldAddr 0 6 x69)) fun x70 =>
 bindP (guardP x63 true (oFieldAddr 0 1 x70)) fun x71 =>
 bindP (guardP x63 true (oLoad 1 false S x71)) fun x72 =>
 bindP (guardP x63 true (oFieldAddr 2 6 x1)) fun x73 =>
 bindP (guardP x63 true (oFieldAddr 0 1 x73)) fun x74 =>
 bindP (guardP x63 true (oLoad 1 false S x74)) fun x75 =>
 bindP (guardP x63 true (oArith .lss x72 x75)) fun x76 =>
 bindP (oPick x63 x76 (.bool false)) fun x77 =>
 bif true then
 (let S := S;
 ifA x77
 (bindP (oArith .add x58 (.int .i64 1)) fun x78 =>
 bif sameD [] [] then k57 [x78] S else none)
 (bindP (oNilC x3) fun x79 =>
 bindP (oFieldAddr 4 1 x79) fun x80 =>
 bindP (oLoad 1 false S x80) fun x81 =>
 bindP (slS 10 x81 none (some x58) (some x58)) fun x82 =>
 bindP (oNilC x3) fun x83 =>
 bindP (oLoad 5 true S x83) fun x84 =>
 bindC (oAl S [.int .i64 0, .int .i64 0, .int .i64 0, .int .i64 0, .lst .nil 0 []]) pnA fun x85 S =>
 bindC (ok (oStore 5 S x85 x84)) pnA fun _ S =>
 bindP (oLoad 10 true S x41) fun x86 =>
 bindC (oBSo S 10 [.int .i64 0, .int .i64 0, .int .i64 0, .int .i64 0, .lst .nil 0 [], .lst .nil 0 [], .int .i64 0, .int .i64 0, .bool false, .lst .nil 0 []] 1 [(0, x86)]) (fun v Sx => bif (true && true) && (rfA (some x3) fun x89 => (rfA (oNilC x89) fun x90 => (rfA (oFieldAddr 4 1 x90) fun x91 => false))) then pnA v Sx else none) fun x87 S88 =>
 bindC (oApp true 10 128 S88 x82 x87) (fun v Sx => bif (true && true) && (rfA (some x3) fun x94 => (rfA (oNilC x94) fun x95 => (rfA (oFieldAddr 4 1 x95) fun x96 => false))) then pnA v Sx else none) fun x92 S93 =>
 bindP (oNilC x3) fun x97 =>
 bindP (oFieldAddr 4 1 x97) fun x98 =>
 bindP (oLoad 1 false S93 x98) fun x99 =>
 bindP (slS 10 x99 (some x58) none none) fun x100 =>
 bindC (oApp true 10 128 S93 x92 x100) (fun v Sx => bif (true && (((false || (chkA (oLoad 1 false S88 x98) x99 && chkA (oLoad 1 false S93 x98) x99)) && ((false || (chkA (oLoad 1 false S x98) x99 && chkA (oLoad 1 false S88 x98) x99)) && true)) && ((true && (true && true)) && true))) && true then pnA v Sx else none) fun x101 S102 =>
 bindP (oFieldAddr 4 1 x85) fun x103 =>
 bindC (ok (oStore 1 S102 x103 x101)) (fun v Sx => bif (true && ((true && ((false || (chkA (oLoad 1 false S88 x98) x99 && chkA (oLoad 1 false S93 x98) x99)) && ((false || (chkA (oLoad 1 false S x98) x99 && chkA (oLoad 1 false S88 x98) x99)) && true))) && ((true && (true && (true && true))) && true))) && true then pnA v Sx else none) fun _ S104 =>
 bif ((true && (true && ((false || (chkA (oLoad 1 false S88 x98) x99 && chkA (oLoad 1 false S93 x98) x99)) && ((false || (chkA (oLoad 1 false S x98) x99 && chkA (oLoad 1 false S88 x98) x99)) && true)))) && ((true && (true && (true && (true && true)))) && true)) then
 (let S := S104;
 bindP (oLoad 5 true S x85) fun x105 =>
 bindC (apart κ.toOracle 292 [x105] S) pnA fun x106 S =>
 bindP (oUn .not x106) fun x107 =>
 ifA x107
 (some (.ret (.int .i64 7), S))
 (bindP (oNilC x3) fun x108 =>
 bindP (oFieldAddr 2 1 x108) fun x109 =>
 bindP (oLoad 1 false S x109) fun x110 =>
 bindP (bE (eG (some [.i]) false false false x110 (.int .i64 1099511627776))) fun x111 =>
 ifA x111
 (some (.ret (.int .i64 3), S))
 (loop1 (fun vals S1 k112 =>
 let S := gcHead false S.objs.length [] vals S1;
 bindP (oNilC x3) fun x113 =>
 bindP (oFieldAddr 4 1 x113) fun x114 =>
 bindP (oLoad 1 false S x114) fun x115 =>
 bindP (some (.func 368 [] [x41])) fun x116 =>
 bindC (callN κ.toOracle 367 [x115, x116] S) pnA fun x117 S =>
 ifA x117
 (bindP (oFieldAddr 7 1 x41) fun x118 =>
 bindP (oLoad 1 false S x118) fun x119 =>
 bindP (oArith .add x119 (.int .i64 1)) fun x120 =>
 bindP (oFieldAddr 7 1 x41) fun x121 =>
 bindC (ok (oStore 1 S x121 x120)) pnA fun _ S =>
 bif sameD [] [] then k112 [] S else none)
 (bindP (oFieldAddr 4 1 x85) fun x122 =>
 bindP (oLoad 1 false S x122) fun x123 =>
 bindP (oFieldAddr 7 1 x41) fun x124 =>
 bindP (oLoad 1 false S x124) fun x125 =>
 bindP (oIndexAddrS 10 x123 x58) fun x126 =>
 bindP (oFieldAddr 7 1 x126) fun x127 =>
 bindC (ok (oStore 1 S x127 x125)) pnA fun _ S =>
 bindP (oFieldAddr 1 1 x1) fun x128 =>
 bindP (oLoad 1 false S x128) fun x129 =>
 bindP (oNilC x3) fun x130 =>
 bindP (oFieldAddr 2 1 x130) fun x131 =>
 bindP (oLoad 1 false S x131) fun x132 =>
 bindP (oArith .add x132 (.int .i64 1)) fun x133 =>
 bindP (oFieldAddr 0 1 x85) fun x134 =>
 bindC (ok (oStore 1 S x134 x129)) (fun v Sx => bif (true && true) && true then pnA v Sx else none) fun _ S135 =>
 bindP (oFieldAddr 2 1 x85) fun x136 =>
 bindC (ok (oStore 1 S135 x136 x133)) (fun v Sx => bif (true && (((false || (chkA (oLoad 1 false S x131) x132 && chkA (oLoad 1 false S135 x131) x132)) && true) && ((true && true) && true))) && true then pnA v Sx else none) fun _ S137 =>
 bif ((true && ((false || (chkA (oLoad 1 false S x131) x132 && chkA (oLoad 1 false S135 x131) x132)) && true)) && ((true && (true && true)) && true)) then
 (let S := S137;
 bindP (oLoad 5 true S x85) fun x138 =>
 bindP (oNilC x3) fun x139 =>
 bindC (ok (oStore 5 S x139 x138)) pnA fun _ S =>
 some (.ret (.int .i64 0), S))
 else none)) N [] S)))
 else none))
 else none) N [(.int .i64 0)] S)
 else none))
 else none))
 else none))
 else none
theorem e297 (N : Nat) (κ : Oracles) (v0 v1 : AV) (S : St) : runF (Cs N) κ false 297 [v0, v1] S = s297 N κ v0 v1 S := by kernel_rfl
/- (*sacristan/state.node).intent -/
def s300 (N : Nat) (κ : Oracles) (v0 v1 : AV) (S : St) : R :=
 bindC (oBox S v1) pnA fun x1 S =>
 bindP (oLoad 15 true S x1) fun x2 =>
 bindC (callN κ.toOracle 371 [v0, x2] S) pnA fun x3 S =>
 bindP (oExt x3 0) fun x4 =>
 bindP (oExt x3 1) fun x5 =>
 bindP (oExt x3 2) fun x6 =>
 bindP (bN (eG (some [.i]) false false false x6 (.int .i64 0))) fun x7 =>
 ifA x7
 (some (.ret x6, S))
 (bindP (oNilC v0) fun x8 =>
 bindP (oFieldAddr 11 5 x8) fun x9 =>
 bindP (oFieldAddr 1 1 x9) fun x10 =>
 bindP (oLoad 1 false S x10) fun x11 =>
 bindP (bE (eG (some [.i]) false false false x11 (.int .i64 1099511627776))) fun x12 =>
 ifA x12
 (some (.ret (.int .i64 3), S))
 (bindC (oAl S [.int .u8 0, .int .i64 0, .int .i64 0, .int .i64 0, .int .i64 0, .int .i64 0, .int .i64 0, .lst .nil 0 []]) (fun _ _ => none) fun x13 S =>
 bindP (oNilC x5) fun x14 =>
 bindP (oLoad 8 true S x14) fun x15 =>
 bindP (oNilC x4) fun x16 =>
 bindP (oFieldAddr 0 6 x16) fun x17 =>
 bindP (oFieldAddr 5 1 x17) fun x18 =>
 bindP (oLoad 1 false S x18) fun x19 =>
 bindP (oFieldAddr 9 1 x1) fun x20 =>
 bindP (oLoad 1 false S x20) fun x21 =>
 bindP (oIndexAddrS 6 x19 x21) fun x22 =>
 bindP (oFieldAddr 0 5 x22) fun x23 =>
 bindP (oLoad 5 true S x23) fun x24 =>
 bindP (oNilC v0) fun x25 =>
 bindP (oFieldAddr 11 5 x25) fun x26 =>
 bindP (oFieldAddr 1 1 x26) fun x27 =>
 bindP (oLoad 1 false S x27) fun x28 =>
 bindP (oFieldAddr 10 1 x1) fun x29 =>
 bindP (oLoad 1 false S x29) fun x30 =>
 bindC (apart κ.toOracle 372 [x15, x24, x28, x30] S) (fun _ _ => none) fun x31 S32 =>
 bindP (oExt x31 0) fun x33 =>
 bindP (oExt x31 1) fun x34 =>
 bindC (ok (oStore 8 S32 x13 x33)) (fun v Sx => bif (true && true) && true then pnA v Sx else none) fun _ S35 =>
 bif true then
 (let S := S35;
 let j36 : List AV → St → R := (fun vals S =>
 some (.ret x34, S));
 bindP (bE (eG (some [.i]) false false false x34 (.int .i64 0))) fun x37 =>
 ifA x37
 (bindP (oLoad 8 true S x13) fun x38 =>
 bindP (oNilC x5) fun x39 =>
 bindC (ok (oStore 8 S x39 x38)) pnA fun _ S =>
 bindP (oNilC v0) fun x40 =>
 bindP (oFieldAddr 11 5 x40) fun x41 =>
 bindP (oFieldAddr 1 1 x41) fun x42 =>
 bindP (oLoad 1 false S x42) fun x43 =>
 bindP (oArith .add x43 (.int .i64 1)) fun x44 =>
 bindP (oNilC v0) fun x45 =>
 bindP (oFieldAddr 11 5 x45) fun x46 =>
 bindP (oFieldAddr 1 1 x46) fun x47 =>
 bindC (ok (oStore 1 S x47 x44)) pnA fun _ S =>
 bif sameD [] [] then Join j36 [] S else none)
 (bif sameD [] [] then Join j36 [] S else none))
 else none))
theorem e300 (N : Nat) (κ : Oracles) (v0 v1 : AV) (S : St) : runF (Cs N) κ false 300 [v0, v1] S = s300 N κ v0 v1 S := by kernel_rfl
/- (*sacristan/state.node).simple -/
def s301 (N : Nat) (κ : Oracles) (v0 v1 : AV) (S : St) : R :=
 bindC (oBox S v1) pnA fun x1 S =>
 bindP (oLoad 15 true S x1) fun x2 =>
 bindC (callN κ.toOracle 371 [v0, x2] S) pnA fun x3 S =>
 bindP (oExt x3 0) fun x4 =>
 bindP (oExt x3 1) fun x5 =>
 bindP (oExt x3 2) fun x6 =>
 bindP (bN (eG (some [.i]) false false false x6 (.int .i64 0))) fun x7 =>
 ifA x7
 (some (.ret x6, S))
 (bindC (oAl S [.int .u8 0, .int .i64 0, .int .i64 0, .int .i64 0, .int .i64 0, .int .i64 0, .int .i64 0, .lst .nil 0 []]) pnA fun x8 S =>
 let j9 : List AV → St → R := (fun vals S =>
 let x10 := vals.getD 0 .junk;
 let j11 : List AV → St → R := (fun vals S =>
 some (.ret x10, S));
 bindP (bE (eG (some [.i]) false false false x10 (.int .i64 0))) fun x12 =>
 ifA x12
 (bindP (oLoad 8 true S x8) fun x13 =>
 bindP (oNilC x5) fun x14 =>
 bindC (ok (oStore 8 S x14 x13)) pnA fun _ S =>
 bif sameD [] [] then Join j11 [] S else none)
 (bif sameD [] [] then Join j11 [] S else none));
 bindP (oFieldAddr 0 1 x1) fun x15 =>
 bindP (oLoad 1 false S x15) fun x16 =>
 bindP (bE (eG (some [.i]) false false false x16 (.int .u8 5))) fun x17 =>
 ifA x17
 (bindP (oNilC x5) fun x18 =>
 bindP (oLoad 8 true S x18) fun x19 =>
 bindP (oFieldAddr 12 1 x1) fun x20 =>
 bindP (oLoad 1 false S x20) fun x21 =>
 bindP (oFieldAddr 13 1 x1) fun x22 =>
 bindP (oLoad 1 false S x22) fun x23 =>
 bindC (apart κ.toOracle 373 [x19, x21, x23] S) (fun _ _ => none) fun x24 S25 =>
 bindP (oExt x24 0) fun x26 =>
 bindP (oExt x24 1) fun x27 =>
 bindC (ok (oStore 8 S25 x8 x26)) (fun v Sx => bif (true && true) && true then pnA v Sx else none) fun _ S28 =>
 bif true then
 (let S := S28;
 bif sameD [] [] then Join j9 [x27] S else none)
 else none)
 (bindP (bE (eG (some [.i]) false false false x16 (.int .u8 6))) fun x29 =>
 ifA x29
 (bindP (oNilC x5) fun x30 =>
 bindP (oLoad 8 true S x30) fun x31 =>
 bindC (apart κ.toOracle 374 [x31] S) pnA fun x32 S =>
 bindP (oExt x32 0) fun x33 =>
 bindP (oExt x32 1) fun x34 =>
 bindC (ok (oStore 8 S x8 x33)) pnA fun _ S =>
 bif sameD [] [] then Join j9 [x34] S else none)
 (bindP (bE (eG (some [.i]) false false false x16 (.int .u8 7))) fun x35 =>
 ifA x35
 (bindP (oNilC x5) fun x36 =>
 bindP (oLoad 8 true S x36) fun x37 =>
 bindC (apart κ.toOracle 375 [x37] S) pnA fun x38 S =>
 bindP (oExt x38 0) fun x39 =>
 bindP (oExt x38 1) fun x40 =>
 bindC (ok (oStore 8 S x8 x39)) pnA fun _ S =>
 bif sameD [] [] then Join j9 [x40] S else none)
 (bindP (oNilC x5) fun x41 =>
 bindP (oLoad 8 true S x41) fun x42 =>
 bindP (oNilC x4) fun x43 =>
 bindP (oFieldAddr 0 6 x43) fun x44 =>
 bindP (oFieldAddr 5 1 x44) fun x45 =>
 bindP (oLoad 1 false S x45) fun x46 =>
 bindP (oFieldAddr 9 1 x1) fun x47 =>
 bindP (oLoad 1 false S x47) fun x48 =>
 bindP (oIndexAddrS 6 x46 x48) fun x49 =>
 bindP (oFieldAddr 0 5 x49) fun x50 =>
 bindP (oLoad 5 true S x50) fun x51 =>
 bindP (oNilC x4) fun x52 =>
 bindP (oFieldAddr 8 1 x52) fun x53 =>
 bindP (oLoad 1 false S x53) fun x54 =>
 bindP (oFieldAddr 14 1 x1) fun x55 =>
 bindP (oLoad 1 false S x55) fun x56 =>
 bindP (oFieldAddr 10 1 x1) fun x57 =>
 bindP (oLoad 1 false S x57) fun x58 =>
 bindC (apart κ.toOracle 376 [x42, x51, x54, x56, x58] S) (fun _ _ => none) fun x59 S60 =>
 bindP (oExt x59 0) fun x61 =>
 bindP (oExt x59 1) fun x62 =>
 bindC (ok (oStore 8 S60 x8 x61)) (fun v Sx => bif (true && true) && true then pnA v Sx else none) fun _ S63 =>
 bif true then
 (let S := S63;
 bif sameD [] [] then Join j9 [x62] S else none)
 else none))))
theorem e301 (N : Nat) (κ : Oracles) (v0 v1 : AV) (S : St) : runF (Cs N) κ false 301 [v0, v1] S = s301 N κ v0 v1 S := by kernel_rfl
/- (*sacristan/state.node).ack -/
def s302 (N : Nat) (κ : Oracles) (v0 v1 : AV) (S : St) : R :=
 bindC (oBox S v1) pnA fun x1 S =>
 bindP (oFieldAddr 10 1 x1) fun x2 =>
 bindP (oLoad 1 false S x2) fun x3 =>
 bindP (oNilC v0) fun x4 =>
 bindP (oFieldAddr 11 5 x4) fun x5 =>
 bindP (oFieldAddr 3 1 x5) fun x6 =>
 bindP (oLoad 1 false S x6) fun x7 =>
 bindP (oArith .leq x3 x7) fun x8 =>
 bif true then
 (let S := S;
 ifA x8
 (some (.ret (.int .i64 7), S))
 (bindP (oFieldAddr 10 1 x1) fun x9 =>
 bindP (oLoad 1 false S x9) fun x10 =>
 bindP (oNilC v0) fun x11 =>
 bindP (oFieldAddr 11 5 x11) fun x12 =>
 bindP (oFieldAddr 3 1 x12) fun x13 =>
 bindC (ok (oStore 1 S x13 x10)) pnA fun _ S =>
 some (.ret (.int .i64 0), S)))
 else none
theorem e302 (N : Nat) (κ : Oracles) (v0 v1 : AV) (S : St) : runF (Cs N) κ false 302 [v0, v1] S = s302 N κ v0 v1 S := by kernel_rfl
/- slices.Backward[[]sacristan/disk.write,sacristan/disk.write]$1 -/
def s303 (N : Nat) (κ : Oracles) (v0 v1 : AV) (S : St) : R :=
 bindP (oLoad 1 false S v1) fun x1 =>
 bindP (oLen S (.slice 254) x1) fun x2 =>
 bindP (oArith .sub x2 (.int .i64 1)) fun x3 =>
 loop1 (fun vals S1 k4 =>
 let S := gcHead false S.objs.length [] vals S1;
 let x5 := vals.getD 0 .junk;
 bindP (oArith .geq x5 (.int .i64 0)) fun x6 =>
 ifA x6
 (bindP (oLoad 1 false S v1) fun x7 =>
 bindP (oIndexAddrS 2 x7 x5) fun x8 =>
 bindP (oLoad 2 true S x8) fun x9 =>
 bindC (callD κ.toOracle 303 v0 [x5, x9] S) pnA fun x10 S =>
 bindP (oUn .not x10) fun x11 =>
 ifA x11
 (some (.ret (.tup []), S))
 (bindP (oArith .sub x5 (.int .i64 1)) fun x12 =>
 bif sameD [] [] then k4 [x12] S else none))
 (some (.ret (.tup []), S))) N [x3] S
theorem e303 (N : Nat) (κ : Oracles) (v0 v1 : AV) (S : St) : runF (Cs N) κ false 303 [v0, v1] S = s303 N κ v0 v1 S := by kernel_rfl
/- sacristan/lease.ask -/
def s304 (N : Nat) (κ : Oracles) (v0 v1 v2 v3 : AV) (S : St) : R :=
 bindC (oBox S v1) pnA fun x1 S =>
 bindP (oLoad 11 true S x1) fun x2 =>
 bindC (apart κ.toOracle 31 [x2] S) pnA fun x3 S =>
 bindP (bN (eG (some [.i]) false false false x3 (.int .i64 0))) fun x4 =>
 ifA x4
 (some (.ret (.tup [(.bool false), x3]), S))
 (bindP (oArith .lss v2 (.int .i64 (-1))) fun x5 =>
 bindP (guardP x5 false (some v2)) fun x6 =>
 bindP (guardP x5 false (oArith .gtr x6 (.int .i64 1099511627776))) fun x7 =>
 bindP (oPick x5 (.bool true) x7) fun x8 =>
 bindP (guardP x8 false (some v3)) fun x9 =>
 bindP (guardP x8 false (oArith .lss x9 (.int .i64 0))) fun x10 =>
 bindP (oPick x8 (.bool true) x10) fun x11 =>
 bindP (guardP x11 false (some v3)) fun x12 =>
 bindP (guardP x11 false (oArith .gtr x12 (.int .i64 1099511627776))) fun x13 =>
 bindP (oPick x11 (.bool true) x13) fun x14 =>
 ifA x14
 (some (.ret (.tup [(.bool false), (.int .i64 3)]), S))
 (bindP (oLoad 11 true S x1) fun x15 =>
 bindP (oFill (plS [(0, 11), (11, 1)]) [.int .i64 0, .int .i64 0, .int .i64 0, .int .i64 0, .int .i64 0, .int .i64 0, .int .i64 0, .int .i64 0, .int .i64 0, .int .i64 0, .int .i64 0, .int .i64 0] [(0, x15), (1, v3)]) fun x16 =>
 bindC (callD κ.toOracle 304 v0 [x16, v2] S) pnA fun x17 S =>
 some (.ret (.tup [x17, (.int .i64 0)]), S)))
theorem e304 (N : Nat) (κ : Oracles) (v0 v1 v2 v3 : AV) (S : St) : runF (Cs N) κ false 304 [v0, v1, v2, v3] S = s304 N κ v0 v1 v2 v3 S := by kernel_rfl
/- (sacristan/lease.node).fenced -/
def s305 (N : Nat) (κ : Oracles) (v0 v1 : AV) (S : St) : R :=
 bindC (oBox S v0) pnA fun x1 S =>
 bindP (oArith .lss v1 (.int .i64 0)) fun x2 =>
 bindP (guardP x2 false (oFieldAddr 11 1 x1)) fun x3 =>
 bindP (guardP x2 false (oLoad 1 false S x3)) fun x4 =>
 bindP (guardP x2 false (some v1)) fun x5 =>
 bindP (guardP x2 false (oFieldAddr 0 11 x1)) fun x6 =>
 bindP (guardP x2 false (oFieldAddr 8 1 x6)) fun x7 =>
 bindP (guardP x2 false (oLoad 1 false S x7)) fun x8 =>
 bindP (guardP x2 false (oArith .add x5 x8)) fun x9 =>
 bindP (guardP x2 false (oFieldAddr 0 11 x1)) fun x10 =>
 bindP (guardP x2 false (oFieldAddr 9 1 x10)) fun x11 =>
 bindP (guardP x2 false (oLoad 1 false S x11)) fun x12 =>
 bindP (guardP x2 false (oArith .add x9 x12)) fun x13 =>
 bindP (guardP x2 false (oArith .gtr x4 x13)) fun x14 =>
 bindP (oPick x2 (.bool true) x14) fun x15 =>
 some (.ret x15, S)
theorem e305 (N : Nat) (κ : Oracles) (v0 v1 : AV) (S : St) : runF (Cs N) κ false 305 [v0, v1] S = s305 N κ v0 v1 S := by kernel_rfl
/- (sacristan/lease.node).due -/
def s306 (N : Nat) (κ : Oracles) (v0 v1 : AV) (S : St) : R :=
 bindC (oBox S v0) pnA fun x1 S =>
 bindP (oArith .lss v1 (.int .i64 0)) fun x2 =>
 bindP (guardP x2 false (oFieldAddr 11 1 x1)) fun x3 =>
 bindP (guardP x2 false (oLoad 1 false S x3)) fun x4 =>
 bindP (guardP x2 false (some v1)) fun x5 =>
 bindP (guardP x2 false (oFieldAddr 0 11 x1)) fun x6 =>
 bindP (guardP x2 false (oFieldAddr 7 1 x6)) fun x7 =>
 bindP (guardP x2 false (oLoad 1 false S x7)) fun x8 =>
 bindP (guardP x2 false (oArith .add x5 x8)) fun x9 =>
 bindP (guardP x2 false (oArith .geq x4 x9)) fun x10 =>
 bindP (oPick x2 (.bool true) x10) fun x11 =>
 some (.ret x11, S)
theorem e306 (N : Nat) (κ : Oracles) (v0 v1 : AV) (S : St) : runF (Cs N) κ false 306 [v0, v1] S = s306 N κ v0 v1 S := by kernel_rfl
/- (*sacristan/probe.Health).Sick -/
def s307 (N : Nat) (κ : Oracles) (v0 v1 v2 : AV) (S : St) : R :=
 bindC (oBox S v1) pnA fun x1 S =>
 bindP (bN (eNil kPtr v0 .nilptr)) fun x2 =>
 bindP (guardP x2 true (some v2)) fun x3 =>
 bindP (guardP x2 true (oArith .gtr x3 (.int .i64 0))) fun x4 =>
 bindP (oPick x2 x4 (.bool false)) fun x5 =>
 bindP (guardP x5 true (some v0)) fun x6 =>
 bindP (guardP x5 true (oNilC x6)) fun x7 =>
 bindP (guardP x5 true (oFieldAddr 0 1 x7)) fun x8 =>
 bindP (guardP x5 true (oLoad 1 false S x8)) fun x9 =>
 bindP (guardP x5 true (oLoad 3 true S x1)) fun x10 =>
 bindP (guardP x5 true (oLook (some [.i, .i, .i]) true (pack false [.int .i64 0]) S x9 x10 false)) fun x11 =>
 bindP (guardP x5 true (some v2)) fun x12 =>
 bindP (guardP x5 true (oArith .geq x11 x12)) fun x13 =>
 bindP (oPick x5 x13 (.bool false)) fun x14 =>
 bif true then
 (let S := S;
 some (.ret x14, S))
 else none
theorem e307 (N : Nat) (κ : Oracles) (v0 v1 v2 : AV) (S : St) : runF (Cs N) κ false 307 [v0, v1, v2] S = s307 N κ v0 v1 v2 S := by kernel_rfl
/- sacristan/plan.Look -/
def s308 (N : Nat) (κ : Oracles) (v0 v1 v2 v3 v4 v5 v6 : AV) (S : St) : R :=
 bindC (oBox S v0) pnA fun x1 S =>
 bindC (oBox S v1) pnA fun x2 S =>
 bindC (oAl S [.int .i64 0, .bool false, .bool false, .bool false, .bool false, .int .i64 0, .int .i64 0, .int .i64 0, .int .i64 0, .int .i64 0, .bool false, .bool false, .bool false, .int .i64 0, .bool false]) pnA fun x3 S =>
 bindP (oLoad 11 true S x1) fun x4 =>
 bindP (oLoad 5 true S x2) fun x5 =>
 bindC (apart κ.toOracle 219 [x4, x5] S) pnA fun x6 S =>
 bindP (bN (eG (some [.i]) false false false x6 (.int .i64 0))) fun x7 =>
 ifA x7
 (bindP (oFill (plS [(0, 1), (1, 1), (2, 1), (3, 1), (4, 1), (5, 9), (14, 1)]) [.int .i64 0, .bool false, .bool false, .bool false, .bool false, .int .i64 0, .int .i64 0, .int .i64 0, .int .i64 0, .int .i64 0, .bool false, .bool false, .bool false, .int .i64 0, .bool false] []) fun x8 =>
 bindC (ok (oStore 15 S x3 x8)) pnA fun _ S =>
 (resA [(oLoad 15 true S x3), (some x6)]).map fun vs => (.ret (packV vs), S))
 (bindP (oLoad 5 true S x2) fun x9 =>
 bindC (apart κ.toOracle 377 [x9, v2, v3] S) pnA fun x10 S =>
 bindP (oUn .not x10) fun x11 =>
 bindP (guardP x11 false (some v5)) fun x12 =>
 bindP (guardP x11 false (oArith .lss x12 (.int .i64 0))) fun x13 =>
 bindP (oPick x11 (.bool true) x13) fun x14 =>
 bindP (guardP x14 false (some v5)) fun x15 =>
 bindP (guardP x14 false (oArith .gtr x15 (.int .i64 1099511627776))) fun x16 =>
 bindP (oPick x14 (.bool true) x16) fun x17 =>
 ifA x17
 (bindP (oFill (plS [(0, 1), (1, 1), (2, 1), (3, 1), (4, 1), (5, 9), (14, 1)]) [.int .i64 0, .bool false, .bool false, .bool false, .bool false, .int .i64 0, .int .i64 0, .int .i64 0, .int .i64 0, .int .i64 0, .bool false, .bool false, .bool false, .int .i64 0, .bool false] []) fun x18 =>
 bindC (ok (oStore 15 S x3 x18)) pnA fun _ S =>
 (resA [(oLoad 15 true S x3), (some (.int .i64 3))]).map fun vs => (.ret (packV vs), S))
 (bindP (oFill (plS [(0, 1), (1, 1), (2, 1), (3, 1), (4, 1), (5, 9), (14, 1)]) [.int .i64 0, .bool false, .bool false, .bool false, .bool false, .int .i64 0, .int .i64 0, .int .i64 0, .int .i64 0, .int .i64 0, .bool false, .bool false, .bool false, .int .i64 0, .bool false] [(0, v5), (3, v4)]) fun x19 =>
 bindC (oAl S [.int .i64 0, .bool false, .bool false, .bool false, .bool false, .int .i64 0, .int .i64 0, .int .i64 0, .int .i64 0, .int .i64 0, .bool false, .bool false, .bool false, .int .i64 0, .bool false]) pnA fun x20 S =>
 bindC (ok (oStore 15 S x20 x19)) pnA fun _ S =>
 bindP (oLoad 11 true S x1) fun x21 =>
 bindP (oFieldAddr 3 1 x2) fun x22 =>
 bindP (oLoad 1 false S x22) fun x23 =>
 bindC (apart κ.toOracle 378 [x21, x23, v5] S) pnA fun x24 S =>
 bindP (oExt x24 0) fun x25 =>
 bindP (oExt x24 1) fun x26 =>
 bindP (oFieldAddr 1 1 x20) fun x27 =>
 bindC (ok (oStore 1 S x27 x25)) pnA fun _ S =>
 bindP (oLoad 11 true S x1) fun x28 =>
 bindP (oFieldAddr 3 1 x2) fun x29 =>
 bindP (oLoad 1 false S x29) fun x30 =>
 bindC (apart κ.toOracle 227 [x28, x30, v5] S) pnA fun x31 S =>
 bindP (oExt x31 0) fun x32 =>
 bindP (oExt x31 1) fun x33 =>
 bindP (oFieldAddr 2 1 x20) fun x34 =>
 bindC (ok (oStore 1 S x34 x32)) pnA fun _ S =>
 bindC (oAl S [.int .i64 0, .int .i64 0, .int .i64 0]) (fun _ _ => none) fun x35 S =>
 bindP (oFieldAddr 4 1 x2) fun x36 =>
 bindP (oLoad 1 false S x36) fun x37 =>
 bindP (oIndexAddrS 10 x37 v2) fun x38 =>
 bindP (oFieldAddr 0 6 x38) fun x39 =>
 bindP (oFieldAddr 0 1 x39) fun x40 =>
 bindP (oLoad 1 false S x40) fun x41 =>
 bindP (oFieldAddr 4 1 x2) fun x42 =>
 bindP (oLoad 1 false S x42) fun x43 =>
 bindP (oIndexAddrS 10 x43 v2) fun x44 =>
 bindP (oFieldAddr 9 1 x44) fun x45 =>
 bindP (oLoad 1 false S x45) fun x46 =>
 bindP (oIndexAddrS 8 x46 v3) fun x47 =>
 bindP (oFieldAddr 1 1 x47) fun x48 =>
 bindP (oLoad 1 false S x48) fun x49 =>
 bindP (oFill (plS [(0, 1), (1, 1), (2, 1)]) [.int .i64 0, .int .i64 0, .int .i64 0] [(0, x41), (1, v3), (2, x49)]) fun x50 =>
 bindC (ok (oStore 3 S x35 x50)) (fun v Sx => bif (true && true) && true then pnA v Sx else none) fun _ S51 =>
 bif true then
 (let S := S51;
 bindP (oLen S (.slice 116) v6) fun x52 =>
 loop1 (fun vals S1 k53 =>
 let S := gcHead false S.objs.length [] vals S1;
 let x54 := vals.getD 0 .junk;
 bindP (oArith .lss x54 x52) fun x55 =>
 ifA x55
 (let j56 : List AV → St → R := (fun vals S =>
 bindP (oArith .add x54 (.int .i64 1)) fun x57 =>
 bif sameD [] [] then k53 [x57] S else none);
 bindP (oIndexAddrS 9 v6 x54) fun x58 =>
 bindP (oLoad 9 true S x58) fun x59 =>
 bindC (oAl S [.int .i64 0, .int .i64 0, .int .i64 0, .int .i64 0, .int .i64 0, .bool false, .bool false, .bool false, .int .i64 0]) pnA fun x60 S =>
 bindC (ok (oStore 9 S x60 x59)) pnA fun _ S =>
 bindP (oFieldAddr 2 3 x60) fun x61 =>
 bindP (oFieldAddr 0 1 x61) fun x62 =>
 bindP (oLoad 1 false S x62) fun x63 =>
 bindP (oFieldAddr 0 1 x35) fun x64 =>
 bindP (oLoad 1 false S x64) fun x65 =>
 bindP (bN (eG (some [.i]) false false false x63 x65)) fun x66 =>
 bindP (guardP x66 false (oFieldAddr 2 3 x60)) fun x67 =>
 bindP (guardP x66 false (oFieldAddr 1 1 x67)) fun x68 =>
 bindP (guardP x66 false (oLoad 1 false S x68)) fun x69 =>
 bindP (guardP x66 false (oFieldAddr 1 1 x35)) fun x70 =>
 bindP (guardP x66 false (oLoad 1 false S x70)) fun x71 =>
 bindP (guardP x66 false (bN (eG (some [.i]) false false false x69 x71))) fun x72 =>
 bindP (oPick x66 (.bool true) x72) fun x73 =>
 ifA x73
 (bif sameD [] [] then Join j56 [] S else none)
 (bindP (oFieldAddr 2 3 x60) fun x74 =>
 bindP (oFieldAddr 2 1 x74) fun x75 =>
 bindP (oLoad 1 false S x75) fun x76 =>
 bindP (oFieldAddr 2 1 x35) fun x77 =>
 bindP (oLoad 1 false S x77) fun x78 =>
 bindP (bN (eG (some [.i]) false false false x76 x78)) fun x79 =>
 ifA x79
 (bindP (oFieldAddr 14 1 x20) fun x80 =>
 bindP (oLoad 1 false S x80) fun x81 =>
 bindP (guardP x81 false (oFieldAddr 5 1 x60)) fun x82 =>
 bindP (guardP x81 false (oLoad 1 false S x82)) fun x83 =>
 bindP (oPick x81 (.bool true) x83) fun x84 =>
 bindP (oFieldAddr 14 1 x20) fun x85 =>
 bindC (ok (oStore 1 S x85 x84)) pnA fun _ S =>
 bif sameD [] [] then Join j56 [] S else none)
 (bindP (oFieldAddr 2 1 x35) fun x86 =>
 bindP (oLoad 1 false S x86) fun x87 =>
 bindP (bN (eG (some [.i]) false false false x87 (.int .i64 0))) fun x88 =>
 bindP (guardP x88 true (oFieldAddr 4 1 x20)) fun x89 =>
 bindP (guardP x88 true (oLoad 1 false S x89)) fun x90 =>
 bindP (guardP x88 true (oUn .not x90)) fun x91 =>
 bindP (oPick x88 x91 (.bool false)) fun x92 =>
 ifA x92
 (bindP (oLoad 9 true S x60) fun x93 =>
 bindP (oFieldAddr 4 1 x20) fun x94 =>
 bindC (ok (oStore 1 S x94 (.bool true))) (fun v Sx => bif (true && true) && true then pnA v Sx else none) fun _ S95 =>
 bindP (oFieldAddr 5 9 x20) fun x96 =>
 bindC (ok (oStore 9 S95 x96 x93)) (fun v Sx => bif (true && (((false || (chkA (oLoad 9 true S x60) x93 && chkA (oLoad 9 true S95 x60) x93)) && true) && true)) && true then pnA v Sx else none) fun _ S97 =>
 bif ((true && ((false || (chkA (oLoad 9 true S x60) x93 && chkA (oLoad 9 true S95 x60) x93)) && true)) && true) then
 (let S := S97;
 bif sameD [] [] then Join j56 [] S else none)
 else none)
 (bif sameD [] [] then Join j56 [] S else none))))
 (bindP (oLoad 15 true S x20) fun x98 =>
 bindC (ok (oStore 15 S x3 x98)) pnA fun _ S =>
 (resA [(oLoad 15 true S x3), (some (.int .i64 0))]).map fun vs => (.ret (packV vs), S))) N [(.int .i64 0)] S)
 else none))
theorem e308 (N : Nat) (κ : Oracles) (v0 v1 v2 v3 v4 v5 v6 : AV) (S : St) : runF (Cs N) κ false 308 [v0, v1, v2, v3, v4, v5, v6] S = s308 N κ v0 v1 v2 v3 v4 v5 v6 S := by kernel_rfl
/- sacristan/plan.Next -/
def s309 (N : Nat) (κ : Oracles) (v0 v1 : AV) (S : St) : R :=
 bindC (oBox S v0) pnA fun x1 S =>
 bindC (oBox S v1) pnA fun x2 S =>
 bindC (oAl S [.int .u8 0, .int .i64 0]) pnA fun x3 S =>
 bindP (oLoad 8 true S x1) fun x4 =>
 bindC (apart κ.toOracle 362 [x4] S) pnA fun x5 S =>
 bindP (bN (eG (some [.i]) false false false x5 (.int .i64 0))) fun x6 =>
 ifA x6
 (bindP (oFill (plS [(0, 1), (1, 1)]) [.int .u8 0, .int .i64 0] []) fun x7 =>
 bindC (ok (oStore 2 S x3 x7)) pnA fun _ S =>
 (resA [(oLoad 2 true S x3), (some x5)]).map fun vs => (.ret (packV vs), S))
 (bindC (callN κ.toOracle 379 [] S) (fun v Sx => bif (true && true) && (rfA (oFieldAddr 0 1 x1) fun x10 => false) then pnA v Sx else none) fun x8 S9 =>
 bindP (oFieldAddr 0 1 x1) fun x11 =>
 bindP (oLoad 1 false S9 x11) fun x12 =>
 bindP (oLook (some [.i]) false (pack false [.nilfunc]) S9 x8 x12 true) fun x13 =>
 bindP (oExt x13 0) fun x14 =>
 bindP (oExt x13 1) fun x15 =>
 bif ((true && true) && (((false || (chkA (oLoad 1 false S x11) x12 && chkA (oLoad 1 false S9 x11) x12)) && true) && true)) then
 (let S := S9;
 bindP (oUn .not x15) fun x16 =>
 ifA x16
 (bindP (oFill (plS [(0, 1), (1, 1)]) [.int .u8 0, .int .i64 0] []) fun x17 =>
 bindC (ok (oStore 2 S x3 x17)) pnA fun _ S =>
 (resA [(oLoad 2 true S x3), (some (.int .i64 0))]).map fun vs => (.ret (packV vs), S))
 (bindP (oLoad 8 true S x1) fun x18 =>
 bindP (oLoad 15 true S x2) fun x19 =>
 bindC (callD κ.toOracle 309 x14 [x18, x19] S) pnA fun x20 S =>
 bindC (ok (oStore 2 S x3 x20)) pnA fun _ S =>
 (resA [(oLoad 2 true S x3), (some (.int .i64 0))]).map fun vs => (.ret (packV vs), S)))
 else none)
theorem e309 (N : Nat) (κ : Oracles) (v0 v1 : AV) (S : St) : runF (Cs N) κ false 309 [v0, v1] S = s309 N κ v0 v1 S := by kernel_rfl
/- sacristan/agent.acts -/
def s310 (N : Nat) (κ : Oracles) (S : St) : R :=
 bindC (oAl S [.nilfunc, .nilfunc, .nilfunc, .nilfunc, .nilfunc, .nilfunc, .nilfunc]) pnA fun x1 S =>
 bindP (oFill (plA 1) [.nilfunc, .nilfunc, .nilfunc, .nilfunc, .nilfunc, .nilfunc, .nilfunc] [(0, (.func 380 [] [])), (1, (.func 381 [] [])), (2, (.func 382 [] [])), (3, (.func 382 [] [])), (4, (.func 383 [] [])), (5, (.func 384 [] [])), (6, (.func 385 [] []))]) fun x2 =>
 bindC (ok (oStore 7 S x1 x2)) pnA fun _ S =>
 (resA [(oLoad 7 true S x1)]).map fun vs => (.ret (packV vs), S)
theorem e310 (N : Nat) (κ : Oracles) (S : St) : runF (Cs N) κ false 310 [] S = s310 N κ S := by kernel_rfl
/- sacristan/cmd.number -/
def s313 (N : Nat) (κ : Oracles) (v0 v1 : AV) (S : St) : R :=
 bindC (apart κ.toOracle 209 [v0] S) pnA fun x1 S =>
 bindP (oExt x1 0) fun x2 =>
 bindP (oExt x1 1) fun x3 =>
 bindP (oExt x1 2) fun x4 =>
 bindP (bN (eG (some [.i]) false false false x4 (.int .i64 0))) fun x5 =>
 bindP (guardP x5 false (some x2)) fun x6 =>
 bindP (guardP x5 false (some v1)) fun x7 =>
 bindP (guardP x5 false (cII .u64 x7)) fun x8 =>
 bindP (guardP x5 false (oArith .gtr x6 x8)) fun x9 =>
 bindP (oPick x5 (.bool true) x9) fun x10 =>
 ifA x10
 (some (.ret (.tup [(.int .i64 0), (.str []), (.bool false)]), S))
 (bindP (cII .i64 x2) fun x11 =>
 some (.ret (.tup [x11, x3, (.bool true)]), S))
theorem e313 (N : Nat) (κ : Oracles) (v0 v1 : AV) (S : St) : runF (Cs N) κ false 313 [v0, v1] S = s313 N κ v0 v1 S := by kernel_rfl
/- sacristan/admit.Used -/
def s314 (N : Nat) (κ : Oracles) (v0 : AV) (S : St) : R :=
 bindC (oBox S v0) pnA fun x1 S =>
 bindC (oAl S [.int .i64 0, .int .i64 0, .int .i64 0]) pnA fun x2 S =>
 bindP (oFieldAddr 4 1 x1) fun x3 =>
 bindP (oLoad 1 false S x3) fun x4 =>
 bindP (oLen S (.slice 58) x4) fun x5 =>
 loop1 (fun vals S1 k6 =>
 let S := gcHead false S.objs.length [] vals S1;
 let x7 := vals.getD 0 .junk;
 let x8 := vals.getD 1 .junk;
 let x9 := vals.getD 2 .junk;
 let x10 := vals.getD 3 .junk;
 let x11 := vals.getD 4 .junk;
 bindP (oArith .lss x11 x5) fun x12 =>
 ifA x12
 (let j13 : List AV → St → R := (fun vals S =>
 let x14 := vals.getD 0 .junk;
 let x15 := vals.getD 1 .junk;
 let x16 := vals.getD 2 .junk;
 let x17 := vals.getD 3 .junk;
 bindP (oArith .add x11 (.int .i64 1)) fun x18 =>
 bif sameD [] [] then k6 [x14, x15, x16, x17, x18] S else none);
 bindP (oIndexAddrS 10 x4 x11) fun x19 =>
 bindP (oLoad 10 true S x19) fun x20 =>
 bindC (oAl S [.int .i64 0, .int .i64 0, .int .i64 0, .int .i64 0, .lst .nil 0 [], .lst .nil 0 [], .int .i64 0, .int .i64 0, .bool false, .lst .nil 0 []]) pnA fun x21 S =>
 bindC (ok (oStore 10 S x21 x20)) pnA fun _ S =>
 bindP (oFieldAddr 0 6 x21) fun x22 =>
 bindP (oLoad 6 true S x22) fun x23 =>
 bindC (apart κ.toOracle 289 [x23] S) pnA fun x24 S =>
 bindP (bN (eG (some [.i]) false false false x24 (.int .i64 0))) fun x25 =>
 ifA x25
 (bindP (oFill (plS [(0, 1), (1, 1), (2, 1)]) [.int .i64 0, .int .i64 0, .int .i64 0] []) fun x26 =>
 bindC (ok (oStore 3 S x2 x26)) pnA fun _ S =>
 (resA [(oLoad 3 true S x2), (some (.lst .nil 0 [])), (some (.int .i64 2))]).map fun vs => (.ret (packV vs), S))
 (bindP (oLoad 10 true S x21) fun x27 =>
 bindC (apart κ.toOracle 134 [x27] S) pnA fun x28 S =>
 bindP (oUn .not x28) fun x29 =>
 ifA x29
 (bindP (oFieldAddr 0 6 x21) fun x30 =>
 bindP (oFieldAddr 1 3 x30) fun x31 =>
 bindP (oLoad 3 true S x31) fun x32 =>
 bindC (oBS S 3 [.int .i64 0, .int .i64 0, .int .i64 0] 1 [(0, x32)]) pnA fun x33 S =>
 bindC (oApp false 3 24 S x9 x33) pnA fun x34 S =>
 bindP (oFieldAddr 0 6 x21) fun x35 =>
 bindP (oFieldAddr 4 1 x35) fun x36 =>
 bindP (oLoad 1 false S x36) fun x37 =>
 bindC (oBS S 1 [.lst .nil 0 []] 1 [(0, x37)]) pnA fun x38 S =>
 bindC (oApp false 1 24 S x10 x38) pnA fun x39 S =>
 bif sameD [] [] then Join j13 [x7, x8, x34, x39] S else none)
 (bif sameD [] [] then Join j13 [x7, x8, x9, x10] S else none)))
 (bindC (apart κ.toOracle 136 [x9] S) pnA fun x40 S =>
 bindP (oExt x40 0) fun x41 =>
 bindP (oExt x40 1) fun x42 =>
 bindC (oAl S [.int .i64 0, .int .i64 0, .int .i64 0]) pnA fun x43 S =>
 bindC (ok (oStore 3 S x43 x41)) pnA fun _ S =>
 bindP (oUn .not x42) fun x44 =>
 ifA x44
 (bindP (oFill (plS [(0, 1), (1, 1), (2, 1)]) [.int .i64 0, .int .i64 0, .int .i64 0] []) fun x45 =>
 bindC (ok (oStore 3 S x2 x45)) pnA fun _ S =>
 (resA [(oLoad 3 true S x2), (some (.lst .nil 0 [])), (some (.int .i64 3))]).map fun vs => (.ret (packV vs), S))
 (bindP (oLoad 3 true S x43) fun x46 =>
 bindC (apart κ.toOracle 363 [x10] S) (fun _ _ => none) fun x47 S48 =>
 bindC (ok (oStore 3 S48 x2 x46)) (fun v Sx => bif (true && true) && true then pnA v Sx else none) fun _ S49 =>
 bif true then
 (let S := S49;
 (resA [(oLoad 3 true S x2), (some x47), (some (.int .i64 0))]).map fun vs => (.ret (packV vs), S))
 else none))) N [(.lst .nil 0 []), (.int .i64 0), (.lst .nil 0 []), (.lst .nil 0 []), (.int .i64 0)] S
theorem e314 (N : Nat) (κ : Oracles) (v0 : AV) (S : St) : runF (Cs N) κ false 314 [v0] S = s314 N κ v0 S := by kernel_rfl
/- sacristan/admit.old -/
def s315 (N : Nat) (κ : Oracles) (v0 : AV) (S : St) : R :=
 bindC (oBox S v0) pnA fun x1 S =>
 bindP (oFieldAddr 16 9 x1) fun x2 =>
 bindP (oFieldAddr 1 1 x2) fun x3 =>
 bindP (oLoad 1 false S x3) fun x4 =>
 bindP (oFieldAddr 11 5 x1) fun x5 =>
 bindP (oFieldAddr 0 1 x5) fun x6 =>
 bindP (oLoad 1 false S x6) fun x7 =>
 bindP (oArith .lss x4 x7) fun x8 =>
 ifA x8
 (some (.ret (.int .u8 2), S))
 (some (.ret (.int .u8 0), S))
theorem e315 (N : Nat) (κ : Oracles) (v0 : AV) (S : St) : runF (Cs N) κ false 315 [v0] S = s315 N κ v0 S := by kernel_rfl
/- sacristan/admit.place -/
def s316 (N : Nat) (κ : Oracles) (v0 : AV) (S : St) : R :=
 bindC (oBox S v0) pnA fun x1 S =>
 bindP (oFieldAddr 26 3 x1) fun x2 =>
 bindP (oLoad 3 true S x2) fun x3 =>
 bindP (oFieldAddr 16 9 x1) fun x4 =>
 bindP (oFieldAddr 2 6 x4) fun x5 =>
 bindP (oFieldAddr 1 3 x5) fun x6 =>
 bindP (oLoad 3 true S x6) fun x7 =>
 bindC (apart κ.toOracle 387 [x3, x7] S) pnA fun x8 S =>
 bindP (oExt x8 0) fun x9 =>
 bindP (oExt x8 1) fun x10 =>
 bindC (oAl S [.int .i64 0, .int .i64 0, .int .i64 0]) pnA fun x11 S =>
 bindC (ok (oStore 3 S x11 x9)) pnA fun _ S =>
 bindP (oFieldAddr 16 9 x1) fun x12 =>
 bindP (oFieldAddr 0 1 x12) fun x13 =>
 bindP (oLoad 1 false S x13) fun x14 =>
 bindP (bN (eG (some [.i]) false false false x14 (.int .u8 1))) fun x15 =>
 ifA x15
 (some (.ret (.int .u8 0), S))
 (bindP (oFieldAddr 25 1 x1) fun x16 =>
 bindP (oLoad 1 false S x16) fun x17 =>
 bindP (oArith .geq x17 (.int .i64 0)) fun x18 =>
 ifA x18
 (some (.ret (.int .u8 3), S))
 (bindP (oFieldAddr 11 5 x1) fun x19 =>
 bindP (oFieldAddr 4 1 x19) fun x20 =>
 bindP (oLoad 1 false S x20) fun x21 =>
 bindP (oLen S (.slice 58) x21) fun x22 =>
 bindP (oFieldAddr 0 11 x1) fun x23 =>
 bindP (oFieldAddr 3 1 x23) fun x24 =>
 bindP (oLoad 1 false S x24) fun x25 =>
 bindP (oArith .geq x22 x25) fun x26 =>
 bindP (guardP x26 false (some x10)) fun x27 =>
 bindP (guardP x26 false (oUn .not x27)) fun x28 =>
 bindP (oPick x26 (.bool true) x28) fun x29 =>
 bindP (guardP x29 false (oLoad 3 true S x11)) fun x30 =>
 bindP (guardP x29 false (oFieldAddr 0 11 x1)) fun x31 =>
 bindP (guardP x29 false (oFieldAddr 0 3 x31)) fun x32 =>
 bindP (guardP x29 false (oLoad 3 true S x32)) fun x33 =>
 bindC (guardC x29 false S (apart κ.toOracle 137 [x30, x33] S)) pnA fun x34 S =>
 bindP (guardP x29 false (oUn .not x34)) fun x35 =>
 bindP (oPick x29 (.bool true) x35) fun x36 =>
 ifA x36
 (some (.ret (.int .u8 6), S))
 (bindP (oFieldAddr 29 1 x1) fun x37 =>
 bindP (oLoad 1 false S x37) fun x38 =>
 bindP (oFieldAddr 16 9 x1) fun x39 =>
 bindP (oFieldAddr 2 6 x39) fun x40 =>
 bindP (oFieldAddr 4 1 x40) fun x41 =>
 bindP (oLoad 1 false S x41) fun x42 =>
 bindC (apart κ.toOracle 135 [x38, x42] S) pnA fun x43 S =>
 bindP (oLen S (.slice 3) x43) fun x44 =>
 bindP (oArith .gtr x44 (.int .i64 0)) fun x45 =>
 ifA x45
 (some (.ret (.int .u8 7), S))
 (some (.ret (.int .u8 0), S)))))
theorem e316 (N : Nat) (κ : Oracles) (v0 : AV) (S : St) : runF (Cs N) κ false 316 [v0] S = s316 N κ v0 S := by kernel_rfl
/- sacristan/admit.named -/
def s317 (N : Nat) (κ : Oracles) (v0 : AV) (S : St) : R :=
 bindC (oBox S v0) pnA fun x1 S =>
 bindP (oFieldAddr 16 9 x1) fun x2 =>
 bindP (oFieldAddr 0 1 x2) fun x3 =>
 bindP (oLoad 1 false S x3) fun x4 =>
 bindP (bE (eG (some [.i]) false false false x4 (.int .u8 1))) fun x5 =>
 ifA x5
 (some (.ret (.int .u8 0), S))
 (bindP (oFieldAddr 25 1 x1) fun x6 =>
 bindP (oLoad 1 false S x6) fun x7 =>
 bindP (oArith .lss x7 (.int .i64 0)) fun x8 =>
 ifA x8
 (some (.ret (.int .u8 4), S))
 (bindP (oFieldAddr 11 5 x1) fun x9 =>
 bindP (oFieldAddr 4 1 x9) fun x10 =>
 bindP (oLoad 1 false S x10) fun x11 =>
 bindP (oFieldAddr 25 1 x1) fun x12 =>
 bindP (oLoad 1 false S x12) fun x13 =>
 bindP (oIndexAddrS 10 x11 x13) fun x14 =>
 bindP (oLoad 10 true S x14) fun x15 =>
 bindC (apart κ.toOracle 134 [x15] S) pnA fun x16 S =>
 bindP (oFieldAddr 16 9 x1) fun x17 =>
 bindP (oFieldAddr 0 1 x17) fun x18 =>
 bindP (oLoad 1 false S x18) fun x19 =>
 bindP (bE (eG (some [.i]) false false false x19 (.int .u8 2))) fun x20 =>
 bindP (guardP x20 true (some x16)) fun x21 =>
 bindP (guardP x20 true (some x21)) fun x22 =>
 bindP (guardP x22 false (oFieldAddr 11 5 x1)) fun x23 =>
 bindP (guardP x22 false (oFieldAddr 4 1 x23)) fun x24 =>
 bindP (guardP x22 false (oLoad 1 false S x24)) fun x25 =>
 bindP (guardP x22 false (oFieldAddr 25 1 x1)) fun x26 =>
 bindP (guardP x22 false (oLoad 1 false S x26)) fun x27 =>
 bindP (guardP x22 false (oIndexAddrS 10 x25 x27)) fun x28 =>
 bindP (guardP x22 false (oFieldAddr 8 1 x28)) fun x29 =>
 bindP (guardP x22 false (oLoad 1 false S x29)) fun x30 =>
 bindP (guardP x20 true (oPick x22 (.bool true) x30)) fun x31 =>
 bindP (oPick x20 x31 (.bool false)) fun x32 =>
 ifA x32
 (some (.ret (.int .u8 3), S))
 (bindP (oFieldAddr 16 9 x1) fun x33 =>
 bindP (oFieldAddr 0 1 x33) fun x34 =>
 bindP (oLoad 1 false S x34) fun x35 =>
 bindP (bE (eG (some [.i]) false false false x35 (.int .u8 3))) fun x36 =>
 bindP (guardP x36 true (some x16)) fun x37 =>
 bindP (guardP x36 true (oUn .not x37)) fun x38 =>
 bindP (oPick x36 x38 (.bool false)) fun x39 =>
 ifA x39
 (some (.ret (.int .u8 5), S))
 (some (.ret (.int .u8 0), S)))))
theorem e317 (N : Nat) (κ : Oracles) (v0 : AV) (S : St) : runF (Cs N) κ false 317 [v0] S = s317 N κ v0 S := by kernel_rfl
/- (*sacristan/journal.Journal).check -/
def s319 (N : Nat) (κ : Oracles) (v0 v1 : AV) (S : St) : R :=
 bindP (bE (eNil kPtr v0 .nilptr)) fun x1 =>
 ifA x1
 (some (.ret (.tup [(.int .i64 0), (.int .i64 1)]), S))
 (bindP (oNilC v0) fun x2 =>
 bindP (oFieldAddr 9 1 x2) fun x3 =>
 bindP (oLoad 1 false S x3) fun x4 =>
 ifA x4
 (some (.ret (.tup [(.int .i64 0), (.int .i64 10)]), S))
 (bindP (oLen S (.slice 9) v1) fun x5 =>
 loop1 (fun vals S1 k6 =>
 let S := gcHead false S.objs.length [] vals S1;
 let x7 := vals.getD 0 .junk;
 let x8 := vals.getD 1 .junk;
 let x9 := vals.getD 2 .junk;
 bindP (oArith .lss x9 x5) fun x10 =>
 ifA x10
 (bindP (oIndexAddrS 1 v1 x9) fun x11 =>
 bindP (oLoad 1 false S x11) fun x12 =>
 bindP (oLen S .string x12) fun x13 =>
 bindC (apart κ.toOracle 240 [x13] S) pnA fun x14 S =>
 bindP (oExt x14 0) fun x15 =>
 bindP (oExt x14 1) fun x16 =>
 bindP (bN (eG (some [.i]) false false false x16 (.int .i64 0))) fun x17 =>
 ifA x17
 (some (.ret (.tup [(.int .i64 0), x16]), S))
 (bindP (oArith .add x7 x15) fun x18 =>
 bindP (oArith .add x9 (.int .i64 1)) fun x19 =>
 bif sameD [] [] then k6 [x18, x8, x19] S else none))
 (some (.ret (.tup [x7, (.int .i64 0)]), S))) N [(.int .i64 0), (.int .i64 0), (.int .i64 0)] S))
theorem e319 (N : Nat) (κ : Oracles) (v0 v1 : AV) (S : St) : runF (Cs N) κ false 319 [v0, v1] S = s319 N κ v0 v1 S := by kernel_rfl
/- (*sacristan/journal.Journal).write -/
def s320 (N : Nat) (κ : Oracles) (v0 v1 v2 v3 v4 : AV) (S : St) : R :=
 bindP (oNilC v0) fun x1 =>
 bindP (oFieldAddr 2 5 x1) fun x2 =>
 bindP (oFieldAddr 1 1 x2) fun x3 =>
 bindP (oLoad 1 false S x3) fun x4 =>
 bindC (apart κ.toOracle 350 [x4, v2, v3, v4] S) pnA fun x5 S =>
 bindP (oExt x5 0) fun x6 =>
 bindP (oExt x5 1) fun x7 =>
 bindP (bN (eG (some [.i]) false false false x7 (.int .i64 0))) fun x8 =>
 ifA x8
 (some (.ret (.tup [v1, x7]), S))
 (bindP (oLen S (.slice 9) x6) fun x9 =>
 loop1 (fun vals S1 k10 =>
 let S := gcHead false S.objs.length [] vals S1;
 let x11 := vals.getD 0 .junk;
 let x12 := vals.getD 1 .junk;
 let x13 := vals.getD 2 .junk;
 let x14 := vals.getD 3 .junk;
 bindP (oArith .lss x14 x9) fun x15 =>
 ifA x15
 (bindP (oIndexAddrS 1 x6 x14) fun x16 =>
 bindP (oLoad 1 false S x16) fun x17 =>
 bindP (oNilC v0) fun x18 =>
 bindP (oFieldAddr 0 1 x18) fun x19 =>
 bindP (oLoad 1 false S x19) fun x20 =>
 bindC (callN κ.toOracle 254 [x20, x11, x17] S) pnA fun x21 S =>
 bindP (bN (eG (some [.i]) false false false x21 (.int .i64 0))) fun x22 =>
 ifA x22
 (bindC (callN κ.toOracle 321 [v0, x21] S) pnA fun x23 S =>
 some (.ret (.tup [x11, x23]), S))
 (bindP (oArith .add x11 (.int .i64 1)) fun x24 =>
 bindP (oArith .add x14 (.int .i64 1)) fun x25 =>
 bif sameD [] [] then k10 [x24, x12, x13, x25] S else none))
 (some (.ret (.tup [x11, (.int .i64 0)]), S))) N [v1, (.int .i64 0), (.int .i64 0), (.int .i64 0)] S)
theorem e320 (N : Nat) (κ : Oracles) (v0 v1 v2 v3 v4 : AV) (S : St) : runF (Cs N) κ false 320 [v0, v1, v2, v3, v4] S = s320 N κ v0 v1 v2 v3 v4 S := by kernel_rfl
/- (*sacristan/journal.Journal).fails -/
def s321 (N : Nat) (κ : Oracles) (v0 v1 : AV) (S : St) : R :=
 let j1 : List AV → St → R := (fun vals S =>
 some (.ret v1, S));
 bindP (bE (eG (some [.i]) false false false v1 (.int .i64 10))) fun x2 =>
 ifA x2
 (bindP (oNilC v0) fun x3 =>
 bindP (oFieldAddr 9 1 x3) fun x4 =>
 bindC (ok (oStore 1 S x4 (.bool true))) pnA fun _ S =>
 bif sameD [] [] then Join j1 [] S else none)
 (bif sameD [] [] then Join j1 [] S else none)
theorem e321 (N : Nat) (κ : Oracles) (v0 v1 : AV) (S : St) : runF (Cs N) κ false 321 [v0, v1] S = s321 N κ v0 v1 S := by kernel_rfl
/- sacristan/token.numbers -/
def s322 (N : Nat) (κ : Oracles) (v0 : AV) (S : St) : R :=
 bindC (oBox S v0) pnA fun x1 S =>
 bindC (oAl S [.int .i64 0, .int .i64 0, .int .i64 0]) pnA fun x2 S =>
 bindP (oFieldAddr 0 1 x1) fun x3 =>
 bindP (oLoad 1 false S x3) fun x4 =>
 bindP (oFieldAddr 1 1 x1) fun x5 =>
 bindP (oLoad 1 false S x5) fun x6 =>
 bindP (oFieldAddr 2 1 x1) fun x7 =>
 bindP (oLoad 1 false S x7) fun x8 =>
 bindP (oFill (plA 1) [.int .i64 0, .int .i64 0, .int .i64 0] [(0, x4), (1, x6), (2, x8)]) fun x9 =>
 bindC (ok (oStore 3 S x2 x9)) pnA fun _ S =>
 (resA [(oLoad 3 true S x2)]).map fun vs => (.ret (packV vs), S)
theorem e322 (N : Nat) (κ : Oracles) (v0 : AV) (S : St) : runF (Cs N) κ false 322 [v0] S = s322 N κ v0 S := by kernel_rfl
/- sacristan/crc.Sum -/
def s331 (N : Nat) (κ : Oracles) (v0 : AV) (S : St) : R :=
 bindC (apart κ.toOracle 398 [(.int .u32 0), v0] S) pnA fun x1 S =>
 some (.ret x1, S)
theorem e331 (N : Nat) (κ : Oracles) (v0 : AV) (S : St) : runF (Cs N) κ false 331 [v0] S = s331 N κ v0 S := by kernel_rfl
/- sacristan/spec.Encode$1 -/
def s341 (N : Nat) (κ : Oracles) (v0 v1 : AV) (S : St) : R :=
 bindP (oLen S (.slice 3) v0) fun x1 =>
 loop1 (fun vals S1 k2 =>
 let S := gcHead false S.objs.length [] vals S1;
 let x3 := vals.getD 0 .junk;
 bindP (oArith .lss x3 x1) fun x4 =>
 ifA x4
 (bindP (oIndexAddrS 1 v0 x3) fun x5 =>
 bindP (oLoad 1 false S x5) fun x6 =>
 bindP (oLoad 1 false S v1) fun x7 =>
 bindP (cII .u64 x6) fun x8 =>
 bindC (apart κ.toOracle 144 [x8] S) (fun _ _ => none) fun x9 S10 =>
 bindP (oArith .add x7 x9) fun x11 =>
 bindC (ok (oStore 1 S10 v1 x11)) (fun v Sx => bif (true && true) && true then pnA v Sx else none) fun _ S12 =>
 bif true then
 (let S := S12;
 bindP (oArith .add x3 (.int .i64 1)) fun x13 =>
 bif sameD [] [] then k2 [x13] S else none)
 else none)
 (some (.ret (.tup []), S))) N [(.int .i64 0)] S
theorem e341 (N : Nat) (κ : Oracles) (v0 v1 : AV) (S : St) : runF (Cs N) κ false 341 [v0, v1] S = s341 N κ v0 v1 S := by kernel_rfl
/- sacristan/slots.number -/
def s348 (N : Nat) (κ : Oracles) (v0 : AV) (S : St) : R :=
 bindC (apart κ.toOracle 405 [v0] S) pnA fun x1 S =>
 bindP (oExt x1 0) fun x2 =>
 bindP (oExt x1 1) fun x3 =>
 bindP (cII .i64 x2) fun x4 =>
 some (.ret x4, S)
theorem e348 (N : Nat) (κ : Oracles) (v0 : AV) (S : St) : runF (Cs N) κ false 348 [v0] S = s348 N κ v0 S := by kernel_rfl
/- sacristan/frame.Decode -/
def s349 (N : Nat) (κ : Oracles) (v0 : AV) (S : St) : R :=
 bindC (oAl S [.int .i64 0, .int .i64 0, .int .i64 0, .int .i64 0, .int .u8 0, .str []]) pnA fun x1 S =>
 bindP (oLen S .string v0) fun x2 =>
 bindP (bN (eG (some [.i]) false false false x2 (.int .i64 80))) fun x3 =>
 ifA x3
 (bindP (oFill (plS [(0, 1), (1, 1), (2, 1), (3, 1), (4, 1), (5, 1)]) [.int .i64 0, .int .i64 0, .int .i64 0, .int .i64 0, .int .u8 0, .str []] []) fun x4 =>
 bindC (ok (oStore 6 S x1 x4)) pnA fun _ S =>
 (resA [(oLoad 6 true S x1), (some (.int .i64 12))]).map fun vs => (.ret (packV vs), S))
 (bindP (some (.func 406 [v0] [])) fun x5 =>
 bindC (callD κ.toOracle 349 x5 [(.int .i64 13), (.int .i64 14)] S) pnA fun x6 S =>
 bindP (oArith .gtr x6 (.int .i64 44)) fun x7 =>
 ifA x7
 (bindP (oFill (plS [(0, 1), (1, 1), (2, 1), (3, 1), (4, 1), (5, 1)]) [.int .i64 0, .int .i64 0, .int .i64 0, .int .i64 0, .int .u8 0, .str []] []) fun x8 =>
 bindC (ok (oStore 6 S x1 x8)) pnA fun _ S =>
 (resA [(oLoad 6 true S x1), (some (.int .i64 12))]).map fun vs => (.ret (packV vs), S))
 (bindP (slT v0 none (some (.int .i64 11)) none) fun x9 =>
 bindP (slT v0 (some (.int .i64 69)) none none) fun x10 =>
 bindP (bN (eG (some [.s]) false false false x9 x10)) fun x11 =>
 bif true then
 (let S := S;
 ifA x11
 (bindP (oFill (plS [(0, 1), (1, 1), (2, 1), (3, 1), (4, 1), (5, 1)]) [.int .i64 0, .int .i64 0, .int .i64 0, .int .i64 0, .int .u8 0, .str []] []) fun x12 =>
 bindC (ok (oStore 6 S x1 x12)) pnA fun _ S =>
 (resA [(oLoad 6 true S x1), (some (.int .i64 12))]).map fun vs => (.ret (packV vs), S))
 (bindC (callD κ.toOracle 349 x5 [(.int .i64 0), (.int .i64 4)] S) (fun v Sx => bif (true && true) && (rfA (some x5) fun x15 => (rfA (some x5) fun x16 => (rfA (some x5) fun x17 => (rfA (some x5) fun x18 => (rfA (some v0) fun x19 => (rfA (some x6) fun x20 => (rfA (oArith .add (.int .i64 18) x20) fun x21 => (rfA (slT x19 (some (.int .i64 18)) (some x21) none) fun x22 => true)))))))) then pnA v Sx else none) fun x13 S14 =>
 bindC (callD κ.toOracle 349 x5 [(.int .i64 4), (.int .i64 10)] S14) (fun v Sx => bif (true && true) && (rfA (some x5) fun x25 => (rfA (some x5) fun x26 => (rfA (some x5) fun x27 => (rfA (some v0) fun x28 => (rfA (some x6) fun x29 => (rfA (oArith .add (.int .i64 18) x29) fun x30 => (rfA (slT x28 (some (.int .i64 18)) (some x30) none) fun x31 => true))))))) then pnA v Sx else none) fun x23 S24 =>
 bindC (callD κ.toOracle 349 x5 [(.int .i64 10), (.int .i64 11)] S24) (fun v Sx => bif (true && true) && (rfA (some x5) fun x34 => (rfA (some x5) fun x35 => (rfA (some v0) fun x36 => (rfA (some x6) fun x37 => (rfA (oArith .add (.int .i64 18) x37) fun x38 => (rfA (slT x36 (some (.int .i64 18)) (some x38) none) fun x39 => true)))))) then pnA v Sx else none) fun x32 S33 =>
 bindC (callD κ.toOracle 349 x5 [(.int .i64 11), (.int .i64 12)] S33) (fun v Sx => bif (true && true) && (rfA (some x5) fun x42 => (rfA (some v0) fun x43 => (rfA (some x6) fun x44 => (rfA (oArith .add (.int .i64 18) x44) fun x45 => (rfA (slT x43 (some (.int .i64 18)) (some x45) none) fun x46 => true))))) then pnA v Sx else none) fun x40 S41 =>
 bindC (callD κ.toOracle 349 x5 [(.int .i64 12), (.int .i64 13)] S41) (fun v Sx => bif (true && true) && (rfA (some v0) fun x49 => (rfA (some x6) fun x50 => (rfA (oArith .add (.int .i64 18) x50) fun x51 => (rfA (slT x49 (some (.int .i64 18)) (some x51) none) fun x52 => true)))) then pnA v Sx else none) fun x47 S48 =>
 bindP (cII .u8 x47) fun x53 =>
 bindP (oArith .add (.int .i64 18) x6) fun x54 =>
 bindP (slT v0 (some (.int .i64 18)) (some x54) none) fun x55 =>
 bindP (oFill (plS [(0, 1), (1, 1), (2, 1), (3, 1), (4, 1), (5, 1)]) [.int .i64 0, .int .i64 0, .int .i64 0, .int .i64 0, .int .u8 0, .str []] [(0, x13), (1, x23), (2, x32), (3, x40), (4, x53), (5, x55)]) fun x56 =>
 bindC (ok (oStore 6 S48 x1 x56)) (fun v Sx => bif (true && true) && true then pnA v Sx else none) fun _ S57 =>
 bif true then
 (let S := S57;
 bindP (oLoad 6 true S x1) fun x58 =>
 bindC (apart κ.toOracle 407 [x58] S) pnA fun x59 S =>
 bindP (oExt x59 0) fun x60 =>
 bindP (oExt x59 1) fun x61 =>
 bindP (bN (eG (some [.i]) false false false x61 (.int .i64 0))) fun x62 =>
 bindP (guardP x62 false (some x60)) fun x63 =>
 bindP (guardP x62 false (some v0)) fun x64 =>
 bindP (guardP x62 false (bN (eG (some [.s]) false false false x63 x64))) fun x65 =>
 bindP (oPick x62 (.bool true) x65) fun x66 =>
 ifA x66
 (bindP (oFill (plS [(0, 1), (1, 1), (2, 1), (3, 1), (4, 1), (5, 1)]) [.int .i64 0, .int .i64 0, .int .i64 0, .int .i64 0, .int .u8 0, .str []] []) fun x67 =>
 bindC (ok (oStore 6 S x1 x67)) pnA fun _ S =>
 (resA [(oLoad 6 true S x1), (some (.int .i64 12))]).map fun vs => (.ret (packV vs), S))
 (bindP (oLoad 6 true S x1) fun x68 =>
 bindC (ok (oStore 6 S x1 x68)) pnA fun _ S =>
 (resA [(oLoad 6 true S x1), (some (.int .i64 0))]).map fun vs => (.ret (packV vs), S)))
 else none))
 else none))
theorem e349 (N : Nat) (κ : Oracles) (v0 : AV) (S : St) : runF (Cs N) κ false 349 [v0] S = s349 N κ v0 S := by kernel_rfl
/- slices.Equal[[]string,string] -/
def s351 (N : Nat) (κ : Oracles) (v0 v1 : AV) (S : St) : R :=
 bindP (oLen S (.slice 9) v0) fun x1 =>
 bindP (oLen S (.slice 9) v1) fun x2 =>
 bindP (bN (eG (some [.i]) false false false x1 x2)) fun x3 =>
 ifA x3
 (some (.ret (.bool false), S))
 (bindP (oLen S (.slice 9) v0) fun x4 =>
 loop1 (fun vals S1 k5 =>
 let S := gcHead false S.objs.length [] vals S1;
 let x6 := vals.getD 0 .junk;
 let x7 := vals.getD 1 .junk;
 bindP (oArith .lss x7 x4) fun x8 =>
 ifA x8
 (bindP (oIndexAddrS 1 v0 x7) fun x9 =>
 bindP (oLoad 1 false S x9) fun x10 =>
 bindP (oIndexAddrS 1 v1 x7) fun x11 =>
 bindP (oLoad 1 false S x11) fun x12 =>
 bindP (bN (eG (some [.s]) false false false x10 x12)) fun x13 =>
 bif true then
 (let S := S;
 ifA x13
 (some (.ret (.bool false), S))
 (bindP (oArith .add x7 (.int .i64 1)) fun x14 =>
 bif sameD [] [] then k5 [x6, x14] S else none))
 else none)
 (some (.ret (.bool true), S))) N [(.bool false), (.int .i64 0)] S)
theorem e351 (N : Nat) (κ : Oracles) (v0 v1 : AV) (S : St) : runF (Cs N) κ false 351 [v0, v1] S = s351 N κ v0 v1 S := by kernel_rfl
/- sacristan/slots.from -/
def s352 (N : Nat) (κ : Oracles) (v0 v1 v2 : AV) (S : St) : R :=
 bindP (oArith .geq v0 v1) fun x1 =>
 bindP (guardP x1 true (some v0)) fun x2 =>
 bindP (guardP x1 true (some v2)) fun x3 =>
 bindP (guardP x1 true (oArith .leq x2 x3)) fun x4 =>
 bindP (oPick x1 x4 (.bool false)) fun x5 =>
 some (.ret x5, S)
theorem e352 (N : Nat) (κ : Oracles) (v0 v1 v2 : AV) (S : St) : runF (Cs N) κ false 352 [v0, v1, v2] S = s352 N κ v0 v1 v2 S := by kernel_rfl
/- sacristan/slots.fixed -/
def s353 (N : Nat) (κ : Oracles) (v0 v1 : AV) (S : St) : R :=
 bindP (cII .u64 v0) fun x1 =>
 bindC (apart κ.toOracle 397 [x1, v1] S) pnA fun x2 S =>
 bindP (oExt x2 0) fun x3 =>
 bindP (oExt x2 1) fun x4 =>
 some (.ret x3, S)
theorem e353 (N : Nat) (κ : Oracles) (v0 v1 : AV) (S : St) : runF (Cs N) κ false 353 [v0, v1] S = s353 N κ v0 v1 S := by kernel_rfl
/- sacristan/spec.Check$1 -/
def s355 (N : Nat) (κ : Oracles) (v0 : AV) (S : St) : R :=
 bindP (oFieldAddr 0 1 v0) fun x1 =>
 bindP (oLoad 1 false S x1) fun x2 =>
 bindC (apart κ.toOracle 79 [x2, (.int .i64 0), (.int .i64 2147483648)] S) pnA fun x3 S =>
 some (.ret x3, S)
theorem e355 (N : Nat) (κ : Oracles) (v0 : AV) (S : St) : runF (Cs N) κ false 355 [v0] S = s355 N κ v0 S := by kernel_rfl
/- sacristan/spec.Check$2 -/
def s356 (N : Nat) (κ : Oracles) (v0 : AV) (S : St) : R :=
 bindP (oFieldAddr 1 3 v0) fun x1 =>
 bindP (oLoad 3 true S x1) fun x2 =>
 bindC (apart κ.toOracle 77 [x2] S) pnA fun x3 S =>
 some (.ret x3, S)
theorem e356 (N : Nat) (κ : Oracles) (v0 : AV) (S : St) : runF (Cs N) κ false 356 [v0] S = s356 N κ v0 S := by kernel_rfl
/- sacristan/spec.Check$3 -/
def s357 (N : Nat) (κ : Oracles) (v0 : AV) (S : St) : R :=
 bindP (oFieldAddr 4 1 v0) fun x1 =>
 bindP (oLoad 1 false S x1) fun x2 =>
 bindC (apart κ.toOracle 358 [x2] S) pnA fun x3 S =>
 some (.ret x3, S)
theorem e357 (N : Nat) (κ : Oracles) (v0 : AV) (S : St) : runF (Cs N) κ false 357 [v0] S = s357 N κ v0 S := by kernel_rfl
/- sacristan/ports.Check -/
def s358 (N : Nat) (κ : Oracles) (v0 : AV) (S : St) : R :=
 bindP (oLen S (.slice 3) v0) fun x1 =>
 bindP (oArith .gtr x1 (.int .i64 8)) fun x2 =>
 ifA x2
 (some (.ret (.int .i64 5), S))
 (bindP (oLen S (.slice 3) v0) fun x3 =>
 loop1 (fun vals S1 k4 =>
 let S := gcHead false S.objs.length [] vals S1;
 let x5 := vals.getD 0 .junk;
 let x6 := vals.getD 1 .junk;
 let x7 := vals.getD 2 .junk;
 bindP (oArith .lss x7 x3) fun x8 =>
 ifA x8
 (bindP (oIndexAddrS 1 v0 x7) fun x9 =>
 bindP (oLoad 1 false S x9) fun x10 =>
 bindP (oArith .lss x10 (.int .i64 1)) fun x11 =>
 bindP (guardP x11 false (some x10)) fun x12 =>
 bindP (guardP x11 false (oArith .gtr x12 (.int .i64 65535))) fun x13 =>
 bindP (oPick x11 (.bool true) x13) fun x14 =>
 ifA x14
 (some (.ret (.int .i64 3), S))
 (bindP (oArith .leq x10 x6) fun x15 =>
 ifA x15
 (some (.ret (.int .i64 13), S))
 (bindP (oArith .add x7 (.int .i64 1)) fun x16 =>
 bif sameD [] [] then k4 [x5, x10, x16] S else none)))
 (some (.ret (.int .i64 0), S))) N [(.int .i64 0), (.int .i64 0), (.int .i64 0)] S)
theorem e358 (N : Nat) (κ : Oracles) (v0 : AV) (S : St) : runF (Cs N) κ false 358 [v0] S = s358 N κ v0 S := by kernel_rfl
/- sacristan/spec.Check$4 -/
def s359 (N : Nat) (κ : Oracles) (v0 : AV) (S : St) : R :=
 bindP (oFieldAddr 5 1 v0) fun x1 =>
 bindP (oLoad 1 false S x1) fun x2 =>
 bindP (oLen S (.slice 134) x2) fun x3 =>
 bindP (bE (eG (some [.i]) false false false x3 (.int .i64 0))) fun x4 =>
 ifA x4
 (some (.ret (.int .i64 2), S))
 (bindP (oFieldAddr 5 1 v0) fun x5 =>
 bindP (oLoad 1 false S x5) fun x6 =>
 bindP (oLen S (.slice 134) x6) fun x7 =>
 bindP (oArith .gtr x7 (.int .i64 4)) fun x8 =>
 ifA x8
 (some (.ret (.int .i64 5), S))
 (some (.ret (.int .i64 0), S)))
theorem e359 (N : Nat) (κ : Oracles) (v0 : AV) (S : St) : runF (Cs N) κ false 359 [v0] S = s359 N κ v0 S := by kernel_rfl
/- sacristan/spec.Check$5 -/
def s360 (N : Nat) (κ : Oracles) (v0 : AV) (S : St) : R :=
 bindP (oFieldAddr 0 5 v0) fun x1 =>
 bindP (oLoad 5 true S x1) fun x2 =>
 bindC (apart κ.toOracle 138 [x2] S) pnA fun x3 S =>
 some (.ret x3, S)
theorem e360 (N : Nat) (κ : Oracles) (v0 : AV) (S : St) : runF (Cs N) κ false 360 [v0] S = s360 N κ v0 S := by kernel_rfl
/- sacristan/spec.Check$6 -/
def s361 (N : Nat) (κ : Oracles) (v0 : AV) (S : St) : R :=
 bindP (oFieldAddr 5 1 v0) fun x1 =>
 bindP (oLoad 1 false S x1) fun x2 =>
 bindC (apart κ.toOracle 79 [x2, (.int .i64 0), (.int .i64 1000)] S) pnA fun x3 S =>
 some (.ret x3, S)
theorem e361 (N : Nat) (κ : Oracles) (v0 : AV) (S : St) : runF (Cs N) κ false 361 [v0] S = s361 N κ v0 S := by kernel_rfl
/- sacristan/task.Check -/
def s362 (N : Nat) (κ : Oracles) (v0 : AV) (S : St) : R :=
 bindC (oBox S v0) pnA fun x1 S =>
 bindP (oFieldAddr 0 1 x1) fun x2 =>
 bindP (oLoad 1 false S x2) fun x3 =>
 bindP (oArith .leq x3 (.int .u8 7)) fun x4 =>
 bindP (guardP x4 true (oFieldAddr 1 1 x1)) fun x5 =>
 bindP (guardP x4 true (oLoad 1 false S x5)) fun x6 =>
 bindC (guardC x4 true S (apart κ.toOracle 409 [x6, (.int .i64 0), (.int .i64 1099511627776)] S)) pnA fun x7 S =>
 bindP (oPick x4 x7 (.bool false)) fun x8 =>
 bindP (guardP x8 true (oFieldAddr 7 1 x1)) fun x9 =>
 bindP (guardP x8 true (oLoad 1 false S x9)) fun x10 =>
 bindP (guardP x8 true (oLen S (.slice 3) x10)) fun x11 =>
 bindP (guardP x8 true (oArith .leq x11 (.int .i64 8))) fun x12 =>
 bindP (oPick x8 x12 (.bool false)) fun x13 =>
 bindP (guardP x13 true (oFieldAddr 7 1 x1)) fun x14 =>
 bindP (guardP x13 true (oLoad 1 false S x14)) fun x15 =>
 bindP (guardP x13 true (oLen S (.slice 3) x15)) fun x16 =>
 bindP (guardP x13 true (bE (eG (some [.i]) false false false x16 (.int .i64 0)))) fun x17 =>
 bindP (guardP x13 true (oFieldAddr 1 1 x1)) fun x18 =>
 bindP (guardP x13 true (oLoad 1 false S x18)) fun x19 =>
 bindP (guardP x13 true (bE (eG (some [.i]) false false false x19 (.int .i64 0)))) fun x20 =>
 bindP (guardP x13 true (bE (eG (some [.b]) false false true x17 x20))) fun x21 =>
 bindP (oPick x13 x21 (.bool false)) fun x22 =>
 bindP (oFieldAddr 7 1 x1) fun x23 =>
 bindP (oLoad 1 false S x23) fun x24 =>
 bindP (oLen S (.slice 3) x24) fun x25 =>
 loop1 (fun vals S1 k26 =>
 let S := gcHead false S.objs.length [] vals S1;
 let x27 := vals.getD 0 .junk;
 let x28 := vals.getD 1 .junk;
 bindP (oArith .lss x28 x25) fun x29 =>
 ifA x29
 (bindP (oIndexAddrS 1 x24 x28) fun x30 =>
 bindP (oLoad 1 false S x30) fun x31 =>
 bindP (guardP x27 true (some x31)) fun x32 =>
 bindC (guardC x27 true S (apart κ.toOracle 409 [x32, (.int .i64 0), (.int .i64 1099511627776)] S)) pnA fun x33 S =>
 bindP (oPick x27 x33 (.bool false)) fun x34 =>
 bindP (guardP x34 true (some x28)) fun x35 =>
 bindP (guardP x34 true (bE (eG (some [.i]) false false false x35 (.int .i64 0)))) fun x36 =>
 bindP (guardP x34 true (some x36)) fun x37 =>
 bindP (guardP x37 false (some x31)) fun x38 =>
 bindP (guardP x37 false (oFieldAddr 7 1 x1)) fun x39 =>
 bindP (guardP x37 false (oLoad 1 false S x39)) fun x40 =>
 bindP (guardP x37 false (some x28)) fun x41 =>
 bindP (guardP x37 false (oArith .sub x41 (.int .i64 1))) fun x42 =>
 bindP (guardP x37 false (oIndexAddrS 1 x40 x42)) fun x43 =>
 bindP (guardP x37 false (oLoad 1 false S x43)) fun x44 =>
 bindP (guardP x37 false (oArith .geq x38 x44)) fun x45 =>
 bindP (guardP x34 true (oPick x37 (.bool true) x45)) fun x46 =>
 bindP (oPick x34 x46 (.bool false)) fun x47 =>
 bindP (oArith .add x28 (.int .i64 1)) fun x48 =>
 bif sameD [] [] then k26 [x47, x48] S else none)
 (let j49 : List AV → St → R := (fun vals S =>
 let x50 := vals.getD 0 .junk;
 let j51 : List AV → St → R := (fun vals S =>
 let x52 := vals.getD 0 .junk;
 bindP (oFieldAddr 0 1 x1) fun x53 =>
 bindP (oLoad 1 false S x53) fun x54 =>
 bindP (bE (eG (some [.i]) false false false x54 (.int .u8 2))) fun x55 =>
 bindP (guardP x55 false (oFieldAddr 0 1 x1)) fun x56 =>
 bindP (guardP x55 false (oLoad 1 false S x56)) fun x57 =>
 bindP (guardP x55 false (bE (eG (some [.i]) false false false x57 (.int .u8 4)))) fun x58 =>
 bindP (oPick x55 (.bool true) x58) fun x59 =>
 bindP (guardP x59 false (oFieldAddr 0 1 x1)) fun x60 =>
 bindP (guardP x59 false (oLoad 1 false S x60)) fun x61 =>
 bindP (guardP x59 false (bE (eG (some [.i]) false false false x61 (.int .u8 5)))) fun x62 =>
 bindP (oPick x59 (.bool true) x62) fun x63 =>
 bindP (guardP x52 true (oFieldAddr 2 1 x1)) fun x64 =>
 bindP (guardP x52 true (oLoad 1 false S x64)) fun x65 =>
 bindP (guardP x52 true (some x63)) fun x66 =>
 bindC (guardC x52 true S (apart κ.toOracle 410 [x65, (.int .i64 1099511627776), x66] S)) pnA fun x67 S =>
 bindP (oPick x52 x67 (.bool false)) fun x68 =>
 bindP (guardP x68 true (oFieldAddr 3 1 x1)) fun x69 =>
 bindP (guardP x68 true (oLoad 1 false S x69)) fun x70 =>
 bindP (guardP x68 true (some x63)) fun x71 =>
 bindC (guardC x68 true S (apart κ.toOracle 410 [x70, (.int .i64 1099511627776), x71] S)) pnA fun x72 S =>
 bindP (oPick x68 x72 (.bool false)) fun x73 =>
 bindP (guardP x73 true (oFieldAddr 4 1 x1)) fun x74 =>
 bindP (guardP x73 true (oLoad 1 false S x74)) fun x75 =>
 bindP (guardP x73 true (oFieldAddr 0 1 x1)) fun x76 =>
 bindP (guardP x73 true (oLoad 1 false S x76)) fun x77 =>
 bindP (guardP x73 true (bE (eG (some [.i]) false false false x77 (.int .u8 3)))) fun x78 =>
 bindC (guardC x73 true S (apart κ.toOracle 410 [x75, (.int .i64 2199023255552), x78] S)) pnA fun x79 S =>
 bindP (oPick x73 x79 (.bool false)) fun x80 =>
 bindP (guardP x80 true (oFieldAddr 5 1 x1)) fun x81 =>
 bindP (guardP x80 true (oLoad 1 false S x81)) fun x82 =>
 bindP (guardP x80 true (oFieldAddr 0 1 x1)) fun x83 =>
 bindP (guardP x80 true (oLoad 1 false S x83)) fun x84 =>
 bindP (guardP x80 true (bE (eG (some [.i]) false false false x84 (.int .u8 4)))) fun x85 =>
 bindC (guardC x80 true S (apart κ.toOracle 410 [x82, (.int .i64 2199023255552), x85] S)) pnA fun x86 S =>
 bindP (oPick x80 x86 (.bool false)) fun x87 =>
 bindP (oUn .not x87) fun x88 =>
 ifA x88
 (some (.ret (.int .i64 2), S))
 (some (.ret (.int .i64 0), S)));
 bindP (oFieldAddr 1 1 x1) fun x89 =>
 bindP (oLoad 1 false S x89) fun x90 =>
 bindP (bE (eG (some [.i]) false false false x90 (.int .i64 0))) fun x91 =>
 ifA x91
 (bindP (guardP x50 true (oFieldAddr 0 1 x1)) fun x92 =>
 bindP (guardP x50 true (oLoad 1 false S x92)) fun x93 =>
 bindP (guardP x50 true (bE (eG (some [.i]) false false false x93 (.int .u8 0)))) fun x94 =>
 bindP (guardP x50 true (some x94)) fun x95 =>
 bindP (guardP x95 false (oFieldAddr 0 1 x1)) fun x96 =>
 bindP (guardP x95 false (oLoad 1 false S x96)) fun x97 =>
 bindP (guardP x95 false (bE (eG (some [.i]) false false false x97 (.int .u8 6)))) fun x98 =>
 bindP (guardP x50 true (oPick x95 (.bool true) x98)) fun x99 =>
 bindP (oPick x50 x99 (.bool false)) fun x100 =>
 bif sameD [] [] then Join j51 [x100] S else none)
 (bif sameD [] [] then Join j51 [x50] S else none));
 bindP (oFieldAddr 0 1 x1) fun x101 =>
 bindP (oLoad 1 false S x101) fun x102 =>
 bindP (bE (eG (some [.i]) false false false x102 (.int .u8 0))) fun x103 =>
 ifA x103
 (bindP (guardP x27 true (oFieldAddr 1 1 x1)) fun x104 =>
 bindP (guardP x27 true (oLoad 1 false S x104)) fun x105 =>
 bindP (guardP x27 true (bE (eG (some [.i]) false false false x105 (.int .i64 0)))) fun x106 =>
 bindP (oPick x27 x106 (.bool false)) fun x107 =>
 bindP (guardP x107 true (oFieldAddr 6 1 x1)) fun x108 =>
 bindP (guardP x107 true (oLoad 1 false S x108)) fun x109 =>
 bindP (guardP x107 true (bE (eG (some [.i]) false false false x109 (.int .i64 0)))) fun x110 =>
 bindP (oPick x107 x110 (.bool false)) fun x111 =>
 bif sameD [] [] then Join j49 [x111] S else none)
 (bif sameD [] [] then Join j49 [x27] S else none))) N [x22, (.int .i64 0)] S
theorem e362 (N : Nat) (κ : Oracles) (v0 : AV) (S : St) : runF (Cs N) κ false 362 [v0] S = s362 N κ v0 S := by kernel_rfl
/- sacristan/ports.Union -/
def s363 (N : Nat) (κ : Oracles) (v0 : AV) (S : St) : R :=
 bindC (callN κ.toOracle 197 [v0] S) pnA fun x1 S =>
 bindC (callN κ.toOracle 199 [x1] S) pnA fun x2 S =>
 bindC (callN κ.toOracle 198 [x2] S) pnA fun x3 S =>
 some (.ret x3, S)
theorem e363 (N : Nat) (κ : Oracles) (v0 : AV) (S : St) : runF (Cs N) κ false 363 [v0] S = s363 N κ v0 S := by kernel_rfl
/- (*sacristan/spec.reader).num -/
def s364 (N : Nat) (κ : Oracles) (v0 v1 : AV) (S : St) : R :=
 bindP (oNilC v0) fun x1 =>
 bindP (oFieldAddr 0 1 x1) fun x2 =>
 bindP (oLoad 1 false S x2) fun x3 =>
 bindC (apart κ.toOracle 209 [x3] S) pnA fun x4 S =>
 bindP (oExt x4 0) fun x5 =>
 bindP (oExt x4 1) fun x6 =>
 bindP (oExt x4 2) fun x7 =>
 let j8 : List AV → St → R := (fun vals S =>
 bindP (oNilC v0) fun x9 =>
 bindP (oFieldAddr 0 1 x9) fun x10 =>
 bindC (ok (oStore 1 S x10 x6)) pnA fun _ S =>
 bindP (cII .i64 x5) fun x11 =>
 some (.ret x11, S));
 bindP (bN (eG (some [.i]) false false false x7 (.int .i64 0))) fun x12 =>
 bindP (guardP x12 false (some x5)) fun x13 =>
 bindP (guardP x12 false (some v1)) fun x14 =>
 bindP (guardP x12 false (cII .u64 x14)) fun x15 =>
 bindP (guardP x12 false (oArith .gtr x13 x15)) fun x16 =>
 bindP (oPick x12 (.bool true) x16) fun x17 =>
 ifA x17
 (bindP (mkI 36 (.int .i64 4)) fun x18 =>
 bindC (oPan S x18) pnA fun _ S =>
 bif sameD [] [] then Join j8 [] S else none)
 (bif sameD [] [] then Join j8 [] S else none)
theorem e364 (N : Nat) (κ : Oracles) (v0 v1 : AV) (S : St) : runF (Cs N) κ false 364 [v0, v1] S = s364 N κ v0 v1 S := by kernel_rfl
/- slices.Equal[[]int,int] -/
def s365 (N : Nat) (κ : Oracles) (v0 v1 : AV) (S : St) : R :=
 bindP (oLen S (.slice 3) v0) fun x1 =>
 bindP (oLen S (.slice 3) v1) fun x2 =>
 bindP (bN (eG (some [.i]) false false false x1 x2)) fun x3 =>
 ifA x3
 (some (.ret (.bool false), S))
 (bindP (oLen S (.slice 3) v0) fun x4 =>
 loop1 (fun vals S1 k5 =>
 let S := gcHead false S.objs.length [] vals S1;
 let x6 := vals.getD 0 .junk;
 let x7 := vals.getD 1 .junk;
 bindP (oArith .lss x7 x4) fun x8 =>
 ifA x8
 (bindP (oIndexAddrS 1 v0 x7) fun x9 =>
 bindP (oLoad 1 false S x9) fun x10 =>
 bindP (oIndexAddrS 1 v1 x7) fun x11 =>
 bindP (oLoad 1 false S x11) fun x12 =>
 bindP (bN (eG (some [.i]) false false false x10 x12)) fun x13 =>
 bif true then
 (let S := S;
 ifA x13
 (some (.ret (.bool false), S))
 (bindP (oArith .add x7 (.int .i64 1)) fun x14 =>
 bif sameD [] [] then k5 [x6, x14] S else none))
 else none)
 (some (.ret (.bool true), S))) N [(.bool false), (.int .i64 0)] S)
theorem e365 (N : Nat) (κ : Oracles) (v0 v1 : AV) (S : St) : runF (Cs N) κ false 365 [v0, v1] S = s365 N κ v0 v1 S := by kernel_rfl
/- slices.Equal[[]sacristan/api.TaskSpec,sacristan/api.TaskSpec] -/
def s366 (N : Nat) (κ : Oracles) (v0 v1 : AV) (S : St) : R :=
 bindP (oLen S (.slice 134) v0) fun x1 =>
 bindP (oLen S (.slice 134) v1) fun x2 =>
 bindP (bN (eG (some [.i]) false false false x1 x2)) fun x3 =>
 ifA x3
 (some (.ret (.bool false), S))
 (bindP (oLen S (.slice 134) v0) fun x4 =>
 loop1 (fun vals S1 k5 =>
 let S := gcHead false S.objs.length [] vals S1;
 let x6 := vals.getD 0 .junk;
 let x7 := vals.getD 1 .junk;
 bindP (oArith .lss x7 x4) fun x8 =>
 ifA x8
 (bindP (oIndexAddrS 6 v0 x7) fun x9 =>
 bindP (oLoad 6 true S x9) fun x10 =>
 bindP (oIndexAddrS 6 v1 x7) fun x11 =>
 bindP (oLoad 6 true S x11) fun x12 =>
 bindP (bN (eG (some [.b, .i, .i, .i, .i, .i]) true false false x10 x12)) fun x13 =>
 bif true then
 (let S := S;
 ifA x13
 (some (.ret (.bool false), S))
 (bindP (oArith .add x7 (.int .i64 1)) fun x14 =>
 bif sameD [] [] then k5 [x6, x14] S else none))
 else none)
 (some (.ret (.bool true), S))) N [(.bool false), (.int .i64 0)] S)
theorem e366 (N : Nat) (κ : Oracles) (v0 v1 : AV) (S : St) : runF (Cs N) κ false 366 [v0, v1] S = s366 N κ v0 v1 S := by kernel_rfl
/- slices.ContainsFunc[[]sacristan/api.Alloc,sacristan/api.Alloc] -/
def s367 (N : Nat) (κ : Oracles) (v0 v1 : AV) (S : St) : R :=
 bindC (callN κ.toOracle 193 [v0, v1] S) pnA fun x1 S =>
 bindP (oArith .geq x1 (.int .i64 0)) fun x2 =>
 some (.ret x2, S)
theorem e367 (N : Nat) (κ : Oracles) (v0 v1 : AV) (S : St) : runF (Cs N) κ false 367 [v0, v1] S = s367 N κ v0 v1 S := by kernel_rfl
/- (*sacristan/state.node).one -/
def s371 (N : Nat) (κ : Oracles) (v0 v1 : AV) (S : St) : R :=
 bindC (oBox S v1) pnA fun x1 S =>
 bindP (oNilC v0) fun x2 =>
 bindP (oFieldAddr 11 5 x2) fun x3 =>
 bindP (oLoad 5 true S x3) fun x4 =>
 bindP (oFieldAddr 8 1 x1) fun x5 =>
 bindP (oLoad 1 false S x5) fun x6 =>
 bindC (apart κ.toOracle 132 [x4, x6] S) (fun _ _ => none) fun x7 S8 =>
 bif true then
 (let S := S8;
 bindP (oArith .lss x7 (.int .i64 0)) fun x9 =>
 ifA x9
 (some (.ret (.tup [.nilptr, .nilptr, (.int .i64 6)]), S))
 (bindP (oNilC v0) fun x10 =>
 bindP (oFieldAddr 11 5 x10) fun x11 =>
 bindP (oFieldAddr 4 1 x11) fun x12 =>
 bindP (oLoad 1 false S x12) fun x13 =>
 bindP (oIndexAddrS 10 x13 x7) fun x14 =>
 bindP (oFieldAddr 9 1 x1) fun x15 =>
 bindP (oLoad 1 false S x15) fun x16 =>
 bindP (oArith .lss x16 (.int .i64 0)) fun x17 =>
 bindP (guardP x17 false (oFieldAddr 9 1 x1)) fun x18 =>
 bindP (guardP x17 false (oLoad 1 false S x18)) fun x19 =>
 bindP (guardP x17 false (some x14)) fun x20 =>
 bindP (guardP x17 false (oNilC x20)) fun x21 =>
 bindP (guardP x17 false (oFieldAddr 9 1 x21)) fun x22 =>
 bindP (guardP x17 false (oLoad 1 false S x22)) fun x23 =>
 bindP (guardP x17 false (oLen S (.slice 52) x23)) fun x24 =>
 bindP (guardP x17 false (oArith .geq x19 x24)) fun x25 =>
 bindP (oPick x17 (.bool true) x25) fun x26 =>
 bif true then
 (let S := S;
 ifA x26
 (some (.ret (.tup [.nilptr, .nilptr, (.int .i64 3)]), S))
 (bindP (oNilC x14) fun x27 =>
 bindP (oFieldAddr 9 1 x27) fun x28 =>
 bindP (oLoad 1 false S x28) fun x29 =>
 bindP (oFieldAddr 9 1 x1) fun x30 =>
 bindP (oLoad 1 false S x30) fun x31 =>
 bindP (oIndexAddrS 8 x29 x31) fun x32 =>
 bif true then
 (let S := S;
 some (.ret (.tup [x14, x32, (.int .i64 0)]), S))
 else none))
 else none))
 else none
theorem e371 (N : Nat) (κ : Oracles) (v0 v1 : AV) (S : St) : runF (Cs N) κ false 371 [v0, v1] S = s371 N κ v0 v1 S := by kernel_rfl
/- sacristan/task.Intent -/
def s372 (N : Nat) (κ : Oracles) (v0 v1 v2 v3 : AV) (S : St) : R :=
 bindC (oBox S v0) pnA fun x1 S =>
 bindC (oBox S v1) pnA fun x2 S =>
 bindC (oAl S [.int .u8 0, .int .i64 0, .int .i64 0, .int .i64 0, .int .i64 0, .int .i64 0, .int .i64 0, .lst .nil 0 []]) pnA fun x3 S =>
 bindP (oLoad 8 true S x1) fun x4 =>
 bindP (oLoad 5 true S x2) fun x5 =>
 bindP (oFill (plS [(0, 5), (5, 1), (6, 1)]) [.bool false, .int .i64 0, .int .i64 0, .int .i64 0, .int .i64 0, .int .i64 0, .int .i64 0] [(0, x5), (1, v2), (2, v3)]) fun x6 =>
 bindC (callN κ.toOracle 415 [x4, x6, (.func 416 [] []), (.func 417 [] [])] S) pnA fun x7 S =>
 bindP (oExt x7 0) fun x8 =>
 bindP (oExt x7 1) fun x9 =>
 bindC (ok (oStore 8 S x3 x8)) pnA fun _ S =>
 (resA [(oLoad 8 true S x3), (some x9)]).map fun vs => (.ret (packV vs), S)
theorem e372 (N : Nat) (κ : Oracles) (v0 v1 v2 v3 : AV) (S : St) : runF (Cs N) κ false 372 [v0, v1, v2, v3] S = s372 N κ v0 v1 v2 v3 S := by kernel_rfl
/- sacristan/task.Handle -/
def s373 (N : Nat) (κ : Oracles) (v0 v1 v2 : AV) (S : St) : R :=
 bindC (oBox S v0) pnA fun x1 S =>
 bindC (oAl S [.int .u8 0, .int .i64 0, .int .i64 0, .int .i64 0, .int .i64 0, .int .i64 0, .int .i64 0, .lst .nil 0 []]) pnA fun x2 S =>
 bindP (oLoad 8 true S x1) fun x3 =>
 bindP (oFill (plA 1) [.int .i64 0, .int .i64 0] [(0, v1), (1, v2)]) fun x4 =>
 bindC (callN κ.toOracle 420 [x3, x4, (.func 421 [] []), (.func 422 [] [])] S) pnA fun x5 S =>
 bindP (oExt x5 0) fun x6 =>
 bindP (oExt x5 1) fun x7 =>
 bindC (ok (oStore 8 S x2 x6)) pnA fun _ S =>
 (resA [(oLoad 8 true S x2), (some x7)]).map fun vs => (.ret (packV vs), S)
theorem e373 (N : Nat) (κ : Oracles) (v0 v1 v2 : AV) (S : St) : runF (Cs N) κ false 373 [v0, v1, v2] S = s373 N κ v0 v1 v2 S := by kernel_rfl
/- sacristan/task.Exit -/
def s376 (N : Nat) (κ : Oracles) (v0 v1 v2 v3 v4 : AV) (S : St) : R :=
 bindC (oBox S v0) pnA fun x1 S =>
 bindC (oBox S v1) pnA fun x2 S =>
 bindC (oAl S [.int .u8 0, .int .i64 0, .int .i64 0, .int .i64 0, .int .i64 0, .int .i64 0, .int .i64 0, .lst .nil 0 []]) pnA fun x3 S =>
 bindP (oLoad 8 true S x1) fun x4 =>
 bindP (oLoad 5 true S x2) fun x5 =>
 bindP (oFill (plS [(0, 5), (5, 1), (6, 1), (7, 1)]) [.bool false, .int .i64 0, .int .i64 0, .int .i64 0, .int .i64 0, .bool false, .int .i64 0, .int .i64 0] [(0, x5), (1, v2), (2, v3), (3, v4)]) fun x6 =>
 bindC (callN κ.toOracle 426 [x4, x6, (.func 427 [] []), (.func 428 [] [])] S) pnA fun x7 S =>
 bindP (oExt x7 0) fun x8 =>
 bindP (oExt x7 1) fun x9 =>
 bindC (ok (oStore 8 S x3 x8)) pnA fun _ S =>
 (resA [(oLoad 8 true S x3), (some x9)]).map fun vs => (.ret (packV vs), S)
theorem e376 (N : Nat) (κ : Oracles) (v0 v1 v2 v3 v4 : AV) (S : St) : runF (Cs N) κ false 376 [v0, v1, v2, v3, v4] S = s376 N κ v0 v1 v2 v3 v4 S := by kernel_rfl
/- sacristan/plan.there -/
def s377 (N : Nat) (κ : Oracles) (v0 v1 v2 : AV) (S : St) : R :=
 bindC (oBox S v0) pnA fun x1 S =>
 bindP (oArith .geq v1 (.int .i64 0)) fun x2 =>
 bindP (guardP x2 true (some v1)) fun x3 =>
 bindP (guardP x2 true (oFieldAddr 4 1 x1)) fun x4 =>
 bindP (guardP x2 true (oLoad 1 false S x4)) fun x5 =>
 bindP (guardP x2 true (oLen S (.slice 58) x5)) fun x6 =>
 bindP (guardP x2 true (oArith .lss x3 x6)) fun x7 =>
 bindP (oPick x2 x7 (.bool false)) fun x8 =>
 bindP (guardP x8 true (some v2)) fun x9 =>
 bindP (guardP x8 true (oArith .geq x9 (.int .i64 0))) fun x10 =>
 bindP (oPick x8 x10 (.bool false)) fun x11 =>
 bindP (guardP x11 true (some v2)) fun x12 =>
 bindP (guardP x11 true (oFieldAddr 4 1 x1)) fun x13 =>
 bindP (guardP x11 true (oLoad 1 false S x13)) fun x14 =>
 bindP (guardP x11 true (some v1)) fun x15 =>
 bindP (guardP x11 true (oIndexAddrS 10 x14 x15)) fun x16 =>
 bindP (guardP x11 true (oFieldAddr 9 1 x16)) fun x17 =>
 bindP (guardP x11 true (oLoad 1 false S x17)) fun x18 =>
 bindP (guardP x11 true (oLen S (.slice 52) x18)) fun x19 =>
 bindP (guardP x11 true (oArith .lss x12 x19)) fun x20 =>
 bindP (oPick x11 x20 (.bool false)) fun x21 =>
 some (.ret x21, S)
theorem e377 (N : Nat) (κ : Oracles) (v0 v1 v2 : AV) (S : St) : runF (Cs N) κ false 377 [v0, v1, v2] S = s377 N κ v0 v1 v2 S := by kernel_rfl
/- sacristan/lease.Over -/
def s378 (N : Nat) (κ : Oracles) (v0 v1 v2 : AV) (S : St) : R :=
 bindC (oBox S v0) pnA fun x1 S =>
 bindP (oLoad 11 true S x1) fun x2 =>
 bindC (callN κ.toOracle 304 [(.func 429 [] []), x2, v1, v2] S) pnA fun x3 S =>
 bindP (oExt x3 0) fun x4 =>
 bindP (oExt x3 1) fun x5 =>
 some (.ret (.tup [x4, x5]), S)
theorem e378 (N : Nat) (κ : Oracles) (v0 v1 v2 : AV) (S : St) : runF (Cs N) κ false 378 [v0, v1, v2] S = s378 N κ v0 v1 v2 S := by kernel_rfl
/- sacristan/plan.rules -/
def s379 (N : Nat) (κ : Oracles) (S : St) : R :=
 bindP (oFill (plS [(0, 1), (1, 1)]) [.int .u8 0, .int .i64 0] []) fun x1 =>
 bindC (oAl S [.int .u8 0, .int .i64 0]) pnA fun x2 S =>
 bindC (ok (oStore 2 S x2 x1)) pnA fun _ S =>
 bindP (some (.func 430 [] [x2])) fun x3 =>
 bindC (oAl S [.nilfunc]) pnA fun x4 S =>
 bindC (ok (oStore 1 S x4 (.func 433 [] []))) pnA fun _ S =>
 bindC (oMM S) pnA fun x5 S =>
 bindC (ok (oMUp (some [.i]) false S x5 (.int .u8 0) x3)) pnA fun _ S =>
 bindC (ok (oMUp (some [.i]) false S x5 (.int .u8 3) x3)) pnA fun _ S =>
 bindP (some (.func 434 [] [x4])) fun x6 =>
 bindC (callD κ.toOracle 379 (.func 431 [] []) [x6] S) pnA fun x7 S =>
 bindC (ok (oMUp (some [.i]) false S x5 (.int .u8 1) x7)) pnA fun _ S =>
 bindP (some (.func 435 [] [x4])) fun x8 =>
 bindC (callD κ.toOracle 379 (.func 431 [] []) [x8] S) pnA fun x9 S =>
 bindC (ok (oMUp (some [.i]) false S x5 (.int .u8 2) x9)) pnA fun _ S =>
 bindP (some (.func 436 [] [x4])) fun x10 =>
 bindC (callD κ.toOracle 379 (.func 431 [] []) [x10] S) pnA fun x11 S =>
 bindC (ok (oMUp (some [.i]) false S x5 (.int .u8 4) x11)) pnA fun _ S =>
 bindP (some (.func 437 [] [x4])) fun x12 =>
 bindC (callD κ.toOracle 379 (.func 431 [] []) [x12] S) pnA fun x13 S =>
 bindC (ok (oMUp (some [.i]) false S x5 (.int .u8 5) x13)) pnA fun _ S =>
 some (.ret x5, S)
theorem e379 (N : Nat) (κ : Oracles) (S : St) : runF (Cs N) κ false 379 [] S = s379 N κ S := by kernel_rfl
/- (*sacristan/agent.Agent).nothing -/
def s380 (N : Nat) (κ : Oracles) (v0 v1 : AV) (S : St) : R :=
 bindC (oBox S v1) pnA fun x1 S =>
 some (.ret (.int .i64 0), S)
theorem e380 (N : Nat) (κ : Oracles) (v0 v1 : AV) (S : St) : runF (Cs N) κ false 380 [v0, v1] S = s380 N κ v0 v1 S := by kernel_rfl
/- (*sacristan/agent.Agent).start -/
def s381 (N : Nat) (κ : Oracles) (v0 v1 : AV) (S : St) : R :=
 bindC (oBox S v1) pnA fun x1 S =>
 bindP (oLoad 24 true S x1) fun x2 =>
 bindC (callN κ.toOracle 438 [v0, x2] S) pnA fun x3 S =>
 bindP (oExt x3 0) fun x4 =>
 bindP (oExt x3 1) fun x5 =>
 bindP (oUn .not x4) fun x6 =>
 ifA x6
 (some (.ret x5, S))
 (bindC (oAl S [.int .i64 0, .int .i64 0, .int .i64 0, .int .i64 0, .lst .nil 0 [], .lst .nil 0 [], .int .i64 0, .int .i64 0, .bool false, .lst .nil 0 []]) (fun _ _ => none) fun x7 S =>
 bindP (oNilC v0) fun x8 =>
 bindP (oFieldAddr 0 1 x8) fun x9 =>
 bindP (oLoad 1 false S x9) fun x10 =>
 bindC (callN κ.toOracle 108 [x10] S) (fun v Sx => bif (true && true) && (rfA (oFieldAddr 0 1 x1) fun x13 => false) then pnA v Sx else none) fun x11 S12 =>
 bindP (oField 4 1 false x11) fun x14 =>
 bindP (oFieldAddr 0 1 x1) fun x15 =>
 bindP (oLoad 1 false S12 x15) fun x16 =>
 bindP (oIndexAddrS 10 x14 x16) fun x17 =>
 bindP (oLoad 10 true S12 x17) fun x18 =>
 bindC (ok (oStore 10 S12 x7 x18)) (fun v Sx => bif (true && ((true && true) && (((false || (chkA (oLoad 1 false S x15) x16 && chkA (oLoad 1 false S12 x15) x16)) && true) && ((true && true) && true)))) && true then pnA v Sx else none) fun _ S19 =>
 bif ((true && (true && true)) && ((true && ((false || (chkA (oLoad 1 false S x15) x16 && chkA (oLoad 1 false S12 x15) x16)) && true)) && ((true && (true && true)) && true))) then
 (let S := S19;
 bindC (oAl S [.int .i64 0, .int .i64 0, .int .i64 0, .int .i64 0, .int .i64 0, .bool false, .bool false, .bool false, .int .i64 0]) (fun _ _ => none) fun x20 S =>
 bindP (oNilC v0) fun x21 =>
 bindP (oFieldAddr 12 1 x21) fun x22 =>
 bindP (oLoad 1 false S x22) fun x23 =>
 bindC (callN κ.toOracle 40 [x23] S) (fun v Sx => bif (true && true) && (rfA (oFieldAddr 0 6 x7) fun x26 => (rfA (oFieldAddr 0 1 x26) fun x27 => false)) then pnA v Sx else none) fun x24 S25 =>
 bindP (oFieldAddr 0 6 x7) fun x28 =>
 bindP (oFieldAddr 0 1 x28) fun x29 =>
 bindP (oLoad 1 false S25 x29) fun x30 =>
 bindP (oFieldAddr 1 1 x1) fun x31 =>
 bindP (oLoad 1 false S25 x31) fun x32 =>
 bindP (oFieldAddr 9 1 x7) fun x33 =>
 bindP (oLoad 1 false S25 x33) fun x34 =>
 bindP (oFieldAddr 1 1 x1) fun x35 =>
 bindP (oLoad 1 false S25 x35) fun x36 =>
 bindP (oIndexAddrS 8 x34 x36) fun x37 =>
 bindP (oFieldAddr 1 1 x37) fun x38 =>
 bindP (oLoad 1 false S25 x38) fun x39 =>
 bindP (oFill (plS [(0, 1), (1, 1), (2, 1)]) [.int .i64 0, .int .i64 0, .int .i64 0] [(0, x30), (1, x32), (2, x39)]) fun x40 =>
 bindC (callN κ.toOracle 439 [x24, x40] S25) (fun v Sx => bif (true && (((false || (chkA (oLoad 1 false S x38) x39 && chkA (oLoad 1 false S25 x38) x39)) && true) && (((false || (chkA (oLoad 1 false S x35) x36 && chkA (oLoad 1 false S25 x35) x36)) && true) && (((false || (chkA (oLoad 1 false S x33) x34 && chkA (oLoad 1 false S25 x33) x34)) && true) && (((false || (chkA (oLoad 1 false S x31) x32 && chkA (oLoad 1 false S25 x31) x32)) && true) && (((false || (chkA (oLoad 1 false S x29) x30 && chkA (oLoad 1 false S25 x29) x30)) && true) && ((true && true) && true))))))) && true then pnA v Sx else none) fun x41 S42 =>
 bindP (oExt x41 0) fun x43 =>
 bindP (oExt x41 1) fun x44 =>
 bindC (ok (oStore 9 S42 x20 x43)) (fun v Sx => bif (true && ((true && ((false || (chkA (oLoad 1 false S x38) x39 && chkA (oLoad 1 false S25 x38) x39)) && true)) && ((true && ((false || (chkA (oLoad 1 false S x35) x36 && chkA (oLoad 1 false S25 x35) x36)) && true)) && ((true && ((false || (chkA (oLoad 1 false S x33) x34 && chkA (oLoad 1 false S25 x33) x34)) && true)) && ((true && ((false || (chkA (oLoad 1 false S x31) x32 && chkA (oLoad 1 false S25 x31) x32)) && true)) && ((true && ((false || (chkA (oLoad 1 false S x29) x30 && chkA (oLoad 1 false S25 x29) x30)) && true)) && ((true && (true && true)) && true))))))) && true then pnA v Sx else none) fun _ S45 =>
 bif ((true && (true && ((false || (chkA (oLoad 1 false S x38) x39 && chkA (oLoad 1 false S25 x38) x39)) && true))) && ((true && (true && ((false || (chkA (oLoad 1 false S x35) x36 && chkA (oLoad 1 false S25 x35) x36)) && true))) && ((true && (true && ((false || (chkA (oLoad 1 false S x33) x34 && chkA (oLoad 1 false S25 x33) x34)) && true))) && ((true && (true && ((false || (chkA (oLoad 1 false S x31) x32 && chkA (oLoad 1 false S25 x31) x32)) && true))) && ((true && (true && ((false || (chkA (oLoad 1 false S x29) x30 && chkA (oLoad 1 false S25 x29) x30)) && true))) && ((true && (true && (true && true))) && true)))))) then
 (let S := S45;
 bindP (bE (eG (some [.i]) false false false x44 (.int .i64 0))) fun x46 =>
 ifA x46
 (bindP (oNilC v0) fun x47 =>
 bindP (oFieldAddr 0 1 x47) fun x48 =>
 bindP (oLoad 1 false S x48) fun x49 =>
 bindP (oFieldAddr 0 6 x7) fun x50 =>
 bindP (oFieldAddr 0 1 x50) fun x51 =>
 bindP (oLoad 1 false S x51) fun x52 =>
 bindP (oFieldAddr 1 1 x1) fun x53 =>
 bindP (oLoad 1 false S x53) fun x54 =>
 bindP (oFieldAddr 0 1 x20) fun x55 =>
 bindP (oLoad 1 false S x55) fun x56 =>
 bindP (oFieldAddr 1 1 x20) fun x57 =>
 bindP (oLoad 1 false S x57) fun x58 =>
 bindP (oFill (plS [(0, 1), (1, 1), (2, 6), (8, 1), (9, 1), (10, 1), (11, 1), (12, 1), (13, 1), (14, 1)]) [.int .u8 0, .int .i64 0, .int .i64 0, .int .i64 0, .int .i64 0, .int .i64 0, .lst .nil 0 [], .lst .nil 0 [], .int .i64 0, .int .i64 0, .int .i64 0, .int .i64 0, .int .i64 0, .int .i64 0, .int .i64 0] [(0, (.int .u8 5)), (3, x52), (4, x54), (7, x56), (8, x58)]) fun x59 =>
 bindC (callN κ.toOracle 183 [x49, x59] S) (fun v Sx => bif (true && true) && true then pnA v Sx else none) fun x60 S61 =>
 bif true then
 (let S := S61;
 some (.ret x60, S))
 else none)
 (bindP (bE (eG (some [.i]) false false false x44 (.int .i64 11))) fun x62 =>
 ifA x62
 (bindP (oNilC v0) fun x63 =>
 bindP (oFieldAddr 0 1 x63) fun x64 =>
 bindP (oLoad 1 false S x64) fun x65 =>
 bindP (oFieldAddr 0 6 x7) fun x66 =>
 bindP (oFieldAddr 0 1 x66) fun x67 =>
 bindP (oLoad 1 false S x67) fun x68 =>
 bindP (oFieldAddr 1 1 x1) fun x69 =>
 bindP (oLoad 1 false S x69) fun x70 =>
 bindP (oFill (plS [(0, 1), (1, 1), (2, 6), (8, 1), (9, 1), (10, 1), (11, 1), (12, 1), (13, 1), (14, 1)]) [.int .u8 0, .int .i64 0, .int .i64 0, .int .i64 0, .int .i64 0, .int .i64 0, .lst .nil 0 [], .lst .nil 0 [], .int .i64 0, .int .i64 0, .int .i64 0, .int .i64 0, .int .i64 0, .int .i64 0, .int .i64 0] [(0, (.int .u8 6)), (3, x68), (4, x70)]) fun x71 =>
 bindC (callN κ.toOracle 183 [x65, x71] S) (fun v Sx => bif (true && true) && true then pnA v Sx else none) fun x72 S73 =>
 bif true then
 (let S := S73;
 some (.ret x72, S))
 else none)
 (some (.ret x44, S))))
 else none)
 else none)
theorem e381 (N : Nat) (κ : Oracles) (v0 v1 : AV) (S : St) : runF (Cs N) κ false 381 [v0, v1] S = s381 N κ v0 v1 S := by kernel_rfl
/- (*sacristan/agent.Agent).note -/
def s382 (N : Nat) (κ : Oracles) (v0 v1 : AV) (S : St) : R :=
 bindC (oBox S v1) pnA fun x1 S =>
 bindP (oLoad 24 true S x1) fun x2 =>
 bindC (callN κ.toOracle 438 [v0, x2] S) pnA fun x3 S =>
 bindP (oExt x3 0) fun x4 =>
 bindP (oExt x3 1) fun x5 =>
 some (.ret x5, S)
theorem e382 (N : Nat) (κ : Oracles) (v0 v1 : AV) (S : St) : runF (Cs N) κ false 382 [v0, v1] S = s382 N κ v0 v1 S := by kernel_rfl
/- sacristan/res.Add -/
def s387 (N : Nat) (κ : Oracles) (v0 v1 : AV) (S : St) : R :=
 bindC (oBox S v0) pnA fun x1 S =>
 bindC (oBox S v1) pnA fun x2 S =>
 bindC (oAl S [.int .i64 0, .int .i64 0, .int .i64 0]) pnA fun x3 S =>
 bindP (oLoad 3 true S x1) fun x4 =>
 bindP (oLoad 3 true S x2) fun x5 =>
 bindC (oBS S 3 [.int .i64 0, .int .i64 0, .int .i64 0] 2 [(0, x4), (1, x5)]) pnA fun x6 S =>
 bindC (apart κ.toOracle 136 [x6] S) pnA fun x7 S =>
 bindP (oExt x7 0) fun x8 =>
 bindP (oExt x7 1) fun x9 =>
 bindC (ok (oStore 3 S x3 x8)) pnA fun _ S =>
 (resA [(oLoad 3 true S x3), (some x9)]).map fun vs => (.ret (packV vs), S)
theorem e387 (N : Nat) (κ : Oracles) (v0 v1 : AV) (S : St) : runF (Cs N) κ false 387 [v0, v1] S = s387 N κ v0 v1 S := by kernel_rfl
/- sacristan/pack.Fixed -/
def s397 (N : Nat) (κ : Oracles) (v0 v1 : AV) (S : St) : R :=
 bindP (oArith .lss v1 (.int .i64 1)) fun x1 =>
 bindP (guardP x1 false (some v1)) fun x2 =>
 bindP (guardP x1 false (oArith .gtr x2 (.int .i64 8))) fun x3 =>
 bindP (oPick x1 (.bool true) x3) fun x4 =>
 ifA x4
 (some (.ret (.tup [(.str []), (.int .i64 2)]), S))
 (bindC (apart κ.toOracle 207 [v0] S) pnA fun x5 S =>
 bindP (oArith .gtr x5 v1) fun x6 =>
 ifA x6
 (some (.ret (.tup [(.str []), (.int .i64 3)]), S))
 (bindC (apart κ.toOracle 208 [v0, v1] S) pnA fun x7 S =>
 some (.ret (.tup [x7, (.int .i64 0)]), S)))
theorem e397 (N : Nat) (κ : Oracles) (v0 v1 : AV) (S : St) : runF (Cs N) κ false 397 [v0, v1] S = s397 N κ v0 v1 S := by kernel_rfl
/- sacristan/crc.More -/
def s398 (N : Nat) (κ : Oracles) (v0 v1 : AV) (S : St) : R :=
 bindP (oUn .xor v0) fun x1 =>
 bindC (oAl S [.int .u32 0]) pnA fun x2 S =>
 bindC (ok (oStore 1 S x2 x1)) pnA fun _ S =>
 bindP (some (.func 441 [] [x2])) fun x3 =>
 bindP (oLen S .string v1) fun x4 =>
 loop1 (fun vals S1 k5 =>
 let S := gcHead false S.objs.length [] vals S1;
 let x6 := vals.getD 0 .junk;
 bindP (oArith .lss x6 x4) fun x7 =>
 ifA x7
 (loop1 (fun vals S1 k8 =>
 let S := gcHead false S.objs.length [] vals S1;
 let x9 := vals.getD 0 .junk;
 bindP (oArith .lss x9 (.int .i64 8)) fun x10 =>
 ifA x10
 (bindP (oIndexStr v1 x6) fun x11 =>
 bindP (cII .u32 x11) fun x12 =>
 bindP (oShiftV .shr x12 x9) fun x13 =>
 bindP (oArith .and x13 (.int .u32 1)) fun x14 =>
 bindC (callD κ.toOracle 398 x3 [x14] S) pnA fun x15 S =>
 bindP (oArith .add x9 (.int .i64 1)) fun x16 =>
 bif sameD [] [] then k8 [x16] S else none)
 (bindP (oArith .add x6 (.int .i64 1)) fun x17 =>
 bif sameD [] [] then k5 [x17] S else none)) N [(.int .i64 0)] S)
 (bindP (oLoad 1 false S x2) fun x18 =>
 bindP (oUn .xor x18) fun x19 =>
 some (.ret x19, S))) N [(.int .i64 0)] S
theorem e398 (N : Nat) (κ : Oracles) (v0 v1 : AV) (S : St) : runF (Cs N) κ false 398 [v0, v1] S = s398 N κ v0 v1 S := by kernel_rfl
/- sacristan/pack.Unfixed -/
def s405 (N : Nat) (κ : Oracles) (v0 : AV) (S : St) : R :=
 bindP (oLen S .string v0) fun x1 =>
 bindP (oArith .lss x1 (.int .i64 1)) fun x2 =>
 bindP (guardP x2 false (some v0)) fun x3 =>
 bindP (guardP x2 false (oLen S .string x3)) fun x4 =>
 bindP (guardP x2 false (oArith .gtr x4 (.int .i64 8))) fun x5 =>
 bindP (oPick x2 (.bool true) x5) fun x6 =>
 ifA x6
 (some (.ret (.tup [(.int .u64 0), (.int .i64 2)]), S))
 (bindC (apart κ.toOracle 275 [v0] S) pnA fun x7 S =>
 some (.ret (.tup [x7, (.int .i64 0)]), S))
theorem e405 (N : Nat) (κ : Oracles) (v0 : AV) (S : St) : runF (Cs N) κ false 405 [v0] S = s405 N κ v0 S := by kernel_rfl
end Go.Sac
