/- Direct forms, printed by mksh.py. -/
import Derived.Test.YtippafigppeblaaGreatSacCfg
import Derived.KernelRfl
namespace Go.Sac
set_option linter.unusedVariables false
set_option maxRecDepth 100000
open Go
/- sacristan/sacristanlaw30.Config -/
def s6 (N : Nat) (κ : Oracles) (S : St) : R :=
 bindC (oAl S [.int .i64 0, .int .i64 0, .int .i64 0, .int .i64 0, .int .i64 0, .int .i64 0, .int .i64 0, .int .i64 0, .int .i64 0, .int .i64 0, .int .i64 0]) pnA fun x1 S =>
 bindP (oFill (plS [(0, 1), (1, 1), (2, 1)]) [.int .i64 0, .int .i64 0, .int .i64 0] [(0, (.int .i64 10)), (1, (.int .i64 10)), (2, (.int .i64 10))]) fun x2 =>
 bindP (oFill (plS [(0, 3), (3, 1), (4, 1), (5, 1), (6, 1), (7, 1), (8, 1), (9, 1), (10, 1)]) [.int .i64 0, .int .i64 0, .int .i64 0, .int .i64 0, .int .i64 0, .int .i64 0, .int .i64 0, .int .i64 0, .int .i64 0, .int .i64 0, .int .i64 0] [(0, x2), (1, (.int .i64 2)), (2, (.int .i64 48)), (3, (.int .i64 2)), (4, (.int .i64 2)), (5, (.int .i64 5)), (6, (.int .i64 10)), (7, (.int .i64 2)), (8, (.int .i64 3))]) fun x3 =>
 bindC (ok (oStore 11 S x1 x3)) pnA fun _ S =>
 (resA [(oLoad 11 true S x1)]).map fun vs => (.ret (packV vs), S)
theorem e6 (N : Nat) (κ : Oracles) (S : St) : runF (Cs N) κ false 6 [] S = s6 N κ S := by kernel_rfl
/- sacristan/sacristanlaw34.Begin -/
def s7 (N : Nat) (κ : Oracles) (S : St) : R :=
 bindC (apart κ.toOracle 30 [] S) pnA fun x1 S =>
 bindP (oFill (plS [(0, 1), (1, 1), (2, 1), (3, 1), (4, 1), (5, 1), (6, 1), (7, 3), (10, 3)]) [.int .u8 0, .int .i64 0, .int .i64 0, .int .i64 0, .int .i64 0, .bool false, .str [], .int .u64 0, .int .i64 0, .int .i64 0, .int .u64 0, .int .i64 0, .int .i64 0] [(0, (.int .u8 3)), (6, x1)]) fun x2 =>
 bindP (oFill (plS [(0, 1), (1, 1), (2, 1), (3, 1), (4, 1), (5, 1), (6, 1), (7, 3), (10, 3)]) [.int .u8 0, .int .i64 0, .int .i64 0, .int .i64 0, .int .i64 0, .bool false, .str [], .int .u64 0, .int .i64 0, .int .i64 0, .int .u64 0, .int .i64 0, .int .i64 0] [(0, (.int .u8 2))]) fun x3 =>
 bindP (oFill (plS [(0, 1), (1, 1), (2, 1), (3, 1), (4, 1), (5, 1), (6, 1), (7, 3), (10, 3)]) [.int .u8 0, .int .i64 0, .int .i64 0, .int .i64 0, .int .i64 0, .bool false, .str [], .int .u64 0, .int .i64 0, .int .i64 0, .int .u64 0, .int .i64 0, .int .i64 0] [(0, (.int .u8 4))]) fun x4 =>
 bindP (oFill (plS [(0, 1), (1, 1), (2, 1), (3, 1), (4, 1), (5, 1), (6, 1), (7, 3), (10, 3)]) [.int .u8 0, .int .i64 0, .int .i64 0, .int .i64 0, .int .i64 0, .bool false, .str [], .int .u64 0, .int .i64 0, .int .i64 0, .int .u64 0, .int .i64 0, .int .i64 0] [(0, (.int .u8 2))]) fun x5 =>
 bindC (oBS S 13 [.int .u8 0, .int .i64 0, .int .i64 0, .int .i64 0, .int .i64 0, .bool false, .str [], .int .u64 0, .int .i64 0, .int .i64 0, .int .u64 0, .int .i64 0, .int .i64 0] 4 [(0, x2), (1, x3), (2, x4), (3, x5)]) pnA fun x6 S =>
 some (.ret x6, S)
theorem e7 (N : Nat) (κ : Oracles) (S : St) : runF (Cs N) κ false 7 [] S = s7 N κ S := by kernel_rfl
/- sacristan/run.All -/
def s8 (N : Nat) (κ : Oracles) (v0 v1 : AV) (S : St) : R :=
 bindC (oBox S v0) pnA fun x1 S =>
 bindP (oLoad 11 true S x1) fun x2 =>
 bindC (apart κ.toOracle 31 [x2] S) pnA fun x3 S =>
 bindP (bN (eG (some [.i]) false false false x3 (.int .i64 0))) fun x4 =>
 ifA x4
 (some (.ret (.tup [(.lst .nil 0 []), (.lst .nil 0 []), x3]), S))
 (bindP (oLen S (.slice 31) v1) fun x5 =>
 bindP (oArith .gtr x5 (.int .i64 4096)) fun x6 =>
 ifA x6
 (some (.ret (.tup [(.lst .nil 0 []), (.lst .nil 0 []), (.int .i64 5)]), S))
 (bindP (oLoad 11 true S x1) fun x7 =>
 bindC (callN κ.toOracle 12 [x7] S) pnA fun x8 S =>
 bindP (oExt x8 0) fun x9 =>
 bindP (oExt x8 1) fun x10 =>
 bindP (bN (eG (some [.i]) false false false x10 (.int .i64 0))) fun x11 =>
 ifA x11
 (some (.ret (.tup [(.lst .nil 0 []), (.lst .nil 0 []), x10]), S))
 (bindC (callN κ.toOracle 14 [x9] S) pnA fun x12 S =>
 bindC (oBS S 14 [.int .i64 0, .bool false, .bool false, .bool false, .int .i64 0, .int .i64 0, .int .i64 0, .int .i64 0, .lst .nil 0 [], .lst .nil 0 [], .lst .nil 0 [], .int .i64 0, .lst .nil 0 [], .lst .nil 0 []] 1 [(0, x12)]) pnA fun x13 S =>
 bindP (oLen S (.slice 31) v1) fun x14 =>
 loop1 (fun vals S1 k15 =>
 let S := gcHead false S.objs.length [] vals S1;
 let x16 := vals.getD 0 .junk;
 let x17 := vals.getD 1 .junk;
 let x18 := vals.getD 2 .junk;
 let x19 := vals.getD 3 .junk;
 let x20 := vals.getD 4 .junk;
 let x21 := vals.getD 5 .junk;
 bindP (oArith .lss x21 x14) fun x22 =>
 ifA x22
 (bindP (oIndexAddrS 13 v1 x21) fun x23 =>
 bindP (oLoad 13 true S x23) fun x24 =>
 bindC (oAl S [.int .u8 0, .int .i64 0, .int .i64 0, .int .i64 0, .int .i64 0, .bool false, .str [], .int .u64 0, .int .i64 0, .int .i64 0, .int .u64 0, .int .i64 0, .int .i64 0]) pnA fun x25 S =>
 bindC (ok (oStore 13 S x25 x24)) pnA fun _ S =>
 bindP (oLoad 13 true S x25) fun x26 =>
 bindC (callN κ.toOracle 11 [x9, x26] S) pnA fun x27 S =>
 bindP (oExt x27 0) fun x28 =>
 bindP (oExt x27 1) fun x29 =>
 bindC (oAl S [.int .u8 0, .lst .nil 0 [], .int .i64 0, .str []]) pnA fun x30 S =>
 bindC (ok (oStore 4 S x30 x28)) pnA fun _ S =>
 bindP (bN (eG (some [.i]) false false false x29 (.int .i64 0))) fun x31 =>
 ifA x31
 (some (.ret (.tup [(.lst .nil 0 []), (.lst .nil 0 []), x29]), S))
 (bindP (oLoad 4 true S x30) fun x32 =>
 bindC (oBS S 4 [.int .u8 0, .lst .nil 0 [], .int .i64 0, .str []] 1 [(0, x32)]) pnA fun x33 S =>
 bindC (oApp false 4 56 S x19 x33) pnA fun x34 S =>
 bindC (callN κ.toOracle 14 [x9] S) pnA fun x35 S =>
 bindC (oBS S 14 [.int .i64 0, .bool false, .bool false, .bool false, .int .i64 0, .int .i64 0, .int .i64 0, .int .i64 0, .lst .nil 0 [], .lst .nil 0 [], .lst .nil 0 [], .int .i64 0, .lst .nil 0 [], .lst .nil 0 []] 1 [(0, x35)]) pnA fun x36 S =>
 bindC (oApp false 14 176 S x20 x36) pnA fun x37 S =>
 bindP (oArith .add x21 (.int .i64 1)) fun x38 =>
 bif sameD [] [] then k15 [x16, x17, x18, x34, x37, x38] S else none))
 (some (.ret (.tup [x19, x20, (.int .i64 0)]), S))) N [(.lst .nil 0 []), (.lst .nil 0 []), (.int .i64 0), (.lst .nil 0 []), x13, (.int .i64 0)] S)))
theorem e8 (N : Nat) (κ : Oracles) (v0 v1 : AV) (S : St) : runF (Cs N) κ false 8 [v0, v1] S = s8 N κ v0 v1 S := by kernel_rfl
/- sacristan/sacristanlaw35.arm -/
def s9 (N : Nat) (κ : Oracles) (v0 : AV) (S : St) : R :=
 bindC (oAl S [.int .u8 0, .int .i64 0, .int .i64 0, .int .i64 0, .int .i64 0, .bool false, .str [], .int .u64 0, .int .i64 0, .int .i64 0, .int .u64 0, .int .i64 0, .int .i64 0]) pnA fun x1 S =>
 bindP (oFill (plS [(0, 1), (1, 1), (2, 1)]) [.int .u64 0, .int .i64 0, .int .i64 0] [(1, (.int .i64 (-1)))]) fun x2 =>
 bindC (oAl S [.int .u64 0, .int .i64 0, .int .i64 0]) pnA fun x3 S =>
 bindC (ok (oStore 3 S x3 x2)) pnA fun _ S =>
 bindP (oLoad 3 true S x3) fun x4 =>
 bindP (oLoad 3 true S x3) fun x5 =>
 bindP (oFill (plS [(0, 1), (1, 1), (2, 1), (3, 1), (4, 1), (5, 1), (6, 1), (7, 3), (10, 3)]) [.int .u8 0, .int .i64 0, .int .i64 0, .int .i64 0, .int .i64 0, .bool false, .str [], .int .u64 0, .int .i64 0, .int .i64 0, .int .u64 0, .int .i64 0, .int .i64 0] [(0, (.int .u8 10)), (1, v0), (7, x4), (8, x5)]) fun x6 =>
 bindC (ok (oStore 13 S x1 x6)) pnA fun _ S =>
 (resA [(oLoad 13 true S x1)]).map fun vs => (.ret (packV vs), S)
theorem e9 (N : Nat) (κ : Oracles) (v0 : AV) (S : St) : runF (Cs N) κ false 9 [v0] S = s9 N κ v0 S := by kernel_rfl
/- sacristan/sacristankit.CopyEvents -/
def s10 (N : Nat) (κ : Oracles) (v0 : AV) (S : St) : R :=
 bindC (oApp true 13 112 S (.lst .nil 0 []) v0) pnA fun x1 S =>
 some (.ret x1, S)
theorem e10 (N : Nat) (κ : Oracles) (v0 : AV) (S : St) : runF (Cs N) κ false 10 [v0] S = s10 N κ v0 S := by kernel_rfl
/- sacristan/run.New -/
def s12 (N : Nat) (κ : Oracles) (v0 : AV) (S : St) : R :=
 bindC (oBox S v0) pnA fun x1 S =>
 bindP (oLoad 11 true S x1) fun x2 =>
 bindC (callN κ.toOracle 47 [x2] S) pnA fun x3 S =>
 bindP (oExt x3 0) fun x4 =>
 bindP (oExt x3 1) fun x5 =>
 bindP (bN (eG (some [.i]) false false false x5 (.int .i64 0))) fun x6 =>
 ifA x6
 (some (.ret (.tup [.nilptr, x5]), S))
 (bindP (oLoad 11 true S x1) fun x7 =>
 bindC (callN κ.toOracle 45 [x7, x4] S) pnA fun x8 S =>
 bindP (oExt x8 0) fun x9 =>
 bindP (oExt x8 1) fun x10 =>
 bindP (bN (eG (some [.i]) false false false x10 (.int .i64 0))) fun x11 =>
 ifA x11
 (some (.ret (.tup [.nilptr, x10]), S))
 (bindP (oLoad 11 true S x1) fun x12 =>
 bindC (callN κ.toOracle 48 [x9] S) (fun v Sx => bif (true && true) && true then pnA v Sx else none) fun x13 S14 =>
 bindP (oFill (plS [(0, 1), (1, 1), (2, 1), (3, 1), (4, 5), (9, 1), (10, 1), (11, 1), (12, 1), (13, 1)]) [.int .i64 0, .bool false, .bool false, .bool false, .int .i64 0, .int .i64 0, .int .i64 0, .int .i64 0, .lst .nil 0 [], .lst .nil 0 [], .lst .nil 0 [], .int .i64 0, .lst .nil 0 [], .lst .nil 0 []] [(1, (.bool true)), (2, (.bool true)), (4, x13), (7, (.int .i64 (-1)))]) fun x15 =>
 bindP (oFill (plS [(0, 11), (11, 1), (12, 1), (13, 1), (14, 14)]) [.int .i64 0, .int .i64 0, .int .i64 0, .int .i64 0, .int .i64 0, .int .i64 0, .int .i64 0, .int .i64 0, .int .i64 0, .int .i64 0, .int .i64 0, .nilptr, .nilptr, .int .i64 0, .int .i64 0, .bool false, .bool false, .bool false, .int .i64 0, .int .i64 0, .int .i64 0, .int .i64 0, .lst .nil 0 [], .lst .nil 0 [], .lst .nil 0 [], .int .i64 0, .lst .nil 0 [], .lst .nil 0 []] [(0, x12), (1, x4), (2, x9), (4, x15)]) fun x16 =>
 bindC (oBox S14 x16) (fun v Sx => bif (true && (((false || (chkA (oLoad 11 true S x1) x12 && chkA (oLoad 11 true S14 x1) x12)) && true) && true)) && true then pnA v Sx else none) fun x17 S18 =>
 bif ((true && ((false || (chkA (oLoad 11 true S x1) x12 && chkA (oLoad 11 true S14 x1) x12)) && true)) && true) then
 (let S := S18;
 some (.ret (.tup [x17, (.int .i64 0)]), S))
 else none))
theorem e12 (N : Nat) (κ : Oracles) (v0 : AV) (S : St) : runF (Cs N) κ false 12 [v0] S = s12 N κ v0 S := by kernel_rfl
/- sacristan/sacristankit.EqualMoment -/
def s13 (N : Nat) (κ : Oracles) (v0 v1 : AV) (S : St) : R :=
 bindC (oBox S v0) pnA fun x1 S =>
 bindC (oBox S v1) pnA fun x2 S =>
 bindP (oFieldAddr 0 1 x1) fun x3 =>
 bindP (oLoad 1 false S x3) fun x4 =>
 bindP (oFieldAddr 0 1 x2) fun x5 =>
 bindP (oLoad 1 false S x5) fun x6 =>
 bindP (bE (eG (some [.i]) false false false x4 x6)) fun x7 =>
 bindP (guardP x7 true (oFieldAddr 1 1 x1)) fun x8 =>
 bindP (guardP x7 true (oLoad 1 false S x8)) fun x9 =>
 bindP (guardP x7 true (oFieldAddr 1 1 x2)) fun x10 =>
 bindP (guardP x7 true (oLoad 1 false S x10)) fun x11 =>
 bindP (guardP x7 true (bE (eG (some [.b]) false false true x9 x11))) fun x12 =>
 bindP (oPick x7 x12 (.bool false)) fun x13 =>
 bindP (guardP x13 true (oFieldAddr 2 1 x1)) fun x14 =>
 bindP (guardP x13 true (oLoad 1 false S x14)) fun x15 =>
 bindP (guardP x13 true (oFieldAddr 2 1 x2)) fun x16 =>
 bindP (guardP x13 true (oLoad 1 false S x16)) fun x17 =>
 bindP (guardP x13 true (bE (eG (some [.b]) false false true x15 x17))) fun x18 =>
 bindP (oPick x13 x18 (.bool false)) fun x19 =>
 bindP (guardP x19 true (oFieldAddr 3 1 x1)) fun x20 =>
 bindP (guardP x19 true (oLoad 1 false S x20)) fun x21 =>
 bindP (guardP x19 true (oFieldAddr 3 1 x2)) fun x22 =>
 bindP (guardP x19 true (oLoad 1 false S x22)) fun x23 =>
 bindP (guardP x19 true (bE (eG (some [.b]) false false true x21 x23))) fun x24 =>
 bindP (oPick x19 x24 (.bool false)) fun x25 =>
 bindP (guardP x25 true (oFieldAddr 11 1 x1)) fun x26 =>
 bindP (guardP x25 true (oLoad 1 false S x26)) fun x27 =>
 bindP (guardP x25 true (oFieldAddr 11 1 x2)) fun x28 =>
 bindP (guardP x25 true (oLoad 1 false S x28)) fun x29 =>
 bindP (guardP x25 true (bE (eG (some [.i]) false false false x27 x29))) fun x30 =>
 bindP (oPick x25 x30 (.bool false)) fun x31 =>
 bindP (guardP x31 true (oFieldAddr 4 5 x1)) fun x32 =>
 bindP (guardP x31 true (oLoad 5 true S x32)) fun x33 =>
 bindP (guardP x31 true (oFieldAddr 4 5 x2)) fun x34 =>
 bindP (guardP x31 true (oLoad 5 true S x34)) fun x35 =>
 bindC (guardC x31 true S (apart κ.toOracle 49 [x33, x35] S)) pnA fun x36 S =>
 bindP (oPick x31 x36 (.bool false)) fun x37 =>
 bindP (guardP x37 true (oFieldAddr 9 1 x1)) fun x38 =>
 bindP (guardP x37 true (oLoad 1 false S x38)) fun x39 =>
 bindP (guardP x37 true (oFieldAddr 9 1 x2)) fun x40 =>
 bindP (guardP x37 true (oLoad 1 false S x40)) fun x41 =>
 bindC (guardC x37 true S (apart κ.toOracle 50 [x39, x41] S)) pnA fun x42 S =>
 bindP (oPick x37 x42 (.bool false)) fun x43 =>
 bindP (guardP x43 true (oFieldAddr 10 1 x1)) fun x44 =>
 bindP (guardP x43 true (oLoad 1 false S x44)) fun x45 =>
 bindP (guardP x43 true (oFieldAddr 10 1 x2)) fun x46 =>
 bindP (guardP x43 true (oLoad 1 false S x46)) fun x47 =>
 bindC (guardC x43 true S (apart κ.toOracle 51 [x45, x47] S)) pnA fun x48 S =>
 bindP (oPick x43 x48 (.bool false)) fun x49 =>
 bindP (guardP x49 true (oFieldAddr 12 1 x1)) fun x50 =>
 bindP (guardP x49 true (oLoad 1 false S x50)) fun x51 =>
 bindP (guardP x49 true (oFieldAddr 12 1 x2)) fun x52 =>
 bindP (guardP x49 true (oLoad 1 false S x52)) fun x53 =>
 bindC (guardC x49 true S (apart κ.toOracle 52 [x51, x53] S)) pnA fun x54 S =>
 bindP (oPick x49 x54 (.bool false)) fun x55 =>
 bindP (guardP x55 true (oFieldAddr 13 1 x1)) fun x56 =>
 bindP (guardP x55 true (oLoad 1 false S x56)) fun x57 =>
 bindP (guardP x55 true (oFieldAddr 13 1 x2)) fun x58 =>
 bindP (guardP x55 true (oLoad 1 false S x58)) fun x59 =>
 bindC (guardC x55 true S (apart κ.toOracle 52 [x57, x59] S)) pnA fun x60 S =>
 bindP (oPick x55 x60 (.bool false)) fun x61 =>
 some (.ret x61, S)
theorem e13 (N : Nat) (κ : Oracles) (v0 v1 : AV) (S : St) : runF (Cs N) κ false 13 [v0, v1] S = s13 N κ v0 v1 S := by kernel_rfl
/- (*sacristan/run.Run).Moment -/
def s14 (N : Nat) (κ : Oracles) (v0 : AV) (S : St) : R :=
 bindC (oAl S [.int .i64 0, .bool false, .bool false, .bool false, .int .i64 0, .int .i64 0, .int .i64 0, .int .i64 0, .lst .nil 0 [], .lst .nil 0 [], .lst .nil 0 [], .int .i64 0, .lst .nil 0 [], .lst .nil 0 []]) pnA fun x1 S =>
 bindP (bE (eNil kPtr v0 .nilptr)) fun x2 =>
 ifA x2
 (bindP (oFill (plS [(0, 1), (1, 1), (2, 1), (3, 1), (4, 5), (9, 1), (10, 1), (11, 1), (12, 1), (13, 1)]) [.int .i64 0, .bool false, .bool false, .bool false, .int .i64 0, .int .i64 0, .int .i64 0, .int .i64 0, .lst .nil 0 [], .lst .nil 0 [], .lst .nil 0 [], .int .i64 0, .lst .nil 0 [], .lst .nil 0 []] []) fun x3 =>
 bindC (ok (oStore 14 S x1 x3)) pnA fun _ S =>
 (resA [(oLoad 14 true S x1)]).map fun vs => (.ret (packV vs), S))
 (bindP (oNilC v0) fun x4 =>
 bindP (oFieldAddr 14 14 x4) fun x5 =>
 bindP (oLoad 14 true S x5) fun x6 =>
 bindC (oAl S [.int .i64 0, .bool false, .bool false, .bool false, .int .i64 0, .int .i64 0, .int .i64 0, .int .i64 0, .lst .nil 0 [], .lst .nil 0 [], .lst .nil 0 [], .int .i64 0, .lst .nil 0 [], .lst .nil 0 []]) pnA fun x7 S =>
 bindC (ok (oStore 14 S x7 x6)) pnA fun _ S =>
 bindP (oFieldAddr 4 5 x7) fun x8 =>
 bindP (oLoad 5 true S x8) fun x9 =>
 bindC (apart κ.toOracle 53 [x9] S) pnA fun x10 S =>
 bindP (oFieldAddr 4 5 x7) fun x11 =>
 bindC (ok (oStore 5 S x11 x10)) pnA fun _ S =>
 bindP (oFieldAddr 9 1 x7) fun x12 =>
 bindP (oLoad 1 false S x12) fun x13 =>
 bindC (apart κ.toOracle 54 [x13] S) (fun _ _ => none) fun x14 S15 =>
 bindP (oFieldAddr 10 1 x7) fun x16 =>
 bindP (oLoad 1 false S15 x16) fun x17 =>
 bindC (apart κ.toOracle 55 [x17] S15) (fun _ _ => none) fun x18 S19 =>
 bindP (oFieldAddr 9 1 x7) fun x20 =>
 bindC (ok (oStore 1 S19 x20 x14)) (fun v Sx => bif (true && true) && true then pnA v Sx else none) fun _ S21 =>
 bindP (oFieldAddr 10 1 x7) fun x22 =>
 bindC (ok (oStore 1 S21 x22 x18)) (fun v Sx => bif (true && true) && true then pnA v Sx else none) fun _ S23 =>
 bif true then
 (let S := S23;
 bindP (oFieldAddr 12 1 x7) fun x24 =>
 bindP (oLoad 1 false S x24) fun x25 =>
 bindC (apart κ.toOracle 56 [x25] S) (fun _ _ => none) fun x26 S27 =>
 bindP (oFieldAddr 13 1 x7) fun x28 =>
 bindP (oLoad 1 false S27 x28) fun x29 =>
 bindC (apart κ.toOracle 56 [x29] S27) (fun _ _ => none) fun x30 S31 =>
 bindP (oFieldAddr 12 1 x7) fun x32 =>
 bindC (ok (oStore 1 S31 x32 x26)) (fun v Sx => bif (true && true) && true then pnA v Sx else none) fun _ S33 =>
 bindP (oFieldAddr 13 1 x7) fun x34 =>
 bindC (ok (oStore 1 S33 x34 x30)) (fun v Sx => bif (true && true) && true then pnA v Sx else none) fun _ S35 =>
 bif true then
 (let S := S35;
 bindP (oLoad 14 true S x7) fun x36 =>
 bindC (ok (oStore 14 S x1 x36)) pnA fun _ S =>
 (resA [(oLoad 14 true S x1)]).map fun vs => (.ret (packV vs), S))
 else none)
 else none)
theorem e14 (N : Nat) (κ : Oracles) (v0 : AV) (S : St) : runF (Cs N) κ false 14 [v0] S = s14 N κ v0 S := by kernel_rfl
/- sacristan/sacristanlaw35.awake -/
def s15 (N : Nat) (κ : Oracles) (S : St) : R :=
 bindC (apart κ.toOracle 6 [] S) pnA fun x1 S =>
 bindC (apart κ.toOracle 7 [] S) pnA fun x2 S =>
 bindC (apart κ.toOracle 8 [x1, x2] S) pnA fun x3 S =>
 bindP (oExt x3 0) fun x4 =>
 bindP (oExt x3 1) fun x5 =>
 bindP (oExt x3 2) fun x6 =>
 bindP (bN (eG (some [.i]) false false false x6 (.int .i64 0))) fun x7 =>
 bindP (guardP x7 false (some x5)) fun x8 =>
 bindP (guardP x7 false (oLen S (.slice 50) x8)) fun x9 =>
 bindP (guardP x7 false (bN (eG (some [.i]) false false false x9 (.int .i64 5)))) fun x10 =>
 bindP (oPick x7 (.bool true) x10) fun x11 =>
 ifA x11
 (some (.ret (.bool false), S))
 (bindP (oIndexAddrS 14 x5 (.int .i64 4)) fun x12 =>
 bindP (oLoad 14 true S x12) fun x13 =>
 bindC (oAl S [.int .i64 0, .bool false, .bool false, .bool false, .int .i64 0, .int .i64 0, .int .i64 0, .int .i64 0, .lst .nil 0 [], .lst .nil 0 [], .lst .nil 0 [], .int .i64 0, .lst .nil 0 [], .lst .nil 0 []]) pnA fun x14 S =>
 bindC (ok (oStore 14 S x14 x13)) pnA fun _ S =>
 bindP (oFieldAddr 1 1 x14) fun x15 =>
 bindP (oLoad 1 false S x15) fun x16 =>
 bindP (guardP x16 true (oFieldAddr 3 1 x14)) fun x17 =>
 bindP (guardP x16 true (oLoad 1 false S x17)) fun x18 =>
 bindP (oPick x16 x18 (.bool false)) fun x19 =>
 bindP (guardP x19 true (oFieldAddr 11 1 x14)) fun x20 =>
 bindP (guardP x19 true (oLoad 1 false S x20)) fun x21 =>
 bindP (guardP x19 true (bE (eG (some [.i]) false false false x21 (.int .i64 0)))) fun x22 =>
 bindP (oPick x19 x22 (.bool false)) fun x23 =>
 bindP (guardP x23 true (oFieldAddr 9 1 x14)) fun x24 =>
 bindP (guardP x23 true (oLoad 1 false S x24)) fun x25 =>
 bindP (guardP x23 true (oLen S (.slice 116) x25)) fun x26 =>
 bindP (guardP x23 true (bE (eG (some [.i]) false false false x26 (.int .i64 1)))) fun x27 =>
 bindP (oPick x23 x27 (.bool false)) fun x28 =>
 bindP (guardP x28 true (oFieldAddr 12 1 x14)) fun x29 =>
 bindP (guardP x28 true (oLoad 1 false S x29)) fun x30 =>
 bindP (guardP x28 true (oLen S (.slice 61) x30)) fun x31 =>
 bindP (guardP x28 true (bE (eG (some [.i]) false false false x31 (.int .i64 2)))) fun x32 =>
 bindP (oPick x28 x32 (.bool false)) fun x33 =>
 bindP (guardP x33 true (oFieldAddr 12 1 x14)) fun x34 =>
 bindP (guardP x33 true (oLoad 1 false S x34)) fun x35 =>
 bindP (guardP x33 true (oIndexAddrS 15 x35 (.int .i64 0))) fun x36 =>
 bindP (guardP x33 true (oFieldAddr 0 1 x36)) fun x37 =>
 bindP (guardP x33 true (oLoad 1 false S x37)) fun x38 =>
 bindP (guardP x33 true (bE (eG (some [.i]) false false false x38 (.int .u8 4)))) fun x39 =>
 bindP (oPick x33 x39 (.bool false)) fun x40 =>
 bindP (guardP x40 true (oFieldAddr 12 1 x14)) fun x41 =>
 bindP (guardP x40 true (oLoad 1 false S x41)) fun x42 =>
 bindP (guardP x40 true (oIndexAddrS 15 x42 (.int .i64 1))) fun x43 =>
 bindP (guardP x40 true (oFieldAddr 0 1 x43)) fun x44 =>
 bindP (guardP x40 true (oLoad 1 false S x44)) fun x45 =>
 bindP (guardP x40 true (bE (eG (some [.i]) false false false x45 (.int .u8 5)))) fun x46 =>
 bindP (oPick x40 x46 (.bool false)) fun x47 =>
 some (.ret x47, S))
theorem e15 (N : Nat) (κ : Oracles) (S : St) : runF (Cs N) κ false 15 [] S = s15 N κ S := by kernel_rfl
/- sacristan/sacristanlaw32.Place -/
def s30 (N : Nat) (κ : Oracles) (S : St) : R :=
 some (.ret (.str [1, 1, 7, 4, 4, 4, 1, 80, 1, 0, 2, 20, 2, 8, 0]), S)
theorem e30 (N : Nat) (κ : Oracles) (S : St) : runF (Cs N) κ false 30 [] S = s30 N κ S := by kernel_rfl
/- sacristan/spec.Config -/
def s31 (N : Nat) (κ : Oracles) (v0 : AV) (S : St) : R :=
 bindC (oBox S v0) pnA fun x1 S =>
 bindP (some (.func 76 [] [x1])) fun x2 =>
 bindP (some (.func 78 [] [x1])) fun x3 =>
 bindP (some (.func 80 [] [x1])) fun x4 =>
 bindP (some (.func 82 [] [x1])) fun x5 =>
 bindP (some (.func 83 [] [x1])) fun x6 =>
 bindP (some (.func 84 [] [x1])) fun x7 =>
 bindP (some (.func 85 [] [x1])) fun x8 =>
 bindP (some (.func 86 [] [x1])) fun x9 =>
 bindP (some (.func 87 [] [x1])) fun x10 =>
 bindC (oBS S 1 [.nilfunc] 9 [(0, x2), (1, x3), (2, x4), (3, x5), (4, x6), (5, x7), (6, x8), (7, x9), (8, x10)]) pnA fun x11 S =>
 bindC (callN κ.toOracle 75 [x11] S) pnA fun x12 S =>
 some (.ret x12, S)
theorem e31 (N : Nat) (κ : Oracles) (v0 : AV) (S : St) : runF (Cs N) κ false 31 [v0] S = s31 N κ v0 S := by kernel_rfl
/- sacristan/model.Check -/
def s32 (N : Nat) (κ : Oracles) (v0 : AV) (S : St) : R :=
 bindC (oBox S v0) pnA fun x1 S =>
 bindP (oFieldAddr 0 1 x1) fun x2 =>
 bindP (oLoad 1 false S x2) fun x3 =>
 bindP (oFill (plS [(0, 1), (1, 1), (2, 1), (3, 1), (4, 1), (5, 1), (6, 1), (7, 3), (10, 3)]) [.int .u8 0, .int .i64 0, .int .i64 0, .int .i64 0, .int .i64 0, .bool false, .str [], .int .u64 0, .int .i64 0, .int .i64 0, .int .u64 0, .int .i64 0, .int .i64 0] [(0, x3)]) fun x4 =>
 bindC (oAl S [.int .u8 0, .int .i64 0, .int .i64 0, .int .i64 0, .int .i64 0, .bool false, .str [], .int .u64 0, .int .i64 0, .int .i64 0, .int .u64 0, .int .i64 0, .int .i64 0]) pnA fun x5 S =>
 bindC (ok (oStore 13 S x5 x4)) pnA fun _ S =>
 let j6 : List AV → St → R := (fun vals S =>
 let x7 := vals.getD 0 .junk;
 bindP (oUn .not x7) fun x8 =>
 bindP (guardP x8 false (oFieldAddr 1 1 x1)) fun x9 =>
 bindP (guardP x8 false (oLoad 1 false S x9)) fun x10 =>
 bindP (guardP x8 false (oArith .lss x10 (.int .i64 0))) fun x11 =>
 bindP (oPick x8 (.bool true) x11) fun x12 =>
 bindP (guardP x12 false (oLoad 13 true S x5)) fun x13 =>
 bindP (guardP x12 false (oLoad 13 true S x1)) fun x14 =>
 bindP (guardP x12 false (bN (eG (some [.i, .i, .i, .i, .i, .b, .s, .i, .i, .i, .i, .i, .i]) true false false x13 x14))) fun x15 =>
 bindP (oPick x12 (.bool true) x15) fun x16 =>
 ifA x16
 (some (.ret (.int .i64 2), S))
 (some (.ret (.int .i64 0), S)));
 bindP (oFieldAddr 0 1 x1) fun x17 =>
 bindP (oLoad 1 false S x17) fun x18 =>
 let j19 : List AV → St → R := (fun vals S =>
 let x20 := vals.getD 0 .junk;
 ifA x20
 (bif sameD [] [] then Join j6 [(.bool true)] S else none)
 (bindP (bE (eG (some [.i]) false false false x18 (.int .u8 3))) fun x21 =>
 ifA x21
 (bindP (oFieldAddr 6 1 x1) fun x22 =>
 bindP (oLoad 1 false S x22) fun x23 =>
 bindP (oFieldAddr 6 1 x5) fun x24 =>
 bindC (ok (oStore 1 S x24 x23)) pnA fun _ S =>
 bindP (oFieldAddr 6 1 x1) fun x25 =>
 bindP (oLoad 1 false S x25) fun x26 =>
 bindP (oLen S .string x26) fun x27 =>
 bindP (oArith .leq x27 (.int .i64 1024)) fun x28 =>
 bif sameD [] [] then Join j6 [x28] S else none)
 (bindP (bE (eG (some [.i]) false false false x18 (.int .u8 4))) fun x29 =>
 ifA x29
 (bindP (oFieldAddr 1 1 x1) fun x30 =>
 bindP (oLoad 1 false S x30) fun x31 =>
 bindP (oFieldAddr 1 1 x5) fun x32 =>
 bindC (ok (oStore 1 S x32 x31)) pnA fun _ S =>
 bif sameD [] [] then Join j6 [(.bool true)] S else none)
 (bindP (bE (eG (some [.i]) false false false x18 (.int .u8 5))) fun x33 =>
 ifA x33
 (bindP (oFieldAddr 1 1 x1) fun x34 =>
 bindP (oLoad 1 false S x34) fun x35 =>
 bindP (oFieldAddr 4 1 x1) fun x36 =>
 bindP (oLoad 1 false S x36) fun x37 =>
 bindP (oFieldAddr 1 1 x5) fun x38 =>
 bindC (ok (oStore 1 S x38 x35)) (fun v Sx => bif (true && true) && true then pnA v Sx else none) fun _ S39 =>
 bindP (oFieldAddr 4 1 x5) fun x40 =>
 bindC (ok (oStore 1 S39 x40 x37)) (fun v Sx => bif (true && (((false || (chkA (oLoad 1 false S x36) x37 && chkA (oLoad 1 false S39 x36) x37)) && true) && ((true && true) && true))) && true then pnA v Sx else none) fun _ S41 =>
 bif ((true && ((false || (chkA (oLoad 1 false S x36) x37 && chkA (oLoad 1 false S39 x36) x37)) && true)) && ((true && (true && true)) && true)) then
 (let S := S41;
 bindP (oFieldAddr 4 1 x1) fun x42 =>
 bindP (oLoad 1 false S x42) fun x43 =>
 bindC (apart κ.toOracle 88 [x43, (.int .i64 0), (.int .i64 255)] S) pnA fun x44 S =>
 bif sameD [] [] then Join j6 [x44] S else none)
 else none)
 (bindP (bE (eG (some [.i]) false false false x18 (.int .u8 6))) fun x45 =>
 ifA x45
 (bindP (oFieldAddr 2 1 x1) fun x46 =>
 bindP (oLoad 1 false S x46) fun x47 =>
 bindP (oFieldAddr 3 1 x1) fun x48 =>
 bindP (oLoad 1 false S x48) fun x49 =>
 bindP (oFieldAddr 5 1 x1) fun x50 =>
 bindP (oLoad 1 false S x50) fun x51 =>
 bindP (oFieldAddr 2 1 x5) fun x52 =>
 bindC (ok (oStore 1 S x52 x47)) (fun v Sx => bif (true && true) && true then pnA v Sx else none) fun _ S53 =>
 bindP (oFieldAddr 3 1 x5) fun x54 =>
 bindC (ok (oStore 1 S53 x54 x49)) (fun v Sx => bif (true && (((false || (chkA (oLoad 1 false S x50) x51 && chkA (oLoad 1 false S53 x50) x51)) && true) && (((false || (chkA (oLoad 1 false S x48) x49 && chkA (oLoad 1 false S53 x48) x49)) && true) && ((true && true) && true)))) && true then pnA v Sx else none) fun _ S55 =>
 bindP (oFieldAddr 5 1 x5) fun x56 =>
 bindC (ok (oStore 1 S55 x56 x51)) (fun v Sx => bif (true && (((false || (chkA (oLoad 1 false S53 x50) x51 && chkA (oLoad 1 false S55 x50) x51)) && ((false || (chkA (oLoad 1 false S x50) x51 && chkA (oLoad 1 false S53 x50) x51)) && true)) && ((true && ((false || (chkA (oLoad 1 false S x48) x49 && chkA (oLoad 1 false S53 x48) x49)) && true)) && ((true && (true && true)) && true)))) && true then pnA v Sx else none) fun _ S57 =>
 bif ((true && ((false || (chkA (oLoad 1 false S53 x50) x51 && chkA (oLoad 1 false S55 x50) x51)) && ((false || (chkA (oLoad 1 false S x50) x51 && chkA (oLoad 1 false S53 x50) x51)) && true))) && ((true && (true && ((false || (chkA (oLoad 1 false S x48) x49 && chkA (oLoad 1 false S53 x48) x49)) && true))) && ((true && (true && (true && true))) && true))) then
 (let S := S57;
 bif sameD [] [] then Join j6 [(.bool true)] S else none)
 else none)
 (bindP (bE (eG (some [.i]) false false false x18 (.int .u8 7))) fun x58 =>
 ifA x58
 (bindP (oFieldAddr 1 1 x1) fun x59 =>
 bindP (oLoad 1 false S x59) fun x60 =>
 bindP (oFieldAddr 6 1 x1) fun x61 =>
 bindP (oLoad 1 false S x61) fun x62 =>
 bindP (oFieldAddr 1 1 x5) fun x63 =>
 bindC (ok (oStore 1 S x63 x60)) (fun v Sx => bif (true && true) && true then pnA v Sx else none) fun _ S64 =>
 bindP (oFieldAddr 6 1 x5) fun x65 =>
 bindC (ok (oStore 1 S64 x65 x62)) (fun v Sx => bif (true && (((false || (chkA (oLoad 1 false S x61) x62 && chkA (oLoad 1 false S64 x61) x62)) && true) && ((true && true) && true))) && true then pnA v Sx else none) fun _ S66 =>
 bif ((true && ((false || (chkA (oLoad 1 false S x61) x62 && chkA (oLoad 1 false S64 x61) x62)) && true)) && ((true && (true && true)) && true)) then
 (let S := S66;
 bindP (oFieldAddr 6 1 x1) fun x67 =>
 bindP (oLoad 1 false S x67) fun x68 =>
 bindP (oLen S .string x68) fun x69 =>
 bindC (apart κ.toOracle 88 [x69, (.int .i64 1), (.int .i64 256)] S) pnA fun x70 S =>
 bif sameD [] [] then Join j6 [x70] S else none)
 else none)
 (let j71 : List AV → St → R := (fun vals S =>
 let x72 := vals.getD 0 .junk;
 ifA x72
 (bindP (oFieldAddr 5 1 x1) fun x73 =>
 bindP (oLoad 1 false S x73) fun x74 =>
 bindP (oFieldAddr 5 1 x5) fun x75 =>
 bindC (ok (oStore 1 S x75 x74)) pnA fun _ S =>
 bif sameD [] [] then Join j6 [(.bool true)] S else none)
 (bindP (bE (eG (some [.i]) false false false x18 (.int .u8 10))) fun x76 =>
 ifA x76
 (bindP (oFieldAddr 1 1 x1) fun x77 =>
 bindP (oLoad 1 false S x77) fun x78 =>
 bindP (oFieldAddr 7 3 x1) fun x79 =>
 bindP (oLoad 3 true S x79) fun x80 =>
 bindP (oFieldAddr 10 3 x1) fun x81 =>
 bindP (oLoad 3 true S x81) fun x82 =>
 bindP (oFieldAddr 1 1 x5) fun x83 =>
 bindC (ok (oStore 1 S x83 x78)) (fun v Sx => bif (true && true) && true then pnA v Sx else none) fun _ S84 =>
 bindP (oFieldAddr 7 3 x5) fun x85 =>
 bindC (ok (oStore 3 S84 x85 x80)) (fun v Sx => bif (true && (((false || (chkA (oLoad 3 true S x81) x82 && chkA (oLoad 3 true S84 x81) x82)) && true) && (((false || (chkA (oLoad 3 true S x79) x80 && chkA (oLoad 3 true S84 x79) x80)) && true) && ((true && true) && true)))) && true then pnA v Sx else none) fun _ S86 =>
 bindP (oFieldAddr 10 3 x5) fun x87 =>
 bindC (ok (oStore 3 S86 x87 x82)) (fun v Sx => bif (true && (((false || (chkA (oLoad 3 true S84 x81) x82 && chkA (oLoad 3 true S86 x81) x82)) && ((false || (chkA (oLoad 3 true S x81) x82 && chkA (oLoad 3 true S84 x81) x82)) && true)) && ((true && ((false || (chkA (oLoad 3 true S x79) x80 && chkA (oLoad 3 true S84 x79) x80)) && true)) && ((true && (true && true)) && true)))) && true then pnA v Sx else none) fun _ S88 =>
 bif ((true && ((false || (chkA (oLoad 3 true S84 x81) x82 && chkA (oLoad 3 true S86 x81) x82)) && ((false || (chkA (oLoad 3 true S x81) x82 && chkA (oLoad 3 true S84 x81) x82)) && true))) && ((true && (true && ((false || (chkA (oLoad 3 true S x79) x80 && chkA (oLoad 3 true S84 x79) x80)) && true))) && ((true && (true && (true && true))) && true))) then
 (let S := S88;
 bindP (oFieldAddr 1 1 x1) fun x89 =>
 bindP (oLoad 1 false S x89) fun x90 =>
 bindP (oArith .leq x90 (.int .i64 1000000)) fun x91 =>
 bindP (guardP x91 true (oFieldAddr 7 3 x1)) fun x92 =>
 bindP (guardP x91 true (oLoad 3 true S x92)) fun x93 =>
 bindC (guardC x91 true S (apart κ.toOracle 89 [x93] S)) pnA fun x94 S =>
 bindP (oPick x91 x94 (.bool false)) fun x95 =>
 bindP (guardP x95 true (oFieldAddr 10 3 x1)) fun x96 =>
 bindP (guardP x95 true (oLoad 3 true S x96)) fun x97 =>
 bindC (guardC x95 true S (apart κ.toOracle 89 [x97] S)) pnA fun x98 S =>
 bindP (oPick x95 x98 (.bool false)) fun x99 =>
 bif sameD [] [] then Join j6 [x99] S else none)
 else none)
 (bindP (bE (eG (some [.i]) false false false x18 (.int .u8 13))) fun x100 =>
 ifA x100
 (bindP (oFieldAddr 2 1 x1) fun x101 =>
 bindP (oLoad 1 false S x101) fun x102 =>
 bindP (oFieldAddr 3 1 x1) fun x103 =>
 bindP (oLoad 1 false S x103) fun x104 =>
 bindP (oFieldAddr 1 1 x1) fun x105 =>
 bindP (oLoad 1 false S x105) fun x106 =>
 bindP (oFieldAddr 4 1 x1) fun x107 =>
 bindP (oLoad 1 false S x107) fun x108 =>
 bindP (oFieldAddr 2 1 x5) fun x109 =>
 bindC (ok (oStore 1 S x109 x102)) (fun v Sx => bif (true && true) && true then pnA v Sx else none) fun _ S110 =>
 bindP (oFieldAddr 3 1 x5) fun x111 =>
 bindC (ok (oStore 1 S110 x111 x104)) (fun v Sx => bif (true && (((false || (chkA (oLoad 1 false S x107) x108 && chkA (oLoad 1 false S110 x107) x108)) && true) && (((false || (chkA (oLoad 1 false S x105) x106 && chkA (oLoad 1 false S110 x105) x106)) && true) && (((false || (chkA (oLoad 1 false S x103) x104 && chkA (oLoad 1 false S110 x103) x104)) && true) && ((true && true) && true))))) && true then pnA v Sx else none) fun _ S112 =>
 bindP (oFieldAddr 1 1 x5) fun x113 =>
 bindC (ok (oStore 1 S112 x113 x106)) (fun v Sx => bif (true && (((false || (chkA (oLoad 1 false S110 x107) x108 && chkA (oLoad 1 false S112 x107) x108)) && ((false || (chkA (oLoad 1 false S x107) x108 && chkA (oLoad 1 false S110 x107) x108)) && true)) && (((false || (chkA (oLoad 1 false S110 x105) x106 && chkA (oLoad 1 false S112 x105) x106)) && ((false || (chkA (oLoad 1 false S x105) x106 && chkA (oLoad 1 false S110 x105) x106)) && true)) && ((true && ((false || (chkA (oLoad 1 false S x103) x104 && chkA (oLoad 1 false S110 x103) x104)) && true)) && ((true && (true && true)) && true))))) && true then pnA v Sx else none) fun _ S114 =>
 bindP (oFieldAddr 4 1 x5) fun x115 =>
 bindC (ok (oStore 1 S114 x115 x108)) (fun v Sx => bif (true && (((false || (chkA (oLoad 1 false S112 x107) x108 && chkA (oLoad 1 false S114 x107) x108)) && ((false || (chkA (oLoad 1 false S110 x107) x108 && chkA (oLoad 1 false S112 x107) x108)) && ((false || (chkA (oLoad 1 false S x107) x108 && chkA (oLoad 1 false S110 x107) x108)) && true))) && ((true && ((false || (chkA (oLoad 1 false S110 x105) x106 && chkA (oLoad 1 false S112 x105) x106)) && ((false || (chkA (oLoad 1 false S x105) x106 && chkA (oLoad 1 false S110 x105) x106)) && true))) && ((true && (true && ((false || (chkA (oLoad 1 false S x103) x104 && chkA (oLoad 1 false S110 x103) x104)) && true))) && ((true && (true && (true && true))) && true))))) && true then pnA v Sx else none) fun _ S116 =>
 bif ((true && ((false || (chkA (oLoad 1 false S112 x107) x108 && chkA (oLoad 1 false S114 x107) x108)) && ((false || (chkA (oLoad 1 false S110 x107) x108 && chkA (oLoad 1 false S112 x107) x108)) && ((false || (chkA (oLoad 1 false S x107) x108 && chkA (oLoad 1 false S110 x107) x108)) && true)))) && ((true && (true && ((false || (chkA (oLoad 1 false S110 x105) x106 && chkA (oLoad 1 false S112 x105) x106)) && ((false || (chkA (oLoad 1 false S x105) x106 && chkA (oLoad 1 false S110 x105) x106)) && true)))) && ((true && (true && (true && ((false || (chkA (oLoad 1 false S x103) x104 && chkA (oLoad 1 false S110 x103) x104)) && true)))) && ((true && (true && (true && (true && true)))) && true)))) then
 (let S := S116;
 bindP (oFieldAddr 4 1 x1) fun x117 =>
 bindP (oLoad 1 false S x117) fun x118 =>
 bindC (apart κ.toOracle 88 [x118, (.int .i64 0), (.int .i64 4096)] S) pnA fun x119 S =>
 bif sameD [] [] then Join j6 [x119] S else none)
 else none)
 (bif sameD [] [] then Join j6 [(.bool false)] S else none))));
 bindP (bE (eG (some [.i]) false false false x18 (.int .u8 8))) fun x120 =>
 ifA x120
 (bif sameD [] [] then Join j71 [x120] S else none)
 (bindP (bE (eG (some [.i]) false false false x18 (.int .u8 9))) fun x121 =>
 bif sameD [] [] then Join j71 [x121] S else none))))))));
 bindP (bE (eG (some [.i]) false false false x18 (.int .u8 1))) fun x122 =>
 ifA x122
 (bif sameD [] [] then Join j19 [x122] S else none)
 (bindP (bE (eG (some [.i]) false false false x18 (.int .u8 2))) fun x123 =>
 ifA x123
 (bif sameD [] [] then Join j19 [x123] S else none)
 (bindP (bE (eG (some [.i]) false false false x18 (.int .u8 11))) fun x124 =>
 ifA x124
 (bif sameD [] [] then Join j19 [x124] S else none)
 (bindP (bE (eG (some [.i]) false false false x18 (.int .u8 12))) fun x125 =>
 bif sameD [] [] then Join j19 [x125] S else none)))
theorem e32 (N : Nat) (κ : Oracles) (v0 : AV) (S : St) : runF (Cs N) κ false 32 [v0] S = s32 N κ v0 S := by kernel_rfl
/- (*sacristan/world.World).Now -/
def s33 (N : Nat) (κ : Oracles) (v0 : AV) (S : St) : R :=
 bindP (bE (eNil kPtr v0 .nilptr)) fun x1 =>
 ifA x1
 (some (.ret (.int .i64 0), S))
 (bindP (oNilC v0) fun x2 =>
 bindP (oFieldAddr 0 1 x2) fun x3 =>
 bindP (oLoad 1 false S x3) fun x4 =>
 some (.ret x4, S))
theorem e33 (N : Nat) (κ : Oracles) (v0 : AV) (S : St) : runF (Cs N) κ false 33 [v0] S = s33 N κ v0 S := by kernel_rfl
/- (*sacristan/run.Run).Do$1 -/
def s34 (N : Nat) (κ : Oracles) (v0 v1 v2 : AV) (S : St) : R :=
 let j1 : List AV → St → R := (fun vals S =>
 let j2 : List AV → St → R := (fun vals S =>
 bindP (oLoad 1 false S v0) fun x3 =>
 bindP (oLoad 14 true S v1) fun x4 =>
 bindC (callN κ.toOracle 38 [x3, x4] S) pnA fun x5 S =>
 some (.ret (.tup []), S));
 bindP (oLoad 1 false S v0) fun x6 =>
 bindP (oNilC x6) fun x7 =>
 bindP (oFieldAddr 11 1 x7) fun x8 =>
 bindP (oLoad 1 false S x8) fun x9 =>
 bindC (callN κ.toOracle 36 [x9] S) pnA fun x10 S =>
 ifA x10
 (let j11 : List AV → St → R := (fun vals S =>
 bindP (oLoad 1 false S v0) fun x12 =>
 bindP (oFill (plS [(0, 1), (1, 1), (2, 1), (3, 1)]) [.int .u8 0, .lst .nil 0 [], .int .i64 0, .str []] [(0, (.int .u8 9))]) fun x13 =>
 bindC (ok (oStore 4 S v2 x13)) pnA fun _ S =>
 bindP (oNilC x12) fun x14 =>
 bindP (oFieldAddr 12 1 x14) fun x15 =>
 bindC (ok (oStore 1 S x15 .nilptr)) pnA fun _ S =>
 bindP (oFieldAddr 2 1 v1) fun x16 =>
 bindC (ok (oStore 1 S x16 (.bool false))) pnA fun _ S =>
 bindP (oFieldAddr 3 1 v1) fun x17 =>
 bindC (ok (oStore 1 S x17 (.bool false))) pnA fun _ S =>
 bif sameD [] [] then Join j2 [] S else none);
 bindP (oLoad 1 false S v0) fun x18 =>
 bindP (oNilC x18) fun x19 =>
 bindP (oFieldAddr 12 1 x19) fun x20 =>
 bindP (oLoad 1 false S x20) fun x21 =>
 bindP (bN (eNil kPtr x21 .nilptr)) fun x22 =>
 ifA x22
 (bindP (oLoad 1 false S v0) fun x23 =>
 bindP (oNilC x23) fun x24 =>
 bindP (oFieldAddr 12 1 x24) fun x25 =>
 bindP (oLoad 1 false S x25) fun x26 =>
 bindC (callN κ.toOracle 37 [x26] S) pnA fun x27 S =>
 bindP (oFieldAddr 13 1 v1) fun x28 =>
 bindC (ok (oStore 1 S x28 x27)) pnA fun _ S =>
 bif sameD [] [] then Join j11 [] S else none)
 (bif sameD [] [] then Join j11 [] S else none))
 (bif sameD [] [] then Join j2 [] S else none));
 bindP (oLoad 1 false S v0) fun x29 =>
 bindP (oNilC x29) fun x30 =>
 bindP (oFieldAddr 12 1 x30) fun x31 =>
 bindP (oLoad 1 false S x31) fun x32 =>
 bindP (bN (eNil kPtr x32 .nilptr)) fun x33 =>
 ifA x33
 (bindP (oLoad 1 false S v0) fun x34 =>
 bindP (oNilC x34) fun x35 =>
 bindP (oFieldAddr 12 1 x35) fun x36 =>
 bindP (oLoad 1 false S x36) fun x37 =>
 bindC (callN κ.toOracle 35 [x37] S) pnA fun x38 S =>
 bindP (oLoad 1 false S v0) fun x39 =>
 bindP (oLoad 1 false S v0) fun x40 =>
 bindP (oNilC x40) fun x41 =>
 bindP (oFieldAddr 13 1 x41) fun x42 =>
 bindP (oLoad 1 false S x42) fun x43 =>
 bindP (slS 15 x38 (some x43) none none) fun x44 =>
 bindP (oLen S (.slice 61) x38) fun x45 =>
 bindP (oFieldAddr 12 1 v1) fun x46 =>
 bindC (ok (oStore 1 S x46 x44)) (fun v Sx => bif (true && true) && true then pnA v Sx else none) fun _ S47 =>
 bindP (oNilC x39) fun x48 =>
 bindP (oFieldAddr 13 1 x48) fun x49 =>
 bindC (ok (oStore 1 S47 x49 x45)) (fun v Sx => bif (true && (((false || (chkA (oLen S (.slice 61) x38) x45 && chkA (oLen S47 (.slice 61) x38) x45)) && true) && ((true && true) && ((true && true) && ((true && true) && true))))) && true then pnA v Sx else none) fun _ S50 =>
 bif ((true && ((false || (chkA (oLen S (.slice 61) x38) x45 && chkA (oLen S47 (.slice 61) x38) x45)) && true)) && ((true && (true && true)) && ((true && (true && true)) && ((true && (true && true)) && true)))) then
 (let S := S50;
 bif sameD [] [] then Join j1 [] S else none)
 else none)
 (bif sameD [] [] then Join j1 [] S else none)
theorem e34 (N : Nat) (κ : Oracles) (v0 v1 v2 : AV) (S : St) : runF (Cs N) κ false 34 [v0, v1, v2] S = s34 N κ v0 v1 v2 S := by kernel_rfl
/- (*sacristan/agent.Agent).Done -/
def s35 (N : Nat) (κ : Oracles) (v0 : AV) (S : St) : R :=
 bindP (bE (eNil kPtr v0 .nilptr)) fun x1 =>
 ifA x1
 (some (.ret (.lst .nil 0 []), S))
 (bindP (oNilC v0) fun x2 =>
 bindP (oFieldAddr 0 1 x2) fun x3 =>
 bindP (oLoad 1 false S x3) fun x4 =>
 bindC (callN κ.toOracle 90 [x4] S) pnA fun x5 S =>
 some (.ret x5, S))
theorem e35 (N : Nat) (κ : Oracles) (v0 : AV) (S : St) : runF (Cs N) κ false 35 [v0] S = s35 N κ v0 S := by kernel_rfl
/- (*sacristan/world.World).Settle -/
def s36 (N : Nat) (κ : Oracles) (v0 : AV) (S : St) : R :=
 bindP (bE (eNil kPtr v0 .nilptr)) fun x1 =>
 bindP (guardP x1 false (some v0)) fun x2 =>
 bindP (guardP x1 false (oNilC x2)) fun x3 =>
 bindP (guardP x1 false (oFieldAddr 1 1 x3)) fun x4 =>
 bindP (guardP x1 false (oLoad 1 false S x4)) fun x5 =>
 bindC (guardC x1 false S (callN κ.toOracle 91 [x5] S)) pnA fun x6 S =>
 bindP (guardP x1 false (oUn .not x6)) fun x7 =>
 bindP (oPick x1 (.bool true) x7) fun x8 =>
 ifA x8
 (some (.ret (.bool false), S))
 (bindP (oNilC v0) fun x9 =>
 bindP (oFieldAddr 2 1 x9) fun x10 =>
 bindP (oLoad 1 false S x10) fun x11 =>
 bindP (oNilC v0) fun x12 =>
 bindP (oFieldAddr 6 6 x12) fun x13 =>
 bindP (oIndexAddrA 2 3 x13 (.int .i64 0)) fun x14 =>
 bindP (oLoad 3 true S x14) fun x15 =>
 bindC (callN κ.toOracle 92 [x11, x15] S) (fun v Sx => bif (true && true) && true then pnA v Sx else none) fun x16 S17 =>
 bif true then
 (let S := S17;
 bindP (oNilC v0) fun x18 =>
 bindP (oFieldAddr 3 1 x18) fun x19 =>
 bindP (oLoad 1 false S x19) fun x20 =>
 bindP (oNilC v0) fun x21 =>
 bindP (oFieldAddr 6 6 x21) fun x22 =>
 bindP (oIndexAddrA 2 3 x22 (.int .i64 1)) fun x23 =>
 bindP (oLoad 3 true S x23) fun x24 =>
 bindC (callN κ.toOracle 92 [x20, x24] S) (fun v Sx => bif (true && true) && true then pnA v Sx else none) fun x25 S26 =>
 bif true then
 (let S := S26;
 bindP (oNilC v0) fun x27 =>
 bindP (oFieldAddr 1 1 x27) fun x28 =>
 bindP (oLoad 1 false S x28) fun x29 =>
 bindC (callN κ.toOracle 93 [x29] S) pnA fun x30 S =>
 some (.ret (.bool true), S))
 else none)
 else none)
theorem e36 (N : Nat) (κ : Oracles) (v0 : AV) (S : St) : runF (Cs N) κ false 36 [v0] S = s36 N κ v0 S := by kernel_rfl
/- (*sacristan/agent.Agent).Try -/
def s37 (N : Nat) (κ : Oracles) (v0 : AV) (S : St) : R :=
 bindP (bE (eNil kPtr v0 .nilptr)) fun x1 =>
 ifA x1
 (some (.ret (.lst .nil 0 []), S))
 (bindP (oNilC v0) fun x2 =>
 bindP (oFieldAddr 0 1 x2) fun x3 =>
 bindP (oLoad 1 false S x3) fun x4 =>
 bindC (callN κ.toOracle 94 [x4] S) pnA fun x5 S =>
 some (.ret x5, S))
theorem e37 (N : Nat) (κ : Oracles) (v0 : AV) (S : St) : runF (Cs N) κ false 37 [v0] S = s37 N κ v0 S := by kernel_rfl
/- (*sacristan/run.Run).remember -/
def s38 (N : Nat) (κ : Oracles) (v0 v1 : AV) (S : St) : R :=
 bindC (oBox S v1) pnA fun x1 S =>
 bindP (oNilC v0) fun x2 =>
 bindP (oFieldAddr 11 1 x2) fun x3 =>
 bindP (oLoad 1 false S x3) fun x4 =>
 bindC (callN κ.toOracle 33 [x4] S) (fun v Sx => bif (true && true) && (rfA (oFieldAddr 11 1 x1) fun x7 => false) then pnA v Sx else none) fun x5 S6 =>
 bindP (oFieldAddr 11 1 x1) fun x8 =>
 bindP (oLoad 1 false S6 x8) fun x9 =>
 bindP (oNilC v0) fun x10 =>
 bindP (oFieldAddr 14 14 x10) fun x11 =>
 bindP (oFieldAddr 11 1 x11) fun x12 =>
 bindP (oLoad 1 false S6 x12) fun x13 =>
 bindP (maxmin true [x9, x13]) fun x14 =>
 bindP (oFieldAddr 0 1 x1) fun x15 =>
 bindC (ok (oStore 1 S6 x15 x5)) (fun v Sx => bif (true && (((false || (chkA (oLoad 1 false S x12) x13 && chkA (oLoad 1 false S6 x12) x13)) && true) && (((false || (chkA (oLoad 1 false S x8) x9 && chkA (oLoad 1 false S6 x8) x9)) && true) && ((true && true) && true)))) && true then pnA v Sx else none) fun _ S16 =>
 bindP (oFieldAddr 11 1 x1) fun x17 =>
 bindC (ok (oStore 1 S16 x17 x14)) (fun v Sx => bif (true && (((false || (chkA (oLoad 1 false S6 x12) x13 && chkA (oLoad 1 false S16 x12) x13)) && ((false || (chkA (oLoad 1 false S x12) x13 && chkA (oLoad 1 false S6 x12) x13)) && true)) && ((true && ((false || (chkA (oLoad 1 false S x8) x9 && chkA (oLoad 1 false S6 x8) x9)) && true)) && ((true && (true && true)) && true)))) && true then pnA v Sx else none) fun _ S18 =>
 bif ((true && ((false || (chkA (oLoad 1 false S6 x12) x13 && chkA (oLoad 1 false S16 x12) x13)) && ((false || (chkA (oLoad 1 false S x12) x13 && chkA (oLoad 1 false S6 x12) x13)) && true))) && ((true && (true && ((false || (chkA (oLoad 1 false S x8) x9 && chkA (oLoad 1 false S6 x8) x9)) && true))) && ((true && (true && (true && true))) && true))) then
 (let S := S18;
 bindP (oNilC v0) fun x19 =>
 bindP (oFieldAddr 11 1 x19) fun x20 =>
 bindP (oLoad 1 false S x20) fun x21 =>
 bindC (callN κ.toOracle 40 [x21] S) (fun v Sx => bif (true && true) && (rfA (some v0) fun x24 => (rfA (oNilC x24) fun x25 => (rfA (oFieldAddr 11 1 x25) fun x26 => false))) then pnA v Sx else none) fun x22 S23 =>
 bindC (callN κ.toOracle 95 [x22] S23) (fun v Sx => bif (true && true) && (rfA (some v0) fun x29 => (rfA (oNilC x29) fun x30 => (rfA (oFieldAddr 11 1 x30) fun x31 => false))) then pnA v Sx else none) fun x27 S28 =>
 bindP (oNilC v0) fun x32 =>
 bindP (oFieldAddr 11 1 x32) fun x33 =>
 bindP (oLoad 1 false S28 x33) fun x34 =>
 bindC (callN κ.toOracle 96 [x34] S28) (fun v Sx => bif (true && (((false || (chkA (oLoad 1 false S23 x33) x34 && chkA (oLoad 1 false S28 x33) x34)) && ((false || (chkA (oLoad 1 false S x33) x34 && chkA (oLoad 1 false S23 x33) x34)) && true)) && ((true && (true && true)) && true))) && (rfA (oFieldAddr 9 1 x1) fun x37 => true) then pnA v Sx else none) fun x35 S36 =>
 bindC (callN κ.toOracle 97 [x35] S36) (fun v Sx => bif (true && ((true && ((false || (chkA (oLoad 1 false S23 x33) x34 && chkA (oLoad 1 false S28 x33) x34)) && ((false || (chkA (oLoad 1 false S x33) x34 && chkA (oLoad 1 false S23 x33) x34)) && true))) && ((true && (true && (true && true))) && true))) && (rfA (oFieldAddr 9 1 x1) fun x40 => true) then pnA v Sx else none) fun x38 S39 =>
 bindP (oFieldAddr 9 1 x1) fun x41 =>
 bindC (ok (oStore 1 S39 x41 x27)) (fun v Sx => bif (true && ((true && (true && ((false || (chkA (oLoad 1 false S23 x33) x34 && chkA (oLoad 1 false S28 x33) x34)) && ((false || (chkA (oLoad 1 false S x33) x34 && chkA (oLoad 1 false S23 x33) x34)) && true)))) && ((true && (true && (true && (true && true)))) && true))) && true then pnA v Sx else none) fun _ S42 =>
 bindP (oFieldAddr 10 1 x1) fun x43 =>
 bindC (ok (oStore 1 S42 x43 x38)) (fun v Sx => bif (true && ((true && (true && (true && ((false || (chkA (oLoad 1 false S23 x33) x34 && chkA (oLoad 1 false S28 x33) x34)) && ((false || (chkA (oLoad 1 false S x33) x34 && chkA (oLoad 1 false S23 x33) x34)) && true))))) && ((true && (true && (true && (true && (true && true))))) && true))) && true then pnA v Sx else none) fun _ S44 =>
 bif ((true && (true && (true && (true && ((false || (chkA (oLoad 1 false S23 x33) x34 && chkA (oLoad 1 false S28 x33) x34)) && ((false || (chkA (oLoad 1 false S x33) x34 && chkA (oLoad 1 false S23 x33) x34)) && true)))))) && ((true && (true && (true && (true && (true && (true && true)))))) && true)) then
 (let S := S44;
 bindP (oNilC v0) fun x45 =>
 bindP (oFieldAddr 12 1 x45) fun x46 =>
 bindP (oLoad 1 false S x46) fun x47 =>
 bindP (bN (eNil kPtr x47 .nilptr)) fun x48 =>
 bindP (oFieldAddr 1 1 x1) fun x49 =>
 bindC (ok (oStore 1 S x49 x48)) pnA fun _ S =>
 let j50 : List AV → St → R := (fun vals S =>
 bindP (oLoad 14 true S x1) fun x51 =>
 bindP (oNilC v0) fun x52 =>
 bindP (oFieldAddr 14 14 x52) fun x53 =>
 bindC (ok (oStore 14 S x53 x51)) pnA fun _ S =>
 some (.ret (.tup []), S));
 bindP (oFieldAddr 1 1 x1) fun x54 =>
 bindP (oLoad 1 false S x54) fun x55 =>
 ifA x55
 (bindP (oNilC v0) fun x56 =>
 bindP (oFieldAddr 12 1 x56) fun x57 =>
 bindP (oLoad 1 false S x57) fun x58 =>
 bindC (callN κ.toOracle 48 [x58] S) pnA fun x59 S =>
 bindP (oFieldAddr 4 5 x1) fun x60 =>
 bindC (ok (oStore 5 S x60 x59)) pnA fun _ S =>
 bif sameD [] [] then Join j50 [] S else none)
 (bif sameD [] [] then Join j50 [] S else none))
 else none)
 else none
theorem e38 (N : Nat) (κ : Oracles) (v0 v1 : AV) (S : St) : runF (Cs N) κ false 38 [v0, v1] S = s38 N κ v0 v1 S := by kernel_rfl
/- (*sacristan/world.World).Procs -/
def s40 (N : Nat) (κ : Oracles) (v0 : AV) (S : St) : R :=
 bindP (bE (eNil kPtr v0 .nilptr)) fun x1 =>
 ifA x1
 (some (.ret .nilptr, S))
 (bindP (oNilC v0) fun x2 =>
 bindP (oFieldAddr 4 1 x2) fun x3 =>
 bindP (oLoad 1 false S x3) fun x4 =>
 some (.ret x4, S))
theorem e40 (N : Nat) (κ : Oracles) (v0 : AV) (S : St) : runF (Cs N) κ false 40 [v0] S = s40 N κ v0 S := by kernel_rfl
/- (*sacristan/world.World).Arm -/
def s44 (N : Nat) (κ : Oracles) (v0 v1 v2 v3 : AV) (S : St) : R :=
 bindC (oBox S v2) pnA fun x1 S =>
 bindC (oBox S v3) pnA fun x2 S =>
 bindP (bE (eNil kPtr v0 .nilptr)) fun x3 =>
 ifA x3
 (some (.ret (.int .i64 1), S))
 (bindP (oNilC v0) fun x4 =>
 bindP (oFieldAddr 1 1 x4) fun x5 =>
 bindP (oLoad 1 false S x5) fun x6 =>
 bindC (callN κ.toOracle 101 [x6, v1] S) pnA fun x7 S =>
 bindP (bN (eG (some [.i]) false false false x7 (.int .i64 0))) fun x8 =>
 ifA x8
 (some (.ret x7, S))
 (bindP (oLoad 3 true S x1) fun x9 =>
 bindP (oLoad 3 true S x2) fun x10 =>
 bindP (oFill (plA 3) [.int .u64 0, .int .i64 0, .int .i64 0, .int .u64 0, .int .i64 0, .int .i64 0] [(0, x9), (1, x10)]) fun x11 =>
 bindP (oNilC v0) fun x12 =>
 bindP (oFieldAddr 6 6 x12) fun x13 =>
 bindC (ok (oStore 6 S x13 x11)) pnA fun _ S =>
 some (.ret (.int .i64 0), S)))
theorem e44 (N : Nat) (κ : Oracles) (v0 v1 v2 v3 : AV) (S : St) : runF (Cs N) κ false 44 [v0, v1, v2, v3] S = s44 N κ v0 v1 v2 v3 S := by kernel_rfl
/- sacristan/agent.Boot -/
def s45 (N : Nat) (κ : Oracles) (v0 v1 : AV) (S : St) : R :=
 bindC (oBox S v0) pnA fun x1 S =>
 bindP (bE (eNil kPtr v1 .nilptr)) fun x2 =>
 ifA x2
 (some (.ret (.tup [.nilptr, (.int .i64 1)]), S))
 (bindP (oLoad 11 true S x1) fun x3 =>
 bindC (apart κ.toOracle 31 [x3] S) pnA fun x4 S =>
 bindP (bN (eG (some [.i]) false false false x4 (.int .i64 0))) fun x5 =>
 ifA x5
 (some (.ret (.tup [.nilptr, x4]), S))
 (bindP (oLoad 11 true S x1) fun x6 =>
 bindC (callN κ.toOracle 103 [v1] S) (fun v Sx => bif (true && true) && true then pnA v Sx else none) fun x7 S8 =>
 bindC (callN κ.toOracle 102 [x6, x7] S8) (fun v Sx => bif (true && (((false || (chkA (oLoad 11 true S x1) x6 && chkA (oLoad 11 true S8 x1) x6)) && true) && true)) && true then pnA v Sx else none) fun x9 S10 =>
 bindP (oExt x9 0) fun x11 =>
 bindP (oExt x9 1) fun x12 =>
 bif ((true && ((false || (chkA (oLoad 11 true S x1) x6 && chkA (oLoad 11 true S8 x1) x6)) && true)) && true) then
 (let S := S10;
 bindP (bN (eG (some [.i]) false false false x12 (.int .i64 0))) fun x13 =>
 ifA x13
 (some (.ret (.tup [.nilptr, x12]), S))
 (bindP (oLoad 11 true S x1) fun x14 =>
 bindC (callN κ.toOracle 105 [v1] S) (fun v Sx => bif (true && true) && (rfA (some x11) fun x17 => true) then pnA v Sx else none) fun x15 S16 =>
 bindC (callN κ.toOracle 106 [x11] S16) (fun v Sx => bif (true && (((false || (chkA (oLoad 11 true S x1) x14 && chkA (oLoad 11 true S16 x1) x14)) && true) && true)) && true then pnA v Sx else none) fun x18 S19 =>
 bindC (callN κ.toOracle 104 [x14, x15, x18] S19) (fun v Sx => bif (true && (((false || (chkA (oLoad 11 true S16 x1) x14 && chkA (oLoad 11 true S19 x1) x14)) && ((false || (chkA (oLoad 11 true S x1) x14 && chkA (oLoad 11 true S16 x1) x14)) && true)) && true)) && true then pnA v Sx else none) fun x20 S21 =>
 bindP (oExt x20 0) fun x22 =>
 bindP (oExt x20 1) fun x23 =>
 bif ((true && ((false || (chkA (oLoad 11 true S16 x1) x14 && chkA (oLoad 11 true S19 x1) x14)) && ((false || (chkA (oLoad 11 true S x1) x14 && chkA (oLoad 11 true S16 x1) x14)) && true))) && true) then
 (let S := S21;
 bindP (bN (eG (some [.i]) false false false x23 (.int .i64 0))) fun x24 =>
 ifA x24
 (some (.ret (.tup [.nilptr, x23]), S))
 (bindP (oLoad 11 true S x1) fun x25 =>
 bindC (callN κ.toOracle 108 [x11] S) (fun v Sx => bif (true && true) && (rfA (some v1) fun x28 => (rfA (some v1) fun x29 => true)) then pnA v Sx else none) fun x26 S27 =>
 bindC (callN κ.toOracle 33 [v1] S27) (fun v Sx => bif (true && (((false || (chkA (oLoad 11 true S x1) x25 && chkA (oLoad 11 true S27 x1) x25)) && true) && true)) && (rfA (some v1) fun x32 => true) then pnA v Sx else none) fun x30 S31 =>
 bindC (callN κ.toOracle 40 [v1] S31) (fun v Sx => bif (true && (((false || (chkA (oLoad 11 true S27 x1) x25 && chkA (oLoad 11 true S31 x1) x25)) && ((false || (chkA (oLoad 11 true S x1) x25 && chkA (oLoad 11 true S27 x1) x25)) && true)) && true)) && true then pnA v Sx else none) fun x33 S34 =>
 bindC (callN κ.toOracle 95 [x33] S34) (fun v Sx => bif (true && (((false || (chkA (oLoad 11 true S31 x1) x25 && chkA (oLoad 11 true S34 x1) x25)) && ((false || (chkA (oLoad 11 true S27 x1) x25 && chkA (oLoad 11 true S31 x1) x25)) && ((false || (chkA (oLoad 11 true S x1) x25 && chkA (oLoad 11 true S27 x1) x25)) && true))) && true)) && true then pnA v Sx else none) fun x35 S36 =>
 bindC (apart κ.toOracle 107 [x25, x26, x30, x35] S36) (fun _ _ => none) fun x37 S38 =>
 bindP (oExt x37 0) fun x39 =>
 bindP (oExt x37 1) fun x40 =>
 bif ((true && (true && (true && (true && true)))) && (((false || (chkA (oLoad 11 true S34 x1) x25 && chkA (oLoad 11 true S36 x1) x25)) && ((false || (chkA (oLoad 11 true S31 x1) x25 && chkA (oLoad 11 true S34 x1) x25)) && ((false || (chkA (oLoad 11 true S27 x1) x25 && chkA (oLoad 11 true S31 x1) x25)) && ((false || (chkA (oLoad 11 true S x1) x25 && chkA (oLoad 11 true S27 x1) x25)) && true)))) && true)) then
 (let S := S38;
 bindP (bN (eG (some [.i]) false false false x40 (.int .i64 0))) fun x41 =>
 ifA x41
 (some (.ret (.tup [.nilptr, x40]), S))
 (bindP (oLen S (.slice 116) x39) fun x42 =>
 loop1 (fun vals S1 k43 =>
 let S := gcHead false S.objs.length [] vals S1;
 let x44 := vals.getD 0 .junk;
 let x45 := vals.getD 1 .junk;
 let x46 := vals.getD 2 .junk;
 bindP (oArith .lss x46 x42) fun x47 =>
 ifA x47
 (bindP (oIndexAddrS 9 x39 x46) fun x48 =>
 bindP (oLoad 9 true S x48) fun x49 =>
 bindC (oAl S [.int .i64 0, .int .i64 0, .int .i64 0, .int .i64 0, .int .i64 0, .bool false, .bool false, .bool false, .int .i64 0]) pnA fun x50 S =>
 bindC (ok (oStore 9 S x50 x49)) pnA fun _ S =>
 bindC (callN κ.toOracle 40 [v1] S) (fun v Sx => bif (true && true) && (rfA (oFieldAddr 0 1 x50) fun x53 => false) then pnA v Sx else none) fun x51 S52 =>
 bindP (oFieldAddr 0 1 x50) fun x54 =>
 bindP (oLoad 1 false S52 x54) fun x55 =>
 bindP (oFieldAddr 1 1 x50) fun x56 =>
 bindP (oLoad 1 false S52 x56) fun x57 =>
 bindC (callN κ.toOracle 109 [x51, x55, x57] S52) (fun v Sx => bif (true && (((false || (chkA (oLoad 1 false S x56) x57 && chkA (oLoad 1 false S52 x56) x57)) && true) && (((false || (chkA (oLoad 1 false S x54) x55 && chkA (oLoad 1 false S52 x54) x55)) && true) && true))) && true then pnA v Sx else none) fun x58 S59 =>
 bif ((true && ((false || (chkA (oLoad 1 false S x56) x57 && chkA (oLoad 1 false S52 x56) x57)) && true)) && ((true && ((false || (chkA (oLoad 1 false S x54) x55 && chkA (oLoad 1 false S52 x54) x55)) && true)) && true)) then
 (let S := S59;
 bindP (bN (eG (some [.i]) false false false x58 (.int .i64 0))) fun x60 =>
 ifA x60
 (some (.ret (.tup [.nilptr, x58]), S))
 (bindP (oArith .add x46 (.int .i64 1)) fun x61 =>
 bif sameD [] [] then k43 [x44, x45, x61] S else none))
 else none)
 (bindP (oLoad 11 true S x1) fun x62 =>
 bindC (callN κ.toOracle 110 [] S) (fun v Sx => bif (true && true) && true then pnA v Sx else none) fun x63 S64 =>
 bindP (oFill (plS [(0, 1), (1, 11), (12, 1), (13, 1), (14, 1), (15, 1), (16, 1)]) [.nilptr, .int .i64 0, .int .i64 0, .int .i64 0, .int .i64 0, .int .i64 0, .int .i64 0, .int .i64 0, .int .i64 0, .int .i64 0, .int .i64 0, .int .i64 0, .nilptr, .nilptr, .nilptr, .int .i64 0, .bool false] [(0, x11), (1, x62), (2, v1), (3, x22), (4, x63), (5, (.int .i64 (-1)))]) fun x65 =>
 bindC (oBox S64 x65) (fun v Sx => bif (true && (((false || (chkA (oLoad 11 true S x1) x62 && chkA (oLoad 11 true S64 x1) x62)) && true) && true)) && true then pnA v Sx else none) fun x66 S67 =>
 bif ((true && ((false || (chkA (oLoad 11 true S x1) x62 && chkA (oLoad 11 true S64 x1) x62)) && true)) && true) then
 (let S := S67;
 some (.ret (.tup [x66, (.int .i64 0)]), S))
 else none)) N [.nilptr, (.int .i64 0), (.int .i64 0)] S))
 else none))
 else none))
 else none))
theorem e45 (N : Nat) (κ : Oracles) (v0 v1 : AV) (S : St) : runF (Cs N) κ false 45 [v0, v1] S = s45 N κ v0 v1 S := by kernel_rfl
/- (*sacristan/run.Run).told -/
def s46 (N : Nat) (κ : Oracles) (v0 v1 v2 v3 : AV) (S : St) : R :=
 bindC (oBox S v1) pnA fun x1 S =>
 bindP (oNilC v0) fun x2 =>
 bindP (oFieldAddr 12 1 x2) fun x3 =>
 bindP (oLoad 1 false S x3) fun x4 =>
 bindP (bE (eNil kPtr x4 .nilptr)) fun x5 =>
 ifA x5
 (let j6 : List AV → St → R := (fun vals S =>
 some (.ret (.tup []), S));
 bindP (oFieldAddr 0 1 x1) fun x7 =>
 bindP (oLoad 1 false S x7) fun x8 =>
 bindP (bE (eG (some [.i]) false false false x8 (.int .u8 3))) fun x9 =>
 bindP (guardP x9 false (oFieldAddr 0 1 x1)) fun x10 =>
 bindP (guardP x9 false (oLoad 1 false S x10)) fun x11 =>
 bindP (guardP x9 false (bE (eG (some [.i]) false false false x11 (.int .u8 12)))) fun x12 =>
 bindP (oPick x9 (.bool true) x12) fun x13 =>
 bindP (guardP x13 false (oFieldAddr 0 1 x1)) fun x14 =>
 bindP (guardP x13 false (oLoad 1 false S x14)) fun x15 =>
 bindP (guardP x13 false (bE (eG (some [.i]) false false false x15 (.int .u8 13)))) fun x16 =>
 bindP (oPick x13 (.bool true) x16) fun x17 =>
 ifA x17
 (bindP (oNilC v2) fun x18 =>
 bindP (oFieldAddr 0 1 x18) fun x19 =>
 bindC (ok (oStore 1 S x19 (.int .u8 9))) pnA fun _ S =>
 bif sameD [] [] then Join j6 [] S else none)
 (bif sameD [] [] then Join j6 [] S else none))
 (bindP (oFieldAddr 0 1 x1) fun x20 =>
 bindP (oLoad 1 false S x20) fun x21 =>
 bindP (bE (eG (some [.i]) false false false x21 (.int .u8 2))) fun x22 =>
 ifA x22
 (bindP (oNilC v0) fun x23 =>
 bindP (oFieldAddr 12 1 x23) fun x24 =>
 bindP (oLoad 1 false S x24) fun x25 =>
 bindC (callN κ.toOracle 111 [x25] S) pnA fun x26 S =>
 bindP (bE (eG (some [.i]) false false false x26 (.int .i64 0))) fun x27 =>
 bindP (oNilC v3) fun x28 =>
 bindP (oFieldAddr 3 1 x28) fun x29 =>
 bindC (ok (oStore 1 S x29 x27)) pnA fun _ S =>
 some (.ret (.tup []), S))
 (bindP (bE (eG (some [.i]) false false false x21 (.int .u8 3))) fun x30 =>
 ifA x30
 (bindP (oNilC v0) fun x31 =>
 bindP (oFieldAddr 12 1 x31) fun x32 =>
 bindP (oLoad 1 false S x32) fun x33 =>
 bindP (oFieldAddr 6 1 x1) fun x34 =>
 bindP (oLoad 1 false S x34) fun x35 =>
 bindC (callN κ.toOracle 112 [x33, x35] S) (fun v Sx => bif (true && true) && true then pnA v Sx else none) fun x36 S37 =>
 bindP (oExt x36 0) fun x38 =>
 bindP (oExt x36 1) fun x39 =>
 bindP (oNilC v2) fun x40 =>
 bindP (oFieldAddr 0 1 x40) fun x41 =>
 bindC (ok (oStore 1 S37 x41 x38)) (fun v Sx => bif (true && true) && true then pnA v Sx else none) fun _ S42 =>
 bif true then
 (let S := S42;
 some (.ret (.tup []), S))
 else none)
 (bindP (bE (eG (some [.i]) false false false x21 (.int .u8 4))) fun x43 =>
 ifA x43
 (bindP (oNilC v0) fun x44 =>
 bindP (oFieldAddr 11 1 x44) fun x45 =>
 bindP (oLoad 1 false S x45) fun x46 =>
 bindC (callN κ.toOracle 96 [x46] S) pnA fun x47 S =>
 bindC (callN κ.toOracle 97 [x47] S) pnA fun x48 S =>
 bindP (oFieldAddr 1 1 x1) fun x49 =>
 bindP (oLoad 1 false S x49) fun x50 =>
 bindP (oLen S (.slice 3) x48) fun x51 =>
 bindP (oArith .lss x50 x51) fun x52 =>
 ifA x52
 (bindP (oFieldAddr 1 1 x1) fun x53 =>
 bindP (oLoad 1 false S x53) fun x54 =>
 bindP (oIndexAddrS 1 x48 x54) fun x55 =>
 bindP (oLoad 1 false S x55) fun x56 =>
 bindP (oNilC v3) fun x57 =>
 bindP (oFieldAddr 11 1 x57) fun x58 =>
 bindC (ok (oStore 1 S x58 x56)) pnA fun _ S =>
 bindP (oNilC v0) fun x59 =>
 bindP (oFieldAddr 12 1 x59) fun x60 =>
 bindP (oLoad 1 false S x60) fun x61 =>
 bindP (oFieldAddr 1 1 x1) fun x62 =>
 bindP (oLoad 1 false S x62) fun x63 =>
 bindP (oIndexAddrS 1 x48 x63) fun x64 =>
 bindP (oLoad 1 false S x64) fun x65 =>
 bindC (callN κ.toOracle 113 [x61, x65] S) (fun v Sx => bif (true && true) && true then pnA v Sx else none) fun x66 S67 =>
 bif true then
 (let S := S67;
 some (.ret (.tup []), S))
 else none)
 (some (.ret (.tup []), S)))
 (bindP (bE (eG (some [.i]) false false false x21 (.int .u8 6))) fun x68 =>
 ifA x68
 (bindP (oNilC v0) fun x69 =>
 bindP (oFieldAddr 12 1 x69) fun x70 =>
 bindP (oLoad 1 false S x70) fun x71 =>
 bindP (oFieldAddr 2 1 x1) fun x72 =>
 bindP (oLoad 1 false S x72) fun x73 =>
 bindP (oFieldAddr 3 1 x1) fun x74 =>
 bindP (oLoad 1 false S x74) fun x75 =>
 bindP (oFieldAddr 5 1 x1) fun x76 =>
 bindP (oLoad 1 false S x76) fun x77 =>
 bindC (callN κ.toOracle 114 [x71, x73, x75, x77] S) (fun v Sx => bif (true && true) && true then pnA v Sx else none) fun x78 S79 =>
 bif true then
 (let S := S79;
 some (.ret (.tup []), S))
 else none)
 (bindP (bE (eG (some [.i]) false false false x21 (.int .u8 7))) fun x80 =>
 ifA x80
 (bindP (oNilC v0) fun x81 =>
 bindP (oFieldAddr 11 1 x81) fun x82 =>
 bindP (oLoad 1 false S x82) fun x83 =>
 bindC (callN κ.toOracle 40 [x83] S) pnA fun x84 S =>
 bindC (callN κ.toOracle 115 [x84] S) pnA fun x85 S =>
 bindP (oLen S (.slice 116) x85) fun x86 =>
 bindP (oArith .gtr x86 (.int .i64 0)) fun x87 =>
 ifA x87
 (bindP (oNilC v0) fun x88 =>
 bindP (oFieldAddr 12 1 x88) fun x89 =>
 bindP (oLoad 1 false S x89) fun x90 =>
 bindP (oFieldAddr 1 1 x1) fun x91 =>
 bindP (oLoad 1 false S x91) fun x92 =>
 bindP (oLen S (.slice 116) x85) fun x93 =>
 bindP (oArith .rem x92 x93) fun x94 =>
 bindP (oIndexAddrS 9 x85 x94) fun x95 =>
 bindP (oFieldAddr 2 3 x95) fun x96 =>
 bindP (oLoad 3 true S x96) fun x97 =>
 bindP (oFieldAddr 6 1 x1) fun x98 =>
 bindP (oLoad 1 false S x98) fun x99 =>
 bindC (callN κ.toOracle 116 [x90, x97, x99] S) (fun v Sx => bif (true && true) && true then pnA v Sx else none) fun x100 S101 =>
 bif true then
 (let S := S101;
 some (.ret (.tup []), S))
 else none)
 (some (.ret (.tup []), S)))
 (bindP (bE (eG (some [.i]) false false false x21 (.int .u8 12))) fun x102 =>
 ifA x102
 (bindP (oNilC v0) fun x103 =>
 bindP (oFieldAddr 12 1 x103) fun x104 =>
 bindP (oLoad 1 false S x104) fun x105 =>
 bindC (callN κ.toOracle 48 [x105] S) (fun v Sx => bif (true && true) && (rfA (some v0) fun x108 => (rfA (oNilC x108) fun x109 => (rfA (oFieldAddr 11 1 x109) fun x110 => false))) then pnA v Sx else none) fun x106 S107 =>
 bindP (oNilC v0) fun x111 =>
 bindP (oFieldAddr 11 1 x111) fun x112 =>
 bindP (oLoad 1 false S107 x112) fun x113 =>
 bindC (callN κ.toOracle 40 [x113] S107) (fun v Sx => bif (true && (((false || (chkA (oLoad 1 false S x112) x113 && chkA (oLoad 1 false S107 x112) x113)) && true) && ((true && true) && true))) && true then pnA v Sx else none) fun x114 S115 =>
 bindC (callN κ.toOracle 95 [x114] S115) (fun v Sx => bif (true && ((true && ((false || (chkA (oLoad 1 false S x112) x113 && chkA (oLoad 1 false S107 x112) x113)) && true)) && ((true && (true && true)) && true))) && true then pnA v Sx else none) fun x116 S117 =>
 bindC (apart κ.toOracle 117 [x106, x116] S117) (fun _ _ => none) fun x118 S119 =>
 bindP (oNilC v2) fun x120 =>
 bindP (oFieldAddr 1 1 x120) fun x121 =>
 bindC (ok (oStore 1 S119 x121 x118)) (fun v Sx => bif (true && ((true && (true && (true && true))) && ((true && (true && ((false || (chkA (oLoad 1 false S x112) x113 && chkA (oLoad 1 false S107 x112) x113)) && true))) && ((true && (true && (true && true))) && true)))) && true then pnA v Sx else none) fun _ S122 =>
 bif ((true && (true && (true && (true && true)))) && ((true && (true && (true && ((false || (chkA (oLoad 1 false S x112) x113 && chkA (oLoad 1 false S107 x112) x113)) && true)))) && ((true && (true && (true && (true && true)))) && true))) then
 (let S := S122;
 some (.ret (.tup []), S))
 else none)
 (bindP (bE (eG (some [.i]) false false false x21 (.int .u8 13))) fun x123 =>
 ifA x123
 (bindP (oNilC v0) fun x124 =>
 bindP (oFieldAddr 12 1 x124) fun x125 =>
 bindP (oLoad 1 false S x125) fun x126 =>
 bindP (oFieldAddr 2 1 x1) fun x127 =>
 bindP (oLoad 1 false S x127) fun x128 =>
 bindP (oFieldAddr 3 1 x1) fun x129 =>
 bindP (oLoad 1 false S x129) fun x130 =>
 bindP (oFieldAddr 1 1 x1) fun x131 =>
 bindP (oLoad 1 false S x131) fun x132 =>
 bindP (oFieldAddr 4 1 x1) fun x133 =>
 bindP (oLoad 1 false S x133) fun x134 =>
 bindC (callN κ.toOracle 118 [x126, x128, x130, x132, x134] S) (fun v Sx => bif (true && true) && true then pnA v Sx else none) fun x135 S136 =>
 bindP (oExt x135 0) fun x137 =>
 bindP (oExt x135 1) fun x138 =>
 bindP (oExt x135 2) fun x139 =>
 bindP (oNilC v2) fun x140 =>
 bindP (oFieldAddr 2 1 x140) fun x141 =>
 bindC (ok (oStore 1 S136 x141 x137)) (fun v Sx => bif (true && true) && true then pnA v Sx else none) fun _ S142 =>
 bindP (oNilC v2) fun x143 =>
 bindP (oFieldAddr 3 1 x143) fun x144 =>
 bindC (ok (oStore 1 S142 x144 x138)) (fun v Sx => bif (true && true) && true then pnA v Sx else none) fun _ S145 =>
 bif true then
 (let S := S145;
 some (.ret (.tup []), S))
 else none)
 (some (.ret (.tup []), S)))))))))
theorem e46 (N : Nat) (κ : Oracles) (v0 v1 v2 v3 : AV) (S : St) : runF (Cs N) κ false 46 [v0, v1, v2, v3] S = s46 N κ v0 v1 v2 v3 S := by kernel_rfl
/- sacristan/world.New -/
def s47 (N : Nat) (κ : Oracles) (v0 : AV) (S : St) : R :=
 bindC (oBox S v0) pnA fun x1 S =>
 bindP (oLoad 11 true S x1) fun x2 =>
 bindC (apart κ.toOracle 31 [x2] S) pnA fun x3 S =>
 bindP (bN (eG (some [.i]) false false false x3 (.int .i64 0))) fun x4 =>
 ifA x4
 (some (.ret (.tup [.nilptr, x3]), S))
 (bindC (callN κ.toOracle 119 [] S) pnA fun x5 S =>
 bindP (oFill (plS [(0, 1), (1, 1), (2, 1), (3, 1), (4, 1), (5, 1), (6, 6)]) [.int .i64 0, .nilptr, .nilptr, .nilptr, .nilptr, .nilptr, .int .u64 0, .int .i64 0, .int .i64 0, .int .u64 0, .int .i64 0, .int .i64 0] [(1, x5)]) fun x6 =>
 bindC (oBox S x6) pnA fun x7 S =>
 bindC (oAl S [.int .i64 0, .int .i64 0, .int .i64 0, .int .i64 0]) pnA fun x8 S =>
 bindP (oFieldAddr 4 1 x1) fun x9 =>
 bindP (oLoad 1 false S x9) fun x10 =>
 bindP (oArith .mul (.int .i64 2) x10) fun x11 =>
 bindP (oArith .add (.int .i64 2) x11) fun x12 =>
 bindP (oNilC x7) fun x13 =>
 bindP (oFieldAddr 1 1 x13) fun x14 =>
 bindP (oLoad 1 false S x14) fun x15 =>
 bindC (callN κ.toOracle 120 [x12, x15] S) (fun v Sx => bif (true && true) && true then pnA v Sx else none) fun x16 S17 =>
 bindP (oExt x16 0) fun x18 =>
 bindP (oExt x16 1) fun x19 =>
 bindP (oNilC x7) fun x20 =>
 bindP (oFieldAddr 2 1 x20) fun x21 =>
 bindC (ok (oStore 1 S17 x21 x18)) (fun v Sx => bif (true && true) && true then pnA v Sx else none) fun _ S22 =>
 bindP (oIndexAddrA 4 1 x8 (.int .i64 0)) fun x23 =>
 bindC (ok (oStore 1 S22 x23 x19)) (fun v Sx => bif (true && true) && true then pnA v Sx else none) fun _ S24 =>
 bif true then
 (let S := S24;
 bindP (oLoad 11 true S x1) fun x25 =>
 bindC (apart κ.toOracle 121 [x25] S) (fun _ _ => none) fun x26 S27 =>
 bindP (oNilC x7) fun x28 =>
 bindP (oFieldAddr 1 1 x28) fun x29 =>
 bindP (oLoad 1 false S27 x29) fun x30 =>
 bindC (callN κ.toOracle 120 [x26, x30] S27) (fun v Sx => bif (true && true) && true then pnA v Sx else none) fun x31 S32 =>
 bindP (oExt x31 0) fun x33 =>
 bindP (oExt x31 1) fun x34 =>
 bindP (oNilC x7) fun x35 =>
 bindP (oFieldAddr 3 1 x35) fun x36 =>
 bindC (ok (oStore 1 S32 x36 x33)) (fun v Sx => bif (true && true) && true then pnA v Sx else none) fun _ S37 =>
 bindP (oIndexAddrA 4 1 x8 (.int .i64 1)) fun x38 =>
 bindC (ok (oStore 1 S37 x38 x34)) (fun v Sx => bif (true && true) && true then pnA v Sx else none) fun _ S39 =>
 bif true then
 (let S := S39;
 bindP (oNilC x7) fun x40 =>
 bindP (oFieldAddr 1 1 x40) fun x41 =>
 bindP (oLoad 1 false S x41) fun x42 =>
 bindC (callN κ.toOracle 122 [x42] S) pnA fun x43 S =>
 bindP (oExt x43 0) fun x44 =>
 bindP (oExt x43 1) fun x45 =>
 bindP (oNilC x7) fun x46 =>
 bindP (oFieldAddr 4 1 x46) fun x47 =>
 bindC (ok (oStore 1 S x47 x44)) pnA fun _ S =>
 bindP (oIndexAddrA 4 1 x8 (.int .i64 2)) fun x48 =>
 bindC (ok (oStore 1 S x48 x45)) pnA fun _ S =>
 bindP (oNilC x7) fun x49 =>
 bindP (oFieldAddr 1 1 x49) fun x50 =>
 bindP (oLoad 1 false S x50) fun x51 =>
 bindC (callN κ.toOracle 123 [x51] S) pnA fun x52 S =>
 bindP (oExt x52 0) fun x53 =>
 bindP (oExt x52 1) fun x54 =>
 bindP (oNilC x7) fun x55 =>
 bindP (oFieldAddr 5 1 x55) fun x56 =>
 bindC (ok (oStore 1 S x56 x53)) pnA fun _ S =>
 bindP (oIndexAddrA 4 1 x8 (.int .i64 3)) fun x57 =>
 bindC (ok (oStore 1 S x57 x54)) pnA fun _ S =>
 bindP (oLoad 4 true S x8) fun x58 =>
 loop1 (fun vals S1 k59 =>
 let S := gcHead false S.objs.length [] vals S1;
 let x60 := vals.getD 0 .junk;
 let x61 := vals.getD 1 .junk;
 let x62 := vals.getD 2 .junk;
 bindP (oArith .lss x62 (.int .i64 4)) fun x63 =>
 ifA x63
 (bindP (oIndexArr 4 1 false x58 x62) fun x64 =>
 bindP (bN (eG (some [.i]) false false false x64 (.int .i64 0))) fun x65 =>
 ifA x65
 (some (.ret (.tup [.nilptr, x64]), S))
 (bindP (oArith .add x62 (.int .i64 1)) fun x66 =>
 bif sameD [] [] then k59 [x60, x61, x66] S else none))
 (some (.ret (.tup [x7, (.int .i64 0)]), S))) N [.nilptr, (.int .i64 0), (.int .i64 0)] S)
 else none)
 else none)
theorem e47 (N : Nat) (κ : Oracles) (v0 : AV) (S : St) : runF (Cs N) κ false 47 [v0] S = s47 N κ v0 S := by kernel_rfl
/- (*sacristan/agent.Agent).State -/
def s48 (N : Nat) (κ : Oracles) (v0 : AV) (S : St) : R :=
 bindC (oAl S [.int .i64 0, .int .i64 0, .int .i64 0, .int .i64 0, .lst .nil 0 []]) pnA fun x1 S =>
 bindP (bE (eNil kPtr v0 .nilptr)) fun x2 =>
 ifA x2
 (bindP (oFill (plS [(0, 1), (1, 1), (2, 1), (3, 1), (4, 1)]) [.int .i64 0, .int .i64 0, .int .i64 0, .int .i64 0, .lst .nil 0 []] []) fun x3 =>
 bindC (ok (oStore 5 S x1 x3)) pnA fun _ S =>
 (resA [(oLoad 5 true S x1)]).map fun vs => (.ret (packV vs), S))
 (bindP (oNilC v0) fun x4 =>
 bindP (oFieldAddr 0 1 x4) fun x5 =>
 bindP (oLoad 1 false S x5) fun x6 =>
 bindC (callN κ.toOracle 108 [x6] S) pnA fun x7 S =>
 bindC (ok (oStore 5 S x1 x7)) pnA fun _ S =>
 (resA [(oLoad 5 true S x1)]).map fun vs => (.ret (packV vs), S))
theorem e48 (N : Nat) (κ : Oracles) (v0 : AV) (S : St) : runF (Cs N) κ false 48 [v0] S = s48 N κ v0 S := by kernel_rfl
/- sacristan/sacristankit.EqualState -/
def s49 (N : Nat) (κ : Oracles) (v0 v1 : AV) (S : St) : R :=
 bindC (oBox S v0) pnA fun x1 S =>
 bindC (oBox S v1) pnA fun x2 S =>
 bindP (oFieldAddr 0 1 x1) fun x3 =>
 bindP (oLoad 1 false S x3) fun x4 =>
 bindP (oFieldAddr 0 1 x2) fun x5 =>
 bindP (oLoad 1 false S x5) fun x6 =>
 bindP (bE (eG (some [.i]) false false false x4 x6)) fun x7 =>
 bindP (guardP x7 true (oFieldAddr 1 1 x1)) fun x8 =>
 bindP (guardP x7 true (oLoad 1 false S x8)) fun x9 =>
 bindP (guardP x7 true (oFieldAddr 1 1 x2)) fun x10 =>
 bindP (guardP x7 true (oLoad 1 false S x10)) fun x11 =>
 bindP (guardP x7 true (bE (eG (some [.i]) false false false x9 x11))) fun x12 =>
 bindP (oPick x7 x12 (.bool false)) fun x13 =>
 bindP (guardP x13 true (oFieldAddr 2 1 x1)) fun x14 =>
 bindP (guardP x13 true (oLoad 1 false S x14)) fun x15 =>
 bindP (guardP x13 true (oFieldAddr 2 1 x2)) fun x16 =>
 bindP (guardP x13 true (oLoad 1 false S x16)) fun x17 =>
 bindP (guardP x13 true (bE (eG (some [.i]) false false false x15 x17))) fun x18 =>
 bindP (oPick x13 x18 (.bool false)) fun x19 =>
 bindP (guardP x19 true (oFieldAddr 3 1 x1)) fun x20 =>
 bindP (guardP x19 true (oLoad 1 false S x20)) fun x21 =>
 bindP (guardP x19 true (oFieldAddr 3 1 x2)) fun x22 =>
 bindP (guardP x19 true (oLoad 1 false S x22)) fun x23 =>
 bindP (guardP x19 true (bE (eG (some [.i]) false false false x21 x23))) fun x24 =>
 bindP (oPick x19 x24 (.bool false)) fun x25 =>
 bindP (guardP x25 true (oFieldAddr 4 1 x1)) fun x26 =>
 bindP (guardP x25 true (oLoad 1 false S x26)) fun x27 =>
 bindP (guardP x25 true (oFieldAddr 4 1 x2)) fun x28 =>
 bindP (guardP x25 true (oLoad 1 false S x28)) fun x29 =>
 bindC (guardC x25 true S (apart κ.toOracle 124 [x27, x29] S)) pnA fun x30 S =>
 bindP (oPick x25 x30 (.bool false)) fun x31 =>
 some (.ret x31, S)
theorem e49 (N : Nat) (κ : Oracles) (v0 v1 : AV) (S : St) : runF (Cs N) κ false 49 [v0, v1] S = s49 N κ v0 v1 S := by kernel_rfl
/- sacristan/sacristankit.EqualProcs -/
def s50 (N : Nat) (κ : Oracles) (v0 v1 : AV) (S : St) : R :=
 bindP (oLen S (.slice 116) v0) fun x1 =>
 bindP (oLen S (.slice 116) v1) fun x2 =>
 bindP (bN (eG (some [.i]) false false false x1 x2)) fun x3 =>
 ifA x3
 (some (.ret (.bool false), S))
 (loop1 (fun vals S1 k4 =>
 let S := gcHead false S.objs.length [] vals S1;
 let x5 := vals.getD 0 .junk;
 let x6 := vals.getD 1 .junk;
 bindP (oLen S (.slice 116) v0) fun x7 =>
 bindP (oArith .lss x6 x7) fun x8 =>
 ifA x8
 (bindP (oIndexAddrS 9 v0 x6) fun x9 =>
 bindP (oLoad 9 true S x9) fun x10 =>
 bindP (oIndexAddrS 9 v1 x6) fun x11 =>
 bindP (oLoad 9 true S x11) fun x12 =>
 bindP (bN (eG (some [.i, .i, .i, .i, .i, .b, .b, .b, .i]) true false false x10 x12)) fun x13 =>
 bif true then
 (let S := S;
 ifA x13
 (some (.ret (.bool false), S))
 (bindP (oArith .add x6 (.int .i64 1)) fun x14 =>
 bif sameD [] [] then k4 [x5, x14] S else none))
 else none)
 (some (.ret (.bool true), S))) N [(.bool false), (.int .i64 0)] S)
theorem e50 (N : Nat) (κ : Oracles) (v0 v1 : AV) (S : St) : runF (Cs N) κ false 50 [v0, v1] S = s50 N κ v0 v1 S := by kernel_rfl
/- sacristan/sacristankit.EqualInts -/
def s51 (N : Nat) (κ : Oracles) (v0 v1 : AV) (S : St) : R :=
 bindP (oLen S (.slice 3) v0) fun x1 =>
 bindP (oLen S (.slice 3) v1) fun x2 =>
 bindP (bN (eG (some [.i]) false false false x1 x2)) fun x3 =>
 ifA x3
 (some (.ret (.bool false), S))
 (loop1 (fun vals S1 k4 =>
 let S := gcHead false S.objs.length [] vals S1;
 let x5 := vals.getD 0 .junk;
 let x6 := vals.getD 1 .junk;
 bindP (oLen S (.slice 3) v0) fun x7 =>
 bindP (oArith .lss x6 x7) fun x8 =>
 ifA x8
 (bindP (oIndexAddrS 1 v0 x6) fun x9 =>
 bindP (oLoad 1 false S x9) fun x10 =>
 bindP (oIndexAddrS 1 v1 x6) fun x11 =>
 bindP (oLoad 1 false S x11) fun x12 =>
 bindP (bN (eG (some [.i]) false false false x10 x12)) fun x13 =>
 bif true then
 (let S := S;
 ifA x13
 (some (.ret (.bool false), S))
 (bindP (oArith .add x6 (.int .i64 1)) fun x14 =>
 bif sameD [] [] then k4 [x5, x14] S else none))
 else none)
 (some (.ret (.bool true), S))) N [(.bool false), (.int .i64 0)] S)
theorem e51 (N : Nat) (κ : Oracles) (v0 v1 : AV) (S : St) : runF (Cs N) κ false 51 [v0, v1] S = s51 N κ v0 v1 S := by kernel_rfl
/- sacristan/sacristankit.EqualRecs -/
def s52 (N : Nat) (κ : Oracles) (v0 v1 : AV) (S : St) : R :=
 bindP (oLen S (.slice 61) v0) fun x1 =>
 bindP (oLen S (.slice 61) v1) fun x2 =>
 bindP (bN (eG (some [.i]) false false false x1 x2)) fun x3 =>
 ifA x3
 (some (.ret (.bool false), S))
 (loop1 (fun vals S1 k4 =>
 let S := gcHead false S.objs.length [] vals S1;
 let x5 := vals.getD 0 .junk;
 let x6 := vals.getD 1 .junk;
 bindP (oLen S (.slice 61) v0) fun x7 =>
 bindP (oArith .lss x6 x7) fun x8 =>
 ifA x8
 (bindP (oIndexAddrS 15 v0 x6) fun x9 =>
 bindP (oLoad 15 true S x9) fun x10 =>
 bindP (oIndexAddrS 15 v1 x6) fun x11 =>
 bindP (oLoad 15 true S x11) fun x12 =>
 bindC (apart κ.toOracle 125 [x10, x12] S) (fun _ _ => none) fun x13 S14 =>
 bindP (oUn .not x13) fun x15 =>
 bif true then
 (let S := S14;
 ifA x15
 (some (.ret (.bool false), S))
 (bindP (oArith .add x6 (.int .i64 1)) fun x16 =>
 bif sameD [] [] then k4 [x5, x16] S else none))
 else none)
 (some (.ret (.bool true), S))) N [(.bool false), (.int .i64 0)] S)
theorem e52 (N : Nat) (κ : Oracles) (v0 v1 : AV) (S : St) : runF (Cs N) κ false 52 [v0, v1] S = s52 N κ v0 v1 S := by kernel_rfl
/- sacristan/state.Copy -/
def s53 (N : Nat) (κ : Oracles) (v0 : AV) (S : St) : R :=
 bindC (oBox S v0) pnA fun x1 S =>
 bindC (oAl S [.int .i64 0, .int .i64 0, .int .i64 0, .int .i64 0, .lst .nil 0 []]) pnA fun x2 S =>
 bindP (oLoad 5 true S x1) fun x3 =>
 bindC (oAl S [.int .i64 0, .int .i64 0, .int .i64 0, .int .i64 0, .lst .nil 0 []]) pnA fun x4 S =>
 bindC (ok (oStore 5 S x4 x3)) pnA fun _ S =>
 bindP (oFieldAddr 4 1 x1) fun x5 =>
 bindP (oLoad 1 false S x5) fun x6 =>
 bindC (callN κ.toOracle 126 [x6] S) pnA fun x7 S =>
 bindP (oFieldAddr 4 1 x4) fun x8 =>
 bindC (ok (oStore 1 S x8 x7)) pnA fun _ S =>
 bindP (oFieldAddr 4 1 x1) fun x9 =>
 bindP (oLoad 1 false S x9) fun x10 =>
 bindP (oLen S (.slice 58) x10) fun x11 =>
 loop1 (fun vals S1 k12 =>
 let S := gcHead false S.objs.length [] vals S1;
 let x13 := vals.getD 0 .junk;
 bindP (oArith .lss x13 x11) fun x14 =>
 ifA x14
 (bindP (oIndexAddrS 10 x10 x13) fun x15 =>
 bindP (oLoad 10 true S x15) fun x16 =>
 bindC (oAl S [.int .i64 0, .int .i64 0, .int .i64 0, .int .i64 0, .lst .nil 0 [], .lst .nil 0 [], .int .i64 0, .int .i64 0, .bool false, .lst .nil 0 []]) pnA fun x17 S =>
 bindC (ok (oStore 10 S x17 x16)) pnA fun _ S =>
 bindP (oFieldAddr 4 1 x4) fun x18 =>
 bindP (oLoad 1 false S x18) fun x19 =>
 bindP (oFieldAddr 0 6 x17) fun x20 =>
 bindP (oLoad 6 true S x20) fun x21 =>
 bindC (apart κ.toOracle 127 [x21] S) (fun _ _ => none) fun x22 S23 =>
 bindP (oIndexAddrS 10 x19 x13) fun x24 =>
 bindP (oFieldAddr 0 6 x24) fun x25 =>
 bindC (ok (oStore 6 S23 x25 x22)) (fun v Sx => bif (true && true) && true then pnA v Sx else none) fun _ S26 =>
 bif true then
 (let S := S26;
 bindP (oFieldAddr 4 1 x4) fun x27 =>
 bindP (oLoad 1 false S x27) fun x28 =>
 bindP (oFieldAddr 9 1 x17) fun x29 =>
 bindP (oLoad 1 false S x29) fun x30 =>
 bindC (callN κ.toOracle 128 [x30] S) (fun v Sx => bif (true && true) && true then pnA v Sx else none) fun x31 S32 =>
 bindP (oIndexAddrS 10 x28 x13) fun x33 =>
 bindP (oFieldAddr 9 1 x33) fun x34 =>
 bindC (ok (oStore 1 S32 x34 x31)) (fun v Sx => bif (true && ((true && true) && (((false || (chkA (oLoad 1 false S x27) x28 && chkA (oLoad 1 false S32 x27) x28)) && true) && true))) && true then pnA v Sx else none) fun _ S35 =>
 bif ((true && (true && true)) && ((true && ((false || (chkA (oLoad 1 false S x27) x28 && chkA (oLoad 1 false S32 x27) x28)) && true)) && true)) then
 (let S := S35;
 bindP (oFieldAddr 9 1 x17) fun x36 =>
 bindP (oLoad 1 false S x36) fun x37 =>
 bindP (oLen S (.slice 52) x37) fun x38 =>
 loop1 (fun vals S1 k39 =>
 let S := gcHead false S.objs.length [] vals S1;
 let x40 := vals.getD 0 .junk;
 bindP (oArith .lss x40 x38) fun x41 =>
 ifA x41
 (bindP (oIndexAddrS 8 x37 x40) fun x42 =>
 bindP (oLoad 8 true S x42) fun x43 =>
 bindC (oAl S [.int .u8 0, .int .i64 0, .int .i64 0, .int .i64 0, .int .i64 0, .int .i64 0, .int .i64 0, .lst .nil 0 []]) pnA fun x44 S =>
 bindC (ok (oStore 8 S x44 x43)) pnA fun _ S =>
 bindP (oFieldAddr 4 1 x4) fun x45 =>
 bindP (oLoad 1 false S x45) fun x46 =>
 bindP (oIndexAddrS 10 x46 x13) fun x47 =>
 bindP (oFieldAddr 9 1 x47) fun x48 =>
 bindP (oLoad 1 false S x48) fun x49 =>
 bindP (oFieldAddr 7 1 x44) fun x50 =>
 bindP (oLoad 1 false S x50) fun x51 =>
 bindC (apart κ.toOracle 55 [x51] S) (fun _ _ => none) fun x52 S53 =>
 bindP (oIndexAddrS 8 x49 x40) fun x54 =>
 bindP (oFieldAddr 7 1 x54) fun x55 =>
 bindC (ok (oStore 1 S53 x55 x52)) (fun v Sx => bif (true && true) && true then pnA v Sx else none) fun _ S56 =>
 bif true then
 (let S := S56;
 bindP (oArith .add x40 (.int .i64 1)) fun x57 =>
 bif sameD [] [] then k39 [x57] S else none)
 else none)
 (bindP (oArith .add x13 (.int .i64 1)) fun x58 =>
 bif sameD [] [] then k12 [x58] S else none)) N [(.int .i64 0)] S)
 else none)
 else none)
 (bindP (oLoad 5 true S x4) fun x59 =>
 bindC (ok (oStore 5 S x2 x59)) pnA fun _ S =>
 (resA [(oLoad 5 true S x2)]).map fun vs => (.ret (packV vs), S))) N [(.int .i64 0)] S
theorem e53 (N : Nat) (κ : Oracles) (v0 : AV) (S : St) : runF (Cs N) κ false 53 [v0] S = s53 N κ v0 S := by kernel_rfl
/- slices.Clone[[]sacristan/api.Proc,sacristan/api.Proc] -/
def s54 (N : Nat) (κ : Oracles) (v0 : AV) (S : St) : R :=
 bindP (bE (eNil kSli v0 (.lst .nil 0 []))) fun x1 =>
 ifA x1
 (some (.ret (.lst .nil 0 []), S))
 (bindC (oBS S 9 [.int .i64 0, .int .i64 0, .int .i64 0, .int .i64 0, .int .i64 0, .bool false, .bool false, .bool false, .int .i64 0] 0 []) pnA fun x2 S =>
 bindC (oApp false 9 56 S x2 v0) pnA fun x3 S =>
 some (.ret x3, S))
theorem e54 (N : Nat) (κ : Oracles) (v0 : AV) (S : St) : runF (Cs N) κ false 54 [v0] S = s54 N κ v0 S := by kernel_rfl
/- slices.Clone[[]int,int] -/
def s55 (N : Nat) (κ : Oracles) (v0 : AV) (S : St) : R :=
 bindP (bE (eNil kSli v0 (.lst .nil 0 []))) fun x1 =>
 ifA x1
 (some (.ret (.lst .nil 0 []), S))
 (bindC (oBS S 1 [.int .i64 0] 0 []) pnA fun x2 S =>
 bindC (oApp false 1 8 S x2 v0) pnA fun x3 S =>
 some (.ret x3, S))
theorem e55 (N : Nat) (κ : Oracles) (v0 : AV) (S : St) : runF (Cs N) κ false 55 [v0] S = s55 N κ v0 S := by kernel_rfl
/- sacristan/run.records -/
def s56 (N : Nat) (κ : Oracles) (v0 : AV) (S : St) : R :=
 bindC (callN κ.toOracle 129 [v0] S) pnA fun x1 S =>
 bindP (oLen S (.slice 61) x1) fun x2 =>
 loop1 (fun vals S1 k3 =>
 let S := gcHead false S.objs.length [] vals S1;
 let x4 := vals.getD 0 .junk;
 bindP (oArith .lss x4 x2) fun x5 =>
 ifA x5
 (bindP (oIndexAddrS 15 x1 x4) fun x6 =>
 bindP (oFieldAddr 2 6 x6) fun x7 =>
 bindP (oLoad 6 true S x7) fun x8 =>
 bindC (apart κ.toOracle 127 [x8] S) pnA fun x9 S =>
 bindP (oIndexAddrS 15 x1 x4) fun x10 =>
 bindP (oFieldAddr 2 6 x10) fun x11 =>
 bindC (ok (oStore 6 S x11 x9)) pnA fun _ S =>
 bindP (oArith .add x4 (.int .i64 1)) fun x12 =>
 bif sameD [] [] then k3 [x12] S else none)
 (some (.ret x1, S))) N [(.int .i64 0)] S
theorem e56 (N : Nat) (κ : Oracles) (v0 : AV) (S : St) : runF (Cs N) κ false 56 [v0] S = s56 N κ v0 S := by kernel_rfl
/- sacristan/pack.Int -/
def s69 (N : Nat) (κ : Oracles) (v0 : AV) (S : St) : R :=
 bindP (oArith .lss v0 (.int .i64 0)) fun x1 =>
 ifA x1
 (bindP (oArith .add v0 (.int .i64 1)) fun x2 =>
 bindP (oUn .neg x2) fun x3 =>
 bindP (cII .u64 x3) fun x4 =>
 bindP (oShiftV .shl x4 (.int .u64 1)) fun x5 =>
 bindP (oArith .or x5 (.int .u64 1)) fun x6 =>
 bindC (apart κ.toOracle 144 [x6] S) pnA fun x7 S =>
 some (.ret x7, S))
 (bindP (cII .u64 v0) fun x8 =>
 bindP (oShiftV .shl x8 (.int .u64 1)) fun x9 =>
 bindC (apart κ.toOracle 144 [x9] S) pnA fun x10 S =>
 some (.ret x10, S))
theorem e69 (N : Nat) (κ : Oracles) (v0 : AV) (S : St) : runF (Cs N) κ false 69 [v0] S = s69 N κ v0 S := by kernel_rfl
/- sacristan/spec.ask -/
def s75 (N : Nat) (κ : Oracles) (v0 : AV) (S : St) : R :=
 bindP (oLen S (.slice 93) v0) fun x1 =>
 loop1 (fun vals S1 k2 =>
 let S := gcHead false S.objs.length [] vals S1;
 let x3 := vals.getD 0 .junk;
 let x4 := vals.getD 1 .junk;
 bindP (oArith .lss x4 x1) fun x5 =>
 ifA x5
 (bindP (oIndexAddrS 1 v0 x4) fun x6 =>
 bindP (oLoad 1 false S x6) fun x7 =>
 bindC (callD κ.toOracle 75 x7 [] S) pnA fun x8 S =>
 bindP (bN (eG (some [.i]) false false false x8 (.int .i64 0))) fun x9 =>
 ifA x9
 (some (.ret x8, S))
 (bindP (oArith .add x4 (.int .i64 1)) fun x10 =>
 bif sameD [] [] then k2 [x3, x10] S else none))
 (some (.ret (.int .i64 0), S))) N [(.int .i64 0), (.int .i64 0)] S
theorem e75 (N : Nat) (κ : Oracles) (v0 : AV) (S : St) : runF (Cs N) κ false 75 [v0] S = s75 N κ v0 S := by kernel_rfl
/- sacristan/spec.Config$1 -/
def s76 (N : Nat) (κ : Oracles) (v0 : AV) (S : St) : R :=
 bindP (oFieldAddr 0 3 v0) fun x1 =>
 bindP (oLoad 3 true S x1) fun x2 =>
 bindC (apart κ.toOracle 77 [x2] S) pnA fun x3 S =>
 some (.ret x3, S)
theorem e76 (N : Nat) (κ : Oracles) (v0 : AV) (S : St) : runF (Cs N) κ false 76 [v0] S = s76 N κ v0 S := by kernel_rfl
/- sacristan/res.Check -/
def s77 (N : Nat) (κ : Oracles) (v0 : AV) (S : St) : R :=
 bindC (oBox S v0) pnA fun x1 S =>
 bindP (oLoad 3 true S x1) fun x2 =>
 bindC (apart κ.toOracle 158 [x2] S) pnA fun x3 S =>
 loop1 (fun vals S1 k4 =>
 let S := gcHead false S.objs.length [] vals S1;
 let x5 := vals.getD 0 .junk;
 let x6 := vals.getD 1 .junk;
 bindP (oArith .lss x6 (.int .i64 3)) fun x7 =>
 ifA x7
 (bindP (oIndexArr 3 1 false x3 x6) fun x8 =>
 bindP (oArith .lss x8 (.int .i64 0)) fun x9 =>
 bindP (guardP x9 false (some x8)) fun x10 =>
 bindP (guardP x9 false (oArith .gtr x10 (.int .i64 1099511627776))) fun x11 =>
 bindP (oPick x9 (.bool true) x11) fun x12 =>
 ifA x12
 (some (.ret (.int .i64 3), S))
 (bindP (oArith .add x6 (.int .i64 1)) fun x13 =>
 bif sameD [] [] then k4 [x5, x13] S else none))
 (some (.ret (.int .i64 0), S))) N [(.int .i64 0), (.int .i64 0)] S
theorem e77 (N : Nat) (κ : Oracles) (v0 : AV) (S : St) : runF (Cs N) κ false 77 [v0] S = s77 N κ v0 S := by kernel_rfl
/- sacristan/spec.Config$2 -/
def s78 (N : Nat) (κ : Oracles) (v0 : AV) (S : St) : R :=
 bindP (oFieldAddr 3 1 v0) fun x1 =>
 bindP (oLoad 1 false S x1) fun x2 =>
 bindC (apart κ.toOracle 79 [x2, (.int .i64 1), (.int .i64 8)] S) pnA fun x3 S =>
 some (.ret x3, S)
theorem e78 (N : Nat) (κ : Oracles) (v0 : AV) (S : St) : runF (Cs N) κ false 78 [v0] S = s78 N κ v0 S := by kernel_rfl
/- sacristan/spec.in -/
def s79 (N : Nat) (κ : Oracles) (v0 v1 v2 : AV) (S : St) : R :=
 bindP (oArith .lss v0 v1) fun x1 =>
 bindP (guardP x1 false (some v0)) fun x2 =>
 bindP (guardP x1 false (some v2)) fun x3 =>
 bindP (guardP x1 false (oArith .gtr x2 x3)) fun x4 =>
 bindP (oPick x1 (.bool true) x4) fun x5 =>
 ifA x5
 (some (.ret (.int .i64 3), S))
 (some (.ret (.int .i64 0), S))
theorem e79 (N : Nat) (κ : Oracles) (v0 v1 v2 : AV) (S : St) : runF (Cs N) κ false 79 [v0, v1, v2] S = s79 N κ v0 v1 v2 S := by kernel_rfl
/- sacristan/spec.Config$3 -/
def s80 (N : Nat) (κ : Oracles) (v0 : AV) (S : St) : R :=
 bindP (oFieldAddr 4 1 v0) fun x1 =>
 bindP (oLoad 1 false S x1) fun x2 =>
 bindP (oFieldAddr 3 1 v0) fun x3 =>
 bindP (oLoad 1 false S x3) fun x4 =>
 bindC (apart κ.toOracle 81 [x4] S) (fun _ _ => none) fun x5 S6 =>
 bindC (apart κ.toOracle 79 [x2, x5, (.int .i64 1024)] S6) (fun _ _ => none) fun x7 S8 =>
 bif true then
 (let S := S8;
 some (.ret x7, S))
 else none
theorem e80 (N : Nat) (κ : Oracles) (v0 : AV) (S : St) : runF (Cs N) κ false 80 [v0] S = s80 N κ v0 S := by kernel_rfl
/- sacristan/spec.Need -/
def s81 (N : Nat) (κ : Oracles) (v0 : AV) (S : St) : R :=
 bindP (oArith .lss v0 (.int .i64 1)) fun x1 =>
 bindP (guardP x1 false (some v0)) fun x2 =>
 bindP (guardP x1 false (oArith .gtr x2 (.int .i64 8))) fun x3 =>
 bindP (oPick x1 (.bool true) x3) fun x4 =>
 ifA x4
 (some (.ret (.int .i64 0), S))
 (bindP (oArith .add v0 (.int .i64 1)) fun x5 =>
 bindP (oArith .mul (.int .i64 16) x5) fun x6 =>
 some (.ret x6, S))
theorem e81 (N : Nat) (κ : Oracles) (v0 : AV) (S : St) : runF (Cs N) κ false 81 [v0] S = s81 N κ v0 S := by kernel_rfl
/- sacristan/spec.Config$4 -/
def s82 (N : Nat) (κ : Oracles) (v0 : AV) (S : St) : R :=
 bindP (oFieldAddr 5 1 v0) fun x1 =>
 bindP (oLoad 1 false S x1) fun x2 =>
 bindC (apart κ.toOracle 79 [x2, (.int .i64 2), (.int .i64 16)] S) pnA fun x3 S =>
 some (.ret x3, S)
theorem e82 (N : Nat) (κ : Oracles) (v0 : AV) (S : St) : runF (Cs N) κ false 82 [v0] S = s82 N κ v0 S := by kernel_rfl
/- sacristan/spec.Config$5 -/
def s83 (N : Nat) (κ : Oracles) (v0 : AV) (S : St) : R :=
 bindP (oFieldAddr 6 1 v0) fun x1 =>
 bindP (oLoad 1 false S x1) fun x2 =>
 bindC (apart κ.toOracle 79 [x2, (.int .i64 1), (.int .i64 64)] S) pnA fun x3 S =>
 some (.ret x3, S)
theorem e83 (N : Nat) (κ : Oracles) (v0 : AV) (S : St) : runF (Cs N) κ false 83 [v0] S = s83 N κ v0 S := by kernel_rfl
/- sacristan/spec.Config$6 -/
def s84 (N : Nat) (κ : Oracles) (v0 : AV) (S : St) : R :=
 bindP (oFieldAddr 7 1 v0) fun x1 =>
 bindP (oLoad 1 false S x1) fun x2 =>
 bindC (apart κ.toOracle 79 [x2, (.int .i64 1), (.int .i64 1099511627776)] S) pnA fun x3 S =>
 some (.ret x3, S)
theorem e84 (N : Nat) (κ : Oracles) (v0 : AV) (S : St) : runF (Cs N) κ false 84 [v0] S = s84 N κ v0 S := by kernel_rfl
/- sacristan/spec.Config$7 -/
def s85 (N : Nat) (κ : Oracles) (v0 : AV) (S : St) : R :=
 bindP (oFieldAddr 8 1 v0) fun x1 =>
 bindP (oLoad 1 false S x1) fun x2 =>
 bindC (apart κ.toOracle 79 [x2, (.int .i64 1), (.int .i64 1099511627776)] S) pnA fun x3 S =>
 some (.ret x3, S)
theorem e85 (N : Nat) (κ : Oracles) (v0 : AV) (S : St) : runF (Cs N) κ false 85 [v0] S = s85 N κ v0 S := by kernel_rfl
/- sacristan/spec.Config$8 -/
def s86 (N : Nat) (κ : Oracles) (v0 : AV) (S : St) : R :=
 bindP (oFieldAddr 9 1 v0) fun x1 =>
 bindP (oLoad 1 false S x1) fun x2 =>
 bindC (apart κ.toOracle 79 [x2, (.int .i64 0), (.int .i64 1099511627776)] S) pnA fun x3 S =>
 some (.ret x3, S)
theorem e86 (N : Nat) (κ : Oracles) (v0 : AV) (S : St) : runF (Cs N) κ false 86 [v0] S = s86 N κ v0 S := by kernel_rfl
/- sacristan/spec.Config$9 -/
def s87 (N : Nat) (κ : Oracles) (v0 : AV) (S : St) : R :=
 bindP (oFieldAddr 10 1 v0) fun x1 =>
 bindP (oLoad 1 false S x1) fun x2 =>
 bindC (apart κ.toOracle 79 [x2, (.int .i64 0), (.int .i64 1099511627776)] S) pnA fun x3 S =>
 some (.ret x3, S)
theorem e87 (N : Nat) (κ : Oracles) (v0 : AV) (S : St) : runF (Cs N) κ false 87 [v0] S = s87 N κ v0 S := by kernel_rfl
/- sacristan/model.within -/
def s88 (N : Nat) (κ : Oracles) (v0 v1 v2 : AV) (S : St) : R :=
 bindP (oArith .geq v0 v1) fun x1 =>
 bindP (guardP x1 true (some v0)) fun x2 =>
 bindP (guardP x1 true (some v2)) fun x3 =>
 bindP (guardP x1 true (oArith .leq x2 x3)) fun x4 =>
 bindP (oPick x1 x4 (.bool false)) fun x5 =>
 some (.ret x5, S)
theorem e88 (N : Nat) (κ : Oracles) (v0 v1 v2 : AV) (S : St) : runF (Cs N) κ false 88 [v0, v1, v2] S = s88 N κ v0 v1 v2 S := by kernel_rfl
/- sacristan/model.choice -/
def s89 (N : Nat) (κ : Oracles) (v0 : AV) (S : St) : R :=
 bindC (oBox S v0) pnA fun x1 S =>
 bindP (oFieldAddr 1 1 x1) fun x2 =>
 bindP (oLoad 1 false S x2) fun x3 =>
 bindP (oArith .geq x3 (.int .i64 (-1))) fun x4 =>
 bindP (guardP x4 true (oFieldAddr 2 1 x1)) fun x5 =>
 bindP (guardP x4 true (oLoad 1 false S x5)) fun x6 =>
 bindC (guardC x4 true S (apart κ.toOracle 88 [x6, (.int .i64 0), (.int .i64 79)] S)) pnA fun x7 S =>
 bindP (oPick x4 x7 (.bool false)) fun x8 =>
 some (.ret x8, S)
theorem e89 (N : Nat) (κ : Oracles) (v0 : AV) (S : St) : runF (Cs N) κ false 89 [v0] S = s89 N κ v0 S := by kernel_rfl
/- (*sacristan/store.Store).Done -/
def s90 (N : Nat) (κ : Oracles) (v0 : AV) (S : St) : R :=
 bindP (bE (eNil kPtr v0 .nilptr)) fun x1 =>
 ifA x1
 (some (.ret (.lst .nil 0 []), S))
 (bindP (oNilC v0) fun x2 =>
 bindP (oFieldAddr 18 1 x2) fun x3 =>
 bindP (oLoad 1 false S x3) fun x4 =>
 bindC (apart κ.toOracle 159 [x4] S) pnA fun x5 S =>
 some (.ret x5, S))
theorem e90 (N : Nat) (κ : Oracles) (v0 : AV) (S : St) : runF (Cs N) κ false 90 [v0] S = s90 N κ v0 S := by kernel_rfl
/- (*sacristan/fuse.Fuse).Blown -/
def s91 (N : Nat) (κ : Oracles) (v0 : AV) (S : St) : R :=
 bindP (bN (eNil kPtr v0 .nilptr)) fun x1 =>
 bindP (guardP x1 true (some v0)) fun x2 =>
 bindP (guardP x1 true (oNilC x2)) fun x3 =>
 bindP (guardP x1 true (oFieldAddr 0 1 x3)) fun x4 =>
 bindP (guardP x1 true (oLoad 1 false S x4)) fun x5 =>
 bindP (guardP x1 true (bE (eG (some [.i]) false false false x5 (.int .i64 2)))) fun x6 =>
 bindP (oPick x1 x6 (.bool false)) fun x7 =>
 some (.ret x7, S)
theorem e91 (N : Nat) (κ : Oracles) (v0 : AV) (S : St) : runF (Cs N) κ false 91 [v0] S = s91 N κ v0 S := by kernel_rfl
/- (*sacristan/disk.Disk).Crash -/
def s92 (N : Nat) (κ : Oracles) (v0 v1 : AV) (S : St) : R :=
 bindC (oBox S v1) pnA fun x1 S =>
 bindP (bE (eNil kPtr v0 .nilptr)) fun x2 =>
 ifA x2
 (some (.ret (.tup []), S))
 (bindP (oFieldAddr 2 1 x1) fun x3 =>
 bindP (oLoad 1 false S x3) fun x4 =>
 bindP (oArith .rem x4 (.int .i64 80)) fun x5 =>
 bindP (oArith .add x5 (.int .i64 80)) fun x6 =>
 bindP (oArith .rem x6 (.int .i64 80)) fun x7 =>
 bindP (oNilC v0) fun x8 =>
 bindP (oFieldAddr 0 5 x8) fun x9 =>
 bindP (oFieldAddr 4 1 x9) fun x10 =>
 bindP (oLoad 1 false S x10) fun x11 =>
 bindP (oLen S (.slice 254) x11) fun x12 =>
 loop1 (fun vals S1 k13 =>
 let S := gcHead false S.objs.length [] vals S1;
 let x14 := vals.getD 0 .junk;
 bindP (oArith .lss x14 x12) fun x15 =>
 ifA x15
 (let j16 : List AV → St → R := (fun vals S =>
 bindP (oArith .add x14 (.int .i64 1)) fun x17 =>
 bif sameD [] [] then k13 [x17] S else none);
 bindP (oIndexAddrS 2 x11 x14) fun x18 =>
 bindP (oLoad 2 true S x18) fun x19 =>
 bindC (oAl S [.int .i64 0, .str []]) pnA fun x20 S =>
 bindC (ok (oStore 2 S x20 x19)) pnA fun _ S =>
 let j21 : List AV → St → R := (fun vals S =>
 bindP (oNilC v0) fun x22 =>
 bindP (oFieldAddr 0 5 x22) fun x23 =>
 bindP (oLoad 2 true S x20) fun x24 =>
 bindC (callN κ.toOracle 161 [x23, x24] S) (fun v Sx => bif (true && true) && true then pnA v Sx else none) fun x25 S26 =>
 bif true then
 (let S := S26;
 bif sameD [] [] then Join j16 [] S else none)
 else none);
 bindP (oFieldAddr 1 1 x1) fun x27 =>
 bindP (oLoad 1 false S x27) fun x28 =>
 bindP (bE (eG (some [.i]) false false false x14 x28)) fun x29 =>
 ifA x29
 (bindP (oFieldAddr 1 1 x20) fun x30 =>
 bindP (oLoad 1 false S x30) fun x31 =>
 bindP (slT x31 none (some x7) none) fun x32 =>
 bindP (oNilC v0) fun x33 =>
 bindP (oFieldAddr 0 5 x33) fun x34 =>
 bindP (oFieldAddr 0 1 x20) fun x35 =>
 bindP (oLoad 1 false S x35) fun x36 =>
 bindC (callN κ.toOracle 160 [x34, x36] S) (fun v Sx => bif (true && true) && (rfA (some x7) fun x39 => true) then pnA v Sx else none) fun x37 S38 =>
 bindP (slT x37 (some x7) none none) fun x40 =>
 bindP (oArith .add x32 x40) fun x41 =>
 bindP (oFieldAddr 1 1 x20) fun x42 =>
 bindC (ok (oStore 1 S38 x42 x41)) (fun v Sx => bif (true && ((true && true) && (((false || (chkA (oLoad 1 false S x30) x31 && chkA (oLoad 1 false S38 x30) x31)) && true) && true))) && true then pnA v Sx else none) fun _ S43 =>
 bif ((true && (true && true)) && ((true && ((false || (chkA (oLoad 1 false S x30) x31 && chkA (oLoad 1 false S38 x30) x31)) && true)) && true)) then
 (let S := S43;
 bif sameD [] [] then Join j21 [] S else none)
 else none)
 (bindP (oFieldAddr 0 1 x1) fun x44 =>
 bindP (oLoad 1 false S x44) fun x45 =>
 bindP (oArith .rem x14 (.int .i64 64)) fun x46 =>
 bindP (oShiftV .shr x45 x46) fun x47 =>
 bindP (oArith .and x47 (.int .u64 1)) fun x48 =>
 bindP (bE (eG (some [.i]) false false false x48 (.int .u64 0))) fun x49 =>
 ifA x49
 (bif sameD [] [] then Join j16 [] S else none)
 (bif sameD [] [] then Join j21 [] S else none)))
 (bindP (oNilC v0) fun x50 =>
 bindP (oFieldAddr 0 5 x50) fun x51 =>
 bindP (oFieldAddr 4 1 x51) fun x52 =>
 bindC (ok (oStore 1 S x52 (.lst .nil 0 []))) pnA fun _ S =>
 some (.ret (.tup []), S))) N [(.int .i64 0)] S)
theorem e92 (N : Nat) (κ : Oracles) (v0 v1 : AV) (S : St) : runF (Cs N) κ false 92 [v0, v1] S = s92 N κ v0 v1 S := by kernel_rfl
/- (*sacristan/fuse.Fuse).Reset -/
def s93 (N : Nat) (κ : Oracles) (v0 : AV) (S : St) : R :=
 bindP (bN (eNil kPtr v0 .nilptr)) fun x1 =>
 ifA x1
 (bindC (callN κ.toOracle 162 [v0, (.int .i64 0), (.int .i64 0)] S) pnA fun x2 S =>
 some (.ret (.tup []), S))
 (some (.ret (.tup []), S))
theorem e93 (N : Nat) (κ : Oracles) (v0 : AV) (S : St) : runF (Cs N) κ false 93 [v0] S = s93 N κ v0 S := by kernel_rfl
/- (*sacristan/store.Store).Try -/
def s94 (N : Nat) (κ : Oracles) (v0 : AV) (S : St) : R :=
 bindP (bE (eNil kPtr v0 .nilptr)) fun x1 =>
 ifA x1
 (some (.ret (.lst .nil 0 []), S))
 (bindP (oNilC v0) fun x2 =>
 bindP (oFieldAddr 19 1 x2) fun x3 =>
 bindP (oLoad 1 false S x3) fun x4 =>
 bindC (apart κ.toOracle 159 [x4] S) pnA fun x5 S =>
 some (.ret x5, S))
theorem e94 (N : Nat) (κ : Oracles) (v0 : AV) (S : St) : runF (Cs N) κ false 94 [v0] S = s94 N κ v0 S := by kernel_rfl
/- (*sacristan/proc.Table).All -/
def s95 (N : Nat) (κ : Oracles) (v0 : AV) (S : St) : R :=
 bindP (bE (eNil kPtr v0 .nilptr)) fun x1 =>
 ifA x1
 (some (.ret (.lst .nil 0 []), S))
 (loop1 (fun vals S1 k2 =>
 let S := gcHead false S.objs.length [] vals S1;
 let x3 := vals.getD 0 .junk;
 let x4 := vals.getD 1 .junk;
 bindP (oNilC v0) fun x5 =>
 bindP (oFieldAddr 1 1 x5) fun x6 =>
 bindP (oLoad 1 false S x6) fun x7 =>
 bindP (oLen S (.map 3 180) x7) fun x8 =>
 bindP (oArith .leq x4 x8) fun x9 =>
 ifA x9
 (bindP (oNilC v0) fun x10 =>
 bindP (oFieldAddr 1 1 x10) fun x11 =>
 bindP (oLoad 1 false S x11) fun x12 =>
 bindP (oLook (some [.i]) false (pack false [.nilptr]) S x12 x4 false) fun x13 =>
 bindP (oNilC x13) fun x14 =>
 bindP (oLoad 9 true S x14) fun x15 =>
 bindC (oBS S 9 [.int .i64 0, .int .i64 0, .int .i64 0, .int .i64 0, .int .i64 0, .bool false, .bool false, .bool false, .int .i64 0] 1 [(0, x15)]) pnA fun x16 S =>
 bindC (oApp false 9 56 S x3 x16) pnA fun x17 S =>
 bindP (oArith .add x4 (.int .i64 1)) fun x18 =>
 bif sameD [] [] then k2 [x17, x18] S else none)
 (some (.ret x3, S))) N [(.lst .nil 0 []), (.int .i64 1)] S)
theorem e95 (N : Nat) (κ : Oracles) (v0 : AV) (S : St) : runF (Cs N) κ false 95 [v0] S = s95 N κ v0 S := by kernel_rfl
/- (*sacristan/world.World).Net -/
def s96 (N : Nat) (κ : Oracles) (v0 : AV) (S : St) : R :=
 bindP (bE (eNil kPtr v0 .nilptr)) fun x1 =>
 ifA x1
 (some (.ret .nilptr, S))
 (bindP (oNilC v0) fun x2 =>
 bindP (oFieldAddr 5 1 x2) fun x3 =>
 bindP (oLoad 1 false S x3) fun x4 =>
 some (.ret x4, S))
theorem e96 (N : Nat) (κ : Oracles) (v0 : AV) (S : St) : runF (Cs N) κ false 96 [v0] S = s96 N κ v0 S := by kernel_rfl
/- (*sacristan/beat.Net).Sent -/
def s97 (N : Nat) (κ : Oracles) (v0 : AV) (S : St) : R :=
 bindP (bE (eNil kPtr v0 .nilptr)) fun x1 =>
 ifA x1
 (some (.ret (.lst .nil 0 []), S))
 (bindP (oNilC v0) fun x2 =>
 bindP (oFieldAddr 1 1 x2) fun x3 =>
 bindP (oLoad 1 false S x3) fun x4 =>
 bindC (apart κ.toOracle 55 [x4] S) pnA fun x5 S =>
 some (.ret x5, S))
theorem e97 (N : Nat) (κ : Oracles) (v0 : AV) (S : St) : runF (Cs N) κ false 97 [v0] S = s97 N κ v0 S := by kernel_rfl
/- (*sacristan/proc.Table).live -/
def s99 (N : Nat) (κ : Oracles) (v0 : AV) (S : St) : R :=
 bindC (oBox S v0) pnA fun x1 S =>
 bindP (some (.func 163 [] [x1])) fun x2 =>
 some (.ret x2, S)
theorem e99 (N : Nat) (κ : Oracles) (v0 : AV) (S : St) : runF (Cs N) κ false 99 [v0] S = s99 N κ v0 S := by kernel_rfl
/- (*sacristan/fuse.Fuse).Arm -/
def s101 (N : Nat) (κ : Oracles) (v0 v1 : AV) (S : St) : R :=
 bindP (bE (eNil kPtr v0 .nilptr)) fun x1 =>
 ifA x1
 (some (.ret (.int .i64 1), S))
 (bindP (oArith .lss v1 (.int .i64 0)) fun x2 =>
 ifA x2
 (some (.ret (.int .i64 3), S))
 (bindP (oNilC v0) fun x3 =>
 bindP (oFieldAddr 0 1 x3) fun x4 =>
 bindP (oLoad 1 false S x4) fun x5 =>
 bindP (bE (eG (some [.i]) false false false x5 (.int .i64 2))) fun x6 =>
 ifA x6
 (some (.ret (.int .i64 7), S))
 (bindC (callN κ.toOracle 162 [v0, (.int .i64 1), v1] S) pnA fun x7 S =>
 some (.ret (.int .i64 0), S))))
theorem e101 (N : Nat) (κ : Oracles) (v0 v1 : AV) (S : St) : runF (Cs N) κ false 101 [v0, v1] S = s101 N κ v0 v1 S := by kernel_rfl
/- sacristan/store.Open -/
def s102 (N : Nat) (κ : Oracles) (v0 v1 : AV) (S : St) : R :=
 bindC (oBox S v0) pnA fun x1 S =>
 bindP (oLoad 11 true S x1) fun x2 =>
 bindC (apart κ.toOracle 31 [x2] S) pnA fun x3 S =>
 bindP (bN (eG (some [.i]) false false false x3 (.int .i64 0))) fun x4 =>
 ifA x4
 (some (.ret (.tup [.nilptr, x3]), S))
 (bindP (bE (eNil kPtr v1 .nilptr)) fun x5 =>
 ifA x5
 (some (.ret (.tup [.nilptr, (.int .i64 1)]), S))
 (bindP (oFieldAddr 4 1 x1) fun x6 =>
 bindP (oLoad 1 false S x6) fun x7 =>
 bindC (callN κ.toOracle 164 [v1, x7] S) pnA fun x8 S =>
 bindP (oExt x8 0) fun x9 =>
 bindP (oExt x8 1) fun x10 =>
 bindP (oExt x8 2) fun x11 =>
 bindP (oExt x8 3) fun x12 =>
 bindP (bN (eG (some [.i]) false false false x12 (.int .i64 0))) fun x13 =>
 ifA x13
 (some (.ret (.tup [.nilptr, x12]), S))
 (bindP (oLoad 11 true S x1) fun x14 =>
 bindC (apart κ.toOracle 165 [] S) (fun _ _ => none) fun x15 S16 =>
 bindP (oFill (plS [(0, 1), (1, 11), (12, 1), (13, 5), (18, 1), (19, 1), (20, 1)]) [.nilptr, .int .i64 0, .int .i64 0, .int .i64 0, .int .i64 0, .int .i64 0, .int .i64 0, .int .i64 0, .int .i64 0, .int .i64 0, .int .i64 0, .int .i64 0, .nilptr, .int .i64 0, .int .i64 0, .int .i64 0, .int .i64 0, .lst .nil 0 [], .lst .nil 0 [], .lst .nil 0 [], .bool false] [(0, x9), (1, x14), (2, v1), (3, x15)]) fun x17 =>
 bindC (oBox S16 x17) (fun v Sx => bif (true && true) && true then pnA v Sx else none) fun x18 S19 =>
 bif true then
 (let S := S19;
 let j20 : List AV → St → R := (fun vals S =>
 let x21 := vals.getD 0 .junk;
 let x22 := vals.getD 1 .junk;
 bindP (oLen S (.slice 9) x11) fun x23 =>
 loop1 (fun vals S1 k24 =>
 let S := gcHead false S.objs.length [] vals S1;
 let x25 := vals.getD 0 .junk;
 let x26 := vals.getD 1 .junk;
 let x27 := vals.getD 2 .junk;
 bindP (oArith .lss x27 x23) fun x28 =>
 ifA x28
 (bindP (oIndexAddrS 1 x11 x27) fun x29 =>
 bindP (oLoad 1 false S x29) fun x30 =>
 bindC (apart κ.toOracle 167 [x30] S) pnA fun x31 S =>
 bindP (oExt x31 0) fun x32 =>
 bindP (oExt x31 1) fun x33 =>
 bindC (oAl S [.int .u8 0, .int .i64 0, .int .i64 0, .int .i64 0, .int .i64 0, .int .i64 0, .lst .nil 0 [], .lst .nil 0 [], .int .i64 0, .int .i64 0, .int .i64 0, .int .i64 0, .int .i64 0, .int .i64 0, .int .i64 0]) pnA fun x34 S =>
 bindC (ok (oStore 15 S x34 x32)) pnA fun _ S =>
 bindP (bN (eG (some [.i]) false false false x33 (.int .i64 0))) fun x35 =>
 ifA x35
 (some (.ret (.tup [.nilptr, (.int .i64 12)]), S))
 (bindP (oLoad 11 true S x1) fun x36 =>
 bindP (oNilC x18) fun x37 =>
 bindP (oFieldAddr 13 5 x37) fun x38 =>
 bindP (oLoad 5 true S x38) fun x39 =>
 bindP (oLoad 15 true S x34) fun x40 =>
 bindC (apart κ.toOracle 168 [x36, x39, x40] S) (fun _ _ => none) fun x41 S42 =>
 bindP (oExt x41 0) fun x43 =>
 bindP (oExt x41 1) fun x44 =>
 bindP (oNilC x18) fun x45 =>
 bindP (oFieldAddr 13 5 x45) fun x46 =>
 bindC (ok (oStore 5 S42 x46 x43)) (fun v Sx => bif (true && true) && true then pnA v Sx else none) fun _ S47 =>
 bif true then
 (let S := S47;
 bindP (bN (eG (some [.i]) false false false x44 (.int .i64 0))) fun x48 =>
 ifA x48
 (some (.ret (.tup [.nilptr, (.int .i64 12)]), S))
 (bindP (oArith .add x27 (.int .i64 1)) fun x49 =>
 bif sameD [] [] then k24 [x25, x26, x49] S else none))
 else none))
 (some (.ret (.tup [x18, (.int .i64 0)]), S))) N [x21, x22, (.int .i64 0)] S);
 bindP (oLen S (.slice 9) x10) fun x50 =>
 bindP (oArith .gtr x50 (.int .i64 0)) fun x51 =>
 ifA x51
 (bindP (oLoad 11 true S x1) fun x52 =>
 bindC (apart κ.toOracle 166 [x52, x10] S) pnA fun x53 S =>
 bindP (oExt x53 0) fun x54 =>
 bindP (oExt x53 1) fun x55 =>
 bindP (oNilC x18) fun x56 =>
 bindP (oFieldAddr 13 5 x56) fun x57 =>
 bindC (ok (oStore 5 S x57 x54)) pnA fun _ S =>
 bindP (bN (eG (some [.i]) false false false x55 (.int .i64 0))) fun x58 =>
 ifA x58
 (some (.ret (.tup [.nilptr, (.int .i64 12)]), S))
 (bif sameD [] [] then Join j20 [.nilptr, (.int .i64 0)] S else none))
 (bif sameD [] [] then Join j20 [.nilptr, (.int .i64 0)] S else none))
 else none)))
theorem e102 (N : Nat) (κ : Oracles) (v0 v1 : AV) (S : St) : runF (Cs N) κ false 102 [v0, v1] S = s102 N κ v0 v1 S := by kernel_rfl
end Go.Sac
