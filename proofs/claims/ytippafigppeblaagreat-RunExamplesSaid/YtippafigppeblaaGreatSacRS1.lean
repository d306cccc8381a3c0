/- Direct forms, printed by mksh.py. -/
import Derived.Test.YtippafigppeblaaGreatSacCfg
import Derived.KernelRfl
namespace Go.Sac
set_option linter.unusedVariables false
set_option maxRecDepth 100000
open Go
/- (*sacristan/world.World).Journal -/
def s103 (N : Nat) (κ : Oracles) (v0 : AV) (S : St) : R :=
 bindP (bE (eNil kPtr v0 .nilptr)) fun x1 =>
 ifA x1
 (some (.ret .nilptr, S))
 (bindP (oNilC v0) fun x2 =>
 bindP (oFieldAddr 2 1 x2) fun x3 =>
 bindP (oLoad 1 false S x3) fun x4 =>
 some (.ret x4, S))
theorem e103 (N : Nat) (κ : Oracles) (v0 : AV) (S : St) : runF (Cs N) κ false 103 [v0] S = s103 N κ v0 S := by kernel_rfl
/- sacristan/logs.Open -/
def s104 (N : Nat) (κ : Oracles) (v0 v1 v2 : AV) (S : St) : R :=
 bindC (oBox S v0) pnA fun x1 S =>
 bindP (bE (eNil kPtr v1 .nilptr)) fun x2 =>
 ifA x2
 (some (.ret (.tup [.nilptr, (.int .i64 1)]), S))
 (bindP (oLoad 11 true S x1) fun x3 =>
 bindC (apart κ.toOracle 121 [x3] S) pnA fun x4 S =>
 bindP (bE (eG (some [.i]) false false false x4 (.int .i64 0))) fun x5 =>
 bindP (guardP x5 false (some v1)) fun x6 =>
 bindC (guardC x5 false S (callN κ.toOracle 169 [x6] S)) pnA fun x7 S =>
 bindP (guardP x5 false (some x4)) fun x8 =>
 bindP (guardP x5 false (bN (eG (some [.i]) false false false x7 x8))) fun x9 =>
 bindP (oPick x5 (.bool true) x9) fun x10 =>
 bindP (guardP x10 false (some v2)) fun x11 =>
 bindP (guardP x10 false (oArith .lss x11 (.int .i64 1))) fun x12 =>
 bindP (oPick x10 (.bool true) x12) fun x13 =>
 bindP (guardP x13 false (some v2)) fun x14 =>
 bindP (guardP x13 false (oArith .gtr x14 (.int .i64 4294967295))) fun x15 =>
 bindP (oPick x13 (.bool true) x15) fun x16 =>
 ifA x16
 (some (.ret (.tup [.nilptr, (.int .i64 2)]), S))
 (bindC (callN κ.toOracle 170 [v1, (.int .i64 0)] S) pnA fun x17 S =>
 bindP (oExt x17 0) fun x18 =>
 bindP (oExt x17 1) fun x19 =>
 bindP (bN (eG (some [.i]) false false false x19 (.int .i64 0))) fun x20 =>
 ifA x20
 (some (.ret (.tup [.nilptr, x19]), S))
 (bindP (oLoad 11 true S x1) fun x21 =>
 bindP (oFill (plS [(0, 11), (11, 1), (12, 1)]) [.int .i64 0, .int .i64 0, .int .i64 0, .int .i64 0, .int .i64 0, .int .i64 0, .int .i64 0, .int .i64 0, .int .i64 0, .int .i64 0, .int .i64 0, .nilptr, .int .i64 0] [(0, x21), (1, v1), (2, v2)]) fun x22 =>
 bindC (oBox S x22) pnA fun x23 S =>
 some (.ret (.tup [x23, (.int .i64 0)]), S))))
theorem e104 (N : Nat) (κ : Oracles) (v0 v1 v2 : AV) (S : St) : runF (Cs N) κ false 104 [v0, v1, v2] S = s104 N κ v0 v1 v2 S := by kernel_rfl
/- (*sacristan/world.World).Logs -/
def s105 (N : Nat) (κ : Oracles) (v0 : AV) (S : St) : R :=
 bindP (bE (eNil kPtr v0 .nilptr)) fun x1 =>
 ifA x1
 (some (.ret .nilptr, S))
 (bindP (oNilC v0) fun x2 =>
 bindP (oFieldAddr 3 1 x2) fun x3 =>
 bindP (oLoad 1 false S x3) fun x4 =>
 some (.ret x4, S))
theorem e105 (N : Nat) (κ : Oracles) (v0 : AV) (S : St) : runF (Cs N) κ false 105 [v0] S = s105 N κ v0 S := by kernel_rfl
/- (*sacristan/store.Store).Boot -/
def s106 (N : Nat) (κ : Oracles) (v0 : AV) (S : St) : R :=
 bindP (bE (eNil kPtr v0 .nilptr)) fun x1 =>
 ifA x1
 (some (.ret (.int .i64 0), S))
 (bindP (oNilC v0) fun x2 =>
 bindP (oFieldAddr 0 1 x2) fun x3 =>
 bindP (oLoad 1 false S x3) fun x4 =>
 bindC (callN κ.toOracle 171 [x4] S) pnA fun x5 S =>
 some (.ret x5, S))
theorem e106 (N : Nat) (κ : Oracles) (v0 : AV) (S : St) : runF (Cs N) κ false 106 [v0] S = s106 N κ v0 S := by kernel_rfl
/- sacristan/boot.Strays -/
def s107 (N : Nat) (κ : Oracles) (v0 v1 v2 v3 : AV) (S : St) : R :=
 bindC (oBox S v0) pnA fun x1 S =>
 bindC (oBox S v1) pnA fun x2 S =>
 bindP (oLoad 11 true S x1) fun x3 =>
 bindP (oLoad 5 true S x2) fun x4 =>
 bindC (apart κ.toOracle 172 [x3, x4, v2] S) pnA fun x5 S =>
 bindP (oExt x5 0) fun x6 =>
 bindP (oExt x5 1) fun x7 =>
 bindC (oAl S [.int .i64 0, .int .i64 0, .int .i64 0, .int .i64 0, .lst .nil 0 [], .bool false]) pnA fun x8 S =>
 bindC (ok (oStore 6 S x8 x6)) pnA fun _ S =>
 bindP (bN (eG (some [.i]) false false false x7 (.int .i64 0))) fun x9 =>
 ifA x9
 (some (.ret (.tup [(.lst .nil 0 []), x7]), S))
 (bindP (oLoad 6 true S x8) fun x10 =>
 bindP (some (.func 174 [x10] [])) fun x11 =>
 bindC (callN κ.toOracle 173 [v3, x11] S) pnA fun x12 S =>
 some (.ret (.tup [x12, (.int .i64 0)]), S))
theorem e107 (N : Nat) (κ : Oracles) (v0 v1 v2 v3 : AV) (S : St) : runF (Cs N) κ false 107 [v0, v1, v2, v3] S = s107 N κ v0 v1 v2 v3 S := by kernel_rfl
/- (*sacristan/store.Store).State -/
def s108 (N : Nat) (κ : Oracles) (v0 : AV) (S : St) : R :=
 bindC (oAl S [.int .i64 0, .int .i64 0, .int .i64 0, .int .i64 0, .lst .nil 0 []]) pnA fun x1 S =>
 bindP (bE (eNil kPtr v0 .nilptr)) fun x2 =>
 ifA x2
 (bindP (oFill (plS [(0, 1), (1, 1), (2, 1), (3, 1), (4, 1)]) [.int .i64 0, .int .i64 0, .int .i64 0, .int .i64 0, .lst .nil 0 []] []) fun x3 =>
 bindC (ok (oStore 5 S x1 x3)) pnA fun _ S =>
 (resA [(oLoad 5 true S x1)]).map fun vs => (.ret (packV vs), S))
 (bindP (oNilC v0) fun x4 =>
 bindP (oFieldAddr 13 5 x4) fun x5 =>
 bindP (oLoad 5 true S x5) fun x6 =>
 bindC (apart κ.toOracle 53 [x6] S) pnA fun x7 S =>
 bindC (ok (oStore 5 S x1 x7)) pnA fun _ S =>
 (resA [(oLoad 5 true S x1)]).map fun vs => (.ret (packV vs), S))
theorem e108 (N : Nat) (κ : Oracles) (v0 : AV) (S : St) : runF (Cs N) κ false 108 [v0] S = s108 N κ v0 S := by kernel_rfl
/- sacristan/probe.New -/
def s110 (N : Nat) (κ : Oracles) (S : St) : R :=
 bindC (oMM S) pnA fun x1 S =>
 bindP (oFill (plS [(0, 1)]) [.nilmap] [(0, x1)]) fun x2 =>
 bindC (oBox S x2) pnA fun x3 S =>
 some (.ret x3, S)
theorem e110 (N : Nat) (κ : Oracles) (S : St) : runF (Cs N) κ false 110 [] S = s110 N κ S := by kernel_rfl
/- (*sacristan/agent.Agent).Step -/
def s111 (N : Nat) (κ : Oracles) (v0 : AV) (S : St) : R :=
 bindC (callN κ.toOracle 176 [v0] S) pnA fun x1 S =>
 bindP (bN (eG (some [.i]) false false false x1 (.int .i64 0))) fun x2 =>
 ifA x2
 (some (.ret x1, S))
 (bindP (some (.func 177 [v0] [])) fun x3 =>
 bindP (some (.func 178 [v0] [])) fun x4 =>
 bindP (some (.func 179 [v0] [])) fun x5 =>
 bindP (some (.func 180 [v0] [])) fun x6 =>
 bindC (oBS S 1 [.nilfunc] 4 [(0, x3), (1, x4), (2, x5), (3, x6)]) pnA fun x7 S =>
 bindP (oLen S (.slice 93) x7) fun x8 =>
 loop1 (fun vals S1 k9 =>
 let S := gcHead false S.objs.length [] vals S1;
 let x10 := vals.getD 0 .junk;
 let x11 := vals.getD 1 .junk;
 bindP (oArith .lss x11 x8) fun x12 =>
 ifA x12
 (bindP (oIndexAddrS 1 x7 x11) fun x13 =>
 bindP (oLoad 1 false S x13) fun x14 =>
 bindC (callD κ.toOracle 111 x14 [] S) pnA fun x15 S =>
 bindC (callN κ.toOracle 181 [v0, x15] S) pnA fun x16 S =>
 bindP (bN (eG (some [.i]) false false false x16 (.int .i64 0))) fun x17 =>
 ifA x17
 (some (.ret x16, S))
 (bindP (oArith .add x11 (.int .i64 1)) fun x18 =>
 bif sameD [] [] then k9 [x10, x18] S else none))
 (some (.ret (.int .i64 0), S))) N [(.int .i64 0), (.int .i64 0)] S)
theorem e111 (N : Nat) (κ : Oracles) (v0 : AV) (S : St) : runF (Cs N) κ false 111 [v0] S = s111 N κ v0 S := by kernel_rfl
/- (*sacristan/agent.Agent).Command -/
def s112 (N : Nat) (κ : Oracles) (v0 v1 : AV) (S : St) : R :=
 bindC (callN κ.toOracle 176 [v0] S) pnA fun x1 S =>
 bindP (bE (eG (some [.i]) false false false x1 (.int .i64 0))) fun x2 =>
 ifA x2
 (bindC (oAl S [.int .u8 0, .int .i64 0, .int .i64 0, .int .i64 0, .int .i64 0, .int .i64 0, .lst .nil 0 [], .lst .nil 0 [], .int .i64 0, .int .i64 0, .int .i64 0, .int .i64 0, .int .i64 0, .int .i64 0, .int .i64 0]) (fun _ _ => none) fun x3 S =>
 bindP (oNilC v0) fun x4 =>
 bindP (oFieldAddr 1 11 x4) fun x5 =>
 bindP (oLoad 11 true S x5) fun x6 =>
 bindP (oNilC v0) fun x7 =>
 bindP (oFieldAddr 0 1 x7) fun x8 =>
 bindP (oLoad 1 false S x8) fun x9 =>
 bindC (callN κ.toOracle 108 [x9] S) (fun v Sx => bif (true && true) && (rfA (some v1) fun x12 => (rfA (some v0) fun x13 => (rfA (oNilC x13) fun x14 => (rfA (oFieldAddr 12 1 x14) fun x15 => false)))) then pnA v Sx else none) fun x10 S11 =>
 bindP (oNilC v0) fun x16 =>
 bindP (oFieldAddr 12 1 x16) fun x17 =>
 bindP (oLoad 1 false S11 x17) fun x18 =>
 bindC (callN κ.toOracle 33 [x18] S11) (fun v Sx => bif (true && (((false || (chkA (oLoad 1 false S x17) x18 && chkA (oLoad 1 false S11 x17) x18)) && true) && ((true && true) && (((false || (chkA (oLoad 11 true S x5) x6 && chkA (oLoad 11 true S11 x5) x6)) && true) && true)))) && true then pnA v Sx else none) fun x19 S20 =>
 bindC (apart κ.toOracle 182 [x6, x10, v1, x19] S20) (fun _ _ => none) fun x21 S22 =>
 bindP (oExt x21 0) fun x23 =>
 bindP (oExt x21 1) fun x24 =>
 bindP (oExt x21 2) fun x25 =>
 bindC (ok (oStore 15 S22 x3 x24)) (fun v Sx => bif (true && ((true && (true && true)) && ((true && ((false || (chkA (oLoad 1 false S x17) x18 && chkA (oLoad 1 false S11 x17) x18)) && true)) && ((true && (true && true)) && (((false || (chkA (oLoad 11 true S11 x5) x6 && chkA (oLoad 11 true S20 x5) x6)) && ((false || (chkA (oLoad 11 true S x5) x6 && chkA (oLoad 11 true S11 x5) x6)) && true)) && true))))) && true then pnA v Sx else none) fun _ S26 =>
 bif ((true && (true && (true && true))) && ((true && (true && ((false || (chkA (oLoad 1 false S x17) x18 && chkA (oLoad 1 false S11 x17) x18)) && true))) && ((true && (true && (true && true))) && ((true && ((false || (chkA (oLoad 11 true S11 x5) x6 && chkA (oLoad 11 true S20 x5) x6)) && ((false || (chkA (oLoad 11 true S x5) x6 && chkA (oLoad 11 true S11 x5) x6)) && true))) && true)))) then
 (let S := S26;
 bindP (bN (eG (some [.i]) false false false x25 (.int .i64 0))) fun x27 =>
 bindP (guardP x27 false (some x23)) fun x28 =>
 bindP (guardP x27 false (bN (eG (some [.i]) false false false x28 (.int .u8 0)))) fun x29 =>
 bindP (oPick x27 (.bool true) x29) fun x30 =>
 ifA x30
 (some (.ret (.tup [x23, x25]), S))
 (bindP (oNilC v0) fun x31 =>
 bindP (oFieldAddr 0 1 x31) fun x32 =>
 bindP (oLoad 1 false S x32) fun x33 =>
 bindP (oLoad 15 true S x3) fun x34 =>
 bindC (callN κ.toOracle 183 [x33, x34] S) (fun v Sx => bif (true && true) && true then pnA v Sx else none) fun x35 S36 =>
 bindC (callN κ.toOracle 181 [v0, x35] S36) (fun v Sx => bif (true && true) && true then pnA v Sx else none) fun x37 S38 =>
 bif true then
 (let S := S38;
 bindP (bE (eG (some [.i]) false false false x37 (.int .i64 0))) fun x39 =>
 ifA x39
 (some (.ret (.tup [(.int .u8 0), (.int .i64 0)]), S))
 (bindP (bE (eG (some [.i]) false false false x37 (.int .i64 9))) fun x40 =>
 ifA x40
 (some (.ret (.tup [(.int .u8 8), (.int .i64 0)]), S))
 (bindP (bE (eG (some [.i]) false false false x37 (.int .i64 10))) fun x41 =>
 ifA x41
 (some (.ret (.tup [(.int .u8 9), x37]), S))
 (some (.ret (.tup [(.int .u8 0), x37]), S)))))
 else none))
 else none)
 (bindP (bE (eG (some [.i]) false false false x1 (.int .i64 10))) fun x42 =>
 ifA x42
 (some (.ret (.tup [(.int .u8 9), x1]), S))
 (some (.ret (.tup [(.int .u8 0), x1]), S)))
theorem e112 (N : Nat) (κ : Oracles) (v0 v1 : AV) (S : St) : runF (Cs N) κ false 112 [v0, v1] S = s112 N κ v0 v1 S := by kernel_rfl
/- (*sacristan/agent.Agent).Ack -/
def s113 (N : Nat) (κ : Oracles) (v0 v1 : AV) (S : St) : R :=
 bindC (callN κ.toOracle 176 [v0] S) pnA fun x1 S =>
 bindP (bN (eG (some [.i]) false false false x1 (.int .i64 0))) fun x2 =>
 ifA x2
 (some (.ret x1, S))
 (bindP (oArith .lss v1 (.int .i64 0)) fun x3 =>
 bindP (guardP x3 false (some v1)) fun x4 =>
 bindP (guardP x3 false (some v0)) fun x5 =>
 bindP (guardP x3 false (oNilC x5)) fun x6 =>
 bindP (guardP x3 false (oFieldAddr 12 1 x6)) fun x7 =>
 bindP (guardP x3 false (oLoad 1 false S x7)) fun x8 =>
 bindC (guardC x3 false S (callN κ.toOracle 33 [x8] S)) pnA fun x9 S =>
 bindP (guardP x3 false (oArith .gtr x4 x9)) fun x10 =>
 bindP (oPick x3 (.bool true) x10) fun x11 =>
 ifA x11
 (some (.ret (.int .i64 2), S))
 (bindP (oNilC v0) fun x12 =>
 bindP (oFieldAddr 0 1 x12) fun x13 =>
 bindP (oLoad 1 false S x13) fun x14 =>
 bindC (callN κ.toOracle 108 [x14] S) pnA fun x15 S =>
 bindP (oField 3 1 false x15) fun x16 =>
 bindP (oArith .leq v1 x16) fun x17 =>
 ifA x17
 (some (.ret (.int .i64 0), S))
 (bindP (oNilC v0) fun x18 =>
 bindP (oFieldAddr 0 1 x18) fun x19 =>
 bindP (oLoad 1 false S x19) fun x20 =>
 bindP (oFill (plS [(0, 1), (1, 1), (2, 6), (8, 1), (9, 1), (10, 1), (11, 1), (12, 1), (13, 1), (14, 1)]) [.int .u8 0, .int .i64 0, .int .i64 0, .int .i64 0, .int .i64 0, .int .i64 0, .lst .nil 0 [], .lst .nil 0 [], .int .i64 0, .int .i64 0, .int .i64 0, .int .i64 0, .int .i64 0, .int .i64 0, .int .i64 0] [(0, (.int .u8 9)), (5, v1)]) fun x21 =>
 bindC (callN κ.toOracle 183 [x20, x21] S) pnA fun x22 S =>
 bindC (callN κ.toOracle 181 [v0, x22] S) pnA fun x23 S =>
 bindP (bE (eG (some [.i]) false false false x23 (.int .i64 9))) fun x24 =>
 ifA x24
 (some (.ret (.int .i64 0), S))
 (some (.ret x23, S)))))
theorem e113 (N : Nat) (κ : Oracles) (v0 v1 : AV) (S : St) : runF (Cs N) κ false 113 [v0, v1] S = s113 N κ v0 v1 S := by kernel_rfl
/- sacristan/fuse.New -/
def s119 (N : Nat) (κ : Oracles) (S : St) : R :=
 bindP (oFill (plS [(0, 1), (1, 1), (2, 1)]) [.int .i64 0, .int .i64 0, .nilfunc] []) fun x1 =>
 bindC (oBox S x1) pnA fun x2 S =>
 bindC (callN κ.toOracle 162 [x2, (.int .i64 0), (.int .i64 0)] S) pnA fun x3 S =>
 some (.ret x2, S)
theorem e119 (N : Nat) (κ : Oracles) (S : St) : runF (Cs N) κ false 119 [] S = s119 N κ S := by kernel_rfl
/- sacristan/disk.New -/
def s120 (N : Nat) (κ : Oracles) (v0 v1 : AV) (S : St) : R :=
 bindP (oArith .lss v0 (.int .i64 1)) fun x1 =>
 bindP (guardP x1 false (some v0)) fun x2 =>
 bindP (guardP x1 false (oArith .gtr x2 (.int .i64 65536))) fun x3 =>
 bindP (oPick x1 (.bool true) x3) fun x4 =>
 ifA x4
 (some (.ret (.tup [.nilptr, (.int .i64 3)]), S))
 (bindP (bE (eNil kPtr v1 .nilptr)) fun x5 =>
 ifA x5
 (some (.ret (.tup [.nilptr, (.int .i64 1)]), S))
 (bindC (oMM S) pnA fun x6 S =>
 bindP (oFill (plS [(0, 1), (1, 1), (2, 1), (3, 1), (4, 1)]) [.nilptr, .int .i64 0, .bool false, .nilmap, .lst .nil 0 []] [(0, v1), (1, v0), (3, x6)]) fun x7 =>
 bindP (oFill (plS [(0, 5)]) [.nilptr, .int .i64 0, .bool false, .nilmap, .lst .nil 0 []] [(0, x7)]) fun x8 =>
 bindC (oBox S x8) pnA fun x9 S =>
 some (.ret (.tup [x9, (.int .i64 0)]), S)))
theorem e120 (N : Nat) (κ : Oracles) (v0 v1 : AV) (S : St) : runF (Cs N) κ false 120 [v0, v1] S = s120 N κ v0 v1 S := by kernel_rfl
/- sacristan/logs.Sectors -/
def s121 (N : Nat) (κ : Oracles) (v0 : AV) (S : St) : R :=
 bindC (oBox S v0) pnA fun x1 S =>
 bindP (oLoad 11 true S x1) fun x2 =>
 bindC (apart κ.toOracle 31 [x2] S) pnA fun x3 S =>
 bindP (bN (eG (some [.i]) false false false x3 (.int .i64 0))) fun x4 =>
 ifA x4
 (some (.ret (.int .i64 0), S))
 (bindP (oFieldAddr 3 1 x1) fun x5 =>
 bindP (oLoad 1 false S x5) fun x6 =>
 bindP (oArith .mul x6 (.int .i64 4)) fun x7 =>
 bindP (oFieldAddr 5 1 x1) fun x8 =>
 bindP (oLoad 1 false S x8) fun x9 =>
 bindP (oArith .mul x7 x9) fun x10 =>
 bindP (oFieldAddr 6 1 x1) fun x11 =>
 bindP (oLoad 1 false S x11) fun x12 =>
 bindP (oArith .mul x10 x12) fun x13 =>
 some (.ret x13, S))
theorem e121 (N : Nat) (κ : Oracles) (v0 : AV) (S : St) : runF (Cs N) κ false 121 [v0] S = s121 N κ v0 S := by kernel_rfl
/- sacristan/proc.New -/
def s122 (N : Nat) (κ : Oracles) (v0 : AV) (S : St) : R :=
 bindP (bE (eNil kPtr v0 .nilptr)) fun x1 =>
 ifA x1
 (some (.ret (.tup [.nilptr, (.int .i64 1)]), S))
 (bindC (oMM S) pnA fun x2 S =>
 bindP (oFill (plS [(0, 1), (1, 1), (2, 1)]) [.nilptr, .nilmap, .bool false] [(0, v0), (1, x2)]) fun x3 =>
 bindC (oBox S x3) pnA fun x4 S =>
 some (.ret (.tup [x4, (.int .i64 0)]), S))
theorem e122 (N : Nat) (κ : Oracles) (v0 : AV) (S : St) : runF (Cs N) κ false 122 [v0] S = s122 N κ v0 S := by kernel_rfl
/- sacristan/beat.New -/
def s123 (N : Nat) (κ : Oracles) (v0 : AV) (S : St) : R :=
 bindP (bE (eNil kPtr v0 .nilptr)) fun x1 =>
 ifA x1
 (some (.ret (.tup [.nilptr, (.int .i64 1)]), S))
 (bindP (oFill (plS [(0, 1), (1, 1)]) [.nilptr, .lst .nil 0 []] [(0, v0)]) fun x2 =>
 bindC (oBox S x2) pnA fun x3 S =>
 some (.ret (.tup [x3, (.int .i64 0)]), S))
theorem e123 (N : Nat) (κ : Oracles) (v0 : AV) (S : St) : runF (Cs N) κ false 123 [v0] S = s123 N κ v0 S := by kernel_rfl
/- sacristan/sacristankit.EqualAllocs -/
def s124 (N : Nat) (κ : Oracles) (v0 v1 : AV) (S : St) : R :=
 bindP (oLen S (.slice 58) v0) fun x1 =>
 bindP (oLen S (.slice 58) v1) fun x2 =>
 bindP (bN (eG (some [.i]) false false false x1 x2)) fun x3 =>
 ifA x3
 (some (.ret (.bool false), S))
 (loop1 (fun vals S1 k4 =>
 let S := gcHead false S.objs.length [] vals S1;
 let x5 := vals.getD 0 .junk;
 let x6 := vals.getD 1 .junk;
 bindP (oLen S (.slice 58) v0) fun x7 =>
 bindP (oArith .lss x6 x7) fun x8 =>
 ifA x8
 (bindP (oIndexAddrS 10 v0 x6) fun x9 =>
 bindP (oLoad 10 true S x9) fun x10 =>
 bindP (oIndexAddrS 10 v1 x6) fun x11 =>
 bindP (oLoad 10 true S x11) fun x12 =>
 bindC (apart κ.toOracle 190 [x10, x12] S) (fun _ _ => none) fun x13 S14 =>
 bindP (oUn .not x13) fun x15 =>
 bif true then
 (let S := S14;
 ifA x15
 (some (.ret (.bool false), S))
 (bindP (oArith .add x6 (.int .i64 1)) fun x16 =>
 bif sameD [] [] then k4 [x5, x16] S else none))
 else none)
 (some (.ret (.bool true), S))) N [(.bool false), (.int .i64 0)] S)
theorem e124 (N : Nat) (κ : Oracles) (v0 v1 : AV) (S : St) : runF (Cs N) κ false 124 [v0, v1] S = s124 N κ v0 v1 S := by kernel_rfl
/- slices.Clone[[]sacristan/api.Alloc,sacristan/api.Alloc] -/
def s126 (N : Nat) (κ : Oracles) (v0 : AV) (S : St) : R :=
 bindP (bE (eNil kSli v0 (.lst .nil 0 []))) fun x1 =>
 ifA x1
 (some (.ret (.lst .nil 0 []), S))
 (bindC (oBSo S 10 [.int .i64 0, .int .i64 0, .int .i64 0, .int .i64 0, .lst .nil 0 [], .lst .nil 0 [], .int .i64 0, .int .i64 0, .bool false, .lst .nil 0 []] 0 []) pnA fun x2 S =>
 bindC (oApp true 10 128 S x2 v0) pnA fun x3 S =>
 some (.ret x3, S))
theorem e126 (N : Nat) (κ : Oracles) (v0 : AV) (S : St) : runF (Cs N) κ false 126 [v0] S = s126 N κ v0 S := by kernel_rfl
/- sacristan/spec.Copy -/
def s127 (N : Nat) (κ : Oracles) (v0 : AV) (S : St) : R :=
 bindC (oBox S v0) pnA fun x1 S =>
 bindC (oAl S [.int .i64 0, .int .i64 0, .int .i64 0, .int .i64 0, .lst .nil 0 [], .lst .nil 0 []]) pnA fun x2 S =>
 bindP (oFieldAddr 4 1 x1) fun x3 =>
 bindP (oLoad 1 false S x3) fun x4 =>
 bindC (apart κ.toOracle 55 [x4] S) (fun _ _ => none) fun x5 S6 =>
 bindP (oFieldAddr 5 1 x1) fun x7 =>
 bindP (oLoad 1 false S6 x7) fun x8 =>
 bindC (apart κ.toOracle 192 [x8] S6) (fun _ _ => none) fun x9 S10 =>
 bindP (oFieldAddr 4 1 x1) fun x11 =>
 bindC (ok (oStore 1 S10 x11 x5)) (fun v Sx => bif (true && true) && true then pnA v Sx else none) fun _ S12 =>
 bindP (oFieldAddr 5 1 x1) fun x13 =>
 bindC (ok (oStore 1 S12 x13 x9)) (fun v Sx => bif (true && true) && true then pnA v Sx else none) fun _ S14 =>
 bif true then
 (let S := S14;
 bindP (oLoad 6 true S x1) fun x15 =>
 bindC (ok (oStore 6 S x2 x15)) pnA fun _ S =>
 (resA [(oLoad 6 true S x2)]).map fun vs => (.ret (packV vs), S))
 else none
theorem e127 (N : Nat) (κ : Oracles) (v0 : AV) (S : St) : runF (Cs N) κ false 127 [v0] S = s127 N κ v0 S := by kernel_rfl
/- slices.Clone[[]sacristan/api.Task,sacristan/api.Task] -/
def s128 (N : Nat) (κ : Oracles) (v0 : AV) (S : St) : R :=
 bindP (bE (eNil kSli v0 (.lst .nil 0 []))) fun x1 =>
 ifA x1
 (some (.ret (.lst .nil 0 []), S))
 (bindC (oBSo S 8 [.int .u8 0, .int .i64 0, .int .i64 0, .int .i64 0, .int .i64 0, .int .i64 0, .int .i64 0, .lst .nil 0 []] 0 []) pnA fun x2 S =>
 bindC (oApp true 8 80 S x2 v0) pnA fun x3 S =>
 some (.ret x3, S))
theorem e128 (N : Nat) (κ : Oracles) (v0 : AV) (S : St) : runF (Cs N) κ false 128 [v0] S = s128 N κ v0 S := by kernel_rfl
/- slices.Clone[[]sacristan/api.Rec,sacristan/api.Rec] -/
def s129 (N : Nat) (κ : Oracles) (v0 : AV) (S : St) : R :=
 bindP (bE (eNil kSli v0 (.lst .nil 0 []))) fun x1 =>
 ifA x1
 (some (.ret (.lst .nil 0 []), S))
 (bindC (oBSo S 15 [.int .u8 0, .int .i64 0, .int .i64 0, .int .i64 0, .int .i64 0, .int .i64 0, .lst .nil 0 [], .lst .nil 0 [], .int .i64 0, .int .i64 0, .int .i64 0, .int .i64 0, .int .i64 0, .int .i64 0, .int .i64 0] 0 []) pnA fun x2 S =>
 bindC (oApp true 15 152 S x2 v0) pnA fun x3 S =>
 some (.ret x3, S))
theorem e129 (N : Nat) (κ : Oracles) (v0 : AV) (S : St) : runF (Cs N) κ false 129 [v0] S = s129 N κ v0 S := by kernel_rfl
/- sacristan/state.Find -/
def s132 (N : Nat) (κ : Oracles) (v0 v1 : AV) (S : St) : R :=
 bindC (oBox S v0) pnA fun x1 S =>
 bindC (oBox S v1) pnA fun x2 S =>
 bindP (oFieldAddr 4 1 x1) fun x3 =>
 bindP (oLoad 1 false S x3) fun x4 =>
 bindP (some (.func 194 [] [x2])) fun x5 =>
 bindC (callN κ.toOracle 193 [x4, x5] S) pnA fun x6 S =>
 some (.ret x6, S)
theorem e132 (N : Nat) (κ : Oracles) (v0 v1 : AV) (S : St) : runF (Cs N) κ false 132 [v0, v1] S = s132 N κ v0 v1 S := by kernel_rfl
/- sacristan/state.Over -/
def s134 (N : Nat) (κ : Oracles) (v0 : AV) (S : St) : R :=
 bindC (oBox S v0) pnA fun x1 S =>
 bindP (oFieldAddr 9 1 x1) fun x2 =>
 bindP (oLoad 1 false S x2) fun x3 =>
 bindP (oLen S (.slice 52) x3) fun x4 =>
 loop1 (fun vals S1 k5 =>
 let S := gcHead false S.objs.length [] vals S1;
 let x6 := vals.getD 0 .junk;
 let x7 := vals.getD 1 .junk;
 bindP (oArith .lss x7 x4) fun x8 =>
 ifA x8
 (bindP (oIndexAddrS 8 x3 x7) fun x9 =>
 bindP (oLoad 8 true S x9) fun x10 =>
 bindC (oAl S [.int .u8 0, .int .i64 0, .int .i64 0, .int .i64 0, .int .i64 0, .int .i64 0, .int .i64 0, .lst .nil 0 []]) pnA fun x11 S =>
 bindC (ok (oStore 8 S x11 x10)) pnA fun _ S =>
 bindP (oFieldAddr 0 1 x11) fun x12 =>
 bindP (oLoad 1 false S x12) fun x13 =>
 bindC (apart κ.toOracle 196 [x13] S) pnA fun x14 S =>
 bindP (oUn .not x14) fun x15 =>
 ifA x15
 (some (.ret (.bool false), S))
 (bindP (oArith .add x7 (.int .i64 1)) fun x16 =>
 bif sameD [] [] then k5 [x6, x16] S else none))
 (some (.ret (.bool true), S))) N [(.bool false), (.int .i64 0)] S
theorem e134 (N : Nat) (κ : Oracles) (v0 : AV) (S : St) : runF (Cs N) κ false 134 [v0] S = s134 N κ v0 S := by kernel_rfl
/- sacristan/ports.Meet -/
def s135 (N : Nat) (κ : Oracles) (v0 v1 : AV) (S : St) : R :=
 bindC (oBS S 1 [.lst .nil 0 []] 1 [(0, v0)]) pnA fun x1 S =>
 bindC (callN κ.toOracle 197 [x1] S) pnA fun x2 S =>
 bindC (oBS S 1 [.lst .nil 0 []] 1 [(0, v1)]) pnA fun x3 S =>
 bindC (callN κ.toOracle 197 [x3] S) pnA fun x4 S =>
 bindC (oBS S 1 [.lst .nil 0 []] 1 [(0, v0)]) pnA fun x5 S =>
 bindC (callN κ.toOracle 197 [x5] S) pnA fun x6 S =>
 bindC (okv (oRg S x6)) pnA fun x7 S =>
 loop1 (fun vals S1 k8 =>
 let S := gcHead false S.objs.length [] vals S1;
 bindC (okv (oNext S x7)) pnA fun x9 S =>
 bindP (oExt x9 0) fun x10 =>
 ifA x10
 (bindC (okv (oEntry S x7)) pnA fun x11 S =>
 bindP (oExt x11 0) fun x12 =>
 bindP (oLook (some [.i]) false (pack false [.bool false]) S x4 x12 false) fun x13 =>
 bindP (oUn .not x13) fun x14 =>
 ifA x14
 (bindC (ok (oDel (some [.i]) false S x2 x12)) pnA fun _ S =>
 bif sameD [] [] then k8 [] S else none)
 (bif sameD [] [] then k8 [] S else none))
 (bindC (callN κ.toOracle 199 [x2] S) pnA fun x15 S =>
 bindC (callN κ.toOracle 198 [x15] S) pnA fun x16 S =>
 some (.ret x16, S))) N [] S
theorem e135 (N : Nat) (κ : Oracles) (v0 v1 : AV) (S : St) : runF (Cs N) κ false 135 [v0, v1] S = s135 N κ v0 v1 S := by kernel_rfl
/- sacristan/res.Sum -/
def s136 (N : Nat) (κ : Oracles) (v0 : AV) (S : St) : R :=
 bindC (oAl S [.int .i64 0, .int .i64 0, .int .i64 0]) pnA fun x1 S =>
 bindC (oAl S [.int .i64 0, .int .i64 0, .int .i64 0]) pnA fun x2 S =>
 bindP (oLen S (.slice 23) v0) fun x3 =>
 loop1 (fun vals S1 k4 =>
 let S := gcHead false S.objs.length [] vals S1;
 let x5 := vals.getD 0 .junk;
 let x6 := vals.getD 1 .junk;
 bindP (oArith .lss x6 x3) fun x7 =>
 ifA x7
 (bindP (oIndexAddrS 3 v0 x6) fun x8 =>
 bindP (oLoad 3 true S x8) fun x9 =>
 bindC (oAl S [.int .i64 0, .int .i64 0, .int .i64 0]) pnA fun x10 S =>
 bindC (ok (oStore 3 S x10 x9)) pnA fun _ S =>
 bindP (oLoad 3 true S x10) fun x11 =>
 bindC (apart κ.toOracle 77 [x11] S) pnA fun x12 S =>
 bindP (bN (eG (some [.i]) false false false x12 (.int .i64 0))) fun x13 =>
 ifA x13
 (bindP (oFill (plS [(0, 1), (1, 1), (2, 1)]) [.int .i64 0, .int .i64 0, .int .i64 0] []) fun x14 =>
 bindC (ok (oStore 3 S x1 x14)) pnA fun _ S =>
 (resA [(oLoad 3 true S x1), (some (.bool false))]).map fun vs => (.ret (packV vs), S))
 (bindP (oLoad 3 true S x10) fun x15 =>
 bindC (apart κ.toOracle 158 [x15] S) pnA fun x16 S =>
 loop1 (fun vals S1 k17 =>
 let S := gcHead false S.objs.length [] vals S1;
 let x18 := vals.getD 0 .junk;
 bindP (oArith .lss x18 (.int .i64 3)) fun x19 =>
 ifA x19
 (bindP (oIndexArr 3 1 false x16 x18) fun x20 =>
 bindP (oIndexAddrA 3 1 x2 x18) fun x21 =>
 bindP (oLoad 1 false S x21) fun x22 =>
 bindP (oArith .add x22 x20) fun x23 =>
 bindP (oIndexAddrA 3 1 x2 x18) fun x24 =>
 bindC (ok (oStore 1 S x24 x23)) pnA fun _ S =>
 bindP (oArith .add x18 (.int .i64 1)) fun x25 =>
 bif sameD [] [] then k17 [x25] S else none)
 (bindP (oLoad 3 true S x2) fun x26 =>
 bindC (apart κ.toOracle 200 [x26] S) pnA fun x27 S =>
 bindC (apart κ.toOracle 77 [x27] S) pnA fun x28 S =>
 bindP (bN (eG (some [.i]) false false false x28 (.int .i64 0))) fun x29 =>
 ifA x29
 (bindP (oFill (plS [(0, 1), (1, 1), (2, 1)]) [.int .i64 0, .int .i64 0, .int .i64 0] []) fun x30 =>
 bindC (ok (oStore 3 S x1 x30)) pnA fun _ S =>
 (resA [(oLoad 3 true S x1), (some (.bool false))]).map fun vs => (.ret (packV vs), S))
 (bindP (oArith .add x6 (.int .i64 1)) fun x31 =>
 bif sameD [] [] then k4 [x5, x31] S else none))) N [(.int .i64 0)] S))
 (bindP (oLoad 3 true S x2) fun x32 =>
 bindC (apart κ.toOracle 200 [x32] S) pnA fun x33 S =>
 bindC (ok (oStore 3 S x1 x33)) pnA fun _ S =>
 (resA [(oLoad 3 true S x1), (some (.bool true))]).map fun vs => (.ret (packV vs), S))) N [(.bool false), (.int .i64 0)] S
theorem e136 (N : Nat) (κ : Oracles) (v0 : AV) (S : St) : runF (Cs N) κ false 136 [v0] S = s136 N κ v0 S := by kernel_rfl
/- sacristan/res.Fits -/
def s137 (N : Nat) (κ : Oracles) (v0 v1 : AV) (S : St) : R :=
 bindC (oBox S v0) pnA fun x1 S =>
 bindC (oBox S v1) pnA fun x2 S =>
 bindP (oLoad 3 true S x2) fun x3 =>
 bindC (apart κ.toOracle 158 [x3] S) pnA fun x4 S =>
 bindC (oAl S [.int .i64 0, .int .i64 0, .int .i64 0]) pnA fun x5 S =>
 bindC (ok (oStore 3 S x5 x4)) pnA fun _ S =>
 bindP (oLoad 3 true S x1) fun x6 =>
 bindC (apart κ.toOracle 158 [x6] S) pnA fun x7 S =>
 loop1 (fun vals S1 k8 =>
 let S := gcHead false S.objs.length [] vals S1;
 let x9 := vals.getD 0 .junk;
 let x10 := vals.getD 1 .junk;
 bindP (oArith .lss x10 (.int .i64 3)) fun x11 =>
 ifA x11
 (bindP (oIndexArr 3 1 false x7 x10) fun x12 =>
 bindP (oIndexAddrA 3 1 x5 x10) fun x13 =>
 bindP (oLoad 1 false S x13) fun x14 =>
 bindP (oArith .gtr x12 x14) fun x15 =>
 ifA x15
 (some (.ret (.bool false), S))
 (bindP (oArith .add x10 (.int .i64 1)) fun x16 =>
 bif sameD [] [] then k8 [x9, x16] S else none))
 (some (.ret (.bool true), S))) N [(.bool false), (.int .i64 0)] S
theorem e137 (N : Nat) (κ : Oracles) (v0 v1 : AV) (S : St) : runF (Cs N) κ false 137 [v0, v1] S = s137 N κ v0 v1 S := by kernel_rfl
/- sacristan/delay.Check -/
def s138 (N : Nat) (κ : Oracles) (v0 : AV) (S : St) : R :=
 bindC (oBox S v0) pnA fun x1 S =>
 bindP (oFieldAddr 1 1 x1) fun x2 =>
 bindP (oLoad 1 false S x2) fun x3 =>
 bindP (oArith .lss x3 (.int .i64 1)) fun x4 =>
 bindP (guardP x4 false (oFieldAddr 1 1 x1)) fun x5 =>
 bindP (guardP x4 false (oLoad 1 false S x5)) fun x6 =>
 bindP (guardP x4 false (oArith .gtr x6 (.int .i64 8))) fun x7 =>
 bindP (oPick x4 (.bool true) x7) fun x8 =>
 ifA x8
 (some (.ret (.int .i64 3), S))
 (bindP (oFieldAddr 2 1 x1) fun x9 =>
 bindP (oLoad 1 false S x9) fun x10 =>
 bindP (oArith .lss x10 (.int .i64 1)) fun x11 =>
 bindP (guardP x11 false (oFieldAddr 2 1 x1)) fun x12 =>
 bindP (guardP x11 false (oLoad 1 false S x12)) fun x13 =>
 bindP (guardP x11 false (oArith .gtr x13 (.int .i64 1099511627776))) fun x14 =>
 bindP (oPick x11 (.bool true) x14) fun x15 =>
 ifA x15
 (some (.ret (.int .i64 3), S))
 (bindP (oFieldAddr 4 1 x1) fun x16 =>
 bindP (oLoad 1 false S x16) fun x17 =>
 bindP (oArith .lss x17 (.int .i64 1)) fun x18 =>
 bindP (guardP x18 false (oFieldAddr 4 1 x1)) fun x19 =>
 bindP (guardP x18 false (oLoad 1 false S x19)) fun x20 =>
 bindP (guardP x18 false (oArith .gtr x20 (.int .i64 1099511627776))) fun x21 =>
 bindP (oPick x18 (.bool true) x21) fun x22 =>
 bindP (guardP x22 false (oFieldAddr 3 1 x1)) fun x23 =>
 bindP (guardP x22 false (oLoad 1 false S x23)) fun x24 =>
 bindP (guardP x22 false (oArith .lss x24 (.int .i64 1))) fun x25 =>
 bindP (oPick x22 (.bool true) x25) fun x26 =>
 bindP (guardP x26 false (oFieldAddr 3 1 x1)) fun x27 =>
 bindP (guardP x26 false (oLoad 1 false S x27)) fun x28 =>
 bindP (guardP x26 false (oFieldAddr 4 1 x1)) fun x29 =>
 bindP (guardP x26 false (oLoad 1 false S x29)) fun x30 =>
 bindP (guardP x26 false (oArith .gtr x28 x30)) fun x31 =>
 bindP (oPick x26 (.bool true) x31) fun x32 =>
 ifA x32
 (some (.ret (.int .i64 3), S))
 (some (.ret (.int .i64 0), S))))
theorem e138 (N : Nat) (κ : Oracles) (v0 : AV) (S : St) : runF (Cs N) κ false 138 [v0] S = s138 N κ v0 S := by kernel_rfl
/- slices.Sort[[]int,int] -/
def s139 (N : Nat) (κ : Oracles) (v0 : AV) (S : St) : R :=
 bindP (oLen S (.slice 3) v0) fun x1 =>
 bindP (cII .u64 x1) fun x2 =>
 bindC (apart κ.toOracle 202 [x2] S) pnA fun x3 S =>
 bindC (callN κ.toOracle 201 [v0, (.int .i64 0), x1, x3] S) pnA fun x4 S =>
 some (.ret (.tup []), S)
theorem e139 (N : Nat) (κ : Oracles) (v0 : AV) (S : St) : runF (Cs N) κ false 139 [v0] S = s139 N κ v0 S := by kernel_rfl
/- sacristan/pack.Var -/
def s144 (N : Nat) (κ : Oracles) (v0 : AV) (S : St) : R :=
 bindP (oArith .lss v0 (.int .u64 248)) fun x1 =>
 ifA x1
 (bindP (cII .u8 v0) fun x2 =>
 bindC (oBS S 1 [.int .u8 0] 1 [(0, x2)]) pnA fun x3 S =>
 bindP (cBS S x3) fun x4 =>
 some (.ret x4, S))
 (bindC (apart κ.toOracle 207 [v0] S) pnA fun x5 S =>
 bindP (oArith .add (.int .i64 247) x5) fun x6 =>
 bindP (cII .u8 x6) fun x7 =>
 bindC (oBS S 1 [.int .u8 0] 1 [(0, x7)]) (fun _ _ => none) fun x8 S9 =>
 bindP (cBS S9 x8) fun x10 =>
 bindC (apart κ.toOracle 208 [v0, x5] S9) (fun _ _ => none) fun x11 S12 =>
 bindP (oArith .add x10 x11) fun x13 =>
 bif true then
 (let S := S12;
 some (.ret x13, S))
 else none)
theorem e144 (N : Nat) (κ : Oracles) (v0 : AV) (S : St) : runF (Cs N) κ false 144 [v0] S = s144 N κ v0 S := by kernel_rfl
/- sacristan/res.amounts -/
def s158 (N : Nat) (κ : Oracles) (v0 : AV) (S : St) : R :=
 bindC (oBox S v0) pnA fun x1 S =>
 bindC (oAl S [.int .i64 0, .int .i64 0, .int .i64 0]) pnA fun x2 S =>
 bindP (oFieldAddr 0 1 x1) fun x3 =>
 bindP (oLoad 1 false S x3) fun x4 =>
 bindP (oFieldAddr 1 1 x1) fun x5 =>
 bindP (oLoad 1 false S x5) fun x6 =>
 bindP (oFieldAddr 2 1 x1) fun x7 =>
 bindP (oLoad 1 false S x7) fun x8 =>
 bindP (oFill (plA 1) [.int .i64 0, .int .i64 0, .int .i64 0] [(0, x4), (1, x6), (2, x8)]) fun x9 =>
 bindC (ok (oStore 3 S x2 x9)) pnA fun _ S =>
 (resA [(oLoad 3 true S x2)]).map fun vs => (.ret (packV vs), S)
theorem e158 (N : Nat) (κ : Oracles) (v0 : AV) (S : St) : runF (Cs N) κ false 158 [v0] S = s158 N κ v0 S := by kernel_rfl
/- sacristan/store.all -/
def s159 (N : Nat) (κ : Oracles) (v0 : AV) (S : St) : R :=
 bindP (oLen S (.slice 61) v0) fun x1 =>
 loop1 (fun vals S1 k2 =>
 let S := gcHead false S.objs.length [] vals S1;
 let x3 := vals.getD 0 .junk;
 let x4 := vals.getD 1 .junk;
 bindP (oArith .lss x4 x1) fun x5 =>
 ifA x5
 (bindP (oIndexAddrS 15 v0 x4) fun x6 =>
 bindP (oLoad 15 true S x6) fun x7 =>
 bindC (oAl S [.int .u8 0, .int .i64 0, .int .i64 0, .int .i64 0, .int .i64 0, .int .i64 0, .lst .nil 0 [], .lst .nil 0 [], .int .i64 0, .int .i64 0, .int .i64 0, .int .i64 0, .int .i64 0, .int .i64 0, .int .i64 0]) pnA fun x8 S =>
 bindC (ok (oStore 15 S x8 x7)) pnA fun _ S =>
 bindP (oLoad 15 true S x8) fun x9 =>
 bindC (apart κ.toOracle 210 [x9] S) pnA fun x10 S =>
 bindC (oBS S 15 [.int .u8 0, .int .i64 0, .int .i64 0, .int .i64 0, .int .i64 0, .int .i64 0, .lst .nil 0 [], .lst .nil 0 [], .int .i64 0, .int .i64 0, .int .i64 0, .int .i64 0, .int .i64 0, .int .i64 0, .int .i64 0] 1 [(0, x10)]) pnA fun x11 S =>
 bindC (oApp false 15 152 S x3 x11) pnA fun x12 S =>
 bindP (oArith .add x4 (.int .i64 1)) fun x13 =>
 bif sameD [] [] then k2 [x12, x13] S else none)
 (some (.ret x3, S))) N [(.lst .nil 0 []), (.int .i64 0)] S
theorem e159 (N : Nat) (κ : Oracles) (v0 : AV) (S : St) : runF (Cs N) κ false 159 [v0] S = s159 N κ v0 S := by kernel_rfl
/- (*sacristan/disk.store).kept -/
def s160 (N : Nat) (κ : Oracles) (v0 v1 : AV) (S : St) : R :=
 bindP (oNilC v0) fun x1 =>
 bindP (oFieldAddr 3 1 x1) fun x2 =>
 bindP (oLoad 1 false S x2) fun x3 =>
 bindP (oLook (some [.i]) false (pack false [.str []]) S x3 v1 true) fun x4 =>
 bindP (oExt x4 0) fun x5 =>
 bindP (oExt x4 1) fun x6 =>
 ifA x6
 (some (.ret x5, S))
 (bindC (apart κ.toOracle 211 [] S) pnA fun x7 S =>
 some (.ret x7, S))
theorem e160 (N : Nat) (κ : Oracles) (v0 v1 : AV) (S : St) : runF (Cs N) κ false 160 [v0, v1] S = s160 N κ v0 v1 S := by kernel_rfl
/- (*sacristan/disk.store).keep -/
def s161 (N : Nat) (κ : Oracles) (v0 v1 : AV) (S : St) : R :=
 bindC (oBox S v1) pnA fun x1 S =>
 bindP (oFieldAddr 1 1 x1) fun x2 =>
 bindP (oLoad 1 false S x2) fun x3 =>
 bindC (apart κ.toOracle 211 [] S) (fun _ _ => none) fun x4 S5 =>
 bindP (bE (eG (some [.s]) false false false x3 x4)) fun x6 =>
 bif true then
 (let S := S5;
 ifA x6
 (bindP (oNilC v0) fun x7 =>
 bindP (oFieldAddr 3 1 x7) fun x8 =>
 bindP (oLoad 1 false S x8) fun x9 =>
 bindP (oFieldAddr 0 1 x1) fun x10 =>
 bindP (oLoad 1 false S x10) fun x11 =>
 bindC (ok (oDel (some [.i]) false S x9 x11)) (fun v Sx => bif (true && true) && true then pnA v Sx else none) fun _ S12 =>
 bif true then
 (let S := S12;
 some (.ret (.tup []), S))
 else none)
 (bindP (oNilC v0) fun x13 =>
 bindP (oFieldAddr 3 1 x13) fun x14 =>
 bindP (oLoad 1 false S x14) fun x15 =>
 bindP (oFieldAddr 0 1 x1) fun x16 =>
 bindP (oLoad 1 false S x16) fun x17 =>
 bindP (oFieldAddr 1 1 x1) fun x18 =>
 bindP (oLoad 1 false S x18) fun x19 =>
 bindC (ok (oMUp (some [.i]) false S x15 x17 x19)) (fun v Sx => bif (true && true) && true then pnA v Sx else none) fun _ S20 =>
 bif true then
 (let S := S20;
 some (.ret (.tup []), S))
 else none))
 else none
theorem e161 (N : Nat) (κ : Oracles) (v0 v1 : AV) (S : St) : runF (Cs N) κ false 161 [v0, v1] S = s161 N κ v0 v1 S := by kernel_rfl
/- (*sacristan/fuse.Fuse).set -/
def s162 (N : Nat) (κ : Oracles) (v0 v1 v2 : AV) (S : St) : R :=
 bindP (oNilC v0) fun x1 =>
 bindP (oFieldAddr 0 1 x1) fun x2 =>
 bindC (ok (oStore 1 S x2 v1)) pnA fun _ S =>
 bindP (oNilC v0) fun x3 =>
 bindP (oFieldAddr 1 1 x3) fun x4 =>
 bindC (ok (oStore 1 S x4 v2)) pnA fun _ S =>
 let j5 : List AV → St → R := (fun vals S =>
 bindP (oNilC v0) fun x6 =>
 bindP (oFieldAddr 2 1 x6) fun x7 =>
 bindC (ok (oStore 1 S x7 (.func 212 [] []))) pnA fun _ S =>
 some (.ret (.tup []), S));
 bindP (bE (eG (some [.i]) false false false v1 (.int .i64 1))) fun x8 =>
 bindP (guardP x8 true (some v2)) fun x9 =>
 bindP (guardP x8 true (bE (eG (some [.i]) false false false x9 (.int .i64 0)))) fun x10 =>
 bindP (oPick x8 x10 (.bool false)) fun x11 =>
 ifA x11
 (bif sameD [] [] then Join j5 [] S else none)
 (bindP (bE (eG (some [.i]) false false false v1 (.int .i64 2))) fun x12 =>
 ifA x12
 (bif sameD [] [] then Join j5 [] S else none)
 (bindP (bE (eG (some [.i]) false false false v1 (.int .i64 1))) fun x13 =>
 ifA x13
 (bindP (oNilC v0) fun x14 =>
 bindP (oFieldAddr 2 1 x14) fun x15 =>
 bindC (ok (oStore 1 S x15 (.func 213 [] []))) pnA fun _ S =>
 some (.ret (.tup []), S))
 (bindP (oNilC v0) fun x16 =>
 bindP (oFieldAddr 2 1 x16) fun x17 =>
 bindC (ok (oStore 1 S x17 (.func 214 [] []))) pnA fun _ S =>
 some (.ret (.tup []), S))))
theorem e162 (N : Nat) (κ : Oracles) (v0 v1 v2 : AV) (S : St) : runF (Cs N) κ false 162 [v0, v1, v2] S = s162 N κ v0 v1 v2 S := by kernel_rfl
/- (*sacristan/proc.Table).live$1 -/
def s163 (N : Nat) (κ : Oracles) (v0 v1 : AV) (S : St) : R :=
 loop1 (fun vals S1 k1 =>
 let S := gcHead false S.objs.length [] vals S1;
 let x2 := vals.getD 0 .junk;
 bindP (oLoad 1 false S v1) fun x3 =>
 bindP (oNilC x3) fun x4 =>
 bindP (oFieldAddr 1 1 x4) fun x5 =>
 bindP (oLoad 1 false S x5) fun x6 =>
 bindP (oLen S (.map 3 180) x6) fun x7 =>
 bindP (oArith .leq x2 x7) fun x8 =>
 ifA x8
 (bindP (oLoad 1 false S v1) fun x9 =>
 bindP (oNilC x9) fun x10 =>
 bindP (oFieldAddr 1 1 x10) fun x11 =>
 bindP (oLoad 1 false S x11) fun x12 =>
 bindP (oLook (some [.i]) false (pack false [.nilptr]) S x12 x2 false) fun x13 =>
 bindP (oNilC x13) fun x14 =>
 bindP (oFieldAddr 5 1 x14) fun x15 =>
 bindP (oLoad 1 false S x15) fun x16 =>
 bindP (guardP x16 true (some v0)) fun x17 =>
 bindP (guardP x16 true (some x13)) fun x18 =>
 bindC (guardC x16 true S (callD κ.toOracle 163 x17 [x18] S)) pnA fun x19 S =>
 bindP (guardP x16 true (oUn .not x19)) fun x20 =>
 bindP (oPick x16 x20 (.bool false)) fun x21 =>
 ifA x21
 (some (.ret (.tup []), S))
 (bindP (oArith .add x2 (.int .i64 1)) fun x22 =>
 bif sameD [] [] then k1 [x22] S else none))
 (some (.ret (.tup []), S))) N [(.int .i64 1)] S
theorem e163 (N : Nat) (κ : Oracles) (v0 v1 : AV) (S : St) : runF (Cs N) κ false 163 [v0, v1] S = s163 N κ v0 v1 S := by kernel_rfl
/- sacristan/journal.Open -/
def s164 (N : Nat) (κ : Oracles) (v0 v1 : AV) (S : St) : R :=
 bindP (bE (eNil kPtr v0 .nilptr)) fun x1 =>
 ifA x1
 (some (.ret (.tup [.nilptr, (.lst .nil 0 []), (.lst .nil 0 []), (.int .i64 1)]), S))
 (bindP (oArith .lss v1 (.int .i64 1)) fun x2 =>
 bindP (guardP x2 false (some v1)) fun x3 =>
 bindP (guardP x2 false (oArith .gtr x3 (.int .i64 32000))) fun x4 =>
 bindP (oPick x2 (.bool true) x4) fun x5 =>
 bindP (guardP x5 false (some v0)) fun x6 =>
 bindC (guardC x5 false S (callN κ.toOracle 169 [x6] S)) pnA fun x7 S =>
 bindP (guardP x5 false (some v1)) fun x8 =>
 bindP (guardP x5 false (oArith .mul (.int .i64 2) x8)) fun x9 =>
 bindP (guardP x5 false (oArith .add (.int .i64 2) x9)) fun x10 =>
 bindP (guardP x5 false (bN (eG (some [.i]) false false false x7 x10))) fun x11 =>
 bindP (oPick x5 (.bool true) x11) fun x12 =>
 ifA x12
 (some (.ret (.tup [.nilptr, (.lst .nil 0 []), (.lst .nil 0 []), (.int .i64 2)]), S))
 (bindC (callN κ.toOracle 215 [v0] S) pnA fun x13 S =>
 bindP (oExt x13 0) fun x14 =>
 bindP (oExt x13 1) fun x15 =>
 bindC (oAl S [.int .i64 0, .int .i64 0, .int .i64 0, .int .i64 0, .int .i64 0]) pnA fun x16 S =>
 bindC (ok (oStore 5 S x16 x14)) pnA fun _ S =>
 let j17 : List AV → St → R := (fun vals S =>
 let x18 := vals.getD 0 .junk;
 let x19 := vals.getD 1 .junk;
 let x20 := vals.getD 2 .junk;
 let x21 := vals.getD 3 .junk;
 bindP (oLoad 5 true S x16) fun x22 =>
 bindP (oFill (plS [(0, 1), (1, 1), (2, 5), (7, 1), (8, 1), (9, 1)]) [.nilptr, .int .i64 0, .int .i64 0, .int .i64 0, .int .i64 0, .int .i64 0, .int .i64 0, .int .i64 0, .int .i64 0, .bool false] [(0, v0), (1, v1), (2, x22)]) fun x23 =>
 bindC (oBox S x23) pnA fun x24 S =>
 bindC (callN κ.toOracle 216 [x24] S) pnA fun x25 S =>
 bindP (oExt x25 0) fun x26 =>
 bindP (oExt x25 1) fun x27 =>
 bindP (bN (eG (some [.i]) false false false x27 (.int .i64 0))) fun x28 =>
 ifA x28
 (some (.ret (.tup [.nilptr, (.lst .nil 0 []), (.lst .nil 0 []), x27]), S))
 (bindP (oLen S (.slice 9) x26) fun x29 =>
 bindP (oFieldAddr 4 1 x16) fun x30 =>
 bindP (oLoad 1 false S x30) fun x31 =>
 bindP (oArith .lss x29 x31) fun x32 =>
 ifA x32
 (some (.ret (.tup [.nilptr, (.lst .nil 0 []), (.lst .nil 0 []), (.int .i64 12)]), S))
 (bindP (oNilC x24) fun x33 =>
 bindP (oFieldAddr 2 5 x33) fun x34 =>
 bindP (oFieldAddr 0 1 x34) fun x35 =>
 bindP (oLoad 1 false S x35) fun x36 =>
 bindP (oArith .add x36 (.int .i64 1)) fun x37 =>
 bindP (oNilC x24) fun x38 =>
 bindP (oFieldAddr 2 5 x38) fun x39 =>
 bindP (oFieldAddr 0 1 x39) fun x40 =>
 bindC (ok (oStore 1 S x40 x37)) pnA fun _ S =>
 bindP (oNilC x24) fun x41 =>
 bindP (oFieldAddr 2 5 x41) fun x42 =>
 bindP (oFieldAddr 1 1 x42) fun x43 =>
 bindP (oLoad 1 false S x43) fun x44 =>
 bindP (oArith .add x44 (.int .i64 1)) fun x45 =>
 bindP (oNilC x24) fun x46 =>
 bindP (oFieldAddr 2 5 x46) fun x47 =>
 bindP (oFieldAddr 1 1 x47) fun x48 =>
 bindC (ok (oStore 1 S x48 x45)) pnA fun _ S =>
 bindP (oNilC x24) fun x49 =>
 bindP (oFieldAddr 2 5 x49) fun x50 =>
 bindP (oLoad 5 true S x50) fun x51 =>
 bindC (callN κ.toOracle 217 [v0, x51] S) pnA fun x52 S =>
 bindP (bN (eG (some [.i]) false false false x52 (.int .i64 0))) fun x53 =>
 ifA x53
 (some (.ret (.tup [.nilptr, (.lst .nil 0 []), (.lst .nil 0 []), x52]), S))
 (bindC (oBS S 1 [.str []] 0 []) (fun _ _ => none) fun x54 S55 =>
 bindP (oFieldAddr 4 1 x16) fun x56 =>
 bindP (oLoad 1 false S55 x56) fun x57 =>
 bindP (slS 1 x26 none (some x57) none) fun x58 =>
 bindC (oApp false 1 16 S55 x54 x58) (fun v Sx => bif (true && true) && false then pnA v Sx else none) fun x59 S60 =>
 bindC (oBS S60 1 [.str []] 0 []) (fun _ _ => none) fun x61 S62 =>
 bindP (oFieldAddr 4 1 x16) fun x63 =>
 bindP (oLoad 1 false S62 x63) fun x64 =>
 bindP (slS 1 x26 (some x64) none none) fun x65 =>
 bindC (oApp false 1 16 S62 x61 x65) (fun v Sx => bif (true && (((false || (chkA (oLoad 1 false S55 x63) x64 && chkA (oLoad 1 false S60 x63) x64)) && true) && ((true && true) && true))) && true then pnA v Sx else none) fun x66 S67 =>
 bif ((true && ((false || (chkA (oLoad 1 false S55 x63) x64 && chkA (oLoad 1 false S60 x63) x64)) && true)) && ((true && (true && true)) && true)) then
 (let S := S67;
 some (.ret (.tup [x24, x59, x66, (.int .i64 0)]), S))
 else none))));
 bindP (bE (eG (some [.i]) false false false x15 (.int .i64 0))) fun x68 =>
 ifA x68
 (bif sameD [] [] then Join j17 [.nilptr, (.lst .nil 0 []), (.lst .nil 0 []), x15] S else none)
 (bindP (bE (eG (some [.i]) false false false x15 (.int .i64 6))) fun x69 =>
 ifA x69
 (bindP (oFill (plS [(0, 1), (1, 1), (2, 1), (3, 1), (4, 1)]) [.int .i64 0, .int .i64 0, .int .i64 0, .int .i64 0, .int .i64 0] [(3, (.int .i64 1))]) fun x70 =>
 bindC (ok (oStore 5 S x16 x70)) pnA fun _ S =>
 bif sameD [] [] then Join j17 [.nilptr, (.lst .nil 0 []), (.lst .nil 0 []), x15] S else none)
 (some (.ret (.tup [.nilptr, (.lst .nil 0 []), (.lst .nil 0 []), x15]), S)))))
theorem e164 (N : Nat) (κ : Oracles) (v0 v1 : AV) (S : St) : runF (Cs N) κ false 164 [v0, v1] S = s164 N κ v0 v1 S := by kernel_rfl
/- sacristan/state.New -/
def s165 (N : Nat) (κ : Oracles) (S : St) : R :=
 bindC (oAl S [.int .i64 0, .int .i64 0, .int .i64 0, .int .i64 0, .lst .nil 0 []]) pnA fun x1 S =>
 bindP (oFill (plS [(0, 1), (1, 1), (2, 1), (3, 1), (4, 1)]) [.int .i64 0, .int .i64 0, .int .i64 0, .int .i64 0, .lst .nil 0 []] [(1, (.int .i64 1)), (2, (.int .i64 1)), (3, (.int .i64 (-1)))]) fun x2 =>
 bindC (ok (oStore 5 S x1 x2)) pnA fun _ S =>
 (resA [(oLoad 5 true S x1)]).map fun vs => (.ret (packV vs), S)
theorem e165 (N : Nat) (κ : Oracles) (S : St) : runF (Cs N) κ false 165 [] S = s165 N κ S := by kernel_rfl
/- sacristan/rec.Decode -/
def s167 (N : Nat) (κ : Oracles) (v0 : AV) (S : St) : R :=
 bindC (oAl S [.int .u8 0, .int .i64 0, .int .i64 0, .int .i64 0, .int .i64 0, .int .i64 0, .lst .nil 0 [], .lst .nil 0 [], .int .i64 0, .int .i64 0, .int .i64 0, .int .i64 0, .int .i64 0, .int .i64 0, .int .i64 0]) pnA fun x1 S =>
 bindC (apart κ.toOracle 209 [v0] S) pnA fun x2 S =>
 bindP (oExt x2 0) fun x3 =>
 bindP (oExt x2 1) fun x4 =>
 bindP (oExt x2 2) fun x5 =>
 bindP (bN (eG (some [.i]) false false false x5 (.int .i64 0))) fun x6 =>
 bindP (guardP x6 false (some x3)) fun x7 =>
 bindP (guardP x6 false (oArith .gtr x7 (.int .u64 9))) fun x8 =>
 bindP (oPick x6 (.bool true) x8) fun x9 =>
 ifA x9
 (bindP (oFill (plS [(0, 1), (1, 1), (2, 6), (8, 1), (9, 1), (10, 1), (11, 1), (12, 1), (13, 1), (14, 1)]) [.int .u8 0, .int .i64 0, .int .i64 0, .int .i64 0, .int .i64 0, .int .i64 0, .lst .nil 0 [], .lst .nil 0 [], .int .i64 0, .int .i64 0, .int .i64 0, .int .i64 0, .int .i64 0, .int .i64 0, .int .i64 0] []) fun x10 =>
 bindC (ok (oStore 15 S x1 x10)) pnA fun _ S =>
 (resA [(oLoad 15 true S x1), (some (.int .i64 4))]).map fun vs => (.ret (packV vs), S))
 (bindP (cII .u8 x3) fun x11 =>
 bindP (oFill (plS [(0, 1), (1, 1), (2, 6), (8, 1), (9, 1), (10, 1), (11, 1), (12, 1), (13, 1), (14, 1)]) [.int .u8 0, .int .i64 0, .int .i64 0, .int .i64 0, .int .i64 0, .int .i64 0, .lst .nil 0 [], .lst .nil 0 [], .int .i64 0, .int .i64 0, .int .i64 0, .int .i64 0, .int .i64 0, .int .i64 0, .int .i64 0] [(0, x11)]) fun x12 =>
 bindC (oAl S [.int .u8 0, .int .i64 0, .int .i64 0, .int .i64 0, .int .i64 0, .int .i64 0, .lst .nil 0 [], .lst .nil 0 [], .int .i64 0, .int .i64 0, .int .i64 0, .int .i64 0, .int .i64 0, .int .i64 0, .int .i64 0]) pnA fun x13 S =>
 bindC (ok (oStore 15 S x13 x12)) pnA fun _ S =>
 bindP (oFieldAddr 0 1 x13) fun x14 =>
 bindP (oLoad 1 false S x14) fun x15 =>
 bindC (apart κ.toOracle 220 [x15] S) pnA fun x16 S =>
 bindC (callN κ.toOracle 221 [x13] S) pnA fun x17 S =>
 bindP (oLen S (.slice 337) x17) fun x18 =>
 loop1 (fun vals S1 k19 =>
 let S := gcHead false S.objs.length [] vals S1;
 let x20 := vals.getD 0 .junk;
 let x21 := vals.getD 1 .junk;
 let x22 := vals.getD 2 .junk;
 bindP (oArith .lss x22 x18) fun x23 =>
 ifA x23
 (let j24 : List AV → St → R := (fun vals S =>
 let x25 := vals.getD 0 .junk;
 let x26 := vals.getD 1 .junk;
 bindP (oArith .add x22 (.int .i64 1)) fun x27 =>
 bif sameD [] [] then k19 [x25, x26, x27] S else none);
 bindP (oIndexAddrS 3 x17 x22) fun x28 =>
 bindP (oLoad 3 true S x28) fun x29 =>
 bindC (oAl S [.int .i64 0, .nilptr, .int .i64 0]) pnA fun x30 S =>
 bindC (ok (oStore 3 S x30 x29)) pnA fun _ S =>
 bindP (oFieldAddr 0 1 x30) fun x31 =>
 bindP (oLoad 1 false S x31) fun x32 =>
 bindP (oArith .and x16 x32) fun x33 =>
 bindP (bE (eG (some [.i]) false false false x33 (.int .i64 0))) fun x34 =>
 ifA x34
 (bif sameD [] [] then Join j24 [x20, x21] S else none)
 (bindC (apart κ.toOracle 209 [x21] S) pnA fun x35 S =>
 bindP (oExt x35 0) fun x36 =>
 bindP (oExt x35 1) fun x37 =>
 bindP (oExt x35 2) fun x38 =>
 bindP (bN (eG (some [.i]) false false false x38 (.int .i64 0))) fun x39 =>
 bindP (guardP x39 false (some x36)) fun x40 =>
 bindP (guardP x39 false (oFieldAddr 2 1 x30)) fun x41 =>
 bindP (guardP x39 false (oLoad 1 false S x41)) fun x42 =>
 bindP (guardP x39 false (cII .u64 x42)) fun x43 =>
 bindP (guardP x39 false (oArith .gtr x40 x43)) fun x44 =>
 bindP (oPick x39 (.bool true) x44) fun x45 =>
 ifA x45
 (bindP (oFill (plS [(0, 1), (1, 1), (2, 6), (8, 1), (9, 1), (10, 1), (11, 1), (12, 1), (13, 1), (14, 1)]) [.int .u8 0, .int .i64 0, .int .i64 0, .int .i64 0, .int .i64 0, .int .i64 0, .lst .nil 0 [], .lst .nil 0 [], .int .i64 0, .int .i64 0, .int .i64 0, .int .i64 0, .int .i64 0, .int .i64 0, .int .i64 0] []) fun x46 =>
 bindC (ok (oStore 15 S x1 x46)) pnA fun _ S =>
 (resA [(oLoad 15 true S x1), (some (.int .i64 4))]).map fun vs => (.ret (packV vs), S))
 (bindP (oFieldAddr 1 1 x30) fun x47 =>
 bindP (oLoad 1 false S x47) fun x48 =>
 bindP (cII .i64 x36) fun x49 =>
 bindP (oNilC x48) fun x50 =>
 bindC (ok (oStore 1 S x50 x49)) pnA fun _ S =>
 bif sameD [] [] then Join j24 [x20, x37] S else none)))
 (let j51 : List AV → St → R := (fun vals S =>
 let x52 := vals.getD 0 .junk;
 let x53 := vals.getD 1 .junk;
 let j54 : List AV → St → R := (fun vals S =>
 let x55 := vals.getD 0 .junk;
 let x56 := vals.getD 1 .junk;
 bindP (bN (eG (some [.s]) false false false x56 (.str []))) fun x57 =>
 bindP (guardP x57 false (oLoad 15 true S x13)) fun x58 =>
 bindC (guardC x57 false S (apart κ.toOracle 223 [x58] S)) pnA fun x59 S =>
 bindP (guardP x57 false (bN (eG (some [.i]) false false false x59 (.int .i64 0)))) fun x60 =>
 bindP (oPick x57 (.bool true) x60) fun x61 =>
 ifA x61
 (bindP (oFill (plS [(0, 1), (1, 1), (2, 6), (8, 1), (9, 1), (10, 1), (11, 1), (12, 1), (13, 1), (14, 1)]) [.int .u8 0, .int .i64 0, .int .i64 0, .int .i64 0, .int .i64 0, .int .i64 0, .lst .nil 0 [], .lst .nil 0 [], .int .i64 0, .int .i64 0, .int .i64 0, .int .i64 0, .int .i64 0, .int .i64 0, .int .i64 0] []) fun x62 =>
 bindC (ok (oStore 15 S x1 x62)) pnA fun _ S =>
 (resA [(oLoad 15 true S x1), (some (.int .i64 4))]).map fun vs => (.ret (packV vs), S))
 (bindP (oLoad 15 true S x13) fun x63 =>
 bindC (ok (oStore 15 S x1 x63)) pnA fun _ S =>
 (resA [(oLoad 15 true S x1), (some (.int .i64 0))]).map fun vs => (.ret (packV vs), S)));
 bindP (oArith .and x16 (.int .i64 256)) fun x64 =>
 bindP (bN (eG (some [.i]) false false false x64 (.int .i64 0))) fun x65 =>
 ifA x65
 (bindC (apart κ.toOracle 155 [x53] S) pnA fun x66 S =>
 bindP (oExt x66 0) fun x67 =>
 bindP (oExt x66 1) fun x68 =>
 bindP (oExt x66 2) fun x69 =>
 bindP (oFieldAddr 14 1 x13) fun x70 =>
 bindC (ok (oStore 1 S x70 x67)) pnA fun _ S =>
 bindP (bN (eG (some [.i]) false false false x69 (.int .i64 0))) fun x71 =>
 ifA x71
 (bindP (oFill (plS [(0, 1), (1, 1), (2, 6), (8, 1), (9, 1), (10, 1), (11, 1), (12, 1), (13, 1), (14, 1)]) [.int .u8 0, .int .i64 0, .int .i64 0, .int .i64 0, .int .i64 0, .int .i64 0, .lst .nil 0 [], .lst .nil 0 [], .int .i64 0, .int .i64 0, .int .i64 0, .int .i64 0, .int .i64 0, .int .i64 0, .int .i64 0] []) fun x72 =>
 bindC (ok (oStore 15 S x1 x72)) pnA fun _ S =>
 (resA [(oLoad 15 true S x1), (some (.int .i64 4))]).map fun vs => (.ret (packV vs), S))
 (bif sameD [] [] then Join j54 [x52, x68] S else none))
 (bif sameD [] [] then Join j54 [x52, x53] S else none));
 bindP (oArith .and x16 (.int .i64 2)) fun x73 =>
 bindP (bN (eG (some [.i]) false false false x73 (.int .i64 0))) fun x74 =>
 ifA x74
 (bindC (apart κ.toOracle 222 [x21] S) pnA fun x75 S =>
 bindP (oExt x75 0) fun x76 =>
 bindP (oExt x75 1) fun x77 =>
 bindP (oExt x75 2) fun x78 =>
 bindP (oFieldAddr 2 6 x13) fun x79 =>
 bindC (ok (oStore 6 S x79 x76)) pnA fun _ S =>
 bindP (bN (eG (some [.i]) false false false x78 (.int .i64 0))) fun x80 =>
 ifA x80
 (bindP (oFill (plS [(0, 1), (1, 1), (2, 6), (8, 1), (9, 1), (10, 1), (11, 1), (12, 1), (13, 1), (14, 1)]) [.int .u8 0, .int .i64 0, .int .i64 0, .int .i64 0, .int .i64 0, .int .i64 0, .lst .nil 0 [], .lst .nil 0 [], .int .i64 0, .int .i64 0, .int .i64 0, .int .i64 0, .int .i64 0, .int .i64 0, .int .i64 0] []) fun x81 =>
 bindC (ok (oStore 15 S x1 x81)) pnA fun _ S =>
 (resA [(oLoad 15 true S x1), (some (.int .i64 4))]).map fun vs => (.ret (packV vs), S))
 (bif sameD [] [] then Join j51 [x20, x77] S else none))
 (bif sameD [] [] then Join j51 [x20, x21] S else none))) N [(.int .i64 0), x4, (.int .i64 0)] S)
theorem e167 (N : Nat) (κ : Oracles) (v0 : AV) (S : St) : runF (Cs N) κ false 167 [v0] S = s167 N κ v0 S := by kernel_rfl
/- sacristan/state.Apply -/
def s168 (N : Nat) (κ : Oracles) (v0 v1 v2 : AV) (S : St) : R :=
 bindC (oBox S v0) pnA fun x1 S =>
 bindC (oBox S v1) pnA fun x2 S =>
 bindC (oBox S v2) pnA fun x3 S =>
 bindC (oAl S [.int .i64 0, .int .i64 0, .int .i64 0, .int .i64 0, .lst .nil 0 []]) pnA fun x4 S =>
 bindP (oLoad 11 true S x1) fun x5 =>
 bindP (oLoad 5 true S x2) fun x6 =>
 bindC (apart κ.toOracle 219 [x5, x6] S) pnA fun x7 S =>
 bindP (bN (eG (some [.i]) false false false x7 (.int .i64 0))) fun x8 =>
 ifA x8
 (bindP (oFill (plS [(0, 1), (1, 1), (2, 1), (3, 1), (4, 1)]) [.int .i64 0, .int .i64 0, .int .i64 0, .int .i64 0, .lst .nil 0 []] []) fun x9 =>
 bindC (ok (oStore 5 S x4 x9)) pnA fun _ S =>
 (resA [(oLoad 5 true S x4), (some x7)]).map fun vs => (.ret (packV vs), S))
 (bindP (oLoad 15 true S x3) fun x10 =>
 bindC (apart κ.toOracle 223 [x10] S) pnA fun x11 S =>
 bindP (bN (eG (some [.i]) false false false x11 (.int .i64 0))) fun x12 =>
 ifA x12
 (bindP (oFill (plS [(0, 1), (1, 1), (2, 1), (3, 1), (4, 1)]) [.int .i64 0, .int .i64 0, .int .i64 0, .int .i64 0, .lst .nil 0 []] []) fun x13 =>
 bindC (ok (oStore 5 S x4 x13)) pnA fun _ S =>
 (resA [(oLoad 5 true S x4), (some x11)]).map fun vs => (.ret (packV vs), S))
 (bindP (oLoad 11 true S x1) fun x14 =>
 bindP (oLoad 5 true S x2) fun x15 =>
 bindC (callN κ.toOracle 53 [x15] S) (fun v Sx => bif (true && true) && true then pnA v Sx else none) fun x16 S17 =>
 bindP (oFill (plS [(0, 11), (11, 5)]) [.int .i64 0, .int .i64 0, .int .i64 0, .int .i64 0, .int .i64 0, .int .i64 0, .int .i64 0, .int .i64 0, .int .i64 0, .int .i64 0, .int .i64 0, .int .i64 0, .int .i64 0, .int .i64 0, .int .i64 0, .lst .nil 0 []] [(0, x14), (1, x16)]) fun x18 =>
 bindC (oBox S17 x18) (fun v Sx => bif (true && ((true && true) && (((false || (chkA (oLoad 11 true S x1) x14 && chkA (oLoad 11 true S17 x1) x14)) && true) && true))) && true then pnA v Sx else none) fun x19 S20 =>
 bif ((true && (true && true)) && ((true && ((false || (chkA (oLoad 11 true S x1) x14 && chkA (oLoad 11 true S17 x1) x14)) && true)) && true)) then
 (let S := S20;
 bindC (callN κ.toOracle 224 [] S) (fun v Sx => bif (true && true) && (rfA (oFieldAddr 0 1 x3) fun x23 => false) then pnA v Sx else none) fun x21 S22 =>
 bindP (oFieldAddr 0 1 x3) fun x24 =>
 bindP (oLoad 1 false S22 x24) fun x25 =>
 bindP (oLook (some [.i]) false (pack false [.nilfunc]) S22 x21 x25 false) fun x26 =>
 bindP (oLoad 15 true S22 x3) fun x27 =>
 bindC (callD κ.toOracle 168 x26 [x19, x27] S22) (fun v Sx => bif (true && (((false || (chkA (oLoad 15 true S x3) x27 && chkA (oLoad 15 true S22 x3) x27)) && true) && ((true && true) && (((false || (chkA (oLoad 1 false S x24) x25 && chkA (oLoad 1 false S22 x24) x25)) && true) && true)))) && true then pnA v Sx else none) fun x28 S29 =>
 bif ((true && ((false || (chkA (oLoad 15 true S x3) x27 && chkA (oLoad 15 true S22 x3) x27)) && true)) && ((true && (true && true)) && ((true && ((false || (chkA (oLoad 1 false S x24) x25 && chkA (oLoad 1 false S22 x24) x25)) && true)) && true))) then
 (let S := S29;
 bindP (bN (eG (some [.i]) false false false x28 (.int .i64 0))) fun x30 =>
 ifA x30
 (bindP (oFill (plS [(0, 1), (1, 1), (2, 1), (3, 1), (4, 1)]) [.int .i64 0, .int .i64 0, .int .i64 0, .int .i64 0, .lst .nil 0 []] []) fun x31 =>
 bindC (ok (oStore 5 S x4 x31)) pnA fun _ S =>
 (resA [(oLoad 5 true S x4), (some x28)]).map fun vs => (.ret (packV vs), S))
 (bindP (oNilC x19) fun x32 =>
 bindP (oFieldAddr 11 5 x32) fun x33 =>
 bindP (oLoad 5 true S x33) fun x34 =>
 bindC (ok (oStore 5 S x4 x34)) pnA fun _ S =>
 (resA [(oLoad 5 true S x4), (some (.int .i64 0))]).map fun vs => (.ret (packV vs), S)))
 else none)
 else none))
theorem e168 (N : Nat) (κ : Oracles) (v0 v1 v2 : AV) (S : St) : runF (Cs N) κ false 168 [v0, v1, v2] S = s168 N κ v0 v1 v2 S := by kernel_rfl
/- (*sacristan/disk.Disk).Sectors -/
def s169 (N : Nat) (κ : Oracles) (v0 : AV) (S : St) : R :=
 bindP (bE (eNil kPtr v0 .nilptr)) fun x1 =>
 ifA x1
 (some (.ret (.int .i64 0), S))
 (bindP (oNilC v0) fun x2 =>
 bindP (oFieldAddr 0 5 x2) fun x3 =>
 bindP (oFieldAddr 1 1 x3) fun x4 =>
 bindP (oLoad 1 false S x4) fun x5 =>
 some (.ret x5, S))
theorem e169 (N : Nat) (κ : Oracles) (v0 : AV) (S : St) : runF (Cs N) κ false 169 [v0] S = s169 N κ v0 S := by kernel_rfl
/- (*sacristan/journal.Journal).Boot -/
def s171 (N : Nat) (κ : Oracles) (v0 : AV) (S : St) : R :=
 bindP (bE (eNil kPtr v0 .nilptr)) fun x1 =>
 ifA x1
 (some (.ret (.int .i64 0), S))
 (bindP (oNilC v0) fun x2 =>
 bindP (oFieldAddr 2 5 x2) fun x3 =>
 bindP (oFieldAddr 1 1 x3) fun x4 =>
 bindP (oLoad 1 false S x4) fun x5 =>
 some (.ret x5, S))
theorem e171 (N : Nat) (κ : Oracles) (v0 : AV) (S : St) : runF (Cs N) κ false 171 [v0] S = s171 N κ v0 S := by kernel_rfl
/- sacristan/boot.judged -/
def s172 (N : Nat) (κ : Oracles) (v0 v1 v2 : AV) (S : St) : R :=
 bindC (oBox S v0) pnA fun x1 S =>
 bindC (oBox S v1) pnA fun x2 S =>
 bindC (oAl S [.int .i64 0, .int .i64 0, .int .i64 0, .int .i64 0, .lst .nil 0 [], .bool false]) pnA fun x3 S =>
 bindP (oLoad 11 true S x1) fun x4 =>
 bindP (oLoad 5 true S x2) fun x5 =>
 bindC (apart κ.toOracle 219 [x4, x5] S) pnA fun x6 S =>
 bindP (bN (eG (some [.i]) false false false x6 (.int .i64 0))) fun x7 =>
 ifA x7
 (bindP (oFill (plS [(0, 5), (5, 1)]) [.int .i64 0, .int .i64 0, .int .i64 0, .int .i64 0, .lst .nil 0 [], .bool false] []) fun x8 =>
 bindC (ok (oStore 6 S x3 x8)) pnA fun _ S =>
 (resA [(oLoad 6 true S x3), (some x6)]).map fun vs => (.ret (packV vs), S))
 (bindP (oArith .lss v2 (.int .i64 0)) fun x9 =>
 bindP (guardP x9 false (some v2)) fun x10 =>
 bindP (guardP x9 false (oArith .gtr x10 (.int .i64 1099511627776))) fun x11 =>
 bindP (oPick x9 (.bool true) x11) fun x12 =>
 ifA x12
 (bindP (oFill (plS [(0, 5), (5, 1)]) [.int .i64 0, .int .i64 0, .int .i64 0, .int .i64 0, .lst .nil 0 [], .bool false] []) fun x13 =>
 bindC (ok (oStore 6 S x3 x13)) pnA fun _ S =>
 (resA [(oLoad 6 true S x3), (some (.int .i64 3))]).map fun vs => (.ret (packV vs), S))
 (bindP (oLoad 11 true S x1) fun x14 =>
 bindP (oFieldAddr 3 1 x2) fun x15 =>
 bindP (oLoad 1 false S x15) fun x16 =>
 bindC (apart κ.toOracle 227 [x14, x16, v2] S) pnA fun x17 S =>
 bindP (oExt x17 0) fun x18 =>
 bindP (oExt x17 1) fun x19 =>
 bindP (oLoad 5 true S x2) fun x20 =>
 bindP (oFill (plS [(0, 5), (5, 1)]) [.int .i64 0, .int .i64 0, .int .i64 0, .int .i64 0, .lst .nil 0 [], .bool false] [(0, x20), (1, x18)]) fun x21 =>
 bindC (ok (oStore 6 S x3 x21)) pnA fun _ S =>
 (resA [(oLoad 6 true S x3), (some x19)]).map fun vs => (.ret (packV vs), S)))
theorem e172 (N : Nat) (κ : Oracles) (v0 v1 v2 : AV) (S : St) : runF (Cs N) κ false 172 [v0, v1, v2] S = s172 N κ v0 v1 v2 S := by kernel_rfl
/- sacristan/boot.filter[sacristan/api.Proc] -/
def s173 (N : Nat) (κ : Oracles) (v0 v1 : AV) (S : St) : R :=
 bindP (oLen S (.slice 116) v0) fun x1 =>
 loop1 (fun vals S1 k2 =>
 let S := gcHead false S.objs.length [] vals S1;
 let x3 := vals.getD 0 .junk;
 let x4 := vals.getD 1 .junk;
 bindP (oArith .lss x4 x1) fun x5 =>
 ifA x5
 (let j6 : List AV → St → R := (fun vals S =>
 let x7 := vals.getD 0 .junk;
 bindP (oArith .add x4 (.int .i64 1)) fun x8 =>
 bif sameD [] [] then k2 [x7, x8] S else none);
 bindP (oIndexAddrS 9 v0 x4) fun x9 =>
 bindP (oLoad 9 true S x9) fun x10 =>
 bindC (oAl S [.int .i64 0, .int .i64 0, .int .i64 0, .int .i64 0, .int .i64 0, .bool false, .bool false, .bool false, .int .i64 0]) pnA fun x11 S =>
 bindC (ok (oStore 9 S x11 x10)) pnA fun _ S =>
 bindP (oLoad 9 true S x11) fun x12 =>
 bindC (callD κ.toOracle 173 v1 [x12] S) pnA fun x13 S =>
 ifA x13
 (bindP (oLoad 9 true S x11) fun x14 =>
 bindC (oBS S 9 [.int .i64 0, .int .i64 0, .int .i64 0, .int .i64 0, .int .i64 0, .bool false, .bool false, .bool false, .int .i64 0] 1 [(0, x14)]) pnA fun x15 S =>
 bindC (oApp false 9 56 S x3 x15) pnA fun x16 S =>
 bif sameD [] [] then Join j6 [x16] S else none)
 (bif sameD [] [] then Join j6 [x3] S else none))
 (some (.ret x3, S))) N [(.lst .nil 0 []), (.int .i64 0)] S
theorem e173 (N : Nat) (κ : Oracles) (v0 v1 : AV) (S : St) : runF (Cs N) κ false 173 [v0, v1] S = s173 N κ v0 v1 S := by kernel_rfl
/- (sacristan/boot.judge).kills -/
def s174 (N : Nat) (κ : Oracles) (v0 v1 : AV) (S : St) : R :=
 bindC (oBox S v0) pnA fun x1 S =>
 bindC (oBox S v1) pnA fun x2 S =>
 bindP (oFieldAddr 5 1 x2) fun x3 =>
 bindP (oLoad 1 false S x3) fun x4 =>
 bindP (guardP x4 true (oLoad 6 true S x1)) fun x5 =>
 bindP (guardP x4 true (oLoad 9 true S x2)) fun x6 =>
 bindC (guardC x4 true S (apart κ.toOracle 228 [x5, x6] S)) pnA fun x7 S =>
 bindP (guardP x4 true (oUn .not x7)) fun x8 =>
 bindP (oPick x4 x8 (.bool false)) fun x9 =>
 some (.ret x9, S)
theorem e174 (N : Nat) (κ : Oracles) (v0 v1 : AV) (S : St) : runF (Cs N) κ false 174 [v0, v1] S = s174 N κ v0 v1 S := by kernel_rfl
/- (*sacristan/agent.Agent).up -/
def s176 (N : Nat) (κ : Oracles) (v0 : AV) (S : St) : R :=
 bindP (bE (eNil kPtr v0 .nilptr)) fun x1 =>
 ifA x1
 (some (.ret (.int .i64 1), S))
 (bindP (oNilC v0) fun x2 =>
 bindP (oFieldAddr 16 1 x2) fun x3 =>
 bindP (oLoad 1 false S x3) fun x4 =>
 ifA x4
 (some (.ret (.int .i64 10), S))
 (some (.ret (.int .i64 0), S)))
theorem e176 (N : Nat) (κ : Oracles) (v0 : AV) (S : St) : runF (Cs N) κ false 176 [v0] S = s176 N κ v0 S := by kernel_rfl
/- (*sacristan/agent.Agent).send -/
def s177 (N : Nat) (κ : Oracles) (v0 : AV) (S : St) : R :=
 bindP (oNilC v0) fun x1 =>
 bindP (oFieldAddr 12 1 x1) fun x2 =>
 bindP (oLoad 1 false S x2) fun x3 =>
 bindC (callN κ.toOracle 33 [x3] S) pnA fun x4 S =>
 bindP (oNilC v0) fun x5 =>
 bindP (oFieldAddr 1 11 x5) fun x6 =>
 bindP (oLoad 11 true S x6) fun x7 =>
 bindP (oNilC v0) fun x8 =>
 bindP (oFieldAddr 15 1 x8) fun x9 =>
 bindP (oLoad 1 false S x9) fun x10 =>
 bindC (apart κ.toOracle 230 [x7, x10, x4] S) (fun _ _ => none) fun x11 S12 =>
 bindP (oExt x11 0) fun x13 =>
 bindP (oExt x11 1) fun x14 =>
 bif true then
 (let S := S12;
 bindP (bN (eG (some [.i]) false false false x14 (.int .i64 0))) fun x15 =>
 bindP (guardP x15 false (some x13)) fun x16 =>
 bindP (guardP x15 false (oUn .not x16)) fun x17 =>
 bindP (oPick x15 (.bool true) x17) fun x18 =>
 ifA x18
 (some (.ret x14, S))
 (bindP (oNilC v0) fun x19 =>
 bindP (oFieldAddr 12 1 x19) fun x20 =>
 bindP (oLoad 1 false S x20) fun x21 =>
 bindC (callN κ.toOracle 96 [x21] S) pnA fun x22 S =>
 bindC (callN κ.toOracle 231 [x22, x4] S) pnA fun x23 S =>
 bindP (bN (eG (some [.i]) false false false x23 (.int .i64 0))) fun x24 =>
 ifA x24
 (some (.ret x23, S))
 (bindP (oNilC v0) fun x25 =>
 bindP (oFieldAddr 15 1 x25) fun x26 =>
 bindC (ok (oStore 1 S x26 x4)) pnA fun _ S =>
 some (.ret (.int .i64 0), S))))
 else none
theorem e177 (N : Nat) (κ : Oracles) (v0 : AV) (S : St) : runF (Cs N) κ false 177 [v0] S = s177 N κ v0 S := by kernel_rfl
/- (*sacristan/agent.Agent).fence -/
def s178 (N : Nat) (κ : Oracles) (v0 : AV) (S : St) : R :=
 bindP (oNilC v0) fun x1 =>
 bindP (oFieldAddr 1 11 x1) fun x2 =>
 bindP (oLoad 11 true S x2) fun x3 =>
 bindP (oNilC v0) fun x4 =>
 bindP (oFieldAddr 0 1 x4) fun x5 =>
 bindP (oLoad 1 false S x5) fun x6 =>
 bindC (callN κ.toOracle 108 [x6] S) (fun v Sx => bif (true && true) && (rfA (some v0) fun x9 => (rfA (oNilC x9) fun x10 => (rfA (oFieldAddr 12 1 x10) fun x11 => false))) then pnA v Sx else none) fun x7 S8 =>
 bindP (oField 3 1 false x7) fun x12 =>
 bindP (oNilC v0) fun x13 =>
 bindP (oFieldAddr 12 1 x13) fun x14 =>
 bindP (oLoad 1 false S8 x14) fun x15 =>
 bindC (callN κ.toOracle 33 [x15] S8) (fun v Sx => bif (true && (((false || (chkA (oLoad 1 false S x14) x15 && chkA (oLoad 1 false S8 x14) x15)) && true) && ((true && true) && (((false || (chkA (oLoad 11 true S x2) x3 && chkA (oLoad 11 true S8 x2) x3)) && true) && true)))) && true then pnA v Sx else none) fun x16 S17 =>
 bindC (apart κ.toOracle 227 [x3, x12, x16] S17) (fun _ _ => none) fun x18 S19 =>
 bindP (oExt x18 0) fun x20 =>
 bindP (oExt x18 1) fun x21 =>
 bif ((true && (true && true)) && ((true && ((false || (chkA (oLoad 1 false S x14) x15 && chkA (oLoad 1 false S8 x14) x15)) && true)) && ((true && (true && true)) && (((false || (chkA (oLoad 11 true S8 x2) x3 && chkA (oLoad 11 true S17 x2) x3)) && ((false || (chkA (oLoad 11 true S x2) x3 && chkA (oLoad 11 true S8 x2) x3)) && true)) && true)))) then
 (let S := S19;
 bindP (bN (eG (some [.i]) false false false x21 (.int .i64 0))) fun x22 =>
 bindP (guardP x22 false (some x20)) fun x23 =>
 bindP (guardP x22 false (oUn .not x23)) fun x24 =>
 bindP (oPick x22 (.bool true) x24) fun x25 =>
 ifA x25
 (some (.ret x21, S))
 (bindP (oNilC v0) fun x26 =>
 bindP (oFieldAddr 12 1 x26) fun x27 =>
 bindP (oLoad 1 false S x27) fun x28 =>
 bindC (callN κ.toOracle 40 [x28] S) pnA fun x29 S =>
 bindC (callN κ.toOracle 115 [x29] S) pnA fun x30 S =>
 bindP (oLen S (.slice 116) x30) fun x31 =>
 loop1 (fun vals S1 k32 =>
 let S := gcHead false S.objs.length [] vals S1;
 let x33 := vals.getD 0 .junk;
 let x34 := vals.getD 1 .junk;
 bindP (oArith .lss x34 x31) fun x35 =>
 ifA x35
 (bindP (oIndexAddrS 9 x30 x34) fun x36 =>
 bindP (oLoad 9 true S x36) fun x37 =>
 bindC (oAl S [.int .i64 0, .int .i64 0, .int .i64 0, .int .i64 0, .int .i64 0, .bool false, .bool false, .bool false, .int .i64 0]) pnA fun x38 S =>
 bindC (ok (oStore 9 S x38 x37)) pnA fun _ S =>
 bindP (oNilC v0) fun x39 =>
 bindP (oFieldAddr 12 1 x39) fun x40 =>
 bindP (oLoad 1 false S x40) fun x41 =>
 bindC (callN κ.toOracle 40 [x41] S) (fun v Sx => bif (true && true) && (rfA (oFieldAddr 0 1 x38) fun x44 => false) then pnA v Sx else none) fun x42 S43 =>
 bindP (oFieldAddr 0 1 x38) fun x45 =>
 bindP (oLoad 1 false S43 x45) fun x46 =>
 bindP (oFieldAddr 1 1 x38) fun x47 =>
 bindP (oLoad 1 false S43 x47) fun x48 =>
 bindC (callN κ.toOracle 109 [x42, x46, x48] S43) (fun v Sx => bif (true && (((false || (chkA (oLoad 1 false S x47) x48 && chkA (oLoad 1 false S43 x47) x48)) && true) && (((false || (chkA (oLoad 1 false S x45) x46 && chkA (oLoad 1 false S43 x45) x46)) && true) && ((true && true) && true)))) && true then pnA v Sx else none) fun x49 S50 =>
 bif ((true && ((false || (chkA (oLoad 1 false S x47) x48 && chkA (oLoad 1 false S43 x47) x48)) && true)) && ((true && ((false || (chkA (oLoad 1 false S x45) x46 && chkA (oLoad 1 false S43 x45) x46)) && true)) && ((true && (true && true)) && true))) then
 (let S := S50;
 bindP (bN (eG (some [.i]) false false false x49 (.int .i64 0))) fun x51 =>
 ifA x51
 (some (.ret x49, S))
 (bindP (oArith .add x34 (.int .i64 1)) fun x52 =>
 bif sameD [] [] then k32 [x33, x52] S else none))
 else none)
 (some (.ret (.int .i64 0), S))) N [(.int .i64 0), (.int .i64 0)] S))
 else none
theorem e178 (N : Nat) (κ : Oracles) (v0 : AV) (S : St) : runF (Cs N) κ false 178 [v0] S = s178 N κ v0 S := by kernel_rfl
/- (*sacristan/agent.Agent).tasks -/
def s179 (N : Nat) (κ : Oracles) (v0 : AV) (S : St) : R :=
 bindP (oNilC v0) fun x1 =>
 bindP (oFieldAddr 0 1 x1) fun x2 =>
 bindP (oLoad 1 false S x2) fun x3 =>
 bindC (callN κ.toOracle 108 [x3] S) pnA fun x4 S =>
 bindP (oField 4 1 false x4) fun x5 =>
 bindP (oLen S (.slice 58) x5) fun x6 =>
 loop1 (fun vals S1 k7 =>
 let S := gcHead false S.objs.length [] vals S1;
 let x8 := vals.getD 0 .junk;
 let x9 := vals.getD 1 .junk;
 bindP (oArith .lss x9 x6) fun x10 =>
 ifA x10
 (bindP (oIndexAddrS 10 x5 x9) fun x11 =>
 bindP (oLoad 10 true S x11) fun x12 =>
 bindC (oAl S [.int .i64 0, .int .i64 0, .int .i64 0, .int .i64 0, .lst .nil 0 [], .lst .nil 0 [], .int .i64 0, .int .i64 0, .bool false, .lst .nil 0 []]) pnA fun x13 S =>
 bindC (ok (oStore 10 S x13 x12)) pnA fun _ S =>
 bindP (oFieldAddr 9 1 x13) fun x14 =>
 bindP (oLoad 1 false S x14) fun x15 =>
 bindP (oLen S (.slice 52) x15) fun x16 =>
 loop1 (fun vals S1 k17 =>
 let S := gcHead false S.objs.length [] vals S1;
 let x18 := vals.getD 0 .junk;
 let x19 := vals.getD 1 .junk;
 bindP (oArith .lss x19 x16) fun x20 =>
 ifA x20
 (bindC (callN κ.toOracle 232 [v0, x9, x19] S) pnA fun x21 S =>
 bindP (bN (eG (some [.i]) false false false x21 (.int .i64 0))) fun x22 =>
 ifA x22
 (some (.ret x21, S))
 (bindP (oArith .add x19 (.int .i64 1)) fun x23 =>
 bif sameD [] [] then k17 [x18, x23] S else none))
 (bindP (oArith .add x9 (.int .i64 1)) fun x24 =>
 bif sameD [] [] then k7 [x18, x24] S else none)) N [x8, (.int .i64 0)] S)
 (some (.ret (.int .i64 0), S))) N [(.int .i64 0), (.int .i64 0)] S
theorem e179 (N : Nat) (κ : Oracles) (v0 : AV) (S : St) : runF (Cs N) κ false 179 [v0] S = s179 N κ v0 S := by kernel_rfl
/- (*sacristan/agent.Agent).end -/
def s180 (N : Nat) (κ : Oracles) (v0 : AV) (S : St) : R :=
 bindP (oNilC v0) fun x1 =>
 bindP (oFieldAddr 0 1 x1) fun x2 =>
 bindP (oLoad 1 false S x2) fun x3 =>
 bindC (callN κ.toOracle 108 [x3] S) pnA fun x4 S =>
 bindC (oAl S [.int .i64 0, .int .i64 0, .int .i64 0, .int .i64 0, .lst .nil 0 []]) pnA fun x5 S =>
 bindC (ok (oStore 5 S x5 x4)) pnA fun _ S =>
 bindP (oFieldAddr 4 1 x5) fun x6 =>
 bindP (oLoad 1 false S x6) fun x7 =>
 bindP (oLen S (.slice 58) x7) fun x8 =>
 loop1 (fun vals S1 k9 =>
 let S := gcHead false S.objs.length [] vals S1;
 let x10 := vals.getD 0 .junk;
 let x11 := vals.getD 1 .junk;
 bindP (oArith .lss x11 x8) fun x12 =>
 ifA x12
 (bindP (oIndexAddrS 10 x7 x11) fun x13 =>
 bindP (oLoad 10 true S x13) fun x14 =>
 bindC (oAl S [.int .i64 0, .int .i64 0, .int .i64 0, .int .i64 0, .lst .nil 0 [], .lst .nil 0 [], .int .i64 0, .int .i64 0, .bool false, .lst .nil 0 []]) pnA fun x15 S =>
 bindC (ok (oStore 10 S x15 x14)) pnA fun _ S =>
 bindP (oFieldAddr 9 1 x15) fun x16 =>
 bindP (oLoad 1 false S x16) fun x17 =>
 bindP (oLen S (.slice 52) x17) fun x18 =>
 loop1 (fun vals S1 k19 =>
 let S := gcHead false S.objs.length [] vals S1;
 let x20 := vals.getD 0 .junk;
 let x21 := vals.getD 1 .junk;
 bindP (oArith .lss x21 x18) fun x22 =>
 ifA x22
 (let j23 : List AV → St → R := (fun vals S =>
 let x24 := vals.getD 0 .junk;
 bindP (oArith .add x21 (.int .i64 1)) fun x25 =>
 bif sameD [] [] then k19 [x24, x25] S else none);
 bindP (oIndexAddrS 8 x17 x21) fun x26 =>
 bindP (oLoad 8 true S x26) fun x27 =>
 bindC (oAl S [.int .u8 0, .int .i64 0, .int .i64 0, .int .i64 0, .int .i64 0, .int .i64 0, .int .i64 0, .lst .nil 0 []]) pnA fun x28 S =>
 bindC (ok (oStore 8 S x28 x27)) pnA fun _ S =>
 bindP (oFieldAddr 0 6 x15) fun x29 =>
 bindP (oFieldAddr 0 1 x29) fun x30 =>
 bindP (oLoad 1 false S x30) fun x31 =>
 bindP (oFieldAddr 1 1 x28) fun x32 =>
 bindP (oLoad 1 false S x32) fun x33 =>
 bindP (oFill (plS [(0, 1), (1, 1), (2, 1)]) [.int .i64 0, .int .i64 0, .int .i64 0] [(0, x31), (1, x21), (2, x33)]) fun x34 =>
 bindC (oAl S [.int .i64 0, .int .i64 0, .int .i64 0]) pnA fun x35 S =>
 bindC (ok (oStore 3 S x35 x34)) pnA fun _ S =>
 bindP (oLoad 5 true S x5) fun x36 =>
 bindP (oLoad 3 true S x35) fun x37 =>
 bindC (apart κ.toOracle 186 [x36, x37] S) pnA fun x38 S =>
 bindP (oExt x38 0) fun x39 =>
 bindP (oExt x38 1) fun x40 =>
 bindP (oExt x38 2) fun x41 =>
 ifA x41
 (bindP (oLoad 3 true S x35) fun x42 =>
 bindC (oBS S 3 [.int .i64 0, .int .i64 0, .int .i64 0] 1 [(0, x42)]) pnA fun x43 S =>
 bindC (oApp false 3 24 S x20 x43) pnA fun x44 S =>
 bif sameD [] [] then Join j23 [x44] S else none)
 (bif sameD [] [] then Join j23 [x20] S else none))
 (bindP (oArith .add x11 (.int .i64 1)) fun x45 =>
 bif sameD [] [] then k9 [x20, x45] S else none)) N [x10, (.int .i64 0)] S)
 (bindP (oNilC v0) fun x46 =>
 bindP (oFieldAddr 14 1 x46) fun x47 =>
 bindP (oLoad 1 false S x47) fun x48 =>
 bindC (callN κ.toOracle 233 [x48, x10] S) pnA fun x49 S =>
 bindP (oNilC v0) fun x50 =>
 bindP (oFieldAddr 13 1 x50) fun x51 =>
 bindP (oLoad 1 false S x51) fun x52 =>
 bindC (callN κ.toOracle 234 [x52] S) pnA fun x53 S =>
 some (.ret x53, S))) N [(.lst .nil 0 []), (.int .i64 0)] S
theorem e180 (N : Nat) (κ : Oracles) (v0 : AV) (S : St) : runF (Cs N) κ false 180 [v0] S = s180 N κ v0 S := by kernel_rfl
/- (*sacristan/agent.Agent).met -/
def s181 (N : Nat) (κ : Oracles) (v0 v1 : AV) (S : St) : R :=
 bindP (oNilC v0) fun x1 =>
 bindP (oFieldAddr 16 1 x1) fun x2 =>
 bindP (oLoad 1 false S x2) fun x3 =>
 bindP (guardP x3 false (some v1)) fun x4 =>
 bindP (guardP x3 false (bE (eG (some [.i]) false false false x4 (.int .i64 10)))) fun x5 =>
 bindP (oPick x3 (.bool true) x5) fun x6 =>
 bindP (oNilC v0) fun x7 =>
 bindP (oFieldAddr 16 1 x7) fun x8 =>
 bindC (ok (oStore 1 S x8 x6)) pnA fun _ S =>
 some (.ret v1, S)
theorem e181 (N : Nat) (κ : Oracles) (v0 v1 : AV) (S : St) : runF (Cs N) κ false 181 [v0, v1] S = s181 N κ v0 v1 S := by kernel_rfl
/- sacristan/admit.Text -/
def s182 (N : Nat) (κ : Oracles) (v0 v1 v2 v3 : AV) (S : St) : R :=
 bindC (oBox S v0) pnA fun x1 S =>
 bindC (oBox S v1) pnA fun x2 S =>
 bindC (oAl S [.int .u8 0, .int .i64 0, .int .i64 0, .int .i64 0, .int .i64 0, .int .i64 0, .lst .nil 0 [], .lst .nil 0 [], .int .i64 0, .int .i64 0, .int .i64 0, .int .i64 0, .int .i64 0, .int .i64 0, .int .i64 0]) pnA fun x3 S =>
 bindP (oLoad 11 true S x1) fun x4 =>
 bindP (oLoad 5 true S x2) fun x5 =>
 bindC (apart κ.toOracle 219 [x4, x5] S) pnA fun x6 S =>
 bindP (bN (eG (some [.i]) false false false x6 (.int .i64 0))) fun x7 =>
 ifA x7
 (bindP (oFill (plS [(0, 1), (1, 1), (2, 6), (8, 1), (9, 1), (10, 1), (11, 1), (12, 1), (13, 1), (14, 1)]) [.int .u8 0, .int .i64 0, .int .i64 0, .int .i64 0, .int .i64 0, .int .i64 0, .lst .nil 0 [], .lst .nil 0 [], .int .i64 0, .int .i64 0, .int .i64 0, .int .i64 0, .int .i64 0, .int .i64 0, .int .i64 0] []) fun x8 =>
 bindC (ok (oStore 15 S x3 x8)) pnA fun _ S =>
 (resA [(some (.int .u8 0)), (oLoad 15 true S x3), (some x6)]).map fun vs => (.ret (packV vs), S))
 (bindP (oArith .lss v3 (.int .i64 0)) fun x9 =>
 bindP (guardP x9 false (some v3)) fun x10 =>
 bindP (guardP x9 false (oArith .gtr x10 (.int .i64 1099511627776))) fun x11 =>
 bindP (oPick x9 (.bool true) x11) fun x12 =>
 ifA x12
 (bindP (oFill (plS [(0, 1), (1, 1), (2, 6), (8, 1), (9, 1), (10, 1), (11, 1), (12, 1), (13, 1), (14, 1)]) [.int .u8 0, .int .i64 0, .int .i64 0, .int .i64 0, .int .i64 0, .int .i64 0, .lst .nil 0 [], .lst .nil 0 [], .int .i64 0, .int .i64 0, .int .i64 0, .int .i64 0, .int .i64 0, .int .i64 0, .int .i64 0] []) fun x13 =>
 bindC (ok (oStore 15 S x3 x13)) pnA fun _ S =>
 (resA [(some (.int .u8 0)), (oLoad 15 true S x3), (some (.int .i64 2))]).map fun vs => (.ret (packV vs), S))
 (bindC (apart κ.toOracle 235 [v2] S) pnA fun x14 S =>
 bindP (oExt x14 0) fun x15 =>
 bindP (oExt x14 1) fun x16 =>
 bindC (oAl S [.int .u8 0, .int .i64 0, .int .i64 0, .int .i64 0, .int .i64 0, .int .i64 0, .lst .nil 0 [], .lst .nil 0 [], .int .i64 0]) pnA fun x17 S =>
 bindC (ok (oStore 9 S x17 x15)) pnA fun _ S =>
 bindP (bN (eG (some [.i]) false false false x16 (.int .i64 0))) fun x18 =>
 ifA x18
 (bindP (oFill (plS [(0, 1), (1, 1), (2, 6), (8, 1), (9, 1), (10, 1), (11, 1), (12, 1), (13, 1), (14, 1)]) [.int .u8 0, .int .i64 0, .int .i64 0, .int .i64 0, .int .i64 0, .int .i64 0, .lst .nil 0 [], .lst .nil 0 [], .int .i64 0, .int .i64 0, .int .i64 0, .int .i64 0, .int .i64 0, .int .i64 0, .int .i64 0] []) fun x19 =>
 bindC (ok (oStore 15 S x3 x19)) pnA fun _ S =>
 (resA [(some (.int .u8 1)), (oLoad 15 true S x3), (some (.int .i64 0))]).map fun vs => (.ret (packV vs), S))
 (bindP (oLoad 11 true S x1) fun x20 =>
 bindP (oLoad 5 true S x2) fun x21 =>
 bindP (oLoad 9 true S x17) fun x22 =>
 bindC (apart κ.toOracle 236 [x20, x21, x22, v3] S) pnA fun x23 S =>
 bindP (oExt x23 0) fun x24 =>
 bindP (oExt x23 1) fun x25 =>
 bindP (oExt x23 2) fun x26 =>
 bindC (ok (oStore 15 S x3 x25)) pnA fun _ S =>
 (resA [(some x24), (oLoad 15 true S x3), (some x26)]).map fun vs => (.ret (packV vs), S))))
theorem e182 (N : Nat) (κ : Oracles) (v0 v1 v2 v3 : AV) (S : St) : runF (Cs N) κ false 182 [v0, v1, v2, v3] S = s182 N κ v0 v1 v2 v3 S := by kernel_rfl
/- (*sacristan/store.Store).Do -/
def s183 (N : Nat) (κ : Oracles) (v0 v1 : AV) (S : St) : R :=
 bindC (oBox S v0) pnA fun x1 S =>
 bindC (oBox S v1) pnA fun x2 S =>
 bindP (oLoad 1 false S x1) fun x3 =>
 bindP (bE (eNil kPtr x3 .nilptr)) fun x4 =>
 ifA x4
 (some (.ret (.int .i64 1), S))
 (bindP (oLoad 1 false S x1) fun x5 =>
 bindP (oNilC x5) fun x6 =>
 bindP (oFieldAddr 20 1 x6) fun x7 =>
 bindP (oLoad 1 false S x7) fun x8 =>
 ifA x8
 (some (.ret (.int .i64 10), S))
 (bindC (oAl S [.int .i64 0, .int .i64 0, .int .i64 0, .int .i64 0, .lst .nil 0 []]) (fun _ _ => none) fun x9 S =>
 bindP (oLoad 1 false S x1) fun x10 =>
 bindP (oNilC x10) fun x11 =>
 bindP (oFieldAddr 1 11 x11) fun x12 =>
 bindP (oLoad 11 true S x12) fun x13 =>
 bindP (oLoad 1 false S x1) fun x14 =>
 bindP (oNilC x14) fun x15 =>
 bindP (oFieldAddr 13 5 x15) fun x16 =>
 bindP (oLoad 5 true S x16) fun x17 =>
 bindP (oLoad 15 true S x2) fun x18 =>
 bindC (apart κ.toOracle 168 [x13, x17, x18] S) (fun _ _ => none) fun x19 S20 =>
 bindP (oExt x19 0) fun x21 =>
 bindP (oExt x19 1) fun x22 =>
 bindC (ok (oStore 5 S20 x9 x21)) (fun v Sx => bif (true && true) && true then pnA v Sx else none) fun _ S23 =>
 bif true then
 (let S := S23;
 bindP (bN (eG (some [.i]) false false false x22 (.int .i64 0))) fun x24 =>
 ifA x24
 (some (.ret x22, S))
 (bindP (oLoad 1 false S x1) fun x25 =>
 bindP (oNilC x25) fun x26 =>
 bindP (oFieldAddr 12 1 x26) fun x27 =>
 bindP (oLoad 1 false S x27) fun x28 =>
 bindC (callN κ.toOracle 187 [x28] S) pnA fun x29 S =>
 ifA x29
 (some (.ret (.int .i64 9), S))
 (bindC (oAl S [.str []]) pnA fun x30 S =>
 bindC (ok (oStore 1 S x30 (.str []))) pnA fun _ S =>
 bindP (some (.func 237 [] [x2, x30])) fun x31 =>
 bindP (some (.func 239 [] [x30, x1])) fun x32 =>
 bindP (some (.func 244 [] [x1, x30, x2])) fun x33 =>
 bindC (oBS S 1 [.nilfunc] 3 [(0, x31), (1, x32), (2, x33)]) pnA fun x34 S =>
 bindP (oLen S (.slice 93) x34) fun x35 =>
 loop1 (fun vals S1 k36 =>
 let S := gcHead false S.objs.length [] vals S1;
 let x37 := vals.getD 0 .junk;
 let x38 := vals.getD 1 .junk;
 bindP (oArith .lss x38 x35) fun x39 =>
 ifA x39
 (bindP (oIndexAddrS 1 x34 x38) fun x40 =>
 bindP (oLoad 1 false S x40) fun x41 =>
 bindC (callD κ.toOracle 183 x41 [] S) pnA fun x42 S =>
 bindP (bN (eG (some [.i]) false false false x42 (.int .i64 0))) fun x43 =>
 ifA x43
 (bindP (oLoad 1 false S x1) fun x44 =>
 bindP (bE (eG (some [.i]) false false false x42 (.int .i64 10))) fun x45 =>
 bindP (oNilC x44) fun x46 =>
 bindP (oFieldAddr 20 1 x46) fun x47 =>
 bindC (ok (oStore 1 S x47 x45)) pnA fun _ S =>
 some (.ret x42, S))
 (bindP (oArith .add x38 (.int .i64 1)) fun x48 =>
 bif sameD [] [] then k36 [x37, x48] S else none))
 (bindP (oLoad 1 false S x1) fun x49 =>
 bindP (oLoad 5 true S x9) fun x50 =>
 bindP (oNilC x49) fun x51 =>
 bindP (oFieldAddr 13 5 x51) fun x52 =>
 bindC (ok (oStore 5 S x52 x50)) pnA fun _ S =>
 bindP (oLoad 1 false S x1) fun x53 =>
 bindP (oLoad 1 false S x1) fun x54 =>
 bindP (oNilC x54) fun x55 =>
 bindP (oFieldAddr 18 1 x55) fun x56 =>
 bindP (oLoad 1 false S x56) fun x57 =>
 bindP (oLoad 15 true S x2) fun x58 =>
 bindC (apart κ.toOracle 210 [x58] S) (fun _ _ => none) fun x59 S60 =>
 bindC (oBS S60 15 [.int .u8 0, .int .i64 0, .int .i64 0, .int .i64 0, .int .i64 0, .int .i64 0, .lst .nil 0 [], .lst .nil 0 [], .int .i64 0, .int .i64 0, .int .i64 0, .int .i64 0, .int .i64 0, .int .i64 0, .int .i64 0] 1 [(0, x59)]) (fun _ _ => none) fun x61 S62 =>
 bindC (oApp false 15 152 S62 x57 x61) (fun v Sx => bif (true && true) && true then pnA v Sx else none) fun x63 S64 =>
 bindP (oNilC x53) fun x65 =>
 bindP (oFieldAddr 18 1 x65) fun x66 =>
 bindC (ok (oStore 1 S64 x66 x63)) (fun v Sx => bif (true && ((true && true) && ((true && true) && ((true && true) && ((true && true) && (((false || (chkA (oLoad 1 false S62 x1) x53 && chkA (oLoad 1 false S64 x1) x53)) && true) && true)))))) && true then pnA v Sx else none) fun _ S67 =>
 bif ((true && (true && true)) && ((true && (true && true)) && ((true && (true && true)) && ((true && (true && true)) && ((true && ((false || (chkA (oLoad 1 false S62 x1) x53 && chkA (oLoad 1 false S64 x1) x53)) && true)) && true))))) then
 (let S := S67;
 some (.ret (.int .i64 0), S))
 else none)) N [(.int .i64 0), (.int .i64 0)] S)))
 else none))
theorem e183 (N : Nat) (κ : Oracles) (v0 v1 : AV) (S : St) : runF (Cs N) κ false 183 [v0, v1] S = s183 N κ v0 v1 S := by kernel_rfl
/- sacristan/boot.Current -/
def s186 (N : Nat) (κ : Oracles) (v0 v1 : AV) (S : St) : R :=
 bindC (oBox S v0) pnA fun x1 S =>
 bindC (oBox S v1) pnA fun x2 S =>
 bindP (oLoad 5 true S x1) fun x3 =>
 bindP (oFieldAddr 0 1 x2) fun x4 =>
 bindP (oLoad 1 false S x4) fun x5 =>
 bindC (apart κ.toOracle 132 [x3, x5] S) pnA fun x6 S =>
 bindP (oArith .lss x6 (.int .i64 0)) fun x7 =>
 bindP (guardP x7 false (oFieldAddr 1 1 x2)) fun x8 =>
 bindP (guardP x7 false (oLoad 1 false S x8)) fun x9 =>
 bindP (guardP x7 false (oArith .lss x9 (.int .i64 0))) fun x10 =>
 bindP (oPick x7 (.bool true) x10) fun x11 =>
 bindP (guardP x11 false (oFieldAddr 1 1 x2)) fun x12 =>
 bindP (guardP x11 false (oLoad 1 false S x12)) fun x13 =>
 bindP (guardP x11 false (oFieldAddr 4 1 x1)) fun x14 =>
 bindP (guardP x11 false (oLoad 1 false S x14)) fun x15 =>
 bindP (guardP x11 false (some x6)) fun x16 =>
 bindP (guardP x11 false (oIndexAddrS 10 x15 x16)) fun x17 =>
 bindP (guardP x11 false (oFieldAddr 9 1 x17)) fun x18 =>
 bindP (guardP x11 false (oLoad 1 false S x18)) fun x19 =>
 bindP (guardP x11 false (oLen S (.slice 52) x19)) fun x20 =>
 bindP (guardP x11 false (oArith .geq x13 x20)) fun x21 =>
 bindP (oPick x11 (.bool true) x21) fun x22 =>
 bif true then
 (let S := S;
 ifA x22
 (some (.ret (.tup [(.int .i64 0), (.int .i64 0), (.bool false)]), S))
 (bindC (oAl S [.int .u8 0, .int .i64 0, .int .i64 0, .int .i64 0, .int .i64 0, .int .i64 0, .int .i64 0, .lst .nil 0 []]) (fun _ _ => none) fun x23 S =>
 bindP (oFieldAddr 4 1 x1) fun x24 =>
 bindP (oLoad 1 false S x24) fun x25 =>
 bindP (oIndexAddrS 10 x25 x6) fun x26 =>
 bindP (oFieldAddr 9 1 x26) fun x27 =>
 bindP (oLoad 1 false S x27) fun x28 =>
 bindP (oFieldAddr 1 1 x2) fun x29 =>
 bindP (oLoad 1 false S x29) fun x30 =>
 bindP (oIndexAddrS 8 x28 x30) fun x31 =>
 bindP (oLoad 8 true S x31) fun x32 =>
 bindC (ok (oStore 8 S x23 x32)) (fun v Sx => bif (true && true) && true then pnA v Sx else none) fun _ S33 =>
 bif true then
 (let S := S33;
 let j34 : List AV → St → R := (fun vals S =>
 let x35 := vals.getD 0 .junk;
 let x36 := vals.getD 1 .junk;
 let x37 := vals.getD 2 .junk;
 some (.ret (.tup [(.int .i64 0), (.int .i64 0), (.bool false)]), S));
 bindP (oFieldAddr 0 1 x23) fun x38 =>
 bindP (oLoad 1 false S x38) fun x39 =>
 let j40 : List AV → St → R := (fun vals S =>
 let x41 := vals.getD 0 .junk;
 ifA x41
 (bindP (oFieldAddr 1 1 x23) fun x42 =>
 bindP (oLoad 1 false S x42) fun x43 =>
 bindP (oFieldAddr 2 1 x2) fun x44 =>
 bindP (oLoad 1 false S x44) fun x45 =>
 bindP (bE (eG (some [.i]) false false false x43 x45)) fun x46 =>
 ifA x46
 (bindP (oFieldAddr 1 1 x2) fun x47 =>
 bindP (oLoad 1 false S x47) fun x48 =>
 bif true then
 (let S := S;
 some (.ret (.tup [x6, x48, (.bool true)]), S))
 else none)
 (bif sameD [] [] then Join j34 [(.int .i64 0), (.int .i64 0), (.bool false)] S else none))
 (bif sameD [] [] then Join j34 [(.int .i64 0), (.int .i64 0), (.bool false)] S else none));
 bindP (bE (eG (some [.i]) false false false x39 (.int .u8 1))) fun x49 =>
 ifA x49
 (bif sameD [] [] then Join j40 [x49] S else none)
 (bindP (bE (eG (some [.i]) false false false x39 (.int .u8 2))) fun x50 =>
 ifA x50
 (bif sameD [] [] then Join j40 [x50] S else none)
 (bindP (bE (eG (some [.i]) false false false x39 (.int .u8 4))) fun x51 =>
 ifA x51
 (bif sameD [] [] then Join j40 [x51] S else none)
 (bindP (bE (eG (some [.i]) false false false x39 (.int .u8 5))) fun x52 =>
 bif sameD [] [] then Join j40 [x52] S else none))))
 else none))
 else none
theorem e186 (N : Nat) (κ : Oracles) (v0 v1 : AV) (S : St) : runF (Cs N) κ false 186 [v0, v1] S = s186 N κ v0 v1 S := by kernel_rfl
/- (*sacristan/disk.Disk).Full -/
def s187 (N : Nat) (κ : Oracles) (v0 : AV) (S : St) : R :=
 bindP (bN (eNil kPtr v0 .nilptr)) fun x1 =>
 bindP (guardP x1 true (some v0)) fun x2 =>
 bindP (guardP x1 true (oNilC x2)) fun x3 =>
 bindP (guardP x1 true (oFieldAddr 0 5 x3)) fun x4 =>
 bindP (guardP x1 true (oFieldAddr 2 1 x4)) fun x5 =>
 bindP (guardP x1 true (oLoad 1 false S x5)) fun x6 =>
 bindP (oPick x1 x6 (.bool false)) fun x7 =>
 some (.ret x7, S)
theorem e187 (N : Nat) (κ : Oracles) (v0 : AV) (S : St) : runF (Cs N) κ false 187 [v0] S = s187 N κ v0 S := by kernel_rfl
/- slices.Clone[[]sacristan/api.TaskSpec,sacristan/api.TaskSpec] -/
def s192 (N : Nat) (κ : Oracles) (v0 : AV) (S : St) : R :=
 bindP (bE (eNil kSli v0 (.lst .nil 0 []))) fun x1 =>
 ifA x1
 (some (.ret (.lst .nil 0 []), S))
 (bindC (oBS S 6 [.bool false, .int .i64 0, .int .i64 0, .int .i64 0, .int .i64 0, .int .i64 0] 0 []) pnA fun x2 S =>
 bindC (oApp false 6 48 S x2 v0) pnA fun x3 S =>
 some (.ret x3, S))
theorem e192 (N : Nat) (κ : Oracles) (v0 : AV) (S : St) : runF (Cs N) κ false 192 [v0] S = s192 N κ v0 S := by kernel_rfl
/- slices.IndexFunc[[]sacristan/api.Alloc,sacristan/api.Alloc] -/
def s193 (N : Nat) (κ : Oracles) (v0 v1 : AV) (S : St) : R :=
 bindP (oLen S (.slice 58) v0) fun x1 =>
 loop1 (fun vals S1 k2 =>
 let S := gcHead false S.objs.length [] vals S1;
 let x3 := vals.getD 0 .junk;
 let x4 := vals.getD 1 .junk;
 bindP (oArith .lss x4 x1) fun x5 =>
 ifA x5
 (bindP (oIndexAddrS 10 v0 x4) fun x6 =>
 bindP (oLoad 10 true S x6) fun x7 =>
 bindC (callD κ.toOracle 193 v1 [x7] S) pnA fun x8 S =>
 ifA x8
 (some (.ret x4, S))
 (bindP (oArith .add x4 (.int .i64 1)) fun x9 =>
 bif sameD [] [] then k2 [x3, x9] S else none))
 (some (.ret (.int .i64 (-1)), S))) N [(.int .i64 0), (.int .i64 0)] S
theorem e193 (N : Nat) (κ : Oracles) (v0 v1 : AV) (S : St) : runF (Cs N) κ false 193 [v0, v1] S = s193 N κ v0 v1 S := by kernel_rfl
/- sacristan/state.Find$1 -/
def s194 (N : Nat) (κ : Oracles) (v0 v1 : AV) (S : St) : R :=
 bindC (oBox S v0) pnA fun x1 S =>
 bindP (oFieldAddr 0 6 x1) fun x2 =>
 bindP (oFieldAddr 0 1 x2) fun x3 =>
 bindP (oLoad 1 false S x3) fun x4 =>
 bindP (oLoad 1 false S v1) fun x5 =>
 bindP (bE (eG (some [.i]) false false false x4 x5)) fun x6 =>
 some (.ret x6, S)
theorem e194 (N : Nat) (κ : Oracles) (v0 v1 : AV) (S : St) : runF (Cs N) κ false 194 [v0, v1] S = s194 N κ v0 v1 S := by kernel_rfl
/- sacristan/task.Over -/
def s196 (N : Nat) (κ : Oracles) (v0 : AV) (S : St) : R :=
 bindP (bE (eG (some [.i]) false false false v0 (.int .u8 6))) fun x1 =>
 bindP (guardP x1 false (some v0)) fun x2 =>
 bindP (guardP x1 false (bE (eG (some [.i]) false false false x2 (.int .u8 7)))) fun x3 =>
 bindP (oPick x1 (.bool true) x3) fun x4 =>
 some (.ret x4, S)
theorem e196 (N : Nat) (κ : Oracles) (v0 : AV) (S : St) : runF (Cs N) κ false 196 [v0] S = s196 N κ v0 S := by kernel_rfl
/- sacristan/ports.set -/
def s197 (N : Nat) (κ : Oracles) (v0 : AV) (S : St) : R :=
 bindC (oMM S) pnA fun x1 S =>
 bindP (oLen S (.slice 47) v0) fun x2 =>
 loop1 (fun vals S1 k3 =>
 let S := gcHead false S.objs.length [] vals S1;
 let x4 := vals.getD 0 .junk;
 bindP (oArith .lss x4 x2) fun x5 =>
 ifA x5
 (bindP (oIndexAddrS 1 v0 x4) fun x6 =>
 bindP (oLoad 1 false S x6) fun x7 =>
 bindP (oLen S (.slice 3) x7) fun x8 =>
 loop1 (fun vals S1 k9 =>
 let S := gcHead false S.objs.length [] vals S1;
 let x10 := vals.getD 0 .junk;
 bindP (oArith .lss x10 x8) fun x11 =>
 ifA x11
 (bindP (oIndexAddrS 1 x7 x10) fun x12 =>
 bindP (oLoad 1 false S x12) fun x13 =>
 bindC (ok (oMUp (some [.i]) false S x1 x13 (.bool true))) pnA fun _ S =>
 bindP (oArith .add x10 (.int .i64 1)) fun x14 =>
 bif sameD [] [] then k9 [x14] S else none)
 (bindP (oArith .add x4 (.int .i64 1)) fun x15 =>
 bif sameD [] [] then k3 [x15] S else none)) N [(.int .i64 0)] S)
 (some (.ret x1, S))) N [(.int .i64 0)] S
theorem e197 (N : Nat) (κ : Oracles) (v0 : AV) (S : St) : runF (Cs N) κ false 197 [v0] S = s197 N κ v0 S := by kernel_rfl
/- slices.Sorted[int] -/
def s198 (N : Nat) (κ : Oracles) (v0 : AV) (S : St) : R :=
 bindC (callN κ.toOracle 258 [v0] S) pnA fun x1 S =>
 bindC (callN κ.toOracle 139 [x1] S) pnA fun x2 S =>
 some (.ret x1, S)
theorem e198 (N : Nat) (κ : Oracles) (v0 : AV) (S : St) : runF (Cs N) κ false 198 [v0] S = s198 N κ v0 S := by kernel_rfl
/- maps.Keys[map[int]bool,int,bool] -/
def s199 (N : Nat) (κ : Oracles) (v0 : AV) (S : St) : R :=
 bindC (oBox S v0) pnA fun x1 S =>
 bindP (some (.func 259 [] [x1])) fun x2 =>
 some (.ret x2, S)
theorem e199 (N : Nat) (κ : Oracles) (v0 : AV) (S : St) : runF (Cs N) κ false 199 [v0] S = s199 N κ v0 S := by kernel_rfl
/- sacristan/res.back -/
def s200 (N : Nat) (κ : Oracles) (v0 : AV) (S : St) : R :=
 bindC (oBox S v0) pnA fun x1 S =>
 bindC (oAl S [.int .i64 0, .int .i64 0, .int .i64 0]) pnA fun x2 S =>
 bindP (oIndexAddrA 3 1 x1 (.int .i64 0)) fun x3 =>
 bindP (oLoad 1 false S x3) fun x4 =>
 bindP (oIndexAddrA 3 1 x1 (.int .i64 1)) fun x5 =>
 bindP (oLoad 1 false S x5) fun x6 =>
 bindP (oIndexAddrA 3 1 x1 (.int .i64 2)) fun x7 =>
 bindP (oLoad 1 false S x7) fun x8 =>
 bindP (oFill (plS [(0, 1), (1, 1), (2, 1)]) [.int .i64 0, .int .i64 0, .int .i64 0] [(0, x4), (1, x6), (2, x8)]) fun x9 =>
 bindC (ok (oStore 3 S x2 x9)) pnA fun _ S =>
 (resA [(oLoad 3 true S x2)]).map fun vs => (.ret (packV vs), S)
theorem e200 (N : Nat) (κ : Oracles) (v0 : AV) (S : St) : runF (Cs N) κ false 200 [v0] S = s200 N κ v0 S := by kernel_rfl
/- math/bits.Len -/
def s202 (N : Nat) (κ : Oracles) (v0 : AV) (S : St) : R :=
 ifA (.bool false)
 (bindP (cII .u32 v0) fun x1 =>
 bindC (apart κ.toOracle 269 [x1] S) pnA fun x2 S =>
 some (.ret x2, S))
 (bindC (apart κ.toOracle 270 [v0] S) pnA fun x3 S =>
 some (.ret x3, S))
theorem e202 (N : Nat) (κ : Oracles) (v0 : AV) (S : St) : runF (Cs N) κ false 202 [v0] S = s202 N κ v0 S := by kernel_rfl
/- sacristan/window.check -/
def s203 (N : Nat) (κ : Oracles) (v0 v1 : AV) (S : St) : R :=
 bindP (oArith .lss v1 (.int .i64 1)) fun x1 =>
 bindP (guardP x1 false (some v1)) fun x2 =>
 bindP (guardP x1 false (oArith .gtr x2 (.int .i64 1099511627776))) fun x3 =>
 bindP (oPick x1 (.bool true) x3) fun x4 =>
 ifA x4
 (some (.ret (.int .i64 3), S))
 (bindP (oLen S (.slice 3) v0) fun x5 =>
 loop1 (fun vals S1 k6 =>
 let S := gcHead false S.objs.length [] vals S1;
 let x7 := vals.getD 0 .junk;
 let x8 := vals.getD 1 .junk;
 bindP (oArith .lss x8 x5) fun x9 =>
 ifA x9
 (bindP (oIndexAddrS 1 v0 x8) fun x10 =>
 bindP (oLoad 1 false S x10) fun x11 =>
 bindP (oArith .lss x11 (.int .i64 0)) fun x12 =>
 bindP (guardP x12 false (some x11)) fun x13 =>
 bindP (guardP x12 false (oArith .gtr x13 (.int .i64 1099511627776))) fun x14 =>
 bindP (oPick x12 (.bool true) x14) fun x15 =>
 ifA x15
 (some (.ret (.int .i64 3), S))
 (bindP (oArith .gtr x8 (.int .i64 0)) fun x16 =>
 bindP (guardP x16 true (some x11)) fun x17 =>
 bindP (guardP x16 true (some v0)) fun x18 =>
 bindP (guardP x16 true (some x8)) fun x19 =>
 bindP (guardP x16 true (oArith .sub x19 (.int .i64 1))) fun x20 =>
 bindP (guardP x16 true (oIndexAddrS 1 x18 x20)) fun x21 =>
 bindP (guardP x16 true (oLoad 1 false S x21)) fun x22 =>
 bindP (guardP x16 true (oArith .lss x17 x22)) fun x23 =>
 bindP (oPick x16 x23 (.bool false)) fun x24 =>
 ifA x24
 (some (.ret (.int .i64 13), S))
 (bindP (oArith .add x8 (.int .i64 1)) fun x25 =>
 bif sameD [] [] then k6 [x7, x25] S else none)))
 (some (.ret (.int .i64 0), S))) N [(.int .i64 0), (.int .i64 0)] S)
theorem e203 (N : Nat) (κ : Oracles) (v0 v1 : AV) (S : St) : runF (Cs N) κ false 203 [v0, v1] S = s203 N κ v0 v1 S := by kernel_rfl
/- sacristan/window.count -/
def s204 (N : Nat) (κ : Oracles) (v0 v1 v2 : AV) (S : St) : R :=
 bindC (apart κ.toOracle 271 [v0, v2] S) pnA fun x1 S =>
 bindP (oArith .sub v2 v1) fun x2 =>
 bindC (apart κ.toOracle 271 [v0, x2] S) pnA fun x3 S =>
 bindP (oArith .sub x1 x3) fun x4 =>
 some (.ret x4, S)
theorem e204 (N : Nat) (κ : Oracles) (v0 v1 v2 : AV) (S : St) : runF (Cs N) κ false 204 [v0, v1, v2] S = s204 N κ v0 v1 v2 S := by kernel_rfl
/- sacristan/pack.least -/
def s207 (N : Nat) (κ : Oracles) (v0 : AV) (S : St) : R :=
 loop1 (fun vals S1 k1 =>
 let S := gcHead false S.objs.length [] vals S1;
 let x2 := vals.getD 0 .junk;
 let x3 := vals.getD 1 .junk;
 bindP (oArith .gtr x2 (.int .u64 0)) fun x4 =>
 ifA x4
 (bindP (oArith .add x3 (.int .i64 1)) fun x5 =>
 bindP (oShiftV .shr x2 (.int .u64 8)) fun x6 =>
 bif sameD [] [] then k1 [x6, x5] S else none)
 (some (.ret x3, S))) N [v0, (.int .i64 0)] S
theorem e207 (N : Nat) (κ : Oracles) (v0 : AV) (S : St) : runF (Cs N) κ false 207 [v0] S = s207 N κ v0 S := by kernel_rfl
/- sacristan/pack.bytes[uint64] -/
def s208 (N : Nat) (κ : Oracles) (v0 v1 : AV) (S : St) : R :=
 bindC (oAl S [.int .u8 0, .int .u8 0, .int .u8 0, .int .u8 0, .int .u8 0, .int .u8 0, .int .u8 0, .int .u8 0]) pnA fun x1 S =>
 loop1 (fun vals S1 k2 =>
 let S := gcHead false S.objs.length [] vals S1;
 let x3 := vals.getD 0 .junk;
 let x4 := vals.getD 1 .junk;
 bindP (oArith .lss x4 v1) fun x5 =>
 ifA x5
 (bindP (oArith .sub v1 (.int .i64 1)) fun x6 =>
 bindP (oArith .sub x6 x4) fun x7 =>
 bindP (cII .u8 x3) fun x8 =>
 bindP (oIndexAddrA 8 1 x1 x7) fun x9 =>
 bindC (ok (oStore 1 S x9 x8)) pnA fun _ S =>
 bindP (oShiftV .shr x3 (.int .u64 8)) fun x10 =>
 bindP (oArith .add x4 (.int .i64 1)) fun x11 =>
 bif sameD [] [] then k2 [x10, x11] S else none)
 (bindP (slA 8 1 x1 none (some v1) none) fun x12 =>
 bindP (cBS S x12) fun x13 =>
 some (.ret x13, S))) N [v0, (.int .i64 0)] S
theorem e208 (N : Nat) (κ : Oracles) (v0 v1 : AV) (S : St) : runF (Cs N) κ false 208 [v0, v1] S = s208 N κ v0 v1 S := by kernel_rfl
/- sacristan/pack.Unvar -/
def s209 (N : Nat) (κ : Oracles) (v0 : AV) (S : St) : R :=
 bindP (bE (eG (some [.s]) false false false v0 (.str []))) fun x1 =>
 ifA x1
 (some (.ret (.tup [(.int .u64 0), (.str []), (.int .i64 4)]), S))
 (bindP (oIndexStr v0 (.int .i64 0)) fun x2 =>
 bindP (oArith .lss x2 (.int .u8 248)) fun x3 =>
 ifA x3
 (bindP (oIndexStr v0 (.int .i64 0)) fun x4 =>
 bindP (cII .u64 x4) fun x5 =>
 bindP (slT v0 (some (.int .i64 1)) none none) fun x6 =>
 bif true then
 (let S := S;
 some (.ret (.tup [x5, x6, (.int .i64 0)]), S))
 else none)
 (bindP (oIndexStr v0 (.int .i64 0)) fun x7 =>
 bindP (cII .i64 x7) fun x8 =>
 bindP (oArith .sub x8 (.int .i64 247)) fun x9 =>
 bindP (oLen S .string v0) fun x10 =>
 bindP (oArith .add (.int .i64 1) x9) fun x11 =>
 bindP (oArith .lss x10 x11) fun x12 =>
 ifA x12
 (some (.ret (.tup [(.int .u64 0), (.str []), (.int .i64 4)]), S))
 (bindP (oArith .add (.int .i64 1) x9) fun x13 =>
 bindP (slT v0 (some (.int .i64 1)) (some x13) none) fun x14 =>
 bindC (apart κ.toOracle 275 [x14] S) pnA fun x15 S =>
 bindP (oArith .lss x15 (.int .u64 248)) fun x16 =>
 bindP (guardP x16 false (some x15)) fun x17 =>
 bindC (guardC x16 false S (apart κ.toOracle 207 [x17] S)) pnA fun x18 S =>
 bindP (guardP x16 false (some x9)) fun x19 =>
 bindP (guardP x16 false (bN (eG (some [.i]) false false false x18 x19))) fun x20 =>
 bindP (oPick x16 (.bool true) x20) fun x21 =>
 ifA x21
 (some (.ret (.tup [(.int .u64 0), (.str []), (.int .i64 4)]), S))
 (bindP (oArith .add (.int .i64 1) x9) fun x22 =>
 bindP (slT v0 (some x22) none none) fun x23 =>
 bif true then
 (let S := S;
 some (.ret (.tup [x15, x23, (.int .i64 0)]), S))
 else none))))
theorem e209 (N : Nat) (κ : Oracles) (v0 : AV) (S : St) : runF (Cs N) κ false 209 [v0] S = s209 N κ v0 S := by kernel_rfl
/- sacristan/store.copied -/
def s210 (N : Nat) (κ : Oracles) (v0 : AV) (S : St) : R :=
 bindC (oBox S v0) pnA fun x1 S =>
 bindC (oAl S [.int .u8 0, .int .i64 0, .int .i64 0, .int .i64 0, .int .i64 0, .int .i64 0, .lst .nil 0 [], .lst .nil 0 [], .int .i64 0, .int .i64 0, .int .i64 0, .int .i64 0, .int .i64 0, .int .i64 0, .int .i64 0]) pnA fun x2 S =>
 bindP (oFieldAddr 2 6 x1) fun x3 =>
 bindP (oLoad 6 true S x3) fun x4 =>
 bindC (apart κ.toOracle 127 [x4] S) pnA fun x5 S =>
 bindP (oFieldAddr 2 6 x1) fun x6 =>
 bindC (ok (oStore 6 S x6 x5)) pnA fun _ S =>
 bindP (oLoad 15 true S x1) fun x7 =>
 bindC (ok (oStore 15 S x2 x7)) pnA fun _ S =>
 (resA [(oLoad 15 true S x2)]).map fun vs => (.ret (packV vs), S)
theorem e210 (N : Nat) (κ : Oracles) (v0 : AV) (S : St) : runF (Cs N) κ false 210 [v0] S = s210 N κ v0 S := by kernel_rfl
/- sacristan/disk.zeros -/
def s211 (N : Nat) (κ : Oracles) (S : St) : R :=
 bindC (apart κ.toOracle 276 [(.str [0]), (.int .i64 80)] S) pnA fun x1 S =>
 some (.ret x1, S)
theorem e211 (N : Nat) (κ : Oracles) (S : St) : runF (Cs N) κ false 211 [] S = s211 N κ S := by kernel_rfl
/- (*sacristan/fuse.Fuse).set$1 -/
def s212 (N : Nat) (κ : Oracles) (v0 : AV) (S : St) : R :=
 bindC (callN κ.toOracle 162 [v0, (.int .i64 2), (.int .i64 0)] S) pnA fun x1 S =>
 some (.ret (.int .i64 10), S)
theorem e212 (N : Nat) (κ : Oracles) (v0 : AV) (S : St) : runF (Cs N) κ false 212 [v0] S = s212 N κ v0 S := by kernel_rfl
/- (*sacristan/fuse.Fuse).set$2 -/
def s213 (N : Nat) (κ : Oracles) (v0 : AV) (S : St) : R :=
 bindP (oNilC v0) fun x1 =>
 bindP (oFieldAddr 1 1 x1) fun x2 =>
 bindP (oLoad 1 false S x2) fun x3 =>
 bindP (oArith .sub x3 (.int .i64 1)) fun x4 =>
 bindC (callN κ.toOracle 162 [v0, (.int .i64 1), x4] S) pnA fun x5 S =>
 some (.ret (.int .i64 0), S)
theorem e213 (N : Nat) (κ : Oracles) (v0 : AV) (S : St) : runF (Cs N) κ false 213 [v0] S = s213 N κ v0 S := by kernel_rfl
/- (*sacristan/fuse.Fuse).set$3 -/
def s214 (N : Nat) (κ : Oracles) (v0 : AV) (S : St) : R :=
 some (.ret (.int .i64 0), S)
theorem e214 (N : Nat) (κ : Oracles) (v0 : AV) (S : St) : runF (Cs N) κ false 214 [v0] S = s214 N κ v0 S := by kernel_rfl
/- sacristan/slots.Load -/
def s215 (N : Nat) (κ : Oracles) (v0 : AV) (S : St) : R :=
 bindC (oAl S [.int .i64 0, .int .i64 0, .int .i64 0, .int .i64 0, .int .i64 0]) pnA fun x1 S =>
 bindP (bE (eNil kPtr v0 .nilptr)) fun x2 =>
 ifA x2
 (bindP (oFill (plS [(0, 1), (1, 1), (2, 1), (3, 1), (4, 1)]) [.int .i64 0, .int .i64 0, .int .i64 0, .int .i64 0, .int .i64 0] []) fun x3 =>
 bindC (ok (oStore 5 S x1 x3)) pnA fun _ S =>
 (resA [(oLoad 5 true S x1), (some (.int .i64 1))]).map fun vs => (.ret (packV vs), S))
 (bindC (callN κ.toOracle 169 [v0] S) pnA fun x4 S =>
 bindP (oArith .lss x4 (.int .i64 2)) fun x5 =>
 ifA x5
 (bindP (oFill (plS [(0, 1), (1, 1), (2, 1), (3, 1), (4, 1)]) [.int .i64 0, .int .i64 0, .int .i64 0, .int .i64 0, .int .i64 0] []) fun x6 =>
 bindC (ok (oStore 5 S x1 x6)) pnA fun _ S =>
 (resA [(oLoad 5 true S x1), (some (.int .i64 3))]).map fun vs => (.ret (packV vs), S))
 (bindC (oAl S [.int .i64 0, .int .i64 0, .int .i64 0, .int .i64 0, .int .i64 0, .int .i64 0, .int .i64 0, .int .i64 0, .int .i64 0, .int .i64 0]) pnA fun x7 S =>
 loop1 (fun vals S1 k8 =>
 let S := gcHead false S.objs.length [] vals S1;
 let x9 := vals.getD 0 .junk;
 let x10 := vals.getD 1 .junk;
 bindP (oArith .lss x10 (.int .i64 2)) fun x11 =>
 ifA x11
 (let j12 : List AV → St → R := (fun vals S =>
 let x13 := vals.getD 0 .junk;
 bindP (oArith .add x10 (.int .i64 1)) fun x14 =>
 bif sameD [] [] then k8 [x13, x14] S else none);
 bindC (callN κ.toOracle 170 [v0, x10] S) pnA fun x15 S =>
 bindP (oExt x15 0) fun x16 =>
 bindP (oExt x15 1) fun x17 =>
 bindP (bN (eG (some [.i]) false false false x17 (.int .i64 0))) fun x18 =>
 ifA x18
 (bindP (oFill (plS [(0, 1), (1, 1), (2, 1), (3, 1), (4, 1)]) [.int .i64 0, .int .i64 0, .int .i64 0, .int .i64 0, .int .i64 0] []) fun x19 =>
 bindC (ok (oStore 5 S x1 x19)) pnA fun _ S =>
 (resA [(oLoad 5 true S x1), (some x17)]).map fun vs => (.ret (packV vs), S))
 (bindC (apart κ.toOracle 277 [x16] S) pnA fun x20 S =>
 bindP (oExt x20 0) fun x21 =>
 bindP (oExt x20 1) fun x22 =>
 bindC (oAl S [.int .i64 0, .int .i64 0, .int .i64 0, .int .i64 0, .int .i64 0]) pnA fun x23 S =>
 bindC (ok (oStore 5 S x23 x21)) pnA fun _ S =>
 bindP (bE (eG (some [.i]) false false false x22 (.int .i64 0))) fun x24 =>
 bindP (guardP x24 true (oFieldAddr 0 1 x23)) fun x25 =>
 bindP (guardP x24 true (oLoad 1 false S x25)) fun x26 =>
 bindP (guardP x24 true (oArith .rem x26 (.int .i64 2))) fun x27 =>
 bindP (guardP x24 true (some x10)) fun x28 =>
 bindP (guardP x24 true (bE (eG (some [.i]) false false false x27 x28))) fun x29 =>
 bindP (oPick x24 x29 (.bool false)) fun x30 =>
 ifA x30
 (bindP (oLoad 5 true S x23) fun x31 =>
 bindP (oIndexAddrA 2 5 x7 x10) fun x32 =>
 bindC (ok (oStore 5 S x32 x31)) pnA fun _ S =>
 bif sameD [] [] then Join j12 [x9] S else none)
 (bif sameD [] [] then Join j12 [x9] S else none)))
 (bindP (oIndexAddrA 2 5 x7 (.int .i64 0)) fun x33 =>
 bindP (oLoad 5 true S x33) fun x34 =>
 bindC (oAl S [.int .i64 0, .int .i64 0, .int .i64 0, .int .i64 0, .int .i64 0]) pnA fun x35 S =>
 bindC (ok (oStore 5 S x35 x34)) pnA fun _ S =>
 let j36 : List AV → St → R := (fun vals S =>
 bindP (oFieldAddr 0 1 x35) fun x37 =>
 bindP (oLoad 1 false S x37) fun x38 =>
 bindP (bE (eG (some [.i]) false false false x38 (.int .i64 0))) fun x39 =>
 ifA x39
 (bindP (oFill (plS [(0, 1), (1, 1), (2, 1), (3, 1), (4, 1)]) [.int .i64 0, .int .i64 0, .int .i64 0, .int .i64 0, .int .i64 0] []) fun x40 =>
 bindC (ok (oStore 5 S x1 x40)) pnA fun _ S =>
 (resA [(oLoad 5 true S x1), (some (.int .i64 6))]).map fun vs => (.ret (packV vs), S))
 (bindP (oLoad 5 true S x35) fun x41 =>
 bindC (ok (oStore 5 S x1 x41)) pnA fun _ S =>
 (resA [(oLoad 5 true S x1), (some (.int .i64 0))]).map fun vs => (.ret (packV vs), S)));
 bindP (oIndexAddrA 2 5 x7 (.int .i64 1)) fun x42 =>
 bindP (oLoad 5 true S x42) fun x43 =>
 bindP (oLoad 5 true S x35) fun x44 =>
 bindC (callD κ.toOracle 215 (.func 278 [] []) [x43, x44] S) pnA fun x45 S =>
 ifA x45
 (bindP (oIndexAddrA 2 5 x7 (.int .i64 1)) fun x46 =>
 bindP (oLoad 5 true S x46) fun x47 =>
 bindC (ok (oStore 5 S x35 x47)) pnA fun _ S =>
 bif sameD [] [] then Join j36 [] S else none)
 (bif sameD [] [] then Join j36 [] S else none))) N [(.int .i64 0), (.int .i64 0)] S))
theorem e215 (N : Nat) (κ : Oracles) (v0 : AV) (S : St) : runF (Cs N) κ false 215 [v0] S = s215 N κ v0 S := by kernel_rfl
/- (*sacristan/journal.Journal).scan -/
def s216 (N : Nat) (κ : Oracles) (v0 : AV) (S : St) : R :=
 bindC (oBox S v0) pnA fun x1 S =>
 bindC (oAl S [.lst .nil 0 []]) pnA fun x2 S =>
 bindP (oLoad 1 false S x1) fun x3 =>
 bindP (some (.func 279 [x3] [])) fun x4 =>
 bindP (oLoad 1 false S x1) fun x5 =>
 bindP (oLoad 1 false S x1) fun x6 =>
 bindP (oNilC x6) fun x7 =>
 bindP (oFieldAddr 2 5 x7) fun x8 =>
 bindP (oFieldAddr 2 1 x8) fun x9 =>
 bindP (oLoad 1 false S x9) fun x10 =>
 bindC (callD κ.toOracle 216 x4 [x10] S) (fun v Sx => bif (true && true) && true then pnA v Sx else none) fun x11 S12 =>
 bindP (oNilC x5) fun x13 =>
 bindP (oFieldAddr 8 1 x13) fun x14 =>
 bindC (ok (oStore 1 S12 x14 x11)) (fun v Sx => bif (true && ((true && true) && ((true && true) && (((false || (chkA (oLoad 1 false S x1) x5 && chkA (oLoad 1 false S12 x1) x5)) && true) && true)))) && true then pnA v Sx else none) fun _ S15 =>
 bif ((true && (true && true)) && ((true && (true && true)) && ((true && ((false || (chkA (oLoad 1 false S x1) x5 && chkA (oLoad 1 false S12 x1) x5)) && true)) && true))) then
 (let S := S15;
 bindC (oAl S [.int .i64 0]) (fun _ _ => none) fun x16 S =>
 bindP (oLoad 1 false S x1) fun x17 =>
 bindP (oNilC x17) fun x18 =>
 bindP (oFieldAddr 8 1 x18) fun x19 =>
 bindP (oLoad 1 false S x19) fun x20 =>
 bindP (oLoad 1 false S x1) fun x21 =>
 bindP (oNilC x21) fun x22 =>
 bindP (oFieldAddr 1 1 x22) fun x23 =>
 bindP (oLoad 1 false S x23) fun x24 =>
 bindP (oArith .add x20 x24) fun x25 =>
 bindC (ok (oStore 1 S x16 (.int .i64 1))) (fun v Sx => bif (true && true) && true then pnA v Sx else none) fun _ S26 =>
 bif true then
 (let S := S26;
 bindP (some (.func 280 [] [x2, x1, x16])) fun x27 =>
 bindP (oLoad 1 false S x1) fun x28 =>
 bindP (oLoad 1 false S x1) fun x29 =>
 bindP (oNilC x29) fun x30 =>
 bindP (oFieldAddr 2 5 x30) fun x31 =>
 bindP (oFieldAddr 3 1 x31) fun x32 =>
 bindP (oLoad 1 false S x32) fun x33 =>
 bindP (oArith .sub x33 (.int .i64 1)) fun x34 =>
 bindP (oNilC x28) fun x35 =>
 bindP (oFieldAddr 7 1 x35) fun x36 =>
 bindC (ok (oStore 1 S x36 x34)) (fun v Sx => bif (true && true) && true then pnA v Sx else none) fun _ S37 =>
 bif true then
 (let S := S37;
 let j38 : List AV → St → R := (fun vals S =>
 let x39 := vals.getD 0 .junk;
 bindP (oLoad 1 false S x2) fun x40 =>
 bindC (ok (oStore 1 S x2 x40)) pnA fun _ S =>
 (resA [(oLoad 1 false S x2), (some (.int .i64 0))]).map fun vs => (.ret (packV vs), S));
 loop1 (fun vals S1 k41 =>
 let S := gcHead false S.objs.length [] vals S1;
 let x42 := vals.getD 0 .junk;
 bindC (oAl S [.int .i64 0, .int .i64 0, .int .i64 0, .int .i64 0, .int .u8 0, .str []]) (fun _ _ => none) fun x43 S =>
 bindP (oLoad 1 false S x1) fun x44 =>
 bindP (oNilC x44) fun x45 =>
 bindP (oFieldAddr 0 1 x45) fun x46 =>
 bindP (oLoad 1 false S x46) fun x47 =>
 bindP (oLoad 1 false S x1) fun x48 =>
 bindP (oNilC x48) fun x49 =>
 bindP (oFieldAddr 8 1 x49) fun x50 =>
 bindP (oLoad 1 false S x50) fun x51 =>
 bindP (oLoad 1 false S x1) fun x52 =>
 bindP (oNilC x52) fun x53 =>
 bindP (oFieldAddr 7 1 x53) fun x54 =>
 bindP (oLoad 1 false S x54) fun x55 =>
 bindP (oArith .add x55 (.int .i64 1)) fun x56 =>
 bindP (oLoad 1 false S x16) fun x57 =>
 bindC (callN κ.toOracle 281 [x47, x51, x25, x56, x57] S) (fun v Sx => bif (true && true) && true then pnA v Sx else none) fun x58 S59 =>
 bindP (oExt x58 0) fun x60 =>
 bindP (oExt x58 1) fun x61 =>
 bindC (ok (oStore 6 S59 x43 x60)) (fun v Sx => bif (true && true) && true then pnA v Sx else none) fun _ S62 =>
 bif true then
 (let S := S62;
 bindP (bE (eG (some [.i]) false false false x61 (.int .i64 10))) fun x63 =>
 ifA x63
 (bindC (ok (oStore 1 S x2 (.lst .nil 0 []))) pnA fun _ S =>
 (resA [(oLoad 1 false S x2), (some x61)]).map fun vs => (.ret (packV vs), S))
 (bindP (bN (eG (some [.i]) false false false x61 (.int .i64 0))) fun x64 =>
 ifA x64
 (bif sameD [] [] then Join j38 [x42] S else none)
 (let j65 : List AV → St → R := (fun vals S =>
 let x66 := vals.getD 0 .junk;
 bindP (oFieldAddr 4 1 x43) fun x67 =>
 bindP (oLoad 1 false S x67) fun x68 =>
 bindP (bN (eG (some [.i]) false false false x68 x66)) fun x69 =>
 ifA x69
 (bif sameD [] [] then Join j38 [x42] S else none)
 (bindP (oLoad 6 true S x43) fun x70 =>
 bindC (callD κ.toOracle 216 x27 [x70] S) pnA fun x71 S =>
 bif sameD [] [] then k41 [x42] S else none));
 bindP (oLoad 1 false S x2) fun x72 =>
 bindP (oLen S (.slice 9) x72) fun x73 =>
 bindP (oLoad 1 false S x1) fun x74 =>
 bindP (oNilC x74) fun x75 =>
 bindP (oFieldAddr 2 5 x75) fun x76 =>
 bindP (oFieldAddr 4 1 x76) fun x77 =>
 bindP (oLoad 1 false S x77) fun x78 =>
 bindP (oArith .lss x73 x78) fun x79 =>
 bif true then
 (let S := S;
 ifA x79
 (bif sameD [] [] then Join j65 [(.int .u8 1)] S else none)
 (bif sameD [] [] then Join j65 [(.int .u8 2)] S else none))
 else none)))
 else none) N [(.int .i64 0)] S)
 else none)
 else none)
 else none
theorem e216 (N : Nat) (κ : Oracles) (v0 : AV) (S : St) : runF (Cs N) κ false 216 [v0] S = s216 N κ v0 S := by kernel_rfl
end Go.Sac
