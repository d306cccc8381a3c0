/- The words of direct forms: operations with what the types say put in. -/
import Derived.Test.YtippafigppeblaaGreatSacA
namespace Go.Sac
open Go

def pnA (v : AV) (S : St) : R := some (.panic v, S)
def ifA (c : AV) (t e : R) : R := match c with
  | .bool true => t
  | .bool false => e
  | _ => none
def oPick (c a b : AV) : Option AV := match c with
  | .bool true => some a
  | .bool false => some b
  | _ => none
def plS (l : List (Nat × Nat)) (i : Nat) : Option (Nat × Nat) := l[i]?
def plA (n i : Nat) : Option (Nat × Nat) := some (i * n, n)
def oFill (place : Nat → Option (Nat × Nat)) (z : List AV) (parts : List (Nat × AV)) : Option AV := (fillA place z parts).map .agg
def oNilC (a : AV) : Option AV := match a with
  | .ptr o f => some (.ptr o f)
  | .eptr r f => some (.eptr r f)
  | .func f a c => some (.func f a c)
  | _ => none
def bE (x : Option Bool) : Option AV := x.map .bool
def bN (x : Option Bool) : Option AV := x.map fun c => .bool !c
def kPtr : AV → Bool | .nilptr | .ptr .. | .eptr .. => true | _ => false
def kSli : AV → Bool | .lst .. | .sl .. => true | _ => false
def kMap : AV → Bool | .map _ | .nilmap => true | _ => false
def kFun : AV → Bool | .func .. | .nilfunc | .yld _ => true | _ => false
def kIfc : AV → Bool | .iface .. | .niliface => true | _ => false
def kNo : AV → Bool | _ => false
def eNil (k : AV → Bool) (a b : AV) : Option Bool := bif k a && k b then isNilA a else none
def eNil2 (k : AV → Bool) (a b : AV) : Option Bool := bif k a && k b then isNilA b else none
def eG (fl : Option (List Sc)) (ag gu bo : Bool) (a b : AV) : Option Bool := match a, b with
  | .agg as, .agg bs => match fl with
    | some ds => bif ag && okScs ds as && okScs ds bs && !gu then eqCells as bs else none
    | none => none
  | .bool a, .bool b => match bo with
    | true => some (a == b)
    | false => none
  | .int k a, .int k' b => eqCell (.int k a) (.int k' b)
  | .str a, .str b => some (a == b)
  | _, _ => none
def cII (k : IntKind) (x : AV) : Option AV := match x with | .int _ n => some (.int k (k.wrap n)) | _ => none
def cSS (x : AV) : Option AV := match x with | .str s => some (.str s) | _ => none
def cIS (x : AV) : Option AV := match x with | .int _ n => bif decide (0 ≤ n) && decide (n < 128) then some (.str [UInt8.ofNat n.toNat]) else none | _ => none
def cSB (x : AV) : Option AV := match x with | .str s => some (.lst .unk 1 (s.map byteRow)) | _ => none
def cBS (S : St) (x : AV) : Option AV := bif sliceV x then ((rowsOf S 1 x).bind bytesOf).map .str else none
def mkI (t : TypeId) (v : AV) : Option AV := match v with | .junk => none | v => some (.iface t v)
def slS (sz : Nat) (x : AV) (lo hi mx : Option AV) : Option AV := bif sliceV x then oSlice none sz x lo hi mx else none
def slT (x : AV) (lo hi mx : Option AV) : Option AV := bif strV x then oSlice none 1 x lo hi mx else none
def slA (n sz : Nat) (x : AV) (lo hi mx : Option AV) : Option AV := bif ptrV x then oSlice (some n) sz x lo hi mx else none
def keyG (fl : Option (List Sc)) (ag : Bool) (k : AV) : Bool := match fl, k with
  | some ds, .agg cs => ag && okScs ds cs
  | some ds, k => !ag && okScs ds [k]
  | none, _ => false
def oLook (fl : Option (List Sc)) (ag : Bool) (z : Option AV) (S : St) (m k : AV) (commaOk : Bool) : Option AV :=
  bif keyG fl ag k && true then
    let r : Option (Option AV) := match m with
      | .nilmap => some none
      | .map o => match S.objs[o]? with
        | some (.map es _) => (findKeyA k es 0).map fun r => r.map fun e => e.2.2.1
        | _ => none
      | _ => none
    r.bind fun r => match r, commaOk with
      | some v, false => some v
      | some v, true => some (.tup [v, .bool true])
      | none, false => z
      | none, true => z.map fun z => .tup [z, .bool false]
  else none
def oTA (t : TypeId) (commaOk k : Bool) (z : Option AV) (x : AV) : Option AV := match x with
  | .iface t' v => bif Nat.beq t' t then some (bif commaOk then .tup [v, .bool true] else v)
    else bif commaOk && k then z.map fun z => .tup [z, .bool false] else none
  | .niliface => bif commaOk && k then z.map fun z => .tup [z, .bool false] else none
  | _ => none
def oExt (v : AV) (i : Nat) : Option AV := match v with | .tup vs => vs[i]? | _ => none
def oLen (S : St) (d : TypeDesc) (a : AV) : Option AV := (lenA S d a).map fun (n : Nat) => AV.int .i64 (n : Int)
def oAl (S : St) (z : List AV) : R := okv (some (oNew S z))
def oBox (S : St) (x : AV) : R := x.cells.bind fun cs => okv (some (oNew S cs))
def bsC (sz : Nat) (z : List AV) (len : Nat) (parts : List (Nat × AV)) : Option (Nat × List AV) := (fillA (fun i => some (i * sz, sz)) (zeros z len) parts).map fun cs => (sz, cs)
def oBS (S : St) (sz : Nat) (z : List AV) (len : Nat) (parts : List (Nat × AV)) : R := (bsC sz z len parts).bind fun r => some (.ret (.lst .exact r.1 (chunk r.1 len r.2)), S)
def oBSo (S : St) (sz : Nat) (z : List AV) (len : Nat) (parts : List (Nat × AV)) : R := (bsC sz z len parts).bind fun r => okv (some (.sl S.objs.length 0 len (some len) r.1, S.push (.cells r.2)))
def oMUp (fl : Option (List Sc)) (ag : Bool) (S : St) (m k v : AV) : Option St := match m with
  | .map o => match S.objs[o]? with
    | some (.map es clock) => bif keyG fl ag k then
        match v with
        | .junk => none
        | _ => (findKeyA k es 0).map fun r => match r with
          | some (i, _, _, born) => S.setObj o (.map (es.set i (k, v, born)) clock)
          | none => S.setObj o (.map (es ++ [(k, v, clock)]) (clock + 1))
      else none
    | _ => none
  | _ => none
def oMM (S : St) : R := okv (some (.map S.objs.length, S.push (.map [] 0)))
def oMMr (S : St) (r : AV) : R := match r with
  | .int _ _ => okv (some (.map S.objs.length, S.push (.map [] 0)))
  | _ => none
def oMS (k : Bool) (sz bytes : Nat) (z : List AV) (S : St) (len cap : AV) : Option (AV × St) := match asNat len, asNat cap with
  | some l, some c => bif k && Nat.ble l c && Nat.ble c maxStr && Nat.ble (c * bytes) bound47 then
      some (.sl S.objs.length 0 l (some c) sz, S.push (.cells (zeros z c))) else none
  | _, _ => none
def oME (fl : Option (List Sc)) (ag : Bool) (z : Option AV) (S : St) (m k : AV) : Option (AV × St) := match m with
  | .map o => match S.objs[o]? with
    | some (.map es clock) => bif keyG fl ag k && true then
        (findKeyA k es 0).bind fun r => match r with
          | some (i, _, v, born) => some (.tup [v, .int .i64 born], S.setObj o (.map (es.set i (k, v, born)) clock))
          | none => z.map fun z => (.tup [z, .int .i64 clock], S.setObj o (.map (es ++ [(k, z, clock)]) (clock + 1)))
      else none
    | _ => none
  | _ => none
def oRg (S : St) (x : AV) : Option (AV × St) := match x with
  | .nilmap => some (.ptr S.objs.length 0, S.push (.iter none 0 [] 0))
  | .map o => match S.objs[o]? with
    | some (.map _ clock) => some (.ptr S.objs.length 0, S.push (.iter (some o) clock [] clock))
    | _ => none
  | _ => none
def oPan (S : St) (x : AV) : R := match x with
  | .iface t v => some (.panic (.iface t v), S)
  | _ => none
def oApp (own : Bool) (sz bytes : Nat) (S : St) (s x : AV) : R := (rowsOf S sz x).bind fun new => okv (oAppend own sz bytes S s new)
def oDel (fl : Option (List Sc)) (ag : Bool) (S : St) (m k : AV) : Option St := match m with
  | .map o => match S.objs[o]? with
    | some (.map es clock) => bif keyG fl ag k then
        (findKeyA k es 0).map fun r => match r with
          | some (i, _) => S.setObj o (.map (es.eraseIdx i) clock)
          | none => S.setObj o (.map es clock)
      else none
    | _ => none
  | _ => none
def callN (κ : Oracle) (f : FuncId) (args : List AV) (S : St) : R := match κ.call f args { S with pan := none } with
  | some (a, S') => some (a, { S' with pan := S.pan })
  | none => none
def chkA (x : Option AV) (v : AV) : Bool := match x with | some u => same u v | none => false
def rfA (x : Option AV) (k : AV → Bool) : Bool := match x with | some v => k v | none => false
def resA : List (Option AV) → Option (List AV)
  | [] => some []
  | r :: rs => r.bind fun v => (resA rs).map (v :: ·)
def packV (vs : List AV) : AV := match vs with | [v] => v | vs => .tup vs

end Go.Sac
