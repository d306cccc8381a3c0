/- The deterministic abstract evaluator: values, states, operations, code. Definitions alone. -/
import Derived.AtR
namespace Go.Sac

/-- What is known of the end of a slice that is held by value. -/
inductive Tip where
  | nil | exact | unk | nn | lent | opn (t pos : Nat)
  deriving DecidableEq, Repr

/-- Abstract values: slices that are never written again are held by value ('lst': rows are 'agg's); variables are objects with numbers. -/
inductive AV where
  | bool (b : Bool)
  | int (k : IntKind) (n : Int)
  | str (s : List UInt8)
  | ptr (o off : Nat)
  | nilptr
  | eptr (row : List AV) (off : Nat)
  | lst (st : Tip) (sz : Nat) (rows : List AV)
  | sl (o off len : Nat) (cap : Option Nat) (sz : Nat)
  | map (o : Nat)
  | nilmap
  | func (f : FuncId) (first captured : List AV)
  | yld (o : Nat)
  | nilfunc
  | iface (t : TypeId) (v : AV)
  | niliface
  | agg (cs : List AV)
  | tup (vs : List AV)
  | junk
  deriving Inhabited, Repr

structure ALoop where
  state : LoopState
  pend : Option Code
  fn : FuncId
  env : Nat → AV
  params : List Nat
  assign : Code
  body : Code
  defers : Nat

inductive AObj where
  | cells (cs : List AV)
  | map (es : List (AV × AV × Nat)) (clock : Nat)
  | loop (l : ALoop)
  | dfr (taken : Bool)
  | iter (m : Option Nat) (since : Nat) (seen : List Nat) (last : Nat)
  | dead

structure St where
  objs : List AObj
  tips : List Nat
  pan : Option (AV × Bool)

def St.none : St := ⟨[], [], Option.none⟩

inductive Ans where
  | ret (v : AV)
  | panic (v : AV)

abbrev R := Option (Ans × St)

inductive ADef where
  | mark (o : Nat)
  | call (f : AV) (args : List AV)

structure Env where
  t : Nat → AV
  d : List ADef

def Env.set (e : Env) (i : Nat) (v : AV) : Env := { e with t := fun j => bif Nat.beq j i then v else e.t j }
def Env.put (e : Env) (dst : Option Nat) (v : AV) : Env := match dst with | some i => e.set i v | none => e

structure Kont where
  normal : Env → St → R
  ret : Env → St → R
  exit : Nat → Env → St → R
  goto : Nat → Env → St → R
  panic : AV → Env → St → R

structure Oracle where
  call : FuncId → List AV → St → R
  yld : Nat → List AV → St → R

structure Ctx where
  P : Program
  κ : Oracle
  fn : FuncId
  /-- appends and slice literals of this function are objects that may be written -/
  own : Nat → Bool
  /-- which slots are carried over a loop's head, or a place where ways meet, by the first region's number there -/
  ann : Nat → List Nat
  /-- calls that are run apart, by the callee's number -/
  pure : FuncId → Bool
  N : Nat
  dk : Bool
  round : Bool
  gc : Bool

def undefA : AV := .tup []

def ofConst : Value → AV
  | .bool b => .bool b
  | .int k n => .int k n
  | .string s => .str s.data.toList
  | .pointer none => .nilptr
  | .slice none 0 0 => .lst .nil 0 []
  | .map none => .nilmap
  | .nilFunc => .nilfunc
  | .nilIface => .niliface
  | _ => .junk

def Env.ev (e : Env) : Operand → AV
  | .tmp t => e.t t
  | .const v => ofConst v
  | .func f => .func f [] []
  | .global _ => .junk

/-- A value of one cell. -/
def scal : AV → Bool
  | .agg _ | .tup _ | .junk => false
  | _ => true

def AV.cells : AV → Option (List AV)
  | .agg cs => bif cs.all scal then some cs else none
  | v => bif scal v then some [v] else none

def isAggT (P : Program) (t : TypeId) : Bool :=
  match P.underlying t with
  | some (.struct _) | some (.array _ _) => true
  | _ => false

def sizeT (P : Program) (t : TypeId) : Nat := P.cellsOf t
def bytesT (P : Program) (t : TypeId) : Nat := ((P.info? t).map (·.bytes)).getD 0
def zeroT (P : Program) (t : TypeId) : List AV := (((P.info? t).bind (·.zero)).map fun v => v.cells.toList.map ofConst).getD []
def isAggV : Value → Bool
  | .agg _ => true
  | _ => false
def okT (P : Program) (t : TypeId) : Bool := (P.info? t).isSome && ((P.info? t).bind (·.zero)).isSome && ((((P.info? t).bind (·.zero)).map fun v => v.cells.size == sizeT P t && isAggV v == isAggT P t).getD false) && (zeroT P t).all scal

def pack (agg : Bool) (cs : List AV) : Option AV :=
  match agg with
  | true => some (.agg cs)
  | false => match cs with
    | [c] => some c
    | _ => none

def cut (l : List AV) (off n : Nat) : Option (List AV) := bif Nat.ble (off + n) l.length then some ((l.drop off).take n) else none

def readAt (S : St) (a : AV) (n : Nat) : Option (List AV) :=
  match a with
  | .ptr o off => match S.objs[o]? with
    | some (.cells cs) => cut cs off n
    | _ => none
  | .eptr row off => cut row off n
  | _ => none

def oLoad (n : Nat) (agg : Bool) (S : St) (a : AV) : Option AV := (readAt S a n).bind (pack agg)

/-- 'l' with the cells from 'off' on in place. -/
def splice (l : List AV) (off : Nat) (cs : List AV) : List AV := l.take off ++ cs ++ l.drop (off + cs.length)

def St.setObj (S : St) (o : Nat) (x : AObj) : St := { S with objs := S.objs.set o x }
def St.push (S : St) (x : AObj) : St := { S with objs := S.objs ++ [x] }

def oWrite (S : St) (o off : Nat) (cs : List AV) : Option St :=
  match S.objs[o]? with
  | some (.cells old) => bif Nat.ble (off + cs.length) old.length then some (S.setObj o (.cells (splice old off cs))) else none
  | _ => none

def oStore (n : Nat) (S : St) (a v : AV) : Option St :=
  match a, v.cells with
  | .ptr o off, some cs => bif Nat.beq cs.length n then oWrite S o off cs else none
  | _, _ => none

def oNew (S : St) (cs : List AV) : AV × St := (.ptr S.objs.length 0, S.push (.cells cs))

def oFieldAddr (off sz : Nat) (a : AV) : Option AV :=
  match sz, a with
  | 0, _ => none
  | _, .ptr o b => some (.ptr o (b + off))
  | _, .eptr row b => some (.eptr row (b + off))
  | _, _ => none

def oField (off n : Nat) (agg : Bool) (x : AV) : Option AV :=
  match x with
  | .agg cs => (cut cs off n).bind (pack agg)
  | _ => none

def idx (i : AV) (len : Nat) : Option Nat :=
  match i with
  | .int _ n => bif (decide (0 ≤ n) && decide (n < (len : Int))) then some n.toNat else none
  | _ => none

def oIndexAddrS (sz : Nat) (x i : AV) : Option AV :=
  match x with
  | .lst _ sz' rows => (idx i rows.length).bind fun n => match rows[n]? with
    | some (.agg cs) => bif Nat.beq sz sz' then some (.eptr cs 0) else none
    | _ => none
  | .sl o off len _ sz' => (idx i len).bind fun n => bif Nat.beq sz sz' then some (.ptr o (off + n * sz)) else none
  | _ => none

def oIndexAddrA (len sz : Nat) (x i : AV) : Option AV :=
  match x with
  | .ptr o off => (idx i len).bind fun n => some (.ptr o (off + n * sz))
  | .eptr row off => (idx i len).bind fun n => some (.eptr row (off + n * sz))
  | _ => none

def oIndexStr (x i : AV) : Option AV :=
  match x with
  | .str s => (idx i s.length).bind fun n => (s[n]?).map fun b => .int .u8 b.toNat
  | _ => none

def oIndexArr (len sz : Nat) (agg : Bool) (x i : AV) : Option AV :=
  match x with
  | .agg cs => (idx i len).bind fun n => (cut cs (n * sz) sz).bind (pack agg)
  | _ => none

/-- Equality of plain scalars of one kind. -/
def eqCell : AV → AV → Option Bool
  | .int k a, .int k' b => bif decide (k = k') then some (a == b) else none
  | .bool a, .bool b => some (a == b)
  | .str a, .str b => some (a == b)
  | _, _ => none

def eqCells : List AV → List AV → Option Bool
  | [], [] => some true
  | a :: as, b :: bs => (eqCell a b).bind fun x => (eqCells as bs).map fun y => x && y
  | _, _ => none

inductive Sc where
  | b | i | s
  deriving DecidableEq

def flatFs (P : Program) (g : TypeId → Option (List Sc)) : List Field → Nat → Option (List Sc)
  | [], _ => some []
  | f :: fs, off => bif f.name != "_" && Nat.beq f.offset off then match g f.type with
      | some d => bif Nat.beq d.length (P.cellsOf f.type) then (flatFs P g fs (off + d.length)).map (d ++ ·) else none
      | none => none
    else none

def rep (d : List Sc) : Nat → List Sc
  | 0 => []
  | n + 1 => d ++ rep d n

/-- The cells of a type whose values are compared cell by cell: whole numbers, bools, strings, and structs and arrays of these without gaps. -/
def flatT (P : Program) : Nat → TypeId → Option (List Sc)
  | 0, _ => none
  | n + 1, t => match P.underlying t with
    | some .bool => some [.b]
    | some (.int _) => some [.i]
    | some .string => some [.s]
    | some (.struct fs) => bif P.stoodInHeld t then none else flatFs P (flatT P n) fs.toList 0
    | some (.array len e) => match flatT P n e with
      | some d => bif Nat.beq d.length (P.cellsOf e) then some (rep d len) else none
      | none => none
    | _ => none

def okSc : Sc → AV → Bool
  | .b, .bool _ => true
  | .i, .int .. => true
  | .s, .str _ => true
  | _, _ => false

def okScs : List Sc → List AV → Bool
  | [], [] => true
  | d :: ds, a :: as => okSc d a && okScs ds as
  | _, _ => false

def isNilA : AV → Option Bool
  | .nilptr | .nilmap | .nilfunc | .niliface | .lst .nil _ _ => some true
  | .ptr .. | .eptr .. | .map _ | .func .. | .yld _ | .iface .. | .sl .. => some false
  | .lst .nn _ _ => some false
  | .lst _ _ rows => bif rows.isEmpty then none else some false
  | _ => none

def isNilConst : Operand → Bool
  | .const (.pointer none) | .const (.slice none 0 0) | .const (.map none) | .const .nilFunc | .const .nilIface => true
  | _ => false

/-- A value whose kind is its type's. -/
def kindOk (P : Program) (t : TypeId) (a : AV) : Bool :=
  match P.underlying t, a with
  | some (.pointer _), .nilptr | some (.pointer _), .ptr .. | some (.pointer _), .eptr .. => true
  | some (.slice _), .lst .. | some (.slice _), .sl .. => true
  | some (.map ..), .map _ | some (.map ..), .nilmap => true
  | some (.func ..), .func .. | some (.func ..), .nilfunc | some (.func ..), .yld _ => true
  | some (.interface _), .iface .. | some (.interface _), .niliface => true
  | _, _ => false

def oEql (P : Program) (t : TypeId) (x y : Operand) (a b : AV) : Option Bool :=
  bif isNilConst y then (bif kindOk P t a && kindOk P t b then isNilA a else none)
  else bif isNilConst x then (bif kindOk P t a && kindOk P t b then isNilA b else none)
  else match a, b with
    | .agg as, .agg bs => match flatT P 20 t with
      | some ds => bif isAggT P t && okScs ds as && okScs ds bs && !P.eqGuardType P.depth t then eqCells as bs else none
      | none => none
    | .bool a, .bool b => match P.underlying t with
      | some .bool => some (a == b)
      | _ => none
    | .int k a, .int k' b => eqCell (.int k a) (.int k' b)
    | .str a, .str b => some (a == b)
    | _, _ => none

def oInt (op : BinOp) (k : IntKind) (a b : Int) : Option AV :=
  match op with
  | .add => some (.int k (k.wrap (a + b)))
  | .sub => some (.int k (k.wrap (a - b)))
  | .mul => some (.int k (k.wrap (a * b)))
  | .quo => bif b == 0 then none else some (.int k (k.wrap (a.tdiv b)))
  | .rem => bif b == 0 then none else some (.int k (a.tmod b))
  | .and => some (.int k (k.wrap ((BitVec.ofInt k.bits a &&& BitVec.ofInt k.bits b).toNat)))
  | .or => some (.int k (k.wrap ((BitVec.ofInt k.bits a ||| BitVec.ofInt k.bits b).toNat)))
  | .xor => some (.int k (k.wrap ((BitVec.ofInt k.bits a ^^^ BitVec.ofInt k.bits b).toNat)))
  | .andNot => some (.int k (k.wrap ((BitVec.ofInt k.bits a &&& ~~~BitVec.ofInt k.bits b).toNat)))
  | .lss => some (.bool (decide (a < b)))
  | .leq => some (.bool (decide (a ≤ b)))
  | .gtr => some (.bool (decide (a > b)))
  | .geq => some (.bool (decide (a ≥ b)))
  | _ => none

def oShift (op : BinOp) (k : IntKind) (x y : Int) : Option AV :=
  bif decide (y < 0) then none else
    match op with
    | .shl => some (.int k (k.wrap (x * 2 ^ (min y.toNat k.bits))))
    | .shr => some (.int k (x.fdiv (2 ^ (min y.toNat k.bits))))
    | _ => none

def maxStr : Nat := 2 ^ 62

def oStr (op : BinOp) (a b : List UInt8) : Option AV :=
  match op with
  | .add => bif Nat.ble (a.length + b.length) maxStr then some (.str (a ++ b)) else none
  | .lss => some (.bool (Op.bytesLess a b))
  | .leq => some (.bool (Op.bytesLess a b || a == b))
  | .gtr => some (.bool !(Op.bytesLess a b || a == b))
  | .geq => some (.bool !(Op.bytesLess a b))
  | _ => none

def oShiftV (op : BinOp) (a b : AV) : Option AV :=
  match a, b with
  | .int k m, .int _ n => oShift op k m n
  | _, _ => none

def oArith (op : BinOp) (a b : AV) : Option AV :=
  match a, b with
  | .int k m, .int k' n => bif decide (k = k') then oInt op k m n else none
  | .str s, .str u => oStr op s u
  | _, _ => none

def oBin (P : Program) (op : BinOp) (t : TypeId) (x y : Operand) (a b : AV) : Option AV :=
  match op with
  | .eql => (oEql P t x y a b).map .bool
  | .neq => (oEql P t x y a b).map fun c => .bool !c
  | .shl | .shr => oShiftV op a b
  | _ => oArith op a b

def oUn (op : UnOp) (a : AV) : Option AV :=
  match op, a with
  | .not, .bool b => some (.bool !b)
  | .neg, .int k n => oInt .sub k 0 n
  | .xor, .int k n => oInt .xor k (if k.signed then -1 else k.max) n
  | _, _ => none

/-- The bytes of a row of bytes. -/
def bytesOf : List AV → Option (List UInt8)
  | [] => some []
  | .agg [.int .u8 n] :: rest => bif decide (0 ≤ n) && decide (n < 256) then (bytesOf rest).map (UInt8.ofNat n.toNat :: ·) else none
  | _ => none

def byteRow (b : UInt8) : AV := .agg [.int .u8 b.toNat]

/-- Cells cut into rows of 'sz', 'n' of them. -/
def chunk (sz : Nat) : Nat → List AV → List AV
  | 0, _ => []
  | n + 1, l => .agg (l.take sz) :: chunk sz n (l.drop sz)

/-- The rows of a slice or string. -/
def rowsOf (S : St) (sz : Nat) : AV → Option (List AV)
  | .lst _ sz' rows => bif rows.isEmpty || Nat.beq sz sz' then some rows else none
  | .sl o off len _ sz' => bif Nat.beq sz sz' then match S.objs[o]? with
      | some (.cells cs) => (cut cs off (len * sz)).map (chunk sz len)
      | _ => none
    else none
  | .str s => bif Nat.beq sz 1 then some (s.map byteRow) else none
  | _ => none

def flat : List AV → Option (List AV)
  | [] => some []
  | .agg cs :: rest => (flat rest).map (cs ++ ·)
  | _ => none

def sliceV : AV → Bool
  | .lst .. | .sl .. => true
  | _ => false
def strV : AV → Bool
  | .str _ => true
  | _ => false
def ptrV : AV → Bool
  | .ptr .. => true
  | _ => false

def oConvert (P : Program) (S : St) (src dst : TypeId) (x : AV) : Option AV :=
  match P.underlying src, P.underlying dst, x with
  | some (.int _), some (.int k), .int _ n => some (.int k (k.wrap n))
  | some .string, some .string, .str s => some (.str s)
  | some (.int _), some .string, .int _ n => bif decide (0 ≤ n) && decide (n < 128) then some (.str [UInt8.ofNat n.toNat]) else none
  | some .string, some (.slice e), .str s => match P.underlying e with
    | some (.int .u8) => some (.lst .unk 1 (s.map byteRow))
    | _ => none
  | some (.slice e), some .string, x => match P.underlying e with
    | some (.int .u8) => bif sliceV x then ((rowsOf S 1 x).bind bytesOf).map .str else none
    | _ => none
  | _, _, _ => none

def optIdx (lo : Option AV) (most dflt : Nat) : Option Nat :=
  match lo with
  | none => some dflt
  | some i => match i with
    | .int _ n => bif decide (0 ≤ n) && decide (n ≤ (most : Int)) then some n.toNat else none
    | _ => none

/-- What is known of the end behind 's[l:h]' and 's[l:h:h]' ('all': h is the length; 'left': rows are left). -/
def tipCut (three all left : Bool) : Tip → Tip
  | .nil => .nil
  | .lent => .lent
  | .exact => bif three || all then .exact else .unk
  | .opn t p => bif three then .exact else bif all && left then .opn t p else .unk
  | _ => bif three then .exact else .unk

/-- An empty end of rows that are there is not nil. -/
def tipE (ne emp : Bool) : Tip → Tip
  | .unk => bif ne && emp then .nn else .unk
  | t => t

/-- 'x[lo:hi:mx]' -/
def slTo (o off l h : Nat) (cap : Option Nat) (sz : Nat) : AV := bif Nat.beq l 0 || Nat.blt l h then .sl o (off + l * sz) (h - l) cap sz else .lst .unk sz []

/-- The bounds of a slice expression: from, to, and the end of the capacity if it is told. -/
def bounds (len most : Nat) (lo hi mx : Option AV) : Option (Nat × Nat × Option Nat) :=
  match mx with
  | some m => (optIdx (some m) most 0).bind fun m => match hi with
    | none => none
    | some hi => (optIdx (some hi) m 0).bind fun h => (optIdx lo h 0).map fun l => (l, h, some m)
  | none => (optIdx hi most len).bind fun h => (optIdx lo h 0).map fun l => (l, h, none)

def oSlice (arr : Option Nat) (sz : Nat) (x : AV) (lo hi mx : Option AV) : Option AV :=
  match x with
  | .str s => (bounds s.length s.length lo hi mx).bind fun (l, h, m) => match m with
    | none => some (.str ((s.take h).drop l))
    | some _ => none
  | .lst st sz' rows => bif rows.isEmpty || Nat.beq sz sz' then
      (bounds rows.length rows.length lo hi mx).bind fun (l, h, m) => match m with
      | some m => bif Nat.beq m h then some (.lst (tipCut true false true st) sz' ((rows.take h).drop l)) else none
      | none => some (.lst (tipE (!rows.isEmpty) (Nat.beq l h) (tipCut false (Nat.beq h rows.length) (Nat.blt l h) st)) sz' ((rows.take h).drop l))
    else none
  | .sl o off len cap sz' => bif Nat.beq sz sz' then
      (bounds len len lo hi mx).bind fun (l, h, m) => match m with
      | some m => some (slTo o off l h (some (m - l)) sz)
      | none => bif cap.isSome || Nat.beq l 0 then some (slTo o off l h (cap.map (· - l)) sz) else none
    else none
  | .ptr o off => match arr with
    | some n => (bounds n n lo hi mx).map fun (l, h, m) => slTo o off l h (some (m.getD n - l)) sz
    | none => none
  | _ => none

def oTypeAssert (P : Program) (x : AV) (asserted : TypeId) (commaOk : Bool) : Option AV :=
  match P.underlying asserted with
  | none => none
  | some (.interface _) => none
  | some _ => match x with
    | .iface t v => bif Nat.beq t asserted then some (bif commaOk then .tup [v, .bool true] else v)
      else bif commaOk && okT P asserted then (pack (isAggT P asserted) (zeroT P asserted)).map fun z => .tup [z, .bool false] else none
    | .niliface => bif commaOk && okT P asserted then (pack (isAggT P asserted) (zeroT P asserted)).map fun z => .tup [z, .bool false] else none
    | _ => none

/-- Parts of a literal laid over zeros. -/
def fillA (place : Nat → Option (Nat × Nat)) : List AV → List (Nat × AV) → Option (List AV)
  | cells, [] => some cells
  | cells, (i, v) :: rest => match place i, v.cells with
    | some (off, size), some cs => bif Nat.beq cs.length size && Nat.ble (off + size) cells.length then fillA place (splice cells off cs) rest else none
    | _, _ => none

def oBuild (P : Program) (t : TypeId) (parts : List (Nat × AV)) : Option AV :=
  bif okT P t then
    match P.underlying t with
    | some (.struct fs) => bif fs.toList.all (fun f => (P.info? f.type).isSome) then (fillA (fun i => (fs[i]?).map fun f => (f.offset, sizeT P f.type)) (zeroT P t) parts).map .agg else none
    | some (.array _ e) => bif (P.info? e).isSome then (fillA (fun i => some (i * sizeT P e, sizeT P e)) (zeroT P t) parts).map .agg else none
    | _ => none
  else none

def zeros (z : List AV) : Nat → List AV
  | 0 => []
  | n + 1 => z ++ zeros z n

def oBuildCells (P : Program) (t : TypeId) (len : Nat) (parts : List (Nat × AV)) : Option (Nat × List AV) :=
  match P.underlying t with
  | some (.slice e) => bif okT P e && Nat.ble (len * sizeT P e) 16777216 then
      (fillA (fun i => some (i * sizeT P e, sizeT P e)) (zeros (zeroT P e) len) parts).map fun cs => (sizeT P e, cs)
    else none
  | _ => none

/-- A key of its type, of plain cells. -/
def keyOk (P : Program) (t : TypeId) (k : AV) : Bool :=
  match flatT P 20 t, k with
  | some ds, .agg cs => isAggT P t && okScs ds cs
  | some ds, k => !isAggT P t && okScs ds [k]
  | none, _ => false

def keyEq (a b : AV) : Option Bool :=
  match a, b with
  | .agg as, .agg bs => eqCells as bs
  | a, b => eqCell a b

def findKeyA (k : AV) : List (AV × AV × Nat) → Nat → Option (Option (Nat × AV × AV × Nat))
  | [], _ => some none
  | e :: es, i => match keyEq k e.1 with
    | some true => some (some (i, e))
    | some false => findKeyA k es (i + 1)
    | none => none

def oLookup (P : Program) (t : TypeId) (S : St) (m k : AV) (commaOk : Bool) : Option AV :=
  match P.underlying t with
  | some (.map kt et) => bif keyOk P kt k && okT P et then
      let z := pack (isAggT P et) (zeroT P et)
      let r : Option (Option AV) := match m with
        | .nilmap => some none
        | .map o => match S.objs[o]? with
          | some (.map es _) => (findKeyA k es 0).map fun r => r.map fun e => e.2.2.1
          | _ => none
        | _ => none
      r.bind fun r => match r, commaOk with
        | some v, false => some v
        | some v, true => some (.tup [v, .bool true])
        | none, false => z
        | none, true => z.map fun z => .tup [z, .bool false]
    else none
  | _ => none

def lenA (S : St) (d : TypeDesc) (a : AV) : Option Nat :=
  match d, a with
  | .string, .str s => some s.length
  | .slice _, .lst _ _ rows => some rows.length
  | .slice _, .sl _ _ len _ _ => some len
  | .map .., .nilmap => some 0
  | .map .., .map o => match S.objs[o]? with
    | some (.map es _) => some es.length
    | _ => none
  | .array n _, _ => some n
  | _, _ => none

def maxmin (isMax : Bool) : List AV → Option AV
  | [] => none
  | [.int k a] => some (.int k a)
  | .int k a :: .int k' b :: rest => bif decide (k = k') then
      maxmin isMax (.int k (bif isMax then (if b > a then b else a) else (if b < a then b else a)) :: rest) else none
  | _ => none
  termination_by l => l.length

def fieldOf (P : Program) (t : TypeId) (i : Nat) : Option Field :=
  match P.underlying t with
  | some (.struct fs) => fs[i]?
  | _ => none

/-- Operations that leave the state alone. -/
def isPure : Op → Bool
  | .move _ | .assign _ | .pick .. | .build .. | .load .. | .nilCheck _ | .binOp .. | .unOp .. | .convert .. | .makeInterface .. | .makeFunc ..
  | .slice .. | .fieldAddr .. | .field .. | .indexAddr .. | .index .. | .lookup .. | .typeAssert .. | .extract .. => true
  | .call { callee := .builtin b, .. } => match b with
    | .len | .cap | .max | .min => true
    | _ => false
  | _ => false

def pureOp (P : Program) (op : Op) (e : Env) (S : St) : Option AV :=
  match op with
  | .move x | .assign x => some (e.ev x)
  | .pick c a b => match e.ev c with
    | .bool true => some (e.ev a)
    | .bool false => some (e.ev b)
    | _ => none
  | .build t parts => oBuild P t (parts.toList.map fun p => (p.1, e.ev p.2))
  | .load t a => bif (P.underlying t).isSome then oLoad (sizeT P t) (isAggT P t) S (e.ev a) else none
  | .nilCheck x => match e.ev x with
    | .ptr o f => some (.ptr o f)
    | .eptr r f => some (.eptr r f)
    | .func f a c => some (.func f a c)
    | _ => none
  | .binOp op t x y _ => oBin P op t x y (e.ev x) (e.ev y)
  | .unOp op _ x => oUn op (e.ev x)
  | .convert s d x => oConvert P S s d (e.ev x)
  | .makeInterface t x => match P.underlying t, e.ev x with
    | some (.interface _), _ | none, _ | _, .junk => none
    | _, v => some (.iface t v)
  | .makeFunc (.func f) first captured => some (.func f (first.toList.map e.ev) (captured.toList.map e.ev))
  | .slice t x lo hi mx => match P.underlying t with
    | some (.slice el) => bif (P.info? el).isSome && sliceV (e.ev x) then oSlice none (sizeT P el) (e.ev x) (lo.map e.ev) (hi.map e.ev) (mx.map e.ev) else none
    | some .string => bif strV (e.ev x) then oSlice none 1 (e.ev x) (lo.map e.ev) (hi.map e.ev) (mx.map e.ev) else none
    | some (.array n el) => bif (P.info? el).isSome && ptrV (e.ev x) then oSlice (some n) (sizeT P el) (e.ev x) (lo.map e.ev) (hi.map e.ev) (mx.map e.ev) else none
    | _ => none
  | .fieldAddr t x f => (fieldOf P t f).bind fun f => oFieldAddr f.offset (sizeT P f.type) (e.ev x)
  | .field t x f => (fieldOf P t f).bind fun f => bif (P.underlying f.type).isSome then oField f.offset (sizeT P f.type) (isAggT P f.type) (e.ev x) else none
  | .indexAddr t x i => match P.underlying t with
    | some (.slice el) => bif (P.info? el).isSome then oIndexAddrS (sizeT P el) (e.ev x) (e.ev i) else none
    | some (.array n el) => bif (P.info? el).isSome then oIndexAddrA n (sizeT P el) (e.ev x) (e.ev i) else none
    | _ => none
  | .index t x i => match P.underlying t with
    | some .string => oIndexStr (e.ev x) (e.ev i)
    | some (.array n el) => bif (P.underlying el).isSome then oIndexArr n (sizeT P el) (isAggT P el) (e.ev x) (e.ev i) else none
    | _ => none
  | .lookup t m k ok => oLookup P t S (e.ev m) (e.ev k) ok
  | .typeAssert x _ t ok => oTypeAssert P (e.ev x) t ok
  | .extract x i => match e.ev x with
    | .tup vs => vs[i]?
    | _ => none
  | .call { callee := .builtin .len, args, argTypes } => match args.toList, argTypes.toList with
    | [x], [t] => match P.underlying t with
      | some d => (lenA S d (e.ev x)).map fun (n : Nat) => AV.int .i64 (n : Int)
      | none => none
    | _, _ => none
  | .call { callee := .builtin .max, args, .. } => maxmin true (args.toList.map e.ev)
  | .call { callee := .builtin .min, args, .. } => maxmin false (args.toList.map e.ev)
  | _ => none

def bound47 : Nat := 140737488355328

def oAppend (own : Bool) (sz bytes : Nat) (S : St) (s : AV) (new : List AV) : Option (AV × St) :=
  match new with
  | [] => bif sliceV s then some (s, S) else none
  | _ => (rowsOf S sz s).bind fun old =>
    bif Nat.ble ((old.length + new.length) * bytes) bound47 && Nat.ble (old.length + new.length) maxStr && !Nat.beq sz 0 && !Nat.beq bytes 0 then
      let fresh : Option (AV × St) := match own with
        | false => some (.lst (.opn S.tips.length (old.length + new.length)) sz (old ++ new), { S with tips := S.tips ++ [old.length + new.length] })
        | true => (flat (old ++ new)).map fun cs => (.sl S.objs.length 0 (old.length + new.length) none sz, S.push (.cells cs))
      match s with
      | .lst .nil _ _ | .lst .exact _ _ => fresh
      | .lst (.opn t pos) sz' _ => match S.tips[t]? with
        | some p => bif Nat.beq p pos && !own && Nat.beq sz sz' then some (.lst (.opn t (pos + new.length)) sz (old ++ new), { S with tips := S.tips.set t (pos + new.length) }) else none
        | none => none
      | .sl o off len (some cap) _ => bif Nat.ble (len + new.length) cap then
          (flat new).bind fun cs => (oWrite S o (off + len * sz) cs).map fun S' => (.sl o off (len + new.length) (some cap) sz, S')
        else fresh
      | .sl o off len none _ => match S.objs[o]? with
        | some (.cells cs) => bif own && Nat.beq off 0 && Nat.beq cs.length (len * sz) then
            (flat (old ++ new)).map fun cs => (.sl S.objs.length 0 (old.length + new.length) none sz, (S.setObj o .dead).push (.cells cs)) else none
        | _ => none
      | _ => none
    else none

def oMapUpdate (P : Program) (t : TypeId) (S : St) (m k v : AV) : Option St :=
  match P.underlying t, m with
  | some (.map kt _), .map o => match S.objs[o]? with
    | some (.map es clock) => bif keyOk P kt k then
        match v with
        | .junk => none
        | _ => (findKeyA k es 0).map fun r => match r with
          | some (i, _, _, born) => S.setObj o (.map (es.set i (k, v, born)) clock)
          | none => S.setObj o (.map (es ++ [(k, v, clock)]) (clock + 1))
      else none
    | _ => none
  | _, _ => none

def oMapEntry (P : Program) (t : TypeId) (S : St) (m k : AV) : Option (AV × St) :=
  match P.underlying t, m with
  | some (.map kt et), .map o => match S.objs[o]? with
    | some (.map es clock) => bif keyOk P kt k && okT P et then
        (findKeyA k es 0).bind fun r => match r with
          | some (i, _, v, born) => some (.tup [v, .int .i64 born], S.setObj o (.map (es.set i (k, v, born)) clock))
          | none => (pack (isAggT P et) (zeroT P et)).map fun z => (.tup [z, .int .i64 clock], S.setObj o (.map (es ++ [(k, z, clock)]) (clock + 1)))
      else none
    | _ => none
  | _, _ => none

def setBorn (b : Int) (v : AV) : List (AV × AV × Nat) → Option (List (AV × AV × Nat))
  | [] => none
  | e :: es => bif (e.2.2 : Int) == b then some ((e.1, v, e.2.2) :: es) else (setBorn b v es).map (e :: ·)

def oEntryStore (S : St) (m stamp v : AV) : Option St :=
  match m, stamp, v with
  | _, _, .junk => none
  | .map o, .int _ b, v => match S.objs[o]? with
    | some (.map es clock) => (setBorn b v es).map fun es => S.setObj o (.map es clock)
    | _ => none
  | _, _, _ => none

/-- Ranges over maps, where the next entry is told: none, or one that is left. -/
def oRange (P : Program) (t : TypeId) (S : St) (x : AV) : Option (AV × St) :=
  match P.underlying t, x with
  | some (.map ..), .nilmap => some (.ptr S.objs.length 0, S.push (.iter none 0 [] 0))
  | some (.map ..), .map o => match S.objs[o]? with
    | some (.map _ clock) => some (.ptr S.objs.length 0, S.push (.iter (some o) clock [] clock))
    | _ => none
  | _, _ => none

def memB (i : Nat) : List Nat → Bool
  | [] => false
  | x :: xs => Nat.beq x i || memB i xs

def oNext (S : St) (it : AV) : Option (AV × St) :=
  match it with
  | .ptr r 0 => match S.objs[r]? with
    | some (.iter none _ _ _) => some (.tup [.bool false], S)
    | some (.iter (some o) since seen last) => match S.objs[o]? with
      | some (.map es clock) =>
        bif !seen.isEmpty && !es.isEmpty && es.all (fun e => Nat.ble last e.2.2) then none else
          match es.filter (fun e => !memB e.2.2 seen) with
          | [] => some (.tup [.bool false], S)
          | [e] => bif Nat.blt e.2.2 since then some (.tup [.bool true, e.1, e.2.1], S.setObj r (.iter (some o) since (seen ++ [e.2.2]) clock)) else none
          | _ => none
      | _ => none
    | _ => none
  | _ => none

def oEntry (S : St) (it : AV) : Option (AV × St) :=
  match it with
  | .ptr r 0 => match S.objs[r]? with
    | some (.iter (some o) _ seen last) => match S.objs[o]? with
      | some (.map es clock) => bif Nat.beq clock last then
          seen.getLast?.bind fun stamp => (es.find? fun e => Nat.beq e.2.2 stamp).map fun e => (.tup [e.1, e.2.1], S)
        else none
      | _ => none
    | _ => none
  | _ => none

def oDelete (P : Program) (t : TypeId) (S : St) (m k : AV) : Option St :=
  match P.underlying t, m with
  | some (.map kt _), .map o => match S.objs[o]? with
    | some (.map es clock) => bif keyOk P kt k then
        (findKeyA k es 0).map fun r => match r with
          | some (i, _) => S.setObj o (.map (es.eraseIdx i) clock)
          | none => S.setObj o (.map es clock)
      else none
    | _ => none
  | _, _ => none

def oCopy (sz : Nat) (S : St) (d s : AV) : Option (AV × St) :=
  match d with
  | .sl o off len _ sz' => bif Nat.beq sz sz' then (rowsOf S sz s).bind fun rows =>
      (flat (rows.take len)).bind fun cs => (oWrite S o off cs).map fun S' => (.int .i64 ((min rows.length len : Nat) : Int), S') else none
  | _ => none

def asNat : AV → Option Nat
  | .int _ n => bif decide (0 ≤ n) then some n.toNat else none
  | _ => none

def oMakeSlice (P : Program) (t : TypeId) (S : St) (len cap : AV) : Option (AV × St) :=
  match P.underlying t, asNat len, asNat cap with
  | some (.slice e), some l, some c => bif okT P e && Nat.ble l c && Nat.ble c maxStr && Nat.ble (c * bytesT P e) bound47 then
      some (.sl S.objs.length 0 l (some c) (sizeT P e), S.push (.cells (zeros (zeroT P e) c))) else none
  | _, _, _ => none

def ok (S : Option St) : R := S.map fun S => (.ret undefA, S)
def okv (r : Option (AV × St)) : R := r.map fun r => (.ret r.1, r.2)

mutual
/-- A value as it is handed to a call that is run apart: no objects; nothing known of the ends of slices. -/
def shutV : AV → Option AV
  | .bool b => some (.bool b)
  | .int k n => some (.int k n)
  | .str s => some (.str s)
  | .nilptr => some .nilptr
  | .lst .lent _ _ => none
  | .lst .nil sz rows => (shutL rows).map fun r => .lst .nil sz r
  | .lst .nn sz [] => some (.lst .nn sz [])
  | .lst _ sz rows => (shutL rows).map fun r => .lst .unk sz r
  | .nilmap => some .nilmap
  | .func f a c => (shutL a).bind fun a => (shutL c).map fun c => .func f a c
  | .nilfunc => some .nilfunc
  | .iface t v => (shutV v).map (.iface t)
  | .niliface => some .niliface
  | .agg cs => (shutL cs).map .agg
  | .tup vs => (shutL vs).map .tup
  | .eptr r o => (shutL r).map fun r => .eptr r o
  | _ => none
def shutL : List AV → Option (List AV)
  | [] => some []
  | v :: vs => (shutV v).bind fun v => (shutL vs).map (v :: ·)
end

/-- What a call that was run apart returns: objects that hold slices become values. -/
def freeze (st : Tip) (S : St) : Nat → AV → Option AV
  | 0, _ => none
  | n + 1, v =>
    let all (l : List AV) : Option (List AV) := l.foldr (fun x acc => acc.bind fun acc => (freeze st S n x).map (· :: acc)) (some [])
    match v with
    | .bool b => some (.bool b)
    | .int k n => some (.int k n)
    | .str s => some (.str s)
    | .nilptr => some .nilptr
    | .nilmap => some .nilmap
    | .nilfunc => some .nilfunc
    | .niliface => some .niliface
    | .lst .lent _ _ => none
    | .lst .nil sz rows => (all rows).map fun r => .lst .nil sz r
    | .lst .nn sz [] => some (.lst .nn sz [])
    | .lst _ sz rows => (all rows).map fun r => .lst st sz r
    | .sl o off len _ sz => match S.objs[o]? with
      | some (.cells cs) => (cut cs off (len * sz)).bind fun cs => (all (chunk sz len cs)).map fun r => .lst st sz r
      | _ => none
    | .func f a c => (all a).bind fun a => (all c).map fun c => .func f a c
    | .iface t v => (freeze st S n v).map (.iface t)
    | .agg cs => (all cs).map .agg
    | .tup vs => (all vs).map .tup
    | _ => none

mutual
/-- No memory in it. -/
def scalarA : AV → Bool
  | .bool _ | .int .. | .str _ | .nilptr | .nilmap | .nilfunc | .niliface => true
  | .lst .nil _ rows => rows.isEmpty
  | .agg cs => scalarL cs
  | .tup vs => scalarL vs
  | _ => false
def scalarL : List AV → Bool
  | [] => true
  | v :: vs => scalarA v && scalarL vs
end

def freezeL (st : Tip) (S : St) (l : List AV) : Option (List AV) := l.foldr (fun x acc => acc.bind fun acc => (freeze st S 12 x).map (· :: acc)) (some [])

/-- A call that is run apart, from no objects: its arguments are values. Where an argument is a slice that may be written, it is lent: the result holds nothing of it then. -/
def apart (κ : Oracle) (f : FuncId) (args : List AV) (S : St) : R :=
  match shutL args with
  | some args => match κ.call f args St.none with
    | some (.ret v, S1) => (freeze .unk S1 12 v).map fun v => (.ret v, S)
    | some (.panic v, S1) => (freeze .unk S1 12 v).map fun v => (.panic v, S)
    | none => none
  | none => (freezeL .unk S args).bind fun args1 => match κ.call f args1 St.none with
    | some (.ret v, _) => bif scalarA v then some (.ret v, S)
      else (freezeL .lent S args).bind fun args2 => match κ.call f args2 St.none with
        | some (.ret v, S1) => (freeze .unk S1 12 v).map fun v => (.ret v, S)
        | _ => none
    | _ => none

def callV (X : Ctx) (f : AV) (args : List AV) (S : St) : R :=
  match f with
  | .func f first captured => bif X.pure f then apart X.κ f (first ++ args ++ captured) S
    else match X.κ.call f (first ++ args ++ captured) { S with pan := none } with
      | some (a, S') => some (a, { S' with pan := S.pan })
      | none => none
  | .yld o => match X.κ.yld o args { S with pan := none } with
      | some (a, S') => some (a, { S' with pan := S.pan })
      | none => none
  | _ => none

/-- The method of a dynamic type that is declared for its values. -/
def methodOf (P : Program) (t : TypeId) (name : String) : Option FuncId :=
  match P.info? t with
  | some i => match i.methods.find? (·.name == name) with
    | some m => match m.path.isEmpty, m.func, P.underlying t with
      | true, some (_, false), some (.pointer _) => none
      | true, some (f, false), some _ => some f
      | _, _, _ => none
    | none => none
  | none => none

def oBuiltin (X : Ctx) (b : Builtin) (args : List AV) (tys : List TypeId) (own : Bool) (S : St) : R :=
  match b with
  | .append => match args, tys with
    | [s, x], [t, u] => match X.P.underlying t, X.P.underlying u with
      | _, some (.int _) => none
      | some (.slice el), some _ => bif !okT X.P el then none else (rowsOf S (sizeT X.P el) x).bind fun new => okv (oAppend own (sizeT X.P el) (bytesT X.P el) S s new)
      | _, _ => none
    | _, _ => none
  | .copy => match args, tys with
    | [d, s], [t, _] => match X.P.underlying t with
      | some (.slice el) => bif (X.P.info? el).isSome then okv (oCopy (sizeT X.P el) S d s) else none
      | _ => none
    | _, _ => none
  | .delete => match args, tys with
    | [m, k], [t, _] => ok (oDelete X.P t S m k)
    | _, _ => none
  | .clear => match args, tys with
    | [m], [t] => match X.P.underlying t, m with
      | some _, .map o => match S.objs[o]? with
        | some (.map _ clock) => ok (some (S.setObj o (.map [] clock)))
        | _ => none
      | _, _ => none
    | _, _ => none
  | .recover => match args with
    | [] => bif X.dk then (match S.pan with
        | some (v, false) => some (.ret v, { S with pan := some (v, true) })
        | _ => some (.ret .niliface, S))
      else bif X.round then none else some (.ret .niliface, S)
    | _ => none
  | _ => none

def Ctx.ownAt (X : Ctx) (dst : Option Nat) : Bool := match dst with | some d => X.own d | none => false

def actOp (X : Ctx) (op : Op) (dst : Option Nat) (e : Env) (S : St) : R :=
  match op with
  | .alloc t => bif okT X.P t then okv (some (oNew S (zeroT X.P t))) else none
  | .box _ x => (e.ev x).cells.bind fun cs => okv (some (oNew S cs))
  | .buildSlice t len parts => (oBuildCells X.P t len (parts.toList.map fun p => (p.1, e.ev p.2))).bind fun r =>
      bif X.ownAt dst then okv (some (.sl S.objs.length 0 len (some len) r.1, S.push (.cells r.2)))
      else some (.ret (.lst .exact r.1 (chunk r.1 len r.2)), S)
  | .insert t m k v | .mapUpdate t m k v => ok (oMapUpdate X.P t S (e.ev m) (e.ev k) (e.ev v))
  | .store t a v => bif (X.P.info? t).isSome then ok (oStore (sizeT X.P t) S (e.ev a) (e.ev v)) else none
  | .makeMap t r => match r with
    | none => okv (some (.map S.objs.length, S.push (.map [] 0)))
    | some r => match X.P.underlying t, e.ev r with
      | some (.map _ _), .int _ _ => okv (some (.map S.objs.length, S.push (.map [] 0)))
      | _, _ => none
  | .makeSlice t l c => okv (oMakeSlice X.P t S (e.ev l) (e.ev c))
  | .mapEntry t m k => okv (oMapEntry X.P t S (e.ev m) (e.ev k))
  | .range t x => okv (oRange X.P t S (e.ev x))
  | .next it str => bif str then none else okv (oNext S (e.ev it))
  | .entry it => okv (oEntry S (e.ev it))
  | .entryStore _ m s v => ok (oEntryStore S (e.ev m) (e.ev s) (e.ev v))
  | .panic x => match e.ev x with
    | .iface t v => some (.panic (.iface t v), S)
    | _ => none
  | .call { callee := .builtin b, args, argTypes } => oBuiltin X b (args.toList.map e.ev) argTypes.toList (X.ownAt dst) S
  | .call { callee := .value f, args, .. } => callV X (e.ev f) (args.toList.map e.ev) S
  | .call { callee := .invoke r name, args, .. } => match e.ev r with
    | .iface t v => (methodOf X.P t name).bind fun f => callV X (.func f [] []) (v :: args.toList.map e.ev) S
    | _ => none
  | _ => none

def bindP (x : Option AV) (k : AV → R) : R := match x with | some v => k v | none => none
def bindC (r : R) (kp k : AV → St → R) : R := match r with
  | some (.ret v, S) => k v S
  | some (.panic v, S) => kp v S
  | none => none
def guardP (c : AV) (want : Bool) (x : Option AV) : Option AV := match c with
  | .bool b => bif b == want then x else some undefA
  | .tup [] => some undefA
  | _ => none
def guardC (c : AV) (want : Bool) (S : St) (r : R) : R := match c with
  | .bool b => bif b == want then r else some (.ret undefA, S)
  | .tup [] => some (.ret undefA, S)
  | _ => none

def yieldedA (all : Array Oper) (e : Env) (j : Nat) : AV :=
  match (all[j]?).bind (·.dst) with
  | some d => e.t d
  | none => .junk

/-- One operation, with its guard; a 'defer' goes into the frame. -/
def doOp (X : Ctx) (all : Array Oper) (o : Oper) (e : Env) (S : St) (kp : AV → St → R) (k : Env → St → R) : R :=
  match o.op with
  | .defer c => match o.guard, c.callee, X.round with
    | none, .value f, false => match e.ev f with
      | .func g a b => k ({ e with d := .call (.func g a b) (c.args.toList.map e.ev) :: e.d }.put o.dst undefA) S
      | _ => none
    | _, _, _ => none
  | op => bif isPure op then
      bindP (match o.guard with
        | none => pureOp X.P op e S
        | some (j, want) => guardP (yieldedA all e j) want (pureOp X.P op e S)) fun v => k (e.put o.dst v) S
    else bindC (match o.guard with
        | none => actOp X op o.dst e S
        | some (j, want) => guardC (yieldedA all e j) want S (actOp X op o.dst e S)) kp fun v S' => k (e.put o.dst v) S'

def runOps (X : Ctx) (all : Array Oper) : List Oper → Env → St → (AV → Env → St → R) → (Env → St → R) → R
  | [], e, S, _, k => k e S
  | o :: rest, e, S, kp, k => doOp X all o e S (fun v S => kp v e S) fun e S => runOps X all rest e S kp k

mutual
def same : AV → AV → Bool
  | .bool a, .bool b => a == b
  | .int k a, .int k' b => decide (k = k') && a == b
  | .str a, .str b => a == b
  | .ptr o a, .ptr o' b => Nat.beq o o' && Nat.beq a b
  | .nilptr, .nilptr => true
  | .eptr r a, .eptr r' b => sameL r r' && Nat.beq a b
  | .lst st sz rows, .lst st' sz' rows' => decide (st = st') && Nat.beq sz sz' && sameL rows rows'
  | .sl o a l c z, .sl o' a' l' c' z' => Nat.beq o o' && Nat.beq a a' && Nat.beq l l' && c == c' && Nat.beq z z'
  | .map o, .map o' => Nat.beq o o'
  | .nilmap, .nilmap => true
  | .func f a c, .func f' a' c' => Nat.beq f f' && sameL a a' && sameL c c'
  | .yld o, .yld o' => Nat.beq o o'
  | .nilfunc, .nilfunc => true
  | .iface t v, .iface t' v' => Nat.beq t t' && same v v'
  | .niliface, .niliface => true
  | .agg a, .agg b => sameL a b
  | .tup a, .tup b => sameL a b
  | _, _ => false
def sameL : List AV → List AV → Bool
  | [], [] => true
  | a :: as, b :: bs => same a b && sameL as bs
  | _, _ => false
end

/- A region that draws its order -/

/-- Operations that are done in one order whatever the schedule: all that turn the state. -/
def movable (X : Ctx) (o : Oper) : Bool :=
  match o.op with
  | .defer _ => false
  | .call { callee := .value (.func f), .. } => X.pure f
  | .buildSlice .. => match o.dst with | some d => !X.own d | none => true
  | op => isPure op

def reads : Op → Bool
  | .load .. | .lookup .. | .convert .. => true
  | .call { callee := .builtin .len, .. } => true
  | _ => false

/-- An operation that makes a variable of zeros: hoisted. -/
def hoisted (o : Oper) : Bool :=
  match o.op, o.guard with
  | .alloc _, none => true
  | .makeMap _ none, none => true
  | _, _ => false

structure Seen where
  /-- what an operation that reads read, and how it reads -/
  rd : List (Nat × (St → Option AV) × AV)
  /-- the states ahead of and behind each anchored operation -/
  an : List (Nat × St × St)

def dsts (ops : List Oper) : List Nat := ops.filterMap (·.dst)

def idxOfN (i : Nat) : List Nat → Bool
  | [] => false
  | x :: xs => Nat.beq x i || idxOfN i xs

def tmpsOf (xs : List Operand) : List Nat := xs.filterMap fun | .tmp t => some t | _ => none

/-- The slots that an operation reads. -/
def usesOf (all : Array Oper) (o : Oper) : List Nat :=
  (match o.guard with | some (j, _) => (match (all[j]?).bind (·.dst) with | some d => [d] | none => []) | none => []) ++ tmpsOf o.op.operands.toList

def distinct : List Nat → Bool
  | [] => true
  | x :: xs => !idxOfN x xs && distinct xs

/-- Each slot is written once; what an operation reads is written ahead of it whatever the order, or not here. -/
def slotsOk (ops : Array Oper) (before : Array Nat) : Bool :=
  distinct (dsts ops.toList) && (ops.toList.zipIdx).all fun (o, i) =>
    Nat.ble (before.getD i 0 + 1) (2 ^ i) && (usesOf ops o).all fun t => (ops.toList.zipIdx).all fun (p, j) => match p.dst with
      | some d => !Nat.beq d t || (before.getD i 0).testBit j || (!hoisted p && (before.getD j 0).testBit i)
      | none => true

/-- Operations that turn the state are done in one order. -/
def anchoredOk (X : Ctx) (ops : List Oper) (before : Array Nat) : Bool :=
  (ops.zipIdx).all fun (o, j) => movable X o || hoisted o || (ops.take j).zipIdx.all fun (p, i) => movable X p || hoisted p || (before.getD j 0).testBit i

def hoist (X : Ctx) (all : Array Oper) : List Oper → Env → St → (Env → St → R) → R
  | [], e, S, k => k e S
  | o :: rest, e, S, k => bif hoisted o then bindC (actOp X o.op o.dst e S) (fun _ _ => none) fun v S => hoist X all rest (e.put o.dst v) S k
    else hoist X all rest e S k

def unord (before : Array Nat) (i j : Nat) : Bool := !(before.getD j 0).testBit i && !(before.getD i 0).testBit j

def checkReads (before : Array Nat) (s : Seen) : Bool :=
  s.rd.all fun (i, f, v) => s.an.all fun (j, S, S') => !unord before i j || ((match f S with | some u => same u v | none => false) && (match f S' with | some u => same u v | none => false))

/-- Behind a panic at the operation j: all that does not hang on it would have gone well. -/
def restFine (X : Ctx) (all : Array Oper) (before : Array Nat) (j : Nat) : List Oper → Nat → Env → St → Bool
  | [], _, _, _ => true
  | o :: rest, l, e, S =>
    bif (before.getD l 0).testBit j || hoisted o then restFine X all before j rest (l + 1) e S
    else bif isPure o.op && !reads o.op then
      match (match o.guard with | none => pureOp X.P o.op e S | some (i, want) => guardP (yieldedA all e i) want (pureOp X.P o.op e S)) with
      | some v => restFine X all before j rest (l + 1) (e.put o.dst v) S
      | none => false
    else false

def idxOf (i : Nat) : List Nat → Nat → Option Nat
  | [], _ => none
  | x :: xs, n => bif Nat.beq x i then some n else idxOf i xs (n + 1)

def memN (i : Nat) : List Nat → Bool
  | [] => false
  | x :: xs => Nat.beq x i || memN i xs

/-- The slots behind a place where ways meet: those that are carried, those that were written and are forgotten, and all others as they were. -/
def mkEnv (e : Env) (carried wr : List Nat) (vals : List AV) : Env :=
  { e with t := fun i => match idxOf i carried 0 with
    | some j => vals.getD j .junk
    | none => bif memN i wr then .junk else e.t i }

/-- What a call that is run apart reads of the state. -/
def lentArgs (args : List AV) (S : St) : Option AV :=
  match shutL args with
  | some _ => some .nilptr
  | none => (freezeL .unk S args).bind fun a => (freezeL .lent S args).map fun b => .tup [.tup a, .tup b]

def drawOps (X : Ctx) (all : Array Oper) (before : Array Nat) : List Oper → Nat → Env → St → Seen → (AV → Env → St → R) → (Env → St → R) → R
  | [], _, e, S, s, _, k => bif checkReads before s then k e S else none
  | o :: rest, i, e, S, s, kp, k =>
    bif hoisted o then drawOps X all before rest (i + 1) e S s kp k
    else bif isPure o.op then
      let f (S : St) : Option AV := match o.guard with
        | none => pureOp X.P o.op e S
        | some (j, want) => guardP (yieldedA all e j) want (pureOp X.P o.op e S)
      bindP (f S) fun v => drawOps X all before rest (i + 1) (e.put o.dst v) S (bif reads o.op then { s with rd := (i, f, v) :: s.rd } else s) kp k
    else doOp X all o e S
      (fun v S' => bif !movable X o && checkReads before s && restFine X all before i rest (i + 1) e S then kp v e S' else none)
      fun e' S' => drawOps X all before rest (i + 1) e' S' (bif movable X o then (match o.op with
          | .call c => { s with rd := (i, lentArgs (c.args.toList.map e.ev), (lentArgs (c.args.toList.map e.ev) S).getD .junk) :: s.rd }
          | _ => s) else { s with an := (i, S, S') :: s.an }) kp k

def drawRegion (X : Ctx) (ops : Array Oper) (e : Env) (S : St) (kp : AV → Env → St → R) (k : Env → St → R) : R :=
  let before := Region.before ops
  bif slotsOk ops before && anchoredOk X ops.toList before then
    hoist X ops ops.toList e S fun e1 S => drawOps X ops before ops.toList 0 e1 S ⟨[], []⟩ (fun v e' S => kp v { mkEnv e [] (dsts ops.toList) [] with d := e'.d } S) k
  else none

/- Code -/

def writes : Code → List Nat
  | .region _ ops _ => ops.toList.filterMap (·.dst)
  | .seq a b | .cond _ a b => writes a ++ writes b
  | .rangeFunc _ ps a b => ps.toList ++ writes a ++ writes b
  | .block _ a | .loop a | .scope a => writes a
  | _ => []

def firstRegion : Code → Option Nat
  | .region n _ _ => some n
  | .seq a b | .cond _ a b => (firstRegion a).orElse fun _ => firstRegion b
  | .block _ a | .loop a | .scope a => firstRegion a
  | _ => none

/-- How often code runs off its end, at most (counted to 2), and how often it leaves by a block's number. -/
def exitsTo (id : Nat) : Code → Nat
  | .exit j => bif Nat.beq j id then 1 else 0
  | .seq a b | .cond _ a b => exitsTo id a + exitsTo id b
  | .block _ a | .loop a | .scope a => exitsTo id a
  | .rangeFunc _ _ _ b => exitsTo id b
  | _ => 0

def ends : Code → Nat
  | .skip | .region .. | .label _ => 1
  | .seq a b => ends a * ends b
  | .cond _ a b => ends a + ends b
  | .block id a => ends a + exitsTo id a
  | .loop _ | .exit _ | .goto _ | .ret | .refuse _ => 0
  | .rangeFunc .. => 1
  | .scope a => ends a + 1

def Join (f : List AV → St → R) (vals : List AV) (S : St) : R := f vals S

def loopN (b : List AV → List ADef → St → (List AV → List ADef → St → R) → R) : Nat → List AV → List ADef → St → R
  | 0, _, _, _ => none
  | n + 1, vals, d, S => b vals d S (loopN b n)

def loop1 (b : List AV → St → (List AV → St → R) → R) : Nat → List AV → St → R
  | 0, _, _ => none
  | n + 1, vals, S => b vals S (loop1 b n)

mutual
def refsLt (n : Nat) : AV → Bool
  | .ptr o _ => Nat.blt o n
  | .eptr r _ => refsLtL n r
  | .lst (.opn _ _) _ rows => refsLtL n rows
  | .lst _ _ rows => refsLtL n rows
  | .sl o _ _ _ _ => Nat.blt o n
  | .map o => Nat.blt o n
  | .func _ a c => refsLtL n a && refsLtL n c
  | .yld o => Nat.blt o n
  | .iface _ v => refsLt n v
  | .agg cs => refsLtL n cs
  | .tup vs => refsLtL n vs
  | _ => true
def refsLtL (n : Nat) : List AV → Bool
  | [] => true
  | v :: vs => refsLt n v && refsLtL n vs
end

def objLt (n : Nat) : AObj → Bool
  | .cells cs => refsLtL n cs
  | .map es _ => es.all fun e => refsLt n e.1 && refsLt n e.2.1
  | .loop _ => false
  | .iter m _ _ _ => match m with | some o => Nat.blt o n | none => true
  | _ => true

/-- At a loop's head objects that nothing names any more go. -/
def refsLtD (n : Nat) : List ADef → Bool
  | [] => true
  | .mark o :: ds => Nat.blt o n && refsLtD n ds
  | .call f args :: ds => refsLt n f && refsLtL n args && refsLtD n ds

def gcHead (gc : Bool) (n : Nat) (d : List ADef) (vals : List AV) (S : St) : St :=
  bif gc && refsLtL n vals && refsLtD n d && (S.objs.take n).all (objLt n) && (match S.pan with | none => true | some (v, _) => refsLt n v) then { S with objs := S.objs.take n } else S

def sameD : List ADef → List ADef → Bool
  | [], [] => true
  | .mark o :: a, .mark o' :: b => Nat.beq o o' && sameD a b
  | .call f x :: a, .call f' x' :: b => same f f' && sameL x x' && sameD a b
  | _, _ => false

def isDefer : Op → Bool
  | .defer _ => true
  | _ => false

/-- No 'defer' in it, and no range over a function. -/
def noDef : Code → Bool
  | .region _ ops _ => ops.toList.all fun o => !isDefer o.op
  | .seq a b | .cond _ a b => noDef a && noDef b
  | .block _ a | .loop a | .scope a => noDef a
  | .rangeFunc .. => false
  | _ => true

def jumpOf (K : Kont) (e : Env) (S : St) : Option Code → R
  | none => K.normal e S
  | some .ret => K.ret e S
  | some (.exit i) => K.exit i e S
  | some (.goto l) => K.goto l e S
  | _ => none

/-- Whether a label is on the spine of code. -/
def onSpine (l : Nat) : Code → Bool
  | .seq a b => onSpine l a || onSpine l b
  | .label l' => Nat.beq l' l
  | _ => false

mutual
def runCode (X : Ctx) : Code → Env → St → Kont → R
  | .skip, e, S, K => K.normal e S
  | .label _, e, S, K => K.normal e S
  | .ret, e, S, K => K.ret e S
  | .exit i, e, S, K => K.exit i e S
  | .goto l, e, S, K => K.goto l e S
  | .refuse _, _, _, _ => none
  | .region _ ops draw, e, S, K => bif draw then drawRegion X ops e S K.panic K.normal else runOps X ops ops.toList e S K.panic K.normal
  | .cond c a b, e, S, K => match e.ev c with
    | .bool true => runCode X a e S K
    | .bool false => runCode X b e S K
    | _ => none
  | .seq a b, e, S, K => bif Nat.ble (ends a) 1 then runCode X a e S { K with normal := fun e S => runCode X b e S K }
    else bif noDef a then runCode X a e S { K with normal := fun e' S => bif sameD e'.d e.d then Join (fun vals S => runCode X b (mkEnv e (X.ann ((firstRegion a).getD 0)) (writes a) vals) S K) ((X.ann ((firstRegion a).getD 0)).map e'.t) S else none }
    else runCode X a e S { K with normal := fun e' S => Join (fun vals S => runCode X b { mkEnv e (X.ann ((firstRegion a).getD 0)) (writes a) vals with d := e'.d } S K) ((X.ann ((firstRegion a).getD 0)).map e'.t) S }
  | .block id a, e, S, K => runCode X a e S { K with exit := fun j e S => bif Nat.beq j id then K.normal e S else K.exit j e S }
  | .loop a, e, S, K =>
    bif noDef a then
      loop1 (fun vals S' k => runCode X a (mkEnv e (X.ann ((firstRegion a).getD 0)) (writes a) vals) (gcHead X.gc S.objs.length e.d vals S')
        { K with normal := fun e' S' => bif sameD e'.d e.d then k ((X.ann ((firstRegion a).getD 0)).map e'.t) S' else none }) X.N ((X.ann ((firstRegion a).getD 0)).map e.t) S
    else loopN (fun vals d S' k => runCode X a { mkEnv e (X.ann ((firstRegion a).getD 0)) (writes a) vals with d := d } (gcHead X.gc S.objs.length d vals S')
      { K with normal := fun e' S' => k ((X.ann ((firstRegion a).getD 0)).map e'.t) e'.d S' }) X.N ((X.ann ((firstRegion a).getD 0)).map e.t) e.d S
  | .scope a, e, S, K => runCode X a e S { K with goto := fun l e S => fromLabel X l a e S { K with goto := fun _ _ _ => none } }
  | .rangeFunc f params assign body, e, S, K =>
    bif X.round then none else
      let l : ALoop := { state := .ready, pend := none, fn := X.fn, env := e.t, params := params.toList, assign, body, defers := S.objs.length }
      let S1 := (S.push (.dfr false)).push (.loop l)
      let e1 : Env := { e with d := .mark S.objs.length :: e.d }
      bindC (callV X (e.ev f) [.yld (S.objs.length + 1)] S1) (fun v S2 => K.panic v e1 S2) fun _ S2 =>
        match S2.objs[S.objs.length + 1]? with
        | some (.loop l2) => match l2.state with
          | .busy => none
          | _ => jumpOf K e1 (S2.setObj (S.objs.length + 1) (.loop { l2 with state := .exhausted })) l2.pend
        | _ => none

/-- The code behind a label. -/
def fromLabel (X : Ctx) (l : Nat) : Code → Env → St → Kont → R
  | .seq a b, e, S, K => bif onSpine l a then fromLabel X l a e S { K with normal := fun e S => runCode X b e S K } else fromLabel X l b e S K
  | .label l', e, S, K => bif Nat.beq l' l then K.normal e S else none
  | _, _, _, _ => none
end

/- Functions -/

structure Cfg where
  P : Program
  foreign : FuncId → Option (List AV → St → R)
  ann : FuncId → Nat → List Nat
  own : FuncId → Nat → Bool
  pure : FuncId → FuncId → Bool
  gc : FuncId → Bool
  N : Nat

structure Oracles extends Oracle where
  dcall : FuncId → List AV → St → R

def Cfg.ctx (C : Cfg) (κ : Oracle) (f : FuncId) (dk round : Bool) : Ctx :=
  { P := C.P, κ, fn := f, own := C.own f, ann := C.ann f, pure := C.pure f, N := C.N, dk, round, gc := C.gc f }

def resultA (P : Program) (e : Env) (S : St) : ResultVar → Option AV
  | .tmp t => some (e.t t)
  | .cell a t => bif (P.underlying t).isSome then oLoad (sizeT P t) (isAggT P t) S (e.t a) else none

def resultsA (P : Program) (e : Env) (S : St) : List ResultVar → Option (List AV)
  | [] => some []
  | r :: rs => (resultA P e S r).bind fun v => (resultsA P e S rs).map (v :: ·)

def finish (P : Program) (κ : Oracles) (res : List ResultVar) : List ADef → Env → St → R
  | [], e, S => (resultsA P e S res).map fun vs => (.ret (match vs with | [v] => v | vs => .tup vs), S)
  | .mark o :: ds, e, S => match S.objs[o]? with
    | some (.dfr false) => finish P κ res ds e (S.setObj o (.dfr true))
    | _ => none
  | .call (.func f a c) args :: ds, e, S => match κ.dcall f (a ++ args ++ c) { S with pan := none } with
    | some (.ret _, S') => finish P κ res ds e { S' with pan := S.pan }
    | _ => none
  | _, _, _ => none

def unwindA (P : Program) (κ : Oracles) (res : List ResultVar) (v : AV) : List ADef → Env → St → R
  | [], _, S => some (.panic v, S)
  | .mark o :: ds, e, S => match S.objs[o]? with
    | some (.dfr false) => unwindA P κ res v ds e (S.setObj o (.dfr true))
    | _ => none
  | .call (.func f a c) args :: ds, e, S => match κ.dcall f (a ++ args ++ c) { S with pan := some (v, false) } with
    | some (.ret _, S') => match S'.pan with
      | some (_, true) => finish P κ res ds e { S' with pan := S.pan }
      | some (_, false) => unwindA P κ res v ds e { S' with pan := S.pan }
      | none => none
    | _ => none
  | _, _, _ => none

def envOf (args : List AV) : Env := ⟨fun i => args.getD i undefA, []⟩

def fitsN (n : Nat) (c : Code) : Bool := (writes c).all fun d => Nat.blt d n

def runF (C : Cfg) (κ : Oracles) (dk : Bool) (f : FuncId) (args : List AV) (S : St) : R :=
  match C.foreign f with
  | some g => bif dk then none else g args S
  | none => match C.P.funcs[f]? with
    | none => none
    | some fn => match fn.body with
      | none => none
      | some c => bif fitsN fn.ntmps c && Nat.ble args.length fn.ntmps then
          runCode (C.ctx κ.toOracle f dk false) c (envOf args) S
            { normal := fun e S => finish C.P κ fn.results.toList e.d e S
              ret := fun e S => finish C.P κ fn.results.toList e.d e S
              exit := fun _ _ _ => none
              goto := fun _ _ _ => none
              panic := fun v e S => unwindA C.P κ fn.results.toList v e.d e S }
        else none

def endRoundA (o : Nat) (jump : Option Code) (S : St) : R :=
  match S.objs[o]? with
  | some (.loop l) => some (.ret (.bool jump.isNone), S.setObj o (.loop { l with state := bif jump.isNone then .ready else .done, pend := jump }))
  | _ => none

def setAll : List Nat → List AV → (Nat → AV) → Nat → AV
  | t :: ts, a :: as, e => setAll ts as (fun j => bif Nat.beq j t then a else e j)
  | _, _, e => e

def runY (C : Cfg) (κ : Oracle) (o : Nat) (args : List AV) (S : St) : R :=
  match S.objs[o]? with
  | some (.loop l) =>
    bif Nat.beq args.length l.params.length && (C.P.funcs[l.fn]?).isSome then
      let X := C.ctx κ l.fn false true
      let fin (j : Option Code) : Env → St → R := fun _ S => endRoundA o j S
      runCode X l.assign ⟨setAll l.params args l.env, []⟩ S
        { normal := fun e S => match S.objs[o]? with
            | some (.loop l') => match l'.state with
              | .ready => runCode X l.body e (S.setObj o (.loop { l' with state := .busy }))
                { normal := fin none, ret := fin (some .ret), exit := fun i => fin (some (.exit i)), goto := fun i => fin (some (.goto i)), panic := fun v e S => match e.d with | [] => some (.panic v, S) | _ => none }
              | _ => none
            | _ => none
          ret := fun _ _ => none, exit := fun _ _ _ => none, goto := fun _ _ _ => none, panic := fun _ _ _ => none }
    else none
  | _ => none

def run (C : Cfg) : Nat → Oracles
  | 0 => { call := fun _ _ _ => none, yld := fun _ _ _ => none, dcall := fun _ _ _ => none }
  | n + 1 =>
    { call := fun f args S => runF C (run C n) false f args S
      yld := fun o args S => runY C (run C n).toOracle o args S
      dcall := fun f args S => runF C (run C n) true f args S }

/- Functions that are not run: what they come to -/

def fRepeat : List AV → St → R
  | [.str s, .int .i64 n], S => bif decide (0 ≤ n) && Nat.ble (s.length * n.toNat) 1048576 && Nat.ble n.toNat 1048576 then some (.ret (.str (List.replicate n.toNat s).flatten), S) else none
  | _, _ => none

def intRows : List AV → Option (List Int)
  | [] => some []
  | .agg [.int .i64 n] :: rest => (intRows rest).map (n :: ·)
  | _ => none

def intsOf (S : St) (v : AV) : Option (List Int) := (rowsOf S 1 v).bind intRows

def insertI (n : Int) : List Int → List Int
  | [] => [n]
  | m :: l => bif decide (n < m) then n :: m :: l else bif n == m then m :: l else m :: insertI n l

/-- Ascending, each once. -/
def sortI (l : List Int) : List Int := l.foldr insertI []

def ofInts (l : List Int) : AV := .lst .unk 1 (l.map fun n => .agg [.int .i64 n])

/-- slices.Clone at rows of 'sz' cells: whether the result is nil is not told. -/
def fClone (own : Bool) (sz bytes : Nat) : List AV → St → R
  | [v], S => (rowsOf S sz v).bind fun rows => match rows with
    | [] => some (.ret (.lst .unk sz []), S)
    | _ => okv (oAppend own sz bytes S (.lst .exact sz []) rows)
  | _, _ => none

def fMeet : List AV → St → R
  | [a, b], S => (intsOf S a).bind fun a => (intsOf S b).map fun b => (.ret (ofInts (sortI (a.filter fun n => b.contains n))), S)
  | _, _ => none

def allInts (S : St) : List AV → Option (List Int)
  | [] => some []
  | .agg [v] :: rest => (intsOf S v).bind fun a => (allInts S rest).map (a ++ ·)
  | _ => none

def fUnion : List AV → St → R
  | [l], S => (rowsOf S 1 l).bind fun rows => (allInts S rows).map fun l => (.ret (ofInts (sortI l)), S)
  | _, _ => none

def keyIn (k : AV) (l : List AV) : Option Bool := match l with
  | [] => some false
  | x :: xs => (keyEq k x).bind fun b => (keyIn k xs).map fun c => b || c

def keepKeys (l : List AV) : List (AV × AV × Nat) → Option (List (AV × AV × Nat))
  | [] => some []
  | e :: es => (keyIn e.1 l).bind fun b => (keepKeys l es).map fun es => bif b then e :: es else es

def fKeep : List AV → St → R
  | [.nilptr, _], S => some (.ret undefA, S)
  | [.ptr o off, l], S => (rowsOf S 3 l).bind fun rows => match readAt S (.ptr o off) 1 with
    | some [.map m] => match S.objs[m]? with
      | some (.map es clock) => (keepKeys rows es).map fun es => (.ret undefA, S.setObj m (.map es clock))
      | _ => none
    | _ => none
  | _, _ => none

end Go.Sac
