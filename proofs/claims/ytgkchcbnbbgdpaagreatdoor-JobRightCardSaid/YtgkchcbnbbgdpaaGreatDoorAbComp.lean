/- From the model's code to the abstract machine's: types looked up, orders looked at. -/
import Derived.Test.YtgkchcbnbbgdpaaGreatDoorAbCore
namespace Go.Ab

def ofV1 : Value → AV
  | .bool b => .bool b
  | .int k n => .int k n
  | .string s => .str (s.data.toList.map (·.toNat))
  | .pointer none => .pnil
  | .slice none 0 0 => .snil
  | .map none => .mnil
  | .nilFunc => .fnil
  | .nilIface => .inil
  | _ => .any

def ofV : Value → AV
  | .agg cs => .agg (cs.toList.map ofV1)
  | v => ofV1 v

def opd : Operand → Opd
  | .tmp t => .t t
  | .const v => .k (ofV v)
  | .func f => .k (.fn f [] [])
  | .global _ => .k .any

def bad : CO := .panic (.k .any)

def isAggT (P : Program) (t : TypeId) : Option Bool :=
  match P.underlying t with
  | some (.struct _) => some true
  | some (.array _ _) => some true
  | some _ => some false
  | none => none

def zeroT (P : Program) (t : TypeId) : Option AV :=
  match P.info? t with
  | some i => match i.zero with
    | some v => some (ofV v)
    | none => none
  | none => none

def sizeT (P : Program) (t : TypeId) : Option Nat := (P.info? t).map (·.size)

def kindK (P : Program) (t : TypeId) : Option EqK :=
  match P.underlying t with
  | some (.int _) => some .int
  | some .bool => some .bool
  | some .string => some .str
  | _ => none

/-- The kinds of a struct's fields, one cell each, where they are plain. -/
def kindsF (P : Program) : List Field → Nat → Option (List EqK)
  | [], _ => some []
  | f :: r, i => match f.name != "_" && f.offset == i && sizeT P f.type == some 1, kindK P f.type, kindsF P r (i + 1) with
    | true, some k, some l => some (k :: l)
    | _, _, _ => none

def isKc : Operand → Bool
  | .const _ => true
  | _ => false

def eqC (P : Program) (op : BinOp) (t : TypeId) (x y : Operand) : Option EqC :=
  match P.underlying t with
  | some (.int _) | some .string => some .plain
  | some .bool => some .bool
  | some (.pointer e) => match sizeT P e with
    | some (_ + 1) => some .ptr
    | _ => none
  | some (.interface _) => if isKc x || isKc y then some .ifc else none
  | some (.struct fs) => match P.stoodInHeld t || P.eqGuardType P.depth t, kindsF P fs.toList 0 with
    | false, some ks => some (.strct ks)
    | _, _ => none
  | some (.slice _) => some .slc
  | some (.map _ _) => some .mp
  | some (.func ..) => some .fnc
  | _ => none

def partsS (P : Program) (fs : Array Field) : List (Nat × Operand) → Option (List (Nat × Nat × Opd))
  | [] => some []
  | (i, x) :: r => match fs[i]?, partsS P fs r with
    | some f, some l => match sizeT P f.type with
      | some s => some ((f.offset, s, opd x) :: l)
      | none => none
    | _, _ => none

def partsA (z : Nat) : List (Nat × Operand) → List (Nat × Nat × Opd)
  | [] => []
  | (i, x) :: r => (i * z, z, opd x) :: partsA z r

def cellsT (P : Program) (t : TypeId) : Option (List AV) := (zeroT P t).map AV.cells

def keyT (P : Program) (k : TypeId) : Option EqK :=
  match P.underlying k with
  | some (.int _) => some .int
  | some .string => some .str
  | _ => none

def compCall (P : Program) (c : Call) : Option CO :=
  match c.callee with
  | .value f => some (.call (opd f) (c.args.toList.map opd))
  | .invoke _ _ => none
  | .builtin b =>
    match b, c.argTypes.toList, c.args.toList with
    | .append, [t, u], [s, x] => match P.underlying t, P.underlying u with
      | some (.slice e), some d => match (match d with | .slice _ => true | .string => true | _ => false), P.info? e with
        | true, some i => match i.size, i.zero with
          | z + 1, some v => if v.cells.size = z + 1 then some (.append (z + 1) i.bytes (opd s) (opd x)) else none
          | _, _ => none
        | _, _ => none
      | _, _ => none
    | .len, [t], [x] => match P.underlying t with
      | some .string => some (.lenS (opd x))
      | some (.slice _) => some (.lenL (opd x))
      | some (.map _ _) => some (.lenM (opd x))
      | some (.array n _) => some (.lenK n)
      | _ => none
    | .copy, t :: _, [d, x] => match P.underlying t with
      | some (.slice e) => match sizeT P e with
        | some (z + 1) => some (.copy (z + 1) (opd d) (opd x))
        | _ => none
      | _ => none
    | .min, _, [x, y] => some (.min (opd x) (opd y))
    | .max, _, [x, y] => some (.max (opd x) (opd y))
    | .delete, t :: _, [m, k] => match P.underlying t with
      | some (.map kt _) => (keyT P kt).map fun q => .del q (opd m) (opd k)
      | _ => none
    | .clear, [t], [x] => match P.underlying t with
      | some (.slice e) => match sizeT P e, cellsT P e with
        | some (z + 1), some cs => if cs.length = z + 1 then some (.clear (z + 1) cs (opd x)) else none
        | _, _ => none
      | _ => none
    | .recover, [], [] => some .recov
    | _, _, _ => none

def mxOk (hi mx : Option Operand) : Bool := hi.isSome || mx.isNone

def comp1 (P : Program) (o : Op) : Option CO :=
  match o with
  | .move x | .assign x => some (.mv (opd x))
  | .pick c a b => some (.pick (opd c) (opd a) (opd b))
  | .alloc e => (cellsT P e).map .alloc
  | .box _ x => some (.box (opd x))
  | .build t parts => match P.underlying t, cellsT P t with
    | some (.struct fs), some z => if fs.toList.all (fun f => (sizeT P f.type).isSome) then (partsS P fs parts.toList).map (.build z) else none
    | some (.array _ e), some z => (sizeT P e).map fun s => .build z (partsA s parts.toList)
    | _, _ => none
  | .buildSlice t n parts => match P.underlying t with
    | some (.slice e) => match sizeT P e, cellsT P e with
      | some (z + 1), some cs => if cs.length = z + 1 ∧ n * (z + 1) ≤ 2 ^ 24 then some (.bslice n (z + 1) (repA n cs) (partsA (z + 1) parts.toList)) else none
      | _, _ => none
    | _ => none
  | .load t a => match sizeT P t, isAggT P t with
    | some s, some g => some (.load s g (opd a))
    | _, _ => none
  | .store t a x => (sizeT P t).map fun s => .store s (opd a) (opd x)
  | .nilCheck x => some (.nilc (opd x))
  | .binOp op t x y _ => (eqC P op t x y).map fun c => .bin op c (opd x) (opd y)
  | .unOp op _ x => some (.un op (opd x))
  | .convert src dst x => match P.underlying src, P.underlying dst with
    | some _, some (.int k) => some (.conv k (opd x))
    | some .string, some .string => some (.convS (opd x))
    | some (.slice e), some .string => match P.underlying e with
      | some (.int .u8) => some (.ofBytes (opd x))
      | _ => none
    | _, _ => none
  | .makeInterface t x => match P.underlying t with
    | some (.interface _) => none
    | some _ => some (.mkIfc t (opd x))
    | none => none
  | .makeFunc (.func f) fst cap => some (.mkFn f (fst.toList.map opd) (cap.toList.map opd))
  | .makeMap _ none => some .mkMap
  | .makeSlice t l c => match P.underlying t with
    | some (.slice e) => match P.info? e, cellsT P e with
      | some i, some cs => match i.size with
        | z + 1 => if cs.length = z + 1 then some (.mkSl (z + 1) i.bytes cs (opd l) (opd c)) else none
        | 0 => none
      | _, _ => none
    | _ => none
  | .slice t x lo hi mx => match P.underlying t with
    | some (.array n e) => match sizeT P e with
      | some (z + 1) => some (.slArr n (z + 1) (opd x) (lo.map opd) (hi.map opd) (mx.map opd))
      | _ => none
    | some .string => match mx with
      | none => some (.slStr (opd x) (lo.map opd) (hi.map opd))
      | some _ => none
    | some (.slice e) => match sizeT P e, mxOk hi mx with
      | some (z + 1), true => some (.sl (z + 1) (opd x) (lo.map opd) (hi.map opd) (mx.map opd))
      | _, _ => none
    | _ => none
  | .fieldAddr t x f => match P.underlying t with
    | some (.struct fs) => match fs[f]? with
      | some fd => match sizeT P fd.type with
        | some (_ + 1) => some (.fieldA fd.offset (opd x))
        | _ => none
      | none => none
    | _ => none
  | .field t x f => match P.underlying t with
    | some (.struct fs) => match fs[f]? with
      | some fd => match sizeT P fd.type, isAggT P fd.type with
        | some s, some g => some (.field fd.offset s g (opd x))
        | _, _ => none
      | none => none
    | _ => none
  | .indexAddr t x i => match P.underlying t with
    | some (.array n e) => (sizeT P e).map fun z => .idxArr n z (opd x) (opd i)
    | some (.slice e) => match sizeT P e with
      | some (z + 1) => some (.idxSl (z + 1) (opd x) (opd i))
      | _ => none
    | _ => none
  | .index t x i => match P.underlying t with
    | some (.array n e) => match sizeT P e, isAggT P e with
      | some z, some g => some (.ixAgg n z z g (opd x) (opd i))
      | _, _ => none
    | some .string => some (.ixStr (opd x) (opd i))
    | _ => none
  | .lookup t x k ok => match P.underlying t with
    | some (.map kt e) => match keyT P kt, zeroT P e with
      | some q, some z => some (.look q z (opd x) (opd k) ok)
      | _, _ => none
    | _ => none
  | .mapUpdate t m k x | .insert t m k x => match P.underlying t with
    | some (.map kt _) => (keyT P kt).map fun q => .upd q (opd m) (opd k) (opd x)
    | _ => none
  | .extract t i => some (.ext i (opd t))
  | .typeAssert x _ a ok => match P.underlying a with
    | some (.interface _) => none
    | some _ => (zeroT P a).map fun z => .tass a z ok (opd x)
    | none => none
  | .call c => compCall P c
  | .defer c => match c.callee with
    | .value f => some (.defer (opd f) (c.args.toList.map opd))
    | _ => none
  | .panic x => some (.panic (opd x))
  | _ => none

def dstOk (N : Nat) : Option Nat → Bool
  | some d => Nat.blt d N
  | none => true

def compOp (P : Program) (N : Nat) (ops : Array Oper) (o : Oper) : Option CR :=
  match dstOk N o.dst with
  | false => none
  | true => match o.guard with
    | none => some { dst := o.dst, op := (comp1 P o.op).getD bad, guard := none, win := [] }
    | some (g, want) => match (ops[g]?).bind (·.dst) with
      | some d => some { dst := o.dst, op := (comp1 P o.op).getD bad, guard := some (d, want), win := [] }
      | none => none

def compOps (P : Program) (N : Nat) (ops : Array Oper) : List Oper → Option (List CR)
  | [] => some []
  | o :: r => match compOp P N ops o, compOps P N ops r with
    | some c, some l => some (c :: l)
    | _, _ => none

/-! Orders: of each operation the ones that must stand ahead, as bits. -/

def befOf (done : List Nat) (o : Oper) : Nat :=
  o.after.toList.foldl (fun m e => if Region.binds .any e then m ||| 2 ^ e.on ||| done.getD e.on 0 else m) 0

def befs : List Oper → List Nat → List Nat
  | [], done => done
  | o :: r, done => befs r (done ++ [befOf done o])

def looksC (c : CR) : List Nat := c.op.slots ++ (match c.guard with | some (d, _) => [d] | none => [])

def hasN (d : Nat) : List Nat → Bool
  | [] => false
  | x :: r => match Nat.beq d x with
    | true => true
    | false => hasN d r

def apartC (x y : CR) : Bool :=
  (match x.dst with | some d => !hasN d (looksC y) && !sameN y.dst (some d) | none => true) &&
  (match y.dst with | some d => !hasN d (looksC x) | none => true)

structure DI where
  o : Oper
  c : CR
  bef : Nat
  i : Nat

def zipDI : List Oper → List CR → List Nat → Nat → List DI
  | o :: os, c :: cs, b :: bs, i => ⟨o, c, b, i⟩ :: zipDI os cs bs (i + 1)
  | _, _, _, _ => []

def isMakes (o : CR) : Bool := match o.op.cl with | .makes => true | _ => false
def isPure (o : CR) : Bool := match o.op.cl with | .pure => true | _ => false

/-- The order in which a region is gone through: what acts in the text's order, all the rest as late as may be. -/
def place : List DI → List DI → List DI
  | [], rem => rem
  | q :: qs, rem => rem.filter (fun x => q.bef.testBit x.i) ++ q :: place qs (rem.filter fun x => !q.bef.testBit x.i)

def reorder (l : List DI) : List DI := place (l.filter fun x => isActs x.c) (l.filter fun x => !isActs x.c)

def all1 (f : Nat → DI → Bool) : List DI → Nat → Bool
  | [], _ => true
  | y :: r, k => match f k y with
    | true => all1 f r (k + 1)
    | false => false

def all2 (f : Nat → Nat → DI → DI → Bool) : List DI → Nat → Bool
  | [], _ => true
  | x :: r, j => match all1 (fun k y => f j k x y) r (j + 1) with
    | true => all2 f r (j + 1)
    | false => false

def isTwo : Option (Nat × Nat) → Nat → Nat → Bool
  | some (a, b), j, k => Nat.beq a j && Nat.beq b k
  | none, _, _ => false

def pairOk (two : Option (Nat × Nat)) (j k : Nat) (x y : DI) : Bool :=
  !x.bef.testBit y.i && !Nat.beq x.i y.i &&
  (y.bef.testBit x.i || (apartC x.c y.c && (!(isActs x.c && isActs y.c) || isTwo two j k) && !(isMakes x.c && isActs y.c)))

def actPos : List DI → Nat → List (Nat × DI)
  | [], _ => []
  | x :: r, j => match isActs x.c with
    | true => (j, x) :: actPos r (j + 1)
    | false => actPos r (j + 1)

def isStore (x : CR) : Bool := (match x.op with | .store .. => true | _ => false) && x.guard.isNone

def restOk (x y : DI) (j k a : Nat) (e : DI) : Bool := isPure e.c || Nat.beq a j || Nat.beq a k || (x.bef.testBit e.i && y.bef.testBit e.i)

/-- The last two that act, where they are stores in either order and all that has to do with memory stands ahead of both. -/
def twoOf (l : List DI) : Option (Nat × Nat) :=
  match (actPos l 0).reverse with
  | (k, y) :: (j, x) :: _ => match y.bef.testBit x.i with
    | true => none
    | false => some (j, k)
  | _ => none

def twoChk (l : List DI) : Option (Nat × Nat) → Bool
  | none => true
  | some (j, k) => match l[j]?, l[k]? with
    | some x, some y => Nat.blt j k && isStore x.c && isStore y.c && all1 (restOk x y j k) l 0
    | _, _ => false

def oneOk (x : DI) : Bool :=
  (x.o.after.toList.all fun e => !Region.binds .any e || Nat.blt e.on x.i) &&
  (match x.c.op.cl with | .bars => false | _ => true)

/-- Where what stands at 'k' may be done as well. -/
def winOf (x : DI) (k : Nat) : List DI → Nat → List Nat
  | [], _ => []
  | y :: r, a => match isActs y.c with
    | true => match Nat.blt a k, x.bef.testBit y.i, y.bef.testBit x.i, Nat.beq a k with
      | true, false, _, _ => a :: winOf x k r (a + 1)
      | false, _, false, false => (a + 1) :: winOf x k r (a + 1)
      | _, _, _, _ => winOf x k r (a + 1)
    | false => winOf x k r (a + 1)

def wins (l : List DI) : List DI → Nat → List CR
  | [], _ => []
  | x :: r, k => { x.c with win := winOf x k l 0 } :: wins l r (k + 1)

def covers (l : List DI) : Nat → Bool
  | 0 => true
  | n + 1 => l.any (fun e => Nat.beq e.i n) && covers l n

def chkD (n : Nat) (l : List DI) (two : Option (Nat × Nat)) : Bool :=
  Nat.beq l.length n && covers l n && l.all oneOk && all2 (pairOk two) l 0 && twoChk l two

def stuckC : CC := .cond (.k .any) .skip .skip

def drawL (n : Nat) (l : List DI) (two : Option (Nat × Nat)) : CC :=
  match chkD n l two with
  | true => .draw (wins l l 0) two
  | false => stuckC

def compDraw (P : Program) (N : Nat) (ops : Array Oper) : CC :=
  match compOps P N ops ops.toList with
  | none => stuckC
  | some cs => drawL ops.size (reorder (zipDI ops.toList cs (befs ops.toList []) 0)) (twoOf (reorder (zipDI ops.toList cs (befs ops.toList []) 0)))

def compC (P : Program) (N : Nat) : Code → CC
  | .skip | .label _ => .skip
  | .region _ ops false => match compOps P N ops ops.toList with
    | some l => .reg l
    | none => stuckC
  | .region _ ops true => compDraw P N ops
  | .seq a b => .seq (compC P N a) (compC P N b)
  | .cond c t e => .cond (opd c) (compC P N t) (compC P N e)
  | .block id b => .block id (compC P N b)
  | .loop b => .loop (compC P N b)
  | .exit id => .exit id
  | .ret => .ret
  | _ => stuckC

def compR (P : Program) : List ResultVar → Option (List (Nat × Option (Nat × Bool)))
  | [] => some []
  | .tmp t :: r => (compR P r).map fun l => (t, none) :: l
  | .cell a t :: r => match sizeT P t, isAggT P t, compR P r with
    | some s, some g, some l => some ((a, some (s, g)) :: l)
    | _, _, _ => none

def comp (P : Program) (f : Func) : Option CFn :=
  match f.body, compR P f.results.toList with
  | some c, some r => if f.name == "runtime.NumGoroutine" then none else some { body := compC P f.ntmps c, ntmps := f.ntmps, results := r }
  | _, _ => none

end Go.Ab
