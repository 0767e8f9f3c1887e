/- The abstract machine: the model's code, made shorter, and an interpreter of it on a heap of its own: no order of evaluation, no capacity, no tape. What it answers, the model's machine answers (AbSound). -/
import Derived.Tactics
namespace Go.Ab

/-- A value on the abstract heap: a block's number is the heap's own. 'any': nothing is known. -/
inductive AV where
  | bool (b : Bool)
  | int (k : IntKind) (n : Int)
  | str (s : List Nat)
  | ptr (b o : Nat)
  | pnil
  | sl (b o len : Nat) (cap : Option Nat) (z : Nat)
  | snil
  | map (b : Nat)
  | mnil
  | fn (f : FuncId) (fst cap : List AV)
  | fnil
  | ifc (t : TypeId) (v : AV)
  | inil
  | agg (cs : List AV)
  | tup (vs : List AV)
  | any
  deriving Inhabited

def AV.cells : AV → List AV
  | .agg cs => cs
  | v => [v]

def undefA : AV := .tup []

structure ME where
  key : AV
  val : AV
  born : Nat

inductive Bk where
  | cells (own : Bool) (cs : List AV)
  | map (es : List ME) (clock : Nat)

/-! A map from numbers, as a tree. -/
inductive Tr (α : Type) where
  | leaf
  | node (l : Tr α) (v : Option α) (r : Tr α)

def Tr.get {α : Type} : Tr α → Nat → Option α
  | .leaf, _ => none
  | .node l v r, n => match n with
    | 0 => v
    | m + 1 => match Nat.beq (m % 2) 0 with
      | true => l.get (m / 2)
      | false => r.get (m / 2)

def Tr.setF {α : Type} : Nat → Tr α → Nat → Option α → Tr α
  | 0, t, _, _ => t
  | f + 1, t, n, x =>
    match t with
    | .leaf => match n with
      | 0 => .node .leaf x .leaf
      | m + 1 => match Nat.beq (m % 2) 0 with
        | true => .node (Tr.setF f .leaf (m / 2) x) none .leaf
        | false => .node .leaf none (Tr.setF f .leaf (m / 2) x)
    | .node l v r => match n with
      | 0 => .node l x r
      | m + 1 => match Nat.beq (m % 2) 0 with
        | true => .node (Tr.setF f l (m / 2) x) v r
        | false => .node l v (Tr.setF f r (m / 2) x)

def Tr.set {α : Type} (t : Tr α) (n : Nat) (x : Option α) : Tr α := Tr.setF (n + 1) t n x

theorem Tr.get_setF {α : Type} : ∀ (f : Nat) (t : Tr α) (n : Nat) (x : Option α) (j : Nat), n < f → (Tr.setF f t n x).get j = if j = n then x else t.get j := by
  intro f
  induction f with
  | zero => intro t n x j h; omega
  | succ f ih =>
    intro t n x j hn
    have hb : ∀ m : Nat, Nat.beq (m % 2) 0 = true ↔ m % 2 = 0 := fun m => by simp [Nat.beq_eq]
    cases n with
    | zero =>
      cases t with
      | leaf => cases j with
        | zero => simp [Tr.setF, Tr.get]
        | succ j => simp only [Tr.setF, Tr.get]; split <;> simp
      | node l v r => cases j with
        | zero => simp [Tr.setF, Tr.get]
        | succ j => simp [Tr.setF, Tr.get]
    | succ m =>
      have hm : m / 2 < f := by omega
      cases t with
      | leaf =>
        simp only [Tr.setF]
        cases hq : Nat.beq (m % 2) 0 with
        | true =>
          cases j with
          | zero => simp [Tr.get]
          | succ j =>
            simp only [Tr.get]
            cases hj : Nat.beq (j % 2) 0 with
            | true =>
              simp only [ih _ _ _ _ hm, Tr.get]
              have h1 := (hb m).1 hq; have h2 := (hb j).1 hj
              by_cases e : j = m
              · subst e; simp
              · rw [if_neg (by omega), if_neg (by omega)]
            | false =>
              have h1 := (hb m).1 hq
              have h2 : j % 2 ≠ 0 := fun h => by rw [(hb j).2 h] at hj; cases hj
              simp only []
              rw [if_neg (by omega)]
        | false =>
          have h1 : m % 2 ≠ 0 := fun h => by rw [(hb m).2 h] at hq; cases hq
          cases j with
          | zero => simp [Tr.get]
          | succ j =>
            simp only [Tr.get]
            cases hj : Nat.beq (j % 2) 0 with
            | true =>
              have h2 := (hb j).1 hj
              simp only []
              rw [if_neg (by omega)]
            | false =>
              have h2 : j % 2 ≠ 0 := fun h => by rw [(hb j).2 h] at hj; cases hj
              simp only [ih _ _ _ _ hm, Tr.get]
              by_cases e : j = m
              · subst e; simp
              · rw [if_neg (by omega), if_neg (by omega)]
      | node l v r =>
        simp only [Tr.setF]
        cases hq : Nat.beq (m % 2) 0 with
        | true =>
          cases j with
          | zero => simp [Tr.get]
          | succ j =>
            simp only [Tr.get]
            cases hj : Nat.beq (j % 2) 0 with
            | true =>
              simp only [ih _ _ _ _ hm]
              have h1 := (hb m).1 hq; have h2 := (hb j).1 hj
              by_cases e : j = m
              · subst e; simp
              · rw [if_neg (by omega), if_neg (by omega)]
            | false =>
              have h1 := (hb m).1 hq
              have h2 : j % 2 ≠ 0 := fun h => by rw [(hb j).2 h] at hj; cases hj
              simp only []
              rw [if_neg (by omega)]
        | false =>
          have h1 : m % 2 ≠ 0 := fun h => by rw [(hb m).2 h] at hq; cases hq
          cases j with
          | zero => simp [Tr.get]
          | succ j =>
            simp only [Tr.get]
            cases hj : Nat.beq (j % 2) 0 with
            | true =>
              have h2 := (hb j).1 hj
              simp only []
              rw [if_neg (by omega)]
            | false =>
              have h2 : j % 2 ≠ 0 := fun h => by rw [(hb j).2 h] at hj; cases hj
              simp only [ih _ _ _ _ hm]
              by_cases e : j = m
              · subst e; simp
              · rw [if_neg (by omega), if_neg (by omega)]

theorem Tr.get_set {α : Type} (t : Tr α) (n : Nat) (x : Option α) (j : Nat) : (t.set n x).get j = if j = n then x else t.get j :=
  Tr.get_setF (n + 1) t n x j (Nat.lt_succ_self n)

theorem Tr.get_set_same {α : Type} (t : Tr α) (n : Nat) (x : Option α) : (t.set n x).get n = x := by rw [Tr.get_set, if_pos rfl]
theorem Tr.get_set_ne {α : Type} (t : Tr α) {n j : Nat} (x : Option α) (h : j ≠ n) : (t.set n x).get j = t.get j := by rw [Tr.get_set, if_neg h]

/-! The heap. -/
structure H where
  next : Nat
  m : Tr Bk

def H.get (h : H) (b : Nat) : Option Bk := h.m.get b
def H.put (h : H) (b : Nat) (x : Option Bk) : H := ⟨h.next, h.m.set b x⟩
def H.new (h : H) (x : Bk) : H := ⟨h.next + 1, h.m.set h.next (some x)⟩

abbrev TS := Tr AV

/-! The code, made shorter: types looked up. -/

/-- An operand: a slot, or a value. -/
inductive Opd where
  | t (n : Nat)
  | k (v : AV)

/-- Kinds of values that are plain. -/
inductive EqK where
  | int | bool | str

/-- What '==' is asked of. -/
inductive EqC where
  | plain | bool | ptr | ifc | strct (ks : List EqK) | slc | mp | fnc

inductive CO where
  | mv (x : Opd)
  | pick (c a b : Opd)
  | alloc (z : List AV)
  | box (x : Opd)
  | build (z : List AV) (parts : List (Nat × Nat × Opd))
  | bslice (n z : Nat) (cs : List AV) (parts : List (Nat × Nat × Opd))
  | load (size : Nat) (agg : Bool) (a : Opd)
  | store (size : Nat) (a x : Opd)
  | nilc (x : Opd)
  | bin (op : BinOp) (c : EqC) (x y : Opd)
  | un (op : UnOp) (x : Opd)
  | conv (k : IntKind) (x : Opd)
  | ofBytes (x : Opd)
  | convS (x : Opd)
  | mkIfc (t : TypeId) (x : Opd)
  | mkFn (f : FuncId) (fst cap : List Opd)
  | mkMap
  | mkSl (z bytes : Nat) (zero : List AV) (l c : Opd)
  | slArr (n z : Nat) (x : Opd) (lo hi mx : Option Opd)
  | slStr (x : Opd) (lo hi : Option Opd)
  | sl (z : Nat) (x : Opd) (lo hi mx : Option Opd)
  | fieldA (off : Nat) (x : Opd)
  | field (off size : Nat) (agg : Bool) (x : Opd)
  | idxArr (n z : Nat) (x i : Opd)
  | idxSl (z : Nat) (x i : Opd)
  | ixAgg (n z size : Nat) (agg : Bool) (x i : Opd)
  | ixStr (x i : Opd)
  | look (q : EqK) (zero : AV) (x k : Opd) (ok : Bool)
  | upd (q : EqK) (m k v : Opd)
  | ext (i : Nat) (x : Opd)
  | tass (a : TypeId) (zero : AV) (ok : Bool) (x : Opd)
  | call (f : Opd) (args : List Opd)
  | append (z bytes : Nat) (s x : Opd)
  | lenS (x : Opd)
  | lenL (x : Opd)
  | lenM (x : Opd)
  | lenK (n : Nat)
  | copy (z : Nat) (d x : Opd)
  | min (x y : Opd)
  | max (x y : Opd)
  | del (q : EqK) (m k : Opd)
  | clear (z : Nat) (zero : List AV) (x : Opd)
  | recov
  | defer (f : Opd) (args : List Opd)
  | panic (x : Opd)

def Opd.sl : Opd → List Nat
  | .t n => [n]
  | .k _ => []

def slOp : Option Opd → List Nat
  | some x => x.sl
  | none => []

def slL : List Opd → List Nat
  | [] => []
  | x :: r => x.sl ++ slL r

def slP : List (Nat × Nat × Opd) → List Nat
  | [] => []
  | (_, _, x) :: r => x.sl ++ slP r

/-- The slots that an operation looks at. -/
def CO.slots : CO → List Nat
  | .mv x => x.sl
  | .pick c a b => c.sl ++ (a.sl ++ b.sl)
  | .alloc _ => []
  | .box x => x.sl
  | .build _ ps => slP ps
  | .bslice _ _ _ ps => slP ps
  | .load _ _ a => a.sl
  | .store _ a x => a.sl ++ x.sl
  | .nilc x => x.sl
  | .bin _ _ x y => x.sl ++ y.sl
  | .un _ x => x.sl
  | .conv _ x => x.sl
  | .ofBytes x => x.sl
  | .convS x => x.sl
  | .mkIfc _ x => x.sl
  | .mkFn _ a c => slL a ++ slL c
  | .mkMap => []
  | .mkSl _ _ _ l c => l.sl ++ c.sl
  | .slArr _ _ x lo hi mx => x.sl ++ (slOp lo ++ (slOp hi ++ slOp mx))
  | .slStr x lo hi => x.sl ++ (slOp lo ++ slOp hi)
  | .sl _ x lo hi mx => x.sl ++ (slOp lo ++ (slOp hi ++ slOp mx))
  | .fieldA _ x => x.sl
  | .field _ _ _ x => x.sl
  | .idxArr _ _ x i => x.sl ++ i.sl
  | .idxSl _ x i => x.sl ++ i.sl
  | .ixAgg _ _ _ _ x i => x.sl ++ i.sl
  | .ixStr x i => x.sl ++ i.sl
  | .look _ _ x k _ => x.sl ++ k.sl
  | .upd _ m k v => m.sl ++ (k.sl ++ v.sl)
  | .ext _ x => x.sl
  | .tass _ _ _ x => x.sl
  | .call f as => f.sl ++ slL as
  | .append _ _ s x => s.sl ++ x.sl
  | .lenS x => x.sl
  | .lenL x => x.sl
  | .lenM x => x.sl
  | .lenK _ => []
  | .copy _ d x => d.sl ++ x.sl
  | .min x y => x.sl ++ y.sl
  | .max x y => x.sl ++ y.sl
  | .del _ m k => m.sl ++ k.sl
  | .clear _ _ x => x.sl
  | .recov => []
  | .defer f as => f.sl ++ slL as
  | .panic x => x.sl

/-- An operation: where its value goes, under which test of a slot it is done, of what reads memory in a region that draws: ahead of which of the region's operations it may be done as well. -/
structure CR where
  dst : Option Nat
  op : CO
  guard : Option (Nat × Bool)
  win : List Nat

inductive CC where
  | skip
  | reg (ops : List CR)
  | draw (ops : List CR) (two : Option (Nat × Nat))   -- two: the last two that act are stores in either order
  | seq (a b : CC)
  | cond (c : Opd) (thn els : CC)
  | block (id : Nat) (body : CC)
  | loop (body : CC)
  | exit (id : Nat)
  | ret

structure CFn where
  body : CC
  ntmps : Nat
  results : List (Nat × Option (Nat × Bool))   -- a slot, or the cell that it leads to: its size, is it an aggregate

structure Cx where
  fn : Nat → Option CFn
  ext : Nat → Option (List AV → H → Option (AV × H))

/-! The operations. -/

def evA (ts : TS) : Opd → AV
  | .t n => match ts.get n with
    | some v => v
    | none => .any
  | .k v => v

inductive St where
  | val (v : AV) (h : H)
  | skip (h : H)
  | call (f : Nat) (args : List AV) (h : H)
  | defer (f : Nat) (args : List AV) (h : H)
  | recov (h : H)
  | pan (v : AV) (h : H)
  | no

def ofO (h : H) : Option AV → St
  | some v => .val v h
  | none => .no

def partA (cs : List AV) (off size : Nat) (agg : Bool) : Option AV :=
  match agg with
  | true => match Nat.ble (off + size) cs.length with
    | true => some (.agg ((cs.drop off).take size))
    | false => none
  | false => cs[off]?

def H.cells (h : H) (b : Nat) : Option (List AV) := match h.get b with | some (.cells _ cs) => some cs | _ => none

def loadA (size : Nat) (agg : Bool) (h : H) (b o : Nat) : Option AV :=
  match h.cells b with
  | some cs => partA cs o size agg
  | none => none

def splice (cs : List AV) (o : Nat) (vs : List AV) : List AV := cs.take o ++ vs ++ cs.drop (o + vs.length)

/-- A value that one cell holds, and that is known. -/
def cellOk : AV → Bool
  | .agg _ | .tup _ | .any => false
  | _ => true

def cellsOk : List AV → Bool
  | [] => true
  | v :: r => match cellOk v with
    | true => cellsOk r
    | false => false

def storeA (h : H) (b o : Nat) (vs : List AV) : Option H :=
  match h.get b with
  | some (.cells true cs) => match Nat.ble (o + vs.length) cs.length, cellsOk vs with
    | true, true => some (h.put b (some (.cells true (splice cs o vs))))
    | _, _ => none
  | _ => none

def isAny : AV → Bool
  | .any => true
  | _ => false

def fillA (ts : TS) (cs : List AV) : List (Nat × Nat × Opd) → Option (List AV)
  | [] => some cs
  | (off, size, x) :: rest =>
    match isAny (evA ts x), Nat.beq (evA ts x).cells.length size, Nat.ble (off + size) cs.length with
    | false, true, true => fillA ts (splice cs off (evA ts x).cells) rest
    | _, _, _ => none

def repA (n : Nat) (z : List AV) : List AV := (List.replicate n z).flatten

def kindEq : IntKind → IntKind → Bool
  | .i8, .i8 | .i16, .i16 | .i32, .i32 | .i64, .i64 | .u8, .u8 | .u16, .u16 | .u32, .u32 | .u64, .u64 => true
  | _, _ => false

def intBin (op : BinOp) (k : IntKind) (x y : Int) : Option AV :=
  match op with
  | .add => some (.int k (k.wrap (x + y)))
  | .sub => some (.int k (k.wrap (x - y)))
  | .mul => some (.int k (k.wrap (x * y)))
  | .quo => if y = 0 then none else some (.int k (k.wrap (x.tdiv y)))
  | .rem => if y = 0 then none else some (.int k (x.tmod y))
  | .and => some (.int k (k.wrap (BitVec.ofInt k.bits x &&& BitVec.ofInt k.bits y).toNat))
  | .or => some (.int k (k.wrap (BitVec.ofInt k.bits x ||| BitVec.ofInt k.bits y).toNat))
  | .xor => some (.int k (k.wrap (BitVec.ofInt k.bits x ^^^ BitVec.ofInt k.bits y).toNat))
  | .andNot => some (.int k (k.wrap (BitVec.ofInt k.bits x &&& ~~~(BitVec.ofInt k.bits y)).toNat))
  | .eql => some (.bool (decide (x = y)))
  | .neq => some (.bool (!decide (x = y)))
  | .lss => some (.bool (decide (x < y)))
  | .leq => some (.bool (decide (x ≤ y)))
  | .gtr => some (.bool (decide (y < x)))
  | .geq => some (.bool (decide (y ≤ x)))
  | _ => none

def listEq : List Nat → List Nat → Bool
  | [], [] => true
  | a :: as, b :: bs => match Nat.beq a b with
    | true => listEq as bs
    | false => false
  | _, _ => false

def eqK : EqK → AV → AV → Option Bool
  | .bool, .bool a, .bool b => some (a == b)
  | .int, .int k a, .int k' b => match kindEq k k' with
    | true => some (decide (a = b))
    | false => none
  | .str, .str a, .str b => some (listEq a b)
  | _, _, _ => none

def eqL : List EqK → List AV → List AV → Option Bool
  | [], [], [] => some true
  | k :: ks, a :: as, b :: bs => match eqK k a b, eqL ks as bs with
    | some x, some y => some (x && y)
    | _, _ => none
  | _, _, _ => none

/-- '==' of what is no number and no string. -/
def equalA (h : H) : EqC → AV → AV → Option Bool
  | .bool, .bool a, .bool b => some (a == b)
  | .strct ks, .agg as, .agg bs => eqL ks as bs
  | .ptr, .ptr b o, .ptr b' o' => match Nat.beq b b' with
    | true => some (Nat.beq o o')
    | false => match h.get b, h.get b' with
      | some (.cells true _), some (.cells true _) => some false
      | _, _ => none
  | .ptr, .pnil, .pnil => some true
  | .ptr, .pnil, .ptr _ _ => some false
  | .ptr, .ptr _ _, .pnil => some false
  | .ifc, .inil, .inil => some true
  | .ifc, .inil, .ifc _ _ => some false
  | .ifc, .ifc _ _, .inil => some false
  | .slc, .snil, .snil => some true
  | .slc, .sl .., .snil => some false
  | .slc, .snil, .sl .. => some false
  | .mp, .mnil, .mnil => some true
  | .mp, .map _, .mnil => some false
  | .mp, .mnil, .map _ => some false
  | .fnc, .fnil, .fnil => some true
  | .fnc, .fn .., .fnil => some false
  | .fnc, .fnil, .fn .. => some false
  | _, _, _ => none

def maxRow : Nat := 1099511627776

def isEq : BinOp → Option Bool
  | .eql => some true
  | .neq => some false
  | _ => none

def strBin (op : BinOp) (a b : List Nat) : Option AV :=
  match op with
  | .add => match Nat.ble (a.length + b.length) maxRow with
    | true => some (.str (a ++ b))
    | false => none
  | .eql => some (.bool (listEq a b))
  | .neq => some (.bool (!listEq a b))
  | _ => none

def shiftA (op : BinOp) (k : IntKind) (a b : Int) : Option AV :=
  match op with
  | .shl => if b < 0 then none else some (.int k (k.wrap (a * 2 ^ (Min.min b.toNat k.bits))))
  | .shr => if b < 0 then none else some (.int k (a.fdiv (2 ^ (Min.min b.toNat k.bits))))
  | _ => none

def isShift : BinOp → Bool
  | .shl | .shr => true
  | _ => false

def binA (h : H) (op : BinOp) (c : EqC) (x y : AV) : Option AV :=
  match x, y with
  | .int k a, .int k' b => match isShift op with
    | true => shiftA op k a b
    | false => match kindEq k k' with
      | true => intBin op k a b
      | false => none
  | .str a, .str b => strBin op a b
  | x, y => match isEq op, equalA h c x y with
    | some t, some b => some (.bool (b == t))
    | _, _ => none

def unA (op : UnOp) (x : AV) : Option AV :=
  match x with
  | .int k n => match op with
    | .neg => some (.int k (k.wrap (0 - n)))
    | .xor => intBin .xor k (if k.signed then -1 else k.max) n
    | _ => none
  | .bool b => match op with
    | .not => some (.bool !b)
    | _ => none
  | _ => none

def asNat (x : AV) : Option Nat :=
  match x with
  | .int _ n => match n with
    | .ofNat m => some m
    | .negSucc _ => none
  | _ => none

def optNat (ts : TS) (d : Nat) : Option Opd → Option Nat
  | some x => asNat (evA ts x)
  | none => some d

/-- The bounds of a slice expression: all within the length. -/
def boundsA (len : Nat) (l r : Option Nat) : Option (Nat × Nat) :=
  match l, r with
  | some l, some r => match Nat.ble l r, Nat.ble r len with
    | true, true => some (l, r)
    | _, _ => none
  | _, _ => none

def sliceA (z b o len : Nat) (cap : Option Nat) (l r : Nat) (mx : Option Nat) : Option AV :=
  match mx with
  | none => match cap with
    | none => some (.sl b (o + l * z) (r - l) none z)
    | some c => match Nat.blt l c with
      | true => some (.sl b (o + l * z) (r - l) (some (c - l)) z)
      | false => none
  | some m => match Nat.ble r m, Nat.ble m len with
    | true, true => some (.sl b (o + l * z) (r - l) (some (m - l)) z)
    | _, _ => none

/-- The cells of a slice or a string. -/
def rowA (z : Nat) (h : H) (x : AV) : Option (List AV) :=
  match x with
  | .snil => some []
  | .str s => match Nat.beq z 1 with
    | true => some (s.map fun (c : Nat) => .int .u8 (Int.ofNat c))
    | false => none
  | .sl b o len _ z' => match h.cells b, Nat.beq z z' with
    | some cs, true => match Nat.ble (o + len * z) cs.length with
      | true => some ((cs.drop o).take (len * z))
      | false => none
    | _, _ => none
  | _ => none

def lenA (x : AV) : Option Nat :=
  match x with
  | .snil => some 0
  | .str s => some s.length
  | .sl _ _ n _ _ => some n
  | _ => none

/-- A block that is the program's own goes: nobody may come to it any more. -/
def dropA (h : H) (b : Nat) : Option H :=
  match h.get b with
  | some (.cells true _) => some (h.put b none)
  | _ => none

def growA (z n : Nat) (cs : List AV) (h : H) : AV × H := (.sl h.next 0 n none z, h.new (.cells true cs))

def isStr : AV → Bool
  | .str _ => true
  | _ => false

def appendA (z bytes : Nat) (h : H) (s x : AV) : Option (AV × H) :=
  match isStr s, rowA z h s, rowA z h x, lenA s, lenA x with
  | false, some old, some new, some n, some k =>
    match k with
    | 0 => some (s, h)
    | _ + 1 => match Nat.ble ((n + k) * bytes) maxRow, Nat.ble (n + k) maxRow, cellsOk new with
      | true, true, true => match s with
        | .snil => some (growA z (n + k) (old ++ new) h)
        | .sl b _ _ cap _ => match (match cap with | some c => Nat.blt c (n + k) | none => false) with
          | true => some (growA z (n + k) (old ++ new) h)
          | false => match dropA h b with
            | some h' => some (growA z (n + k) (old ++ new) h')
            | none => none
        | _ => none
      | _, _, _ => none
  | _, _, _, _, _ => none

def copySl (z : Nat) (h : H) (new : List AV) (k b o n z' : Nat) : Option (AV × H) :=
  match Nat.beq z z', storeA h b o (new.take (Min.min k n * z)) with
  | true, some h' => some (.int .i64 (Int.ofNat (Min.min k n)), h')
  | _, _ => none

def copyA (z : Nat) (h : H) (d x : AV) : Option (AV × H) :=
  match rowA z h x, lenA x with
  | some new, some k => match d with
    | .sl b o n _ z' => copySl z h new k b o n z'
    | .snil => some (.int .i64 0, h)
    | _ => none
  | _, _ => none

def findME (q : EqK) (k : AV) : List ME → Nat → Option (Option (Nat × AV))
  | [], _ => some none
  | e :: es, i => match eqK q k e.key with
    | some true => some (some (i, e.val))
    | some false => findME q k es (i + 1)
    | none => none

def entriesA (h : H) (x : AV) : Option (List ME × Nat) :=
  match x with
  | .mnil => some ([], 0)
  | .map b => match h.get b with
    | some (.map es c) => some (es, c)
    | _ => none
  | _ => none

def foundA (q : EqK) (h : H) (x k : AV) : Option (List ME × Nat × Option (Nat × AV)) :=
  match entriesA h x with
  | some (es, c) => match findME q k es 0 with
    | some r => some (es, c, r)
    | none => none
  | none => none

def lookA (q : EqK) (zero : AV) (ok : Bool) (h : H) (x k : AV) : Option AV :=
  match foundA q h x k with
  | some (_, _, r) => match r with
    | some (_, v) => some (if ok then .tup [v, .bool true] else v)
    | none => some (if ok then .tup [zero, .bool false] else zero)
  | none => none

def setAt (k v : AV) : List ME → Nat → List ME
  | [], _ => []
  | e :: es, 0 => ⟨k, v, e.born⟩ :: es
  | e :: es, i + 1 => e :: setAt k v es i

def updateA (q : EqK) (h : H) (x k v : AV) : Option H :=
  match x with
  | .map b => match foundA q h x k with
    | some (es, c, r) => match r with
      | some (i, _) => some (h.put b (some (.map (setAt k v es i) c)))
      | none => some (h.put b (some (.map (es ++ [⟨k, v, c⟩]) (c + 1))))
    | none => none
  | _ => none

def deleteA (q : EqK) (h : H) (x k : AV) : Option H :=
  match x with
  | .map b => match foundA q h x k with
    | some (es, c, r) => match r with
      | some (i, _) => some (h.put b (some (.map (es.take i ++ es.drop (i + 1)) c)))
      | none => some h
    | none => none
  | _ => none

def strBytes : List AV → Option (List Nat)
  | [] => some []
  | .int .u8 n :: r => match n with
    | .ofNat m => match Nat.blt m 256, strBytes r with
      | true, some l => some (m :: l)
      | _, _ => none
    | .negSucc _ => none
  | _ :: _ => none

def minA (x y : AV) : Option AV :=
  match x, y with
  | .int k a, .int k' b => match kindEq k k' with
    | true => some (.int k (if b < a then b else a))
    | false => none
  | _, _ => none

def maxA (x y : AV) : Option AV :=
  match x, y with
  | .int k a, .int k' b => match kindEq k k' with
    | true => some (.int k (if a < b then b else a))
    | false => none
  | _, _ => none

def lenStr (x : AV) : Option AV :=
  match x with
  | .str s => some (.int .i64 (Int.ofNat s.length))
  | _ => none

def lenSl (x : AV) : Option AV :=
  match x with
  | .snil => some (.int .i64 0)
  | .sl _ _ n _ _ => some (.int .i64 (Int.ofNat n))
  | _ => none

def lenMp (h : H) (x : AV) : Option AV :=
  match x with
  | .mnil => some (.int .i64 0)
  | .map b => match h.get b with
    | some (.map es _) => some (.int .i64 (Int.ofNat es.length))
    | _ => none
  | _ => none

def nilcA (x : AV) : Option AV :=
  match x with
  | .ptr b o => some (.ptr b o)
  | .ifc t v => some (.ifc t v)
  | .fn f a c => some (.fn f a c)
  | .sl b o l c z => some (.sl b o l c z)
  | .map b => some (.map b)
  | _ => none

def oLoad (ts : TS) (h : H) (size : Nat) (agg : Bool) (a : Opd) : St :=
  match evA ts a with
  | .ptr b o => ofO h (loadA size agg h b o)
  | _ => .no

def oStore (ts : TS) (h : H) (size : Nat) (a x : Opd) : St :=
  match evA ts a with
  | .ptr b o => match Nat.beq (evA ts x).cells.length size, storeA h b o (evA ts x).cells with
    | true, some h' => .skip h'
    | _, _ => .no
  | _ => .no

def oBox (ts : TS) (h : H) (x : Opd) : St :=
  match isAny (evA ts x) with
  | false => .val (.ptr h.next 0) (h.new (.cells true (evA ts x).cells))
  | true => .no

def oPick (ts : TS) (h : H) (c a b : Opd) : St :=
  match evA ts c with
  | .bool t => .val (match t with | true => evA ts a | false => evA ts b) h
  | _ => .no

def oBuild (ts : TS) (h : H) (z : List AV) (parts : List (Nat × Nat × Opd)) : St :=
  match fillA ts z parts with
  | some cs => .val (.agg cs) h
  | none => .no

def oBslice (ts : TS) (h : H) (n z : Nat) (cs : List AV) (parts : List (Nat × Nat × Opd)) : St :=
  match fillA ts cs parts with
  | some cs => .val (.sl h.next 0 n none z) (h.new (.cells true cs))
  | none => .no

def oConv (ts : TS) (h : H) (k : IntKind) (x : Opd) : St :=
  match evA ts x with
  | .int _ n => .val (.int k (k.wrap n)) h
  | _ => .no

def oOfBytes (ts : TS) (h : H) (x : Opd) : St :=
  match evA ts x with
  | .str _ => .no
  | v => match rowA 1 h v with
    | some cs => match strBytes cs with
      | some l => .val (.str l) h
      | none => .no
    | none => .no

def oConvS (ts : TS) (h : H) (x : Opd) : St :=
  match evA ts x with
  | .str s => .val (.str s) h
  | _ => .no

def oMkSl (ts : TS) (h : H) (z bytes : Nat) (zero : List AV) (l c : Opd) : St :=
  match asNat (evA ts l), asNat (evA ts c) with
  | some n, some m => match Nat.beq n m, Nat.ble (n * bytes) maxRow, Nat.ble n maxRow with
    | true, true, true => .val (.sl h.next 0 n none z) (h.new (.cells true (repA n zero)))
    | _, _, _ => .no
  | _, _ => .no

def oSlArr (ts : TS) (h : H) (n z : Nat) (x : Opd) (lo hi mx : Option Opd) : St :=
  match evA ts x, boundsA n (optNat ts 0 lo) (optNat ts n hi), mx with
  | .ptr b o, some (l, r), none => match h.cells b with
    | some cs => match Nat.ble (o + n * z) cs.length with
      | true => ofO h (sliceA z b o n none l r none)
      | false => .no
    | none => .no
  | _, _, _ => .no

def oSlStr (ts : TS) (h : H) (x : Opd) (lo hi : Option Opd) : St :=
  match evA ts x with
  | .str s => match boundsA s.length (optNat ts 0 lo) (optNat ts s.length hi) with
    | some (l, r) => .val (.str ((s.drop l).take (r - l))) h
    | none => .no
  | _ => .no

def oSl (ts : TS) (h : H) (z : Nat) (x : Opd) (lo hi mx : Option Opd) : St :=
  match evA ts x with
  | .snil => match boundsA 0 (optNat ts 0 lo) (optNat ts 0 hi) with
    | some _ => match optNat ts 0 mx with
      | some 0 => .val .snil h
      | _ => .no
    | none => .no
  | .sl b o n cap z' => match Nat.beq z z', boundsA n (optNat ts 0 lo) (optNat ts n hi) with
    | true, some (l, r) => match mx with
      | none => ofO h (sliceA z b o n cap l r none)
      | some m => match asNat (evA ts m) with
        | some m => ofO h (sliceA z b o n cap l r (some m))
        | none => .no
    | _, _ => .no
  | _ => .no

def oFieldA (ts : TS) (h : H) (off : Nat) (x : Opd) : St :=
  match evA ts x with
  | .ptr b o => .val (.ptr b (o + off)) h
  | _ => .no

def oField (ts : TS) (h : H) (off size : Nat) (agg : Bool) (x : Opd) : St :=
  match evA ts x with
  | .agg cs => ofO h (partA cs off size agg)
  | _ => .no

def oIdxArr (ts : TS) (h : H) (n z : Nat) (x i : Opd) : St :=
  match evA ts x, asNat (evA ts i) with
  | .ptr b o, some i => match Nat.blt i n with
    | true => .val (.ptr b (o + i * z)) h
    | false => .no
  | _, _ => .no

def oIdxSl (ts : TS) (h : H) (z : Nat) (x i : Opd) : St :=
  match evA ts x, asNat (evA ts i) with
  | .sl b o n _ z', some i => match Nat.blt i n, Nat.beq z z' with
    | true, true => .val (.ptr b (o + i * z)) h
    | _, _ => .no
  | _, _ => .no

def oIxAgg (ts : TS) (h : H) (n z size : Nat) (agg : Bool) (x i : Opd) : St :=
  match evA ts x, asNat (evA ts i) with
  | .agg cs, some i => match Nat.blt i n with
    | true => ofO h (partA cs (i * z) size agg)
    | false => .no
  | _, _ => .no

def oIxStr (ts : TS) (h : H) (x i : Opd) : St :=
  match evA ts x, asNat (evA ts i) with
  | .str s, some i => match s[i]? with
    | some c => .val (.int .u8 (Int.ofNat c)) h
    | none => .no
  | _, _ => .no

def oExt (ts : TS) (h : H) (i : Nat) (x : Opd) : St :=
  match evA ts x with
  | .tup vs => ofO h vs[i]?
  | _ => .no

def oTass (ts : TS) (h : H) (a : TypeId) (zero : AV) (ok : Bool) (x : Opd) : St :=
  match evA ts x with
  | .inil => match ok with
    | true => .val (.tup [zero, .bool false]) h
    | false => .no
  | .ifc t v => match Nat.beq t a, ok with
    | true, true => .val (.tup [v, .bool true]) h
    | true, false => .val v h
    | false, true => .val (.tup [zero, .bool false]) h
    | false, false => .no
  | _ => .no

def oCall (ts : TS) (h : H) (f : Opd) (args : List Opd) : St :=
  match evA ts f with
  | .fn f fst cap => .call f (fst ++ args.map (evA ts) ++ cap) h
  | _ => .no

def oDefer (ts : TS) (h : H) (f : Opd) (args : List Opd) : St :=
  match evA ts f with
  | .fn f fst cap => .defer f (fst ++ args.map (evA ts) ++ cap) h
  | _ => .no

def ofP : Option (AV × H) → St
  | some (v, h) => .val v h
  | none => .no

def ofH : Option H → St
  | some h => .skip h
  | none => .no

def oDel (h : H) : Option H → St
  | some h => .val (.tup []) h
  | none => .no

def oClear (ts : TS) (h : H) (z : Nat) (zero : List AV) (x : Opd) : St :=
  match evA ts x with
  | .snil => .val (.tup []) h
  | .sl b o n _ z' => match Nat.beq z z', storeA h b o (repA n zero) with
    | true, some h' => .val (.tup []) h'
    | _, _ => .no
  | _ => .no

def oPanic (ts : TS) (h : H) (x : Opd) : St :=
  match evA ts x with
  | .ifc t v => .pan (.ifc t v) h
  | _ => .no

def opA (ts : TS) (h : H) (o : CO) : St :=
  match o with
  | .mv x => .val (evA ts x) h
  | .pick c a b => oPick ts h c a b
  | .alloc z => .val (.ptr h.next 0) (h.new (.cells true z))
  | .box x => oBox ts h x
  | .build z ps => oBuild ts h z ps
  | .bslice n z cs ps => oBslice ts h n z cs ps
  | .load s g a => oLoad ts h s g a
  | .store s a x => oStore ts h s a x
  | .nilc x => ofO h (nilcA (evA ts x))
  | .bin op c x y => ofO h (binA h op c (evA ts x) (evA ts y))
  | .un op x => ofO h (unA op (evA ts x))
  | .conv k x => oConv ts h k x
  | .ofBytes x => oOfBytes ts h x
  | .convS x => oConvS ts h x
  | .mkIfc t x => .val (.ifc t (evA ts x)) h
  | .mkFn f a c => .val (.fn f (a.map (evA ts)) (c.map (evA ts))) h
  | .mkMap => .val (.map h.next) (h.new (.map [] 0))
  | .mkSl z b zero l c => oMkSl ts h z b zero l c
  | .slArr n z x lo hi mx => oSlArr ts h n z x lo hi mx
  | .slStr x lo hi => oSlStr ts h x lo hi
  | .sl z x lo hi mx => oSl ts h z x lo hi mx
  | .fieldA off x => oFieldA ts h off x
  | .field off s g x => oField ts h off s g x
  | .idxArr n z x i => oIdxArr ts h n z x i
  | .idxSl z x i => oIdxSl ts h z x i
  | .ixAgg n z s g x i => oIxAgg ts h n z s g x i
  | .ixStr x i => oIxStr ts h x i
  | .look q z x k ok => ofO h (lookA q z ok h (evA ts x) (evA ts k))
  | .upd q m k v => ofH (updateA q h (evA ts m) (evA ts k) (evA ts v))
  | .ext i x => oExt ts h i x
  | .tass a z ok x => oTass ts h a z ok x
  | .call f args => oCall ts h f args
  | .append z b s x => ofP (appendA z b h (evA ts s) (evA ts x))
  | .lenS x => ofO h (lenStr (evA ts x))
  | .lenL x => ofO h (lenSl (evA ts x))
  | .lenM x => ofO h (lenMp h (evA ts x))
  | .lenK n => .val (.int .i64 (Int.ofNat n)) h
  | .copy z d x => ofP (copyA z h (evA ts d) (evA ts x))
  | .min x y => ofO h (minA (evA ts x) (evA ts y))
  | .max x y => ofO h (maxA (evA ts x) (evA ts y))
  | .del q m k => oDel h (deleteA q h (evA ts m) (evA ts k))
  | .clear z zero x => oClear ts h z zero x
  | .recov => .recov h
  | .defer f args => oDefer ts h f args
  | .panic x => oPanic ts h x

/-! Regions, code, calls. -/

inductive Fl where
  | norm | exit (n : Nat) | ret | pan (v : AV)

structure S where
  ts : TS
  ds : List (Nat × List AV)
  h : H

/-- Whether recover may be asked (in a deferred call: on), and the panic that is under way and isn't caught, if there is one. -/
inductive Rc where
  | off
  | on (v : Option AV)

inductive Rs where
  | ok (f : Fl) (s : S) (rc : Rc)
  | no

inductive Cr where
  | ret (v : AV) (h : H)
  | pan (v : AV) (h : H)
  | no

def putT (ts : TS) (dst : Option Nat) (v : AV) : TS :=
  match dst with
  | some d => ts.set d (some v)
  | none => ts

def wantedA (ts : TS) (o : CR) : Bool :=
  match o.guard with
  | none => true
  | some (d, want) => match ts.get d with
    | some (.bool b) => b == want
    | _ => false

/-- Is it known what the test says? -/
def guardOk (ts : TS) (o : CR) : Bool :=
  match o.guard with
  | none => true
  | some (d, _) => match ts.get d with
    | some .any => false
    | none => false
    | _ => true

/-- A region's operations in the order of the text; 'cl' does a call. -/
def regA (cl : Nat → List AV → H → Cr) : List CR → S → Rc → Rs
  | [], s, rc => .ok .norm s rc
  | o :: rest, s, rc =>
    match guardOk s.ts o with
    | false => .no
    | true => match wantedA s.ts o with
      | false => regA cl rest ⟨putT s.ts o.dst undefA, s.ds, s.h⟩ rc
      | true => match opA s.ts s.h o.op with
        | .val v h => regA cl rest ⟨putT s.ts o.dst v, s.ds, h⟩ rc
        | .skip h => regA cl rest ⟨putT s.ts o.dst undefA, s.ds, h⟩ rc
        | .call f args h => match cl f args h with
          | .ret v h => regA cl rest ⟨putT s.ts o.dst v, s.ds, h⟩ rc
          | .pan v h => .ok (.pan v) ⟨s.ts, s.ds, h⟩ rc
          | .no => .no
        | .defer f args h => regA cl rest ⟨putT s.ts o.dst undefA, (f, args) :: s.ds, h⟩ rc
        | .recov h => match rc with
          | .on (some v) => regA cl rest ⟨putT s.ts o.dst v, s.ds, h⟩ (.on none)
          | .on none => regA cl rest ⟨putT s.ts o.dst .inil, s.ds, h⟩ (.on none)
          | .off => .no
        | .pan v h => .ok (.pan v) ⟨s.ts, s.ds, h⟩ rc
        | .no => .no


/-! A region that draws its order. -/

/-- What an operation has to do with memory: nothing, it reads, it makes a block, it does more. -/
inductive Cl where
  | pure | reads | makes | acts | bars
  deriving DecidableEq

def CO.cl : CO → Cl
  | .load .. | .look .. | .lenM _ | .ofBytes _ | .slArr .. => .reads
  | .bin _ c _ _ => match c with | .ptr => .reads | _ => .pure
  | .alloc _ | .box _ | .bslice .. | .mkMap | .mkSl .. => .makes
  | .store .. | .upd .. | .call .. | .append .. | .copy .. | .del .. | .clear .. => .acts
  | .recov | .defer .. | .panic _ => .bars
  | _ => .pure

def isActs (o : CR) : Bool := match o.op.cl with | .acts => true | _ => false
def isReads (o : CR) : Bool := match o.op.cl with | .reads => true | _ => false

/-- One operation: its value and the heap behind it. -/
def resD (cl : Nat → List AV → H → Cr) (o : CR) (ts : TS) (h : H) : Option (AV × H) :=
  match guardOk ts o with
  | false => none
  | true => match wantedA ts o with
    | false => some (undefA, h)
    | true => match opA ts h o.op with
      | .val v h => some (v, h)
      | .skip h => some (undefA, h)
      | .call f args h => match cl f args h with
        | .ret v h => some (v, h)
        | _ => none
      | _ => none

/-- The states ahead of each operation, and the last one. -/
def traceD (cl : Nat → List AV → H → Cr) : List CR → TS → H → Option (List (TS × H))
  | [], ts, h => some [(ts, h)]
  | o :: rest, ts, h => match resD cl o ts h with
    | some (v, h') => match traceD cl rest (putT ts o.dst v) h' with
      | some l => some ((ts, h) :: l)
      | none => none
    | none => none

def sameN : Option Nat → Option Nat → Bool
  | none, none => true
  | some a, some b => Nat.beq a b
  | _, _ => false

/-- Are two values one (of the values that a cell holds, but for functions and interfaces)? -/
def sameV : AV → AV → Bool
  | .bool a, .bool b => a == b
  | .int k a, .int k' b => match kindEq k k' with | true => decide (a = b) | false => false
  | .str a, .str b => listEq a b
  | .ptr a b, .ptr c d => Nat.beq a c && Nat.beq b d
  | .pnil, .pnil => true
  | .sl a b c d e, .sl a' b' c' d' e' => Nat.beq a a' && Nat.beq b b' && Nat.beq c c' && sameN d d' && Nat.beq e e'
  | .snil, .snil => true
  | .map a, .map b => Nat.beq a b
  | .mnil, .mnil => true
  | .fnil, .fnil => true
  | .inil, .inil => true
  | _, _ => false

def sameL : List AV → List AV → Bool
  | [], [] => true
  | a :: as, b :: bs => sameV a b && sameL as bs
  | _, _ => false

def sameA : AV → AV → Bool
  | .agg a, .agg b => sameL a b
  | .tup a, .tup b => sameL a b
  | a, b => sameV a b

/-- What a reading operation reads is the same at each place at which it may be done. -/
def holdsAt (o : CR) (ts : TS) (v : AV) (l : List (TS × H)) : List Nat → Bool
  | [] => true
  | q :: qs => match l[q]? with
    | some (_, h) => match opA ts h o.op with
      | .val v' _ => match sameA v v' with
        | true => holdsAt o ts v l qs
        | false => false
      | _ => false
    | none => false

def held1 (l : List (TS × H)) (o : CR) (ts : TS) (h : H) : Bool :=
  match isReads o, o.win, wantedA ts o with
  | true, _ :: _, true => match opA ts h o.op with
    | .val v _ => holdsAt o ts v l o.win
    | _ => false
  | _, _, _ => true

/-- Each reading operation of a region. -/
def heldD (all : List (TS × H)) : List CR → List (TS × H) → Bool
  | o :: rest, (ts, h) :: l => match held1 all o ts h with
    | true => heldD all rest l
    | false => false
  | _, _ => true

/-- The block that a store goes to. -/
def blockAt (ops : List CR) (l : List (TS × H)) (i : Nat) : Option Nat :=
  match ops[i]?, l[i]? with
  | some o, some (ts, _) => match o.op with
    | .store _ a _ => match evA ts a with
      | .ptr b _ => some b
      | _ => none
    | _ => none
  | _, _ => none

/-- Two stores in either order go to two blocks. -/
def twoOk (ops : List CR) (l : List (TS × H)) : Option (Nat × Nat) → Bool
  | none => true
  | some (i, j) => match blockAt ops l i, blockAt ops l j with
    | some a, some b => !Nat.beq a b
    | _, _ => false

def drawA (cl : Nat → List AV → H → Cr) (ops : List CR) (two : Option (Nat × Nat)) (s : S) (rc : Rc) : Rs :=
  match traceD cl ops s.ts s.h with
  | some l => match heldD l ops l, twoOk ops l two, l.getLast? with
    | true, true, some (ts, h) => .ok .norm ⟨ts, s.ds, h⟩ rc
    | _, _, _ => .no
  | none => .no

/-! Code. -/

structure Lv where
  exec : CC → S → Rc → Rs
  call : Nat → List AV → H → Cr
  callD : Nat → List AV → H → Option AV → Option (H × Option AV)

def resA (ts : TS) (h : H) : List (Nat × Option (Nat × Bool)) → Option (List AV)
  | [] => some []
  | (t, none) :: r => match resA ts h r with
    | some l => some (evA ts (.t t) :: l)
    | none => none
  | (t, some (size, agg)) :: r => match evA ts (.t t), resA ts h r with
    | .ptr b o, some l => match loadA size agg h b o with
      | some v => some (v :: l)
      | none => none
    | _, _ => none

def tupA : List AV → AV
  | [v] => v
  | l => .tup l

/-- The deferred calls of a call that leaves, the latest first; the panic under way. -/
def leaveA (cd : Nat → List AV → H → Option AV → Option (H × Option AV)) (fn : CFn) : List (Nat × List AV) → TS → H → Option AV → Cr
  | [], ts, h, none => match resA ts h fn.results with
    | some l => .ret (tupA l) h
    | none => .no
  | [], _, h, some v => .pan v h
  | d :: ds, ts, h, u => match cd d.1 d.2 h u with
    | some (h', u') => leaveA cd fn ds ts h' u'
    | none => .no

def putArgs : List AV → Nat → TS → TS
  | [], _, ts => ts
  | v :: r, n, ts => putArgs r (n + 1) (ts.set n (some v))

def startA (args : List AV) (h : H) : S := ⟨putArgs args 0 .leaf, [], h⟩

def isOn : Rc → Bool
  | .on _ => true
  | .off => false

def execL (cx : Cx) (L : Lv) (c : CC) (s : S) (rc : Rc) : Rs :=
  match c with
  | .skip => .ok .norm s rc
  | .reg ops => regA L.call ops s rc
  | .draw ops two => drawA L.call ops two s rc
  | .seq a b => match L.exec a s rc with
    | .ok .norm s rc => L.exec b s rc
    | r => r
  | .cond c t e => match evA s.ts c with
    | .bool b => L.exec (match b with | true => t | false => e) s rc
    | _ => .no
  | .block id body => match isOn rc, L.exec body s rc with
    | false, .ok (.exit i) s rc => match Nat.beq i id with
      | true => .ok .norm s rc
      | false => .ok (.exit i) s rc
    | false, r => r
    | true, _ => .no
  | .loop body => match isOn rc, L.exec body s rc with
    | false, .ok .norm s rc => L.exec (.loop body) s rc
    | false, r => r
    | true, _ => .no
  | .exit id => match isOn rc with
    | false => .ok (.exit id) s rc
    | true => .no
  | .ret => match isOn rc with
    | false => .ok .ret s rc
    | true => .no

def callL (cx : Cx) (L : Lv) (f : Nat) (args : List AV) (h : H) : Cr :=
  match cx.ext f with
  | some e => match e args h with
    | some (v, h') => .ret v h'
    | none => .no
  | none => match cx.fn f with
    | some fn => match Nat.ble args.length fn.ntmps, L.exec fn.body (startA args h) .off with
      | true, .ok .norm s _ | true, .ok .ret s _ => leaveA L.callD fn s.ds s.ts s.h none
      | true, .ok (.pan v) s _ => leaveA L.callD fn s.ds s.ts s.h (some v)
      | _, _ => .no
    | none => .no

/-- What a deferred call leaves: nothing of its own is deferred, its results can be read. -/
def endD (fn : CFn) (s : S) (u : Option AV) : Option (H × Option AV) :=
  match s.ds, resA s.ts s.h fn.results with
  | [], some _ => some (s.h, u)
  | _, _ => none

def recOps : List CR → Bool
  | [] => false
  | o :: r => match o.op with
    | .recov => true
    | _ => recOps r

/-- Is recover asked in it? -/
def hasRec : CC → Bool
  | .reg ops => recOps ops
  | .seq a b => match hasRec a with
    | true => true
    | false => hasRec b
  | .cond _ a b => match hasRec a with
    | true => true
    | false => hasRec b
  | .block _ b => hasRec b
  | .loop b => hasRec b
  | _ => false

def dOff (fn : CFn) (u : Option AV) : Rs → Option (H × Option AV)
  | .ok .norm s _ => endD fn s u
  | .ok .ret s _ => endD fn s u
  | _ => none

def dOn (fn : CFn) : Rs → Option (H × Option AV)
  | .ok .norm s (.on u) => endD fn s u
  | _ => none

def callDL (cx : Cx) (L : Lv) (f : Nat) (args : List AV) (h : H) (u : Option AV) : Option (H × Option AV) :=
  match cx.fn f with
  | some fn => match Nat.ble args.length fn.ntmps, hasRec fn.body with
    | true, false => dOff fn u (L.exec fn.body (startA args h) .off)
    | true, true => dOn fn (L.exec fn.body (startA args h) (.on u))
    | false, _ => none
  | none => none

def mkLv (cx : Cx) (L : Lv) : Lv := { exec := execL cx L, call := callL cx L, callD := callDL cx L }

def lev0 : Lv := { exec := fun _ _ _ => .no, call := fun _ _ _ => .no, callD := fun _ _ _ _ => none }

def lev (cx : Cx) : Nat → Lv
  | 0 => lev0
  | n + 1 => mkLv cx (lev cx n)

end Go.Ab
