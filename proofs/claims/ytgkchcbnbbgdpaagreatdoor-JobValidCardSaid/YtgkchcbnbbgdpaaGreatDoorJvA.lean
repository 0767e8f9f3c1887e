/- Joined out of: AbCore AbComp AbRel AbHeap AbOps AbOps2 AbOps3 AbOps4 AbOps5 AbOps6. -/
import Derived.Tactics
import Derived.Below
import Derived.Deep.AppendSrc
import Derived.Laws.CopyRow
import Derived.Laws.Slices
import Derived.Laws.Strings
import Derived.Laws.Build
import Derived.Laws.StructEq
import Derived.Laws.Cover3
import Derived.WalkSpells
import Derived.Laws.BytesString
import Derived.Laws.BytesArg
set_option linter.unusedVariables false
set_option linter.unusedSimpArgs false
namespace Go.Ab
inductive AV where
  | bool (b : Bool)
  | int (k : IntKind) (n : Int)
  | str (s : List Nat)
  | ptr (b o : Nat)
  | pnil
  | sl (b o len : Nat) (cap : Option Nat) (z : Nat)
  | snil
  | esl
  | map (b : Nat)
  | mnil
  | fn (f : FuncId) (fst cap : List AV)
  | fnil
  | ifc (t : TypeId) (v : AV)
  | inil
  | agg (cs : List AV)
  | tup (vs : List AV)
  | any
  deriving Inhabited
def AV.cells : AV → List AV
  | .agg cs => cs
  | v => [v]
def undefA : AV := .tup []
structure ME where
  key : AV
  val : AV
  born : Nat
inductive Bk where
  | cells (own : Bool) (cs : List AV)
  | map (es : List ME) (clock : Nat)
inductive Tr (α : Type) where
  | leaf
  | node (l : Tr α) (v : Option α) (r : Tr α)
def Tr.get {α : Type} : Tr α → Nat → Option α
  | .leaf, _ => none
  | .node l v r, n => match n with
    | 0 => v
    | m + 1 => match Nat.beq (m % 2) 0 with
      | true => l.get (m / 2)
      | false => r.get (m / 2)
def Tr.setF {α : Type} : Nat → Tr α → Nat → Option α → Tr α
  | 0, t, _, _ => t
  | f + 1, t, n, x =>
    match t with
    | .leaf => match n with
      | 0 => .node .leaf x .leaf
      | m + 1 => match Nat.beq (m % 2) 0 with
        | true => .node (Tr.setF f .leaf (m / 2) x) none .leaf
        | false => .node .leaf none (Tr.setF f .leaf (m / 2) x)
    | .node l v r => match n with
      | 0 => .node l x r
      | m + 1 => match Nat.beq (m % 2) 0 with
        | true => .node (Tr.setF f l (m / 2) x) v r
        | false => .node l v (Tr.setF f r (m / 2) x)
def Tr.set {α : Type} (t : Tr α) (n : Nat) (x : Option α) : Tr α := Tr.setF (n + 1) t n x
theorem Tr.get_setF {α : Type} : ∀ (f : Nat) (t : Tr α) (n : Nat) (x : Option α) (j : Nat), n < f → (Tr.setF f t n x).get j = if j = n then x else t.get j := by
  intro f
  induction f with
  | zero => intro t n x j h; omega
  | succ f ih =>
    intro t n x j hn
    have hb : ∀ m : Nat, Nat.beq (m % 2) 0 = true ↔ m % 2 = 0 := fun m => by simp [Nat.beq_eq]
    cases n with
    | zero =>
      cases t with
      | leaf => cases j with
        | zero => simp [Tr.setF, Tr.get]
        | succ j => simp only [Tr.setF, Tr.get]; split <;> simp
      | node l v r => cases j with
        | zero => simp [Tr.setF, Tr.get]
        | succ j => simp [Tr.setF, Tr.get]
    | succ m =>
      have hm : m / 2 < f := by omega
      cases t with
      | leaf =>
        simp only [Tr.setF]
        cases hq : Nat.beq (m % 2) 0 with
        | true =>
          cases j with
          | zero => simp [Tr.get]
          | succ j =>
            simp only [Tr.get]
            cases hj : Nat.beq (j % 2) 0 with
            | true =>
              simp only [ih _ _ _ _ hm, Tr.get]
              have h1 := (hb m).1 hq; have h2 := (hb j).1 hj
              by_cases e : j = m
              · subst e; simp
              · rw [if_neg (by omega), if_neg (by omega)]
            | false =>
              have h1 := (hb m).1 hq
              have h2 : j % 2 ≠ 0 := fun h => by rw [(hb j).2 h] at hj; cases hj
              simp only []
              rw [if_neg (by omega)]
        | false =>
          have h1 : m % 2 ≠ 0 := fun h => by rw [(hb m).2 h] at hq; cases hq
          cases j with
          | zero => simp [Tr.get]
          | succ j =>
            simp only [Tr.get]
            cases hj : Nat.beq (j % 2) 0 with
            | true =>
              have h2 := (hb j).1 hj
              simp only []
              rw [if_neg (by omega)]
            | false =>
              have h2 : j % 2 ≠ 0 := fun h => by rw [(hb j).2 h] at hj; cases hj
              simp only [ih _ _ _ _ hm, Tr.get]
              by_cases e : j = m
              · subst e; simp
              · rw [if_neg (by omega), if_neg (by omega)]
      | node l v r =>
        simp only [Tr.setF]
        cases hq : Nat.beq (m % 2) 0 with
        | true =>
          cases j with
          | zero => simp [Tr.get]
          | succ j =>
            simp only [Tr.get]
            cases hj : Nat.beq (j % 2) 0 with
            | true =>
              simp only [ih _ _ _ _ hm]
              have h1 := (hb m).1 hq; have h2 := (hb j).1 hj
              by_cases e : j = m
              · subst e; simp
              · rw [if_neg (by omega), if_neg (by omega)]
            | false =>
              have h1 := (hb m).1 hq
              have h2 : j % 2 ≠ 0 := fun h => by rw [(hb j).2 h] at hj; cases hj
              simp only []
              rw [if_neg (by omega)]
        | false =>
          have h1 : m % 2 ≠ 0 := fun h => by rw [(hb m).2 h] at hq; cases hq
          cases j with
          | zero => simp [Tr.get]
          | succ j =>
            simp only [Tr.get]
            cases hj : Nat.beq (j % 2) 0 with
            | true =>
              have h2 := (hb j).1 hj
              simp only []
              rw [if_neg (by omega)]
            | false =>
              have h2 : j % 2 ≠ 0 := fun h => by rw [(hb j).2 h] at hj; cases hj
              simp only [ih _ _ _ _ hm]
              by_cases e : j = m
              · subst e; simp
              · rw [if_neg (by omega), if_neg (by omega)]
theorem Tr.get_set {α : Type} (t : Tr α) (n : Nat) (x : Option α) (j : Nat) : (t.set n x).get j = if j = n then x else t.get j :=
  Tr.get_setF (n + 1) t n x j (Nat.lt_succ_self n)
structure H where
  next : Nat
  m : Tr Bk
def H.get (h : H) (b : Nat) : Option Bk := h.m.get b
def H.put (h : H) (b : Nat) (x : Option Bk) : H := ⟨h.next, h.m.set b x⟩
def H.new (h : H) (x : Bk) : H := ⟨h.next + 1, h.m.set h.next (some x)⟩
abbrev TS := Tr AV
inductive Opd where
  | t (n : Nat)
  | k (v : AV)
inductive EqK where
  | int | bool | str
inductive EqC where
  | plain | bool | ptr | ifc | strct (ks : List EqK) | slc | mp | fnc
inductive CO where
  | mv (x : Opd)
  | pick (c a b : Opd)
  | alloc (z : List AV)
  | box (x : Opd)
  | build (z : List AV) (parts : List (Nat × Nat × Opd))
  | bslice (n z : Nat) (cs : List AV) (parts : List (Nat × Nat × Opd))
  | load (size : Nat) (agg : Bool) (a : Opd)
  | store (size : Nat) (a x : Opd)
  | nilc (x : Opd)
  | bin (op : BinOp) (c : EqC) (x y : Opd)
  | un (op : UnOp) (x : Opd)
  | conv (k : IntKind) (x : Opd)
  | ofBytes (x : Opd)
  | convS (x : Opd)
  | mkIfc (t : TypeId) (x : Opd)
  | mkFn (f : FuncId) (fst cap : List Opd)
  | mkMap
  | mkSl (z bytes : Nat) (zero : List AV) (l c : Opd)
  | slArr (n z : Nat) (x : Opd) (lo hi mx : Option Opd)
  | slStr (x : Opd) (lo hi : Option Opd)
  | sl (z : Nat) (x : Opd) (lo hi mx : Option Opd)
  | fieldA (off : Nat) (x : Opd)
  | field (off size : Nat) (agg : Bool) (x : Opd)
  | idxArr (n z : Nat) (x i : Opd)
  | idxSl (z : Nat) (x i : Opd)
  | ixAgg (n z size : Nat) (agg : Bool) (x i : Opd)
  | ixStr (x i : Opd)
  | look (q : EqK) (zero : AV) (x k : Opd) (ok : Bool)
  | upd (q : EqK) (m k v : Opd)
  | ext (i : Nat) (x : Opd)
  | tass (a : TypeId) (zero : AV) (ok : Bool) (x : Opd)
  | call (f : Opd) (args : List Opd)
  | append (z bytes : Nat) (s x : Opd)
  | lenS (x : Opd)
  | lenL (x : Opd)
  | lenM (x : Opd)
  | lenK (n : Nat)
  | copy (z : Nat) (d x : Opd)
  | min (x y : Opd)
  | max (x y : Opd)
  | del (q : EqK) (m k : Opd)
  | clear (z : Nat) (zero : List AV) (x : Opd)
  | recov
  | defer (f : Opd) (args : List Opd)
  | panic (x : Opd)
def Opd.sl : Opd → List Nat
  | .t n => [n]
  | .k _ => []
def slOp : Option Opd → List Nat
  | some x => x.sl
  | none => []
def slL : List Opd → List Nat
  | [] => []
  | x :: r => x.sl ++ slL r
def slP : List (Nat × Nat × Opd) → List Nat
  | [] => []
  | (_, _, x) :: r => x.sl ++ slP r
def CO.slots : CO → List Nat
  | .mv x => x.sl
  | .pick c a b => c.sl ++ (a.sl ++ b.sl)
  | .alloc _ => []
  | .box x => x.sl
  | .build _ ps => slP ps
  | .bslice _ _ _ ps => slP ps
  | .load _ _ a => a.sl
  | .store _ a x => a.sl ++ x.sl
  | .nilc x => x.sl
  | .bin _ _ x y => x.sl ++ y.sl
  | .un _ x => x.sl
  | .conv _ x => x.sl
  | .ofBytes x => x.sl
  | .convS x => x.sl
  | .mkIfc _ x => x.sl
  | .mkFn _ a c => slL a ++ slL c
  | .mkMap => []
  | .mkSl _ _ _ l c => l.sl ++ c.sl
  | .slArr _ _ x lo hi mx => x.sl ++ (slOp lo ++ (slOp hi ++ slOp mx))
  | .slStr x lo hi => x.sl ++ (slOp lo ++ slOp hi)
  | .sl _ x lo hi mx => x.sl ++ (slOp lo ++ (slOp hi ++ slOp mx))
  | .fieldA _ x => x.sl
  | .field _ _ _ x => x.sl
  | .idxArr _ _ x i => x.sl ++ i.sl
  | .idxSl _ x i => x.sl ++ i.sl
  | .ixAgg _ _ _ _ x i => x.sl ++ i.sl
  | .ixStr x i => x.sl ++ i.sl
  | .look _ _ x k _ => x.sl ++ k.sl
  | .upd _ m k v => m.sl ++ (k.sl ++ v.sl)
  | .ext _ x => x.sl
  | .tass _ _ _ x => x.sl
  | .call f as => f.sl ++ slL as
  | .append _ _ s x => s.sl ++ x.sl
  | .lenS x => x.sl
  | .lenL x => x.sl
  | .lenM x => x.sl
  | .lenK _ => []
  | .copy _ d x => d.sl ++ x.sl
  | .min x y => x.sl ++ y.sl
  | .max x y => x.sl ++ y.sl
  | .del _ m k => m.sl ++ k.sl
  | .clear _ _ x => x.sl
  | .recov => []
  | .defer f as => f.sl ++ slL as
  | .panic x => x.sl
structure CR where
  dst : Option Nat
  op : CO
  guard : Option (Nat × Bool)
  win : List Nat
inductive CC where
  | skip
  | reg (ops : List CR)
  | draw (ops : List CR) (two : Option (Nat × Nat))
  | seq (a b : CC)
  | cond (c : Opd) (thn els : CC)
  | block (id : Nat) (body : CC)
  | loop (body : CC)
  | exit (id : Nat)
  | ret
structure CFn where
  body : CC
  ntmps : Nat
  results : List (Nat × Option (Nat × Bool))
structure Cx where
  fn : Nat → Option CFn
  ext : Nat → Option (List AV → H → Option (AV × H))
def evA (ts : TS) : Opd → AV
  | .t n => match ts.get n with
    | some v => v
    | none => .any
  | .k v => v
inductive St where
  | val (v : AV) (h : H)
  | skip (h : H)
  | call (f : Nat) (args : List AV) (h : H)
  | defer (f : Nat) (args : List AV) (h : H)
  | recov (h : H)
  | pan (v : AV) (h : H)
  | no
def ofO (h : H) : Option AV → St
  | some v => .val v h
  | none => .no
def partA (cs : List AV) (off size : Nat) (agg : Bool) : Option AV :=
  match agg with
  | true => match Nat.ble (off + size) cs.length with
    | true => some (.agg ((cs.drop off).take size))
    | false => none
  | false => cs[off]?
def H.cells (h : H) (b : Nat) : Option (List AV) := match h.get b with | some (.cells _ cs) => some cs | _ => none
def loadA (size : Nat) (agg : Bool) (h : H) (b o : Nat) : Option AV :=
  match h.cells b with
  | some cs => partA cs o size agg
  | none => none
def splice (cs : List AV) (o : Nat) (vs : List AV) : List AV := cs.take o ++ vs ++ cs.drop (o + vs.length)
def cellOk : AV → Bool
  | .agg _ | .tup _ | .any => false
  | _ => true
def cellsOk : List AV → Bool
  | [] => true
  | v :: r => match cellOk v with
    | true => cellsOk r
    | false => false
def storeA (h : H) (b o : Nat) (vs : List AV) : Option H :=
  match h.get b with
  | some (.cells true cs) => match Nat.ble (o + vs.length) cs.length, cellsOk vs with
    | true, true => some (h.put b (some (.cells true (splice cs o vs))))
    | _, _ => none
  | _ => none
def isAny : AV → Bool
  | .any => true
  | _ => false
def fillA (ts : TS) (cs : List AV) : List (Nat × Nat × Opd) → Option (List AV)
  | [] => some cs
  | (off, size, x) :: rest =>
    match isAny (evA ts x), Nat.beq (evA ts x).cells.length size, Nat.ble (off + size) cs.length with
    | false, true, true => fillA ts (splice cs off (evA ts x).cells) rest
    | _, _, _ => none
def repA (n : Nat) (z : List AV) : List AV := (List.replicate n z).flatten
def kindEq : IntKind → IntKind → Bool
  | .i8, .i8 | .i16, .i16 | .i32, .i32 | .i64, .i64 | .u8, .u8 | .u16, .u16 | .u32, .u32 | .u64, .u64 => true
  | _, _ => false
def intBin (op : BinOp) (k : IntKind) (x y : Int) : Option AV :=
  match op with
  | .add => some (.int k (k.wrap (x + y)))
  | .sub => some (.int k (k.wrap (x - y)))
  | .mul => some (.int k (k.wrap (x * y)))
  | .quo => if y = 0 then none else some (.int k (k.wrap (x.tdiv y)))
  | .rem => if y = 0 then none else some (.int k (x.tmod y))
  | .and => some (.int k (k.wrap (BitVec.ofInt k.bits x &&& BitVec.ofInt k.bits y).toNat))
  | .or => some (.int k (k.wrap (BitVec.ofInt k.bits x ||| BitVec.ofInt k.bits y).toNat))
  | .xor => some (.int k (k.wrap (BitVec.ofInt k.bits x ^^^ BitVec.ofInt k.bits y).toNat))
  | .andNot => some (.int k (k.wrap (BitVec.ofInt k.bits x &&& ~~~(BitVec.ofInt k.bits y)).toNat))
  | .eql => some (.bool (decide (x = y)))
  | .neq => some (.bool (!decide (x = y)))
  | .lss => some (.bool (decide (x < y)))
  | .leq => some (.bool (decide (x ≤ y)))
  | .gtr => some (.bool (decide (y < x)))
  | .geq => some (.bool (decide (y ≤ x)))
  | _ => none
def listEq : List Nat → List Nat → Bool
  | [], [] => true
  | a :: as, b :: bs => match Nat.beq a b with
    | true => listEq as bs
    | false => false
  | _, _ => false
def eqK : EqK → AV → AV → Option Bool
  | .bool, .bool a, .bool b => some (a == b)
  | .int, .int k a, .int k' b => match kindEq k k' with
    | true => some (decide (a = b))
    | false => none
  | .str, .str a, .str b => some (listEq a b)
  | _, _, _ => none
def eqL : List EqK → List AV → List AV → Option Bool
  | [], [], [] => some true
  | k :: ks, a :: as, b :: bs => match eqK k a b, eqL ks as bs with
    | some x, some y => some (x && y)
    | _, _ => none
  | _, _, _ => none
def equalA (h : H) : EqC → AV → AV → Option Bool
  | .bool, .bool a, .bool b => some (a == b)
  | .strct ks, .agg as, .agg bs => eqL ks as bs
  | .ptr, .ptr b o, .ptr b' o' => match Nat.beq b b' with
    | true => some (Nat.beq o o')
    | false => match h.get b, h.get b' with
      | some (.cells true _), some (.cells true _) => some false
      | _, _ => none
  | .ptr, .pnil, .pnil => some true
  | .ptr, .pnil, .ptr _ _ => some false
  | .ptr, .ptr _ _, .pnil => some false
  | .ifc, .inil, .inil => some true
  | .ifc, .inil, .ifc _ _ => some false
  | .ifc, .ifc _ _, .inil => some false
  | .slc, .snil, .snil => some true
  | .slc, .sl .., .snil => some false
  | .slc, .snil, .sl .. => some false
  | .mp, .mnil, .mnil => some true
  | .mp, .map _, .mnil => some false
  | .mp, .mnil, .map _ => some false
  | .fnc, .fnil, .fnil => some true
  | .fnc, .fn .., .fnil => some false
  | .fnc, .fnil, .fn .. => some false
  | _, _, _ => none
def maxRow : Nat := 1099511627776
def isEq : BinOp → Option Bool
  | .eql => some true
  | .neq => some false
  | _ => none
def strBin (op : BinOp) (a b : List Nat) : Option AV :=
  match op with
  | .add => match Nat.ble (a.length + b.length) maxRow with
    | true => some (.str (a ++ b))
    | false => none
  | .eql => some (.bool (listEq a b))
  | .neq => some (.bool (!listEq a b))
  | _ => none
def shiftA (op : BinOp) (k : IntKind) (a b : Int) : Option AV :=
  match op with
  | .shl => if b < 0 then none else some (.int k (k.wrap (a * 2 ^ (Min.min b.toNat k.bits))))
  | .shr => if b < 0 then none else some (.int k (a.fdiv (2 ^ (Min.min b.toNat k.bits))))
  | _ => none
def isShift : BinOp → Bool
  | .shl | .shr => true
  | _ => false
def binA (h : H) (op : BinOp) (c : EqC) (x y : AV) : Option AV :=
  match x, y with
  | .int k a, .int k' b => match isShift op with
    | true => shiftA op k a b
    | false => match kindEq k k' with
      | true => intBin op k a b
      | false => none
  | .str a, .str b => strBin op a b
  | x, y => match isEq op, equalA h c x y with
    | some t, some b => some (.bool (b == t))
    | _, _ => none
def unA (op : UnOp) (x : AV) : Option AV :=
  match x with
  | .int k n => match op with
    | .neg => some (.int k (k.wrap (0 - n)))
    | .xor => intBin .xor k (if k.signed then -1 else k.max) n
    | _ => none
  | .bool b => match op with
    | .not => some (.bool !b)
    | _ => none
  | _ => none
def asNat (x : AV) : Option Nat :=
  match x with
  | .int _ n => match n with
    | .ofNat m => some m
    | .negSucc _ => none
  | _ => none
def optNat (ts : TS) (d : Nat) : Option Opd → Option Nat
  | some x => asNat (evA ts x)
  | none => some d
def boundsA (len : Nat) (l r : Option Nat) : Option (Nat × Nat) :=
  match l, r with
  | some l, some r => match Nat.ble l r, Nat.ble r len with
    | true, true => some (l, r)
    | _, _ => none
  | _, _ => none
def sliceA (z b o len : Nat) (cap : Option Nat) (l r : Nat) (mx : Option Nat) : Option AV :=
  match mx with
  | none => match cap with
    | none => some (.sl b (o + l * z) (r - l) none z)
    | some c => match Nat.blt l c with
      | true => some (.sl b (o + l * z) (r - l) (some (c - l)) z)
      | false => none
  | some m => match Nat.ble r m, Nat.ble m len with
    | true, true => some (.sl b (o + l * z) (r - l) (some (m - l)) z)
    | _, _ => none
def rowA (z : Nat) (h : H) (x : AV) : Option (List AV) :=
  match x with
  | .snil => some []
  | .str s => match Nat.beq z 1 with
    | true => some (s.map fun (c : Nat) => .int .u8 (Int.ofNat c))
    | false => none
  | .sl b o len _ z' => match h.cells b, Nat.beq z z' with
    | some cs, true => match Nat.ble (o + len * z) cs.length with
      | true => some ((cs.drop o).take (len * z))
      | false => none
    | _, _ => none
  | _ => none
def lenA (x : AV) : Option Nat :=
  match x with
  | .snil => some 0
  | .str s => some s.length
  | .sl _ _ n _ _ => some n
  | _ => none
def dropA (h : H) (b : Nat) : Option H :=
  match h.get b with
  | some (.cells true _) => some (h.put b none)
  | _ => none
def growA (z n : Nat) (cs : List AV) (h : H) : AV × H := (.sl h.next 0 n none z, h.new (.cells true cs))
def isStr : AV → Bool
  | .str _ => true
  | _ => false
def appendA (z bytes : Nat) (h : H) (s x : AV) : Option (AV × H) :=
  match isStr s, rowA z h s, rowA z h x, lenA s, lenA x with
  | false, some old, some new, some n, some k =>
    match k with
    | 0 => some (s, h)
    | _ + 1 => match Nat.ble ((n + k) * bytes) maxRow, Nat.ble (n + k) maxRow, cellsOk new with
      | true, true, true => match s with
        | .snil => some (growA z (n + k) (old ++ new) h)
        | .sl b _ _ cap _ => match (match cap with | some c => Nat.blt c (n + k) | none => false) with
          | true => some (growA z (n + k) (old ++ new) h)
          | false => match dropA h b with
            | some h' => some (growA z (n + k) (old ++ new) h')
            | none => none
        | _ => none
      | _, _, _ => none
  | _, _, _, _, _ => none
def copySl (z : Nat) (h : H) (new : List AV) (k b o n z' : Nat) : Option (AV × H) :=
  match Nat.beq z z', storeA h b o (new.take (Min.min k n * z)) with
  | true, some h' => some (.int .i64 (Int.ofNat (Min.min k n)), h')
  | _, _ => none
def copyA (z : Nat) (h : H) (d x : AV) : Option (AV × H) :=
  match rowA z h x, lenA x with
  | some new, some k => match d with
    | .sl b o n _ z' => copySl z h new k b o n z'
    | .snil => some (.int .i64 0, h)
    | _ => none
  | _, _ => none
def findME (q : EqK) (k : AV) : List ME → Nat → Option (Option (Nat × AV))
  | [], _ => some none
  | e :: es, i => match eqK q k e.key with
    | some true => some (some (i, e.val))
    | some false => findME q k es (i + 1)
    | none => none
def entriesA (h : H) (x : AV) : Option (List ME × Nat) :=
  match x with
  | .mnil => some ([], 0)
  | .map b => match h.get b with
    | some (.map es c) => some (es, c)
    | _ => none
  | _ => none
def foundA (q : EqK) (h : H) (x k : AV) : Option (List ME × Nat × Option (Nat × AV)) :=
  match entriesA h x with
  | some (es, c) => match findME q k es 0 with
    | some r => some (es, c, r)
    | none => none
  | none => none
def lookA (q : EqK) (zero : AV) (ok : Bool) (h : H) (x k : AV) : Option AV :=
  match foundA q h x k with
  | some (_, _, r) => match r with
    | some (_, v) => some (if ok then .tup [v, .bool true] else v)
    | none => some (if ok then .tup [zero, .bool false] else zero)
  | none => none
def setAt (k v : AV) : List ME → Nat → List ME
  | [], _ => []
  | e :: es, 0 => ⟨k, v, e.born⟩ :: es
  | e :: es, i + 1 => e :: setAt k v es i
def updateA (q : EqK) (h : H) (x k v : AV) : Option H :=
  match x with
  | .map b => match foundA q h x k with
    | some (es, c, r) => match r with
      | some (i, _) => some (h.put b (some (.map (setAt k v es i) c)))
      | none => some (h.put b (some (.map (es ++ [⟨k, v, c⟩]) (c + 1))))
    | none => none
  | _ => none
def deleteA (q : EqK) (h : H) (x k : AV) : Option H :=
  match x with
  | .map b => match foundA q h x k with
    | some (es, c, r) => match r with
      | some (i, _) => some (h.put b (some (.map (es.take i ++ es.drop (i + 1)) c)))
      | none => some h
    | none => none
  | _ => none
def strBytes : List AV → Option (List Nat)
  | [] => some []
  | .int .u8 n :: r => match n with
    | .ofNat m => match Nat.blt m 256, strBytes r with
      | true, some l => some (m :: l)
      | _, _ => none
    | .negSucc _ => none
  | _ :: _ => none
def minA (x y : AV) : Option AV :=
  match x, y with
  | .int k a, .int k' b => match kindEq k k' with
    | true => some (.int k (if b < a then b else a))
    | false => none
  | _, _ => none
def maxA (x y : AV) : Option AV :=
  match x, y with
  | .int k a, .int k' b => match kindEq k k' with
    | true => some (.int k (if a < b then b else a))
    | false => none
  | _, _ => none
def lenStr (x : AV) : Option AV :=
  match x with
  | .str s => some (.int .i64 (Int.ofNat s.length))
  | _ => none
def lenSl (x : AV) : Option AV :=
  match x with
  | .snil => some (.int .i64 0)
  | .esl => some (.int .i64 0)
  | .sl _ _ n _ _ => some (.int .i64 (Int.ofNat n))
  | _ => none
def lenMp (h : H) (x : AV) : Option AV :=
  match x with
  | .mnil => some (.int .i64 0)
  | .map b => match h.get b with
    | some (.map es _) => some (.int .i64 (Int.ofNat es.length))
    | _ => none
  | _ => none
def nilcA (x : AV) : Option AV :=
  match x with
  | .ptr b o => some (.ptr b o)
  | .ifc t v => some (.ifc t v)
  | .fn f a c => some (.fn f a c)
  | .sl b o l c z => some (.sl b o l c z)
  | .map b => some (.map b)
  | _ => none
def oLoad (ts : TS) (h : H) (size : Nat) (agg : Bool) (a : Opd) : St :=
  match evA ts a with
  | .ptr b o => ofO h (loadA size agg h b o)
  | _ => .no
def oStore (ts : TS) (h : H) (size : Nat) (a x : Opd) : St :=
  match evA ts a with
  | .ptr b o => match Nat.beq (evA ts x).cells.length size, storeA h b o (evA ts x).cells with
    | true, some h' => .skip h'
    | _, _ => .no
  | _ => .no
def oBox (ts : TS) (h : H) (x : Opd) : St :=
  match isAny (evA ts x) with
  | false => .val (.ptr h.next 0) (h.new (.cells true (evA ts x).cells))
  | true => .no
def oPick (ts : TS) (h : H) (c a b : Opd) : St :=
  match evA ts c with
  | .bool t => .val (match t with | true => evA ts a | false => evA ts b) h
  | _ => .no
def oBuild (ts : TS) (h : H) (z : List AV) (parts : List (Nat × Nat × Opd)) : St :=
  match fillA ts z parts with
  | some cs => .val (.agg cs) h
  | none => .no
def oBslice (ts : TS) (h : H) (n z : Nat) (cs : List AV) (parts : List (Nat × Nat × Opd)) : St :=
  match fillA ts cs parts with
  | some cs => .val (.sl h.next 0 n none z) (h.new (.cells true cs))
  | none => .no
def oConv (ts : TS) (h : H) (k : IntKind) (x : Opd) : St :=
  match evA ts x with
  | .int _ n => .val (.int k (k.wrap n)) h
  | _ => .no
def oOfBytes (ts : TS) (h : H) (x : Opd) : St :=
  match evA ts x with
  | .str _ => .no
  | v => match rowA 1 h v with
    | some cs => match strBytes cs with
      | some l => .val (.str l) h
      | none => .no
    | none => .no
def oConvS (ts : TS) (h : H) (x : Opd) : St :=
  match evA ts x with
  | .str s => .val (.str s) h
  | _ => .no
def oMkSl (ts : TS) (h : H) (z bytes : Nat) (zero : List AV) (l c : Opd) : St :=
  match asNat (evA ts l), asNat (evA ts c) with
  | some n, some m => match Nat.beq n m, Nat.ble (n * bytes) maxRow, Nat.ble n maxRow with
    | true, true, true => .val (.sl h.next 0 n none z) (h.new (.cells true (repA n zero)))
    | _, _, _ => .no
  | _, _ => .no
def oSlArr (ts : TS) (h : H) (n z : Nat) (x : Opd) (lo hi mx : Option Opd) : St :=
  match evA ts x, boundsA n (optNat ts 0 lo) (optNat ts n hi), mx with
  | .ptr b o, some (l, r), none => match h.cells b with
    | some cs => match Nat.ble (o + n * z) cs.length with
      | true => ofO h (sliceA z b o n none l r none)
      | false => .no
    | none => .no
  | _, _, _ => .no
def oSlStr (ts : TS) (h : H) (x : Opd) (lo hi : Option Opd) : St :=
  match evA ts x with
  | .str s => match boundsA s.length (optNat ts 0 lo) (optNat ts s.length hi) with
    | some (l, r) => .val (.str ((s.drop l).take (r - l))) h
    | none => .no
  | _ => .no
def oSl (ts : TS) (h : H) (z : Nat) (x : Opd) (lo hi mx : Option Opd) : St :=
  match evA ts x with
  | .snil => match boundsA 0 (optNat ts 0 lo) (optNat ts 0 hi) with
    | some _ => match optNat ts 0 mx with
      | some 0 => .val .snil h
      | _ => .no
    | none => .no
  | .sl b o n cap z' => match Nat.beq z z', boundsA n (optNat ts 0 lo) (optNat ts n hi) with
    | true, some (l, r) => match mx with
      | none => ofO h (sliceA z b o n cap l r none)
      | some m => match asNat (evA ts m) with
        | some m => ofO h (sliceA z b o n cap l r (some m))
        | none => .no
    | _, _ => .no
  | _ => .no
def oFieldA (ts : TS) (h : H) (off : Nat) (x : Opd) : St :=
  match evA ts x with
  | .ptr b o => .val (.ptr b (o + off)) h
  | _ => .no
def oField (ts : TS) (h : H) (off size : Nat) (agg : Bool) (x : Opd) : St :=
  match evA ts x with
  | .agg cs => ofO h (partA cs off size agg)
  | _ => .no
def oIdxArr (ts : TS) (h : H) (n z : Nat) (x i : Opd) : St :=
  match evA ts x, asNat (evA ts i) with
  | .ptr b o, some i => match Nat.blt i n with
    | true => .val (.ptr b (o + i * z)) h
    | false => .no
  | _, _ => .no
def oIdxSl (ts : TS) (h : H) (z : Nat) (x i : Opd) : St :=
  match evA ts x, asNat (evA ts i) with
  | .sl b o n _ z', some i => match Nat.blt i n, Nat.beq z z' with
    | true, true => .val (.ptr b (o + i * z)) h
    | _, _ => .no
  | _, _ => .no
def oIxAgg (ts : TS) (h : H) (n z size : Nat) (agg : Bool) (x i : Opd) : St :=
  match evA ts x, asNat (evA ts i) with
  | .agg cs, some i => match Nat.blt i n with
    | true => ofO h (partA cs (i * z) size agg)
    | false => .no
  | _, _ => .no
def oIxStr (ts : TS) (h : H) (x i : Opd) : St :=
  match evA ts x, asNat (evA ts i) with
  | .str s, some i => match s[i]? with
    | some c => .val (.int .u8 (Int.ofNat c)) h
    | none => .no
  | _, _ => .no
def oExt (ts : TS) (h : H) (i : Nat) (x : Opd) : St :=
  match evA ts x with
  | .tup vs => ofO h vs[i]?
  | _ => .no
def oTass (ts : TS) (h : H) (a : TypeId) (zero : AV) (ok : Bool) (x : Opd) : St :=
  match evA ts x with
  | .inil => match ok with
    | true => .val (.tup [zero, .bool false]) h
    | false => .no
  | .ifc t v => match Nat.beq t a, ok with
    | true, true => .val (.tup [v, .bool true]) h
    | true, false => .val v h
    | false, true => .val (.tup [zero, .bool false]) h
    | false, false => .no
  | _ => .no
def oCall (ts : TS) (h : H) (f : Opd) (args : List Opd) : St :=
  match evA ts f with
  | .fn f fst cap => .call f (fst ++ args.map (evA ts) ++ cap) h
  | _ => .no
def oDefer (ts : TS) (h : H) (f : Opd) (args : List Opd) : St :=
  match evA ts f with
  | .fn f fst cap => .defer f (fst ++ args.map (evA ts) ++ cap) h
  | _ => .no
def ofP : Option (AV × H) → St
  | some (v, h) => .val v h
  | none => .no
def ofH : Option H → St
  | some h => .skip h
  | none => .no
def oDel (h : H) : Option H → St
  | some h => .val (.tup []) h
  | none => .no
def oClear (ts : TS) (h : H) (z : Nat) (zero : List AV) (x : Opd) : St :=
  match evA ts x with
  | .snil => .val (.tup []) h
  | .sl b o n _ z' => match Nat.beq z z', storeA h b o (repA n zero) with
    | true, some h' => .val (.tup []) h'
    | _, _ => .no
  | _ => .no
def oPanic (ts : TS) (h : H) (x : Opd) : St :=
  match evA ts x with
  | .ifc t v => .pan (.ifc t v) h
  | _ => .no
def opA (ts : TS) (h : H) (o : CO) : St :=
  match o with
  | .mv x => .val (evA ts x) h
  | .pick c a b => oPick ts h c a b
  | .alloc z => .val (.ptr h.next 0) (h.new (.cells true z))
  | .box x => oBox ts h x
  | .build z ps => oBuild ts h z ps
  | .bslice n z cs ps => oBslice ts h n z cs ps
  | .load s g a => oLoad ts h s g a
  | .store s a x => oStore ts h s a x
  | .nilc x => ofO h (nilcA (evA ts x))
  | .bin op c x y => ofO h (binA h op c (evA ts x) (evA ts y))
  | .un op x => ofO h (unA op (evA ts x))
  | .conv k x => oConv ts h k x
  | .ofBytes x => oOfBytes ts h x
  | .convS x => oConvS ts h x
  | .mkIfc t x => .val (.ifc t (evA ts x)) h
  | .mkFn f a c => .val (.fn f (a.map (evA ts)) (c.map (evA ts))) h
  | .mkMap => .val (.map h.next) (h.new (.map [] 0))
  | .mkSl z b zero l c => oMkSl ts h z b zero l c
  | .slArr n z x lo hi mx => oSlArr ts h n z x lo hi mx
  | .slStr x lo hi => oSlStr ts h x lo hi
  | .sl z x lo hi mx => oSl ts h z x lo hi mx
  | .fieldA off x => oFieldA ts h off x
  | .field off s g x => oField ts h off s g x
  | .idxArr n z x i => oIdxArr ts h n z x i
  | .idxSl z x i => oIdxSl ts h z x i
  | .ixAgg n z s g x i => oIxAgg ts h n z s g x i
  | .ixStr x i => oIxStr ts h x i
  | .look q z x k ok => ofO h (lookA q z ok h (evA ts x) (evA ts k))
  | .upd q m k v => ofH (updateA q h (evA ts m) (evA ts k) (evA ts v))
  | .ext i x => oExt ts h i x
  | .tass a z ok x => oTass ts h a z ok x
  | .call f args => oCall ts h f args
  | .append z b s x => ofP (appendA z b h (evA ts s) (evA ts x))
  | .lenS x => ofO h (lenStr (evA ts x))
  | .lenL x => ofO h (lenSl (evA ts x))
  | .lenM x => ofO h (lenMp h (evA ts x))
  | .lenK n => .val (.int .i64 (Int.ofNat n)) h
  | .copy z d x => ofP (copyA z h (evA ts d) (evA ts x))
  | .min x y => ofO h (minA (evA ts x) (evA ts y))
  | .max x y => ofO h (maxA (evA ts x) (evA ts y))
  | .del q m k => oDel h (deleteA q h (evA ts m) (evA ts k))
  | .clear z zero x => oClear ts h z zero x
  | .recov => .recov h
  | .defer f args => oDefer ts h f args
  | .panic x => oPanic ts h x
inductive Fl where
  | norm | exit (n : Nat) | ret | pan (v : AV)
structure S where
  ts : TS
  ds : List (Nat × List AV)
  h : H
inductive Rc where
  | off
  | on (v : Option AV)
inductive Rs where
  | ok (f : Fl) (s : S) (rc : Rc)
  | no
inductive Cr where
  | ret (v : AV) (h : H)
  | pan (v : AV) (h : H)
  | no
def putT (ts : TS) (dst : Option Nat) (v : AV) : TS :=
  match dst with
  | some d => ts.set d (some v)
  | none => ts
def wantedA (ts : TS) (o : CR) : Bool :=
  match o.guard with
  | none => true
  | some (d, want) => match ts.get d with
    | some (.bool b) => b == want
    | _ => false
def guardOk (ts : TS) (o : CR) : Bool :=
  match o.guard with
  | none => true
  | some (d, _) => match ts.get d with
    | some .any => false
    | none => false
    | _ => true
def regA (cl : Nat → List AV → H → Cr) : List CR → S → Rc → Rs
  | [], s, rc => .ok .norm s rc
  | o :: rest, s, rc =>
    match guardOk s.ts o with
    | false => .no
    | true => match wantedA s.ts o with
      | false => regA cl rest ⟨putT s.ts o.dst undefA, s.ds, s.h⟩ rc
      | true => match opA s.ts s.h o.op with
        | .val v h => regA cl rest ⟨putT s.ts o.dst v, s.ds, h⟩ rc
        | .skip h => regA cl rest ⟨putT s.ts o.dst undefA, s.ds, h⟩ rc
        | .call f args h => match cl f args h with
          | .ret v h => regA cl rest ⟨putT s.ts o.dst v, s.ds, h⟩ rc
          | .pan v h => .ok (.pan v) ⟨s.ts, s.ds, h⟩ rc
          | .no => .no
        | .defer f args h => regA cl rest ⟨putT s.ts o.dst undefA, (f, args) :: s.ds, h⟩ rc
        | .recov h => match rc with
          | .on (some v) => regA cl rest ⟨putT s.ts o.dst v, s.ds, h⟩ (.on none)
          | .on none => regA cl rest ⟨putT s.ts o.dst .inil, s.ds, h⟩ (.on none)
          | .off => .no
        | .pan v h => .ok (.pan v) ⟨s.ts, s.ds, h⟩ rc
        | .no => .no
inductive Cl where
  | pure | reads | makes | acts | bars
  deriving DecidableEq
def CO.cl : CO → Cl
  | .load .. | .look .. | .lenM _ | .ofBytes _ | .slArr .. => .reads
  | .bin _ c _ _ => match c with | .ptr => .reads | _ => .pure
  | .alloc _ | .box _ | .bslice .. | .mkMap | .mkSl .. => .makes
  | .store .. | .upd .. | .call .. | .append .. | .copy .. | .del .. | .clear .. => .acts
  | .recov | .defer .. | .panic _ => .bars
  | _ => .pure
def isActs (o : CR) : Bool := match o.op.cl with | .acts => true | _ => false
def isReads (o : CR) : Bool := match o.op.cl with | .reads => true | _ => false
def resD (cl : Nat → List AV → H → Cr) (o : CR) (ts : TS) (h : H) : Option (AV × H) :=
  match guardOk ts o with
  | false => none
  | true => match wantedA ts o with
    | false => some (undefA, h)
    | true => match opA ts h o.op with
      | .val v h => some (v, h)
      | .skip h => some (undefA, h)
      | .call f args h => match cl f args h with
        | .ret v h => some (v, h)
        | _ => none
      | _ => none
def traceD (cl : Nat → List AV → H → Cr) : List CR → TS → H → Option (List (TS × H))
  | [], ts, h => some [(ts, h)]
  | o :: rest, ts, h => match resD cl o ts h with
    | some (v, h') => match traceD cl rest (putT ts o.dst v) h' with
      | some l => some ((ts, h) :: l)
      | none => none
    | none => none
def sameN : Option Nat → Option Nat → Bool
  | none, none => true
  | some a, some b => Nat.beq a b
  | _, _ => false
def sameV : AV → AV → Bool
  | .bool a, .bool b => a == b
  | .int k a, .int k' b => match kindEq k k' with | true => decide (a = b) | false => false
  | .str a, .str b => listEq a b
  | .ptr a b, .ptr c d => Nat.beq a c && Nat.beq b d
  | .pnil, .pnil => true
  | .sl a b c d e, .sl a' b' c' d' e' => Nat.beq a a' && Nat.beq b b' && Nat.beq c c' && sameN d d' && Nat.beq e e'
  | .snil, .snil => true
  | .map a, .map b => Nat.beq a b
  | .mnil, .mnil => true
  | .fnil, .fnil => true
  | .inil, .inil => true
  | _, _ => false
def sameL : List AV → List AV → Bool
  | [], [] => true
  | a :: as, b :: bs => sameV a b && sameL as bs
  | _, _ => false
def sameA : AV → AV → Bool
  | .agg a, .agg b => sameL a b
  | .tup a, .tup b => sameL a b
  | a, b => sameV a b
def holdsAt (o : CR) (ts : TS) (v : AV) (l : List (TS × H)) : List Nat → Bool
  | [] => true
  | q :: qs => match l[q]? with
    | some (_, h) => match opA ts h o.op with
      | .val v' _ => match sameA v v' with
        | true => holdsAt o ts v l qs
        | false => false
      | _ => false
    | none => false
def held1 (l : List (TS × H)) (o : CR) (ts : TS) (h : H) : Bool :=
  match isReads o, o.win, wantedA ts o with
  | true, _ :: _, true => match opA ts h o.op with
    | .val v _ => holdsAt o ts v l o.win
    | _ => false
  | _, _, _ => true
def heldD (all : List (TS × H)) : List CR → List (TS × H) → Bool
  | o :: rest, (ts, h) :: l => match held1 all o ts h with
    | true => heldD all rest l
    | false => false
  | _, _ => true
def blockAt (ops : List CR) (l : List (TS × H)) (i : Nat) : Option Nat :=
  match ops[i]?, l[i]? with
  | some o, some (ts, _) => match o.op with
    | .store _ a _ => match evA ts a with
      | .ptr b _ => some b
      | _ => none
    | _ => none
  | _, _ => none
def twoOk (ops : List CR) (l : List (TS × H)) : Option (Nat × Nat) → Bool
  | none => true
  | some (i, j) => match blockAt ops l i, blockAt ops l j with
    | some a, some b => !Nat.beq a b
    | _, _ => false
def drawA (cl : Nat → List AV → H → Cr) (ops : List CR) (two : Option (Nat × Nat)) (s : S) (rc : Rc) : Rs :=
  match traceD cl ops s.ts s.h with
  | some l => match heldD l ops l, twoOk ops l two, l.getLast? with
    | true, true, some (ts, h) => .ok .norm ⟨ts, s.ds, h⟩ rc
    | _, _, _ => .no
  | none => .no
structure Lv where
  exec : CC → S → Rc → Rs
  call : Nat → List AV → H → Cr
  callD : Nat → List AV → H → Option AV → Option (H × Option AV)
def resA (ts : TS) (h : H) : List (Nat × Option (Nat × Bool)) → Option (List AV)
  | [] => some []
  | (t, none) :: r => match resA ts h r with
    | some l => some (evA ts (.t t) :: l)
    | none => none
  | (t, some (size, agg)) :: r => match evA ts (.t t), resA ts h r with
    | .ptr b o, some l => match loadA size agg h b o with
      | some v => some (v :: l)
      | none => none
    | _, _ => none
def tupA : List AV → AV
  | [v] => v
  | l => .tup l
def leaveA (cd : Nat → List AV → H → Option AV → Option (H × Option AV)) (fn : CFn) : List (Nat × List AV) → TS → H → Option AV → Cr
  | [], ts, h, none => match resA ts h fn.results with
    | some l => .ret (tupA l) h
    | none => .no
  | [], _, h, some v => .pan v h
  | d :: ds, ts, h, u => match cd d.1 d.2 h u with
    | some (h', u') => leaveA cd fn ds ts h' u'
    | none => .no
def putArgs : List AV → Nat → TS → TS
  | [], _, ts => ts
  | v :: r, n, ts => putArgs r (n + 1) (ts.set n (some v))
def startA (args : List AV) (h : H) : S := ⟨putArgs args 0 .leaf, [], h⟩
def isOn : Rc → Bool
  | .on _ => true
  | .off => false
def execL (cx : Cx) (L : Lv) (c : CC) (s : S) (rc : Rc) : Rs :=
  match c with
  | .skip => .ok .norm s rc
  | .reg ops => regA L.call ops s rc
  | .draw ops two => drawA L.call ops two s rc
  | .seq a b => match L.exec a s rc with
    | .ok .norm s rc => L.exec b s rc
    | r => r
  | .cond c t e => match evA s.ts c with
    | .bool b => L.exec (match b with | true => t | false => e) s rc
    | _ => .no
  | .block id body => match isOn rc, L.exec body s rc with
    | false, .ok (.exit i) s rc => match Nat.beq i id with
      | true => .ok .norm s rc
      | false => .ok (.exit i) s rc
    | false, r => r
    | true, _ => .no
  | .loop body => match isOn rc, L.exec body s rc with
    | false, .ok .norm s rc => L.exec (.loop body) s rc
    | false, r => r
    | true, _ => .no
  | .exit id => match isOn rc with
    | false => .ok (.exit id) s rc
    | true => .no
  | .ret => match isOn rc with
    | false => .ok .ret s rc
    | true => .no
def callL (cx : Cx) (L : Lv) (f : Nat) (args : List AV) (h : H) : Cr :=
  match cx.ext f with
  | some e => match e args h with
    | some (v, h') => .ret v h'
    | none => .no
  | none => match cx.fn f with
    | some fn => match Nat.ble args.length fn.ntmps, L.exec fn.body (startA args h) .off with
      | true, .ok .norm s _ | true, .ok .ret s _ => leaveA L.callD fn s.ds s.ts s.h none
      | true, .ok (.pan v) s _ => leaveA L.callD fn s.ds s.ts s.h (some v)
      | _, _ => .no
    | none => .no
def endD (fn : CFn) (s : S) (u : Option AV) : Option (H × Option AV) :=
  match s.ds, resA s.ts s.h fn.results with
  | [], some _ => some (s.h, u)
  | _, _ => none
def recOps : List CR → Bool
  | [] => false
  | o :: r => match o.op with
    | .recov => true
    | _ => recOps r
def hasRec : CC → Bool
  | .reg ops => recOps ops
  | .seq a b => match hasRec a with
    | true => true
    | false => hasRec b
  | .cond _ a b => match hasRec a with
    | true => true
    | false => hasRec b
  | .block _ b => hasRec b
  | .loop b => hasRec b
  | _ => false
def dOff (fn : CFn) (u : Option AV) : Rs → Option (H × Option AV)
  | .ok .norm s _ => endD fn s u
  | .ok .ret s _ => endD fn s u
  | _ => none
def dOn (fn : CFn) : Rs → Option (H × Option AV)
  | .ok .norm s (.on u) => endD fn s u
  | _ => none
def callDL (cx : Cx) (L : Lv) (f : Nat) (args : List AV) (h : H) (u : Option AV) : Option (H × Option AV) :=
  match cx.fn f with
  | some fn => match Nat.ble args.length fn.ntmps, hasRec fn.body with
    | true, false => dOff fn u (L.exec fn.body (startA args h) .off)
    | true, true => dOn fn (L.exec fn.body (startA args h) (.on u))
    | false, _ => none
  | none => none
def mkLv (cx : Cx) (L : Lv) : Lv := { exec := execL cx L, call := callL cx L, callD := callDL cx L }
def lev0 : Lv := { exec := fun _ _ _ => .no, call := fun _ _ _ => .no, callD := fun _ _ _ _ => none }
def lev (cx : Cx) : Nat → Lv
  | 0 => lev0
  | n + 1 => mkLv cx (lev cx n)
end Go.Ab
namespace Go.Ab
def ofV1 : Value → AV
  | .bool b => .bool b
  | .int k n => .int k n
  | .string s => .str (s.data.toList.map (·.toNat))
  | .pointer none => .pnil
  | .slice none 0 0 => .snil
  | .map none => .mnil
  | .nilFunc => .fnil
  | .nilIface => .inil
  | _ => .any
def ofV : Value → AV
  | .agg cs => .agg (cs.toList.map ofV1)
  | v => ofV1 v
def opd : Operand → Opd
  | .tmp t => .t t
  | .const v => .k (ofV v)
  | .func f => .k (.fn f [] [])
  | .global _ => .k .any
def bad : CO := .panic (.k .any)
def isAggT (P : Program) (t : TypeId) : Option Bool :=
  match P.underlying t with
  | some (.struct _) => some true
  | some (.array _ _) => some true
  | some _ => some false
  | none => none
def zeroT (P : Program) (t : TypeId) : Option AV :=
  match P.info? t with
  | some i => match i.zero with
    | some v => some (ofV v)
    | none => none
  | none => none
def sizeT (P : Program) (t : TypeId) : Option Nat := (P.info? t).map (·.size)
def kindK (P : Program) (t : TypeId) : Option EqK :=
  match P.underlying t with
  | some (.int _) => some .int
  | some .bool => some .bool
  | some .string => some .str
  | _ => none
def kindsF (P : Program) : List Field → Nat → Option (List EqK)
  | [], _ => some []
  | f :: r, i => match f.name != "_" && f.offset == i && sizeT P f.type == some 1, kindK P f.type, kindsF P r (i + 1) with
    | true, some k, some l => some (k :: l)
    | _, _, _ => none
def isKc : Operand → Bool
  | .const _ => true
  | _ => false
def eqC (P : Program) (op : BinOp) (t : TypeId) (x y : Operand) : Option EqC :=
  match P.underlying t with
  | some (.int _) | some .string => some .plain
  | some .bool => some .bool
  | some (.pointer e) => match sizeT P e with
    | some (_ + 1) => some .ptr
    | _ => none
  | some (.interface _) => if isKc x || isKc y then some .ifc else none
  | some (.struct fs) => match P.stoodInHeld t || P.eqGuardType P.depth t, kindsF P fs.toList 0 with
    | false, some ks => some (.strct ks)
    | _, _ => none
  | some (.slice _) => some .slc
  | some (.map _ _) => some .mp
  | some (.func ..) => some .fnc
  | _ => none
def partsS (P : Program) (fs : Array Field) : List (Nat × Operand) → Option (List (Nat × Nat × Opd))
  | [] => some []
  | (i, x) :: r => match fs[i]?, partsS P fs r with
    | some f, some l => match sizeT P f.type with
      | some s => some ((f.offset, s, opd x) :: l)
      | none => none
    | _, _ => none
def partsA (z : Nat) : List (Nat × Operand) → List (Nat × Nat × Opd)
  | [] => []
  | (i, x) :: r => (i * z, z, opd x) :: partsA z r
def cellsT (P : Program) (t : TypeId) : Option (List AV) := (zeroT P t).map AV.cells
def keyT (P : Program) (k : TypeId) : Option EqK :=
  match P.underlying k with
  | some (.int _) => some .int
  | some .string => some .str
  | _ => none
def compCall (P : Program) (c : Call) : Option CO :=
  match c.callee with
  | .value f => some (.call (opd f) (c.args.toList.map opd))
  | .invoke _ _ => none
  | .builtin b =>
    match b, c.argTypes.toList, c.args.toList with
    | .append, [t, u], [s, x] => match P.underlying t, P.underlying u with
      | some (.slice e), some d => match (match d with | .slice _ => true | .string => true | _ => false), P.info? e with
        | true, some i => match i.size, i.zero with
          | z + 1, some v => if v.cells.size = z + 1 then some (.append (z + 1) i.bytes (opd s) (opd x)) else none
          | _, _ => none
        | _, _ => none
      | _, _ => none
    | .len, [t], [x] => match P.underlying t with
      | some .string => some (.lenS (opd x))
      | some (.slice _) => some (.lenL (opd x))
      | some (.map _ _) => some (.lenM (opd x))
      | some (.array n _) => some (.lenK n)
      | _ => none
    | .copy, t :: _, [d, x] => match P.underlying t with
      | some (.slice e) => match sizeT P e with
        | some (z + 1) => some (.copy (z + 1) (opd d) (opd x))
        | _ => none
      | _ => none
    | .min, _, [x, y] => some (.min (opd x) (opd y))
    | .max, _, [x, y] => some (.max (opd x) (opd y))
    | .delete, t :: _, [m, k] => match P.underlying t with
      | some (.map kt _) => (keyT P kt).map fun q => .del q (opd m) (opd k)
      | _ => none
    | .clear, [t], [x] => match P.underlying t with
      | some (.slice e) => match sizeT P e, cellsT P e with
        | some (z + 1), some cs => if cs.length = z + 1 then some (.clear (z + 1) cs (opd x)) else none
        | _, _ => none
      | _ => none
    | .recover, [], [] => some .recov
    | _, _, _ => none
def mxOk (hi mx : Option Operand) : Bool := hi.isSome || mx.isNone
def comp1 (P : Program) (o : Op) : Option CO :=
  match o with
  | .move x | .assign x => some (.mv (opd x))
  | .pick c a b => some (.pick (opd c) (opd a) (opd b))
  | .alloc e => (cellsT P e).map .alloc
  | .box _ x => some (.box (opd x))
  | .build t parts => match P.underlying t, cellsT P t with
    | some (.struct fs), some z => if fs.toList.all (fun f => (sizeT P f.type).isSome) then (partsS P fs parts.toList).map (.build z) else none
    | some (.array _ e), some z => (sizeT P e).map fun s => .build z (partsA s parts.toList)
    | _, _ => none
  | .buildSlice t n parts => match P.underlying t with
    | some (.slice e) => match sizeT P e, cellsT P e with
      | some (z + 1), some cs => if cs.length = z + 1 ∧ n * (z + 1) ≤ 2 ^ 24 then some (.bslice n (z + 1) (repA n cs) (partsA (z + 1) parts.toList)) else none
      | _, _ => none
    | _ => none
  | .load t a => match sizeT P t, isAggT P t with
    | some s, some g => some (.load s g (opd a))
    | _, _ => none
  | .store t a x => (sizeT P t).map fun s => .store s (opd a) (opd x)
  | .nilCheck x => some (.nilc (opd x))
  | .binOp op t x y _ => (eqC P op t x y).map fun c => .bin op c (opd x) (opd y)
  | .unOp op _ x => some (.un op (opd x))
  | .convert src dst x => match P.underlying src, P.underlying dst with
    | some _, some (.int k) => some (.conv k (opd x))
    | some .string, some .string => some (.convS (opd x))
    | some (.slice e), some .string => match P.underlying e with
      | some (.int .u8) => some (.ofBytes (opd x))
      | _ => none
    | _, _ => none
  | .makeInterface t x => match P.underlying t with
    | some (.interface _) => none
    | some _ => some (.mkIfc t (opd x))
    | none => none
  | .makeFunc (.func f) fst cap => some (.mkFn f (fst.toList.map opd) (cap.toList.map opd))
  | .makeMap _ none => some .mkMap
  | .makeSlice t l c => match P.underlying t with
    | some (.slice e) => match P.info? e, cellsT P e with
      | some i, some cs => match i.size with
        | z + 1 => if cs.length = z + 1 then some (.mkSl (z + 1) i.bytes cs (opd l) (opd c)) else none
        | 0 => none
      | _, _ => none
    | _ => none
  | .slice t x lo hi mx => match P.underlying t with
    | some (.array n e) => match sizeT P e with
      | some (z + 1) => some (.slArr n (z + 1) (opd x) (lo.map opd) (hi.map opd) (mx.map opd))
      | _ => none
    | some .string => match mx with
      | none => some (.slStr (opd x) (lo.map opd) (hi.map opd))
      | some _ => none
    | some (.slice e) => match sizeT P e, mxOk hi mx with
      | some (z + 1), true => some (.sl (z + 1) (opd x) (lo.map opd) (hi.map opd) (mx.map opd))
      | _, _ => none
    | _ => none
  | .fieldAddr t x f => match P.underlying t with
    | some (.struct fs) => match fs[f]? with
      | some fd => match sizeT P fd.type with
        | some (_ + 1) => some (.fieldA fd.offset (opd x))
        | _ => none
      | none => none
    | _ => none
  | .field t x f => match P.underlying t with
    | some (.struct fs) => match fs[f]? with
      | some fd => match sizeT P fd.type, isAggT P fd.type with
        | some s, some g => some (.field fd.offset s g (opd x))
        | _, _ => none
      | none => none
    | _ => none
  | .indexAddr t x i => match P.underlying t with
    | some (.array n e) => (sizeT P e).map fun z => .idxArr n z (opd x) (opd i)
    | some (.slice e) => match sizeT P e with
      | some (z + 1) => some (.idxSl (z + 1) (opd x) (opd i))
      | _ => none
    | _ => none
  | .index t x i => match P.underlying t with
    | some (.array n e) => match sizeT P e, isAggT P e with
      | some z, some g => some (.ixAgg n z z g (opd x) (opd i))
      | _, _ => none
    | some .string => some (.ixStr (opd x) (opd i))
    | _ => none
  | .lookup t x k ok => match P.underlying t with
    | some (.map kt e) => match keyT P kt, zeroT P e with
      | some q, some z => some (.look q z (opd x) (opd k) ok)
      | _, _ => none
    | _ => none
  | .mapUpdate t m k x | .insert t m k x => match P.underlying t with
    | some (.map kt _) => (keyT P kt).map fun q => .upd q (opd m) (opd k) (opd x)
    | _ => none
  | .extract t i => some (.ext i (opd t))
  | .typeAssert x _ a ok => match P.underlying a with
    | some (.interface _) => none
    | some _ => (zeroT P a).map fun z => .tass a z ok (opd x)
    | none => none
  | .call c => compCall P c
  | .defer c => match c.callee with
    | .value f => some (.defer (opd f) (c.args.toList.map opd))
    | _ => none
  | .panic x => some (.panic (opd x))
  | _ => none
def dstOk (N : Nat) : Option Nat → Bool
  | some d => Nat.blt d N
  | none => true
def compOp (P : Program) (N : Nat) (ops : Array Oper) (o : Oper) : Option CR :=
  match dstOk N o.dst with
  | false => none
  | true => match o.guard with
    | none => some { dst := o.dst, op := (comp1 P o.op).getD bad, guard := none, win := [] }
    | some (g, want) => match (ops[g]?).bind (·.dst) with
      | some d => some { dst := o.dst, op := (comp1 P o.op).getD bad, guard := some (d, want), win := [] }
      | none => none
def compOps (P : Program) (N : Nat) (ops : Array Oper) : List Oper → Option (List CR)
  | [] => some []
  | o :: r => match compOp P N ops o, compOps P N ops r with
    | some c, some l => some (c :: l)
    | _, _ => none
def befOf (done : List Nat) (o : Oper) : Nat :=
  o.after.toList.foldl (fun m e => if Region.binds .any e then m ||| 2 ^ e.on ||| done.getD e.on 0 else m) 0
def befs : List Oper → List Nat → List Nat
  | [], done => done
  | o :: r, done => befs r (done ++ [befOf done o])
def looksC (c : CR) : List Nat := c.op.slots ++ (match c.guard with | some (d, _) => [d] | none => [])
def hasN (d : Nat) : List Nat → Bool
  | [] => false
  | x :: r => match Nat.beq d x with
    | true => true
    | false => hasN d r
def apartC (x y : CR) : Bool :=
  (match x.dst with | some d => !hasN d (looksC y) && !sameN y.dst (some d) | none => true) &&
  (match y.dst with | some d => !hasN d (looksC x) | none => true)
structure DI where
  o : Oper
  c : CR
  bef : Nat
  i : Nat
def zipDI : List Oper → List CR → List Nat → Nat → List DI
  | o :: os, c :: cs, b :: bs, i => ⟨o, c, b, i⟩ :: zipDI os cs bs (i + 1)
  | _, _, _, _ => []
def isMakes (o : CR) : Bool := match o.op.cl with | .makes => true | _ => false
def isPure (o : CR) : Bool := match o.op.cl with | .pure => true | _ => false
def place : List DI → List DI → List DI
  | [], rem => rem
  | q :: qs, rem => rem.filter (fun x => q.bef.testBit x.i) ++ q :: place qs (rem.filter fun x => !q.bef.testBit x.i)
def reorder (l : List DI) : List DI := place (l.filter fun x => isActs x.c) (l.filter fun x => !isActs x.c)
def all1 (f : Nat → DI → Bool) : List DI → Nat → Bool
  | [], _ => true
  | y :: r, k => match f k y with
    | true => all1 f r (k + 1)
    | false => false
def all2 (f : Nat → Nat → DI → DI → Bool) : List DI → Nat → Bool
  | [], _ => true
  | x :: r, j => match all1 (fun k y => f j k x y) r (j + 1) with
    | true => all2 f r (j + 1)
    | false => false
def isTwo : Option (Nat × Nat) → Nat → Nat → Bool
  | some (a, b), j, k => Nat.beq a j && Nat.beq b k
  | none, _, _ => false
def pairOk (two : Option (Nat × Nat)) (j k : Nat) (x y : DI) : Bool :=
  !x.bef.testBit y.i && !Nat.beq x.i y.i &&
  (y.bef.testBit x.i || (apartC x.c y.c && (!(isActs x.c && isActs y.c) || isTwo two j k) && !(isMakes x.c && isActs y.c)))
def actPos : List DI → Nat → List (Nat × DI)
  | [], _ => []
  | x :: r, j => match isActs x.c with
    | true => (j, x) :: actPos r (j + 1)
    | false => actPos r (j + 1)
def isStore (x : CR) : Bool := (match x.op with | .store .. => true | _ => false) && x.guard.isNone
def restOk (x y : DI) (j k a : Nat) (e : DI) : Bool := isPure e.c || Nat.beq a j || Nat.beq a k || (x.bef.testBit e.i && y.bef.testBit e.i)
def twoOf (l : List DI) : Option (Nat × Nat) :=
  match (actPos l 0).reverse with
  | (k, y) :: (j, x) :: _ => match y.bef.testBit x.i with
    | true => none
    | false => some (j, k)
  | _ => none
def twoChk (l : List DI) : Option (Nat × Nat) → Bool
  | none => true
  | some (j, k) => match l[j]?, l[k]? with
    | some x, some y => Nat.blt j k && isStore x.c && isStore y.c && all1 (restOk x y j k) l 0
    | _, _ => false
def oneOk (x : DI) : Bool :=
  (x.o.after.toList.all fun e => !Region.binds .any e || Nat.blt e.on x.i) &&
  (match x.c.op.cl with | .bars => false | _ => true)
def winOf (x : DI) (k : Nat) : List DI → Nat → List Nat
  | [], _ => []
  | y :: r, a => match isActs y.c with
    | true => match Nat.blt a k, x.bef.testBit y.i, y.bef.testBit x.i, Nat.beq a k with
      | true, false, _, _ => a :: winOf x k r (a + 1)
      | false, _, false, false => (a + 1) :: winOf x k r (a + 1)
      | _, _, _, _ => winOf x k r (a + 1)
    | false => winOf x k r (a + 1)
def wins (l : List DI) : List DI → Nat → List CR
  | [], _ => []
  | x :: r, k => { x.c with win := winOf x k l 0 } :: wins l r (k + 1)
def covers (l : List DI) : Nat → Bool
  | 0 => true
  | n + 1 => l.any (fun e => Nat.beq e.i n) && covers l n
def chkD (n : Nat) (l : List DI) (two : Option (Nat × Nat)) : Bool :=
  Nat.beq l.length n && covers l n && l.all oneOk && all2 (pairOk two) l 0 && twoChk l two
def stuckC : CC := .cond (.k .any) .skip .skip
def drawL (n : Nat) (l : List DI) (two : Option (Nat × Nat)) : CC :=
  match chkD n l two with
  | true => .draw (wins l l 0) two
  | false => stuckC
def compDraw (P : Program) (N : Nat) (ops : Array Oper) : CC :=
  match compOps P N ops ops.toList with
  | none => stuckC
  | some cs => drawL ops.size (reorder (zipDI ops.toList cs (befs ops.toList []) 0)) (twoOf (reorder (zipDI ops.toList cs (befs ops.toList []) 0)))
def compC (P : Program) (N : Nat) : Code → CC
  | .skip | .label _ => .skip
  | .region _ ops false => match compOps P N ops ops.toList with
    | some l => .reg l
    | none => stuckC
  | .region _ ops true => compDraw P N ops
  | .seq a b => .seq (compC P N a) (compC P N b)
  | .cond c t e => .cond (opd c) (compC P N t) (compC P N e)
  | .block id b => .block id (compC P N b)
  | .loop b => .loop (compC P N b)
  | .exit id => .exit id
  | .ret => .ret
  | _ => stuckC
def compR (P : Program) : List ResultVar → Option (List (Nat × Option (Nat × Bool)))
  | [] => some []
  | .tmp t :: r => (compR P r).map fun l => (t, none) :: l
  | .cell a t :: r => match sizeT P t, isAggT P t, compR P r with
    | some s, some g, some l => some ((a, some (s, g)) :: l)
    | _, _, _ => none
def comp (P : Program) (f : Func) : Option CFn :=
  match f.body, compR P f.results.toList with
  | some c, some r => if f.name == "runtime.NumGoroutine" then none else some { body := compC P f.ntmps c, ntmps := f.ntmps, results := r }
  | _, _ => none
end Go.Ab
namespace Go.Ab
structure Loc where
  blk : Nat
  base : Nat
  size : Nat
abbrev Ren := Nat → Option Loc
inductive VR (σ : Ren) : AV → Value → Prop
  | bool (b : Bool) : VR σ (.bool b) (.bool b)
  | int (k : IntKind) (n : Int) : VR σ (.int k n) (.int k n)
  | str (s : ByteArray) : VR σ (.str (s.data.toList.map (·.toNat))) (.string s)
  | pnil : VR σ .pnil (.pointer none)
  | ptr {b o : Nat} {L : Loc} (h : σ b = some L) : VR σ (.ptr b o) (.pointer (some ⟨L.blk, L.base + o, none⟩))
  | snil : VR σ .snil (.slice none 0 0)
  | esl (A : Option Addr) (c : Nat) : VR σ .esl (.slice A 0 c)
  | sl {b o len z off c : Nat} {cap : Option Nat} {L : Loc} (h : σ b = some L) (hl : len ≤ c) (hc : ∀ k, cap = some k → k = c) (hz : 0 < z) (hs : off + c * z ≤ L.size)
      (ho : c = 0 ∨ off = L.base + o) : VR σ (.sl b o len cap z) (.slice (some ⟨L.blk, off, none⟩) len c)
  | map {b : Nat} {L : Loc} (h : σ b = some L) : VR σ (.map b) (.map (some L.blk))
  | mnil : VR σ .mnil (.map none)
  | fnil : VR σ .fnil .nilFunc
  | inil : VR σ .inil .nilIface
  | fn {f : FuncId} {fst cap : List AV} {fst' cap' : Array Value} (h1 : fst.length = fst'.size) (h2 : ∀ (i : Nat) (v : AV) (v' : Value), fst[i]? = some v → fst'[i]? = some v' → VR σ v v')
      (h3 : cap.length = cap'.size) (h4 : ∀ (i : Nat) (v : AV) (v' : Value), cap[i]? = some v → cap'[i]? = some v' → VR σ v v') : VR σ (.fn f fst cap) (.func (.func f) fst' cap')
  | ifc {t : TypeId} {v : AV} {v' : Value} (h : VR σ v v') : VR σ (.ifc t v) (.iface t v')
  | agg {cs : List AV} {ds : Array Value} (h1 : cs.length = ds.size) (h2 : ∀ (i : Nat) (v : AV) (v' : Value), cs[i]? = some v → ds[i]? = some v' → VR σ v v') : VR σ (.agg cs) (.agg ds)
  | tup {cs : List AV} {ds : Array Value} (h1 : cs.length = ds.size) (h2 : ∀ (i : Nat) (v : AV) (v' : Value), cs[i]? = some v → ds[i]? = some v' → VR σ v v') : VR σ (.tup cs) (.tuple ds)
  | any (v : Value) : VR σ .any v
def LR (σ : Ren) (l : List AV) (l' : List Value) : Prop := l.length = l'.length ∧ ∀ (i : Nat) (v : AV) (v' : Value), l[i]? = some v → l'[i]? = some v' → VR σ v v'
def Le (σ σ' : Ren) : Prop := ∀ b L, σ b = some L → σ' b = some L
theorem Le.refl (σ : Ren) : Le σ σ := fun _ _ h => h
theorem VR.mono {σ σ' : Ren} (hle : Le σ σ') {v : AV} {v' : Value} (h : VR σ v v') : VR σ' v v' := by
  induction h with
  | bool b => exact .bool b
  | int k n => exact .int k n
  | str s => exact .str s
  | pnil => exact .pnil
  | ptr h => exact .ptr (hle _ _ h)
  | snil => exact .snil
  | esl A c => exact .esl A c
  | sl h a b c d e => exact .sl (hle _ _ h) a b c d e
  | map h => exact .map (hle _ _ h)
  | mnil => exact .mnil
  | fnil => exact .fnil
  | inil => exact .inil
  | fn h1 _ h3 _ ih1 ih2 => exact .fn h1 ih1 h3 ih2
  | ifc _ ih => exact .ifc ih
  | agg h1 _ ih => exact .agg h1 ih
  | tup h1 _ ih => exact .tup h1 ih
  | any v => exact .any v
theorem LR.mono {σ σ' : Ren} (hle : Le σ σ') {l : List AV} {l' : List Value} (h : LR σ l l') : LR σ' l l' := ⟨h.1, fun i v v' a b => (h.2 i v v' a b).mono hle⟩
theorem LR.nil (σ : Ren) : LR σ [] [] := ⟨rfl, fun i v v' a => by simp at a⟩
theorem LR.cons {σ : Ren} {v : AV} {v' : Value} {l : List AV} {l' : List Value} (h : VR σ v v') (hl : LR σ l l') : LR σ (v :: l) (v' :: l') := by
  refine ⟨by simp [hl.1], fun i a b ha hb => ?_⟩
  cases i with
  | zero => simp at ha hb; subst ha; subst hb; exact h
  | succ i => simp at ha hb; exact hl.2 i a b ha hb
theorem LR.one {σ : Ren} {v : AV} {v' : Value} (h : VR σ v v') : LR σ [v] [v'] := .cons h (.nil σ)
theorem LR.cons_inv {σ : Ren} {v : AV} {l : List AV} {l' : List Value} (h : LR σ (v :: l) l') : ∃ v' r, l' = v' :: r ∧ VR σ v v' ∧ LR σ l r := by
  cases l' with
  | nil => simp [LR] at h
  | cons v' r =>
    refine ⟨v', r, rfl, h.2 0 v v' rfl rfl, by have := h.1; simp at this; exact this, fun i a b ha hb => h.2 (i + 1) a b (by simpa using ha) (by simpa using hb)⟩
theorem LR.nil_inv {σ : Ren} {l' : List Value} (h : LR σ [] l') : l' = [] := List.eq_nil_of_length_eq_zero h.1.symm
theorem LR.append {σ : Ren} {a b : List AV} {a' b' : List Value} (h : LR σ a a') (k : LR σ b b') : LR σ (a ++ b) (a' ++ b') := by
  refine ⟨by simp [h.1, k.1], fun i v v' hv hv' => ?_⟩
  by_cases hi : i < a.length
  · rw [List.getElem?_append_left hi] at hv
    rw [List.getElem?_append_left (by rw [← h.1]; exact hi)] at hv'
    exact h.2 i v v' hv hv'
  · rw [List.getElem?_append_right (by omega)] at hv
    rw [List.getElem?_append_right (by rw [← h.1]; omega), ← h.1] at hv'
    exact k.2 _ v v' hv hv'
theorem LR.take {σ : Ren} {a : List AV} {a' : List Value} (h : LR σ a a') (n : Nat) : LR σ (a.take n) (a'.take n) := by
  refine ⟨by simp [h.1], fun i v v' hv hv' => ?_⟩
  rw [List.getElem?_take] at hv hv'
  split at hv
  · rename_i hi; rw [if_pos hi] at hv'; exact h.2 i v v' hv hv'
  · simp at hv
theorem LR.drop {σ : Ren} {a : List AV} {a' : List Value} (h : LR σ a a') (n : Nat) : LR σ (a.drop n) (a'.drop n) := by
  refine ⟨by simp [h.1], fun i v v' hv hv' => ?_⟩
  rw [List.getElem?_drop] at hv hv'
  exact h.2 _ v v' hv hv'
theorem LR.splice {σ : Ren} {a v : List AV} {a' v' : List Value} (h : LR σ a a') (k : LR σ v v') (o : Nat) : LR σ (splice a o v) (a'.take o ++ v' ++ a'.drop (o + v'.length)) := by
  unfold Ab.splice
  rw [← k.1]
  exact ((h.take o).append k).append (h.drop _)
theorem LR.get {σ : Ren} {a : List AV} {a' : List Value} (h : LR σ a a') {i : Nat} {v : AV} (hv : a[i]? = some v) : ∃ v', a'[i]? = some v' ∧ VR σ v v' := by
  have hi : i < a.length := by
    rcases Nat.lt_or_ge i a.length with h | h
    · exact h
    · rw [List.getElem?_eq_none h] at hv; cases hv
  have hi' : i < a'.length := by rw [← h.1]; exact hi
  exact ⟨a'[i], List.getElem?_eq_getElem hi', h.2 i v _ hv (List.getElem?_eq_getElem hi')⟩
theorem LR.replicate {σ : Ren} {z : List AV} {z' : List Value} (h : LR σ z z') (n : Nat) : LR σ (repA n z) (List.replicate n z').flatten := by
  induction n with
  | zero => simpa [repA] using LR.nil σ
  | succ n ih =>
    have : repA (n + 1) z = z ++ repA n z := by simp [repA, List.replicate_succ]
    rw [this, List.replicate_succ, List.flatten_cons]
    exact h.append ih
theorem LR.map_ev {σ : Ren} {α : Type} (f : α → AV) (g : α → Value) (l : List α) (h : ∀ x ∈ l, VR σ (f x) (g x)) : LR σ (l.map f) (l.map g) := by
  induction l with
  | nil => exact .nil σ
  | cons x l ih => exact .cons (h x (by simp)) (ih fun y hy => h y (by simp [hy]))
theorem VR.of_agg {σ : Ren} {cs : List AV} {v' : Value} (h : VR σ (.agg cs) v') : ∃ ds, v' = .agg ds ∧ LR σ cs ds.toList := by
  cases h with
  | agg h1 h2 => exact ⟨_, rfl, by simpa using h1, fun i v v' a b => h2 i v v' a (by simpa using b)⟩
theorem VR.mk_agg {σ : Ren} {cs : List AV} {ds : List Value} (h : LR σ cs ds) : VR σ (.agg cs) (.agg ds.toArray) :=
  .agg (by simpa using h.1) fun i v v' a b => h.2 i v v' a (by simpa using b)
theorem VR.mk_agg' {σ : Ren} {cs : List AV} {ds : Array Value} (h : LR σ cs ds.toList) : VR σ (.agg cs) (.agg ds) :=
  .agg (by simpa using h.1) fun i v v' a b => h.2 i v v' a (by simpa using b)
theorem VR.mk_tup {σ : Ren} {cs : List AV} {ds : List Value} (h : LR σ cs ds) : VR σ (.tup cs) (.tuple ds.toArray) :=
  .tup (by simpa using h.1) fun i v v' a b => h.2 i v v' a (by simpa using b)
theorem VR.cells {σ : Ren} {v : AV} {v' : Value} (h : VR σ v v') (hv : ∀ ds, v' = .agg ds → ∃ cs, v = .agg cs) : LR σ v.cells v'.cells.toList := by
  cases h with
  | agg h1 h2 => exact ⟨by simpa [AV.cells, Value.cells] using h1, fun i v v' a b => h2 i v v' (by simpa [AV.cells] using a) (by simpa [Value.cells] using b)⟩
  | any => cases v' <;> first | exact .one (.any _) | (obtain ⟨cs, hc⟩ := hv _ rfl; cases hc)
  | ifc h => exact .one (.ifc h)
  | fn a b c d => exact .one (.fn a b c d)
  | tup a b => exact .one (.tup a b)
  | bool b => exact .one (.bool b)
  | int k n => exact .one (.int k n)
  | str s => exact .one (.str s)
  | pnil => exact .one .pnil
  | ptr h => exact .one (.ptr h)
  | snil => exact .one .snil
  | esl A c => exact .one (.esl A c)
  | sl a b c d e f => exact .one (.sl a b c d e f)
  | map h => exact .one (.map h)
  | mnil => exact .one .mnil
  | fnil => exact .one .fnil
  | inil => exact .one .inil
theorem VR.oneCell {σ : Ren} {v : AV} {v' : Value} (h : VR σ v v') (hk : cellOk v = true) : v'.oneCell' = true := by
  cases h <;> first | rfl | cases hk
theorem LR.oneCell {σ : Ren} : ∀ {l : List AV} {l' : List Value}, LR σ l l' → cellsOk l = true → ∀ v ∈ l', v.oneCell' = true := by
  intro l
  induction l with
  | nil => intro l' h _ v hv; rw [h.nil_inv] at hv; cases hv
  | cons a l ih =>
    intro l' h hk v hv
    obtain ⟨b, r, rfl, hab, hr⟩ := h.cons_inv
    have h1 : cellOk a = true := by
      cases e : cellOk a with
      | true => rfl
      | false => simp [cellsOk, e] at hk
    have h2 : cellsOk l = true := by simpa [cellsOk, h1] using hk
    rcases List.mem_cons.1 hv with rfl | hv
    · exact hab.oneCell h1
    · exact ih hr h2 v hv
theorem brOwn {a s p : Nat} (h : a ≤ s ∧ p ≤ a ∧ (true = true → a = s)) : a = s ∧ p ≤ s := ⟨h.2.2 rfl, by have := h.2.2 rfl; have := h.2.1; omega⟩
def BR (σ : Ren) (x : Bk) (L : Loc) (w : World) : Prop :=
  match x with
  | .cells own cs => ∃ arr e fr, w.heap[L.blk]? = some (.cells arr e fr) ∧ (arr.size ≤ L.size ∧ L.base + cs.length ≤ arr.size ∧ (own = true → arr.size = L.size)) ∧ LR σ cs ((arr.toList.drop L.base).take cs.length) ∧ (own = true → fr = (0, 0))
  | .map es c => ∃ es' : Array MapEntry, w.heap[L.blk]? = some (.map es' c) ∧ es'.size = es.length ∧
      ∀ (i : Nat) (e : ME) (e' : MapEntry), es[i]? = some e → es'[i]? = some e' → VR σ e.key e'.key ∧ VR σ e.val e'.val ∧ e.born = e'.born
def Own (h : H) (b : Nat) : Prop := (∃ cs, h.get b = some (.cells true cs)) ∨ (∃ es c, h.get b = some (.map es c))
structure HR (σ : Ren) (h : H) (w : World) : Prop where
  bnd : ∀ b L, σ b = some L → L.blk < w.heap.size
  blk : ∀ b x L, h.get b = some x → σ b = some L → BR σ x L w
  inj : ∀ b b' L L', b ≠ b' → Own h b → (h.get b').isSome = true → σ b = some L → σ b' = some L' → L.blk ≠ L'.blk
  nx : ∀ b, (h.get b).isSome = true → b < h.next
structure Ext (σ σ' : Ren) (h h' : H) (w w' : World) : Prop where
  next : h.next ≤ h'.next
  out : ∀ b, ¬ (h.next ≤ b ∧ b < h'.next) → σ' b = σ b
  fresh : ∀ b, h.next ≤ b → b < h'.next → σ b = none
  os : w'.os = w.os
  tape : w'.tape = w.tape
  output : w'.output = w.output
  size : w.heap.size ≤ w'.heap.size
  keep : ∀ c, c < w.heap.size → (∀ b L, Own h b → σ b = some L → L.blk ≠ c) → w'.heap[c]? = w.heap[c]?
  own : ∀ b L, Own h' b → σ' b = some L → w.heap.size ≤ L.blk ∨ ∃ b0 L0, Own h b0 ∧ σ b0 = some L0 ∧ L0.blk = L.blk
  live : ∀ b L, (h'.get b).isSome = true → σ' b = some L → w.heap.size ≤ L.blk ∨ ∃ b0 L0, (h.get b0).isSome = true ∧ σ b0 = some L0 ∧ L0.blk = L.blk
theorem Ext.refl (σ : Ren) (h : H) (w : World) : Ext σ σ h h w w :=
  ⟨Nat.le_refl _, fun _ _ => rfl, fun b h1 h2 => absurd h2 (by omega), rfl, rfl, rfl, Nat.le_refl _, fun _ _ _ => rfl, fun b L ho hs => .inr ⟨b, L, ho, hs, rfl⟩, fun b L ho hs => .inr ⟨b, L, ho, hs, rfl⟩⟩
theorem Ext.le {σ σ' : Ren} {h h' : H} {w w' : World} (e : Ext σ σ' h h' w w') : Le σ σ' := by
  intro b L hb
  by_cases hr : h.next ≤ b ∧ b < h'.next
  · rw [e.fresh b hr.1 hr.2] at hb; cases hb
  · rw [e.out b hr]; exact hb
theorem Ext.trans {σ σ1 σ2 : Ren} {h h1 h2 : H} {w w1 w2 : World} (a : Ext σ σ1 h h1 w w1) (b : Ext σ1 σ2 h1 h2 w1 w2) : Ext σ σ2 h h2 w w2 := by
  refine ⟨Nat.le_trans a.next b.next, fun x hx => ?_, fun x h1' h2' => ?_, b.os.trans a.os, b.tape.trans a.tape, b.output.trans a.output, Nat.le_trans a.size b.size, fun c hc hn => ?_, fun x L ho hs => ?_, fun x L ho hs => ?_⟩
  · rw [b.out x (fun hh => hx ⟨Nat.le_trans a.next hh.1, hh.2⟩), a.out x (fun hh => hx ⟨hh.1, Nat.lt_of_lt_of_le hh.2 b.next⟩)]
  · by_cases hlt : x < h1.next
    · exact a.fresh x h1' hlt
    · have h3 := b.fresh x (by omega) h2'
      rw [a.out x (fun hh => hlt hh.2)] at h3
      exact h3
  · have h1' := a.keep c hc hn
    rw [← h1']
    refine b.keep c (Nat.lt_of_lt_of_le hc a.size) (fun x L ho hs => ?_)
    rcases a.own x L ho hs with h2' | ⟨b0, L0, ho0, hs0, he⟩
    · omega
    · rw [← he]; exact hn b0 L0 ho0 hs0
  · rcases b.own x L ho hs with h2' | ⟨b0, L0, ho0, hs0, he⟩
    · exact .inl (Nat.le_trans a.size h2')
    · rcases a.own b0 L0 ho0 hs0 with h3 | ⟨b1, L1, ho1, hs1, he1⟩
      · exact .inl (by rw [← he]; exact h3)
      · exact .inr ⟨b1, L1, ho1, hs1, he1.trans he⟩
  · rcases b.live x L ho hs with h2' | ⟨b0, L0, ho0, hs0, he⟩
    · exact .inl (Nat.le_trans a.size h2')
    · rcases a.live b0 L0 ho0 hs0 with h3 | ⟨b1, L1, ho1, hs1, he1⟩
      · exact .inl (by rw [← he]; exact h3)
      · exact .inr ⟨b1, L1, ho1, hs1, he1.trans he⟩
theorem Ext.drew {σ : Ren} {h : H} {w : World} : Ext σ σ h h w w.drew :=
  ⟨Nat.le_refl _, fun _ _ => rfl, fun b h1 h2 => absurd h2 (by omega), rfl, rfl, rfl, Nat.le_refl _, fun _ _ _ => rfl, fun b L ho hs => .inr ⟨b, L, ho, hs, rfl⟩, fun b L ho hs => .inr ⟨b, L, ho, hs, rfl⟩⟩
theorem BR.heap {σ : Ren} {x : Bk} {L : Loc} {w w' : World} (h : BR σ x L w) (e : w'.heap[L.blk]? = w.heap[L.blk]?) : BR σ x L w' := by
  cases x with
  | cells own cs => obtain ⟨arr, t, fr, h1, h2, h3, h4⟩ := h; exact ⟨arr, t, fr, e ▸ h1, h2, h3, h4⟩
  | map es c => obtain ⟨es', h1, h2, h3⟩ := h; exact ⟨es', e ▸ h1, h2, h3⟩
theorem BR.mono {σ σ' : Ren} (hle : Le σ σ') {x : Bk} {L : Loc} {w : World} (h : BR σ x L w) : BR σ' x L w := by
  cases x with
  | cells own cs => obtain ⟨arr, t, fr, h1, h2, h3, h4⟩ := h; exact ⟨arr, t, fr, h1, h2, h3.mono hle, h4⟩
  | map es c => obtain ⟨es', h1, h2, h3⟩ := h; exact ⟨es', h1, h2, fun i e e' a b => let ⟨x, y, z⟩ := h3 i e e' a b; ⟨x.mono hle, y.mono hle, z⟩⟩
theorem HR.drew {σ : Ren} {h : H} {w : World} (r : HR σ h w) : HR σ h w.drew := ⟨r.bnd, fun b x L a c => (r.blk b x L a c).heap rfl, r.inj, r.nx⟩
theorem H.get_new (h : H) (x : Bk) (b : Nat) : (h.new x).get b = if b = h.next then some x else h.get b := by simp [H.get, H.new, Tr.get_set]
theorem H.get_put (h : H) (c : Nat) (x : Option Bk) (b : Nat) : (h.put c x).get b = if b = c then x else h.get b := by simp [H.get, H.put, Tr.get_set]
theorem H.next_new (h : H) (x : Bk) : (h.new x).next = h.next + 1 := rfl
theorem H.next_put (h : H) (c : Nat) (x : Option Bk) : (h.put c x).next = h.next := rfl
def setR (σ : Ren) (b : Nat) (L : Loc) : Ren := fun c => if c = b then some L else σ c
theorem setR_same (σ : Ren) (b : Nat) (L : Loc) : setR σ b L b = some L := by simp [setR]
theorem setR_ne (σ : Ren) {b c : Nat} (L : Loc) (h : c ≠ b) : setR σ b L c = σ c := by simp [setR, h]
theorem setR_le (σ : Ren) {b : Nat} (L : Loc) (h : σ b = none) : Le σ (setR σ b L) := by
  intro c M hc
  by_cases e : c = b
  · subst e; rw [h] at hc; cases hc
  · rw [setR_ne σ L e]; exact hc
theorem heap_push_old (w : World) (o : Obj) (k : Nat) (h : k < w.heap.size) : (w.alloc o).heap[k]? = w.heap[k]? := RowKit.Below.heap_alloc w o k h
end Go.Ab
namespace Go.Ab
theorem Own.of_get {h h' : H} {b : Nat} (e : h'.get b = h.get b) (o : Own h' b) : Own h b := by
  unfold Own at *
  rwa [e] at o
theorem Own.some {h : H} {b : Nat} (o : Own h b) : (h.get b).isSome = true := by
  rcases o with ⟨cs, e⟩ | ⟨es, c, e⟩ <;> simp [e]
theorem HR.new {σ : Ren} {h : H} {w : World} (r : HR σ h w) (x : Bk) (o : Obj) (n : Nat) (hn : σ h.next = none)
    (hb : ∀ σ' w', Le σ σ' → w'.heap[w.heap.size]? = some o → BR σ' x ⟨w.heap.size, 0, n⟩ w') :
    HR (setR σ h.next ⟨w.heap.size, 0, n⟩) (h.new x) (w.alloc o) ∧ Ext σ (setR σ h.next ⟨w.heap.size, 0, n⟩) h (h.new x) w (w.alloc o) := by
  have hle := setR_le σ (⟨w.heap.size, 0, n⟩ : Loc) hn
  have hnew : (w.alloc o).heap[w.heap.size]? = some o := heap_alloc_new w o
  have hsz : (w.alloc o).heap.size = w.heap.size + 1 := Array.size_push o
  refine ⟨⟨fun b L hs => ?_, fun b y L hg hs => ?_, fun b b' L L' hne ho hg hs hs' => ?_, fun b hg => ?_⟩,
    ⟨by simp [H.next_new], fun b hb' => setR_ne σ _ (fun e => hb' (by rw [e]; simp [H.next_new])), fun b h1 h2 => ?_, rfl, rfl, rfl, by omega, fun c hc _ => heap_push_old w o c hc, fun b L ho hs => ?_, fun b L ho hs => ?_⟩⟩
  · by_cases e : b = h.next
    · rw [e, setR_same] at hs; injection hs with hs; subst hs; rw [hsz]; simp
    · rw [setR_ne σ _ e] at hs; rw [hsz]; exact Nat.lt_succ_of_lt (r.bnd b L hs)
  · by_cases e : b = h.next
    · subst e
      rw [setR_same] at hs; injection hs with hs; subst hs
      rw [H.get_new, if_pos rfl] at hg; injection hg with hg; subst hg
      exact hb _ _ hle hnew
    · rw [setR_ne σ _ e] at hs
      rw [H.get_new, if_neg e] at hg
      exact ((r.blk b y L hg hs).mono hle).heap (heap_push_old w o _ (r.bnd b L hs))
  · by_cases e : b = h.next
    · subst e
      rw [setR_same] at hs; injection hs with hs; subst hs
      rw [setR_ne σ _ (Ne.symm hne)] at hs'
      have := r.bnd b' L' hs'
      simp; omega
    · rw [setR_ne σ _ e] at hs
      have ho' : Own h b := ho.of_get (by rw [H.get_new, if_neg e])
      by_cases e' : b' = h.next
      · subst e'
        rw [setR_same] at hs'; injection hs' with hs'; subst hs'
        have := r.bnd b L hs
        simp; omega
      · rw [setR_ne σ _ e'] at hs'
        rw [H.get_new, if_neg e'] at hg
        exact r.inj b b' L L' hne ho' hg hs hs'
  · rw [H.get_new] at hg
    rw [H.next_new]
    by_cases e : b = h.next
    · omega
    · rw [if_neg e] at hg; exact Nat.lt_succ_of_lt (r.nx b hg)
  · have : b = h.next := by rw [H.next_new] at h2; omega
    rw [this]; exact hn
  · by_cases e : b = h.next
    · subst e; rw [setR_same] at hs; injection hs with hs; subst hs; exact .inl (Nat.le_refl _)
    · rw [setR_ne σ _ e] at hs
      exact .inr ⟨b, L, ho.of_get (by rw [H.get_new, if_neg e]), hs, rfl⟩
  · by_cases e : b = h.next
    · subst e; rw [setR_same] at hs; injection hs with hs; subst hs; exact .inl (Nat.le_refl _)
    · rw [setR_ne σ _ e] at hs
      exact .inr ⟨b, L, by rw [H.get_new, if_neg e] at ho; exact ho, hs, rfl⟩
theorem BR.cells_new {σ : Ren} {cs : List AV} {ds extra : List Value} {arr : Array Value} {e : TypeId} (h : LR σ cs ds) (ha : arr.toList = ds ++ extra) {w : World} {k : Nat}
    (σ' : Ren) (w' : World) (hle : Le σ σ') (hw : w'.heap[k]? = some (.cells arr e (0, 0))) (own : Bool) : BR σ' (.cells own cs) ⟨k, 0, arr.size⟩ w' := by
  refine ⟨arr, e, (0, 0), hw, ⟨Nat.le_refl _, by rw [← Array.length_toList, ha, h.1]; simp, fun _ => rfl⟩, ?_, fun _ => rfl⟩
  simp only [List.drop_zero]
  rw [ha, h.1, List.take_left]
  exact h.mono hle
theorem HR.newCells {σ : Ren} {h : H} {w : World} (r : HR σ h w) (cs : List AV) (arr : Array Value) (e : TypeId) (ds extra : List Value) (hd : LR σ cs ds) (ha : arr.toList = ds ++ extra) (hn : σ h.next = none) :
    HR (setR σ h.next ⟨w.heap.size, 0, arr.size⟩) (h.new (.cells true cs)) (w.alloc (.cells arr e)) ∧
    Ext σ (setR σ h.next ⟨w.heap.size, 0, arr.size⟩) h (h.new (.cells true cs)) w (w.alloc (.cells arr e)) :=
  r.new _ _ _ hn fun σ' w' hle hw => BR.cells_new hd ha (w := w) σ' w' hle hw true
theorem HR.change {σ : Ren} {h : H} {w w' : World} (r : HR σ h w) {b : Nat} {L : Loc} (hs : σ b = some L) (ho : Own h b) (x : Bk) (hsz : w'.heap.size = w.heap.size) (hos : w'.os = w.os) (htp : w'.tape = w.tape) (hout : w'.output = w.output)
    (hoth : ∀ k, k ≠ L.blk → w'.heap[k]? = w.heap[k]?) (hb : BR σ x L w') :
    HR σ (h.put b (some x)) w' ∧ Ext σ σ h (h.put b (some x)) w w' := by
  have hlt := r.bnd b L hs
  have hown : ∀ c, Own (h.put b (some x)) c → Own h c := by
    intro c hc
    by_cases e : c = b
    · rw [e]; exact ho
    · exact hc.of_get (by rw [H.get_put, if_neg e])
  refine ⟨⟨fun c M hc => by rw [hsz]; exact r.bnd c M hc, fun c y M hg hc => ?_, fun c c' M M' hne hoc hg hc hc' => ?_, fun c hg => ?_⟩,
    ⟨Nat.le_refl _, fun _ _ => rfl, fun c h1 h2 => absurd h2 (by rw [H.next_put]; omega), hos, htp, hout, by omega, fun c hc hn => hoth c (fun e => hn b L ho hs e.symm), fun c M hoc hc => .inr ⟨c, M, hown c hoc, hc, rfl⟩, fun c M hoc hc => .inr ⟨c, M, (by rw [H.get_put] at hoc; by_cases e : c = b; exact e ▸ ho.some; rwa [if_neg e] at hoc), hc, rfl⟩⟩⟩
  · by_cases e : c = b
    · subst e
      rw [hs] at hc; injection hc with hc; subst hc
      rw [H.get_put, if_pos rfl] at hg; injection hg with hg; subst hg
      exact hb
    · rw [H.get_put, if_neg e] at hg
      exact (r.blk c y M hg hc).heap (hoth _ (r.inj b c L M (Ne.symm e) ho (by simp [hg]) hs hc).symm)
  · have hg' : (h.get c').isSome = true := by
      rw [H.get_put] at hg
      by_cases e : c' = b
      · rw [e]; exact ho.some
      · rwa [if_neg e] at hg
    exact r.inj c c' M M' hne (hown c hoc) hg' hc hc'
  · rw [H.get_put] at hg
    rw [H.next_put]
    by_cases e : c = b
    · rw [e]; exact r.nx b ho.some
    · rw [if_neg e] at hg; exact r.nx c hg
theorem HR.gone {σ : Ren} {h : H} {w : World} (r : HR σ h w) (b : Nat) : HR σ (h.put b none) w := by
  refine ⟨r.bnd, fun c y M hg hc => ?_, fun c c' M M' hne hoc hg hc hc' => ?_, fun c hg => ?_⟩
  · rw [H.get_put] at hg
    by_cases e : c = b
    · rw [if_pos e] at hg; cases hg
    · rw [if_neg e] at hg; exact r.blk c y M hg hc
  · have h1 : c ≠ b := by
      intro e; have := hoc.some; rw [H.get_put, if_pos e] at this; cases this
    have h2 : c' ≠ b := by
      intro e; rw [H.get_put, if_pos e] at hg; cases hg
    rw [H.get_put, if_neg h2] at hg
    exact r.inj c c' M M' hne (hoc.of_get (by rw [H.get_put, if_neg h1])) hg hc hc'
  · rw [H.get_put] at hg
    by_cases e : c = b
    · rw [if_pos e] at hg; cases hg
    · rw [if_neg e] at hg; exact r.nx c hg
theorem Own.of_gone {h : H} {b c : Nat} (o : Own (h.put b none) c) : c ≠ b ∧ Own h c := by
  have h1 : c ≠ b := by
    intro e; have := o.some; rw [H.get_put, if_pos e] at this; cases this
  exact ⟨h1, o.of_get (by rw [H.get_put, if_neg h1])⟩
theorem some_put_none {h : H} {b c : Nat} (ho : ((h.put b none).get c).isSome = true) : (h.get c).isSome = true := by
  rw [H.get_put] at ho
  by_cases e : c = b
  · rw [if_pos e] at ho; cases ho
  · rwa [if_neg e] at ho
theorem Ext.gone {σ : Ren} {h : H} {w : World} (b : Nat) : Ext σ σ h (h.put b none) w w :=
  ⟨Nat.le_refl _, fun _ _ => rfl, fun c h1 h2 => absurd h2 (by rw [H.next_put]; omega), rfl, rfl, rfl, Nat.le_refl _, fun _ _ _ => rfl, fun c L ho hs => .inr ⟨c, L, ho.of_gone.2, hs, rfl⟩, fun c L ho hs => .inr ⟨c, L, some_put_none ho, hs, rfl⟩⟩
theorem HR.hand {σ : Ren} {h : H} {w w' : World} (r : HR σ h w) {b : Nat} {L L' : Loc} (hs : σ b = some L) (ho : Own h b) (x : Bk) (hL : L'.blk = L.blk) (hn : σ h.next = none) (hsz : w'.heap.size = w.heap.size) (hos : w'.os = w.os) (htp : w'.tape = w.tape) (hout : w'.output = w.output)
    (hoth : ∀ k, k ≠ L.blk → w'.heap[k]? = w.heap[k]?) (hb : ∀ σ', Le σ σ' → BR σ' x L' w') :
    HR (setR σ h.next L') ((h.put b none).new x) w' ∧ Ext σ (setR σ h.next L') h ((h.put b none).new x) w w' := by
  have hle := setR_le σ L' hn
  have hlt := r.bnd b L hs
  have hbn : b ≠ h.next := fun e => by rw [e, hn] at hs; cases hs
  have hget : ∀ c, ((h.put b none).new x).get c = if c = h.next then some x else if c = b then none else h.get c := by
    intro c; rw [H.get_new, H.next_put, H.get_put]
  have hown : ∀ c, c ≠ h.next → Own ((h.put b none).new x) c → c ≠ b ∧ Own h c := by
    intro c e hc
    have : c ≠ b := by intro e'; have := hc.some; rw [hget, if_neg e, if_pos e'] at this; cases this
    exact ⟨this, hc.of_get (by rw [hget, if_neg e, if_neg this])⟩
  refine ⟨⟨fun c M hc => ?_, fun c y M hg hc => ?_, fun c c' M M' hne hoc hg hc hc' => ?_, fun c hg => ?_⟩,
    ⟨by rw [H.next_new, H.next_put]; omega, fun c hc => setR_ne σ _ (fun e => hc (by rw [e, H.next_new, H.next_put]; omega)), fun c h1 h2 => ?_, hos, htp, hout, by omega, fun c hc hnn => hoth c (fun e => hnn b L ho hs e.symm), fun c M hoc hc => ?_, fun c M hoc hc => ?_⟩⟩
  · rw [hsz]
    by_cases e : c = h.next
    · rw [e, setR_same] at hc; injection hc with hc; subst hc; rw [hL]; exact hlt
    · rw [setR_ne σ _ e] at hc; exact r.bnd c M hc
  · by_cases e : c = h.next
    · subst e
      rw [setR_same] at hc; injection hc with hc; subst hc
      rw [hget, if_pos rfl] at hg; injection hg with hg; subst hg
      exact hb _ hle
    · rw [setR_ne σ _ e] at hc
      rw [hget, if_neg e] at hg
      by_cases e' : c = b
      · rw [if_pos e'] at hg; cases hg
      · rw [if_neg e'] at hg
        exact ((r.blk c y M hg hc).mono hle).heap (hoth _ (r.inj b c L M (Ne.symm e') ho (by simp [hg]) hs hc).symm)
  · by_cases e : c = h.next
    · subst e
      rw [setR_same] at hc; injection hc with hc; subst hc
      rw [setR_ne σ _ (Ne.symm hne)] at hc'
      rw [hget, if_neg (Ne.symm hne)] at hg
      by_cases e' : c' = b
      · rw [if_pos e'] at hg; cases hg
      · rw [if_neg e'] at hg
        rw [hL]; exact r.inj b c' L M' (Ne.symm e') ho hg hs hc'
    · rw [setR_ne σ _ e] at hc
      obtain ⟨hcb, hoc'⟩ := hown c e hoc
      by_cases e' : c' = h.next
      · subst e'
        rw [setR_same] at hc'; injection hc' with hc'; subst hc'
        rw [hL]; exact r.inj c b M L hcb hoc' ho.some hc hs
      · rw [setR_ne σ _ e'] at hc'
        rw [hget, if_neg e'] at hg
        by_cases e2 : c' = b
        · rw [if_pos e2] at hg; cases hg
        · rw [if_neg e2] at hg
          exact r.inj c c' M M' hne hoc' hg hc hc'
  · rw [hget] at hg
    rw [H.next_new, H.next_put]
    by_cases e : c = h.next
    · omega
    · rw [if_neg e] at hg
      by_cases e' : c = b
      · rw [if_pos e'] at hg; cases hg
      · rw [if_neg e'] at hg; exact Nat.lt_succ_of_lt (r.nx c hg)
  · have : c = h.next := by rw [H.next_new, H.next_put] at h2; omega
    rw [this]; exact hn
  · by_cases e : c = h.next
    · subst e; rw [setR_same] at hc; injection hc with hc; subst hc; exact .inr ⟨b, L, ho, hs, hL.symm⟩
    · rw [setR_ne σ _ e] at hc
      exact .inr ⟨c, M, (hown c e hoc).2, hc, rfl⟩
  · by_cases e : c = h.next
    · subst e; rw [setR_same] at hc; injection hc with hc; subst hc; exact .inr ⟨b, L, ho.some, hs, hL.symm⟩
    · rw [setR_ne σ _ e] at hc
      rw [hget, if_neg e] at hoc
      by_cases e' : c = b
      · rw [if_pos e'] at hoc; cases hoc
      · rw [if_neg e'] at hoc; exact .inr ⟨c, M, hoc, hc, rfl⟩
end Go.Ab
namespace Go.Ab
def TR (σ : Ren) (ts : TS) (tmps : Array Value) : Prop := ∀ t v, ts.get t = some v → ∃ v', tmps[t]? = some v' ∧ VR σ v v'
theorem TR.mono {σ σ' : Ren} (hle : Le σ σ') {ts : TS} {tmps : Array Value} (h : TR σ ts tmps) : TR σ' ts tmps :=
  fun t v e => let ⟨v', a, b⟩ := h t v e; ⟨v', a, b.mono hle⟩
theorem TR.put {σ : Ren} {ts : TS} {a : Act} (h : TR σ ts a.tmps) {dst : Option Nat} {v : AV} {v' : Value} (hv : VR σ v v') (hd : dstOk a.tmps.size dst = true) : TR σ (putT ts dst v) (a.put dst v').tmps := by
  cases dst with
  | none => exact h
  | some d =>
    have hlt : d < a.tmps.size := by simpa [dstOk, Nat.blt_eq] using hd
    intro t u ht
    simp only [putT, Tr.get_set] at ht
    simp only [Act.put]
    by_cases e : t = d
    · subst e
      rw [if_pos rfl] at ht; injection ht with ht; subst ht
      exact ⟨v', by simp [Array.getElem?_setIfInBounds, hlt], hv⟩
    · rw [if_neg e] at ht
      obtain ⟨u', h1, h2⟩ := h t u ht
      exact ⟨u', by rw [Array.getElem?_setIfInBounds, if_neg (Ne.symm e)]; exact h1, h2⟩
theorem Act.size_put (a : Act) (dst : Option Nat) (v : Value) : (a.put dst v).tmps.size = a.tmps.size := by
  cases dst <;> simp [Act.put]
theorem VR.undef (σ : Ren) : VR σ undefA undef := .tup (by simp) fun i v v' a => by simp at a
theorem VR.ofV1 (σ : Ren) (v : Value) : VR σ (ofV1 v) v := by
  cases v with
  | bool b => exact .bool b
  | int k n => exact .int k n
  | string s => exact .str s
  | pointer a => cases a <;> simp only [Ab.ofV1] <;> first | exact .pnil | exact .any _
  | slice a n c =>
    unfold Ab.ofV1
    split <;> first | exact .any _ | skip
    all_goals (rename_i h; first | cases h | skip)
    all_goals first | exact .snil | exact .any _
  | map r => cases r <;> simp only [Ab.ofV1] <;> first | exact .mnil | exact .any _
  | nilFunc => exact .fnil
  | nilIface => exact .inil
  | _ => exact .any _
theorem VR.ofV (σ : Ren) (v : Value) : VR σ (ofV v) v := by
  cases v with
  | agg cs =>
    refine .agg (by simp) fun i a b ha hb => ?_
    simp only [List.getElem?_map, Array.getElem?_toList, Option.map_eq_some_iff] at ha
    obtain ⟨c, hc, rfl⟩ := ha
    rw [hc] at hb; injection hb with hb; subst hb
    exact VR.ofV1 σ c
  | _ => simp only [Ab.ofV]; exact VR.ofV1 σ _
theorem LR.ofV_cells (σ : Ren) (v : Value) : LR σ (Ab.ofV v).cells v.cells.toList :=
  (VR.ofV σ v).cells fun ds e => by subst e; exact ⟨_, rfl⟩
theorem evA_ok {σ : Ren} {ts : TS} {a : Act} (h : TR σ ts a.tmps) (x : Operand) : VR σ (evA ts (opd x)) (a.eval x) := by
  cases x with
  | tmp t =>
    simp only [opd, evA, Act.eval]
    cases e : ts.get t with
    | none => exact .any _
    | some v =>
      obtain ⟨v', h1, h2⟩ := h t v e
      simpa [Array.getD, Array.getElem?_eq_some_iff.1 h1 |>.1, (Array.getElem?_eq_some_iff.1 h1).2] using h2
  | const v => exact VR.ofV σ v
  | global g => exact .any _
  | func f => exact .fn (by simp) (fun i v v' a => by simp at a) (by simp) (fun i v v' a => by simp at a)
theorem evL_ok {σ : Ren} {ts : TS} {a : Act} (h : TR σ ts a.tmps) (l : List Operand) : LR σ ((l.map opd).map (evA ts)) (l.map a.eval) := by
  rw [List.map_map]
  exact LR.map_ev _ _ l fun x _ => evA_ok h x
section
variable {P : Program} {w : World}
theorem run_sizeOf {t : TypeId} {s : Nat} (h : sizeT P t = some s) : (sizeOf t).run P w = .ok s w := by
  unfold sizeT at h
  cases e : P.info? t with
  | none => simp [e] at h
  | some i => simp [e] at h; simp [sizeOf, typeInfo, e, h]
theorem run_isAgg {t : TypeId} {g : Bool} (h : isAggT P t = some g) : (isAgg t).run P w = .ok g w := by
  unfold isAggT at h
  cases e : P.underlying t with
  | none => simp [e] at h
  | some d =>
    simp only [isAgg, Sem.run_bind, run_underlying e, Result.andThen_ok]
    rw [e] at h
    cases d <;> simp at h <;> subst h <;> rfl
theorem run_zero {t : TypeId} {z : AV} (h : zeroT P t = some z) : ∃ v, (zeroValue t).run P w = .ok v w ∧ z = ofV v := by
  unfold zeroT at h
  cases e : P.info? t with
  | none => simp [e] at h
  | some i =>
    rw [e] at h
    cases e' : i.zero with
    | none => simp [e'] at h
    | some v => simp [e'] at h; exact ⟨v, by simp [zeroValue, typeInfo, e, e'], h.symm⟩
end
theorem row_ok {σ : Ren} {h : H} {w : World} (r : HR σ h w) {b : Nat} {cs : List AV} {L : Loc} (hg : h.cells b = some cs) (hs : σ b = some L) {o n : Nat} (hn : o + n ≤ cs.length) :
    ∃ ds, LR σ ((cs.drop o).take n) ds ∧ ds.length = n ∧ ∀ j v, ds[j]? = some v → w.cell? ((⟨L.blk, L.base + o, none⟩ : Addr).add j) = some v := by
  have hgb : ∃ own, h.get b = some (.cells own cs) := by
    unfold H.cells at hg
    split at hg
    · rename_i own cs' e; injection hg with hg; subst hg; exact ⟨own, e⟩
    · cases hg
  obtain ⟨own, hgb⟩ := hgb
  obtain ⟨arr, e, fr, h1, h2, h3, h4⟩ := r.blk b _ L hgb hs
  have hlen := h3.1
  simp only [List.length_take, List.length_drop, Array.length_toList] at hlen
  refine ⟨(((arr.toList.drop L.base).take cs.length).drop o).take n, (h3.drop o).take n, ?_, ?_⟩
  · simp only [List.length_take, List.length_drop, Array.length_toList]; omega
  · intro j v hv
    have hadd : (⟨L.blk, L.base + o, none⟩ : Addr).add j = ⟨L.blk, L.base + o + j, none⟩ := Addr.add_lit _ _ _
    rw [hadd]
    rw [List.getElem?_take] at hv
    split at hv
    · rw [List.getElem?_drop, List.getElem?_take] at hv
      split at hv
      · rw [List.getElem?_drop, Array.getElem?_toList] at hv
        simp only [World.cell?, h1, Option.isSome_none, if_false, Bool.false_eq_true]
        rw [← hv]; congr 1; omega
      · cases hv
    · cases hv
theorem cell_ok {σ : Ren} {h : H} {w : World} (r : HR σ h w) {b : Nat} {cs : List AV} {L : Loc} (hg : h.cells b = some cs) (hs : σ b = some L) {o : Nat} {v : AV} (hv : cs[o]? = some v) :
    ∃ v', w.cell? ⟨L.blk, L.base + o, none⟩ = some v' ∧ VR σ v v' := by
  have ho : o < cs.length := by
    rcases Nat.lt_or_ge o cs.length with h | h
    · exact h
    · rw [List.getElem?_eq_none h] at hv; cases hv
  obtain ⟨ds, h1, h2, h3⟩ := row_ok r hg hs (o := o) (n := 1) (by omega)
  obtain ⟨v', e1, e2⟩ := h1.get (i := 0) (v := v) (by rw [List.getElem?_take, if_pos (by omega), List.getElem?_drop]; simpa using hv)
  exact ⟨v', by simpa [Addr.add] using h3 0 v' e1, e2⟩
section
variable {P : Program} {σ : Ren} {h : H} {w : World}
def Gives (P : Program) (σ : Ren) (w : World) (s : Sem Value) (v : AV) : Prop := ∃ v', s.run P w = .ok v' w ∧ VR σ v v'
theorem Gives.pure {v : AV} {v' : Value} (hv : VR σ v v') : Gives P σ w (Pure.pure v') v := ⟨v', rfl, hv⟩
theorem load_sim (r : HR σ h w) {t : TypeId} {s : Nat} {g : Bool} (hs : sizeT P t = some s) (hg : isAggT P t = some g) {b o : Nat} {v : AV} {x : Value} (hx : VR σ (.ptr b o) x) (hv : loadA s g h b o = some v) :
    Gives P σ w (Instr.loadAt t x) v := by
  cases hx with
  | ptr hL =>
    rename_i L
    unfold loadA at hv
    cases hc : h.cells b with
    | none => simp [hc] at hv
    | some cs =>
      simp only [hc] at hv
      unfold partA at hv
      cases g with
      | true =>
        simp only at hv
        cases hle : Nat.ble (o + s) cs.length with
        | false => simp [hle] at hv
        | true =>
          simp only [hle, Option.some.injEq] at hv
          subst hv
          obtain ⟨ds, h1, h2, h3⟩ := row_ok r hc hL (o := o) (n := s) (Nat.le_of_ble_eq_true hle)
          have hrun := run_loadCells_list (P := P) w ⟨L.blk, L.base + o, none⟩ ds h3
          rw [h2] at hrun
          exact ⟨.agg ds.toArray, by simp [Instr.loadAt, Instr.sureAddr, loadVar, run_isAgg hg, run_sizeOf hs, hrun], VR.mk_agg h1⟩
      | false =>
        simp only at hv
        obtain ⟨v', h1, h2⟩ := cell_ok r hc hL hv
        exact ⟨v', by simp [Instr.loadAt, Instr.sureAddr, loadVar, run_isAgg hg, run_load, h1], h2⟩
theorem part_sim {t : TypeId} {s off : Nat} {g : Bool} (hs : sizeT P t = some s) (hg : isAggT P t = some g) {cs : List AV} {ds : Array Value} (hl : LR σ cs ds.toList) {v : AV} (hv : partA cs off s g = some v) :
    Gives P σ w (part t ds off) v := by
  unfold partA at hv
  cases g with
  | true =>
    simp only at hv
    cases hle : Nat.ble (off + s) cs.length with
    | false => simp [hle] at hv
    | true =>
      simp only [hle, Option.some.injEq] at hv
      subst hv
      refine ⟨.agg (ds.extract off (off + s)), by simp [part, run_isAgg hg, run_sizeOf hs], VR.mk_agg' ?_⟩
      have : (ds.extract off (off + s)).toList = (ds.toList.drop off).take s := by
        rw [Array.toList_extract, List.extract_eq_take_drop]; congr 1; omega
      rw [this]
      exact (hl.drop off).take s
  | false =>
    simp only at hv
    obtain ⟨v', h1, h2⟩ := hl.get hv
    have h1' : ds[off]? = some v' := by simpa using h1
    exact ⟨v', by simp [part, run_isAgg hg, h1'], h2⟩
end
end Go.Ab
namespace Go.Ab
theorem kindEq_iff {k k' : IntKind} (h : kindEq k k' = true) : k = k' := by cases k <;> cases k' <;> first | rfl | cases h
theorem listEq_iff : ∀ (a b : List Nat), listEq a b = decide (a = b)
  | [], [] => by simp [listEq]
  | [], _ :: _ => by simp [listEq]
  | _ :: _, [] => by simp [listEq]
  | a :: as, b :: bs => by
    simp only [listEq]
    cases e : Nat.beq a b with
    | true => have h := Nat.eq_of_beq_eq_true e; subst h; simp [listEq_iff as bs]
    | false => have h := Nat.ne_of_beq_eq_false e; simp [h]
theorem bytes_map_inj {a b : List UInt8} (h : a.map (·.toNat) = b.map (·.toNat)) : a = b := by
  induction a generalizing b with
  | nil => cases b with
    | nil => rfl
    | cons => simp at h
  | cons x a ih => cases b with
    | nil => simp at h
    | cons y b =>
      simp only [List.map_cons, List.cons.injEq] at h
      rw [ih h.2, UInt8.toNat_inj.1 h.1]
theorem str_eq (s t : ByteArray) : listEq (s.data.toList.map (·.toNat)) (t.data.toList.map (·.toNat)) = (s.toList == t.toList) := by
  rw [listEq_iff, ByteArray.toList_eq, ByteArray.toList_eq]
  by_cases h : s.data.toList = t.data.toList
  · simp [h]
  · have h' : ¬ (s.data.toList.map (·.toNat) = t.data.toList.map (·.toNat)) := fun e => h (bytes_map_inj e)
    rw [decide_eq_false h']
    symm
    simpa using h
section
variable {P : Program} {σ : Ren} {h : H} {w : World}
theorem intBin_sim {op : BinOp} {k : IntKind} {x y : Int} {v : AV} {t : TypeId} (hn : isShift op = false) (hv : intBin op k x y = some v) : Gives P σ w (binOp op t (.int k x) (.int k y)) v := by
  cases op <;> simp only [intBin, Option.some.injEq] at hv <;> try (cases hn; done)
  case quo => split at hv <;> first | (cases hv; done) | (rename_i hy; injection hv with hv; subst hv; exact ⟨_, by simp [binOp_quo, Op.intDiv, hy], .int _ _⟩)
  case rem => split at hv <;> first | (cases hv; done) | (rename_i hy; injection hv with hv; subst hv; exact ⟨_, by simp [binOp_rem, Op.intDiv, hy], .int _ _⟩)
  all_goals first
    | (cases hv; done)
    | skip
  all_goals subst hv
  case add => exact ⟨_, by rw [binOp_add]; rfl, .int _ _⟩
  case sub => exact ⟨_, by rw [binOp_sub]; rfl, .int _ _⟩
  case mul => exact ⟨_, by rw [binOp_mul]; rfl, .int _ _⟩
  case and => exact ⟨_, by rw [binOp_and]; rfl, .int _ _⟩
  case or => exact ⟨_, by rw [binOp_or]; rfl, .int _ _⟩
  case xor => exact ⟨_, by rw [binOp_xor]; rfl, .int _ _⟩
  case andNot => exact ⟨_, by rw [binOp_andNot]; rfl, .int _ _⟩
  case eql => exact ⟨.bool (x == y), by rw [binOp_eql]; rfl, .bool _⟩
  case neq => exact ⟨.bool (x != y), by rw [binOp_neq]; rfl, .bool _⟩
  case lss => exact ⟨.bool (decide (x < y)), by rw [binOp_lss]; rfl, .bool _⟩
  case leq => exact ⟨.bool (decide (x ≤ y)), by rw [binOp_leq]; rfl, .bool _⟩
  case gtr => exact ⟨.bool (decide (y < x)), by rw [binOp_gtr]; rfl, .bool _⟩
  case geq => exact ⟨.bool (decide (y ≤ x)), by rw [binOp_geq]; rfl, .bool _⟩
theorem shift_sim {op : BinOp} {k k' : IntKind} {x y : Int} {v : AV} {t : TypeId} (hv : shiftA op k x y = some v) : Gives P σ w (binOp op t (.int k x) (.int k' y)) v := by
  cases op <;> simp only [shiftA] at hv <;> first | (cases hv; done) | skip
  all_goals
    split at hv
    · cases hv
    · rename_i hy
      injection hv with hv; subst hv
      refine ⟨_, ?_, .int _ _⟩
      simp only [binOp_shl, binOp_shr, Op.shift, if_neg hy]
      rfl
theorem str_size (s : ByteArray) : (s.data.toList.map (·.toNat)).length = s.size := by rw [List.length_map]; rfl
theorem strBin_sim {op : BinOp} {s u : ByteArray} {v : AV} {t : TypeId} (hv : strBin op (s.data.toList.map (·.toNat)) (u.data.toList.map (·.toNat)) = some v) : Gives P σ w (binOp op t (.string s) (.string u)) v := by
  cases op <;> simp only [strBin] at hv <;> first | (cases hv; done) | skip
  case add =>
    split at hv
    · rename_i hle
      injection hv with hv; subst hv
      have hle := Nat.le_of_ble_eq_true hle
      simp only [List.length_map, Array.length_toList] at hle
      refine ⟨.string (s ++ u), ?_, ?_⟩
      · have : ¬ (((s.size + u.size : Nat) : Int) > IntKind.i64.max) := by
          have : IntKind.i64.max = 9223372036854775807 := by decide
          rw [this]; unfold maxRow at hle
          have e1 : s.data.size = s.size := rfl
          have e2 : u.data.size = u.size := rfl
          omega
        show (Op.stringOp .add s u).run P w = _
        simp only [Op.stringOp, if_neg this]
        rfl
      · have : (s ++ u).data.toList.map (·.toNat) = s.data.toList.map (·.toNat) ++ u.data.toList.map (·.toNat) := by simp [ByteArray.data_append]
        rw [← this]
        exact .str _
    · cases hv
  case eql =>
    injection hv with hv; subst hv
    rw [str_eq]
    exact ⟨_, rfl, .bool _⟩
  case neq =>
    injection hv with hv; subst hv
    rw [str_eq]
    exact ⟨_, rfl, .bool _⟩
end
end Go.Ab
namespace Go.Ab
theorem asNat_ok {σ : Ren} {v : AV} {v' : Value} {n : Nat} (h : VR σ v v') (hn : asNat v = some n) : ∃ k, v' = .int k (n : Int) := by
  cases h <;> simp only [asNat] at hn <;> try (cases hn; done)
  split at hn
  · injection hn with hn; subst hn; exact ⟨_, rfl⟩
  · cases hn
section
variable {P : Program} {σ : Ren} {h : H} {w : World}
def Bd (d : Nat) (x : Option Value) (n : Nat) : Prop := (x = none ∧ n = d) ∨ ∃ k, x = some (.int k (n : Int))
theorem optNat_ok {ts : TS} {a : Act} (ht : TR σ ts a.tmps) {d n : Nat} {x : Option Operand} (h : optNat ts d (x.map opd) = some n) : Bd d (x.map a.eval) n := by
  cases x with
  | none => simp [optNat] at h; exact .inl ⟨rfl, h.symm⟩
  | some x =>
    obtain ⟨k, hk⟩ := asNat_ok (evA_ok ht x) h
    exact .inr ⟨k, by simp [hk]⟩
theorem boundsA_ok {len : Nat} {l r : Option Nat} {x y : Nat} (h : boundsA len l r = some (x, y)) : l = some x ∧ r = some y ∧ x ≤ y ∧ y ≤ len := by
  unfold boundsA at h
  split at h
  · split at h
    · rename_i h1 h2
      injection h with h; injection h with e1 e2; subst e1; subst e2
      exact ⟨rfl, rfl, Nat.le_of_ble_eq_true h1, Nat.le_of_ble_eq_true h2⟩
    · cases h
  · cases h
theorem bounds_run (isS : Bool) (len cap : Nat) {lo hi : Option Value} {l r : Nat} (hlo : Bd 0 lo l) (hhi : Bd len hi r) (h1 : l ≤ r) (h2 : r ≤ cap) :
    (Instr.sliceBounds isS len cap lo hi none).run P w = .ok (l, r, cap) w := by
  rcases hlo with ⟨rfl, rfl⟩ | ⟨k, rfl⟩ <;> rcases hhi with ⟨rfl, rfl⟩ | ⟨k', rfl⟩ <;>
    simp [Instr.sliceBounds, run_sliceBound, h1, h2]
theorem bounds_run3 (isS : Bool) (len cap : Nat) {lo hi : Option Value} {k : IntKind} {l r m : Nat} (hlo : Bd 0 lo l) (hhi : ∃ k', hi = some (.int k' (r : Int))) (h1 : l ≤ r) (h2 : r ≤ m) (h3 : m ≤ cap) :
    (Instr.sliceBounds isS len cap lo hi (some (.int k (m : Int)))).run P w = .ok (l, r, m) w := by
  obtain ⟨k', rfl⟩ := hhi
  rcases hlo with ⟨rfl, rfl⟩ | ⟨k2, rfl⟩ <;>
    simp [Instr.sliceBounds, run_sliceBound, h1, h2, h3]
theorem sliced_ok {b o n z off c l r : Nat} {cap : Option Nat} {L : Loc} (hL : σ b = some L) (hl : n ≤ c) (hc : ∀ k, cap = some k → k = c) (hz : 0 < z) (hs : off + c * z ≤ L.size) (ho : c = 0 ∨ off = L.base + o)
    {m : Nat} {mx : Option Nat} (hm : (mx = none ∧ m = c) ∨ (mx = some m ∧ m ≤ c)) (h1 : l ≤ r) (h2 : r ≤ n) (h3 : r ≤ m) {v : AV} (hv : sliceA z b o n cap l r mx = some v) :
    VR σ v (.slice (if m = l then some ⟨L.blk, off, none⟩ else some ((⟨L.blk, off, none⟩ : Addr).add (l * z))) (r - l) (m - l)) := by
  have hadd : (⟨L.blk, off, none⟩ : Addr).add (l * z) = ⟨L.blk, off + l * z, none⟩ := Addr.add_lit _ _ _
  rw [hadd]
  have hmul : l * z + (m - l) * z = m * z := by rw [← Nat.add_mul]; congr 1; omega
  have hmc : m * z ≤ c * z := Nat.mul_le_mul_right z (by rcases hm with ⟨_, h⟩ | ⟨_, h⟩ <;> omega)
  have main : ∀ cap' : Option Nat, (∀ k, cap' = some k → k = m - l) → VR σ (.sl b (o + l * z) (r - l) cap' z) (.slice (if m = l then some ⟨L.blk, off, none⟩ else some ⟨L.blk, off + l * z, none⟩) (r - l) (m - l)) := by
    intro cap' hcap
    by_cases e : m = l
    · rw [if_pos e]
      have : m - l = 0 := by omega
      refine .sl hL (by omega) hcap hz (by rw [this]; omega) (.inl this)
    · rw [if_neg e]
      refine .sl hL (by omega) hcap hz (by omega) (.inr ?_)
      rcases ho with h | h
      · rcases hm with ⟨_, h'⟩ | ⟨_, h'⟩ <;> omega
      · omega
  unfold sliceA at hv
  cases mx with
  | none =>
    have hm' : m = c := by rcases hm with ⟨_, h⟩ | ⟨h, _⟩ <;> first | exact h | cases h
    simp only at hv
    cases cap with
    | none => simp only [Option.some.injEq] at hv; subst hv; exact main _ fun k hk => by cases hk
    | some k =>
      simp only at hv
      split at hv
      · injection hv with hv; subst hv
        have := hc k rfl
        exact main _ fun j hj => by injection hj with hj; omega
      · cases hv
  | some m' =>
    have hm' : m' = m := by rcases hm with ⟨h, _⟩ | ⟨h, _⟩ <;> first | (cases h; done) | (injection h)
    subst hm'
    simp only at hv
    split at hv
    · injection hv with hv; subst hv
      exact main _ fun j hj => by injection hj with hj; omega
    · cases hv
theorem sl_sim {t e : TypeId} {z : Nat} (ht : P.underlying t = some (.slice e)) (hz : sizeT P e = some z) {b o n l r : Nat} {cap : Option Nat} {x : Value} (hx : VR σ (.sl b o n cap z) x) {lo hi : Option Value} (hlo : Bd 0 lo l) (hhi : Bd n hi r)
    (h1 : l ≤ r) (h2 : r ≤ n) {v : AV} (hv : sliceA z b o n cap l r none = some v) : Gives P σ w (Instr.sliceAt t x lo hi none) v := by
  cases hx with
  | sl hL hl hc hzz hs ho =>
    have hb := bounds_run (P := P) (w := w) true n _ hlo hhi h1 (Nat.le_trans h2 hl)
    refine ⟨_, ?_, sliced_ok hL hl hc hzz hs ho (.inl ⟨rfl, rfl⟩) h1 h2 (Nat.le_trans h2 hl) hv⟩
    simp only [Instr.sliceAt, Instr.slice, Sem.run_bind, run_underlying ht, Result.andThen_ok, hb, run_sizeOf hz]
    simp only [Sem.run_pure, Option.map_some]
theorem sl_sim3 {t e : TypeId} {z : Nat} (ht : P.underlying t = some (.slice e)) (hz : sizeT P e = some z) {b o n l r m : Nat} {k : IntKind} {cap : Option Nat} {x : Value} (hx : VR σ (.sl b o n cap z) x) {lo hi : Option Value} (hlo : Bd 0 lo l) (hhi : ∃ k', hi = some (.int k' (r : Int)))
    (h1 : l ≤ r) (h2 : r ≤ n) {v : AV} (hv : sliceA z b o n cap l r (some m) = some v) : Gives P σ w (Instr.sliceAt t x lo hi (some (.int k (m : Int)))) v := by
  have hm : r ≤ m ∧ m ≤ n := by
    unfold sliceA at hv
    simp only at hv
    split at hv
    · rename_i a b; exact ⟨Nat.le_of_ble_eq_true a, Nat.le_of_ble_eq_true b⟩
    · cases hv
  cases hx with
  | sl hL hl hc hzz hs ho =>
    have hb := bounds_run3 (P := P) (w := w) (k := k) true n _ hlo hhi h1 hm.1 (Nat.le_trans hm.2 hl)
    refine ⟨_, ?_, sliced_ok hL hl hc hzz hs ho (.inr ⟨rfl, Nat.le_trans hm.2 hl⟩) h1 h2 hm.1 hv⟩
    simp only [Instr.sliceAt, Instr.slice, Sem.run_bind, run_underlying ht, Result.andThen_ok, hb, run_sizeOf hz]
    simp only [Sem.run_pure, Option.map_some]
theorem slNil_sim {t e : TypeId} {z : Nat} (ht : P.underlying t = some (.slice e)) (hz : sizeT P e = some z) {x : Value} (hx : VR σ .snil x) {lo hi mx : Option Value} {l r : Nat} (hlo : Bd 0 lo l) (hhi : Bd 0 hi r) (h1 : l ≤ r) (h2 : r ≤ 0)
    (hm : mx = none ∨ ((∃ k, mx = some (.int k ((0 : Nat) : Int))) ∧ ∃ k', hi = some (.int k' (r : Int)))) : Gives P σ w (Instr.sliceAt t x lo hi mx) .snil := by
  cases hx
  have hr : r = 0 := by omega
  have hl : l = 0 := by omega
  subst hr; subst hl
  rcases hm with rfl | ⟨⟨k, rfl⟩, hh⟩
  · have hb := bounds_run (P := P) (w := w) true 0 0 hlo hhi h1 h2
    refine ⟨.slice none 0 0, ?_, .snil⟩
    simp only [Instr.sliceAt, Instr.slice, Sem.run_bind, run_underlying ht, Result.andThen_ok, hb, run_sizeOf hz]
    simp
  · have hb := bounds_run3 (P := P) (w := w) (k := k) true 0 0 hlo hh h1 (Nat.le_refl 0) (Nat.le_refl 0)
    refine ⟨.slice none 0 0, ?_, .snil⟩
    simp only [Instr.sliceAt, Instr.slice, Sem.run_bind, run_underlying ht, Result.andThen_ok, hb, run_sizeOf hz]
    simp
theorem slArr_sim {t e : TypeId} {n z : Nat} (ht : P.underlying t = some (.array n e)) (hz : sizeT P e = some z) (hz0 : 0 < z) {b o l r : Nat} {x : Value} (hx : VR σ (.ptr b o) x) (hin : ∀ L, σ b = some L → L.base + o + n * z ≤ L.size)
    {lo hi : Option Value} (hlo : Bd 0 lo l) (hhi : Bd n hi r) (h1 : l ≤ r) (h2 : r ≤ n) {v : AV} (hv : sliceA z b o n none l r none = some v) : Gives P σ w (Instr.sliceAt t x lo hi none) v := by
  cases hx with
  | ptr hL =>
    have hb := bounds_run (P := P) (w := w) false n n hlo hhi h1 h2
    refine ⟨_, ?_, sliced_ok hL (Nat.le_refl n) (by intro k hk; cases hk) hz0 (hin _ hL) (.inr rfl) (.inl ⟨rfl, rfl⟩) h1 h2 h2 hv⟩
    simp only [Instr.sliceAt, Instr.sureAddr, Sem.run_bind, run_underlying ht, Sem.run_pure, Result.andThen_ok, hb, run_sizeOf hz]
    split <;> rfl
theorem slStr_sim {t : TypeId} (ht : P.underlying t = some .string) {s : ByteArray} {lo hi : Option Value} {l r : Nat} (hlo : Bd 0 lo l) (hhi : Bd s.size hi r) (h1 : l ≤ r) (h2 : r ≤ s.size) :
    Gives P σ w (Instr.sliceAt t (.string s) lo hi none) (.str (((s.data.toList.map (·.toNat)).drop l).take (r - l))) := by
  have hb := bounds_run (P := P) (w := w) false s.size s.size hlo hhi h1 h2
  refine ⟨.string (s.extract l r), ?_, ?_⟩
  · simp only [Instr.sliceAt, Instr.slice, Sem.run_bind, run_underlying ht, Result.andThen_ok, hb]
    simp [hb]
  · have : (s.extract l r).data.toList.map (·.toNat) = ((s.data.toList.map (·.toNat)).drop l).take (r - l) := by
      rw [ByteArray.data_extract, Array.toList_extract, List.extract_eq_take_drop, List.map_take, List.map_drop]
    rw [← this]
    exact .str _
end
end Go.Ab
namespace Go.Ab
theorem ba_beq (s t : ByteArray) : (s == t) = (s.toList == t.toList) := by
  rw [ByteArray.toList_eq, ByteArray.toList_eq, Bool.eq_iff_iff, show (s == t) = (s.data == t.data) from rfl]
  simp
section
variable {P : Program} {σ : Ren} {h : H} {w : World}
theorem fieldA_sim {t : TypeId} {fs : Array Field} {f : Nat} {fd : Field} {s : Nat} (ht : P.underlying t = some (.struct fs)) (hf : fs[f]? = some fd) (hs : sizeT P fd.type = some (s + 1)) {b o : Nat} {x : Value} (hx : VR σ (.ptr b o) x) :
    Gives P σ w (Instr.fieldAt t x f) (.ptr b (o + fd.offset)) := by
  cases hx with
  | ptr hL =>
    rename_i L
    refine ⟨.pointer (some ⟨L.blk, L.base + (o + fd.offset), none⟩), ?_, .ptr hL⟩
    simp only [Instr.fieldAt, Sem.run_bind, run_underlying ht, Result.andThen_ok, hf, Instr.sureAddr, Sem.run_pure, fieldPlace, run_sizeOf hs]
    simp [Addr.add_lit, Nat.add_assoc]
theorem field_sim {t : TypeId} {fs : Array Field} {f : Nat} {fd : Field} {s : Nat} {g : Bool} (ht : P.underlying t = some (.struct fs)) (hf : fs[f]? = some fd) (hs : sizeT P fd.type = some s) (hg : isAggT P fd.type = some g)
    {cs : List AV} {x : Value} (hx : VR σ (.agg cs) x) {v : AV} (hv : partA cs fd.offset s g = some v) : Gives P σ w (Instr.field t x f) v := by
  obtain ⟨ds, rfl, hl⟩ := hx.of_agg
  obtain ⟨v', h1, h2⟩ := part_sim (P := P) (σ := σ) (w := w) hs hg hl hv
  exact ⟨v', by simp only [Instr.field, Sem.run_bind, run_underlying ht, Result.andThen_ok, hf, asAgg, Sem.run_pure, h1], h2⟩
theorem idxArr_sim {t e : TypeId} {n z : Nat} (ht : P.underlying t = some (.array n e)) (hz : sizeT P e = some z) {b o i : Nat} {k : IntKind} {x : Value} (hx : VR σ (.ptr b o) x) (hi : i < n) :
    Gives P σ w (Instr.indexAt t x (.int k (i : Int))) (.ptr b (o + i * z)) := by
  cases hx with
  | ptr hL =>
    rename_i L
    refine ⟨.pointer (some ⟨L.blk, L.base + (o + i * z), none⟩), ?_, .ptr hL⟩
    have h0 : (0 : Int) ≤ (i : Int) ∧ (i : Int) < (n : Int) := ⟨by omega, by omega⟩
    simp only [Instr.indexAt, asIntOf, Sem.run_bind, Sem.run_pure, Result.andThen_ok, run_underlying ht, Instr.sureAddr, if_pos h0, run_sizeOf hz]
    simp [Addr.add_lit, Nat.add_assoc, run_sizeOf hz, h0]
theorem idxSl_sim {t e : TypeId} {z : Nat} (ht : P.underlying t = some (.slice e)) (hz : sizeT P e = some z) {b o n i : Nat} {cap : Option Nat} {k : IntKind} {x : Value} (hx : VR σ (.sl b o n cap z) x) (hi : i < n) :
    Gives P σ w (Instr.indexAt t x (.int k (i : Int))) (.ptr b (o + i * z)) := by
  cases hx with
  | sl hL hl hc hz0 hs ho =>
    rename_i off c L
    have hoff : off = L.base + o := by rcases ho with h | h <;> omega
    refine ⟨.pointer (some ⟨L.blk, L.base + (o + i * z), none⟩), ?_, .ptr hL⟩
    have h0 : (0 : Int) ≤ (i : Int) ∧ (i : Int) < (n : Int) := ⟨by omega, by omega⟩
    simp only [Instr.indexAt, asIntOf, Sem.run_bind, Sem.run_pure, Result.andThen_ok, run_underlying ht, if_pos h0, run_sizeOf hz]
    simp [Addr.add_lit, Nat.add_assoc, run_sizeOf hz, h0, hoff]
theorem ixAgg_sim {t e : TypeId} {n z : Nat} {g : Bool} (ht : P.underlying t = some (.array n e)) (hz : sizeT P e = some z) (hg : isAggT P e = some g) {cs : List AV} {i : Nat} {k : IntKind} {x : Value} (hx : VR σ (.agg cs) x) (hi : i < n)
    {v : AV} (hv : partA cs (i * z) z g = some v) : Gives P σ w (Instr.index t x (.int k (i : Int))) v := by
  obtain ⟨ds, rfl, hl⟩ := hx.of_agg
  obtain ⟨v', h1, h2⟩ := part_sim (P := P) (σ := σ) (w := w) hz hg hl hv
  have h0 : (0 : Int) ≤ (i : Int) ∧ (i : Int) < (n : Int) := ⟨by omega, by omega⟩
  refine ⟨v', ?_, h2⟩
  simp only [Instr.index, asIntOf, Sem.run_bind, Sem.run_pure, Result.andThen_ok, run_underlying ht, if_pos h0, run_sizeOf hz, Int.toNat_natCast, h1]
theorem ixStr_sim {t : TypeId} (ht : P.underlying t = some .string) {s : ByteArray} {i c : Nat} {k : IntKind} (hc : (s.data.toList.map (·.toNat))[i]? = some c) :
    Gives P σ w (Instr.index t (.string s) (.int k (i : Int))) (.int .u8 (Int.ofNat c)) := by
  simp only [List.getElem?_map, Option.map_eq_some_iff] at hc
  obtain ⟨b, hb, rfl⟩ := hc
  have hb' : s[i]? = some b := by
    have hi : i < s.data.toList.length := (List.getElem?_eq_some_iff.1 hb).1
    have hi' : i < s.size := by simpa using hi
    rw [getElem?_pos s i hi']
    have := (List.getElem?_eq_some_iff.1 hb).2
    rw [← this]
    rfl
  refine ⟨.int .u8 (Int.ofNat b.toNat), ?_, .int _ _⟩
  simp only [Instr.index, asIntOf, Sem.run_bind, Sem.run_pure, Result.andThen_ok, run_underlying ht, Int.toNat_natCast, hb']
  simp
theorem ext_sim {vs : List AV} {x : Value} (hx : VR σ (.tup vs) x) {i : Nat} {v : AV} (hv : vs[i]? = some v) : Gives P σ w (Instr.extract x i) v := by
  cases hx with
  | tup h1 h2 =>
    rename_i ds
    have hi : i < ds.size := by rw [← h1]; exact (List.getElem?_eq_some_iff.1 hv).1
    refine ⟨ds[i], ?_, h2 i v _ hv (by simp [hi])⟩
    simp [Instr.extract, hi]
theorem tass_run {a : TypeId} {d : TypeDesc} (ha : P.underlying a = some d) (hd : ∀ ms, d ≠ .interface ms) {xt : TypeId} {x : Value} {ok : Bool} :
    (Instr.typeAssert x xt a ok).run P w = match x with
      | .nilIface => if ok then ((zeroValue a).run P w).andThen (fun z w => .ok (.tuple #[z, .bool false]) w) else (runtimePanic (.typeAssertion (some xt) none a "")).run P w
      | .iface t v => if t = a then .ok (if ok then .tuple #[v, .bool true] else v) w else if ok then ((zeroValue a).run P w).andThen (fun z w => .ok (.tuple #[z, .bool false]) w) else (runtimePanic (.typeAssertion (some xt) (some t) a "")).run P w
      | _ => .halt (.stuck "TypeAssert: interface value expected") w := by
  simp only [Instr.typeAssert, Sem.run_bind, run_underlying ha, Result.andThen_ok]
  cases x <;> cases d <;> first
    | (exact absurd rfl (hd _))
    | (cases ok <;> simp <;> rfl)
    | (cases ok <;> simp <;> split <;> simp)
theorem eqK_sim {v u : AV} {x y : Value} {q : EqK} {t : TypeId} {n : Nat} (ht : kindK P t = some q) (hx : VR σ v x) (hy : VR σ u y) {b : Bool} (hv : eqK q v u = some b) :
    (Op.equalIn (n + 1) t x y).run P w = .ok b w := by
  have hd : ∃ d, P.underlying t = some d ∧ ((q = .int ∧ ∃ k, d = .int k) ∨ (q = .bool ∧ d = .bool) ∨ (q = .str ∧ d = .string)) := by
    unfold kindK at ht
    split at ht <;> first | (cases ht; done) | (rename_i e; injection ht with ht; subst ht; exact ⟨_, e, by simp⟩)
  obtain ⟨d, hd, hq⟩ := hd
  cases hx <;> cases hy <;> rcases hq with ⟨rfl, k, rfl⟩ | ⟨rfl, rfl⟩ | ⟨rfl, rfl⟩ <;> simp only [eqK] at hv <;> try (cases hv; done)
  · injection hv with hv; subst hv
    simp only [Op.equalIn, Sem.run_bind, run_underlying hd, Result.andThen_ok]; rfl
  · split at hv
    · rename_i hk
      have hk := kindEq_iff hk
      subst hk
      injection hv with hv; subst hv
      simp only [Op.equalIn, Sem.run_bind, run_underlying hd, Result.andThen_ok]; simp; rfl
    · cases hv
  · injection hv with hv; subst hv
    simp only [Op.equalIn, Sem.run_bind, run_underlying hd, Result.andThen_ok]
    rw [str_eq]
    simp only [Sem.run_pure]
    rw [ba_beq]
theorem kindK_under {t : TypeId} {q : EqK} (ht : kindK P t = some q) : isAggT P t = some false := by
  unfold kindK at ht
  unfold isAggT
  split at ht <;> first | (cases ht; done) | (rename_i e; rw [e])
theorem eqFields_sim : ∀ (fl : List Field) (i : Nat) (ks : List EqK) (xs ys : Array Value) (as bs : List AV) (b : Bool) (n : Nat), kindsF P fl i = some ks → LR σ as (xs.toList.drop i) → LR σ bs (ys.toList.drop i) →
    eqL ks as bs = some b → (Op.eqFields (n + 1) xs ys fl).run P w = .ok b w := by
  intro fl
  induction fl with
  | nil =>
    intro i ks xs ys as bs b n hk ha hb he
    simp only [kindsF, Option.some.injEq] at hk
    subst hk
    cases as <;> cases bs <;> simp only [eqL] at he <;> try (cases he; done)
    injection he with he; subst he
    simp [Op.eqFields]
  | cons f fl ih =>
    intro i ks xs ys as bs b n hk ha hb he
    simp only [kindsF] at hk
    split at hk
    · rename_i k l h1 h2 h3
      injection hk with hk; subst hk
      simp only [Bool.and_eq_true, bne_iff_ne, beq_iff_eq] at h1
      obtain ⟨⟨hname, hoff⟩, hsize⟩ := h1
      cases as with
      | nil => cases bs <;> simp [eqL] at he
      | cons a as =>
        cases bs with
        | nil => simp [eqL] at he
        | cons c bs =>
          simp only [eqL] at he
          split at he
          · rename_i x y hx hy
            injection he with he; subst he
            obtain ⟨a', r, e1, ha1, ha2⟩ := ha.cons_inv
            obtain ⟨c', r', e2, hc1, hc2⟩ := hb.cons_inv
            have hd1 : xs[i]? = some a' := by
              have := congrArg (·[0]?) e1
              simpa [List.getElem?_drop] using this
            have hd2 : ys[i]? = some c' := by
              have := congrArg (·[0]?) e2
              simpa [List.getElem?_drop] using this
            have hr1 : xs.toList.drop (i + 1) = r := by rw [← List.drop_drop, e1]; rfl
            have hr2 : ys.toList.drop (i + 1) = r' := by rw [← List.drop_drop, e2]; rfl
            have hag := kindK_under h2
            have hp1 : (part f.type xs f.offset).run P w = .ok a' w := by simp [part, run_isAgg hag, hoff, hd1]
            have hp2 : (part f.type ys f.offset).run P w = .ok c' w := by simp [part, run_isAgg hag, hoff, hd2]
            have heq := eqK_sim (P := P) (w := w) (n := n) h2 ha1 hc1 hx
            have hih := ih (i + 1) l xs ys as bs y n h3 (by rw [hr1]; exact ha2) (by rw [hr2]; exact hc2) hy
            simp only [Op.eqFields, if_pos hname, Sem.run_bind, hp1, hp2, heq, Result.andThen_ok]
            cases x with
            | false => simp
            | true => simp [hih]
          · cases he
    · cases hk
theorem isEq_iff {op : BinOp} {t : Bool} (h : isEq op = some t) : (op = .eql ∧ t = true) ∨ (op = .neq ∧ t = false) := by
  cases op <;> simp [isEq] at h <;> subst h <;> simp
theorem beq_tt (b : Bool) : (b == true) = b := by cases b <;> rfl
theorem beq_ff (b : Bool) : (b == false) = !b := by cases b <;> rfl
theorem struct_sim {op : BinOp} {t : TypeId} {x y : Operand} {fs : Array Field} {ks : List EqK} (ht : P.underlying t = some (.struct fs)) (hst : P.stoodInHeld t = false) (hg : P.eqGuardType P.depth t = false) (hk : kindsF P fs.toList 0 = some ks)
    {as bs : List AV} {u v : Value} (hu : VR σ (.agg as) u) (hv : VR σ (.agg bs) v) {b t' : Bool} (he : eqL ks as bs = some b) (ho : isEq op = some t') :
    Gives P σ w (do eqGuard op t x y u v; binOp op t u v) (.bool (b == t')) := by
  obtain ⟨xs, rfl, hx⟩ := hu.of_agg
  obtain ⟨ys, rfl, hy⟩ := hv.of_agg
  have hf : P.fieldsOf t = fs := by simp [Program.fieldsOf, ht]
  have hrun := eqFields_sim (P := P) (σ := σ) (w := w) fs.toList 0 ks xs ys as bs b 9998 hk (by simpa using hx) (by simpa using hy) he
  have hq := run_equalIn_struct (P := P) w 9999 t xs ys (by rw [hf]; exact ht) hst
  rw [hf, hrun] at hq
  rcases isEq_iff ho with ⟨rfl, rfl⟩ | ⟨rfl, rfl⟩
  · refine ⟨.bool b, ?_, by rw [beq_tt]; exact .bool b⟩
    simp only [Sem.run_bind, run_eqGuard_agg w _ t x y xs ys hg, Result.andThen_ok, run_eql_struct, hq]
  · refine ⟨.bool (!b), ?_, by rw [beq_ff]; exact .bool _⟩
    simp only [Sem.run_bind, run_eqGuard_agg w _ t x y xs ys hg, Result.andThen_ok, run_neq_struct, hq]
theorem eq_sim {op : BinOp} {t : TypeId} {x y : Operand} {u v : Value} {b t' : Bool} (hgd : (eqGuard op t x y u v).run P w = .ok () w) (h1 : binOp .eql t u v = (do pure (.bool (← Op.equal t u v)))) (h2 : binOp .neq t u v = (do pure (.bool (!(← Op.equal t u v)))))
    (heq : (Op.equal t u v).run P w = .ok b w) (ho : isEq op = some t') : Gives P σ w (do eqGuard op t x y u v; binOp op t u v) (.bool (b == t')) := by
  rcases isEq_iff ho with ⟨rfl, rfl⟩ | ⟨rfl, rfl⟩
  · refine ⟨.bool b, ?_, by rw [beq_tt]; exact .bool b⟩
    simp only [Sem.run_bind, hgd, Result.andThen_ok, h1, heq]
    rfl
  · refine ⟨.bool (!b), ?_, by rw [beq_ff]; exact .bool _⟩
    simp only [Sem.run_bind, hgd, Result.andThen_ok, h2, heq]
    rfl
theorem bool_sim {op : BinOp} {t : TypeId} {x y : Operand} (ht : P.underlying t = some .bool) {a b t' : Bool} (ho : isEq op = some t') :
    Gives P σ w (do eqGuard op t x y (.bool a) (.bool b); binOp op t (.bool a) (.bool b)) (.bool ((a == b) == t')) :=
  eq_sim (by rw [eqGuard_at_bool]; rfl) rfl rfl (run_equalIn_bool w 9999 t a b ht) ho
theorem nonframe {a : Addr} {arr : Array Value} {e : TypeId} (hb : w.heap[a.block]? = some (.cells arr e (0, 0))) : w.frozen? a = false := by
  simp [World.frozen?, hb]
theorem ptr_ne_in (d : Nat) {t e : TypeId} {s : Nat} (ht : P.underlying t = some (.pointer e)) (hs : sizeT P e = some (s + 1)) {a b : Addr} {arr arr' : Array Value} {e1 e2 : TypeId} (hne : a.block ≠ b.block)
    (ha : w.heap[a.block]? = some (.cells arr e1 (0, 0))) (hb : w.heap[b.block]? = some (.cells arr' e2 (0, 0))) : (Op.equalIn (d + 1) t (.pointer (some a)) (.pointer (some b))).run P w = .ok false w := by
  have hf1 : ∀ o, w.frozen? ⟨a.block, o, none⟩ = false := fun o => by simp [World.frozen?, ha]
  have hf2 : ∀ o, w.frozen? ⟨b.block, o, none⟩ = false := fun o => by simp [World.frozen?, hb]
  have hfa : w.frozen? a = false := nonframe ha
  have hfb : w.frozen? b = false := nonframe hb
  have hsa : w.shape? a.block = some (e1, arr.size) := by simp [World.shape?, ha]
  have hsb : w.shape? b.block = some (e2, arr'.size) := by simp [World.shape?, hb]
  have hbeq : (a.block == b.block) = false := by simpa using hne
  simp only [Op.equalIn, Sem.run_bind, run_underlying ht, Result.andThen_ok, run_sizeOf hs]
  simp [sameAddr, hbeq, frozen, Sem.run, hfa, hfb, noView, viewAt, shape, hsa, hsb, mayBeOne, stringish, hf1, hf2]
theorem ptr_same_in (d : Nat) {t e : TypeId} {s : Nat} (ht : P.underlying t = some (.pointer e)) (hs : sizeT P e = some (s + 1)) {k o o' : Nat} :
    (Op.equalIn (d + 1) t (.pointer (some ⟨k, o, none⟩)) (.pointer (some ⟨k, o', none⟩))).run P w = .ok (Nat.beq o o') w := by
  simp only [Op.equalIn, Sem.run_bind, run_underlying ht, Result.andThen_ok, run_sizeOf hs]
  have : ((⟨k, o, none⟩ : Addr) == ⟨k, o', none⟩) = Nat.beq o o' := by
    rw [Bool.eq_iff_iff]; simp [Nat.beq_eq]
  simp [sameAddr, this]
theorem ptr_nil1_in (d : Nat) {t e : TypeId} (ht : P.underlying t = some (.pointer e)) (b : Option Addr) : (Op.equalIn (d + 1) t (.pointer none) (.pointer b)).run P w = .ok b.isNone w := by
  simp only [Op.equalIn, Sem.run_bind, run_underlying ht, Result.andThen_ok]; rfl
theorem ptr_nil2_in (d : Nat) {t e : TypeId} (ht : P.underlying t = some (.pointer e)) (a : Addr) : (Op.equalIn (d + 1) t (.pointer (some a)) (.pointer none)).run P w = .ok false w := by
  simp only [Op.equalIn, Sem.run_bind, run_underlying ht, Result.andThen_ok]; rfl
theorem ifc_nn_in (d : Nat) {t : TypeId} {ms : Array (String × TypeId)} (ht : P.underlying t = some (.interface ms)) : (Op.equalIn (d + 1) t .nilIface .nilIface).run P w = .ok true w := by
  simp only [Op.equalIn, Sem.run_bind, run_underlying ht, Result.andThen_ok]; rfl
theorem ifc_n1_in (d : Nat) {t u : TypeId} {v : Value} {ms : Array (String × TypeId)} (ht : P.underlying t = some (.interface ms)) : (Op.equalIn (d + 1) t .nilIface (.iface u v)).run P w = .ok false w := by
  simp only [Op.equalIn, Sem.run_bind, run_underlying ht, Result.andThen_ok]; rfl
theorem ifc_n2_in (d : Nat) {t u : TypeId} {v : Value} {ms : Array (String × TypeId)} (ht : P.underlying t = some (.interface ms)) : (Op.equalIn (d + 1) t (.iface u v) .nilIface).run P w = .ok false w := by
  simp only [Op.equalIn, Sem.run_bind, run_underlying ht, Result.andThen_ok]; rfl
theorem sl_n1_in (d : Nat) {t e : TypeId} {n c n' c' : Nat} {b : Option Addr} (ht : P.underlying t = some (.slice e)) : (Op.equalIn (d + 1) t (.slice none n c) (.slice b n' c')).run P w = .ok b.isNone w := by
  simp only [Op.equalIn, Sem.run_bind, run_underlying ht, Result.andThen_ok]; rfl
theorem sl_n2_in (d : Nat) {t e : TypeId} {n c n' c' : Nat} {a : Addr} (ht : P.underlying t = some (.slice e)) : (Op.equalIn (d + 1) t (.slice (some a) n c) (.slice none n' c')).run P w = .ok false w := by
  simp only [Op.equalIn, Sem.run_bind, run_underlying ht, Result.andThen_ok]; rfl
theorem mp_n1_in (d : Nat) {t k e : TypeId} {b : Option Nat} (ht : P.underlying t = some (.map k e)) : (Op.equalIn (d + 1) t (.map none) (.map b)).run P w = .ok b.isNone w := by
  simp only [Op.equalIn, Sem.run_bind, run_underlying ht, Result.andThen_ok]; rfl
theorem mp_n2_in (d : Nat) {t k e : TypeId} {a : Nat} (ht : P.underlying t = some (.map k e)) : (Op.equalIn (d + 1) t (.map (some a)) (.map none)).run P w = .ok false w := by
  simp only [Op.equalIn, Sem.run_bind, run_underlying ht, Result.andThen_ok]; rfl
theorem fn_nn_in (d : Nat) {t : TypeId} {a b : Array TypeId} {c : Bool} (ht : P.underlying t = some (.func a b c)) : (Op.equalIn (d + 1) t .nilFunc .nilFunc).run P w = .ok true w := by
  simp only [Op.equalIn, Sem.run_bind, run_underlying ht, Result.andThen_ok]; rfl
theorem fn_n1_in (d : Nat) {t : TypeId} {a b : Array TypeId} {c : Bool} {f : Fn} {x y : Array Value} (ht : P.underlying t = some (.func a b c)) : (Op.equalIn (d + 1) t .nilFunc (.func f x y)).run P w = .ok false w := by
  simp only [Op.equalIn, Sem.run_bind, run_underlying ht, Result.andThen_ok]; rfl
theorem fn_n2_in (d : Nat) {t : TypeId} {a b : Array TypeId} {c : Bool} {f : Fn} {x y : Array Value} (ht : P.underlying t = some (.func a b c)) : (Op.equalIn (d + 1) t (.func f x y) .nilFunc).run P w = .ok false w := by
  simp only [Op.equalIn, Sem.run_bind, run_underlying ht, Result.andThen_ok]; rfl
theorem eqC_inv {op : BinOp} {t : TypeId} {x y : Operand} {c : EqC} (hc : eqC P op t x y = some c) : match c with
    | .plain => True
    | .bool => P.underlying t = some .bool
    | .ptr => ∃ e s, P.underlying t = some (.pointer e) ∧ sizeT P e = some (s + 1)
    | .ifc => ∃ ms, P.underlying t = some (.interface ms) ∧ (isKc x || isKc y) = true
    | .strct ks => ∃ fs, P.underlying t = some (.struct fs) ∧ P.stoodInHeld t = false ∧ P.eqGuardType P.depth t = false ∧ kindsF P fs.toList 0 = some ks
    | .slc => ∃ e, P.underlying t = some (.slice e)
    | .mp => ∃ k e, P.underlying t = some (.map k e)
    | .fnc => ∃ a b v, P.underlying t = some (.func a b v) := by
  unfold eqC at hc
  split at hc
  · injection hc with hc; subst hc; trivial
  · injection hc with hc; subst hc; trivial
  · rename_i e; injection hc with hc; subst hc; exact e
  · rename_i e
    split at hc
    · rename_i e'; injection hc with hc; subst hc; exact ⟨_, _, e, e'⟩
    · cases hc
  · rename_i e
    split at hc
    · rename_i e'; injection hc with hc; subst hc; exact ⟨_, e, e'⟩
    · cases hc
  · rename_i e
    split at hc
    · rename_i e1 e2; injection hc with hc; subst hc
      simp only [Bool.or_eq_false_iff] at e1
      exact ⟨_, e, e1.1, e1.2, e2⟩
    · cases hc
  · rename_i e; injection hc with hc; subst hc; exact ⟨_, e⟩
  · rename_i e; injection hc with hc; subst hc; exact ⟨_, _, e⟩
  · rename_i e; injection hc with hc; subst hc; exact ⟨_, _, _, e⟩
  · cases hc
theorem guard_nil {op : BinOp} {t : TypeId} {x y : Operand} (h : (isKc x || isKc y) = true) : (eqGuard op t x y .nilIface .nilIface).run P w = .ok () w := by
  cases x with
  | const c => rw [eqGuard_nil_constL]; rfl
  | _ =>
    cases y with
    | const c => rw [eqGuard_nil_constR]; rfl
    | _ => cases h
theorem own_heap (r : HR σ h w) {b : Nat} {cs : List AV} {L : Loc} (hg : h.get b = some (.cells true cs)) (hs : σ b = some L) : ∃ arr e, w.heap[L.blk]? = some (.cells arr e (0, 0)) := by
  obtain ⟨arr, e, fr, h1, _, _, h4⟩ := r.blk b _ L hg hs
  rw [h4 rfl] at h1
  exact ⟨arr, e, h1⟩
theorem ptr_eq_sim (r : HR σ h w) {op : BinOp} {t e : TypeId} {s : Nat} {x y : Operand} (h1 : P.underlying t = some (.pointer e)) (h2 : sizeT P e = some (s + 1)) {b1 o1 b2 o2 : Nat} {L L' : Loc} (hL : σ b1 = some L) (hL' : σ b2 = some L') {b t' : Bool}
    (hq : (match Nat.beq b1 b2 with
      | true => some (Nat.beq o1 o2)
      | false => match h.get b1, h.get b2 with
        | some (.cells true _), some (.cells true _) => some false
        | _, _ => none) = some b) (ho : isEq op = some t') :
    Gives P σ w (do eqGuard op t x y (.pointer (some ⟨L.blk, L.base + o1, none⟩)) (.pointer (some ⟨L'.blk, L'.base + o2, none⟩)); binOp op t (.pointer (some ⟨L.blk, L.base + o1, none⟩)) (.pointer (some ⟨L'.blk, L'.base + o2, none⟩))) (.bool (b == t')) := by
  refine eq_sim (by rw [eqGuard_at_pointer]; rfl) rfl rfl ?_ ho
  split at hq
  · rename_i hbb
    have := Nat.eq_of_beq_eq_true hbb
    subst this
    rw [hL] at hL'; injection hL' with hL'; subst hL'
    injection hq with hq; subst hq
    have := ptr_same_in (P := P) (w := w) 9999 h1 h2 (k := L.blk) (o := L.base + o1) (o' := L.base + o2)
    rw [show Nat.beq (L.base + o1) (L.base + o2) = Nat.beq o1 o2 by rw [Bool.eq_iff_iff, Nat.beq_eq, Nat.beq_eq]; omega] at this
    exact this
  · rename_i hbb
    have hne := Nat.ne_of_beq_eq_false hbb
    split at hq
    · rename_i c1 c2 g1 g2
      injection hq with hq; subst hq
      obtain ⟨arr, e1, k1⟩ := own_heap r g1 hL
      obtain ⟨arr', e2, k2⟩ := own_heap r g2 hL'
      exact ptr_ne_in (P := P) (w := w) 9999 h1 h2 (r.inj _ _ L L' hne (.inl ⟨_, g1⟩) (by rw [g2]; rfl) hL hL') k1 k2
    · cases hq
theorem bin_sim {a : Act} {ts : TS} (htr : TR σ ts a.tmps) (r : HR σ h w) {op : BinOp} {t : TypeId} {x y : Operand} {c : EqC} (hc : eqC P op t x y = some c) {v : AV} (hv : binA h op c (evA ts (opd x)) (evA ts (opd y)) = some v) :
    Gives P σ w (do eqGuard op t x y (a.eval x) (a.eval y); binOp op t (a.eval x) (a.eval y)) v := by
  have hx := evA_ok htr x
  have hy := evA_ok htr y
  generalize hu : evA ts (opd x) = u at hx hv
  generalize hu' : evA ts (opd y) = u' at hy hv
  generalize hX : a.eval x = X at hx
  generalize hY : a.eval y = Y at hy
  have hinv := eqC_inv hc
  unfold binA at hv
  split at hv
  ·
    cases hx; cases hy
    rename_i k n k' n'
    have hg : (eqGuard op t x y (.int k n) (.int k' n')).run P w = .ok () w := by rw [eqGuard_at_int]; rfl
    split at hv
    · obtain ⟨v', h1, h2⟩ := shift_sim (P := P) (σ := σ) (w := w) (t := t) (k' := k') hv
      exact ⟨v', by simp only [Sem.run_bind, hg, Result.andThen_ok, h1], h2⟩
    · rename_i hs
      split at hv
      · rename_i hk
        have hk := kindEq_iff hk
        subst hk
        obtain ⟨v', h1, h2⟩ := intBin_sim (P := P) (σ := σ) (w := w) (t := t) hs hv
        exact ⟨v', by simp only [Sem.run_bind, hg, Result.andThen_ok, h1], h2⟩
      · cases hv
  · cases hx; cases hy
    rename_i s u
    have hg : (eqGuard op t x y (.string s) (.string u)).run P w = .ok () w := by rw [eqGuard_at_string]; rfl
    obtain ⟨v', h1, h2⟩ := strBin_sim (P := P) (σ := σ) (w := w) (t := t) hv
    exact ⟨v', by simp only [Sem.run_bind, hg, Result.andThen_ok, h1], h2⟩
  · split at hv
    · rename_i t' b ho hq
      injection hv with hv; subst hv
      unfold equalA at hq
      split at hq
      · cases hx; cases hy
        injection hq with hq; subst hq
        exact bool_sim hinv ho
      · obtain ⟨fs, h1, h2, h3, h4⟩ := hinv
        exact struct_sim h1 h2 h3 h4 hx hy hq ho
      · obtain ⟨e, s, h1, h2⟩ := hinv
        cases hx with
        | @ptr b1 o1 L hL =>
          cases hy with
          | @ptr b2 o2 L' hL' =>
            exact ptr_eq_sim r h1 h2 hL hL' hq ho
      · obtain ⟨e, s, h1, h2⟩ := hinv
        cases hx; cases hy
        injection hq with hq; subst hq
        exact eq_sim (by rw [eqGuard_at_pointer]; rfl) rfl rfl (ptr_nil1_in 9999 h1 none) ho
      · obtain ⟨e, s, h1, h2⟩ := hinv
        cases hx; cases hy
        injection hq with hq; subst hq
        exact eq_sim (by rw [eqGuard_at_pointer]; rfl) rfl rfl (ptr_nil1_in 9999 h1 _) ho
      · obtain ⟨e, s, h1, h2⟩ := hinv
        cases hx; cases hy
        injection hq with hq; subst hq
        exact eq_sim (by rw [eqGuard_at_pointer]; rfl) rfl rfl (ptr_nil2_in 9999 h1 _) ho
      · obtain ⟨ms, h1, h2⟩ := hinv
        cases hx; cases hy
        injection hq with hq; subst hq
        exact eq_sim (guard_nil h2) rfl rfl (ifc_nn_in 9999 h1) ho
      · obtain ⟨ms, h1, h2⟩ := hinv
        cases hx; cases hy
        injection hq with hq; subst hq
        exact eq_sim (by rw [eqGuard_nil_iface]; rfl) rfl rfl (ifc_n1_in 9999 h1) ho
      · obtain ⟨ms, h1, h2⟩ := hinv
        cases hx; cases hy
        injection hq with hq; subst hq
        exact eq_sim (by rw [eqGuard_at_iface]; rfl) rfl rfl (ifc_n2_in 9999 h1) ho
      · obtain ⟨e, h1⟩ := hinv
        cases hx; cases hy
        injection hq with hq; subst hq
        exact eq_sim (by rw [eqGuard_at_slice]; rfl) rfl rfl (sl_n1_in 9999 h1) ho
      · obtain ⟨e, h1⟩ := hinv
        cases hx; cases hy
        injection hq with hq; subst hq
        exact eq_sim (by rw [eqGuard_at_slice]; rfl) rfl rfl (sl_n2_in 9999 h1) ho
      · obtain ⟨e, h1⟩ := hinv
        cases hx; cases hy
        injection hq with hq; subst hq
        exact eq_sim (by rw [eqGuard_at_slice]; rfl) rfl rfl (sl_n1_in 9999 h1) ho
      · obtain ⟨k, e, h1⟩ := hinv
        cases hx; cases hy
        injection hq with hq; subst hq
        exact eq_sim (by rw [eqGuard_at_map]; rfl) rfl rfl (mp_n1_in 9999 h1) ho
      · obtain ⟨k, e, h1⟩ := hinv
        cases hx; cases hy
        injection hq with hq; subst hq
        exact eq_sim (by rw [eqGuard_at_map]; rfl) rfl rfl (mp_n2_in 9999 h1) ho
      · obtain ⟨k, e, h1⟩ := hinv
        cases hx; cases hy
        injection hq with hq; subst hq
        exact eq_sim (by rw [eqGuard_at_map]; rfl) rfl rfl (mp_n1_in 9999 h1) ho
      · obtain ⟨p, q, z, h1⟩ := hinv
        cases hx; cases hy
        injection hq with hq; subst hq
        exact eq_sim (by rw [eqGuard_at_nilFunc]; rfl) rfl rfl (fn_nn_in 9999 h1) ho
      · obtain ⟨p, q, z, h1⟩ := hinv
        cases hx; cases hy
        injection hq with hq; subst hq
        exact eq_sim (by rw [eqGuard_at_func]; rfl) rfl rfl (fn_n2_in 9999 h1) ho
      · obtain ⟨p, q, z, h1⟩ := hinv
        cases hx; cases hy
        injection hq with hq; subst hq
        exact eq_sim (by rw [eqGuard_at_nilFunc]; rfl) rfl rfl (fn_n1_in 9999 h1) ho
      · cases hq
    · cases hv
end
end Go.Ab
namespace Go.Ab
section
variable {P : Program} {σ : Ren} {h : H} {w : World}
def Makes (P : Program) (σ : Ren) (h : H) (w : World) (s : Sem Value) (v : AV) (h' : H) : Prop :=
  (∀ b, h.next ≤ b → b < h'.next → σ b = none) → ∃ σ' v' w', s.run P w = .ok v' w' ∧ VR σ' v v' ∧ HR σ' h' w' ∧ Ext σ σ' h h' w w'
def Does (P : Program) (σ : Ren) (h : H) (w : World) (s : Sem Unit) (h' : H) : Prop :=
  (∀ b, h.next ≤ b → b < h'.next → σ b = none) → ∃ σ' w', s.run P w = .ok () w' ∧ HR σ' h' w' ∧ Ext σ σ' h h' w w'
theorem Gives.makes (r : HR σ h w) {s : Sem Value} {v : AV} (g : Gives P σ w s v) : Makes P σ h w s v h := fun _ =>
  let ⟨v', h1, h2⟩ := g; ⟨σ, v', w, h1, h2, r, Ext.refl σ h w⟩
theorem newRow_sim (r : HR σ h w) {cs : List AV} {arr : Array Value} {e : TypeId} {ds extra : List Value} (hd : LR σ cs ds) (ha : arr.toList = ds ++ extra) (hn : σ h.next = none) :
    ∃ σ' L, (newRow e arr).run P w = .ok ⟨L.blk, 0, none⟩ (w.alloc (.cells arr e)) ∧ σ' h.next = some L ∧ L.base = 0 ∧ L.size = arr.size ∧ HR σ' (h.new (.cells true cs)) (w.alloc (.cells arr e)) ∧ Ext σ σ' h (h.new (.cells true cs)) w (w.alloc (.cells arr e)) := by
  obtain ⟨h1, h2⟩ := r.newCells cs arr e ds extra hd ha hn
  exact ⟨_, ⟨w.heap.size, 0, arr.size⟩, by simp [newRow, run_newObj], setR_same _ _ _, rfl, rfl, h1, h2⟩
theorem fresh_new {x : Bk} (hf : ∀ b, h.next ≤ b → b < (h.new x).next → σ b = none) : σ h.next = none := hf _ (Nat.le_refl _) (by rw [H.next_new]; omega)
theorem alloc_sim (r : HR σ h w) {e : TypeId} {z : List AV} (hz : cellsT P e = some z) : Makes P σ h w (Instr.alloc e true (.tuple #[])) (.ptr h.next 0) (h.new (.cells true z)) := by
  intro hf
  unfold cellsT at hz
  cases hzt : zeroT P e with
  | none => simp [hzt] at hz
  | some zv =>
    simp only [hzt, Option.map_some, Option.some.injEq] at hz
    obtain ⟨v, h1, h2⟩ := run_zero (P := P) (w := w) hzt
    subst h2; subst hz
    obtain ⟨σ', L, k1, k2, k3, k4, k5, k6⟩ := newRow_sim (P := P) (e := e) r (LR.ofV_cells σ v) (List.append_nil _).symm (fresh_new hf)
    refine ⟨σ', .pointer (some ⟨L.blk, 0, none⟩), _, ?_, ?_, k5, k6⟩
    · simp [Instr.alloc, h1, newVar, k1]
    · have := VR.ptr (σ := σ') (o := 0) k2
      rwa [k3] at this
theorem box_sim (r : HR σ h w) {e : TypeId} {v : AV} {v' : Value} (hv : VR σ v v') (hk : ∀ ds, v' = .agg ds → ∃ cs, v = .agg cs) : Makes P σ h w (Instr.box e v') (.ptr h.next 0) (h.new (.cells true v.cells)) := by
  intro hf
  obtain ⟨σ', L, k1, k2, k3, k4, k5, k6⟩ := newRow_sim (P := P) (e := e) r (hv.cells hk) (List.append_nil _).symm (fresh_new hf)
  refine ⟨σ', .pointer (some ⟨L.blk, 0, none⟩), _, ?_, ?_, k5, k6⟩
  · simp [Instr.box, newVar, k1]
  · have := VR.ptr (σ := σ') (o := 0) k2
    rwa [k3] at this
theorem mkMap_sim (r : HR σ h w) {t : TypeId} : Makes P σ h w (Instr.makeMap t none) (.map h.next) (h.new (.map [] 0)) := by
  intro hf
  obtain ⟨h1, h2⟩ := r.new (.map [] 0) (.map #[] 0) 0 (fresh_new hf) (fun σ' w' hle hw => ⟨#[], hw, rfl, fun i e e' a => by simp at a⟩)
  exact ⟨_, .map (some w.heap.size), _, by simp [Instr.makeMap, run_newObj], .map (L := ⟨w.heap.size, 0, 0⟩) (setR_same _ _ _), h1, h2⟩
theorem setRow_size (w : World) (g : Nat) (cs : Array Value) : (w.setRow g cs).heap.size = w.heap.size := by simp [World.setRow]
theorem storeCells_sim (r : HR σ h w) {b o : Nat} {vs : List AV} {h' : H} (hst : storeA h b o vs = some h') {L : Loc} (hs : σ b = some L) {ds : List Value} (hd : LR σ vs ds) :
    ∃ w', (storeCells ⟨L.blk, L.base + o, none⟩ ds).run P w = .ok () w' ∧ HR σ h' w' ∧ Ext σ σ h h' w w' := by
  unfold storeA at hst
  split at hst
  · rename_i cs hg
    split at hst
    · rename_i hle hok
      injection hst with hst; subst hst
      have hle := Nat.le_of_ble_eq_true hle
      obtain ⟨arr, e, fr, h1, h2, h3, h4⟩ := r.blk b _ L hg hs
      rw [h4 rfl] at h1
      have hlen := h3.1
      simp only [List.length_take, List.length_drop, Array.length_toList] at hlen
      have hdl := hd.1
      obtain ⟨h2, hin⟩ := brOwn h2
      have hrun := run_storeCells_at P L.blk (L.base + o) e ds 0 arr w h1 (by omega) (hd.oneCell hok)
      simp only [Nat.add_zero] at hrun
      have hsp : (splice cs o vs).length = cs.length := by unfold splice; simp; omega
      generalize hnew : (arr.toList.take (L.base + o) ++ ds ++ arr.toList.drop (L.base + o + ds.length)).toArray = new at hrun
      have hnl : new.toList = arr.toList.take (L.base + o) ++ ds ++ arr.toList.drop (L.base + o + ds.length) := by rw [← hnew]
      have hnsz : new.size = arr.size := by
        rw [← Array.length_toList, hnl]; simp; omega
      have hlr : LR σ (splice cs o vs) ((new.toList.drop L.base).take (splice cs o vs).length) := by
        have : (new.toList.drop L.base).take (splice cs o vs).length = ((arr.toList.drop L.base).take cs.length).take o ++ ds ++ ((arr.toList.drop L.base).take cs.length).drop (o + ds.length) := by
          rw [hsp, hnl]
          apply List.ext_getElem?
          intro i
          simp only [List.getElem?_take, List.getElem?_drop, List.getElem?_append, List.length_take, List.length_append, List.length_drop, Array.length_toList]
          have m1 : min (L.base + o) arr.size = L.base + o := by omega
          have m2 : min cs.length (arr.size - L.base) = cs.length := hlen.symm
          have m3 : min o cs.length = o := by omega
          simp only [m1, m2, m3]
          by_cases h5 : i < cs.length
          · rw [if_pos h5]
            by_cases h6 : i < o
            · rw [if_pos (by omega), if_pos (by omega), if_pos (by omega), if_pos (by omega), if_pos (by omega), if_pos (by omega), if_pos h5]
            · by_cases h7 : i < o + ds.length
              · rw [if_pos (by omega), if_neg (by omega), if_pos (by omega), if_neg (by omega)]
                congr 1; omega
              · rw [if_neg (by omega), if_neg (by omega), if_pos (by omega)]
                congr 1; omega
          · rw [if_neg h5, if_neg (by omega), if_neg (by omega)]
        rw [this]
        exact h3.splice hd o
      obtain ⟨k1, k2⟩ := r.change (w' := w.setRow L.blk new) hs (.inl ⟨cs, hg⟩) (.cells true (splice cs o vs)) (setRow_size w _ _) rfl rfl rfl (fun k hk => setRow_other w _ _ _ hk)
        ⟨new, e, (0, 0), setRow_heap w L.blk arr new e (0, 0) h1, ⟨by rw [hnsz, h2]; exact Nat.le_refl _, by rw [hsp, hnsz, h2]; exact hin, fun _ => by rw [hnsz, h2]⟩, hlr, fun _ => rfl⟩
      exact ⟨_, hrun, k1, k2⟩
    · cases hst
  · cases hst
theorem store_sim (r : HR σ h w) {t : TypeId} {s : Nat} (hs : sizeT P t = some s) {b o : Nat} {x : Value} (hx : VR σ (.ptr b o) x) {v : AV} {v' : Value} (hv : VR σ v v') (hl : v.cells.length = s) {h' : H} (hst : storeA h b o v.cells = some h') :
    Does P σ h w (Instr.storeAt t x v') h' := by
  intro _
  cases hx with
  | @ptr _ _ L hL =>
    have hk : ∀ ds, v' = .agg ds → ∃ cs, v = .agg cs := by
      intro ds e
      subst e
      cases hv with
      | agg => exact ⟨_, rfl⟩
      | any =>
        unfold storeA at hst
        split at hst
        · simp [AV.cells, cellsOk, cellOk] at hst
        · cases hst
    have hc := hv.cells hk
    obtain ⟨w', h1, h2, h3⟩ := storeCells_sim (P := P) r hst hL hc
    have hsz : v'.cells.size = s := by rw [← Array.length_toList, ← hc.1, hl]
    exact ⟨σ, w', by simp [Instr.storeAt, Instr.sureAddr, storeVar, run_sizeOf hs, hsz, h1], h2, h3⟩
end
end Go.Ab
namespace Go.Ab
section
variable {P : Program} {σ : Ren} {h : H} {w : World}
theorem rowA_sl {z b o n z' : Nat} {cap : Option Nat} {l : List AV} (hl : rowA z h (.sl b o n cap z') = some l) : ∃ cs, h.cells b = some cs ∧ z = z' ∧ o + n * z ≤ cs.length ∧ l = (cs.drop o).take (n * z) := by
  simp only [rowA] at hl
  split at hl
  · rename_i cs h1 h2
    split at hl
    · rename_i h3
      injection hl with hl
      exact ⟨cs, h1, Nat.eq_of_beq_eq_true h2, Nat.le_of_ble_eq_true h3, hl.symm⟩
    · cases hl
  · cases hl
theorem row_src (r : HR σ h w) {z : Nat} {x : AV} {x' : Value} (hx : VR σ x x') {l : List AV} (hl : rowA z h x = some l) :
    ∃ n news, lenA x = some n ∧ LR σ l news ∧ news.length = n * z ∧ (∀ w' : World, (Builtin.lenOf x').run P w' = .ok n w') ∧ (Builtin.firstCells z n x').run P w = .ok news.toArray w ∧ (Builtin.firstCells z n x').run P w.drew = .ok news.toArray w.drew ∧
      ∀ k, k ≤ n → (Builtin.firstCells z k x').run P w = .ok (news.take (k * z)).toArray w := by
  cases hx with
  | snil =>
    simp only [rowA, Option.some.injEq] at hl
    subst hl
    refine ⟨0, [], rfl, .nil σ, by simp, fun _ => rfl, run_firstCells_none w z 0 0 0, run_firstCells_none w.drew z 0 0 0, fun k hk => ?_⟩
    have : k = 0 := by omega
    subst this
    simpa using run_firstCells_none (P := P) w z 0 0 0
  | str s =>
    simp only [rowA] at hl
    split at hl
    · rename_i hz
      have hz := Nat.eq_of_beq_eq_true hz
      subst hz
      injection hl with hl; subst hl
      refine ⟨s.size, byteCells s, by simp only [lenA, str_size], ?_, by rw [byteCells_length, Nat.mul_one], fun _ => rfl, firstCells_string s w, firstCells_string s w.drew, fun k hk => ?_⟩
      · rw [List.map_map]
        exact LR.map_ev _ _ _ fun b _ => .int _ _
      · simp only [Builtin.firstCells, Sem.run_pure, Nat.mul_one, byteCells]
        congr 1
        apply Array.ext'
        rw [Array.toList_map, ByteArray.data_extract, Array.toList_extract, List.extract_eq_take_drop, List.map_take, List.map_drop]
        simp
    · cases hl
  | @sl b o len z' off c cap L hL h1 hc hz hs ho =>
    obtain ⟨cs, g1, g2, g3, g4⟩ := rowA_sl hl
    subst g2; subst g4
    have hoff : len * z = 0 ∨ off = L.base + o := by
      rcases ho with e | e
      · left; have : len = 0 := by omega
        rw [this]; simp
      · exact .inr e
    obtain ⟨ds, k1, k2, k3⟩ := row_ok r g1 hL (o := o) (n := len * z) g3
    have hcell : ∀ j v, ds[j]? = some v → w.cell? ((⟨L.blk, off, none⟩ : Addr).add j) = some v := by
      intro j v hj
      rcases hoff with e | e
      · have : ds = [] := List.eq_nil_of_length_eq_zero (by rw [k2, e])
        subst this; simp at hj
      · rw [e]; exact k3 j v hj
    refine ⟨len, ds, rfl, k1, k2, fun _ => rfl, run_firstCells_some w z len _ len c ds k2 hcell, run_firstCells_some w.drew z len _ len c ds k2 (by simpa using hcell), fun k hk => ?_⟩
    refine run_firstCells_some w z k _ len c (ds.take (k * z)) ?_ (fun j v hj => ?_)
    · rw [List.length_take, k2]
      have := Nat.mul_le_mul_right z hk
      omega
    · rw [List.getElem?_take] at hj
      split at hj
      · exact hcell j v hj
      · cases hj
  | _ => simp [rowA] at hl
theorem dropA_ok {b : Nat} {h' : H} (hd : dropA h b = some h') : (∃ cs, h.get b = some (.cells true cs)) ∧ h' = h.put b none := by
  unfold dropA at hd
  split at hd
  · rename_i cs e; injection hd with hd; exact ⟨⟨cs, e⟩, hd.symm⟩
  · cases hd
theorem newRow_drew (r : HR σ h w) {cs : List AV} {arr : Array Value} {e : TypeId} {ds extra : List Value} (hd : LR σ cs ds) (ha : arr.toList = ds ++ extra) (hn : σ h.next = none) {z n c : Nat} (hz : 0 < z) (hl : n ≤ c) (hs : c * z ≤ arr.size) :
    ∃ σ', VR σ' (.sl h.next 0 n none z) (.slice (some ⟨w.heap.size, 0, none⟩) n c) ∧ HR σ' (h.new (.cells true cs)) (w.drew.alloc (.cells arr e)) ∧ Ext σ σ' h (h.new (.cells true cs)) w (w.drew.alloc (.cells arr e)) := by
  obtain ⟨h1, h2⟩ := (r.drew).newCells cs arr e ds extra hd ha hn
  exact ⟨_, .sl (L := ⟨w.heap.size, 0, arr.size⟩) (setR_same _ _ _) hl (by intro k hk; cases hk) hz (by simpa using hs) (.inr rfl), h1, Ext.drew.trans h2⟩
theorem grow_sim (r : HR σ h w) {t tx ty e : TypeId} {i : TypeInfo} {zv : Value} (ht : P.underlying t = some (.slice e)) (hi : P.info? e = some i) (hz : i.zero = some zv) (hzc : zv.cells.size = i.size) (hz0 : 0 < i.size)
    {base : Option Addr} {sLen sCap : Nat} {olds : List Value} {old : List AV} (hold : (Builtin.firstCells i.size sLen (.slice base sLen sCap)).run P w.drew = .ok olds.toArray w.drew) (hol : olds.length = sLen * i.size) (hor : LR σ old olds)
    {x : Value} {n : Nat} {news : List Value} {new : List AV} (hs : Src P i.size tx x n news w) (hnr : LR σ new news) (hg : sCap < sLen + n) (hb : (sLen + n) * i.bytes ≤ maxRow) (hm : sLen + n ≤ maxRow) (hn : σ h.next = none) :
    ∃ σ' v' w', (Builtin.append_ #[t, tx] ty #[.slice base sLen sCap, x]).run P w = .ok v' w' ∧ VR σ' (.sl h.next 0 (sLen + n) none i.size) v' ∧ HR σ' (h.new (.cells true (old ++ new))) w' ∧ Ext σ σ' h (h.new (.cells true (old ++ new))) w w' := by
  unfold maxRow at hb hm
  have hrun := run_append_grow_src (P := P) w t tx ty e i zv ht hi hz base sLen sCap olds hold x n news hs hg (by omega) (growslice_fits hg (by omega))
  have hge := grownCap_ge w (sLen + n) sCap e
  obtain ⟨σ', h1, h2, h3⟩ := newRow_drew (e := e) r (hor.append hnr) (arr := (olds ++ news).toArray ++ Builtin.zeroCells zv.cells (grownCap w (sLen + n) sCap e - (sLen + n))) (extra := (Builtin.zeroCells zv.cells (grownCap w (sLen + n) sCap e - (sLen + n))).toList) (by simp) hn
    (z := i.size) (n := sLen + n) (c := grownCap w (sLen + n) sCap e) hz0 hge (by
      rw [Array.size_append, List.size_toArray, size_zeroCells, hzc, List.length_append, hol, hs.newsLen, ← Nat.add_mul, ← Nat.add_mul]
      exact Nat.mul_le_mul_right _ (by omega))
  exact ⟨σ', _, _, hrun, h1, h2, h3⟩
theorem room_sim (r : HR σ h w) {t tx ty e : TypeId} {i : TypeInfo} (ht : P.underlying t = some (.slice e)) (hi : P.info? e = some i) (hz0 : 0 < i.size) {b o sLen : Nat} {cs : List AV} {L : Loc} {off sCap : Nat}
    (hL : σ b = some L) (hs0 : off + sCap * i.size ≤ L.size) (ho : sCap = 0 ∨ off = L.base + o) (hg : h.get b = some (.cells true cs)) (hin : o + sLen * i.size ≤ cs.length)
    {x : Value} {n : Nat} {news : List Value} {new : List AV} (hs : Src P i.size tx x n news w) (hnr : LR σ new news) (hn0 : 0 < n) (hroom : sLen + n ≤ sCap) (hn : σ h.next = none) :
    ∃ σ' v' w', (Builtin.append_ #[t, tx] ty #[.slice (some ⟨L.blk, off, none⟩) sLen sCap, x]).run P w = .ok v' w' ∧ VR σ' (.sl h.next 0 (sLen + n) none i.size) v' ∧
      HR σ' ((h.put b none).new (.cells true ((cs.drop o).take (sLen * i.size) ++ new))) w' ∧ Ext σ σ' h ((h.put b none).new (.cells true ((cs.drop o).take (sLen * i.size) ++ new))) w w' := by
  have hoff : off = L.base + o := by rcases ho with e | e <;> omega
  subst hoff
  obtain ⟨arr, e', fr, h1, hbr, h3, h4⟩ := r.blk b _ L hg hL
  obtain ⟨h2, h2'⟩ := brOwn hbr
  rw [h4 rfl] at h1
  have hfit : (sLen + n) * i.size ≤ sCap * i.size := Nat.mul_le_mul_right _ hroom
  have hnl : news.length = n * i.size := hs.newsLen
  have hst := run_storeCells_at P L.blk (L.base + o + sLen * i.size) e' news 0 arr w h1 (by rw [Nat.add_mul] at hfit; omega) hs.one
  simp only [Nat.add_zero] at hst
  generalize hnew : (arr.toList.take (L.base + o + sLen * i.size) ++ news ++ arr.toList.drop (L.base + o + sLen * i.size + news.length)).toArray = na at hst
  have hnal : na.toList = arr.toList.take (L.base + o + sLen * i.size) ++ news ++ arr.toList.drop (L.base + o + sLen * i.size + news.length) := by rw [← hnew]
  have hnsz : na.size = arr.size := by
    rw [← Array.length_toList, hnal]; simp; rw [Nat.add_mul] at hfit; omega
  have hrun : (Builtin.append_ #[t, tx] ty #[.slice (some ⟨L.blk, L.base + o, none⟩) sLen sCap, x]).run P w = .ok (.slice (some ⟨L.blk, L.base + o, none⟩) (sLen + n) sCap) (w.setRow L.blk na) := by
    rcases hs.kind with ⟨e', hk⟩ | hk <;> simp [Builtin.append_, run_underlying ht, run_underlying hk, sizeOf, typeInfo, hi, hs.len, hroom, hs.cells, Addr.add_lit, hst]
  have hlen := h3.1
  simp only [List.length_take, List.length_drop, Array.length_toList] at hlen
  have hlr : LR σ ((cs.drop o).take (sLen * i.size) ++ new) ((na.toList.drop (L.base + o)).take ((cs.drop o).take (sLen * i.size) ++ new).length) := by
    have e1 : ((cs.drop o).take (sLen * i.size) ++ new).length = sLen * i.size + news.length := by rw [List.length_append, hnr.1]; simp; omega
    have e2 : (na.toList.drop (L.base + o)).take (sLen * i.size + news.length) = (((arr.toList.drop L.base).take cs.length).drop o).take (sLen * i.size) ++ news := by
      rw [hnal]
      apply List.ext_getElem?
      intro j
      simp only [List.getElem?_take, List.getElem?_drop, List.getElem?_append, List.length_take, List.length_append, List.length_drop, Array.length_toList]
      rw [Nat.add_mul] at hfit
      have m1 : min (L.base + o + sLen * i.size) arr.size = L.base + o + sLen * i.size := by omega
      have m2 : min cs.length (arr.size - L.base) = cs.length := hlen.symm
      have m3 : min (sLen * i.size) (cs.length - o) = sLen * i.size := by omega
      simp only [m1, m2, m3]
      by_cases h5 : j < sLen * i.size
      · rw [if_pos (by omega), if_pos (by omega), if_pos (by omega), if_pos (by omega), if_pos (by omega), if_pos (by omega)]
        rw [if_pos (by omega)]; congr 1; omega
      · by_cases h6 : j < sLen * i.size + news.length
        · rw [if_pos (by omega), if_pos (by omega), if_neg (by omega), if_neg (by omega)]; congr 1; omega
        · rw [if_neg (by omega), if_neg (by omega), List.getElem?_eq_none (by omega)]
    rw [e1, e2]
    exact ((h3.drop o).take _).append hnr
  obtain ⟨k1, k2⟩ := r.hand (w' := w.setRow L.blk na) (L' := ⟨L.blk, L.base + o, L.size⟩) hL (.inl ⟨cs, hg⟩) (.cells true ((cs.drop o).take (sLen * i.size) ++ new)) rfl hn (setRow_size w _ _) rfl rfl rfl (fun k hk => setRow_other w _ _ _ hk)
    (fun σ' hle => ⟨na, e', (0, 0), setRow_heap w L.blk arr na e' (0, 0) h1, ⟨by rw [hnsz, h2]; exact Nat.le_refl _, by
      rw [hnsz, h2, List.length_append, hnr.1, hnl]; simp only [List.length_take, List.length_drop]; rw [Nat.add_mul] at hfit; omega, fun _ => by rw [hnsz, h2]⟩, hlr.mono hle, fun _ => rfl⟩)
  exact ⟨_, _, _, hrun, .sl (L := ⟨L.blk, L.base + o, L.size⟩) (setR_same _ _ _) hroom (by intro k hk; cases hk) hz0 hs0 (.inr rfl), k1, k2⟩
end
end Go.Ab
