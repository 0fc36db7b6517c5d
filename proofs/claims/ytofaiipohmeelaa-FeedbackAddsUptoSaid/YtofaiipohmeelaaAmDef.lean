/-
  The abstract machine: a deterministic evaluator for the functions of a loaded program, and the translation of the program's code into its own. (Definitions alone; that it is right stands in the texts behind.)
-/
import GoSem.Dispatch
namespace Go.Proofs.Ytofaiipohmeelaa.Am

/-! ### Trees with places for numbers -/
inductive Tr (α : Type) : Type where
  | nil : Tr α
  | node (v : Option α) (l r : Tr α) : Tr α
  deriving Inhabited

def Tr.get {α : Type} : Tr α → Nat → Option α
  | .nil, _ => none
  | .node v l r, i => match i with
    | 0 => v
    | j + 1 => cond (Nat.beq (j % 2) 0) (l.get (j / 2)) (r.get (j / 2))

/-- `x` (or nothing) is laid at place `i`; the first number only bounds the depth. -/
def Tr.putF {α : Type} : Nat → Tr α → Nat → Option α → Tr α
  | 0, t, _, _ => t
  | n + 1, .nil, i, x => match i with
    | 0 => .node x .nil .nil
    | j + 1 => cond (Nat.beq (j % 2) 0) (.node none (Tr.putF n .nil (j / 2) x) .nil) (.node none .nil (Tr.putF n .nil (j / 2) x))
  | n + 1, .node v l r, i, x => match i with
    | 0 => .node x l r
    | j + 1 => cond (Nat.beq (j % 2) 0) (.node v (Tr.putF n l (j / 2) x) r) (.node v l (Tr.putF n r (j / 2) x))

def Tr.put {α : Type} (t : Tr α) (i : Nat) (x : Option α) : Tr α := t.putF (i + 1) i x

/-- The tree of f 0, .., f (n - 1). -/
def Tr.tabF {α : Type} : Nat → Nat → (Nat → α) → Tr α
  | 0, _, _ => .nil
  | _ + 1, 0, _ => .nil
  | k + 1, n + 1, f => .node (some (f 0)) (Tr.tabF k ((n + 1) / 2) (fun i => f (2 * i + 1))) (Tr.tabF k (n / 2) (fun i => f (2 * i + 2)))

def Tr.tab {α : Type} (n : Nat) (f : Nat → α) : Tr α := Tr.tabF n n f

def Tr.putList {α : Type} (t : Tr α) : Nat → List α → Tr α
  | _, [] => t
  | i, x :: xs => (t.put i (some x)).putList (i + 1) xs

/-! ### Values -/
inductive AV : Type where
  | undef
  | bool (b : Bool)
  | int (k : IntKind) (n : Int)
  | flt (bits : Nat)
  | cpx (re im : Nat)
  | str (s : List Nat)
  | ptr (b off : Nat)
  | nilPtr
  | sl (b off len cap : Nat)
  | nilSl
  | map (r : Nat)
  | nilMap
  | func (f : FuncId) (first captured : List AV)
  | nilFunc
  | iface (t : TypeId) (v : AV)
  | nilIface
  | agg (cs : List AV)
  | tup (vs : List AV)
  deriving Inhabited

def AV.byte (c : Nat) : AV := .int .u8 (Int.ofNat c)

def AV.cells : AV → List AV
  | .agg cs => cs
  | v => [v]

/-- May it stand in one cell? -/
def AV.one : AV → Bool
  | .undef | .agg _ | .tup _ => false
  | _ => true

/-- A constant's value. -/
def av : Nat → Value → Option AV
  | 0, _ => none
  | _ + 1, .bool b => some (.bool b)
  | _ + 1, .int k n => some (.int k n)
  | _ + 1, .float .f64 b => some (.flt b)
  | _ + 1, .complex .f64 a b => some (.cpx a b)
  | _ + 1, .string s => some (.str (s.data.toList.map (·.toNat)))
  | _ + 1, .pointer none => some .nilPtr
  | _ + 1, .slice none 0 0 => some .nilSl
  | _ + 1, .map none => some .nilMap
  | _ + 1, .nilFunc => some .nilFunc
  | _ + 1, .nilIface => some .nilIface
  | _ + 1, .func (.func f) a b => cond (Nat.beq a.size 0 && Nat.beq b.size 0) (some (.func f [] [])) none
  | n + 1, .iface t v => (av n v).map (.iface t)
  | n + 1, .agg cs => (cs.toList.mapM (av n)).map .agg
  | n + 1, .tuple cs => (cs.toList.mapM (av n)).map .tup
  | _, _ => none

/-! ### Code -/
inductive AX where
  | t (i : Nat)
  | c (v : AV)
  deriving Inhabited

/-- How two values of a type are held against each other. -/
inductive Sh where
  | bool | int | flt | cpx | str | ptr | sl | map | fn | iface
  deriving Inhabited

inductive EqP where
  | prim (s : Sh)
  | parts (l : List (Nat × Nat × Bool × EqP))
  deriving Inhabited

inductive Cv where
  | toInt (k : IntKind)
  | toFlt
  | fltToInt (k : IntKind)
  | sameF
  | sameC
  | sameS
  | strToBytes (elem : TypeId)
  | bytesToStr
  deriving Inhabited

inductive Ext where
  | bits | from | floor | trunc | ceil | amax | amin
  deriving Inhabited

inductive AOp where
  | mv (x : AX)
  | pick (c a b : AX)
  | build (zero : List AV) (parts : List (Nat × Nat × AX))
  | fieldAddr (x : AX) (off : Nat)
  | field (x : AX) (off n : Nat) (agg : Bool)
  | indexSl (x i : AX) (n : Nat)
  | indexArr (x i : AX) (len n : Nat)
  | index (x i : AX) (len n : Nat) (agg : Bool)
  | byteAt (x i : AX)
  | slStr (x : AX) (lo hi : Option AX)
  | slSl (x : AX) (lo hi mx : Option AX) (n : Nat)
  | slArr (x : AX) (lo hi mx : Option AX) (len n : Nat)
  | nilck (x : AX)
  | bin (op : BinOp) (x y : AX)
  | eq (neg : Bool) (p : EqP) (x y : AX)
  | un (op : UnOp) (x : AX)
  | conv (c : Cv) (x : AX)
  | mkIface (t : TypeId) (x : AX)
  | mkFunc (f : FuncId) (first captured : List AX)
  | extract (x : AX) (i : Nat)
  | lenStr (x : AX)
  | lenSl (x : AX)
  | lenMap (x : AX)
  | lenK (n : Nat)
  | real (x : AX)
  | imag (x : AX)
  | cplx (a b : AX)
  | mm (isMax : Bool) (l : List AX)
  | assert (x : AX) (t : TypeId) (ok : Bool) (zero : AV)
  -- these read or turn memory
  | alloc (cells : List AV) (ty : TypeId)
  | box (x : AX) (ty : TypeId)
  | buildSl (zero : List AV) (n len : Nat) (parts : List (Nat × Nat × AX)) (ty : TypeId)
  | load (a : AX) (n : Nat) (agg : Bool)
  | store (a x : AX) (n : Nat)
  | mkSl (l c : AX) (zero : List AV) (n bytes : Nat) (ty : TypeId)
  | app (s x : AX) (n bytes : Nat) (ty : TypeId)
  | appz (s x : AX) (zero : List AV) (n bytes : Nat) (ty : TypeId)
  | copy (d s : AX) (n : Nat)
  | mkMap
  | mkMapN (x : AX)
  | look (s : Sh) (m k : AX) (ok : Bool) (zero : AV)
  | upd (s : Sh) (m k v : AX)
  | call (f : FuncId) (args : List AX)
  | callv (f : AX) (args : List AX)
  deriving Inhabited

structure AOper where
  dst : Option Nat
  op : AOp
  /-- the slot that is asked, and what it must say -/
  guard : Option (Nat × Bool)
  deriving Inhabited

/-- In a region whose order is open: what is asked of an operation. -/
inductive Md where
  /-- nothing -/
  | plain
  /-- it stands in no fixed order to others that act: it must leave alone what was there -/
  | alone
  /-- it stands in no fixed order to a quiet one: it must leave alone what that reads or makes -/
  | mark
  /-- a load of what none turns that stands in no fixed order to it; or a new variable -/
  | quiet
  deriving Inhabited

inductive AC where
  | skip
  | reg (ops : List AOper)
  /-- a region whose order is open: the operations with their marks; and the same with other marks, if the first fail -/
  | dreg (ops other : List (AOper × Md))
  | seq (a b : AC)
  | cond (c : AX) (a b : AC)
  | block (id : Nat) (b : AC)
  | loop (b : AC)
  | scope (b : AC)
  | exit (id : Nat)
  | ret
  deriving Inhabited

inductive ARes where
  | tmp (t : Nat)
  | cell (a : Nat) (n : Nat) (agg : Bool)
  deriving Inhabited

inductive AFun where
  | code (ntmps : Nat) (res : List ARes) (body : AC)
  | ext (e : Ext)
  deriving Inhabited

/-! ### Memory -/
inductive ABlk where
  /-- cells 0 .. size - 1; n: an element's cells, where it was made as a slice (else 0); own: made by the run, nobody else's -/
  | row (cells : Tr AV) (size n : Nat) (own : Bool) (ty : TypeId)
  | map (es : List (AV × AV))
  deriving Inhabited

structure Heap where
  next : Nat
  blks : Tr ABlk
  /-- the blocks that were turned since this was laid anew, one bit each -/
  log : Nat
  deriving Inhabited

def Heap.get (h : Heap) (b : Nat) : Option ABlk := h.blks.get b

def Heap.new (h : Heap) (x : ABlk) : Heap := ⟨h.next + 1, h.blks.put h.next (some x), h.log⟩

def Heap.turn (h : Heap) (b : Nat) (x : Option ABlk) : Heap := ⟨h.next, h.blks.put b x, Nat.lor h.log (Nat.pow 2 b)⟩

def readCells (cells : Tr AV) (off : Nat) : Nat → Option (List AV)
  | 0 => some []
  | n + 1 => match cells.get off with
    | some v => (readCells cells (off + 1) n).map (v :: ·)
    | none => none

/-- `n` cells from `off` on. -/
def Heap.load (h : Heap) (b off n : Nat) : Option (List AV) :=
  match h.get b with
  | some (.row cells size _ _ _) => cond (Nat.ble (off + n) size) (readCells cells off n) none
  | _ => none

def allOne : List AV → Bool
  | [] => true
  | v :: vs => cond v.one (allOne vs) false

def Heap.store (h : Heap) (b off : Nat) (vs : List AV) : Option Heap :=
  match h.get b with
  | some (.row cells size n own ty) =>
    cond (own && Nat.ble (off + vs.length) size && allOne vs) (some (h.turn b (some (.row (cells.putList off vs) size n own ty)))) none
  | _ => none

def asVal (agg : Bool) (vs : List AV) : Option AV :=
  cond agg (some (.agg vs)) (match vs with | [v] => some v | _ => none)

/-! ### Numbers -/
def wrapK : IntKind → Int → Int
  | .i8, n => let m := n % 256; cond (Int.decLt m 128).decide m (m - 256)
  | .i16, n => let m := n % 65536; cond (Int.decLt m 32768).decide m (m - 65536)
  | .i32, n => let m := n % 4294967296; cond (Int.decLt m 2147483648).decide m (m - 4294967296)
  | .i64, n => let m := n % 18446744073709551616; cond (Int.decLt m 9223372036854775808).decide m (m - 18446744073709551616)
  | .u8, n => n % 256
  | .u16, n => n % 65536
  | .u32, n => n % 4294967296
  | .u64, n => n % 18446744073709551616

def intBin (op : BinOp) (k : IntKind) (a b : Int) : Option AV :=
  match op with
  | .add => some (.int k (wrapK k (a + b)))
  | .sub => some (.int k (wrapK k (a - b)))
  | .mul => some (.int k (wrapK k (a * b)))
  | .quo => if b = 0 then none else some (.int k (wrapK k (a.tdiv b)))
  | .rem => if b = 0 then none else some (.int k (a.tmod b))
  | .and => some (.int k (wrapK k ((BitVec.ofInt k.bits a &&& BitVec.ofInt k.bits b).toNat)))
  | .or => some (.int k (wrapK k ((BitVec.ofInt k.bits a ||| BitVec.ofInt k.bits b).toNat)))
  | .xor => some (.int k (wrapK k ((BitVec.ofInt k.bits a ^^^ BitVec.ofInt k.bits b).toNat)))
  | .andNot => some (.int k (wrapK k ((BitVec.ofInt k.bits a &&& ~~~BitVec.ofInt k.bits b).toNat)))
  | .eql => some (.bool (a == b))
  | .neq => some (.bool (a != b))
  | .lss => some (.bool (decide (a < b)))
  | .leq => some (.bool (decide (a ≤ b)))
  | .gtr => some (.bool (decide (a > b)))
  | .geq => some (.bool (decide (a ≥ b)))
  | _ => none

def shiftBin (op : BinOp) (k : IntKind) (a b : Int) : Option AV :=
  if b < 0 then none else
  match op with
  | .shl => some (.int k (wrapK k (a * ((2 ^ (min b.toNat k.bits) : Nat) : Int))))
  | .shr => some (.int k (a.fdiv ((2 ^ (min b.toNat k.bits) : Nat) : Int)))
  | _ => none

def fArith (op : BinOp) (a b : Nat) : Option Nat :=
  match op with
  | .add => Ieee.double.add a b
  | .sub => Ieee.double.sub a b
  | .mul => Ieee.double.mul a b
  | .quo => Ieee.double.div a b
  | _ => none

def fCmp (op : BinOp) (a b : Nat) : Option Bool :=
  let c := Ieee.double.order a b
  match op with
  | .eql => some (c == some .eq)
  | .neq => some (c != some .eq)
  | .lss => some (c == some .lt)
  | .leq => some (c == some .lt || c == some .eq)
  | .gtr => some (c == some .gt)
  | .geq => some (c == some .gt || c == some .eq)
  | _ => none

def fBin (op : BinOp) (a b : Nat) : Option AV :=
  match fArith op a b with
  | some r => some (.flt r)
  | none => (fCmp op a b).map .bool

/-- The sums alone, and the comparisons, of complex numbers. -/
def cBin (op : BinOp) (a b c d : Nat) : Option AV :=
  match op with
  | .add => (Ieee.double.add a c).bind fun x => (Ieee.double.add b d).map fun y => .cpx x y
  | .sub => (Ieee.double.sub a c).bind fun x => (Ieee.double.sub b d).map fun y => .cpx x y
  | .eql => some (.bool (Ieee.double.order a c == some .eq && Ieee.double.order b d == some .eq))
  | .neq => some (.bool (!(Ieee.double.order a c == some .eq && Ieee.double.order b d == some .eq)))
  | _ => none

def sLess : List Nat → List Nat → Bool
  | _, [] => false
  | [], _ :: _ => true
  | a :: x, b :: y => Nat.blt a b || (Nat.beq a b && sLess x y)

def sEq : List Nat → List Nat → Bool
  | [], [] => true
  | a :: x, b :: y => cond (Nat.beq a b) (sEq x y) false
  | _, _ => false

def sBin (op : BinOp) (x y : List Nat) : Option AV :=
  match op with
  | .add => cond (Nat.ble (x.length + y.length) 140737488355328) (some (.str (x ++ y))) none
  | .eql => some (.bool (sEq x y))
  | .neq => some (.bool (!sEq x y))
  | .lss => some (.bool (sLess x y))
  | .leq => some (.bool (sLess x y || sEq x y))
  | .gtr => some (.bool (!(sLess x y || sEq x y)))
  | .geq => some (.bool (!sLess x y))
  | _ => none

def binA (op : BinOp) (x y : AV) : Option AV :=
  match x, y with
  | .int k a, .int k' b =>
    match op with
    | .shl | .shr => shiftBin op k a b
    | _ => if k = k' then intBin op k a b else none
  | .flt a, .flt b => fBin op a b
  | .cpx a b, .cpx c d => cBin op a b c d
  | .str a, .str b => sBin op a b
  | _, _ => none

def negF (b : Nat) : Nat := b ^^^ 9223372036854775808

def unA (op : UnOp) (x : AV) : Option AV :=
  match op, x with
  | .neg, .int k n => some (.int k (wrapK k (0 - n)))
  | .xor, .int k n => intBin .xor k (if k.signed then -1 else k.max) n
  | .neg, .flt b => some (.flt (negF b))
  | .neg, .cpx a b => some (.cpx (negF a) (negF b))
  | .not, .bool b => some (.bool !b)
  | _, _ => none

/-- Of two values of one cell. -/
def primEq (h : Heap) : Sh → AV → AV → Option Bool
  | .bool, .bool a, .bool b => some (a == b)
  | .int, .int k a, .int k' b => if k = k' then some (a == b) else none
  | .flt, .flt a, .flt b => some (Ieee.double.order a b == some .eq)
  | .cpx, .cpx a b, .cpx c d => some (Ieee.double.order a c == some .eq && Ieee.double.order b d == some .eq)
  | .str, .str a, .str b => some (sEq a b)
  | .ptr, .nilPtr, .nilPtr => some true
  | .ptr, .nilPtr, .ptr _ _ => some false
  | .ptr, .ptr _ _, .nilPtr => some false
  | .ptr, .ptr a i, .ptr b j =>
    cond (Nat.beq a b) (some (Nat.beq i j)) (match h.get a, h.get b with
      | some (.row _ _ 0 true _), some (.row _ _ 0 true _) => some false
      | _, _ => none)
  | .sl, .nilSl, .nilSl => some true
  | .sl, .nilSl, .sl _ _ _ _ => some false
  | .sl, .sl _ _ _ _, .nilSl => some false
  | .map, .nilMap, .nilMap => some true
  | .map, .nilMap, .map _ => some false
  | .map, .map _, .nilMap => some false
  | .fn, .nilFunc, .nilFunc => some true
  | .fn, .nilFunc, .func _ _ _ => some false
  | .fn, .func _ _ _, .nilFunc => some false
  | .iface, .nilIface, .iface _ _ => some false
  | .iface, .iface _ _, .nilIface => some false
  | .iface, .nilIface, .nilIface => some true
  | _, _, _ => none

def partOf (agg : Bool) (cs : List AV) (off n : Nat) : Option AV :=
  cond agg (some (.agg ((cs.drop off).take n))) (match cs.drop off with | v :: _ => some v | [] => none)

mutual
def eqA (h : Heap) : EqP → AV → AV → Option Bool
  | .prim s, x, y => primEq h s x y
  | .parts l, .agg xs, .agg ys => eqParts h l xs ys
  | .parts _, _, _ => none
def eqParts (h : Heap) : List (Nat × Nat × Bool × EqP) → List AV → List AV → Option Bool
  | [], _, _ => some true
  | (off, n, agg, p) :: l, xs, ys =>
    match partOf agg xs off n, partOf agg ys off n with
    | some x, some y => match eqA h p x y with
      | some true => eqParts h l xs ys
      | some false => some false
      | none => none
    | _, _ => none
end

def fltToInt (b : Nat) (k : IntKind) : Option AV :=
  match (Ieee.double.read b).toInt .zero with
  | some n => if k.min ≤ n ∧ n ≤ k.max then some (.int k n) else none
  | none => none

def bytesOf : List AV → Option (List Nat)
  | [] => some []
  | .int .u8 n :: r => (bytesOf r).map (n.toNat % 256 :: ·)
  | _ => none

def fillA (cells : List AV) : List (Nat × Nat × AV) → Option (List AV)
  | [] => some cells
  | (off, n, v) :: rest =>
    let cs := v.cells
    cond (Nat.beq cs.length n && Nat.ble (off + n) cells.length && allOne cs) (fillA (cells.take off ++ cs ++ cells.drop (off + n)) rest) none

def fillEnv (ρ : AX → AV) (parts : List (Nat × Nat × AX)) : List (Nat × Nat × AV) := parts.map fun p => (p.1, p.2.1, ρ p.2.2)

def fMm (isMax : Bool) (x y : Nat) : Option Nat :=
  match Ieee.double.order x y with
  | none => none
  | some .lt => some (cond isMax y x)
  | some .gt => some (cond isMax x y)
  | some .eq => some (cond (Ieee.double.read x).neg (cond isMax y x) (cond isMax x y))

def mm2 (isMax : Bool) : AV → AV → Option AV
  | .int k x, .int _ y => some (.int k (cond isMax (if y > x then y else x) (if y < x then y else x)))
  | .flt x, .flt y => (fMm isMax x y).map .flt
  | _, _ => none

def mmL (isMax : Bool) : AV → List AV → Option AV
  | x, [] => some x
  | x, y :: r => (mm2 isMax x y).bind fun z => mmL isMax z r

def asNat : AV → Option Nat
  | .int _ i => match i with
    | .ofNat n => some n
    | .negSucc _ => none
  | _ => none

/-- The bounds of a slice expression: low, high, max, all in order. -/
def bounds (ρ : AX → AV) (lo hi mx : Option AX) (len cap : Nat) : Option (Nat × Nat × Nat) :=
  let m := match mx with | some x => asNat (ρ x) | none => some cap
  let h := match hi, mx with | some x, _ => asNat (ρ x) | none, none => some len | none, some _ => none
  let l := match lo with | some x => asNat (ρ x) | none => some 0
  match l, h, m with
  | some l, some h, some m => cond (Nat.ble l h && Nat.ble h m && Nat.ble m cap) (some (l, h, m)) none
  | _, _, _ => none

def findKey (h : Heap) (s : Sh) (k : AV) : List (AV × AV) → Option (Option AV)
  | [] => some none
  | (k', v) :: r => match primEq h s k k' with
    | some true => some (some v)
    | some false => findKey h s k r
    | none => none

/-- Is it a block of elements of so many cells (or none of the run's own slices)? -/
def Heap.rowsOf (h : Heap) (b n : Nat) : Bool :=
  match h.get b with
  | some (.row _ _ k own _) => !own || Nat.beq k 0 || Nat.beq k n
  | _ => false

/-- The value of an operation that turns nothing. -/
def evalR (h : Heap) (ρ : AX → AV) : AOp → Option AV
  | .mv x => some (ρ x)
  | .pick c a b => match ρ c with
    | .bool v => some (cond v (ρ a) (ρ b))
    | _ => none
  | .build zero parts => (fillA zero (fillEnv ρ parts)).map .agg
  | .fieldAddr x off => match ρ x with | .ptr b o => some (.ptr b (o + off)) | _ => none
  | .field x off n agg => match ρ x with | .agg cs => partOf agg cs off n | _ => none
  | .indexSl x i n => match ρ x, asNat (ρ i) with
    | .sl b o len _, some i => cond (Nat.blt i len) (some (.ptr b (o + i * n))) none
    | _, _ => none
  | .indexArr x i len n => match ρ x, asNat (ρ i) with
    | .ptr b o, some i => cond (Nat.blt i len) (some (.ptr b (o + i * n))) none
    | _, _ => none
  | .index x i len n agg => match ρ x, asNat (ρ i) with
    | .agg cs, some i => cond (Nat.blt i len) (partOf agg cs (i * n) n) none
    | _, _ => none
  | .byteAt x i => match ρ x, asNat (ρ i) with
    | .str s, some i => match s.drop i with | c :: _ => some (.int .u8 c) | [] => none
    | _, _ => none
  | .slStr x lo hi => match ρ x with
    | .str s => match bounds ρ lo hi none s.length s.length with
      | some (l, h, _) => some (.str ((s.drop l).take (h - l)))
      | none => none
    | _ => none
  | .slSl x lo hi mx n => match ρ x with
    | .sl b o len cap => cond (h.rowsOf b n) (match bounds ρ lo hi mx len cap with
      | some (l, h, m) => some (.sl b (o + l * n) (h - l) (m - l))
      | none => none) none
    | .nilSl => match bounds ρ lo hi mx 0 0 with
      | some _ => some .nilSl
      | none => none
    | _ => none
  | .slArr x lo hi mx len n => match ρ x with
    | .ptr b o => cond (h.rowsOf b 0) (match bounds ρ lo hi mx len len with
      | some (l, h, m) => some (.sl b (o + l * n) (h - l) (m - l))
      | none => none) none
    | _ => none
  | .nilck x => match ρ x with
    | .ptr b o => some (.ptr b o)
    | .sl b o l c => some (.sl b o l c)
    | .func f [] b => some (.func f [] b)
    | .iface t v => some (.iface t v)
    | _ => none
  | .bin op x y => binA op (ρ x) (ρ y)
  | .eq neg p x y => (eqA h p (ρ x) (ρ y)).map fun b => .bool (neg ^^ b)
  | .un op x => unA op (ρ x)
  | .conv .sameF x => match ρ x with | .flt b => some (.flt b) | _ => none
  | .conv .sameC x => match ρ x with | .cpx a b => some (.cpx a b) | _ => none
  | .conv .sameS x => match ρ x with | .str s => some (.str s) | _ => none
  | .conv (.toInt k) x => match ρ x with | .int _ n => some (.int k (wrapK k n)) | _ => none
  | .conv .toFlt x => match ρ x with | .int _ n => some (.flt (FloatKind.f64.nearest n)) | _ => none
  | .conv (.fltToInt k) x => match ρ x with | .flt b => fltToInt b k | _ => none
  | .conv .bytesToStr x => match ρ x with
    | .nilSl => some (.str [])
    | .sl b o len _ => ((h.load b o len).bind bytesOf).map .str
    | _ => none
  | .mkIface t x => match ρ x with | .undef => none | v => some (.iface t v)
  | .mkFunc f first cap => some (.func f (first.map ρ) (cap.map ρ))
  | .extract x i => match ρ x with
    | .tup vs => vs[i]?
    | _ => none
  | .lenStr x => match ρ x with
    | .str s => some (.int .i64 s.length)
    | _ => none
  | .lenSl x => match ρ x with
    | .nilSl => some (.int .i64 0)
    | .sl _ _ n _ => some (.int .i64 n)
    | _ => none
  | .lenMap x => match ρ x with
    | .nilMap => some (.int .i64 0)
    | .map r => match h.get r with | some (.map es) => some (.int .i64 es.length) | _ => none
    | _ => none
  | .lenK n => some (.int .i64 n)
  | .real x => match ρ x with | .cpx a _ => some (.flt a) | _ => none
  | .imag x => match ρ x with | .cpx _ b => some (.flt b) | _ => none
  | .cplx a b => match ρ a, ρ b with | .flt a, .flt b => some (.cpx a b) | _, _ => none
  | .mm isMax l => match l.map ρ with | x :: r => mmL isMax x r | [] => none
  | .assert x t ok zero => match ρ x with
    | .iface u v => cond (Nat.beq u t) (some (cond ok (.tup [v, .bool true]) v)) (cond ok (some (.tup [zero, .bool false])) none)
    | .nilIface => cond ok (some (.tup [zero, .bool false])) none
    | _ => none
  | .load a n agg => match ρ a with | .ptr b o => (h.load b o n).bind (asVal agg) | _ => none
  | .look s m k ok zero =>
    let es := match ρ m with | .nilMap => some [] | .map r => (match h.get r with | some (.map es) => some es | _ => none) | _ => none
    match es with
    | none => none
    | some es => match findKey h s (ρ k) es with
      | some (some v) => some (cond ok (.tup [v, .bool true]) v)
      | some none => some (cond ok (.tup [zero, .bool false]) zero)
      | none => none
  | _ => none

/-- Which operations turn memory, or call. -/
def AOp.acts : AOp → Bool
  | .alloc .. | .box .. | .buildSl .. | .store .. | .mkSl .. | .app .. | .appz .. | .copy .. | .mkMap | .mkMapN _ | .upd .. | .call .. | .callv .. | .conv (.strToBytes _) _ => true
  | _ => false

/-- Which hang on tmps alone. -/
def AOp.free : AOp → Bool
  | .load .. | .look .. | .conv .bytesToStr _ | .lenMap _ | .eq .. | .slSl .. | .slArr .. => false
  | o => !o.acts

def Heap.row (h : Heap) (cells : List AV) (n : Nat) (ty : TypeId) : Option (Nat × Heap) :=
  cond (allOne cells) (some (h.next, h.new (.row (Tr.putList .nil 0 cells) cells.length n true ty))) none

def zerosOf (zero : List AV) (i : Nat) : AV :=
  match zero with
  | [z] => z
  | _ => (zero[i % zero.length]?).getD .undef

def manyZeros (z : List AV) (n : Nat) : List AV := (List.range n).map (zerosOf z)

/-- What is appended, as cells. -/
def srcCells (h : Heap) (n : Nat) : AV → Option (Nat × List AV)
  | .nilSl => some (0, [])
  | .sl b o len _ => (h.load b o (len * n)).map (len, ·)
  | .str s => some (s.length, s.map AV.byte)
  | _ => none

def oldCells (cells : Tr AV) (o k : Nat) : Option (Tr AV) :=
  cond (Nat.beq o 0) (some cells) ((readCells cells o k).map (Tr.putList .nil 0))

def appendA (h : Heap) (s : AV) (src : Option (Nat × List AV)) (n bytes : Nat) (ty : TypeId) : Option (AV × Heap) :=
  match src with
  | none => none
  | some (m, new) =>
    cond (Nat.beq new.length (m * n))
    (match s with
    | .nilSl => cond (Nat.beq m 0) (some (.nilSl, h)) (cond (Nat.ble (m * bytes) 70368744177664 && allOne new)
        (some (.sl h.next 0 m m, h.new (.row (Tr.putList .nil 0 new) (m * n) n true ty))) none)
    | .sl b o len cap =>
      cond (Nat.beq m 0) (cond (Nat.ble len cap) (some (.sl b o len cap, h)) none)
      (cond (Nat.ble (len + m) cap) ((h.store b (o + len * n) new).map fun h' => (.sl b o (len + m) cap, h'))
      (match h.get b with
       | some (.row cells size n' own _) =>
         cond (Nat.ble ((len + m) * bytes) 70368744177664 && own && Nat.beq n' n && Nat.ble (o + len * n) size && allOne new)
           (match oldCells cells o (len * n) with
            | some old => some (.sl h.next 0 (len + m) (len + m), (h.turn b none).new (.row (old.putList (len * n) new) ((len + m) * n) n true ty))
            | none => none)
           none
       | _ => none))
    | _ => none) none

def evalA (E : FuncId → List AV → Heap → Option (AV × Heap)) (h : Heap) (ρ : AX → AV) : AOp → Option (AV × Heap)
  | .alloc cells ty => (h.row cells 0 ty).map fun p => (.ptr p.1 0, p.2)
  | .box x ty => (h.row (ρ x).cells 0 ty).map fun p => (.ptr p.1 0, p.2)
  | .buildSl zero n len parts ty =>
    match fillA zero (fillEnv ρ parts) with
    | some cells => cond (Nat.beq cells.length (len * n)) ((h.row cells n ty).map fun p => (.sl p.1 0 len len, p.2)) none
    | none => none
  | .store a x n => match ρ a with
    | .ptr b o => cond (Nat.beq (ρ x).cells.length n) ((h.store b o (ρ x).cells).map fun h' => (.tup [], h')) none
    | _ => none
  | .mkSl l c zero n bytes ty => match asNat (ρ l), asNat (ρ c) with
    | some l, some c => cond (Nat.ble l c && Nat.ble (c * bytes) 70368744177664)
        (some (.sl h.next 0 l c, h.new (.row (Tr.tab (c * n) (zerosOf zero)) (c * n) n true ty))) none
    | _, _ => none
  | .app s x n bytes ty => appendA h (ρ s) (srcCells h n (ρ x)) n bytes ty
  | .appz s x zero n bytes ty => match asNat (ρ x) with
    | some m => cond (Nat.ble (m * bytes) 70368744177664) (appendA h (ρ s) (some (m, manyZeros zero (m * n))) n bytes ty) none
    | none => none
  | .copy d s n => match ρ d with
    | .nilSl => match srcCells h n (ρ s) with | some _ => some (.int .i64 0, h) | none => none
    | .sl b o len _ =>
      let m := match ρ s with | .nilSl => some 0 | .sl _ _ l _ => some l | .str s => some s.length | _ => none
      match m with
      | none => none
      | some m =>
        let m := min m len
        let cells := match ρ s with
          | .sl b' o' _ _ => h.load b' o' (m * n)
          | .str s => some ((s.take m).map AV.byte)
          | _ => some []
        cond (Nat.beq m 0) (some (.int .i64 0, h)) (match cells with
          | some cells => (h.store b o cells).map fun h' => (.int .i64 m, h')
          | none => none)
    | _ => none
  | .conv (.strToBytes ty) x => match ρ x with
    | .str s => (h.row (s.map AV.byte) 1 ty).map fun p => (.sl p.1 0 s.length s.length, p.2)
    | _ => none
  | .mkMap => some (.map h.next, h.new (.map []))
  | .mkMapN x => match ρ x with | .int _ _ => some (.map h.next, h.new (.map [])) | _ => none
  | .upd s m k v => match ρ m with
    | .map r => match h.get r with
      | some (.map es) => match findKey h s (ρ k) es with
        | some none => some (.tup [], h.turn r (some (.map (es ++ [(ρ k, ρ v)]))))
        | _ => none
      | _ => none
    | _ => none
  | .call f args => E f (args.map ρ) h
  | .callv f args => match ρ f with | .func g first cap => E g (first ++ args.map ρ ++ cap) h | _ => none
  | _ => none

def evalX (t : Tr AV) : AX → AV
  | .t i => (t.get i).getD .undef
  | .c v => v

def evalOp (E : FuncId → List AV → Heap → Option (AV × Heap)) (h : Heap) (ρ : AX → AV) (o : AOp) : Option (AV × Heap) :=
  cond o.acts (evalA E h ρ o) ((evalR h ρ o).map fun v => (v, h))

def putDst (t : Tr AV) (d : Option Nat) (v : AV) : Tr AV :=
  match d with
  | some i => t.put i (some v)
  | none => t

def guardOk (t : Tr AV) : Option (Nat × Bool) → Option Bool
  | none => some true
  | some (s, want) => match t.get s with
    | some (.bool b) => some (b == want)
    | some (.tup []) => some false
    | _ => none

abbrev St := Tr AV × Heap

def evalOper (E : FuncId → List AV → Heap → Option (AV × Heap)) (o : AOper) (s : St) : Option St :=
  match guardOk s.1 o.guard with
  | some true => match evalOp E s.2 (evalX s.1) o.op with
    | some (v, h) => some (putDst s.1 o.dst v, h)
    | none => none
  | some false => some (putDst s.1 o.dst (.tup []), s.2)
  | none => none

def evalOpers (E : FuncId → List AV → Heap → Option (AV × Heap)) : List AOper → St → Option St
  | [], s => some s
  | o :: r, s => match evalOper E o s with
    | some s => evalOpers E r s
    | none => none

def Heap.relaid (h : Heap) : Heap := ⟨h.next, h.blks, 0⟩

/-- The same, where an operation that acts in a group must leave alone what was there. -/
def evalAlone (E : FuncId → List AV → Heap → Option (AV × Heap)) (o : AOper) (s : St) : Option St :=
  cond o.op.acts
    (match evalOper E o (s.1, s.2.relaid) with
     | some (t, h) => cond (Nat.beq (Nat.mod h.log (Nat.pow 2 s.2.next)) 0) (some (t, ⟨h.next, h.blks, s.2.log⟩)) none
     | none => none)
    (evalOper E o s)

/-- What a quiet operation reads or makes: one bit. -/
def quietZ (n0 : Nat) (o : AOper) (s : St) : Option Nat :=
  match o.op with
  | .load a _ _ => match guardOk s.1 o.guard with
    | some true => match evalX s.1 a with
      | .ptr b _ => cond (Nat.blt b n0) (some (Nat.pow 2 b)) none
      | _ => none
    | some false => some 0
    | none => none
  | .alloc _ _ => match guardOk s.1 o.guard with
    | some true => some (Nat.pow 2 s.2.next)
    | some false => some 0
    | none => none
  | _ => none

/-- `n0`: where the region began; `z`: what quiet operations have read or made; `m`: what marked ones have turned. -/
def evalDraws (E : FuncId → List AV → Heap → Option (AV × Heap)) (n0 : Nat) : List (AOper × Md) → Nat → Nat → St → Option St
  | [], z, m, s => cond (Nat.beq (Nat.land z m) 0) (some s) none
  | (o, .plain) :: r, z, m, s => match evalOper E o s with
    | some s => evalDraws E n0 r z m s
    | none => none
  | (o, .alone) :: r, z, m, s => match evalAlone E o s with
    | some s => evalDraws E n0 r z m s
    | none => none
  | (o, .mark) :: r, z, m, s => match evalOper E o (s.1, s.2.relaid) with
    | some (t, h) => evalDraws E n0 r z (Nat.lor m h.log) (t, ⟨h.next, h.blks, Nat.lor s.2.log h.log⟩)
    | none => none
  | (o, .quiet) :: r, z, m, s => match quietZ n0 o s with
    | some b => match evalOper E o s with
      | some s => evalDraws E n0 r (Nat.lor z b) m s
      | none => none
    | none => none

inductive AExit where
  | normal
  | exit (id : Nat)
  | ret

def iter (f : St → Option (AExit × St)) : Nat → St → Option (AExit × St)
  | 0, _ => none
  | n + 1, s => match f s with
    | some (.normal, s) => iter f n s
    | r => r

def evalC (E : FuncId → List AV → Heap → Option (AV × Heap)) (k : Nat) : AC → St → Option (AExit × St)
  | .skip, s => some (.normal, s)
  | .reg ops, s => (evalOpers E ops s).map fun s => (.normal, s)
  | .dreg ops other, s => match evalDraws E s.2.next ops 0 0 s with
    | some s => some (.normal, s)
    | none => (evalDraws E s.2.next other 0 0 s).map fun s => (.normal, s)
  | .seq a b, s => match evalC E k a s with
    | some (.normal, s) => evalC E k b s
    | r => r
  | .cond c a b, s => match evalX s.1 c with
    | .bool true => evalC E k a s
    | .bool false => evalC E k b s
    | _ => none
  | .block id b, s => match evalC E k b s with
    | some (.exit i, s) => cond (Nat.beq i id) (some (.normal, s)) (some (.exit i, s))
    | r => r
  | .loop b, s => iter (evalC E k b) k s
  | .scope b, s => evalC E k b s
  | .exit id, s => some (.exit id, s)
  | .ret, s => some (.ret, s)

def evalRes (s : St) : ARes → Option AV
  | .tmp t => match s.1.get t with | some .undef => none | some v => some v | none => none
  | .cell a n agg => match s.1.get a with | some (.ptr b o) => (s.2.load b o n).bind (asVal agg) | _ => none

def evalRess (s : St) : List ARes → Option (List AV)
  | [] => some []
  | r :: rs => (evalRes s r).bind fun v => (evalRess s rs).map (v :: ·)

def evalExt.whole (way : Ieee.Toward) (x : Nat) : Option AV :=
  match Ieee.double.read x with
  | .nan _ t => if Ieee.double.quiet t = t then some (.flt x) else none
  | d => some (.flt (Ieee.double.write (d.integral way)))

def evalExt.pick (neg : Bool) (win : Ordering) (x y : Nat) : Nat :=
  let a := Ieee.double.read x
  let b := Ieee.double.read y
  if a == .infinity neg || b == .infinity neg then Ieee.double.write (.infinity neg)
  else if a.isNaN || b.isNaN then 0x7FF8000000000001
  else if a.isZero && b.isZero then (if a.neg == neg then x else y)
  else if a.order b == some win then x else y

def evalExt : Ext → List AV → Option AV
  | .bits, [.flt b] => some (.int .u64 b)
  | .from, [.int .u64 n] => some (.flt n.toNat)
  | .floor, [.flt x] => evalExt.whole .down x
  | .trunc, [.flt x] => evalExt.whole .zero x
  | .ceil, [.flt x] => evalExt.whole .up x
  | .amax, [.flt x, .flt y] => some (.flt (evalExt.pick false .gt x y))
  | .amin, [.flt x, .flt y] => some (.flt (evalExt.pick true .lt x y))
  | _, _ => none

def runFun (E : FuncId → List AV → Heap → Option (AV × Heap)) (k : Nat) (f : AFun) (args : List AV) (h : Heap) : Option (AV × Heap) :=
  match f with
  | .ext e => (evalExt e args).map fun v => (v, h)
  | .code m res body =>
    cond (Nat.ble args.length m)
    (match evalC E k body (Tr.putList .nil 0 args, h) with
    | some (.exit _, _) => none
    | some (_, s) => match evalRess s res with
      | some [v] => some (v, s.2)
      | some vs => some (.tup vs, s.2)
      | none => none
    | none => none) none

/-- The program, run with so much fuel. -/
def evalF (F : FuncId → Option AFun) (n : Nat) : FuncId → List AV → Heap → Option (AV × Heap) :=
  Nat.rec (fun _ _ _ => none) (fun m E f args h => match F f with | some af => runFun E m af args h | none => none) n

end Go.Proofs.Ytofaiipohmeelaa.Am
