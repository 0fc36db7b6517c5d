/-
  The abstract machine: the translation of a loaded program's code.
-/
import Derived.Test.YtofaiipohmeelaaAmDef
namespace Go.Proofs.Ytofaiipohmeelaa.Am
variable (P : Program)

def tSize (t : TypeId) : Option Nat := (P.info? t).map (·.size)
def tBytes (t : TypeId) : Option Nat := (P.info? t).map (·.bytes)
def tZero (t : TypeId) : Option (List AV) :=
  match ((P.info? t).bind (·.zero)).bind (av 100) with
  | some z => cond (allOne z.cells) (some z.cells) none
  | none => none
def tZeroV (t : TypeId) : Option AV := ((P.info? t).bind (·.zero)).bind fun v => av 100 v
def tAgg (t : TypeId) : Option Bool :=
  match P.underlying t with
  | some (.struct _) => some true
  | some (.array _ _) => some true
  | some _ => some false
  | none => none

def cX : Operand → Option AX
  | .tmp t => some (.t t)
  | .const v => (av 100 v).map .c
  | .func f => some (.c (.func f [] []))
  | .global _ => none

def isConst : Operand → Bool
  | .const _ => true
  | _ => false

def cXo : Option Operand → Option (Option AX)
  | none => some none
  | some x => (cX x).map some

mutual
/-- How values of a type are held against each other; `lit`: one side is a literal. -/
def cEq (lit : Bool) : Nat → TypeId → Option EqP
  | 0, _ => none
  | n + 1, t => match P.underlying t with
    | some .bool => some (.prim .bool)
    | some (.int _) => some (.prim .int)
    | some (.float .f64) => some (.prim .flt)
    | some (.complex .f64) => some (.prim .cpx)
    | some .string => some (.prim .str)
    | some (.slice _) => some (.prim .sl)
    | some (.map _ _) => some (.prim .map)
    | some (.func _ _ _) => some (.prim .fn)
    | some (.pointer e) => if ((P.info? e).map (·.size)).getD 0 = 0 then none else some (.prim .ptr)
    | some (.interface _) => cond lit (some (.prim .iface)) none
    | some (.struct fs) => if P.stoodInHeld t then none else (cEqFields n fs.toList).map .parts
    | _ => none
def cEqFields : Nat → List Field → Option (List (Nat × Nat × Bool × EqP))
  | 0, _ => none
  | _ + 1, [] => some []
  | n + 1, f :: fs =>
    if f.name = "_" then cEqFields n fs else
    match tSize P f.type, tAgg P f.type, cEq false n f.type, cEqFields n fs with
    | some s, some a, some p, some r => some ((f.offset, s, a, p) :: r)
    | _, _, _, _ => none
end

def fieldOf (s : TypeId) (i : Nat) : Option Field :=
  match P.underlying s with
  | some (.struct fs) => fs[i]?
  | _ => none

/-- A type's fields have sizes: of types of the program. -/
def sized (fs : Array Field) : Bool := fs.toList.all fun f => (tSize P f.type).isSome

/-- The place that a literal's part takes. -/
def placeOf (t : TypeId) (i : Nat) : Option (Nat × Nat) :=
  match P.underlying t with
  | some (.struct fs) => match fs[i]? with
    | some f => (tSize P f.type).map fun n => (f.offset, n)
    | none => none
  | some (.array _ e) => (tSize P e).map fun n => (i * n, n)
  | some (.slice e) => (tSize P e).map fun n => (i * n, n)
  | _ => none

/-- The places of a literal's parts. -/
def cPlaces (t : TypeId) : List (Nat × Operand) → Option (List (Nat × Nat × AX))
  | [] => some []
  | (i, x) :: r => match placeOf P t i, cX x, cPlaces t r with
    | some p, some x, some r => some ((p.1, p.2, x) :: r)
    | _, _, _ => none

def cOp (o : Oper) : Option AOp :=
  match o.op with
  | .move x | .assign x => (cX x).map .mv
  | .pick c a b => do pure (.pick (← cX c) (← cX a) (← cX b))
  | .alloc e => do pure (.alloc (← tZero P e) e)
  | .box e x => do pure (.box (← cX x) e)
  | .build t parts => match P.underlying t with
    | some (.struct fs) => if sized P fs then do pure (.build (← tZero P t) (← cPlaces P t parts.toList)) else none
    | some (.array _ e) => if (tSize P e).isSome then do pure (.build (← tZero P t) (← cPlaces P t parts.toList)) else none
    | _ => none
  | .buildSlice t len parts => match P.underlying t with
    | some (.slice e) => do
      let n ← tSize P e
      let z ← tZero P e
      if len * n > 2 ^ 24 ∨ n = 0 then none else
      pure (.buildSl (manyZeros z (len * n)) n len (← cPlaces P t parts.toList) e)
    | _ => none
  | .load t a => do pure (.load (← cX a) (← tSize P t) (← tAgg P t))
  | .store t a x => do pure (.store (← cX a) (← cX x) (← tSize P t))
  | .nilCheck x => (cX x).map .nilck
  | .binOp op t x y _ =>
    match op, P.underlying t with
    | .eql, some (.struct _) => if P.eqGuardType P.depth t then none else do pure (.eq false (← cEq P false 20 t) (← cX x) (← cX y))
    | .neq, some (.struct _) => if P.eqGuardType P.depth t then none else do pure (.eq true (← cEq P false 20 t) (← cX x) (← cX y))
    | .eql, some (.bool) | .eql, some (.pointer _) | .eql, some (.slice _) | .eql, some (.map _ _) | .eql, some (.func _ _ _) | .eql, some (.interface _) => do pure (.eq false (← cEq P (isConst x || isConst y) 20 t) (← cX x) (← cX y))
    | .neq, some (.bool) | .neq, some (.pointer _) | .neq, some (.slice _) | .neq, some (.map _ _) | .neq, some (.func _ _ _) | .neq, some (.interface _) => do pure (.eq true (← cEq P (isConst x || isConst y) 20 t) (← cX x) (← cX y))
    | _, _ => do pure (.bin op (← cX x) (← cX y))
  | .unOp op _ x => do pure (.un op (← cX x))
  | .convert src dst x =>
    match P.underlying src, P.underlying dst with
    | some (.int _), some (.int k) => do pure (.conv (.toInt k) (← cX x))
    | some (.int _), some (.float .f64) => do pure (.conv .toFlt (← cX x))
    | some (.float .f64), some (.int k) => do pure (.conv (.fltToInt k) (← cX x))
    | some (.float .f64), some (.float .f64) => do pure (.conv .sameF (← cX x))
    | some (.complex .f64), some (.complex .f64) => do pure (.conv .sameC (← cX x))
    | some .string, some .string => do pure (.conv .sameS (← cX x))
    | some .string, some (.slice e) => match P.underlying e with
      | some (.int .u8) => do pure (.conv (.strToBytes e) (← cX x))
      | _ => none
    | some (.slice e), some .string => match P.underlying e with
      | some (.int .u8) => do pure (.conv .bytesToStr (← cX x))
      | _ => none
    | _, _ => none
  | .makeInterface t x => match P.underlying t with
    | some (.interface _) => none
    | some _ => do pure (.mkIface t (← cX x))
    | none => none
  | .makeFunc (.func f) first captured => do pure (.mkFunc f (← first.toList.mapM cX) (← captured.toList.mapM cX))
  | .makeMap t none => match P.underlying t with
    | some (.map _ _) => some .mkMap
    | _ => none
  | .makeMap t (some x) => match P.underlying t with
    | some (.map _ _) => do pure (.mkMapN (← cX x))
    | _ => none
  | .makeSlice t l c => match P.underlying t with
    | some (.slice e) => do
      let n ← tSize P e
      let b ← tBytes P e
      if n = 0 ∨ b = 0 then none else pure (.mkSl (← cX l) (← cX c) (← tZero P e) n b e)
    | _ => none
  | .slice t x lo hi mx => match P.underlying t with
    | some .string => match mx with
      | none => do pure (.slStr (← cX x) (← cXo lo) (← cXo hi))
      | some _ => none
    | some (.slice e) => do pure (.slSl (← cX x) (← cXo lo) (← cXo hi) (← cXo mx) (← tSize P e))
    | some (.array len e) => do pure (.slArr (← cX x) (← cXo lo) (← cXo hi) (← cXo mx) len (← tSize P e))
    | some (.pointer a) => match P.underlying a with
      | some (.array len e) => do pure (.slArr (← cX x) (← cXo lo) (← cXo hi) (← cXo mx) len (← tSize P e))
      | _ => none
    | _ => none
  | .fieldAddr s x i => do
    let f ← fieldOf P s i
    let n ← tSize P f.type
    if n = 0 then none else pure (.fieldAddr (← cX x) f.offset)
  | .field t x i => do
    let f ← fieldOf P t i
    pure (.field (← cX x) f.offset (← tSize P f.type) (← tAgg P f.type))
  | .indexAddr t x i => match P.underlying t with
    | some (.slice e) => do pure (.indexSl (← cX x) (← cX i) (← tSize P e))
    | some (.array len e) => do pure (.indexArr (← cX x) (← cX i) len (← tSize P e))
    | _ => none
  | .index t x i => match P.underlying t with
    | some .string => do pure (.byteAt (← cX x) (← cX i))
    | some (.array len e) => do pure (.index (← cX x) (← cX i) len (← tSize P e) (← tAgg P e))
    | _ => none
  | .extract t i => do pure (.extract (← cX t) i)
  | .lookup t m k ok => match P.underlying t with
    | some (.map kt e) => match P.underlying kt with
      | some (.int _) => do pure (.look .int (← cX m) (← cX k) ok (← tZeroV P e))
      | some .string => do pure (.look .str (← cX m) (← cX k) ok (← tZeroV P e))
      | some (.complex .f64) => do pure (.look .cpx (← cX m) (← cX k) ok (← tZeroV P e))
      | _ => none
    | _ => none
  | .mapUpdate t m k v | .insert t m k v => match P.underlying t with
    | some (.map kt _) => match P.underlying kt with
      | some (.int _) => do pure (.upd .int (← cX m) (← cX k) (← cX v))
      | some .string => do pure (.upd .str (← cX m) (← cX k) (← cX v))
      | some (.complex .f64) => do pure (.upd .cpx (← cX m) (← cX k) (← cX v))
      | _ => none
    | _ => none
  | .typeAssert x _ t ok => match P.underlying t with
    | some (.interface _) => none
    | some _ => do pure (.assert (← cX x) t ok (← tZeroV P t))
    | none => none
  | .call c => match c.callee with
    | .value (.func f) => do pure (.call f (← c.args.toList.mapM cX))
    | .value f => do pure (.callv (← cX f) (← c.args.toList.mapM cX))
    | .invoke _ _ => none
    | .builtin b =>
      match b, c.args.toList with
      | .len, [x] => match (c.argTypes[0]?).bind (P.underlying ·) with
        | some .string => do pure (.lenStr (← cX x))
        | some (.slice _) => do pure (.lenSl (← cX x))
        | some (.map _ _) => do pure (.lenMap (← cX x))
        | some (.array n _) => some (.lenK n)
        | some (.pointer a) => match P.underlying a with
          | some (.array n _) => some (.lenK n)
          | _ => none
        | _ => none
      | .real, [x] => do pure (.real (← cX x))
      | .imag, [x] => do pure (.imag (← cX x))
      | .complex, [x, y] => do pure (.cplx (← cX x) (← cX y))
      | .min, l => do pure (.mm false (← l.mapM cX))
      | .max, l => do pure (.mm true (← l.mapM cX))
      | .append, [s, x] => match (c.argTypes[0]?).bind (P.underlying ·), (c.argTypes[1]?).bind (P.underlying ·) with
        | some (.slice e), some (.slice _) | some (.slice e), some .string => do
          let n ← tSize P e
          let b ← tBytes P e
          let z ← tZero P e
          if n = 0 ∨ z.length ≠ n ∨ b = 0 then none else pure (.app (← cX s) (← cX x) n b e)
        | some (.slice e), some (.int _) => do
          let n ← tSize P e
          let b ← tBytes P e
          let z ← tZero P e
          if n = 0 ∨ z.length ≠ n ∨ b = 0 then none else pure (.appz (← cX s) (← cX x) z n b e)
        | _, _ => none
      | .copy, [d, s] => match (c.argTypes[0]?).bind (P.underlying ·) with
        | some (.slice e) => do pure (.copy (← cX d) (← cX s) (← tSize P e))
        | _ => none
      | _, _ => none
  | _ => none

/-- The slots that an operation looks at, its guard's among them; and the one that it writes. -/
def looks (ops : Array Oper) (o : Oper) : List Nat :=
  (o.op.operands.toList.filterMap fun | .tmp t => some t | _ => none) ++
  (match o.guard with
   | some (j, _) => ((ops[j]?).bind (·.dst)).toList
   | none => [])

def cGuard (ops : Array Oper) : Option (Nat × Bool) → Option (Option (Nat × Bool))
  | none => some none
  | some (j, want) => match (ops[j]?).bind (·.dst) with
    | some s => some (some (s, want))
    | none => none

def cOper (m : Nat) (ops : Array Oper) (o : Oper) : Option AOper := do
  let op ← cOp P o
  let g ← cGuard ops o.guard
  match o.dst with
  | some d => if d < m then pure ⟨some d, op, g⟩ else none
  | none => pure ⟨none, op, g⟩

def distinct : List Nat → Bool
  | [] => true
  | x :: xs => !xs.contains x && distinct xs

/-- Does `i` stand ahead of `j` in every order? (`b`: what stands ahead of each.) -/
def ahead (b : Array Nat) (i j : Nat) : Bool := (b.getD j 0).testBit i

/-- The slots are written once, and their writer stands in a fixed order to each who looks. -/
def slotsOk (ops : Array Oper) (b : Array Nat) : Bool :=
  distinct (ops.toList.filterMap (·.dst)) &&
  (List.range ops.size).all fun j => match ops[j]? with
    | none => false
    | some o => (o.after.toList.all fun e => !Region.binds .any e || decide (e.on < j)) && (looks ops o).all fun s => (List.range ops.size).all fun i => match ops[i]? with
      | none => false
      | some w => w.dst != some s || i == j || (if i < j then ahead b i j else ahead b j i)

/-- Does `j` stand in no fixed order to one of these? -/
def clash (b : Array Nat) (acting : List Nat) (j : Nat) : Bool := acting.any fun i => i != j && !(if i < j then ahead b i j else ahead b j i)

def acting (l : List AOper) : List Nat := (l.zipIdx.filter fun p => !p.1.op.free).map (·.2)

def AOp.isQuiet : AOp → Bool
  | .load .. | .alloc .. => true
  | _ => false

def AOp.isCall : AOp → Bool
  | .call .. | .callv .. => true
  | _ => false

/-- The marks, where all that look or act count. -/
def marks1 (b : Array Nat) (l : List AOper) : List (AOper × Md) :=
  l.zipIdx.map fun p => (p.1, cond (!p.1.op.free && clash b (acting l) p.2) .alone .plain)

/-- Loads and new variables that stand in no fixed order to others that look or act. -/
def quiets (b : Array Nat) (l : List AOper) : List Nat := (l.zipIdx.filter fun p => p.1.op.isQuiet && clash b (acting l) p.2).map (·.2)

/-- The marks, where such are quiet ones. -/
def marks2 (b : Array Nat) (l : List AOper) : List (AOper × Md) :=
  l.zipIdx.map fun p => (p.1,
    cond p.1.op.free .plain
    (cond ((quiets b l).contains p.2) .quiet
    (cond (clash b ((acting l).filter fun i => !(quiets b l).contains i) p.2) .alone
    (cond (clash b (quiets b l) p.2) .mark .plain))))

def cDraw (m : Nat) (ops : Array Oper) : Option AC :=
  match ops.toList.mapM (cOper P m ops) with
  | none => none
  | some l =>
    let b := Region.before ops
    cond (slotsOk ops b)
      (cond ((l.zipIdx.any fun p => p.1.op.isCall && clash b (quiets b l) p.2)) (some (.dreg (marks2 b l) (marks1 b l))) (some (.dreg (marks1 b l) (marks2 b l)))) none

def cCode (m : Nat) : Code → Option AC
  | .skip => some .skip
  | .region _ ops false => (ops.toList.mapM (cOper P m ops)).map .reg
  | .region _ ops true => cDraw P m ops
  | .seq a b => do pure (.seq (← cCode m a) (← cCode m b))
  | .cond c a b => do pure (.cond (← cX c) (← cCode m a) (← cCode m b))
  | .block id b => do pure (.block id (← cCode m b))
  | .loop b => do pure (.loop (← cCode m b))
  | .scope b => do pure (.scope (← cCode m b))
  | .label _ => some .skip
  | .exit id => some (.exit id)
  | .ret => some .ret
  | _ => none

def cRes : ResultVar → Option ARes
  | .tmp t => some (.tmp t)
  | .cell a t => do pure (.cell a (← tSize P t) (← tAgg P t))

def cExt (fn : Func) : Option Ext :=
  if fn.name = "math.Float64bits" then some .bits
  else if fn.name = "math.Float64frombits" then some .from
  else if fn.name = "math.archFloor" then some .floor
  else if fn.name = "math.archTrunc" then some .trunc
  else if fn.name = "math.archCeil" then some .ceil
  else if fn.name = "math.archMax" then some .amax
  else if fn.name = "math.archMin" then some .amin
  else none

def cFun (f : FuncId) : Option AFun :=
  match P.funcs[f]? with
  | none => none
  | some fn => match fn.body with
    | none => if fn.origin = "" then (cExt fn).map .ext else none
    | some b => do
      if fn.name = "runtime.NumGoroutine" then none else
      pure (.code fn.ntmps (← fn.results.toList.mapM (cRes P)) (← cCode P fn.ntmps b))

end Go.Proofs.Ytofaiipohmeelaa.Am
