/- The translation of a program's code into the code of the small machine: it only computes. -/
import Derived.Test.YtkajahlgiglliaaGreatDoorAm1
namespace Go.AM

def ofConst : Nat → Value → Option AV
  | 0, _ => none
  | n + 1, v => match v with
    | .bool b => some (.bool b)
    | .int k i => some (.int k i)
    | .float .f64 b => some (.flt b)
    | .string s => some (.str s)
    | .pointer none => some (.ptr none)
    | .slice none l c => some (.slc none l c false)
    | .map none => some (.map none)
    | .func (.func f) a b => if a.size = 0 ∧ b.size = 0 then some (.fn f [] []) else none
    | .nilFunc => some .nilFn
    | .nilIface => some .nilIface
    | .iface t v => (ofConst n v).map (.iface t)
    | .agg cs => (cs.toList.mapM (ofConst n)).map .agg
    | .tuple cs => (cs.toList.mapM (ofConst n)).map .tup
    | _ => none

section
variable (P : Program)

def trOpd : Operand → Option AOpd
  | .tmp t => some (.t t)
  | .const v => (ofConst 8 v).map .c
  | .global g => if g < P.globals.size then some (.c (.ptr (some (g, 0)))) else none
  | .func f => some (.c (.fn f [] []))

def trOpds (l : List Operand) : Option (List AOpd) := l.mapM (trOpd P)

def trOpt : Option Operand → Option (Option AOpd)
  | none => some none
  | some x => (trOpd P x).map some

/-- One cell, or an aggregate of so many. -/
def aggOf (t : TypeId) : Option (Option Nat) :=
  match P.underlying t, P.info? t with
  | some (.struct _), some i | some (.array _ _), some i => some (some i.size)
  | some _, some _ => some none
  | _, _ => none

def sizeP (t : TypeId) : Option Nat := (P.info? t).map (·.size)

def zeroP (t : TypeId) : Option AV :=
  match P.info? t with
  | some i => i.zero.bind (ofConst 8)
  | none => none

def placesP (fields : Array Field) : Option (List (Nat × Nat)) := fields.toList.mapM fun f => (sizeP P f.type).map (f.offset, ·)

def trParts (place : Nat → Option (Nat × Nat)) : List (Nat × Operand) → Option (List (Nat × Nat × AOpd))
  | [] => some []
  | (i, x) :: l => match place i, trOpd P x, trParts place l with
    | some p, some x, some l => some ((p.1, p.2, x) :: l)
    | _, _, _ => none

def isConstO : Operand → Bool
  | .const _ => true
  | _ => false

/-- A struct whose fields are single cells to be held one against the other. -/
def flatOffs : List Field → Option (List (Nat × Nat))
  | [] => some []
  | f :: l =>
    if f.name = "_" then none else
    match P.underlying f.type, flatOffs l with
    | some (.int _), some os => some ((f.offset, 0) :: os)
    | some .bool, some os => some ((f.offset, 1) :: os)
    | some .string, some os => some ((f.offset, 2) :: os)
    | _, _ => none

def eqKindOf (t : TypeId) (x y : Operand) : Option EqKind :=
  match P.underlying t with
  | some .bool => some .bool
  | some .string => some .str
  | some (.pointer _) => some .ptr
  | some (.slice _) => some .slc
  | some (.map _ _) => some .map
  | some (.func _ _ _) => some .fn
  | some (.interface _) => if isConstO x || isConstO y then some .iface else none
  | some (.struct fs) =>
    if P.eqGuardType P.depth t || P.stoodInHeld t then none
    else (flatOffs P fs.toList).map .flat
  | _ => none

def trBin (op : BinOp) (t : TypeId) (x y : Operand) : Option AOp :=
  match P.underlying t, trOpd P x, trOpd P y with
  | some (.int _), some x', some y' => some (.bin op x' y')
  | some (.float .f64), some x', some y' => some (.bin op x' y')
  | _, some x', some y' => match op, eqKindOf P t x y with
    | .eql, some k => some (.eqv false k x' y')
    | .neq, some k => some (.eqv true k x' y')
    | _, _ => none
  | _, _, _ => none

def keyStr (t : TypeId) : Option Bool :=
  match P.underlying t with
  | some (.int _) => some false
  | some .string => some true
  | _ => none

/-- The element's size and bytes. -/
def elemP (e : TypeId) : Option (Nat × Nat) := (P.info? e).map fun i => (i.size, i.bytes)

/-- The number of a function without a body that the small machine has. -/
def extOf (fn : Func) : Option Nat :=
  if fn.body.isSome || (Extern.findNext fn).isSome then none
  else if fn.name = "math.Float64bits" then some 0
  else if fn.name = "math.Float64frombits" then some 1
  else if fn.name = "math/bits.Add64" then some 2
  else if fn.name = "math/bits.Sub64" then some 3
  else none

def trCall (c : Call) : Option AOp :=
  match c.callee, trOpds P c.args.toList with
  | .value (.func f), some args => match (P.funcs[f]?).bind extOf with
    | some k => some (.ext k args)
    | none => some (.call f args)
  | .value x, some args => (trOpd P x).map fun x => .callv x args
  | .builtin .len, some [x] => match (c.argTypes[0]?).bind P.underlying with
    | some (.array n _) => some (.mv (.c (.int .i64 n)))
    | some (.slice _) => some (.len 0 x)
    | some .string => some (.len 1 x)
    | some (.map _ _) => some (.len 2 x)
    | _ => none
  | .builtin .append, some [s, x] =>
    match (c.argTypes[0]?).bind P.underlying, (c.argTypes[1]?).bind P.underlying with
    | some (.slice e), some (.slice _) | some (.slice e), some .string => match elemP P e, zeroP P e with
      | some p, some z => if z.cells.length = p.1 ∧ 0 < p.1 then some (.append s x p.1 p.2) else none
      | _, _ => none
    | _, _ => none
  | .builtin .copy, some [d, s] => match (c.argTypes[0]?).bind P.underlying with
    | some (.slice e) => (elemP P e).map fun p => .copy d s p.1
    | _ => none
  | .builtin .delete, some [m, k] => match (c.argTypes[0]?).bind P.underlying with
    | some (.map kt _) => (keyStr P kt).map fun b => .delete m k b
    | _ => none
  | .builtin .clear, some [x] => match (c.argTypes[0]?).bind P.underlying with
    | some (.slice e) => match sizeP P e, zeroP P e with
      | some sz, some z => if 0 < sz ∧ z.cells.length = sz then some (.clear x z.cells) else none
      | _, _ => none
    | _ => none
  | .builtin .min, some (x :: l) => some (.minmax false x l)
  | .builtin .max, some (x :: l) => some (.minmax true x l)
  | _, _ => none

def trOp : Op → Option AOp
  | .move x | .assign x => (trOpd P x).map .mv
  | .pick c a b => match trOpd P c, trOpd P a, trOpd P b with
    | some c, some a, some b => some (.pick c a b)
    | _, _, _ => none
  | .alloc e => (zeroP P e).map fun z => .new z.cells
  | .box _ x => (trOpd P x).map .box
  | .build t parts => match P.underlying t, zeroP P t with
    | some (.struct fs), some z => match placesP P fs with
      | some ps => (trParts P (ps[·]?) parts.toList).map (.build z.cells)
      | none => none
    | some (.array _ e), some z => match sizeP P e with
      | some sz => (trParts P (fun i => some (i * sz, sz)) parts.toList).map (.build z.cells)
      | none => none
    | _, _ => none
  | .buildSlice t len parts => match P.underlying t with
    | some (.slice e) => match sizeP P e, zeroP P e with
      | some sz, some z =>
        if len * sz ≤ 2 ^ 24 ∧ 0 < sz ∧ z.cells.length = sz then
          (trParts P (fun i => some (i * sz, sz)) parts.toList).map (.bslice (repeated z.cells (len * sz)) len)
        else none
      | _, _ => none
    | _ => none
  | .load t a => match aggOf P t, trOpd P a with
    | some g, some a => some (.load a g)
    | _, _ => none
  | .store t a v => match sizeP P t, trOpd P a, trOpd P v with
    | some n, some a, some v => some (.store a v n)
    | _, _, _ => none
  | .nilCheck x => (trOpd P x).map .nilCheck
  | .binOp op t x y _ => trBin P op t x y
  | .unOp op _ x => (trOpd P x).map (.un op)
  | .convert s d x => match P.underlying s, P.underlying d, trOpd P x with
    | some (.int _), some (.int k), some x => some (.conv k x)
    | some (.int _), some (.float .f64), some x => some (.convF x)
    | some (.slice e), some .string, some x => match P.underlying e with
      | some (.int .u8) => some (.b2s x)
      | _ => none
    | _, _, _ => none
  | .makeInterface t x => match P.underlying t with
    | some (.interface _) => none
    | some _ => (trOpd P x).map (.mkIface t)
    | none => none
  | .makeFunc (.func f) first captured => match trOpds P first.toList, trOpds P captured.toList with
    | some a, some b => some (.mkFn f a b)
    | _, _ => none
  | .makeMap t r => match r, P.underlying t with
    | none, _ => some .mkMap
    | some _, _ => none
  | .makeSlice t l c => match P.underlying t with
    | some (.slice e) => match P.info? e, zeroP P e, trOpd P l, trOpd P c with
      | some i, some z, some l, some c => if 0 < i.size ∧ z.cells.length = i.size then some (.mkSlice l c z.cells i.bytes) else none
      | _, _, _, _ => none
    | _ => none
  | .slice t x lo hi mx => match P.underlying t, trOpd P x, trOpt P lo, trOpt P hi, trOpt P mx with
    | some .string, some x, some lo, some hi, some none => some (.sliceStr x lo hi)
    | some (.slice e), some x, some lo, some hi, some mx => (sizeP P e).bind fun sz => if mx.isSome && hi.isNone then none else some (.slice x lo hi mx sz)
    | some (.array n e), some x, some lo, some hi, some mx => (sizeP P e).bind fun sz => if mx.isSome && hi.isNone then none else some (.sliceA x lo hi mx n sz)
    | _, _, _, _, _ => none
  | .fieldAddr s x f => match P.underlying s with
    | some (.struct fs) => match fs[f]?, trOpd P x with
      | some f, some x => match sizeP P f.type with
        | some (_ + 1) => some (.fieldAddr x f.offset)
        | _ => none
      | _, _ => none
    | _ => none
  | .field t x f => match P.underlying t with
    | some (.struct fs) => match fs[f]?, trOpd P x with
      | some f, some x => (aggOf P f.type).map (.field x f.offset)
      | _, _ => none
    | _ => none
  | .indexAddr t x i => match P.underlying t, trOpd P x, trOpd P i with
    | some (.array n e), some x, some i => (sizeP P e).map (.idxA x i n)
    | some (.slice e), some x, some i => (sizeP P e).map (.idxS x i)
    | _, _, _ => none
  | .index t x i => match P.underlying t, trOpd P x, trOpd P i with
    | some (.array n e), some x, some i => match sizeP P e, aggOf P e with
      | some sz, some g => some (.idxV x i n sz g)
      | _, _ => none
    | some .string, some x, some i => some (.idxStr x i)
    | _, _, _ => none
  | .lookup t x k ok => match P.underlying t with
    | some (.map kt e) => match keyStr P kt, zeroP P e, trOpd P x, trOpd P k with
      | some b, some z, some x, some k => some (.lookup x k z ok b)
      | _, _, _, _ => none
    | _ => none
  | .mapUpdate t m k v => match P.underlying t with
    | some (.map kt _) => match keyStr P kt, trOpd P m, trOpd P k, trOpd P v with
      | some b, some m, some k, some v => some (.mapUpd m k v b)
      | _, _, _, _ => none
    | _ => none
  | .extract x i => (trOpd P x).map (.extract · i)
  | .call c => trCall P c
  | _ => none

def trGuard (ops : Array Oper) : Option (Nat × Bool) → Option (Option (Nat × Bool))
  | none => some none
  | some (j, b) => ((ops[j]?).bind (·.dst)).map fun d => some (d, b)

def trOper (ops : Array Oper) (o : Oper) : Option AOper :=
  match trGuard ops o.guard with
  | some g => some ⟨o.dst, (trOp P o.op).getD .bad, g⟩
  | none => none

def AOpd.tmps : AOpd → List Nat
  | .t n => [n]
  | .c _ => []

def optTmps : Option AOpd → List Nat
  | none => []
  | some x => x.tmps

/-- The slots that an operation reads. -/
def AOp.tmps : AOp → List Nat
  | .mv x | .box x | .clear x _ | .load x _ | .nilCheck x | .un _ x | .conv _ x | .convF x | .b2s x | .fieldAddr x _ | .field x _ _ | .mkIface _ x | .extract x _ | .len _ x => x.tmps
  | .pick c a b => c.tmps ++ a.tmps ++ b.tmps
  | .new _ | .mkMap | .bad => []
  | .build _ ps | .bslice _ _ ps => ps.flatMap fun p => p.2.2.tmps
  | .store a v _ => a.tmps ++ v.tmps
  | .bin _ x y | .eqv _ _ x y | .idxA x y _ _ | .idxS x y _ | .idxV x y _ _ _ | .idxStr x y | .lookup x y _ _ _ | .delete x y _ | .mkSlice x y _ _ | .append x y _ _ | .copy x y _ => x.tmps ++ y.tmps
  | .slice x a b c _ | .sliceA x a b c _ _ => x.tmps ++ optTmps a ++ optTmps b ++ optTmps c
  | .sliceStr x a b => x.tmps ++ optTmps a ++ optTmps b
  | .mapUpd m k v _ => m.tmps ++ k.tmps ++ v.tmps
  | .mkFn _ a b => (a ++ b).flatMap AOpd.tmps
  | .minmax _ x l => x.tmps ++ l.flatMap AOpd.tmps
  | .call _ l => l.flatMap AOpd.tmps
  | .callv x l => x.tmps ++ l.flatMap AOpd.tmps
  | .ext _ l => l.flatMap AOpd.tmps

def AOper.reads (o : AOper) : List Nat :=
  o.op.tmps ++ match o.guard with
    | none => []
    | some g => [g.1]

/-- Does it look at the heap? -/
def AOp.looks : AOp → Bool
  | .load .. | .lookup .. | .b2s _ | .len 2 _ => true
  | _ => false

/-- The edges that bind, of each operation. -/
def edgesOf (ops : List Oper) : List (List Nat) := ops.map fun o => (o.after.toList.filter fun e => Region.binds .any e).map (·.on)

/-- What each operation waits for, through others too. -/
def befores : List (List Nat) → List (List Nat) → List (List Nat)
  | [], acc => acc
  | es :: l, acc => befores l (acc ++ [(es ++ es.flatMap fun j => acc.getD j []).eraseDups])

/-- May two operations not change places? -/
def bound (a b : AOper) : Bool :=
  (a.op.eff && b.op.eff) ||
  (match a.dst with | some d => b.reads.contains d || b.dst == some d | none => false) ||
  (match b.dst with | some d => a.reads.contains d | none => false)

/-- Each operation stands behind those that it is bound to; edges lead back. -/
def orderOk (l : List AOper) (es bs : List (List Nat)) : Bool :=
  (List.range l.length).all fun i => ((es.getD i []).all fun e => decide (e < i)) &&
    (List.range i).all fun j => match l[j]?, l[i]? with
      | some a, some b => !bound a b || (bs.getD i []).contains j
      | _, _ => false

def effAt (l : List AOper) (j : Nat) : Bool :=
  match l[j]? with
  | some b => b.op.eff
  | none => false

/-- May the heap stand at 'p' when the operation i comes, as far as j is asked? -/
def probeOk (l : List AOper) (bs : List (List Nat)) (i p j : Nat) : Bool :=
  !effAt l j || ((!(bs.getD i []).contains j || decide (j < p)) && (!(bs.getD j []).contains i || !decide (j < p)))

/-- The places at which the heap may stand when an operation comes: 0, or behind one that changes it. -/
def probesAt (l : List AOper) (bs : List (List Nat)) (i : Nat) : List Nat :=
  (0 :: ((List.range l.length).filter (effAt l)).map (· + 1)).filter fun p => (List.range l.length).all (probeOk l bs i p)

def probesOf (l : List AOper) (bs : List (List Nat)) : List (List Nat) :=
  (List.range l.length).map fun i => match l[i]? with
    | some o => if o.op.looks then probesAt l bs i else []
    | none => []

def trCode : Code → Option ACode
  | .skip => some .skip
  | .region _ ops draw =>
    match ops.toList.mapM (trOper P ops) with
    | some l =>
      if draw then
        let es := edgesOf ops.toList
        let bs := befores es []
        if orderOk l es bs then some (.dreg l (probesOf l bs)) else some .bad
      else some (.reg l)
    | none => some .bad
  | .seq a b => match trCode a, trCode b with
    | some a, some b => some (.seq a b)
    | _, _ => none
  | .cond c a b => match trOpd P c, trCode a, trCode b with
    | some c, some a, some b => some (.cond c a b)
    | _, _, _ => none
  | .block id b => (trCode b).map (.block id)
  | .loop b => (trCode b).map .loop
  | .exit id => some (.exit id)
  | .ret => some .ret
  | .label _ => some .skip
  | .scope b => (trCode b).map (.seq .skip)
  | .rangeFunc g ps a b => match trOpd P g, trCode a, trCode b with
    | some g, some a, some b => some (.rangeF g ps.toList a b)
    | _, _, _ => none
  | _ => some .bad

def trRes : ResultVar → Option ARes
  | .tmp t => some (.tmp t)
  | .cell a t => (aggOf P t).map (.cell a)

def trFn (f : FuncId) : Option AFn :=
  match P.funcs[f]? with
  | some fn => match fn.body with
    | some c => match trCode P c, fn.results.toList.mapM (trRes P) with
      | some c, some r => some ⟨fn.ntmps, r, c⟩
      | _, _ => none
    | none => none
  | none => none

end
end Go.AM
