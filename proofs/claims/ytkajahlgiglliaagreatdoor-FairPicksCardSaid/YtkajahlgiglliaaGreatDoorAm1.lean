/- The small machine: values, heap and code in which known addresses and known types are resolved, and a translation of a program's code into it. It only computes; what it has to do with the program is proved in Am2 and on. -/
import Derived.Orders
import Derived.LoopN
namespace Go.AM

/-- A value, whose addresses are numbers of the small heap. A slice's last mark: its true capacity may be greater. -/
inductive AV where
  | bool (b : Bool)
  | int (k : IntKind) (n : Int)
  | flt (n : Nat)
  | str (s : ByteArray)
  | ptr (a : Option (Nat × Nat))
  | slc (a : Option (Nat × Nat)) (len cap : Nat) (more : Bool)
  | map (r : Option Nat)
  | fn (f : FuncId) (first captured : List AV)
  | nilFn
  | iface (t : TypeId) (v : AV)
  | nilIface
  | agg (l : List AV)
  | tup (l : List AV)
  | yld (i : Nat)
  deriving Inhabited

def AV.undef : AV := .tup []

inductive AOpd where
  | t (n : Nat)
  | c (v : AV)
  deriving Inhabited

/-- What is held against what. -/
inductive EqKind where
  | bool | ptr | slc | map | fn | iface | str
  | flat (offs : List (Nat × Nat))
  deriving Inhabited

inductive AOp where
  | mv (x : AOpd)
  | pick (c a b : AOpd)
  | new (cells : List AV)
  | box (x : AOpd)
  | build (zero : List AV) (parts : List (Nat × Nat × AOpd))
  | bslice (zero : List AV) (len : Nat) (parts : List (Nat × Nat × AOpd))
  | load (x : AOpd) (agg : Option Nat)
  | store (a v : AOpd) (n : Nat)
  | nilCheck (x : AOpd)
  | bin (op : BinOp) (x y : AOpd)
  | eqv (neg : Bool) (k : EqKind) (x y : AOpd)
  | un (op : UnOp) (x : AOpd)
  | conv (k : IntKind) (x : AOpd)
  | convF (x : AOpd)
  | b2s (x : AOpd)
  | fieldAddr (x : AOpd) (off : Nat)
  | field (x : AOpd) (off : Nat) (agg : Option Nat)
  | idxA (x i : AOpd) (len esz : Nat)
  | idxS (x i : AOpd) (esz : Nat)
  | idxV (x i : AOpd) (len esz : Nat) (agg : Option Nat)
  | idxStr (x i : AOpd)
  | slice (x : AOpd) (lo hi mx : Option AOpd) (esz : Nat)
  | sliceA (x : AOpd) (lo hi mx : Option AOpd) (len esz : Nat)
  | sliceStr (x : AOpd) (lo hi : Option AOpd)
  | lookup (x k : AOpd) (zero : AV) (ok : Bool) (str : Bool)
  | mapUpd (m k v : AOpd) (str : Bool)
  | delete (m k : AOpd) (str : Bool)
  | mkMap
  | mkSlice (len cap : AOpd) (zero : List AV) (bytes : Nat)
  | mkFn (f : FuncId) (first captured : List AOpd)
  | mkIface (t : TypeId) (x : AOpd)
  | extract (x : AOpd) (i : Nat)
  | len (kind : Nat) (x : AOpd)
  | append (s x : AOpd) (esz bytes : Nat)
  | copy (d s : AOpd) (esz : Nat)
  | minmax (isMax : Bool) (x : AOpd) (rest : List AOpd)
  | call (f : FuncId) (args : List AOpd)
  | callv (x : AOpd) (args : List AOpd)
  | clear (x : AOpd) (zero : List AV)
  | ext (k : Nat) (args : List AOpd)
  | bad
  deriving Inhabited

structure AOper where
  dst : Option Nat
  op : AOp
  guard : Option (Nat × Bool)
  deriving Inhabited

inductive ACode where
  | skip
  | reg (ops : List AOper)
  | dreg (ops : List AOper) (probes : List (List Nat))
  | seq (a b : ACode)
  | cond (c : AOpd) (a b : ACode)
  | block (id : Nat) (b : ACode)
  | loop (b : ACode)
  | exit (id : Nat)
  | ret
  | rangeF (g : AOpd) (ps : List Nat) (asg body : ACode)
  | bad
  deriving Inhabited

inductive ARes where
  | tmp (t : Nat)
  | cell (a : Nat) (agg : Option Nat)
  deriving Inhabited

structure AFn where
  ntmps : Nat
  res : List ARes
  body : ACode
  deriving Inhabited

inductive AExit where
  | norm
  | exit (id : Nat)
  | ret
  deriving Inhabited

/-- How a range over a function stands: ready for a round, in one, or done, with the jump that is to follow. -/
inductive LSt where
  | ready
  | busy
  | done (x : AExit)
  | over
  deriving Inhabited

/-- A block: a row of cells (may it be written? how many cells has an element, if the true row may go on behind it; 0: it does not), a map, or the record of a range over a function. -/
inductive AObj where
  | cells (c : List AV) (wr : Bool) (sp : Nat)
  | dict (es : List (AV × AV))
  | loop (st : LSt) (t : List AV) (ps : List Nat) (asg body : ACode)
  deriving Inhabited

structure AHeap where
  next : Nat
  objs : List (Nat × AObj)
  deriving Inhabited

def getO (i : Nat) : List (Nat × AObj) → Option AObj
  | [] => none
  | p :: l => match Nat.beq p.1 i with
    | true => some p.2
    | false => getO i l

def setO (i : Nat) (o : AObj) : List (Nat × AObj) → List (Nat × AObj)
  | [] => []
  | p :: l => match Nat.beq p.1 i with
    | true => (i, o) :: l
    | false => p :: setO i o l

def delO (i : Nat) : List (Nat × AObj) → List (Nat × AObj)
  | [] => []
  | p :: l => match Nat.beq p.1 i with
    | true => delO i l
    | false => p :: delO i l

def AHeap.get (H : AHeap) (i : Nat) : Option AObj := getO i H.objs
def AHeap.set (H : AHeap) (i : Nat) (o : AObj) : AHeap := ⟨H.next, setO i o H.objs⟩
def AHeap.del (H : AHeap) (i : Nat) : AHeap := ⟨H.next, delO i H.objs⟩
def AHeap.new (H : AHeap) (o : AObj) : AHeap := ⟨H.next + 1, (H.next, o) :: H.objs⟩

/- Running -/

def AOpd.ev (t : List AV) : AOpd → AV
  | .t n => t.getD n .undef
  | .c v => v

def evs (t : List AV) : List AOpd → List AV
  | [] => []
  | x :: l => x.ev t :: evs t l

def AV.cells : AV → List AV
  | .agg l => l
  | v => [v]

def AV.one : AV → Bool
  | .agg _ | .tup _ => false
  | _ => true

def allOne : List AV → Bool
  | [] => true
  | x :: l => match x.one with | true => allOne l | false => false

/-- 'vs' over the cells from a place on. -/
def putAt : Nat → List AV → List AV → List AV
  | _, [], l => l
  | 0, v :: vs, _ :: l => v :: putAt 0 vs l
  | _, _ :: _, [] => []
  | n + 1, vs, x :: l => x :: putAt n vs l

def partOf (c : List AV) (off : Nat) : Option Nat → Option AV
  | none => c[off]?
  | some n => match Nat.ble (off + n) c.length with
    | true => some (.agg ((c.drop off).take n))
    | false => none

/-- A cell of which nothing is known. -/
def AV.hole : AV → Bool
  | .tup _ => true
  | _ => false

def noHoles : List AV → Bool
  | [] => true
  | x :: l => cond x.hole false (noHoles l)

def AV.known : AV → Bool
  | .tup _ => false
  | .agg l => noHoles l
  | _ => true

def okV (v : AV) : Option AV := cond v.known (some v) none

def okL (l : List AV) : Option (List AV) := cond (noHoles l) (some l) none

def loadA (H : AHeap) (v : AV) (agg : Option Nat) : Option AV :=
  match v with
  | .ptr (some p) => match H.get p.1 with
    | some (.cells c _ _) => (partOf c p.2 agg).bind okV
    | _ => none
  | _ => none

def cellsAt (H : AHeap) (i o n : Nat) : Option (List AV) :=
  match H.get i with
  | some (.cells c _ _) => match Nat.ble (o + n) c.length with
    | true => okL ((c.drop o).take n)
    | false => none
  | _ => none

def writeAt (H : AHeap) (i o : Nat) (vs : List AV) : Option AHeap :=
  match vs with
  | [] => some H
  | _ => match H.get i with
    | some (.cells c true sp) => match Nat.ble (o + vs.length) c.length, allOne vs with
      | true, true => some (H.set i (.cells (putAt o vs c) true sp))
      | _, _ => none
    | _ => none

def fillA (cells : List AV) : List (Nat × Nat × AV) → Option (List AV)
  | [] => some cells
  | p :: rest => match Nat.beq p.2.2.cells.length p.2.1, Nat.ble (p.1 + p.2.2.cells.length) cells.length with
    | true, true => fillA (putAt p.1 p.2.2.cells cells) rest
    | _, _ => none

def evParts (t : List AV) : List (Nat × Nat × AOpd) → List (Nat × Nat × AV)
  | [] => []
  | p :: l => (p.1, p.2.1, p.2.2.ev t) :: evParts t l

def repeated (zero : List AV) (n : Nat) : List AV := (List.range n).map fun k => zero.getD (k % zero.length) .undef

def eqFlat (kind : Nat) (a b : AV) : Option Bool :=
  match kind, a, b with
  | 0, .int k x, .int k' y => if k = k' then some (x == y) else none
  | 1, .bool x, .bool y => some (x == y)
  | 2, .str x, .str y => some (x == y)
  | _, _, _ => none

/-- Field by field: where it stands, and of what kind it is. -/
def eqOffs (a b : List AV) : List (Nat × Nat) → Option Bool
  | [] => some true
  | o :: l => match a[o.1]?, b[o.1]? with
    | some x, some y => match eqFlat o.2 x y with
      | some true => eqOffs a b l
      | some false => some false
      | none => none
    | _, _ => none

def eqA : EqKind → AV → AV → Option Bool
  | .bool, .bool a, .bool b => some (a == b)
  | .str, .str a, .str b => some (a == b)
  | .ptr, .ptr none, .ptr b => some b.isNone
  | .ptr, .ptr (some _), .ptr none => some false
  | .slc, .slc none _ _ _, .slc b _ _ _ => some b.isNone
  | .slc, .slc (some _) _ _ _, .slc none _ _ _ => some false
  | .map, .map none, .map b => some b.isNone
  | .map, .map (some _), .map none => some false
  | .fn, .nilFn, .nilFn => some true
  | .fn, .nilFn, .fn _ _ _ => some false
  | .fn, .fn _ _ _, .nilFn => some false
  | .iface, .nilIface, .nilIface => some true
  | .iface, .nilIface, .iface _ _ => some false
  | .iface, .iface _ _, .nilIface => some false
  | .flat offs, .agg a, .agg b => eqOffs a b offs
  | _, _, _ => none

def arithA (op : BinOp) (k : IntKind) (x y : Int) : Option AV :=
  match op with
  | .add => some (.int k (k.wrap (x + y)))
  | .sub => some (.int k (k.wrap (x - y)))
  | .mul => some (.int k (k.wrap (x * y)))
  | .quo => if y = 0 then none else some (.int k (k.wrap (x.tdiv y)))
  | .rem => if y = 0 then none else some (.int k (x.tmod y))
  | .and => some (.int k (k.wrap (BitVec.ofInt k.bits x &&& BitVec.ofInt k.bits y).toNat))
  | .or => some (.int k (k.wrap (BitVec.ofInt k.bits x ||| BitVec.ofInt k.bits y).toNat))
  | .xor => some (.int k (k.wrap (BitVec.ofInt k.bits x ^^^ BitVec.ofInt k.bits y).toNat))
  | .andNot => some (.int k (k.wrap (BitVec.ofInt k.bits x &&& ~~~ BitVec.ofInt k.bits y).toNat))
  | .eql => some (.bool (x == y))
  | .neq => some (.bool (x != y))
  | .lss => some (.bool (x < y))
  | .leq => some (.bool (x ≤ y))
  | .gtr => some (.bool (x > y))
  | .geq => some (.bool (x ≥ y))
  | .shl | .shr => none

def fltA (op : BinOp) (x y : Nat) : Option AV :=
  match op with
  | .add => (FloatKind.f64.format.add x y).map .flt
  | .sub => (FloatKind.f64.format.sub x y).map .flt
  | .mul => (FloatKind.f64.format.mul x y).map .flt
  | .quo => (FloatKind.f64.format.div x y).map .flt
  | .eql => some (.bool (FloatKind.f64.format.order x y == some .eq))
  | .neq => some (.bool (FloatKind.f64.format.order x y != some .eq))
  | .lss => some (.bool (FloatKind.f64.format.order x y == some .lt))
  | .leq => some (.bool (FloatKind.f64.format.order x y == some .lt || FloatKind.f64.format.order x y == some .eq))
  | .gtr => some (.bool (FloatKind.f64.format.order x y == some .gt))
  | .geq => some (.bool (FloatKind.f64.format.order x y == some .gt || FloatKind.f64.format.order x y == some .eq))
  | _ => none

def binA (op : BinOp) (x y : AV) : Option AV :=
  match op, x, y with
  | .shl, .int k a, .int _ b => if b < 0 then none else some (.int k (k.wrap (a * 2 ^ min b.toNat k.bits)))
  | .shr, .int k a, .int _ b => if b < 0 then none else some (.int k (a.fdiv (2 ^ min b.toNat k.bits)))
  | op, .int k a, .int k' b => if k = k' then arithA op k a b else none
  | op, .flt a, .flt b => fltA op a b
  | _, _, _ => none

def unA (op : UnOp) (x : AV) : Option AV :=
  match op, x with
  | .neg, .int k n => some (.int k (k.wrap (0 - n)))
  | .xor, .int k n => some (.int k (k.wrap (BitVec.ofInt k.bits (if k.signed then -1 else k.max) ^^^ BitVec.ofInt k.bits n).toNat))
  | .not, .bool b => some (.bool !b)
  | .neg, .flt b => some (.flt (Op.negFloat .f64 b))
  | _, _ => none

/-- Functions without a body. -/
def extA : Nat → List AV → Option AV
  | 0, [.flt b] => some (.int .u64 b)
  | 1, [.int .u64 n] => some (.flt n.toNat)
  | 2, [.int .u64 x, .int .u64 y, .int .u64 c] => if c.toNat > 1 then none else
    some (.tup [.int .u64 (Int.ofNat ((x.toNat + y.toNat + c.toNat) % 2 ^ 64)), .int .u64 (Int.ofNat ((x.toNat + y.toNat + c.toNat) / 2 ^ 64))])
  | 3, [.int .u64 x, .int .u64 y, .int .u64 b] => if b.toNat > 1 then none else
    some (.tup [.int .u64 (Int.ofNat ((x.toNat + 2 ^ 64 - y.toNat - b.toNat) % 2 ^ 64)), .int .u64 (Int.ofNat (if x.toNat < y.toNat + b.toNat then 1 else 0))])
  | _, _ => none

/-- A bound of a slice expression: at most a number. -/
def boundA (v : AV) (y : Nat) : Option Nat :=
  match v with
  | .int _ i => if 0 ≤ i ∧ i ≤ y then some i.toNat else none
  | _ => none

def boundO (t : List AV) (x : Option AOpd) (dflt y : Nat) : Option Nat :=
  match x with
  | none => some dflt
  | some x => boundA (x.ev t) y

def sliceA (t : List AV) (a : Option (Nat × Nat)) (len cap : Nat) (more : Bool) (lo hi mx : Option AOpd) (esz : Nat) : Option AV :=
  match boundO t mx cap cap with
  | none => none
  | some m => match boundO t hi len m with
    | none => none
    | some h => match boundO t lo 0 h with
      | none => none
      | some l =>
        -- where the true capacity is not known, a slice that begins at its end would keep its address or not
        match a with
        | none => some (.slc none (h - l) (m - l) false)
        | some p =>
          match more && mx.isNone with
          | true => match Nat.ble m l && !(Nat.beq l 0) with
            | true => none
            | false => some (.slc (some (p.1, p.2 + l * esz)) (h - l) (m - l) true)
          | false => some (.slc (some (p.1, if m = l then p.2 else p.2 + l * esz)) (h - l) (m - l) false)

def sameKey (str : Bool) (k x : AV) : Option Bool :=
  match str, k, x with
  | false, .int i a, .int j b => if i = j then some (a == b) else none
  | true, .str a, .str b => some (a == b)
  | _, _, _ => none

def findA (str : Bool) (k : AV) : List (AV × AV) → Option (Option AV)
  | [] => some none
  | e :: es => match sameKey str k e.1 with
    | some true => some (some e.2)
    | some false => findA str k es
    | none => none

/-- The entries with one at its key; none: it is not there. -/
def updA (str : Bool) (k v : AV) : List (AV × AV) → Option (List (AV × AV))
  | [] => some [(k, v)]
  | e :: es => match sameKey str k e.1 with
    | some true => some ((e.1, v) :: es)
    | some false => (updA str k v es).map (e :: ·)
    | none => none

def ersA (str : Bool) (k : AV) : List (AV × AV) → Option (List (AV × AV))
  | [] => some []
  | e :: es => match sameKey str k e.1 with
    | some true => some es
    | some false => (ersA str k es).map (e :: ·)
    | none => none

def srcCells (H : AHeap) (esz n : Nat) : AV → Option (List AV)
  | .slc (some p) _ _ _ => cellsAt H p.1 p.2 (n * esz)
  | .slc none _ _ _ => some []
  | .str s => if esz = 1 then some ((s.extract 0 n).data.toList.map fun b => .int .u8 b.toNat) else none
  | _ => none

/-- A length: of a slice (0), a string (1), a map (2). -/
def lenA (H : AHeap) : Nat → AV → Option Nat
  | 0, .slc _ n _ _ => some n
  | 1, .str s => some s.size
  | 2, .map none => some 0
  | 2, .map (some r) => match H.get r with
    | some (.dict es) => some es.length
    | _ => none
  | _, _ => none

def sliceLen : AV → Option Nat
  | .slc _ n _ _ => some n
  | .str s => some s.size
  | _ => none

def appendA (H : AHeap) (s x : AV) (esz bytes : Nat) : Option (AV × AHeap) :=
  match s, sliceLen x with
  | .slc base len cap more, some n =>
    match srcCells H esz n x with
    | none => none
    | some new =>
      match Nat.beq new.length (n * esz) with
      | false => none
      | true =>
      match Nat.ble (len + n) cap with
      | true => match base with
        | none => match Nat.beq n 0 with
          | true => some (.slc base (len + n) cap more, H)
          | false => none
        | some p => match writeAt H p.1 (p.2 + len * esz) new with
          | some H' => some (.slc base (len + n) cap more, H')
          | none => none
      | false =>
        match Nat.ble ((len + n) * bytes) 1099511627776, Nat.ble (len + n) 1099511627776 with
        | true, true =>
          match allOne new with
          | false => none
          | true => match base with
            | none => match Nat.beq len 0, more with
              | true, false => some (.slc (some (H.next, 0)) (len + n) (len + n) true, H.new (.cells new true esz))
              | _, _ => none
            | some p => match more with
              | false => match cellsAt H p.1 p.2 (len * esz) with
                | some old => some (.slc (some (H.next, 0)) (len + n) (len + n) true, H.new (.cells (old ++ new) true esz))
                | none => none
              | true => match H.get p.1 with
                | some (.cells c true sp) =>
                  match Nat.beq p.2 0, Nat.beq sp esz, Nat.beq c.length (cap * esz), Nat.ble len cap with
                  | true, true, true, true => some (.slc (some (H.next, 0)) (len + n) (len + n) true, (H.del p.1).new (.cells (c.take (len * esz) ++ new) true esz))
                  | _, _, _, _ => none
                | _ => none
        | _, _ => none
  | _, _ => none

def copyA (H : AHeap) (d s : AV) (esz : Nat) : Option (AV × AHeap) :=
  match d, sliceLen s with
  | .slc base dl _ _, some sl =>
    let n := Nat.min sl dl
    match srcCells H esz n s with
    | none => none
    | some vs => match base with
      | none => some (.int .i64 n, H)
      | some p => (writeAt H p.1 p.2 vs).map fun H' => (.int .i64 n, H')
  | _, _ => none

def minmaxA (isMax : Bool) : AV → List AV → Option AV
  | x, [] => some x
  | .int k a, .int _ b :: l => minmaxA isMax (.int k (if (if isMax then a < b else b < a) then b else a)) l
  | _, _ => none

/-- Bytes as their numbers. -/
def bytesOf : List AV → Option (List Int)
  | [] => some []
  | .int .u8 n :: l => (bytesOf l).map (n :: ·)
  | _ => none

def b2sA (H : AHeap) : AV → Option AV
  | .slc none _ _ _ => some (.str .empty)
  | .slc (some p) len _ _ => match cellsAt H p.1 p.2 len with
    | none => none
    | some cs => (bytesOf cs).map fun ns => .str (ns.foldl (fun r n => r.push (UInt8.ofNat n.toNat)) ByteArray.empty)
  | _ => none

def stringA (s : ByteArray) (t : List AV) (lo hi : Option AOpd) : Option AV :=
  match boundO t hi s.size s.size with
  | none => none
  | some h => match boundO t lo 0 h with
    | none => none
    | some l => some (.str (s.extract l h))

/-- A map's entries. -/
def dictOf (H : AHeap) : AV → Option (List (AV × AV))
  | .map none => some []
  | .map (some r) => match H.get r with
    | some (.dict es) => some es
    | _ => none
  | _ => none

/-- An operation that leaves the heap alone. -/
def evalP (op : AOp) (t : List AV) (H : AHeap) : Option AV :=
  match op with
  | .mv x => some (x.ev t)
  | .pick c a b => match c.ev t with
    | .bool true => some (a.ev t)
    | .bool false => some (b.ev t)
    | _ => none
  | .build zero parts => (fillA zero (evParts t parts)).map .agg
  | .load x agg => loadA H (x.ev t) agg
  | .nilCheck x => match x.ev t with
    | .ptr (some p) => some (.ptr (some p))
    | .fn f a b => some (.fn f a b)
    | .map r => some (.map r)
    | _ => none
  | .bin op x y => binA op (x.ev t) (y.ev t)
  | .eqv neg k x y => (eqA k (x.ev t) (y.ev t)).map fun b => .bool (if neg then !b else b)
  | .un op x => unA op (x.ev t)
  | .conv k x => match x.ev t with
    | .int _ n => some (.int k (k.wrap n))
    | _ => none
  | .convF x => match x.ev t with
    | .int _ n => some (.flt (FloatKind.f64.nearest n))
    | _ => none
  | .b2s x => b2sA H (x.ev t)
  | .fieldAddr x off => match x.ev t with
    | .ptr (some p) => some (.ptr (some (p.1, p.2 + off)))
    | _ => none
  | .field x off agg => match x.ev t with
    | .agg c => partOf c off agg
    | _ => none
  | .idxA x i len esz => match x.ev t, i.ev t with
    | .ptr (some p), .int _ i => if 0 ≤ i ∧ i < len then some (.ptr (some (p.1, p.2 + i.toNat * esz))) else none
    | _, _ => none
  | .idxS x i esz => match x.ev t, i.ev t with
    | .slc (some p) len _ _, .int _ i => if 0 ≤ i ∧ i < len then some (.ptr (some (p.1, p.2 + i.toNat * esz))) else none
    | _, _ => none
  | .idxV x i len esz agg => match x.ev t, i.ev t with
    | .agg c, .int _ i => if 0 ≤ i ∧ i < len then partOf c (i.toNat * esz) agg else none
    | _, _ => none
  | .idxStr x i => match x.ev t, i.ev t with
    | .str s, .int _ i => if 0 ≤ i then match s[i.toNat]? with
      | some b => some (.int .u8 b.toNat)
      | none => none else none
    | _, _ => none
  | .slice x lo hi mx esz => match x.ev t with
    | .slc a len cap more => sliceA t a len cap more lo hi mx esz
    | _ => none
  | .sliceA x lo hi mx len esz => match x.ev t with
    | .ptr (some p) => sliceA t (some p) len len false lo hi mx esz
    | _ => none
  | .sliceStr x lo hi => match x.ev t with
    | .str s => stringA s t lo hi
    | _ => none
  | .lookup x k zero ok str =>
    match dictOf H (x.ev t) with
    | none => none
    | some es => match findA str (k.ev t) es with
      | none => none
      | some r => some (if ok then .tup [r.getD zero, .bool r.isSome] else r.getD zero)
  | .mkFn f a b => some (.fn f (evs t a) (evs t b))
  | .mkIface ty x => some (.iface ty (x.ev t))
  | .extract x i => match x.ev t with
    | .tup l => l[i]?
    | _ => none
  | .len k x => match lenA H k (x.ev t) with
    | some n => some (.int .i64 (n : Int))
    | none => none
  | .minmax isMax x rest => match x.ev t with
    | .int k a => minmaxA isMax (.int k a) (evs t rest)
    | _ => none
  | .ext k args => extA k (evs t args)
  | _ => none

abbrev CallF := FuncId → List AV → AHeap → Option (AV × AHeap)

/-- An operation that may change it. -/
def evalE (call rnd : CallF) (op : AOp) (t : List AV) (H : AHeap) : Option (AV × AHeap) :=
  match op with
  | .new cells => some (.ptr (some (H.next, 0)), H.new (.cells cells true 0))
  | .box x => some (.ptr (some (H.next, 0)), H.new (.cells (x.ev t).cells true 0))
  | .bslice zero len parts => match fillA zero (evParts t parts) with
    | some c => some (.slc (some (H.next, 0)) len len false, H.new (.cells c true 0))
    | none => none
  | .store a v n => match a.ev t with
    | .ptr (some p) => match Nat.beq (v.ev t).cells.length n with
      | true => (writeAt H p.1 p.2 (v.ev t).cells).map fun H' => (.undef, H')
      | false => none
    | _ => none
  | .mapUpd m k v str => match m.ev t with
    | .map (some r) => match H.get r with
      | some (.dict es) => (updA str (k.ev t) (v.ev t) es).map fun es' => (.undef, H.set r (.dict es'))
      | _ => none
    | _ => none
  | .delete m k str => match m.ev t with
    | .map (some r) => match H.get r with
      | some (.dict es) => (ersA str (k.ev t) es).map fun es' => (.tup [], H.set r (.dict es'))
      | _ => none
    | _ => none
  | .mkMap => some (.map (some H.next), H.new (.dict []))
  | .mkSlice len cap zero bytes => match len.ev t, cap.ev t with
    | .int .i64 l, .int .i64 c =>
      if 0 ≤ l ∧ l ≤ c ∧ c * bytes ≤ 1099511627776 ∧ c ≤ 1099511627776 then
        some (.slc (some (H.next, 0)) l.toNat c.toNat false, H.new (.cells (repeated zero (c.toNat * zero.length)) true 0))
      else none
    | _, _ => none
  | .append s x esz bytes => appendA H (s.ev t) (x.ev t) esz bytes
  | .copy d s esz => copyA H (d.ev t) (s.ev t) esz
  | .call f args => call f (evs t args) H
  | .callv x args => match x.ev t with
    | .fn f first captured => call f (first ++ evs t args ++ captured) H
    | .yld i => rnd i (evs t args) H
    | _ => none
  | .clear x zero => match x.ev t with
    | .slc none _ _ _ => some (.tup [], H)
    | .slc (some p) n _ _ => match Nat.beq n 0 with
      | true => some (.tup [], H)
      | false => (writeAt H p.1 p.2 (repeated zero (n * zero.length))).map fun H' => (.tup [], H')
    | _ => none
  | _ => none

def AOp.eff : AOp → Bool
  | .new _ | .box _ | .bslice .. | .store .. | .mapUpd .. | .delete .. | .mkMap | .mkSlice .. | .append .. | .copy .. | .call .. | .callv .. | .clear .. | .bad => true
  | _ => false

def putT (t : List AV) (d : Option Nat) (v : AV) : List AV :=
  match d with
  | none => t
  | some d => t.set d v

/-- Is the operation to be done? -/
def wantA (o : AOper) (t : List AV) : Bool :=
  match o.guard with
  | none => true
  | some g => match t[g.1]? with
    | some (.bool b) => b == g.2
    | _ => false

/-- An operation's value, and the heap behind it. -/
def evalV (call rnd : CallF) (o : AOper) (t : List AV) (H : AHeap) : Option (AV × AHeap) :=
  match wantA o t with
  | false => some (.undef, H)
  | true => match o.op.eff with
    | true => evalE call rnd o.op t H
    | false => match evalP o.op t H with
      | some v => some (v, H)
      | none => none

def evalO (call rnd : CallF) (o : AOper) (t : List AV) (H : AHeap) : Option (List AV × AHeap) :=
  match evalV call rnd o t H with
  | some r => some (putT t o.dst r.1, r.2)
  | none => none

def evalOs (call rnd : CallF) : List AOper → List AV → AHeap → Option (List AV × AHeap)
  | [], t, H => some (t, H)
  | o :: l, t, H => match evalO call rnd o t H with
    | some r => evalOs call rnd l r.1 r.2
    | none => none

mutual
/-- Are two values the same? (What is not asked answers no.) -/
def sameAV : AV → AV → Bool
  | .bool a, .bool b => a == b
  | .int k a, .int k' b => decide (k = k') && decide (a = b)
  | .flt a, .flt b => Nat.beq a b
  | .str a, .str b => decide (a = b)
  | .ptr none, .ptr none => true
  | .ptr (some p), .ptr (some q) => Nat.beq p.1 q.1 && Nat.beq p.2 q.2
  | .slc none l c m, .slc none l' c' m' => Nat.beq l l' && Nat.beq c c' && (m == m')
  | .slc (some p) l c m, .slc (some q) l' c' m' => Nat.beq p.1 q.1 && Nat.beq p.2 q.2 && Nat.beq l l' && Nat.beq c c' && (m == m')
  | .map none, .map none => true
  | .map (some p), .map (some q) => Nat.beq p q
  | .fn f a b, .fn f' a' b' => Nat.beq f f' && sameAVs a a' && sameAVs b b'
  | .nilFn, .nilFn => true
  | .iface t v, .iface t' v' => Nat.beq t t' && sameAV v v'
  | .nilIface, .nilIface => true
  | .agg a, .agg b => sameAVs a b
  | .tup a, .tup b => sameAVs a b
  | .yld i, .yld j => Nat.beq i j
  | _, _ => false
def sameAVs : List AV → List AV → Bool
  | [], [] => true
  | x :: l, y :: l' => sameAV x y && sameAVs l l'
  | _, _ => false
end

/-- The values of operations in the order of the text, each with the heap behind it. -/
def runD (call rnd : CallF) : List AOper → List AV → AHeap → Option (List (AV × AHeap))
  | [], _, _ => some []
  | o :: l, t, H => match evalV call rnd o t H with
    | some r => match runD call rnd l (putT t o.dst r.1) r.2 with
      | some rest => some (r :: rest)
      | none => none
    | none => none

def heapAt (H : AHeap) (tr : List (AV × AHeap)) : Nat → AHeap
  | 0 => H
  | p + 1 => match tr[p]? with
    | some r => r.2
    | none => H

/-- An operation that only reads gives the same at each place where it may stand. -/
def stableAt (H : AHeap) (tr : List (AV × AHeap)) (op : AOp) (t : List AV) (v : AV) : List Nat → Bool
  | [] => true
  | p :: ps => match evalP op t (heapAt H tr p) with
    | some u => sameAV u v && stableAt H tr op t v ps
    | none => false

def stableD (H : AHeap) (tr : List (AV × AHeap)) : List AOper → List (List Nat) → List (AV × AHeap) → List AV → Bool
  | o :: l, ps :: pl, r :: rl, t =>
    (o.op.eff || !wantA o t || stableAt H tr o.op t r.1 ps) && stableD H tr l pl rl (putT t o.dst r.1)
  | [], [], [], _ => true
  | _, _, _, _ => false

def tmpsD : List AOper → List (AV × AHeap) → List AV → List AV
  | o :: l, r :: rl, t => tmpsD l rl (putT t o.dst r.1)
  | _, _, t => t

abbrev Out := Option (AExit × List AV × AHeap)
abbrev Ev := ACode → List AV → AHeap → Out

def resA (H : AHeap) (t : List AV) : List ARes → Option (List AV)
  | [] => some []
  | .tmp n :: l => match resA H t l with
    | some vs => some (t.getD n .undef :: vs)
    | none => none
  | .cell a agg :: l => match loadA H (t.getD a .undef) agg, resA H t l with
    | some v, some vs => some (v :: vs)
    | _, _ => none

def resOf : List AV → AV
  | [v] => v
  | l => .tup l

def undefs : Nat → List AV
  | 0 => []
  | n + 1 => .undef :: undefs n

/-- The functions: code, or a meaning of their own. -/
inductive ADef where
  | code (f : AFn)
  | prim (f : List AV → AHeap → Option (AV × AHeap))

def callA (A : FuncId → Option ADef) (ev : Ev) : CallF := fun f args H =>
  match A f with
  | some (.code fn) => match ev fn.body (args ++ undefs (fn.ntmps - args.length)) H with
    | some (.norm, t, H') | some (.ret, t, H') => (resA H' t fn.res).map fun l => (resOf l, H')
    | _ => none
  | some (.prim g) => g args H
  | none => none

/-- The slots with a round's values put in. -/
def putPs : List Nat → List AV → List AV → List AV
  | p :: ps, v :: vs, t => putPs ps vs (t.set p v)
  | _, _, t => t

/-- How a record stands behind a round. -/
def LSt.behind : AExit → LSt
  | .norm => .ready
  | x => .done x

/-- A call of yield: a round. -/
def roundA (ev : Ev) : CallF := fun i args H =>
  match H.get i with
  | some (.loop .ready t ps asg body) => match Nat.beq args.length ps.length with
    | true => match ev asg (putPs ps args t) H with
      | some (.norm, t1, H1) => match H1.get i with
        | some (.loop .ready t2 ps2 asg2 body2) => match ev body t1 (H1.set i (.loop .busy t2 ps2 asg2 body2)) with
          | some (x, _, H2) => match H2.get i with
            | some (.loop .busy t3 ps3 asg3 body3) => some (.bool (match x with | .norm => true | _ => false), H2.set i (.loop (LSt.behind x) t3 ps3 asg3 body3))
            | _ => none
          | none => none
        | _ => none
      | _ => none
    | false => none
  | _ => none

/-- A range over a function. -/
def rangeA (call : CallF) (g : AV) (t : List AV) (ps : List Nat) (asg body : ACode) (H : AHeap) : Out :=
  match g with
  | .fn f first captured => match call f (first ++ [.yld H.next] ++ captured) (H.new (.loop .ready t ps asg body)) with
    | some r => match r.2.get H.next with
      | some (.loop .ready _ _ _ _) => some (.norm, t, r.2.del H.next)
      | some (.loop (.done x) _ _ _ _) => some (x, t, r.2.del H.next)
      | _ => none
    | none => none
  | _ => none

def stepA (A : FuncId → Option ADef) (ev : Ev) : Ev := fun c t H =>
  match c with
  | .skip => some (.norm, t, H)
  | .reg ops => match evalOs (callA A ev) (roundA ev) ops t H with
    | some r => some (.norm, r.1, r.2)
    | none => none
  | .dreg ops probes => match runD (callA A ev) (roundA ev) ops t H with
    | some tr => match stableD H tr ops probes tr t with
      | true => some (.norm, tmpsD ops tr t, heapAt H tr ops.length)
      | false => none
    | none => none
  | .seq a b => match ev a t H with
    | some (.norm, t', H') => ev b t' H'
    | r => r
  | .cond c a b => match c.ev t with
    | .bool true => ev a t H
    | .bool false => ev b t H
    | _ => none
  | .block id b => match ev b t H with
    | some (.exit j, t', H') => match Nat.beq j id with
      | true => some (.norm, t', H')
      | false => some (.exit j, t', H')
    | r => r
  | .loop b => match ev b t H with
    | some (.norm, t', H') => ev (.loop b) t' H'
    | r => r
  | .exit id => some (.exit id, t, H)
  | .ret => some (.ret, t, H)
  | .rangeF g ps asg body => rangeA (callA A ev) (g.ev t) t ps asg body H
  | .bad => none

def exec (A : FuncId → Option ADef) : Nat → Ev
  | 0 => fun _ _ _ => none
  | n + 1 => stepA A (exec A n)

end Go.AM
