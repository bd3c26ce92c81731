/- The reading of Go code over plain values: what each operation answers, without memory, order or room. -/
import Derived.CallsIn
import Derived.Laws.Sem
import Derived.KernelRfl
set_option linter.unusedVariables false
set_option linter.unusedSimpArgs false
set_option linter.unnecessarySimpa false
namespace Go.Sim

/-- A value, read as data: rows are lists, what nobody writes any more is what it holds. -/
inductive AV where
  | bool (b : Bool)
  | int (k : IntKind) (n : Int)
  | str (s : List UInt8)
  | nilptr
  | ptr (o off : Nat)
  | rptr (cells : List AV)
  | nils
  | row (sz : Nat) (tok : Option (Nat × Nat)) (cap : Option Nat) (xs : List AV)
  | arr (sz o off len : Nat) (cap : Option Nat)
  | nilmap
  | map (o : Nat)
  | func (fn : Fn) (first captured : List AV)
  | nilFunc
  | iface (t : TypeId) (v : AV)
  | nilIface
  | agg (cs : List AV)
  | tuple (vs : List AV)
  | uptr (t : Nat) (xs : List AV)
  | junk
  deriving Inhabited

/-- Not what several results are together. -/
def AV.noTuple : AV → Bool
  | .tuple _ | .junk => false
  | _ => true
def AV.cells : AV → List AV
  | .agg cs => cs
  | v => [v]

inductive AObj where
  | cells (xs : List AV)
  | tcells (t : TypeId) (n : Nat) (xs : List AV)
  | scells (xs : List AV)
  | map (es : List (AV × AV × Nat)) (clock : Nat)
  | siter (s : List UInt8) (pos : Nat)
  | loop (state : LoopState) (pending : Option Code) (f : FuncId) (tmps : List AV) (params : List Tmp) (assign body : Code)
  | dead
  deriving Inhabited

/-- Objects and rows' ends, the newest first. -/
structure Store where
  objs : List AObj
  nobj : Nat
  tops : List (Nat × TypeId)
  ntop : Nat
  deriving Inhabited

namespace Store
def empty : Store := ⟨[], 0, [], 0⟩
def get (s : Store) (o : Nat) : Option AObj := if o < s.nobj then s.objs[s.nobj - 1 - o]? else none
def set (s : Store) (o : Nat) (x : AObj) : Store := match s with | ⟨objs, nobj, tops, ntop⟩ => ⟨objs.set (nobj - 1 - o) x, nobj, tops, ntop⟩
def new (s : Store) (x : AObj) : Store := match s with | ⟨objs, nobj, tops, ntop⟩ => ⟨x :: objs, nobj + 1, tops, ntop⟩
def top (s : Store) (t : Nat) : Option (Nat × TypeId) := if t < s.ntop then s.tops[s.ntop - 1 - t]? else none
def setTop (s : Store) (t : Nat) (n : Nat × TypeId) : Store := match s with | ⟨objs, nobj, tops, ntop⟩ => ⟨objs, nobj, tops.set (ntop - 1 - t) n, ntop⟩
def newTop (s : Store) (n : Nat × TypeId) : Store := match s with | ⟨objs, nobj, tops, ntop⟩ => ⟨objs, nobj, n :: tops, ntop + 1⟩
def getCells (s : Store) (o : Nat) : Option (List AV) := match s.get o with | some (.cells xs) => some xs | some (.tcells _ _ xs) => some xs | some (.scells xs) => some xs | _ => none
/-- Cells are written: what is known of their type stays known. -/
def put (s : Store) (o : Nat) (xs : List AV) : Store := match s.get o with | some (.tcells t n _) => s.set o (.tcells t n xs) | some (.scells _) => s.set o (.scells xs) | _ => s.set o (.cells xs)
end Store

/-- How a function's boxes are read: which temporaries point into a box of its own; and how single operations are read. -/
structure Ann where
  base : Nat → Option Nat
  mode : Nat → Nat → Nat

inductive In where
  | val (v : AV)
  | loc (b off : Nat) (cells : List AV)
  deriving Inhabited

inductive Out where
  | val (v : AV)
  | loc (b off : Nat)
  | box (cells : List AV)
  | lst (b : Nat) (cells : List AV)
  deriving Inhabited

structure AFr where
  tmps : List AV
  offs : List (Option Nat)
  lbs : List (List AV)
  deriving Inhabited

def aundef : AV := .tuple []

/-! ### Constants, types -/
mutual
def absC : Value → Option AV
  | .bool b => some (.bool b)
  | .int k n => some (.int k n)
  | .string s => some (.str s.data.toList)
  | .pointer none => some .nilptr
  | .slice none 0 0 => some .nils
  | .map none => some .nilmap
  | .nilFunc => some .nilFunc
  | .nilIface => some .nilIface
  | .func (.func f) ⟨[]⟩ ⟨[]⟩ => some (.func (.func f) [] [])
  | .agg ⟨cs⟩ => match absCs cs with
    | some xs => if cs.all Value.oneCell' = true then some (.agg xs) else none
    | none => none
  | .tuple ⟨cs⟩ => match absCs cs with
    | some xs => some (.tuple xs)
    | none => none
  | _ => none
def absCs : List Value → Option (List AV)
  | [] => some []
  | v :: vs => match absC v with
    | some x => match absCs vs with
      | some xs => some (x :: xs)
      | none => none
    | none => none
end

/-- What is looked up of a program. -/
structure Look where
  und : TypeId → Option TypeDesc
  info : TypeId → Option TypeInfo
  fn : Nat → Option Func
  lies : TypeId → Nat → TypeId → Bool
def Look.of (P : Program) : Look := ⟨P.underlying, P.info?, fun f => P.funcs[f]?, fun e n u => liesAt P P.depth e (n / P.cellsOf e) 0 u 1⟩
instance : Coe Program Look := ⟨Look.of⟩
def aggT (P : Look) (t : TypeId) : Option Bool := match P.und t with
  | some (.struct _) | some (.array _ _) => some true
  | some _ => some false
  | none => none
def sizeT (P : Look) (t : TypeId) : Option Nat := match P.info t with
  | some i => some i.size
  | none => none
def bytesT (P : Look) (t : TypeId) : Option Nat := match P.info t with
  | some i => some i.bytes
  | none => none
def zeroT (P : Look) (t : TypeId) : Option AV := match P.info t with
  | some i => match i.zero with
    | some v => match absC v with
      | some x => if x.noTuple = true then some x else none
      | none => none
    | none => none
  | none => none
/-- A value of a type, out of its cells. -/
def mkT (P : Look) (t : TypeId) (cs : List AV) : Option AV := match aggT P t with
  | some true => some (.agg cs)
  | some false => match cs with
    | [c] => some c
    | _ => none
  | none => none
/-- n cells from a place on. -/
def cut (cs : List AV) (off n : Nat) : Option (List AV) := if off + n ≤ cs.length then some ((cs.drop off).take n) else none
/-- the same, with others there -/
def splice (cs : List AV) (off : Nat) (new : List AV) : Option (List AV) := if off + new.length ≤ cs.length then some (cs.take off ++ new ++ cs.drop (off + new.length)) else none

/-! ### Arithmetic -/
def bitsOf (op : BinOp) (k : IntKind) (x y : Int) : Option Int :=
  let a := BitVec.ofInt k.bits x
  let b := BitVec.ofInt k.bits y
  match op with
  | .and => some (k.wrap (a &&& b).toNat)
  | .or => some (k.wrap (a ||| b).toNat)
  | .xor => some (k.wrap (a ^^^ b).toNat)
  | .andNot => some (k.wrap (a &&& ~~~b).toNat)
  | _ => none
def intOp (op : BinOp) (k : IntKind) (x y : Int) : Option AV :=
  match op with
  | .add => some (.int k (k.wrap (x + y)))
  | .sub => some (.int k (k.wrap (x - y)))
  | .mul => some (.int k (k.wrap (x * y)))
  | .quo => if y = 0 then none else some (.int k (k.wrap (x.tdiv y)))
  | .rem => if y = 0 then none else some (.int k (x.tmod y))
  | .eql => some (.bool (x == y))
  | .neq => some (.bool (x != y))
  | .lss => some (.bool (decide (x < y)))
  | .leq => some (.bool (decide (x ≤ y)))
  | .gtr => some (.bool (decide (x > y)))
  | .geq => some (.bool (decide (x ≥ y)))
  | .shl | .shr => none
  | op => (match bitsOf op k x y with | some n => some (.int k n) | none => none)
def shiftOp (op : BinOp) (k : IntKind) (x y : Int) : Option AV :=
  if y < 0 then none else
  let n := min y.toNat k.bits
  match op with
  | .shl => some (.int k (k.wrap (x * 2 ^ n)))
  | .shr => some (.int k (x.fdiv (2 ^ n)))
  | _ => none
def strOp (op : BinOp) (x y : List UInt8) : Option AV :=
  match op with
  | .add => if x.length + y.length ≤ 9223372036854775807 then some (.str (x ++ y)) else none
  | .eql => some (.bool (x == y))
  | .neq => some (.bool (!(x == y)))
  | .lss => some (.bool (Op.bytesLess x y))
  | .leq => some (.bool (Op.bytesLess x y || x == y))
  | .gtr => some (.bool (!(Op.bytesLess x y || x == y)))
  | .geq => some (.bool (!(Op.bytesLess x y)))
  | _ => none
/-- '==' of what is no number and no text: of truths, or with nil. -/
def eqBool : AV → AV → Option Bool
  | .bool a, .bool b => some (a == b)
  | _, _ => none
def ptrNil : AV → Option Bool
  | .nilptr => some true
  | .ptr .. | .rptr _ => some false
  | _ => none
def sliceNil : AV → Option Bool
  | .nils => some true
  | .row .. | .arr .. => some false
  | _ => none
def mapNil : AV → Option Bool
  | .nilmap => some true
  | .map _ => some false
  | _ => none
def funcNil : AV → Option Bool
  | .nilFunc => some true
  | .func .. => some false
  | _ => none
def ifaceNil : AV → Option Bool
  | .nilIface => some true
  | .iface .. => some false
  | _ => none
/-- two, of which one is nil -/
def eqNil (a b : Option Bool) : Option Bool := match a with
  | some true => b
  | some false => (match b with
    | some true => some false
    | _ => none)
  | none => none
def eqV (P : Look) (t : TypeId) (x y : AV) : Option Bool :=
  match P.und t with
  | some .bool => eqBool x y
  | some (.pointer _) => eqNil (ptrNil x) (ptrNil y)
  | some (.slice _) => eqNil (sliceNil x) (sliceNil y)
  | some (.map _ _) => eqNil (mapNil x) (mapNil y)
  | some (.func _ _ _) => eqNil (funcNil x) (funcNil y)
  | some (.interface _) => (match ifaceNil x with
    | some true => (match ifaceNil y with | some false => some false | _ => none)
    | some false => (match ifaceNil y with | some true => some false | _ => none)
    | none => none)
  | _ => none
def isNilC : Operand → Bool
  | .const _ => true
  | _ => false
def intV (op : BinOp) (k k' : IntKind) (a b : Int) : Option AV := match op with
  | .shl => shiftOp .shl k a b
  | .shr => shiftOp .shr k a b
  | op => if k = k' then intOp op k a b else none
def otherV (P : Look) (t : TypeId) (op : BinOp) (x y : AV) : Option AV := match op with
  | .eql => (match eqV P t x y with | some b => some (.bool b) | none => none)
  | .neq => (match eqV P t x y with | some b => some (.bool (!b)) | none => none)
  | _ => none
def nilsV (op : BinOp) (c : Bool) : Option AV := match op with
  | .eql => if c = true then some (.bool true) else none
  | .neq => if c = true then some (.bool false) else none
  | _ => none
def binNil (P : Look) (t : TypeId) (op : BinOp) (c : Bool) : AV → Option AV
  | .nilIface => (match P.und t with
    | some (.interface _) => nilsV op c
    | _ => none)
  | y => otherV P t op .nilIface y
def binV (P : Look) (t : TypeId) (op : BinOp) (xo yo : Operand) (x y : AV) : Option AV :=
  match x with
  | .int k a => (match y with | .int k' b => intV op k k' a b | _ => none)
  | .str a => (match y with | .str b => strOp op a b | _ => none)
  | .nilIface => binNil P t op (isNilC xo || isNilC yo) y
  | x => otherV P t op x y
def unV (op : UnOp) (x : AV) : Option AV :=
  match op, x with
  | .neg, .int k n => some (.int k (k.wrap (0 - n)))
  | .xor, .int k n => (match bitsOf .xor k (if k.signed then -1 else k.max) n with | some n => some (.int k n) | none => none)
  | .not, .bool b => some (.bool !b)
  | _, _ => none
def asByte : AV → Option UInt8
  | .int .u8 n => some (UInt8.ofNat n.toNat)
  | _ => none
def asBytes : List AV → Option (List UInt8)
  | [] => some []
  | x :: xs => match asByte x with
    | some b => match asBytes xs with
      | some bs => some (b :: bs)
      | none => none
    | none => none
def bytesV (s : List UInt8) : List AV := s.map fun b => .int .u8 b.toNat
/-- The elements of what is no longer than some bytes. -/
def elemsOf (P : Look) (e : TypeId) (cs : List AV) : (n : Nat) → Option (List AV)
  | 0 => some []
  | n + 1 => match sizeT P e with
    | none => none
    | some sz => match cut cs 0 sz with
      | none => none
      | some c => match mkT P e c, elemsOf P e (cs.drop sz) n with
        | some x, some xs => some (x :: xs)
        | _, _ => none
/-- What a slice's elements are. -/
def readRow (P : Look) (e : TypeId) (st : Store) : AV → Option (List AV)
  | .nils => some []
  | .row s _ _ xs => if sizeT P e = some s then some xs else none
  | .arr sz o off len _ => if sizeT P e = some sz ∧ 0 < sz then (match st.getCells o with
    | some cs => (match cut cs off (len * sz) with
      | some c => elemsOf P e c len
      | none => none)
    | none => none) else none
  | .str s => if sizeT P e = some 1 then some (bytesV s) else none
  | _ => none
def flat (xs : List AV) : List AV := xs.flatMap AV.cells
def elemT (P : Look) (t : TypeId) : Option TypeId := match P.und t with
  | some (.slice e) => some e
  | _ => none
def maxBytes : Nat := 140737488355328

/-- append: to new memory -/
def freshV (md sz by_ : Nat) (e : TypeId) (all : List AV) (st : Store) : Option (AV × Store) :=
  if all.length * by_ ≤ maxBytes ∧ all.length ≤ maxBytes ∧ 0 < sz then
    (if md = 1 then some (.arr sz st.nobj 0 all.length none, st.new (.cells (flat all)))
    else some (.row sz (some (st.ntop, 0)) none all, st.newTop (all.length, e)))
  else none
/-- append: to a row, at its end -/
def growV (sz : Nat) (e : TypeId) (tok : Option (Nat × Nat)) (cap : Option Nat) (xs new : List AV) (st : Store) : Option (AV × Store) :=
  match tok with
  | some (t, off) => if st.top t = some (off + xs.length, e) then some (.row sz tok cap (xs ++ new), st.setTop t (off + xs.length + new.length, e)) else none
  | none => none
def appendRow (md sz by_ : Nat) (e : TypeId) (tok : Option (Nat × Nat)) (cap : Option Nat) (xs new : List AV) (st : Store) : Option (AV × Store) :=
  match cap with
  | some c => if c < xs.length + new.length then freshV md sz by_ e (xs ++ new) st else growV sz e tok cap xs new st
  | none => if (xs.length + new.length) * by_ ≤ maxBytes ∧ xs.length + new.length ≤ maxBytes then growV sz e tok cap xs new st else none
def appendArr (md sz by_ : Nat) (e : TypeId) (o off len : Nat) (cap : Option Nat) (xs new : List AV) (st : Store) : Option (AV × Store) :=
  match cap with
  | some c => if c < len + new.length then freshV md sz by_ e (xs ++ new) st
    else (match st.getCells o with
      | some cs => (match splice cs (off + len * sz) (flat new) with
        | some cs' => some (.arr sz o off (len + new.length) cap, st.put o cs')
        | none => none)
      | none => none)
  | none => (match st.get o with
    | some (.cells cs) => if off = 0 ∧ cs.length = len * sz then freshV 1 sz by_ e (xs ++ new) (st.set o .dead) else none
    | _ => none)
def appendV (P : Look) (md : Nat) (e : TypeId) (s : AV) (new : List AV) (st : Store) : Option (AV × Store) :=
  match bytesT P e with
  | some by_ => (match sizeT P e with
    | some sz => (match zeroT P e with
      | some z => if z.cells.length = sz ∧ 0 < sz then (match readRow P e st s with
        | some xs => if new.isEmpty = true then (match s with | .str _ => none | s => some (s, st)) else
          (match s with
          | .nils => freshV md sz by_ e new st
          | .row _ tok cap xs => appendRow md sz by_ e tok cap xs new st
          | .arr _ o off len cap => appendArr md sz by_ e o off len cap xs new st
          | _ => none)
        | none => none) else none
      | none => none)
    | none => none)
  | none => none

/-- copy -/
def copyV (d : AV) (src : List AV) (st : Store) : Option (AV × Store) :=
  match d with
  | .nils => some (.int .i64 0, st)
  | .arr _ o off len _ => match st.getCells o with
    | some cs => match splice cs off (flat (src.take len)) with
      | some cs' => some (.int .i64 (min src.length len : Nat), st.put o cs')
      | none => none
    | none => none
  | .row _ _ _ xs => if min src.length xs.length = 0 then some (.int .i64 0, st) else none
  | _ => none

/-! ### Maps -/
def sameInt : AV → AV → Option Bool
  | .int k a, .int k' b => if k = k' then some (a == b) else none
  | _, _ => none
def sameStr : AV → AV → Option Bool
  | .str a, .str b => some (a == b)
  | _, _ => none
def sameBool : AV → AV → Option Bool
  | .bool a, .bool b => some (a == b)
  | _, _ => none
def sameKey (d : TypeDesc) (x y : AV) : Option Bool := match d with
  | .int _ => sameInt x y
  | .string => sameStr x y
  | .bool => sameBool x y
  | _ => none
def findK (d : TypeDesc) (k : AV) : List (AV × AV × Nat) → Nat → Option (Option (Nat × AV))
  | [], _ => some none
  | e :: es, i => match sameKey d k e.1 with
    | some true => some (some (i, e.2.1))
    | some false => findK d k es (i + 1)
    | none => none
def keyT (P : Look) (t : TypeId) : Option (TypeDesc × TypeId) := match P.und t with
  | some (.map k e) => (match P.und k with
    | some d => some (d, e)
    | none => none)
  | _ => none

/-- An index: a number from 0 on, below. -/
def idx (v : AV) (n : Nat) : Option Nat := match v with
  | .int _ i => if 0 ≤ i ∧ i < n then some i.toNat else none
  | _ => none
def bnd (v : Option AV) (d n : Nat) : Option Nat := match v with
  | none => some d
  | some (.int _ i) => if 0 ≤ i ∧ i ≤ n then some i.toNat else none
  | _ => none
/-- An optional operand's value. -/
def takeO (o : Option Operand) (ins : List In) : Option (Option AV × List In) := match o with
  | none => some (none, ins)
  | some _ => match ins with
    | .val v :: r => some (some v, r)
    | _ => none

/-- from l up to h, of what may be cut up to m -/
def bounds (lo hi : Option AV) (len m : Nat) : Option (Nat × Nat) := match bnd hi len m with
  | some h => (match bnd lo 0 h with
    | some l => some (l, h)
    | none => none)
  | none => none
def sliceStr (s : List UInt8) (lo hi : Option AV) : Option AV := match bounds lo hi s.length s.length with
  | some (l, h) => some (.str ((s.drop l).take (h - l)))
  | none => none
/-- The most that it may be cut up to: if it is not told, its length at most is taken. -/
def capOf (mx : Option AV) (len : Nat) (cap : Option Nat) : Option (Option Nat) := match mx with
  | none => some cap
  | some v => (match bnd (some v) 0 (cap.getD len) with
    | some m => some (some m)
    | none => none)
def sliceRow (sz : Nat) (tok : Option (Nat × Nat)) (cap : Option Nat) (xs : List AV) (lo hi mx : Option AV) : Option AV := match capOf mx xs.length cap with
  | some m => (match bounds lo hi xs.length (min xs.length (m.getD xs.length)) with
    | some (l, h) => some (.row sz (match tok with | some (t, p) => some (t, p + l) | none => none) (match m with | some c => some (c - l) | none => none) ((xs.drop l).take (h - l)))
    | none => none)
  | none => none
def sliceArr (sz o off len : Nat) (cap : Option Nat) (lo hi mx : Option AV) : Option AV := match capOf mx len cap with
  | some m => (match bounds lo hi len (m.getD len) with
    | some (l, h) => if m = some l then some (.arr sz o off (h - l) (some 0)) else if m = none ∧ l = len ∧ 0 < l then none else some (.arr sz o (off + l * sz) (h - l) (match m with | some c => some (c - l) | none => none))
    | none => none)
  | none => none
def sliceV (P : Look) (t : TypeId) (st : Store) (x : AV) (lo hi mx : Option AV) : Option AV :=
  match x with
  | .str s => (match P.und t with
    | some .string => (match mx with
      | some _ => none
      | none => sliceStr s lo hi)
    | _ => none)
  | .nils => (match elemT P t with
    | some e => (match sizeT P e with
      | some _ => (match capOf mx 0 (some 0) with
        | some m => (match bounds lo hi 0 (m.getD 0) with
          | some _ => some .nils
          | none => none)
        | none => none)
      | none => none)
    | none => none)
  | .row s tok cap xs => (match elemT P t with
    | some e => if sizeT P e = some s then sliceRow s tok cap xs lo hi mx else none
    | none => none)
  | .arr s o off len cap => (match elemT P t with
    | some e => if sizeT P e = some s then sliceArr s o off len cap lo hi mx else none
    | none => none)
  | .ptr o off => (match P.und t with
    | some (.array n e) => (match sizeT P e with
      | some sz => (match st.getCells o with
        | some cs => if 0 < sz ∧ off + n * sz ≤ cs.length then sliceArr sz o off n (some n) lo hi mx else none
        | none => none)
      | none => none)
    | _ => none)
  | _ => none

def fieldsT (P : Look) (t : TypeId) (f : Nat) : Option (Nat × TypeId) := match P.und t with
  | some (.struct fs) => match fs[f]? with
    | some x => some (x.offset, x.type)
    | none => none
  | _ => none

/-- Parts laid into cells. -/
def fillV (place : Nat → Option (Nat × Nat)) : List (Nat × AV) → List AV → Option (List AV)
  | [], cs => some cs
  | (i, v) :: r, cs => match place i with
    | none => none
    | some (off, sz) => if v.cells.length = sz ∧ v.noTuple = true then match splice cs off v.cells with
        | some cs' => fillV place r cs'
        | none => none
      else none
def valsOf : List In → Option (List AV)
  | [] => some []
  | .val v :: r => match valsOf r with
    | some vs => some (v :: vs)
    | none => none
  | .loc .. :: _ => none

def convInt (k : IntKind) (st : Store) : AV → Option (AV × Store)
  | .int _ n => some (.int k (k.wrap n), st)
  | _ => none
/-- The bytes of a text, in new memory. -/
def bytesOf (P : Look) (e : TypeId) (st : Store) : AV → Option (AV × Store)
  | .str t => (match P.und e with
    | some (.int .u8) => some (.arr 1 st.nobj 0 t.length none, st.new (.scells (bytesV t)))
    | _ => none)
  | _ => none
def strOf (P : Look) (e : TypeId) (st : Store) (y : AV) : Option (AV × Store) :=
  match P.und e with
  | some (.int .u8) => (match sizeT P e with
    | some 1 => (match readRow P e st y with
      | some xs => (match asBytes xs with
        | some b => some (.str b, st)
        | none => none)
      | none => none)
    | _ => none)
  | _ => none
def convStr (P : Look) (s : TypeDesc) (st : Store) : AV → Option (AV × Store)
  | .str t => some (.str t, st)
  | y => (match s with
    | .slice e => strOf P e st y
    | _ => none)
/-- A pointer without its type, and back: at the head of an object whose type is told. -/
def toUnsafe (P : Look) (s : TypeDesc) (st : Store) : AV → Option (AV × Store)
  | .ptr o 0 => (match s with
    | .pointer t => (match sizeT P t with
      | some sz => (match st.get o with
        | some (.tcells _ n _) => if sz ≠ 0 ∧ 0 < n then some (.ptr o 0, st) else none
        | _ => none)
      | none => none)
    | _ => none)
  | _ => none
def fromUnsafe (P : Look) (s : TypeDesc) (u : TypeId) (st : Store) : AV → Option (AV × Store)
  | .ptr o 0 => (match s with
    | .unsafePointer => (match sizeT P u with
      | some _ => (match st.get o with
        | some (.tcells e n _) => if P.lies e n u = true then some (.ptr o 0, st) else none
        | _ => none)
      | none => none)
    | _ => none)
  | _ => none
def convV (P : Look) (src dst : TypeId) (x : AV) (st : Store) : Option (AV × Store) :=
  match P.und src with
  | some s => (match P.und dst with
    | some (.int k) => convInt k st x
    | some .string => convStr P s st x
    | some (.slice e) => bytesOf P e st x
    | some .unsafePointer => toUnsafe P s st x
    | some (.pointer u) => fromUnsafe P s u st x
    | _ => none)
  | none => none

/-- Rows in place of what is never written any more (top level, or a struct's parts). -/
def freezeCells (P : Look) (et : Nat → Option TypeId) : List AV → Nat → Store → Option (List AV × Store)
  | [], _, st => some ([], st)
  | x :: xs, i, st => match x with
    | .arr sz o off len cap => match et i with
      | none => none
      | some e => match readRow P e st (.arr sz o off len cap) with
        | none => none
        | some ys => match freezeCells P et xs (i + 1) (st.set o .dead) with
          | some (zs, st') => some (.row sz none none ys :: zs, st')
          | none => none
    | _ => match freezeCells P et xs (i + 1) st with
      | some (zs, st') => some (x :: zs, st')
      | none => none
def freezeV (P : Look) (t : TypeId) (v : AV) (st : Store) : Option (AV × Store) :=
  match v with
  | .agg cs => match freezeCells P (fun i => match fieldsT P t i with | some (_, ft) => elemT P ft | none => none) cs 0 st with
    | some (cs', st') => some (.agg cs', st')
    | none => none
  | v => match freezeCells P (fun _ => elemT P t) [v] 0 st with
    | some ([x], st') => some (x, st')
    | _ => none

def aundefO : Out := .val aundef

/-! ### The operations, one by one -/
abbrev Ans := Option (Out × Store)
def ret1 (v : AV) (st : Store) : Ans := some (.val v, st)

def aMove (P : Look) (md : Nat) (type : TypeId) : List In → Store → Ans
  | [.val v], st => if md = 2 then (match freezeV P type v st with
    | some r => some (.val r.1, r.2)
    | none => none) else some (.val v, st)
  | [.loc b off _], st => some (.loc b off, st)
  | _, _ => none
def aPick : List In → Store → Ans
  | [.val (.bool c), .val a, .val b], st => some (.val (bif c then a else b), st)
  | _, _ => none
def aAlloc (P : Look) (md : Nat) (t : TypeId) (st : Store) : Ans :=
  match zeroT P t with
  | some z => if md = 1 then some (.box z.cells, st) else if md = 3 then some (.val (.ptr st.nobj 0), st.new (.tcells t z.cells.length z.cells)) else some (.val (.ptr st.nobj 0), st.new (.cells z.cells))
  | none => none
def aBox (md : Nat) : List In → Store → Ans
  | [.val v], st => if v.noTuple = true then
      (if md = 1 then some (.box v.cells, st)
      else if md = 2 then some (.val (.rptr v.cells), st)
      else some (.val (.ptr st.nobj 0), st.new (.cells v.cells)))
    else none
  | _, _ => none
def placeS (P : Look) (fs : Array Field) (i : Nat) : Option (Nat × Nat) := match fs[i]? with
  | some f => match sizeT P f.type with
    | some sz => some (f.offset, sz)
    | none => none
  | none => none
def placeA (sz : Nat) (i : Nat) : Option (Nat × Nat) := some (i * sz, sz)
def aBuild (P : Look) (t : TypeId) (ps : List Nat) (vs : List AV) (st : Store) : Ans :=
  match zeroT P t with
  | some z => (match P.und t with
    | some (.struct fs) => if fs.all (fun f => (sizeT P f.type).isSome) = true then (match fillV (placeS P fs) (ps.zip vs) z.cells with
        | some cs => some (.val (.agg cs), st)
        | none => none)
      else none
    | some (.array _ e) => (match sizeT P e with
      | some sz => (match fillV (placeA sz) (ps.zip vs) z.cells with
        | some cs => some (.val (.agg cs), st)
        | none => none)
      | none => none)
    | _ => none)
  | none => none
def aBuildSlice (P : Look) (md : Nat) (t : TypeId) (len : Nat) (ps : List Nat) (vs : List AV) (st : Store) : Ans :=
  match elemT P t with
  | some e => (match sizeT P e with
    | some sz => (match zeroT P e with
      | some z => if len * sz ≤ 16777216 ∧ z.cells.length = sz ∧ 0 < sz then
          (match fillV (placeA sz) (ps.zip vs) (flat (List.replicate len z)) with
          | some cs => if md = 1 then some (.val (.arr sz st.nobj 0 len (some len)), st.new (.cells cs))
            else (match elemsOf P e cs len with
              | some xs => some (.val (.row sz none (some len) xs), st)
              | none => none)
          | none => none)
        else none
      | none => none)
    | none => none)
  | none => none
def loadCs (st : Store) (sz : Nat) : In → Option (List AV)
  | .val (.ptr o off) => (match st.getCells o with
    | some cs => cut cs off sz
    | none => none)
  | .val (.rptr cs) => cut cs 0 sz
  | .loc _ off cs => cut cs off sz
  | _ => none
def aLoad (P : Look) (md : Nat) (t : TypeId) : List In → Store → Ans
  | [x], st => (match sizeT P t with
    | some sz => (match loadCs st sz x with
      | some cs => (match mkT P t cs with
        | some v => if md = 2 then (match freezeV P t v st with
          | some r => some (.val r.1, r.2)
          | none => none) else some (.val v, st)
        | none => none)
      | none => none)
    | none => none)
  | _, _ => none
def storeCs (v : AV) (st : Store) : In → Ans
  | .val (.ptr o off) => (match st.getCells o with
    | some cs => (match splice cs off v.cells with
      | some cs' => some (aundefO, st.put o cs')
      | none => none)
    | none => none)
  | .loc b off cs => (match splice cs off v.cells with
    | some cs' => some (.lst b cs', st)
    | none => none)
  | _ => none
def aStore (P : Look) (t : TypeId) : List In → Store → Ans
  | [x, .val v], st => (match sizeT P t with
    | some sz => if v.cells.length = sz ∧ v.noTuple = true then storeCs v st x else none
    | none => none)
  | _, _ => none
def notNil : AV → Bool
  | .ptr .. | .rptr _ | .iface .. | .func (.func _) _ _ => true
  | _ => false
def aNilCheck : List In → Store → Ans
  | [.val v], st => if notNil v then some (.val v, st) else none
  | [.loc b off _], st => some (.loc b off, st)
  | _, _ => none
/-- A pointer held against itself. -/
def ptrBin (P : Look) (t : TypeId) (op : BinOp) : AV → AV → Store → Ans
  | .ptr o off, .ptr o' off', st => (match P.und t with
    | some (.pointer te) => (match sizeT P te with
      | some _ => (match st.getCells o with
        | some _ => if o = o' ∧ off = off' then (match op with
            | .eql => some (.val (.bool true), st)
            | .neq => some (.val (.bool false), st)
            | _ => none) else none
        | none => none)
      | none => none)
    | _ => none)
  | _, _, _ => none
def aBin (P : Look) (t : TypeId) (op : BinOp) (x y : Operand) : List In → Store → Ans
  | [.val a, .val b], st => (match binV P t op x y a b with
    | some v => some (.val v, st)
    | none => ptrBin P t op a b st)
  | _, _ => none
def aUn (op : UnOp) : List In → Store → Ans
  | [.val a], st => (match unV op a with
    | some v => some (.val v, st)
    | none => none)
  | _, _ => none
/-- Boxes that nobody writes any more, as they are captured. -/
def freezePtrs : List AV → Store → Option (List AV × Store)
  | [], st => some ([], st)
  | .ptr o off :: r, st => (match st.getCells o with
    | some cs => if off = 0 then (match freezePtrs r (st.set o .dead) with
      | some q => some (.rptr cs :: q.1, q.2)
      | none => none) else none
    | none => none)
  | v :: r, st => (match freezePtrs r st with
    | some q => some (v :: q.1, q.2)
    | none => none)
def aMakeFunc (md : Nat) (fn : Fn) (n : Nat) (vs : List AV) (st : Store) : Ans := match fn with
  | .func f => if md = 2 then (match freezePtrs vs st with
      | some q => some (.val (.func (.func f) (q.1.take n) (q.1.drop n)), q.2)
      | none => none)
    else some (.val (.func (.func f) (vs.take n) (vs.drop n)), st)
  | _ => none
def aConv (P : Look) (s d : TypeId) : List In → Store → Ans
  | [.val a], st => (match convV P s d a st with
    | some r => some (.val r.1, r.2)
    | none => none)
  | _, _ => none
def aIface (P : Look) (t : TypeId) : List In → Store → Ans
  | [.val a], st => (match P.und t with
    | some (.interface _) => none
    | some _ => some (.val (.iface t a), st)
    | none => none)
  | _, _ => none
def aMakeSlice (P : Look) (md : Nat) (t : TypeId) : List In → Store → Ans
  | [.val (.int _ l), .val (.int _ c)], st => (match elemT P t with
    | some e => (match sizeT P e with
      | some sz => (match bytesT P e with
        | some by_ => (match zeroT P e with
          | some z =>
            if 0 ≤ l ∧ l ≤ c ∧ c ≤ 140737488355328 ∧ c.toNat * by_ ≤ maxBytes ∧ z.cells.length = sz ∧ 0 < sz then
              (if md = 1 then some (.val (.row sz (some (st.ntop, 0)) (some c.toNat) (List.replicate l.toNat z)), st.newTop (l.toNat, e))
              else some (.val (.arr sz st.nobj 0 l.toNat (some c.toNat)), st.new (.cells (flat (List.replicate c.toNat z)))))
            else none
          | none => none)
        | none => none)
      | none => none)
    | none => none)
  | _, _ => none
def aSlice (P : Look) (t : TypeId) (lo hi mx : Option Operand) : List In → Store → Ans
  | .val x :: r, st => if mx.isSome = true ∧ hi.isNone = true then none else (match takeO lo r with
    | some (l, r) => (match takeO hi r with
      | some (h, r) => (match takeO mx r with
        | some (m, []) => (match sliceV P t st x l h m with
          | some v => some (.val v, st)
          | none => none)
        | _ => none)
      | none => none)
    | none => none)
  | _, _ => none
def addrBy (n : Nat) (st : Store) : In → Ans
  | .val (.ptr o a) => some (.val (.ptr o (a + n)), st)
  | .val (.rptr cs) => some (.val (.rptr (cs.drop n)), st)
  | .loc b a _ => some (.loc b (a + n), st)
  | _ => none
def aFieldAddr (P : Look) (s : TypeId) (f : Nat) : List In → Store → Ans
  | [x], st => (match fieldsT P s f with
    | some (off, ft) => (match sizeT P ft with
      | some sz => if 0 < sz then addrBy off st x else none
      | none => none)
    | none => none)
  | _, _ => none
def partV (P : Look) (t : TypeId) (cs : List AV) (off : Nat) (st : Store) : Ans :=
  match sizeT P t with
  | some sz => (match cut cs off sz with
    | some c => (match mkT P t c with
      | some v => some (.val v, st)
      | none => none)
    | none => none)
  | none => none
def aField (P : Look) (s : TypeId) (f : Nat) : List In → Store → Ans
  | [.val (.agg cs)], st => (match fieldsT P s f with
    | some (off, ft) => partV P ft cs off st
    | none => none)
  | _, _ => none
def elemAddr (sz : Nat) (i : AV) (st : Store) : In → Ans
  | .val (.row s _ _ xs) => if s = sz then (match idx i xs.length with
    | some j => (match xs[j]? with
      | some y => some (.val (.rptr y.cells), st)
      | none => none)
    | none => none) else none
  | .val (.arr s o off len _) => if s = sz then (match idx i len with
    | some j => some (.val (.ptr o (off + j * sz)), st)
    | none => none) else none
  | _ => none
def aIndexAddr (P : Look) (t : TypeId) : List In → Store → Ans
  | [x, .val i], st => (match P.und t with
    | some (.slice e) => (match sizeT P e with
      | some sz => elemAddr sz i st x
      | none => none)
    | some (.array n e) => (match sizeT P e with
      | some sz => (match idx i n with
        | some j => addrBy (j * sz) st x
        | none => none)
      | none => none)
    | _ => none)
  | _, _ => none
def indexS (i : AV) (st : Store) : AV → Ans
  | .str s => (match idx i s.length with
    | some j => (match s[j]? with
      | some b => some (.val (.int .u8 b.toNat), st)
      | none => none)
    | none => none)
  | _ => none
def indexC (P : Look) (n : Nat) (e : TypeId) (i : AV) (st : Store) : AV → Ans
  | .agg cs => (match sizeT P e with
    | some sz => (match idx i n with
      | some j => partV P e cs (j * sz) st
      | none => none)
    | none => none)
  | _ => none
def aIndex (P : Look) (t : TypeId) : List In → Store → Ans
  | [.val x, .val i], st => (match P.und t with
    | some .string => indexS i st x
    | some (.array n e) => indexC P n e i st x
    | _ => none)
  | _, _ => none
def entriesOf (st : Store) : AV → Option (List (AV × AV × Nat))
  | .nilmap => some []
  | .map o => (match st.get o with
    | some (.map es _) => some es
    | _ => none)
  | _ => none
def aLookup (P : Look) (t : TypeId) (ok : Bool) : List In → Store → Ans
  | [.val m, .val k], st => (match keyT P t with
    | some (d, et) => (match sameKey d k k with
      | some _ => (match entriesOf st m with
        | some es => (match findK d k es 0 with
          | some (some (_, v)) => some (.val (bif ok then .tuple [v, .bool true] else v), st)
          | some none => (match zeroT P et with
            | some z => some (.val (bif ok then .tuple [z, .bool false] else z), st)
            | none => none)
          | none => none)
        | none => none)
      | none => none)
    | none => none)
  | _, _ => none
def aMapSet (P : Look) (t : TypeId) : List In → Store → Ans
  | [.val (.map o), .val k, .val v], st => (match keyT P t with
    | some (d, _) => (match sameKey d k k with
      | some _ => (match st.get o with
        | some (.map es clock) => (match findK d k es 0 with
          | some (some (i, _)) => some (aundefO, st.set o (.map (es.modify i fun e => (k, v, e.2.2)) clock))
          | some none => some (aundefO, st.set o (.map (es ++ [(k, v, clock)]) (clock + 1)))
          | none => none)
        | _ => none)
      | none => none)
    | none => none)
  | _, _ => none
def aExtract (i : Nat) : List In → Store → Ans
  | [.val (.tuple vs)], st => (match vs[i]? with
    | some v => some (.val v, st)
    | none => none)
  | _, _ => none
def aRange (P : Look) (t : TypeId) : List In → Store → Ans
  | [.val (.str s)], st => (match P.und t with
    | some .string => some (.val (.ptr st.nobj 0), st.new (.siter s 0))
    | _ => none)
  | _, _ => none
def aNext : List In → Store → Ans
  | [.val (.ptr o 0)], st => (match st.get o with
    | some (.siter s pos) => if pos < s.length then
        some (.val (.tuple [.bool true, .int .i64 pos, .int .i32 (Utf8.decode ⟨s.toArray⟩ pos).1]), st.set o (.siter s (pos + (Utf8.decode ⟨s.toArray⟩ pos).2)))
      else some (.val (.tuple [.bool false]), st)
    | _ => none)
  | _, _ => none
/-- What len asks for, by the type. -/
def lenV (st : Store) (d : TypeDesc) (x : AV) : Option Nat := match d with
  | .string => (match x with | .str s => some s.length | _ => none)
  | .slice _ => (match x with | .nils => some 0 | .row _ _ _ xs => some xs.length | .arr _ _ _ n _ => some n | _ => none)
  | .map _ _ => (match entriesOf st x with | some es => some es.length | none => none)
  | .array n _ => some n
  | _ => none
def aLen (P : Look) (t : TypeId) : List In → Store → Ans
  | [.val x], st => (match P.und t with
    | some d => (match lenV st d x with
      | some n => some (.val (.int .i64 n), st)
      | none => none)
    | none => none)
  | _, _ => none
def capV : AV → Option Nat
  | .nils => some 0
  | .row _ _ c _ => c
  | .arr _ _ _ _ c => c
  | _ => none
def aCap (P : Look) (t : TypeId) : List In → Store → Ans
  | [.val x], st => (match elemT P t with
    | some _ => (match capV x with
      | some n => some (.val (.int .i64 n), st)
      | none => none)
    | none => none)
  | _, _ => none
def ansV : Option (AV × Store) → Ans
  | some r => some (.val r.1, r.2)
  | none => none
def isIntT (P : Look) (t : TypeId) : Option Bool := match P.und t with
  | some (.int _) => some true
  | some (.slice _) => some false
  | some .string => some false
  | _ => none
/-- So many zeros, for 'append(s, make([]T, n)...)'. -/
def zerosV (P : Look) (e : TypeId) : AV → Option (List AV)
  | .int _ n => (match sizeT P e with
    | some sz => (match bytesT P e with
      | some by_ => (match zeroT P e with
        | some z => if 0 ≤ n ∧ n ≤ 140737488355328 ∧ n.toNat * by_ ≤ maxBytes ∧ z.cells.length = sz then some (List.replicate n.toNat z) else none
        | none => none)
      | none => none)
    | none => none)
  | _ => none
def aAppend (P : Look) (md : Nat) (t t1 : TypeId) : List In → Store → Ans
  | [.val s, .val x], st => (match elemT P t with
    | some e => (match isIntT P t1 with
      | some true => (match zerosV P e x with
        | some xs => ansV (appendV P md e s xs st)
        | none => none)
      | some false => (match readRow P e st x with
        | some xs => ansV (appendV P md e s xs st)
        | none => none)
      | none => none)
    | none => none)
  | _, _ => none
def elSize (sz : Nat) : AV → Bool
  | .arr s _ _ _ _ => s == sz
  | _ => true
def aCopy (P : Look) (t : TypeId) : List In → Store → Ans
  | [.val d, .val x], st => (match elemT P t with
    | some e => (match sizeT P e with
      | some sz => (match readRow P e st x with
        | some xs => if elSize sz d = true then ansV (copyV d xs st) else none
        | none => none)
      | none => none)
    | none => none)
  | _, _ => none
def aMin : List In → Store → Ans
  | [.val (.int k x), .val (.int _ y)], st => some (.val (.int k (if y < x then y else x)), st)
  | _, _ => none
def aMax : List In → Store → Ans
  | [.val (.int k x), .val (.int _ y)], st => some (.val (.int k (if y > x then y else x)), st)
  | _, _ => none
def aSliceData : List In → Store → Ans
  | [.val .nils], st => some (.val .nilptr, st)
  | [.val (.row 1 (some (t, 0)) _ (x :: xs))], st => some (.val (.uptr t (x :: xs)), st)
  | _, _ => none
def asByteN : AV → Option UInt8
  | .int .u8 (.ofNat m) => if m < 256 then some (UInt8.ofNat m) else none
  | _ => none
def asBytesN : List AV → Option (List UInt8)
  | [] => some []
  | x :: xs => (match asByteN x with
    | some b => (match asBytesN xs with
      | some bs => some (b :: bs)
      | none => none)
    | none => none)
def aUnsafeStr (P : Look) (pt : TypeId) : List In → Store → Ans
  | [.val (.uptr t xs), .val (.int .i64 n)], st => if n = xs.length ∧ xs.length ≤ 9223372036854775807 ∧ xs ≠ [] then (match P.und pt with
    | some (.pointer e) => (match sizeT P e with
      | some 1 => (match st.top t with
        | some (_, e') => if e' = e then (match asBytesN xs with
          | some bs => some (.val (.str bs), st)
          | none => none) else none
        | none => none)
      | _ => none)
    | _ => none) else none
  | [.val .nilptr, .val (.int .i64 n)], st => if n = 0 then some (.val (.str []), st) else none
  | _, _ => none
def aBuiltin (P : Look) (md : Nat) (b : Builtin) (ts : Array TypeId) (ins : List In) (st : Store) : Ans :=
  match b with
  | .len => (match ts[0]? with | some t => aLen P t ins st | none => none)
  | .cap => (match ts[0]? with | some t => aCap P t ins st | none => none)
  | .append => (match ts[0]? with | some t => (match ts[1]? with | some t1 => aAppend P md t t1 ins st | none => none) | none => none)
  | .copy => (match ts[0]? with | some t => aCopy P t ins st | none => none)
  | .min => aMin ins st
  | .max => aMax ins st
  | .unsafeSliceData => aSliceData ins st
  | .unsafeString => (match ts.toList with
    | [pt, _] => aUnsafeStr P pt ins st
    | _ => none)
  | _ => none

/-- What an operation that calls no function answers. md: how it is read. -/
def aop (P : Look) (md : Nat) (type : TypeId) (o : Op) (ins : List In) (st : Store) : Ans :=
  match o with
  | .move _ => aMove P md type ins st
  | .assign _ => aMove P md type ins st
  | .pick _ _ _ => aPick ins st
  | .alloc t => aAlloc P md t st
  | .box _ _ => aBox md ins st
  | .build t ps => (match valsOf ins with
    | some vs => aBuild P t (ps.toList.map (·.1)) vs st
    | none => none)
  | .buildSlice t len ps => (match valsOf ins with
    | some vs => aBuildSlice P md t len (ps.toList.map (·.1)) vs st
    | none => none)
  | .load t _ => aLoad P md t ins st
  | .store t _ _ => aStore P t ins st
  | .nilCheck _ => aNilCheck ins st
  | .binOp op t x y _ => aBin P t op x y ins st
  | .unOp op _ _ => aUn op ins st
  | .convert s d _ => aConv P s d ins st
  | .makeInterface t _ => aIface P t ins st
  | .makeFunc fn first _ => (match valsOf ins with
    | some vs => aMakeFunc md fn first.size vs st
    | none => none)
  | .makeMap _ none => some (.val (.map st.nobj), st.new (.map [] 0))
  | .makeSlice t _ _ => aMakeSlice P md t ins st
  | .slice t _ lo hi mx => aSlice P t lo hi mx ins st
  | .fieldAddr s _ f => aFieldAddr P s f ins st
  | .field s _ f => aField P s f ins st
  | .indexAddr t _ _ => aIndexAddr P t ins st
  | .index t _ _ => aIndex P t ins st
  | .lookup t _ _ ok => aLookup P t ok ins st
  | .mapUpdate t _ _ _ => aMapSet P t ins st
  | .insert t _ _ _ => aMapSet P t ins st
  | .extract _ i => aExtract i ins st
  | .range t _ => aRange P t ins st
  | .next _ true => aNext ins st
  | .call c => (match c.callee with
    | .builtin b => aBuiltin P md b c.argTypes ins st
    | _ => none)
  | _ => none

/-! ### Frames -/
def aeval (globals : Nat → Option AV) (A : Ann) (fr : AFr) : Operand → Option In
  | .tmp t => match A.base t with
    | none => (fr.tmps[t]?).map .val
    | some b => match fr.offs[b]?, fr.offs[t]?, fr.lbs[b]? with
      | some (some _), some (some off), some cs => some (.loc b off cs)
      | _, _, _ => none
  | .const v => (absC v).map .val
  | .global g => (globals g).map .val
  | .func f => some (.val (.func (.func f) [] []))
def aevals (globals : Nat → Option AV) (A : Ann) (fr : AFr) : List Operand → Option (List In)
  | [] => some []
  | x :: xs => match aeval globals A fr x with
    | some v => match aevals globals A fr xs with
      | some vs => some (v :: vs)
      | none => none
    | none => none
/-- Pointers into a box that is laid anew. -/
def purge (A : Ann) (b : Nat) : Nat → List (Option Nat) → List (Option Nat)
  | _, [] => []
  | i, o :: os => (if A.base i = some b then none else o) :: purge A b (i + 1) os
def aput (A : Ann) (fr : AFr) (op : Op) (dst : Option Tmp) (out : Out) : Option AFr :=
  match out, dst with
  | .val v, some d => (match A.base d with
    | none => some { fr with tmps := fr.tmps.set d v }
    | some _ => none)
  | .val _, none => some fr
  | .loc b off, some d => (match fr.offs[b]? with
    | some (some _) => if A.base d = some b ∧ d ≠ b then some { fr with offs := fr.offs.set d (some off) } else none
    | _ => none)
  | .box cs, some d => if A.base d = some d then some { fr with offs := (purge A d 0 fr.offs).set d (some 0), lbs := fr.lbs.set d cs } else none
  | .lst b cs, none => (match op with
    | .store _ (.tmp t) _ => (match fr.offs[b]? with
      | some (some _) => if A.base t = some b ∧ A.base b = some b then some { fr with lbs := fr.lbs.set b cs } else none
      | _ => none)
    | _ => none)
  | _, _ => none
/-- An operation that is not run: its temporary holds nothing. -/
def aputNone (A : Ann) (fr : AFr) (dst : Option Tmp) : Option AFr :=
  match dst with
  | none => some fr
  | some d => (match A.base d with
    | none => some { fr with tmps := fr.tmps.set d aundef }
    | some _ => some { fr with offs := fr.offs.set d none })
def aYield (ops : List Oper) (fr : AFr) (A : Ann) (j : Nat) : Option (Option Bool) :=
  match ops[j]? with
  | none => some none
  | some o => match o.dst with
    | none => some none
    | some d => (match A.base d with
      | some _ => none
      | none => match fr.tmps[d]? with
        | some (.bool b) => some (some b)
        | some (.tuple _) => some none
        | _ => none)
def aWanted (A : Ann) (ops : List Oper) (fr : AFr) (o : Oper) : Option Bool :=
  match o.guard with
  | none => some true
  | some (j, want) => (aYield ops fr A j).map (· == some want)

inductive AEx where
  | normal
  | exit (id : Nat)
  | ret
  deriving DecidableEq, Inhabited

/-- A caller: what a function's value answers. -/
abbrev Caller := AV → List AV → Store → Option (AV × Store)

structure Env where
  P : Program
  globals : Nat → Option AV
  L : Look
  hL : L = Look.of P

/-- What an operation answers, of what it is given. -/
def aout (E : Env) (call : Caller) (md : Nat) (o : Oper) (ins : List In) (st : Store) : Ans :=
  match o.op with
  | .call c => (match c.callee with
    | .value _ => (match valsOf ins with
      | some (f :: args) => (match call f args st with
        | some r => some (.val r.1, r.2)
        | none => none)
      | _ => none)
    | .invoke _ _ => none
    | .builtin _ => aop E.L md o.type o.op ins st)
  | _ => aop E.L md o.type o.op ins st
def aoper (E : Env) (call : Caller) (A : Ann) (md : Nat) (o : Oper) (fr : AFr) (st : Store) : Option (AFr × Store) :=
  match aevals E.globals A fr o.op.operands.toList with
  | none => none
  | some ins => (match aout E call md o ins st with
    | some r => (match aput A fr o.op o.dst r.1 with
      | some fr' => some (fr', r.2)
      | none => none)
    | none => none)

/-- A region's operations, one behind the other. -/
def aops (E : Env) (call : Caller) (A : Ann) (rid : Nat) (all : List Oper) : List Oper → Nat → AFr → Store → Option (AFr × Store)
  | [], _, fr, st => some (fr, st)
  | o :: rest, i, fr, st => match aWanted A all fr o with
    | some true => (match aoper E call A (A.mode rid i) o fr st with
      | some (fr', st') => aops E call A rid all rest (i + 1) fr' st'
      | none => none)
    | some false => (match aputNone A fr o.dst with
      | some fr' => aops E call A rid all rest (i + 1) fr' st
      | none => none)
    | none => none

/-! ### Regions whose order is drawn -/
/-- Whether what is read of an operand hangs on the store; whether an operation neither reads nor changes it. -/
def freeIn : AV → Bool
  | .ptr _ _ | .arr .. | .map _ => false
  | _ => true
def freeIns : List In → Bool
  | [] => true
  | .val v :: r => freeIn v && freeIns r
  | .loc .. :: r => freeIns r
def notSliceT (P : Look) (d : TypeId) : Bool := match P.und d with | some (.slice _) => false | _ => true
def notPtrs : List In → Bool
  | [.val (.ptr _ _), .val (.ptr _ _)] => false
  | _ => true
def freeOp (P : Look) (md : Nat) (o : Op) (ins : List In) : Bool :=
  match o with
  | .move _ | .assign _ | .makeFunc .. => md != 2
  | .binOp .. => notPtrs ins
  | .pick .. | .build .. | .nilCheck _ | .unOp .. | .makeInterface .. | .fieldAddr .. | .field .. | .index .. | .indexAddr .. | .extract .. => true
  | .alloc _ => md == 1
  | .box .. => md == 1 || md == 2
  | .buildSlice .. => md != 1
  | .load .. => md != 2 && freeIns ins
  | .store .. => (match ins with | .loc .. :: _ => true | _ => false)
  | .slice .. => freeIns ins
  | .convert _ d _ => freeIns ins && notSliceT P d
  | .call c => (match c.callee with
    | .builtin .len | .builtin .cap => freeIns ins
    | .builtin .min | .builtin .max => true
    | .builtin .unsafeSliceData => true
    | _ => false)
  | _ => false
/-- Whether an operation changes no store. -/
def keepOp (P : Look) (md : Nat) (o : Op) : Bool :=
  match o with
  | .load .. => md != 2
  | .slice .. | .lookup .. | .binOp .. => true
  | .convert _ d _ => notSliceT P d
  | .call c => (match c.callee with
    | .builtin .len | .builtin .cap => true
    | _ => false)
  | _ => false
/-- 0: the store is no matter; 1: it is looked at; 2: it may be changed. -/
def labOp (P : Look) (md : Nat) (o : Op) (ins : List In) : Nat := if freeOp P md o ins = true then 0 else if keepOp P md o = true then 1 else 2
/-- The operations in text order, and what they do to the store. -/
def aopsF (E : Env) (call : Caller) (A : Ann) (rid : Nat) (all : List Oper) : List Oper → Nat → AFr → Store → Option (AFr × Store × List Nat)
  | [], _, fr, st => some (fr, st, [])
  | o :: rest, i, fr, st => match aWanted A all fr o with
    | some true => (match aevals E.globals A fr o.op.operands.toList with
      | none => none
      | some ins => (match aout E call (A.mode rid i) o ins st with
        | some r => (match aput A fr o.op o.dst r.1 with
          | some fr' => (match aopsF E call A rid all rest (i + 1) fr' r.2 with
            | some q => some (q.1, q.2.1, labOp E.L (A.mode rid i) o.op ins :: q.2.2)
            | none => none)
          | none => none)
        | none => none))
    | some false => (match aputNone A fr o.dst with
      | some fr' => (match aopsF E call A rid all rest (i + 1) fr' st with
        | some q => some (q.1, q.2.1, 0 :: q.2.2)
        | none => none)
      | none => none)
    | none => none
/-- Which must be done before one. -/
def anyEdges (o : Oper) : List Nat := (o.after.toList.filter (Region.binds .any)).map (·.on)
/-- The same, and what must be done before these: as bits. -/
def closure : List Nat → List (List Nat) → List Nat
  | acc, [] => acc
  | acc, e :: r => closure (acc ++ [e.foldl (fun m j => m ||| 2 ^ j ||| acc.getD j 0) 0]) r
def backOk : Nat → List (List Nat) → Bool
  | _, [] => true
  | i, e :: r => e.all (decide <| · < i) && backOk (i + 1) r
/-- What an operation looks at, and what it lays down: temporaries (2t), boxes (2b+1). -/
def lookT (A : Ann) (t : Nat) : List Nat := match A.base t with | none => [2 * t] | some b => [2 * t, 2 * b, 2 * b + 1]
def lookX (A : Ann) : Operand → List Nat
  | .tmp t => lookT A t
  | _ => []
def lookG (A : Ann) (all : List Oper) : Option (Nat × Bool) → List Nat
  | some (j, _) => (match all[j]? with
    | some oj => (match oj.dst with | some d => lookT A d | none => [])
    | none => [])
  | none => []
def lookD (A : Ann) : Option Tmp → List Nat
  | some d => (match A.base d with | some b => if b = d then [] else [2 * b] | none => [])
  | none => []
def looks (A : Ann) (all : List Oper) (o : Oper) : List Nat := o.op.operands.toList.flatMap (lookX A) ++ (lookG A all o.guard ++ lookD A o.dst)
def layD : Option Tmp → List Nat
  | some d => [2 * d, 2 * d + 1]
  | none => []
def layS (A : Ann) : Op → List Nat
  | .store _ (.tmp t) _ => (match A.base t with | some b => [2 * b + 1] | none => [])
  | _ => []
def lays (A : Ann) (o : Oper) : List Nat := layD o.dst ++ layS A o.op
def apartOps (A : Ann) (all : List Oper) (x y : Oper) : Bool :=
  (lays A x).all (fun r => !(looks A all y).contains r && !(lays A y).contains r) && (lays A y).all (fun r => !(looks A all x).contains r)
def labsOk (a b : Nat) : Bool := a == 0 || b == 0 || (a == 1 && b == 1)
def pairsFrom (A : Ann) (all : List Oper) (cl : List Nat) (fs : List Nat) (i : Nat) (x : Oper) (fx : Nat) : List Oper → Nat → Bool
  | [], _ => true
  | y :: r, j => ((cl.getD j 0).testBit i || (labsOk fx (fs.getD j 2) && apartOps A all x y)) && pairsFrom A all cl fs i x fx r (j + 1)
def pairsOk (A : Ann) (all : List Oper) (cl : List Nat) (fs : List Nat) : List Oper → Nat → Bool
  | [], _ => true
  | x :: r, i => pairsFrom A all cl fs i x (fs.getD i 2) r (i + 1) && pairsOk A all cl fs r (i + 1)
def adraw (E : Env) (call : Caller) (A : Ann) (rid : Nat) (all : List Oper) (fr : AFr) (st : Store) : Option (AFr × Store) :=
  if backOk 0 (all.map anyEdges) = true then (match aopsF E call A rid all all 0 fr st with
    | some q => if pairsOk A all (closure [] (all.map anyEdges)) q.2.2 all 0 = true then some (q.1, q.2.1) else none
    | none => none)
  else none

def aloop (body : AFr → Store → Option (AEx × AFr × Store)) : Nat → AFr → Store → Option (AEx × AFr × Store)
  | 0, _, _ => none
  | n + 1, fr, st => match body fr st with
    | some (.normal, fr', st') => aloop body n fr' st'
    | r => r

/-- What is left of a jump out of a loop over a function. -/
def jumpEx : Option Code → Option AEx
  | none => some .normal
  | some .ret => some .ret
  | some (.exit id) => some (.exit id)
  | _ => none
def exJump : AEx → Option Code
  | .normal => none
  | .ret => some .ret
  | .exit id => some (.exit id)

/-- Temporaries as a loop over a function keeps them: pointers into boxes are not told. -/
def snap (A : Ann) : Nat → List AV → List AV
  | _, [] => []
  | i, x :: xs => (match A.base i with | none => x | some _ => .junk) :: snap A (i + 1) xs
def entersF (E : Env) (k : FuncId) : Bool := match E.L.fn k with
  | some fn => fn.body.isSome
  | none => false
def endLoopA (fr : AFr) (st : Store) (o : Nat) : Option (AEx × AFr × Store) := match st.get o with
  | some (.loop s pend f tmps ps as b) => (match s with
    | .busy => none
    | _ => (match jumpEx pend with
      | some ex => some (ex, fr, st.set o (.loop .exhausted pend f tmps ps as b))
      | none => none))
  | _ => none
def acode (E : Env) (call : Caller) (A : Ann) (f : FuncId) (n : Nat) (rd : Bool) : Code → AFr → Store → Option (AEx × AFr × Store)
  | .skip, fr, st | .label _, fr, st => some (.normal, fr, st)
  | .region id ops false, fr, st => match aops E call A id ops.toList ops.toList 0 fr st with
    | some (fr', st') => some (.normal, fr', st')
    | none => none
  | .region id ops true, fr, st => match adraw E call A id ops.toList fr st with
    | some (fr', st') => some (.normal, fr', st')
    | none => none
  | .seq a b, fr, st => match acode E call A f n rd a fr st with
    | some (.normal, fr', st') => acode E call A f n rd b fr' st'
    | r => r
  | .cond c a b, fr, st => match aeval E.globals A fr c with
    | some (.val (.bool true)) => acode E call A f n rd a fr st
    | some (.val (.bool false)) => acode E call A f n rd b fr st
    | _ => none
  | .block id body, fr, st => match acode E call A f n rd body fr st with
    | some (.exit i, fr', st') => if i == id then some (.normal, fr', st') else some (.exit i, fr', st')
    | r => r
  | .loop body, fr, st => aloop (acode E call A f n rd body) n fr st
  | .exit id, fr, st => some (.exit id, fr, st)
  | .ret, fr, st => some (.ret, fr, st)
  | .rangeFunc it ps assign body, fr, st => if rd = true then none else (match aeval E.globals A fr it with
    | some (.val (.func (.func k) first cap)) => if entersF E k = true then (match call (.func (.func k) first cap) [.func (.yield st.nobj) [] []] (st.new (.loop .ready none f (snap A 0 fr.tmps) ps.toList assign body)) with
      | some r => endLoopA fr r.2 st.nobj
      | none => none) else none
    | _ => none)
  | _, _, _ => none

def aresult (E : Env) (A : Ann) (fr : AFr) (st : Store) : ResultVar → Option AV
  | .tmp t => (match A.base t with
    | none => fr.tmps[t]?
    | some _ => none)
  | .cell a t => (match sizeT E.L t with
    | none => none
    | some sz => (match (match A.base a with
        | some b => (match fr.offs[b]?, fr.offs[a]?, fr.lbs[b]? with
          | some (some _), some (some off), some cs => cut cs off sz
          | _, _, _ => none)
        | none => (match fr.tmps[a]? with
          | some (.ptr o off) => (st.getCells o).bind (cut · off sz)
          | _ => none) : Option (List AV)) with
      | some cs => mkT E.L t cs
      | none => none))
def aresults (E : Env) (A : Ann) (fr : AFr) (st : Store) : List ResultVar → Option (List AV)
  | [] => some []
  | r :: rs => match aresult E A fr st r with
    | some v => match aresults E A fr st rs with
      | some vs => some (v :: vs)
      | none => none
    | none => none
def aenter (fn : Func) (args : List AV) : AFr :=
  { tmps := args ++ List.replicate (fn.ntmps - args.length) aundef, offs := List.replicate (max args.length fn.ntmps) none, lbs := List.replicate (max args.length fn.ntmps) [] }

abbrev Prims := FuncId → Option (List AV → Store → Option (AV × Store))

def afun (E : Env) (An : FuncId → Ann) (call : Caller) (n : Nat) (f : FuncId) (args : List AV) (st : Store) : Option (AV × Store) :=
  match E.L.fn f with
  | none => none
  | some fn => match fn.body with
    | none => none
    | some c => match acode E call (An f) f n false c (aenter fn args) st with
      | some (.exit _, _, _) => none
      | some (_, fr, st') => match aresults E (An f) fr st' fn.results.toList with
        | some [v] => some (v, st')
        | some vs => some (.tuple vs, st')
        | none => none
      | none => none

def setParams : List Tmp → List AV → List AV → Option (List AV)
  | [], [], tmps => some tmps
  | t :: ts, x :: xs, tmps => setParams ts xs (tmps.set t x)
  | _, _, _ => none
/-- A round of a loop over a function. -/
def endRoundA (st : Store) (l : Nat) (ex : AEx) : Option (AV × Store) := match st.get l with
  | some (.loop _ _ f tmps ps as b) => (match ex with
    | .normal => some (.bool true, st.set l (.loop .ready none f tmps ps as b))
    | ex => some (.bool false, st.set l (.loop .done (exJump ex) f tmps ps as b)))
  | _ => none
def ayield (E : Env) (An : FuncId → Ann) (call : Caller) (n : Nat) (l : Nat) (args : List AV) (st : Store) : Option (AV × Store) :=
  match st.get l with
  | some (.loop _ _ f tmps params assign body) => (match setParams params args tmps with
    | none => none
    | some tmps' => (match acode E call (An f) f n true assign { tmps := tmps', offs := List.replicate tmps'.length none, lbs := List.replicate tmps'.length [] } st with
      | some (.normal, fr1, st1) => (match st1.get l with
        | some (.loop .ready pend f1 tmps1 ps1 as1 b1) =>
          (match acode E call (An f) f n true body fr1 (st1.set l (.loop .busy pend f1 tmps1 ps1 as1 b1)) with
          | some r => endRoundA r.2.2 l r.1
          | none => none)
        | _ => none)
      | _ => none))
  | _ => none

/-- A call of a function's value: so many calls deep, so many rounds of a loop. -/
def acall (E : Env) (An : FuncId → Ann) (pr : Prims) : Nat → AV → List AV → Store → Option (AV × Store)
  | 0, _, _, _ => none
  | n + 1, .func (.func f) first cap, args, st => match pr f with
    | some p => (match p (first ++ args ++ cap) st with
      | some r => some r
      | none => afun E An (acall E An pr n) n f (first ++ args ++ cap) st)
    | none => afun E An (acall E An pr n) n f (first ++ args ++ cap) st
  | n + 1, .func (.yield l) [] [], args, st => ayield E An (acall E An pr n) n l args st
  | _ + 1, _, _, _ => none

end Go.Sim
