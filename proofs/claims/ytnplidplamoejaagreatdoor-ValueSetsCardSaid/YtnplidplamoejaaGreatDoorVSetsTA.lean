/- What Go code answers, read over plain values. -/
import Derived.CallsIn
import Derived.Laws.Sem
import Derived.KernelRfl
import Derived.Laws.IdiomCopy
import Derived.Laws.Append
import Derived.Below
import Derived.WideShapes
set_option linter.unusedVariables false
set_option linter.unusedSimpArgs false
set_option linter.unnecessarySimpa false
namespace Go.Sim

/-- A value, read as data: rows are lists, what nobody writes any more is what it holds. -/
inductive AV where
  | bool (b : Bool)
  | int (k : IntKind) (n : Int)
  | str (s : List UInt8)
  | nilptr
  | ptr (o off : Nat)
  | rptr (cells : List AV)
  | nils
  | zsl
  | row (sz : Nat) (tok : Option (Nat × Nat)) (cap : Option Nat) (xs : List AV)
  | arr (sz o off len : Nat) (cap : Option Nat)
  | nilmap
  | map (o : Nat)
  | func (fn : Fn) (first captured : List AV)
  | nilFunc
  | iface (t : TypeId) (v : AV)
  | nilIface
  | agg (cs : List AV)
  | tuple (vs : List AV)
  | uptr (t : Nat) (xs : List AV)
  | junk
  deriving Inhabited

/-- Not what several results are together. -/
def AV.noTuple : AV → Bool
  | .tuple _ | .junk => false
  | _ => true
def AV.cells : AV → List AV
  | .agg cs => cs
  | v => [v]

inductive AObj where
  | cells (xs : List AV)
  | tcells (t : TypeId) (n : Nat) (xs : List AV)
  | scells (xs : List AV)
  | map (es : List (AV × AV × Nat)) (clock : Nat)
  | siter (s : List UInt8) (pos : Nat)
  | loop (state : LoopState) (pending : Option Code) (f : FuncId) (tmps : List AV) (params : List Tmp) (assign body : Code)
  | dead
  deriving Inhabited

/-- Objects and rows' ends, the newest first. -/
structure Store where
  objs : List AObj
  nobj : Nat
  tops : List (Nat × TypeId)
  ntop : Nat
  deriving Inhabited

namespace Store
def empty : Store := ⟨[], 0, [], 0⟩
def get (s : Store) (o : Nat) : Option AObj := if o < s.nobj then s.objs[s.nobj - 1 - o]? else none
def set (s : Store) (o : Nat) (x : AObj) : Store := match s with | ⟨objs, nobj, tops, ntop⟩ => ⟨objs.set (nobj - 1 - o) x, nobj, tops, ntop⟩
def new (s : Store) (x : AObj) : Store := match s with | ⟨objs, nobj, tops, ntop⟩ => ⟨x :: objs, nobj + 1, tops, ntop⟩
def top (s : Store) (t : Nat) : Option (Nat × TypeId) := if t < s.ntop then s.tops[s.ntop - 1 - t]? else none
def setTop (s : Store) (t : Nat) (n : Nat × TypeId) : Store := match s with | ⟨objs, nobj, tops, ntop⟩ => ⟨objs, nobj, tops.set (ntop - 1 - t) n, ntop⟩
def newTop (s : Store) (n : Nat × TypeId) : Store := match s with | ⟨objs, nobj, tops, ntop⟩ => ⟨objs, nobj, n :: tops, ntop + 1⟩
def getCells (s : Store) (o : Nat) : Option (List AV) := match s.get o with | some (.cells xs) => some xs | some (.tcells _ _ xs) => some xs | some (.scells xs) => some xs | _ => none
/-- Cells are written: what is known of their type stays known. -/
def put (s : Store) (o : Nat) (xs : List AV) : Store := match s.get o with | some (.tcells t n _) => s.set o (.tcells t n xs) | some (.scells _) => s.set o (.scells xs) | _ => s.set o (.cells xs)
end Store

/-- How a function's boxes are read: which temporaries point into a box of its own; and how single operations are read. -/
structure Ann where
  base : Nat → Option Nat
  mode : Nat → Nat → Nat

inductive In where
  | val (v : AV)
  | loc (b off : Nat) (cells : List AV)
  deriving Inhabited

inductive Out where
  | val (v : AV)
  | loc (b off : Nat)
  | box (cells : List AV)
  | lst (b : Nat) (cells : List AV)
  deriving Inhabited

structure AFr where
  tmps : List AV
  offs : List (Option Nat)
  lbs : List (List AV)
  deriving Inhabited

def aundef : AV := .tuple []

/-! ### Constants, types -/
mutual
def absC : Value → Option AV
  | .bool b => some (.bool b)
  | .int k n => some (.int k n)
  | .string s => some (.str s.data.toList)
  | .pointer none => some .nilptr
  | .slice none 0 0 => some .nils
  | .map none => some .nilmap
  | .nilFunc => some .nilFunc
  | .nilIface => some .nilIface
  | .func (.func f) ⟨[]⟩ ⟨[]⟩ => some (.func (.func f) [] [])
  | .agg ⟨cs⟩ => match absCs cs with
    | some xs => if cs.all Value.oneCell' = true then some (.agg xs) else none
    | none => none
  | .tuple ⟨cs⟩ => match absCs cs with
    | some xs => some (.tuple xs)
    | none => none
  | _ => none
def absCs : List Value → Option (List AV)
  | [] => some []
  | v :: vs => match absC v with
    | some x => match absCs vs with
      | some xs => some (x :: xs)
      | none => none
    | none => none
end

/-- What is looked up of a program. -/
structure Look where
  und : TypeId → Option TypeDesc
  info : TypeId → Option TypeInfo
  fn : Nat → Option Func
  lies : TypeId → Nat → TypeId → Bool
def Look.of (P : Program) : Look := ⟨P.underlying, P.info?, fun f => P.funcs[f]?, fun e n u => liesAt P P.depth e (n / P.cellsOf e) 0 u 1⟩
instance : Coe Program Look := ⟨Look.of⟩
def aggT (P : Look) (t : TypeId) : Option Bool := match P.und t with
  | some (.struct _) | some (.array _ _) => some true
  | some _ => some false
  | none => none
def sizeT (P : Look) (t : TypeId) : Option Nat := match P.info t with
  | some i => some i.size
  | none => none
def bytesT (P : Look) (t : TypeId) : Option Nat := match P.info t with
  | some i => some i.bytes
  | none => none
def zeroT (P : Look) (t : TypeId) : Option AV := match P.info t with
  | some i => match i.zero with
    | some v => match absC v with
      | some x => if x.noTuple = true then some x else none
      | none => none
    | none => none
  | none => none
/-- A value of a type, out of its cells. -/
def mkT (P : Look) (t : TypeId) (cs : List AV) : Option AV := match aggT P t with
  | some true => some (.agg cs)
  | some false => match cs with
    | [c] => some c
    | _ => none
  | none => none
/-- n cells from a place on. -/
def cut (cs : List AV) (off n : Nat) : Option (List AV) := if off + n ≤ cs.length then some ((cs.drop off).take n) else none
/-- the same, with others there -/
def splice (cs : List AV) (off : Nat) (new : List AV) : Option (List AV) := if off + new.length ≤ cs.length then some (cs.take off ++ new ++ cs.drop (off + new.length)) else none

/-! ### Arithmetic -/
def bitsOf (op : BinOp) (k : IntKind) (x y : Int) : Option Int :=
  let a := BitVec.ofInt k.bits x
  let b := BitVec.ofInt k.bits y
  match op with
  | .and => some (k.wrap (a &&& b).toNat)
  | .or => some (k.wrap (a ||| b).toNat)
  | .xor => some (k.wrap (a ^^^ b).toNat)
  | .andNot => some (k.wrap (a &&& ~~~b).toNat)
  | _ => none
def intOp (op : BinOp) (k : IntKind) (x y : Int) : Option AV :=
  match op with
  | .add => some (.int k (k.wrap (x + y)))
  | .sub => some (.int k (k.wrap (x - y)))
  | .mul => some (.int k (k.wrap (x * y)))
  | .quo => if y = 0 then none else some (.int k (k.wrap (x.tdiv y)))
  | .rem => if y = 0 then none else some (.int k (x.tmod y))
  | .eql => some (.bool (x == y))
  | .neq => some (.bool (x != y))
  | .lss => some (.bool (decide (x < y)))
  | .leq => some (.bool (decide (x ≤ y)))
  | .gtr => some (.bool (decide (x > y)))
  | .geq => some (.bool (decide (x ≥ y)))
  | .shl | .shr => none
  | op => (match bitsOf op k x y with | some n => some (.int k n) | none => none)
def shiftOp (op : BinOp) (k : IntKind) (x y : Int) : Option AV :=
  if y < 0 then none else
  let n := min y.toNat k.bits
  match op with
  | .shl => some (.int k (k.wrap (x * 2 ^ n)))
  | .shr => some (.int k (x.fdiv (2 ^ n)))
  | _ => none
def strOp (op : BinOp) (x y : List UInt8) : Option AV :=
  match op with
  | .add => if x.length + y.length ≤ 9223372036854775807 then some (.str (x ++ y)) else none
  | .eql => some (.bool (x == y))
  | .neq => some (.bool (!(x == y)))
  | .lss => some (.bool (Op.bytesLess x y))
  | .leq => some (.bool (Op.bytesLess x y || x == y))
  | .gtr => some (.bool (!(Op.bytesLess x y || x == y)))
  | .geq => some (.bool (!(Op.bytesLess x y)))
  | _ => none
/-- '==' of what is no number and no text: of truths, or with nil. -/
def eqBool : AV → AV → Option Bool
  | .bool a, .bool b => some (a == b)
  | _, _ => none
def ptrNil : AV → Option Bool
  | .nilptr => some true
  | .ptr .. | .rptr _ => some false
  | _ => none
def sliceNil : AV → Option Bool
  | .nils => some true
  | .row .. | .arr .. => some false
  | _ => none
def mapNil : AV → Option Bool
  | .nilmap => some true
  | .map _ => some false
  | _ => none
def funcNil : AV → Option Bool
  | .nilFunc => some true
  | .func .. => some false
  | _ => none
def ifaceNil : AV → Option Bool
  | .nilIface => some true
  | .iface .. => some false
  | _ => none
/-- two, of which one is nil -/
def eqNil (a b : Option Bool) : Option Bool := match a with
  | some true => b
  | some false => (match b with
    | some true => some false
    | _ => none)
  | none => none
def eqV (P : Look) (t : TypeId) (x y : AV) : Option Bool :=
  match P.und t with
  | some .bool => eqBool x y
  | some (.pointer _) => eqNil (ptrNil x) (ptrNil y)
  | some (.slice _) => eqNil (sliceNil x) (sliceNil y)
  | some (.map _ _) => eqNil (mapNil x) (mapNil y)
  | some (.func _ _ _) => eqNil (funcNil x) (funcNil y)
  | some (.interface _) => (match ifaceNil x with
    | some true => (match ifaceNil y with | some false => some false | _ => none)
    | some false => (match ifaceNil y with | some true => some false | _ => none)
    | none => none)
  | _ => none
def isNilC : Operand → Bool
  | .const _ => true
  | _ => false
def intV (op : BinOp) (k k' : IntKind) (a b : Int) : Option AV := match op with
  | .shl => shiftOp .shl k a b
  | .shr => shiftOp .shr k a b
  | op => if k = k' then intOp op k a b else none
def otherV (P : Look) (t : TypeId) (op : BinOp) (x y : AV) : Option AV := match op with
  | .eql => (match eqV P t x y with | some b => some (.bool b) | none => none)
  | .neq => (match eqV P t x y with | some b => some (.bool (!b)) | none => none)
  | _ => none
def nilsV (op : BinOp) (c : Bool) : Option AV := match op with
  | .eql => if c = true then some (.bool true) else none
  | .neq => if c = true then some (.bool false) else none
  | _ => none
def binNil (P : Look) (t : TypeId) (op : BinOp) (c : Bool) : AV → Option AV
  | .nilIface => (match P.und t with
    | some (.interface _) => nilsV op c
    | _ => none)
  | y => otherV P t op .nilIface y
def binV (P : Look) (t : TypeId) (op : BinOp) (xo yo : Operand) (x y : AV) : Option AV :=
  match x with
  | .int k a => (match y with | .int k' b => intV op k k' a b | _ => none)
  | .str a => (match y with | .str b => strOp op a b | _ => none)
  | .nilIface => binNil P t op (isNilC xo || isNilC yo) y
  | x => otherV P t op x y
def unV (op : UnOp) (x : AV) : Option AV :=
  match op, x with
  | .neg, .int k n => some (.int k (k.wrap (0 - n)))
  | .xor, .int k n => (match bitsOf .xor k (if k.signed then -1 else k.max) n with | some n => some (.int k n) | none => none)
  | .not, .bool b => some (.bool !b)
  | _, _ => none
def asByte : AV → Option UInt8
  | .int .u8 n => some (UInt8.ofNat n.toNat)
  | _ => none
def asBytes : List AV → Option (List UInt8)
  | [] => some []
  | x :: xs => match asByte x with
    | some b => match asBytes xs with
      | some bs => some (b :: bs)
      | none => none
    | none => none
def bytesV (s : List UInt8) : List AV := s.map fun b => .int .u8 b.toNat
/-- The elements of what is no longer than some bytes. -/
def elemsOf (P : Look) (e : TypeId) (cs : List AV) : (n : Nat) → Option (List AV)
  | 0 => some []
  | n + 1 => match sizeT P e with
    | none => none
    | some sz => match cut cs 0 sz with
      | none => none
      | some c => match mkT P e c, elemsOf P e (cs.drop sz) n with
        | some x, some xs => some (x :: xs)
        | _, _ => none
/-- What a slice's elements are. -/
def readRow (P : Look) (e : TypeId) (st : Store) : AV → Option (List AV)
  | .nils => some []
  | .row s _ _ xs => if sizeT P e = some s then some xs else none
  | .arr sz o off len _ => if sizeT P e = some sz ∧ 0 < sz then (match st.getCells o with
    | some cs => (match cut cs off (len * sz) with
      | some c => elemsOf P e c len
      | none => none)
    | none => none) else none
  | .str s => if sizeT P e = some 1 then some (bytesV s) else none
  | _ => none
def flat (xs : List AV) : List AV := xs.flatMap AV.cells
def elemT (P : Look) (t : TypeId) : Option TypeId := match P.und t with
  | some (.slice e) => some e
  | _ => none
def maxBytes : Nat := 140737488355328

/-- append: to new memory -/
def freshV (md sz by_ : Nat) (e : TypeId) (all : List AV) (st : Store) : Option (AV × Store) :=
  if all.length * by_ ≤ maxBytes ∧ all.length ≤ maxBytes ∧ 0 < sz then
    (if md = 1 then some (.arr sz st.nobj 0 all.length none, st.new (.cells (flat all)))
    else some (.row sz (some (st.ntop, 0)) none all, st.newTop (all.length, e)))
  else none
/-- append: to a row, at its end -/
def growV (sz : Nat) (e : TypeId) (tok : Option (Nat × Nat)) (cap : Option Nat) (xs new : List AV) (st : Store) : Option (AV × Store) :=
  match tok with
  | some (t, off) => if st.top t = some (off + xs.length, e) then some (.row sz tok cap (xs ++ new), st.setTop t (off + xs.length + new.length, e)) else none
  | none => none
def appendRow (md sz by_ : Nat) (e : TypeId) (tok : Option (Nat × Nat)) (cap : Option Nat) (xs new : List AV) (st : Store) : Option (AV × Store) :=
  match cap with
  | some c => if c < xs.length + new.length then freshV md sz by_ e (xs ++ new) st else growV sz e tok cap xs new st
  | none => if (xs.length + new.length) * by_ ≤ maxBytes ∧ xs.length + new.length ≤ maxBytes then growV sz e tok cap xs new st else none
def appendArr (md sz by_ : Nat) (e : TypeId) (o off len : Nat) (cap : Option Nat) (xs new : List AV) (st : Store) : Option (AV × Store) :=
  match cap with
  | some c => if c < len + new.length then freshV md sz by_ e (xs ++ new) st
    else (match st.getCells o with
      | some cs => (match splice cs (off + len * sz) (flat new) with
        | some cs' => some (.arr sz o off (len + new.length) cap, st.put o cs')
        | none => none)
      | none => none)
  | none => (match st.get o with
    | some (.cells cs) => if off = 0 ∧ cs.length = len * sz then freshV 1 sz by_ e (xs ++ new) (st.set o .dead) else none
    | _ => none)
def appendV (P : Look) (md : Nat) (e : TypeId) (s : AV) (new : List AV) (st : Store) : Option (AV × Store) :=
  match bytesT P e with
  | some by_ => (match sizeT P e with
    | some sz => (match zeroT P e with
      | some z => if z.cells.length = sz ∧ 0 < sz then (match readRow P e st s with
        | some xs => if new.isEmpty = true then (match s with | .str _ => none | s => some (s, st)) else
          (match s with
          | .nils => freshV md sz by_ e new st
          | .row _ tok cap xs => appendRow md sz by_ e tok cap xs new st
          | .arr _ o off len cap => appendArr md sz by_ e o off len cap xs new st
          | _ => none)
        | none => none) else none
      | none => none)
    | none => none)
  | none => none

/-- copy -/
def copyV (d : AV) (src : List AV) (st : Store) : Option (AV × Store) :=
  match d with
  | .nils => some (.int .i64 0, st)
  | .arr _ o off len _ => match st.getCells o with
    | some cs => match splice cs off (flat (src.take len)) with
      | some cs' => some (.int .i64 (min src.length len : Nat), st.put o cs')
      | none => none
    | none => none
  | .row _ _ _ xs => if min src.length xs.length = 0 then some (.int .i64 0, st) else none
  | _ => none

/-! ### Maps -/
def sameInt : AV → AV → Option Bool
  | .int k a, .int k' b => if k = k' then some (a == b) else none
  | _, _ => none
def sameStr : AV → AV → Option Bool
  | .str a, .str b => some (a == b)
  | _, _ => none
def sameBool : AV → AV → Option Bool
  | .bool a, .bool b => some (a == b)
  | _, _ => none
def sameKey (d : TypeDesc) (x y : AV) : Option Bool := match d with
  | .int _ => sameInt x y
  | .string => sameStr x y
  | .bool => sameBool x y
  | _ => none
def findK (d : TypeDesc) (k : AV) : List (AV × AV × Nat) → Nat → Option (Option (Nat × AV))
  | [], _ => some none
  | e :: es, i => match sameKey d k e.1 with
    | some true => some (some (i, e.2.1))
    | some false => findK d k es (i + 1)
    | none => none
def keyT (P : Look) (t : TypeId) : Option (TypeDesc × TypeId) := match P.und t with
  | some (.map k e) => (match P.und k with
    | some d => some (d, e)
    | none => none)
  | _ => none

/-- An index: a number from 0 on, below. -/
def idx (v : AV) (n : Nat) : Option Nat := match v with
  | .int _ i => if 0 ≤ i ∧ i < n then some i.toNat else none
  | _ => none
def bnd (v : Option AV) (d n : Nat) : Option Nat := match v with
  | none => some d
  | some (.int _ i) => if 0 ≤ i ∧ i ≤ n then some i.toNat else none
  | _ => none
/-- An optional operand's value. -/
def takeO (o : Option Operand) (ins : List In) : Option (Option AV × List In) := match o with
  | none => some (none, ins)
  | some _ => match ins with
    | .val v :: r => some (some v, r)
    | _ => none

/-- from l up to h, of what may be cut up to m -/
def bounds (lo hi : Option AV) (len m : Nat) : Option (Nat × Nat) := match bnd hi len m with
  | some h => (match bnd lo 0 h with
    | some l => some (l, h)
    | none => none)
  | none => none
def sliceStr (s : List UInt8) (lo hi : Option AV) : Option AV := match bounds lo hi s.length s.length with
  | some (l, h) => some (.str ((s.drop l).take (h - l)))
  | none => none
/-- The most that it may be cut up to: if it is not told, its length at most is taken. -/
def capOf (mx : Option AV) (len : Nat) (cap : Option Nat) : Option (Option Nat) := match mx with
  | none => some cap
  | some v => (match bnd (some v) 0 (cap.getD len) with
    | some m => some (some m)
    | none => none)
def sliceRow (sz : Nat) (tok : Option (Nat × Nat)) (cap : Option Nat) (xs : List AV) (lo hi mx : Option AV) : Option AV := match capOf mx xs.length cap with
  | some m => (match bounds lo hi xs.length (min xs.length (m.getD xs.length)) with
    | some (l, h) => some (.row sz (match tok with | some (t, p) => some (t, p + l) | none => none) (match m with | some c => some (c - l) | none => none) ((xs.drop l).take (h - l)))
    | none => none)
  | none => none
def sliceArr (sz o off len : Nat) (cap : Option Nat) (lo hi mx : Option AV) : Option AV := match capOf mx len cap with
  | some m => (match bounds lo hi len (m.getD len) with
    | some (l, h) => if m = some l then some (.arr sz o off (h - l) (some 0)) else if m = none ∧ l = len ∧ 0 < l then none else some (.arr sz o (off + l * sz) (h - l) (match m with | some c => some (c - l) | none => none))
    | none => none)
  | none => none
def sliceV (P : Look) (t : TypeId) (st : Store) (x : AV) (lo hi mx : Option AV) : Option AV :=
  match x with
  | .str s => (match P.und t with
    | some .string => (match mx with
      | some _ => none
      | none => sliceStr s lo hi)
    | _ => none)
  | .nils => (match elemT P t with
    | some e => (match sizeT P e with
      | some _ => (match capOf mx 0 (some 0) with
        | some m => (match bounds lo hi 0 (m.getD 0) with
          | some _ => some .nils
          | none => none)
        | none => none)
      | none => none)
    | none => none)
  | .zsl => (match elemT P t with
    | some e => (match sizeT P e with
      | some _ => (match capOf mx 0 (some 0) with
        | some m => (match bounds lo hi 0 (m.getD 0) with
          | some _ => some .zsl
          | none => none)
        | none => none)
      | none => none)
    | none => none)
  | .row s tok cap xs => (match elemT P t with
    | some e => if sizeT P e = some s then sliceRow s tok cap xs lo hi mx else none
    | none => none)
  | .arr s o off len cap => (match elemT P t with
    | some e => if sizeT P e = some s then sliceArr s o off len cap lo hi mx else none
    | none => none)
  | .ptr o off => (match P.und t with
    | some (.array n e) => (match sizeT P e with
      | some sz => (match st.getCells o with
        | some cs => if 0 < sz ∧ off + n * sz ≤ cs.length then sliceArr sz o off n (some n) lo hi mx else none
        | none => none)
      | none => none)
    | _ => none)
  | _ => none

def fieldsT (P : Look) (t : TypeId) (f : Nat) : Option (Nat × TypeId) := match P.und t with
  | some (.struct fs) => match fs[f]? with
    | some x => some (x.offset, x.type)
    | none => none
  | _ => none

/-- Parts laid into cells. -/
def fillV (place : Nat → Option (Nat × Nat)) : List (Nat × AV) → List AV → Option (List AV)
  | [], cs => some cs
  | (i, v) :: r, cs => match place i with
    | none => none
    | some (off, sz) => if v.cells.length = sz ∧ v.noTuple = true then match splice cs off v.cells with
        | some cs' => fillV place r cs'
        | none => none
      else none
def valsOf : List In → Option (List AV)
  | [] => some []
  | .val v :: r => match valsOf r with
    | some vs => some (v :: vs)
    | none => none
  | .loc .. :: _ => none

def convInt (k : IntKind) (st : Store) : AV → Option (AV × Store)
  | .int _ n => some (.int k (k.wrap n), st)
  | _ => none
/-- The bytes of a text, in new memory. -/
def bytesOf (P : Look) (e : TypeId) (st : Store) : AV → Option (AV × Store)
  | .str t => (match P.und e with
    | some (.int .u8) => some (.arr 1 st.nobj 0 t.length none, st.new (.scells (bytesV t)))
    | _ => none)
  | _ => none
def strOf (P : Look) (e : TypeId) (st : Store) (y : AV) : Option (AV × Store) :=
  match P.und e with
  | some (.int .u8) => (match sizeT P e with
    | some 1 => (match readRow P e st y with
      | some xs => (match asBytes xs with
        | some b => some (.str b, st)
        | none => none)
      | none => none)
    | _ => none)
  | _ => none
def convStr (P : Look) (s : TypeDesc) (st : Store) : AV → Option (AV × Store)
  | .str t => some (.str t, st)
  | y => (match s with
    | .slice e => strOf P e st y
    | _ => none)
/-- A pointer without its type, and back: at the head of an object whose type is told. -/
def toUnsafe (P : Look) (s : TypeDesc) (st : Store) : AV → Option (AV × Store)
  | .ptr o 0 => (match s with
    | .pointer t => (match sizeT P t with
      | some sz => (match st.get o with
        | some (.tcells _ n _) => if sz ≠ 0 ∧ 0 < n then some (.ptr o 0, st) else none
        | _ => none)
      | none => none)
    | _ => none)
  | _ => none
def fromUnsafe (P : Look) (s : TypeDesc) (u : TypeId) (st : Store) : AV → Option (AV × Store)
  | .ptr o 0 => (match s with
    | .unsafePointer => (match sizeT P u with
      | some _ => (match st.get o with
        | some (.tcells e n _) => if P.lies e n u = true then some (.ptr o 0, st) else none
        | _ => none)
      | none => none)
    | _ => none)
  | _ => none
def convV (P : Look) (src dst : TypeId) (x : AV) (st : Store) : Option (AV × Store) :=
  match P.und src with
  | some s => (match P.und dst with
    | some (.int k) => convInt k st x
    | some .string => convStr P s st x
    | some (.slice e) => bytesOf P e st x
    | some .unsafePointer => toUnsafe P s st x
    | some (.pointer u) => fromUnsafe P s u st x
    | _ => none)
  | none => none

/-- Rows in place of what is never written any more (top level, or a struct's parts). -/
def freezeCells (P : Look) (et : Nat → Option TypeId) : List AV → Nat → Store → Option (List AV × Store)
  | [], _, st => some ([], st)
  | x :: xs, i, st => match x with
    | .arr sz o off len cap => match et i with
      | none => none
      | some e => match readRow P e st (.arr sz o off len cap) with
        | none => none
        | some ys => match freezeCells P et xs (i + 1) (st.set o .dead) with
          | some (zs, st') => some (.row sz none none ys :: zs, st')
          | none => none
    | _ => match freezeCells P et xs (i + 1) st with
      | some (zs, st') => some (x :: zs, st')
      | none => none
def freezeV (P : Look) (t : TypeId) (v : AV) (st : Store) : Option (AV × Store) :=
  match v with
  | .agg cs => match freezeCells P (fun i => match fieldsT P t i with | some (_, ft) => elemT P ft | none => none) cs 0 st with
    | some (cs', st') => some (.agg cs', st')
    | none => none
  | v => match freezeCells P (fun _ => elemT P t) [v] 0 st with
    | some ([x], st') => some (x, st')
    | _ => none

def aundefO : Out := .val aundef

/-! ### The operations, one by one -/
abbrev Ans := Option (Out × Store)
def ret1 (v : AV) (st : Store) : Ans := some (.val v, st)

def aMove (P : Look) (md : Nat) (type : TypeId) : List In → Store → Ans
  | [.val v], st => if md = 2 then (match freezeV P type v st with
    | some r => some (.val r.1, r.2)
    | none => none) else some (.val v, st)
  | [.loc b off _], st => some (.loc b off, st)
  | _, _ => none
def aPick : List In → Store → Ans
  | [.val (.bool c), .val a, .val b], st => some (.val (bif c then a else b), st)
  | _, _ => none
def aAlloc (P : Look) (md : Nat) (t : TypeId) (st : Store) : Ans :=
  match zeroT P t with
  | some z => if md = 1 then some (.box z.cells, st) else if md = 3 then some (.val (.ptr st.nobj 0), st.new (.tcells t z.cells.length z.cells)) else some (.val (.ptr st.nobj 0), st.new (.cells z.cells))
  | none => none
def aBox (md : Nat) : List In → Store → Ans
  | [.val v], st => if v.noTuple = true then
      (if md = 1 then some (.box v.cells, st)
      else if md = 2 then some (.val (.rptr v.cells), st)
      else some (.val (.ptr st.nobj 0), st.new (.cells v.cells)))
    else none
  | _, _ => none
def placeS (P : Look) (fs : Array Field) (i : Nat) : Option (Nat × Nat) := match fs[i]? with
  | some f => match sizeT P f.type with
    | some sz => some (f.offset, sz)
    | none => none
  | none => none
def placeA (sz : Nat) (i : Nat) : Option (Nat × Nat) := some (i * sz, sz)
def aBuild (P : Look) (t : TypeId) (ps : List Nat) (vs : List AV) (st : Store) : Ans :=
  match zeroT P t with
  | some z => (match P.und t with
    | some (.struct fs) => if fs.all (fun f => (sizeT P f.type).isSome) = true then (match fillV (placeS P fs) (ps.zip vs) z.cells with
        | some cs => some (.val (.agg cs), st)
        | none => none)
      else none
    | some (.array _ e) => (match sizeT P e with
      | some sz => (match fillV (placeA sz) (ps.zip vs) z.cells with
        | some cs => some (.val (.agg cs), st)
        | none => none)
      | none => none)
    | _ => none)
  | none => none
def aBuildSlice (P : Look) (md : Nat) (t : TypeId) (len : Nat) (ps : List Nat) (vs : List AV) (st : Store) : Ans :=
  match elemT P t with
  | some e => (match sizeT P e with
    | some sz => (match zeroT P e with
      | some z => if len * sz ≤ 16777216 ∧ z.cells.length = sz ∧ 0 < sz then
          (match fillV (placeA sz) (ps.zip vs) (flat (List.replicate len z)) with
          | some cs => if md = 1 then some (.val (.arr sz st.nobj 0 len (some len)), st.new (.cells cs))
            else (match elemsOf P e cs len with
              | some xs => some (.val (.row sz none (some len) xs), st)
              | none => none)
          | none => none)
        else none
      | none => none)
    | none => none)
  | none => none
def loadCs (st : Store) (sz : Nat) : In → Option (List AV)
  | .val (.ptr o off) => (match st.getCells o with
    | some cs => cut cs off sz
    | none => none)
  | .val (.rptr cs) => cut cs 0 sz
  | .loc _ off cs => cut cs off sz
  | _ => none
def aLoad (P : Look) (md : Nat) (t : TypeId) : List In → Store → Ans
  | [x], st => (match sizeT P t with
    | some sz => (match loadCs st sz x with
      | some cs => (match mkT P t cs with
        | some v => if md = 2 then (match freezeV P t v st with
          | some r => some (.val r.1, r.2)
          | none => none) else some (.val v, st)
        | none => none)
      | none => none)
    | none => none)
  | _, _ => none
def storeCs (v : AV) (st : Store) : In → Ans
  | .val (.ptr o off) => (match st.getCells o with
    | some cs => (match splice cs off v.cells with
      | some cs' => some (aundefO, st.put o cs')
      | none => none)
    | none => none)
  | .loc b off cs => (match splice cs off v.cells with
    | some cs' => some (.lst b cs', st)
    | none => none)
  | _ => none
def aStore (P : Look) (t : TypeId) : List In → Store → Ans
  | [x, .val v], st => (match sizeT P t with
    | some sz => if v.cells.length = sz ∧ v.noTuple = true then storeCs v st x else none
    | none => none)
  | _, _ => none
def notNil : AV → Bool
  | .ptr .. | .rptr _ | .iface .. | .func (.func _) _ _ => true
  | _ => false
def aNilCheck : List In → Store → Ans
  | [.val v], st => if notNil v then some (.val v, st) else none
  | [.loc b off _], st => some (.loc b off, st)
  | _, _ => none
/-- A pointer held against itself. -/
def ptrBin (P : Look) (t : TypeId) (op : BinOp) : AV → AV → Store → Ans
  | .ptr o off, .ptr o' off', st => (match P.und t with
    | some (.pointer te) => (match sizeT P te with
      | some _ => (match st.getCells o with
        | some _ => if o = o' ∧ off = off' then (match op with
            | .eql => some (.val (.bool true), st)
            | .neq => some (.val (.bool false), st)
            | _ => none) else none
        | none => none)
      | none => none)
    | _ => none)
  | _, _, _ => none
def aBin (P : Look) (t : TypeId) (op : BinOp) (x y : Operand) : List In → Store → Ans
  | [.val a, .val b], st => (match binV P t op x y a b with
    | some v => some (.val v, st)
    | none => ptrBin P t op a b st)
  | _, _ => none
def aUn (op : UnOp) : List In → Store → Ans
  | [.val a], st => (match unV op a with
    | some v => some (.val v, st)
    | none => none)
  | _, _ => none
/-- Boxes that nobody writes any more, as they are captured. -/
def freezePtrs : List AV → Store → Option (List AV × Store)
  | [], st => some ([], st)
  | .ptr o off :: r, st => (match st.getCells o with
    | some cs => if off = 0 then (match freezePtrs r (st.set o .dead) with
      | some q => some (.rptr cs :: q.1, q.2)
      | none => none) else none
    | none => none)
  | v :: r, st => (match freezePtrs r st with
    | some q => some (v :: q.1, q.2)
    | none => none)
def aMakeFunc (md : Nat) (fn : Fn) (n : Nat) (vs : List AV) (st : Store) : Ans := match fn with
  | .func f => if md = 2 then (match freezePtrs vs st with
      | some q => some (.val (.func (.func f) (q.1.take n) (q.1.drop n)), q.2)
      | none => none)
    else some (.val (.func (.func f) (vs.take n) (vs.drop n)), st)
  | _ => none
def aConv (P : Look) (s d : TypeId) : List In → Store → Ans
  | [.val a], st => (match convV P s d a st with
    | some r => some (.val r.1, r.2)
    | none => none)
  | _, _ => none
def aIface (P : Look) (t : TypeId) : List In → Store → Ans
  | [.val a], st => (match P.und t with
    | some (.interface _) => none
    | some _ => some (.val (.iface t a), st)
    | none => none)
  | _, _ => none
def aMakeSlice (P : Look) (md : Nat) (t : TypeId) : List In → Store → Ans
  | [.val (.int _ l), .val (.int _ c)], st => (match elemT P t with
    | some e => (match sizeT P e with
      | some sz => (match bytesT P e with
        | some by_ => (match zeroT P e with
          | some z =>
            if 0 ≤ l ∧ l ≤ c ∧ c ≤ 140737488355328 ∧ c.toNat * by_ ≤ maxBytes ∧ z.cells.length = sz ∧ 0 < sz then
              (if md = 1 then some (.val (.row sz (some (st.ntop, 0)) (some c.toNat) (List.replicate l.toNat z)), st.newTop (l.toNat, e))
              else some (.val (.arr sz st.nobj 0 l.toNat (some c.toNat)), st.new (.cells (flat (List.replicate c.toNat z)))))
            else none
          | none => none)
        | none => none)
      | none => none)
    | none => none)
  | _, _ => none
def aSlice (P : Look) (t : TypeId) (lo hi mx : Option Operand) : List In → Store → Ans
  | .val x :: r, st => if mx.isSome = true ∧ hi.isNone = true then none else (match takeO lo r with
    | some (l, r) => (match takeO hi r with
      | some (h, r) => (match takeO mx r with
        | some (m, []) => (match sliceV P t st x l h m with
          | some v => some (.val v, st)
          | none => none)
        | _ => none)
      | none => none)
    | none => none)
  | _, _ => none
def addrBy (n : Nat) (st : Store) : In → Ans
  | .val (.ptr o a) => some (.val (.ptr o (a + n)), st)
  | .val (.rptr cs) => some (.val (.rptr (cs.drop n)), st)
  | .loc b a _ => some (.loc b (a + n), st)
  | _ => none
def aFieldAddr (P : Look) (s : TypeId) (f : Nat) : List In → Store → Ans
  | [x], st => (match fieldsT P s f with
    | some (off, ft) => (match sizeT P ft with
      | some sz => if 0 < sz then addrBy off st x else none
      | none => none)
    | none => none)
  | _, _ => none
def partV (P : Look) (t : TypeId) (cs : List AV) (off : Nat) (st : Store) : Ans :=
  match sizeT P t with
  | some sz => (match cut cs off sz with
    | some c => (match mkT P t c with
      | some v => some (.val v, st)
      | none => none)
    | none => none)
  | none => none
def aField (P : Look) (s : TypeId) (f : Nat) : List In → Store → Ans
  | [.val (.agg cs)], st => (match fieldsT P s f with
    | some (off, ft) => partV P ft cs off st
    | none => none)
  | _, _ => none
def elemAddr (sz : Nat) (i : AV) (st : Store) : In → Ans
  | .val (.row s _ _ xs) => if s = sz then (match idx i xs.length with
    | some j => (match xs[j]? with
      | some y => some (.val (.rptr y.cells), st)
      | none => none)
    | none => none) else none
  | .val (.arr s o off len _) => if s = sz then (match idx i len with
    | some j => some (.val (.ptr o (off + j * sz)), st)
    | none => none) else none
  | _ => none
def aIndexAddr (P : Look) (t : TypeId) : List In → Store → Ans
  | [x, .val i], st => (match P.und t with
    | some (.slice e) => (match sizeT P e with
      | some sz => elemAddr sz i st x
      | none => none)
    | some (.array n e) => (match sizeT P e with
      | some sz => (match idx i n with
        | some j => addrBy (j * sz) st x
        | none => none)
      | none => none)
    | _ => none)
  | _, _ => none
def indexS (i : AV) (st : Store) : AV → Ans
  | .str s => (match idx i s.length with
    | some j => (match s[j]? with
      | some b => some (.val (.int .u8 b.toNat), st)
      | none => none)
    | none => none)
  | _ => none
def indexC (P : Look) (n : Nat) (e : TypeId) (i : AV) (st : Store) : AV → Ans
  | .agg cs => (match sizeT P e with
    | some sz => (match idx i n with
      | some j => partV P e cs (j * sz) st
      | none => none)
    | none => none)
  | _ => none
def aIndex (P : Look) (t : TypeId) : List In → Store → Ans
  | [.val x, .val i], st => (match P.und t with
    | some .string => indexS i st x
    | some (.array n e) => indexC P n e i st x
    | _ => none)
  | _, _ => none
def entriesOf (st : Store) : AV → Option (List (AV × AV × Nat))
  | .nilmap => some []
  | .map o => (match st.get o with
    | some (.map es _) => some es
    | _ => none)
  | _ => none
def aLookup (P : Look) (t : TypeId) (ok : Bool) : List In → Store → Ans
  | [.val m, .val k], st => (match keyT P t with
    | some (d, et) => (match sameKey d k k with
      | some _ => (match entriesOf st m with
        | some es => (match findK d k es 0 with
          | some (some (_, v)) => some (.val (bif ok then .tuple [v, .bool true] else v), st)
          | some none => (match zeroT P et with
            | some z => some (.val (bif ok then .tuple [z, .bool false] else z), st)
            | none => none)
          | none => none)
        | none => none)
      | none => none)
    | none => none)
  | _, _ => none
def aMapSet (P : Look) (t : TypeId) : List In → Store → Ans
  | [.val (.map o), .val k, .val v], st => (match keyT P t with
    | some (d, _) => (match sameKey d k k with
      | some _ => (match st.get o with
        | some (.map es clock) => (match findK d k es 0 with
          | some (some (i, _)) => some (aundefO, st.set o (.map (es.modify i fun e => (k, v, e.2.2)) clock))
          | some none => some (aundefO, st.set o (.map (es ++ [(k, v, clock)]) (clock + 1)))
          | none => none)
        | _ => none)
      | none => none)
    | none => none)
  | _, _ => none
def aExtract (i : Nat) : List In → Store → Ans
  | [.val (.tuple vs)], st => (match vs[i]? with
    | some v => some (.val v, st)
    | none => none)
  | _, _ => none
def aRange (P : Look) (t : TypeId) : List In → Store → Ans
  | [.val (.str s)], st => (match P.und t with
    | some .string => some (.val (.ptr st.nobj 0), st.new (.siter s 0))
    | _ => none)
  | _, _ => none
def aNext : List In → Store → Ans
  | [.val (.ptr o 0)], st => (match st.get o with
    | some (.siter s pos) => if pos < s.length then
        some (.val (.tuple [.bool true, .int .i64 pos, .int .i32 (Utf8.decode ⟨s.toArray⟩ pos).1]), st.set o (.siter s (pos + (Utf8.decode ⟨s.toArray⟩ pos).2)))
      else some (.val (.tuple [.bool false]), st)
    | _ => none)
  | _, _ => none
/-- What len asks for, by the type. -/
def lenV (st : Store) (d : TypeDesc) (x : AV) : Option Nat := match d with
  | .string => (match x with | .str s => some s.length | _ => none)
  | .slice _ => (match x with | .nils => some 0 | .zsl => some 0 | .row _ _ _ xs => some xs.length | .arr _ _ _ n _ => some n | _ => none)
  | .map _ _ => (match entriesOf st x with | some es => some es.length | none => none)
  | .array n _ => some n
  | _ => none
def aLen (P : Look) (t : TypeId) : List In → Store → Ans
  | [.val x], st => (match P.und t with
    | some d => (match lenV st d x with
      | some n => some (.val (.int .i64 n), st)
      | none => none)
    | none => none)
  | _, _ => none
def capV : AV → Option Nat
  | .nils => some 0
  | .row _ _ c _ => c
  | .arr _ _ _ _ c => c
  | _ => none
def aCap (P : Look) (t : TypeId) : List In → Store → Ans
  | [.val x], st => (match elemT P t with
    | some _ => (match capV x with
      | some n => some (.val (.int .i64 n), st)
      | none => none)
    | none => none)
  | _, _ => none
def ansV : Option (AV × Store) → Ans
  | some r => some (.val r.1, r.2)
  | none => none
def isIntT (P : Look) (t : TypeId) : Option Bool := match P.und t with
  | some (.int _) => some true
  | some (.slice _) => some false
  | some .string => some false
  | _ => none
/-- So many zeros, for 'append(s, make([]T, n)...)'. -/
def zerosV (P : Look) (e : TypeId) : AV → Option (List AV)
  | .int _ n => (match sizeT P e with
    | some sz => (match bytesT P e with
      | some by_ => (match zeroT P e with
        | some z => if 0 ≤ n ∧ n ≤ 140737488355328 ∧ n.toNat * by_ ≤ maxBytes ∧ z.cells.length = sz then some (List.replicate n.toNat z) else none
        | none => none)
      | none => none)
    | none => none)
  | _ => none
def aAppend (P : Look) (md : Nat) (t t1 : TypeId) : List In → Store → Ans
  | [.val s, .val x], st => (match elemT P t with
    | some e => (match isIntT P t1 with
      | some true => (match zerosV P e x with
        | some xs => ansV (appendV P md e s xs st)
        | none => none)
      | some false => (match readRow P e st x with
        | some xs => ansV (appendV P md e s xs st)
        | none => none)
      | none => none)
    | none => none)
  | _, _ => none
def elSize (sz : Nat) : AV → Bool
  | .arr s _ _ _ _ => s == sz
  | _ => true
def aCopy (P : Look) (t : TypeId) : List In → Store → Ans
  | [.val d, .val x], st => (match elemT P t with
    | some e => (match sizeT P e with
      | some sz => (match readRow P e st x with
        | some xs => if elSize sz d = true then ansV (copyV d xs st) else none
        | none => none)
      | none => none)
    | none => none)
  | _, _ => none
def aMin : List In → Store → Ans
  | [.val (.int k x), .val (.int _ y)], st => some (.val (.int k (if y < x then y else x)), st)
  | _, _ => none
def aMax : List In → Store → Ans
  | [.val (.int k x), .val (.int _ y)], st => some (.val (.int k (if y > x then y else x)), st)
  | _, _ => none
def aSliceData : List In → Store → Ans
  | [.val .nils], st => some (.val .nilptr, st)
  | [.val (.row 1 (some (t, 0)) _ (x :: xs))], st => some (.val (.uptr t (x :: xs)), st)
  | _, _ => none
def asByteN : AV → Option UInt8
  | .int .u8 (.ofNat m) => if m < 256 then some (UInt8.ofNat m) else none
  | _ => none
def asBytesN : List AV → Option (List UInt8)
  | [] => some []
  | x :: xs => (match asByteN x with
    | some b => (match asBytesN xs with
      | some bs => some (b :: bs)
      | none => none)
    | none => none)
def aUnsafeStr (P : Look) (pt : TypeId) : List In → Store → Ans
  | [.val (.uptr t xs), .val (.int .i64 n)], st => if n = xs.length ∧ xs.length ≤ 9223372036854775807 ∧ xs ≠ [] then (match P.und pt with
    | some (.pointer e) => (match sizeT P e with
      | some 1 => (match st.top t with
        | some (_, e') => if e' = e then (match asBytesN xs with
          | some bs => some (.val (.str bs), st)
          | none => none) else none
        | none => none)
      | _ => none)
    | _ => none) else none
  | [.val .nilptr, .val (.int .i64 n)], st => if n = 0 then some (.val (.str []), st) else none
  | _, _ => none
def aBuiltin (P : Look) (md : Nat) (b : Builtin) (ts : Array TypeId) (ins : List In) (st : Store) : Ans :=
  match b with
  | .len => (match ts[0]? with | some t => aLen P t ins st | none => none)
  | .cap => (match ts[0]? with | some t => aCap P t ins st | none => none)
  | .append => (match ts[0]? with | some t => (match ts[1]? with | some t1 => aAppend P md t t1 ins st | none => none) | none => none)
  | .copy => (match ts[0]? with | some t => aCopy P t ins st | none => none)
  | .min => aMin ins st
  | .max => aMax ins st
  | .unsafeSliceData => aSliceData ins st
  | .unsafeString => (match ts.toList with
    | [pt, _] => aUnsafeStr P pt ins st
    | _ => none)
  | _ => none

/-- What an operation that calls no function answers. md: how it is read. -/
def aop (P : Look) (md : Nat) (type : TypeId) (o : Op) (ins : List In) (st : Store) : Ans :=
  match o with
  | .move _ => aMove P md type ins st
  | .assign _ => aMove P md type ins st
  | .pick _ _ _ => aPick ins st
  | .alloc t => aAlloc P md t st
  | .box _ _ => aBox md ins st
  | .build t ps => (match valsOf ins with
    | some vs => aBuild P t (ps.toList.map (·.1)) vs st
    | none => none)
  | .buildSlice t len ps => (match valsOf ins with
    | some vs => aBuildSlice P md t len (ps.toList.map (·.1)) vs st
    | none => none)
  | .load t _ => aLoad P md t ins st
  | .store t _ _ => aStore P t ins st
  | .nilCheck _ => aNilCheck ins st
  | .binOp op t x y _ => aBin P t op x y ins st
  | .unOp op _ _ => aUn op ins st
  | .convert s d _ => aConv P s d ins st
  | .makeInterface t _ => aIface P t ins st
  | .makeFunc fn first _ => (match valsOf ins with
    | some vs => aMakeFunc md fn first.size vs st
    | none => none)
  | .makeMap _ none => some (.val (.map st.nobj), st.new (.map [] 0))
  | .makeSlice t _ _ => aMakeSlice P md t ins st
  | .slice t _ lo hi mx => aSlice P t lo hi mx ins st
  | .fieldAddr s _ f => aFieldAddr P s f ins st
  | .field s _ f => aField P s f ins st
  | .indexAddr t _ _ => aIndexAddr P t ins st
  | .index t _ _ => aIndex P t ins st
  | .lookup t _ _ ok => aLookup P t ok ins st
  | .mapUpdate t _ _ _ => aMapSet P t ins st
  | .insert t _ _ _ => aMapSet P t ins st
  | .extract _ i => aExtract i ins st
  | .range t _ => aRange P t ins st
  | .next _ true => aNext ins st
  | .call c => (match c.callee with
    | .builtin b => aBuiltin P md b c.argTypes ins st
    | _ => none)
  | _ => none

/-! ### Frames -/
def aeval (globals : Nat → Option AV) (A : Ann) (fr : AFr) : Operand → Option In
  | .tmp t => match A.base t with
    | none => (fr.tmps[t]?).map .val
    | some b => match fr.offs[b]?, fr.offs[t]?, fr.lbs[b]? with
      | some (some _), some (some off), some cs => some (.loc b off cs)
      | _, _, _ => none
  | .const v => (absC v).map .val
  | .global g => (globals g).map .val
  | .func f => some (.val (.func (.func f) [] []))
def aevals (globals : Nat → Option AV) (A : Ann) (fr : AFr) : List Operand → Option (List In)
  | [] => some []
  | x :: xs => match aeval globals A fr x with
    | some v => match aevals globals A fr xs with
      | some vs => some (v :: vs)
      | none => none
    | none => none
/-- Pointers into a box that is laid anew. -/
def purge (A : Ann) (b : Nat) : Nat → List (Option Nat) → List (Option Nat)
  | _, [] => []
  | i, o :: os => (if A.base i = some b then none else o) :: purge A b (i + 1) os
def aput (A : Ann) (fr : AFr) (op : Op) (dst : Option Tmp) (out : Out) : Option AFr :=
  match out, dst with
  | .val v, some d => (match A.base d with
    | none => some { fr with tmps := fr.tmps.set d v }
    | some _ => none)
  | .val _, none => some fr
  | .loc b off, some d => (match fr.offs[b]? with
    | some (some _) => if A.base d = some b ∧ d ≠ b then some { fr with offs := fr.offs.set d (some off) } else none
    | _ => none)
  | .box cs, some d => if A.base d = some d then some { fr with offs := (purge A d 0 fr.offs).set d (some 0), lbs := fr.lbs.set d cs } else none
  | .lst b cs, none => (match op with
    | .store _ (.tmp t) _ => (match fr.offs[b]? with
      | some (some _) => if A.base t = some b ∧ A.base b = some b then some { fr with lbs := fr.lbs.set b cs } else none
      | _ => none)
    | _ => none)
  | _, _ => none
/-- An operation that is not run: its temporary holds nothing. -/
def aputNone (A : Ann) (fr : AFr) (dst : Option Tmp) : Option AFr :=
  match dst with
  | none => some fr
  | some d => (match A.base d with
    | none => some { fr with tmps := fr.tmps.set d aundef }
    | some _ => some { fr with offs := fr.offs.set d none })
def aYield (ops : List Oper) (fr : AFr) (A : Ann) (j : Nat) : Option (Option Bool) :=
  match ops[j]? with
  | none => some none
  | some o => match o.dst with
    | none => some none
    | some d => (match A.base d with
      | some _ => none
      | none => match fr.tmps[d]? with
        | some (.bool b) => some (some b)
        | some (.tuple _) => some none
        | _ => none)
def aWanted (A : Ann) (ops : List Oper) (fr : AFr) (o : Oper) : Option Bool :=
  match o.guard with
  | none => some true
  | some (j, want) => (aYield ops fr A j).map (· == some want)

inductive AEx where
  | normal
  | exit (id : Nat)
  | ret
  deriving DecidableEq, Inhabited

/-- A caller: what a function's value answers. -/
abbrev Caller := AV → List AV → Store → Option (AV × Store)

structure Env where
  P : Program
  globals : Nat → Option AV
  L : Look
  hL : L = Look.of P

/-- What an operation answers, of what it is given. -/
def aout (E : Env) (call : Caller) (md : Nat) (o : Oper) (ins : List In) (st : Store) : Ans :=
  match o.op with
  | .call c => (match c.callee with
    | .value _ => (match valsOf ins with
      | some (f :: args) => (match call f args st with
        | some r => some (.val r.1, r.2)
        | none => none)
      | _ => none)
    | .invoke _ _ => none
    | .builtin _ => aop E.L md o.type o.op ins st)
  | _ => aop E.L md o.type o.op ins st
def aoper (E : Env) (call : Caller) (A : Ann) (md : Nat) (o : Oper) (fr : AFr) (st : Store) : Option (AFr × Store) :=
  match aevals E.globals A fr o.op.operands.toList with
  | none => none
  | some ins => (match aout E call md o ins st with
    | some r => (match aput A fr o.op o.dst r.1 with
      | some fr' => some (fr', r.2)
      | none => none)
    | none => none)

/-- A region's operations, one behind the other. -/
def aops (E : Env) (call : Caller) (A : Ann) (rid : Nat) (all : List Oper) : List Oper → Nat → AFr → Store → Option (AFr × Store)
  | [], _, fr, st => some (fr, st)
  | o :: rest, i, fr, st => match aWanted A all fr o with
    | some true => (match aoper E call A (A.mode rid i) o fr st with
      | some (fr', st') => aops E call A rid all rest (i + 1) fr' st'
      | none => none)
    | some false => (match aputNone A fr o.dst with
      | some fr' => aops E call A rid all rest (i + 1) fr' st
      | none => none)
    | none => none

/-! ### Regions whose order is drawn -/
/-- Whether what is read of an operand hangs on the store; whether an operation neither reads nor changes it. -/
def freeIn : AV → Bool
  | .ptr _ _ | .arr .. | .map _ => false
  | _ => true
def freeIns : List In → Bool
  | [] => true
  | .val v :: r => freeIn v && freeIns r
  | .loc .. :: r => freeIns r
def notSliceT (P : Look) (d : TypeId) : Bool := match P.und d with | some (.slice _) => false | _ => true
def notPtrs : List In → Bool
  | [.val (.ptr _ _), .val (.ptr _ _)] => false
  | _ => true
def freeOp (P : Look) (md : Nat) (o : Op) (ins : List In) : Bool :=
  match o with
  | .move _ | .assign _ | .makeFunc .. => md != 2
  | .binOp .. => notPtrs ins
  | .pick .. | .build .. | .nilCheck _ | .unOp .. | .makeInterface .. | .fieldAddr .. | .field .. | .index .. | .indexAddr .. | .extract .. => true
  | .alloc _ => md == 1
  | .box .. => md == 1 || md == 2
  | .buildSlice .. => md != 1
  | .load .. => md != 2 && freeIns ins
  | .store .. => (match ins with | .loc .. :: _ => true | _ => false)
  | .slice .. => freeIns ins
  | .convert _ d _ => freeIns ins && notSliceT P d
  | .call c => (match c.callee with
    | .builtin .len | .builtin .cap => freeIns ins
    | .builtin .min | .builtin .max => true
    | .builtin .unsafeSliceData => true
    | _ => false)
  | _ => false
/-- Whether an operation changes no store. -/
def keepOp (P : Look) (md : Nat) (o : Op) : Bool :=
  match o with
  | .load .. => md != 2
  | .slice .. | .lookup .. | .binOp .. => true
  | .convert _ d _ => notSliceT P d
  | .call c => (match c.callee with
    | .builtin .len | .builtin .cap => true
    | _ => false)
  | _ => false
/-- 0: the store is no matter; 1: it is looked at; 2: it may be changed. -/
def labOp (P : Look) (md : Nat) (o : Op) (ins : List In) : Nat := if freeOp P md o ins = true then 0 else if keepOp P md o = true then 1 else 2
/-- The operations in text order, and what they do to the store. -/
def aopsF (E : Env) (call : Caller) (A : Ann) (rid : Nat) (all : List Oper) : List Oper → Nat → AFr → Store → Option (AFr × Store × List Nat)
  | [], _, fr, st => some (fr, st, [])
  | o :: rest, i, fr, st => match aWanted A all fr o with
    | some true => (match aevals E.globals A fr o.op.operands.toList with
      | none => none
      | some ins => (match aout E call (A.mode rid i) o ins st with
        | some r => (match aput A fr o.op o.dst r.1 with
          | some fr' => (match aopsF E call A rid all rest (i + 1) fr' r.2 with
            | some q => some (q.1, q.2.1, labOp E.L (A.mode rid i) o.op ins :: q.2.2)
            | none => none)
          | none => none)
        | none => none))
    | some false => (match aputNone A fr o.dst with
      | some fr' => (match aopsF E call A rid all rest (i + 1) fr' st with
        | some q => some (q.1, q.2.1, 0 :: q.2.2)
        | none => none)
      | none => none)
    | none => none
/-- Which must be done before one. -/
def anyEdges (o : Oper) : List Nat := (o.after.toList.filter (Region.binds .any)).map (·.on)
/-- The same, and what must be done before these: as bits. -/
def closure : List Nat → List (List Nat) → List Nat
  | acc, [] => acc
  | acc, e :: r => closure (acc ++ [e.foldl (fun m j => m ||| 2 ^ j ||| acc.getD j 0) 0]) r
def backOk : Nat → List (List Nat) → Bool
  | _, [] => true
  | i, e :: r => e.all (decide <| · < i) && backOk (i + 1) r
/-- What an operation looks at, and what it lays down: temporaries (2t), boxes (2b+1). -/
def lookT (A : Ann) (t : Nat) : List Nat := match A.base t with | none => [2 * t] | some b => [2 * t, 2 * b, 2 * b + 1]
def lookX (A : Ann) : Operand → List Nat
  | .tmp t => lookT A t
  | _ => []
def lookG (A : Ann) (all : List Oper) : Option (Nat × Bool) → List Nat
  | some (j, _) => (match all[j]? with
    | some oj => (match oj.dst with | some d => lookT A d | none => [])
    | none => [])
  | none => []
def lookD (A : Ann) : Option Tmp → List Nat
  | some d => (match A.base d with | some b => if b = d then [] else [2 * b] | none => [])
  | none => []
def looks (A : Ann) (all : List Oper) (o : Oper) : List Nat := o.op.operands.toList.flatMap (lookX A) ++ (lookG A all o.guard ++ lookD A o.dst)
def layD : Option Tmp → List Nat
  | some d => [2 * d, 2 * d + 1]
  | none => []
def layS (A : Ann) : Op → List Nat
  | .store _ (.tmp t) _ => (match A.base t with | some b => [2 * b + 1] | none => [])
  | _ => []
def lays (A : Ann) (o : Oper) : List Nat := layD o.dst ++ layS A o.op
def apartOps (A : Ann) (all : List Oper) (x y : Oper) : Bool :=
  (lays A x).all (fun r => !(looks A all y).contains r && !(lays A y).contains r) && (lays A y).all (fun r => !(looks A all x).contains r)
def labsOk (a b : Nat) : Bool := a == 0 || b == 0 || (a == 1 && b == 1)
def pairsFrom (A : Ann) (all : List Oper) (cl : List Nat) (fs : List Nat) (i : Nat) (x : Oper) (fx : Nat) : List Oper → Nat → Bool
  | [], _ => true
  | y :: r, j => ((cl.getD j 0).testBit i || (labsOk fx (fs.getD j 2) && apartOps A all x y)) && pairsFrom A all cl fs i x fx r (j + 1)
def pairsOk (A : Ann) (all : List Oper) (cl : List Nat) (fs : List Nat) : List Oper → Nat → Bool
  | [], _ => true
  | x :: r, i => pairsFrom A all cl fs i x (fs.getD i 2) r (i + 1) && pairsOk A all cl fs r (i + 1)
def adraw (E : Env) (call : Caller) (A : Ann) (rid : Nat) (all : List Oper) (fr : AFr) (st : Store) : Option (AFr × Store) :=
  if backOk 0 (all.map anyEdges) = true then (match aopsF E call A rid all all 0 fr st with
    | some q => if pairsOk A all (closure [] (all.map anyEdges)) q.2.2 all 0 = true then some (q.1, q.2.1) else none
    | none => none)
  else none

def aloop (body : AFr → Store → Option (AEx × AFr × Store)) : Nat → AFr → Store → Option (AEx × AFr × Store)
  | 0, _, _ => none
  | n + 1, fr, st => match body fr st with
    | some (.normal, fr', st') => aloop body n fr' st'
    | r => r

/-- What is left of a jump out of a loop over a function. -/
def jumpEx : Option Code → Option AEx
  | none => some .normal
  | some .ret => some .ret
  | some (.exit id) => some (.exit id)
  | _ => none
def exJump : AEx → Option Code
  | .normal => none
  | .ret => some .ret
  | .exit id => some (.exit id)

/-- Temporaries as a loop over a function keeps them: pointers into boxes are not told. -/
def snap (A : Ann) : Nat → List AV → List AV
  | _, [] => []
  | i, x :: xs => (match A.base i with | none => x | some _ => .junk) :: snap A (i + 1) xs
def entersF (E : Env) (k : FuncId) : Bool := match E.L.fn k with
  | some fn => fn.body.isSome
  | none => false
def endLoopA (fr : AFr) (st : Store) (o : Nat) : Option (AEx × AFr × Store) := match st.get o with
  | some (.loop s pend f tmps ps as b) => (match s with
    | .busy => none
    | _ => (match jumpEx pend with
      | some ex => some (ex, fr, st.set o (.loop .exhausted pend f tmps ps as b))
      | none => none))
  | _ => none
def acode (E : Env) (call : Caller) (A : Ann) (f : FuncId) (n : Nat) (rd : Bool) : Code → AFr → Store → Option (AEx × AFr × Store)
  | .skip, fr, st | .label _, fr, st => some (.normal, fr, st)
  | .region id ops false, fr, st => match aops E call A id ops.toList ops.toList 0 fr st with
    | some (fr', st') => some (.normal, fr', st')
    | none => none
  | .region id ops true, fr, st => match adraw E call A id ops.toList fr st with
    | some (fr', st') => some (.normal, fr', st')
    | none => none
  | .seq a b, fr, st => match acode E call A f n rd a fr st with
    | some (.normal, fr', st') => acode E call A f n rd b fr' st'
    | r => r
  | .cond c a b, fr, st => match aeval E.globals A fr c with
    | some (.val (.bool true)) => acode E call A f n rd a fr st
    | some (.val (.bool false)) => acode E call A f n rd b fr st
    | _ => none
  | .block id body, fr, st => match acode E call A f n rd body fr st with
    | some (.exit i, fr', st') => if i == id then some (.normal, fr', st') else some (.exit i, fr', st')
    | r => r
  | .loop body, fr, st => aloop (acode E call A f n rd body) n fr st
  | .exit id, fr, st => some (.exit id, fr, st)
  | .ret, fr, st => some (.ret, fr, st)
  | .rangeFunc it ps assign body, fr, st => if rd = true then none else (match aeval E.globals A fr it with
    | some (.val (.func (.func k) first cap)) => if entersF E k = true then (match call (.func (.func k) first cap) [.func (.yield st.nobj) [] []] (st.new (.loop .ready none f (snap A 0 fr.tmps) ps.toList assign body)) with
      | some r => endLoopA fr r.2 st.nobj
      | none => none) else none
    | _ => none)
  | _, _, _ => none

def aresult (E : Env) (A : Ann) (fr : AFr) (st : Store) : ResultVar → Option AV
  | .tmp t => (match A.base t with
    | none => fr.tmps[t]?
    | some _ => none)
  | .cell a t => (match sizeT E.L t with
    | none => none
    | some sz => (match (match A.base a with
        | some b => (match fr.offs[b]?, fr.offs[a]?, fr.lbs[b]? with
          | some (some _), some (some off), some cs => cut cs off sz
          | _, _, _ => none)
        | none => (match fr.tmps[a]? with
          | some (.ptr o off) => (st.getCells o).bind (cut · off sz)
          | _ => none) : Option (List AV)) with
      | some cs => mkT E.L t cs
      | none => none))
def aresults (E : Env) (A : Ann) (fr : AFr) (st : Store) : List ResultVar → Option (List AV)
  | [] => some []
  | r :: rs => match aresult E A fr st r with
    | some v => match aresults E A fr st rs with
      | some vs => some (v :: vs)
      | none => none
    | none => none
def aenter (fn : Func) (args : List AV) : AFr :=
  { tmps := args ++ List.replicate (fn.ntmps - args.length) aundef, offs := List.replicate (max args.length fn.ntmps) none, lbs := List.replicate (max args.length fn.ntmps) [] }

abbrev Prims := FuncId → Option (List AV → Store → Option (AV × Store))

def afun (E : Env) (An : FuncId → Ann) (call : Caller) (n : Nat) (f : FuncId) (args : List AV) (st : Store) : Option (AV × Store) :=
  match E.L.fn f with
  | none => none
  | some fn => match fn.body with
    | none => none
    | some c => match acode E call (An f) f n false c (aenter fn args) st with
      | some (.exit _, _, _) => none
      | some (_, fr, st') => match aresults E (An f) fr st' fn.results.toList with
        | some [v] => some (v, st')
        | some vs => some (.tuple vs, st')
        | none => none
      | none => none

def setParams : List Tmp → List AV → List AV → Option (List AV)
  | [], [], tmps => some tmps
  | t :: ts, x :: xs, tmps => setParams ts xs (tmps.set t x)
  | _, _, _ => none
/-- A round of a loop over a function. -/
def endRoundA (st : Store) (l : Nat) (ex : AEx) : Option (AV × Store) := match st.get l with
  | some (.loop _ _ f tmps ps as b) => (match ex with
    | .normal => some (.bool true, st.set l (.loop .ready none f tmps ps as b))
    | ex => some (.bool false, st.set l (.loop .done (exJump ex) f tmps ps as b)))
  | _ => none
def ayield (E : Env) (An : FuncId → Ann) (call : Caller) (n : Nat) (l : Nat) (args : List AV) (st : Store) : Option (AV × Store) :=
  match st.get l with
  | some (.loop _ _ f tmps params assign body) => (match setParams params args tmps with
    | none => none
    | some tmps' => (match acode E call (An f) f n true assign { tmps := tmps', offs := List.replicate tmps'.length none, lbs := List.replicate tmps'.length [] } st with
      | some (.normal, fr1, st1) => (match st1.get l with
        | some (.loop .ready pend f1 tmps1 ps1 as1 b1) =>
          (match acode E call (An f) f n true body fr1 (st1.set l (.loop .busy pend f1 tmps1 ps1 as1 b1)) with
          | some r => endRoundA r.2.2 l r.1
          | none => none)
        | _ => none)
      | _ => none))
  | _ => none

/-- A call of a function's value: so many calls deep, so many rounds of a loop. -/
def acall (E : Env) (An : FuncId → Ann) (pr : Prims) : Nat → AV → List AV → Store → Option (AV × Store)
  | 0, _, _, _ => none
  | n + 1, .func (.func f) first cap, args, st => match pr f with
    | some p => (match p (first ++ args ++ cap) st with
      | some r => some r
      | none => afun E An (acall E An pr n) n f (first ++ args ++ cap) st)
    | none => afun E An (acall E An pr n) n f (first ++ args ++ cap) st
  | n + 1, .func (.yield l) [] [], args, st => ayield E An (acall E An pr n) n l args st
  | _ + 1, _, _, _ => none

end Go.Sim

namespace Go.Sim

/-- What a block of memory is for: a row that grows at its end alone; what nobody writes any more; an object. -/
inductive GB where
  | row (t start size tot : Nat) (cells : List Value)
  | stat (cells : List Value)
  | obj (o tot : Nat)

structure Gh where
  blk : Nat → Option GB
  dead : Nat → Prop

def GB.fixed : GB → Option (List Value)
  | .row _ _ _ _ cs => some cs
  | .stat cs => some cs
  | .obj _ _ => none

/-- These cells lie there for good. -/
def Imm (g : Gh) (b o : Nat) (vs : List Value) : Prop := vs = [] ∨ ∃ x cs, g.blk b = some x ∧ x.fixed = some cs ∧ vs <+: cs.drop o
def LiveA (g : Gh) (b o n : Nat) : Prop := g.dead o ∨ ∃ tot, g.blk b = some (.obj o tot) ∧ n ≤ tot
def Live (g : Gh) (b o : Nat) : Prop := LiveA g b o 0
def Fn.plain : Fn → Bool
  | .yield _ => false
  | _ => true
def AllOne (vs : List Value) : Prop := ∀ v ∈ vs, v.oneCell' = true

mutual
inductive Rep (g : Gh) : Value → AV → Prop
  | bool (b : Bool) : Rep g (.bool b) (.bool b)
  | int (k : IntKind) (n : Int) : Rep g (.int k n) (.int k n)
  | str (s : ByteArray) : Rep g (.string s) (.str s.data.toList)
  | nilptr : Rep g (.pointer none) .nilptr
  | ptr (b off o : Nat) (h : Live g b o) : Rep g (.pointer (some ⟨b, off, none⟩)) (.ptr o off)
  | rptr (b o : Nat) (vs : List Value) (cs : List AV) (h : Imm g b o vs) (h1 : AllOne vs) (hr : Reps g vs cs) : Rep g (.pointer (some ⟨b, o, none⟩)) (.rptr cs)
  | nils : Rep g (.slice none 0 0) .nils
  | zsl (a : Addr) : Rep g (.slice (some a) 0 0) .zsl
  | row (b o n c sz : Nat) (tok : Option (Nat × Nat)) (cap : Option Nat) (xs : List AV) (vs : List Value) (hi : Imm g b o vs) (he : RepE g sz vs xs) (hn : xs.length = n) (hc : n ≤ c) (hz : 0 < sz)
      (hcap : ∀ m, cap = some m → m = c) (ht : ∀ t off, tok = some (t, off) → c = 0 ∨ ∃ start tot cs, g.blk b = some (.row t start sz tot cs) ∧ start ≤ off ∧ o = (off - start) * sz ∧ o + n * sz ≤ cs.length ∧ o + c * sz ≤ tot) :
      Rep g (.slice (some ⟨b, o, none⟩) n c) (.row sz tok cap xs)
  | arr (b off o len c sz : Nat) (cap : Option Nat) (h : LiveA g b o (off + c * sz)) (hc : len ≤ c) (hz : 0 < sz) (hcap : ∀ m, cap = some m → m = c) : Rep g (.slice (some ⟨b, off, none⟩) len c) (.arr sz o off len cap)
  | nilmap : Rep g (.map none) .nilmap
  | map (b o : Nat) (h : Live g b o) : Rep g (.map (some b)) (.map o)
  | func (fn : Fn) (a b : Array Value) (x y : List AV) (hf : Fn.plain fn = true) (ha : Reps g a.toList x) (hb : Reps g b.toList y) : Rep g (.func fn a b) (.func fn x y)
  | yield (b o : Nat) (h : Live g b o) : Rep g (.func (.yield b) #[] #[]) (.func (.yield o) [] [])
  | nilFunc : Rep g .nilFunc .nilFunc
  | iface (t : TypeId) (v : Value) (x : AV) (h : Rep g v x) : Rep g (.iface t v) (.iface t x)
  | nilIface : Rep g .nilIface .nilIface
  | agg (cs : Array Value) (xs : List AV) (h1 : AllOne cs.toList) (h : Reps g cs.toList xs) : Rep g (.agg cs) (.agg xs)
  | tuple (cs : Array Value) (xs : List AV) (h : Reps g cs.toList xs) : Rep g (.tuple cs) (.tuple xs)
  | uptr (b t tot : Nat) (cs vs : List Value) (xs : List AV) (hb : g.blk b = some (.row t 0 1 tot cs)) (hv : vs <+: cs) (he : RepE g 1 vs xs) : Rep g (.pointer (some ⟨b, 0, none⟩)) (.uptr t xs)
  | junk (v : Value) : Rep g v .junk
inductive Reps (g : Gh) : List Value → List AV → Prop
  | nil : Reps g [] []
  | cons (v : Value) (x : AV) (vs : List Value) (xs : List AV) (h : Rep g v x) (hs : Reps g vs xs) : Reps g (v :: vs) (x :: xs)
/-- Elements of so many cells. -/
inductive RepE (g : Gh) : Nat → List Value → List AV → Prop
  | nil (sz : Nat) : RepE g sz [] []
  | cons (sz : Nat) (c : List Value) (x : AV) (vs : List Value) (xs : List AV) (hl : c.length = sz) (h1 : AllOne c) (h : Reps g c x.cells) (hs : RepE g sz vs xs) : RepE g sz (c ++ vs) (x :: xs)
end

/-- More is known. -/
structure Le (g g' : Gh) : Prop where
  row : ∀ b t s z n cs, g.blk b = some (.row t s z n cs) → ∃ cs', g'.blk b = some (.row t s z n cs') ∧ cs <+: cs'
  stat : ∀ b cs, g.blk b = some (.stat cs) → g'.blk b = some (.stat cs)
  obj : ∀ b o n, g.blk b = some (.obj o n) → LiveA g' b o n
  dead : ∀ o, g.dead o → g'.dead o

theorem Le.refl (g : Gh) : Le g g := ⟨fun _ _ _ _ _ cs h => ⟨cs, h, List.prefix_rfl⟩, fun _ _ h => h, fun _ _ n h => .inr ⟨n, h, Nat.le_refl n⟩, fun _ h => h⟩
theorem LiveA.mono {g g' : Gh} {b o n : Nat} (hl : Le g g') (h : LiveA g b o n) : LiveA g' b o n := by
  rcases h with h | ⟨tot, h, hn⟩
  · exact .inl (hl.dead o h)
  · rcases hl.obj b o tot h with h | ⟨tot', h, hn'⟩
    · exact .inl h
    · exact .inr ⟨tot', h, by omega⟩
theorem Live.mono {g g' : Gh} {b o : Nat} (hl : Le g g') (h : Live g b o) : Live g' b o := LiveA.mono hl h
theorem LiveA.live {g : Gh} {b o n : Nat} (h : LiveA g b o n) : Live g b o := h.imp id fun ⟨t, h, _⟩ => ⟨t, h, Nat.zero_le _⟩
theorem Le.trans {g g1 g2 : Gh} (h : Le g g1) (h' : Le g1 g2) : Le g g2 where
  row b t s z n cs hb := by
    obtain ⟨cs1, h1, p1⟩ := h.row b t s z n cs hb
    obtain ⟨cs2, h2, p2⟩ := h'.row b t s z n cs1 h1
    exact ⟨cs2, h2, p1.trans p2⟩
  stat b cs hb := h'.stat b cs (h.stat b cs hb)
  obj b o n hb := (h.obj b o n hb).mono h'
  dead o hd := h'.dead o (h.dead o hd)
theorem List.IsPrefix.drop' {α : Type} {a b : List α} (h : a <+: b) (n : Nat) : a.drop n <+: b.drop n := by
  obtain ⟨t, rfl⟩ := h
  rw [List.drop_append]
  exact ⟨_, rfl⟩
theorem Imm.mono {g g' : Gh} {b o : Nat} {vs : List Value} (hl : Le g g') (h : Imm g b o vs) : Imm g' b o vs := by
  rcases h with h | ⟨x, cs, hb, hx, hp⟩
  · exact .inl h
  · cases x with
    | row t s z n c =>
      injection hx with hx; subst hx
      obtain ⟨cs', h1, p1⟩ := hl.row _ _ _ _ _ _ hb
      exact .inr ⟨_, cs', h1, rfl, hp.trans (List.IsPrefix.drop' p1 o)⟩
    | stat c =>
      injection hx with hx; subst hx
      exact .inr ⟨_, _, hl.stat _ _ hb, rfl, hp⟩
    | obj _ _ => cases hx

mutual
theorem Rep.mono {g g' : Gh} (hl : Le g g') : ∀ {v : Value} {x : AV}, Rep g v x → Rep g' v x
  | _, _, .bool b => .bool b
  | _, _, .int k n => .int k n
  | _, _, .str s => .str s
  | _, _, .nilptr => .nilptr
  | _, _, .ptr b off o h => .ptr b off o (h.mono hl)
  | _, _, .rptr b o vs cs h h1 hr => .rptr b o vs cs (h.mono hl) h1 (Reps.mono hl hr)
  | _, _, .nils => .nils
  | _, _, .zsl a => .zsl a
  | _, _, .row b o n c sz tok cap xs vs hi he hn hc hz hcap ht => .row b o n c sz tok cap xs vs (hi.mono hl) (RepE.mono hl he) hn hc hz hcap (fun t off e => (ht t off e).imp id fun ⟨s, tot, cs, h1, h2, h3, h4, h5⟩ => by
      obtain ⟨cs', h6, h7⟩ := hl.row _ _ _ _ _ _ h1
      exact ⟨s, tot, cs', h6, h2, h3, Nat.le_trans h4 h7.length_le, h5⟩)
  | _, _, .arr b off o len c sz cap h hc hz hcap => .arr b off o len c sz cap (h.mono hl) hc hz hcap
  | _, _, .nilmap => .nilmap
  | _, _, .map b o h => .map b o (h.mono hl)
  | _, _, .func fn a b x y hf ha hb => .func fn a b x y hf (Reps.mono hl ha) (Reps.mono hl hb)
  | _, _, .yield b o h => .yield b o (h.mono hl)
  | _, _, .nilFunc => .nilFunc
  | _, _, .iface t v x h => .iface t v x (Rep.mono hl h)
  | _, _, .nilIface => .nilIface
  | _, _, .agg cs xs h1 h => .agg cs xs h1 (Reps.mono hl h)
  | _, _, .tuple cs xs h => .tuple cs xs (Reps.mono hl h)
  | _, _, .uptr b t tot cs vs xs hb hv he => by
    obtain ⟨cs', h6, h7⟩ := hl.row _ _ _ _ _ _ hb
    exact .uptr b t tot cs' vs xs h6 (hv.trans h7) (RepE.mono hl he)
  | _, _, .junk v => .junk v
theorem Reps.mono {g g' : Gh} (hl : Le g g') : ∀ {v : List Value} {x : List AV}, Reps g v x → Reps g' v x
  | _, _, .nil => .nil
  | _, _, .cons v x vs xs h hs => .cons v x vs xs (Rep.mono hl h) (Reps.mono hl hs)
theorem RepE.mono {g g' : Gh} (hl : Le g g') : ∀ {sz : Nat} {v : List Value} {x : List AV}, RepE g sz v x → RepE g' sz v x
  | _, _, _, .nil sz => .nil sz
  | _, _, _, .cons sz c x vs xs hl' h1 h hs => .cons sz c x vs xs hl' h1 (Reps.mono hl h) (RepE.mono hl hs)
end
end Go.Sim

namespace Go.Sim
open Go.WideShapes (add_plain)

def Unfrozen (c : Array Value) (fr : Nat × Nat) (lo : Nat) : Prop := ∀ i, lo ≤ i → i < c.size → ¬ (fr.1 ≤ i ∧ i < fr.2)

inductive EntsRep (g : Gh) : List MapEntry → List (AV × AV × Nat) → Prop
  | nil : EntsRep g [] []
  | cons (e : MapEntry) (k v : AV) (es : List MapEntry) (xs : List (AV × AV × Nat)) (hk : Rep g e.key k) (hv : Rep g e.val v) (h : EntsRep g es xs) : EntsRep g (e :: es) ((k, v, e.born) :: xs)

def ObjOk (g : Gh) (w : World) (b tot : Nat) : AObj → Prop
  | .cells xs => ∃ c e fr vs rest, w.heap[b]? = some (.cells c e fr) ∧ c.toList = vs ++ rest ∧ Reps g vs xs ∧ AllOne c.toList ∧ fr.2 ≤ fr.1 ∧ c.size = tot
  | .tcells t n xs => ∃ c fr vs rest, w.heap[b]? = some (.cells c t fr) ∧ c.toList = vs ++ rest ∧ Reps g vs xs ∧ AllOne c.toList ∧ fr.2 ≤ fr.1 ∧ c.size = tot ∧ n = tot
  | .scells xs => ∃ c e fr vs rest, w.heap[b]? = some (.cells c e fr) ∧ c.toList = vs ++ rest ∧ Reps g vs xs ∧ AllOne c.toList ∧ Unfrozen c fr 0 ∧ c.size = tot
  | .map es clock => ∃ ces, w.heap[b]? = some (.map ces clock) ∧ EntsRep g ces.toList es
  | .siter s pos => w.heap[b]? = some (.stringIter ⟨s.toArray⟩ pos)
  | .loop state pend f tmps params assign body => ∃ l : Loop, w.heap[b]? = some (.loop l) ∧ l.state = state ∧ l.pending = pend ∧ Reps g l.tmps.toList tmps ∧ l.params = params.toArray ∧ l.assign = assign ∧ l.body = body
  | .dead => False

structure Inv (g : Gh) (st : Store) (w : World) : Prop where
  wfo : st.objs.length = st.nobj
  wft : st.tops.length = st.ntop
  row : ∀ b t s sz tot cs, g.blk b = some (.row t s sz tot cs) → 0 < sz ∧ ∃ c e fr top k, w.heap[b]? = some (.cells c e fr) ∧ cs <+: c.toList ∧ cs.length = k * sz ∧ st.top t = some (top, e) ∧ s + k ≤ top ∧ fr.2 ≤ cs.length ∧ c.size = tot
  stat : ∀ b cs, g.blk b = some (.stat cs) → ∃ c e fr, w.heap[b]? = some (.cells c e fr) ∧ c.toList = cs
  obj : ∀ b o tot, g.blk b = some (.obj o tot) → ∃ x, st.get o = some x ∧ ObjOk g w b tot x
  inj : ∀ b b' o n n', g.blk b = some (.obj o n) → g.blk b' = some (.obj o n') → b = b'
  dead : ∀ o, g.dead o → st.get o = some .dead

/-- What a step may change: nothing that nobody told of. -/
structure Adv (g : Gh) (w : World) (g' : Gh) (w' : World) : Prop where
  le : Le g g'
  size : w.heap.size ≤ w'.heap.size
  keep : ∀ b, b < w.heap.size → g.blk b = none → w'.heap[b]? = w.heap[b]? ∧ g'.blk b = none
  stat : ∀ b cs, g.blk b = some (.stat cs) → w'.heap[b]? = w.heap[b]?
  os : w'.os = w.os
  tape : w'.tape = w.tape
  output : w'.output = w.output

theorem Adv.refl (g : Gh) (w : World) : Adv g w g w := ⟨Le.refl g, Nat.le_refl _, fun _ _ h => ⟨rfl, h⟩, fun _ _ _ => rfl, rfl, rfl, rfl⟩
theorem Adv.trans {g g1 g2 : Gh} {w w1 w2 : World} (h : Adv g w g1 w1) (h' : Adv g1 w1 g2 w2) : Adv g w g2 w2 where
  le := h.le.trans h'.le
  size := Nat.le_trans h.size h'.size
  keep b hb hn := by
    obtain ⟨e1, n1⟩ := h.keep b hb hn
    obtain ⟨e2, n2⟩ := h'.keep b (Nat.lt_of_lt_of_le hb h.size) n1
    exact ⟨e2.trans e1, n2⟩
  stat b cs hb := (h'.stat b cs (h.le.stat b cs hb)).trans (h.stat b cs hb)
  os := h'.os.trans h.os
  tape := h'.tape.trans h.tape
  output := h'.output.trans h.output
theorem Adv.drew (g : Gh) (w : World) (n : Nat) : Adv g w g { w with drawn := n } := ⟨Le.refl g, Nat.le_refl _, fun _ _ h => ⟨rfl, h⟩, fun _ _ _ => rfl, rfl, rfl, rfl⟩

section reps
variable {g : Gh}
theorem Reps.length {vs : List Value} {xs : List AV} (h : Reps g vs xs) : vs.length = xs.length := by
  match h with
  | .nil => rfl
  | .cons v x vs xs _ hs => simp [Reps.length hs]
theorem Reps.get {vs : List Value} {xs : List AV} (h : Reps g vs xs) (i : Nat) (x : AV) (hx : xs[i]? = some x) : ∃ v, vs[i]? = some v ∧ Rep g v x := by
  match h, i with
  | .nil, _ => simp at hx
  | .cons v y vs ys h hs, 0 => simp at hx; subst hx; exact ⟨v, rfl, h⟩
  | .cons v y vs ys h hs, i + 1 => simpa using Reps.get hs i x (by simpa using hx)
theorem Reps.append {vs vs' : List Value} {xs xs' : List AV} (h : Reps g vs xs) (h' : Reps g vs' xs') : Reps g (vs ++ vs') (xs ++ xs') := by
  match h with
  | .nil => exact h'
  | .cons v x vs xs h hs => exact .cons _ _ _ _ h (Reps.append hs h')
theorem Reps.take {vs : List Value} {xs : List AV} (h : Reps g vs xs) (n : Nat) : Reps g (vs.take n) (xs.take n) := by
  match h, n with
  | .nil, _ => simp; exact .nil
  | .cons v x vs xs h hs, 0 => exact .nil
  | .cons v x vs xs h hs, n + 1 => exact .cons _ _ _ _ h (Reps.take hs n)
theorem Reps.drop {vs : List Value} {xs : List AV} (h : Reps g vs xs) (n : Nat) : Reps g (vs.drop n) (xs.drop n) := by
  match h, n with
  | .nil, _ => simp; exact .nil
  | .cons v x vs xs h hs, 0 => exact .cons _ _ _ _ h hs
  | .cons v x vs xs h hs, n + 1 => exact Reps.drop hs n
theorem Reps.set {vs : List Value} {xs : List AV} (h : Reps g vs xs) (n : Nat) {v : Value} {x : AV} (hx : Rep g v x) : Reps g (vs.set n v) (xs.set n x) := by
  match h, n with
  | .nil, _ => simp; exact .nil
  | .cons u y vs xs h hs, 0 => exact .cons _ _ _ _ hx hs
  | .cons u y vs xs h hs, n + 1 => exact .cons _ _ _ _ h (Reps.set hs n hx)
theorem Reps.replicate {v : Value} {x : AV} (h : Rep g v x) : ∀ n, Reps g (List.replicate n v) (List.replicate n x)
  | 0 => .nil
  | n + 1 => .cons _ _ _ _ h (Reps.replicate h n)
theorem AllOne.append {a b : List Value} (h : AllOne a) (h' : AllOne b) : AllOne (a ++ b) := fun v hv => (List.mem_append.1 hv).elim (h v) (h' v)
theorem AllOne.take {a : List Value} (h : AllOne a) (n : Nat) : AllOne (a.take n) := fun v hv => h v (List.mem_of_mem_take hv)
theorem AllOne.drop {a : List Value} (h : AllOne a) (n : Nat) : AllOne (a.drop n) := fun v hv => h v (List.mem_of_mem_drop hv)

theorem Rep.cells {v : Value} {x : AV} (h : Rep g v x) (ht : x.noTuple = true) : Reps g v.cells.toList x.cells ∧ AllOne v.cells.toList := by
  have one : ∀ {v : Value} {x : AV}, Rep g v x → v.oneCell' = true → Reps g [v] [x] ∧ AllOne [v] := fun h h1 => ⟨.cons _ _ _ _ h .nil, fun u hu => by rw [List.mem_singleton.1 hu]; exact h1⟩
  cases h with
  | tuple => simp [AV.noTuple] at ht
  | junk => simp [AV.noTuple] at ht
  | uptr b t tot cs vs xs hb hv he => exact one (.uptr b t tot cs vs xs hb hv he) rfl
  | agg cs xs h1 h => exact ⟨h, h1⟩
  | bool b => exact one (.bool b) rfl
  | int k n => exact one (.int k n) rfl
  | str s => exact one (.str s) rfl
  | nilptr => exact one .nilptr rfl
  | ptr b off o h => exact one (.ptr b off o h) rfl
  | rptr b o vs cs h h1 hr => exact one (.rptr b o vs cs h h1 hr) rfl
  | nils => exact one .nils rfl
  | zsl a => exact one (.zsl a) rfl
  | row b o n c sz tok cap xs vs hi he hn hc hz hcap htk => exact one (.row b o n c sz tok cap xs vs hi he hn hc hz hcap htk) rfl
  | arr b off o len c sz cap h hc hz hcap => exact one (.arr b off o len c sz cap h hc hz hcap) rfl
  | nilmap => exact one .nilmap rfl
  | map b o h => exact one (.map b o h) rfl
  | func fn a b x y hf ha hb => exact one (.func fn a b x y hf ha hb) rfl
  | yield b o h => exact one (.yield b o h) rfl
  | nilFunc => exact one .nilFunc rfl
  | iface t v x h => exact one (.iface t v x h) rfl
  | nilIface => exact one .nilIface rfl

theorem RepE.flat' {sz : Nat} {vs : List Value} {xs : List AV} (h : RepE g sz vs xs) : Reps g vs (flat xs) ∧ AllOne vs ∧ vs.length = xs.length * sz := by
  match h with
  | .nil sz => exact ⟨.nil, fun v hv => by simp at hv, by simp⟩
  | .cons sz c x vs xs hl h1 h hs =>
    obtain ⟨a, b, d⟩ := RepE.flat' hs
    refine ⟨?_, h1.append b, by simp [hl, d, Nat.add_mul, Nat.add_comm]⟩
    simp only [flat, List.flatMap_cons]
    exact h.append a
theorem RepE.get {sz : Nat} {vs : List Value} {xs : List AV} (h : RepE g sz vs xs) (i : Nat) (x : AV) (hx : xs[i]? = some x) :
    Reps g ((vs.drop (i * sz)).take sz) x.cells ∧ ((vs.drop (i * sz)).take sz).length = sz := by
  match h, i with
  | .nil _, _ => simp at hx
  | .cons sz c y vs ys hl h1 h hs, 0 =>
    simp at hx; subst hx
    simp [← hl]; exact h
  | .cons sz c y vs ys hl h1 h hs, i + 1 =>
    have e : (c ++ vs).drop ((i + 1) * sz) = vs.drop (i * sz) := by
      rw [List.drop_append, List.drop_eq_nil_of_le (by rw [hl, Nat.add_mul]; omega)]
      simp [hl, Nat.add_mul]
    rw [e]
    exact RepE.get hs i x (by simpa using hx)
theorem RepE.append {sz : Nat} {vs vs' : List Value} {xs xs' : List AV} (h : RepE g sz vs xs) (h' : RepE g sz vs' xs') : RepE g sz (vs ++ vs') (xs ++ xs') := by
  match h with
  | .nil sz => exact h'
  | .cons sz c x vs xs hl h1 h hs => rw [List.append_assoc]; exact .cons _ _ _ _ _ hl h1 h (RepE.append hs h')
theorem RepE.take {sz : Nat} {vs : List Value} {xs : List AV} (h : RepE g sz vs xs) (n : Nat) : RepE g sz (vs.take (n * sz)) (xs.take n) := by
  match h, n with
  | .nil sz, _ => simp; exact .nil _
  | .cons sz c x vs xs hl h1 h hs, 0 => simp; exact .nil _
  | .cons sz c x vs xs hl h1 h hs, n + 1 =>
    have e : (c ++ vs).take ((n + 1) * sz) = c ++ vs.take (n * sz) := by
      rw [List.take_append, List.take_of_length_le (by rw [hl, Nat.add_mul]; omega)]
      simp [hl, Nat.add_mul]
    rw [e]
    exact .cons _ _ _ _ _ hl h1 h (RepE.take hs n)
theorem RepE.drop {sz : Nat} {vs : List Value} {xs : List AV} (h : RepE g sz vs xs) (n : Nat) : RepE g sz (vs.drop (n * sz)) (xs.drop n) := by
  match h, n with
  | .nil sz, _ => simp; exact .nil _
  | .cons sz c x vs xs hl h1 h hs, 0 => simp; exact .cons _ _ _ _ _ hl h1 h hs
  | .cons sz c x vs xs hl h1 h hs, n + 1 =>
    have e : (c ++ vs).drop ((n + 1) * sz) = vs.drop (n * sz) := by
      rw [List.drop_append, List.drop_eq_nil_of_le (by rw [hl, Nat.add_mul]; omega)]
      simp [hl, Nat.add_mul]
    rw [e]
    exact RepE.drop hs n
end reps

section imm
variable {g : Gh} {st : Store} {w : World}
theorem Imm.nil (g : Gh) (b o : Nat) : Imm g b o [] := .inl rfl
theorem Imm.sub {b o : Nat} {vs : List Value} (h : Imm g b o vs) (j k : Nat) : Imm g b (o + j) ((vs.drop j).take k) := by
  rcases h with rfl | ⟨x, cs, hb, hx, hp⟩
  · exact .inl (by simp)
  · refine .inr ⟨x, cs, hb, hx, ?_⟩
    have := List.IsPrefix.drop' hp j
    rw [List.drop_drop] at this
    exact (List.take_prefix _ _).trans this
theorem Imm.drop {b o : Nat} {vs : List Value} (h : Imm g b o vs) (j : Nat) : Imm g b (o + j) (vs.drop j) := by
  have := h.sub j vs.length
  rwa [List.take_of_length_le (by simp)] at this
theorem Imm.take {b o : Nat} {vs : List Value} (h : Imm g b o vs) (k : Nat) : Imm g b o (vs.take k) := by simpa using h.sub 0 k
theorem getElem?_of_prefix {α : Type} {a b : List α} (h : a <+: b) {j : Nat} {x : α} (hx : a[j]? = some x) : b[j]? = some x := by
  obtain ⟨t, rfl⟩ := h
  rw [List.getElem?_append_left (List.getElem?_eq_some_iff.1 hx).1]
  exact hx
/-- Its cells, in memory. -/
theorem Imm.cell {b o : Nat} {vs : List Value} (h : Imm g b o vs) (hi : Inv g st w) (j : Nat) (v : Value) (hv : vs[j]? = some v) : w.cell? ⟨b, o + j, none⟩ = some v := by
  rcases h with rfl | ⟨x, cs, hb, hx, hp⟩
  · simp at hv
  · have hv' := getElem?_of_prefix hp hv
    rw [List.getElem?_drop] at hv'
    cases x with
    | row t s z n c0 =>
      injection hx with hx; subst hx
      obtain ⟨_, c, e, fr, top, k, hh, hpre, _⟩ := hi.row b t s z n c0 hb
      have := getElem?_of_prefix hpre hv'
      simp [World.cell?, hh]
      simpa using this
    | stat c0 =>
      injection hx with hx; subst hx
      obtain ⟨c, e, fr, hh, hc⟩ := hi.stat b c0 hb
      subst hc
      simp [World.cell?, hh]
      simpa using hv'
    | obj _ _ => cases hx
end imm

section runs
variable {P : Program} {w : World}
theorem sizeT_some {t sz : Nat} (h : sizeT P t = some sz) : ∃ i, P.info? t = some i ∧ i.size = sz := by
  unfold sizeT at h
  split at h
  · injection h with h; exact ⟨_, by assumption, h⟩
  · cases h
theorem run_sizeOf {t sz : Nat} (h : sizeT P t = some sz) (w : World) : (sizeOf t).run P w = .ok sz w := by
  obtain ⟨i, hi, rfl⟩ := sizeT_some h
  simp [sizeOf, typeInfo, hi]
theorem run_isAgg {t : Nat} {b : Bool} (h : aggT P t = some b) (w : World) : (isAgg t).run P w = .ok b w := by
  unfold aggT at h
  simp only [Look.of] at h
  split at h <;> rename_i hu
  · injection h with h; subst h; simp [isAgg, underlying, hu]
  · injection h with h; subst h; simp [isAgg, underlying, hu]
  · injection h with h; subst h
    rename_i d _ h1 h2
    simp only [isAgg, underlying, Sem.run_bind, run_program, Result.andThen_ok, hu]
    cases d <;> first | rfl | (exact absurd rfl (h1 _)) | (exact absurd rfl (h2 _ _)) | skip
    all_goals simp_all
  · cases h
theorem mkT_some {t : Nat} {cs : List AV} {x : AV} (h : mkT P t cs = some x) : (aggT P t = some true ∧ x = .agg cs) ∨ (aggT P t = some false ∧ cs = [x]) := by
  unfold mkT at h
  split at h <;> rename_i ha
  · injection h with h; exact .inl ⟨ha, h.symm⟩
  · split at h
    · injection h with h; subst h; exact .inr ⟨ha, rfl⟩
    · cases h
  · cases h
theorem mkT_cells {t : Nat} {cs : List AV} {x : AV} (h : mkT P t cs = some x) (hn : ∀ y ∈ cs, ∀ ys, y ≠ .agg ys) : x.cells = cs := by
  rcases mkT_some h with ⟨_, rfl⟩ | ⟨_, rfl⟩
  · rfl
  · cases x <;> first | rfl | exact absurd rfl (hn _ (List.mem_singleton.2 rfl) _)
/-- Cells that lie there are read as a value of their type. -/
theorem run_loadVar_of {g : Gh} {t b o sz : Nat} {vs : List Value} {cs : List AV} {x : AV} (hsz : sizeT P t = some sz) (hl : vs.length = sz) (hm : mkT P t cs = some x) (hr : Reps g vs cs) (h1 : AllOne vs)
    (hc : ∀ j v, vs[j]? = some v → w.cell? ⟨b, o + j, none⟩ = some v) : ∃ v, (loadVar t ⟨b, o, none⟩).run P w = .ok v w ∧ Rep g v x := by
  rcases mkT_some hm with ⟨ha, rfl⟩ | ⟨ha, rfl⟩
  · refine ⟨.agg vs.toArray, ?_, .agg _ _ (by simpa using h1) (by simpa using hr)⟩
    have := run_loadCells_list (P := P) w ⟨b, o, none⟩ vs (fun j v hv => by rw [add_plain]; exact hc j v hv)
    rw [hl] at this
    simp [loadVar, run_isAgg ha, run_sizeOf hsz, this]
  · match vs, hr with
    | [v], .cons _ _ _ _ h .nil =>
      refine ⟨v, ?_, h⟩
      have := hc 0 v rfl
      simp only [Nat.add_zero] at this
      simp [loadVar, run_isAgg ha, this]
end runs
end Go.Sim

namespace Go.Sim
open Go.WideShapes (add_plain)

section store
theorem Store.get_lt {s : Store} {o : Nat} {x : AObj} (h : s.get o = some x) : o < s.nobj := by
  unfold Store.get at h
  split at h
  · assumption
  · cases h
theorem Store.get_new {s : Store} (x : AObj) : (s.new x).get s.nobj = some x := by simp [Store.get, Store.new]
theorem Store.get_old {s : Store} {o : Nat} (x : AObj) (h : o < s.nobj) : (s.new x).get o = s.get o := by
  unfold Store.get Store.new
  have e : s.nobj + 1 - 1 - o = (s.nobj - 1 - o) + 1 := by omega
  simp only [e]
  rw [if_pos (by omega), if_pos h]
  simp
theorem Store.get_set_same {s : Store} {o : Nat} {x y : AObj} (hl : s.objs.length = s.nobj) (h : s.get o = some y) : (s.set o x).get o = some x := by
  have := Store.get_lt h
  unfold Store.get Store.set
  simp only []
  rw [if_pos this, List.getElem?_set_self (by omega)]
theorem Store.get_set_other {s : Store} {o o' : Nat} {x : AObj} (ho : o < s.nobj) (h : o ≠ o') : (s.set o x).get o' = s.get o' := by
  unfold Store.get Store.set
  simp only []
  split
  · rw [List.getElem?_set_ne (by omega)]
  · rfl
theorem Store.top_lt {s : Store} {t : Nat} {n : Nat × TypeId} (h : s.top t = some n) : t < s.ntop := by
  unfold Store.top at h
  split at h
  · assumption
  · cases h
theorem Store.top_new {s : Store} (n : Nat × TypeId) : (s.newTop n).top s.ntop = some n := by simp [Store.top, Store.newTop]
theorem Store.top_old {s : Store} {t : Nat} (n : Nat × TypeId) (h : t < s.ntop) : (s.newTop n).top t = s.top t := by
  unfold Store.top Store.newTop
  have e : s.ntop + 1 - 1 - t = (s.ntop - 1 - t) + 1 := by omega
  simp only [e]
  rw [if_pos (by omega), if_pos h]
  simp
theorem Store.top_set_same {s : Store} {t : Nat} {n m : Nat × TypeId} (hl : s.tops.length = s.ntop) (h : s.top t = some m) : (s.setTop t n).top t = some n := by
  have := Store.top_lt h
  unfold Store.top Store.setTop
  simp only []
  rw [if_pos this, List.getElem?_set_self (by omega)]
theorem Store.top_set_other {s : Store} {t t' : Nat} {n : Nat × TypeId} (ht : t < s.ntop) (h : t ≠ t') : (s.setTop t n).top t' = s.top t' := by
  unfold Store.top Store.setTop
  simp only []
  split
  · rw [List.getElem?_set_ne (by omega)]
  · rfl
@[simp] theorem Store.get_newTop {s : Store} (n : Nat × TypeId) (o : Nat) : (s.newTop n).get o = s.get o := rfl
@[simp] theorem Store.get_setTop {s : Store} (t : Nat) (n : Nat × TypeId) (o : Nat) : (s.setTop t n).get o = s.get o := rfl
@[simp] theorem Store.top_newObj {s : Store} (x : AObj) (t : Nat) : (s.new x).top t = s.top t := rfl
@[simp] theorem Store.top_setObj {s : Store} (o : Nat) (x : AObj) (t : Nat) : (s.set o x).top t = s.top t := rfl
end store

def Gh.upd (g : Gh) (b : Nat) (x : GB) : Gh := { g with blk := fun i => if i = b then some x else g.blk i }
def Gh.kill (g : Gh) (o : Nat) : Gh := { g with dead := fun i => i = o ∨ g.dead i }
theorem Gh.upd_same (g : Gh) (b : Nat) (x : GB) : (g.upd b x).blk b = some x := by simp [Gh.upd]
theorem Gh.upd_other (g : Gh) {b i : Nat} (x : GB) (h : i ≠ b) : (g.upd b x).blk i = g.blk i := by simp [Gh.upd, h]

theorem ObjOk.of_same {g : Gh} {w w' : World} {b tot : Nat} {x : AObj} (h : ObjOk g w b tot x) (hb : w'.heap[b]? = w.heap[b]?) : ObjOk g w' b tot x := by
  cases x <;> simp only [ObjOk, hb] at h ⊢ <;> exact h
theorem EntsRep.mono {g g' : Gh} (hl : Le g g') {a : List MapEntry} {b : List (AV × AV × Nat)} (h : EntsRep g a b) : EntsRep g' a b := by
  induction h with
  | nil => exact .nil
  | cons e k v es xs hk hv _ ih => exact .cons e k v es xs (hk.mono hl) (hv.mono hl) ih
theorem ObjOk.mono {g g' : Gh} {w : World} {b tot : Nat} {x : AObj} (hl : Le g g') (h : ObjOk g w b tot x) : ObjOk g' w b tot x := by
  cases x with
  | cells xs => obtain ⟨c, e, fr, vs, rest, h1, h2, h3, h4, h5⟩ := h; exact ⟨c, e, fr, vs, rest, h1, h2, h3.mono hl, h4, h5⟩
  | scells xs => obtain ⟨c, e, fr, vs, rest, h1, h2, h3, h4, h5⟩ := h; exact ⟨c, e, fr, vs, rest, h1, h2, h3.mono hl, h4, h5⟩
  | tcells t n xs => obtain ⟨c, fr, vs, rest, h1, h2, h3, h4, h5⟩ := h; exact ⟨c, fr, vs, rest, h1, h2, h3.mono hl, h4, h5⟩
  | map es clock => obtain ⟨ces, h1, h2⟩ := h; exact ⟨ces, h1, h2.mono hl⟩
  | siter s pos => exact h
  | loop => obtain ⟨l, h1, h2, h3, h5, h6⟩ := h; exact ⟨l, h1, h2, h3, h5.mono hl, h6⟩
  | dead => exact h

section inv
variable {g : Gh} {st : Store} {w : World}
theorem Inv.lt (hi : Inv g st w) {b : Nat} (h : g.blk b ≠ none) : b < w.heap.size := by
  cases hb : g.blk b with
  | none => exact absurd hb h
  | some x =>
    cases x with
    | row t s z n cs => obtain ⟨_, c, e, fr, top, k, hh, _⟩ := hi.row _ _ _ _ _ _ hb; exact (Array.getElem?_eq_some_iff.1 hh).1
    | stat cs => obtain ⟨c, e, fr, hh, _⟩ := hi.stat _ _ hb; exact (Array.getElem?_eq_some_iff.1 hh).1
    | obj o n =>
      obtain ⟨x, _, hx⟩ := hi.obj _ _ _ hb
      cases x with
      | cells xs => obtain ⟨c, e, fr, vs, rest, h1, _⟩ := hx; exact (Array.getElem?_eq_some_iff.1 h1).1
      | scells xs => obtain ⟨c, e, fr, vs, rest, h1, _⟩ := hx; exact (Array.getElem?_eq_some_iff.1 h1).1
      | tcells t n xs => obtain ⟨c, fr, vs, rest, h1, _⟩ := hx; exact (Array.getElem?_eq_some_iff.1 h1).1
      | map es clock => obtain ⟨ces, h1, _⟩ := hx; exact (Array.getElem?_eq_some_iff.1 h1).1
      | siter s pos => exact (Array.getElem?_eq_some_iff.1 hx).1
      | loop => obtain ⟨l, h1, _⟩ := hx; exact (Array.getElem?_eq_some_iff.1 h1).1
      | dead => exact hx.elim
theorem Inv.none_of_ge (hi : Inv g st w) {b : Nat} (h : w.heap.size ≤ b) : g.blk b = none := by
  cases hb : g.blk b with
  | none => rfl
  | some x => exact absurd (hi.lt (by rw [hb]; simp)) (by omega)
/-- Memory that is told of is as it was. -/
theorem Inv.same {w' : World} (hi : Inv g st w) (hs : ∀ b, g.blk b ≠ none → w'.heap[b]? = w.heap[b]?) : Inv g st w' where
  wfo := hi.wfo
  wft := hi.wft
  row b t s sz n cs hb := by
    obtain ⟨h0, c, e, fr, top, k, hh, r⟩ := hi.row b t s sz n cs hb
    exact ⟨h0, c, e, fr, top, k, (hs b (by simp [hb])).trans hh, r⟩
  stat b cs hb := by
    obtain ⟨c, e, fr, hh, r⟩ := hi.stat b cs hb
    exact ⟨c, e, fr, (hs b (by simp [hb])).trans hh, r⟩
  obj b o n hb := by
    obtain ⟨x, h1, h2⟩ := hi.obj b o n hb
    exact ⟨x, h1, h2.of_same (hs b (by simp [hb]))⟩
  inj := hi.inj
  dead := hi.dead
theorem heap_alloc_old (w : World) (o : Obj) {b : Nat} (h : b < w.heap.size) : (w.alloc o).heap[b]? = w.heap[b]? := by
  show (w.heap.push o)[b]? = _
  rw [Array.getElem?_push, if_neg (Nat.ne_of_lt h)]
theorem heap_alloc_new (w : World) (o : Obj) : (w.alloc o).heap[w.heap.size]? = some o := by
  show (w.heap.push o)[w.heap.size]? = _
  simp
theorem Inv.alloc (hi : Inv g st w) (o : Obj) : Inv g st (w.alloc o) := hi.same fun b hb => heap_alloc_old w o (hi.lt hb)
theorem Adv.alloc (g : Gh) (w : World) (o : Obj) (hn : ∀ b, w.heap.size ≤ b → g.blk b = none) : Adv g w g (w.alloc o) where
  le := Le.refl g
  size := by show w.heap.size ≤ (w.heap.push o).size; simp
  keep b hb h := ⟨heap_alloc_old w o hb, h⟩
  stat b cs hb := heap_alloc_old w o (by
    rcases Nat.lt_or_ge b w.heap.size with h | h
    · exact h
    · rw [hn b h] at hb; cases hb)
  os := rfl
  tape := rfl
  output := rfl
theorem Le.upd_new (g : Gh) {b : Nat} (x : GB) (h : g.blk b = none) : Le g (g.upd b x) where
  row b' t s z n cs hb := by
    have : b' ≠ b := by rintro rfl; rw [h] at hb; cases hb
    exact ⟨cs, (Gh.upd_other g x this).trans hb, List.prefix_rfl⟩
  stat b' cs hb := by
    have : b' ≠ b := by rintro rfl; rw [h] at hb; cases hb
    exact (Gh.upd_other g x this).trans hb
  obj b' o n hb := by
    have : b' ≠ b := by rintro rfl; rw [h] at hb; cases hb
    exact .inr ⟨n, (Gh.upd_other g x this).trans hb, Nat.le_refl n⟩
  dead o h := h
theorem Adv.alloc_upd (hi : Inv g st w) (o : Obj) (x : GB) : Adv g w (g.upd w.heap.size x) (w.alloc o) where
  le := Le.upd_new g x (hi.none_of_ge (Nat.le_refl _))
  size := by show w.heap.size ≤ (w.heap.push o).size; simp
  keep b hb h := ⟨heap_alloc_old w o hb, (Gh.upd_other g x (Nat.ne_of_lt hb)).trans h⟩
  stat b cs hb := heap_alloc_old w o (hi.lt (by simp [hb]))
  os := rfl
  tape := rfl
  output := rfl
/-- A new block that is for good. -/
theorem Inv.alloc_stat (hi : Inv g st w) (c : Array Value) (e : TypeId) (fr : Nat × Nat) : Inv (g.upd w.heap.size (.stat c.toList)) st (w.alloc (.cells c e fr)) := by
  have hle : Le g (g.upd w.heap.size (.stat c.toList)) := Le.upd_new g _ (hi.none_of_ge (Nat.le_refl _))
  have h1 := hi.alloc (.cells c e fr)
  refine ⟨hi.wfo, hi.wft, fun b t s sz tot cs hb => ?_, fun b cs hb => ?_, fun b o tot hb => ?_, fun b b' o n n' hb hb' => ?_, hi.dead⟩
  · by_cases h : b = w.heap.size
    · subst h; simp [Gh.upd] at hb
    · rw [Gh.upd_other _ _ h] at hb; exact h1.row b t s sz tot cs hb
  · by_cases h : b = w.heap.size
    · subst h; simp [Gh.upd] at hb; subst hb; exact ⟨c, e, fr, heap_alloc_new w _, rfl⟩
    · rw [Gh.upd_other _ _ h] at hb; exact h1.stat b cs hb
  · by_cases h : b = w.heap.size
    · subst h; simp [Gh.upd] at hb
    · rw [Gh.upd_other _ _ h] at hb
      obtain ⟨x, h2, h3⟩ := h1.obj b o tot hb
      exact ⟨x, h2, h3.mono hle⟩
  · by_cases h : b = w.heap.size
    · subst h; simp [Gh.upd] at hb
    · by_cases h' : b' = w.heap.size
      · subst h'; simp [Gh.upd] at hb'
      · rw [Gh.upd_other _ _ h] at hb; rw [Gh.upd_other _ _ h'] at hb'
        exact hi.inj b b' o n n' hb hb'
/-- A new row that may grow. -/
theorem Inv.alloc_row (hi : Inv g st w) (c : Array Value) (e : TypeId) (fr : Nat × Nat) (sz n : Nat) (cs : List Value) (hz : 0 < sz) (hp : cs <+: c.toList) (hl : cs.length = n * sz) (hu : fr.2 ≤ cs.length) :
    Inv (g.upd w.heap.size (.row st.ntop 0 sz c.size cs)) (st.newTop (n, e)) (w.alloc (.cells c e fr)) := by
  have hle : Le g (g.upd w.heap.size (.row st.ntop 0 sz c.size cs)) := Le.upd_new g _ (hi.none_of_ge (Nat.le_refl _))
  have h1 := hi.alloc (.cells c e fr)
  refine ⟨hi.wfo, by simp [Store.newTop, hi.wft], fun b t s sz' tot cs' hb => ?_, fun b cs hb => ?_, fun b o tot hb => ?_, fun b b' o n n' hb hb' => ?_, hi.dead⟩
  · by_cases h : b = w.heap.size
    · subst h
      simp [Gh.upd] at hb
      obtain ⟨rfl, rfl, rfl, rfl, rfl⟩ := hb
      exact ⟨hz, c, e, fr, n, n, heap_alloc_new w _, hp, hl, Store.top_new (n, e), by omega, hu, rfl⟩
    · rw [Gh.upd_other _ _ h] at hb
      obtain ⟨h0, c', e', fr', top, k, h2, h3, h4, h5, h6⟩ := h1.row b t s sz' tot cs' hb
      exact ⟨h0, c', e', fr', top, k, h2, h3, h4, by rw [Store.top_old (n, e) (Store.top_lt h5)]; exact h5, h6⟩
  · by_cases h : b = w.heap.size
    · subst h; simp [Gh.upd] at hb
    · rw [Gh.upd_other _ _ h] at hb; exact h1.stat b cs hb
  · by_cases h : b = w.heap.size
    · subst h; simp [Gh.upd] at hb
    · rw [Gh.upd_other _ _ h] at hb
      obtain ⟨x, h2, h3⟩ := h1.obj b o tot hb
      exact ⟨x, h2, h3.mono hle⟩
  · by_cases h : b = w.heap.size
    · subst h; simp [Gh.upd] at hb
    · by_cases h' : b' = w.heap.size
      · subst h'; simp [Gh.upd] at hb'
      · rw [Gh.upd_other _ _ h] at hb; rw [Gh.upd_other _ _ h'] at hb'
        exact hi.inj b b' o n n' hb hb'
/-- A new object. -/
theorem Inv.alloc_obj (hi : Inv g st w) (o : Obj) (x : AObj) (tot : Nat) (hx : ObjOk (g.upd w.heap.size (.obj st.nobj tot)) (w.alloc o) w.heap.size tot x) :
    Inv (g.upd w.heap.size (.obj st.nobj tot)) (st.new x) (w.alloc o) := by
  have hle : Le g (g.upd w.heap.size (.obj st.nobj tot)) := Le.upd_new g _ (hi.none_of_ge (Nat.le_refl _))
  have h1 := hi.alloc o
  refine ⟨by simp [Store.new, hi.wfo], hi.wft, fun b t s sz' n' cs' hb => ?_, fun b cs hb => ?_, fun b o' n' hb => ?_, fun b b' o' n n' hb hb' => ?_, fun o' hd => ?_⟩
  · by_cases h : b = w.heap.size
    · subst h; simp [Gh.upd] at hb
    · rw [Gh.upd_other _ _ h] at hb
      exact h1.row b t s sz' n' cs' hb
  · by_cases h : b = w.heap.size
    · subst h; simp [Gh.upd] at hb
    · rw [Gh.upd_other _ _ h] at hb; exact h1.stat b cs hb
  · by_cases h : b = w.heap.size
    · subst h; simp [Gh.upd] at hb; obtain ⟨rfl, rfl⟩ := hb; exact ⟨x, Store.get_new x, hx⟩
    · rw [Gh.upd_other _ _ h] at hb
      obtain ⟨y, h2, h3⟩ := h1.obj b o' n' hb
      exact ⟨y, by rw [Store.get_old x (Store.get_lt h2)]; exact h2, h3.mono hle⟩
  · have old : ∀ b n, b ≠ w.heap.size → (g.upd w.heap.size (.obj st.nobj tot)).blk b = some (.obj o' n) → o' < st.nobj := by
      intro b n h hb
      rw [Gh.upd_other _ _ h] at hb
      obtain ⟨y, h2, _⟩ := h1.obj b o' n hb
      exact Store.get_lt h2
    by_cases h : b = w.heap.size
    · by_cases h' : b' = w.heap.size
      · omega
      · have := old b' n' h' hb'
        subst h; simp [Gh.upd] at hb; omega
    · by_cases h' : b' = w.heap.size
      · have := old b n h hb
        subst h'; simp [Gh.upd] at hb'; omega
      · rw [Gh.upd_other _ _ h] at hb; rw [Gh.upd_other _ _ h'] at hb'
        exact hi.inj b b' o' n n' hb hb'
  · have hd' := hi.dead o' hd
    rw [Store.get_old x (Store.get_lt hd')]; exact hd'

/-- One block is another one. -/
structure Upd (w : World) (b : Nat) (x : Obj) (w' : World) : Prop where
  here : w'.heap[b]? = some x
  other : ∀ i, i ≠ b → w'.heap[i]? = w.heap[i]?
  size : w'.heap.size = w.heap.size
  os : w'.os = w.os
  tape : w'.tape = w.tape
  output : w'.output = w.output
/-- An object is written. -/
theorem Inv.write (hi : Inv g st w) {b o tot : Nat} (hb : g.blk b = some (.obj o tot)) {x : Obj} {w' : World} (hu : Upd w b x w') (y : AObj) (hy : ObjOk g w' b tot y) : Inv g (st.set o y) w' ∧ Adv g w g w' := by
  obtain ⟨z, hz, hzo⟩ := hi.obj b o tot hb
  have hne : z ≠ .dead := by rintro rfl; exact hzo
  have hlt := Store.get_lt hz
  refine ⟨⟨by simp [Store.set, hi.wfo], hi.wft, fun b' t s sz n cs hb' => ?_, fun b' cs hb' => ?_, fun b' o' n hb' => ?_, hi.inj, fun o' hd => ?_⟩,
    ⟨Le.refl g, Nat.le_of_eq hu.size.symm, fun b' _ hn => ⟨hu.other b' (by rintro rfl; rw [hb] at hn; cases hn), hn⟩, fun b' cs hb' => hu.other b' (by rintro rfl; rw [hb] at hb'; cases hb'), hu.os, hu.tape, hu.output⟩⟩
  · obtain ⟨h0, c, e, fr, top, k, hh, r⟩ := hi.row b' t s sz n cs hb'
    exact ⟨h0, c, e, fr, top, k, (hu.other b' (by rintro rfl; rw [hb] at hb'; cases hb')).trans hh, r⟩
  · obtain ⟨c, e, fr, hh, r⟩ := hi.stat b' cs hb'
    exact ⟨c, e, fr, (hu.other b' (by rintro rfl; rw [hb] at hb'; cases hb')).trans hh, r⟩
  · by_cases h : b' = b
    · subst h
      rw [hb] at hb'
      injection hb' with hb'; injection hb' with hb' hn; subst hb' hn
      exact ⟨y, Store.get_set_same hi.wfo hz, hy⟩
    · obtain ⟨q, h2, h3⟩ := hi.obj b' o' n hb'
      have : o ≠ o' := by rintro rfl; exact h (hi.inj b' b o n tot hb' hb)
      exact ⟨q, by rw [Store.get_set_other hlt this]; exact h2, h3.of_same (hu.other b' h)⟩
  · have hd' := hi.dead o' hd
    have : o ≠ o' := by rintro rfl; rw [hz] at hd'; injection hd' with hd'; exact hne hd'
    rw [Store.get_set_other hlt this]; exact hd'
/-- A row grows at its end. -/
theorem Inv.grow (hi : Inv g st w) {b t s sz n tot : Nat} {cs new : List Value} (hb : g.blk b = some (.row t s sz tot cs)) {c : Array Value} {e : TypeId} {fr : Nat × Nat} {w' : World} (hu : Upd w b (.cells c e fr) w')
    (hp : cs ++ new <+: c.toList) (hn : new.length = n * sz) (hf : fr.2 ≤ cs.length + new.length) (hct : c.size = tot) (top : Nat) (ht : st.top t = some (top, e)) (hs : s * sz + cs.length = top * sz) :
    Inv (g.upd b (.row t s sz tot (cs ++ new))) (st.setTop t (top + n, e)) w' ∧ Adv g w (g.upd b (.row t s sz tot (cs ++ new))) w' := by
  have hlt := Store.top_lt ht
  have hle : Le g (g.upd b (.row t s sz tot (cs ++ new))) := by
    refine ⟨fun b' t' s' z' n' cs' hb' => ?_, fun b' cs' hb' => ?_, fun b' o n' hb' => ?_, fun _ h => h⟩
    · by_cases h : b' = b
      · subst h
        rw [hb] at hb'
        injection hb' with hb'; injection hb' with a1 a2 a3 a5 a4; subst a1 a2 a3 a4 a5
        exact ⟨cs ++ new, Gh.upd_same _ _ _, List.prefix_append _ _⟩
      · exact ⟨cs', (Gh.upd_other g _ h).trans hb', List.prefix_rfl⟩
    · exact (Gh.upd_other g _ (by rintro rfl; rw [hb] at hb'; cases hb')).trans hb'
    · exact .inr ⟨n', (Gh.upd_other g _ (by rintro rfl; rw [hb] at hb'; cases hb')).trans hb', Nat.le_refl _⟩
  refine ⟨⟨hi.wfo, by simp [Store.setTop, hi.wft], fun b' t' s' sz' n' cs' hb' => ?_, fun b' cs' hb' => ?_, fun b' o n' hb' => ?_, fun b1 b2 o n1 n2 h1 h2 => ?_, hi.dead⟩,
    ⟨hle, Nat.le_of_eq hu.size.symm, fun b' _ hn' => ?_, fun b' cs' hb' => hu.other b' (by rintro rfl; rw [hb] at hb'; cases hb'), hu.os, hu.tape, hu.output⟩⟩
  · obtain ⟨hz, c0, e0, fr0, top0, k, h2, h3, h4, h5, h6, h7, h8⟩ := hi.row b t s sz tot cs hb
    rw [ht] at h5; injection h5 with h5; injection h5 with h5 he5; subst h5 he5
    by_cases h : b' = b
    · subst h
      simp [Gh.upd] at hb'
      obtain ⟨rfl, rfl, rfl, rfl, rfl⟩ := hb'
      refine ⟨hz, c, e, fr, top + n, k + n, hu.here, hp, by rw [List.length_append, h4, hn, Nat.add_mul], Store.top_set_same hi.wft ht, ?_, by rw [List.length_append]; exact hf, hct⟩
      have : (s + k) * sz = top * sz := by rw [Nat.add_mul, ← h4]; exact hs
      have := Nat.eq_of_mul_eq_mul_right hz this
      omega
    · rw [Gh.upd_other _ _ h] at hb'
      obtain ⟨hz', c', e', fr', top', k', g2, g3, g4, g5, g6, g7⟩ := hi.row b' t' s' sz' n' cs' hb'
      by_cases ht' : t = t'
      · subst ht'
        rw [ht] at g5; injection g5 with g5; injection g5 with g5 ge5; subst g5 ge5
        exact ⟨hz', c', _, fr', _, k', (hu.other b' h).trans g2, g3, g4, Store.top_set_same hi.wft ht, by omega, g7⟩
      · exact ⟨hz', c', e', fr', top', k', (hu.other b' h).trans g2, g3, g4, by rw [Store.top_set_other hlt ht']; exact g5, g6, g7⟩
  · have h : b' ≠ b := by rintro rfl; simp [Gh.upd] at hb'
    rw [Gh.upd_other _ _ h] at hb'
    obtain ⟨c', e', fr', hh, r⟩ := hi.stat b' cs' hb'
    exact ⟨c', e', fr', (hu.other b' h).trans hh, r⟩
  · have h : b' ≠ b := by rintro rfl; simp [Gh.upd] at hb'
    rw [Gh.upd_other _ _ h] at hb'
    obtain ⟨x, h2, h3⟩ := hi.obj b' o n' hb'
    exact ⟨x, h2, (h3.of_same (hu.other b' h)).mono hle⟩
  · have h : b1 ≠ b := by rintro rfl; simp [Gh.upd] at h1
    have h' : b2 ≠ b := by rintro rfl; simp [Gh.upd] at h2
    rw [Gh.upd_other _ _ h] at h1; rw [Gh.upd_other _ _ h'] at h2
    exact hi.inj b1 b2 o n1 n2 h1 h2
  · have h : b' ≠ b := by rintro rfl; rw [hb] at hn'; cases hn'
    exact ⟨hu.other b' h, (Gh.upd_other _ _ h).trans hn'⟩
/-- An object that dies: its block is nobody's. -/
def Gh.drop (g : Gh) (b o : Nat) : Gh := { blk := fun i => if i = b then none else g.blk i, dead := fun i => i = o ∨ g.dead i }
theorem Gh.drop_some {g : Gh} {b o i : Nat} {x : GB} (h : (g.drop b o).blk i = some x) : i ≠ b ∧ g.blk i = some x := by
  unfold Gh.drop at h
  by_cases e : i = b
  · simp [e] at h
  · simp [e] at h; exact ⟨e, h⟩
theorem Gh.drop_other {g : Gh} {b o i : Nat} (h : i ≠ b) : (g.drop b o).blk i = g.blk i := by simp [Gh.drop, h]
theorem Gh.drop_same {g : Gh} {b o : Nat} : (g.drop b o).blk b = none := by simp [Gh.drop]
theorem Le.drop {g : Gh} {b o tot : Nat} (hb : g.blk b = some (.obj o tot)) : Le g (g.drop b o) := by
  refine ⟨fun b' t s z n cs hb' => ⟨cs, ?_, List.prefix_rfl⟩, fun b' cs hb' => ?_, fun b' o' n hb' => ?_, fun _ h => Or.inr h⟩
  · rw [Gh.drop_other]; exact hb'
    rintro rfl; rw [hb] at hb'; cases hb'
  · rw [Gh.drop_other]; exact hb'
    rintro rfl; rw [hb] at hb'; cases hb'
  · by_cases e : b' = b
    · subst e; rw [hb] at hb'; injection hb' with hb'; injection hb' with hb'; exact .inl (.inl hb'.symm)
    · exact .inr ⟨n, by rw [Gh.drop_other e]; exact hb', Nat.le_refl n⟩
theorem Inv.die (hi : Inv g st w) {b o tot : Nat} (hb : g.blk b = some (.obj o tot)) : Inv (g.drop b o) (st.set o .dead) w := by
  obtain ⟨z, hz, hzo⟩ := hi.obj b o tot hb
  have hlt := Store.get_lt hz
  have hle := Le.drop hb
  refine ⟨by simp [Store.set, hi.wfo], hi.wft, fun b' t s sz n cs hb' => hi.row b' t s sz n cs (Gh.drop_some hb').2, fun b' cs hb' => hi.stat b' cs (Gh.drop_some hb').2, fun b' o' n hb' => ?_,
    fun b1 b2 o' n1 n2 h1 h2 => hi.inj b1 b2 o' n1 n2 (Gh.drop_some h1).2 (Gh.drop_some h2).2, fun o' h => ?_⟩
  · obtain ⟨h1, h2⟩ := Gh.drop_some hb'
    obtain ⟨x, h3, h4⟩ := hi.obj b' o' n h2
    have : o ≠ o' := by rintro rfl; exact h1 (hi.inj b' b o n tot h2 hb)
    exact ⟨x, by rw [Store.get_set_other hlt this]; exact h3, h4.mono hle⟩
  · by_cases e : o = o'
    · subst e; exact Store.get_set_same hi.wfo hz
    · rw [Store.get_set_other hlt e]; exact hi.dead o' (h.resolve_left (fun h => e h.symm))
/-- A block of nobody's that is an object's from now on. -/
theorem Inv.adopt (hi : Inv g st w) {b tot : Nat} (hb : g.blk b = none) (x : AObj) (hx : ObjOk (g.upd b (.obj st.nobj tot)) w b tot x) : Inv (g.upd b (.obj st.nobj tot)) (st.new x) w := by
  have hle : Le g (g.upd b (.obj st.nobj tot)) := Le.upd_new g _ hb
  have old : ∀ {b' o' n}, b' ≠ b → (g.upd b (.obj st.nobj tot)).blk b' = some (.obj o' n) → o' < st.nobj := by
    intro b' o' n h hb'
    rw [Gh.upd_other _ _ h] at hb'
    obtain ⟨y, h2, _⟩ := hi.obj b' o' n hb'
    exact Store.get_lt h2
  refine ⟨by simp [Store.new, hi.wfo], hi.wft, fun b' t s sz' n' cs' hb' => ?_, fun b' cs hb' => ?_, fun b' o' n' hb' => ?_, fun b1 b2 o' n n' h1 h2 => ?_, fun o' hd => ?_⟩
  · have h : b' ≠ b := by rintro rfl; simp [Gh.upd] at hb'
    rw [Gh.upd_other _ _ h] at hb'; exact hi.row b' t s sz' n' cs' hb'
  · have h : b' ≠ b := by rintro rfl; simp [Gh.upd] at hb'
    rw [Gh.upd_other _ _ h] at hb'; exact hi.stat b' cs hb'
  · by_cases h : b' = b
    · subst h; simp [Gh.upd] at hb'; obtain ⟨rfl, rfl⟩ := hb'; exact ⟨x, Store.get_new x, hx⟩
    · rw [Gh.upd_other _ _ h] at hb'
      obtain ⟨y, h2, h3⟩ := hi.obj b' o' n' hb'
      exact ⟨y, by rw [Store.get_old x (Store.get_lt h2)]; exact h2, h3.mono hle⟩
  · by_cases h : b1 = b
    · by_cases h' : b2 = b
      · omega
      · have := old h' h2
        subst h; simp [Gh.upd] at h1; omega
    · by_cases h' : b2 = b
      · have := old h h1
        subst h'; simp [Gh.upd] at h2; omega
      · rw [Gh.upd_other _ _ h] at h1; rw [Gh.upd_other _ _ h'] at h2
        exact hi.inj b1 b2 o' n n' h1 h2
  · have hd' := hi.dead o' hd
    rw [Store.get_old x (Store.get_lt hd')]; exact hd'
end inv
end Go.Sim

namespace Go.Sim
open Go.WideShapes (add_plain)

section
variable {P : Program} {g : Gh} {st : Store} {w : World}

theorem Rep.notAgg {v : Value} {x : AV} (h : Rep g v x) (h1 : v.oneCell' = true) : ∀ ys, x ≠ .agg ys := by
  rintro ys rfl
  cases h
  simp [Value.oneCell'] at h1
theorem Reps.notAgg {vs : List Value} {xs : List AV} (h : Reps g vs xs) (h1 : AllOne vs) : ∀ y ∈ xs, ∀ ys, y ≠ .agg ys := by
  match h with
  | .nil => intro y hy; simp at hy
  | .cons v x vs xs h hs =>
    intro y hy
    rcases List.mem_cons.1 hy with rfl | hy
    · exact h.notAgg (h1 v (List.mem_cons_self))
    · exact Reps.notAgg hs (fun u hu => h1 u (List.mem_cons_of_mem _ hu)) y hy
theorem cut_some {cs c : List AV} {off n : Nat} (h : cut cs off n = some c) : off + n ≤ cs.length ∧ c = (cs.drop off).take n := by
  unfold cut at h
  split at h
  · injection h with h; exact ⟨by assumption, h.symm⟩
  · cases h
theorem splice_some {cs c new : List AV} {off : Nat} (h : splice cs off new = some c) : off + new.length ≤ cs.length ∧ c = cs.take off ++ new ++ cs.drop (off + new.length) := by
  unfold splice at h
  split at h
  · injection h with h; exact ⟨by assumption, h.symm⟩
  · cases h
/-- Elements out of cells. -/
theorem elemsOf_ok {e sz : Nat} (hsz : sizeT P e = some sz) : ∀ (n : Nat) (cs ys : List AV) (vs : List Value), elemsOf P e cs n = some ys → Reps g vs cs → AllOne vs → ys.length = n ∧ RepE g sz (vs.take (n * sz)) ys
  | 0, cs, ys, vs, h, hr, h1 => by
    simp only [elemsOf, Option.some.injEq] at h; subst h
    simp; exact .nil _
  | n + 1, cs, ys, vs, h, hr, h1 => by
    simp only [elemsOf, hsz] at h
    cases hc : cut cs 0 sz with
    | none => simp [hc] at h
    | some c =>
      simp only [hc] at h
      cases hm : mkT P e c with
      | none => simp [hm] at h
      | some x =>
        cases hx : elemsOf P e (cs.drop sz) n with
        | none => simp [hm, hx] at h
        | some xs =>
          simp only [hm, hx, Option.some.injEq] at h; subst h
          obtain ⟨h2, h3⟩ := cut_some hc
          simp only [List.drop_zero] at h3; subst h3
          obtain ⟨a, b⟩ := elemsOf_ok hsz n (cs.drop sz) xs (vs.drop sz) hx (hr.drop sz) (h1.drop sz)
          have hlen := hr.length
          have hcx : x.cells = cs.take sz := mkT_cells hm ((hr.take sz).notAgg (h1.take sz))
          refine ⟨by simp [a], ?_⟩
          have e : vs.take ((n + 1) * sz) = vs.take sz ++ (vs.drop sz).take (n * sz) := by
            rw [show (n + 1) * sz = sz + n * sz by rw [Nat.add_mul]; omega, List.take_add]
          rw [e]
          refine .cons _ _ _ _ _ (by rw [List.length_take]; omega) (h1.take sz) (by rw [hcx]; exact hr.take sz) b
theorem unfrozen_of_le {c : Array Value} {fr : Nat × Nat} (h : fr.2 ≤ fr.1) (lo : Nat) : Unfrozen c fr lo := fun i _ _ hh => by omega
def AObj.cs? : AObj → Option (List AV)
  | .cells xs => some xs
  | .tcells _ _ xs => some xs
  | .scells xs => some xs
  | _ => none
/-- Cells that lie there, whatever is known of them. -/
theorem ObjOk.cells {x : AObj} {b tot : Nat} {cs : List AV} (h : ObjOk g w b tot x) (hx : x.cs? = some cs) :
    ∃ c e fr vs rest, w.heap[b]? = some (.cells c e fr) ∧ c.toList = vs ++ rest ∧ Reps g vs cs ∧ AllOne c.toList ∧ Unfrozen c fr 0 ∧ c.size = tot := by
  cases x with
  | cells xs =>
    injection hx with hx; subst hx
    obtain ⟨c, e, fr, vs, rest, q1, q2, q3, q4, q5, q6⟩ := h
    exact ⟨c, e, fr, vs, rest, q1, q2, q3, q4, unfrozen_of_le q5 0, q6⟩
  | tcells t n xs =>
    injection hx with hx; subst hx
    obtain ⟨c, fr, vs, rest, q1, q2, q3, q4, q5, q6, _⟩ := h
    exact ⟨c, t, fr, vs, rest, q1, q2, q3, q4, unfrozen_of_le q5 0, q6⟩
  | scells xs => injection hx with hx; subst hx; exact h
  | _ => cases hx
theorem getCells_some {o : Nat} {cs : List AV} (hc : st.getCells o = some cs) : ∃ x, st.get o = some x ∧ x.cs? = some cs := by
  unfold Store.getCells at hc
  split at hc
  · rename_i xs hg; exact ⟨_, hg, hc⟩
  · rename_i t n xs hg; exact ⟨_, hg, hc⟩
  · rename_i xs hg; exact ⟨_, hg, hc⟩
  · cases hc
theorem Inv.cellsAt' (hi : Inv g st w) {b o tot : Nat} {cs : List AV} (hb : g.blk b = some (.obj o tot)) (hc : st.getCells o = some cs) :
    ∃ c e fr vs rest, w.heap[b]? = some (.cells c e fr) ∧ c.toList = vs ++ rest ∧ Reps g vs cs ∧ AllOne c.toList ∧ Unfrozen c fr 0 ∧ c.size = tot := by
  obtain ⟨x, h1, h2⟩ := hi.obj b o tot hb
  obtain ⟨y, h3, h4⟩ := getCells_some hc
  rw [h1] at h3; injection h3 with h3; subst h3
  exact h2.cells h4
theorem Inv.cellsAt (hi : Inv g st w) {b o n : Nat} {cs : List AV} (hl : LiveA g b o n) (hc : st.getCells o = some cs) :
    ∃ tot, g.blk b = some (.obj o tot) ∧ n ≤ tot ∧ ∃ c e fr vs rest, w.heap[b]? = some (.cells c e fr) ∧ c.toList = vs ++ rest ∧ Reps g vs cs ∧ AllOne vs ∧ Unfrozen c fr 0 ∧ c.size = tot := by
  rcases hl with hd | ⟨tot, hb, hn⟩
  · obtain ⟨y, h3, h4⟩ := getCells_some hc
    rw [hi.dead o hd] at h3; injection h3 with h3; subst h3; cases h4
  · obtain ⟨c, e, fr, vs, rest, q1, q2, q3, q4, q5, q6⟩ := hi.cellsAt' hb hc
    exact ⟨tot, hb, hn, c, e, fr, vs, rest, q1, q2, q3, fun v hv => q4 v (by rw [q2]; exact List.mem_append_left _ hv), q5, q6⟩
theorem Inv.allOne (hi : Inv g st w) {b o tot : Nat} {cs : List AV} (hb : g.blk b = some (.obj o tot)) (hc : st.getCells o = some cs) {c : Array Value} {e : TypeId} {fr : Nat × Nat} (h1 : w.heap[b]? = some (.cells c e fr)) : AllOne c.toList := by
  obtain ⟨c', e', fr', vs, rest, q1, q2, q3, q4, q5, q6⟩ := hi.cellsAt' hb hc
  rw [h1] at q1; injection q1 with q1; injection q1 with q1 _ _; subst q1
  exact q4
theorem Inv.allRest (hi : Inv g st w) {b o tot : Nat} {cs : List AV} (hb : g.blk b = some (.obj o tot)) (hc : st.getCells o = some cs) {c : Array Value} {e : TypeId} {fr : Nat × Nat} (h1 : w.heap[b]? = some (.cells c e fr)) {vs rest : List Value} (h2 : c.toList = vs ++ rest) : AllOne rest := fun v hv => hi.allOne hb hc h1 v (by rw [h2]; exact List.mem_append_right _ hv)
theorem Inv.writeCells (hi : Inv g st w) {b o tot : Nat} {cs ys : List AV} (hb : g.blk b = some (.obj o tot)) (hc : st.getCells o = some cs) {c c' : Array Value} {e : TypeId} {fr : Nat × Nat} {vs rest : List Value} {w' : World} (h1 : w.heap[b]? = some (.cells c e fr))
    (hu : Upd w b (.cells c' e fr) w') (h2 : c'.toList = vs ++ rest) (h3 : Reps g vs ys) (h4 : AllOne vs) (h4' : AllOne rest) (h5 : Unfrozen c' fr 0) (h6 : c'.size = tot) : Inv g (st.put o ys) w' ∧ Adv g w g w' := by
  have hall : AllOne c'.toList := by
    rw [h2]
    exact h4.append h4'
  obtain ⟨x, k1, k2⟩ := hi.obj b o tot hb
  obtain ⟨y, k3, k4⟩ := getCells_some hc
  rw [k1] at k3; injection k3 with k3; subst k3
  unfold Store.put
  rw [k1]
  cases x with
  | tcells t n zs =>
    obtain ⟨c2, fr2, _, _, q1, _, _, _, q5, _, kn⟩ := k2
    rw [h1] at q1; injection q1 with q1; injection q1 with _ q1 q2; subst q1 q2
    exact hi.write hb hu (.tcells e n ys) ⟨c', fr, vs, rest, hu.here, h2, h3, hall, q5, h6, kn⟩
  | scells zs => exact hi.write hb hu (.scells ys) ⟨c', e, fr, vs, rest, hu.here, h2, h3, hall, h5, h6⟩
  | cells zs =>
    obtain ⟨c2, e2, fr2, _, _, q1, _, _, _, q5, _⟩ := k2
    rw [h1] at q1; injection q1 with q1; injection q1 with _ q1 q2; subst q1 q2
    exact hi.write hb hu (.cells ys) ⟨c', e, fr, vs, rest, hu.here, h2, h3, hall, q5, h6⟩
  | _ => cases k4
/-- A slice's elements, in memory. -/
structure SrcRow (g : Gh) (w : World) (sz : Nat) (v : Value) (ys : List AV) : Prop where
  mk :: (out : ∃ a c, v = .slice a ys.length c ∧ ys.length ≤ c ∧ ∃ vs, RepE g sz vs ys ∧ (ys = [] ∨ ∃ b o, a = some ⟨b, o, none⟩ ∧ ∀ j u, vs[j]? = some u → w.cell? ⟨b, o + j, none⟩ = some u))
theorem readRow_arr {e sz b off o len c : Nat} {cap : Option Nat} {ys : List AV} (h : readRow P e st (.arr sz o off len cap) = some ys) (hl : LiveA g b o (off + c * sz)) (hi : Inv g st w) :
    sizeT P e = some sz ∧ ys.length = len ∧ ∃ tot cs, st.getCells o = some cs ∧ off + len * sz ≤ cs.length ∧ g.blk b = some (.obj o tot) ∧ off + c * sz ≤ tot ∧ ∃ c2 e2 fr vs rest, w.heap[b]? = some (.cells c2 e2 fr) ∧ c2.toList = vs ++ rest ∧ Reps g vs cs ∧ AllOne vs ∧ Unfrozen c2 fr 0 ∧ c2.size = tot ∧ RepE g sz ((vs.drop off).take (len * sz)) ys := by
  simp only [readRow] at h
  split at h
  · rename_i hsz
    split at h
    · rename_i cs hg
      split at h
      · rename_i c1 hct
        obtain ⟨tot, hb, hn, c2, e2, fr, vs, rest, h1, h2, h3, h4, h5, h6⟩ := hi.cellsAt hl hg
        obtain ⟨h7, rfl⟩ := cut_some hct
        obtain ⟨a, q⟩ := elemsOf_ok hsz.1 len _ ys ((vs.drop off).take (len * sz)) h ((h3.drop off).take _) ((h4.drop off).take _)
        rw [List.take_take, Nat.min_self] at q
        exact ⟨hsz.1, a, tot, cs, hg, h7, hb, hn, c2, e2, fr, vs, rest, h1, h2, h3, h4, h5, h6, q⟩
      · cases h
    · cases h
  · cases h
theorem readRow_ok {e : Nat} {v : Value} {x : AV} {ys : List AV} (h : readRow P e st x = some ys) (hr : Rep g v x) (hi : Inv g st w) (hs : ∀ s, x ≠ .str s) :
    ∃ sz, sizeT P e = some sz ∧ SrcRow g w sz v ys ∨ (x = .nils ∧ ys = []) := by
  cases hr with
  | nils => simp only [readRow, Option.some.injEq] at h; exact ⟨0, .inr ⟨rfl, h.symm⟩⟩
  | row b o n c sz tok cap xs vs hi' he hn hc hz hcap ht =>
    simp only [readRow] at h
    split at h <;> rename_i hsz
    · injection h with h; subst h
      exact ⟨sz, .inl ⟨hsz, ⟨some ⟨b, o, none⟩, c, by rw [hn], by omega, vs, he, .inr ⟨b, o, rfl, fun j u hj => hi'.cell hi j u hj⟩⟩⟩⟩
    · cases h
  | arr b off o len c sz cap hl hc hz hcap =>
    obtain ⟨hsz, a, tot, cs, hg, h7, hb, hn, c2, e2, fr, vs, rest, h1, h2, h3, h4, h5, h6, q⟩ := readRow_arr h hl hi
    refine ⟨sz, .inl ⟨hsz, ⟨some ⟨b, off, none⟩, c, by rw [a], by omega, _, q, .inr ⟨b, off, rfl, fun j u hj => ?_⟩⟩⟩⟩
    have hj' : vs[off + j]? = some u := by
      rw [List.getElem?_take] at hj
      split at hj
      · rwa [List.getElem?_drop] at hj
      · cases hj
    have : c2.toList[off + j]? = some u := by rw [h2, List.getElem?_append_left (List.getElem?_eq_some_iff.1 hj').1]; exact hj'
    simp [World.cell?, h1]
    simpa using this
  | str s => exact absurd rfl (hs _)
  | _ => simp [readRow] at h

/-- What is read as an array is read as a row from now on. -/
theorem freeze_one {e sz b off o len c : Nat} {cap : Option Nat} {ys : List AV} (hi : Inv g st w) (hl : LiveA g b o (off + c * sz)) (hc : len ≤ c) (hz : 0 < sz) (hy : readRow P e st (.arr sz o off len cap) = some ys) :
    ∃ g', Adv g w g' w ∧ Inv g' (st.set o .dead) w ∧ Rep g' (.slice (some ⟨b, off, none⟩) len c) (.row sz none none ys) := by
  obtain ⟨hsz, a, tot, cs, hg, h7, hb, hn, c2, e2, fr, vs, rest, h1, h2, h3, h4, h5, h6, q⟩ := readRow_arr hy hl hi
  have hd := hi.die hb
  have hb1 : (g.drop b o).blk b = none := Gh.drop_same
  have hle1 : Le g (g.drop b o) := Le.drop hb
  have hle2 : Le (g.drop b o) ((g.drop b o).upd b (.stat c2.toList)) := Le.upd_new _ _ hb1
  have hinv : Inv ((g.drop b o).upd b (.stat c2.toList)) (st.set o .dead) w := by
    refine ⟨hd.wfo, hd.wft, fun b' t s sz' n cs' hb' => ?_, fun b' cs' hb' => ?_, fun b' o' n hb' => ?_, fun b1 b2 o' n1 n2 h1' h2' => ?_, hd.dead⟩
    · have h : b' ≠ b := by rintro rfl; simp [Gh.upd] at hb'
      rw [Gh.upd_other _ _ h] at hb'; exact hd.row b' t s sz' n cs' hb'
    · by_cases h : b' = b
      · subst h; simp [Gh.upd] at hb'; subst hb'; exact ⟨c2, e2, fr, h1, rfl⟩
      · rw [Gh.upd_other _ _ h] at hb'; exact hd.stat b' cs' hb'
    · have h : b' ≠ b := by rintro rfl; simp [Gh.upd] at hb'
      rw [Gh.upd_other _ _ h] at hb'
      obtain ⟨x, h7, h8⟩ := hd.obj b' o' n hb'
      exact ⟨x, h7, h8.mono hle2⟩
    · have h : b1 ≠ b := by rintro rfl; simp [Gh.upd] at h1'
      have h' : b2 ≠ b := by rintro rfl; simp [Gh.upd] at h2'
      rw [Gh.upd_other _ _ h] at h1'; rw [Gh.upd_other _ _ h'] at h2'
      exact hd.inj b1 b2 o' n1 n2 h1' h2'
  refine ⟨(g.drop b o).upd b (.stat c2.toList), ⟨hle1.trans hle2, Nat.le_refl _, fun b' _ hn => ⟨rfl, ?_⟩, fun _ _ _ => rfl, rfl, rfl, rfl⟩, hinv, ?_⟩
  · have : b' ≠ b := by rintro rfl; rw [hb] at hn; cases hn
    rw [Gh.upd_other _ _ this, Gh.drop_other this]
    exact hn
  · refine .row b off len c sz none none ys _ ?_ (q.mono (hle1.trans hle2)) a hc hz (fun m hm => by cases hm) (fun t off hm => by cases hm)
    refine .inr ⟨_, _, Gh.upd_same _ _ _, rfl, ?_⟩
    refine (List.take_prefix _ _).trans (List.IsPrefix.drop' ?_ off)
    rw [h2]; exact List.prefix_append _ _
theorem freezeCells_ok {et : Nat → Option TypeId} : ∀ (xs : List AV) (i : Nat) (st : Store) (g : Gh) (zs : List AV) (st' : Store) (vs : List Value), freezeCells P et xs i st = some (zs, st') → Reps g vs xs → Inv g st w →
    ∃ g', Adv g w g' w ∧ Inv g' st' w ∧ Reps g' vs zs
  | [], i, st, g, zs, st', vs, h, hr, hi => by
    simp only [freezeCells, Option.some.injEq, Prod.mk.injEq] at h
    obtain ⟨rfl, rfl⟩ := h
    exact ⟨g, Adv.refl g w, hi, hr⟩
  | x :: xs, i, st, g, zs, st', vs, h, hr, hi => by
    match vs, hr with
    | v :: vs, .cons _ _ _ _ hx hxs =>
    have plain : ∀ (hp : (match freezeCells P et xs (i + 1) st with
        | some (zs, st') => some (x :: zs, st')
        | none => none) = some (zs, st')), ∃ g', Adv g w g' w ∧ Inv g' st' w ∧ Reps g' (v :: vs) zs := by
      intro hp
      cases hf : freezeCells P et xs (i + 1) st with
      | none => simp [hf] at hp
      | some r =>
        obtain ⟨zs1, st1⟩ := r
        simp only [hf, Option.some.injEq, Prod.mk.injEq] at hp
        obtain ⟨rfl, rfl⟩ := hp
        obtain ⟨g', a, b, c⟩ := freezeCells_ok xs (i + 1) st g zs1 st1 vs hf hxs hi
        exact ⟨g', a, b, .cons _ _ _ _ (hx.mono a.le) c⟩
    cases hx with
    | arr b off o len c sz cap hl hc hz hcap =>
      simp only [freezeCells] at h
      cases he : et i with
      | none => simp [he] at h
      | some e =>
        simp only [he] at h
        cases hy : readRow P e st (.arr sz o off len cap) with
        | none => simp [hy] at h
        | some ys =>
          simp only [hy] at h
          cases hf : freezeCells P et xs (i + 1) (st.set o .dead) with
          | none => simp [hf] at h
          | some r =>
            obtain ⟨zs1, st1⟩ := r
            simp only [hf, Option.some.injEq, Prod.mk.injEq] at h
            obtain ⟨rfl, rfl⟩ := h
            obtain ⟨g1, a1, i1, r1⟩ := freeze_one hi hl hc hz hy
            obtain ⟨g', a, b, d⟩ := freezeCells_ok xs (i + 1) (st.set o .dead) g1 zs1 st1 vs hf (hxs.mono a1.le) i1
            exact ⟨g', a1.trans a, b, .cons _ _ _ _ (r1.mono a.le) d⟩
    | bool b => exact plain h
    | int k n => exact plain h
    | str s => exact plain h
    | nilptr => exact plain h
    | ptr b off o h' => exact plain h
    | rptr b o vs cs h' h1 hr => exact plain h
    | nils => exact plain h
    | zsl a => exact plain h
    | row b o n c sz tok cap xs' vs hi' he hn hc hz hcap ht => exact plain h
    | nilmap => exact plain h
    | map b o h' => exact plain h
    | func fn a b x y hf ha hb => exact plain h
    | yield b o h' => exact plain h
    | nilFunc => exact plain h
    | iface t v x h' => exact plain h
    | nilIface => exact plain h
    | agg cs xs h1 h' => exact plain h
    | tuple cs xs h' => exact plain h
    | junk v => exact plain h
    | uptr b t tot cs' vs' xs' hb hv he => exact plain h
theorem freezeV_ok {t : Nat} {v : Value} {x x' : AV} {st' : Store} (h : freezeV P t x st = some (x', st')) (hr : Rep g v x) (hi : Inv g st w) : ∃ g', Adv g w g' w ∧ Inv g' st' w ∧ Rep g' v x' := by
  have plain : ∀ (hp : (match freezeCells P (fun _ => elemT P t) [x] 0 st with
      | some ([x], st') => some (x, st')
      | _ => none) = some (x', st')), ∃ g', Adv g w g' w ∧ Inv g' st' w ∧ Rep g' v x' := by
    intro hp
    cases hf : freezeCells P (fun _ => elemT P t) [x] 0 st with
    | none => simp [hf] at hp
    | some r =>
      obtain ⟨zs, st1⟩ := r
      obtain ⟨g', a, b, c⟩ := freezeCells_ok [x] 0 st g zs st1 [v] hf (.cons _ _ _ _ hr .nil) hi
      match zs, c with
      | [z], .cons _ _ _ _ hz .nil =>
        simp only [hf, Option.some.injEq, Prod.mk.injEq] at hp
        obtain ⟨rfl, rfl⟩ := hp
        exact ⟨g', a, b, hz⟩
  cases hr with
  | agg cs xs h1 hx =>
    simp only [freezeV] at h
    split at h
    · rename_i zs st1 hf
      simp only [Option.some.injEq, Prod.mk.injEq] at h
      obtain ⟨rfl, rfl⟩ := h
      obtain ⟨g', a, b, c⟩ := freezeCells_ok xs 0 st g zs st1 cs.toList hf hx hi
      exact ⟨g', a, b, .agg _ _ h1 c⟩
    · cases h
  | bool b => exact plain h
  | int k n => exact plain h
  | str s => exact plain h
  | nilptr => exact plain h
  | ptr b off o h' => exact plain h
  | rptr b o vs cs h' h1 hr => exact plain h
  | nils => exact plain h
  | zsl a => exact plain h
  | row b o n c sz tok cap xs' vs hi' he hn hc hz hcap ht => exact plain h
  | arr b off o len c sz cap hl hc hz hcap => exact plain h
  | nilmap => exact plain h
  | map b o h' => exact plain h
  | func fn a b x y hf ha hb => exact plain h
  | yield b o h' => exact plain h
  | nilFunc => exact plain h
  | iface t v x h' => exact plain h
  | nilIface => exact plain h
  | tuple cs xs h' => exact plain h
  | junk v => exact plain h
  | uptr b t tot cs' vs' xs' hb hv he => exact plain h
end
end Go.Sim

namespace Go.Sim
open Go.WideShapes (add_plain)

/-- A box of the frame's own: nobody else knows of it. -/
def Box (g : Gh) (w : World) (b : Nat) (cs : List AV) : Prop := ∃ c e fr, w.heap[b]? = some (.cells c e fr) ∧ Reps g c.toList cs ∧ AllOne c.toList ∧ Unfrozen c fr 0 ∧ g.blk b = none
def InRel (g : Gh) (B : Nat → Nat) (w : World) : In → Value → Prop
  | .val x, v => Rep g v x
  | .loc b off cs, v => v = .pointer (some ⟨B b, off, none⟩) ∧ Box g w (B b) cs
inductive InsRel (g : Gh) (B : Nat → Nat) (w : World) : List In → List Value → Prop
  | nil : InsRel g B w [] []
  | cons (x : In) (v : Value) (xs : List In) (vs : List Value) (h : InRel g B w x v) (hs : InsRel g B w xs vs) : InsRel g B w (x :: xs) (v :: vs)
def OutOk (g : Gh) (B : Nat → Nat) (st' : Store) (w : World) (out : Out) (v : Value) (w' : World) : Prop := match out with
  | .val x => ∃ g', Adv g w g' w' ∧ Inv g' st' w' ∧ Rep g' v x
  | .loc b off => v = .pointer (some ⟨B b, off, none⟩) ∧ w' = w ∧ Inv g st' w
  | .box cs => ∃ c e, v = .pointer (some ⟨w.heap.size, 0, none⟩) ∧ w' = w.alloc (.cells c e) ∧ Reps g c.toList cs ∧ AllOne c.toList ∧ Inv g st' w
  | .lst b cs => ∃ c e fr, Upd w (B b) (.cells c e fr) w' ∧ Reps g c.toList cs ∧ AllOne c.toList ∧ Unfrozen c fr 0 ∧ Inv g st' w
/-- an operation that answers a value -/
def ValOk (g : Gh) (B : Nat → Nat) (P : Program) (st' : Store) (w : World) (out : Out) (s : Sem Value) : Prop := ∃ v w', s.run P w = .ok v w' ∧ OutOk g B st' w out v w'
/-- one that answers none -/
def UnitOk (g : Gh) (B : Nat → Nat) (P : Program) (st' : Store) (w : World) (out : Out) (s : Sem Unit) : Prop := ∃ w', s.run P w = .ok () w' ∧ OutOk g B st' w out undef w'

section
variable {P : Program} {g : Gh} {B : Nat → Nat} {st st' : Store} {w : World} {out : Out}

theorem OutOk.pure {v : Value} {x : AV} (hi : Inv g st w) (h : Rep g v x) : OutOk g B st w (.val x) v w := ⟨g, Adv.refl g w, hi, h⟩
theorem ValOk.pure {v : Value} {x : AV} (hi : Inv g st w) (h : Rep g v x) : ValOk g B P st w (.val x) (Pure.pure v) := ⟨v, w, rfl, OutOk.pure hi h⟩

theorem aMove_ok {md type : Nat} {ins : List In} {v : Value} (h : aMove P md type ins st = some (out, st')) (hin : InsRel g B w ins [v]) (hi : Inv g st w) : OutOk g B st' w out v w := by
  match ins, hin with
  | [.val x], .cons _ _ _ _ hx .nil =>
    simp only [aMove] at h
    split at h
    · split at h
      · rename_i r hr
        obtain ⟨x', st1⟩ := r
        simp only [Option.some.injEq, Prod.mk.injEq] at h
        obtain ⟨rfl, rfl⟩ := h
        obtain ⟨g', a, b, c⟩ := freezeV_ok hr hx hi
        exact ⟨g', a, b, c⟩
      · cases h
    · simp only [Option.some.injEq, Prod.mk.injEq] at h
      obtain ⟨rfl, rfl⟩ := h
      exact OutOk.pure hi hx
  | [.loc b off cs], .cons _ _ _ _ hx .nil =>
    simp only [aMove, Option.some.injEq, Prod.mk.injEq] at h
    obtain ⟨rfl, rfl⟩ := h
    exact ⟨hx.1, rfl, hi⟩

theorem aPick_ok {ins : List In} {vc va vb : Value} (h : aPick ins st = some (out, st')) (hin : InsRel g B w ins [vc, va, vb]) (hi : Inv g st w) :
    ValOk g B P st' w out (do pure (if ← asBool vc then va else vb)) := by
  match ins, hin with
  | [.val c, .val a, .val b], .cons _ _ _ _ hc (.cons _ _ _ _ ha (.cons _ _ _ _ hb .nil)) =>
    cases hc with
    | bool c =>
      simp only [aPick, Option.some.injEq, Prod.mk.injEq] at h
      obtain ⟨rfl, rfl⟩ := h
      cases c
      · exact ⟨vb, w, by simp [asBool], OutOk.pure hi hb⟩
      · exact ⟨va, w, by simp [asBool], OutOk.pure hi ha⟩
    | _ => simp [aPick] at h
  | [.val _, .val _, .loc ..], _ => simp [aPick] at h
  | [.val _, .loc .., _], _ => simp [aPick] at h
  | [.loc .., _, _], _ => simp [aPick] at h

mutual
theorem absC_ok : ∀ (v : Value) (x : AV), absC v = some x → Rep g v x
  | .bool b, x, h => by simp only [absC, Option.some.injEq] at h; subst h; exact .bool b
  | .int k n, x, h => by simp only [absC, Option.some.injEq] at h; subst h; exact .int k n
  | .string s, x, h => by simp only [absC, Option.some.injEq] at h; subst h; exact .str s
  | .pointer none, x, h => by simp only [absC, Option.some.injEq] at h; subst h; exact .nilptr
  | .slice none 0 0, x, h => by simp only [absC, Option.some.injEq] at h; subst h; exact .nils
  | .map none, x, h => by simp only [absC, Option.some.injEq] at h; subst h; exact .nilmap
  | .nilFunc, x, h => by simp only [absC, Option.some.injEq] at h; subst h; exact .nilFunc
  | .nilIface, x, h => by simp only [absC, Option.some.injEq] at h; subst h; exact .nilIface
  | .func (.func f) ⟨[]⟩ ⟨[]⟩, x, h => by simp only [absC, Option.some.injEq] at h; subst h; exact .func _ _ _ _ _ rfl .nil .nil
  | .agg ⟨cs⟩, x, h => by
    simp only [absC] at h
    split at h
    · rename_i xs hx
      split at h
      · rename_i h1
        injection h with h; subst h
        refine .agg _ _ (fun v hv => ?_) (absCs_ok cs xs hx)
        exact List.all_eq_true.1 h1 v hv
      · cases h
    · cases h
  | .tuple ⟨cs⟩, x, h => by
    simp only [absC] at h
    split at h
    · rename_i xs hx
      injection h with h; subst h
      exact .tuple _ _ (absCs_ok cs xs hx)
    · cases h
  | .func (.func f) ⟨_ :: _⟩ _, x, h => by simp [absC] at h
  | .func (.func f) ⟨[]⟩ ⟨_ :: _⟩, x, h => by simp [absC] at h
  | .func (.method _) _ _, x, h => by simp [absC] at h
  | .func (.methodOf _ _) _ _, x, h => by simp [absC] at h
  | .func (.via _ _ _ _) _ _, x, h => by simp [absC] at h
  | .func (.yield _) _ _, x, h => by simp [absC] at h
  | .float _ _, x, h => by simp [absC] at h
  | .complex _ _ _, x, h => by simp [absC] at h
  | .pointer (some _), x, h => by simp [absC] at h
  | .slice (some _) _ _, x, h => by simp [absC] at h
  | .slice none (_ + 1) _, x, h => by simp [absC] at h
  | .slice none 0 (_ + 1), x, h => by simp [absC] at h
  | .map (some _), x, h => by simp [absC] at h
  | .chan _, x, h => by simp [absC] at h
  | .iface _ _, x, h => by simp [absC] at h
theorem absCs_ok : ∀ (vs : List Value) (xs : List AV), absCs vs = some xs → Reps g vs xs
  | [], xs, h => by simp only [absCs, Option.some.injEq] at h; subst h; exact .nil
  | v :: vs, xs, h => by
    simp only [absCs] at h
    split at h
    · rename_i x hx
      split at h
      · rename_i ys hy
        injection h with h; subst h
        exact .cons _ _ _ _ (absC_ok v x hx) (absCs_ok vs ys hy)
      · cases h
    · cases h
end
theorem zeroT_ok {t : Nat} {z : AV} (h : zeroT P t = some z) : ∃ i v, P.info? t = some i ∧ i.zero = some v ∧ (∀ g, Rep g v z) ∧ z.noTuple = true := by
  unfold zeroT at h
  split at h
  · rename_i i hi
    split at h
    · rename_i v hv
      split at h
      · rename_i x hx
        split at h
        · rename_i hn
          injection h with h; subst h
          exact ⟨i, v, hi, hv, fun g => absC_ok v x hx, hn⟩
        · cases h
      · cases h
    · cases h
  · cases h
theorem run_zeroValue {t : Nat} {i : TypeInfo} {v : Value} (hi : P.info? t = some i) (hv : i.zero = some v) (w : World) : (zeroValue t).run P w = .ok v w := by
  simp [zeroValue, typeInfo, hi, hv]
/-- A new variable. -/
theorem newVar_obj {v : Value} {cs : List AV} (hi : Inv g st w) (hr : Reps g v.cells.toList cs) (h1 : AllOne v.cells.toList) (t : TypeId) :
    ∃ g', Adv g w g' (w.alloc (.cells v.cells t)) ∧ Inv g' (st.new (.cells cs)) (w.alloc (.cells v.cells t)) ∧ Rep g' (.pointer (some ⟨w.heap.size, 0, none⟩)) (.ptr st.nobj 0) := by
  refine ⟨_, Adv.alloc_upd hi _ (.obj st.nobj v.cells.size), hi.alloc_obj _ _ _ ?_, .ptr _ _ _ (.inr ⟨_, Gh.upd_same _ _ _, Nat.zero_le _⟩)⟩
  refine ⟨v.cells, t, (0, 0), v.cells.toList, [], heap_alloc_new w _, by simp, hr.mono (Le.upd_new g _ (hi.none_of_ge (Nat.le_refl _))), h1, Nat.le_refl _, rfl⟩
theorem aAlloc_ok {md t : Nat} (h : aAlloc P md t st = some (out, st')) (hi : Inv g st w) : ValOk g B P st' w out (Instr.alloc t true (.tuple #[])) := by
  unfold aAlloc at h
  split at h
  · rename_i z hz
    obtain ⟨i, v, h1, h2, h3, h4⟩ := zeroT_ok hz
    obtain ⟨hr, ho⟩ := (h3 g).cells h4
    have hrun : (Instr.alloc t true (.tuple #[])).run P w = .ok (.pointer (some ⟨w.heap.size, 0, none⟩)) (w.alloc (.cells v.cells t)) := by
      simp [Instr.alloc, run_zeroValue h1 h2, newVar, newRow]
    split at h
    · simp only [Option.some.injEq, Prod.mk.injEq] at h
      obtain ⟨rfl, rfl⟩ := h
      exact ⟨_, _, hrun, v.cells, t, rfl, rfl, hr, ho, hi⟩
    · split at h
      · simp only [Option.some.injEq, Prod.mk.injEq] at h
        obtain ⟨rfl, rfl⟩ := h
        refine ⟨_, _, hrun, _, Adv.alloc_upd hi _ (.obj st.nobj v.cells.size), hi.alloc_obj _ _ _ ?_, .ptr _ _ _ (.inr ⟨_, Gh.upd_same _ _ _, Nat.zero_le _⟩)⟩
        exact ⟨v.cells, (0, 0), v.cells.toList, [], heap_alloc_new w _, by simp, hr.mono (Le.upd_new g _ (hi.none_of_ge (Nat.le_refl _))), ho, Nat.le_refl _, rfl, by have := hr.length; simpa using this.symm⟩
      · simp only [Option.some.injEq, Prod.mk.injEq] at h
        obtain ⟨rfl, rfl⟩ := h
        exact ⟨_, _, hrun, newVar_obj hi hr ho t⟩
  · cases h
theorem aBox_ok {md t : Nat} {ins : List In} {v : Value} (h : aBox md ins st = some (out, st')) (hin : InsRel g B w ins [v]) (hi : Inv g st w) : ValOk g B P st' w out (Instr.box t v) := by
  match ins, hin with
  | [.val x], .cons _ _ _ _ hx .nil =>
    simp only [aBox] at h
    split at h <;> rename_i hn
    · obtain ⟨hr, ho⟩ := Rep.cells hx hn
      have hrun : (Instr.box t v).run P w = .ok (.pointer (some ⟨w.heap.size, 0, none⟩)) (w.alloc (.cells v.cells t)) := by
        simp [Instr.box, newVar, newRow]
      split at h
      · simp only [Option.some.injEq, Prod.mk.injEq] at h
        obtain ⟨rfl, rfl⟩ := h
        exact ⟨_, _, hrun, v.cells, t, rfl, rfl, hr, ho, hi⟩
      · split at h
        · simp only [Option.some.injEq, Prod.mk.injEq] at h
          obtain ⟨rfl, rfl⟩ := h
          refine ⟨_, _, hrun, _, Adv.alloc_upd hi _ _, hi.alloc_stat v.cells t (0, 0), ?_⟩
          exact .rptr _ _ v.cells.toList _ (.inr ⟨_, _, Gh.upd_same _ _ _, rfl, by simp⟩) ho (hr.mono (Le.upd_new g _ (hi.none_of_ge (Nat.le_refl _))))
        · simp only [Option.some.injEq, Prod.mk.injEq] at h
          obtain ⟨rfl, rfl⟩ := h
          exact ⟨_, _, hrun, newVar_obj hi hr ho t⟩
    · cases h
  | [.loc ..], _ => simp [aBox] at h
end
end Go.Sim
