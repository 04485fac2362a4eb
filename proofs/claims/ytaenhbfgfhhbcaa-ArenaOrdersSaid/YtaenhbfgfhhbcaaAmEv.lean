/- The abstract machine: values, trees, heaps, and the run of the model's own code over them (definitions alone). -/
import Derived.WalkKit
namespace Go.AM
open Go

/-- Abstract values. 'sl b off len cap sz': a slice over row b, its elements of sz cells; cap none: up to the row's end. 'sle': an empty slice, of whatever place. -/
inductive V where
  | bool (b : Bool)
  | int (k : IntKind) (n : Int)
  | str (l : List UInt8)
  | nilp
  | ptr (b off : Nat)
  | nils
  | sle
  | sl (b off len : Nat) (cap : Option Nat) (sz : Nat)
  | nilm
  | mp (b : Nat)
  | nilf
  | fn (f : Fn) (first cap : List V)
  | nili
  | ifc (t : TypeId) (v : V)
  | agg (cs : List V)
  | tup (vs : List V)
  deriving Inhabited

/-- Trees keyed by numbers. -/
inductive Tr (α : Type) where
  | nil
  | node (l : Tr α) (v : Option α) (r : Tr α)
namespace Tr
variable {α : Type}
def get : Tr α → Nat → Option α
  | nil, _ => none
  | node l v r, n => if n = 0 then v else if n % 2 = 1 then l.get (n / 2) else r.get (n / 2 - 1)
def left : Tr α → Tr α | nil => nil | node l _ _ => l
def right : Tr α → Tr α | nil => nil | node _ _ r => r
def val : Tr α → Option α | nil => none | node _ v _ => v
def setF : Nat → Tr α → Nat → Option α → Tr α
  | 0, t, _, _ => t
  | f + 1, t, n, x => if n = 0 then node t.left x t.right else if n % 2 = 1 then node (setF f t.left (n / 2) x) t.val t.right else node t.left t.val (setF f t.right (n / 2 - 1) x)
def set (t : Tr α) (n : Nat) (x : α) : Tr α := setF (n + 1) t n (some x)
def del (t : Tr α) (n : Nat) : Tr α := setF (n + 1) t n none
end Tr

inductive Ob where
  | row (elem : TypeId) (sz : Nat) (ro : Bool) (cells : List V)
  | map (ro : Bool) (es : List (V × V × Nat)) (clock : Nat)
  | iter (m : Option Nat) (since : Nat) (seen : List Nat) (last : Nat)
  | dead
structure Hp where
  next : Nat
  m : Tr Ob
  stale : List Nat
namespace Hp
def get (H : Hp) (b : Nat) : Option Ob := H.m.get b
def put (H : Hp) (b : Nat) (o : Ob) : Hp := { H with m := H.m.set b o }
def new (H : Hp) (o : Ob) : Hp := { H with next := H.next + 1, m := H.m.set H.next o }
def kill : List Nat → Hp → Hp
  | [], H => H
  | b :: r, H => kill r (H.put b .dead)
def bump (H : Hp) : Hp := { H with next := H.next + 1 }
def flush (H : Hp) : Hp := match H.stale with | [] => H | l => { kill l H with stale := [] }
end Hp

/-- A type's shape, as far as the machine asks. -/
inductive Ds where
  | other | bool | int (k : IntKind) | str | ptr (e : TypeId) | slice (e : TypeId) | arr (n : Nat) (e : TypeId) | map (k e : TypeId) | struct (fs : List (Nat × TypeId)) | iface
structure TI where
  desc : Ds
  size : Nat
  bytes : Nat
  zero : List V
  /-- Do we know how to compare it (a struct of numbers, texts, bools)? -/
  eq : Bool
structure Tab where
  ty : TypeId → Option TI
  fn : FuncId → Option Func
  ng : Nat
  dr : FuncId → Nat → Option (List (Nat × Nat))
  /-- Functions that are told otherwise than by their code. -/
  ext : FuncId → Option (List V → Hp → Option (V × Hp)) := fun _ => none

/-- A constant. -/
def ofVal : Value → Option V
  | .bool b => some (.bool b)
  | .int k n => some (.int k n)
  | .string s => some (.str s.data.toList)
  | .pointer none => some .nilp
  | .slice none 0 0 => some .nils
  | .map none => some .nilm
  | .nilFunc => some .nilf
  | .nilIface => some .nili
  | _ => none

abbrev Fr := Tr V
def opd (ng : Nat) (F : Fr) : Operand → Option V
  | .tmp t => F.get t
  | .const v => ofVal v
  | .global g => if g < ng then some (.ptr g 0) else none
  | .func f => some (.fn (.func f) [] [])
def opds (ng : Nat) (F : Fr) : List Operand → Option (List V)
  | [] => some []
  | x :: r => match opd ng F x, opds ng F r with | some v, some vs => some (v :: vs) | _, _ => none

def descOf (T : Tab) (t : TypeId) : Option Ds := match T.ty t with | some i => some i.desc | none => none
def oneV : V → Bool | .agg _ => false | .tup _ => false | _ => true
def cellsV : V → List V | .agg cs => cs | v => [v]
def isAgg : Ds → Bool | .struct _ => true | .arr _ _ => true | _ => false
/-- The part of type t from cell off on. -/
def partV (T : Tab) (t : TypeId) (cs : List V) (off : Nat) : Option V :=
  match T.ty t with
  | some i => if isAgg i.desc then (if off + i.size ≤ cs.length then some (.agg ((cs.drop off).take i.size)) else none) else cs[off]?
  | none => none
def setCells (cs : List V) (off : Nat) : List V → List V
  | [] => cs
  | v :: r => setCells (cs.set off v) (off + 1) r

/-- 'k.wrap n', told quickly where n lies within. -/
def wr (k : IntKind) (n : Int) : Int :=
  match k, n with
  | .i64, .ofNat m => if m < 9223372036854775808 then .ofNat m else k.wrap n
  | .u64, .ofNat m => if m < 18446744073709551616 then .ofNat m else k.wrap n
  | .u32, .ofNat m => if m < 4294967296 then .ofNat m else k.wrap n
  | .u8, .ofNat m => if m < 256 then .ofNat m else k.wrap n
  | _, _ => k.wrap n
def binInt (op : BinOp) (k : IntKind) (a b : Int) : Option V :=
  match op with
  | .add => some (.int k (wr k (a + b)))
  | .sub => some (.int k (wr k (a - b)))
  | .mul => some (.int k (wr k (a * b)))
  | .quo => if b = 0 then none else some (.int k (wr k (a.tdiv b)))
  | .rem => if b = 0 then none else some (.int k (a.tmod b))
  | .and => some (.int k (bits .and k a b))
  | .or => some (.int k (bits .or k a b))
  | .xor => some (.int k (bits .xor k a b))
  | .eql => some (.bool (a == b))
  | .neq => some (.bool (a != b))
  | .lss => some (.bool (decide (a < b)))
  | .leq => some (.bool (decide (a ≤ b)))
  | .gtr => some (.bool (decide (b < a)))
  | .geq => some (.bool (decide (b ≤ a)))
  | _ => none
def binStr (op : BinOp) (a b : List UInt8) : Option V :=
  match op with
  | .add => if a.length + b.length ≤ 9223372036854775807 then some (.str (a ++ b)) else none
  | .eql => some (.bool (a == b))
  | .neq => some (.bool !(a == b))
  | .lss => some (.bool (Op.bytesLess a b))
  | .gtr => some (.bool !(Op.bytesLess a b || a == b))
  | _ => none
def isBoolD : Option Ds → Bool | some .bool => true | _ => false
def isPtrD : Option Ds → Bool | some (.ptr _) => true | _ => false
def bin (op : BinOp) (d : Option Ds) (a b : V) : Option V :=
  match op, a, b with
  | .shl, .int k a, .int _ n => if 0 ≤ n then some (.int k (wr k (a * 2 ^ (min n.toNat k.bits)))) else none
  | .shr, .int k a, .int _ n => if 0 ≤ n then some (.int k (a.fdiv (2 ^ (min n.toNat k.bits)))) else none
  | _, .int k a, .int k' b => if k = k' then binInt op k a b else none
  | _, .str a, .str b => binStr op a b
  | .eql, .bool a, .bool b => if isBoolD d then some (.bool (a == b)) else none
  | .neq, .bool a, .bool b => if isBoolD d then some (.bool (a != b)) else none
  | .eql, .nilp, .nilp => if isPtrD d then some (.bool true) else none
  | .neq, .nilp, .nilp => if isPtrD d then some (.bool false) else none
  | .eql, .ptr _ _, .nilp => if isPtrD d then some (.bool false) else none
  | .neq, .ptr _ _, .nilp => if isPtrD d then some (.bool true) else none
  | _, _, _ => none

/-- Are two keys the same? (Numbers, texts, bools, and rows of them.) -/
def sameL (f : V → V → Option Bool) : List V → List V → Option Bool
  | [], [] => some true
  | a :: x, b :: y => match f a b, sameL f x y with | some p, some q => some (p && q) | _, _ => none
  | _, _ => none
def same1 : V → V → Option Bool
  | .int k a, .int k' b => if k = k' then some (a == b) else none
  | .str a, .str b => some (a == b)
  | .bool a, .bool b => some (a == b)
  | _, _ => none
def sameK : V → V → Option Bool
  | .agg x, .agg y => sameL same1 x y
  | a, b => same1 a b
/-- Is it a key of this type, and of a type that we know how to compare? -/
def keyOk1 (T : Tab) (t : TypeId) : V → Bool
  | .int k _ => (match descOf T t with | some (.int k') => k == k' | _ => false)
  | .str _ => (match descOf T t with | some .str => true | _ => false)
  | .bool _ => (match descOf T t with | some .bool => true | _ => false)
  | _ => false
def keyOkL (T : Tab) : List (Nat × TypeId) → List V → Nat → Bool
  | [], [], _ => true
  | (off, t) :: r, v :: vs, n => off == n && keyOk1 T t v && keyOkL T r vs (n + 1)
  | _, _, _ => false
def keyOkS (T : Tab) (t : TypeId) (cs : List V) : Bool :=
  match T.ty t with
  | some i => i.eq && (match i.desc with | .struct fs => keyOkL T fs cs 0 | _ => false)
  | none => false
def keyOk (T : Tab) (t : TypeId) : V → Bool
  | .agg cs => keyOkS T t cs
  | v => keyOk1 T t v
def isIfD : Option Ds → Bool | some .iface => true | _ => false
def isMpD : Option Ds → Bool | some (.map _ _) => true | _ => false
def isSlD : Option Ds → Bool | some (.slice _) => true | _ => false
def isC : Operand → Bool | .const _ => true | _ => false
def eqS (T : Tab) (t : TypeId) (xs ys : List V) : Option Bool := if keyOkS T t xs then sameL same1 xs ys else none
/-- Is a value nil, where nil stands on the right? -/
def nilR (d : Option Ds) (x y : Operand) : V → V → Option Bool
  | .nili, .nili => if isIfD d && (isC x || isC y) then some true else none
  | .ifc _ _, .nili => if isIfD d then some false else none
  | .nilm, .nilm => if isMpD d then some true else none
  | .mp _, .nilm => if isMpD d then some false else none
  | .nils, .nils => if isSlD d then some true else none
  | .sle, .nils => if isSlD d then some false else none
  | .sl .., .nils => if isSlD d then some false else none
  | .nilp, .ptr _ _ => if isPtrD d then some false else none
  | _, _ => none
def binE (T : Tab) (op : BinOp) (t : TypeId) (x y : Operand) (a b : V) : Option V :=
  match bin op (descOf T t) a b with
  | some v => some v
  | none => match op, a, b with
    | .eql, .agg xs, .agg ys => (eqS T t xs ys).map .bool
    | .neq, .agg xs, .agg ys => (eqS T t xs ys).map fun r => .bool !r
    | .eql, a, b => (nilR (descOf T t) x y a b).map .bool
    | .neq, a, b => (nilR (descOf T t) x y a b).map fun r => .bool !r
    | _, _, _ => none

/-- What kind of operation: it only computes; it reads; it makes memory; it writes; it calls. -/
inductive Kd where
  | p | r | a | w | c | no
def isMapT (T : Tab) (t : Option TypeId) : Bool := match t with | some t => (match descOf T t with | some (.map _ _) => true | _ => false) | none => false
def convKd (T : Tab) (s d : TypeId) : Kd :=
  match descOf T s, descOf T d with
  | some (.int _), some (.int _) => .p
  | some .str, some .str => .p
  | some .str, some (.slice _) => .a
  | some (.slice _), some .str => .r
  | some (.int _), some .str => .p
  | _, _ => .no
def kind (T : Tab) : Op → Kd
  | .move _ | .assign _ | .pick .. | .nilCheck _ | .binOp .. | .unOp .. | .fieldAddr .. | .field .. | .indexAddr .. | .index .. | .slice .. | .extract .. | .makeInterface .. | .makeFunc .. | .typeAssert .. | .build .. => .p
  | .convert s d _ => convKd T s d
  | .load .. | .lookup .. => .r
  | .alloc _ | .box .. | .buildSlice .. | .makeMap .. | .makeSlice .. => .a
  | .store .. | .mapUpdate .. | .range .. | .next .. | .entry _ => .w
  | .call c => match c.callee with
    | .builtin .len => if isMapT T c.argTypes[0]? then .r else .p
    | .builtin .max | .builtin .min => .p
    | .builtin .append => .a
    | .builtin .delete | .builtin .clear => .w
    | .value _ => .c
    | _ => .no
  | _ => .no

/-- Parts laid over cells (a struct's literal; an array's). -/
def fillV (place : Nat → Option (Nat × Nat)) (cells : List V) : List (Nat × V) → Option (List V)
  | [] => some cells
  | (i, v) :: rest =>
    match place i with
    | none => none
    | some (off, size) => if (cellsV v).all oneV = false ∨ (cellsV v).length ≠ size ∨ off + (cellsV v).length > cells.length then none else fillV place (setCells cells off (cellsV v)) rest
def partsV (T : Tab) (F : Fr) : List (Nat × Operand) → Option (List (Nat × V))
  | [] => some []
  | (i, x) :: r => match opd T.ng F x, partsV T F r with | some v, some vs => some ((i, v) :: vs) | _, _ => none
def placesV (T : Tab) : List (Nat × TypeId) → Option (List (Nat × Nat))
  | [] => some []
  | (off, t) :: r => match T.ty t, placesV T r with | some i, some ps => some ((off, i.size) :: ps) | _, _ => none
def optI (T : Tab) (F : Fr) : Option Operand → Option (Option Int)
  | none => some none
  | some x => match opd T.ng F x with | some (.int _ n) => some (some n) | _ => none

def sliceV (T : Tab) (t : TypeId) (x : V) (lo hi mx : Option Int) : Option V :=
  match x, descOf T t with
  | .str s, some .str => match mx with
    | some _ => none
    | none =>
      let h := hi.getD s.length
      let l := lo.getD 0
      if 0 ≤ l ∧ l ≤ h ∧ h ≤ s.length then some (.str ((s.drop l.toNat).take (h.toNat - l.toNat))) else none
  | .nils, some (.slice e) => if lo.getD 0 = 0 ∧ hi.getD 0 = 0 ∧ mx.isNone ∧ (T.ty e).isSome then some .nils else none
  | .sle, some (.slice e) => if lo.getD 0 = 0 ∧ hi.getD 0 = 0 ∧ mx.isNone ∧ (T.ty e).isSome then some .sle else none
  | .sl b off len cap z, some (.slice e) => match T.ty e with
    | none => none
    | some i =>
      let h := hi.getD len
      let l := lo.getD 0
      if ¬ (z = i.size ∧ 0 ≤ l ∧ l ≤ h ∧ h ≤ len) then none else
      match mx with
      | some m => if h ≤ m ∧ m ≤ len ∧ hi.isSome then some (.sl b (if m = l then off else off + l.toNat * i.size) (h.toNat - l.toNat) (some (m.toNat - l.toNat)) z) else none
      | none => match cap with
        | none => if l < h then some (.sl b (off + l.toNat * i.size) (h.toNat - l.toNat) none z) else if l = 0 then some (.sl b off 0 none z) else some .sle
        | some c => some (.sl b (if (c : Int) = l then off else off + l.toNat * i.size) (h.toNat - l.toNat) (some (c - l.toNat)) z)
  | _, _ => none

def lenV : V → Option Ds → Option V
  | .sl _ _ n _ _, some (.slice _) => some (.int .i64 n)
  | .str s, some .str => some (.int .i64 s.length)
  | .nils, some (.slice _) => some (.int .i64 0)
  | .sle, some (.slice _) => some (.int .i64 0)
  | _, _ => none
def evP (T : Tab) (o : Op) (F : Fr) : Option V :=
  match o with
  | .move x | .assign x => opd T.ng F x
  | .pick c a b => match opd T.ng F c with | some (.bool true) => opd T.ng F a | some (.bool false) => opd T.ng F b | _ => none
  | .nilCheck x => match opd T.ng F x with | some (.ptr b o) => some (.ptr b o) | _ => none
  | .binOp op t x y _ => match opd T.ng F x, opd T.ng F y with | some a, some b => binE T op t x y a b | _, _ => none
  | .unOp .not _ x => match opd T.ng F x with | some (.bool b) => some (.bool !b) | _ => none
  | .unOp .neg _ x => match opd T.ng F x with | some (.int k n) => some (.int k (wr k (0 - n))) | _ => none
  | .convert c d x => match opd T.ng F x, descOf T c, descOf T d with
    | some (.int _ n), some (.int _), some (.int k) => some (.int k (wr k n))
    | some (.str s), some .str, some .str => some (.str s)
    | some (.int _ n), some (.int _), some .str => if 0 ≤ n ∧ n < 128 then some (.str [UInt8.ofNat n.toNat]) else none
    | _, _, _ => none
  | .makeInterface t x => match opd T.ng F x, descOf T t with | some _, some .iface => none | some v, some _ => some (.ifc t v) | _, _ => none
  | .makeFunc f a b => match opds T.ng F a.toList, opds T.ng F b.toList with | some x, some y => some (.fn f x y) | _, _ => none
  | .fieldAddr s x f => match opd T.ng F x, descOf T s with
    | some (.ptr b off), some (.struct fs) => match fs[f]? with
      | some fd => match T.ty fd.2 with | some i => if i.size = 0 then none else some (.ptr b (off + fd.1)) | none => none
      | none => none
    | _, _ => none
  | .field s x f => match opd T.ng F x, descOf T s with
    | some (.agg cs), some (.struct fs) => match fs[f]? with | some fd => partV T fd.2 cs fd.1 | none => none
    | _, _ => none
  | .indexAddr t x i => match opd T.ng F x, opd T.ng F i, descOf T t with
    | some (.sl b off len _ _), some (.int _ n), some (.slice e) => match T.ty e with
      | some ei => if 0 ≤ n ∧ n < len then some (.ptr b (off + n.toNat * ei.size)) else none
      | none => none
    | some (.ptr b off), some (.int _ n), some (.arr len e) => match T.ty e with
      | some ei => if 0 ≤ n ∧ n < len then some (.ptr b (off + n.toNat * ei.size)) else none
      | none => none
    | _, _, _ => none
  | .index t x i => match opd T.ng F x, opd T.ng F i, descOf T t with
    | some (.str s), some (.int _ n), some .str => if 0 ≤ n then (match s[n.toNat]? with | some b => some (.int .u8 b.toNat) | none => none) else none
    | some (.agg cs), some (.int _ n), some (.arr len e) => match T.ty e with
      | some ei => if 0 ≤ n ∧ n < len then partV T e cs (n.toNat * ei.size) else none
      | none => none
    | _, _, _ => none
  | .slice t x lo hi mx => match opd T.ng F x, optI T F lo, optI T F hi, optI T F mx with
    | some v, some l, some h, some m => sliceV T t v l h m
    | _, _, _, _ => none
  | .extract t i => match opd T.ng F t with | some (.tup vs) => vs[i]? | _ => none
  | .typeAssert x _ a ok => match opd T.ng F x, descOf T a with
    | some (.ifc _ _), some .iface => none
    | some (.ifc t v), some _ => if t = a then some (if ok then .tup [v, .bool true] else v) else none
    | _, _ => none
  | .build t parts => match T.ty t, partsV T F parts.toList with
    | some i, some ps => match i.desc with
      | .struct fs => match placesV T fs with
        | some pl => match fillV (pl[·]?) i.zero ps with | some cs => some (.agg cs) | none => none
        | none => none
      | .arr _ e => match T.ty e with
        | some ei => match fillV (fun i => some (i * ei.size, ei.size)) i.zero ps with | some cs => some (.agg cs) | none => none
        | none => none
      | _ => none
    | _, _ => none
  | .call c => match c.callee, opds T.ng F c.args.toList with
    | .builtin .len, some [v] => match c.argTypes[0]? with
      | some t => lenV v (descOf T t)
      | none => none
    | .builtin .max, some [.int k a, .int _ b] => some (.int k (if b > a then b else a))
    | .builtin .min, some [.int k a, .int _ b] => some (.int k (if b < a then b else a))
    | _, _ => none
  | _ => none

def mapKeyOk (T : Tab) (t : TypeId) (k : V) : Bool := match descOf T t with | some (.map kt _) => keyOk T kt k | _ => false
def zeroV (i : TI) : Option V := if isAgg i.desc then some (.agg i.zero) else match i.zero with | [z] => some z | _ => none
def esOf (g : Nat → Option Ob) : V → Option (List (V × V × Nat))
  | .nilm => some []
  | .mp b => (match g b with | some (.map _ es _) => some es | _ => none)
  | _ => none
def findE (k : V) : List (V × V × Nat) → Nat → Option (Option (Nat × V))
  | [], _ => some none
  | e :: r, i => match sameK k e.1 with
    | some true => some (some (i, e.2.1))
    | some false => findE k r (i + 1)
    | none => none

def bytesOf : List V → Option (List UInt8)
  | [] => some []
  | .int .u8 n :: r => match bytesOf r with | some l => some (UInt8.ofNat n.toNat :: l) | none => none
  | _ => none

def bytesR (g : Nat → Option Ob) : V → Option (List UInt8)
  | .nils => some []
  | .sle => some []
  | .sl b off len _ _ => match g b with
    | some (.row _ 1 _ cs) => if off + len ≤ cs.length then bytesOf ((cs.drop off).take len) else none
    | _ => none
  | _ => none
def evR (T : Tab) (o : Op) (F : Fr) (g : Nat → Option Ob) : Option V :=
  match o with
  | .load t a => match opd T.ng F a with
    | some (.ptr b off) => match g b with | some (.row _ _ _ cs) => partV T t cs off | _ => none
    | _ => none
  | .lookup t x i ok => match opd T.ng F x, opd T.ng F i, descOf T t with
    | some m, some k, some (.map kt e) => if keyOk T kt k = false then none else match T.ty e, esOf g m with
      | some ei, some es => match findE k es 0 with
        | some (some (_, v)) => some (if ok then .tup [v, .bool true] else v)
        | some none => match zeroV ei with
          | some z => some (if ok then .tup [z, .bool false] else z)
          | none => none
        | none => none
      | _, _ => none
    | _, _, _ => none
  | .convert c d x => match opd T.ng F x, descOf T c, descOf T d with
    | some v, some (.slice e), some .str => match descOf T e, bytesR g v with
      | some (.int .u8), some l => some (.str l)
      | _, _ => none
    | _, _, _ => none
  | .call c => match opds T.ng F c.args.toList, c.argTypes[0]? with
    | some [v], some t => match descOf T t, esOf g v with
      | some (.map _ _), some es => some (.int .i64 es.length)
      | _, _ => none
    | _, _ => none
  | _ => none

/-- 'n' elements' cells of a slice, as they lie. -/
def takeSl (g : Nat → Option Ob) (sz : Nat) : V → Option (Nat × List V)
  | .nils => some (0, [])
  | .sle => some (0, [])
  | .sl b off n _ _ => match g b with
    | some (.row _ sz' _ cs) => if sz' = sz ∧ off + n * sz ≤ cs.length then some (n, (cs.drop off).take (n * sz)) else none
    | _ => none
  | _ => none
def repl (z : List V) : Nat → List V
  | 0 => []
  | n + 1 => z ++ repl z n

/-- What makes memory: its value; the new row, if there is one; the row that it goes on from. -/
def evA (T : Tab) (o : Op) (F : Fr) (g : Nat → Option Ob) (id : Nat) : Option (V × Option Ob × Option Nat) :=
  match o with
  | .alloc e => match T.ty e with
    | some i => match i.desc with
      | .arr n e' => match T.ty e' with | some i' => if n * i'.size = i.size then some (.ptr id 0, some (.row e i'.size false i.zero), none) else none | none => none
      | _ => some (.ptr id 0, some (.row e i.size false i.zero), none)
    | none => none
  | .box e x => match opd T.ng F x, T.ty e with
    | some v, some i => if (cellsV v).all oneV = false then none else match i.desc with
      | .arr n e' => match T.ty e' with | some i' => if n * i'.size = (cellsV v).length then some (.ptr id 0, some (.row e i'.size false (cellsV v)), none) else none | none => none
      | _ => some (.ptr id 0, some (.row e (cellsV v).length false (cellsV v)), none)
    | _, _ => none
  | .buildSlice t len parts => match descOf T t, partsV T F parts.toList with
    | some (.slice e), some ps => match T.ty e with
      | some i => if len * i.size ≤ 16777216 ∧ 0 < i.size then (match fillV (fun j => some (j * i.size, i.size)) (repl i.zero len) ps with
        | some cs => some (.sl id 0 len none i.size, some (.row e i.size false cs), none)
        | none => none) else none
      | none => none
    | _, _ => none
  | .makeMap t none => match descOf T t with | some (.map _ _) => some (.mp id, some (.map false [] 0), none) | _ => none
  | .makeSlice t l c => match opd T.ng F l, opd T.ng F c, descOf T t with
    | some (.int _ l), some (.int _ c), some (.slice e) => match T.ty e with
      | some i => if 0 ≤ l ∧ l ≤ c ∧ i.bytes * c ≤ 140737488355328 ∧ c ≤ 9223372036854775807 ∧ 0 < i.size then some (.sl id 0 l.toNat none i.size, some (.row e i.size false (repl i.zero c.toNat)), none) else none
      | none => none
    | _, _, _ => none
  | .convert _ d x => match opd T.ng F x, descOf T d with
    | some (.str s), some (.slice e) => match descOf T e with
      | some (.int .u8) => some (.sl id 0 s.length none 1, some (.row e 1 false (s.map fun b => .int .u8 b.toNat)), none)
      | _ => none
    | _, _ => none
  | .call c => match opds T.ng F c.args.toList, c.argTypes.toList with
    | some [s, x], [t, t'] => if t ≠ t' then none else match descOf T t with
      | some (.slice e) => match T.ty e with
        | some i => match takeSl g i.size x with
          | some (0, _) => (match s with | .sl .. => some (s, none, none) | .nils => some (s, none, none) | .sle => some (s, none, none) | _ => none)
          | some (m, news) => match s with
            | .nils => if m * i.bytes ≤ 140737488355328 ∧ m ≤ 9223372036854775807 ∧ 0 < i.size then some (.sl id 0 m none i.size, some (.row e i.size false news), none) else none
            | .sl b off n cap z => match g b with
              | some (.row _ sz ro cs) => if z = i.size ∧ sz = i.size ∧ off + n * sz ≤ cs.length ∧ (n + m) * i.bytes ≤ 140737488355328 ∧ n + m ≤ 9223372036854775807 then
                  (match cap with
                  | none => if off = 0 ∧ n * sz = cs.length ∧ ro = false then some (.sl id 0 (n + m) none i.size, some (.row e i.size false (cs ++ news)), some b) else none
                  | some k => if k < n + m then some (.sl id 0 (n + m) none i.size, some (.row e i.size false ((cs.drop off).take (n * sz) ++ news)), none) else none)
                else none
              | _ => none
            | _ => none
          | none => none
        | none => none
      | _ => none
    | _, _ => none
  | _ => none

/-- The heap that an append leaves. -/
def afterA (H : Hp) : Option Ob → Option Nat → Hp
  | none, _ => H
  | some ob, none => H.new ob
  | some ob, some b => { H.new ob with stale := b :: H.stale }
/-- An append that writes on within its row, or beyond what is known of it. -/
def evAW (T : Tab) (o : Op) (F : Fr) (H : Hp) : Option (V × Hp) :=
  match o with
  | .call c => match opds T.ng F c.args.toList, c.argTypes.toList with
    | some [s, x], [t, t'] => if t ≠ t' then none else match descOf T t with
      | some (.slice e) => match T.ty e with
        | some i => match takeSl H.get i.size x, s with
          | some (m, news), .sl b 0 n none z => match H.get b with
            | some (.row e' sz false cs) =>
              if z = i.size ∧ sz = i.size ∧ n * sz < cs.length then
                (if (n + m) * sz ≤ cs.length then some (.sl b 0 (n + m) none z, H.put b (.row e' sz false (setCells cs (n * sz) news)))
                else match evA T o F (H.put b (.row e' sz false (cs.take (n * sz)))).get H.next with
                  | some (v, ob, kb) => some (v, afterA (H.put b (.row e' sz false (cs.take (n * sz)))) ob kb)
                  | none => none)
              else none
            | _ => none
          | _, _ => none
        | none => none
      | _ => none
    | _, _ => none
  | _ => none

def modE (es : List (V × V × Nat)) (i : Nat) (k v : V) : List (V × V × Nat) :=
  match es[i]? with | some e => es.set i (k, v, e.2.2) | none => es

def evW (T : Tab) (o : Op) (F : Fr) (H : Hp) : Option (Option V × Hp) :=
  match o with
  | .store t a x => match opd T.ng F a, opd T.ng F x, T.ty t with
    | some (.ptr b off), some v, some i => match H.get b with
      | some (.row e sz false cs) => if (cellsV v).all oneV = true ∧ (cellsV v).length = i.size ∧ off + i.size ≤ cs.length then some (none, H.put b (.row e sz false (setCells cs off (cellsV v)))) else none
      | _ => none
    | _, _, _ => none
  | .mapUpdate t m k x => match opd T.ng F m, opd T.ng F k, opd T.ng F x with
    | some (.mp b), some k, some v => if mapKeyOk T t k = false then none else match H.get b with
      | some (.map false es clock) => match findE k es 0 with
        | some (some (i, _)) => some (none, H.put b (.map false (modE es i k v) clock))
        | some none => some (none, H.put b (.map false (es ++ [(k, v, clock)]) (clock + 1)))
        | none => none
      | _ => none
    | _, _, _ => none
  | .call c => match c.callee, opds T.ng F c.args.toList, c.argTypes.toList with
    | .builtin .delete, some [.mp b, k], t :: _ => if mapKeyOk T t k = false then none else match H.get b with
      | some (.map false es clock) => match findE k es 0 with
        | some (some (i, _)) => some (some (.tup []), H.put b (.map false (es.eraseIdx i) clock))
        | some none => some (some (.tup []), H)
        | none => none
      | _ => none
    | .builtin .clear, some [v], [t] => match v, descOf T t with
      | .nils, some (.slice _) => some (some (.tup []), H)
      | .sle, some (.slice _) => some (some (.tup []), H)
      | .sl b off n _ _, some (.slice e') => match H.get b, T.ty e' with
        | some (.row e sz false cs), some i => if i.size = sz ∧ off + n * sz ≤ cs.length then some (some (.tup []), H.put b (.row e sz false (setCells cs off (repl i.zero n)))) else none
        | _, _ => none
      | _, _ => none
    | _, _, _ => none
  | .range t x => match opd T.ng F x, descOf T t with
    | some .nilm, some (.map _ _) => some (some (.ptr H.next 0), H.new (.iter none 0 [] 0))
    | some (.mp m), some (.map _ _) => match H.get m with
      | some (.map _ _ clock) => some (some (.ptr H.next 0), H.new (.iter (some m) clock [] clock))
      | _ => none
    | _, _ => none
  | .entry it => match opd T.ng F it with
    | some (.ptr r 0) => match H.get r with
      | some (.iter (some m) _ seen last) => match H.get m, seen.getLast? with
        | some (.map _ es clock), some st => if clock = last then (match es.find? (fun e => e.2.2 == st) with | some e => some (some (.tup [e.1, e.2.1]), H) | none => none) else none
        | _, _ => none
      | _ => none
    | _ => none
  | .next it false => match opd T.ng F it with
    | some (.ptr r 0) => match H.get r with
      | some (.iter none _ _ _) => some (some (.tup [.bool false]), H)
      | some (.iter (some m) since seen last) => match H.get m with
        | some (.map _ es clock) =>
          if !seen.isEmpty && !es.isEmpty && es.all (fun e => last ≤ e.2.2) then none else
          let left := es.filter fun e => !seen.contains e.2.2
          let old := left.filter fun e => e.2.2 < since
          let new := left.filter fun e => since ≤ e.2.2
          let cands : List (Option (V × V × Nat)) := (if old.isEmpty then [none] else []) ++ (old ++ new).map some
          match cands with
          | [some e] => some (some (.tup [.bool true, e.1, e.2.1]), H.put r (.iter (some m) since (seen ++ [e.2.2]) clock))
          | [none] => some (some (.tup [.bool false]), H)
          | _ => none
        | _ => none
      | _ => none
    | _ => none
  | _ => none

inductive Res where
  | val (v : V) (H : Hp)
  | skip (H : Hp)
  | enter (f : FuncId) (args : List V) (H : Hp)
def kbOk (H : Hp) : Option Nat → Bool
  | none => true
  | some b => !H.stale.contains b
/-- One operation. -/
def evOp (T : Tab) (o : Op) (F : Fr) (H : Hp) : Option Res :=
  match kind T o with
  | .p => match evP T o F with | some v => some (.val v H) | none => none
  | .r => match evR T o F H.get with | some v => some (.val v H) | none => none
  | .a => match evA T o F H.get H.next with
    | some (v, ob, kb) => if kbOk H kb then some (.val v (afterA H ob kb)) else none
    | none => match evAW T o F H.flush with | some (v, H') => some (.val v H') | none => none
  | .w => match evW T o F H.flush with
    | some (some v, H') => some (.val v H')
    | some (none, H') => some (.skip H')
    | none => none
  | .c => match o with
    | .call c => match c.callee with
      | .value f => match opd T.ng F f, opds T.ng F c.args.toList with
        | some (.fn (.func g) fs cs), some xs => some (.enter g (fs ++ xs ++ cs) H.flush)
        | _, _ => none
      | _ => none
    | _ => none
  | .no => none

mutual
/-- The same value (no functions). -/
def eqV : V → V → Bool
  | .bool a, .bool b => a == b
  | .int k a, .int k' b => k == k' && a == b
  | .str a, .str b => a == b
  | .nilp, .nilp => true
  | .ptr b o, .ptr b' o' => b == b' && o == o'
  | .nils, .nils => true
  | .sle, .sle => true
  | .sl b o n c z, .sl b' o' n' c' z' => b == b' && o == o' && n == n' && c == c' && z == z'
  | .nilm, .nilm => true
  | .mp b, .mp b' => b == b'
  | .nilf, .nilf => true
  | .nili, .nili => true
  | .ifc t v, .ifc t' v' => t == t' && eqV v v'
  | .agg a, .agg b => eqL a b
  | .tup a, .tup b => eqL a b
  | _, _ => false
def eqL : List V → List V → Bool
  | [], [] => true
  | a :: x, b :: y => eqV a b && eqL x y
  | _, _ => false
end

inductive Out where
  | nrm
  | exit (id : Nat)
  | ret
abbrev CallE := FuncId → List V → Hp → Option (V × Hp)

def putD (F : Fr) : Option Tmp → V → Fr
  | some t, v => F.set t v
  | none, _ => F
/-- Nothing came: the model's 'undef' is the empty row. -/
def delD (F : Fr) : Option Tmp → Fr
  | some t => F.set t (.tup [])
  | none => F
def gotB (ops : Array Oper) (F : Fr) (j : Nat) : Option (Option Bool) :=
  match ops[j]? with | some o => (match o.dst with | some t => (match F.get t with | some (.bool b) => some (some b) | some (.tup []) => some none | _ => none) | none => none) | none => none
def wantedV (ops : Array Oper) (F : Fr) : Option (Nat × Bool) → Option Bool
  | none => some true
  | some (j, w) => match gotB ops F j with | some b => some (b == some w) | none => none
def evOps (T : Tab) (call : CallE) (ops : Array Oper) : List Oper → Fr → Hp → Option (Fr × Hp)
  | [], F, H => some (F, H.flush)
  | o :: r, F, H =>
    match wantedV ops F o.guard with
    | some true => match evOp T o.op F H with
      | some (.val v H') => evOps T call ops r (putD F o.dst v) H'
      | some (.skip H') => evOps T call ops r (delD F o.dst) H'
      | some (.enter f xs H') => match call f xs H' with
        | some (v, H'') => evOps T call ops r (putD F o.dst v) H''
        | none => none
      | none => none
    | some false => evOps T call ops r (delD F o.dst) H
    | none => none
/-- A point of a drawn region: what changes the memory that others may see. -/
def isPt (T : Tab) (o : Op) : Bool :=
  match kind T o with
  | .w => true
  | .c => true
  | .a => (match o with | .call _ => true | _ => false)
  | _ => false
/-- A reading tells the same at so many points before. -/
def winOk (T : Tab) (o : Op) (F : Fr) (n : Nat) (v : V) (B : List Hp) : Bool :=
  match n with
  | 0 => true
  | _ => ((B.drop 1).take n).all fun H => match kind T o with
    | .r => (match evR T o F H.get with | some v' => eqV v v' | none => false)
    | _ => true
/-- A drawn region, in its plan's order: the operations' numbers, each with the points before it that need not be before it. B: the heaps behind the points so far, the last one first. -/
def evDraw (T : Tab) (call : CallE) (ops : Array Oper) : List (Nat × Nat) → Fr → Hp → List Hp → Option (Fr × Hp)
  | [], F, H, _ => some (F, H.flush)
  | (i, n) :: r, F, H, B => match ops[i]? with
    | none => none
    | some o => match wantedV ops F o.guard with
      | some true => match evOp T o.op F H with
        | some (.val v H') => if isPt T o.op then evDraw T call ops r (putD F o.dst v) H'.bump (H' :: B) else if winOk T o.op F n v B then evDraw T call ops r (putD F o.dst v) H' B else none
        | some (.skip H') => evDraw T call ops r (delD F o.dst) H'.bump (H' :: B)
        | some (.enter f xs H') => match call f xs H' with
          | some (v, H'') => evDraw T call ops r (putD F o.dst v) H''.bump (H'' :: B)
          | none => none
        | none => none
      | some false => evDraw T call ops r (delD F o.dst) H (if isPt T o.op then H :: B else B)
      | none => none
def loopN (body : Fr → Hp → Option (Out × Fr × Hp)) : Nat → Fr → Hp → Option (Out × Fr × Hp)
  | 0, _, _ => none
  | n + 1, F, H => match body F H with
    | some (.nrm, F', H') => loopN body n F' H'
    | r => r
def evCode (T : Tab) (call : CallE) (f : FuncId) (n : Nat) : Code → Fr → Hp → Option (Out × Fr × Hp)
  | .skip, F, H => some (.nrm, F, H)
  | .label _, F, H => some (.nrm, F, H)
  | .region _ ops false, F, H => match evOps T call ops ops.toList F H with | some (F', H') => some (.nrm, F', H') | none => none
  | .region id ops true, F, H => match T.dr f id with
    | some p => match evDraw T call ops p F H [H] with | some (F', H') => some (.nrm, F', H') | none => none
    | none => none
  | .seq a b, F, H => match evCode T call f n a F H with
    | some (.nrm, F', H') => evCode T call f n b F' H'
    | r => r
  | .cond c a b, F, H => match opd T.ng F c with
    | some (.bool true) => evCode T call f n a F H
    | some (.bool false) => evCode T call f n b F H
    | _ => none
  | .block id c, F, H => match evCode T call f n c F H with
    | some (.exit i, F', H') => if i = id then some (.nrm, F', H') else some (.exit i, F', H')
    | r => r
  | .scope c, F, H => evCode T call f n c F H
  | .loop c, F, H => loopN (evCode T call f n c) n F H
  | .exit id, F, H => some (.exit id, F, H)
  | .ret, F, H => some (.ret, F, H)
  | _, _, _ => none
def frame : List V → Nat → Fr → Fr
  | [], _, F => F
  | v :: r, i, F => frame r (i + 1) (F.set i v)
def getAll (T : Tab) (F : Fr) (g : Nat → Option Ob) : List ResultVar → Option (List V)
  | [] => some []
  | .tmp t :: r => match F.get t, getAll T F g r with | some v, some vs => some (v :: vs) | _, _ => none
  | .cell a t :: r => match F.get a with
    | some (.ptr b off) => match g b with
      | some (.row _ _ _ cs) => match partV T t cs off, getAll T F g r with | some v, some vs => some (v :: vs) | _, _ => none
      | _ => none
    | _ => none
def resOf (T : Tab) (rs : List ResultVar) (F : Fr) (g : Nat → Option Ob) : Option V :=
  match getAll T F g rs with
  | some [v] => some v
  | some vs => some (.tup vs)
  | none => none
def evCall (T : Tab) : Nat → CallE
  | 0, _, _, _ => none
  | k + 1, f, args, H => match T.fn f with
    | some fn => match fn.body with
      | some c => match T.ext f with
        | some e => e args H
        | none => match evCode T (evCall T k) f k c (frame args 0 .nil) H with
          | some (.ret, F, H') => match resOf T fn.results.toList F H'.get with | some v => some (v, H') | none => none
          | some (.nrm, F, H') => match resOf T fn.results.toList F H'.get with | some v => some (v, H') | none => none
          | _ => none
      | none => none
    | none => none
end Go.AM
