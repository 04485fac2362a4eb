/- Parts of the abstract machine and of the walks over it, joined: what the law that is claimed here leans on. -/
import Derived.WalkKit
import Derived.Below
import Derived.WalkLawsBesides
import Derived.IntWalk
import Derived.Lib.Strings
import Derived.Laws.StructEq
import Derived.Laws.Tables
import Derived.Laws.Append
import Derived.Deep.AppendSrc
import Derived.Lib.ConvBytes
import Derived.MapKept
set_option linter.unusedVariables false
set_option linter.unusedSimpArgs false
namespace Go.AM
open Go
inductive V where
 | bool (b:Bool)
 | int (k:IntKind) (n:Int)
 | str (l:List UInt8)
 | nilp
 | ptr (b off:Nat)
 | nils
 | sle
 | sl (b off len:Nat) (cap:Option Nat) (sz:Nat)
 | nilm
 | mp (b:Nat)
 | nilf
 | fn (f:Fn) (first cap:List V)
 | nili
 | ifc (t:TypeId) (v:V)
 | agg (cs:List V)
 | tup (vs:List V)
 deriving Inhabited
inductive Tr (α:Type) where
 | nil
 | node (l:Tr α) (v:Option α) (r:Tr α)
namespace Tr
variable {α:Type}
def get:Tr α->Nat->Option α
 | nil,_=>none
 | node l v r,n=>if n=0 then v else if n % 2=1 then l.get (n / 2) else r.get (n / 2-1)
def left:Tr α->Tr α | nil=>nil | node l _ _=>l
def right:Tr α->Tr α | nil=>nil | node _ _ r=>r
def val:Tr α->Option α | nil=>none | node _ v _=>v
def setF:Nat->Tr α->Nat->Option α->Tr α
 | 0,t,_,_=>t
 | f+1,t,n,x=>if n=0 then node t.left x t.right else if n % 2=1 then node (setF f t.left (n / 2) x) t.val t.right else node t.left t.val (setF f t.right (n / 2-1) x)
def set (t:Tr α) (n:Nat) (x:α):Tr α:=setF (n+1) t n (some x)
def del (t:Tr α) (n:Nat):Tr α:=setF (n+1) t n none
end Tr
inductive Ob where
 | row (elem:TypeId) (sz:Nat) (ro:Bool) (cells:List V)
 | map (ro:Bool) (es:List (V×V×Nat)) (clock:Nat)
 | iter (m:Option Nat) (since:Nat) (seen:List Nat) (last:Nat)
 | dead
structure Hp where
 next:Nat
 m:Tr Ob
 stale:List Nat
namespace Hp
def get (H:Hp) (b:Nat):Option Ob:=H.m.get b
def put (H:Hp) (b:Nat) (o:Ob):Hp:={ H with m:=H.m.set b o }
def new (H:Hp) (o:Ob):Hp:={ H with next:=H.next+1,m:=H.m.set H.next o }
def kill:List Nat->Hp->Hp
 | [],H=>H
 | b :: r,H=>kill r (H.put b .dead)
def bump (H:Hp):Hp:={ H with next:=H.next+1 }
def flush (H:Hp):Hp:=match H.stale with | []=>H | l=>{ kill l H with stale:=[] }
end Hp
inductive Ds where
 | other | bool | int (k:IntKind) | str | ptr (e:TypeId) | slice (e:TypeId) | arr (n:Nat) (e:TypeId) | map (k e:TypeId) | struct (fs:List (Nat×TypeId)) | iface
structure TI where
 desc:Ds
 size:Nat
 bytes:Nat
 zero:List V
 eq:Bool
structure Alt where
 pre:List (Nat×Nat)
 dry:List (Nat×Nat)
 y:Nat
 x:Nat
 v:Tmp
 u:Tmp
structure Tab where
 ty:TypeId->Option TI
 fn:FuncId->Option Func
 ng:Nat
 dr:FuncId->Nat->Option (List (Nat×Nat))
 ext:FuncId->Option (List V->Hp->Option (V×Hp)):=fun _=>none
 init:Nat->World->Prop:=fun _ _=>True
 quiet:FuncId->Bool:=fun _=>false
 alt:FuncId->Nat->Option Alt:=fun _ _=>none
def ofVal0:Value->Option V
 | .bool b=>some (.bool b)
 | .int k n=>some (.int k n)
 | .string s=>some (.str s.data.toList)
 | .pointer none=>some .nilp
 | .slice none 0 0=>some .nils
 | .map none=>some .nilm
 | .nilFunc=>some .nilf
 | .nilIface=>some .nili
 | _=>none
def ofVals:List Value->Option (List V)
 | []=>some []
 | x :: r=>match ofVal0 x,ofVals r with | some v,some vs=>some (v :: vs) | _,_=>none
def ofVal:Value->Option V
 | .agg xs=>match ofVals xs.toList with | some l=>some (.agg l) | none=>none
 | x=>ofVal0 x
abbrev Fr:=Tr V
def opd (ng:Nat) (F:Fr):Operand->Option V
 | .tmp t=>F.get t
 | .const v=>ofVal v
 | .global g=>if g < ng then some (.ptr g 0) else none
 | .func f=>some (.fn (.func f) [] [])
def opds (ng:Nat) (F:Fr):List Operand->Option (List V)
 | []=>some []
 | x :: r=>match opd ng F x,opds ng F r with | some v,some vs=>some (v :: vs) | _,_=>none
def descOf (T:Tab) (t:TypeId):Option Ds:=match T.ty t with | some i=>some i.desc | none=>none
def oneV:V->Bool | .agg _=>false | .tup _=>false | _=>true
def cellsV:V->List V | .agg cs=>cs | v=>[v]
def isAgg:Ds->Bool | .struct _=>true | .arr _ _=>true | _=>false
def partV (T:Tab) (t:TypeId) (cs:List V) (off:Nat):Option V :=
 match T.ty t with
 | some i=>if isAgg i.desc then (if off+i.size<=cs.length then some (.agg ((cs.drop off).take i.size)) else none) else cs[off]?
 | none=>none
def setCells (cs:List V) (off:Nat):List V->List V
 | []=>cs
 | v :: r=>setCells (cs.set off v) (off+1) r
def wr (k:IntKind) (n:Int):Int :=
 match k,n with
 | .i64,.ofNat m=>if m < 9223372036854775808 then .ofNat m else k.wrap n
 | .u64,.ofNat m=>if m < 18446744073709551616 then .ofNat m else k.wrap n
 | .u32,.ofNat m=>if m < 4294967296 then .ofNat m else k.wrap n
 | .u8,.ofNat m=>if m < 256 then .ofNat m else k.wrap n
 | _,_=>k.wrap n
def binInt (op:BinOp) (k:IntKind) (a b:Int):Option V :=
 match op with
 | .add=>some (.int k (wr k (a+b)))
 | .sub=>some (.int k (wr k (a-b)))
 | .mul=>some (.int k (wr k (a*b)))
 | .quo=>if b=0 then none else some (.int k (wr k (a.tdiv b)))
 | .rem=>if b=0 then none else some (.int k (a.tmod b))
 | .and=>some (.int k (bits .and k a b))
 | .or=>some (.int k (bits .or k a b))
 | .xor=>some (.int k (bits .xor k a b))
 | .eql=>some (.bool (a==b))
 | .neq=>some (.bool (a != b))
 | .lss=>some (.bool (decide (a < b)))
 | .leq=>some (.bool (decide (a<=b)))
 | .gtr=>some (.bool (decide (b < a)))
 | .geq=>some (.bool (decide (b<=a)))
 | _=>none
def binStr (op:BinOp) (a b:List UInt8):Option V :=
 match op with
 | .add=>if a.length+b.length<=9223372036854775807 then some (.str (a++b)) else none
 | .eql=>some (.bool (a==b))
 | .neq=>some (.bool !(a==b))
 | .lss=>some (.bool (Op.bytesLess a b))
 | .gtr=>some (.bool !(Op.bytesLess a b || a==b))
 | _=>none
def isBoolD:Option Ds->Bool | some .bool=>true | _=>false
def isPtrD:Option Ds->Bool | some (.ptr _)=>true | _=>false
def bin (op:BinOp) (d:Option Ds) (a b:V):Option V :=
 match op,a,b with
 | .shl,.int k a,.int _ n=>if 0<=n then some (.int k (wr k (a*2 ^ (min n.toNat k.bits)))) else none
 | .shr,.int k a,.int _ n=>if 0<=n then some (.int k (a.fdiv (2 ^ (min n.toNat k.bits)))) else none
 | _,.int k a,.int k' b=>if k=k' then binInt op k a b else none
 | _,.str a,.str b=>binStr op a b
 | .eql,.bool a,.bool b=>if isBoolD d then some (.bool (a==b)) else none
 | .neq,.bool a,.bool b=>if isBoolD d then some (.bool (a != b)) else none
 | .eql,.nilp,.nilp=>if isPtrD d then some (.bool true) else none
 | .neq,.nilp,.nilp=>if isPtrD d then some (.bool false) else none
 | .eql,.ptr _ _,.nilp=>if isPtrD d then some (.bool false) else none
 | .neq,.ptr _ _,.nilp=>if isPtrD d then some (.bool true) else none
 | _,_,_=>none
def sameL (f:V->V->Option Bool):List V->List V->Option Bool
 | [],[]=>some true
 | a :: x,b :: y=>match f a b,sameL f x y with | some p,some q=>some (p&&q) | _,_=>none
 | _,_=>none
def same1:V->V->Option Bool
 | .int k a,.int k' b=>if k=k' then some (a==b) else none
 | .str a,.str b=>some (a==b)
 | .bool a,.bool b=>some (a==b)
 | _,_=>none
def sameK:V->V->Option Bool
 | .agg x,.agg y=>sameL same1 x y
 | a,b=>same1 a b
def keyOk1 (T:Tab) (t:TypeId):V->Bool
 | .int k _=>(match descOf T t with | some (.int k')=>k==k' | _=>false)
 | .str _=>(match descOf T t with | some .str=>true | _=>false)
 | .bool _=>(match descOf T t with | some .bool=>true | _=>false)
 | _=>false
def keyOkL (T:Tab):List (Nat×TypeId)->List V->Nat->Bool
 | [],[],_=>true
 | (off,t) :: r,v :: vs,n=>off==n&&keyOk1 T t v&&keyOkL T r vs (n+1)
 | _,_,_=>false
def keyOkS (T:Tab) (t:TypeId) (cs:List V):Bool :=
 match T.ty t with
 | some i=>i.eq&&(match i.desc with | .struct fs=>keyOkL T fs cs 0 | _=>false)
 | none=>false
def keyOk (T:Tab) (t:TypeId):V->Bool
 | .agg cs=>keyOkS T t cs
 | v=>keyOk1 T t v
def isIfD:Option Ds->Bool | some .iface=>true | _=>false
def isMpD:Option Ds->Bool | some (.map _ _)=>true | _=>false
def isSlD:Option Ds->Bool | some (.slice _)=>true | _=>false
def isC:Operand->Bool | .const _=>true | _=>false
def eqS (T:Tab) (t:TypeId) (xs ys:List V):Option Bool:=if keyOkS T t xs then sameL same1 xs ys else none
def nilR (d:Option Ds) (x y:Operand):V->V->Option Bool
 | .nili,.nili=>if isIfD d&&(isC x || isC y) then some true else none
 | .ifc _ _,.nili=>if isIfD d then some false else none
 | .nilm,.nilm=>if isMpD d then some true else none
 | .mp _,.nilm=>if isMpD d then some false else none
 | .nils,.nils=>if isSlD d then some true else none
 | .sle,.nils=>if isSlD d then some false else none
 | .sl ..,.nils=>if isSlD d then some false else none
 | .nilp,.ptr _ _=>if isPtrD d then some false else none
 | _,_=>none
def binE (T:Tab) (op:BinOp) (t:TypeId) (x y:Operand) (a b:V):Option V :=
 match bin op (descOf T t) a b with
 | some v=>some v
 | none=>match op,a,b with
  | .eql,.agg xs,.agg ys=>(eqS T t xs ys).map .bool
  | .neq,.agg xs,.agg ys=>(eqS T t xs ys).map fun r=>.bool !r
  | .eql,a,b=>(nilR (descOf T t) x y a b).map .bool
  | .neq,a,b=>(nilR (descOf T t) x y a b).map fun r=>.bool !r
  | _,_,_=>none
inductive Kd where
 | p | r | a | w | c | no
def isMapT (T:Tab) (t:Option TypeId):Bool:=match t with | some t=>(match descOf T t with | some (.map _ _)=>true | _=>false) | none=>false
def convKd (T:Tab) (s d:TypeId):Kd :=
 match descOf T s,descOf T d with
 | some (.int _),some (.int _)=>.p
 | some .str,some .str=>.p
 | some .str,some (.slice _)=>.a
 | some (.slice _),some .str=>.r
 | some (.int _),some .str=>.p
 | _,_=>.no
def kind (T:Tab):Op->Kd
 | .move _ | .assign _ | .pick .. | .nilCheck _ | .binOp .. | .unOp .. | .fieldAddr .. | .field .. | .indexAddr .. | .index .. | .extract .. | .makeInterface .. | .makeFunc .. | .typeAssert .. | .build ..=>.p
 | .slice t _ _ _ _=>match descOf T t with | some (.arr _ _)=>.r | _=>.p
 | .convert s d _=>convKd T s d
 | .load .. | .lookup ..=>.r
 | .alloc _ | .box .. | .buildSlice .. | .makeMap .. | .makeSlice ..=>.a
 | .store .. | .mapUpdate .. | .range .. | .next .. | .entry _=>.w
 | .call c=>match c.callee with
  | .builtin .len=>if isMapT T c.argTypes[0]? then .r else .p
  | .builtin .max | .builtin .min=>.p
  | .builtin .append=>.a
  | .builtin .delete | .builtin .clear=>.w
  | .value _=>.c
  | _=>.no
 | _=>.no
def fillV (place:Nat->Option (Nat×Nat)) (cells:List V):List (Nat×V)->Option (List V)
 | []=>some cells
 | (i,v) :: rest =>
  match place i with
  | none=>none
  | some (off,size)=>if (cellsV v).all oneV=false\/(cellsV v).length≠size\/off+(cellsV v).length > cells.length then none else fillV place (setCells cells off (cellsV v)) rest
def partsV (T:Tab) (F:Fr):List (Nat×Operand)->Option (List (Nat×V))
 | []=>some []
 | (i,x) :: r=>match opd T.ng F x,partsV T F r with | some v,some vs=>some ((i,v) :: vs) | _,_=>none
def placesV (T:Tab):List (Nat×TypeId)->Option (List (Nat×Nat))
 | []=>some []
 | (off,t) :: r=>match T.ty t,placesV T r with | some i,some ps=>some ((off,i.size) :: ps) | _,_=>none
def optI (T:Tab) (F:Fr):Option Operand->Option (Option Int)
 | none=>some none
 | some x=>match opd T.ng F x with | some (.int _ n)=>some (some n) | _=>none
def sliceV (T:Tab) (t:TypeId) (x:V) (lo hi mx:Option Int):Option V :=
 match x,descOf T t with
 | .str s,some .str=>match mx with
  | some _=>none
  | none =>
   let h:=hi.getD s.length
   let l:=lo.getD 0
   if 0<=l/\l<=h/\h<=s.length then some (.str ((s.drop l.toNat).take (h.toNat-l.toNat))) else none
 | .nils,some (.slice e)=>if lo.getD 0=0/\hi.getD 0=0/\mx.isNone/\(T.ty e).isSome then some .nils else none
 | .sle,some (.slice e)=>if lo.getD 0=0/\hi.getD 0=0/\mx.isNone/\(T.ty e).isSome then some .sle else none
 | .sl b off len cap z,some (.slice e)=>match T.ty e with
  | none=>none
  | some i =>
   let h:=hi.getD len
   let l:=lo.getD 0
   if ¬ (z=i.size/\0<=l/\l<=h/\h<=len) then none else
   match mx with
   | some m=>if h<=m/\m<=len/\hi.isSome then some (.sl b (if m=l then off else off+l.toNat*i.size) (h.toNat-l.toNat) (some (m.toNat-l.toNat)) z) else none
   | none=>match cap with
    | none=>if l < h then some (.sl b (off+l.toNat*i.size) (h.toNat-l.toNat) none z) else if l=0 then some (.sl b off 0 none z) else some .sle
    | some c=>some (.sl b (if (c:Int)=l then off else off+l.toNat*i.size) (h.toNat-l.toNat) (some (c-l.toNat)) z)
 | _,_=>none
def lenV:V->Option Ds->Option V
 | .sl _ _ n _ _,some (.slice _)=>some (.int .i64 n)
 | .str s,some .str=>some (.int .i64 s.length)
 | .nils,some (.slice _)=>some (.int .i64 0)
 | .sle,some (.slice _)=>some (.int .i64 0)
 | _,_=>none
def evP (T:Tab) (o:Op) (F:Fr):Option V :=
 match o with
 | .move x | .assign x=>opd T.ng F x
 | .pick c a b=>match opd T.ng F c with | some (.bool true)=>opd T.ng F a | some (.bool false)=>opd T.ng F b | _=>none
 | .nilCheck x=>match opd T.ng F x with | some (.ptr b o)=>some (.ptr b o) | _=>none
 | .binOp op t x y _=>match opd T.ng F x,opd T.ng F y with | some a,some b=>binE T op t x y a b | _,_=>none
 | .unOp .not _ x=>match opd T.ng F x with | some (.bool b)=>some (.bool !b) | _=>none
 | .unOp .neg _ x=>match opd T.ng F x with | some (.int k n)=>some (.int k (wr k (0-n))) | _=>none
 | .convert c d x=>match opd T.ng F x,descOf T c,descOf T d with
  | some (.int _ n),some (.int _),some (.int k)=>some (.int k (wr k n))
  | some (.str s),some .str,some .str=>some (.str s)
  | some (.int _ n),some (.int _),some .str=>if 0<=n/\n < 128 then some (.str [UInt8.ofNat n.toNat]) else none
  | _,_,_=>none
 | .makeInterface t x=>match opd T.ng F x,descOf T t with | some _,some .iface=>none | some v,some _=>some (.ifc t v) | _,_=>none
 | .makeFunc f a b=>match opds T.ng F a.toList,opds T.ng F b.toList with | some x,some y=>some (.fn f x y) | _,_=>none
 | .fieldAddr s x f=>match opd T.ng F x,descOf T s with
  | some (.ptr b off),some (.struct fs)=>match fs[f]? with
   | some fd=>match T.ty fd.2 with | some i=>if i.size=0 then none else some (.ptr b (off+fd.1)) | none=>none
   | none=>none
  | _,_=>none
 | .field s x f=>match opd T.ng F x,descOf T s with
  | some (.agg cs),some (.struct fs)=>match fs[f]? with | some fd=>partV T fd.2 cs fd.1 | none=>none
  | _,_=>none
 | .indexAddr t x i=>match opd T.ng F x,opd T.ng F i,descOf T t with
  | some (.sl b off len _ _),some (.int _ n),some (.slice e)=>match T.ty e with
   | some ei=>if 0<=n/\n < len then some (.ptr b (off+n.toNat*ei.size)) else none
   | none=>none
  | some (.ptr b off),some (.int _ n),some (.arr len e)=>match T.ty e with
   | some ei=>if 0<=n/\n < len then some (.ptr b (off+n.toNat*ei.size)) else none
   | none=>none
  | _,_,_=>none
 | .index t x i=>match opd T.ng F x,opd T.ng F i,descOf T t with
  | some (.str s),some (.int _ n),some .str=>if 0<=n then (match s[n.toNat]? with | some b=>some (.int .u8 b.toNat) | none=>none) else none
  | some (.agg cs),some (.int _ n),some (.arr len e)=>match T.ty e with
   | some ei=>if 0<=n/\n < len then partV T e cs (n.toNat*ei.size) else none
   | none=>none
  | _,_,_=>none
 | .slice t x lo hi mx=>match opd T.ng F x,optI T F lo,optI T F hi,optI T F mx with
  | some v,some l,some h,some m=>sliceV T t v l h m
  | _,_,_,_=>none
 | .extract t i=>match opd T.ng F t with | some (.tup vs)=>vs[i]? | _=>none
 | .typeAssert x _ a ok=>match opd T.ng F x,descOf T a with
  | some (.ifc _ _),some .iface=>none
  | some (.ifc t v),some _=>if t=a then some (if ok then .tup [v,.bool true] else v) else none
  | _,_=>none
 | .build t parts=>match T.ty t,partsV T F parts.toList with
  | some i,some ps=>match i.desc with
   | .struct fs=>match placesV T fs with
    | some pl=>match fillV (pl[·]?) i.zero ps with | some cs=>some (.agg cs) | none=>none
    | none=>none
   | .arr _ e=>match T.ty e with
    | some ei=>match fillV (fun i=>some (i*ei.size,ei.size)) i.zero ps with | some cs=>some (.agg cs) | none=>none
    | none=>none
   | _=>none
  | _,_=>none
 | .call c=>match c.callee,opds T.ng F c.args.toList with
  | .builtin .len,some [v]=>match c.argTypes[0]? with
   | some t=>lenV v (descOf T t)
   | none=>none
  | .builtin .max,some [.int k a,.int _ b]=>some (.int k (if b > a then b else a))
  | .builtin .min,some [.int k a,.int _ b]=>some (.int k (if b < a then b else a))
  | _,_=>none
 | _=>none
def mapKeyOk (T:Tab) (t:TypeId) (k:V):Bool:=match descOf T t with | some (.map kt _)=>keyOk T kt k | _=>false
def zeroV (i:TI):Option V:=if isAgg i.desc then some (.agg i.zero) else match i.zero with | [z]=>some z | _=>none
def esOf (g:Nat->Option Ob):V->Option (List (V×V×Nat))
 | .nilm=>some []
 | .mp b=>(match g b with | some (.map _ es _)=>some es | _=>none)
 | _=>none
def findE (k:V):List (V×V×Nat)->Nat->Option (Option (Nat×V))
 | [],_=>some none
 | e :: r,i=>match sameK k e.1 with
  | some true=>some (some (i,e.2.1))
  | some false=>findE k r (i+1)
  | none=>none
def bytesOf:List V->Option (List UInt8)
 | []=>some []
 | .int .u8 n :: r=>match bytesOf r with | some l=>some (UInt8.ofNat n.toNat :: l) | none=>none
 | _=>none
def bytesR (g:Nat->Option Ob):V->Option (List UInt8)
 | .nils=>some []
 | .sle=>some []
 | .sl b off len _ _=>match g b with
  | some (.row _ 1 _ cs)=>if off+len<=cs.length then bytesOf ((cs.drop off).take len) else none
  | _=>none
 | _=>none
def evR (T:Tab) (o:Op) (F:Fr) (g:Nat->Option Ob):Option V :=
 match o with
 | .slice t x lo hi mx=>match opd T.ng F x,descOf T t,lo,hi,mx with
  | some (.ptr b off),some (.arr n e),none,none,none=>match g b,T.ty e with
   | some (.row _ sz _ cs),some i=>if sz=i.size/\0 < sz/\off % sz=0/\off+n*sz<=cs.length then some (.sl b off n (some n) sz) else none
   | _,_=>none
  | _,_,_,_,_=>none
 | .load t a=>match opd T.ng F a with
  | some (.ptr b off)=>match g b with | some (.row _ _ _ cs)=>partV T t cs off | _=>none
  | _=>none
 | .lookup t x i ok=>match opd T.ng F x,opd T.ng F i,descOf T t with
  | some m,some k,some (.map kt e)=>if keyOk T kt k=false then none else match T.ty e,esOf g m with
   | some ei,some es=>match findE k es 0 with
    | some (some (_,v))=>some (if ok then .tup [v,.bool true] else v)
    | some none=>match zeroV ei with
     | some z=>some (if ok then .tup [z,.bool false] else z)
     | none=>none
    | none=>none
   | _,_=>none
  | _,_,_=>none
 | .convert c d x=>match opd T.ng F x,descOf T c,descOf T d with
  | some v,some (.slice e),some .str=>match descOf T e,bytesR g v with
   | some (.int .u8),some l=>some (.str l)
   | _,_=>none
  | _,_,_=>none
 | .call c=>match opds T.ng F c.args.toList,c.argTypes[0]? with
  | some [v],some t=>match descOf T t,esOf g v with
   | some (.map _ _),some es=>some (.int .i64 es.length)
   | _,_=>none
  | _,_=>none
 | _=>none
def takeSl (g:Nat->Option Ob) (sz:Nat):V->Option (Nat×List V)
 | .nils=>some (0,[])
 | .sle=>some (0,[])
 | .sl b off n _ _=>match g b with
  | some (.row _ sz' _ cs)=>if sz' = sz/\off+n*sz<=cs.length then some (n,(cs.drop off).take (n*sz)) else none
  | _=>none
 | _=>none
def takeX (T:Tab) (g:Nat->Option Ob) (t t' e:TypeId) (sz:Nat) (x:V):Option (Nat×List V) :=
 if t=t' then takeSl g sz x else match x,descOf T t',descOf T e with
 | .str l,some .str,some (.int .u8)=>if sz=1 then some (l.length,l.map fun b=>.int .u8 b.toNat) else none
 | _,_,_=>none
def repl (z:List V):Nat->List V
 | 0=>[]
 | n+1=>z++repl z n
def evA (T:Tab) (o:Op) (F:Fr) (g:Nat->Option Ob) (id:Nat):Option (V×Option Ob×Option Nat) :=
 match o with
 | .alloc e=>match T.ty e with
  | some i=>match i.desc with
   | .arr n e'=>match T.ty e' with | some i'=>if n*i'.size=i.size then some (.ptr id 0,some (.row e i'.size false i.zero),none) else none | none=>none
   | _=>some (.ptr id 0,some (.row e i.size false i.zero),none)
  | none=>none
 | .box e x=>match opd T.ng F x,T.ty e with
  | some v,some i=>if (cellsV v).all oneV=false then none else match i.desc with
   | .arr n e'=>match T.ty e' with | some i'=>if n*i'.size=(cellsV v).length then some (.ptr id 0,some (.row e i'.size false (cellsV v)),none) else none | none=>none
   | _=>some (.ptr id 0,some (.row e (cellsV v).length false (cellsV v)),none)
  | _,_=>none
 | .buildSlice t len parts=>match descOf T t,partsV T F parts.toList with
  | some (.slice e),some ps=>match T.ty e with
   | some i=>if len*i.size<=16777216/\0 < i.size then (match fillV (fun j=>some (j*i.size,i.size)) (repl i.zero len) ps with
    | some cs=>some (.sl id 0 len none i.size,some (.row e i.size false cs),none)
    | none=>none) else none
   | none=>none
  | _,_=>none
 | .makeMap t none=>match descOf T t with | some (.map _ _)=>some (.mp id,some (.map false [] 0),none) | _=>none
 | .makeSlice t l c=>match opd T.ng F l,opd T.ng F c,descOf T t with
  | some (.int _ l),some (.int _ c),some (.slice e)=>match T.ty e with
   | some i=>if 0<=l/\l<=c/\i.bytes*c<=140737488355328/\c<=9223372036854775807/\0 < i.size then some (.sl id 0 l.toNat none i.size,some (.row e i.size false (repl i.zero c.toNat)),none) else none
   | none=>none
  | _,_,_=>none
 | .convert _ d x=>match opd T.ng F x,descOf T d with
  | some (.str s),some (.slice e)=>match descOf T e with
   | some (.int .u8)=>some (.sl id 0 s.length none 1,some (.row e 1 false (s.map fun b=>.int .u8 b.toNat)),none)
   | _=>none
  | _,_=>none
 | .call c=>match opds T.ng F c.args.toList,c.argTypes.toList with
  | some [s,x],[t,t']=>match descOf T t with
   | some (.slice e)=>match T.ty e with
    | some i=>match takeX T g t t' e i.size x with
     | some (0,_)=>(match s with | .sl ..=>some (s,none,none) | .nils=>some (s,none,none) | .sle=>some (s,none,none) | _=>none)
     | some (m,news)=>match s with
      | .nils=>if m*i.bytes<=140737488355328/\m<=9223372036854775807/\0 < i.size then some (.sl id 0 m none i.size,some (.row e i.size false news),none) else none
      | .sl b off n cap z=>match g b with
       | some (.row e' sz ro cs)=>if z=i.size/\sz=i.size/\off+n*sz<=cs.length/\(n+m)*i.bytes<=140737488355328/\n+m<=9223372036854775807 then
         (match cap with
         | none=>if off=0/\n*sz=cs.length/\ro=false/\e' = e then some (.sl id 0 (n+m) none i.size,some (.row e i.size false (cs++news)),some b) else none
         | some k=>if k < n+m then some (.sl id 0 (n+m) none i.size,some (.row e i.size false ((cs.drop off).take (n*sz)++news)),none) else none)
        else none
       | _=>none
      | _=>none
     | none=>none
    | none=>none
   | _=>none
  | _,_=>none
 | _=>none
def afterA (H:Hp):Option Ob->Option Nat->Hp
 | none,_=>H
 | some ob,none=>H.new ob
 | some ob,some b=>{ H.new ob with stale:=b :: H.stale }
def evAW (T:Tab) (o:Op) (F:Fr) (H:Hp):Option (V×Hp) :=
 match o with
 | .call c=>match opds T.ng F c.args.toList,c.argTypes.toList with
  | some [s,x],[t,t']=>match descOf T t with
   | some (.slice e)=>match T.ty e with
    | some i=>match takeX T H.get t t' e i.size x,s with
     | some (m,news),.sl b 0 n none z=>match H.get b with
      | some (.row e' sz false cs) =>
       if z=i.size/\sz=i.size/\n*sz < cs.length then
        (if (n+m)*sz<=cs.length then some (.sl b 0 (n+m) none z,H.put b (.row e' sz false (setCells cs (n*sz) news)))
        else match evA T o F (H.put b (.row e' sz false (cs.take (n*sz)))).get H.next with
         | some (v,ob,kb)=>some (v,afterA (H.put b (.row e' sz false (cs.take (n*sz)))) ob kb)
         | none=>none)
       else none
      | _=>none
     | _,_=>none
    | none=>none
   | _=>none
  | _,_=>none
 | _=>none
def modE (es:List (V×V×Nat)) (i:Nat) (k v:V):List (V×V×Nat) :=
 match es[i]? with | some e=>es.set i (k,v,e.2.2) | none=>es
def evW (T:Tab) (o:Op) (F:Fr) (H:Hp):Option (Option V×Hp) :=
 match o with
 | .store t a x=>match opd T.ng F a,opd T.ng F x,T.ty t with
  | some (.ptr b off),some v,some i=>match H.get b with
   | some (.row e sz false cs)=>if (cellsV v).all oneV=true/\(cellsV v).length=i.size/\off+i.size<=cs.length then some (none,H.put b (.row e sz false (setCells cs off (cellsV v)))) else none
   | _=>none
  | _,_,_=>none
 | .mapUpdate t m k x=>match opd T.ng F m,opd T.ng F k,opd T.ng F x with
  | some (.mp b),some k,some v=>if mapKeyOk T t k=false then none else match H.get b with
   | some (.map false es clock)=>match findE k es 0 with
    | some (some (i,_))=>some (none,H.put b (.map false (modE es i k v) clock))
    | some none=>some (none,H.put b (.map false (es++[(k,v,clock)]) (clock+1)))
    | none=>none
   | _=>none
  | _,_,_=>none
 | .call c=>match c.callee,opds T.ng F c.args.toList,c.argTypes.toList with
  | .builtin .delete,some [.mp b,k],t :: _=>if mapKeyOk T t k=false then none else match H.get b with
   | some (.map false es clock)=>match findE k es 0 with
    | some (some (i,_))=>some (some (.tup []),H.put b (.map false (es.eraseIdx i) clock))
    | some none=>some (some (.tup []),H)
    | none=>none
   | _=>none
  | .builtin .clear,some [v],[t]=>match v,descOf T t with
   | .nils,some (.slice _)=>some (some (.tup []),H)
   | .sle,some (.slice _)=>some (some (.tup []),H)
   | .sl b off n _ _,some (.slice e')=>match H.get b,T.ty e' with
    | some (.row e sz false cs),some i=>if i.size=sz/\off+n*sz<=cs.length then some (some (.tup []),H.put b (.row e sz false (setCells cs off (repl i.zero n)))) else none
    | _,_=>none
   | _,_=>none
  | _,_,_=>none
 | .range t x=>match opd T.ng F x,descOf T t with
  | some .nilm,some (.map _ _)=>some (some (.ptr H.next 0),H.new (.iter none 0 [] 0))
  | some (.mp m),some (.map _ _)=>match H.get m with
   | some (.map _ _ clock)=>some (some (.ptr H.next 0),H.new (.iter (some m) clock [] clock))
   | _=>none
  | _,_=>none
 | .entry it=>match opd T.ng F it with
  | some (.ptr r 0)=>match H.get r with
   | some (.iter (some m) _ seen last)=>match H.get m,seen.getLast? with
    | some (.map _ es clock),some st=>if clock=last then (match es.find? (fun e=>e.2.2==st) with | some e=>some (some (.tup [e.1,e.2.1]),H) | none=>none) else none
    | _,_=>none
   | _=>none
  | _=>none
 | .next it false=>match opd T.ng F it with
  | some (.ptr r 0)=>match H.get r with
   | some (.iter none _ _ _)=>some (some (.tup [.bool false]),H)
   | some (.iter (some m) since seen last)=>match H.get m with
    | some (.map _ es clock) =>
     if !seen.isEmpty&&!es.isEmpty&&es.all (fun e=>last<=e.2.2) then none else
     let left:=es.filter fun e=>!seen.contains e.2.2
     let old:=left.filter fun e=>e.2.2 < since
     let new:=left.filter fun e=>since<=e.2.2
     let cands:List (Option (V×V×Nat)):=(if old.isEmpty then [none] else [])++(old++new).map some
     match cands with
     | [some e]=>some (some (.tup [.bool true,e.1,e.2.1]),H.put r (.iter (some m) since (seen++[e.2.2]) clock))
     | [none]=>some (some (.tup [.bool false]),H)
     | _=>none
    | _=>none
   | _=>none
  | _=>none
 | _=>none
inductive Res where
 | val (v:V) (H:Hp)
 | skip (H:Hp)
 | enter (f:FuncId) (args:List V) (H:Hp)
def kbOk (H:Hp):Option Nat->Bool
 | none=>true
 | some b=>!H.stale.contains b
def evOp (T:Tab) (o:Op) (F:Fr) (H:Hp):Option Res :=
 match kind T o with
 | .p=>match evP T o F with | some v=>some (.val v H) | none=>none
 | .r=>match evR T o F H.get with | some v=>some (.val v H) | none=>none
 | .a=>match evA T o F H.get H.next with
  | some (v,ob,kb)=>if kbOk H kb then some (.val v (afterA H ob kb)) else none
  | none=>match evAW T o F H.flush with | some (v,H')=>some (.val v H') | none=>none
 | .w=>match evW T o F H.flush with
  | some (some v,H')=>some (.val v H')
  | some (none,H')=>some (.skip H')
  | none=>none
 | .c=>match o with
  | .call c=>match c.callee with
   | .value f=>match opd T.ng F f,opds T.ng F c.args.toList with
    | some (.fn (.func g) fs cs),some xs=>some (.enter g (fs++xs++cs) H.flush)
    | _,_=>none
   | _=>none
  | _=>none
 | .no=>none
mutual
def eqV:V->V->Bool
 | .bool a,.bool b=>a==b
 | .int k a,.int k' b=>k==k'&&a==b
 | .str a,.str b=>a==b
 | .nilp,.nilp=>true
 | .ptr b o,.ptr b' o'=>b==b'&&o==o'
 | .nils,.nils=>true
 | .sle,.sle=>true
 | .sl b o n c z,.sl b' o' n' c' z'=>b==b'&&o==o'&&n==n'&&c==c'&&z==z'
 | .nilm,.nilm=>true
 | .mp b,.mp b'=>b==b'
 | .nilf,.nilf=>true
 | .nili,.nili=>true
 | .ifc t v,.ifc t' v'=>t==t'&&eqV v v'
 | .agg a,.agg b=>eqL a b
 | .tup a,.tup b=>eqL a b
 | _,_=>false
def eqL:List V->List V->Bool
 | [],[]=>true
 | a :: x,b :: y=>eqV a b&&eqL x y
 | _,_=>false
end
inductive Out where
 | nrm
 | exit (id:Nat)
 | ret
abbrev CallE:=FuncId->List V->Hp->Option (V×Hp)
def putD (F:Fr):Option Tmp->V->Fr
 | some t,v=>F.set t v
 | none,_=>F
def delD (F:Fr):Option Tmp->Fr
 | some t=>F.set t (.tup [])
 | none=>F
def gotB (ops:Array Oper) (F:Fr) (j:Nat):Option (Option Bool) :=
 match ops[j]? with | some o=>(match o.dst with | some t=>(match F.get t with | some (.bool b)=>some (some b) | some (.tup [])=>some none | _=>none) | none=>none) | none=>none
def wantedV (ops:Array Oper) (F:Fr):Option (Nat×Bool)->Option Bool
 | none=>some true
 | some (j,w)=>match gotB ops F j with | some b=>some (b==some w) | none=>none
def evDef (T:Tab) (F:Fr):Op->Bool
 | .defer c=>match c.callee with
  | .value f=>match opd T.ng F f with
   | some (.fn (.func g) _ _)=>T.quiet g
   | _=>false
  | _=>false
 | _=>false
def evOps (T:Tab) (call:CallE) (ops:Array Oper):List Oper->Fr->Hp->Option (Fr×Hp)
 | [],F,H=>some (F,H.flush)
 | o :: r,F,H =>
  match wantedV ops F o.guard with
  | some true=>match evOp T o.op F H with
   | some (.val v H')=>evOps T call ops r (putD F o.dst v) H'
   | some (.skip H')=>evOps T call ops r (delD F o.dst) H'
   | some (.enter f xs H')=>match call f xs H' with
    | some (v,H'')=>evOps T call ops r (putD F o.dst v) H''
    | none=>none
   | none=>if evDef T F o.op=true then evOps T call ops r (delD F o.dst) H else none
  | some false=>evOps T call ops r (delD F o.dst) H
  | none=>none
def isPt (T:Tab) (o:Op):Bool :=
 match kind T o with
 | .w=>true
 | .c=>true
 | .a=>(match o with | .call _=>true | _=>false)
 | _=>false
def winOk (T:Tab) (o:Op) (F:Fr) (n:Nat) (v:V) (B:List Hp):Bool :=
 match n with
 | 0=>true
 | _=>((B.drop 1).take n).all fun H=>match kind T o with
  | .r=>(match evR T o F H.get with | some v'=>eqV v v' | none=>false)
  | _=>true
def evDraw (T:Tab) (call:CallE) (ops:Array Oper):List (Nat×Nat)->Fr->Hp->List Hp->Option (Fr×Hp)
 | [],F,H,_=>some (F,H.flush)
 | (i,n) :: r,F,H,B=>match ops[i]? with
  | none=>none
  | some o=>match wantedV ops F o.guard with
   | some true=>match evOp T o.op F H with
    | some (.val v H')=>if isPt T o.op then evDraw T call ops r (putD F o.dst v) H'.bump (H' :: B) else if winOk T o.op F n v B then evDraw T call ops r (putD F o.dst v) H' B else none
    | some (.skip H')=>evDraw T call ops r (delD F o.dst) H'.bump (H' :: B)
    | some (.enter f xs H')=>match call f xs H' with
     | some (v,H'')=>evDraw T call ops r (putD F o.dst v) H''.bump (H'' :: B)
     | none=>none
    | none=>none
   | some false=>evDraw T call ops r (delD F o.dst) H (if isPt T o.op then H :: B else B)
   | none=>none
def loopN (body:Fr->Hp->Option (Out×Fr×Hp)):Nat->Fr->Hp->Option (Out×Fr×Hp)
 | 0,_,_=>none
 | n+1,F,H=>match body F H with
  | some (.nrm,F',H')=>loopN body n F' H'
  | r=>r
def altOk (T:Tab) (f:FuncId) (id:Nat) (F:Fr):Bool:=match T.alt f id with
 | none=>true
 | some A=>match F.get A.u,F.get A.v with
  | some (.ptr b _),some (.ptr b' _)=>!Nat.beq b b'
  | _,_=>false
def evCode (T:Tab) (call:CallE) (f:FuncId) (n:Nat):Code->Fr->Hp->Option (Out×Fr×Hp)
 | .skip,F,H=>some (.nrm,F,H)
 | .label _,F,H=>some (.nrm,F,H)
 | .region _ ops false,F,H=>match evOps T call ops ops.toList F H with | some (F',H')=>some (.nrm,F',H') | none=>none
 | .region id ops true,F,H=>match T.dr f id with
  | some p=>match evDraw T call ops p F H [H] with | some (F',H')=>if altOk T f id F' = true then some (.nrm,F',H') else none | none=>none
  | none=>none
 | .seq a b,F,H=>match evCode T call f n a F H with
  | some (.nrm,F',H')=>evCode T call f n b F' H'
  | r=>r
 | .cond c a b,F,H=>match opd T.ng F c with
  | some (.bool true)=>evCode T call f n a F H
  | some (.bool false)=>evCode T call f n b F H
  | _=>none
 | .block id c,F,H=>match evCode T call f n c F H with
  | some (.exit i,F',H')=>if i=id then some (.nrm,F',H') else some (.exit i,F',H')
  | r=>r
 | .scope c,F,H=>evCode T call f n c F H
 | .loop c,F,H=>loopN (evCode T call f n c) n F H
 | .exit id,F,H=>some (.exit id,F,H)
 | .ret,F,H=>some (.ret,F,H)
 | _,_,_=>none
def frame:List V->Nat->Fr->Fr
 | [],_,F=>F
 | v :: r,i,F=>frame r (i+1) (F.set i v)
def getAll (T:Tab) (F:Fr) (g:Nat->Option Ob):List ResultVar->Option (List V)
 | []=>some []
 | .tmp t :: r=>match F.get t,getAll T F g r with | some v,some vs=>some (v :: vs) | _,_=>none
 | .cell a t :: r=>match F.get a with
  | some (.ptr b off)=>match g b with
   | some (.row _ _ _ cs)=>match partV T t cs off,getAll T F g r with | some v,some vs=>some (v :: vs) | _,_=>none
   | _=>none
  | _=>none
def resOf (T:Tab) (rs:List ResultVar) (F:Fr) (g:Nat->Option Ob):Option V :=
 match getAll T F g rs with
 | some [v]=>some v
 | some vs=>some (.tup vs)
 | none=>none
def evCall (T:Tab):Nat->CallE
 | 0,_,_,_=>none
 | k+1,f,args,H=>match T.fn f with
  | some fn=>match fn.body with
   | some c=>match T.ext f with
    | some e=>e args H
    | none=>match evCode T (evCall T k) f k c (frame args 0 .nil) H with
     | some (.ret,F,H')=>match resOf T fn.results.toList F H'.get with | some v=>some (v,H') | none=>none
     | some (.nrm,F,H')=>match resOf T fn.results.toList F H'.get with | some v=>some (v,H') | none=>none
     | _=>none
   | none=>none
  | none=>none
end Go.AM
namespace Go.AM
open Go Go.RowKit
namespace Tr
variable {α:Type}
theorem get_eq (t:Tr α) (n:Nat):t.get n=if n=0 then t.val else if n % 2=1 then t.left.get (n / 2) else t.right.get (n / 2-1):=by
 cases t with
 | nil=>simp [get,val,left,right]
 | node l v r=>simp [get,val,left,right]
theorem get_setF:∀ (f:Nat) (t:Tr α) (n m:Nat) (x:Option α),n < f->(setF f t n x).get m=if m=n then x else t.get m
 | 0,t,n,m,x,h=>by omega
 | f+1,t,n,m,x,h=>by
  unfold setF
  by_cases h0:n=0
  ·subst h0
   simp only [if_true]
   rw [get_eq,get_eq t m]
   by_cases hm:m=0
   ·simp [hm,val]
   ·simp [hm,left,right]
  ·rw [if_neg h0]
   by_cases h1:n % 2=1
   ·rw [if_pos h1,get_eq,get_eq t m]
    by_cases hm:m=0
    ·have:¬ m=n:=by omega
     subst hm
     rw [if_pos rfl,if_neg this,if_pos rfl]
     rfl
    ·rw [if_neg hm,if_neg hm]
     by_cases hm1:m % 2=1
     ·rw [if_pos hm1,if_pos hm1]
      have ih:=get_setF f t.left (n / 2) (m / 2) x (by omega)
      show (setF f t.left (n / 2) x).get (m / 2)=_
      rw [ih]
      by_cases e:m=n
      ·subst e;simp
      ·have:¬ m / 2=n / 2:=by omega
       rw [if_neg this,if_neg e]
     ·rw [if_neg hm1,if_neg hm1]
      have:¬ m=n:=by omega
      rw [if_neg this]
      rfl
   ·rw [if_neg h1,get_eq,get_eq t m]
    by_cases hm:m=0
    ·have:¬ m=n:=by omega
     subst hm
     rw [if_pos rfl,if_neg this,if_pos rfl]
     rfl
    ·rw [if_neg hm,if_neg hm]
     by_cases hm1:m % 2=1
     ·rw [if_pos hm1,if_pos hm1]
      have:¬ m=n:=by omega
      rw [if_neg this]
      rfl
     ·rw [if_neg hm1,if_neg hm1]
      have ih:=get_setF f t.right (n / 2-1) (m / 2-1) x (by omega)
      show (setF f t.right (n / 2-1) x).get (m / 2-1)=_
      rw [ih]
      by_cases e:m=n
      ·subst e;simp
      ·have:¬ m / 2-1=n / 2-1:=by omega
       rw [if_neg this,if_neg e]
theorem get_set (t:Tr α) (n m:Nat) (x:α):(t.set n x).get m=if m=n then some x else t.get m:=get_setF _ _ _ _ _ (by omega)
def allF (p:Nat->α->Bool):Tr α->(Nat->Nat)->Bool
 | nil,_=>true
 | node l v r,k=>(match v with | some x=>p (k 0) x | none=>true)&&allF p l (fun n=>k (2*n+1))&&allF p r (fun n=>k (2*n+2))
theorem allF_get (p:Nat->α->Bool):∀ (t:Tr α) (k:Nat->Nat),allF p t k=true->∀ n x,t.get n=some x->p (k n) x=true
 | nil,k,_,n,x,h=>by simp [get] at h
 | node l v r,k,ha,n,x,h=>by
  simp only [allF,Bool.and_eq_true] at ha
  obtain ⟨⟨hv,hl⟩,hr⟩:=ha
  simp only [get] at h
  by_cases h0:n=0
  ·subst h0
   rw [if_pos rfl] at h
   subst h
   exact hv
  ·rw [if_neg h0] at h
   by_cases h1:n % 2=1
   ·rw [if_pos h1] at h
    have:=allF_get p l _ hl _ _ h
    rwa [show 2*(n / 2)+1=n from by omega] at this
   ·rw [if_neg h1] at h
    have:=allF_get p r _ hr _ _ h
    rwa [show 2*(n / 2-1)+2=n from by omega] at this
end Tr
namespace Hp
theorem get_put (H:Hp) (b c:Nat) (o:Ob):(H.put b o).get c=if c=b then some o else H.get c:=Tr.get_set _ _ _ _
theorem get_new (H:Hp) (c:Nat) (o:Ob):(H.new o).get c=if c=H.next then some o else H.get c:=Tr.get_set _ _ _ _
theorem next_put (H:Hp) (b:Nat) (o:Ob):(H.put b o).next=H.next:=Eq.trans rfl rfl
theorem next_new (H:Hp) (o:Ob):(H.new o).next=H.next+1:=Eq.trans rfl rfl
theorem next_kill:∀ (l:List Nat) (H:Hp),(kill l H).next=H.next
 | [],_=>rfl
 | _ :: r,H=>next_kill r _
theorem next_flush (H:Hp):H.flush.next=H.next:=by
 unfold flush
 split
 ·rfl
 ·exact next_kill _ _
theorem stale_flush (H:Hp):H.flush.stale=[]:=by
 unfold flush
 split
 ·assumption
 ·rfl
theorem get_kill:∀ (l:List Nat) (H:Hp) (c:Nat),(kill l H).get c=if c∈l then some .dead else H.get c
 | [],H,c=>by simp [kill]
 | b :: r,H,c=>by
  rw [kill,get_kill r,get_put]
  by_cases h:c∈r
  ·simp [h]
  ·by_cases e:c=b
   ·simp [e]
   ·simp [h,e]
theorem get_flush (H:Hp) (c:Nat):H.flush.get c=if c∈H.stale then some .dead else H.get c:=by
 unfold flush
 split
 ·rename_i h;simp [h]
 ·exact get_kill _ _ _
end Hp
structure Loc where
 b:Nat
 base:Nat
 cap:Nat
 sz:Nat
abbrev Sg:=Nat->Loc
mutual
inductive Rv (D:Nat->Prop) (s:Sg):V->Value->Prop
 | bool (b:Bool):Rv D s (.bool b) (.bool b)
 | int (k:IntKind) (n:Int):Rv D s (.int k n) (.int k n)
 | str (l:List UInt8):Rv D s (.str l) (.string ⟨l.toArray⟩)
 | nilp:Rv D s .nilp (.pointer none)
 | ptr (b off:Nat):D b->Rv D s (.ptr b off) (.pointer (some ⟨(s b).b,(s b).base+off,none⟩))
 | nils:Rv D s .nils (.slice none 0 0)
 | sle (a:Addr) (c:Nat):Rv D s .sle (.slice (some a) 0 c)
 | sln (b off len z:Nat):D b->(s b).sz=z->0 < z->off % z=0->off / z+len<=(s b).cap->Rv D s (.sl b off len none z) (.slice (some ⟨(s b).b,(s b).base+off,none⟩) len ((s b).cap-off / z))
 | slc (b off len c z:Nat):D b->(s b).sz=z->0 < z->off % z=0->len<=c->off / z+c<=(s b).cap->Rv D s (.sl b off len (some c) z) (.slice (some ⟨(s b).b,(s b).base+off,none⟩) len c)
 | nilm:Rv D s .nilm (.map none)
 | mp (b:Nat):D b->Rv D s (.mp b) (.map (some (s b).b))
 | nilf:Rv D s .nilf .nilFunc
 | fn (f:Fn) (fs cs:List V) (xs ys:Array Value):RvL D s fs xs.toList->RvL D s cs ys.toList->Rv D s (.fn f fs cs) (.func f xs ys)
 | nili:Rv D s .nili .nilIface
 | ifc (t:TypeId) (v:V) (x:Value):Rv D s v x->Rv D s (.ifc t v) (.iface t x)
 | agg (cs:List V) (xs:Array Value):RvL D s cs xs.toList->cs.all oneV=true->Rv D s (.agg cs) (.agg xs)
 | tup (cs:List V) (xs:Array Value):RvL D s cs xs.toList->Rv D s (.tup cs) (.tuple xs)
inductive RvL (D:Nat->Prop) (s:Sg):List V->List Value->Prop
 | nil:RvL D s [] []
 | cons (v:V) (x:Value) (vs:List V) (xs:List Value):Rv D s v x->RvL D s vs xs->RvL D s (v :: vs) (x :: xs)
end
section
variable {D D' : Nat->Prop} {s s' : Sg}
mutual
theorem Rv.mono (hD:∀ b,D b->D' b) (hs:∀ b,D b->s' b=s b):∀ {v:V} {x:Value},Rv D s v x->Rv D' s' v x
 | _,_,.bool b=>.bool b
 | _,_,.int k n=>.int k n
 | _,_,.str l=>.str l
 | _,_,.nilp=>.nilp
 | _,_,.ptr b off h=>by rw [<- hs b h];exact .ptr b off (hD b h)
 | _,_,.nils=>.nils
 | _,_,.sle a c=>.sle a c
 | _,_,.sln b off len z h h1 h2 h3 h4=>by rw [<- hs b h] at *;exact .sln b off len z (hD b h) h1 h2 h3 h4
 | _,_,.slc b off len c z h h1 h2 h3 h4 h5=>by rw [<- hs b h] at *;exact .slc b off len c z (hD b h) h1 h2 h3 h4 h5
 | _,_,.nilm=>.nilm
 | _,_,.mp b h=>by rw [<- hs b h];exact .mp b (hD b h)
 | _,_,.nilf=>.nilf
 | _,_,.fn f fs cs xs ys h1 h2=>.fn f fs cs xs ys (RvL.mono hD hs h1) (RvL.mono hD hs h2)
 | _,_,.nili=>.nili
 | _,_,.ifc t v x h=>.ifc t v x (Rv.mono hD hs h)
 | _,_,.agg cs xs h ho=>.agg cs xs (RvL.mono hD hs h) ho
 | _,_,.tup cs xs h=>.tup cs xs (RvL.mono hD hs h)
theorem RvL.mono (hD:∀ b,D b->D' b) (hs:∀ b,D b->s' b=s b):∀ {vs:List V} {xs:List Value},RvL D s vs xs->RvL D' s' vs xs
 | _,_,.nil=>.nil
 | _,_,.cons v x vs xs h1 h2=>.cons v x vs xs (Rv.mono hD hs h1) (RvL.mono hD hs h2)
end
theorem RvL.length:∀ {vs:List V} {xs:List Value},RvL D s vs xs->vs.length=xs.length
 | _,_,.nil=>rfl
 | _,_,.cons v x vs xs h1 h2=>by simp [RvL.length h2]
theorem RvL.get:∀ {vs:List V} {xs:List Value},RvL D s vs xs->∀ (i:Nat) (v:V),vs[i]? = some v->∃ x,xs[i]? = some x/\Rv D s v x
 | _,_,.nil,i,v,h=>by simp at h
 | _,_,.cons v0 x0 vs xs h1 h2,0,v,h=>by simp at h;subst h;exact ⟨x0,by simp,h1⟩
 | _,_,.cons v0 x0 vs xs h1 h2,i+1,v,h=>by
  obtain ⟨x,hx,hr⟩:=RvL.get h2 i v (by simpa using h)
  exact ⟨x,by simpa using hx,hr⟩
theorem RvL.append:∀ {vs ws:List V} {xs ys:List Value},RvL D s vs xs->RvL D s ws ys->RvL D s (vs++ws) (xs++ys)
 | _,_,_,_,.nil,h=>h
 | _,_,_,_,.cons v x vs xs h1 h2,h=>.cons v x _ _ h1 (RvL.append h2 h)
theorem RvL.drop:∀ {vs:List V} {xs:List Value} (n:Nat),RvL D s vs xs->RvL D s (vs.drop n) (xs.drop n)
 | _,_,0,h=>h
 | _,_,n+1,.nil=>.nil
 | _,_,n+1,.cons v x vs xs h1 h2=>RvL.drop n h2
theorem RvL.take:∀ {vs:List V} {xs:List Value} (n:Nat),RvL D s vs xs->RvL D s (vs.take n) (xs.take n)
 | _,_,0,h=>by simpa using RvL.nil
 | _,_,n+1,.nil=>.nil
 | _,_,n+1,.cons v x vs xs h1 h2=>.cons v x _ _ h1 (RvL.take n h2)
theorem RvL.set:∀ {vs:List V} {xs:List Value} (i:Nat) {v:V} {x:Value},RvL D s vs xs->Rv D s v x->RvL D s (vs.set i v) (xs.set i x)
 | _,_,_,_,_,.nil,_=>.nil
 | _,_,0,_,_,.cons v0 x0 vs xs h1 h2,h=>.cons _ _ _ _ h h2
 | _,_,i+1,_,_,.cons v0 x0 vs xs h1 h2,h=>.cons _ _ _ _ h1 (RvL.set i h2 h)
theorem Rv.cells {v:V} {x:Value} (h:Rv D s v x):RvL D s (cellsV v) x.cells.toList:=by
 have h' : RvL D s [v] [x]:=.cons _ _ _ _ h .nil
 cases h with
 | agg cs xs h _=>exact h
 | _=>exact h'
theorem Rv.one {v:V} {x:Value} (h:Rv D s v x) (ho:oneV v=true):x.oneCell' = true:=by
 cases h<;>first | rfl | (simp [oneV] at ho)
theorem ofVal0_rv {x:Value} {v:V} (h:ofVal0 x=some v):Rv D s v x:=by
 unfold ofVal0 at h
 split at h<;>first | (cases h;constructor) | (cases h;exact Rv.str _) | cases h
end
def FrOk (D:Nat->Prop) (s:Sg) (F:Fr) (a:Act):Prop:=∀ t v,F.get t=some v->∃ x,a.tmps[t]? = some x/\Rv D s v x
def GlOk (ng:Nat) (D:Nat->Prop) (s:Sg):Prop:=∀ g,g < ng->D g/\(s g).b=g/\(s g).base=0
section
variable {D D' : Nat->Prop} {s s' : Sg} {F:Fr} {a:Act} {ng:Nat}
theorem ofVal0_one {x:Value} {v:V} (h:ofVal0 x=some v):oneV v=true:=by
 unfold ofVal0 at h
 split at h<;>cases h<;>rfl
theorem ofVals_rv:∀ {xs:List Value} {vs:List V},ofVals xs=some vs->RvL D s vs xs/\vs.all oneV=true
 | [],vs,h=>by cases h;exact ⟨.nil,rfl⟩
 | x :: r,vs,h=>by
  simp only [ofVals] at h
  split at h
  ·rename_i v us h1 h2
   cases h
   obtain ⟨g1,g2⟩:=ofVals_rv h2
   exact ⟨.cons _ _ _ _ (ofVal0_rv h1) g1,by rw [List.all_cons,ofVal0_one h1,g2];rfl⟩
  ·cases h
theorem ofVal_rv {x:Value} {v:V} (h:ofVal x=some v):Rv D s v x:=by
 unfold ofVal at h
 split at h
 ·split at h
  ·rename_i l hl
   cases h
   obtain ⟨g1,g2⟩:=ofVals_rv hl
   exact .agg _ _ g1 g2
  ·cases h
 ·exact ofVal0_rv h
theorem opd_ok (hg:GlOk ng D s) (hF:FrOk D s F a) {x:Operand} {v:V} (h:opd ng F x=some v):Rv D s v (a.eval x):=by
 cases x with
 | tmp t =>
  obtain ⟨y,hy,hr⟩:=hF t v h
  simp only [Act.eval,Array.getD_eq_getD_getElem?,hy,Option.getD_some]
  exact hr
 | const c=>exact ofVal_rv h
 | global g =>
  simp only [opd] at h
  split at h
  ·rename_i hlt
   cases h
   obtain ⟨h1,h2,h3⟩:=hg g hlt
   have:=Rv.ptr (s:=s) g 0 h1
   rw [h2,h3] at this
   exact this
  ·cases h
 | func f=>cases h;exact .fn _ _ _ _ _ .nil .nil
theorem opds_ok (hg:GlOk ng D s) (hF:FrOk D s F a):∀ {xs:List Operand} {vs:List V},opds ng F xs=some vs->RvL D s vs (xs.map a.eval)
 | [],vs,h=>by cases h;exact .nil
 | x :: r,vs,h=>by
  simp only [opds] at h
  split at h
  ·rename_i v ws h1 h2
   cases h
   exact .cons _ _ _ _ (opd_ok hg hF h1) (opds_ok hg hF h2)
  ·cases h
end
def DsOk:Ds->TypeDesc->Bool
 | .bool,.bool=>true
 | .int k,.int k'=>k==k'
 | .str,.string=>true
 | .ptr e,.pointer e'=>e==e'
 | .slice e,.slice e'=>e==e'
 | .arr n e,.array n' e'=>n==n'&&e==e'
 | .map k e,.map k' e'=>k==k'&&e==e'
 | .struct fs,.struct fs'=>fs==fs'.toList.map fun f=>(f.offset,f.type)
 | .iface,.interface _=>true
 | .other,.float _=>true
 | .other,.complex _=>true
 | .other,.unsafePointer=>true
 | .other,.chan ..=>true
 | .other,.func ..=>true
 | .other,.tuple _=>true
 | _,_=>false
def zeroOk:List V->List Value->Bool
 | [],[]=>true
 | v :: vs,x :: xs=>(match v,x with
   | .bool b,.bool b'=>b==b'
   | .int k n,.int k' n'=>k==k'&&n==n'
   | .str [],.string s=>s.data.toList.isEmpty
   | .nilp,.pointer none=>true
   | .nils,.slice none 0 0=>true
   | .nilm,.map none=>true
   | .nilf,.nilFunc=>true
   | .nili,.nilIface=>true
   | _,_=>false)&&zeroOk vs xs
 | _,_=>false
def eqOkT (P : Program) (t : TypeId) : Bool := !P.stoodInHeld t && !P.eqGuardType P.depth t && (match P.underlying t with | some (.struct fs) => fs.toList.all (fun f => !(f.name == "_")) | _ => false)
def tiOk (P:Program) (t:TypeId) (i:TI):Bool :=
 (!i.eq || eqOkT P t)&&match P.info? t,P.underlying t with
 | some inf,some d=>inf.size==i.size&&inf.bytes==i.bytes&&DsOk i.desc d&&(match inf.zero with | some z=>zeroOk i.zero z.cells.toList&&(isAgg i.desc==(match z with | .agg _=>true | _=>false)) | none=>false)&&i.zero.length==i.size
 | _,_=>false
structure TabOk (T:Tab) (P:Program):Prop where
 ty:∀ t i,T.ty t=some i->tiOk P t i=true
 fn:∀ f fn,T.fn f=some fn->P.funcs[f]? = some fn
end Go.AM
namespace Go.AM
open Go Go.RowKit
theorem wr_eq (k:IntKind) (n:Int):wr k n=k.wrap n:=by
 unfold wr
 split
 ·split
  ·rename_i m h
   exact (IntWalk.i64_in _ (by simp only [Int.ofNat_eq_natCast];omega)).symm
  ·rfl
 ·split
  ·simp only [IntKind.wrap,IntKind.bits,IntKind.signed]
   rename_i m h
   simp only [Bool.false_and,Bool.false_eq_true,if_false,Int.ofNat_eq_natCast]
   exact (Int.emod_eq_of_lt (by omega) (by omega)).symm
  ·rfl
 ·split
  ·simp only [IntKind.wrap,IntKind.bits,IntKind.signed]
   rename_i m h
   simp only [Bool.false_and,Bool.false_eq_true,if_false,Int.ofNat_eq_natCast]
   exact (Int.emod_eq_of_lt (by omega) (by omega)).symm
  ·rfl
 ·split
  ·simp only [IntKind.wrap,IntKind.bits,IntKind.signed]
   rename_i m h
   simp only [Bool.false_and,Bool.false_eq_true,if_false,Int.ofNat_eq_natCast]
   exact (Int.emod_eq_of_lt (by omega) (by omega)).symm
  ·rfl
 ·rfl
section
variable {T:Tab} {P:Program}
theorem ti_parts (hT:TabOk T P) {t:TypeId} {i:TI} (h:T.ty t=some i):∃ inf d z,P.info? t=some inf/\P.underlying t=some d/\DsOk i.desc d=true/\inf.size=i.size/\inf.bytes=i.bytes/\inf.zero=some z/\zeroOk i.zero z.cells.toList=true/\isAgg i.desc=(match z with | .agg _=>true | _=>false)/\i.zero.length=i.size:=by
 have:=hT.ty t i h
 unfold tiOk at this
 rw [Bool.and_eq_true] at this
 replace this:=this.2
 split at this
 ·rename_i inf d h1 h2
  simp only [Bool.and_eq_true,beq_iff_eq] at this
  obtain ⟨⟨⟨⟨e1,e2⟩,e3⟩,e4⟩,e5⟩:=this
  split at e4
  ·rename_i z hz
   simp only [Bool.and_eq_true,beq_iff_eq] at e4
   exact ⟨inf,d,z,h1,h2,e3,e1,e2,hz,e4.1,e4.2,e5⟩
  ·cases e4
 ·cases this
theorem ti_eq (hT:TabOk T P) {t:TypeId} {i:TI} (h:T.ty t=some i) (he:i.eq=true):eqOkT P t=true:=by
 have:=hT.ty t i h
 unfold tiOk at this
 rw [Bool.and_eq_true] at this
 simpa [he] using this.1
theorem desc_parts (hT:TabOk T P) {t:TypeId} {d:Ds} (h:descOf T t=some d):∃ i,T.ty t=some i/\i.desc=d:=by
 unfold descOf at h
 split at h
 ·rename_i i hi
  exact ⟨i,hi,by simpa using h⟩
 ·cases h
theorem und_of (hT:TabOk T P) {t:TypeId} {d:Ds} (h:descOf T t=some d):∃ d',P.underlying t=some d'/\DsOk d d' = true:=by
 obtain ⟨i,hi,rfl⟩:=desc_parts hT h
 obtain ⟨inf,d',z,_,h2,h3,_⟩:=ti_parts hT hi
 exact ⟨d',h2,h3⟩
theorem size_of (hT:TabOk T P) {t:TypeId} {i:TI} (h:T.ty t=some i) (w:World):(sizeOf t).run P w = .ok i.size w:=by
 obtain ⟨inf,d,z,h1,_,_,h4,_⟩:=ti_parts hT h
 simp [sizeOf,typeInfo,h1,h4]
theorem agg_of (hT:TabOk T P) {t:TypeId} {i:TI} (h:T.ty t=some i) (w:World):(Go.isAgg t).run P w = .ok (isAgg i.desc) w:=by
 obtain ⟨inf,d,z,h1,h2,h3,h4,_⟩:=ti_parts hT h
 simp only [Go.isAgg,Sem.run_bind,run_underlying h2,Result.andThen_ok]
 generalize i.desc=e at *
 cases e<;>cases d<;>first | rfl | (simp [DsOk] at h3)
end
end Go.AM
namespace Go.AM
open Go Go.RowKit
section
variable {T:Tab} {P:Program} {D:Nat->Prop} {s:Sg}
def Cm (D:Nat->Prop) (s:Sg) (r:Result Value) (w:World) (v:V):Prop:=∃ x,r = .ok x w/\Rv D s v x
theorem Cm.mk {r:Result Value} {w:World} {v:V} {x:Value} (hv:Rv D s v x) (hr:r = .ok x w):Cm D s r w v:=⟨x,hr,hv⟩
theorem toList_mk (l:List UInt8):(ByteArray.mk l.toArray).toList=l:=by
 rw [Lib.toList_data]
theorem binInt_ok (op : BinOp) (t : TypeId) (k : IntKind) (a b : Int) {v : V} (h : binInt op k a b = some v) (w : World) :
    Cm D s ((binOp op t (.int k a) (.int k b)).run P w) w v := by
  unfold binInt at h
  split at h
  all_goals try (cases h; done)
  all_goals first
    | (cases h; exact .mk (.int _ _) (by simp [binOp, Op.intArith, Op.intCmp, Op.intBits, bits, wr_eq]))
    | (cases h; exact .mk (.bool _) (by simp [binOp, Op.intArith, Op.intCmp, Op.intBits]))
    | (split at h
       · cases h
       · rename_i hb
         cases h
         exact .mk (.int _ _) (by simp [binOp, Op.intDiv, hb, wr_eq]))
theorem size_mk (l:List UInt8):(ByteArray.mk l.toArray).size=l.length:=by simp [ByteArray.size]
theorem append_mk (a b:List UInt8):(ByteArray.mk a.toArray++ByteArray.mk b.toArray)=ByteArray.mk (a++b).toArray:=by
 apply ByteArray.ext
 simp
theorem binStr_ok (op:BinOp) (t:TypeId) (a b:List UInt8) {v:V} (h:binStr op a b=some v) (w:World) :
  Cm D s ((binOp op t (.string ⟨a.toArray⟩) (.string ⟨b.toArray⟩)).run P w) w v:=by
 unfold binStr at h
 split at h
 all_goals try (cases h;done)
 ·split at h
  ·rename_i hl
   cases h
   refine .mk (.str _) ?_
   have hm:¬ (IntKind.i64.max < (a.length:Int)+(b.length:Int)):=by
    have:IntKind.i64.max=9223372036854775807:=rfl
    omega
   have hm' : (a.length:Int)+(b.length:Int)<=9223372036854775807:=by omega
   simp [binOp,Op.stringOp,size_mk,hm',append_mk]
  ·cases h
 all_goals (cases h;exact .mk (.bool _) (by simp [binOp,Op.stringOp,toList_mk]))
theorem und_bool (hT:TabOk T P) {t:TypeId} (h:isBoolD (descOf T t)=true):P.underlying t=some .bool:=by
 cases hd:descOf T t with
 | none=>rw [hd] at h;cases h
 | some d =>
  rw [hd] at h
  cases d<;>simp [isBoolD] at h
  obtain ⟨d',h1,h2⟩:=und_of hT hd
  cases d'<;>simp [DsOk] at h2
  exact h1
theorem und_ptr (hT:TabOk T P) {t:TypeId} (h:isPtrD (descOf T t)=true):∃ e,P.underlying t=some (.pointer e):=by
 cases hd:descOf T t with
 | none=>rw [hd] at h;cases h
 | some d =>
  rw [hd] at h
  cases d<;>simp [isPtrD] at h
  obtain ⟨d',h1,h2⟩:=und_of hT hd
  cases d'<;>simp [DsOk] at h2
  exact ⟨_,h1⟩
theorem eqGuard_ok (op:BinOp) (t:TypeId) (x y:Operand) {va vb:V} {a b:Value} (ha:Rv D s va a) (hb:Rv D s vb b) (hn:va≠.nili\/vb≠.nili) (hg:(∀ cs,va≠.agg cs)\/(∀ cs,vb≠.agg cs)) (w:World) :
  (eqGuard op t x y a b).run P w = .ok () w:=by
 unfold eqGuard
 cases op<;>simp<;>cases ha<;>cases hb<;>simp_all
theorem eqIn_bool (d:Nat) {t:TypeId} (hu:P.underlying t=some .bool) (a b:Bool) (w:World):(Op.equalIn (d+1) t (.bool a) (.bool b)).run P w = .ok (a==b) w:=by
 simp [Op.equalIn,run_underlying hu]
theorem eqIn_nilnil (d:Nat) {t e:TypeId} (hu:P.underlying t=some (.pointer e)) (w:World):(Op.equalIn (d+1) t (.pointer none) (.pointer none)).run P w = .ok true w:=by
 simp [Op.equalIn,run_underlying hu]
theorem eqIn_ptrnil (d:Nat) {t e:TypeId} (hu:P.underlying t=some (.pointer e)) (a:Addr) (w:World):(Op.equalIn (d+1) t (.pointer (some a)) (.pointer none)).run P w = .ok false w:=by
 simp [Op.equalIn,run_underlying hu]
theorem eq_bool {t:TypeId} (hu:P.underlying t=some .bool) (a b:Bool) (w:World):(Op.equal t (.bool a) (.bool b)).run P w = .ok (a==b) w:=eqIn_bool 9999 hu a b w
theorem eq_nilnil {t e:TypeId} (hu:P.underlying t=some (.pointer e)) (w:World):(Op.equal t (.pointer none) (.pointer none)).run P w = .ok true w:=eqIn_nilnil 9999 hu w
theorem eq_ptrnil {t e:TypeId} (hu:P.underlying t=some (.pointer e)) (a:Addr) (w:World):(Op.equal t (.pointer (some a)) (.pointer none)).run P w = .ok false w:=eqIn_ptrnil 9999 hu a w
theorem bin_ok (hT : TabOk T P) (op : BinOp) (t : TypeId) (x y : Operand) {va vb v : V} {a b : Value} (ha : Rv D s va a) (hb : Rv D s vb b) (h : bin op (descOf T t) va vb = some v) (w : World) :
    Cm D s ((do eqGuard op t x y a b; binOp op t a b : Sem Value).run P w) w v := by
  have key : Cm D s ((binOp op t a b).run P w) w v ∧ (va ≠ .nili ∨ vb ≠ .nili) ∧ ((∀ cs, va ≠ .agg cs) ∨ (∀ cs, vb ≠ .agg cs)) := by
    unfold bin at h
    split at h
    · -- shl
      split at h
      · rename_i hn
        cases h; cases ha; cases hb
        refine ⟨.mk (.int _ _) ?_, .inl (by simp), .inl (by simp)⟩
        simp [binOp, Op.shift, wr_eq, show ¬ (_ : Int) < 0 from Int.not_lt.2 hn]
      · cases h
    · split at h
      · rename_i hn
        cases h; cases ha; cases hb
        refine ⟨.mk (.int _ _) ?_, .inl (by simp), .inl (by simp)⟩
        simp [binOp, Op.shift, wr_eq, show ¬ (_ : Int) < 0 from Int.not_lt.2 hn]
      · cases h
    · split at h
      · rename_i k1 a1 k2 b1 h1 h2 hk
        subst hk
        cases ha; cases hb
        exact ⟨binInt_ok op t _ _ _ h w, .inl (by simp), .inl (by simp)⟩
      · cases h
    · cases ha; cases hb
      exact ⟨binStr_ok op t _ _ h w, .inl (by simp), .inl (by simp)⟩
    · split at h
      · rename_i hd
        cases h; cases ha; cases hb
        refine ⟨.mk (.bool _) ?_, .inl (by simp), .inl (by simp)⟩
        simp [binOp, eq_bool (und_bool hT hd)]
      · cases h
    · split at h
      · rename_i hd
        cases h; cases ha; cases hb
        refine ⟨.mk (.bool _) ?_, .inl (by simp), .inl (by simp)⟩
        simp [binOp, eq_bool (und_bool hT hd), bne]
      · cases h
    all_goals first
      | (split at h
         · rename_i hd
           obtain ⟨e, hu⟩ := und_ptr hT hd
           cases h; cases ha; cases hb
           refine ⟨.mk (.bool _) ?_, .inl (by simp), .inl (by simp)⟩
           simp [binOp, eq_nilnil hu, eq_ptrnil hu]
         · cases h)
      | cases h
  obtain ⟨hc, hn, hg⟩ := key
  obtain ⟨x', hx, hr⟩ := hc
  refine .mk hr ?_
  simp [eqGuard_ok op t x y ha hb hn hg w, hx]
theorem keyOk1_leaf (hT:TabOk T P) {t:TypeId} {v:V} (h:keyOk1 T t v=true):∃ i,T.ty t=some i/\isAgg i.desc=false/\((∃ k n,v = .int k n/\P.underlying t=some (.int k))\/(∃ l,v = .str l/\P.underlying t=some .string)\/(∃ b,v = .bool b/\P.underlying t=some .bool)):=by
 cases v<;>simp [keyOk1] at h
 all_goals
  split at h<;>try (cases h;done)
  rename_i hd
  obtain ⟨d',e1,e2⟩:=und_of hT hd
  obtain ⟨i,h1,h2⟩:=desc_parts hT hd
  refine ⟨i,h1,by rw [h2];rfl,?_⟩
  cases d'<;>simp [DsOk] at e2
 ·exact .inr (.inr ⟨_,rfl,e1⟩)
 ·rw [beq_iff_eq] at h;subst h;subst e2;exact .inl ⟨_,_,rfl,e1⟩
 ·exact .inr (.inl ⟨_,rfl,e1⟩)
theorem part_leaf (hT:TabOk T P) {t:TypeId} {v:V} (h:keyOk1 T t v=true) {xs:Array Value} {off:Nat} {x:Value} (hx:xs[off]? = some x) (w:World):(part t xs off).run P w = .ok x w:=by
 obtain ⟨i,h1,h2,_⟩:=keyOk1_leaf hT h
 simp [part,agg_of hT h1,h2,hx]
theorem eq_leaf (hT:TabOk T P) {t:TypeId} {v v' : V} {b:Bool} (h:keyOk1 T t v=true) (hs:same1 v v' = some b) {x y:Value} (hx:Rv D s v x) (hy:Rv D s v' y) (d:Nat) (w:World):(Op.equalIn (d+1) t x y).run P w = .ok b w:=by
 obtain ⟨i,_,_,⟨k,n,rfl,hu⟩ | ⟨l,rfl,hu⟩ | ⟨c,rfl,hu⟩⟩:=keyOk1_leaf hT h
 ·cases v'<;>simp [same1] at hs
  obtain ⟨rfl,rfl⟩:=hs
  cases hx;cases hy
  simp [Op.equalIn,run_underlying hu]
 ·cases v'<;>simp [same1] at hs
  subst hs
  cases hx;cases hy
  simp [Op.equalIn,run_underlying hu,beq_toListBytes,toList_mk]
 ·cases v'<;>simp [same1] at hs
  subst hs
  cases hx;cases hy
  simp [Op.equalIn,run_underlying hu]
theorem eqFields_ok (hT : TabOk T P) (d : Nat) {xs ys : Array Value} (w : World) : ∀ (fs : List Field) (n : Nat) (cs cs' : List V) {r : Bool}, (fs.all fun f => !(f.name == "_")) = true → keyOkL T (fs.map fun f => (f.offset, f.type)) cs n = true →
  (∀ i v,cs[i]? = some v->∃ x,xs[n+i]? = some x/\Rv D s v x)->(∀ i v,cs'[i]? = some v->∃ x,ys[n+i]? = some x/\Rv D s v x)->sameL same1 cs cs' = some r->(Op.eqFields (d+1) xs ys fs).run P w = .ok r w
 | [],n,[],[],r,_,_,_,_,h=>by simp [sameL] at h;subst h;simp [Op.eqFields]
 | [],n,[],_ :: _,r,_,_,_,_,h=>by simp [sameL] at h
 | [],n,_ :: _,_,r,_,hk,_,_,_=>by simp [keyOkL] at hk
 | _ :: _,n,[],_,r,_,hk,_,_,_=>by simp [keyOkL] at hk
 | _ :: _,n,_ :: _,[],r,_,_,_,_,h=>by simp [sameL] at h
 | f :: fs,n,v :: cs,v' :: cs',r,hn,hk,hx,hy,h=>by
  simp only [List.map_cons,keyOkL,Bool.and_eq_true,beq_iff_eq] at hk
  obtain ⟨⟨e,hk1⟩,hk2⟩:=hk
  subst e
  rw [List.all_cons,Bool.and_eq_true] at hn
  have hn1 : f.name ≠ "_" := by simpa using hn.1
  obtain ⟨x,hx1,hx2⟩:=hx 0 v (by simp)
  obtain ⟨y,hy1,hy2⟩:=hy 0 v' (by simp)
  simp only [Nat.add_zero] at hx1 hy1
  simp only [sameL] at h
  split at h
  ·rename_i p q h1 h2
   cases h
   have ih:=eqFields_ok hT d w fs (f.offset+1) cs cs' hn.2 hk2 (fun i u hu=>by have:=hx (i+1) u (by simpa using hu);rwa [show f.offset+(i+1)=f.offset+1+i from by omega] at this) (fun i u hu=>by have:=hy (i+1) u (by simpa using hu);rwa [show f.offset+(i+1)=f.offset+1+i from by omega] at this) h2
   have hk1' : keyOk1 T f.type v' = true:=by
    cases v<;>cases v'<;>simp [same1] at h1<;>simp_all [keyOk1]
   rw [Op.eqFields,if_pos hn1]
   simp only [Sem.run_bind,part_leaf hT hk1 hx1,part_leaf hT hk1' hy1,eq_leaf hT hk1 h1 hx2 hy2,Result.andThen_ok]
   cases p
   ·simp
   ·simpa using ih
  ·cases h
theorem keyOkS_parts (hT : TabOk T P) {t : TypeId} {cs : List V} (h : keyOkS T t cs = true) : ∃ fs : Array Field, P.underlying t = some (.struct fs) ∧ eqOkT P t = true ∧ (fs.toList.all fun f => !(f.name == "_")) = true ∧ keyOkL T (fs.toList.map fun f => (f.offset, f.type)) cs 0 = true := by
 unfold keyOkS at h
 split at h
 ·rename_i i hi
  rw [Bool.and_eq_true] at h
  have he:=ti_eq hT hi h.1
  have h2:=h.2
  split at h2
  ·rename_i fs hd
   obtain ⟨d',e1,e2⟩:=und_of hT (show descOf T t=some (.struct fs) by simp [descOf,hi,hd])
   cases d'<;>simp [DsOk] at e2
   refine ⟨_,e1,he,?_,by rw [<- e2];exact h2⟩
   unfold eqOkT at he
   rw [e1] at he
   simp only [Bool.and_eq_true] at he
   exact he.2
  ·cases h2
 ·cases h
theorem eqS_ok (hT:TabOk T P) {t:TypeId} {cs cs' : List V} {r:Bool} (h:eqS T t cs cs' = some r) {x y:Value} (hx:Rv D s (.agg cs) x) (hy:Rv D s (.agg cs') y) (d:Nat) (w:World):(Op.equalIn (d+2) t x y).run P w = .ok r w/\P.eqGuardType P.depth t=false:=by
 unfold eqS at h
 split at h
 ·rename_i hk
  obtain ⟨fs,hu,he,hn,hkl⟩:=keyOkS_parts hT hk
  unfold eqOkT at he
  simp only [Bool.and_eq_true,Bool.not_eq_true'] at he
  cases hx with
  | agg _ xs hx _ =>
   cases hy with
   | agg _ ys hy _ =>
    have hf:P.fieldsOf t=fs:=by simp [Program.fieldsOf,hu]
    rw [run_equalIn_struct (P:=P) w (d+1) t xs ys (by rw [hf];exact hu) he.1.1,hf]
    exact ⟨eqFields_ok hT d w fs.toList 0 cs cs' hn hkl (fun i v hv=>by obtain ⟨x,h1,h2⟩:=hx.get i v hv;exact ⟨x,by simpa using h1,h2⟩) (fun i v hv=>by obtain ⟨x,h1,h2⟩:=hy.get i v hv;exact ⟨x,by simpa using h1,h2⟩) h,he.1.2⟩
 ·cases h
theorem und_ifd (hT:TabOk T P) {t:TypeId} (h:isIfD (descOf T t)=true):∃ m,P.underlying t=some (.interface m):=by
 cases hd:descOf T t with
 | none=>rw [hd] at h;cases h
 | some d =>
  rw [hd] at h
  cases d<;>simp [isIfD] at h
  obtain ⟨d',h1,h2⟩:=und_of hT hd
  cases d'<;>simp [DsOk] at h2
  exact ⟨_,h1⟩
theorem und_mpd (hT:TabOk T P) {t:TypeId} (h:isMpD (descOf T t)=true):∃ k e,P.underlying t=some (.map k e):=by
 cases hd:descOf T t with
 | none=>rw [hd] at h;cases h
 | some d =>
  rw [hd] at h
  cases d<;>simp [isMpD] at h
  obtain ⟨d',h1,h2⟩:=und_of hT hd
  cases d'<;>simp [DsOk] at h2
  exact ⟨_,_,h1⟩
theorem und_sld (hT:TabOk T P) {t:TypeId} (h:isSlD (descOf T t)=true):∃ e,P.underlying t=some (.slice e):=by
 cases hd:descOf T t with
 | none=>rw [hd] at h;cases h
 | some d =>
  rw [hd] at h
  cases d<;>simp [isSlD] at h
  obtain ⟨d',h1,h2⟩:=und_of hT hd
  cases d'<;>simp [DsOk] at h2
  exact ⟨_,h1⟩
theorem nilR_ok (hT:TabOk T P) {t:TypeId} {x y:Operand} {va vb:V} {a b:Value} {r:Bool} (ha:Rv D s va a) (hb:Rv D s vb b) (h:nilR (descOf T t) x y va vb=some r) (op:BinOp) (w:World) :
  (∀ d,(Op.equalIn (d+1) t a b).run P w = .ok r w)/\(eqGuard op t x y a b).run P w = .ok () w:=by
 have gd:¬ (va = .nili/\vb = .nili)->(∀ cs,va≠.agg cs)->(eqGuard op t x y a b).run P w = .ok () w:=fun h1 h2 =>
  eqGuard_ok op t x y ha hb (by by_cases e:va = .nili;exact .inr fun e'=>h1 ⟨e,e'⟩;exact .inl e) (.inl h2) w
 unfold nilR at h
 split at h
 all_goals first
  | (split at h<;>cases h)
  | cases h
 ·rename_i hd
  rw [Bool.and_eq_true,Bool.or_eq_true] at hd
  obtain ⟨m,hu⟩:=und_ifd hT hd.1
  cases ha;cases hb
  refine ⟨fun d=>by simp [Op.equalIn,run_underlying hu],?_⟩
  unfold eqGuard
  rcases hd.2 with hc | hc
  ·cases x<;>simp [isC] at hc
   cases op<;>simp
  ·cases y<;>simp [isC] at hc
   cases op<;>simp
 ·rename_i hd
  obtain ⟨m,hu⟩:=und_ifd hT hd
  refine ⟨?_,gd (by simp) (by simp)⟩
  cases ha;cases hb
  intro d
  simp [Op.equalIn,run_underlying hu]
 ·rename_i hd
  obtain ⟨k,e,hu⟩:=und_mpd hT hd
  refine ⟨?_,gd (by simp) (by simp)⟩
  cases ha;cases hb
  intro d
  simp [Op.equalIn,run_underlying hu]
 ·rename_i hd
  obtain ⟨k,e,hu⟩:=und_mpd hT hd
  refine ⟨?_,gd (by simp) (by simp)⟩
  cases ha;cases hb
  intro d
  simp [Op.equalIn,run_underlying hu]
 ·rename_i hd
  obtain ⟨e,hu⟩:=und_sld hT hd
  refine ⟨?_,gd (by simp) (by simp)⟩
  cases ha;cases hb
  intro d
  simp [Op.equalIn,run_underlying hu]
 ·rename_i hd
  obtain ⟨e,hu⟩:=und_sld hT hd
  refine ⟨?_,gd (by simp) (by simp)⟩
  cases ha;cases hb
  intro d
  simp [Op.equalIn,run_underlying hu]
 ·rename_i hd
  obtain ⟨e,hu⟩:=und_sld hT hd
  refine ⟨?_,gd (by simp) (by simp)⟩
  intro d
  cases ha<;>cases hb<;>simp [Op.equalIn,run_underlying hu]
 ·rename_i hd
  obtain ⟨e,hu⟩:=und_ptr hT hd
  refine ⟨?_,gd (by simp) (by simp)⟩
  cases ha;cases hb
  intro d
  simp [Op.equalIn,run_underlying hu]
theorem eqs_run (op:BinOp) (hop:op = .eql\/op = .neq) (t:TypeId) (x y:Operand) {va vb:V} {a b:Value} {r:Bool} (ha:Rv D s va a) (hb:Rv D s vb b) (hn:∀ k n,va≠.int k n) (hn' : ∀ l,va≠.str l) (w:World) (h1:(Op.equal t a b).run P w = .ok r w) (h2:(eqGuard op t x y a b).run P w = .ok () w) :
  Cm D s ((do eqGuard op t x y a b;binOp op t a b:Sem Value).run P w) w (.bool (if op = .eql then r else !r)):=by
 refine .mk (.bool _) ?_
 rcases hop with rfl | rfl
 ·cases ha<;>simp_all [binOp]
 ·cases ha<;>simp_all [binOp]
theorem binE_ok (hT:TabOk T P) (op:BinOp) (t:TypeId) (x y:Operand) {va vb v:V} {a b:Value} (ha:Rv D s va a) (hb:Rv D s vb b) (h:binE T op t x y va vb=some v) (w:World) :
  Cm D s ((do eqGuard op t x y a b;binOp op t a b:Sem Value).run P w) w v:=by
 unfold binE at h
 split at h
 ·rename_i v' hv
  cases h
  exact bin_ok hT op t x y ha hb hv w
 ·split at h
  ·obtain ⟨r,h1,rfl⟩:=Option.map_eq_some_iff.1 h
   obtain ⟨h2,h3⟩:=eqS_ok hT h1 ha hb 9998 w
   refine eqs_run .eql (.inl rfl) t x y ha hb (by simp) (by simp) w h2 ?_
   unfold eqGuard
   cases ha;cases hb
   simp [h3]
  ·obtain ⟨r,h1,rfl⟩:=Option.map_eq_some_iff.1 h
   obtain ⟨h2,h3⟩:=eqS_ok hT h1 ha hb 9998 w
   refine eqs_run .neq (.inr rfl) t x y ha hb (by simp) (by simp) w h2 ?_
   unfold eqGuard
   cases ha;cases hb
   simp [h3]
  ·obtain ⟨r,h1,rfl⟩:=Option.map_eq_some_iff.1 h
   obtain ⟨h2,h3⟩:=nilR_ok hT ha hb h1 .eql w
   refine eqs_run .eql (.inl rfl) t x y ha hb ?_ ?_ w (h2 9999) h3
   all_goals (intros;rintro rfl;cases vb<;>simp [nilR] at h1)
  ·obtain ⟨r,h1,rfl⟩:=Option.map_eq_some_iff.1 h
   obtain ⟨h2,h3⟩:=nilR_ok hT ha hb h1 .neq w
   refine eqs_run .neq (.inr rfl) t x y ha hb ?_ ?_ w (h2 9999) h3
   all_goals (intros;rintro rfl;cases vb<;>simp [nilR] at h1)
  ·cases h
end
end Go.AM
namespace Go.AM
open Go Go.RowKit
section
variable {T:Tab} {P:Program} {D:Nat->Prop} {s:Sg}
theorem add_off (b base off n:Nat):(Addr.mk b (base+off) none).add n=⟨b,base+(off+n),none⟩:=by
 unfold Addr.add
 split
 ·rename_i h;subst h;rfl
 ·simp [Nat.add_assoc]
theorem und_struct (hT:TabOk T P) {t:TypeId} {fs:List (Nat×TypeId)} (h:descOf T t=some (.struct fs)):∃ fs' : Array Field,P.underlying t=some (.struct fs')/\fs=fs'.toList.map fun f=>(f.offset,f.type):=by
 obtain ⟨d,h1,h2⟩:=und_of hT h
 cases d<;>simp [DsOk] at h2
 exact ⟨_,h1,h2⟩
theorem und_slice (hT:TabOk T P) {t e:TypeId} (h:descOf T t=some (.slice e)):P.underlying t=some (.slice e):=by
 obtain ⟨d,h1,h2⟩:=und_of hT h
 cases d<;>simp [DsOk] at h2
 rw [h1,h2]
theorem und_arr (hT:TabOk T P) {t e:TypeId} {n:Nat} (h:descOf T t=some (.arr n e)):P.underlying t=some (.array n e):=by
 obtain ⟨d,h1,h2⟩:=und_of hT h
 cases d<;>simp [DsOk] at h2
 rw [h1,h2.1,h2.2]
theorem und_map (hT:TabOk T P) {t k e:TypeId} (h:descOf T t=some (.map k e)):P.underlying t=some (.map k e):=by
 obtain ⟨d,h1,h2⟩:=und_of hT h
 cases d<;>simp [DsOk] at h2
 rw [h1,h2.1,h2.2]
theorem und_str (hT:TabOk T P) {t:TypeId} (h:descOf T t=some .str):P.underlying t=some .string:=by
 obtain ⟨d,h1,h2⟩:=und_of hT h
 cases d<;>simp [DsOk] at h2
 exact h1
theorem und_int (hT:TabOk T P) {t:TypeId} {k:IntKind} (h:descOf T t=some (.int k)):P.underlying t=some (.int k):=by
 obtain ⟨d,h1,h2⟩:=und_of hT h
 cases d<;>simp [DsOk] at h2
 rw [h1,h2]
theorem field_ok (hT:TabOk T P) {st:TypeId} {fs:List (Nat×TypeId)} {f:Nat} {fd:Nat×TypeId} {i:TI} {b off:Nat} {x:Value} (hx:Rv D s (.ptr b off) x)
  (hd:descOf T st=some (.struct fs)) (hf:fs[f]? = some fd) (hi:T.ty fd.2=some i) (h0:¬ i.size=0) (w:World) :
  Cm D s ((Instr.fieldAt st x f).run P w) w (.ptr b (off+fd.1)):=by
 cases hx with
 | ptr b off hD =>
  obtain ⟨fs',hu,rfl⟩:=und_struct hT hd
  simp only [List.getElem?_map,Array.getElem?_toList] at hf
  obtain ⟨g,hg,rfl⟩:=Option.map_eq_some_iff.1 hf
  refine .mk (.ptr b (off+g.offset) hD) ?_
  simp [Instr.fieldAt,run_underlying hu,hg,Instr.sureAddr,fieldPlace,size_of hT hi,h0,add_off]
theorem part_ok (hT:TabOk T P) {t:TypeId} {cs:List V} {off:Nat} {v:V} {xs:Array Value} (hx:RvL D s cs xs.toList) (ho:cs.all oneV=true) (h:partV T t cs off=some v) (w:World) :
  Cm D s ((part t xs off).run P w) w v:=by
 unfold partV at h
 split at h
 ·rename_i i hi
  split at h
  ·rename_i ha
   split at h
   ·rename_i hl
    cases h
    refine .mk (.agg _ (xs.extract off (off+i.size)) ?_ ?_) ?_
    ·have:=(hx.drop off).take i.size
     rw [Array.toList_extract]
     simpa [List.extract] using this
    ·rw [List.all_eq_true] at ho ⊢
     exact fun c hc=>ho c (List.mem_of_mem_drop (List.mem_of_mem_take hc))
    ·simp [part,agg_of hT hi,ha,size_of hT hi]
   ·cases h
  ·rename_i ha
   obtain ⟨x,hx1,hr⟩:=hx.get _ _ h
   refine .mk hr ?_
   rw [Array.getElem?_toList] at hx1
   simp [part,agg_of hT hi,ha,hx1]
 ·cases h
theorem fieldv_ok (hT:TabOk T P) {st:TypeId} {fs:List (Nat×TypeId)} {f:Nat} {fd:Nat×TypeId} {cs:List V} {x:Value} {v:V} (hx:Rv D s (.agg cs) x)
  (hd:descOf T st=some (.struct fs)) (hf:fs[f]? = some fd) (h:partV T fd.2 cs fd.1=some v) (w:World) :
  Cm D s ((Instr.field st x f).run P w) w v:=by
 cases hx with
 | agg cs xs hc ho =>
  obtain ⟨fs',hu,rfl⟩:=und_struct hT hd
  simp only [List.getElem?_map,Array.getElem?_toList] at hf
  obtain ⟨g,hg,rfl⟩:=Option.map_eq_some_iff.1 hf
  obtain ⟨y,hy,hr⟩:=part_ok hT hc ho h w
  exact .mk hr (by simp [Instr.field,run_underlying hu,hg,asAgg,hy])
theorem indexAddr_sl (hT:TabOk T P) {t e:TypeId} {ei:TI} {b off len z:Nat} {c:Option Nat} {k:IntKind} {n:Int} {x:Value} (hx:Rv D s (.sl b off len c z) x)
  (hd:descOf T t=some (.slice e)) (he:T.ty e=some ei) (hn:0<=n/\n < len) (w:World) :
  Cm D s ((Instr.indexAt t x (.int k n)).run P w) w (.ptr b (off+n.toNat*ei.size)):=by
 have hu:=und_slice hT hd
 have hD:D b:=by cases hx<;>assumption
 refine .mk (.ptr b _ hD) ?_
 cases hx<;>simp [Instr.indexAt,run_underlying hu,asIntOf,hn,size_of hT he,add_off]
theorem indexAddr_arr (hT:TabOk T P) {t e:TypeId} {ei:TI} {b off len:Nat} {k:IntKind} {n:Int} {x:Value} (hx:Rv D s (.ptr b off) x)
  (hd:descOf T t=some (.arr len e)) (he:T.ty e=some ei) (hn:0<=n/\n < len) (w:World) :
  Cm D s ((Instr.indexAt t x (.int k n)).run P w) w (.ptr b (off+n.toNat*ei.size)):=by
 have hu:=und_arr hT hd
 cases hx with
 | ptr b off hD =>
  refine .mk (.ptr b _ hD) ?_
  simp [Instr.indexAt,run_underlying hu,asIntOf,hn,size_of hT he,add_off,Instr.sureAddr]
theorem index_str (hT:TabOk T P) {t:TypeId} {l:List UInt8} {k:IntKind} {n:Int} {b:UInt8}
  (hd:descOf T t=some .str) (h0:0<=n) (hb:l[n.toNat]? = some b) (w:World) :
  Cm D s ((Instr.index t (.string ⟨l.toArray⟩) (.int k n)).run P w) w (.int .u8 b.toNat):=by
 have hu:=und_str hT hd
 refine .mk (.int _ _) ?_
 have hlt:n.toNat < l.length:=(List.getElem?_eq_some_iff.1 hb).1
 have hg:(ByteArray.mk l.toArray)[n.toNat]? = some b:=by
  rw [getElem?_pos (ByteArray.mk l.toArray) n.toNat (by rw [size_mk];exact hlt)]
  have:(ByteArray.mk l.toArray)[n.toNat]'(by rw [size_mk];exact hlt)=l[n.toNat]:=rfl
  rw [this]
  exact (List.getElem?_eq_some_iff.1 hb).2 ▸ rfl
 simp [Instr.index,run_underlying hu,asIntOf,h0,hg]
theorem index_arr (hT:TabOk T P) {t e:TypeId} {ei:TI} {cs:List V} {len:Nat} {k:IntKind} {n:Int} {x:Value} {v:V} (hx:Rv D s (.agg cs) x)
  (hd:descOf T t=some (.arr len e)) (he:T.ty e=some ei) (hn:0<=n/\n < len) (h:partV T e cs (n.toNat*ei.size)=some v) (w:World) :
  Cm D s ((Instr.index t x (.int k n)).run P w) w v:=by
 have hu:=und_arr hT hd
 cases hx with
 | agg cs xs hc ho =>
  obtain ⟨y,hy,hr⟩:=part_ok hT hc ho h w
  exact .mk hr (by simp [Instr.index,run_underlying hu,asIntOf,hn,size_of hT he,hy])
end
end Go.AM
namespace Go.AM
open Go Go.RowKit
section
variable {T:Tab} {P:Program} {D:Nat->Prop} {s:Sg}
inductive Ob3:Option Int->Option Value->Prop
 | none:Ob3 none none
 | some (k:IntKind) (n:Int):Ob3 (some n) (some (.int k n))
theorem bound_ok {k:IntKind} {n:Int} {y:Nat} (c:BoundsCode) (h0:0<=n) (h:n<=y) (w:World):(Instr.sliceBound (.int k n) y c).run P w = .ok n.toNat w:=by
 simp [Instr.sliceBound,asIntOf,h0,h]
theorem bounds_ok (isS:Bool) {len cap:Nat} {lo hi:Option Int} {vl vh:Option Value} (hl:Ob3 lo vl) (hh:Ob3 hi vh) (hlen:len<=cap) (h0:0<=lo.getD 0) (h1:lo.getD 0<=hi.getD len) (h2:hi.getD len<=cap) (w:World) :
  (Instr.sliceBounds isS len cap vl vh none).run P w = .ok ((lo.getD 0).toNat,(hi.getD len).toNat,cap) w:=by
 cases hl<;>cases hh<;>simp at h0 h1 h2
 ·simp [Instr.sliceBounds]
 ·rename_i k n
  simp [Instr.sliceBounds,bound_ok _ (show 0<=n by omega) (show n<=(cap:Int) by omega)]
 ·rename_i k n
  simp [Instr.sliceBounds,bound_ok _ h0 h1]
 ·rename_i k n k' n'
  simp [Instr.sliceBounds,bound_ok _ (show 0<=n' by omega) (show n'<=(cap:Int) by omega),bound_ok _ h0 (show n<=(n'.toNat:Int) by omega)]
theorem bounds3_ok (isS:Bool) {len cap:Nat} {lo:Option Int} {h m:Int} {vl vh vm:Option Value} (hl:Ob3 lo vl) (hh:Ob3 (some h) vh) (hm:Ob3 (some m) vm) (h0:0<=lo.getD 0) (h1:lo.getD 0<=h) (h2:h<=m) (h3:m<=cap) (w:World) :
  (Instr.sliceBounds isS len cap vl vh vm).run P w = .ok ((lo.getD 0).toNat,h.toNat,m.toNat) w:=by
 cases hl<;>cases hh<;>cases hm<;>simp at h0 h1
 ·rename_i kh km
  simp [Instr.sliceBounds,bound_ok _ (show 0<=m by omega) h3,bound_ok _ (show 0<=h by omega) (show h<=(m.toNat:Int) by omega)]
 ·rename_i k n kh km
  simp [Instr.sliceBounds,bound_ok _ (show 0<=m by omega) h3,bound_ok _ (show 0<=h by omega) (show h<=(m.toNat:Int) by omega),bound_ok _ h0 (show n<=(h.toNat:Int) by omega)]
theorem extract_mk (l:List UInt8) (a b:Nat):(ByteArray.mk l.toArray).extract a b=⟨((l.drop a).take (b-a)).toArray⟩:=by
 apply ByteArray.ext
 apply Array.toList_inj.1
 rw [Lib.extract_data]
theorem div_add (off z l:Nat) (hz:0 < z):(off+l*z) / z=off / z+l:=Nat.add_mul_div_right _ _ hz
theorem mod_add (off z l:Nat) (h:off % z=0):(off+l*z) % z=0:=by rw [Nat.add_mul_mod_self_right];exact h
theorem slice_ok (hT:TabOk T P) {t:TypeId} {v r:V} {x:Value} {lo hi mx:Option Int} {vl vh vm:Option Value} (hx:Rv D s v x) (hl:Ob3 lo vl) (hh:Ob3 hi vh) (hm:Ob3 mx vm) (h:sliceV T t v lo hi mx=some r) (w:World) :
  Cm D s ((Instr.sliceAt t x vl vh vm).run P w) w r:=by
 unfold sliceV at h
 split at h
 ·-- a string
  rename_i l hd
  have hu:=und_str hT hd
  split at h
  ·cases h
  ·cases hm
   dsimp only at h
   split at h
   ·rename_i hb
    cases h;cases hx
    refine .mk (.str _) ?_
    have hs:=bounds_ok (P:=P) false (len:=l.length) (cap:=l.length) hl hh (Nat.le_refl _) hb.1 hb.2.1 hb.2.2 w
    simp only [Instr.sliceAt,run_underlying hu,Sem.run_bind,Result.andThen_ok]
    simp [Instr.slice,run_underlying hu,size_mk,hs,extract_mk]
   ·cases h
 ·rename_i e hd
  have hu:=und_slice hT hd
  split at h
  ·rename_i hb
   cases h;cases hx
   obtain ⟨b1,b2,b3,b4⟩:=hb
   obtain ⟨i,hty⟩:=Option.isSome_iff_exists.1 b4
   cases hm<;>simp at b3
   refine .mk .nils ?_
   have hs:=bounds_ok (P:=P) true (len:=0) (cap:=0) hl hh (Nat.le_refl _) (by omega) (by simp only [Int.natCast_zero];omega) (by simp only [Int.natCast_zero];omega) w
   simp only [Instr.sliceAt,run_underlying hu,Sem.run_bind,Result.andThen_ok]
   simp [Instr.slice,run_underlying hu,hs,size_of hT hty,b1,b2]
  ·cases h
 ·rename_i e hd
  have hu:=und_slice hT hd
  split at h
  ·rename_i hb
   cases h;cases hx
   rename_i a c
   obtain ⟨b1,b2,b3,b4⟩:=hb
   obtain ⟨i,hty⟩:=Option.isSome_iff_exists.1 b4
   cases hm<;>simp at b3
   have hs:=bounds_ok (P:=P) true (len:=0) (cap:=c) hl hh (Nat.zero_le _) (by omega) (by simp only [Int.natCast_zero];omega) (by simp only [Int.natCast_zero];omega) w
   refine .mk (.sle (if c=0 then a else a.add (0*i.size)) (c-0)) ?_
   simp only [Instr.sliceAt,run_underlying hu,Sem.run_bind,Result.andThen_ok]
   have e2:(hi.getD ((0:Nat):Int)).toNat=0:=by simp only [Int.natCast_zero];omega
   have e1:(lo.getD 0).toNat=0:=by omega
   rw [e1,e2] at hs
   simp [Instr.slice,run_underlying hu,hs,size_of hT ‹_›]
   by_cases hc:c=0<;>simp [hc]
  ·cases h
 ·rename_i b off len cap z e hd
  have hu:=und_slice hT hd
  split at h
  ·cases h
  ·rename_i i hty
   dsimp only at h
   split at h
   ·cases h
   ·rename_i hb
    obtain ⟨rfl,h0,h1,h2⟩:=Classical.not_not.1 hb
    obtain ⟨l,hl'⟩:∃ l:Nat,lo.getD 0=l:=⟨(lo.getD 0).toNat,by omega⟩
    obtain ⟨hh',hhn⟩:∃ h' : Nat,hi.getD (len:Int)=h':=⟨(hi.getD (len:Int)).toNat,by omega⟩
    have htl:(lo.getD 0).toNat=l:=by omega
    have hth:(hi.getD (len:Int)).toNat=hh':=by omega
    rw [hl',hhn] at h
    simp only [Int.toNat_natCast] at h
    split at h
    ·-- a bound on the capacity
     rename_i m
     split at h
     ·rename_i hm3
      obtain ⟨m1,m2,m3⟩:=hm3
      obtain ⟨hv,rfl⟩:=Option.isSome_iff_exists.1 m3
      simp only [Option.getD_some] at hhn
      obtain ⟨mn,rfl⟩:∃ mn:Nat,m=mn:=⟨m.toNat,by omega⟩
      cases h
      have hl1:l<=hh':=by omega
      have hcc:∀ C:Nat,len<=C->(Instr.sliceBounds true len C vl vh vm).run P w = .ok (l,hh',mn) w:=fun C hC=>by
       have:=bounds3_ok (P:=P) true (len:=len) (cap:=C) hl hh hm h0 (by omega) (by omega) (by omega) w
       rw [htl,hhn] at this
       simpa using this
      cases hx with
      | sln b off len z hD e1 e2 e3 e4 =>
       refine .mk (x:=.slice (some ⟨(s b).b,(s b).base+(if (mn:Int)=l then off else off+l*i.size),none⟩) (hh' - l) (mn-l)) ?_ ?_
       ·split
        ·rename_i hml
         exact .slc _ _ _ _ _ hD e1 e2 e3 (by omega) (by omega)
        ·exact .slc _ _ _ _ _ hD e1 e2 (mod_add _ _ _ e3) (by omega) (by rw [div_add _ _ _ e2];omega)
       ·simp only [Instr.sliceAt,run_underlying hu,Sem.run_bind,Result.andThen_ok]
        simp only [Instr.slice,run_underlying hu,Sem.run_bind,Result.andThen_ok,hcc _ (show len<=(s b).cap-off / i.size by omega),size_of hT hty,Sem.run_pure]
        by_cases hml:mn=l
        ·subst hml;simp
        ·have:¬ (mn:Int)=l:=by omega
         simp [hml,this,add_off]
      | slc b off len c z hD e1 e2 e3 e4 e5 =>
       refine .mk (x:=.slice (some ⟨(s b).b,(s b).base+(if (mn:Int)=l then off else off+l*i.size),none⟩) (hh' - l) (mn-l)) ?_ ?_
       ·split
        ·rename_i hml
         exact .slc _ _ _ _ _ hD e1 e2 e3 (by omega) (by omega)
        ·exact .slc _ _ _ _ _ hD e1 e2 (mod_add _ _ _ e3) (by omega) (by rw [div_add _ _ _ e2];omega)
       ·simp only [Instr.sliceAt,run_underlying hu,Sem.run_bind,Result.andThen_ok]
        simp only [Instr.slice,run_underlying hu,Sem.run_bind,Result.andThen_ok,hcc _ e4,size_of hT hty,Sem.run_pure]
        by_cases hml:mn=l
        ·subst hml;simp
        ·have:¬ (mn:Int)=l:=by omega
         simp [hml,this,add_off]
     ·cases h
    ·cases hm
     have hcc:∀ C:Nat,len<=C->(Instr.sliceBounds true len C vl vh none).run P w = .ok (l,hh',C) w:=fun C hC=>by
      have:=bounds_ok (P:=P) true (len:=len) (cap:=C) hl hh hC h0 h1 (by omega) w
      rw [htl,hth] at this
      exact this
     split at h
     ·cases hx with
      | sln b off len z hD e1 e2 e3 e4 =>
       split at h
       ·rename_i hlt
        cases h
        have hlt' : l < hh':=by omega
        refine .mk (x:=.slice (some ⟨(s b).b,(s b).base+(off+l*i.size),none⟩) (hh' - l) ((s b).cap-off / i.size-l)) ?_ ?_
        ·have:=Rv.sln (D:=D) (s:=s) b (off+l*i.size) (hh' - l) i.size hD e1 e2 (mod_add _ _ _ e3) (by rw [div_add _ _ _ e2];omega)
         rw [div_add _ _ _ e2,<- Nat.sub_sub] at this
         exact this
        ·simp only [Instr.sliceAt,run_underlying hu,Sem.run_bind,Result.andThen_ok]
         simp only [Instr.slice,run_underlying hu,Sem.run_bind,Result.andThen_ok,hcc _ (show len<=(s b).cap-off / i.size by omega),size_of hT hty,Sem.run_pure]
         rw [if_neg (by omega)]
         simp [add_off]
       ·rename_i hlt
        split at h
        ·rename_i hz
         cases h
         have hh0:hh' = 0:=by omega
         have hl0:l=0:=by omega
         subst hh0;subst hl0
         refine .mk (.sln b off 0 i.size hD e1 e2 e3 (by omega)) ?_
         simp only [Instr.sliceAt,run_underlying hu,Sem.run_bind,Result.andThen_ok]
         simp only [Instr.slice,run_underlying hu,Sem.run_bind,Result.andThen_ok,hcc _ (show len<=(s b).cap-off / i.size by omega),size_of hT hty,Sem.run_pure]
         simp [Addr.add]
        ·cases h
         refine .mk (.sle (if (s b).cap-off / i.size=l then ⟨(s b).b,(s b).base+off,none⟩ else (Addr.mk (s b).b ((s b).base+off) none).add (l*i.size)) ((s b).cap-off / i.size-l)) ?_
         simp only [Instr.sliceAt,run_underlying hu,Sem.run_bind,Result.andThen_ok]
         simp only [Instr.slice,run_underlying hu,Sem.run_bind,Result.andThen_ok,hcc _ (show len<=(s b).cap-off / i.size by omega),size_of hT hty,Sem.run_pure]
         have:hh' - l=0:=by omega
         rw [this]
         split<;>simp
     ·rename_i c
      cases h
      cases hx with
      | slc b off len c z hD e1 e2 e3 e4 e5 =>
       refine .mk (x:=.slice (some ⟨(s b).b,(s b).base+(if (c:Int)=l then off else off+l*i.size),none⟩) (hh' - l) (c-l)) ?_ ?_
       ·split
        ·rename_i hml
         exact .slc _ _ _ _ _ hD e1 e2 e3 (by omega) (by omega)
        ·exact .slc _ _ _ _ _ hD e1 e2 (mod_add _ _ _ e3) (by omega) (by rw [div_add _ _ _ e2];omega)
       ·simp only [Instr.sliceAt,run_underlying hu,Sem.run_bind,Result.andThen_ok]
        simp only [Instr.slice,run_underlying hu,Sem.run_bind,Result.andThen_ok,hcc _ e4,size_of hT hty,Sem.run_pure]
        by_cases hml:c=l
        ·subst hml;simp
        ·have:¬ (c:Int)=l:=by omega
         simp [hml,this,add_off]
 ·cases h
end
end Go.AM
namespace Go.AM
open Go Go.RowKit
section
variable {T:Tab} {P:Program} {D:Nat->Prop} {s:Sg}
theorem zero_rv:∀ {vs:List V} {xs:List Value},zeroOk vs xs=true->RvL D s vs xs/\vs.all oneV=true
 | [],[],_=>⟨.nil,rfl⟩
 | [],_ :: _,h=>by simp [zeroOk] at h
 | _ :: _,[],h=>by simp [zeroOk] at h
 | v :: vs,x :: xs,h=>by
  simp only [zeroOk,Bool.and_eq_true] at h
  obtain ⟨h1,h2⟩:=h
  obtain ⟨r1,r2⟩:=zero_rv h2
  have key:Rv D s v x/\oneV v=true:=by
   split at h1
   ·simp at h1;subst h1;exact ⟨.bool _,rfl⟩
   ·simp at h1;obtain ⟨rfl,rfl⟩:=h1;exact ⟨.int _ _,rfl⟩
   ·rename_i b
    obtain ⟨⟨l⟩⟩:=b
    simp at h1
    subst h1
    exact ⟨.str [],rfl⟩
   ·exact ⟨.nilp,rfl⟩
   ·exact ⟨.nils,rfl⟩
   ·exact ⟨.nilm,rfl⟩
   ·exact ⟨.nilf,rfl⟩
   ·exact ⟨.nili,rfl⟩
   ·cases h1
  exact ⟨.cons _ _ _ _ key.1 r1,by simp [key.2];simpa using r2⟩
inductive Pz (D:Nat->Prop) (s:Sg):List (Nat×V)->List (Nat×Value)->Prop
 | nil:Pz D s [] []
 | cons (i:Nat) (v:V) (x:Value) (ps:List (Nat×V)) (qs:List (Nat×Value)):Rv D s v x->Pz D s ps qs->Pz D s ((i,v) :: ps) ((i,x) :: qs)
def setL {α:Type} (cs:List α) (off:Nat):List α->List α
 | []=>cs
 | v :: r=>setL (cs.set off v) (off+1) r
theorem setL_length {α:Type}:∀ (l cs:List α) (off:Nat),(setL cs off l).length=cs.length
 | [],_,_=>rfl
 | v :: r,cs,off=>by rw [setL,setL_length r];simp
theorem setCells_eq:∀ (l cs:List V) (off:Nat),setCells cs off l=setL cs off l
 | [],_,_=>rfl
 | v :: r,cs,off=>by rw [setCells,setL,setCells_eq r]
theorem RvL.setL:∀ {ns:List V} {ys:List Value} {vs:List V} {xs:List Value} (off:Nat),RvL D s ns ys->RvL D s vs xs->RvL D s (AM.setL vs off ns) (AM.setL xs off ys)
 | _,_,_,_,_,.nil,h=>h
 | _,_,_,_,off,.cons v x vs xs h1 h2,h=>RvL.setL (off+1) h2 (RvL.set off h h1)
theorem all_set (p:V->Bool) (l:List V) (i:Nat) (v:V) (h:l.all p=true) (hv:p v=true):(l.set i v).all p=true:=by
 rw [List.all_eq_true] at *
 intro x hx
 rcases List.mem_or_eq_of_mem_set hx with h1 | rfl
 ·exact h x h1
 ·exact hv
theorem all_setL (p:V->Bool):∀ (n l:List V) (off:Nat),l.all p=true->n.all p=true->(setL l off n).all p=true
 | [],l,off,h,_=>h
 | v :: r,l,off,h,hn=>by
  simp only [List.all_cons,Bool.and_eq_true] at hn
  exact all_setL p r _ _ (all_set p l off v h hn.1) hn.2
theorem foldl_setL {α:Type}:∀ (l:List α) (k off:Nat) (A:Array α),((l.zipIdx k).foldl (fun (cs:Array α) (x:α×Nat)=>cs.setIfInBounds (off+x.2) x.1) A).toList=setL A.toList (off+k) l
 | [],_,_,_=>rfl
 | v :: r,k,off,A=>by
  rw [List.zipIdx_cons,List.foldl_cons,foldl_setL r (k+1) off,setL,Array.toList_setIfInBounds]
  rfl
theorem fill_ok (place:Nat->Option (Nat×Nat)):∀ {ps:List (Nat×V)} {qs:List (Nat×Value)} {cs:List V} {A:Array Value} {r:List V},
  Pz D s ps qs->RvL D s cs A.toList->cs.all oneV=true->fillV place cs ps=some r ->
  ∃ B,Instr.fill place A qs=some B/\RvL D s r B.toList/\r.all oneV=true
 | _,_,cs,A,r,.nil,hA,ho,h=>by
  simp only [fillV] at h
  cases h
  exact ⟨A,rfl,hA,ho⟩
 | _,_,cs,A,r,.cons i v x ps qs hv hr,hA,ho,h=>by
  simp only [fillV] at h
  simp only [Instr.fill]
  cases hp:place i with
  | none=>rw [hp] at h;cases h
  | some p =>
   obtain ⟨off,size⟩:=p
   rw [hp] at h
   dsimp only at h
   have hc:=hv.cells
   have hlen:(cellsV v).length=x.cells.size:=by rw [hc.length];simp
   have hlenA:cs.length=A.size:=by rw [hA.length];simp
   split at h
   ·cases h
   ·rename_i hcond
    simp only [not_or,Bool.not_eq_false,Decidable.not_not,Nat.not_lt] at hcond
    obtain ⟨c1,c2,c3⟩:=hcond
    have hb:¬ (decide (x.cells.size≠size) || decide (off+x.cells.size > A.size))=true:=by
     simp;omega
    dsimp only
    rw [if_neg hb]
    refine fill_ok place hr ?_ ?_ h
    ·have e:=foldl_setL x.cells.toList 0 off A
     have e2:(Array.foldl (fun (cs:Array Value) (x:Value×Nat)=>cs.setIfInBounds (off+x.2) x.1) A x.cells.zipIdx).toList=setL A.toList off x.cells.toList:=by
      rw [<- Array.foldl_toList,Array.toList_zipIdx,e,Nat.add_zero]
     rw [setCells_eq,e2]
     exact RvL.setL off hc hA
    ·rw [setCells_eq]
     exact all_setL _ _ _ _ ho c1
theorem parts_ok {F:Fr} {a:Act} (hg:GlOk T.ng D s) (hF:FrOk D s F a):∀ {l:List (Nat×Operand)} {ps:List (Nat×V)},partsV T F l=some ps ->
  Pz D s ps (l.map fun (i,x)=>(i,a.eval x))
 | [],ps,h=>by cases h;exact .nil
 | (i,x) :: r,ps,h=>by
  simp only [partsV] at h
  split at h
  ·rename_i v vs h1 h2
   cases h
   exact .cons _ _ _ _ _ (opd_ok hg hF h1) (parts_ok hg hF h2)
  ·cases h
theorem places_ok (hT:TabOk T P):∀ {fs:List Field} {pl:List (Nat×Nat)},placesV T (fs.map fun f=>(f.offset,f.type))=some pl->fs.mapM (fun f=>(P.info? f.type).map fun i=>(f.offset,i.size))=some pl
 | [],pl,h=>by cases h;rfl
 | f :: r,pl,h=>by
  simp only [List.map_cons,placesV] at h
  split at h
  ·rename_i i ps h1 h2
   cases h
   obtain ⟨inf,_,_,e1,_,_,e2,_⟩:=ti_parts hT h1
   simp [List.mapM_cons,e1,places_ok hT h2,e2]
  ·cases h
theorem build_ok (hT:TabOk T P) {F:Fr} {a:Act} (hg:GlOk T.ng D s) (hF:FrOk D s F a) {t:TypeId} {parts:Array (Nat×Operand)} {v:V} (h:evP T (.build t parts) F=some v) (w:World) :
  Cm D s ((Instr.build t (parts.map fun (i,x)=>(i,a.eval x))).run P w) w v:=by
 simp only [evP] at h
 split at h
 ·rename_i i ps hi hps
  obtain ⟨inf,d,z,e1,e2,e3,e4,e5,e6,e7,e8,e9⟩:=ti_parts hT hi
  obtain ⟨z1,z2⟩:=zero_rv (D:=D) (s:=s) e7
  have hp:=parts_ok hg hF hps
  have el:(parts.map fun (x:Nat×Operand)=>(x.1,a.eval x.2)).toList=parts.toList.map fun (x:Nat×Operand)=>(x.1,a.eval x.2):=by simp
  split at h
  ·rename_i fs hd
   split at h
   ·rename_i pl hpl
    split at h
    ·rename_i cs hcs
     cases h
     rw [hd] at e3
     cases d<;>simp [DsOk] at e3
     rename_i fs'
     subst e3
     obtain ⟨B,hB,r1,r2⟩:=fill_ok _ hp z1 z2 hcs
     refine .mk (.agg cs B r1 r2) (run_build w t _ B ?_)
     unfold Program.built
     simp only [e1,e2,e6]
     rw [places_ok hT hpl]
     simp only [el]
     rw [<- hB]
     congr 1
     funext i
     simp
    ·cases h
   ·cases h
  ·rename_i n e hd
   split at h
   ·rename_i ei hei
    split at h
    ·rename_i cs hcs
     cases h
     rw [hd] at e3
     cases d<;>simp [DsOk] at e3
     obtain ⟨rfl,rfl⟩:=e3
     obtain ⟨inf',_,_,f1,_,_,f4,_⟩:=ti_parts hT hei
     obtain ⟨B,hB,r1,r2⟩:=fill_ok _ hp z1 z2 hcs
     refine .mk (.agg cs B r1 r2) (run_build w t _ B ?_)
     unfold Program.built
     simp only [e1,e2,e6,f1,el,f4]
     exact hB
    ·cases h
   ·cases h
  ·cases h
 ·cases h
end
end Go.AM
namespace Go.AM
open Go Go.RowKit
section
variable {T:Tab} {P:Program} {D:Nat->Prop} {s:Sg}
def Ev (P:Program) (D:Nat->Prop) (s:Sg) (a:Act) (o:Oper) (w:World) (v:V):Prop:=∃ x,(execOp a.eval o).run P w = .ok (.value x) w/\Rv D s v x
theorem Ev.of {a:Act} {o:Oper} {w:World} {v:V} {e:Sem Value} (he:execOp a.eval o=(do pure (.value (<- e)):Sem Next)) (h:Cm D s (e.run P w) w v):Ev P D s a o w v:=by
 obtain ⟨x,hx,hr⟩:=h
 exact ⟨x,by rw [he];simp [hx],hr⟩
theorem optI_ok {F:Fr} {a:Act} (hg:GlOk T.ng D s) (hF:FrOk D s F a) {x:Option Operand} {n:Option Int} (h:optI T F x=some n):Ob3 n (x.map a.eval):=by
 cases x with
 | none=>cases h;exact .none
 | some y =>
  simp only [optI] at h
  split at h
  ·rename_i k m hy
   cases h
   have:=opd_ok hg hF hy
   simp only [Option.map_some]
   generalize a.eval y=z at this
   cases this
   exact .some _ _
  ·cases h
set_option maxHeartbeats 1000000 in
theorem evP_ok (hT:TabOk T P) {F:Fr} {a:Act} (hg:GlOk T.ng D s) (hF:FrOk D s F a) (o:Oper) {v:V} (hk:kind T o.op = .p) (h:evP T o.op F=some v) (w:World):Ev P D s a o w v:=by
 obtain ⟨dst,op,type,pos,after,guard⟩:=o
 dsimp only at hk h
 cases op
 case move x =>
  exact ⟨a.eval x,by simp [execOp],opd_ok hg hF h⟩
 case assign x =>
  exact ⟨a.eval x,by simp [execOp],opd_ok hg hF h⟩
 case pick c x y =>
  simp only [evP] at h
  split at h
  ·rename_i hc
   have hc':=opd_ok hg hF hc
   refine ⟨a.eval x,?_,opd_ok hg hF h⟩
   generalize hz:a.eval c=z at hc'
   cases hc'
   simp [execOp,asBool,hz]
  ·rename_i hc
   have hc':=opd_ok hg hF hc
   refine ⟨a.eval y,?_,opd_ok hg hF h⟩
   generalize hz:a.eval c=z at hc'
   cases hc'
   simp [execOp,asBool,hz]
  ·cases h
 case nilCheck x =>
  simp only [evP] at h
  split at h
  ·rename_i b off hx
   cases h
   have hx':=opd_ok hg hF hx
   refine ⟨a.eval x,?_,hx'⟩
   generalize hz:a.eval x=z at hx'
   cases hx'
   simp [execOp,hz]
  ·cases h
 case binOp op t x y yt =>
  simp only [evP] at h
  split at h
  ·rename_i va vb h1 h2
   exact .of rfl (binE_ok hT op t x y (opd_ok hg hF h1) (opd_ok hg hF h2) h w)
  ·cases h
 case unOp op t x =>
  cases op<;>simp only [evP] at h
  case not =>
   split at h
   ·rename_i b hx
    cases h
    have hx':=opd_ok hg hF hx
    refine ⟨.bool !b,?_,.bool _⟩
    generalize hz:a.eval x=z at hx'
    cases hx'
    simp [execOp,hz,Op.unary]
   ·cases h
  case neg =>
   split at h
   ·rename_i k n hx
    cases h
    have hx':=opd_ok hg hF hx
    refine ⟨.int k (wr k (0-n)),?_,.int _ _⟩
    generalize hz:a.eval x=z at hx'
    cases hx'
    simp [execOp,hz,Op.unary,Op.intArith,wr_eq]
   ·cases h
  all_goals cases h
 case convert sr ds x =>
  simp only [evP] at h
  split at h
  ·rename_i k0 n k1 k hx hs hd
   cases h
   have hx':=opd_ok hg hF hx
   refine ⟨.int k (wr k n),?_,.int _ _⟩
   generalize hz:a.eval x=z at hx'
   cases hx'
   simp [execOp,hz,convert,run_underlying (und_int hT hs),run_underlying (und_int hT hd),Conv.intToInt,wr_eq]
  ·rename_i l hx hs hd
   cases h
   have hx':=opd_ok hg hF hx
   refine ⟨.string ⟨l.toArray⟩,?_,.str _⟩
   generalize hz:a.eval x=z at hx'
   cases hx'
   simp [execOp,hz,convert,run_underlying (und_str hT hs),run_underlying (und_str hT hd)]
  ·rename_i k0 n k1 hx hs hd
   split at h
   ·rename_i hn
    cases h
    have hx':=opd_ok hg hF hx
    refine ⟨.string ⟨[UInt8.ofNat n.toNat].toArray⟩,?_,.str _⟩
    generalize hz:a.eval x=z at hx'
    cases hx'
    have hen:Utf8.encode n=⟨[UInt8.ofNat n.toNat].toArray⟩:=by
     have h1:n.toNat < 128:=by omega
     have hv:Utf8.valid n=true:=by simp [Utf8.valid];omega
     simp [Utf8.encode,hv,h1]
    simp [execOp,hz,convert,run_underlying (und_int hT hs),run_underlying (und_str hT hd),Conv.intToString,hen]
   ·cases h
  ·cases h
 case makeInterface t x =>
  simp only [evP] at h
  split at h
  ·cases h
  ·rename_i v' d hni hx hd
   cases h
   refine ⟨.iface t (a.eval x),?_,.ifc _ _ _ (opd_ok hg hF hx)⟩
   obtain ⟨d',h1,h2⟩:=und_of hT hd
   have:∀ ms,d'≠.interface ms:=by
    rintro ms rfl
    cases d<;>simp [DsOk] at h2
    exact hni rfl
   simp only [execOp,Instr.makeInterface,Sem.run_bind,run_underlying h1,Result.andThen_ok]
   simp
  ·cases h
 case makeFunc f x y =>
  simp only [evP] at h
  split at h
  ·rename_i vx vy h1 h2
   cases h
   refine ⟨.func f (x.map a.eval) (y.map a.eval),?_,.fn _ _ _ _ _ ?_ ?_⟩
   ·simp [execOp,Instr.makeFunc]
   ·rw [Array.toList_map];exact opds_ok hg hF h1
   ·rw [Array.toList_map];exact opds_ok hg hF h2
  ·cases h
 case fieldAddr st x f =>
  simp only [evP] at h
  split at h
  ·rename_i b off fs hx hd
   split at h
   ·rename_i fd hf
    split at h
    ·rename_i i hi
     split at h
     ·cases h
     ·rename_i h0
      cases h
      exact .of rfl (field_ok hT (opd_ok hg hF hx) hd hf hi h0 w)
    ·cases h
   ·cases h
  ·cases h
 case field st x f =>
  simp only [evP] at h
  split at h
  ·rename_i cs fs hx hd
   split at h
   ·rename_i fd hf
    exact .of rfl (fieldv_ok hT (opd_ok hg hF hx) hd hf h w)
   ·cases h
  ·cases h
 case indexAddr t x i =>
  simp only [evP] at h
  split at h
  ·rename_i b off len c z k n e hx hi hd
   split at h
   ·rename_i ei he
    split at h
    ·rename_i hn
     cases h
     have hi':=opd_ok hg hF hi
     generalize hz:a.eval i=y at hi'
     cases hi'
     exact .of (by simp only [execOp,hz]) (indexAddr_sl (k:=k) hT (opd_ok hg hF hx) hd he hn w)
    ·cases h
   ·cases h
  ·rename_i b off k n len e hx hi hd
   split at h
   ·rename_i ei he
    split at h
    ·rename_i hn
     cases h
     have hi':=opd_ok hg hF hi
     generalize hz:a.eval i=y at hi'
     cases hi'
     exact .of (by simp only [execOp,hz]) (indexAddr_arr (k:=k) hT (opd_ok hg hF hx) hd he hn w)
    ·cases h
   ·cases h
  ·cases h
 case index t x i =>
  simp only [evP] at h
  split at h
  ·rename_i l k n hx hi hd
   split at h
   ·rename_i h0
    split at h
    ·rename_i b hb
     cases h
     have hi':=opd_ok hg hF hi
     have hx':=opd_ok hg hF hx
     generalize hz:a.eval i=y at hi'
     generalize hy:a.eval x=u at hx'
     cases hi';cases hx'
     exact .of (by simp only [execOp,hz,hy]) (index_str (k:=k) hT hd h0 hb w)
    ·cases h
   ·cases h
  ·rename_i cs k n len e hx hi hd
   split at h
   ·rename_i ei he
    split at h
    ·rename_i hn
     have hi':=opd_ok hg hF hi
     generalize hz:a.eval i=y at hi'
     cases hi'
     exact .of (by simp only [execOp,hz]) (index_arr (k:=k) hT (opd_ok hg hF hx) hd he hn h w)
    ·cases h
   ·cases h
  ·cases h
 case slice t x lo hi mx =>
  simp only [evP] at h
  split at h
  ·rename_i v' l h' m h1 h2 h3 h4
   exact .of rfl (slice_ok hT (opd_ok hg hF h1) (optI_ok hg hF h2) (optI_ok hg hF h3) (optI_ok hg hF h4) h w)
  ·cases h
 case extract t i =>
  simp only [evP] at h
  split at h
  ·rename_i vs ht
   have ht':=opd_ok hg hF ht
   generalize hz:a.eval t=y at ht'
   cases ht' with
   | tup cs xs hc =>
    obtain ⟨x,hx,hr⟩:=hc.get _ _ h
    rw [Array.getElem?_toList] at hx
    exact ⟨x,by simp [execOp,hz,Instr.extract,hx],hr⟩
  ·cases h
 case typeAssert x t asr ok =>
  simp only [evP] at h
  split at h
  ·cases h
  ·rename_i t' v' d hni hx hd
   split at h
   ·rename_i he
    subst he
    cases h
    have hx':=opd_ok hg hF hx
    generalize hz:a.eval x=y at hx'
    cases hx' with
    | ifc t v x hr =>
     obtain ⟨d',h1,h2⟩:=und_of hT hd
     have:∀ ms,d'≠.interface ms:=by
      rintro ms rfl
      cases d<;>simp [DsOk] at h2
      exact hni rfl
     cases ok
     ·refine ⟨x,?_,hr⟩
      simp only [execOp,hz,Instr.typeAssert,Sem.run_bind,run_underlying h1,Result.andThen_ok]
      split<;>simp_all
     ·refine ⟨.tuple #[x,.bool true],?_,.tup _ _ (.cons _ _ _ _ hr (.cons _ _ _ _ (.bool _) .nil))⟩
      simp only [execOp,hz,Instr.typeAssert,Sem.run_bind,run_underlying h1,Result.andThen_ok]
      split<;>simp_all
   ·cases h
  ·cases h
 case build t parts=>exact .of rfl (build_ok hT hg hF h w)
 case call c =>
  obtain ⟨callee,args,tys⟩:=c
  simp only [evP] at h
  split at h
  ·rename_i v' ha
   have ha':=opds_ok hg hF ha
   cases hm:args.toList.map a.eval with
   | nil=>rw [hm] at ha';cases ha'
   | cons x r =>
    rw [hm] at ha'
    cases ha' with
    | cons _ _ _ _ hx hr =>
     cases hr
     have hargs:args.map a.eval = #[x]:=Array.toList_inj.1 (by rw [Array.toList_map,hm])
     split at h
     ·rename_i t ht
      have fin:∀ n:Nat,(Builtin.len_ tys type #[x]).run P w = .ok (.int .i64 n) w->(execOp a.eval (Oper.mk dst (.call ⟨.builtin .len,args,tys⟩) type pos after guard)).run P w = .ok (.value (.int .i64 n)) w:=fun n hn=>by
       simp [execOp,resolve,invoke,builtin,hargs,hn]
      generalize hdd:descOf T t=dd at h
      unfold lenV at h
      split at h
      ·rename_i b off n c z e
       have hd:=hdd
       cases h
       refine ⟨.int .i64 n,fin n ?_,.int _ _⟩
       cases hx<;>simp [Builtin.len_,ht,run_underlying (und_slice hT hd),goInt]
      ·rename_i l
       have hd:=hdd
       cases h
       refine ⟨.int .i64 l.length,fin _ ?_,.int _ _⟩
       cases hx;simp [Builtin.len_,ht,run_underlying (und_str hT hd),goInt,size_mk]
      ·rename_i e
       have hd:=hdd
       cases h
       refine ⟨.int .i64 ((0:Nat):Int),fin 0 ?_,.int _ _⟩
       cases hx;simp [Builtin.len_,ht,run_underlying (und_slice hT hd),goInt]
      ·rename_i e
       have hd:=hdd
       cases h
       refine ⟨.int .i64 ((0:Nat):Int),fin 0 ?_,.int _ _⟩
       cases hx;simp [Builtin.len_,ht,run_underlying (und_slice hT hd),goInt]
      ·cases h
     ·cases h
  ·rename_i k m k' n ha
   cases h
   have ha':=opds_ok hg hF ha
   cases hm:args.toList.map a.eval with
   | nil=>rw [hm] at ha';cases ha'
   | cons x r =>
    rw [hm] at ha'
    cases ha' with
    | cons _ _ _ _ hx hr =>
     cases hr with
     | cons _ y _ _ hy hr2 =>
      cases hr2
      cases hx;cases hy
      have hargs:args.map a.eval = #[.int k m,.int k' n]:=Array.toList_inj.1 (by rw [Array.toList_map,hm])
      refine ⟨.int k (if n > m then n else m),?_,.int _ _⟩
      simp [execOp,resolve,invoke,builtin,hargs,Builtin.max_,Builtin.max2]
  ·rename_i k m k' n ha
   cases h
   have ha':=opds_ok hg hF ha
   cases hm:args.toList.map a.eval with
   | nil=>rw [hm] at ha';cases ha'
   | cons x r =>
    rw [hm] at ha'
    cases ha' with
    | cons _ _ _ _ hx hr =>
     cases hr with
     | cons _ y _ _ hy hr2 =>
      cases hr2
      cases hx;cases hy
      have hargs:args.map a.eval = #[.int k m,.int k' n]:=Array.toList_inj.1 (by rw [Array.toList_map,hm])
      refine ⟨.int k (if n < m then n else m),?_,.int _ _⟩
      simp [execOp,resolve,invoke,builtin,hargs,Builtin.min_,Builtin.min2]
  ·cases h
 all_goals (simp [evP] at h)
end
end Go.AM
namespace Go.AM
open Go Go.RowKit
def Al (H:Hp) (b:Nat):Prop:=match H.get b with
 | some (.row _ _ _ _)=>b∉H.stale
 | some (.map _ _ _)=>True
 | some (.iter _ _ _ _)=>True
 | _=>False
def Ow (H:Hp) (b:Nat):Prop:=match H.get b with
 | some (.row _ _ ro _)=>ro=false/\b∉H.stale
 | some (.map ro _ _)=>ro=false
 | some (.iter _ _ _ _)=>True
 | _=>False
theorem Ow.al {H:Hp} {b:Nat} (h:Ow H b):Al H b:=by
 unfold Ow at h;unfold Al
 split at h<;>simp_all
structure RowAt (D:Nat->Prop) (s:Sg) (n0:Nat) (w:World) (L:Loc) (e:TypeId) (sz:Nat) (ro:Bool) (cs:List V):Prop where
 hp:∃ (C:Array Value) (et:TypeId) (fz:Nat×Nat),w.heap[L.b]? = some (.cells C et fz)/\L.base+L.cap*sz<=C.size /\
  (∀ i v,cs[i]? = some v->∃ x,C[L.base+i]? = some x/\Rv D s v x)/\(ro=false->(∀ i,L.base<=i->i < L.base+L.cap*sz->¬ (fz.1<=i/\i < fz.2))/\et=e/\L.base=0/\C.size=L.cap*sz)
 size:L.sz=sz
 len:cs.length<=L.cap*sz
 one:cs.all oneV=true
 own:ro=false->n0<=L.b
inductive EsOk (D:Nat->Prop) (s:Sg):List (V×V×Nat)->List MapEntry->Prop
 | nil:EsOk D s [] []
 | cons (k v:V) (n:Nat) (x y:Value) (es:List (V×V×Nat)) (fs:List MapEntry):Rv D s k x->Rv D s v y->EsOk D s es fs->EsOk D s ((k,v,n) :: es) ({ key:=x,val:=y,born:=n } :: fs)
structure Sat (n0:Nat) (w0:World) (D:Nat->Prop) (s:Sg) (H:Hp) (w:World):Prop where
 below:Below n0 w0 w
 row:∀ b e sz ro cs,D b->H.get b=some (.row e sz ro cs)->RowAt D s n0 w (s b) e sz (ro || H.stale.contains b) cs
 map:∀ b ro es c,D b->H.get b=some (.map ro es c)->∃ ents,w.heap[(s b).b]? = some (.map ents c)/\EsOk D s es ents.toList/\(ro=false->n0<=(s b).b)
 iter:∀ b m since seen last,D b->H.get b=some (.iter m since seen last)->w.heap[(s b).b]? = some (.mapIter (m.map fun m=>(s m).b) since seen.toArray last)/\(∀ m',m=some m'->D m')/\(s b).base=0/\n0<=(s b).b
 sep:∀ b b',D b->D b'->b≠b'->Ow H b->Al H b'->(s b).b≠(s b').b
 old:∀ x e sz ro cs b e' sz' cs',D x->x∈H.stale->H.get x=some (.row e sz ro cs)->D b->Ow H b->H.get b=some (.row e' sz' false cs')->(s b).b=(s x).b->(s x).base+cs.length<=(s b).base+cs'.length
def Dn (D:Nat->Prop) (n n' : Nat):Nat->Prop:=fun b=>D b\/(n<=b/\b < n')
structure Step (n0:Nat) (w0:World) (D:Nat->Prop) (s:Sg) (H:Hp) (w:World) (s' : Sg) (H' : Hp) (w' : World):Prop where
 sat:Sat n0 w0 (Dn D H.next H'.next) s' H' w'
 same:∀ b,D b->s' b=s b
 next:H.next<=H'.next
 size:w.heap.size<=w'.heap.size
 frame:∀ k,k < w.heap.size->(∀ b,D b->Ow H b->(s b).b≠k)->w'.heap[k]? = w.heap[k]?
 new:∀ b,H.next<=b->b < H'.next->w.heap.size<=(s' b).b\/∃ c,D c/\Ow H c/\(s c).b=(s' b).b
 ow:∀ b,D b->Ow H' b->Ow H b
section
variable {D D' : Nat->Prop} {s s' : Sg} {n0:Nat} {w0 w w' : World} {H H' : Hp}
theorem EsOk.mono (hD:∀ b,D b->D' b) (hs:∀ b,D b->s' b=s b):∀ {es:List (V×V×Nat)} {fs:List MapEntry},EsOk D s es fs->EsOk D' s' es fs
 | _,_,.nil=>.nil
 | _,_,.cons k v n x y es fs h1 h2 h3=>.cons k v n x y es fs (h1.mono hD hs) (h2.mono hD hs) (EsOk.mono hD hs h3)
theorem RowAt.keep {L:Loc} {e:TypeId} {sz:Nat} {ro:Bool} {cs:List V} (h:RowAt D s n0 w L e sz ro cs) (hD:∀ b,D b->D' b) (hs:∀ b,D b->s' b=s b) (hw:w'.heap[L.b]? = w.heap[L.b]?):RowAt D' s' n0 w' L e sz ro cs:=by
 obtain ⟨⟨C,et,fz,h1,h2,h3,h4⟩,h5,h6,h7,h8⟩:=h
 exact ⟨⟨C,et,fz,by rw [hw];exact h1,h2,fun i v hv=>let ⟨x,hx,hr⟩:=h3 i v hv;⟨x,hx,hr.mono hD hs⟩,h4⟩,h5,h6,h7,h8⟩
theorem RowAt.lt {L:Loc} {e:TypeId} {sz:Nat} {ro:Bool} {cs:List V} (h:RowAt D s n0 w L e sz ro cs):L.b < w.heap.size:=by
 obtain ⟨⟨C,et,fz,h1,_⟩,_⟩:=h
 rcases Nat.lt_or_ge L.b w.heap.size with h | h
 ·exact h
 ·rw [Array.getElem?_eq_none h] at h1;cases h1
theorem lt_of_heap {k:Nat} {o:Obj} (h1:w.heap[k]? = some o):k < w.heap.size:=by
 rcases Nat.lt_or_ge k w.heap.size with h | h
 ·exact h
 ·rw [Array.getElem?_eq_none h] at h1;cases h1
theorem Sat.lt (h:Sat n0 w0 D s H w) {b:Nat} (hD:D b) (ha:Al H b):(s b).b < w.heap.size:=by
 unfold Al at ha
 split at ha
 ·rename_i e;exact (h.row b _ _ _ _ hD e).lt
 ·rename_i e;obtain ⟨_,h1,_⟩:=h.map b _ _ _ hD e;exact lt_of_heap h1
 ·rename_i e;exact lt_of_heap (h.iter b _ _ _ _ hD e).1
 ·cases ha
theorem Sat.owge (h:Sat n0 w0 D s H w) {b:Nat} (hD:D b) (ha:Ow H b):n0<=(s b).b:=by
 unfold Ow at ha
 split at ha
 ·rename_i e;exact (h.row b _ _ _ _ hD e).own (by simp [ha.1,ha.2])
 ·rename_i e;obtain ⟨_,_,_,h3⟩:=h.map b _ _ _ hD e;exact h3 ha
 ·rename_i e;exact (h.iter b _ _ _ _ hD e).2.2.2
 ·cases ha
theorem Step.refl (h:Sat n0 w0 D s H w):Step n0 w0 D s H w s H w:=by
 have e:Dn D H.next H.next=D:=by funext b;simp [Dn];intro h1 h2;omega
 exact ⟨by rw [e];exact h,fun _ _=>rfl,Nat.le_refl _,Nat.le_refl _,fun _ _ _=>rfl,fun b h1 h2=>by omega,fun _ _ h=>h⟩
theorem Step.trans {s1 s2:Sg} {H1 H2:Hp} {w1 w2:World} (h1:Step n0 w0 D s H w s1 H1 w1) (h2:Step n0 w0 (Dn D H.next H1.next) s1 H1 w1 s2 H2 w2):Step n0 w0 D s H w s2 H2 w2:=by
 have hn1:=h1.next
 have hn2:=h2.next
 have e:Dn (Dn D H.next H1.next) H1.next H2.next=Dn D H.next H2.next:=by
  funext b;simp only [Dn,eq_iff_iff]
  constructor
  ·rintro ((h | h) | h)
   ·exact .inl h
   ·exact .inr ⟨h.1,by omega⟩
   ·exact .inr ⟨by omega,h.2⟩
  ·rintro (h | h)
   ·exact .inl (.inl h)
   ·by_cases hb:b < H1.next
    ·exact .inl (.inr ⟨h.1,hb⟩)
    ·exact .inr ⟨by omega,h.2⟩
 have hsz:=h1.size
 refine ⟨by rw [<- e];exact h2.sat,fun b hb=>(h2.same b (.inl hb)).trans (h1.same b hb),by omega,Nat.le_trans h1.size h2.size,fun k hk hf=>?_,fun b hb1 hb2=>?_,fun b hb ho=>h1.ow b hb (h2.ow b (.inl hb) ho)⟩
 ·rw [<- h1.frame k hk hf]
  refine h2.frame k (by omega) fun b hb ho=>?_
  rcases hb with hb | hb
  ·rw [h1.same b hb];exact hf b hb (h1.ow b hb ho)
  ·rcases h1.new b hb.1 hb.2 with h | ⟨c,hc1,hc2,hc3⟩
   ·omega
   ·rw [<- hc3];exact hf c hc1 hc2
 ·by_cases hb:b < H1.next
  ·rw [h2.same b (.inr ⟨hb1,hb⟩)];exact h1.new b hb1 hb
  ·rcases h2.new b (by omega) hb2 with h | ⟨c,hc1,hc2,hc3⟩
   ·left;omega
   ·rcases hc1 with hc1 | hc1
    ·exact .inr ⟨c,hc1,h1.ow c hc1 hc2,by rw [<- h1.same c hc1];exact hc3⟩
    ·rcases h1.new c hc1.1 hc1.2 with h | ⟨d,hd1,hd2,hd3⟩
     ·left;omega
     ·exact .inr ⟨d,hd1,hd2,hd3.trans hc3⟩
theorem Sat.flush (h:Sat n0 w0 D s H w):Sat n0 w0 D s H.flush w:=by
 have hst:=Hp.stale_flush H
 have hget:∀ b o,H.flush.get b=some o->o≠.dead->H.get b=some o/\b∉H.stale:=fun b o hb ho=>by
  rw [Hp.get_flush] at hb
  split at hb
  ·cases hb;exact absurd rfl ho
  ·rename_i hn;exact ⟨hb,hn⟩
 have how:∀ b,Ow H.flush b->Ow H b:=fun b ho=>by
  unfold Ow at ho ⊢
  split at ho
  ·rename_i e;obtain ⟨h1,h2⟩:=hget b _ e (by simp);rw [h1];exact ⟨ho.1,h2⟩
  ·rename_i e;obtain ⟨h1,h2⟩:=hget b _ e (by simp);rw [h1];exact ho
  ·rename_i e;obtain ⟨h1,h2⟩:=hget b _ e (by simp);rw [h1];trivial
  ·cases ho
 have hal:∀ b,Al H.flush b->Al H b:=fun b ho=>by
  unfold Al at ho ⊢
  split at ho
  ·rename_i e;obtain ⟨h1,h2⟩:=hget b _ e (by simp);rw [h1];exact h2
  ·rename_i e;obtain ⟨h1,h2⟩:=hget b _ e (by simp);rw [h1];trivial
  ·rename_i e;obtain ⟨h1,h2⟩:=hget b _ e (by simp);rw [h1];trivial
  ·cases ho
 refine ⟨h.below,fun b e sz ro cs hD hg=>?_,fun b ro es c hD hg=>?_,fun b m si se la hD hg=>?_,fun b b' h1 h2 h3 h4 h5=>h.sep b b' h1 h2 h3 (how b h4) (hal b' h5),fun x e sz ro cs b e' sz' cs' hx hst'=>?_⟩
 ·obtain ⟨h1,h2⟩:=hget b _ hg (by simp)
  have:=h.row b e sz ro cs hD h1
  rw [hst]
  simpa [h2] using this
 ·exact h.map b ro es c hD (hget b _ hg (by simp)).1
 ·exact h.iter b m si se la hD (hget b _ hg (by simp)).1
 ·rw [hst] at hst';cases hst'
theorem Step.flush (h:Sat n0 w0 D s H w):Step n0 w0 D s H w s H.flush w:=by
 have e:Dn D H.next H.flush.next=D:=by rw [Hp.next_flush];funext b;simp [Dn];intro h1 h2;omega
 refine ⟨by rw [e];exact h.flush,fun _ _=>rfl,by rw [Hp.next_flush];exact Nat.le_refl _,Nat.le_refl _,fun _ _ _=>rfl,fun b h1 h2=>by rw [Hp.next_flush] at h2;omega,fun b hb ho=>?_⟩
 unfold Ow at ho ⊢
 rw [Hp.get_flush,Hp.stale_flush] at ho
 by_cases hb:b∈H.stale
 ·simp [hb] at ho
 ·simp only [if_neg hb] at ho
  split at ho<;>simp_all
end
end Go.AM
namespace Go.AM
open Go Go.RowKit
section
variable {T:Tab} {P:Program} {D:Nat->Prop} {s:Sg} {n0:Nat} {w0 w:World} {H:Hp}
theorem RvL.of_get:∀ {vs:List V} {xs:List Value},vs.length=xs.length->(∀ (i:Nat) (v:V),vs[i]? = some v->∃ x,xs[i]? = some x/\Rv D s v x)->RvL D s vs xs
 | [],[],_,_=>.nil
 | [],_ :: _,h,_=>by simp at h
 | _ :: _,[],h,_=>by simp at h
 | v :: vs,x :: xs,h,hg=>by
  obtain ⟨x',hx,hr⟩:=hg 0 v (by simp)
  simp at hx
  subst hx
  exact .cons _ _ _ _ hr (RvL.of_get (by simpa using h) fun i v' hv=>by
   obtain ⟨y,hy,hr'⟩:=hg (i+1) v' (by simpa using hv)
   exact ⟨y,by simpa using hy,hr'⟩)
theorem RowAt.vals {L:Loc} {e:TypeId} {sz:Nat} {ro:Bool} {cs:List V} (h:RowAt D s n0 w L e sz ro cs):∃ xs:List Value,RvL D s cs xs/\∀ i x,xs[i]? = some x->w.cell? ⟨L.b,L.base+i,none⟩=some x:=by
 obtain ⟨⟨C,et,fz,h1,h2,h3,h4⟩,h5,h6,h7,h8⟩:=h
 refine ⟨(C.toList.drop L.base).take cs.length,RvL.of_get ?_ ?_,?_⟩
 ·simp only [List.length_take,List.length_drop,Array.length_toList];omega
 ·intro i v hv
  obtain ⟨x,hx,hr⟩:=h3 i v hv
  have hlt:i < cs.length:=(List.getElem?_eq_some_iff.1 hv).1
  refine ⟨x,?_,hr⟩
  rw [List.getElem?_take,if_pos hlt,List.getElem?_drop,Array.getElem?_toList]
  exact hx
 ·intro i x hx
  rw [List.getElem?_take] at hx
  split at hx
  ·rw [List.getElem?_drop,Array.getElem?_toList] at hx
   simp [World.cell?,h1,hx]
  ·cases hx
theorem load_agg (hT:TabOk T P) {t:TypeId} {i:TI} (hi:T.ty t=some i) (ha:isAgg i.desc=true) (a:Addr) (xs:List Value) (hl:xs.length=i.size) (hc:∀ j x,xs[j]? = some x->w.cell? (a.add j)=some x) :
  (loadVar t a).run P w = .ok (.agg xs.toArray) w:=by
 have:=run_loadCells_list (P:=P) (w:=w) a xs hc
 simp [loadVar,agg_of hT hi,ha,size_of hT hi,<- hl,this]
theorem load_ok (hT:TabOk T P) (hS:Sat n0 w0 D s H w) {t:TypeId} {b off:Nat} {x:Value} {e:TypeId} {sz:Nat} {ro:Bool} {cs:List V} {v:V} (hx:Rv D s (.ptr b off) x) (hg:H.get b=some (.row e sz ro cs)) (h:partV T t cs off=some v) :
  Cm D s ((Instr.loadAt t x).run P w) w v:=by
 cases hx with
 | ptr b off hD =>
  obtain ⟨xs,hr,hc⟩:=(hS.row b e sz ro cs hD hg).vals
  have hone:=(hS.row b e sz ro cs hD hg).one
  unfold partV at h
  split at h
  ·rename_i i hi
   split at h
   ·rename_i ha
    split at h
    ·rename_i hl
     cases h
     have hlen:=hr.length
     refine .mk (.agg _ ((xs.drop off).take i.size).toArray (by simpa using (hr.drop off).take i.size) ?_) ?_
     ·rw [List.all_eq_true] at hone ⊢
      exact fun c hc=>hone c (List.mem_of_mem_drop (List.mem_of_mem_take hc))
     ·simp only [Instr.loadAt,Instr.sureAddr,Sem.run_bind,Sem.run_pure,Result.andThen_ok]
      refine load_agg hT hi ha _ _ (by simp only [List.length_take,List.length_drop];omega) fun j y hy=>?_
      rw [List.getElem?_take] at hy
      split at hy
      ·rw [List.getElem?_drop] at hy
       rw [add_off]
       exact hc _ _ hy
      ·cases hy
    ·cases h
   ·rename_i ha
    obtain ⟨y,hy,hr'⟩:=hr.get _ _ h
    refine .mk hr' ?_
    simp [Instr.loadAt,Instr.sureAddr,loadVar,agg_of hT hi,ha,hc _ _ hy]
  ·cases h
theorem sameNow_ok {t:TypeId} {d:TypeDesc} (hT:TabOk T P) {k k' : V} {x x' : Value} {b:Bool} (hk:keyOk1 T t k=true) (hu:P.underlying t=some d) (hx:Rv D s k x) (hx' : Rv D s k' x') (h:sameK k k' = some b):Instr.sameNow d x x' = some b:=by
 cases k<;>simp [keyOk1] at hk
 case bool a =>
  split at hk<;>try (cases hk;done)
  rename_i hd
  obtain ⟨d',e1,e2⟩:=und_of hT hd
  rw [hu] at e1;cases e1
  cases d<;>simp [DsOk] at e2
  cases k'<;>simp [sameK,same1] at h
  cases hx;cases hx';subst h;rfl
 case int kk n =>
  split at hk<;>try (cases hk;done)
  rename_i hd
  obtain ⟨d',e1,e2⟩:=und_of hT hd
  rw [hu] at e1;cases e1
  cases d<;>simp [DsOk] at e2
  cases k'<;>simp [sameK,same1] at h
  cases hx;cases hx';obtain ⟨rfl,rfl⟩:=h;simp [Instr.sameNow]
 case str l =>
  split at hk<;>try (cases hk;done)
  rename_i hd
  obtain ⟨d',e1,e2⟩:=und_of hT hd
  rw [hu] at e1;cases e1
  cases d<;>simp [DsOk] at e2
  cases k'<;>simp [sameK,same1] at h
  cases hx;cases hx';subst h
  simp only [Instr.sameNow,beq_toListBytes,toList_mk]
theorem findNow_ok {t:TypeId} {d:TypeDesc} (hT:TabOk T P) {k:V} {x:Value} (hk:keyOk1 T t k=true) (hu:P.underlying t=some d) (hx:Rv D s k x):∀ {es:List (V×V×Nat)} {fs:List MapEntry} (i:Nat) {r:Option (Nat×V)},EsOk D s es fs->findE k es i=some r ->
  (match r with | none=>Instr.findNow d x fs i=some none | some (j,v)=>∃ y,Instr.findNow d x fs i=some (some (j,y))/\Rv D s v y)
 | _,_,i,r,.nil,h=>by simp only [findE] at h;cases h;rfl
 | _,_,i,r,.cons k' v n x' y es fs h1 h2 h3,h=>by
  simp only [findE] at h
  split at h
  ·rename_i hs
   cases h
   exact ⟨y,by simp [Instr.findNow,sameNow_ok hT hk hu hx h1 hs],h2⟩
  ·rename_i hs
   have:=findNow_ok hT hk hu hx (i+1) h3 h
   simp only [Instr.findNow,sameNow_ok hT hk hu hx h1 hs]
   exact this
  ·cases h
theorem checkKey_ok {t:TypeId} (hT:TabOk T P) {k:V} {x:Value} (hk:keyOk1 T t k=true) (hx:Rv D s k x) (e:Bool) (n:Nat):(Instr.checkKey e (n+1) t x).run P w = .ok () w:=by
 cases k<;>simp [keyOk1] at hk
 all_goals
  split at hk<;>try (cases hk;done)
  rename_i hd
  obtain ⟨d',e1,e2⟩:=und_of hT hd
  cases hx
  cases d'<;>simp [DsOk] at e2
  simp [Instr.checkKey,run_underlying e1]
theorem checkFields_ok (hT:TabOk T P) (em:Bool) (n:Nat) {xs:Array Value} (w:World):∀ (fs:List Field) (m:Nat) (cs:List V),keyOkL T (fs.map fun f=>(f.offset,f.type)) cs m=true->(∀ i v,cs[i]? = some v->∃ x,xs[m+i]? = some x/\Rv D s v x) ->
  (forIn fs PUnit.unit (fun f (r:PUnit)=>(do
   if f.name ≠ "_" then do
    let y <- part f.type xs f.offset
    Instr.checkKey em (n+1) f.type y
    pure (ForInStep.yield PUnit.unit)
   else do
    pure (ForInStep.yield PUnit.unit):Sem (ForInStep PUnit)))).run P w = .ok PUnit.unit w
 | [],_,_,_,_=>by simp
 | f :: fs,m,[],hk,_=>by simp [keyOkL] at hk
 | f :: fs,m,v :: cs,hk,hx=>by
  simp only [List.map_cons,keyOkL,Bool.and_eq_true,beq_iff_eq] at hk
  obtain ⟨⟨e,hk1⟩,hk2⟩:=hk
  subst e
  obtain ⟨x,hx1,hx2⟩:=hx 0 v (by simp)
  simp only [Nat.add_zero] at hx1
  have ih:=checkFields_ok hT em n w fs (f.offset+1) cs hk2 (fun i u hu=>by have:=hx (i+1) u (by simpa using hu);rwa [show f.offset+(i+1)=f.offset+1+i from by omega] at this)
  rw [List.forIn_cons]
  by_cases hn : f.name ≠ "_"
  ·simp only [if_pos hn,Sem.run_bind,part_leaf hT hk1 hx1,checkKey_ok hT hk1 hx2,Result.andThen_ok,Sem.run_pure]
   exact ih
  ·simp only [if_neg hn,Sem.run_bind,Result.andThen_ok,Sem.run_pure]
   exact ih
theorem keyOk_check {t:TypeId} (hT:TabOk T P) {k:V} {x:Value} (hk:keyOk T t k=true) (hx:Rv D s k x) (e:Bool) (n:Nat):(Instr.checkKey e (n+2) t x).run P w = .ok () w:=by
 cases k
 case agg cs =>
  obtain ⟨fs,hu,_,_,hkl⟩:=keyOkS_parts hT hk
  cases hx with
  | agg _ xs hx _ =>
   have:=checkFields_ok hT e n (xs:=xs) w fs.toList 0 cs hkl (fun i v hv=>by obtain ⟨x,h1,h2⟩:=hx.get i v hv;exact ⟨x,by simpa using h1,h2⟩)
   rw [Instr.checkKey]
   simp only [Sem.run_bind,run_underlying hu,Result.andThen_ok]
   rw [<- Array.forIn_toList]
   simp only [this,Result.andThen_ok,Sem.run_pure]
 all_goals exact checkKey_ok hT (by simpa [keyOk] using hk) hx e (n+1)
theorem findAsking_ok (hT:TabOk T P) {t:TypeId} {cs:List V} {x:Value} (hk:keyOkS T t cs=true) (hx:Rv D s (.agg cs) x):∀ {es:List (V×V×Nat)} {fs:List MapEntry} (i:Nat) {r:Option (Nat×V)},EsOk D s es fs->findE (.agg cs) es i=some r ->
  (match r with | none=>(Instr.findAsking t x fs i).run P w = .ok none w | some (j,v)=>∃ y,(Instr.findAsking t x fs i).run P w = .ok (some (j,y)) w/\Rv D s v y)
 | _,_,i,r,.nil,h=>by simp only [findE] at h;cases h;simp [Instr.findAsking]
 | _,_,i,r,.cons k' v n x' y es fs h1 h2 h3,h=>by
  have key:∀ b,sameK (.agg cs) k' = some b->(Op.equal t x x').run P w = .ok b w:=fun b hb=>by
   cases k'<;>simp [sameK,same1] at hb
   exact (eqS_ok hT (r:=b) (by unfold eqS;rw [if_pos hk];exact hb) hx h1 9998 w).1
  simp only [findE] at h
  split at h
  ·rename_i hs
   cases h
   exact ⟨y,by simp [Instr.findAsking,key _ hs],h2⟩
  ·rename_i hs
   have ih:=findAsking_ok hT hk hx (i+1) h3 h
   simp only [Instr.findAsking,Sem.run_bind,key _ hs,Result.andThen_ok,Bool.false_eq_true,if_false]
   exact ih
  ·cases h
theorem findNow_agg {d:TypeDesc} {xs:Array Value}:∀ (fs:List MapEntry) (i:Nat),Instr.findNow d (.agg xs) fs i=if fs.isEmpty then some none else none
 | [],i=>rfl
 | f :: fs,i=>by cases d<;>simp [Instr.findNow,Instr.sameNow]
theorem findKey_ok (hT:TabOk T P) {t:TypeId} {k:V} {x:Value} (hk:keyOk T t k=true) (hx:Rv D s k x) {es:List (V×V×Nat)} {fs:List MapEntry} {r:Option (Nat×V)} (he:EsOk D s es fs) (h:findE k es 0=some r) :
  (match r with | none=>(Instr.findKey t x fs).run P w = .ok none w | some (j,v)=>∃ y,(Instr.findKey t x fs).run P w = .ok (some (j,y)) w/\Rv D s v y):=by
 by_cases ha:∃ cs,k = .agg cs
 ·obtain ⟨cs,rfl⟩:=ha
  obtain ⟨fd,hu,_,_,_⟩:=keyOkS_parts hT hk
  have h0:=findAsking_ok (w:=w) hT hk hx 0 he h
  have e:(Instr.findKey t x fs).run P w=(Instr.findAsking t x fs 0).run P w:=by
   cases hx with
   | agg _ xs _ _ =>
    cases fs with
    | nil=>simp [Instr.findKey,run_underlying hu,findNow_agg,Instr.findAsking]
    | cons f fs=>simp [Instr.findKey,run_underlying hu,findNow_agg]
  rw [e]
  cases r<;>exact h0
 ·have hk1:keyOk1 T t k=true:=by cases k<;>simp_all [keyOk]
  obtain ⟨d,hu⟩:∃ d,P.underlying t=some d:=by
   cases k<;>simp [keyOk1] at hk1
   all_goals
    split at hk1<;>try (cases hk1;done)
    rename_i hd
    obtain ⟨d',e1,_⟩:=und_of hT hd
    exact ⟨d',e1⟩
  have:=findNow_ok hT hk1 hu hx 0 he h
  cases r with
  | none=>simp [Instr.findKey,run_underlying hu,this]
  | some p =>
   obtain ⟨j,v⟩:=p
   obtain ⟨y,h1,h2⟩:=this
   exact ⟨y,by simp [Instr.findKey,run_underlying hu,h1],h2⟩
theorem zeroV_ok (hT:TabOk T P) {t:TypeId} {i:TI} {z:V} (hi:T.ty t=some i) (h:zeroV i=some z):∃ x,(zeroValue t).run P w = .ok x w/\Rv D s z x:=by
 obtain ⟨inf,d,zz,e1,e2,e3,e4,e5,e6,e7,e8,e9⟩:=ti_parts hT hi
 obtain ⟨z1,z2⟩:=zero_rv (D:=D) (s:=s) e7
 refine ⟨zz,by simp [zeroValue,typeInfo,e1,e6],?_⟩
 unfold zeroV at h
 split at h
 ·rename_i ha
  rw [e8] at ha
  cases h
  cases zz<;>simp at ha
  exact .agg _ _ z1 z2
 ·rename_i ha
  rw [e8] at ha
  split at h
  ·rename_i z' hz
   cases h
   rw [hz] at z1
   have hc:zz.cells = #[zz]:=by cases zz<;>simp_all [Value.cells]
   rw [hc] at z1
   cases z1
   assumption
  ·cases h
theorem lookup_ok (hT:TabOk T P) (hS:Sat n0 w0 D s H w) {t kt e:TypeId} {ei:TI} {m k v:V} {x y:Value} {ok:Bool} {es:List (V×V×Nat)} (hx:Rv D s m x) (hy:Rv D s k y) (hd:descOf T t=some (.map kt e)) (hk:keyOk T kt k=true) (he:T.ty e=some ei) (hes:esOf H.get m=some es)
  (h:(match findE k es 0 with
    | some (some (_,v))=>some (if ok then V.tup [v,.bool true] else v)
    | some none=>(match zeroV ei with
     | some z=>some (if ok then V.tup [z,.bool false] else z)
     | none=>none)
    | none=>none)=some v):Cm D s ((Instr.lookup t x y ok).run P w) w v:=by
 have hu:=und_map hT hd
 have hck:∀ b:Bool,(Instr.checkKey b 10000 kt y).run P w = .ok () w:=fun b=>keyOk_check hT hk hy b 9998
 -- the entries
 have hent:∃ fs:Array MapEntry,EsOk D s es fs.toList/\((x = .map none/\fs = #[])\/∃ r c,x = .map (some r)/\w.heap[r]? = some (.map fs c)):=by
  unfold esOf at hes
  split at hes
  ·cases hes;cases hx;exact ⟨#[],.nil,.inl ⟨rfl,rfl⟩⟩
  ·rename_i b
   split at hes
   ·rename_i ro es' c hg
    cases hes
    cases hx with
    | mp b hD =>
     obtain ⟨ents,h1,h2,_⟩:=hS.map b _ _ _ hD hg
     exact ⟨ents,h2,.inr ⟨_,_,rfl,h1⟩⟩
   ·cases hes
  ·cases hes
 obtain ⟨fs,hfs,hx'⟩:=hent
 have go1:∀ {z:Value} {j:Nat},(Instr.findKey kt y fs.toList).run P w = .ok (some (j,z)) w->(Instr.lookup t x y ok).run P w = .ok (if ok then .tuple #[z,.bool true] else z) w:=by
  intro z j h1
  rcases hx' with ⟨rfl,rfl⟩ | ⟨r,c,rfl,hr⟩
  ·simp at h1;simp [Instr.lookup,run_underlying hu,hck,h1]
  ·simp [Instr.lookup,run_underlying hu,hck,h1,getObj,Sem.run,hr]
 have go0:∀ {z:Value},(Instr.findKey kt y fs.toList).run P w = .ok none w->(zeroValue e).run P w = .ok z w->(Instr.lookup t x y ok).run P w = .ok (if ok then .tuple #[z,.bool false] else z) w:=by
  intro z h1 h2
  rcases hx' with ⟨rfl,rfl⟩ | ⟨r,c,rfl,hr⟩
  ·simp at h1;simp [Instr.lookup,run_underlying hu,hck,h1,h2]
  ·simp [Instr.lookup,run_underlying hu,hck,h1,getObj,Sem.run,hr,h2]
 split at h
 ·rename_i j v' hf
  obtain ⟨z,h1,h2⟩:=findKey_ok (w:=w) hT hk hy hfs hf
  have h3:=go1 (z:=z) h1
  cases h
  cases ok
  ·exact .mk h2 h3
  ·exact .mk (x:=.tuple #[z,.bool true]) (.tup _ _ (.cons _ _ _ _ h2 (.cons _ _ _ _ (.bool _) .nil))) h3
 ·rename_i hf
  have h1:=findKey_ok (w:=w) hT hk hy hfs hf
  dsimp only at h1
  split at h
  ·rename_i zv hz
   obtain ⟨z,h3,h4⟩:=zeroV_ok (w:=w) (D:=D) (s:=s) hT he hz
   have h5:=go0 (z:=z) h1 h3
   cases h
   cases ok
   ·exact .mk h4 h5
   ·exact .mk (x:=.tuple #[z,.bool false]) (.tup _ _ (.cons _ _ _ _ h4 (.cons _ _ _ _ (.bool _) .nil))) h5
  ·cases h
 ·cases h
theorem bytes_ok:∀ {cs:List V} {xs:List Value} {l:List UInt8},RvL D s cs xs->bytesOf cs=some l->∃ ns:List Int,xs=ns.map (Value.int .u8)/\l=ns.map fun n=>UInt8.ofNat n.toNat
 | _,_,l,.nil,h=>by simp only [bytesOf] at h;cases h;exact ⟨[],rfl,rfl⟩
 | _,_,l,.cons v x vs xs h1 h2,h=>by
  unfold bytesOf at h
  split at h
  ·rename_i e;cases e
  ·rename_i n r e
   cases e
   split at h
   ·rename_i l' hl
    obtain ⟨ns,e1,e2⟩:=bytes_ok h2 hl
    cases h;cases h1
    exact ⟨n :: ns,by simp [e1],by simp [e2]⟩
   ·cases h
  ·cases h
theorem conv_ok (hT:TabOk T P) (hS:Sat n0 w0 D s H w) {sr ds e:TypeId} {v:V} {x:Value} {l:List UInt8} (hx:Rv D s v x) (hs:descOf T sr=some (.slice e)) (he:descOf T e=some (.int .u8)) (hd:descOf T ds=some .str)
  (h:bytesR H.get v=some l):Cm D s ((convert sr ds x).run P w) w (.str l):=by
 have hu:=und_slice hT hs
 have hue:=und_int hT he
 have hud:=und_str hT hd
 unfold bytesR at h
 split at h
 ·cases h;cases hx
  refine .mk (.str []) ?_
  rw [run_convert_bytes_string w sr ds e _ _ _ hu hue hud]
  simp [Conv.bytesToString]
  rfl
 ·cases h;cases hx
  refine .mk (.str []) ?_
  rw [run_convert_bytes_string w sr ds e _ _ _ hu hue hud]
  rw [run_bytesToString w _ 0 _ [] (by simp [loadCells,loadCellsFrom])]
  rfl
 ·rename_i b off len c z
  split at h
  ·rename_i e' ro cs hg
   split at h
   ·rename_i hl
    have hD:D b:=by cases hx<;>assumption
    obtain ⟨xs,hr,hc⟩:=(hS.row b _ _ _ _ hD hg).vals
    obtain ⟨ns,e1,e2⟩:=bytes_ok ((hr.drop off).take len) h
    have hlen:ns.length=len:=by
     have:=congrArg List.length e1
     have hxl:=hr.length
     simp only [List.length_take,List.length_drop,List.length_map] at this
     omega
    have hload:(loadCells ⟨(s b).b,(s b).base+off,none⟩ len).run P w = .ok (ns.map (Value.int .u8)).toArray w:=by
     rw [<- e1]
     have:=run_loadCells_list (P:=P) (w:=w) ⟨(s b).b,(s b).base+off,none⟩ ((xs.drop off).take len) (fun j y hy=>by
      rw [List.getElem?_take] at hy
      split at hy
      ·rw [List.getElem?_drop] at hy
       rw [add_off]
       exact hc _ _ hy
      ·cases hy)
     have hl2:((xs.drop off).take len).length=len:=by rw [e1];simpa using hlen
     rw [hl2] at this
     exact this
    refine .mk (.str _) ?_
    subst e2
    cases hx<;>(rw [run_convert_bytes_string w sr ds e _ _ _ hu hue hud,run_bytesToString w _ _ _ ns hload,foldl_push_bytes];simp)
   ·cases h
  ·cases h
 ·cases h
theorem args1 {F:Fr} {a:Act} (hg:GlOk T.ng D s) (hF:FrOk D s F a) {args:Array Operand} {v:V} (h:opds T.ng F args.toList=some [v]):∃ x,args.map a.eval = #[x]/\Rv D s v x:=by
 have ha':=opds_ok hg hF h
 cases hm:args.toList.map a.eval with
 | nil=>rw [hm] at ha';cases ha'
 | cons x r =>
  rw [hm] at ha'
  cases ha' with
  | cons _ _ _ _ hx hr =>
   cases hr
   exact ⟨x,Array.toList_inj.1 (by rw [Array.toList_map,hm]),hx⟩
theorem args2 {F:Fr} {a:Act} (hg:GlOk T.ng D s) (hF:FrOk D s F a) {args:Array Operand} {v v' : V} (h:opds T.ng F args.toList=some [v,v']):∃ x y,args.map a.eval = #[x,y]/\Rv D s v x/\Rv D s v' y:=by
 have ha':=opds_ok hg hF h
 cases hm:args.toList.map a.eval with
 | nil=>rw [hm] at ha';cases ha'
 | cons x r =>
  rw [hm] at ha'
  cases ha' with
  | cons _ _ _ _ hx hr =>
   cases hr with
   | cons _ y _ _ hy hr2 =>
    cases hr2
    exact ⟨x,y,Array.toList_inj.1 (by rw [Array.toList_map,hm]),hx,hy⟩
theorem EsOk.length:∀ {es:List (V×V×Nat)} {fs:List MapEntry},EsOk D s es fs->es.length=fs.length
 | _,_,.nil=>rfl
 | _,_,.cons k v n x y es fs h1 h2 h3=>by simp [EsOk.length h3]
theorem EsOk.find:∀ {es:List (V×V×Nat)} {fs:List MapEntry} {st:Nat} {e:V×V×Nat},EsOk D s es fs->es.find? (fun e=>e.2.2==st)=some e->∃ f,fs.find? (fun f=>f.born==st)=some f/\Rv D s e.1 f.key/\Rv D s e.2.1 f.val
 | _,_,st,e,.nil,h=>by simp at h
 | _,_,st,e,.cons k v n x y es fs h1 h2 h3,h=>by
  rw [List.find?_cons] at h
  by_cases hn:n=st
  ·simp [hn] at h
   subst h
   exact ⟨_,by rw [List.find?_cons];simp [hn];rfl,h1,h2⟩
  ·have hn' : (n==st)=false:=by simpa using hn
   simp only [hn'] at h
   obtain ⟨f,g1,g2⟩:=EsOk.find h3 h
   exact ⟨f,by rw [List.find?_cons];simp only [hn'];exact g1,g2⟩
theorem evR_ok (hT:TabOk T P) {F:Fr} {a:Act} (hg:GlOk T.ng D s) (hF:FrOk D s F a) (hS:Sat n0 w0 D s H w) (o:Oper) {v:V} (hk:kind T o.op = .r) (h:evR T o.op F H.get=some v):Ev P D s a o w v:=by
 obtain ⟨dst,op,type,pos,after,guard⟩:=o
 dsimp only at hk h
 cases op
 case load t x =>
  simp only [evR] at h
  split at h
  ·rename_i b off hx
   split at h
   ·rename_i e sz ro cs hb
    exact .of rfl (load_ok hT hS (opd_ok hg hF hx) hb h)
   ·cases h
  ·cases h
 case lookup t x i ok =>
  simp only [evR] at h
  split at h
  ·rename_i m k kt e h1 h2 h3
   split at h
   ·cases h
   ·rename_i hko
    split at h
    ·rename_i ei es h4 h5
     exact .of rfl (lookup_ok hT hS (opd_ok hg hF h1) (opd_ok hg hF h2) h3 (by simpa using hko) h4 h5 h)
    ·cases h
  ·cases h
 case convert sr ds x =>
  simp only [evR] at h
  split at h
  ·rename_i v' e h1 h2 h3
   split at h
   ·rename_i l h4 h5
    cases h
    exact .of rfl (conv_ok hT hS (opd_ok hg hF h1) h2 h4 h3 h5)
   ·cases h
  ·cases h
 case call c =>
  obtain ⟨callee,args,tys⟩:=c
  simp only [evR] at h
  split at h
  ·rename_i v' t h1 h2
   split at h
   ·rename_i kt e es h3 h4
    cases h
    have hu:=und_map hT h3
    obtain ⟨x,hargs,hx⟩:=args1 hg hF h1
    have hc:callee = .builtin .len:=by
     simp only [kind] at hk
     split at hk<;>first | rfl | (cases hk;done) | (split at hk<;>cases hk)
    subst hc
    refine ⟨.int .i64 es.length,?_,.int _ _⟩
    have hlen:(Builtin.len_ tys type #[x]).run P w = .ok (.int .i64 es.length) w:=by
     unfold esOf at h4
     split at h4
     ·cases h4;cases hx;simp [Builtin.len_,h2,run_underlying hu,goInt]
     ·rename_i b
      split at h4
      ·rename_i ro es' c hg'
       cases h4
       cases hx with
       | mp b hD =>
        obtain ⟨ents,e1,e2,_⟩:=hS.map b _ _ _ hD hg'
        have hl:=e2.length
        simp at hl
        simp [Builtin.len_,h2,run_underlying hu,goInt,getObj,Sem.run,e1,hl]
      ·cases h4
     ·cases h4
    simp [execOp,resolve,invoke,builtin,hargs,hlen]
   ·cases h
  ·cases h
 case slice t x lo hi mx =>
  simp only [evR] at h
  split at h
  ·rename_i b off n e hx hd
   split at h
   ·rename_i e' sz ro cs i hb hi
    split at h
    ·rename_i hc
     obtain ⟨c1,c2,c3,c4⟩:=hc
     cases h
     have hx':=opd_ok hg hF hx
     generalize hz:a.eval x=y at hx'
     cases hx' with
     | ptr _ _ hD =>
      have hrow:=hS.row b _ _ _ _ hD hb
      have hsz:(s b).sz=sz:=hrow.size
      have hcap:cs.length<=(s b).cap*sz:=hrow.len
      have hu:=und_arr hT hd
      have hn:off / sz+n<=(s b).cap:=by
       have h1:off+n*sz<=(s b).cap*sz:=Nat.le_trans c4 hcap
       have h2:off=off / sz*sz:=by
        have:=Nat.div_add_mod off sz
        rw [c3,Nat.add_zero,Nat.mul_comm] at this
        exact this.symm
       rw [h2,<- Nat.add_mul] at h1
       exact Nat.le_of_mul_le_mul_right h1 c2
      refine ⟨.slice (some ⟨(s b).b,(s b).base+off,none⟩) n n,?_,.slc b off n n sz hD hsz c2 c3 (Nat.le_refl _) hn⟩
      have hs:=size_of hT hi w
      simp [execOp,hz,Instr.sliceAt,run_underlying hu,Instr.sureAddr,Instr.sliceBounds,Instr.sliceBound,hs]
      first | (intro _;rfl) | (intro _;simp [Addr.add]) | (intro _;unfold Addr.add;split<;>simp_all)
    ·cases h
   ·cases h
  ·cases h
 all_goals (simp [evR] at h)
end
end Go.AM
namespace Go.AM
open Go Go.RowKit
section
variable {T:Tab} {P:Program} {D:Nat->Prop} {s:Sg} {n0:Nat} {w0 w:World} {H:Hp}
theorem run_store1 {g off:Nat} {C:Array Value} {et:TypeId} {fz:Nat×Nat} (hg:w.heap[g]? = some (.cells C et fz)) (hlt:off < C.size) (hf:¬ (fz.1<=off/\off < fz.2)) {v:Value} (hv:v.oneCell' = true) :
  (store ⟨g,off,none⟩ v .plain).run P w = .ok () (w.setRow g (C.setIfInBounds off v)):=by
 have hc:w.cell? ⟨g,off,none⟩=some C[off]:=by simp [World.cell?,hg,hlt]
 have hfr:w.frozen? ⟨g,off,none⟩=false:=by
  simp only [World.frozen?,hg]
  by_cases h1:fz.1<=off
  ·have:¬ off < fz.2:=fun h2=>hf ⟨h1,h2⟩
   simp [this]
  ·simp [h1]
 rw [run_store P w _ v .plain hv]
 simp [hc,hfr]
 exact setCell_eq_setRow w g off C et fz v hg
theorem run_storeCells (P:Program):∀ (xs:List Value) (w:World) (g base i:Nat) (C:Array Value) (et:TypeId) (fz:Nat×Nat),w.heap[g]? = some (.cells C et fz)->base+i+xs.length<=C.size ->
  (∀ j,base+i<=j->j < base+i+xs.length->¬ (fz.1<=j/\j < fz.2))->(∀ x∈xs,Value.oneCell' x=true) ->
  (storeCells ⟨g,base,none⟩ xs i).run P w = .ok () (w.setRow g (setL C.toList (base+i) xs).toArray)
 | [],w,g,base,i,C,et,fz,hg,_,_,_=>by
  simp only [storeCells,setL]
  rw [show C.toList.toArray=C from by simp,setRow_self w g C et fz hg]
  rfl
 | x :: xs,w,g,base,i,C,et,fz,hg,hl,hf,h1=>by
  simp only [List.length_cons] at hl hf
  have hs:=run_store1 (P:=P) (off:=base+i) hg (by omega) (hf (base+i) (by omega) (by omega)) (h1 x (by simp))
  have hadd:(Addr.mk g base none).add i=⟨g,base+i,none⟩:=by
   have:=add_off g base 0 i
   simpa using this
  have hg':=setRow_heap w g C (C.setIfInBounds (base+i) x) et fz hg
  have ih:=run_storeCells P xs (w.setRow g (C.setIfInBounds (base+i) x)) g base (i+1) (C.setIfInBounds (base+i) x) et fz hg' (by simp;omega) (fun j h2 h3=>hf j (by omega) (by omega)) (fun y hy=>h1 y (by simp [hy]))
  simp only [storeCells,Sem.run_bind,hadd,hs,Result.andThen_ok,ih,setRow_setRow,setL,Array.toList_setIfInBounds]
  rfl
theorem size_setL {α:Type} (C:Array α) (off:Nat) (l:List α):(setL C.toList off l).toArray.size=C.size:=by simp [setL_length]
theorem setL_get {α:Type}:∀ (l cs:List α) (off i:Nat),off+l.length<=cs.length->(setL cs off l)[i]? = if off<=i/\i < off+l.length then l[i-off]? else cs[i]?
 | [],cs,off,i,_=>by simp [setL];intro h1 h2;omega
 | v :: r,cs,off,i,h=>by
  simp only [List.length_cons] at h
  rw [setL,setL_get r _ _ _ (by simp;omega)]
  by_cases h1:off+1<=i/\i < off+1+r.length
  ·rw [if_pos h1,if_pos (by simp only [List.length_cons];omega)]
   obtain ⟨k,rfl⟩:∃ k,i=off+1+k:=⟨i-(off+1),by omega⟩
   rw [show off+1+k-(off+1)=k from by omega,show off+1+k-off=k+1 from by omega]
   simp
  ·rw [if_neg h1]
   by_cases h2:i=off
   ·subst h2
    rw [if_pos (by simp only [List.length_cons];omega),List.getElem?_set_self (by omega),Nat.sub_self]
    rfl
   ·rw [if_neg (by simp only [List.length_cons];omega),List.getElem?_set_ne (by omega)]
def upd (s:Sg) (b:Nat) (L:Loc):Sg:=fun c=>if c=b then L else s c
theorem upd_ne (s:Sg) {b c:Nat} (L:Loc) (h:c≠b):upd s b L c=s c:=by simp [upd,h]
theorem upd_self (s:Sg) (b:Nat) (L:Loc):upd s b L b=L:=by simp [upd]
structure Plus (w w' : World) (o:Obj):Prop where
 os:w'.os=w.os
 tape:w'.tape=w.tape
 output:w'.output=w.output
 size:w'.heap.size=w.heap.size+1
 new:w'.heap[w.heap.size]? = some o
 old:∀ k,k < w.heap.size->w'.heap[k]? = w.heap[k]?
theorem Plus.alloc (w:World) (o:Obj):Plus w (w.alloc o) o:=⟨rfl,rfl,rfl,by simp,Go.heap_alloc_new w o,fun k hk=>Go.heap_alloc_old w o hk⟩
theorem Plus.drew (w:World) (o:Obj):Plus w (w.drew.alloc o) o:=⟨rfl,rfl,rfl,by simp,Go.heap_alloc_new w.drew o,fun k hk=>Go.heap_alloc_old w.drew o hk⟩
theorem Plus.below {w w' : World} {o:Obj} (h:Plus w w' o) {B:Nat} {w0:World} (hb:Below B w0 w) (hB:B<=w0.heap.size):Below B w0 w' :=
 hb.trans ⟨h.os,h.tape,h.output,by rw [h.size];omega,fun k hk=>h.old k (Nat.lt_of_lt_of_le hk (Nat.le_trans hB hb.size))⟩
section
variable {w' : World} {o:Obj} {L:Loc} {ob:Ob}
theorem step_new (hS:Sat n0 w0 D s H w) (hn:n0<=w0.heap.size) (hf:¬ D H.next) (hp:Plus w w' o) (hL:L.b=w.heap.size)
  (hrow:∀ e sz ro cs,ob = .row e sz ro cs->RowAt (Dn D H.next (H.next+1)) (upd s H.next L) n0 w' L e sz ro cs/\ro=false)
  (hmap:∀ ro es c,ob = .map ro es c->∃ ents,o = .map ents c/\EsOk (Dn D H.next (H.next+1)) (upd s H.next L) es ents.toList/\ro=false)
  (hit:∀ m si se la,ob = .iter m si se la->o = .mapIter (m.map fun m=>(s m).b) si se.toArray la/\(∀ m',m=some m'->D m')/\L.base=0)
  (hst:H.next∉H.stale)
  (stl:List Nat) (hstl:∀ x,x∈stl->x∈H.stale\/D x/\Ow H x) (hsub:∀ x,x∈H.stale->x∈stl) (hstn:H.next∉stl) :
  Step n0 w0 D s H w (upd s H.next L) { H.new ob with stale:=stl } w':=by
 have hs:∀ b,D b->upd s H.next L b=s b:=fun b hb=>upd_ne _ _ (fun e=>hf (e ▸ hb))
 have hD:∀ b,D b->Dn D H.next (H.next+1) b:=fun b hb=>.inl hb
 have hget:∀ b,({ H.new ob with stale:=stl }:Hp).get b=if b=H.next then some ob else H.get b:=fun b=>Hp.get_new H b ob
 have hbn:n0<=w.heap.size:=Nat.le_trans hn hS.below.size
 have hne:∀ b,D b->b≠H.next:=fun b hb e=>hf (e ▸ hb)
 have how:∀ b,D b->Ow ({ H.new ob with stale:=stl }:Hp) b->Ow H b:=fun b hb ho=>by
  unfold Ow at ho ⊢
  rw [hget,if_neg (hne b hb)] at ho
  split at ho
  ·exact ⟨ho.1,fun h=>ho.2 (hsub b h)⟩
  ·exact ho
  ·trivial
  ·cases ho
 have hal:∀ b,D b->Al ({ H.new ob with stale:=stl }:Hp) b->Al H b:=fun b hb ho=>by
  unfold Al at ho ⊢
  rw [hget,if_neg (hne b hb)] at ho
  split at ho
  ·exact fun h=>ho (hsub b h)
  ·trivial
  ·trivial
  ·cases ho
 have hlive:∀ b,D b->(∃ o',H.get b=some o'/\(match o' with | .dead=>False | _=>True))->(s b).b < w.heap.size:=fun b hb ⟨o',e,h⟩=>by
  cases o' with
  | row e' sz ro cs=>exact (hS.row b _ _ _ _ hb e).lt
  | map ro es c=>obtain ⟨_,h1,_⟩:=hS.map b _ _ _ hb e;exact lt_of_heap h1
  | iter m si se la=>exact lt_of_heap (hS.iter b _ _ _ _ hb e).1
  | dead=>cases h
 refine ⟨⟨hp.below hS.below hn,?_,?_,?_,?_,?_⟩,hs,Nat.le_succ _,by rw [hp.size];omega,fun k hk _=>hp.old k hk,fun b h1 h2=>?_,how⟩
 ·intro b e sz ro cs hb hg
  rw [hget] at hg
  rcases hb with hb | hb
  ·rw [if_neg (hne b hb)] at hg
   have h:=hS.row b e sz ro cs hb hg
   rw [hs b hb]
   have h2:=h.keep hD hs (w':=w') (hp.old _ h.lt)
   by_cases hst' : H.stale.contains b=true
   ·rw [hst'] at h2
    have:(stl.contains b)=true:=by
     rw [List.contains_iff_mem] at hst' ⊢
     exact hsub b hst'
    rw [this];exact h2
   ·simp only [Bool.not_eq_true] at hst'
    rw [hst',Bool.or_false] at h2
    cases hsb:stl.contains b with
    | false=>rw [Bool.or_false];exact h2
    | true =>
     rw [Bool.or_true]
     obtain ⟨⟨C,et,fz,g1,g2,g3,g4⟩,g5,g6,g7,g8⟩:=h2
     exact ⟨⟨C,et,fz,g1,g2,g3,fun h=>by cases h⟩,g5,g6,g7,fun h=>by cases h⟩
  ·have:b=H.next:=by have h1:=hb.1;have h2:=hb.2;show b=H.next;have:b < H.next+1:=h2;omega
   subst this
   rw [if_pos rfl] at hg
   cases hg
   obtain ⟨h,rfl⟩:=hrow e sz ro cs rfl
   rw [upd_self]
   have:stl.contains H.next=false:=by
    cases hc:stl.contains H.next with
    | false=>rfl
    | true=>exact absurd (List.contains_iff_mem.1 hc) hstn
   rw [this]
   exact h
 ·intro b ro es c hb hg
  rw [hget] at hg
  rcases hb with hb | hb
  ·rw [if_neg (hne b hb)] at hg
   obtain ⟨ents,h1,h2,h3⟩:=hS.map b ro es c hb hg
   rw [hs b hb]
   exact ⟨ents,by rw [hp.old _ (lt_of_heap h1)];exact h1,h2.mono hD hs,h3⟩
  ·have:b=H.next:=by have h1:=hb.1;have h2:b < H.next+1:=hb.2;omega
   subst this
   rw [if_pos rfl] at hg
   cases hg
   obtain ⟨ents,rfl,h2,rfl⟩:=hmap ro es c rfl
   rw [upd_self,hL]
   exact ⟨ents,hp.new,h2,fun _=>hbn⟩
 ·intro b m si se la hb hg
  rw [hget] at hg
  rcases hb with hb | hb
  ·rw [if_neg (hne b hb)] at hg
   obtain ⟨h1,h2,h3,h4⟩:=hS.iter b m si se la hb hg
   rw [hs b hb]
   refine ⟨?_,fun m' hm=>.inl (h2 m' hm),h3,h4⟩
   rw [hp.old _ (lt_of_heap h1),h1]
   cases m with
   | none=>rfl
   | some m=>simp only [Option.map_some];rw [hs m (h2 m rfl)]
  ·have:b=H.next:=by have h1:=hb.1;have h2:b < H.next+1:=hb.2;omega
   subst this
   rw [if_pos rfl] at hg
   cases hg
   obtain ⟨rfl,h2,h3⟩:=hit m si se la rfl
   rw [upd_self,hL]
   refine ⟨?_,fun m' hm=>.inl (h2 m' hm),h3,hbn⟩
   rw [hp.new]
   cases m with
   | none=>rfl
   | some m=>simp only [Option.map_some];rw [hs m (h2 m rfl)]
 ·intro b b' hb hb' hbb ho ha
  rcases hb with hb | hb
  ·rcases hb' with hb' | hb'
   ·rw [hs b hb,hs b' hb']
    exact hS.sep b b' hb hb' hbb (how b hb ho) (hal b' hb' ha)
   ·have:b' = H.next:=by have h1:=hb'.1;have h2:b' < H.next+1:=hb'.2;omega
    subst this
    rw [hs b hb,upd_self,hL]
    exact Nat.ne_of_lt (hS.lt hb (how b hb ho).al)
  ·have:b=H.next:=by have h1:=hb.1;have h2:b < H.next+1:=hb.2;omega
   subst this
   rcases hb' with hb' | hb'
   ·rw [hs b' hb',upd_self,hL]
    exact (Nat.ne_of_lt (hS.lt hb' (hal b' hb' ha))).symm
   ·have:b' = H.next:=by have h1:=hb'.1;have h2:b' < H.next+1:=hb'.2;omega
    exact absurd this.symm hbb
 ·intro x e sz ro cs b e' sz' cs' hx hxs hgx hb ho hgb heq
  have hxn:x≠H.next:=fun e=>hstn (e ▸ hxs)
  have hDx:D x:=by
   rcases hx with hx | hx
   ·exact hx
   ·have:x=H.next:=by have h1:=hx.1;have h2:x < H.next+1:=hx.2;omega
    exact absurd this hxn
  rw [hget,if_neg hxn] at hgx
  rw [hs x hDx] at heq ⊢
  rcases hb with hb | hb
  ·rw [hs b hb] at heq ⊢
   have hob:=how b hb ho
   rw [hget,if_neg (hne b hb)] at hgb
   rcases hstl x hxs with h | ⟨_,h⟩
   ·exact hS.old x e sz ro cs b e' sz' cs' hDx h hgx hb hob hgb heq
   ·by_cases hbx:b=x
    ·subst hbx
     unfold Ow at ho
     rw [hget,if_neg (hne b hb),hgb] at ho
     exact absurd hxs ho.2
    ·exact absurd heq (hS.sep b x hb hDx hbx hob h.al)
  ·have:b=H.next:=by have h1:=hb.1;have h2:b < H.next+1:=hb.2;omega
   subst this
   rw [upd_self,hL] at heq
   have:=(hS.row x e sz ro cs hDx hgx).lt
   omega
 ·left
  have:b=H.next:=by have h2' : b < H.next+1:=h2;omega
  subst this
  rw [upd_self,hL]
  exact Nat.le_refl _
end
end
end Go.AM
namespace Go.AM
open Go Go.RowKit
section
variable {T:Tab} {P:Program} {D:Nat->Prop} {s:Sg} {n0:Nat} {w0 w w' : World} {H:Hp}
structure But (w w' : World) (g:Nat):Prop where
 os:w'.os=w.os
 tape:w'.tape=w.tape
 output:w'.output=w.output
 size:w'.heap.size=w.heap.size
 old:∀ k,k≠g->w'.heap[k]? = w.heap[k]?
theorem But.setRow (w:World) (g:Nat) (C:Array Value):But w (w.setRow g C) g:=⟨rfl,rfl,rfl,by simp,fun k hk=>setRow_other w g k C hk⟩
theorem But.below {g:Nat} (h:But w w' g) {B:Nat} (hb:Below B w0 w) (hg:B<=g):Below B w0 w' :=
 hb.trans ⟨h.os,h.tape,h.output,by rw [h.size];exact Nat.le_refl _,fun k hk=>h.old k (by omega)⟩
theorem al_iff (b:Nat):Al H b ↔ (match H.get b with | some (.row _ _ _ _)=>b∉H.stale | some (.map _ _ _)=>True | some (.iter _ _ _ _)=>True | _=>False):=Iff.rfl
theorem step_put (hS:Sat n0 w0 D s H w) (hst:H.stale=[]) {b:Nat} {ob:Ob} (hD:D b) (ho:Ow H b) (hB:But w w' (s b).b)
  (hlive:Al (H.put b ob) b/\Ow (H.put b ob) b)
  (hrow:∀ e sz ro cs,ob = .row e sz ro cs->RowAt D s n0 w' (s b) e sz ro cs)
  (hmap:∀ ro es c,ob = .map ro es c->∃ ents,w'.heap[(s b).b]? = some (.map ents c)/\EsOk D s es ents.toList)
  (hit:∀ m si se la,ob = .iter m si se la->w'.heap[(s b).b]? = some (.mapIter (m.map fun m=>(s m).b) si se.toArray la)/\(∀ m',m=some m'->D m')/\(s b).base=0) :
  Step n0 w0 D s H w s (H.put b ob) w':=by
 have e0:Dn D H.next (H.put b ob).next=D:=by funext b;simp [Dn,Hp.next_put];intro h1 h2;omega
 have hst' : (H.put b ob).stale=[]:=hst
 have hn0:=hS.owge hD ho
 have hne:∀ c,D c->c≠b->Al H c->(s c).b≠(s b).b:=fun c hc hcb ha=>(hS.sep b c hD hc (Ne.symm hcb) ho ha).symm
 have how:∀ c,c≠b->(Ow (H.put b ob) c ↔ Ow H c):=fun c hc=>by
  unfold Ow
  rw [Hp.get_put,if_neg hc,hst',hst]
 have hal:∀ c,c≠b->(Al (H.put b ob) c ↔ Al H c):=fun c hc=>by
  unfold Al
  rw [Hp.get_put,if_neg hc,hst',hst]
 have key:Sat n0 w0 D s (H.put b ob) w':=by
  refine ⟨hB.below hS.below hn0,fun c e sz ro cs hc hg=>?_,fun c ro es cl hc hg=>?_,fun c m si se la hc hg=>?_,fun c c' h1 h2 h3 h4 h5=>?_,fun x e sz ro cs b e' sz' cs' hx hxs=>?_⟩
  ·rw [hst',List.contains_nil,Bool.or_false]
   rw [Hp.get_put] at hg
   split at hg
   ·rename_i hcb;subst hcb;cases hg;exact hrow e sz ro cs rfl
   ·rename_i hcb
    have h:=hS.row c e sz ro cs hc hg
    rw [hst,List.contains_nil,Bool.or_false] at h
    exact h.keep (fun _ h=>h) (fun _ _=>rfl) (hB.old _ (hne c hc hcb (by unfold Al;rw [hg,hst];simp)))
  ·rw [Hp.get_put] at hg
   split at hg
   ·rename_i hcb;subst hcb;cases hg
    obtain ⟨ents,h1,h2⟩:=hmap ro es cl rfl
    exact ⟨ents,h1,h2,fun _=>hn0⟩
   ·rename_i hcb
    obtain ⟨ents,h1,h2,h3⟩:=hS.map c ro es cl hc hg
    exact ⟨ents,by rw [hB.old _ (hne c hc hcb (by unfold Al;rw [hg];trivial))];exact h1,h2,h3⟩
  ·rw [Hp.get_put] at hg
   split at hg
   ·rename_i hcb;subst hcb;cases hg
    obtain ⟨h1,h2,h3⟩:=hit m si se la rfl
    exact ⟨h1,h2,h3,hn0⟩
   ·rename_i hcb
    obtain ⟨h1,h2,h3,h4⟩:=hS.iter c m si se la hc hg
    exact ⟨by rw [hB.old _ (hne c hc hcb (by unfold Al;rw [hg];trivial))];exact h1,h2,h3,h4⟩
  ·have ho1:Ow H c:=by
    by_cases hcb:c=b
    ·subst hcb;exact ho
    ·exact (how c hcb).1 h4
   have ha1:Al H c':=by
    by_cases hcb:c' = b
    ·subst hcb;exact ho.al
    ·exact (hal c' hcb).1 h5
   exact hS.sep c c' h1 h2 h3 ho1 ha1
  ·rw [hst'] at hxs;cases hxs
 refine ⟨by rw [e0];exact key,fun _ _=>rfl,Nat.le_refl _,by rw [hB.size];exact Nat.le_refl _,fun k hk hf=>hB.old k (fun e=>hf b hD ho e.symm),fun c h1 h2=>by rw [Hp.next_put] at h2;omega,fun c hc ho'=>?_⟩
 by_cases hcb:c=b
 ·subst hcb;exact ho
 ·exact (how c hcb).1 ho'
theorem step_app (hS:Sat n0 w0 D s H w) (hn:n0<=w0.heap.size) (hf:¬ D H.next) {b:Nat} {e e' : TypeId} {sz:Nat} {cs cs' : List V} (hD:D b) (hg:H.get b=some (.row e sz false cs)) (hbs:b∉H.stale) (hst:H.next∉H.stale)
  (hB:But w w' (s b).b) (hlen:cs.length<=cs'.length) {L:Loc} (hL:L.b=(s b).b) (hLb:L.base=(s b).base)
  (hnew:RowAt (Dn D H.next (H.next+1)) (upd s H.next L) n0 w' L e' sz false cs')
  (hkeep:∀ (C C' : Array Value) et et' fz fz',w.heap[(s b).b]? = some (.cells C et fz)->w'.heap[(s b).b]? = some (.cells C' et' fz')->C'.size=C.size/\∀ i,i < (s b).base+cs.length->C'[i]? = C[i]?)
  (hcell:∃ C' et' fz',w'.heap[(s b).b]? = some (.cells C' et' fz')) :
  Step n0 w0 D s H w (upd s H.next L) { H.new (.row e' sz false cs') with stale:=b :: H.stale } w':=by
 have hs:∀ c,D c->upd s H.next L c=s c:=fun c hc=>upd_ne _ _ (fun e=>hf (e ▸ hc))
 have hDn:∀ c,D c->Dn D H.next (H.next+1) c:=fun c hc=>.inl hc
 have hne:∀ c,D c->c≠H.next:=fun c hc e=>hf (e ▸ hc)
 have hbn:=hne b hD
 have hob:Ow H b:=by unfold Ow;rw [hg];exact ⟨rfl,hbs⟩
 have hn0:=hS.owge hD hob
 generalize hH' : ({ H.new (.row e' sz false cs') with stale:=b :: H.stale }:Hp)=H'
 have hget:∀ c,H'.get c=if c=H.next then some (.row e' sz false cs') else H.get c:=fun c=>by subst hH';exact Hp.get_new H c _
 have hstl:H'.stale=b :: H.stale:=by subst hH';rfl
 have hnx:H'.next=H.next+1:=by subst hH';rfl
 have how:∀ c,D c->Ow H' c->Ow H c/\c≠b:=fun c hc ho=>by
  unfold Ow at ho ⊢
  rw [hget,if_neg (hne c hc),hstl] at ho
  have:c≠b:=by
   rintro rfl
   rw [hg] at ho
   exact ho.2 (by simp)
  refine ⟨?_,this⟩
  split at ho
  ·exact ⟨ho.1,fun h=>ho.2 (by simp [h])⟩
  ·exact ho
  ·trivial
  ·cases ho
 have hal:∀ c,D c->Al H' c->Al H c/\c≠b:=fun c hc ho=>by
  unfold Al at ho ⊢
  rw [hget,if_neg (hne c hc),hstl] at ho
  have:c≠b:=by
   rintro rfl
   rw [hg] at ho
   exact ho (by simp)
  refine ⟨?_,this⟩
  split at ho
  ·exact fun h=>ho (by simp [h])
  ·trivial
  ·trivial
  ·cases ho
 have hfar:∀ c,D c->c≠b->Al H c->(s c).b≠(s b).b:=fun c hc hcb ha=>(hS.sep b c hD hc (Ne.symm hcb) hob ha).symm
 have key:Sat n0 w0 (Dn D H.next (H.next+1)) (upd s H.next L) H' w':=by
  refine ⟨hB.below hS.below hn0,fun c ec szc roc csc hc hgc=>?_,fun c ro es cl hc hgc=>?_,fun c m si se la hc hgc=>?_,fun c c' hc hc' hcc ho ha=>?_,fun x ex szx rox csx c ec szc csc hx hxs hgx hc ho hgc heq=>?_⟩
  ·rw [hget] at hgc
   rcases hc with hc | hc
   ·rw [if_neg (hne c hc)] at hgc
    rw [hs c hc,hstl]
    have h:=hS.row c ec szc roc csc hc hgc
    by_cases hblk:(s c).b=(s b).b
    ·-- the block is written: c is the row itself,or was gone on from before
     have hx:c=b\/c∈H.stale:=by
      by_cases hcb:c=b
      ·exact .inl hcb
      ·refine .inr (Classical.not_not.1 fun hns=>hfar c hc hcb (by unfold Al;rw [hgc];exact hns) hblk)
     have hcont:((b :: H.stale).contains c)=true:=by
      rw [List.contains_iff_mem]
      rcases hx with rfl | hx
      ·simp
      ·simp [hx]
     have hle:(s c).base+csc.length<=(s b).base+cs.length:=by
      rcases hx with rfl | hx
      ·rw [hg] at hgc;cases hgc;exact Nat.le_refl _
      ·exact hS.old c ec szc roc csc b e sz cs hc hx hgc hD hob hg hblk.symm
     rw [hcont,Bool.or_true]
     obtain ⟨⟨C,et,fz,g1,g2,g3,g4⟩,g5,g6,g7,g8⟩:=h
     obtain ⟨C',et',fz',k1⟩:=hcell
     rw [hblk] at g1
     obtain ⟨k2,k3⟩:=hkeep C C' et et' fz fz' g1 k1
     refine ⟨⟨C',et',fz',by rw [hblk];exact k1,by rw [k2];exact g2,fun i v hv=>?_,fun h=>by cases h⟩,g5,g6,g7,fun h=>by cases h⟩
     obtain ⟨x,hx1,hx2⟩:=g3 i v hv
     have hlt:i < csc.length:=(List.getElem?_eq_some_iff.1 hv).1
     exact ⟨x,by rw [k3 _ (by omega)];exact hx1,hx2.mono hDn hs⟩
    ·have h2:=h.keep hDn hs (w':=w') (hB.old _ hblk)
     cases hcb:H.stale.contains c with
     | true =>
      rw [hcb] at h2
      have:((b :: H.stale).contains c)=true:=by rw [List.contains_iff_mem] at hcb ⊢;simp [hcb]
      rw [this];exact h2
     | false =>
      rw [hcb,Bool.or_false] at h2
      cases hcb2:(b :: H.stale).contains c with
      | false=>rw [Bool.or_false];exact h2
      | true =>
       rw [Bool.or_true]
       obtain ⟨⟨C,et,fz,g1,g2,g3,g4⟩,g5,g6,g7,g8⟩:=h2
       exact ⟨⟨C,et,fz,g1,g2,g3,fun h=>by cases h⟩,g5,g6,g7,fun h=>by cases h⟩
   ·have:c=H.next:=by have h1:=hc.1;have h2:c < H.next+1:=hc.2;omega
    subst this
    rw [if_pos rfl] at hgc
    cases hgc
    rw [upd_self,hstl]
    have:((b :: H.stale).contains H.next)=false:=by
     cases hcb:(b :: H.stale).contains H.next with
     | false=>rfl
     | true =>
      rw [List.contains_iff_mem] at hcb
      simp only [List.mem_cons] at hcb
      rcases hcb with h | h
      ·exact absurd h.symm hbn
      ·exact absurd h hst
    rw [this]
    exact hnew
  ·rw [hget] at hgc
   rcases hc with hc | hc
   ·rw [if_neg (hne c hc)] at hgc
    obtain ⟨ents,h1,h2,h3⟩:=hS.map c ro es cl hc hgc
    rw [hs c hc]
    have hcb:c≠b:=by rintro rfl;rw [hg] at hgc;cases hgc
    exact ⟨ents,by rw [hB.old _ (hfar c hc hcb (by unfold Al;rw [hgc];trivial))];exact h1,h2.mono hDn hs,h3⟩
   ·have:c=H.next:=by have h1:=hc.1;have h2:c < H.next+1:=hc.2;omega
    subst this
    rw [if_pos rfl] at hgc
    cases hgc
  ·rw [hget] at hgc
   rcases hc with hc | hc
   ·rw [if_neg (hne c hc)] at hgc
    obtain ⟨h1,h2,h3,h4⟩:=hS.iter c m si se la hc hgc
    rw [hs c hc]
    have hcb:c≠b:=by rintro rfl;rw [hg] at hgc;cases hgc
    refine ⟨?_,fun m' hm=>.inl (h2 m' hm),h3,h4⟩
    rw [hB.old _ (hfar c hc hcb (by unfold Al;rw [hgc];trivial)),h1]
    cases m with
    | none=>rfl
    | some m=>simp only [Option.map_some];rw [hs m (h2 m rfl)]
   ·have:c=H.next:=by have h1:=hc.1;have h2:c < H.next+1:=hc.2;omega
    subst this
    rw [if_pos rfl] at hgc
    cases hgc
  ·rcases hc with hc | hc
   ·obtain ⟨ho1,hcb⟩:=how c hc ho
    rw [hs c hc]
    rcases hc' with hc' | hc'
    ·rw [hs c' hc']
     exact hS.sep c c' hc hc' hcc ho1 (hal c' hc' ha).1
    ·have:c' = H.next:=by have h1:=hc'.1;have h2:c' < H.next+1:=hc'.2;omega
     subst this
     rw [upd_self,hL]
     exact hfar c hc hcb ho1.al
   ·have:c=H.next:=by have h1:=hc.1;have h2:c < H.next+1:=hc.2;omega
    subst this
    rcases hc' with hc' | hc'
    ·rw [hs c' hc',upd_self,hL]
     obtain ⟨ha1,hcb⟩:=hal c' hc' ha
     exact (hfar c' hc' hcb ha1).symm
    ·have:c' = H.next:=by have h1:=hc'.1;have h2:c' < H.next+1:=hc'.2;omega
     exact absurd this.symm hcc
  ·have hxn:x≠H.next:=by
    rintro rfl
    rw [hstl] at hxs
    simp only [List.mem_cons] at hxs
    rcases hxs with h | h
    ·exact hbn h.symm
    ·exact hst h
   have hDx:D x:=by
    rcases hx with hx | hx
    ·exact hx
    ·have:x=H.next:=by have h1:=hx.1;have h2:x < H.next+1:=hx.2;omega
     exact absurd this hxn
   rw [hget,if_neg hxn] at hgx
   rw [hs x hDx] at heq ⊢
   rw [hstl] at hxs
   simp only [List.mem_cons] at hxs
   rcases hc with hc | hc
   ·obtain ⟨ho1,hcb⟩:=how c hc ho
    rw [hs c hc] at heq ⊢
    rw [hget,if_neg (hne c hc)] at hgc
    rcases hxs with rfl | hxs
    ·exact absurd heq (hfar c hc hcb ho1.al)
    ·exact hS.old x ex szx rox csx c ec szc csc hDx hxs hgx hc ho1 hgc heq
   ·have:c=H.next:=by have h1:=hc.1;have h2:c < H.next+1:=hc.2;omega
    subst this
    rw [hget,if_pos rfl] at hgc
    cases hgc
    rw [upd_self] at heq ⊢
    rw [hLb]
    rcases hxs with rfl | hxs
    ·rw [hg] at hgx;cases hgx;omega
    ·have:=hS.old x ex szx rox csx b e sz cs hDx hxs hgx hD hob hg (by rw [<- hL];exact heq)
     omega
 refine ⟨by rw [hnx];exact key,hs,by rw [hnx];exact Nat.le_succ _,by rw [hB.size];exact Nat.le_refl _,fun k hk hfr=>hB.old k (fun e=>hfr b hD hob e.symm),fun c h1 h2=>?_,fun c hc ho=>(how c hc ho).1⟩
 right
 have:c=H.next:=by rw [hnx] at h2;omega
 subst this
 exact ⟨b,hD,hob,by rw [upd_self,hL]⟩
end
end Go.AM
namespace Go.AM
open Go Go.RowKit
section
variable {T:Tab} {P:Program} {D:Nat->Prop} {s:Sg} {n0:Nat} {w0 w w' : World} {H:Hp}
def SV (P:Program) (n0:Nat) (w0:World) (D:Nat->Prop) (s:Sg) (H:Hp) (w:World) (r:Result Next) (H' : Hp) (v:V):Prop :=
 ∃ x s' w',r = .ok (.value x) w'/\Step n0 w0 D s H w s' H' w'/\Rv (Dn D H.next H'.next) s' v x
theorem row_new {C:Array Value} {e:TypeId} (hp:Plus w w' (.cells C e)) (hn:n0<=w.heap.size) {s' : Sg} {D' : Nat->Prop} {cs:List V} {xs rest:List Value} {cap sz:Nat} (hr:RvL D' s' cs xs) (ho:cs.all oneV=true) (hC:C.toList=xs++rest) (hl:cs.length<=cap*sz) (hc:cap*sz=C.size) :
  RowAt D' s' n0 w' ⟨w.heap.size,0,cap,sz⟩ e sz false cs:=by
 refine ⟨⟨C,e,(0,0),hp.new,by simp [hc],fun i v hv=>?_,fun _=>⟨fun i h1 h2 h3=>by simp at h3,rfl,rfl,hc.symm⟩⟩,rfl,hl,ho,fun _=>hn⟩
 obtain ⟨x,hx,hr'⟩:=hr.get i v hv
 refine ⟨x,?_,hr'⟩
 rw [<- Array.getElem?_toList,hC,Nat.zero_add,List.getElem?_append_left (List.getElem?_eq_some_iff.1 hx).1]
 exact hx
theorem dn_self (D:Nat->Prop) (n:Nat):Dn D n (n+1) n:=.inr ⟨Nat.le_refl _,Nat.lt_succ_self _⟩
theorem upd_mono {b:Nat} {L:Loc} (hf:¬ D b):(∀ c,D c->Dn D b (b+1) c)/\(∀ c,D c->upd s b L c=s c) :=
 ⟨fun c h=>.inl h,fun c h=>upd_ne _ _ (fun e=>hf (e ▸ h))⟩
theorem sv_row (hS:Sat n0 w0 D s H w) (hn:n0<=w0.heap.size) (hf:¬ D H.next) (hst:H.next∉H.stale) {C:Array Value} {e:TypeId} (hp:Plus w w' (.cells C e)) {cs:List V} {xs rest:List Value} {cap sz:Nat} (hr:RvL D s cs xs) (ho:cs.all oneV=true) (hC:C.toList=xs++rest) (hl:cs.length<=cap*sz) (hc:cap*sz=C.size)
  (stl:List Nat) (hstl:∀ x,x∈stl->x∈H.stale\/D x/\Ow H x) (hsub:∀ x,x∈H.stale->x∈stl) (hstn:H.next∉stl) :
  Step n0 w0 D s H w (upd s H.next ⟨w.heap.size,0,cap,sz⟩) { H.new (.row e sz false cs) with stale:=stl } w':=by
 obtain ⟨m1,m2⟩:=upd_mono (s:=s) (L:=⟨w.heap.size,0,cap,sz⟩) hf
 refine step_new hS hn hf hp rfl (fun e' sz' ro cs' he=>?_) (fun _ _ _ he=>by cases he) (fun _ _ _ _ he=>by cases he) hst stl hstl hsub hstn
 cases he
 exact ⟨row_new hp (Nat.le_trans hn hS.below.size) (hr.mono m1 m2) ho hC hl hc,rfl⟩
theorem new_eq (H:Hp) (ob:Ob):H.new ob = { H.new ob with stale:=H.stale }:=rfl
theorem sv_row' (hS:Sat n0 w0 D s H w) (hn:n0<=w0.heap.size) (hf:¬ D H.next) (hst:H.next∉H.stale) {C:Array Value} {e:TypeId} (hp:Plus w w' (.cells C e)) {cs:List V} {xs rest:List Value} {cap sz:Nat} (hr:RvL D s cs xs) (ho:cs.all oneV=true) (hC:C.toList=xs++rest) (hl:cs.length<=cap*sz) (hc:cap*sz=C.size) :
  Step n0 w0 D s H w (upd s H.next ⟨w.heap.size,0,cap,sz⟩) (H.new (.row e sz false cs)) w':=by
 rw [new_eq]
 exact sv_row hS hn hf hst hp hr ho hC hl hc H.stale (fun x h=>.inl h) (fun x h=>h) hst
theorem alloc_ok (hT:TabOk T P) (hS:Sat n0 w0 D s H w) (hn:n0<=w0.heap.size) (hf:¬ D H.next) (hst:H.next∉H.stale) {e:TypeId} {i:TI} (hi:T.ty e=some i) {cap sz:Nat} (hcs:cap*sz=i.size) :
  SV P n0 w0 D s H w ((do pure (.value (<- Instr.alloc e true (.tuple #[]))):Sem Next).run P w) (H.new (.row e sz false i.zero)) (.ptr H.next 0):=by
 obtain ⟨inf,d,z,e1,e2,e3,e4,e5,e6,e7,e8,e9⟩:=ti_parts hT hi
 obtain ⟨z1,z2⟩:=zero_rv (D:=D) (s:=s) e7
 have hp:=Plus.alloc w (.cells z.cells e)
 have hlen:z.cells.size=i.size:=by have:=z1.length;simp only [Array.length_toList] at this;omega
 have hst':=sv_row' (e:=e) hS hn hf hst hp z1 z2 (rest:=[]) (by simp) (cap:=cap) (sz:=sz) (by omega) (by omega)
 refine ⟨.pointer (some ⟨w.heap.size,0,none⟩),_,_,?_,hst',?_⟩
 ·simp [Instr.alloc,zeroValue,typeInfo,e1,e6,newVar,newRow]
 ·have:=Rv.ptr (D:=Dn D H.next (H.next+1)) (s:=upd s H.next ⟨w.heap.size,0,cap,sz⟩) H.next 0 (dn_self D _)
  rw [upd_self] at this
  exact this
theorem box_ok (hS:Sat n0 w0 D s H w) (hn:n0<=w0.heap.size) (hf:¬ D H.next) (hst:H.next∉H.stale) {e:TypeId} {v:V} {x:Value} (hx:Rv D s v x) (ho:(cellsV v).all oneV=true) {cap sz:Nat} (hcs:cap*sz=(cellsV v).length) :
  SV P n0 w0 D s H w ((do pure (.value (<- Instr.box e x)):Sem Next).run P w) (H.new (.row e sz false (cellsV v))) (.ptr H.next 0):=by
 have hp:=Plus.alloc w (.cells x.cells e)
 have hc:=hx.cells
 have hlen:x.cells.size=(cellsV v).length:=by have:=hc.length;simp only [Array.length_toList] at this;omega
 have hst':=sv_row' (e:=e) hS hn hf hst hp hc ho (rest:=[]) (by simp) (cap:=cap) (sz:=sz) (by omega) (by omega)
 refine ⟨.pointer (some ⟨w.heap.size,0,none⟩),_,_,?_,hst',?_⟩
 ·simp [Instr.box,newVar,newRow]
 ·have:=Rv.ptr (D:=Dn D H.next (H.next+1)) (s:=upd s H.next ⟨w.heap.size,0,cap,sz⟩) H.next 0 (dn_self D _)
  rw [upd_self] at this
  exact this
theorem makeMap_ok (hT:TabOk T P) (hS:Sat n0 w0 D s H w) (hn:n0<=w0.heap.size) (hf:¬ D H.next) (hst:H.next∉H.stale) {t k e:TypeId} (hd:descOf T t=some (.map k e)) :
  SV P n0 w0 D s H w ((do pure (.value (<- Instr.makeMap t none)):Sem Next).run P w) (H.new (.map false [] 0)) (.mp H.next):=by
 have hp:=Plus.alloc w (.map #[] 0)
 have hstep:Step n0 w0 D s H w (upd s H.next ⟨w.heap.size,0,0,0⟩) (H.new (.map false [] 0)) (w.alloc (.map #[] 0)):=by
  rw [new_eq]
  exact step_new hS hn hf hp rfl (fun _ _ _ _ he=>by cases he) (fun _ _ _ he=>by cases he;exact ⟨#[],rfl,.nil,rfl⟩) (fun _ _ _ _ he=>by cases he) hst H.stale (fun x h=>.inl h) (fun x h=>h) hst
 refine ⟨.map (some w.heap.size),_,_,?_,hstep,?_⟩
 ·rw [Sem.run_bind,run_makeMap]
  rfl
 ·have:=Rv.mp (D:=Dn D H.next (H.next+1)) (s:=upd s H.next ⟨w.heap.size,0,0,0⟩) H.next (dn_self D _)
  rw [upd_self] at this
  exact this
end
end Go.AM
namespace Go.AM
open Go Go.RowKit
section
variable {T:Tab} {P:Program} {D:Nat->Prop} {s:Sg} {n0:Nat} {w0 w w' : World} {H:Hp}
def replL {α:Type} (z:List α):Nat->List α
 | 0=>[]
 | n+1=>z++replL z n
theorem repl_eq (z:List V):∀ n,repl z n=replL z n
 | 0=>rfl
 | n+1=>by rw [repl,replL,repl_eq z n]
theorem replL_length {α:Type} (z:List α):∀ n,(replL z n).length=n*z.length
 | 0=>by simp [replL]
 | n+1=>by rw [replL,List.length_append,replL_length z n,Nat.succ_mul];omega
theorem replL_get {α:Type} (z:List α):∀ (n i:Nat),i < n*z.length->(replL z n)[i]? = z[i % z.length]?
 | 0,i,h=>by simp at h
 | n+1,i,h=>by
  rw [replL]
  by_cases hi:i < z.length
  ·rw [List.getElem?_append_left hi,Nat.mod_eq_of_lt hi]
  ·rw [List.getElem?_append_right (by omega),replL_get z n _ (by rw [Nat.succ_mul] at h;omega)]
   congr 1
   rw [Nat.mod_eq_sub_mod (a:=i) (by omega)]
theorem range_repl (z:Array Value) (n:Nat):((Array.range (n*z.size)).map fun i=>z[i % z.size]!).toList=replL z.toList n:=by
 apply List.ext_getElem?
 intro i
 by_cases hi:i < n*z.size
 ·rw [replL_get _ _ _ (by simpa using hi)]
  have hz:0 < z.size:=by rcases Nat.eq_zero_or_pos z.size with h | h;(rw [h] at hi;omega);exact h
  have hm:=Nat.mod_lt i hz
  simp [hi,hm,getElem!_pos]
 ·rw [List.getElem?_eq_none (by simp;omega),List.getElem?_eq_none (by rw [replL_length];simp;omega)]
theorem RvL.repl:∀ (n:Nat) {z:List V} {y:List Value},RvL D s z y->RvL D s (replL z n) (replL y n)
 | 0,_,_,h=>.nil
 | n+1,_,_,h=>h.append (RvL.repl n h)
theorem all_replL (p:V->Bool) (z:List V) (h:z.all p=true):∀ n,(replL z n).all p=true
 | 0=>rfl
 | n+1=>by rw [replL,List.all_append,h,all_replL p z h n];rfl
theorem fillV_length (place:Nat->Option (Nat×Nat)):∀ (ps:List (Nat×V)) (cs r:List V),fillV place cs ps=some r->r.length=cs.length
 | [],cs,r,h=>by simp only [fillV] at h;cases h;rfl
 | (i,v) :: ps,cs,r,h=>by
  simp only [fillV] at h
  split at h
  ·cases h
  ·split at h
   ·cases h
   ·rw [fillV_length place ps _ _ h,setCells_eq,setL_length]
theorem sl_new {cap sz len:Nat} (hsz:0 < sz) (hl:len<=cap):Rv (Dn D H.next (H.next+1)) (upd s H.next ⟨w.heap.size,0,cap,sz⟩) (.sl H.next 0 len none sz) (.slice (some ⟨w.heap.size,0,none⟩) len cap):=by
 have:=Rv.sln (D:=Dn D H.next (H.next+1)) (s:=upd s H.next ⟨w.heap.size,0,cap,sz⟩) H.next 0 len sz (dn_self D _) (by rw [upd_self]) hsz (Nat.zero_mod _) (by rw [upd_self];simpa using hl)
 rw [upd_self] at this
 simpa using this
theorem buildSlice_ok (hT:TabOk T P) (hS:Sat n0 w0 D s H w) (hn:n0<=w0.heap.size) (hf:¬ D H.next) (hst:H.next∉H.stale) {t e:TypeId} {i:TI} {len:Nat} {ps:List (Nat×V)} {qs:Array (Nat×Value)} {cs:List V} (hd:descOf T t=some (.slice e)) (hi:T.ty e=some i) (hb:len*i.size<=16777216) (h0:0 < i.size)
  (hp:Pz D s ps qs.toList) (h:fillV (fun j=>some (j*i.size,i.size)) (repl i.zero len) ps=some cs) :
  SV P n0 w0 D s H w ((do pure (.value (<- Instr.buildSlice t len qs)):Sem Next).run P w) (H.new (.row e i.size false cs)) (.sl H.next 0 len none i.size):=by
 have hu:=und_slice hT hd
 obtain ⟨inf,d,z,e1,e2,e3,e4,e5,e6,e7,e8,e9⟩:=ti_parts hT hi
 obtain ⟨z1,z2⟩:=zero_rv (D:=D) (s:=s) e7
 have hzs:z.cells.size=i.size:=by have:=z1.length;simp only [Array.length_toList] at this;omega
 have hr1:RvL D s (repl i.zero len) ((Array.range (len*i.size)).map fun j=>z.cells[j % z.cells.size]!).toList:=by
  rw [repl_eq,<- hzs,range_repl];exact RvL.repl len z1
 have ho1:(repl i.zero len).all oneV=true:=by rw [repl_eq];exact all_replL _ _ z2 len
 obtain ⟨B,hB,r1,r2⟩:=fill_ok _ hp hr1 ho1 h
 have hlen:cs.length=len*i.size:=by rw [fillV_length _ _ _ _ h,repl_eq,replL_length,e9]
 have hBs:B.size=len*i.size:=by have:=r1.length;simp only [Array.length_toList] at this;omega
 have hpl:=Plus.alloc w (.cells B e)
 have hstep:=sv_row' (e:=e) hS hn hf hst hpl r1 r2 (rest:=[]) (by simp) (cap:=len) (sz:=i.size) (by omega) (by omega)
 refine ⟨_,_,_,?_,hstep,sl_new h0 (Nat.le_refl _)⟩
 have hzv:(zeroValue e).run P w = .ok z w:=by simp [zeroValue,typeInfo,e1,e6]
 have hnb:¬ (len*i.size > 2 ^ 24):=by omega
 by_cases hl0:len=0
 ·subst hl0
  have e0:∀ f:Nat->Value,Array.map f (Array.range (0*i.size)) = #[]:=fun f=>by simp
  rw [e0] at hB
  simp only [Instr.buildSlice,Sem.run_bind,run_underlying hu,Result.andThen_ok,size_of hT hi,Sem.run_ite]
  rw [if_neg hnb,if_pos (by simp)]
  simp only [Sem.run_pure,Result.andThen_ok]
  rw [e0,hB]
  simp [newRow]
 ·have hne:¬ len*i.size=0:=by
   rw [Nat.mul_eq_zero];omega
  have hnb' : ¬ (16777216 < len*i.size):=by omega
  simp only [Instr.buildSlice,Sem.run_bind,run_underlying hu,Result.andThen_ok,size_of hT hi,Sem.run_ite,hne,if_false,hzv,Sem.run_pure]
  rw [if_neg hnb]
  simp [hB,newRow]
theorem makeSlice_ok (hT:TabOk T P) (hS:Sat n0 w0 D s H w) (hn:n0<=w0.heap.size) (hf:¬ D H.next) (hst:H.next∉H.stale) {t e:TypeId} {i:TI} {l c:Int} {kl kc:IntKind} (hd:descOf T t=some (.slice e)) (hi:T.ty e=some i)
  (h:0<=l/\l<=c/\i.bytes*c<=140737488355328/\c<=9223372036854775807/\0 < i.size) :
  SV P n0 w0 D s H w ((do pure (.value (<- Instr.makeSlice t (.int kl l) (.int kc c))):Sem Next).run P w) (H.new (.row e i.size false (repl i.zero c.toNat))) (.sl H.next 0 l.toNat none i.size):=by
 obtain ⟨h1,h2,h3,h4,h5⟩:=h
 have hu:=und_slice hT hd
 obtain ⟨inf,d,z,e1,e2,e3,e4,e5,e6,e7,e8,e9⟩:=ti_parts hT hi
 obtain ⟨z1,z2⟩:=zero_rv (D:=D) (s:=s) e7
 have hzs:z.cells.size=i.size:=by have:=z1.length;simp only [Array.length_toList] at this;omega
 obtain ⟨cn,rfl⟩:∃ cn:Nat,c=cn:=⟨c.toNat,by omega⟩
 obtain ⟨ln,rfl⟩:∃ ln:Nat,l=ln:=⟨l.toNat,by omega⟩
 simp only [Int.toNat_natCast]
 have hr1:RvL D s (repl i.zero cn) ((Array.range (cn*i.size)).map fun j=>z.cells[j % z.cells.size]!).toList:=by
  rw [repl_eq,<- hzs,range_repl];exact RvL.repl cn z1
 have ho1:(repl i.zero cn).all oneV=true:=by rw [repl_eq];exact all_replL _ _ z2 cn
 have hpl:=Plus.alloc w (.cells ((Array.range (cn*i.size)).map fun j=>z.cells[j % z.cells.size]!) e)
 have hstep:=sv_row' (e:=e) hS hn hf hst hpl hr1 ho1 (rest:=[]) (by simp) (cap:=cn) (sz:=i.size) (by rw [repl_eq,replL_length,e9];exact Nat.le_refl _) (by simp)
 refine ⟨_,_,_,?_,hstep,sl_new h5 (by omega)⟩
 have hzv:(zeroValue e).run P w = .ok z w:=by simp [zeroValue,typeInfo,e1,e6]
 have w1:IntKind.i64.wrap (ln:Int)=ln:=IntWalk.i64_in _ (by omega)
 have w2:IntKind.i64.wrap (cn:Int)=cn:=IntWalk.i64_in _ (by omega)
 have hbig:¬ ((i.bytes:Int)*(cn:Int) > 2 ^ 48):=by omega
 have hti:(typeInfo e).run P w = .ok inf w:=by simp [typeInfo,e1]
 have hle:¬ ((cn:Int) < (ln:Int)):=by omega
 have hc0:¬ ((cn:Int) < 0):=by omega
 have hl0:¬ ((ln:Int) < 0):=by omega
 have hcond:(((decide ((cn:Int) < 0) || decide ((inf.bytes:Int)*(cn:Int) > 2 ^ 48)) || decide ((ln:Int) < 0)) || decide ((ln:Int) > (cn:Int)))=false:=by
  rw [e5]
  simp only [hc0,hl0,decide_false,Bool.false_or,Bool.or_false,decide_eq_false_iff_not,Bool.or_eq_false_iff]
  exact ⟨hbig,by omega⟩
 simp only [Instr.makeSlice,asInt,asIntOf,Sem.run_bind,run_underlying hu,Result.andThen_ok,Sem.run_pure,hti,w1,w2,hcond,Bool.false_eq_true,if_false,run_askRoom,size_of hT hi,Int.toNat_natCast]
 by_cases hcz:cn*i.size=0
 ·have:cn=0:=by rcases Nat.mul_eq_zero.1 hcz with h | h<;>omega
  subst this
  have e0:∀ f:Nat->Value,Array.map f (Array.range (0*i.size)) = #[]:=fun f=>by simp
  simp only [hcz,if_true,Sem.run_pure,Result.andThen_ok,newRow,e0]
  simp only [hcz] at e0
  simp
  rw [e0,e0]
 ·simp [hcz,hzv,newRow]
end
end Go.AM
namespace Go.AM
open Go Go.RowKit
section
variable {T:Tab} {P:Program} {D:Nat->Prop} {s:Sg} {n0:Nat} {w0 w w' : World} {H:Hp}
theorem takeSl_ok (hS:Sat n0 w0 D s H w) {sz m:Nat} {v:V} {x:Value} {news:List V} (hx:Rv D s v x) (h:takeSl H.get sz v=some (m,news)) :
  (∃ A c,x = .slice A m c/\(m=0\/∃ a xs,A=some a/\RvL D s news xs/\news.all oneV=true/\xs.length=m*sz/\∀ j u,xs[j]? = some u->w.cell? (a.add j)=some u)):=by
 unfold takeSl at h
 split at h
 ·cases h;cases hx;exact ⟨_,_,rfl,.inl rfl⟩
 ·cases h;cases hx;exact ⟨_,_,rfl,.inl rfl⟩
 ·rename_i b off n c z
  split at h
  ·rename_i e sz' ro cs hg
   split at h
   ·rename_i hc
    obtain ⟨rfl,hl⟩:=hc
    cases h
    have hD:D b:=by cases hx<;>assumption
    have hrow:=hS.row b _ _ _ _ hD hg
    obtain ⟨xs,hr,hcell⟩:=hrow.vals
    have hone:=hrow.one
    have hlen:=hr.length
    have key:∃ a xs',(some (Addr.mk (s b).b ((s b).base+off) none))=some a/\RvL D s ((cs.drop off).take (m*sz')) xs'/\((cs.drop off).take (m*sz')).all oneV=true/\xs'.length=m*sz'/\∀ j u,xs'[j]? = some u->w.cell? (a.add j)=some u:=by
     refine ⟨_,(xs.drop off).take (m*sz'),rfl,(hr.drop off).take _,?_,by simp only [List.length_take,List.length_drop];omega,fun j u hu=>?_⟩
     ·rw [List.all_eq_true] at hone ⊢
      exact fun c hc=>hone c (List.mem_of_mem_drop (List.mem_of_mem_take hc))
     ·rw [List.getElem?_take] at hu
      split at hu
      ·rw [List.getElem?_drop] at hu
       rw [add_off]
       exact hcell _ _ hu
      ·cases hu
    cases hx with
    | sln _ _ _ _ _ _ _ _ _=>exact ⟨_,_,rfl,.inr key⟩
    | slc _ _ _ _ _ _ _ _ _ _ _=>exact ⟨_,_,rfl,.inr key⟩
   ·cases h
  ·cases h
 ·cases h
theorem ones_of {cs:List V} {xs:List Value} (hr:RvL D s cs xs) (ho:cs.all oneV=true):∀ u∈xs,Value.oneCell' u=true:=by
 intro u hu
 obtain ⟨i,hi,rfl⟩:=List.getElem_of_mem hu
 have hl:=hr.length
 obtain ⟨x,hx,hrv⟩:=hr.get i cs[i] (List.getElem?_eq_getElem (by omega))
 rw [List.getElem?_eq_getElem hi] at hx
 cases hx
 rw [List.all_eq_true] at ho
 exact hrv.one (ho _ (List.getElem_mem _))
theorem takeX_ok (hT:TabOk T P) (hS:Sat n0 w0 D s H w) {t t' e el:TypeId} {sz m:Nat} {v:V} {x:Value} {news:List V} (hd:descOf T t=some (.slice el)) (hx:Rv D s v x) (h:takeX T H.get t t' e sz v=some (m,news)) :
  ∃ xs,RvL D s news xs/\news.all oneV=true/\xs.length=m*sz/\Src P sz t' x m xs w:=by
 unfold takeX at h
 split at h
 ·rename_i htt
  subst htt
  have hu:=und_slice hT hd
  obtain ⟨A,c,rfl,hA⟩:=takeSl_ok hS hx h
  rcases hA with rfl | ⟨a,xs,rfl,hr,hone,hl,hcell⟩
  ·have hn:news=[]:=by
    unfold takeSl at h
    split at h
    ·cases h;rfl
    ·cases h;rfl
    ·split at h
     ·split at h
      ·cases h;simp
      ·cases h
     ·cases h
    ·cases h
   subst hn
   refine ⟨[],.nil,rfl,by simp,⟨.inl ⟨_,hu⟩,fun _=>rfl,?_,?_,by simp,fun _ h=>by cases h⟩⟩
   ·cases A with
    | none=>exact run_firstCells_none w sz 0 0 c
    | some a=>exact run_firstCells_some w sz 0 a 0 c [] (by simp) (fun j u hu=>by simp at hu)
   ·cases A with
    | none=>exact run_firstCells_none w.drew sz 0 0 c
    | some a=>exact run_firstCells_some w.drew sz 0 a 0 c [] (by simp) (fun j u hu=>by simp at hu)
  ·exact ⟨xs,hr,hone,hl,Src.ofSlice w hu a m c xs hl hcell (ones_of hr hone)⟩
 ·split at h
  ·rename_i l hs _
   split at h
   ·rename_i hsz
    subst hsz
    cases h
    cases hx
    have hu:=und_str hT hs
    have e0:byteCells ⟨l.toArray⟩=l.map fun b=>Value.int .u8 b.toNat:=by simp [byteCells]
    have hz:(ByteArray.mk l.toArray).size=l.length:=by show l.toArray.size=_;simp
    have hsrc:=Src.ofString (P:=P) w hu ⟨l.toArray⟩
    rw [e0,hz] at hsrc
    refine ⟨_,?_,?_,by simp,hsrc⟩
    ·clear hsrc e0 hz
     induction l with
     | nil=>exact .nil
     | cons b l ih=>exact .cons _ _ _ _ (.int _ _) ih
    ·simp [List.all_eq_true,oneV]
   ·cases h
  ·cases h
theorem run_append_zero_src {t t' e ty:TypeId} {inf:TypeInfo} (hu:P.underlying t=some (.slice e)) (hi:P.info? e=some inf) {A:Option Addr} {n c:Nat} (hn:n<=c) {x:Value} {xs:List Value} (w:World) (hs:Src P inf.size t' x 0 xs w) :
  (Builtin.append_ #[t,t'] ty #[.slice A n c,x]).run P w = .ok (.slice A n c) w:=by
 have hx:xs=[]:=List.eq_nil_of_length_eq_zero (by rw [hs.newsLen];simp)
 subst hx
 have hc:=hs.cells
 rcases hs.kind with ⟨e',hk⟩ | hk<;>cases A<;>simp [Builtin.append_,run_underlying hu,run_underlying hk,sizeOf,typeInfo,hi,hs.len,hc,hn,storeCells]
theorem run_append_in_src {t t' e ty:TypeId} {inf:TypeInfo} (hu:P.underlying t=some (.slice e)) (hi:P.info? e=some inf) {g base n m c:Nat} {C:Array Value} {et:TypeId} {fz:Nat×Nat} {xs:List Value} {x:Value}
  (hg:w.heap[g]? = some (.cells C et fz)) (hs:Src P inf.size t' x m xs w) (hroom:n+m<=c)
  (hfit:base+n*inf.size+m*inf.size<=C.size) (hfz:∀ j,base+n*inf.size<=j->j < base+n*inf.size+m*inf.size->¬ (fz.1<=j/\j < fz.2)) :
  (Builtin.append_ #[t,t'] ty #[.slice (some ⟨g,base,none⟩) n c,x]).run P w = .ok (.slice (some ⟨g,base,none⟩) (n+m) c) (w.setRow g (setL C.toList (base+n*inf.size) xs).toArray):=by
 have hl:=hs.newsLen
 have h2:=run_storeCells P xs w g (base+n*inf.size) 0 C et fz hg (by rw [hl];omega) (by rw [hl];simpa using hfz) hs.one
 have hadd:(Addr.mk g base none).add (n*inf.size)=⟨g,base+n*inf.size,none⟩:=by
  have:=add_off g base 0 (n*inf.size)
  simpa using this
 rcases hs.kind with ⟨e',hk⟩ | hk<;>simp [Builtin.append_,run_underlying hu,run_underlying hk,sizeOf,typeInfo,hi,hs.len,hs.cells,hroom,hadd,h2]
theorem sl_form {b off n z:Nat} {cap:Option Nat} {x:Value} (h:Rv D s (.sl b off n cap z) x):∃ c,x = .slice (some ⟨(s b).b,(s b).base+off,none⟩) n c/\n<=c/\D b/\(s b).sz=z/\0 < z/\off % z=0/\(match cap with | none=>c=(s b).cap-off / z | some k=>c=k)/\off / z+n<=(s b).cap:=by
 cases h with
 | sln _ _ _ _ hD h1 h2 h3 h4=>exact ⟨_,rfl,by omega,hD,h1,h2,h3,rfl,h4⟩
 | slc _ _ _ k _ hD h1 h2 h3 h4 h5=>exact ⟨_,rfl,h4,hD,h1,h2,h3,rfl,by omega⟩
theorem sv_grow (hT:TabOk T P) (hS:Sat n0 w0 D s H w) (hn:n0<=w0.heap.size) (hf:¬ D H.next) (hst:H.next∉H.stale) {e:TypeId} {i:TI} {z:Value} (hz:z.cells.size=i.size) (h0:0 < i.size) {k old:Nat} {cs:List V} {xs:List Value} (hr:RvL D s cs xs) (ho:cs.all oneV=true) (hl:cs.length=k*i.size)
  {C:Array Value} (hC:C=xs.toArray++Builtin.zeroCells z.cells (grownCap w k old e-k))
  (stl:List Nat) (hstl:∀ x,x∈stl->x∈H.stale\/D x/\Ow H x) (hsub:∀ x,x∈H.stale->x∈stl) (hstn:H.next∉stl) {r:Result Value} (hrun:r = .ok (.slice (some ⟨w.heap.size,0,none⟩) k (grownCap w k old e)) (w.drew.alloc (.cells C e))) :
  ∃ x s' w',r = .ok x w'/\Step n0 w0 D s H w s' { H.new (.row e i.size false cs) with stale:=stl } w'/\Rv (Dn D H.next (H.next+1)) s' (.sl H.next 0 k none i.size) x:=by
 have hge:=grownCap_ge w k old e
 have hp:=Plus.drew w (.cells C e)
 have hxl:=hr.length
 have hsz:C.size=grownCap w k old e*i.size:=by
  subst hC
  simp only [Array.size_append,List.size_toArray,size_zeroCells,hz]
  rw [<- hxl,hl,<- Nat.add_mul]
  congr 1
  omega
 have hle:cs.length<=grownCap w k old e*i.size:=by rw [hl];exact Nat.mul_le_mul_right _ hge
 have:=sv_row (e:=e) hS hn hf hst hp hr ho (rest:=(Builtin.zeroCells z.cells (grownCap w k old e-k)).toList) (by subst hC;simp) (cap:=grownCap w k old e) (sz:=i.size) hle (by omega) stl hstl hsub hstn
 exact ⟨_,_,_,hrun,this,sl_new h0 hge⟩
end
end Go.AM
namespace Go.AM
open Go Go.RowKit
section
variable {T:Tab} {P:Program} {D:Nat->Prop} {s:Sg} {n0:Nat} {w0 w w' : World} {H:Hp}
theorem app_in (hS:Sat n0 w0 D s H w) (hn:n0<=w0.heap.size) (hf:¬ D H.next) (hst:H.next∉H.stale) {b n m sz:Nat} {e:TypeId} {cs news:List V} {xs:List Value} (hD:D b) (hg:H.get b=some (.row e sz false cs)) (hbs:b∉H.stale)
  (hsz:(s b).sz=sz) (h0:0 < sz) (hns:n*sz=cs.length) (hroom:n+m<=(s b).cap) (hr:RvL D s news xs) (hone:news.all oneV=true) (hl:xs.length=m*sz)
  {C:Array Value} {et:TypeId} {fz:Nat×Nat} (hC:w.heap[(s b).b]? = some (.cells C et fz)) :
  ∃ s',Step n0 w0 D s H w s' { H.new (.row e sz false (cs++news)) with stale:=b :: H.stale } (w.setRow (s b).b (setL C.toList ((s b).base+n*sz) xs).toArray) /\
   Rv (Dn D H.next (H.next+1)) s' (.sl H.next 0 (n+m) none sz) (.slice (some ⟨(s b).b,(s b).base,none⟩) (n+m) (s b).cap):=by
 have hrow:=hS.row b e sz false cs hD hg
 have hbs' : H.stale.contains b=false:=by
  cases hc:H.stale.contains b with
  | false=>rfl
  | true=>exact absurd (List.contains_iff_mem.1 hc) hbs
 rw [hbs',Bool.or_false] at hrow
 obtain ⟨⟨C1,et1,fz1,g1,g2,g3,g4⟩,g5,g6,g7,g8⟩:=hrow
 rw [hC] at g1
 cases g1
 have hnl:=hr.length
 have hcap:cs.length+m*sz<=(s b).cap*sz:=by rw [<- hns,<- Nat.add_mul];exact Nat.mul_le_mul_right _ hroom
 have hfit:(s b).base+n*sz+xs.length<=C.toList.length:=by have:C.toList.length=C.size:=Array.length_toList;omega
 obtain ⟨m1,m2⟩:=upd_mono (s:=s) (L:=s b) hf
 have hne:b≠H.next:=fun e=>hf (e ▸ hD)
 have hheap:=setRow_heap w (s b).b C (setL C.toList ((s b).base+n*sz) xs).toArray et fz hC
 have hstep:=step_app (e':=e) hS hn hf hD hg hbs hst (But.setRow w (s b).b (setL C.toList ((s b).base+n*sz) xs).toArray) (cs':=cs++news) (by simp) (L:=s b) rfl rfl
  ⟨⟨_,et,fz,hheap,by rw [size_setL];exact g2,fun i v hv=>?_,fun h=>(by rw [size_setL];exact g4 h)⟩,hsz,by rw [List.length_append];omega,by rw [List.all_append,g7,hone];rfl,g8⟩
  (fun C' C'' et' et'' fz' fz'' h1 h2=>by
   rw [hC] at h1;cases h1
   rw [hheap] at h2;cases h2
   refine ⟨size_setL _ _ _,fun i hi=>?_⟩
   rw [<- Array.getElem?_toList,List.toList_toArray,setL_get _ _ _ _ hfit,if_neg (by omega),Array.getElem?_toList])
  ⟨_,_,_,hheap⟩
 ·refine ⟨_,hstep,?_⟩
  have:=Rv.sln (D:=Dn D H.next (H.next+1)) (s:=upd s H.next (s b)) H.next 0 (n+m) sz (dn_self D _) (by rw [upd_self];exact hsz) h0 (Nat.zero_mod _) (by rw [upd_self];simpa using hroom)
  rw [upd_self] at this
  simpa using this
 ·by_cases hi:i < cs.length
  ·rw [List.getElem?_append_left hi] at hv
   obtain ⟨x,hx,hr'⟩:=g3 i v hv
   refine ⟨x,?_,hr'.mono m1 m2⟩
   rw [<- Array.getElem?_toList,List.toList_toArray,setL_get _ _ _ _ hfit,if_neg (by omega),Array.getElem?_toList]
   exact hx
  ·rw [List.getElem?_append_right (by omega)] at hv
   obtain ⟨x,hx,hr'⟩:=hr.get _ v hv
   have hlt:i-cs.length < xs.length:=(List.getElem?_eq_some_iff.1 hx).1
   refine ⟨x,?_,hr'.mono m1 m2⟩
   rw [<- Array.getElem?_toList,List.toList_toArray,setL_get _ _ _ _ hfit,if_pos (by omega)]
   rw [show (s b).base+i-((s b).base+n*sz)=i-cs.length from by omega]
   exact hx
theorem append_ok (hT:TabOk T P) (hS:Sat n0 w0 D s H w) (hn:n0<=w0.heap.size) (hf:¬ D H.next) (hst:H.next∉H.stale) {t t' e ty:TypeId} {i:TI} {v y:V} {xv xy:Value} (hd:descOf T t=some (.slice e)) (hi:T.ty e=some i)
  (hv:Rv D s v xv) (hy:Rv D s y xy) {r:V} {ob:Option Ob} {kb:Option Nat} {F:Fr} {args:Array Operand} (ha:opds T.ng F args.toList=some [v,y])
  (h:evA T (.call ⟨.builtin .append,args,#[t,t']⟩) F H.get H.next=some (r,ob,kb)) (hkb:∀ b,kb=some b->ob.isSome=true->b∉H.stale) :
  ∃ x s' w',(Builtin.append_ #[t,t'] ty #[xv,xy]).run P w = .ok x w'/\Step n0 w0 D s H w s' (afterA H ob kb) w'/\Rv (Dn D H.next (afterA H ob kb).next) s' r x:=by
 have hu:=und_slice hT hd
 obtain ⟨inf,d,z,e1,e2,e3,e4,e5,e6,e7,e8,e9⟩:=ti_parts hT hi
 have hzs:z.cells.size=i.size:=by
  have:=(zero_rv (D:=D) (s:=s) e7).1.length
  simp only [Array.length_toList] at this;omega
 have eD:Dn D H.next H.next=D:=by funext b;simp [Dn];intro h1 h2;omega
 simp only [evA,ha,hd,hi] at h
 split at h
 ·-- nothing is appended
  rename_i l htk
  obtain ⟨xs0,_,_,_,hsrc⟩:=takeX_ok hT hS hd hy htk
  have hsrc' : Src P inf.size t' xy 0 xs0 w:=by rw [e4];exact hsrc
  have same:∀ A1 n c,xv = .slice A1 n c->n<=c->Rv D s r xv->ob=none->∃ x s' w',(Builtin.append_ #[t,t'] ty #[xv,xy]).run P w = .ok x w'/\Step n0 w0 D s H w s' (afterA H ob kb) w'/\Rv (Dn D H.next (afterA H ob kb).next) s' r x:=by
   rintro A1 n c rfl hnc hr rfl
   refine ⟨_,s,w,run_append_zero_src hu e1 hnc w hsrc',Step.refl hS,?_⟩
   rw [show afterA H none kb=H from rfl,eD]
   exact hr
  split at h
  ·cases h
   obtain ⟨c,hx,hnc,_⟩:=sl_form hv
   exact same _ _ _ hx hnc hv rfl
  ·cases h
   have hv':=hv
   cases hv'
   exact same _ _ _ rfl (Nat.le_refl _) hv rfl
  ·cases h
   have hv':=hv
   cases hv'
   exact same _ _ _ rfl (Nat.zero_le _) hv rfl
  ·cases h
 ·rename_i m news hm0 htk
  obtain ⟨xs,hr,hone,hl,hsrc⟩:=takeX_ok hT hS hd hy htk
  have hsrc' : Src P inf.size t' xy m xs w:=by rw [e4];exact hsrc
  have hm:m≠0:=fun e=>hm0 e
  have hnl:=hr.length
  have hones:=ones_of hr hone
  split at h
  ·-- onto nil
   split at h
   ·rename_i hb
    cases h
    cases hv
    have hrun:=run_append_grow_src (P:=P) w t t' ty e inf z hu e1 e6 none 0 0 [] (run_firstCells_none w.drew inf.size 0 0 0) xy m xs hsrc' (by omega) (by omega) (by
     rw [e5,Nat.zero_add,nextslicecap_zero (by omega)];omega)
    rw [Nat.zero_add] at hrun
    have hrun' : (Builtin.append_ #[t,t'] ty #[.slice none 0 0,xy]).run P w = .ok (.slice (some ⟨w.heap.size,0,none⟩) m (grownCap w m 0 e)) (w.drew.alloc (.cells (xs.toArray++Builtin.zeroCells z.cells (grownCap w m 0 e-m)) e)):=by
     simpa using hrun
    obtain ⟨x,s',w',h1,h2,h3⟩:=sv_grow hT hS hn hf hst hzs hb.2.2 hr hone (by omega) rfl H.stale (fun x h=>.inl h) (fun x h=>h) hst hrun'
    exact ⟨x,s',w',h1,h2,h3⟩
   ·cases h
  ·rename_i b off n cap z'
   obtain ⟨c,rfl,hnc,hD,hsz,hz0,hoff,hcap,hfit⟩:=sl_form hv
   split at h
   ·rename_i e' sz ro cs hg
    split at h
    ·rename_i hc
     obtain ⟨c1,c2,c3,c4,c5⟩:=hc
     subst c1;subst c2
     obtain ⟨ys,hry,hcy⟩:=(hS.row b _ _ _ _ hD hg).vals
     have honey:=(hS.row b _ _ _ _ hD hg).one
     have hyl:=hry.length
     have holds:∀ j u,((ys.drop off).take (n*i.size))[j]? = some u->w.cell? ((Addr.mk (s b).b ((s b).base+off) none).add j)=some u:=fun j u hu=>by
      rw [List.getElem?_take] at hu
      split at hu
      ·rw [List.getElem?_drop] at hu
       rw [add_off]
       exact hcy _ _ hu
      ·cases hu
     have hro:RvL D s ((cs.drop off).take (n*i.size)) ((ys.drop off).take (n*i.size)):=(hry.drop off).take _
     have hoo:((cs.drop off).take (n*i.size)).all oneV=true:=by
      rw [List.all_eq_true] at honey ⊢
      exact fun c hc=>honey c (List.mem_of_mem_drop (List.mem_of_mem_take hc))
     have hlo:((ys.drop off).take (n*i.size)).length=n*inf.size:=by
      simp only [List.length_take,List.length_drop];rw [e4];omega
     have hgrow:∀ old,old < n+m->∀ (stl:List Nat),(∀ x,x∈stl->x∈H.stale\/D x/\Ow H x)->(∀ x,x∈H.stale->x∈stl)->H.next∉stl->c=old ->
       ∃ x s' w',(Builtin.append_ #[t,t'] ty #[.slice (some ⟨(s b).b,(s b).base+off,none⟩) n c,xy]).run P w = .ok x w' /\
        Step n0 w0 D s H w s' { H.new (.row e i.size false ((cs.drop off).take (n*i.size)++news)) with stale:=stl } w'/\Rv (Dn D H.next (H.next+1)) s' (.sl H.next 0 (n+m) none i.size) x:=by
      rintro old hlt stl q1 q2 q3 rfl
      have hrun:=run_append_grow_src (P:=P) w t t' ty e inf z hu e1 e6 (some ⟨(s b).b,(s b).base+off,none⟩) n c _ (run_firstCells_some w.drew inf.size n _ n c _ hlo (by simpa using holds)) xy m xs hsrc' hlt (by omega) (by rw [e5];exact growslice_fits hlt c4)
      have hrun' : (Builtin.append_ #[t,t'] ty #[.slice (some ⟨(s b).b,(s b).base+off,none⟩) n c,xy]).run P w = .ok (.slice (some ⟨w.heap.size,0,none⟩) (n+m) (grownCap w (n+m) c e)) (w.drew.alloc (.cells (((ys.drop off).take (n*i.size)).toArray++xs.toArray++Builtin.zeroCells z.cells (grownCap w (n+m) c e-(n+m))) e)):=by
       rw [hrun];simp
      refine sv_grow hT hS hn hf hst hzs hz0 (hro.append hr) (by rw [List.all_append,hoo,hone];rfl) ?_ ?_ stl q1 q2 q3 hrun'
      ·rw [List.length_append,hnl,hl,hro.length,hlo,e4,Nat.add_mul]
      ·simp
     split at h
     ·-- up to the row's end
      split at h
      ·rename_i hend
       obtain ⟨d1,d2,d3,d4⟩:=hend
       subst d1;subst d3;subst d4
       cases h
       have hbs:=hkb b rfl rfl
       have hob:Ow H b:=by unfold Ow;rw [hg];exact ⟨rfl,hbs⟩
       have hnb:H.next≠b:=fun e=>hf (e ▸ hD)
       dsimp only at hcap
       have hcap' : c=(s b).cap:=by rw [hcap];simp
       have htake:(cs.drop 0).take (n*i.size)=cs:=by rw [List.drop_zero,d2,List.take_length]
       by_cases hroom:n+m<=c
       ·obtain ⟨C,et,fz,g1,g2,g3,g4⟩:=(hS.row b _ _ _ _ hD hg).hp
        have hbs' : H.stale.contains b=false:=by
         cases hc:H.stale.contains b with
         | false=>rfl
         | true=>exact absurd (List.contains_iff_mem.1 hc) hbs
        rw [hbs'] at g4
        have hcapsz:(n+m)*i.size<=(s b).cap*i.size:=Nat.mul_le_mul_right _ (by omega)
        rw [Nat.add_mul] at hcapsz
        have hrun:=run_append_in_src (P:=P) (ty:=ty) (t:=t) (c:=c) (n:=n) (m:=m) (base:=(s b).base+0) hu e1 g1 hsrc' hroom (by rw [e4];omega) (fun j h1 h2=>(g4 rfl).1 j (by omega) (by rw [e4] at h2;omega))
        obtain ⟨s',h1,h2⟩:=app_in hS hn hf hst hD hg hbs hsz hz0 d2 (by omega) hr hone hl g1
        refine ⟨_,s',_,hrun,?_,?_⟩
        ·rw [e4,Nat.add_zero];exact h1
        ·rw [hcap',Nat.add_zero];exact h2
       ·have:=hgrow c (by omega) (b :: H.stale) (fun x hx=>by
         simp only [List.mem_cons] at hx
         rcases hx with rfl | hx
         ·exact .inr ⟨hD,hob⟩
         ·exact .inl hx) (fun x hx=>by simp [hx]) (by simp [hnb,hst]) rfl
        rw [htake] at this
        exact this
      ·cases h
     ·rename_i k
      split at h
      ·rename_i hk
       cases h
       have hck:c=k:=hcap
       exact hgrow c (by omega) H.stale (fun x h=>.inl h) (fun x h=>h) hst rfl
      ·cases h
    ·cases h
   ·cases h
  ·cases h
 ·cases h
end
end Go.AM
namespace Go.AM
open Go Go.RowKit
section
variable {T:Tab} {P:Program} {D:Nat->Prop} {s:Sg} {n0:Nat} {w0 w w' : World} {H:Hp}
theorem row_new' {C:Array Value} {e:TypeId} {fz:Nat×Nat} (hp:Plus w w' (.cells C e fz)) (hn:n0<=w.heap.size) {s' : Sg} {D' : Nat->Prop} {cs:List V} {xs rest:List Value} {cap sz:Nat} (hr:RvL D' s' cs xs) (ho:cs.all oneV=true) (hC:C.toList=xs++rest) (hl:cs.length<=cap*sz) (hc:cap*sz=C.size) (hfz:C.size<=fz.1) :
  RowAt D' s' n0 w' ⟨w.heap.size,0,cap,sz⟩ e sz false cs:=by
 refine ⟨⟨C,e,fz,hp.new,by simp [hc],fun i v hv=>?_,fun _=>⟨fun i h1 h2 h3=>by simp at h2;omega,rfl,rfl,hc.symm⟩⟩,rfl,hl,ho,fun _=>hn⟩
 obtain ⟨x,hx,hr'⟩:=hr.get i v hv
 refine ⟨x,?_,hr'⟩
 rw [<- Array.getElem?_toList,hC,Nat.zero_add,List.getElem?_append_left (List.getElem?_eq_some_iff.1 hx).1]
 exact hx
theorem plus_bytes (w:World) (e:TypeId) (b:ByteArray):Plus w (Lib.bytesWorld w e b) (.cells (Lib.bytesCells w e b) e ((Lib.bytesCells w e b).size,(Lib.bytesCells w e b).size+1)):=by
 refine ⟨?_,?_,?_,Lib.bytesWorld_size w e b,Lib.bytesWorld_at_new w e b,fun k hk=>Lib.bytesWorld_at_old w e b k hk⟩ <;>
  (unfold Lib.bytesWorld World.freeze;split<;>rfl)
theorem bytes_rv (l:List UInt8):RvL D s (l.map fun b=>V.int .u8 b.toNat) (l.map fun b=>Value.int .u8 b.toNat):=by
 induction l with
 | nil=>exact .nil
 | cons b l ih=>exact .cons _ _ _ _ (.int _ _) ih
theorem conv_new (hT:TabOk T P) (hS:Sat n0 w0 D s H w) (hn:n0<=w0.heap.size) (hf:¬ D H.next) (hst:H.next∉H.stale) {sr ds e:TypeId} {l:List UInt8} (hs:descOf T sr=some .str) (hd:descOf T ds=some (.slice e)) (he:descOf T e=some (.int .u8)) :
  SV P n0 w0 D s H w ((do pure (.value (<- convert sr ds (.string ⟨l.toArray⟩))):Sem Next).run P w) (H.new (.row e 1 false (l.map fun b=>.int .u8 b.toNat))) (.sl H.next 0 l.length none 1):=by
 have hu:=und_str hT hs
 have hud:=und_slice hT hd
 have hue:=und_int hT he
 have hge:l.length<=grownCap w l.length 0 e:=grownCap_ge w l.length 0 e
 have hp:=plus_bytes w e ⟨l.toArray⟩
 have hC:(Lib.bytesCells w e ⟨l.toArray⟩).toList=(l.map fun b=>Value.int .u8 (b.toNat:Int))++(Array.replicate (grownCap w l.length 0 e-l.length) (Value.int .u8 0)).toList:=by
  simp [Lib.bytesCells,size_mk]
 have hCs:(Lib.bytesCells w e ⟨l.toArray⟩).size=grownCap w l.length 0 e:=by
  have:=congrArg List.length hC
  simp only [Array.length_toList,List.length_append,List.length_map,Array.size_replicate] at this
  omega
 have hone:(l.map fun b=>V.int .u8 (b.toNat:Int)).all oneV=true:=by simp [List.all_eq_true,oneV]
 have hstep:Step n0 w0 D s H w (upd s H.next ⟨w.heap.size,0,grownCap w l.length 0 e,1⟩) (H.new (.row e 1 false (l.map fun b=>V.int .u8 (b.toNat:Int)))) (Lib.bytesWorld w e ⟨l.toArray⟩):=by
  rw [new_eq]
  refine step_new hS hn hf hp rfl (fun e' sz' ro cs' he=>?_) (fun _ _ _ he=>by cases he) (fun _ _ _ _ he=>by cases he) hst H.stale (fun x h=>.inl h) (fun x h=>h) hst
  cases he
  exact ⟨row_new' hp (Nat.le_trans hn hS.below.size) (bytes_rv l) hone hC (by simp;omega) (by rw [hCs];omega) (Nat.le_refl _),rfl⟩
 refine ⟨_,_,_,?_,hstep,sl_new (by decide) hge⟩
 have:=Lib.run_convert_string_bytes w sr ds e ⟨l.toArray⟩ hu hud hue
 rw [size_mk] at this
 rw [Sem.run_bind,this]
 rfl
set_option maxHeartbeats 1000000 in
theorem evA_ok (hT:TabOk T P) {F:Fr} {a:Act} (hg:GlOk T.ng D s) (hF:FrOk D s F a) (hS:Sat n0 w0 D s H w) (hn:n0<=w0.heap.size) (hf:¬ D H.next) (hst:H.next∉H.stale) (o:Oper) {v:V} {ob:Option Ob} {kb:Option Nat} (hk:kind T o.op = .a) (h:evA T o.op F H.get H.next=some (v,ob,kb))
  (hkb:∀ b,kb=some b->ob.isSome=true->b∉H.stale) :
  SV P n0 w0 D s H w ((execOp a.eval o).run P w) (afterA H ob kb) v:=by
 obtain ⟨dst,op,type,pos,after,guard⟩:=o
 dsimp only at hk h
 cases op
 case alloc e =>
  simp only [evA] at h
  split at h
  ·rename_i i hi
   split at h
   ·rename_i n e' hd
    split at h
    ·rename_i i' hi'
     split at h
     ·rename_i hc;cases h;exact alloc_ok hT hS hn hf hst hi hc
     ·cases h
    ·cases h
   ·cases h;exact alloc_ok (cap:=1) hT hS hn hf hst hi (by omega)
  ·cases h
 case box e x =>
  simp only [evA] at h
  split at h
  ·rename_i v' i hx hi
   split at h
   ·cases h
   ·rename_i ho
    have ho' : (cellsV v').all oneV=true:=by simpa using ho
    split at h
    ·rename_i n e' hd
     split at h
     ·rename_i i' hi'
      split at h
      ·rename_i hc;cases h;exact box_ok hS hn hf hst (opd_ok hg hF hx) ho' hc
      ·cases h
     ·cases h
    ·cases h;exact box_ok (cap:=1) hS hn hf hst (opd_ok hg hF hx) ho' (by omega)
  ·cases h
 case buildSlice t len parts =>
  simp only [evA] at h
  split at h
  ·rename_i e ps hd hps
   split at h
   ·rename_i i hi
    split at h
    ·rename_i hc
     split at h
     ·rename_i cs hcs
      cases h
      have hp:=parts_ok hg hF hps
      have el:(parts.map fun (x:Nat×Operand)=>(x.1,a.eval x.2)).toList=parts.toList.map fun (x:Nat×Operand)=>(x.1,a.eval x.2):=by simp
      exact buildSlice_ok hT hS hn hf hst hd hi hc.1 hc.2 (by rw [el];exact hp) hcs
     ·cases h
    ·cases h
   ·cases h
  ·cases h
 case makeMap t r =>
  cases r with
  | some r=>simp [evA] at h
  | none =>
   simp only [evA] at h
   split at h
   ·rename_i k e hd
    cases h
    exact makeMap_ok hT hS hn hf hst hd
   ·cases h
 case makeSlice t l c =>
  simp only [evA] at h
  split at h
  ·rename_i kl l' kc c' e hl hc hd
   split at h
   ·rename_i i hi
    split at h
    ·rename_i hb
     cases h
     have h1:=opd_ok hg hF hl
     have h2:=opd_ok hg hF hc
     generalize hz:a.eval l=y at h1
     generalize hy:a.eval c=u at h2
     cases h1;cases h2
     have:=makeSlice_ok (kl:=kl) (kc:=kc) hT hS hn hf hst hd hi hb
     simp only [execOp,hz,hy]
     exact this
    ·cases h
   ·cases h
  ·cases h
 case convert sr ds x =>
  simp only [kind,convKd] at hk
  simp only [evA] at h
  split at h
  ·rename_i l e hx hd
   split at h
   ·rename_i he
    cases h
    have hs:descOf T sr=some .str:=by
     cases hsd:descOf T sr with
     | none=>rw [hsd] at hk;simp at hk
     | some d=>rw [hsd,hd] at hk;cases d<;>simp at hk;rfl
    have hx':=opd_ok hg hF hx
    generalize hz:a.eval x=y at hx'
    cases hx'
    have:=conv_new hT hS hn hf hst hs hd he (l:=l)
    simp only [execOp,hz]
    exact this
   ·cases h
  ·cases h
 case call c =>
  obtain ⟨callee,args,tys⟩:=c
  have hc:callee = .builtin .append:=by
   simp only [kind] at hk
   split at hk<;>first | rfl | (cases hk;done) | (split at hk<;>cases hk)
  subst hc
  cases hargs:opds T.ng F args.toList with
  | none=>simp [evA,hargs] at h
  | some vs =>
   match vs,hargs with
   | [],hargs=>simp [evA,hargs] at h
   | [_],hargs=>simp [evA,hargs] at h
   | _ :: _ :: _ :: _,hargs=>simp [evA,hargs] at h
   | [v1,y],hargs =>
    cases htys:tys.toList with
    | nil=>simp [evA,hargs,htys] at h
    | cons t r =>
     match r,htys with
     | [],htys=>simp [evA,hargs,htys] at h
     | _ :: _ :: _,htys=>simp [evA,hargs,htys] at h
     | [t'],htys =>
      have htys' : tys = #[t,t']:=Array.toList_inj.1 htys
      subst htys'
      obtain ⟨xv,xy,hxs,hv,hy⟩:=args2 hg hF hargs
      cases hd:descOf T t with
      | none=>simp [evA,hargs,hd] at h
      | some d =>
       cases d
       case slice e =>
        cases hi:T.ty e with
        | none=>simp [evA,hargs,hd,hi] at h
        | some i =>
         obtain ⟨x,s',w',h1,h2,h3⟩:=append_ok (ty:=type) hT hS hn hf hst hd hi hv hy hargs h hkb
         exact ⟨x,s',w',by simp [execOp,resolve,invoke,builtin,hxs,h1],h2,h3⟩
       all_goals (simp [evA,hargs,hd] at h)
 all_goals (simp [evA] at h)
end
end Go.AM
namespace Go.AM
open Go Go.RowKit
section
variable {T:Tab} {P:Program} {D:Nat->Prop} {s:Sg} {n0:Nat} {w0 w w' : World} {H:Hp}
def SW (P:Program) (n0:Nat) (w0:World) (D:Nat->Prop) (s:Sg) (H:Hp) (w:World) (r:Result Next) (H' : Hp):Option V->Prop
 | some v=>SV P n0 w0 D s H w r H' v
 | none=>∃ s' w',r = .ok .skip w'/\Step n0 w0 D s H w s' H' w'
theorem row_put (hS:Sat n0 w0 D s H w) (hst:H.stale=[]) {b off:Nat} {e:TypeId} {sz:Nat} {cs ns:List V} {ys:List Value} (hD:D b) (hg:H.get b=some (.row e sz false cs)) (hr:RvL D s ns ys) (ho:ns.all oneV=true) (hl:off+ns.length<=cs.length) :
  ∃ w',(storeCells ⟨(s b).b,(s b).base+off,none⟩ ys).run P w = .ok () w'/\Step n0 w0 D s H w s (H.put b (.row e sz false (setCells cs off ns))) w':=by
 have hrow:=hS.row b e sz false cs hD hg
 rw [hst,List.contains_nil,Bool.or_false] at hrow
 obtain ⟨⟨C,et,fz,g1,g2,g3,g4⟩,g5,g6,g7,g8⟩:=hrow
 have hyl:=hr.length
 have hone:=ones_of hr ho
 have hob:Ow H b:=by unfold Ow;rw [hg,hst];simp
 have hfit:(s b).base+off+ys.length<=C.toList.length:=by have:C.toList.length=C.size:=Array.length_toList;omega
 have hrun:=run_storeCells P ys w (s b).b ((s b).base+off) 0 C et fz g1 (by omega) (fun j h1 h2=>(g4 rfl).1 j (by omega) (by omega)) hone
 rw [Nat.add_zero] at hrun
 have hheap:=setRow_heap w (s b).b C (setL C.toList ((s b).base+off) ys).toArray et fz g1
 refine ⟨_,hrun,step_put hS hst hD hob (But.setRow w (s b).b _) ?_ (fun e' sz' ro cs' he=>?_) (fun _ _ _ he=>by cases he) (fun _ _ _ _ he=>by cases he)⟩
 ·constructor
  ·unfold Al;rw [Hp.get_put,if_pos rfl];show b∉H.stale;rw [hst];simp
  ·unfold Ow;rw [Hp.get_put,if_pos rfl];refine ⟨rfl,?_⟩;show b∉H.stale;rw [hst];simp
 ·cases he
  rw [setCells_eq]
  refine ⟨⟨_,et,fz,hheap,by rw [size_setL];exact g2,fun i v hv=>?_,fun h=>(by rw [size_setL];exact g4 h)⟩,g5,by rw [setL_length];exact g6,all_setL _ _ _ _ g7 ho,g8⟩
  rw [setL_get _ _ _ _ hl] at hv
  rw [<- Array.getElem?_toList,List.toList_toArray,setL_get _ _ _ _ hfit]
  by_cases hi:off<=i/\i < off+ns.length
  ·rw [if_pos hi] at hv
   obtain ⟨x,hx,hrv⟩:=hr.get _ v hv
   exact ⟨x,by rw [if_pos (by omega),show (s b).base+i-((s b).base+off)=i-off from by omega];exact hx,hrv⟩
  ·rw [if_neg hi] at hv
   obtain ⟨x,hx,hrv⟩:=g3 i v hv
   exact ⟨x,by rw [if_neg (by omega),Array.getElem?_toList];exact hx,hrv⟩
theorem store_ok (hT:TabOk T P) (hS:Sat n0 w0 D s H w) (hst:H.stale=[]) {t:TypeId} {i:TI} {b off:Nat} {e:TypeId} {sz:Nat} {cs:List V} {v:V} {x y:Value} (hx:Rv D s (.ptr b off) x) (hy:Rv D s v y) (hi:T.ty t=some i) (hg:H.get b=some (.row e sz false cs)) (ho:(cellsV v).all oneV=true) (hl:(cellsV v).length=i.size) (hb:off+i.size<=cs.length) :
  ∃ w',(Instr.storeAt t x y).run P w = .ok () w'/\Step n0 w0 D s H w s (H.put b (.row e sz false (setCells cs off (cellsV v)))) w':=by
 cases hx with
 | ptr b off hD =>
  obtain ⟨w',h1,h2⟩:=row_put (P:=P) (off:=off) hS hst hD hg hy.cells ho (by omega)
  refine ⟨w',?_,h2⟩
  have hsz:y.cells.size=i.size:=by have:=hy.cells.length;simp only [Array.length_toList] at this;omega
  simp [Instr.storeAt,Instr.sureAddr,storeVar,size_of hT hi,hsz,h1]
theorem EsOk.set:∀ {es:List (V×V×Nat)} {fs:List MapEntry} (i:Nat) {k v:V} {n:Nat} {x y:Value},EsOk D s es fs->Rv D s k x->Rv D s v y->(∀ f,fs[i]? = some f->f.born=n)->EsOk D s (es.set i (k,v,n)) (fs.modify i fun f=>{ f with key:=x,val:=y })
 | _,_,i,_,_,_,_,_,.nil,_,_,_=>by simpa using EsOk.nil
 | _,_,0,_,_,n,_,_,.cons k v n' x y es fs h1 h2 h3,hk,hv,hn=>by
  have:=hn { key:=x,val:=y,born:=n' } (by simp)
  simp at this
  subst this
  exact .cons _ _ _ _ _ _ _ hk hv h3
 | _,_,i+1,_,_,_,_,_,.cons k v n' x y es fs h1 h2 h3,hk,hv,hn=>.cons _ _ _ _ _ _ _ h1 h2 (EsOk.set i h3 hk hv fun f hf=>hn f (by simpa using hf))
theorem EsOk.born:∀ {es:List (V×V×Nat)} {fs:List MapEntry},EsOk D s es fs->∀ (i:Nat) e f,es[i]? = some e->fs[i]? = some f->f.born=e.2.2
 | _,_,.nil,i,e,f,h,_=>by simp at h
 | _,_,.cons k v n x y es fs h1 h2 h3,0,e,f,h,h'=>by simp at h h';subst h;subst h';rfl
 | _,_,.cons k v n x y es fs h1 h2 h3,i+1,e,f,h,h'=>EsOk.born h3 i e f (by simpa using h) (by simpa using h')
theorem EsOk.push:∀ {es:List (V×V×Nat)} {fs:List MapEntry} {k v:V} {n:Nat} {x y:Value},EsOk D s es fs->Rv D s k x->Rv D s v y->EsOk D s (es++[(k,v,n)]) (fs++[{ key:=x,val:=y,born:=n }])
 | _,_,_,_,_,_,_,.nil,hk,hv=>.cons _ _ _ _ _ _ _ hk hv .nil
 | _,_,_,_,_,_,_,.cons _ _ _ _ _ _ _ h1 h2 h3,hk,hv=>.cons _ _ _ _ _ _ _ h1 h2 (EsOk.push h3 hk hv)
theorem EsOk.erase:∀ {es:List (V×V×Nat)} {fs:List MapEntry} (i:Nat),EsOk D s es fs->EsOk D s (es.eraseIdx i) (fs.eraseIdx i)
 | _,_,_,.nil=>by simpa using EsOk.nil
 | _,_,0,.cons _ _ _ _ _ _ _ h1 h2 h3=>by simpa using h3
 | _,_,i+1,.cons _ _ _ _ _ _ _ h1 h2 h3=>by simpa using EsOk.cons _ _ _ _ _ _ _ h1 h2 (EsOk.erase i h3)
theorem map_put (hS:Sat n0 w0 D s H w) (hst:H.stale=[]) {b:Nat} {es es' : List (V×V×Nat)} {c c' : Nat} (hD:D b) (hg:H.get b=some (.map false es c)) {ents' : Array MapEntry} (he:EsOk D s es' ents'.toList) :
  Step n0 w0 D s H w s (H.put b (.map false es' c')) { w with heap:=w.heap.setIfInBounds (s b).b (.map ents' c') }:=by
 have hob:Ow H b:=by unfold Ow;rw [hg]
 obtain ⟨ents,h1,h2,h3⟩:=hS.map b _ _ _ hD hg
 have hlt:=lt_of_heap h1
 refine step_put hS hst hD hob ⟨rfl,rfl,rfl,by simp,fun k hk=>by simp [Array.getElem?_setIfInBounds,Ne.symm hk]⟩ ?_ (fun _ _ _ _ he=>by cases he) (fun ro es'' c'' heq=>?_) (fun _ _ _ _ he=>by cases he)
 ·constructor
  ·unfold Al;rw [Hp.get_put,if_pos rfl];trivial
  ·unfold Ow;rw [Hp.get_put,if_pos rfl]
 ·cases heq
  exact ⟨ents',by simp [hlt],he⟩
end
end Go.AM
namespace Go.AM
open Go Go.RowKit
section
variable {T:Tab} {P:Program} {D:Nat->Prop} {s:Sg} {n0:Nat} {w0 w w' : World} {H:Hp}
theorem findE_same (k:V):∀ (es:List (V×V×Nat)) (n j:Nat) (v:V),findE k es n=some (some (j,v))->∃ e,es[j-n]? = some e/\n<=j/\sameK k e.1=some true
 | [],n,j,v,h=>by simp [findE] at h
 | e :: es,n,j,v,h=>by
  simp only [findE] at h
  split at h
  ·rename_i hs
   simp at h;obtain ⟨rfl,_⟩:=h
   exact ⟨e,by simp,Nat.le_refl _,hs⟩
  ·obtain ⟨e',h1,h2,h3⟩:=findE_same k es (n+1) j v h
   refine ⟨e',?_,by omega,h3⟩
   obtain ⟨d,rfl⟩:∃ d,j=n+1+d:=⟨j-(n+1),by omega⟩
   rw [show n+1+d-n=d+1 from by omega]
   rw [show n+1+d-(n+1)=d from by omega] at h1
   simpa using h1
  ·cases h
theorem EsOk.get:∀ {es:List (V×V×Nat)} {fs:List MapEntry},EsOk D s es fs->∀ (i:Nat) e,es[i]? = some e->∃ f,fs[i]? = some f/\Rv D s e.1 f.key/\Rv D s e.2.1 f.val/\f.born=e.2.2
 | _,_,.nil,i,e,h=>by simp at h
 | _,_,.cons k v n x y es fs h1 h2 h3,0,e,h=>by simp at h;subst h;exact ⟨_,rfl,h1,h2,rfl⟩
 | _,_,.cons k v n x y es fs h1 h2 h3,i+1,e,h=>by
  obtain ⟨f,hf⟩:=EsOk.get h3 i e (by simpa using h)
  exact ⟨f,by simpa using hf⟩
theorem sameBits_sym1 {k k' : V} {x x' : Value} (n:Nat) (hx:Rv D s k x) (hx' : Rv D s k' x') (h:same1 k k' = some true):Instr.sameBits n x' x=true:=by
 unfold same1 at h
 split at h
 ·split at h
  ·rename_i e;subst e;cases hx;cases hx';simp at h;subst h;unfold Instr.sameBits;simp
  ·cases h
 ·cases hx;cases hx';simp at h;subst h;unfold Instr.sameBits;simp [beq_toListBytes]
 ·cases hx;cases hx';simp at h;subst h;unfold Instr.sameBits;simp
 ·cases h
theorem sameBits_symL (n:Nat):∀ {cs cs' : List V} {xs xs' : List Value},RvL D s cs xs->RvL D s cs' xs'->sameL same1 cs cs' = some true->xs'.length=xs.length/\(xs'.zip xs).all (fun p=>Instr.sameBits n p.1 p.2)=true
 | _,_,_,_,.nil,.nil,_=>⟨rfl,rfl⟩
 | _,_,_,_,.nil,.cons ..,h=>by simp [sameL] at h
 | _,_,_,_,.cons ..,.nil,h=>by simp [sameL] at h
 | _,_,_,_,.cons v x vs xs h1 h2,.cons v' x' vs' xs' h3 h4,h=>by
  simp only [sameL] at h
  split at h
  ·rename_i p q e1 e2
   simp at h
   obtain ⟨rfl,rfl⟩:=h
   obtain ⟨g1,g2⟩:=sameBits_symL n h2 h4 e2
   refine ⟨by simp [g1],?_⟩
   simp only [List.zip_cons_cons,List.all_cons,sameBits_sym1 n h1 h3 e1,Bool.true_and]
   exact g2
  ·cases h
theorem sameBits_K (n:Nat) {t:TypeId} {k k' : V} {x x' : Value} (hk:keyOk T t k=true) (hx:Rv D s k x) (hx' : Rv D s k' x') (h:sameK k k' = some true):Instr.sameBits (n+1) x' x=true:=by
 by_cases ha:∃ cs,k = .agg cs
 ·obtain ⟨cs,rfl⟩:=ha
  cases k'<;>simp [sameK,same1] at h
  cases hx with
  | agg _ xs h1 _ =>
   cases hx' with
   | agg _ xs' h2 _ =>
    obtain ⟨g1,g2⟩:=sameBits_symL n h1 h2 h
    unfold Instr.sameBits
    simp only [Array.length_toList] at g1
    simp only [g1,beq_self_eq_true,Bool.true_and]
    exact g2
 ·refine sameBits_sym1 (n+1) hx hx' ?_
  cases k<;>first | exact h | exact absurd ⟨_,rfl⟩ ha
theorem mapUpdate_ok (hT:TabOk T P) (hS:Sat n0 w0 D s H w) (hst:H.stale=[]) {t kt et:TypeId} {b c:Nat} {k v:V} {m x y:Value} {es:List (V×V×Nat)} {r:Option (Nat×V)} (hd:descOf T t=some (.map kt et)) (hk:keyOk T kt k=true)
  (hm:Rv D s (.mp b) m) (hx:Rv D s k x) (hy:Rv D s v y) (hg:H.get b=some (.map false es c)) (hf:findE k es 0=some r) :
  ∃ w',(Instr.mapUpdate t m x y).run P w = .ok () w'/\Step n0 w0 D s H w s (match r with | some (i,_)=>H.put b (.map false (modE es i k v) c) | none=>H.put b (.map false (es++[(k,v,c)]) (c+1))) w':=by
 have hu:=und_map hT hd
 have hck:(Instr.checkKey false 10000 kt x).run P w = .ok () w:=keyOk_check hT hk hx false 9998
 cases hm with
 | mp b hD =>
  obtain ⟨ents,h1,h2,_⟩:=hS.map b _ _ _ hD hg
  have hfk:=findKey_ok (w:=w) hT hk hx h2 hf
  cases r with
  | none =>
   refine ⟨_,?_,map_put hS hst hD hg (ents':=ents.push { key:=x,val:=y,born:=c }) (by simpa using EsOk.push h2 hx hy)⟩
   simp [Instr.mapUpdate,run_underlying hu,MapKept.run_getObj_map h1,hck,hfk,MapKept.run_setObj_map _ h1]
  | some p =>
   obtain ⟨i,v'⟩:=p
   obtain ⟨z,hz,_⟩:=hfk
   obtain ⟨e,he,_,hse⟩:=findE_same k es 0 i v' hf
   rw [Nat.sub_zero] at he
   obtain ⟨f,hf1,hf2,hf3,hf4⟩:=h2.get i e he
   have hfe:ents[i]? = some f:=by rw [<- Array.getElem?_toList];exact hf1
   have hsb:Instr.sameBits 10000 f.key x=true:=sameBits_K 9999 hk hx hf2 hse
   have hes:modE es i k v=es.set i (k,v,e.2.2):=by simp [modE,he]
   simp only
   rw [hes]
   refine ⟨_,?_,map_put hS hst hD hg (ents':=ents.modify i fun f=>{ f with key:=x,val:=y }) ?_⟩
   ·simp [Instr.mapUpdate,run_underlying hu,MapKept.run_getObj_map h1,hck,hz,hfe,Instr.keyThatStays,hsb,MapKept.run_setObj_map _ h1]
   ·rw [Array.toList_modify]
    exact EsOk.set i h2 hx hy (fun f' hf'=>by rw [hf1] at hf';cases hf';exact hf4)
theorem set_same (w:World) {r:Nat} {o:Obj} (h:w.heap[r]? = some o):({ w with heap:=w.heap.setIfInBounds r o }:World)=w:=by
 have:w.heap.setIfInBounds r o=w.heap:=by
  apply Array.ext
  ·simp
  ·intro i h1 h2
   rw [Array.getElem_setIfInBounds]
   split
   ·rename_i e;subst e
    rw [Array.getElem?_eq_getElem h2] at h
    exact (Option.some.inj h).symm
   ·rfl
 rw [this]
theorem toList_erase {α:Type} (a:Array α) (i:Nat):(a.eraseIdxIfInBounds i).toList=a.toList.eraseIdx i:=by
 unfold Array.eraseIdxIfInBounds
 split
 ·simp
 ·rw [List.eraseIdx_of_length_le (by simpa using Nat.le_of_not_lt (by assumption))]
theorem delete_ok (hT:TabOk T P) (hS:Sat n0 w0 D s H w) (hst:H.stale=[]) {t kt et ty:TypeId} {tys:Array TypeId} {b c:Nat} {k:V} {m x:Value} {es:List (V×V×Nat)} {r:Option (Nat×V)} (ht:tys[0]? = some t) (hd:descOf T t=some (.map kt et)) (hk:keyOk T kt k=true)
  (hm:Rv D s (.mp b) m) (hx:Rv D s k x) (hg:H.get b=some (.map false es c)) (hf:findE k es 0=some r) :
  ∃ w',(Builtin.delete_ tys ty #[m,x]).run P w = .ok (.tuple #[]) w'/\Step n0 w0 D s H w s (match r with | some (i,_)=>H.put b (.map false (es.eraseIdx i) c) | none=>H) w':=by
 have hu:=und_map hT hd
 have hck:∀ b:Bool,(Instr.checkKey b 10000 kt x).run P w = .ok () w:=fun b=>keyOk_check hT hk hx b 9998
 cases hm with
 | mp b hD =>
  obtain ⟨ents,h1,h2,_⟩:=hS.map b _ _ _ hD hg
  have hfk:=findKey_ok (w:=w) hT hk hx h2 hf
  cases r with
  | none =>
   refine ⟨w,?_,Step.refl hS⟩
   have:=set_same w h1
   simp [Builtin.delete_,ht,run_underlying hu,MapKept.run_getObj_map h1,hck,hfk,MapKept.run_setObj_map _ h1,this]
  | some p =>
   obtain ⟨i,v'⟩:=p
   obtain ⟨z,hz,_⟩:=hfk
   refine ⟨_,?_,map_put hS hst hD hg (ents':=ents.eraseIdxIfInBounds i) (by rw [toList_erase];exact EsOk.erase i h2)⟩
   simp [Builtin.delete_,ht,run_underlying hu,MapKept.run_getObj_map h1,hck,hz,MapKept.run_setObj_map _ h1]
end
end Go.AM
namespace Go.AM
open Go Go.RowKit
section
variable {T:Tab} {P:Program} {D:Nat->Prop} {s:Sg} {n0:Nat} {w0 w w' : World} {H:Hp}
theorem EsOk.filter (p:Nat->Bool):∀ {es:List (V×V×Nat)} {fs:List MapEntry},EsOk D s es fs->EsOk D s (es.filter fun e=>p e.2.2) (fs.filter fun f=>p f.born)
 | _,_,.nil=>.nil
 | _,_,.cons k v n x y es fs h1 h2 h3=>by
  simp only [List.filter_cons]
  split
  ·exact .cons _ _ _ _ _ _ _ h1 h2 (EsOk.filter p h3)
  ·exact EsOk.filter p h3
theorem EsOk.all (p:Nat->Bool):∀ {es:List (V×V×Nat)} {fs:List MapEntry},EsOk D s es fs->(es.all fun e=>p e.2.2)=fs.all fun f=>p f.born
 | _,_,.nil=>rfl
 | _,_,.cons k v n x y es fs h1 h2 h3=>by simp only [List.all_cons,EsOk.all p h3]
theorem EsOk.empty:∀ {es:List (V×V×Nat)} {fs:List MapEntry},EsOk D s es fs->es.isEmpty=fs.isEmpty
 | _,_,.nil=>rfl
 | _,_,.cons k v n x y es fs h1 h2 h3=>rfl
theorem cand_ok {old new:List (V×V×Nat)} {A B:Array MapEntry} (ho:EsOk D s old A.toList) (hn:EsOk D s new B.toList) :
  ((if old.isEmpty then [none] else [])++(old++new).map some=[none]->(if A.isEmpty then #[none] else #[])++(A++B).map some = #[none]) /\
  (∀ e,(if old.isEmpty then [none] else [])++(old++new).map some=[some e]->∃ f,(if A.isEmpty then #[none] else #[])++(A++B).map some = #[some f]/\Rv D s e.1 f.key/\Rv D s e.2.1 f.val/\f.born=e.2.2):=by
 obtain ⟨A⟩:=A
 obtain ⟨B⟩:=B
 dsimp only at ho hn
 cases ho with
 | nil =>
  cases hn with
  | nil=>exact ⟨fun _=>by simp,fun e h=>by simp at h⟩
  | cons=>exact ⟨fun h=>by simp at h,fun e h=>by simp at h⟩
 | cons k v n x y es fs h1 h2 h3 =>
  refine ⟨fun h=>by simp at h,fun e h=>?_⟩
  simp at h
  obtain ⟨rfl,h4,h5⟩:=h
  subst h4;subst h5
  cases h3;cases hn
  exact ⟨{ key:=x,val:=y,born:=n },by simp,h1,h2,rfl⟩
theorem run_getObj_any {r c:Nat} {A:Array MapEntry} (h:w.heap[r]? = some (.map A c)):(getObj r).run P w = .ok (.map A c) w:=by simp [getObj,Sem.run,h]
theorem run_getObj_it {r a c:Nat} {m:Option Nat} {b:Array Nat} (h:w.heap[r]? = some (.mapIter m a b c)):(getObj r).run P w = .ok (.mapIter m a b c) w:=by simp [getObj,Sem.run,h]
theorem run_setObj_any {r a c:Nat} {m:Option Nat} {b:Array Nat} (o' : Obj) (h:w.heap[r]? = some (.mapIter m a b c)):(setObj r o').run P w = .ok () { w with heap:=w.heap.setIfInBounds r o' }:=by simp [setObj,Sem.run,h]
theorem iter_put (hS:Sat n0 w0 D s H w) (hst:H.stale=[]) {b:Nat} {m:Option Nat} {si la la' : Nat} {se se' : List Nat} (hD:D b) (hg:H.get b=some (.iter m si se la)) :
  Step n0 w0 D s H w s (H.put b (.iter m si se' la')) { w with heap:=w.heap.setIfInBounds (s b).b (.mapIter (m.map fun m=>(s m).b) si se'.toArray la') }:=by
 have hob:Ow H b:=by unfold Ow;rw [hg];trivial
 obtain ⟨h1,h2,h3,h4⟩:=hS.iter b _ _ _ _ hD hg
 have hlt:=lt_of_heap h1
 refine step_put hS hst hD hob ⟨rfl,rfl,rfl,by simp,fun k hk=>by simp [Array.getElem?_setIfInBounds,Ne.symm hk]⟩ ?_ (fun _ _ _ _ he=>by cases he) (fun _ _ _ heq=>by cases heq) (fun _ _ _ _ he=>?_)
 ·constructor
  ·unfold Al;rw [Hp.get_put,if_pos rfl];trivial
  ·unfold Ow;rw [Hp.get_put,if_pos rfl];trivial
 ·cases he
  exact ⟨by simp [hlt],h2,h3⟩
theorem arr_all {α:Type} (a:Array α) (p:α->Bool):a.all p=a.toList.all p:=by simp
theorem arr_empty {α:Type} (a:Array α):a.isEmpty=a.toList.isEmpty:=by cases a;simp
theorem next_ok (hS:Sat n0 w0 D s H w) (hst:H.stale=[]) {r m since last clock:Nat} {ty:TypeId} {seen:List Nat} {ro:Bool} {es:List (V×V×Nat)} {x:Value} (hx:Rv D s (.ptr r 0) x) (hg:H.get r=some (.iter (some m) since seen last)) (hm:H.get m=some (.map ro es clock))
  (hn:(!seen.isEmpty&&!es.isEmpty&&es.all (fun e=>last<=e.2.2))=false) {c:Option (V×V×Nat)}
  (hc:(if (((es.filter fun e=>!seen.contains e.2.2).filter fun e=>decide (e.2.2 < since))).isEmpty then [none] else [])++((((es.filter fun e=>!seen.contains e.2.2).filter fun e=>decide (e.2.2 < since)))++((es.filter fun e=>!seen.contains e.2.2).filter fun e=>decide (since<=e.2.2))).map some=[c]) :
  ∃ x' w',(Instr.next x false ty).run P w = .ok x' w'/\Step n0 w0 D s H w s (match c with | some e=>H.put r (.iter (some m) since (seen++[e.2.2]) clock) | none=>H) w'/\Rv D s (match c with | some e=>.tup [.bool true,e.1,e.2.1] | none=>.tup [.bool false]) x':=by
 cases hx with
 | ptr r off hD =>
  obtain ⟨h1,h2,h3,h4⟩:=hS.iter r _ _ _ _ hD hg
  have hDm:=h2 m rfl
  obtain ⟨ents,k1,k2,_⟩:=hS.map m _ _ _ hDm hm
  have e1:=k2.filter (fun n=>!seen.contains n)
  have e2:=e1.filter (fun n=>decide (n < since))
  have e3:=e1.filter (fun n=>decide (since<=n))
  have hno:(!seen.toArray.isEmpty&&!ents.isEmpty&&ents.all (fun f=>decide (f.born ≥ last)))=false:=by
   rw [arr_all,arr_empty,arr_empty,List.toList_toArray,<- k2.empty,<- k2.all (fun n=>decide (n ≥ last))]
   exact hn
  have a1:EsOk D s ((es.filter fun e=>!seen.contains e.2.2).filter fun e=>decide (e.2.2 < since)) ((ents.filter fun e=>!seen.toArray.contains e.born).filter (·.born < since)).toList:=by
   rw [Array.toList_filter,Array.toList_filter];simp only [List.contains_toArray];exact e2
  have a2:EsOk D s ((es.filter fun e=>!seen.contains e.2.2).filter fun e=>decide (since<=e.2.2)) ((ents.filter fun e=>!seen.toArray.contains e.born).filter (·.born ≥ since)).toList:=by
   rw [Array.toList_filter,Array.toList_filter];simp only [List.contains_toArray];exact e3
  have hcand:=cand_ok a1 a2
  simp only [Option.map_some] at h1
  cases c with
  | none =>
   have:=hcand.1 hc
   refine ⟨_,w,?_,Step.refl hS,.tup _ #[.bool false] (.cons _ _ _ _ (.bool _) .nil)⟩
   simp only [h3,Instr.next,Sem.run_bind,run_getObj_it h1,run_getObj_any k1,Result.andThen_ok,hno,Bool.false_eq_true,if_false]
   rw [this]
   simp [Question.forced]
  | some e =>
   obtain ⟨f,hf,f1,f2,f3⟩:=hcand.2 e hc
   refine ⟨_,_,?_,iter_put (se':=seen++[e.2.2]) (la':=clock) hS hst hD hg,.tup _ #[.bool true,f.key,f.val] (.cons _ _ _ _ (.bool _) (.cons _ _ _ _ f1 (.cons _ _ _ _ f2 .nil)))⟩
   simp only [h3,Instr.next,Sem.run_bind,run_getObj_it h1,run_getObj_any k1,Result.andThen_ok,hno,Bool.false_eq_true,if_false]
   rw [hf]
   simp [Question.forced,run_setObj_any _ h1,f3]
theorem range_new (hS:Sat n0 w0 D s H w) (hn:n0<=w0.heap.size) (hf:¬ D H.next) (hst:H.stale=[]) {m:Option Nat} (hm:∀ m',m=some m'->D m') (si la:Nat) :
  Step n0 w0 D s H w (upd s H.next ⟨w.heap.size,0,1,1⟩) (H.new (.iter m si [] la)) (w.alloc (.mapIter (m.map fun m=>(s m).b) si #[] la)):=by
 rw [new_eq]
 refine step_new hS hn hf (Plus.alloc w _) rfl (fun _ _ _ _ he=>by cases he) (fun _ _ _ he=>by cases he) (fun _ _ _ _ he=>?_) (by rw [hst];simp) H.stale (fun x h=>.inl h) (fun x h=>h) (by rw [hst];simp)
 cases he
 exact ⟨rfl,hm,rfl⟩
theorem range_ok (hT:TabOk T P) (hS:Sat n0 w0 D s H w) (hn:n0<=w0.heap.size) (hf:¬ D H.next) (hst:H.stale=[]) {t k e:TypeId} {v:V} {x:Value} (hd:descOf T t=some (.map k e)) (hx:Rv D s v x) {m:Option Nat} {si la:Nat}
  (h:(v = .nilm/\m=none/\si=0/\la=0)\/∃ b ro es c,v = .mp b/\H.get b=some (.map ro es c)/\m=some b/\si=c/\la=c) :
  ∃ x' s' w',(Instr.range t x).run P w = .ok x' w'/\Step n0 w0 D s H w s' (H.new (.iter m si [] la)) w'/\Rv (Dn D H.next (H.next+1)) s' (.ptr H.next 0) x':=by
 have hu:=und_map hT hd
 have hp:Rv (Dn D H.next (H.next+1)) (upd s H.next ⟨w.heap.size,0,1,1⟩) (.ptr H.next 0) (.pointer (some ⟨w.heap.size,0,none⟩)):=by
  have:=Rv.ptr (D:=Dn D H.next (H.next+1)) (s:=upd s H.next ⟨w.heap.size,0,1,1⟩) H.next 0 (dn_self D H.next)
  rwa [upd_self] at this
 rcases h with ⟨rfl,rfl,rfl,rfl⟩ | ⟨b,ro,es,c,rfl,hg,rfl,rfl,rfl⟩
 ·cases hx
  refine ⟨_,_,_,?_,range_new hS hn hf hst (fun _ he=>by cases he) 0 0,hp⟩
  simp [Instr.range,run_underlying hu]
 ·cases hx with
  | mp b hD =>
   obtain ⟨ents,h1,_⟩:=hS.map b _ _ _ hD hg
   refine ⟨_,_,_,?_,range_new hS hn hf hst (fun _ he=>by cases he;exact hD) _ _,hp⟩
   simp [Instr.range,run_underlying hu,run_getObj_any h1]
end
end Go.AM
namespace Go.AM
open Go Go.RowKit
section
variable {T:Tab} {P:Program} {D:Nat->Prop} {s:Sg} {n0:Nat} {w0 w w' : World} {H:Hp}
theorem clear_ok (hT:TabOk T P) (hS:Sat n0 w0 D s H w) (hst:H.stale=[]) {t e' e ty:TypeId} {i:TI} {b off n z sz:Nat} {cap:Option Nat} {cs:List V} {x:Value} (hd:descOf T t=some (.slice e')) (hi:T.ty e' = some i) (hx:Rv D s (.sl b off n cap z) x)
  (hg:H.get b=some (.row e sz false cs)) (hsz:i.size=sz) (hl:off+n*sz<=cs.length) :
  ∃ w',(Builtin.clear_ #[t] ty #[x]).run P w = .ok (.tuple #[]) w'/\Step n0 w0 D s H w s (H.put b (.row e sz false (setCells cs off (repl i.zero n)))) w':=by
 have hu:=und_slice hT hd
 obtain ⟨inf,d,zz,e1,e2,e3,e4,e5,e6,e7,e8,e9⟩:=ti_parts hT hi
 obtain ⟨z1,z2⟩:=zero_rv (D:=D) (s:=s) e7
 have hzs:zz.cells.size=i.size:=by have:=z1.length;simp only [Array.length_toList] at this;omega
 obtain ⟨c,rfl,hnc,hD,h1,h2,h3,h4,h5⟩:=sl_form hx
 have hzv:(zeroValue e').run P w = .ok zz w:=by simp [zeroValue,typeInfo,e1,e6]
 have hzc:(Builtin.zeroCells zz.cells n).toList=replL zz.cells.toList n:=by
  rw [<- range_repl];rfl
 obtain ⟨w',k1,k2⟩:=row_put (P:=P) (off:=off) hS hst hD hg (ns:=repl i.zero n) (ys:=(Builtin.zeroCells zz.cells n).toList) (by rw [repl_eq,hzc];exact RvL.repl n z1) (by rw [repl_eq];exact all_replL _ _ z2 n) (by rw [repl_eq,replL_length,e9,hsz];exact hl)
 refine ⟨w',?_,k2⟩
 by_cases hn0:n=0
 ·subst hn0
  have:(Builtin.zeroCells zz.cells 0).toList=[]:=by rw [hzc];rfl
  rw [this] at k1
  simp only [storeCells,Sem.run_pure] at k1
  injection k1 with _ k1
  subst k1
  simp [Builtin.clear_,run_underlying hu]
 ·have:∀ (f:Sem Value),True:=fun _=>trivial
  simp [Builtin.clear_,run_underlying hu,hzv,k1,hn0]
set_option maxHeartbeats 1000000 in
theorem evW_ok (hT:TabOk T P) {F:Fr} {a:Act} (hg:GlOk T.ng D s) (hF:FrOk D s F a) (hS:Sat n0 w0 D s H w) (hn:n0<=w0.heap.size) (hf:¬ D H.next) (hst:H.stale=[]) (o:Oper) {v:Option V} {H' : Hp} (hk:kind T o.op = .w) (h:evW T o.op F H=some (v,H')) :
  SW P n0 w0 D s H w ((execOp a.eval o).run P w) H' v:=by
 have eD:Dn D H.next H.next=D:=by funext b;simp [Dn];intro h1 h2;omega
 obtain ⟨dst,op,type,pos,after,guard⟩:=o
 dsimp only at hk h
 have tupv:∀ {r:Result Value} {w' : World},r = .ok (.tuple #[]) w'->Step n0 w0 D s H w s H' w'->H'.next=H.next->∃ x s' w',r = .ok x w'/\Step n0 w0 D s H w s' H' w'/\Rv (Dn D H.next H'.next) s' (.tup []) x:=by
  rintro r w' rfl h2 h3
  exact ⟨_,_,_,rfl,h2,.tup _ #[] .nil⟩
 cases op
 case store t x y =>
  simp only [evW] at h
  split at h
  ·rename_i b off v' i hx hy hi
   split at h
   ·rename_i e sz cs hg'
    split at h
    ·rename_i hc
     cases h
     obtain ⟨w',h1,h2⟩:=store_ok hT hS hst (opd_ok hg hF hx) (opd_ok hg hF hy) hi hg' hc.1 hc.2.1 hc.2.2
     exact ⟨_,w',by simp [execOp,h1],h2⟩
    ·cases h
   ·cases h
  ·cases h
 case mapUpdate t m k x =>
  simp only [evW] at h
  split at h
  ·rename_i b k' v' hm hk' hx
   split at h
   ·cases h
   ·rename_i hok
    have hok' : mapKeyOk T t k' = true:=by simpa using hok
    unfold mapKeyOk at hok'
    split at hok'
    ·rename_i kt et hd
     split at h
     ·rename_i es clock hg'
      split at h
      ·rename_i i vv hfe
       cases h
       obtain ⟨w',h1,h2⟩:=mapUpdate_ok hT hS hst hd hok' (opd_ok hg hF hm) (opd_ok hg hF hk') (opd_ok hg hF hx) hg' hfe
       exact ⟨_,w',by simp [execOp,h1],h2⟩
      ·rename_i hfe
       cases h
       obtain ⟨w',h1,h2⟩:=mapUpdate_ok hT hS hst hd hok' (opd_ok hg hF hm) (opd_ok hg hF hk') (opd_ok hg hF hx) hg' hfe
       exact ⟨_,w',by simp [execOp,h1],h2⟩
      ·cases h
     ·cases h
    ·cases hok'
  ·cases h
 case call c =>
  obtain ⟨callee,args,tys⟩:=c
  simp only [evW] at h
  split at h
  ·rename_i b k t ts hargs htys
   split at h
   ·cases h
   ·rename_i hok
    have hok' : mapKeyOk T t k=true:=by simpa using hok
    unfold mapKeyOk at hok'
    split at hok'
    ·rename_i kt et hd
     obtain ⟨xm,xk,hxs,hm,hk'⟩:=args2 hg hF hargs
     have ht:tys[0]? = some t:=by rw [<- Array.getElem?_toList,htys];rfl
     split at h
     ·rename_i es clock hg'
      split at h
      ·rename_i i vv hfe
       cases h
       obtain ⟨w',h1,h2⟩:=delete_ok (ty:=type) hT hS hst ht hd hok' hm hk' hg' hfe
       obtain ⟨x,s',w',g1,g2,g3⟩:=tupv h1 h2 rfl
       exact ⟨x,s',w',by simp [execOp,resolve,invoke,builtin,hxs,g1],g2,g3⟩
      ·rename_i hfe
       cases h
       obtain ⟨w',h1,h2⟩:=delete_ok (ty:=type) hT hS hst ht hd hok' hm hk' hg' hfe
       obtain ⟨x,s',w',g1,g2,g3⟩:=tupv h1 h2 rfl
       exact ⟨x,s',w',by simp [execOp,resolve,invoke,builtin,hxs,g1],g2,g3⟩
      ·cases h
     ·cases h
    ·cases hok'
  ·rename_i v' t hargs htys
   have htys' : tys = #[t]:=Array.toList_inj.1 htys
   subst htys'
   obtain ⟨xv,hxs,hv⟩:=args1 hg hF hargs
   split at h
   ·rename_i e hd
    cases h
    cases hv
    obtain ⟨x,s',w',g1,g2,g3⟩:=tupv (r:=(Builtin.clear_ #[t] type #[.slice none 0 0]).run P w) (by simp [Builtin.clear_,run_underlying (und_slice hT hd)]) (Step.refl hS) rfl
    exact ⟨x,s',w',by simp [execOp,resolve,invoke,builtin,hxs,g1],g2,g3⟩
   ·rename_i e hd
    cases h
    cases hv
    rename_i A c
    obtain ⟨x,s',w',g1,g2,g3⟩:=tupv (r:=(Builtin.clear_ #[t] type #[.slice (some A) 0 c]).run P w) (by simp [Builtin.clear_,run_underlying (und_slice hT hd)]) (Step.refl hS) rfl
    exact ⟨x,s',w',by simp [execOp,resolve,invoke,builtin,hxs,g1],g2,g3⟩
   ·rename_i b off n cap z e' hd
    split at h
    ·rename_i e sz cs i hg' hi
     split at h
     ·rename_i hc
      cases h
      obtain ⟨w',h1,h2⟩:=clear_ok (ty:=type) hT hS hst hd hi hv hg' hc.1 hc.2
      obtain ⟨x,s',w',g1,g2,g3⟩:=tupv h1 h2 rfl
      exact ⟨x,s',w',by simp [execOp,resolve,invoke,builtin,hxs,g1],g2,g3⟩
     ·cases h
    ·cases h
   ·cases h
  ·cases h
 case range t x =>
  simp only [evW] at h
  split at h
  ·rename_i k e hx hd
   cases h
   obtain ⟨x',s',w',h1,h2,h3⟩:=range_ok hT hS hn hf hst hd (opd_ok hg hF hx) (.inl ⟨rfl,rfl,rfl,rfl⟩)
   exact ⟨x',s',w',by simp [execOp,h1],h2,h3⟩
  ·rename_i m k e hx hd
   split at h
   ·rename_i ro es clock hg'
    cases h
    obtain ⟨x',s',w',h1,h2,h3⟩:=range_ok hT hS hn hf hst hd (opd_ok hg hF hx) (.inr ⟨_,_,_,_,rfl,hg',rfl,rfl,rfl⟩)
    exact ⟨x',s',w',by simp [execOp,h1],h2,h3⟩
   ·cases h
  ·cases h
 case entry it =>
  simp only [evW] at h
  split at h
  ·rename_i r hr
   split at h
   ·rename_i m since seen last hgi
    split at h
    ·rename_i ro es clock st h1 h2
     split at h
     ·rename_i hcl
      split at h
      ·rename_i e he
       cases h
       subst hcl
       have hx:=opd_ok hg hF hr
       obtain ⟨x,hxe⟩:∃ x,a.eval it=x:=⟨_,rfl⟩
       rw [hxe] at hx
       cases hx with
       | ptr b off hD =>
        obtain ⟨i1,i2,i3,_⟩:=hS.iter r _ _ _ _ hD hgi
        obtain ⟨ents,m1,m2,_⟩:=hS.map m _ _ _ (i2 m rfl) h1
        obtain ⟨f,f1,f2,f3⟩:=m2.find he
        have hf:Array.find? (fun f=>f.born==st) ents=some f:=by rw [<- Array.find?_toList];exact f1
        refine ⟨.tuple #[f.key,f.val],s,w,?_,Step.refl hS,?_⟩
        ·simp only [Option.map_some] at i1
         simp [execOp,hxe,Instr.entry,i3,getObj,Sem.run,i1,m1,h2,hf]
        ·rw [eD]
         exact .tup _ _ (.cons _ _ _ _ f2 (.cons _ _ _ _ f3 .nil))
      ·cases h
     ·cases h
    ·cases h
   ·cases h
  ·cases h
 case next it isS =>
  cases isS with
  | true=>simp [evW] at h
  | false =>
   simp only [evW] at h
   split at h
   ·rename_i r hx
    have hx':=opd_ok hg hF hx
    split at h
    ·rename_i si se la hg'
     cases h
     generalize hz:a.eval it=y at hx'
     cases hx' with
     | ptr r off hD =>
      obtain ⟨h1,h2,h3,h4⟩:=hS.iter r _ _ _ _ hD hg'
      refine ⟨.tuple #[.bool false],s,w,?_,Step.refl hS,.tup _ #[.bool false] (.cons _ _ _ _ (.bool _) .nil)⟩
      simp [execOp,hz,h3,Instr.next,run_getObj_it h1]
    ·rename_i m since seen last hg'
     split at h
     ·rename_i ro es clock hm'
      split at h
      ·cases h
      ·rename_i hno
       have hno' : (!seen.isEmpty&&!es.isEmpty&&es.all (fun e=>decide (last<=e.2.2)))=false:=by simpa using hno
       split at h
       ·rename_i e hc
        cases h
        obtain ⟨x',w',h1,h2,h3⟩:=next_ok (P:=P) (ty:=type) hS hst hx' hg' hm' hno' hc
        exact ⟨x',_,w',by simp [execOp,h1],h2,h3.mono (fun b hb=>.inl hb) (fun _ _=>rfl)⟩
       ·rename_i hc
        cases h
        obtain ⟨x',w',h1,h2,h3⟩:=next_ok (P:=P) (ty:=type) hS hst hx' hg' hm' hno' hc
        exact ⟨x',_,w',by simp [execOp,h1],h2,h3.mono (fun b hb=>.inl hb) (fun _ _=>rfl)⟩
       ·cases h
     ·cases h
    ·cases h
   ·cases h
 all_goals (simp [evW] at h)
end
end Go.AM
namespace Go.AM
open Go Go.RowKit
section
variable {T:Tab} {P:Program} {D:Nat->Prop} {s:Sg} {n0:Nat} {w0 w w' : World} {H:Hp}
theorem dn_refl (D:Nat->Prop) (n:Nat):Dn D n n=D:=by funext b;simp [Dn];intro h1 h2;omega
theorem dn_dn (D:Nat->Prop) {a b c:Nat} (h1:a<=b) (h2:b<=c):Dn (Dn D a b) b c=Dn D a c:=by
 funext x;simp only [Dn,eq_iff_iff]
 constructor
 ·rintro ((h | h) | h)
  ·exact .inl h
  ·exact .inr ⟨h.1,by omega⟩
  ·exact .inr ⟨by omega,h.2⟩
 ·rintro (h | h)
  ·exact .inl (.inl h)
  ·by_cases hb:x < b
   ·exact .inl (.inr ⟨h.1,hb⟩)
   ·exact .inr ⟨by omega,h.2⟩
theorem run_append_st {t t' e ty:TypeId} {inf:TypeInfo} (hu:P.underlying t=some (.slice e)) (hi:P.info? e=some inf) {g base n m c:Nat} {x:Value} {xs:List Value}
  (hs:Src P inf.size t' x m xs w) (hroom:n+m<=c)
  (hst:(storeCells ⟨g,base+n*inf.size,none⟩ xs).run P w = .ok () w') :
  (Builtin.append_ #[t,t'] ty #[.slice (some ⟨g,base,none⟩) n c,x]).run P w = .ok (.slice (some ⟨g,base,none⟩) (n+m) c) w':=by
 have hadd:(Addr.mk g base none).add (n*inf.size)=⟨g,base+n*inf.size,none⟩:=by
  have:=add_off g base 0 (n*inf.size)
  simpa using this
 rcases hs.kind with ⟨e',hk⟩ | hk<;>simp [Builtin.append_,run_underlying hu,run_underlying hk,sizeOf,typeInfo,hi,hs.len,hs.cells,hroom,hadd,hst]
theorem forget (hS:Sat n0 w0 D s H w) (hst:H.stale=[]) {b n:Nat} {e:TypeId} {sz:Nat} {cs:List V} (hD:D b) (hg:H.get b=some (.row e sz false cs)) :
  Step n0 w0 D s H w s (H.put b (.row e sz false (cs.take n))) w:=by
 have hrow:=hS.row b e sz false cs hD hg
 rw [hst,List.contains_nil,Bool.or_false] at hrow
 obtain ⟨⟨C,et,fz,g1,g2,g3,g4⟩,g5,g6,g7,g8⟩:=hrow
 have hob:Ow H b:=by unfold Ow;rw [hg,hst];simp
 refine step_put hS hst hD hob ⟨rfl,rfl,rfl,rfl,fun _ _=>rfl⟩ ?_ (fun e' sz' ro cs' he=>?_) (fun _ _ _ he=>by cases he) (fun _ _ _ _ he=>by cases he)
 ·constructor
  ·unfold Al;rw [Hp.get_put,if_pos rfl];show b∉H.stale;rw [hst];simp
  ·unfold Ow;rw [Hp.get_put,if_pos rfl];refine ⟨rfl,?_⟩;show b∉H.stale;rw [hst];simp
 ·cases he
  refine ⟨⟨C,et,fz,g1,g2,fun i v hv=>?_,g4⟩,g5,by simp only [List.length_take];omega,?_,g8⟩
  ·rw [List.getElem?_take] at hv
   split at hv
   ·exact g3 i v hv
   ·cases hv
  ·rw [List.all_eq_true] at g7 ⊢
   exact fun c hc=>g7 c (List.mem_of_mem_take hc)
theorem SV.after {H1:Hp} {r:Result Next} {H' : Hp} {v:V} (h1:Step n0 w0 D s H w s H1 w) (hn:H1.next=H.next) (h2:SV P n0 w0 D s H1 w r H' v):SV P n0 w0 D s H w r H' v:=by
 obtain ⟨x,s',w',g1,g2,g3⟩:=h2
 refine ⟨x,s',w',g1,h1.trans (by rw [hn,dn_refl];exact g2),?_⟩
 rw [<- hn];exact g3
set_option maxHeartbeats 1000000 in
theorem evAW_ok (hT:TabOk T P) {F:Fr} {a:Act} (hg:GlOk T.ng D s) (hF:FrOk D s F a) (hS:Sat n0 w0 D s H w) (hn:n0<=w0.heap.size) (hf:¬ D H.next) (hst:H.stale=[]) (o:Oper) {v:V} {H' : Hp} (hk:kind T o.op = .a) (h:evAW T o.op F H=some (v,H')) :
  SV P n0 w0 D s H w ((execOp a.eval o).run P w) H' v:=by
 obtain ⟨dst,op,type,pos,after,guard⟩:=o
 dsimp only at hk h
 cases op
 case call c =>
  obtain ⟨callee,args,tys⟩:=c
  have hc:callee = .builtin .append:=by
   simp only [kind] at hk
   split at hk<;>first | rfl | (cases hk;done) | (split at hk<;>cases hk)
  subst hc
  simp only [evAW] at h
  split at h
  ·rename_i s0 x0 t t' hargs htys
   ·have htys' : tys = #[t,t']:=Array.toList_inj.1 htys
    subst htys'
    obtain ⟨xv,xy,hxs,hv,hy⟩:=args2 hg hF hargs
    split at h
    ·rename_i e hd
     split at h
     ·rename_i i hi
      split at h
      ·rename_i m news b n z htk
       split at h
       ·rename_i e' sz cs hgb
        split at h
        ·rename_i hc
         obtain ⟨c1,c2,c3⟩:=hc
         subst c1;subst c2
         have hD:D b:=by cases hv<;>assumption
         split at h
         ·rename_i hfit
          cases h
          have hu:=und_slice hT hd
          obtain ⟨inf,d,zz,e1,e2,e3,e4,e5,e6,e7,e8,e9⟩:=ti_parts hT hi
          obtain ⟨c,hx0,hnc,_,hsz,hz0,_,hcap,hfl⟩:=sl_form hv
          subst hx0
          simp only [Nat.zero_div,Nat.sub_zero,Nat.zero_add] at hcap hfl
          have hrow:=hS.row b _ _ _ _ hD hgb
          have hroom:n+m<=(s b).cap:=Nat.le_of_mul_le_mul_right (Nat.le_trans hfit hrow.len) hz0
          obtain ⟨xs,hr,hone,hl,hsrc⟩:=takeX_ok hT hS hd hy htk
          have hres:Rv D s (.sl b 0 (n+m) none i.size) (.slice (some ⟨(s b).b,(s b).base+0,none⟩) (n+m) ((s b).cap-0 / i.size)) :=
           .sln b 0 (n+m) i.size hD hsz hz0 (Nat.zero_mod _) (by simpa using hroom)
          simp only [Nat.zero_div,Nat.sub_zero] at hres
          have hmono:∀ {y:Value},Rv D s (.sl b 0 (n+m) none i.size) y->Rv (Dn D H.next (H.put b (.row e' i.size false (setCells cs (n*i.size) news))).next) s (.sl b 0 (n+m) none i.size) y:=fun h=>h.mono (fun b hb=>.inl hb) (fun _ _=>rfl)
          subst hcap
          have hnl:=hr.length
          obtain ⟨w',k1,k2⟩:=row_put (P:=P) (off:=n*i.size) hS hst hD hgb hr hone (by rw [hnl,hl,<- Nat.add_mul];exact hfit)
          refine ⟨_,_,_,?_,k2,hmono hres⟩
          have:=run_append_st (P:=P) (ty:=type) hu e1 (c:=(s b).cap) (n:=n) (by rw [e4];exact hsrc) hroom (by rw [e4];exact k1)
          simp [execOp,resolve,invoke,builtin,hxs] at this ⊢
          rw [this]
          rfl
         ·split at h
          ·rename_i v' ob kb hev
           cases h
           have hf1:=forget (n:=n*i.size) hS hst hD hgb
           have hS1:=hf1.sat
           rw [Hp.next_put,dn_refl] at hS1
           refine SV.after hf1 rfl (evA_ok hT hg hF hS1 hn hf (by show H.next∉H.stale;rw [hst];simp) ⟨dst,.call ⟨.builtin .append,args,#[t,t']⟩,type,pos,after,guard⟩ hk hev (fun b' _ _=>by show b'∉H.stale;rw [hst];simp))
          ·cases h
        ·cases h
       ·cases h
      ·cases h
     ·cases h
    ·cases h
  ·cases h
 all_goals (simp [evAW] at h)
end
end Go.AM
