/- Parts of the abstract machine and of the walks over it, joined: what the law that is claimed here leans on. -/
import Derived.Test.YtiolgkhfpnidfaaAmC3
import Derived.Test.YtiolgkhfpnidfaaAmC2
import Derived.Lib.Bytealg
import Derived.Test.YtiolgkhfpnidfaaProg
import Derived.Lib.LaidTab
import Derived.Lib.ItoaNum
import Derived.Shelf.SlGeneric
import Derived.Shelf.SlSortCmp.NoneTotal
import Derived.WalkKit
import Derived.Deep.RegionLaw
import Derived.Lib.SliceRun
import Derived.Lib.Walk
import Derived.Deep.LoopGhost
import Derived.Shelf.RegionOpenPlain
set_option linter.unusedVariables false
set_option linter.unusedSimpArgs false
namespace Go.AM
open Go
def isK (k:IntKind):V->Bool
 | .int k' _=>decide (k' = k)
 | _=>false
def delE (k:IntKind) (te:Nat):List V->Hp->Option (V×Hp)
 | [.sl b 0 n none 1,.int .i64 i,.int .i64 j],H=>match H.stale,H.get b with
  | [],some (.row e 1 false cs) =>
   if e=te/\0<=i/\i < j/\j<=n/\n<=cs.length/\(cs.take n).all (isK k)=true then
    some (.sl b 0 (n-(j.toNat-i.toNat)) none 1,H.put b (.row e 1 false ((cs.take n).take i.toNat++(cs.take n).drop j.toNat++List.replicate (j.toNat-i.toNat) (.int k 0)++cs.drop n)))
   else none
  | _,_=>none
 | _,_=>none
theorem delE_good {k:IntKind} {te:Nat} {xs:List V} {H H' : Hp} {v:V} (h:delE k te xs H=some (v,H')) (hG:Good H):Grow H H':=by
 unfold delE at h
 split at h
 ·split at h
  ·rename_i hg
   split at h
   ·cases h;exact hG.put hg
   ·cases h
  ·cases h
 ·cases h
end Go.AM
namespace Go.AM
open Go
def numV:V->Int
 | .int _ m=>m
 | _=>0
def u32w (x:Int):Int:=IntKind.u32.wrap x
def srtL (zs:List Int):List Int:=zs.mergeSort fun x y=>decide (u32w x<=u32w y)
def srtE (g te:Nat):List V->Hp->Option (V×Hp)
 | [.nils,.fn (.func g') [] []],H=>if g' = g/\H.stale=[] then some (.tup [],H) else none
 | [.sle,.fn (.func g') [] []],H=>if g' = g/\H.stale=[] then some (.tup [],H) else none
 | [.sl b off 0 c z,.fn (.func g') [] []],H=>if g' = g/\H.stale=[] then some (.tup [],H) else none
 | [.sl b 0 n none 1,.fn (.func g') [] []],H=>match H.stale,H.get b with
  | [],some (.row e 1 false cs) =>
   if g' = g/\e=te/\n<=cs.length/\n < 1000000/\(cs.take n).all (isK .u64)=true/\(((cs.take n).map numV).map u32w).Nodup then
    some (.tup [],H.put b (.row e 1 false ((srtL ((cs.take n).map numV)).map (.int .u64)++cs.drop n)))
   else none
  | _,_=>none
 | _,_=>none
theorem srtE_good {g te:Nat} {xs:List V} {H H' : Hp} {v:V} (h:srtE g te xs H=some (v,H')) (hG:Good H):Grow H H':=by
 unfold srtE at h
 split at h
 ·split at h
  ·cases h;exact Grow.refl hG
  ·cases h
 ·split at h
  ·cases h;exact Grow.refl hG
  ·cases h
 ·split at h
  ·cases h;exact Grow.refl hG
  ·cases h
 ·split at h
  ·rename_i hg
   split at h
   ·cases h;exact hG.put hg
   ·cases h
  ·cases h
 ·cases h
end Go.AM
namespace Go.AM.YtiolgkhfpnidfaaT
open Go Go.AM
def ext0 (f:FuncId):Option (List V->Hp->Option (V×Hp)):=if f=24 then some (delE .u64 29) else if f=49 then some (delE .i64 3) else if f=50 then some (delE .i64 2) else if f=52 then some (srtE 53 29) else none
def quiet0 (_:FuncId):Bool:=false
end Go.AM.YtiolgkhfpnidfaaT
namespace Go.AM.YtiolgkhfpnidfaaT
open Go Go.AM Go.Proofs
set_option maxRecDepth 100000
abbrev xO:Option TI:=some ⟨.other,1,8,[.nilf],false⟩
abbrev xN:Tr TI:=.node .nil xO .nil
def tyT:Tr TI:=(.node (.node (.node (.node (.node (.node (.node .nil (some (⟨.int .i8,1,1,[.int .i8 0],false⟩)) .nil) xO (.node .nil (some (⟨.slice 100,1,24,[.nils],false⟩)) .nil)) (some (⟨.ptr 157,1,8,[.nilp],false⟩)) (.node (.node (.node .nil (some (⟨.ptr 3,1,8,[.nilp],false⟩)) .nil) xO .nil) xO .nil)) (some (⟨.struct [(0,2),(1,3),(2,4),(3,6)],4,24,[.int .i64 0,.int .i64 0,.bool false,.int .u8 0],true⟩)) (.node (.node (.node .nil (some (⟨.map 83 29,1,8,[.nilm],false⟩)) .nil) (some (⟨.slice 42,1,24,[.nils],false⟩)) .nil) xO (.node xN xO .nil))) (some (⟨.int .i64,1,8,[.int .i64 0],false⟩)) (.node (.node (.node xN none (.node xN none .nil)) (some (⟨.struct [(0,17)],1,8,[.nilp],false⟩)) (.node (.node .nil (some (⟨.struct [(0,3),(1,29)],2,16,[.int .i64 0,.int .u64 0],true⟩)) .nil) xO .nil)) (some (⟨.str,1,16,[.str []],false⟩)) (.node (.node (.node (.node .nil (some (⟨.int .u64,1,8,[.int .u64 0],false⟩)) .nil) xO .nil) none xN) xO (.node .nil (some (⟨.slice 3,1,24,[.nils],false⟩)) xN)))) xO (.node (.node (.node (.node (.node .nil (some (⟨.struct [(0,5),(1,5),(2,5),(3,63)],4,4,[.int .u8 0,.int .u8 0,.int .u8 0,.int .i8 0],true⟩)) .nil) (some (⟨.slice 29,1,24,[.nils],false⟩)) (.node (.node .nil (some (⟨.int .u8,1,1,[.int .u8 0],false⟩)) .nil) none .nil)) (some (⟨.ptr 168,1,8,[.nilp],false⟩)) (.node .nil (some (⟨.struct [(0,5),(1,2),(2,9)],3,32,[.int .u8 0,.int .i64 0,.str []],true⟩)) .nil)) (some (⟨.str,1,16,[.str []],false⟩)) (.node (.node .nil (some (⟨.struct [(0,40),(1,2),(2,9)],3,32,[.int .u8 0,.int .i64 0,.str []],true⟩)) .nil) (some (⟨.map 29 93,1,8,[.nilm],false⟩)) (.node .nil (some (⟨.slice 65,1,24,[.nils],false⟩)) .nil))) (some (⟨.int .u8,1,1,[.int .u8 0],false⟩)) (.node (.node (.node .nil (some (⟨.int .u8,1,1,[.int .u8 0],false⟩)) (.node (.node .nil (some (⟨.int .i32,1,4,[.int .i32 0],false⟩)) .nil) (some (⟨.ptr 100,1,8,[.nilp],false⟩)) .nil)) (some (⟨.int .i32,1,4,[.int .i32 0],false⟩)) xN) (some (⟨.struct [(0,9),(1,12)],2,24,[.str [],.int .u64 0],false⟩)) (.node (.node (.node xN xO .nil) xO xN) (some (⟨.int .u64,1,8,[.int .u64 0],false⟩)) (.node (.node (.node .nil (some (⟨.struct [(0,17),(1,17),(2,17),(3,9)],4,40,[.nilp,.nilp,.nilp,.str []],false⟩)) .nil) (some (⟨.struct [],0,0,[],false⟩)) .nil) none .nil))))) none (.node (.node (.node (.node (.node (.node (.node .nil (some (⟨.int .i64,1,8,[.int .i64 0],false⟩)) .nil) (some (⟨.struct [(0,5),(1,5),(2,5),(3,63)],4,4,[.int .u8 0,.int .u8 0,.int .u8 0,.int .i8 0],true⟩)) .nil) xO (.node (.node .nil (some (⟨.struct [(0,158)],0,0,[],false⟩)) .nil) (some (⟨.slice 90,1,24,[.nils],false⟩)) .nil)) (some (⟨.ptr 160,1,8,[.nilp],false⟩)) (.node xN xO .nil)) (some (⟨.struct [(0,2),(1,3),(2,4),(3,6)],4,24,[.int .i64 0,.int .i64 0,.bool false,.int .u8 0],false⟩)) (.node (.node (.node .nil (some (⟨.map 83 29,1,8,[.nilm],false⟩)) .nil) (some (⟨.int .u8,1,1,[.int .u8 0],false⟩)) (.node (.node .nil (some (⟨.struct [(0,12),(1,12),(2,90),(3,161),(4,5),(5,5),(6,162),(7,163),(8,164),(9,165),(10,166)],11,48,[.int .u64 0,.int .u64 0,.int .u32 0,.int .u8 0,.int .u8 0,.int .u8 0,.int .u8 0,.nilf,.nilp,.int .i32 0,.int .i32 0],false⟩)) .nil) none .nil)) (some (⟨.map 29 93,1,8,[.nilm],false⟩)) (.node (.node xN none .nil) none (.node .nil (some (⟨.int .u64,1,8,[.int .u64 0],false⟩)) .nil)))) (some (⟨.bool,1,1,[.bool false],false⟩)) (.node (.node (.node .nil none (.node (.node .nil (some (⟨.ptr 5,1,8,[.nilp],false⟩)) .nil) (some (⟨.struct [(0,90),(1,4),(2,44)],16,144,[.int .u32 0,.bool false,.int .u8 0,.int .i64 0,.bool false,.nilm,.int .i64 0,.int .i64 0,.nils,.int .u64 0,.int .u8 0,.int .i64 0,.str [],.int .i64 0,.int .u64 0,.int .i64 0],false⟩)) .nil)) (some (⟨.iface,1,16,[.nili],false⟩)) (.node (.node xN xO .nil) xO .nil)) (some (⟨.int .u64,1,8,[.int .u64 0],false⟩)) (.node (.node xN (some (⟨.struct [(0,37),(1,3),(2,4),(3,38),(4,3),(5,3),(6,39),(7,29),(8,42),(11,3),(12,29),(13,3)],14,136,[.int .u8 0,.int .i64 0,.bool false,.nilm,.int .i64 0,.int .i64 0,.nils,.int .u64 0,.int .u8 0,.int .i64 0,.str [],.int .i64 0,.int .u64 0,.int .i64 0],false⟩)) .nil) (some (⟨.int .u64,1,8,[.int .u64 0],false⟩)) (.node .nil (some (⟨.slice 2,1,24,[.nils],false⟩)) .nil)))) (some (⟨.int .i64,1,8,[.int .i64 0],false⟩)) (.node (.node (.node (.node xN (some (⟨.int .i64,1,8,[.int .i64 0],false⟩)) (.node (.node .nil (some (⟨.int .u8,1,1,[.int .u8 0],false⟩)) .nil) (some (⟨.struct [(0,95),(1,96),(2,59),(3,59)],4,96,[.nils,.nils,.nils,.nils],false⟩)) .nil)) (some (⟨.struct [(0,17)],1,8,[.nilp],false⟩)) (.node (.node .nil (some (⟨.struct [(0,3),(1,29)],2,16,[.int .i64 0,.int .u64 0],true⟩)) .nil) (some (⟨.struct [(0,5),(1,2),(2,9)],3,32,[.int .u8 0,.int .i64 0,.str []],true⟩)) xN)) (some (⟨.str,1,16,[.str []],false⟩)) (.node (.node xN (some (⟨.struct [(0,40),(1,2),(2,9)],3,32,[.int .u8 0,.int .i64 0,.str []],true⟩)) .nil) xO (.node (.node .nil (some (⟨.int .u32,1,4,[.int .u32 0],false⟩)) .nil) (some (⟨.ptr 62,1,8,[.nilp],false⟩)) .nil))) (some (⟨.int .u8,1,1,[.int .u8 0],false⟩)) (.node (.node (.node .nil (some (⟨.map 42 42,1,8,[.nilm],false⟩)) (.node (.node .nil (some (⟨.int .i32,1,4,[.int .i32 0],false⟩)) .nil) none .nil)) (some (⟨.slice 5,1,24,[.nils],false⟩)) (.node (.node (.node .nil (some (⟨.ptr 139,1,8,[.nilp],false⟩)) .nil) none .nil) xO .nil)) (some (⟨.struct [(0,9),(1,12)],2,24,[.str [],.int .u64 0],false⟩)) (.node (.node xN (some (⟨.ptr 44,1,8,[.nilp],false⟩)) .nil) (some (⟨.ptr 98,1,8,[.nilp],false⟩)) (.node (.node (.node .nil (some (⟨.arr 0 16,0,0,[],false⟩)) .nil) none .nil) (some (⟨.struct [(0,59),(1,33),(2,59),(3,60),(4,33)],5,120,[.nils,.nils,.nils,.nils,.nils],false⟩)) .nil))))))
def fnT:Tr Unit:=(.node (.node (.node (.node (.node .nil (some (())) (.node (.node .nil (some (())) .nil) (some (())) .nil)) (some (())) (.node (.node (.node .nil (some (())) .nil) none .nil) none (.node (.node .nil (some (())) .nil) (some (())) .nil))) none (.node (.node (.node (.node .nil (some (())) .nil) none .nil) (some (())) (.node (.node .nil (some (())) .nil) (some (())) .nil)) none (.node (.node (.node .nil (some (())) .nil) none .nil) none .nil))) none (.node (.node (.node (.node (.node .nil (some (())) .nil) none .nil) (some (())) (.node .nil (some (())) .nil)) none (.node (.node (.node .nil (some (())) .nil) (some (())) .nil) (some (())) .nil)) none (.node (.node .nil (some (())) (.node (.node .nil (some (())) .nil) (some (())) .nil)) none (.node (.node (.node .nil (some (())) .nil) (some (())) .nil) none .nil)))) none (.node (.node (.node (.node (.node (.node .nil (some (())) .nil) (some (())) (.node .nil (some (())) .nil)) (some (())) (.node (.node .nil (some (())) .nil) (some (())) .nil)) (some (())) (.node (.node (.node .nil (some (())) .nil) (some (())) .nil) (some (())) .nil)) (some (())) (.node (.node .nil (some (())) (.node (.node .nil (some (())) .nil) (some (())) .nil)) (some (())) (.node (.node (.node .nil (some (())) .nil) (some (())) .nil) none .nil))) none (.node (.node (.node (.node (.node .nil (some (())) .nil) none .nil) (some (())) (.node .nil (some (())) .nil)) none (.node (.node (.node .nil (some (())) .nil) (some (())) .nil) (some (())) (.node .nil (some (())) .nil))) none (.node (.node .nil none (.node (.node .nil (some (())) .nil) (some (())) .nil)) (some (())) (.node (.node (.node .nil (some (())) .nil) (some (())) .nil) none .nil)))))
def drT:Tr (Tr (List (Nat×Nat))):=(.node (.node (.node (.node .nil (some ((.node (.node (.node (.node (.node (.node .nil (some ([(0,0),(1,0),(2,0),(3,0),(4,0),(5,0),(6,0),(7,0),(8,0),(9,0),(10,0),(11,0),(12,0),(13,0)])) .nil) none .nil) none .nil) none .nil) none .nil) none .nil))) (.node (.node (.node .nil (some ((.node .nil none (.node (.node .nil (some ([(0,0),(1,0),(2,0),(3,0),(4,0),(5,0),(6,0),(7,0),(8,0),(9,0),(10,0),(11,0),(12,0),(13,0),(14,0),(15,0),(16,0)])) .nil) none (.node .nil (some ([(0,0),(1,0),(5,0),(6,0),(7,0),(8,0),(9,0),(10,0),(11,0),(12,0),(13,0),(14,0),(15,0),(2,1),(3,1),(4,1),(16,0),(17,0)])) .nil))))) .nil) none .nil) none .nil)) none (.node (.node .nil (some ((.node (.node (.node .nil (some ([(0,0),(1,0),(2,0),(3,0),(4,0),(5,0),(6,0),(7,0),(8,0),(9,0),(10,0),(11,0),(12,0),(13,0),(14,0),(15,0),(16,0)])) .nil) none (.node (.node .nil (some ([(0,0),(1,0),(2,0),(3,0),(4,0),(5,0),(6,0),(7,0),(8,0),(9,0),(10,0),(11,0),(12,0),(13,0),(14,0)])) .nil) none (.node .nil (some ([(0,0),(1,0),(2,0),(3,0),(4,0),(5,0),(6,0),(7,0),(8,0),(9,0),(10,0)])) .nil))) none (.node (.node (.node .nil (some ([(0,0),(1,0),(2,0),(3,0),(4,0),(5,0),(6,0),(7,0),(8,0),(9,0),(10,0),(11,0),(12,0)])) .nil) none (.node .nil (some ([(0,0),(3,0),(4,0),(5,0),(1,1),(2,1),(6,0),(7,0),(8,0)])) .nil)) none (.node .nil (some ([(1,0),(2,0),(3,0),(4,0),(5,0),(6,0),(7,0),(8,0),(9,0),(10,0),(11,0),(12,0),(0,1),(13,0),(14,0),(15,0)])) .nil))))) (.node (.node .nil (some ((.node (.node (.node .nil (some ([(0,0),(1,0),(2,0),(3,0),(4,0),(5,0),(6,0),(7,0),(8,0),(9,0),(10,0),(11,0),(12,0),(13,0),(14,0),(15,0),(16,0),(17,0),(18,0),(19,0),(20,0),(21,0)])) .nil) none (.node .nil (some ([(0,0),(1,0),(2,0),(3,0),(4,0),(5,0),(6,0),(7,0),(8,0),(9,0),(10,0),(11,0),(12,0),(13,0),(14,0),(15,0)])) .nil)) none (.node .nil none (.node .nil (some ([(0,0),(1,0),(2,0),(3,0),(8,0),(9,0),(10,0),(11,0),(12,0),(13,0),(14,0),(15,0),(16,0),(17,0),(18,0),(19,0),(20,0),(21,0),(4,1),(5,1),(6,1),(7,1),(22,0),(23,0)])) .nil))))) .nil) none .nil)) none (.node (.node (.node .nil (some ((.node (.node (.node .nil (some ([(0,0),(1,0),(4,0),(5,0),(6,0),(7,0),(8,0),(9,0),(10,0),(11,0),(12,0),(13,0),(2,1),(3,1),(14,0),(15,0)])) .nil) none .nil) none .nil))) .nil) none .nil) none .nil))) none (.node (.node (.node .nil none (.node .nil (some ((.node (.node .nil none (.node .nil (some ([(0,0),(1,0),(2,0),(3,0),(4,0),(5,0),(6,0),(7,0)])) .nil)) none .nil))) .nil)) none (.node (.node (.node .nil (some ((.node .nil none (.node .nil none (.node (.node .nil (some ([(0,0),(1,0),(6,0),(7,0),(8,0),(9,0),(10,0),(11,0),(12,0),(13,0),(14,0),(15,0),(16,0),(17,0),(2,1),(3,1),(4,1),(5,1),(18,0),(19,0)])) .nil) none .nil))))) .nil) none .nil) (some ((.node (.node (.node (.node .nil (some ([(0,0),(1,0),(2,0),(3,0),(4,0),(6,0),(7,0),(8,0),(12,0),(13,0),(14,0),(5,1),(9,1),(10,1),(11,1),(15,0),(16,0)])) .nil) (some ([(0,0),(1,0),(2,0),(3,0),(4,0),(5,0),(6,0),(7,0),(8,0),(9,0)])) (.node .nil (some ([(1,0),(2,0),(3,0),(4,0),(5,0),(6,0),(7,0),(8,0),(9,0),(10,0),(11,0),(0,1),(12,0),(13,0),(14,0)])) .nil)) none (.node (.node (.node (.node .nil (some ([(3,0),(4,0),(5,0),(6,0),(7,0),(8,0),(9,0),(10,0),(11,1),(12,1),(13,1),(14,1),(15,1),(16,1),(17,1),(18,0),(19,2),(20,2),(21,2),(22,2),(23,2),(24,2),(25,2),(26,0),(0,3),(27,0),(28,0),(29,0),(1,4),(30,0),(31,0),(32,0),(2,5),(33,0),(34,0),(35,0)])) .nil) none .nil) none .nil) none (.node .nil none (.node .nil (some ([(0,0),(1,0),(2,0),(3,0),(4,0),(5,0),(6,0),(7,0),(8,0),(9,0)])) .nil)))) none (.node (.node (.node (.node (.node .nil (some ([(1,0),(2,0),(3,0),(4,0),(5,0),(6,0),(7,0),(8,0),(9,0),(10,0),(11,0),(12,0),(13,0),(0,1),(14,0),(15,0),(16,0)])) .nil) none .nil) none .nil) none (.node .nil (some ([(0,0),(1,0),(2,0),(3,0),(4,0),(5,0),(6,1),(7,1),(8,1),(9,1),(10,1),(11,1),(12,0),(13,0)])) .nil)) none (.node (.node (.node .nil (some ([(0,0),(1,0),(2,0),(3,1),(4,1),(5,1),(6,1),(7,1),(8,1),(9,1),(10,0),(11,0)])) .nil) none .nil) none (.node (.node .nil (some ([(3,0),(4,0),(5,0),(6,0),(7,0),(8,0),(9,0),(10,1),(11,1),(12,1),(13,1),(14,1),(15,1),(16,0),(17,2),(18,2),(19,2),(20,2),(21,2),(22,2),(23,2),(24,2),(25,0),(0,3),(26,0),(27,0),(28,0),(1,4),(29,0),(30,0),(31,0),(2,5),(32,0),(33,0),(34,0)])) .nil) none .nil)))))) .nil)) none (.node (.node .nil (some ((.node .nil none (.node .nil (some ([(0,0),(1,0),(2,0),(3,0),(4,0),(5,0),(6,0),(7,0),(8,0),(9,0),(10,0),(11,0),(12,0),(13,0),(14,0),(15,0),(16,0),(17,0),(18,0),(27,0),(28,0),(19,1),(20,1),(21,1),(22,1),(23,1),(24,1),(25,1),(26,1),(29,0),(30,0)])) .nil)))) (.node (.node .nil (some ((.node (.node (.node .nil (some ([(0,0),(1,0),(2,0),(3,0),(4,0),(5,0),(6,0),(7,0),(8,0),(9,0)])) .nil) (some ([(0,0),(1,0),(2,0),(3,0),(4,0),(5,0),(6,0),(7,0),(8,0),(9,0)])) .nil) none (.node .nil (some ([(0,0),(1,0),(2,0),(3,0),(4,0),(5,0),(6,0),(7,0),(8,0),(9,0)])) .nil)))) .nil) none .nil)) none (.node (.node (.node .nil (some ((.node (.node (.node .nil (some ([(0,0),(1,0),(2,0),(3,0),(4,0),(5,0),(6,0),(7,0),(8,0),(9,0),(10,0),(11,0),(12,0),(13,0),(14,0),(15,0),(16,0)])) .nil) (some ([(0,0),(1,0),(4,0),(5,0),(6,0),(7,0),(8,0),(9,0),(10,0),(11,0),(12,0),(13,0),(2,1),(3,1),(14,0),(15,0)])) (.node .nil (some ([(0,0),(1,0),(2,0),(3,0),(4,0),(5,0),(6,0),(7,0),(8,0),(9,0),(10,0),(11,0),(12,0),(13,0),(14,0),(15,0)])) .nil)) none (.node (.node (.node .nil (some ([(0,0),(1,0),(4,0),(5,0),(6,0),(7,0),(8,0),(9,0),(10,0),(11,0),(12,0),(13,0),(2,1),(3,1),(14,0),(15,0)])) .nil) none .nil) none .nil)))) .nil) none .nil) none .nil)))) none (.node (.node (.node (.node (.node .nil none (.node .nil (some ((.node (.node .nil (some ([(0,0),(1,0),(2,0),(3,0),(4,0),(5,0),(6,0),(7,0),(8,0),(9,0),(10,0)])) .nil) none .nil))) .nil)) none .nil) none (.node (.node (.node .nil (some ((.node .nil none (.node .nil none (.node (.node .nil (some ([(0,0),(1,0),(6,0),(7,0),(8,0),(9,0),(10,0),(11,0),(12,0),(13,0),(14,0),(15,0),(16,0),(17,0),(2,1),(3,1),(4,1),(5,1),(18,0),(19,0)])) .nil) none .nil))))) .nil) (some ((.node (.node (.node .nil (some ([(0,0),(1,0),(2,0),(3,0),(4,0),(5,0),(6,0),(7,0),(8,0),(9,0),(10,0),(11,0),(12,0),(13,0),(14,0),(15,0),(16,0),(17,0),(18,0),(19,0),(20,0),(21,0),(22,0),(23,0)])) .nil) none .nil) none .nil))) .nil) (some ((.node (.node .nil none (.node .nil (some ([(0,0),(1,0),(2,0),(3,0),(4,0),(5,0),(6,0),(7,0)])) .nil)) none .nil))) .nil)) none (.node (.node .nil (some ((.node (.node (.node .nil (some ([(4,0),(5,0),(0,1),(1,1),(2,1),(3,1),(6,0),(7,0)])) .nil) none (.node .nil (some ([(5,0),(6,0),(1,1),(2,1),(3,1),(4,1),(7,0),(8,0),(0,2),(9,0),(10,0),(11,0)])) .nil)) none (.node .nil (some ([(0,0),(1,0),(2,0),(3,0),(4,0),(5,0),(6,0),(7,0),(8,0),(9,0),(10,0),(11,0),(12,0)])) .nil)))) .nil) none (.node (.node (.node .nil (some ((.node (.node (.node (.node .nil none (.node .nil (some ([(0,0),(1,0),(5,0),(6,0),(7,0),(8,0),(9,0),(10,0),(11,0),(12,0),(13,0),(14,0),(15,0),(2,1),(3,1),(4,1),(16,0),(17,0)])) .nil)) none (.node .nil (some ([(0,0),(1,0),(5,0),(6,0),(7,0),(8,0),(9,0),(10,0),(11,0),(12,0),(13,0),(14,0),(15,0),(2,1),(3,1),(4,1),(16,0),(17,0)])) .nil)) none (.node (.node (.node .nil (some ([(0,0),(1,0),(5,0),(6,0),(7,0),(8,0),(9,0),(10,0),(11,0),(12,0),(13,0),(14,0),(15,0),(2,1),(3,1),(4,1),(16,0),(17,0)])) .nil) none .nil) (some ([(0,0),(1,0),(2,0),(3,0),(4,0),(5,0),(6,0),(7,0),(8,0),(9,0),(10,0),(11,0),(12,0),(13,0),(14,0),(15,0),(16,0),(17,0)])) .nil)) none (.node (.node (.node (.node .nil (some ([(0,0),(1,0),(2,0),(3,0),(4,0),(5,0),(6,0),(7,0),(8,0),(9,0),(10,0),(11,0),(12,0)])) .nil) none .nil) none .nil) none (.node .nil none (.node (.node .nil (some ([(0,0),(1,0),(2,0),(3,0),(4,0),(5,0),(6,0),(7,0),(8,0),(9,0),(10,0),(11,0),(12,0)])) .nil) none .nil)))))) .nil) none .nil) none .nil))) none (.node (.node (.node (.node (.node .nil (some ((.node (.node .nil none (.node (.node (.node .nil (some ([(0,0),(1,0),(2,0),(3,0),(4,0),(5,0),(6,0),(7,0),(8,0),(9,0),(10,0),(11,0),(12,0),(13,0),(14,0),(15,0),(16,0)])) .nil) none .nil) none .nil)) none .nil))) .nil) none .nil) (some ((.node (.node .nil (some ([(2,0),(3,0),(4,0),(5,0),(6,0),(7,0),(8,0),(9,0),(10,1),(11,1),(12,1),(13,1),(14,1),(15,0),(0,2),(16,0),(17,0),(18,0),(1,3),(19,0),(20,0),(21,0)])) .nil) none .nil))) (.node .nil (some ((.node (.node .nil none (.node .nil (some ([(0,0),(1,0),(2,0),(3,0),(4,0),(5,0),(6,0),(7,0)])) .nil)) none .nil))) .nil)) none (.node .nil (some ((.node (.node .nil none (.node (.node .nil none (.node .nil (some ([(0,0),(1,0),(2,0),(3,0),(4,0),(5,0),(6,1),(7,1),(8,1),(9,1),(10,1),(11,0),(12,0),(13,0),(14,0),(15,0),(16,0),(17,0),(18,0),(19,0),(20,0),(21,0),(22,0),(23,0),(24,0),(25,0),(26,0)])) .nil)) (some ([(0,0),(1,0),(2,0),(3,0),(4,0),(5,0),(6,0),(7,0),(8,0),(9,0),(10,0),(11,0),(12,0),(13,0),(14,0),(15,0),(16,0),(17,0),(18,0),(19,0),(20,0),(21,0),(22,0),(23,0),(24,0),(25,0),(26,0),(27,0),(28,0),(29,0)])) .nil)) none .nil))) .nil)) none (.node (.node .nil none (.node .nil (some ((.node .nil none (.node .nil none (.node .nil (some ([(0,0),(1,0),(2,0),(3,0),(4,0),(5,0),(6,0),(7,0),(8,0)])) .nil))))) .nil)) none (.node (.node (.node .nil (some ((.node (.node (.node (.node (.node .nil (some ([(0,0),(1,0),(2,0),(3,0),(4,0),(5,0),(6,0),(7,0),(8,0),(9,0),(10,0),(11,0),(12,0),(13,0),(14,0),(15,0),(16,0)])) .nil) none .nil) (some ([(0,0),(1,0),(2,0),(3,0),(4,0),(5,0),(6,0),(7,0),(8,0),(9,0),(10,0),(11,0),(12,0),(13,0),(14,0),(15,0)])) .nil) (some ([(0,0),(1,0),(4,0),(5,0),(6,0),(7,0),(8,0),(9,0),(10,0),(11,0),(12,0),(13,0),(2,1),(3,1),(14,0),(15,0)])) (.node .nil (some ([(0,0),(1,0),(2,0),(3,0),(4,0),(5,0),(6,0),(7,0),(8,0),(9,0),(10,0),(11,0),(12,0),(13,0),(14,0),(15,0),(16,0)])) (.node (.node .nil (some ([(0,0),(1,0),(4,0),(5,0),(6,0),(7,0),(8,0),(9,0),(10,0),(11,0),(12,0),(13,0),(2,1),(3,1),(14,0),(15,0)])) .nil) (some ([(0,0),(1,0),(2,0),(3,0),(4,0),(5,0),(6,0),(7,0),(8,0),(9,0),(10,0),(11,0),(12,0),(13,0),(14,0),(15,0)])) .nil))) none (.node (.node (.node .nil (some ([(0,0),(1,0),(4,0),(5,0),(6,0),(7,0),(8,0),(9,0),(10,0),(11,0),(12,0),(13,0),(2,1),(3,1),(14,0),(15,0)])) .nil) none .nil) none (.node (.node (.node .nil (some ([(0,0),(1,0),(4,0),(5,0),(6,0),(7,0),(8,0),(9,0),(10,0),(11,0),(12,0),(13,0),(2,1),(3,1),(14,0),(15,0)])) .nil) (some ([(0,0),(1,0),(4,0),(5,0),(6,0),(7,0),(8,0),(9,0),(10,0),(11,0),(12,0),(13,0),(2,1),(3,1),(14,0),(15,0)])) .nil) none .nil))))) .nil) none .nil) none .nil)))))
def anT:Tr (Tr (List Nat)):=(.node (.node (.node (.node .nil (some ((.node (.node (.node (.node (.node (.node .nil (some ([0,1,3,7,15,31,63,7,135,391,903,1927,4095,8191])) .nil) none .nil) none .nil) none .nil) none .nil) none .nil))) (.node (.node (.node .nil (some ((.node .nil none (.node (.node .nil (some ([0,0,3,7,15,15,15,111,239,15,15,1039,3599,7695,16383,32767,65535])) .nil) none (.node .nil (some ([0,0,0,0,8,0,0,64,224,480,0,0,3072,7168,16355,32739,65535,131071])) .nil))))) .nil) none .nil) none .nil)) none (.node (.node .nil (some ((.node (.node (.node .nil (some ([0,1,3,7,0,16,63,127,0,256,768,1792,0,4096,16128,32512,65535])) .nil) none (.node (.node .nil (some ([0,0,2,6,14,0,32,96,224,480,992,2046,4095,8191,16383])) .nil) none (.node .nil (some ([0,1,3,7,0,16,63,127,255,511,1023])) .nil))) none (.node (.node (.node .nil (some ([0,1,3,7,0,16,48,112,240,496,1023,2047,4095])) .nil) none (.node .nil (some ([0,0,0,1,9,25,63,127,255])) .nil)) none (.node .nil (some ([0,0,2,6,14,0,32,96,224,480,992,2016,4094,8191,16383,32767])) .nil))))) (.node (.node .nil (some ((.node (.node (.node .nil (some ([0,1,0,7,15,31,31,31,31,415,991,2015,31,31,31,24607,57375,127007,258079,524287,1048575,2097151])) .nil) none (.node .nil (some ([0,0,0,0,12,30,62,0,0,0,768,1920,3968,8191,16383,32767])) .nil)) none (.node .nil none (.node .nil (some ([0,0,0,6,0,0,0,96,0,0,0,1536,3840,7936,0,0,0,98304,245760,507904,1048335,2096911,4194303,8388607])) .nil))))) .nil) none .nil)) none (.node (.node (.node .nil (some ((.node (.node (.node .nil (some ([0,0,0,0,0,0,48,112,0,0,768,1792,4083,8179,16383,32767])) .nil) none .nil) none .nil))) .nil) none .nil) none .nil))) none (.node (.node (.node .nil none (.node .nil (some ((.node (.node .nil none (.node .nil (some ([0,0,3,0,0,24,63,127])) .nil)) none .nil))) .nil)) none (.node (.node (.node .nil (some ((.node .nil none (.node .nil none (.node (.node .nil (some ([0,0,0,0,0,24,0,0,0,384,960,1984,0,0,12288,28672,65475,131011,262143,524287])) .nil) none .nil))))) .nil) none .nil) (some ((.node (.node (.node (.node .nil (some ([0,0,2,6,14,0,0,64,192,0,512,1536,479,4575,12767,32767,65535])) .nil) (some ([0,1,3,0,8,24,56,120,255,511])) (.node .nil (some ([0,0,2,6,14,0,32,96,224,480,992,2046,4095,8191,16383])) .nil)) none (.node (.node (.node (.node .nil (some ([0,0,0,0,8,24,56,0,0,256,1016,0,2048,6144,14336,0,0,65536,262136,0,524288,1572864,3670016,0,0,16777216,67108856,134217721,268435449,536870905,1073741819,2147483643,4294967291,8589934591,17179869183,34359738367])) .nil) none .nil) none .nil) none (.node .nil none (.node .nil (some ([0,1,3,0,8,24,56,120,255,511])) .nil)))) none (.node (.node (.node (.node (.node .nil (some ([0,0,2,6,14,0,32,96,224,0,992,2016,4064,8190,16383,32767,65535])) .nil) none .nil) none .nil) none (.node .nil (some ([0,0,2,6,14,31,0,64,192,448,960,1984,4095,8191])) .nil)) none (.node (.node (.node .nil (some ([0,0,3,0,8,24,56,0,248,504,1023,2047])) .nil) none .nil) none (.node (.node .nil (some ([0,0,0,0,8,24,56,0,128,504,0,1024,3072,7168,0,16384,65528,0,131072,393216,917504,0,2097152,6291456,14680064,33554424,67108857,134217721,268435449,536870907,1073741819,2147483643,4294967295,8589934591,17179869183])) .nil) none .nil)))))) .nil)) none (.node (.node .nil (some ((.node .nil none (.node .nil (some ([0,0,2,6,14,30,63,127,255,511,1023,2047,255,8191,16383,32767,65535,131071,262143,524287,1048575,2097151,4194303,524287,16777215,33554431,67108863,524287,134742015,536870911,1073741823])) .nil)))) (.node (.node .nil (some ((.node (.node (.node .nil (some ([0,1,3,0,8,24,56,127,255,511])) .nil) (some ([0,1,3,0,8,24,56,127,255,511])) .nil) none (.node .nil (some ([0,1,3,0,8,24,56,127,255,511])) .nil)))) .nil) none .nil)) none (.node (.node (.node .nil (some ((.node (.node (.node .nil (some ([0,0,3,7,15,15,15,111,239,15,15,1551,3599,8191,16383,32767,65535])) .nil) (some ([0,0,0,0,0,0,48,112,0,0,768,1792,4083,8179,16383,32767])) (.node .nil (some ([0,0,3,7,15,15,15,111,239,15,15,1551,3599,8191,16383,32767])) .nil)) none (.node (.node (.node .nil (some ([0,0,0,0,0,0,48,112,0,0,768,1792,4083,8179,16383,32767])) .nil) none .nil) none .nil)))) .nil) none .nil) none .nil)))) none (.node (.node (.node (.node (.node .nil none (.node .nil (some ((.node (.node .nil (some ([0,0,0,6,14,0,0,96,224,511,1023])) .nil) none .nil))) .nil)) none .nil) none (.node (.node (.node .nil (some ((.node .nil none (.node .nil none (.node (.node .nil (some ([0,0,0,0,0,24,0,0,0,384,960,1984,0,0,12288,28672,65475,131011,262143,524287])) .nil) none .nil))))) .nil) (some ((.node (.node (.node .nil (some ([0,1,3,7,0,31,63,0,128,384,896,0,3968,8064,0,16384,49152,114688,0,507904,1032192,2097024,127,8388607])) .nil) none .nil) none .nil))) .nil) (some ((.node (.node .nil none (.node .nil (some ([0,0,3,0,0,24,63,127])) .nil)) none .nil))) .nil)) none (.node (.node .nil (some ((.node (.node (.node .nil (some ([0,1,3,7,0,16,63,127])) .nil) none (.node .nil (some ([0,0,2,6,14,0,32,96,254,511,1023,2047])) .nil)) none (.node .nil (some ([0,1,3,7,0,16,48,112,255,511,1023,2047,4095])) .nil)))) .nil) none (.node (.node (.node .nil (some ((.node (.node (.node (.node .nil none (.node .nil (some ([0,0,0,0,8,0,0,64,224,480,0,0,3072,7168,16355,32739,65535,131071])) .nil)) none (.node .nil (some ([0,0,0,0,8,0,0,64,224,480,0,0,3072,7168,16355,32739,65535,131071])) .nil)) none (.node (.node (.node .nil (some ([0,0,0,0,8,0,0,64,224,480,0,0,3072,7168,16355,32739,65535,131071])) .nil) none .nil) (some ([0,0,3,7,15,15,15,111,239,15,15,1039,3599,7695,16383,32767,65535,131071])) .nil)) none (.node (.node (.node (.node .nil (some ([0,0,0,6,14,0,0,64,224,480,1023,2047,4095])) .nil) none .nil) none .nil) none (.node .nil none (.node (.node .nil (some ([0,0,0,6,14,0,0,64,224,480,1023,2047,4095])) .nil) none .nil)))))) .nil) none .nil) none .nil))) none (.node (.node (.node (.node (.node .nil (some ((.node (.node .nil none (.node (.node (.node .nil (some ([0,1,3,7,7,7,39,119,247,7,7,1543,3591,8191,16383,32767,65535])) .nil) none .nil) none .nil)) none .nil))) .nil) none .nil) (some ((.node (.node .nil (some ([0,0,0,4,12,28,0,64,192,508,0,1024,3072,7168,0,32764,65533,131069,262141,524287,1048575,2097151])) .nil) none .nil))) (.node .nil (some ((.node (.node .nil none (.node .nil (some ([0,0,3,0,0,24,63,127])) .nil)) none .nil))) .nil)) none (.node .nil (some ((.node (.node .nil none (.node (.node .nil none (.node .nil (some ([0,0,3,7,15,31,15,79,207,463,975,2047,4095,8191,16383,32767,65535,131071,262143,524287,1048575,2097151,4194303,8388607,16777215,33554431,67108863])) .nil)) (some ([0,1,3,7,15,31,63,7,135,391,903,7,3975,8071,16383,32767,65535,131071,262143,524287,1048575,131071,2228223,6422527,14811135,131071,65142783,132251647,268435455,536870911])) .nil)) none .nil))) .nil)) none (.node (.node .nil none (.node .nil (some ((.node .nil none (.node .nil none (.node .nil (some ([0,0,3,7,0,0,48,112,255])) .nil))))) .nil)) none (.node (.node (.node .nil (some ((.node (.node (.node (.node (.node .nil (some ([0,0,3,7,15,15,15,111,239,15,15,1551,3599,8191,16383,32767,65535])) .nil) none .nil) (some ([0,0,3,7,15,15,15,111,239,15,15,1551,3599,8191,16383,32767])) .nil) (some ([0,0,0,0,0,0,48,112,0,0,768,1792,4083,8179,16383,32767])) (.node .nil (some ([0,0,3,7,15,15,15,111,239,15,15,1551,3599,8191,16383,32767,65535])) (.node (.node .nil (some ([0,0,0,0,0,0,48,112,0,0,768,1792,4083,8179,16383,32767])) .nil) (some ([0,0,3,7,15,15,15,111,239,15,15,1551,3599,8191,16383,32767])) .nil))) none (.node (.node (.node .nil (some ([0,0,0,0,0,0,48,112,0,0,768,1792,4083,8179,16383,32767])) .nil) none .nil) none (.node (.node (.node .nil (some ([0,0,0,0,0,0,48,112,0,0,768,1792,4083,8179,16383,32767])) .nil) (some ([0,0,0,0,0,0,48,112,0,0,768,1792,4083,8179,16383,32767])) .nil) none .nil))))) .nil) none .nil) none .nil)))))
def an (f:FuncId) (id:Nat):List Nat:=match anT.get f with | some t=>(match t.get id with | some l=>l | none=>[]) | none=>[]
noncomputable def tab:Tab where
 ty:=tyT.get
 fn f:=match fnT.get f with | some _=>Try.prog.funcs[f]? | none=>none
 ng:=0
 dr f id:=match drT.get f with | some t=>t.get id | none=>none
 ext:=ext0
 quiet:=quiet0
 alt f id:=none
theorem tab_ng:tab.ng=0:=Eq.trans rfl rfl
theorem ty1:tab.ty 1=some ⟨.other,1,8,[.nilf],false⟩:=Eq.trans rfl rfl
theorem ty2:tab.ty 2=some ⟨.int .i64,1,8,[.int .i64 0],false⟩:=Eq.trans rfl rfl
theorem ty3:tab.ty 3=some ⟨.int .i64,1,8,[.int .i64 0],false⟩:=Eq.trans rfl rfl
theorem ty4:tab.ty 4=some ⟨.bool,1,1,[.bool false],false⟩:=Eq.trans rfl rfl
theorem ty5:tab.ty 5=some ⟨.int .u8,1,1,[.int .u8 0],false⟩:=Eq.trans rfl rfl
theorem ty6:tab.ty 6=some ⟨.int .u8,1,1,[.int .u8 0],false⟩:=Eq.trans rfl rfl
theorem ty7:tab.ty 7=some ⟨.struct [(0,2),(1,3),(2,4),(3,6)],4,24,[.int .i64 0,.int .i64 0,.bool false,.int .u8 0],true⟩:=Eq.trans rfl rfl
theorem ty8:tab.ty 8=some ⟨.struct [(0,2),(1,3),(2,4),(3,6)],4,24,[.int .i64 0,.int .i64 0,.bool false,.int .u8 0],false⟩:=Eq.trans rfl rfl
theorem ty9:tab.ty 9=some ⟨.str,1,16,[.str []],false⟩:=Eq.trans rfl rfl
theorem ty10:tab.ty 10=some ⟨.str,1,16,[.str []],false⟩:=Eq.trans rfl rfl
theorem ty11:tab.ty 11=some ⟨.str,1,16,[.str []],false⟩:=Eq.trans rfl rfl
theorem ty12:tab.ty 12=some ⟨.int .u64,1,8,[.int .u64 0],false⟩:=Eq.trans rfl rfl
theorem ty13:tab.ty 13=some ⟨.struct [(0,9),(1,12)],2,24,[.str [],.int .u64 0],false⟩:=Eq.trans rfl rfl
theorem ty14:tab.ty 14=some ⟨.struct [(0,9),(1,12)],2,24,[.str [],.int .u64 0],false⟩:=Eq.trans rfl rfl
theorem ty15:tab.ty 15=some ⟨.ptr 157,1,8,[.nilp],false⟩:=Eq.trans rfl rfl
theorem ty16:tab.ty 16=some ⟨.ptr 160,1,8,[.nilp],false⟩:=Eq.trans rfl rfl
theorem ty17:tab.ty 17=some ⟨.ptr 168,1,8,[.nilp],false⟩:=Eq.trans rfl rfl
theorem ty18:tab.ty 18=some ⟨.struct [(0,17)],1,8,[.nilp],false⟩:=Eq.trans rfl rfl
theorem ty19:tab.ty 19=some ⟨.struct [(0,17)],1,8,[.nilp],false⟩:=Eq.trans rfl rfl
theorem ty20:tab.ty 20=some ⟨.iface,1,16,[.nili],false⟩:=Eq.trans rfl rfl
theorem ty21:tab.ty 21=some ⟨.int .i32,1,4,[.int .i32 0],false⟩:=Eq.trans rfl rfl
theorem ty22:tab.ty 22=some ⟨.slice 5,1,24,[.nils],false⟩:=Eq.trans rfl rfl
theorem ty23:tab.ty 23=some ⟨.other,1,8,[.nilf],false⟩:=Eq.trans rfl rfl
theorem ty24:tab.ty 24=some ⟨.map 29 93,1,8,[.nilm],false⟩:=Eq.trans rfl rfl
theorem ty25:tab.ty 25=some ⟨.map 29 93,1,8,[.nilm],false⟩:=Eq.trans rfl rfl
theorem ty26:tab.ty 26=some ⟨.other,1,8,[.nilf],false⟩:=Eq.trans rfl rfl
theorem ty27:tab.ty 27=some ⟨.other,1,8,[.nilf],false⟩:=Eq.trans rfl rfl
theorem ty28:tab.ty 28=some ⟨.int .u64,1,8,[.int .u64 0],false⟩:=Eq.trans rfl rfl
theorem ty29:tab.ty 29=some ⟨.int .u64,1,8,[.int .u64 0],false⟩:=Eq.trans rfl rfl
theorem ty30:tab.ty 30=some ⟨.ptr 98,1,8,[.nilp],false⟩:=Eq.trans rfl rfl
theorem ty31:tab.ty 31=some ⟨.other,1,8,[.nilf],false⟩:=Eq.trans rfl rfl
theorem ty32:tab.ty 32=some ⟨.other,1,8,[.nilf],false⟩:=Eq.trans rfl rfl
theorem ty33:tab.ty 33=some ⟨.slice 29,1,24,[.nils],false⟩:=Eq.trans rfl rfl
theorem ty34:tab.ty 34=some ⟨.int .i64,1,8,[.int .i64 0],false⟩:=Eq.trans rfl rfl
theorem ty37:tab.ty 37=some ⟨.int .u8,1,1,[.int .u8 0],false⟩:=Eq.trans rfl rfl
theorem ty38:tab.ty 38=some ⟨.map 42 42,1,8,[.nilm],false⟩:=Eq.trans rfl rfl
theorem ty39:tab.ty 39=some ⟨.slice 42,1,24,[.nils],false⟩:=Eq.trans rfl rfl
theorem ty40:tab.ty 40=some ⟨.int .u8,1,1,[.int .u8 0],false⟩:=Eq.trans rfl rfl
theorem ty41:tab.ty 41=some ⟨.struct [(0,40),(1,2),(2,9)],3,32,[.int .u8 0,.int .i64 0,.str []],true⟩:=Eq.trans rfl rfl
theorem ty42:tab.ty 42=some ⟨.struct [(0,40),(1,2),(2,9)],3,32,[.int .u8 0,.int .i64 0,.str []],true⟩:=Eq.trans rfl rfl
theorem ty44:tab.ty 44=some ⟨.struct [(0,37),(1,3),(2,4),(3,38),(4,3),(5,3),(6,39),(7,29),(8,42),(11,3),(12,29),(13,3)],14,136,[.int .u8 0,.int .i64 0,.bool false,.nilm,.int .i64 0,.int .i64 0,.nils,.int .u64 0,.int .u8 0,.int .i64 0,.str [],.int .i64 0,.int .u64 0,.int .i64 0],false⟩:=Eq.trans rfl rfl
theorem ty45:tab.ty 45=some ⟨.other,1,8,[.nilf],false⟩:=Eq.trans rfl rfl
theorem ty46:tab.ty 46=some ⟨.ptr 44,1,8,[.nilp],false⟩:=Eq.trans rfl rfl
theorem ty47:tab.ty 47=some ⟨.other,1,8,[.nilf],false⟩:=Eq.trans rfl rfl
theorem ty48:tab.ty 48=some ⟨.other,1,8,[.nilf],false⟩:=Eq.trans rfl rfl
theorem ty49:tab.ty 49=some ⟨.struct [(0,5),(1,2),(2,9)],3,32,[.int .u8 0,.int .i64 0,.str []],true⟩:=Eq.trans rfl rfl
theorem ty50:tab.ty 50=some ⟨.struct [(0,5),(1,2),(2,9)],3,32,[.int .u8 0,.int .i64 0,.str []],true⟩:=Eq.trans rfl rfl
theorem ty51:tab.ty 51=some ⟨.other,1,8,[.nilf],false⟩:=Eq.trans rfl rfl
theorem ty52:tab.ty 52=some ⟨.other,1,8,[.nilf],false⟩:=Eq.trans rfl rfl
theorem ty53:tab.ty 53=some ⟨.other,1,8,[.nilf],false⟩:=Eq.trans rfl rfl
theorem ty54:tab.ty 54=some ⟨.other,1,8,[.nilf],false⟩:=Eq.trans rfl rfl
theorem ty55:tab.ty 55=some ⟨.other,1,8,[.nilf],false⟩:=Eq.trans rfl rfl
theorem ty57:tab.ty 57=some ⟨.slice 65,1,24,[.nils],false⟩:=Eq.trans rfl rfl
theorem ty58:tab.ty 58=some ⟨.ptr 62,1,8,[.nilp],false⟩:=Eq.trans rfl rfl
theorem ty59:tab.ty 59=some ⟨.slice 3,1,24,[.nils],false⟩:=Eq.trans rfl rfl
theorem ty60:tab.ty 60=some ⟨.slice 2,1,24,[.nils],false⟩:=Eq.trans rfl rfl
theorem ty62:tab.ty 62=some ⟨.struct [(0,59),(1,33),(2,59),(3,60),(4,33)],5,120,[.nils,.nils,.nils,.nils,.nils],false⟩:=Eq.trans rfl rfl
theorem ty63:tab.ty 63=some ⟨.int .i8,1,1,[.int .i8 0],false⟩:=Eq.trans rfl rfl
theorem ty64:tab.ty 64=some ⟨.struct [(0,5),(1,5),(2,5),(3,63)],4,4,[.int .u8 0,.int .u8 0,.int .u8 0,.int .i8 0],true⟩:=Eq.trans rfl rfl
theorem ty65:tab.ty 65=some ⟨.struct [(0,5),(1,5),(2,5),(3,63)],4,4,[.int .u8 0,.int .u8 0,.int .u8 0,.int .i8 0],true⟩:=Eq.trans rfl rfl
theorem ty66:tab.ty 66=some ⟨.other,1,8,[.nilf],false⟩:=Eq.trans rfl rfl
theorem ty67:tab.ty 67=some ⟨.other,1,8,[.nilf],false⟩:=Eq.trans rfl rfl
theorem ty71:tab.ty 71=some ⟨.map 83 29,1,8,[.nilm],false⟩:=Eq.trans rfl rfl
theorem ty72:tab.ty 72=some ⟨.map 83 29,1,8,[.nilm],false⟩:=Eq.trans rfl rfl
theorem ty74:tab.ty 74=some ⟨.other,1,8,[.nilf],false⟩:=Eq.trans rfl rfl
theorem ty75:tab.ty 75=some ⟨.other,1,8,[.nilf],false⟩:=Eq.trans rfl rfl
theorem ty76:tab.ty 76=some ⟨.other,1,8,[.nilf],false⟩:=Eq.trans rfl rfl
theorem ty77:tab.ty 77=some ⟨.other,1,8,[.nilf],false⟩:=Eq.trans rfl rfl
theorem ty78:tab.ty 78=some ⟨.other,1,8,[.nilf],false⟩:=Eq.trans rfl rfl
theorem ty79:tab.ty 79=some ⟨.other,1,8,[.nilf],false⟩:=Eq.trans rfl rfl
theorem ty80:tab.ty 80=some ⟨.other,1,8,[.nilf],false⟩:=Eq.trans rfl rfl
theorem ty82:tab.ty 82=some ⟨.struct [(0,3),(1,29)],2,16,[.int .i64 0,.int .u64 0],true⟩:=Eq.trans rfl rfl
theorem ty83:tab.ty 83=some ⟨.struct [(0,3),(1,29)],2,16,[.int .i64 0,.int .u64 0],true⟩:=Eq.trans rfl rfl
theorem ty84:tab.ty 84=some ⟨.other,1,8,[.nilf],false⟩:=Eq.trans rfl rfl
theorem ty87:tab.ty 87=some ⟨.other,1,8,[.nilf],false⟩:=Eq.trans rfl rfl
theorem ty90:tab.ty 90=some ⟨.int .u32,1,4,[.int .u32 0],false⟩:=Eq.trans rfl rfl
theorem ty93:tab.ty 93=some ⟨.struct [],0,0,[],false⟩:=Eq.trans rfl rfl
theorem ty95:tab.ty 95=some ⟨.slice 100,1,24,[.nils],false⟩:=Eq.trans rfl rfl
theorem ty96:tab.ty 96=some ⟨.slice 90,1,24,[.nils],false⟩:=Eq.trans rfl rfl
theorem ty98:tab.ty 98=some ⟨.struct [(0,95),(1,96),(2,59),(3,59)],4,96,[.nils,.nils,.nils,.nils],false⟩:=Eq.trans rfl rfl
theorem ty100:tab.ty 100=some ⟨.struct [(0,90),(1,4),(2,44)],16,144,[.int .u32 0,.bool false,.int .u8 0,.int .i64 0,.bool false,.nilm,.int .i64 0,.int .i64 0,.nils,.int .u64 0,.int .u8 0,.int .i64 0,.str [],.int .i64 0,.int .u64 0,.int .i64 0],false⟩:=Eq.trans rfl rfl
theorem ty101:tab.ty 101=some ⟨.ptr 100,1,8,[.nilp],false⟩:=Eq.trans rfl rfl
theorem ty107:tab.ty 107=some ⟨.other,1,8,[.nilf],false⟩:=Eq.trans rfl rfl
theorem ty109:tab.ty 109=some ⟨.other,1,8,[.nilf],false⟩:=Eq.trans rfl rfl
theorem ty114:tab.ty 114=some ⟨.other,1,8,[.nilf],false⟩:=Eq.trans rfl rfl
theorem ty120:tab.ty 120=some ⟨.int .u64,1,8,[.int .u64 0],false⟩:=Eq.trans rfl rfl
theorem ty123:tab.ty 123=some ⟨.other,1,8,[.nilf],false⟩:=Eq.trans rfl rfl
theorem ty128:tab.ty 128=some ⟨.int .i64,1,8,[.int .i64 0],false⟩:=Eq.trans rfl rfl
theorem ty139:tab.ty 139=some ⟨.int .u64,1,8,[.int .u64 0],false⟩:=Eq.trans rfl rfl
theorem ty141:tab.ty 141=some ⟨.other,1,8,[.nilf],false⟩:=Eq.trans rfl rfl
theorem ty143:tab.ty 143=some ⟨.ptr 3,1,8,[.nilp],false⟩:=Eq.trans rfl rfl
theorem ty148:tab.ty 148=some ⟨.other,1,8,[.nilf],false⟩:=Eq.trans rfl rfl
theorem ty150:tab.ty 150=some ⟨.ptr 139,1,8,[.nilp],false⟩:=Eq.trans rfl rfl
theorem ty152:tab.ty 152=some ⟨.other,1,8,[.nilf],false⟩:=Eq.trans rfl rfl
theorem ty157:tab.ty 157=some ⟨.struct [(0,17),(1,17),(2,17),(3,9)],4,40,[.nilp,.nilp,.nilp,.str []],false⟩:=Eq.trans rfl rfl
theorem ty158:tab.ty 158=some ⟨.arr 0 16,0,0,[],false⟩:=Eq.trans rfl rfl
theorem ty160:tab.ty 160=some ⟨.struct [(0,158)],0,0,[],false⟩:=Eq.trans rfl rfl
theorem ty161:tab.ty 161=some ⟨.int .u8,1,1,[.int .u8 0],false⟩:=Eq.trans rfl rfl
theorem ty162:tab.ty 162=some ⟨.int .u8,1,1,[.int .u8 0],false⟩:=Eq.trans rfl rfl
theorem ty163:tab.ty 163=some ⟨.other,1,8,[.nilf],false⟩:=Eq.trans rfl rfl
theorem ty164:tab.ty 164=some ⟨.ptr 5,1,8,[.nilp],false⟩:=Eq.trans rfl rfl
theorem ty165:tab.ty 165=some ⟨.int .i32,1,4,[.int .i32 0],false⟩:=Eq.trans rfl rfl
theorem ty166:tab.ty 166=some ⟨.int .i32,1,4,[.int .i32 0],false⟩:=Eq.trans rfl rfl
theorem ty168:tab.ty 168=some ⟨.struct [(0,12),(1,12),(2,90),(3,161),(4,5),(5,5),(6,162),(7,163),(8,164),(9,165),(10,166)],11,48,[.int .u64 0,.int .u64 0,.int .u32 0,.int .u8 0,.int .u8 0,.int .u8 0,.int .u8 0,.nilf,.nilp,.int .i32 0,.int .i32 0],false⟩:=Eq.trans rfl rfl
theorem fn8:tab.fn 8=some Try.f8:=Try.func8
theorem fn17:tab.fn 17=some Try.f17:=Try.func17
theorem fn18:tab.fn 18=some Try.f18:=Try.func18
theorem fn19:tab.fn 19=some Try.f19:=Try.func19
theorem fn20:tab.fn 20=some Try.f20:=Try.func20
theorem fn21:tab.fn 21=some Try.f21:=Try.func21
theorem fn24:tab.fn 24=some Try.f24:=Try.func24
theorem fn25:tab.fn 25=some Try.f25:=Try.func25
theorem fn26:tab.fn 26=some Try.f26:=Try.func26
theorem fn32:tab.fn 32=some Try.f32:=Try.func32
theorem fn40:tab.fn 40=some Try.f40:=Try.func40
theorem fn41:tab.fn 41=some Try.f41:=Try.func41
theorem fn42:tab.fn 42=some Try.f42:=Try.func42
theorem fn45:tab.fn 45=some Try.f45:=Try.func45
theorem fn46:tab.fn 46=some Try.f46:=Try.func46
theorem fn47:tab.fn 47=some Try.f47:=Try.func47
theorem fn48:tab.fn 48=some Try.f48:=Try.func48
theorem fn49:tab.fn 49=some Try.f49:=Try.func49
theorem fn50:tab.fn 50=some Try.f50:=Try.func50
theorem fn51:tab.fn 51=some Try.f51:=Try.func51
theorem fn52:tab.fn 52=some Try.f52:=Try.func52
theorem fn54:tab.fn 54=some Try.f54:=Try.func54
theorem fn55:tab.fn 55=some Try.f55:=Try.func55
theorem fn65:tab.fn 65=some Try.f65:=Try.func65
theorem ty_ok:Tr.allF (fun t i=>tiOk Try.prog t i) tyT (fun n=>n)=true:=by kernel_rfl
theorem fn_ok:Tr.allF (fun f _=>match tab.fn f with | some fn=>fnOk tab an f fn | none=>true) fnT (fun n=>n)=true:=by kernel_rfl
theorem tabOk:TabOk tab Try.prog where
 ty:=fun t i h=>Tr.allF_get _ tyT _ ty_ok t i h
 fn:=fun f fn h=>by
  have h:(match fnT.get f with | some _=>Try.prog.funcs[f]? | none=>none)=some fn:=h
  split at h
  ·exact h
  ·cases h
theorem mixedOk:Try.prog.follows .mixedOrders=true:=by kernel_rfl
theorem codeOk (f:FuncId) (fn:Func) (h:tab.fn f=some fn):fnOk tab an f fn=true:=by
 have h' : (match fnT.get f with | some _=>Try.prog.funcs[f]? | none=>none)=some fn:=h
 split at h'
 ·rename_i u hu
  have:=Tr.allF_get _ fnT _ fn_ok f u hu
  simp only [h] at this
  exact this
 ·cases h'
theorem ok (h1:ExtOk tab Try.prog) (h2:ExtGood tab) (h3:QuietOk tab Try.prog):ProgOk tab Try.prog an:=⟨h1,h2,tabOk,mixedOk,codeOk,h3⟩
#print axioms ok
end Go.AM.YtiolgkhfpnidfaaT
namespace Go.Proofs
open Go.Shelf
def Try.srt52_ren:Go.Shelf.Ren:=⟨fun | 6=>52 | 15=>67 | 14=>66 | 28=>79 | 29=>80 | 20=>71 | 21=>72 | 22=>73 | 23=>74 | 24=>75 | 25=>76 | 26=>77 | 27=>78 | 46=>83 | 47=>84 | 48=>85 | 49=>86 | 50=>87 | 57=>96 | n=>n,fun | 22=>33 | 24=>29 | 25=>107 | 3=>3 | 39=>120 | 0=>0 | 53=>90 | 55=>28 | 4=>4 | 46=>129 | 45=>128 | 50=>133 | 5=>5 | 9=>9 | 66=>139 | 70=>143 | 76=>150 | 77=>86 | n=>n,fun | n=>n⟩
theorem Try.srt52:Go.Proofs.SlLaysF.n6 Try.prog Try.srt52_ren:={
 mixed:=by kernel_rfl
 f6:=⟨Try.f52.name,by decide,Try.func52.trans (congrArg some (by kernel_rfl))⟩
 f14:=⟨Try.f66.name,by decide,Try.func66.trans (congrArg some (by kernel_rfl))⟩
 f15:=Try.func67.trans (congrArg some (by kernel_rfl))
 f20:=⟨Try.f71.name,by decide,Try.func71.trans (congrArg some (by kernel_rfl))⟩
 f21:=⟨Try.f72.name,by decide,Try.func72.trans (congrArg some (by kernel_rfl))⟩
 f22:=⟨Try.f73.name,by decide,Try.func73.trans (congrArg some (by kernel_rfl))⟩
 f23:=⟨Try.f74.name,by decide,Try.func74.trans (congrArg some (by kernel_rfl))⟩
 f24:=⟨Try.f75.name,by decide,Try.func75.trans (congrArg some (by kernel_rfl))⟩
 f25:=⟨Try.f76.name,by decide,Try.func76.trans (congrArg some (by kernel_rfl))⟩
 f26:=⟨Try.f77.name,by decide,Try.func77.trans (congrArg some (by kernel_rfl))⟩
 f27:=⟨Try.f78.name,by decide,Try.func78.trans (congrArg some (by kernel_rfl))⟩
 f28:=Try.func79.trans (congrArg some (by kernel_rfl))
 f29:=Try.func80.trans (congrArg some (by kernel_rfl))
 f46:=⟨Try.f83.name,by decide,Try.func83.trans (congrArg some (by kernel_rfl))⟩
 f47:=Try.func84.trans (congrArg some (by kernel_rfl))
 f48:=Try.func85.trans (congrArg some (by kernel_rfl))
 f49:=⟨Try.f86.name,by decide,Try.func86.trans (congrArg some (by kernel_rfl))⟩
 f50:=⟨Try.f87.name,by decide,Try.func87.trans (congrArg some (by kernel_rfl))⟩
 f57:=⟨Try.f96.name,by decide,Try.func96.trans (congrArg some (by kernel_rfl))⟩
 t0:=Try.underlying0
 a0:=Try.isAgg0
 z0:=Try.sizeOf0
 v0:=Try.zeroValue0
 t3:=Try.underlying3
 a3:=Try.isAgg3
 z3:=Try.sizeOf3
 v3:=Try.zeroValue3
 t4:=Try.underlying4
 a4:=Try.isAgg4
 z4:=Try.sizeOf4
 v4:=Try.zeroValue4
 t5:=Try.underlying5
 a5:=Try.isAgg5
 z5:=Try.sizeOf5
 v5:=Try.zeroValue5
 t9:=Try.underlying9
 a9:=Try.isAgg9
 z9:=Try.sizeOf9
 v9:=Try.zeroValue9
 t22:=Try.underlying33
 a22:=Try.isAgg33
 z22:=Try.sizeOf33
 v22:=Try.zeroValue33
 a24:=Try.isAgg29
 z24:=Try.sizeOf29
 t25:=Try.underlying107
 a25:=Try.isAgg107
 z25:=Try.sizeOf107
 v25:=Try.zeroValue107
 t39:=Try.underlying120
 a39:=Try.isAgg120
 z39:=Try.sizeOf120
 v39:=Try.zeroValue120
 t45:=Try.underlying128
 a45:=Try.isAgg128
 z45:=Try.sizeOf128
 v45:=Try.zeroValue128
 t46:=Try.underlying129
 a46:=Try.isAgg129
 z46:=Try.sizeOf129
 v46:=Try.zeroValue129
 t50:=Try.underlying133
 a50:=Try.isAgg133
 z50:=Try.sizeOf133
 v50:=Try.zeroValue133
 t53:=Try.underlying90
 a53:=Try.isAgg90
 z53:=Try.sizeOf90
 v53:=Try.zeroValue90
 t55:=Try.underlying28
 a55:=Try.isAgg28
 z55:=Try.sizeOf28
 v55:=Try.zeroValue28
 t66:=Try.underlying139
 a66:=Try.isAgg139
 z66:=Try.sizeOf139
 v66:=Try.zeroValue139
 t70:=Try.underlying143
 a70:=Try.isAgg143
 z70:=Try.sizeOf143
 v70:=Try.zeroValue143
 t76:=Try.underlying150
 a76:=Try.isAgg150
 z76:=Try.sizeOf150
 v76:=Try.zeroValue150
 t77:=Try.underlying86
 a77:=Try.isAgg86
 z77:=Try.sizeOf86
 v77:=Try.zeroValue86 }
end Go.Proofs
set_option maxRecDepth 100000
set_option maxHeartbeats 4000000
namespace Go.AM.YtiolgkhfpnidfaaT
open Go Go.AM Go.RowKit Go.Proofs Go.Shelf Go.Lib
def cfS (x y:Int):Int:=u32w x-u32w y
theorem u32w_b (x:Int):0<=u32w x/\u32w x < 4294967296:=by
 simp [u32w,IntKind.wrap,IntKind.bits,IntKind.signed];omega
theorem ltS (x y:Int):ltOf cfS x y=decide (u32w x < u32w y):=by
 unfold ltOf cfS
 simp
 omega
theorem swoS:Sort.SWO (ltOf cfS) where
 irrefl x:=by rw [ltS];simp
 trans x y z h1 h2:=by rw [ltS] at *;simp at *;omega
 ntrans x y z h1 h2:=by rw [ltS] at *;simp at *;omega
theorem slot_calls (x:Int) (W:World):Calls Try.prog 46 #[.int .u64 x] W fun e w'=>e = .returned (.int .u32 (u32w x))/\w' = W:=by
 go_enter Try.func46,Try.ntmps46
 go_wp2
 go_ret
 exact ⟨rfl,rfl⟩
theorem cmp_calls (x y:Int) (W:World):Calls Try.prog 53 #[.int .u64 x,.int .u64 y] W fun e w'=>e = .returned (.int .i64 (cfS x y))/\∃ q,w' = W.drewN q:=by
 have h1:=slot_calls x
 have h2:=slot_calls y
 have b1:=u32w_b x
 have b2:=u32w_b y
 unfold cfS
 generalize u32w x=a at *
 generalize u32w y=b at *
 have w1:IntKind.i64.wrap a=a:=by rw [IntKind.wrap_i64];omega
 have w2:IntKind.i64.wrap b=b:=by rw [IntKind.wrap_i64];omega
 have w3:IntKind.i64.wrap (a-b)=a-b:=by rw [IntKind.wrap_i64];omega
 go_enter Try.func53,Try.ntmps53
 go_wp2_with (first | (go_at_call 46;refine (h1 _).mono ?_;rintro e w' ⟨rfl,rfl⟩) | (go_at_call 46;refine (h2 _).mono ?_;rintro e w' ⟨rfl,rfl⟩))
 go_ret
 exact ⟨rfl,0,rfl⟩
theorem inj_map {f:Int->Int}:∀ {l:List Int},(l.map f).Nodup->∀ {a b:Int},a∈l->b∈l->f a=f b->a=b
 | x :: r,h,a,b,ha,hb,he=>by
  rw [List.map_cons,List.nodup_cons] at h
  rcases List.mem_cons.1 ha with rfl | ha
  ·rcases List.mem_cons.1 hb with rfl | hb
   ·rfl
   ·exact absurd (he ▸ List.mem_map.2 ⟨b,hb,rfl⟩) h.1
  ·rcases List.mem_cons.1 hb with hb | hb
   ·rw [hb] at he;exact absurd (List.mem_map.2 ⟨a,ha,he⟩) h.1
   ·exact inj_map h.2 ha hb he
theorem srtL_perm (zs:List Int):(srtL zs).Perm zs:=List.mergeSort_perm _ _
theorem srtL_sorted (zs:List Int):(srtL zs).Pairwise fun x y=>u32w x<=u32w y:=by
 have:=List.pairwise_mergeSort (le:=fun x y=>decide (u32w x<=u32w y)) (fun a b c h1 h2=>by simp at *;omega) (fun a b=>by simp;omega) zs
 exact this.imp fun h=>by simpa using h
theorem srtL_of {zs ds:List Int} (hp:ds.Perm zs) (hs:ds.Pairwise fun x y=>u32w x<=u32w y) (hn:(zs.map u32w).Nodup):ds=srtL zs :=
 List.Perm.eq_of_pairwise (le:=fun x y=>u32w x<=u32w y) (fun a b ha hb h1 h2=>inj_map hn (hp.subset ha) ((srtL_perm zs).subset hb) (by omega)) hs (srtL_sorted zs) (hp.trans (srtL_perm zs).symm)
theorem numV_all {k:IntKind}:∀ {l:List V},l.all (isK k)=true->l=(l.map numV).map (.int k)
 | [],_=>rfl
 | x :: r,h=>by
  rw [List.all_cons,Bool.and_eq_true] at h
  rw [List.map_cons,List.map_cons,<- numV_all h.2]
  cases x<;>simp [isK] at h
  obtain ⟨rfl,-⟩:=h
  rfl
theorem put_at {enc:Int->Value} {w:World} {q B:Nat} {C:Array Value} {e:TypeId} {fz:Nat×Nat} (h:w.heap[B]? = some (.cells C e fz)) (d:Array Int) :
  (Sort.putRow enc (Sort.ahead w q) B 0 d).heap[B]? = some (.cells (Sort.putCells enc 0 d C) e fz)/\But w (Sort.putRow enc (Sort.ahead w q) B 0 d) B:=by
 constructor
 ·simp [Sort.putRow,Sort.mapBlock,Sort.ahead,Array.getElem?_modify,h,Sort.onCells]
 ·exact ⟨rfl,rfl,rfl,by simp [Sort.putRow,Sort.mapBlock,Sort.ahead],fun k hk=>by simp [Sort.putRow,Sort.mapBlock,Sort.ahead,Array.getElem?_modify,Ne.symm hk]⟩
theorem arg_srt {D:Nat->Prop} {s:Sg} {b n g:Nat} {xs:Array Value} (h:RvL D s [.sl b 0 n none 1,.fn (.func g) [] []] xs.toList):D b/\(s b).sz=1/\n<=(s b).cap/\xs = #[.slice (some ⟨(s b).b,(s b).base+0,none⟩) n ((s b).cap-0 / 1),.func (.func g) #[] #[]]:=by
 cases xs with
 | mk l =>
  cases h with
  | cons _ x _ _ h1 h2 =>
   cases h2 with
   | cons _ x1 _ _ h3 h4 =>
    cases h4
    cases h1 with
    | sln _ _ _ _ hD h1 h2 h3' h4' =>
     cases h3 with
     | fn _ _ _ xs ys e1 e2 =>
      cases xs;cases ys
      cases e1;cases e2
      exact ⟨hD,h1,by omega,rfl⟩
theorem arg_srt0 {D:Nat->Prop} {s:Sg} {v:V} {g:Nat} {xs:Array Value} (hv:v = .nils\/v = .sle\/∃ b off c z,v = .sl b off 0 c z) (h:RvL D s [v,.fn (.func g) [] []] xs.toList):∃ p cap,xs = #[.slice p 0 cap,.func (.func g) #[] #[]]:=by
 cases xs with
 | mk l =>
  cases h with
  | cons _ x _ _ h1 h2 =>
   cases h2 with
   | cons _ x1 _ _ h3 h4 =>
    cases h4
    cases h3 with
    | fn _ _ _ xs ys e1 e2 =>
     cases xs;cases ys
     cases e1;cases e2
     rcases hv with rfl | rfl | ⟨b,off,c,z,rfl⟩
     ·cases h1;exact ⟨_,_,rfl⟩
     ·cases h1;exact ⟨_,_,rfl⟩
     ·cases h1<;>exact ⟨_,_,rfl⟩
theorem srt_none {D:Nat->Prop} {s:Sg} {n0:Nat} {w0 w:World} {H:Hp} {v:V} {xs:Array Value} (hS:Sat n0 w0 D s H w) (hv:v = .nils\/v = .sle\/∃ b off c z,v = .sl b off 0 c z) (h:RvL D s [v,.fn (.func 53) [] []] xs.toList) :
  Calls Try.prog 52 xs w fun e w'=>match e with
   | .returned x=>∃ s',Step n0 w0 D s H w s' H w'/\Rv (Dn D H.next H.next) s' (.tup []) x
   | _=>False:=by
 obtain ⟨p,cap,rfl⟩:=arg_srt0 hv h
 refine (AnyF.slices_SortFunc_none { Try.srt52 with } p cap _ w).mono fun e w' he=>?_
 obtain ⟨rfl,rfl⟩:=he
 exact ⟨s,Step.refl hS,.tup _ _ .nil⟩
theorem srtF:ExtF tab.init tab.ng Try.prog 52 (srtE 53 29):=by
 intro n0 w0 hI hn vs H v H' hk D s w xs hg hxs hS hG hfr
 unfold srtE at hk
 split at hk
 ·split at hk
  ·rename_i hc;obtain ⟨rfl,hst⟩:=hc;cases hk;exact srt_none hS (.inl rfl) hxs
  ·cases hk
 ·split at hk
  ·rename_i hc;obtain ⟨rfl,hst⟩:=hc;cases hk;exact srt_none hS (.inr (.inl rfl)) hxs
  ·cases hk
 ·split at hk
  ·rename_i hc;obtain ⟨rfl,hst⟩:=hc;cases hk;exact srt_none hS (.inr (.inr ⟨_,_,_,_,rfl⟩)) hxs
  ·cases hk
 ·rename_i b n g hnsl
  split at hk
  ·rename_i e cs hst hgb
   split at hk
   ·rename_i hc
    obtain ⟨rfl,rfl,hncs,hnm,hall,hnd⟩:=hc
    cases hk
    obtain ⟨hD,hsz,hcap,rfl⟩:=arg_srt hxs
    have hr:=hS.row b _ _ _ _ hD hgb
    rw [hst] at hr
    obtain ⟨C,fz,h1,h2,h3,h4,h5⟩:=RowAt.block hr
    have hz:=numV_all hall
    generalize (cs.take n).map numV=zs at hz hnd
    have hzl:zs.length=n:=by have:=congrArg List.length hz;simp at this;omega
    have hC:∀ t z,zs[t]? = some z->C[t]? = some (Value.int .u64 z):=fun t z hz'=>by
     have ht:t < n:=by have:=(List.getElem?_eq_some_iff.1 hz').1;omega
     have hct:cs[t]? = some (.int .u64 z):=by
      have:(cs.take n)[t]? = some (.int .u64 z):=by rw [hz,List.getElem?_map,hz'];rfl
      rw [List.getElem?_take,if_pos ht] at this;exact this
     obtain ⟨x,hx,hrx⟩:=h4 t _ hct
     cases hrx
     exact hx
    have hCn:n<=C.size:=by rw [h3];omega
    have hH:Sort.Holds (Value.int .u64) w (s b).b 0 zs.toArray:=fun t ht=>by
     have ht:t < n:=by simpa [hzl] using ht
     have hzt:=List.getElem?_eq_getElem (show t < zs.length by omega)
     refine ⟨by simp [World.cell?,h1,hC t _ hzt,hzl,ht],?_⟩
     have:=h5 t (by omega)
     simp [World.frozen?,h1];omega
    have eg:∀ args w,(callFunc 53 args).run Try.prog w = .ok (.enter 53 args) w:=enters_of Try.func53 (by kernel_rfl) rfl
    have hcmp:CmpReads Try.prog 53 #[] (Value.int .u64) cfS (s b).b 0 zs.toArray.size w:=fun _ _ _ _ x y=>cmp_calls x y _
    have hblk:(s b).b < w.heap.size:=(Array.getElem?_eq_some_iff.1 h1).1
    have hcall:=Any.slices_SortFunc Try.srt52 (Value.int .u64) (fun _=>rfl) cfS swoS 53 #[] (s b).b 0 (s b).cap zs.toArray w eg hcmp.lays hH hblk (by simp [hzl];omega)
    change Calls Try.prog 52 _ _ _ at hcall
    have hsize:zs.toArray.size=n:=by simp [hzl]
    have e1:(s b).cap-0 / 1=(s b).cap:=by omega
    have e2:(s b).base+0=0:=by omega
    rw [hsize] at hcall
    rw [e1,e2]
    refine hcall.mono fun e' w' he=>?_
    obtain ⟨rfl,d',m,os,hp,hsrt,rfl⟩:=he
    have hd:d'.toList=srtL zs:=by
     obtain ⟨p1,p2,p3⟩:=hp
     have q1:d'.extract 0 n=d':=by rw [<- hsize,<- p1];simp
     have q2:zs.toArray.extract 0 n=zs.toArray:=by rw [<- hsize];simp
     rw [q1,q2] at p3
     refine srtL_of p3 (List.pairwise_iff_getElem.2 fun i j hi hj hij=>?_) hnd
     have hj' : j < d'.size:=by simpa using hj
     have:=hsrt i j (Nat.zero_le _) hij (by omega)
     rw [ltS,getElem!_pos d' j hj',getElem!_pos d' i (by omega)] at this
     simpa using this
    have hds:d'.size=n:=by rw [hp.1,hsize]
    obtain ⟨hB1,hB2⟩:=put_at (enc:=Value.int .u64) (q:=m) h1 d'
    have ho:Ow H b:=by unfold Ow;rw [hgb,hst];simp
    obtain ⟨g0,g5,g6,g7,g8⟩:=hr
    have hll:(srtL zs).length=n:=by rw [(srtL_perm zs).length_eq,hzl]
    have hs1:Step n0 w0 D s H w s (H.put b (.row 29 1 false ((srtL zs).map (.int .u64)++cs.drop n))) (Sort.putRow (Value.int .u64) (Sort.ahead w m) (s b).b 0 d'):=by
     refine step_put hS hst hD ho hB2 ?_ (fun e sz ro cs he=>?_) (fun _ _ _ he=>by cases he) (fun _ _ _ _ he=>by cases he)
     ·constructor
      ·rw [al_iff,Hp.get_put,if_pos rfl];show b∉H.stale;simp [hst]
      ·unfold Ow;rw [Hp.get_put,if_pos rfl];show _/\b∉H.stale;simp [hst]
     ·cases he
      refine ⟨⟨_,_,_,hB1,by simp [Sort.putCells,h3];omega,fun t v hv=>?_,fun _=>⟨fun t t1 t2=>h5 t (by rw [h3];omega),rfl,h2,by simp [Sort.putCells,h3]⟩⟩,g5,?_,?_,g8⟩
      ·rw [h2,Nat.zero_add]
       simp only [Sort.putCells,Array.getElem?_mapIdx]
       by_cases c0:t < n
       ·rw [List.getElem?_append_left (by simp [hll,c0]),List.getElem?_map] at hv
        rw [Option.map_eq_some_iff] at hv
        obtain ⟨z,hz1,rfl⟩:=hv
        have hCt:t < C.size:=by omega
        have hdt:t < d'.size:=by omega
        have hzt:d'[t]! = z:=by
         rw [getElem!_pos d' t hdt]
         rw [<- hd,List.getElem?_eq_getElem (by simpa using hdt)] at hz1
         simpa using hz1
        rw [Array.getElem?_eq_getElem hCt]
        have hzt2:d'[t]'hdt=z:=by rw [<- getElem!_pos d' t hdt];exact hzt
        simp [hdt,hzt2]
        exact .int _ _
       ·rw [List.getElem?_append_right (by simp [hll];omega)] at hv
        simp only [List.length_map,hll,List.getElem?_drop,show n+(t-n)=t by omega] at hv
        obtain ⟨x,hx,hrx⟩:=h4 t v hv
        refine ⟨x,?_,hrx⟩
        rw [hx]
        simp;omega
      ·simp only [List.length_append,List.length_map,hll,List.length_drop];omega
      ·rw [List.all_append,Bool.and_eq_true]
       refine ⟨List.all_eq_true.2 fun x hx=>by obtain ⟨y,_,rfl⟩:=List.mem_map.1 hx;rfl,?_⟩
       rw [List.all_eq_true] at g7 ⊢
       exact fun c hc=>g7 c (List.mem_of_mem_drop hc)
    have e0:Dn D H.next (H.put b (.row 29 1 false ((srtL zs).map (.int .u64)++cs.drop n))).next=D:=by funext c;simp [Dn,Hp.next_put];intro h1 h2;omega
    have hs2:=hs1.sat
    rw [e0] at hs2
    have hB:Below (Sort.putRow (Value.int .u64) (Sort.ahead w m) (s b).b 0 d').heap.size (Sort.putRow (Value.int .u64) (Sort.ahead w m) (s b).b 0 d') (sortWorld (Value.int .u64) w (s b).b 0 m d' os):=by
     unfold sortWorld
     exact ⟨rfl,rfl,rfl,by simp [Sort.grow],fun k hk=>by simp [Sort.grow,Array.getElem?_append_left hk]⟩
    have hs3:=step_below0 hs2 hn hB fun c hc o h1 h2=>hs2.lt hc (by
     unfold Al;rw [h1]
     have:(H.put b (.row 29 1 false ((srtL zs).map (.int .u64)++cs.drop n))).stale=[]:=hst
     rw [this]
     cases o<;>first | trivial | simp | exact absurd rfl h2)
    refine ⟨s,hs1.trans (by rw [e0];exact hs3),?_⟩
    exact .tup _ _ .nil
   ·cases hk
  ·cases hk
 ·cases hk
end Go.AM.YtiolgkhfpnidfaaT
set_option maxRecDepth 100000
set_option maxHeartbeats 4000000
namespace Go.AM.YtiolgkhfpnidfaaT
open Go Go.AM Go.RowKit Go.Proofs
def valI:V->Int
 | .int _ m=>m
 | _=>0
theorem valI_all {k:IntKind}:∀ {l:List V},l.all (isK k)=true->l=(l.map valI).map (.int k)
 | [],_=>rfl
 | x :: r,h=>by
  rw [List.all_cons,Bool.and_eq_true] at h
  rw [List.map_cons,List.map_cons,<- valI_all h.2]
  cases x<;>simp [isK] at h
  obtain ⟨rfl,-⟩:=h
  rfl
theorem setCell_at {w:World} {B i:Nat} {C:Array Value} {e:TypeId} {fz:Nat×Nat} (h:w.heap[B]? = some (.cells C e fz)) (v:Value):(w.setCell ⟨B,i,none⟩ v).heap[B]? = some (.cells (C.setIfInBounds i v) e fz)/\But w (w.setCell ⟨B,i,none⟩ v) B:=by
 constructor
 ·simp [World.setCell,Array.getElem?_modify,h]
 ·exact ⟨rfl,rfl,rfl,by simp [World.setCell],fun k hk=>Below.heap_setCell _ _ _ k hk⟩
theorem but_trans2 {w w1 w2:World} {B:Nat} (h:But w w1 B) (h' : But w1 w2 B):But w w2 B :=
 ⟨h'.os.trans h.os,h'.tape.trans h.tape,h'.output.trans h.output,h'.size.trans h.size,fun k hk=>(h'.old k hk).trans (h.old k hk)⟩
theorem setCells_at {B:Nat} {e:TypeId} {fz:Nat×Nat}:∀ (vs:List Value) (o:Nat) {w:World} {C:Array Value},w.heap[B]? = some (.cells C e fz)->o+vs.length<=C.size ->
  ∃ C',(w.setCells B o vs).heap[B]? = some (.cells C' e fz)/\C'.size=C.size/\(∀ i,C'[i]? = if o<=i/\i < o+vs.length then vs[i-o]? else C[i]?)/\But w (w.setCells B o vs) B
 | [],o,w,C,h,_=>⟨C,h,rfl,fun i=>by rw [if_neg (by rintro ⟨h1,h2⟩;simp at h2;omega)],⟨rfl,rfl,rfl,rfl,fun _ _=>rfl⟩⟩
 | v :: r,o,w,C,h,hl=>by
  obtain ⟨h1,h2⟩:=setCell_at (i:=o) h v
  obtain ⟨C',g1,g2,g3,g4⟩:=setCells_at r (o+1) h1 (by simp at hl ⊢;omega)
  refine ⟨C',g1,by rw [g2];simp,fun i=>?_,but_trans2 h2 g4⟩
  simp at hl
  rw [g3]
  by_cases hi:i=o
  ·subst hi
   rw [if_neg (by omega),if_pos (by simp),Array.getElem?_setIfInBounds]
   simp;try omega
  ·rw [Array.getElem?_setIfInBounds_ne (fun e=>hi e.symm)]
   by_cases hc:o+1<=i/\i < o+1+r.length
   ·rw [if_pos hc,if_pos (by simp;omega),show i-o=(i-(o+1))+1 by omega,List.getElem?_cons_succ]
   ·rw [if_neg hc,if_neg (by simp;omega)]
theorem arg_del {D:Nat->Prop} {s:Sg} {b n:Nat} {i j:Int} {xs:Array Value} (h:RvL D s [.sl b 0 n none 1,.int .i64 i,.int .i64 j] xs.toList):D b/\(s b).sz=1/\n<=(s b).cap/\xs = #[.slice (some ⟨(s b).b,(s b).base+0,none⟩) n ((s b).cap-0 / 1),.int .i64 i,.int .i64 j]:=by
 cases xs with
 | mk l =>
  cases h with
  | cons _ x _ _ h1 h2 =>
   cases h2 with
   | cons _ x1 _ _ h3 h4 =>
    cases h4 with
    | cons _ x2 _ _ h5 h6 =>
     cases h6
     cases h1 with
     | sln _ _ _ _ hD h1 h2 h3' h4' =>
      cases h3;cases h5
      exact ⟨hD,h1,by omega,rfl⟩
theorem del_list {k:IntKind} {zs:List Int} {i j n:Nat} (hij:i < j) (hj:j<=n) (hz:zs.length=n) (t:Nat) (ht:t < n) :
  ((zs.map (V.int k)).take i++(zs.map (V.int k)).drop j++List.replicate (j-i) (.int k 0))[t]? = some (.int k (if t < i then zs.getD t 0 else if t < i+(n-j) then zs.getD (j+(t-i)) 0 else 0)):=by
 have h1:((zs.map (V.int k)).take i).length=i:=by simp;omega
 have h2:((zs.map (V.int k)).drop j).length=n-j:=by simp;omega
 rw [List.append_assoc]
 by_cases c1:t < i
 ·rw [if_pos c1,List.getElem?_append_left (by omega),List.getElem?_take,if_pos c1,List.getElem?_map,List.getElem?_eq_getElem (by omega)]
  simp [List.getD,List.getElem?_eq_getElem (show t < zs.length by omega)]
 ·rw [if_neg c1,List.getElem?_append_right (by omega),h1]
  by_cases c2:t < i+(n-j)
  ·rw [if_pos c2,List.getElem?_append_left (by omega),List.getElem?_drop,List.getElem?_map,List.getElem?_eq_getElem (by omega)]
   simp [List.getD,List.getElem?_eq_getElem (show j+(t-i) < zs.length by omega)]
  ·rw [if_neg c2,List.getElem?_append_right (by omega),h2,List.getElem?_replicate,if_pos (by omega)]
theorem del_info24:(Try.prog.info? 29).map (fun i=>(i.zero,i.size,i.bytes))=some (some (.int .u64 0),1,8):=by kernel_rfl
theorem del_walk24 (b off n cap i j:Nat) (zs:List Int) (w:World) (hij:i < j) (hj:j<=n) (hl:n<=cap) (hz:zs.length=n)
  (hc:∀ t z,zs[t]? = some z->w.cell? ⟨b,off+t,none⟩=some (.int .u64 z)) (hf:∀ t,t < n->w.frozen? ⟨b,off+t,none⟩=false) :
  Calls Try.prog 24 #[.slice (some ⟨b,off,none⟩) n cap,.int .i64 i,.int .i64 j] w fun e w'=>e = .returned (.slice (some ⟨b,off,none⟩) (i+(n-j)) cap)/\w' = ((w.drew.setCells b (off+i*1) ((zs.drop j).map (Value.int .u64))).setCells b (off+(i+(n-j))) (List.replicate (j-i) (.int .u64 0))):=by
 obtain ⟨i0,hi0,hz0,hz1,hz2⟩:=info_parts del_info24
 obtain ⟨news,hnews⟩:∃ news,news=(zs.drop j).map (Value.int .u64):=⟨_,rfl⟩
 rw [<- hnews]
 have hlen:news.length=n-j:=by rw [hnews];simp [hz]
 have hcell:∀ t,t < n->∃ z,zs[t]? = some z/\w.cell? ⟨b,off+t,none⟩=some (.int .u64 z):=fun t ht=>⟨_,List.getElem?_eq_getElem (by omega),hc t _ (List.getElem?_eq_getElem (by omega))⟩
 obtain ⟨A,hA,hsrc⟩:∃ A:Addr,(if cap=j then some (⟨b,off,none⟩:Addr) else some ⟨b,off+j,none⟩)=some A/\Hid (∀ t u,news[t]? = some u->w.drew.cell? (A.add t)=some u):=by
  by_cases h:cap=j
  ·refine ⟨⟨b,off,none⟩,by simp [h],fun t u hu=>?_⟩
   have:=(List.getElem?_eq_some_iff.1 hu).1
   omega
  ·refine ⟨⟨b,off+j,none⟩,by simp [h],fun t u hu=>?_⟩
   rw [hnews,List.getElem?_map,List.getElem?_drop,Option.map_eq_some_iff] at hu
   obtain ⟨z,hu,rfl⟩:=hu
   rw [Addr.add_lit,show off+j+t=off+(j+t) by omega]
   exact hc (j+t) z hu
 have s1:Hid (news.length=(n-j)*1):=by rw [Nat.mul_one];exact hlen
 have s2:Hid (∀ u∈news,u.oneCell' = true):=by
  intro u hu
  rw [hnews] at hu
  obtain ⟨x,_,rfl⟩:=List.mem_map.1 hu
  rfl
 have s3:Hid (∀ t,t < news.length->(w.drew.cell? ⟨b,off+i*1+t,none⟩).isSome=true/\w.drew.frozen? ⟨b,off+i*1+t,none⟩=false):=by
  intro t ht
  rw [hlen] at ht
  rw [Nat.mul_one,Nat.add_assoc]
  obtain ⟨z,-,hz⟩:=hcell (i+t) (by omega)
  exact ⟨by show (w.cell? _).isSome=true;rw [hz];rfl,hf (i+t) (by omega)⟩
 obtain ⟨W1,hW1⟩:∃ W1,W1=w.drew.setCells b (off+i*1) news:=⟨_,rfl⟩
 have hcl:∀ ty,(Builtin.clear_ #[33] ty #[.slice (some ⟨b,off+(i+(n-j)),none⟩) (n-(i+(n-j))) (cap-(i+(n-j)))]).run Try.prog W1 = .ok (.tuple #[]) (W1.setCells b (off+(i+(n-j))) (List.replicate (n-(i+(n-j))) (.int .u64 0))) :=
  fun ty=>Lib.run_clear_slice W1 _ _ ty _ Try.underlying33 Try.zeroValue29 rfl rfl b (off+(i+(n-j))) _ _ (by omega) (fun t ht=>by
   obtain ⟨z,-,hz⟩:=hcell (i+(n-j)+t) (by omega)
   rw [hW1,World.cell?_setCells_out b _ _ _ _ (fun _ _=>.inr (by rw [hlen];show _<=off+(i+(n-j))+t;omega)),show off+(i+(n-j))+t=off+(i+(n-j)+t) by omega]
   show (w.cell? _).isSome=true
   rw [hz];rfl) (fun t ht=>by
   rw [hW1,World.frozen?_setCells,show off+(i+(n-j))+t=off+(i+(n-j)+t) by omega]
   exact hf _ (by omega))
 have hW:Hid (W1=w.drew.setCells b (off+i*1) news):=hW1
 rw [<- hW1]
 have hic:i<=cap:=by omega
 have hjc:j<=cap:=by omega
 clear hW1 hc hf hcell hnews hlen
 have mixed:Try.prog.follows Departure.mixedOrders=true:=by kernel_rfl
 go_enter Try.func24,Try.ntmps24
 go_wp2_with fail
 go_region_law_o (refine step_append_room rfl (.tmp 22) (.tmp 25) 33 rfl 29 i0 1 Try.underlying33 hi0 hz1 b off i cap (by simp [Act.eval,Act.put]) A (n-j) (cap-j) news (by simp [Act.eval,Act.put]) s1.out hsrc.out s2.out (by omega) s3.out ?_;rw [<- hW.out])
 go_wp2
 go_ret
 exact ⟨rfl,by rw [show n-(i+(n-j))=j-i by omega]⟩
theorem delF24:ExtF tab.init tab.ng Try.prog 24 (delE .u64 29):=by
 intro n0 w0 hI hn vs H v H' hk D s w xs hg hxs hS hG hfr
 unfold delE at hk
 split at hk
 ·rename_i b n i j
  split at hk
  ·rename_i e cs hst hgb
   split at hk
   ·rename_i hc
    obtain ⟨rfl,hi,hij,hjn,hncs,hall⟩:=hc
    cases hk
    obtain ⟨hD,hsz,hcap,rfl⟩:=arg_del hxs
    have hr:=hS.row b _ _ _ _ hD hgb
    rw [hst] at hr
    obtain ⟨C,fz,h1,h2,h3,h4,h5⟩:=RowAt.block hr
    obtain ⟨i,rfl⟩:=Int.eq_ofNat_of_zero_le hi
    obtain ⟨j,rfl⟩:=Int.eq_ofNat_of_zero_le (show 0<=j by omega)
    have hij:i < j:=by omega
    have hjn:j<=n:=by omega
    have hz:=valI_all hall
    generalize (cs.take n).map valI=zs at hz
    have hzl:zs.length=n:=by have:=congrArg List.length hz;simp at this;omega
    have hC:∀ t z,zs[t]? = some z->C[t]? = some (Value.int .u64 z):=fun t z hz'=>by
     have ht:t < n:=by have:=(List.getElem?_eq_some_iff.1 hz').1;omega
     have hct:cs[t]? = some (.int .u64 z):=by
      have:(cs.take n)[t]? = some (.int .u64 z):=by rw [hz,List.getElem?_map,hz'];rfl
      rw [List.getElem?_take,if_pos ht] at this;exact this
     obtain ⟨x,hx,hrx⟩:=h4 t _ hct
     cases hrx
     exact hx
    have hCn:n<=C.size:=by rw [h3];omega
    have hcall:=del_walk24 (s b).b 0 n (s b).cap i j zs w hij hjn hcap hzl (fun t z hz'=>by simp [World.cell?,h1,hC t z hz']) (fun t ht=>by
     have:=h5 t (by omega)
     simp [World.frozen?,h1];omega)
    have e1:(s b).cap-0 / 1=(s b).cap:=by omega
    have e2:(s b).base+0=0:=by omega
    rw [e1,e2]
    refine hcall.mono fun e' w' he=>?_
    obtain ⟨rfl,rfl⟩:=he
    have hd:w.drew.heap[(s b).b]? = some (.cells C 29 fz):=h1
    obtain ⟨C1,k1,k2,k3,k4⟩:=setCells_at ((zs.drop j).map (Value.int .u64)) (0+i*1) hd (by simp;omega)
    obtain ⟨C2,m1,m2,m3,m4⟩:=setCells_at (List.replicate (j-i) (Value.int .u64 0)) (0+(i+(n-j))) k1 (by simp;omega)
    have hB:But w _ (s b).b:=(⟨rfl,rfl,rfl,rfl,fun _ _=>rfl⟩:But w w.drew (s b).b)
    have hB2:=but_trans2 (but_trans2 hB k4) m4
    have ho:Ow H b:=by unfold Ow;rw [hgb,hst];simp
    have hres:∀ t,C2[t]? = if t < n then some (Value.int .u64 (if t < i then zs.getD t 0 else if t < i+(n-j) then zs.getD (j+(t-i)) 0 else 0)) else C[t]?:=fun t=>by
     rw [m3,k3]
     simp only [List.length_replicate,List.length_map,List.length_drop,hzl,Nat.zero_add,Nat.mul_one]
     by_cases c0:t < n
     ·rw [if_pos c0]
      by_cases c1:t < i
      ·rw [if_neg (by omega),if_neg (by omega),if_pos c1,hC t (zs.getD t 0) (by simp [List.getD,List.getElem?_eq_getElem (show t < zs.length by omega)])]
      ·rw [if_neg c1]
       by_cases c2:t < i+(n-j)
       ·rw [if_neg (by omega),if_pos (by omega),if_pos c2,List.getElem?_map,List.getElem?_drop,List.getElem?_eq_getElem (show j+(t-i) < zs.length by omega)]
        simp [List.getD,List.getElem?_eq_getElem (show j+(t-i) < zs.length by omega)]
       ·rw [if_pos (by omega),if_neg c2,List.getElem?_replicate,if_pos (by omega)]
     ·rw [if_neg c0,if_neg (by omega),if_neg (by omega)]
    obtain ⟨g0,g5,g6,g7,g8⟩:=hr
    refine ⟨s,step_put hS hst hD ho hB2 ?_ (fun e sz ro cs he=>?_) (fun _ _ _ he=>by cases he) (fun _ _ _ _ he=>by cases he),?_⟩
    ·constructor
     ·rw [al_iff,Hp.get_put,if_pos rfl];show b∉H.stale;simp [hst]
     ·unfold Ow;rw [Hp.get_put,if_pos rfl];show _/\b∉H.stale;simp [hst]
    ·cases he
     have hl1:((cs.take n).take (i:Int).toNat++(cs.take n).drop (j:Int).toNat++List.replicate ((j:Int).toNat-(i:Int).toNat) (V.int .u64 0)).length=n:=by simp;omega
     refine ⟨⟨C2,_,_,m1,by rw [m2,k2,h3];omega,fun t v hv=>?_,fun _=>⟨fun t t1 t2=>h5 t (by rw [h3];omega),rfl,h2,by rw [m2,k2];exact h3⟩⟩,g5,?_,?_,g8⟩
     ·rw [h2,Nat.zero_add,hres]
      by_cases c0:t < n
      ·rw [List.getElem?_append_left (by rw [hl1];exact c0)] at hv
       have:=del_list (k:=.u64) hij hjn hzl t c0
       rw [<- hz] at this
       have hv':=hv.symm.trans this
       rw [Option.some.injEq] at hv'
       subst hv'
       rw [if_pos c0]
       exact ⟨_,rfl,.int _ _⟩
      ·rw [List.getElem?_append_right (by rw [hl1];omega),hl1,List.getElem?_drop,show n+(t-n)=t by omega] at hv
       rw [if_neg c0]
       exact h4 t v hv
     ·simp only [List.length_append,hl1,List.length_drop];omega
     ·rw [List.all_append,Bool.and_eq_true]
      constructor
      ·rw [hz]
       simp [List.all_append,List.all_eq_true,oneV]
       exact ⟨fun x hx=>by obtain ⟨y,_,rfl⟩:=List.mem_map.1 (List.mem_of_mem_take hx);rfl,fun x hx=>by obtain ⟨y,_,rfl⟩:=List.mem_map.1 (List.mem_of_mem_drop hx);rfl⟩
      ·rw [List.all_eq_true] at g7 ⊢
       exact fun c hc=>g7 c (List.mem_of_mem_drop hc)
    ·have:=Rv.sln (D:=Dn D H.next H.next) (s:=s) b 0 (n-(j-i)) 1 (.inl hD) hsz (by omega) (by omega) (by omega)
     rw [e1,e2] at this
     rw [show i+(n-j)=n-(j-i) by omega]
     exact this
   ·cases hk
  ·cases hk
 ·cases hk
theorem del_info49:(Try.prog.info? 3).map (fun i=>(i.zero,i.size,i.bytes))=some (some (.int .i64 0),1,8):=by kernel_rfl
theorem del_walk49 (b off n cap i j:Nat) (zs:List Int) (w:World) (hij:i < j) (hj:j<=n) (hl:n<=cap) (hz:zs.length=n)
  (hc:∀ t z,zs[t]? = some z->w.cell? ⟨b,off+t,none⟩=some (.int .i64 z)) (hf:∀ t,t < n->w.frozen? ⟨b,off+t,none⟩=false) :
  Calls Try.prog 49 #[.slice (some ⟨b,off,none⟩) n cap,.int .i64 i,.int .i64 j] w fun e w'=>e = .returned (.slice (some ⟨b,off,none⟩) (i+(n-j)) cap)/\w' = ((w.drew.setCells b (off+i*1) ((zs.drop j).map (Value.int .i64))).setCells b (off+(i+(n-j))) (List.replicate (j-i) (.int .i64 0))):=by
 obtain ⟨i0,hi0,hz0,hz1,hz2⟩:=info_parts del_info49
 obtain ⟨news,hnews⟩:∃ news,news=(zs.drop j).map (Value.int .i64):=⟨_,rfl⟩
 rw [<- hnews]
 have hlen:news.length=n-j:=by rw [hnews];simp [hz]
 have hcell:∀ t,t < n->∃ z,zs[t]? = some z/\w.cell? ⟨b,off+t,none⟩=some (.int .i64 z):=fun t ht=>⟨_,List.getElem?_eq_getElem (by omega),hc t _ (List.getElem?_eq_getElem (by omega))⟩
 obtain ⟨A,hA,hsrc⟩:∃ A:Addr,(if cap=j then some (⟨b,off,none⟩:Addr) else some ⟨b,off+j,none⟩)=some A/\Hid (∀ t u,news[t]? = some u->w.drew.cell? (A.add t)=some u):=by
  by_cases h:cap=j
  ·refine ⟨⟨b,off,none⟩,by simp [h],fun t u hu=>?_⟩
   have:=(List.getElem?_eq_some_iff.1 hu).1
   omega
  ·refine ⟨⟨b,off+j,none⟩,by simp [h],fun t u hu=>?_⟩
   rw [hnews,List.getElem?_map,List.getElem?_drop,Option.map_eq_some_iff] at hu
   obtain ⟨z,hu,rfl⟩:=hu
   rw [Addr.add_lit,show off+j+t=off+(j+t) by omega]
   exact hc (j+t) z hu
 have s1:Hid (news.length=(n-j)*1):=by rw [Nat.mul_one];exact hlen
 have s2:Hid (∀ u∈news,u.oneCell' = true):=by
  intro u hu
  rw [hnews] at hu
  obtain ⟨x,_,rfl⟩:=List.mem_map.1 hu
  rfl
 have s3:Hid (∀ t,t < news.length->(w.drew.cell? ⟨b,off+i*1+t,none⟩).isSome=true/\w.drew.frozen? ⟨b,off+i*1+t,none⟩=false):=by
  intro t ht
  rw [hlen] at ht
  rw [Nat.mul_one,Nat.add_assoc]
  obtain ⟨z,-,hz⟩:=hcell (i+t) (by omega)
  exact ⟨by show (w.cell? _).isSome=true;rw [hz];rfl,hf (i+t) (by omega)⟩
 obtain ⟨W1,hW1⟩:∃ W1,W1=w.drew.setCells b (off+i*1) news:=⟨_,rfl⟩
 have hcl:∀ ty,(Builtin.clear_ #[59] ty #[.slice (some ⟨b,off+(i+(n-j)),none⟩) (n-(i+(n-j))) (cap-(i+(n-j)))]).run Try.prog W1 = .ok (.tuple #[]) (W1.setCells b (off+(i+(n-j))) (List.replicate (n-(i+(n-j))) (.int .i64 0))) :=
  fun ty=>Lib.run_clear_slice W1 _ _ ty _ Try.underlying59 Try.zeroValue3 rfl rfl b (off+(i+(n-j))) _ _ (by omega) (fun t ht=>by
   obtain ⟨z,-,hz⟩:=hcell (i+(n-j)+t) (by omega)
   rw [hW1,World.cell?_setCells_out b _ _ _ _ (fun _ _=>.inr (by rw [hlen];show _<=off+(i+(n-j))+t;omega)),show off+(i+(n-j))+t=off+(i+(n-j)+t) by omega]
   show (w.cell? _).isSome=true
   rw [hz];rfl) (fun t ht=>by
   rw [hW1,World.frozen?_setCells,show off+(i+(n-j))+t=off+(i+(n-j)+t) by omega]
   exact hf _ (by omega))
 have hW:Hid (W1=w.drew.setCells b (off+i*1) news):=hW1
 rw [<- hW1]
 have hic:i<=cap:=by omega
 have hjc:j<=cap:=by omega
 clear hW1 hc hf hcell hnews hlen
 have mixed:Try.prog.follows Departure.mixedOrders=true:=by kernel_rfl
 go_enter Try.func49,Try.ntmps49
 go_wp2_with fail
 go_region_law_o (refine step_append_room rfl (.tmp 22) (.tmp 25) 59 rfl 3 i0 1 Try.underlying59 hi0 hz1 b off i cap (by simp [Act.eval,Act.put]) A (n-j) (cap-j) news (by simp [Act.eval,Act.put]) s1.out hsrc.out s2.out (by omega) s3.out ?_;rw [<- hW.out])
 go_wp2
 go_ret
 exact ⟨rfl,by rw [show n-(i+(n-j))=j-i by omega]⟩
theorem delF49:ExtF tab.init tab.ng Try.prog 49 (delE .i64 3):=by
 intro n0 w0 hI hn vs H v H' hk D s w xs hg hxs hS hG hfr
 unfold delE at hk
 split at hk
 ·rename_i b n i j
  split at hk
  ·rename_i e cs hst hgb
   split at hk
   ·rename_i hc
    obtain ⟨rfl,hi,hij,hjn,hncs,hall⟩:=hc
    cases hk
    obtain ⟨hD,hsz,hcap,rfl⟩:=arg_del hxs
    have hr:=hS.row b _ _ _ _ hD hgb
    rw [hst] at hr
    obtain ⟨C,fz,h1,h2,h3,h4,h5⟩:=RowAt.block hr
    obtain ⟨i,rfl⟩:=Int.eq_ofNat_of_zero_le hi
    obtain ⟨j,rfl⟩:=Int.eq_ofNat_of_zero_le (show 0<=j by omega)
    have hij:i < j:=by omega
    have hjn:j<=n:=by omega
    have hz:=valI_all hall
    generalize (cs.take n).map valI=zs at hz
    have hzl:zs.length=n:=by have:=congrArg List.length hz;simp at this;omega
    have hC:∀ t z,zs[t]? = some z->C[t]? = some (Value.int .i64 z):=fun t z hz'=>by
     have ht:t < n:=by have:=(List.getElem?_eq_some_iff.1 hz').1;omega
     have hct:cs[t]? = some (.int .i64 z):=by
      have:(cs.take n)[t]? = some (.int .i64 z):=by rw [hz,List.getElem?_map,hz'];rfl
      rw [List.getElem?_take,if_pos ht] at this;exact this
     obtain ⟨x,hx,hrx⟩:=h4 t _ hct
     cases hrx
     exact hx
    have hCn:n<=C.size:=by rw [h3];omega
    have hcall:=del_walk49 (s b).b 0 n (s b).cap i j zs w hij hjn hcap hzl (fun t z hz'=>by simp [World.cell?,h1,hC t z hz']) (fun t ht=>by
     have:=h5 t (by omega)
     simp [World.frozen?,h1];omega)
    have e1:(s b).cap-0 / 1=(s b).cap:=by omega
    have e2:(s b).base+0=0:=by omega
    rw [e1,e2]
    refine hcall.mono fun e' w' he=>?_
    obtain ⟨rfl,rfl⟩:=he
    have hd:w.drew.heap[(s b).b]? = some (.cells C 3 fz):=h1
    obtain ⟨C1,k1,k2,k3,k4⟩:=setCells_at ((zs.drop j).map (Value.int .i64)) (0+i*1) hd (by simp;omega)
    obtain ⟨C2,m1,m2,m3,m4⟩:=setCells_at (List.replicate (j-i) (Value.int .i64 0)) (0+(i+(n-j))) k1 (by simp;omega)
    have hB:But w _ (s b).b:=(⟨rfl,rfl,rfl,rfl,fun _ _=>rfl⟩:But w w.drew (s b).b)
    have hB2:=but_trans2 (but_trans2 hB k4) m4
    have ho:Ow H b:=by unfold Ow;rw [hgb,hst];simp
    have hres:∀ t,C2[t]? = if t < n then some (Value.int .i64 (if t < i then zs.getD t 0 else if t < i+(n-j) then zs.getD (j+(t-i)) 0 else 0)) else C[t]?:=fun t=>by
     rw [m3,k3]
     simp only [List.length_replicate,List.length_map,List.length_drop,hzl,Nat.zero_add,Nat.mul_one]
     by_cases c0:t < n
     ·rw [if_pos c0]
      by_cases c1:t < i
      ·rw [if_neg (by omega),if_neg (by omega),if_pos c1,hC t (zs.getD t 0) (by simp [List.getD,List.getElem?_eq_getElem (show t < zs.length by omega)])]
      ·rw [if_neg c1]
       by_cases c2:t < i+(n-j)
       ·rw [if_neg (by omega),if_pos (by omega),if_pos c2,List.getElem?_map,List.getElem?_drop,List.getElem?_eq_getElem (show j+(t-i) < zs.length by omega)]
        simp [List.getD,List.getElem?_eq_getElem (show j+(t-i) < zs.length by omega)]
       ·rw [if_pos (by omega),if_neg c2,List.getElem?_replicate,if_pos (by omega)]
     ·rw [if_neg c0,if_neg (by omega),if_neg (by omega)]
    obtain ⟨g0,g5,g6,g7,g8⟩:=hr
    refine ⟨s,step_put hS hst hD ho hB2 ?_ (fun e sz ro cs he=>?_) (fun _ _ _ he=>by cases he) (fun _ _ _ _ he=>by cases he),?_⟩
    ·constructor
     ·rw [al_iff,Hp.get_put,if_pos rfl];show b∉H.stale;simp [hst]
     ·unfold Ow;rw [Hp.get_put,if_pos rfl];show _/\b∉H.stale;simp [hst]
    ·cases he
     have hl1:((cs.take n).take (i:Int).toNat++(cs.take n).drop (j:Int).toNat++List.replicate ((j:Int).toNat-(i:Int).toNat) (V.int .i64 0)).length=n:=by simp;omega
     refine ⟨⟨C2,_,_,m1,by rw [m2,k2,h3];omega,fun t v hv=>?_,fun _=>⟨fun t t1 t2=>h5 t (by rw [h3];omega),rfl,h2,by rw [m2,k2];exact h3⟩⟩,g5,?_,?_,g8⟩
     ·rw [h2,Nat.zero_add,hres]
      by_cases c0:t < n
      ·rw [List.getElem?_append_left (by rw [hl1];exact c0)] at hv
       have:=del_list (k:=.i64) hij hjn hzl t c0
       rw [<- hz] at this
       have hv':=hv.symm.trans this
       rw [Option.some.injEq] at hv'
       subst hv'
       rw [if_pos c0]
       exact ⟨_,rfl,.int _ _⟩
      ·rw [List.getElem?_append_right (by rw [hl1];omega),hl1,List.getElem?_drop,show n+(t-n)=t by omega] at hv
       rw [if_neg c0]
       exact h4 t v hv
     ·simp only [List.length_append,hl1,List.length_drop];omega
     ·rw [List.all_append,Bool.and_eq_true]
      constructor
      ·rw [hz]
       simp [List.all_append,List.all_eq_true,oneV]
       exact ⟨fun x hx=>by obtain ⟨y,_,rfl⟩:=List.mem_map.1 (List.mem_of_mem_take hx);rfl,fun x hx=>by obtain ⟨y,_,rfl⟩:=List.mem_map.1 (List.mem_of_mem_drop hx);rfl⟩
      ·rw [List.all_eq_true] at g7 ⊢
       exact fun c hc=>g7 c (List.mem_of_mem_drop hc)
    ·have:=Rv.sln (D:=Dn D H.next H.next) (s:=s) b 0 (n-(j-i)) 1 (.inl hD) hsz (by omega) (by omega) (by omega)
     rw [e1,e2] at this
     rw [show i+(n-j)=n-(j-i) by omega]
     exact this
   ·cases hk
  ·cases hk
 ·cases hk
theorem del_info50:(Try.prog.info? 2).map (fun i=>(i.zero,i.size,i.bytes))=some (some (.int .i64 0),1,8):=by kernel_rfl
theorem del_walk50 (b off n cap i j:Nat) (zs:List Int) (w:World) (hij:i < j) (hj:j<=n) (hl:n<=cap) (hz:zs.length=n)
  (hc:∀ t z,zs[t]? = some z->w.cell? ⟨b,off+t,none⟩=some (.int .i64 z)) (hf:∀ t,t < n->w.frozen? ⟨b,off+t,none⟩=false) :
  Calls Try.prog 50 #[.slice (some ⟨b,off,none⟩) n cap,.int .i64 i,.int .i64 j] w fun e w'=>e = .returned (.slice (some ⟨b,off,none⟩) (i+(n-j)) cap)/\w' = ((w.drew.setCells b (off+i*1) ((zs.drop j).map (Value.int .i64))).setCells b (off+(i+(n-j))) (List.replicate (j-i) (.int .i64 0))):=by
 obtain ⟨i0,hi0,hz0,hz1,hz2⟩:=info_parts del_info50
 obtain ⟨news,hnews⟩:∃ news,news=(zs.drop j).map (Value.int .i64):=⟨_,rfl⟩
 rw [<- hnews]
 have hlen:news.length=n-j:=by rw [hnews];simp [hz]
 have hcell:∀ t,t < n->∃ z,zs[t]? = some z/\w.cell? ⟨b,off+t,none⟩=some (.int .i64 z):=fun t ht=>⟨_,List.getElem?_eq_getElem (by omega),hc t _ (List.getElem?_eq_getElem (by omega))⟩
 obtain ⟨A,hA,hsrc⟩:∃ A:Addr,(if cap=j then some (⟨b,off,none⟩:Addr) else some ⟨b,off+j,none⟩)=some A/\Hid (∀ t u,news[t]? = some u->w.drew.cell? (A.add t)=some u):=by
  by_cases h:cap=j
  ·refine ⟨⟨b,off,none⟩,by simp [h],fun t u hu=>?_⟩
   have:=(List.getElem?_eq_some_iff.1 hu).1
   omega
  ·refine ⟨⟨b,off+j,none⟩,by simp [h],fun t u hu=>?_⟩
   rw [hnews,List.getElem?_map,List.getElem?_drop,Option.map_eq_some_iff] at hu
   obtain ⟨z,hu,rfl⟩:=hu
   rw [Addr.add_lit,show off+j+t=off+(j+t) by omega]
   exact hc (j+t) z hu
 have s1:Hid (news.length=(n-j)*1):=by rw [Nat.mul_one];exact hlen
 have s2:Hid (∀ u∈news,u.oneCell' = true):=by
  intro u hu
  rw [hnews] at hu
  obtain ⟨x,_,rfl⟩:=List.mem_map.1 hu
  rfl
 have s3:Hid (∀ t,t < news.length->(w.drew.cell? ⟨b,off+i*1+t,none⟩).isSome=true/\w.drew.frozen? ⟨b,off+i*1+t,none⟩=false):=by
  intro t ht
  rw [hlen] at ht
  rw [Nat.mul_one,Nat.add_assoc]
  obtain ⟨z,-,hz⟩:=hcell (i+t) (by omega)
  exact ⟨by show (w.cell? _).isSome=true;rw [hz];rfl,hf (i+t) (by omega)⟩
 obtain ⟨W1,hW1⟩:∃ W1,W1=w.drew.setCells b (off+i*1) news:=⟨_,rfl⟩
 have hcl:∀ ty,(Builtin.clear_ #[60] ty #[.slice (some ⟨b,off+(i+(n-j)),none⟩) (n-(i+(n-j))) (cap-(i+(n-j)))]).run Try.prog W1 = .ok (.tuple #[]) (W1.setCells b (off+(i+(n-j))) (List.replicate (n-(i+(n-j))) (.int .i64 0))) :=
  fun ty=>Lib.run_clear_slice W1 _ _ ty _ Try.underlying60 Try.zeroValue2 rfl rfl b (off+(i+(n-j))) _ _ (by omega) (fun t ht=>by
   obtain ⟨z,-,hz⟩:=hcell (i+(n-j)+t) (by omega)
   rw [hW1,World.cell?_setCells_out b _ _ _ _ (fun _ _=>.inr (by rw [hlen];show _<=off+(i+(n-j))+t;omega)),show off+(i+(n-j))+t=off+(i+(n-j)+t) by omega]
   show (w.cell? _).isSome=true
   rw [hz];rfl) (fun t ht=>by
   rw [hW1,World.frozen?_setCells,show off+(i+(n-j))+t=off+(i+(n-j)+t) by omega]
   exact hf _ (by omega))
 have hW:Hid (W1=w.drew.setCells b (off+i*1) news):=hW1
 rw [<- hW1]
 have hic:i<=cap:=by omega
 have hjc:j<=cap:=by omega
 clear hW1 hc hf hcell hnews hlen
 have mixed:Try.prog.follows Departure.mixedOrders=true:=by kernel_rfl
 go_enter Try.func50,Try.ntmps50
 go_wp2_with fail
 go_region_law_o (refine step_append_room rfl (.tmp 22) (.tmp 25) 60 rfl 2 i0 1 Try.underlying60 hi0 hz1 b off i cap (by simp [Act.eval,Act.put]) A (n-j) (cap-j) news (by simp [Act.eval,Act.put]) s1.out hsrc.out s2.out (by omega) s3.out ?_;rw [<- hW.out])
 go_wp2
 go_ret
 exact ⟨rfl,by rw [show n-(i+(n-j))=j-i by omega]⟩
theorem delF50:ExtF tab.init tab.ng Try.prog 50 (delE .i64 2):=by
 intro n0 w0 hI hn vs H v H' hk D s w xs hg hxs hS hG hfr
 unfold delE at hk
 split at hk
 ·rename_i b n i j
  split at hk
  ·rename_i e cs hst hgb
   split at hk
   ·rename_i hc
    obtain ⟨rfl,hi,hij,hjn,hncs,hall⟩:=hc
    cases hk
    obtain ⟨hD,hsz,hcap,rfl⟩:=arg_del hxs
    have hr:=hS.row b _ _ _ _ hD hgb
    rw [hst] at hr
    obtain ⟨C,fz,h1,h2,h3,h4,h5⟩:=RowAt.block hr
    obtain ⟨i,rfl⟩:=Int.eq_ofNat_of_zero_le hi
    obtain ⟨j,rfl⟩:=Int.eq_ofNat_of_zero_le (show 0<=j by omega)
    have hij:i < j:=by omega
    have hjn:j<=n:=by omega
    have hz:=valI_all hall
    generalize (cs.take n).map valI=zs at hz
    have hzl:zs.length=n:=by have:=congrArg List.length hz;simp at this;omega
    have hC:∀ t z,zs[t]? = some z->C[t]? = some (Value.int .i64 z):=fun t z hz'=>by
     have ht:t < n:=by have:=(List.getElem?_eq_some_iff.1 hz').1;omega
     have hct:cs[t]? = some (.int .i64 z):=by
      have:(cs.take n)[t]? = some (.int .i64 z):=by rw [hz,List.getElem?_map,hz'];rfl
      rw [List.getElem?_take,if_pos ht] at this;exact this
     obtain ⟨x,hx,hrx⟩:=h4 t _ hct
     cases hrx
     exact hx
    have hCn:n<=C.size:=by rw [h3];omega
    have hcall:=del_walk50 (s b).b 0 n (s b).cap i j zs w hij hjn hcap hzl (fun t z hz'=>by simp [World.cell?,h1,hC t z hz']) (fun t ht=>by
     have:=h5 t (by omega)
     simp [World.frozen?,h1];omega)
    have e1:(s b).cap-0 / 1=(s b).cap:=by omega
    have e2:(s b).base+0=0:=by omega
    rw [e1,e2]
    refine hcall.mono fun e' w' he=>?_
    obtain ⟨rfl,rfl⟩:=he
    have hd:w.drew.heap[(s b).b]? = some (.cells C 2 fz):=h1
    obtain ⟨C1,k1,k2,k3,k4⟩:=setCells_at ((zs.drop j).map (Value.int .i64)) (0+i*1) hd (by simp;omega)
    obtain ⟨C2,m1,m2,m3,m4⟩:=setCells_at (List.replicate (j-i) (Value.int .i64 0)) (0+(i+(n-j))) k1 (by simp;omega)
    have hB:But w _ (s b).b:=(⟨rfl,rfl,rfl,rfl,fun _ _=>rfl⟩:But w w.drew (s b).b)
    have hB2:=but_trans2 (but_trans2 hB k4) m4
    have ho:Ow H b:=by unfold Ow;rw [hgb,hst];simp
    have hres:∀ t,C2[t]? = if t < n then some (Value.int .i64 (if t < i then zs.getD t 0 else if t < i+(n-j) then zs.getD (j+(t-i)) 0 else 0)) else C[t]?:=fun t=>by
     rw [m3,k3]
     simp only [List.length_replicate,List.length_map,List.length_drop,hzl,Nat.zero_add,Nat.mul_one]
     by_cases c0:t < n
     ·rw [if_pos c0]
      by_cases c1:t < i
      ·rw [if_neg (by omega),if_neg (by omega),if_pos c1,hC t (zs.getD t 0) (by simp [List.getD,List.getElem?_eq_getElem (show t < zs.length by omega)])]
      ·rw [if_neg c1]
       by_cases c2:t < i+(n-j)
       ·rw [if_neg (by omega),if_pos (by omega),if_pos c2,List.getElem?_map,List.getElem?_drop,List.getElem?_eq_getElem (show j+(t-i) < zs.length by omega)]
        simp [List.getD,List.getElem?_eq_getElem (show j+(t-i) < zs.length by omega)]
       ·rw [if_pos (by omega),if_neg c2,List.getElem?_replicate,if_pos (by omega)]
     ·rw [if_neg c0,if_neg (by omega),if_neg (by omega)]
    obtain ⟨g0,g5,g6,g7,g8⟩:=hr
    refine ⟨s,step_put hS hst hD ho hB2 ?_ (fun e sz ro cs he=>?_) (fun _ _ _ he=>by cases he) (fun _ _ _ _ he=>by cases he),?_⟩
    ·constructor
     ·rw [al_iff,Hp.get_put,if_pos rfl];show b∉H.stale;simp [hst]
     ·unfold Ow;rw [Hp.get_put,if_pos rfl];show _/\b∉H.stale;simp [hst]
    ·cases he
     have hl1:((cs.take n).take (i:Int).toNat++(cs.take n).drop (j:Int).toNat++List.replicate ((j:Int).toNat-(i:Int).toNat) (V.int .i64 0)).length=n:=by simp;omega
     refine ⟨⟨C2,_,_,m1,by rw [m2,k2,h3];omega,fun t v hv=>?_,fun _=>⟨fun t t1 t2=>h5 t (by rw [h3];omega),rfl,h2,by rw [m2,k2];exact h3⟩⟩,g5,?_,?_,g8⟩
     ·rw [h2,Nat.zero_add,hres]
      by_cases c0:t < n
      ·rw [List.getElem?_append_left (by rw [hl1];exact c0)] at hv
       have:=del_list (k:=.i64) hij hjn hzl t c0
       rw [<- hz] at this
       have hv':=hv.symm.trans this
       rw [Option.some.injEq] at hv'
       subst hv'
       rw [if_pos c0]
       exact ⟨_,rfl,.int _ _⟩
      ·rw [List.getElem?_append_right (by rw [hl1];omega),hl1,List.getElem?_drop,show n+(t-n)=t by omega] at hv
       rw [if_neg c0]
       exact h4 t v hv
     ·simp only [List.length_append,hl1,List.length_drop];omega
     ·rw [List.all_append,Bool.and_eq_true]
      constructor
      ·rw [hz]
       simp [List.all_append,List.all_eq_true,oneV]
       exact ⟨fun x hx=>by obtain ⟨y,_,rfl⟩:=List.mem_map.1 (List.mem_of_mem_take hx);rfl,fun x hx=>by obtain ⟨y,_,rfl⟩:=List.mem_map.1 (List.mem_of_mem_drop hx);rfl⟩
      ·rw [List.all_eq_true] at g7 ⊢
       exact fun c hc=>g7 c (List.mem_of_mem_drop hc)
    ·have:=Rv.sln (D:=Dn D H.next H.next) (s:=s) b 0 (n-(j-i)) 1 (.inl hD) hsz (by omega) (by omega) (by omega)
     rw [e1,e2] at this
     rw [show i+(n-j)=n-(j-i) by omega]
     exact this
   ·cases hk
  ·cases hk
 ·cases hk
end Go.AM.YtiolgkhfpnidfaaT
set_option maxHeartbeats 8000000
set_option maxRecDepth 100000
namespace Go.AM.YtiolgkhfpnidfaaT
open Go Go.AM Go.Proofs
theorem extOk:ExtOk tab Try.prog:=fun f e hx=>by
 have hx:ext0 f=some e:=hx
 unfold ext0 at hx
 split at hx
 ·rename_i hf;subst hf;cases hx;exact delF24
 split at hx
 ·rename_i hf;subst hf;cases hx;exact delF49
 split at hx
 ·rename_i hf;subst hf;cases hx;exact delF50
 split at hx
 ·rename_i hf;subst hf;cases hx;exact srtF
 ·cases hx
theorem extGood:ExtGood tab:=fun f e hx xs H v H' hk hG=>by
 have hx:ext0 f=some e:=hx
 unfold ext0 at hx
 split at hx
 ·cases hx;exact delE_good hk hG
 split at hx
 ·cases hx;exact delE_good hk hG
 split at hx
 ·cases hx;exact delE_good hk hG
 split at hx
 ·cases hx;exact srtE_good hk hG
 ·cases hx
theorem quietOk:QuietOk tab Try.prog:=fun g h=>by cases h
theorem okP:ProgOk tab Try.prog an:=ok extOk extGood quietOk
#print axioms okP
end Go.AM.YtiolgkhfpnidfaaT
