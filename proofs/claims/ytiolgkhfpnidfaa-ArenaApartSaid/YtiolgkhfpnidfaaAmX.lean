/- Parts of the abstract machine and of the walks over it, joined: what the law that is claimed here leans on. -/
import Derived.Test.YtiolgkhfpnidfaaAmC3
import Derived.Test.YtiolgkhfpnidfaaAmC2
import Derived.Lib.Bytealg
import Derived.Test.YtiolgkhfpnidfaaProg
import Derived.Lib.LaidTab
import Derived.Lib.ItoaNum
import Derived.Deep.RegionLaw
import Derived.Lib.SliceRun
import Derived.Lib.Walk
import Derived.Deep.LoopGhost
import Derived.Shelf.RegionOpenPlain
import Derived.WalkKit
set_option linter.unusedVariables false
set_option linter.unusedSimpArgs false
namespace Go.AM
open Go
def isK (k:IntKind):V->Bool
 | .int k' _=>decide (k' = k)
 | _=>false
def delE (k:IntKind) (te:Nat):List V->Hp->Option (V×Hp)
 | [.sl b 0 n none 1,.int .i64 i,.int .i64 j],H=>match H.stale,H.get b with
  | [],some (.row e 1 false cs) =>
   if e=te/\0<=i/\i < j/\j<=n/\n<=cs.length/\(cs.take n).all (isK k)=true then
    some (.sl b 0 (n-(j.toNat-i.toNat)) none 1,H.put b (.row e 1 false ((cs.take n).take i.toNat++(cs.take n).drop j.toNat++List.replicate (j.toNat-i.toNat) (.int k 0)++cs.drop n)))
   else none
  | _,_=>none
 | _,_=>none
theorem delE_good {k:IntKind} {te:Nat} {xs:List V} {H H' : Hp} {v:V} (h:delE k te xs H=some (v,H')) (hG:Good H):Grow H H':=by
 unfold delE at h
 split at h
 ·split at h
  ·rename_i hg
   split at h
   ·cases h;exact hG.put hg
   ·cases h
  ·cases h
 ·cases h
end Go.AM
namespace Go.AM.YtiolgkhfpnidfaaT
open Go Go.AM
def ext0 (f:FuncId):Option (List V->Hp->Option (V×Hp)):=if f=24 then some (delE .u64 29) else if f=49 then some (delE .i64 3) else if f=50 then some (delE .i64 2) else none
def quiet0 (_:FuncId):Bool:=false
end Go.AM.YtiolgkhfpnidfaaT
namespace Go.AM.YtiolgkhfpnidfaaT
open Go Go.AM Go.Proofs
set_option maxRecDepth 100000
abbrev xO:Option TI:=some ⟨.other,1,8,[.nilf],false⟩
abbrev xN:Tr TI:=.node .nil xO .nil
def tyT:Tr TI:=(.node (.node (.node (.node (.node (.node (.node .nil (some (⟨.int .i8,1,1,[.int .i8 0],false⟩)) .nil) xO (.node .nil (some (⟨.slice 100,1,24,[.nils],false⟩)) .nil)) (some (⟨.ptr 157,1,8,[.nilp],false⟩)) xN) (some (⟨.struct [(0,2),(1,3),(2,4),(3,6)],4,24,[.int .i64 0,.int .i64 0,.bool false,.int .u8 0],true⟩)) (.node (.node .nil (some (⟨.slice 42,1,24,[.nils],false⟩)) .nil) xO .nil)) (some (⟨.int .i64,1,8,[.int .i64 0],false⟩)) (.node (.node (.node .nil none (.node xN none .nil)) (some (⟨.struct [(0,17)],1,8,[.nilp],false⟩)) .nil) (some (⟨.str,1,16,[.str []],false⟩)) (.node .nil xO (.node .nil (some (⟨.slice 3,1,24,[.nils],false⟩)) xN)))) xO (.node (.node (.node (.node .nil (some (⟨.slice 29,1,24,[.nils],false⟩)) (.node (.node .nil (some (⟨.int .u8,1,1,[.int .u8 0],false⟩)) .nil) none .nil)) (some (⟨.ptr 168,1,8,[.nilp],false⟩)) (.node .nil (some (⟨.struct [(0,5),(1,2),(2,9)],3,32,[.int .u8 0,.int .i64 0,.str []],true⟩)) .nil)) (some (⟨.str,1,16,[.str []],false⟩)) (.node (.node .nil (some (⟨.struct [(0,40),(1,2),(2,9)],3,32,[.int .u8 0,.int .i64 0,.str []],true⟩)) .nil) (some (⟨.map 29 93,1,8,[.nilm],false⟩)) .nil)) (some (⟨.int .u8,1,1,[.int .u8 0],false⟩)) (.node (.node (.node .nil (some (⟨.int .u8,1,1,[.int .u8 0],false⟩)) (.node (.node .nil (some (⟨.int .i32,1,4,[.int .i32 0],false⟩)) .nil) (some (⟨.ptr 100,1,8,[.nilp],false⟩)) .nil)) (some (⟨.int .i32,1,4,[.int .i32 0],false⟩)) .nil) (some (⟨.struct [(0,9),(1,12)],2,24,[.str [],.int .u64 0],false⟩)) (.node (.node .nil xO xN) (some (⟨.int .u64,1,8,[.int .u64 0],false⟩)) (.node (.node (.node .nil (some (⟨.struct [(0,17),(1,17),(2,17),(3,9)],4,40,[.nilp,.nilp,.nilp,.str []],false⟩)) .nil) (some (⟨.struct [],0,0,[],false⟩)) .nil) none .nil))))) none (.node (.node (.node (.node (.node (.node .nil (some (⟨.struct [(0,5),(1,5),(2,5),(3,63)],4,4,[.int .u8 0,.int .u8 0,.int .u8 0,.int .i8 0],true⟩)) .nil) xO (.node (.node .nil (some (⟨.struct [(0,158)],0,0,[],false⟩)) .nil) (some (⟨.slice 90,1,24,[.nils],false⟩)) .nil)) (some (⟨.ptr 160,1,8,[.nilp],false⟩)) xN) (some (⟨.struct [(0,2),(1,3),(2,4),(3,6)],4,24,[.int .i64 0,.int .i64 0,.bool false,.int .u8 0],false⟩)) (.node (.node .nil (some (⟨.int .u8,1,1,[.int .u8 0],false⟩)) (.node (.node .nil (some (⟨.struct [(0,12),(1,12),(2,90),(3,161),(4,5),(5,5),(6,162),(7,163),(8,164),(9,165),(10,166)],11,48,[.int .u64 0,.int .u64 0,.int .u32 0,.int .u8 0,.int .u8 0,.int .u8 0,.int .u8 0,.nilf,.nilp,.int .i32 0,.int .i32 0],false⟩)) .nil) none .nil)) (some (⟨.map 29 93,1,8,[.nilm],false⟩)) (.node .nil none (.node .nil (some (⟨.int .u64,1,8,[.int .u64 0],false⟩)) .nil)))) (some (⟨.bool,1,1,[.bool false],false⟩)) (.node (.node (.node .nil none (.node (.node .nil (some (⟨.ptr 5,1,8,[.nilp],false⟩)) .nil) (some (⟨.struct [(0,90),(1,4),(2,44)],16,144,[.int .u32 0,.bool false,.int .u8 0,.int .i64 0,.bool false,.nilm,.int .i64 0,.int .i64 0,.nils,.int .u64 0,.int .u8 0,.int .i64 0,.str [],.int .i64 0,.int .u64 0,.int .i64 0],false⟩)) .nil)) (some (⟨.iface,1,16,[.nili],false⟩)) .nil) (some (⟨.int .u64,1,8,[.int .u64 0],false⟩)) (.node (.node .nil (some (⟨.struct [(0,37),(1,3),(2,4),(3,38),(4,3),(5,3),(6,39),(7,29),(8,42),(11,3),(12,29),(13,3)],14,136,[.int .u8 0,.int .i64 0,.bool false,.nilm,.int .i64 0,.int .i64 0,.nils,.int .u64 0,.int .u8 0,.int .i64 0,.str [],.int .i64 0,.int .u64 0,.int .i64 0],false⟩)) .nil) (some (⟨.int .u64,1,8,[.int .u64 0],false⟩)) (.node .nil (some (⟨.slice 2,1,24,[.nils],false⟩)) .nil)))) (some (⟨.int .i64,1,8,[.int .i64 0],false⟩)) (.node (.node (.node (.node .nil (some (⟨.int .i64,1,8,[.int .i64 0],false⟩)) (.node (.node .nil (some (⟨.int .u8,1,1,[.int .u8 0],false⟩)) .nil) (some (⟨.struct [(0,95),(1,96),(2,59),(3,59)],4,96,[.nils,.nils,.nils,.nils],false⟩)) .nil)) (some (⟨.struct [(0,17)],1,8,[.nilp],false⟩)) (.node .nil (some (⟨.struct [(0,5),(1,2),(2,9)],3,32,[.int .u8 0,.int .i64 0,.str []],true⟩)) xN)) (some (⟨.str,1,16,[.str []],false⟩)) (.node (.node .nil (some (⟨.struct [(0,40),(1,2),(2,9)],3,32,[.int .u8 0,.int .i64 0,.str []],true⟩)) .nil) xO (.node (.node .nil (some (⟨.int .u32,1,4,[.int .u32 0],false⟩)) .nil) (some (⟨.ptr 62,1,8,[.nilp],false⟩)) .nil))) (some (⟨.int .u8,1,1,[.int .u8 0],false⟩)) (.node (.node (.node .nil (some (⟨.map 42 42,1,8,[.nilm],false⟩)) (.node (.node .nil (some (⟨.int .i32,1,4,[.int .i32 0],false⟩)) .nil) none .nil)) (some (⟨.slice 5,1,24,[.nils],false⟩)) .nil) (some (⟨.struct [(0,9),(1,12)],2,24,[.str [],.int .u64 0],false⟩)) (.node (.node .nil (some (⟨.ptr 44,1,8,[.nilp],false⟩)) .nil) (some (⟨.ptr 98,1,8,[.nilp],false⟩)) (.node (.node (.node .nil (some (⟨.arr 0 16,0,0,[],false⟩)) .nil) none .nil) (some (⟨.struct [(0,59),(1,33),(2,59),(3,60),(4,33)],5,120,[.nils,.nils,.nils,.nils,.nils],false⟩)) .nil))))))
def fnT:Tr Unit:=(.node (.node (.node (.node (.node .nil (some (())) .nil) (some (())) .nil) none (.node (.node .nil (some (())) .nil) none .nil)) none (.node (.node (.node .nil (some (())) (.node .nil (some (())) .nil)) none (.node (.node .nil (some (())) .nil) none .nil)) none (.node (.node .nil (some (())) .nil) none (.node (.node .nil (some (())) .nil) none .nil)))) none (.node (.node (.node (.node (.node (.node .nil (some (())) .nil) none .nil) (some (())) .nil) none (.node .nil (some (())) .nil)) (some (())) (.node (.node .nil (some (())) .nil) (some (())) (.node (.node .nil (some (())) .nil) none .nil))) none (.node (.node (.node .nil (some (())) (.node .nil (some (())) .nil)) none (.node (.node .nil (some (())) .nil) none (.node .nil (some (())) .nil))) none (.node .nil (some (())) (.node (.node .nil (some (())) .nil) none .nil)))))
def drT:Tr (Tr (List (Nat×Nat))):=(.node (.node (.node (.node .nil (some ((.node (.node (.node (.node (.node (.node .nil (some ([(0,0),(1,0),(2,0),(3,0),(4,0),(5,0),(6,0),(7,0),(8,0),(9,0),(10,0),(11,0),(12,0),(13,0)])) .nil) none .nil) none .nil) none .nil) none .nil) none .nil))) .nil) none (.node (.node .nil (some ((.node (.node (.node .nil (some ([(0,0),(1,0),(2,0),(3,0),(4,0),(5,0),(6,0),(7,0),(8,0),(9,0),(10,0),(11,0),(12,0),(13,0),(14,0),(15,0),(16,0)])) .nil) none (.node (.node .nil (some ([(0,0),(1,0),(2,0),(3,0),(4,0),(5,0),(6,0),(7,0),(8,0),(9,0),(10,0),(11,0),(12,0),(13,0),(14,0)])) .nil) none (.node .nil (some ([(0,0),(1,0),(2,0),(3,0),(4,0),(5,0),(6,0),(7,0),(8,0),(9,0),(10,0)])) .nil))) none (.node (.node (.node .nil (some ([(0,0),(1,0),(2,0),(3,0),(4,0),(5,0),(6,0),(7,0),(8,0),(9,0),(10,0),(11,0),(12,0)])) .nil) none (.node .nil (some ([(0,0),(3,0),(4,0),(5,0),(1,1),(2,1),(6,0),(7,0),(8,0)])) .nil)) none (.node .nil (some ([(1,0),(2,0),(3,0),(4,0),(5,0),(6,0),(7,0),(8,0),(9,0),(10,0),(11,0),(12,0),(0,1),(13,0),(14,0),(15,0)])) .nil))))) .nil) none .nil)) none (.node (.node (.node .nil none (.node .nil (some ((.node (.node .nil none (.node .nil (some ([(0,0),(1,0),(2,0),(3,0),(4,0),(5,0),(6,0),(7,0)])) .nil)) none .nil))) .nil)) none .nil) none (.node (.node .nil (some ((.node .nil none (.node .nil (some ([(0,0),(1,0),(2,0),(3,0),(4,0),(5,0),(6,0),(7,0),(8,0),(9,0),(10,0),(11,0),(12,0),(13,0),(14,0),(15,0),(16,0),(17,0),(18,0),(27,0),(28,0),(19,1),(20,1),(21,1),(22,1),(23,1),(24,1),(25,1),(26,1),(29,0),(30,0)])) .nil)))) .nil) none .nil))) none (.node (.node (.node .nil none (.node .nil (some ((.node (.node .nil none (.node .nil (some ([(0,0),(1,0),(2,0),(3,0),(4,0),(5,0),(6,0),(7,0)])) .nil)) none .nil))) .nil)) none (.node (.node .nil (some ((.node (.node (.node .nil (some ([(4,0),(5,0),(0,1),(1,1),(2,1),(3,1),(6,0),(7,0)])) .nil) none (.node .nil (some ([(5,0),(6,0),(1,1),(2,1),(3,1),(4,1),(7,0),(8,0),(0,2),(9,0),(10,0),(11,0)])) .nil)) none (.node .nil (some ([(0,0),(1,0),(2,0),(3,0),(4,0),(5,0),(6,0),(7,0),(8,0),(9,0),(10,0),(11,0),(12,0)])) .nil)))) .nil) none .nil)) none (.node (.node (.node .nil (some ((.node (.node .nil (some ([(2,0),(3,0),(4,0),(5,0),(6,0),(7,0),(8,0),(9,0),(10,1),(11,1),(12,1),(13,1),(14,1),(15,0),(0,2),(16,0),(17,0),(18,0),(1,3),(19,0),(20,0),(21,0)])) .nil) none .nil))) (.node .nil (some ((.node (.node .nil none (.node .nil (some ([(0,0),(1,0),(2,0),(3,0),(4,0),(5,0),(6,0),(7,0)])) .nil)) none .nil))) .nil)) none .nil) none .nil)))
def anT:Tr (Tr (List Nat)):=(.node (.node (.node (.node .nil (some ((.node (.node (.node (.node (.node (.node .nil (some ([0,1,3,7,15,31,63,7,135,391,903,1927,4095,8191])) .nil) none .nil) none .nil) none .nil) none .nil) none .nil))) .nil) none (.node (.node .nil (some ((.node (.node (.node .nil (some ([0,1,3,7,0,16,63,127,0,256,768,1792,0,4096,16128,32512,65535])) .nil) none (.node (.node .nil (some ([0,0,2,6,14,0,32,96,224,480,992,2046,4095,8191,16383])) .nil) none (.node .nil (some ([0,1,3,7,0,16,63,127,255,511,1023])) .nil))) none (.node (.node (.node .nil (some ([0,1,3,7,0,16,48,112,240,496,1023,2047,4095])) .nil) none (.node .nil (some ([0,0,0,1,9,25,63,127,255])) .nil)) none (.node .nil (some ([0,0,2,6,14,0,32,96,224,480,992,2016,4094,8191,16383,32767])) .nil))))) .nil) none .nil)) none (.node (.node (.node .nil none (.node .nil (some ((.node (.node .nil none (.node .nil (some ([0,0,3,0,0,24,63,127])) .nil)) none .nil))) .nil)) none .nil) none (.node (.node .nil (some ((.node .nil none (.node .nil (some ([0,0,2,6,14,30,63,127,255,511,1023,2047,255,8191,16383,32767,65535,131071,262143,524287,1048575,2097151,4194303,524287,16777215,33554431,67108863,524287,134742015,536870911,1073741823])) .nil)))) .nil) none .nil))) none (.node (.node (.node .nil none (.node .nil (some ((.node (.node .nil none (.node .nil (some ([0,0,3,0,0,24,63,127])) .nil)) none .nil))) .nil)) none (.node (.node .nil (some ((.node (.node (.node .nil (some ([0,1,3,7,0,16,63,127])) .nil) none (.node .nil (some ([0,0,2,6,14,0,32,96,254,511,1023,2047])) .nil)) none (.node .nil (some ([0,1,3,7,0,16,48,112,255,511,1023,2047,4095])) .nil)))) .nil) none .nil)) none (.node (.node (.node .nil (some ((.node (.node .nil (some ([0,0,0,4,12,28,0,64,192,508,0,1024,3072,7168,0,32764,65533,131069,262141,524287,1048575,2097151])) .nil) none .nil))) (.node .nil (some ((.node (.node .nil none (.node .nil (some ([0,0,3,0,0,24,63,127])) .nil)) none .nil))) .nil)) none .nil) none .nil)))
def an (f:FuncId) (id:Nat):List Nat:=match anT.get f with | some t=>(match t.get id with | some l=>l | none=>[]) | none=>[]
noncomputable def tab:Tab where
 ty:=tyT.get
 fn f:=match fnT.get f with | some _=>Try.prog.funcs[f]? | none=>none
 ng:=0
 dr f id:=match drT.get f with | some t=>t.get id | none=>none
 ext:=ext0
 quiet:=quiet0
 alt f id:=none
theorem tab_ng:tab.ng=0:=Eq.trans rfl rfl
theorem ty1:tab.ty 1=some ⟨.other,1,8,[.nilf],false⟩:=Eq.trans rfl rfl
theorem ty2:tab.ty 2=some ⟨.int .i64,1,8,[.int .i64 0],false⟩:=Eq.trans rfl rfl
theorem ty3:tab.ty 3=some ⟨.int .i64,1,8,[.int .i64 0],false⟩:=Eq.trans rfl rfl
theorem ty4:tab.ty 4=some ⟨.bool,1,1,[.bool false],false⟩:=Eq.trans rfl rfl
theorem ty5:tab.ty 5=some ⟨.int .u8,1,1,[.int .u8 0],false⟩:=Eq.trans rfl rfl
theorem ty6:tab.ty 6=some ⟨.int .u8,1,1,[.int .u8 0],false⟩:=Eq.trans rfl rfl
theorem ty7:tab.ty 7=some ⟨.struct [(0,2),(1,3),(2,4),(3,6)],4,24,[.int .i64 0,.int .i64 0,.bool false,.int .u8 0],true⟩:=Eq.trans rfl rfl
theorem ty8:tab.ty 8=some ⟨.struct [(0,2),(1,3),(2,4),(3,6)],4,24,[.int .i64 0,.int .i64 0,.bool false,.int .u8 0],false⟩:=Eq.trans rfl rfl
theorem ty9:tab.ty 9=some ⟨.str,1,16,[.str []],false⟩:=Eq.trans rfl rfl
theorem ty10:tab.ty 10=some ⟨.str,1,16,[.str []],false⟩:=Eq.trans rfl rfl
theorem ty11:tab.ty 11=some ⟨.str,1,16,[.str []],false⟩:=Eq.trans rfl rfl
theorem ty12:tab.ty 12=some ⟨.int .u64,1,8,[.int .u64 0],false⟩:=Eq.trans rfl rfl
theorem ty13:tab.ty 13=some ⟨.struct [(0,9),(1,12)],2,24,[.str [],.int .u64 0],false⟩:=Eq.trans rfl rfl
theorem ty14:tab.ty 14=some ⟨.struct [(0,9),(1,12)],2,24,[.str [],.int .u64 0],false⟩:=Eq.trans rfl rfl
theorem ty15:tab.ty 15=some ⟨.ptr 157,1,8,[.nilp],false⟩:=Eq.trans rfl rfl
theorem ty16:tab.ty 16=some ⟨.ptr 160,1,8,[.nilp],false⟩:=Eq.trans rfl rfl
theorem ty17:tab.ty 17=some ⟨.ptr 168,1,8,[.nilp],false⟩:=Eq.trans rfl rfl
theorem ty18:tab.ty 18=some ⟨.struct [(0,17)],1,8,[.nilp],false⟩:=Eq.trans rfl rfl
theorem ty19:tab.ty 19=some ⟨.struct [(0,17)],1,8,[.nilp],false⟩:=Eq.trans rfl rfl
theorem ty20:tab.ty 20=some ⟨.iface,1,16,[.nili],false⟩:=Eq.trans rfl rfl
theorem ty21:tab.ty 21=some ⟨.int .i32,1,4,[.int .i32 0],false⟩:=Eq.trans rfl rfl
theorem ty22:tab.ty 22=some ⟨.slice 5,1,24,[.nils],false⟩:=Eq.trans rfl rfl
theorem ty23:tab.ty 23=some ⟨.other,1,8,[.nilf],false⟩:=Eq.trans rfl rfl
theorem ty24:tab.ty 24=some ⟨.map 29 93,1,8,[.nilm],false⟩:=Eq.trans rfl rfl
theorem ty25:tab.ty 25=some ⟨.map 29 93,1,8,[.nilm],false⟩:=Eq.trans rfl rfl
theorem ty26:tab.ty 26=some ⟨.other,1,8,[.nilf],false⟩:=Eq.trans rfl rfl
theorem ty27:tab.ty 27=some ⟨.other,1,8,[.nilf],false⟩:=Eq.trans rfl rfl
theorem ty28:tab.ty 28=some ⟨.int .u64,1,8,[.int .u64 0],false⟩:=Eq.trans rfl rfl
theorem ty29:tab.ty 29=some ⟨.int .u64,1,8,[.int .u64 0],false⟩:=Eq.trans rfl rfl
theorem ty30:tab.ty 30=some ⟨.ptr 98,1,8,[.nilp],false⟩:=Eq.trans rfl rfl
theorem ty31:tab.ty 31=some ⟨.other,1,8,[.nilf],false⟩:=Eq.trans rfl rfl
theorem ty32:tab.ty 32=some ⟨.other,1,8,[.nilf],false⟩:=Eq.trans rfl rfl
theorem ty33:tab.ty 33=some ⟨.slice 29,1,24,[.nils],false⟩:=Eq.trans rfl rfl
theorem ty34:tab.ty 34=some ⟨.int .i64,1,8,[.int .i64 0],false⟩:=Eq.trans rfl rfl
theorem ty37:tab.ty 37=some ⟨.int .u8,1,1,[.int .u8 0],false⟩:=Eq.trans rfl rfl
theorem ty38:tab.ty 38=some ⟨.map 42 42,1,8,[.nilm],false⟩:=Eq.trans rfl rfl
theorem ty39:tab.ty 39=some ⟨.slice 42,1,24,[.nils],false⟩:=Eq.trans rfl rfl
theorem ty40:tab.ty 40=some ⟨.int .u8,1,1,[.int .u8 0],false⟩:=Eq.trans rfl rfl
theorem ty41:tab.ty 41=some ⟨.struct [(0,40),(1,2),(2,9)],3,32,[.int .u8 0,.int .i64 0,.str []],true⟩:=Eq.trans rfl rfl
theorem ty42:tab.ty 42=some ⟨.struct [(0,40),(1,2),(2,9)],3,32,[.int .u8 0,.int .i64 0,.str []],true⟩:=Eq.trans rfl rfl
theorem ty44:tab.ty 44=some ⟨.struct [(0,37),(1,3),(2,4),(3,38),(4,3),(5,3),(6,39),(7,29),(8,42),(11,3),(12,29),(13,3)],14,136,[.int .u8 0,.int .i64 0,.bool false,.nilm,.int .i64 0,.int .i64 0,.nils,.int .u64 0,.int .u8 0,.int .i64 0,.str [],.int .i64 0,.int .u64 0,.int .i64 0],false⟩:=Eq.trans rfl rfl
theorem ty45:tab.ty 45=some ⟨.other,1,8,[.nilf],false⟩:=Eq.trans rfl rfl
theorem ty46:tab.ty 46=some ⟨.ptr 44,1,8,[.nilp],false⟩:=Eq.trans rfl rfl
theorem ty47:tab.ty 47=some ⟨.other,1,8,[.nilf],false⟩:=Eq.trans rfl rfl
theorem ty48:tab.ty 48=some ⟨.other,1,8,[.nilf],false⟩:=Eq.trans rfl rfl
theorem ty49:tab.ty 49=some ⟨.struct [(0,5),(1,2),(2,9)],3,32,[.int .u8 0,.int .i64 0,.str []],true⟩:=Eq.trans rfl rfl
theorem ty50:tab.ty 50=some ⟨.struct [(0,5),(1,2),(2,9)],3,32,[.int .u8 0,.int .i64 0,.str []],true⟩:=Eq.trans rfl rfl
theorem ty58:tab.ty 58=some ⟨.ptr 62,1,8,[.nilp],false⟩:=Eq.trans rfl rfl
theorem ty59:tab.ty 59=some ⟨.slice 3,1,24,[.nils],false⟩:=Eq.trans rfl rfl
theorem ty60:tab.ty 60=some ⟨.slice 2,1,24,[.nils],false⟩:=Eq.trans rfl rfl
theorem ty62:tab.ty 62=some ⟨.struct [(0,59),(1,33),(2,59),(3,60),(4,33)],5,120,[.nils,.nils,.nils,.nils,.nils],false⟩:=Eq.trans rfl rfl
theorem ty63:tab.ty 63=some ⟨.int .i8,1,1,[.int .i8 0],false⟩:=Eq.trans rfl rfl
theorem ty64:tab.ty 64=some ⟨.struct [(0,5),(1,5),(2,5),(3,63)],4,4,[.int .u8 0,.int .u8 0,.int .u8 0,.int .i8 0],true⟩:=Eq.trans rfl rfl
theorem ty90:tab.ty 90=some ⟨.int .u32,1,4,[.int .u32 0],false⟩:=Eq.trans rfl rfl
theorem ty93:tab.ty 93=some ⟨.struct [],0,0,[],false⟩:=Eq.trans rfl rfl
theorem ty95:tab.ty 95=some ⟨.slice 100,1,24,[.nils],false⟩:=Eq.trans rfl rfl
theorem ty96:tab.ty 96=some ⟨.slice 90,1,24,[.nils],false⟩:=Eq.trans rfl rfl
theorem ty98:tab.ty 98=some ⟨.struct [(0,95),(1,96),(2,59),(3,59)],4,96,[.nils,.nils,.nils,.nils],false⟩:=Eq.trans rfl rfl
theorem ty100:tab.ty 100=some ⟨.struct [(0,90),(1,4),(2,44)],16,144,[.int .u32 0,.bool false,.int .u8 0,.int .i64 0,.bool false,.nilm,.int .i64 0,.int .i64 0,.nils,.int .u64 0,.int .u8 0,.int .i64 0,.str [],.int .i64 0,.int .u64 0,.int .i64 0],false⟩:=Eq.trans rfl rfl
theorem ty101:tab.ty 101=some ⟨.ptr 100,1,8,[.nilp],false⟩:=Eq.trans rfl rfl
theorem ty109:tab.ty 109=some ⟨.other,1,8,[.nilf],false⟩:=Eq.trans rfl rfl
theorem ty114:tab.ty 114=some ⟨.other,1,8,[.nilf],false⟩:=Eq.trans rfl rfl
theorem ty120:tab.ty 120=some ⟨.int .u64,1,8,[.int .u64 0],false⟩:=Eq.trans rfl rfl
theorem fn7:tab.fn 7=some Try.f7:=Try.func7
theorem fn14:tab.fn 14=some Try.f14:=Try.func14
theorem fn15:tab.fn 15=some Try.f15:=Try.func15
theorem fn17:tab.fn 17=some Try.f17:=Try.func17
theorem fn18:tab.fn 18=some Try.f18:=Try.func18
theorem fn19:tab.fn 19=some Try.f19:=Try.func19
theorem fn20:tab.fn 20=some Try.f20:=Try.func20
theorem fn21:tab.fn 21=some Try.f21:=Try.func21
theorem fn24:tab.fn 24=some Try.f24:=Try.func24
theorem fn41:tab.fn 41=some Try.f41:=Try.func41
theorem fn42:tab.fn 42=some Try.f42:=Try.func42
theorem fn45:tab.fn 45=some Try.f45:=Try.func45
theorem fn46:tab.fn 46=some Try.f46:=Try.func46
theorem ty_ok:Tr.allF (fun t i=>tiOk Try.prog t i) tyT (fun n=>n)=true:=by kernel_rfl
theorem fn_ok:Tr.allF (fun f _=>match tab.fn f with | some fn=>fnOk tab an f fn | none=>true) fnT (fun n=>n)=true:=by kernel_rfl
theorem tabOk:TabOk tab Try.prog where
 ty:=fun t i h=>Tr.allF_get _ tyT _ ty_ok t i h
 fn:=fun f fn h=>by
  have h:(match fnT.get f with | some _=>Try.prog.funcs[f]? | none=>none)=some fn:=h
  split at h
  ·exact h
  ·cases h
theorem mixedOk:Try.prog.follows .mixedOrders=true:=by kernel_rfl
theorem codeOk (f:FuncId) (fn:Func) (h:tab.fn f=some fn):fnOk tab an f fn=true:=by
 have h' : (match fnT.get f with | some _=>Try.prog.funcs[f]? | none=>none)=some fn:=h
 split at h'
 ·rename_i u hu
  have:=Tr.allF_get _ fnT _ fn_ok f u hu
  simp only [h] at this
  exact this
 ·cases h'
theorem ok (h1:ExtOk tab Try.prog) (h2:ExtGood tab) (h3:QuietOk tab Try.prog):ProgOk tab Try.prog an:=⟨h1,h2,tabOk,mixedOk,codeOk,h3⟩
#print axioms ok
end Go.AM.YtiolgkhfpnidfaaT
set_option maxRecDepth 100000
set_option maxHeartbeats 4000000
namespace Go.AM.YtiolgkhfpnidfaaT
open Go Go.AM Go.RowKit Go.Proofs
def valI:V->Int
 | .int _ m=>m
 | _=>0
theorem valI_all {k:IntKind}:∀ {l:List V},l.all (isK k)=true->l=(l.map valI).map (.int k)
 | [],_=>rfl
 | x :: r,h=>by
  rw [List.all_cons,Bool.and_eq_true] at h
  rw [List.map_cons,List.map_cons,<- valI_all h.2]
  cases x<;>simp [isK] at h
  obtain ⟨rfl,-⟩:=h
  rfl
theorem setCell_at {w:World} {B i:Nat} {C:Array Value} {e:TypeId} {fz:Nat×Nat} (h:w.heap[B]? = some (.cells C e fz)) (v:Value):(w.setCell ⟨B,i,none⟩ v).heap[B]? = some (.cells (C.setIfInBounds i v) e fz)/\But w (w.setCell ⟨B,i,none⟩ v) B:=by
 constructor
 ·simp [World.setCell,Array.getElem?_modify,h]
 ·exact ⟨rfl,rfl,rfl,by simp [World.setCell],fun k hk=>Below.heap_setCell _ _ _ k hk⟩
theorem but_trans2 {w w1 w2:World} {B:Nat} (h:But w w1 B) (h' : But w1 w2 B):But w w2 B :=
 ⟨h'.os.trans h.os,h'.tape.trans h.tape,h'.output.trans h.output,h'.size.trans h.size,fun k hk=>(h'.old k hk).trans (h.old k hk)⟩
theorem setCells_at {B:Nat} {e:TypeId} {fz:Nat×Nat}:∀ (vs:List Value) (o:Nat) {w:World} {C:Array Value},w.heap[B]? = some (.cells C e fz)->o+vs.length<=C.size ->
  ∃ C',(w.setCells B o vs).heap[B]? = some (.cells C' e fz)/\C'.size=C.size/\(∀ i,C'[i]? = if o<=i/\i < o+vs.length then vs[i-o]? else C[i]?)/\But w (w.setCells B o vs) B
 | [],o,w,C,h,_=>⟨C,h,rfl,fun i=>by rw [if_neg (by rintro ⟨h1,h2⟩;simp at h2;omega)],⟨rfl,rfl,rfl,rfl,fun _ _=>rfl⟩⟩
 | v :: r,o,w,C,h,hl=>by
  obtain ⟨h1,h2⟩:=setCell_at (i:=o) h v
  obtain ⟨C',g1,g2,g3,g4⟩:=setCells_at r (o+1) h1 (by simp at hl ⊢;omega)
  refine ⟨C',g1,by rw [g2];simp,fun i=>?_,but_trans2 h2 g4⟩
  simp at hl
  rw [g3]
  by_cases hi:i=o
  ·subst hi
   rw [if_neg (by omega),if_pos (by simp),Array.getElem?_setIfInBounds]
   simp;try omega
  ·rw [Array.getElem?_setIfInBounds_ne (fun e=>hi e.symm)]
   by_cases hc:o+1<=i/\i < o+1+r.length
   ·rw [if_pos hc,if_pos (by simp;omega),show i-o=(i-(o+1))+1 by omega,List.getElem?_cons_succ]
   ·rw [if_neg hc,if_neg (by simp;omega)]
theorem arg_del {D:Nat->Prop} {s:Sg} {b n:Nat} {i j:Int} {xs:Array Value} (h:RvL D s [.sl b 0 n none 1,.int .i64 i,.int .i64 j] xs.toList):D b/\(s b).sz=1/\n<=(s b).cap/\xs = #[.slice (some ⟨(s b).b,(s b).base+0,none⟩) n ((s b).cap-0 / 1),.int .i64 i,.int .i64 j]:=by
 cases xs with
 | mk l =>
  cases h with
  | cons _ x _ _ h1 h2 =>
   cases h2 with
   | cons _ x1 _ _ h3 h4 =>
    cases h4 with
    | cons _ x2 _ _ h5 h6 =>
     cases h6
     cases h1 with
     | sln _ _ _ _ hD h1 h2 h3' h4' =>
      cases h3;cases h5
      exact ⟨hD,h1,by omega,rfl⟩
theorem del_list {k:IntKind} {zs:List Int} {i j n:Nat} (hij:i < j) (hj:j<=n) (hz:zs.length=n) (t:Nat) (ht:t < n) :
  ((zs.map (V.int k)).take i++(zs.map (V.int k)).drop j++List.replicate (j-i) (.int k 0))[t]? = some (.int k (if t < i then zs.getD t 0 else if t < i+(n-j) then zs.getD (j+(t-i)) 0 else 0)):=by
 have h1:((zs.map (V.int k)).take i).length=i:=by simp;omega
 have h2:((zs.map (V.int k)).drop j).length=n-j:=by simp;omega
 rw [List.append_assoc]
 by_cases c1:t < i
 ·rw [if_pos c1,List.getElem?_append_left (by omega),List.getElem?_take,if_pos c1,List.getElem?_map,List.getElem?_eq_getElem (by omega)]
  simp [List.getD,List.getElem?_eq_getElem (show t < zs.length by omega)]
 ·rw [if_neg c1,List.getElem?_append_right (by omega),h1]
  by_cases c2:t < i+(n-j)
  ·rw [if_pos c2,List.getElem?_append_left (by omega),List.getElem?_drop,List.getElem?_map,List.getElem?_eq_getElem (by omega)]
   simp [List.getD,List.getElem?_eq_getElem (show j+(t-i) < zs.length by omega)]
  ·rw [if_neg c2,List.getElem?_append_right (by omega),h2,List.getElem?_replicate,if_pos (by omega)]
theorem del_info24:(Try.prog.info? 29).map (fun i=>(i.zero,i.size,i.bytes))=some (some (.int .u64 0),1,8):=by kernel_rfl
theorem del_walk24 (b off n cap i j:Nat) (zs:List Int) (w:World) (hij:i < j) (hj:j<=n) (hl:n<=cap) (hz:zs.length=n)
  (hc:∀ t z,zs[t]? = some z->w.cell? ⟨b,off+t,none⟩=some (.int .u64 z)) (hf:∀ t,t < n->w.frozen? ⟨b,off+t,none⟩=false) :
  Calls Try.prog 24 #[.slice (some ⟨b,off,none⟩) n cap,.int .i64 i,.int .i64 j] w fun e w'=>e = .returned (.slice (some ⟨b,off,none⟩) (i+(n-j)) cap)/\w' = ((w.drew.setCells b (off+i*1) ((zs.drop j).map (Value.int .u64))).setCells b (off+(i+(n-j))) (List.replicate (j-i) (.int .u64 0))):=by
 obtain ⟨i0,hi0,hz0,hz1,hz2⟩:=info_parts del_info24
 obtain ⟨news,hnews⟩:∃ news,news=(zs.drop j).map (Value.int .u64):=⟨_,rfl⟩
 rw [<- hnews]
 have hlen:news.length=n-j:=by rw [hnews];simp [hz]
 have hcell:∀ t,t < n->∃ z,zs[t]? = some z/\w.cell? ⟨b,off+t,none⟩=some (.int .u64 z):=fun t ht=>⟨_,List.getElem?_eq_getElem (by omega),hc t _ (List.getElem?_eq_getElem (by omega))⟩
 obtain ⟨A,hA,hsrc⟩:∃ A:Addr,(if cap=j then some (⟨b,off,none⟩:Addr) else some ⟨b,off+j,none⟩)=some A/\Hid (∀ t u,news[t]? = some u->w.drew.cell? (A.add t)=some u):=by
  by_cases h:cap=j
  ·refine ⟨⟨b,off,none⟩,by simp [h],fun t u hu=>?_⟩
   have:=(List.getElem?_eq_some_iff.1 hu).1
   omega
  ·refine ⟨⟨b,off+j,none⟩,by simp [h],fun t u hu=>?_⟩
   rw [hnews,List.getElem?_map,List.getElem?_drop,Option.map_eq_some_iff] at hu
   obtain ⟨z,hu,rfl⟩:=hu
   rw [Addr.add_lit,show off+j+t=off+(j+t) by omega]
   exact hc (j+t) z hu
 have s1:Hid (news.length=(n-j)*1):=by rw [Nat.mul_one];exact hlen
 have s2:Hid (∀ u∈news,u.oneCell' = true):=by
  intro u hu
  rw [hnews] at hu
  obtain ⟨x,_,rfl⟩:=List.mem_map.1 hu
  rfl
 have s3:Hid (∀ t,t < news.length->(w.drew.cell? ⟨b,off+i*1+t,none⟩).isSome=true/\w.drew.frozen? ⟨b,off+i*1+t,none⟩=false):=by
  intro t ht
  rw [hlen] at ht
  rw [Nat.mul_one,Nat.add_assoc]
  obtain ⟨z,-,hz⟩:=hcell (i+t) (by omega)
  exact ⟨by show (w.cell? _).isSome=true;rw [hz];rfl,hf (i+t) (by omega)⟩
 obtain ⟨W1,hW1⟩:∃ W1,W1=w.drew.setCells b (off+i*1) news:=⟨_,rfl⟩
 have hcl:∀ ty,(Builtin.clear_ #[33] ty #[.slice (some ⟨b,off+(i+(n-j)),none⟩) (n-(i+(n-j))) (cap-(i+(n-j)))]).run Try.prog W1 = .ok (.tuple #[]) (W1.setCells b (off+(i+(n-j))) (List.replicate (n-(i+(n-j))) (.int .u64 0))) :=
  fun ty=>Lib.run_clear_slice W1 _ _ ty _ Try.underlying33 Try.zeroValue29 rfl rfl b (off+(i+(n-j))) _ _ (by omega) (fun t ht=>by
   obtain ⟨z,-,hz⟩:=hcell (i+(n-j)+t) (by omega)
   rw [hW1,World.cell?_setCells_out b _ _ _ _ (fun _ _=>.inr (by rw [hlen];show _<=off+(i+(n-j))+t;omega)),show off+(i+(n-j))+t=off+(i+(n-j)+t) by omega]
   show (w.cell? _).isSome=true
   rw [hz];rfl) (fun t ht=>by
   rw [hW1,World.frozen?_setCells,show off+(i+(n-j))+t=off+(i+(n-j)+t) by omega]
   exact hf _ (by omega))
 have hW:Hid (W1=w.drew.setCells b (off+i*1) news):=hW1
 rw [<- hW1]
 have hic:i<=cap:=by omega
 have hjc:j<=cap:=by omega
 clear hW1 hc hf hcell hnews hlen
 have mixed:Try.prog.follows Departure.mixedOrders=true:=by kernel_rfl
 go_enter Try.func24,Try.ntmps24
 go_wp2_with fail
 go_region_law_o (refine step_append_room rfl (.tmp 22) (.tmp 25) 33 rfl 29 i0 1 Try.underlying33 hi0 hz1 b off i cap (by simp [Act.eval,Act.put]) A (n-j) (cap-j) news (by simp [Act.eval,Act.put]) s1.out hsrc.out s2.out (by omega) s3.out ?_;rw [<- hW.out])
 go_wp2
 go_ret
 exact ⟨rfl,by rw [show n-(i+(n-j))=j-i by omega]⟩
theorem delF24:ExtF tab.init tab.ng Try.prog 24 (delE .u64 29):=by
 intro n0 w0 hI hn vs H v H' hk D s w xs hg hxs hS hG hfr
 unfold delE at hk
 split at hk
 ·rename_i b n i j
  split at hk
  ·rename_i e cs hst hgb
   split at hk
   ·rename_i hc
    obtain ⟨rfl,hi,hij,hjn,hncs,hall⟩:=hc
    cases hk
    obtain ⟨hD,hsz,hcap,rfl⟩:=arg_del hxs
    have hr:=hS.row b _ _ _ _ hD hgb
    rw [hst] at hr
    obtain ⟨C,fz,h1,h2,h3,h4,h5⟩:=RowAt.block hr
    obtain ⟨i,rfl⟩:=Int.eq_ofNat_of_zero_le hi
    obtain ⟨j,rfl⟩:=Int.eq_ofNat_of_zero_le (show 0<=j by omega)
    have hij:i < j:=by omega
    have hjn:j<=n:=by omega
    have hz:=valI_all hall
    generalize (cs.take n).map valI=zs at hz
    have hzl:zs.length=n:=by have:=congrArg List.length hz;simp at this;omega
    have hC:∀ t z,zs[t]? = some z->C[t]? = some (Value.int .u64 z):=fun t z hz'=>by
     have ht:t < n:=by have:=(List.getElem?_eq_some_iff.1 hz').1;omega
     have hct:cs[t]? = some (.int .u64 z):=by
      have:(cs.take n)[t]? = some (.int .u64 z):=by rw [hz,List.getElem?_map,hz'];rfl
      rw [List.getElem?_take,if_pos ht] at this;exact this
     obtain ⟨x,hx,hrx⟩:=h4 t _ hct
     cases hrx
     exact hx
    have hCn:n<=C.size:=by rw [h3];omega
    have hcall:=del_walk24 (s b).b 0 n (s b).cap i j zs w hij hjn hcap hzl (fun t z hz'=>by simp [World.cell?,h1,hC t z hz']) (fun t ht=>by
     have:=h5 t (by omega)
     simp [World.frozen?,h1];omega)
    have e1:(s b).cap-0 / 1=(s b).cap:=by omega
    have e2:(s b).base+0=0:=by omega
    rw [e1,e2]
    refine hcall.mono fun e' w' he=>?_
    obtain ⟨rfl,rfl⟩:=he
    have hd:w.drew.heap[(s b).b]? = some (.cells C 29 fz):=h1
    obtain ⟨C1,k1,k2,k3,k4⟩:=setCells_at ((zs.drop j).map (Value.int .u64)) (0+i*1) hd (by simp;omega)
    obtain ⟨C2,m1,m2,m3,m4⟩:=setCells_at (List.replicate (j-i) (Value.int .u64 0)) (0+(i+(n-j))) k1 (by simp;omega)
    have hB:But w _ (s b).b:=(⟨rfl,rfl,rfl,rfl,fun _ _=>rfl⟩:But w w.drew (s b).b)
    have hB2:=but_trans2 (but_trans2 hB k4) m4
    have ho:Ow H b:=by unfold Ow;rw [hgb,hst];simp
    have hres:∀ t,C2[t]? = if t < n then some (Value.int .u64 (if t < i then zs.getD t 0 else if t < i+(n-j) then zs.getD (j+(t-i)) 0 else 0)) else C[t]?:=fun t=>by
     rw [m3,k3]
     simp only [List.length_replicate,List.length_map,List.length_drop,hzl,Nat.zero_add,Nat.mul_one]
     by_cases c0:t < n
     ·rw [if_pos c0]
      by_cases c1:t < i
      ·rw [if_neg (by omega),if_neg (by omega),if_pos c1,hC t (zs.getD t 0) (by simp [List.getD,List.getElem?_eq_getElem (show t < zs.length by omega)])]
      ·rw [if_neg c1]
       by_cases c2:t < i+(n-j)
       ·rw [if_neg (by omega),if_pos (by omega),if_pos c2,List.getElem?_map,List.getElem?_drop,List.getElem?_eq_getElem (show j+(t-i) < zs.length by omega)]
        simp [List.getD,List.getElem?_eq_getElem (show j+(t-i) < zs.length by omega)]
       ·rw [if_pos (by omega),if_neg c2,List.getElem?_replicate,if_pos (by omega)]
     ·rw [if_neg c0,if_neg (by omega),if_neg (by omega)]
    obtain ⟨g0,g5,g6,g7,g8⟩:=hr
    refine ⟨s,step_put hS hst hD ho hB2 ?_ (fun e sz ro cs he=>?_) (fun _ _ _ he=>by cases he) (fun _ _ _ _ he=>by cases he),?_⟩
    ·constructor
     ·rw [al_iff,Hp.get_put,if_pos rfl];show b∉H.stale;simp [hst]
     ·unfold Ow;rw [Hp.get_put,if_pos rfl];show _/\b∉H.stale;simp [hst]
    ·cases he
     have hl1:((cs.take n).take (i:Int).toNat++(cs.take n).drop (j:Int).toNat++List.replicate ((j:Int).toNat-(i:Int).toNat) (V.int .u64 0)).length=n:=by simp;omega
     refine ⟨⟨C2,_,_,m1,by rw [m2,k2,h3];omega,fun t v hv=>?_,fun _=>⟨fun t t1 t2=>h5 t (by rw [h3];omega),rfl,h2,by rw [m2,k2];exact h3⟩⟩,g5,?_,?_,g8⟩
     ·rw [h2,Nat.zero_add,hres]
      by_cases c0:t < n
      ·rw [List.getElem?_append_left (by rw [hl1];exact c0)] at hv
       have:=del_list (k:=.u64) hij hjn hzl t c0
       rw [<- hz] at this
       have hv':=hv.symm.trans this
       rw [Option.some.injEq] at hv'
       subst hv'
       rw [if_pos c0]
       exact ⟨_,rfl,.int _ _⟩
      ·rw [List.getElem?_append_right (by rw [hl1];omega),hl1,List.getElem?_drop,show n+(t-n)=t by omega] at hv
       rw [if_neg c0]
       exact h4 t v hv
     ·simp only [List.length_append,hl1,List.length_drop];omega
     ·rw [List.all_append,Bool.and_eq_true]
      constructor
      ·rw [hz]
       simp [List.all_append,List.all_eq_true,oneV]
       exact ⟨fun x hx=>by obtain ⟨y,_,rfl⟩:=List.mem_map.1 (List.mem_of_mem_take hx);rfl,fun x hx=>by obtain ⟨y,_,rfl⟩:=List.mem_map.1 (List.mem_of_mem_drop hx);rfl⟩
      ·rw [List.all_eq_true] at g7 ⊢
       exact fun c hc=>g7 c (List.mem_of_mem_drop hc)
    ·have:=Rv.sln (D:=Dn D H.next H.next) (s:=s) b 0 (n-(j-i)) 1 (.inl hD) hsz (by omega) (by omega) (by omega)
     rw [e1,e2] at this
     rw [show i+(n-j)=n-(j-i) by omega]
     exact this
   ·cases hk
  ·cases hk
 ·cases hk
theorem del_info49:(Try.prog.info? 3).map (fun i=>(i.zero,i.size,i.bytes))=some (some (.int .i64 0),1,8):=by kernel_rfl
theorem del_walk49 (b off n cap i j:Nat) (zs:List Int) (w:World) (hij:i < j) (hj:j<=n) (hl:n<=cap) (hz:zs.length=n)
  (hc:∀ t z,zs[t]? = some z->w.cell? ⟨b,off+t,none⟩=some (.int .i64 z)) (hf:∀ t,t < n->w.frozen? ⟨b,off+t,none⟩=false) :
  Calls Try.prog 49 #[.slice (some ⟨b,off,none⟩) n cap,.int .i64 i,.int .i64 j] w fun e w'=>e = .returned (.slice (some ⟨b,off,none⟩) (i+(n-j)) cap)/\w' = ((w.drew.setCells b (off+i*1) ((zs.drop j).map (Value.int .i64))).setCells b (off+(i+(n-j))) (List.replicate (j-i) (.int .i64 0))):=by
 obtain ⟨i0,hi0,hz0,hz1,hz2⟩:=info_parts del_info49
 obtain ⟨news,hnews⟩:∃ news,news=(zs.drop j).map (Value.int .i64):=⟨_,rfl⟩
 rw [<- hnews]
 have hlen:news.length=n-j:=by rw [hnews];simp [hz]
 have hcell:∀ t,t < n->∃ z,zs[t]? = some z/\w.cell? ⟨b,off+t,none⟩=some (.int .i64 z):=fun t ht=>⟨_,List.getElem?_eq_getElem (by omega),hc t _ (List.getElem?_eq_getElem (by omega))⟩
 obtain ⟨A,hA,hsrc⟩:∃ A:Addr,(if cap=j then some (⟨b,off,none⟩:Addr) else some ⟨b,off+j,none⟩)=some A/\Hid (∀ t u,news[t]? = some u->w.drew.cell? (A.add t)=some u):=by
  by_cases h:cap=j
  ·refine ⟨⟨b,off,none⟩,by simp [h],fun t u hu=>?_⟩
   have:=(List.getElem?_eq_some_iff.1 hu).1
   omega
  ·refine ⟨⟨b,off+j,none⟩,by simp [h],fun t u hu=>?_⟩
   rw [hnews,List.getElem?_map,List.getElem?_drop,Option.map_eq_some_iff] at hu
   obtain ⟨z,hu,rfl⟩:=hu
   rw [Addr.add_lit,show off+j+t=off+(j+t) by omega]
   exact hc (j+t) z hu
 have s1:Hid (news.length=(n-j)*1):=by rw [Nat.mul_one];exact hlen
 have s2:Hid (∀ u∈news,u.oneCell' = true):=by
  intro u hu
  rw [hnews] at hu
  obtain ⟨x,_,rfl⟩:=List.mem_map.1 hu
  rfl
 have s3:Hid (∀ t,t < news.length->(w.drew.cell? ⟨b,off+i*1+t,none⟩).isSome=true/\w.drew.frozen? ⟨b,off+i*1+t,none⟩=false):=by
  intro t ht
  rw [hlen] at ht
  rw [Nat.mul_one,Nat.add_assoc]
  obtain ⟨z,-,hz⟩:=hcell (i+t) (by omega)
  exact ⟨by show (w.cell? _).isSome=true;rw [hz];rfl,hf (i+t) (by omega)⟩
 obtain ⟨W1,hW1⟩:∃ W1,W1=w.drew.setCells b (off+i*1) news:=⟨_,rfl⟩
 have hcl:∀ ty,(Builtin.clear_ #[59] ty #[.slice (some ⟨b,off+(i+(n-j)),none⟩) (n-(i+(n-j))) (cap-(i+(n-j)))]).run Try.prog W1 = .ok (.tuple #[]) (W1.setCells b (off+(i+(n-j))) (List.replicate (n-(i+(n-j))) (.int .i64 0))) :=
  fun ty=>Lib.run_clear_slice W1 _ _ ty _ Try.underlying59 Try.zeroValue3 rfl rfl b (off+(i+(n-j))) _ _ (by omega) (fun t ht=>by
   obtain ⟨z,-,hz⟩:=hcell (i+(n-j)+t) (by omega)
   rw [hW1,World.cell?_setCells_out b _ _ _ _ (fun _ _=>.inr (by rw [hlen];show _<=off+(i+(n-j))+t;omega)),show off+(i+(n-j))+t=off+(i+(n-j)+t) by omega]
   show (w.cell? _).isSome=true
   rw [hz];rfl) (fun t ht=>by
   rw [hW1,World.frozen?_setCells,show off+(i+(n-j))+t=off+(i+(n-j)+t) by omega]
   exact hf _ (by omega))
 have hW:Hid (W1=w.drew.setCells b (off+i*1) news):=hW1
 rw [<- hW1]
 have hic:i<=cap:=by omega
 have hjc:j<=cap:=by omega
 clear hW1 hc hf hcell hnews hlen
 have mixed:Try.prog.follows Departure.mixedOrders=true:=by kernel_rfl
 go_enter Try.func49,Try.ntmps49
 go_wp2_with fail
 go_region_law_o (refine step_append_room rfl (.tmp 22) (.tmp 25) 59 rfl 3 i0 1 Try.underlying59 hi0 hz1 b off i cap (by simp [Act.eval,Act.put]) A (n-j) (cap-j) news (by simp [Act.eval,Act.put]) s1.out hsrc.out s2.out (by omega) s3.out ?_;rw [<- hW.out])
 go_wp2
 go_ret
 exact ⟨rfl,by rw [show n-(i+(n-j))=j-i by omega]⟩
theorem delF49:ExtF tab.init tab.ng Try.prog 49 (delE .i64 3):=by
 intro n0 w0 hI hn vs H v H' hk D s w xs hg hxs hS hG hfr
 unfold delE at hk
 split at hk
 ·rename_i b n i j
  split at hk
  ·rename_i e cs hst hgb
   split at hk
   ·rename_i hc
    obtain ⟨rfl,hi,hij,hjn,hncs,hall⟩:=hc
    cases hk
    obtain ⟨hD,hsz,hcap,rfl⟩:=arg_del hxs
    have hr:=hS.row b _ _ _ _ hD hgb
    rw [hst] at hr
    obtain ⟨C,fz,h1,h2,h3,h4,h5⟩:=RowAt.block hr
    obtain ⟨i,rfl⟩:=Int.eq_ofNat_of_zero_le hi
    obtain ⟨j,rfl⟩:=Int.eq_ofNat_of_zero_le (show 0<=j by omega)
    have hij:i < j:=by omega
    have hjn:j<=n:=by omega
    have hz:=valI_all hall
    generalize (cs.take n).map valI=zs at hz
    have hzl:zs.length=n:=by have:=congrArg List.length hz;simp at this;omega
    have hC:∀ t z,zs[t]? = some z->C[t]? = some (Value.int .i64 z):=fun t z hz'=>by
     have ht:t < n:=by have:=(List.getElem?_eq_some_iff.1 hz').1;omega
     have hct:cs[t]? = some (.int .i64 z):=by
      have:(cs.take n)[t]? = some (.int .i64 z):=by rw [hz,List.getElem?_map,hz'];rfl
      rw [List.getElem?_take,if_pos ht] at this;exact this
     obtain ⟨x,hx,hrx⟩:=h4 t _ hct
     cases hrx
     exact hx
    have hCn:n<=C.size:=by rw [h3];omega
    have hcall:=del_walk49 (s b).b 0 n (s b).cap i j zs w hij hjn hcap hzl (fun t z hz'=>by simp [World.cell?,h1,hC t z hz']) (fun t ht=>by
     have:=h5 t (by omega)
     simp [World.frozen?,h1];omega)
    have e1:(s b).cap-0 / 1=(s b).cap:=by omega
    have e2:(s b).base+0=0:=by omega
    rw [e1,e2]
    refine hcall.mono fun e' w' he=>?_
    obtain ⟨rfl,rfl⟩:=he
    have hd:w.drew.heap[(s b).b]? = some (.cells C 3 fz):=h1
    obtain ⟨C1,k1,k2,k3,k4⟩:=setCells_at ((zs.drop j).map (Value.int .i64)) (0+i*1) hd (by simp;omega)
    obtain ⟨C2,m1,m2,m3,m4⟩:=setCells_at (List.replicate (j-i) (Value.int .i64 0)) (0+(i+(n-j))) k1 (by simp;omega)
    have hB:But w _ (s b).b:=(⟨rfl,rfl,rfl,rfl,fun _ _=>rfl⟩:But w w.drew (s b).b)
    have hB2:=but_trans2 (but_trans2 hB k4) m4
    have ho:Ow H b:=by unfold Ow;rw [hgb,hst];simp
    have hres:∀ t,C2[t]? = if t < n then some (Value.int .i64 (if t < i then zs.getD t 0 else if t < i+(n-j) then zs.getD (j+(t-i)) 0 else 0)) else C[t]?:=fun t=>by
     rw [m3,k3]
     simp only [List.length_replicate,List.length_map,List.length_drop,hzl,Nat.zero_add,Nat.mul_one]
     by_cases c0:t < n
     ·rw [if_pos c0]
      by_cases c1:t < i
      ·rw [if_neg (by omega),if_neg (by omega),if_pos c1,hC t (zs.getD t 0) (by simp [List.getD,List.getElem?_eq_getElem (show t < zs.length by omega)])]
      ·rw [if_neg c1]
       by_cases c2:t < i+(n-j)
       ·rw [if_neg (by omega),if_pos (by omega),if_pos c2,List.getElem?_map,List.getElem?_drop,List.getElem?_eq_getElem (show j+(t-i) < zs.length by omega)]
        simp [List.getD,List.getElem?_eq_getElem (show j+(t-i) < zs.length by omega)]
       ·rw [if_pos (by omega),if_neg c2,List.getElem?_replicate,if_pos (by omega)]
     ·rw [if_neg c0,if_neg (by omega),if_neg (by omega)]
    obtain ⟨g0,g5,g6,g7,g8⟩:=hr
    refine ⟨s,step_put hS hst hD ho hB2 ?_ (fun e sz ro cs he=>?_) (fun _ _ _ he=>by cases he) (fun _ _ _ _ he=>by cases he),?_⟩
    ·constructor
     ·rw [al_iff,Hp.get_put,if_pos rfl];show b∉H.stale;simp [hst]
     ·unfold Ow;rw [Hp.get_put,if_pos rfl];show _/\b∉H.stale;simp [hst]
    ·cases he
     have hl1:((cs.take n).take (i:Int).toNat++(cs.take n).drop (j:Int).toNat++List.replicate ((j:Int).toNat-(i:Int).toNat) (V.int .i64 0)).length=n:=by simp;omega
     refine ⟨⟨C2,_,_,m1,by rw [m2,k2,h3];omega,fun t v hv=>?_,fun _=>⟨fun t t1 t2=>h5 t (by rw [h3];omega),rfl,h2,by rw [m2,k2];exact h3⟩⟩,g5,?_,?_,g8⟩
     ·rw [h2,Nat.zero_add,hres]
      by_cases c0:t < n
      ·rw [List.getElem?_append_left (by rw [hl1];exact c0)] at hv
       have:=del_list (k:=.i64) hij hjn hzl t c0
       rw [<- hz] at this
       have hv':=hv.symm.trans this
       rw [Option.some.injEq] at hv'
       subst hv'
       rw [if_pos c0]
       exact ⟨_,rfl,.int _ _⟩
      ·rw [List.getElem?_append_right (by rw [hl1];omega),hl1,List.getElem?_drop,show n+(t-n)=t by omega] at hv
       rw [if_neg c0]
       exact h4 t v hv
     ·simp only [List.length_append,hl1,List.length_drop];omega
     ·rw [List.all_append,Bool.and_eq_true]
      constructor
      ·rw [hz]
       simp [List.all_append,List.all_eq_true,oneV]
       exact ⟨fun x hx=>by obtain ⟨y,_,rfl⟩:=List.mem_map.1 (List.mem_of_mem_take hx);rfl,fun x hx=>by obtain ⟨y,_,rfl⟩:=List.mem_map.1 (List.mem_of_mem_drop hx);rfl⟩
      ·rw [List.all_eq_true] at g7 ⊢
       exact fun c hc=>g7 c (List.mem_of_mem_drop hc)
    ·have:=Rv.sln (D:=Dn D H.next H.next) (s:=s) b 0 (n-(j-i)) 1 (.inl hD) hsz (by omega) (by omega) (by omega)
     rw [e1,e2] at this
     rw [show i+(n-j)=n-(j-i) by omega]
     exact this
   ·cases hk
  ·cases hk
 ·cases hk
theorem del_info50:(Try.prog.info? 2).map (fun i=>(i.zero,i.size,i.bytes))=some (some (.int .i64 0),1,8):=by kernel_rfl
theorem del_walk50 (b off n cap i j:Nat) (zs:List Int) (w:World) (hij:i < j) (hj:j<=n) (hl:n<=cap) (hz:zs.length=n)
  (hc:∀ t z,zs[t]? = some z->w.cell? ⟨b,off+t,none⟩=some (.int .i64 z)) (hf:∀ t,t < n->w.frozen? ⟨b,off+t,none⟩=false) :
  Calls Try.prog 50 #[.slice (some ⟨b,off,none⟩) n cap,.int .i64 i,.int .i64 j] w fun e w'=>e = .returned (.slice (some ⟨b,off,none⟩) (i+(n-j)) cap)/\w' = ((w.drew.setCells b (off+i*1) ((zs.drop j).map (Value.int .i64))).setCells b (off+(i+(n-j))) (List.replicate (j-i) (.int .i64 0))):=by
 obtain ⟨i0,hi0,hz0,hz1,hz2⟩:=info_parts del_info50
 obtain ⟨news,hnews⟩:∃ news,news=(zs.drop j).map (Value.int .i64):=⟨_,rfl⟩
 rw [<- hnews]
 have hlen:news.length=n-j:=by rw [hnews];simp [hz]
 have hcell:∀ t,t < n->∃ z,zs[t]? = some z/\w.cell? ⟨b,off+t,none⟩=some (.int .i64 z):=fun t ht=>⟨_,List.getElem?_eq_getElem (by omega),hc t _ (List.getElem?_eq_getElem (by omega))⟩
 obtain ⟨A,hA,hsrc⟩:∃ A:Addr,(if cap=j then some (⟨b,off,none⟩:Addr) else some ⟨b,off+j,none⟩)=some A/\Hid (∀ t u,news[t]? = some u->w.drew.cell? (A.add t)=some u):=by
  by_cases h:cap=j
  ·refine ⟨⟨b,off,none⟩,by simp [h],fun t u hu=>?_⟩
   have:=(List.getElem?_eq_some_iff.1 hu).1
   omega
  ·refine ⟨⟨b,off+j,none⟩,by simp [h],fun t u hu=>?_⟩
   rw [hnews,List.getElem?_map,List.getElem?_drop,Option.map_eq_some_iff] at hu
   obtain ⟨z,hu,rfl⟩:=hu
   rw [Addr.add_lit,show off+j+t=off+(j+t) by omega]
   exact hc (j+t) z hu
 have s1:Hid (news.length=(n-j)*1):=by rw [Nat.mul_one];exact hlen
 have s2:Hid (∀ u∈news,u.oneCell' = true):=by
  intro u hu
  rw [hnews] at hu
  obtain ⟨x,_,rfl⟩:=List.mem_map.1 hu
  rfl
 have s3:Hid (∀ t,t < news.length->(w.drew.cell? ⟨b,off+i*1+t,none⟩).isSome=true/\w.drew.frozen? ⟨b,off+i*1+t,none⟩=false):=by
  intro t ht
  rw [hlen] at ht
  rw [Nat.mul_one,Nat.add_assoc]
  obtain ⟨z,-,hz⟩:=hcell (i+t) (by omega)
  exact ⟨by show (w.cell? _).isSome=true;rw [hz];rfl,hf (i+t) (by omega)⟩
 obtain ⟨W1,hW1⟩:∃ W1,W1=w.drew.setCells b (off+i*1) news:=⟨_,rfl⟩
 have hcl:∀ ty,(Builtin.clear_ #[60] ty #[.slice (some ⟨b,off+(i+(n-j)),none⟩) (n-(i+(n-j))) (cap-(i+(n-j)))]).run Try.prog W1 = .ok (.tuple #[]) (W1.setCells b (off+(i+(n-j))) (List.replicate (n-(i+(n-j))) (.int .i64 0))) :=
  fun ty=>Lib.run_clear_slice W1 _ _ ty _ Try.underlying60 Try.zeroValue2 rfl rfl b (off+(i+(n-j))) _ _ (by omega) (fun t ht=>by
   obtain ⟨z,-,hz⟩:=hcell (i+(n-j)+t) (by omega)
   rw [hW1,World.cell?_setCells_out b _ _ _ _ (fun _ _=>.inr (by rw [hlen];show _<=off+(i+(n-j))+t;omega)),show off+(i+(n-j))+t=off+(i+(n-j)+t) by omega]
   show (w.cell? _).isSome=true
   rw [hz];rfl) (fun t ht=>by
   rw [hW1,World.frozen?_setCells,show off+(i+(n-j))+t=off+(i+(n-j)+t) by omega]
   exact hf _ (by omega))
 have hW:Hid (W1=w.drew.setCells b (off+i*1) news):=hW1
 rw [<- hW1]
 have hic:i<=cap:=by omega
 have hjc:j<=cap:=by omega
 clear hW1 hc hf hcell hnews hlen
 have mixed:Try.prog.follows Departure.mixedOrders=true:=by kernel_rfl
 go_enter Try.func50,Try.ntmps50
 go_wp2_with fail
 go_region_law_o (refine step_append_room rfl (.tmp 22) (.tmp 25) 60 rfl 2 i0 1 Try.underlying60 hi0 hz1 b off i cap (by simp [Act.eval,Act.put]) A (n-j) (cap-j) news (by simp [Act.eval,Act.put]) s1.out hsrc.out s2.out (by omega) s3.out ?_;rw [<- hW.out])
 go_wp2
 go_ret
 exact ⟨rfl,by rw [show n-(i+(n-j))=j-i by omega]⟩
theorem delF50:ExtF tab.init tab.ng Try.prog 50 (delE .i64 2):=by
 intro n0 w0 hI hn vs H v H' hk D s w xs hg hxs hS hG hfr
 unfold delE at hk
 split at hk
 ·rename_i b n i j
  split at hk
  ·rename_i e cs hst hgb
   split at hk
   ·rename_i hc
    obtain ⟨rfl,hi,hij,hjn,hncs,hall⟩:=hc
    cases hk
    obtain ⟨hD,hsz,hcap,rfl⟩:=arg_del hxs
    have hr:=hS.row b _ _ _ _ hD hgb
    rw [hst] at hr
    obtain ⟨C,fz,h1,h2,h3,h4,h5⟩:=RowAt.block hr
    obtain ⟨i,rfl⟩:=Int.eq_ofNat_of_zero_le hi
    obtain ⟨j,rfl⟩:=Int.eq_ofNat_of_zero_le (show 0<=j by omega)
    have hij:i < j:=by omega
    have hjn:j<=n:=by omega
    have hz:=valI_all hall
    generalize (cs.take n).map valI=zs at hz
    have hzl:zs.length=n:=by have:=congrArg List.length hz;simp at this;omega
    have hC:∀ t z,zs[t]? = some z->C[t]? = some (Value.int .i64 z):=fun t z hz'=>by
     have ht:t < n:=by have:=(List.getElem?_eq_some_iff.1 hz').1;omega
     have hct:cs[t]? = some (.int .i64 z):=by
      have:(cs.take n)[t]? = some (.int .i64 z):=by rw [hz,List.getElem?_map,hz'];rfl
      rw [List.getElem?_take,if_pos ht] at this;exact this
     obtain ⟨x,hx,hrx⟩:=h4 t _ hct
     cases hrx
     exact hx
    have hCn:n<=C.size:=by rw [h3];omega
    have hcall:=del_walk50 (s b).b 0 n (s b).cap i j zs w hij hjn hcap hzl (fun t z hz'=>by simp [World.cell?,h1,hC t z hz']) (fun t ht=>by
     have:=h5 t (by omega)
     simp [World.frozen?,h1];omega)
    have e1:(s b).cap-0 / 1=(s b).cap:=by omega
    have e2:(s b).base+0=0:=by omega
    rw [e1,e2]
    refine hcall.mono fun e' w' he=>?_
    obtain ⟨rfl,rfl⟩:=he
    have hd:w.drew.heap[(s b).b]? = some (.cells C 2 fz):=h1
    obtain ⟨C1,k1,k2,k3,k4⟩:=setCells_at ((zs.drop j).map (Value.int .i64)) (0+i*1) hd (by simp;omega)
    obtain ⟨C2,m1,m2,m3,m4⟩:=setCells_at (List.replicate (j-i) (Value.int .i64 0)) (0+(i+(n-j))) k1 (by simp;omega)
    have hB:But w _ (s b).b:=(⟨rfl,rfl,rfl,rfl,fun _ _=>rfl⟩:But w w.drew (s b).b)
    have hB2:=but_trans2 (but_trans2 hB k4) m4
    have ho:Ow H b:=by unfold Ow;rw [hgb,hst];simp
    have hres:∀ t,C2[t]? = if t < n then some (Value.int .i64 (if t < i then zs.getD t 0 else if t < i+(n-j) then zs.getD (j+(t-i)) 0 else 0)) else C[t]?:=fun t=>by
     rw [m3,k3]
     simp only [List.length_replicate,List.length_map,List.length_drop,hzl,Nat.zero_add,Nat.mul_one]
     by_cases c0:t < n
     ·rw [if_pos c0]
      by_cases c1:t < i
      ·rw [if_neg (by omega),if_neg (by omega),if_pos c1,hC t (zs.getD t 0) (by simp [List.getD,List.getElem?_eq_getElem (show t < zs.length by omega)])]
      ·rw [if_neg c1]
       by_cases c2:t < i+(n-j)
       ·rw [if_neg (by omega),if_pos (by omega),if_pos c2,List.getElem?_map,List.getElem?_drop,List.getElem?_eq_getElem (show j+(t-i) < zs.length by omega)]
        simp [List.getD,List.getElem?_eq_getElem (show j+(t-i) < zs.length by omega)]
       ·rw [if_pos (by omega),if_neg c2,List.getElem?_replicate,if_pos (by omega)]
     ·rw [if_neg c0,if_neg (by omega),if_neg (by omega)]
    obtain ⟨g0,g5,g6,g7,g8⟩:=hr
    refine ⟨s,step_put hS hst hD ho hB2 ?_ (fun e sz ro cs he=>?_) (fun _ _ _ he=>by cases he) (fun _ _ _ _ he=>by cases he),?_⟩
    ·constructor
     ·rw [al_iff,Hp.get_put,if_pos rfl];show b∉H.stale;simp [hst]
     ·unfold Ow;rw [Hp.get_put,if_pos rfl];show _/\b∉H.stale;simp [hst]
    ·cases he
     have hl1:((cs.take n).take (i:Int).toNat++(cs.take n).drop (j:Int).toNat++List.replicate ((j:Int).toNat-(i:Int).toNat) (V.int .i64 0)).length=n:=by simp;omega
     refine ⟨⟨C2,_,_,m1,by rw [m2,k2,h3];omega,fun t v hv=>?_,fun _=>⟨fun t t1 t2=>h5 t (by rw [h3];omega),rfl,h2,by rw [m2,k2];exact h3⟩⟩,g5,?_,?_,g8⟩
     ·rw [h2,Nat.zero_add,hres]
      by_cases c0:t < n
      ·rw [List.getElem?_append_left (by rw [hl1];exact c0)] at hv
       have:=del_list (k:=.i64) hij hjn hzl t c0
       rw [<- hz] at this
       have hv':=hv.symm.trans this
       rw [Option.some.injEq] at hv'
       subst hv'
       rw [if_pos c0]
       exact ⟨_,rfl,.int _ _⟩
      ·rw [List.getElem?_append_right (by rw [hl1];omega),hl1,List.getElem?_drop,show n+(t-n)=t by omega] at hv
       rw [if_neg c0]
       exact h4 t v hv
     ·simp only [List.length_append,hl1,List.length_drop];omega
     ·rw [List.all_append,Bool.and_eq_true]
      constructor
      ·rw [hz]
       simp [List.all_append,List.all_eq_true,oneV]
       exact ⟨fun x hx=>by obtain ⟨y,_,rfl⟩:=List.mem_map.1 (List.mem_of_mem_take hx);rfl,fun x hx=>by obtain ⟨y,_,rfl⟩:=List.mem_map.1 (List.mem_of_mem_drop hx);rfl⟩
      ·rw [List.all_eq_true] at g7 ⊢
       exact fun c hc=>g7 c (List.mem_of_mem_drop hc)
    ·have:=Rv.sln (D:=Dn D H.next H.next) (s:=s) b 0 (n-(j-i)) 1 (.inl hD) hsz (by omega) (by omega) (by omega)
     rw [e1,e2] at this
     rw [show i+(n-j)=n-(j-i) by omega]
     exact this
   ·cases hk
  ·cases hk
 ·cases hk
end Go.AM.YtiolgkhfpnidfaaT
set_option maxHeartbeats 8000000
set_option maxRecDepth 100000
namespace Go.AM.YtiolgkhfpnidfaaT
open Go Go.AM Go.Proofs
theorem extOk:ExtOk tab Try.prog:=fun f e hx=>by
 have hx:ext0 f=some e:=hx
 unfold ext0 at hx
 split at hx
 ·rename_i hf;subst hf;cases hx;exact delF24
 split at hx
 ·rename_i hf;subst hf;cases hx;exact delF49
 split at hx
 ·rename_i hf;subst hf;cases hx;exact delF50
 ·cases hx
theorem extGood:ExtGood tab:=fun f e hx xs H v H' hk hG=>by
 have hx:ext0 f=some e:=hx
 unfold ext0 at hx
 split at hx
 ·cases hx;exact delE_good hk hG
 split at hx
 ·cases hx;exact delE_good hk hG
 split at hx
 ·cases hx;exact delE_good hk hG
 ·cases hx
theorem quietOk:QuietOk tab Try.prog:=fun g h=>by cases h
theorem okP:ProgOk tab Try.prog an:=ok extOk extGood quietOk
#print axioms okP
end Go.AM.YtiolgkhfpnidfaaT
