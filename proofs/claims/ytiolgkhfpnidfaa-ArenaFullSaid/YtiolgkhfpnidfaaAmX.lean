/- Parts of the abstract machine and of the walks over it, joined: what the law that is claimed here leans on. -/
import Derived.Test.YtiolgkhfpnidfaaAmC3
import Derived.Test.YtiolgkhfpnidfaaAmC2
import Derived.Lib.Bytealg
import Derived.Test.YtiolgkhfpnidfaaProg
import Derived.Lib.LaidTab
import Derived.Lib.ItoaNum
set_option linter.unusedVariables false
set_option linter.unusedSimpArgs false
namespace Go.AM.YtiolgkhfpnidfaaT
open Go Go.AM
def ext0 (f:FuncId):Option (List V->Hp->Option (V×Hp)):=none
def quiet0 (_:FuncId):Bool:=false
end Go.AM.YtiolgkhfpnidfaaT
namespace Go.AM.YtiolgkhfpnidfaaT
open Go Go.AM Go.Proofs
set_option maxRecDepth 100000
abbrev xO:Option TI:=some ⟨.other,1,8,[.nilf],false⟩
abbrev xN:Tr TI:=.node .nil xO .nil
def tyT:Tr TI:=(.node (.node (.node (.node (.node (.node (.node .nil (some (⟨.int .i8,1,1,[.int .i8 0],false⟩)) .nil) xO (.node .nil (some (⟨.slice 100,1,24,[.nils],false⟩)) .nil)) (some (⟨.ptr 157,1,8,[.nilp],false⟩)) xN) (some (⟨.struct [(0,2),(1,3),(2,4),(3,6)],4,24,[.int .i64 0,.int .i64 0,.bool false,.int .u8 0],true⟩)) (.node (.node .nil (some (⟨.slice 42,1,24,[.nils],false⟩)) .nil) xO .nil)) (some (⟨.int .i64,1,8,[.int .i64 0],false⟩)) (.node (.node (.node .nil none (.node xN none .nil)) (some (⟨.struct [(0,17)],1,8,[.nilp],false⟩)) .nil) (some (⟨.str,1,16,[.str []],false⟩)) (.node .nil xO (.node .nil (some (⟨.slice 3,1,24,[.nils],false⟩)) xN)))) xO (.node (.node (.node (.node .nil (some (⟨.slice 29,1,24,[.nils],false⟩)) (.node (.node .nil (some (⟨.int .u8,1,1,[.int .u8 0],false⟩)) .nil) none .nil)) (some (⟨.ptr 168,1,8,[.nilp],false⟩)) .nil) (some (⟨.str,1,16,[.str []],false⟩)) (.node (.node .nil (some (⟨.struct [(0,40),(1,2),(2,9)],3,32,[.int .u8 0,.int .i64 0,.str []],true⟩)) .nil) (some (⟨.map 29 93,1,8,[.nilm],false⟩)) .nil)) (some (⟨.int .u8,1,1,[.int .u8 0],false⟩)) (.node (.node (.node .nil (some (⟨.int .u8,1,1,[.int .u8 0],false⟩)) (.node (.node .nil (some (⟨.int .i32,1,4,[.int .i32 0],false⟩)) .nil) (some (⟨.ptr 100,1,8,[.nilp],false⟩)) .nil)) (some (⟨.int .i32,1,4,[.int .i32 0],false⟩)) .nil) (some (⟨.struct [(0,9),(1,12)],2,24,[.str [],.int .u64 0],false⟩)) (.node (.node .nil xO xN) (some (⟨.int .u64,1,8,[.int .u64 0],false⟩)) (.node (.node (.node .nil (some (⟨.struct [(0,17),(1,17),(2,17),(3,9)],4,40,[.nilp,.nilp,.nilp,.str []],false⟩)) .nil) (some (⟨.struct [],0,0,[],false⟩)) .nil) none .nil))))) none (.node (.node (.node (.node (.node (.node .nil (some (⟨.struct [(0,5),(1,5),(2,5),(3,63)],4,4,[.int .u8 0,.int .u8 0,.int .u8 0,.int .i8 0],true⟩)) .nil) xO (.node (.node .nil (some (⟨.struct [(0,158)],0,0,[],false⟩)) .nil) (some (⟨.slice 90,1,24,[.nils],false⟩)) .nil)) (some (⟨.ptr 160,1,8,[.nilp],false⟩)) xN) (some (⟨.struct [(0,2),(1,3),(2,4),(3,6)],4,24,[.int .i64 0,.int .i64 0,.bool false,.int .u8 0],false⟩)) (.node (.node .nil (some (⟨.int .u8,1,1,[.int .u8 0],false⟩)) (.node (.node .nil (some (⟨.struct [(0,12),(1,12),(2,90),(3,161),(4,5),(5,5),(6,162),(7,163),(8,164),(9,165),(10,166)],11,48,[.int .u64 0,.int .u64 0,.int .u32 0,.int .u8 0,.int .u8 0,.int .u8 0,.int .u8 0,.nilf,.nilp,.int .i32 0,.int .i32 0],false⟩)) .nil) none .nil)) (some (⟨.map 29 93,1,8,[.nilm],false⟩)) (.node .nil none (.node .nil (some (⟨.int .u64,1,8,[.int .u64 0],false⟩)) .nil)))) (some (⟨.bool,1,1,[.bool false],false⟩)) (.node (.node (.node .nil none (.node (.node .nil (some (⟨.ptr 5,1,8,[.nilp],false⟩)) .nil) (some (⟨.struct [(0,90),(1,4),(2,44)],16,144,[.int .u32 0,.bool false,.int .u8 0,.int .i64 0,.bool false,.nilm,.int .i64 0,.int .i64 0,.nils,.int .u64 0,.int .u8 0,.int .i64 0,.str [],.int .i64 0,.int .u64 0,.int .i64 0],false⟩)) .nil)) (some (⟨.iface,1,16,[.nili],false⟩)) .nil) (some (⟨.int .u64,1,8,[.int .u64 0],false⟩)) (.node (.node .nil (some (⟨.struct [(0,37),(1,3),(2,4),(3,38),(4,3),(5,3),(6,39),(7,29),(8,42),(11,3),(12,29),(13,3)],14,136,[.int .u8 0,.int .i64 0,.bool false,.nilm,.int .i64 0,.int .i64 0,.nils,.int .u64 0,.int .u8 0,.int .i64 0,.str [],.int .i64 0,.int .u64 0,.int .i64 0],false⟩)) .nil) (some (⟨.int .u64,1,8,[.int .u64 0],false⟩)) (.node .nil (some (⟨.slice 2,1,24,[.nils],false⟩)) .nil)))) (some (⟨.int .i64,1,8,[.int .i64 0],false⟩)) (.node (.node (.node (.node .nil (some (⟨.int .i64,1,8,[.int .i64 0],false⟩)) (.node (.node .nil (some (⟨.int .u8,1,1,[.int .u8 0],false⟩)) .nil) (some (⟨.struct [(0,95),(1,96),(2,59),(3,59)],4,96,[.nils,.nils,.nils,.nils],false⟩)) .nil)) (some (⟨.struct [(0,17)],1,8,[.nilp],false⟩)) .nil) (some (⟨.str,1,16,[.str []],false⟩)) (.node (.node .nil (some (⟨.struct [(0,40),(1,2),(2,9)],3,32,[.int .u8 0,.int .i64 0,.str []],true⟩)) .nil) xO (.node (.node .nil (some (⟨.int .u32,1,4,[.int .u32 0],false⟩)) .nil) (some (⟨.ptr 62,1,8,[.nilp],false⟩)) .nil))) (some (⟨.int .u8,1,1,[.int .u8 0],false⟩)) (.node (.node (.node .nil (some (⟨.map 42 42,1,8,[.nilm],false⟩)) (.node (.node .nil (some (⟨.int .i32,1,4,[.int .i32 0],false⟩)) .nil) none .nil)) (some (⟨.slice 5,1,24,[.nils],false⟩)) .nil) (some (⟨.struct [(0,9),(1,12)],2,24,[.str [],.int .u64 0],false⟩)) (.node (.node .nil (some (⟨.ptr 44,1,8,[.nilp],false⟩)) .nil) (some (⟨.ptr 98,1,8,[.nilp],false⟩)) (.node (.node (.node .nil (some (⟨.arr 0 16,0,0,[],false⟩)) .nil) none .nil) (some (⟨.struct [(0,59),(1,33),(2,59),(3,60),(4,33)],5,120,[.nils,.nils,.nils,.nils,.nils],false⟩)) .nil))))))
def fnT:Tr Unit:=(.node (.node (.node .nil none (.node (.node .nil (some (())) .nil) none .nil)) none (.node (.node (.node .nil (some (())) .nil) none (.node (.node .nil (some (())) .nil) none .nil)) none (.node (.node .nil (some (())) .nil) none (.node (.node .nil (some (())) .nil) none .nil)))) none (.node (.node (.node (.node (.node (.node .nil (some (())) .nil) none .nil) (some (())) .nil) none .nil) (some (())) (.node (.node .nil (some (())) .nil) (some (())) (.node (.node .nil (some (())) .nil) none .nil))) none (.node (.node (.node .nil (some (())) .nil) none (.node (.node .nil (some (())) .nil) none (.node .nil (some (())) .nil))) none (.node .nil none (.node (.node .nil (some (())) .nil) none .nil)))))
def drT:Tr (Tr (List (Nat×Nat))):=(.node (.node (.node .nil none (.node (.node .nil (some ((.node (.node (.node .nil (some ([(0,0),(1,0),(2,0),(3,0),(4,0),(5,0),(6,0),(7,0),(8,0),(9,0),(10,0),(11,0),(12,0),(13,0),(14,0),(15,0),(16,0)])) .nil) none (.node (.node .nil (some ([(0,0),(1,0),(2,0),(3,0),(4,0),(5,0),(6,0),(7,0),(8,0),(9,0),(10,0),(11,0),(12,0),(13,0),(14,0)])) .nil) none (.node .nil (some ([(0,0),(1,0),(2,0),(3,0),(4,0),(5,0),(6,0),(7,0),(8,0),(9,0),(10,0)])) .nil))) none (.node (.node (.node .nil (some ([(0,0),(1,0),(2,0),(3,0),(4,0),(5,0),(6,0),(7,0),(8,0),(9,0),(10,0),(11,0),(12,0)])) .nil) none (.node .nil (some ([(0,0),(3,0),(4,0),(5,0),(1,1),(2,1),(6,0),(7,0),(8,0)])) .nil)) none (.node .nil (some ([(1,0),(2,0),(3,0),(4,0),(5,0),(6,0),(7,0),(8,0),(9,0),(10,0),(11,0),(12,0),(0,1),(13,0),(14,0),(15,0)])) .nil))))) .nil) none .nil)) none (.node .nil none (.node (.node .nil (some ((.node .nil none (.node .nil (some ([(0,0),(1,0),(2,0),(3,0),(4,0),(5,0),(6,0),(7,0),(8,0),(9,0),(10,0),(11,0),(12,0),(13,0),(14,0),(15,0),(16,0),(17,0),(18,0),(27,0),(28,0),(19,1),(20,1),(21,1),(22,1),(23,1),(24,1),(25,1),(26,1),(29,0),(30,0)])) .nil)))) .nil) none .nil))) none (.node (.node .nil none (.node (.node .nil (some ((.node (.node (.node .nil (some ([(4,0),(5,0),(0,1),(1,1),(2,1),(3,1),(6,0),(7,0)])) .nil) none (.node .nil (some ([(5,0),(6,0),(1,1),(2,1),(3,1),(4,1),(7,0),(8,0),(0,2),(9,0),(10,0),(11,0)])) .nil)) none (.node .nil (some ([(0,0),(1,0),(2,0),(3,0),(4,0),(5,0),(6,0),(7,0),(8,0),(9,0),(10,0),(11,0),(12,0)])) .nil)))) .nil) none .nil)) none (.node (.node (.node .nil (some ((.node (.node .nil (some ([(2,0),(3,0),(4,0),(5,0),(6,0),(7,0),(8,0),(9,0),(10,1),(11,1),(12,1),(13,1),(14,1),(15,0),(0,2),(16,0),(17,0),(18,0),(1,3),(19,0),(20,0),(21,0)])) .nil) none .nil))) .nil) none .nil) none .nil)))
def anT:Tr (Tr (List Nat)):=(.node (.node (.node .nil none (.node (.node .nil (some ((.node (.node (.node .nil (some ([0,1,3,7,0,16,63,127,0,256,768,1792,0,4096,16128,32512,65535])) .nil) none (.node (.node .nil (some ([0,0,2,6,14,0,32,96,224,480,992,2046,4095,8191,16383])) .nil) none (.node .nil (some ([0,1,3,7,0,16,63,127,255,511,1023])) .nil))) none (.node (.node (.node .nil (some ([0,1,3,7,0,16,48,112,240,496,1023,2047,4095])) .nil) none (.node .nil (some ([0,0,0,1,9,25,63,127,255])) .nil)) none (.node .nil (some ([0,0,2,6,14,0,32,96,224,480,992,2016,4094,8191,16383,32767])) .nil))))) .nil) none .nil)) none (.node .nil none (.node (.node .nil (some ((.node .nil none (.node .nil (some ([0,0,2,6,14,30,63,127,255,511,1023,2047,255,8191,16383,32767,65535,131071,262143,524287,1048575,2097151,4194303,524287,16777215,33554431,67108863,524287,134742015,536870911,1073741823])) .nil)))) .nil) none .nil))) none (.node (.node .nil none (.node (.node .nil (some ((.node (.node (.node .nil (some ([0,1,3,7,0,16,63,127])) .nil) none (.node .nil (some ([0,0,2,6,14,0,32,96,254,511,1023,2047])) .nil)) none (.node .nil (some ([0,1,3,7,0,16,48,112,255,511,1023,2047,4095])) .nil)))) .nil) none .nil)) none (.node (.node (.node .nil (some ((.node (.node .nil (some ([0,0,0,4,12,28,0,64,192,508,0,1024,3072,7168,0,32764,65533,131069,262141,524287,1048575,2097151])) .nil) none .nil))) .nil) none .nil) none .nil)))
def an (f:FuncId) (id:Nat):List Nat:=match anT.get f with | some t=>(match t.get id with | some l=>l | none=>[]) | none=>[]
noncomputable def tab:Tab where
 ty:=tyT.get
 fn f:=match fnT.get f with | some _=>Try.prog.funcs[f]? | none=>none
 ng:=0
 dr f id:=match drT.get f with | some t=>t.get id | none=>none
 ext:=ext0
 quiet:=quiet0
 alt f id:=none
theorem tab_ng:tab.ng=0:=Eq.trans rfl rfl
theorem ty1:tab.ty 1=some ⟨.other,1,8,[.nilf],false⟩:=Eq.trans rfl rfl
theorem ty2:tab.ty 2=some ⟨.int .i64,1,8,[.int .i64 0],false⟩:=Eq.trans rfl rfl
theorem ty3:tab.ty 3=some ⟨.int .i64,1,8,[.int .i64 0],false⟩:=Eq.trans rfl rfl
theorem ty4:tab.ty 4=some ⟨.bool,1,1,[.bool false],false⟩:=Eq.trans rfl rfl
theorem ty5:tab.ty 5=some ⟨.int .u8,1,1,[.int .u8 0],false⟩:=Eq.trans rfl rfl
theorem ty6:tab.ty 6=some ⟨.int .u8,1,1,[.int .u8 0],false⟩:=Eq.trans rfl rfl
theorem ty7:tab.ty 7=some ⟨.struct [(0,2),(1,3),(2,4),(3,6)],4,24,[.int .i64 0,.int .i64 0,.bool false,.int .u8 0],true⟩:=Eq.trans rfl rfl
theorem ty8:tab.ty 8=some ⟨.struct [(0,2),(1,3),(2,4),(3,6)],4,24,[.int .i64 0,.int .i64 0,.bool false,.int .u8 0],false⟩:=Eq.trans rfl rfl
theorem ty9:tab.ty 9=some ⟨.str,1,16,[.str []],false⟩:=Eq.trans rfl rfl
theorem ty10:tab.ty 10=some ⟨.str,1,16,[.str []],false⟩:=Eq.trans rfl rfl
theorem ty11:tab.ty 11=some ⟨.str,1,16,[.str []],false⟩:=Eq.trans rfl rfl
theorem ty12:tab.ty 12=some ⟨.int .u64,1,8,[.int .u64 0],false⟩:=Eq.trans rfl rfl
theorem ty13:tab.ty 13=some ⟨.struct [(0,9),(1,12)],2,24,[.str [],.int .u64 0],false⟩:=Eq.trans rfl rfl
theorem ty14:tab.ty 14=some ⟨.struct [(0,9),(1,12)],2,24,[.str [],.int .u64 0],false⟩:=Eq.trans rfl rfl
theorem ty15:tab.ty 15=some ⟨.ptr 157,1,8,[.nilp],false⟩:=Eq.trans rfl rfl
theorem ty16:tab.ty 16=some ⟨.ptr 160,1,8,[.nilp],false⟩:=Eq.trans rfl rfl
theorem ty17:tab.ty 17=some ⟨.ptr 168,1,8,[.nilp],false⟩:=Eq.trans rfl rfl
theorem ty18:tab.ty 18=some ⟨.struct [(0,17)],1,8,[.nilp],false⟩:=Eq.trans rfl rfl
theorem ty19:tab.ty 19=some ⟨.struct [(0,17)],1,8,[.nilp],false⟩:=Eq.trans rfl rfl
theorem ty20:tab.ty 20=some ⟨.iface,1,16,[.nili],false⟩:=Eq.trans rfl rfl
theorem ty21:tab.ty 21=some ⟨.int .i32,1,4,[.int .i32 0],false⟩:=Eq.trans rfl rfl
theorem ty22:tab.ty 22=some ⟨.slice 5,1,24,[.nils],false⟩:=Eq.trans rfl rfl
theorem ty23:tab.ty 23=some ⟨.other,1,8,[.nilf],false⟩:=Eq.trans rfl rfl
theorem ty24:tab.ty 24=some ⟨.map 29 93,1,8,[.nilm],false⟩:=Eq.trans rfl rfl
theorem ty25:tab.ty 25=some ⟨.map 29 93,1,8,[.nilm],false⟩:=Eq.trans rfl rfl
theorem ty26:tab.ty 26=some ⟨.other,1,8,[.nilf],false⟩:=Eq.trans rfl rfl
theorem ty27:tab.ty 27=some ⟨.other,1,8,[.nilf],false⟩:=Eq.trans rfl rfl
theorem ty28:tab.ty 28=some ⟨.int .u64,1,8,[.int .u64 0],false⟩:=Eq.trans rfl rfl
theorem ty29:tab.ty 29=some ⟨.int .u64,1,8,[.int .u64 0],false⟩:=Eq.trans rfl rfl
theorem ty30:tab.ty 30=some ⟨.ptr 98,1,8,[.nilp],false⟩:=Eq.trans rfl rfl
theorem ty31:tab.ty 31=some ⟨.other,1,8,[.nilf],false⟩:=Eq.trans rfl rfl
theorem ty32:tab.ty 32=some ⟨.other,1,8,[.nilf],false⟩:=Eq.trans rfl rfl
theorem ty33:tab.ty 33=some ⟨.slice 29,1,24,[.nils],false⟩:=Eq.trans rfl rfl
theorem ty34:tab.ty 34=some ⟨.int .i64,1,8,[.int .i64 0],false⟩:=Eq.trans rfl rfl
theorem ty37:tab.ty 37=some ⟨.int .u8,1,1,[.int .u8 0],false⟩:=Eq.trans rfl rfl
theorem ty38:tab.ty 38=some ⟨.map 42 42,1,8,[.nilm],false⟩:=Eq.trans rfl rfl
theorem ty39:tab.ty 39=some ⟨.slice 42,1,24,[.nils],false⟩:=Eq.trans rfl rfl
theorem ty40:tab.ty 40=some ⟨.int .u8,1,1,[.int .u8 0],false⟩:=Eq.trans rfl rfl
theorem ty41:tab.ty 41=some ⟨.struct [(0,40),(1,2),(2,9)],3,32,[.int .u8 0,.int .i64 0,.str []],true⟩:=Eq.trans rfl rfl
theorem ty42:tab.ty 42=some ⟨.struct [(0,40),(1,2),(2,9)],3,32,[.int .u8 0,.int .i64 0,.str []],true⟩:=Eq.trans rfl rfl
theorem ty44:tab.ty 44=some ⟨.struct [(0,37),(1,3),(2,4),(3,38),(4,3),(5,3),(6,39),(7,29),(8,42),(11,3),(12,29),(13,3)],14,136,[.int .u8 0,.int .i64 0,.bool false,.nilm,.int .i64 0,.int .i64 0,.nils,.int .u64 0,.int .u8 0,.int .i64 0,.str [],.int .i64 0,.int .u64 0,.int .i64 0],false⟩:=Eq.trans rfl rfl
theorem ty45:tab.ty 45=some ⟨.other,1,8,[.nilf],false⟩:=Eq.trans rfl rfl
theorem ty46:tab.ty 46=some ⟨.ptr 44,1,8,[.nilp],false⟩:=Eq.trans rfl rfl
theorem ty47:tab.ty 47=some ⟨.other,1,8,[.nilf],false⟩:=Eq.trans rfl rfl
theorem ty48:tab.ty 48=some ⟨.other,1,8,[.nilf],false⟩:=Eq.trans rfl rfl
theorem ty58:tab.ty 58=some ⟨.ptr 62,1,8,[.nilp],false⟩:=Eq.trans rfl rfl
theorem ty59:tab.ty 59=some ⟨.slice 3,1,24,[.nils],false⟩:=Eq.trans rfl rfl
theorem ty60:tab.ty 60=some ⟨.slice 2,1,24,[.nils],false⟩:=Eq.trans rfl rfl
theorem ty62:tab.ty 62=some ⟨.struct [(0,59),(1,33),(2,59),(3,60),(4,33)],5,120,[.nils,.nils,.nils,.nils,.nils],false⟩:=Eq.trans rfl rfl
theorem ty63:tab.ty 63=some ⟨.int .i8,1,1,[.int .i8 0],false⟩:=Eq.trans rfl rfl
theorem ty64:tab.ty 64=some ⟨.struct [(0,5),(1,5),(2,5),(3,63)],4,4,[.int .u8 0,.int .u8 0,.int .u8 0,.int .i8 0],true⟩:=Eq.trans rfl rfl
theorem ty90:tab.ty 90=some ⟨.int .u32,1,4,[.int .u32 0],false⟩:=Eq.trans rfl rfl
theorem ty93:tab.ty 93=some ⟨.struct [],0,0,[],false⟩:=Eq.trans rfl rfl
theorem ty95:tab.ty 95=some ⟨.slice 100,1,24,[.nils],false⟩:=Eq.trans rfl rfl
theorem ty96:tab.ty 96=some ⟨.slice 90,1,24,[.nils],false⟩:=Eq.trans rfl rfl
theorem ty98:tab.ty 98=some ⟨.struct [(0,95),(1,96),(2,59),(3,59)],4,96,[.nils,.nils,.nils,.nils],false⟩:=Eq.trans rfl rfl
theorem ty100:tab.ty 100=some ⟨.struct [(0,90),(1,4),(2,44)],16,144,[.int .u32 0,.bool false,.int .u8 0,.int .i64 0,.bool false,.nilm,.int .i64 0,.int .i64 0,.nils,.int .u64 0,.int .u8 0,.int .i64 0,.str [],.int .i64 0,.int .u64 0,.int .i64 0],false⟩:=Eq.trans rfl rfl
theorem ty101:tab.ty 101=some ⟨.ptr 100,1,8,[.nilp],false⟩:=Eq.trans rfl rfl
theorem ty109:tab.ty 109=some ⟨.other,1,8,[.nilf],false⟩:=Eq.trans rfl rfl
theorem ty120:tab.ty 120=some ⟨.int .u64,1,8,[.int .u64 0],false⟩:=Eq.trans rfl rfl
theorem fn4:tab.fn 4=some Try.f4:=Try.func4
theorem fn17:tab.fn 17=some Try.f17:=Try.func17
theorem fn18:tab.fn 18=some Try.f18:=Try.func18
theorem fn19:tab.fn 19=some Try.f19:=Try.func19
theorem fn20:tab.fn 20=some Try.f20:=Try.func20
theorem fn21:tab.fn 21=some Try.f21:=Try.func21
theorem fn41:tab.fn 41=some Try.f41:=Try.func41
theorem fn42:tab.fn 42=some Try.f42:=Try.func42
theorem fn45:tab.fn 45=some Try.f45:=Try.func45
theorem fn46:tab.fn 46=some Try.f46:=Try.func46
theorem ty_ok:Tr.allF (fun t i=>tiOk Try.prog t i) tyT (fun n=>n)=true:=by kernel_rfl
theorem fn_ok:Tr.allF (fun f _=>match tab.fn f with | some fn=>fnOk tab an f fn | none=>true) fnT (fun n=>n)=true:=by kernel_rfl
theorem tabOk:TabOk tab Try.prog where
 ty:=fun t i h=>Tr.allF_get _ tyT _ ty_ok t i h
 fn:=fun f fn h=>by
  have h:(match fnT.get f with | some _=>Try.prog.funcs[f]? | none=>none)=some fn:=h
  split at h
  ·exact h
  ·cases h
theorem mixedOk:Try.prog.follows .mixedOrders=true:=by kernel_rfl
theorem codeOk (f:FuncId) (fn:Func) (h:tab.fn f=some fn):fnOk tab an f fn=true:=by
 have h' : (match fnT.get f with | some _=>Try.prog.funcs[f]? | none=>none)=some fn:=h
 split at h'
 ·rename_i u hu
  have:=Tr.allF_get _ fnT _ fn_ok f u hu
  simp only [h] at this
  exact this
 ·cases h'
theorem ok (h1:ExtOk tab Try.prog) (h2:ExtGood tab) (h3:QuietOk tab Try.prog):ProgOk tab Try.prog an:=⟨h1,h2,tabOk,mixedOk,codeOk,h3⟩
#print axioms ok
end Go.AM.YtiolgkhfpnidfaaT
set_option maxRecDepth 100000
namespace Go.AM.YtiolgkhfpnidfaaT
open Go Go.AM Go.Proofs
theorem extOk:ExtOk tab Try.prog:=fun f e hx=>by
 have hx:(none:Option (List V->Hp->Option (V×Hp)))=some e:=hx
 cases hx
theorem extGood:ExtGood tab:=fun f e hx=>by
 have hx:(none:Option (List V->Hp->Option (V×Hp)))=some e:=hx
 cases hx
theorem quietOk:QuietOk tab Try.prog:=fun g h=>by cases h
theorem okP:ProgOk tab Try.prog an:=ok extOk extGood quietOk
#print axioms okP
end Go.AM.YtiolgkhfpnidfaaT
