/- Parts of the abstract machine and of the walks over it, joined: what the law that is claimed here leans on. -/
import Derived.Test.YtlillgmgpmbfnaaGreatDoorAmC3
import Derived.Lib.Bytealg
import Derived.Test.YtlillgmgpmbfnaaGreatDoorProg
import Derived.Lib.LaidTab
import Derived.Lib.ItoaNum
import Derived.Shelf.Strings.Builder1
import Derived.Shelf.Small.Strs
import Derived.Shelf.Strconv.Clone
import Derived.Shelf.Strconv.Itoa4
import Derived.Shelf.Strconv.ErrVarParseInt
import Derived.Shelf.Strings.Repeat
import Derived.Shelf.Strings.OnBuilder
import Derived.Shelf.Strings.Builder2
import Derived.Lib.SmallJoins
import Derived.Recover
import Derived.Shelf.Abstract
import Derived.KernelRfl
import Derived.Tactics
import Derived.Tactics2
import Derived.Defers
import Derived.Laws.Pointers
set_option linter.unusedVariables false
set_option linter.unusedSimpArgs false
namespace Go.AM.YtlillgmgpmbfnaaGreatDoorT
open Go Go.AM
def ext0 (f:FuncId):Option (List V->Hp->Option (V×Hp)):=if f=192 then some (Zg9 183 185) else if f=69 then some (ccE 71) else if f=117 then some (ixE Lib.indexByte) else if f=40 then some (strE 71 5) else if f=60 then some (Zha 71 5) else if f=197 then some (clE) else if f=41 then some (fmtE) else if f=45 then some (itoaE) else if f=156 then some (piE 13 238) else if f=31 then some (repE) else if f=44 then some (joinE) else none
def Z6g (_:FuncId):Bool:=false
end Go.AM.YtlillgmgpmbfnaaGreatDoorT
namespace Go.AM.YtlillgmgpmbfnaaGreatDoorT
open Go Go.AM Go.Proofs
set_option maxRecDepth 100000
abbrev xO:Option TI:=some ⟨.other,1,8,[.nilf],false⟩
abbrev xN:Tr TI:=.node .nil xO .nil
def tyT:Tr TI:=(.node (.node (.node (.node (.node (.node (.node (.node .nil (some (⟨.ptr 30,1,8,[.nilp],false⟩)) .nil) xO .nil) xO (.node (.node .nil (some (⟨.int .u64,1,8,[.int .u64 0],false⟩)) .nil) (some (⟨.struct [(0,93),(1,9),(2,2),(3,3)],4,40,[.int .i64 0,.str [],.int .i64 0,.int .i64 0],true⟩)) xN)) (some (⟨.ptr 270,1,8,[.nilp],false⟩)) (.node (.node (.node (.node .nil (some (⟨.arr 0 16,0,0,[],false⟩)) .nil) xO .nil) xO xN) (some (⟨.int .i64,1,8,[.int .i64 0],false⟩)) (.node xN xO .nil))) (some (⟨.struct [(0,2),(1,3),(2,4),(3,6)],4,24,[.int .i64 0,.int .i64 0,.bool false,.int .u8 0],true⟩)) (.node (.node (.node .nil (some (⟨.struct [(0,69),(1,60)],2,32,[.nilp,.nils],false⟩)) (.node .nil (some (⟨.arr 20 136,20,160,[.int .u64 0,.int .u64 0,.int .u64 0,.int .u64 0,.int .u64 0,.int .u64 0,.int .u64 0,.int .u64 0,.int .u64 0,.int .u64 0,.int .u64 0,.int .u64 0,.int .u64 0,.int .u64 0,.int .u64 0,.int .u64 0,.int .u64 0,.int .u64 0,.int .u64 0,.int .u64 0],false⟩)) .nil)) xO xN) xO (.node (.node (.node .nil (some (⟨.struct [(0,60),(1,4),(2,5)],3,32,[.nils,.bool false,.int .u8 0],false⟩)) .nil) none (.node .nil (some (⟨.struct [(0,213),(1,214),(2,51),(3,51)],4,96,[.nils,.nils,.nils,.nils],false⟩)) .nil)) xO (.node (.node .nil (some (⟨.int .u8,1,1,[.int .u8 0],false⟩)) .nil) none .nil)))) (some (⟨.int .i64,1,8,[.int .i64 0],false⟩)) (.node (.node (.node (.node (.node (.node .nil (some (⟨.struct [(0,9)],1,16,[.str []],true⟩)) .nil) none .nil) (some (⟨.struct [(0,22),(1,3)],2,32,[.nils,.int .i64 0],false⟩)) xN) (some (⟨.struct [(0,32),(1,2),(2,9),(3,28),(4,33),(5,24)],6,104,[.int .i64 0,.int .i64 0,.str [],.nils,.nils,.nils],false⟩)) (.node .nil (some (⟨.int .u64,1,8,[.int .u64 0],false⟩)) .nil)) (some (⟨.struct [(0,17)],1,8,[.nilp],false⟩)) (.node (.node (.node (.node .nil (some (⟨.int .u8,1,1,[.int .u8 0],false⟩)) .nil) (some (⟨.map 194 159,1,8,[.nilm],false⟩)) .nil) none (.node .nil (some (⟨.arr 16 210,32,32,[.int .u8 0,.int .u8 0,.int .u8 0,.int .u8 0,.int .u8 0,.int .u8 0,.int .u8 0,.int .u8 0,.int .u8 0,.int .u8 0,.int .u8 0,.int .u8 0,.int .u8 0,.int .u8 0,.int .u8 0,.int .u8 0,.int .u8 0,.int .u8 0,.int .u8 0,.int .u8 0,.int .u8 0,.int .u8 0,.int .u8 0,.int .u8 0,.int .u8 0,.int .u8 0,.int .u8 0,.int .u8 0,.int .u8 0,.int .u8 0,.int .u8 0,.int .u8 0],false⟩)) .nil)) (some (⟨.slice 3,1,24,[.nils],false⟩)) (.node xN xO .nil))) (some (⟨.str,1,16,[.str []],false⟩)) (.node (.node (.node xN xO xN) xO (.node xN (some (⟨.struct [(0,33),(1,33)],2,48,[.nils,.nils],false⟩)) (.node .nil (some (⟨.int .i64,1,8,[.int .i64 0],false⟩)) .nil))) (some (⟨.int .i64,1,8,[.int .i64 0],false⟩)) (.node (.node (.node .nil (some (⟨.map 159 196,1,8,[.nilm],false⟩)) .nil) (some (⟨.struct [(0,84),(1,3)],2,32,[.nils,.int .i64 0],false⟩)) (.node .nil (some (⟨.ptr 218,1,8,[.nilp],false⟩)) .nil)) xO (.node (.node .nil (some (⟨.struct [(0,180),(1,3),(2,4),(3,181),(4,3),(5,3),(6,182),(7,159),(8,185),(11,3),(12,159),(13,3)],14,136,[.int .u8 0,.int .i64 0,.bool false,.nilm,.int .i64 0,.int .i64 0,.nils,.int .u64 0,.int .u8 0,.int .i64 0,.str [],.int .i64 0,.int .u64 0,.int .i64 0],false⟩)) .nil) xO .nil))))) xO (.node (.node (.node (.node (.node (.node (.node .nil (some (⟨.ptr 259,1,8,[.nilp],false⟩)) .nil) none .nil) (some (⟨.ptr 67,1,8,[.nilp],false⟩)) (.node .nil (some (⟨.struct [(0,3),(1,159)],2,16,[.int .i64 0,.int .u64 0],true⟩)) .nil)) (some (⟨.slice 9,1,24,[.nils],false⟩)) (.node (.node .nil (some (⟨.slice 2,1,24,[.nils],false⟩)) .nil) xO .nil)) (some (⟨.ptr 280,1,8,[.nilp],false⟩)) (.node (.node (.node (.node .nil (some (⟨.struct [(0,271)],0,0,[],false⟩)) .nil) (some (⟨.ptr 216,1,8,[.nilp],false⟩)) .nil) xO (.node .nil (some (⟨.struct [(0,5),(1,5)],2,2,[.int .u8 0,.int .u8 0],true⟩)) .nil)) xO (.node xN xO .nil))) (some (⟨.str,1,16,[.str []],false⟩)) (.node (.node (.node .nil (some (⟨.iface,1,16,[.nili],false⟩)) .nil) (some (⟨.struct [(0,5),(1,5),(2,40),(3,5)],4,6,[.int .u8 0,.int .u8 0,.int .u16 0,.int .u8 0],true⟩)) (.node xN (some (⟨.ptr 107,1,8,[.nilp],false⟩)) (.node .nil (some (⟨.arr 32 5,32,32,[.int .u8 0,.int .u8 0,.int .u8 0,.int .u8 0,.int .u8 0,.int .u8 0,.int .u8 0,.int .u8 0,.int .u8 0,.int .u8 0,.int .u8 0,.int .u8 0,.int .u8 0,.int .u8 0,.int .u8 0,.int .u8 0,.int .u8 0,.int .u8 0,.int .u8 0,.int .u8 0,.int .u8 0,.int .u8 0,.int .u8 0,.int .u8 0,.int .u8 0,.int .u8 0,.int .u8 0,.int .u8 0,.int .u8 0,.int .u8 0,.int .u8 0,.int .u8 0],false⟩)) .nil))) xO (.node (.node (.node .nil (some (⟨.slice 152,1,24,[.nils],false⟩)) .nil) none (.node .nil (some (⟨.struct [(0,133),(1,4),(2,187)],16,144,[.int .u32 0,.bool false,.int .u8 0,.int .i64 0,.bool false,.nilm,.int .i64 0,.int .i64 0,.nils,.int .u64 0,.int .u8 0,.int .i64 0,.str [],.int .i64 0,.int .u64 0,.int .i64 0],false⟩)) .nil)) xO (.node (.node .nil (some (⟨.struct [(0,183),(1,2),(2,9)],3,32,[.int .u8 0,.int .i64 0,.str []],true⟩)) .nil) (some (⟨.struct [(0,9),(1,27)],2,24,[.str [],.int .i64 0],true⟩)) .nil)))) (some (⟨.int .u8,1,1,[.int .u8 0],false⟩)) (.node (.node (.node (.node (.node .nil (some (⟨.int .u32,1,4,[.int .u32 0],false⟩)) .nil) (some (⟨.ptr 71,1,8,[.nilp],false⟩)) .nil) xO (.node xN xO .nil)) (some (⟨.int .i32,1,4,[.int .i32 0],false⟩)) (.node (.node (.node (.node .nil (some (⟨.int .i32,1,4,[.int .i32 0],false⟩)) .nil) none .nil) none (.node .nil (some (⟨.slice 218,1,24,[.nils],false⟩)) .nil)) xO (.node (.node .nil (some (⟨.map 185 185,1,8,[.nilm],false⟩)) .nil) xO .nil))) (some (⟨.struct [(0,9),(1,12)],2,24,[.str [],.int .u64 0],false⟩)) (.node (.node (.node xN (some (⟨.arr 18 9,18,288,[.str [],.str [],.str [],.str [],.str [],.str [],.str [],.str [],.str [],.str [],.str [],.str [],.str [],.str [],.str [],.str [],.str [],.str []],false⟩)) (.node .nil (some (⟨.map 9 32,1,8,[.nilm],false⟩)) .nil)) xO (.node xN xO .nil)) (some (⟨.struct [(0,27),(1,9),(2,28),(3,24),(4,24),(5,3)],6,104,[.int .i64 0,.str [],.nils,.nils,.nils,.int .i64 0],false⟩)) (.node (.node xN (some (⟨.int .i64,1,8,[.int .i64 0],false⟩)) .nil) xO (.node (.node .nil (some (⟨.ptr 187,1,8,[.nilp],false⟩)) .nil) xO .nil)))))) none (.node (.node (.node (.node (.node (.node (.node xN none .nil) xO xN) (some (⟨.int .i64,1,8,[.int .i64 0],false⟩)) (.node .nil xO xN)) (some (⟨.ptr 273,1,8,[.nilp],false⟩)) (.node (.node xN xO (.node .nil (some (⟨.arr 256 5,256,256,[.int .u8 0,.int .u8 0,.int .u8 0,.int .u8 0,.int .u8 0,.int .u8 0,.int .u8 0,.int .u8 0,.int .u8 0,.int .u8 0,.int .u8 0,.int .u8 0,.int .u8 0,.int .u8 0,.int .u8 0,.int .u8 0,.int .u8 0,.int .u8 0,.int .u8 0,.int .u8 0,.int .u8 0,.int .u8 0,.int .u8 0,.int .u8 0,.int .u8 0,.int .u8 0,.int .u8 0,.int .u8 0,.int .u8 0,.int .u8 0,.int .u8 0,.int .u8 0,.int .u8 0,.int .u8 0,.int .u8 0,.int .u8 0,.int .u8 0,.int .u8 0,.int .u8 0,.int .u8 0,.int .u8 0,.int .u8 0,.int .u8 0,.int .u8 0,.int .u8 0,.int .u8 0,.int .u8 0,.int .u8 0,.int .u8 0,.int .u8 0,.int .u8 0,.int .u8 0,.int .u8 0,.int .u8 0,.int .u8 0,.int .u8 0,.int .u8 0,.int .u8 0,.int .u8 0,.int .u8 0,.int .u8 0,.int .u8 0,.int .u8 0,.int .u8 0,.int .u8 0,.int .u8 0,.int .u8 0,.int .u8 0,.int .u8 0,.int .u8 0,.int .u8 0,.int .u8 0,.int .u8 0,.int .u8 0,.int .u8 0,.int .u8 0,.int .u8 0,.int .u8 0,.int .u8 0,.int .u8 0,.int .u8 0,.int .u8 0,.int .u8 0,.int .u8 0,.int .u8 0,.int .u8 0,.int .u8 0,.int .u8 0,.int .u8 0,.int .u8 0,.int .u8 0,.int .u8 0,.int .u8 0,.int .u8 0,.int .u8 0,.int .u8 0,.int .u8 0,.int .u8 0,.int .u8 0,.int .u8 0,.int .u8 0,.int .u8 0,.int .u8 0,.int .u8 0,.int .u8 0,.int .u8 0,.int .u8 0,.int .u8 0,.int .u8 0,.int .u8 0,.int .u8 0,.int .u8 0,.int .u8 0,.int .u8 0,.int .u8 0,.int .u8 0,.int .u8 0,.int .u8 0,.int .u8 0,.int .u8 0,.int .u8 0,.int .u8 0,.int .u8 0,.int .u8 0,.int .u8 0,.int .u8 0,.int .u8 0,.int .u8 0,.int .u8 0,.int .u8 0,.int .u8 0,.int .u8 0,.int .u8 0,.int .u8 0,.int .u8 0,.int .u8 0,.int .u8 0,.int .u8 0,.int .u8 0,.int .u8 0,.int .u8 0,.int .u8 0,.int .u8 0,.int .u8 0,.int .u8 0,.int .u8 0,.int .u8 0,.int .u8 0,.int .u8 0,.int .u8 0,.int .u8 0,.int .u8 0,.int .u8 0,.int .u8 0,.int .u8 0,.int .u8 0,.int .u8 0,.int .u8 0,.int .u8 0,.int .u8 0,.int .u8 0,.int .u8 0,.int .u8 0,.int .u8 0,.int .u8 0,.int .u8 0,.int .u8 0,.int .u8 0,.int .u8 0,.int .u8 0,.int .u8 0,.int .u8 0,.int .u8 0,.int .u8 0,.int .u8 0,.int .u8 0,.int .u8 0,.int .u8 0,.int .u8 0,.int .u8 0,.int .u8 0,.int .u8 0,.int .u8 0,.int .u8 0,.int .u8 0,.int .u8 0,.int .u8 0,.int .u8 0,.int .u8 0,.int .u8 0,.int .u8 0,.int .u8 0,.int .u8 0,.int .u8 0,.int .u8 0,.int .u8 0,.int .u8 0,.int .u8 0,.int .u8 0,.int .u8 0,.int .u8 0,.int .u8 0,.int .u8 0,.int .u8 0,.int .u8 0,.int .u8 0,.int .u8 0,.int .u8 0,.int .u8 0,.int .u8 0,.int .u8 0,.int .u8 0,.int .u8 0,.int .u8 0,.int .u8 0,.int .u8 0,.int .u8 0,.int .u8 0,.int .u8 0,.int .u8 0,.int .u8 0,.int .u8 0,.int .u8 0,.int .u8 0,.int .u8 0,.int .u8 0,.int .u8 0,.int .u8 0,.int .u8 0,.int .u8 0,.int .u8 0,.int .u8 0,.int .u8 0,.int .u8 0,.int .u8 0,.int .u8 0,.int .u8 0,.int .u8 0,.int .u8 0,.int .u8 0,.int .u8 0,.int .u8 0,.int .u8 0,.int .u8 0,.int .u8 0,.int .u8 0,.int .u8 0,.int .u8 0,.int .u8 0,.int .u8 0,.int .u8 0,.int .u8 0,.int .u8 0,.int .u8 0,.int .u8 0,.int .u8 0],false⟩)) .nil)) none (.node xN xO .nil))) (some (⟨.struct [(0,2),(1,3),(2,4),(3,6)],4,24,[.int .i64 0,.int .i64 0,.bool false,.int .u8 0],false⟩)) (.node (.node (.node (.node (.node .nil (some (⟨.ptr 3,1,8,[.nilp],false⟩)) .nil) (some (⟨.int .u64,1,8,[.int .u64 0],false⟩)) .nil) (some (⟨.iface,1,16,[.nili],false⟩)) (.node .nil (some (⟨.arr 65 5,65,65,[.int .u8 0,.int .u8 0,.int .u8 0,.int .u8 0,.int .u8 0,.int .u8 0,.int .u8 0,.int .u8 0,.int .u8 0,.int .u8 0,.int .u8 0,.int .u8 0,.int .u8 0,.int .u8 0,.int .u8 0,.int .u8 0,.int .u8 0,.int .u8 0,.int .u8 0,.int .u8 0,.int .u8 0,.int .u8 0,.int .u8 0,.int .u8 0,.int .u8 0,.int .u8 0,.int .u8 0,.int .u8 0,.int .u8 0,.int .u8 0,.int .u8 0,.int .u8 0,.int .u8 0,.int .u8 0,.int .u8 0,.int .u8 0,.int .u8 0,.int .u8 0,.int .u8 0,.int .u8 0,.int .u8 0,.int .u8 0,.int .u8 0,.int .u8 0,.int .u8 0,.int .u8 0,.int .u8 0,.int .u8 0,.int .u8 0,.int .u8 0,.int .u8 0,.int .u8 0,.int .u8 0,.int .u8 0,.int .u8 0,.int .u8 0,.int .u8 0,.int .u8 0,.int .u8 0,.int .u8 0,.int .u8 0,.int .u8 0,.int .u8 0,.int .u8 0,.int .u8 0],false⟩)) .nil)) (some (⟨.int .u16,1,2,[.int .u16 0],false⟩)) (.node xN xO xN)) (some (⟨.slice 30,1,24,[.nils],false⟩)) (.node (.node (.node (.node .nil (some (⟨.struct [(0,12),(1,12),(2,133),(3,274),(4,5),(5,5),(6,275),(7,276),(8,114),(9,277),(10,278)],11,48,[.int .u64 0,.int .u64 0,.int .u32 0,.int .u8 0,.int .u8 0,.int .u8 0,.int .u8 0,.nilf,.nilp,.int .i32 0,.int .i32 0],false⟩)) .nil) (some (⟨.struct [(0,60),(1,4),(2,5)],3,32,[.nils,.bool false,.int .u8 0],false⟩)) .nil) (some (⟨.struct [(0,3),(1,47)],2,16,[.int .i64 0,.int .i64 0],true⟩)) (.node .nil (some (⟨.struct [(0,213),(1,214),(2,51),(3,51)],4,96,[.nils,.nils,.nils,.nils],false⟩)) .nil)) xO (.node (.node .nil (some (⟨.struct [(0,183),(1,2),(2,9)],3,32,[.int .u8 0,.int .i64 0,.str []],true⟩)) .nil) xO .nil)))) (some (⟨.bool,1,1,[.bool false],false⟩)) (.node (.node (.node (.node (.node (.node .nil (some (⟨.int .u64,1,8,[.int .u64 0],false⟩)) .nil) none .nil) xO (.node .nil (some (⟨.struct [],0,0,[],false⟩)) .nil)) xO (.node (.node .nil (some (⟨.arr 24 5,24,24,[.int .u8 0,.int .u8 0,.int .u8 0,.int .u8 0,.int .u8 0,.int .u8 0,.int .u8 0,.int .u8 0,.int .u8 0,.int .u8 0,.int .u8 0,.int .u8 0,.int .u8 0,.int .u8 0,.int .u8 0,.int .u8 0,.int .u8 0,.int .u8 0,.int .u8 0,.int .u8 0,.int .u8 0,.int .u8 0,.int .u8 0,.int .u8 0],false⟩)) .nil) none .nil)) (some (⟨.iface,1,16,[.nili],false⟩)) (.node (.node (.node xN (some (⟨.map 194 159,1,8,[.nilm],false⟩)) .nil) (some (⟨.slice 95,1,24,[.nils],false⟩)) .nil) xO (.node (.node .nil (some (⟨.int .u8,1,1,[.int .u8 0],false⟩)) .nil) xO .nil))) (some (⟨.int .u64,1,8,[.int .u64 0],false⟩)) (.node (.node (.node (.node .nil (some (⟨.arr 6 9,6,96,[.str [],.str [],.str [],.str [],.str [],.str []],false⟩)) .nil) xO .nil) xO (.node xN xO .nil)) (some (⟨.slice 35,1,24,[.nils],false⟩)) (.node (.node (.node .nil (some (⟨.map 159 196,1,8,[.nilm],false⟩)) .nil) (some (⟨.struct [(0,84),(1,3)],2,32,[.nils,.int .i64 0],false⟩)) .nil) (some (⟨.slice 5,1,24,[.nils],false⟩)) (.node xN none .nil))))) (some (⟨.int .i64,1,8,[.int .i64 0],false⟩)) (.node (.node (.node (.node (.node .nil (some (⟨.struct [(0,22),(1,3)],2,32,[.nils,.int .i64 0],false⟩)) (.node .nil (some (⟨.struct [(0,3),(1,159)],2,16,[.int .i64 0,.int .u64 0],true⟩)) .nil)) (some (⟨.struct [(0,32),(1,2),(2,9),(3,28),(4,33),(5,24)],6,104,[.int .i64 0,.int .i64 0,.str [],.nils,.nils,.nils],false⟩)) (.node (.node .nil (some (⟨.other,1,8,[.nilp],false⟩)) .nil) xO xN)) (some (⟨.struct [(0,17)],1,8,[.nilp],false⟩)) (.node (.node (.node (.node .nil (some (⟨.int .u8,1,1,[.int .u8 0],false⟩)) .nil) (some (⟨.slice 159,1,24,[.nils],false⟩)) .nil) xO (.node .nil (some (⟨.struct [(0,5),(1,5)],2,2,[.int .u8 0,.int .u8 0],true⟩)) .nil)) xO (.node .nil (some (⟨.ptr 5,1,8,[.nilp],false⟩)) .nil))) (some (⟨.str,1,16,[.str []],false⟩)) (.node (.node (.node (.node (.node .nil (some (⟨.ptr 260,1,8,[.nilp],false⟩)) .nil) xO .nil) none .nil) (some (⟨.struct [(0,5),(1,5),(2,40),(3,5)],4,6,[.int .u8 0,.int .u8 0,.int .u16 0,.int .u8 0],true⟩)) (.node xN (some (⟨.struct [(0,33),(1,33)],2,48,[.nils,.nils],false⟩)) (.node .nil (some (⟨.arr 64 5,64,64,[.int .u8 0,.int .u8 0,.int .u8 0,.int .u8 0,.int .u8 0,.int .u8 0,.int .u8 0,.int .u8 0,.int .u8 0,.int .u8 0,.int .u8 0,.int .u8 0,.int .u8 0,.int .u8 0,.int .u8 0,.int .u8 0,.int .u8 0,.int .u8 0,.int .u8 0,.int .u8 0,.int .u8 0,.int .u8 0,.int .u8 0,.int .u8 0,.int .u8 0,.int .u8 0,.int .u8 0,.int .u8 0,.int .u8 0,.int .u8 0,.int .u8 0,.int .u8 0,.int .u8 0,.int .u8 0,.int .u8 0,.int .u8 0,.int .u8 0,.int .u8 0,.int .u8 0,.int .u8 0,.int .u8 0,.int .u8 0,.int .u8 0,.int .u8 0,.int .u8 0,.int .u8 0,.int .u8 0,.int .u8 0,.int .u8 0,.int .u8 0,.int .u8 0,.int .u8 0,.int .u8 0,.int .u8 0,.int .u8 0,.int .u8 0,.int .u8 0,.int .u8 0,.int .u8 0,.int .u8 0,.int .u8 0,.int .u8 0,.int .u8 0,.int .u8 0],false⟩)) .nil))) xO (.node (.node xN (some (⟨.ptr 92,1,8,[.nilp],false⟩)) (.node .nil (some (⟨.struct [(0,133),(1,4),(2,187)],16,144,[.int .u32 0,.bool false,.int .u8 0,.int .i64 0,.bool false,.nilm,.int .i64 0,.int .i64 0,.nils,.int .u64 0,.int .u8 0,.int .i64 0,.str [],.int .i64 0,.int .u64 0,.int .i64 0],false⟩)) .nil)) xO (.node (.node .nil (some (⟨.struct [(0,180),(1,3),(2,4),(3,181),(4,3),(5,3),(6,182),(7,159),(8,185),(11,3),(12,159),(13,3)],14,136,[.int .u8 0,.int .i64 0,.bool false,.nilm,.int .i64 0,.int .i64 0,.nils,.int .u64 0,.int .u8 0,.int .i64 0,.str [],.int .i64 0,.int .u64 0,.int .i64 0],false⟩)) .nil) (some (⟨.arr 2 121,4,48,[.str [],.int .i64 0,.str [],.int .i64 0],false⟩)) (.node .nil (some (⟨.int .i64,1,8,[.int .i64 0],false⟩)) .nil))))) (some (⟨.int .u8,1,1,[.int .u8 0],false⟩)) (.node (.node (.node (.node .nil (some (⟨.struct [(0,69),(1,60)],2,32,[.nilp,.nils],false⟩)) xN) xO (.node xN xO .nil)) (some (⟨.slice 42,1,24,[.nils],false⟩)) (.node (.node (.node (.node .nil (some (⟨.int .i32,1,4,[.int .i32 0],false⟩)) .nil) xO .nil) none (.node .nil (some (⟨.slice 133,1,24,[.nils],false⟩)) .nil)) xO (.node (.node .nil (some (⟨.slice 185,1,24,[.nils],false⟩)) .nil) (some (⟨.arr 12 9,12,192,[.str [],.str [],.str [],.str [],.str [],.str [],.str [],.str [],.str [],.str [],.str [],.str []],false⟩)) (.node .nil (some (⟨.struct [(0,9),(1,9),(2,73)],3,48,[.str [],.str [],.nili],false⟩)) .nil)))) (some (⟨.struct [(0,9),(1,12)],2,24,[.str [],.int .u64 0],false⟩)) (.node (.node (.node (.node (.node .nil (some (⟨.struct [(0,17),(1,17),(2,17),(3,9)],4,40,[.nilp,.nilp,.nilp,.str []],false⟩)) .nil) xO .nil) xO (.node .nil (some (⟨.arr 3 205,3,24,[.nilm,.nilm,.nilm],false⟩)) .nil)) xO (.node xN (some (⟨.ptr 33,1,8,[.nilp],false⟩)) (.node .nil (some (⟨.ptr 246,1,8,[.nilp],false⟩)) .nil))) (some (⟨.struct [(0,27),(1,9),(2,28),(3,24),(4,24),(5,3)],6,104,[.int .i64 0,.str [],.nils,.nils,.nils,.int .i64 0],false⟩)) (.node (.node xN (some (⟨.struct [(0,93),(1,9),(2,2),(3,3)],4,40,[.int .i64 0,.str [],.int .i64 0,.int .i64 0],true⟩)) .nil) xO (.node xN xO .nil)))))))
def fnT:Tr Unit:=(.node (.node (.node (.node (.node (.node (.node .nil (some (())) .nil) (some (())) (.node .nil (some (())) .nil)) (some (())) (.node (.node (.node .nil (some (())) .nil) (some (())) (.node .nil (some (())) .nil)) none (.node (.node .nil (some (())) .nil) (some (())) .nil))) none (.node (.node (.node .nil (some (())) (.node .nil (some (())) .nil)) (some (())) (.node (.node .nil (some (())) .nil) (some (())) .nil)) none (.node (.node (.node .nil (some (())) .nil) none (.node .nil (some (())) .nil)) none (.node (.node .nil (some (())) .nil) (some (())) .nil)))) none (.node (.node (.node (.node .nil (some (())) (.node .nil (some (())) .nil)) (some (())) (.node .nil (some (())) .nil)) (some (())) (.node (.node (.node .nil (some (())) .nil) none (.node .nil (some (())) .nil)) (some (())) (.node (.node .nil (some (())) .nil) (some (())) .nil))) none (.node (.node (.node (.node .nil (some (())) .nil) (some (())) (.node .nil (some (())) .nil)) (some (())) (.node (.node .nil (some (())) .nil) (some (())) .nil)) none (.node (.node (.node .nil (some (())) .nil) (some (())) (.node .nil (some (())) .nil)) (some (())) (.node (.node .nil (some (())) .nil) none .nil))))) none (.node (.node (.node (.node (.node .nil (some (())) (.node .nil (some (())) .nil)) (some (())) (.node .nil (some (())) .nil)) none (.node (.node (.node .nil (some (())) .nil) (some (())) (.node .nil (some (())) .nil)) none (.node (.node .nil (some (())) .nil) (some (())) .nil))) none (.node (.node .nil (some (())) (.node (.node .nil (some (())) .nil) (some (())) .nil)) (some (())) (.node (.node (.node .nil (some (())) .nil) (some (())) (.node .nil (some (())) .nil)) none (.node (.node .nil (some (())) .nil) (some (())) .nil)))) none (.node (.node (.node (.node .nil (some (())) (.node .nil (some (())) .nil)) (some (())) (.node (.node .nil (some (())) .nil) (some (())) .nil)) none (.node (.node (.node .nil (some (())) .nil) none .nil) (some (())) (.node (.node .nil (some (())) .nil) (some (())) .nil))) (some (())) (.node (.node (.node (.node .nil (some (())) .nil) (some (())) (.node .nil (some (())) .nil)) (some (())) (.node (.node .nil (some (())) .nil) (some (())) .nil)) none (.node (.node (.node .nil (some (())) .nil) (some (())) .nil) (some (())) (.node (.node .nil (some (())) .nil) none .nil)))))) none (.node (.node (.node (.node (.node (.node .nil (some (())) (.node .nil (some (())) .nil)) (some (())) (.node .nil (some (())) .nil)) (some (())) (.node (.node (.node .nil (some (())) .nil) (some (())) (.node .nil (some (())) .nil)) none (.node (.node .nil (some (())) .nil) (some (())) .nil))) none (.node (.node (.node .nil (some (())) (.node .nil (some (())) .nil)) (some (())) (.node (.node .nil (some (())) .nil) (some (())) .nil)) (some (())) (.node (.node (.node .nil (some (())) .nil) none (.node .nil (some (())) .nil)) none (.node (.node .nil (some (())) .nil) (some (())) .nil)))) none (.node (.node (.node (.node .nil (some (())) (.node .nil (some (())) .nil)) (some (())) (.node (.node .nil (some (())) .nil) (some (())) .nil)) none (.node (.node (.node .nil (some (())) .nil) none .nil) (some (())) (.node .nil (some (())) .nil))) none (.node (.node (.node (.node .nil (some (())) .nil) (some (())) (.node .nil (some (())) .nil)) (some (())) (.node (.node .nil (some (())) .nil) (some (())) .nil)) none (.node (.node (.node .nil (some (())) .nil) (some (())) .nil) (some (())) (.node (.node .nil (some (())) .nil) none .nil))))) none (.node (.node (.node (.node (.node .nil (some (())) (.node .nil (some (())) .nil)) (some (())) (.node .nil (some (())) .nil)) (some (())) (.node (.node (.node .nil (some (())) .nil) none (.node .nil (some (())) .nil)) (some (())) (.node (.node .nil (some (())) .nil) (some (())) .nil))) none (.node (.node .nil (some (())) (.node (.node .nil (some (())) .nil) none .nil)) (some (())) (.node (.node (.node .nil (some (())) .nil) (some (())) (.node .nil (some (())) .nil)) (some (())) (.node (.node .nil (some (())) .nil) none .nil)))) none (.node (.node (.node (.node .nil (some (())) (.node .nil (some (())) .nil)) (some (())) (.node (.node .nil (some (())) .nil) (some (())) .nil)) none (.node (.node (.node .nil (some (())) .nil) none (.node .nil (some (())) .nil)) none (.node (.node .nil (some (())) .nil) (some (())) .nil))) (some (())) (.node (.node (.node (.node .nil (some (())) .nil) (some (())) (.node .nil (some (())) .nil)) none (.node (.node .nil (some (())) .nil) (some (())) .nil)) none (.node (.node .nil (some (())) .nil) (some (())) (.node (.node .nil (some (())) .nil) none .nil)))))))
def drT:Tr (Tr (List (Nat×Nat))):=(.node (.node (.node (.node (.node (.node (.node .nil (some ((.node .nil none (.node (.node .nil none (.node .nil (some ([(1,0),(2,0),(3,0),(4,0),(5,0),(6,0),(7,0),(8,0),(0,1),(9,0),(10,0),(11,0)])) .nil)) none .nil)))) .nil) none .nil) none (.node (.node (.node .nil (some ((.node (.node (.node .nil (some ([(0,0),(1,0),(2,0),(3,0),(4,0),(5,0),(6,0),(7,0),(8,0),(9,0),(10,0),(11,0),(12,0),(13,0),(14,0),(15,0),(16,0)])) .nil) none (.node (.node .nil (some ([(0,0),(1,0),(2,0),(3,0),(4,0),(5,0),(6,0),(7,0),(8,0),(9,0),(10,0),(11,0),(12,0),(13,0),(14,0)])) .nil) none (.node .nil (some ([(0,0),(1,0),(2,0),(3,0),(4,0),(5,0),(6,0),(7,0),(8,0),(9,0),(10,0)])) .nil))) none (.node (.node (.node .nil (some ([(0,0),(1,0),(2,0),(3,0),(4,0),(5,0),(6,0),(7,0),(8,0),(9,0),(10,0),(11,0),(12,0)])) .nil) none (.node .nil (some ([(0,0),(3,0),(4,0),(5,0),(1,1),(2,1),(6,0),(7,0),(8,0)])) .nil)) none (.node .nil (some ([(1,0),(2,0),(3,0),(4,0),(5,0),(6,0),(7,0),(8,0),(9,0),(10,0),(11,0),(12,0),(0,1),(13,0),(14,0),(15,0)])) .nil))))) .nil) none (.node .nil (some ((.node (.node (.node .nil (some ([(0,0),(1,0),(4,0),(5,0),(6,0),(7,0),(8,0),(9,0),(10,0),(11,0),(12,0),(13,0),(2,1),(3,1),(14,0),(15,0)])) .nil) none .nil) none .nil))) .nil)) none .nil)) none (.node (.node (.node .nil none (.node .nil (some ((.node (.node (.node .nil none (.node .nil (some ([(3,0),(4,0),(0,1),(1,1),(2,1),(5,0),(6,0),(7,0),(8,0)])) .nil)) none .nil) none .nil))) .nil)) none .nil) none (.node .nil none (.node .nil (some ((.node .nil none (.node (.node (.node .nil (some ([(2,0),(3,0),(4,0),(5,0),(0,1),(1,1),(6,0),(7,0),(8,0)])) .nil) (some ([(0,0),(1,0),(2,0),(3,0),(4,0),(5,0),(6,0),(7,0),(8,0),(9,0),(10,0),(11,0),(12,0),(13,0),(14,0),(15,0)])) .nil) none .nil)))) .nil)))) none (.node (.node (.node (.node .nil (some ((.node (.node (.node .nil none (.node .nil (some ([(0,0),(1,0),(2,0),(3,0),(4,0),(5,0),(6,0),(7,0),(8,0),(9,0),(10,0),(11,0)])) (.node .nil (some ([(2,0),(3,0),(4,0),(5,0),(6,0),(0,1),(1,1),(7,0),(8,0),(9,0),(10,0)])) .nil))) none .nil) none (.node (.node (.node (.node (.node .nil (some ([(2,0),(3,0),(4,0),(5,0),(0,1),(1,1),(6,0),(7,0),(8,0),(9,0)])) .nil) none .nil) none .nil) none .nil) none .nil)))) .nil) none .nil) (some ((.node (.node .nil none (.node .nil none (.node .nil none (.node .nil (some ([(0,0),(1,0),(2,0),(5,1),(6,1),(7,0),(3,1),(4,1),(8,0),(9,0),(10,0)])) .nil)))) none (.node (.node (.node (.node .nil (some ([(5,0),(6,0),(7,0),(8,0),(9,0),(0,1),(1,1),(2,1),(3,1),(4,1),(10,0),(11,0),(12,0)])) .nil) none .nil) none (.node (.node .nil (some ([(0,0),(1,0),(2,0),(3,0),(4,0),(6,1),(7,1),(8,1),(9,0),(5,1),(10,0),(11,0),(12,0)])) .nil) none .nil)) none (.node (.node (.node .nil (some ([(0,0),(1,0),(2,0),(3,0),(4,0),(6,1),(7,1),(8,1),(9,1),(10,0),(5,1),(11,0),(12,0),(13,0)])) .nil) none (.node .nil (some ([(1,0),(2,0),(3,0),(4,0),(5,0),(6,0),(9,1),(10,1),(11,1),(12,1),(13,1),(14,1),(15,0),(0,2),(7,1),(8,1),(16,0),(17,0),(18,0),(19,0)])) .nil)) none (.node .nil none (.node .nil (some ([(0,0),(1,0),(2,0),(3,0),(4,0),(13,1),(14,1),(15,1),(16,1),(17,0),(5,1),(6,1),(7,2),(8,2),(9,2),(10,2),(11,1),(12,1),(18,0),(19,0),(20,0)])) .nil))))))) (.node .nil none (.node (.node .nil (some ((.node (.node .nil none (.node (.node .nil (some ([(1,0),(2,0),(0,1),(3,0),(4,0),(5,0),(6,0)])) .nil) none .nil)) none (.node (.node .nil (some ([(2,0),(3,0),(0,1),(1,1),(4,0),(5,0),(6,0)])) .nil) none (.node .nil (some ([(1,0),(2,0),(0,1),(3,0),(4,0),(5,0)])) .nil))))) .nil) none .nil))) none (.node (.node (.node .nil none (.node .nil (some ((.node .nil none (.node (.node .nil (some ([(0,0),(1,0),(2,0),(3,0),(4,0),(5,0),(6,0),(7,0),(8,0),(9,0),(10,0),(11,0),(12,0),(13,0),(14,0),(15,0),(16,0)])) .nil) none (.node .nil (some ([(0,0),(1,0),(5,0),(6,0),(7,0),(8,0),(9,0),(10,0),(11,0),(12,0),(13,0),(14,0),(15,0),(2,1),(3,1),(4,1),(16,0),(17,0)])) .nil))))) .nil)) none .nil) none (.node (.node .nil none (.node .nil (some ((.node (.node .nil (some ([(0,0),(1,0),(2,0),(3,0),(4,0),(5,0),(6,0),(7,0),(8,0),(9,0),(10,0)])) .nil) none .nil))) .nil)) none .nil)))) none (.node (.node (.node (.node (.node .nil (some ((.node (.node .nil none (.node .nil (some ([(0,0),(1,0),(2,0),(3,0),(4,0),(5,0),(6,0),(7,0),(8,0),(9,1),(10,1),(11,1),(12,0),(13,0),(14,0),(15,0),(16,0),(17,0),(18,0),(19,0),(20,0),(21,0)])) .nil)) none .nil))) (.node .nil (some ((.node (.node .nil none (.node (.node (.node .nil (some ([(0,0),(1,0),(2,0),(3,0),(4,0),(5,0),(6,0),(7,0),(8,0),(9,0),(10,0),(11,0),(12,0),(13,0),(14,0),(15,0),(16,0)])) .nil) none .nil) none .nil)) none .nil))) .nil)) (some ((.node .nil none (.node .nil none (.node .nil (some ([(2,0),(3,0),(0,1),(1,1),(4,0),(5,0),(6,0),(7,0)])) .nil))))) .nil) none (.node (.node (.node .nil (some ((.node .nil none (.node .nil (some ([(0,0),(1,0),(2,0),(3,0),(4,0),(5,0),(6,0),(7,0),(8,0),(9,0),(10,0),(11,0),(12,0),(13,0),(14,0),(15,0),(16,0),(17,0),(18,0),(27,0),(28,0),(19,1),(20,1),(21,1),(22,1),(23,1),(24,1),(25,1),(26,1),(29,0),(30,0)])) .nil)))) .nil) (some ((.node (.node (.node (.node (.node .nil (some ([(1,0),(2,0),(3,0),(4,0),(5,1),(6,1),(7,0),(0,2),(8,0),(9,0),(10,0)])) .nil) none .nil) none .nil) none .nil) none (.node (.node (.node .nil (some ([(0,0),(4,0),(5,0),(6,0),(1,1),(2,1),(3,1),(7,0),(8,0),(9,0)])) .nil) none .nil) (some ([(0,0),(4,0),(5,0),(6,0),(1,1),(2,1),(3,1),(7,0),(8,0),(9,0)])) .nil)))) (.node .nil (some ((.node (.node (.node .nil (some ([(0,0),(1,0),(2,0),(3,0),(4,0),(5,0),(6,0),(7,0),(8,0),(9,0),(10,0),(11,0),(12,0),(13,0),(14,0),(15,0),(16,0)])) .nil) (some ([(0,0),(1,0),(4,0),(5,0),(6,0),(7,0),(8,0),(9,0),(10,0),(11,0),(12,0),(13,0),(2,1),(3,1),(14,0),(15,0)])) (.node .nil (some ([(0,0),(1,0),(2,0),(3,0),(4,0),(5,0),(6,0),(7,0),(8,0),(9,0),(10,0),(11,0),(12,0),(13,0),(14,0),(15,0)])) .nil)) none (.node (.node (.node .nil (some ([(0,0),(1,0),(4,0),(5,0),(6,0),(7,0),(8,0),(9,0),(10,0),(11,0),(12,0),(13,0),(2,1),(3,1),(14,0),(15,0)])) .nil) none .nil) none .nil)))) .nil)) none .nil)) none (.node .nil none (.node .nil none (.node (.node .nil (some ((.node (.node .nil (some ([(1,0),(2,0),(0,1),(3,1),(4,0),(5,0),(6,0)])) .nil) none .nil))) .nil) none .nil)))) none (.node (.node .nil none (.node (.node (.node .nil (some ((.node .nil none (.node .nil none (.node .nil (some ([(1,0),(2,0),(3,0),(4,0),(5,0),(6,0),(7,0),(0,1),(8,0)])) .nil))))) .nil) none .nil) (some ((.node .nil none (.node .nil none (.node .nil (some ([(2,0),(3,0),(0,1),(1,1),(5,0),(6,0),(4,1),(7,0),(8,0)])) .nil))))) .nil)) (some ((.node .nil none (.node .nil none (.node (.node .nil (some ([(0,0),(1,0),(2,1),(3,0),(4,0),(5,0)])) .nil) none .nil))))) (.node (.node (.node .nil none (.node .nil (some ((.node .nil none (.node .nil none (.node (.node .nil (some ([(0,0),(1,0),(6,0),(7,0),(8,0),(9,0),(10,0),(11,0),(12,0),(13,0),(14,0),(15,0),(16,0),(17,0),(2,1),(3,1),(4,1),(5,1),(18,0),(19,0)])) .nil) none .nil))))) .nil)) none (.node .nil (some ((.node (.node (.node (.node .nil (some ([(0,0),(1,0),(2,0),(6,0),(7,0),(8,0),(11,0),(12,0),(3,1),(4,1),(5,1),(9,1),(10,1),(13,0),(14,0)])) (.node .nil (some ([(0,0),(1,0),(2,0),(6,0),(7,0),(8,0),(11,0),(12,0),(3,1),(4,1),(5,1),(9,1),(10,1),(13,0),(14,0)])) .nil)) none .nil) none (.node (.node (.node .nil (some ([(0,0),(1,0),(2,0),(6,0),(7,0),(8,0),(11,0),(12,0),(3,1),(4,1),(5,1),(9,1),(10,1),(13,0),(14,0)])) .nil) (some ([(0,0),(1,0),(2,0),(6,0),(7,0),(8,0),(11,0),(12,0),(3,1),(4,1),(5,1),(9,1),(10,1),(13,0),(14,0)])) .nil) none .nil)) none (.node (.node (.node .nil (some ([(0,0),(1,0),(2,0),(6,0),(7,0),(8,0),(11,0),(12,0),(3,1),(4,1),(5,1),(9,1),(10,1),(13,0),(14,0)])) .nil) none .nil) none (.node (.node (.node .nil (some ([(0,0),(1,0),(2,0),(6,0),(7,0),(8,0),(11,0),(12,0),(3,1),(4,1),(5,1),(9,1),(10,1),(13,0),(14,0)])) .nil) (some ([(0,0),(1,0),(2,0),(6,0),(7,0),(8,0),(11,0),(12,0),(3,1),(4,1),(5,1),(9,1),(10,1),(13,0),(14,0)])) .nil) none .nil))))) .nil)) none .nil)))) none (.node (.node (.node (.node (.node (.node .nil (some ((.node (.node .nil none (.node (.node (.node .nil (some ([(0,0),(1,0),(2,1),(3,1),(4,1),(5,0),(6,0)])) .nil) none .nil) none .nil)) none .nil))) .nil) none .nil) none (.node (.node (.node .nil (some ((.node (.node (.node .nil (some ([(4,0),(5,0),(0,1),(1,1),(2,1),(3,1),(6,0),(7,0)])) .nil) none (.node .nil (some ([(5,0),(6,0),(1,1),(2,1),(3,1),(4,1),(7,0),(8,0),(0,2),(9,0),(10,0),(11,0)])) .nil)) none (.node .nil (some ([(0,0),(1,0),(2,0),(3,0),(4,0),(5,0),(6,0),(7,0),(8,0),(9,0),(10,0),(11,0),(12,0)])) .nil)))) .nil) none (.node .nil (some ((.node (.node (.node (.node .nil none (.node .nil (some ([(0,0),(1,0),(5,0),(6,0),(7,0),(8,0),(9,0),(10,0),(11,0),(12,0),(13,0),(14,0),(15,0),(2,1),(3,1),(4,1),(16,0),(17,0)])) .nil)) none (.node .nil (some ([(0,0),(1,0),(5,0),(6,0),(7,0),(8,0),(9,0),(10,0),(11,0),(12,0),(13,0),(14,0),(15,0),(2,1),(3,1),(4,1),(16,0),(17,0)])) .nil)) none (.node (.node (.node .nil (some ([(0,0),(1,0),(5,0),(6,0),(7,0),(8,0),(9,0),(10,0),(11,0),(12,0),(13,0),(14,0),(15,0),(2,1),(3,1),(4,1),(16,0),(17,0)])) .nil) none .nil) (some ([(0,0),(1,0),(2,0),(3,0),(4,0),(5,0),(6,0),(7,0),(8,0),(9,0),(10,0),(11,0),(12,0),(13,0),(14,0),(15,0),(16,0),(17,0)])) .nil)) none (.node (.node (.node (.node .nil (some ([(0,0),(1,0),(2,0),(3,0),(4,0),(5,0),(6,0),(7,0),(8,0),(9,0),(10,0),(11,0),(12,0)])) .nil) none .nil) none .nil) none (.node .nil none (.node (.node .nil (some ([(0,0),(1,0),(2,0),(3,0),(4,0),(5,0),(6,0),(7,0),(8,0),(9,0),(10,0),(11,0),(12,0)])) .nil) none .nil)))))) .nil)) none .nil)) none (.node (.node (.node .nil none (.node .nil (some ((.node .nil none (.node .nil none (.node .nil (some ([(2,0),(3,0),(0,1),(1,1),(4,0),(5,0),(6,0),(7,0)])) .nil))))) .nil)) (some ((.node (.node .nil (some ([(0,0),(1,0),(2,0),(3,0),(4,0),(5,0),(6,0),(7,0),(8,0),(9,0),(10,0),(11,0)])) .nil) none .nil))) .nil) none (.node (.node .nil none (.node .nil (some ((.node (.node (.node .nil (some ([(0,0),(1,0),(2,0),(3,0),(4,0),(5,0),(6,0),(7,0),(8,0),(9,0)])) .nil) (some ([(0,0),(1,0),(2,0),(3,0),(4,0),(5,0),(6,0),(7,0),(8,0),(9,0)])) .nil) none (.node .nil (some ([(0,0),(1,0),(2,0),(3,0),(4,0),(5,0),(6,0),(7,0),(8,0),(9,0)])) .nil)))) .nil)) none .nil))) none (.node (.node (.node .nil none (.node .nil (some ((.node (.node .nil none (.node (.node .nil none (.node .nil (some ([(4,0),(5,0),(6,1),(7,0),(0,2),(1,2),(2,2),(3,2),(8,0)])) .nil)) none .nil)) none (.node (.node .nil none (.node .nil none (.node .nil (some ([(0,0),(1,0),(2,0),(3,0),(4,0),(5,0),(6,0),(7,0),(8,0),(9,0),(10,0),(11,0),(12,0),(13,0),(14,0)])) .nil))) none .nil)))) .nil)) none (.node .nil (some ((.node (.node .nil none (.node .nil (some ([(4,0),(0,1),(1,1),(5,0),(2,2),(3,2),(6,0)])) .nil)) none .nil))) .nil)) none (.node (.node (.node .nil none (.node .nil (some ((.node .nil none (.node .nil none (.node (.node .nil (some ([(0,0),(1,0),(6,0),(7,0),(8,0),(9,0),(10,0),(11,0),(12,0),(13,0),(14,0),(15,0),(16,0),(17,0),(2,1),(3,1),(4,1),(5,1),(18,0),(19,0)])) .nil) none .nil))))) .nil)) none .nil) none (.node (.node .nil (some ((.node .nil (some ([(0,0),(1,0),(2,0),(3,0),(4,0),(5,0),(6,0),(7,0),(8,0),(9,1),(10,1),(11,1),(12,1),(13,1),(14,0),(15,0)])) .nil))) .nil) (some ((.node (.node (.node .nil (some ([(0,0),(1,0),(2,0),(3,0),(4,0),(5,0),(6,0),(7,0),(8,0),(9,0),(10,0),(11,0),(12,0)])) .nil) none .nil) none .nil))) .nil)))) none (.node (.node (.node (.node .nil (some ((.node .nil none (.node .nil none (.node .nil (some ([(0,0),(1,0),(2,0),(3,0),(4,0),(5,0),(6,0),(7,0),(8,0)])) .nil))))) .nil) (some ((.node (.node (.node (.node .nil (some ([(0,0),(1,0),(2,0),(3,0),(4,0),(6,1),(7,1),(8,1),(9,1),(10,0),(13,2),(14,2),(15,2),(16,2),(17,0),(5,2),(11,1),(12,1),(18,0),(19,0),(20,0)])) .nil) (some ([(4,0),(5,0),(6,0),(7,0),(8,0),(0,1),(1,1),(2,1),(3,1),(9,0),(10,0),(11,0)])) .nil) none (.node (.node .nil (some ([(0,0),(1,0),(2,0),(3,0),(4,0),(7,1),(8,1),(9,0),(5,1),(6,1),(10,0),(11,0),(12,0)])) .nil) (some ([(3,0),(4,0),(5,0),(6,0),(7,0),(0,1),(1,1),(2,1),(8,0),(9,0),(10,0)])) .nil)) none (.node (.node .nil none (.node (.node .nil (some ([(0,0),(1,0),(2,0),(9,1),(10,1),(11,0),(3,1),(4,1),(5,2),(6,2),(7,1),(8,1),(12,0),(13,0),(14,0)])) .nil) none .nil)) none (.node .nil none (.node .nil (some ([(0,0),(1,0),(2,0),(3,0),(4,0),(7,1),(8,1),(9,0),(5,1),(6,1),(10,0),(11,0),(12,0)])) .nil)))))) (.node (.node .nil none (.node .nil (some ((.node (.node (.node (.node (.node .nil (some ([(0,0),(1,0),(2,0),(3,0),(4,0),(5,0),(6,0),(7,0),(8,0),(9,0),(10,0),(11,0),(12,0),(13,0),(14,0),(15,0),(16,0)])) .nil) none .nil) (some ([(0,0),(1,0),(2,0),(3,0),(4,0),(5,0),(6,0),(7,0),(8,0),(9,0),(10,0),(11,0),(12,0),(13,0),(14,0),(15,0)])) .nil) (some ([(0,0),(1,0),(4,0),(5,0),(6,0),(7,0),(8,0),(9,0),(10,0),(11,0),(12,0),(13,0),(2,1),(3,1),(14,0),(15,0)])) (.node .nil (some ([(0,0),(1,0),(2,0),(3,0),(4,0),(5,0),(6,0),(7,0),(8,0),(9,0),(10,0),(11,0),(12,0),(13,0),(14,0),(15,0),(16,0)])) (.node (.node .nil (some ([(0,0),(1,0),(4,0),(5,0),(6,0),(7,0),(8,0),(9,0),(10,0),(11,0),(12,0),(13,0),(2,1),(3,1),(14,0),(15,0)])) .nil) (some ([(0,0),(1,0),(2,0),(3,0),(4,0),(5,0),(6,0),(7,0),(8,0),(9,0),(10,0),(11,0),(12,0),(13,0),(14,0),(15,0)])) .nil))) none (.node (.node (.node .nil (some ([(0,0),(1,0),(4,0),(5,0),(6,0),(7,0),(8,0),(9,0),(10,0),(11,0),(12,0),(13,0),(2,1),(3,1),(14,0),(15,0)])) .nil) none .nil) none (.node (.node (.node .nil (some ([(0,0),(1,0),(4,0),(5,0),(6,0),(7,0),(8,0),(9,0),(10,0),(11,0),(12,0),(13,0),(2,1),(3,1),(14,0),(15,0)])) .nil) (some ([(0,0),(1,0),(4,0),(5,0),(6,0),(7,0),(8,0),(9,0),(10,0),(11,0),(12,0),(13,0),(2,1),(3,1),(14,0),(15,0)])) .nil) none .nil))))) .nil)) none .nil)) none (.node .nil (some ((.node (.node (.node (.node .nil (some ([(1,0),(2,0),(0,1),(3,1),(4,1),(5,0),(6,9),(7,0),(8,0)])) .nil) (some ([(2,0),(0,1),(3,0),(1,2),(4,0)])) .nil) none .nil) none .nil))) (.node .nil none (.node (.node .nil (some ((.node (.node .nil (some ([(1,0),(2,0),(0,1),(3,1),(4,0),(5,0),(6,0)])) .nil) none .nil))) .nil) none .nil)))) none (.node (.node (.node .nil (some ((.node (.node .nil none (.node .nil none (.node (.node .nil (some ([(0,0),(1,0),(2,0),(3,0),(4,0),(5,0),(6,0),(7,0),(8,1),(9,1),(10,1),(11,1),(12,1),(13,1),(14,1),(15,0),(16,1),(17,0),(18,0),(19,0)])) .nil) none .nil))) none (.node (.node (.node (.node .nil (some ([(2,0),(3,0),(4,0),(5,0),(0,1),(1,1),(6,0),(7,0),(8,0),(9,0)])) .nil) none .nil) none .nil) none .nil)))) .nil) none (.node (.node .nil none (.node .nil (some ((.node (.node (.node .nil (some ([(0,0),(1,0),(2,0),(3,0),(4,0),(5,0),(6,0),(7,0),(8,0),(9,0),(10,0),(11,0),(12,0),(13,0),(14,0),(15,0),(16,0),(17,0),(18,0),(19,0),(20,0),(21,0)])) .nil) none (.node .nil (some ([(0,0),(1,0),(2,0),(3,0),(4,0),(5,0),(6,0),(7,0),(8,0),(9,0),(10,0),(11,0),(12,0),(13,0),(14,0),(15,0)])) .nil)) none (.node .nil none (.node .nil (some ([(0,0),(1,0),(2,0),(3,0),(8,0),(9,0),(10,0),(11,0),(12,0),(13,0),(14,0),(15,0),(16,0),(17,0),(18,0),(19,0),(20,0),(21,0),(4,1),(5,1),(6,1),(7,1),(22,0),(23,0)])) .nil))))) .nil)) none .nil)) none (.node (.node (.node (.node .nil (some ((.node (.node .nil (some ([(2,0),(3,0),(4,0),(5,0),(6,0),(7,0),(8,0),(9,0),(10,1),(11,1),(12,1),(13,1),(14,1),(15,0),(0,2),(16,0),(17,0),(18,0),(1,3),(19,0),(20,0),(21,0)])) .nil) none .nil))) .nil) none .nil) none .nil) none .nil)))))
def anT:Tr (Tr (List Nat)):=(.node (.node (.node (.node (.node (.node (.node .nil (some ((.node .nil none (.node (.node .nil none (.node .nil (some ([0,0,2,6,14,0,32,96,254,511,1023,2047])) .nil)) none .nil)))) .nil) none .nil) none (.node (.node (.node .nil (some ((.node (.node (.node .nil (some ([0,1,3,7,0,16,63,127,0,256,768,1792,0,4096,16128,32512,65535])) .nil) none (.node (.node .nil (some ([0,0,2,6,14,0,32,96,224,480,992,2046,4095,8191,16383])) .nil) none (.node .nil (some ([0,1,3,7,0,16,63,127,255,511,1023])) .nil))) none (.node (.node (.node .nil (some ([0,1,3,7,0,16,48,112,240,496,1023,2047,4095])) .nil) none (.node .nil (some ([0,0,0,1,9,25,63,127,255])) .nil)) none (.node .nil (some ([0,0,2,6,14,0,32,96,224,480,992,2016,4094,8191,16383,32767])) .nil))))) .nil) none (.node .nil (some ((.node (.node (.node .nil (some ([0,0,0,0,0,0,48,112,0,0,768,1792,4083,8179,16383,32767])) .nil) none .nil) none .nil))) .nil)) none .nil)) none (.node (.node (.node .nil none (.node .nil (some ((.node (.node (.node .nil none (.node .nil (some ([0,1,0,0,8,28,63,127,255])) .nil)) none .nil) none .nil))) .nil)) none .nil) none (.node .nil none (.node .nil (some ((.node .nil none (.node (.node (.node .nil (some ([0,0,0,0,8,28,62,127,255])) .nil) (some ([0,1,3,0,8,24,56,120,248,504,1023,2047,4095,4095,8191,32767])) .nil) none .nil)))) .nil)))) none (.node (.node (.node (.node .nil (some ((.node (.node (.node .nil none (.node .nil (some ([0,1,3,0,0,16,48,120,248,511,1023,2047])) (.node .nil (some ([0,1,0,4,0,28,60,124,255,511,1023])) .nil))) none .nil) none (.node (.node (.node (.node (.node .nil (some ([0,1,0,0,8,28,60,127,255,511])) .nil) none .nil) none .nil) none .nil) none .nil)))) .nil) none .nil) (some ((.node (.node .nil none (.node .nil none (.node .nil none (.node .nil (some ([0,1,3,7,15,0,32,103,255,511,1023])) .nil)))) none (.node (.node (.node (.node .nil (some ([0,1,3,7,15,0,32,96,224,480,1023,2047,4095])) .nil) none .nil) none (.node (.node .nil (some ([0,1,3,7,15,31,0,64,192,479,1023,2047,4095])) .nil) none .nil)) none (.node (.node (.node .nil (some ([0,1,3,7,15,31,0,64,192,448,991,2047,4095,8191])) .nil) none (.node .nil (some ([0,0,2,0,14,30,62,126,254,0,512,0,2048,7680,15872,32382,65534,131070,262143,524287])) .nil)) none (.node .nil none (.node .nil (some ([0,1,3,7,15,31,63,0,128,384,896,2047,4095,0,8192,24576,57344,122911,262143,524287,1048575])) .nil))))))) (.node .nil none (.node (.node .nil (some ((.node (.node .nil none (.node (.node .nil (some ([0,0,2,6,15,31,63])) .nil) none .nil)) none (.node (.node .nil (some ([0,1,0,4,15,31,63])) .nil) none (.node .nil (some ([0,0,2,7,15,31])) .nil))))) .nil) none .nil))) none (.node (.node (.node .nil none (.node .nil (some ((.node .nil none (.node (.node .nil (some ([0,0,3,7,15,15,15,111,239,15,15,1039,3599,7695,16383,32767,65535])) .nil) none (.node .nil (some ([0,0,0,0,8,0,0,64,224,480,0,0,3072,7168,16355,32739,65535,131071])) .nil))))) .nil)) none .nil) none (.node (.node .nil none (.node .nil (some ((.node (.node .nil (some ([0,0,0,6,14,0,0,96,224,511,1023])) .nil) none .nil))) .nil)) none .nil)))) none (.node (.node (.node (.node (.node .nil (some ((.node (.node .nil none (.node .nil (some ([0,1,3,7,15,15,47,15,255,15,527,1551,4095,8191,16383,32767,32767,32767,262143,524287,1048575,2097151])) .nil)) none .nil))) (.node .nil (some ((.node (.node .nil none (.node (.node (.node .nil (some ([0,1,3,7,7,7,39,119,247,7,7,1543,3591,8191,16383,32767,65535])) .nil) none .nil) none .nil)) none .nil))) .nil)) (some ((.node .nil none (.node .nil none (.node .nil (some ([0,1,0,4,12,31,63,127])) .nil))))) .nil) none (.node (.node (.node .nil (some ((.node .nil none (.node .nil (some ([0,0,2,6,14,30,63,127,255,511,1023,2047,255,8191,16383,32767,65535,131071,262143,524287,1048575,2097151,4194303,524287,16777215,33554431,67108863,524287,134742015,536870911,1073741823])) .nil)))) .nil) (some ((.node (.node (.node (.node (.node .nil (some ([0,0,0,4,14,0,32,126,255,511,1023])) .nil) none .nil) none .nil) none .nil) none (.node (.node (.node .nil (some ([0,0,0,4,1,17,49,127,255,511])) .nil) none .nil) (some ([0,0,0,4,1,17,49,127,255,511])) .nil)))) (.node .nil (some ((.node (.node (.node .nil (some ([0,0,3,7,15,15,15,111,239,15,15,1551,3599,8191,16383,32767,65535])) .nil) (some ([0,0,0,0,0,0,48,112,0,0,768,1792,4083,8179,16383,32767])) (.node .nil (some ([0,0,3,7,15,15,15,111,239,15,15,1551,3599,8191,16383,32767])) .nil)) none (.node (.node (.node .nil (some ([0,0,0,0,0,0,48,112,0,0,768,1792,4083,8179,16383,32767])) .nil) none .nil) none .nil)))) .nil)) none .nil)) none (.node .nil none (.node .nil none (.node (.node .nil (some ((.node (.node .nil (some ([0,0,2,0,15,31,63])) .nil) none .nil))) .nil) none .nil)))) none (.node (.node .nil none (.node (.node (.node .nil (some ((.node .nil none (.node .nil none (.node .nil (some ([0,0,2,6,14,0,62,126,255])) .nil))))) .nil) none .nil) (some ((.node .nil none (.node .nil none (.node .nil (some ([0,1,0,4,12,15,47,127,255])) .nil))))) .nil)) (some ((.node .nil none (.node .nil none (.node (.node .nil (some ([0,1,0,7,15,31])) .nil) none .nil))))) (.node (.node (.node .nil none (.node .nil (some ((.node .nil none (.node .nil none (.node (.node .nil (some ([0,0,0,0,0,24,0,0,0,384,960,1984,0,0,12288,28672,65475,131011,262143,524287])) .nil) none .nil))))) .nil)) none (.node .nil (some ((.node (.node (.node (.node .nil (some ([0,0,2,0,0,16,0,64,192,0,512,455,2503,8191,16383])) (.node .nil (some ([0,0,2,0,0,16,0,64,192,0,512,455,2503,8191,16383])) .nil)) none .nil) none (.node (.node (.node .nil (some ([0,0,2,0,0,16,0,64,192,0,512,455,2503,8191,16383])) .nil) (some ([0,0,2,0,0,16,0,64,192,0,512,455,2503,8191,16383])) .nil) none .nil)) none (.node (.node (.node .nil (some ([0,0,2,0,0,16,0,64,192,0,512,455,2503,8191,16383])) .nil) none .nil) none (.node (.node (.node .nil (some ([0,0,2,0,0,16,0,64,192,0,512,455,2503,8191,16383])) .nil) (some ([0,0,2,0,0,16,0,64,192,0,512,455,2503,8191,16383])) .nil) none .nil))))) .nil)) none .nil)))) none (.node (.node (.node (.node (.node (.node .nil (some ((.node (.node .nil none (.node (.node (.node .nil (some ([0,1,0,4,12,31,63])) .nil) none .nil) none .nil)) none .nil))) .nil) none .nil) none (.node (.node (.node .nil (some ((.node (.node (.node .nil (some ([0,1,3,7,0,16,63,127])) .nil) none (.node .nil (some ([0,0,2,6,14,0,32,96,254,511,1023,2047])) .nil)) none (.node .nil (some ([0,1,3,7,0,16,48,112,255,511,1023,2047,4095])) .nil)))) .nil) none (.node .nil (some ((.node (.node (.node (.node .nil none (.node .nil (some ([0,0,0,0,8,0,0,64,224,480,0,0,3072,7168,16355,32739,65535,131071])) .nil)) none (.node .nil (some ([0,0,0,0,8,0,0,64,224,480,0,0,3072,7168,16355,32739,65535,131071])) .nil)) none (.node (.node (.node .nil (some ([0,0,0,0,8,0,0,64,224,480,0,0,3072,7168,16355,32739,65535,131071])) .nil) none .nil) (some ([0,0,3,7,15,15,15,111,239,15,15,1039,3599,7695,16383,32767,65535,131071])) .nil)) none (.node (.node (.node (.node .nil (some ([0,0,0,6,14,0,0,64,224,480,1023,2047,4095])) .nil) none .nil) none .nil) none (.node .nil none (.node (.node .nil (some ([0,0,0,6,14,0,0,64,224,480,1023,2047,4095])) .nil) none .nil)))))) .nil)) none .nil)) none (.node (.node (.node .nil none (.node .nil (some ((.node .nil none (.node .nil none (.node .nil (some ([0,1,0,4,12,31,63,127])) .nil))))) .nil)) (some ((.node (.node .nil (some ([0,1,3,7,15,0,32,96,224,480,1023,2047])) .nil) none .nil))) .nil) none (.node (.node .nil none (.node .nil (some ((.node (.node (.node .nil (some ([0,1,3,0,8,24,56,127,255,511])) .nil) (some ([0,1,3,0,8,24,56,127,255,511])) .nil) none (.node .nil (some ([0,1,3,0,8,24,56,127,255,511])) .nil)))) .nil)) none .nil))) none (.node (.node (.node .nil none (.node .nil (some ((.node (.node .nil none (.node (.node .nil none (.node .nil (some ([0,1,3,7,0,16,0,112,255])) .nil)) none .nil)) none (.node (.node .nil none (.node .nil none (.node .nil (some ([0,0,2,6,14,0,32,96,224,510,0,0,3072,7168,16383])) .nil))) none .nil)))) .nil)) none (.node .nil (some ((.node (.node .nil none (.node .nil (some ([0,1,0,4,0,19,63])) .nil)) none .nil))) .nil)) none (.node (.node (.node .nil none (.node .nil (some ((.node .nil none (.node .nil none (.node (.node .nil (some ([0,0,0,0,0,24,0,0,0,384,960,1984,0,0,12288,28672,65475,131011,262143,524287])) .nil) none .nil))))) .nil)) none .nil) none (.node (.node .nil (some ((.node .nil (some ([0,1,3,7,15,31,0,127,255,0,512,1536,3584,7680,16383,32767])) .nil))) .nil) (some ((.node (.node (.node .nil (some ([0,1,3,7,15,0,32,96,224,480,1023,0,4095])) .nil) none .nil) none .nil))) .nil)))) none (.node (.node (.node (.node .nil (some ((.node .nil none (.node .nil none (.node .nil (some ([0,0,3,7,0,0,48,112,255])) .nil))))) .nil) (some ((.node (.node (.node (.node .nil (some ([0,1,3,7,15,31,0,64,192,448,991,2047,4095,0,8192,24576,57344,124895,262143,524287,1048575])) .nil) (some ([0,1,3,7,0,16,48,112,240,511,1023,2047])) .nil) none (.node (.node .nil (some ([0,1,3,7,15,31,63,0,128,415,1023,2047,4095])) .nil) (some ([0,1,3,0,8,24,56,120,255,511,1023])) .nil)) none (.node (.node .nil none (.node (.node .nil (some ([0,1,3,7,15,0,32,127,255,0,512,1543,4095,8191,16383])) .nil) none .nil)) none (.node .nil none (.node .nil (some ([0,1,3,7,15,31,63,0,128,415,1023,2047,4095])) .nil)))))) (.node (.node .nil none (.node .nil (some ((.node (.node (.node (.node (.node .nil (some ([0,0,3,7,15,15,15,111,239,15,15,1551,3599,8191,16383,32767,65535])) .nil) none .nil) (some ([0,0,3,7,15,15,15,111,239,15,15,1551,3599,8191,16383,32767])) .nil) (some ([0,0,0,0,0,0,48,112,0,0,768,1792,4083,8179,16383,32767])) (.node .nil (some ([0,0,3,7,15,15,15,111,239,15,15,1551,3599,8191,16383,32767,65535])) (.node (.node .nil (some ([0,0,0,0,0,0,48,112,0,0,768,1792,4083,8179,16383,32767])) .nil) (some ([0,0,3,7,15,15,15,111,239,15,15,1551,3599,8191,16383,32767])) .nil))) none (.node (.node (.node .nil (some ([0,0,0,0,0,0,48,112,0,0,768,1792,4083,8179,16383,32767])) .nil) none .nil) none (.node (.node (.node .nil (some ([0,0,0,0,0,0,48,112,0,0,768,1792,4083,8179,16383,32767])) .nil) (some ([0,0,0,0,0,0,48,112,0,0,768,1792,4083,8179,16383,32767])) .nil) none .nil))))) .nil)) none .nil)) none (.node .nil (some ((.node (.node (.node (.node .nil (some ([0,0,2,1,0,31,63,127,255])) (.node (.node (.node .nil none (.node (.node (.node .nil none (.node (.node (.node (.node (.node .nil none (.node (.node .nil none (.node .nil none (.node .nil none (.node .nil (some ([0,0,2,1,0,31,63,383,63])) .nil)))) none .nil)) none .nil) none .nil) none .nil) none .nil)) none .nil) none .nil)) none .nil) none .nil)) (some ([0,0,0,5,15])) .nil) none .nil) none .nil))) (.node .nil none (.node (.node .nil (some ((.node (.node .nil (some ([0,0,2,0,15,31,63])) .nil) none .nil))) .nil) none .nil)))) none (.node (.node (.node .nil (some ((.node (.node .nil none (.node .nil none (.node (.node .nil (some ([0,0,2,0,8,24,56,127,0,0,512,0,2048,6144,14336,32767,255,131071,262143,524287])) .nil) none .nil))) none (.node (.node (.node (.node .nil (some ([0,1,0,0,8,28,60,127,255,511])) .nil) none .nil) none .nil) none .nil)))) .nil) none (.node (.node .nil none (.node .nil (some ((.node (.node (.node .nil (some ([0,1,0,7,15,31,31,31,31,415,991,2015,31,31,31,24607,57375,127007,258079,524287,1048575,2097151])) .nil) none (.node .nil (some ([0,0,0,0,12,30,62,0,0,0,768,1920,3968,8191,16383,32767])) .nil)) none (.node .nil none (.node .nil (some ([0,0,0,6,0,0,0,96,0,0,0,1536,3840,7936,0,0,0,98304,245760,507904,1048335,2096911,4194303,8388607])) .nil))))) .nil)) none .nil)) none (.node (.node (.node (.node .nil (some ((.node (.node .nil (some ([0,0,0,4,12,28,0,64,192,508,0,1024,3072,7168,0,32764,65533,131069,262141,524287,1048575,2097151])) .nil) none .nil))) .nil) none .nil) none .nil) none .nil)))))
def an (f:FuncId) (id:Nat):List Nat:=match anT.get f with | some t=>(match t.get id with | some l=>l | none=>[]) | none=>[]
noncomputable def tab:Tab where
 ty:=tyT.get
 fn f:=match fnT.get f with | some _=>Tryz.prog.funcs[f]? | none=>none
 ng:=14
 dr f id:=match drT.get f with | some t=>t.get id | none=>none
 ext:=ext0
 quiet:=Z6g
 alt f id:=if Nat.beq f 26&&Nat.beq id 7 then some ⟨[(1,0),(2,0),(0,1),(3,1),(4,1),(5,0)],[(6,9)],7,8,35,2⟩ else none
 init n0 w0 := n0 = w0.heap.size ∧ Lib.TabIs Tryz.prog w0 "internal/strconv.uint64pow10" .u64 Lib.pow10Tab
theorem Zd8:tab.ng=14:=Eq.trans rfl rfl
theorem ty1:tab.ty 1=some ⟨.other,1,8,[.nilf],false⟩:=Eq.trans rfl rfl
theorem ty2:tab.ty 2=some ⟨.int .i64,1,8,[.int .i64 0],false⟩:=Eq.trans rfl rfl
theorem ty3:tab.ty 3=some ⟨.int .i64,1,8,[.int .i64 0],false⟩:=Eq.trans rfl rfl
theorem ty4:tab.ty 4=some ⟨.bool,1,1,[.bool false],false⟩:=Eq.trans rfl rfl
theorem ty5:tab.ty 5=some ⟨.int .u8,1,1,[.int .u8 0],false⟩:=Eq.trans rfl rfl
theorem ty6:tab.ty 6=some ⟨.int .u8,1,1,[.int .u8 0],false⟩:=Eq.trans rfl rfl
theorem ty7:tab.ty 7=some ⟨.struct [(0,2),(1,3),(2,4),(3,6)],4,24,[.int .i64 0,.int .i64 0,.bool false,.int .u8 0],true⟩:=Eq.trans rfl rfl
theorem ty8:tab.ty 8=some ⟨.struct [(0,2),(1,3),(2,4),(3,6)],4,24,[.int .i64 0,.int .i64 0,.bool false,.int .u8 0],false⟩:=Eq.trans rfl rfl
theorem ty9:tab.ty 9=some ⟨.str,1,16,[.str []],false⟩:=Eq.trans rfl rfl
theorem ty10:tab.ty 10=some ⟨.str,1,16,[.str []],false⟩:=Eq.trans rfl rfl
theorem ty11:tab.ty 11=some ⟨.str,1,16,[.str []],false⟩:=Eq.trans rfl rfl
theorem ty12:tab.ty 12=some ⟨.int .u64,1,8,[.int .u64 0],false⟩:=Eq.trans rfl rfl
theorem ty13:tab.ty 13=some ⟨.struct [(0,9),(1,12)],2,24,[.str [],.int .u64 0],false⟩:=Eq.trans rfl rfl
theorem ty14:tab.ty 14=some ⟨.struct [(0,9),(1,12)],2,24,[.str [],.int .u64 0],false⟩:=Eq.trans rfl rfl
theorem ty15:tab.ty 15=some ⟨.ptr 270,1,8,[.nilp],false⟩:=Eq.trans rfl rfl
theorem ty16:tab.ty 16=some ⟨.ptr 273,1,8,[.nilp],false⟩:=Eq.trans rfl rfl
theorem ty17:tab.ty 17=some ⟨.ptr 280,1,8,[.nilp],false⟩:=Eq.trans rfl rfl
theorem ty18:tab.ty 18=some ⟨.struct [(0,17)],1,8,[.nilp],false⟩:=Eq.trans rfl rfl
theorem ty19:tab.ty 19=some ⟨.struct [(0,17)],1,8,[.nilp],false⟩:=Eq.trans rfl rfl
theorem ty20:tab.ty 20=some ⟨.iface,1,16,[.nili],false⟩:=Eq.trans rfl rfl
theorem ty21:tab.ty 21=some ⟨.int .i32,1,4,[.int .i32 0],false⟩:=Eq.trans rfl rfl
theorem ty22:tab.ty 22=some ⟨.slice 42,1,24,[.nils],false⟩:=Eq.trans rfl rfl
theorem ty23:tab.ty 23=some ⟨.other,1,8,[.nilf],false⟩:=Eq.trans rfl rfl
theorem ty24:tab.ty 24=some ⟨.slice 30,1,24,[.nils],false⟩:=Eq.trans rfl rfl
theorem ty25:tab.ty 25=some ⟨.other,1,8,[.nilf],false⟩:=Eq.trans rfl rfl
theorem ty26:tab.ty 26=some ⟨.other,1,8,[.nilf],false⟩:=Eq.trans rfl rfl
theorem ty27:tab.ty 27=some ⟨.int .i64,1,8,[.int .i64 0],false⟩:=Eq.trans rfl rfl
theorem ty28:tab.ty 28=some ⟨.slice 35,1,24,[.nils],false⟩:=Eq.trans rfl rfl
theorem ty29:tab.ty 29=some ⟨.struct [(0,27),(1,9),(2,28),(3,24),(4,24),(5,3)],6,104,[.int .i64 0,.str [],.nils,.nils,.nils,.int .i64 0],false⟩:=Eq.trans rfl rfl
theorem ty30:tab.ty 30=some ⟨.struct [(0,27),(1,9),(2,28),(3,24),(4,24),(5,3)],6,104,[.int .i64 0,.str [],.nils,.nils,.nils,.int .i64 0],false⟩:=Eq.trans rfl rfl
theorem ty31:tab.ty 31=some ⟨.other,1,8,[.nilf],false⟩:=Eq.trans rfl rfl
theorem ty32:tab.ty 32=some ⟨.int .i64,1,8,[.int .i64 0],false⟩:=Eq.trans rfl rfl
theorem ty33:tab.ty 33=some ⟨.slice 9,1,24,[.nils],false⟩:=Eq.trans rfl rfl
theorem ty34:tab.ty 34=some ⟨.struct [(0,32),(1,2),(2,9),(3,28),(4,33),(5,24)],6,104,[.int .i64 0,.int .i64 0,.str [],.nils,.nils,.nils],false⟩:=Eq.trans rfl rfl
theorem ty35:tab.ty 35=some ⟨.struct [(0,32),(1,2),(2,9),(3,28),(4,33),(5,24)],6,104,[.int .i64 0,.int .i64 0,.str [],.nils,.nils,.nils],false⟩:=Eq.trans rfl rfl
theorem ty36:tab.ty 36=some ⟨.other,1,8,[.nilf],false⟩:=Eq.trans rfl rfl
theorem ty37:tab.ty 37=some ⟨.other,1,8,[.nilf],false⟩:=Eq.trans rfl rfl
theorem ty38:tab.ty 38=some ⟨.other,1,8,[.nilf],false⟩:=Eq.trans rfl rfl
theorem ty39:tab.ty 39=some ⟨.other,1,8,[.nilf],false⟩:=Eq.trans rfl rfl
theorem ty40:tab.ty 40=some ⟨.int .u16,1,2,[.int .u16 0],false⟩:=Eq.trans rfl rfl
theorem ty41:tab.ty 41=some ⟨.struct [(0,5),(1,5),(2,40),(3,5)],4,6,[.int .u8 0,.int .u8 0,.int .u16 0,.int .u8 0],true⟩:=Eq.trans rfl rfl
theorem ty42:tab.ty 42=some ⟨.struct [(0,5),(1,5),(2,40),(3,5)],4,6,[.int .u8 0,.int .u8 0,.int .u16 0,.int .u8 0],true⟩:=Eq.trans rfl rfl
theorem ty43:tab.ty 43=some ⟨.other,1,8,[.nilf],false⟩:=Eq.trans rfl rfl
theorem ty44:tab.ty 44=some ⟨.other,1,8,[.nilf],false⟩:=Eq.trans rfl rfl
theorem ty45:tab.ty 45=some ⟨.other,1,8,[.nilf],false⟩:=Eq.trans rfl rfl
theorem ty46:tab.ty 46=some ⟨.other,1,8,[.nilf],false⟩:=Eq.trans rfl rfl
theorem ty47:tab.ty 47=some ⟨.int .i64,1,8,[.int .i64 0],false⟩:=Eq.trans rfl rfl
theorem ty49:tab.ty 49=some ⟨.other,1,8,[.nilf],false⟩:=Eq.trans rfl rfl
theorem ty50:tab.ty 50=some ⟨.other,1,8,[.nilf],false⟩:=Eq.trans rfl rfl
theorem ty51:tab.ty 51=some ⟨.slice 3,1,24,[.nils],false⟩:=Eq.trans rfl rfl
theorem ty52:tab.ty 52=some ⟨.other,1,8,[.nilf],false⟩:=Eq.trans rfl rfl
theorem ty53:tab.ty 53=some ⟨.other,1,8,[.nilf],false⟩:=Eq.trans rfl rfl
theorem ty54:tab.ty 54=some ⟨.other,1,8,[.nilf],false⟩:=Eq.trans rfl rfl
theorem ty55:tab.ty 55=some ⟨.other,1,8,[.nilf],false⟩:=Eq.trans rfl rfl
theorem ty56:tab.ty 56=some ⟨.other,1,8,[.nilf],false⟩:=Eq.trans rfl rfl
theorem ty57:tab.ty 57=some ⟨.other,1,8,[.nilf],false⟩:=Eq.trans rfl rfl
theorem ty58:tab.ty 58=some ⟨.other,1,8,[.nilf],false⟩:=Eq.trans rfl rfl
theorem ty59:tab.ty 59=some ⟨.other,1,8,[.nilf],false⟩:=Eq.trans rfl rfl
theorem ty60:tab.ty 60=some ⟨.slice 5,1,24,[.nils],false⟩:=Eq.trans rfl rfl
theorem ty61:tab.ty 61=some ⟨.other,1,8,[.nilf],false⟩:=Eq.trans rfl rfl
theorem ty62:tab.ty 62=some ⟨.other,1,8,[.nilf],false⟩:=Eq.trans rfl rfl
theorem ty63:tab.ty 63=some ⟨.other,1,8,[.nilf],false⟩:=Eq.trans rfl rfl
theorem ty64:tab.ty 64=some ⟨.other,1,8,[.nilf],false⟩:=Eq.trans rfl rfl
theorem ty65:tab.ty 65=some ⟨.ptr 67,1,8,[.nilp],false⟩:=Eq.trans rfl rfl
theorem ty66:tab.ty 66=some ⟨.struct [(0,22),(1,3)],2,32,[.nils,.int .i64 0],false⟩:=Eq.trans rfl rfl
theorem ty67:tab.ty 67=some ⟨.struct [(0,22),(1,3)],2,32,[.nils,.int .i64 0],false⟩:=Eq.trans rfl rfl
theorem ty68:tab.ty 68=some ⟨.other,1,8,[.nilf],false⟩:=Eq.trans rfl rfl
theorem ty69:tab.ty 69=some ⟨.ptr 71,1,8,[.nilp],false⟩:=Eq.trans rfl rfl
theorem ty70:tab.ty 70=some ⟨.struct [(0,69),(1,60)],2,32,[.nilp,.nils],false⟩:=Eq.trans rfl rfl
theorem ty71:tab.ty 71=some ⟨.struct [(0,69),(1,60)],2,32,[.nilp,.nils],false⟩:=Eq.trans rfl rfl
theorem ty72:tab.ty 72=some ⟨.iface,1,16,[.nili],false⟩:=Eq.trans rfl rfl
theorem ty73:tab.ty 73=some ⟨.iface,1,16,[.nili],false⟩:=Eq.trans rfl rfl
theorem ty75:tab.ty 75=some ⟨.other,1,8,[.nilf],false⟩:=Eq.trans rfl rfl
theorem ty76:tab.ty 76=some ⟨.other,1,8,[.nilf],false⟩:=Eq.trans rfl rfl
theorem ty77:tab.ty 77=some ⟨.arr 18 9,18,288,[.str [],.str [],.str [],.str [],.str [],.str [],.str [],.str [],.str [],.str [],.str [],.str [],.str [],.str [],.str [],.str [],.str [],.str []],false⟩:=Eq.trans rfl rfl
theorem ty78:tab.ty 78=some ⟨.other,1,8,[.nilf],false⟩:=Eq.trans rfl rfl
theorem ty79:tab.ty 79=some ⟨.other,1,8,[.nilf],false⟩:=Eq.trans rfl rfl
theorem ty80:tab.ty 80=some ⟨.other,1,8,[.nilf],false⟩:=Eq.trans rfl rfl
theorem ty81:tab.ty 81=some ⟨.other,1,8,[.nilf],false⟩:=Eq.trans rfl rfl
theorem ty82:tab.ty 82=some ⟨.other,1,8,[.nilf],false⟩:=Eq.trans rfl rfl
theorem ty84:tab.ty 84=some ⟨.slice 95,1,24,[.nils],false⟩:=Eq.trans rfl rfl
theorem ty88:tab.ty 88=some ⟨.struct [(0,3),(1,47)],2,16,[.int .i64 0,.int .i64 0],true⟩:=Eq.trans rfl rfl
theorem ty90:tab.ty 90=some ⟨.ptr 92,1,8,[.nilp],false⟩:=Eq.trans rfl rfl
theorem ty91:tab.ty 91=some ⟨.struct [(0,84),(1,3)],2,32,[.nils,.int .i64 0],false⟩:=Eq.trans rfl rfl
theorem ty92:tab.ty 92=some ⟨.struct [(0,84),(1,3)],2,32,[.nils,.int .i64 0],false⟩:=Eq.trans rfl rfl
theorem ty93:tab.ty 93=some ⟨.int .i64,1,8,[.int .i64 0],false⟩:=Eq.trans rfl rfl
theorem ty94:tab.ty 94=some ⟨.struct [(0,93),(1,9),(2,2),(3,3)],4,40,[.int .i64 0,.str [],.int .i64 0,.int .i64 0],true⟩:=Eq.trans rfl rfl
theorem ty95:tab.ty 95=some ⟨.struct [(0,93),(1,9),(2,2),(3,3)],4,40,[.int .i64 0,.str [],.int .i64 0,.int .i64 0],true⟩:=Eq.trans rfl rfl
theorem ty96:tab.ty 96=some ⟨.other,1,8,[.nilf],false⟩:=Eq.trans rfl rfl
theorem ty97:tab.ty 97=some ⟨.other,1,8,[.nilf],false⟩:=Eq.trans rfl rfl
theorem ty98:tab.ty 98=some ⟨.other,1,8,[.nilf],false⟩:=Eq.trans rfl rfl
theorem ty99:tab.ty 99=some ⟨.int .u64,1,8,[.int .u64 0],false⟩:=Eq.trans rfl rfl
theorem Yf6:tab.ty 105=some ⟨.ptr 107,1,8,[.nilp],false⟩:=Eq.trans rfl rfl
theorem Yab:tab.ty 106=some ⟨.struct [(0,33),(1,33)],2,48,[.nils,.nils],false⟩:=Eq.trans rfl rfl
theorem Yd2:tab.ty 107=some ⟨.struct [(0,33),(1,33)],2,48,[.nils,.nils],false⟩:=Eq.trans rfl rfl
theorem Z7o:tab.ty 108=some ⟨.other,1,8,[.nilf],false⟩:=Eq.trans rfl rfl
theorem Ye6:tab.ty 109=some ⟨.other,1,8,[.nilf],false⟩:=Eq.trans rfl rfl
theorem Z92:tab.ty 110=some ⟨.ptr 33,1,8,[.nilp],false⟩:=Eq.trans rfl rfl
theorem Yce:tab.ty 111=some ⟨.other,1,8,[.nilf],false⟩:=Eq.trans rfl rfl
theorem Ydu:tab.ty 112=some ⟨.other,1,8,[.nilf],false⟩:=Eq.trans rfl rfl
theorem Ye0:tab.ty 113=some ⟨.other,1,8,[.nilf],false⟩:=Eq.trans rfl rfl
theorem Ybu:tab.ty 114=some ⟨.ptr 5,1,8,[.nilp],false⟩:=Eq.trans rfl rfl
theorem Z7t:tab.ty 115=some ⟨.other,1,8,[.nilf],false⟩:=Eq.trans rfl rfl
theorem Ygt:tab.ty 116=some ⟨.other,1,8,[.nilf],false⟩:=Eq.trans rfl rfl
theorem Z71:tab.ty 117=some ⟨.other,1,8,[.nilf],false⟩:=Eq.trans rfl rfl
theorem Z84:tab.ty 118=some ⟨.arr 12 9,12,192,[.str [],.str [],.str [],.str [],.str [],.str [],.str [],.str [],.str [],.str [],.str [],.str []],false⟩:=Eq.trans rfl rfl
theorem Z8k:tab.ty 120=some ⟨.other,1,8,[.nilf],false⟩:=Eq.trans rfl rfl
theorem Ybt:tab.ty 121=some ⟨.struct [(0,9),(1,27)],2,24,[.str [],.int .i64 0],true⟩:=Eq.trans rfl rfl
theorem Ygu:tab.ty 122=some ⟨.arr 2 121,4,48,[.str [],.int .i64 0,.str [],.int .i64 0],false⟩:=Eq.trans rfl rfl
theorem Ya7:tab.ty 126=some ⟨.other,1,8,[.nilf],false⟩:=Eq.trans rfl rfl
theorem Ycz:tab.ty 127=some ⟨.ptr 30,1,8,[.nilp],false⟩:=Eq.trans rfl rfl
theorem Yco:tab.ty 133=some ⟨.int .u32,1,4,[.int .u32 0],false⟩:=Eq.trans rfl rfl
theorem Yeq:tab.ty 136=some ⟨.int .u64,1,8,[.int .u64 0],false⟩:=Eq.trans rfl rfl
theorem Z75:tab.ty 138=some ⟨.other,1,8,[.nilf],false⟩:=Eq.trans rfl rfl
theorem Yes:tab.ty 139=some ⟨.other,1,8,[.nilf],false⟩:=Eq.trans rfl rfl
theorem Ygv:tab.ty 140=some ⟨.arr 6 9,6,96,[.str [],.str [],.str [],.str [],.str [],.str []],false⟩:=Eq.trans rfl rfl
theorem Z8y:tab.ty 143=some ⟨.other,1,8,[.nilf],false⟩:=Eq.trans rfl rfl
theorem Ygf:tab.ty 145=some ⟨.ptr 216,1,8,[.nilp],false⟩:=Eq.trans rfl rfl
theorem Z8a:tab.ty 146=some ⟨.slice 159,1,24,[.nils],false⟩:=Eq.trans rfl rfl
theorem Ye3:tab.ty 148=some ⟨.map 194 159,1,8,[.nilm],false⟩:=Eq.trans rfl rfl
theorem Z7h:tab.ty 151=some ⟨.struct [(0,60),(1,4),(2,5)],3,32,[.nils,.bool false,.int .u8 0],false⟩:=Eq.trans rfl rfl
theorem Yaf:tab.ty 152=some ⟨.struct [(0,60),(1,4),(2,5)],3,32,[.nils,.bool false,.int .u8 0],false⟩:=Eq.trans rfl rfl
theorem Yfv:tab.ty 153=some ⟨.slice 152,1,24,[.nils],false⟩:=Eq.trans rfl rfl
theorem Yf5:tab.ty 154=some ⟨.other,1,8,[.nilf],false⟩:=Eq.trans rfl rfl
theorem Yas:tab.ty 155=some ⟨.map 159 196,1,8,[.nilm],false⟩:=Eq.trans rfl rfl
theorem Z9v:tab.ty 156=some ⟨.map 159 196,1,8,[.nilm],false⟩:=Eq.trans rfl rfl
theorem Ycn:tab.ty 157=some ⟨.other,1,8,[.nilf],false⟩:=Eq.trans rfl rfl
theorem Yep:tab.ty 158=some ⟨.other,1,8,[.nilf],false⟩:=Eq.trans rfl rfl
theorem Yby:tab.ty 162=some ⟨.other,1,8,[.nilp],false⟩:=Eq.trans rfl rfl
theorem Z9l:tab.ty 164=some ⟨.arr 24 5,24,24,[.int .u8 0,.int .u8 0,.int .u8 0,.int .u8 0,.int .u8 0,.int .u8 0,.int .u8 0,.int .u8 0,.int .u8 0,.int .u8 0,.int .u8 0,.int .u8 0,.int .u8 0,.int .u8 0,.int .u8 0,.int .u8 0,.int .u8 0,.int .u8 0,.int .u8 0,.int .u8 0,.int .u8 0,.int .u8 0,.int .u8 0,.int .u8 0],false⟩:=Eq.trans rfl rfl
theorem Ybw:tab.ty 165=some ⟨.other,1,8,[.nilf],false⟩:=Eq.trans rfl rfl
theorem Ygs:tab.ty 166=some ⟨.other,1,8,[.nilf],false⟩:=Eq.trans rfl rfl
theorem Ybj:tab.ty 168=some ⟨.other,1,8,[.nilf],false⟩:=Eq.trans rfl rfl
theorem Z9p:tab.ty 169=some ⟨.other,1,8,[.nilf],false⟩:=Eq.trans rfl rfl
theorem Yci:tab.ty 170=some ⟨.other,1,8,[.nilf],false⟩:=Eq.trans rfl rfl
theorem Yej:tab.ty 171=some ⟨.other,1,8,[.nilf],false⟩:=Eq.trans rfl rfl
theorem Yam:tab.ty 173=some ⟨.other,1,8,[.nilf],false⟩:=Eq.trans rfl rfl
theorem Z8u:tab.ty 174=some ⟨.other,1,8,[.nilf],false⟩:=Eq.trans rfl rfl
theorem Z96:tab.ty 175=some ⟨.other,1,8,[.nilf],false⟩:=Eq.trans rfl rfl
theorem Ya4:tab.ty 176=some ⟨.other,1,8,[.nilf],false⟩:=Eq.trans rfl rfl
theorem Yft:tab.ty 177=some ⟨.other,1,8,[.nilf],false⟩:=Eq.trans rfl rfl
theorem Z9x:tab.ty 179=some ⟨.other,1,8,[.nilf],false⟩:=Eq.trans rfl rfl
theorem Ycr:tab.ty 181=some ⟨.map 185 185,1,8,[.nilm],false⟩:=Eq.trans rfl rfl
theorem Yb5:tab.ty 182=some ⟨.slice 185,1,24,[.nils],false⟩:=Eq.trans rfl rfl
theorem Yfh:tab.ty 183=some ⟨.int .u8,1,1,[.int .u8 0],false⟩:=Eq.trans rfl rfl
theorem Ycp:tab.ty 184=some ⟨.struct [(0,183),(1,2),(2,9)],3,32,[.int .u8 0,.int .i64 0,.str []],true⟩:=Eq.trans rfl rfl
theorem Yfi:tab.ty 185=some ⟨.struct [(0,183),(1,2),(2,9)],3,32,[.int .u8 0,.int .i64 0,.str []],true⟩:=Eq.trans rfl rfl
theorem Z8r:tab.ty 186=some ⟨.struct [(0,180),(1,3),(2,4),(3,181),(4,3),(5,3),(6,182),(7,159),(8,185),(11,3),(12,159),(13,3)],14,136,[.int .u8 0,.int .i64 0,.bool false,.nilm,.int .i64 0,.int .i64 0,.nils,.int .u64 0,.int .u8 0,.int .i64 0,.str [],.int .i64 0,.int .u64 0,.int .i64 0],false⟩:=Eq.trans rfl rfl
theorem Yb1:tab.ty 187=some ⟨.struct [(0,180),(1,3),(2,4),(3,181),(4,3),(5,3),(6,182),(7,159),(8,185),(11,3),(12,159),(13,3)],14,136,[.int .u8 0,.int .i64 0,.bool false,.nilm,.int .i64 0,.int .i64 0,.nils,.int .u64 0,.int .u8 0,.int .i64 0,.str [],.int .i64 0,.int .u64 0,.int .i64 0],false⟩:=Eq.trans rfl rfl
theorem Yb7:tab.ty 188=some ⟨.other,1,8,[.nilf],false⟩:=Eq.trans rfl rfl
theorem Ya9:tab.ty 189=some ⟨.ptr 187,1,8,[.nilp],false⟩:=Eq.trans rfl rfl
theorem Z7n:tab.ty 190=some ⟨.other,1,8,[.nilf],false⟩:=Eq.trans rfl rfl
theorem Ybc:tab.ty 192=some ⟨.other,1,8,[.nilf],false⟩:=Eq.trans rfl rfl
theorem Z97:tab.ty 195=some ⟨.other,1,8,[.nilf],false⟩:=Eq.trans rfl rfl
theorem Yf3:tab.ty 196=some ⟨.struct [],0,0,[],false⟩:=Eq.trans rfl rfl
theorem Z7f:tab.ty 198=some ⟨.other,1,8,[.nilf],false⟩:=Eq.trans rfl rfl
theorem Ybm:tab.ty 199=some ⟨.arr 20 136,20,160,[.int .u64 0,.int .u64 0,.int .u64 0,.int .u64 0,.int .u64 0,.int .u64 0,.int .u64 0,.int .u64 0,.int .u64 0,.int .u64 0,.int .u64 0,.int .u64 0,.int .u64 0,.int .u64 0,.int .u64 0,.int .u64 0,.int .u64 0,.int .u64 0,.int .u64 0,.int .u64 0],false⟩:=Eq.trans rfl rfl
theorem Yax:tab.ty 200=some ⟨.arr 65 5,65,65,[.int .u8 0,.int .u8 0,.int .u8 0,.int .u8 0,.int .u8 0,.int .u8 0,.int .u8 0,.int .u8 0,.int .u8 0,.int .u8 0,.int .u8 0,.int .u8 0,.int .u8 0,.int .u8 0,.int .u8 0,.int .u8 0,.int .u8 0,.int .u8 0,.int .u8 0,.int .u8 0,.int .u8 0,.int .u8 0,.int .u8 0,.int .u8 0,.int .u8 0,.int .u8 0,.int .u8 0,.int .u8 0,.int .u8 0,.int .u8 0,.int .u8 0,.int .u8 0,.int .u8 0,.int .u8 0,.int .u8 0,.int .u8 0,.int .u8 0,.int .u8 0,.int .u8 0,.int .u8 0,.int .u8 0,.int .u8 0,.int .u8 0,.int .u8 0,.int .u8 0,.int .u8 0,.int .u8 0,.int .u8 0,.int .u8 0,.int .u8 0,.int .u8 0,.int .u8 0,.int .u8 0,.int .u8 0,.int .u8 0,.int .u8 0,.int .u8 0,.int .u8 0,.int .u8 0,.int .u8 0,.int .u8 0,.int .u8 0,.int .u8 0,.int .u8 0,.int .u8 0],false⟩:=Eq.trans rfl rfl
theorem Z8h:tab.ty 205=some ⟨.map 9 32,1,8,[.nilm],false⟩:=Eq.trans rfl rfl
theorem Yd6:tab.ty 206=some ⟨.arr 3 205,3,24,[.nilm,.nilm,.nilm],false⟩:=Eq.trans rfl rfl
theorem Z8v:tab.ty 210=some ⟨.struct [(0,5),(1,5)],2,2,[.int .u8 0,.int .u8 0],true⟩:=Eq.trans rfl rfl
theorem Ye1:tab.ty 213=some ⟨.slice 218,1,24,[.nils],false⟩:=Eq.trans rfl rfl
theorem Ydx:tab.ty 217=some ⟨.struct [(0,133),(1,4),(2,187)],16,144,[.int .u32 0,.bool false,.int .u8 0,.int .i64 0,.bool false,.nilm,.int .i64 0,.int .i64 0,.nils,.int .u64 0,.int .u8 0,.int .i64 0,.str [],.int .i64 0,.int .u64 0,.int .i64 0],false⟩:=Eq.trans rfl rfl
theorem Yec:tab.ty 232=some ⟨.other,1,8,[.nilf],false⟩:=Eq.trans rfl rfl
theorem Z9q:tab.ty 233=some ⟨.arr 32 5,32,32,[.int .u8 0,.int .u8 0,.int .u8 0,.int .u8 0,.int .u8 0,.int .u8 0,.int .u8 0,.int .u8 0,.int .u8 0,.int .u8 0,.int .u8 0,.int .u8 0,.int .u8 0,.int .u8 0,.int .u8 0,.int .u8 0,.int .u8 0,.int .u8 0,.int .u8 0,.int .u8 0,.int .u8 0,.int .u8 0,.int .u8 0,.int .u8 0,.int .u8 0,.int .u8 0,.int .u8 0,.int .u8 0,.int .u8 0,.int .u8 0,.int .u8 0,.int .u8 0],false⟩:=Eq.trans rfl rfl
theorem Ya0:tab.ty 234=some ⟨.arr 64 5,64,64,[.int .u8 0,.int .u8 0,.int .u8 0,.int .u8 0,.int .u8 0,.int .u8 0,.int .u8 0,.int .u8 0,.int .u8 0,.int .u8 0,.int .u8 0,.int .u8 0,.int .u8 0,.int .u8 0,.int .u8 0,.int .u8 0,.int .u8 0,.int .u8 0,.int .u8 0,.int .u8 0,.int .u8 0,.int .u8 0,.int .u8 0,.int .u8 0,.int .u8 0,.int .u8 0,.int .u8 0,.int .u8 0,.int .u8 0,.int .u8 0,.int .u8 0,.int .u8 0,.int .u8 0,.int .u8 0,.int .u8 0,.int .u8 0,.int .u8 0,.int .u8 0,.int .u8 0,.int .u8 0,.int .u8 0,.int .u8 0,.int .u8 0,.int .u8 0,.int .u8 0,.int .u8 0,.int .u8 0,.int .u8 0,.int .u8 0,.int .u8 0,.int .u8 0,.int .u8 0,.int .u8 0,.int .u8 0,.int .u8 0,.int .u8 0,.int .u8 0,.int .u8 0,.int .u8 0,.int .u8 0,.int .u8 0,.int .u8 0,.int .u8 0,.int .u8 0],false⟩:=Eq.trans rfl rfl
theorem Ycm:tab.ty 235=some ⟨.int .i64,1,8,[.int .i64 0],false⟩:=Eq.trans rfl rfl
theorem Z8i:tab.ty 238=some ⟨.ptr 246,1,8,[.nilp],false⟩:=Eq.trans rfl rfl
theorem Z8x:tab.ty 246=some ⟨.struct [(0,9),(1,9),(2,73)],3,48,[.str [],.str [],.nili],false⟩:=Eq.trans rfl rfl
theorem Ybq:tab.ty 257=some ⟨.ptr 259,1,8,[.nilp],false⟩:=Eq.trans rfl rfl
theorem Z8j:tab.ty 259=some ⟨.struct [(0,9)],1,16,[.str []],true⟩:=Eq.trans rfl rfl
theorem Ya5:tab.ty 264=some ⟨.ptr 3,1,8,[.nilp],false⟩:=Eq.trans rfl rfl
theorem Ygd:tab.ty 266=some ⟨.ptr 260,1,8,[.nilp],false⟩:=Eq.trans rfl rfl
theorem Yat:tab.ty 276=some ⟨.other,1,8,[.nilf],false⟩:=Eq.trans rfl rfl
theorem Yae:tab.ty 277=some ⟨.int .i32,1,4,[.int .i32 0],false⟩:=Eq.trans rfl rfl
theorem Z8m:tab.ty 280=some ⟨.struct [(0,12),(1,12),(2,133),(3,274),(4,5),(5,5),(6,275),(7,276),(8,114),(9,277),(10,278)],11,48,[.int .u64 0,.int .u64 0,.int .u32 0,.int .u8 0,.int .u8 0,.int .u8 0,.int .u8 0,.nilf,.nilp,.int .i32 0,.int .i32 0],false⟩:=Eq.trans rfl rfl
theorem fn13:tab.fn 13=some Tryz.f13:=Tryz.func13
theorem fn15:tab.fn 15=some Tryz.f15:=Tryz.func15
theorem fn24:tab.fn 24=some Tryz.f24:=Tryz.func24
theorem fn25:tab.fn 25=some Tryz.f25:=Tryz.func25
theorem fn26:tab.fn 26=some Tryz.f26:=Tryz.func26
theorem fn32:tab.fn 32=some Tryz.f32:=Tryz.func32
theorem fn33:tab.fn 33=some Tryz.f33:=Tryz.func33
theorem fn34:tab.fn 34=some Tryz.f34:=Tryz.func34
theorem fn35:tab.fn 35=some Tryz.f35:=Tryz.func35
theorem fn36:tab.fn 36=some Tryz.f36:=Tryz.func36
theorem fn40:tab.fn 40=some Tryz.f40:=Tryz.func40
theorem fn50:tab.fn 50=some Tryz.f50:=Tryz.func50
theorem fn51:tab.fn 51=some Tryz.f51:=Tryz.func51
theorem fn52:tab.fn 52=some Tryz.f52:=Tryz.func52
theorem fn53:tab.fn 53=some Tryz.f53:=Tryz.func53
theorem fn59:tab.fn 59=some Tryz.f59:=Tryz.func59
theorem fn62:tab.fn 62=some Tryz.f62:=Tryz.func62
theorem fn63:tab.fn 63=some Tryz.f63:=Tryz.func63
theorem fn64:tab.fn 64=some Tryz.f64:=Tryz.func64
theorem fn69:tab.fn 69=some Tryz.f69:=Tryz.func69
theorem fn71:tab.fn 71=some Tryz.f71:=Tryz.func71
theorem fn75:tab.fn 75=some Tryz.f75:=Tryz.func75
theorem fn76:tab.fn 76=some Tryz.f76:=Tryz.func76
theorem fn77:tab.fn 77=some Tryz.f77:=Tryz.func77
theorem fn78:tab.fn 78=some Tryz.f78:=Tryz.func78
theorem fn79:tab.fn 79=some Tryz.f79:=Tryz.func79
theorem fn80:tab.fn 80=some Tryz.f80:=Tryz.func80
theorem fn81:tab.fn 81=some Tryz.f81:=Tryz.func81
theorem fn91:tab.fn 91=some Tryz.f91:=Tryz.func91
theorem fn93:tab.fn 93=some Tryz.f93:=Tryz.func93
theorem fn94:tab.fn 94=some Tryz.f94:=Tryz.func94
theorem fn95:tab.fn 95=some Tryz.f95:=Tryz.func95
theorem fn96:tab.fn 96=some Tryz.f96:=Tryz.func96
theorem fn97:tab.fn 97=some Tryz.f97:=Tryz.func97
theorem fn98:tab.fn 98=some Tryz.f98:=Tryz.func98
theorem Z98:tab.fn 111=some Tryz.f111:=Tryz.func111
theorem Ydd:tab.fn 112=some Tryz.f112:=Tryz.func112
theorem Z93:tab.fn 113=some Tryz.f113:=Tryz.func113
theorem Yar:tab.fn 114=some Tryz.f114:=Tryz.func114
theorem Ygp:tab.fn 115=some Tryz.f115:=Tryz.func115
theorem Ygk:tab.fn 116=some Tryz.f116:=Tryz.func116
theorem Yen:tab.fn 117=some Tryz.f117:=Tryz.func117
theorem Ydc:tab.fn 118=some Tryz.f118:=Tryz.func118
theorem Yf9:tab.fn 119=some Tryz.f119:=Tryz.func119
theorem Yff:tab.fn 120=some Tryz.f120:=Tryz.func120
theorem Ygj:tab.fn 139=some Tryz.f139:=Tryz.func139
theorem Zyv:tab.fn 156=some Tryz.f156:=Tryz.func156
theorem Ydh:tab.fn 157=some Tryz.f157:=Tryz.func157
theorem Ybb:tab.fn 179=some Tryz.f179:=Tryz.func179
theorem Yfs:tab.fn 189=some Tryz.f189:=Tryz.func189
theorem Yfy:tab.fn 190=some Tryz.f190:=Tryz.func190
theorem Yfp:tab.fn 199=some Tryz.f199:=Tryz.func199
theorem Ydk:tab.fn 200=some Tryz.f200:=Tryz.func200
theorem Ycc:Tr.allF (fun t i=>tiOk Tryz.prog t i) tyT (fun n=>n)=true:=by kernel_rfl
theorem Z7u:Tr.allF (fun f _=>match tab.fn f with | some fn=>fnOk tab an f fn | none=>true) fnT (fun n=>n)=true:=by kernel_rfl
theorem Zie:TabOk tab Tryz.prog where
 ty:=fun t i h=>Tr.allF_get _ tyT _ Ycc t i h
 fn:=fun f fn h=>by
  have h:(match fnT.get f with | some _=>Tryz.prog.funcs[f]? | none=>none)=some fn:=h
  split at h
  ·exact h
  ·cases h
theorem Zi4:Tryz.prog.follows .mixedOrders=true:=by kernel_rfl
theorem Zk0 (f:FuncId) (fn:Func) (h:tab.fn f=some fn):fnOk tab an f fn=true:=by
 have h' : (match fnT.get f with | some _=>Tryz.prog.funcs[f]? | none=>none)=some fn:=h
 split at h'
 ·rename_i u hu
  have:=Tr.allF_get _ fnT _ Z7u f u hu
  simp only [h] at this
  exact this
 ·cases h'
theorem ok (h1:Zg3 tab Tryz.prog) (h2:J0 tab) (h3:Zbk tab Tryz.prog):ProgOk tab Tryz.prog an:=⟨h1,h2,Zie,Zi4,Zk0,h3⟩
noncomputable def tab0:Tab:={ tab with ext:=fun _=>none,ng:=0,quiet:=fun _=>false }
theorem Wr:MachOk tab0 Tryz.prog:=⟨fun f e h=>(by cases h),fun f e h=>(by cases h),⟨Zie.ty,Zie.fn⟩,fun f fn hf=>by
 have:=Zk0 f fn hf
 simp only [fnOk,Bool.and_eq_true,Bool.not_eq_true'] at this
 exact this.2,Zi4,fun g h=>by cases h⟩
#print axioms ok
end Go.AM.YtlillgmgpmbfnaaGreatDoorT
set_option maxRecDepth 100000
namespace Go.AM.YtlillgmgpmbfnaaGreatDoorT
open Go Go.AM Go.RowKit Go.Proofs
theorem Zzk:Tryz.f192.body=some (.seq (.region 0 (regF Tryz.f192 0) false) (.seq (.seq (.region 1 (regF Tryz.f192 1) false) (.block 0 (.rangeFunc (.tmp 6) #[7] (.region 2 (regF Tryz.f192 2) false) (.block 1 (.region 3 (regF Tryz.f192 3) false))))) (.seq (.region 4 (regF Tryz.f192 4) false) .ret))):=by kernel_rfl
theorem Zfq:Tryz.f183.body=some (.seq (.region 0 (regF Tryz.f183 0) false) (.block 0 (.loop (.seq (.region 1 (regF Tryz.f183 1) false) (.seq (.cond (.tmp 7) .skip (.exit 0)) (.block 1 (.seq (.region 2 (regF Tryz.f183 2) false) (.seq (.region 3 (regF Tryz.f183 3) false) (.cond (.tmp 13) .ret .skip)))))))) ):=by kernel_rfl
def Zxp (nt:Nat) (ops:Array Oper):Bool:=ops.toList.all (fun o=>match o.dst with | some t=>Nat.blt t nt | none=>true)
noncomputable def o0:Oper:=((regF Tryz.f183 3)[0]?).getD default
noncomputable def o1:Oper:=((regF Tryz.f183 3)[1]?).getD default
noncomputable def o2:Oper:=((regF Tryz.f183 3)[2]?).getD default
noncomputable def o3:Oper:=((regF Tryz.f183 3)[3]?).getD default
theorem Z91:(regF Tryz.f183 3)[0]? = some o0:=by kernel_rfl
theorem Ygb:(regF Tryz.f183 3)[1]? = some o1:=by kernel_rfl
theorem Yet:(regF Tryz.f183 3)[2]? = some o2:=by kernel_rfl
theorem Yb0:(regF Tryz.f183 3)[3]? = some o3:=by kernel_rfl
theorem Z24:(regF Tryz.f183 3).size=4:=by kernel_rfl
theorem o0_d:o0.dst=some 10:=by kernel_rfl
theorem o1_d:o1.dst=some 11:=by kernel_rfl
theorem Z7p:o2.op = .call { callee:=.value (.tmp 10),args:=#[.tmp 11],argTypes:=#[185] }:=by kernel_rfl
theorem o2_g:o2.guard=none:=by kernel_rfl
theorem o2_d:o2.dst=some 12:=by kernel_rfl
theorem o3_d:o3.dst=some 13:=by kernel_rfl
def hA (m:V) (o:Option Ob):Hp:=⟨2,.node (.node .nil o .nil) (some (.row 181 1 true [m])) .nil,[]⟩
def hB (m:V) (o:Option Ob):Hp:=(hA m o).new (.row 182 1 false [.nils])
def frA:Fr:=frame [.nils,.fn (.func 183) [] [.ptr 0 0]] 0 .nil
def frB:Fr:=(frA.set 2 (.ptr 2 0)).set 4 .nils
def frC:Fr:=frB.set 6 (.fn (.func 183) [] [.ptr 0 0])
def frK (l:Nat):Fr:=(Tr.nil.set 0 (.fn (.yield l) [] [])).set 1 (.ptr 0 0)
theorem evA0 (m:V) (o:Option Ob):Z1 tab0 noCall (regF Tryz.f192 0) (regF Tryz.f192 0).toList frA (hA m o)=some (frB,hB m o):=by kernel_rfl
theorem evA1 (m:V) (o:Option Ob):Z1 tab0 noCall (regF Tryz.f192 1) (regF Tryz.f192 1).toList frB (hB m o)=some (frC,hB m o):=by kernel_rfl
-- nothing to come
def hN:Hp:=(hB .nilm none).new (.iter none 0 [] 0)
def frN (l:Nat):Fr:=((frK l).set 4 .nilm).set 5 (.ptr 3 0)
def frN' (l:Nat):Fr:=((frN l).set 6 (.tup [.bool false])).set 7 (.bool false)
theorem evN0 (l:Nat):Z1 tab0 noCall (regF Tryz.f183 0) (regF Tryz.f183 0).toList (frK l) (hB .nilm none)=some (frN l,hN):=by kernel_rfl
theorem evN1 (l:Nat):Z1 tab0 noCall (regF Tryz.f183 1) (regF Tryz.f183 1).toList (frN l) hN=some (frN' l,hN):=by kernel_rfl
def hE (c:Nat):Hp:=(hB (.mp 1) (some (.map true [] c))).new (.iter (some 1) c [] c)
def frE (l:Nat):Fr:=((frK l).set 4 (.mp 1)).set 5 (.ptr 3 0)
def frE' (l:Nat):Fr:=((frE l).set 6 (.tup [.bool false])).set 7 (.bool false)
theorem evE0 (l c:Nat):Z1 tab0 noCall (regF Tryz.f183 0) (regF Tryz.f183 0).toList (frK l) (hB (.mp 1) (some (.map true [] c)))=some (frE l,hE c):=by kernel_rfl
theorem evE1 (l c:Nat):Z1 tab0 noCall (regF Tryz.f183 1) (regF Tryz.f183 1).toList (frE l) (hE c)=some (frE' l,hE c):=by kernel_rfl
theorem evN4:Z1 tab0 noCall (regF Tryz.f192 4) (regF Tryz.f192 4).toList frC hN=some ((frC.set 12 .nils).set 4 .nils,hN):=by kernel_rfl
theorem evE4 (c:Nat):Z1 tab0 noCall (regF Tryz.f192 4) (regF Tryz.f192 4).toList frC (hE c)=some ((frC.set 12 .nils).set 4 .nils,hE c):=by kernel_rfl
-- one entry
section
variable (l:Nat) (k0 k1 q0 q1:IntKind) (n0 n1 m0 m1:Int) (t u:List UInt8)
def kc:List V:=[.int k0 n0,.int k1 n1,.str t]
def hK0:Hp:=hB (.mp 1) (some (.map true [(.agg [.int k0 n0,.int k1 n1,.str t],.agg [.int q0 m0,.int q1 m1,.str u],0)] 1))
def hO1:Hp:=(hK0 k0 k1 q0 q1 n0 n1 m0 m1 t u).new (.iter (some 1) 1 [] 1)
def hO2:Hp:=(hO1 k0 k1 q0 q1 n0 n1 m0 m1 t u).put 3 (.iter (some 1) 1 [0] 1)
def hO3:Hp:=((hO2 k0 k1 q0 q1 n0 n1 m0 m1 t u).new (.row 185 3 false [.int .u8 0,.int .i64 0,.str []])).put 4 (.row 185 3 false (kc k0 k1 n0 n1 t))
def hO4:Hp:=((hO3 k0 k1 q0 q1 n0 n1 m0 m1 t u).new (.row 185 3 false [.int .u8 0,.int .i64 0,.str []])).put 5 (.row 185 3 false (kc k0 k1 n0 n1 t))
def hO5:Hp:=(((hO4 k0 k1 q0 q1 n0 n1 m0 m1 t u).new (.row 185 3 false (kc k0 k1 n0 n1 t))).new (.row 185 3 false (kc k0 k1 n0 n1 t))).put 2 (.row 182 1 false [.sl 7 0 1 none 3])
def kv:V:=.agg (kc k0 k1 n0 n1 t)
def frO1:Fr:=((frE l).set 6 (.tup [.bool true,kv k0 k1 n0 n1 t,kv q0 q1 m0 m1 u])).set 7 (.bool true)
def frO2:Fr:=(((frO1 l k0 k1 q0 q1 n0 n1 m0 m1 t u).set 8 (.tup [kv k0 k1 n0 n1 t,kv q0 q1 m0 m1 u])).set 9 (kv k0 k1 n0 n1 t)).set 3 (.ptr 4 0)
def frO3:Fr:=((frO2 l k0 k1 q0 q1 n0 n1 m0 m1 t u).set 10 (.fn (.yield l) [] [])).set 11 (kv k0 k1 n0 n1 t)
def frO4:Fr:=((frO3 l k0 k1 q0 q1 n0 n1 m0 m1 t u).set 12 (.bool true)).set 13 (.bool false)
def frO5:Fr:=((frO4 l k0 k1 q0 q1 n0 n1 m0 m1 t u).set 6 (.tup [.bool false])).set 7 (.bool false)
def frR:Fr:=frC.set 7 (kv k0 k1 n0 n1 t)
def frR1:Fr:=(frR k0 k1 n0 n1 t).set 5 (.ptr 5 0)
def frR2:Fr:=((((frR1 k0 k1 n0 n1 t).set 8 .nils).set 9 (kv k0 k1 n0 n1 t)).set 10 (.sl 6 0 1 none 3)).set 11 (.sl 7 0 1 none 3)
theorem evO0:Z1 tab0 noCall (regF Tryz.f183 0) (regF Tryz.f183 0).toList (frK l) (hK0 k0 k1 q0 q1 n0 n1 m0 m1 t u)=some (frE l,hO1 k0 k1 q0 q1 n0 n1 m0 m1 t u):=by kernel_rfl
theorem evO1:Z1 tab0 noCall (regF Tryz.f183 1) (regF Tryz.f183 1).toList (frE l) (hO1 k0 k1 q0 q1 n0 n1 m0 m1 t u)=some (frO1 l k0 k1 q0 q1 n0 n1 m0 m1 t u,hO2 k0 k1 q0 q1 n0 n1 m0 m1 t u):=by kernel_rfl
theorem evO2:Z1 tab0 noCall (regF Tryz.f183 2) (regF Tryz.f183 2).toList (frO1 l k0 k1 q0 q1 n0 n1 m0 m1 t u) (hO2 k0 k1 q0 q1 n0 n1 m0 m1 t u)=some (frO2 l k0 k1 q0 q1 n0 n1 m0 m1 t u,hO3 k0 k1 q0 q1 n0 n1 m0 m1 t u):=by kernel_rfl
theorem Z94:Z1 tab0 noCall (regF Tryz.f183 3) [o0] (frO2 l k0 k1 q0 q1 n0 n1 m0 m1 t u) (hO3 k0 k1 q0 q1 n0 n1 m0 m1 t u)=some ((frO2 l k0 k1 q0 q1 n0 n1 m0 m1 t u).set 10 (.fn (.yield l) [] []),hO3 k0 k1 q0 q1 n0 n1 m0 m1 t u):=by kernel_rfl
theorem evO3:Z1 tab0 noCall (regF Tryz.f183 3) [o1] ((frO2 l k0 k1 q0 q1 n0 n1 m0 m1 t u).set 10 (.fn (.yield l) [] [])) (hO3 k0 k1 q0 q1 n0 n1 m0 m1 t u)=some (frO3 l k0 k1 q0 q1 n0 n1 m0 m1 t u,hO3 k0 k1 q0 q1 n0 n1 m0 m1 t u):=by kernel_rfl
theorem evR0:Z1 tab0 noCall (regF Tryz.f192 2) (regF Tryz.f192 2).toList (frR k0 k1 n0 n1 t) (hO3 k0 k1 q0 q1 n0 n1 m0 m1 t u)=some (frR1 k0 k1 n0 n1 t,hO4 k0 k1 q0 q1 n0 n1 m0 m1 t u):=by kernel_rfl
theorem evR1:Z1 tab0 noCall (regF Tryz.f192 3) (regF Tryz.f192 3).toList (frR1 k0 k1 n0 n1 t) (hO4 k0 k1 q0 q1 n0 n1 m0 m1 t u)=some (frR2 k0 k1 n0 n1 t,hO5 k0 k1 q0 q1 n0 n1 m0 m1 t u):=by kernel_rfl
theorem evO4:Z1 tab0 noCall (regF Tryz.f183 3) [o3] ((frO3 l k0 k1 q0 q1 n0 n1 m0 m1 t u).set 12 (.bool true)) (hO5 k0 k1 q0 q1 n0 n1 m0 m1 t u)=some (frO4 l k0 k1 q0 q1 n0 n1 m0 m1 t u,hO5 k0 k1 q0 q1 n0 n1 m0 m1 t u):=by kernel_rfl
theorem evO5:Z1 tab0 noCall (regF Tryz.f183 1) (regF Tryz.f183 1).toList (frO4 l k0 k1 q0 q1 n0 n1 m0 m1 t u) (hO5 k0 k1 q0 q1 n0 n1 m0 m1 t u)=some (frO5 l k0 k1 q0 q1 n0 n1 m0 m1 t u,hO5 k0 k1 q0 q1 n0 n1 m0 m1 t u):=by kernel_rfl
theorem evO6:Z1 tab0 noCall (regF Tryz.f192 4) (regF Tryz.f192 4).toList frC (hO5 k0 k1 q0 q1 n0 n1 m0 m1 t u)=some ((frC.set 12 (.sl 7 0 1 none 3)).set 4 (.sl 7 0 1 none 3),hO5 k0 k1 q0 q1 n0 n1 m0 m1 t u):=by kernel_rfl
end
abbrev DA:Nat->Prop:=fun b=>b < 2
theorem Wn (m:V) (o:Option Ob) (H' : Hp):Zz DA (hA m o) H':=fun b h _ h2=>by
 have h:2<=b:=h
 have h2:b < 2:=h2
 omega
noncomputable def recA (fn:FuncId) (tmps:Array Value) (d:Nat):Loop:={ state:=.ready,pending:=none,fn,tmps,params:=#[7],assign:=.region 2 (regF Tryz.f192 2) false,body:=.block 1 (.region 3 (regF Tryz.f192 3) false),defers:=d }
def Goes (m:V) (o:Option Ob) (He:Hp):Prop:=∀ (W:World) (s1:Sg) (n l d:Nat) (fn:FuncId) (a2:Act) (s2:Sg) (w2:World) (pv:Value),Cu W.heap.size W DA s1 (hA m o) W l d (recA fn a2.tmps d) s2 (hB m o) w2 ->
 FrOk (Dn DA (hA m o).next (hB m o).next) s2 frC a2->13<=a2.tmps.size->Rv (Dn DA (hA m o).next (hB m o).next) s2 (.ptr 0 0) pv ->
 CallsIn Fence.wide n Tryz.prog 183 #[.func (.yield l) #[] #[],pv] w2 fun e w'=>∃ v,e = .returned v/\∃ s' r',r'.state≠.busy/\r'.pending=none/\Cu W.heap.size W DA s1 (hA m o) W l d r' s' He w'/\Lat DA (hA m o).next s2 (hB m o) s' He
theorem Zcx {D:Nat->Prop} {s:Sg} {F:Fr} {a:Act} {t:Tmp} {b:Bool} (hF:FrOk D s F a) (h:F.get t=some (.bool b)):a.eval (.tmp t) = .bool b:=by
 obtain ⟨x,hx,hr⟩:=hF t _ h
 cases hr
 simp [Act.eval,hx]
theorem Zmj {D:Nat->Prop} {s:Sg} {l:Nat} {pv:Value} (hp:Rv D s (.ptr 0 0) pv):FrOk D s (frK l) { tmps:=#[.func (.yield l) #[] #[],pv]++Array.replicate (Tryz.f183.ntmps-2) undef,defers:=[] }:=fun t v ht=>by
 unfold frK at ht
 rw [Tr.get_set] at ht
 split at ht
 ·rename_i e
  subst e
  cases ht
  exact ⟨pv,rfl,hp⟩
 ·rw [Tr.get_set] at ht
  split at ht
  ·rename_i e
   subst e
   cases ht
   exact ⟨_,rfl,.fn _ _ _ _ _ .nil .nil⟩
  ·simp [Tr.get] at ht
theorem Zky (y pv:Value):14<=(#[y,pv]++Array.replicate (Tryz.f183.ntmps-2) undef).size:=by
 have:Tryz.f183.ntmps=14:=by kernel_rfl
 simp [this]
theorem resK:Tryz.f183.results.toList=[]:=by kernel_rfl
theorem Zl1 {D:Nat->Prop} {s:Sg} {n0:Nat} {w0 w:World} {H:Hp} {F:Fr} {a:Act} (hS:Sat n0 w0 D s H w) (hF:FrOk D s F a):∃ v,(results Tryz.f183 a.tmps).run Tryz.prog w = .ok v w:=by
 obtain ⟨x,h,_⟩:=J6 (T:=tab0) (fn:=Tryz.f183) (v:=.tup []) Wr.tab hS hF (by rw [resK];rfl)
 exact ⟨x,h⟩
theorem Yc8:Goes .nilm none hN:=by
 intro W s1 n l d fn a2 s2 w2 pv C hF hz hp
 refine callsIn_of_wp Tryz.func183 Zfq trivial ?_ rfl
 refine wpIn_seq (C.region Wr (fun _=>rfl) rfl (Nat.le_refl _) (Wn _ _ _) (.inl rfl) (nt:=14) (ds:=[]) (by kernel_rfl) (evN0 l) (Zmj hp) (Zky _ _) rfl fun a3 s3 w3 C3 hF3 L3 hz3 hd3=>?_)
 show (Code.block 0 _).wpIn _ _ _ _ a3 w3
 refine wpIn_block (wpIn_loop_rounds 1 ?_)
 rw [roundsIn_succ]
 refine wpIn_seq (C3.region Wr (fun _=>rfl) rfl (Nat.le_refl _) (Wn _ _ _) (.inl rfl) (nt:=14) (ds:=[]) (by kernel_rfl) (evN1 l) hF3 hz3 hd3 fun a4 s4 w4 C4 hF4 L4 hz4 hd4=>?_)
 show (Code.seq _ _).wpIn _ _ _ _ a4 w4
 refine wpIn_seq (wpIn_cond_false (Zcx hF4 (by kernel_rfl)) (wpIn_exit ?_))
 obtain ⟨v,hv⟩:=Zl1 C4.step.sat hF4
 simp only [Exit.then,Exit.inBlock,if_true,bodyPost]
 exact ⟨hd4,v,hv,v,rfl,s4,_,by simp [recA],rfl,C4,L3.trans L4⟩
theorem Yav (c:Nat):Goes (.mp 1) (some (.map true [] c)) (hE c):=by
 intro W s1 n l d fn a2 s2 w2 pv C hF hz hp
 refine callsIn_of_wp Tryz.func183 Zfq trivial ?_ rfl
 refine wpIn_seq (C.region Wr (fun _=>rfl) rfl (Nat.le_refl _) (Wn _ _ _) (.inl rfl) (nt:=14) (ds:=[]) (by kernel_rfl) (evE0 l c) (Zmj hp) (Zky _ _) rfl fun a3 s3 w3 C3 hF3 L3 hz3 hd3=>?_)
 show (Code.block 0 _).wpIn _ _ _ _ a3 w3
 refine wpIn_block (wpIn_loop_rounds 1 ?_)
 rw [roundsIn_succ]
 refine wpIn_seq (C3.region Wr (fun _=>rfl) rfl (Nat.le_refl _) (Wn _ _ _) (.inl rfl) (nt:=14) (ds:=[]) (by kernel_rfl) (evE1 l c) hF3 hz3 hd3 fun a4 s4 w4 C4 hF4 L4 hz4 hd4=>?_)
 show (Code.seq _ _).wpIn _ _ _ _ a4 w4
 refine wpIn_seq (wpIn_cond_false (Zcx hF4 (by kernel_rfl)) (wpIn_exit ?_))
 obtain ⟨v,hv⟩:=Zl1 C4.step.sat hF4
 simp only [Exit.then,Exit.inBlock,if_true,bodyPost]
 exact ⟨hd4,v,hv,v,rfl,s4,_,by simp [recA],rfl,C4,L3.trans L4⟩
section
variable (k0 k1 q0 q1:IntKind) (n0 n1 m0 m1:Int) (t u:List UInt8)
theorem Z90:Goes (.mp 1) (some (.map true [(.agg [.int k0 n0,.int k1 n1,.str t],.agg [.int q0 m0,.int q1 m1,.str u],0)] 1)) (hO5 k0 k1 q0 q1 n0 n1 m0 m1 t u):=by
 intro W s1 n l d fn a2 s2 w2 pv C hF hz hp
 refine callsIn_of_wp Tryz.func183 Zfq trivial ?_ rfl
 refine wpIn_seq (C.region Wr (fun _=>rfl) rfl (Nat.le_refl _) (Wn _ _ _) (.inl rfl) (nt:=14) (ds:=[]) (by kernel_rfl) (evO0 l k0 k1 q0 q1 n0 n1 m0 m1 t u) (Zmj hp) (Zky _ _) rfl fun a3 s3 w3 C3 hF3 L3 hz3 hd3=>?_)
 show (Code.block 0 _).wpIn _ _ _ _ a3 w3
 refine wpIn_block (wpIn_loop_rounds 2 ?_)
 rw [roundsIn_succ]
 refine wpIn_seq (C3.region Wr (fun _=>rfl) rfl (Nat.le_refl _) (Wn _ _ _) (.inl rfl) (nt:=14) (ds:=[]) (by kernel_rfl) (evO1 l k0 k1 q0 q1 n0 n1 m0 m1 t u) hF3 hz3 hd3 fun a4 s4 w4 C4 hF4 L4 hz4 hd4=>?_)
 show (Code.seq _ _).wpIn _ _ _ _ a4 w4
 refine wpIn_seq (wpIn_cond_true (Zcx hF4 (by kernel_rfl)) (wpIn_skip ?_))
 show (Code.block 1 _).wpIn _ _ _ _ a4 w4
 refine wpIn_block (wpIn_seq (C4.region Wr (fun _=>rfl) rfl (Nat.le_refl _) (Wn _ _ _) (.inl rfl) (nt:=14) (ds:=[]) (by kernel_rfl) (evO2 l k0 k1 q0 q1 n0 n1 m0 m1 t u) hF4 hz4 hd4 fun a5 s5 w5 C5 hF5 L5 hz5 hd5=>?_))
 show (Code.seq _ _).wpIn _ _ _ _ a5 w5
 refine wpIn_seq (wpIn_region ?_)
 rw [Z24]
 show wpOpsIn _ _ _ _ _ [0,1,2,3] a5 w5
 refine C5.op Wr (fun _=>rfl) rfl (Nat.le_refl _) (Wn _ _ _) (.inl rfl) (nt:=14) (ds:=[]) Z91 (fun t ht=>by rw [o0_d] at ht;cases ht;decide) (Z94 l k0 k1 q0 q1 n0 n1 m0 m1 t u) hF5 hz5 hd5 fun a6 s6 w6 C6 hF6 L6 hz6 hd6=>?_
 refine C6.op Wr (fun _=>rfl) rfl (Nat.le_refl _) (Wn _ _ _) (.inl rfl) (nt:=14) (ds:=[]) Ygb (fun t ht=>by rw [o1_d] at ht;cases ht;decide) (evO3 l k0 k1 q0 q1 n0 n1 m0 m1 t u) hF6 hz6 hd6 fun a7 s7 w7 C7 hF7 L7 hz7 hd7=>?_
 have hy7:a7.tmps[10]? = some (.func (.yield l) #[] #[]):=by
  obtain ⟨y,hy,hr⟩:=hF7 10 (.fn (.yield l) [] []) (by kernel_rfl)
  cases hr with
  | fn _ _ _ xs ys h1 h2 =>
   cases xs with
   | mk xs=>cases ys with
    | mk ys =>
     cases h1;cases h2
     exact hy
 obtain ⟨kx,hkx,hkr⟩:=hF7 11 (kv k0 k1 n0 n1 t) (by kernel_rfl)
 have ek:a7.eval (.tmp 11)=kx:=by simp [Act.eval,hkx]
 refine Znn Yet o2_g Z7p rfl rfl rfl (by simp [Act.eval,hy7]) (run_yield C7.hl rfl) ?_
 rw [ek]
 -- the round
 have L27:Lat DA _ s2 (hB (.mp 1) (some (.map true [(.agg [.int k0 n0,.int k1 n1,.str t],.agg [.int q0 m0,.int q1 m1,.str u],0)] 1))) s7 (hO3 k0 k1 q0 q1 n0 n1 m0 m1 t u):=(((L3.trans L4).trans L5).trans L6).trans L7
 have hFr:FrOk (Dn DA (hA (.mp 1) (some (.map true [(.agg [.int k0 n0,.int k1 n1,.str t],.agg [.int q0 m0,.int q1 m1,.str u],0)] 1))).next (hO3 k0 k1 q0 q1 n0 n1 m0 m1 t u).next) s7 (frR k0 k1 n0 n1 t) { tmps:=a2.tmps.setIfInBounds 7 kx,defers:=[] } :=
  FrOk.put (a:={ tmps:=a2.tmps,defers:=[] }) (d:=some 7) (x:=kx) (L27.fr hF) (fun t' ht=>by cases ht;exact Nat.lt_of_lt_of_le (by decide) hz) hkr
 have hfold:(((recA fn a2.tmps d).params.zip #[kx]).foldl (fun tmps (t,a)=>tmps.setIfInBounds t a) (recA fn a2.tmps d).tmps)=a2.tmps.setIfInBounds 7 kx:=by simp [recA,Array.zip]
 rw [hfold]
 show RoundIn _ _ _ l fn (a2.tmps.setIfInBounds 7 kx) (.region 2 (regF Tryz.f192 2) false) (.block 1 (.region 3 (regF Tryz.f192 3) false)) _ _
 refine roundIn_of_wpIn trivial ?_
 refine C7.region Wr (fun _=>rfl) rfl (Nat.le_refl _) (Wn _ _ _) (.inr ⟨l,rfl⟩) (nt:=13) (ds:=[]) (by kernel_rfl) (evR0 k0 k1 q0 q1 n0 n1 m0 m1 t u) hFr (by simpa using hz) rfl fun a8 s8 w8 C8 hF8 L8 hz8 hd8=>?_
 refine ⟨_,run_beginRound C8.hl rfl,?_⟩
 have C9:=C8.put { recA fn a2.tmps d with state:=.busy }
 refine wpIn_block (C9.region Wr (fun _=>rfl) rfl (Nat.le_refl _) (Wn _ _ _) (.inr ⟨l,rfl⟩) (nt:=13) (ds:=[]) (by kernel_rfl) (evR1 k0 k1 q0 q1 n0 n1 m0 m1 t u) hF8 hz8 hd8 fun a10 s10 w10 C10 hF10 L10 hz10 hd10=>?_)
 refine ⟨_,_,run_endRound none C10.hl,_,rfl,?_⟩
 have C11:=C10.put { recA fn a2.tmps d with state:=.ready }
 have L710:Lat DA _ s7 _ s10 _:=L8.trans L10
 have hF11:FrOk (Dn DA (hA (.mp 1) (some (.map true [(.agg [.int k0 n0,.int k1 n1,.str t],.agg [.int q0 m0,.int q1 m1,.str u],0)] 1))).next (hO5 k0 k1 q0 q1 n0 n1 m0 m1 t u).next) s10 ((frO3 l k0 k1 q0 q1 n0 n1 m0 m1 t u).set 12 (.bool true)) (a7.put o2.dst (.bool true)):=by
  rw [o2_d]
  exact FrOk.put (d:=some 12) (x:=.bool true) (L710.fr hF7) (fun t' ht=>by cases ht;exact Nat.lt_of_lt_of_le (by decide) hz7) (.bool true)
 refine C11.op Wr (fun _=>rfl) rfl (Nat.le_refl _) (Wn _ _ _) (.inl rfl) (nt:=14) (ds:=[]) Yb0 (fun t ht=>by rw [o3_d] at ht;cases ht;decide) (evO4 l k0 k1 q0 q1 n0 n1 m0 m1 t u) hF11 (by rw [Xa];exact hz7) (by rw [Ym];exact hd7) fun a12 s12 w12 C12 hF12 L12 hz12 hd12=>?_
 show (Code.cond _ _ _).wpIn _ _ _ _ a12 w12
 refine wpIn_cond_false (Zcx hF12 (by kernel_rfl)) (wpIn_skip ?_)
 show Code.roundsIn _ _ _ _ _ 1 a12 w12
 rw [roundsIn_succ]
 refine wpIn_seq (C12.region Wr (fun _=>rfl) rfl (Nat.le_refl _) (Wn _ _ _) (.inl rfl) (nt:=14) (ds:=[]) (by kernel_rfl) (evO5 l k0 k1 q0 q1 n0 n1 m0 m1 t u) hF12 hz12 hd12 fun a13 s13 w13 C13 hF13 L13 hz13 hd13=>?_)
 show (Code.seq _ _).wpIn _ _ _ _ a13 w13
 refine wpIn_seq (wpIn_cond_false (Zcx hF13 (by kernel_rfl)) (wpIn_exit ?_))
 obtain ⟨v,hv⟩:=Zl1 C13.step.sat hF13
 simp only [Exit.then,Exit.inBlock,if_true,bodyPost]
 exact ⟨hd13,v,hv,v,rfl,s13,_,by simp [recA],rfl,C13,((L27.trans L710).trans L12).trans L13⟩
end
theorem Yc6 (m:V) (o:Option Ob):(hB m o).get 2=some (.row 182 1 false [.nils]):=by kernel_rfl
theorem Z49 (m:V) (o:Option Ob):(hB m o).stale=[]:=by kernel_rfl
theorem ntA:Tryz.f192.ntmps=13:=by kernel_rfl
theorem resA:Tryz.f192.results.toList=[.tmp 4]:=by kernel_rfl
theorem Zpq {m:V} {o:Option Ob} {He:Hp} (hg:Goes m o He) {v:V} {Ff:Fr} (he:Z1 tab0 noCall (regF Tryz.f192 4) (regF Tryz.f192 4).toList frC He=some (Ff,He)) (hv:Ff.get 4=some v) (hG:Good (hA m o))
  {W:World} {s1:Sg} {xs:Array Value} (hxs:RvL DA s1 [.nils,.fn (.func 183) [] [.ptr 0 0]] xs.toList) (hS:Sat W.heap.size W DA s1 (hA m o) W) (hlt:∀ b,DA b->(s1 b).b < W.heap.size) :
  Calls Tryz.prog 192 xs W fun e w'=>∃ x,e = .returned x/\∃ s',Step W.heap.size W DA s1 (hA m o) W s' He w'/\Rv (Dn DA (hA m o).next He.next) s' v x:=by
 refine (callsIn_wide (n:=0)).1 ?_
 refine callsIn_of_wp_marks Tryz.func192 Zzk trivial ?_ rfl
 have hF0:FrOk DA s1 frA { tmps:=xs++Array.replicate (Tryz.f192.ntmps-xs.size) undef,defers:=[] }:=Zbt _ 0 .nil (fun t v h=>by simp [Tr.get] at h) (fun j v hj=>by
  obtain ⟨x,h1,h2⟩:=hxs.get j v hj
  rw [Array.getElem?_toList] at h1
  refine ⟨x,?_,h2⟩
  have hlt:j < xs.size:=(Array.getElem?_eq_some_iff.1 h1).1
  rw [Nat.zero_add,Array.getElem?_append_left hlt]
  exact h1)
 refine wpIn_seq (Zgb (ds:=[]) (nt:=13) Wr (fun _=>rfl) (Nat.le_refl _) (Zca _ _) Va (.inl rfl) (fun o ho t ht=>?_) (evA0 m o) ⟨fun g hg=>absurd hg (Nat.not_lt_zero g),hF0,hS,hG,by rw [ntA];simp;omega,rfl⟩ (Wn _ _ _) fun a1 w1 h1=>?_)
 ·have:Zxp 13 (regF Tryz.f192 0)=true:=by kernel_rfl
  have:=List.all_eq_true.1 this o ho
  rw [ht] at this
  simpa using this
 obtain ⟨sB,hsB,hFB,hzB,hdB⟩:=h1
 have hGB:Good (hB m o):=(Yk Va _ hG (evA0 m o)).good
 show (Code.seq _ _).wpIn _ _ _ _ a1 w1
 refine wpIn_seq (wpIn_seq (Zgb (ds:=[]) (nt:=13) Wr (fun _=>rfl) (Nat.le_refl _) (Zca _ _) Va (.inl rfl) (fun o ho t ht=>?_) (evA1 m o) ⟨fun g hg=>absurd hg (Nat.not_lt_zero g),hFB,hsB.sat,hGB,hzB,hdB⟩ ((Wn m o _).right (by show 2<=3;decide)) fun a2 w2 h2=>?_))
 ·have:Zxp 13 (regF Tryz.f192 1)=true:=by kernel_rfl
  have:=List.all_eq_true.1 this o ho
  rw [ht] at this
  simpa using this
 obtain ⟨sC,hsC,hFC,hzC,hdC⟩:=h2
 have hDC:Dn (Dn DA (hA m o).next (hB m o).next) (hB m o).next (hB m o).next=Dn DA (hA m o).next (hB m o).next:=Yj _ _
 rw [hDC] at hFC
 have hst:=hsB.trans hsC
 show (Code.block 0 _).wpIn _ _ _ _ a2 w2
 refine wpIn_block (wpIn_rangeFunc fun fn _=>?_)
 have hlt2:∀ b,Dn DA (hA m o).next (hB m o).next b->(sC b).b < w2.heap.size:=fun b hb=>by
  rcases hb with hb | hb
  ·rw [hst.same b hb]
   exact Nat.lt_of_lt_of_le (hlt b hb) hst.size
  ·have e:b=2:=by
    have h1:2<=b:=hb.1
    have h2:b < 3:=hb.2
    omega
   subst e
   exact hst.sat.lt (.inr hb) (by unfold Al;rw [Yc6];simp [Z49])
 have C:=Cu.start hst (Nat.le_refl _) hGB hlt2 (recA fn a2.tmps w2.heap.size)
 obtain ⟨g,hg6,hgr⟩:=hFC 6 (.fn (.func 183) [] [.ptr 0 0]) (by kernel_rfl)
 obtain ⟨pv,rfl,hpv⟩:∃ pv,g = .func (.func 183) #[] #[pv]/\Rv (Dn DA (hA m o).next (hB m o).next) sC (.ptr 0 0) pv:=by
  cases hgr with
  | fn _ _ _ xs ys h1 h2 =>
   cases xs with
   | mk xs=>cases ys with
    | mk ys =>
     cases h1
     cases h2 with
     | cons _ x _ _ hx hr=>cases hr;exact ⟨x,rfl,hx⟩
 refine ⟨_,_,_,{ target:=.fn (.func 183) #[pv],args:=#[.func (.yield (w2.heap.size+1)) #[] #[]] },(w2.alloc (.deferred (some []))).alloc (.loop (recA fn a2.tmps w2.heap.size)),183,#[.func (.yield (w2.heap.size+1)) #[] #[],pv],(w2.alloc (.deferred (some []))).alloc (.loop (recA fn a2.tmps w2.heap.size)),run_enterLoop_outer fn a2.tmps #[7] _ _,?_,fun _ _=>trivial,?_,fun h=>(by cases h),?_⟩
 ·simp [resolve,rangeCall,Act.eval,hg6,Deferred.ofValue]
  rfl
 ·exact Wy Wr (show tab0.fn 183=_ from Tryz.func183) Zfq _ _
 ·refine (hg W s1 _ _ _ fn a2 sC _ pv C hFC hzC hpv).mono fun e w3 he3=>?_
  obtain ⟨rv,rfl,s3,r3,hb3,hp3,C3,L3⟩:=he3
  refine ⟨_,_,run_endLoop C3.hl hb3,?_⟩
  rw [hp3]
  have C4:=C3.put { r3 with state:=.exhausted,pending:=none }
  show (Code.seq _ _).wpIn _ _ _ _ { a2 with defers:=[{ target:=.collected w2.heap.size,args:=#[] }]++a2.defers } _
  refine wpIn_seq (C4.region (a:={ a2 with defers:=[{ target:=.collected w2.heap.size,args:=#[] }]++a2.defers }) Wr (fun _=>rfl) rfl (Nat.le_refl _) (Wn _ _ _) (.inl rfl) (nt:=13) (ds:=[{ target:=.collected w2.heap.size,args:=#[] }]) (by kernel_rfl) he (L3.fr hFC) hzC (by rw [hdC];rfl) fun a5 s5 w5 C5 hF5 L5 hz5 hd5=>?_)
  refine wpIn_ret ?_
  show LeavesInM _ _ _ _ _ _ a5.defers .returning w5
  rw [hd5]
  obtain ⟨x,hx,hr⟩:=J6 (T:=tab0) (fn:=Tryz.f192) (v:=v) Wr.tab C5.shut.sat hF5 (by rw [resA];simp [Wp,Wo,hv])
  exact ⟨by simp,.inl ⟨_,_,rfl,run_takeDeferred C5.hd,_,hx,x,rfl,s5,C5.shut,hr⟩⟩
theorem Zkt (m:V) (o:Option Ob):(hA m o).get 0=some (.row 181 1 true [m]):=by kernel_rfl
theorem Zku (m:V) (o:Option Ob):(hA m o).get 1=o:=by kernel_rfl
theorem Zrj (m:V) (o:Option Ob):(hA m o).stale=[]:=by kernel_rfl
theorem Zqd (m:V) (o:Option Ob):Good (hA m o):=⟨fun b hb=>by
 have hb:2<=b:=hb
 show (Tr.node (.node .nil o .nil) (some (.row 181 1 true [m])) .nil).get b=none
 rw [Tr.get_eq]
 simp only [Tr.left,Tr.right]
 rw [if_neg (by omega)]
 split
 ·rw [Tr.get_eq,if_neg (by omega)]
  simp [Tr.left,Tr.right,Tr.get]
 ·simp [Tr.get],fun x hx=>by rw [Zrj] at hx;cases hx⟩
theorem noOw {m:V} {o:Option Ob} (ho:o=none\/∃ es c,o=some (.map true es c)) {b:Nat} (hb:DA b):¬ Ow (hA m o) b:=fun h=>by
 unfold Ow at h
 have hb:b < 2:=hb
 have:b=0\/b=1:=by omega
 rcases this with rfl | rfl
 ·rw [Zkt] at h;simp at h
 ·rw [Zku] at h
  rcases ho with rfl | ⟨es,c,rfl⟩<;>simp at h
theorem satA {D:Nat->Prop} {s:Sg} {n0:Nat} {w0 w:World} {H:Hp} (hS:Sat n0 w0 D s H w) (hst:H.stale=[]) {c:Nat} {e:TypeId} {ro:Bool} {mv m:V} {o:Option Ob} {s1:Sg} (hc:D c) (hg:H.get c=some (.row e 1 ro [mv])) (h0:s1 0=s c)
  (hm:∀ x,Rv D s mv x->Rv DA s1 m x) (hm1:oneV m=true) (ho:o=none\/∃ es cl,o=some (.map true es cl)/\∃ ents,w.heap[(s1 1).b]? = some (.map ents cl)/\EsOk DA s1 es ents.toList):Sat w.heap.size w DA s1 (hA m o) w:=by
 have hno:∀ b,DA b->¬ Ow (hA m o) b:=fun b hb=>noOw (by rcases ho with h | ⟨es,cl,h,_⟩;exact .inl h;exact .inr ⟨es,cl,h⟩) hb
 have hcase:∀ b,DA b->b=0\/b=1:=fun b hb=>by
  have hb:b < 2:=hb
  omega
 have hr:=hS.row c e 1 ro [mv] hc hg
 refine ⟨Below.refl _ _,fun b e' sz ro' cs hb hgb=>?_,fun b ro' es cl hb hgb=>?_,fun b mm si se la hb hgb=>?_,fun b b' h1 h2 h3 h4 h5=>absurd h4 (hno b h1),fun x _ _ _ _ _ _ _ _ hx hxs=>?_⟩
 ·rcases hcase b hb with rfl | rfl
  ·rw [Zkt] at hgb
   cases hgb
   obtain ⟨⟨C,et,fz,h1,h2,h3,h4⟩,h5,h6,h7,h8⟩:=hr
   rw [h0]
   refine ⟨⟨C,et,fz,h1,h2,fun i v hv=>?_,fun h=>(by simp at h)⟩,h5,h6,by simp [hm1],fun h=>(by simp at h)⟩
   cases i with
   | zero =>
    cases hv
    obtain ⟨x,hx,hrv⟩:=h3 0 mv rfl
    exact ⟨x,hx,hm x hrv⟩
   | succ i=>simp at hv
  ·rw [Zku] at hgb
   rcases ho with rfl | ⟨es,cl,rfl,_⟩<;>cases hgb
 ·rcases hcase b hb with rfl | rfl
  ·rw [Zkt] at hgb;cases hgb
  ·rw [Zku] at hgb
   rcases ho with rfl | ⟨es',cl',rfl,ents,h1,h2⟩
   ·cases hgb
   ·cases hgb
    exact ⟨ents,h1,h2,fun h=>(by cases h)⟩
 ·rcases hcase b hb with rfl | rfl
  ·rw [Zkt] at hgb;cases hgb
  ·rw [Zku] at hgb
   rcases ho with rfl | ⟨es,cl,rfl,_⟩<;>cases hgb
 ·rw [Zrj] at hxs;cases hxs
theorem Zxi {D:Nat->Prop} {s s1:Sg} {c:Nat} {l:List Value} (h:RvL D s [.nils,.fn (.func 183) [] [.ptr c 0]] l) (h0:s1 0=s c):RvL DA s1 [.nils,.fn (.func 183) [] [.ptr 0 0]] l/\D c:=by
 cases h with
 | cons _ x0 _ l1 h1 h2 =>
  cases h2 with
  | cons _ x1 _ l2 h3 h4 =>
   cases h4
   cases h1
   cases h3 with
   | fn _ _ _ xs ys h5 h6 =>
    cases xs with
    | mk xs=>cases ys with
     | mk ys =>
      cases h5
      cases h6 with
      | cons _ y _ _ hy hr =>
       cases hr
       cases hy with
       | ptr _ _ hD =>
        refine ⟨.cons _ _ _ _ .nils (.cons _ _ _ _ (.fn _ _ _ _ _ .nil (.cons _ _ _ _ ?_ .nil)) .nil),hD⟩
        have:=Rv.ptr (D:=DA) (s:=s1) 0 0 (show (0:Nat) < 2 by decide)
        rw [h0] at this
        exact this
theorem Zb7 {D D' : Nat->Prop} {s s' : Sg} {k:IntKind} {n:Int} {x:Value} (h:Rv D s (.int k n) x):Rv D' s' (.int k n) x:=by cases h;exact .int _ _
theorem Zkb {D D' : Nat->Prop} {s s' : Sg} {t:List UInt8} {x:Value} (h:Rv D s (.str t) x):Rv D' s' (.str t) x:=by cases h;exact .str _
theorem Zj1 {D D' : Nat->Prop} {s s' : Sg} {k0 k1:IntKind} {n0 n1:Int} {t:List UInt8} {x:Value} (h:Rv D s (.agg [.int k0 n0,.int k1 n1,.str t]) x):Rv D' s' (.agg [.int k0 n0,.int k1 n1,.str t]) x:=by
 cases h with
 | agg _ xs h h' =>
  cases xs with
  | mk xs =>
   cases h with
   | cons _ x0 _ _ h0 h =>
    cases h with
    | cons _ x1 _ _ h1 h =>
     cases h with
     | cons _ x2 _ _ h2 h =>
      cases h
      exact .agg _ _ (.cons _ _ _ _ (Zb7 h0) (.cons _ _ _ _ (Zb7 h1) (.cons _ _ _ _ (Zkb h2) .nil))) h'
theorem Yfu:ExtF tab.init tab.ng Tryz.prog 192 (Zg9 183 185):=by
 intro n0 w0 hI hn vs H v H' hk D s w xs hg hxs hS hG hf
 ·have hbn:n0<=w.heap.size:=Nat.le_trans hn hS.below.size
  unfold Zg9 at hk
  split at hk
  ·rename_i g c
   split at hk
   ·rename_i hgk
    subst hgk
    split at hk
    ·rename_i e ro hst hgc
     cases hk
     obtain ⟨ha,hc⟩:=Zxi (s1:=fun _=>s c) hxs rfl
     have hr:=(hS.row c e 1 ro [.nilm] hc hgc).lt
     refine (Zpq (v:=.nils) Yc8 evN4 (by kernel_rfl) (Zqd _ _) ha (satA hS hst hc hgc rfl (fun x h=>(by cases h;exact .nilm)) rfl (.inl rfl)) (fun b _=>hr)).mono fun e' w' he=>?_
     obtain ⟨x,rfl,s',hs,hv⟩:=he
     cases hv
     exact ⟨s,U1 hS hn hs.sat.below (fun b hb o h1 h2=>hS.lt hb (by unfold Al;rw [h1,hst];cases o<;>first | trivial | simp | exact absurd rfl h2)),.nils⟩
    ·rename_i e ro b hst hgc
     obtain ⟨ha,hc⟩:=Zxi (s1:=fun i=>if i=1 then s b else s c) hxs rfl
     have hrc:=hS.row c e 1 ro [.mp b] hc hgc
     have hr:=hrc.lt
     obtain ⟨⟨C,et,fz,_,_,h3,_⟩,_⟩:=hrc
     obtain ⟨x0,_,hx0⟩:=h3 0 (.mp b) rfl
     have hDb:D b:=by cases hx0;assumption
     have hmv:∀ x,Rv D s (.mp b) x->Rv DA (fun i=>if i=1 then s b else s c) (.mp 1) x:=fun x h=>by
      cases h
      exact Rv.mp (D:=DA) (s:=fun i=>if i=1 then s b else s c) 1 (show (1:Nat) < 2 by decide)
     split at hk
     ·rename_i ro' cl hgb
      cases hk
      obtain ⟨ents,hh,hes,_⟩:=hS.map b ro' [] cl hDb hgb
      refine (Zpq (v:=.nils) (Yav cl) (evE4 cl) (by kernel_rfl) (Zqd _ _) ha (satA hS hst hc hgc rfl hmv rfl (.inr ⟨_,_,rfl,ents,hh,(by cases hes'' : ents.toList with
       | nil=>exact .nil
       | cons y ys=>rw [hes''] at hes;cases hes)⟩)) (fun i hi=>?_)).mono fun e' w' he=>?_
      ·show (if i=1 then s b else s c).b < _
       split
       ·exact Zt hh
       ·exact hr
      ·obtain ⟨x,rfl,s',hs,hv⟩:=he
       cases hv
       exact ⟨s,U1 hS hn hs.sat.below (fun b hb o h1 h2=>hS.lt hb (by unfold Al;rw [h1,hst];cases o<;>first | trivial | simp | exact absurd rfl h2)),.nils⟩
     ·rename_i ro' k0 n0' k1 n1 t q0 m0 q1 m1 u hgb
      cases hk
      obtain ⟨ents,hh,hes,_⟩:=hS.map b ro' _ _ hDb hgb
      refine (Zpq (v:=.sl 7 0 1 none 3) (Z90 k0 k1 q0 q1 n0' n1 m0 m1 t u) (evO6 k0 k1 q0 q1 n0' n1 m0 m1 t u) (by kernel_rfl) (Zqd _ _) ha (satA hS hst hc hgc rfl hmv rfl (.inr ⟨_,_,rfl,ents,hh,?_⟩)) (fun i hi=>?_)).mono fun e' w' he=>?_
      ·generalize ents.toList=es at hes
       cases hes with
       | cons _ _ _ x y _ fs h1 h2 h3 =>
        cases h3
        exact .cons _ _ _ _ _ _ _ (Zj1 h1) (Zj1 h2) .nil
      ·show (if i=1 then s b else s c).b < _
       split
       ·exact Zt hh
       ·exact hr
      ·obtain ⟨x,rfl,s',hs,hv⟩:=he
       have hN:(hO5 k0 k1 q0 q1 n0' n1 m0 m1 t u).next=8:=by kernel_rfl
       have h7:(hO5 k0 k1 q0 q1 n0' n1 m0 m1 t u).get 7=some (.row 185 3 false [.int k0 n0',.int k1 n1,.str t]):=by kernel_rfl
       have hs7:(hO5 k0 k1 q0 q1 n0' n1 m0 m1 t u).stale=[]:=by kernel_rfl
       have hD7:Dn DA (hA (.mp 1) (some (.map true [(.agg [.int k0 n0',.int k1 n1,.str t],.agg [.int q0 m0,.int q1 m1,.str u],0)] 1))).next (hO5 k0 k1 q0 q1 n0' n1 m0 m1 t u).next 7:=.inr ⟨by show 2<=7;decide,by rw [hN];decide⟩
       have hr7:=hs.sat.row 7 _ _ _ _ hD7 h7
       rw [hs7] at hr7
       have hge:w.heap.size<=(s' 7).b:=by
        rcases hs.new 7 (by show 2<=7;decide) (by rw [hN];decide) with h | ⟨c',h1,h2,_⟩
        ·exact h
        ·exact absurd h2 (noOw (.inr ⟨_,_,rfl⟩) h1)
       have hfn:¬ D H.next:=hf _ (Nat.le_refl _) (by rw [Hp.next_new];omega)
       have hrow:RowAt (Dn D H.next (H.next+1)) (upd s H.next (s' 7)) n0 w' (s' 7) 185 3 false [.int k0 n0',.int k1 n1,.str t]:=by
        obtain ⟨⟨C,et,fz,g1,g2,g3,g4⟩,g5,g6,g7,g8⟩:=hr7
        refine ⟨⟨C,et,fz,g1,g2,fun i v hv'=>?_,fun _=>g4 rfl⟩,g5,g6,g7,fun _=>Nat.le_trans hbn hge⟩
        obtain ⟨y,hy,hrv⟩:=g3 i v hv'
        refine ⟨y,hy,?_⟩
        match i,hv' with
        | 0,hv'=>cases hv';exact Zb7 hrv
        | 1,hv'=>cases hv';exact Zb7 hrv
        | 2,hv'=>cases hv';exact Zkb hrv
        | i+3,hv'=>simp at hv'
       refine ⟨upd s H.next (s' 7),Zp9 hS hst hn hfn hs.sat.below hge hrow,?_⟩
       cases hv with
       | sln _ _ _ _ e1 e2 e3 e4 e5 =>
        have hDH:Dn D H.next (H.new (.row 185 3 false [.int k0 n0',.int k1 n1,.str t])).next H.next:=.inr ⟨Nat.le_refl _,by rw [Hp.next_new];omega⟩
        have:=Rv.sln (s:=upd s H.next (s' 7)) H.next 0 1 3 hDH (by rw [Zy];exact e2) e3 e4 (by rw [Zy];exact e5)
        rw [Zy] at this
        exact this
     ·cases hk
    ·cases hk
   ·cases hk
  ·cases hk
end Go.AM.YtlillgmgpmbfnaaGreatDoorT
namespace Go.Proofs
open Go.Shelf
def Tryz.lays137_ren:Go.Shelf.Ren:=⟨fun | 137=>117 | 217=>121 | 266=>158 | n=>n,fun | 9=>9 | 5=>5 | 3=>3 | n=>n,fun | n=>n⟩
theorem Tryz.lays137:Go.Proofs.Lays.n137 Tryz.prog Tryz.lays137_ren:={
 mixed:=by kernel_rfl
 f137:=Tryz.func117.trans (congrArg some (by kernel_rfl))
 f217:=Tryz.func121.trans (congrArg some (by kernel_rfl))
 f266:=Tryz.func158.trans (congrArg some (by kernel_rfl))
 t3:=Tryz.underlying3
 a3:=Tryz.isAgg3
 z3:=Tryz.sizeOf3
 v3:=Tryz.zeroValue3
 t5:=Tryz.underlying5
 a5:=Tryz.isAgg5
 z5:=Tryz.sizeOf5
 v5:=Tryz.zeroValue5
 t9:=Tryz.underlying9
 a9:=Tryz.isAgg9
 z9:=Tryz.sizeOf9
 v9:=Tryz.zeroValue9 }
def Tryz.laysM316_ren:Go.Shelf.Ren:=⟨fun | 316=>197 | n=>n,fun | 9=>9 | 3=>3 | 4=>4 | 37=>60 | 0=>0 | 127=>114 | 5=>5 | n=>n,fun | n=>n⟩
theorem Tryz.laysM316:Go.Proofs.LaysM.n316 Tryz.prog Tryz.laysM316_ren:={
 mixed:=by kernel_rfl
 f316:=Tryz.func197.trans (congrArg some (by kernel_rfl))
 t0:=Tryz.underlying0
 a0:=Tryz.isAgg0
 z0:=Tryz.sizeOf0
 v0:=Tryz.zeroValue0
 t3:=Tryz.underlying3
 a3:=Tryz.isAgg3
 z3:=Tryz.sizeOf3
 v3:=Tryz.zeroValue3
 t4:=Tryz.underlying4
 a4:=Tryz.isAgg4
 z4:=Tryz.sizeOf4
 v4:=Tryz.zeroValue4
 t9:=Tryz.underlying9
 a9:=Tryz.isAgg9
 z9:=Tryz.sizeOf9
 v9:=Tryz.zeroValue9
 t37:=Tryz.underlying60
 a37:=Tryz.isAgg60
 z37:=Tryz.sizeOf60
 v37:=Tryz.zeroValue60
 t127:=Tryz.underlying114
 a127:=Tryz.isAgg114
 z127:=Tryz.sizeOf114
 v127:=Tryz.zeroValue114
 t5:=Tryz.underlying5
 a5:=Tryz.isAgg5
 z5:=Tryz.sizeOf5
 v5:=Tryz.zeroValue5
 i0:=by kernel_rfl
 i3:=by kernel_rfl
 i4:=by kernel_rfl
 i5:=by kernel_rfl
 i9:=by kernel_rfl
 i37:=by kernel_rfl
 i127:=by kernel_rfl }
def Tryz.laysFmt_ren:Go.Shelf.Ren:=⟨fun | 173=>41 | 246=>70 | 283=>107 | 284=>108 | 285=>109 | 286=>110 | 129=>152 | 317=>151 | 318=>153 | 319=>154 | 320=>155 | 337=>175 | 338=>176 | n=>n,fun | 2=>2 | 3=>3 | 9=>9 | 4=>4 | 171=>164 | 0=>0 | 53=>136 | 37=>60 | 5=>5 | 173=>167 | 212=>199 | 51=>133 | 20=>20 | 213=>200 | 46=>99 | 232=>233 | 233=>234 | n=>n,fun | 17=>5 | 18=>10 | 19=>11 | n=>n⟩
theorem Tryz.laysFmt:Go.Proofs.LaysM.n173 Tryz.prog Tryz.laysFmt_ren:={
 mixed:=by kernel_rfl
 f129:=Tryz.func152.trans (congrArg some (by kernel_rfl))
 f173:=Tryz.func41.trans (congrArg some (by kernel_rfl))
 f246:=Tryz.func70.trans (congrArg some (by kernel_rfl))
 f283:=Tryz.func107.trans (congrArg some (by kernel_rfl))
 f284:=Tryz.func108.trans (congrArg some (by kernel_rfl))
 f285:=Tryz.func109.trans (congrArg some (by kernel_rfl))
 f286:=Tryz.func110.trans (congrArg some (by kernel_rfl))
 f317:=Tryz.func151.trans (congrArg some (by kernel_rfl))
 f318:=Tryz.func153.trans (congrArg some (by kernel_rfl))
 f319:=Tryz.func154.trans (congrArg some (by kernel_rfl))
 f320:=Tryz.func155.trans (congrArg some (by kernel_rfl))
 f337:=Tryz.func175.trans (congrArg some (by kernel_rfl))
 f338:=Tryz.func176.trans (congrArg some (by kernel_rfl))
 t0:=Tryz.underlying0
 a0:=Tryz.isAgg0
 z0:=Tryz.sizeOf0
 v0:=Tryz.zeroValue0
 t2:=Tryz.underlying2
 a2:=Tryz.isAgg2
 z2:=Tryz.sizeOf2
 v2:=Tryz.zeroValue2
 t3:=Tryz.underlying3
 a3:=Tryz.isAgg3
 z3:=Tryz.sizeOf3
 v3:=Tryz.zeroValue3
 t4:=Tryz.underlying4
 a4:=Tryz.isAgg4
 z4:=Tryz.sizeOf4
 v4:=Tryz.zeroValue4
 t5:=Tryz.underlying5
 a5:=Tryz.isAgg5
 z5:=Tryz.sizeOf5
 v5:=Tryz.zeroValue5
 t9:=Tryz.underlying9
 a9:=Tryz.isAgg9
 z9:=Tryz.sizeOf9
 v9:=Tryz.zeroValue9
 t20:=Tryz.underlying20
 a20:=Tryz.isAgg20
 z20:=Tryz.sizeOf20
 v20:=Tryz.zeroValue20
 t37:=Tryz.underlying60
 a37:=Tryz.isAgg60
 z37:=Tryz.sizeOf60
 v37:=Tryz.zeroValue60
 t46:=Tryz.underlying99
 a46:=Tryz.isAgg99
 z46:=Tryz.sizeOf99
 v46:=Tryz.zeroValue99
 t51:=Tryz.underlying133
 a51:=Tryz.isAgg133
 z51:=Tryz.sizeOf133
 v51:=Tryz.zeroValue133
 t53:=Tryz.underlying136
 a53:=Tryz.isAgg136
 z53:=Tryz.sizeOf136
 v53:=Tryz.zeroValue136
 t171:=Tryz.underlying164
 a171:=Tryz.isAgg164
 z171:=Tryz.sizeOf164
 v171:=Tryz.zeroValue164
 t173:=Tryz.underlying167
 a173:=Tryz.isAgg167
 z173:=Tryz.sizeOf167
 v173:=Tryz.zeroValue167
 t212:=Tryz.underlying199
 a212:=Tryz.isAgg199
 z212:=Tryz.sizeOf199
 v212:=Tryz.zeroValue199
 t213:=Tryz.underlying200
 a213:=Tryz.isAgg200
 z213:=Tryz.sizeOf200
 t232:=Tryz.underlying233
 a232:=Tryz.isAgg233
 z232:=Tryz.sizeOf233
 v232:=Tryz.zeroValue233
 t233:=Tryz.underlying234
 a233:=Tryz.isAgg234
 z233:=Tryz.sizeOf234
 v233:=Tryz.zeroValue234
 g17:=by kernel_rfl
 g18:=by kernel_rfl
 g19:=by kernel_rfl
 i0:=by kernel_rfl
 i2:=by kernel_rfl
 i3:=by kernel_rfl
 i4:=by kernel_rfl
 i5:=by kernel_rfl
 i9:=by kernel_rfl
 i20:=by kernel_rfl
 i37:=by kernel_rfl
 i46:=by kernel_rfl
 i51:=by kernel_rfl
 i53:=by kernel_rfl
 i171:=by kernel_rfl
 i173:=by kernel_rfl
 i212:=by kernel_rfl
 i232:=by kernel_rfl
 i233:=by kernel_rfl
 m17:=by kernel_rfl
 m18:=by kernel_rfl
 m19:=by kernel_rfl }
def Tryz.laysItoa_ren:Go.Shelf.Ren:=⟨fun | 171=>45 | 243=>72 | 246=>70 | 283=>107 | 284=>108 | 285=>109 | 286=>110 | 129=>152 | 317=>151 | 318=>153 | 319=>154 | 320=>155 | 337=>175 | 338=>176 | n=>n,fun | 3=>3 | 9=>9 | 2=>2 | 4=>4 | 171=>164 | 0=>0 | 53=>136 | 37=>60 | 5=>5 | 173=>167 | 212=>199 | 51=>133 | 20=>20 | 213=>200 | 46=>99 | 232=>233 | 233=>234 | n=>n,fun | 17=>5 | 18=>10 | 19=>11 | n=>n⟩
theorem Tryz.laysItoa:Go.Proofs.LaysM.n171 Tryz.prog Tryz.laysItoa_ren:={
 mixed:=by kernel_rfl
 f129:=Tryz.func152.trans (congrArg some (by kernel_rfl))
 f171:=Tryz.func45.trans (congrArg some (by kernel_rfl))
 f243:=Tryz.func72.trans (congrArg some (by kernel_rfl))
 f246:=Tryz.func70.trans (congrArg some (by kernel_rfl))
 f283:=Tryz.func107.trans (congrArg some (by kernel_rfl))
 f284:=Tryz.func108.trans (congrArg some (by kernel_rfl))
 f285:=Tryz.func109.trans (congrArg some (by kernel_rfl))
 f286:=Tryz.func110.trans (congrArg some (by kernel_rfl))
 f317:=Tryz.func151.trans (congrArg some (by kernel_rfl))
 f318:=Tryz.func153.trans (congrArg some (by kernel_rfl))
 f319:=Tryz.func154.trans (congrArg some (by kernel_rfl))
 f320:=Tryz.func155.trans (congrArg some (by kernel_rfl))
 f337:=Tryz.func175.trans (congrArg some (by kernel_rfl))
 f338:=Tryz.func176.trans (congrArg some (by kernel_rfl))
 t0:=Tryz.underlying0
 a0:=Tryz.isAgg0
 z0:=Tryz.sizeOf0
 v0:=Tryz.zeroValue0
 t2:=Tryz.underlying2
 a2:=Tryz.isAgg2
 z2:=Tryz.sizeOf2
 v2:=Tryz.zeroValue2
 t3:=Tryz.underlying3
 a3:=Tryz.isAgg3
 z3:=Tryz.sizeOf3
 v3:=Tryz.zeroValue3
 t4:=Tryz.underlying4
 a4:=Tryz.isAgg4
 z4:=Tryz.sizeOf4
 v4:=Tryz.zeroValue4
 t5:=Tryz.underlying5
 a5:=Tryz.isAgg5
 z5:=Tryz.sizeOf5
 v5:=Tryz.zeroValue5
 t9:=Tryz.underlying9
 a9:=Tryz.isAgg9
 z9:=Tryz.sizeOf9
 v9:=Tryz.zeroValue9
 t20:=Tryz.underlying20
 a20:=Tryz.isAgg20
 z20:=Tryz.sizeOf20
 v20:=Tryz.zeroValue20
 t37:=Tryz.underlying60
 a37:=Tryz.isAgg60
 z37:=Tryz.sizeOf60
 v37:=Tryz.zeroValue60
 t46:=Tryz.underlying99
 a46:=Tryz.isAgg99
 z46:=Tryz.sizeOf99
 v46:=Tryz.zeroValue99
 t51:=Tryz.underlying133
 a51:=Tryz.isAgg133
 z51:=Tryz.sizeOf133
 v51:=Tryz.zeroValue133
 t53:=Tryz.underlying136
 a53:=Tryz.isAgg136
 z53:=Tryz.sizeOf136
 v53:=Tryz.zeroValue136
 t171:=Tryz.underlying164
 a171:=Tryz.isAgg164
 z171:=Tryz.sizeOf164
 v171:=Tryz.zeroValue164
 t173:=Tryz.underlying167
 a173:=Tryz.isAgg167
 z173:=Tryz.sizeOf167
 v173:=Tryz.zeroValue167
 t212:=Tryz.underlying199
 a212:=Tryz.isAgg199
 z212:=Tryz.sizeOf199
 v212:=Tryz.zeroValue199
 t213:=Tryz.underlying200
 a213:=Tryz.isAgg200
 z213:=Tryz.sizeOf200
 t232:=Tryz.underlying233
 a232:=Tryz.isAgg233
 z232:=Tryz.sizeOf233
 v232:=Tryz.zeroValue233
 t233:=Tryz.underlying234
 a233:=Tryz.isAgg234
 z233:=Tryz.sizeOf234
 v233:=Tryz.zeroValue234
 g17:=by kernel_rfl
 g18:=by kernel_rfl
 g19:=by kernel_rfl
 i0:=by kernel_rfl
 i2:=by kernel_rfl
 i3:=by kernel_rfl
 i4:=by kernel_rfl
 i5:=by kernel_rfl
 i9:=by kernel_rfl
 i20:=by kernel_rfl
 i37:=by kernel_rfl
 i46:=by kernel_rfl
 i51:=by kernel_rfl
 i53:=by kernel_rfl
 i171:=by kernel_rfl
 i173:=by kernel_rfl
 i212:=by kernel_rfl
 i232:=by kernel_rfl
 i233:=by kernel_rfl
 m17:=by kernel_rfl
 m18:=by kernel_rfl
 m19:=by kernel_rfl }
def Tryz.laysPi_ren:Go.Shelf.Ren:=⟨fun | 174=>156 | 247=>177 | 245=>178 | 287=>184 | 279=>185 | 280=>186 | 281=>187 | 282=>188 | 321=>195 | 322=>196 | 316=>197 | 171=>45 | 205=>198 | 243=>72 | 246=>70 | 283=>107 | 284=>108 | 285=>109 | 286=>110 | 129=>152 | 317=>151 | 318=>153 | 319=>154 | 320=>155 | 337=>175 | 338=>176 | n=>n,fun | 9=>9 | 3=>3 | 2=>2 | 75=>73 | 85=>202 | 4=>4 | 167=>235 | 5=>5 | 53=>136 | 175=>236 | 46=>99 | 168=>238 | 37=>60 | 0=>0 | 210=>246 | 21=>21 | 127=>114 | 145=>259 | 143=>257 | 171=>164 | 173=>167 | 212=>199 | 51=>133 | 20=>20 | 213=>200 | 232=>233 | 233=>234 | 80=>31 | n=>n,fun | 15=>12 | 16=>13 | 17=>5 | 18=>10 | 19=>11 | n=>n⟩
theorem Tryz.laysPi:Go.Proofs.LaysC.n174 Tryz.prog Tryz.laysPi_ren:={
 mixed:=by kernel_rfl
 f129:=Tryz.func152.trans (congrArg some (by kernel_rfl))
 f171:=Tryz.func45.trans (congrArg some (by kernel_rfl))
 f174:=Tryz.func156.trans (congrArg some (by kernel_rfl))
 f205:=Tryz.func198.trans (congrArg some (by kernel_rfl))
 f243:=Tryz.func72.trans (congrArg some (by kernel_rfl))
 f245:=Tryz.func178.trans (congrArg some (by kernel_rfl))
 f246:=Tryz.func70.trans (congrArg some (by kernel_rfl))
 f247:=Tryz.func177.trans (congrArg some (by kernel_rfl))
 f279:=Tryz.func185.trans (congrArg some (by kernel_rfl))
 f280:=Tryz.func186.trans (congrArg some (by kernel_rfl))
 f281:=Tryz.func187.trans (congrArg some (by kernel_rfl))
 f282:=Tryz.func188.trans (congrArg some (by kernel_rfl))
 f283:=Tryz.func107.trans (congrArg some (by kernel_rfl))
 f284:=Tryz.func108.trans (congrArg some (by kernel_rfl))
 f285:=Tryz.func109.trans (congrArg some (by kernel_rfl))
 f286:=Tryz.func110.trans (congrArg some (by kernel_rfl))
 f287:=Tryz.func184.trans (congrArg some (by kernel_rfl))
 f316:=Tryz.func197.trans (congrArg some (by kernel_rfl))
 f317:=Tryz.func151.trans (congrArg some (by kernel_rfl))
 f318:=Tryz.func153.trans (congrArg some (by kernel_rfl))
 f319:=Tryz.func154.trans (congrArg some (by kernel_rfl))
 f320:=Tryz.func155.trans (congrArg some (by kernel_rfl))
 f321:=Tryz.func195.trans (congrArg some (by kernel_rfl))
 f322:=Tryz.func196.trans (congrArg some (by kernel_rfl))
 f337:=Tryz.func175.trans (congrArg some (by kernel_rfl))
 f338:=Tryz.func176.trans (congrArg some (by kernel_rfl))
 t0:=Tryz.underlying0
 a0:=Tryz.isAgg0
 z0:=Tryz.sizeOf0
 v0:=Tryz.zeroValue0
 t2:=Tryz.underlying2
 a2:=Tryz.isAgg2
 z2:=Tryz.sizeOf2
 v2:=Tryz.zeroValue2
 t3:=Tryz.underlying3
 a3:=Tryz.isAgg3
 z3:=Tryz.sizeOf3
 v3:=Tryz.zeroValue3
 t4:=Tryz.underlying4
 a4:=Tryz.isAgg4
 z4:=Tryz.sizeOf4
 v4:=Tryz.zeroValue4
 t5:=Tryz.underlying5
 a5:=Tryz.isAgg5
 z5:=Tryz.sizeOf5
 v5:=Tryz.zeroValue5
 t9:=Tryz.underlying9
 a9:=Tryz.isAgg9
 z9:=Tryz.sizeOf9
 v9:=Tryz.zeroValue9
 t20:=Tryz.underlying20
 a20:=Tryz.isAgg20
 z20:=Tryz.sizeOf20
 v20:=Tryz.zeroValue20
 t21:=Tryz.underlying21
 a21:=Tryz.isAgg21
 z21:=Tryz.sizeOf21
 v21:=Tryz.zeroValue21
 t37:=Tryz.underlying60
 a37:=Tryz.isAgg60
 z37:=Tryz.sizeOf60
 v37:=Tryz.zeroValue60
 t46:=Tryz.underlying99
 a46:=Tryz.isAgg99
 z46:=Tryz.sizeOf99
 v46:=Tryz.zeroValue99
 t51:=Tryz.underlying133
 a51:=Tryz.isAgg133
 z51:=Tryz.sizeOf133
 v51:=Tryz.zeroValue133
 t53:=Tryz.underlying136
 a53:=Tryz.isAgg136
 z53:=Tryz.sizeOf136
 v53:=Tryz.zeroValue136
 t75:=Tryz.underlying73
 a75:=Tryz.isAgg73
 z75:=Tryz.sizeOf73
 v75:=Tryz.zeroValue73
 t85:=Tryz.underlying202
 a85:=Tryz.isAgg202
 z85:=Tryz.sizeOf202
 v85:=Tryz.zeroValue202
 t127:=Tryz.underlying114
 a127:=Tryz.isAgg114
 z127:=Tryz.sizeOf114
 v127:=Tryz.zeroValue114
 t143:=Tryz.underlying257
 a143:=Tryz.isAgg257
 z143:=Tryz.sizeOf257
 v143:=Tryz.zeroValue257
 t145:=Tryz.underlying259
 a145:=Tryz.isAgg259
 z145:=Tryz.sizeOf259
 v145:=Tryz.zeroValue259
 t167:=Tryz.underlying235
 a167:=Tryz.isAgg235
 z167:=Tryz.sizeOf235
 v167:=Tryz.zeroValue235
 t168:=Tryz.underlying238
 a168:=Tryz.isAgg238
 z168:=Tryz.sizeOf238
 v168:=Tryz.zeroValue238
 t171:=Tryz.underlying164
 a171:=Tryz.isAgg164
 z171:=Tryz.sizeOf164
 v171:=Tryz.zeroValue164
 t173:=Tryz.underlying167
 a173:=Tryz.isAgg167
 z173:=Tryz.sizeOf167
 v173:=Tryz.zeroValue167
 t175:=Tryz.underlying236
 a175:=Tryz.isAgg236
 z175:=Tryz.sizeOf236
 v175:=Tryz.zeroValue236
 t210:=Tryz.underlying246
 a210:=Tryz.isAgg246
 z210:=Tryz.sizeOf246
 v210:=Tryz.zeroValue246
 t212:=Tryz.underlying199
 a212:=Tryz.isAgg199
 z212:=Tryz.sizeOf199
 v212:=Tryz.zeroValue199
 t213:=Tryz.underlying200
 a213:=Tryz.isAgg200
 z213:=Tryz.sizeOf200
 t232:=Tryz.underlying233
 a232:=Tryz.isAgg233
 z232:=Tryz.sizeOf233
 v232:=Tryz.zeroValue233
 t233:=Tryz.underlying234
 a233:=Tryz.isAgg234
 z233:=Tryz.sizeOf234
 v233:=Tryz.zeroValue234
 g15:=by kernel_rfl
 g16:=by kernel_rfl
 g17:=by kernel_rfl
 g18:=by kernel_rfl
 g19:=by kernel_rfl
 t80:=Tryz.underlying31
 a80:=Tryz.isAgg31
 z80:=Tryz.sizeOf31
 v80:=Tryz.zeroValue31
 i0:=by kernel_rfl
 i2:=by kernel_rfl
 i3:=by kernel_rfl
 i4:=by kernel_rfl
 i5:=by kernel_rfl
 i9:=by kernel_rfl
 i20:=by kernel_rfl
 i21:=by kernel_rfl
 i37:=by kernel_rfl
 i46:=by kernel_rfl
 i51:=by kernel_rfl
 i53:=by kernel_rfl
 i75:=by kernel_rfl
 i80:=by kernel_rfl
 i85:=by kernel_rfl
 i127:=by kernel_rfl
 i143:=by kernel_rfl
 i145:=by kernel_rfl
 i167:=by kernel_rfl
 i168:=by kernel_rfl
 i171:=by kernel_rfl
 i173:=by kernel_rfl
 i175:=by kernel_rfl
 i210:=by kernel_rfl
 i212:=by kernel_rfl
 i232:=by kernel_rfl
 i233:=by kernel_rfl
 m15:=by kernel_rfl
 m16:=by kernel_rfl
 m17:=by kernel_rfl
 m18:=by kernel_rfl
 m19:=by kernel_rfl
 c0:=by kernel_rfl
 c2:=by kernel_rfl
 c3:=by kernel_rfl
 c4:=by kernel_rfl
 c5:=by kernel_rfl
 c9:=by kernel_rfl
 c20:=by kernel_rfl
 c21:=by kernel_rfl
 c37:=by kernel_rfl
 c46:=by kernel_rfl
 c51:=by kernel_rfl
 c53:=by kernel_rfl
 c75:=by kernel_rfl
 c80:=by kernel_rfl
 c85:=by kernel_rfl
 c127:=by kernel_rfl
 c143:=by kernel_rfl
 c145:=by kernel_rfl
 c167:=by kernel_rfl
 c168:=by kernel_rfl
 c171:=by kernel_rfl
 c173:=by kernel_rfl
 c175:=by kernel_rfl
 c210:=by kernel_rfl
 c212:=by kernel_rfl
 c213:=by kernel_rfl
 c232:=by kernel_rfl
 c233:=by kernel_rfl }
def Tryz.laysRep_ren:Go.Shelf.Ren:=⟨fun | 105=>31 | 212=>58 | 99=>59 | 165=>60 | 166=>39 | 170=>61 | 169=>40 | 263=>89 | 264=>90 | 206=>91 | 240=>69 | 241=>92 | 276=>106 | 277=>138 | n=>n,fun | 9=>9 | 3=>3 | 4=>4 | 20=>20 | 0=>0 | 46=>99 | 109=>100 | 5=>5 | 72=>71 | 76=>74 | 51=>133 | 146=>134 | 53=>136 | 148=>137 | 70=>69 | 37=>60 | 75=>73 | 127=>114 | 164=>162 | 80=>31 | n=>n,fun | n=>n⟩
theorem Tryz.laysRep:Go.Proofs.Lays.n105 Tryz.prog Tryz.laysRep_ren:={
 mixed:=by kernel_rfl
 f99:=Tryz.func59.trans (congrArg some (by kernel_rfl))
 f105:=Tryz.func31.trans (congrArg some (by kernel_rfl))
 f165:=Tryz.func60.trans (congrArg some (by kernel_rfl))
 f166:=Tryz.func39.trans (congrArg some (by kernel_rfl))
 f169:=Tryz.func40.trans (congrArg some (by kernel_rfl))
 f170:=Tryz.func61.trans (congrArg some (by kernel_rfl))
 f206:=Tryz.func91.trans (congrArg some (by kernel_rfl))
 f212:=Tryz.func58.trans (congrArg some (by kernel_rfl))
 f240:=Tryz.func69.trans (congrArg some (by kernel_rfl))
 f241:=Tryz.func92.trans (congrArg some (by kernel_rfl))
 f263:=Tryz.func89.trans (congrArg some (by kernel_rfl))
 f264:=Tryz.func90.trans (congrArg some (by kernel_rfl))
 f276:=Tryz.func106.trans (congrArg some (by kernel_rfl))
 f277:=Tryz.func138.trans (congrArg some (by kernel_rfl))
 t0:=Tryz.underlying0
 a0:=Tryz.isAgg0
 z0:=Tryz.sizeOf0
 v0:=Tryz.zeroValue0
 t3:=Tryz.underlying3
 a3:=Tryz.isAgg3
 z3:=Tryz.sizeOf3
 v3:=Tryz.zeroValue3
 t4:=Tryz.underlying4
 a4:=Tryz.isAgg4
 z4:=Tryz.sizeOf4
 v4:=Tryz.zeroValue4
 t5:=Tryz.underlying5
 a5:=Tryz.isAgg5
 z5:=Tryz.sizeOf5
 v5:=Tryz.zeroValue5
 t9:=Tryz.underlying9
 a9:=Tryz.isAgg9
 z9:=Tryz.sizeOf9
 v9:=Tryz.zeroValue9
 t20:=Tryz.underlying20
 a20:=Tryz.isAgg20
 z20:=Tryz.sizeOf20
 v20:=Tryz.zeroValue20
 t37:=Tryz.underlying60
 a37:=Tryz.isAgg60
 z37:=Tryz.sizeOf60
 v37:=Tryz.zeroValue60
 t46:=Tryz.underlying99
 a46:=Tryz.isAgg99
 z46:=Tryz.sizeOf99
 v46:=Tryz.zeroValue99
 t51:=Tryz.underlying133
 a51:=Tryz.isAgg133
 z51:=Tryz.sizeOf133
 v51:=Tryz.zeroValue133
 t53:=Tryz.underlying136
 a53:=Tryz.isAgg136
 z53:=Tryz.sizeOf136
 v53:=Tryz.zeroValue136
 t70:=Tryz.underlying69
 a70:=Tryz.isAgg69
 z70:=Tryz.sizeOf69
 v70:=Tryz.zeroValue69
 t72:=Tryz.underlying71
 a72:=Tryz.isAgg71
 z72:=Tryz.sizeOf71
 v72:=Tryz.zeroValue71
 t75:=Tryz.underlying73
 a75:=Tryz.isAgg73
 z75:=Tryz.sizeOf73
 v75:=Tryz.zeroValue73
 t76:=Tryz.underlying74
 a76:=Tryz.isAgg74
 z76:=Tryz.sizeOf74
 v76:=Tryz.zeroValue74
 t109:=Tryz.underlying100
 a109:=Tryz.isAgg100
 z109:=Tryz.sizeOf100
 v109:=Tryz.zeroValue100
 t127:=Tryz.underlying114
 a127:=Tryz.isAgg114
 z127:=Tryz.sizeOf114
 v127:=Tryz.zeroValue114
 t146:=Tryz.underlying134
 a146:=Tryz.isAgg134
 z146:=Tryz.sizeOf134
 v146:=Tryz.zeroValue134
 t148:=Tryz.underlying137
 a148:=Tryz.isAgg137
 z148:=Tryz.sizeOf137
 v148:=Tryz.zeroValue137
 t164:=Tryz.underlying162
 a164:=Tryz.isAgg162
 z164:=Tryz.sizeOf162
 v164:=Tryz.zeroValue162 }
def Tryz.laysJoin_ren:Go.Shelf.Ren:=⟨fun | 156=>44 | 165=>60 | 166=>39 | 169=>40 | 240=>69 | 241=>92 | 276=>106 | 277=>138 | n=>n,fun | 31=>33 | 9=>9 | 3=>3 | 4=>4 | 0=>0 | 20=>20 | 72=>71 | 76=>74 | 70=>69 | 37=>60 | 75=>73 | 127=>114 | 164=>162 | 5=>5 | 80=>31 | n=>n,fun | n=>n⟩
theorem Tryz.laysJoin:Go.Proofs.Lays.n156 Tryz.prog Tryz.laysJoin_ren:={
 mixed:=by kernel_rfl
 f156:=Tryz.func44.trans (congrArg some (by kernel_rfl))
 f165:=Tryz.func60.trans (congrArg some (by kernel_rfl))
 f166:=Tryz.func39.trans (congrArg some (by kernel_rfl))
 f169:=Tryz.func40.trans (congrArg some (by kernel_rfl))
 f240:=Tryz.func69.trans (congrArg some (by kernel_rfl))
 f241:=Tryz.func92.trans (congrArg some (by kernel_rfl))
 f276:=Tryz.func106.trans (congrArg some (by kernel_rfl))
 f277:=Tryz.func138.trans (congrArg some (by kernel_rfl))
 t0:=Tryz.underlying0
 a0:=Tryz.isAgg0
 z0:=Tryz.sizeOf0
 v0:=Tryz.zeroValue0
 t3:=Tryz.underlying3
 a3:=Tryz.isAgg3
 z3:=Tryz.sizeOf3
 v3:=Tryz.zeroValue3
 t4:=Tryz.underlying4
 a4:=Tryz.isAgg4
 z4:=Tryz.sizeOf4
 v4:=Tryz.zeroValue4
 t9:=Tryz.underlying9
 a9:=Tryz.isAgg9
 z9:=Tryz.sizeOf9
 v9:=Tryz.zeroValue9
 t20:=Tryz.underlying20
 a20:=Tryz.isAgg20
 z20:=Tryz.sizeOf20
 v20:=Tryz.zeroValue20
 t31:=Tryz.underlying33
 a31:=Tryz.isAgg33
 z31:=Tryz.sizeOf33
 v31:=Tryz.zeroValue33
 t37:=Tryz.underlying60
 a37:=Tryz.isAgg60
 z37:=Tryz.sizeOf60
 v37:=Tryz.zeroValue60
 t70:=Tryz.underlying69
 a70:=Tryz.isAgg69
 z70:=Tryz.sizeOf69
 v70:=Tryz.zeroValue69
 t72:=Tryz.underlying71
 a72:=Tryz.isAgg71
 z72:=Tryz.sizeOf71
 v72:=Tryz.zeroValue71
 t75:=Tryz.underlying73
 a75:=Tryz.isAgg73
 z75:=Tryz.sizeOf73
 v75:=Tryz.zeroValue73
 t76:=Tryz.underlying74
 a76:=Tryz.isAgg74
 z76:=Tryz.sizeOf74
 v76:=Tryz.zeroValue74
 t127:=Tryz.underlying114
 a127:=Tryz.isAgg114
 z127:=Tryz.sizeOf114
 v127:=Tryz.zeroValue114
 t164:=Tryz.underlying162
 a164:=Tryz.isAgg162
 z164:=Tryz.sizeOf162
 v164:=Tryz.zeroValue162 }
end Go.Proofs
set_option maxRecDepth 100000
set_option maxHeartbeats 1000000
namespace Go.AM.YtlillgmgpmbfnaaGreatDoorT
open Go Go.AM Go.RowKit Go.Proofs Go.Shelf
theorem Z0u:sameLayout Tryz.prog Tryz.prog.depth 71 71=true:=by kernel_rfl
theorem Zmi:Tryz.prog.cellsOf 71=2:=by kernel_rfl
theorem Zvx:∃ d,Tryz.prog.depth=d+1:=⟨Tryz.prog.depth-1,by have:0 < Tryz.prog.depth:=of_decide_eq_true (by kernel_rfl);omega⟩
theorem Z02 (n:Nat) (h:1<=n):liesAt Tryz.prog Tryz.prog.depth 71 n 0 71 1=true:=by
 obtain ⟨d,hd⟩:=Zvx
 have hs:=Z0u
 rw [hd] at hs
 rw [hd,liesAt,hd,rowAt]
 simp [Zmi,hs,h]
theorem Zn5:(Tryz.prog.info? 71).map (·.size)=some 2:=by kernel_rfl
theorem Zmc (b c:Nat) (w:World) (h0:w.cell? ⟨b,0,none⟩=some (.pointer none)) (hsh:w.shape? b=some (71,c)) (hc:2<=c) (hfz:w.frozen? ⟨b,0,none⟩=false) :
  Calls Tryz.prog 69 #[.pointer (some ⟨b,0,none⟩)] w fun e w'=>e = .returned (.tuple #[])/\w' = w.setCell ⟨b,0,none⟩ (.pointer (some ⟨b,0,none⟩)):=by
 obtain ⟨j,hj,hjs⟩:=Option.map_eq_some_iff.1 Zn5
 have hl:liesAt Tryz.prog Tryz.prog.depth 71 (c / Tryz.prog.cellsOf 71) 0 71 1=true:=by rw [Zmi];exact Z02 _ (by omega)
 go_enter Tryz.func69,Tryz.ntmps69
 go_wp2
 rw [Lib.run_to_unsafe w ⟨b,0,none⟩ Tryz.underlying69 Tryz.underlying162 hj (by rw [hjs];decide) hsh (by show 0 < c;omega)]
 simp only [Result.andThen]
 rw [Oper.upon_value]
 go_wp2
 rw [run_callFunc_extern Tryz.func106 (by kernel_rfl) (by kernel_rfl) (by kernel_rfl) (e:=Extern.AbiNoEscape.same) (by kernel_rfl)]
 rw [Lib.run_noEscape]
 simp only [Result.andThen]
 rw [Oper.upon_value]
 go_wp2
 rw [Lib.run_from_unsafe w ⟨b,0,none⟩ Tryz.underlying162 Tryz.underlying69 hj hsh hl]
 simp only [Result.andThen]
 rw [Oper.upon_value]
 go_wp2
 go_end0
 exact ⟨rfl,rfl⟩
theorem Z0f (b:Nat) (w:World) (h0:w.cell? ⟨b,0,none⟩=some (.pointer (some ⟨b,0,none⟩))) :
  Calls Tryz.prog 69 #[.pointer (some ⟨b,0,none⟩)] w fun e w'=>e = .returned (.tuple #[])/\w' = w:=by
 obtain ⟨j,hj,hjs⟩:=Option.map_eq_some_iff.1 Zn5
 go_enter Tryz.func69,Tryz.ntmps69
 go_wp2
 rw [Lib.run_neq_ptr_same w _ Tryz.underlying69 hj]
 go_wp2
 go_end0
 exact ⟨rfl,rfl⟩
theorem Zos {D:Nat->Prop} {s:Sg} {b:Nat} {xs:Array Value} (h:RvL D s [.ptr b 0] xs.toList):D b/\xs = #[.pointer (some ⟨(s b).b,(s b).base+0,none⟩)]:=by
 cases xs with
 | mk l =>
  cases h with
  | cons _ x _ _ h1 h2 =>
   cases h2
   cases h1 with
   | ptr _ _ hD=>exact ⟨hD,rfl⟩
theorem Zao {w:World} {B i:Nat} {C:Array Value} {e:TypeId} {fz:Nat×Nat} (h:w.heap[B]? = some (.cells C e fz)) (v:Value):(w.setCell ⟨B,i,none⟩ v).heap[B]? = some (.cells (C.setIfInBounds i v) e fz)/\But w (w.setCell ⟨B,i,none⟩ v) B:=by
 constructor
 ·simp [World.setCell,Array.getElem?_modify,h]
 ·exact ⟨rfl,rfl,rfl,by simp [World.setCell],fun k hk=>Below.heap_setCell _ _ _ k hk⟩
theorem ccF:ExtF tab.init tab.ng Tryz.prog 69 (ccE 71):=by
 intro n0 w0 hI hn vs H v H' hk D s w xs hg hxs hS hG hf
 unfold ccE at hk
 split at hk
 ·rename_i b
  obtain ⟨hD,rfl⟩:=Zos hxs
  split at hk
  ·rename_i e x hst hgb
   split at hk
   ·rename_i he
    subst he
    cases hk
    have hr:=hS.row b _ _ _ _ hD hgb
    rw [hst] at hr
    obtain ⟨C,fz,h1,h2,h3,h4,h5⟩:=RowAt.block hr
    obtain ⟨p,hp,hpr⟩:=h4 0 .nilp rfl
    obtain ⟨y,hy,hyr⟩:=h4 1 x rfl
    cases hpr
    have hlt:=(Array.getElem?_eq_some_iff.1 hy).1
    rw [h2]
    have hB:=Zao (i:=0) h1 (.pointer (some ⟨(s b).b,0,none⟩))
    refine (Zmc (s b).b C.size w (by simp [World.cell?,h1,hp]) (by simp [World.shape?,h1]) (by omega) (by simp [World.frozen?,h1];have:=h5 0 (by omega);omega)).mono fun e' w' he=>?_
    obtain ⟨rfl,rfl⟩:=he
    obtain ⟨hB1,hB2⟩:=hB
    have ho:Ow H b:=by unfold Ow;rw [hgb,hst];simp
    refine ⟨s,J3 hS hst hD ho hB2 ?_ (fun e sz ro cs he=>?_) (fun _ _ _ he=>by cases he) (fun _ _ _ _ he=>by cases he),.tup _ _ .nil⟩
    ·constructor
     ·rw [Jr,Hp.get_put,if_pos rfl];show b∉H.stale;simp [hst]
     ·unfold Ow;rw [Hp.get_put,if_pos rfl];show _/\b∉H.stale;simp [hst]
    ·cases he
     obtain ⟨g0,g5,g6,g7,g8⟩:=hr
     refine ⟨⟨_,_,_,hB1,by rw [h2,Array.size_setIfInBounds];omega,fun i v hv=>?_,fun _=>⟨fun i i1 i2=>h5 i (by rw [h2] at i2;omega),rfl,h2,by simpa using h3⟩⟩,g5,g6,by simp [oneV] at g7 ⊢;exact g7,g8⟩
     rw [h2,Nat.zero_add]
     match i,hv with
     | 0,hv =>
      cases hv
      have h0:0 < C.size:=by omega
      have:=Rv.ptr (s:=s) b 0 hD
      rw [h2] at this
      exact ⟨.pointer (some ⟨(s b).b,0,none⟩),by rw [Array.getElem?_setIfInBounds];simp [h0],this⟩
     | 1,hv =>
      cases hv
      exact ⟨y,by rw [Array.getElem?_setIfInBounds_ne (by decide)];exact hy,hyr⟩
     | i+2,hv=>simp at hv
   ·cases hk
  ·rename_i e b' x hst hgb
   split at hk
   ·rename_i he
    obtain ⟨rfl,rfl⟩:=he
    cases hk
    have hr:=hS.row b' _ _ _ _ hD hgb
    rw [hst] at hr
    obtain ⟨C,fz,h1,h2,h3,h4,h5⟩:=RowAt.block hr
    obtain ⟨p,hp,hpr⟩:=h4 0 (.ptr b' 0) rfl
    cases hpr
    rw [h2] at hp ⊢
    refine (Z0f (s b').b w (by simp [World.cell?,h1,hp])).mono fun e' w' he=>?_
    obtain ⟨rfl,rfl⟩:=he
    exact ⟨s,Step.refl hS,.tup _ _ .nil⟩
   ·cases hk
  ·cases hk
 ·cases hk
end Go.AM.YtlillgmgpmbfnaaGreatDoorT
namespace Go.Proofs
open Go.Shelf
end Go.Proofs
namespace Go.AM.YtlillgmgpmbfnaaGreatDoorT
open Go Go.AM Go.RowKit Go.Proofs Go.Shelf
theorem ix_f:Tryz.lays137_ren.f 137=117:=by kernel_rfl
theorem ixF:ExtF tab.init tab.ng Tryz.prog 117 (ixE Lib.indexByte):=by
 intro n0 w0 hI hn vs H v H' hk D s w xs hg hxs hS hG hf
 unfold ixE at hk
 split at hk
 ·rename_i t c
  cases hk
  cases xs with
  | mk l =>
   cases hxs with
   | cons _ x0 _ _ h1 h2 =>
    cases h2 with
    | cons _ x1 _ _ h3 h4 =>
     cases h4
     cases h1
     cases h3
     have:=Any.strings_IndexByte Tryz.lays137 ⟨t.toArray⟩ c w
     rw [ix_f] at this
     refine this.mono fun e' w' he=>?_
     obtain ⟨rfl,rfl⟩:=he
     exact ⟨s,Step.refl hS,.int _ _⟩
 ·cases hk
theorem Z2a:Tryz.prog.cellsOf 5=1:=by kernel_rfl
set_option maxHeartbeats 4000000 in
theorem Z5f (b g cap:Nat) (l:List UInt8) (c:Nat) (w:World) (h0:l≠[]) (hc1:w.cell? ⟨b,1,none⟩=some (.slice (some ⟨g,0,none⟩) l.length cap)) (hsh:w.shape? g=some (5,c)) (hlc:l.length<=c) (hcap:cap≠0) (h63:l.length<=9223372036854775807)
  (hcell:∀ j x,l[j]? = some x->w.cell? ((⟨g,0,none⟩:Addr).add j)=some (.int .u8 x.toNat)) :
  Calls Tryz.prog 40 #[.pointer (some ⟨b,0,none⟩)] w fun e w'=>e = .returned (.string ⟨l.toArray⟩)/\w' = w.drew.freeze ⟨g,0,none⟩ l.length:=by
 have c1:w.drew.cell? ⟨b,1,none⟩=some (.slice (some ⟨g,0,none⟩) l.length cap):=hc1
 have hSD:(Builtin.unsafeSliceData_ #[60] 114 #[.slice (some ⟨g,0,none⟩) l.length cap]).run Tryz.prog w.drew = .ok (.pointer (some ⟨g,0,none⟩)) w.drew :=
  Lib.run_unsafeSliceData_row _ _ _ _ _ _ hcap
 have hUS:(Builtin.unsafeString_ #[114,3] 9 #[.pointer (some ⟨g,0,none⟩),.int .i64 l.length]).run Tryz.prog w.drew = .ok (.string ⟨l.toArray⟩) (w.drew.freeze ⟨g,0,none⟩ l.length) :=
  Lib.run_unsafeString_row w.drew 114 3 9 5 Tryz.underlying114 Z2a g c hsh l h0 hlc h63 hcell
 go_enter Tryz.func40,Tryz.ntmps40
 go_wp2
 go_region
 all_goals (go_wp2;go_ret;exact ⟨rfl,rfl⟩)
set_option maxHeartbeats 4000000 in
theorem Z2f (b:Nat) (w:World) (hc1:w.cell? ⟨b,1,none⟩=some (.slice none 0 0)) :
  Calls Tryz.prog 40 #[.pointer (some ⟨b,0,none⟩)] w fun e w'=>e = .returned (.string ⟨#[]⟩)/\w' = w.drew:=by
 have c1:w.drew.cell? ⟨b,1,none⟩=some (.slice none 0 0):=hc1
 have hSD:(Builtin.unsafeSliceData_ #[60] 114 #[.slice none 0 0]).run Tryz.prog w.drew = .ok (.pointer none) w.drew:=rfl
 have hUS:(Builtin.unsafeString_ #[114,3] 9 #[.pointer none,.int .i64 0]).run Tryz.prog w.drew = .ok (.string .empty) w.drew:=Lib.run_unsafeString_none w.drew _ _ _ none
 go_enter Tryz.func40,Tryz.ntmps40
 go_wp2
 go_region
 all_goals (go_wp2;go_ret;exact ⟨rfl,rfl⟩)
theorem Zpa {w:World} {B n:Nat} {C:Array Value} {e:TypeId} {fz:Nat×Nat} (h:w.heap[B]? = some (.cells C e fz)):(∃ fz',(w.drew.freeze ⟨B,0,none⟩ n).heap[B]? = some (.cells C e fz'))/\But w (w.drew.freeze ⟨B,0,none⟩ n) B:=by
 have h' : w.drew.heap[B]? = some (.cells C e fz):=h
 unfold World.freeze
 split
 ·exact ⟨⟨fz,h'⟩,⟨rfl,rfl,rfl,rfl,fun _ _=>rfl⟩⟩
 ·refine ⟨⟨_,by simp only [Array.getElem?_modify];simp [h'];rfl⟩,⟨rfl,rfl,rfl,by simp,fun k hk=>?_⟩⟩
  simp only [Array.getElem?_modify]
  rw [if_neg (Ne.symm hk)]
  rfl
theorem strF:ExtF tab.init tab.ng Tryz.prog 40 (strE 71 5):=by
 intro n0 w0 hI hn vs H v H' hk D s w xs hg hxs hS hG hf
 unfold strE at hk
 split at hk
 ·rename_i b
  obtain ⟨hD,rfl⟩:=Zos hxs
  split at hk
  ·rename_i e x hst hgb
   split at hk
   ·rename_i he
    subst he
    cases hk
    have hr:=hS.row b _ _ _ _ hD hgb
    rw [hst] at hr
    obtain ⟨C,fz,h1,h2,h3,h4,h5⟩:=RowAt.block hr
    obtain ⟨y,hy,hyr⟩:=h4 1 .nils rfl
    cases hyr
    rw [h2]
    refine (Z2f (s b).b w (by simp [World.cell?,h1,hy])).mono fun e' w' he=>?_
    obtain ⟨rfl,rfl⟩:=he
    exact ⟨s,U1 hS hn (Below.drew (Below.refl _ w)) (fun b hb o h1 h2=>hS.lt hb (by unfold Al;rw [h1,hst];cases o<;>first | trivial | simp | exact absurd rfl h2)),.str []⟩
   ·cases hk
  ·rename_i e x r n hst hgb
   split at hk
   ·rename_i he
    subst he
    split at hk
    ·rename_i e' cs hgr
     split at hk
     ·rename_i hc
      obtain ⟨rfl,hc1,hc2,hc3⟩:=hc
      split at hk
      ·rename_i l hl
       cases hk
       have hr:=hS.row b _ _ _ _ hD hgb
       rw [hst] at hr
       obtain ⟨C,fz,h1,h2,h3,h4,h5⟩:=RowAt.block hr
       obtain ⟨y,hy,hyr⟩:=h4 1 _ rfl
       obtain ⟨k1,k2⟩:=Zfw hl hc3
       rw [List.length_take,Nat.min_eq_left hc1] at k1
       cases hyr with
       | sln _ _ _ _ hDr e2 e3 e4 e5 =>
        have hrr:=hS.row r _ _ _ _ hDr hgr
        rw [hst] at hrr
        obtain ⟨C2,fz2,g1,g2,g3,g4,g5⟩:=RowAt.block hrr
        rw [h2]
        rw [g2] at hy
        have hcap:n+1<=(s r).cap:=by simpa using e5
        obtain ⟨⟨fz',f1⟩,f2⟩:=Zpa (n:=l.length) g1
        refine (Z5f (s b).b (s r).b (s r).cap l C2.size w (fun e=>by rw [e] at k1;simp at k1) ?_ (by simp [World.shape?,g1]) (by omega) (by omega) (by omega) (fun j x hx=>?_)).mono fun e' w' he=>?_
        ·have hy' : C[1]? = some (.slice (some ⟨(s r).b,0,none⟩) (n+1) (s r).cap):=by simpa using hy
         simp [World.cell?,h1,hy',k1]
        ·have h:=k2 j x hx
         have hj:j < n+1:=by rw [<- k1];exact (List.getElem?_eq_some_iff.1 hx).1
         rw [List.getElem?_take,if_pos hj] at h
         obtain ⟨z,hz,hzr⟩:=g4 j _ h
         cases hzr
         by_cases hj0:j=0
         ·subst hj0;simp [World.cell?,Addr.add,g1,hz]
         ·simp [World.cell?,Addr.add,hj0,g1,hz]
        ·obtain ⟨rfl,rfl⟩:=he
         refine ⟨s,Zr6 hS hst hDr hgr f2 ?_,.str l⟩
         obtain ⟨m0,m5,m6,m7,m8⟩:=hrr
         refine ⟨⟨C2,_,fz',f1,by rw [g2];omega,fun i v hv=>?_,fun h=>(by cases h)⟩,m5,m6,m7,fun h=>(by cases h)⟩
         obtain ⟨z,hz,hzr⟩:=g4 i v hv
         exact ⟨z,by rw [g2,Nat.zero_add];exact hz,hzr⟩
      ·cases hk
     ·cases hk
    ·cases hk
   ·cases hk
  ·cases hk
 ·cases hk
theorem cl_f:Tryz.laysM316_ren.f 316=197:=by kernel_rfl
theorem clF:ExtF tab.init tab.ng Tryz.prog 197 clE:=by
 intro n0 w0 hI hn vs H v H' hk D s w xs hg hxs hS hG hf
 unfold clE at hk
 split at hk
 ·rename_i t
  split at hk
  ·rename_i hlen
   cases hk
   cases xs with
   | mk l =>
    cases hxs with
    | cons _ x0 _ _ h1 h2 =>
     cases h2
     cases h1
     have:=Any.stringslite_Clone Tryz.laysM316 ⟨t.toArray⟩ w (by show t.toArray.size<=_;simpa using hlen)
     rw [cl_f] at this
     refine this.mono fun e' w' he=>?_
     obtain ⟨rfl,hB⟩:=he
     exact ⟨s,U1 hS hn hB (fun b hb o h1 h2=>by
      by_cases hs:b∈H.stale
      ·cases o with
       | row e sz ro cs=>exact (hS.row b e sz ro cs hb h1).lt
       | map ro es c=>exact hS.lt hb (by unfold Al;rw [h1];trivial)
       | iter m si se la=>exact hS.lt hb (by unfold Al;rw [h1];trivial)
       | dead=>exact absurd rfl h2
      ·exact hS.lt hb (by unfold Al;rw [h1];cases o<;>first | trivial | exact hs | exact absurd rfl h2)),.str t⟩
  ·cases hk
 ·cases hk
end Go.AM.YtlillgmgpmbfnaaGreatDoorT
set_option maxRecDepth 1000000
set_option maxHeartbeats 4000000
namespace Go.AM.YtlillgmgpmbfnaaGreatDoorT
open Go Go.AM Go.RowKit Go.Proofs Go.Shelf
theorem sizeByte:(Tryz.prog.info? 5).map (·.size)=some 1:=by kernel_rfl
structure Grown (w w' : World) (b:Nat) (C:Array Value) (fz:Nat×Nat):Prop where
 new:∃ cs:Array Value,w'.heap[b]? = some (.cells (C.setIfInBounds 1 (.slice (some ⟨w.heap.size,0,none⟩) 0 cs.size)) 71 fz)/\w'.heap[w.heap.size]? = some (.cells cs 5 (0,0))
 os:w'.os=w.os
 tape:w'.tape=w.tape
 output:w'.output=w.output
 size:w'.heap.size=w.heap.size+1
 old:∀ k,k < w.heap.size->k≠b->w'.heap[k]? = w.heap[k]?
theorem Zvo {w:World} {b:Nat} {C cs:Array Value} {fz:Nat×Nat} (hbk:w.heap[b]? = some (.cells C 71 fz)) :
  Grown w ((w.setCell ⟨b,1,none⟩ (.slice (some ⟨w.heap.size,0,none⟩) 0 cs.size)).alloc (.cells cs 5)).drew.drew.drew b C fz:=by
 have hlt:=Zt hbk
 obtain ⟨s1,s2⟩:=Zao (i:=1) hbk (.slice (some ⟨w.heap.size,0,none⟩) 0 cs.size)
 have hz:=s2.size
 have a1:=Go.heap_alloc_old (w.setCell ⟨b,1,none⟩ (.slice (some ⟨w.heap.size,0,none⟩) 0 cs.size)) (.cells cs 5) (r:=b) (by omega)
 have a2:=World.alloc_heap_new (w.setCell ⟨b,1,none⟩ (.slice (some ⟨w.heap.size,0,none⟩) 0 cs.size)) (.cells cs 5)
 rw [hz] at a2
 refine ⟨⟨cs,a1.trans s1,a2⟩,s2.os,s2.tape,s2.output,?_,fun k hk hkb=>?_⟩
 ·show ((w.setCell _ _).alloc _).heap.size=_
  rw [World.size_alloc,hz]
 ·show ((w.setCell _ _).alloc _).heap[k]? = _
  rw [Go.heap_alloc_old _ _ (by omega)]
  exact s2.old _ hkb
theorem Zwb (b n:Nat) (C:Array Value) (fz:Nat×Nat) (w:World) (hbk:w.heap[b]? = some (.cells C 71 fz)) (h1:C[1]? = some (.slice none 0 0)) (hfz:¬ (fz.1<=1/\1 < fz.2)) (hn:n<=281474976710656) :
  Calls Tryz.prog 92 #[.pointer (some ⟨b,0,none⟩),.int .i64 n] w fun e w'=>e = .returned (.tuple #[])/\Grown w w' b C fz:=by
 obtain ⟨cs,hrun,hle,hmax⟩:=Lib.run_makeNoZero (P:=Tryz.prog) w.drew #[3] 60 5 Tryz.underlying60 n hn
 have hlt:=Zt hbk
 have hw:IntKind.i64.wrap (IntKind.i64.wrap 0+(n:Int))=n:=by
  rw [IntKind.wrap_i64,IntKind.wrap_i64]
  omega
 have hcall:(callFunc 138 #[.int .i64 (IntKind.i64.wrap (IntKind.i64.wrap 0+(n:Int)))]).run Tryz.prog w.drew = .ok (.value (.slice (some ⟨w.drew.heap.size,0,none⟩) n cs.size)) (w.drew.drew.drew.alloc (.cells cs 5)):=by
  rw [hw,run_callFunc_extern Tryz.func138 (by kernel_rfl) (by kernel_rfl) (by kernel_rfl) (e:=Extern.BytealgMakeNoZero.makeNoZero #[3] #[60]) (by kernel_rfl),hrun]
  rfl
 have c1:w.drew.cell? ⟨b,1,none⟩=some (.slice none 0 0):=by
  have:w.drew.heap[b]? = _:=hbk
  simp [World.cell?,this,h1]
 have c2:(w.alloc (.cells cs 5)).cell? ⟨b,1,none⟩=some (.slice none 0 0):=by
  have:(w.alloc (.cells cs 5)).heap[b]? = _:=(Lib.alloc_old w _ b hlt).trans hbk
  simp [World.cell?,this,h1]
 have f2:(w.alloc (.cells cs 5)).frozen? ⟨b,1,none⟩=false:=by
  have:(w.alloc (.cells cs 5)).heap[b]? = _:=(Lib.alloc_old w _ b hlt).trans hbk
  simp [World.frozen?,this]
  omega
 have hcopy:∀ W:World,(Builtin.copy_ #[60,60] 3 #[.slice (some ⟨w.heap.size,0,none⟩) 0 cs.size,.slice none 0 0]).run Tryz.prog W = .ok (goInt 0) W :=
  fun W=>run_copy_none W 60 60 3 5 _ _ 0 cs.size 0 0 Tryz.underlying60 sizeByte rfl
 clear hw
 go_enter Tryz.func92,Tryz.ntmps92
 go_wp2
 go_region
 all_goals (go_wp2;go_end0;refine ⟨rfl,?_⟩)
 all_goals exact Zvo hbk
theorem Zw2 (b n:Nat) (C:Array Value) (fz:Nat×Nat) (w:World) (hbk:w.heap[b]? = some (.cells C 71 fz)) (h0:C[0]? = some (.pointer none)) (h1:C[1]? = some (.slice none 0 0)) (hfz0:¬ (fz.1<=0/\0 < fz.2)) (hfz:¬ (fz.1<=1/\1 < fz.2)) (hpos:0 < n) (hn:n<=281474976710656) :
  Calls Tryz.prog 60 #[.pointer (some ⟨b,0,none⟩),.int .i64 n] w fun e w'=>e = .returned (.tuple #[])/\∃ w1:World,w1.heap=(w.setCell ⟨b,0,none⟩ (.pointer (some ⟨b,0,none⟩))).heap/\w1.os=w.os/\w1.tape=w.tape/\w1.output=w.output/\Grown w1 w' b (C.setIfInBounds 0 (.pointer (some ⟨b,0,none⟩))) fz:=by
 have hlt:=(Array.getElem?_eq_some_iff.1 h1).1
 obtain ⟨s1,s2⟩:=Zao (i:=0) hbk (.pointer (some ⟨b,0,none⟩))
 have h1' : (C.setIfInBounds 0 (.pointer (some ⟨b,0,none⟩)))[1]? = some (.slice none 0 0):=by rw [Array.getElem?_setIfInBounds_ne (by decide)];exact h1
 have c1:(w.setCell ⟨b,0,none⟩ (.pointer (some ⟨b,0,none⟩))).cell? ⟨b,1,none⟩=some (.slice none 0 0):=by simp [World.cell?,s1,h1']
 have c1' : (w.setCell ⟨b,0,none⟩ (.pointer (some ⟨b,0,none⟩))).drew.cell? ⟨b,1,none⟩=some (.slice none 0 0):=c1
 have hnn:¬ ((n:Int) < 0):=by omega
 have hnp:(0:Int) < n:=by omega
 have eCC:∀ args w,(callFunc 69 args).run Tryz.prog w = .ok (.enter 69 args) w:=enters_of Tryz.func69 (by kernel_rfl) rfl
 have eGG:∀ args w,(callFunc 92 args).run Tryz.prog w = .ok (.enter 92 args) w:=enters_of Tryz.func92 (by kernel_rfl) rfl
 go_enter Tryz.func60,Tryz.ntmps60
 go_wp2_with (go_at_call 69;refine (Zmc b C.size w (by simp [World.cell?,hbk,h0]) (by simp [World.shape?,hbk]) (by omega) (by simp [World.frozen?,hbk];omega)).mono ?_;rintro e w' ⟨rfl,rfl⟩)
 go_region
 all_goals go_wp2_with (go_at_call 92;refine (Zwb b n (C.setIfInBounds 0 (.pointer (some ⟨b,0,none⟩))) fz (w.setCell ⟨b,0,none⟩ (.pointer (some ⟨b,0,none⟩))).drew s1 h1' hfz hn).mono ?_;rintro e w' ⟨rfl,hgr⟩)
 all_goals (try (go_end0;exact ⟨rfl,(w.setCell ⟨b,0,none⟩ (.pointer (some ⟨b,0,none⟩))).drew,rfl,rfl,rfl,rfl,hgr⟩))
theorem Yb8:ExtF tab.init tab.ng Tryz.prog 60 (Zha 71 5):=by
 intro n0 w0 hI hn vs H v H' hk D s w xs hg hxs hS hG hf
 unfold Zha at hk
 split at hk
 ·rename_i b n
  split at hk
  ·rename_i e hst hgb
   split at hk
   ·rename_i hc
    obtain ⟨rfl,hp,hle⟩:=hc
    cases hk
    obtain ⟨m,rfl⟩:∃ m:Nat,n=m:=⟨n.toNat,by omega⟩
    obtain ⟨hD,hxe⟩:D b/\xs = #[.pointer (some ⟨(s b).b,(s b).base+0,none⟩),.int .i64 m]:=by
     cases xs with
     | mk l =>
      cases hxs with
      | cons _ x _ _ h1 h2 =>
       cases h2 with
       | cons _ y _ _ h3 h4 =>
        cases h4;cases h3
        cases h1 with
        | ptr _ _ hD=>exact ⟨hD,rfl⟩
    subst hxe
    have hr:=hS.row b _ _ _ _ hD hgb
    rw [hst] at hr
    obtain ⟨C,fz,h1,h2,h3,h4,h5⟩:=RowAt.block hr
    obtain ⟨p,hp0,hpr⟩:=h4 0 .nilp rfl
    obtain ⟨y,hy,hyr⟩:=h4 1 .nils rfl
    cases hpr
    cases hyr
    have hlt1:=(Array.getElem?_eq_some_iff.1 hy).1
    rw [h2]
    refine (Zw2 (s b).b m C fz w h1 hp0 hy (h5 0 (by omega)) (h5 1 (by omega)) (by omega) (by omega)).mono fun e' w' he=>?_
    obtain ⟨rfl,w1,q1,q2,q3,q4,hgr⟩:=he
    obtain ⟨⟨cs,n1,n2⟩,n3,n4,n5,n6,n7⟩:=hgr
    have hB:=Zt h1
    obtain ⟨t1,t2⟩:=Zao (i:=0) h1 (.pointer (some ⟨(s b).b,0,none⟩))
    have hz:w1.heap.size=w.heap.size:=by rw [q1];exact t2.size
    rw [hz] at n1 n2 n6 n7
    have hfn:¬ D H.next:=hf _ (Nat.le_refl _) (by rw [Hp.next_put,Hp.next_new];omega)
    have hbn:b≠H.next:=fun e=>hfn (e ▸ hD)
    have hn0:n0<=w.heap.size:=Nat.le_trans hn hS.below.size
    obtain ⟨W1,hW1⟩:∃ W1,({ w' with heap:=w'.heap.setIfInBounds (s b).b (.cells C 71 fz) }:World)=W1:=⟨_,rfl⟩
    have w1s:W1.heap.size=w.heap.size+1:=by rw [<- hW1];simp [n6]
    have w1b:W1.heap[(s b).b]? = some (.cells C 71 fz):=by rw [<- hW1];simp [show (s b).b < w'.heap.size by omega]
    have w1o:∀ k,k≠(s b).b->W1.heap[k]? = w'.heap[k]?:=fun k hk=>by rw [<- hW1];exact Array.getElem?_setIfInBounds_ne (Ne.symm hk)
    have hP:Plus w W1 (.cells cs 5):=by
     refine ⟨by rw [<- hW1];exact n3.trans q2,by rw [<- hW1];exact n4.trans q3,by rw [<- hW1];exact n5.trans q4,w1s,by rw [w1o _ (by omega)];exact n2,fun k hk=>?_⟩
     by_cases hkb:k=(s b).b
     ·rw [hkb,w1b,h1]
     ·rw [w1o k hkb,n7 k hk hkb,q1];exact t2.old k hkb
    have hstep1:=Zbv (L:=⟨w.heap.size,0,cs.size,1⟩) (ob:=.row 5 1 false []) hS hn hfn hP rfl (fun e2 sz ro cs2 he=>by
     cases he
     exact ⟨⟨⟨cs,5,(0,0),hP.new,by simp,fun i v hv=>by simp at hv,fun _=>⟨fun i i1 i2 i3=>by simp at i3,rfl,rfl,by simp⟩⟩,rfl,by simp,rfl,fun _=>hn0⟩,rfl⟩) (fun _ _ _ he=>by cases he) (fun _ _ _ _ he=>by cases he) (by rw [hst];simp) [] (fun x h=>by cases h) (fun x h=>by rw [hst] at h;cases h) (by simp)
    have hHe:({ H.new (.row 5 1 false []) with stale:=[] }:Hp)=H.new (.row 5 1 false []):=by unfold Hp.new;rw [hst]
    rw [hHe] at hstep1
    have hDn:Dn D H.next (H.new (.row 5 1 false [])).next b:=.inl hD
    have hub:upd s H.next ⟨w.heap.size,0,cs.size,1⟩ b=s b:=Zbx _ _ hbn
    have hgb' : (H.new (.row 5 1 false [])).get b=some (.row 71 2 false [.nilp,.nils]):=by rw [Hp.get_new,if_neg hbn];exact hgb
    have hst' : (H.new (.row 5 1 false [])).stale=[]:=hst
    have hBut:But W1 w' (upd s H.next ⟨w.heap.size,0,cs.size,1⟩ b).b:=by
     rw [hub]
     exact ⟨by rw [<- hW1],by rw [<- hW1],by rw [<- hW1],by rw [w1s,n6],fun k hk=>(w1o k hk).symm⟩
    have hstep2:=J3 (ob:=.row 71 2 false [.ptr b 0,.sl H.next 0 0 none 1]) hstep1.sat hst' hDn (by unfold Ow;rw [hgb',hst'];simp) hBut ?_ (fun e2 sz ro cs2 he=>?_) (fun _ _ _ he=>by cases he) (fun _ _ _ _ he=>by cases he)
    ·exact ⟨_,hstep1.trans hstep2,.tup _ _ .nil⟩
    ·constructor
     ·rw [Jr,Hp.get_put,if_pos rfl];show b∉H.stale;simp [hst]
     ·unfold Ow;rw [Hp.get_put,if_pos rfl];show _/\b∉H.stale;simp [hst]
    ·cases he
     obtain ⟨g0,g5,g6,g7,g8⟩:=hr
     rw [hub]
     refine ⟨⟨_,_,_,n1,by rw [h2];simp;omega,fun i v hv=>?_,fun _=>⟨fun i i1 i2=>h5 i (by rw [h2] at i2;omega),rfl,h2,by simpa using h3⟩⟩,g5,g6,rfl,g8⟩
     rw [h2,Nat.zero_add]
     match i,hv with
     | 0,hv =>
      cases hv
      have:=Rv.ptr (s:=upd s H.next ⟨w.heap.size,0,cs.size,1⟩) b 0 hDn
      rw [hub,h2] at this
      refine ⟨.pointer (some ⟨(s b).b,0,none⟩),?_,this⟩
      rw [Array.getElem?_setIfInBounds_ne (by decide),Array.getElem?_setIfInBounds]
      simp [show 0 < C.size by omega]
     | 1,hv =>
      cases hv
      have hDx:Dn D H.next (H.new (.row 5 1 false [])).next H.next:=.inr ⟨Nat.le_refl _,by rw [Hp.next_new];omega⟩
      have:=Rv.sln (s:=upd s H.next ⟨w.heap.size,0,cs.size,1⟩) H.next 0 0 1 hDx (by rw [Zy]) (by decide) (by decide) (by rw [Zy];simp)
      rw [Zy] at this
      refine ⟨_,?_,this⟩
      rw [Array.getElem?_setIfInBounds]
      simp [hlt1]
     | i+2,hv=>simp at hv
   ·cases hk
  ·cases hk
 ·cases hk
end Go.AM.YtlillgmgpmbfnaaGreatDoorT
set_option maxRecDepth 100000
set_option maxHeartbeats 1000000
namespace Go.AM
open Go Go.RowKit
theorem Z2r {n0:Nat} {w0 w:World} {D:Nat->Prop} {s:Sg} {H:Hp} (hS:Sat n0 w0 D s H w) {b:Nat} (hb:D b) (o:Ob) (h1:H.get b=some o) (h2:o≠.dead):(s b).b < w.heap.size:=by
 by_cases hs:b∈H.stale
 ·cases o with
  | row e sz ro cs=>exact (hS.row b e sz ro cs hb h1).lt
  | map ro es c=>exact hS.lt hb (by unfold Al;rw [h1];trivial)
  | iter m si se la=>exact hS.lt hb (by unfold Al;rw [h1];trivial)
  | dead=>exact absurd rfl h2
 ·exact hS.lt hb (by unfold Al;rw [h1];cases o<;>first | trivial | exact hs | exact absurd rfl h2)
theorem Uh {n0:Nat} {w0 w w1:World} {D:Nat->Prop} {s:Sg} {H:Hp} (hS:Sat n0 w0 D s H w) (hn:n0<=w0.heap.size) (hB:Below w.heap.size w w1):Step n0 w0 D s H w s H w1 :=
 U1 hS hn hB fun b hb o h1 h2=>Z2r hS hb o h1 h2
theorem Zp1 {n0:Nat} {w0 w w1:World} {D:Nat->Prop} {s:Sg} {H:Hp} (hS:Sat n0 w0 D s H w) (hst:H.stale=[]) (hG:Good H) (hn:n0<=w0.heap.size) (hf:¬ D H.next) (hB:Below w.heap.size w w1) {L:Loc} (hL:w.heap.size<=L.b) :
  Step n0 w0 D s H w (upd s H.next L) H.bump w1:=by
 have hs:∀ b,D b->upd s H.next L b=s b:=fun b hb=>Zbx _ _ (fun e=>hf (e ▸ hb))
 have hD:∀ b,D b->Dn D H.next (H.next+1) b:=fun b hb=>.inl hb
 have hget:∀ b,H.bump.get b=H.get b:=fun b=>rfl
 have htop:H.get H.next=none:=hG.top _ (Nat.le_refl _)
 have hDn:∀ b,Dn D H.next (H.next+1) b->D b\/b=H.next:=fun b hb=>hb.elim .inl fun h=>.inr (by omega)
 have noal:¬ Al H.bump H.next:=fun h=>by unfold Al at h;rw [hget,htop] at h;exact h
 have noow:¬ Ow H.bump H.next:=fun h=>noal h.al
 have how:∀ b,Ow H.bump b->Ow H b:=fun b h=>h
 refine ⟨⟨?_,fun b e' sz' ro cs' hb hg=>?_,fun b ro es c hb hg=>?_,fun b m si se la hb hg=>?_,fun b b' h1 h2 h3 h4 h5=>?_,fun x _ _ _ _ b _ _ _ hx hxs=>?_⟩,hs,Nat.le_succ _,hB.size,fun k hk _=>hB.block k hk,fun b h1 h2=>?_,fun b hb=>how b⟩
 ·have:=hS.below.size
  exact hS.below.trans ⟨hB.os,hB.tape,hB.output,hB.size,fun k hk=>hB.block k (by omega)⟩
 ·show RowAt _ _ _ _ _ _ _ (ro || H.stale.contains b) _
  rcases hDn b hb with hb | rfl
  ·have h1:=hS.row b e' sz' ro cs' hb hg
   rw [hs b hb]
   exact h1.keep hD hs (hB.block _ h1.lt)
  ·rw [hget,htop] at hg;cases hg
 ·rcases hDn b hb with hb | rfl
  ·obtain ⟨ents,h1,h2,h3⟩:=hS.map b ro es c hb hg
   rw [hs b hb,hB.block _ (Zt h1)]
   exact ⟨ents,h1,h2.mono hD hs,h3⟩
  ·rw [hget,htop] at hg;cases hg
 ·rcases hDn b hb with hb | rfl
  ·obtain ⟨h1,h2,h3⟩:=hS.iter b m si se la hb hg
   rw [hs b hb,hB.block _ (Zt h1)]
   refine ⟨?_,fun m' hm=>hD _ (h2 m' hm),h3⟩
   rw [h1]
   cases m with
   | none=>rfl
   | some m=>simp only [Option.map_some];rw [hs m (h2 m rfl)]
  ·rw [hget,htop] at hg;cases hg
 ·rcases hDn b h1 with hb | rfl
  ·rcases hDn b' h2 with hb' | rfl
   ·rw [hs b hb,hs b' hb']
    exact hS.sep b b' hb hb' h3 (how b h4) h5
   ·exact absurd h5 noal
  ·exact absurd h4 noow
 ·have:H.stale=[]:=hst
  have hxs:x∈H.stale:=hxs
  rw [this] at hxs;cases hxs
 ·have:b=H.next:=by
   have:H.bump.next=H.next+1:=rfl
   omega
  subst this
  left;rw [Zy];exact hL
end Go.AM
namespace Go.AM.YtlillgmgpmbfnaaGreatDoorT
open Go Go.AM Go.RowKit Go.Proofs Go.Shelf
theorem Zv1:Builder.Extra Tryz.prog Tryz.laysRep_ren where
 sizeBuilder:=by kernel_rfl
 liesBuilder:=by kernel_rfl
 t5:=Tryz.laysRep.t5
 a5:=Tryz.laysRep.a5
 z5:=Tryz.laysRep.z5
 v5:=Tryz.laysRep.v5
 infoByte:=by kernel_rfl
 cellsByte:=by kernel_rfl
 sizeByte:=by kernel_rfl
 neB5:=by decide
theorem Ycj:Tryz.laysFmt_ren.f 173=41:=by kernel_rfl
theorem Z3f:Tryz.laysItoa_ren.f 171=45:=by kernel_rfl
theorem pi_f:Tryz.laysPi_ren.f 174=156:=by kernel_rfl
theorem pi_t:Tryz.laysPi_ren.t 168=238:=by kernel_rfl
theorem Z8d:Tryz.laysRep_ren.f 105=31:=by kernel_rfl
theorem Zmn:Tryz.laysJoin_ren.f 156=44:=by kernel_rfl
theorem Ydw : Tryz.prog.globalNamed "internal/strconv.uint64pow10" = some 5 := by kernel_rfl
theorem g_range:Tryz.laysPi_ren.g 16=13:=by kernel_rfl
theorem Ztr {n0 : Nat} {w0 w : World} {D : Nat → Prop} {s : Sg} {H : Hp} (hI : tab.init n0 w0) (hS : Sat n0 w0 D s H w) : Lib.TabIs Tryz.prog w "internal/strconv.uint64pow10" .u64 Lib.pow10Tab := by
 obtain ⟨h1,h2⟩:=hI
 exact Joins.tab_stays Ydw h2 hS.below (Nat.le_of_eq h1.symm)
theorem Zms (w:World) (k:Nat) (os:Array Obj):Below w.heap.size w (Sort.grow (w.drewN k) os) :=
 ⟨rfl,rfl,rfl,by show w.heap.size<=(w.heap++os).size;rw [Array.size_append];omega,fun j hj=>by show (w.heap++os)[j]? = _;rw [Array.getElem?_append_left hj]⟩
theorem fmtF:ExtF tab.init tab.ng Tryz.prog 41 fmtE:=by
 intro n0 w0 hI hn vs H v H' hk D s w xs hg hxs hS hG hf
 unfold fmtE at hk
 split at hk
 ·rename_i n
  split at hk
  ·rename_i hr
   cases hk
   cases xs with
   | mk l =>
    cases hxs with
    | cons _ x0 _ _ h1 h2 =>
     cases h2 with
     | cons _ x1 _ _ h3 h4 =>
      cases h4;cases h1;cases h3
      have:=Any.strconv_FormatInt_10 Tryz.laysFmt n hr.1 hr.2 w (Ztr hI hS)
      rw [Ycj] at this
      refine this.mono fun e' w' he=>?_
      obtain ⟨rfl,k,os,rfl⟩:=he
      rw [Zlk hr.1 hr.2]
      exact ⟨s,Uh hS hn (Zms _ _ _),.str _⟩
  ·cases hk
 ·cases hk
theorem Z9k:ExtF tab.init tab.ng Tryz.prog 45 itoaE:=by
 intro n0 w0 hI hn vs H v H' hk D s w xs hg hxs hS hG hf
 unfold itoaE at hk
 split at hk
 ·rename_i n
  split at hk
  ·rename_i hr
   cases hk
   cases xs with
   | mk l =>
    cases hxs with
    | cons _ x0 _ _ h1 h2 =>
     cases h2;cases h1
     have:=Any.strconv_Itoa Tryz.laysItoa n hr.1 hr.2 w (Ztr hI hS)
     rw [Z3f] at this
     refine this.mono fun e' w' he=>?_
     obtain ⟨rfl,k,os,rfl⟩:=he
     rw [Zlk hr.1 hr.2]
     exact ⟨s,Uh hS hn (Zms _ _ _),.str _⟩
  ·cases hk
 ·cases hk
theorem repF:ExtF tab.init tab.ng Tryz.prog 31 repE:=by
 intro n0 w0 hI hn vs H v H' hk D s w xs hg hxs hS hG hf
 unfold repE at hk
 split at hk
 ·rename_i t n
  split at hk
  ·rename_i hr
   obtain ⟨r1,r2,r3⟩:=hr
   cases hk
   cases xs with
   | mk l =>
    cases hxs with
    | cons _ x0 _ _ h1 h2 =>
     cases h2 with
     | cons _ x1 _ _ h3 h4 =>
      cases h4;cases h1;cases h3
      obtain ⟨m,rfl⟩:=Int.eq_ofNat_of_zero_le r1
      have:=Any.strings_Repeat Tryz.laysRep Zv1 ⟨t.toArray⟩ m w (by omega) (by show t.toArray.size*m<=_;simpa using r3)
      rw [Z8d] at this
      refine this.mono fun e' w' he=>?_
      obtain ⟨rfl,hB⟩:=he
      exact ⟨s,Uh hS hn hB,.str _⟩
  ·cases hk
 ·cases hk
theorem piF:ExtF tab.init tab.ng Tryz.prog 156 (piE 13 238):=by
 intro n0 w0 hI hn vs H v H' hk D s w xs hg hxs hS hG hf
 unfold piE at hk
 split at hk
 ·rename_i t
  split at hk
  ·rename_i hlen
   cases xs with
   | mk l =>
    cases hxs with
    | cons _ x0 _ _ h1 h2 =>
     cases h2 with
     | cons _ x1 _ _ h3 h4 =>
      cases h4 with
      | cons _ x2 _ _ h5 h6 =>
       cases h6;cases h1;cases h3;cases h5
       split at hk
       ·rename_i u hu
        cases hk
        have:=Any.strconv_ParseInt_10_at64_ok Tryz.laysPi ⟨t.toArray⟩ (by show t.toArray.size<=_;simp;omega) u hu w
        rw [pi_f] at this
        refine this.mono fun e' w' he=>?_
        obtain ⟨rfl,hw⟩:=he
        refine ⟨s,Uh hS hn ?_,.tup _ _ (.cons _ _ _ _ (.int _ _) (.cons _ _ _ _ .nili .nil))⟩
        rcases hw with rfl | ⟨z,rfl⟩
        ·exact Below.refl _ _
        ·exact Joins.below_bytesWorld _ _ _ _ (Nat.le_refl _)
       ·rename_i hu
        split at hk
        ·rename_i e tv vv hst hgr
         cases hk
         obtain ⟨hDg,hb,hbase⟩:=hg 13 (by rw [Zd8];decide)
         have hrow:=hS.row _ _ _ _ _ hDg hgr
         obtain ⟨⟨C,et,fz,c1,c2,c3,c4⟩,_⟩:=hrow
         obtain ⟨x,hx,hxr⟩:=c3 0 _ rfl
         rw [hb] at c1
         rw [hbase] at hx
         cases hxr with
         | ifc _ _ px hpx =>
          have hcell:w.cell? ⟨Tryz.laysPi_ren.g 16,0,none⟩=some (.iface tv px):=by
           rw [g_range];simp [World.cell?,c1];exact hx
          have:=Any.strconv_ParseInt_10_at64_range Tryz.laysPi ⟨t.toArray⟩ (by show t.toArray.size<=_;simpa using hlen) hu (.iface tv px) w hcell (.inr ⟨_,_,rfl⟩)
          rw [pi_f] at this
          refine this.mono fun e' w' he=>?_
          obtain ⟨N,rfl,hN,hNc,hB⟩:=he
          have hnd:¬ D H.next:=fun hd=>by have:=hf H.next (Nat.le_refl _);simp [Hp.bump] at this;exact this hd
          refine ⟨upd s H.next ⟨N,0,0,0⟩,Zp1 hS hst hG hn hnd hB hN,.tup _ _ (.cons _ _ _ _ (.int _ _) (.cons _ _ _ _ ?_ .nil))⟩
          rw [pi_t]
          have:=Rv.ptr (D:=Dn D H.next H.bump.next) (s:=upd s H.next ⟨N,0,0,0⟩) H.next 0 (.inr ⟨Nat.le_refl _,Nat.lt_succ_self _⟩)
          rw [Zy] at this
          exact .ifc _ _ _ this
        ·cases hk
       ·cases hk
  ·cases hk
 ·cases hk
theorem Yfz:ExtF tab.init tab.ng Tryz.prog 44 joinE:=by
 intro n0 w0 hI hn vs H v H' hk D s w xs hg hxs hS hG hf
 have X:Builder.Extra Tryz.prog Tryz.laysJoin_ren:={ sizeBuilder:=by kernel_rfl,liesBuilder:=by kernel_rfl,t5:=Tryz.laysFmt.t5,a5:=Tryz.laysFmt.a5,z5:=Tryz.laysFmt.z5,v5:=Tryz.laysFmt.v5,infoByte:=by kernel_rfl,cellsByte:=by kernel_rfl,sizeByte:=by kernel_rfl,neB5:=by decide }
 unfold joinE at hk
 split at hk
 ·cases hk
  cases xs with
  | mk l =>
   cases hxs with
   | cons _ x0 _ _ h1 h2 =>
    cases h2 with
    | cons _ x1 _ _ h3 h4 =>
     cases h4;cases h1;cases h3
     have:=Any.strings_Join_none Tryz.laysJoin X none 0 ⟨(‹List UInt8›).toArray⟩ w
     rw [Zmn] at this
     refine this.mono fun e' w' he=>?_
     obtain ⟨rfl,rfl⟩:=he
     exact ⟨s,Uh hS hn (Below.refl _ _),.str []⟩
 ·cases hk
  cases xs with
  | mk l =>
   cases hxs with
   | cons _ x0 _ _ h1 h2 =>
    cases h2 with
    | cons _ x1 _ _ h3 h4 =>
     cases h4;cases h3
     cases h1 with
     | sle a c =>
      have:=Any.strings_Join_none Tryz.laysJoin X (some a) c ⟨(‹List UInt8›).toArray⟩ w
      rw [Zmn] at this
      refine this.mono fun e' w' he=>?_
      obtain ⟨rfl,rfl⟩:=he
      exact ⟨s,Uh hS hn (Below.refl _ _),.str []⟩
 ·rename_i b o n c sep
  split at hk
  ·rename_i e ro cs hst hgb
   split at hk
   ·rename_i hc
    obtain ⟨hc1,hc2⟩:=hc
    split at hk
    ·rename_i l hl
     split at hk
     ·rename_i hj
      cases hk
      obtain ⟨l1,l2⟩:=Zh2 hl
      rw [List.length_take,List.length_drop,Nat.min_eq_left (by omega)] at l1
      cases xs with
      | mk xl =>
       cases hxs with
       | cons _ x0 _ _ h1 h2 =>
        cases h2 with
        | cons _ x1 _ _ h3 h4 =>
         cases h4;cases h3
         have key:∀ cap,D b->n<=cap->Calls Tryz.prog 44 #[.slice (some ⟨(s b).b,(s b).base+o,none⟩) n cap,.string ⟨sep.toArray⟩] w fun e w'=>match e with
           | .returned x=>∃ s',Step n0 w0 D s H w s' H w'/\Rv (Dn D H.next H.next) s' (.str (Lib.join l sep)) x
           | _=>False:=fun cap hDb hcap=>by
          have hr:=hS.row b _ _ _ _ hDb hgb
          obtain ⟨⟨C,et,fz,c1,c2,c3,c4⟩,c5,c6,c7,c8⟩:=hr
          have:=Any.strings_Join Tryz.laysJoin X (s b).b ((s b).base+o) cap (l.map fun x=>⟨x.toArray⟩) ⟨sep.toArray⟩ w (fun j x hx=>by
           rw [List.getElem?_map,Option.map_eq_some_iff] at hx
           obtain ⟨y,hy,rfl⟩:=hx
           have hjl:=l2 j y hy
           have hjn:j < n:=by rw [<- l1];exact (List.getElem?_eq_some_iff.1 hy).1
           rw [List.getElem?_take,if_pos hjn,List.getElem?_drop] at hjl
           obtain ⟨z,hz,hzr⟩:=c3 _ _ hjl
           cases hzr
           simp [World.cell?,c1]
           rw [show (s b).base+o+j=(s b).base+(o+j) by omega]
           exact hz) (Zt c1) (by simp;omega) (by simp;omega) (by simpa [Function.comp_def] using hj)
          rw [Zmn] at this
          simp only [List.length_map,l1] at this
          refine this.mono fun e' w' he=>?_
          obtain ⟨rfl,hB⟩:=he
          refine ⟨s,Uh hS hn hB,?_⟩
          have:=Rv.str (D:=Dn D H.next H.next) (s:=s) (Lib.join l sep)
          simpa [Function.comp_def] using this
         cases h1 with
         | sln _ _ _ _ hDb e2 e3 e4 e5 =>
          refine key _ hDb ?_
          simp at e5 ⊢
          omega
         | slc _ _ _ _ _ hDb e2 e3 e4 e5 e6=>exact key _ hDb e5
     ·cases hk
    ·cases hk
   ·cases hk
  ·cases hk
 ·cases hk
end Go.AM.YtlillgmgpmbfnaaGreatDoorT
set_option maxRecDepth 100000
namespace Go.AM.YtlillgmgpmbfnaaGreatDoorT
open Go Go.AM Go.Proofs Go.Shelf
theorem Zp5 (args:Array Value) (w:World):CallsD Tryz.prog 52 args .returning w fun e u w'=>(∃ v,e = .returned v)/\u = .returning/\w' = w:=by
 refine callsD_of_wpS Tryz.func52 rfl fun c₀ cs hu=>?_
 have hsz:Tryz.f52.ntmps<=(args++Array.replicate (Tryz.f52.ntmps-args.size) undef).size:=by simp;omega
 generalize args++Array.replicate (Tryz.f52.ntmps-args.size) undef=tm at hsz
 rw [Tryz.ntmps52] at hsz
 have h3:3 < tm.size:=by omega
 have h6:6 < tm.size:=by omega
 have h7:7 < tm.size:=by omega
 have h8:8 < tm.size:=by omega
 have e6:∀ (t:Array Value) (v:Value),t.size=tm.size->(t.setIfInBounds 6 v)[6]? = some v:=fun t v ht=>by simp [Array.getElem?_setIfInBounds_self,show 6 < t.size by omega]
 have e3:∀ (t:Array Value) (v:Value),t.size=tm.size->(t.setIfInBounds 3 v)[3]? = some v:=fun t v ht=>by simp [Array.getElem?_setIfInBounds_self,show 3 < t.size by omega]
 have e7:∀ (t:Array Value) (v:Value),t.size=tm.size->(t.setIfInBounds 7 v)[7]? = some v:=fun t v ht=>by simp [Array.getElem?_setIfInBounds_self,show 7 < t.size by omega]
 have e8:∀ (t:Array Value) (v:Value),t.size=tm.size->(t.setIfInBounds 8 v)[8]? = some v:=fun t v ht=>by simp [Array.getElem?_setIfInBounds_self,show 8 < t.size by omega]
 apply wpS_seq
 apply wpS_region
 simp [wpOpsS,go_sem,recoverD,hu,Exit.thenS,Act.put,Act.eval,e6,e3,e7,e8]
 apply wpS_seq
 apply wpS_region
 simp [wpOpsS,go_sem,recoverD,hu,Exit.thenS,Act.put,Act.eval,e6,e3,e7,e8]
 refine wpS_cond (t:=false) (by simp [Act.eval,e8]) ?_
 simp only [Bool.false_eq_true,if_false]
 refine wpS_of_wp (_root_.Go.wp_skip ?_)
 cases c₀
 simp_all [bodyPostS,results,Tryz.results52]
end Go.AM.YtlillgmgpmbfnaaGreatDoorT
set_option maxHeartbeats 8000000
set_option maxRecDepth 100000
namespace Go.AM.YtlillgmgpmbfnaaGreatDoorT
open Go Go.AM Go.Proofs
theorem Zyy:Zg3 tab Tryz.prog:=fun f e hx=>by
 have hx:ext0 f=some e:=hx
 unfold ext0 at hx
 split at hx
 ·rename_i hf;subst hf;cases hx;exact Yfu
 split at hx
 ·rename_i hf;subst hf;cases hx;exact ccF
 split at hx
 ·rename_i hf;subst hf;cases hx;exact ixF
 split at hx
 ·rename_i hf;subst hf;cases hx;exact strF
 split at hx
 ·rename_i hf;subst hf;cases hx;exact Yb8
 split at hx
 ·rename_i hf;subst hf;cases hx;exact clF
 split at hx
 ·rename_i hf;subst hf;cases hx;exact fmtF
 split at hx
 ·rename_i hf;subst hf;cases hx;exact Z9k
 split at hx
 ·rename_i hf;subst hf;cases hx;exact piF
 split at hx
 ·rename_i hf;subst hf;cases hx;exact repF
 split at hx
 ·rename_i hf;subst hf;cases hx;exact Yfz
 ·cases hx
theorem Ur:J0 tab:=fun f e hx xs H v H' hk hG=>by
 have hx:ext0 f=some e:=hx
 unfold ext0 at hx
 split at hx
 ·cases hx;exact Zqc hk hG
 split at hx
 ·cases hx;exact Zvg hk hG
 split at hx
 ·cases hx;exact Zvh hk hG
 split at hx
 ·cases hx;exact Zuq hk hG
 split at hx
 ·cases hx;exact Zp0 hk hG
 split at hx
 ·cases hx;exact Zxa hk hG
 split at hx
 ·cases hx;exact Zuv hk hG
 split at hx
 ·cases hx;exact Zpj hk hG
 split at hx
 ·cases hx;exact Zva hk hG
 split at hx
 ·cases hx;exact Zso hk hG
 split at hx
 ·cases hx;exact Zqb hk hG
 ·cases hx
theorem Z1l:Zbk tab Tryz.prog:=fun g h=>by cases h
theorem okP:ProgOk tab Tryz.prog an:=ok Zyy Ur Z1l
#print axioms okP
end Go.AM.YtlillgmgpmbfnaaGreatDoorT
