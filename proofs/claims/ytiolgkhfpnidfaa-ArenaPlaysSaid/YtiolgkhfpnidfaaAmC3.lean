/- Parts of the abstract machine and of the walks over it, joined: what the law that is claimed here leans on. -/
import Derived.Test.YtiolgkhfpnidfaaAmC2
import Derived.WalkKit
import Derived.ProofKit
import Derived.OpenShut
import Derived.ShutString
import Derived.ChangeOld
import Derived.SizedLaws
import Derived.ChangeBears2
import Derived.Deep.Slices
import Derived.RangeFuncRecord
import Derived.RangeFuncSeq
import Derived.LoopNIn
import Derived.Lib.ItoaNum
import Derived.Lib.ParseIntB
import Derived.Lib.Join
import Derived.Lib.Repeat
import Derived.Stop.LaidErr
import Derived.LaidMore
import Derived.ChangeMaps3
set_option linter.unusedVariables false
set_option linter.unusedSimpArgs false
namespace Go.AM
open Go
theorem wr_i64 {n:Int} (h0:0<=n) (h1:n < 9223372036854775808):wr .i64 n=n:=by
 obtain ⟨m,rfl⟩:=Int.eq_ofNat_of_zero_le h0
 have:m < 9223372036854775808:=by omega
 show (if m < 9223372036854775808 then Int.ofNat m else _)=_
 rw [if_pos this];rfl
theorem wr_u64 {n:Int} (h0:0<=n) (h1:n < 18446744073709551616):wr .u64 n=n:=by
 obtain ⟨m,rfl⟩:=Int.eq_ofNat_of_zero_le h0
 have:m < 18446744073709551616:=by omega
 show (if m < 18446744073709551616 then Int.ofNat m else _)=_
 rw [if_pos this];rfl
theorem wr_u32 {n:Int} (h0:0<=n) (h1:n < 4294967296):wr .u32 n=n:=by
 obtain ⟨m,rfl⟩:=Int.eq_ofNat_of_zero_le h0
 have:m < 4294967296:=by omega
 show (if m < 4294967296 then Int.ofNat m else _)=_
 rw [if_pos this];rfl
theorem wr_succ {i:Nat} (h:i < 1000000000):wr .i64 ((i:Int)+1)=(i+1:Nat):=by rw [wr_i64 (by omega) (by omega)];omega
structure Ext (X:Nat->Prop) (H H' : Hp):Prop where
 st:H'.stale=[]
 le:H.next<=H'.next
 get:∀ b,b < H.next->¬ X b->H'.get b=H.get b
def noX:Nat->Prop:=fun _=>False
theorem Ext.refl {X:Nat->Prop} {H:Hp} (h:H.stale=[]):Ext X H H:=⟨h,Nat.le_refl _,fun _ _ _=>rfl⟩
theorem Ext.trans {X:Nat->Prop} {H H1 H2:Hp} (h:Ext X H H1) (h' : Ext X H1 H2):Ext X H H2:=⟨h'.st,Nat.le_trans h.le h'.le,fun b hb hx=>(h'.get b (Nat.lt_of_lt_of_le hb h.le) hx).trans (h.get b hb hx)⟩
theorem Ext.mono {X Y:Nat->Prop} {H H' : Hp} (h:Ext X H H') (hx:∀ b,b < H.next->X b->Y b):Ext Y H H':=⟨h.st,h.le,fun b hb hy=>h.get b hb fun hxb=>hy (hx b hb hxb)⟩
theorem Ext.no {X:Nat->Prop} {H H' : Hp} (h:Ext noX H H'):Ext X H H':=h.mono fun _ _ h=>h.elim
theorem Ext.keep {H H' : Hp} (h:Ext noX H H') {b:Nat} {o:Ob} (hb:b < H.next) (hg:H.get b=some o):H'.get b=some o:=by rw [h.get b hb (fun h=>h)];exact hg
theorem Ext.new {X:Nat->Prop} {H:Hp} (h:H.stale=[]) (o:Ob):Ext X H (H.new o):=⟨h,by rw [Hp.next_new];omega,fun b hb _=>get_new_ne o (by omega)⟩
theorem Ext.bump {X:Nat->Prop} {H H' : Hp} (h:Ext X H H'):Ext X H H'.bump:=⟨h.st,Nat.le_succ_of_le h.le,h.get⟩
theorem Ext.put {X:Nat->Prop} {H:Hp} (h:H.stale=[]) {b:Nat} (o:Ob) (hb:X b):Ext X H (H.put b o):=⟨h,Nat.le_refl _,fun c _ hx=>get_put_ne o fun e=>hx (e ▸ hb)⟩
theorem Ext.putge {X:Nat->Prop} {H H1:Hp} (h:Ext X H H1) {b:Nat} (o:Ob) (hb:H.next<=b):Ext X H (H1.put b o):=⟨h.st,h.le,fun c hc hx=>by rw [get_put_ne o (by omega)];exact h.get c hc hx⟩
theorem Ext.newge {X:Nat->Prop} {H H1:Hp} (h:Ext X H H1) (o:Ob):Ext X H (H1.new o):=⟨h.st,by rw [Hp.next_new];have:=h.le;omega,fun c hc hx=>by rw [get_new_ne o (by have:=h.le;omega)];exact h.get c hc hx⟩
theorem nna1 (n:Nat):(n+1=n)=False:=by simp only [eq_iff_iff,iff_false];omega
theorem nnb1 (n:Nat):(n=n+1)=False:=by simp only [eq_iff_iff,iff_false];omega
theorem nna2 (n:Nat):(n+1+1=n)=False:=by simp only [eq_iff_iff,iff_false];omega
theorem nnb2 (n:Nat):(n=n+1+1)=False:=by simp only [eq_iff_iff,iff_false];omega
theorem nna3 (n:Nat):(n+1+1+1=n)=False:=by simp only [eq_iff_iff,iff_false];omega
theorem nnb3 (n:Nat):(n=n+1+1+1)=False:=by simp only [eq_iff_iff,iff_false];omega
theorem nna4 (n:Nat):(n+1+1+1+1=n)=False:=by simp only [eq_iff_iff,iff_false];omega
theorem nnb4 (n:Nat):(n=n+1+1+1+1)=False:=by simp only [eq_iff_iff,iff_false];omega
theorem nna5 (n:Nat):(n+1+1+1+1+1=n)=False:=by simp only [eq_iff_iff,iff_false];omega
theorem nnb5 (n:Nat):(n=n+1+1+1+1+1)=False:=by simp only [eq_iff_iff,iff_false];omega
theorem nna6 (n:Nat):(n+1+1+1+1+1+1=n)=False:=by simp only [eq_iff_iff,iff_false];omega
theorem nnb6 (n:Nat):(n=n+1+1+1+1+1+1)=False:=by simp only [eq_iff_iff,iff_false];omega
theorem nna7 (n:Nat):(n+1+1+1+1+1+1+1=n)=False:=by simp only [eq_iff_iff,iff_false];omega
theorem nnb7 (n:Nat):(n=n+1+1+1+1+1+1+1)=False:=by simp only [eq_iff_iff,iff_false];omega
theorem nna8 (n:Nat):(n+1+1+1+1+1+1+1+1=n)=False:=by simp only [eq_iff_iff,iff_false];omega
theorem nnb8 (n:Nat):(n=n+1+1+1+1+1+1+1+1)=False:=by simp only [eq_iff_iff,iff_false];omega
theorem cells_agg (cs:List V):cellsV (.agg cs)=cs:=Eq.trans rfl rfl
theorem cells_bool (b:Bool):cellsV (.bool b)=[(.bool b)]:=Eq.trans rfl rfl
theorem one_bool (b:Bool):oneV (.bool b)=true:=Eq.trans rfl rfl
theorem cells_int (k:IntKind) (n:Int):cellsV (.int k n)=[(.int k n)]:=Eq.trans rfl rfl
theorem one_int (k:IntKind) (n:Int):oneV (.int k n)=true:=Eq.trans rfl rfl
theorem cells_str (l:List UInt8):cellsV (.str l)=[(.str l)]:=Eq.trans rfl rfl
theorem one_str (l:List UInt8):oneV (.str l)=true:=Eq.trans rfl rfl
theorem cells_nilp   : cellsV .nilp=[.nilp]:=Eq.trans rfl rfl
theorem one_nilp  : oneV .nilp=true:=Eq.trans rfl rfl
theorem cells_ptr (b o:Nat):cellsV (.ptr b o)=[(.ptr b o)]:=Eq.trans rfl rfl
theorem one_ptr (b o:Nat):oneV (.ptr b o)=true:=Eq.trans rfl rfl
theorem cells_nils   : cellsV .nils=[.nils]:=Eq.trans rfl rfl
theorem one_nils  : oneV .nils=true:=Eq.trans rfl rfl
theorem cells_sle   : cellsV .sle=[.sle]:=Eq.trans rfl rfl
theorem one_sle  : oneV .sle=true:=Eq.trans rfl rfl
theorem cells_sl (b o l:Nat) (c:Option Nat) (z:Nat):cellsV (.sl b o l c z)=[(.sl b o l c z)]:=Eq.trans rfl rfl
theorem one_sl (b o l:Nat) (c:Option Nat) (z:Nat):oneV (.sl b o l c z)=true:=Eq.trans rfl rfl
theorem cells_nilm   : cellsV .nilm=[.nilm]:=Eq.trans rfl rfl
theorem one_nilm  : oneV .nilm=true:=Eq.trans rfl rfl
theorem cells_mp (b:Nat):cellsV (.mp b)=[(.mp b)]:=Eq.trans rfl rfl
theorem one_mp (b:Nat):oneV (.mp b)=true:=Eq.trans rfl rfl
theorem cells_nilf   : cellsV .nilf=[.nilf]:=Eq.trans rfl rfl
theorem one_nilf  : oneV .nilf=true:=Eq.trans rfl rfl
theorem cells_fn (f:Fn) (x y:List V):cellsV (.fn f x y)=[(.fn f x y)]:=Eq.trans rfl rfl
theorem one_fn (f:Fn) (x y:List V):oneV (.fn f x y)=true:=Eq.trans rfl rfl
theorem cells_nili   : cellsV .nili=[.nili]:=Eq.trans rfl rfl
theorem one_nili  : oneV .nili=true:=Eq.trans rfl rfl
theorem cells_ifc (t:TypeId) (v:V):cellsV (.ifc t v)=[(.ifc t v)]:=Eq.trans rfl rfl
theorem one_ifc (t:TypeId) (v:V):oneV (.ifc t v)=true:=Eq.trans rfl rfl
def rowsOf:V->List Nat
 | .sl b _ _ _ _=>[b]
 | _=>[]
inductive SlAt (H:Hp) (e:TypeId) (sz:Nat):V->Nat->List V->Prop
 | nil:SlAt H e sz .nils 0 []
 | row (b n:Nat) (cs:List V):H.get b=some (.row e sz false cs)->n*sz<=cs.length->SlAt H e sz (.sl b 0 n none sz) n (cs.take (n*sz))
theorem SlAt.len {H:Hp} {e:TypeId} {sz n:Nat} {v:V} {l:List V} (h:SlAt H e sz v n l):l.length=n*sz:=by
 cases h with
 | nil=>simp
 | row b n cs hg hl=>simp;omega
theorem SlAt.of_get {H H' : Hp} {e:TypeId} {sz n:Nat} {v:V} {l:List V} (h:SlAt H e sz v n l) (hg:∀ b∈rowsOf v,H'.get b=H.get b):SlAt H' e sz v n l:=by
 cases h with
 | nil=>exact .nil
 | row b n cs h1 hl=>exact .row b n cs (by rw [hg b (by simp [rowsOf])];exact h1) hl
theorem SlAt.eqv {H:Hp} {e:TypeId} {sz n:Nat} {v:V} {l:List V} (h:SlAt H e sz v n l):eqV v v=true:=by
 cases h<;>simp [eqV]
theorem SlAt.cells {H:Hp} {e:TypeId} {sz n:Nat} {v:V} {l:List V} (h:SlAt H e sz v n l):cellsV v=[v]:=by
 cases h<;>rfl
theorem SlAt.one {H:Hp} {e:TypeId} {sz n:Nat} {v:V} {l:List V} (h:SlAt H e sz v n l):oneV v=true:=by
 cases h<;>rfl
theorem SlAt.lenV {H:Hp} {e:TypeId} {sz n:Nat} {v:V} {l:List V} (h:SlAt H e sz v n l) (e0:TypeId):lenV v (some (.slice e0))=some (.int .i64 n):=by
 cases h<;>rfl
theorem lenV_sl (b o n:Nat) (c:Option Nat) (z:Nat) (e:TypeId):Go.AM.lenV (.sl b o n c z) (some (.slice e))=some (.int .i64 n):=Eq.trans rfl rfl
theorem lenV_nils (e:TypeId):Go.AM.lenV .nils (some (.slice e))=some (.int .i64 0):=Eq.trans rfl rfl
theorem lenV_sle (e:TypeId):Go.AM.lenV .sle (some (.slice e))=some (.int .i64 0):=Eq.trans rfl rfl
theorem lenV_str (s:List UInt8):Go.AM.lenV (.str s) (some .str)=some (.int .i64 s.length):=Eq.trans rfl rfl
structure AppR (H:Hp) (s:V) (H' : Hp) (s' : V):Prop where
 le:H.next<=H'.next
 keep:∀ c,c < H.next->c∉rowsOf s->c∉H.stale->H'.get c=H.get c/\c∉H'.stale
 new:∀ b∈rowsOf s',b∉H'.stale/\b < H'.next/\(b∈rowsOf s\/H.next<=b)
 old:∀ c∈H'.stale,c∈H.stale\/c∈rowsOf s
theorem setCells_app:∀ (news cs:List V) (off:Nat),off+news.length<=cs.length->setCells cs off news=cs.take off++news++cs.drop (off+news.length)
 | [],cs,off,h=>by simp [setCells]
 | v :: r,cs,off,h=>by
  simp only [List.length_cons] at h
  rw [setCells,setCells_app r _ _ (by simp;omega)]
  apply List.ext_getElem?
  intro i
  simp only [List.length_cons,List.append_assoc,List.getElem?_append,List.length_take,List.length_set,List.getElem?_take,List.getElem?_set,List.getElem?_drop]
  by_cases h1:i < off
  ·simp [h1,show i < min off cs.length by omega,show i < min (off+1) cs.length by omega,show i < off+1 by omega,show ¬ off=i by omega]
  ·by_cases h2:i=off
   ·subst h2
    have h3:i < min (i+1) cs.length:=by omega
    have h4:¬ i < min i cs.length:=by omega
    simp [h3,h4,show i < cs.length by omega,show min i cs.length=i by omega]
   ·have h3:¬ i < min (off+1) cs.length:=by omega
    have h4:¬ i < min off cs.length:=by omega
    have h5:min off cs.length=off:=by omega
    have h6:min (off+1) cs.length=off+1:=by omega
    simp only [h3,h4,if_false,h5,h6]
    obtain ⟨d,rfl⟩:∃ d,i=off+1+d:=⟨i-(off+1),by omega⟩
    simp only [show off+1+d-(off+1)=d by omega,show off+1+d-off=d+1 by omega,List.cons_append,List.getElem?_cons_succ]
    have g1:¬ off+1+d < off+1:=by omega
    have g2:¬ off+1+d < off:=by omega
    simp only [g1,g2,if_false,Nat.add_lt_add_iff_right]
    by_cases h7:d < r.length
    ·simp [h7]
    ·have g3:¬ (off=off+1+r.length+(d-r.length)):=by omega
     simp only [h7,if_false,g3]
     congr 1
     omega
section
variable {T:Tab} {t t' e:TypeId} {i:TI} {xs ys:Operand} {F:Fr} {H:Hp} {s x:V} {m n:Nat} {news l:List V}
theorem takeSl_of {g g' : Nat->Option Ob} {sz:Nat} {x:V} {r:Nat×List V} (h:takeSl g sz x=some r) (hg:∀ b∈rowsOf x,g' b=g b):takeSl g' sz x=some r:=by
 unfold takeSl at h ⊢
 split at h
 ·exact h
 ·exact h
 ·rw [hg _ (by simp [rowsOf])];exact h
 ·cases h
theorem takeX_of {T:Tab} {t t' e:TypeId} {g g' : Nat->Option Ob} {sz:Nat} {x:V} {r:Nat×List V} (h:takeX T g t t' e sz x=some r) (hg:∀ b∈rowsOf x,g' b=g b):takeX T g' t t' e sz x=some r:=by
 unfold takeX at h ⊢
 by_cases e0:t=t'
 ·rw [if_pos e0] at h ⊢;exact takeSl_of h hg
 ·rw [if_neg e0] at h ⊢;exact h
theorem takeX_sl {T:Tab} {t e:TypeId} {g:Nat->Option Ob} {sz:Nat} {x:V}:takeX T g t t e sz x=takeSl g sz x:=by
 unfold takeX;rw [if_pos rfl]
theorem app_ev (hd:descOf T t=some (.slice e)) (hi:T.ty e=some i) (hsz:0 < i.size) (hx:opd T.ng F xs=some s) (hy:opd T.ng F ys=some x) (hs:SlAt H e i.size s n l) (hst:∀ b∈rowsOf s,b < H.next/\b∉H.stale)
  (ht:takeX T H.get t t' e i.size x=some (m,news)) (hm:0 < m) (hln:news.length=m*i.size) (hb:(n+m)*i.bytes<=140737488355328) (hb2:n+m<=9223372036854775807) (hxs:∀ b∈rowsOf x,b∉H.stale/\b∉rowsOf s) (hG:∀ c∈H.stale,c < H.next) :
  ∃ s' H',evOp T (.call ⟨.builtin .append,#[xs,ys],#[t,t']⟩) F H=some (.val s' H')/\SlAt H' e i.size s' (n+m) (l++news)/\AppR H s H' s':=by
 obtain ⟨k,rfl⟩:∃ k,m=k+1:=⟨m-1,by omega⟩
 have hk:kind T (.call ⟨.builtin .append,#[xs,ys],#[t,t']⟩) = .a:=rfl
 have ho:opds T.ng F (#[xs,ys]:Array Operand).toList=some [s,x]:=by simp [opds,hx,hy]
 have nst:H.next∉H.stale:=fun h=>absurd (hG _ h) (Nat.lt_irrefl _)
 have fresh:∀ (H0:Hp) (cs:List V),H0.next=H.next->(∀ c,c < H.next->c∉rowsOf s->c∉H.stale->H0.get c=H.get c)->(∀ c∈H0.stale,c∈H.stale)->∀ b,rowsOf s=[b]->(n+(k+1))*i.size=cs.length->cs=l++news ->
   SlAt ({ H0.new (.row e i.size false cs) with stale:=b :: H0.stale }) e i.size (.sl H0.next 0 (n+(k+1)) none i.size) (n+(k+1)) (l++news)/\AppR H s { H0.new (.row e i.size false cs) with stale:=b :: H0.stale } (.sl H0.next 0 (n+(k+1)) none i.size):=fun H0 cs hn hget hstl b hrow hlen hcs=>by
  have hbn:=(hst b (by rw [hrow];simp)).1
  refine ⟨?_,?_,fun c hc h1 h2=>⟨?_,?_⟩,fun c hc=>⟨?_,?_,?_⟩,fun c hc=>?_⟩
  ·have:=SlAt.row (H:={ H0.new (.row e i.size false cs) with stale:=b :: H0.stale }) (sz:=i.size) H0.next (n+(k+1)) cs (get_new_self H0 _) (by omega)
   rw [hlen,List.take_length,hcs] at this
   rw [<- hcs] at this ⊢
   exact this
  ·show H.next<=H0.next+1;omega
  ·show (H0.new _).get c=_
   rw [get_new_ne _ (by omega)];exact hget c hc h1 h2
  ·show c∉b :: H0.stale
   rw [hrow] at h1
   simp only [List.mem_cons,List.not_mem_nil,or_false] at h1
   simp only [List.mem_cons,not_or]
   exact ⟨h1,fun h=>h2 (hstl c h)⟩
  ·simp only [rowsOf,List.mem_cons,List.not_mem_nil,or_false] at hc
   subst hc
   show H0.next∉b :: H0.stale
   simp only [List.mem_cons,not_or]
   exact ⟨by omega,fun h=>nst (hn ▸ hstl _ h)⟩
  ·simp only [rowsOf,List.mem_cons,List.not_mem_nil,or_false] at hc
   subst hc
   show H0.next < H0.next+1;omega
  ·simp only [rowsOf,List.mem_cons,List.not_mem_nil,or_false] at hc
   subst hc
   right;omega
  ·have hc:c∈b :: H0.stale:=hc
   rw [List.mem_cons] at hc
   rcases hc with rfl | hc
   ·right;rw [hrow];simp
   ·exact .inl (hstl c hc)
 cases hs with
 | nil =>
  refine ⟨.sl H.next 0 (k+1) none i.size,H.new (.row e i.size false news),?_,?_,?_,fun c hc h1 h2=>⟨get_new_ne _ (by omega),h2⟩,fun b hb=>?_,fun c hc=>.inl hc⟩
  ·rw [Nat.zero_add] at hb hb2
   simp [evOp,hk,evA,ho,hd,hi,ht,hb,hb2,hsz,kbOk,afterA]
  ·have:=SlAt.row (H:=H.new (.row e i.size false news)) (sz:=i.size) H.next (k+1) news (get_new_self H _) (by omega)
   rw [<- hln,List.take_length] at this
   rw [Nat.zero_add,List.nil_append]
   exact this
  ·rw [Hp.next_new];omega
  ·simp only [rowsOf,List.mem_cons,List.not_mem_nil,or_false] at hb
   subst hb
   exact ⟨nst,by rw [Hp.next_new];omega,.inr (Nat.le_refl _)⟩
 | row b n cs hg hl =>
  obtain ⟨hbn,hbs⟩:=hst b (by simp [rowsOf])
  have hrow:rowsOf (.sl b 0 n none i.size)=[b]:=rfl
  by_cases hfull:n*i.size=cs.length
  ·-- all of the row: a new one
   have hl' : cs.take (n*i.size)=cs:=by rw [hfull,List.take_length]
   obtain ⟨h1,h2⟩:=fresh H (cs++news) rfl (fun _ _ _ _=>rfl) (fun _ h=>h) b hrow (by rw [List.length_append,hln,<- hfull,Nat.add_mul]) (by rw [hl'])
   refine ⟨_,_,?_,h1,h2⟩
   have hkb:H.stale.contains b=false:=by simpa using hbs
   simp [evOp,hk,evA,ho,hd,hi,ht,hg,hfull,hb,hb2,kbOk,afterA,hbs]
  ·have hlt:n*i.size < cs.length:=by omega
   have hfl:∀ c,c∉H.stale->H.flush.get c=H.get c:=fun c hc=>by rw [Hp.get_flush,if_neg hc]
   have htf:takeX T H.flush.get t t' e i.size x=some (k+1,news):=takeX_of ht fun b hb=>hfl b (hxs b hb).1
   have hgf:H.flush.get b=some (.row e i.size false cs):=by rw [hfl b hbs];exact hg
   have hA0:evA T (.call ⟨.builtin .append,#[xs,ys],#[t,t']⟩) F H.get H.next=none:=by
    simp [evA,ho,hd,hi,ht,hg,hfull]
   by_cases hin:(n+(k+1))*i.size<=cs.length
   ·-- within the row
    refine ⟨.sl b 0 (n+(k+1)) none i.size,H.flush.put b (.row e i.size false (setCells cs (n*i.size) news)),?_,?_,?_,fun c hc h1 h2=>⟨?_,?_⟩,fun c hc=>?_,fun c hc=>?_⟩
    ·simp [evOp,hk,hA0,evAW,ho,hd,hi,htf,hgf,hlt,hin]
    ·have hA:(n+(k+1))*i.size=n*i.size+(k+1)*i.size:=Nat.add_mul _ _ _
     have hmn:min (n*i.size) cs.length=n*i.size:=by omega
     have hlen:n*i.size+news.length<=cs.length:=by rw [hln];omega
     have:=SlAt.row (H:=H.flush.put b (.row e i.size false (setCells cs (n*i.size) news))) (sz:=i.size) b (n+(k+1)) (setCells cs (n*i.size) news) (get_put_self _ _ _) (by rw [setCells_app _ _ _ hlen];simp only [List.length_append,List.length_take,List.length_drop,hln,hA,hmn];omega)
     have e1:(setCells cs (n*i.size) news).take ((n+(k+1))*i.size)=cs.take (n*i.size)++news:=by
      rw [setCells_app _ _ _ hlen,List.take_append_of_le_length (by simp only [List.length_append,List.length_take,hln,hA,hmn];omega)]
      rw [List.take_of_length_le (by simp only [List.length_append,List.length_take,hln,hA,hmn];omega)]
     rw [e1] at this
     exact this
    ·rw [Hp.next_put,Hp.next_flush];exact Nat.le_refl _
    ·rw [hrow] at h1
     rw [get_put_ne _ (by simpa using h1),hfl c h2]
    ·rw [st_put,Hp.stale_flush];simp
    ·simp only [rowsOf,List.mem_cons,List.not_mem_nil,or_false] at hc
     subst hc
     exact ⟨by rw [st_put,Hp.stale_flush];simp,by rw [Hp.next_put,Hp.next_flush];exact hbn,.inl (by simp [rowsOf])⟩
    ·rw [st_put,Hp.stale_flush] at hc;simp at hc
   ·-- beyond
    have hlc:(cs.take (n*i.size)).length=n*i.size:=by simp;omega
    obtain ⟨h1,h2⟩:=fresh (H.flush.put b (.row e i.size false (cs.take (n*i.size)))) (cs.take (n*i.size)++news) (by rw [Hp.next_put,Hp.next_flush]) (fun c hc h1 h2=>by rw [hrow] at h1;rw [get_put_ne _ (by simpa using h1),hfl c h2]) (fun c hc=>by rw [st_put,Hp.stale_flush] at hc;simp at hc) b hrow (by rw [List.length_append,hln,hlc,Nat.add_mul]) rfl
    refine ⟨_,_,?_,h1,h2⟩
    have hbx:∀ c∈rowsOf x,(H.flush.put b (.row e i.size false (cs.take (n*i.size)))).get c=H.flush.get c:=fun c hc=>get_put_ne _ (by have:=(hxs c hc).2;rw [hrow] at this;simpa using this)
    have htp:=takeX_of htf hbx
    have hgp:(H.flush.put b (.row e i.size false (cs.take (n*i.size)))).get b=some (.row e i.size false (cs.take (n*i.size))):=get_put_self _ _ _
    have hmin:min (n*i.size) cs.length=n*i.size:=by omega
    have hne:¬ ((n+(k+1))*i.size<=cs.length):=hin
    have hA1:evA T (.call ⟨.builtin .append,#[xs,ys],#[t,t']⟩) F (H.flush.put b (.row e i.size false (cs.take (n*i.size)))).get H.flush.next=some (.sl H.flush.next 0 (n+(k+1)) none i.size,some (.row e i.size false (cs.take (n*i.size)++news)),some b):=by
     simp [evA,ho,hd,hi,htp,hgp,hmin,hb,hb2]
    have hAW:evAW T (.call ⟨.builtin .append,#[xs,ys],#[t,t']⟩) F H.flush=some (.sl (H.flush.put b (.row e i.size false (cs.take (n*i.size)))).next 0 (n+(k+1)) none i.size,afterA (H.flush.put b (.row e i.size false (cs.take (n*i.size)))) (some (.row e i.size false (cs.take (n*i.size)++news))) (some b)):=by
     simp [evAW,ho,hd,hi,htf,hgf,hlt,hne,hA1,Hp.next_put]
    simp only [evOp,hk,hA0,hAW]
    rfl
theorem wpL_appX {d:Option Tmp} {r:List SOp} {Q:PL} (hd:descOf T t=some (.slice e)) (hi:T.ty e=some i) (hsz:0 < i.size) (hx:opd T.ng F xs=some s) (hy:opd T.ng F ys=some x) (hs:SlAt H e i.size s n l) (hst:∀ b∈rowsOf s,b < H.next/\b∉H.stale)
  (ht:takeX T H.get t t' e i.size x=some (m,news)) (hm:0 < m) (hln:news.length=m*i.size) (hb:(n+m)*i.bytes<=140737488355328) (hb2:n+m<=9223372036854775807) (hxs:∀ b∈rowsOf x,b∉H.stale/\b∉rowsOf s) (hG:∀ c∈H.stale,c < H.next)
  (h:∀ s' H',SlAt H' e i.size s' (n+m) (l++news)->AppR H s H' s'->wpL T r (putD F d s') H' Q):opQ T (.call ⟨.builtin .append,#[xs,ys],#[t,t']⟩) d r F H Q .a:=by
 obtain ⟨s',H',h1,h2,h3⟩:=app_ev hd hi hsz hx hy hs hst ht hm hln hb hb2 hxs hG
 have:=wpL_cons (T:=T) d (.call ⟨.builtin .append,#[xs,ys],#[t,t']⟩) none r F H Q
 rw [wpL] at this
 simp only [wantS,h1,wantQ] at this
 have hk:kind T (.call ⟨.builtin .append,#[xs,ys],#[t,t']⟩) = .a:=rfl
 rw [hk] at this
 rw [<- this]
 exact h s' H' h2 h3
theorem wpD_appX {d:Option Tmp} {r:List (SOp×Nat)} {k:Nat} {B:List Hp} {Q:PL} (hd:descOf T t=some (.slice e)) (hi:T.ty e=some i) (hsz:0 < i.size) (hx:opd T.ng F xs=some s) (hy:opd T.ng F ys=some x) (hs:SlAt H e i.size s n l) (hst:∀ b∈rowsOf s,b < H.next/\b∉H.stale)
  (ht:takeX T H.get t t' e i.size x=some (m,news)) (hm:0 < m) (hln:news.length=m*i.size) (hb:(n+m)*i.bytes<=140737488355328) (hb2:n+m<=9223372036854775807) (hxs:∀ b∈rowsOf x,b∉H.stale/\b∉rowsOf s) (hG:∀ c∈H.stale,c < H.next)
  (h:∀ s' H',SlAt H' e i.size s' (n+m) (l++news)->AppR H s H' s'->wpD T r (putD F d s') H'.bump (H' :: B) Q):opD T (.call ⟨.builtin .append,#[xs,ys],#[t,t']⟩) k d r F H B Q .a:=by
 obtain ⟨s',H',h1,h2,h3⟩:=app_ev hd hi hsz hx hy hs hst ht hm hln hb hb2 hxs hG
 have:=wpD_cons (T:=T) d (.call ⟨.builtin .append,#[xs,ys],#[t,t']⟩) none k r F H B Q
 rw [wpD] at this
 have hk:kind T (.call ⟨.builtin .append,#[xs,ys],#[t,t']⟩) = .a:=rfl
 have hp:isPt T (.call ⟨.builtin .append,#[xs,ys],#[t,t']⟩)=true:=rfl
 simp only [wantS,h1,wantDQ,hp,if_true] at this
 rw [hk] at this
 rw [<- this]
 exact h s' H' h2 h3
theorem wpL_app {d:Option Tmp} {r:List SOp} {Q:PL} (hd:descOf T t=some (.slice e)) (hi:T.ty e=some i) (hsz:0 < i.size) (hx:opd T.ng F xs=some s) (hy:opd T.ng F ys=some x) (hs:SlAt H e i.size s n l) (hst:∀ b∈rowsOf s,b < H.next/\b∉H.stale)
  (ht:takeSl H.get i.size x=some (m,news)) (hm:0 < m) (hln:news.length=m*i.size) (hb:(n+m)*i.bytes<=140737488355328) (hb2:n+m<=9223372036854775807) (hxs:∀ b∈rowsOf x,b∉H.stale/\b∉rowsOf s) (hG:∀ c∈H.stale,c < H.next)
  (h:∀ s' H',SlAt H' e i.size s' (n+m) (l++news)->AppR H s H' s'->wpL T r (putD F d s') H' Q):opQ T (.call ⟨.builtin .append,#[xs,ys],#[t,t]⟩) d r F H Q .a :=
 wpL_appX hd hi hsz hx hy hs hst (takeX_sl.trans ht) hm hln hb hb2 hxs hG h
theorem wpD_app {d:Option Tmp} {r:List (SOp×Nat)} {k:Nat} {B:List Hp} {Q:PL} (hd:descOf T t=some (.slice e)) (hi:T.ty e=some i) (hsz:0 < i.size) (hx:opd T.ng F xs=some s) (hy:opd T.ng F ys=some x) (hs:SlAt H e i.size s n l) (hst:∀ b∈rowsOf s,b < H.next/\b∉H.stale)
  (ht:takeSl H.get i.size x=some (m,news)) (hm:0 < m) (hln:news.length=m*i.size) (hb:(n+m)*i.bytes<=140737488355328) (hb2:n+m<=9223372036854775807) (hxs:∀ b∈rowsOf x,b∉H.stale/\b∉rowsOf s) (hG:∀ c∈H.stale,c < H.next)
  (h:∀ s' H',SlAt H' e i.size s' (n+m) (l++news)->AppR H s H' s'->wpD T r (putD F d s') H'.bump (H' :: B) Q):opD T (.call ⟨.builtin .append,#[xs,ys],#[t,t]⟩) k d r F H B Q .a :=
 wpD_appX hd hi hsz hx hy hs hst (takeX_sl.trans ht) hm hln hb hb2 hxs hG h
end
section
variable {T:Tab} {t e e0:TypeId} {i:TI} {xs ys:Operand} {F:Fr} {H:Hp} {s:V} {n:Nat} {cells l:List V}
theorem AppR.of_new {o:Ob} {H' : Hp} {s' : V} (hst:∀ b∈rowsOf s,b < H.next) (h:AppR (H.new o) s H' s'):AppR H s H' s':=by
 have hle:=h.le
 rw [Hp.next_new] at hle
 refine ⟨by omega,fun c hc h1 h2=>?_,fun b hb=>?_,h.old⟩
 ·have:=h.keep c (by rw [Hp.next_new];omega) h1 h2
  rw [get_new_ne _ (by omega)] at this
  exact this
 ·obtain ⟨h1,h2,h3⟩:=h.new b hb
  rw [Hp.next_new] at h3
  exact ⟨h1,h2,by rcases h3 with h3 | h3;exact .inl h3;exact .inr (by omega)⟩
theorem app1_hyps (hs:SlAt H e i.size s n l) (hst:∀ b∈rowsOf s,b < H.next/\b∉H.stale) (hc:cells.length=i.size) (hG:∀ c∈H.stale,c < H.next) :
  SlAt (H.new (.row e0 i.size false cells)) e i.size s n l/\(∀ b∈rowsOf s,b < (H.new (.row e0 i.size false cells)).next/\b∉(H.new (.row e0 i.size false cells)).stale)/\takeSl (H.new (.row e0 i.size false cells)).get i.size (.sl H.next 0 1 none i.size)=some (1,cells) /\
  (∀ b∈rowsOf (.sl H.next 0 1 none i.size),b∉(H.new (.row e0 i.size false cells)).stale/\b∉rowsOf s)/\(∀ c∈(H.new (.row e0 i.size false cells)).stale,c < (H.new (.row e0 i.size false cells)).next):=by
 refine ⟨hs.of_get fun b hb=>get_new_ne _ (by have:=(hst b hb).1;omega),fun b hb=>⟨?_,(hst b hb).2⟩,?_,fun b hb=>?_,fun c hcs=>?_⟩
 ·rw [Hp.next_new];have:=(hst b hb).1;omega
 ·simp only [takeSl,get_new_self]
  have h0:0+1*i.size<=cells.length:=by omega
  simp only [true_and,h0,if_true,List.drop_zero]
  rw [Nat.one_mul,<- hc,List.take_length]
 ·simp only [rowsOf,List.mem_cons,List.not_mem_nil,or_false] at hb
  subst hb
  exact ⟨fun h=>absurd (hG _ h) (Nat.lt_irrefl _),fun h=>absurd (hst _ h).1 (Nat.lt_irrefl _)⟩
 ·rw [Hp.next_new];have:=hG c hcs;omega
theorem wpL_app1 {d:Option Tmp} {r:List SOp} {Q:PL} (hd:descOf T t=some (.slice e)) (hi:T.ty e=some i) (hsz:0 < i.size) (hx:opd T.ng F xs=some s) (hy:opd T.ng F ys=some (.sl H.next 0 1 none i.size)) (hs:SlAt H e i.size s n l) (hst:∀ b∈rowsOf s,b < H.next/\b∉H.stale)
  (hc:cells.length=i.size) (hb:(n+1)*i.bytes<=140737488355328) (hb2:n+1<=9223372036854775807) (hG:∀ c∈H.stale,c < H.next)
  (h:∀ s' H',SlAt H' e i.size s' (n+1) (l++cells)->AppR H s H' s'->wpL T r (putD F d s') H' Q):opQ T (.call ⟨.builtin .append,#[xs,ys],#[t,t]⟩) d r F (H.new (.row e0 i.size false cells)) Q .a:=by
 obtain ⟨h1,h2,h3,h4,h5⟩:=app1_hyps (e0:=e0) hs hst hc hG
 exact wpL_app hd hi hsz hx hy h1 h2 h3 (by omega) (by omega) hb hb2 h4 h5 fun s' H' g1 g2=>h s' H' g1 (g2.of_new fun b hb=>(hst b hb).1)
theorem wpD_app1 {d:Option Tmp} {r:List (SOp×Nat)} {k:Nat} {B:List Hp} {Q:PL} (hd:descOf T t=some (.slice e)) (hi:T.ty e=some i) (hsz:0 < i.size) (hx:opd T.ng F xs=some s) (hy:opd T.ng F ys=some (.sl H.next 0 1 none i.size)) (hs:SlAt H e i.size s n l) (hst:∀ b∈rowsOf s,b < H.next/\b∉H.stale)
  (hc:cells.length=i.size) (hb:(n+1)*i.bytes<=140737488355328) (hb2:n+1<=9223372036854775807) (hG:∀ c∈H.stale,c < H.next)
  (h:∀ s' H',SlAt H' e i.size s' (n+1) (l++cells)->AppR H s H' s'->wpD T r (putD F d s') H'.bump (H' :: B) Q):opD T (.call ⟨.builtin .append,#[xs,ys],#[t,t]⟩) k d r F (H.new (.row e0 i.size false cells)) B Q .a:=by
 obtain ⟨h1,h2,h3,h4,h5⟩:=app1_hyps (e0:=e0) hs hst hc hG
 exact wpD_app hd hi hsz hx hy h1 h2 h3 (by omega) (by omega) hb hb2 h4 h5 fun s' H' g1 g2=>h s' H' g1 (g2.of_new fun b hb=>(hst b hb).1)
end
section
variable (T:Tab) (d:Option Tmp) (r:List SOp) (F:Fr) (H:Hp) (Q:PL)
theorem oq_p (o:Op):opQ T o d r F H Q .p=kV T d r F H Q (evP T o F):=Eq.trans rfl rfl
theorem oq_r (o:Op):opQ T o d r F H Q .r=kV T d r F H Q (evR T o F H.get):=Eq.trans rfl rfl
theorem oq_w (o:Op):opQ T o d r F H Q .w=kW T d r F Q (evW T o F H.flush):=Eq.trans rfl rfl
theorem oq_c (o:Op):opQ T o d r F H Q .c=kCo T o d r F H Q:=Eq.trans rfl rfl
theorem oq_alloc (e:TypeId):opQ T (.alloc e) d r F H Q .a=kA T (.alloc e) d r F H Q (evA T (.alloc e) F H.get H.next):=Eq.trans rfl rfl
theorem oq_box (e:TypeId) (x:Operand):opQ T (.box e x) d r F H Q .a=kA T (.box e x) d r F H Q (evA T (.box e x) F H.get H.next):=Eq.trans rfl rfl
theorem oq_bs (t:TypeId) (n:Nat) (p:Array (Nat×Operand)):opQ T (.buildSlice t n p) d r F H Q .a=kA T (.buildSlice t n p) d r F H Q (evA T (.buildSlice t n p) F H.get H.next):=Eq.trans rfl rfl
theorem oq_mm (t:TypeId) (x:Option Operand):opQ T (.makeMap t x) d r F H Q .a=kA T (.makeMap t x) d r F H Q (evA T (.makeMap t x) F H.get H.next):=Eq.trans rfl rfl
theorem oq_ms (t:TypeId) (x y:Operand):opQ T (.makeSlice t x y) d r F H Q .a=kA T (.makeSlice t x y) d r F H Q (evA T (.makeSlice t x y) F H.get H.next):=Eq.trans rfl rfl
theorem oq_cv (s t:TypeId) (x:Operand):opQ T (.convert s t x) d r F H Q .a=kA T (.convert s t x) d r F H Q (evA T (.convert s t x) F H.get H.next):=Eq.trans rfl rfl
end
section
variable (T:Tab) (k:Nat) (d:Option Tmp) (r:List (SOp×Nat)) (F:Fr) (H:Hp) (B:List Hp) (Q:PL)
theorem od_p (o:Op):opD T o k d r F H B Q .p=dV T o k d r F H B Q (evP T o F):=Eq.trans rfl rfl
theorem od_r (o:Op):opD T o k d r F H B Q .r=dV T o k d r F H B Q (evR T o F H.get):=Eq.trans rfl rfl
theorem od_w (o:Op):opD T o k d r F H B Q .w=dW T d r F B Q (evW T o F H.flush):=Eq.trans rfl rfl
theorem od_c (o:Op):opD T o k d r F H B Q .c=dCo T o d r F H B Q:=Eq.trans rfl rfl
theorem od_alloc (e:TypeId):opD T (.alloc e) k d r F H B Q .a=dA T (.alloc e) k d r F H B Q false (evA T (.alloc e) F H.get H.next):=Eq.trans rfl rfl
theorem od_box (e:TypeId) (x:Operand):opD T (.box e x) k d r F H B Q .a=dA T (.box e x) k d r F H B Q false (evA T (.box e x) F H.get H.next):=Eq.trans rfl rfl
theorem od_bs (t:TypeId) (n:Nat) (p:Array (Nat×Operand)):opD T (.buildSlice t n p) k d r F H B Q .a=dA T (.buildSlice t n p) k d r F H B Q false (evA T (.buildSlice t n p) F H.get H.next):=Eq.trans rfl rfl
theorem od_mm (t:TypeId) (x:Option Operand):opD T (.makeMap t x) k d r F H B Q .a=dA T (.makeMap t x) k d r F H B Q false (evA T (.makeMap t x) F H.get H.next):=Eq.trans rfl rfl
theorem od_ms (t:TypeId) (x y:Operand):opD T (.makeSlice t x y) k d r F H B Q .a=dA T (.makeSlice t x y) k d r F H B Q false (evA T (.makeSlice t x y) F H.get H.next):=Eq.trans rfl rfl
theorem od_cv (s t:TypeId) (x:Operand):opD T (.convert s t x) k d r F H B Q .a=dA T (.convert s t x) k d r F H B Q false (evA T (.convert s t x) F H.get H.next):=Eq.trans rfl rfl
end
end Go.AM
namespace Go.AM
open Go Go.RowKit
abbrev Rw:=TypeId×Nat×List V
def mkR:List Rw->Nat->Tr Ob->Tr Ob
 | [],_,t=>t
 | (e,z,cs) :: r,i,t=>mkR r (i+1) (t.set i (.row e z true cs))
def hR (l:List Rw):Hp:=⟨l.length,mkR l 0 .nil,[]⟩
theorem mkR_get:∀ (l:List Rw) (i:Nat) (t:Tr Ob) (b:Nat),(mkR l i t).get b=if i<=b then (match l[b-i]? with | some (e,z,cs)=>some (.row e z true cs) | none=>t.get b) else t.get b
 | [],i,t,b=>by simp [mkR]
 | (e,z,cs) :: r,i,t,b=>by
  rw [mkR,mkR_get r (i+1),Tr.get_set]
  by_cases h1:i+1<=b
  ·obtain ⟨d,rfl⟩:∃ d,b=i+1+d:=⟨b-(i+1),by omega⟩
   have e1:i+1+d-(i+1)=d:=by omega
   have e2:i+1+d-i=d+1:=by omega
   have e3:¬ (i+1+d=i):=by omega
   have e4:i<=i+1+d:=by omega
   simp only [h1,e1,e2,e3,e4,if_true,if_false,List.getElem?_cons_succ]
  ·rw [if_neg h1]
   by_cases h2:b=i
   ·subst h2;simp
   ·rw [if_neg h2,if_neg (by omega)]
theorem hR_get (l:List Rw) (b:Nat):(hR l).get b=match l[b]? with | some (e,z,cs)=>some (.row e z true cs) | none=>none:=by
 show (mkR l 0 .nil).get b=_
 rw [mkR_get]
 simp [Tr.get]
theorem hR_st (l:List Rw):(hR l).stale=[]:=Eq.trans rfl rfl
theorem hR_next (l:List Rw):(hR l).next=l.length:=Eq.trans rfl rfl
def dR (l:List Rw):Nat->Prop:=fun b=>b < l.length
theorem satR {l:List Rw} {s:Sg} {W:World} (h:∀ (i:Nat) e z cs,l[i]? = some (e,z,cs)->RowAt (dR l) s W.heap.size W (s i) e z true cs):Sat W.heap.size W (dR l) s (hR l) W:=by
 have hg:∀ b ob,(hR l).get b=some ob->∃ e z cs,l[b]? = some (e,z,cs)/\ob = .row e z true cs:=fun b ob hb=>by
  rw [hR_get] at hb
  split at hb
  ·rename_i e z cs hl;cases hb;exact ⟨e,z,cs,hl,rfl⟩
  ·cases hb
 have how:∀ b,¬ Ow (hR l) b:=fun b ho=>by
  unfold Ow at ho
  split at ho
  ·rename_i hb;obtain ⟨_,_,_,_,h2⟩:=hg _ _ hb;cases h2;cases ho.1
  ·rename_i hb;obtain ⟨_,_,_,_,h2⟩:=hg _ _ hb;cases h2
  ·rename_i hb;obtain ⟨_,_,_,_,h2⟩:=hg _ _ hb;cases h2
  ·cases ho
 refine ⟨Below.refl _ _,fun b e sz ro cs hb hgb=>?_,fun b ro es c hb hgb=>?_,fun b m since seen last hb hgb=>?_,fun b b' _ _ _ ho=>absurd ho (how b),fun x e sz ro cs b e' sz' cs' _ hs=>?_⟩
 ·obtain ⟨e',z',cs',h1,h2⟩:=hg _ _ hgb
  cases h2
  exact h b _ _ _ h1
 ·obtain ⟨e',z',cs',h1,h2⟩:=hg _ _ hgb;cases h2
 ·obtain ⟨e',z',cs',h1,h2⟩:=hg _ _ hgb;cases h2
 ·rw [hR_st] at hs;cases hs
theorem goodR (l:List Rw):Good (hR l):=⟨fun b hb=>by
 rw [hR_get]
 rw [hR_next] at hb
 rw [List.getElem?_eq_none hb],fun x h=>by rw [hR_st] at h;cases h⟩
theorem topR {T:Tab} {P:Program} {an:FuncId->Nat->List Nat} (hT:ProgOk T P an) {l:List Rw} {s:Sg} {W:World} (hI:T.init W.heap.size W) {f:FuncId} {vs:List V} {args:Array Value}
  (hg:GlOk T.ng (dR l) s) (hl:∀ (i:Nat) e z cs,l[i]? = some (e,z,cs)->RowAt (dR l) s W.heap.size W (s i) e z true cs) (hr:RvL (dR l) s vs args.toList)
  (h:WF T f vs (hR l) fun v _=>v = .bool true):Calls P f args W fun e w'=>e = .returned (.bool true)/\Below W.heap.size W w':=by
 obtain ⟨k,v,H',hev,rfl⟩:=h
 obtain ⟨_,hc⟩:=(hT.calls (n0:=W.heap.size) (w0:=W) hI (Nat.le_refl _) k) f vs (hR l) _ H' hev (dR l) s W args hg hr (satR hl) (goodR l) (fun b h1 _ h2=>by rw [hR_next] at h1;exact absurd h2 (Nat.not_lt.2 h1))
 refine hc.mono fun e w' he=>?_
 cases e with
 | returned x =>
  obtain ⟨s',h1,h2⟩:=he
  cases h2
  exact ⟨rfl,h1.sat.below⟩
 | panicked c=>exact he.elim
 | outgrown=>exact he.elim
theorem rowR {l:List Rw} {e:TypeId} {s:Sg} {W:World} {b off cap z:Nat} {cs:List V} {xs:List Value} (hx:RvL (dR l) s cs xs) (ho:cs.all oneV=true) (hlen:cs.length<=cap*z) (hpos:0 < cap*z)
  (hc:∀ i,i < cap*z->∃ x,W.cell? ⟨b,off+i,none⟩=some x) (hv:∀ (i:Nat) x,xs[i]? = some x->W.cell? ⟨b,off+i,none⟩=some x):RowAt (dR l) s W.heap.size W ⟨b,off,cap,z⟩ e z true cs:=by
 have hcell:∀ i x,W.cell? ⟨b,i,none⟩=some x->∃ C et fz,W.heap[b]? = some (.cells C et fz)/\C[i]? = some x:=fun i x h=>by
  unfold World.cell? at h
  dsimp only at h
  split at h
  ·rename_i C et fz hw
   exact ⟨C,et,fz,hw,by simpa using h⟩
  ·cases h
 obtain ⟨x0,hx0⟩:=hc 0 hpos
 obtain ⟨C,et,fz,hw,_⟩:=hcell _ _ hx0
 have hcell' : ∀ i x,W.cell? ⟨b,i,none⟩=some x->C[i]? = some x:=fun i x h=>by
  obtain ⟨C',et',fz',hw',h'⟩:=hcell i x h
  rw [hw] at hw';cases hw'
  exact h'
 refine ⟨⟨C,et,fz,hw,?_,fun i v hv'=>?_,fun h=>by cases h⟩,rfl,hlen,ho,fun h=>by cases h⟩
 ·obtain ⟨xl,hxl⟩:=hc (cap*z-1) (by omega)
  have:=hcell' _ _ hxl
  have:=(Array.getElem?_eq_some_iff.1 this).1
  show off+cap*z<=C.size
  omega
 ·obtain ⟨x,h1,h2⟩:=hx.get i v hv'
  exact ⟨x,hcell' _ _ (hv i x h1),h2⟩
def mkO:List (Option Ob)->Nat->Tr Ob->Tr Ob
 | [],_,t=>t
 | x :: r,i,t=>mkO r (i+1) (Tr.setF (i+1) t i x)
def hO (l:List (Option Ob)):Hp:=⟨l.length,mkO l 0 .nil,[]⟩
end Go.AM
namespace Go.AM
open Go Go.RowKit
section
variable {H:Type} {enc:TypeId×Value->H} {P:Program} {w:World} {base:Nat} {spare:Nat->Bool} {held:Bool}
theorem leaf_int {t:TypeId} {k:IntKind} {fuel:Nat} {c:Value} {x:DataW H×List MemPlace} (ht:P.underlying t=some (.int k)) (h:DataW.trod enc P w base spare held fuel t [c]=some x):∃ n,c = .int k n/\(Lit.int k n).wf=true:=by
 cases fuel with
 | zero=>simp [DataW.trod] at h
 | succ fuel =>
  cases c<;>simp [DataW.trod,ht] at h
  obtain ⟨⟨rfl,hw⟩,_⟩:=h
  exact ⟨_,rfl,hw⟩
theorem mapM_all {α β:Type} {f:α->Option β}:∀ {l:List α} {r:List β},l.mapM f=some r->∀ a∈l,∃ b,f a=some b
 | [],r,h,a,ha=>by cases ha
 | x :: l,r,h,a,ha=>by
  rw [List.mapM_cons] at h
  cases hx:f x with
  | none=>rw [hx] at h;cases h
  | some y =>
   rw [hx] at h
   cases hl:l.mapM f with
   | none=>rw [hl] at h;cases h
   | some ys =>
    rcases List.mem_cons.1 ha with rfl | ha
    ·exact ⟨y,hx⟩
    ·exact mapM_all hl a ha
theorem struct_parts {t:TypeId} {fs:Array Field} {fuel:Nat} {cs:List Value} {x:DataW H×List MemPlace} (ht:P.underlying t=some (.struct fs)) (h:DataW.trod enc P w base spare held fuel t cs=some x) :
  cs.length=P.cellsOf t/\∀ f∈fs.toList,∃ n y,DataW.trod enc P w base spare held n f.type ((cs.drop f.offset).take (P.cellsOf f.type))=some y:=by
 cases fuel with
 | zero=>simp [DataW.trod] at h
 | succ fuel =>
  simp only [DataW.trod,ht] at h
  split at h
  ·rename_i hl
   refine ⟨hl,fun f hf=>?_⟩
   rw [Option.map_eq_some_iff] at h
   obtain ⟨r,hr,_⟩:=h
   obtain ⟨y,hy⟩:=mapM_all hr f hf
   exact ⟨fuel,y,hy⟩
  ·cases h
end
end Go.AM
namespace Go.AM
open Go Go.RowKit
def WideF (F:Fence):Prop:=F=Fence.wide\/∃ l,F=Fence.wide.inRound l
theorem WideF.fn {F:Fence} (h:WideF F) (f:FuncId):F.fn f:=by
 rcases h with rfl | ⟨l,rfl⟩<;>trivial
theorem WideF.depth {F:Fence} (h:WideF F):F.depth=none:=by
 rcases h with rfl | ⟨l,rfl⟩<;>rfl
theorem WideF.calls {F:Fence} (h:WideF F) {n:Nat} {P:Program} {f:FuncId} {args:Array Value} {w:World} {R:Ending->World->Prop} (hc:Calls P f args w R):CallsIn F n P f args w R:=by
 rcases h with rfl | ⟨l,rfl⟩
 ·exact callsIn_wide.2 hc
 ·exact callsIn_wide (n:=n) |>.2 hc
structure PreI (T:Tab) (n0:Nat) (w0:World) (nt:Nat) (D:Nat->Prop) (s:Sg) (F:Fr) (H:Hp) (a:Act) (w:World) (ds:List Deferred):Prop where
 gl:GlOk T.ng D s
 fr:FrOk D s F a
 sat:Sat n0 w0 D s H w
 good:Good H
 size:nt<=a.tmps.size
 defers:a.defers=ds
def PostI (n0:Nat) (w0:World) (nt:Nat) (D:Nat->Prop) (s:Sg) (H:Hp) (w:World) (F' : Fr) (H' : Hp) (a' : Act) (w' : World) (ds:List Deferred):Prop :=
 ∃ s',Step n0 w0 D s H w s' H' w'/\FrOk (Dn D H.next H'.next) s' F' a'/\nt<=a'.tmps.size/\a'.defers=ds
section
variable {T:Tab} {P:Program} {D:Nat->Prop} {s:Sg} {n0:Nat} {w0 w w' : World} {H:Hp} {nt:Nat} {F:Fr} {a:Act} {ds:List Deferred}
theorem PreI.next {s' : Sg} {H' : Hp} {F' : Fr} {a' : Act} (h:PreI T n0 w0 nt D s F H a w ds) (hs:Step n0 w0 D s H w s' H' w') (hF:FrOk (Dn D H.next H'.next) s' F' a') (hG:Good H') (h1:nt<=a'.tmps.size) (h2:a'.defers=ds):PreI T n0 w0 nt (Dn D H.next H'.next) s' F' H' a' w' ds :=
 ⟨h.gl.mono (fun b hb=>.inl hb) hs.same,hF,hs.sat,hG,h1,h2⟩
theorem PostI.trans {s1:Sg} {H1 H' : Hp} {F' : Fr} {w1:World} {a' : Act} (hs:Step n0 w0 D s H w s1 H1 w1) (h:PostI n0 w0 nt (Dn D H.next H1.next) s1 H1 w1 F' H' a' w' ds):PostI n0 w0 nt D s H w F' H' a' w' ds:=by
 obtain ⟨s',h1,h2,h3,h4⟩:=h
 refine ⟨s',hs.trans h1,?_,h3,h4⟩
 rw [<- dn_dn D hs.next h1.next]
 exact h2
theorem evOp_nodefer {o:Op} {r:Res} (h:evOp T o F H=some r):∀ c,o≠.defer c:=fun c e=>by
 subst e
 simp [evOp,kind] at h
theorem evDef_false (hqt:∀ g,T.quiet g=false) (F:Fr) (o:Op):evDef T F o=false:=by
 unfold evDef
 split
 ·split
  ·split
   ·exact hqt _
   ·rfl
  ·rfl
 ·rfl
theorem evOpsIn_ok (hM:MachOk T P) (hqt:∀ g,T.quiet g=false) (hn:n0<=w0.heap.size) {call:CallE} (hc:CallOk T P n0 w0 call) (hcg:CallGood call) {Z:Fence} (hZ:WideF Z) {n:Nat} {ops:Array Oper} {Q:Exit->Act->World->Prop} :
  ∀ (l:List Oper) (i:Nat) (is:List Nat) {D:Nat->Prop} {s:Sg} {F F' : Fr} {H H' : Hp} {a:Act} {w:World},(∀ j,j < l.length->ops[i+j]? = l[j]?)->(∀ o∈l,∀ t,o.dst=some t->t < nt) ->
   evOps T call ops l F H=some (F',H')->PreI T n0 w0 nt D s F H a w ds->Fresh D H H' ->
   (∀ a' w',PostI n0 w0 nt D s H w F' H' a' w' ds->wpOpsIn Z n P ops Q is a' w')->wpOpsIn Z n P ops Q (List.range' i l.length++is) a w
 | [],i,is,D,s,F,F',H,H',a,w,_,_,h,hP,hf,hQ=>by
  simp only [evOps] at h
  cases h
  exact hQ a w ⟨s,Step.flush hP.sat,hP.fr.mono (fun b hb=>.inl hb) (fun _ _=>rfl),hP.size,hP.defers⟩
 | o :: r,i,is,D,s,F,F',H,H',a,w,hl,hd,h,hP,hf,hQ=>by
  have ho:ops[i]? = some o:=by have:=hl 0 (by simp);simpa using this
  have hl' : ∀ j,j < r.length->ops[i+1+j]? = r[j]?:=fun j hj=>by
   have:=hl (j+1) (by simpa using hj)
   rw [show i+1+j=i+(j+1) from by omega,this];simp
  have hd' : ∀ o'∈r,∀ t,o'.dst=some t->t < nt:=fun o' h'=>hd o' (by simp [h'])
  have hdo:∀ t,o.dst=some t->t < a.tmps.size:=fun t ht=>Nat.lt_of_lt_of_le (hd o (by simp) t ht) hP.size
  have hall:=evOps_good hcg (o :: r) hP.good h
  have hf1:=hf.first hall.le
  simp only [evOps] at h
  simp only [List.length_cons,List.range'_succ,List.cons_append,wpOpsIn,ho]
  split at h
  ·rename_i hw
   rw [wantedV_ok hP.fr hw,if_pos rfl]
   refine ⟨fun f _=>hZ.fn f,?_⟩
   split at h
   ·rename_i v H1 hop
    rw [Oper.semAt_eq _ _ _ (evOp_nodefer hop)]
    have g1:=evOp_val hP.good hop
    have g2:=evOps_good hcg r g1.good h
    obtain ⟨x,s1,w1,hr,hs,hv⟩:=evOp_ok hM.tab hP.gl hP.fr hP.sat hn hf1 hP.good o hop
    rw [hr]
    have hF1:FrOk (Dn D H.next H1.next) s1 (putD F o.dst v) (a.put o.dst x):=(hP.fr.mono (fun b hb=>.inl hb) hs.same).put hdo hv
    have hP1:=hP.next hs hF1 g1.good (by rw [put_size];exact hP.size) (by rw [put_defers];exact hP.defers)
    exact evOpsIn_ok hM hqt hn hc hcg hZ r (i+1) is hl' hd' h hP1 (hf.right g1.le) (fun a' w' h'=>hQ a' w' (PostI.trans hs h'))
   ·rename_i H1 hop
    rw [Oper.semAt_eq _ _ _ (evOp_nodefer hop)]
    have g1:=evOp_skp hP.good hop
    have g2:=evOps_good hcg r g1.good h
    obtain ⟨s1,w1,hr,hs⟩:=evOp_ok hM.tab hP.gl hP.fr hP.sat hn hf1 hP.good o hop
    rw [hr]
    have hF1:FrOk (Dn D H.next H1.next) s1 (delD F o.dst) (a.put o.dst undef):=(hP.fr.mono (fun b hb=>.inl hb) hs.same).del hdo
    have hP1:=hP.next hs hF1 g1.good (by rw [put_size];exact hP.size) (by rw [put_defers];exact hP.defers)
    exact evOpsIn_ok hM hqt hn hc hcg hZ r (i+1) is hl' hd' h hP1 (hf.right g1.le) (fun a' w' h'=>hQ a' w' (PostI.trans hs h'))
   ·rename_i g vs H0 hop
    rw [Oper.semAt_eq _ _ _ (evOp_nodefer hop)]
    have g0:=evOp_ent hP.good hop
    obtain ⟨rfl,xs,hxs,hr⟩:=evOp_ok hM.tab hP.gl hP.fr hP.sat hn hf1 hP.good o hop
    split at h
    ·rename_i v H1 hcl
     have g1:=hcg _ _ _ _ _ hcl g0.good
     have g2:=evOps_good hcg r g1.good h
     have hfc:Fresh D H.flush H1:=fun b h1 h2=>hf b (by rw [Hp.next_flush] at h1;exact h1) (Nat.le_trans h2 g2.le)
     obtain ⟨⟨fn,c,e1,e2⟩,hcalls⟩:=hc _ _ _ _ _ hcl D s w xs hP.gl hxs hP.sat.flush g0.good hfc
     rw [hr,run_callFunc hM e1 e2]
     refine ⟨fun h=>(by rw [hZ.depth] at h;cases h),?_⟩
     refine CallsIn.mono (hZ.calls hcalls) fun e w1 he=>?_
     cases e with
     | returned x =>
      obtain ⟨s1,hs0,hv⟩:=he
      have hs:Step n0 w0 D s H w s1 H1 w1:=(Step.flush hP.sat).trans (by rw [Hp.next_flush,dn_refl];exact hs0)
      rw [Hp.next_flush] at hv
      have hF1:FrOk (Dn D H.next H1.next) s1 (putD F o.dst v) (a.put o.dst x):=(hP.fr.mono (fun b hb=>.inl hb) hs.same).put hdo hv
      have hP1:=hP.next hs hF1 g1.good (by rw [put_size];exact hP.size) (by rw [put_defers];exact hP.defers)
      exact evOpsIn_ok hM hqt hn hc hcg hZ r (i+1) is hl' hd' h hP1 (hf.right hs.next) (fun a' w' h'=>hQ a' w' (PostI.trans hs h'))
     | panicked c=>exact he.elim
     | outgrown=>exact he.elim
    ·cases h
   ·split at h
    ·rename_i hdef;rw [evDef_false hqt] at hdef;cases hdef
    ·cases h
  ·rename_i hw
   rw [wantedV_ok hP.fr hw,if_neg (by simp)]
   have hP1:PreI T n0 w0 nt D s (delD F o.dst) H (a.put o.dst undef) w ds:=⟨hP.gl,hP.fr.del hdo,hP.sat,hP.good,by rw [put_size];exact hP.size,by rw [put_defers];exact hP.defers⟩
   exact ⟨fun f _=>hZ.fn f,evOpsIn_ok hM hqt hn hc hcg hZ r (i+1) is hl' hd' h hP1 hf hQ⟩
  ·cases h
theorem regIn_ok (hM:MachOk T P) (hqt:∀ g,T.quiet g=false) (hn:n0<=w0.heap.size) {call:CallE} (hc:CallOk T P n0 w0 call) (hcg:CallGood call) {Z:Fence} (hZ:WideF Z) {n id:Nat} {ops:Array Oper} {Q:Exit->Act->World->Prop} {F' : Fr} {H' : Hp} (hd:∀ o∈ops.toList,∀ t,o.dst=some t->t < nt)
  (h:evOps T call ops ops.toList F H=some (F',H')) (hP:PreI T n0 w0 nt D s F H a w ds) (hf:Fresh D H H') (hQ:∀ a' w',PostI n0 w0 nt D s H w F' H' a' w' ds->Q .normal a' w'):(Code.region id ops false).wpIn Z n P Q a w:=by
 refine wpIn_region ?_
 have:=evOpsIn_ok (ops:=ops) (Q:=Q) hM hqt hn hc hcg hZ (n:=n) ops.toList 0 [] (fun j hj=>by simp) hd h hP hf (fun a' w' h'=>hQ a' w' h')
 rw [List.range_eq_range']
 simpa using this
theorem FrOk.other {F:Fr} {a:Act} (h:FrOk D s F a) {t:Tmp} {x:Value} (hn:F.get t=none):FrOk D s F (a.put (some t) x):=fun t' v hv=>by
 obtain ⟨y,h1,h2⟩:=h t' v hv
 have:t≠t':=fun e=>by subst e;rw [hn] at hv;cases hv
 exact ⟨y,by simp [Act.put,Array.getElem?_setIfInBounds,this,h1],h2⟩
theorem Sat.of_blocks (h:Sat n0 w0 D s H w) (hb:Below n0 w0 w') (hk:∀ b,D b->w'.heap[(s b).b]? = w.heap[(s b).b]?):Sat n0 w0 D s H w':=by
 refine ⟨hb,fun b e sz ro cs hD hg=>(h.row b e sz ro cs hD hg).keep (fun _ h=>h) (fun _ _=>rfl) (hk b hD),fun b ro es c hD hg=>?_,fun b m since seen last hD hg=>?_,h.sep,h.old⟩
 ·rw [hk b hD];exact h.map b ro es c hD hg
 ·rw [hk b hD];exact h.iter b m since seen last hD hg
end
end Go.AM
namespace Go.AM
open Go Go.RowKit
section
variable {T:Tab} {P:Program} {D:Nat->Prop} {s s1 s2:Sg} {n0:Nat} {w0 w w1 w2:World} {H H1 H2:Hp}
theorem Below.put {B:Nat} (h:Below B w0 w) {l:Nat} (hl:B<=l) (o:Obj):Below B w0 (w.putObj l o) :=
 h.trans ⟨rfl,rfl,rfl,by simp,fun k hk=>World.putObj_heap_other (by omega)⟩
theorem Step.apart (hs:Step n0 w0 D s H w s1 H1 w1) (hb:Below n0 w0 w2) (hz:w1.heap.size<=w2.heap.size) (hk:∀ b,Dn D H.next H1.next b->w2.heap[(s1 b).b]? = w1.heap[(s1 b).b]?) (hf:∀ k,k < w.heap.size->w2.heap[k]? = w1.heap[k]?):Step n0 w0 D s H w s1 H1 w2 :=
 ⟨hs.sat.of_blocks hb hk,hs.same,hs.next,Nat.le_trans hs.size hz,fun k h1 h2=>(hf k h1).trans (hs.frame k h1 h2),hs.new,hs.ow⟩
structure Cu (n0:Nat) (w0:World) (D:Nat->Prop) (s:Sg) (H:Hp) (w:World) (l d:Nat) (r:Loop) (s1:Sg) (H1:Hp) (w1:World):Prop where
 step:Step n0 w0 D s H w s1 H1 w1
 off:∀ b,Dn D H.next H1.next b->(s1 b).b≠l/\(s1 b).b≠d
 hl:w1.heap[l]? = some (.loop r)
 hd:w1.heap[d]? = some (.deferred (some []))
 gl:w.heap.size<=l
 gd:w.heap.size<=d
 ne:d≠l
 bn:n0<=w.heap.size
 good:Good H1
variable {l d:Nat} {r r' : Loop}
theorem Cu.next (C:Cu n0 w0 D s H w l d r s1 H1 w1) (hs:Step n0 w0 (Dn D H.next H1.next) s1 H1 w1 s2 H2 w2) (hG:Good H2):Cu n0 w0 D s H w l d r s2 H2 w2:=by
 have hn:=hs.next
 have hn0:=C.step.next
 refine ⟨C.step.trans hs,fun b hb=>?_,?_,?_,C.gl,C.gd,C.ne,C.bn,hG⟩
 ·have ll:=lt_of_heap C.hl
  have ld:=lt_of_heap C.hd
  by_cases hb1:Dn D H.next H1.next b
  ·rw [hs.same b hb1];exact C.off b hb1
  ·have hnew:H1.next<=b/\b < H2.next:=by
    rcases hb with hb | hb
    ·exact absurd (.inl hb) hb1
    ·refine ⟨?_,hb.2⟩
     rcases Nat.lt_or_ge b H1.next with h | h
     ·exact absurd (.inr ⟨hb.1,h⟩) hb1
     ·exact h
   rcases hs.new b hnew.1 hnew.2 with h | ⟨c,h1,_,h3⟩
   ·exact ⟨by omega,by omega⟩
   ·rw [<- h3];exact C.off c h1
 ·rw [hs.frame l (lt_of_heap C.hl) (fun b hb _=>(C.off b hb).1)];exact C.hl
 ·rw [hs.frame d (lt_of_heap C.hd) (fun b hb _=>(C.off b hb).2)];exact C.hd
theorem Cu.put (C:Cu n0 w0 D s H w l d r s1 H1 w1) (r' : Loop):Cu n0 w0 D s H w l d r' s1 H1 (w1.putObj l (.loop r')):=by
 have hl:=C.gl
 have hbn:=C.bn
 refine ⟨C.step.apart (Below.put C.step.sat.below (Nat.le_trans hbn hl) _) (by simp) (fun b hb=>World.putObj_heap_other (C.off b hb).1) (fun k hk=>World.putObj_heap_other (by omega)),C.off,World.putObj_heap_same (lt_of_heap C.hl),(World.putObj_heap_other C.ne).trans C.hd,C.gl,C.gd,C.ne,C.bn,C.good⟩
theorem Cu.start (hs:Step n0 w0 D s H w s1 H1 w1) (hbn:n0<=w.heap.size) (hG:Good H1) (hlt:∀ b,Dn D H.next H1.next b->(s1 b).b < w1.heap.size) (r:Loop) :
  Cu n0 w0 D s H w (w1.heap.size+1) w1.heap.size r s1 H1 ((w1.alloc (.deferred (some []))).alloc (.loop r)):=by
 have hz:=hs.size
 have e1:∀ k,k < w1.heap.size->((w1.alloc (.deferred (some []))).alloc (.loop r)).heap[k]? = w1.heap[k]?:=fun k hk=>by
  rw [Go.heap_alloc_old _ _ (by rw [World.size_alloc];omega),Go.heap_alloc_old _ _ hk]
 have hb:Below n0 w0 ((w1.alloc (.deferred (some []))).alloc (.loop r)):=(hs.sat.below.alloc (by omega) _).alloc (by rw [World.size_alloc];omega) _
 refine ⟨hs.apart hb (by simp [World.size_alloc];omega) (fun b hb=>e1 _ (hlt b hb)) (fun k hk=>e1 k (by omega)),fun b hb=>?_,?_,?_,by omega,by omega,by omega,hbn,hG⟩
 ·have:=hlt b hb
  exact ⟨by omega,by omega⟩
 ·have:=World.alloc_heap_new (w1.alloc (.deferred (some []))) (.loop r)
  rwa [World.size_alloc] at this
 ·rw [Go.heap_alloc_old _ _ (by rw [World.size_alloc];omega)]
  exact World.alloc_heap_new _ _
structure Lat (D:Nat->Prop) (n:Nat) (s1:Sg) (H1:Hp) (s2:Sg) (H2:Hp):Prop where
 same:∀ b,Dn D n H1.next b->s2 b=s1 b
 le:H1.next<=H2.next
theorem Lat.refl {n:Nat}:Lat D n s1 H1 s1 H1:=⟨fun _ _=>rfl,Nat.le_refl _⟩
theorem Lat.trans {n:Nat} {s3:Sg} {H3:Hp} (h:Lat D n s1 H1 s2 H2) (k:Lat D n s2 H2 s3 H3):Lat D n s1 H1 s3 H3 :=
 ⟨fun b hb=>(k.same b (hb.elim .inl fun h'=>.inr ⟨h'.1,Nat.lt_of_lt_of_le h'.2 h.le⟩)).trans (h.same b hb),Nat.le_trans h.le k.le⟩
theorem Lat.fr {n:Nat} {F:Fr} {a:Act} (h:Lat D n s1 H1 s2 H2) (hF:FrOk (Dn D n H1.next) s1 F a):FrOk (Dn D n H2.next) s2 F a :=
 hF.mono (fun b hb=>hb.elim .inl fun h'=>.inr ⟨h'.1,Nat.lt_of_lt_of_le h'.2 h.le⟩) h.same
def noCall:CallE:=fun _ _ _=>none
theorem noCall_ok (n0:Nat) (w0:World):CallOk T P n0 w0 noCall:=fun f vs H v H' h=>by cases h
theorem noCall_good:CallGood noCall:=fun f vs H v H' h=>by cases h
theorem Cu.region (C:Cu n0 w0 D s H w l d r s1 H1 w1) (hM:MachOk T P) (hqt:∀ g,T.quiet g=false) (hT:T.ng=0) (hn:n0<=w0.heap.size) (hfr:Fresh D H H2) {Z:Fence} (hZ:WideF Z) {n id nt:Nat} {ops:Array Oper} {F F' : Fr} {a:Act} {ds:List Deferred} {Q:Exit->Act->World->Prop}
  (hd:ops.toList.all (fun o=>match o.dst with | some t=>Nat.blt t nt | none=>true)=true) (h:evOps T noCall ops ops.toList F H1=some (F',H2)) (hF:FrOk (Dn D H.next H1.next) s1 F a) (hsz:nt<=a.tmps.size) (hds:a.defers=ds)
  (hQ:∀ a' s2 w2,Cu n0 w0 D s H w l d r s2 H2 w2->FrOk (Dn D H.next H2.next) s2 F' a'->Lat D H.next s1 H1 s2 H2->nt<=a'.tmps.size->a'.defers=ds->Q .normal a' w2):(Code.region id ops false).wpIn Z n P Q a w1:=by
 refine regIn_ok (ds:=ds) hM hqt hn (noCall_ok n0 w0) noCall_good hZ (fun o ho t ht=>?_) h ⟨fun g hg=>by omega,hF,C.step.sat,C.good,hsz,hds⟩ (hfr.right C.step.next) fun a' w' hp=>?_
 ·have:=List.all_eq_true.1 hd o ho
  rw [ht] at this
  simpa using this
 ·obtain ⟨s2,h1,h2,h3,h4⟩:=hp
  have hg:=evOps_good noCall_good _ C.good h
  have e:=dn_dn D C.step.next h1.next
  rw [e] at h2
  exact hQ a' s2 w' (C.next h1 hg.good) h2 ⟨h1.same,h1.next⟩ h3 h4
theorem Cu.op (C:Cu n0 w0 D s H w l d r s1 H1 w1) (hM:MachOk T P) (hqt:∀ g,T.quiet g=false) (hT:T.ng=0) (hn:n0<=w0.heap.size) (hfr:Fresh D H H2) {Z:Fence} (hZ:WideF Z) {n nt i:Nat} {is:List Nat} {ops:Array Oper} {o:Oper} {F F' : Fr} {a:Act} {ds:List Deferred} {Q:Exit->Act->World->Prop}
  (ho:ops[i]? = some o) (hd:∀ t,o.dst=some t->t < nt) (h:evOps T noCall ops [o] F H1=some (F',H2)) (hF:FrOk (Dn D H.next H1.next) s1 F a) (hsz:nt<=a.tmps.size) (hds:a.defers=ds)
  (hQ:∀ a' s2 w2,Cu n0 w0 D s H w l d r s2 H2 w2->FrOk (Dn D H.next H2.next) s2 F' a'->Lat D H.next s1 H1 s2 H2->nt<=a'.tmps.size->a'.defers=ds->wpOpsIn Z n P ops Q is a' w2):wpOpsIn Z n P ops Q (i :: is) a w1:=by
 have:=evOpsIn_ok (ds:=ds) (ops:=ops) (Q:=Q) (nt:=nt) hM hqt hn (noCall_ok n0 w0) noCall_good hZ (n:=n) [o] i is (fun j hj=>by simp at hj;subst hj;simpa using ho) (fun o' ho' t ht=>by simp at ho';subst ho';exact hd t ht) h ⟨fun g hg=>by omega,hF,C.step.sat,C.good,hsz,hds⟩ (hfr.right C.step.next) fun a' w' hp=>?_
 ·simpa using this
 ·obtain ⟨s2,h1,h2,h3,h4⟩:=hp
  have hg:=evOps_good noCall_good _ C.good h
  have e:=dn_dn D C.step.next h1.next
  rw [e] at h2
  exact hQ a' s2 w' (C.next h1 hg.good) h2 ⟨h1.same,h1.next⟩ h3 h4
theorem step_below0 (hS:Sat n0 w0 D s H w) (hn:n0<=w0.heap.size) (hB:Below w.heap.size w w1) (hlt:∀ b,D b->(∀ o,H.get b=some o->o≠.dead->(s b).b < w.heap.size)):Step n0 w0 D s H w s H w1:=by
 have hz:=hS.below.size
 have e:Dn D H.next H.next=D:=dn_refl D H.next
 refine ⟨?_,fun _ _=>rfl,Nat.le_refl _,hB.size,fun k hk _=>hB.block k hk,fun b h1 h2=>by omega,fun _ _ h=>h⟩
 rw [e]
 refine ⟨hS.below.trans ⟨hB.os,hB.tape,hB.output,hB.size,fun k hk=>hB.block k (by omega)⟩,fun b e sz ro cs hD hg=>?_,fun b ro es c hD hg=>?_,fun b m si se la hD hg=>?_,hS.sep,hS.old⟩
 ·have h1:=hS.row b e sz ro cs hD hg
  exact h1.keep (fun _ h=>h) (fun _ _=>rfl) (hB.block _ h1.lt)
 ·obtain ⟨ents,h1,h2⟩:=hS.map b ro es c hD hg
  exact ⟨ents,by rw [hB.block _ (lt_of_heap h1)];exact h1,h2⟩
 ·obtain ⟨h1,h2⟩:=hS.iter b m si se la hD hg
  exact ⟨by rw [hB.block _ (lt_of_heap h1)];exact h1,h2⟩
end
def ExtF (I:Nat->World->Prop) (ng:Nat) (P:Program) (f:FuncId) (e:List V->Hp->Option (V×Hp)):Prop :=
 ∀ n0 w0,I n0 w0->n0<=w0.heap.size->∀ vs H v H',e vs H=some (v,H')->∀ D s w (xs:Array Value),GlOk ng D s->RvL D s vs xs.toList->Sat n0 w0 D s H w->Good H->Fresh D H H' ->
  Calls P f xs w fun e w'=>match e with
   | .returned x=>∃ s',Step n0 w0 D s H w s' H' w'/\Rv (Dn D H.next H'.next) s' v x
   | _=>False
theorem RowAt.block {D:Nat->Prop} {s:Sg} {n0:Nat} {w:World} {L:Loc} {e:TypeId} {sz:Nat} {cs:List V} (h:RowAt D s n0 w L e sz false cs) :
  ∃ (C:Array Value) (fz:Nat×Nat),w.heap[L.b]? = some (.cells C e fz)/\L.base=0/\C.size=L.cap*sz/\(∀ (i:Nat) (v:V),cs[i]? = some v->∃ x:Value,C[i]? = some x/\Rv D s v x)/\∀ i:Nat,i < C.size->¬ (fz.1<=i/\i < fz.2):=by
 obtain ⟨⟨C,et,fz,g1,g2,g3,g4⟩,g5,g6,g7,g8⟩:=h
 obtain ⟨h1,rfl,h3,h4⟩:=g4 rfl
 refine ⟨C,fz,g1,h3,h4,fun i v hv=>?_,fun i hi=>h1 i (by omega) (by omega)⟩
 obtain ⟨x,hx,hr⟩:=g3 i v hv
 rw [h3,Nat.zero_add] at hx
 exact ⟨x,hx,hr⟩
end Go.AM
namespace Go.AM
open Go Go.RowKit
end Go.AM
namespace Go.AM
open Go Go.RowKit Go.ChangeShapes Go.WideShapes Go.ChangeMaps
section
variable {H:Type} {enc:TypeId×Value->H} {P:Program} {W:World} {base:Nat} {sp:Nat->Bool} {held:Bool} {f:Nat} {t e:TypeId} {cs:List Value}
end
abbrev Ent:=List UInt8×Int×Nat
def Ent.es (k:IntKind) (x:Ent):V×V×Nat:=(.str x.1,.int k x.2.1,x.2.2)
section
variable {D:Nat->Prop} {s:Sg} {W:World} {e:TypeId} {L:List V}
end
theorem slice_in {H:Type} {enc:TypeId×Value->H} {P:Program} {W:World} {base:Nat} {held:Bool} {f c:Nat} {t e:TypeId} {v:Value} {x:DataW H×List MemPlace} (ht:P.underlying t=some (.slice e)) (hc:P.cellsOf e=c) (h0:0 < c) (h:DataW.trod enc P W base (fun _=>true) held f t [v]=some x) :
  v = .slice none 0 0\/(∃ a cap,v = .slice (some a) 0 cap)\/∃ b off len cap,v = .slice (some ⟨b,off,none⟩) len cap/\0 < len/\len<=cap/\(∀ i,i < cap*c->∃ y,W.cell? ⟨b,off+i,none⟩=some y) /\
   ∀ i,i < len->∃ cs m y,cs.length=c/\(∀ j,j < c->W.cell? ⟨b,off+(i*c+j),none⟩=cs[j]?)/\DataW.trod enc P W base (fun _=>true) held m e cs=some y:=by
 rcases DataW.trod_slice ht h with ⟨hcs,_⟩ | ⟨a,len,cap,elems,rest,n,_,hcs,hx,_,hlc,_,hlen,hel,hsp,_⟩
 ·exact .inl (by simpa using hcs)
 ·simp only [List.cons.injEq,and_true] at hcs
  subst hcs
  by_cases hl:len=0
  ·subst hl;exact .inr (.inl ⟨a,cap,rfl⟩)
  ·obtain ⟨hrl,hre⟩:=hsp rfl
   have key:∀ (i:Nat) (o:Option (DataW H×List MemPlace)),(W.cells? base (a.add (i*P.cellsOf e)) (P.cellsOf e)).bind (DataW.trod enc P W base (fun _=>true) held n e)=o->o.isSome=true->∃ cs y,cs.length=c/\(∀ j,j < c->W.cell? ((a.add (i*c)).add j)=cs[j]?)/\DataW.trod enc P W base (fun _=>true) held n e cs=some y:=fun i o ho hs=>by
    obtain ⟨y,hy⟩:=Option.isSome_iff_exists.1 hs
    rw [hy,Option.bind_eq_some_iff] at ho
    obtain ⟨cs,h1,h2⟩:=ho
    obtain ⟨_,h3,h4⟩:=World.cells?_some h1
    rw [hc] at h3 h4 h1
    exact ⟨cs,y,h3,h4,h2⟩
   have kel:∀ i,i < len->∃ cs y,cs.length=c/\(∀ j,j < c->W.cell? ((a.add (i*c)).add j)=cs[j]?)/\DataW.trod enc P W base (fun _=>true) held n e cs=some y:=fun i hi =>
    key i _ (hel i hi) (by rw [List.getElem?_eq_getElem (by omega)];rfl)
   have kre:∀ i,len<=i->i < cap->∃ cs y,cs.length=c/\(∀ j,j < c->W.cell? ((a.add (i*c)).add j)=cs[j]?)/\DataW.trod enc P W base (fun _=>true) held n e cs=some y:=fun i h1 h2=>by
    have:=hre (i-len) (by omega)
    rw [show len+(i-len)=i by omega] at this
    exact key i _ this (by rw [List.getElem?_eq_getElem (by omega)];rfl)
   obtain ⟨b,off,spot⟩:=a
   have hspot:spot=none:=by
    obtain ⟨cs,y,h1,h2,_⟩:=kel 0 (by omega)
    have h3:=h2 0 h0
    rw [List.getElem?_eq_getElem (by omega)] at h3
    simpa [Addr.add] using World.cell?_spot h3
   subst hspot
   have kall:∀ i,i < cap->∃ cs y,cs.length=c/\(∀ j,j < c->W.cell? (((⟨b,off,none⟩:Addr).add (i*c)).add j)=cs[j]?)/\DataW.trod enc P W base (fun _=>true) held n e cs=some y:=fun i hi=>by
    by_cases h1:i < len
    ·exact kel i h1
    ·exact kre i (by omega) hi
   refine .inr (.inr ⟨b,off,len,cap,rfl,by omega,hlc,fun i hi=>?_,fun i hi=>?_⟩)
   ·have hq:i / c < cap:=Nat.div_lt_of_lt_mul (by rw [Nat.mul_comm];exact hi)
    obtain ⟨cs,y,h1,h2,_⟩:=kall (i / c) hq
    have hm:i % c < c:=Nat.mod_lt _ h0
    have h3:=h2 (i % c) hm
    rw [add_plain,add_plain,List.getElem?_eq_getElem (by omega)] at h3
    have e1:off+i / c*c+i % c=off+i:=by have:=Nat.div_add_mod' i c;omega
    rw [e1] at h3
    exact ⟨_,h3⟩
   ·obtain ⟨cs,y,h1,h2,h3⟩:=kall i (by omega)
    refine ⟨cs,n,y,h1,fun j hj=>?_,h3⟩
    have:=h2 j hj
    rwa [add_plain,add_plain,show off+i*c+j=off+(i*c+j) by omega] at this
end Go.AM
set_option maxRecDepth 100000
namespace Go.AM
open Go
end Go.AM
