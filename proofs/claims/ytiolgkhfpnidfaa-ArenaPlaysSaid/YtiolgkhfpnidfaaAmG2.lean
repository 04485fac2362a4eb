/- Parts of the abstract machine and of the walks over it, joined: what the law that is claimed here leans on. -/
import Derived.Test.YtiolgkhfpnidfaaAmG1
import Derived.KernelRfl
import Derived.Test.YtiolgkhfpnidfaaAmX
set_option linter.unusedVariables false
set_option linter.unusedSimpArgs false
set_option linter.unnecessarySimpa false
set_option maxRecDepth 100000
namespace Go.AM.YtiolgkhfpnidfaaT
open Go Go.AM Go.Proofs
def rf (r:Nat):V:=.int .u64 (r:Nat)
abbrev RfAt (H:Hp) (v:V) (l:List Nat):Prop:=SlAt H 29 1 v l.length (l.map rf)
theorem get1 {H:Hp} {e:TypeId} {v:V} {α:Type} {f:α->V} {l:List α} (h:SlAt H e 1 v l.length (l.map f)) {i:Nat} {x:α} (hi:l[i]? = some x):∃ b cs,v = .sl b 0 l.length none 1/\H.get b=some (.row e 1 false cs)/\cs[i]? = some (f x)/\i < l.length:=by
 have hlt:=(List.getElem?_eq_some_iff.1 hi).1
 obtain ⟨b,cs,rfl,h1,h2,h3⟩:=sl_open h (by omega)
 refine ⟨b,cs,rfl,h1,?_,hlt⟩
 have:(cs.take (l.length*1))[i]? = some (f x):=by rw [h3,List.getElem?_map,hi];rfl
 rw [List.getElem?_take,if_pos (by omega)] at this;exact this
theorem sl_inv {H:Hp} {e:TypeId} {z n:Nat} {v:V} {l:List V} (h:SlAt H e z v n l):(v = .nils/\n=0/\l=[])\/∃ b cs,v = .sl b 0 n none z/\H.get b=some (.row e z false cs)/\n*z<=cs.length/\cs.take (n*z)=l:=by
 cases h with
 | nil=>exact .inl ⟨rfl,rfl,rfl⟩
 | row b n cs hg hle=>exact .inr ⟨b,cs,rfl,hg,hle,rfl⟩
def IX (x:Nat) (v:V) (l:List Nat) (H:Hp) (m:Nat) (F:Fr) (H' : Hp):Prop :=
 ∃ i:Nat,i+m=l.length/\H' = H/\F.get 0=some v/\F.get 1=some (rf x)/\F.get 7=some (.int .i64 l.length)/\F.get 8=some (.int .i64 i)/\x∉l.take i
theorem index_ok {H:Hp} {v:V} {l:List Nat} (hs:H.stale=[]) (h:RfAt H v l) (x:Nat) (hl:l.length < 1000000):WF tab 65 [v,rf x] H fun w H'=>∃ k:Int,w = .int .i64 k/\(0<=k ↔ x∈l)/\H' = H:=by
 refine wf65 (wp_sound _ ?_)
 have lv:=h.lenV 29
 simp [hs,lv,rf]
 refine loop_of (IX x v l H) (m:=l.length) ⟨0,by omega,rfl,by simp,by simp [rf],by simp,by simp,by simp⟩ ?_
 rintro m F H' ⟨i,hi,rfl,f0,f1,f7,f8,hx⟩
 by_cases hlt:i < l.length
 ·have hli:=List.getElem?_eq_getElem hlt
  generalize hy:l[i]=y at hli
  obtain ⟨b,cs,rfl,c1,c2,-⟩:=get1 h hli
  have k1:(i:Int) < (l.length:Int):=by omega
  have wi:wr .i64 ((i:Int)+1)=(i+1:Nat):=wr_succ (by omega)
  have hts:l.take (i+1)=l.take i++[y]:=by rw [List.take_add_one,hli];rfl
  by_cases hxy:x=y
  ·subst hxy
   have:x∈l:=List.mem_of_getElem? hli
   simp [L65_0,f0,f1,f7,f8,k1,hlt,hs,c1,c2,rf,this]
  ·have hb:((x:Int)==(y:Int))=false:=beq_eq_false_iff_ne.2 (by omega)
   simp [L65_0,f0,f1,f7,f8,k1,hlt,hs,c1,c2,rf,hb,wi]
   exact ⟨m-1,by omega,i+1,by omega,rfl,by simp [f0],by simp [f1],by simp [f7],by simp,by rw [hts];simp [hx,hxy]⟩
 ·have k1:¬ (i:Int) < (l.length:Int):=by omega
  have:x∉l:=by rw [List.take_of_length_le (by omega)] at hx;exact hx
  simp [L65_0,f0,f1,f7,f8,k1,hs,this]
theorem contains_ok {H:Hp} {v:V} {l:List Nat} (hs:H.stale=[]) (h:RfAt H v l) (x:Nat) (hl:l.length < 1000000):WF tab 48 [v,rf x] H fun w H'=>w = .bool (decide (x∈l))/\H' = H:=by
 refine wf48 (wp_sound _ ?_)
 simp [hs,rf]
 refine (index_ok hs h x hl).mono ?_
 rintro _ H' ⟨k,rfl,hk,rfl⟩
 simp [hs,hk]
theorem wpL_app0 {T:Tab} {t t' e:TypeId} {i:TI} {xs ys:Operand} {F:Fr} {H:Hp} {s x:V} {n:Nat} {news l:List V} {d:Option Tmp} {r:List SOp} {Q:PL} (hd:descOf T t=some (.slice e)) (hi:T.ty e=some i) (hx:opd T.ng F xs=some s) (hy:opd T.ng F ys=some x)
  (hs:SlAt H e i.size s n l) (ht:takeX T H.get t t' e i.size x=some (0,news)) (h:wpL T r (putD F d s) H Q):opQ T (.call ⟨.builtin .append,#[xs,ys],#[t,t']⟩) d r F H Q .a:=by
 have ho:opds T.ng F (#[xs,ys]:Array Operand).toList=some [s,x]:=by simp only [opds,hx,hy]
 have he:evA T (.call ⟨.builtin .append,#[xs,ys],#[t,t']⟩) F H.get H.next=some (s,none,none):=by
  cases hs<;>simp only [evA,ho,hd,hi,ht]
 show kA T _ d r F H Q (evA T (.call ⟨.builtin .append,#[xs,ys],#[t,t']⟩) F H.get H.next)
 rw [he]
 exact ⟨rfl,h⟩
theorem eqR_sl (b off n:Nat) (cap:Option Nat) (z:Nat):binE tab .eql 33 (.tmp 3) (.const (.slice none 0 0)) (.sl b off n cap z) .nils=some (.bool false):=by kernel_rfl
theorem clone_ok {H:Hp} {v:V} {l:List Nat} (hs:H.stale=[]) (h:RfAt H v l) (hr:∀ b∈rowsOf v,b < H.next) (hl:l.length < 1000000):WF tab 51 [v] H fun w H'=>RfAt H' w l/\(∀ b∈rowsOf w,H.next<=b/\b < H'.next)/\Ext noX H H':=by
 refine wf51 (wp_sound _ ?_)
 rcases sl_inv h with ⟨rfl,h1,h2⟩ | ⟨b,cs,rfl,h1,h2,h3⟩
 ·obtain rfl:l=[]:=List.length_eq_zero_iff.1 h1
  simp [hs]
  exact ⟨.nil,by simp [rowsOf],by simp,by simp,fun b hb _=>by rw [Hp.get_flush,if_neg (by simp [hs])]⟩
 ·have hb:=hr b (by simp [rowsOf])
  have hS0:SlAt (H.new (.row 29 1 false [])) 29 1 (.sl H.next 0 0 none 1) 0 []:=SlAt.row H.next 0 [] (get_new_self _ _) (by simp)
  have hgn:∀ b,b < H.next->(H.new (.row 29 1 false [])).get b=H.get b:=fun b hb=>by simp [Hp.get_new,old_ne hb]
  have hT1:takeSl (H.new (.row 29 1 false [])).get 1 (.sl b 0 l.length none 1)=some (l.length,l.map rf):=by
   simp only [takeSl,hgn b hb,h1]
   rw [if_pos ⟨trivial,by omega⟩,List.drop_zero,h3]
  by_cases hl0:l=[]
  ·subst hl0
   simp [hs,eqR_sl]
   refine wpL_app0 (by simp [descOf]) ty29 (by simp) (by simp) hS0 (takeX_sl.trans hT1) ?_
   simp [hs]
   exact ⟨hS0,by simp [rowsOf],Ext.new hs _⟩
  ·have hpl:0 < l.length:=List.length_pos_iff.2 hl0
   simp [hs,eqR_sl]
   refine wpL_app (H:=H.new (.row 29 1 false [])) (x:=.sl b 0 l.length none 1) (by simp [descOf]) ty29 (by decide) (by simp) (by simp) hS0 (fun b hb=>⟨by simp [rowsOf] at hb;subst hb;simp,by simp [hs]⟩) hT1 hpl (by simp) (by show (0+l.length)*8<=_;omega) (by omega) (fun c hc=>?_) (by simp [hs]) fun v' H3 hS hA'=>?_
   ·simp [rowsOf] at hc
    rw [hc]
    exact ⟨by simp [hs],by simp [rowsOf];omega⟩
   ·obtain ⟨k1,k2,k3,k4,k5⟩:=app_flush' (H:=H.new (.row 29 1 false [])) (by simp [hs]) hS hA'
    have c5:=hS.one;have c6:=hS.cells
    simp [c5,c6]
    simp at k4
    refine ⟨by simpa using k1,fun b hb=>?_,by simp,by simp;omega,fun b hb _=>?_⟩
    ·have:=k5 b hb
     simp [rowsOf] at this
     omega
    ·rw [<- hgn b hb]
     exact k2 b (by simp;omega) (by simp [rowsOf];omega)
def EQ (v w:V) (l:List Nat) (H:Hp) (m:Nat) (F:Fr) (H' : Hp):Prop :=
 ∃ i:Nat,i+m=l.length/\H' = H/\F.get 0=some v/\F.get 1=some w/\F.get 12=some (.int .i64 l.length)/\F.get 13=some (.int .i64 i)
theorem equal_ok {H:Hp} {v w:V} {l:List Nat} (hs:H.stale=[]) (h:RfAt H v l) (h' : RfAt H w l) (hl:l.length < 1000000):WF tab 54 [v,w] H fun w H'=>w = .bool true/\Ext noX H H':=by
 refine wf54 (wp_sound _ ?_)
 have lv:=h.lenV 29
 have lw:=h'.lenV 29
 simp [hs,lv,lw]
 refine loop_of (EQ v w l H) (m:=l.length) ⟨0,by omega,rfl,by simp,by simp,by simp,by simp⟩ ?_
 rintro m F H' ⟨i,hi,rfl,f0,f1,f12,f13⟩
 by_cases hlt:i < l.length
 ·have hli:=List.getElem?_eq_getElem hlt
  generalize hy:l[i]=y at hli
  obtain ⟨b,cs,rfl,c1,c2,-⟩:=get1 h hli
  obtain ⟨b',cs',rfl,d1,d2,-⟩:=get1 h' hli
  have k1:(i:Int) < (l.length:Int):=by omega
  have wi:wr .i64 ((i:Int)+1)=(i+1:Nat):=wr_succ (by omega)
  simp [L54_0,f0,f1,f12,f13,k1,hlt,hs,c1,c2,d1,d2,rf,wi]
  exact ⟨m-1,by omega,i+1,by omega,rfl,by simp [f0],by simp [f1],by simp [f12],by simp⟩
 ·have k1:¬ (i:Int) < (l.length:Int):=by omega
  simp [L54_0,f0,f1,f12,f13,k1,hs]
  exact Ext.refl hs
end Go.AM.YtiolgkhfpnidfaaT
set_option maxRecDepth 100000
namespace Go.AM.YtiolgkhfpnidfaaT
open Go Go.AM Go.Proofs
variable {R:Nat->Prop} {H:Hp} {a:Nat} {A:Ar}
theorem owners_ok (h:ArAt R H a A):WF tab 55 [.ptr a 0] H fun w H'=>w = .int .i64 A.quotas.length/\H' = H:=by
 refine wf55 (wp_sound _ ?_)
 have hs:=h.st
 obtain ⟨vs,vf,vq,vm,g0,gs,gf,gq,gm,-⟩:=h.row
 have l1:=gq.lenV 3
 have c1:=gq.one
 simp [hs,g0,l1,c1]
theorem many_none (h:ArAt R H a A) {n:Nat} (hn:A.quotas.length<=n) (hb:n < 1000000):WF tab 40 [.ptr a 0,.int .i64 (n:Nat)] H fun w H'=>w = .tup [.int .i64 0,.int .i64 0]/\H' = H:=by
 refine wf40 (wp_sound _ ?_)
 have hs:=h.st
 simp [hs]
 refine (has_ok h (n:Int) (by omega)).mono ?_
 rintro _ H1 ⟨rfl,rfl⟩
 have:decide (0<=(n:Int)/\(n:Int) < (A.quotas.length:Int))=false:=by simp;omega
 simp only [this]
 simp [hs]
theorem many_ok (h:ArAt R H a A) {n:Nat} {q m:Int} (hq:A.quotas[n]? = some q) (hm:A.many[n]? = some m) (hb:0<=q/\q < 1000000/\0<=m/\m < 1000000):WF tab 40 [.ptr a 0,.int .i64 (n:Nat)] H fun w H'=>w = .tup [.int .i64 m,.int .i64 (q-m)]/\Ext noX H H':=by
 refine wf40 (wp_sound _ ?_)
 have hs:=h.st
 have hlt:=(List.getElem?_eq_some_iff.1 hq).1
 have hbig:=h.big.2.2
 simp [hs]
 refine (has_ok h (n:Int) (by omega)).mono ?_
 rintro _ H1 ⟨rfl,rfl⟩
 have:decide (0<=(n:Int)/\(n:Int) < (A.quotas.length:Int))=true:=by simp;omega
 simp only [this]
 have hml:n < A.many.length:=by rw [<- h.qm];exact hlt
 obtain ⟨vs,vf,vq,vm,g0,gs,gf,gq,gm,-⟩:=h.row
 obtain ⟨bq,cq,rfl,gq1,gq2,gq3⟩:=sl_open gq (by omega)
 obtain ⟨bm,cm,rfl,gm1,gm2,gm3⟩:=sl_open gm (by omega)
 have hcm:cm[n]? = some (.int .i64 m):=by
  have:(cm.take (A.many.length*1))[n]? = some (.int .i64 m):=by rw [gm3,List.getElem?_map,hm];rfl
  rw [List.getElem?_take,if_pos (by omega)] at this;exact this
 have hcq:cq[n]? = some (.int .i64 q):=by
  have:(cq.take (A.quotas.length*1))[n]? = some (.int .i64 q):=by rw [gq3,List.getElem?_map,hq];rfl
  rw [List.getElem?_take,if_pos (by omega)] at this;exact this
 have j1:(n:Int) < (A.many.length:Int):=by omega
 have j2:(n:Int) < (A.quotas.length:Int):=by omega
 have wq:wr .i64 (q-m)=q-m:=by rw [wr_eq,IntKind.wrap_i64];omega
 simp [hs,g0,gm1,gq1,hcm,hcq,j1,j2,hml,hlt,wq]
 exact Ext.refl hs
def allP:List Sl->Nat->List Nat
 | [],_=>[]
 | s :: r,k=>if s.used then (s.uses*4294967296+k) :: allP r (k+1) else allP r (k+1)
theorem allP_app:∀ (l r:List Sl) (k:Nat),allP (l++r) k=allP l k++allP r (k+l.length)
 | [],r,k=>by simp [allP]
 | s :: l,r,k=>by
  simp only [List.cons_append,allP,List.length_cons]
  rw [allP_app l r (k+1),show k+1+l.length=k+(l.length+1) by omega]
  split<;>simp
theorem allP_len:∀ (l:List Sl) (k:Nat),(allP l k).length<=l.length
 | [],k=>by simp [allP]
 | s :: l,k=>by
  have:=allP_len l (k+1)
  simp only [allP]
  split<;>simp<;>omega
theorem slot_cells {n:Nat} {s:Sl} {b:Nat} {cs:List V} (S:SlotAt R H a A n s b cs):(cs.drop (n*16)).take 16=s.cs:=by
 have hl:=S.le;have hn:=S.lt
 apply List.ext_getElem?
 intro i
 by_cases hi:i < 16
 ·rw [List.getElem?_take,if_pos hi,List.getElem?_drop]
  match i,hi with
  | 0,_=>exact S.c0
  | 1,_=>exact S.c1
  | i+2,hi=>rw [show n*16+(i+2)=n*16+2+i by omega,S.co i (by omega)];rfl
 ·have e:s.cs.length=16:=by simp [Sl.cs,S.ol]
  rw [List.getElem?_eq_none_iff.2 (by simp;omega),List.getElem?_eq_none_iff.2 (by omega)]
def AL (R:Nat->Prop) (H0:Hp) (a:Nat) (A:Ar) (vs:V) (m:Nat) (F:Fr) (H:Hp):Prop :=
 ∃ i v,i+m=A.slots.length/\Ext noX H0 H/\RfAt H v (allP (A.slots.take i) 0)/\(∀ b∈rowsOf v,H0.next<=b/\b < H.next)/\F.get 3=some v/\F.get 9=some vs/\F.get 10=some (.int .i64 A.slots.length)/\F.get 11=some (.int .i64 i)
theorem all_ok (h:ArAt R H a A) (ho:∀ s∈A.slots,s.o.all oneV=true) (hu:∀ s∈A.slots,s.uses < 4294967296):WF tab 32 [.ptr a 0] H fun w H'=>RfAt H' w (allP A.slots 0)/\(∀ b∈rowsOf w,H.next<=b/\b < H'.next)/\Ext noX H H':=by
 refine wf32 (wp_sound _ ?_)
 have hs:=h.st
 have hbig:=h.big.1
 obtain ⟨vs,vf,vq,vm,g0,gs,-⟩:=h.row
 have l1:=gs.lenV 100;have c1:=gs.one
 simp [hs,g0,l1,c1]
 refine loop_of (AL R H a A vs) (m:=A.slots.length) ⟨0,.nils,by omega,Ext.refl hs,.nil,by simp [rowsOf],by simp,by simp,by simp,by simp⟩ ?_
 rintro m F H1 ⟨i,v,hi,hX,hv,hvr,f3,f9,f10,f11⟩
 have hs1:=hX.st
 have hA:=h.ext hX fun _ _ h=>h
 have lv:=hv.cells;have lo:=hv.one
 have hal:=allP_len (A.slots.take i) 0
 by_cases hlt:i < A.slots.length
 ·have hsn:=List.getElem?_eq_getElem hlt
  have hmem:=List.getElem_mem hlt
  generalize A.slots[i]=s at hsn hmem
  obtain ⟨b,cs,S⟩:=hA.slot hsn
  obtain ⟨vf',vq',vm',g1⟩:=S.row
  have g2:H1.get a=some (.row 98 4 false [vs,vf,vq,vm]):=by rw [hX.get a h.lt fun h=>h];exact g0
  rw [g2] at g1
  obtain ⟨rfl,-⟩:vs = .sl b 0 A.slots.length none 16/\vf=vf'/\vq=vq'/\vm=vm':=by simpa using g1
  have hsc:=slot_cells S
  have hb:=S.get
  have hl:=S.le
  have k1:(i:Int) < (A.slots.length:Int):=by omega
  have wi:wr .i64 ((i:Int)+1)=(i+1:Nat):=wr_succ (by omega)
  have w32:wr .u32 (i:Int)=(i:Int):=by rw [wr_u32 (by omega) (by omega)]
  have j1:i*16+16<=cs.length:=by omega
  have hol:=S.ol
  have ho1:s.cs.length=16:=by simp [Sl.cs,hol]
  have ho2:(∀ x,x∈s.cs->oneV x=true)=True:=eq_true fun x hx=>by
   rcases List.mem_cons.1 hx with rfl | hx
   ·rfl
   ·rcases List.mem_cons.1 hx with rfl | hx
    ·rfl
    ·exact List.all_eq_true.1 (ho s hmem) x hx
  have ho3:cellsV (.agg s.cs)=s.cs:=by simp [cellsV]
  have e0:s.cs[0]? = some (.int .u32 s.uses):=rfl
  have e1:s.cs[1]? = some (.bool s.used):=rfl
  have hus:=hu s hmem
  have hts:A.slots.take (i+1)=A.slots.take i++[s]:=by rw [List.take_add_one,hsn];rfl
  have hap:allP (A.slots.take (i+1)) 0=allP (A.slots.take i) 0++(if s.used then [s.uses*4294967296+i] else []):=by
   rw [hts,allP_app]
   have:0+(A.slots.take i).length=i:=by simp;omega
   rw [this]
   simp only [allP]
  have hsc2:∀ X:List V,X.length=16->setCells X 0 s.cs=s.cs:=fun X hX=>by rw [setCells_app _ _ _ (by omega),ho1,List.drop_eq_nil_of_le (by omega)];simp
  have e0g:∀ h:0 < s.cs.length,s.cs[0]'h = .int .u32 s.uses:=fun _=>rfl
  have e1g:∀ h:1 < s.cs.length,s.cs[1]'h = .bool s.used:=fun _=>rfl
  have hEx:∀ o c,Ext noX H ((H1.new o).put H1.next c):=fun o c=>(hX.newge o).putge c hX.le
  have hvn:∀ o c,RfAt ((H1.new o).put H1.next c) v (allP (A.slots.take i) 0):=fun o c=>hv.of_get fun b hb=>by rw [get_put_ne _ (by have:=(hvr b hb).2;omega),get_new_ne _ (by have:=(hvr b hb).2;omega)]
  cases hud:s.used with
  | false =>
   rw [hud] at e1 e1g
   rw [hud,if_neg (by decide),List.append_nil] at hap
   simp [L32_0,f3,f9,f10,f11,hs1,k1,hlt,hb,j1,hsc,ho1,ho2,ho3,hsc2,e0,e1,e0g,e1g,wi,lv,lo]
   exact ⟨m-1,by omega,i+1,v,by omega,hEx _ _,by rw [hap];exact hvn _ _,fun b hb=>⟨(hvr b hb).1,by have:=(hvr b hb).2;show b < H1.next+1;omega⟩,by simp [f3],by simp [f9],by simp [f10],by simp⟩
  | true =>
   rw [hud] at e1 e1g
   rw [hud,if_pos rfl] at hap
   have hvn1:=hvn
   have hEx1:=hEx
   simp [L32_0,f3,f9,f10,f11,hs1,k1,hlt,hb,j1,hsc,ho1,ho2,ho3,hsc2,e0,e1,e0g,e1g,wi,lv,lo,w32]
   generalize hH2:(H1.new (.row 100 16 false [.int .u32 0,.bool false,.int .u8 0,.int .i64 0,.bool false,.nilm,.int .i64 0,.int .i64 0,.nils,.int .u64 0,.int .u8 0,.int .i64 0,.str [],.int .i64 0,.int .u64 0,.int .i64 0])).put H1.next (.row 100 16 false s.cs)=H2
   have hX2:Ext noX H H2:=hH2 ▸ hEx _ _
   have hv2:RfAt H2 v (allP (A.slots.take i) 0):=hH2 ▸ hvn _ _
   have n2:H2.next=H1.next+1:=by rw [<- hH2];rfl
   have hof:=of_ok hX2.st i s.uses (by omega) hus
   generalize s.uses*4294967296+i=r at hap hof
   refine hof.mono ?_
   rintro _ H2 ⟨rfl,rfl⟩
   have hal2:(allP (A.slots.take i) 0).length<=100000:=by simp at hal;omega
   simp [hX2.st,f3]
   refine wpL_app1 (H:=H2) (e0:=29) (cells:=[rf r]) (by simp [descOf]) ty29 (by decide) (by simp [f3]) (by simp) hv2 (fun c hc=>⟨by have:=(hvr c hc).2;omega,by simp [hX2.st]⟩) rfl (by show ((allP (A.slots.take i) 0).length+1)*8<=_;omega) (by omega) (by simp [hX2.st]) fun v' H3 hS3 hA3=>?_
   obtain ⟨g1,g2,g3,g4,g5⟩:=app_flush' hX2.st hS3 hA3
   simp [f11,wi]
   refine ⟨m-1,by omega,i+1,v',by omega,⟨g3,by have:=hX2.le;omega,fun c hc hx=>?_⟩,?_,fun b hb=>?_,by simp,by simp [f9],by simp [f10],by simp⟩
   ·rw [g2 c (by have:=hX2.le;omega) (fun hm=>by have:=(hvr c hm).1;omega)]
    exact hX2.get c hc hx
   ·rw [hap]
    show SlAt _ _ _ _ _ _
    rw [List.length_append,List.map_append]
    exact g1
   ·obtain ⟨k1,k2⟩:=g5 b hb
    rcases k2 with k2 | k2
    ·exact ⟨(hvr b k2).1,k1⟩
    ·exact ⟨by have:=hX2.le;omega,k1⟩
 ·have k1:¬ (i:Int) < (A.slots.length:Int):=by omega
  rw [List.take_of_length_le (by omega)] at hv
  simp [L32_0,f3,f9,f10,f11,hs1,k1,lv,lo]
  exact ⟨hv,hvr,hX⟩
end Go.AM.YtiolgkhfpnidfaaT
set_option maxRecDepth 100000
namespace Go.AM.YtiolgkhfpnidfaaT
open Go Go.AM Go.Proofs
structure S5 (tg0 tg:Nat->Nat) (H0 H:Hp) (L:List (TypeId×List V)) (vs:List V):Prop where
 sl:∀ (k:Nat) e l v,k < 5->L[k]? = some (e,l)->vs[k]? = some v->SlAt H e 1 v l.length l/\∀ b∈rowsOf v,tg b=k+1/\b < H.next/\b∉H.stale
 st:∀ c∈H.stale,1<=tg c/\tg c<=5/\c < H.next
 le:H0.next<=H.next
 tk:∀ c,c < H0.next->tg c=tg0 c
 kp:∀ c,c < H0.next->tg0 c=0\/6<=tg0 c->H.get c=H0.get c
variable {tg0 tg:Nat->Nat} {H0 H:Hp} {L:List (TypeId×List V)} {vs:List V}
theorem S5.start (hs:H.stale=[]) (h:∀ (k:Nat) e l v,k < 5->L[k]? = some (e,l)->vs[k]? = some v->SlAt H e 1 v l.length l/\∀ b∈rowsOf v,tg b=k+1/\b < H.next):S5 tg tg H H L vs :=
 ⟨fun k e l v hk h1 h2=>by obtain ⟨g1,g2⟩:=h k e l v hk h1 h2;exact ⟨g1,fun b hb=>⟨(g2 b hb).1,(g2 b hb).2,by simp [hs]⟩⟩,fun c hc=>by simp [hs] at hc,Nat.le_refl _,fun _ _=>rfl,fun _ _ _=>rfl⟩
theorem S5.app (h:S5 tg0 tg H0 H L vs) {k:Nat} {e:TypeId} {l:List V} {v v' x:V} {H1:Hp} (hL:L[k]? = some (e,l)) (hv:vs[k]? = some v) (hk:k < 5) (hS:SlAt H1 e 1 v' (l.length+1) (l++[x])) (hA:AppR H v H1 v') :
  S5 tg0 (fun b=>if H.next<=b then k+1 else tg b) H0 H1 (L.set k (e,l++[x])) (vs.set k v'):=by
 have hkl:=(List.getElem?_eq_some_iff.1 hL).1
 have hkv:=(List.getElem?_eq_some_iff.1 hv).1
 have hvr:=(h.sl k e l v hk hL hv).2
 have hle:=hA.le
 refine ⟨fun j e' l' w hj5 h1 h2=>?_,fun c hc=>?_,by have:=h.le;omega,fun c hc=>?_,fun c hc ht=>?_⟩
 ·by_cases hj:k=j
  ·subst hj
   rw [List.getElem?_set_self hkl] at h1
   rw [List.getElem?_set_self hkv] at h2
   simp only [Option.some.injEq,Prod.mk.injEq] at h1 h2
   obtain ⟨rfl,rfl⟩:=h1
   subst h2
   refine ⟨by simpa using hS,fun b hb=>?_⟩
   obtain ⟨g1,g2,g3⟩:=hA.new b hb
   refine ⟨?_,g2,g1⟩
   rcases g3 with g3 | g3
   ·have:=hvr b g3
    rw [if_neg (by omega)];exact this.1
   ·rw [if_pos g3]
  ·rw [List.getElem?_set_ne hj] at h1 h2
   obtain ⟨g1,g2⟩:=h.sl j e' l' w hj5 h1 h2
   have hk:∀ b∈rowsOf w,H1.get b=H.get b/\b∉H1.stale:=fun b hb=>by
    obtain ⟨g3,g4,g5⟩:=g2 b hb
    exact hA.keep b g4 (fun hm=>by have:=(hvr b hm).1;omega) g5
   refine ⟨g1.of_get fun b hb=>(hk b hb).1,fun b hb=>?_⟩
   obtain ⟨g3,g4,g5⟩:=g2 b hb
   exact ⟨by rw [if_neg (by omega)];exact g3,by omega,(hk b hb).2⟩
 ·rcases hA.old c hc with hc | hc
  ·have:=h.st c hc
   rw [if_neg (by omega)]
   exact ⟨this.1,this.2.1,by omega⟩
  ·have:=hvr c hc
   rw [if_neg (by omega),this.1]
   exact ⟨by omega,by omega,by omega⟩
 ·have:=h.le
  rw [if_neg (by omega)]
  exact h.tk c hc
 ·have hle0:=h.le
  have htc:=h.tk c hc
  have hcv:c∉rowsOf v:=fun hm=>by have:=(hvr c hm).1;omega
  have hcs:c∉H.stale:=fun hm=>by have:=h.st c hm;omega
  rw [(hA.keep c (by omega) hcv hcs).1]
  exact h.kp c hc ht
theorem S5.bump (h:S5 tg0 tg H0 H L vs):S5 tg0 tg H0 H.bump L vs :=
 ⟨fun k e l v hk h1 h2=>by obtain ⟨g1,g2⟩:=h.sl k e l v hk h1 h2;exact ⟨g1.of_get fun b _=>rfl,fun b hb=>by obtain ⟨a,b,c⟩:=g2 b hb;exact ⟨a,by show _ < H.next+1;omega,c⟩⟩,fun c hc=>by have:=h.st c hc;exact ⟨this.1,this.2.1,by show c < H.next+1;omega⟩,by have:=h.le;show H0.next<=H.next+1;omega,h.tk,h.kp⟩
structure MAt (tg:Nat->Nat) (H:Hp) (p:Nat) (L:List (TypeId×List V)) (vs:List V):Prop where
 st:H.stale=[]
 get:H.get p=some (.row 62 5 false vs)
 sl:∀ (k:Nat) e l v,k < 5->L[k]? = some (e,l)->vs[k]? = some v->SlAt H e 1 v l.length l/\∀ b∈rowsOf v,tg b=k+1/\b < H.next
 lt:p < H.next
 tp:tg p=6
structure PS (tg:Nat->Nat) (H:Hp) (a p:Nat) (R:Nat->Prop) (A:Ar) (L:List (TypeId×List V)) (vs:List V):Prop where
 ar:ArAt R H a A
 mt:MAt tg H p L vs
 tr:∀ b,R b->tg b=0
 ta:tg a=7
variable {a p:Nat} {R:Nat->Prop} {A:Ar}
theorem PS.s5 (h:PS tg H a p R A L vs):S5 tg tg H H L vs:=S5.start h.mt.st h.mt.sl
theorem PS.ext (h:PS tg H a p R A L vs) {H' : Hp} (hX:Ext noX H H'):PS tg H' a p R A L vs:=by
 have hg:∀ b,b < H.next->H'.get b=H.get b:=fun b hb=>hX.get b hb fun h=>h
 have hle:=hX.le
 refine ⟨h.ar.ext hX fun _ _ h=>h,⟨hX.st,(hg p h.mt.lt).trans h.mt.get,fun k e l v hk h1 h2=>?_,by have:=h.mt.lt;omega,h.mt.tp⟩,h.tr,h.ta⟩
 obtain ⟨g1,g2⟩:=h.mt.sl k e l v hk h1 h2
 exact ⟨g1.of_get fun b hb=>hg b (g2 b hb).2,fun b hb=>⟨(g2 b hb).1,by have:=(g2 b hb).2;omega⟩⟩
theorem PS.arena (h:PS tg H a p R A L vs) {H' : Hp} {A' : Ar} (hA:ArAt (Rn R H H') H' a A') (hX:Ext (aR R a) H H'):PS (fun b=>if H.next<=b then 0 else tg b) H' a p (Rn R H H') A' L vs:=by
 have hle:=hX.le
 have hg:∀ b,b < H.next->tg b≠0->tg b≠7->H'.get b=H.get b:=fun b hb h1 h2=>hX.get b hb fun hx=>by
  rcases hx with rfl | hx
  ·exact h2 h.ta
  ·exact h1 (h.tr b hx)
 have hlp:=h.mt.lt
 have htp:=h.mt.tp
 refine ⟨hA,⟨hX.st,(hg p hlp (by omega) (by omega)).trans h.mt.get,fun k e l v hk h1 h2=>?_,by omega,by show (if _ then _ else _)=_;rw [if_neg (by omega)];exact htp⟩,fun b hb=>?_,?_⟩
 ·obtain ⟨g1,g2⟩:=h.mt.sl k e l v hk h1 h2
  exact ⟨g1.of_get fun b hb=>hg b (g2 b hb).2 (by have:=(g2 b hb).1;omega) (by have:=(g2 b hb).1;omega),fun b hb=>⟨by show (if _ then _ else _)=_;rw [if_neg (by have:=(g2 b hb).2;omega)];exact (g2 b hb).1,by have:=(g2 b hb).2;omega⟩⟩
 ·show (if _ then _ else _)=_
  rcases hb with hb | hb
  ·rw [if_neg (by have:=h.ar.rl b hb;omega)];exact h.tr b hb
  ·rw [if_pos hb.1]
 ·show (if _ then _ else _)=_
  rw [if_neg (by have:=h.ar.lt;omega)];exact h.ta
theorem PS.back {tg' : Nat->Nat} {H1 H2:Hp} {L' : List (TypeId×List V)} {vs' : List V} (h:PS tg H a p R A L vs) (h5:S5 tg tg' H H1 L' vs') (hs:H2.stale=[]) (hl:H1.next<=H2.next) (hp:H2.get p=some (.row 62 5 false vs')) (hg:∀ c,c≠p->c∉H1.stale->H2.get c=H1.get c) :
  PS tg' H2 a p R A L' vs':=by
 have hle:=h5.le
 have hlp:=h.mt.lt
 have htp:=h.mt.tp
 have hla:=h.ar.lt
 have hta:=h.ta
 have ne_st:∀ c,c < H.next->tg c=0\/6<=tg c->c∉H1.stale:=fun c hc ht hm=>by
  have:=h5.st c hm;have:=h5.tk c hc;omega
 have keep:∀ c,c < H.next->tg c=0\/6<=tg c->c≠p->H2.get c=H.get c:=fun c hc ht hcp=>by
  rw [hg c hcp (ne_st c hc ht)];exact h5.kp c hc ht
 refine ⟨h.ar.of_get hs (by omega) fun c hc=>?_,⟨hs,hp,fun k e l v hk h1 h2=>?_,by omega,by rw [h5.tk p hlp];exact htp⟩,fun b hb=>by rw [h5.tk b (h.ar.rl b hb)];exact h.tr b hb,by rw [h5.tk a hla];exact hta⟩
 ·rcases hc with rfl | hc
  ·exact keep c hla (.inr (by omega)) (fun e=>by rw [e] at hta;omega)
  ·exact keep c (h.ar.rl c hc) (.inl (h.tr c hc)) (fun e=>by have:=h.tr c hc;rw [e] at this;omega)
 ·obtain ⟨g1,g2⟩:=h5.sl k e l v hk h1 h2
  have hbp:∀ b∈rowsOf v,b≠p:=fun b hb e=>by
   have:=(g2 b hb).1;rw [e,h5.tk p hlp] at this;omega
  exact ⟨g1.of_get fun b hb=>hg b (hbp b hb) (g2 b hb).2.2,fun b hb=>⟨(g2 b hb).1,by have:=(g2 b hb).2.1;omega⟩⟩
theorem PS.upd {H2:Hp} (h:PS tg H a p R A L vs) {k:Nat} {e e' : TypeId} {l l' : List V} {v v' : V} (hk5:k < 5) (hL:L[k]? = some (e,l)) (hv:vs[k]? = some v) (hs:H2.stale=[]) (hl:H.next<=H2.next) (hp:H2.get p=some (.row 62 5 false (vs.set k v')))
  (hg:∀ c,c < H.next->tg c≠k+1->c≠p->H2.get c=H.get c) (hS:SlAt H2 e' 1 v' l'.length l') (hr:∀ b∈rowsOf v',tg b=k+1/\b < H2.next):PS tg H2 a p R A (L.set k (e',l')) (vs.set k v'):=by
 have hlp:=h.mt.lt
 have htp:=h.mt.tp
 have hla:=h.ar.lt
 have hta:=h.ta
 have hkl:=(List.getElem?_eq_some_iff.1 hL).1
 have hkv:=(List.getElem?_eq_some_iff.1 hv).1
 refine ⟨h.ar.of_get hs hl fun c hc=>?_,⟨hs,hp,fun j e1 l1 w hj h1 h2=>?_,by omega,htp⟩,h.tr,hta⟩
 ·rcases hc with rfl | hc
  ·exact hg c hla (by omega) (fun e=>by rw [e] at hta;omega)
  ·exact hg c (h.ar.rl c hc) (by have:=h.tr c hc;omega) (fun e=>by have:=h.tr c hc;rw [e] at this;omega)
 ·by_cases hjk:k=j
  ·subst hjk
   rw [List.getElem?_set_self hkl] at h1
   rw [List.getElem?_set_self hkv] at h2
   simp only [Option.some.injEq,Prod.mk.injEq] at h1 h2
   obtain ⟨rfl,rfl⟩:=h1
   subst h2
   exact ⟨hS,hr⟩
  ·rw [List.getElem?_set_ne hjk] at h1 h2
   obtain ⟨g1,g2⟩:=h.mt.sl j e1 l1 w hj h1 h2
   refine ⟨g1.of_get fun b hb=>?_,fun b hb=>⟨(g2 b hb).1,by have:=(g2 b hb).2;omega⟩⟩
   obtain ⟨g3,g4⟩:=g2 b hb
   exact hg b g4 (by omega) (fun e=>by rw [e] at g3;omega)
structure Mm where
 qs:List Int
 rs:List Nat
 os:List Nat
 ms:List Int
 gs:List Nat
def Mm.ls (M:Mm):List (TypeId×List V):=[(3,M.qs.map (.int .i64)),(29,M.rs.map rf),(3,M.os.map fun n=>.int .i64 (n:Nat)),(2,M.ms.map (.int .i64)),(29,M.gs.map rf)]
def cnt (l:List Nat) (n:Int):Nat:=(l.filter fun (o:Nat)=>decide ((o:Int)=n)).length
theorem PS.parts {M:Mm} (hlen:vs.length=5) (h:PS tg H a p R A M.ls vs):∃ v0 v1 v2 v3 v4,vs=[v0,v1,v2,v3,v4]/\SlAt H 3 1 v0 M.qs.length (M.qs.map (.int .i64))/\RfAt H v1 M.rs/\SlAt H 3 1 v2 M.os.length (M.os.map fun n=>.int .i64 (n:Nat))/\SlAt H 2 1 v3 M.ms.length (M.ms.map (.int .i64))/\RfAt H v4 M.gs:=by
 match vs,hlen with
 | [v0,v1,v2,v3,v4],_ =>
  have s0:=(h.mt.sl 0 _ _ v0 (by decide) rfl rfl).1
  have s1:=(h.mt.sl 1 _ _ v1 (by decide) rfl rfl).1
  have s2:=(h.mt.sl 2 _ _ v2 (by decide) rfl rfl).1
  have s3:=(h.mt.sl 3 _ _ v3 (by decide) rfl rfl).1
  have s4:=(h.mt.sl 4 _ _ v4 (by decide) rfl rfl).1
  rw [List.length_map] at s0 s1 s2 s3 s4
  exact ⟨v0,v1,v2,v3,v4,rfl,s0,s1,s2,s3,s4⟩
theorem cnt_take (l:List Nat) (n:Int) {i x:Nat} (hi:l[i]? = some x):cnt (l.take (i+1)) n=cnt (l.take i) n+if (x:Int)=n then 1 else 0:=by
 have:l.take (i+1)=l.take i++[x]:=by rw [List.take_add_one,hi];rfl
 unfold cnt
 rw [this,List.filter_append,List.length_append]
 by_cases h:(x:Int)=n<;>simp [h]
theorem cnt_len (l:List Nat) (n:Int):cnt l n<=l.length:=List.length_filter_le _ _
def MC (p:Nat) (n:Int) (v:V) (l:List Nat) (H:Hp) (m:Nat) (F:Fr) (H' : Hp):Prop :=
 ∃ i:Nat,i+m=l.length/\H' = H/\F.get 1=some (.int .i64 n)/\F.get 5=some (.int .i64 (cnt (l.take i) n:Nat))/\F.get 11=some v/\F.get 12=some (.int .i64 l.length)/\F.get 13=some (.int .i64 i)
theorem mmany_ok {M:Mm} (hlen:vs.length=5) (h:PS tg H a p R A M.ls vs) (n:Int) (hl:M.os.length < 1000000):WF tab 47 [.ptr p 0,.int .i64 n] H fun w H'=>w = .int .i64 (cnt M.os n:Nat)/\H' = H:=by
 obtain ⟨v0,v1,v2,v3,v4,rfl,s0,s1,s2,s3,s4⟩:=h.parts hlen
 have hs:=h.mt.st
 have hg:=h.mt.get
 have lv:=s2.lenV 3;have lo:=s2.one
 refine wf47 (wp_sound _ ?_)
 simp [hs,hg,lv,lo]
 refine loop_of (MC p n v2 M.os H) (m:=M.os.length) ⟨0,by omega,rfl,by simp,by simp [cnt],by simp,by simp,by simp⟩ ?_
 rintro m F H' ⟨i,hi,rfl,f1,f5,f11,f12,f13⟩
 by_cases hlt:i < M.os.length
 ·have hli:=List.getElem?_eq_getElem hlt
  generalize hy:M.os[i]=y at hli
  obtain ⟨b,cs,rfl,c1,c2,-⟩:=get1 s2 hli
  have k1:(i:Int) < (M.os.length:Int):=by omega
  have wi:wr .i64 ((i:Int)+1)=(i+1:Nat):=wr_succ (by omega)
  have hct:=cnt_take M.os n hli
  have hcl:=cnt_len (M.os.take i) n
  have hcl2:(M.os.take i).length<=i:=by simp;omega
  by_cases hyn:(y:Int)=n
  ·rw [if_pos hyn] at hct
   have wc:wr .i64 ((cnt (M.os.take i) n:Int)+1)=((cnt (M.os.take i) n+1:Nat):Int):=wr_succ (by omega)
   have hb:((y:Int)==n)=true:=by simpa using hyn
   simp [L47_0,f1,f5,f11,f12,f13,k1,hlt,hs,c1,c2,hb,wi,wc]
   exact ⟨m-1,by omega,i+1,by omega,rfl,by simp [f1],by rw [hct];simp,by simp [f11],by simp [f12],by simp⟩
  ·rw [if_neg hyn] at hct
   have hb:((y:Int)==n)=false:=by simpa using hyn
   simp [L47_0,f1,f5,f11,f12,f13,k1,hlt,hs,c1,c2,hb,wi]
   exact ⟨m-1,by omega,i+1,by omega,rfl,by simp [f1],by rw [hct];simp [f5],by simp [f11],by simp [f12],by simp⟩
 ·have k1:¬ (i:Int) < (M.os.length:Int):=by omega
  rw [List.take_of_length_le (by omega)] at f5
  simp [L47_0,f1,f5,f11,f12,f13,k1,hs]
end Go.AM.YtiolgkhfpnidfaaT
set_option maxRecDepth 100000
namespace Go.AM.YtiolgkhfpnidfaaT
open Go Go.AM Go.Proofs
structure PlInv (i:Nat) (A:Ar) (M:Mm):Prop where
 qs:A.quotas=M.qs
 q6:M.qs.length<=6
 qb:∀ q∈M.qs,0<=q/\q < 12
 mn:∀ n,n < M.qs.length->A.many[n]? = some ((cnt M.os n:Nat):Int)
 qm:A.many.length=M.qs.length
 lo:M.os.length=M.rs.length
 lm:M.ms.length=M.rs.length
 lr:M.rs.length<=i
 lg:M.gs.length<=i
 lv:∀ (k r:Nat),M.rs[k]? = some r->∃ s o mk,A.slots[slotN r]? = some s/\s.used=true/\s.uses=usesN r/\M.os[k]? = some o/\M.ms[k]? = some mk/\s.o[1]? = some (.int .i64 (o:Nat))/\s.o[4]? = some (.int .i64 mk)
 ob:∀ o∈M.os,o < M.qs.length
 mb:∀ x∈M.ms,-128<=x/\x < 128
 us:∀ (n:Nat) s,A.slots[n]? = some s->s.used=true->(s.uses*4294967296+n)∈M.rs
 nd:M.rs.Nodup
 gn:∀ r∈M.gs,∃ s,A.slots[slotN r]? = some s/\usesN r<=s.uses/\(s.used=true->usesN r < s.uses)
 fr:∀ n∈A.free,∃ s,A.slots[n]? = some s/\s.used=false
 fn:A.free.Nodup
 ub:∀ (n:Nat) s,A.slots[n]? = some s->1<=s.uses/\s.uses<=i
 sl:A.slots.length<=i
 fl:A.free.length<=i
 oo:∀ s∈A.slots,s.o.all oneV=true
theorem PlInv.start:PlInv 0 ⟨[],[],[],[]⟩ ⟨[],[],[],[],[]⟩:=by constructor<;>simp
variable {i:Nat} {A:Ar} {M:Mm}
theorem PlInv.next (h:PlInv i A M):PlInv (i+1) A M :=
 ⟨h.qs,h.q6,h.qb,h.mn,h.qm,h.lo,h.lm,by have:=h.lr;omega,by have:=h.lg;omega,h.lv,h.ob,h.mb,h.us,h.nd,h.gn,h.fr,h.fn,fun n s hs=>by have:=h.ub n s hs;omega,by have:=h.sl;omega,by have:=h.fl;omega,h.oo⟩
theorem PlInv.live (h:PlInv i A M) {k r:Nat} (hk:M.rs[k]? = some r):liveA A r=true:=by
 obtain ⟨s,o,mk,h1,h2,h3,-⟩:=h.lv k r hk
 unfold liveA;rw [h1];simp [h2,h3]
theorem PlInv.dead (h:PlInv i A M) {r:Nat} (hr:r∉M.rs):liveA A r=false:=by
 unfold liveA
 cases hs:A.slots[slotN r]? with
 | none=>rfl
 | some s =>
  cases hu:s.used with
  | false=>simp [hu]
  | true =>
   have:=h.us _ s hs hu
   have hne:s.uses≠usesN r:=fun e=>hr (by rw [ref_eq r,<- e];exact this)
   simp [hu,hne]
theorem PlInv.inj (h:PlInv i A M) {r r' : Nat} (hr:r∈M.rs) (hr' : r'∈M.rs) (he:slotN r=slotN r'):r=r':=by
 obtain ⟨k,hk⟩:=List.getElem?_of_mem hr
 obtain ⟨k',hk'⟩:=List.getElem?_of_mem hr'
 obtain ⟨s,o,mk,h1,h2,h3,-⟩:=h.lv k r hk
 obtain ⟨s',o',mk',h1',h2',h3',-⟩:=h.lv k' r' hk'
 rw [he] at h1
 rw [h1] at h1'
 obtain rfl:s=s':=by simpa using h1'
 rw [ref_eq r,ref_eq r',he,<- h3,<- h3']
theorem PlInv.lt (h:PlInv i A M) (hi:i < 4294967296) {k r:Nat} (hk:M.rs[k]? = some r):r < 18446744073709551616:=by
 obtain ⟨s,o,mk,h1,h2,h3,-⟩:=h.lv k r hk
 have h4:=h.ub _ _ h1
 have h5:=slotN_lt r
 have:=ref_eq r
 omega
theorem cnt_zero {l:List Nat} {n:Nat} (h:∀ o∈l,o < n):cnt l (n:Int)=0:=by
 unfold cnt
 rw [List.length_eq_zero_iff,List.filter_eq_nil_iff]
 intro o ho
 have:=h o ho
 simp;omega
theorem cnt_app (l:List Nat) (x:Nat) (n:Int):cnt (l++[x]) n=cnt l n+if (x:Int)=n then 1 else 0:=by
 unfold cnt
 rw [List.filter_append,List.length_append]
 by_cases h:(x:Int)=n<;>simp [h]
theorem cnt_erase:∀ (l:List Nat) (k:Nat) {x:Nat},l[k]? = some x->∀ n:Int,cnt l n=cnt (l.eraseIdx k) n+if (x:Int)=n then 1 else 0
 | [],k,x,h,n=>by simp at h
 | y :: r,0,x,h,n=>by
  simp at h;subst h
  simp only [List.eraseIdx_cons_zero,cnt,List.filter_cons]
  by_cases h:(y:Int)=n<;>simp [h]
 | y :: r,k+1,x,h,n=>by
  simp at h
  have:=cnt_erase r k h n
  simp only [List.eraseIdx_cons_succ,cnt,List.filter_cons] at this ⊢
  by_cases h:(y:Int)=n<;>simp [h]<;>omega
theorem PlInv.owner (h:PlInv i A M) {q:Int} (h5:M.qs.length<=5) (hq:max q 0 < 12):PlInv (i+1) (A.owner q) { M with qs:=M.qs++[max q 0] }:=by
 have h':=h.next
 refine ⟨by simp [Ar.owner,h.qs],by simp;omega,?_,?_,by simp [Ar.owner,h.qm],h.lo,h.lm,h'.lr,h'.lg,h.lv,fun o ho=>by have:=h.ob o ho;simp;omega,h.mb,h.us,h.nd,h.gn,h.fr,h.fn,h'.ub,h'.sl,h'.fl,h.oo⟩
 ·intro x hx
  rcases List.mem_append.1 hx with hx | hx
  ·exact h.qb x hx
  ·simp at hx;subst hx;omega
 ·intro n hn
  simp at hn
  by_cases hc:n < M.qs.length
  ·have hm:=h.mn n hc
   show (A.many++[0])[n]? = _
   rw [List.getElem?_append_left (List.getElem?_eq_some_iff.1 hm).1];exact hm
  ·have hml:=h.qm
   have:n=A.many.length:=by omega
   show (A.many++[0])[n]? = _
   rw [this,List.getElem?_append_right (Nat.le_refl _),hml,cnt_zero h.ob];simp
theorem eraseIdx_at {α:Type} (l:List α) (k j:Nat):(l.eraseIdx k)[j]? = if j < k then l[j]? else l[j+1]?:=by
 rw [List.getElem?_eraseIdx]
theorem PlInv.drop (h:PlInv i A M) (hi:i < 4294967296) {k r o:Nat} (hk:M.rs[k]? = some r) (ho:M.os[k]? = some o):PlInv (i+1) (A.drop (slotN r) o) { qs:=M.qs,rs:=M.rs.eraseIdx k,os:=M.os.eraseIdx k,ms:=M.ms.eraseIdx k,gs:=M.gs++[r] }:=by
 have h':=h.next
 obtain ⟨s,o',mk,h1,h2,h3,h4,h5,h6,h7⟩:=h.lv k r hk
 rw [ho] at h4
 obtain rfl:o=o':=by simpa using h4
 have hkl:=(List.getElem?_eq_some_iff.1 hk).1
 have hn:=(List.getElem?_eq_some_iff.1 h1).1
 have hrk:M.rs[k]=r:=by rw [List.getElem?_eq_getElem hkl] at hk;simpa using hk
 have her:M.rs.erase r=M.rs.eraseIdx k:=by rw [<- hrk];exact erase_at M.rs k hkl h.nd
 have hnf:slotN r∉A.free:=fun hc=>by
  obtain ⟨s',g1,g2⟩:=h.fr _ hc
  rw [h1] at g1
  obtain rfl:s=s':=by simpa using g1
  rw [h2] at g2;cases g2
 have hmem:=List.mem_of_getElem? hk
 have hni:r∉M.rs.eraseIdx k:=by rw [<- her];exact List.Nodup.not_mem_erase h.nd
 have hob:=h.ob o (List.mem_of_getElem? ho)
 refine ⟨h.qs,h.q6,h.qb,fun n hnq=>?_,by simp [Ar.drop,h.qm],?_,?_,?_,?_,fun j r' hj=>?_,fun x hx=>h.ob x (List.mem_of_mem_eraseIdx hx),fun x hx=>h.mb x (List.mem_of_mem_eraseIdx hx),fun n s' hs' hu=>?_,h.nd.sublist (List.eraseIdx_sublist _ _),fun r' hr'=>?_,fun n hn'=>?_,?_,fun n s' hs'=>?_,by have:=h.sl;simp [Ar.drop];omega,by have:=h.fl;simp [Ar.drop];omega,fun s' hs'=>?_⟩
 ·have hm:=h.mn n hnq
  have hc:=cnt_erase M.os k ho n
  show (A.many.set o _)[n]? = _
  have hmo:=h.mn o hob
  by_cases hno:o=n
  ·subst hno
   rw [if_pos rfl] at hc
   rw [List.getElem?_set_self (by rw [h.qm];exact hob),hmo]
   simp;omega
  ·rw [if_neg (by omega)] at hc
   rw [List.getElem?_set_ne hno,hm,hc];rfl
 ·rw [List.length_eraseIdx,List.length_eraseIdx,h.lo]
 ·rw [List.length_eraseIdx,List.length_eraseIdx,h.lm]
 ·have:=h.lr
  show (M.rs.eraseIdx k).length<=_
  rw [List.length_eraseIdx];split<;>omega
 ·have:=h.lg;simp;omega
 ·have hj0:=hj
  simp only [eraseIdx_at] at hj ⊢
  have hrr:r'≠r:=fun e=>hni (by rw [<- e];exact List.mem_of_getElem? hj0)
  have key:∀ q,M.rs[q]? = some r'->∃ s o1 mk,(A.drop (slotN r) o).slots[slotN r']? = some s/\s.used=true/\s.uses=usesN r'/\M.os[q]? = some o1/\M.ms[q]? = some mk/\s.o[1]? = some (.int .i64 (o1:Nat))/\s.o[4]? = some (.int .i64 mk):=fun q hq=>by
   obtain ⟨s',o'',mk',g1,g2⟩:=h.lv q r' hq
   have hsl:slotN r≠slotN r':=fun e=>hrr (h.inj (List.mem_of_getElem? hq) hmem e.symm)
   exact ⟨s',o'',mk',by simp only [Ar.drop];rw [List.getElem?_set_ne hsl];exact g1,g2⟩
  by_cases hc:j < k
  ·simp only [if_pos hc] at hj ⊢;exact key j hj
  ·simp only [if_neg hc] at hj ⊢;exact key (j+1) hj
 ·simp only [Ar.drop] at hs'
  by_cases hc:slotN r=n
  ·subst hc
   rw [List.getElem?_set_self hn] at hs'
   simp at hs';subst hs'
   cases hu
  ·rw [List.getElem?_set_ne hc] at hs'
   have:=h.us n s' hs' hu
   show _∈M.rs.eraseIdx k
   rw [<- her]
   have hu2:=(h.ub n s' hs').2
   refine (List.mem_erase_of_ne fun e=>hc ?_).2 this
   rw [<- e]
   have hnb:n < 4294967296:=by
    have:=(List.getElem?_eq_some_iff.1 hs').1
    have:=h.sl
    omega
   exact (slot_of _ _ hnb).1
 ·rcases List.mem_append.1 hr' with hr' | hr'
  ·obtain ⟨s',g1,g2,g3⟩:=h.gn r' hr'
   by_cases hc:slotN r=slotN r'
   ·rw [<- hc,h1] at g1
    obtain rfl:s=s':=by simpa using g1
    exact ⟨_,by simp only [Ar.drop];rw [<- hc,List.getElem?_set_self hn],by simp [h1];exact g2,fun hf=>by cases hf⟩
   ·exact ⟨s',by simp only [Ar.drop];rw [List.getElem?_set_ne hc];exact g1,g2,g3⟩
  ·simp at hr';subst hr'
   exact ⟨_,by simp only [Ar.drop];rw [List.getElem?_set_self hn],by simp [h1];omega,fun hf=>by cases hf⟩
 ·rcases List.mem_append.1 hn' with hn' | hn'
  ·obtain ⟨s',g1,g2⟩:=h.fr n hn'
   exact ⟨s',by simp only [Ar.drop];rw [List.getElem?_set_ne (fun e=>hnf (by rw [e];exact hn'))];exact g1,g2⟩
  ·simp at hn';subst hn'
   exact ⟨_,by simp only [Ar.drop];rw [List.getElem?_set_self hn],rfl⟩
 ·show (A.free++[slotN r]).Nodup
  rw [List.nodup_append]
  exact ⟨h.fn,by simp,fun a ha b hb=>by simp at hb;subst hb;exact fun e=>hnf (e ▸ ha)⟩
 ·simp only [Ar.drop] at hs'
  by_cases hc:slotN r=n
  ·subst hc
   rw [List.getElem?_set_self hn,h1] at hs'
   simp at hs';subst hs'
   have:=h.ub _ _ h1
   show 1<=s.uses/\s.uses<=_;omega
  ·rw [List.getElem?_set_ne hc] at hs'
   exact h'.ub _ _ hs'
 ·simp only [Ar.drop] at hs'
  rcases List.mem_or_eq_of_mem_set hs' with hs' | rfl
  ·exact h.oo s' hs'
  ·rfl
end Go.AM.YtiolgkhfpnidfaaT
set_option maxRecDepth 100000
namespace Go.AM.YtiolgkhfpnidfaaT
open Go Go.AM Go.Proofs
variable {i:Nat} {A:Ar} {M:Mm}
theorem PlInv.top (h:PlInv i A M):∃ s,A.grow.slots[A.top]? = some s/\s.used=false/\s.uses<=i/\A.grow.usesAt A.top=s.uses/\(A.slots[A.top]? = some s\/A.top=A.slots.length)/\A.top∉A.grow.free.dropLast/\A.top<=i/\A.grow.slots.length<=i+1/\(∀ (n:Nat) s',A.slots[n]? = some s'->A.grow.slots[n]? = some s')/\(∀ n∈A.grow.free.dropLast,n∈A.free)/\(∀ (n:Nat) s',A.grow.slots[n]? = some s'->A.slots[n]? = some s'\/n=A.top)/\s.o.all oneV=true:=by
 by_cases hf:A.free=[]
 ·rw [top_nil hf,grow_nil hf]
  refine ⟨⟨0,false,zO⟩,by simp,rfl,by simp,by simp [Ar.usesAt],.inr rfl,by simp,h.sl,by have:=h.sl;simp;omega,fun n s' hs'=>?_,by simp,fun n s' hs'=>?_,rfl⟩
  ·show (A.slots++_)[n]? = _
   rw [List.getElem?_append_left (List.getElem?_eq_some_iff.1 hs').1];exact hs'
  ·have hs' : (A.slots++[_])[n]? = some s':=hs'
   have hb:=(List.getElem?_eq_some_iff.1 hs').1
   simp at hb
   by_cases hc:n < A.slots.length
   ·rw [List.getElem?_append_left hc] at hs';exact .inl hs'
   ·exact .inr (by omega)
 ·have ht:A.top=A.free.getLast hf:=by unfold Ar.top;rw [grow_ne hf,List.getLastD_eq_getLast?,List.getLast?_eq_some_getLast hf];rfl
  have hm:A.top∈A.free:=by rw [ht];exact List.getLast_mem hf
  obtain ⟨s,g1,g2⟩:=h.fr _ hm
  have hlt:=(List.getElem?_eq_some_iff.1 g1).1
  rw [grow_ne hf]
  refine ⟨s,g1,g2,(h.ub _ _ g1).2,by simp [Ar.usesAt,g1],.inl g1,fun hc=>?_,by have:=h.sl;omega,by have:=h.sl;omega,fun n s' hs'=>hs',fun n hn=>(List.dropLast_sublist _).subset hn,fun n s' hs'=>.inl hs',h.oo s (List.mem_of_getElem? g1)⟩
  have hd:=h.fn
  rw [<- List.dropLast_concat_getLast hf,List.nodup_append] at hd
  exact hd.2.2 _ hc _ (by rw [ht];simp) rfl
theorem PlInv.ref_slot (h:PlInv i A M) (hi:i < 4294967296):slotN A.ref=A.top/\usesN A.ref=A.grow.usesAt A.top+1:=by
 obtain ⟨s,h1,h2,h3,h4,h5,h6,h7,-⟩:=h.top
 exact slot_of _ _ (by omega)
theorem PlInv.fresh (h:PlInv i A M) (hi:i < 4294967296):A.ref∉M.rs/\A.ref∉M.gs/\A.ref≠0:=by
 obtain ⟨s,h1,h2,h3,h4,h5,h6,h7,-⟩:=h.top
 obtain ⟨e1,e2⟩:=h.ref_slot hi
 refine ⟨fun hc=>?_,fun hc=>?_,fun hc=>?_⟩
 ·obtain ⟨k,hk⟩:=List.getElem?_of_mem hc
  obtain ⟨s',o,mk,g1,g2,-⟩:=h.lv k _ hk
  rw [e1] at g1
  rcases h5 with h5 | h5
  ·rw [h5] at g1
   obtain rfl:s=s':=by simpa using g1
   rw [h2] at g2;cases g2
  ·have:=(List.getElem?_eq_some_iff.1 g1).1;omega
 ·obtain ⟨s',g1,g2,g3⟩:=h.gn _ hc
  rw [e1] at g1;rw [e2] at g2
  rcases h5 with h5 | h5
  ·rw [h5] at g1
   obtain rfl:s=s':=by simpa using g1
   omega
  ·have:=(List.getElem?_eq_some_iff.1 g1).1;omega
 ·unfold Ar.ref at hc;omega
theorem PlInv.put (h:PlInv i A M) (hi:i < 4294967296) {ow:Nat} {x:Int} {o:List V} (how:ow < M.qs.length) (hx : -128<=x/\x < 128) (ho1:o[1]? = some (.int .i64 (ow:Nat))) (ho4:o[4]? = some (.int .i64 x)) (hoo:o.all oneV=true) :
  PlInv (i+1) (A.put o ow) { M with rs:=M.rs++[A.ref],os:=M.os++[ow],ms:=M.ms++[x] }:=by
 have h':=h.next
 obtain ⟨s,h1,h2,h3,h4,h5,h6,h7,h8,h9,h10,h11,h12⟩:=h.top
 obtain ⟨e1,e2⟩:=h.ref_slot hi
 obtain ⟨f1,f2,f3⟩:=h.fresh hi
 have ht:=(List.getElem?_eq_some_iff.1 h1).1
 have hg:∀ n,A.top≠n->(A.put o ow).slots[n]? = A.grow.slots[n]?:=fun n hn=>by simp only [Ar.put];rw [List.getElem?_set_ne hn]
 have hs:(A.put o ow).slots[A.top]? = some ⟨A.grow.usesAt A.top+1,true,o⟩:=by simp only [Ar.put];rw [List.getElem?_set_self ht]
 have hnt:∀ k r,M.rs[k]? = some r->A.top≠slotN r:=fun k r hr e=>by
  obtain ⟨s',o',mk,g1,g2,-⟩:=h.lv k r hr
  have:=h9 _ _ g1
  rw [<- e,h1] at this
  obtain rfl:s=s':=by simpa using this
  rw [h2] at g2;cases g2
 refine ⟨h.qs,h.q6,h.qb,fun n hn=>?_,by simp [Ar.put,h.qm],by simp [h.lo],by simp [h.lm],by have:=h.lr;simp;omega,h'.lg,fun k r hk=>?_,fun y hy=>?_,fun y hy=>?_,fun n s' hs' hu=>?_,?_,fun r hr=>?_,fun n hn=>?_,?_,fun n s' hs'=>?_,?_,?_,fun s' hs'=>?_⟩
 ·have hm:=h.mn n hn
  have hmo:=h.mn ow how
  show (A.many.set ow _)[n]? = some ((cnt (M.os++[ow]) n:Nat):Int)
  rw [cnt_app]
  by_cases hc:ow=n
  ·subst hc
   rw [if_pos rfl,List.getElem?_set_self (by rw [h.qm];exact how),hmo];simp
  ·rw [if_neg (by omega),List.getElem?_set_ne hc,hm];simp
 ·by_cases hc:k < M.rs.length
  ·have hk' : M.rs[k]? = some r:=by
    have hk:(M.rs++[A.ref])[k]? = some r:=hk
    rw [List.getElem?_append_left hc] at hk;exact hk
   obtain ⟨s',o',mk,g1,g2,g3,g4,g5,g6,g7⟩:=h.lv k r hk'
   exact ⟨s',o',mk,(hg _ (hnt k r hk')).trans (h9 _ _ g1),g2,g3,by show (M.os++[ow])[k]? = _;rw [List.getElem?_append_left (by rw [h.lo];exact hc)];exact g4,by show (M.ms++[x])[k]? = _;rw [List.getElem?_append_left (by rw [h.lm];exact hc)];exact g5,g6,g7⟩
  ·have hk:(M.rs++[A.ref])[k]? = some r:=hk
   have hb:=(List.getElem?_eq_some_iff.1 hk).1
   simp at hb
   have hke:k=M.rs.length:=by omega
   subst hke
   rw [List.getElem?_append_right (Nat.le_refl _)] at hk
   simp at hk;subst hk
   rw [e1,e2]
   exact ⟨_,ow,x,hs,rfl,rfl,by show (M.os++[ow])[_]? = _;rw [<- h.lo,List.getElem?_append_right (Nat.le_refl _)];simp,by show (M.ms++[x])[_]? = _;rw [<- h.lm,List.getElem?_append_right (Nat.le_refl _)];simp,ho1,ho4⟩
 ·rcases List.mem_append.1 hy with hy | hy
  ·exact h.ob y hy
  ·simp at hy;subst hy;exact how
 ·rcases List.mem_append.1 hy with hy | hy
  ·exact h.mb y hy
  ·simp at hy;subst hy;exact hx
 ·by_cases hc:A.top=n
  ·subst hc
   rw [hs] at hs'
   simp at hs';subst hs'
   exact List.mem_append.2 (.inr (by simp [Ar.ref]))
  ·rw [hg n hc] at hs'
   rcases h11 n s' hs' with hs' | hs'
   ·exact List.mem_append.2 (.inl (h.us n s' hs' hu))
   ·exact absurd hs'.symm hc
 ·show (M.rs++[A.ref]).Nodup
  rw [List.nodup_append]
  exact ⟨h.nd,by simp,fun a ha b hb=>by simp at hb;subst hb;exact fun e=>f1 (e ▸ ha)⟩
 ·obtain ⟨s',g1,g2,g3⟩:=h.gn r hr
  by_cases hc:A.top=slotN r
  ·have:=h9 _ _ g1
   rw [<- hc,h1] at this
   obtain rfl:s=s':=by simpa using this
   exact ⟨_,by rw [<- hc];exact hs,by show usesN r<=A.grow.usesAt A.top+1;omega,fun _=>by show usesN r < A.grow.usesAt A.top+1;omega⟩
  ·exact ⟨s',(hg _ hc).trans (h9 _ _ g1),g2,g3⟩
 ·obtain ⟨s',g1,g2⟩:=h.fr n (h10 n hn)
  exact ⟨s',(hg n fun e=>h6 (e ▸ hn)).trans (h9 _ _ g1),g2⟩
 ·show A.grow.free.dropLast.Nodup
  by_cases hf:A.free=[]
  ·rw [grow_nil hf];simp
  ·rw [grow_ne hf];exact h.fn.sublist (List.dropLast_sublist _)
 ·by_cases hc:A.top=n
  ·subst hc
   rw [hs] at hs'
   simp at hs';subst hs'
   show 1<=A.grow.usesAt A.top+1/\A.grow.usesAt A.top+1<=_;omega
  ·rw [hg n hc] at hs'
   rcases h11 n s' hs' with hs' | hs'
   ·exact h'.ub n s' hs'
   ·exact absurd hs'.symm hc
 ·show (A.grow.slots.set _ _).length<=_
  simpa using h8
 ·show A.grow.free.dropLast.length<=_
  by_cases hf:A.free=[]
  ·rw [grow_nil hf];simp
  ·rw [grow_ne hf];have:=h.fl;simp;omega
 ·simp only [Ar.put] at hs'
  rcases List.mem_or_eq_of_mem_set hs' with hs' | rfl
  ·obtain ⟨n,hn⟩:=List.getElem?_of_mem hs'
   rcases h11 n s' hn with hn' | hn'
   ·exact h.oo s' (List.mem_of_getElem? hn')
   ·rw [hn',h1] at hn
    obtain rfl:s=s':=by simpa using hn
    exact h12
  ·exact hoo
theorem all_set {l:List V} (h:l.all oneV=true) (k:Nat) {v:V} (hv:oneV v=true):(l.set k v).all oneV=true:=by
 rw [List.all_eq_true] at h ⊢
 intro x hx
 rcases List.mem_or_eq_of_mem_set hx with hx | rfl
 ·exact h x hx
 ·exact hv
theorem PlInv.mark (h:PlInv i A M) {k r:Nat} {s:Sl} (hk:M.rs[k]? = some r) (hs:A.slots[slotN r]? = some s) {x:Int} (hx : -128<=x/\x < 128) :
  PlInv (i+1) { A with slots:=A.slots.set (slotN r) { s with o:=s.o.set 4 (.int .i64 x) } } { M with ms:=M.ms.set k x }:=by
 have h':=h.next
 have hn:=(List.getElem?_eq_some_iff.1 hs).1
 have hkl:=(List.getElem?_eq_some_iff.1 hk).1
 obtain ⟨s0,o0,m0,y1,y2,y3,y4,y5,y6,y7⟩:=h.lv k r hk
 rw [hs] at y1
 obtain rfl:s=s0:=by simpa using y1
 have hself:(A.slots.set (slotN r) { s with o:=s.o.set 4 (.int .i64 x) })[slotN r]? = some { s with o:=s.o.set 4 (.int .i64 x) }:=List.getElem?_set_self hn
 have hor:∀ (n:Nat) s',(A.slots.set (slotN r) { s with o:=s.o.set 4 (.int .i64 x) })[n]? = some s'->∃ s'',A.slots[n]? = some s''/\s'.used=s''.used/\s'.uses=s''.uses:=fun n s' hs'=>by
  by_cases hc:slotN r=n
  ·subst hc
   rw [hself] at hs'
   simp at hs';subst hs'
   exact ⟨s,hs,rfl,rfl⟩
  ·rw [List.getElem?_set_ne hc] at hs'
   exact ⟨s',hs',rfl,rfl⟩
 have hto:∀ (n:Nat) s',A.slots[n]? = some s'->∃ s'',(A.slots.set (slotN r) { s with o:=s.o.set 4 (.int .i64 x) })[n]? = some s''/\s''.used=s'.used/\s''.uses=s'.uses:=fun n s' hs'=>by
  by_cases hc:slotN r=n
  ·subst hc
   rw [hs] at hs'
   obtain rfl:s=s':=by simpa using hs'
   exact ⟨_,hself,rfl,rfl⟩
  ·exact ⟨s',by rw [List.getElem?_set_ne hc];exact hs',rfl,rfl⟩
 refine ⟨h.qs,h.q6,h.qb,h.mn,h.qm,h.lo,by simp [h.lm],h'.lr,h'.lg,fun j r' hj=>?_,h.ob,fun y hy=>?_,fun n s' hs' hu=>?_,h.nd,fun r' hr'=>?_,fun n hn'=>?_,h.fn,fun n s' hs'=>?_,by have:=h.sl;simp;omega,h'.fl,fun s' hs'=>?_⟩
 ·obtain ⟨s',o',mk,g1,g2,g3,g4,g5,g6,g7⟩:=h.lv j r' hj
  by_cases hc:k=j
  ·subst hc
   rw [hk] at hj
   obtain rfl:r=r':=by simpa using hj
   rw [hs] at g1
   obtain rfl:s=s':=by simpa using g1
   have h4:=(List.getElem?_eq_some_iff.1 g7).1
   exact ⟨_,o',x,hself,g2,g3,g4,List.getElem?_set_self (by rw [h.lm];exact hkl),by show (s.o.set 4 _)[1]? = _;rw [List.getElem?_set_ne (by omega)];exact g6,List.getElem?_set_self h4⟩
  ·have hsl:slotN r≠slotN r':=fun e=>by
    have:=h.inj (List.mem_of_getElem? hk) (List.mem_of_getElem? hj) e
    subst this
    have hjl:=(List.getElem?_eq_some_iff.1 hj).1
    exact hc ((List.getElem?_inj hkl h.nd).1 (hk.trans hj.symm))
   exact ⟨s',o',mk,by rw [List.getElem?_set_ne hsl];exact g1,g2,g3,g4,by show (M.ms.set k x)[j]? = _;rw [List.getElem?_set_ne hc];exact g5,g6,g7⟩
 ·rcases List.mem_or_eq_of_mem_set hy with hy | rfl
  ·exact h.mb y hy
  ·exact hx
 ·obtain ⟨s'',g1,g2,g3⟩:=hor n s' hs'
  rw [g3];exact h.us n s'' g1 (by rw [<- g2];exact hu)
 ·obtain ⟨s',g1,g2,g3⟩:=h.gn r' hr'
  obtain ⟨s'',z1,z2,z3⟩:=hto _ s' g1
  exact ⟨s'',z1,by rw [z3];exact g2,fun hu=>by rw [z3];exact g3 (by rw [<- z2];exact hu)⟩
 ·obtain ⟨s',g1,g2⟩:=h.fr n hn'
  obtain ⟨s'',z1,z2,z3⟩:=hto _ s' g1
  exact ⟨s'',z1,by rw [z2];exact g2⟩
 ·obtain ⟨s'',g1,g2,g3⟩:=hor n s' hs'
  rw [g3];exact h'.ub n s'' g1
 ·rcases List.mem_or_eq_of_mem_set hs' with hs' | rfl
  ·exact h.oo s' hs'
  ·exact all_set (h.oo s (List.mem_of_getElem? hs)) 4 rfl
end Go.AM.YtiolgkhfpnidfaaT
set_option maxRecDepth 100000
namespace Go.AM.YtiolgkhfpnidfaaT
open Go Go.AM Go.Proofs
variable {i:Nat} {A:Ar} {M:Mm}
theorem u32w_nat (r:Nat):u32w (r:Int)=(slotN r:Int):=by
 unfold slotN
 simp [u32w,IntKind.wrap,IntKind.bits,IntKind.signed]
theorem allP_mem:∀ (L:List Sl) (k r:Nat),r∈allP L k ↔ ∃ n s,L[n]? = some s/\s.used=true/\r=s.uses*4294967296+(k+n)
 | [],k,r=>by simp [allP]
 | s :: l,k,r=>by
  have ih:=allP_mem l (k+1) r
  have e:(∃ n s',(s :: l)[n]? = some s'/\s'.used=true/\r=s'.uses*4294967296+(k+n)) ↔ (s.used=true/\r=s.uses*4294967296+k)\/∃ n s',l[n]? = some s'/\s'.used=true/\r=s'.uses*4294967296+(k+1+n):=by
   constructor
   ·rintro ⟨n,s',h1,h2,h3⟩
    cases n with
    | zero=>simp at h1;subst h1;exact .inl ⟨h2,h3⟩
    | succ n=>exact .inr ⟨n,s',by simpa using h1,h2,by omega⟩
   ·rintro (⟨h1,h2⟩ | ⟨n,s',h1,h2,h3⟩)
    ·exact ⟨0,s,rfl,h1,h2⟩
    ·exact ⟨n+1,s',by simpa using h1,h2,by omega⟩
  rw [e,<- ih]
  simp only [allP]
  cases hu:s.used<;>simp
theorem allP_sorted:∀ (L:List Sl) (k:Nat),k+L.length < 4294967296->(allP L k).Pairwise fun x y=>slotN x < slotN y
 | [],k,_=>by simp [allP]
 | s :: l,k,h=>by
  simp at h
  have ih:=allP_sorted l (k+1) (by omega)
  simp only [allP]
  split
  ·rw [List.pairwise_cons]
   refine ⟨fun y hy=>?_,ih⟩
   obtain ⟨n,s',h1,h2,rfl⟩:=(allP_mem l (k+1) y).1 hy
   have:=(List.getElem?_eq_some_iff.1 h1).1
   rw [(slot_of s.uses k (by omega)).1,(slot_of s'.uses (k+1+n) (by omega)).1]
   omega
  ·exact ih
theorem PlInv.all (h:PlInv i A M) (hi:i < 4294967296):(allP A.slots 0).map (fun (r:Nat)=>(r:Int))=srtL (M.rs.map fun (r:Nat)=>(r:Int)):=by
 have hsl:=h.sl
 have hso:=allP_sorted A.slots 0 (by omega)
 have hnd:(allP A.slots 0).Nodup:=hso.imp fun h e=>by rw [e] at h;omega
 have hp:(allP A.slots 0).Perm M.rs:=by
  rw [List.perm_ext_iff_of_nodup hnd h.nd]
  intro r
  rw [allP_mem]
  constructor
  ·rintro ⟨n,s,h1,h2,rfl⟩
   rw [Nat.zero_add]
   exact h.us n s h1 h2
  ·intro hr
   obtain ⟨k,hk⟩:=List.getElem?_of_mem hr
   obtain ⟨s,o,mk,g1,g2,g3,-⟩:=h.lv k r hk
   exact ⟨slotN r,s,g1,g2,by rw [Nat.zero_add,g3];exact ref_eq r⟩
 refine srtL_of (hp.map _) ?_ ?_
 ·rw [List.pairwise_map]
  exact hso.imp fun hxy=>by rw [u32w_nat,u32w_nat];omega
 ·rw [List.map_map,List.Nodup,List.pairwise_map]
  refine h.nd.imp_of_mem fun {a b} ha hb hne he=>hne (h.inj ha hb ?_)
  simp only [Function.comp,u32w_nat] at he
  omega
theorem PlInv.slots_nd (h:PlInv i A M):((M.rs.map fun (r:Nat)=>(r:Int)).map u32w).Nodup:=by
 rw [List.map_map,List.Nodup,List.pairwise_map]
 refine h.nd.imp_of_mem fun {a b} ha hb hne he=>hne (h.inj ha hb ?_)
 simp only [Function.comp,u32w_nat] at he
 omega
end Go.AM.YtiolgkhfpnidfaaT
set_option maxRecDepth 100000
namespace Go.AM.YtiolgkhfpnidfaaT
open Go Go.AM Go.Proofs
theorem sort_ok {H:Hp} {v:V} {l:List Nat} (hs:H.stale=[]) (h:RfAt H v l) (hr:∀ b∈rowsOf v,b < H.next) (hl:l.length < 1000000) (hn:((l.map fun (r:Nat)=>(r:Int)).map u32w).Nodup) {l' : List Nat} (hl' : l'.map (fun (r:Nat)=>(r:Int))=srtL (l.map fun (r:Nat)=>(r:Int))) :
  WF tab 52 [v,.fn (.func 53) [] []] H fun w H'=>RfAt H' v l'/\Ext (fun b=>b∈rowsOf v) H H':=by
 have hll:l'.length=l.length:=by
  have:=congrArg List.length hl'
  simpa [srtL] using this
 rcases sl_inv h with ⟨rfl,h1,h2⟩ | ⟨b,cs,rfl,h1,h2,h3⟩
 ·have h0:l' = []:=List.length_eq_zero_iff.1 (by omega)
  subst h0
  exact wf_told (H':=H) (v:=.tup []) (Eq.trans rfl rfl) fn52 rfl (by simp [srtE,hs]) ⟨.nil,Ext.refl hs⟩
 ·by_cases h0:l.length=0
  ·have h0' : l' = []:=List.length_eq_zero_iff.1 (by omega)
   have h00:l=[]:=List.length_eq_zero_iff.1 h0
   subst h0';subst h00
   exact wf_told (H':=H) (v:=.tup []) (Eq.trans rfl rfl) fn52 rfl (by simp [srtE,hs]) ⟨h,Ext.refl hs⟩
  ·rw [Nat.mul_one] at h2 h3
   have hall:(cs.take l.length).all (isK .u64)=true:=by rw [h3,List.all_eq_true];intro x hx;obtain ⟨y,-,rfl⟩:=List.mem_map.1 hx;rfl
   have hnum:(cs.take l.length).map numV=l.map fun (r:Nat)=>(r:Int):=by rw [h3,List.map_map];rfl
   have hE:srtE 53 29 [.sl b 0 l.length none 1,.fn (.func 53) [] []] H=some (.tup [],H.put b (.row 29 1 false ((srtL ((cs.take l.length).map numV)).map (.int .u64)++cs.drop l.length))):=by
    unfold srtE
    split
    ·rename_i heq;simp at heq
    ·rename_i heq;simp at heq
    ·rename_i heq;exfalso;simp_all
    ·rename_i b' n' g' H' hnn heq
     simp at heq
     obtain ⟨⟨rfl,rfl⟩,rfl⟩:=heq
     simp only [hs,h1]
     rw [if_pos ⟨trivial,trivial,h2,hl,hall,by rw [hnum];exact hn⟩]
    ·rename_i hx;exact (hx _ _ _ rfl).elim
   refine wf_told (Eq.trans rfl rfl) fn52 rfl hE ⟨?_,Ext.put hs _ (by simp [rowsOf])⟩
   rw [hnum,<- hl']
   have:=SlAt.row (H:=H.put b (.row 29 1 false ((l'.map (fun (r:Nat)=>(r:Int))).map (.int .u64)++cs.drop l.length))) (sz:=1) b l'.length _ (get_put_self _ _ _) (by simp)
   rw [Nat.mul_one,List.take_left' (by simp)] at this
   have e:V.sl b 0 l.length none 1=V.sl b 0 l'.length none 1:=by rw [hll]
   show SlAt _ _ _ _ _ _
   have erf:l'.map rf=l'.map fun (x:Nat)=>V.int .u64 (x:Int):=rfl
   rw [e,erf]
   simpa [Function.comp_def] using this
def Zis21:SCode:=.seq (.reg R26_21) (.seq (.reg R26_22) (.seq (.reg R26_23) (.seq (.reg R26_24) (.seq (.dreg R26_25) (.ret)))))
def Zis14:SCode:=.seq (.seq (.reg R26_14) (.block 4 (.loop L26_2))) Zis21
def Zis8:SCode:=.seq (.seq (.reg R26_8) (.block 2 (.loop L26_1))) Zis14
theorem is_code:S26 = .seq (.reg R26_0) (.seq (.seq (.reg R26_1) (.block 0 (.loop L26_0))) Zis8):=rfl
variable {tg:Nat->Nat} {H:Hp} {a p i:Nat} {R:Nat->Prop} {A:Ar} {M:Mm} {vs:List V} {F:Fr}
theorem is_tail {H0:Hp} (hP:PS tg H a p R A M.ls vs) (hvl:vs.length=5) (hI:PlInv i A M) (hi:i<=1000) (h0:Ext noX H0 H) (f0:F.get 0=some (.ptr p 0)) (f1:F.get 1=some (.ptr a 0)) :
  wp tab Zis21 F H (resQ tab [.tmp 4] fun w H'=>w = .bool true/\Ext noX H0 H'):=by
 have hs:=hP.mt.st
 simp [Zis21,f0,f1,hs]
 refine (all_ok hP.ar hI.oo fun s hs=>?_).mono ?_
 ·obtain ⟨n,hn⟩:=List.getElem?_of_mem hs
  have:=(hI.ub n s hn).2;omega
 rintro w1 H1 ⟨ha1,ha2,hX1⟩
 have hP1:=hP.ext hX1
 obtain ⟨v0,v1,v2,v3,v4,rfl,s0,s1,s2,s3,s4⟩:=hP1.parts hvl
 have hg1:=hP1.mt.get
 have o1:=ha1.one;have c1:=ha1.cells
 have p1:=s1.one;have p2:=s1.cells
 simp [hX1.st,f0,f1,hg1,o1,c1,p1,p2]
 have hr1:=(hP1.mt.sl 1 _ _ v1 (by decide) rfl rfl).2
 refine (clone_ok hX1.st s1 (fun b hb=>(hr1 b hb).2) (by have:=hI.lr;omega)).mono ?_
 rintro w2 H2 ⟨hb1,hb2,hX2⟩
 have hP2:=hP1.ext hX2
 have o2:=hb1.one;have c2:=hb1.cells
 simp [hX2.st,o2,c2]
 have hlr:=hI.lr
 refine (sort_ok hX2.st hb1 (fun b hb=>(hb2 b hb).2) (by omega) hI.slots_nd (hI.all (by omega))).mono ?_
 rintro w3 H3 ⟨hd1,hX3⟩
 have hX13:Ext noX H1 H3:=⟨hX3.st,by have:=hX2.le;have:=hX3.le;omega,fun b hb hx=>by
  rw [hX3.get b (by have:=hX2.le;omega) (fun hm=>by have:=(hb2 b hm).1;omega)]
  exact hX2.get b hb hx⟩
 have hP3:=hP1.ext hX13
 have ha3:RfAt H3 w1 (allP A.slots 0):=ha1.of_get fun b hb=>hX13.get b (ha2 b hb).2 fun h=>h
 have hg3:=hP3.mt.get
 have q1:=s0.lenV 3;have q2:=s0.one
 have hq:=hI.qs
 have hq6:=hI.q6
 have hqr:=hP3.ar
 simp [hX3.st,f0,f1,hg3,q1,q2]
 refine (many_none hqr (n:=M.qs.length) (by rw [hq];exact Nat.le_refl _) (by omega)).mono ?_
 rintro _ H4 ⟨rfl,rfl⟩
 simp [hX3.st,f0,f1]
 have hal:=allP_len A.slots 0
 have hsl:=hI.sl
 refine (equal_ok hX3.st ha3 hd1 (by omega)).mono ?_
 rintro _ H5 ⟨rfl,hX5⟩
 have hP5:=hP3.ext hX5
 have hXb:Ext noX H5 H5.bump:=(Ext.refl hX5.st).bump
 have hP6:=hP5.ext hXb
 simp [hX5.st,f1]
 refine (owners_ok hP6.ar).mono ?_
 rintro _ H6 ⟨rfl,rfl⟩
 have hg5:=hP5.mt.get
 have hXbb:Ext noX H5.bump H5.bump.bump:=(Ext.refl hP6.mt.st).bump
 have hP7:=hP6.ext hXbb
 have q3:=s0.eqv
 simp [hX5.st,f0,f1,hg5,q1,q2,q3,hq]
 refine (get_nil hP7.ar 0 (by omega) (hI.dead fun hm=>?_)).mono ?_
 ·obtain ⟨k,hk⟩:=List.getElem?_of_mem hm
  obtain ⟨s,o,mk,g1,g2,g3,-⟩:=hI.lv k 0 hk
  have:=hI.ub _ s g1
  have:usesN 0=0:=rfl
  omega
 rintro _ H7 ⟨rfl,hX7⟩
 simp [hX7.st]
 exact (((h0.trans hX1).trans (hX13.trans hX5)).trans ((hXb.trans hXbb).trans hX7)).bump
def I3 (H0:Hp) (a p:Nat) (v0:V) (k:Nat) (m:Nat) (F:Fr) (H:Hp):Prop :=
 ∃ n,n+m=k/\Ext noX H0 H/\F.get 0=some (.ptr p 0)/\F.get 1=some (.ptr a 0)/\F.get 79=some v0/\F.get 80=some (.int .i64 k)/\F.get 81=some (.int .i64 n)
theorem is_three {H0:Hp} (hP:PS tg H a p R A M.ls vs) (hvl:vs.length=5) (hI:PlInv i A M) (hi:i<=1000) (h0:Ext noX H0 H) (f0:F.get 0=some (.ptr p 0)) (f1:F.get 1=some (.ptr a 0)) :
  wp tab Zis14 F H (resQ tab [.tmp 4] fun w H'=>w = .bool true/\Ext noX H0 H'):=by
 obtain ⟨v0,v1,v2,v3,v4,rfl,s0,s1,s2,s3,s4⟩:=hP.parts hvl
 have hs:=hP.mt.st
 have hg:=hP.mt.get
 have q1:=s0.lenV 3;have q2:=s0.one
 simp [Zis14,f0,f1,hs,hg,q1,q2]
 refine loop_of (I3 H a p v0 M.qs.length) (m:=M.qs.length) ⟨0,by omega,Ext.refl hs,by simp [f0],by simp [f1],by simp,by simp,by simp⟩ ?_
 clear f0 f1
 rintro m F H1 ⟨n,hn,hX,f0,f1,f79,f80,f81⟩
 have hP1:=hP.ext hX
 have hs1:=hP1.mt.st
 by_cases hlt:n < M.qs.length
 ·have hqn:=List.getElem?_eq_getElem hlt
  have hqm:=List.getElem_mem hlt
  generalize M.qs[n]=q at hqn hqm
  have s01:SlAt H1 3 1 v0 M.qs.length (M.qs.map (.int .i64)):=by have:=(hP1.mt.sl 0 _ _ v0 (by decide) rfl rfl).1;rw [List.length_map] at this;exact this
  obtain ⟨b,cs,rfl,c1,c2,-⟩:=get1 s01 hqn
  have k1:(n:Int) < (M.qs.length:Int):=by omega
  have wn:wr .i64 ((n:Int)+1)=(n+1:Nat):=wr_succ (by have:=hI.q6;omega)
  have hmn:=hI.mn n hlt
  have hqb:=hI.qb q hqm
  have hcl:=cnt_len M.os n
  have hlo:=hI.lo;have hlr:=hI.lr
  simp [L26_2,f0,f1,f79,f80,f81,hs1,k1,hlt,c1,c2]
  refine (many_ok hP1.ar (n:=n) (by rw [hI.qs];exact hqn) hmn (by omega)).mono ?_
  rintro _ H2 ⟨rfl,hX2⟩
  have hP2:=hP1.ext hX2
  simp [hX2.st,f0,f1]
  refine (mmany_ok hvl hP2 (n:Int) (by omega)).mono ?_
  rintro _ H3 ⟨rfl,rfl⟩
  simp [hX2.st,f0,f1]
  refine (mmany_ok hvl hP2 (n:Int) (by omega)).mono ?_
  rintro _ H3 ⟨rfl,rfl⟩
  have wq:wr .i64 (q-(cnt M.os n:Int))=q-(cnt M.os n:Int):=by rw [wr_eq,IntKind.wrap_i64];omega
  simp [hX2.st,f81,wn,wq]
  exact ⟨m-1,by omega,n+1,by omega,hX.trans hX2,by simp [f0],by simp [f1],by simp [f79],by simp [f80],by simp⟩
 ·have k1:¬ (n:Int) < (M.qs.length:Int):=by omega
  simp [L26_2,f0,f1,f79,f80,f81,hs1,k1]
  exact is_tail hP1 hvl hI hi (h0.trans hX) (by simp [f0]) (by simp [f1])
def I2 (H0:Hp) (a p:Nat) (v4:V) (k:Nat) (m:Nat) (F:Fr) (H:Hp):Prop :=
 ∃ n,n+m=k/\Ext noX H0 H/\F.get 0=some (.ptr p 0)/\F.get 1=some (.ptr a 0)/\F.get 65=some v4/\F.get 66=some (.int .i64 k)/\F.get 67=some (.int .i64 n)
theorem is_two {H0:Hp} (hP:PS tg H a p R A M.ls vs) (hvl:vs.length=5) (hI:PlInv i A M) (hi:i<=1000) (h0:Ext noX H0 H) (f0:F.get 0=some (.ptr p 0)) (f1:F.get 1=some (.ptr a 0)) :
  wp tab Zis8 F H (resQ tab [.tmp 4] fun w H'=>w = .bool true/\Ext noX H0 H'):=by
 have hvl0:=hvl
 obtain ⟨v0,v1,v2,v3,v4,rfl,s0,s1,s2,s3,s4⟩:=hP.parts hvl
 have hs:=hP.mt.st
 have hg:=hP.mt.get
 have q1:=s4.lenV 29;have q2:=s4.one
 simp [Zis8,f0,f1,hs,hg,q1,q2]
 refine loop_of (I2 H a p v4 M.gs.length) (m:=M.gs.length) ⟨0,by omega,Ext.refl hs,by simp [f0],by simp [f1],by simp,by simp,by simp⟩ ?_
 clear f0 f1
 rintro m F H1 ⟨n,hn,hX,f0,f1,f65,f66,f67⟩
 have hP1:=hP.ext hX
 have hs1:=hP1.mt.st
 have hlg:=hI.lg
 by_cases hlt:n < M.gs.length
 ·have hqn:=List.getElem?_eq_getElem hlt
  have hqm:=List.getElem_mem hlt
  generalize M.gs[n]=r at hqn hqm
  have s41:RfAt H1 v4 M.gs:=by have:=(hP1.mt.sl 4 _ _ v4 (by decide) rfl rfl).1;rw [List.length_map] at this;exact this
  obtain ⟨b,cs,rfl,c1,c2,-⟩:=get1 s41 hqn
  have k1:(n:Int) < (M.gs.length:Int):=by omega
  have wn:wr .i64 ((n:Int)+1)=(n+1:Nat):=wr_succ (by omega)
  obtain ⟨s,g1,g2,g3⟩:=hI.gn r hqm
  have hr64:r < 18446744073709551616:=by
   have:=ref_eq r;have:=slotN_lt r;have:=(hI.ub _ s g1).2;omega
  have hdead:liveA A r=false:=by
   unfold liveA;rw [g1]
   cases hu:s.used with
   | false=>simp [hu]
   | true =>
    have hne:s.uses≠usesN r:=by have:=g3 hu;omega
    simp [hu,hne]
  simp [L26_1,f0,f1,f65,f66,f67,hs1,k1,hlt,c1,c2]
  refine (get_nil hP1.ar r hr64 hdead).mono ?_
  rintro _ H2 ⟨rfl,hX2⟩
  simp [hX2.st,f67,wn]
  exact ⟨m-1,by omega,n+1,by omega,hX.trans hX2,by simp [f0],by simp [f1],by simp [f65],by simp [f66],by simp⟩
 ·have k1:¬ (n:Int) < (M.gs.length:Int):=by omega
  simp [L26_1,f0,f1,f65,f66,f67,hs1,k1]
  exact is_three hP1 hvl0 hI hi (h0.trans hX) (by simp [f0]) (by simp [f1])
def I1 (H0:Hp) (a p:Nat) (v1:V) (k:Nat) (m:Nat) (F:Fr) (H:Hp):Prop :=
 ∃ n,n+m=k/\Ext noX H0 H/\F.get 0=some (.ptr p 0)/\F.get 1=some (.ptr a 0)/\F.get 21=some v1/\F.get 22=some (.int .i64 k)/\F.get 23=some (.int .i64 n)
theorem is_ok (hP:PS tg H a p R A M.ls vs) (hvl:vs.length=5) (hI:PlInv i A M) (hi:i<=1000) :
  WF tab 26 [.ptr p 0,.ptr a 0] H fun w H'=>w = .bool true/\Ext noX H H':=by
 refine wf26 (wp_sound _ ?_)
 rw [is_code]
 have hvl0:=hvl
 obtain ⟨v0,v1,v2,v3,v4,rfl,s0,s1,s2,s3,s4⟩:=hP.parts hvl
 have hs:=hP.mt.st
 have hg:=hP.mt.get
 have q1:=s1.lenV 29;have q2:=s1.one
 simp [hs,hg,q1,q2]
 refine loop_of (I1 H a p v1 M.rs.length) (m:=M.rs.length) ⟨0,by omega,Ext.refl hs,by simp,by simp,by simp,by simp,by simp⟩ ?_
 rintro m F H1 ⟨n,hn,hX,f0,f1,f21,f22,f23⟩
 have hP1:=hP.ext hX
 have hs1:=hP1.mt.st
 have hlr:=hI.lr
 by_cases hlt:n < M.rs.length
 ·have hqn:=List.getElem?_eq_getElem hlt
  have hqm:=List.getElem_mem hlt
  generalize M.rs[n]=r at hqn hqm
  have s11:RfAt H1 v1 M.rs:=by have:=(hP1.mt.sl 1 _ _ v1 (by decide) rfl rfl).1;rw [List.length_map] at this;exact this
  obtain ⟨b,cs,rfl,c1,c2,-⟩:=get1 s11 hqn
  have k1:(n:Int) < (M.rs.length:Int):=by omega
  have wn:wr .i64 ((n:Int)+1)=(n+1:Nat):=wr_succ (by omega)
  obtain ⟨s,o,mk,g1,g2,g3,g4,g5,g6,g7⟩:=hI.lv n r hqn
  simp [L26_0,f0,f1,f21,f22,f23,hs1,k1,hlt,c1,c2]
  refine (get_ptr hP1.ar r (hI.lt (by omega) hqn) (hI.live hqn)).mono ?_
  rintro _ H2 ⟨b1,s',cs1,rfl,z1,z2,z3,S,z4,z5,z6⟩
  rw [g1] at z1
  obtain rfl:s=s':=by simpa using z1
  have hX2:Ext noX H1 H2:=⟨z5,z6,fun c _ _=>by rw [z4]⟩
  have hP2:=hP1.ext hX2
  have hgS:H2.get b1=some (.row 100 16 false cs1):=by rw [z4];exact S.get
  have x1:=(S.co 1 (by omega)).trans g6
  have x4:=(S.co 4 (by omega)).trans g7
  have hg2:=hP2.mt.get
  have s22:SlAt H2 3 1 v2 M.os.length (M.os.map fun n=>.int .i64 (n:Nat)):=by have:=(hP2.mt.sl 2 _ _ v2 (by decide) rfl rfl).1;rw [List.length_map] at this;exact this
  have s32:SlAt H2 2 1 v3 M.ms.length (M.ms.map (.int .i64)):=by have:=(hP2.mt.sl 3 _ _ v3 (by decide) rfl rfl).1;rw [List.length_map] at this;exact this
  obtain ⟨b2,cs2,rfl,d1,d2,d3⟩:=get1 s22 g4
  obtain ⟨b3,cs3,rfl,e1,e2,e3⟩:=get1 s32 g5
  have k2:(n:Int) < (M.os.length:Int):=by omega
  have k3:(n:Int) < (M.ms.length:Int):=by omega
  simp [z5,f0,f1,hgS,x1,x4,hg2,d1,d2,e1,e2,k2,k3,d3,e3,f23,wn]
  exact ⟨m-1,by omega,n+1,by omega,hX.trans hX2,by simp [f0],by simp [f1],by simp [f21],by simp [f22],by simp⟩
 ·have k1:¬ (n:Int) < (M.rs.length:Int):=by omega
  simp [L26_0,f0,f1,f21,f22,f23,hs1,k1]
  exact is_two hP1 hvl0 hI hi hX (by simp [f0]) (by simp [f1])
end Go.AM.YtiolgkhfpnidfaaT
set_option maxRecDepth 100000
namespace Go.AM.YtiolgkhfpnidfaaT
open Go Go.AM Go.Proofs
def K8 (tg:Nat->Nat) (H:Hp) (tg' : Nat->Nat) (H' : Hp):Prop:=H.next<=H'.next/\∀ b,b < H.next->tg b=8->H'.get b=H.get b/\tg' b=8
variable {tg tg' tg'' : Nat->Nat} {H H' H'' : Hp} {a p i:Nat} {R:Nat->Prop} {A:Ar} {M:Mm} {L:List (TypeId×List V)} {vs:List V} {F:Fr}
theorem K8.refl:K8 tg H tg H:=⟨Nat.le_refl _,fun _ _ h=>⟨rfl,h⟩⟩
theorem K8.trans (h:K8 tg H tg' H') (h' : K8 tg' H' tg'' H''):K8 tg H tg'' H'' :=
 ⟨Nat.le_trans h.1 h'.1,fun b hb ht=>by
  obtain ⟨g1,g2⟩:=h.2 b hb ht
  obtain ⟨g3,g4⟩:=h'.2 b (Nat.lt_of_lt_of_le hb h.1) g2
  exact ⟨g3.trans g1,g4⟩⟩
theorem K8.ext (hX:Ext noX H H'):K8 tg H tg H':=⟨hX.le,fun b hb ht=>⟨hX.get b hb fun h=>h,ht⟩⟩
theorem PS.arena8 (h:PS tg H a p R A L vs) (hX:Ext (aR R a) H H'):K8 tg H (fun b=>if H.next<=b then 0 else tg b) H' :=
 ⟨hX.le,fun b hb ht=>⟨hX.get b hb fun hx=>by
  rcases hx with rfl | hx
  ·have:=h.ta;omega
  ·have:=h.tr b hx;omega,by show (if _ then _ else _)=_;rw [if_neg (by omega)];exact ht⟩⟩
theorem PS.back8 {H1 H2:Hp} {L' : List (TypeId×List V)} {vs' : List V} (h:PS tg H a p R A L vs) (h5:S5 tg tg' H H1 L' vs') (hl:H1.next<=H2.next) (hg:∀ c,c≠p->c∉H1.stale->H2.get c=H1.get c):K8 tg H tg' H2 :=
 ⟨by have:=h5.le;omega,fun b hb ht=>by
  have h1:=h5.tk b hb
  have hp:=h.mt.tp
  refine ⟨?_,by rw [h1];exact ht⟩
  rw [hg b (fun e=>by rw [e] at ht;omega) (fun hm=>by have:=h5.st b hm;omega)]
  exact h5.kp b hb (.inr (by omega))⟩
theorem PS.tag8 (h:PS tg H a p R A L vs):PS (fun b=>if H.next<=b then 8 else tg b) H a p R A L vs/\∀ b,b < H.next->(if H.next<=b then 8 else tg b)=tg b:=by
 have key:∀ b,b < H.next->(if H.next<=b then 8 else tg b)=tg b:=fun b hb=>if_neg (by omega)
 refine ⟨⟨h.ar,⟨h.mt.st,h.mt.get,fun k e l v hk h1 h2=>?_,h.mt.lt,(key p h.mt.lt).trans h.mt.tp⟩,fun b hb=>(key b (h.ar.rl b hb)).trans (h.tr b hb),(key a h.ar.lt).trans h.ta⟩,key⟩
 obtain ⟨g1,g2⟩:=h.mt.sl k e l v hk h1 h2
 exact ⟨g1,fun b hb=>⟨(key b (g2 b hb).2).trans (g2 b hb).1,(g2 b hb).2⟩⟩
def DoQ (i a p:Nat) (tg:Nat->Nat) (H:Hp) (w:V) (H' : Hp):Prop :=
 w = .bool true/\∃ tg' R' A' M' vs',PS tg' H' a p R' A' (Mm.ls M') vs'/\vs'.length=5/\PlInv (i+1) A' M'/\K8 tg H tg' H'
structure StepAt (tg:Nat->Nat) (H:Hp) (q:Nat) (d x y:Nat) (z:Int):Prop where
 get:H.get q=some (.row 65 4 false [.int .u8 (d:Nat),.int .u8 (x:Nat),.int .u8 (y:Nat),.int .i8 z])
 lt:q < H.next
 tq:tg q=8
 db:d < 256
 xb:x < 256
 yb:y < 256
 zb : -128<=z/\z < 128
theorem StepAt.keep {q d x y:Nat} {z:Int} (h:StepAt tg H q d x y z) (hK:K8 tg H tg' H'):StepAt tg' H' q d x y z:=by
 obtain ⟨g1,g2⟩:=hK.2 q h.lt h.tq
 exact ⟨g1.trans h.get,by have:=hK.1;have:=h.lt;omega,g2,h.db,h.xb,h.yb,h.zb⟩
def Zdo12:SCode:=.seq (.dreg R25_12) (.ret)
def Zdo0:SCode:=.seq (.seq (.reg R25_9) (.cond (.tmp 65) (.seq (.reg R25_10) (.ret)) (.skip))) (.seq (.dreg R25_11) Zdo12)
theorem wr_i8 {z:Int} (h : -128<=z/\z < 128):wr .i64 z=z:=by rw [wr_eq,IntKind.wrap_i64];omega
theorem tmod12 {z:Int}:(if z < 0 then 0 else z).tmod 12=max (z.tmod 12) 0:=by
 by_cases h:z < 0
 ·obtain ⟨n,rfl⟩:∃ n:Nat,z = -(n:Int):=⟨(-z).toNat,by omega⟩
  rw [if_pos h,Int.neg_tmod,Int.tmod_eq_emod_of_nonneg (show (0:Int)<=(n:Int) by omega)]
  have:(0:Int).tmod 12=0:=rfl
  rw [this];omega
 ·rw [if_neg h,Int.tmod_eq_emod_of_nonneg (by omega)];omega
theorem tmod12_b {z:Int} (h : -128<=z/\z < 128) : -12 < z.tmod 12/\z.tmod 12 < 12:=by
 by_cases h:z < 0
 ·obtain ⟨n,rfl⟩:∃ n:Nat,z = -(n:Int):=⟨(-z).toNat,by omega⟩
  rw [Int.neg_tmod,Int.tmod_eq_emod_of_nonneg (show (0:Int)<=(n:Int) by omega)];omega
 ·rw [Int.tmod_eq_emod_of_nonneg (by omega)];omega
theorem do_0 {q d x y:Nat} {z:Int} {Q:PC} {H0:Hp} {tg0:Nat->Nat} (hP:PS tg H a p R A M.ls vs) (hvl:vs.length=5) (hI:PlInv i A M) (hi:i<=1000) (h0:K8 tg0 H0 tg H) (hq:StepAt tg H q d x y z) (f0:F.get 0=some (.ptr p 0)) (f1:F.get 1=some (.ptr a 0)) (f5:F.get 5=some (.ptr q 0))
  (hQ:∀ w F' H',w = .bool true->F'.get 6=some w->DoQ i a p tg0 H0 w H'->Q .ret F' H'):wp tab Zdo0 F H Q:=by
 have hvl0:=hvl
 obtain ⟨v0,v1,v2,v3,v4,rfl,s0,s1,s2,s3,s4⟩:=hP.parts hvl
 have hs:=hP.mt.st
 have hg:=hP.mt.get
 have hgq:=hq.get
 have hq6:=hI.q6
 have lv:=s0.lenV 3
 have o0:=s0.one;have o1:=s1.one;have o2:=s2.one;have o3:=s3.one;have o4:=s4.one
 have c0:=s0.cells;have c1:=s1.cells;have c2:=s2.cells;have c3:=s3.cells;have c4:=s4.cells
 have wz:=wr_i8 hq.zb
 by_cases h5:5 < M.qs.length
 ·have h5' : (5:Int) < (M.qs.length:Int):=by omega
  simp [Zdo0,f0,hs,hg,lv,o0,h5,h5']
  exact hQ _ _ _ rfl (by simp) ⟨rfl,tg,R,A,M,_,hP,hvl0,hI.next,h0⟩
 ·have h5' : ¬ (5:Int) < (M.qs.length:Int):=by omega
  simp [Zdo0,f0,f1,f5,hs,hg,hgq,lv,o0,h5,h5',wz]
  rw [tmod12]
  have hqb:=tmod12_b hq.zb
  generalize hqv:z.tmod 12=qv at *
  have hrow:∀ b∈rowsOf v0,b < H.next:=fun b hb=>((hP.mt.sl 0 _ _ v0 (by decide) rfl rfl).2 b hb).2
  refine wpD_app1 (H:=H) (e0:=3) (cells:=[.int .i64 (max qv 0)]) (by simp [descOf]) ty3 (by decide) (by simp) (by simp) s0 (fun b hb=>⟨hrow b hb,by simp [hs]⟩) rfl (by show (M.qs.length+1)*8<=_;omega) (by omega) (by simp [hs]) fun v0' H1 hS1 hA1=>?_
  have h5:=(hP.s5.app (k:=0) (e:=3) (l:=M.qs.map (.int .i64)) (v:=v0) rfl rfl (by decide) (by rw [List.length_map];exact hS1) hA1).bump
  have hpn:=hP.mt.lt
  have hg1:H1.get p=some (.row 62 5 false [v0,v1,v2,v3,v4]):=by rw [<- hg];exact h5.kp p hpn (.inr (by rw [hP.mt.tp];omega))
  have hps:p∉H1.stale:=fun hm=>by have:=h5.st p hm;have:=h5.tk p hpn;have:=hP.mt.tp;omega
  have c0':=hS1.cells;have o0':=hS1.one
  simp [f0,hg1,hps,c0',o0',o1,o2,o3,o4]
  generalize hH2:(H1.bump.flush.put p (.row 62 5 false [v0',v1,v2,v3,v4])).bump=H2
  have st2:H2.stale=[]:=by rw [<- hH2];simp
  have g2:∀ c,c≠p->c∉H1.stale->H2.get c=H1.get c:=fun c hc hm=>by rw [<- hH2];simp [Hp.get_put,two_ne hc,Hp.get_flush,hm]
  have eL:(Mm.ls M).set 0 (3,M.qs.map (V.int .i64)++[V.int .i64 (max qv 0)])=Mm.ls { M with qs:=M.qs++[max qv 0] }:=by simp [Mm.ls]
  have hP2:=hP.back h5 st2 (by rw [<- hH2];simp) (by rw [<- hH2];simp) g2
  rw [eL] at hP2
  have hK2:=hP.back8 h5 (by rw [<- hH2];simp) g2
  have hq2:=hq.keep hK2
  have hg2:=hP2.mt.get
  have hgq2:=hq2.get
  simp [Zdo12,f0,f1,f5,st2,hgq2,wz,hqv]
  have hqs:=hI.qs
  refine (owner_ok hP2.ar qv (by omega) (by rw [hqs];omega)).mono ?_
  rintro _ H3 ⟨rfl,hA3,hX3⟩
  have hP3:=hP2.arena hA3 hX3
  have hK3:=hP2.arena8 hX3
  have hg3:=hP3.mt.get
  have lv1:∀ e0,lenV v0' (some (.slice e0))=some (.int .i64 ((M.qs.length:Int)+1)):=fun e0=>by have:=hS1.lenV e0;simpa using this
  have we:(M.qs.length:Int)+1-1=M.qs.length:=by omega
  have wl:wr .i64 (M.qs.length:Int)=(M.qs.length:Int):=by rw [wr_i64 (by omega) (by omega)]
  have ev:=hS1.eqv
  simp [hA3.st,f0,hg3,hg2,lv1,o0',we,wl,hqs,ev]
  have hXb:Ext noX H3 H3.bump:=(Ext.refl hA3.st).bump
  exact hQ _ _ _ rfl (by simp) ⟨rfl,_,_,_,_,_,hP3.ext hXb,rfl,hI.owner (by omega) (by omega),((h0.trans hK2).trans hK3).trans (K8.ext hXb)⟩
end Go.AM.YtiolgkhfpnidfaaT
set_option maxRecDepth 100000
namespace Go.AM.YtiolgkhfpnidfaaT
open Go Go.AM Go.Proofs
variable {tg tg' tg'' : Nat->Nat} {H H' H'' : Hp} {a p i:Nat} {R:Nat->Prop} {A:Ar} {M:Mm} {L:List (TypeId×List V)} {vs:List V} {F:Fr}
theorem PS.upd8 {H2:Hp} (h:PS tg H a p R A L vs) {k:Nat} (hk:k < 5) (hl:H.next<=H2.next) (hg:∀ c,c < H.next->tg c≠k+1->c≠p->H2.get c=H.get c):K8 tg H tg H2 :=
 ⟨hl,fun b hb ht=>⟨hg b hb (by omega) (fun e=>by have:=h.mt.tp;rw [e] at ht;omega),ht⟩⟩
theorem PS.arena' (h:PS tg H a p R A L vs) {H' : Hp} {A' : Ar} (hA:ArAt R H' a A') (hX:Ext (aR R a) H H'):PS tg H' a p R A' L vs/\K8 tg H tg H':=by
 have hle:=hX.le
 have hg:∀ b,b < H.next->tg b≠0->tg b≠7->H'.get b=H.get b:=fun b hb h1 h2=>hX.get b hb fun hx=>by
  rcases hx with rfl | hx
  ·exact h2 h.ta
  ·exact h1 (h.tr b hx)
 have hlp:=h.mt.lt
 have htp:=h.mt.tp
 refine ⟨⟨hA,⟨hX.st,(hg p hlp (by omega) (by omega)).trans h.mt.get,fun k e l v hk h1 h2=>?_,by omega,htp⟩,h.tr,h.ta⟩,hle,fun b hb ht=>⟨hg b hb (by omega) (by omega),ht⟩⟩
 obtain ⟨g1,g2⟩:=h.mt.sl k e l v hk h1 h2
 exact ⟨g1.of_get fun b hb=>hg b (g2 b hb).2 (by have:=(g2 b hb).1;omega) (by have:=(g2 b hb).1;omega),fun b hb=>⟨(g2 b hb).1,by have:=(g2 b hb).2;omega⟩⟩
theorem slot_set {n0:Nat} (hA:ArAt R H n0 A) {s0:Sl} {n j:Nat} (hj:j < 14) (hn:A.slots[n]? = some s0) {b:Nat} {cs:List V} (S1:SlotAt R H n0 A n s0 b cs) {z:V} :
  ArAt R (H.put b (.row 100 16 false (cs.set (n*16+2+j) z))) n0 { A with slots:=A.slots.set n { s0 with o:=s0.o.set j z } }:=by
 have ho:=S1.ol
 obtain ⟨vs,vf,vq,vm,g0,gs,gf,gq,gm,hR,d1,d2,d3⟩:=hA.row
 obtain ⟨vf',vq',vm',g0'⟩:=S1.row
 rw [g0] at g0'
 obtain ⟨rfl,rfl,rfl,rfl⟩:vs = .sl b 0 A.slots.length none 16/\vf=vf'/\vq=vq'/\vm=vm':=by simpa using g0'
 have hba:b≠n0:=fun e=>hA.ra (e ▸ S1.rb)
 have hl:=S1.le
 have hnl:=S1.lt
 have keep:∀ c,c≠b->(H.put b (.row 100 16 false (cs.set (n*16+2+j) z))).get c=H.get c:=fun c hc=>get_put_ne _ hc
 have bmem:b∈rowsOf (.sl b 0 A.slots.length none 16):=by simp [rowsOf]
 refine ⟨hA.st,⟨_,_,_,_,(keep n0 (Ne.symm hba)).trans g0,?_,gf.of_get fun c hc=>keep c fun e=>(d1 b bmem).1 (e ▸ hc),gq.of_get fun c hc=>keep c fun e=>(d1 b bmem).2.1 (e ▸ hc),gm.of_get fun c hc=>keep c fun e=>(d1 b bmem).2.2 (e ▸ hc),hR,d1,d2,d3⟩,hA.lt,hA.rl,hA.ra,?_,hA.qm,by have:=hA.big;simpa using this⟩
 ·have hw:=slot_write (s':={ s0 with o:=s0.o.set j z }) (cs':=cs.set (n*16+2+j) z) hA.o14 S1.eq hnl (by simpa using ho) (fun q hq=>by rw [List.getElem?_set_ne (by omega)]) fun q hq=>?_
  ·show SlAt _ 100 16 _ (A.slots.set n _).length ((A.slots.set n _).flatMap Sl.cs)
   rw [<- hw,List.length_set]
   exact SlAt.row _ _ _ (get_put_self _ _ _) (by rw [List.length_set];exact hl)
  ·match q,hq with
   | 0,_=>rw [List.getElem?_set_ne (by omega)];exact S1.c0
   | 1,_=>rw [List.getElem?_set_ne (by omega)];exact S1.c1
   | q+2,hq =>
    show _=(s0.o.set j z)[q]?
    by_cases h5:q=j
    ·subst h5;rw [show n*16+(q+2)=n*16+2+q by omega,List.getElem?_set_self (by omega),List.getElem?_set_self (by omega)]
    ·rw [List.getElem?_set_ne (by omega),List.getElem?_set_ne (fun e=>h5 e.symm),show n*16+(q+2)=n*16+2+q by omega];exact S1.co q (by omega)
 ·intro s hs
  rcases List.mem_or_eq_of_mem_set hs with h' | rfl
  ·exact hA.o14 s h'
  ·simpa using ho
def Zdo3:SCode:=.seq (.reg R25_2) (.cond (.tmp 22) (.seq (.dreg R25_3) (.seq (.reg R25_4) (.seq (.seq (.reg R25_5) (.cond (.tmp 42) (.seq (.reg R25_6) (.ret)) (.skip))) (.dreg R25_7)))) (.skip))
theorem do_3 {q d x y:Nat} {z:Int} {Q:PC} {H0:Hp} {tg0:Nat->Nat} (hP:PS tg H a p R A M.ls vs) (hvl:vs.length=5) (hI:PlInv i A M) (hi:i<=1000) (h0:K8 tg0 H0 tg H) (hq:StepAt tg H q d x y z) (f0:F.get 0=some (.ptr p 0)) (f1:F.get 1=some (.ptr a 0)) (f5:F.get 5=some (.ptr q 0))
  (hQ:∀ F' H',DoQ i a p tg0 H0 (.bool true) H'->Q .nrm F' H'):wp tab Zdo3 F H Q:=by
 have hvl0:=hvl
 obtain ⟨v0,v1,v2,v3,v4,rfl,s0,s1,s2,s3,s4⟩:=hP.parts hvl
 have hs:=hP.mt.st
 have hg:=hP.mt.get
 have hgq:=hq.get
 have lv:=s1.lenV 29
 have o0:=s0.one;have o1:=s1.one;have o2:=s2.one;have o3:=s3.one;have o4:=s4.one
 have wz:=wr_i8 hq.zb
 have hlr:=hI.lr;have hlm:=hI.lm
 by_cases hz:M.rs.length=0
 ·have hz' : ¬ (0:Int) < (M.rs.length:Int):=by omega
  simp [Zdo3,f0,hs,hg,lv,o1,hz,hz']
  exact hQ _ _ ⟨rfl,tg,R,A,M,_,hP,hvl0,hI.next,h0⟩
 ·have hz' : (0:Int) < (M.rs.length:Int):=by omega
  have hz'' : 0 < M.rs.length:=by omega
  have hk:x % M.rs.length < M.rs.length:=Nat.mod_lt _ hz''
  have hkr:=List.getElem?_eq_getElem hk
  generalize M.rs[x % M.rs.length]=r at hkr
  have t1:(x:Int).tmod (M.rs.length:Int)=((x % M.rs.length:Nat):Int):=by rw [Int.tmod_eq_emod_of_nonneg (by omega)];rfl
  have wx:wr .i64 (x:Int)=(x:Int):=by have:=hq.xb;rw [wr_i64 (by omega) (by omega)]
  generalize x % M.rs.length=k at *
  have k1:(k:Int) < (M.rs.length:Int):=by omega
  obtain ⟨b,cs,rfl,d1,d2,-⟩:=get1 s1 hkr
  simp [Zdo3,f0,f1,f5,hs,hg,hgq,lv,o1,hz,hz',hz'',t1,wx,k1,hk,d1,d2]
  refine (get_ptr hP.ar r (hI.lt (by omega) hkr) (hI.live hkr)).mono ?_
  rintro _ H1 ⟨b1,s,cs1,rfl,z1,z2,z3,S,z4,z5,z6⟩
  have hX1:Ext noX H H1:=⟨z5,z6,fun c _ _=>by rw [z4]⟩
  have hP1:=hP.ext hX1
  have hK1:K8 tg H tg H1:=K8.ext hX1
  have hq1:=hq.keep hK1
  have hgS:H1.get b1=some (.row 100 16 false cs1):=by rw [z4];exact S.get
  have S1:SlotAt R H1 a A (slotN r) s b1 cs1:=⟨by rw [z4];exact S.row,hgS,S.le,S.eq,S.rb,S.lt,S.c0,S.c1,S.co,S.ol⟩
  have hg1:=hP1.mt.get
  have hgq1:=hq1.get
  have hkm:k < M.ms.length:=by omega
  have hkx:=List.getElem?_eq_getElem hkm
  obtain ⟨s31,r3⟩:=hP1.mt.sl 3 _ _ v3 (by decide) rfl rfl
  have s31:SlAt H1 2 1 v3 M.ms.length (M.ms.map (.int .i64)):=by rw [List.length_map] at s31;exact s31
  obtain ⟨b3,cs3,rfl,e1,e2,e3⟩:=get1 s31 hkx
  have k3:(k:Int) < (M.ms.length:Int):=by omega
  have hr3:=r3 b3 (by simp [rowsOf])
  have hb13:b3≠b1:=fun e=>by have:=hP1.tr b1 S.rb;have:=hr3.1;rw [e] at this;omega
  have hbp1:b1≠p:=fun e=>by have:=hP1.tr b1 S.rb;have:=hP1.mt.tp;rw [e] at *;omega
  have hbq1:q≠b1:=fun e=>by have:=hP1.tr b1 S.rb;have:=hq1.tq;rw [e] at this;omega
  have hSl:=S.le;have hSn:=S.lt
  have j4:slotN r*16+2+4+1<=cs1.length:=by omega
  have s3r:=sl_inv s31
  have hcl3:M.ms.length<=cs3.length:=by
   rcases s3r with ⟨h1,-⟩ | ⟨b',cs',h1,h2,h3,-⟩
   ·cases h1
   ·simp at h1;subst h1
    rw [e1] at h2
    simp at h2;subst h2
    omega
  have j3:k+1<=cs3.length:=by omega
  simp [z5,f0,f1,f5,hg1,hgS,hgq1,e1,k3,hkm,j4,j3,wz,Hp.get_put,two_ne hb13,two_ne hbp1,two_ne hbq1]
  refine ⟨by simp [eqV],hQ _ _ ?_⟩
  have hA2:=slot_set hP1.ar (j:=4) (by decide) z1 S1 (z:=.int .i64 z)
  obtain ⟨hP2,hK2⟩:=hP1.arena' hA2 (Ext.put z5 _ (.inr S.rb))
  generalize hH2:H1.put b1 (.row 100 16 false (cs1.set (slotN r*16+2+4) (.int .i64 z)))=H2 at *
  have hXb:Ext noX H2 H2.bump:=(Ext.refl hP2.mt.st).bump
  have hP2b:=hP2.ext hXb
  have n2:H2.next=H1.next:=by rw [<- hH2];rfl
  have hb32:H2.bump.get b3=some (.row 2 1 false cs3):=by
   show H2.get b3=_
   rw [<- hH2,get_put_ne _ hb13];exact e1
  have htk:cs3.take M.ms.length=M.ms.map (.int .i64):=by
   rcases s3r with ⟨h1,-⟩ | ⟨b',cs',h1,h2,h3,h4⟩
   ·cases h1
   ·simp at h1;subst h1
    rw [e1] at h2
    simp at h2;subst h2
    simpa using h4
  have hgc:∀ c,c≠b3->(H2.bump.put b3 (.row 2 1 false (cs3.set k (.int .i64 z)))).get c=H2.bump.get c:=fun c hc=>get_put_ne _ hc
  have hb3p:p≠b3:=fun e=>by have:=hP1.mt.tp;have:=hr3.1;rw [e] at *;omega
  have hP3:=hP2b.upd (k:=3) (e:=2) (e':=2) (l:=M.ms.map (.int .i64)) (l':=(M.ms.set k z).map (.int .i64)) (v:=.sl b3 0 M.ms.length none 1) (v':=.sl b3 0 M.ms.length none 1) (H2:=H2.bump.put b3 (.row 2 1 false (cs3.set k (.int .i64 z)))) (by decide) rfl rfl hP2b.mt.st (Nat.le_refl _)
   (by rw [hgc p hb3p];exact hP2b.mt.get) (fun c _ ht _=>hgc c fun e=>by rw [e,hr3.1] at ht;omega) ?_ (fun c hc=>by simp [rowsOf] at hc;rw [hc];exact ⟨hr3.1,by show b3 < H2.next+1;have:=hr3.2;omega⟩)
  rotate_left
  ·have:=SlAt.row (H:=H2.bump.put b3 (.row 2 1 false (cs3.set k (.int .i64 z)))) (sz:=1) b3 M.ms.length _ (get_put_self _ _ _) (by simp;omega)
   rw [Nat.mul_one,List.take_set,htk,<- List.map_set] at this
   simpa using this
  have hK3:=hP2b.upd8 (k:=3) (H2:=H2.bump.put b3 (.row 2 1 false (cs3.set k (.int .i64 z)))) (by decide) (Nat.le_refl _) (fun c _ ht _=>hgc c fun e=>by rw [e,hr3.1] at ht;omega)
  have hXc:Ext noX (H2.bump.put b3 (.row 2 1 false (cs3.set k (.int .i64 z)))) (H2.bump.put b3 (.row 2 1 false (cs3.set k (.int .i64 z)))).bump:=(Ext.refl hP3.mt.st).bump
  have eL:(Mm.ls M).set 3 (2,(M.ms.set k z).map (V.int .i64))=Mm.ls { M with ms:=M.ms.set k z }:=by simp [Mm.ls]
  rw [eL] at hP3
  exact ⟨rfl,tg,R,_,_,_,hP3.ext hXc,rfl,hI.mark hkr z1 hq.zb,(((((h0.trans hK1).trans hK2).trans (K8.ext hXb)).trans hK3).trans (K8.ext hXc))⟩
end Go.AM.YtiolgkhfpnidfaaT
set_option maxRecDepth 100000
namespace Go.AM.YtiolgkhfpnidfaaT
open Go Go.AM Go.Proofs
variable {tg tg' tg'' : Nat->Nat} {H H' H'' : Hp} {a p i:Nat} {R:Nat->Prop} {A:Ar} {M:Mm} {L:List (TypeId×List V)} {vs:List V} {F:Fr}
theorem del_gen {α:Type} {f:FuncId} {fn:Func} {kd:IntKind} {te:TypeId} (h0:tab.ext f=some (delE kd te)) (h1:tab.fn f=some fn) (h2:fn.body.isSome=true) {g:α->V} (hgk:∀ x,isK kd (g x)=true) {b j n:Nat} {cs:List V} {l:List α} (hs:H.stale=[]) (hg:H.get b=some (.row te 1 false cs)) (hn:n<=cs.length) (hc:cs.take n=l.map g) (hj:j < n) :
  WF tab f [.sl b 0 n none 1,.int .i64 (j:Nat),.int .i64 ((j:Int)+1)] H fun w H'=>w = .sl b 0 (n-1) none 1/\H' = H.put b (.row te 1 false ((l.eraseIdx j).map g++[.int kd 0]++cs.drop n)):=by
 have hall:(cs.take n).all (isK kd)=true:=by rw [hc,List.all_eq_true];intro x hx;obtain ⟨y,-,rfl⟩:=List.mem_map.1 hx;exact hgk y
 have hE:delE kd te [.sl b 0 n none 1,.int .i64 (j:Nat),.int .i64 ((j:Int)+1)] H=some (.sl b 0 (n-1) none 1,H.put b (.row te 1 false ((l.eraseIdx j).map g++[.int kd 0]++cs.drop n))):=by
  have e1:((j:Int)+1).toNat=j+1:=by omega
  have e2:(j:Int).toNat=j:=by omega
  have c1:(0:Int)<=(j:Int):=by omega
  have c2:(j:Int) < (j:Int)+1:=by omega
  have c3:(j:Int)+1<=(n:Int):=by omega
  have e3:j+1-j=1:=by omega
  simp only [delE,hs,hg,hall,c1,c2,c3,hn,e1,e2,e3,and_self,if_true]
  rw [hc,<- List.map_take,<- List.map_drop,<- List.map_append,List.eraseIdx_eq_take_drop_succ]
  rfl
 exact wf_told h0 h1 h2 hE ⟨rfl,rfl⟩
def Zdo33:SCode:=.dreg R25_33
def Zdo32:SCode:=.seq (.dreg R25_32) Zdo33
def Zdo29:SCode:=.seq (.dreg R25_29) (.seq (.reg R25_30) (.seq (.reg R25_31) Zdo32))
def Zdo26:SCode:=.seq (.reg R25_26) (.cond (.tmp 231) (.reg R25_27) (.skip))
def Zdo2:SCode:=.seq (.seq (.reg R25_24) (.cond (.tmp 216) (.seq (.seq (.reg R25_25) Zdo26) (.seq (.reg R25_28) (.ret))) (.skip))) Zdo29
theorem do_2a {q d x y:Nat} {z:Int} {Q:PC} {H0:Hp} {tg0:Nat->Nat} (hP:PS tg H a p R A M.ls vs) (hvl:vs.length=5) (hI:PlInv i A M) (hi:i<=1000) (h0:K8 tg0 H0 tg H) (hq:StepAt tg H q d x y z) (f0:F.get 0=some (.ptr p 0)) (f1:F.get 1=some (.ptr a 0)) (f5:F.get 5=some (.ptr q 0))
  (hno:M.rs.length=0\/y % 5=0)
  (hQ:∀ w F' H',w = .bool true->F'.get 6=some w->DoQ i a p tg0 H0 w H'->Q .ret F' H'):wp tab Zdo2 F H Q:=by
 have hvl0:=hvl
 obtain ⟨v0,v1,v2,v3,v4,rfl,s0,s1,s2,s3,s4⟩:=hP.parts hvl
 have hs:=hP.mt.st
 have hg:=hP.mt.get
 have hgq:=hq.get
 have lv:=s1.lenV 29
 have o1:=s1.one
 have hxb:=hq.xb;have hyb:=hq.yb
 have hlr:=hI.lr
 have w1:wr .u32 (x:Int)=(x:Int):=by rw [wr_u32 (by omega) (by omega)]
 have w2:wr .u32 (y:Int)=(y:Int):=by rw [wr_u32 (by omega) (by omega)]
 have w3:wr .u32 ((y:Int)+9)=((y+9:Nat):Int):=by rw [wr_u32 (by omega) (by omega)];omega
 have hof:=of_ok hs x (y+9) (by omega) (by omega)
 have hr64:(y+9)*4294967296+x < 18446744073709551616:=by omega
 generalize (y+9)*4294967296+x=r at hof hr64
 have fin:∀ (F' : Fr),F'.get 0=some (.ptr p 0)->F'.get 1=some (.ptr a 0)->F'.get 10=some (rf r)->wp tab Zdo26 F' H (sqQ tab (.seq (.reg R25_28) (.ret)) (sqQ tab Zdo29 Q)):=fun F' e0 e1 e10=>by
  simp [Zdo26,e0,e1,e10,hs,hg,o1]
  refine (contains_ok hs s1 r (by omega)).mono ?_
  rintro _ H1 ⟨rfl,rfl⟩
  by_cases hm:r∈M.rs
  ·simp [hm,hs,e0,e1]
   exact hQ _ _ _ rfl (by simp) ⟨rfl,tg,R,A,M,_,hP,hvl0,hI.next,h0⟩
  ·simp [hm,hs,e0,e1,e10,rf]
   refine (drop_nil hP.ar r hr64 (hI.dead hm)).mono ?_
   rintro _ H2 hX2
   simp [hX2.st]
   exact hQ _ _ _ rfl (by simp) ⟨rfl,tg,R,A,M,_,hP.ext hX2,hvl0,hI.next,h0.trans (K8.ext hX2)⟩
 by_cases hz:M.rs.length=0
 ·simp [Zdo2,f0,f5,hs,hg,hgq,lv,o1,hz,w1,w2,w3]
  refine hof.mono ?_
  rintro _ H1 ⟨rfl,rfl⟩
  simp [hs]
  exact fin _ (by simp [f0]) (by simp [f1]) (by simp [rf])
 ·have hy5:y % 5=0:=hno.resolve_left hz
  have hzb:((M.rs.length:Int)==0)=false:=beq_eq_false_iff_ne.2 (by omega)
  have t5:(y:Int).tmod 5=0:=by rw [Int.tmod_eq_emod_of_nonneg (by omega)];omega
  simp [Zdo2,f0,f5,hs,hg,hgq,lv,o1,hzb,t5,w1,w2,w3]
  refine hof.mono ?_
  rintro _ H1 ⟨rfl,rfl⟩
  simp [hs]
  exact fin _ (by simp [f0]) (by simp [f1]) (by simp [rf])
theorem PS.del {α:Type} (h:PS tg H a p R A L vs) {j q n b:Nat} {e:TypeId} {g:α->V} {l:List α} {zv:V} {cs:List V} (hj:j < 5) (hL:L[j]? = some (e,l.map g)) (hv:vs[j]? = some (.sl b 0 n none 1)) (hn:l.length=n) (hq:q < n) (hb:H.get b=some (.row e 1 false cs)) :
  PS tg (H.put b (.row e 1 false ((l.eraseIdx q).map g++[zv]++cs.drop n))) a p R A (L.set j (e,(l.eraseIdx q).map g++[zv])) vs/\K8 tg H tg (H.put b (.row e 1 false ((l.eraseIdx q).map g++[zv]++cs.drop n)))/\tg b=j+1/\b < H.next:=by
 obtain ⟨s,r⟩:=h.mt.sl j _ _ _ hj hL hv
 obtain ⟨t1,t2⟩:=r b (by simp [rowsOf])
 have hbp:p≠b:=fun e=>by have:=h.mt.tp;rw [e,t1] at this;omega
 have hel:(l.eraseIdx q).length=n-1:=by rw [List.length_eraseIdx,if_pos (by omega),hn]
 have hvs:vs.set j (.sl b 0 n none 1)=vs:=by
  apply List.ext_getElem?
  intro t
  by_cases ht:j=t
  ·subst ht;rw [List.getElem?_set_self (List.getElem?_eq_some_iff.1 hv).1,hv]
  ·rw [List.getElem?_set_ne ht]
 have hgc:∀ c,c < H.next->tg c≠j+1->c≠p->(H.put b (.row e 1 false ((l.eraseIdx q).map g++[zv]++cs.drop n))).get c=H.get c:=fun c _ hc _=>get_put_ne _ fun e=>hc (by rw [e];exact t1)
 have hu:=h.upd (k:=j) (e':=e) (l':=(l.eraseIdx q).map g++[zv]) (v':=.sl b 0 n none 1) (H2:=H.put b (.row e 1 false ((l.eraseIdx q).map g++[zv]++cs.drop n))) hj hL hv h.mt.st (Nat.le_refl _) (by rw [hvs,get_put_ne _ hbp];exact h.mt.get) hgc ?_ (fun c hc=>by simp [rowsOf] at hc;rw [hc];exact ⟨t1,t2⟩)
 ·rw [hvs] at hu
  exact ⟨hu,h.upd8 hj (Nat.le_refl _) hgc,t1,t2⟩
 ·have hll:((l.eraseIdx q).map g++[zv]).length=n:=by simp [hel];omega
  have:=SlAt.row (H:=H.put b (.row e 1 false ((l.eraseIdx q).map g++[zv]++cs.drop n))) (sz:=1) b n _ (get_put_self _ _ _) (by rw [List.length_append,hll];omega)
  rw [Nat.mul_one,List.take_left' hll] at this
  rw [hll];exact this
theorem PS.cut {α:Type} (h:PS tg H a p R A L vs) {j n b:Nat} {e:TypeId} {g:α->V} {l:List α} {zv:V} (hj:j < 5) (hL:L[j]? = some (e,l.map g++[zv])) (hv:vs[j]? = some (.sl b 0 n none 1)) (hn:l.length+1=n) :
  PS tg (H.put p (.row 62 5 false (vs.set j (.sl b 0 (n-1) none 1)))) a p R A (L.set j (e,l.map g)) (vs.set j (.sl b 0 (n-1) none 1))/\K8 tg H tg (H.put p (.row 62 5 false (vs.set j (.sl b 0 (n-1) none 1)))):=by
 obtain ⟨s,r⟩:=h.mt.sl j _ _ _ hj hL hv
 obtain ⟨t1,t2⟩:=r b (by simp [rowsOf])
 have hbp:b≠p:=fun e=>by have:=h.mt.tp;rw [<- e,t1] at this;omega
 have hgc:∀ c,c < H.next->tg c≠j+1->c≠p->(H.put p (.row 62 5 false (vs.set j (.sl b 0 (n-1) none 1)))).get c=H.get c:=fun c _ _ hc=>get_put_ne _ hc
 refine ⟨h.upd (k:=j) (e':=e) (l':=l.map g) (v':=.sl b 0 (n-1) none 1) (H2:=H.put p (.row 62 5 false (vs.set j (.sl b 0 (n-1) none 1)))) hj hL hv h.mt.st (Nat.le_refl _) (get_put_self _ _ _) hgc ?_ (fun c hc=>by simp [rowsOf] at hc;rw [hc];exact ⟨t1,t2⟩),h.upd8 hj (Nat.le_refl _) hgc⟩
 rcases sl_inv s with ⟨h1,-⟩ | ⟨b',cs,h1,h2,h3,h4⟩
 ·cases h1
 ·simp at h1
  obtain ⟨rfl,-⟩:=h1
  have:=SlAt.row (H:=H.put p (.row 62 5 false (vs.set j (.sl b 0 (n-1) none 1)))) (sz:=1) b (n-1) cs (by rw [get_put_ne _ hbp];exact h2) (by simp at h3;omega)
  have e2:cs.take ((n-1)*1)=l.map g:=by
   have e3:cs.take ((n-1)*1)=(cs.take ((l.map g++[zv]).length*1)).take (n-1):=by rw [List.take_take];congr 1;simp;omega
   rw [e3,h4,List.take_left' (by simp;omega)]
  rw [e2] at this
  rw [List.length_map]
  rw [show l.length=n-1 by omega]
  exact this
theorem row_of {v:V} {n:Nat} {e:TypeId} {l:List V} (h:SlAt H e 1 v n l) (hn:0 < n):∃ b cs,v = .sl b 0 n none 1/\H.get b=some (.row e 1 false cs)/\n<=cs.length/\cs.take n=l:=by
 obtain ⟨b,cs,h1,h2,h3,h4⟩:=sl_open h hn
 exact ⟨b,cs,h1,h2,by omega,by rw [<- h4,Nat.mul_one]⟩
theorem do_33 {k:Nat} {Q:PC} {H0:Hp} {tg0:Nat->Nat} (hP:PS tg H a p R A M.ls vs) (hvl:vs.length=5) (hk:k < M.rs.length) (ho:M.os.length=M.rs.length) (hm:M.ms.length=M.rs.length) (hl:M.rs.length<=1000) (h0:K8 tg0 H0 tg H)
  (hI:PlInv (i+1) A { qs:=M.qs,rs:=M.rs.eraseIdx k,os:=M.os.eraseIdx k,ms:=M.ms.eraseIdx k,gs:=M.gs }) (f0:F.get 0=some (.ptr p 0)) (f11:F.get 11=some (.int .i64 (k:Nat)))
  (hQ:∀ F' H',DoQ i a p tg0 H0 (.bool true) H'->Q .nrm F' H'):wp tab Zdo33 F H Q:=by
 obtain ⟨v0,v1,v2,v3,v4,rfl,s0,s1,s2,s3,s4⟩:=hP.parts hvl
 have hs:=hP.mt.st
 have hg:=hP.mt.get
 have o0:=s0.one;have o4:=s4.one
 generalize hn:M.rs.length=n at *
 rw [ho] at s2;rw [hm] at s3
 obtain ⟨b1,cs1,rfl,c1,l1,t1⟩:=row_of (show SlAt H 29 1 v1 n (M.rs.map rf) by rw [<- hn];exact s1) (by omega)
 obtain ⟨b2,cs2,rfl,c2,l2,t2⟩:=row_of s2 (by omega)
 obtain ⟨b3,cs3,rfl,c3,l3,t3⟩:=row_of s3 (by omega)
 have wk:wr .i64 ((k:Int)+1)=(k:Int)+1:=by rw [wr_i64 (by omega) (by omega)]
 simp [Zdo33,f0,f11,hs,hg,wk]
 refine (del_gen (Eq.trans rfl rfl) fn24 rfl (g:=rf) (fun _=>rfl) hs c1 l1 t1 hk).mono ?_
 rintro _ H1 ⟨rfl,rfl⟩
 obtain ⟨hP1,hK1,tb1,lb1⟩:=hP.del (j:=1) (q:=k) (e:=29) (g:=rf) (l:=M.rs) (zv:=.int .u64 0) (by decide) rfl rfl hn hk c1
 have x2:b2≠b1:=fun e=>by have:=((hP.mt.sl 2 _ _ _ (by decide) rfl rfl).2 b2 (by simp [rowsOf])).1;rw [e] at this;omega
 have x3:b3≠b1:=fun e=>by have:=((hP.mt.sl 3 _ _ _ (by decide) rfl rfl).2 b3 (by simp [rowsOf])).1;rw [e] at this;omega
 have x23:b3≠b2:=fun e=>by have h1:=((hP.mt.sl 3 _ _ _ (by decide) rfl rfl).2 b3 (by simp [rowsOf])).1;have h2:=((hP.mt.sl 2 _ _ _ (by decide) rfl rfl).2 b2 (by simp [rowsOf])).1;rw [e] at h1;omega
 have c2':=(get_put_ne (.row 29 1 false (((M.rs.eraseIdx k).map rf)++[.int .u64 0]++cs1.drop n)) x2:(H.put b1 _).get b2=H.get b2).trans c2
 have c3':=(get_put_ne (.row 29 1 false (((M.rs.eraseIdx k).map rf)++[.int .u64 0]++cs1.drop n)) x3:(H.put b1 _).get b3=H.get b3).trans c3
 generalize hH1:H.put b1 (.row 29 1 false (((M.rs.eraseIdx k).map rf)++[.int .u64 0]++cs1.drop n))=H1 at *
 have hg1:=hP1.mt.get
 have hX1:Ext noX H1 H1.bump:=(Ext.refl hP1.mt.st).bump
 have hP1b:=hP1.ext hX1
 have ev:∀ b,eqV (V.sl b 0 n none 1) (V.sl b 0 n none 1)=true:=fun b=>by simp [eqV]
 simp [hP1.mt.st,f0,f11,hg1,hg,wk,ev]
 refine (del_gen (Eq.trans rfl rfl) fn49 rfl (g:=fun (n:Nat)=>V.int .i64 (n:Int)) (fun _=>rfl) hP1b.mt.st (show H1.bump.get b2=_ from c2') l2 t2 hk).mono ?_
 rintro _ H2 ⟨rfl,rfl⟩
 obtain ⟨hP2,hK2,-,-⟩:=hP1b.del (j:=2) (q:=k) (e:=3) (g:=fun (n:Nat)=>V.int .i64 (n:Int)) (l:=M.os) (zv:=.int .i64 0) (by decide) rfl rfl ho hk (show H1.bump.get b2=_ from c2')
 have c3'':=(get_put_ne (.row 3 1 false (((M.os.eraseIdx k).map fun (n:Nat)=>V.int .i64 (n:Int))++[.int .i64 0]++cs2.drop n)) x23:(H1.bump.put b2 _).get b3=H1.bump.get b3).trans c3'
 generalize hH2:H1.bump.put b2 (.row 3 1 false (((M.os.eraseIdx k).map fun (n:Nat)=>V.int .i64 (n:Int))++[.int .i64 0]++cs2.drop n))=H2 at *
 have hg2:=hP2.mt.get
 have hX2:Ext noX H2 H2.bump:=(Ext.refl hP2.mt.st).bump
 have hP2b:=hP2.ext hX2
 simp [hP2.mt.st,f0,f11,hg1,hg,hg2,wk,ev]
 refine (del_gen (Eq.trans rfl rfl) fn50 rfl (g:=V.int .i64) (fun _=>rfl) hP2b.mt.st (show H2.bump.get b3=_ from c3'') l3 t3 hk).mono ?_
 rintro _ H3 ⟨rfl,rfl⟩
 obtain ⟨hP3,hK3,-,-⟩:=hP2b.del (j:=3) (q:=k) (e:=2) (g:=V.int .i64) (l:=M.ms) (zv:=.int .i64 0) (by decide) rfl rfl hm hk (show H2.bump.get b3=_ from c3'')
 generalize hH3:H2.bump.put b3 (.row 2 1 false ((M.ms.eraseIdx k).map (V.int .i64)++[.int .i64 0]++cs3.drop n))=H3 at *
 have hg3:=hP3.mt.get
 have hX3:Ext noX H3 H3.bump:=(Ext.refl hP3.mt.st).bump
 have hP3b:=hP3.ext hX3
 have lr:(M.rs.eraseIdx k).length+1=n:=by rw [List.length_eraseIdx,if_pos (by omega)];omega
 have lo:(M.os.eraseIdx k).length+1=n:=by rw [List.length_eraseIdx,if_pos (by omega)];omega
 have lm:(M.ms.eraseIdx k).length+1=n:=by rw [List.length_eraseIdx,if_pos (by omega)];omega
 obtain ⟨hP4,hK4⟩:=hP3b.cut (j:=1) (e:=29) (g:=rf) (l:=M.rs.eraseIdx k) (zv:=.int .u64 0) (by decide) rfl rfl lr
 have hX4:=(Ext.refl (X:=noX) hP4.mt.st).bump
 have hP4b:=hP4.ext hX4
 obtain ⟨hP5,hK5⟩:=hP4b.cut (j:=2) (e:=3) (g:=fun (n:Nat)=>V.int .i64 (n:Int)) (l:=M.os.eraseIdx k) (zv:=.int .i64 0) (by decide) rfl rfl lo
 have hX5:=(Ext.refl (X:=noX) hP5.mt.st).bump
 have hP5b:=hP5.ext hX5
 obtain ⟨hP6,hK6⟩:=hP5b.cut (j:=3) (e:=2) (g:=V.int .i64) (l:=M.ms.eraseIdx k) (zv:=.int .i64 0) (by decide) rfl rfl lm
 have hX6:=(Ext.refl (X:=noX) hP6.mt.st).bump
 have hP6b:=hP6.ext hX6
 simp [hP3.mt.st,f0,f11,hg3,o0,o4]
 exact hQ _ _ ⟨rfl,tg,R,A,⟨M.qs,M.rs.eraseIdx k,M.os.eraseIdx k,M.ms.eraseIdx k,M.gs⟩,[v0,.sl b1 0 (n-1) none 1,.sl b2 0 (n-1) none 1,.sl b3 0 (n-1) none 1,v4],(by exact hP6b),rfl,hI,
  ((((((((((((h0.trans hK1).trans (K8.ext hX1)).trans hK2).trans (K8.ext hX2)).trans hK3).trans (K8.ext hX3)).trans hK4).trans (K8.ext hX4)).trans hK5).trans (K8.ext hX5)).trans hK6).trans (K8.ext hX6))⟩
theorem do_32 {k r:Nat} {Q:PC} {H0:Hp} {tg0:Nat->Nat} {A' : Ar} (hP:PS tg H a p R A' M.ls vs) (hvl:vs.length=5) (hk:M.rs[k]? = some r) (ho:M.os.length=M.rs.length) (hm:M.ms.length=M.rs.length) (hl:M.rs.length<=1000) (hlg:M.gs.length<=1000) (h0:K8 tg0 H0 tg H)
  (hI:PlInv (i+1) A' { qs:=M.qs,rs:=M.rs.eraseIdx k,os:=M.os.eraseIdx k,ms:=M.ms.eraseIdx k,gs:=M.gs++[r] }) (f0:F.get 0=some (.ptr p 0)) (f11:F.get 11=some (.int .i64 (k:Nat)))
  (hQ:∀ F' H',DoQ i a p tg0 H0 (.bool true) H'->Q .nrm F' H'):wp tab Zdo32 F H Q:=by
 obtain ⟨v0,v1,v2,v3,v4,rfl,s0,s1,s2,s3,s4⟩:=hP.parts hvl
 have hs:=hP.mt.st
 have hg:=hP.mt.get
 have o0:=s0.one;have o1:=s1.one;have o2:=s2.one;have o3:=s3.one;have o4:=s4.one
 have hkl:=(List.getElem?_eq_some_iff.1 hk).1
 obtain ⟨b1,cs1,rfl,d1,d2,-⟩:=get1 s1 hk
 have k1:(k:Int) < (M.rs.length:Int):=by omega
 have wk:wr .i64 ((k:Int)+1)=(k:Int)+1:=by rw [wr_i64 (by omega) (by omega)]
 have hrow:∀ b∈rowsOf v4,b < H.next:=fun b hb=>((hP.mt.sl 4 _ _ v4 (by decide) rfl rfl).2 b hb).2
 have d2' : cs1[k]? = some (.int .u64 (r:Nat)):=d2
 simp [Zdo32,f0,f11,hs,hg,o1,k1,hkl,d1,d2']
 refine wpD_app1 (H:=H) (e0:=29) (cells:=[rf r]) (by simp [descOf]) ty29 (by decide) (by simp) (by simp) s4 (fun b hb=>⟨hrow b hb,by simp [hs]⟩) rfl (by show (M.gs.length+1)*8<=_;omega) (by omega) (by simp [hs]) fun v4' H1 hS1 hA1=>?_
 have h5:=(hP.s5.app (k:=4) (e:=29) (l:=M.gs.map rf) (v:=v4) rfl rfl (by decide) (by rw [List.length_map];exact hS1) hA1).bump
 have hpn:=hP.mt.lt
 have hg1:H1.get p=some (.row 62 5 false [v0,.sl b1 0 M.rs.length none 1,v2,v3,v4]):=by rw [<- hg];exact h5.kp p hpn (.inr (by rw [hP.mt.tp];omega))
 have hps:p∉H1.stale:=fun hm=>by have:=h5.st p hm;have:=h5.tk p hpn;have:=hP.mt.tp;omega
 have c4':=hS1.cells;have o4':=hS1.one
 simp [f0,hg1,hps,c4',o4',o1,o2,o3,o0]
 generalize hH2:(H1.bump.flush.put p (.row 62 5 false [v0,.sl b1 0 M.rs.length none 1,v2,v3,v4'])).bump=H2
 have st2:H2.stale=[]:=by rw [<- hH2];simp
 have g2:∀ c,c≠p->c∉H1.stale->H2.get c=H1.get c:=fun c hc hm=>by rw [<- hH2];simp [Hp.get_put,two_ne hc,Hp.get_flush,hm]
 have hP2:=hP.back h5 st2 (by rw [<- hH2];simp) (by rw [<- hH2];simp) g2
 have hK2:=hP.back8 h5 (by rw [<- hH2];simp) g2
 have eL:(Mm.ls M).set 4 (29,M.gs.map rf++[rf r])=Mm.ls { M with gs:=M.gs++[r] }:=by simp [Mm.ls]
 rw [eL] at hP2
 exact do_33 (M:={ M with gs:=M.gs++[r] }) hP2 rfl hkl ho hm hl (h0.trans hK2) hI (by simp [f0]) (by simp [f11]) hQ
theorem do_2b {q d x y:Nat} {z:Int} {Q:PC} {H0:Hp} {tg0:Nat->Nat} (hP:PS tg H a p R A M.ls vs) (hvl:vs.length=5) (hI:PlInv i A M) (hi:i<=1000) (h0:K8 tg0 H0 tg H) (hq:StepAt tg H q d x y z) (f0:F.get 0=some (.ptr p 0)) (f1:F.get 1=some (.ptr a 0)) (f5:F.get 5=some (.ptr q 0))
  (hz:M.rs.length≠0) (hy:y % 5≠0)
  (hQ:∀ F' H',DoQ i a p tg0 H0 (.bool true) H'->Q .nrm F' H'):wp tab Zdo2 F H Q:=by
 have hvl0:=hvl
 obtain ⟨v0,v1,v2,v3,v4,rfl,s0,s1,s2,s3,s4⟩:=hP.parts hvl
 have hs:=hP.mt.st
 have hg:=hP.mt.get
 have hgq:=hq.get
 have lv:=s1.lenV 29
 have o1:=s1.one
 have hxb:=hq.xb
 have hlr:=hI.lr;have hlg:=hI.lg
 have hzb:((M.rs.length:Int)==0)=false:=beq_eq_false_iff_ne.2 (by omega)
 have t5:((y:Int).tmod 5==0)=false:=by rw [Int.tmod_eq_emod_of_nonneg (by omega)];exact beq_eq_false_iff_ne.2 (by omega)
 have hz0:0 < M.rs.length:=by omega
 have hk:x % M.rs.length < M.rs.length:=Nat.mod_lt _ hz0
 have hkr:=List.getElem?_eq_getElem hk
 generalize M.rs[x % M.rs.length]=r at hkr
 have t1:(x:Int).tmod (M.rs.length:Int)=((x % M.rs.length:Nat):Int):=by rw [Int.tmod_eq_emod_of_nonneg (by omega)];rfl
 have wx:wr .i64 (x:Int)=(x:Int):=by rw [wr_i64 (by omega) (by omega)]
 generalize x % M.rs.length=k at *
 have k1:(k:Int) < (M.rs.length:Int):=by omega
 obtain ⟨b,cs,rfl,d1,d2,-⟩:=get1 s1 hkr
 have hz' : ¬ M.rs.length=0:=hz
 obtain ⟨s,o,mk,y1,y2,y3,y4,y5,y6,y7⟩:=hI.lv k r hkr
 have hob:=hI.ob o (List.mem_of_getElem? y4)
 have hmo:=hI.mn o hob
 have hcl:=cnt_len M.os o
 have hlo:=hI.lo
 have hr64:=hI.lt (by omega) hkr
 simp [Zdo2,Zdo29,f0,f1,f5,hs,hg,hgq,lv,o1,hzb,t5,t1,wx,hz',k1,hk,d1,d2]
 refine (drop_ok hP.ar r hr64 (hI.live hkr) y1 (ow:=o) y6 (by rw [hI.qm];exact hob) hmo (by omega) (by have:=hI.fl;omega)).mono ?_
 rintro _ H1 ⟨hA1,hX1⟩
 have hP1:=hP.arena hA1 hX1
 have hK1:=hP.arena8 hX1
 have hg1:=hP1.mt.get
 have s11:RfAt H1 (.sl b 0 M.rs.length none 1) M.rs:=by have:=(hP1.mt.sl 1 _ _ _ (by decide) rfl rfl).1;rw [List.length_map] at this;exact this
 obtain ⟨b',cs',e1,e2,e3,-⟩:=get1 s11 hkr
 simp at e1;subst e1
 have hdead:liveA (A.drop (slotN r) o) r=false:=by
  unfold liveA
  have:=(List.getElem?_eq_some_iff.1 y1).1
  simp [Ar.drop,this]
 simp [hA1.st,f0,f1,hg1,o1,k1,hk,e2,e3]
 refine (drop_nil hP1.ar r hr64 hdead).mono ?_
 rintro _ H2 hX2
 have hP2:=hP1.ext hX2
 simp [hX2.st]
 exact do_32 hP2 hvl0 hkr hI.lo hI.lm (by omega) (by omega) ((h0.trans hK1).trans (K8.ext hX2)) (hI.drop (by omega) hkr y4) (by simp [f0]) (by simp) hQ
end Go.AM.YtiolgkhfpnidfaaT
set_option maxRecDepth 100000
namespace Go.AM.YtiolgkhfpnidfaaT
open Go Go.AM Go.Proofs
variable {tg tg' tg'' : Nat->Nat} {H H' H'' : Hp} {a p i:Nat} {R:Nat->Prop} {A:Ar} {M:Mm} {L:List (TypeId×List V)} {vs:List V} {F:Fr}
def Zdo22:SCode:=.dreg R25_22
def Zdo20:SCode:=.seq (.seq (.reg R25_20) (.cond (.tmp 170) (.seq (.reg R25_21) (.ret)) (.skip))) Zdo22
def Zdo16:SCode:=.seq (.block 1 (.seq (.reg R25_16) (.cond (.tmp 113) (.seq (.reg R25_17) (.ret)) (.seq (.dreg R25_18) (.cond (.tmp 131) (.seq (.reg R25_19) (.ret)) (.skip)))))) Zdo20
def Zdo1:SCode:=.seq (.reg R25_14) (.seq (.reg R25_15) Zdo16)
theorem do_22 {q d x y r ow:Nat} {z:Int} {Q:PC} {H0:Hp} {tg0:Nat->Nat} (hP:PS tg H a p R A M.ls vs) (hvl:vs.length=5) (hl:M.rs.length<=1000) (ho:M.os.length<=1000) (hm:M.ms.length<=1000) (h0:K8 tg0 H0 tg H) (hq:StepAt tg H q d x y z)
  (hI:PlInv (i+1) A { M with rs:=M.rs++[r],os:=M.os++[ow],ms:=M.ms++[z] }) (f0:F.get 0=some (.ptr p 0)) (f5:F.get 5=some (.ptr q 0)) (f7:F.get 7=some (.int .i64 (ow:Nat))) (f8:F.get 8=some (rf r))
  (hQ:∀ F' H',DoQ i a p tg0 H0 (.bool true) H'->Q .nrm F' H'):wp tab Zdo22 F H Q:=by
 obtain ⟨v0,v1,v2,v3,v4,rfl,s0,s1,s2,s3,s4⟩:=hP.parts hvl
 have hs:=hP.mt.st
 have hg:=hP.mt.get
 have o0:=s0.one;have o1:=s1.one;have o2:=s2.one;have o3:=s3.one;have o4:=s4.one
 have wz:=wr_i8 hq.zb
 have hgq:=hq.get
 have hpn:=hP.mt.lt
 have hqn:=hq.lt
 have htp:=hP.mt.tp
 have htq:=hq.tq
 have f8' : F.get 8=some (.int .u64 (r:Nat)):=f8
 have hrow:∀ b∈rowsOf v1,b < H.next:=fun b hb=>((hP.mt.sl 1 _ _ v1 (by decide) rfl rfl).2 b hb).2
 have ev1:=s1.eqv;have ev2:=s2.eqv;have ev3:=s3.eqv
 simp [Zdo22,f0,f5,f7,f8',hs,hg,hgq,wz]
 refine wpD_app1 (H:=H) (e0:=29) (cells:=[rf r]) (by simp [descOf]) ty29 (by decide) (by simp) (by simp) s1 (fun b hb=>⟨hrow b hb,by simp [hs]⟩) rfl (by show (M.rs.length+1)*8<=_;omega) (by omega) (by simp [hs]) fun v1' H1 hS1 hA1=>?_
 have h5:=(hP.s5.app (k:=1) (e:=29) (l:=M.rs.map rf) (v:=v1) rfl rfl (by decide) (by rw [List.length_map];exact hS1) hA1).bump
 have hg1:H1.get p=some (.row 62 5 false [v0,v1,v2,v3,v4]):=by rw [<- hg];exact h5.kp p hpn (.inr (by omega))
 have hgq1:H1.get q=_:=(h5.kp q hqn (.inr (by omega))).trans hgq
 obtain ⟨s21,r21⟩:=h5.sl 2 3 (M.os.map fun n=>.int .i64 (n:Nat)) v2 (by decide) rfl rfl
 rw [List.length_map] at s21
 have st1:=h5.st
 simp [f0,f5,f7,hg1,hgq1,hg,ev1,ev2,ev3]
 refine wpD_app1 (H:=H1.bump) (e0:=3) (cells:=[.int .i64 (ow:Nat)]) (by simp [descOf]) ty3 (by decide) (by simp) (by simp) s21 (fun b hb=>⟨(r21 b hb).2.1,(r21 b hb).2.2⟩) rfl (by show (M.os.length+1)*8<=_;omega) (by omega) (fun c hc=>(st1 c hc).2.2) fun v2' H2 hS2 hA2=>?_
 have h6:=(h5.app (k:=2) (e:=3) (l:=M.os.map fun n=>.int .i64 (n:Nat)) (v:=v2) rfl rfl (by decide) (by rw [List.length_map];exact hS2) hA2).bump
 have hg2:H2.get p=some (.row 62 5 false [v0,v1,v2,v3,v4]):=by rw [<- hg];exact h6.kp p hpn (.inr (by omega))
 have hgq2:H2.get q=_:=(h6.kp q hqn (.inr (by omega))).trans hgq
 obtain ⟨s32,r32⟩:=h6.sl 3 2 (M.ms.map (.int .i64)) v3 (by decide) rfl rfl
 rw [List.length_map] at s32
 have st2:=h6.st
 have ez:eqV (V.int .i8 z) (V.int .i8 z)=true:=by simp [eqV]
 simp [f0,f5,f7,hg2,hg1,hg,hgq2,hgq1,hgq,ev1,ev2,ev3,ez,wz]
 refine wpD_app1 (H:=H2.bump) (e0:=2) (cells:=[.int .i64 z]) (by simp [descOf]) ty2 (by decide) (by simp) (by simp) s32 (fun b hb=>⟨(r32 b hb).2.1,(r32 b hb).2.2⟩) rfl (by show (M.ms.length+1)*8<=_;omega) (by omega) (fun c hc=>(st2 c hc).2.2) fun v3' H3 hS3 hA3=>?_
 have h7:=(h6.app (k:=3) (e:=2) (l:=M.ms.map (.int .i64)) (v:=v3) rfl rfl (by decide) (by rw [List.length_map];exact hS3) hA3).bump
 have hg3:H3.get p=some (.row 62 5 false [v0,v1,v2,v3,v4]):=by rw [<- hg];exact h7.kp p hpn (.inr (by omega))
 have hps:p∉H3.stale:=fun hm=>by have:=h7.st p hm;have:=h7.tk p hpn;omega
 have p1:=hS1.one;have p2:=hS2.one;have p3:=hS3.one
 have e1:=hS1.cells;have e2:=hS2.cells;have e3:=hS3.cells
 have c0:=s0.cells;have c4:=s4.cells
 simp [f0,hg3,hps,p1,p2,p3,e1,e2,e3,o0,o1,o2,o3,o4]
 generalize hH4:(((H3.bump.flush.put p (.row 62 5 false [v0,v1',v2,v3,v4])).bump.put p (.row 62 5 false [v0,v1',v2',v3,v4])).bump.put p (.row 62 5 false [v0,v1',v2',v3',v4])).bump=H4
 have st4:H4.stale=[]:=by rw [<- hH4];simp
 have g4:∀ c,c≠p->c∉H3.bump.stale->H4.get c=H3.bump.get c:=fun c hc hm=>by
  have hm:c∉H3.stale:=hm
  rw [<- hH4];simp [Hp.get_put,two_ne hc,Hp.get_flush,hm]
 have n4:H3.bump.next<=H4.next:=by rw [<- hH4];simp
 have hP4:=hP.back h7 st4 n4 (by rw [<- hH4];simp) g4
 have hK4:=hP.back8 h7 n4 g4
 have eL:(((Mm.ls M).set 1 (29,M.rs.map rf++[rf r])).set 2 (3,(M.os.map fun n=>V.int .i64 (n:Nat))++[V.int .i64 (ow:Nat)])).set 3 (2,M.ms.map (V.int .i64)++[V.int .i64 z])=Mm.ls { M with rs:=M.rs++[r],os:=M.os++[ow],ms:=M.ms++[z] }:=by simp [Mm.ls]
 rw [eL] at hP4
 exact hQ _ _ ⟨rfl,_,R,A,_,_,hP4,rfl,hI,h0.trans hK4⟩
theorem do_16own {w:Int} {Q:PC} {H0:Hp} {tg0:Nat->Nat} (hP:PS tg H a p R A M.ls vs) (hvl:vs.length=5) (hI:PlInv i A M) (h0:K8 tg0 H0 tg H) (f0:F.get 0=some (.ptr p 0)) (f7:F.get 7=some (.int .i64 w)) (f8:F.get 8=some (.int .u64 0)) (f9:F.get 9=some (.int .i64 17)) (hw:w < 0\/(M.qs.length:Int)<=w)
  (hQr:∀ w F' H',w = .bool true->F'.get 6=some w->DoQ i a p tg0 H0 w H'->Q .ret F' H'):wp tab Zdo16 F H Q:=by
 have hvl0:=hvl
 obtain ⟨v0,v1,v2,v3,v4,rfl,s0,s1,s2,s3,s4⟩:=hP.parts hvl
 have hs:=hP.mt.st
 have hg:=hP.mt.get
 have l0:=s0.lenV 3;have o0:=s0.one
 by_cases hx0:w < 0
 ·simp [Zdo16,hs,f0,f7,f8,f9,hg,l0,o0,hx0]
  exact hQr _ _ _ rfl (by simp) ⟨rfl,tg,R,A,M,_,hP,hvl0,hI.next,h0⟩
 ·have k1:=hw.resolve_left hx0
  simp [Zdo16,hs,f0,f7,f8,f9,hg,l0,o0,hx0,k1]
  exact hQr _ _ _ rfl (by simp) ⟨rfl,tg,R,A,M,_,hP,hvl0,hI.next,h0⟩
theorem do_16full {ow:Nat} {qv:Int} {Q:PC} {H0:Hp} {tg0:Nat->Nat} (hP:PS tg H a p R A M.ls vs) (hvl:vs.length=5) (hI:PlInv i A M) (hi:i<=1000) (h0:K8 tg0 H0 tg H) (f0:F.get 0=some (.ptr p 0)) (f7:F.get 7=some (.int .i64 (ow:Nat))) (f8:F.get 8=some (.int .u64 0)) (f9:F.get 9=some (.int .i64 8)) (hqow:M.qs[ow]? = some qv) (hfull:qv<=(cnt M.os ow:Int))
  (hQr:∀ w F' H',w = .bool true->F'.get 6=some w->DoQ i a p tg0 H0 w H'->Q .ret F' H'):wp tab Zdo16 F H Q:=by
 have hvl0:=hvl
 obtain ⟨v0,v1,v2,v3,v4,rfl,s0,s1,s2,s3,s4⟩:=hP.parts hvl
 have hs:=hP.mt.st
 have hg:=hP.mt.get
 have l0:=s0.lenV 3;have o0:=s0.one
 have howl:=(List.getElem?_eq_some_iff.1 hqow).1
 have hlo:=hI.lo;have hlr:=hI.lr
 have k0:¬ ((ow:Int) < 0):=by omega
 have k1:¬ ((M.qs.length:Int)<=(ow:Int)):=by omega
 have k2:(ow:Int) < (M.qs.length:Int):=by omega
 obtain ⟨b0,c0,rfl,d1,d2,-⟩:=get1 s0 hqow
 simp [Zdo16,hs,f0,f7,f8,f9,hg,l0,o0,k0,k1]
 refine (mmany_ok hvl0 hP (ow:Int) (by omega)).mono ?_
 rintro _ H ⟨rfl,rfl⟩
 have hXb:Ext noX H H.bump:=(Ext.refl hs).bump
 simp [hs,f0,f7,f8,f9,hg,d1,d2,k2,howl,hfull]
 exact ⟨by simp [eqV],by simp [eqV],hQr _ _ _ rfl (by simp) ⟨rfl,tg,R,A,M,_,hP.ext hXb,hvl0,hI.next,h0.trans (K8.ext hXb)⟩⟩
theorem do_20 {q d x y ow r:Nat} {z:Int} {Q:PC} {H0:Hp} {tg0:Nat->Nat} (hP:PS tg H a p R A M.ls vs) (hvl:vs.length=5) (hlo:M.os.length<=1000) (hlr:M.rs.length<=1000) (hlm:M.ms.length<=1000) (hlg:M.gs.length<=1000) (h0:K8 tg0 H0 tg H) (hq:StepAt tg H q d x y z) (f0:F.get 0=some (.ptr p 0)) (f5:F.get 5=some (.ptr q 0)) (f7:F.get 7=some (.int .i64 (ow:Nat))) (f8:F.get 8=some (rf r)) (f9:F.get 9=some (.int .i64 0))
  (r3:r∉M.rs) (r4:r∉M.gs) (r5:r≠0) (hI:PlInv (i+1) A { M with rs:=M.rs++[r],os:=M.os++[ow],ms:=M.ms++[z] })
  (hQ:∀ F' H',DoQ i a p tg0 H0 (.bool true) H'->Q .nrm F' H'):wp tab Zdo20 F H Q:=by
 have hvl0:=hvl
 obtain ⟨v0,v1,v2,v3,v4,rfl,s0,s1,s2,s3,s4⟩:=hP.parts hvl
 have hs:=hP.mt.st
 have hg:=hP.mt.get
 have o1:=s1.one;have o4:=s4.one
 have f8' : F.get 8=some (.int .u64 (r:Nat)):=f8
 have hr0:((r:Int)==0)=false:=beq_eq_false_iff_ne.2 (by omega)
 simp [Zdo20,hs,f0,f8',f9,hg,o1,hr0]
 refine (contains_ok hs s1 r (by omega)).mono ?_
 rintro _ H ⟨rfl,rfl⟩
 simp [hs,f0,f8',f9,hg,o4,r3]
 refine (contains_ok hs s4 r (by omega)).mono ?_
 rintro _ H ⟨rfl,rfl⟩
 simp [hs,r4]
 exact do_22 hP hvl0 hlr hlo hlm h0 hq hI (by simp [f0]) (by simp [f5]) (by simp [f7]) (by simp [f8]) hQ
theorem do_16ok {q d x y ow r:Nat} {z qv:Int} {Q:PC} {H0:Hp} {tg0:Nat->Nat} (hP:PS tg H a p R A M.ls vs) (hvl:vs.length=5) (hlo:M.os.length<=1000) (hlr:M.rs.length<=1000) (hlm:M.ms.length<=1000) (hlg:M.gs.length<=1000) (h0:K8 tg0 H0 tg H) (hq:StepAt tg H q d x y z) (f0:F.get 0=some (.ptr p 0)) (f5:F.get 5=some (.ptr q 0)) (f7:F.get 7=some (.int .i64 (ow:Nat))) (f8:F.get 8=some (rf r)) (f9:F.get 9=some (.int .i64 0)) (hqow:M.qs[ow]? = some qv) (hfull:¬ qv<=(cnt M.os ow:Int))
  (r3:r∉M.rs) (r4:r∉M.gs) (r5:r≠0) (hI:PlInv (i+1) A { M with rs:=M.rs++[r],os:=M.os++[ow],ms:=M.ms++[z] })
  (hQ:∀ F' H',DoQ i a p tg0 H0 (.bool true) H'->Q .nrm F' H'):wp tab Zdo16 F H Q:=by
 have hvl0:=hvl
 obtain ⟨v0,v1,v2,v3,v4,rfl,s0,s1,s2,s3,s4⟩:=hP.parts hvl
 have hs:=hP.mt.st
 have hg:=hP.mt.get
 have l0:=s0.lenV 3;have o0:=s0.one
 have howl:=(List.getElem?_eq_some_iff.1 hqow).1
 have k0:¬ ((ow:Int) < 0):=by omega
 have k1:¬ ((M.qs.length:Int)<=(ow:Int)):=by omega
 have k2:(ow:Int) < (M.qs.length:Int):=by omega
 obtain ⟨b0,c0,rfl,d1,d2,-⟩:=get1 s0 hqow
 simp [Zdo16,hs,f0,f7,f8,f9,hg,l0,o0,k0,k1]
 refine (mmany_ok hvl0 hP (ow:Int) (by omega)).mono ?_
 rintro _ H ⟨rfl,rfl⟩
 have hXb:Ext noX H H.bump:=(Ext.refl hs).bump
 have hP1:=hP.ext hXb
 have hK1:K8 tg H tg H.bump:=K8.ext hXb
 have hq1:=hq.keep hK1
 simp [hs,f0,f7,f8,f9,hg,d1,d2,k2,howl,hfull]
 exact ⟨by simp [eqV],by simp [eqV],do_20 hP1 hvl0 hlo hlr hlm hlg (h0.trans hK1) hq1 (by simp [f0]) (by simp [f5]) (by simp [f7]) (by simp [f8]) (by simp [f9]) r3 r4 r5 hI hQ⟩
theorem do_1 {q d x y:Nat} {z:Int} {Q:PC} {H0:Hp} {tg0:Nat->Nat} (hP:PS tg H a p R A M.ls vs) (hvl:vs.length=5) (hI:PlInv i A M) (hi:i<=1000) (h0:K8 tg0 H0 tg H) (hq:StepAt tg H q d x y z) (f0:F.get 0=some (.ptr p 0)) (f1:F.get 1=some (.ptr a 0)) (f5:F.get 5=some (.ptr q 0))
  (hQr:∀ w F' H',w = .bool true->F'.get 6=some w->DoQ i a p tg0 H0 w H'->Q .ret F' H') (hQ:∀ F' H',DoQ i a p tg0 H0 (.bool true) H'->Q .nrm F' H'):wp tab Zdo1 F H Q:=by
 have hs:=hP.mt.st
 have hgq:=hq.get
 have hxb:=hq.xb;have hyb:=hq.yb
 have wz:=wr_i8 hq.zb
 have t8:(x:Int).tmod 8=((x % 8:Nat):Int):=by rw [Int.tmod_eq_emod_of_nonneg (by omega)];rfl
 have ty8:(y:Int).tmod 8=((y % 8:Nat):Int):=by rw [Int.tmod_eq_emod_of_nonneg (by omega)];rfl
 have hx8:x % 8 < 8:=Nat.mod_lt _ (by omega)
 generalize x % 8=xo at *
 generalize y % 8=yk at *
 have wx:wr .i64 (xo:Int)=(xo:Int):=by rw [wr_i64 (by omega) (by omega)]
 have wo:wr .i64 ((xo:Int)-1)=(xo:Int)-1:=by rw [wr_eq,IntKind.wrap_i64];omega
 have hqs:=hI.qs
 simp [Zdo1,f1,f5,hs,hgq,t8,ty8,wx,wo,wz]
 by_cases hval:1<=xo/\xo-1 < M.qs.length
 ·obtain ⟨ow,how⟩:∃ ow:Nat,(xo:Int)-1=ow:=⟨xo-1,by omega⟩
  have howl:ow < M.qs.length:=by omega
  rw [how]
  have hqow:=List.getElem?_eq_getElem howl
  have hqmem:=List.getElem_mem howl
  generalize M.qs[ow]=qv at hqow hqmem
  have hqb:=hI.qb qv hqmem
  have hmn:=hI.mn ow howl
  have hcl:=cnt_len M.os ow
  have hlo:=hI.lo;have hlr:=hI.lr;have hlm:=hI.lm;have hlg:=hI.lg
  by_cases hfull:qv<=(cnt M.os ow:Int)
  ·refine (put_full (ow:=ow) (k:=(yk:Int)) (mo:=z) (me:=0) (fi:=.nilm) hP.ar rfl rfl (by rw [hqs];exact hqow) hmn hfull).mono ?_
   rintro _ H1 ⟨rfl,hX1⟩
   simp [hX1.st]
   exact do_16full (hP.ext hX1) hvl hI hi (h0.trans (K8.ext hX1)) (by simp [f0]) (by simp) (by simp) (by simp) hqow hfull hQr
  ·have hi32:i < 4294967296:=by omega
   obtain ⟨u0,q1,q2,q3,q4,q5,q6',q7,q8,-⟩:=hI.top
   obtain ⟨r3,r4,r5⟩:=hI.fresh hi32
   have hput:=hI.put (o:=objL (yk:Int) (ow:Int) .nilm z 0) hi32 howl hq.zb rfl rfl rfl
   refine (put_ok (ow:=ow) (k:=(yk:Int)) (mo:=z) (me:=0) (fi:=.nilm) hP.ar rfl rfl rfl (by rw [hqs];exact hqow) hmn (by omega) (by omega) (fun n hn=>?_) (by omega) (by have:=hI.sl;omega)).mono ?_
   ·obtain ⟨s',g1,-⟩:=hI.fr n hn;exact (List.getElem?_eq_some_iff.1 g1).1
   rintro _ H1 ⟨rfl,hA1,hX1⟩
   have hP1:=hP.arena hA1 hX1
   have hK1:=hP.arena8 hX1
   generalize A.ref=r at *
   generalize A.put (objL (yk:Int) (ow:Int) .nilm z 0) ow=A' at *
   simp [hA1.st]
   exact do_16ok hP1 hvl (by omega) (by omega) (by omega) (by omega) (h0.trans hK1) (hq.keep hK1) (by simp [f0]) (by simp [f5]) (by simp) (by simp [rf]) (by simp) hqow hfull r3 r4 r5 hput hQ
 ·have hk:¬ (0<=(xo:Int)-1/\(xo:Int)-1 < (A.quotas.length:Int)):=by rw [hqs];omega
  refine (put_own (ow:=(xo:Int)-1) (k:=(yk:Int)) (mo:=z) (me:=0) (fi:=.nilm) hP.ar rfl rfl hk (by omega)).mono ?_
  rintro _ H1 ⟨rfl,hX1⟩
  simp [hX1.st]
  exact do_16own (w:=(xo:Int)-1) (hP.ext hX1) hvl hI (h0.trans (K8.ext hX1)) (by simp [f0]) (by simp) (by simp) (by simp) (by omega) hQr
end Go.AM.YtiolgkhfpnidfaaT
set_option maxRecDepth 100000
namespace Go.AM.YtiolgkhfpnidfaaT
open Go Go.AM Go.Proofs
variable {tg tg' tg'' : Nat->Nat} {H H' H'' : Hp} {a p i:Nat} {R:Nat->Prop} {A:Ar} {M:Mm} {L:List (TypeId×List V)} {vs:List V} {F:Fr}
theorem do_code:S25 = .seq (.reg R25_0) (.seq (.seq (.reg R25_1) (.block 0 (.seq (.reg R25_8) (.cond (.tmp 58) Zdo0 (.seq (.reg R25_13) (.cond (.tmp 93) Zdo1 (.seq (.reg R25_23) (.cond (.tmp 203) Zdo2 Zdo3)))))))) (.seq (.reg R25_34) (.ret))):=rfl
theorem PS.k8 (h:PS tg H a p R A L vs):K8 tg H (fun b=>if H.next<=b then 8 else tg b) H:=⟨Nat.le_refl _,fun b hb ht=>⟨rfl,(h.tag8.2 b hb).trans ht⟩⟩
theorem do_ok {d x y:Nat} {z:Int} (hP:PS tg H a p R A M.ls vs) (hvl:vs.length=5) (hI:PlInv i A M) (hi:i<=1000) (db:d < 256) (xb:x < 256) (yb:y < 256) (zb : -128<=z/\z < 128) :
  WF tab 25 [.ptr p 0,.ptr a 0,.agg [.int .u8 (d:Nat),.int .u8 (x:Nat),.int .u8 (y:Nat),.int .i8 z]] H (DoQ i a p tg H):=by
 refine wf25 (wp_sound _ ?_)
 rw [do_code]
 have hs:=hP.mt.st
 have hP0:=hP.tag8.1
 have hK0:=hP.k8
 have hX:Ext noX H (H.new (.row 65 4 false [.int .u8 (d:Nat),.int .u8 (x:Nat),.int .u8 (y:Nat),.int .i8 z])):=Ext.new hs _
 have hP1:=hP0.ext hX
 have hK1:=hK0.trans (K8.ext hX)
 have hq:StepAt (fun b=>if H.next<=b then 8 else tg b) (H.new (.row 65 4 false [.int .u8 (d:Nat),.int .u8 (x:Nat),.int .u8 (y:Nat),.int .i8 z])) H.next d x y z:=⟨get_new_self _ _,by show _ < H.next+1;omega,if_pos (Nat.le_refl _),db,xb,yb,zb⟩
 have t4:(d:Int).tmod 4=((d % 4:Nat):Int):=by rw [Int.tmod_eq_emod_of_nonneg (by omega)];rfl
 have hd4:d % 4 < 4:=Nat.mod_lt _ (by omega)
 generalize d % 4=dm at *
 generalize hH1:H.new (.row 65 4 false [.int .u8 (d:Nat),.int .u8 (x:Nat),.int .u8 (y:Nat),.int .i8 z])=H1 at *
 generalize hq0:H.next=q at *
 generalize (fun b=>if q<=b then 8 else tg b)=tg1 at *
 have hg1:=hq.get
 have hs1:=hP1.mt.st
 have hr:∀ (w:V) (F' : Fr) (H' : Hp),w=V.bool true->Tr.get F' 6=some w->DoQ i a p tg H w H' ->
   blockQ 0 (sqQ tab ((SCode.reg R25_34).seq SCode.ret) (resQ tab [ResultVar.tmp 6] (DoQ i a p tg H))) Out.ret F' H':=fun w F' H' _ h6 hD=>by simp [h6];exact hD
 have hn:∀ (F' : Fr) (H' : Hp),DoQ i a p tg H (V.bool true) H' ->
   blockQ 0 (sqQ tab ((SCode.reg R25_34).seq SCode.ret) (resQ tab [ResultVar.tmp 6] (DoQ i a p tg H))) Out.nrm F' H':=fun F' H' hD=>by
  have hsD:H'.stale=[]:=by obtain ⟨-,_,_,_,_,_,h,-⟩:=hD;exact h.mt.st
  simp [hsD];exact hD
 obtain rfl | rfl | rfl | rfl:dm=0\/dm=1\/dm=2\/dm=3:=by omega
 ·simp [hs,t4,hH1,hq0,hg1,hs1]
  exact do_0 hP1 hvl hI hi hK1 hq (by simp) (by simp) (by simp) hr
 ·simp [hs,t4,hH1,hq0,hg1,hs1]
  exact do_1 hP1 hvl hI hi hK1 hq (by simp) (by simp) (by simp) hr hn
 ·simp [hs,t4,hH1,hq0,hg1,hs1]
  by_cases hno:M.rs.length=0\/y % 5=0
  ·exact do_2a hP1 hvl hI hi hK1 hq (by simp) (by simp) (by simp) hno hr
  ·exact do_2b hP1 hvl hI hi hK1 hq (by simp) (by simp) (by simp) (fun h=>hno (.inl h)) (fun h=>hno (.inr h)) hn
 ·simp [hs,t4,hH1,hq0,hg1,hs1]
  exact do_3 hP1 hvl hI hi hK1 hq (by simp) (by simp) (by simp) hn
end Go.AM.YtiolgkhfpnidfaaT
set_option maxRecDepth 100000
namespace Go.AM.YtiolgkhfpnidfaaT
open Go Go.AM Go.Proofs
variable {tg tg' tg'' : Nat->Nat} {H H' H'' : Hp} {a p i:Nat} {R:Nat->Prop} {A:Ar} {M:Mm} {L:List (TypeId×List V)} {vs:List V} {F:Fr}
theorem awake3_s (cs:List V):tells0 (evCall tab 40 16 [] (hR [(65,4,cs)]))=some (true,true,[],some (.row 65 4 true cs)):=by kernel_rfl
def stC (s:Nat×Nat×Nat×Int):List V:=[.int .u8 (s.1:Nat),.int .u8 (s.2.1:Nat),.int .u8 (s.2.2.1:Nat),.int .i8 s.2.2.2]
def StOk (s:Nat×Nat×Nat×Int):Prop:=s.1 < 256/\s.2.1 < 256/\s.2.2.1 < 256/\-128<=s.2.2.2/\s.2.2.2 < 128
structure PIn (H:Hp) (v:V) (l:List (Nat×Nat×Nat×Int)):Prop where
 len:∀ e,lenV v (some (.slice e))=some (.int .i64 l.length)
 row:l≠[]->v = .sl 0 0 l.length none 4/\∃ cs,H.get 0=some (.row 65 4 true cs)/\∀ (i:Nat) s,l[i]? = some s->(cs.drop (i*4)).take 4=stC s
structure PL (a p i:Nat) (v:V) (l:List (Nat×Nat×Nat×Int)) (F:Fr) (H:Hp) (tg:Nat->Nat) (R:Nat->Prop) (A:Ar) (M:Mm) (vs:List V):Prop where
 ps:PS tg H a p R A M.ls vs
 vl:vs.length=5
 inv:PlInv i A M
 li:PIn H v l
 z8:tg 0=8
 f3:F.get 3=some (.ptr a 0)
 f4:F.get 4=some (.ptr p 0)
 f15:F.get 15=some v
 f16:F.get 16=some (.int .i64 l.length)
 f17:F.get 17=some (.int .i64 i)
def PLQ (a p:Nat) (v:V) (l:List (Nat×Nat×Nat×Int)) (m:Nat) (F:Fr) (H:Hp):Prop :=
 ∃ i tg R A M vs,i+m=l.length/\PL a p i v l F H tg R A M vs
theorem plays_walk {v:V} {l:List (Nat×Nat×Nat×Int)} {H0:Hp} (hs0:H0.stale=[]) (hlb:∀ x∈l,StOk x) (hw:WF tab 16 [] H0 fun w H'=>w = .bool true/\0 < H'.next/\H'.stale=[]/\PIn H' v l):WF tab 8 [v] H0 fun v _=>v = .bool true:=by
 refine wf8 (wp_sound _ ?_)
 simp [hs0]
 refine hw.mono ?_
 rintro _ H ⟨rfl,hpos,hs,hL⟩
 have hlen:=hL.len 65
 simp [hs,hlen]
 by_cases h60:120 < l.length
 ·have h60' : (120:Int) < (l.length:Int):=by omega
  simp [h60,h60',hs]
 have h60' : ¬ (120:Int) < (l.length:Int):=by omega
 simp [h60,h60',hs]
 refine (new_ok hs).mono ?_
 rintro _ H1 ⟨rfl,hA1,hX1⟩
 simp [hA1.st,hlen]
 have le1:H.next+1<=H1.next:=by have:=hA1.lt;omega
 have hp0:PS (fun b=>if b=H1.next then 6 else if b=H.next then 7 else 8) (H1.new (.row 62 5 false [.nils,.nils,.nils,.nils,.nils])) H.next H1.next (fun _=>False) ⟨[],[],[],[]⟩ (Mm.ls ⟨[],[],[],[],[]⟩) [.nils,.nils,.nils,.nils,.nils]:=by
  refine ⟨hA1.ext (X:=noX) (Ext.new hA1.st _) fun _ _ h=>h,⟨hA1.st,get_new_self _ _,fun k e l v hk h1 h2=>?_,by show _ < H1.next+1;omega,by simp⟩,fun _ h=>h.elim,by simp;omega⟩
  have hv:v = .nils:=by
   match k,hk with
   | 0,_=>simpa using h2.symm
   | 1,_=>simpa using h2.symm
   | 2,_=>simpa using h2.symm
   | 3,_=>simpa using h2.symm
   | 4,_=>simpa using h2.symm
  have hl:l=[]:=by
   match k,hk with
   | 0,_=>simp [Mm.ls] at h1;exact h1.2
   | 1,_=>simp [Mm.ls] at h1;exact h1.2
   | 2,_=>simp [Mm.ls] at h1;exact h1.2
   | 3,_=>simp [Mm.ls] at h1;exact h1.2
   | 4,_=>simp [Mm.ls] at h1;exact h1.2
  subst hv;subst hl
  exact ⟨.nil,fun b hb=>by simp [rowsOf] at hb⟩
 have keep0:(H1.new (.row 62 5 false [.nils,.nils,.nils,.nils,.nils])).get 0=H.get 0:=by
  rw [get_new_ne _ (by omega),hX1.get 0 hpos fun h=>h]
 refine loop_of (PLQ H.next H1.next v l) (m:=l.length) ⟨0,_,_,_,_,_,by omega,⟨hp0,rfl,PlInv.start,⟨hL.len,fun hl=>?_⟩,by show (if _ then _ else if _ then _ else _)=8;rw [if_neg (by omega),if_neg (by omega)],by simp,by simp,by simp,by simp,by simp⟩⟩ ?_
 ·obtain ⟨h1,cs,h2,h3⟩:=hL.row hl
  exact ⟨h1,cs,keep0.trans h2,h3⟩
 generalize H.next=a
 generalize H1.next=p
 clear hp0 keep0 le1 hA1 hX1 hlen hL hs hpos H H1
 rintro m F H ⟨i,tg,R,A,M,vs,him,h⟩
 have hs:=h.ps.mt.st
 have f3:=h.f3;have f4:=h.f4;have f15:=h.f15;have f16:=h.f16;have f17:=h.f17
 by_cases hi:i < l.length
 ·have hi' : (i:Int) < (l.length:Int):=by omega
  have hne:l≠[]:=fun e=>by rw [e] at hi;simp at hi
  obtain ⟨rfl,cs,c1,c2⟩:=h.li.row hne
  have hx:=List.getElem?_eq_getElem hi
  have hxb:=hlb _ (List.getElem_mem hi)
  generalize l[i]=x at hx hxb
  obtain ⟨d,x,y,z⟩:=x
  have hcx:=c2 i _ hx
  have hcl:i*4+4<=cs.length:=by
   have:=congrArg List.length hcx
   simp [stC] at this;omega
  simp only [stC] at hcx
  simp [L8_0,f3,f4,f15,f16,f17,hs,hi',hi,c1,hcx,hcl]
  have hX:Ext noX H ((H.new (.row 65 4 false [.int .u8 0,.int .u8 0,.int .u8 0,.int .i8 0])).put H.next (.row 65 4 false [.int .u8 (d:Nat),.int .u8 (x:Nat),.int .u8 (y:Nat),.int .i8 z])) :=
   ⟨hs,by show H.next<=H.next+1;omega,fun b hb _=>by rw [get_put_ne _ (show b≠H.next by omega),get_new_ne _ (by omega)]⟩
  generalize (H.new (.row 65 4 false [.int .u8 0,.int .u8 0,.int .u8 0,.int .i8 0])).put H.next (.row 65 4 false [.int .u8 (d:Nat),.int .u8 (x:Nat),.int .u8 (y:Nat),.int .i8 z])=H1 at hX
  have hP1:=h.ps.ext hX
  have hK1:K8 tg H tg H1:=K8.ext hX
  obtain ⟨xb1,xb2,xb3,xb4,xb5⟩:=hxb
  refine (do_ok hP1 h.vl h.inv (by omega) xb1 xb2 xb3 ⟨xb4,xb5⟩).mono ?_
  rintro _ H2 ⟨rfl,tg2,R2,A2,M2,vs2,hP2,hvl2,hI2,hK2⟩
  have hs2:=hP2.mt.st
  simp [hs2,f3,f4]
  refine (is_ok hP2 hvl2 hI2 (by omega)).mono ?_
  rintro _ H3 ⟨rfl,hX3⟩
  have hP3:=hP2.ext hX3
  have hK3:=(hK1.trans hK2).trans (K8.ext hX3)
  have hs3:=hP3.mt.st
  have wi:wr .i64 ((i:Int)+1)=(i+1:Nat):=wr_succ (by omega)
  have hp0:0 < H.next:=by have:=h.ps.mt.lt;omega
  obtain ⟨k1,k2⟩:=hK3.2 0 hp0 h.z8
  simp [hs3,f3,f4,f15,f16,f17,wi]
  exact ⟨m-1,by omega,i+1,tg2,R2,A2,M2,vs2,by omega,⟨hP3,hvl2,hI2,⟨h.li.len,fun hl=>⟨rfl,cs,k1.trans c1,c2⟩⟩,k2,by simp [f3],by simp [f4],by simp [f15],by simp [f16],by simp⟩⟩
 ·have hi' : ¬ ((i:Int) < (l.length:Int)):=by omega
  simp [L8_0,f3,f4,f15,f16,f17,hs,hi']
theorem plays_nils:WF tab 8 [.nils] (hR []) fun v _=>v = .bool true:=by
 obtain ⟨o,hw⟩:=awake3_2
 refine plays_walk (l:=[]) (hR_st _) (by simp) ((tells0_wf hw).mono ?_)
 rintro _ H ⟨rfl,h1,h2,-⟩
 exact ⟨rfl,h1,h2,fun e=>rfl,fun h=>absurd rfl h⟩
theorem plays_sle:WF tab 8 [.sle] (hR []) fun v _=>v = .bool true:=by
 obtain ⟨o,hw⟩:=awake3_2
 refine plays_walk (l:=[]) (hR_st _) (by simp) ((tells0_wf hw).mono ?_)
 rintro _ H ⟨rfl,h1,h2,-⟩
 exact ⟨rfl,h1,h2,fun e=>rfl,fun h=>absurd rfl h⟩
theorem stC_len (s:Nat×Nat×Nat×Int):(stC s).length=4:=rfl
theorem stC_at:∀ (l:List (Nat×Nat×Nat×Int)) (i:Nat) s,l[i]? = some s->((l.flatMap stC).drop (i*4)).take 4=stC s
 | [],i,s,h=>by simp at h
 | x :: l,0,s,h=>by
  simp only [List.getElem?_cons_zero,Option.some.injEq] at h
  subst h
  rw [List.flatMap_cons,Nat.zero_mul,List.drop_zero,List.take_left' (stC_len _)]
 | x :: l,i+1,s,h=>by
  rw [List.getElem?_cons_succ] at h
  rw [List.flatMap_cons,show (i+1)*4=(stC x).length+i*4 by rw [stC_len];omega,<- List.drop_drop,List.drop_left]
  exact stC_at l i s h
theorem plays_sl (l:List (Nat×Nat×Nat×Int)) (hb:∀ s∈l,StOk s):WF tab 8 [.sl 0 0 l.length none 4] (hR [(65,4,l.flatMap stC)]) fun v _=>v = .bool true:=by
 refine plays_walk (l:=l) (hR_st _) hb ((tells0_wf (awake3_s _)).mono ?_)
 rintro _ H ⟨rfl,h1,h2,h3⟩
 exact ⟨rfl,h1,h2,fun e=>by simp [lenV_sl],fun _=>⟨rfl,_,h3,stC_at l⟩⟩
end Go.AM.YtiolgkhfpnidfaaT
