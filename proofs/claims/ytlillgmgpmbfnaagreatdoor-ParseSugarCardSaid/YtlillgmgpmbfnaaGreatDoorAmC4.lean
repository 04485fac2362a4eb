import Derived.Test.YtlillgmgpmbfnaaGreatDoorAmC3
namespace Go.AM
open Go
def Tab.with_ (T:Tab) (e:FuncId->Option (List V->Hp->Option (V×Hp))):Tab:={ T with ext:=e }
section
variable (T:Tab) (e:FuncId->Option (List V->Hp->Option (V×Hp)))
theorem with_ty:(T.with_ e).ty=T.ty:=rfl
theorem with_ng:(T.with_ e).ng=T.ng:=rfl
theorem with_fn:(T.with_ e).fn=T.fn:=rfl
theorem with_dr:(T.with_ e).dr=T.dr:=rfl
theorem with_alt:(T.with_ e).alt=T.alt:=rfl
theorem w_desc:descOf (T.with_ e)=descOf T:=rfl
theorem w_part:partV (T.with_ e)=partV T:=rfl
theorem w_key1:keyOk1 (T.with_ e)=keyOk1 T:=by funext t v;cases v<;>rfl
theorem w_keyL:∀ (l:List (Nat×TypeId)) (cs:List V) (n:Nat),keyOkL (T.with_ e) l cs n=keyOkL T l cs n
 | [],[],n=>by simp only [keyOkL]
 | [],_ :: _,n=>by simp only [keyOkL]
 | _ :: _,[],n=>by simp only [keyOkL]
 | (a,t) :: r,v :: vs,n=>by simp only [keyOkL,w_key1,w_keyL r]
theorem w_keyS:keyOkS (T.with_ e)=keyOkS T:=by funext t cs;simp only [keyOkS,w_keyL,w_desc,with_ty]
theorem w_key:keyOk (T.with_ e)=keyOk T:=by funext t v;cases v<;>simp only [keyOk,w_key1,w_keyS]
theorem w_eqS:eqS (T.with_ e)=eqS T:=by funext t x y;simp only [eqS,w_keyS]
theorem w_bin:binE (T.with_ e)=binE T:=by funext a b c d f g;unfold binE;simp only [w_eqS,w_desc,with_ng,with_ty]
theorem w_isMap:isMapT (T.with_ e)=isMapT T:=rfl
theorem w_conv:convKd (T.with_ e)=convKd T:=rfl
theorem w_kind:kind (T.with_ e)=kind T:=by funext o;cases o<;>rfl
theorem w_parts:∀ (F:Fr) (l:List (Nat×Operand)),partsV (T.with_ e) F l=partsV T F l
 | F,[]=>rfl
 | F,(a,x) :: r=>by simp only [partsV,with_ng,w_parts F r]
theorem w_places:∀ (l:List (Nat×TypeId)),placesV (T.with_ e) l=placesV T l
 | []=>rfl
 | (a,x) :: r=>by simp only [placesV,with_ty,w_places r]
theorem w_opt:optI (T.with_ e)=optI T:=by funext F o;cases o<;>rfl
theorem w_slice:sliceV (T.with_ e)=sliceV T:=by funext t x a b c;unfold sliceV;simp only [w_desc,with_ty];rfl
theorem w_p:evP (T.with_ e)=evP T:=by funext o F;unfold evP;simp only [w_desc,w_part,w_key,w_bin,w_isMap,w_conv,w_parts,w_places,w_opt,w_slice,with_ty,with_ng,w_eqS]
theorem w_mapKey:mapKeyOk (T.with_ e)=mapKeyOk T:=by funext t k;simp only [mapKeyOk,w_desc,w_key]
theorem w_r:evR (T.with_ e)=evR T:=by funext o F g;unfold evR;simp only [w_desc,w_part,w_key,w_bin,w_isMap,w_conv,w_parts,w_places,w_opt,w_slice,with_ty,with_ng,w_eqS,w_mapKey]
theorem w_take:takeX (T.with_ e)=takeX T:=by funext g t t' e' sz x;unfold takeX;simp only [w_desc,with_ty]
theorem w_a:evA (T.with_ e)=evA T:=by funext o F g n;unfold evA;simp only [w_desc,w_part,w_key,w_bin,w_isMap,w_conv,w_parts,w_places,w_opt,w_slice,with_ty,with_ng,w_eqS,w_mapKey,w_take]
theorem w_aw:evAW (T.with_ e)=evAW T:=by funext o F H;unfold evAW;simp only [w_a,w_desc,w_part,w_key,w_bin,w_isMap,w_conv,w_parts,w_places,w_opt,w_slice,with_ty,with_ng,w_eqS,w_mapKey,w_take]
theorem w_w:evW (T.with_ e)=evW T:=by funext o F H;unfold evW;simp only [w_a,w_aw,w_desc,w_part,w_key,w_bin,w_isMap,w_conv,w_parts,w_places,w_opt,w_slice,with_ty,with_ng,w_eqS,w_mapKey,w_take]
theorem w_op:evOp (T.with_ e)=evOp T:=by funext o F H;unfold evOp;simp only [w_kind,w_p,w_r,w_a,w_aw,w_w,with_ng]
theorem w_def:evDef (T.with_ e)=evDef T:=by funext F o;cases o<;>rfl
theorem w_ops (call:CallE) (ops:Array Oper):∀ (l:List Oper) (F:Fr) (H:Hp),evOps (T.with_ e) call ops l F H=evOps T call ops l F H
 | [],F,H=>rfl
 | o :: r,F,H=>by simp only [evOps,w_op,w_def,w_ops call ops r]
theorem w_isPt:isPt (T.with_ e)=isPt T:=by funext o;simp only [isPt,w_kind]
theorem w_win:winOk (T.with_ e)=winOk T:=by funext o F n v B;simp only [winOk,w_kind,w_r]
theorem w_draw (call:CallE) (ops:Array Oper):∀ (l:List (Nat×Nat)) (F:Fr) (H:Hp) (B:List Hp),evDraw (T.with_ e) call ops l F H B=evDraw T call ops l F H B
 | [],F,H,B=>rfl
 | (i,n) :: r,F,H,B=>by simp only [evDraw,w_op,w_isPt,w_win,w_draw call ops r]
theorem w_alt:altOk (T.with_ e)=altOk T:=rfl
theorem w_code (call:CallE) (f:FuncId) (n:Nat):∀ (c:Code) (F:Fr) (H:Hp),evCode (T.with_ e) call f n c F H=evCode T call f n c F H
 | .skip,F,H=>rfl
 | .label _,F,H=>rfl
 | .region _ ops false,F,H=>by simp only [evCode,w_ops]
 | .region id ops true,F,H=>by simp only [evCode,w_draw,with_dr,w_alt];rfl
 | .seq a b,F,H=>by simp only [evCode,w_code call f n a,w_code call f n b]
 | .cond c a b,F,H=>by simp only [evCode,with_ng,w_code call f n a,w_code call f n b]
 | .block id c,F,H=>by simp only [evCode,w_code call f n c]
 | .scope c,F,H=>by simp only [evCode,w_code call f n c]
 | .loop c,F,H=>by
  have:evCode (T.with_ e) call f n c=evCode T call f n c:=by funext F H;exact w_code call f n c F H
  simp only [evCode,this]
 | .exit id,F,H=>rfl
 | .ret,F,H=>rfl
 | .rangeFunc ..,F,H=>rfl
 | .goto ..,F,H=>rfl
 | .refuse _,F,H=>rfl
theorem w_getAll (F:Fr) (g:Nat->Option Ob):∀ (l:List ResultVar),getAll (T.with_ e) F g l=getAll T F g l
 | []=>rfl
 | .tmp t :: r=>by simp only [getAll,w_getAll F g r]
 | .cell a t :: r=>by simp only [getAll,w_getAll F g r,w_part]
theorem w_res:resOf (T.with_ e)=resOf T:=by funext rs F g;simp only [resOf,w_getAll]
end
section
variable {T:Tab} {e:FuncId->Option (List V->Hp->Option (V×Hp))}
theorem w_call (h:∀ f,e f=T.ext f\/∃ ef,e f=some ef/\∀ k xs H r,evCall T k f xs H=some r->ef xs H=some r):∀ (k:Nat) (f:FuncId) (xs:List V) (H:Hp) (r:V×Hp),evCall T k f xs H=some r->evCall (T.with_ e) k f xs H=some r
 | 0,f,xs,H,r,hr=>by simp [evCall] at hr
 | k+1,f,xs,H,r,hr=>by
  rcases h f with hf | ⟨ef,hf,he⟩
  ·have ih:=w_call h k
   have hx:(T.with_ e).ext f=T.ext f:=hf
   simp only [evCall,with_fn,hx,w_res,w_code] at hr ⊢
   split at hr
   ·split at hr
    ·split at hr
     ·exact hr
     ·split at hr
      ·rename_i h1
       rw [evCode_le ih (Nat.le_refl k) _ h1]
       exact hr
      ·rename_i h1
       rw [evCode_le ih (Nat.le_refl k) _ h1]
       exact hr
      ·cases hr
    ·cases hr
   ·cases hr
  ·have hx:(T.with_ e).ext f=some ef:=hf
   have hq:=he (k+1) xs H r hr
   simp only [evCall,with_fn,hx] at hr ⊢
   split at hr
   ·split at hr
    ·exact hq
    ·cases hr
   ·cases hr
theorem w_wf (h:∀ f,e f=T.ext f\/∃ ef,e f=some ef/\∀ k xs H r,evCall T k f xs H=some r->ef xs H=some r) {f:FuncId} {xs:List V} {H:Hp} {Q:V->Hp->Prop} (hw:WF T f xs H Q):WF (T.with_ e) f xs H Q:=by
 obtain ⟨k,v,H',h1,h2⟩:=hw
 exact ⟨k,v,H',w_call h k _ _ _ _ h1,h2⟩
theorem w_slim (f:FuncId):∀ (c:Code),slimC (T.with_ e) f c=slimC T f c
 | .skip=>rfl
 | .label _=>rfl
 | .region _ ops false=>rfl
 | .region id ops true=>rfl
 | .seq a b=>by simp only [slimC,w_slim f a,w_slim f b]
 | .cond c a b=>by simp only [slimC,w_slim f a,w_slim f b]
 | .block id c=>by simp only [slimC,w_slim f c]
 | .scope c=>by simp only [slimC,w_slim f c]
 | .loop c=>by simp only [slimC,w_slim f c]
 | .exit id=>rfl
 | .ret=>rfl
 | .rangeFunc ..=>rfl
 | .goto ..=>rfl
 | .refuse _=>rfl
theorem w_plan (rk:Nat->Nat):planR rk (T.with_ e)=planR rk T:=by
 funext ops nt p anc
 simp only [planR,ckOne,ptAt,w_isPt]
theorem w_cd (an:FuncId->Nat->List Nat) (f:FuncId) (nt:Nat):∀ (c:Code),cdOk (T.with_ e) an f nt c=cdOk T an f nt c
 | .region _ ops false=>rfl
 | .region id ops true=>by
  simp only [cdOk,with_dr,with_alt,planOk,w_plan,altCk,dryOk,w_kind]
 | .seq a b=>by simp only [cdOk,w_cd an f nt a,w_cd an f nt b]
 | .cond _ a b=>by simp only [cdOk,w_cd an f nt a,w_cd an f nt b]
 | .block _ c=>by simp only [cdOk,w_cd an f nt c]
 | .scope c=>by simp only [cdOk,w_cd an f nt c]
 | .loop c=>by simp only [cdOk,w_cd an f nt c]
 | .skip=>rfl
 | .label _=>rfl
 | .exit _=>rfl
 | .ret=>rfl
 | .goto _=>rfl
 | .rangeFunc ..=>rfl
 | .refuse _=>rfl
theorem w_fnOk (an:FuncId->Nat->List Nat) (f:FuncId) (fn:Func):fnOk (T.with_ e) an f fn=fnOk T an f fn:=by simp only [fnOk,w_cd]
end
end Go.AM
