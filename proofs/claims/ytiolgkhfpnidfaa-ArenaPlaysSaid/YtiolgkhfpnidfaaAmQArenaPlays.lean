import Derived.Test.YtiolgkhfpnidfaaRows
import Derived.Test.YtiolgkhfpnidfaaAmG2
import Derived.Test.YtiolgkhfpnidfaaAmX
import Derived.Test.YtiolgkhfpnidfaaAmC3
import Derived.KernelRfl
import Derived.WalkKit
import Derived.ProofKit
import Derived.OpenShut
import Derived.ShutString
import Derived.ChangeOld
import Derived.Below
import Derived.SizedLaws
import Derived.ChangeBears2
set_option linter.unusedVariables false
set_option linter.unusedSimpArgs false
set_option linter.unnecessarySimpa false
namespace Go.Proofs.Ytiolgkhfpnidfaa.arenaPlays
open Go.ChangeShapes Go.WideShapes Go.ChangeAt Go.RowKit Go.AM
theorem own:ownKnob Try.prog.godebug=none:=by kernel_rfl
theorem laidOut:laidOutB Try.prog=true:=by kernel_rfl
theorem gl0 (D:Nat->Prop) (s:Sg):GlOk YtiolgkhfpnidfaaT.tab.ng D s:=fun g hg=>by rw [YtiolgkhfpnidfaaT.tab_ng] at hg;omega
theorem cells5:Try.prog.cellsOf 5=1:=by kernel_rfl
theorem cells63:Try.prog.cellsOf 63=1:=by kernel_rfl
theorem cells65:Try.prog.cellsOf 65=4:=by kernel_rfl
theorem u57:Try.prog.underlying 57=some (.slice 65):=by kernel_rfl
theorem u8b {n:Int} (h:(Lit.int .u8 n).wf=true):∃ k:Nat,n=k/\k < 256:=by
 simp [Lit.wf,IntKind.min,IntKind.max,IntKind.signed,IntKind.bits] at h
 exact ⟨n.toNat,by omega,by omega⟩
theorem i8b {n:Int} (h:(Lit.int .i8 n).wf=true) : -128<=n/\n < 128:=by
 simp [Lit.wf,IntKind.min,IntKind.max,IntKind.signed,IntKind.bits] at h
 omega
theorem list_of {α:Type} {P:Nat->α->Prop}:∀ (n:Nat),(∀ i,i < n->∃ x,P i x)->∃ l:List α,l.length=n/\∀ i x,l[i]? = some x->P i x
 | 0,_=>⟨[],rfl,fun i x h=>by simp at h⟩
 | n+1,h=>by
  obtain ⟨l,hl,hp⟩:=list_of n fun i hi=>h i (by omega)
  obtain ⟨x,hx⟩:=h n (by omega)
  refine ⟨l++[x],by simp [hl],fun i y hy=>?_⟩
  by_cases hi:i < l.length
  ·rw [List.getElem?_append_left hi] at hy;exact hp i y hy
  ·rw [List.getElem?_append_right (by omega)] at hy
   have:i=l.length:=by
    have:=(List.getElem?_eq_some_iff.1 hy).1
    simp at this;omega
   subst this
   simp at hy
   subst hy
   rw [hl];exact hx
open YtiolgkhfpnidfaaT (stC StOk stC_at stC_len) in
theorem st_flat:∀ L:List (Nat×Nat×Nat×Int),(L.flatMap stC).length=L.length*4
 | []=>rfl
 | x :: r=>by rw [List.flatMap_cons,List.length_append,st_flat r,stC_len,List.length_cons];omega
def stV (s:Nat×Nat×Nat×Int):List Value:=[.int .u8 (s.1:Nat),.int .u8 (s.2.1:Nat),.int .u8 (s.2.2.1:Nat),.int .i8 s.2.2.2]
theorem stV_at:∀ (L:List (Nat×Nat×Nat×Int)) (i:Nat) x,(L.flatMap stV)[i]? = some x->∃ s,L[i / 4]? = some s/\(stV s)[i % 4]? = some x
 | [],i,x,h=>by simp at h
 | y :: r,i,x,h=>by
  rw [List.flatMap_cons] at h
  by_cases hi:i < 4
  ·rw [List.getElem?_append_left (by simp [stV];omega)] at h
   exact ⟨y,by rw [show i / 4=0 by omega];rfl,by rw [show i % 4=i by omega];exact h⟩
  ·rw [List.getElem?_append_right (by simp [stV];omega)] at h
   obtain ⟨s,h1,h2⟩:=stV_at r (i-4) x (by simpa [stV] using h)
   exact ⟨s,by rw [show i / 4=(i-4) / 4+1 by omega,List.getElem?_cons_succ];exact h1,by rw [show i % 4=(i-4) % 4 by omega];exact h2⟩
theorem st_rv (D:Nat->Prop) (s:Sg):∀ L:List (Nat×Nat×Nat×Int),RvL D s (L.flatMap YtiolgkhfpnidfaaT.stC) (L.flatMap stV)
 | []=>.nil
 | x :: r=>.cons _ _ _ _ (.int _ _) (.cons _ _ _ _ (.int _ _) (.cons _ _ _ _ (.int _ _) (.cons _ _ _ _ (.int _ _) (st_rv D s r))))
set_option maxRecDepth 100000 in
theorem walk {H:Type} {enc:TypeId×Value->H} {W:World} {f:Nat} {v:Value} {x:DataW H×List MemPlace} (h:DataW.trod enc Try.prog W 0 (fun _=>true) true f 57 [v]=some x) :
  Calls Try.prog 8 #[v] W fun e w'=>e = .returned (.bool true)/\Below W.heap.size W w':=by
 rcases slice_in u57 cells65 (by omega) h with rfl | ⟨a,cap,rfl⟩ | ⟨b,off,len,cap,rfl,h1,h2,h3,h4⟩
 ·exact topR YtiolgkhfpnidfaaT.okP (l:=[]) (s:=fun _=>⟨0,0,0,0⟩) trivial (gl0 _ _) (fun i e z cs h=>by simp at h) (.cons _ _ _ _ .nils .nil) YtiolgkhfpnidfaaT.plays_nils
 ·exact topR YtiolgkhfpnidfaaT.okP (l:=[]) (s:=fun _=>⟨0,0,0,0⟩) trivial (gl0 _ _) (fun i e z cs h=>by simp at h) (.cons _ _ _ _ (.sle _ _) .nil) YtiolgkhfpnidfaaT.plays_sle
 ·have hel:∀ i,i < len->∃ y:Nat×Nat×Nat×Int,YtiolgkhfpnidfaaT.StOk y/\∀ (j:Nat) u,(stV y)[j]? = some u->W.cell? ⟨b,off+(i*4+j),none⟩=some u:=fun i hi=>by
   obtain ⟨cs,m,y,g1,g2,g3⟩:=h4 i hi
   obtain ⟨_,hp⟩:=struct_parts Try.underlying65 g3
   match cs,g1 with
   | [c0,c1,c2,c3'],_ =>
    simp at hp
    obtain ⟨⟨n0,y0,z0,g0⟩,⟨n1,y1,z1,g1⟩,⟨n2,y2,z2,g2'⟩,⟨n3,y3,z3,g3'⟩⟩:=hp
    simp [cells5] at g0 g1 g2'
    simp [cells63] at g3'
    obtain ⟨o,rfl,ho⟩:=leaf_int Try.underlying5 g0
    obtain ⟨a,rfl,ha⟩:=leaf_int Try.underlying5 g1
    obtain ⟨b',rfl,hb⟩:=leaf_int Try.underlying5 g2'
    obtain ⟨c,rfl,hc⟩:=leaf_int Try.underlying63 g3'
    obtain ⟨on,rfl,hon⟩:=u8b ho
    obtain ⟨an,rfl,han⟩:=u8b ha
    obtain ⟨bn,rfl,hbn⟩:=u8b hb
    have hcn:=i8b hc
    refine ⟨(on,an,bn,c),⟨hon,han,hbn,hcn.1,hcn.2⟩,fun j u hu=>?_⟩
    have hj:j < 4:=(List.getElem?_eq_some_iff.1 hu).1
    rw [g2 j hj];exact hu
  obtain ⟨Ls,hl,hP⟩:=list_of len hel
  subst hl
  have hcell:∀ (i:Nat) u,(Ls.flatMap stV)[i]? = some u->W.cell? ⟨b,off+i,none⟩=some u:=fun i u hu=>by
   obtain ⟨s,e1,e2⟩:=stV_at Ls i u hu
   have:=(hP (i / 4) s e1).2 (i % 4) u e2
   rw [show i / 4*4+i % 4=i by omega] at this
   exact this
  have hr:=rowR (e:=65) (l:=[(65,4,Ls.flatMap YtiolgkhfpnidfaaT.stC)]) (s:=fun _=>Loc.mk b off cap 4) (W:=W) (b:=b) (off:=off) (cap:=cap) (z:=4) (st_rv _ _ Ls) (List.all_eq_true.2 fun v hv=>by
    obtain ⟨y,_,hy⟩:=List.mem_flatMap.1 hv
    simp [YtiolgkhfpnidfaaT.stC] at hy
    rcases hy with rfl | rfl | rfl | rfl<;>rfl) (by rw [st_flat];omega) (by omega) h3 hcell
  refine topR YtiolgkhfpnidfaaT.okP (l:=[(65,4,Ls.flatMap YtiolgkhfpnidfaaT.stC)]) (s:=fun _=>Loc.mk b off cap 4) trivial (gl0 _ _) (fun i e z cs h=>?_) (.cons _ _ _ _ ?_ .nil) (vs:=[.sl 0 0 Ls.length none 4]) (YtiolgkhfpnidfaaT.plays_sl Ls fun s hs=>?_)
  ·cases i with
   | zero=>simp only [List.getElem?_cons_zero,Option.some.injEq,Prod.mk.injEq] at h;obtain ⟨rfl,rfl,rfl⟩:=h;exact hr
   | succ i=>simp at h
  ·have:=Rv.sln (D:=dR [(65,4,Ls.flatMap YtiolgkhfpnidfaaT.stC)]) (s:=fun _=>Loc.mk b off cap 4) 0 0 Ls.length 4 (by simp [dR]) rfl (by omega) (by simp) (by simpa using h2)
   simpa using this
  ·obtain ⟨i,hi⟩:=List.getElem?_of_mem hs
   exact (hP i s hi).1
set_option maxRecDepth 100000 in
theorem lifted (os:Os) (started:os.Started) (H:Type) (enc:TypeId×Value->H) :
  ReturnsInHanded {} Try.checked os 8 .any (Rows.arenaPlaysSpec.pre6 enc Try.prog Try.f8 Rows.arenaPlaysRow.domain false) (Rows.arenaPlaysSpec.post enc Try.prog Try.f8 false true false false):=by
 refine returnsInHanded_of_change_sized (C:=Try.checked) own started (by kernel_rfl) Try.func8
  (ChangeSpec.witness6 (enc:=enc) (C:=Try.checked) false ⟨#[],#[.slice none 0 0],[]⟩ 8 (by kernel_rfl) (by kernel_rfl) (by kernel_rfl) (by kernel_rfl)) ?_
 intro W base args ds gs before hval0 hW hcnd hsz0 _
 have hval:∀ (j:Nat) t v,Try.f8.params[j]? = some t->args[j]? = some v->Value.okWide Try.prog W .any base t v:=hval0
 have hW':=hW
 obtain ⟨p,q,hA0,hV,rfl,hfz,hnd⟩:=hW
 have hA:DataW.TrodAll enc Try.prog W 0 (fun _=>true) true Try.f8.params.toList args.toList ds p:=hA0
 rw [Try.params8] at hA hval
 obtain ⟨v0,vs0,d0,ds0,p0,q0,hargs,rfl,rfl,h0,r0⟩:=trodAll_cons hA
 obtain ⟨rfl,rfl,rfl⟩:=trodAll_nil r0
 obtain rfl:args = #[v0]:=by cases args;simp_all
 obtain ⟨rfl,rfl⟩:=trodVars_none hV
 have hlt:∀ x∈p0++([]),x.block < W.heap.size:=fun x hx=>by simpa using hW'.lt x (List.mem_append_left _ hx)
 have k0:∀ (W' : World),Below W.heap.size W W'->DataW.Trod enc Try.prog W' 0 (fun b=>decide (b < W.heap.size)) true 57 v0 d0 p0 :=
  fun W' hn=>Below.trod laidOut (by kernel_rfl) (of_decide_eq_true (by kernel_rfl)) h0 hn (fun x hx=>hlt x (List.mem_append_left _ hx))
 have o0:=hval 0 57 v0 rfl rfl
 obtain ⟨a0,len,cap,rfl⟩:=okWide_slice Try.underlying57 o0
 obtain ⟨fuel0,hf⟩:=h0
 have hf1:DataW.trod enc Try.prog W 0 (fun _=>true) true fuel0 57 [.slice a0 len cap]=some (d0,p0):=hf
 have hwalk:Calls Try.prog 8 #[_] W fun e w'=>e = .returned (.bool true)/\Below W.heap.size W w':=walk hf1
 clear hA0 hval0 hsz0
 refine hwalk.mono fun e W' ⟨he,bel⟩=>?_
 subst he
 exact ⟨_,rfl,_,_,_,[],_,[],hW',trodAll_mk1 (shut_bool Try.underlying4 _),(trodAll_cons_mk (k0 W' bel) trodAll_mk0),rfl,bel.frame _,fun h=>by cases h⟩
theorem over:Rows.arenaPlaysRow.holds Try.pinned (OpenSpec.ofChange Rows.arenaPlaysSpec) :=
 OpenClaim.holds_of_wide 8 Try.f8 rfl rfl rfl rfl rfl rfl rfl ⟨rfl,rfl,rfl,rfl,rfl⟩ rfl rfl rfl rfl rfl (by kernel_rfl) Try.func8 (by kernel_rfl)
  (of_decide_eq_true (by kernel_rfl)) (by unfold Func.isWrapper;first | (rw [if_pos (by decide +kernel)];kernel_rfl) | (rw [if_neg (by decide +kernel)];exact ⟨rfl,rfl⟩))
  (fun os started H enc _=>lifted os started H enc)
end Go.Proofs.Ytiolgkhfpnidfaa.arenaPlays
namespace Go.Proofs.Ytiolgkhfpnidfaa
theorem arenaPlays_holds:Rows.ArenaPlaysSaid:=arenaPlays.over
#print axioms arenaPlays_holds
end Go.Proofs.Ytiolgkhfpnidfaa
