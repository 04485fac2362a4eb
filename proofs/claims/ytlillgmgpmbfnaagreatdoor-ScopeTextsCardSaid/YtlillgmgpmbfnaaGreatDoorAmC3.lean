/- Parts of the abstract machine and of the walks over it, joined: what the law that is claimed here leans on. -/
import Derived.Test.YtlillgmgpmbfnaaGreatDoorAmC2
import Derived.WalkSmall
import Derived.WalkKit
import Derived.ProofKit
import Derived.OpenShut
import Derived.ShutString
import Derived.ChangeOld
import Derived.SizedLaws
import Derived.ChangeBears2
import Derived.Deep.Slices
import Derived.RangeFuncRecord
import Derived.RangeFuncSeq
import Derived.LoopNIn
import Derived.Lib.ItoaNum
import Derived.Lib.ParseIntB
import Derived.Lib.Join
import Derived.Lib.Repeat
import Derived.Stop.LaidErr
import Derived.LaidMore
import Derived.ChangeMaps3
set_option linter.unusedVariables false
set_option linter.unusedSimpArgs false
namespace Go.AM
open Go Go.RowKit
section
variable {T:Tab} {P:Program} {D:Nat->Prop} {s:Sg} {n0:Nat} {w0 w w' : World} {H:Hp} {nt:NT} {ts:List Tmp} {F:Fr} {a:Act}
theorem Wm.trans {s1:Sg} {H1 H' : Hp} {F1:Fr} {w1:World} {a' : Act} {v:V} {e:Exit} (hs:Step n0 w0 D s H w s1 H1 w1) (hF:∀ t,t∈ts->F1.get t=F.get t) (h:Wm T n0 w0 nt ts F1 (Dn D H.next H1.next) s1 H1 w1 v H' e a' w'):Wm T n0 w0 nt ts F D s H w v H' e a' w':=by
 obtain ⟨x,s',h0,h1,h2,h3,h4⟩:=h
 refine ⟨x,s',h0,hs.trans h1,?_,h3,fun t ht u hu=>?_⟩
 ·rw [<- V5 D hs.next h1.next]
  exact h2
 ·rw [<- V5 D hs.next h1.next]
  exact h4 t ht u (by rw [hF t ht];exact hu)
theorem Wm.keep {H' : Hp} {F1:Fr} {a' : Act} {v:V} {e:Exit} (hF:∀ t,t∈ts->F1.get t=F.get t) (h:Wm T n0 w0 nt ts F1 D s H w v H' e a' w'):Wm T n0 w0 nt ts F D s H w v H' e a' w':=by
 obtain ⟨x,s',h0,h1,h2,h3,h4⟩:=h
 exact ⟨x,s',h0,h1,h2,h3,fun t ht u hu=>h4 t ht u (by rw [hF t ht];exact hu)⟩
def U5 (ts:List Tmp) (o:Oper):Bool:=match o.dst with | some t=>!ts.contains t | none=>true
def Yh (ts:List Tmp):Code->Bool
 | .region _ ops _=>ops.toList.all (U5 ts)
 | .seq a b=>Yh ts a&&Yh ts b
 | .cond _ a b=>Yh ts a&&Yh ts b
 | .block _ c=>Yh ts c
 | .scope c=>Yh ts c
 | .loop c=>Yh ts c
 | _=>true
theorem Zt3 (o:Oper):U5 [] o=true:=by unfold U5;cases o.dst<;>rfl
theorem W4:∀ c:Code,Yh [] c=true
 | .region _ ops _=>by simp only [Yh,List.all_eq_true];exact fun o _=>Zt3 o
 | .seq a b=>by simp only [Yh,W4 a,W4 b];rfl
 | .cond _ a b=>by simp only [Yh,W4 a,W4 b];rfl
 | .block _ c=>by simp only [Yh,W4 c]
 | .scope c=>by simp only [Yh,W4 c]
 | .loop c=>by simp only [Yh,W4 c]
 | .skip=>rfl
 | .label _=>rfl
 | .exit _=>rfl
 | .ret=>rfl
 | .goto _=>rfl
 | .rangeFunc ..=>rfl
 | .refuse _=>rfl
theorem Zga {o:Oper} (h:U5 ts o=true) {t:Tmp} (ht:t∈ts):o.dst≠some t:=fun e=>by
 unfold U5 at h
 rw [e] at h
 simp at h
 exact h ht
theorem Ua {o:Oper} (h:U5 ts o=true) {t:Tmp} (ht:t∈ts) (F:Fr) (v:V):(putD F o.dst v).get t=F.get t:=by
 have:=Zga h ht
 cases hd:o.dst with
 | none=>rfl
 | some u=>simp only [putD,Tr.get_set];rw [if_neg (fun e=>this (by rw [hd,e]))]
theorem Uk {o:Oper} (h:U5 ts o=true) {t:Tmp} (ht:t∈ts) (F:Fr):(delD F o.dst).get t=F.get t:=by
 have:=Zga h ht
 cases hd:o.dst with
 | none=>rfl
 | some u=>simp only [delD,Tr.get_set];rw [if_neg (fun e=>this (by rw [hd,e]))]
theorem Um {call:CallE} {ops:Array Oper}:∀ (l:List Oper) {F F' : Fr} {H H' : Hp},(∀ o∈l,U5 ts o=true)->Z1 T call ops l F H=some (F',H')->∀ t,t∈ts->F'.get t=F.get t
 | [],F,F',H,H',_,h,t,ht=>by simp only [Z1] at h;cases h;rfl
 | o :: r,F,F',H,H',hn,h,t,ht=>by
  have ho:=hn o (by simp)
  have hr:∀ o∈r,U5 ts o=true:=fun o' h'=>hn o' (by simp [h'])
  simp only [Z1] at h
  split at h
  ·split at h
   ·rw [Um r hr h t ht,Ua ho ht]
   ·rw [Um r hr h t ht,Uk ho ht]
   ·split at h
    ·rw [Um r hr h t ht,Ua ho ht]
    ·cases h
   ·split at h
    ·rw [Um r hr h t ht,Uk ho ht]
    ·cases h
  ·rw [Um r hr h t ht,Uk ho ht]
  ·cases h
theorem V3 {call:CallE} {ops:Array Oper} (hn:∀ o∈ops.toList,U5 ts o=true):∀ (l:List (Nat×Nat)) {F F' : Fr} {H H' : Hp} {B:List Hp},Zv T call ops l F H B=some (F',H')->∀ t,t∈ts->F'.get t=F.get t
 | [],F,F',H,H',B,h,t,ht=>by simp only [Zv] at h;cases h;rfl
 | (i,m) :: r,F,F',H,H',B,h,t,ht=>by
  simp only [Zv] at h
  split at h
  ·cases h
  ·rename_i o hio
   have ho:=hn o (by rw [Array.mem_toList_iff];exact Array.mem_of_getElem? hio)
   split at h
   ·split at h
    ·split at h
     ·rw [V3 hn r h t ht,Ua ho ht]
     ·split at h
      ·rw [V3 hn r h t ht,Ua ho ht]
      ·cases h
    ·rw [V3 hn r h t ht,Uk ho ht]
    ·split at h
     ·rw [V3 hn r h t ht,Ua ho ht]
     ·cases h
    ·cases h
   ·rw [V3 hn r h t ht,Uk ho ht]
   ·cases h
theorem Zh7 {b:Fr->Hp->Option (Out×Fr×Hp)} (hb:∀ F H o F' H',b F H=some (o,F',H')->∀ t,t∈ts->F'.get t=F.get t):∀ (n:Nat) {F F' : Fr} {H H' : Hp} {o:Out},Yo b n F H=some (o,F',H')->∀ t,t∈ts->F'.get t=F.get t
 | 0,_,_,_,_,_,h,_,_=>by simp [Yo] at h
 | n+1,F,F',H,H',o,h,t,ht=>by
  simp only [Yo] at h
  split at h
  ·rename_i h1;rw [Zh7 hb n h t ht,hb _ _ _ _ _ h1 t ht]
  ·exact hb _ _ _ _ _ h t ht
theorem Xi {call:CallE} {f:FuncId} {n:Nat}:∀ (c:Code) {F F' : Fr} {H H' : Hp} {o:Out},Yh ts c=true->Zc T call f n c F H=some (o,F',H')->∀ t,t∈ts->F'.get t=F.get t
 | .skip,F,F',H,H',o,_,h,t,ht=>by simp only [Zc] at h;cases h;rfl
 | .label _,F,F',H,H',o,_,h,t,ht=>by simp only [Zc] at h;cases h;rfl
 | .exit _,F,F',H,H',o,_,h,t,ht=>by simp only [Zc] at h;cases h;rfl
 | .ret,F,F',H,H',o,_,h,t,ht=>by simp only [Zc] at h;cases h;rfl
 | .goto _,F,F',H,H',o,_,h,t,ht=>by simp [Zc] at h
 | .rangeFunc ..,F,F',H,H',o,_,h,t,ht=>by simp [Zc] at h
 | .refuse _,F,F',H,H',o,_,h,t,ht=>by simp [Zc] at h
 | .region _ ops false,F,F',H,H',o,hn,h,t,ht=>by
  simp only [Yh,List.all_eq_true] at hn
  simp only [Zc] at h
  split at h
  ·rename_i h1;cases h;exact Um _ hn h1 t ht
  ·cases h
 | .region id ops true,F,F',H,H',o,hn,h,t,ht=>by
  simp only [Yh,List.all_eq_true] at hn
  simp only [Zc] at h
  split at h
  ·split at h
   ·split at h
    ·rename_i h1 _;cases h;exact V3 hn _ h1 t ht
    ·cases h
   ·cases h
  ·cases h
 | .seq a b,F,F',H,H',o,hn,h,t,ht=>by
  simp only [Yh,Bool.and_eq_true] at hn
  simp only [Zc] at h
  split at h
  ·rename_i h1;rw [Xi b hn.2 h t ht,Xi a hn.1 h1 t ht]
  ·exact Xi a hn.1 h t ht
 | .cond x a b,F,F',H,H',o,hn,h,t,ht=>by
  simp only [Yh,Bool.and_eq_true] at hn
  simp only [Zc] at h
  split at h
  ·exact Xi a hn.1 h t ht
  ·exact Xi b hn.2 h t ht
  ·cases h
 | .block id c,F,F',H,H',o,hn,h,t,ht=>by
  simp only [Yh] at hn
  simp only [Zc] at h
  split at h
  ·rename_i h1;split at h<;>cases h<;>exact Xi c hn h1 t ht
  ·exact Xi c hn h t ht
 | .scope c,F,F',H,H',o,hn,h,t,ht=>by
  simp only [Yh] at hn
  simp only [Zc] at h
  exact Xi c hn h t ht
 | .loop c,F,F',H,H',o,hn,h,t,ht=>by
  simp only [Yh] at hn
  simp only [Zc] at h
  exact Zh7 (fun F H o F' H' h=>Xi c hn h) n h t ht
theorem Zau (hM:MachOk T P) (hn:n0<=w0.heap.size) {call pan:CallE} (hc:Vm T P n0 w0 call) (hcg:Z4 call) (hpan:Zbg T P n0 w0 pan) (hpg:Z4 pan) {ops:Array Oper} {Q:Exit->Act->World->Prop} :
  ∀ (l:List Oper) (i:Nat) {D:Nat->Prop} {s:Sg} {F:Fr} {H H' : Hp} {v:V} {a:Act} {w:World},(∀ j,j < l.length->ops[i+j]? = l[j]?)->(∀ o∈l,∀ t,o.dst=some t->t < nt)->(∀ o∈l,U5 ts o=true) ->
   Yz T call pan ops l F H=some (v,H')->Pre T n0 w0 nt D s F H a w->Zz D H H' ->
   (∀ e a' w',Wm T n0 w0 nt ts F D s H w v H' e a' w'->Q e a' w')->wpOps P ops Q (List.range' i l.length) a w
 | [],i,D,s,F,H,H',v,a,w,_,_,_,h,hP,hf,hQ=>by simp [Yz] at h
 | o :: r,i,D,s,F,H,H',v,a,w,hl,hd,hn',h,hP,hf,hQ=>by
  have hno:=hn' o (by simp)
  have hnr:∀ o'∈r,U5 ts o' = true:=fun o' h'=>hn' o' (by simp [h'])
  have ho:ops[i]? = some o:=by have:=hl 0 (by simp);simpa using this
  have hl' : ∀ j,j < r.length->ops[i+1+j]? = r[j]?:=fun j hj=>by
   have:=hl (j+1) (by simpa using hj)
   rw [show i+1+j=i+(j+1) from by omega,this];simp
  have hd' : ∀ o'∈r,∀ t,o'.dst=some t->t < nt:=fun o' h'=>hd o' (by simp [h'])
  have hdo:∀ t,o.dst=some t->t < a.tmps.size:=fun t ht=>Nat.lt_of_lt_of_le (hd o (by simp) t ht) hP.size
  have hall:=Wc hcg hpg (o :: r) hP.good h
  have hf1:=hf.first hall.le
  simp only [Yz] at h
  simp only [List.length_cons,List.range'_succ,wpOps,ho]
  split at h
  ·rename_i hw
   rw [Xk hP.fr hw,if_pos rfl]
   left
   unfold Oper.wp
   split at h
   ·rename_i v1 H1 hop
    have g1:=Wz hP.good hop
    have g2:=Wc hcg hpg r g1.good h
    obtain ⟨x,s1,w1,hr,hs,hv⟩:=Wx hM.tab hP.gl hP.fr hP.sat hn hf1 hP.good o hop
    rw [hr]
    have hF1:FrOk (Dn D H.next H1.next) s1 (putD F o.dst v1) (a.put o.dst x):=(hP.fr.mono (fun b hb=>.inl hb) hs.same).put hdo hv
    have hP1:=hP.next hs hF1 g1.good (by rw [Xa];exact hP.size) (by rw [Ym];exact hP.defers)
    exact Zau hM hn hc hcg hpan hpg r (i+1) hl' hd' hnr h hP1 (hf.right g1.le) (fun e a' w' h'=>hQ e a' w' (Wm.trans hs (fun t ht=>Ua hno ht _ _) h'))
   ·rename_i H1 hop
    have g1:=Vu hP.good hop
    have g2:=Wc hcg hpg r g1.good h
    obtain ⟨s1,w1,hr,hs⟩:=Wx hM.tab hP.gl hP.fr hP.sat hn hf1 hP.good o hop
    rw [hr]
    have hF1:FrOk (Dn D H.next H1.next) s1 (delD F o.dst) (a.put o.dst undef):=(hP.fr.mono (fun b hb=>.inl hb) hs.same).del hdo
    have hP1:=hP.next hs hF1 g1.good (by rw [Xa];exact hP.size) (by rw [Ym];exact hP.defers)
    exact Zau hM hn hc hcg hpan hpg r (i+1) hl' hd' hnr h hP1 (hf.right g1.le) (fun e a' w' h'=>hQ e a' w' (Wm.trans hs (fun t ht=>Uk hno ht _) h'))
   ·rename_i g vs H0 hop
    have g0:=Xz hP.good hop
    obtain ⟨rfl,xs,hxs,hr⟩:=Wx hM.tab hP.gl hP.fr hP.sat hn hf1 hP.good o hop
    split at h
    ·rename_i v1 H1 hcl
     have g1:=hcg _ _ _ _ _ hcl g0.good
     have g2:=Wc hcg hpg r g1.good h
     have hfc:Zz D H.flush H1:=fun b h1 h2=>hf b (by rw [Hp.next_flush] at h1;exact h1) (Nat.le_trans h2 g2.le)
     obtain ⟨⟨fn,c,e1,e2⟩,hcalls⟩:=hc _ _ _ _ _ hcl D s w xs hP.gl hxs hP.sat.flush g0.good hfc
     rw [hr,Wy hM e1 e2]
     refine Calls.mono hcalls fun e w1 he=>?_
     cases e with
     | returned x =>
      obtain ⟨s1,hs0,hv⟩:=he
      have hs:Step n0 w0 D s H w s1 H1 w1:=(Step.flush hP.sat).trans (by rw [Hp.next_flush,Yj];exact hs0)
      rw [Hp.next_flush] at hv
      have hF1:FrOk (Dn D H.next H1.next) s1 (putD F o.dst v1) (a.put o.dst x):=(hP.fr.mono (fun b hb=>.inl hb) hs.same).put hdo hv
      have hP1:=hP.next hs hF1 g1.good (by rw [Xa];exact hP.size) (by rw [Ym];exact hP.defers)
      exact Zau hM hn hc hcg hpan hpg r (i+1) hl' hd' hnr h hP1 (hf.right hs.next) (fun e a' w' h'=>hQ e a' w' (Wm.trans hs (fun t ht=>Ua hno ht _ _) h'))
     | panicked c=>exact he.elim
     | outgrown=>exact he.elim
    ·have hfc:Zz D H.flush H':=fun b h1 h2=>hf b (by rw [Hp.next_flush] at h1;exact h1) h2
     obtain ⟨⟨fn,c,e1,e2⟩,hcalls⟩:=hpan _ _ _ _ _ h D s w xs hP.gl hxs hP.sat.flush g0.good hfc
     rw [hr,Wy hM e1 e2]
     refine Calls.mono hcalls fun e w1 he=>?_
     cases e with
     | returned x=>exact he.elim
     | outgrown=>exact he.elim
     | panicked ch =>
      obtain ⟨x,s1,rfl,hs0,hv⟩:=he
      rw [Hp.next_flush] at hv
      have hs2:Step n0 w0 D s H w s1 H' w1:=(Step.flush hP.sat).trans (by rw [Hp.next_flush,Yj];exact hs0)
      refine hQ _ _ _ ⟨x,s1,rfl,hs2,hv,hP.defers,fun t ht u hu=>?_⟩
      obtain ⟨y,h1,h2⟩:=hP.fr t u hu
      exact ⟨y,h1,h2.mono (fun b hb=>.inl hb) hs2.same⟩
   ·split at h
    ·rename_i x hox
     split at h
     ·rename_i t u hu
      cases h
      have hu':=Zm hP.gl hP.fr hu
      generalize hz:a.eval x=y at hu'
      have hu2:=hu'
      cases hu' with
      | ifc _ _ z hz' =>
       have hr:(execOp a.eval o).run P w = .halt (.panic (.iface t z)) w:=by simp [execOp,hox,hz,run_panic_iface]
       rw [hr]
       refine hQ _ _ _ ⟨_,s,rfl,Step.flush hP.sat,?_,hP.defers,fun t ht u hu=>?_⟩
       ·rw [Hp.next_flush,Yj]
        exact hu2
       ·rw [Hp.next_flush,Yj]
        exact hP.fr t u hu
     ·cases h
    ·cases h
  ·rename_i hw
   rw [Xk hP.fr hw,if_neg (by simp)]
   have hP1:Pre T n0 w0 nt D s (delD F o.dst) H (a.put o.dst undef) w:=⟨hP.gl,hP.fr.del hdo,hP.sat,hP.good,by rw [Xa];exact hP.size,by rw [Ym];exact hP.defers⟩
   exact Zau hM hn hc hcg hpan hpg r (i+1) hl' hd' hnr h hP1 hf (fun e a' w' h'=>hQ e a' w' (Wm.keep (fun t ht=>Uk hno ht _) h'))
  ·cases h
variable {f:FuncId}
def Z29 (T:Tab) (n0:Nat) (w0:World) (nt:NT) (ts:List Tmp) (F:Fr) (body:Fr->Hp->Option (Out×Fr×Hp)) (bodyP:Fr->Hp->Option (V×Hp)) (D:Nat->Prop) (s:Sg) (H:Hp) (w:World) (v:V) (H' : Hp) (n:Nat) (a1:Act) (w1:World):Prop :=
 ∃ s1 F1 H1,Step n0 w0 D s H w s1 H1 w1/\Pre T n0 w0 nt (Dn D H.next H1.next) s1 F1 H1 a1 w1/\Zz (Dn D H.next H1.next) H1 H'/\Wu body bodyP n F1 H1=some (v,H')/\∀ t,t∈ts->F1.get t=F.get t
theorem Wv (hM:MachOk T P) (hn:n0<=w0.heap.size) {an:FuncId->Nat->List Nat} {call pan:CallE} (hc:Vm T P n0 w0 call) (hcg:Z4 call) (hpan:Zbg T P n0 w0 pan) (hpg:Z4 pan) {n:Nat} :
  ∀ (c:Code),cdOk T an f nt c=true->Yh ts c=true->∀ {D:Nat->Prop} {s:Sg} {F:Fr} {H H' : Hp} {v:V} {a:Act} {w:World},Zg T call pan f n c F H=some (v,H')->Pre T n0 w0 nt D s F H a w->Zz D H H' ->
   c.wp P (Wm T n0 w0 nt ts F D s H w v H') a w
 | .skip,_,_,D,s,F,H,H',v,a,w,h,hP,hf=>by simp [Zg] at h
 | .label _,_,_,D,s,F,H,H',v,a,w,h,hP,hf=>by simp [Zg] at h
 | .exit _,_,_,D,s,F,H,H',v,a,w,h,hP,hf=>by simp [Zg] at h
 | .ret,_,_,D,s,F,H,H',v,a,w,h,hP,hf=>by simp [Zg] at h
 | .goto _,_,_,_,_,_,_,_,_,_,_,h,_,_=>by simp [Zg] at h
 | .rangeFunc ..,_,_,_,_,_,_,_,_,_,_,h,_,_=>by simp [Zg] at h
 | .refuse _,_,_,_,_,_,_,_,_,_,_,h,_,_=>by simp [Zg] at h
 | .region id ops false,hk,hnd,D,s,F,H,H',v,a,w,h,hP,hf=>by
  simp only [Zg] at h
  refine wp_region ?_
  have hk' : CdOk T P n0 w0 f nt (.region id ops false):=Yi hM hn _ hk
  have:=Zau (ops:=ops) (Q:=Wm T n0 w0 nt ts F D s H w v H') hM hn hc hcg hpan hpg ops.toList 0 (fun j hj=>by simp) hk' (by simpa only [Yh,List.all_eq_true] using hnd) h hP hf (fun e a' w' h'=>h')
  rw [List.range_eq_range']
  simpa using this
 | .region id ops true,hk,hnd,D,s,F,H,H',v,a,w,h,hP,hf=>by
  simp only [Zg] at h
  split at h
  ·rename_i p hp
   have hts:∀ (i:Nat) o t,ops[i]? = some o->o.dst=some t->t∉ts:=fun i o t ho hd ht=>Zga (ts:=ts) (by simp only [Yh,List.all_eq_true] at hnd;exact hnd o (by rw [Array.mem_toList_iff];exact Array.mem_of_getElem? ho)) ht hd
   cases ha:T.alt f id with
   | none =>
    simp only [cdOk,hp,ha] at hk
    exact Zzg hM hn hc hcg hpan hpg hk hts h hP hf
   | some A =>
    simp only [cdOk,hp,ha] at hk
    exact Z1q hM hn hc hcg hpan hpg hk hts h hP hf
  ·cases h
 | .seq x y,hk,hnd,D,s,F,H,H',v,a,w,h,hP,hf=>by
  simp only [cdOk,Bool.and_eq_true] at hk
  simp only [Yh,Bool.and_eq_true] at hnd
  simp only [Zg] at h
  split at h
  ·rename_i F1 H1 h1
   have g1:=Zr hcg x hP.good h1
   have g2:=Yv hcg hpg y g1.good h
   refine wp_seq (wp_mono (Yd hM hn hc hcg x (Yi hM hn _ hk.1) h1 hP (hf.left g2.le)) fun e a1 w1 he=>?_)
   obtain ⟨rfl,s1,hs,hF1,hz,hdf⟩:=he
   have hP1:=hP.next hs hF1 g1.good hz hdf
   exact wp_mono (Wv hM hn hc hcg hpan hpg y hk.2 hnd.2 h hP1 (hf.right g1.le)) fun e a2 w2 he=>Wm.trans hs (Xi x hnd.1 h1) he
  ·cases h
  ·refine wp_seq (wp_mono (Wv hM hn hc hcg hpan hpg x hk.1 hnd.1 h hP hf) fun e a1 w1 he=>?_)
   obtain ⟨u,s',rfl,he⟩:=he
   exact ⟨u,s',rfl,he⟩
 | .cond x y z,hk,hnd,D,s,F,H,H',v,a,w,h,hP,hf=>by
  simp only [cdOk,Bool.and_eq_true] at hk
  simp only [Yh,Bool.and_eq_true] at hnd
  simp only [Zg] at h
  split at h
  ·rename_i hx
   have hx':=Zm hP.gl hP.fr hx
   generalize hz:a.eval x=u at hx'
   cases hx'
   exact wp_cond_true hz (Wv hM hn hc hcg hpan hpg y hk.1 hnd.1 h hP hf)
  ·rename_i hx
   have hx':=Zm hP.gl hP.fr hx
   generalize hz:a.eval x=u at hx'
   cases hx'
   exact wp_cond_false hz (Wv hM hn hc hcg hpan hpg z hk.2 hnd.2 h hP hf)
  ·cases h
 | .block id c,hk,hnd,D,s,F,H,H',v,a,w,h,hP,hf=>by
  simp only [Zg] at h
  refine wp_block (wp_mono (Wv hM hn hc hcg hpan hpg c (by simpa only [cdOk] using hk) (by simpa only [Yh] using hnd) h hP hf) fun e a1 w1 he=>?_)
  obtain ⟨u,s',rfl,he⟩:=he
  exact ⟨u,s',rfl,he⟩
 | .scope c,hk,hnd,D,s,F,H,H',v,a,w,h,hP,hf=>by
  simp only [Zg] at h
  refine wp_scope_straight (wp_mono (Wv hM hn hc hcg hpan hpg c (by simpa only [cdOk] using hk) (by simpa only [Yh] using hnd) h hP hf) fun e a1 w1 he=>?_)
  obtain ⟨u,s',rfl,he⟩:=he
  exact ⟨u,s',rfl,he⟩
 | .loop c,hk,hnd,D,s,F,H,H',v,a,w,h,hP,hf=>by
  simp only [Zg] at h
  have hk:cdOk T an f nt c=true:=by simpa only [cdOk] using hk
  have hnd:Yh ts c=true:=by simpa only [Yh] using hnd
  have hbg:∀ F H o F' H',Zc T call f n c F H=some (o,F',H')->Good H->Grow H H':=fun F H o F' H' hb hG=>Zr hcg c hG hb
  have hbp:∀ F H v H',Zg T call pan f n c F H=some (v,H')->Good H->Grow H H':=fun F H v H' hb hG=>Yv hcg hpg c hG hb
  refine Zmo (Z29 T n0 w0 nt ts F (Zc T call f n c) (Zg T call pan f n c) D s H w v H') (fun a1 w1 hR=>?_) (fun m a1 w1 hR=>?_) (n:=n) ?_
  ·obtain ⟨s1,F1,H1,_,_,_,hl,_⟩:=hR
   simp [Wu] at hl
  ·obtain ⟨s1,F1,H1,hs,hP1,hf1,hl,hk1⟩:=hR
   simp only [Wu] at hl
   split at hl
   ·rename_i F2 H2 h2
    have g1:=hbg _ _ _ _ _ h2 hP1.good
    have g2:=Zdt hbg hbp m g1.good hl
    refine wp_mono (Yd hM hn hc hcg c (Yi hM hn _ hk) h2 hP1 (hf1.left g2.le)) fun e a2 w2 he=>?_
    obtain ⟨rfl,s2,hs2,hF2,hz,hdf⟩:=he
    have hP2:=hP1.next hs2 hF2 g1.good hz hdf
    have hf2:=hf1.right (H1:=H2) g1.le
    rw [V5 D hs.next hs2.next] at hP2 hf2
    exact ⟨s2,F2,H2,hs.trans hs2,hP2,hf2,hl,fun t ht=>by rw [Xi c hnd h2 t ht,hk1 t ht]⟩
   ·cases hl
   ·refine wp_mono (Wv hM hn hc hcg hpan hpg c hk hnd hl hP1 hf1) fun e a2 w2 he=>?_
    obtain ⟨u,s',rfl,h2⟩:=Wm.trans hs hk1 he
    exact ⟨u,s',rfl,h2⟩
  ·exact ⟨s,F,H,Step.refl hP.sat,by rw [Yj];exact hP,by rw [Yj];exact hf,h,fun _ _=>rfl⟩
theorem DQ.none (hq:∀ g,T.quiet g=false) {l:List Deferred} (h:DQ T nt l):l=nt.base:=by
 obtain ⟨l',rfl,h⟩:=h
 cases l' with
 | nil=>rfl
 | cons d r =>
  obtain ⟨g,cap,_,hg⟩:=h d (by simp)
  rw [hq] at hg;cases hg
theorem Zmk (hM:MachOk T P) (hI:T.init n0 w0) (hn:n0<=w0.heap.size) (hq:∀ g,T.quiet g=false) {an:FuncId->Nat->List Nat} (hcd:∀ f fn c (b:List Deferred),T.fn f=some fn->fn.body=some c->cdOk T an f (⟨fn.ntmps,b⟩:NT) c=true):∀ k,Zbg T P n0 w0 (Xl T k)
 | 0=>fun f vs H v H' h=>by simp [Xl] at h
 | k+1=>fun f vs H v H' h D s w xs hg hxs hS hG hf=>by
  simp only [Xl] at h
  split at h
  ·rename_i fn hfn
   split at h
   ·rename_i c hbody
    refine ⟨⟨fn,c,hfn,hbody⟩,?_⟩
    split at h
    ·cases h
    have hP:Pre T n0 w0 ⟨fn.ntmps,[]⟩ D s (frame vs 0 .nil) H { tmps:=xs++Array.replicate (fn.ntmps-xs.size) undef,defers:=[] } w:=by
     refine ⟨hg,Zbt vs 0 .nil (fun t v h=>by simp [Tr.get] at h) (fun j v hj=>?_),hS,hG,by show fn.ntmps<=_;simp;omega,[],rfl,fun d hd=>by cases hd⟩
     obtain ⟨x,h1,h2⟩:=hxs.get j v hj
     rw [Array.getElem?_toList] at h1
     refine ⟨x,?_,h2⟩
     have hlt:j < xs.size:=(Array.getElem?_eq_some_iff.1 h1).1
     rw [Nat.zero_add,Array.getElem?_append_left hlt]
     exact h1
    refine calls_of_wp_defers (hM.tab.fn f fn hfn) hbody (wp_mono (Wv hM hn (an:=an) (Zeq hM hI hn (fun f fn c b h1 h2=>Yi hM hn c (hcd f fn c b h1 h2)) k) (Xp hM.extg k) (Zmk hM hI hn hq hcd k) (Za8 hM.extg k) c (hcd f fn c [] hfn hbody) (W4 c) h hP hf) fun e a' w' he=>?_)
    obtain ⟨x,s',rfl,hs,hv,hdf,_⟩:=he
    have hdf:=hdf.none hq
    show Leaves P fn a'.tmps _ a'.defers (.panicking _) w'
    rw [hdf]
    exact ⟨x,s',rfl,hs,hv⟩
   ·cases h
  ·cases h
theorem ProgOk.pans {an:FuncId->Nat->List Nat} (h:ProgOk T P an) (hI:T.init n0 w0) (hn:n0<=w0.heap.size) (hq:∀ g,T.quiet g=false) (k:Nat):Zbg T P n0 w0 (Xl T k) :=
 Zmk h.mach hI hn hq (fun f fn c b hf hb=>by
  have:=h.code f fn hf
  simp only [fnOk,hb,Bool.and_eq_true] at this
  exact this.1) k
end
end Go.AM
namespace Go.AM
open Go Go.RowKit
def noD:Nat->Prop:=fun _=>False
def noS:Sg:=fun _=>⟨0,0,0,0⟩
def h0:Hp:=⟨0,.nil,[]⟩
theorem sat0 (w:World):Sat w.heap.size w noD noS h0 w :=
 ⟨Below.refl _ _,fun _ _ _ _ _ h=>h.elim,fun _ _ _ _ h=>h.elim,fun _ _ _ _ _ h=>h.elim,fun _ _ h=>h.elim,fun _ _ _ _ _ _ _ _ _ h=>h.elim⟩
theorem Z8w:Good h0:=⟨fun b _=>by simp [h0,Hp.get,Tr.get],fun x h=>by simp [h0] at h⟩
theorem top {T:Tab} {P:Program} {an:FuncId->Nat->List Nat} (hT:ProgOk T P an) (hng:T.ng=0) {f:FuncId} {vs:List V} {args:Array Value} {k:Nat} {v:V} {H' : Hp} (hr:RvL noD noS vs args.toList) (h:Zo T k f vs h0=some (v,H')) (W:World) (hI:T.init W.heap.size W) :
  Calls P f args W fun e w'=>match e with | .returned x=>Below W.heap.size W w'/\∃ D s,Rv D s v x | _=>False:=by
 obtain ⟨_,hc⟩:=(hT.calls (n0:=W.heap.size) (w0:=W) hI (Nat.le_refl _) k) f vs h0 v H' h noD noS W args (fun g hg=>by rw [hng] at hg;omega) hr (sat0 W) Z8w (fun b _ _ h=>h)
 refine hc.mono fun e w' he=>?_
 cases e with
 | returned x =>
  obtain ⟨s',h1,h2⟩:=he
  exact ⟨h1.sat.below,_,_,h2⟩
 | panicked c=>exact he
 | outgrown=>exact he
end Go.AM
namespace Go.AM
open Go
abbrev SOp:=Option Tmp×Op×Option (Option Tmp×Bool)
inductive SCode where
 | skip
 | reg (l:List SOp)
 | dreg (l:List (SOp×Nat))
 | areg (l:List (SOp×Nat)) (u v:Tmp)
 | seq (a b:SCode)
 | cond (c:Operand) (a b:SCode)
 | block (id:Nat) (c:SCode)
 | loop (c:SCode)
 | exit (id:Nat)
 | ret
 | bad
def U4 (ops:Array Oper):Option (Nat×Bool)->Option (Option Tmp×Bool)
 | none=>none
 | some (j,w)=>some (match ops[j]? with | some o=>o.dst | none=>none,w)
def Zcc (ops:Array Oper) (o:Oper):SOp:=(o.dst,o.op,U4 ops o.guard)
def Vc (ops:Array Oper):List (Nat×Nat)->Option (List (SOp×Nat))
 | []=>some []
 | (i,n) :: r=>match ops[i]?,Vc ops r with | some o,some l=>some ((Zcc ops o,n) :: l) | _,_=>none
def Zh (T:Tab) (f:FuncId):Code->SCode
 | .skip=>.skip
 | .label _=>.skip
 | .region _ ops false=>.reg (ops.toList.map (Zcc ops))
 | .region id ops true=>match T.dr f id,T.alt f id with
  | some p,none=>(match Vc ops p with | some l=>.dreg l | none=>.bad)
  | some p,some A=>(match Vc ops p with | some l=>.areg l A.u A.v | none=>.bad)
  | none,_=>.bad
 | .seq a b=>.seq (Zh T f a) (Zh T f b)
 | .cond c a b=>.cond c (Zh T f a) (Zh T f b)
 | .block id c=>.block id (Zh T f c)
 | .scope c=>Zh T f c
 | .loop c=>.loop (Zh T f c)
 | .exit id=>.exit id
 | .ret=>.ret
 | _=>.bad
def Z6 (F:Fr):Option (Option Tmp×Bool)->Option Bool
 | none=>some true
 | some (some t,w)=>(match F.get t with | some (.bool b)=>some (b==w) | some (.tup [])=>some false | _=>none)
 | some (none,_)=>none
def evL (T:Tab) (call:CallE):List SOp->Fr->Hp->Option (Fr×Hp)
 | [],F,H=>some (F,H.flush)
 | (d,o,g) :: r,F,H =>
  match Z6 F g with
  | some true=>match evOp T o F H with
   | some (.val v H')=>evL T call r (putD F d v) H'
   | some (.skip H')=>evL T call r (delD F d) H'
   | some (.enter f xs H')=>match call f xs H' with
    | some (v,H'')=>evL T call r (putD F d v) H''
    | none=>none
   | none=>if Zan T F o=true then evL T call r (delD F d) H else none
  | some false=>evL T call r (delD F d) H
  | none=>none
def evDL (T:Tab) (call:CallE):List (SOp×Nat)->Fr->Hp->List Hp->Option (Fr×Hp)
 | [],F,H,_=>some (F,H.flush)
 | ((d,o,g),n) :: r,F,H,B=>match Z6 F g with
   | some true=>match evOp T o F H with
    | some (.val v H')=>if isPt T o then evDL T call r (putD F d v) H'.bump (H' :: B) else if Y1 T o F n v B then evDL T call r (putD F d v) H' B else none
    | some (.skip H')=>evDL T call r (delD F d) H'.bump (H' :: B)
    | some (.enter f xs H')=>match call f xs H' with
     | some (v,H'')=>evDL T call r (putD F d v) H''.bump (H'' :: B)
     | none=>none
    | none=>none
   | some false=>evDL T call r (delD F d) H (if isPt T o then H :: B else B)
   | none=>none
def apart (F:Fr) (u v:Tmp):Bool:=match F.get u,F.get v with
 | some (.ptr b _),some (.ptr b' _)=>!Nat.beq b b'
 | _,_=>false
def evS (T:Tab) (call:CallE) (n:Nat):SCode->Fr->Hp->Option (Out×Fr×Hp)
 | .skip,F,H=>some (.nrm,F,H)
 | .reg l,F,H=>match evL T call l F H with | some (F',H')=>some (.nrm,F',H') | none=>none
 | .dreg l,F,H=>match evDL T call l F H [H] with | some (F',H')=>some (.nrm,F',H') | none=>none
 | .areg l u v,F,H=>match evDL T call l F H [H] with | some (F',H')=>if apart F' u v=true then some (.nrm,F',H') else none | none=>none
 | .seq a b,F,H=>match evS T call n a F H with
  | some (.nrm,F',H')=>evS T call n b F' H'
  | r=>r
 | .cond c a b,F,H=>match opd T.ng F c with
  | some (.bool true)=>evS T call n a F H
  | some (.bool false)=>evS T call n b F H
  | _=>none
 | .block id c,F,H=>match evS T call n c F H with
  | some (.exit i,F',H')=>if i=id then some (.nrm,F',H') else some (.exit i,F',H')
  | r=>r
 | .loop c,F,H=>Yo (evS T call n c) n F H
 | .exit id,F,H=>some (.exit id,F,H)
 | .ret,F,H=>some (.ret,F,H)
 | .bad,_,_=>none
section
variable {T:Tab} {call:CallE} {ops:Array Oper}
theorem Zbs (F:Fr) (g:Option (Nat×Bool)):Yg ops F g=Z6 F (U4 ops g):=by
 cases g with
 | none=>rfl
 | some jw =>
  obtain ⟨j,w⟩:=jw
  simp only [Yg,U4,gotB]
  cases ops[j]? with
  | none=>rfl
  | some o =>
   dsimp only
   cases o.dst with
   | none=>rfl
   | some t =>
    dsimp only [Z6]
    cases F.get t with
    | none=>rfl
    | some v =>
     cases v with
     | bool b=>cases b<;>cases w<;>rfl
     | tup l=>cases l<;>first | rfl | (cases w<;>rfl)
     | _=>rfl
theorem Zbp:∀ (l:List Oper) (F:Fr) (H:Hp),Z1 T call ops l F H=evL T call (l.map (Zcc ops)) F H
 | [],F,H=>rfl
 | o :: r,F,H=>by
  simp only [Z1,List.map_cons,Zcc,evL,Zbs]
  cases Z6 F (U4 ops o.guard) with
  | none=>rfl
  | some b =>
   cases b with
   | false=>exact Zbp r _ _
   | true =>
    dsimp only
    cases evOp T o.op F H with
    | none=>dsimp only;rw [Zbp r]
    | some x =>
     cases x with
     | val v H'=>exact Zbp r _ _
     | skip H'=>exact Zbp r _ _
     | enter f xs H' =>
      dsimp only
      cases call f xs H' with
      | none=>rfl
      | some y=>exact Zbp r _ _
theorem J1:∀ (p:List (Nat×Nat)) (F:Fr) (H:Hp) (B:List Hp) {l:List (SOp×Nat)},Vc ops p=some l->Zv T call ops p F H B=evDL T call l F H B
 | [],F,H,B,l,h=>by cases h;rfl
 | (i,n) :: r,F,H,B,l,h=>by
  simp only [Vc] at h
  cases ho:ops[i]? with
  | none=>rw [ho] at h;cases h
  | some o =>
   cases hr:Vc ops r with
   | none=>rw [ho,hr] at h;cases h
   | some l' =>
    rw [ho,hr] at h
    cases h
    simp only [Zv,ho,Zcc,evDL,Zbs]
    cases Z6 F (U4 ops o.guard) with
    | none=>rfl
    | some b =>
     cases b with
     | false=>exact J1 r _ _ _ hr
     | true =>
      dsimp only
      cases evOp T o.op F H with
      | none=>rfl
      | some x =>
       cases x with
       | val v H' =>
        dsimp only
        rw [J1 r (putD F o.dst v) H'.bump (H' :: B) hr,J1 r (putD F o.dst v) H' B hr]
        rfl
       | skip H'=>exact J1 r _ _ _ hr
       | enter f xs H' =>
        dsimp only
        cases call f xs H' with
        | none=>rfl
        | some y=>exact J1 r _ _ _ hr
theorem W2 {f:FuncId} {n:Nat}:∀ (c:Code) (F:Fr) (H:Hp) {r:Out×Fr×Hp},evS T call n (Zh T f c) F H=some r->Zc T call f n c F H=some r
 | .skip,F,H,r,h=>h
 | .label _,F,H,r,h=>h
 | .exit _,F,H,r,h=>h
 | .ret,F,H,r,h=>h
 | .goto _,F,H,r,h=>by simp [Zh,evS] at h
 | .rangeFunc ..,F,H,r,h=>by simp [Zh,evS] at h
 | .refuse _,F,H,r,h=>by simp [Zh,evS] at h
 | .region _ ops false,F,H,r,h=>by
  simp only [Zh,evS] at h
  simp only [Zc,Zbp]
  exact h
 | .region id ops true,F,H,r,h=>by
  simp only [Zh] at h
  cases hp:T.dr f id with
  | none=>rw [hp] at h;simp [evS] at h
  | some p =>
   rw [hp] at h
   cases ha:T.alt f id with
   | some A =>
    rw [ha] at h
    dsimp only at h
    cases hl:Vc ops p with
    | none=>rw [hl] at h;simp [evS] at h
    | some l =>
     rw [hl] at h
     simp only [evS] at h
     simp only [Zc,hp,J1 p F H [H] hl,Zdg,ha]
     exact h
   | none =>
    rw [ha] at h
    dsimp only at h
    cases hl:Vc ops p with
    | none=>rw [hl] at h;simp [evS] at h
    | some l =>
     rw [hl] at h
     simp only [evS] at h
     simp only [Zc,hp,J1 p F H [H] hl,Zdg,ha,if_true]
     exact h
 | .seq a b,F,H,r,h=>by
  simp only [Zh,evS] at h
  simp only [Zc]
  split at h
  ·rename_i F1 H1 h1
   rw [W2 a F H h1]
   exact W2 b F1 H1 h
  ·rename_i hx
   rw [W2 a F H h]
   split
   ·rename_i F1 H1 h2
    cases h2
    exact absurd h (hx _ _)
   ·rfl
 | .cond x a b,F,H,r,h=>by
  simp only [Zh,evS] at h
  simp only [Zc]
  split at h
  ·rename_i hx;simp only [hx];exact W2 a F H h
  ·rename_i hx;simp only [hx];exact W2 b F H h
  ·cases h
 | .block id c,F,H,r,h=>by
  simp only [Zh,evS] at h
  simp only [Zc]
  split at h
  ·rename_i i F1 H1 h1
   rw [W2 c F H h1]
   exact h
  ·rename_i hx
   rw [W2 c F H h]
   split
   ·rename_i i F1 H1 h2
    cases h2
    exact absurd h (hx _ _ _)
   ·rfl
 | .scope c,F,H,r,h=>by
  simp only [Zh] at h
  simp only [Zc]
  exact W2 c F H h
 | .loop c,F,H,r,h=>by
  simp only [Zh,evS] at h
  simp only [Zc]
  have key:∀ m F H r,Yo (evS T call n (Zh T f c)) m F H=some r->Yo (Zc T call f n c) m F H=some r:=by
   intro m
   induction m with
   | zero=>intro F H r h;simp [Yo] at h
   | succ m ih =>
    intro F H r h
    simp only [Yo] at h ⊢
    split at h
    ·rename_i F1 H1 h1
     rw [W2 c F H h1]
     exact ih F1 H1 r h
    ·rename_i hx
     rw [W2 c F H h]
     split
     ·rename_i F1 H1 h2
      cases h2
      exact absurd h (hx _ _)
     ·rfl
  exact key n F H r h
theorem Zjx {k:Nat} {f:FuncId} {args:List V} {H:Hp} {fn:Func} {c:Code} {S:SCode} {o:Out} {F' : Fr} {H' : Hp} {v:V} (h0:T.ext f=none) (h1:T.fn f=some fn) (h2:fn.body=some c) (h3:Zh T f c=S) (h4:evS T (Zo T k) k S (frame args 0 .nil) H=some (o,F',H')) (h5:o = .ret\/o = .nrm) (h6:Wp T fn.results.toList F' H'.get=some v) :
  Zo T (k+1) f args H=some (v,H'):=by
 subst h3
 have:=W2 c _ _ h4
 simp only [Zo,h0,h1,h2,this]
 rcases h5 with rfl | rfl<;>simp only [h6]
end
end Go.AM
namespace Go.AM
open Go
theorem Zm2 (d:Option Ds) (a b:Bool) (h:Vx d=true):bin .eql d (.bool a) (.bool b)=some (.bool (a==b)):=by simp only [bin,h,if_true]
theorem Zl5 (d:Option Ds) (a b:Bool) (h:Vx d=true):bin .neq d (.bool a) (.bool b)=some (.bool (a != b)):=by simp only [bin,h,if_true]
theorem Znm (d:Option Ds) (h:Wh d=true):bin .eql d .nilp .nilp=some (.bool true):=by simp only [bin,h,if_true]
theorem Znu (d:Option Ds) (h:Wh d=true):bin .neq d .nilp .nilp=some (.bool false):=by simp only [bin,h,if_true]
theorem Zni (d:Option Ds) (b o:Nat) (h:Wh d=true):bin .eql d (.ptr b o) .nilp=some (.bool false):=by simp only [bin,h,if_true]
theorem Znl (d:Option Ds) (b o:Nat) (h:Wh d=true):bin .neq d (.ptr b o) .nilp=some (.bool true):=by simp only [bin,h,if_true]
theorem Z0t (op:BinOp) (d:Option Ds) (a b:List UInt8) (h:op≠.shl) (h' : op≠.shr):bin op d (.str a) (.str b)=Jp op a b:=by cases op<;>simp_all [bin]
theorem Zy9 (op:BinOp) (d:Option Ds) (k:IntKind) (a b:Int) (h:op≠.shl) (h' : op≠.shr):bin op d (.int k a) (.int k b)=Jk op k a b:=by cases op<;>simp_all [bin]
theorem Zz6 (d:Option Ds) (k k' : IntKind) (a n:Int) (h:0<=n):bin .shl d (.int k a) (.int k' n)=some (.int k (wr k (a*2 ^ (min n.toNat k.bits)))):=by simp [bin,h]
theorem Zzr (d:Option Ds) (k k' : IntKind) (a n:Int) (h:0<=n):bin .shr d (.int k a) (.int k' n)=some (.int k (a.fdiv (2 ^ (min n.toNat k.bits)))):=by simp [bin,h]
end Go.AM
namespace Go.AM
open Go
def Vn (c c' : CallE):Prop:=∀ f xs H r,c f xs H=some r->c' f xs H=some r
section
variable {T:Tab} {c c' : CallE} {n n' : Nat}
theorem J8 (hc:Vn c c') {ops:Array Oper}:∀ (l:List Oper) {F:Fr} {H:Hp} {r:Fr×Hp},Z1 T c ops l F H=some r->Z1 T c' ops l F H=some r
 | [],F,H,r,h=>h
 | o :: l,F,H,r,h=>by
  simp only [Z1] at h ⊢
  split at h
  ·split at h
   ·exact J8 hc l h
   ·exact J8 hc l h
   ·split at h
    ·rename_i h1
     rw [hc _ _ _ _ h1]
     exact J8 hc l h
    ·cases h
   ·split at h
    ·rename_i h1;rw [if_pos h1];exact J8 hc l h
    ·cases h
  ·exact J8 hc l h
  ·cases h
theorem Jb (hc:Vn c c') {ops:Array Oper}:∀ (l:List (Nat×Nat)) {F:Fr} {H:Hp} {B:List Hp} {r:Fr×Hp},Zv T c ops l F H B=some r->Zv T c' ops l F H B=some r
 | [],F,H,B,r,h=>h
 | (i,m) :: l,F,H,B,r,h=>by
  simp only [Zv] at h ⊢
  split at h
  ·cases h
  ·split at h
   ·split at h
    ·split at h
     ·rename_i h1;rw [if_pos h1];exact Jb hc l h
     ·rename_i h1
      rw [if_neg h1]
      split at h
      ·rename_i h2;rw [if_pos h2];exact Jb hc l h
      ·cases h
    ·exact Jb hc l h
    ·split at h
     ·rename_i h1
      rw [hc _ _ _ _ h1]
      exact Jb hc l h
     ·cases h
    ·cases h
   ·exact Jb hc l h
   ·cases h
theorem Ja {b b' : Fr->Hp->Option (Out×Fr×Hp)} (hb:∀ F H r,b F H=some r->b' F H=some r):∀ (n n' : Nat) {F:Fr} {H:Hp} {r:Out×Fr×Hp},n<=n'->Yo b n F H=some r->Yo b' n' F H=some r
 | 0,_,_,_,_,_,h=>by simp [Yo] at h
 | n+1,0,_,_,_,hn,_=>by omega
 | n+1,n' + 1,F,H,r,hn,h=>by
  simp only [Yo] at h ⊢
  split at h
  ·rename_i h1
   rw [hb _ _ _ h1]
   exact Ja hb n n' (by omega) h
  ·rename_i hx
   rw [hb _ _ _ h]
   split
   ·rename_i F1 H1 h2;cases h2;exact absurd h (hx _ _)
   ·rfl
theorem Zx (hc:Vn c c') (hn:n<=n') {f:FuncId}:∀ (x:Code) {F:Fr} {H:Hp} {r:Out×Fr×Hp},Zc T c f n x F H=some r->Zc T c' f n' x F H=some r
 | .skip,F,H,r,h=>h
 | .label _,F,H,r,h=>h
 | .exit _,F,H,r,h=>h
 | .ret,F,H,r,h=>h
 | .goto _,F,H,r,h=>by simp [Zc] at h
 | .rangeFunc ..,F,H,r,h=>by simp [Zc] at h
 | .refuse _,F,H,r,h=>by simp [Zc] at h
 | .region _ ops false,F,H,r,h=>by
  simp only [Zc] at h ⊢
  split at h
  ·rename_i h1;rw [J8 hc _ h1];exact h
  ·cases h
 | .region id ops true,F,H,r,h=>by
  simp only [Zc] at h ⊢
  split at h
  ·split at h
   ·rename_i h1;rw [Jb hc _ h1];exact h
   ·cases h
  ·cases h
 | .seq a b,F,H,r,h=>by
  simp only [Zc] at h ⊢
  split at h
  ·rename_i h1
   rw [Zx hc hn a h1]
   exact Zx hc hn b h
  ·rename_i hx
   rw [Zx hc hn a h]
   split
   ·rename_i F1 H1 h2;cases h2;exact absurd h (hx _ _)
   ·rfl
 | .cond x a b,F,H,r,h=>by
  simp only [Zc] at h ⊢
  split at h
  ·rename_i hx;(try simp only [hx]);exact Zx hc hn a h
  ·rename_i hx;(try simp only [hx]);exact Zx hc hn b h
  ·cases h
 | .block id a,F,H,r,h=>by
  simp only [Zc] at h ⊢
  split at h
  ·rename_i h1
   rw [Zx hc hn a h1]
   exact h
  ·rename_i hx
   rw [Zx hc hn a h]
   split
   ·rename_i i F1 H1 h2;cases h2;exact absurd h (hx _ _ _)
   ·rfl
 | .scope a,F,H,r,h=>by
  simp only [Zc] at h ⊢
  exact Zx hc hn a h
 | .loop a,F,H,r,h=>by
  simp only [Zc] at h ⊢
  exact Ja (fun F H r h=>Zx hc hn a h) n n' hn h
theorem Zj (T:Tab):∀ (k k' : Nat),k<=k'->Vn (Zo T k) (Zo T k')
 | 0,_,_=>fun f xs H r h=>by simp [Zo] at h
 | k+1,0,h=>by omega
 | k+1,k' + 1,hk=>fun f xs H r h=>by
  have ih:=Zj T k k' (by omega)
  simp only [Zo] at h ⊢
  split at h
  ·split at h
   ·split at h
    ·exact h
    ·split at h
     ·rename_i h1
      rw [Zx ih (by omega) _ h1]
      exact h
     ·rename_i h1
      rw [Zx ih (by omega) _ h1]
      exact h
     ·cases h
   ·cases h
  ·cases h
theorem Zas (hc:Vn c c'):∀ (l:List SOp) {F:Fr} {H:Hp} {r:Fr×Hp},evL T c l F H=some r->evL T c' l F H=some r
 | [],F,H,r,h=>h
 | (d,o,g) :: l,F,H,r,h=>by
  simp only [evL] at h ⊢
  split at h
  ·split at h
   ·exact Zas hc l h
   ·exact Zas hc l h
   ·split at h
    ·rename_i h1
     rw [hc _ _ _ _ h1]
     exact Zas hc l h
    ·cases h
   ·split at h
    ·rename_i h1;rw [if_pos h1];exact Zas hc l h
    ·cases h
  ·exact Zas hc l h
  ·cases h
theorem Ul (hc:Vn c c'):∀ (l:List (SOp×Nat)) {F:Fr} {H:Hp} {B:List Hp} {r:Fr×Hp},evDL T c l F H B=some r->evDL T c' l F H B=some r
 | [],F,H,B,r,h=>h
 | ((d,o,g),m) :: l,F,H,B,r,h=>by
  simp only [evDL] at h ⊢
  split at h
  ·split at h
   ·split at h
    ·rename_i h1;rw [if_pos h1];exact Ul hc l h
    ·rename_i h1
     rw [if_neg h1]
     split at h
     ·rename_i h2;rw [if_pos h2];exact Ul hc l h
     ·cases h
   ·exact Ul hc l h
   ·split at h
    ·rename_i h1
     rw [hc _ _ _ _ h1]
     exact Ul hc l h
    ·cases h
   ·cases h
  ·exact Ul hc l h
  ·cases h
theorem Z7 (hc:Vn c c') (hn:n<=n'):∀ (x:SCode) {F:Fr} {H:Hp} {r:Out×Fr×Hp},evS T c n x F H=some r->evS T c' n' x F H=some r
 | .skip,F,H,r,h=>h
 | .exit _,F,H,r,h=>h
 | .ret,F,H,r,h=>h
 | .bad,F,H,r,h=>h
 | .reg l,F,H,r,h=>by
  simp only [evS] at h ⊢
  split at h
  ·rename_i h1;rw [Zas hc _ h1];exact h
  ·cases h
 | .dreg l,F,H,r,h=>by
  simp only [evS] at h ⊢
  split at h
  ·rename_i h1;rw [Ul hc _ h1];exact h
  ·cases h
 | .areg l u v,F,H,r,h=>by
  simp only [evS] at h ⊢
  split at h
  ·rename_i h1;rw [Ul hc _ h1];exact h
  ·cases h
 | .seq a b,F,H,r,h=>by
  simp only [evS] at h ⊢
  split at h
  ·rename_i h1
   rw [Z7 hc hn a h1]
   exact Z7 hc hn b h
  ·rename_i hx
   rw [Z7 hc hn a h]
   split
   ·rename_i F1 H1 h2;cases h2;exact absurd h (hx _ _)
   ·rfl
 | .cond x a b,F,H,r,h=>by
  simp only [evS] at h ⊢
  split at h
  ·rename_i hx;(try simp only [hx]);exact Z7 hc hn a h
  ·rename_i hx;(try simp only [hx]);exact Z7 hc hn b h
  ·cases h
 | .block id a,F,H,r,h=>by
  simp only [evS] at h ⊢
  split at h
  ·rename_i h1
   rw [Z7 hc hn a h1]
   exact h
  ·rename_i hx
   rw [Z7 hc hn a h]
   split
   ·rename_i i F1 H1 h2;cases h2;exact absurd h (hx _ _ _)
   ·rfl
 | .loop a,F,H,r,h=>by
  simp only [evS] at h ⊢
  exact Ja (fun F H r h=>Z7 hc hn a h) n n' hn h
end
section
variable (T:Tab)
def WF (f:FuncId) (xs:List V) (H:Hp) (Q:V->Hp->Prop):Prop:=∃ k v H',Zo T k f xs H=some (v,H')/\Q v H'
def WL (l:List SOp) (F:Fr) (H:Hp) (Q:Fr->Hp->Prop):Prop:=∃ k F' H',evL T (Zo T k) l F H=some (F',H')/\Q F' H'
def WD (l:List (SOp×Nat)) (F:Fr) (H:Hp) (B:List Hp) (Q:Fr->Hp->Prop):Prop:=∃ k F' H',evDL T (Zo T k) l F H B=some (F',H')/\Q F' H'
def WC (c:SCode) (F:Fr) (H:Hp) (Q:Out->Fr->Hp->Prop):Prop:=∃ k o F' H',evS T (Zo T k) k c F H=some (o,F',H')/\Q o F' H'
end
section
variable {T:Tab} {F:Fr} {H:Hp}
theorem WF.mono {f:FuncId} {xs:List V} {Q Q' : V->Hp->Prop} (h:WF T f xs H Q) (hq:∀ v H',Q v H'->Q' v H'):WF T f xs H Q':=by
 obtain ⟨k,v,H',h1,h2⟩:=h
 exact ⟨k,v,H',h1,hq v H' h2⟩
theorem WC.mono {c:SCode} {Q Q' : Out->Fr->Hp->Prop} (h:WC T c F H Q) (hq:∀ o F' H',Q o F' H'->Q' o F' H'):WC T c F H Q':=by
 obtain ⟨k,o,F',H',h1,h2⟩:=h
 exact ⟨k,o,F',H',h1,hq o F' H' h2⟩
theorem WL.nil {Q:Fr->Hp->Prop} (h:Q F H.flush):WL T [] F H Q:=⟨0,F,H.flush,rfl,h⟩
def goL (T:Tab) (d:Option Tmp) (F:Fr) (next:Fr->Hp->Prop):Option Res->Prop
 | some (.val v H')=>next (putD F d v) H'
 | some (.skip H')=>next (delD F d) H'
 | some (.enter f xs H')=>WF T f xs H' fun v H''=>next (putD F d v) H''
 | none=>False
def Zpv (F:Fr) (d:Option Tmp) (H:Hp) (next:Fr->Hp->Prop) (now:Prop):Option Bool->Prop
 | some true=>now
 | some false=>next (delD F d) H
 | none=>False
theorem WL.cons {d:Option Tmp} {o:Op} {g:Option (Option Tmp×Bool)} {r:List SOp} {Q:Fr->Hp->Prop} (h:Zpv F d H (fun F' H'=>WL T r F' H' Q) (goL T d F (fun F' H'=>WL T r F' H' Q) (evOp T o F H)) (Z6 F g)):WL T ((d,o,g) :: r) F H Q:=by
 cases hw:Z6 F g with
 | none=>rw [hw] at h;exact h.elim
 | some b =>
  rw [hw] at h
  cases b with
  | false =>
   obtain ⟨k,F',H',h1,h2⟩:=h
   exact ⟨k,F',H',by simp only [evL,hw];exact h1,h2⟩
  | true =>
   simp only [Zpv] at h
   cases ho:evOp T o F H with
   | none=>rw [ho] at h;exact h.elim
   | some x =>
    rw [ho] at h
    cases x with
    | val v H1 =>
     obtain ⟨k,F',H',h1,h2⟩:=h
     exact ⟨k,F',H',by simp only [evL,hw,ho];exact h1,h2⟩
    | skip H1 =>
     obtain ⟨k,F',H',h1,h2⟩:=h
     exact ⟨k,F',H',by simp only [evL,hw,ho];exact h1,h2⟩
    | enter f xs H1 =>
     obtain ⟨k1,v,H2,h1,k2,F',H',h2,h3⟩:=h
     refine ⟨max k1 k2,F',H',?_,h3⟩
     simp only [evL,hw,ho,Zj T k1 (max k1 k2) (Nat.le_max_left _ _) _ _ _ _ h1]
     exact Zas (Zj T k2 _ (Nat.le_max_right _ _)) _ h2
theorem WD.nil {B:List Hp} {Q:Fr->Hp->Prop} (h:Q F H.flush):WD T [] F H B Q:=⟨0,F,H.flush,rfl,h⟩
def goD (T:Tab) (o:Op) (n:Nat) (d:Option Tmp) (F:Fr) (B:List Hp) (next:Fr->Hp->List Hp->Prop):Option Res->Prop
 | some (.val v H')=>if isPt T o then next (putD F d v) H'.bump (H' :: B) else Y1 T o F n v B=true/\next (putD F d v) H' B
 | some (.skip H')=>next (delD F d) H'.bump (H' :: B)
 | some (.enter f xs H')=>WF T f xs H' fun v H''=>next (putD F d v) H''.bump (H'' :: B)
 | none=>False
def Zqe (T:Tab) (o:Op) (F:Fr) (d:Option Tmp) (H:Hp) (B:List Hp) (next:Fr->Hp->List Hp->Prop) (now:Prop):Option Bool->Prop
 | some true=>now
 | some false=>next (delD F d) H (if isPt T o then H :: B else B)
 | none=>False
theorem WD.cons {d:Option Tmp} {o:Op} {g:Option (Option Tmp×Bool)} {n:Nat} {r:List (SOp×Nat)} {B:List Hp} {Q:Fr->Hp->Prop} (h:Zqe T o F d H B (fun F' H' B'=>WD T r F' H' B' Q) (goD T o n d F B (fun F' H' B'=>WD T r F' H' B' Q) (evOp T o F H)) (Z6 F g)):WD T (((d,o,g),n) :: r) F H B Q:=by
 cases hw:Z6 F g with
 | none=>rw [hw] at h;exact h.elim
 | some b =>
  rw [hw] at h
  cases b with
  | false =>
   obtain ⟨k,F',H',h1,h2⟩:=h
   exact ⟨k,F',H',by simp only [evDL,hw];exact h1,h2⟩
  | true =>
   simp only [Zqe] at h
   cases ho:evOp T o F H with
   | none=>rw [ho] at h;exact h.elim
   | some x =>
    rw [ho] at h
    cases x with
    | val v H1 =>
     simp only [goD] at h
     split at h
     ·rename_i hp
      obtain ⟨k,F',H',h1,h2⟩:=h
      exact ⟨k,F',H',by simp only [evDL,hw,ho,hp,if_true];exact h1,h2⟩
     ·rename_i hp
      obtain ⟨hwin,k,F',H',h1,h2⟩:=h
      exact ⟨k,F',H',by simp only [evDL,hw,ho,hp,hwin,if_true];exact h1,h2⟩
    | skip H1 =>
     obtain ⟨k,F',H',h1,h2⟩:=h
     exact ⟨k,F',H',by simp only [evDL,hw,ho];exact h1,h2⟩
    | enter f xs H1 =>
     obtain ⟨k1,v,H2,h1,k2,F',H',h2,h3⟩:=h
     refine ⟨max k1 k2,F',H',?_,h3⟩
     simp only [evDL,hw,ho,Zj T k1 (max k1 k2) (Nat.le_max_left _ _) _ _ _ _ h1]
     exact Ul (Zj T k2 _ (Nat.le_max_right _ _)) _ h2
theorem WC.skip {Q:Out->Fr->Hp->Prop} (h:Q .nrm F H):WC T .skip F H Q:=⟨0,.nrm,F,H,rfl,h⟩
theorem WC.exit {id:Nat} {Q:Out->Fr->Hp->Prop} (h:Q (.exit id) F H):WC T (.exit id) F H Q:=⟨0,.exit id,F,H,rfl,h⟩
theorem WC.ret {Q:Out->Fr->Hp->Prop} (h:Q .ret F H):WC T .ret F H Q:=⟨0,.ret,F,H,rfl,h⟩
theorem WC.reg {l:List SOp} {Q:Out->Fr->Hp->Prop} (h:WL T l F H (Q .nrm)):WC T (.reg l) F H Q:=by
 obtain ⟨k,F',H',h1,h2⟩:=h
 exact ⟨k,.nrm,F',H',by simp only [evS,h1],h2⟩
theorem WC.dreg {l:List (SOp×Nat)} {Q:Out->Fr->Hp->Prop} (h:WD T l F H [H] (Q .nrm)):WC T (.dreg l) F H Q:=by
 obtain ⟨k,F',H',h1,h2⟩:=h
 exact ⟨k,.nrm,F',H',by simp only [evS,h1],h2⟩
theorem WC.areg {l:List (SOp×Nat)} {u v:Tmp} {Q:Out->Fr->Hp->Prop} (h:WD T l F H [H] (fun F' H'=>apart F' u v=true/\Q .nrm F' H')):WC T (.areg l u v) F H Q:=by
 obtain ⟨k,F',H',h1,h2,h3⟩:=h
 exact ⟨k,.nrm,F',H',by simp only [evS,h1,h2,if_true],h3⟩
def seqQ (T:Tab) (b:SCode) (Q:Out->Fr->Hp->Prop):Out->Fr->Hp->Prop
 | .nrm,F,H=>WC T b F H Q
 | .exit i,F,H=>Q (.exit i) F H
 | .ret,F,H=>Q .ret F H
theorem WC.seq {a b:SCode} {Q:Out->Fr->Hp->Prop} (h:WC T a F H (seqQ T b Q)):WC T (.seq a b) F H Q:=by
 obtain ⟨k,o,F',H',h1,h2⟩:=h
 cases o with
 | nrm =>
  obtain ⟨k2,o2,F2,H2,h3,h4⟩:=h2
  refine ⟨max k k2,o2,F2,H2,?_,h4⟩
  simp only [evS,Z7 (Zj T k (max k k2) (Nat.le_max_left _ _)) (Nat.le_max_left _ _) a h1]
  exact Z7 (Zj T k2 _ (Nat.le_max_right _ _)) (Nat.le_max_right _ _) b h3
 | exit i=>exact ⟨k,_,F',H',by simp only [evS,h1],h2⟩
 | ret=>exact ⟨k,_,F',H',by simp only [evS,h1],h2⟩
def Z9j (x y:Prop):Option V->Prop
 | some (.bool true)=>x
 | some (.bool false)=>y
 | _=>False
theorem WC.cond {c:Operand} {a b:SCode} {Q:Out->Fr->Hp->Prop} (h:Z9j (WC T a F H Q) (WC T b F H Q) (opd T.ng F c)):WC T (.cond c a b) F H Q:=by
 revert h
 cases hc:opd T.ng F c with
 | none=>intro h;exact h.elim
 | some v =>
  cases v with
  | bool t =>
   cases t with
   | true =>
    rintro ⟨k,o,F',H',h1,h2⟩
    exact ⟨k,o,F',H',by simp only [evS,hc];exact h1,h2⟩
   | false =>
    rintro ⟨k,o,F',H',h1,h2⟩
    exact ⟨k,o,F',H',by simp only [evS,hc];exact h1,h2⟩
  | _=>intro h;exact h.elim
def Vi (id:Nat) (Q:Out->Fr->Hp->Prop):Out->Fr->Hp->Prop
 | .exit i,F,H=>if i=id then Q .nrm F H else Q (.exit i) F H
 | .nrm,F,H=>Q .nrm F H
 | .ret,F,H=>Q .ret F H
theorem WC.block {id:Nat} {c:SCode} {Q:Out->Fr->Hp->Prop} (h:WC T c F H (Vi id Q)):WC T (.block id c) F H Q:=by
 obtain ⟨k,o,F',H',h1,h2⟩:=h
 cases o with
 | nrm=>exact ⟨k,_,F',H',by simp only [evS,h1],h2⟩
 | ret=>exact ⟨k,_,F',H',by simp only [evS,h1],h2⟩
 | exit i =>
  simp only [Vi] at h2
  split at h2
  ·rename_i hi;exact ⟨k,_,F',H',by simp only [evS,h1,hi,if_true],h2⟩
  ·rename_i hi;exact ⟨k,_,F',H',by simp only [evS,h1,hi,if_false],h2⟩
def Zbi (I:Nat->Fr->Hp->Prop) (m:Nat) (Q:Out->Fr->Hp->Prop):Out->Fr->Hp->Prop
 | .nrm,F,H=>∃ m',m' < m/\I m' F H
 | .exit i,F,H=>Q (.exit i) F H
 | .ret,F,H=>Q .ret F H
theorem WC.loop (I:Nat->Fr->Hp->Prop) {c:SCode} {Q:Out->Fr->Hp->Prop} {m:Nat} (h0:I m F H) (round:∀ m F H,I m F H->WC T c F H (Zbi I m Q)):WC T (.loop c) F H Q:=by
 have key:∀ m F H,I m F H->∃ k n o F' H',Yo (evS T (Zo T k) n c) n F H=some (o,F',H')/\Q o F' H':=by
  intro m
  induction m using Nat.strongRecOn with
  | _ m ih =>
   intro F H hI
   obtain ⟨k,o,F1,H1,h1,h2⟩:=round m F H hI
   cases o with
   | nrm =>
    obtain ⟨m',hm,hI'⟩:=h2
    obtain ⟨k2,n2,o2,F2,H2,h3,h4⟩:=ih m' hm F1 H1 hI'
    refine ⟨max k k2,max k n2+1,o2,F2,H2,?_,h4⟩
    simp only [Yo]
    rw [Z7 (Zj T k (max k k2) (Nat.le_max_left _ _)) (n':=max k n2+1) (by omega) c h1]
    exact Ja (fun F H r h=>Z7 (Zj T k2 _ (Nat.le_max_right _ _)) (by omega) c h) _ _ (by omega) h3
   | exit i=>exact ⟨k,k+1,_,F1,H1,by simp only [Yo,Z7 (Zj T k k (Nat.le_refl _)) (n':=k+1) (by omega) c h1],h2⟩
   | ret=>exact ⟨k,k+1,_,F1,H1,by simp only [Yo,Z7 (Zj T k k (Nat.le_refl _)) (n':=k+1) (by omega) c h1],h2⟩
 obtain ⟨k,n,o,F',H',h1,h2⟩:=key m F H h0
 refine ⟨max k n,o,F',H',?_,h2⟩
 simp only [evS]
 exact Ja (fun F H r h=>Z7 (Zj T k _ (Nat.le_max_left _ _)) (Nat.le_max_right _ _) c h) _ _ (Nat.le_max_right _ _) h1
def resQ (T:Tab) (rs:List ResultVar) (Q:V->Hp->Prop):Out->Fr->Hp->Prop
 | .exit _,_,_=>False
 | _,F,H=>match Wp T rs F H.get with | some v=>Q v H | none=>False
theorem WF.of_slim {f:FuncId} {xs:List V} {fn:Func} {c:Code} {S:SCode} {Q:V->Hp->Prop} (h0:T.ext f=none) (h1:T.fn f=some fn) (h2:fn.body=some c) (h3:Zh T f c=S) {rs:List ResultVar} (h4:fn.results.toList=rs) (h:WC T S (frame xs 0 .nil) H (resQ T rs Q)):WF T f xs H Q:=by
 obtain ⟨k,o,F',H',h5,h6⟩:=h
 subst h4
 cases o with
 | exit i=>exact h6.elim
 | nrm =>
  simp only [resQ] at h6
  split at h6
  ·rename_i v hv
   exact ⟨k+1,v,H',Zjx h0 h1 h2 h3 h5 (.inr rfl) hv,h6⟩
  ·exact h6.elim
 | ret =>
  simp only [resQ] at h6
  split at h6
  ·rename_i v hv
   exact ⟨k+1,v,H',Zjx h0 h1 h2 h3 h5 (.inl rfl) hv,h6⟩
  ·exact h6.elim
end
end Go.AM
namespace Go.AM
open Go
abbrev PL:=Fr->Hp->Prop
abbrev PC:=Out->Fr->Hp->Prop
section
variable (T:Tab)
def wpL:List SOp->Fr->Hp->PL->Prop
 | [],F,H,Q=>Q F H.flush
 | (d,o,g) :: r,F,H,Q=>match Z6 F g with
  | some true=>match evOp T o F H with
   | some (.val v H')=>wpL r (putD F d v) H' Q
   | some (.skip H')=>wpL r (delD F d) H' Q
   | some (.enter f xs H')=>WF T f xs H' fun v H''=>wpL r (putD F d v) H'' Q
   | none=>False
  | some false=>wpL r (delD F d) H Q
  | none=>False
def wpD:List (SOp×Nat)->Fr->Hp->List Hp->PL->Prop
 | [],F,H,_,Q=>Q F H.flush
 | ((d,o,g),n) :: r,F,H,B,Q=>match Z6 F g with
  | some true=>match evOp T o F H with
   | some (.val v H')=>if isPt T o then wpD r (putD F d v) H'.bump (H' :: B) Q else Y1 T o F n v B=true/\wpD r (putD F d v) H' B Q
   | some (.skip H')=>wpD r (delD F d) H'.bump (H' :: B) Q
   | some (.enter f xs H')=>WF T f xs H' fun v H''=>wpD r (putD F d v) H''.bump (H'' :: B) Q
   | none=>False
  | some false=>wpD r (delD F d) H (if isPt T o then H :: B else B) Q
  | none=>False
def Zpi (d:Option Tmp) (r:List SOp) (F:Fr) (Q:PL):V->Hp->Prop:=fun v H=>wpL T r (putD F d v) H Q
def Zpu (d:Option Tmp) (r:List (SOp×Nat)) (F:Fr) (B:List Hp) (Q:PL):V->Hp->Prop:=fun v H=>wpD T r (putD F d v) H.bump (H :: B) Q
def kV (d:Option Tmp) (r:List SOp) (F:Fr) (H:Hp) (Q:PL):Option V->Prop
 | some v=>wpL T r (putD F d v) H Q
 | none=>False
def kAW (d:Option Tmp) (r:List SOp) (F:Fr) (Q:PL):Option (V×Hp)->Prop
 | some (v,H')=>wpL T r (putD F d v) H' Q
 | none=>False
def kA (o:Op) (d:Option Tmp) (r:List SOp) (F:Fr) (H:Hp) (Q:PL):Option (V×Option Ob×Option Nat)->Prop
 | some (v,ob,kb)=>kbOk H kb=true/\wpL T r (putD F d v) (Yx H ob kb) Q
 | none=>kAW T d r F Q (evAW T o F H.flush)
def kW (d:Option Tmp) (r:List SOp) (F:Fr) (Q:PL):Option (Option V×Hp)->Prop
 | some (some v,H')=>wpL T r (putD F d v) H' Q
 | some (none,H')=>wpL T r (delD F d) H' Q
 | none=>False
def kC (d:Option Tmp) (r:List SOp) (F:Fr) (H:Hp) (Q:PL):Option V->Option (List V)->Prop
 | some (.fn (.func f) fs cs),some xs=>WF T f (fs++xs++cs) H.flush (Zpi T d r F Q)
 | _,_=>False
def kCo (o:Op) (d:Option Tmp) (r:List SOp) (F:Fr) (H:Hp) (Q:PL):Prop:=match o with
 | .call c=>match c.callee with
  | .value f=>kC T d r F H Q (opd T.ng F f) (opds T.ng F c.args.toList)
  | _=>False
 | _=>False
def opQ (o:Op) (d:Option Tmp) (r:List SOp) (F:Fr) (H:Hp) (Q:PL):Kd->Prop
 | .p=>kV T d r F H Q (evP T o F)
 | .r=>kV T d r F H Q (evR T o F H.get)
 | .a=>kA T o d r F H Q (evA T o F H.get H.next)
 | .w=>kW T d r F Q (evW T o F H.flush)
 | .c=>kCo T o d r F H Q
 | .no=>False
def Zhr (o:Op) (d:Option Tmp) (r:List SOp) (F:Fr) (H:Hp) (Q:PL):Option Bool->Prop
 | some true=>opQ T o d r F H Q (kind T o)
 | some false=>wpL T r (delD F d) H Q
 | none=>False
def dV (o:Op) (n:Nat) (d:Option Tmp) (r:List (SOp×Nat)) (F:Fr) (H:Hp) (B:List Hp) (Q:PL):Option V->Prop
 | some v=>Y1 T o F n v B=true/\wpD T r (putD F d v) H B Q
 | none=>False
def dAW (d:Option Tmp) (r:List (SOp×Nat)) (F:Fr) (B:List Hp) (Q:PL):Option (V×Hp)->Prop
 | some (v,H')=>wpD T r (putD F d v) H'.bump (H' :: B) Q
 | none=>False
def dA (o:Op) (n:Nat) (d:Option Tmp) (r:List (SOp×Nat)) (F:Fr) (H:Hp) (B:List Hp) (Q:PL) (pt:Bool):Option (V×Option Ob×Option Nat)->Prop
 | some (v,ob,kb)=>kbOk H kb=true/\(match pt with | true=>wpD T r (putD F d v) (Yx H ob kb).bump (Yx H ob kb :: B) Q | false=>Y1 T o F n v B=true/\wpD T r (putD F d v) (Yx H ob kb) B Q)
 | none=>pt=true/\dAW T d r F B Q (evAW T o F H.flush)
def dW (d:Option Tmp) (r:List (SOp×Nat)) (F:Fr) (B:List Hp) (Q:PL):Option (Option V×Hp)->Prop
 | some (some v,H')=>wpD T r (putD F d v) H'.bump (H' :: B) Q
 | some (none,H')=>wpD T r (delD F d) H'.bump (H' :: B) Q
 | none=>False
def dC (d:Option Tmp) (r:List (SOp×Nat)) (F:Fr) (H:Hp) (B:List Hp) (Q:PL):Option V->Option (List V)->Prop
 | some (.fn (.func f) fs cs),some xs=>WF T f (fs++xs++cs) H.flush (Zpu T d r F B Q)
 | _,_=>False
def dCo (o:Op) (d:Option Tmp) (r:List (SOp×Nat)) (F:Fr) (H:Hp) (B:List Hp) (Q:PL):Prop:=match o with
 | .call c=>match c.callee with
  | .value f=>dC T d r F H B Q (opd T.ng F f) (opds T.ng F c.args.toList)
  | _=>False
 | _=>False
def Uz:Op->Bool | .call _=>true | _=>false
def opD (o:Op) (n:Nat) (d:Option Tmp) (r:List (SOp×Nat)) (F:Fr) (H:Hp) (B:List Hp) (Q:PL):Kd->Prop
 | .p=>dV T o n d r F H B Q (evP T o F)
 | .r=>dV T o n d r F H B Q (evR T o F H.get)
 | .a=>dA T o n d r F H B Q (Uz o) (evA T o F H.get H.next)
 | .w=>dW T d r F B Q (evW T o F H.flush)
 | .c=>dCo T o d r F H B Q
 | .no=>False
def skD (d:Option Tmp) (r:List (SOp×Nat)) (F:Fr) (H:Hp) (B:List Hp) (Q:PL):Bool->Prop
 | true=>wpD T r (delD F d) H (H :: B) Q
 | false=>wpD T r (delD F d) H B Q
def Zcp (o:Op) (n:Nat) (d:Option Tmp) (r:List (SOp×Nat)) (F:Fr) (H:Hp) (B:List Hp) (Q:PL):Option Bool->Prop
 | some true=>opD T o n d r F H B Q (kind T o)
 | some false=>skD T d r F H B Q (isPt T o)
 | none=>False
end
section
variable {T:Tab}
theorem Zol (F:Fr) (H:Hp) (Q:PL):wpL T [] F H Q=Q F H.flush:=by rw [wpL]
theorem Zgl (d:Option Tmp) (o:Op) (g:Option (Option Tmp×Bool)) (r:List SOp) (F:Fr) (H:Hp) (Q:PL):wpL T ((d,o,g) :: r) F H Q=Zhr T o d r F H Q (Z6 F g):=by
 rw [wpL]
 cases Z6 F g with
 | none=>rfl
 | some b =>
  cases b with
  | false=>rfl
  | true =>
   simp only [Zhr]
   unfold evOp
   cases kind T o with
   | p=>simp only [opQ];cases evP T o F<;>rfl
   | r=>simp only [opQ];cases evR T o F H.get<;>rfl
   | a =>
    simp only [opQ]
    cases evA T o F H.get H.next with
    | none=>simp only [kA];cases evAW T o F H.flush<;>rfl
    | some x =>
     obtain ⟨v,ob,kb⟩:=x
     simp only [kA]
     by_cases h:kbOk H kb=true<;>simp [h]
   | w =>
    simp only [opQ]
    cases evW T o F H.flush with
    | none=>rfl
    | some x=>obtain ⟨v,H'⟩:=x;cases v<;>rfl
   | c =>
    simp only [opQ,kCo]
    cases o<;>try rfl
    rename_i c
    obtain ⟨callee,args,tys⟩:=c
    cases callee<;>try rfl
    rename_i f
    dsimp only
    cases opd T.ng F f with
    | none=>rfl
    | some v =>
     cases opds T.ng F args.toList with
     | none=>cases v<;>first | rfl | (rename_i f _ _;cases f<;>rfl)
     | some xs=>cases v<;>first | rfl | (rename_i f _ _;cases f<;>rfl)
   | no=>rfl
theorem Zor (F:Fr) (H:Hp) (B:List Hp) (Q:PL):wpD T [] F H B Q=Q F H.flush:=by rw [wpD]
theorem Zch {o:Op} {F:Fr} {H:Hp} {x:V×Hp} (h:evAW T o F H=some x):Uz o=true:=by
 cases o<;>first | rfl | simp [evAW] at h
theorem Zgk (d:Option Tmp) (o:Op) (g:Option (Option Tmp×Bool)) (n:Nat) (r:List (SOp×Nat)) (F:Fr) (H:Hp) (B:List Hp) (Q:PL):wpD T (((d,o,g),n) :: r) F H B Q=Zcp T o n d r F H B Q (Z6 F g):=by
 rw [wpD]
 cases Z6 F g with
 | none=>rfl
 | some b =>
  cases b with
  | false=>simp only [Zcp];cases isPt T o<;>rfl
  | true =>
   simp only [Zcp]
   unfold evOp
   have hpt:isPt T o=(match kind T o with | .w=>true | .c=>true | .a=>Uz o | _=>false):=by
    unfold isPt
    cases kind T o<;>first | rfl | (cases o<;>rfl)
   cases hk:kind T o with
   | p=>rw [hk] at hpt;simp only [opD,hpt];cases evP T o F<;>simp [dV]
   | r=>rw [hk] at hpt;simp only [opD,hpt];cases evR T o F H.get<;>simp [dV]
   | a =>
    rw [hk] at hpt
    simp only [opD,hpt]
    cases evA T o F H.get H.next with
    | none =>
     simp only [dA]
     cases hw:evAW T o F H.flush with
     | none=>simp [dAW]
     | some x=>obtain ⟨v,H'⟩:=x;simp [dAW,Zch hw]
    | some x =>
     obtain ⟨v,ob,kb⟩:=x
     simp only [dA]
     by_cases h:kbOk H kb=true
     ·cases Uz o<;>simp [h]
     ·simp [h]
   | w =>
    rw [hk] at hpt
    simp only [opD,hpt]
    cases evW T o F H.flush with
    | none=>simp [dW]
    | some x=>obtain ⟨v,H'⟩:=x;cases v<;>simp [dW]
   | c =>
    rw [hk] at hpt
    simp only [opD,dCo,hpt]
    cases o<;>try rfl
    rename_i c
    obtain ⟨callee,args,tys⟩:=c
    cases callee<;>try rfl
    rename_i f
    dsimp only
    cases opd T.ng F f with
    | none=>rfl
    | some v =>
     cases opds T.ng F args.toList with
     | none=>cases v<;>first | rfl | (rename_i f _ _;cases f<;>rfl)
     | some xs=>cases v<;>first | rfl | (rename_i f _ _;cases f<;>rfl)
   | no=>simp [opD]
theorem Zax:∀ (l:List SOp) {F:Fr} {H:Hp} {Q:PL},wpL T l F H Q->WL T l F H Q
 | [],F,H,Q,h=>WL.nil (by rwa [wpL] at h)
 | (d,o,g) :: r,F,H,Q,h=>by
  refine WL.cons ?_
  rw [wpL] at h
  cases hw:Z6 F g with
  | none=>rw [hw] at h;exact h
  | some b =>
   rw [hw] at h
   cases b with
   | false=>exact Zax r h
   | true =>
    dsimp only at h
    simp only [Zpv]
    cases ho:evOp T o F H with
    | none=>rw [ho] at h;exact h
    | some x =>
     rw [ho] at h
     cases x with
     | val v H'=>exact Zax r h
     | skip H'=>exact Zax r h
     | enter f xs H'=>exact WF.mono h fun v H'' h=>Zax r h
theorem Ui:∀ (l:List (SOp×Nat)) {F:Fr} {H:Hp} {B:List Hp} {Q:PL},wpD T l F H B Q->WD T l F H B Q
 | [],F,H,B,Q,h=>WD.nil (by rwa [wpD] at h)
 | ((d,o,g),n) :: r,F,H,B,Q,h=>by
  refine WD.cons ?_
  rw [wpD] at h
  cases hw:Z6 F g with
  | none=>rw [hw] at h;exact h
  | some b =>
   rw [hw] at h
   cases b with
   | false=>exact Ui r h
   | true =>
    dsimp only at h
    simp only [Zqe]
    cases ho:evOp T o F H with
    | none=>rw [ho] at h;exact h
    | some x =>
     rw [ho] at h
     cases x with
     | val v H' =>
      simp only [goD]
      dsimp only at h
      split at h
      ·rename_i hp;rw [if_pos hp];exact Ui r h
      ·rename_i hp;rw [if_neg hp];exact ⟨h.1,Ui r h.2⟩
     | skip H'=>exact Ui r h
     | enter f xs H'=>exact WF.mono h fun v H'' h=>Ui r h
end
section
variable (T:Tab)
def wp:SCode->Fr->Hp->PC->Prop
 | .skip,F,H,Q=>Q .nrm F H
 | .reg l,F,H,Q=>wpL T l F H (Q .nrm)
 | .dreg l,F,H,Q=>wpD T l F H [H] (Q .nrm)
 | .areg l u v,F,H,Q=>wpD T l F H [H] (fun F' H'=>apart F' u v=true/\Q .nrm F' H')
 | .seq a b,F,H,Q=>wp a F H (fun o F' H'=>match o with | .nrm=>wp b F' H' Q | .exit i=>Q (.exit i) F' H' | .ret=>Q .ret F' H')
 | .cond c a b,F,H,Q=>match opd T.ng F c with
  | some (.bool true)=>wp a F H Q
  | some (.bool false)=>wp b F H Q
  | _=>False
 | .block id c,F,H,Q=>wp c F H (Vi id Q)
 | .loop c,F,H,Q=>WC T (.loop c) F H Q
 | .exit id,F,H,Q=>Q (.exit id) F H
 | .ret,F,H,Q=>Q .ret F H
 | .bad,_,_,_=>False
def sqQ (b:SCode) (Q:PC):PC:=fun o F' H'=>match o with | .nrm=>wp T b F' H' Q | .exit i=>Q (.exit i) F' H' | .ret=>Q .ret F' H'
def cdQ (a b:SCode) (F:Fr) (H:Hp) (Q:PC):Option V->Prop
 | some (.bool true)=>wp T a F H Q
 | some (.bool false)=>wp T b F H Q
 | _=>False
def nmQ (Q:PC):PL:=fun F H=>Q .nrm F H
def apQ (u v:Tmp) (Q:PC):PL:=fun F H=>apart F u v=true/\Q .nrm F H
end
section
variable {T:Tab} (F:Fr) (H:Hp) (Q:PC)
theorem Zs5 (b:SCode):sqQ T b Q .nrm F H=wp T b F H Q:=rfl
theorem Zo6 (b:SCode) (i:Nat):sqQ T b Q (.exit i) F H=Q (.exit i) F H:=rfl
theorem Zt0 (b:SCode):sqQ T b Q .ret F H=Q .ret F H:=rfl
theorem Zyr:nmQ Q F H=Q .nrm F H:=rfl
theorem Zyu (u v:Tmp):apQ u v Q F H=(apart F u v=true/\Q .nrm F H):=rfl
theorem Zqh (id:Nat):Vi id Q .nrm F H=Q .nrm F H:=rfl
theorem Zu0 (id:Nat):Vi id Q .ret F H=Q .ret F H:=rfl
theorem Ze7 (id i:Nat):Vi id Q (.exit i) F H=if i=id then Q .nrm F H else Q (.exit i) F H:=rfl
theorem wp_skip:wp T .skip F H Q=Q .nrm F H:=by rw [wp]
theorem Zsp (l:List SOp):wp T (.reg l) F H Q=wpL T l F H (nmQ Q):=by rw [wp];rfl
theorem Zom (l:List (SOp×Nat)):wp T (.dreg l) F H Q=wpD T l F H [H] (nmQ Q):=by rw [wp];rfl
theorem Zo2 (l:List (SOp×Nat)) (u v:Tmp):wp T (.areg l u v) F H Q=wpD T l F H [H] (apQ u v Q):=by rw [wp];rfl
theorem wp_seq (a b:SCode):wp T (.seq a b) F H Q=wp T a F H (sqQ T b Q):=by rw [wp];rfl
theorem Zov (c:Operand) (a b:SCode):wp T (.cond c a b) F H Q=cdQ T a b F H Q (opd T.ng F c):=by rw [wp];rfl
theorem wp_block (id:Nat) (c:SCode):wp T (.block id c) F H Q=wp T c F H (Vi id Q):=by rw [wp]
theorem wp_loop (c:SCode):wp T (.loop c) F H Q=WC T (.loop c) F H Q:=by rw [wp]
theorem wp_exit (id:Nat):wp T (.exit id) F H Q=Q (.exit id) F H:=by rw [wp]
theorem wp_ret:wp T .ret F H Q=Q .ret F H:=by rw [wp]
theorem Zoe (a b:SCode):cdQ T a b F H Q (some (.bool true))=wp T a F H Q:=rfl
theorem Zk8 (a b:SCode):cdQ T a b F H Q (some (.bool false))=wp T b F H Q:=rfl
variable {F H Q}
theorem Zs:∀ (c:SCode) {F:Fr} {H:Hp} {Q:PC},wp T c F H Q->WC T c F H Q
 | .skip,F,H,Q,h=>WC.skip (by rwa [wp] at h)
 | .reg l,F,H,Q,h=>WC.reg (Zax l (by rwa [wp] at h))
 | .dreg l,F,H,Q,h=>WC.dreg (Ui l (by rwa [wp] at h))
 | .areg l u v,F,H,Q,h=>WC.areg (Ui l (by rwa [wp] at h))
 | .seq a b,F,H,Q,h=>by
  rw [wp] at h
  refine WC.seq (WC.mono (Zs a h) fun o F' H' h'=>?_)
  cases o with
  | nrm=>exact Zs b h'
  | exit i=>exact h'
  | ret=>exact h'
 | .cond c a b,F,H,Q,h=>by
  rw [wp] at h
  refine WC.cond ?_
  split at h
  ·rename_i hc;rw [hc];exact Zs a h
  ·rename_i hc;rw [hc];exact Zs b h
  ·exact h.elim
 | .block id c,F,H,Q,h=>WC.block (Zs c (by rwa [wp] at h))
 | .loop c,F,H,Q,h=>by rwa [wp] at h
 | .exit id,F,H,Q,h=>WC.exit (by rwa [wp] at h)
 | .ret,F,H,Q,h=>WC.ret (by rwa [wp] at h)
 | .bad,F,H,Q,h=>by rw [wp] at h;exact h.elim
theorem Xh (I:Nat->Fr->Hp->Prop) {c:SCode} {Q:PC} {F:Fr} {H:Hp} {m:Nat} (h0:I m F H) (round:∀ m F H,I m F H->wp T c F H (Zbi I m Q)):WC T (.loop c) F H Q :=
 WC.loop I h0 fun m F H h=>Zs c (round m F H h)
theorem Ztk (I:Nat->Fr->Hp->Prop) (m:Nat) (F:Fr) (H:Hp) (Q:PC):Zbi I m Q .nrm F H = ∃ m',m' < m/\I m' F H:=rfl
theorem Zon (I:Nat->Fr->Hp->Prop) (m i:Nat) (F:Fr) (H:Hp) (Q:PC):Zbi I m Q (.exit i) F H=Q (.exit i) F H:=rfl
theorem Zs1 (I:Nat->Fr->Hp->Prop) (m:Nat) (F:Fr) (H:Hp) (Q:PC):Zbi I m Q .ret F H=Q .ret F H:=rfl
def rsQ (Q:V->Hp->Prop) (H:Hp):Option V->Prop
 | some v=>Q v H
 | none=>False
theorem Ztc (T:Tab) (rs:List ResultVar) (Q:V->Hp->Prop) (F:Fr) (H:Hp):resQ T rs Q .ret F H=rsQ Q H (Wp T rs F H.get):=by
 simp only [resQ];cases Wp T rs F H.get<;>rfl
theorem Zrf (T:Tab) (rs:List ResultVar) (Q:V->Hp->Prop) (F:Fr) (H:Hp):resQ T rs Q .nrm F H=rsQ Q H (Wp T rs F H.get):=by
 simp only [resQ];cases Wp T rs F H.get<;>rfl
end
section
variable (T:Tab) (t:TypeId) (x y:Operand)
theorem Zk4 (op:BinOp) (k:IntKind) (a b:Int) (h:op≠.shl) (h' : op≠.shr):binE T op t x y (.int k a) (.int k b)=Jk op k a b:=by
 unfold binE
 rw [Zy9 op _ k a b h h']
 cases hb:Jk op k a b with
 | some v=>rfl
 | none=>cases op<;>first | rfl | simp [Jk] at hb
theorem Zkx (op:BinOp) (a b:List UInt8) (h:op≠.shl) (h' : op≠.shr):binE T op t x y (.str a) (.str b)=Jp op a b:=by
 unfold binE
 rw [Z0t op _ a b h h']
 cases hb:Jp op a b with
 | some v=>rfl
 | none=>cases op<;>first | rfl | simp [Jp] at hb
theorem Zlg (k k' : IntKind) (a n:Int) (h:0<=n):binE T .shl t x y (.int k a) (.int k' n)=some (.int k (wr k (a*2 ^ (min n.toNat k.bits)))):=by
 unfold binE;rw [Zz6 _ k k' a n h]
theorem Zm1 (k k' : IntKind) (a n:Int) (h:0<=n):binE T .shr t x y (.int k a) (.int k' n)=some (.int k (a.fdiv (2 ^ (min n.toNat k.bits)))):=by
 unfold binE;rw [Zzr _ k k' a n h]
theorem Zeh (a b:List V):binE T .eql t x y (.agg a) (.agg b)=(eqS T t a b).map .bool:=rfl
theorem Zex (a b:List V):binE T .neq t x y (.agg a) (.agg b)=(eqS T t a b).map fun r=>.bool !r:=rfl
theorem Zdz (a b:Bool) (h:Vx (Zb T t)=true):binE T .eql t x y (.bool a) (.bool b)=some (.bool (a==b)):=by
 unfold binE;rw [Zm2 _ a b h]
theorem Zdy (a b:Bool) (h:Vx (Zb T t)=true):binE T .neq t x y (.bool a) (.bool b)=some (.bool (a != b)):=by
 unfold binE;rw [Zl5 _ a b h]
theorem Zfv (b o:Nat) (h:Wh (Zb T t)=true):binE T .eql t x y (.ptr b o) .nilp=some (.bool false):=by
 unfold binE;rw [Zni _ b o h]
theorem Zfz (b o:Nat) (h:Wh (Zb T t)=true):binE T .neq t x y (.ptr b o) .nilp=some (.bool true):=by
 unfold binE;rw [Znl _ b o h]
theorem Zft (h:Wh (Zb T t)=true):binE T .eql t x y .nilp .nilp=some (.bool true):=by
 unfold binE;rw [Znm _ h]
theorem Zf0 (h:Wh (Zb T t)=true):binE T .neq t x y .nilp .nilp=some (.bool false):=by
 unfold binE;rw [Znu _ h]
theorem Zf2 (u:TypeId) (v:V) (h:Zaj (Zb T t)=true):binE T .eql t x y (.ifc u v) .nili=some (.bool false):=by
 simp [binE,bin,nilR,h]
theorem Zf3 (u:TypeId) (v:V) (h:Zaj (Zb T t)=true):binE T .neq t x y (.ifc u v) .nili=some (.bool true):=by
 simp [binE,bin,nilR,h]
theorem Zfu (h:Zaj (Zb T t)=true) (hc:(isC x || isC y)=true):binE T .eql t x y .nili .nili=some (.bool true):=by
 simp only [binE,bin,nilR,h,hc];rfl
theorem Zf1 (h:Zaj (Zb T t)=true) (hc:(isC x || isC y)=true):binE T .neq t x y .nili .nili=some (.bool false):=by
 simp only [binE,bin,nilR,h,hc];rfl
end
theorem Z5 (H:Hp) (o:Ob):(H.new o).get H.next=some o:=by rw [Hp.get_new,if_pos rfl]
theorem Z9 {H:Hp} {b:Nat} (o:Ob) (h:b≠H.next):(H.new o).get b=H.get b:=by rw [Hp.get_new,if_neg h]
theorem Zd (H:Hp) (b:Nat) (o:Ob):(H.put b o).get b=some o:=by rw [Hp.get_put,if_pos rfl]
theorem Zf {H:Hp} {b c:Nat} (o:Ob) (h:c≠b):(H.put b o).get c=H.get c:=by rw [Hp.get_put,if_neg h]
theorem Zm4 (H:Hp) (b:Nat):H.bump.get b=H.get b:=Eq.trans rfl rfl
theorem Zj2 (H:Hp):H.bump.next=H.next+1:=Eq.trans rfl rfl
theorem Zne {H:Hp} (h:H.stale=[]):H.flush=H:=by unfold Hp.flush;rw [h]
theorem Zmg (H:Hp) (o:Ob):(H.new o).stale=H.stale:=Eq.trans rfl rfl
theorem Zcj (H:Hp) (b:Nat) (o:Ob):(H.put b o).stale=H.stale:=Eq.trans rfl rfl
theorem Zog (H:Hp):H.bump.stale=H.stale:=Eq.trans rfl rfl
end Go.AM
namespace Go.AM
open Go
def grdS (dt:List Tmp):Option (Option Tmp×Bool)->Bool
 | some (some t,_)=>dt.contains t
 | _=>false
def Jl (T:Tab):List Tmp->List (SOp×Nat)->Fr->Hp->List Hp->Option Hp
 | _,[],_,H,_=>some H
 | dt,((d,o,g),n) :: r,F,H,B =>
   if (isPt T o || Zba dt o || grdS dt g)=true then Jl T (addD dt d) r (delD F d) H (if isPt T o then H :: B else B)
   else match Z6 F g with
    | some true=>match evOp T o F H with
     | some (.val v H')=>if Y1 T o F n v B then Jl T dt r (putD F d v) H' B else none
     | _=>none
    | some false=>Jl T dt r (delD F d) H B
    | none=>none
def Xg (T:Tab) (call pan:CallE):List (SOp×Nat)->Fr->Hp->List Hp->Option (V×Hp)
 | [],_,_,_=>none
 | ((d,o,g),n) :: r,F,H,B=>match Z6 F g with
   | some true=>match evOp T o F H with
    | some (.val v H')=>if isPt T o then Xg T call pan r (putD F d v) H'.bump (H' :: B) else if Y1 T o F n v B then Xg T call pan r (putD F d v) H' B else none
    | some (.skip H')=>Xg T call pan r (delD F d) H'.bump (H' :: B)
    | some (.enter f xs H')=>match call f xs H' with
     | some (v,H'')=>Xg T call pan r (putD F d v) H''.bump (H'' :: B)
     | none=>match pan f xs H' with
      | some (v,H'')=>match Jl T (addD [] d) r (delD F d) H''.bump (H'' :: B) with
       | some He=>some (v,H''.upto He.next)
       | none=>none
      | none=>none
    | none=>none
   | some false=>Xg T call pan r (delD F d) H (if isPt T o then H :: B else B)
   | none=>none
def evLP (T:Tab) (call pan:CallE):List SOp->Fr->Hp->Option (V×Hp)
 | [],_,_=>none
 | (d,o,g) :: r,F,H =>
  match Z6 F g with
  | some true=>match evOp T o F H with
   | some (.val v H')=>evLP T call pan r (putD F d v) H'
   | some (.skip H')=>evLP T call pan r (delD F d) H'
   | some (.enter f xs H')=>match call f xs H' with
    | some (v,H'')=>evLP T call pan r (putD F d v) H''
    | none=>pan f xs H'
   | none=>match o with
    | .panic x=>(match opd T.ng F x with | some (.ifc t v)=>some (.ifc t v,H.flush) | _=>none)
    | _=>none
  | some false=>evLP T call pan r (delD F d) H
  | none=>none
def evSP (T:Tab) (call pan:CallE) (n:Nat):SCode->Fr->Hp->Option (V×Hp)
 | .reg l,F,H=>evLP T call pan l F H
 | .dreg l,F,H=>Xg T call pan l F H [H]
 | .areg l _ _,F,H=>Xg T call pan l F H [H]
 | .seq a b,F,H=>match evS T call n a F H with
  | some (.nrm,F',H')=>evSP T call pan n b F' H'
  | some _=>none
  | none=>evSP T call pan n a F H
 | .cond c a b,F,H=>match opd T.ng F c with
  | some (.bool true)=>evSP T call pan n a F H
  | some (.bool false)=>evSP T call pan n b F H
  | _=>none
 | .block _ c,F,H=>evSP T call pan n c F H
 | .loop c,F,H=>Wu (evS T call n c) (evSP T call pan n c) n F H
 | _,_,_=>none
section
variable {T:Tab} {call pan:CallE} {ops:Array Oper}
theorem Z09 (dt:List Tmp) (g:Option (Nat×Bool)):grdD ops dt g=grdS dt (U4 ops g):=by
 cases g with
 | none=>rfl
 | some jw =>
  obtain ⟨j,w⟩:=jw
  simp only [grdD,U4,We]
  cases ops[j]? with
  | none=>rfl
  | some o=>dsimp only;cases o.dst<;>rfl
theorem Zcl:∀ (l:List Oper) (F:Fr) (H:Hp),Yz T call pan ops l F H=evLP T call pan (l.map (Zcc ops)) F H
 | [],F,H=>rfl
 | o :: r,F,H=>by
  simp only [Yz,List.map_cons,Zcc,evLP,Zbs]
  cases Z6 F (U4 ops o.guard) with
  | none=>rfl
  | some b =>
   cases b with
   | false=>exact Zcl r _ _
   | true =>
    dsimp only
    cases evOp T o.op F H with
    | none=>rfl
    | some x =>
     cases x with
     | val v H'=>exact Zcl r _ _
     | skip H'=>exact Zcl r _ _
     | enter f xs H' =>
      dsimp only
      cases call f xs H' with
      | none=>rfl
      | some y=>exact Zcl r _ _
theorem Zdh:∀ (p:List (Nat×Nat)) (dt:List Tmp) (F:Fr) (H:Hp) (B:List Hp) {l:List (SOp×Nat)},Vc ops p=some l->evDR T ops dt p F H B=Jl T dt l F H B
 | [],dt,F,H,B,l,h=>by cases h;rfl
 | (i,n) :: r,dt,F,H,B,l,h=>by
  simp only [Vc] at h
  cases ho:ops[i]? with
  | none=>rw [ho] at h;cases h
  | some o =>
   cases hr:Vc ops r with
   | none=>rw [ho,hr] at h;cases h
   | some l' =>
    rw [ho,hr] at h
    cases h
    show evDR T ops dt ((i,n) :: r) F H B=Jl T dt (((o.dst,o.op,U4 ops o.guard),n) :: l') F H B
    simp only [evDR,ho,Jl,Zbs,Z09]
    rw [Zdh r (addD dt o.dst) (delD F o.dst) H (if isPt T o.op then H :: B else B) hr]
    by_cases hd:(isPt T o.op || Zba dt o.op || grdS dt (U4 ops o.guard))=true
    ·rw [if_pos hd,if_pos hd]
    ·rw [if_neg hd,if_neg hd]
     cases Z6 F (U4 ops o.guard) with
     | none=>rfl
     | some b =>
      cases b with
      | false=>exact Zdh r _ _ _ _ hr
      | true =>
       dsimp only
       cases evOp T o.op F H with
       | none=>rfl
       | some x =>
        cases x with
        | val v H'=>dsimp only;rw [Zdh r dt (putD F o.dst v) H' B hr]
        | skip H'=>rfl
        | enter f xs H'=>rfl
theorem U6:∀ (p:List (Nat×Nat)) (F:Fr) (H:Hp) (B:List Hp) {l:List (SOp×Nat)},Vc ops p=some l->Yc T call pan ops p F H B=Xg T call pan l F H B
 | [],F,H,B,l,h=>by cases h;rfl
 | (i,n) :: r,F,H,B,l,h=>by
  simp only [Vc] at h
  cases ho:ops[i]? with
  | none=>rw [ho] at h;cases h
  | some o =>
   cases hr:Vc ops r with
   | none=>rw [ho,hr] at h;cases h
   | some l' =>
    rw [ho,hr] at h
    cases h
    simp only [Yc,ho,Zcc,Xg,Zbs]
    cases Z6 F (U4 ops o.guard) with
    | none=>rfl
    | some b =>
     cases b with
     | false=>exact U6 r _ _ _ hr
     | true =>
      dsimp only
      cases evOp T o.op F H with
      | none=>rfl
      | some x =>
       cases x with
       | val v H' =>
        dsimp only
        rw [U6 r (putD F o.dst v) H'.bump (H' :: B) hr,U6 r (putD F o.dst v) H' B hr]
        rfl
       | skip H'=>exact U6 r _ _ _ hr
       | enter f xs H' =>
        dsimp only
        cases call f xs H' with
        | some y=>exact U6 r _ _ _ hr
        | none =>
         dsimp only
         cases pan f xs H' with
         | none=>rfl
         | some y=>dsimp only;rw [Zdh r (addD [] o.dst) (delD F o.dst) y.2.bump (y.2 :: B) hr];rfl
theorem Uw:∀ (l:List Oper) {F:Fr} {H:Hp} {r:V×Hp},Yz T call pan ops l F H=some r->Z1 T call ops l F H=none
 | [],F,H,r,h=>by simp [Yz] at h
 | o :: l,F,H,r,h=>by
  cases hw:Yg ops F o.guard with
  | none=>simp [Yz,hw] at h
  | some b =>
   cases b with
   | false=>simp only [Yz,hw] at h;simp only [Z1,hw];exact Uw l h
   | true =>
    cases ho:evOp T o.op F H with
    | none =>
     simp only [Yz,hw,ho] at h
     simp only [Z1,hw,ho]
     split at h
     ·rename_i hx;rw [hx];rfl
     ·cases h
    | some x =>
     cases x with
     | val v H'=>simp only [Yz,hw,ho] at h;simp only [Z1,hw,ho];exact Uw l h
     | skip H'=>simp only [Yz,hw,ho] at h;simp only [Z1,hw,ho];exact Uw l h
     | enter f xs H' =>
      cases hc:call f xs H' with
      | none=>simp only [Z1,hw,ho,hc]
      | some y=>simp only [Yz,hw,ho,hc] at h;simp only [Z1,hw,ho,hc];exact Uw l h
theorem Vj:∀ (l:List (Nat×Nat)) {F:Fr} {H:Hp} {B:List Hp} {r:V×Hp},Yc T call pan ops l F H B=some r->Zv T call ops l F H B=none
 | [],F,H,B,r,h=>by simp [Yc] at h
 | (i,m) :: l,F,H,B,r,h=>by
  cases hi:ops[i]? with
  | none=>simp [Yc,hi] at h
  | some o =>
   cases hw:Yg ops F o.guard with
   | none=>simp [Yc,hi,hw] at h
   | some b =>
    cases b with
    | false=>simp only [Yc,hi,hw] at h;simp only [Zv,hi,hw];exact Vj l h
    | true =>
     cases ho:evOp T o.op F H with
     | none=>simp [Yc,hi,hw,ho] at h
     | some x =>
      cases x with
      | val v H' =>
       simp only [Yc,hi,hw,ho] at h
       simp only [Zv,hi,hw,ho]
       by_cases h1:isPt T o.op=true
       ·rw [if_pos h1] at h ⊢;exact Vj l h
       ·rw [if_neg h1] at h ⊢
        by_cases h2:Y1 T o.op F m v B=true
        ·rw [if_pos h2] at h ⊢;exact Vj l h
        ·rw [if_neg h2] at h;cases h
      | skip H'=>simp only [Yc,hi,hw,ho] at h;simp only [Zv,hi,hw,ho];exact Vj l h
      | enter f xs H' =>
       cases hc:call f xs H' with
       | none=>simp only [Zv,hi,hw,ho,hc]
       | some y=>simp only [Yc,hi,hw,ho,hc] at h;simp only [Zv,hi,hw,ho,hc];exact Vj l h
theorem Zc7 {b:Fr->Hp->Option (Out×Fr×Hp)} {p:Fr->Hp->Option (V×Hp)} (hp:∀ F H r,p F H=some r->b F H=none):∀ (n:Nat) {F:Fr} {H:Hp} {r:V×Hp},Wu b p n F H=some r->Yo b n F H=none
 | 0,_,_,_,h=>by simp [Wu] at h
 | n+1,F,H,r,h=>by
  simp only [Wu] at h
  simp only [Yo]
  split at h
  ·rename_i h1;rw [h1];exact Zc7 hp n h
  ·cases h
  ·rename_i h1;rw [h1]
theorem Yq {f:FuncId} {n:Nat}:∀ (c:Code) {F:Fr} {H:Hp} {r:V×Hp},Zg T call pan f n c F H=some r->Zc T call f n c F H=none
 | .skip,F,H,r,h=>by simp [Zg] at h
 | .label _,F,H,r,h=>by simp [Zg] at h
 | .exit _,F,H,r,h=>by simp [Zg] at h
 | .ret,F,H,r,h=>by simp [Zg] at h
 | .goto _,F,H,r,h=>by simp [Zg] at h
 | .rangeFunc ..,F,H,r,h=>by simp [Zg] at h
 | .refuse _,F,H,r,h=>by simp [Zg] at h
 | .region _ ops false,F,H,r,h=>by
  simp only [Zg] at h
  simp only [Zc,Uw _ h]
 | .region id ops true,F,H,r,h=>by
  simp only [Zg] at h
  split at h
  ·rename_i p hp
   simp only [Zc,hp,Vj _ h]
  ·cases h
 | .seq a b,F,H,r,h=>by
  simp only [Zg] at h
  simp only [Zc]
  split at h
  ·rename_i h1;rw [h1];exact Yq b h
  ·cases h
  ·rename_i h1;rw [h1]
 | .cond x a b,F,H,r,h=>by
  simp only [Zg] at h
  simp only [Zc]
  split at h
  ·rename_i hx;(try rw [hx]);exact Yq a h
  ·rename_i hx;(try rw [hx]);exact Yq b h
  ·cases h
 | .block id c,F,H,r,h=>by
  simp only [Zg] at h
  simp only [Zc,Yq c h]
 | .scope c,F,H,r,h=>by
  simp only [Zg] at h
  simp only [Zc,Yq c h]
 | .loop c,F,H,r,h=>by
  simp only [Zg] at h
  simp only [Zc]
  exact Zc7 (fun F H r h=>Yq c h) n h
theorem Zds {k:Nat} {f:FuncId} {xs:List V} {H:Hp} {r:V×Hp} (h:Xl T k f xs H=some r):Zo T k f xs H=none:=by
 cases k with
 | zero=>simp [Xl] at h
 | succ k =>
  simp only [Xl] at h
  simp only [Zo]
  cases h1:T.fn f with
  | none=>rfl
  | some fn =>
   cases h2:fn.body with
   | none=>rw [h1] at h;simp only [h2] at h;cases h
   | some c =>
    rw [h1] at h
    simp only [h2] at h ⊢
    cases h3:T.ext f with
    | some e=>rw [h3] at h;cases h
    | none =>
     rw [h3] at h
     simp only [Yq _ h]
theorem Zab {b b' : Fr->Hp->Option (Out×Fr×Hp)} {p p' : Fr->Hp->Option (V×Hp)} (hb:∀ F H r,b F H=some r->b' F H=some r) (hp:∀ F H r,p F H=some r->p' F H=some r/\b' F H=none):∀ (n n' : Nat) {F:Fr} {H:Hp} {r:V×Hp},n<=n'->Wu b p n F H=some r->Wu b' p' n' F H=some r
 | 0,_,_,_,_,_,h=>by simp [Wu] at h
 | n+1,0,_,_,_,hn,_=>by omega
 | n+1,n' + 1,F,H,r,hn,h=>by
  simp only [Wu] at h ⊢
  split at h
  ·rename_i h1
   rw [hb _ _ _ h1]
   exact Zab hb hp n n' (by omega) h
  ·cases h
  ·obtain ⟨h2,h3⟩:=hp _ _ _ h
   rw [h3]
   exact h2
theorem V1 {f:FuncId} {n:Nat}:∀ (c:Code) (F:Fr) (H:Hp) {r:V×Hp},evSP T call pan n (Zh T f c) F H=some r->Zg T call pan f n c F H=some r
 | .skip,F,H,r,h=>by simp [Zh,evSP] at h
 | .label _,F,H,r,h=>by simp [Zh,evSP] at h
 | .exit _,F,H,r,h=>by simp [Zh,evSP] at h
 | .ret,F,H,r,h=>by simp [Zh,evSP] at h
 | .goto _,F,H,r,h=>by simp [Zh,evSP] at h
 | .rangeFunc ..,F,H,r,h=>by simp [Zh,evSP] at h
 | .refuse _,F,H,r,h=>by simp [Zh,evSP] at h
 | .region _ ops false,F,H,r,h=>by
  simp only [Zh,evSP] at h
  simp only [Zg,Zcl]
  exact h
 | .region id ops true,F,H,r,h=>by
  simp only [Zh] at h
  cases hp:T.dr f id with
  | none=>rw [hp] at h;simp [evSP] at h
  | some p =>
   rw [hp] at h
   cases ha:T.alt f id with
   | some A =>
    rw [ha] at h
    dsimp only at h
    cases hl:Vc ops p with
    | none=>rw [hl] at h;simp [evSP] at h
    | some l =>
     rw [hl] at h
     simp only [evSP] at h
     simp only [Zg,hp,U6 p F H [H] hl]
     exact h
   | none =>
    rw [ha] at h
    dsimp only at h
    cases hl:Vc ops p with
    | none=>rw [hl] at h;simp [evSP] at h
    | some l =>
     rw [hl] at h
     simp only [evSP] at h
     simp only [Zg,hp,U6 p F H [H] hl]
     exact h
 | .seq a b,F,H,r,h=>by
  simp only [Zh,evSP] at h
  simp only [Zg]
  split at h
  ·rename_i F1 H1 h1
   rw [W2 a F H h1]
   exact V1 b F1 H1 h
  ·cases h
  ·have:=V1 a F H h
   rw [Yq a this]
   exact this
 | .cond x a b,F,H,r,h=>by
  simp only [Zh,evSP] at h
  simp only [Zg]
  split at h
  ·rename_i hx;simp only [hx];exact V1 a F H h
  ·rename_i hx;simp only [hx];exact V1 b F H h
  ·cases h
 | .block id c,F,H,r,h=>by
  simp only [Zh,evSP] at h
  simp only [Zg]
  exact V1 c F H h
 | .scope c,F,H,r,h=>by
  simp only [Zh] at h
  simp only [Zg]
  exact V1 c F H h
 | .loop c,F,H,r,h=>by
  simp only [Zh,evSP] at h
  simp only [Zg]
  exact Zab (fun F H r h=>W2 c F H h) (fun F H r h=>⟨V1 c F H h,Yq c (V1 c F H h)⟩) n n (Nat.le_refl _) h
end
def Zda (c' p p' : CallE):Prop:=∀ f xs H r,p f xs H=some r->p' f xs H=some r/\c' f xs H=none
section
variable {T:Tab} {c c' p p' : CallE} {n n' : Nat}
theorem Uy (hc:Vn c c') (hp:Zda c' p p') {ops:Array Oper}:∀ (l:List Oper) {F:Fr} {H:Hp} {r:V×Hp},Yz T c p ops l F H=some r->Yz T c' p' ops l F H=some r
 | [],F,H,r,h=>h
 | o :: l,F,H,r,h=>by
  simp only [Yz] at h ⊢
  split at h
  ·split at h
   ·exact Uy hc hp l h
   ·exact Uy hc hp l h
   ·split at h
    ·rename_i h1
     rw [hc _ _ _ _ h1]
     exact Uy hc hp l h
    ·obtain ⟨h1,h2⟩:=hp _ _ _ _ h
     rw [h2];exact h1
   ·exact h
  ·exact Uy hc hp l h
  ·cases h
theorem Vh (hc:Vn c c') (hp:Zda c' p p') {ops:Array Oper}:∀ (l:List (Nat×Nat)) {F:Fr} {H:Hp} {B:List Hp} {r:V×Hp},Yc T c p ops l F H B=some r->Yc T c' p' ops l F H B=some r
 | [],F,H,B,r,h=>h
 | (i,m) :: l,F,H,B,r,h=>by
  simp only [Yc] at h ⊢
  split at h
  ·cases h
  ·split at h
   ·split at h
    ·split at h
     ·rename_i h1;rw [if_pos h1];exact Vh hc hp l h
     ·rename_i h1
      rw [if_neg h1]
      split at h
      ·rename_i h2;rw [if_pos h2];exact Vh hc hp l h
      ·cases h
    ·exact Vh hc hp l h
    ·split at h
     ·rename_i h1
      rw [hc _ _ _ _ h1]
      exact Vh hc hp l h
     ·split at h
      ·rename_i h1
       obtain ⟨h2,h3⟩:=hp _ _ _ _ h1
       rw [h3,h2]
       exact h
      ·cases h
    ·cases h
   ·exact Vh hc hp l h
   ·cases h
theorem Xc (hc:Vn c c') (hp:Zda c' p p') (hn:n<=n') {f:FuncId}:∀ (x:Code) {F:Fr} {H:Hp} {r:V×Hp},Zg T c p f n x F H=some r->Zg T c' p' f n' x F H=some r
 | .skip,F,H,r,h=>h
 | .label _,F,H,r,h=>h
 | .exit _,F,H,r,h=>h
 | .ret,F,H,r,h=>h
 | .goto _,F,H,r,h=>by simp [Zg] at h
 | .rangeFunc ..,F,H,r,h=>by simp [Zg] at h
 | .refuse _,F,H,r,h=>by simp [Zg] at h
 | .region _ ops false,F,H,r,h=>by
  simp only [Zg] at h ⊢
  exact Uy hc hp _ h
 | .region id ops true,F,H,r,h=>by
  simp only [Zg] at h ⊢
  split at h
  ·exact Vh hc hp _ h
  ·cases h
 | .seq a b,F,H,r,h=>by
  simp only [Zg] at h ⊢
  split at h
  ·rename_i h1
   rw [Zx hc hn a h1]
   exact Xc hc hp hn b h
  ·cases h
  ·have:=Xc hc hp hn a h
   rw [Yq a this]
   exact this
 | .cond x a b,F,H,r,h=>by
  simp only [Zg] at h ⊢
  split at h
  ·rename_i hx;(try simp only [hx]);exact Xc hc hp hn a h
  ·rename_i hx;(try simp only [hx]);exact Xc hc hp hn b h
  ·cases h
 | .block id a,F,H,r,h=>by
  simp only [Zg] at h ⊢
  exact Xc hc hp hn a h
 | .scope a,F,H,r,h=>by
  simp only [Zg] at h ⊢
  exact Xc hc hp hn a h
 | .loop a,F,H,r,h=>by
  simp only [Zg] at h ⊢
  exact Zab (fun F H r h=>Zx hc hn a h) (fun F H r h=>⟨Xc hc hp hn a h,Yq a (Xc hc hp hn a h)⟩) n n' hn h
theorem Vp (T:Tab):∀ (k k' : Nat),k<=k'->Zda (Zo T k') (Xl T k) (Xl T k')
 | 0,_,_=>fun f xs H r h=>by simp [Xl] at h
 | k+1,0,h=>by omega
 | k+1,k' + 1,hk=>fun f xs H r h=>by
  have key:Xl T (k' + 1) f xs H=some r:=by
   simp only [Xl] at h ⊢
   split at h
   ·split at h
    ·split at h
     ·cases h
     ·rename_i h3
      (try rw [h3])
      exact Xc (Zj T k k' (by omega)) (Vp T k k' (by omega)) (by omega) _ h
    ·cases h
   ·cases h
  exact ⟨key,Zds key⟩
theorem Jc (hc:Vn c c') (hp:Zda c' p p'):∀ (l:List SOp) {F:Fr} {H:Hp} {r:V×Hp},evLP T c p l F H=some r->evLP T c' p' l F H=some r
 | [],F,H,r,h=>h
 | (d,o,g) :: l,F,H,r,h=>by
  simp only [evLP] at h ⊢
  split at h
  ·split at h
   ·exact Jc hc hp l h
   ·exact Jc hc hp l h
   ·split at h
    ·rename_i h1
     rw [hc _ _ _ _ h1]
     exact Jc hc hp l h
    ·obtain ⟨h1,h2⟩:=hp _ _ _ _ h
     rw [h2];exact h1
   ·exact h
  ·exact Jc hc hp l h
  ·cases h
theorem W8 (hc:Vn c c') (hp:Zda c' p p'):∀ (l:List (SOp×Nat)) {F:Fr} {H:Hp} {B:List Hp} {r:V×Hp},Xg T c p l F H B=some r->Xg T c' p' l F H B=some r
 | [],F,H,B,r,h=>h
 | ((d,o,g),m) :: l,F,H,B,r,h=>by
  simp only [Xg] at h ⊢
  split at h
  ·split at h
   ·split at h
    ·rename_i h1;rw [if_pos h1];exact W8 hc hp l h
    ·rename_i h1
     rw [if_neg h1]
     split at h
     ·rename_i h2;rw [if_pos h2];exact W8 hc hp l h
     ·cases h
   ·exact W8 hc hp l h
   ·split at h
    ·rename_i h1
     rw [hc _ _ _ _ h1]
     exact W8 hc hp l h
    ·split at h
     ·rename_i h1
      obtain ⟨h2,h3⟩:=hp _ _ _ _ h1
      rw [h3,h2]
      exact h
     ·cases h
   ·cases h
  ·exact W8 hc hp l h
  ·cases h
theorem Za4:∀ (l:List SOp) {F:Fr} {H:Hp} {r:V×Hp},evLP T c p l F H=some r->evL T c l F H=none
 | [],F,H,r,h=>by simp [evLP] at h
 | (d,o,g) :: l,F,H,r,h=>by
  cases hw:Z6 F g with
  | none=>simp [evLP,hw] at h
  | some b =>
   cases b with
   | false=>simp only [evLP,hw] at h;simp only [evL,hw];exact Za4 l h
   | true =>
    cases ho:evOp T o F H with
    | none =>
     simp only [evLP,hw,ho] at h
     simp only [evL,hw,ho]
     split at h
     ·rfl
     ·cases h
    | some x =>
     cases x with
     | val v H'=>simp only [evLP,hw,ho] at h;simp only [evL,hw,ho];exact Za4 l h
     | skip H'=>simp only [evLP,hw,ho] at h;simp only [evL,hw,ho];exact Za4 l h
     | enter f xs H' =>
      cases hc:c f xs H' with
      | none=>simp only [evL,hw,ho,hc]
      | some y=>simp only [evLP,hw,ho,hc] at h;simp only [evL,hw,ho,hc];exact Za4 l h
theorem Vq:∀ (l:List (SOp×Nat)) {F:Fr} {H:Hp} {B:List Hp} {r:V×Hp},Xg T c p l F H B=some r->evDL T c l F H B=none
 | [],F,H,B,r,h=>by simp [Xg] at h
 | ((d,o,g),m) :: l,F,H,B,r,h=>by
  cases hw:Z6 F g with
  | none=>simp [Xg,hw] at h
  | some b =>
   cases b with
   | false=>simp only [Xg,hw] at h;simp only [evDL,hw];exact Vq l h
   | true =>
    cases ho:evOp T o F H with
    | none=>simp [Xg,hw,ho] at h
    | some x =>
     cases x with
     | val v H' =>
      simp only [Xg,hw,ho] at h
      simp only [evDL,hw,ho]
      by_cases h1:isPt T o=true
      ·rw [if_pos h1] at h ⊢;exact Vq l h
      ·rw [if_neg h1] at h ⊢
       by_cases h2:Y1 T o F m v B=true
       ·rw [if_pos h2] at h ⊢;exact Vq l h
       ·rw [if_neg h2] at h;cases h
     | skip H'=>simp only [Xg,hw,ho] at h;simp only [evDL,hw,ho];exact Vq l h
     | enter f xs H' =>
      cases hc:c f xs H' with
      | none=>simp only [evDL,hw,ho,hc]
      | some y=>simp only [Xg,hw,ho,hc] at h;simp only [evDL,hw,ho,hc];exact Vq l h
theorem Wi:∀ (x:SCode) {F:Fr} {H:Hp} {r:V×Hp},evSP T c p n x F H=some r->evS T c n x F H=none
 | .skip,F,H,r,h=>by simp [evSP] at h
 | .exit _,F,H,r,h=>by simp [evSP] at h
 | .ret,F,H,r,h=>by simp [evSP] at h
 | .bad,F,H,r,h=>by simp [evSP] at h
 | .reg l,F,H,r,h=>by
  simp only [evSP] at h
  simp only [evS,Za4 _ h]
 | .dreg l,F,H,r,h=>by
  simp only [evSP] at h
  simp only [evS,Vq _ h]
 | .areg l u v,F,H,r,h=>by
  simp only [evSP] at h
  simp only [evS,Vq _ h]
 | .seq a b,F,H,r,h=>by
  simp only [evSP] at h
  simp only [evS]
  split at h
  ·rename_i h1;rw [h1];exact Wi b h
  ·cases h
  ·rename_i h1;rw [h1]
 | .cond x a b,F,H,r,h=>by
  simp only [evSP] at h
  simp only [evS]
  split at h
  ·rename_i hx;(try rw [hx]);exact Wi a h
  ·rename_i hx;(try rw [hx]);exact Wi b h
  ·cases h
 | .block id a,F,H,r,h=>by
  simp only [evSP] at h
  simp only [evS,Wi a h]
 | .loop a,F,H,r,h=>by
  simp only [evSP] at h
  simp only [evS]
  exact Zc7 (fun F H r h=>Wi a h) n h
theorem Wg (hc:Vn c c') (hp:Zda c' p p') (hn:n<=n'):∀ (x:SCode) {F:Fr} {H:Hp} {r:V×Hp},evSP T c p n x F H=some r->evSP T c' p' n' x F H=some r
 | .skip,F,H,r,h=>h
 | .exit _,F,H,r,h=>h
 | .ret,F,H,r,h=>h
 | .bad,F,H,r,h=>h
 | .reg l,F,H,r,h=>by
  simp only [evSP] at h ⊢
  exact Jc hc hp _ h
 | .dreg l,F,H,r,h=>by
  simp only [evSP] at h ⊢
  exact W8 hc hp _ h
 | .areg l u v,F,H,r,h=>by
  simp only [evSP] at h ⊢
  exact W8 hc hp _ h
 | .seq a b,F,H,r,h=>by
  simp only [evSP] at h ⊢
  split at h
  ·rename_i h1
   rw [Z7 hc hn a h1]
   exact Wg hc hp hn b h
  ·cases h
  ·have:=Wg hc hp hn a h
   rw [Wi a this]
   exact this
 | .cond x a b,F,H,r,h=>by
  simp only [evSP] at h ⊢
  split at h
  ·rename_i hx;(try simp only [hx]);exact Wg hc hp hn a h
  ·rename_i hx;(try simp only [hx]);exact Wg hc hp hn b h
  ·cases h
 | .block id a,F,H,r,h=>by
  simp only [evSP] at h ⊢
  exact Wg hc hp hn a h
 | .loop a,F,H,r,h=>by
  simp only [evSP] at h ⊢
  exact Zab (fun F H r h=>Z7 hc hn a h) (fun F H r h=>⟨Wg hc hp hn a h,Wi a (Wg hc hp hn a h)⟩) n n' hn h
end
end Go.AM
namespace Go.AM
open Go
section
variable (T:Tab)
def WFp (f:FuncId) (xs:List V) (H:Hp) (P:V->Hp->Prop):Prop:=∃ k v H',Xl T k f xs H=some (v,H')/\P v H'
def WR (f:FuncId) (xs:List V) (H:Hp) (Q P:V->Hp->Prop):Prop:=WF T f xs H Q\/WFp T f xs H P
def WLr (P:V->Hp->Prop) (l:List SOp) (F:Fr) (H:Hp) (Q:PL):Prop:=WL T l F H Q\/∃ k v H',evLP T (Zo T k) (Xl T k) l F H=some (v,H')/\P v H'
def WDr (P:V->Hp->Prop) (l:List (SOp×Nat)) (F:Fr) (H:Hp) (B:List Hp) (Q:PL):Prop:=WD T l F H B Q\/∃ k v H',Xg T (Zo T k) (Xl T k) l F H B=some (v,H')/\P v H'
def WCr (P:V->Hp->Prop) (c:SCode) (F:Fr) (H:Hp) (Q:PC):Prop:=WC T c F H Q\/∃ k v H',evSP T (Zo T k) (Xl T k) k c F H=some (v,H')/\P v H'
def panQ (P:V->Hp->Prop) (o:Op) (F:Fr) (H:Hp):Prop:=match o with
 | .panic x=>(match opd T.ng F x with | some (.ifc t v)=>P (.ifc t v) H.flush | _=>False)
 | _=>False
def panK (P:V->Hp->Prop) (o:Op) (F:Fr) (H:Hp):Kd->Prop
 | .no=>panQ T P o F H
 | _=>False
def drD:List Tmp->List (SOp×Nat)->Fr->Hp->List Hp->(Hp->Prop)->Prop
 | _,[],_,H,_,K=>K H
 | dt,((d,o,g),n) :: r,F,H,B,K=>match isPt T o || Zba dt o || grdS dt g with
  | true=>drD (addD dt d) r (delD F d) H (if isPt T o then H :: B else B) K
  | false=>match Z6 F g with
   | some true=>match evOp T o F H with
    | some (.val v H')=>Y1 T o F n v B=true/\drD dt r (putD F d v) H' B K
    | _=>False
   | some false=>drD dt r (delD F d) H B K
   | none=>False
def Jm (P:V->Hp->Prop) (d:Option Tmp) (r:List (SOp×Nat)) (F:Fr) (B:List Hp):V->Hp->Prop:=fun v H=>drD T (addD [] d) r (delD F d) H.bump (H :: B) fun He=>P v (H.upto He.next)
def rV (o:Op) (n:Nat) (dt:List Tmp) (d:Option Tmp) (r:List (SOp×Nat)) (F:Fr) (H:Hp) (B:List Hp) (K:Hp->Prop):Option V->Prop
 | some v=>Y1 T o F n v B=true/\drD T dt r (putD F d v) H B K
 | none=>False
def rA (o:Op) (n:Nat) (dt:List Tmp) (d:Option Tmp) (r:List (SOp×Nat)) (F:Fr) (H:Hp) (B:List Hp) (K:Hp->Prop):Option (V×Option Ob×Option Nat)->Prop
 | some (v,ob,kb)=>kbOk H kb=true/\Y1 T o F n v B=true/\drD T dt r (putD F d v) (Yx H ob kb) B K
 | none=>False
def opR (o:Op) (n:Nat) (dt:List Tmp) (d:Option Tmp) (r:List (SOp×Nat)) (F:Fr) (H:Hp) (B:List Hp) (K:Hp->Prop):Kd->Prop
 | .p=>rV T o n dt d r F H B K (evP T o F)
 | .r=>rV T o n dt d r F H B K (evR T o F H.get)
 | .a=>rA T o n dt d r F H B K (evA T o F H.get H.next)
 | _=>False
def Zp7 (o:Op) (n:Nat) (dt:List Tmp) (d:Option Tmp) (r:List (SOp×Nat)) (F:Fr) (H:Hp) (B:List Hp) (K:Hp->Prop):Option Bool->Prop
 | some true=>opR T o n dt d r F H B K (kind T o)
 | some false=>drD T dt r (delD F d) H B K
 | none=>False
def Zpy (o:Op) (g:Option (Option Tmp×Bool)) (n:Nat) (dt:List Tmp) (d:Option Tmp) (r:List (SOp×Nat)) (F:Fr) (H:Hp) (B:List Hp) (K:Hp->Prop):Bool->Prop
 | true=>drD T (addD dt d) r (delD F d) H (if isPt T o then H :: B else B) K
 | false=>Zp7 T o n dt d r F H B K (Z6 F g)
end
section
variable {T:Tab} {P:V->Hp->Prop} {F:Fr} {H:Hp}
theorem WFp.mono {f:FuncId} {xs:List V} {Q Q' : V->Hp->Prop} (h:WFp T f xs H Q) (hq:∀ v H',Q v H'->Q' v H'):WFp T f xs H Q':=by
 obtain ⟨k,v,H',h1,h2⟩:=h
 exact ⟨k,v,H',h1,hq v H' h2⟩
theorem WR.mono {f:FuncId} {xs:List V} {Q Q' P P' : V->Hp->Prop} (h:WR T f xs H Q P) (hq:∀ v H',Q v H'->Q' v H') (hp:∀ v H',P v H'->P' v H'):WR T f xs H Q' P':=h.imp (fun h=>h.mono hq) (fun h=>h.mono hp)
theorem WF.r {f:FuncId} {xs:List V} {Q P:V->Hp->Prop} (h:WF T f xs H Q):WR T f xs H Q P:=.inl h
theorem WCr.mono {c:SCode} {Q Q' : PC} {P' : V->Hp->Prop} (h:WCr T P c F H Q) (hq:∀ o F' H',Q o F' H'->Q' o F' H') (hp:∀ v H',P v H'->P' v H'):WCr T P' c F H Q':=h.imp (fun h=>h.mono hq) fun ⟨k,v,H',h1,h2⟩=>⟨k,v,H',h1,hp v H' h2⟩
theorem Z1b (dt:List Tmp) (F:Fr) (H:Hp) (B:List Hp) (K:Hp->Prop):drD T dt [] F H B K=K H:=by rw [drD]
theorem Zvl (dt:List Tmp) (d:Option Tmp) (o:Op) (g:Option (Option Tmp×Bool)) (n:Nat) (r:List (SOp×Nat)) (F:Fr) (H:Hp) (B:List Hp) (K:Hp->Prop):drD T dt (((d,o,g),n) :: r) F H B K=Zpy T o g n dt d r F H B K (isPt T o || Zba dt o || grdS dt g):=by
 rw [drD]
 cases hb:(isPt T o || Zba dt o || grdS dt g) with
 | true=>rfl
 | false =>
  simp only [Zpy]
  cases Z6 F g with
  | none=>rfl
  | some b =>
   cases b with
   | false=>rfl
   | true =>
    simp only [Zp7]
    have hnp:isPt T o=false:=by
     cases hp:isPt T o with
     | false=>rfl
     | true=>rw [hp] at hb;simp at hb
    unfold evOp
    cases hk:kind T o with
    | p=>simp only [opR];cases evP T o F<;>rfl
    | r=>simp only [opR];cases evR T o F H.get<;>rfl
    | a =>
     simp only [opR]
     cases evA T o F H.get H.next with
     | none =>
      simp only [rA]
      cases hw:evAW T o F H.flush with
      | none=>rfl
      | some x =>
       exfalso
       have:=Zch hw
       unfold isPt at hnp
       rw [hk] at hnp
       unfold Uz at this
       split at this<;>simp_all
     | some x =>
      obtain ⟨v,ob,kb⟩:=x
      simp only [rA]
      by_cases h:kbOk H kb=true<;>simp [h]
    | w=>unfold isPt at hnp;rw [hk] at hnp;cases hnp
    | c=>unfold isPt at hnp;rw [hk] at hnp;cases hnp
    | no=>rfl
theorem Zb6:∀ (l:List (SOp×Nat)) (dt:List Tmp) {F:Fr} {H:Hp} {B:List Hp} {K:Hp->Prop},drD T dt l F H B K->∃ He,Jl T dt l F H B=some He/\K He
 | [],dt,F,H,B,K,h=>⟨H,rfl,by rwa [drD] at h⟩
 | ((d,o,g),n) :: r,dt,F,H,B,K,h=>by
  rw [drD] at h
  cases hb:(isPt T o || Zba dt o || grdS dt g) with
  | true =>
   rw [hb] at h
   obtain ⟨He,h1,h2⟩:=Zb6 r _ h
   exact ⟨He,by simp only [Jl,hb,if_true];exact h1,h2⟩
  | false =>
   rw [hb] at h
   dsimp only at h
   cases hw:Z6 F g with
   | none=>rw [hw] at h;exact h.elim
   | some b =>
    rw [hw] at h
    cases b with
    | false =>
     obtain ⟨He,h1,h2⟩:=Zb6 r _ h
     exact ⟨He,by simp only [Jl,hb,hw];exact h1,h2⟩
    | true =>
     dsimp only at h
     cases ho:evOp T o F H with
     | none=>rw [ho] at h;exact h.elim
     | some x =>
      rw [ho] at h
      cases x with
      | val v H' =>
       obtain ⟨hwin,h⟩:=h
       obtain ⟨He,h1,h2⟩:=Zb6 r _ h
       exact ⟨He,by simp only [Jl,hb,hw,ho,hwin,if_true];exact h1,h2⟩
      | skip H'=>exact h.elim
      | enter f xs H'=>exact h.elim
end
section
variable (T:Tab) (P:V->Hp->Prop)
def wpLP:List SOp->Fr->Hp->PL->Prop
 | [],F,H,Q=>Q F H.flush
 | (d,o,g) :: r,F,H,Q=>match Z6 F g with
  | some true=>match evOp T o F H with
   | some (.val v H')=>wpLP r (putD F d v) H' Q
   | some (.skip H')=>wpLP r (delD F d) H' Q
   | some (.enter f xs H')=>WR T f xs H' (fun v H''=>wpLP r (putD F d v) H'' Q) P
   | none=>panK T P o F H (kind T o)
  | some false=>wpLP r (delD F d) H Q
  | none=>False
def wpDP:List (SOp×Nat)->Fr->Hp->List Hp->PL->Prop
 | [],F,H,_,Q=>Q F H.flush
 | ((d,o,g),n) :: r,F,H,B,Q=>match Z6 F g with
  | some true=>match evOp T o F H with
   | some (.val v H')=>if isPt T o then wpDP r (putD F d v) H'.bump (H' :: B) Q else Y1 T o F n v B=true/\wpDP r (putD F d v) H' B Q
   | some (.skip H')=>wpDP r (delD F d) H'.bump (H' :: B) Q
   | some (.enter f xs H')=>WR T f xs H' (fun v H''=>wpDP r (putD F d v) H''.bump (H'' :: B) Q) (Jm T P d r F B)
   | none=>False
  | some false=>wpDP r (delD F d) H (if isPt T o then H :: B else B) Q
  | none=>False
def Zq1 (d:Option Tmp) (r:List SOp) (F:Fr) (Q:PL):V->Hp->Prop:=fun v H=>wpLP T P r (putD F d v) H Q
def Zux (d:Option Tmp) (r:List (SOp×Nat)) (F:Fr) (B:List Hp) (Q:PL):V->Hp->Prop:=fun v H=>wpDP T P r (putD F d v) H.bump (H :: B) Q
def kVP (d:Option Tmp) (r:List SOp) (F:Fr) (H:Hp) (Q:PL):Option V->Prop
 | some v=>wpLP T P r (putD F d v) H Q
 | none=>False
def kAWP (d:Option Tmp) (r:List SOp) (F:Fr) (Q:PL):Option (V×Hp)->Prop
 | some (v,H')=>wpLP T P r (putD F d v) H' Q
 | none=>False
def kAP (o:Op) (d:Option Tmp) (r:List SOp) (F:Fr) (H:Hp) (Q:PL):Option (V×Option Ob×Option Nat)->Prop
 | some (v,ob,kb)=>kbOk H kb=true/\wpLP T P r (putD F d v) (Yx H ob kb) Q
 | none=>kAWP T P d r F Q (evAW T o F H.flush)
def kWP (d:Option Tmp) (r:List SOp) (F:Fr) (Q:PL):Option (Option V×Hp)->Prop
 | some (some v,H')=>wpLP T P r (putD F d v) H' Q
 | some (none,H')=>wpLP T P r (delD F d) H' Q
 | none=>False
def kCP (d:Option Tmp) (r:List SOp) (F:Fr) (H:Hp) (Q:PL):Option V->Option (List V)->Prop
 | some (.fn (.func f) fs cs),some xs=>WR T f (fs++xs++cs) H.flush (Zq1 T P d r F Q) P
 | _,_=>False
def kCoP (o:Op) (d:Option Tmp) (r:List SOp) (F:Fr) (H:Hp) (Q:PL):Prop:=match o with
 | .call c=>match c.callee with
  | .value f=>kCP T P d r F H Q (opd T.ng F f) (opds T.ng F c.args.toList)
  | _=>False
 | _=>False
def opQP (o:Op) (d:Option Tmp) (r:List SOp) (F:Fr) (H:Hp) (Q:PL):Kd->Prop
 | .p=>kVP T P d r F H Q (evP T o F)
 | .r=>kVP T P d r F H Q (evR T o F H.get)
 | .a=>kAP T P o d r F H Q (evA T o F H.get H.next)
 | .w=>kWP T P d r F Q (evW T o F H.flush)
 | .c=>kCoP T P o d r F H Q
 | .no=>panK T P o F H .no
def Zhf (o:Op) (d:Option Tmp) (r:List SOp) (F:Fr) (H:Hp) (Q:PL):Option Bool->Prop
 | some true=>opQP T P o d r F H Q (kind T o)
 | some false=>wpLP T P r (delD F d) H Q
 | none=>False
def dVP (o:Op) (n:Nat) (d:Option Tmp) (r:List (SOp×Nat)) (F:Fr) (H:Hp) (B:List Hp) (Q:PL):Option V->Prop
 | some v=>Y1 T o F n v B=true/\wpDP T P r (putD F d v) H B Q
 | none=>False
def dAWP (d:Option Tmp) (r:List (SOp×Nat)) (F:Fr) (B:List Hp) (Q:PL):Option (V×Hp)->Prop
 | some (v,H')=>wpDP T P r (putD F d v) H'.bump (H' :: B) Q
 | none=>False
def dAP (o:Op) (n:Nat) (d:Option Tmp) (r:List (SOp×Nat)) (F:Fr) (H:Hp) (B:List Hp) (Q:PL) (pt:Bool):Option (V×Option Ob×Option Nat)->Prop
 | some (v,ob,kb)=>kbOk H kb=true/\(match pt with | true=>wpDP T P r (putD F d v) (Yx H ob kb).bump (Yx H ob kb :: B) Q | false=>Y1 T o F n v B=true/\wpDP T P r (putD F d v) (Yx H ob kb) B Q)
 | none=>pt=true/\dAWP T P d r F B Q (evAW T o F H.flush)
def dWP (d:Option Tmp) (r:List (SOp×Nat)) (F:Fr) (B:List Hp) (Q:PL):Option (Option V×Hp)->Prop
 | some (some v,H')=>wpDP T P r (putD F d v) H'.bump (H' :: B) Q
 | some (none,H')=>wpDP T P r (delD F d) H'.bump (H' :: B) Q
 | none=>False
def dCP (d:Option Tmp) (r:List (SOp×Nat)) (F:Fr) (H:Hp) (B:List Hp) (Q:PL):Option V->Option (List V)->Prop
 | some (.fn (.func f) fs cs),some xs=>WR T f (fs++xs++cs) H.flush (Zux T P d r F B Q) (Jm T P d r F B)
 | _,_=>False
def dCoP (o:Op) (d:Option Tmp) (r:List (SOp×Nat)) (F:Fr) (H:Hp) (B:List Hp) (Q:PL):Prop:=match o with
 | .call c=>match c.callee with
  | .value f=>dCP T P d r F H B Q (opd T.ng F f) (opds T.ng F c.args.toList)
  | _=>False
 | _=>False
def opDP (o:Op) (n:Nat) (d:Option Tmp) (r:List (SOp×Nat)) (F:Fr) (H:Hp) (B:List Hp) (Q:PL):Kd->Prop
 | .p=>dVP T P o n d r F H B Q (evP T o F)
 | .r=>dVP T P o n d r F H B Q (evR T o F H.get)
 | .a=>dAP T P o n d r F H B Q (Uz o) (evA T o F H.get H.next)
 | .w=>dWP T P d r F B Q (evW T o F H.flush)
 | .c=>dCoP T P o d r F H B Q
 | .no=>False
def skDP (d:Option Tmp) (r:List (SOp×Nat)) (F:Fr) (H:Hp) (B:List Hp) (Q:PL):Bool->Prop
 | true=>wpDP T P r (delD F d) H (H :: B) Q
 | false=>wpDP T P r (delD F d) H B Q
def Zc0 (o:Op) (n:Nat) (d:Option Tmp) (r:List (SOp×Nat)) (F:Fr) (H:Hp) (B:List Hp) (Q:PL):Option Bool->Prop
 | some true=>opDP T P o n d r F H B Q (kind T o)
 | some false=>skDP T P d r F H B Q (isPt T o)
 | none=>False
end
section
variable {T:Tab} {P:V->Hp->Prop}
theorem Zw5 (F:Fr) (H:Hp) (Q:PL):wpLP T P [] F H Q=Q F H.flush:=by rw [wpLP]
theorem Zjp (d:Option Tmp) (o:Op) (g:Option (Option Tmp×Bool)) (r:List SOp) (F:Fr) (H:Hp) (Q:PL):wpLP T P ((d,o,g) :: r) F H Q=Zhf T P o d r F H Q (Z6 F g):=by
 rw [wpLP]
 cases Z6 F g with
 | none=>rfl
 | some b =>
  cases b with
  | false=>rfl
  | true =>
   simp only [Zhf]
   unfold evOp
   cases kind T o with
   | p=>simp only [opQP];cases evP T o F<;>rfl
   | r=>simp only [opQP];cases evR T o F H.get<;>rfl
   | a =>
    simp only [opQP]
    cases evA T o F H.get H.next with
    | none=>simp only [kAP];cases evAW T o F H.flush<;>rfl
    | some x =>
     obtain ⟨v,ob,kb⟩:=x
     simp only [kAP]
     by_cases h:kbOk H kb=true<;>simp [h,panK]
   | w =>
    simp only [opQP]
    cases evW T o F H.flush with
    | none=>rfl
    | some x=>obtain ⟨v,H'⟩:=x;cases v<;>rfl
   | c =>
    simp only [opQP,kCoP]
    cases o<;>try rfl
    rename_i c
    obtain ⟨callee,args,tys⟩:=c
    cases callee<;>try rfl
    rename_i f
    dsimp only
    cases opd T.ng F f with
    | none=>rfl
    | some v =>
     cases opds T.ng F args.toList with
     | none=>cases v<;>first | rfl | (rename_i f _ _;cases f<;>rfl)
     | some xs=>cases v<;>first | rfl | (rename_i f _ _;cases f<;>rfl)
   | no=>rfl
theorem Zwg (F:Fr) (H:Hp) (B:List Hp) (Q:PL):wpDP T P [] F H B Q=Q F H.flush:=by rw [wpDP]
theorem Zj9 (d:Option Tmp) (o:Op) (g:Option (Option Tmp×Bool)) (n:Nat) (r:List (SOp×Nat)) (F:Fr) (H:Hp) (B:List Hp) (Q:PL):wpDP T P (((d,o,g),n) :: r) F H B Q=Zc0 T P o n d r F H B Q (Z6 F g):=by
 rw [wpDP]
 cases Z6 F g with
 | none=>rfl
 | some b =>
  cases b with
  | false=>simp only [Zc0];cases isPt T o<;>rfl
  | true =>
   simp only [Zc0]
   unfold evOp
   have hpt:isPt T o=(match kind T o with | .w=>true | .c=>true | .a=>Uz o | _=>false):=by
    unfold isPt
    cases kind T o<;>first | rfl | (cases o<;>rfl)
   cases hk:kind T o with
   | p=>rw [hk] at hpt;simp only [opDP,hpt];cases evP T o F<;>simp [dVP]
   | r=>rw [hk] at hpt;simp only [opDP,hpt];cases evR T o F H.get<;>simp [dVP]
   | a =>
    rw [hk] at hpt
    simp only [opDP,hpt]
    cases evA T o F H.get H.next with
    | none =>
     simp only [dAP]
     cases hw:evAW T o F H.flush with
     | none=>simp [dAWP]
     | some x=>obtain ⟨v,H'⟩:=x;simp [dAWP,Zch hw]
    | some x =>
     obtain ⟨v,ob,kb⟩:=x
     simp only [dAP]
     by_cases h:kbOk H kb=true
     ·cases Uz o<;>simp [h]
     ·simp [h]
   | w =>
    rw [hk] at hpt
    simp only [opDP,hpt]
    cases evW T o F H.flush with
    | none=>simp [dWP]
    | some x=>obtain ⟨v,H'⟩:=x;cases v<;>simp [dWP]
   | c =>
    rw [hk] at hpt
    simp only [opDP,dCoP,hpt]
    cases o<;>try rfl
    rename_i c
    obtain ⟨callee,args,tys⟩:=c
    cases callee<;>try rfl
    rename_i f
    dsimp only
    cases opd T.ng F f with
    | none=>rfl
    | some v =>
     cases opds T.ng F args.toList with
     | none=>cases v<;>first | rfl | (rename_i f _ _;cases f<;>rfl)
     | some xs=>cases v<;>first | rfl | (rename_i f _ _;cases f<;>rfl)
   | no=>simp [opDP]
theorem Jj:∀ (l:List SOp) {F:Fr} {H:Hp} {Q:PL},wpLP T P l F H Q->WLr T P l F H Q
 | [],F,H,Q,h=>.inl (WL.nil (by rwa [wpLP] at h))
 | (d,o,g) :: r,F,H,Q,h=>by
  rw [wpLP] at h
  cases hw:Z6 F g with
  | none=>rw [hw] at h;exact h.elim
  | some b =>
   rw [hw] at h
   cases b with
   | false =>
    rcases Jj r h with ⟨k,F',H',h1,h2⟩ | ⟨k,v,H',h1,h2⟩
    ·exact .inl ⟨k,F',H',by simp only [evL,hw];exact h1,h2⟩
    ·exact .inr ⟨k,v,H',by simp only [evLP,hw];exact h1,h2⟩
   | true =>
    dsimp only at h
    cases ho:evOp T o F H with
    | none =>
     rw [ho] at h
     dsimp only at h
     unfold panK at h
     split at h
     ·unfold panQ at h
      split at h
      ·split at h
       ·rename_i u x t v hx
        exact .inr ⟨0,_,_,by simp only [evLP,hw,ho,hx],h⟩
       ·exact h.elim
      ·exact h.elim
     ·exact h.elim
    | some x =>
     rw [ho] at h
     cases x with
     | val v1 H1 =>
      rcases Jj r h with ⟨k,F',H',h1,h2⟩ | ⟨k,v,H',h1,h2⟩
      ·exact .inl ⟨k,F',H',by simp only [evL,hw,ho];exact h1,h2⟩
      ·exact .inr ⟨k,v,H',by simp only [evLP,hw,ho];exact h1,h2⟩
     | skip H1 =>
      rcases Jj r h with ⟨k,F',H',h1,h2⟩ | ⟨k,v,H',h1,h2⟩
      ·exact .inl ⟨k,F',H',by simp only [evL,hw,ho];exact h1,h2⟩
      ·exact .inr ⟨k,v,H',by simp only [evLP,hw,ho];exact h1,h2⟩
     | enter f xs H1 =>
      rcases h with ⟨k1,v1,H2,g1,g2⟩ | ⟨k,v,H',h1,h2⟩
      ·rcases Jj r g2 with ⟨k2,F',H',h2,h3⟩ | ⟨k2,v,H',h2,h3⟩
       ·refine .inl ⟨max k1 k2,F',H',?_,h3⟩
        simp only [evL,hw,ho,Zj T k1 (max k1 k2) (Nat.le_max_left _ _) _ _ _ _ g1]
        exact Zas (Zj T k2 _ (Nat.le_max_right _ _)) _ h2
       ·refine .inr ⟨max k1 k2,v,H',?_,h3⟩
        simp only [evLP,hw,ho,Zj T k1 (max k1 k2) (Nat.le_max_left _ _) _ _ _ _ g1]
        exact Jc (Zj T k2 _ (Nat.le_max_right _ _)) (Vp T k2 _ (Nat.le_max_right _ _)) _ h2
      ·exact .inr ⟨k,v,H',by simp only [evLP,hw,ho,Zds h1];exact h1,h2⟩
theorem Vo:∀ (l:List (SOp×Nat)) {F:Fr} {H:Hp} {B:List Hp} {Q:PL},wpDP T P l F H B Q->WDr T P l F H B Q
 | [],F,H,B,Q,h=>.inl (WD.nil (by rwa [wpDP] at h))
 | ((d,o,g),n) :: r,F,H,B,Q,h=>by
  rw [wpDP] at h
  cases hw:Z6 F g with
  | none=>rw [hw] at h;exact h.elim
  | some b =>
   rw [hw] at h
   cases b with
   | false =>
    rcases Vo r h with ⟨k,F',H',h1,h2⟩ | ⟨k,v,H',h1,h2⟩
    ·exact .inl ⟨k,F',H',by simp only [evDL,hw];exact h1,h2⟩
    ·exact .inr ⟨k,v,H',by simp only [Xg,hw];exact h1,h2⟩
   | true =>
    dsimp only at h
    cases ho:evOp T o F H with
    | none=>rw [ho] at h;exact h.elim
    | some x =>
     rw [ho] at h
     cases x with
     | val v1 H1 =>
      dsimp only at h
      split at h
      ·rename_i hp
       rcases Vo r h with ⟨k,F',H',h1,h2⟩ | ⟨k,v,H',h1,h2⟩
       ·exact .inl ⟨k,F',H',by simp only [evDL,hw,ho,hp,if_true];exact h1,h2⟩
       ·exact .inr ⟨k,v,H',by simp only [Xg,hw,ho,hp,if_true];exact h1,h2⟩
      ·rename_i hp
       obtain ⟨hwin,h⟩:=h
       rcases Vo r h with ⟨k,F',H',h1,h2⟩ | ⟨k,v,H',h1,h2⟩
       ·exact .inl ⟨k,F',H',by simp only [evDL,hw,ho,hp,hwin,if_true];exact h1,h2⟩
       ·exact .inr ⟨k,v,H',by simp only [Xg,hw,ho,hp,hwin,if_true];exact h1,h2⟩
     | skip H1 =>
      rcases Vo r h with ⟨k,F',H',h1,h2⟩ | ⟨k,v,H',h1,h2⟩
      ·exact .inl ⟨k,F',H',by simp only [evDL,hw,ho];exact h1,h2⟩
      ·exact .inr ⟨k,v,H',by simp only [Xg,hw,ho];exact h1,h2⟩
     | enter f xs H1 =>
      rcases h with ⟨k1,v1,H2,g1,g2⟩ | ⟨k,v,H',h1,h2⟩
      ·rcases Vo r g2 with ⟨k2,F',H',h2,h3⟩ | ⟨k2,v,H',h2,h3⟩
       ·refine .inl ⟨max k1 k2,F',H',?_,h3⟩
        simp only [evDL,hw,ho,Zj T k1 (max k1 k2) (Nat.le_max_left _ _) _ _ _ _ g1]
        exact Ul (Zj T k2 _ (Nat.le_max_right _ _)) _ h2
       ·refine .inr ⟨max k1 k2,v,H',?_,h3⟩
        simp only [Xg,hw,ho,Zj T k1 (max k1 k2) (Nat.le_max_left _ _) _ _ _ _ g1]
        exact W8 (Zj T k2 _ (Nat.le_max_right _ _)) (Vp T k2 _ (Nat.le_max_right _ _)) _ h2
      ·obtain ⟨He,h3,h4⟩:=Zb6 r _ h2
       exact .inr ⟨k,v,H'.upto He.next,by simp only [Xg,hw,ho,Zds h1,h1,h3],h4⟩
theorem WCr.seq {F:Fr} {H:Hp} {a b:SCode} {Q Q1:PC} (h:WCr T P a F H Q1) (hn:∀ F' H',Q1 .nrm F' H'->WCr T P b F' H' Q) (he:∀ i F' H',Q1 (.exit i) F' H'->Q (.exit i) F' H') (hr:∀ F' H',Q1 .ret F' H'->Q .ret F' H'):WCr T P (.seq a b) F H Q:=by
 rcases h with ⟨k,o,F',H',h1,h2⟩ | ⟨k,v,H',h1,h2⟩
 ·cases o with
  | nrm =>
   rcases hn F' H' h2 with ⟨k2,o2,F2,H2,h3,h4⟩ | ⟨k2,v,H2,h3,h4⟩
   ·refine .inl ⟨max k k2,o2,F2,H2,?_,h4⟩
    simp only [evS,Z7 (Zj T k (max k k2) (Nat.le_max_left _ _)) (Nat.le_max_left _ _) a h1]
    exact Z7 (Zj T k2 _ (Nat.le_max_right _ _)) (Nat.le_max_right _ _) b h3
   ·refine .inr ⟨max k k2,v,H2,?_,h4⟩
    simp only [evSP,Z7 (Zj T k (max k k2) (Nat.le_max_left _ _)) (Nat.le_max_left _ _) a h1]
    exact Wg (Zj T k2 _ (Nat.le_max_right _ _)) (Vp T k2 _ (Nat.le_max_right _ _)) (Nat.le_max_right _ _) b h3
  | exit i=>exact .inl ⟨k,_,F',H',by simp only [evS,h1],he i F' H' h2⟩
  | ret=>exact .inl ⟨k,_,F',H',by simp only [evS,h1],hr F' H' h2⟩
 ·exact .inr ⟨k,v,H',by simp only [evSP,Wi a h1];exact h1,h2⟩
theorem WCr.loop {F:Fr} {H:Hp} (I:Nat->Fr->Hp->Prop) {c:SCode} {Q:PC} {m:Nat} (h0:I m F H) (round:∀ m F H,I m F H->WCr T P c F H (Zbi I m Q)):WCr T P (.loop c) F H Q:=by
 have key:∀ m F H,I m F H->(∃ k n o F' H',Yo (evS T (Zo T k) n c) n F H=some (o,F',H')/\Q o F' H')\/(∃ k n v H',Wu (evS T (Zo T k) n c) (evSP T (Zo T k) (Xl T k) n c) n F H=some (v,H')/\P v H'):=by
  intro m
  induction m using Nat.strongRecOn with
  | _ m ih =>
   intro F H hI
   rcases round m F H hI with ⟨k,o,F1,H1,h1,h2⟩ | ⟨k,v,H',h1,h2⟩
   ·cases o with
    | nrm =>
     obtain ⟨m',hm,hI'⟩:=h2
     rcases ih m' hm F1 H1 hI' with ⟨k2,n2,o2,F2,H2,h3,h4⟩ | ⟨k2,n2,v,H2,h3,h4⟩
     ·refine .inl ⟨max k k2,max k n2+1,o2,F2,H2,?_,h4⟩
      simp only [Yo]
      rw [Z7 (Zj T k (max k k2) (Nat.le_max_left _ _)) (n':=max k n2+1) (by omega) c h1]
      exact Ja (fun F H r h=>Z7 (Zj T k2 _ (Nat.le_max_right _ _)) (by omega) c h) _ _ (by omega) h3
     ·refine .inr ⟨max k k2,max k n2+1,v,H2,?_,h4⟩
      simp only [Wu]
      rw [Z7 (Zj T k (max k k2) (Nat.le_max_left _ _)) (n':=max k n2+1) (by omega) c h1]
      refine Zab (fun F H r h=>Z7 (Zj T k2 _ (Nat.le_max_right _ _)) (by omega) c h) (fun F H r h=>?_) _ _ (by omega) h3
      have:=Wg (Zj T k2 (max k k2) (Nat.le_max_right _ _)) (Vp T k2 (max k k2) (Nat.le_max_right _ _)) (n':=max k n2+1) (by omega) c h
      exact ⟨this,Wi c this⟩
    | exit i=>exact .inl ⟨k,k+1,_,F1,H1,by simp only [Yo,Z7 (Zj T k k (Nat.le_refl _)) (n':=k+1) (by omega) c h1],h2⟩
    | ret=>exact .inl ⟨k,k+1,_,F1,H1,by simp only [Yo,Z7 (Zj T k k (Nat.le_refl _)) (n':=k+1) (by omega) c h1],h2⟩
   ·have h3:=Wg (Zj T k k (Nat.le_refl _)) (Vp T k k (Nat.le_refl _)) (n':=k+1) (by omega) c h1
    exact .inr ⟨k,k+1,v,H',by simp only [Wu,Wi c h3];exact h3,h2⟩
 rcases key m F H h0 with ⟨k,n,o,F',H',h1,h2⟩ | ⟨k,n,v,H',h1,h2⟩
 ·refine .inl ⟨max k n,o,F',H',?_,h2⟩
  simp only [evS]
  exact Ja (fun F H r h=>Z7 (Zj T k _ (Nat.le_max_left _ _)) (Nat.le_max_right _ _) c h) _ _ (Nat.le_max_right _ _) h1
 ·refine .inr ⟨max k n,v,H',?_,h2⟩
  simp only [evSP]
  refine Zab (fun F H r h=>Z7 (Zj T k _ (Nat.le_max_left _ _)) (Nat.le_max_right _ _) c h) (fun F H r h=>?_) _ _ (Nat.le_max_right _ _) h1
  have:=Wg (Zj T k (max k n) (Nat.le_max_left _ _)) (Vp T k (max k n) (Nat.le_max_left _ _)) (n':=max k n) (Nat.le_max_right _ _) c h
  exact ⟨this,Wi c this⟩
end
section
variable (T:Tab) (P:V->Hp->Prop)
def wpP:SCode->Fr->Hp->PC->Prop
 | .skip,F,H,Q=>Q .nrm F H
 | .reg l,F,H,Q=>wpLP T P l F H (Q .nrm)
 | .dreg l,F,H,Q=>wpDP T P l F H [H] (Q .nrm)
 | .areg l u v,F,H,Q=>wpDP T P l F H [H] (fun F' H'=>apart F' u v=true/\Q .nrm F' H')
 | .seq a b,F,H,Q=>wpP a F H (fun o F' H'=>match o with | .nrm=>wpP b F' H' Q | .exit i=>Q (.exit i) F' H' | .ret=>Q .ret F' H')
 | .cond c a b,F,H,Q=>match opd T.ng F c with
  | some (.bool true)=>wpP a F H Q
  | some (.bool false)=>wpP b F H Q
  | _=>False
 | .block id c,F,H,Q=>wpP c F H (Vi id Q)
 | .loop c,F,H,Q=>WCr T P (.loop c) F H Q
 | .exit id,F,H,Q=>Q (.exit id) F H
 | .ret,F,H,Q=>Q .ret F H
 | .bad,_,_,_=>False
def sqQP (b:SCode) (Q:PC):PC:=fun o F' H'=>match o with | .nrm=>wpP T P b F' H' Q | .exit i=>Q (.exit i) F' H' | .ret=>Q .ret F' H'
def cdQP (a b:SCode) (F:Fr) (H:Hp) (Q:PC):Option V->Prop
 | some (.bool true)=>wpP T P a F H Q
 | some (.bool false)=>wpP T P b F H Q
 | _=>False
end
section
variable {T:Tab} {P:V->Hp->Prop} (F:Fr) (H:Hp) (Q:PC)
theorem Z0j (b:SCode):sqQP T P b Q .nrm F H=wpP T P b F H Q:=rfl
theorem Zv3 (b:SCode) (i:Nat):sqQP T P b Q (.exit i) F H=Q (.exit i) F H:=rfl
theorem Z1u (b:SCode):sqQP T P b Q .ret F H=Q .ret F H:=rfl
theorem Zv4:wpP T P .skip F H Q=Q .nrm F H:=by rw [wpP]
theorem Zzv (l:List SOp):wpP T P (.reg l) F H Q=wpLP T P l F H (nmQ Q):=by rw [wpP];rfl
theorem Zwe (l:List (SOp×Nat)):wpP T P (.dreg l) F H Q=wpDP T P l F H [H] (nmQ Q):=by rw [wpP];rfl
theorem Zvc (l:List (SOp×Nat)) (u v:Tmp):wpP T P (.areg l u v) F H Q=wpDP T P l F H [H] (apQ u v Q):=by rw [wpP];rfl
theorem Jx (a b:SCode):wpP T P (.seq a b) F H Q=wpP T P a F H (sqQP T P b Q):=by rw [wpP];rfl
theorem Zv2 (c:Operand) (a b:SCode):wpP T P (.cond c a b) F H Q=cdQP T P a b F H Q (opd T.ng F c):=by rw [wpP];rfl
theorem Za2 (id:Nat) (c:SCode):wpP T P (.block id c) F H Q=wpP T P c F H (Vi id Q):=by rw [wpP]
theorem Zwq (c:SCode):wpP T P (.loop c) F H Q=WCr T P (.loop c) F H Q:=by rw [wpP]
theorem Zvy (id:Nat):wpP T P (.exit id) F H Q=Q (.exit id) F H:=by rw [wpP]
theorem Zzo:wpP T P .ret F H Q=Q .ret F H:=by rw [wpP]
theorem Zwn (a b:SCode):cdQP T P a b F H Q (some (.bool true))=wpP T P a F H Q:=rfl
theorem Zru (a b:SCode):cdQP T P a b F H Q (some (.bool false))=wpP T P b F H Q:=rfl
variable {F H Q}
theorem Ye:∀ (c:SCode) {F:Fr} {H:Hp} {Q:PC},wpP T P c F H Q->WCr T P c F H Q
 | .skip,F,H,Q,h=>.inl (WC.skip (by rwa [wpP] at h))
 | .reg l,F,H,Q,h=>by
  rcases Jj l (by rwa [wpP] at h) with h | ⟨k,v,H',h1,h2⟩
  ·exact .inl (WC.reg h)
  ·exact .inr ⟨k,v,H',by simp only [evSP];exact h1,h2⟩
 | .dreg l,F,H,Q,h=>by
  rcases Vo l (by rwa [wpP] at h) with h | ⟨k,v,H',h1,h2⟩
  ·exact .inl (WC.dreg h)
  ·exact .inr ⟨k,v,H',by simp only [evSP];exact h1,h2⟩
 | .areg l u v,F,H,Q,h=>by
  rcases Vo l (by rwa [wpP] at h) with h | ⟨k,v,H',h1,h2⟩
  ·exact .inl (WC.areg h)
  ·exact .inr ⟨k,v,H',by simp only [evSP];exact h1,h2⟩
 | .seq a b,F,H,Q,h=>by
  rw [wpP] at h
  exact WCr.seq (Q:=Q) (Ye a h) (fun F' H' h=>Ye b (Q:=Q) h) (fun _ _ _ h=>h) (fun _ _ h=>h)
 | .cond c a b,F,H,Q,h=>by
  rw [wpP] at h
  split at h
  ·rename_i hc
   rcases Ye a h with ⟨k,o,F',H',h1,h2⟩ | ⟨k,v,H',h1,h2⟩
   ·exact .inl ⟨k,o,F',H',by simp only [evS,hc];exact h1,h2⟩
   ·exact .inr ⟨k,v,H',by simp only [evSP,hc];exact h1,h2⟩
  ·rename_i hc
   rcases Ye b h with ⟨k,o,F',H',h1,h2⟩ | ⟨k,v,H',h1,h2⟩
   ·exact .inl ⟨k,o,F',H',by simp only [evS,hc];exact h1,h2⟩
   ·exact .inr ⟨k,v,H',by simp only [evSP,hc];exact h1,h2⟩
  ·exact h.elim
 | .block id c,F,H,Q,h=>by
  rcases Ye c (by rwa [wpP] at h) with h | ⟨k,v,H',h1,h2⟩
  ·exact .inl (WC.block h)
  ·exact .inr ⟨k,v,H',by simp only [evSP];exact h1,h2⟩
 | .loop c,F,H,Q,h=>by rwa [wpP] at h
 | .exit id,F,H,Q,h=>.inl (WC.exit (by rwa [wpP] at h))
 | .ret,F,H,Q,h=>.inl (WC.ret (by rwa [wpP] at h))
 | .bad,F,H,Q,h=>by rw [wpP] at h;exact h.elim
theorem Ug (I:Nat->Fr->Hp->Prop) {c:SCode} {Q:PC} {F:Fr} {H:Hp} {m:Nat} (h0:I m F H) (round:∀ m F H,I m F H->wpP T P c F H (Zbi I m Q)):WCr T P (.loop c) F H Q :=
 WCr.loop I h0 fun m F H h=>Ye c (round m F H h)
theorem WR.of_slim {f:FuncId} {xs:List V} {fn:Func} {c:Code} {S:SCode} {Q:V->Hp->Prop} (h0:T.ext f=none) (h1:T.fn f=some fn) (h2:fn.body=some c) (h3:Zh T f c=S) {rs:List ResultVar} (h4:fn.results.toList=rs) (h:WCr T P S (frame xs 0 .nil) H (resQ T rs Q)):WR T f xs H Q P:=by
 rcases h with h | ⟨k,v,H',h5,h6⟩
 ·exact .inl (WF.of_slim h0 h1 h2 h3 h4 h)
 ·refine .inr ⟨k+1,v,H',?_,h6⟩
  subst h3
  have:=V1 c _ _ h5
  simp only [Xl,h0,h1,h2,this]
end
end Go.AM
namespace Go.AM
open Go
def Tab.with_ (T:Tab) (e:FuncId->Option (List V->Hp->Option (V×Hp))):Tab:={ T with ext:=e }
section
variable (T:Tab) (e:FuncId->Option (List V->Hp->Option (V×Hp)))
theorem Vf:(T.with_ e).ty=T.ty:=rfl
theorem Vy:(T.with_ e).ng=T.ng:=rfl
theorem Zir:(T.with_ e).fn=T.fn:=rfl
theorem Zo4:(T.with_ e).dr=T.dr:=rfl
theorem Zv6:(T.with_ e).alt=T.alt:=rfl
theorem U0:Zb (T.with_ e)=Zb T:=rfl
theorem Zcq:Vw (T.with_ e)=Vw T:=rfl
theorem Zr0:Xr (T.with_ e)=Xr T:=by funext t v;cases v<;>rfl
theorem Zu6:∀ (l:List (Nat×TypeId)) (cs:List V) (n:Nat),Xx (T.with_ e) l cs n=Xx T l cs n
 | [],[],n=>by simp only [Xx]
 | [],_ :: _,n=>by simp only [Xx]
 | _ :: _,[],n=>by simp only [Xx]
 | (a,t) :: r,v :: vs,n=>by simp only [Xx,Zr0,Zu6 r]
theorem Zqi:Uv (T.with_ e)=Uv T:=by funext t cs;simp only [Uv,Zu6,U0,Vf]
theorem Zfh:Vt (T.with_ e)=Vt T:=by funext t v;cases v<;>simp only [Vt,Zr0,Zqi]
theorem Zfm:eqS (T.with_ e)=eqS T:=by funext t x y;simp only [eqS,Zqi]
theorem Zhy:binE (T.with_ e)=binE T:=by funext a b c d f g;unfold binE;simp only [Zfm,U0,Vy,Vf]
theorem Zc2:Zd4 (T.with_ e)=Zd4 T:=rfl
theorem Zd5:Zcv (T.with_ e)=Zcv T:=rfl
theorem Zho:kind (T.with_ e)=kind T:=by funext o;cases o<;>rfl
theorem Zbo:∀ (F:Fr) (l:List (Nat×Operand)),Vl (T.with_ e) F l=Vl T F l
 | F,[]=>rfl
 | F,(a,x) :: r=>by simp only [Vl,Vy,Zbo F r]
theorem Zaa:∀ (l:List (Nat×TypeId)),Uq (T.with_ e) l=Uq T l
 | []=>rfl
 | (a,x) :: r=>by simp only [Uq,Vf,Zaa r]
theorem Zhk:optI (T.with_ e)=optI T:=by funext F o;cases o<;>rfl
theorem Zc4:Yw (T.with_ e)=Yw T:=by funext t x a b c;unfold Yw;simp only [U0,Vf];rfl
theorem w_p:evP (T.with_ e)=evP T:=by funext o F;unfold evP;simp only [U0,Zcq,Zfh,Zhy,Zc2,Zd5,Zbo,Zaa,Zhk,Zc4,Vf,Vy,Zfm]
theorem Zdl:W0 (T.with_ e)=W0 T:=by funext t k;simp only [W0,U0,Zfh]
theorem w_r:evR (T.with_ e)=evR T:=by funext o F g;unfold evR;simp only [U0,Zcq,Zfh,Zhy,Zc2,Zd5,Zbo,Zaa,Zhk,Zc4,Vf,Vy,Zfm,Zdl]
theorem Zmr:Wj (T.with_ e)=Wj T:=by funext g t t' e' sz x;unfold Wj;simp only [U0,Vf]
theorem w_a:evA (T.with_ e)=evA T:=by funext o F g n;unfold evA;simp only [U0,Zcq,Zfh,Zhy,Zc2,Zd5,Zbo,Zaa,Zhk,Zc4,Vf,Vy,Zfm,Zdl,Zmr]
theorem w_aw:evAW (T.with_ e)=evAW T:=by funext o F H;unfold evAW;simp only [w_a,U0,Zcq,Zfh,Zhy,Zc2,Zd5,Zbo,Zaa,Zhk,Zc4,Vf,Vy,Zfm,Zdl,Zmr]
theorem w_w:evW (T.with_ e)=evW T:=by funext o F H;unfold evW;simp only [w_a,w_aw,U0,Zcq,Zfh,Zhy,Zc2,Zd5,Zbo,Zaa,Zhk,Zc4,Vf,Vy,Zfm,Zdl,Zmr]
theorem w_op:evOp (T.with_ e)=evOp T:=by funext o F H;unfold evOp;simp only [Zho,w_p,w_r,w_a,w_aw,w_w,Vy]
theorem Yd8:Zan (T.with_ e)=Zan T:=by funext F o;cases o<;>rfl
theorem Zx6 (call:CallE) (ops:Array Oper):∀ (l:List Oper) (F:Fr) (H:Hp),Z1 (T.with_ e) call ops l F H=Z1 T call ops l F H
 | [],F,H=>rfl
 | o :: r,F,H=>by simp only [Z1,w_op,Yd8,Zx6 call ops r]
theorem Zsn:isPt (T.with_ e)=isPt T:=by funext o;simp only [isPt,Zho]
theorem Yfc:Y1 (T.with_ e)=Y1 T:=by funext o F n v B;simp only [Y1,Zho,w_r]
theorem Zsu (call:CallE) (ops:Array Oper):∀ (l:List (Nat×Nat)) (F:Fr) (H:Hp) (B:List Hp),Zv (T.with_ e) call ops l F H B=Zv T call ops l F H B
 | [],F,H,B=>rfl
 | (i,n) :: r,F,H,B=>by simp only [Zv,w_op,Zsn,Yfc,Zsu call ops r]
theorem Z9w:Zdg (T.with_ e)=Zdg T:=rfl
theorem Zaz (call:CallE) (f:FuncId) (n:Nat):∀ (c:Code) (F:Fr) (H:Hp),Zc (T.with_ e) call f n c F H=Zc T call f n c F H
 | .skip,F,H=>rfl
 | .label _,F,H=>rfl
 | .region _ ops false,F,H=>by simp only [Zc,Zx6]
 | .region id ops true,F,H=>by simp only [Zc,Zsu,Zo4,Z9w];rfl
 | .seq a b,F,H=>by simp only [Zc,Zaz call f n a,Zaz call f n b]
 | .cond c a b,F,H=>by simp only [Zc,Vy,Zaz call f n a,Zaz call f n b]
 | .block id c,F,H=>by simp only [Zc,Zaz call f n c]
 | .scope c,F,H=>by simp only [Zc,Zaz call f n c]
 | .loop c,F,H=>by
  have:Zc (T.with_ e) call f n c=Zc T call f n c:=by funext F H;exact Zaz call f n c F H
  simp only [Zc,this]
 | .exit id,F,H=>rfl
 | .ret,F,H=>rfl
 | .rangeFunc ..,F,H=>rfl
 | .goto ..,F,H=>rfl
 | .refuse _,F,H=>rfl
theorem Zgg (F:Fr) (g:Nat->Option Ob):∀ (l:List ResultVar),Wo (T.with_ e) F g l=Wo T F g l
 | []=>rfl
 | .tmp t :: r=>by simp only [Wo,Zgg F g r]
 | .cell a t :: r=>by simp only [Wo,Zgg F g r,Zcq]
theorem Z9r:Wp (T.with_ e)=Wp T:=by funext rs F g;simp only [Wp,Zgg]
end
section
variable {T:Tab} {e:FuncId->Option (List V->Hp->Option (V×Hp))}
theorem Zua (h:∀ f,e f=T.ext f\/∃ ef,e f=some ef/\∀ k xs H r,Zo T k f xs H=some r->ef xs H=some r):∀ (k:Nat) (f:FuncId) (xs:List V) (H:Hp) (r:V×Hp),Zo T k f xs H=some r->Zo (T.with_ e) k f xs H=some r
 | 0,f,xs,H,r,hr=>by simp [Zo] at hr
 | k+1,f,xs,H,r,hr=>by
  rcases h f with hf | ⟨ef,hf,he⟩
  ·have ih:=Zua h k
   have hx:(T.with_ e).ext f=T.ext f:=hf
   simp only [Zo,Zir,hx,Z9r,Zaz] at hr ⊢
   split at hr
   ·split at hr
    ·split at hr
     ·exact hr
     ·split at hr
      ·rename_i h1
       rw [Zx ih (Nat.le_refl k) _ h1]
       exact hr
      ·rename_i h1
       rw [Zx ih (Nat.le_refl k) _ h1]
       exact hr
      ·cases hr
    ·cases hr
   ·cases hr
  ·have hx:(T.with_ e).ext f=some ef:=hf
   have hq:=he (k+1) xs H r hr
   simp only [Zo,Zir,hx] at hr ⊢
   split at hr
   ·split at hr
    ·exact hq
    ·cases hr
   ·cases hr
theorem w_wf (h:∀ f,e f=T.ext f\/∃ ef,e f=some ef/\∀ k xs H r,Zo T k f xs H=some r->ef xs H=some r) {f:FuncId} {xs:List V} {H:Hp} {Q:V->Hp->Prop} (hw:WF T f xs H Q):WF (T.with_ e) f xs H Q:=by
 obtain ⟨k,v,H',h1,h2⟩:=hw
 exact ⟨k,v,H',Zua h k _ _ _ _ h1,h2⟩
theorem Uj (f:FuncId):∀ (c:Code),Zh (T.with_ e) f c=Zh T f c
 | .skip=>rfl
 | .label _=>rfl
 | .region _ ops false=>rfl
 | .region id ops true=>rfl
 | .seq a b=>by simp only [Zh,Uj f a,Uj f b]
 | .cond c a b=>by simp only [Zh,Uj f a,Uj f b]
 | .block id c=>by simp only [Zh,Uj f c]
 | .scope c=>by simp only [Zh,Uj f c]
 | .loop c=>by simp only [Zh,Uj f c]
 | .exit id=>rfl
 | .ret=>rfl
 | .rangeFunc ..=>rfl
 | .goto ..=>rfl
 | .refuse _=>rfl
theorem Z3l (rk:Nat->Nat):Zdj rk (T.with_ e)=Zdj rk T:=by
 funext ops nt p anc
 simp only [Zdj,Zbd,ptAt,Zsn]
theorem w_cd (an:FuncId->Nat->List Nat) (f:FuncId) (nt:Nat):∀ (c:Code),cdOk (T.with_ e) an f nt c=cdOk T an f nt c
 | .region _ ops false=>rfl
 | .region id ops true=>by
  simp only [cdOk,Zo4,Zv6,Zcs,Z3l,Zfl,Zo7,Zho]
 | .seq a b=>by simp only [cdOk,w_cd an f nt a,w_cd an f nt b]
 | .cond _ a b=>by simp only [cdOk,w_cd an f nt a,w_cd an f nt b]
 | .block _ c=>by simp only [cdOk,w_cd an f nt c]
 | .scope c=>by simp only [cdOk,w_cd an f nt c]
 | .loop c=>by simp only [cdOk,w_cd an f nt c]
 | .skip=>rfl
 | .label _=>rfl
 | .exit _=>rfl
 | .ret=>rfl
 | .goto _=>rfl
 | .rangeFunc ..=>rfl
 | .refuse _=>rfl
theorem Z4g (an:FuncId->Nat->List Nat) (f:FuncId) (fn:Func):fnOk (T.with_ e) an f fn=fnOk T an f fn:=by simp only [fnOk,w_cd]
end
end Go.AM
namespace Go.AM
open Go
theorem Wf {n:Int} (h0:0<=n) (h1:n < 9223372036854775808):wr .i64 n=n:=by
 obtain ⟨m,rfl⟩:=Int.eq_ofNat_of_zero_le h0
 have:m < 9223372036854775808:=by omega
 show (if m < 9223372036854775808 then Int.ofNat m else _)=_
 rw [if_pos this];rfl
theorem V4 {i:Nat} (h:i < 1000000000):wr .i64 ((i:Int)+1)=(i+1:Nat):=by rw [Wf (by omega) (by omega)];omega
structure Ext (X:Nat->Prop) (H H' : Hp):Prop where
 st:H'.stale=[]
 le:H.next<=H'.next
 get:∀ b,b < H.next->¬ X b->H'.get b=H.get b
def noX:Nat->Prop:=fun _=>False
theorem Ext.refl {X:Nat->Prop} {H:Hp} (h:H.stale=[]):Ext X H H:=⟨h,Nat.le_refl _,fun _ _ _=>rfl⟩
theorem Ext.trans {X:Nat->Prop} {H H1 H2:Hp} (h:Ext X H H1) (h' : Ext X H1 H2):Ext X H H2:=⟨h'.st,Nat.le_trans h.le h'.le,fun b hb hx=>(h'.get b (Nat.lt_of_lt_of_le hb h.le) hx).trans (h.get b hb hx)⟩
theorem Ext.mono {X Y:Nat->Prop} {H H' : Hp} (h:Ext X H H') (hx:∀ b,b < H.next->X b->Y b):Ext Y H H':=⟨h.st,h.le,fun b hb hy=>h.get b hb fun hxb=>hy (hx b hb hxb)⟩
theorem Ext.no {X:Nat->Prop} {H H' : Hp} (h:Ext noX H H'):Ext X H H':=h.mono fun _ _ h=>h.elim
theorem Ext.keep {H H' : Hp} (h:Ext noX H H') {b:Nat} {o:Ob} (hb:b < H.next) (hg:H.get b=some o):H'.get b=some o:=by rw [h.get b hb (fun h=>h)];exact hg
theorem Ext.new {X:Nat->Prop} {H:Hp} (h:H.stale=[]) (o:Ob):Ext X H (H.new o):=⟨h,by rw [Hp.next_new];omega,fun b hb _=>Z9 o (by omega)⟩
theorem Ext.bump {X:Nat->Prop} {H H' : Hp} (h:Ext X H H'):Ext X H H'.bump:=⟨h.st,Nat.le_succ_of_le h.le,h.get⟩
theorem Ext.put {X:Nat->Prop} {H:Hp} (h:H.stale=[]) {b:Nat} (o:Ob) (hb:X b):Ext X H (H.put b o):=⟨h,Nat.le_refl _,fun c _ hx=>Zf o fun e=>hx (e ▸ hb)⟩
theorem Ext.putge {X:Nat->Prop} {H H1:Hp} (h:Ext X H H1) {b:Nat} (o:Ob) (hb:H.next<=b):Ext X H (H1.put b o):=⟨h.st,h.le,fun c hc hx=>by rw [Zf o (by omega)];exact h.get c hc hx⟩
theorem Ext.newge {X:Nat->Prop} {H H1:Hp} (h:Ext X H H1) (o:Ob):Ext X H (H1.new o):=⟨h.st,by rw [Hp.next_new];have:=h.le;omega,fun c hc hx=>by rw [Z9 o (by have:=h.le;omega)];exact h.get c hc hx⟩
theorem nna1 (n:Nat):(n+1=n)=False:=by simp only [eq_iff_iff,iff_false];omega
theorem nnb1 (n:Nat):(n=n+1)=False:=by simp only [eq_iff_iff,iff_false];omega
theorem nna2 (n:Nat):(n+1+1=n)=False:=by simp only [eq_iff_iff,iff_false];omega
theorem nnb2 (n:Nat):(n=n+1+1)=False:=by simp only [eq_iff_iff,iff_false];omega
theorem nna3 (n:Nat):(n+1+1+1=n)=False:=by simp only [eq_iff_iff,iff_false];omega
theorem nnb3 (n:Nat):(n=n+1+1+1)=False:=by simp only [eq_iff_iff,iff_false];omega
theorem nna4 (n:Nat):(n+1+1+1+1=n)=False:=by simp only [eq_iff_iff,iff_false];omega
theorem nnb4 (n:Nat):(n=n+1+1+1+1)=False:=by simp only [eq_iff_iff,iff_false];omega
theorem nna5 (n:Nat):(n+1+1+1+1+1=n)=False:=by simp only [eq_iff_iff,iff_false];omega
theorem nnb5 (n:Nat):(n=n+1+1+1+1+1)=False:=by simp only [eq_iff_iff,iff_false];omega
theorem nna6 (n:Nat):(n+1+1+1+1+1+1=n)=False:=by simp only [eq_iff_iff,iff_false];omega
theorem nnb6 (n:Nat):(n=n+1+1+1+1+1+1)=False:=by simp only [eq_iff_iff,iff_false];omega
theorem nna7 (n:Nat):(n+1+1+1+1+1+1+1=n)=False:=by simp only [eq_iff_iff,iff_false];omega
theorem nnb7 (n:Nat):(n=n+1+1+1+1+1+1+1)=False:=by simp only [eq_iff_iff,iff_false];omega
theorem nna8 (n:Nat):(n+1+1+1+1+1+1+1+1=n)=False:=by simp only [eq_iff_iff,iff_false];omega
theorem nnb8 (n:Nat):(n=n+1+1+1+1+1+1+1+1)=False:=by simp only [eq_iff_iff,iff_false];omega
theorem Zj3 (cs:List V):Zw (.agg cs)=cs:=Eq.trans rfl rfl
theorem Zg2 (b:Bool):Zw (.bool b)=[(.bool b)]:=Eq.trans rfl rfl
theorem Zl4 (b:Bool):oneV (.bool b)=true:=Eq.trans rfl rfl
theorem Zjw (k:IntKind) (n:Int):Zw (.int k n)=[(.int k n)]:=Eq.trans rfl rfl
theorem Zcy (k:IntKind) (n:Int):oneV (.int k n)=true:=Eq.trans rfl rfl
theorem Zj0 (l:List UInt8):Zw (.str l)=[(.str l)]:=Eq.trans rfl rfl
theorem Zcz (l:List UInt8):oneV (.str l)=true:=Eq.trans rfl rfl
theorem Zgy   : Zw .nilp=[.nilp]:=Eq.trans rfl rfl
theorem Zll  : oneV .nilp=true:=Eq.trans rfl rfl
theorem Zjb (b o:Nat):Zw (.ptr b o)=[(.ptr b o)]:=Eq.trans rfl rfl
theorem Zow (b o:Nat):oneV (.ptr b o)=true:=Eq.trans rfl rfl
theorem Zdm   : Zw .nils=[.nils]:=Eq.trans rfl rfl
theorem Zgm  : oneV .nils=true:=Eq.trans rfl rfl
theorem Zej   : Zw .sle=[.sle]:=Eq.trans rfl rfl
theorem Zi5  : oneV .sle=true:=Eq.trans rfl rfl
theorem Zdi (b o l:Nat) (c:Option Nat) (z:Nat):Zw (.sl b o l c z)=[(.sl b o l c z)]:=Eq.trans rfl rfl
theorem Zh1 (b o l:Nat) (c:Option Nat) (z:Nat):oneV (.sl b o l c z)=true:=Eq.trans rfl rfl
theorem Zg4   : Zw .nilm=[.nilm]:=Eq.trans rfl rfl
theorem Zl2  : oneV .nilm=true:=Eq.trans rfl rfl
theorem Zm8 (b:Nat):Zw (.mp b)=[(.mp b)]:=Eq.trans rfl rfl
theorem Zrm (b:Nat):oneV (.mp b)=true:=Eq.trans rfl rfl
theorem Zhl   : Zw .nilf=[.nilf]:=Eq.trans rfl rfl
theorem Zk5  : oneV .nilf=true:=Eq.trans rfl rfl
theorem Zlx (f:Fn) (x y:List V):Zw (.fn f x y)=[(.fn f x y)]:=Eq.trans rfl rfl
theorem Zsf (f:Fn) (x y:List V):oneV (.fn f x y)=true:=Eq.trans rfl rfl
theorem Zg6   : Zw .nili=[.nili]:=Eq.trans rfl rfl
theorem Znf  : oneV .nili=true:=Eq.trans rfl rfl
theorem Zi7 (t:TypeId) (v:V):Zw (.ifc t v)=[(.ifc t v)]:=Eq.trans rfl rfl
theorem Zok (t:TypeId) (v:V):oneV (.ifc t v)=true:=Eq.trans rfl rfl
def Za:V->List Nat
 | .sl b _ _ _ _=>[b]
 | _=>[]
inductive SlAt (H:Hp) (e:TypeId) (sz:Nat):V->Nat->List V->Prop
 | nil:SlAt H e sz .nils 0 []
 | row (b n:Nat) (cs:List V):H.get b=some (.row e sz false cs)->n*sz<=cs.length->SlAt H e sz (.sl b 0 n none sz) n (cs.take (n*sz))
theorem SlAt.len {H:Hp} {e:TypeId} {sz n:Nat} {v:V} {l:List V} (h:SlAt H e sz v n l):l.length=n*sz:=by
 cases h with
 | nil=>simp
 | row b n cs hg hl=>simp;omega
theorem SlAt.of_get {H H' : Hp} {e:TypeId} {sz n:Nat} {v:V} {l:List V} (h:SlAt H e sz v n l) (hg:∀ b∈Za v,H'.get b=H.get b):SlAt H' e sz v n l:=by
 cases h with
 | nil=>exact .nil
 | row b n cs h1 hl=>exact .row b n cs (by rw [hg b (by simp [Za])];exact h1) hl
theorem SlAt.eqv {H:Hp} {e:TypeId} {sz n:Nat} {v:V} {l:List V} (h:SlAt H e sz v n l):eqV v v=true:=by
 cases h<;>simp [eqV]
theorem SlAt.cells {H:Hp} {e:TypeId} {sz n:Nat} {v:V} {l:List V} (h:SlAt H e sz v n l):Zw v=[v]:=by
 cases h<;>rfl
theorem SlAt.one {H:Hp} {e:TypeId} {sz n:Nat} {v:V} {l:List V} (h:SlAt H e sz v n l):oneV v=true:=by
 cases h<;>rfl
theorem SlAt.lenV {H:Hp} {e:TypeId} {sz n:Nat} {v:V} {l:List V} (h:SlAt H e sz v n l) (e0:TypeId):lenV v (some (.slice e0))=some (.int .i64 n):=by
 cases h<;>rfl
theorem Zo1 (b o n:Nat) (c:Option Nat) (z:Nat) (e:TypeId):Go.AM.lenV (.sl b o n c z) (some (.slice e))=some (.int .i64 n):=Eq.trans rfl rfl
theorem Zjn (e:TypeId):Go.AM.lenV .nils (some (.slice e))=some (.int .i64 0):=Eq.trans rfl rfl
theorem Znd (e:TypeId):Go.AM.lenV .sle (some (.slice e))=some (.int .i64 0):=Eq.trans rfl rfl
theorem Zlz (s:List UInt8):Go.AM.lenV (.str s) (some .str)=some (.int .i64 s.length):=Eq.trans rfl rfl
structure AppR (H:Hp) (s:V) (H' : Hp) (s' : V):Prop where
 le:H.next<=H'.next
 keep:∀ c,c < H.next->c∉Za s->c∉H.stale->H'.get c=H.get c/\c∉H'.stale
 new:∀ b∈Za s',b∉H'.stale/\b < H'.next/\(b∈Za s\/H.next<=b)
 old:∀ c∈H'.stale,c∈H.stale\/c∈Za s
theorem Jo:∀ (news cs:List V) (off:Nat),off+news.length<=cs.length->Yb cs off news=cs.take off++news++cs.drop (off+news.length)
 | [],cs,off,h=>by simp [Yb]
 | v :: r,cs,off,h=>by
  simp only [List.length_cons] at h
  rw [Yb,Jo r _ _ (by simp;omega)]
  apply List.ext_getElem?
  intro i
  simp only [List.length_cons,List.append_assoc,List.getElem?_append,List.length_take,List.length_set,List.getElem?_take,List.getElem?_set,List.getElem?_drop]
  by_cases h1:i < off
  ·simp [h1,show i < min off cs.length by omega,show i < min (off+1) cs.length by omega,show i < off+1 by omega,show ¬ off=i by omega]
  ·by_cases h2:i=off
   ·subst h2
    have h3:i < min (i+1) cs.length:=by omega
    have h4:¬ i < min i cs.length:=by omega
    simp [h3,h4,show i < cs.length by omega,show min i cs.length=i by omega]
   ·have h3:¬ i < min (off+1) cs.length:=by omega
    have h4:¬ i < min off cs.length:=by omega
    have h5:min off cs.length=off:=by omega
    have h6:min (off+1) cs.length=off+1:=by omega
    simp only [h3,h4,if_false,h5,h6]
    obtain ⟨d,rfl⟩:∃ d,i=off+1+d:=⟨i-(off+1),by omega⟩
    simp only [show off+1+d-(off+1)=d by omega,show off+1+d-off=d+1 by omega,List.cons_append,List.getElem?_cons_succ]
    have g1:¬ off+1+d < off+1:=by omega
    have g2:¬ off+1+d < off:=by omega
    simp only [g1,g2,if_false,Nat.add_lt_add_iff_right]
    by_cases h7:d < r.length
    ·simp [h7]
    ·have g3:¬ (off=off+1+r.length+(d-r.length)):=by omega
     simp only [h7,if_false,g3]
     congr 1
     omega
section
variable {T:Tab} {t t' e:TypeId} {i:TI} {xs ys:Operand} {F:Fr} {H:Hp} {s x:V} {m n:Nat} {news l:List V}
theorem Zer {g g' : Nat->Option Ob} {sz:Nat} {x:V} {r:Nat×List V} (h:Xd g sz x=some r) (hg:∀ b∈Za x,g' b=g b):Xd g' sz x=some r:=by
 unfold Xd at h ⊢
 split at h
 ·exact h
 ·exact h
 ·rw [hg _ (by simp [Za])];exact h
 ·cases h
theorem Zl0 {T:Tab} {t t' e:TypeId} {g g' : Nat->Option Ob} {sz:Nat} {x:V} {r:Nat×List V} (h:Wj T g t t' e sz x=some r) (hg:∀ b∈Za x,g' b=g b):Wj T g' t t' e sz x=some r:=by
 unfold Wj at h ⊢
 by_cases e0:t=t'
 ·rw [if_pos e0] at h ⊢;exact Zer h hg
 ·rw [if_neg e0] at h ⊢;exact h
theorem V8 {T:Tab} {t e:TypeId} {g:Nat->Option Ob} {sz:Nat} {x:V}:Wj T g t t e sz x=Xd g sz x:=by
 unfold Wj;rw [if_pos rfl]
theorem Zg8 (hd:Zb T t=some (.slice e)) (hi:T.ty e=some i) (hsz:0 < i.size) (hx:opd T.ng F xs=some s) (hy:opd T.ng F ys=some x) (hs:SlAt H e i.size s n l) (hst:∀ b∈Za s,b < H.next/\b∉H.stale)
  (ht:Wj T H.get t t' e i.size x=some (m,news)) (hm:0 < m) (hln:news.length=m*i.size) (hb:(n+m)*i.bytes<=140737488355328) (hb2:n+m<=9223372036854775807) (hxs:∀ b∈Za x,b∉H.stale/\b∉Za s) (hG:∀ c∈H.stale,c < H.next) :
  ∃ s' H',evOp T (.call ⟨.builtin .append,#[xs,ys],#[t,t']⟩) F H=some (.val s' H')/\SlAt H' e i.size s' (n+m) (l++news)/\AppR H s H' s':=by
 obtain ⟨k,rfl⟩:∃ k,m=k+1:=⟨m-1,by omega⟩
 have hk:kind T (.call ⟨.builtin .append,#[xs,ys],#[t,t']⟩) = .a:=rfl
 have ho:opds T.ng F (#[xs,ys]:Array Operand).toList=some [s,x]:=by simp [opds,hx,hy]
 have nst:H.next∉H.stale:=fun h=>absurd (hG _ h) (Nat.lt_irrefl _)
 have fresh:∀ (H0:Hp) (cs:List V),H0.next=H.next->(∀ c,c < H.next->c∉Za s->c∉H.stale->H0.get c=H.get c)->(∀ c∈H0.stale,c∈H.stale)->∀ b,Za s=[b]->(n+(k+1))*i.size=cs.length->cs=l++news ->
   SlAt ({ H0.new (.row e i.size false cs) with stale:=b :: H0.stale }) e i.size (.sl H0.next 0 (n+(k+1)) none i.size) (n+(k+1)) (l++news)/\AppR H s { H0.new (.row e i.size false cs) with stale:=b :: H0.stale } (.sl H0.next 0 (n+(k+1)) none i.size):=fun H0 cs hn hget hstl b hrow hlen hcs=>by
  have hbn:=(hst b (by rw [hrow];simp)).1
  refine ⟨?_,?_,fun c hc h1 h2=>⟨?_,?_⟩,fun c hc=>⟨?_,?_,?_⟩,fun c hc=>?_⟩
  ·have:=SlAt.row (H:={ H0.new (.row e i.size false cs) with stale:=b :: H0.stale }) (sz:=i.size) H0.next (n+(k+1)) cs (Z5 H0 _) (by omega)
   rw [hlen,List.take_length,hcs] at this
   rw [<- hcs] at this ⊢
   exact this
  ·show H.next<=H0.next+1;omega
  ·show (H0.new _).get c=_
   rw [Z9 _ (by omega)];exact hget c hc h1 h2
  ·show c∉b :: H0.stale
   rw [hrow] at h1
   simp only [List.mem_cons,List.not_mem_nil,or_false] at h1
   simp only [List.mem_cons,not_or]
   exact ⟨h1,fun h=>h2 (hstl c h)⟩
  ·simp only [Za,List.mem_cons,List.not_mem_nil,or_false] at hc
   subst hc
   show H0.next∉b :: H0.stale
   simp only [List.mem_cons,not_or]
   exact ⟨by omega,fun h=>nst (hn ▸ hstl _ h)⟩
  ·simp only [Za,List.mem_cons,List.not_mem_nil,or_false] at hc
   subst hc
   show H0.next < H0.next+1;omega
  ·simp only [Za,List.mem_cons,List.not_mem_nil,or_false] at hc
   subst hc
   right;omega
  ·have hc:c∈b :: H0.stale:=hc
   rw [List.mem_cons] at hc
   rcases hc with rfl | hc
   ·right;rw [hrow];simp
   ·exact .inl (hstl c hc)
 cases hs with
 | nil =>
  refine ⟨.sl H.next 0 (k+1) none i.size,H.new (.row e i.size false news),?_,?_,?_,fun c hc h1 h2=>⟨Z9 _ (by omega),h2⟩,fun b hb=>?_,fun c hc=>.inl hc⟩
  ·rw [Nat.zero_add] at hb hb2
   simp [evOp,hk,evA,ho,hd,hi,ht,hb,hb2,hsz,kbOk,Yx]
  ·have:=SlAt.row (H:=H.new (.row e i.size false news)) (sz:=i.size) H.next (k+1) news (Z5 H _) (by omega)
   rw [<- hln,List.take_length] at this
   rw [Nat.zero_add,List.nil_append]
   exact this
  ·rw [Hp.next_new];omega
  ·simp only [Za,List.mem_cons,List.not_mem_nil,or_false] at hb
   subst hb
   exact ⟨nst,by rw [Hp.next_new];omega,.inr (Nat.le_refl _)⟩
 | row b n cs hg hl =>
  obtain ⟨hbn,hbs⟩:=hst b (by simp [Za])
  have hrow:Za (.sl b 0 n none i.size)=[b]:=rfl
  by_cases hfull:n*i.size=cs.length
  ·-- all of the row: a new one
   have hl' : cs.take (n*i.size)=cs:=by rw [hfull,List.take_length]
   obtain ⟨h1,h2⟩:=fresh H (cs++news) rfl (fun _ _ _ _=>rfl) (fun _ h=>h) b hrow (by rw [List.length_append,hln,<- hfull,Nat.add_mul]) (by rw [hl'])
   refine ⟨_,_,?_,h1,h2⟩
   have hkb:H.stale.contains b=false:=by simpa using hbs
   simp [evOp,hk,evA,ho,hd,hi,ht,hg,hfull,hb,hb2,kbOk,Yx,hbs]
  ·have hlt:n*i.size < cs.length:=by omega
   have hfl:∀ c,c∉H.stale->H.flush.get c=H.get c:=fun c hc=>by rw [Hp.get_flush,if_neg hc]
   have htf:Wj T H.flush.get t t' e i.size x=some (k+1,news):=Zl0 ht fun b hb=>hfl b (hxs b hb).1
   have hgf:H.flush.get b=some (.row e i.size false cs):=by rw [hfl b hbs];exact hg
   have hA0:evA T (.call ⟨.builtin .append,#[xs,ys],#[t,t']⟩) F H.get H.next=none:=by
    simp [evA,ho,hd,hi,ht,hg,hfull]
   by_cases hin:(n+(k+1))*i.size<=cs.length
   ·-- within the row
    refine ⟨.sl b 0 (n+(k+1)) none i.size,H.flush.put b (.row e i.size false (Yb cs (n*i.size) news)),?_,?_,?_,fun c hc h1 h2=>⟨?_,?_⟩,fun c hc=>?_,fun c hc=>?_⟩
    ·simp [evOp,hk,hA0,evAW,ho,hd,hi,htf,hgf,hlt,hin]
    ·have hA:(n+(k+1))*i.size=n*i.size+(k+1)*i.size:=Nat.add_mul _ _ _
     have hmn:min (n*i.size) cs.length=n*i.size:=by omega
     have hlen:n*i.size+news.length<=cs.length:=by rw [hln];omega
     have:=SlAt.row (H:=H.flush.put b (.row e i.size false (Yb cs (n*i.size) news))) (sz:=i.size) b (n+(k+1)) (Yb cs (n*i.size) news) (Zd _ _ _) (by rw [Jo _ _ _ hlen];simp only [List.length_append,List.length_take,List.length_drop,hln,hA,hmn];omega)
     have e1:(Yb cs (n*i.size) news).take ((n+(k+1))*i.size)=cs.take (n*i.size)++news:=by
      rw [Jo _ _ _ hlen,List.take_append_of_le_length (by simp only [List.length_append,List.length_take,hln,hA,hmn];omega)]
      rw [List.take_of_length_le (by simp only [List.length_append,List.length_take,hln,hA,hmn];omega)]
     rw [e1] at this
     exact this
    ·rw [Hp.next_put,Hp.next_flush];exact Nat.le_refl _
    ·rw [hrow] at h1
     rw [Zf _ (by simpa using h1),hfl c h2]
    ·rw [Zcj,Hp.stale_flush];simp
    ·simp only [Za,List.mem_cons,List.not_mem_nil,or_false] at hc
     subst hc
     exact ⟨by rw [Zcj,Hp.stale_flush];simp,by rw [Hp.next_put,Hp.next_flush];exact hbn,.inl (by simp [Za])⟩
    ·rw [Zcj,Hp.stale_flush] at hc;simp at hc
   ·-- beyond
    have hlc:(cs.take (n*i.size)).length=n*i.size:=by simp;omega
    obtain ⟨h1,h2⟩:=fresh (H.flush.put b (.row e i.size false (cs.take (n*i.size)))) (cs.take (n*i.size)++news) (by rw [Hp.next_put,Hp.next_flush]) (fun c hc h1 h2=>by rw [hrow] at h1;rw [Zf _ (by simpa using h1),hfl c h2]) (fun c hc=>by rw [Zcj,Hp.stale_flush] at hc;simp at hc) b hrow (by rw [List.length_append,hln,hlc,Nat.add_mul]) rfl
    refine ⟨_,_,?_,h1,h2⟩
    have hbx:∀ c∈Za x,(H.flush.put b (.row e i.size false (cs.take (n*i.size)))).get c=H.flush.get c:=fun c hc=>Zf _ (by have:=(hxs c hc).2;rw [hrow] at this;simpa using this)
    have htp:=Zl0 htf hbx
    have hgp:(H.flush.put b (.row e i.size false (cs.take (n*i.size)))).get b=some (.row e i.size false (cs.take (n*i.size))):=Zd _ _ _
    have hmin:min (n*i.size) cs.length=n*i.size:=by omega
    have hne:¬ ((n+(k+1))*i.size<=cs.length):=hin
    have hA1:evA T (.call ⟨.builtin .append,#[xs,ys],#[t,t']⟩) F (H.flush.put b (.row e i.size false (cs.take (n*i.size)))).get H.flush.next=some (.sl H.flush.next 0 (n+(k+1)) none i.size,some (.row e i.size false (cs.take (n*i.size)++news)),some b):=by
     simp [evA,ho,hd,hi,htp,hgp,hmin,hb,hb2]
    have hAW:evAW T (.call ⟨.builtin .append,#[xs,ys],#[t,t']⟩) F H.flush=some (.sl (H.flush.put b (.row e i.size false (cs.take (n*i.size)))).next 0 (n+(k+1)) none i.size,Yx (H.flush.put b (.row e i.size false (cs.take (n*i.size)))) (some (.row e i.size false (cs.take (n*i.size)++news))) (some b)):=by
     simp [evAW,ho,hd,hi,htf,hgf,hlt,hne,hA1,Hp.next_put]
    simp only [evOp,hk,hA0,hAW]
    rfl
theorem Zwc {d:Option Tmp} {r:List SOp} {Q:PL} (hd:Zb T t=some (.slice e)) (hi:T.ty e=some i) (hsz:0 < i.size) (hx:opd T.ng F xs=some s) (hy:opd T.ng F ys=some x) (hs:SlAt H e i.size s n l) (hst:∀ b∈Za s,b < H.next/\b∉H.stale)
  (ht:Wj T H.get t t' e i.size x=some (m,news)) (hm:0 < m) (hln:news.length=m*i.size) (hb:(n+m)*i.bytes<=140737488355328) (hb2:n+m<=9223372036854775807) (hxs:∀ b∈Za x,b∉H.stale/\b∉Za s) (hG:∀ c∈H.stale,c < H.next)
  (h:∀ s' H',SlAt H' e i.size s' (n+m) (l++news)->AppR H s H' s'->wpL T r (putD F d s') H' Q):opQ T (.call ⟨.builtin .append,#[xs,ys],#[t,t']⟩) d r F H Q .a:=by
 obtain ⟨s',H',h1,h2,h3⟩:=Zg8 hd hi hsz hx hy hs hst ht hm hln hb hb2 hxs hG
 have:=Zgl (T:=T) d (.call ⟨.builtin .append,#[xs,ys],#[t,t']⟩) none r F H Q
 rw [wpL] at this
 simp only [Z6,h1,Zhr] at this
 have hk:kind T (.call ⟨.builtin .append,#[xs,ys],#[t,t']⟩) = .a:=rfl
 rw [hk] at this
 rw [<- this]
 exact h s' H' h2 h3
theorem Zvw {d:Option Tmp} {r:List (SOp×Nat)} {k:Nat} {B:List Hp} {Q:PL} (hd:Zb T t=some (.slice e)) (hi:T.ty e=some i) (hsz:0 < i.size) (hx:opd T.ng F xs=some s) (hy:opd T.ng F ys=some x) (hs:SlAt H e i.size s n l) (hst:∀ b∈Za s,b < H.next/\b∉H.stale)
  (ht:Wj T H.get t t' e i.size x=some (m,news)) (hm:0 < m) (hln:news.length=m*i.size) (hb:(n+m)*i.bytes<=140737488355328) (hb2:n+m<=9223372036854775807) (hxs:∀ b∈Za x,b∉H.stale/\b∉Za s) (hG:∀ c∈H.stale,c < H.next)
  (h:∀ s' H',SlAt H' e i.size s' (n+m) (l++news)->AppR H s H' s'->wpD T r (putD F d s') H'.bump (H' :: B) Q):opD T (.call ⟨.builtin .append,#[xs,ys],#[t,t']⟩) k d r F H B Q .a:=by
 obtain ⟨s',H',h1,h2,h3⟩:=Zg8 hd hi hsz hx hy hs hst ht hm hln hb hb2 hxs hG
 have:=Zgk (T:=T) d (.call ⟨.builtin .append,#[xs,ys],#[t,t']⟩) none k r F H B Q
 rw [wpD] at this
 have hk:kind T (.call ⟨.builtin .append,#[xs,ys],#[t,t']⟩) = .a:=rfl
 have hp:isPt T (.call ⟨.builtin .append,#[xs,ys],#[t,t']⟩)=true:=rfl
 simp only [Z6,h1,Zcp,hp,if_true] at this
 rw [hk] at this
 rw [<- this]
 exact h s' H' h2 h3
theorem Zim {d:Option Tmp} {r:List SOp} {Q:PL} (hd:Zb T t=some (.slice e)) (hi:T.ty e=some i) (hsz:0 < i.size) (hx:opd T.ng F xs=some s) (hy:opd T.ng F ys=some x) (hs:SlAt H e i.size s n l) (hst:∀ b∈Za s,b < H.next/\b∉H.stale)
  (ht:Xd H.get i.size x=some (m,news)) (hm:0 < m) (hln:news.length=m*i.size) (hb:(n+m)*i.bytes<=140737488355328) (hb2:n+m<=9223372036854775807) (hxs:∀ b∈Za x,b∉H.stale/\b∉Za s) (hG:∀ c∈H.stale,c < H.next)
  (h:∀ s' H',SlAt H' e i.size s' (n+m) (l++news)->AppR H s H' s'->wpL T r (putD F d s') H' Q):opQ T (.call ⟨.builtin .append,#[xs,ys],#[t,t]⟩) d r F H Q .a :=
 Zwc hd hi hsz hx hy hs hst (V8.trans ht) hm hln hb hb2 hxs hG h
theorem Zze {d:Option Tmp} {r:List (SOp×Nat)} {k:Nat} {B:List Hp} {Q:PL} (hd:Zb T t=some (.slice e)) (hi:T.ty e=some i) (hsz:0 < i.size) (hx:opd T.ng F xs=some s) (hy:opd T.ng F ys=some x) (hs:SlAt H e i.size s n l) (hst:∀ b∈Za s,b < H.next/\b∉H.stale)
  (ht:Xd H.get i.size x=some (m,news)) (hm:0 < m) (hln:news.length=m*i.size) (hb:(n+m)*i.bytes<=140737488355328) (hb2:n+m<=9223372036854775807) (hxs:∀ b∈Za x,b∉H.stale/\b∉Za s) (hG:∀ c∈H.stale,c < H.next)
  (h:∀ s' H',SlAt H' e i.size s' (n+m) (l++news)->AppR H s H' s'->wpD T r (putD F d s') H'.bump (H' :: B) Q):opD T (.call ⟨.builtin .append,#[xs,ys],#[t,t]⟩) k d r F H B Q .a :=
 Zvw hd hi hsz hx hy hs hst (V8.trans ht) hm hln hb hb2 hxs hG h
end
section
variable {T:Tab} {t e e0:TypeId} {i:TI} {xs ys:Operand} {F:Fr} {H:Hp} {s:V} {n:Nat} {cells l:List V}
theorem AppR.of_new {o:Ob} {H' : Hp} {s' : V} (hst:∀ b∈Za s,b < H.next) (h:AppR (H.new o) s H' s'):AppR H s H' s':=by
 have hle:=h.le
 rw [Hp.next_new] at hle
 refine ⟨by omega,fun c hc h1 h2=>?_,fun b hb=>?_,h.old⟩
 ·have:=h.keep c (by rw [Hp.next_new];omega) h1 h2
  rw [Z9 _ (by omega)] at this
  exact this
 ·obtain ⟨h1,h2,h3⟩:=h.new b hb
  rw [Hp.next_new] at h3
  exact ⟨h1,h2,by rcases h3 with h3 | h3;exact .inl h3;exact .inr (by omega)⟩
theorem Zcb (hs:SlAt H e i.size s n l) (hst:∀ b∈Za s,b < H.next/\b∉H.stale) (hc:cells.length=i.size) (hG:∀ c∈H.stale,c < H.next) :
  SlAt (H.new (.row e0 i.size false cells)) e i.size s n l/\(∀ b∈Za s,b < (H.new (.row e0 i.size false cells)).next/\b∉(H.new (.row e0 i.size false cells)).stale)/\Xd (H.new (.row e0 i.size false cells)).get i.size (.sl H.next 0 1 none i.size)=some (1,cells) /\
  (∀ b∈Za (.sl H.next 0 1 none i.size),b∉(H.new (.row e0 i.size false cells)).stale/\b∉Za s)/\(∀ c∈(H.new (.row e0 i.size false cells)).stale,c < (H.new (.row e0 i.size false cells)).next):=by
 refine ⟨hs.of_get fun b hb=>Z9 _ (by have:=(hst b hb).1;omega),fun b hb=>⟨?_,(hst b hb).2⟩,?_,fun b hb=>?_,fun c hcs=>?_⟩
 ·rw [Hp.next_new];have:=(hst b hb).1;omega
 ·simp only [Xd,Z5]
  have h0:0+1*i.size<=cells.length:=by omega
  simp only [true_and,h0,if_true,List.drop_zero]
  rw [Nat.one_mul,<- hc,List.take_length]
 ·simp only [Za,List.mem_cons,List.not_mem_nil,or_false] at hb
  subst hb
  exact ⟨fun h=>absurd (hG _ h) (Nat.lt_irrefl _),fun h=>absurd (hst _ h).1 (Nat.lt_irrefl _)⟩
 ·rw [Hp.next_new];have:=hG c hcs;omega
theorem Zag {d:Option Tmp} {r:List SOp} {Q:PL} (hd:Zb T t=some (.slice e)) (hi:T.ty e=some i) (hsz:0 < i.size) (hx:opd T.ng F xs=some s) (hy:opd T.ng F ys=some (.sl H.next 0 1 none i.size)) (hs:SlAt H e i.size s n l) (hst:∀ b∈Za s,b < H.next/\b∉H.stale)
  (hc:cells.length=i.size) (hb:(n+1)*i.bytes<=140737488355328) (hb2:n+1<=9223372036854775807) (hG:∀ c∈H.stale,c < H.next)
  (h:∀ s' H',SlAt H' e i.size s' (n+1) (l++cells)->AppR H s H' s'->wpL T r (putD F d s') H' Q):opQ T (.call ⟨.builtin .append,#[xs,ys],#[t,t]⟩) d r F (H.new (.row e0 i.size false cells)) Q .a:=by
 obtain ⟨h1,h2,h3,h4,h5⟩:=Zcb (e0:=e0) hs hst hc hG
 exact Zim hd hi hsz hx hy h1 h2 h3 (by omega) (by omega) hb hb2 h4 h5 fun s' H' g1 g2=>h s' H' g1 (g2.of_new fun b hb=>(hst b hb).1)
theorem Zgs {d:Option Tmp} {r:List (SOp×Nat)} {k:Nat} {B:List Hp} {Q:PL} (hd:Zb T t=some (.slice e)) (hi:T.ty e=some i) (hsz:0 < i.size) (hx:opd T.ng F xs=some s) (hy:opd T.ng F ys=some (.sl H.next 0 1 none i.size)) (hs:SlAt H e i.size s n l) (hst:∀ b∈Za s,b < H.next/\b∉H.stale)
  (hc:cells.length=i.size) (hb:(n+1)*i.bytes<=140737488355328) (hb2:n+1<=9223372036854775807) (hG:∀ c∈H.stale,c < H.next)
  (h:∀ s' H',SlAt H' e i.size s' (n+1) (l++cells)->AppR H s H' s'->wpD T r (putD F d s') H'.bump (H' :: B) Q):opD T (.call ⟨.builtin .append,#[xs,ys],#[t,t]⟩) k d r F (H.new (.row e0 i.size false cells)) B Q .a:=by
 obtain ⟨h1,h2,h3,h4,h5⟩:=Zcb (e0:=e0) hs hst hc hG
 exact Zze hd hi hsz hx hy h1 h2 h3 (by omega) (by omega) hb hb2 h4 h5 fun s' H' g1 g2=>h s' H' g1 (g2.of_new fun b hb=>(hst b hb).1)
end
section
variable (T:Tab) (d:Option Tmp) (r:List SOp) (F:Fr) (H:Hp) (Q:PL)
theorem oq_p (o:Op):opQ T o d r F H Q .p=kV T d r F H Q (evP T o F):=Eq.trans rfl rfl
theorem oq_r (o:Op):opQ T o d r F H Q .r=kV T d r F H Q (evR T o F H.get):=Eq.trans rfl rfl
theorem oq_w (o:Op):opQ T o d r F H Q .w=kW T d r F Q (evW T o F H.flush):=Eq.trans rfl rfl
theorem oq_c (o:Op):opQ T o d r F H Q .c=kCo T o d r F H Q:=Eq.trans rfl rfl
theorem Zk1 (e:TypeId):opQ T (.alloc e) d r F H Q .a=kA T (.alloc e) d r F H Q (evA T (.alloc e) F H.get H.next):=Eq.trans rfl rfl
theorem Zuu (e:TypeId) (x:Operand):opQ T (.box e x) d r F H Q .a=kA T (.box e x) d r F H Q (evA T (.box e x) F H.get H.next):=Eq.trans rfl rfl
theorem Zyq (t:TypeId) (n:Nat) (p:Array (Nat×Operand)):opQ T (.buildSlice t n p) d r F H Q .a=kA T (.buildSlice t n p) d r F H Q (evA T (.buildSlice t n p) F H.get H.next):=Eq.trans rfl rfl
theorem Zym (t:TypeId) (x:Option Operand):opQ T (.makeMap t x) d r F H Q .a=kA T (.makeMap t x) d r F H Q (evA T (.makeMap t x) F H.get H.next):=Eq.trans rfl rfl
theorem Zyp (t:TypeId) (x y:Operand):opQ T (.makeSlice t x y) d r F H Q .a=kA T (.makeSlice t x y) d r F H Q (evA T (.makeSlice t x y) F H.get H.next):=Eq.trans rfl rfl
theorem Zya (s t:TypeId) (x:Operand):opQ T (.convert s t x) d r F H Q .a=kA T (.convert s t x) d r F H Q (evA T (.convert s t x) F H.get H.next):=Eq.trans rfl rfl
end
section
variable (T:Tab) (k:Nat) (d:Option Tmp) (r:List (SOp×Nat)) (F:Fr) (H:Hp) (B:List Hp) (Q:PL)
theorem od_p (o:Op):opD T o k d r F H B Q .p=dV T o k d r F H B Q (evP T o F):=Eq.trans rfl rfl
theorem od_r (o:Op):opD T o k d r F H B Q .r=dV T o k d r F H B Q (evR T o F H.get):=Eq.trans rfl rfl
theorem od_w (o:Op):opD T o k d r F H B Q .w=dW T d r F B Q (evW T o F H.flush):=Eq.trans rfl rfl
theorem od_c (o:Op):opD T o k d r F H B Q .c=dCo T o d r F H B Q:=Eq.trans rfl rfl
theorem Zlw (e:TypeId):opD T (.alloc e) k d r F H B Q .a=dA T (.alloc e) k d r F H B Q false (evA T (.alloc e) F H.get H.next):=Eq.trans rfl rfl
theorem Zsh (e:TypeId) (x:Operand):opD T (.box e x) k d r F H B Q .a=dA T (.box e x) k d r F H B Q false (evA T (.box e x) F H.get H.next):=Eq.trans rfl rfl
theorem Zy0 (t:TypeId) (n:Nat) (p:Array (Nat×Operand)):opD T (.buildSlice t n p) k d r F H B Q .a=dA T (.buildSlice t n p) k d r F H B Q false (evA T (.buildSlice t n p) F H.get H.next):=Eq.trans rfl rfl
theorem Zxe (t:TypeId) (x:Option Operand):opD T (.makeMap t x) k d r F H B Q .a=dA T (.makeMap t x) k d r F H B Q false (evA T (.makeMap t x) F H.get H.next):=Eq.trans rfl rfl
theorem Zyj (t:TypeId) (x y:Operand):opD T (.makeSlice t x y) k d r F H B Q .a=dA T (.makeSlice t x y) k d r F H B Q false (evA T (.makeSlice t x y) F H.get H.next):=Eq.trans rfl rfl
theorem Zx7 (s t:TypeId) (x:Operand):opD T (.convert s t x) k d r F H B Q .a=dA T (.convert s t x) k d r F H B Q false (evA T (.convert s t x) F H.get H.next):=Eq.trans rfl rfl
end
end Go.AM
namespace Go.AM
open Go
section
variable {T:Tab} {t t' e:TypeId} {i:TI} {xs ys:Operand} {F:Fr} {H:Hp} {s x:V} {m n:Nat} {news l:List V}
variable {P:V->Hp->Prop}
theorem Zsm {d:Option Tmp} {r:List SOp} {Q:PL} (hd:Zb T t=some (.slice e)) (hi:T.ty e=some i) (hsz:0 < i.size) (hx:opd T.ng F xs=some s) (hy:opd T.ng F ys=some x) (hs:SlAt H e i.size s n l) (hst:∀ b∈Za s,b < H.next/\b∉H.stale)
  (ht:Wj T H.get t t' e i.size x=some (m,news)) (hm:0 < m) (hln:news.length=m*i.size) (hb:(n+m)*i.bytes<=140737488355328) (hb2:n+m<=9223372036854775807) (hxs:∀ b∈Za x,b∉H.stale/\b∉Za s) (hG:∀ c∈H.stale,c < H.next)
  (h:∀ s' H',SlAt H' e i.size s' (n+m) (l++news)->AppR H s H' s'->wpLP T P r (putD F d s') H' Q):opQP T P (.call ⟨.builtin .append,#[xs,ys],#[t,t']⟩) d r F H Q .a:=by
 obtain ⟨s',H',h1,h2,h3⟩:=Zg8 hd hi hsz hx hy hs hst ht hm hln hb hb2 hxs hG
 have:=Zjp (T:=T) (P:=P) d (.call ⟨.builtin .append,#[xs,ys],#[t,t']⟩) none r F H Q
 rw [wpLP] at this
 simp only [Z6,h1,Zhf] at this
 have hk:kind T (.call ⟨.builtin .append,#[xs,ys],#[t,t']⟩) = .a:=rfl
 rw [hk] at this
 rw [<- this]
 exact h s' H' h2 h3
theorem Zql {d:Option Tmp} {r:List (SOp×Nat)} {k:Nat} {B:List Hp} {Q:PL} (hd:Zb T t=some (.slice e)) (hi:T.ty e=some i) (hsz:0 < i.size) (hx:opd T.ng F xs=some s) (hy:opd T.ng F ys=some x) (hs:SlAt H e i.size s n l) (hst:∀ b∈Za s,b < H.next/\b∉H.stale)
  (ht:Wj T H.get t t' e i.size x=some (m,news)) (hm:0 < m) (hln:news.length=m*i.size) (hb:(n+m)*i.bytes<=140737488355328) (hb2:n+m<=9223372036854775807) (hxs:∀ b∈Za x,b∉H.stale/\b∉Za s) (hG:∀ c∈H.stale,c < H.next)
  (h:∀ s' H',SlAt H' e i.size s' (n+m) (l++news)->AppR H s H' s'->wpDP T P r (putD F d s') H'.bump (H' :: B) Q):opDP T P (.call ⟨.builtin .append,#[xs,ys],#[t,t']⟩) k d r F H B Q .a:=by
 obtain ⟨s',H',h1,h2,h3⟩:=Zg8 hd hi hsz hx hy hs hst ht hm hln hb hb2 hxs hG
 have:=Zj9 (T:=T) (P:=P) d (.call ⟨.builtin .append,#[xs,ys],#[t,t']⟩) none k r F H B Q
 rw [wpDP] at this
 have hk:kind T (.call ⟨.builtin .append,#[xs,ys],#[t,t']⟩) = .a:=rfl
 have hp:isPt T (.call ⟨.builtin .append,#[xs,ys],#[t,t']⟩)=true:=rfl
 simp only [Z6,h1,Zc0,hp,if_true] at this
 rw [hk] at this
 rw [<- this]
 exact h s' H' h2 h3
theorem Zxb {d:Option Tmp} {r:List SOp} {Q:PL} (hd:Zb T t=some (.slice e)) (hi:T.ty e=some i) (hsz:0 < i.size) (hx:opd T.ng F xs=some s) (hy:opd T.ng F ys=some x) (hs:SlAt H e i.size s n l) (hst:∀ b∈Za s,b < H.next/\b∉H.stale)
  (ht:Xd H.get i.size x=some (m,news)) (hm:0 < m) (hln:news.length=m*i.size) (hb:(n+m)*i.bytes<=140737488355328) (hb2:n+m<=9223372036854775807) (hxs:∀ b∈Za x,b∉H.stale/\b∉Za s) (hG:∀ c∈H.stale,c < H.next)
  (h:∀ s' H',SlAt H' e i.size s' (n+m) (l++news)->AppR H s H' s'->wpLP T P r (putD F d s') H' Q):opQP T P (.call ⟨.builtin .append,#[xs,ys],#[t,t]⟩) d r F H Q .a :=
 Zsm hd hi hsz hx hy hs hst (V8.trans ht) hm hln hb hb2 hxs hG h
theorem Zc9 {d:Option Tmp} {r:List (SOp×Nat)} {k:Nat} {B:List Hp} {Q:PL} (hd:Zb T t=some (.slice e)) (hi:T.ty e=some i) (hsz:0 < i.size) (hx:opd T.ng F xs=some s) (hy:opd T.ng F ys=some x) (hs:SlAt H e i.size s n l) (hst:∀ b∈Za s,b < H.next/\b∉H.stale)
  (ht:Xd H.get i.size x=some (m,news)) (hm:0 < m) (hln:news.length=m*i.size) (hb:(n+m)*i.bytes<=140737488355328) (hb2:n+m<=9223372036854775807) (hxs:∀ b∈Za x,b∉H.stale/\b∉Za s) (hG:∀ c∈H.stale,c < H.next)
  (h:∀ s' H',SlAt H' e i.size s' (n+m) (l++news)->AppR H s H' s'->wpDP T P r (putD F d s') H'.bump (H' :: B) Q):opDP T P (.call ⟨.builtin .append,#[xs,ys],#[t,t]⟩) k d r F H B Q .a :=
 Zql hd hi hsz hx hy hs hst (V8.trans ht) hm hln hb hb2 hxs hG h
end
section
variable {T:Tab} {t e e0:TypeId} {i:TI} {xs ys:Operand} {F:Fr} {H:Hp} {s:V} {n:Nat} {cells l:List V}
variable {P:V->Hp->Prop}
theorem Zjs {d:Option Tmp} {r:List SOp} {Q:PL} (hd:Zb T t=some (.slice e)) (hi:T.ty e=some i) (hsz:0 < i.size) (hx:opd T.ng F xs=some s) (hy:opd T.ng F ys=some (.sl H.next 0 1 none i.size)) (hs:SlAt H e i.size s n l) (hst:∀ b∈Za s,b < H.next/\b∉H.stale)
  (hc:cells.length=i.size) (hb:(n+1)*i.bytes<=140737488355328) (hb2:n+1<=9223372036854775807) (hG:∀ c∈H.stale,c < H.next)
  (h:∀ s' H',SlAt H' e i.size s' (n+1) (l++cells)->AppR H s H' s'->wpLP T P r (putD F d s') H' Q):opQP T P (.call ⟨.builtin .append,#[xs,ys],#[t,t]⟩) d r F (H.new (.row e0 i.size false cells)) Q .a:=by
 obtain ⟨h1,h2,h3,h4,h5⟩:=Zcb (e0:=e0) hs hst hc hG
 exact Zxb hd hi hsz hx hy h1 h2 h3 (by omega) (by omega) hb hb2 h4 h5 fun s' H' g1 g2=>h s' H' g1 (g2.of_new fun b hb=>(hst b hb).1)
theorem Zeg {d:Option Tmp} {r:List (SOp×Nat)} {k:Nat} {B:List Hp} {Q:PL} (hd:Zb T t=some (.slice e)) (hi:T.ty e=some i) (hsz:0 < i.size) (hx:opd T.ng F xs=some s) (hy:opd T.ng F ys=some (.sl H.next 0 1 none i.size)) (hs:SlAt H e i.size s n l) (hst:∀ b∈Za s,b < H.next/\b∉H.stale)
  (hc:cells.length=i.size) (hb:(n+1)*i.bytes<=140737488355328) (hb2:n+1<=9223372036854775807) (hG:∀ c∈H.stale,c < H.next)
  (h:∀ s' H',SlAt H' e i.size s' (n+1) (l++cells)->AppR H s H' s'->wpDP T P r (putD F d s') H'.bump (H' :: B) Q):opDP T P (.call ⟨.builtin .append,#[xs,ys],#[t,t]⟩) k d r F (H.new (.row e0 i.size false cells)) B Q .a:=by
 obtain ⟨h1,h2,h3,h4,h5⟩:=Zcb (e0:=e0) hs hst hc hG
 exact Zc9 hd hi hsz hx hy h1 h2 h3 (by omega) (by omega) hb hb2 h4 h5 fun s' H' g1 g2=>h s' H' g1 (g2.of_new fun b hb=>(hst b hb).1)
end
section
variable (T:Tab) (P:V->Hp->Prop) (d:Option Tmp) (r:List SOp) (F:Fr) (H:Hp) (Q:PL)
theorem Ycv (o:Op):opQP T P o d r F H Q .p=kVP T P d r F H Q (evP T o F):=Eq.trans rfl rfl
theorem Ycs (o:Op):opQP T P o d r F H Q .r=kVP T P d r F H Q (evR T o F H.get):=Eq.trans rfl rfl
theorem Z7s (o:Op):opQP T P o d r F H Q .w=kWP T P d r F Q (evW T o F H.flush):=Eq.trans rfl rfl
theorem Ybx (o:Op):opQP T P o d r F H Q .c=kCoP T P o d r F H Q:=Eq.trans rfl rfl
theorem Ztl (e:TypeId):opQP T P (.alloc e) d r F H Q .a=kAP T P (.alloc e) d r F H Q (evA T (.alloc e) F H.get H.next):=Eq.trans rfl rfl
theorem Z1i (e:TypeId) (x:Operand):opQP T P (.box e x) d r F H Q .a=kAP T P (.box e x) d r F H Q (evA T (.box e x) F H.get H.next):=Eq.trans rfl rfl
theorem Z21 (t:TypeId) (n:Nat) (p:Array (Nat×Operand)):opQP T P (.buildSlice t n p) d r F H Q .a=kAP T P (.buildSlice t n p) d r F H Q (evA T (.buildSlice t n p) F H.get H.next):=Eq.trans rfl rfl
theorem Z3g (t:TypeId) (x:Option Operand):opQP T P (.makeMap t x) d r F H Q .a=kAP T P (.makeMap t x) d r F H Q (evA T (.makeMap t x) F H.get H.next):=Eq.trans rfl rfl
theorem Z25 (t:TypeId) (x y:Operand):opQP T P (.makeSlice t x y) d r F H Q .a=kAP T P (.makeSlice t x y) d r F H Q (evA T (.makeSlice t x y) F H.get H.next):=Eq.trans rfl rfl
theorem Z44 (s t:TypeId) (x:Operand):opQP T P (.convert s t x) d r F H Q .a=kAP T P (.convert s t x) d r F H Q (evA T (.convert s t x) F H.get H.next):=Eq.trans rfl rfl
end
section
variable (T:Tab) (P:V->Hp->Prop) (k:Nat) (d:Option Tmp) (r:List (SOp×Nat)) (F:Fr) (H:Hp) (B:List Hp) (Q:PL)
theorem Yc7 (o:Op):opDP T P o k d r F H B Q .p=dVP T P o k d r F H B Q (evP T o F):=Eq.trans rfl rfl
theorem Z74 (o:Op):opDP T P o k d r F H B Q .r=dVP T P o k d r F H B Q (evR T o F H.get):=Eq.trans rfl rfl
theorem Ydi (o:Op):opDP T P o k d r F H B Q .w=dWP T P d r F B Q (evW T o F H.flush):=Eq.trans rfl rfl
theorem Ybe (o:Op):opDP T P o k d r F H B Q .c=dCoP T P o d r F H B Q:=Eq.trans rfl rfl
theorem Zq2 (e:TypeId):opDP T P (.alloc e) k d r F H B Q .a=dAP T P (.alloc e) k d r F H B Q false (evA T (.alloc e) F H.get H.next):=Eq.trans rfl rfl
theorem Z15 (e:TypeId) (x:Operand):opDP T P (.box e x) k d r F H B Q .a=dAP T P (.box e x) k d r F H B Q false (evA T (.box e x) F H.get H.next):=Eq.trans rfl rfl
theorem Z4s (t:TypeId) (n:Nat) (p:Array (Nat×Operand)):opDP T P (.buildSlice t n p) k d r F H B Q .a=dAP T P (.buildSlice t n p) k d r F H B Q false (evA T (.buildSlice t n p) F H.get H.next):=Eq.trans rfl rfl
theorem Z3v (t:TypeId) (x:Option Operand):opDP T P (.makeMap t x) k d r F H B Q .a=dAP T P (.makeMap t x) k d r F H B Q false (evA T (.makeMap t x) F H.get H.next):=Eq.trans rfl rfl
theorem Z6w (t:TypeId) (x y:Operand):opDP T P (.makeSlice t x y) k d r F H B Q .a=dAP T P (.makeSlice t x y) k d r F H B Q false (evA T (.makeSlice t x y) F H.get H.next):=Eq.trans rfl rfl
theorem Z3h (s t:TypeId) (x:Operand):opDP T P (.convert s t x) k d r F H B Q .a=dAP T P (.convert s t x) k d r F H B Q false (evA T (.convert s t x) F H.get H.next):=Eq.trans rfl rfl
end
theorem Z58 (T:Tab) (P:V->Hp->Prop) (d:Option Tmp) (r:List SOp) (F:Fr) (H:Hp) (Q:PL) (x:Operand):opQP T P (.panic x) d r F H Q .no=panQ T P (.panic x) F H:=Eq.trans rfl rfl
theorem Hp.get_upto (H:Hp) (n b:Nat):(H.upto n).get b=H.get b:=Eq.trans rfl rfl
theorem Hp.next_upto (H:Hp) (n:Nat):(H.upto n).next=n:=Eq.trans rfl rfl
theorem Hp.stale_upto (H:Hp) (n:Nat):(H.upto n).stale=H.stale:=Eq.trans rfl rfl
theorem Ext.upto {X:Nat->Prop} {H H' : Hp} {n:Nat} (h:Ext X H H') (hn:H'.next<=n):Ext X H (H'.upto n):=⟨h.st,Nat.le_trans h.le hn,h.get⟩
end Go.AM
namespace Go.AM
open Go Go.RowKit
abbrev Rw:=TypeId×Nat×List V
def mkR:List Rw->Nat->Tr Ob->Tr Ob
 | [],_,t=>t
 | (e,z,cs) :: r,i,t=>mkR r (i+1) (t.set i (.row e z true cs))
def hR (l:List Rw):Hp:=⟨l.length,mkR l 0 .nil,[]⟩
def mkO:List (Option Ob)->Nat->Tr Ob->Tr Ob
 | [],_,t=>t
 | x :: r,i,t=>mkO r (i+1) (Tr.setF (i+1) t i x)
def hO (l:List (Option Ob)):Hp:=⟨l.length,mkO l 0 .nil,[]⟩
theorem Zn3:∀ (l:List (Option Ob)) (i:Nat) (t:Tr Ob) (b:Nat),(mkO l i t).get b=if i<=b then (match l[b-i]? with | some x=>x | none=>t.get b) else t.get b
 | [],i,t,b=>by simp [mkO]
 | x :: r,i,t,b=>by
  rw [mkO,Zn3 r (i+1),Tr.get_setF (i+1) t i b x (by omega)]
  by_cases h1:i+1<=b
  ·obtain ⟨d,rfl⟩:∃ d,b=i+1+d:=⟨b-(i+1),by omega⟩
   have e1:i+1+d-(i+1)=d:=by omega
   have e2:i+1+d-i=d+1:=by omega
   have e3:¬ (i+1+d=i):=by omega
   have e4:i<=i+1+d:=by omega
   simp only [h1,e1,e2,e3,e4,if_true,if_false,List.getElem?_cons_succ]
  ·by_cases h2:b=i
   ·subst h2;rw [if_neg h1];simp
   ·have h3:¬ i<=b:=by omega
    simp only [h1,h2,h3,if_false]
theorem Ub (l:List (Option Ob)) (b:Nat):(hO l).get b=match l[b]? with | some (some o)=>some o | _=>none:=by
 show (mkO l 0 .nil).get b=_
 rw [Zn3]
 simp only [Nat.zero_le,if_true,Nat.sub_zero,Tr.get]
 split
 ·rename_i x h;rw [h];cases x<;>rfl
 ·rename_i h;rw [h]
theorem Zqf (l:List (Option Ob)):(hO l).stale=[]:=Eq.trans rfl rfl
theorem Zci (l:List (Option Ob)):(hO l).next=l.length:=Eq.trans rfl rfl
def dO (l:List (Option Ob)):Nat->Prop:=fun b=>b < l.length
def InAt (D:Nat->Prop) (s:Sg) (W:World) (i:Nat):Ob->Prop
 | .row e z ro cs=>ro=true/\RowAt D s W.heap.size W (s i) e z true cs
 | .map ro es c=>ro=true/\∃ ents,W.heap[(s i).b]? = some (.map ents c)/\EsOk D s es ents.toList
 | _=>False
theorem satO {l:List (Option Ob)} {s:Sg} {W:World} (h:∀ (i:Nat) o,l[i]? = some (some o)->InAt (dO l) s W i o):Sat W.heap.size W (dO l) s (hO l) W:=by
 have hg:∀ b ob,(hO l).get b=some ob->InAt (dO l) s W b ob:=fun b ob hb=>by
  rw [Ub] at hb
  split at hb
  ·rename_i o hl;cases hb;exact h b _ hl
  ·cases hb
 have how:∀ b,¬ Ow (hO l) b:=fun b ho=>by
  unfold Ow at ho
  split at ho
  ·rename_i hb;have:=(hg _ _ hb).1;simp [this] at ho
  ·rename_i hb;have:=(hg _ _ hb).1;simp [this] at ho
  ·rename_i hb;exact (hg _ _ hb)
  ·cases ho
 refine ⟨Below.refl _ _,fun b e sz ro cs hb hgb=>?_,fun b ro es c hb hgb=>?_,fun b m since seen last hb hgb=>?_,fun b b' _ _ _ ho=>absurd ho (how b),fun x e sz ro cs b e' sz' cs' _ hs=>?_⟩
 ·obtain ⟨h1,h2⟩:=hg _ _ hgb
  subst h1
  exact h2
 ·obtain ⟨h1,ents,h2,h3⟩:=hg _ _ hgb
  exact ⟨ents,h2,h3,fun h=>by rw [h1] at h;cases h⟩
 ·exact (hg _ _ hgb).elim
 ·rw [Zqf] at hs;cases hs
theorem Z7w (l:List (Option Ob)):Good (hO l):=⟨fun b hb=>by
 rw [Ub]
 rw [Zci] at hb
 rw [List.getElem?_eq_none hb],fun x h=>by rw [Zqf] at h;cases h⟩
theorem topO {T:Tab} {P:Program} {an:FuncId->Nat->List Nat} (hT:ProgOk T P an) {l:List (Option Ob)} {s:Sg} {W:World} (hI:T.init W.heap.size W) {f:FuncId} {vs:List V} {args:Array Value}
  (hg:GlOk T.ng (dO l) s) (hl:∀ (i:Nat) o,l[i]? = some (some o)->InAt (dO l) s W i o) (hr:RvL (dO l) s vs args.toList)
  (h:WF T f vs (hO l) fun v _=>v = .bool true):Calls P f args W fun e w'=>e = .returned (.bool true)/\Below W.heap.size W w':=by
 obtain ⟨k,v,H',hev,rfl⟩:=h
 obtain ⟨_,hc⟩:=(hT.calls (n0:=W.heap.size) (w0:=W) hI (Nat.le_refl _) k) f vs (hO l) _ H' hev (dO l) s W args hg hr (satO hl) (Z7w l) (fun b h1 _ h2=>by rw [Zci] at h1;exact absurd h2 (Nat.not_lt.2 h1))
 refine hc.mono fun e w' he=>?_
 cases e with
 | returned x =>
  obtain ⟨s',h1,h2⟩:=he
  cases h2
  exact ⟨rfl,h1.sat.below⟩
 | panicked c=>exact he.elim
 | outgrown=>exact he.elim
end Go.AM
namespace Go.AM
open Go Go.RowKit
section
variable {H:Type} {enc:TypeId×Value->H} {P:Program} {w:World} {base:Nat} {spare:Nat->Bool} {held:Bool}
theorem Zu7 {t:TypeId} {k:IntKind} {fuel:Nat} {c:Value} {x:DataW H×List MemPlace} (ht:P.underlying t=some (.int k)) (h:DataW.trod enc P w base spare held fuel t [c]=some x):∃ n,c = .int k n/\(Lit.int k n).wf=true:=by
 cases fuel with
 | zero=>simp [DataW.trod] at h
 | succ fuel =>
  cases c<;>simp [DataW.trod,ht] at h
  obtain ⟨⟨rfl,hw⟩,_⟩:=h
  exact ⟨_,rfl,hw⟩
theorem Z11 {r:Reach} {t:TypeId} {v:Value} (ht:P.underlying t=some .string) (h:Value.okWide P w r base t v):∃ s,v = .string s:=by
 cases v<;>simp [Value.okWide,ht,Cell.okWide,Cell.ok] at h
 exact ⟨_,rfl⟩
theorem Z6a (D:Nat->Prop) (s:Sg) (b:ByteArray):Rv D s (.str b.data.toList) (.string b):=by
 have:=Rv.str (D:=D) (s:=s) b.data.toList
 simpa using this
end
end Go.AM
namespace Go.AM
open Go Go.RowKit
def Zam (F:Fence):Prop:=F=Fence.wide\/∃ l,F=Fence.wide.inRound l
theorem Zam.fn {F:Fence} (h:Zam F) (f:FuncId):F.fn f:=by
 rcases h with rfl | ⟨l,rfl⟩<;>trivial
theorem Zam.depth {F:Fence} (h:Zam F):F.depth=none:=by
 rcases h with rfl | ⟨l,rfl⟩<;>rfl
theorem Zam.calls {F:Fence} (h:Zam F) {n:Nat} {P:Program} {f:FuncId} {args:Array Value} {w:World} {R:Ending->World->Prop} (hc:Calls P f args w R):CallsIn F n P f args w R:=by
 rcases h with rfl | ⟨l,rfl⟩
 ·exact callsIn_wide.2 hc
 ·exact callsIn_wide (n:=n) |>.2 hc
structure PreI (T:Tab) (n0:Nat) (w0:World) (nt:Nat) (D:Nat->Prop) (s:Sg) (F:Fr) (H:Hp) (a:Act) (w:World) (ds:List Deferred):Prop where
 gl:GlOk T.ng D s
 fr:FrOk D s F a
 sat:Sat n0 w0 D s H w
 good:Good H
 size:nt<=a.tmps.size
 defers:a.defers=ds
def Zcd (n0:Nat) (w0:World) (nt:Nat) (D:Nat->Prop) (s:Sg) (H:Hp) (w:World) (F' : Fr) (H' : Hp) (a' : Act) (w' : World) (ds:List Deferred):Prop :=
 ∃ s',Step n0 w0 D s H w s' H' w'/\FrOk (Dn D H.next H'.next) s' F' a'/\nt<=a'.tmps.size/\a'.defers=ds
section
variable {T:Tab} {P:Program} {D:Nat->Prop} {s:Sg} {n0:Nat} {w0 w w' : World} {H:Hp} {nt:Nat} {F:Fr} {a:Act} {ds:List Deferred}
theorem PreI.next {s' : Sg} {H' : Hp} {F' : Fr} {a' : Act} (h:PreI T n0 w0 nt D s F H a w ds) (hs:Step n0 w0 D s H w s' H' w') (hF:FrOk (Dn D H.next H'.next) s' F' a') (hG:Good H') (h1:nt<=a'.tmps.size) (h2:a'.defers=ds):PreI T n0 w0 nt (Dn D H.next H'.next) s' F' H' a' w' ds :=
 ⟨h.gl.mono (fun b hb=>.inl hb) hs.same,hF,hs.sat,hG,h1,h2⟩
theorem Zcd.trans {s1:Sg} {H1 H' : Hp} {F' : Fr} {w1:World} {a' : Act} (hs:Step n0 w0 D s H w s1 H1 w1) (h:Zcd n0 w0 nt (Dn D H.next H1.next) s1 H1 w1 F' H' a' w' ds):Zcd n0 w0 nt D s H w F' H' a' w' ds:=by
 obtain ⟨s',h1,h2,h3,h4⟩:=h
 refine ⟨s',hs.trans h1,?_,h3,h4⟩
 rw [<- V5 D hs.next h1.next]
 exact h2
theorem Zb0 {o:Op} {r:Res} (h:evOp T o F H=some r):∀ c,o≠.defer c:=fun c e=>by
 subst e
 simp [evOp,kind] at h
theorem Znv (hqt:∀ g,T.quiet g=false) (F:Fr) (o:Op):Zan T F o=false:=by
 unfold Zan
 split
 ·split
  ·split
   ·exact hqt _
   ·rfl
  ·rfl
 ·rfl
theorem Uu (hM:MachOk T P) (hqt:∀ g,T.quiet g=false) (hn:n0<=w0.heap.size) {call:CallE} (hc:Vm T P n0 w0 call) (hcg:Z4 call) {Z:Fence} (hZ:Zam Z) {n:Nat} {ops:Array Oper} {Q:Exit->Act->World->Prop} :
  ∀ (l:List Oper) (i:Nat) (is:List Nat) {D:Nat->Prop} {s:Sg} {F F' : Fr} {H H' : Hp} {a:Act} {w:World},(∀ j,j < l.length->ops[i+j]? = l[j]?)->(∀ o∈l,∀ t,o.dst=some t->t < nt) ->
   Z1 T call ops l F H=some (F',H')->PreI T n0 w0 nt D s F H a w ds->Zz D H H' ->
   (∀ a' w',Zcd n0 w0 nt D s H w F' H' a' w' ds->wpOpsIn Z n P ops Q is a' w')->wpOpsIn Z n P ops Q (List.range' i l.length++is) a w
 | [],i,is,D,s,F,F',H,H',a,w,_,_,h,hP,hf,hQ=>by
  simp only [Z1] at h
  cases h
  exact hQ a w ⟨s,Step.flush hP.sat,hP.fr.mono (fun b hb=>.inl hb) (fun _ _=>rfl),hP.size,hP.defers⟩
 | o :: r,i,is,D,s,F,F',H,H',a,w,hl,hd,h,hP,hf,hQ=>by
  have ho:ops[i]? = some o:=by have:=hl 0 (by simp);simpa using this
  have hl' : ∀ j,j < r.length->ops[i+1+j]? = r[j]?:=fun j hj=>by
   have:=hl (j+1) (by simpa using hj)
   rw [show i+1+j=i+(j+1) from by omega,this];simp
  have hd' : ∀ o'∈r,∀ t,o'.dst=some t->t < nt:=fun o' h'=>hd o' (by simp [h'])
  have hdo:∀ t,o.dst=some t->t < a.tmps.size:=fun t ht=>Nat.lt_of_lt_of_le (hd o (by simp) t ht) hP.size
  have hall:=Yk hcg (o :: r) hP.good h
  have hf1:=hf.first hall.le
  simp only [Z1] at h
  simp only [List.length_cons,List.range'_succ,List.cons_append,wpOpsIn,ho]
  split at h
  ·rename_i hw
   rw [Xk hP.fr hw,if_pos rfl]
   refine ⟨fun f _=>hZ.fn f,?_⟩
   split at h
   ·rename_i v H1 hop
    rw [Oper.semAt_eq _ _ _ (Zb0 hop)]
    have g1:=Wz hP.good hop
    have g2:=Yk hcg r g1.good h
    obtain ⟨x,s1,w1,hr,hs,hv⟩:=Wx hM.tab hP.gl hP.fr hP.sat hn hf1 hP.good o hop
    rw [hr]
    have hF1:FrOk (Dn D H.next H1.next) s1 (putD F o.dst v) (a.put o.dst x):=(hP.fr.mono (fun b hb=>.inl hb) hs.same).put hdo hv
    have hP1:=hP.next hs hF1 g1.good (by rw [Xa];exact hP.size) (by rw [Ym];exact hP.defers)
    exact Uu hM hqt hn hc hcg hZ r (i+1) is hl' hd' h hP1 (hf.right g1.le) (fun a' w' h'=>hQ a' w' (Zcd.trans hs h'))
   ·rename_i H1 hop
    rw [Oper.semAt_eq _ _ _ (Zb0 hop)]
    have g1:=Vu hP.good hop
    have g2:=Yk hcg r g1.good h
    obtain ⟨s1,w1,hr,hs⟩:=Wx hM.tab hP.gl hP.fr hP.sat hn hf1 hP.good o hop
    rw [hr]
    have hF1:FrOk (Dn D H.next H1.next) s1 (delD F o.dst) (a.put o.dst undef):=(hP.fr.mono (fun b hb=>.inl hb) hs.same).del hdo
    have hP1:=hP.next hs hF1 g1.good (by rw [Xa];exact hP.size) (by rw [Ym];exact hP.defers)
    exact Uu hM hqt hn hc hcg hZ r (i+1) is hl' hd' h hP1 (hf.right g1.le) (fun a' w' h'=>hQ a' w' (Zcd.trans hs h'))
   ·rename_i g vs H0 hop
    rw [Oper.semAt_eq _ _ _ (Zb0 hop)]
    have g0:=Xz hP.good hop
    obtain ⟨rfl,xs,hxs,hr⟩:=Wx hM.tab hP.gl hP.fr hP.sat hn hf1 hP.good o hop
    split at h
    ·rename_i v H1 hcl
     have g1:=hcg _ _ _ _ _ hcl g0.good
     have g2:=Yk hcg r g1.good h
     have hfc:Zz D H.flush H1:=fun b h1 h2=>hf b (by rw [Hp.next_flush] at h1;exact h1) (Nat.le_trans h2 g2.le)
     obtain ⟨⟨fn,c,e1,e2⟩,hcalls⟩:=hc _ _ _ _ _ hcl D s w xs hP.gl hxs hP.sat.flush g0.good hfc
     rw [hr,Wy hM e1 e2]
     refine ⟨fun h=>(by rw [hZ.depth] at h;cases h),?_⟩
     refine CallsIn.mono (hZ.calls hcalls) fun e w1 he=>?_
     cases e with
     | returned x =>
      obtain ⟨s1,hs0,hv⟩:=he
      have hs:Step n0 w0 D s H w s1 H1 w1:=(Step.flush hP.sat).trans (by rw [Hp.next_flush,Yj];exact hs0)
      rw [Hp.next_flush] at hv
      have hF1:FrOk (Dn D H.next H1.next) s1 (putD F o.dst v) (a.put o.dst x):=(hP.fr.mono (fun b hb=>.inl hb) hs.same).put hdo hv
      have hP1:=hP.next hs hF1 g1.good (by rw [Xa];exact hP.size) (by rw [Ym];exact hP.defers)
      exact Uu hM hqt hn hc hcg hZ r (i+1) is hl' hd' h hP1 (hf.right hs.next) (fun a' w' h'=>hQ a' w' (Zcd.trans hs h'))
     | panicked c=>exact he.elim
     | outgrown=>exact he.elim
    ·cases h
   ·split at h
    ·rename_i hdef;rw [Znv hqt] at hdef;cases hdef
    ·cases h
  ·rename_i hw
   rw [Xk hP.fr hw,if_neg (by simp)]
   have hP1:PreI T n0 w0 nt D s (delD F o.dst) H (a.put o.dst undef) w ds:=⟨hP.gl,hP.fr.del hdo,hP.sat,hP.good,by rw [Xa];exact hP.size,by rw [Ym];exact hP.defers⟩
   exact ⟨fun f _=>hZ.fn f,Uu hM hqt hn hc hcg hZ r (i+1) is hl' hd' h hP1 hf hQ⟩
  ·cases h
theorem Zgb (hM:MachOk T P) (hqt:∀ g,T.quiet g=false) (hn:n0<=w0.heap.size) {call:CallE} (hc:Vm T P n0 w0 call) (hcg:Z4 call) {Z:Fence} (hZ:Zam Z) {n id:Nat} {ops:Array Oper} {Q:Exit->Act->World->Prop} {F' : Fr} {H' : Hp} (hd:∀ o∈ops.toList,∀ t,o.dst=some t->t < nt)
  (h:Z1 T call ops ops.toList F H=some (F',H')) (hP:PreI T n0 w0 nt D s F H a w ds) (hf:Zz D H H') (hQ:∀ a' w',Zcd n0 w0 nt D s H w F' H' a' w' ds->Q .normal a' w'):(Code.region id ops false).wpIn Z n P Q a w:=by
 refine wpIn_region ?_
 have:=Uu (ops:=ops) (Q:=Q) hM hqt hn hc hcg hZ (n:=n) ops.toList 0 [] (fun j hj=>by simp) hd h hP hf (fun a' w' h'=>hQ a' w' h')
 rw [List.range_eq_range']
 simpa using this
theorem FrOk.other {F:Fr} {a:Act} (h:FrOk D s F a) {t:Tmp} {x:Value} (hn:F.get t=none):FrOk D s F (a.put (some t) x):=fun t' v hv=>by
 obtain ⟨y,h1,h2⟩:=h t' v hv
 have:t≠t':=fun e=>by subst e;rw [hn] at hv;cases hv
 exact ⟨y,by simp [Act.put,Array.getElem?_setIfInBounds,this,h1],h2⟩
theorem Sat.of_blocks (h:Sat n0 w0 D s H w) (hb:Below n0 w0 w') (hk:∀ b,D b->w'.heap[(s b).b]? = w.heap[(s b).b]?):Sat n0 w0 D s H w':=by
 refine ⟨hb,fun b e sz ro cs hD hg=>(h.row b e sz ro cs hD hg).keep (fun _ h=>h) (fun _ _=>rfl) (hk b hD),fun b ro es c hD hg=>?_,fun b m since seen last hD hg=>?_,h.sep,h.old⟩
 ·rw [hk b hD];exact h.map b ro es c hD hg
 ·rw [hk b hD];exact h.iter b m since seen last hD hg
end
end Go.AM
namespace Go.AM
open Go Go.RowKit
section
variable {T:Tab} {P:Program} {D:Nat->Prop} {s s1 s2:Sg} {n0:Nat} {w0 w w1 w2:World} {H H1 H2:Hp}
theorem Below.put {B:Nat} (h:Below B w0 w) {l:Nat} (hl:B<=l) (o:Obj):Below B w0 (w.putObj l o) :=
 h.trans ⟨rfl,rfl,rfl,by simp,fun k hk=>World.putObj_heap_other (by omega)⟩
theorem Step.apart (hs:Step n0 w0 D s H w s1 H1 w1) (hb:Below n0 w0 w2) (hz:w1.heap.size<=w2.heap.size) (hk:∀ b,Dn D H.next H1.next b->w2.heap[(s1 b).b]? = w1.heap[(s1 b).b]?) (hf:∀ k,k < w.heap.size->w2.heap[k]? = w1.heap[k]?):Step n0 w0 D s H w s1 H1 w2 :=
 ⟨hs.sat.of_blocks hb hk,hs.same,hs.next,Nat.le_trans hs.size hz,fun k h1 h2=>(hf k h1).trans (hs.frame k h1 h2),hs.new,hs.ow⟩
structure Cu (n0:Nat) (w0:World) (D:Nat->Prop) (s:Sg) (H:Hp) (w:World) (l d:Nat) (r:Loop) (s1:Sg) (H1:Hp) (w1:World):Prop where
 step:Step n0 w0 D s H w s1 H1 w1
 off:∀ b,Dn D H.next H1.next b->(s1 b).b≠l/\(s1 b).b≠d
 hl:w1.heap[l]? = some (.loop r)
 hd:w1.heap[d]? = some (.deferred (some []))
 gl:w.heap.size<=l
 gd:w.heap.size<=d
 ne:d≠l
 bn:n0<=w.heap.size
 good:Good H1
variable {l d:Nat} {r r' : Loop}
theorem Cu.next (C:Cu n0 w0 D s H w l d r s1 H1 w1) (hs:Step n0 w0 (Dn D H.next H1.next) s1 H1 w1 s2 H2 w2) (hG:Good H2):Cu n0 w0 D s H w l d r s2 H2 w2:=by
 have hn:=hs.next
 have hn0:=C.step.next
 refine ⟨C.step.trans hs,fun b hb=>?_,?_,?_,C.gl,C.gd,C.ne,C.bn,hG⟩
 ·have ll:=Zt C.hl
  have ld:=Zt C.hd
  by_cases hb1:Dn D H.next H1.next b
  ·rw [hs.same b hb1];exact C.off b hb1
  ·have hnew:H1.next<=b/\b < H2.next:=by
    rcases hb with hb | hb
    ·exact absurd (.inl hb) hb1
    ·refine ⟨?_,hb.2⟩
     rcases Nat.lt_or_ge b H1.next with h | h
     ·exact absurd (.inr ⟨hb.1,h⟩) hb1
     ·exact h
   rcases hs.new b hnew.1 hnew.2 with h | ⟨c,h1,_,h3⟩
   ·exact ⟨by omega,by omega⟩
   ·rw [<- h3];exact C.off c h1
 ·rw [hs.frame l (Zt C.hl) (fun b hb _=>(C.off b hb).1)];exact C.hl
 ·rw [hs.frame d (Zt C.hd) (fun b hb _=>(C.off b hb).2)];exact C.hd
theorem Cu.put (C:Cu n0 w0 D s H w l d r s1 H1 w1) (r' : Loop):Cu n0 w0 D s H w l d r' s1 H1 (w1.putObj l (.loop r')):=by
 have hl:=C.gl
 have hbn:=C.bn
 refine ⟨C.step.apart (Below.put C.step.sat.below (Nat.le_trans hbn hl) _) (by simp) (fun b hb=>World.putObj_heap_other (C.off b hb).1) (fun k hk=>World.putObj_heap_other (by omega)),C.off,World.putObj_heap_same (Zt C.hl),(World.putObj_heap_other C.ne).trans C.hd,C.gl,C.gd,C.ne,C.bn,C.good⟩
theorem Cu.start (hs:Step n0 w0 D s H w s1 H1 w1) (hbn:n0<=w.heap.size) (hG:Good H1) (hlt:∀ b,Dn D H.next H1.next b->(s1 b).b < w1.heap.size) (r:Loop) :
  Cu n0 w0 D s H w (w1.heap.size+1) w1.heap.size r s1 H1 ((w1.alloc (.deferred (some []))).alloc (.loop r)):=by
 have hz:=hs.size
 have e1:∀ k,k < w1.heap.size->((w1.alloc (.deferred (some []))).alloc (.loop r)).heap[k]? = w1.heap[k]?:=fun k hk=>by
  rw [Go.heap_alloc_old _ _ (by rw [World.size_alloc];omega),Go.heap_alloc_old _ _ hk]
 have hb:Below n0 w0 ((w1.alloc (.deferred (some []))).alloc (.loop r)):=(hs.sat.below.alloc (by omega) _).alloc (by rw [World.size_alloc];omega) _
 refine ⟨hs.apart hb (by simp [World.size_alloc];omega) (fun b hb=>e1 _ (hlt b hb)) (fun k hk=>e1 k (by omega)),fun b hb=>?_,?_,?_,by omega,by omega,by omega,hbn,hG⟩
 ·have:=hlt b hb
  exact ⟨by omega,by omega⟩
 ·have:=World.alloc_heap_new (w1.alloc (.deferred (some []))) (.loop r)
  rwa [World.size_alloc] at this
 ·rw [Go.heap_alloc_old _ _ (by rw [World.size_alloc];omega)]
  exact World.alloc_heap_new _ _
theorem Cu.shut (C:Cu n0 w0 D s H w l d r s1 H1 w1):Step n0 w0 D s H w s1 H1 (w1.putObj d (.deferred none)):=by
 have hd:=C.gd
 have hbn:=C.bn
 exact C.step.apart (Below.put C.step.sat.below (Nat.le_trans hbn hd) _) (by simp) (fun b hb=>World.putObj_heap_other (C.off b hb).2) (fun k hk=>World.putObj_heap_other (by omega))
structure Lat (D:Nat->Prop) (n:Nat) (s1:Sg) (H1:Hp) (s2:Sg) (H2:Hp):Prop where
 same:∀ b,Dn D n H1.next b->s2 b=s1 b
 le:H1.next<=H2.next
theorem Lat.refl {n:Nat}:Lat D n s1 H1 s1 H1:=⟨fun _ _=>rfl,Nat.le_refl _⟩
theorem Lat.trans {n:Nat} {s3:Sg} {H3:Hp} (h:Lat D n s1 H1 s2 H2) (k:Lat D n s2 H2 s3 H3):Lat D n s1 H1 s3 H3 :=
 ⟨fun b hb=>(k.same b (hb.elim .inl fun h'=>.inr ⟨h'.1,Nat.lt_of_lt_of_le h'.2 h.le⟩)).trans (h.same b hb),Nat.le_trans h.le k.le⟩
theorem Lat.fr {n:Nat} {F:Fr} {a:Act} (h:Lat D n s1 H1 s2 H2) (hF:FrOk (Dn D n H1.next) s1 F a):FrOk (Dn D n H2.next) s2 F a :=
 hF.mono (fun b hb=>hb.elim .inl fun h'=>.inr ⟨h'.1,Nat.lt_of_lt_of_le h'.2 h.le⟩) h.same
theorem Lat.rv {n:Nat} {v:V} {x:Value} (h:Lat D n s1 H1 s2 H2) (hF:Rv (Dn D n H1.next) s1 v x):Rv (Dn D n H2.next) s2 v x :=
 hF.mono (fun b hb=>hb.elim .inl fun h'=>.inr ⟨h'.1,Nat.lt_of_lt_of_le h'.2 h.le⟩) h.same
def noCall:CallE:=fun _ _ _=>none
theorem Zca (n0:Nat) (w0:World):Vm T P n0 w0 noCall:=fun f vs H v H' h=>by cases h
theorem Va:Z4 noCall:=fun f vs H v H' h=>by cases h
theorem Cu.region (C:Cu n0 w0 D s H w l d r s1 H1 w1) (hM:MachOk T P) (hqt:∀ g,T.quiet g=false) (hT:T.ng=0) (hn:n0<=w0.heap.size) (hfr:Zz D H H2) {Z:Fence} (hZ:Zam Z) {n id nt:Nat} {ops:Array Oper} {F F' : Fr} {a:Act} {ds:List Deferred} {Q:Exit->Act->World->Prop}
  (hd:ops.toList.all (fun o=>match o.dst with | some t=>Nat.blt t nt | none=>true)=true) (h:Z1 T noCall ops ops.toList F H1=some (F',H2)) (hF:FrOk (Dn D H.next H1.next) s1 F a) (hsz:nt<=a.tmps.size) (hds:a.defers=ds)
  (hQ:∀ a' s2 w2,Cu n0 w0 D s H w l d r s2 H2 w2->FrOk (Dn D H.next H2.next) s2 F' a'->Lat D H.next s1 H1 s2 H2->nt<=a'.tmps.size->a'.defers=ds->Q .normal a' w2):(Code.region id ops false).wpIn Z n P Q a w1:=by
 refine Zgb (ds:=ds) hM hqt hn (Zca n0 w0) Va hZ (fun o ho t ht=>?_) h ⟨fun g hg=>by omega,hF,C.step.sat,C.good,hsz,hds⟩ (hfr.right C.step.next) fun a' w' hp=>?_
 ·have:=List.all_eq_true.1 hd o ho
  rw [ht] at this
  simpa using this
 ·obtain ⟨s2,h1,h2,h3,h4⟩:=hp
  have hg:=Yk Va _ C.good h
  have e:=V5 D C.step.next h1.next
  rw [e] at h2
  exact hQ a' s2 w' (C.next h1 hg.good) h2 ⟨h1.same,h1.next⟩ h3 h4
theorem Cu.op (C:Cu n0 w0 D s H w l d r s1 H1 w1) (hM:MachOk T P) (hqt:∀ g,T.quiet g=false) (hT:T.ng=0) (hn:n0<=w0.heap.size) (hfr:Zz D H H2) {Z:Fence} (hZ:Zam Z) {n nt i:Nat} {is:List Nat} {ops:Array Oper} {o:Oper} {F F' : Fr} {a:Act} {ds:List Deferred} {Q:Exit->Act->World->Prop}
  (ho:ops[i]? = some o) (hd:∀ t,o.dst=some t->t < nt) (h:Z1 T noCall ops [o] F H1=some (F',H2)) (hF:FrOk (Dn D H.next H1.next) s1 F a) (hsz:nt<=a.tmps.size) (hds:a.defers=ds)
  (hQ:∀ a' s2 w2,Cu n0 w0 D s H w l d r s2 H2 w2->FrOk (Dn D H.next H2.next) s2 F' a'->Lat D H.next s1 H1 s2 H2->nt<=a'.tmps.size->a'.defers=ds->wpOpsIn Z n P ops Q is a' w2):wpOpsIn Z n P ops Q (i :: is) a w1:=by
 have:=Uu (ds:=ds) (ops:=ops) (Q:=Q) (nt:=nt) hM hqt hn (Zca n0 w0) Va hZ (n:=n) [o] i is (fun j hj=>by simp at hj;subst hj;simpa using ho) (fun o' ho' t ht=>by simp at ho';subst ho';exact hd t ht) h ⟨fun g hg=>by omega,hF,C.step.sat,C.good,hsz,hds⟩ (hfr.right C.step.next) fun a' w' hp=>?_
 ·simpa using this
 ·obtain ⟨s2,h1,h2,h3,h4⟩:=hp
  have hg:=Yk Va _ C.good h
  have e:=V5 D C.step.next h1.next
  rw [e] at h2
  exact hQ a' s2 w' (C.next h1 hg.good) h2 ⟨h1.same,h1.next⟩ h3 h4
theorem Zp9 (hS:Sat n0 w0 D s H w) (hst:H.stale=[]) (hn:n0<=w0.heap.size) (hf:¬ D H.next) (hB:Below w.heap.size w w1) {L:Loc} {e:TypeId} {sz:Nat} {cs:List V} (hL:w.heap.size<=L.b) (hr:RowAt (Dn D H.next (H.next+1)) (upd s H.next L) n0 w1 L e sz false cs) :
  Step n0 w0 D s H w (upd s H.next L) (H.new (.row e sz false cs)) w1:=by
 have hs:∀ b,D b->upd s H.next L b=s b:=fun b hb=>Zbx _ _ (fun e=>hf (e ▸ hb))
 have hD:∀ b,D b->Dn D H.next (H.next+1) b:=fun b hb=>.inl hb
 have hget:∀ b,(H.new (.row e sz false cs)).get b=if b=H.next then some (.row e sz false cs) else H.get b:=fun b=>Hp.get_new H b _
 have hst' : (H.new (.row e sz false cs)).stale=[]:=hst
 have hne:∀ b,D b->b≠H.next:=fun b hb e=>hf (e ▸ hb)
 have hDn:∀ b,Dn D H.next (H.next+1) b->D b\/b=H.next:=fun b hb=>hb.elim .inl fun h=>.inr (by omega)
 have hal:∀ b,D b->Al (H.new (.row e sz false cs)) b->Al H b:=fun b hb h=>by
  rw [Jr,hget,if_neg (hne b hb),hst'] at h
  rw [Jr,hst];exact h
 have how:∀ b,D b->Ow (H.new (.row e sz false cs)) b->Ow H b:=fun b hb h=>by
  unfold Ow at h ⊢
  rw [hget,if_neg (hne b hb),hst'] at h
  rw [hst];exact h
 refine ⟨⟨?_,fun b e' sz' ro cs' hb hg=>?_,fun b ro es c hb hg=>?_,fun b m si se la hb hg=>?_,fun b b' h1 h2 h3 h4 h5=>?_,fun x _ _ _ _ b _ _ _ hx hxs=>?_⟩,hs,Nat.le_succ _,hB.size,fun k hk _=>hB.block k hk,fun b h1 h2=>?_,fun b hb=>how b hb⟩
 ·have:=hS.below.size
  exact hS.below.trans ⟨hB.os,hB.tape,hB.output,hB.size,fun k hk=>hB.block k (by omega)⟩
 ·rw [hst',List.contains_nil,Bool.or_false]
  rcases hDn b hb with hb | rfl
  ·rw [hget,if_neg (hne b hb)] at hg
   have h1:=hS.row b e' sz' ro cs' hb hg
   rw [hst,List.contains_nil,Bool.or_false] at h1
   rw [hs b hb]
   exact h1.keep hD hs (hB.block _ h1.lt)
  ·rw [hget,if_pos rfl] at hg
   cases hg
   rw [Zy]
   exact hr
 ·rcases hDn b hb with hb | rfl
  ·rw [hget,if_neg (hne b hb)] at hg
   obtain ⟨ents,h1,h2,h3⟩:=hS.map b ro es c hb hg
   rw [hs b hb,hB.block _ (Zt h1)]
   exact ⟨ents,h1,h2.mono hD hs,h3⟩
  ·rw [hget,if_pos rfl] at hg
   cases hg
 ·rcases hDn b hb with hb | rfl
  ·rw [hget,if_neg (hne b hb)] at hg
   obtain ⟨h1,h2,h3⟩:=hS.iter b m si se la hb hg
   rw [hs b hb,hB.block _ (Zt h1)]
   refine ⟨?_,fun m' hm=>hD _ (h2 m' hm),h3⟩
   rw [h1]
   cases m with
   | none=>rfl
   | some m=>simp only [Option.map_some];rw [hs m (h2 m rfl)]
  ·rw [hget,if_pos rfl] at hg
   cases hg
 ·rcases hDn b h1 with hb | rfl
  ·rcases hDn b' h2 with hb' | rfl
   ·rw [hs b hb,hs b' hb']
    exact hS.sep b b' hb hb' h3 (how b hb h4) (hal b' hb' h5)
   ·rw [hs b hb,Zy]
    have:=hS.lt hb (how b hb h4).al
    omega
  ·rcases hDn b' h2 with hb' | rfl
   ·rw [Zy,hs b' hb']
    have:=hS.lt hb' (hal b' hb' h5)
    omega
   ·exact absurd rfl h3
 ·rw [hst'] at hxs;cases hxs
 ·have:b=H.next:=by
   have:(H.new (Ob.row e sz false cs)).next=H.next+1:=Hp.next_new _ _
   omega
  subst this
  left;rw [Zy];exact hL
theorem U1 (hS:Sat n0 w0 D s H w) (hn:n0<=w0.heap.size) (hB:Below w.heap.size w w1) (hlt:∀ b,D b->(∀ o,H.get b=some o->o≠.dead->(s b).b < w.heap.size)):Step n0 w0 D s H w s H w1:=by
 have hz:=hS.below.size
 have e:Dn D H.next H.next=D:=Yj D H.next
 refine ⟨?_,fun _ _=>rfl,Nat.le_refl _,hB.size,fun k hk _=>hB.block k hk,fun b h1 h2=>by omega,fun _ _ h=>h⟩
 rw [e]
 refine ⟨hS.below.trans ⟨hB.os,hB.tape,hB.output,hB.size,fun k hk=>hB.block k (by omega)⟩,fun b e sz ro cs hD hg=>?_,fun b ro es c hD hg=>?_,fun b m si se la hD hg=>?_,hS.sep,hS.old⟩
 ·have h1:=hS.row b e sz ro cs hD hg
  exact h1.keep (fun _ h=>h) (fun _ _=>rfl) (hB.block _ h1.lt)
 ·obtain ⟨ents,h1,h2⟩:=hS.map b ro es c hD hg
  exact ⟨ents,by rw [hB.block _ (Zt h1)];exact h1,h2⟩
 ·obtain ⟨h1,h2⟩:=hS.iter b m si se la hD hg
  exact ⟨by rw [hB.block _ (Zt h1)];exact h1,h2⟩
theorem Znr {o:Oper} {a:Act} {w:World} {c:Call} {t:Tmp} {l:Nat} {x:Operand} {nx:Next} {w' : World} (ro:Option Nat) (ho:o.op = .call c) (hc:c.callee = .value (.tmp t)) (ha:c.args = #[x]) (ht:a.eval (.tmp t) = .func (.yield l) #[] #[]) (hy:(Instr.yield l #[a.eval x]).run P w = .ok nx w') :
  (o.semAt ro a.eval).run P w = .ok nx w'/\o.about P w a.eval=none:=by
 constructor
 ·rw [Oper.semAt_eq _ _ _ (by simp [ho])]
  simp [execOp,ho,resolve,hc,ha,ht,Deferred.ofValue,Sem.run_bind,Result.andThen,invoke,hy]
 ·simp [Oper.about,ho,resolve,hc,ha,ht,Deferred.ofValue,Target.leads,Sem.run_bind,Result.andThen]
def Zap (i:Nat):Code->Option (Array Oper)
 | .region id ops _=>if id=i then some ops else none
 | .seq a b=>match Zap i a with | some x=>some x | none=>Zap i b
 | .cond _ a b=>match Zap i a with | some x=>some x | none=>Zap i b
 | .block _ c=>Zap i c
 | .scope c=>Zap i c
 | .loop c=>Zap i c
 | .rangeFunc _ _ a b=>match Zap i a with | some x=>some x | none=>Zap i b
 | _=>none
def regF (fn:Func) (i:Nat):Array Oper:=match fn.body with | some c=>(match Zap i c with | some x=>x | none=>#[]) | none=>#[]
theorem Znn {Z:Fence} {n i l f:Nat} {is:List Nat} {ops:Array Oper} {o:Oper} {a:Act} {w w' : World} {c:Call} {t:Tmp} {x:Operand} {tmps:Array Value} {assign body:Code} {Q:Exit->Act->World->Prop} (ho:ops[i]? = some o) (hg:o.guard=none) (hop:o.op = .call c) (hc:c.callee = .value (.tmp t)) (ha:c.args = #[x]) (hd:Z.depth=none)
  (ht:a.eval (.tmp t) = .func (.yield l) #[] #[]) (hy:(Instr.yield l #[a.eval x]).run P w = .ok (.round l f tmps assign body) w') (h:RoundIn Z (n-1) P l f tmps assign body w' fun e w2=>∃ v,e = .returned v/\wpOpsIn Z n P ops Q is (a.put o.dst v) w2):wpOpsIn Z n P ops Q (i :: is) a w:=by
 obtain ⟨h1,h2⟩:=Znr (P:=P) (w:=w) Z.round hop hc ha ht hy
 simp only [wpOpsIn,ho]
 rw [if_pos (by simp [Region.wanted,hg])]
 refine ⟨fun f hf=>(by rw [h2] at hf;cases hf),?_⟩
 rw [h1]
 refine ⟨fun hh=>(by rw [hd] at hh;cases hh),h.mono fun e w2 he=>?_⟩
 obtain ⟨v,rfl,hv⟩:=he
 exact hv
end
def ExtF (I:Nat->World->Prop) (ng:Nat) (P:Program) (f:FuncId) (e:List V->Hp->Option (V×Hp)):Prop :=
 ∀ n0 w0,I n0 w0->n0<=w0.heap.size->∀ vs H v H',e vs H=some (v,H')->∀ D s w (xs:Array Value),GlOk ng D s->RvL D s vs xs.toList->Sat n0 w0 D s H w->Good H->Zz D H H' ->
  Calls P f xs w fun e w'=>match e with
   | .returned x=>∃ s',Step n0 w0 D s H w s' H' w'/\Rv (Dn D H.next H'.next) s' v x
   | _=>False
def Zg9 (fk te:Nat):List V->Hp->Option (V×Hp)
 | [.nils,.fn (.func g) [] [.ptr c 0]],H=>if g=fk then match H.stale,H.get c with
  | [],some (.row _ 1 _ [.nilm])=>some (.nils,H)
  | [],some (.row _ 1 _ [.mp b])=>match H.get b with
   | some (.map _ [] _)=>some (.nils,H)
   | some (.map _ [(.agg [.int k0 n0,.int k1 n1,.str t],.agg [.int _ _,.int _ _,.str _],0)] 1)=>some (.sl H.next 0 1 none 3,H.new (.row te 3 false [.int k0 n0,.int k1 n1,.str t]))
   | _=>none
  | _,_=>none else none
 | _,_=>none
theorem Zqc {fk te:Nat} {xs:List V} {H H' : Hp} {v:V} (h:Zg9 fk te xs H=some (v,H')) (hG:Good H):Grow H H':=by
 unfold Zg9 at h
 split at h
 ·split at h
  ·split at h
   ·cases h;exact Grow.refl hG
   ·split at h
    ·cases h;exact Grow.refl hG
    ·cases h;exact hG.new _
    ·cases h
   ·cases h
  ·cases h
 ·cases h
def ccE (tb:Nat):List V->Hp->Option (V×Hp)
 | [.ptr b 0],H=>match H.stale,H.get b with
  | [],some (.row e 2 false [.nilp,x])=>if e=tb then some (.tup [],H.put b (.row e 2 false [.ptr b 0,x])) else none
  | [],some (.row e 2 false [.ptr b' 0,x])=>if e=tb/\b' = b then some (.tup [],H) else none
  | _,_=>none
 | _,_=>none
def ixE (f:List UInt8->UInt8->Int):List V->Hp->Option (V×Hp)
 | [.str s,.int .u8 c],H=>some (.int .i64 (f s c.toNat.toUInt8),H)
 | _,_=>none
theorem Zvg {tb:Nat} {xs:List V} {H H' : Hp} {v:V} (h:ccE tb xs H=some (v,H')) (hG:Good H):Grow H H':=by
 unfold ccE at h
 split at h
 ·split at h
  ·rename_i hg
   split at h
   ·cases h;exact hG.put hg
   ·cases h
  ·split at h
   ·cases h;exact Grow.refl hG
   ·cases h
  ·cases h
 ·cases h
theorem Zvh {f:List UInt8->UInt8->Int} {xs:List V} {H H' : Hp} {v:V} (h:ixE f xs H=some (v,H')) (hG:Good H):Grow H H':=by
 unfold ixE at h
 split at h
 ·cases h;exact Grow.refl hG
 ·cases h
theorem RowAt.block {D:Nat->Prop} {s:Sg} {n0:Nat} {w:World} {L:Loc} {e:TypeId} {sz:Nat} {cs:List V} (h:RowAt D s n0 w L e sz false cs) :
  ∃ (C:Array Value) (fz:Nat×Nat),w.heap[L.b]? = some (.cells C e fz)/\L.base=0/\C.size=L.cap*sz/\(∀ (i:Nat) (v:V),cs[i]? = some v->∃ x:Value,C[i]? = some x/\Rv D s v x)/\∀ i:Nat,i < C.size->¬ (fz.1<=i/\i < fz.2):=by
 obtain ⟨⟨C,et,fz,g1,g2,g3,g4⟩,g5,g6,g7,g8⟩:=h
 obtain ⟨h1,rfl,h3,h4⟩:=g4 rfl
 refine ⟨C,fz,g1,h3,h4,fun i v hv=>?_,fun i hi=>h1 i (by omega) (by omega)⟩
 obtain ⟨x,hx,hr⟩:=g3 i v hv
 rw [h3,Nat.zero_add] at hx
 exact ⟨x,hx,hr⟩
theorem Zr6 {D:Nat->Prop} {s:Sg} {n0:Nat} {w0 w w' : World} {H:Hp} (hS:Sat n0 w0 D s H w) (hst:H.stale=[]) {r:Nat} {e:TypeId} {sz:Nat} {cs:List V} (hD:D r) (hg:H.get r=some (.row e sz false cs)) (hB:But w w' (s r).b)
  (hrow:RowAt D s n0 w' (s r) e sz true cs):Step n0 w0 D s H w s (H.put r (.row e sz true cs)) w':=by
 have ho:Ow H r:=by unfold Ow;rw [hg,hst];simp
 have e0:Dn D H.next (H.put r (.row e sz true cs)).next=D:=by funext b;simp [Dn,Hp.next_put];intro h1 h2;omega
 have hst' : (H.put r (.row e sz true cs)).stale=[]:=hst
 have hget:∀ b,(H.put r (.row e sz true cs)).get b=if b=r then some (.row e sz true cs) else H.get b:=fun b=>Hp.get_put H r b _
 have hal:∀ b,Al (H.put r (.row e sz true cs)) b->Al H b:=fun b h=>by
  by_cases hb:b=r
  ·subst hb;exact ho.al
  ·rw [Jr,hget,if_neg hb,hst'] at h
   rw [Jr,hst];exact h
 have how:∀ b,Ow (H.put r (.row e sz true cs)) b->Ow H b/\b≠r:=fun b h=>by
  by_cases hb:b=r
  ·subst hb
   unfold Ow at h
   rw [hget,if_pos rfl] at h
   simp at h
  ·refine ⟨?_,hb⟩
   unfold Ow at h ⊢
   rw [hget,if_neg hb,hst'] at h
   rw [hst];exact h
 have hne:∀ b,D b->b≠r->Al H b->w'.heap[(s b).b]? = w.heap[(s b).b]?:=fun b hb hbr ha=>hB.old _ (hS.sep r b hD hb (Ne.symm hbr) ho ha).symm
 refine ⟨?_,fun _ _=>rfl,by rw [Hp.next_put];exact Nat.le_refl _,by rw [hB.size];exact Nat.le_refl _,fun k _ h=>hB.old k (h r hD ho).symm,fun b h1 h2=>by rw [Hp.next_put] at h2;omega,fun b _ h=>(how b h).1⟩
 rw [e0]
 refine ⟨hB.below hS.below (hS.owge hD ho),fun b e' sz' ro cs' hb hgb=>?_,fun b ro es c hb hgb=>?_,fun b m si se la hb hgb=>?_,fun b b' h1 h2 h3 h4 h5=>hS.sep b b' h1 h2 h3 (how b h4).1 (hal b' h5),fun x _ _ _ _ b _ _ _ hx hxs=>by rw [hst'] at hxs;cases hxs⟩
 ·rw [hst',List.contains_nil,Bool.or_false]
  rw [hget] at hgb
  split at hgb
  ·rename_i hb';subst hb';cases hgb;exact hrow
  ·rename_i hbr
   have h1:=hS.row b e' sz' ro cs' hb hgb
   rw [hst,List.contains_nil,Bool.or_false] at h1
   exact h1.keep (fun _ h=>h) (fun _ _=>rfl) (hne b hb hbr (by rw [Jr,hgb,hst];simp))
 ·rw [hget] at hgb
  split at hgb
  ·cases hgb
  ·rename_i hbr
   obtain ⟨ents,h1,h2⟩:=hS.map b ro es c hb hgb
   exact ⟨ents,by rw [hne b hb hbr (by rw [Jr,hgb];trivial)];exact h1,h2⟩
 ·rw [hget] at hgb
  split at hgb
  ·cases hgb
  ·rename_i hbr
   obtain ⟨h1,h2⟩:=hS.iter b m si se la hb hgb
   exact ⟨by rw [hne b hb hbr (by rw [Jr,hgb];trivial)];exact h1,h2⟩
def Zhu:V->Bool
 | .int .u8 n=>decide (0<=n)&&decide (n < 256)
 | _=>false
def strE (tb t5:Nat):List V->Hp->Option (V×Hp)
 | [.ptr b 0],H=>match H.stale,H.get b with
  | [],some (.row e 2 false [_,.nils])=>if e=tb then some (.str [],H) else none
  | [],some (.row e 2 false [_,.sl r 0 (n+1) none 1])=>if e=tb then match H.get r with
   | some (.row e' 1 false cs)=>if e' = t5/\n+1<=cs.length/\n+1<=9223372036854775807/\(cs.take (n+1)).all Zhu=true then match Vk (cs.take (n+1)) with
    | some l=>some (.str l,H.put r (.row e' 1 true cs))
    | none=>none else none
   | _=>none else none
  | _,_=>none
 | _,_=>none
theorem Zuq {tb t5:Nat} {xs:List V} {H H' : Hp} {v:V} (h:strE tb t5 xs H=some (v,H')) (hG:Good H):Grow H H':=by
 unfold strE at h
 split at h
 ·split at h
  ·split at h
   ·cases h;exact Grow.refl hG
   ·cases h
  ·split at h
   ·split at h
    ·rename_i hg
     split at h
     ·split at h
      ·cases h;exact hG.put hg
      ·cases h
     ·cases h
    ·cases h
   ·cases h
  ·cases h
 ·cases h
def clE:List V->Hp->Option (V×Hp)
 | [.str s],H=>if s.length<=281474976710656 then some (.str s,H) else none
 | _,_=>none
theorem Zxa {xs:List V} {H H' : Hp} {v:V} (h:clE xs H=some (v,H')) (hG:Good H):Grow H H':=by
 unfold clE at h
 split at h
 ·split at h
  ·cases h;exact Grow.refl hG
  ·cases h
 ·cases h
theorem Zfw:∀ {cs:List V} {l:List UInt8},Vk cs=some l->cs.all Zhu=true->l.length=cs.length/\∀ (j:Nat) (x:UInt8),l[j]? = some x->cs[j]? = some (.int .u8 x.toNat)
 | [],l,h,_=>by
  simp only [Vk] at h
  cases h
  exact ⟨rfl,fun j x hx=>by simp at hx⟩
 | c :: cs,l,h,ha=>by
  simp only [List.all_cons,Bool.and_eq_true] at ha
  unfold Vk at h
  split at h
  ·rename_i heq;cases heq
  ·rename_i n r heq
   cases heq
   split at h
   ·rename_i l' hl
    cases h
    obtain ⟨h1,h2⟩:=Zfw hl ha.2
    refine ⟨by simp [h1],fun j x hx=>?_⟩
    cases j with
    | zero =>
     simp only [List.getElem?_cons_zero,Option.some.injEq] at hx ⊢
     subst hx
     have:=ha.1
     simp only [Zhu,Bool.and_eq_true,decide_eq_true_eq] at this
     congr 1
     rw [UInt8.toNat_ofNat']
     omega
    | succ j=>simpa using h2 j x (by simpa using hx)
   ·cases h
  ·cases h
def Zha (tb t5:Nat):List V->Hp->Option (V×Hp)
 | [.ptr b 0,.int .i64 n],H=>match H.stale,H.get b with
  | [],some (.row e 2 false [.nilp,.nils])=>if e=tb/\0 < n/\n<=281474976710656 then some (.tup [],(H.new (.row t5 1 false [])).put b (.row e 2 false [.ptr b 0,.sl H.next 0 0 none 1])) else none
  | _,_=>none
 | _,_=>none
theorem Zp0 {tb t5:Nat} {xs:List V} {H H' : Hp} {v:V} (h:Zha tb t5 xs H=some (v,H')) (hG:Good H):Grow H H':=by
 unfold Zha at h
 split at h
 ·split at h
  ·rename_i e hst hg
   split at h
   ·cases h
    have h1:=hG.new (.row t5 1 false [])
    have hlt:=hG.lt hg
    exact h1.trans (h1.good.put (o:=.row e 2 false [.nilp,.nils]) (by rw [Hp.get_new,if_neg (by omega)];exact hg))
   ·cases h
  ·cases h
 ·cases h
end Go.AM
namespace Go.AM
open Go Go.RowKit
def decF:Nat->Nat->List UInt8
 | 0,_=>[]
 | k+1,u=>if u < 10 then [UInt8.ofNat (48+u)] else decF k (u / 10)++[UInt8.ofNat (48+u % 10)]
theorem Ziy:∀ (k u:Nat),u < 10 ^ (k+1)->decF (k+1) u=Lib.decDigits u
 | 0,u,h=>by
  rw [decF,Lib.decDigits,if_pos (by omega),dif_pos (by omega)]
 | k+1,u,h=>by
  rw [decF,Lib.decDigits]
  by_cases h1:u < 10
  ·rw [if_pos h1,dif_pos h1]
  ·rw [if_neg h1,dif_neg h1,Ziy k (u / 10) (by rw [Nat.pow_succ] at h;omega)]
def Zkl (n:Int):List UInt8:=if n < 0 then 45 :: decF 20 n.natAbs else decF 20 n.toNat
theorem Zlk {n:Int} (h0 : -9223372036854775808<=n) (h1:n<=9223372036854775807):Zkl n=Lib.itoa n:=by
 unfold Zkl Lib.itoa
 split
 ·rw [Ziy _ _ (by omega)]
 ·rw [Ziy _ _ (by omega)]
def fmtE:List V->Hp->Option (V×Hp)
 | [.int .i64 n,.int .i64 10],H=>if -9223372036854775808<=n/\n<=9223372036854775807 then some (.str (Zkl n),H) else none
 | _,_=>none
def itoaE:List V->Hp->Option (V×Hp)
 | [.int .i64 n],H=>if -9223372036854775808<=n/\n<=9223372036854775807 then some (.str (Zkl n),H) else none
 | _,_=>none
def piE (gr tn:Nat):List V->Hp->Option (V×Hp)
 | [.str s,.int .i64 10,.int .i64 64],H=>if s.length<=281474976710656 then match Lib.parseIntB 64 s with
  | .ok v=>some (.tup [.int .i64 v,.nili],H)
  | .range=>match H.stale,H.get gr with
   | [],some (.row _ 1 true [.ifc t v])=>some (.tup [.int .i64 (Lib.intSat 64 s),.ifc tn (.ptr H.next 0)],H.bump)
   | _,_=>none
  | _=>none
  else none
 | _,_=>none
def Zg7:List V->Option (List (List UInt8))
 | []=>some []
 | .str s :: r=>match Zg7 r with | some l=>some (s :: l) | none=>none
 | _=>none
def joinE:List V->Hp->Option (V×Hp)
 | [.nils,.str sep],H=>some (.str [],H)
 | [.sle,.str sep],H=>some (.str [],H)
 | [.sl b o n c 1,.str sep],H=>match H.stale,H.get b with
  | [],some (.row _ 1 _ cs)=>if o+n<=cs.length/\n<=140737488355328 then match Zg7 ((cs.drop o).take n) with
   | some l=>if (Lib.join l sep).length<=140737488355328 then some (.str (Lib.join l sep),H) else none
   | none=>none else none
  | _,_=>none
 | _,_=>none
def repE:List V->Hp->Option (V×Hp)
 | [.str s,.int .i64 n],H=>if 0<=n/\n<=9223372036854775807/\s.length*n.toNat<=140737488355328 then some (.str (Lib.repeatL s n.toNat),H) else none
 | _,_=>none
theorem Zuv {xs:List V} {H H' : Hp} {v:V} (h:fmtE xs H=some (v,H')) (hG:Good H):Grow H H':=by
 unfold fmtE at h
 split at h
 ·split at h
  ·cases h;exact Grow.refl hG
  ·cases h
 ·cases h
theorem Zpj {xs:List V} {H H' : Hp} {v:V} (h:itoaE xs H=some (v,H')) (hG:Good H):Grow H H':=by
 unfold itoaE at h
 split at h
 ·split at h
  ·cases h;exact Grow.refl hG
  ·cases h
 ·cases h
theorem Zso {xs:List V} {H H' : Hp} {v:V} (h:repE xs H=some (v,H')) (hG:Good H):Grow H H':=by
 unfold repE at h
 split at h
 ·split at h
  ·cases h;exact Grow.refl hG
  ·cases h
 ·cases h
theorem Zqb {xs:List V} {H H' : Hp} {v:V} (h:joinE xs H=some (v,H')) (hG:Good H):Grow H H':=by
 unfold joinE at h
 split at h
 ·cases h;exact Grow.refl hG
 ·cases h;exact Grow.refl hG
 ·split at h
  ·split at h
   ·split at h
    ·split at h
     ·cases h;exact Grow.refl hG
     ·cases h
    ·cases h
   ·cases h
  ·cases h
 ·cases h
theorem Zva {gr tn:Nat} {xs:List V} {H H' : Hp} {v:V} (h:piE gr tn xs H=some (v,H')) (hG:Good H):Grow H H':=by
 unfold piE at h
 split at h
 ·split at h
  ·split at h
   ·cases h;exact Grow.refl hG
   ·split at h
    ·cases h;exact hG.bump
    ·cases h
   ·cases h
  ·cases h
 ·cases h
theorem Zh2:∀ {cs:List V} {l:List (List UInt8)},Zg7 cs=some l->l.length=cs.length/\∀ (j:Nat) x,l[j]? = some x->cs[j]? = some (.str x)
 | [],l,h=>by cases h;exact ⟨rfl,fun j x hx=>by simp at hx⟩
 | c :: cs,l,h=>by
  unfold Zg7 at h
  split at h
  ·rename_i heq;cases heq
  ·rename_i s r heq
   cases heq
   split at h
   ·rename_i l' hl
    cases h
    obtain ⟨h1,h2⟩:=Zh2 hl
    refine ⟨by simp [h1],fun j x hx=>?_⟩
    cases j with
    | zero=>simpa using hx
    | succ j=>simpa using h2 j x (by simpa using hx)
   ·cases h
  ·cases h
end Go.AM
namespace Go.AM
open Go Go.RowKit Go.ChangeShapes Go.WideShapes Go.ChangeMaps
theorem Zlb {P:Program} {W:World}:∀ {l:List (String×DataW Unit)},laidMet P l W->∀ x∈l,∃ g t C f p,P.globalNamed x.1=some g/\(P.globals[g]?).map (·.type)=some t/\W.var? P x.1=some C/\DataW.trod (fun _=>()) P W 0 (fun _=>true) false f t C.toList=some (x.2,p)
 | [],h,x,hx=>by cases hx
 | (n,d) :: r,h,x,hx=>by
  rcases List.mem_cons.1 hx with rfl | hx
  ·obtain ⟨ps,⟨g0,t0,cs0,f0,p0,q0,hg0,ht0,hv0,hd0,_,_⟩,_⟩:=h
   exact ⟨g0,t0,cs0,f0,p0,hg0,ht0,hv0,hd0⟩
  ·exact Zlb h.tail x hx
theorem Zi3 {P:Program} {W:World} {l:List (String×DataW Unit)} {n:String} {d:DataW Unit} {g:Nat} {t:TypeId} {k:Nat} (h:laidMet P l W) (hx:l[k]? = some (n,d)) (hg:P.globalNamed n=some g) (ht:(P.globals[g]?).map (·.type)=some t) :
  ∃ C ty fz f p,W.heap[g]? = some (.cells C ty fz)/\DataW.trod (fun _=>()) P W 0 (fun _=>true) false f t C.toList=some (d,p):=by
 obtain ⟨g0,t0,C,f,p,h1,h2,h3,h4⟩:=Zlb h _ (List.mem_of_getElem? hx)
 dsimp only at h1 h3 h4
 obtain rfl:=Option.some.inj (hg.symm.trans h1)
 obtain rfl:=Option.some.inj (ht.symm.trans h2)
 simp only [World.var?,hg,Option.bind_some] at h3
 split at h3
 ·rename_i hh;cases h3;exact ⟨_,_,_,f,p,hh,h4⟩
 ·cases h3
theorem one_at {cs:List Value} {i:Nat} {x:Value} (h:(cs.drop i).take 1=[x]):cs[i]? = some x:=by
 have:=congrArg (·[0]?) h
 simpa [List.getElem?_take,List.getElem?_drop] using this
section
variable {H:Type} {enc:TypeId×Value->H} {P:Program} {W:World} {base:Nat} {sp:Nat->Bool} {held:Bool} {f:Nat} {t e:TypeId} {cs:List Value}
theorem Zgq {n:Nat} {ds:List (DataW H)} {p:List MemPlace} (ht:P.underlying t=some (.array n e)) (h:DataW.trod enc P W base sp held f t cs=some (.agg ds,p)) :
  cs.length=P.cellsOf t/\ds.length=n/\∀ i d,ds[i]? = some d->∃ m q,DataW.trod enc P W base sp held m e ((cs.drop (i*P.cellsOf e)).take (P.cellsOf e))=some (d,q):=by
 obtain ⟨xs,m,_,hx,hl,hn,hi⟩:=DataW.trod_array ht h
 simp only [Prod.mk.injEq,DataW.agg.injEq] at hx
 obtain ⟨rfl,_⟩:=hx
 refine ⟨hl,by simpa using hn,fun i d hd=>?_⟩
 rw [List.getElem?_map,Option.map_eq_some_iff] at hd
 obtain ⟨⟨d',q⟩,h1,rfl⟩:=hd
 have hin:i < n:=by rw [<- hn];exact (List.getElem?_eq_some_iff.1 h1).1
 exact ⟨m,q,by rw [hi i hin,h1]⟩
theorem Zw8 {n:Nat} {l:List (List UInt8)} {p:List MemPlace} (ht:P.underlying t=some (.array n e)) (he:P.underlying e=some .string) (hce:P.cellsOf e=1)
  (h:DataW.trod enc P W base sp held f t cs=some (.agg (l.map fun s=>.lit (.string s)),p)):cs.length=P.cellsOf t/\∀ (i:Nat) s,l[i]? = some s->cs[i]? = some (.string ⟨s.toArray⟩):=by
 obtain ⟨h1,h2,h3⟩:=Zgq ht h
 refine ⟨h1,fun i s hi=>?_⟩
 obtain ⟨m,q,hm⟩:=h3 i (.lit (.string s)) (by rw [List.getElem?_map,hi];rfl)
 rw [hce,Nat.mul_one] at hm
 obtain ⟨s',e1,e2,_⟩:=DataW.trod_string he hm
 simp only [Prod.mk.injEq,DataW.lit.injEq,Lit.string.injEq] at e2
 rw [one_at e1,<- show s'.data.toList=s from e2.1.symm]
theorem Zrc {n:Nat} {k:IntKind} {f0 f1:Field} {l:List (List UInt8×Int)} {p:List MemPlace} (ht:P.underlying t=some (.array n e)) (he:P.underlying e=some (.struct #[f0,f1])) (hce:P.cellsOf e=2) (h0:P.underlying f0.type=some .string) (c0:P.cellsOf f0.type=1) (o0:f0.offset=0)
  (h1:P.underlying f1.type=some (.int k)) (c1:P.cellsOf f1.type=1) (o1:f1.offset=1) (h:DataW.trod enc P W base sp held f t cs=some (.agg (l.map fun s=>.agg [.lit (.string s.1),.lit (.int k s.2)]),p)) :
  cs.length=P.cellsOf t/\∀ (i:Nat) s,l[i]? = some s->cs[2*i]? = some (.string ⟨s.1.toArray⟩)/\cs[2*i+1]? = some (.int k s.2):=by
 obtain ⟨g1,g2,g3⟩:=Zgq ht h
 refine ⟨g1,fun i s hi=>?_⟩
 obtain ⟨m,q,hm⟩:=g3 i (.agg [.lit (.string s.1),.lit (.int k s.2)]) (by rw [List.getElem?_map,hi];rfl)
 rw [hce] at hm
 obtain ⟨xs,n',_,hx,hl,hn,hf⟩:=DataW.trod_struct he hm
 simp only [Prod.mk.injEq,DataW.agg.injEq] at hx
 obtain ⟨hx,_⟩:=hx
 have a0:=hf 0 f0 rfl
 have a1:=hf 1 f1 rfl
 rw [o0,c0,List.drop_zero] at a0
 rw [o1,c1] at a1
 match xs,hx with
 | [x0,x1],hx =>
  simp only [List.map_cons,List.map_nil,List.cons.injEq,and_true] at hx
  obtain ⟨s',e1,e2,_⟩:=DataW.trod_string h0 (show DataW.trod enc P W base sp held n' f0.type _=some x0 from a0)
  obtain ⟨z,e3,e4,_⟩:=DataW.trod_int h1 (show DataW.trod enc P W base sp held n' f1.type _=some x1 from a1)
  subst e2 e4
  simp only [DataW.lit.injEq,Lit.string.injEq,Lit.int.injEq,true_and] at hx
  obtain ⟨hx0,hx1⟩:=hx
  refine ⟨?_,?_⟩
  ·rw [hx0]
   have:=congrArg (·[0]?) e1
   simp [List.getElem?_take,List.getElem?_drop] at this
   rw [Nat.mul_comm];exact this
  ·rw [hx1]
   have:=congrArg (·[0]?) e3
   simp [List.getElem?_take,List.getElem?_drop] at this
   rw [Nat.mul_comm];exact this
end
abbrev Ent:=List UInt8×Int×Nat
def Ent.en (k:IntKind) (x:Ent):MapEntry:={ key:=.string ⟨x.1.toArray⟩,val:=.int k x.2.1,born:=x.2.2 }
def Ent.es (k:IntKind) (x:Ent):V×V×Nat:=(.str x.1,.int k x.2.1,x.2.2)
theorem Zfe (D:Nat->Prop) (s:Sg) (k:IntKind):∀ L:List Ent,EsOk D s (L.map (Ent.es k)) (L.map (Ent.en k))
 | []=>.nil
 | x :: r=>.cons _ _ _ _ _ _ _ (.str _) (.int _ _) (Zfe D s k r)
theorem Zgr {H:Type} {enc:TypeId×Value->H} {P:Program} {W:World} {base:Nat} {sp:Nat->Bool} {held:Bool} {f:Nat} {t k e:TypeId} {kd:IntKind} {cs:List Value} {D:List (List UInt8×Int)} {p:List MemPlace} (ht:P.underlying t=some (.map k e)) (hk:P.underlying k=some .string) (he:P.underlying e=some (.int kd))
  (h:DataW.trod enc P W base sp held f t cs=some (.map (D.map fun x=>(.string x.1,.lit (.int kd x.2))),p)) :
  ∃ b clock,∃ ents:Array MapEntry,∃ L:List Ent,cs=[.map (some b)]/\W.heap[b]? = some (.map ents clock)/\ents.toList=L.map (Ent.en kd)/\(L.map fun x=>(x.1,x.2.1)).Perm D:=by
 rcases open_map ht hk he h with ⟨_,hx⟩ | ⟨b,es,clock,hcs,hb,_,F,hx⟩
 ·simp at hx
 ·simp only [Prod.mk.injEq,DataW.map.injEq] at hx
  obtain ⟨hx,_⟩:=hx
  have hp:=(sorted_perm (es.toList.map (rg H P k kd))).symm
  rw [<- hx] at hp
  let g:MapEntry->Ent:=fun x=>((match x.key with | .string s=>s.data.toList | _=>[]),(match x.val with | .int _ v=>v | _=>0),x.born)
  have hg:∀ x∈es.toList,Ent.en kd (g x)=x/\rg H P k kd x=(.string (g x).1,.lit (.int kd (g x).2.1)):=fun x hxm=>by
   obtain ⟨y,hy⟩:=F.reads x hxm
   obtain ⟨s,h1,h2,h3⟩:=rd_some hk hy
   have hy':=hy
   unfold rd at hy
   simp only [Option.bind_eq_some_iff,Option.map_eq_some_iff] at hy
   obtain ⟨key,h4,d,h5,rfl⟩:=hy
   obtain ⟨xk,xv,xb⟩:=x
   dsimp only at h1 h2 h3 h4 h5
   subst h1
   cases xv<;>simp only [rdv] at h5<;>try cases h5
   rename_i k' n
   split at h5
   ·rename_i hh
    obtain ⟨rfl,hw⟩:=hh
    cases h5
    refine ⟨by simp [g,Ent.en],?_⟩
    rw [rg_of hy',h2]
   ·cases h5
  refine ⟨b,clock,es,es.toList.map g,hcs,hb,?_,?_⟩
  ·rw [List.map_map]
   conv=>lhs;rw [<- List.map_id es.toList]
   exact List.map_congr_left fun x hxm=>((hg x hxm).1).symm
  ·have h2:es.toList.map (rg H P k kd)=es.toList.map fun x=>((.string (g x).1:Lit),(DataW.lit (.int kd (g x).2.1):DataW H)):=List.map_congr_left fun x hxm=>(hg x hxm).2
   rw [h2] at hp
   let back:Lit×DataW H->List UInt8×Int:=fun y=>((match y.1 with | .string s=>s | _=>[]),(match y.2 with | .lit (.int _ v)=>v | _=>0))
   have hq:=(hp.map back).symm
   simp only [List.map_map] at hq ⊢
   have e1:D.map (back ∘ fun x=>((.string x.1:Lit),(DataW.lit (.int kd x.2):DataW H)))=D:=by
    conv=>rhs;rw [<- List.map_id D]
    exact List.map_congr_left fun x _=>rfl
   rw [e1] at hq
   exact hq.symm
theorem Ya6 {α:Type} {x y z a b c:α} (h:[x,y,z].Perm [a,b,c]):x=a/\y=b/\z=c\/x=a/\y=c/\z=b\/x=b/\y=a/\z=c\/x=b/\y=c/\z=a\/x=c/\y=a/\z=b\/x=c/\y=b/\z=a:=by
 have two:∀ {y z b c:α},[y,z].Perm [b,c]->y=b/\z=c\/y=c/\z=b:=fun {y z b c} h=>by
  have hm:y∈[b,c]:=h.subset (by simp)
  simp only [List.mem_cons,List.not_mem_nil,or_false] at hm
  rcases hm with rfl | rfl
  ·exact .inl ⟨rfl,by simpa using (List.perm_cons _).1 h⟩
  ·exact .inr ⟨rfl,by simpa using (List.perm_cons _).1 (h.trans (List.Perm.swap _ _ _))⟩
 have hm:x∈[a,b,c]:=h.subset (by simp)
 simp only [List.mem_cons,List.not_mem_nil,or_false] at hm
 rcases hm with rfl | rfl | rfl
 ·rcases two ((List.perm_cons _).1 h) with ⟨rfl,rfl⟩ | ⟨rfl,rfl⟩<;>simp
 ·rcases two ((List.perm_cons _).1 (h.trans (List.Perm.swap _ _ _))) with ⟨rfl,rfl⟩ | ⟨rfl,rfl⟩<;>simp
 ·have h1:[x,y,z].Perm [x,a,b]:=h.trans (((List.Perm.swap _ _ _).cons a).trans (List.Perm.swap _ _ _))
  rcases two ((List.perm_cons _).1 h1) with ⟨rfl,rfl⟩ | ⟨rfl,rfl⟩<;>simp
theorem Z9h {α:Type} {y z b c:α} (h:[y,z].Perm [b,c]):y=b/\z=c\/y=c/\z=b:=by
 have hm:y∈[b,c]:=h.subset (by simp)
 simp only [List.mem_cons,List.not_mem_nil,or_false] at hm
 rcases hm with rfl | rfl
 ·exact .inl ⟨rfl,by simpa using (List.perm_cons _).1 h⟩
 ·exact .inr ⟨rfl,by simpa using (List.perm_cons _).1 (h.trans (List.Perm.swap _ _ _))⟩
section
variable {D:Nat->Prop} {s:Sg} {W:World} {e:TypeId} {L:List V}
theorem Zdq {g n:Nat} {C:Array Value} {t:TypeId} {fz:Nat×Nat} (h:W.heap[g]? = some (.cells C t fz)) (hz:n<=C.size) (hl:L.length<=n) (ho:L.all oneV=true) (hv:∀ (i:Nat) v,L[i]? = some v->∃ x,C[i]? = some x/\Rv D s v x) :
  RowAt D s W.heap.size W ⟨g,0,n,1⟩ e 1 true L :=
 ⟨⟨C,t,fz,h,by simpa using hz,fun i v hi=>by simpa using hv i v hi,fun h=>by cases h⟩,rfl,by simpa using hl,ho,fun h=>by cases h⟩
theorem Zqt {b off n z:Nat} (hn:0 < n*z) (hc:∀ i,i < n*z->∃ x,W.cell? ⟨b,off+i,none⟩=some x) (hl:L.length<=n*z) (ho:L.all oneV=true) (hv:∀ (i:Nat) v,L[i]? = some v->∃ x,W.cell? ⟨b,off+i,none⟩=some x/\Rv D s v x) :
  RowAt D s W.heap.size W ⟨b,off,n,z⟩ e z true L:=by
 have hcell:∀ i x,W.cell? ⟨b,i,none⟩=some x->∃ C et fz,W.heap[b]? = some (.cells C et fz)/\C[i]? = some x:=fun i x h=>by
  unfold World.cell? at h
  dsimp only at h
  split at h
  ·rename_i C et fz hw
   exact ⟨C,et,fz,hw,by simpa using h⟩
  ·cases h
 obtain ⟨x0,hx0⟩:=hc 0 hn
 obtain ⟨C,et,fz,hw,_⟩:=hcell _ _ hx0
 have hcell' : ∀ i x,W.cell? ⟨b,i,none⟩=some x->C[i]? = some x:=fun i x h=>by
  obtain ⟨C',et',fz',hw',h'⟩:=hcell i x h
  rw [hw] at hw';cases hw'
  exact h'
 refine ⟨⟨C,et,fz,hw,?_,fun i v hi=>?_,fun h=>by cases h⟩,rfl,hl,ho,fun h=>by cases h⟩
 ·obtain ⟨xl,hxl⟩:=hc (n*z-1) (by omega)
  have:=(Array.getElem?_eq_some_iff.1 (hcell' _ _ hxl)).1
  show off+n*z<=C.size
  omega
 ·obtain ⟨x,h1,h2⟩:=hv i v hi
  exact ⟨x,hcell' _ _ h1,h2⟩
end
theorem Zv8 {H:Type} {enc:TypeId×Value->H} {P:Program} {W:World} {base:Nat} {held:Bool} {f c:Nat} {t e:TypeId} {v:Value} {x:DataW H×List MemPlace} (ht:P.underlying t=some (.slice e)) (hc:P.cellsOf e=c) (h0:0 < c) (h:DataW.trod enc P W base (fun _=>true) held f t [v]=some x) :
  v = .slice none 0 0\/(∃ a cap,v = .slice (some a) 0 cap)\/∃ b off len cap,v = .slice (some ⟨b,off,none⟩) len cap/\0 < len/\len<=cap/\(∀ i,i < cap*c->∃ y,W.cell? ⟨b,off+i,none⟩=some y) /\
   ∀ i,i < len->∃ cs m y,cs.length=c/\(∀ j,j < c->W.cell? ⟨b,off+(i*c+j),none⟩=cs[j]?)/\DataW.trod enc P W base (fun _=>true) held m e cs=some y:=by
 rcases DataW.trod_slice ht h with ⟨hcs,_⟩ | ⟨a,len,cap,elems,rest,n,_,hcs,hx,_,hlc,_,hlen,hel,hsp,_⟩
 ·exact .inl (by simpa using hcs)
 ·simp only [List.cons.injEq,and_true] at hcs
  subst hcs
  by_cases hl:len=0
  ·subst hl;exact .inr (.inl ⟨a,cap,rfl⟩)
  ·obtain ⟨hrl,hre⟩:=hsp rfl
   have key:∀ (i:Nat) (o:Option (DataW H×List MemPlace)),(W.cells? base (a.add (i*P.cellsOf e)) (P.cellsOf e)).bind (DataW.trod enc P W base (fun _=>true) held n e)=o->o.isSome=true->∃ cs y,cs.length=c/\(∀ j,j < c->W.cell? ((a.add (i*c)).add j)=cs[j]?)/\DataW.trod enc P W base (fun _=>true) held n e cs=some y:=fun i o ho hs=>by
    obtain ⟨y,hy⟩:=Option.isSome_iff_exists.1 hs
    rw [hy,Option.bind_eq_some_iff] at ho
    obtain ⟨cs,h1,h2⟩:=ho
    obtain ⟨_,h3,h4⟩:=World.cells?_some h1
    rw [hc] at h3 h4 h1
    exact ⟨cs,y,h3,h4,h2⟩
   have kel:∀ i,i < len->∃ cs y,cs.length=c/\(∀ j,j < c->W.cell? ((a.add (i*c)).add j)=cs[j]?)/\DataW.trod enc P W base (fun _=>true) held n e cs=some y:=fun i hi =>
    key i _ (hel i hi) (by rw [List.getElem?_eq_getElem (by omega)];rfl)
   have kre:∀ i,len<=i->i < cap->∃ cs y,cs.length=c/\(∀ j,j < c->W.cell? ((a.add (i*c)).add j)=cs[j]?)/\DataW.trod enc P W base (fun _=>true) held n e cs=some y:=fun i h1 h2=>by
    have:=hre (i-len) (by omega)
    rw [show len+(i-len)=i by omega] at this
    exact key i _ this (by rw [List.getElem?_eq_getElem (by omega)];rfl)
   obtain ⟨b,off,spot⟩:=a
   have hspot:spot=none:=by
    obtain ⟨cs,y,h1,h2,_⟩:=kel 0 (by omega)
    have h3:=h2 0 h0
    rw [List.getElem?_eq_getElem (by omega)] at h3
    simpa [Addr.add] using World.cell?_spot h3
   subst hspot
   have kall:∀ i,i < cap->∃ cs y,cs.length=c/\(∀ j,j < c->W.cell? (((⟨b,off,none⟩:Addr).add (i*c)).add j)=cs[j]?)/\DataW.trod enc P W base (fun _=>true) held n e cs=some y:=fun i hi=>by
    by_cases h1:i < len
    ·exact kel i h1
    ·exact kre i (by omega) hi
   refine .inr (.inr ⟨b,off,len,cap,rfl,by omega,hlc,fun i hi=>?_,fun i hi=>?_⟩)
   ·have hq:i / c < cap:=Nat.div_lt_of_lt_mul (by rw [Nat.mul_comm];exact hi)
    obtain ⟨cs,y,h1,h2,_⟩:=kall (i / c) hq
    have hm:i % c < c:=Nat.mod_lt _ h0
    have h3:=h2 (i % c) hm
    rw [add_plain,add_plain,List.getElem?_eq_getElem (by omega)] at h3
    have e1:off+i / c*c+i % c=off+i:=by have:=Nat.div_add_mod' i c;omega
    rw [e1] at h3
    exact ⟨_,h3⟩
   ·obtain ⟨cs,y,h1,h2,h3⟩:=kall i (by omega)
    refine ⟨cs,n,y,h1,fun j hj=>?_,h3⟩
    have:=h2 j hj
    rwa [add_plain,add_plain,show off+i*c+j=off+(i*c+j) by omega] at this
end Go.AM
