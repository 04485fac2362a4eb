/- Parts of the abstract machine and of the walks over it, joined: what the law that is claimed here leans on. -/
import Derived.Test.YtiolgkhfpnidfaaAmC1
import Derived.Calls
import Derived.Scope
import Derived.Defers
import Derived.Tactics
import Derived.Orders
set_option linter.unusedVariables false
set_option linter.unusedSimpArgs false
namespace Go.AM
open Go
structure Good (H:Hp):Prop where
 top:∀ b,H.next<=b->H.get b=none
 st:∀ x,x∈H.stale->x < H.next
def Live (H:Hp) (b:Nat):Prop:=∃ o,H.get b=some o/\o≠.dead
structure Grow (H H' : Hp):Prop where
 le:H.next<=H'.next
 good:Good H'
 live:∀ b,b < H.next->Live H' b->Live H b
theorem Good.lt {H:Hp} (h:Good H) {b:Nat} {o:Ob} (hg:H.get b=some o):b < H.next:=by
 rcases Nat.lt_or_ge b H.next with h' | h'
 ·exact h'
 ·rw [h.top b h'] at hg;cases hg
theorem Good.put {H:Hp} (h:Good H) {b:Nat} {o o' : Ob} (hg:H.get b=some o) (hd:o≠.dead:=by simp):Grow H (H.put b o'):=by
 refine ⟨Nat.le_refl _,⟨fun c hc=>?_,h.st⟩,fun c _ hl=>?_⟩
 ·have:=h.lt hg
  rw [Hp.get_put,if_neg (by have:H.next<=c:=hc;omega)]
  exact h.top c hc
 ·obtain ⟨u,h1,h2⟩:=hl
  rw [Hp.get_put] at h1
  split at h1
  ·rename_i e;subst e;exact ⟨o,hg,hd⟩
  ·exact ⟨u,h1,h2⟩
theorem Good.new {H:Hp} (h:Good H) (o:Ob):Grow H (H.new o):=by
 refine ⟨Nat.le_succ _,⟨fun c hc=>?_,fun x hx=>Nat.lt_succ_of_lt (h.st x hx)⟩,fun c hc hl=>by obtain ⟨u,h1,h2⟩:=hl;rw [Hp.get_new,if_neg (by omega)] at h1;exact ⟨u,h1,h2⟩⟩
 have hc:H.next+1<=c:=hc
 rw [Hp.get_new,if_neg (by omega)]
 exact h.top c (by omega)
theorem Good.flush {H:Hp} (h:Good H):Grow H H.flush:=by
 refine ⟨by rw [Hp.next_flush];exact Nat.le_refl _,⟨fun c hc=>?_,fun x hx=>by rw [Hp.stale_flush] at hx;cases hx⟩,fun c hc hl=>by
  obtain ⟨u,h1,h2⟩:=hl
  rw [Hp.get_flush] at h1
  split at h1
  ·cases h1;exact absurd rfl h2
  ·exact ⟨u,h1,h2⟩⟩
 rw [Hp.next_flush] at hc
 rw [Hp.get_flush,if_neg (fun hs=>absurd (h.st c hs) (by omega))]
 exact h.top c hc
theorem Good.bump {H:Hp} (h:Good H):Grow H H.bump:=⟨Nat.le_succ _,⟨fun c hc=>h.top c (Nat.le_of_succ_le hc),fun x hx=>Nat.lt_succ_of_lt (h.st x hx)⟩,fun _ _ h=>h⟩
theorem Grow.refl {H:Hp} (h:Good H):Grow H H:=⟨Nat.le_refl _,h,fun _ _ h=>h⟩
theorem Grow.trans {H H' H'' : Hp} (h:Grow H H') (h' : Grow H' H''):Grow H H'':=⟨Nat.le_trans h.le h'.le,h'.good,fun b hb hl=>h.live b hb (h'.live b (Nat.lt_of_lt_of_le hb h.le) hl)⟩
theorem Grow.bump {H H' : Hp} (h:Grow H H'):Grow H H'.bump:=h.trans h.good.bump
theorem Good.after {H:Hp} (h:Good H) {ob:Option Ob} {kb:Option Nat} (hk:∀ b,kb=some b->ob.isSome=true->∃ o,H.get b=some o):Grow H (afterA H ob kb):=by
 cases ob with
 | none=>exact .refl h
 | some ob =>
  cases kb with
  | none=>exact h.new ob
  | some b =>
   obtain ⟨o,ho⟩:=hk b rfl rfl
   obtain ⟨h1,h2,h3⟩:=h.new ob
   refine ⟨h1,⟨h2.top,fun x hx=>?_⟩,h3⟩
   have hx:x∈b :: H.stale:=hx
   simp only [List.mem_cons] at hx
   rcases hx with rfl | hx
   ·exact Nat.lt_succ_of_lt (h.lt ho)
   ·exact Nat.lt_succ_of_lt (h.st x hx)
theorem evA_kb {T:Tab} {o:Op} {F:Fr} {g:Nat->Option Ob} {id b:Nat} {v:V} {ob:Option Ob} (h:evA T o F g id=some (v,ob,some b)):∃ o,g b=some o:=by
 unfold evA at h
 repeat' (split at h)
 all_goals first
  | (cases h;done)
  | (cases h;exact ⟨_,by assumption⟩)
theorem evA_good {T:Tab} {o:Op} {F:Fr} {H:Hp} {v:V} {ob:Option Ob} {kb:Option Nat} (hG:Good H) (h:evA T o F H.get H.next=some (v,ob,kb)):Grow H (afterA H ob kb) :=
 hG.after (fun b e _=>by subst e;exact evA_kb h)
theorem evW_good {T:Tab} {o:Op} {F:Fr} {H H' : Hp} {v:Option V} (hG:Good H) (h:evW T o F H=some (v,H')):Grow H H':=by
 unfold evW at h
 repeat' (split at h)
 all_goals first
  | (cases h;done)
  | (dsimp only at h;split at h<;>first | (cases h;done) | (cases h;exact .refl hG) | (cases h;exact hG.put (by assumption)))
  | (cases h;exact .refl hG)
  | (cases h;exact hG.new _)
  | (cases h;exact hG.put (by assumption))
theorem evAW_good {T:Tab} {o:Op} {F:Fr} {H H' : Hp} {v:V} (hG:Good H) (h:evAW T o F H=some (v,H')):Grow H H':=by
 unfold evAW at h
 repeat' (split at h)
 all_goals first
  | (cases h;done)
  | (cases h;exact hG.put (by assumption))
  | (cases h;refine (hG.put (by assumption)).trans (evA_good (hG.put (by assumption)).good (by assumption)))
theorem evOp_good {T:Tab} {o:Op} {F:Fr} {H:Hp} {r:Res} (hG:Good H) (h:evOp T o F H=some r):(match r with | .val _ H'=>Grow H H' | .skip H'=>Grow H H' | .enter _ _ H'=>Grow H H'):=by
 unfold evOp at h
 split at h
 ·split at h<;>cases h;exact .refl hG
 ·split at h<;>cases h;exact .refl hG
 ·split at h
  ·split at h<;>cases h
   exact evA_good hG (by assumption)
  ·split at h<;>cases h
   exact hG.flush.trans (evAW_good hG.flush.good (by assumption))
 ·split at h<;>cases h
  ·exact hG.flush.trans (evW_good hG.flush.good (by assumption))
  ·exact hG.flush.trans (evW_good hG.flush.good (by assumption))
 ·split at h
  ·split at h
   ·split at h<;>cases h
    exact hG.flush
   ·cases h
  ·cases h
 ·cases h
theorem evOp_val {T:Tab} {o:Op} {F:Fr} {H H' : Hp} {v:V} (hG:Good H) (h:evOp T o F H=some (.val v H')):Grow H H':=evOp_good hG h
theorem evOp_skp {T:Tab} {o:Op} {F:Fr} {H H' : Hp} (hG:Good H) (h:evOp T o F H=some (.skip H')):Grow H H':=evOp_good hG h
theorem evOp_ent {T:Tab} {o:Op} {F:Fr} {H H' : Hp} {f:FuncId} {xs:List V} (hG:Good H) (h:evOp T o F H=some (.enter f xs H')):Grow H H':=evOp_good hG h
def CallGood (call:CallE):Prop:=∀ f xs H v H',call f xs H=some (v,H')->Good H->Grow H H'
theorem evOps_good {T:Tab} {call:CallE} (hc:CallGood call) {ops:Array Oper}:∀ (l:List Oper) {F F' : Fr} {H H' : Hp},Good H->evOps T call ops l F H=some (F',H')->Grow H H'
 | [],_,_,_,_,hG,h=>by simp only [evOps] at h;cases h;exact hG.flush
 | o :: r,F,F',H,H',hG,h=>by
  simp only [evOps] at h
  split at h
  ·split at h
   ·rename_i v H1 h1
    have g1:=evOp_val hG h1
    exact g1.trans (evOps_good hc r g1.good h)
   ·rename_i H1 h1
    have g1:=evOp_skp hG h1
    exact g1.trans (evOps_good hc r g1.good h)
   ·rename_i f xs H1 h1
    have g1:=evOp_ent hG h1
    split at h
    ·have g2:=hc _ _ _ _ _ (by assumption) g1.good
     exact (g1.trans g2).trans (evOps_good hc r g2.good h)
    ·cases h
   ·split at h
    ·exact evOps_good hc r hG h
    ·cases h
  ·exact evOps_good hc r hG h
  ·cases h
theorem evDraw_good {T:Tab} {call:CallE} (hc:CallGood call) {ops:Array Oper}:∀ (l:List (Nat×Nat)) {F F' : Fr} {H H' : Hp} {B:List Hp},Good H->evDraw T call ops l F H B=some (F',H')->Grow H H'
 | [],_,_,_,_,_,hG,h=>by simp only [evDraw] at h;cases h;exact hG.flush
 | (i,n) :: r,F,F',H,H',B,hG,h=>by
  simp only [evDraw] at h
  split at h
  ·cases h
  ·split at h
   ·split at h
    ·rename_i v H1 h1
     have g1:=evOp_val hG h1
     split at h
     ·exact g1.bump.trans (evDraw_good hc r g1.bump.good h)
     ·split at h
      ·exact g1.trans (evDraw_good hc r g1.good h)
      ·cases h
    ·rename_i H1 h1
     have g1:=evOp_skp hG h1
     exact g1.bump.trans (evDraw_good hc r g1.bump.good h)
    ·rename_i f xs H1 h1
     have g1:=evOp_ent hG h1
     split at h
     ·have g2:=hc _ _ _ _ _ (by assumption) g1.good
      exact (g1.trans g2).bump.trans (evDraw_good hc r g2.bump.good h)
     ·cases h
    ·cases h
   ·exact evDraw_good hc r hG h
   ·cases h
theorem loopN_good {body:Fr->Hp->Option (Out×Fr×Hp)} (hb:∀ F H o F' H',body F H=some (o,F',H')->Good H->Grow H H'):∀ (n:Nat) {F F' : Fr} {H H' : Hp} {o:Out},Good H->loopN body n F H=some (o,F',H')->Grow H H'
 | 0,_,_,_,_,_,_,h=>by simp [loopN] at h
 | n+1,F,F',H,H',o,hG,h=>by
  simp only [loopN] at h
  split at h
  ·have g:=hb _ _ _ _ _ (by assumption) hG
   exact g.trans (loopN_good hb n g.good h)
  ·exact hb _ _ _ _ _ h hG
theorem evCode_good {T:Tab} {call:CallE} (hc:CallGood call) {f:FuncId} {n:Nat}:∀ (c:Code) {F F' : Fr} {H H' : Hp} {o:Out},Good H->evCode T call f n c F H=some (o,F',H')->Grow H H'
 | .skip,_,_,_,_,_,hG,h=>by simp only [evCode] at h;cases h;exact .refl hG
 | .label _,_,_,_,_,_,hG,h=>by simp only [evCode] at h;cases h;exact .refl hG
 | .exit _,_,_,_,_,_,hG,h=>by simp only [evCode] at h;cases h;exact .refl hG
 | .ret,_,_,_,_,_,hG,h=>by simp only [evCode] at h;cases h;exact .refl hG
 | .goto _,_,_,_,_,_,hG,h=>by simp [evCode] at h
 | .region id ops false,_,_,_,_,_,hG,h=>by
  simp only [evCode] at h
  split at h
  ·cases h;exact evOps_good hc _ hG (by assumption)
  ·cases h
 | .region id ops true,_,_,_,_,_,hG,h=>by
  simp only [evCode] at h
  split at h
  ·split at h
   ·split at h
    ·cases h;exact evDraw_good hc _ hG (by assumption)
    ·cases h
   ·cases h
  ·cases h
 | .seq a b,_,_,_,_,_,hG,h=>by
  simp only [evCode] at h
  split at h
  ·have g:=evCode_good hc a hG (by assumption)
   exact g.trans (evCode_good hc b g.good h)
  ·exact evCode_good hc a hG h
 | .cond x a b,_,_,_,_,_,hG,h=>by
  simp only [evCode] at h
  split at h
  ·exact evCode_good hc a hG h
  ·exact evCode_good hc b hG h
  ·cases h
 | .block id c,_,_,_,_,_,hG,h=>by
  simp only [evCode] at h
  split at h
  ·split at h<;>cases h<;>exact evCode_good hc c hG (by assumption)
  ·exact evCode_good hc c hG h
 | .scope c,_,_,_,_,_,hG,h=>by simp only [evCode] at h;exact evCode_good hc c hG h
 | .loop c,_,_,_,_,_,hG,h=>by
  simp only [evCode] at h
  exact loopN_good (fun F H o F' H' hb hG=>evCode_good hc c hG hb) n hG h
 | .rangeFunc ..,_,_,_,_,_,hG,h=>by simp [evCode] at h
 | .refuse _,_,_,_,_,_,hG,h=>by simp [evCode] at h
def ExtGood (T:Tab):Prop:=∀ f e,T.ext f=some e->∀ xs H v H',e xs H=some (v,H')->Good H->Grow H H'
theorem evCall_good {T:Tab} (hE:ExtGood T):∀ k,CallGood (evCall T k)
 | 0=>fun f xs H v H' h _=>by simp [evCall] at h
 | k+1=>fun f xs H v H' h hG=>by
  simp only [evCall] at h
  split at h
  ·split at h
   ·split at h
    ·rename_i e he
     exact hE _ _ he _ _ _ _ h hG
    ·split at h
     ·split at h
      ·cases h;exact evCode_good (evCall_good hE k) _ hG (by assumption)
      ·cases h
     ·split at h
      ·cases h;exact evCode_good (evCall_good hE k) _ hG (by assumption)
      ·cases h
     ·cases h
   ·cases h
  ·cases h
end Go.AM
namespace Go.AM
open Go Go.RowKit
section
variable {T:Tab} {P:Program} {D:Nat->Prop} {s:Sg} {n0:Nat} {w0 w w' : World} {H:Hp}
def SK (n0:Nat) (w0:World) (D:Nat->Prop) (s:Sg) (H:Hp) (w:World) (r:Result Next) (H' : Hp):Prop :=
 ∃ s' w',r = .ok .skip w'/\Step n0 w0 D s H w s' H' w'
theorem SV.flush {r:Result Next} {H' : Hp} {v:V} (hS:Sat n0 w0 D s H w) (h:SV P n0 w0 D s H.flush w r H' v):SV P n0 w0 D s H w r H' v:=by
 obtain ⟨x,s',w',g1,g2,g3⟩:=h
 refine ⟨x,s',w',g1,(Step.flush hS).trans (by rw [Hp.next_flush,dn_refl];exact g2),?_⟩
 rw [<- Hp.next_flush];exact g3
theorem SK.flush {r:Result Next} {H' : Hp} (hS:Sat n0 w0 D s H w) (h:SK n0 w0 D s H.flush w r H'):SK n0 w0 D s H w r H':=by
 obtain ⟨s',w',g1,g2⟩:=h
 exact ⟨s',w',g1,(Step.flush hS).trans (by rw [Hp.next_flush,dn_refl];exact g2)⟩
theorem SV.same {H:Hp} {a:Act} {o:Oper} {v:V} (hS:Sat n0 w0 D s H w) (h:Ev P D s a o w v):SV P n0 w0 D s H w ((execOp a.eval o).run P w) H v:=by
 obtain ⟨x,hx,hr⟩:=h
 exact ⟨x,s,w,hx,Step.refl hS,by rw [dn_refl];exact hr⟩
def OpOk (P:Program) (n0:Nat) (w0:World) (D:Nat->Prop) (s:Sg) (H:Hp) (w:World) (r:Result Next):Res->Prop
 | .val v H'=>SV P n0 w0 D s H w r H' v
 | .skip H'=>SK n0 w0 D s H w r H'
 | .enter g vs H'=>H' = H.flush/\∃ xs:Array Value,RvL D s vs xs.toList/\r=(callFunc g xs).run P w
theorem evOp_ok (hT:TabOk T P) {F:Fr} {a:Act} (hg:GlOk T.ng D s) (hF:FrOk D s F a) (hS:Sat n0 w0 D s H w) (hn:n0<=w0.heap.size) (hf:¬ D H.next) (hG:Good H) (o:Oper) {r:Res} (h:evOp T o.op F H=some r) :
  OpOk P n0 w0 D s H w ((execOp a.eval o).run P w) r:=by
 have hst:H.next∉H.stale:=fun hm=>absurd (hG.st _ hm) (Nat.lt_irrefl _)
 have hff:¬ D H.flush.next:=by rw [Hp.next_flush];exact hf
 unfold evOp at h
 split at h
 ·rename_i hk
  split at h<;>cases h
  exact SV.same hS (evP_ok hT hg hF o hk (by assumption) w)
 ·rename_i hk
  split at h<;>cases h
  exact SV.same hS (evR_ok hT hg hF hS o hk (by assumption))
 ·rename_i hk
  split at h
  ·rename_i v ob kb hev
   split at h<;>cases h
   rename_i hkb
   refine evA_ok hT hg hF hS hn hf hst o hk hev (fun b e _ hb=>?_)
   subst e
   simp only [kbOk,Bool.not_eq_true'] at hkb
   rw [List.contains_iff_mem.2 hb] at hkb
   cases hkb
  ·split at h<;>cases h
   exact SV.flush hS (evAW_ok hT hg hF hS.flush hn hff (Hp.stale_flush H) o hk (by assumption))
 ·rename_i hk
  split at h<;>cases h
  ·rename_i hev
   have h2:=evW_ok hT hg hF hS.flush hn hff (Hp.stale_flush H) o hk hev
   exact SV.flush (P:=P) hS h2
  ·rename_i hev
   have h2:=evW_ok hT hg hF hS.flush hn hff (Hp.stale_flush H) o hk hev
   exact SK.flush hS h2
 ·rename_i hk
  obtain ⟨dst,op,type,pos,after,guard⟩:=o
  dsimp only at hk h ⊢
  split at h
  ·rename_i c
   obtain ⟨callee,args,tys⟩:=c
   dsimp only at h
   split at h
   ·rename_i f
    split at h<;>cases h
    rename_i g fs cs vs hfv hxs
    refine ⟨rfl,?_⟩
    have hfv':=opd_ok hg hF hfv
    have hxs':=opds_ok hg hF hxs
    generalize hz:a.eval f=y at hfv'
    cases hfv' with
    | fn _ _ _ xs ys h1 h2 =>
     refine ⟨xs++args.map a.eval++ys,by simpa using (h1.append hxs').append h2,?_⟩
     simp [execOp,resolve,hz,Deferred.ofValue,invoke]
   ·cases h
  ·cases h
 ·cases h
theorem FrOk.mono {F:Fr} {a:Act} {D' : Nat->Prop} {s' : Sg} (h:FrOk D s F a) (hD:∀ b,D b->D' b) (hs:∀ b,D b->s' b=s b):FrOk D' s' F a :=
 fun t v hv=>let ⟨x,h1,h2⟩:=h t v hv;⟨x,h1,h2.mono hD hs⟩
theorem GlOk.mono {ng:Nat} {D' : Nat->Prop} {s' : Sg} (h:GlOk ng D s) (hD:∀ b,D b->D' b) (hs:∀ b,D b->s' b=s b):GlOk ng D' s' :=
 fun g hlt=>let ⟨h1,h2,h3⟩:=h g hlt;⟨hD g h1,by rw [hs g h1];exact h2,by rw [hs g h1];exact h3⟩
theorem put_size (a:Act) (d:Option Tmp) (x:Value):(a.put d x).tmps.size=a.tmps.size:=by cases d<;>simp [Act.put]
theorem put_defers (a:Act) (d:Option Tmp) (x:Value):(a.put d x).defers=a.defers:=by cases d<;>rfl
theorem FrOk.put {F:Fr} {a:Act} (h:FrOk D s F a) {d:Option Tmp} {v:V} {x:Value} (hd:∀ t,d=some t->t < a.tmps.size) (hr:Rv D s v x):FrOk D s (putD F d v) (a.put d x):=by
 cases d with
 | none=>exact h
 | some t =>
  intro t' v' hv'
  simp only [putD,Tr.get_set] at hv'
  split at hv'
  ·rename_i e;subst e;cases hv'
   exact ⟨x,by simp [Act.put,hd t' rfl],hr⟩
  ·rename_i e
   obtain ⟨y,h1,h2⟩:=h t' v' hv'
   exact ⟨y,by simp [Act.put,Array.getElem?_setIfInBounds,Ne.symm e,h1],h2⟩
theorem delD_put (F:Fr) (d:Option Tmp):delD F d=putD F d (.tup []):=by cases d<;>rfl
theorem rv_undef:Rv D s (.tup []) undef:=.tup [] #[] .nil
theorem FrOk.del {F:Fr} {a:Act} (h:FrOk D s F a) {d:Option Tmp} (hd:∀ t,d=some t->t < a.tmps.size):FrOk D s (delD F d) (a.put d undef):=by
 rw [delD_put]
 exact h.put hd rv_undef
theorem gotB_ok {F:Fr} {a:Act} (h:FrOk D s F a) {ops:Array Oper} {j:Nat} {b:Option Bool} (hb:gotB ops F j=some b):yielded ops a.tmps j=b:=by
 unfold gotB at hb
 split at hb
 ·rename_i o ho
  split at hb
  ·rename_i t ht
   split at hb
   ·rename_i b' hv
    cases hb
    obtain ⟨x,h1,h2⟩:=h t _ hv
    cases h2
    simp [yielded,ho,ht,h1]
   ·rename_i hv
    cases hb
    obtain ⟨x,h1,h2⟩:=h t _ hv
    cases h2
    simp [yielded,ho,ht,h1]
   ·cases hb
  ·cases hb
 ·cases hb
theorem wantedV_ok {F:Fr} {a:Act} (h:FrOk D s F a) {ops:Array Oper} {o:Oper} {b:Bool} (hb:wantedV ops F o.guard=some b):Region.wanted o (yielded ops a.tmps)=b:=by
 unfold wantedV at hb
 split at hb
 ·rename_i hn;cases hb;simp [Region.wanted,hn]
 ·rename_i j w hn
  split at hb
  ·rename_i b' hg'
   cases hb
   simp only [Region.wanted,hn,gotB_ok h hg']
  ·cases hb
theorem step_bump (hS:Sat n0 w0 D s H w) (hG:Good H) (hf:¬ D H.next):∃ s',Step n0 w0 D s H w s' H.bump w:=by
 have hn:H.get H.next=none:=hG.top _ (Nat.le_refl _)
 have hs:∀ b,D b->upd s H.next ⟨w.heap.size,0,0,0⟩ b=s b:=fun b hb=>upd_ne _ _ (fun e=>hf (e ▸ hb))
 have hD:∀ b o,Dn D H.next H.bump.next b->H.get b=some o->D b:=fun b o hb hg=>by
  rcases hb with hb | hb
  ·exact hb
  ·have:b=H.next:=by have h1:=hb.1;have h2:b < H.next+1:=hb.2;omega
   subst this;rw [hn] at hg;cases hg
 have hO:∀ b,Dn D H.next H.bump.next b->Ow H b->D b:=fun b hb ho=>by
  unfold Ow at ho
  split at ho
  ·exact hD b _ hb (by assumption)
  ·exact hD b _ hb (by assumption)
  ·exact hD b _ hb (by assumption)
  ·cases ho
 have hA:∀ b,Dn D H.next H.bump.next b->Al H b->D b:=fun b hb ho=>by
  unfold Al at ho
  split at ho
  ·exact hD b _ hb (by assumption)
  ·exact hD b _ hb (by assumption)
  ·exact hD b _ hb (by assumption)
  ·cases ho
 have m:∀ b,D b->Dn D H.next H.bump.next b:=fun b hb=>.inl hb
 refine ⟨upd s H.next ⟨w.heap.size,0,0,0⟩,⟨hS.below,fun b e sz ro cs hb hg=>?_,fun b ro es c hb hg=>?_,fun b mm si se la hb hg=>?_,fun b b' h1 h2 h3 h4 h5=>?_,fun x e sz ro cs b e' sz' cs' hx hxs hgx hb ho hgb heq=>?_⟩,hs,Nat.le_succ _,Nat.le_refl _,fun _ _ _=>rfl,fun b h1 h2=>?_,fun b _ ho=>ho⟩
 ·have hd:=hD b _ hb hg
  rw [hs b hd]
  exact (hS.row b e sz ro cs hd hg).keep m hs rfl
 ·have hd:=hD b _ hb hg
  rw [hs b hd]
  obtain ⟨ents,h1,h2,h3⟩:=hS.map b ro es c hd hg
  exact ⟨ents,h1,h2.mono m hs,h3⟩
 ·have hd:=hD b _ hb hg
  rw [hs b hd]
  obtain ⟨h1,h2,h3,h4⟩:=hS.iter b mm si se la hd hg
  refine ⟨?_,fun m' hm=>.inl (h2 m' hm),h3,h4⟩
  rw [h1]
  cases mm with
  | none=>rfl
  | some mm=>simp only [Option.map_some];rw [hs mm (h2 mm rfl)]
 ·rw [hs b (hO b h1 h4),hs b' (hA b' h2 h5)]
  exact hS.sep b b' (hO b h1 h4) (hA b' h2 h5) h3 h4 h5
 ·have hx':=hD x _ hx hgx
  have hb':=hO b hb ho
  rw [hs b hb',hs x hx'] at heq
  rw [hs b hb',hs x hx']
  exact hS.old x e sz ro cs b e' sz' cs' hx' hxs hgx hb' ho hgb heq
 ·left
  have:b=H.next:=by have h2:b < H.next+1:=h2;omega
  subst this
  rw [upd_self]
  exact Nat.le_refl _
end
end Go.AM
namespace Go.AM
open Go Go.RowKit
def Fresh (D:Nat->Prop) (H H' : Hp):Prop:=∀ b,H.next<=b->b<=H'.next->¬ D b
theorem Fresh.left {D:Nat->Prop} {H H1 H' : Hp} (h:Fresh D H H') (h2:H1.next<=H'.next):Fresh D H H1:=fun b h3 h4=>h b h3 (Nat.le_trans h4 h2)
theorem Fresh.right {D:Nat->Prop} {H H1 H' : Hp} (h:Fresh D H H') (h1:H.next<=H1.next):Fresh (Dn D H.next H1.next) H1 H':=fun b h3 h4 hd=>by
 rcases hd with hd | hd
 ·exact h b (Nat.le_trans h1 h3) h4 hd
 ·exact absurd hd.2 (Nat.not_lt.2 h3)
theorem Fresh.first {D:Nat->Prop} {H H' : Hp} (h:Fresh D H H') (hle:H.next<=H'.next):¬ D H.next:=h _ (Nat.le_refl _) hle
def CallOk (T:Tab) (P:Program) (n0:Nat) (w0:World) (call:CallE):Prop :=
 ∀ f vs H v H',call f vs H=some (v,H')->∀ D s w (xs:Array Value),GlOk T.ng D s->RvL D s vs xs.toList->Sat n0 w0 D s H w->Good H->Fresh D H H' ->
  (∃ fn c,T.fn f=some fn/\fn.body=some c)/\Calls P f xs w fun e w'=>match e with
   | .returned x=>∃ s',Step n0 w0 D s H w s' H' w'/\Rv (Dn D H.next H'.next) s' v x
   | _=>False
structure NT where
 n:Nat
 base:List Deferred
instance:Coe NT Nat:=⟨NT.n⟩
def DQ (T:Tab) (nt:NT) (l:List Deferred):Prop:=∃ l',l=l'++nt.base/\∀ d∈l',∃ g cap,d.target = .fn (.func g) cap/\T.quiet g=true
structure Pre (T:Tab) (n0:Nat) (w0:World) (nt:NT) (D:Nat->Prop) (s:Sg) (F:Fr) (H:Hp) (a:Act) (w:World):Prop where
 gl:GlOk T.ng D s
 fr:FrOk D s F a
 sat:Sat n0 w0 D s H w
 good:Good H
 size:nt<=a.tmps.size
 defers:DQ T nt a.defers
def Post (T:Tab) (n0:Nat) (w0:World) (nt:NT) (D:Nat->Prop) (s:Sg) (H:Hp) (w:World) (F' : Fr) (H' : Hp) (a' : Act) (w' : World):Prop :=
 ∃ s',Step n0 w0 D s H w s' H' w'/\FrOk (Dn D H.next H'.next) s' F' a'/\nt<=a'.tmps.size/\DQ T nt a'.defers
def ExtOk (T:Tab) (P:Program):Prop :=
 ∀ f e,T.ext f=some e->∀ n0 w0,T.init n0 w0->n0<=w0.heap.size->∀ vs H v H',e vs H=some (v,H')->∀ D s w (xs:Array Value),GlOk T.ng D s->RvL D s vs xs.toList->Sat n0 w0 D s H w->Good H->Fresh D H H' ->
  Calls P f xs w fun e w'=>match e with
   | .returned x=>∃ s',Step n0 w0 D s H w s' H' w'/\Rv (Dn D H.next H'.next) s' v x
   | _=>False
def QuietOk (T:Tab) (P:Program):Prop :=
 ∀ g,T.quiet g=true->(∀ args w,(callFunc g args).run P w = .ok (.enter g args) w)/\∀ args w,CallsD P g args .returning w fun e u w'=>(∃ v,e = .returned v)/\u = .returning/\w' = w
structure MachOk (T:Tab) (P:Program):Prop where
 ext:ExtOk T P
 extg:ExtGood T
 tab:TabOk T P
 name : ∀ f fn, T.fn f = some fn → (fn.name == "runtime.NumGoroutine") = false
 mixed:P.follows .mixedOrders=true
 quiet:QuietOk T P
section
variable {T:Tab} {P:Program} {D:Nat->Prop} {s:Sg} {n0:Nat} {w0 w w' : World} {H:Hp} {nt:NT} {F:Fr} {a:Act}
theorem Pre.next {s' : Sg} {H' : Hp} {F' : Fr} {a' : Act} (h:Pre T n0 w0 nt D s F H a w) (hs:Step n0 w0 D s H w s' H' w') (hF:FrOk (Dn D H.next H'.next) s' F' a') (hG:Good H') (h1:nt<=a'.tmps.size) (h2:DQ T nt a'.defers):Pre T n0 w0 nt (Dn D H.next H'.next) s' F' H' a' w' :=
 ⟨h.gl.mono (fun b hb=>.inl hb) hs.same,hF,hs.sat,hG,h1,h2⟩
theorem Post.trans {s1:Sg} {H1 H' : Hp} {F' : Fr} {w1:World} {a' : Act} (hs:Step n0 w0 D s H w s1 H1 w1) (h:Post T n0 w0 nt (Dn D H.next H1.next) s1 H1 w1 F' H' a' w'):Post T n0 w0 nt D s H w F' H' a' w':=by
 obtain ⟨s',h1,h2,h3,h4⟩:=h
 refine ⟨s',hs.trans h1,?_,h3,h4⟩
 rw [<- dn_dn D hs.next h1.next]
 exact h2
theorem run_callFunc (hM:MachOk T P) {f:FuncId} {fn:Func} {c:Code} (h1:T.fn f=some fn) (h2:fn.body=some c) (xs:Array Value) (w:World):(callFunc f xs).run P w = .ok (.enter f xs) w:=by
 have hnm:=hM.name f fn h1
 rw [beq_eq_false_iff_ne] at hnm
 simp [callFunc,hM.tab.fn f fn h1,hnm,h2]
theorem evOps_ok (hM:MachOk T P) (hn:n0<=w0.heap.size) {call:CallE} (hc:CallOk T P n0 w0 call) (hcg:CallGood call) {ops:Array Oper} {Q:Exit->Act->World->Prop} :
  ∀ (l:List Oper) (i:Nat) {D:Nat->Prop} {s:Sg} {F F' : Fr} {H H' : Hp} {a:Act} {w:World},(∀ j,j < l.length->ops[i+j]? = l[j]?)->(∀ o∈l,∀ t,o.dst=some t->t < nt) ->
   evOps T call ops l F H=some (F',H')->Pre T n0 w0 nt D s F H a w->Fresh D H H' ->
   (∀ a' w',Post T n0 w0 nt D s H w F' H' a' w'->Q .normal a' w')->wpOps P ops Q (List.range' i l.length) a w
 | [],i,D,s,F,F',H,H',a,w,_,_,h,hP,hf,hQ=>by
  simp only [evOps] at h
  cases h
  exact hQ a w ⟨s,Step.flush hP.sat,hP.fr.mono (fun b hb=>.inl hb) (fun _ _=>rfl),hP.size,hP.defers⟩
 | o :: r,i,D,s,F,F',H,H',a,w,hl,hd,h,hP,hf,hQ=>by
  have ho:ops[i]? = some o:=by have:=hl 0 (by simp);simpa using this
  have hl' : ∀ j,j < r.length->ops[i+1+j]? = r[j]?:=fun j hj=>by
   have:=hl (j+1) (by simpa using hj)
   rw [show i+1+j=i+(j+1) from by omega,this];simp
  have hd' : ∀ o'∈r,∀ t,o'.dst=some t->t < nt:=fun o' h'=>hd o' (by simp [h'])
  have hdo:∀ t,o.dst=some t->t < a.tmps.size:=fun t ht=>Nat.lt_of_lt_of_le (hd o (by simp) t ht) hP.size
  have hall:=evOps_good hcg (o :: r) hP.good h
  have hf1:=hf.first hall.le
  simp only [evOps] at h
  simp only [List.length_cons,List.range'_succ,wpOps,ho]
  split at h
  ·rename_i hw
   rw [wantedV_ok hP.fr hw,if_pos rfl]
   left
   unfold Oper.wp
   split at h
   ·rename_i v H1 hop
    have g1:=evOp_val hP.good hop
    have g2:=evOps_good hcg r g1.good h
    obtain ⟨x,s1,w1,hr,hs,hv⟩:=evOp_ok hM.tab hP.gl hP.fr hP.sat hn hf1 hP.good o hop
    rw [hr]
    have hF1:FrOk (Dn D H.next H1.next) s1 (putD F o.dst v) (a.put o.dst x):=(hP.fr.mono (fun b hb=>.inl hb) hs.same).put hdo hv
    have hP1:=hP.next hs hF1 g1.good (by rw [put_size];exact hP.size) (by rw [put_defers];exact hP.defers)
    exact evOps_ok hM hn hc hcg r (i+1) hl' hd' h hP1 (hf.right g1.le) (fun a' w' h'=>hQ a' w' (Post.trans hs h'))
   ·rename_i H1 hop
    have g1:=evOp_skp hP.good hop
    have g2:=evOps_good hcg r g1.good h
    obtain ⟨s1,w1,hr,hs⟩:=evOp_ok hM.tab hP.gl hP.fr hP.sat hn hf1 hP.good o hop
    rw [hr]
    have hF1:FrOk (Dn D H.next H1.next) s1 (delD F o.dst) (a.put o.dst undef):=(hP.fr.mono (fun b hb=>.inl hb) hs.same).del hdo
    have hP1:=hP.next hs hF1 g1.good (by rw [put_size];exact hP.size) (by rw [put_defers];exact hP.defers)
    exact evOps_ok hM hn hc hcg r (i+1) hl' hd' h hP1 (hf.right g1.le) (fun a' w' h'=>hQ a' w' (Post.trans hs h'))
   ·rename_i g vs H0 hop
    have g0:=evOp_ent hP.good hop
    obtain ⟨rfl,xs,hxs,hr⟩:=evOp_ok hM.tab hP.gl hP.fr hP.sat hn hf1 hP.good o hop
    split at h
    ·rename_i v H1 hcl
     have g1:=hcg _ _ _ _ _ hcl g0.good
     have g2:=evOps_good hcg r g1.good h
     have hfc:Fresh D H.flush H1:=fun b h1 h2=>hf b (by rw [Hp.next_flush] at h1;exact h1) (Nat.le_trans h2 g2.le)
     obtain ⟨⟨fn,c,e1,e2⟩,hcalls⟩:=hc _ _ _ _ _ hcl D s w xs hP.gl hxs hP.sat.flush g0.good hfc
     rw [hr,run_callFunc hM e1 e2]
     refine Calls.mono hcalls fun e w1 he=>?_
     cases e with
     | returned x =>
      obtain ⟨s1,hs0,hv⟩:=he
      have hs:Step n0 w0 D s H w s1 H1 w1:=(Step.flush hP.sat).trans (by rw [Hp.next_flush,dn_refl];exact hs0)
      rw [Hp.next_flush] at hv
      have hF1:FrOk (Dn D H.next H1.next) s1 (putD F o.dst v) (a.put o.dst x):=(hP.fr.mono (fun b hb=>.inl hb) hs.same).put hdo hv
      have hP1:=hP.next hs hF1 g1.good (by rw [put_size];exact hP.size) (by rw [put_defers];exact hP.defers)
      exact evOps_ok hM hn hc hcg r (i+1) hl' hd' h hP1 (hf.right hs.next) (fun a' w' h'=>hQ a' w' (Post.trans hs h'))
     | panicked c=>exact he.elim
     | outgrown=>exact he.elim
    ·cases h
   ·split at h
    ·rename_i hdef
     obtain ⟨c,hoc⟩:∃ c,o.op = .defer c:=by
      revert hdef
      unfold evDef
      split
      ·rename_i c hh;exact fun _=>⟨c,hh⟩
      ·intro h;cases h
     rw [hoc] at hdef
     obtain ⟨callee,args,tys⟩:=c
     simp only [evDef] at hdef
     split at hdef
     ·rename_i f
      split at hdef
      ·rename_i g fs cs hfv
       have hfv':=opd_ok hP.gl hP.fr hfv
       generalize hz:a.eval f=y at hfv'
       cases hfv' with
       | fn _ _ _ xs ys h1 h2 =>
        have hr:(execOp a.eval o).run P w = .ok (.defer { target:=.fn (.func g) ys,args:=xs++args.map a.eval }) w:=by
         simp [execOp,hoc,resolve,hz,Deferred.ofValue]
        rw [hr]
        have hP1:Pre T n0 w0 nt D s (delD F o.dst) H (Act.put { a with defers:={ target:=.fn (.func g) ys,args:=xs++args.map a.eval } :: a.defers } o.dst undef) w :=
         ⟨hP.gl,FrOk.del (a:={ a with defers:={ target:=.fn (.func g) ys,args:=xs++args.map a.eval } :: a.defers }) hP.fr hdo,hP.sat,hP.good,by rw [put_size];exact hP.size,by
          rw [put_defers]
          obtain ⟨l',hl',hdq⟩:=hP.defers
          refine ⟨{ target:=.fn (.func g) ys,args:=xs++args.map a.eval } :: l',by simp [hl'],fun d hd=>?_⟩
          rcases List.mem_cons.1 hd with rfl | hd
          ·exact ⟨g,ys,rfl,hdef⟩
          ·exact hdq d hd⟩
        exact evOps_ok hM hn hc hcg r (i+1) hl' hd' h hP1 hf hQ
      ·cases hdef
     ·cases hdef
    ·cases h
  ·rename_i hw
   rw [wantedV_ok hP.fr hw,if_neg (by simp)]
   have hP1:Pre T n0 w0 nt D s (delD F o.dst) H (a.put o.dst undef) w:=⟨hP.gl,hP.fr.del hdo,hP.sat,hP.good,by rw [put_size];exact hP.size,by rw [put_defers];exact hP.defers⟩
   exact evOps_ok hM hn hc hcg r (i+1) hl' hd' h hP1 hf hQ
  ·cases h
end
end Go.AM
namespace Go.AM
open Go Go.RowKit
def DrawOk (T:Tab) (P:Program) (n0:Nat) (w0:World) (f:FuncId) (nt:NT) (id:Nat) (ops:Array Oper):Prop :=
 ∀ (call:CallE),CallOk T P n0 w0 call->CallGood call->∀ p,T.dr f id=some p->∀ F H F' H',evDraw T call ops p F H [H]=some (F',H')->altOk T f id F' = true->∀ D s a w Q,Pre T n0 w0 nt D s F H a w->Fresh D H H' ->
  (∀ a' w',Post T n0 w0 nt D s H w F' H' a' w'->Q .normal a' w')->(Code.region id ops true).wp P Q a w
def CdOk (T:Tab) (P:Program) (n0:Nat) (w0:World) (f:FuncId) (nt:NT):Code->Prop
 | .region _ ops false=>∀ o∈ops.toList,∀ t,o.dst=some t->t < nt
 | .region id ops true=>DrawOk T P n0 w0 f nt id ops
 | .seq a b=>CdOk T P n0 w0 f nt a/\CdOk T P n0 w0 f nt b
 | .cond _ a b=>CdOk T P n0 w0 f nt a/\CdOk T P n0 w0 f nt b
 | .block _ c=>CdOk T P n0 w0 f nt c
 | .scope c=>CdOk T P n0 w0 f nt c
 | .loop c=>CdOk T P n0 w0 f nt c
 | _=>True
def Out.exit' : Out->Exit
 | .nrm=>.normal
 | .exit i=>.exit i
 | .ret=>.ret
theorem least {p:Nat->Prop} (h:∃ n,p n):∃ n,p n/\∀ m,p m->n<=m:=by
 obtain ⟨n,hn⟩:=h
 induction n using Nat.strongRecOn with
 | _ n ih =>
  by_cases h' : ∃ m,m < n/\p m
  ·obtain ⟨m,h1,h2⟩:=h'
   exact ih m h1 h2
  ·refine ⟨n,hn,fun m hm=>?_⟩
   rcases Nat.lt_or_ge m n with h1 | h1
   ·exact absurd ⟨m,h1,hm⟩ h'
   ·exact h1
open Classical in
noncomputable def mu (R:Nat->Act->World->Prop) (a:Act) (w:World):Nat:=if h:∃ n,R n a w then (least h).choose else 0
theorem mu_spec {R:Nat->Act->World->Prop} {a:Act} {w:World} (h:∃ n,R n a w):R (mu R a w) a w/\∀ m,R m a w->mu R a w<=m:=by
 unfold mu
 rw [dif_pos h]
 exact (least h).choose_spec
theorem wp_loopN {P:Program} {c:Code} {Q:Exit->Act->World->Prop} (R:Nat->Act->World->Prop) (zero:∀ a w,¬ R 0 a w) (round:∀ m a w,R (m+1) a w->c.wp P (Exit.then (R m) Q) a w) {n:Nat} {a:Act} {w:World} (h:R n a w):(Code.loop c).wp P Q a w:=by
 refine wp_loop (fun a w=>∃ n,R n a w) (mu R) ⟨n,h⟩ fun a w hI=>?_
 obtain ⟨h1,h2⟩:=mu_spec hI
 cases hm:mu R a w with
 | zero=>rw [hm] at h1;exact absurd h1 (zero a w)
 | succ m =>
  rw [hm] at h1
  refine wp_mono (round m a w h1) fun e a' w' he=>?_
  cases e with
  | normal=>exact ⟨⟨m,he⟩,Nat.lt_succ_of_le ((mu_spec ⟨m,he⟩).2 m he)⟩
  | _=>exact he
section
variable {T:Tab} {P:Program} {n0:Nat} {w0:World} {nt:NT} {f:FuncId}
def RLoop (T:Tab) (n0:Nat) (w0:World) (nt:NT) (body:Fr->Hp->Option (Out×Fr×Hp)) (D:Nat->Prop) (s:Sg) (H:Hp) (w:World) (o:Out) (F' : Fr) (H' : Hp) (n:Nat) (a1:Act) (w1:World):Prop :=
 ∃ s1 F1 H1,Step n0 w0 D s H w s1 H1 w1/\Pre T n0 w0 nt (Dn D H.next H1.next) s1 F1 H1 a1 w1/\Fresh (Dn D H.next H1.next) H1 H'/\loopN body n F1 H1=some (o,F',H')
theorem loopN_nrm {body:Fr->Hp->Option (Out×Fr×Hp)}:∀ (n:Nat) {F F' : Fr} {H H' : Hp} {o:Out},loopN body n F H=some (o,F',H')->o≠.nrm
 | 0,_,_,_,_,_,h=>by simp [loopN] at h
 | n+1,F,F',H,H',o,h=>by
  simp only [loopN] at h
  split at h
  ·exact loopN_nrm n h
  ·rename_i hx
   rintro rfl
   exact hx _ _ h
theorem evCode_ok (hM:MachOk T P) (hn:n0<=w0.heap.size) {call:CallE} (hc:CallOk T P n0 w0 call) (hcg:CallGood call) {n:Nat} :
  ∀ (c:Code),CdOk T P n0 w0 f nt c->∀ {D:Nat->Prop} {s:Sg} {F F' : Fr} {H H' : Hp} {o:Out} {a:Act} {w:World},evCode T call f n c F H=some (o,F',H')->Pre T n0 w0 nt D s F H a w->Fresh D H H' ->
   c.wp P (fun e a' w'=>e=o.exit'/\Post T n0 w0 nt D s H w F' H' a' w') a w
 | .skip,_,D,s,F,F',H,H',o,a,w,h,hP,hf=>by
  simp only [evCode] at h
  cases h
  exact wp_skip ⟨rfl,s,Step.refl hP.sat,hP.fr.mono (fun b hb=>.inl hb) (fun _ _=>rfl),hP.size,hP.defers⟩
 | .label _,_,D,s,F,F',H,H',o,a,w,h,hP,hf=>by
  simp only [evCode] at h
  cases h
  exact wp_label ⟨rfl,s,Step.refl hP.sat,hP.fr.mono (fun b hb=>.inl hb) (fun _ _=>rfl),hP.size,hP.defers⟩
 | .exit _,_,D,s,F,F',H,H',o,a,w,h,hP,hf=>by
  simp only [evCode] at h
  cases h
  exact wp_exit ⟨rfl,s,Step.refl hP.sat,hP.fr.mono (fun b hb=>.inl hb) (fun _ _=>rfl),hP.size,hP.defers⟩
 | .ret,_,D,s,F,F',H,H',o,a,w,h,hP,hf=>by
  simp only [evCode] at h
  cases h
  exact wp_ret ⟨rfl,s,Step.refl hP.sat,hP.fr.mono (fun b hb=>.inl hb) (fun _ _=>rfl),hP.size,hP.defers⟩
 | .goto _,_,_,_,_,_,_,_,_,_,_,h,_,_=>by simp [evCode] at h
 | .rangeFunc ..,_,_,_,_,_,_,_,_,_,_,h,_,_=>by simp [evCode] at h
 | .refuse _,_,_,_,_,_,_,_,_,_,_,h,_,_=>by simp [evCode] at h
 | .region id ops false,hk,D,s,F,F',H,H',o,a,w,h,hP,hf=>by
  simp only [evCode] at h
  split at h
  ·cases h
   refine wp_region ?_
   have:=evOps_ok (ops:=ops) (Q:=fun e a' w'=>e=Out.nrm.exit'/\Post T n0 w0 nt D s H w F' H' a' w') hM hn hc hcg ops.toList 0 (fun j hj=>by simp) hk (by assumption) hP hf (fun a' w' h'=>⟨rfl,h'⟩)
   rw [List.range_eq_range']
   simpa using this
  ·cases h
 | .region id ops true,hk,D,s,F,F',H,H',o,a,w,h,hP,hf=>by
  simp only [evCode] at h
  split at h
  ·rename_i p hp
   split at h
   ·split at h
    ·cases h
     exact hk call hc hcg p hp F H F' H' (by assumption) (by assumption) D s a w _ hP hf (fun a' w' h'=>⟨rfl,h'⟩)
    ·cases h
   ·cases h
  ·cases h
 | .seq x y,hk,D,s,F,F',H,H',o,a,w,h,hP,hf=>by
  simp only [evCode] at h
  split at h
  ·rename_i F1 H1 h1
   have g1:=evCode_good hcg x hP.good h1
   have g2:=evCode_good hcg y g1.good h
   refine wp_seq (wp_mono (evCode_ok hM hn hc hcg x hk.1 h1 hP (hf.left g2.le)) fun e a1 w1 he=>?_)
   obtain ⟨rfl,s1,hs,hF1,hz,hdf⟩:=he
   have hP1:=hP.next hs hF1 g1.good hz hdf
   refine wp_mono (evCode_ok hM hn hc hcg y hk.2 h hP1 (hf.right g1.le)) fun e a2 w2 he=>?_
   exact ⟨he.1,Post.trans hs he.2⟩
  ·rename_i hx
   refine wp_seq (wp_mono (evCode_ok hM hn hc hcg x hk.1 h hP hf) fun e a1 w1 he=>?_)
   obtain ⟨rfl,hpost⟩:=he
   cases o with
   | nrm=>exact absurd h (hx _ _)
   | exit i=>exact ⟨rfl,hpost⟩
   | ret=>exact ⟨rfl,hpost⟩
 | .cond x y z,hk,D,s,F,F',H,H',o,a,w,h,hP,hf=>by
  simp only [evCode] at h
  split at h
  ·rename_i hx
   have hx':=opd_ok hP.gl hP.fr hx
   generalize hz:a.eval x=u at hx'
   cases hx'
   exact wp_cond_true hz (evCode_ok hM hn hc hcg y hk.1 h hP hf)
  ·rename_i hx
   have hx':=opd_ok hP.gl hP.fr hx
   generalize hz:a.eval x=u at hx'
   cases hx'
   exact wp_cond_false hz (evCode_ok hM hn hc hcg z hk.2 h hP hf)
  ·cases h
 | .block id c,hk,D,s,F,F',H,H',o,a,w,h,hP,hf=>by
  simp only [evCode] at h
  split at h
  ·rename_i i F1 H1 h1
   split at h
   ·rename_i hid
    cases h
    refine wp_block (wp_mono (evCode_ok hM hn hc hcg c hk h1 hP hf) fun e a1 w1 he=>?_)
    obtain ⟨rfl,hpost⟩:=he
    simp only [Out.exit',Exit.inBlock,hid,if_true]
    exact ⟨trivial,hpost⟩
   ·rename_i hid
    cases h
    refine wp_block (wp_mono (evCode_ok hM hn hc hcg c hk h1 hP hf) fun e a1 w1 he=>?_)
    obtain ⟨rfl,hpost⟩:=he
    simp only [Out.exit',Exit.inBlock,hid,if_false]
    exact ⟨trivial,hpost⟩
  ·rename_i hx
   refine wp_block (wp_mono (evCode_ok hM hn hc hcg c hk h hP hf) fun e a1 w1 he=>?_)
   obtain ⟨rfl,hpost⟩:=he
   cases o with
   | nrm=>exact ⟨rfl,hpost⟩
   | exit i=>exact absurd h (hx _ _ _)
   | ret=>exact ⟨rfl,hpost⟩
 | .scope c,hk,D,s,F,F',H,H',o,a,w,h,hP,hf=>by
  simp only [evCode] at h
  refine wp_scope_straight (wp_mono (evCode_ok hM hn hc hcg c hk h hP hf) fun e a1 w1 he=>?_)
  obtain ⟨rfl,hpost⟩:=he
  cases o<;>exact ⟨rfl,hpost⟩
 | .loop c,hk,D,s,F,F',H,H',o,a,w,h,hP,hf=>by
  simp only [evCode] at h
  have hbg:∀ F H o F' H',evCode T call f n c F H=some (o,F',H')->Good H->Grow H H':=fun F H o F' H' hb hG=>evCode_good hcg c hG hb
  refine wp_loopN (RLoop T n0 w0 nt (evCode T call f n c) D s H w o F' H') (fun a1 w1 hR=>?_) (fun m a1 w1 hR=>?_) (n:=n) ?_
  ·obtain ⟨s1,F1,H1,_,_,_,hl⟩:=hR
   simp [loopN] at hl
  ·obtain ⟨s1,F1,H1,hs,hP1,hf1,hl⟩:=hR
   have hnn:=loopN_nrm _ hl
   simp only [loopN] at hl
   split at hl
   ·rename_i F2 H2 h2
    have g1:=hbg _ _ _ _ _ h2 hP1.good
    have g2:=loopN_good hbg m g1.good hl
    refine wp_mono (evCode_ok hM hn hc hcg c hk h2 hP1 (hf1.left g2.le)) fun e a2 w2 he=>?_
    obtain ⟨rfl,s2,hs2,hF2,hz,hdf⟩:=he
    have hP2:=hP1.next hs2 hF2 g1.good hz hdf
    have hf2:=hf1.right (H1:=H2) g1.le
    rw [dn_dn D hs.next hs2.next] at hP2 hf2
    exact ⟨s2,F2,H2,hs.trans hs2,hP2,hf2,hl⟩
   ·refine wp_mono (evCode_ok hM hn hc hcg c hk hl hP1 hf1) fun e a2 w2 he=>?_
    obtain ⟨rfl,hpost⟩:=he
    cases o with
    | nrm=>exact absurd rfl hnn
    | exit i=>exact ⟨rfl,Post.trans hs hpost⟩
    | ret=>exact ⟨rfl,Post.trans hs hpost⟩
  ·exact ⟨s,F,H,Step.refl hP.sat,by rw [dn_refl];exact hP,by rw [dn_refl];exact hf,h⟩
theorem frame_ok {D:Nat->Prop} {s:Sg} {tmps:Array Value}:∀ (vs:List V) (i:Nat) (F:Fr),(∀ t v,F.get t=some v->∃ x,tmps[t]? = some x/\Rv D s v x)->(∀ j v,vs[j]? = some v->∃ x,tmps[i+j]? = some x/\Rv D s v x) ->
  ∀ t v,(frame vs i F).get t=some v->∃ x,tmps[t]? = some x/\Rv D s v x
 | [],i,F,hF,_=>hF
 | u :: r,i,F,hF,hv=>by
  refine frame_ok r (i+1) (F.set i u) (fun t v ht=>?_) (fun j v hj=>?_)
  ·rw [Tr.get_set] at ht
   split at ht
   ·rename_i e;subst e;cases ht
    have:=hv 0 u (by simp)
    simpa using this
   ·exact hF t v ht
  ·have:=hv (j+1) v (by simpa using hj)
   rw [show i+1+j=i+(j+1) from by omega]
   exact this
def resVar (tmps:Array Value):ResultVar->Sem Value
 | .tmp t=>pure (tmps.getD t undef)
 | .cell a' t=>do loadVar t (<- asAddr (tmps.getD a' undef))
theorem results_eq (fn:Func) (tmps:Array Value):results fn tmps=(do let vs <- fn.results.mapM (resVar tmps);pure (if h:vs.size=1 then vs[0] else .tuple vs)):=by
 unfold results
 congr 1
theorem getAll_ok (hT:TabOk T P) {D:Nat->Prop} {s:Sg} {F:Fr} {H:Hp} {w:World} {a:Act} (hS:Sat n0 w0 D s H w) (hF:FrOk D s F a):∀ (l:List ResultVar) {vs:List V},getAll T F H.get l=some vs->∃ xs:List Value,RvL D s vs xs /\
  (l.mapM (resVar a.tmps)).run P w = .ok xs w
 | [],vs,h=>by simp only [getAll] at h;cases h;exact ⟨[],.nil,by simp⟩
 | .tmp t :: r,vs,h=>by
  simp only [getAll] at h
  split at h
  ·rename_i v us h1 h2
   cases h
   obtain ⟨x,hx,hr⟩:=hF t v h1
   obtain ⟨xs,h3,h4⟩:=getAll_ok hT hS hF r h2
   refine ⟨x :: xs,.cons _ _ _ _ hr h3,?_⟩
   have h0:(resVar a.tmps (.tmp t)).run P w = .ok x w:=by simp [resVar,hx]
   simp only [List.mapM_cons,Sem.run_bind,Sem.run_pure,Result.andThen_ok,h4,h0]
  ·cases h
 | .cell a' t :: r,vs,h=>by
  simp only [getAll] at h
  split at h
  ·rename_i b off ha
   split at h
   ·rename_i e sz ro cs hg
    split at h
    ·rename_i v us h1 h2
     cases h
     obtain ⟨p,hp,hpr⟩:=hF a' _ ha
     obtain ⟨xs,h3,h4⟩:=getAll_ok hT hS hF r h2
     obtain ⟨x,hx,hr⟩:=load_ok hT hS hpr hg h1
     refine ⟨x :: xs,.cons _ _ _ _ hr h3,?_⟩
     have h0:(resVar a.tmps (.cell a' t)).run P w = .ok x w:=by
      rw [<- hx]
      cases hpr with
      | ptr b off hD=>simp [resVar,hp,Instr.loadAt,Instr.sureAddr,asAddr]
     simp only [List.mapM_cons,Sem.run_bind,Sem.run_pure,Result.andThen_ok,h4,h0]
    ·cases h
   ·cases h
  ·cases h
theorem resOf_ok (hT:TabOk T P) {D:Nat->Prop} {s:Sg} {F:Fr} {H:Hp} {w:World} {a:Act} (hS:Sat n0 w0 D s H w) (hF:FrOk D s F a) {fn:Func} {v:V} (h:resOf T fn.results.toList F H.get=some v):∃ x,(results fn a.tmps).run P w = .ok x w/\Rv D s v x:=by
 unfold resOf at h
 have key:∀ vs,getAll T F H.get fn.results.toList=some vs->∃ xs:List Value,RvL D s vs xs/\(results fn a.tmps).run P w = .ok (if h:xs.toArray.size=1 then xs.toArray[0] else .tuple xs.toArray) w:=fun vs hvs=>by
  obtain ⟨xs,h1,h2⟩:=getAll_ok hT hS hF _ hvs
  refine ⟨xs,h1,?_⟩
  have:=h2
  have e:fn.results=fn.results.toList.toArray:=by simp
  rw [results_eq,e,List.mapM_toArray]
  have hm:(List.toArray <$> fn.results.toList.mapM (resVar a.tmps)).run P w = .ok xs.toArray w:=by
   show ((fn.results.toList.mapM (resVar a.tmps)) >>= fun x=>pure x.toArray).run P w=_
   simp [this]
  simp only [Sem.run_bind,hm,Result.andThen_ok,Sem.run_pure]
 split at h
 ·rename_i u hvs
  cases h
  obtain ⟨xs,h1,h2⟩:=key _ hvs
  cases h1 with
  | cons _ x _ _ hx hr =>
   cases hr
   exact ⟨x,by rw [h2];simp,hx⟩
 ·rename_i vs hne hvs
  cases h
  obtain ⟨xs,h1,h2⟩:=key _ hvs
  have hl:xs.length≠1:=fun e=>by
   have:=h1.length
   rw [e] at this
   match vs,this with
   | [u],_=>exact hne u rfl
  refine ⟨.tuple xs.toArray,by rw [h2];simp [hl],.tup _ _ (by simpa using h1)⟩
 ·cases h
theorem leaves_quiet (hQ:QuietOk T P) {fn:Func} {tmps:Array Value} {R:Ending->World->Prop} {w:World} {base:List Deferred}:∀ (l:List Deferred),(∀ d∈l,∃ g cap,d.target = .fn (.func g) cap/\T.quiet g=true)->Leaves P fn tmps R base .returning w->Leaves P fn tmps R (l++base) .returning w
 | [],_,h=>h
 | d :: ds,hd,h=>by
  obtain ⟨g,cap,ht,hq⟩:=hd d (by simp)
  obtain ⟨h1,h2⟩:=hQ g hq
  refine ⟨by simp,.func g,cap,g,d.args++cap,ht,by rw [ht];simpa [invoke] using h1 _ w,(h2 (d.args++cap) w).mono ?_⟩
  rintro e u w' ⟨⟨v,rfl⟩,rfl,rfl⟩
  exact leaves_quiet hQ ds (fun x hx=>hd x (by simp [hx])) h
theorem evCall_ok (hM:MachOk T P) (hI:T.init n0 w0) (hn:n0<=w0.heap.size) (hcd:∀ f fn c b,T.fn f=some fn->fn.body=some c->CdOk T P n0 w0 f ⟨fn.ntmps,b⟩ c):∀ k,CallOk T P n0 w0 (evCall T k)
 | 0=>fun f vs H v H' h=>by simp [evCall] at h
 | k+1=>fun f vs H v H' h D s w xs hg hxs hS hG hf=>by
  simp only [evCall] at h
  split at h
  ·rename_i fn hfn
   split at h
   ·rename_i c hbody
    refine ⟨⟨fn,c,hfn,hbody⟩,?_⟩
    split at h
    ·rename_i e hex
     exact hM.ext f e hex n0 w0 hI hn vs H v H' h D s w xs hg hxs hS hG hf
    have go:∀ o F' H1,evCode T (evCall T k) f k c (frame vs 0 .nil) H=some (o,F',H1)->(o = .ret\/o = .nrm)->(match resOf T fn.results.toList F' H1.get with | some v=>some (v,H1) | none=>none)=some (v,H') ->
      Calls P f xs w fun e w'=>match e with
       | .returned x=>∃ s',Step n0 w0 D s H w s' H' w'/\Rv (Dn D H.next H'.next) s' v x
       | _=>False:=by
     intro o F' H1 hev ho hres
     split at hres
     ·rename_i v' hr
      cases hres
      have hP:Pre T n0 w0 ⟨fn.ntmps,[]⟩ D s (frame vs 0 .nil) H { tmps:=xs++Array.replicate (fn.ntmps-xs.size) undef,defers:=[] } w:=by
       refine ⟨hg,frame_ok vs 0 .nil (fun t v h=>by simp [Tr.get] at h) (fun j v hj=>?_),hS,hG,by show fn.ntmps<=_;simp;omega,[],rfl,fun d hd=>by cases hd⟩
       obtain ⟨x,h1,h2⟩:=hxs.get j v hj
       rw [Array.getElem?_toList] at h1
       refine ⟨x,?_,h2⟩
       have hlt:j < xs.size:=(Array.getElem?_eq_some_iff.1 h1).1
       rw [Nat.zero_add,Array.getElem?_append_left hlt]
       exact h1
      refine calls_of_wp_defers (hM.tab.fn f fn hfn) hbody (wp_mono (evCode_ok hM hn (evCall_ok hM hI hn hcd k) (evCall_good hM.extg k) c (hcd f fn c [] hfn hbody) hev hP hf) fun e a' w' he=>?_)
      obtain ⟨rfl,s',hs,hF',_,hdf⟩:=he
      obtain ⟨x,hx,hrv⟩:=resOf_ok hM.tab hs.sat hF' hr
      obtain ⟨l',hl',hdf⟩:=hdf
      rcases ho with rfl | rfl
      all_goals
       show Leaves P fn a'.tmps _ a'.defers .returning w'
       rw [hl']
       exact leaves_quiet hM.quiet _ hdf ⟨x,hx,s',hs,hrv⟩
     ·cases hres
    split at h
    ·exact go _ _ _ (by assumption) (.inl rfl) h
    ·exact go _ _ _ (by assumption) (.inr rfl) h
    ·cases h
   ·cases h
  ·cases h
end
end Go.AM
namespace Go.AM
open Go
section
variable {T:Tab} {F F' : Fr}
theorem opds_congr:∀ {xs:List Operand},(∀ x∈xs,opd T.ng F x=opd T.ng F' x)->opds T.ng F xs=opds T.ng F' xs
 | [],_=>rfl
 | x :: r,h=>by simp only [opds,h x (by simp),opds_congr (xs:=r) (fun y hy=>h y (by simp [hy]))]
theorem partsV_congr:∀ {ps:List (Nat×Operand)},(∀ p∈ps,opd T.ng F p.2=opd T.ng F' p.2)->partsV T F ps=partsV T F' ps
 | [],_=>rfl
 | (i,x) :: r,h=>by simp only [partsV,h (i,x) (by simp),partsV_congr (ps:=r) (fun y hy=>h y (by simp [hy]))]
theorem optI_congr {x:Option Operand} (h:∀ y,x=some y->opd T.ng F y=opd T.ng F' y):optI T F x=optI T F' x:=by
 cases x with
 | none=>rfl
 | some y=>simp only [optI,h y rfl]
def Agree (T:Tab) (F F' : Fr) (o:Op):Prop:=∀ x∈o.operands,opd T.ng F x=opd T.ng F' x
theorem Agree.args {c:Call} (h:Agree T F F' (.call c)):opds T.ng F c.args.toList=opds T.ng F' c.args.toList:=by
 refine opds_congr fun x hx=>h x ?_
 obtain ⟨callee,args,tys⟩:=c
 cases callee<;>simp [Op.operands,Call.operands] at hx ⊢<;>simp [hx]
theorem Agree.fn {c:Call} {f:Operand} (h:Agree T F F' (.call c)) (hf:c.callee = .value f):opd T.ng F f=opd T.ng F' f:=by
 refine h f ?_
 obtain ⟨callee,args,tys⟩:=c
 subst hf
 simp [Op.operands,Call.operands]
theorem evP_congr {o:Op} (h:Agree T F F' o):evP T o F=evP T o F':=by
 cases o
 case call c=>simp only [evP,h.args]
 case build t ps =>
  have:=partsV_congr (T:=T) (F:=F) (F':=F') (ps:=ps.toList) (fun p hp=>h p.2 (by simp only [Op.operands,List.mem_toArray,List.mem_map];exact ⟨p,hp,rfl⟩))
  simp only [evP,this]
 case makeFunc f x y =>
  have h1:=opds_congr (T:=T) (F:=F) (F':=F') (xs:=x.toList) (fun p hp=>h p (by simp only [Op.operands,Array.mem_append];exact .inl (by simpa using hp)))
  have h2:=opds_congr (T:=T) (F:=F) (F':=F') (xs:=y.toList) (fun p hp=>h p (by simp only [Op.operands,Array.mem_append];exact .inr (by simpa using hp)))
  simp only [evP,h1,h2]
 case slice t x lo hi mx =>
  have h0:=h x (by simp [Op.operands])
  have h1:=optI_congr (T:=T) (F:=F) (F':=F') (x:=lo) (fun y hy=>h y (by subst hy;simp [Op.operands]))
  have h2:=optI_congr (T:=T) (F:=F) (F':=F') (x:=hi) (fun y hy=>h y (by subst hy;simp [Op.operands]))
  have h3:=optI_congr (T:=T) (F:=F) (F':=F') (x:=mx) (fun y hy=>h y (by subst hy;simp [Op.operands]))
  simp only [evP,h0,h1,h2,h3]
 case unOp op t x =>
  have h0:=h x (by simp [Op.operands])
  cases op<;>simp only [evP,h0]
 all_goals first
  | rfl
  | (simp only [Agree,Op.operands,List.mem_toArray,Array.mem_def,List.mem_cons,List.not_mem_nil,or_false,forall_eq_or_imp,forall_eq] at h;simp only [evP,h])
theorem evR_congr {o:Op} {g:Nat->Option Ob} (h:Agree T F F' o):evR T o F g=evR T o F' g:=by
 cases o
 case call c=>simp only [evR,h.args]
 case slice t x lo hi mx =>
  have h0:=h x (by simp [Op.operands])
  simp only [evR,h0]
 all_goals first
  | rfl
  | (simp only [Agree,Op.operands,List.mem_toArray,Array.mem_def,List.mem_cons,List.not_mem_nil,or_false,forall_eq_or_imp,forall_eq] at h;simp only [evR,h])
theorem evA_congr {o:Op} {g:Nat->Option Ob} {id:Nat} (h:Agree T F F' o):evA T o F g id=evA T o F' g id:=by
 cases o
 case call c=>simp only [evA,h.args]
 case buildSlice t n ps =>
  have:=partsV_congr (T:=T) (F:=F) (F':=F') (ps:=ps.toList) (fun p hp=>h p.2 (by simp only [Op.operands,List.mem_toArray,List.mem_map];exact ⟨p,hp,rfl⟩))
  simp only [evA,this]
 case makeMap t r=>cases r<;>rfl
 all_goals first
  | rfl
  | (simp only [Agree,Op.operands,List.mem_toArray,Array.mem_def,List.mem_cons,List.not_mem_nil,or_false,forall_eq_or_imp,forall_eq] at h;simp only [evA,h])
theorem evAW_congr {o:Op} {H:Hp} (h:Agree T F F' o):evAW T o F H=evAW T o F' H:=by
 cases o
 case call c=>simp only [evAW,h.args,evA_congr h]
 all_goals rfl
theorem evW_congr {o:Op} {H:Hp} (h:Agree T F F' o):evW T o F H=evW T o F' H:=by
 cases o
 case call c=>simp only [evW,h.args]
 case next x b =>
  have h0:=h x (by simp [Op.operands])
  cases b
  ·simp only [evW,h0]
  ·rfl
 all_goals first
  | rfl
  | (simp only [Agree,Op.operands,List.mem_toArray,Array.mem_def,List.mem_cons,List.not_mem_nil,or_false,forall_eq_or_imp,forall_eq] at h;simp only [evW,h])
theorem evOp_congr {o:Op} {H:Hp} (h:Agree T F F' o):evOp T o F H=evOp T o F' H:=by
 unfold evOp
 rw [evP_congr h,evR_congr h,evA_congr h,evAW_congr h,evW_congr h]
 cases o
 case call c =>
  obtain ⟨callee,args,tys⟩:=c
  cases callee
  case value f =>
   have h1:=h.fn rfl
   have h2:=h.args
   dsimp only at h1 h2 ⊢
   rw [h1,h2]
  all_goals rfl
 all_goals rfl
theorem evA_fresh {o:Op} {g:Nat->Option Ob} {id:Nat} {v:V} {ob:Option Ob} {kb:Option Nat} (hk:∀ c,o≠.call c) (h:evA T o F g id=some (v,ob,kb)):∃ ob',ob=some ob'/\kb=none/\ob'≠.dead/\(∀ m si se la,ob'≠.iter m si se la)/\∀ g',evA T o F g' id=some (v,ob,kb):=by
 cases o
 case call c=>exact absurd rfl (hk c)
 case makeMap t r =>
  cases r
  ·simp only [evA] at h
   split at h
   ·cases h;exact ⟨_,rfl,rfl,by simp,by simp,fun g'=>by simp only [evA, *]⟩
   ·cases h
  ·simp [evA] at h
 all_goals first
  | (simp [evA] at h;done)
  | skip
 all_goals
  simp only [evA] at h
  repeat' (split at h)
  all_goals first
   | (cases h;done)
   | (cases h;refine ⟨_,rfl,rfl,by simp,by simp,fun g'=>?_⟩;simp only [evA, *];done)
   | (cases h;refine ⟨_,rfl,rfl,by simp,by simp,fun g'=>?_⟩;simp_all [evA];done)
end
end Go.AM
namespace Go.AM
open Go
section
variable {T:Tab} {P:Program} {D D' : Nat->Prop} {s s' : Sg} {n0:Nat} {w0 w w' : World} {H H' H1 G G' : Hp} {F:Fr} {a:Act}
theorem esOf_mono {g g' : Nat->Option Ob} (hgg:∀ b ob,D b->g b=some ob->g' b=some ob) {m:V} {x:Value} (hx:Rv D s m x) {es:List (V×V×Nat)} (h:esOf g m=some es):esOf g' m=some es:=by
 unfold esOf at h ⊢
 split at h
 ·exact h
 ·rename_i b
  split at h
  ·rename_i ro es' c hg
   have hD:D b:=by cases hx;assumption
   rw [hgg b _ hD hg]
   exact h
  ·cases h
 ·cases h
theorem bytesR_mono {g g' : Nat->Option Ob} (hgg:∀ b ob,D b->g b=some ob->g' b=some ob) {m:V} {x:Value} (hx:Rv D s m x) {l:List UInt8} (h:bytesR g m=some l):bytesR g' m=some l:=by
 unfold bytesR at h ⊢
 split at h
 ·exact h
 ·exact h
 ·rename_i b off len c z
  split at h
  ·rename_i e ro cs hg
   have hD:D b:=by cases hx<;>assumption
   simp only [hgg b _ hD hg]
   exact h
  ·cases h
 ·cases h
theorem evR_mono (hg:GlOk T.ng D s) (hF:FrOk D s F a) {g g' : Nat->Option Ob} (hgg:∀ b ob,D b->g b=some ob->g' b=some ob) {o:Op} {v:V} (h:evR T o F g=some v):evR T o F g' = some v:=by
 cases o
 case load t x =>
  simp only [evR] at h
  split at h
  ·rename_i b off hx
   have hx':=opd_ok hg hF hx
   have hD:D b:=by generalize a.eval x=y at hx';cases hx';assumption
   split at h
   ·rename_i e sz ro cs hb
    simp only [evR,hx,hgg b _ hD hb]
    exact h
   ·cases h
  ·cases h
 case lookup t x i ok =>
  simp only [evR] at h
  split at h
  ·rename_i m k kt e hx hi hd
   split at h
   ·cases h
   ·rename_i hk
    split at h
    ·rename_i ei es he hes
     simp only [evR,hx,hi,hd,he,esOf_mono hgg (opd_ok hg hF hx) hes]
     rw [if_neg hk]
     exact h
    ·cases h
  ·cases h
 case convert c d x =>
  simp only [evR] at h
  split at h
  ·rename_i v' e hx hc hd
   split at h
   ·rename_i l he hb
    simp only [evR,hx,hc,hd,he,bytesR_mono hgg (opd_ok hg hF hx) hb]
    exact h
   ·cases h
  ·cases h
 case call c =>
  simp only [evR] at h
  split at h
  ·rename_i v' t ha ht
   obtain ⟨x,_,hx⟩:=args1 hg hF ha
   split at h
   ·rename_i es hd hes
    simp only [evR,ha,ht,esOf_mono hgg hx hes,hd]
    exact h
   ·cases h
  ·cases h
 case slice t x lo hi mx =>
  simp only [evR] at h
  split at h
  ·rename_i b off n e hx hd
   have hx':=opd_ok hg hF hx
   have hD:D b:=by generalize a.eval x=y at hx';cases hx';assumption
   split at h
   ·rename_i e' sz ro cs i hb hi
    simp only [evR,hx,hd,hgg b _ hD hb,hi]
    exact h
   ·cases h
  ·cases h
 all_goals (simp [evR] at h)
theorem ow_congr {b:Nat} (hg:H.get b=H'.get b) (hs:b∈H.stale ↔ b∈H'.stale):Ow H b ↔ Ow H' b:=by
 unfold Ow
 rw [hg,hs]
theorem al_congr {b:Nat} (hg:H.get b=H'.get b) (hs:b∈H.stale ↔ b∈H'.stale):Al H b ↔ Al H' b:=by
 unfold Al
 rw [hg,hs]
theorem Al.live {b:Nat} (h:Al H b):Live H b:=by
 unfold Al at h
 split at h
 ·rename_i e;exact ⟨_,e,by simp⟩
 ·rename_i e;exact ⟨_,e,by simp⟩
 ·rename_i e;exact ⟨_,e,by simp⟩
 ·cases h
theorem Sat.sub (h:Sat n0 w0 D s H w) (hst:H'.stale=H.stale) (hsub:∀ b,D b->H'.get b=H.get b\/H'.get b=none):Sat n0 w0 D s H' w:=by
 have hget:∀ b o,D b->H'.get b=some o->H.get b=some o:=fun b o hb hg=>by
  rcases hsub b hb with h' | h'
  ·rw [<- h'];exact hg
  ·rw [h'] at hg;cases hg
 have how:∀ b,D b->Ow H' b->Ow H b:=fun b hb ho=>by
  obtain ⟨o,h1,_⟩:=ho.al.live
  exact (ow_congr (by rw [h1,hget b o hb h1]) (by rw [hst])).1 ho
 have hal:∀ b,D b->Al H' b->Al H b:=fun b hb ho=>by
  obtain ⟨o,h1,_⟩:=ho.live
  exact (al_congr (by rw [h1,hget b o hb h1]) (by rw [hst])).1 ho
 refine ⟨h.below,fun b e sz ro cs hb hg=>?_,fun b ro es c hb hg=>h.map b ro es c hb (hget b _ hb hg),fun b m si se la hb hg=>h.iter b m si se la hb (hget b _ hb hg),fun b b' h1 h2 h3 h4 h5=>h.sep b b' h1 h2 h3 (how b h1 h4) (hal b' h2 h5),fun x e sz ro cs b e' sz' cs' hx hxs hgx hb ho hgb heq=>h.old x e sz ro cs b e' sz' cs' hx (by rw [<- hst];exact hxs) (hget x _ hx hgx) hb (how b hb ho) (hget b _ hb hgb) heq⟩
 rw [hst]
 exact h.row b e sz ro cs hb (hget b _ hb hg)
structure StepG (n0:Nat) (w0:World) (D:Nat->Prop) (s:Sg) (H:Hp) (w:World) (D' : Nat->Prop) (s' : Sg) (H' : Hp) (w' : World):Prop where
 sat:Sat n0 w0 D' s' H' w'
 sub:∀ b,D b->D' b
 same:∀ b,D b->s' b=s b
 size:w.heap.size<=w'.heap.size
 frame:∀ k,k < w.heap.size->(∀ b,D b->Ow H b->(s b).b≠k)->w'.heap[k]? = w.heap[k]?
 new:∀ b,D' b->¬ D b->w.heap.size<=(s' b).b\/∃ c,D c/\Ow H c/\(s c).b=(s' b).b
 ow:∀ b,D b->Ow H' b->Ow H b
theorem StepG.refl (h:Sat n0 w0 D s H w):StepG n0 w0 D s H w D s H w :=
 ⟨h,fun _ h=>h,fun _ _=>rfl,Nat.le_refl _,fun _ _ _=>rfl,fun b h1 h2=>absurd h1 h2,fun _ _ h=>h⟩
theorem StepG.trans {D1 D2:Nat->Prop} {s1 s2:Sg} {H1 H2:Hp} {w1 w2:World} (h1:StepG n0 w0 D s H w D1 s1 H1 w1) (h2:StepG n0 w0 D1 s1 H1 w1 D2 s2 H2 w2):StepG n0 w0 D s H w D2 s2 H2 w2:=by
 refine ⟨h2.sat,fun b hb=>h2.sub b (h1.sub b hb),fun b hb=>(h2.same b (h1.sub b hb)).trans (h1.same b hb),Nat.le_trans h1.size h2.size,fun k hk hf=>?_,fun b hb hnb=>?_,fun b hb ho=>h1.ow b hb (h2.ow b (h1.sub b hb) ho)⟩
 ·rw [<- h1.frame k hk hf]
  refine h2.frame k (Nat.lt_of_lt_of_le hk h1.size) fun b hb ho=>?_
  by_cases hD:D b
  ·rw [h1.same b hD];exact hf b hD (h1.ow b hD ho)
  ·rcases h1.new b hb hD with h | ⟨c,hc1,hc2,hc3⟩
   ·omega
   ·rw [<- hc3];exact hf c hc1 hc2
 ·by_cases hD:D1 b
  ·rw [h2.same b hD];exact h1.new b hD hnb
  ·rcases h2.new b hb hD with h | ⟨c,hc1,hc2,hc3⟩
   ·exact .inl (Nat.le_trans h1.size h)
   ·by_cases hc:D c
    ·exact .inr ⟨c,hc,h1.ow c hc hc2,by rw [<- h1.same c hc];exact hc3⟩
    ·rcases h1.new c hc1 hc with h | ⟨d,hd1,hd2,hd3⟩
     ·left;omega
     ·exact .inr ⟨d,hd1,hd2,hd3.trans hc3⟩
theorem Step.toG (h:Step n0 w0 D s H w s' H' w'):StepG n0 w0 D s H w (Dn D H.next H'.next) s' H' w' :=
 ⟨h.sat,fun b hb=>.inl hb,h.same,h.size,h.frame,fun b hb hn=>by
  rcases hb with hb | hb
  ·exact absurd hb hn
  ·exact h.new b hb.1 hb.2,h.ow⟩
theorem StepG.toStep (h:StepG n0 w0 D s H w (Dn D H.next H'.next) s' H' w') (hn:H.next<=H'.next) (hf:Fresh D H H'):Step n0 w0 D s H w s' H' w' :=
 ⟨h.sat,h.same,hn,h.size,h.frame,fun b h1 h2=>h.new b (.inr ⟨h1,h2⟩) (hf b h1 (Nat.le_of_lt h2)),h.ow⟩
theorem join (hS:Sat n0 w0 D s G w) (hst:H.stale=G.stale) (hsub:∀ b,D b->H.get b=G.get b\/H.get b=none)
  (hU:∀ b,D b->H.get b=none->Live G b->b∉G.stale/\b∉H1.stale/\(∀ m si se la,G.get b≠some (.iter m si se la))/\∀ c,D c->c≠b->Live G c->(s c).b≠(s b).b)
  (h:Step n0 w0 D s H w s' H1 w') (hlive:∀ b,D b->Live H1 b->Live H b)
  (hst' : G'.stale=H1.stale) (hE:∀ b,D b->H.get b=none->Live G b->G'.get b=G.get b) (hN:∀ b,Dn D H.next H1.next b->¬ (D b/\H.get b=none/\Live G b)->G'.get b=H1.get b) :
  StepG n0 w0 D s G w (Dn D H.next H1.next) s' G' w'/\∀ b,D b->H.get b=none->Live G b->∀ c,Dn D H.next H1.next c->Live H1 c->(s' c).b≠(s b).b:=by
 have hLG:∀ b,D b->Live H b->Live G b:=fun b hb hl=>by
  obtain ⟨o,h1,h2⟩:=hl
  rcases hsub b hb with h' | h'
  ·exact ⟨o,by rw [<- h'];exact h1,h2⟩
  ·rw [h'] at h1;cases h1
 have hOG:∀ b,D b->Ow H b->Ow G b:=fun b hb ho=>by
  obtain ⟨o,h1,_⟩:=ho.al.live
  rcases hsub b hb with h' | h'
  ·exact (ow_congr h' (by rw [hst])).1 ho
  ·rw [h'] at h1;cases h1
 have hne:∀ b c,D b->H.get b=none->Live H c->c≠b:=fun b c _ hn hl e=>by
  subst e
  obtain ⟨o,h1,_⟩:=hl
  rw [hn] at h1;cases h1
 have hm:∀ b,D b->Dn D H.next H1.next b:=fun b hb=>.inl hb
 -- an early row's block is no other's
 have hsep:∀ b,D b->H.get b=none->Live G b->∀ c,Dn D H.next H1.next c->Live H1 c->(s' c).b≠(s b).b:=by
  intro b hb hbn hbl c hc hcl
  obtain ⟨_,_,_,hu⟩:=hU b hb hbn hbl
  by_cases hcD:D c
  ·have hl:=hlive c hcD hcl
   rw [h.same c hcD]
   exact hu c hcD (hne b c hb hbn hl) (hLG c hcD hl)
  ·rcases hc with hc | hc
   ·exact absurd hc hcD
   ·rcases h.new c hc.1 hc.2 with h' | ⟨d,hd1,hd2,hd3⟩
    ·have:(s b).b < w.heap.size:=by
      obtain ⟨o,h1,h2⟩:=hbl
      cases o with
      | row e sz ro cs=>exact (hS.row b _ _ _ _ hb h1).lt
      | map ro es c=>obtain ⟨_,h3,_⟩:=hS.map b _ _ _ hb h1;exact lt_of_heap h3
      | iter m si se la=>exact lt_of_heap (hS.iter b _ _ _ _ hb h1).1
      | dead=>exact absurd rfl h2
     omega
    ·rw [<- hd3]
     exact hu d hd1 (hne b d hb hbn hd2.al.live) (hLG d hd1 hd2.al.live)
 have hkeep:∀ b,D b->H.get b=none->Live G b->w'.heap[(s b).b]? = w.heap[(s b).b]?:=by
  intro b hb hbn hbl
  obtain ⟨_,_,_,hu⟩:=hU b hb hbn hbl
  refine h.frame _ ?_ fun c hc ho=>hu c hc (hne b c hb hbn ho.al.live) (hLG c hc ho.al.live)
  obtain ⟨o,h1,h2⟩:=hbl
  cases o with
  | row e sz ro cs=>exact (hS.row b _ _ _ _ hb h1).lt
  | map ro es c=>obtain ⟨_,h3,_⟩:=hS.map b _ _ _ hb h1;exact lt_of_heap h3
  | iter m si se la=>exact lt_of_heap (hS.iter b _ _ _ _ hb h1).1
  | dead=>exact absurd rfl h2
 have howE:∀ b,D b->H.get b=none->Live G b->(Ow G' b->Ow G b)/\(Al G' b->Al G b):=fun b hb hbn hbl=>by
  obtain ⟨u1,u2,_,_⟩:=hU b hb hbn hbl
  exact ⟨(ow_congr (hE b hb hbn hbl) (by rw [hst'];simp [u1,u2])).1,(al_congr (hE b hb hbn hbl) (by rw [hst'];simp [u1,u2])).1⟩
 have howN:∀ b,Dn D H.next H1.next b->¬ (D b/\H.get b=none/\Live G b)->(Ow G' b->Ow H1 b)/\(Al G' b->Al H1 b):=fun b hb hn =>
  ⟨(ow_congr (hN b hb hn) (by rw [hst'])).1,(al_congr (hN b hb hn) (by rw [hst'])).1⟩
 refine ⟨⟨⟨h.sat.below,fun b e sz ro cs hb hg=>?_,fun b ro es c hb hg=>?_,fun b m si se la hb hg=>?_,fun b b' hb hb' hbb ho ha=>?_,fun x e sz ro cs b e' sz' cs' hx hxs hgx hb ho hgb heq=>?_⟩,hm,h.same,h.size,fun k hk hf=>h.frame k hk fun b hb ho=>hf b hb (hOG b hb ho),fun b hb hn=>?_,fun b hb ho=>?_⟩,hsep⟩
 ·by_cases hE' : D b/\H.get b=none/\Live G b
  ·obtain ⟨e1,e2,e3⟩:=hE'
   obtain ⟨u1,u2,_,_⟩:=hU b e1 e2 e3
   rw [hE b e1 e2 e3] at hg
   have:=hS.row b e sz ro cs e1 hg
   rw [show G.stale.contains b=false from by simpa using u1] at this
   rw [h.same b e1,hst',show H1.stale.contains b=false from by simpa using u2]
   exact this.keep hm h.same (hkeep b e1 e2 e3)
  ·rw [hN b hb hE'] at hg
   rw [hst']
   exact h.sat.row b e sz ro cs hb hg
 ·by_cases hE' : D b/\H.get b=none/\Live G b
  ·obtain ⟨e1,e2,e3⟩:=hE'
   rw [hE b e1 e2 e3] at hg
   obtain ⟨ents,h1,h2,h3⟩:=hS.map b ro es c e1 hg
   rw [h.same b e1]
   exact ⟨ents,by rw [hkeep b e1 e2 e3];exact h1,h2.mono hm h.same,h3⟩
  ·rw [hN b hb hE'] at hg
   exact h.sat.map b ro es c hb hg
 ·by_cases hE' : D b/\H.get b=none/\Live G b
  ·obtain ⟨e1,e2,e3⟩:=hE'
   obtain ⟨_,_,u3,_⟩:=hU b e1 e2 e3
   rw [hE b e1 e2 e3] at hg
   exact absurd hg (u3 _ _ _ _)
  ·rw [hN b hb hE'] at hg
   exact h.sat.iter b m si se la hb hg
 ·by_cases h1:D b/\H.get b=none/\Live G b
  ·obtain ⟨e1,e2,e3⟩:=h1
   rw [h.same b e1]
   by_cases h2:D b'/\H.get b' = none/\Live G b'
   ·obtain ⟨f1,f2,f3⟩:=h2
    rw [h.same b' f1]
    exact ((hU b e1 e2 e3).2.2.2 b' f1 (Ne.symm hbb) f3).symm
   ·exact (hsep b e1 e2 e3 b' hb' ((howN b' hb' h2).2 ha).live).symm
  ·by_cases h2:D b'/\H.get b' = none/\Live G b'
   ·obtain ⟨f1,f2,f3⟩:=h2
    rw [h.same b' f1]
    exact hsep b' f1 f2 f3 b hb ((howN b hb h1).1 ho).al.live
   ·exact h.sat.sep b b' hb hb' hbb ((howN b hb h1).1 ho) ((howN b' hb' h2).2 ha)
 ·have hx1:¬ (D x/\H.get x=none/\Live G x):=fun ⟨e1,e2,e3⟩=>by
   obtain ⟨_,u2,_,_⟩:=hU x e1 e2 e3
   rw [hst'] at hxs
   exact u2 hxs
  rw [hN x hx hx1] at hgx
  rw [hst'] at hxs
  by_cases h1:D b/\H.get b=none/\Live G b
  ·obtain ⟨e1,e2,e3⟩:=h1
   rw [h.same b e1] at heq
   exact absurd heq.symm (hsep b e1 e2 e3 x hx ⟨_,hgx,by simp⟩)
  ·rw [hN b hb h1] at hgb
   exact h.sat.old x e sz ro cs b e' sz' cs' hx hxs hgx hb ((howN b hb h1).1 ho) hgb heq
 ·rcases hb with hb | hb
  ·exact absurd hb hn
  ·rcases h.new b hb.1 hb.2 with h' | ⟨c,hc1,hc2,hc3⟩
   ·exact .inl h'
   ·exact .inr ⟨c,hc1,hOG c hc1 hc2,hc3⟩
 ·by_cases h1:D b/\H.get b=none/\Live G b
  ·obtain ⟨e1,e2,e3⟩:=h1
   exact (howE b e1 e2 e3).1 ho
  ·exact hOG b hb (h.ow b hb ((howN b (hm b hb) h1).1 ho))
end
end Go.AM
namespace Go.AM
open Go
def bitA (anc:List Nat) (i k:Nat):Bool:=(anc.getD i 0).testBit k
def dstAt (ops:Array Oper) (i:Nat):Option Tmp:=match ops[i]? with | some o=>o.dst | none=>none
def ptAt (T:Tab) (ops:Array Oper) (i:Nat):Bool:=match ops[i]? with | some o=>isPt T o.op | none=>false
def before (p:List (Nat×Nat)) (j k:Nat):Bool:=(p.take j).any fun e=>e.1==k
def ckOne (T:Tab) (ops:Array Oper) (p:List (Nat×Nat)) (anc:List Nat) (j i m:Nat):Bool :=
 match ops[i]? with
 | none=>false
 | some o =>
  (o.op.operands.toList.all fun x=>match x with
   | .tmp t=>(List.range ops.size).all fun k=>!(dstAt ops k==some t) || (bitA anc i k&&before p j k) || (bitA anc k i&&!before p (j+1) k)
   | _=>true) &&
  (match o.guard with | some (g,_)=>bitA anc i g&&before p j g | none=>true) &&
  (!isPt T o.op || (p.take j).all fun e=>bitA anc i e.1) &&
  Nat.ble ((p.take j).countP fun e=>ptAt T ops e.1&&!bitA anc i e.1) m &&
  !before p j i
def planR (rk:Nat->Nat) (T:Tab) (ops:Array Oper) (nt:Nat) (p:List (Nat×Nat)) (anc:List Nat):Bool :=
 ((List.range ops.size).all fun i=>p.any fun e=>e.1==i) &&
 ((List.range p.length).all fun j=>match p[j]? with | some e=>ckOne T ops p anc j e.1 e.2 | none=>false) &&
 ((List.range ops.size).all fun i=>match dstAt ops i with
  | some t=>Nat.blt t nt&&(List.range ops.size).all fun k=>!(dstAt ops k==some t) || i==k
  | none=>true) &&
 ((List.range ops.size).all fun i=>match ops[i]? with | some o=>o.after.toList.all fun e=>!Region.binds .any e || (Nat.blt (rk e.on) (rk i)&&Nat.blt e.on ops.size) | none=>false) &&
 ((List.range ops.size).all fun i=>(List.range ops.size).all fun k=>!bitA anc i k || (match ops[i]? with | some o=>o.after.toList.any fun e=>Region.binds .any e&&(e.on==k || bitA anc e.on k) | none=>false))
def planOk (T:Tab) (ops:Array Oper) (nt:Nat) (p:List (Nat×Nat)) (anc:List Nat):Bool:=planR (fun i=>i) T ops nt p anc
structure PlanP (T:Tab) (ops:Array Oper) (nt:Nat) (p:List (Nat×Nat)) (anc:List Nat):Prop where
 cover:∀ i:Nat,i < ops.size->∃ j m:Nat,p[j]? = some (i,m)
 op:∀ j i m:Nat,p[j]? = some (i,m)->∃ o,ops[i]? = some o
 inj:∀ j j' i m m' : Nat,p[j]? = some (i,m)->p[j']? = some (i,m')->j=j'
 lt:∀ (i:Nat) o t,ops[i]? = some o->o.dst=some t->t < nt
 dst:∀ (i k:Nat) o o' t,ops[i]? = some o->ops[k]? = some o'->o.dst=some t->o'.dst=some t->i=k
 tmp:∀ (j i m:Nat) o t (k:Nat) o',p[j]? = some (i,m)->ops[i]? = some o->Operand.tmp t∈o.op.operands->ops[k]? = some o'->o'.dst=some t->(bitA anc i k=true/\∃ j' m' : Nat,j' < j/\p[j']? = some (k,m'))\/(bitA anc k i=true/\before p (j+1) k=false)
 grd:∀ (j i m:Nat) o g b,p[j]? = some (i,m)->ops[i]? = some o->o.guard=some (g,b)->bitA anc i g=true/\∃ j' m' : Nat,j' < j/\p[j']? = some (g,m')
 pt:∀ (j i m:Nat) o,p[j]? = some (i,m)->ops[i]? = some o->isPt T o.op=true->∀ j' k m' : Nat,j' < j->p[j']? = some (k,m')->bitA anc i k=true
 win:∀ (j i m:Nat) o,p[j]? = some (i,m)->ops[i]? = some o->((p.take j).countP fun e=>ptAt T ops e.1&&!bitA anc i e.1)<=m
 edge:∃ rk:Nat->Nat,∀ (i:Nat) o e,ops[i]? = some o->e∈o.after->Region.binds .any e=true->rk e.on < rk i/\e.on < ops.size
 anc:∀ i k:Nat,i < ops.size->k < ops.size->bitA anc i k=true->∃ o e,ops[i]? = some o/\e∈o.after/\Region.binds .any e=true/\(e.on=k\/bitA anc e.on k=true)
theorem before_spec {p:List (Nat×Nat)} {j k:Nat} (h:before p j k=true):∃ j' m' : Nat,j' < j/\p[j']? = some (k,m'):=by
 unfold before at h
 rw [List.any_eq_true] at h
 obtain ⟨⟨k',m'⟩,h1,h2⟩:=h
 obtain ⟨j',h3⟩:=List.getElem?_of_mem h1
 rw [List.getElem?_take] at h3
 split at h3
 ·simp at h2;subst h2;exact ⟨j',m',by assumption,h3⟩
 ·cases h3
theorem before_of {p:List (Nat×Nat)} {j j' k m' : Nat} (h1:j' < j) (h2:p[j']? = some (k,m')):before p j k=true:=by
 unfold before
 rw [List.any_eq_true]
 exact ⟨(k,m'),List.mem_of_getElem? (i:=j') (by rw [List.getElem?_take,if_pos h1];exact h2),by simp⟩
theorem some_lt {ops:Array Oper} {i:Nat} {o:Oper} (h:ops[i]? = some o):i < ops.size:=(Array.getElem?_eq_some_iff.1 h).1
theorem planR_spec {rk:Nat->Nat} {T:Tab} {ops:Array Oper} {nt:Nat} {p:List (Nat×Nat)} {anc:List Nat} (h:planR rk T ops nt p anc=true):PlanP T ops nt p anc:=by
 simp only [planR,Bool.and_eq_true,List.all_eq_true,List.mem_range] at h
 obtain ⟨⟨⟨⟨h1,h2⟩,h3⟩,h4⟩,h5⟩:=h
 have one:∀ j i m,p[j]? = some (i,m)->ckOne T ops p anc j i m=true:=fun j i m hj=>by
  have:=h2 j (List.getElem?_eq_some_iff.1 hj).1
  rw [hj] at this
  exact this
 have dd:∀ i o t,ops[i]? = some o->o.dst=some t->t < nt/\∀ k,k < ops.size->dstAt ops k=some t->i=k:=fun i o t hi ht=>by
  have:=h3 i (some_lt hi)
  simp only [dstAt,hi,ht,Bool.and_eq_true,List.all_eq_true,List.mem_range] at this
  refine ⟨by simpa using this.1,fun k hk hd=>?_⟩
  have h':=this.2 k hk
  have hd' : (match ops[k]? with | some o=>o.dst | none=>none)=some t:=hd
  rw [hd'] at h'
  simpa using h'
 refine ⟨fun i hi=>?_,fun j i m hj=>?_,fun j j' i m m' hj hj'=>?_,fun i o t hi ht=>(dd i o t hi ht).1,fun i k o o' t hi hk ht ht'=>(dd i o t hi ht).2 k (some_lt hk) (by simp [dstAt,hk,ht']),fun j i m o t k o' hj hi ht hk hk'=>?_,fun j i m o g b hj hi hg=>?_,fun j i m o hj hi hp j' k m' hlt hk=>?_,fun j i m o hj hi=>?_,⟨rk,fun i o e hi he hb=>?_⟩,fun i k hi hk hb=>?_⟩
 ·have:=h1 i hi
  rw [List.any_eq_true] at this
  obtain ⟨⟨i',m⟩,h6,h7⟩:=this
  obtain ⟨j,h8⟩:=List.getElem?_of_mem h6
  simp at h7;subst h7
  exact ⟨j,m,h8⟩
 ·have:=one j i m hj
  unfold ckOne at this
  split at this
  ·cases this
  ·exact ⟨_,by assumption⟩
 ·have key:∀ j j' i m m',p[j]? = some (i,m)->p[j']? = some (i,m')->¬ j' < j:=fun j j' i m m' hj hj' hlt=>by
   have:=one j i m hj
   unfold ckOne at this
   split at this
   ·cases this
   ·simp only [Bool.and_eq_true,Bool.not_eq_true'] at this
    rw [before_of hlt hj'] at this
    cases this.2
  have a:=key j j' i m m' hj hj'
  have b:=key j' j i m' m hj' hj
  omega
 ·have:=one j i m hj
  simp only [ckOne,hi,Bool.and_eq_true,List.all_eq_true] at this
  have h6:=this.1.1.1.1 (.tmp t) (by simpa using ht)
  simp only [List.all_eq_true,List.mem_range] at h6
  have h7:=h6 k (some_lt hk)
  simp only [dstAt,hk,hk'] at h7
  simp at h7
  rcases h7 with h7 | h7
  ·exact .inl ⟨h7.1,before_spec h7.2⟩
  ·exact .inr h7
 ·have:=one j i m hj
  simp only [ckOne,hi,Bool.and_eq_true] at this
  have h6:=this.1.1.1.2
  rw [hg] at h6
  simp only [Bool.and_eq_true] at h6
  exact ⟨h6.1,before_spec h6.2⟩
 ·have:=one j i m hj
  simp only [ckOne,hi,Bool.and_eq_true] at this
  have h6:=this.1.1.2
  rw [hp] at h6
  simp only [Bool.not_true,Bool.false_or,List.all_eq_true] at h6
  exact h6 (k,m') (List.mem_of_getElem? (i:=j') (by rw [List.getElem?_take,if_pos hlt];exact hk))
 ·have:=one j i m hj
  simp only [ckOne,hi,Bool.and_eq_true] at this
  exact Nat.le_of_ble_eq_true this.1.2
 ·have:=h4 i (some_lt hi)
  simp only [hi,List.all_eq_true] at this
  have h6:=this e (by simpa using he)
  rw [hb] at h6
  simpa using h6
 ·have:=h5 i hi k hk
  rw [hb] at this
  simp only [Bool.not_true,Bool.false_or] at this
  split at this
  ·rename_i o ho
   rw [List.any_eq_true] at this
   obtain ⟨e,h6,h7⟩:=this
   simp only [Bool.and_eq_true,Bool.or_eq_true,beq_iff_eq] at h7
   exact ⟨o,e,ho,by simpa using h6,h7.1,h7.2⟩
  ·cases this
theorem planOk_spec {T:Tab} {ops:Array Oper} {nt:Nat} {p:List (Nat×Nat)} {anc:List Nat} (h:planOk T ops nt p anc=true):PlanP T ops nt p anc:=planR_spec h
inductive StepAt (T:Tab) (call:CallE) (ops:Array Oper) (o:Oper) (m:Nat) (F:Fr) (H:Hp) (B:List Hp):Fr->Hp->List Hp->Prop
 | skip:wantedV ops F o.guard=some false->StepAt T call ops o m F H B (delD F o.dst) H (if isPt T o.op then H :: B else B)
 | val (v:V) (H' : Hp):wantedV ops F o.guard=some true->evOp T o.op F H=some (.val v H')->isPt T o.op=false->winOk T o.op F m v B=true->StepAt T call ops o m F H B (putD F o.dst v) H' B
 | pval (v:V) (H' : Hp):wantedV ops F o.guard=some true->evOp T o.op F H=some (.val v H')->isPt T o.op=true->StepAt T call ops o m F H B (putD F o.dst v) H'.bump (H' :: B)
 | pskip (H' : Hp):wantedV ops F o.guard=some true->evOp T o.op F H=some (.skip H')->isPt T o.op=true->StepAt T call ops o m F H B (delD F o.dst) H'.bump (H' :: B)
 | call (f:FuncId) (xs:List V) (H' : Hp) (v:V) (H'' : Hp):wantedV ops F o.guard=some true->evOp T o.op F H=some (.enter f xs H')->call f xs H' = some (v,H'')->isPt T o.op=true->StepAt T call ops o m F H B (putD F o.dst v) H''.bump (H'' :: B)
theorem skip_pt {T:Tab} {o:Op} {F:Fr} {H H' : Hp} (h:evOp T o F H=some (.skip H')):isPt T o=true:=by
 unfold evOp at h
 unfold isPt
 split at h
 ·split at h<;>cases h
 ·split at h<;>cases h
 ·split at h
  ·split at h<;>cases h
  ·split at h<;>cases h
 ·rename_i hk;rw [hk]
 ·split at h
  ·split at h
   ·split at h<;>cases h
   ·cases h
  ·cases h
 ·cases h
theorem enter_pt {T:Tab} {o:Op} {F:Fr} {H H' : Hp} {f:FuncId} {xs:List V} (h:evOp T o F H=some (.enter f xs H')):isPt T o=true:=by
 unfold evOp at h
 unfold isPt
 split at h
 ·split at h<;>cases h
 ·split at h<;>cases h
 ·split at h
  ·split at h<;>cases h
  ·split at h<;>cases h
 ·split at h<;>cases h
 ·rename_i hk;rw [hk]
 ·cases h
theorem evDraw_trace {T:Tab} {call:CallE} {ops:Array Oper}:∀ (p:List (Nat×Nat)) {F F' : Fr} {H H' : Hp} {B:List Hp},evDraw T call ops p F H B=some (F',H') ->
  ∃ (Fs:Nat->Fr) (Hs:Nat->Hp) (Bs:Nat->List Hp),Fs 0=F/\Hs 0=H/\Bs 0=B/\(∀ j i m,p[j]? = some (i,m)->∃ o,ops[i]? = some o/\StepAt T call ops o m (Fs j) (Hs j) (Bs j) (Fs (j+1)) (Hs (j+1)) (Bs (j+1)))/\F' = Fs p.length/\H' = (Hs p.length).flush
 | [],F,F',H,H',B,h=>by
  simp only [evDraw] at h
  cases h
  exact ⟨fun _=>F,fun _=>H,fun _=>B,rfl,rfl,rfl,fun j i m hj=>by simp at hj,rfl,rfl⟩
 | (i,m) :: r,F,F',H,H',B,h=>by
  simp only [evDraw] at h
  split at h
  ·cases h
  ·rename_i o ho
   have key:∀ F1 H1 B1,StepAt T call ops o m F H B F1 H1 B1->evDraw T call ops r F1 H1 B1=some (F',H') ->
     ∃ (Fs:Nat->Fr) (Hs:Nat->Hp) (Bs:Nat->List Hp),Fs 0=F/\Hs 0=H/\Bs 0=B/\(∀ j i' m',((i,m) :: r)[j]? = some (i',m')->∃ o,ops[i']? = some o/\StepAt T call ops o m' (Fs j) (Hs j) (Bs j) (Fs (j+1)) (Hs (j+1)) (Bs (j+1)))/\F' = Fs (r.length+1)/\H' = (Hs (r.length+1)).flush:=by
    intro F1 H1 B1 hs hr
    obtain ⟨Fs,Hs,Bs,e1,e2,e3,e4,e5,e6⟩:=evDraw_trace r hr
    refine ⟨fun | 0=>F | j+1=>Fs j,fun | 0=>H | j+1=>Hs j,fun | 0=>B | j+1=>Bs j,rfl,rfl,rfl,fun j i' m' hj=>?_,e5,e6⟩
    cases j with
    | zero =>
     simp at hj
     obtain ⟨rfl,rfl⟩:=hj
     exact ⟨o,ho,by dsimp only;rw [e1,e2,e3];exact hs⟩
    | succ j=>exact e4 j i' m' (by simpa using hj)
   split at h
   ·rename_i hw
    split at h
    ·rename_i v H1 hop
     split at h
     ·rename_i hp
      exact key _ _ _ (.pval v H1 hw hop hp) h
     ·rename_i hp
      split at h
      ·rename_i hwin
       exact key _ _ _ (.val v H1 hw hop (by simpa using hp) hwin) h
      ·cases h
    ·rename_i H1 hop
     exact key _ _ _ (.pskip H1 hw hop (skip_pt hop)) h
    ·rename_i f xs H1 hop
     split at h
     ·rename_i v H2 hc
      exact key _ _ _ (.call f xs H1 v H2 hw hop hc (enter_pt hop)) h
     ·cases h
    ·cases h
   ·rename_i hw
    exact key _ _ _ (.skip hw) h
   ·cases h
theorem StepAt.grow {T:Tab} {call:CallE} (hc:CallGood call) {ops:Array Oper} {o:Oper} {m:Nat} {F F1:Fr} {H H1:Hp} {B B1:List Hp} (hG:Good H) (h:StepAt T call ops o m F H B F1 H1 B1):Grow H H1:=by
 cases h with
 | skip _=>exact .refl hG
 | val v H' _ h _ _=>exact evOp_val hG h
 | pval v H' _ h _=>exact (evOp_val hG h).bump
 | pskip H' _ h _=>exact (evOp_skp hG h).bump
 | call f xs H' v H'' _ h h' _=>exact ((evOp_ent hG h).trans (hc _ _ _ _ _ h' (evOp_ent hG h).good)).bump
theorem StepAt.frame {T:Tab} {call:CallE} {ops:Array Oper} {o:Oper} {m:Nat} {F F1:Fr} {H H1:Hp} {B B1:List Hp} (h:StepAt T call ops o m F H B F1 H1 B1) (t:Nat) (ht:o.dst≠some t):F1.get t=F.get t:=by
 have h1:(delD F o.dst).get t=F.get t:=by
  cases hd:o.dst with
  | none=>rfl
  | some u=>simp only [delD,Tr.get_set];rw [if_neg (fun e=>ht (by rw [hd,e]))]
 have h2:∀ v,(putD F o.dst v).get t=F.get t:=fun v=>by
  cases hd:o.dst with
  | none=>rfl
  | some u=>simp only [putD,Tr.get_set];rw [if_neg (fun e=>ht (by rw [hd,e]))]
 cases h with
 | skip _=>exact h1
 | val v _ _ _ _ _=>exact h2 v
 | pval v _ _ _ _=>exact h2 v
 | pskip _ _ _ _=>exact h1
 | call _ _ _ v _ _ _ _ _=>exact h2 v
structure Dd where
 pan:CallE
 dj:Nat->Prop
 dd:Nat->Prop
def Dd.none:Dd:=⟨fun _ _ _=>Option.none,fun _=>False,fun _=>False⟩
theorem Dd.none_good:CallGood Dd.none.pan:=fun _ _ _ _ _ h=>by cases h
inductive StepX (T:Tab) (call:CallE) (Z:Dd) (ops:Array Oper) (i:Nat) (o:Oper) (m:Nat) (F:Fr) (H:Hp) (B:List Hp):Fr->Hp->List Hp->Prop
 | runs {F1:Fr} {H1:Hp} {B1:List Hp}:StepAt T call ops o m F H B F1 H1 B1->StepX T call Z ops i o m F H B F1 H1 B1
 | pans (f:FuncId) (xs:List V) (H' : Hp) (v:V) (H'' : Hp):Z.dj i->wantedV ops F o.guard=some true->evOp T o.op F H=some (.enter f xs H')->Z.pan f xs H' = some (v,H'')->isPt T o.op=true->StepX T call Z ops i o m F H B (delD F o.dst) H''.bump (H'' :: B)
 | dead:Z.dd i->StepX T call Z ops i o m F H B (delD F o.dst) H (if isPt T o.op then H :: B else B)
theorem StepX.grow {T:Tab} {call:CallE} {Z:Dd} (hc:CallGood call) (hz:CallGood Z.pan) {ops:Array Oper} {i:Nat} {o:Oper} {m:Nat} {F F1:Fr} {H H1:Hp} {B B1:List Hp} (hG:Good H) (h:StepX T call Z ops i o m F H B F1 H1 B1):Grow H H1:=by
 cases h with
 | runs h=>exact h.grow hc hG
 | pans f xs H' v H'' _ _ h h' _=>exact ((evOp_ent hG h).trans (hz _ _ _ _ _ h' (evOp_ent hG h).good)).bump
 | dead _=>exact .refl hG
theorem StepX.frame {T:Tab} {call:CallE} {Z:Dd} {ops:Array Oper} {i:Nat} {o:Oper} {m:Nat} {F F1:Fr} {H H1:Hp} {B B1:List Hp} (h:StepX T call Z ops i o m F H B F1 H1 B1) (t:Nat) (ht:o.dst≠some t):F1.get t=F.get t:=by
 have h1:(delD F o.dst).get t=F.get t:=by
  cases hd:o.dst with
  | none=>rfl
  | some u=>simp only [delD,Tr.get_set];rw [if_neg (fun e=>ht (by rw [hd,e]))]
 cases h with
 | runs h=>exact h.frame t ht
 | pans _ _ _ _ _ _ _ _ _ _=>exact h1
 | dead _=>exact h1
def Tr.filt {α:Type} (q:Nat->Bool):Tr α->(Nat->Nat)->Tr α
 | .nil,_=>.nil
 | .node l v r,k=>.node (l.filt q fun n=>k (2*n+1)) (if q (k 0) then v else none) (r.filt q fun n=>k (2*n+2))
theorem Tr.get_filt {α:Type} (q:Nat->Bool):∀ (t:Tr α) (k:Nat->Nat) (n:Nat),(t.filt q k).get n=if q (k n) then t.get n else none
 | .nil,k,n=>by simp [Tr.filt,Tr.get]
 | .node l v r,k,n=>by
  simp only [Tr.filt,Tr.get]
  by_cases h0:n=0
  ·subst h0;simp
  ·rw [if_neg h0,if_neg h0]
   by_cases h1:n % 2=1
   ·rw [if_pos h1,if_pos h1,Tr.get_filt q l]
    rw [show 2*(n / 2)+1=n from by omega]
   ·rw [if_neg h1,if_neg h1,Tr.get_filt q r]
    rw [show 2*(n / 2-1)+2=n from by omega]
end Go.AM
namespace Go.AM
open Go
def Tr.mrg {α:Type}:Tr α->Tr α->Tr α
 | .nil,t=>t
 | .node l v r,.nil=>.node l v r
 | .node l v r,.node l' v' r'=>.node (l.mrg l') (v.or v') (r.mrg r')
theorem Tr.get_mrg {α:Type}:∀ (a b:Tr α) (n:Nat),(a.mrg b).get n=(a.get n).or (b.get n)
 | .nil,t,n=>by simp [Tr.mrg,Tr.get]
 | .node l v r,.nil,n=>by simp [Tr.mrg,Tr.get]
 | .node l v r,.node l' v' r',n=>by
  simp only [Tr.mrg,Tr.get]
  by_cases h0:n=0
  ·subst h0;simp
  ·rw [if_neg h0,if_neg h0,if_neg h0]
   by_cases h1:n % 2=1
   ·rw [if_pos h1,if_pos h1,if_pos h1,Tr.get_mrg l l']
   ·rw [if_neg h1,if_neg h1,if_neg h1,Tr.get_mrg r r']
structure Cx (T:Tab) (P:Program) (n0:Nat) (w0:World) (call:CallE) (Z:Dd) (ops:Array Oper) (nt:NT) (p:List (Nat×Nat)) (anc:List Nat) (Fs:Nat->Fr) (Hs:Nat->Hp) (Bs:Nat->List Hp):Prop where
 M:MachOk T P
 hn:n0<=w0.heap.size
 c:CallOk T P n0 w0 call
 cg:CallGood call
 zg:CallGood Z.pan
 pl:PlanP T ops nt p anc
 tr:∀ (j i m:Nat),p[j]? = some (i,m)->∃ o,ops[i]? = some o/\StepX T call Z ops i o m (Fs j) (Hs j) (Bs j) (Fs (j+1)) (Hs (j+1)) (Bs (j+1))
 b0:Bs 0=[Hs 0]
 g0:Good (Hs 0)
def Ex (S:Array Bool) (p:List (Nat×Nat)) (j:Nat):Prop:=∃ i m,p[j]? = some (i,m)/\S.getD i false=true
def Ey (Hs:Nat->Hp) (S:Array Bool) (p:List (Nat×Nat)) (q j b:Nat):Prop:=q<=j/\Ex S p j/\(Hs j).next<=b/\b < (Hs (j+1)).next
structure Inv (T:Tab) (n0:Nat) (w0:World) (ops:Array Oper) (nt:NT) (p:List (Nat×Nat)) (Fs:Nat->Fr) (Hs:Nat->Hp) (D:Nat->Prop) (s:Sg) (w:World) (S:Array Bool) (a1:Act) (w1:World) (q:Nat) (D1:Nat->Prop) (s1:Sg) (G:Hp):Prop where
 size:S.size=ops.size
 closed:∀ (i:Nat) o e,ops[i]? = some o->S.getD i false=true->e∈o.after->Region.binds .any e=true->S.getD e.on false=true
 qle:q<=p.length
 base:∀ q',q=q' + 1->∃ i m o,p[q']? = some (i,m)/\ops[i]? = some o/\isPt T o.op=true
 below:∀ j,j < q->Ex S p j
 early:∀ (j i m:Nat) o,q<=j->p[j]? = some (i,m)->ops[i]? = some o->S.getD i false=true->isPt T o.op=false
 step:StepG n0 w0 D s (Hs 0) w D1 s1 G w1
 dom:∀ b,D1 b ↔ D b\/((Hs 0).next<=b/\b < (Hs q).next)\/∃ j,Ey Hs S p q j b
 gst:G.stale=(Hs q).stale
 glo:∀ b,b < (Hs q).next->G.get b=(Hs q).get b
 ghi:∀ j b,Ey Hs S p q j b->G.get b=(Hs (j+1)).get b
 gno:∀ b,(Hs q).next<=b->(¬ ∃ j,Ey Hs S p q j b)->G.get b=none
 uniq:∀ j b,Ey Hs S p q j b->∀ c,D1 c->c≠b->Live G c->(s1 c).b≠(s1 b).b
 fr:∀ t v,(∀ (i:Nat) o,ops[i]? = some o->o.dst=some t->S.getD i false=true)->(Fs p.length).get t=some v->∃ x,a1.tmps[t]? = some x/\Rv D1 s1 v x
 fr0:∀ t v,(∀ (i:Nat) o,ops[i]? = some o->o.dst=some t->S.getD i false=false)->(Fs 0).get t=some v->∃ x,a1.tmps[t]? = some x/\Rv D1 s1 v x
 tsize:nt<=a1.tmps.size
 defers:DQ T nt a1.defers
section
variable {T:Tab} {P:Program} {n0:Nat} {w0:World} {call:CallE} {Z:Dd} {ops:Array Oper} {nt:NT} {p:List (Nat×Nat)} {anc:List Nat} {Fs:Nat->Fr} {Hs:Nat->Hp} {Bs:Nat->List Hp}
variable {D:Nat->Prop} {s:Sg} {w:World} {S:Array Bool} {a1:Act} {w1:World} {q:Nat} {D1:Nat->Prop} {s1:Sg} {G:Hp}
theorem Cx.stp (C:Cx T P n0 w0 call Z ops nt p anc Fs Hs Bs) {j i m:Nat} {o:Oper} (hj:p[j]? = some (i,m)) (ho:ops[i]? = some o):StepX T call Z ops i o m (Fs j) (Hs j) (Bs j) (Fs (j+1)) (Hs (j+1)) (Bs (j+1)):=by
 obtain ⟨o',h1,h2⟩:=C.tr j i m hj
 rw [ho] at h1;cases h1
 exact h2
theorem Cx.ent (C:Cx T P n0 w0 call Z ops nt p anc Fs Hs Bs) {j:Nat} (hj:j < p.length):∃ i m o,p[j]? = some (i,m)/\ops[i]? = some o:=by
 obtain ⟨⟨i,m⟩,h⟩:∃ e,p[j]? = some e:=⟨p[j],List.getElem?_eq_getElem hj⟩
 obtain ⟨o,ho⟩:=C.pl.op j i m h
 exact ⟨i,m,o,h,ho⟩
theorem Cx.grow0 (C:Cx T P n0 w0 call Z ops nt p anc Fs Hs Bs):∀ j,j<=p.length->Good (Hs j)
 | 0,_=>C.g0
 | j+1,h=>by
  obtain ⟨i,m,o,hj,ho⟩:=C.ent (show j < p.length by omega)
  exact ((C.stp hj ho).grow C.cg C.zg (C.grow0 j (by omega))).good
theorem Cx.grow (C:Cx T P n0 w0 call Z ops nt p anc Fs Hs Bs) {j:Nat}:∀ k,j<=k->k<=p.length->Grow (Hs j) (Hs k)
 | 0,h,h'=>by
  have:j=0:=by omega
  subst this
  exact .refl C.g0
 | k+1,h,h'=>by
  by_cases e:j=k+1
  ·subst e;exact .refl (C.grow0 _ h')
  ·obtain ⟨i,m,o,hj,ho⟩:=C.ent (show k < p.length by omega)
   exact (C.grow k (by omega) (by omega)).trans ((C.stp hj ho).grow C.cg C.zg (C.grow0 k (by omega)))
theorem Cx.le (C:Cx T P n0 w0 call Z ops nt p anc Fs Hs Bs) {j k:Nat} (h:j<=k) (h' : k<=p.length):(Hs j).next<=(Hs k).next:=(C.grow k h h').le
theorem Cx.stab (C:Cx T P n0 w0 call Z ops nt p anc Fs Hs Bs) {j t:Nat}:∀ k,j<=k->k<=p.length->(∀ (j' i m:Nat) o,j<=j'->j' < k->p[j']? = some (i,m)->ops[i]? = some o->o.dst≠some t)->(Fs k).get t=(Fs j).get t
 | 0,h,_,_=>by
  have:j=0:=by omega
  subst this;rfl
 | k+1,h,h',hd=>by
  by_cases e:j=k+1
  ·subst e;rfl
  ·obtain ⟨i,m,o,hj,ho⟩:=C.ent (show k < p.length by omega)
   rw [(C.stp hj ho).frame t (hd k i m o (by omega) (by omega) hj ho)]
   exact C.stab k (by omega) (by omega) (fun j' i m o h1 h2=>hd j' i m o h1 (by omega))
theorem StepAt.np {o:Oper} {m:Nat} {F F1:Fr} {H H1:Hp} {B B1:List Hp} (h:StepAt T call ops o m F H B F1 H1 B1) (hp:isPt T o.op=false):B1=B/\(H1=H\/∃ ob,ob≠.dead/\(∀ m si se la,ob≠.iter m si se la)/\H1=H.new ob):=by
 cases h with
 | skip _=>rw [hp];exact ⟨rfl,.inl rfl⟩
 | val v H' _ h _ _ =>
  refine ⟨rfl,?_⟩
  unfold evOp at h
  unfold isPt at hp
  split at h
  ·split at h<;>cases h;exact .inl rfl
  ·split at h<;>cases h;exact .inl rfl
  ·rename_i hk
   rw [hk] at hp
   have hcall:∀ c,o.op≠.call c:=fun c e=>by rw [e] at hp;simp at hp
   split at h
   ·rename_i v' ob kb hev
    split at h<;>cases h
    obtain ⟨ob',rfl,rfl,h1,h2,_⟩:=evA_fresh hcall hev
    exact .inr ⟨ob',h1,h2,rfl⟩
   ·split at h<;>cases h
    rename_i hev
    exfalso
    generalize o.op=op at hcall hev
    cases op<;>first | exact hcall _ rfl | (simp [evAW] at hev)
  ·rename_i hk;rw [hk] at hp;cases hp
  ·rename_i hk;rw [hk] at hp;cases hp
  ·cases h
 | pval _ _ _ _ h=>rw [hp] at h;cases h
 | pskip _ _ _ h=>rw [hp] at h;cases h
 | call _ _ _ _ _ _ _ _ h=>rw [hp] at h;cases h
theorem StepX.np {i:Nat} {o:Oper} {m:Nat} {F F1:Fr} {H H1:Hp} {B B1:List Hp} (h:StepX T call Z ops i o m F H B F1 H1 B1) (hp:isPt T o.op=false):B1=B/\(H1=H\/∃ ob,ob≠.dead/\(∀ m si se la,ob≠.iter m si se la)/\H1=H.new ob):=by
 cases h with
 | runs h=>exact h.np hp
 | pans _ _ _ _ _ _ _ _ _ h=>rw [hp] at h;cases h
 | dead _=>rw [hp];exact ⟨rfl,.inl rfl⟩
theorem Cx.keep (C:Cx T P n0 w0 call Z ops nt p anc Fs Hs Bs) {k:Nat}:∀ j,k<=j->j<=p.length->(∀ (j' i m:Nat) o,k<=j'->j' < j->p[j']? = some (i,m)->ops[i]? = some o->isPt T o.op=false)->(∀ b,b < (Hs k).next->(Hs j).get b=(Hs k).get b)/\(Hs j).stale=(Hs k).stale/\Bs j=Bs k
 | 0,h,_,_=>by
  have:k=0:=by omega
  subst this;exact ⟨fun _ _=>rfl,rfl,rfl⟩
 | j+1,h,h',hp=>by
  by_cases e:k=j+1
  ·subst e;exact ⟨fun _ _=>rfl,rfl,rfl⟩
  ·obtain ⟨i,m,o,hj,ho⟩:=C.ent (show j < p.length by omega)
   obtain ⟨h1,h2,h3⟩:=C.keep j (by omega) (by omega) (fun j' i m o a b=>hp j' i m o a (by omega))
   obtain ⟨hb,hc⟩:=(C.stp hj ho).np (hp j i m o (by omega) (by omega) hj ho)
   rw [hb]
   have hle:=C.le (show k<=j by omega) (by omega)
   rcases hc with hc | ⟨ob,_,_,hc⟩
   ·rw [hc];exact ⟨h1,h2,h3⟩
   ·rw [hc]
    refine ⟨fun b hb=>?_,h2,h3⟩
    rw [Hp.get_new,if_neg (by omega)]
    exact h1 b hb
theorem Cx.find (C:Cx T P n0 w0 call Z ops nt p anc Fs Hs Bs) {k b:Nat} (h0:(Hs k).next<=b):∀ j,k<=j->j<=p.length->b < (Hs j).next->∃ j',k<=j'/\j' < j/\(Hs j').next<=b/\b < (Hs (j' + 1)).next
 | 0,h,_,hb=>by
  have:k=0:=by omega
  subst this;omega
 | j+1,h,h',hb=>by
  by_cases e:k=j+1
  ·subst e;omega
  ·by_cases hb' : b < (Hs j).next
   ·obtain ⟨j',h1,h2,h3⟩:=C.find h0 j (by omega) (by omega) hb'
    exact ⟨j',h1,by omega,h3⟩
   ·exact ⟨j,by omega,by omega,by omega,hb⟩
theorem getD_set (S:Array Bool) {i k:Nat} (hi:i < S.size):(S.setIfInBounds i true).getD k false=true ↔ k=i\/S.getD k false=true:=by
 by_cases e:k=i
 ·subst e;simp [hi]
 ·simp only [e,false_or]
  rw [getD_set_ne false (Ne.symm e)]
theorem getD_tf (S:Array Bool) {i:Nat} (hi:i < S.size):S.getD i true=S.getD i false:=by simp [hi]
theorem anc_ex (pl:PlanP T ops nt p anc) (hS:S.size=ops.size) (closed:∀ (i:Nat) o e,ops[i]? = some o->S.getD i false=true->e∈o.after->Region.binds .any e=true->S.getD e.on false=true) :
  ∀ (i:Nat),i < ops.size->(∀ o e,ops[i]? = some o->e∈o.after->Region.binds .any e=true->S.getD e.on false=true)->∀ k,k < ops.size->bitA anc i k=true->S.getD k false=true:=by
 obtain ⟨rk,hrk⟩:=pl.edge
 have key:∀ (n i:Nat),rk i < n->i < ops.size->(∀ o e,ops[i]? = some o->e∈o.after->Region.binds .any e=true->S.getD e.on false=true)->∀ k,k < ops.size->bitA anc i k=true->S.getD k false=true:=by
  intro n
  induction n with
  | zero=>intro i h;omega
  | succ n ih =>
   intro i h hi hr k hk hb
   obtain ⟨o,e,ho,he,hbd,hor⟩:=pl.anc i k hi hk hb
   have hex:=hr o e ho he hbd
   rcases hor with rfl | hor
   ·exact hex
   ·have hlt:=hrk i o e ho he hbd
    exact ih e.on (by omega) hlt.2 (fun o' e' ho' he' hb'=>closed e.on o' e' ho' hex he' hb') k hk hor
 exact fun i=>key (rk i+1) i (Nat.lt_succ_self _)
structure Rdy (ops:Array Oper) (p:List (Nat×Nat)) (S:Array Bool) (j i m:Nat) (o:Oper):Prop where
 at_:p[j]? = some (i,m)
 op:ops[i]? = some o
 un:S.getD i false=false
 pre:∀ e,e∈o.after->Region.binds .any e=true->S.getD e.on false=true
theorem Inv.up (I:Inv T n0 w0 ops nt p Fs Hs D s w S a1 w1 q D1 s1 G) (C:Cx T P n0 w0 call Z ops nt p anc Fs Hs Bs) {j i m:Nat} {o:Oper} (R:Rdy ops p S j i m o) {k:Nat} (hk:k < ops.size) (hb:bitA anc i k=true):S.getD k false=true :=
 anc_ex C.pl I.size I.closed i (some_lt R.op) (fun o' e ho' he hb=>by rw [R.op] at ho';cases ho';exact R.pre e he hb) k hk hb
theorem Inv.qj (I:Inv T n0 w0 ops nt p Fs Hs D s w S a1 w1 q D1 s1 G) {j i m:Nat} {o:Oper} (R:Rdy ops p S j i m o):q<=j:=by
 rcases Nat.lt_or_ge j q with h | h
 ·obtain ⟨i',m',h1,h2⟩:=I.below j h
  rw [R.at_] at h1;cases h1
  rw [R.un] at h2;cases h2
 ·exact h
theorem Rdy.lt {j i m:Nat} {o:Oper} (R:Rdy ops p S j i m o):j < p.length:=(List.getElem?_eq_some_iff.1 R.at_).1
theorem Rdy.nex {j i m:Nat} {o:Oper} (R:Rdy ops p S j i m o):¬ Ex S p j:=fun ⟨i',m',h1,h2⟩=>by
 rw [R.at_] at h1;cases h1
 rw [R.un] at h2;cases h2
theorem Inv.fresh (I:Inv T n0 w0 ops nt p Fs Hs D s w S a1 w1 q D1 s1 G) (C:Cx T P n0 w0 call Z ops nt p anc Fs Hs Bs) (hf:Fresh D (Hs 0) (Hs p.length)) {j i m:Nat} {o:Oper} (R:Rdy ops p S j i m o) {b:Nat} (h1:(Hs j).next<=b) (h2:b < (Hs (j+1)).next):¬ D1 b:=by
 have hj:=R.lt
 have hq:=I.qj R
 intro hd
 rcases (I.dom b).1 hd with h | h | ⟨j',h3,h4,h5,h6⟩
 ·have e1:=C.le (Nat.zero_le j) (by omega)
  have e2:=C.le (show j+1<=p.length by omega) (Nat.le_refl _)
  exact hf b (by omega) (by omega) h
 ·have e1:=C.le hq (by omega)
  omega
 ·have hj' : j' < p.length:=by obtain ⟨i',m',h7,_⟩:=h4;exact (List.getElem?_eq_some_iff.1 h7).1
  by_cases e:j' = j
  ·subst e;exact R.nex h4
  ·by_cases hlt:j' < j
   ·have:=C.le (show j' + 1<=j by omega) (by omega)
    omega
   ·have:=C.le (show j+1<=j' by omega) (by omega)
    omega
theorem Inv.frame_at (I:Inv T n0 w0 ops nt p Fs Hs D s w S a1 w1 q D1 s1 G) (C:Cx T P n0 w0 call Z ops nt p anc Fs Hs Bs) {j i m:Nat} {o:Oper} (R:Rdy ops p S j i m o) :
  ∃ F,FrOk D1 s1 F a1/\Agree T F (Fs j) o.op/\wantedV ops F o.guard=wantedV ops (Fs j) o.guard:=by
 classical
 let Y:Nat->Prop:=fun t=>∀ (i' : Nat) o',ops[i']? = some o'->o'.dst=some t->∃ k m',k < j/\p[k]? = some (i',m')/\S.getD i' false=true
 let Z:Nat->Prop:=fun t=>∀ (i' : Nat) o',ops[i']? = some o'->o'.dst=some t->S.getD i' false=false/\before p (j+1) i' = false
 have hget:∀ t,((Fs j).filt (fun t=>decide (Y t\/Z t)) (fun n=>n)).get t=if Y t\/Z t then (Fs j).get t else none:=fun t=>by
  rw [Tr.get_filt]
  by_cases h:Y t\/Z t<;>simp [h]
 have hwr:∀ (k:Nat) o' t,bitA anc i k=true->(∃ j' m' : Nat,j' < j/\p[j']? = some (k,m'))->ops[k]? = some o'->o'.dst=some t->Y t:=fun k o' t hb hbf hk ht i' o'' hi' ht'=>by
  have:=C.pl.dst k i' o' o'' t hk hi' ht ht'
  subst this
  obtain ⟨j',m',h1,h2⟩:=hbf
  exact ⟨j',m',h1,h2,I.up C R (some_lt hk) hb⟩
 have hwz:∀ (k:Nat) o' t,bitA anc k i=true->before p (j+1) k=false->ops[k]? = some o'->o'.dst=some t->Z t:=fun k o' t hb hbf hk ht i' o'' hi' ht'=>by
  have:=C.pl.dst k i' o' o'' t hk hi' ht ht'
  subst this
  refine ⟨?_,hbf⟩
  cases hS:S.getD k false with
  | false=>rfl
  | true =>
   have:=anc_ex C.pl I.size I.closed k (some_lt hk) (fun o1 e h1 he hb'=>I.closed k o1 e h1 hS he hb') i (some_lt R.op) hb
   rw [R.un] at this
   cases this
 refine ⟨(Fs j).filt (fun t=>decide (Y t\/Z t)) (fun n=>n),fun t v ht=>?_,fun x hx=>?_,?_⟩
 ·rw [hget] at ht
  split at ht
  ·rename_i hYZ
   rcases hYZ with hY | hZ
   ·refine I.fr t v (fun i' o' hi' ht'=>?_) ?_
    ·obtain ⟨k,m',_,_,h⟩:=hY i' o' hi' ht'
     exact h
    ·rw [C.stab p.length (Nat.le_of_lt R.lt) (Nat.le_refl _) (fun j' i' m' o' h1 h2 h3 h4 h5=>?_)]
     ·exact ht
     ·obtain ⟨k,m'',h6,h7,_⟩:=hY i' o' h4 h5
      have:=C.pl.inj j' k i' m' m'' h3 h7
      omega
   ·refine I.fr0 t v (fun i' o' hi' ht'=>(hZ i' o' hi' ht').1) ?_
    rw [<- C.stab j (Nat.zero_le j) (Nat.le_of_lt R.lt) (fun j' i' m' o' h1 h2 h3 h4 h5=>?_)]
    ·exact ht
    ·have:=(hZ i' o' h4 h5).2
     rw [before_of (show j' < j+1 by omega) h3] at this
     cases this
  ·cases ht
 ·cases x with
  | tmp t =>
   simp only [opd]
   rw [hget]
   by_cases hY:Y t\/Z t
   ·rw [if_pos hY]
   ·rw [if_neg hY]
    exfalso
    apply hY
    by_cases hw:∃ (i' : Nat) (o' : Oper),ops[i']? = some o'/\o'.dst=some t
    ·obtain ⟨i',o',hi',ht'⟩:=hw
     rcases C.pl.tmp j i m o t i' o' R.at_ R.op hx hi' ht' with ⟨h1,h2⟩ | ⟨h1,h2⟩
     ·exact .inl (hwr i' o' t h1 h2 hi' ht')
     ·exact .inr (hwz i' o' t h1 h2 hi' ht')
    ·exact .inl fun i' o' hi' ht'=>absurd ⟨i',o',hi',ht'⟩ hw
  | const _=>rfl
  | global _=>rfl
  | func _=>rfl
 ·unfold wantedV
  cases hg:o.guard with
  | none=>rfl
  | some gb =>
   obtain ⟨g,b⟩:=gb
   obtain ⟨h1,h2⟩:=C.pl.grd j i m o g b R.at_ R.op hg
   have:gotB ops ((Fs j).filt (fun t=>decide (Y t\/Z t)) (fun n=>n)) g=gotB ops (Fs j) g:=by
    unfold gotB
    cases hk:ops[g]? with
    | none=>rfl
    | some o' =>
     dsimp only
     cases ht:o'.dst with
     | none=>rfl
     | some t =>
      dsimp only
      rw [hget,if_pos (.inl (hwr g o' t h1 h2 hk ht))]
   dsimp only
   rw [this]
theorem Inv.fr_next (I:Inv T n0 w0 ops nt p Fs Hs D s w S a1 w1 q D1 s1 G) (C:Cx T P n0 w0 call Z ops nt p anc Fs Hs Bs) {j i m:Nat} {o:Oper} (R:Rdy ops p S j i m o) {D' : Nat->Prop} {s' : Sg} (hD:∀ b,D1 b->D' b) (hs:∀ b,D1 b->s' b=s1 b) {x:Value}
  (hx:∀ t v,o.dst=some t->(Fs (j+1)).get t=some v->Rv D' s' v x) :
  ∀ t v,(∀ (i' : Nat) o',ops[i']? = some o'->o'.dst=some t->(S.setIfInBounds i true).getD i' false=true)->(Fs p.length).get t=some v->∃ y,(a1.put o.dst x).tmps[t]? = some y/\Rv D' s' v y:=by
 intro t v hall hv
 have hi:i < S.size:=by rw [I.size];exact some_lt R.op
 by_cases hd:o.dst=some t
 ·have e:(Fs p.length).get t=(Fs (j+1)).get t:=C.stab p.length R.lt (Nat.le_refl _) (fun j' i' m' o' h1 h2 h3 h4 h5=>by
   have:=C.pl.dst i i' o o' t R.op h4 hd h5
   subst this
   have:=C.pl.inj j j' i m m' R.at_ h3
   omega)
  rw [e] at hv
  refine ⟨x,?_,hx t v hd hv⟩
  have:=C.pl.lt i o t R.op hd
  have h2:=I.tsize
  rw [hd]
  simp [Act.put,Nat.lt_of_lt_of_le this h2]
 ·obtain ⟨y,h1,h2⟩:=I.fr t v (fun i' o' hi' ht'=>by
   rcases (getD_set S hi).1 (hall i' o' hi' ht') with h | h
   ·subst h
    rw [R.op] at hi';cases hi'
    exact absurd ht' hd
   ·exact h) hv
  refine ⟨y,?_,h2.mono hD hs⟩
  cases hdd:o.dst with
  | none=>exact h1
  | some u=>simp [Act.put,Array.getElem?_setIfInBounds,show u≠t from fun e=>hd (by rw [hdd,e]),h1]
theorem Inv.fr0_next (I:Inv T n0 w0 ops nt p Fs Hs D s w S a1 w1 q D1 s1 G) {j i m:Nat} {o:Oper} (R:Rdy ops p S j i m o) {D' : Nat->Prop} {s' : Sg} (hD:∀ b,D1 b->D' b) (hs:∀ b,D1 b->s' b=s1 b) (x:Value) :
  ∀ t v,(∀ (i' : Nat) o',ops[i']? = some o'->o'.dst=some t->(S.setIfInBounds i true).getD i' false=false)->(Fs 0).get t=some v->∃ y,(a1.put o.dst x).tmps[t]? = some y/\Rv D' s' v y:=by
 intro t v hall hv
 have hi:i < S.size:=by rw [I.size];exact some_lt R.op
 have hd:o.dst≠some t:=fun e=>by
  have:=hall i o R.op e
  rw [(getD_set S hi).2 (.inl rfl)] at this
  cases this
 obtain ⟨y,h1,h2⟩:=I.fr0 t v (fun i' o' hi' ht'=>by
  cases hS:S.getD i' false with
  | false=>rfl
  | true =>
   have:=hall i' o' hi' ht'
   rw [(getD_set S hi).2 (.inr hS)] at this
   cases this) hv
 refine ⟨y,?_,h2.mono hD hs⟩
 cases hdd:o.dst with
 | none=>exact h1
 | some u=>simp [Act.put,Array.getElem?_setIfInBounds,show u≠t from fun e=>hd (by rw [hdd,e]),h1]
theorem Inv.closed_next (I:Inv T n0 w0 ops nt p Fs Hs D s w S a1 w1 q D1 s1 G) {j i m:Nat} {o:Oper} (R:Rdy ops p S j i m o) :
  ∀ (k:Nat) o' e,ops[k]? = some o'->(S.setIfInBounds i true).getD k false=true->e∈o'.after->Region.binds .any e=true->(S.setIfInBounds i true).getD e.on false=true:=by
 intro k o' e hk hex he hb
 have hi:i < S.size:=by rw [I.size];exact some_lt R.op
 rw [getD_set S hi] at hex ⊢
 right
 rcases hex with rfl | hex
 ·rw [R.op] at hk;cases hk;exact R.pre e he hb
 ·exact I.closed k o' e hk hex he hb
theorem Inv.ex_next (I:Inv T n0 w0 ops nt p Fs Hs D s w S a1 w1 q D1 s1 G) (C:Cx T P n0 w0 call Z ops nt p anc Fs Hs Bs) {j i m:Nat} {o:Oper} (R:Rdy ops p S j i m o) (k:Nat):Ex (S.setIfInBounds i true) p k ↔ k=j\/Ex S p k:=by
 have hi:i < S.size:=by rw [I.size];exact some_lt R.op
 constructor
 ·rintro ⟨i',m',h1,h2⟩
  rcases (getD_set S hi).1 h2 with rfl | h
  ·exact .inl (C.pl.inj k j i' m' m h1 R.at_)
  ·exact .inr ⟨i',m',h1,h⟩
 ·rintro (rfl | ⟨i',m',h1,h2⟩)
  ·exact ⟨i,m,R.at_,(getD_set S hi).2 (.inl rfl)⟩
  ·exact ⟨i',m',h1,(getD_set S hi).2 (.inr h2)⟩
theorem Inv.early_next (I:Inv T n0 w0 ops nt p Fs Hs D s w S a1 w1 q D1 s1 G) {j i m:Nat} {o:Oper} (R:Rdy ops p S j i m o) (hp:isPt T o.op=false) :
  ∀ (k i' m' : Nat) o',q<=k->p[k]? = some (i',m')->ops[i']? = some o'->(S.setIfInBounds i true).getD i' false=true->isPt T o'.op=false:=by
 intro k i' m' o' h1 h2 h3 h4
 have hi:i < S.size:=by rw [I.size];exact some_lt R.op
 rcases (getD_set S hi).1 h4 with rfl | h
 ·rw [R.op] at h3;cases h3;exact hp
 ·exact I.early k i' m' o' h1 h2 h3 h
theorem Inv.pure (I:Inv T n0 w0 ops nt p Fs Hs D s w S a1 w1 q D1 s1 G) (C:Cx T P n0 w0 call Z ops nt p anc Fs Hs Bs) {j i m:Nat} {o:Oper} (R:Rdy ops p S j i m o) (hp:isPt T o.op=false) (hH:Hs (j+1)=Hs j) {x:Value}
  (hx:∀ t v,o.dst=some t->(Fs (j+1)).get t=some v->Rv D1 s1 v x):Inv T n0 w0 ops nt p Fs Hs D s w (S.setIfInBounds i true) (a1.put o.dst x) w1 q D1 s1 G:=by
 have hey:∀ k b,Ey Hs (S.setIfInBounds i true) p q k b ↔ Ey Hs S p q k b:=fun k b=>by
  unfold Ey
  rw [I.ex_next C R]
  constructor
  ·rintro ⟨h1,rfl | h2,h3,h4⟩
   ·rw [hH] at h4;omega
   ·exact ⟨h1,h2,h3,h4⟩
  ·rintro ⟨h1,h2,h3,h4⟩
   exact ⟨h1,.inr h2,h3,h4⟩
 exact {
  size:=by simp [I.size]
  closed:=I.closed_next R
  qle:=I.qle
  base:=I.base
  below:=fun k hk=>(I.ex_next C R k).2 (.inr (I.below k hk))
  early:=I.early_next R hp
  step:=I.step
  dom:=fun b=>by simp only [hey];exact I.dom b
  gst:=I.gst
  glo:=I.glo
  ghi:=fun k b h=>I.ghi k b ((hey k b).1 h)
  gno:=fun b h h'=>I.gno b h (by simpa only [hey] using h')
  uniq:=fun k b h=>I.uniq k b ((hey k b).1 h)
  fr:=I.fr_next C R (fun _ h=>h) (fun _ _=>rfl) hx
  fr0:=I.fr0_next R (fun _ h=>h) (fun _ _=>rfl) x
  tsize:=by rw [put_size];exact I.tsize
  defers:=by rw [put_defers];exact I.defers }
end
end Go.AM
namespace Go.AM
open Go
section
variable {T:Tab} {P:Program} {n0:Nat} {w0:World} {call:CallE} {Z:Dd} {ops:Array Oper} {nt:NT} {p:List (Nat×Nat)} {anc:List Nat} {Fs:Nat->Fr} {Hs:Nat->Hp} {Bs:Nat->List Hp}
variable {D:Nat->Prop} {s:Sg} {w:World} {S:Array Bool} {a1:Act} {w1:World} {q:Nat} {D1:Nat->Prop} {s1:Sg} {G:Hp}
theorem Sat.live_lt {H:Hp} (h:Sat n0 w0 D s H w) {b:Nat} (hD:D b) (hl:Live H b):(s b).b < w.heap.size:=by
 obtain ⟨o,h1,h2⟩:=hl
 cases o with
 | row e sz ro cs=>exact (h.row b _ _ _ _ hD h1).lt
 | map ro es c=>obtain ⟨_,h3,_⟩:=h.map b _ _ _ hD h1;exact lt_of_heap h3
 | iter m si se la=>exact lt_of_heap (h.iter b _ _ _ _ hD h1).1
 | dead=>exact absurd rfl h2
theorem Inv.alloc (I:Inv T n0 w0 ops nt p Fs Hs D s w S a1 w1 q D1 s1 G) (C:Cx T P n0 w0 call Z ops nt p anc Fs Hs Bs) (hf:Fresh D (Hs 0) (Hs p.length)) {j i m:Nat} {o:Oper} (R:Rdy ops p S j i m o) (hp:isPt T o.op=false) {ob:Ob} (hd:ob≠.dead)
  (hH:Hs (j+1)=(Hs j).new ob) {s' : Sg} {w' : World} (hst:Step n0 w0 D1 s1 { G with next:=(Hs j).next } w1 s' (({ G with next:=(Hs j).next }:Hp).new ob) w') {x:Value}
  (hx:∀ t v,o.dst=some t->(Fs (j+1)).get t=some v->Rv (Dn D1 (Hs j).next ((Hs j).next+1)) s' v x) :
  Inv T n0 w0 ops nt p Fs Hs D s w (S.setIfInBounds i true) (a1.put o.dst x) w' q (Dn D1 (Hs j).next ((Hs j).next+1)) s' (({ G with next:=(Hs j).next }:Hp).new ob):=by
 have hj:=R.lt
 have hq:=I.qj R
 have hqj:=C.le hq (Nat.le_of_lt hj)
 have hn1:(Hs (j+1)).next=(Hs j).next+1:=by rw [hH];rfl
 have hid:¬ D1 (Hs j).next:=I.fresh C hf R (Nat.le_refl _) (by omega)
 have hgG:∀ b,({ G with next:=(Hs j).next }:Hp).get b=G.get b:=fun _=>rfl
 have hget:∀ b,(({ G with next:=(Hs j).next }:Hp).new ob).get b=if b=(Hs j).next then some ob else G.get b:=fun b=>Hp.get_new _ b ob
 have hsG:(({ G with next:=(Hs j).next }:Hp).new ob).stale=G.stale:=rfl
 have hexlt:∀ k,Ex S p k->k < p.length:=fun k ⟨i',m',h,_⟩=>(List.getElem?_eq_some_iff.1 h).1
 have hold:∀ k b,Ey Hs S p q k b->D1 b:=fun k b h=>(I.dom b).2 (.inr (.inr ⟨k,h⟩))
 have hne:∀ k b,Ey Hs S p q k b->b≠(Hs j).next:=fun k b h e=>hid (e ▸ hold k b h)
 have hey:∀ k b,Ey Hs (S.setIfInBounds i true) p q k b ↔ (k=j/\b=(Hs j).next)\/Ey Hs S p q k b:=fun k b=>by
  unfold Ey
  rw [I.ex_next C R]
  constructor
  ·rintro ⟨h1,rfl | h2,h3,h4⟩
   ·rw [hn1] at h4;exact .inl ⟨rfl,by omega⟩
   ·exact .inr ⟨h1,h2,h3,h4⟩
  ·rintro (⟨rfl,rfl⟩ | ⟨h1,h2,h3,h4⟩)
   ·exact ⟨hq,.inl rfl,Nat.le_refl _,by omega⟩
   ·exact ⟨h1,.inr h2,h3,h4⟩
 have hIs:StepG n0 w0 D s (Hs 0) w D1 s1 { G with next:=(Hs j).next } w1 :=
  ⟨I.step.sat.sub rfl (fun b _=>.inl rfl),I.step.sub,I.step.same,I.step.size,I.step.frame,I.step.new,I.step.ow⟩
 -- the new row's block is new
 have hownew:∀ c,D1 c->Ow ({ G with next:=(Hs j).next }:Hp) c->Ow (({ G with next:=(Hs j).next }:Hp).new ob) c:=fun c hc ho =>
  (ow_congr (H:=({ G with next:=(Hs j).next }:Hp).new ob) (H':={ G with next:=(Hs j).next }) ((hget c).trans (if_neg (show c≠(Hs j).next from fun e=>hid (e ▸ hc)))) Iff.rfl).2 ho
 have halnew:Al (({ G with next:=(Hs j).next }:Hp).new ob) (Hs j).next:=by
  have hg:(({ G with next:=(Hs j).next }:Hp).new ob).get (Hs j).next=some ob:=by rw [hget,if_pos rfl]
  unfold Al
  rw [hg]
  cases ob with
  | row e sz ro cs =>
   show (Hs j).next∉G.stale
   rw [I.gst]
   exact fun h=>absurd ((C.grow0 q I.qle).st _ h) (by omega)
  | map=>trivial
  | iter=>trivial
  | dead=>exact absurd rfl hd
 have hblk:w1.heap.size<=(s' (Hs j).next).b:=by
  rcases hst.new (Hs j).next (Nat.le_refl _) (Nat.lt_succ_self _) with h | ⟨c,hc1,hc2,hc3⟩
  ·exact h
  ·exfalso
   have:=hst.sat.sep c (Hs j).next (.inl hc1) (.inr ⟨Nat.le_refl _,Nat.lt_succ_self _⟩) (fun e=>hid (e ▸ hc1)) (hownew c hc1 hc2) halnew
   rw [hst.same c hc1] at this
   exact this hc3
 exact {
  size:=by simp [I.size]
  closed:=I.closed_next R
  qle:=I.qle
  base:=I.base
  below:=fun k hk=>(I.ex_next C R k).2 (.inr (I.below k hk))
  early:=I.early_next R hp
  step:=hIs.trans hst.toG
  dom:=fun b=>by
   simp only [hey,Dn]
   rw [I.dom b]
   constructor
   ·rintro ((h | h | ⟨k,h⟩) | h)
    ·exact .inl h
    ·exact .inr (.inl h)
    ·exact .inr (.inr ⟨k,.inr h⟩)
    ·exact .inr (.inr ⟨j,.inl ⟨rfl,by omega⟩⟩)
   ·rintro (h | h | ⟨k,⟨rfl,rfl⟩ | h⟩)
    ·exact .inl (.inl h)
    ·exact .inl (.inr (.inl h))
    ·exact .inr ⟨Nat.le_refl _,Nat.lt_succ_self _⟩
    ·exact .inl (.inr (.inr ⟨k,h⟩))
  gst:=I.gst
  glo:=fun b hb=>by rw [hget,if_neg (by omega)];exact I.glo b hb
  ghi:=fun k b h=>by
   rcases (hey k b).1 h with ⟨rfl,rfl⟩ | h
   ·rw [hget,if_pos rfl,hH,Hp.get_new,if_pos rfl]
   ·rw [hget,if_neg (hne k b h)];exact I.ghi k b h
  gno:=fun b hb h=>by
   have h1:b≠(Hs j).next:=fun e=>h ⟨j,(hey j b).2 (.inl ⟨rfl,e⟩)⟩
   rw [hget,if_neg h1]
   exact I.gno b hb fun ⟨k,hk⟩=>h ⟨k,(hey k b).2 (.inr hk)⟩
  uniq:=fun k b h c hc hcb hl=>by
   have hlG:c≠(Hs j).next->Live G c:=fun hcn=>by
    obtain ⟨u,h1,h2⟩:=hl
    rw [hget,if_neg hcn] at h1
    exact ⟨u,h1,h2⟩
   have hcD:c≠(Hs j).next->D1 c:=fun hcn=>by
    rcases hc with h | h
    ·exact h
    ·have:=h.1;have:=h.2;omega
   rcases (hey k b).1 h with ⟨rfl,rfl⟩ | h
   ·have:=I.step.sat.live_lt (hcD hcb) (hlG hcb)
    rw [hst.same c (hcD hcb)]
    omega
   ·have hb:=hold k b h
    rw [hst.same b hb]
    by_cases hcn:c=(Hs j).next
    ·subst hcn
     have hlb:Live G b:=by
      -- an early row is live,for it was made
      obtain ⟨h1,h2,h3,h4⟩:=h
      have hk:=hexlt k h2
      obtain ⟨i',m',o',e1,e2⟩:=C.ent hk
      obtain ⟨i'',m'',e3,e4⟩:=h2
      rw [e1] at e3;cases e3
      have hnp:=I.early k i' m' o' h1 e1 e2 e4
      rcases ((C.stp e1 e2).np hnp).2 with he | ⟨ob',h5,_,he⟩
      ·rw [he] at h4;omega
      ·refine ⟨ob',?_,h5⟩
       rw [I.ghi k b ⟨h1,⟨i',m',e1,e4⟩,h3,h4⟩,he,Hp.get_new,if_pos (by rw [he] at h4;have:b < (Hs k).next+1:=h4;omega)]
     have:=I.step.sat.live_lt hb hlb
     omega
    ·rw [hst.same c (hcD hcn)]
     exact I.uniq k b h c (hcD hcn) hcb (hlG hcn)
  fr:=I.fr_next C R (fun _ h=>.inl h) hst.same hx
  fr0:=I.fr0_next R (fun _ h=>.inl h) hst.same _
  tsize:=by rw [put_size];exact I.tsize
  defers:=by rw [put_defers];exact I.defers }
theorem Inv.seen (I:Inv T n0 w0 ops nt p Fs Hs D s w S a1 w1 q D1 s1 G) (C:Cx T P n0 w0 call Z ops nt p anc Fs Hs Bs) (hf:Fresh D (Hs 0) (Hs p.length)) {j i m:Nat} {o:Oper} (R:Rdy ops p S j i m o) (hall:∀ k,k < j->Ex S p k) :
  (∀ b,D1 b->(Hs j).get b=G.get b\/(Hs j).get b=none)/\(Hs j).stale=G.stale /\
  (∀ b,D1 b->(Hs j).get b=none->Live G b->∃ k,j < k/\Ey Hs S p q k b):=by
 have hj:=R.lt
 have hq:=I.qj R
 have hexlt:∀ k,Ex S p k->k < p.length:=fun k ⟨i',m',h,_⟩=>(List.getElem?_eq_some_iff.1 h).1
 have hnp:∀ (k i' m' : Nat) o',q<=k->k < j->p[k]? = some (i',m')->ops[i']? = some o'->isPt T o'.op=false:=fun k i' m' o' h1 h2 h3 h4=>by
  obtain ⟨i'',m'',h5,h6⟩:=hall k h2
  rw [h3] at h5;cases h5
  exact I.early k i' m' o' h1 h3 h4 h6
 obtain ⟨k1,k2,k3⟩:=C.keep j hq (Nat.le_of_lt hj) hnp
 have hclass:∀ b,D1 b->(Hs j).get b=G.get b\/((Hs j).get b=none/\((∃ k,j < k/\Ey Hs S p q k b)\/G.get b=none)):=by
  intro b hb
  by_cases hlo:b < (Hs q).next
  ·left;rw [k1 b hlo,I.glo b hlo]
  ·by_cases hy:∃ k,Ey Hs S p q k b
   ·obtain ⟨k,hk⟩:=hy
    have hk':=hk
    obtain ⟨h1,h2,h3,h4⟩:=hk
    by_cases hkj:k < j
    ·left
     rw [I.ghi k b hk']
     have:=(C.keep (k:=k+1) j (by omega) (Nat.le_of_lt hj) (fun k' i' m' o' a b c d=>hnp k' i' m' o' (by omega) b c d)).1 b h4
     exact this
    ·have hne:k≠j:=fun e=>R.nex (e ▸ h2)
     right
     refine ⟨(C.grow0 j (Nat.le_of_lt hj)).top b ?_,.inl ⟨k,by omega,hk'⟩⟩
     have:=C.le (show j<=k by omega) (Nat.le_of_lt (hexlt k h2))
     omega
   ·right
    have hg:=I.gno b (by omega) hy
    refine ⟨?_,.inr hg⟩
    by_cases hbj:b < (Hs j).next
    ·obtain ⟨k,h1,h2,h3,h4⟩:=C.find (k:=q) (b:=b) (by omega) j hq (Nat.le_of_lt hj) hbj
     exact absurd ⟨k,h1,hall k h2,h3,h4⟩ hy
    ·exact (C.grow0 j (Nat.le_of_lt hj)).top b (by omega)
 refine ⟨fun b hb=>?_,by rw [k2,I.gst],fun b hb hn hl=>?_⟩
 ·rcases hclass b hb with h | ⟨h,_⟩
  ·exact .inl h
  ·exact .inr h
 ·obtain ⟨u,h1,h2⟩:=hl
  rcases hclass b hb with h | ⟨_,h | h⟩
  ·rw [hn,h1] at h;cases h
  ·exact h
  ·rw [h1] at h;cases h
theorem Inv.pt_all (I:Inv T n0 w0 ops nt p Fs Hs D s w S a1 w1 q D1 s1 G) (C:Cx T P n0 w0 call Z ops nt p anc Fs Hs Bs) {j i m:Nat} {o:Oper} (R:Rdy ops p S j i m o) (hp:isPt T o.op=true):∀ k,k < j->Ex S p k:=fun k hk=>by
 obtain ⟨i',m',o',h1,h2⟩:=C.ent (show k < p.length from Nat.lt_trans hk R.lt)
 exact ⟨i',m',h1,I.up C R (some_lt h2) (C.pl.pt j i m o R.at_ R.op hp k i' m' hk h1)⟩
theorem Inv.point (I:Inv T n0 w0 ops nt p Fs Hs D s w S a1 w1 q D1 s1 G) (C:Cx T P n0 w0 call Z ops nt p anc Fs Hs Bs) (hf:Fresh D (Hs 0) (Hs p.length)) {j i m:Nat} {o:Oper} (R:Rdy ops p S j i m o) (hp:isPt T o.op=true)
  {s' : Sg} {w' : World} (hst:Step n0 w0 D1 s1 (Hs j) w1 s' (Hs (j+1)) w') {x:Value}
  (hx:∀ t v,o.dst=some t->(Fs (j+1)).get t=some v->Rv (Dn D1 (Hs j).next (Hs (j+1)).next) s' v x) :
  ∃ G',Inv T n0 w0 ops nt p Fs Hs D s w (S.setIfInBounds i true) (a1.put o.dst x) w' (j+1) (Dn D1 (Hs j).next (Hs (j+1)).next) s' G':=by
 classical
 have hj:=R.lt
 have hq:=I.qj R
 have hall:=I.pt_all C R hp
 have hgr:=C.grow (j:=j) (j+1) (by omega) hj
 have hqj:=C.le hq (Nat.le_of_lt hj)
 obtain ⟨hsub,hstl,hE⟩:=I.seen C hf R hall
 have hexlt:∀ k,Ex S p k->k < p.length:=fun k ⟨i',m',h,_⟩=>(List.getElem?_eq_some_iff.1 h).1
 have hEge:∀ k b,j < k->Ey Hs S p q k b->(Hs (j+1)).next<=b:=fun k b hk h=>by
  have:=C.le (show j+1<=k by omega) (Nat.le_of_lt (hexlt k h.2.1))
  have:=h.2.2.1
  omega
 have hmade:∀ k b,Ey Hs S p q k b->∃ ob,G.get b=some ob/\ob≠.dead/\(∀ m si se la,ob≠.iter m si se la):=fun k b h=>by
  have hk':=h
  obtain ⟨h1,h2,h3,h4⟩:=h
  have hk:=hexlt k h2
  obtain ⟨i',m',o',e1,e2⟩:=C.ent hk
  obtain ⟨i'',m'',e3,e4⟩:=h2
  rw [e1] at e3;cases e3
  rcases ((C.stp e1 e2).np (I.early k i' m' o' h1 e1 e2 e4)).2 with he | ⟨ob',h5,h6,he⟩
  ·rw [he] at h4;omega
  ·refine ⟨ob',?_,h5,h6⟩
   rw [I.ghi k b hk',he,Hp.get_new,if_pos (by rw [he] at h4;have:b < (Hs k).next+1:=h4;omega)]
 let E:Nat->Prop:=fun b=>D1 b/\(Hs j).get b=none/\Live G b
 let G' : Hp:={ next:=(Hs (j+1)).next,m:=(G.m.filt (fun b=>decide (E b)) (fun n=>n)).mrg (Hs (j+1)).m,stale:=(Hs (j+1)).stale }
 have hget:∀ b,G'.get b=if E b then G.get b else (Hs (j+1)).get b:=fun b=>by
  show ((G.m.filt (fun b=>decide (E b)) (fun n=>n)).mrg (Hs (j+1)).m).get b=_
  rw [Tr.get_mrg,Tr.get_filt]
  by_cases h:E b
  ·obtain ⟨u,h1,_⟩:=h.2.2
   have h1:G.m.get b=some u:=h1
   simp only [h,decide_true,if_true,h1,Option.some_or]
   exact h1.symm
  ·simp only [h,decide_false,Bool.false_eq_true,if_false,Option.none_or]
   rfl
 have hEk:∀ b,E b->∃ k,j < k/\Ey Hs S p q k b:=fun b h=>hE b h.1 h.2.1 h.2.2
 obtain ⟨hsg,hsep⟩:=join (G':=G') I.step.sat hstl hsub (fun b hb hn hl=>by
   obtain ⟨k,hk,hy⟩:=hE b hb hn hl
   refine ⟨?_,?_,fun m si se la he=>?_,fun c hc hcb hlc=>I.uniq k b hy c hc hcb hlc⟩
   ·rw [I.gst]
    intro h
    have:=(C.grow0 q I.qle).st _ h
    have:=hEge k b hk hy
    have:=hgr.le
    omega
   ·intro h
    have:=hgr.good.st _ h
    have:=hEge k b hk hy
    omega
   ·obtain ⟨ob,h1,_,h3⟩:=hmade k b hy
    rw [h1] at he;cases he
    exact h3 _ _ _ _ rfl) hst (fun b hb hl=>by
   by_cases hlt:b < (Hs j).next
   ·exact hgr.live b hlt hl
   ·exfalso
    obtain ⟨u,h1,_⟩:=hl
    have hlt2:=hgr.good.lt h1
    exact I.fresh C hf R (by omega) hlt2 hb) rfl (fun b h1 h2 h3=>by rw [hget,if_pos ⟨h1,h2,h3⟩]) (fun b _ hn=>by rw [hget,if_neg hn])
 have hey:∀ k b,Ey Hs (S.setIfInBounds i true) p (j+1) k b ↔ j < k/\Ey Hs S p q k b:=fun k b=>by
  unfold Ey
  rw [I.ex_next C R]
  constructor
  ·rintro ⟨h1,rfl | h2,h3,h4⟩
   ·omega
   ·exact ⟨by omega,by omega,h2,h3,h4⟩
  ·rintro ⟨h0,h1,h2,h3,h4⟩
   exact ⟨by omega,.inr h2,h3,h4⟩
 have hdD:∀ k b,Ey Hs S p q k b->D1 b:=fun k b h=>(I.dom b).2 (.inr (.inr ⟨k,h⟩))
 have hEy:∀ k b,j < k->Ey Hs S p q k b->E b:=fun k b hk h=>by
  obtain ⟨ob,h1,h2,_⟩:=hmade k b h
  refine ⟨hdD k b h,(C.grow0 j (Nat.le_of_lt hj)).top b ?_,ob,h1,h2⟩
  have:=hEge k b hk h
  have:=hgr.le
  omega
 refine ⟨G',{
  size:=by simp [I.size]
  closed:=I.closed_next R
  qle:=hj
  base:=fun q' e=>by
   have:q' = j:=by omega
   subst this
   exact ⟨i,m,o,R.at_,R.op,hp⟩
  below:=fun k hk=>(I.ex_next C R k).2 (by
   by_cases e:k=j
   ·exact .inl e
   ·exact .inr (hall k (by omega)))
  early:=fun k i' m' o' h1 h2 h3 h4=>by
   have hi:i < S.size:=by rw [I.size];exact some_lt R.op
   rcases (getD_set S hi).1 h4 with rfl | h
   ·have:=C.pl.inj k j i' m' m h2 R.at_;omega
   ·exact I.early k i' m' o' (by omega) h2 h3 h
  step:=I.step.trans hsg
  dom:=fun b=>?_
  gst:=rfl
  glo:=fun b hb=>by
   rw [hget,if_neg]
   intro h
   obtain ⟨k,h1,h2⟩:=hEk b h
   have:=hEge k b h1 h2
   omega
  ghi:=fun k b h=>by
   obtain ⟨h1,h2⟩:=(hey k b).1 h
   rw [hget,if_pos (hEy k b h1 h2)]
   exact I.ghi k b h2
  gno:=fun b hb h=>by
   rw [hget,if_neg]
   ·exact hgr.good.top b hb
   ·intro h'
    obtain ⟨k,h1,h2⟩:=hEk b h'
    exact h ⟨k,(hey k b).2 ⟨h1,h2⟩⟩
  uniq:=fun k b h c hc hcb hl=>?_
  fr:=I.fr_next C R (fun _ h=>.inl h) hst.same hx
  fr0:=I.fr0_next R (fun _ h=>.inl h) hst.same _
  tsize:=by rw [put_size];exact I.tsize
  defers:=by rw [put_defers];exact I.defers }⟩
 ·simp only [hey]
  have e0:=C.le (Nat.zero_le j) (Nat.le_of_lt hj)
  constructor
  ·rintro (h | h)
   ·rcases (I.dom b).1 h with h | h | ⟨k,h⟩
    ·exact .inl h
    ·have:=hgr.le
     exact .inr (.inl ⟨h.1,by omega⟩)
    ·by_cases hk:j < k
     ·exact .inr (.inr ⟨k,hk,h⟩)
     ·have hne:k≠j:=fun e=>R.nex (e ▸ h.2.1)
      have e1:=C.le (show k+1<=j+1 by omega) hj
      have e2:=C.le (Nat.zero_le k) (by omega)
      have:=h.2.2.1
      have:=h.2.2.2
      exact .inr (.inl ⟨by omega,by omega⟩)
   ·exact .inr (.inl ⟨by omega,h.2⟩)
  ·rintro (h | h | ⟨k,hk,h⟩)
   ·exact .inl ((I.dom b).2 (.inl h))
   ·by_cases h1:b < (Hs q).next
    ·exact .inl ((I.dom b).2 (.inr (.inl ⟨h.1,h1⟩)))
    ·by_cases h2:b < (Hs j).next
     ·obtain ⟨k,h3,h4,h5,h6⟩:=C.find (k:=q) (b:=b) (by omega) j hq (Nat.le_of_lt hj) h2
      exact .inl ((I.dom b).2 (.inr (.inr ⟨k,h3,hall k h4,h5,h6⟩)))
     ·exact .inr ⟨by omega,h.2⟩
   ·exact .inl (hdD k b h)
 ·obtain ⟨h1,h2⟩:=(hey k b).1 h
  have hEb:=hEy k b h1 h2
  rw [hst.same b hEb.1]
  by_cases hEc:E c
  ·rw [hst.same c hEc.1]
   exact I.uniq k b h2 c hEc.1 hcb hEc.2.2
  ·obtain ⟨u,h3,h4⟩:=hl
   rw [hget,if_neg hEc] at h3
   exact hsep b hEb.1 hEb.2.1 hEb.2.2 c hc ⟨u,h3,h4⟩
end
end Go.AM
namespace Go.AM
open Go
mutual
theorem eqV_eq:∀ (a b:V),eqV a b=true->a=b
 | .bool a,b,h=>by cases b<;>simp_all [eqV]
 | .int k a,b,h=>by cases b<;>simp_all [eqV]
 | .str a,b,h=>by cases b<;>simp_all [eqV]
 | .nilp,b,h=>by cases b<;>simp_all [eqV]
 | .ptr x o,b,h=>by cases b<;>simp_all [eqV]
 | .nils,b,h=>by cases b<;>simp_all [eqV]
 | .sle,b,h=>by cases b<;>simp_all [eqV]
 | .sl x o n c z,b,h=>by cases b<;>simp_all [eqV]
 | .nilm,b,h=>by cases b<;>simp_all [eqV]
 | .mp x,b,h=>by cases b<;>simp_all [eqV]
 | .nilf,b,h=>by cases b<;>simp_all [eqV]
 | .fn f x y,b,h=>by cases b<;>simp [eqV] at h
 | .nili,b,h=>by cases b<;>simp_all [eqV]
 | .ifc t v,b,h=>by
  cases b<;>simp only [eqV,Bool.and_eq_true,beq_iff_eq,Bool.false_eq_true] at h
  rw [h.1,eqV_eq v _ h.2]
 | .agg x,b,h=>by
  cases b<;>simp only [eqV,Bool.false_eq_true] at h
  rw [eqL_eq x _ h]
 | .tup x,b,h=>by
  cases b<;>simp only [eqV,Bool.false_eq_true] at h
  rw [eqL_eq x _ h]
theorem eqL_eq:∀ (a b:List V),eqL a b=true->a=b
 | [],b,h=>by cases b<;>simp_all [eqL]
 | x :: r,b,h=>by
  cases b<;>simp only [eqL,Bool.and_eq_true,Bool.false_eq_true] at h
  rw [eqV_eq x _ h.1,eqL_eq r _ h.2]
end
theorem countP_lt {α:Type} {p p' : α->Bool}:∀ {l:List α},(∀ x∈l,p' x=true->p x=true)->(∃ x∈l,p x=true/\p' x=false)->l.countP p' < l.countP p
 | [],_,⟨x,h,_⟩=>by cases h
 | y :: l,h1,h2=>by
  have hle:l.countP p'<=l.countP p:=List.countP_mono_left (fun x hx=>h1 x (by simp [hx]))
  rw [List.countP_cons,List.countP_cons]
  obtain ⟨x,hx,h3,h4⟩:=h2
  rcases List.mem_cons.1 hx with rfl | hx
  ·rw [h3,h4];simp;omega
  ·have:=countP_lt (p:=p) (p':=p') (l:=l) (fun x hx=>h1 x (by simp [hx])) ⟨x,hx,h3,h4⟩
   have h5:=h1 y (by simp)
   cases hy:p' y
   ·simp;omega
   ·rw [h5 hy];simp;omega
section
variable {T:Tab} {P:Program} {n0:Nat} {w0:World} {call:CallE} {Z:Dd} {ops:Array Oper} {nt:NT} {p:List (Nat×Nat)} {anc:List Nat} {Fs:Nat->Fr} {Hs:Nat->Hp} {Bs:Nat->List Hp}
variable {D:Nat->Prop} {s:Sg} {w:World} {S:Array Bool} {a1:Act} {w1:World} {q:Nat} {D1:Nat->Prop} {s1:Sg} {G:Hp}
def np (T:Tab) (ops:Array Oper) (p:List (Nat×Nat)) (j:Nat):Nat:=(p.take j).countP fun e=>ptAt T ops e.1
theorem np_succ {j i m:Nat} (hj:p[j]? = some (i,m)):np T ops p (j+1)=np T ops p j+if ptAt T ops i then 1 else 0:=by
 unfold np
 rw [List.take_add_one,hj,List.countP_append]
 simp
theorem np_mono (C : Cx T P n0 w0 call Z ops nt p anc Fs Hs Bs) {k : Nat} : ∀ j, k ≤ j → j ≤ p.length → np T ops p k ≤ np T ops p j
  | 0, h, _ => by have : k = 0 := by omega
                  subst this; exact Nat.le_refl _
  | j + 1, h, h' => by
    by_cases e : k = j + 1
    · subst e; exact Nat.le_refl _
    · obtain ⟨i, m, o, hj, ho⟩ := C.ent (show j < p.length by omega)
      have := np_mono C (k := k) j (by omega) (by omega)
      rw [np_succ hj]; omega
theorem StepAt.ptB {o:Oper} {m:Nat} {F F1:Fr} {H H1:Hp} {B B1:List Hp} (h:StepAt T call ops o m F H B F1 H1 B1) (hp:isPt T o.op=true):∃ X,B1=X :: B/\∀ b,X.get b=H1.get b:=by
 cases h with
 | skip _=>rw [hp];exact ⟨H,rfl,fun _=>rfl⟩
 | val _ _ _ _ h _=>rw [hp] at h;cases h
 | pval v H' _ _ _=>exact ⟨H',rfl,fun _=>rfl⟩
 | pskip H' _ _ _=>exact ⟨H',rfl,fun _=>rfl⟩
 | call _ _ _ _ H'' _ _ _ _=>exact ⟨H'',rfl,fun _=>rfl⟩
theorem StepX.runs_of {i:Nat} {o:Oper} {m:Nat} {F F1:Fr} {H H1:Hp} {B B1:List Hp} (h:StepX T call Z ops i o m F H B F1 H1 B1) (h1:¬ Z.dj i) (h2:¬ Z.dd i):StepAt T call ops o m F H B F1 H1 B1:=by
 cases h with
 | runs h=>exact h
 | pans _ _ _ _ _ h _ _ _ _=>exact absurd h h1
 | dead h=>exact absurd h h2
theorem StepX.ptB {i:Nat} {o:Oper} {m:Nat} {F F1:Fr} {H H1:Hp} {B B1:List Hp} (h:StepX T call Z ops i o m F H B F1 H1 B1) (hp:isPt T o.op=true):∃ X,B1=X :: B/\∀ b,X.get b=H1.get b:=by
 cases h with
 | runs h=>exact h.ptB hp
 | pans _ _ _ _ H'' _ _ _ _ _=>exact ⟨H'',rfl,fun _=>rfl⟩
 | dead _=>rw [hp];exact ⟨H,rfl,fun _=>rfl⟩
theorem Inv.bs (I:Inv T n0 w0 ops nt p Fs Hs D s w S a1 w1 q D1 s1 G) (C:Cx T P n0 w0 call Z ops nt p anc Fs Hs Bs):∀ j,q<=j->j<=p.length->∃ X,(Bs j)[np T ops p j-np T ops p q]? = some X/\∀ b,X.get b=(Hs q).get b:=by
 have hbase:∃ X,(Bs q)[0]? = some X/\∀ b,X.get b=(Hs q).get b:=by
  cases hq:q with
  | zero=>exact ⟨Hs 0,by rw [C.b0];rfl,fun _=>rfl⟩
  | succ q' =>
   obtain ⟨i,m,o,h1,h2,h3⟩:=I.base q' hq
   obtain ⟨X,h4,h5⟩:=(C.stp h1 h2).ptB h3
   exact ⟨X,by rw [h4];rfl,h5⟩
 intro j
 induction j with
 | zero =>
  intro h _
  have:q=0:=by omega
  subst this
  rw [Nat.sub_self];exact hbase
 | succ j ih =>
  intro h h'
  by_cases e:q=j+1
  ·rw [<- e,Nat.sub_self];exact hbase
  ·obtain ⟨X,h1,h2⟩:=ih (by omega) (by omega)
   obtain ⟨i,m,o,hj,ho⟩:=C.ent (show j < p.length by omega)
   have hm:=np_mono C (k:=q) j (by omega) (by omega)
   refine ⟨X,?_,h2⟩
   rw [np_succ hj]
   cases hp:isPt T o.op with
   | true =>
    obtain ⟨Y,h4,_⟩:=(C.stp hj ho).ptB hp
    have:ptAt T ops i=true:=by unfold ptAt;rw [ho];exact hp
    rw [this,h4,if_pos rfl,show np T ops p j+1-np T ops p q=(np T ops p j-np T ops p q)+1 from by omega]
    exact h1
   | false =>
    obtain ⟨h4,_⟩:=(C.stp hj ho).np hp
    have:ptAt T ops i=false:=by unfold ptAt;rw [ho];exact hp
    rw [this,h4]
    simpa using h1
theorem Inv.few (I:Inv T n0 w0 ops nt p Fs Hs D s w S a1 w1 q D1 s1 G) (C:Cx T P n0 w0 call Z ops nt p anc Fs Hs Bs) {j i m:Nat} {o:Oper} (R:Rdy ops p S j i m o):np T ops p j-np T ops p q<=m:=by
 refine Nat.le_trans ?_ (C.pl.win j i m o R.at_ R.op)
 have key:∀ k,q<=k->k<=j->np T ops p k-np T ops p q<=(p.take k).countP fun e=>ptAt T ops e.1&&!bitA anc i e.1:=by
  intro k
  induction k with
  | zero =>
   intro h _
   have:q=0:=by omega
   subst this
   simp
  | succ k ih =>
   intro h h'
   by_cases e:q=k+1
   ·subst e;simp
   ·have hk:k < p.length:=Nat.lt_of_lt_of_le (by omega) (Nat.le_of_lt R.lt)
    obtain ⟨i',m',o',hk1,hk2⟩:=C.ent hk
    have h3:=ih (by omega) (by omega)
    rw [np_succ hk1,List.take_add_one,hk1,List.countP_append]
    cases hp:ptAt T ops i' with
    | false=>simp [hp];omega
    | true =>
     have hnb:bitA anc i i' = false:=by
      cases hb:bitA anc i i' with
      | false=>rfl
      | true =>
       have hex:=I.up C R (some_lt hk2) hb
       have:=I.early k i' m' o' (by omega) hk1 hk2 hex
       unfold ptAt at hp
       rw [hk2] at hp
       have hp:isPt T o'.op=true:=hp
       rw [this] at hp;cases hp
     simp [hp,hnb];omega
 exact key j (I.qj R) (Nat.le_refl _)
theorem Inv.reads (I:Inv T n0 w0 ops nt p Fs Hs D s w S a1 w1 q D1 s1 G) (C:Cx T P n0 w0 call Z ops nt p anc Fs Hs Bs) (hf:Fresh D (Hs 0) (Hs p.length)) (hg:GlOk T.ng D1 s1) {j i m:Nat} {o:Oper} (R:Rdy ops p S j i m o) {F:Fr} (hF:FrOk D1 s1 F a1) (hA:Agree T F (Fs j) o.op) (hk:kind T o.op = .r) {v:V}
  (hev:evR T o.op (Fs j) (Hs j).get=some v) (hwin:winOk T o.op (Fs j) m v (Bs j)=true):evR T o.op F G.get=some v:=by
 have hj:=R.lt
 have hq:=I.qj R
 have hexlt:∀ k,Ex S p k->k < p.length:=fun k ⟨i',m',h,_⟩=>(List.getElem?_eq_some_iff.1 h).1
 obtain ⟨X,hX,hXg⟩:=I.bs C j hq (Nat.le_of_lt hj)
 have hfew:=I.few C R
 by_cases h0:np T ops p j-np T ops p q=0
 ·have hnp:∀ (k i' m' : Nat) o',q<=k->k < j->p[k]? = some (i',m')->ops[i']? = some o'->isPt T o'.op=false:=fun k i' m' o' h1 h2 h3 h4=>by
   cases hp:isPt T o'.op with
   | false=>rfl
   | true =>
    exfalso
    have e1:=np_mono C (k:=q) k h1 (by omega)
    have e2:=np_mono C (k:=k+1) j (by omega) (Nat.le_of_lt hj)
    have e3:np T ops p (k+1)=np T ops p k+1:=by rw [np_succ h3,show ptAt T ops i' = true from by unfold ptAt;rw [h4];exact hp];rfl
    omega
  refine evR_mono hg hF (g:=(Hs j).get) (fun b ob hb hgb=>?_) (by rw [evR_congr hA];exact hev)
  have hlt:=(C.grow0 j (Nat.le_of_lt hj)).lt hgb
  rcases (I.dom b).1 hb with h | h | ⟨k,h⟩
  ·by_cases hlo:b < (Hs q).next
   ·rw [I.glo b hlo,<- (C.keep j hq (Nat.le_of_lt hj) hnp).1 b hlo];exact hgb
   ·exfalso
    have:=C.le (Nat.zero_le q) I.qle
    have:=C.le (Nat.le_of_lt hj) (Nat.le_refl _)
    exact hf b (by omega) (by omega) h
  ·rw [I.glo b h.2,<- (C.keep j hq (Nat.le_of_lt hj) hnp).1 b h.2];exact hgb
  ·rw [I.ghi k b h]
   obtain ⟨h1,h2,h3,h4⟩:=h
   by_cases hkj:k < j
   ·rw [<- (C.keep (k:=k+1) j (by omega) (Nat.le_of_lt hj) (fun k' i' m' o' a b c d=>hnp k' i' m' o' (by omega) b c d)).1 b h4]
    exact hgb
   ·exfalso
    have:=C.le (show j<=k by omega) (Nat.le_of_lt (hexlt k h2))
    omega
 ·unfold winOk at hwin
  split at hwin
  ·omega
  ·rw [List.all_eq_true] at hwin
   have hmem:X∈((Bs j).drop 1).take m:=by
    refine List.mem_of_getElem? (i:=np T ops p j-np T ops p q-1) ?_
    rw [List.getElem?_take,if_pos (by omega),List.getElem?_drop,show 1+(np T ops p j-np T ops p q-1)=np T ops p j-np T ops p q from by omega]
    exact hX
   have h1:=hwin X hmem
   rw [hk] at h1
   dsimp only at h1
   split at h1
   ·rename_i v' hv'
    have:=eqV_eq v v' h1
    subst this
    refine evR_mono hg hF (g:=X.get) (fun b ob hb hgb=>?_) (by rw [evR_congr hA];exact hv')
    rw [hXg] at hgb
    rw [I.glo b ((C.grow0 q I.qle).lt hgb)]
    exact hgb
   ·cases h1
theorem Inv.op (I:Inv T n0 w0 ops nt p Fs Hs D s w S a1 w1 q D1 s1 G) (C:Cx T P n0 w0 call Z ops nt p anc Fs Hs Bs) (hg0:GlOk T.ng D s) (hf:Fresh D (Hs 0) (Hs p.length)) {j i m:Nat} {o:Oper} (R:Rdy ops p S j i m o) (hz:¬ Z.dj i/\¬ Z.dd i) {Q:Exit->Act->World->Prop} :
  wpOp P ops Q i (fun a' w'=>∃ q D1 s1 G,Inv T n0 w0 ops nt p Fs Hs D s w (S.setIfInBounds i true) a' w' q D1 s1 G) a1 w1:=by
 have hg:GlOk T.ng D1 s1:=hg0.mono I.step.sub I.step.same
 obtain ⟨F,hF,hA,hW⟩:=I.frame_at C R
 have hj:=R.lt
 have hGj:=C.grow0 j (Nat.le_of_lt hj)
 have hgr:=C.grow (j:=j) (j+1) (by omega) hj
 unfold wpOp
 rw [R.op]
 dsimp only
 have hdel:∀ {D' : Nat->Prop} {s' : Sg} (t:Tmp) (v:V),o.dst=some t->(delD (Fs j) o.dst).get t=some v->Rv D' s' v undef:=fun t v ht hv=>by
  rw [ht] at hv
  simp [delD,Tr.get_set] at hv
  subst hv
  exact rv_undef
 have hput:∀ t v u,o.dst=some t->(putD (Fs j) o.dst u).get t=some v->v=u:=fun t v u ht hv=>by
  rw [ht] at hv
  simp [putD,Tr.get_set] at hv
  exact hv.symm
 have hstp:StepAt T call ops o m (Fs j) (Hs j) (Bs j) (Fs (j+1)) (Hs (j+1)) (Bs (j+1)):=(C.stp R.at_ R.op).runs_of hz.1 hz.2
 -- a point's run
 have hpt:isPt T o.op=true->Sat n0 w0 D1 s1 (Hs j) w1:=fun hp=>by
  obtain ⟨h1,h2,_⟩:=I.seen C hf R (I.pt_all C R hp)
  exact I.step.sat.sub h2 h1
 have hbump:∀ (H' : Hp),Grow (Hs j) H'->Hs (j+1)=H'.bump->∀ s' w',Step n0 w0 D1 s1 (Hs j) w1 s' H' w'->∃ s'',Step n0 w0 D1 s1 (Hs j) w1 s'' (Hs (j+1)) w'/\∀ b,Dn D1 (Hs j).next H'.next b->s'' b=s' b:=fun H' hG' he s' w' hs=>by
  have hnx:(Hs (j+1)).next=H'.next+1:=by rw [he];rfl
  obtain ⟨s'',hb⟩:=step_bump hs.sat hG'.good (fun hd=>by
   rcases hd with hd | hd
   ·exact I.fresh C hf R hG'.le (by omega) hd
   ·have:=hd.2;omega)
  exact ⟨s'',by rw [he];exact hs.trans hb,hb.same⟩
 have hf1:isPt T o.op=true->(Hs j).next < (Hs (j+1)).next->¬ D1 (Hs j).next:=fun _ h=>I.fresh C hf R (Nat.le_refl _) h
 generalize hF1:Fs (j+1)=F1 at hstp
 generalize hH1:Hs (j+1)=H1 at hstp
 generalize hB1:Bs (j+1)=B1 at hstp
 cases hstp with
 | skip hw =>
  rw [wantedV_ok hF (by rw [hW];exact hw),if_neg (by simp)]
  cases hp:isPt T o.op with
  | false=>exact ⟨q,D1,s1,G,I.pure C R hp hH1 (fun t v ht hv=>by rw [hF1] at hv;exact hdel t v ht hv)⟩
  | true =>
   obtain ⟨G',hI⟩:=I.point C hf R hp (s':=s1) (w':=w1) (x:=undef) (by rw [hH1];exact Step.refl (hpt hp)) (fun t v ht hv=>by rw [hF1] at hv;exact hdel t v ht hv)
   exact ⟨_,_,_,_,hI⟩
 | val v H' hw hop hp hwin =>
  rw [wantedV_ok hF (by rw [hW];exact hw),if_pos rfl]
  left
  have hrun:(∃ x,(execOp a1.eval o).run P w1 = .ok (.value x) w1/\Rv D1 s1 v x/\H1=Hs j)\/(∃ x ob s' w',(execOp a1.eval o).run P w1 = .ok (.value x) w'/\ob≠.dead/\H1=(Hs j).new ob/\Step n0 w0 D1 s1 { G with next:=(Hs j).next } w1 s' (({ G with next:=(Hs j).next }:Hp).new ob) w'/\Rv (Dn D1 (Hs j).next ((Hs j).next+1)) s' v x):=by
   unfold evOp at hop
   split at hop
   ·rename_i hk
    split at hop<;>cases hop
    rename_i hev
    obtain ⟨x,h1,h2⟩:=evP_ok C.M.tab hg hF o hk (by rw [evP_congr hA];exact hev) w1
    exact .inl ⟨x,h1,h2,rfl⟩
   ·rename_i hk
    split at hop<;>cases hop
    rename_i hev
    obtain ⟨x,h1,h2⟩:=evR_ok C.M.tab hg hF I.step.sat o hk (I.reads C hf hg R hF hA hk hev hwin)
    exact .inl ⟨x,h1,h2,rfl⟩
   ·rename_i hk
    have hcall:∀ c,o.op≠.call c:=fun c e=>by
     unfold isPt at hp
     rw [hk] at hp
     rw [e] at hp
     simp at hp
    split at hop
    ·rename_i v' ob kb hev
     split at hop<;>cases hop
     obtain ⟨ob',rfl,rfl,h1,h2,h3⟩:=evA_fresh hcall hev
     have hn1:(afterA (Hs j) (some ob') none).next=(Hs j).next+1:=rfl
     have hfr:¬ D1 (Hs j).next:=I.fresh C hf R (Nat.le_refl _) (by rw [hH1];exact Nat.lt_succ_self _)
     have hsat:Sat n0 w0 D1 s1 { G with next:=(Hs j).next } w1:=I.step.sat.sub rfl (fun b _=>.inl rfl)
     have hnst:(Hs j).next∉G.stale:=by
      rw [I.gst]
      intro hm
      have:=(C.grow0 q I.qle).st _ hm
      have:=C.le (I.qj R) (Nat.le_of_lt hj)
      omega
     obtain ⟨x,s',w',g1,g2,g3⟩:=evA_ok (H:={ G with next:=(Hs j).next }) C.M.tab hg hF hsat C.hn hfr hnst o hk (v:=v) (ob:=some ob') (kb:=none) (by rw [evA_congr hA];exact h3 _) (fun b e _=>by cases e)
     exact .inr ⟨x,ob',s',w',g1,h1,rfl,g2,g3⟩
    ·split at hop<;>cases hop
     rename_i hev
     exfalso
     generalize o.op=op at hcall hev
     cases op<;>first | exact hcall _ rfl | (simp [evAW] at hev)
   ·rename_i hk;unfold isPt at hp;rw [hk] at hp;cases hp
   ·rename_i hk;unfold isPt at hp;rw [hk] at hp;cases hp
   ·cases hop
  unfold Oper.wp
  rcases hrun with ⟨x,h1,h2,h3⟩ | ⟨x,ob,s',w',h1,h2,h3,h4,h5⟩
  ·rw [h1]
   exact ⟨q,D1,s1,G,I.pure C R hp (by rw [hH1,h3]) (fun t v' ht hv=>by rw [hF1] at hv;rw [hput t v' v ht hv];exact h2)⟩
  ·rw [h1]
   exact ⟨q,_,_,_,I.alloc C hf R hp h2 (by rw [hH1,h3]) h4 (fun t v' ht hv=>by rw [hF1] at hv;rw [hput t v' v ht hv];exact h5)⟩
 | pval v H' hw hop hp =>
  rw [wantedV_ok hF (by rw [hW];exact hw),if_pos rfl]
  left
  have hS:=hpt hp
  have hgH:=evOp_val hGj hop
  obtain ⟨x,s',w',g1,g2,g3⟩:=evOp_ok C.M.tab hg hF hS C.hn (hf1 hp (by rw [hH1];have:=hgH.le;show _ < H'.next+1;omega)) hGj o (by rw [evOp_congr hA];exact hop)
  obtain ⟨s'',g4,g5⟩:=hbump H' hgH hH1 s' w' g2
  unfold Oper.wp
  rw [g1]
  obtain ⟨G',hI⟩:=I.point C hf R hp (x:=x) g4 (fun t v' ht hv=>by
   rw [hF1] at hv
   rw [hput t v' v ht hv]
   refine g3.mono (fun b hb=>?_) g5
   rcases hb with hb | hb
   ·exact .inl hb
   ·exact .inr ⟨hb.1,by rw [hH1];exact Nat.lt_succ_of_lt hb.2⟩)
  exact ⟨_,_,_,_,hI⟩
 | pskip H' hw hop hp =>
  rw [wantedV_ok hF (by rw [hW];exact hw),if_pos rfl]
  left
  have hS:=hpt hp
  have hgH:=evOp_skp hGj hop
  obtain ⟨s',w',g1,g2⟩:=evOp_ok C.M.tab hg hF hS C.hn (hf1 hp (by rw [hH1];have:=hgH.le;show _ < H'.next+1;omega)) hGj o (by rw [evOp_congr hA];exact hop)
  obtain ⟨s'',g4,g5⟩:=hbump H' hgH hH1 s' w' g2
  unfold Oper.wp
  rw [g1]
  obtain ⟨G',hI⟩:=I.point C hf R hp (x:=undef) g4 (fun t v' ht hv=>by rw [hF1] at hv;exact hdel t v' ht hv)
  exact ⟨_,_,_,_,hI⟩
 | call f vs H0 v H'' hw hop hcl hp =>
  rw [wantedV_ok hF (by rw [hW];exact hw),if_pos rfl]
  left
  have hS:=hpt hp
  have hg0':=evOp_ent hGj hop
  have hg1':=C.cg _ _ _ _ _ hcl hg0'.good
  have hgH:=hg0'.trans hg1'
  obtain ⟨rfl,xs,hxs,hr⟩:=evOp_ok C.M.tab hg hF hS C.hn (hf1 hp (by rw [hH1];have:=hgH.le;show _ < H''.next+1;omega)) hGj o (by rw [evOp_congr hA];exact hop)
  have hfc:Fresh D1 (Hs j).flush H'':=fun b h1 h2=>by
   rw [Hp.next_flush] at h1
   exact I.fresh C hf R h1 (by rw [hH1];exact Nat.lt_succ_of_le h2)
  obtain ⟨⟨fn,c,e1,e2⟩,hcalls⟩:=C.c _ _ _ _ _ hcl D1 s1 w1 xs hg hxs hS.flush hg0'.good hfc
  unfold Oper.wp
  rw [hr,run_callFunc C.M e1 e2]
  refine Calls.mono hcalls fun e w' he=>?_
  cases e with
  | returned x =>
   obtain ⟨s',hs0,hv⟩:=he
   have hs:Step n0 w0 D1 s1 (Hs j) w1 s' H'' w':=(Step.flush hS).trans (by rw [Hp.next_flush,dn_refl];exact hs0)
   rw [Hp.next_flush] at hv
   obtain ⟨s'',g4,g5⟩:=hbump H'' hgH hH1 s' w' hs
   obtain ⟨G',hI⟩:=I.point C hf R hp (x:=x) g4 (fun t v' ht hv'=>by
    rw [hF1] at hv'
    rw [hput t v' v ht hv']
    refine hv.mono (fun b hb=>?_) g5
    rcases hb with hb | hb
    ·exact .inl hb
    ·exact .inr ⟨hb.1,by rw [hH1];exact Nat.lt_succ_of_lt hb.2⟩)
   exact ⟨_,_,_,_,hI⟩
  | panicked c=>exact he.elim
  | outgrown=>exact he.elim
end
end Go.AM
namespace Go.AM
open Go
section
variable {T:Tab} {P:Program} {n0:Nat} {w0:World} {call:CallE} {Z:Dd} {ops:Array Oper} {nt:NT} {p:List (Nat×Nat)} {anc:List Nat} {Fs:Nat->Fr} {Hs:Nat->Hp} {Bs:Nat->List Hp}
variable {D:Nat->Prop} {s:Sg} {w:World} {S:Array Bool} {a1:Act} {w1:World} {q:Nat} {D1:Nat->Prop} {s1:Sg} {G:Hp}
theorem Inv.all_ex (I:Inv T n0 w0 ops nt p Fs Hs D s w S a1 w1 q D1 s1 G) (C:Cx T P n0 w0 call Z ops nt p anc Fs Hs Bs) (hr:Region.ready .any ops S=[]):∀ i,i < ops.size->S.getD i false=true:=by
 obtain ⟨rk,hrk⟩:=C.pl.edge
 have key:∀ n i,rk i < n->i < ops.size->S.getD i false=true:=by
  intro n
  induction n with
  | zero=>intro i h;omega
  | succ n ih =>
   intro i h hi
   cases hS:S.getD i false with
   | true=>rfl
   | false =>
    exfalso
    have ho:ops[i]? = some ops[i]:=Array.getElem?_eq_getElem hi
    have:i∈Region.ready .any ops S:=mem_ready.2 ⟨by rw [getD_tf S (by rw [I.size];exact hi)];exact hS,_,ho,fun e he hb=>by
     have hlt:=hrk i _ e ho he hb
     exact ih e.on (by omega) hlt.2⟩
    rw [hr] at this
    cases this
 exact fun i=>key (rk i+1) i (Nat.lt_succ_self _)
theorem Inv.post (I:Inv T n0 w0 ops nt p Fs Hs D s w S a1 w1 q D1 s1 G) (C:Cx T P n0 w0 call Z ops nt p anc Fs Hs Bs) (hf:Fresh D (Hs 0) (Hs p.length)) (hall:∀ i,i < ops.size->S.getD i false=true) :
  Post T n0 w0 nt D s (Hs 0) w (Fs p.length) (Hs p.length).flush a1 w1:=by
 have hex:∀ k,k < p.length->Ex S p k:=fun k hk=>by
  obtain ⟨i,m,o,h1,h2⟩:=C.ent hk
  exact ⟨i,m,h1,hall i (some_lt h2)⟩
 have hnp:∀ (k i' m' : Nat) o',q<=k->k < p.length->p[k]? = some (i',m')->ops[i']? = some o'->isPt T o'.op=false:=fun k i' m' o' h1 h2 h3 h4=>I.early k i' m' o' h1 h3 h4 (hall i' (some_lt h4))
 have hGe:=C.grow0 p.length (Nat.le_refl _)
 obtain ⟨k1,k2,k3⟩:=C.keep p.length I.qle (Nat.le_refl _) hnp
 have hD:D1=Dn D (Hs 0).next (Hs p.length).next:=by
  funext b
  rw [eq_iff_iff,I.dom b]
  have e1:=C.le I.qle (Nat.le_refl _)
  constructor
  ·rintro (h | h | ⟨k,h1,h2,h3,h4⟩)
   ·exact .inl h
   ·exact .inr ⟨h.1,by omega⟩
   ·have hk:k < p.length:=by obtain ⟨i',m',h5,_⟩:=h2;exact (List.getElem?_eq_some_iff.1 h5).1
    have e2:=C.le (Nat.zero_le k) (Nat.le_of_lt hk)
    have e3:=C.le (show k+1<=p.length by omega) (Nat.le_refl _)
    exact .inr ⟨by omega,by omega⟩
  ·rintro (h | h)
   ·exact .inl h
   ·by_cases h1:b < (Hs q).next
    ·exact .inr (.inl ⟨h.1,h1⟩)
    ·obtain ⟨k,h3,h4,h5,h6⟩:=C.find (k:=q) (b:=b) (by omega) p.length I.qle (Nat.le_refl _) h.2
     exact .inr (.inr ⟨k,h3,hex k h4,h5,h6⟩)
 have hsub:∀ b,D1 b->(Hs p.length).get b=G.get b\/(Hs p.length).get b=none:=fun b hb=>by
  rcases (I.dom b).1 hb with h | h | ⟨k,h⟩
  ·by_cases hlo:b < (Hs q).next
   ·left;rw [k1 b hlo,I.glo b hlo]
   ·right
    by_cases hbl:b < (Hs p.length).next
    ·exfalso
     have:=C.le (Nat.zero_le q) I.qle
     exact hf b (by omega) (by omega) h
    ·exact hGe.top b (by omega)
  ·left;rw [k1 b h.2,I.glo b h.2]
  ·left
   rw [I.ghi k b h]
   obtain ⟨h1,h2,h3,h4⟩:=h
   have hk:k < p.length:=by obtain ⟨i',m',h5,_⟩:=h2;exact (List.getElem?_eq_some_iff.1 h5).1
   exact (C.keep (k:=k+1) p.length (by omega) (Nat.le_refl _) (fun k' i' m' o' a b c d=>hnp k' i' m' o' (by omega) b c d)).1 b h4
 have hstl:(Hs p.length).stale=G.stale:=by rw [k2,I.gst]
 have hsat:Sat n0 w0 D1 s1 (Hs p.length) w1:=I.step.sat.sub hstl hsub
 have hsg:StepG n0 w0 D s (Hs 0) w D1 s1 (Hs p.length) w1 :=
  ⟨hsat,I.step.sub,I.step.same,I.step.size,I.step.frame,I.step.new,fun b hb ho=>I.step.ow b hb (by
   obtain ⟨u,h1,_⟩:=ho.al.live
   rcases hsub b (I.step.sub b hb) with h | h
   ·exact (ow_congr h (by rw [hstl])).1 ho
   ·rw [h] at h1;cases h1)⟩
 rw [hD] at hsg
 have hst:=hsg.toStep (C.le (Nat.zero_le _) (Nat.le_refl _)) hf
 refine ⟨s1,hst.trans (Step.flush hst.sat),fun t v ht=>?_,I.tsize,I.defers⟩
 obtain ⟨x,h1,h2⟩:=I.fr t v (fun i o ho _=>hall i (some_lt ho)) ht
 rw [Hp.next_flush,<- hD]
 exact ⟨x,h1,h2⟩
theorem any_ok (C:Cx T P n0 w0 call .none ops nt p anc Fs Hs Bs) (hg0:GlOk T.ng D s) (hf:Fresh D (Hs 0) (Hs p.length)) {Q:Exit->Act->World->Prop} (hQ:∀ a' w',Post T n0 w0 nt D s (Hs 0) w (Fs p.length) (Hs p.length).flush a' w'->Q .normal a' w') :
  ∀ (fuel:Nat) (S:Array Bool) (a1:Act) (w1:World),(List.range ops.size).countP (fun i=>!S.getD i false)<=fuel->(∃ q D1 s1 G,Inv T n0 w0 ops nt p Fs Hs D s w S a1 w1 q D1 s1 G)->wpAny P .any ops Q fuel S a1 w1
 | 0,S,a1,w1,hc,⟨q,D1,s1,G,I⟩=>by
  have hall:∀ i,i < ops.size->S.getD i false=true:=fun i hi=>by
   have h0:(List.range ops.size).countP (fun i=>!S.getD i false)=0:=by omega
   rw [List.countP_eq_zero] at h0
   simpa using h0 i (List.mem_range.2 hi)
  refine ⟨?_,hQ a1 w1 (I.post C hf hall)⟩
  cases hr:Region.ready .any ops S with
  | nil=>rfl
  | cons i r =>
   have:i∈Region.ready .any ops S:=by rw [hr];simp
   obtain ⟨h1,o,ho,_⟩:=mem_ready.1 this
   have hi:=some_lt ho
   rw [getD_tf S (by rw [I.size];exact hi),hall i hi] at h1
   cases h1
 | fuel+1,S,a1,w1,hc,⟨q,D1,s1,G,I⟩=>by
  refine ⟨fun hr=>hQ a1 w1 (I.post C hf fun i hi=>I.all_ex C hr i hi),fun i hi=>?_⟩
  obtain ⟨h1,o,ho,hpre⟩:=mem_ready.1 hi
  have hlt:=some_lt ho
  have hltS:i < S.size:=by rw [I.size];exact hlt
  obtain ⟨j,m,hj⟩:=C.pl.cover i hlt
  have R:Rdy ops p S j i m o:=⟨hj,ho,by rw [<- getD_tf S hltS];exact h1,fun e he hb=>hpre e he hb⟩
  refine wpOp_mono (fun a' w' hI=>any_ok C hg0 hf hQ fuel _ a' w' ?_ hI) (I.op C hg0 hf R ⟨id,id⟩ (Q:=Q))
  have:=countP_lt (l:=List.range ops.size) (p:=fun i=>!S.getD i false) (p':=fun k=>!(S.setIfInBounds i true).getD k false) (fun k hk h=>by
   cases hS:S.getD k false with
   | false=>rfl
   | true =>
    rw [(getD_set S hltS).2 (.inr hS)] at h
    cases h) ⟨i,List.mem_range.2 hlt,by rw [R.un];rfl,by rw [(getD_set S hltS).2 (.inl rfl)];rfl⟩
  omega
theorem Sat.drew {H:Hp} (h:Sat n0 w0 D s H w):Sat n0 w0 D s H { w with drawn:=w.drawn+1 } :=
 ⟨h.below.trans ⟨rfl,rfl,rfl,Nat.le_refl _,fun _ _=>rfl⟩,fun b e sz ro cs hb hg=>(h.row b e sz ro cs hb hg).keep (fun _ h=>h) (fun _ _=>rfl) rfl,h.map,h.iter,h.sep,h.old⟩
theorem step_drew {H:Hp} (h:Sat n0 w0 D s H w):Step n0 w0 D s H w s H { w with drawn:=w.drawn+1 }:=by
 refine ⟨by rw [dn_refl];exact h.drew,fun _ _=>rfl,Nat.le_refl _,Nat.le_refl _,fun _ _ _=>rfl,fun b h1 h2=>by omega,fun _ _ h=>h⟩
theorem inv0 (C:Cx T P n0 w0 call Z ops nt p anc Fs Hs Bs) {a:Act} (hP:Pre T n0 w0 nt D s (Fs 0) (Hs 0) a w) :
  Inv T n0 w0 ops nt p Fs Hs D s { w with drawn:=w.drawn+1 } (Array.replicate ops.size false) a { w with drawn:=w.drawn+1 } 0 D s (Hs 0):=by
 have hno:∀ k:Nat,(Array.replicate ops.size false).getD k false=false:=fun k=>by
  simp only [Array.getD_eq_getD_getElem?,Array.getElem?_replicate]
  split<;>rfl
 have hne:∀ k,¬ Ex (Array.replicate ops.size false) p k:=fun k ⟨i,m,_,h⟩=>by rw [hno] at h;cases h
 exact {
  size:=by simp
  closed:=fun i o e _ h=>by rw [hno] at h;cases h
  qle:=Nat.zero_le _
  base:=fun q' h=>by omega
  below:=fun j h=>by omega
  early:=fun j i m o _ _ _ h=>by rw [hno] at h;cases h
  step:=StepG.refl hP.sat.drew
  dom:=fun b=>⟨fun h=>.inl h,fun h=>by
   rcases h with h | h | ⟨k,_,h,_⟩
   ·exact h
   ·omega
   ·exact absurd h (hne k)⟩
  gst:=rfl
  glo:=fun _ _=>rfl
  ghi:=fun k b h=>absurd h.2.1 (hne k)
  gno:=fun b hb _=>hP.good.top b hb
  uniq:=fun k b h=>absurd h.2.1 (hne k)
  fr:=fun t v hall ht=>by
   have hnd:∀ (i:Nat) o,ops[i]? = some o->o.dst≠some t:=fun i o ho hd=>by
    have:=hall i o ho hd
    rw [hno] at this;cases this
   rw [C.stab p.length (Nat.zero_le _) (Nat.le_refl _) (fun j' i m o _ _ _ ho=>hnd i o ho)] at ht
   exact hP.fr t v ht
  fr0:=fun t v _ ht=>hP.fr t v ht
  tsize:=hP.size
  defers:=hP.defers }
theorem drawOk (hM:MachOk T P) (hn:n0<=w0.heap.size) {f:FuncId} {id:Nat} (hp:∀ p,T.dr f id=some p->∃ anc,planOk T ops nt p anc=true):DrawOk T P n0 w0 f nt id ops:=by
 intro call hc hcg p hdr F H F' H' hev _ D s a w Q hP hf hQ
 obtain ⟨anc,hpl⟩:=hp p hdr
 obtain ⟨Fs,Hs,Bs,e1,e2,e3,e4,e5,e6⟩:=evDraw_trace p hev
 subst e1;subst e2;subst e5;subst e6
 have C:Cx T P n0 w0 call .none ops nt p anc Fs Hs Bs:=⟨hM,hn,hc,hcg,Dd.none_good,planOk_spec hpl,fun j i m h=>let ⟨o,h1,h2⟩:=e4 j i m h;⟨o,h1,.runs h2⟩,e3,hP.good⟩
 have hf' : Fresh D (Hs 0) (Hs p.length):=fun b h1 h2=>hf b h1 (by rw [Hp.next_flush];exact h2)
 refine wp_region_any hM.mixed ?_
 refine any_ok (w:={ w with drawn:=w.drawn+1 }) C hP.gl hf' (fun a' w' h=>hQ a' w' (Post.trans (step_drew hP.sat) (by rw [dn_refl];exact h))) ops.size _ a _ ?_ ?_
 ·exact Nat.le_trans List.countP_le_length (by simp)
 ·exact ⟨0,D,s,Hs 0,inv0 C hP⟩
end
end Go.AM
namespace Go.AM
open Go
theorem Tr.setF_comm {α:Type}:∀ (f g:Nat) (t:Tr α) (n m:Nat) (x y:Option α),n≠m->n < f->m < g->Tr.setF f (Tr.setF g t m y) n x=Tr.setF g (Tr.setF f t n x) m y
 | 0,g,t,n,m,x,y,_,h,_=>by omega
 | f+1,0,t,n,m,x,y,_,_,h=>by omega
 | f+1,g+1,t,n,m,x,y,hne,hn,hm=>by
  have step:∀ (k:Nat) (t:Tr α) (i:Nat) (z:Option α),Tr.setF (k+1) t i z=if i=0 then .node t.left z t.right else if i % 2=1 then .node (Tr.setF k t.left (i / 2) z) t.val t.right else .node t.left t.val (Tr.setF k t.right (i / 2-1) z):=fun _ _ _ _=>rfl
  rw [step g t m y,step f t n x]
  by_cases n0:n=0
  ·have m0:¬ m=0:=by omega
   rw [if_pos n0,if_neg m0]
   split
   ·rw [step,if_pos n0,step,if_neg m0,if_pos (by assumption)];rfl
   ·rw [step,if_pos n0,step,if_neg m0,if_neg (by assumption)];rfl
  ·by_cases m0:m=0
   ·rw [if_neg n0,if_pos m0]
    split
    ·rw [step,if_neg n0,if_pos (by assumption),step,if_pos m0];rfl
    ·rw [step,if_neg n0,if_neg (by assumption),step,if_pos m0];rfl
   ·rw [if_neg n0,if_neg m0]
    by_cases n1:n % 2=1
    ·by_cases m1:m % 2=1
     ·rw [if_pos n1,if_pos m1,step,if_neg n0,if_pos n1,step,if_neg m0,if_pos m1]
      show Tr.node (Tr.setF f (Tr.setF g t.left (m / 2) y) (n / 2) x) _ _=Tr.node (Tr.setF g (Tr.setF f t.left (n / 2) x) (m / 2) y) _ _
      rw [Tr.setF_comm f g t.left _ _ x y (by omega) (by omega) (by omega)];rfl
     ·rw [if_pos n1,if_neg m1,step,if_neg n0,if_pos n1,step,if_neg m0,if_neg m1];rfl
    ·by_cases m1:m % 2=1
     ·rw [if_neg n1,if_pos m1,step,if_neg n0,if_neg n1,step,if_neg m0,if_pos m1];rfl
     ·rw [if_neg n1,if_neg m1,step,if_neg n0,if_neg n1,step,if_neg m0,if_neg m1]
      show Tr.node _ _ (Tr.setF f (Tr.setF g t.right (m / 2-1) y) (n / 2-1) x)=Tr.node _ _ (Tr.setF g (Tr.setF f t.right (n / 2-1) x) (m / 2-1) y)
      rw [Tr.setF_comm f g t.right _ _ x y (by omega) (by omega) (by omega)];rfl
theorem Tr.set_comm {α:Type} (t:Tr α) {n m:Nat} (x y:α) (h:n≠m):(t.set m y).set n x=(t.set n x).set m y:=Tr.setF_comm _ _ _ _ _ _ _ h (by omega) (by omega)
def addE (ops:Array Oper) (i j:Nat):Array Oper:=ops.modify i fun o=>{ o with after:=o.after.push ⟨j,.data⟩ }
theorem addE_size (ops:Array Oper) (i j:Nat):(addE ops i j).size=ops.size:=by simp [addE]
theorem addE_get (ops:Array Oper) (i j k:Nat):(addE ops i j)[k]? = if i=k then (ops[k]?).map (fun o=>{ o with after:=o.after.push ⟨j,.data⟩ }) else ops[k]?:=by
 unfold addE;rw [Array.getElem?_modify]
theorem addE_of {ops:Array Oper} {i j k:Nat} {o:Oper} (h:ops[k]? = some o):∃ o',(addE ops i j)[k]? = some o'/\o'.dst=o.dst/\o'.op=o.op:=by
 rw [addE_get,h]
 split
 ·exact ⟨_,rfl,rfl,rfl⟩
 ·exact ⟨_,rfl,rfl,rfl⟩
theorem addE_inv {ops:Array Oper} {i j k:Nat} {o' : Oper} (h:(addE ops i j)[k]? = some o'):∃ o,ops[k]? = some o/\o.dst=o'.dst/\o.op=o'.op:=by
 rw [addE_get] at h
 split at h
 ·cases hk:ops[k]? with
  | none=>rw [hk] at h;cases h
  | some o=>rw [hk] at h;cases h;exact ⟨o,rfl,rfl,rfl⟩
 ·exact ⟨_,h,rfl,rfl⟩
theorem addE_after {ops:Array Oper} {i j k:Nat} {o o' : Oper} (h:ops[k]? = some o) (h' : (addE ops i j)[k]? = some o') {e:Edge}:e∈o'.after ↔ e∈o.after\/(k=i/\e=⟨j,.data⟩):=by
 rw [addE_get,h] at h'
 split at h'
 ·rename_i hik;cases h'
  simp [Array.mem_push,hik]
 ·rename_i hik;cases h'
  simp [Ne.symm hik]
theorem addE_yield (ops:Array Oper) (i j:Nat) (tmps:Array Value):yielded (addE ops i j) tmps=yielded ops tmps:=by
 funext m
 unfold yielded
 rw [addE_get]
 by_cases h:i=m
 ·rw [if_pos h];cases ops[m]?<;>rfl
 ·rw [if_neg h]
theorem wpOp_addE {P:Program} {ops:Array Oper} {Q:Exit->Act->World->Prop} (i j k:Nat) {K:Act->World->Prop} {a:Act} {w:World}:wpOp P (addE ops i j) Q k K a w=wpOp P ops Q k K a w:=by
 unfold wpOp
 rw [addE_yield,addE_get]
 by_cases h:i=k
 ·rw [if_pos h];cases ops[k]? with
  | none=>rfl
  | some o=>rfl
 ·rw [if_neg h]
theorem gotB_addE (ops:Array Oper) (i j:Nat) (F:Fr) (k:Nat):gotB (addE ops i j) F k=gotB ops F k:=by
 unfold gotB
 rw [addE_get]
 by_cases h:i=k
 ·rw [if_pos h];cases ops[k]?<;>rfl
 ·rw [if_neg h]
theorem wantedV_addE (ops:Array Oper) (i j:Nat) (F:Fr) (g:Option (Nat×Bool)):wantedV (addE ops i j) F g=wantedV ops F g:=by
 cases g with
 | none=>rfl
 | some g=>simp only [wantedV,gotB_addE]
def p1Of (A:Alt):List (Nat×Nat):=A.pre++(A.dry++[(A.y,0),(A.x,0)])
def p2Of (A:Alt):List (Nat×Nat):=A.pre++(A.x,0) :: ((A.dry.map fun e=>(e.1,9))++[(A.y,0)])
def rk2 (A:Alt) (i:Nat):Nat:=if Nat.beq i A.x then 2*A.y-1 else 2*i
def kdP:Kd->Bool | .p=>true | _=>false
def noT (d:Option Tmp):Operand->Bool | .tmp t=>(match d with | some u=>!Nat.beq t u | none=>true) | _=>true
def stOk (ops:Array Oper) (i:Nat) (t:Tmp):Bool:=match ops[i]? with
 | some o=>(match o.op with | .store _ (.tmp a) _=>Nat.beq a t | _=>false)&&o.dst.isNone&&o.guard.isNone
 | none=>false
def dryOk (T:Tab) (ops:Array Oper) (A:Alt):Bool:=A.dry.all fun e=>match ops[e.1]?,ops[A.x]? with
 | some o,some ox=>kdP (kind T o.op)&&o.guard.isNone&&(match ox.op with | .store _ a b=>noT o.dst a&&noT o.dst b | _=>false)&&!Nat.beq e.1 A.x&&!Nat.beq e.1 A.y
 | _,_=>false
def altCk (T:Tab) (ops:Array Oper) (nt:Nat) (p:List (Nat×Nat)) (A:Alt) (anc anc2:List Nat):Bool :=
 (p==p1Of A)&&planOk T (addE ops A.x A.y) nt p anc&&planR (rk2 A) T (addE ops A.y A.x) nt (p2Of A) anc2&&dryOk T ops A&&stOk ops A.x A.u&&stOk ops A.y A.v&&!Nat.beq A.x A.y
section
variable {T:Tab} {call:CallE} {ops:Array Oper}
def runD (T:Tab) (ops:Array Oper):List (Nat×Nat)->Fr->Option Fr
 | [],F=>some F
 | e :: r,F=>match ops[e.1]? with
  | some o=>match evP T o.op F with
   | some v=>runD T ops r (putD F o.dst v)
   | none=>none
  | none=>none
theorem winOk_p {o:Op} {F:Fr} {n:Nat} {v:V} {B:List Hp} (h:kind T o = .p):winOk T o F n v B=true:=by
 unfold winOk
 split
 ·rfl
 ·rw [List.all_eq_true];intro H _;rw [h]
theorem isPt_p {o:Op} (h:kind T o = .p):isPt T o=false:=by unfold isPt;rw [h]
theorem evOp_p {o:Op} {F:Fr} {H:Hp} (h:kind T o = .p):evOp T o F H=match evP T o F with | some v=>some (.val v H) | none=>none:=by unfold evOp;rw [h];rfl
structure DryP (T:Tab) (ops:Array Oper) (x y:Nat) (d:List (Nat×Nat)):Prop where
 op:∀ e∈d,∃ o,ops[e.1]? = some o/\kind T o.op = .p/\o.guard=none/\e.1≠x/\e.1≠y/\∃ ox t a b,ops[x]? = some ox/\ox.op = .store t a b/\noT o.dst a=true/\noT o.dst b=true
theorem dry_spec {A:Alt} (h:dryOk T ops A=true):DryP T ops A.x A.y A.dry:=⟨fun e he=>by
 have:=List.all_eq_true.1 h e he
 split at this
 ·rename_i o ox ho hox
  simp only [Bool.and_eq_true,Bool.not_eq_true',Option.isNone_iff_eq_none] at this
  obtain ⟨⟨⟨⟨h1,h2⟩,h3⟩,h4⟩,h5⟩:=this
  split at h3
  ·rename_i t a b hst
   simp only [Bool.and_eq_true] at h3
   refine ⟨o,ho,?_,h2,fun e1=>?_,fun e1=>?_,ox,t,a,b,hox,hst,h3.1,h3.2⟩
   ·revert h1;cases kind T o.op<;>simp [kdP]
   ·rw [e1] at h4;rw [Nat.beq_refl] at h4;cases h4
   ·rw [e1] at h5;rw [Nat.beq_refl] at h5;cases h5
  ·cases h3
 ·cases this⟩
theorem DryP.tail {x y:Nat} {e:Nat×Nat} {d:List (Nat×Nat)} (h:DryP T ops x y (e :: d)):DryP T ops x y d:=⟨fun e' he=>h.op e' (by simp [he])⟩
theorem draw_dry {x y:Nat}:∀ (d l:List (Nat×Nat)),DryP T ops x y d->∀ (F:Fr) (H:Hp) (B:List Hp) {r},evDraw T call ops (d++l) F H B=some r->∃ F1,runD T ops d F=some F1/\evDraw T call ops l F1 H B=some r
 | [],l,_,F,H,B,r,h=>⟨F,rfl,h⟩
 | (i,n) :: d,l,hd,F,H,B,r,h=>by
  obtain ⟨o,h1,h2,h3,_⟩:=hd.op (i,n) (by simp)
  simp only [List.cons_append,evDraw,h1,h3,wantedV,evOp_p h2,isPt_p h2] at h
  cases hv:evP T o.op F with
  | none=>rw [hv] at h;cases h
  | some v =>
   rw [hv] at h
   simp only [winOk_p h2,Bool.false_eq_true,if_false,if_true] at h
   obtain ⟨F1,q1,q2⟩:=draw_dry d l hd.tail _ H B h
   exact ⟨F1,by simp only [runD,h1,hv];exact q1,q2⟩
theorem dry_draw {x y k:Nat}:∀ (d l:List (Nat×Nat)),DryP T ops x y d->∀ (F F1:Fr) (H:Hp) (B:List Hp),runD T ops d F=some F1->evDraw T call ops ((d.map fun e=>(e.1,k))++l) F H B=evDraw T call ops l F1 H B
 | [],l,_,F,F1,H,B,h=>by cases h;rfl
 | (i,n) :: d,l,hd,F,F1,H,B,h=>by
  obtain ⟨o,h1,h2,h3,_⟩:=hd.op (i,n) (by simp)
  simp only [runD,h1] at h
  cases hv:evP T o.op F with
  | none=>rw [hv] at h;cases h
  | some v =>
   rw [hv] at h
   simp only [List.map_cons,List.cons_append,evDraw,h1,h3,wantedV,evOp_p h2,isPt_p h2,hv,winOk_p h2,Bool.false_eq_true,if_false,if_true]
   exact dry_draw d l hd.tail _ _ H B h
theorem runD_opd {x y:Nat}:∀ (d:List (Nat×Nat)),DryP T ops x y d->∀ {ox:Oper} {t:TypeId} {a b:Operand},ops[x]? = some ox->ox.op = .store t a b->∀ (F F1:Fr),runD T ops d F=some F1->opd T.ng F1 a=opd T.ng F a/\opd T.ng F1 b=opd T.ng F b
 | [],_,ox,t,a,b,_,_,F,F1,h=>by cases h;exact ⟨rfl,rfl⟩
 | (i,n) :: d,hd,ox,t,a,b,hx,hs,F,F1,h=>by
  obtain ⟨o,h1,h2,h3,_,_,ox',t',a',b',g1,g2,g3,g4⟩:=hd.op (i,n) (by simp)
  rw [hx] at g1;cases g1
  rw [hs] at g2;cases g2
  simp only [runD,h1] at h
  cases hv:evP T o.op F with
  | none=>rw [hv] at h;cases h
  | some v =>
   rw [hv] at h
   obtain ⟨q1,q2⟩:=runD_opd d hd.tail hx hs _ _ h
   have key:∀ c:Operand,noT o.dst c=true->opd T.ng (putD F o.dst v) c=opd T.ng F c:=fun c hc=>by
    cases c with
    | tmp u =>
     cases hdst:o.dst with
     | none=>rfl
     | some z =>
      rw [hdst] at hc
      simp only [noT,Bool.not_eq_true'] at hc
      show (Tr.set F z v).get u=F.get u
      rw [Tr.get_set,if_neg]
      rintro rfl
      rw [Nat.beq_refl] at hc;cases hc
    | _=>rfl
   exact ⟨q1.trans (key a g3),q2.trans (key b g4)⟩
theorem gpn {H:Hp} {b c:Nat} (o:Ob) (h:c≠b):(H.put b o).get c=H.get c:=by
 show (Tr.set H.m b o).get c=H.m.get c
 rw [Tr.get_set,if_neg h]
theorem flush_id {K:Hp} (h:K.stale=[]):K.flush=K:=by unfold Hp.flush;rw [h]
theorem draw_store {i:Nat} {o:Oper} {t:TypeId} {u:Tmp} {c:Operand} (h1:ops[i]? = some o) (h2:o.op = .store t (.tmp u) c) (h3:o.dst=none) (h4:o.guard=none) (l:List (Nat×Nat)) (F:Fr) (H:Hp) (B:List Hp) (n:Nat) :
  evDraw T call ops ((i,n) :: l) F H B=match evW T (.store t (.tmp u) c) F H.flush with
   | some (none,H')=>evDraw T call ops l F H'.bump (H' :: B)
   | some (some v,H')=>evDraw T call ops l F H'.bump (H' :: B)
   | none=>none:=by
 have hk:kind T (.store t (.tmp u) c) = .w:=rfl
 have hp:isPt T (.store t (.tmp u) c)=true:=rfl
 simp only [evDraw,h1,h2,h3,h4,wantedV,evOp,hk]
 cases evW T (.store t (.tmp u) c) F H.flush with
 | none=>rfl
 | some r =>
  obtain ⟨z,H'⟩:=r
  cases z with
  | none=>rfl
  | some v=>simp only [hp,if_true];rfl
theorem evW_store {t:TypeId} {u:Tmp} {c:Operand} {F:Fr} {H:Hp} {r:Option V×Hp} (h:evW T (.store t (.tmp u) c) F H=some r):∃ b off v i e sz cs,F.get u=some (.ptr b off)/\opd T.ng F c=some v/\T.ty t=some i/\H.get b=some (.row e sz false cs)/\r=(none,H.put b (.row e sz false (setCells cs off (cellsV v)))) /\
  ((cellsV v).all oneV=true/\(cellsV v).length=i.size/\off+i.size<=cs.length):=by
 simp only [evW] at h
 split at h
 ·rename_i b off v i e1 e2 e3
  split at h
  ·rename_i e sz cs hg
   split at h
   ·rename_i hc
    cases h
    exact ⟨b,off,v,i,e,sz,cs,e1,e2,e3,hg,rfl,hc⟩
   ·cases h
  ·cases h
 ·cases h
theorem evW_mk {t:TypeId} {u:Tmp} {c:Operand} {F:Fr} {H:Hp} {b off:Nat} {v:V} {i:TI} {e:TypeId} {sz:Nat} {cs:List V} (h1:F.get u=some (.ptr b off)) (h2:opd T.ng F c=some v) (h3:T.ty t=some i) (h4:H.get b=some (.row e sz false cs))
  (h5:(cellsV v).all oneV=true/\(cellsV v).length=i.size/\off+i.size<=cs.length):evW T (.store t (.tmp u) c) F H=some (none,H.put b (.row e sz false (setCells cs off (cellsV v)))):=by
 have h1' : opd T.ng F (.tmp u)=some (.ptr b off):=h1
 simp only [evW,h1',h2,h3,h4,if_pos h5]
theorem draw_swap {A:Alt} (hd:DryP T ops A.x A.y A.dry) (hx:stOk ops A.x A.u=true) (hy:stOk ops A.y A.v=true) {F F' : Fr} {H H' : Hp} {B:List Hp}
  (h:evDraw T call ops (A.dry++[(A.y,0),(A.x,0)]) F H B=some (F',H')) (ha:match F'.get A.u,F'.get A.v with | some (.ptr b _),some (.ptr b' _)=>(!Nat.beq b b')=true | _,_=>False) :
  evDraw T call ops ((A.x,0) :: ((A.dry.map fun e=>(e.1,9))++[(A.y,0)])) F H B=some (F',H'):=by
 have st:∀ i u,stOk ops i u=true->∃ o t c,ops[i]? = some o/\o.op = .store t (.tmp u) c/\o.dst=none/\o.guard=none:=fun i u hs=>by
  unfold stOk at hs
  split at hs
  ·rename_i o ho
   simp only [Bool.and_eq_true,Option.isNone_iff_eq_none] at hs
   obtain ⟨⟨h1,h2⟩,h3⟩:=hs
   split at h1
   ·rename_i t a c hop
    have:a=u:=Nat.eq_of_beq_eq_true h1
    subst this
    exact ⟨o,t,c,ho,hop,h2,h3⟩
   ·cases h1
  ·cases hs
 obtain ⟨ox,tx,cx,x1,x2,x3,x4⟩:=st _ _ hx
 obtain ⟨oy,ty,cy,y1,y2,y3,y4⟩:=st _ _ hy
 obtain ⟨F1,hr,h⟩:=draw_dry _ _ hd F H B h
 obtain ⟨q1,q2⟩:=runD_opd _ hd x1 x2 F F1 hr
 rw [draw_store y1 y2 y3 y4] at h
 cases e1:evW T (.store ty (.tmp A.v) cy) F1 H.flush with
 | none=>rw [e1] at h;cases h
 | some r1 =>
  obtain ⟨by_,oy_,vy,iy,ey,szy,csy,a1,a2,a3,a4,rfl,a5⟩:=evW_store e1
  rw [e1] at h
  dsimp only at h
  rw [draw_store x1 x2 x3 x4] at h
  generalize hK1:H.flush.put by_ (.row ey szy false (setCells csy oy_ (cellsV vy)))=K1 at h
  have hs1:K1.bump.stale=[]:=by rw [<- hK1];exact Hp.stale_flush H
  rw [flush_id hs1] at h
  cases e2:evW T (.store tx (.tmp A.u) cx) F1 K1.bump with
  | none=>rw [e2] at h;cases h
  | some r2 =>
   obtain ⟨bx,ox_,vx,ix,ex,szx,csx,b1,b2,b3,b4,rfl,b5⟩:=evW_store e2
   rw [e2] at h
   dsimp only [evDraw] at h
   cases h
   rw [b1,a1] at ha
   have hne:bx≠by_:=fun e=>by subst e;simp at ha
   have g1:F.get A.u=some (.ptr bx ox_):=q1.symm.trans b1
   have g2:opd T.ng F cx=some vx:=q2.symm.trans b2
   have g3:H.flush.get bx=some (.row ex szx false csx):=by
    rw [<- b4,<- hK1]
    show _=(Hp.put H.flush by_ _).get bx
    rw [gpn _ hne]
   rw [draw_store x1 x2 x3 x4,evW_mk g1 g2 b3 g3 b5]
   dsimp only
   rw [dry_draw _ _ hd F _ _ _ hr,draw_store y1 y2 y3 y4]
   generalize hL1:H.flush.put bx (.row ex szx false (setCells csx ox_ (cellsV vx)))=L1
   have hs2:L1.bump.stale=[]:=by rw [<- hL1];exact Hp.stale_flush H
   rw [flush_id hs2]
   have g4:L1.bump.get by_=some (.row ey szy false csy):=by
    rw [<- a4,<- hL1]
    show (Hp.put H.flush bx _).get by_=_
    rw [gpn _ (Ne.symm hne)]
   rw [evW_mk a1 a2 a3 g4 a5]
   dsimp only [evDraw]
   congr 2
   rw [flush_id (show ((L1.bump).put by_ _).bump.stale=[] from hs2),flush_id (show ((K1.bump).put bx _).bump.stale=[] from hs1)]
   rw [<- hL1,<- hK1]
   show Hp.mk _ _ _=Hp.mk _ _ _
   congr 1
   exact Tr.set_comm _ _ _ (Ne.symm hne)
theorem draw_pre {l1 l2:List (Nat×Nat)} {K:Fr×Hp->Prop} (hl:∀ F H B r,K r->evDraw T call ops l1 F H B=some r->evDraw T call ops l2 F H B=some r):∀ (pre:List (Nat×Nat)) (F:Fr) (H:Hp) (B:List Hp) (r:Fr×Hp),K r->evDraw T call ops (pre++l1) F H B=some r->evDraw T call ops (pre++l2) F H B=some r
 | [],F,H,B,r,hk,h=>hl F H B r hk h
 | (i,n) :: pre,F,H,B,r,hk,h=>by
  have ih:=fun F H B=>draw_pre hl pre F H B r hk
  simp only [List.cons_append,evDraw] at h ⊢
  split at h
  ·cases h
  ·rename_i o ho
   split at h
   ·split at h
    ·split at h
     ·rename_i hp;simp only [hp,if_true];exact ih _ _ _ h
     ·split at h
      ·rename_i hp hw;simp only [hp,hw,Bool.false_eq_true,if_false,if_true];exact ih _ _ _ h
      ·cases h
    ·exact ih _ _ _ h
    ·split at h
     ·exact ih _ _ _ h
     ·cases h
    ·cases h
   ·exact ih _ _ _ h
   ·cases h
end
theorem StepAt.det {T:Tab} {call:CallE} {ops:Array Oper} {o:Oper} {m:Nat} {F:Fr} {H:Hp} {B:List Hp} {F1 F2:Fr} {H1 H2:Hp} {B1 B2:List Hp} (h:StepAt T call ops o m F H B F1 H1 B1) (h' : StepAt T call ops o m F H B F2 H2 B2):F1=F2/\H1=H2/\B1=B2:=by
 cases h<;>cases h'<;>simp_all
theorem StepAt.dry {T:Tab} {call:CallE} {ops:Array Oper} {o:Oper} {m:Nat} {F:Fr} {H:Hp} {B:List Hp} {F1:Fr} {H1:Hp} {B1:List Hp} (hk:kind T o.op = .p) (h:StepAt T call ops o m F H B F1 H1 B1):H1=H:=by
 have hp:=isPt_p (T:=T) hk
 cases h with
 | skip _=>rfl
 | val v H' _ he _ _ =>
  rw [evOp_p hk] at he
  split at he
  ·cases he;rfl
  ·cases he
 | pval v H' _ he h=>rw [hp] at h;cases h
 | pskip H' _ he h=>rw [hp] at h;cases h
 | call f xs H' v H'' _ he h1 h=>rw [hp] at h;cases h
section
variable {T:Tab} {P:Program} {n0:Nat} {w0:World} {call:CallE} {nt:NT} {p p2:List (Nat×Nat)} {anc anc2:List Nat} {Fs Fs' : Nat->Fr} {Hs Hs' : Nat->Hp} {Bs Bs' : Nat->List Hp}
variable {D:Nat->Prop} {s:Sg} {w:World} {S:Array Bool} {a1:Act} {w1:World} {q:Nat} {D1:Nat->Prop} {s1:Sg} {G:Hp}
theorem Inv.swap {ops1 ops2:Array Oper} (hsz:ops2.size=ops1.size) (hget:∀ (i:Nat) o2,ops2[i]? = some o2->∃ o1,ops1[i]? = some o1/\o1.dst=o2.dst/\o1.op=o2.op) (hget' : ∀ (i:Nat) o1,ops1[i]? = some o1->∃ o2,ops2[i]? = some o2/\o2.dst=o1.dst/\o2.op=o1.op)
  (hcl:∀ (i:Nat) o e,ops2[i]? = some o->S.getD i false=true->e∈o.after->Region.binds .any e=true->S.getD e.on false=true)
  {c:Nat} (hc2:c<=p2.length) (hpre:∀ j,j < c->p2[j]? = p[j]?) (hFs0:Fs' 0=Fs 0) (hFsN:Fs' p2.length=Fs p.length) (hHs:∀ j,j<=c->Hs' j=Hs j)
  (hdry:∀ (j i m:Nat),c<=j->p[j]? = some (i,m)->S.getD i false=true->(Hs (j+1)).next=(Hs j).next/\∀ o,ops1[i]? = some o->isPt T o.op=false)
  (hdry2:∀ (j i m:Nat),c<=j->p2[j]? = some (i,m)->S.getD i false=true->(Hs' (j+1)).next=(Hs' j).next/\∀ o,ops2[i]? = some o->isPt T o.op=false)
  (I:Inv T n0 w0 ops1 nt p Fs Hs D s w S a1 w1 q D1 s1 G):Inv T n0 w0 ops2 nt p2 Fs' Hs' D s w S a1 w1 q D1 s1 G:=by
 have hq:q<=c:=by
  cases q with
  | zero=>exact Nat.zero_le _
  | succ q' =>
   obtain ⟨i,m,o,h1,h2,h3⟩:=I.base q' rfl
   obtain ⟨i',m',h4,h5⟩:=I.below q' (by omega)
   rw [h1] at h4;cases h4
   by_cases hlt:q' < c
   ·omega
   ·have:=(hdry q' i m (by omega) h1 h5).2 o h2
    rw [this] at h3;cases h3
 have h0:=hHs 0 (Nat.zero_le _)
 have hq':=hHs q hq
 have hE:∀ j b,Ey Hs' S p2 q j b ↔ Ey Hs S p q j b:=fun j b=>by
  unfold Ey
  by_cases hlt:j < c
  ·have e1:Ex S p2 j ↔ Ex S p j:=by unfold Ex;rw [hpre j hlt]
   rw [e1,hHs j (by omega),hHs (j+1) (by omega)]
  ·constructor
   ·rintro ⟨g1,⟨i,m,g2,g3⟩,g4,g5⟩
    have:=(hdry2 j i m (by omega) g2 g3).1
    omega
   ·rintro ⟨g1,⟨i,m,g2,g3⟩,g4,g5⟩
    have:=(hdry j i m (by omega) g2 g3).1
    omega
 have hlt:∀ j b,Ey Hs S p q j b->j < c:=fun j b h=>by
  obtain ⟨g1,⟨i,m,g2,g3⟩,g4,g5⟩:=h
  by_cases hlt:j < c
  ·exact hlt
  ·have:=(hdry j i m (by omega) g2 g3).1
   omega
 have hEx:∀ (b:Nat),(∃ j,Ey Hs' S p2 q j b) ↔ ∃ j,Ey Hs S p q j b:=fun b=>exists_congr fun j=>hE j b
 refine {
  size:=I.size.trans hsz.symm
  closed:=hcl
  qle:=Nat.le_trans hq hc2
  base:=fun q' e=>?_
  below:=fun j hj=>?_
  early:=fun j i m o2 hj hp ho hS=>?_
  step:=by rw [h0];exact I.step
  dom:=fun b=>by rw [h0,hq',hEx];exact I.dom b
  gst:=by rw [hq'];exact I.gst
  glo:=fun b hb=>by rw [hq'] at hb ⊢;exact I.glo b hb
  ghi:=fun j b h=>by
   have h':=(hE j b).1 h
   rw [hHs (j+1) (by have:=hlt j b h';omega)]
   exact I.ghi j b h'
  gno:=fun b hb hn=>by
   rw [hq'] at hb
   exact I.gno b hb fun h=>hn ((hEx b).2 h)
  uniq:=fun j b h=>I.uniq j b ((hE j b).1 h)
  fr:=fun t v hall ht=>by
   rw [hFsN] at ht
   exact I.fr t v (fun i o1 ho hd=>by
    obtain ⟨o2,g1,g2,g3⟩:=hget' i o1 ho
    exact hall i o2 g1 (g2.trans hd)) ht
  fr0:=fun t v hall ht=>by
   rw [hFs0] at ht
   exact I.fr0 t v (fun i o1 ho hd=>by
    obtain ⟨o2,g1,g2,g3⟩:=hget' i o1 ho
    exact hall i o2 g1 (g2.trans hd)) ht
  tsize:=I.tsize
  defers:=I.defers }
 ·obtain ⟨i,m,o,h1,h2,h3⟩:=I.base q' e
  obtain ⟨o2,g1,g2,g3⟩:=hget' i o h2
  exact ⟨i,m,o2,by rw [hpre q' (by omega)];exact h1,g1,by rw [g3];exact h3⟩
 ·obtain ⟨i,m,h1,h2⟩:=I.below j hj
  exact ⟨i,m,by rw [hpre j (by omega)];exact h1,h2⟩
 ·by_cases hlt' : j < c
  ·rw [hpre j hlt'] at hp
   obtain ⟨o1,g1,g2,g3⟩:=hget i o2 ho
   rw [<- g3]
   exact I.early j i m o1 hj hp g1 hS
  ·exact (hdry2 j i m (by omega) hp hS).2 o2 ho
theorem any_ok2 {ops:Array Oper} {A:Alt} (C:Cx T P n0 w0 call .none (addE ops A.x A.y) nt p anc Fs Hs Bs) (C2:Cx T P n0 w0 call .none (addE ops A.y A.x) nt p2 anc2 Fs' Hs' Bs') (hg0:GlOk T.ng D s) (hf:Fresh D (Hs 0) (Hs p.length)) (hf2:Fresh D (Hs' 0) (Hs' p2.length))
  {Q:Exit->Act->World->Prop} (hQ:∀ a' w',Post T n0 w0 nt D s (Hs 0) w (Fs p.length) (Hs p.length).flush a' w'->Q .normal a' w') (hQ2:∀ a' w',Post T n0 w0 nt D s (Hs' 0) w (Fs' p2.length) (Hs' p2.length).flush a' w'->Q .normal a' w') (hxy:A.x≠A.y) (hxs:A.x < ops.size) (hys:A.y < ops.size)
  (hsw:∀ (S:Array Bool) a1 w1 q D1 s1 G,S.getD A.x false=false->S.getD A.y false=false->Inv T n0 w0 (addE ops A.x A.y) nt p Fs Hs D s w S a1 w1 q D1 s1 G->Inv T n0 w0 (addE ops A.y A.x) nt p2 Fs' Hs' D s w S a1 w1 q D1 s1 G) :
  ∀ (fuel:Nat) (S:Array Bool) (a1:Act) (w1:World),(List.range ops.size).countP (fun i=>!S.getD i false)<=fuel ->
   ((∃ q D1 s1 G,Inv T n0 w0 (addE ops A.x A.y) nt p Fs Hs D s w S a1 w1 q D1 s1 G)\/(S.getD A.x false=true/\∃ q D1 s1 G,Inv T n0 w0 (addE ops A.y A.x) nt p2 Fs' Hs' D s w S a1 w1 q D1 s1 G))->wpAny P .any ops Q fuel S a1 w1:=by
 have hsize:∀ {S:Array Bool} {a1 w1},((∃ q D1 s1 G,Inv T n0 w0 (addE ops A.x A.y) nt p Fs Hs D s w S a1 w1 q D1 s1 G)\/(S.getD A.x false=true/\∃ q D1 s1 G,Inv T n0 w0 (addE ops A.y A.x) nt p2 Fs' Hs' D s w S a1 w1 q D1 s1 G))->S.size=ops.size:=by
  rintro S a1 w1 (⟨q,D1,s1,G,I⟩ | ⟨_,q,D1,s1,G,I⟩)
  ·exact I.size.trans (addE_size _ _ _)
  ·exact I.size.trans (addE_size _ _ _)
 have fin:∀ {S:Array Bool} {a1 w1},((∃ q D1 s1 G,Inv T n0 w0 (addE ops A.x A.y) nt p Fs Hs D s w S a1 w1 q D1 s1 G)\/(S.getD A.x false=true/\∃ q D1 s1 G,Inv T n0 w0 (addE ops A.y A.x) nt p2 Fs' Hs' D s w S a1 w1 q D1 s1 G))->(∀ i,i < ops.size->S.getD i false=true)->Q .normal a1 w1:=by
  rintro S a1 w1 (⟨q,D1,s1,G,I⟩ | ⟨_,q,D1,s1,G,I⟩) hall
  ·exact hQ _ _ (I.post C hf fun i hi=>hall i (by rw [addE_size] at hi;exact hi))
  ·exact hQ2 _ _ (I.post C2 hf2 fun i hi=>hall i (by rw [addE_size] at hi;exact hi))
 -- fewer may come up where there are more edges
 have rd:∀ (u v:Nat) (S:Array Bool),Region.ready .any ops S=[]->Region.ready .any (addE ops u v) S=[]:=fun u v S hr=>by
  cases hr' : Region.ready .any (addE ops u v) S with
  | nil=>rfl
  | cons i r =>
   have:i∈Region.ready .any (addE ops u v) S:=by rw [hr'];simp
   obtain ⟨h1,o',ho',h2⟩:=mem_ready.1 this
   obtain ⟨o,ho,_,_⟩:=addE_inv ho'
   have:i∈Region.ready .any ops S:=mem_ready.2 ⟨h1,o,ho,fun e he hb=>h2 e ((addE_after ho ho').2 (.inl he)) hb⟩
   rw [hr] at this;cases this
 intro fuel
 induction fuel with
 | zero =>
  intro S a1 w1 hc hJ
  have hall:∀ i,i < ops.size->S.getD i false=true:=fun i hi=>by
   have h0:(List.range ops.size).countP (fun i=>!S.getD i false)=0:=by omega
   rw [List.countP_eq_zero] at h0
   simpa using h0 i (List.mem_range.2 hi)
  refine ⟨?_,fin hJ hall⟩
  cases hr:Region.ready .any ops S with
  | nil=>rfl
  | cons i r =>
   have:i∈Region.ready .any ops S:=by rw [hr];simp
   obtain ⟨h1,o,ho,_⟩:=mem_ready.1 this
   have hi:=some_lt ho
   rw [getD_tf S (by rw [hsize hJ];exact hi),hall i hi] at h1
   cases h1
 | succ fuel ih =>
  intro S a1 w1 hc hJ
  refine ⟨fun hr=>fin hJ ?_,fun i hi=>?_⟩
  ·rcases hJ with ⟨q,D1,s1,G,I⟩ | ⟨_,q,D1,s1,G,I⟩
   ·exact fun i hi=>I.all_ex C (rd _ _ _ hr) i (by rw [addE_size];exact hi)
   ·exact fun i hi=>I.all_ex C2 (rd _ _ _ hr) i (by rw [addE_size];exact hi)
  ·obtain ⟨h1,o,ho,hpre⟩:=mem_ready.1 hi
   have hlt:=some_lt ho
   have hltS:i < S.size:=by rw [hsize hJ];exact hlt
   have hun:S.getD i false=false:=by rw [<- getD_tf S hltS];exact h1
   have hcnt:(List.range ops.size).countP (fun k=>!(S.setIfInBounds i true).getD k false)<=fuel:=by
    have:=countP_lt (l:=List.range ops.size) (p:=fun i=>!S.getD i false) (p':=fun k=>!(S.setIfInBounds i true).getD k false) (fun k hk h=>by
     cases hS:S.getD k false with
     | false=>rfl
     | true =>
      rw [(getD_set S hltS).2 (.inr hS)] at h
      cases h) ⟨i,List.mem_range.2 hlt,by rw [hun];rfl,by rw [(getD_set S hltS).2 (.inl rfl)];rfl⟩
    omega
   have go:∀ (u v:Nat) {pp:List (Nat×Nat)} {aa:List Nat} {FF:Nat->Fr} {HH:Nat->Hp} {BB:Nat->List Hp} (CC:Cx T P n0 w0 call .none (addE ops u v) nt pp aa FF HH BB) (ff:Fresh D (HH 0) (HH pp.length)),(i=u->S.getD v false=true) ->
     (∃ q D1 s1 G,Inv T n0 w0 (addE ops u v) nt pp FF HH D s w S a1 w1 q D1 s1 G)->wpOp P ops Q i (fun a' w'=>∃ q D1 s1 G,Inv T n0 w0 (addE ops u v) nt pp FF HH D s w (S.setIfInBounds i true) a' w' q D1 s1 G) a1 w1:=by
    intro u v pp aa FF HH BB CC ff hu ⟨q,D1,s1,G,I⟩
    obtain ⟨o',ho',_,_⟩:=addE_of (i:=u) (j:=v) ho
    obtain ⟨j,m,hj⟩:=CC.pl.cover i (by rw [addE_size];exact hlt)
    have R:Rdy (addE ops u v) pp S j i m o':=⟨hj,ho',hun,fun e he hb=>by
     rcases (addE_after ho ho').1 he with he | ⟨rfl,rfl⟩
     ·exact hpre e he hb
     ·exact hu rfl⟩
    have:=I.op CC hg0 ff R ⟨id,id⟩ (Q:=Q)
    rw [wpOp_addE] at this
    exact this
   rcases hJ with hJ | ⟨hx,hJ⟩
   ·by_cases hix:i=A.x
    ·by_cases hy:S.getD A.y false=true
     ·exact wpOp_mono (fun a' w' hI=>ih _ a' w' hcnt (.inl hI)) (go _ _ C hf (fun _=>hy) hJ)
     ·obtain ⟨q,D1,s1,G,I⟩:=hJ
      have hI2:=hsw S a1 w1 q D1 s1 G (by rw [<- hix];exact hun) (by simpa using hy) I
      exact wpOp_mono (fun a' w' hI=>ih _ a' w' hcnt (.inr ⟨(getD_set S hltS).2 (.inl hix.symm),hI⟩)) (go _ _ C2 hf2 (fun e=>absurd (hix.symm.trans e) hxy) ⟨q,D1,s1,G,hI2⟩)
    ·exact wpOp_mono (fun a' w' hI=>ih _ a' w' hcnt (.inl hI)) (go _ _ C hf (fun e=>absurd e hix) hJ)
   ·exact wpOp_mono (fun a' w' hI=>ih _ a' w' hcnt (.inr ⟨(getD_set S hltS).2 (.inr hx),hI⟩)) (go _ _ C2 hf2 (fun _=>hx) hJ)
theorem StepAt.toE {ops:Array Oper} {o:Oper} {i m u v:Nat} {F:Fr} {H:Hp} {B:List Hp} {F1:Fr} {H1:Hp} {B1:List Hp} (h1:ops[i]? = some o) (h:StepAt T call ops o m F H B F1 H1 B1):∃ o',(addE ops u v)[i]? = some o'/\StepAt T call (addE ops u v) o' m F H B F1 H1 B1:=by
 rw [addE_get,h1]
 by_cases hu:u=i
 ·rw [if_pos hu]
  refine ⟨_,rfl,?_⟩
  cases h with
  | skip hw=>exact StepAt.skip (o:={ o with after:=o.after.push ⟨v,.data⟩ }) (by rw [wantedV_addE];exact hw)
  | val z H' hw a b c=>exact StepAt.val (o:={ o with after:=o.after.push ⟨v,.data⟩ }) z _ (by rw [wantedV_addE];exact hw) a b c
  | pval z H' hw a b=>exact StepAt.pval (o:={ o with after:=o.after.push ⟨v,.data⟩ }) z H' (by rw [wantedV_addE];exact hw) a b
  | pskip H' hw a b=>exact StepAt.pskip (o:={ o with after:=o.after.push ⟨v,.data⟩ }) H' (by rw [wantedV_addE];exact hw) a b
  | call f xs H' z H'' hw a b c=>exact StepAt.call (o:={ o with after:=o.after.push ⟨v,.data⟩ }) f xs H' z H'' (by rw [wantedV_addE];exact hw) a b c
 ·rw [if_neg hu]
  refine ⟨_,rfl,?_⟩
  cases h with
  | skip hw=>exact StepAt.skip (by rw [wantedV_addE];exact hw)
  | val z H' hw a b c=>exact StepAt.val z _ (by rw [wantedV_addE];exact hw) a b c
  | pval z H' hw a b=>exact StepAt.pval z H' (by rw [wantedV_addE];exact hw) a b
  | pskip H' hw a b=>exact StepAt.pskip H' (by rw [wantedV_addE];exact hw) a b
  | call f xs H' z H'' hw a b c=>exact StepAt.call f xs H' z H'' (by rw [wantedV_addE];exact hw) a b c
theorem drawOk2 (hM:MachOk T P) (hn:n0<=w0.heap.size) {f:FuncId} {id:Nat} {ops:Array Oper} {A:Alt} (hdr:T.dr f id=some p) (halt:T.alt f id=some A) (hck:altCk T ops nt p A anc anc2=true):DrawOk T P n0 w0 f nt id ops:=by
 intro call hc hcg p' hdr' F H F' H' hev hao D s a w Q hP hf hQ
 rw [hdr] at hdr'
 cases hdr'
 simp only [altCk,Bool.and_eq_true,beq_iff_eq,Bool.not_eq_true'] at hck
 obtain ⟨⟨⟨⟨⟨⟨hp,hpl⟩,hpl2⟩,hdry⟩,hsx⟩,hsy⟩,hne⟩:=hck
 subst hp
 have hxy:A.x≠A.y:=fun e=>by rw [e,Nat.beq_refl] at hne;cases hne
 have szof:∀ i t,stOk ops i t=true->i < ops.size:=fun i t h=>by
  unfold stOk at h
  split at h
  ·rename_i o ho;exact some_lt ho
  ·cases h
 have hD:=dry_spec hdry
 have hao' : match F'.get A.u,F'.get A.v with | some (.ptr b _),some (.ptr b' _)=>(!Nat.beq b b')=true | _,_=>False:=by
  unfold altOk at hao
  rw [halt] at hao
  dsimp only at hao
  split at hao
  ·rename_i e1 e2;rw [e1,e2];exact hao
  ·cases hao
 have hev2:evDraw T call ops (p2Of A) F H [H]=some (F',H'):=draw_pre (K:=fun r=>r=(F',H')) (fun F0 H0 B0 r hk h=>by subst hk;exact draw_swap hD hsx hsy h hao') A.pre F H [H] (F',H') rfl hev
 obtain ⟨Fs,Hs,Bs,e1,e2,e3,e4,e5,e6⟩:=evDraw_trace _ hev
 obtain ⟨Fs',Hs',Bs',g1,g2,g3,g4,g5,g6⟩:=evDraw_trace _ hev2
 have C:Cx T P n0 w0 call .none (addE ops A.x A.y) nt (p1Of A) anc Fs Hs Bs:=⟨hM,hn,hc,hcg,Dd.none_good,planOk_spec hpl,fun j i m hj=>by
  obtain ⟨o,h1,h2⟩:=e4 j i m hj
  obtain ⟨o',h3,h4⟩:=h2.toE h1
  exact ⟨o',h3,.runs h4⟩,by rw [e3,e2],by rw [e2];exact hP.good⟩
 have C2:Cx T P n0 w0 call .none (addE ops A.y A.x) nt (p2Of A) anc2 Fs' Hs' Bs':=⟨hM,hn,hc,hcg,Dd.none_good,planR_spec hpl2,fun j i m hj=>by
  obtain ⟨o,h1,h2⟩:=g4 j i m hj
  obtain ⟨o',h3,h4⟩:=h2.toE h1
  exact ⟨o',h3,.runs h4⟩,by rw [g3,g2],by rw [g2];exact hP.good⟩
 have hpre:∀ j,j < A.pre.length->(p2Of A)[j]? = (p1Of A)[j]?:=fun j hj=>by
  unfold p1Of p2Of
  rw [List.getElem?_append_left hj,List.getElem?_append_left hj]
 have same:∀ j,j<=A.pre.length->Fs' j=Fs j/\Hs' j=Hs j/\Bs' j=Bs j:=by
  intro j
  induction j with
  | zero=>intro _;exact ⟨g1.trans e1.symm,g2.trans e2.symm,g3.trans e3.symm⟩
  | succ j ih =>
   intro hj
   obtain ⟨i1,i2,i3⟩:=ih (by omega)
   have hpj:=hpre j (by omega)
   have hlt:j < (p1Of A).length:=by unfold p1Of;simp;omega
   obtain ⟨⟨i,m⟩,hjj⟩:∃ e,(p1Of A)[j]? = some e:=⟨_,List.getElem?_eq_getElem hlt⟩
   obtain ⟨o,h1,h2⟩:=e4 j i m hjj
   obtain ⟨o',h1',h2'⟩:=g4 j i m (hpj.trans hjj)
   rw [h1] at h1';cases h1'
   rw [i1,i2,i3] at h2'
   exact h2'.det h2
 have late1:∀ (j i m:Nat),A.pre.length<=j->(p1Of A)[j]? = some (i,m)->(∃ m',(i,m')∈A.dry)\/i=A.y\/i=A.x:=fun j i m hj h=>by
  unfold p1Of at h
  rw [List.getElem?_append_right hj] at h
  have:=List.mem_of_getElem? h
  simp only [List.mem_append,List.mem_cons,Prod.mk.injEq,List.not_mem_nil,or_false] at this
  rcases this with h | h | h
  ·exact .inl ⟨m,h⟩
  ·exact .inr (.inl h.1)
  ·exact .inr (.inr h.1)
 have late2:∀ (j i m:Nat),A.pre.length<=j->(p2Of A)[j]? = some (i,m)->(∃ m',(i,m')∈A.dry)\/i=A.y\/i=A.x:=fun j i m hj h=>by
  unfold p2Of at h
  rw [List.getElem?_append_right hj] at h
  have:=List.mem_of_getElem? h
  simp only [List.mem_append,List.mem_cons,List.mem_map,Prod.mk.injEq,List.not_mem_nil,or_false] at this
  rcases this with h | ⟨x,h1,h2,_⟩ | h
  ·exact .inr (.inr h.1)
  ·exact .inl ⟨x.2,by rw [<- h2];exact h1⟩
  ·exact .inr (.inl h.1)
 have hsw:∀ (S:Array Bool) a1 w1 q D1 s1 G,S.getD A.x false=false->S.getD A.y false=false->Inv T n0 w0 (addE ops A.x A.y) nt (p1Of A) Fs Hs D s { w with drawn:=w.drawn+1 } S a1 w1 q D1 s1 G->Inv T n0 w0 (addE ops A.y A.x) nt (p2Of A) Fs' Hs' D s { w with drawn:=w.drawn+1 } S a1 w1 q D1 s1 G:=by
  intro S a1 w1 q D1 s1 G hx hy I
  have dryAt:∀ i:Nat,((∃ m',(i,m')∈A.dry)\/i=A.y\/i=A.x)->S.getD i false=true->∃ o,ops[i]? = some o/\kind T o.op = .p:=fun i h hS=>by
   rcases h with ⟨m',h⟩ | rfl | rfl
   ·obtain ⟨o,h1,h2,_⟩:=hD.op _ h
    exact ⟨o,h1,h2⟩
   ·rw [hy] at hS;cases hS
   ·rw [hx] at hS;cases hS
  refine I.swap (by rw [addE_size,addE_size]) (fun i o2 h=>?_) (fun i o1 h=>?_) (fun i o e ho hS he hb=>?_) (c:=A.pre.length) (by unfold p2Of;simp) hpre (g1.trans e1.symm) (g5.symm.trans e5) (fun j hj=>(same j hj).2.1) (fun j i m hj hp hS=>?_) (fun j i m hj hp hS=>?_)
  ·obtain ⟨o,h1,h2,h3⟩:=addE_inv h
   obtain ⟨o1,h4,h5,h6⟩:=addE_of (i:=A.x) (j:=A.y) h1
   exact ⟨o1,h4,h5.trans h2,h6.trans h3⟩
  ·obtain ⟨o,h1',h2,h3⟩:=addE_inv h
   obtain ⟨o1,h4,h5,h6⟩:=addE_of (i:=A.y) (j:=A.x) h1'
   exact ⟨o1,h4,h5.trans h2,h6.trans h3⟩
  ·obtain ⟨o0,h1',h2,h3⟩:=addE_inv ho
   rcases (addE_after h1' ho).1 he with he | ⟨rfl,rfl⟩
   ·obtain ⟨o1,h4,h5,h6⟩:=addE_of (i:=A.x) (j:=A.y) h1'
    exact I.closed i o1 e h4 hS ((addE_after h1' h4).2 (.inl he)) hb
   ·rw [hy] at hS;cases hS
  ·obtain ⟨o,h1',h2⟩:=dryAt i (late1 j i m hj hp) hS
   obtain ⟨o',h3,h4⟩:=e4 j i m hp
   rw [h1'] at h3;cases h3
   refine ⟨by rw [h4.dry h2],fun o1 ho1=>?_⟩
   obtain ⟨o3,h5,_,h6⟩:=addE_inv ho1
   rw [h1'] at h5;cases h5
   rw [<- h6];exact isPt_p h2
  ·obtain ⟨o,h1',h2⟩:=dryAt i (late2 j i m hj hp) hS
   obtain ⟨o',h3,h4⟩:=g4 j i m hp
   rw [h1'] at h3;cases h3
   refine ⟨by rw [h4.dry h2],fun o1 ho1=>?_⟩
   obtain ⟨o3,h5,_,h6⟩:=addE_inv ho1
   rw [h1'] at h5;cases h5
   rw [<- h6];exact isPt_p h2
 have hf' : Fresh D (Hs 0) (Hs (p1Of A).length):=fun b h1 h2=>hf b (by rw [e2] at h1;exact h1) (by rw [e6,Hp.next_flush];exact h2)
 have hf2' : Fresh D (Hs' 0) (Hs' (p2Of A).length):=fun b h1 h2=>hf b (by rw [g2] at h1;exact h1) (by rw [g6,Hp.next_flush];exact h2)
 refine wp_region_any hM.mixed ?_
 refine any_ok2 (w:={ w with drawn:=w.drawn+1 }) C C2 hP.gl hf' hf2' (fun a' w' h=>hQ a' w' ?_) (fun a' w' h=>hQ a' w' ?_) hxy (szof _ _ hsx) (szof _ _ hsy) hsw ops.size _ a _ (Nat.le_trans List.countP_le_length (by simp)) (.inl ⟨0,D,s,Hs 0,?_⟩)
 ·rw [e2,<- e5,<- e6] at h
  exact Post.trans (step_drew hP.sat) (by rw [dn_refl];exact h)
 ·rw [g2,<- g5,<- g6] at h
  exact Post.trans (step_drew hP.sat) (by rw [dn_refl];exact h)
 ·have:=inv0 C (a:=a) (w:=w) (D:=D) (s:=s) (by rw [e1,e2];exact hP)
  rw [addE_size] at this
  exact this
end
end Go.AM
namespace Go.AM
open Go
section
variable {T:Tab} {P:Program} {n0:Nat} {w0:World} {nt:NT}
def cdOk (T:Tab) (an:FuncId->Nat->List Nat) (f:FuncId) (nt:Nat):Code->Bool
 | .region _ ops false=>ops.toList.all fun o=>match o.dst with | some t=>Nat.blt t nt | none=>true
 | .region id ops true=>match T.dr f id with
  | some p=>(match T.alt f id with | none=>planOk T ops nt p (an f id) | some A=>altCk T ops nt p A (an f id) (an f (id+1000000)))
  | none=>true
 | .seq a b=>cdOk T an f nt a&&cdOk T an f nt b
 | .cond _ a b=>cdOk T an f nt a&&cdOk T an f nt b
 | .block _ c=>cdOk T an f nt c
 | .scope c=>cdOk T an f nt c
 | .loop c=>cdOk T an f nt c
 | _=>true
theorem cdOk_spec (hM:MachOk T P) (hn:n0<=w0.heap.size) {an:FuncId->Nat->List Nat} {f:FuncId}:∀ (c:Code),cdOk T an f nt c=true->CdOk T P n0 w0 f nt c
 | .region _ ops false,h=>fun o ho t ht=>by
  simp only [cdOk,List.all_eq_true] at h
  have:=h o ho
  rw [ht] at this
  simpa using this
 | .region id ops true,h=>by
  cases ha:T.alt f id with
  | none =>
   refine drawOk hM hn fun p hp=>?_
   simp only [cdOk,hp,ha] at h
   exact ⟨_,h⟩
  | some A =>
   cases hp:T.dr f id with
   | none=>intro call hc hcg p hdr;rw [hp] at hdr;cases hdr
   | some p =>
    simp only [cdOk,hp,ha] at h
    exact drawOk2 hM hn hp ha h
 | .seq a b,h=>by
  simp only [cdOk,Bool.and_eq_true] at h
  exact ⟨cdOk_spec hM hn a h.1,cdOk_spec hM hn b h.2⟩
 | .cond _ a b,h=>by
  simp only [cdOk,Bool.and_eq_true] at h
  exact ⟨cdOk_spec hM hn a h.1,cdOk_spec hM hn b h.2⟩
 | .block _ c,h=>cdOk_spec hM hn c (by simpa only [cdOk] using h)
 | .scope c,h=>cdOk_spec hM hn c (by simpa only [cdOk] using h)
 | .loop c,h=>cdOk_spec hM hn c (by simpa only [cdOk] using h)
 | .skip,_=>trivial
 | .label _,_=>trivial
 | .exit _,_=>trivial
 | .ret,_=>trivial
 | .goto _,_=>trivial
 | .rangeFunc ..,_=>trivial
 | .refuse _,_=>trivial
def fnOk (T:Tab) (an:FuncId->Nat->List Nat) (f:FuncId) (fn:Func):Bool :=
 (match fn.body with | some c => cdOk T an f fn.ntmps c | none => true) && !(fn.name == "runtime.NumGoroutine")
structure ProgOk (T:Tab) (P:Program) (an:FuncId->Nat->List Nat):Prop where
 ext:ExtOk T P
 extg:ExtGood T
 tab:TabOk T P
 mixed:P.follows .mixedOrders=true
 code:∀ f fn,T.fn f=some fn->fnOk T an f fn=true
 quiet:QuietOk T P
theorem ProgOk.mach {an:FuncId->Nat->List Nat} (h:ProgOk T P an):MachOk T P :=
 ⟨h.ext,h.extg,h.tab,fun f fn hf=>by
  have:=h.code f fn hf
  simp only [fnOk,Bool.and_eq_true,Bool.not_eq_true'] at this
  exact this.2,h.mixed,h.quiet⟩
theorem ProgOk.calls {an:FuncId->Nat->List Nat} (h:ProgOk T P an) (hI:T.init n0 w0) (hn:n0<=w0.heap.size) (k:Nat):CallOk T P n0 w0 (evCall T k) :=
 evCall_ok h.mach hI hn (fun f fn c b hf hb=>by
  have:=h.code f fn hf
  simp only [fnOk,hb,Bool.and_eq_true] at this
  exact cdOk_spec h.mach hn c this.1) k
end
end Go.AM
namespace Go.AM
open Go Go.RowKit
def noD:Nat->Prop:=fun _=>False
def noS:Sg:=fun _=>⟨0,0,0,0⟩
def h0:Hp:=⟨0,.nil,[]⟩
theorem sat0 (w:World):Sat w.heap.size w noD noS h0 w :=
 ⟨Below.refl _ _,fun _ _ _ _ _ h=>h.elim,fun _ _ _ _ h=>h.elim,fun _ _ _ _ _ h=>h.elim,fun _ _ h=>h.elim,fun _ _ _ _ _ _ _ _ _ h=>h.elim⟩
theorem good0:Good h0:=⟨fun b _=>by simp [h0,Hp.get,Tr.get],fun x h=>by simp [h0] at h⟩
theorem top {T:Tab} {P:Program} {an:FuncId->Nat->List Nat} (hT:ProgOk T P an) (hng:T.ng=0) {f:FuncId} {vs:List V} {args:Array Value} {k:Nat} {v:V} {H' : Hp} (hr:RvL noD noS vs args.toList) (h:evCall T k f vs h0=some (v,H')) (W:World) (hI:T.init W.heap.size W) :
  Calls P f args W fun e w'=>match e with | .returned x=>Below W.heap.size W w'/\∃ D s,Rv D s v x | _=>False:=by
 obtain ⟨_,hc⟩:=(hT.calls (n0:=W.heap.size) (w0:=W) hI (Nat.le_refl _) k) f vs h0 v H' h noD noS W args (fun g hg=>by rw [hng] at hg;omega) hr (sat0 W) good0 (fun b _ _ h=>h)
 refine hc.mono fun e w' he=>?_
 cases e with
 | returned x =>
  obtain ⟨s',h1,h2⟩:=he
  exact ⟨h1.sat.below,_,_,h2⟩
 | panicked c=>exact he
 | outgrown=>exact he
end Go.AM
namespace Go.AM
open Go
abbrev SOp:=Option Tmp×Op×Option (Option Tmp×Bool)
inductive SCode where
 | skip
 | reg (l:List SOp)
 | dreg (l:List (SOp×Nat))
 | areg (l:List (SOp×Nat)) (u v:Tmp)
 | seq (a b:SCode)
 | cond (c:Operand) (a b:SCode)
 | block (id:Nat) (c:SCode)
 | loop (c:SCode)
 | exit (id:Nat)
 | ret
 | bad
def slimG (ops:Array Oper):Option (Nat×Bool)->Option (Option Tmp×Bool)
 | none=>none
 | some (j,w)=>some (match ops[j]? with | some o=>o.dst | none=>none,w)
def slimO (ops:Array Oper) (o:Oper):SOp:=(o.dst,o.op,slimG ops o.guard)
def slimD (ops:Array Oper):List (Nat×Nat)->Option (List (SOp×Nat))
 | []=>some []
 | (i,n) :: r=>match ops[i]?,slimD ops r with | some o,some l=>some ((slimO ops o,n) :: l) | _,_=>none
def slimC (T:Tab) (f:FuncId):Code->SCode
 | .skip=>.skip
 | .label _=>.skip
 | .region _ ops false=>.reg (ops.toList.map (slimO ops))
 | .region id ops true=>match T.dr f id,T.alt f id with
  | some p,none=>(match slimD ops p with | some l=>.dreg l | none=>.bad)
  | some p,some A=>(match slimD ops p with | some l=>.areg l A.u A.v | none=>.bad)
  | none,_=>.bad
 | .seq a b=>.seq (slimC T f a) (slimC T f b)
 | .cond c a b=>.cond c (slimC T f a) (slimC T f b)
 | .block id c=>.block id (slimC T f c)
 | .scope c=>slimC T f c
 | .loop c=>.loop (slimC T f c)
 | .exit id=>.exit id
 | .ret=>.ret
 | _=>.bad
def wantS (F:Fr):Option (Option Tmp×Bool)->Option Bool
 | none=>some true
 | some (some t,w)=>(match F.get t with | some (.bool b)=>some (b==w) | some (.tup [])=>some false | _=>none)
 | some (none,_)=>none
def evL (T:Tab) (call:CallE):List SOp->Fr->Hp->Option (Fr×Hp)
 | [],F,H=>some (F,H.flush)
 | (d,o,g) :: r,F,H =>
  match wantS F g with
  | some true=>match evOp T o F H with
   | some (.val v H')=>evL T call r (putD F d v) H'
   | some (.skip H')=>evL T call r (delD F d) H'
   | some (.enter f xs H')=>match call f xs H' with
    | some (v,H'')=>evL T call r (putD F d v) H''
    | none=>none
   | none=>if evDef T F o=true then evL T call r (delD F d) H else none
  | some false=>evL T call r (delD F d) H
  | none=>none
def evDL (T:Tab) (call:CallE):List (SOp×Nat)->Fr->Hp->List Hp->Option (Fr×Hp)
 | [],F,H,_=>some (F,H.flush)
 | ((d,o,g),n) :: r,F,H,B=>match wantS F g with
   | some true=>match evOp T o F H with
    | some (.val v H')=>if isPt T o then evDL T call r (putD F d v) H'.bump (H' :: B) else if winOk T o F n v B then evDL T call r (putD F d v) H' B else none
    | some (.skip H')=>evDL T call r (delD F d) H'.bump (H' :: B)
    | some (.enter f xs H')=>match call f xs H' with
     | some (v,H'')=>evDL T call r (putD F d v) H''.bump (H'' :: B)
     | none=>none
    | none=>none
   | some false=>evDL T call r (delD F d) H (if isPt T o then H :: B else B)
   | none=>none
def apart (F:Fr) (u v:Tmp):Bool:=match F.get u,F.get v with
 | some (.ptr b _),some (.ptr b' _)=>!Nat.beq b b'
 | _,_=>false
def evS (T:Tab) (call:CallE) (n:Nat):SCode->Fr->Hp->Option (Out×Fr×Hp)
 | .skip,F,H=>some (.nrm,F,H)
 | .reg l,F,H=>match evL T call l F H with | some (F',H')=>some (.nrm,F',H') | none=>none
 | .dreg l,F,H=>match evDL T call l F H [H] with | some (F',H')=>some (.nrm,F',H') | none=>none
 | .areg l u v,F,H=>match evDL T call l F H [H] with | some (F',H')=>if apart F' u v=true then some (.nrm,F',H') else none | none=>none
 | .seq a b,F,H=>match evS T call n a F H with
  | some (.nrm,F',H')=>evS T call n b F' H'
  | r=>r
 | .cond c a b,F,H=>match opd T.ng F c with
  | some (.bool true)=>evS T call n a F H
  | some (.bool false)=>evS T call n b F H
  | _=>none
 | .block id c,F,H=>match evS T call n c F H with
  | some (.exit i,F',H')=>if i=id then some (.nrm,F',H') else some (.exit i,F',H')
  | r=>r
 | .loop c,F,H=>loopN (evS T call n c) n F H
 | .exit id,F,H=>some (.exit id,F,H)
 | .ret,F,H=>some (.ret,F,H)
 | .bad,_,_=>none
section
variable {T:Tab} {call:CallE} {ops:Array Oper}
theorem wantS_eq (F:Fr) (g:Option (Nat×Bool)):wantedV ops F g=wantS F (slimG ops g):=by
 cases g with
 | none=>rfl
 | some jw =>
  obtain ⟨j,w⟩:=jw
  simp only [wantedV,slimG,gotB]
  cases ops[j]? with
  | none=>rfl
  | some o =>
   dsimp only
   cases o.dst with
   | none=>rfl
   | some t =>
    dsimp only [wantS]
    cases F.get t with
    | none=>rfl
    | some v =>
     cases v with
     | bool b=>cases b<;>cases w<;>rfl
     | tup l=>cases l<;>first | rfl | (cases w<;>rfl)
     | _=>rfl
theorem evL_eq:∀ (l:List Oper) (F:Fr) (H:Hp),evOps T call ops l F H=evL T call (l.map (slimO ops)) F H
 | [],F,H=>rfl
 | o :: r,F,H=>by
  simp only [evOps,List.map_cons,slimO,evL,wantS_eq]
  cases wantS F (slimG ops o.guard) with
  | none=>rfl
  | some b =>
   cases b with
   | false=>exact evL_eq r _ _
   | true =>
    dsimp only
    cases evOp T o.op F H with
    | none=>dsimp only;rw [evL_eq r]
    | some x =>
     cases x with
     | val v H'=>exact evL_eq r _ _
     | skip H'=>exact evL_eq r _ _
     | enter f xs H' =>
      dsimp only
      cases call f xs H' with
      | none=>rfl
      | some y=>exact evL_eq r _ _
theorem evDL_eq:∀ (p:List (Nat×Nat)) (F:Fr) (H:Hp) (B:List Hp) {l:List (SOp×Nat)},slimD ops p=some l->evDraw T call ops p F H B=evDL T call l F H B
 | [],F,H,B,l,h=>by cases h;rfl
 | (i,n) :: r,F,H,B,l,h=>by
  simp only [slimD] at h
  cases ho:ops[i]? with
  | none=>rw [ho] at h;cases h
  | some o =>
   cases hr:slimD ops r with
   | none=>rw [ho,hr] at h;cases h
   | some l' =>
    rw [ho,hr] at h
    cases h
    simp only [evDraw,ho,slimO,evDL,wantS_eq]
    cases wantS F (slimG ops o.guard) with
    | none=>rfl
    | some b =>
     cases b with
     | false=>exact evDL_eq r _ _ _ hr
     | true =>
      dsimp only
      cases evOp T o.op F H with
      | none=>rfl
      | some x =>
       cases x with
       | val v H' =>
        dsimp only
        rw [evDL_eq r (putD F o.dst v) H'.bump (H' :: B) hr,evDL_eq r (putD F o.dst v) H' B hr]
        rfl
       | skip H'=>exact evDL_eq r _ _ _ hr
       | enter f xs H' =>
        dsimp only
        cases call f xs H' with
        | none=>rfl
        | some y=>exact evDL_eq r _ _ _ hr
theorem evS_le {f:FuncId} {n:Nat}:∀ (c:Code) (F:Fr) (H:Hp) {r:Out×Fr×Hp},evS T call n (slimC T f c) F H=some r->evCode T call f n c F H=some r
 | .skip,F,H,r,h=>h
 | .label _,F,H,r,h=>h
 | .exit _,F,H,r,h=>h
 | .ret,F,H,r,h=>h
 | .goto _,F,H,r,h=>by simp [slimC,evS] at h
 | .rangeFunc ..,F,H,r,h=>by simp [slimC,evS] at h
 | .refuse _,F,H,r,h=>by simp [slimC,evS] at h
 | .region _ ops false,F,H,r,h=>by
  simp only [slimC,evS] at h
  simp only [evCode,evL_eq]
  exact h
 | .region id ops true,F,H,r,h=>by
  simp only [slimC] at h
  cases hp:T.dr f id with
  | none=>rw [hp] at h;simp [evS] at h
  | some p =>
   rw [hp] at h
   cases ha:T.alt f id with
   | some A =>
    rw [ha] at h
    dsimp only at h
    cases hl:slimD ops p with
    | none=>rw [hl] at h;simp [evS] at h
    | some l =>
     rw [hl] at h
     simp only [evS] at h
     simp only [evCode,hp,evDL_eq p F H [H] hl,altOk,ha]
     exact h
   | none =>
    rw [ha] at h
    dsimp only at h
    cases hl:slimD ops p with
    | none=>rw [hl] at h;simp [evS] at h
    | some l =>
     rw [hl] at h
     simp only [evS] at h
     simp only [evCode,hp,evDL_eq p F H [H] hl,altOk,ha,if_true]
     exact h
 | .seq a b,F,H,r,h=>by
  simp only [slimC,evS] at h
  simp only [evCode]
  split at h
  ·rename_i F1 H1 h1
   rw [evS_le a F H h1]
   exact evS_le b F1 H1 h
  ·rename_i hx
   rw [evS_le a F H h]
   split
   ·rename_i F1 H1 h2
    cases h2
    exact absurd h (hx _ _)
   ·rfl
 | .cond x a b,F,H,r,h=>by
  simp only [slimC,evS] at h
  simp only [evCode]
  split at h
  ·rename_i hx;simp only [hx];exact evS_le a F H h
  ·rename_i hx;simp only [hx];exact evS_le b F H h
  ·cases h
 | .block id c,F,H,r,h=>by
  simp only [slimC,evS] at h
  simp only [evCode]
  split at h
  ·rename_i i F1 H1 h1
   rw [evS_le c F H h1]
   exact h
  ·rename_i hx
   rw [evS_le c F H h]
   split
   ·rename_i i F1 H1 h2
    cases h2
    exact absurd h (hx _ _ _)
   ·rfl
 | .scope c,F,H,r,h=>by
  simp only [slimC] at h
  simp only [evCode]
  exact evS_le c F H h
 | .loop c,F,H,r,h=>by
  simp only [slimC,evS] at h
  simp only [evCode]
  have key:∀ m F H r,loopN (evS T call n (slimC T f c)) m F H=some r->loopN (evCode T call f n c) m F H=some r:=by
   intro m
   induction m with
   | zero=>intro F H r h;simp [loopN] at h
   | succ m ih =>
    intro F H r h
    simp only [loopN] at h ⊢
    split at h
    ·rename_i F1 H1 h1
     rw [evS_le c F H h1]
     exact ih F1 H1 r h
    ·rename_i hx
     rw [evS_le c F H h]
     split
     ·rename_i F1 H1 h2
      cases h2
      exact absurd h (hx _ _)
     ·rfl
  exact key n F H r h
theorem call_slim {k:Nat} {f:FuncId} {args:List V} {H:Hp} {fn:Func} {c:Code} {S:SCode} {o:Out} {F' : Fr} {H' : Hp} {v:V} (h0:T.ext f=none) (h1:T.fn f=some fn) (h2:fn.body=some c) (h3:slimC T f c=S) (h4:evS T (evCall T k) k S (frame args 0 .nil) H=some (o,F',H')) (h5:o = .ret\/o = .nrm) (h6:resOf T fn.results.toList F' H'.get=some v) :
  evCall T (k+1) f args H=some (v,H'):=by
 subst h3
 have:=evS_le c _ _ h4
 simp only [evCall,h0,h1,h2,this]
 rcases h5 with rfl | rfl<;>simp only [h6]
end
end Go.AM
namespace Go.AM
open Go
theorem bin_bool_eql (d:Option Ds) (a b:Bool) (h:isBoolD d=true):bin .eql d (.bool a) (.bool b)=some (.bool (a==b)):=by simp only [bin,h,if_true]
theorem bin_bool_neq (d:Option Ds) (a b:Bool) (h:isBoolD d=true):bin .neq d (.bool a) (.bool b)=some (.bool (a != b)):=by simp only [bin,h,if_true]
theorem bin_nil_eql (d:Option Ds) (h:isPtrD d=true):bin .eql d .nilp .nilp=some (.bool true):=by simp only [bin,h,if_true]
theorem bin_nil_neq (d:Option Ds) (h:isPtrD d=true):bin .neq d .nilp .nilp=some (.bool false):=by simp only [bin,h,if_true]
theorem bin_ptr_eql (d:Option Ds) (b o:Nat) (h:isPtrD d=true):bin .eql d (.ptr b o) .nilp=some (.bool false):=by simp only [bin,h,if_true]
theorem bin_ptr_neq (d:Option Ds) (b o:Nat) (h:isPtrD d=true):bin .neq d (.ptr b o) .nilp=some (.bool true):=by simp only [bin,h,if_true]
theorem bin_str (op:BinOp) (d:Option Ds) (a b:List UInt8) (h:op≠.shl) (h' : op≠.shr):bin op d (.str a) (.str b)=binStr op a b:=by cases op<;>simp_all [bin]
theorem bin_int (op:BinOp) (d:Option Ds) (k:IntKind) (a b:Int) (h:op≠.shl) (h' : op≠.shr):bin op d (.int k a) (.int k b)=binInt op k a b:=by cases op<;>simp_all [bin]
theorem bin_shl (d:Option Ds) (k k' : IntKind) (a n:Int) (h:0<=n):bin .shl d (.int k a) (.int k' n)=some (.int k (wr k (a*2 ^ (min n.toNat k.bits)))):=by simp [bin,h]
theorem bin_shr (d:Option Ds) (k k' : IntKind) (a n:Int) (h:0<=n):bin .shr d (.int k a) (.int k' n)=some (.int k (a.fdiv (2 ^ (min n.toNat k.bits)))):=by simp [bin,h]
end Go.AM
namespace Go.AM
open Go
def CallLe (c c' : CallE):Prop:=∀ f xs H r,c f xs H=some r->c' f xs H=some r
section
variable {T:Tab} {c c' : CallE} {n n' : Nat}
theorem evOps_le (hc:CallLe c c') {ops:Array Oper}:∀ (l:List Oper) {F:Fr} {H:Hp} {r:Fr×Hp},evOps T c ops l F H=some r->evOps T c' ops l F H=some r
 | [],F,H,r,h=>h
 | o :: l,F,H,r,h=>by
  simp only [evOps] at h ⊢
  split at h
  ·split at h
   ·exact evOps_le hc l h
   ·exact evOps_le hc l h
   ·split at h
    ·rename_i h1
     rw [hc _ _ _ _ h1]
     exact evOps_le hc l h
    ·cases h
   ·split at h
    ·rename_i h1;rw [if_pos h1];exact evOps_le hc l h
    ·cases h
  ·exact evOps_le hc l h
  ·cases h
theorem evDraw_le (hc:CallLe c c') {ops:Array Oper}:∀ (l:List (Nat×Nat)) {F:Fr} {H:Hp} {B:List Hp} {r:Fr×Hp},evDraw T c ops l F H B=some r->evDraw T c' ops l F H B=some r
 | [],F,H,B,r,h=>h
 | (i,m) :: l,F,H,B,r,h=>by
  simp only [evDraw] at h ⊢
  split at h
  ·cases h
  ·split at h
   ·split at h
    ·split at h
     ·rename_i h1;rw [if_pos h1];exact evDraw_le hc l h
     ·rename_i h1
      rw [if_neg h1]
      split at h
      ·rename_i h2;rw [if_pos h2];exact evDraw_le hc l h
      ·cases h
    ·exact evDraw_le hc l h
    ·split at h
     ·rename_i h1
      rw [hc _ _ _ _ h1]
      exact evDraw_le hc l h
     ·cases h
    ·cases h
   ·exact evDraw_le hc l h
   ·cases h
theorem loopN_le {b b' : Fr->Hp->Option (Out×Fr×Hp)} (hb:∀ F H r,b F H=some r->b' F H=some r):∀ (n n' : Nat) {F:Fr} {H:Hp} {r:Out×Fr×Hp},n<=n'->loopN b n F H=some r->loopN b' n' F H=some r
 | 0,_,_,_,_,_,h=>by simp [loopN] at h
 | n+1,0,_,_,_,hn,_=>by omega
 | n+1,n' + 1,F,H,r,hn,h=>by
  simp only [loopN] at h ⊢
  split at h
  ·rename_i h1
   rw [hb _ _ _ h1]
   exact loopN_le hb n n' (by omega) h
  ·rename_i hx
   rw [hb _ _ _ h]
   split
   ·rename_i F1 H1 h2;cases h2;exact absurd h (hx _ _)
   ·rfl
theorem evCode_le (hc:CallLe c c') (hn:n<=n') {f:FuncId}:∀ (x:Code) {F:Fr} {H:Hp} {r:Out×Fr×Hp},evCode T c f n x F H=some r->evCode T c' f n' x F H=some r
 | .skip,F,H,r,h=>h
 | .label _,F,H,r,h=>h
 | .exit _,F,H,r,h=>h
 | .ret,F,H,r,h=>h
 | .goto _,F,H,r,h=>by simp [evCode] at h
 | .rangeFunc ..,F,H,r,h=>by simp [evCode] at h
 | .refuse _,F,H,r,h=>by simp [evCode] at h
 | .region _ ops false,F,H,r,h=>by
  simp only [evCode] at h ⊢
  split at h
  ·rename_i h1;rw [evOps_le hc _ h1];exact h
  ·cases h
 | .region id ops true,F,H,r,h=>by
  simp only [evCode] at h ⊢
  split at h
  ·split at h
   ·rename_i h1;rw [evDraw_le hc _ h1];exact h
   ·cases h
  ·cases h
 | .seq a b,F,H,r,h=>by
  simp only [evCode] at h ⊢
  split at h
  ·rename_i h1
   rw [evCode_le hc hn a h1]
   exact evCode_le hc hn b h
  ·rename_i hx
   rw [evCode_le hc hn a h]
   split
   ·rename_i F1 H1 h2;cases h2;exact absurd h (hx _ _)
   ·rfl
 | .cond x a b,F,H,r,h=>by
  simp only [evCode] at h ⊢
  split at h
  ·rename_i hx;(try simp only [hx]);exact evCode_le hc hn a h
  ·rename_i hx;(try simp only [hx]);exact evCode_le hc hn b h
  ·cases h
 | .block id a,F,H,r,h=>by
  simp only [evCode] at h ⊢
  split at h
  ·rename_i h1
   rw [evCode_le hc hn a h1]
   exact h
  ·rename_i hx
   rw [evCode_le hc hn a h]
   split
   ·rename_i i F1 H1 h2;cases h2;exact absurd h (hx _ _ _)
   ·rfl
 | .scope a,F,H,r,h=>by
  simp only [evCode] at h ⊢
  exact evCode_le hc hn a h
 | .loop a,F,H,r,h=>by
  simp only [evCode] at h ⊢
  exact loopN_le (fun F H r h=>evCode_le hc hn a h) n n' hn h
theorem evCall_le (T:Tab):∀ (k k' : Nat),k<=k'->CallLe (evCall T k) (evCall T k')
 | 0,_,_=>fun f xs H r h=>by simp [evCall] at h
 | k+1,0,h=>by omega
 | k+1,k' + 1,hk=>fun f xs H r h=>by
  have ih:=evCall_le T k k' (by omega)
  simp only [evCall] at h ⊢
  split at h
  ·split at h
   ·split at h
    ·exact h
    ·split at h
     ·rename_i h1
      rw [evCode_le ih (by omega) _ h1]
      exact h
     ·rename_i h1
      rw [evCode_le ih (by omega) _ h1]
      exact h
     ·cases h
   ·cases h
  ·cases h
theorem evL_le (hc:CallLe c c'):∀ (l:List SOp) {F:Fr} {H:Hp} {r:Fr×Hp},evL T c l F H=some r->evL T c' l F H=some r
 | [],F,H,r,h=>h
 | (d,o,g) :: l,F,H,r,h=>by
  simp only [evL] at h ⊢
  split at h
  ·split at h
   ·exact evL_le hc l h
   ·exact evL_le hc l h
   ·split at h
    ·rename_i h1
     rw [hc _ _ _ _ h1]
     exact evL_le hc l h
    ·cases h
   ·split at h
    ·rename_i h1;rw [if_pos h1];exact evL_le hc l h
    ·cases h
  ·exact evL_le hc l h
  ·cases h
theorem evDL_le (hc:CallLe c c'):∀ (l:List (SOp×Nat)) {F:Fr} {H:Hp} {B:List Hp} {r:Fr×Hp},evDL T c l F H B=some r->evDL T c' l F H B=some r
 | [],F,H,B,r,h=>h
 | ((d,o,g),m) :: l,F,H,B,r,h=>by
  simp only [evDL] at h ⊢
  split at h
  ·split at h
   ·split at h
    ·rename_i h1;rw [if_pos h1];exact evDL_le hc l h
    ·rename_i h1
     rw [if_neg h1]
     split at h
     ·rename_i h2;rw [if_pos h2];exact evDL_le hc l h
     ·cases h
   ·exact evDL_le hc l h
   ·split at h
    ·rename_i h1
     rw [hc _ _ _ _ h1]
     exact evDL_le hc l h
    ·cases h
   ·cases h
  ·exact evDL_le hc l h
  ·cases h
theorem evS_mono (hc:CallLe c c') (hn:n<=n'):∀ (x:SCode) {F:Fr} {H:Hp} {r:Out×Fr×Hp},evS T c n x F H=some r->evS T c' n' x F H=some r
 | .skip,F,H,r,h=>h
 | .exit _,F,H,r,h=>h
 | .ret,F,H,r,h=>h
 | .bad,F,H,r,h=>h
 | .reg l,F,H,r,h=>by
  simp only [evS] at h ⊢
  split at h
  ·rename_i h1;rw [evL_le hc _ h1];exact h
  ·cases h
 | .dreg l,F,H,r,h=>by
  simp only [evS] at h ⊢
  split at h
  ·rename_i h1;rw [evDL_le hc _ h1];exact h
  ·cases h
 | .areg l u v,F,H,r,h=>by
  simp only [evS] at h ⊢
  split at h
  ·rename_i h1;rw [evDL_le hc _ h1];exact h
  ·cases h
 | .seq a b,F,H,r,h=>by
  simp only [evS] at h ⊢
  split at h
  ·rename_i h1
   rw [evS_mono hc hn a h1]
   exact evS_mono hc hn b h
  ·rename_i hx
   rw [evS_mono hc hn a h]
   split
   ·rename_i F1 H1 h2;cases h2;exact absurd h (hx _ _)
   ·rfl
 | .cond x a b,F,H,r,h=>by
  simp only [evS] at h ⊢
  split at h
  ·rename_i hx;(try simp only [hx]);exact evS_mono hc hn a h
  ·rename_i hx;(try simp only [hx]);exact evS_mono hc hn b h
  ·cases h
 | .block id a,F,H,r,h=>by
  simp only [evS] at h ⊢
  split at h
  ·rename_i h1
   rw [evS_mono hc hn a h1]
   exact h
  ·rename_i hx
   rw [evS_mono hc hn a h]
   split
   ·rename_i i F1 H1 h2;cases h2;exact absurd h (hx _ _ _)
   ·rfl
 | .loop a,F,H,r,h=>by
  simp only [evS] at h ⊢
  exact loopN_le (fun F H r h=>evS_mono hc hn a h) n n' hn h
end
section
variable (T:Tab)
def WF (f:FuncId) (xs:List V) (H:Hp) (Q:V->Hp->Prop):Prop:=∃ k v H',evCall T k f xs H=some (v,H')/\Q v H'
def WL (l:List SOp) (F:Fr) (H:Hp) (Q:Fr->Hp->Prop):Prop:=∃ k F' H',evL T (evCall T k) l F H=some (F',H')/\Q F' H'
def WD (l:List (SOp×Nat)) (F:Fr) (H:Hp) (B:List Hp) (Q:Fr->Hp->Prop):Prop:=∃ k F' H',evDL T (evCall T k) l F H B=some (F',H')/\Q F' H'
def WC (c:SCode) (F:Fr) (H:Hp) (Q:Out->Fr->Hp->Prop):Prop:=∃ k o F' H',evS T (evCall T k) k c F H=some (o,F',H')/\Q o F' H'
end
section
variable {T:Tab} {F:Fr} {H:Hp}
theorem WF.mono {f:FuncId} {xs:List V} {Q Q' : V->Hp->Prop} (h:WF T f xs H Q) (hq:∀ v H',Q v H'->Q' v H'):WF T f xs H Q':=by
 obtain ⟨k,v,H',h1,h2⟩:=h
 exact ⟨k,v,H',h1,hq v H' h2⟩
theorem WC.mono {c:SCode} {Q Q' : Out->Fr->Hp->Prop} (h:WC T c F H Q) (hq:∀ o F' H',Q o F' H'->Q' o F' H'):WC T c F H Q':=by
 obtain ⟨k,o,F',H',h1,h2⟩:=h
 exact ⟨k,o,F',H',h1,hq o F' H' h2⟩
theorem WL.nil {Q:Fr->Hp->Prop} (h:Q F H.flush):WL T [] F H Q:=⟨0,F,H.flush,rfl,h⟩
def goL (T:Tab) (d:Option Tmp) (F:Fr) (next:Fr->Hp->Prop):Option Res->Prop
 | some (.val v H')=>next (putD F d v) H'
 | some (.skip H')=>next (delD F d) H'
 | some (.enter f xs H')=>WF T f xs H' fun v H''=>next (putD F d v) H''
 | none=>False
def wantL (F:Fr) (d:Option Tmp) (H:Hp) (next:Fr->Hp->Prop) (now:Prop):Option Bool->Prop
 | some true=>now
 | some false=>next (delD F d) H
 | none=>False
theorem WL.cons {d:Option Tmp} {o:Op} {g:Option (Option Tmp×Bool)} {r:List SOp} {Q:Fr->Hp->Prop} (h:wantL F d H (fun F' H'=>WL T r F' H' Q) (goL T d F (fun F' H'=>WL T r F' H' Q) (evOp T o F H)) (wantS F g)):WL T ((d,o,g) :: r) F H Q:=by
 cases hw:wantS F g with
 | none=>rw [hw] at h;exact h.elim
 | some b =>
  rw [hw] at h
  cases b with
  | false =>
   obtain ⟨k,F',H',h1,h2⟩:=h
   exact ⟨k,F',H',by simp only [evL,hw];exact h1,h2⟩
  | true =>
   simp only [wantL] at h
   cases ho:evOp T o F H with
   | none=>rw [ho] at h;exact h.elim
   | some x =>
    rw [ho] at h
    cases x with
    | val v H1 =>
     obtain ⟨k,F',H',h1,h2⟩:=h
     exact ⟨k,F',H',by simp only [evL,hw,ho];exact h1,h2⟩
    | skip H1 =>
     obtain ⟨k,F',H',h1,h2⟩:=h
     exact ⟨k,F',H',by simp only [evL,hw,ho];exact h1,h2⟩
    | enter f xs H1 =>
     obtain ⟨k1,v,H2,h1,k2,F',H',h2,h3⟩:=h
     refine ⟨max k1 k2,F',H',?_,h3⟩
     simp only [evL,hw,ho,evCall_le T k1 (max k1 k2) (Nat.le_max_left _ _) _ _ _ _ h1]
     exact evL_le (evCall_le T k2 _ (Nat.le_max_right _ _)) _ h2
theorem WD.nil {B:List Hp} {Q:Fr->Hp->Prop} (h:Q F H.flush):WD T [] F H B Q:=⟨0,F,H.flush,rfl,h⟩
def goD (T:Tab) (o:Op) (n:Nat) (d:Option Tmp) (F:Fr) (B:List Hp) (next:Fr->Hp->List Hp->Prop):Option Res->Prop
 | some (.val v H')=>if isPt T o then next (putD F d v) H'.bump (H' :: B) else winOk T o F n v B=true/\next (putD F d v) H' B
 | some (.skip H')=>next (delD F d) H'.bump (H' :: B)
 | some (.enter f xs H')=>WF T f xs H' fun v H''=>next (putD F d v) H''.bump (H'' :: B)
 | none=>False
def wantD (T:Tab) (o:Op) (F:Fr) (d:Option Tmp) (H:Hp) (B:List Hp) (next:Fr->Hp->List Hp->Prop) (now:Prop):Option Bool->Prop
 | some true=>now
 | some false=>next (delD F d) H (if isPt T o then H :: B else B)
 | none=>False
theorem WD.cons {d:Option Tmp} {o:Op} {g:Option (Option Tmp×Bool)} {n:Nat} {r:List (SOp×Nat)} {B:List Hp} {Q:Fr->Hp->Prop} (h:wantD T o F d H B (fun F' H' B'=>WD T r F' H' B' Q) (goD T o n d F B (fun F' H' B'=>WD T r F' H' B' Q) (evOp T o F H)) (wantS F g)):WD T (((d,o,g),n) :: r) F H B Q:=by
 cases hw:wantS F g with
 | none=>rw [hw] at h;exact h.elim
 | some b =>
  rw [hw] at h
  cases b with
  | false =>
   obtain ⟨k,F',H',h1,h2⟩:=h
   exact ⟨k,F',H',by simp only [evDL,hw];exact h1,h2⟩
  | true =>
   simp only [wantD] at h
   cases ho:evOp T o F H with
   | none=>rw [ho] at h;exact h.elim
   | some x =>
    rw [ho] at h
    cases x with
    | val v H1 =>
     simp only [goD] at h
     split at h
     ·rename_i hp
      obtain ⟨k,F',H',h1,h2⟩:=h
      exact ⟨k,F',H',by simp only [evDL,hw,ho,hp,if_true];exact h1,h2⟩
     ·rename_i hp
      obtain ⟨hwin,k,F',H',h1,h2⟩:=h
      exact ⟨k,F',H',by simp only [evDL,hw,ho,hp,hwin,if_true];exact h1,h2⟩
    | skip H1 =>
     obtain ⟨k,F',H',h1,h2⟩:=h
     exact ⟨k,F',H',by simp only [evDL,hw,ho];exact h1,h2⟩
    | enter f xs H1 =>
     obtain ⟨k1,v,H2,h1,k2,F',H',h2,h3⟩:=h
     refine ⟨max k1 k2,F',H',?_,h3⟩
     simp only [evDL,hw,ho,evCall_le T k1 (max k1 k2) (Nat.le_max_left _ _) _ _ _ _ h1]
     exact evDL_le (evCall_le T k2 _ (Nat.le_max_right _ _)) _ h2
theorem WC.skip {Q:Out->Fr->Hp->Prop} (h:Q .nrm F H):WC T .skip F H Q:=⟨0,.nrm,F,H,rfl,h⟩
theorem WC.exit {id:Nat} {Q:Out->Fr->Hp->Prop} (h:Q (.exit id) F H):WC T (.exit id) F H Q:=⟨0,.exit id,F,H,rfl,h⟩
theorem WC.ret {Q:Out->Fr->Hp->Prop} (h:Q .ret F H):WC T .ret F H Q:=⟨0,.ret,F,H,rfl,h⟩
theorem WC.reg {l:List SOp} {Q:Out->Fr->Hp->Prop} (h:WL T l F H (Q .nrm)):WC T (.reg l) F H Q:=by
 obtain ⟨k,F',H',h1,h2⟩:=h
 exact ⟨k,.nrm,F',H',by simp only [evS,h1],h2⟩
theorem WC.dreg {l:List (SOp×Nat)} {Q:Out->Fr->Hp->Prop} (h:WD T l F H [H] (Q .nrm)):WC T (.dreg l) F H Q:=by
 obtain ⟨k,F',H',h1,h2⟩:=h
 exact ⟨k,.nrm,F',H',by simp only [evS,h1],h2⟩
theorem WC.areg {l:List (SOp×Nat)} {u v:Tmp} {Q:Out->Fr->Hp->Prop} (h:WD T l F H [H] (fun F' H'=>apart F' u v=true/\Q .nrm F' H')):WC T (.areg l u v) F H Q:=by
 obtain ⟨k,F',H',h1,h2,h3⟩:=h
 exact ⟨k,.nrm,F',H',by simp only [evS,h1,h2,if_true],h3⟩
def seqQ (T:Tab) (b:SCode) (Q:Out->Fr->Hp->Prop):Out->Fr->Hp->Prop
 | .nrm,F,H=>WC T b F H Q
 | .exit i,F,H=>Q (.exit i) F H
 | .ret,F,H=>Q .ret F H
theorem WC.seq {a b:SCode} {Q:Out->Fr->Hp->Prop} (h:WC T a F H (seqQ T b Q)):WC T (.seq a b) F H Q:=by
 obtain ⟨k,o,F',H',h1,h2⟩:=h
 cases o with
 | nrm =>
  obtain ⟨k2,o2,F2,H2,h3,h4⟩:=h2
  refine ⟨max k k2,o2,F2,H2,?_,h4⟩
  simp only [evS,evS_mono (evCall_le T k (max k k2) (Nat.le_max_left _ _)) (Nat.le_max_left _ _) a h1]
  exact evS_mono (evCall_le T k2 _ (Nat.le_max_right _ _)) (Nat.le_max_right _ _) b h3
 | exit i=>exact ⟨k,_,F',H',by simp only [evS,h1],h2⟩
 | ret=>exact ⟨k,_,F',H',by simp only [evS,h1],h2⟩
def condQ (x y:Prop):Option V->Prop
 | some (.bool true)=>x
 | some (.bool false)=>y
 | _=>False
theorem WC.cond {c:Operand} {a b:SCode} {Q:Out->Fr->Hp->Prop} (h:condQ (WC T a F H Q) (WC T b F H Q) (opd T.ng F c)):WC T (.cond c a b) F H Q:=by
 revert h
 cases hc:opd T.ng F c with
 | none=>intro h;exact h.elim
 | some v =>
  cases v with
  | bool t =>
   cases t with
   | true =>
    rintro ⟨k,o,F',H',h1,h2⟩
    exact ⟨k,o,F',H',by simp only [evS,hc];exact h1,h2⟩
   | false =>
    rintro ⟨k,o,F',H',h1,h2⟩
    exact ⟨k,o,F',H',by simp only [evS,hc];exact h1,h2⟩
  | _=>intro h;exact h.elim
def blockQ (id:Nat) (Q:Out->Fr->Hp->Prop):Out->Fr->Hp->Prop
 | .exit i,F,H=>if i=id then Q .nrm F H else Q (.exit i) F H
 | .nrm,F,H=>Q .nrm F H
 | .ret,F,H=>Q .ret F H
theorem WC.block {id:Nat} {c:SCode} {Q:Out->Fr->Hp->Prop} (h:WC T c F H (blockQ id Q)):WC T (.block id c) F H Q:=by
 obtain ⟨k,o,F',H',h1,h2⟩:=h
 cases o with
 | nrm=>exact ⟨k,_,F',H',by simp only [evS,h1],h2⟩
 | ret=>exact ⟨k,_,F',H',by simp only [evS,h1],h2⟩
 | exit i =>
  simp only [blockQ] at h2
  split at h2
  ·rename_i hi;exact ⟨k,_,F',H',by simp only [evS,h1,hi,if_true],h2⟩
  ·rename_i hi;exact ⟨k,_,F',H',by simp only [evS,h1,hi,if_false],h2⟩
def loopQ (I:Nat->Fr->Hp->Prop) (m:Nat) (Q:Out->Fr->Hp->Prop):Out->Fr->Hp->Prop
 | .nrm,F,H=>∃ m',m' < m/\I m' F H
 | .exit i,F,H=>Q (.exit i) F H
 | .ret,F,H=>Q .ret F H
theorem WC.loop (I:Nat->Fr->Hp->Prop) {c:SCode} {Q:Out->Fr->Hp->Prop} {m:Nat} (h0:I m F H) (round:∀ m F H,I m F H->WC T c F H (loopQ I m Q)):WC T (.loop c) F H Q:=by
 have key:∀ m F H,I m F H->∃ k n o F' H',loopN (evS T (evCall T k) n c) n F H=some (o,F',H')/\Q o F' H':=by
  intro m
  induction m using Nat.strongRecOn with
  | _ m ih =>
   intro F H hI
   obtain ⟨k,o,F1,H1,h1,h2⟩:=round m F H hI
   cases o with
   | nrm =>
    obtain ⟨m',hm,hI'⟩:=h2
    obtain ⟨k2,n2,o2,F2,H2,h3,h4⟩:=ih m' hm F1 H1 hI'
    refine ⟨max k k2,max k n2+1,o2,F2,H2,?_,h4⟩
    simp only [loopN]
    rw [evS_mono (evCall_le T k (max k k2) (Nat.le_max_left _ _)) (n':=max k n2+1) (by omega) c h1]
    exact loopN_le (fun F H r h=>evS_mono (evCall_le T k2 _ (Nat.le_max_right _ _)) (by omega) c h) _ _ (by omega) h3
   | exit i=>exact ⟨k,k+1,_,F1,H1,by simp only [loopN,evS_mono (evCall_le T k k (Nat.le_refl _)) (n':=k+1) (by omega) c h1],h2⟩
   | ret=>exact ⟨k,k+1,_,F1,H1,by simp only [loopN,evS_mono (evCall_le T k k (Nat.le_refl _)) (n':=k+1) (by omega) c h1],h2⟩
 obtain ⟨k,n,o,F',H',h1,h2⟩:=key m F H h0
 refine ⟨max k n,o,F',H',?_,h2⟩
 simp only [evS]
 exact loopN_le (fun F H r h=>evS_mono (evCall_le T k _ (Nat.le_max_left _ _)) (Nat.le_max_right _ _) c h) _ _ (Nat.le_max_right _ _) h1
def resQ (T:Tab) (rs:List ResultVar) (Q:V->Hp->Prop):Out->Fr->Hp->Prop
 | .exit _,_,_=>False
 | _,F,H=>match resOf T rs F H.get with | some v=>Q v H | none=>False
theorem WF.of_slim {f:FuncId} {xs:List V} {fn:Func} {c:Code} {S:SCode} {Q:V->Hp->Prop} (h0:T.ext f=none) (h1:T.fn f=some fn) (h2:fn.body=some c) (h3:slimC T f c=S) {rs:List ResultVar} (h4:fn.results.toList=rs) (h:WC T S (frame xs 0 .nil) H (resQ T rs Q)):WF T f xs H Q:=by
 obtain ⟨k,o,F',H',h5,h6⟩:=h
 subst h4
 cases o with
 | exit i=>exact h6.elim
 | nrm =>
  simp only [resQ] at h6
  split at h6
  ·rename_i v hv
   exact ⟨k+1,v,H',call_slim h0 h1 h2 h3 h5 (.inr rfl) hv,h6⟩
  ·exact h6.elim
 | ret =>
  simp only [resQ] at h6
  split at h6
  ·rename_i v hv
   exact ⟨k+1,v,H',call_slim h0 h1 h2 h3 h5 (.inl rfl) hv,h6⟩
  ·exact h6.elim
end
end Go.AM
namespace Go.AM
open Go
abbrev PL:=Fr->Hp->Prop
abbrev PC:=Out->Fr->Hp->Prop
section
variable (T:Tab)
def wpL:List SOp->Fr->Hp->PL->Prop
 | [],F,H,Q=>Q F H.flush
 | (d,o,g) :: r,F,H,Q=>match wantS F g with
  | some true=>match evOp T o F H with
   | some (.val v H')=>wpL r (putD F d v) H' Q
   | some (.skip H')=>wpL r (delD F d) H' Q
   | some (.enter f xs H')=>WF T f xs H' fun v H''=>wpL r (putD F d v) H'' Q
   | none=>False
  | some false=>wpL r (delD F d) H Q
  | none=>False
def wpD:List (SOp×Nat)->Fr->Hp->List Hp->PL->Prop
 | [],F,H,_,Q=>Q F H.flush
 | ((d,o,g),n) :: r,F,H,B,Q=>match wantS F g with
  | some true=>match evOp T o F H with
   | some (.val v H')=>if isPt T o then wpD r (putD F d v) H'.bump (H' :: B) Q else winOk T o F n v B=true/\wpD r (putD F d v) H' B Q
   | some (.skip H')=>wpD r (delD F d) H'.bump (H' :: B) Q
   | some (.enter f xs H')=>WF T f xs H' fun v H''=>wpD r (putD F d v) H''.bump (H'' :: B) Q
   | none=>False
  | some false=>wpD r (delD F d) H (if isPt T o then H :: B else B) Q
  | none=>False
def contL (d:Option Tmp) (r:List SOp) (F:Fr) (Q:PL):V->Hp->Prop:=fun v H=>wpL T r (putD F d v) H Q
def contD (d:Option Tmp) (r:List (SOp×Nat)) (F:Fr) (B:List Hp) (Q:PL):V->Hp->Prop:=fun v H=>wpD T r (putD F d v) H.bump (H :: B) Q
def kV (d:Option Tmp) (r:List SOp) (F:Fr) (H:Hp) (Q:PL):Option V->Prop
 | some v=>wpL T r (putD F d v) H Q
 | none=>False
def kAW (d:Option Tmp) (r:List SOp) (F:Fr) (Q:PL):Option (V×Hp)->Prop
 | some (v,H')=>wpL T r (putD F d v) H' Q
 | none=>False
def kA (o:Op) (d:Option Tmp) (r:List SOp) (F:Fr) (H:Hp) (Q:PL):Option (V×Option Ob×Option Nat)->Prop
 | some (v,ob,kb)=>kbOk H kb=true/\wpL T r (putD F d v) (afterA H ob kb) Q
 | none=>kAW T d r F Q (evAW T o F H.flush)
def kW (d:Option Tmp) (r:List SOp) (F:Fr) (Q:PL):Option (Option V×Hp)->Prop
 | some (some v,H')=>wpL T r (putD F d v) H' Q
 | some (none,H')=>wpL T r (delD F d) H' Q
 | none=>False
def kC (d:Option Tmp) (r:List SOp) (F:Fr) (H:Hp) (Q:PL):Option V->Option (List V)->Prop
 | some (.fn (.func f) fs cs),some xs=>WF T f (fs++xs++cs) H.flush (contL T d r F Q)
 | _,_=>False
def kCo (o:Op) (d:Option Tmp) (r:List SOp) (F:Fr) (H:Hp) (Q:PL):Prop:=match o with
 | .call c=>match c.callee with
  | .value f=>kC T d r F H Q (opd T.ng F f) (opds T.ng F c.args.toList)
  | _=>False
 | _=>False
def opQ (o:Op) (d:Option Tmp) (r:List SOp) (F:Fr) (H:Hp) (Q:PL):Kd->Prop
 | .p=>kV T d r F H Q (evP T o F)
 | .r=>kV T d r F H Q (evR T o F H.get)
 | .a=>kA T o d r F H Q (evA T o F H.get H.next)
 | .w=>kW T d r F Q (evW T o F H.flush)
 | .c=>kCo T o d r F H Q
 | .no=>False
def wantQ (o:Op) (d:Option Tmp) (r:List SOp) (F:Fr) (H:Hp) (Q:PL):Option Bool->Prop
 | some true=>opQ T o d r F H Q (kind T o)
 | some false=>wpL T r (delD F d) H Q
 | none=>False
def dV (o:Op) (n:Nat) (d:Option Tmp) (r:List (SOp×Nat)) (F:Fr) (H:Hp) (B:List Hp) (Q:PL):Option V->Prop
 | some v=>winOk T o F n v B=true/\wpD T r (putD F d v) H B Q
 | none=>False
def dAW (d:Option Tmp) (r:List (SOp×Nat)) (F:Fr) (B:List Hp) (Q:PL):Option (V×Hp)->Prop
 | some (v,H')=>wpD T r (putD F d v) H'.bump (H' :: B) Q
 | none=>False
def dA (o:Op) (n:Nat) (d:Option Tmp) (r:List (SOp×Nat)) (F:Fr) (H:Hp) (B:List Hp) (Q:PL) (pt:Bool):Option (V×Option Ob×Option Nat)->Prop
 | some (v,ob,kb)=>kbOk H kb=true/\(match pt with | true=>wpD T r (putD F d v) (afterA H ob kb).bump (afterA H ob kb :: B) Q | false=>winOk T o F n v B=true/\wpD T r (putD F d v) (afterA H ob kb) B Q)
 | none=>pt=true/\dAW T d r F B Q (evAW T o F H.flush)
def dW (d:Option Tmp) (r:List (SOp×Nat)) (F:Fr) (B:List Hp) (Q:PL):Option (Option V×Hp)->Prop
 | some (some v,H')=>wpD T r (putD F d v) H'.bump (H' :: B) Q
 | some (none,H')=>wpD T r (delD F d) H'.bump (H' :: B) Q
 | none=>False
def dC (d:Option Tmp) (r:List (SOp×Nat)) (F:Fr) (H:Hp) (B:List Hp) (Q:PL):Option V->Option (List V)->Prop
 | some (.fn (.func f) fs cs),some xs=>WF T f (fs++xs++cs) H.flush (contD T d r F B Q)
 | _,_=>False
def dCo (o:Op) (d:Option Tmp) (r:List (SOp×Nat)) (F:Fr) (H:Hp) (B:List Hp) (Q:PL):Prop:=match o with
 | .call c=>match c.callee with
  | .value f=>dC T d r F H B Q (opd T.ng F f) (opds T.ng F c.args.toList)
  | _=>False
 | _=>False
def isCall:Op->Bool | .call _=>true | _=>false
def opD (o:Op) (n:Nat) (d:Option Tmp) (r:List (SOp×Nat)) (F:Fr) (H:Hp) (B:List Hp) (Q:PL):Kd->Prop
 | .p=>dV T o n d r F H B Q (evP T o F)
 | .r=>dV T o n d r F H B Q (evR T o F H.get)
 | .a=>dA T o n d r F H B Q (isCall o) (evA T o F H.get H.next)
 | .w=>dW T d r F B Q (evW T o F H.flush)
 | .c=>dCo T o d r F H B Q
 | .no=>False
def skD (d:Option Tmp) (r:List (SOp×Nat)) (F:Fr) (H:Hp) (B:List Hp) (Q:PL):Bool->Prop
 | true=>wpD T r (delD F d) H (H :: B) Q
 | false=>wpD T r (delD F d) H B Q
def wantDQ (o:Op) (n:Nat) (d:Option Tmp) (r:List (SOp×Nat)) (F:Fr) (H:Hp) (B:List Hp) (Q:PL):Option Bool->Prop
 | some true=>opD T o n d r F H B Q (kind T o)
 | some false=>skD T d r F H B Q (isPt T o)
 | none=>False
end
section
variable {T:Tab}
theorem wpL_nil (F:Fr) (H:Hp) (Q:PL):wpL T [] F H Q=Q F H.flush:=by rw [wpL]
theorem wpL_cons (d:Option Tmp) (o:Op) (g:Option (Option Tmp×Bool)) (r:List SOp) (F:Fr) (H:Hp) (Q:PL):wpL T ((d,o,g) :: r) F H Q=wantQ T o d r F H Q (wantS F g):=by
 rw [wpL]
 cases wantS F g with
 | none=>rfl
 | some b =>
  cases b with
  | false=>rfl
  | true =>
   simp only [wantQ]
   unfold evOp
   cases kind T o with
   | p=>simp only [opQ];cases evP T o F<;>rfl
   | r=>simp only [opQ];cases evR T o F H.get<;>rfl
   | a =>
    simp only [opQ]
    cases evA T o F H.get H.next with
    | none=>simp only [kA];cases evAW T o F H.flush<;>rfl
    | some x =>
     obtain ⟨v,ob,kb⟩:=x
     simp only [kA]
     by_cases h:kbOk H kb=true<;>simp [h]
   | w =>
    simp only [opQ]
    cases evW T o F H.flush with
    | none=>rfl
    | some x=>obtain ⟨v,H'⟩:=x;cases v<;>rfl
   | c =>
    simp only [opQ,kCo]
    cases o<;>try rfl
    rename_i c
    obtain ⟨callee,args,tys⟩:=c
    cases callee<;>try rfl
    rename_i f
    dsimp only
    cases opd T.ng F f with
    | none=>rfl
    | some v =>
     cases opds T.ng F args.toList with
     | none=>cases v<;>first | rfl | (rename_i f _ _;cases f<;>rfl)
     | some xs=>cases v<;>first | rfl | (rename_i f _ _;cases f<;>rfl)
   | no=>rfl
theorem wpD_nil (F:Fr) (H:Hp) (B:List Hp) (Q:PL):wpD T [] F H B Q=Q F H.flush:=by rw [wpD]
theorem evA_none_pt {o:Op} {F:Fr} {H:Hp} {x:V×Hp} (h:evAW T o F H=some x):isCall o=true:=by
 cases o<;>first | rfl | simp [evAW] at h
theorem wpD_cons (d:Option Tmp) (o:Op) (g:Option (Option Tmp×Bool)) (n:Nat) (r:List (SOp×Nat)) (F:Fr) (H:Hp) (B:List Hp) (Q:PL):wpD T (((d,o,g),n) :: r) F H B Q=wantDQ T o n d r F H B Q (wantS F g):=by
 rw [wpD]
 cases wantS F g with
 | none=>rfl
 | some b =>
  cases b with
  | false=>simp only [wantDQ];cases isPt T o<;>rfl
  | true =>
   simp only [wantDQ]
   unfold evOp
   have hpt:isPt T o=(match kind T o with | .w=>true | .c=>true | .a=>isCall o | _=>false):=by
    unfold isPt
    cases kind T o<;>first | rfl | (cases o<;>rfl)
   cases hk:kind T o with
   | p=>rw [hk] at hpt;simp only [opD,hpt];cases evP T o F<;>simp [dV]
   | r=>rw [hk] at hpt;simp only [opD,hpt];cases evR T o F H.get<;>simp [dV]
   | a =>
    rw [hk] at hpt
    simp only [opD,hpt]
    cases evA T o F H.get H.next with
    | none =>
     simp only [dA]
     cases hw:evAW T o F H.flush with
     | none=>simp [dAW]
     | some x=>obtain ⟨v,H'⟩:=x;simp [dAW,evA_none_pt hw]
    | some x =>
     obtain ⟨v,ob,kb⟩:=x
     simp only [dA]
     by_cases h:kbOk H kb=true
     ·cases isCall o<;>simp [h]
     ·simp [h]
   | w =>
    rw [hk] at hpt
    simp only [opD,hpt]
    cases evW T o F H.flush with
    | none=>simp [dW]
    | some x=>obtain ⟨v,H'⟩:=x;cases v<;>simp [dW]
   | c =>
    rw [hk] at hpt
    simp only [opD,dCo,hpt]
    cases o<;>try rfl
    rename_i c
    obtain ⟨callee,args,tys⟩:=c
    cases callee<;>try rfl
    rename_i f
    dsimp only
    cases opd T.ng F f with
    | none=>rfl
    | some v =>
     cases opds T.ng F args.toList with
     | none=>cases v<;>first | rfl | (rename_i f _ _;cases f<;>rfl)
     | some xs=>cases v<;>first | rfl | (rename_i f _ _;cases f<;>rfl)
   | no=>simp [opD]
theorem wpL_sound:∀ (l:List SOp) {F:Fr} {H:Hp} {Q:PL},wpL T l F H Q->WL T l F H Q
 | [],F,H,Q,h=>WL.nil (by rwa [wpL] at h)
 | (d,o,g) :: r,F,H,Q,h=>by
  refine WL.cons ?_
  rw [wpL] at h
  cases hw:wantS F g with
  | none=>rw [hw] at h;exact h
  | some b =>
   rw [hw] at h
   cases b with
   | false=>exact wpL_sound r h
   | true =>
    dsimp only at h
    simp only [wantL]
    cases ho:evOp T o F H with
    | none=>rw [ho] at h;exact h
    | some x =>
     rw [ho] at h
     cases x with
     | val v H'=>exact wpL_sound r h
     | skip H'=>exact wpL_sound r h
     | enter f xs H'=>exact WF.mono h fun v H'' h=>wpL_sound r h
theorem wpD_sound:∀ (l:List (SOp×Nat)) {F:Fr} {H:Hp} {B:List Hp} {Q:PL},wpD T l F H B Q->WD T l F H B Q
 | [],F,H,B,Q,h=>WD.nil (by rwa [wpD] at h)
 | ((d,o,g),n) :: r,F,H,B,Q,h=>by
  refine WD.cons ?_
  rw [wpD] at h
  cases hw:wantS F g with
  | none=>rw [hw] at h;exact h
  | some b =>
   rw [hw] at h
   cases b with
   | false=>exact wpD_sound r h
   | true =>
    dsimp only at h
    simp only [wantD]
    cases ho:evOp T o F H with
    | none=>rw [ho] at h;exact h
    | some x =>
     rw [ho] at h
     cases x with
     | val v H' =>
      simp only [goD]
      dsimp only at h
      split at h
      ·rename_i hp;rw [if_pos hp];exact wpD_sound r h
      ·rename_i hp;rw [if_neg hp];exact ⟨h.1,wpD_sound r h.2⟩
     | skip H'=>exact wpD_sound r h
     | enter f xs H'=>exact WF.mono h fun v H'' h=>wpD_sound r h
end
section
variable (T:Tab)
def wp:SCode->Fr->Hp->PC->Prop
 | .skip,F,H,Q=>Q .nrm F H
 | .reg l,F,H,Q=>wpL T l F H (Q .nrm)
 | .dreg l,F,H,Q=>wpD T l F H [H] (Q .nrm)
 | .areg l u v,F,H,Q=>wpD T l F H [H] (fun F' H'=>apart F' u v=true/\Q .nrm F' H')
 | .seq a b,F,H,Q=>wp a F H (fun o F' H'=>match o with | .nrm=>wp b F' H' Q | .exit i=>Q (.exit i) F' H' | .ret=>Q .ret F' H')
 | .cond c a b,F,H,Q=>match opd T.ng F c with
  | some (.bool true)=>wp a F H Q
  | some (.bool false)=>wp b F H Q
  | _=>False
 | .block id c,F,H,Q=>wp c F H (blockQ id Q)
 | .loop c,F,H,Q=>WC T (.loop c) F H Q
 | .exit id,F,H,Q=>Q (.exit id) F H
 | .ret,F,H,Q=>Q .ret F H
 | .bad,_,_,_=>False
def sqQ (b:SCode) (Q:PC):PC:=fun o F' H'=>match o with | .nrm=>wp T b F' H' Q | .exit i=>Q (.exit i) F' H' | .ret=>Q .ret F' H'
def cdQ (a b:SCode) (F:Fr) (H:Hp) (Q:PC):Option V->Prop
 | some (.bool true)=>wp T a F H Q
 | some (.bool false)=>wp T b F H Q
 | _=>False
def nmQ (Q:PC):PL:=fun F H=>Q .nrm F H
def apQ (u v:Tmp) (Q:PC):PL:=fun F H=>apart F u v=true/\Q .nrm F H
end
section
variable {T:Tab} (F:Fr) (H:Hp) (Q:PC)
theorem sq_nrm (b:SCode):sqQ T b Q .nrm F H=wp T b F H Q:=rfl
theorem sq_exit (b:SCode) (i:Nat):sqQ T b Q (.exit i) F H=Q (.exit i) F H:=rfl
theorem sq_ret (b:SCode):sqQ T b Q .ret F H=Q .ret F H:=rfl
theorem nm_ap:nmQ Q F H=Q .nrm F H:=rfl
theorem ap_ap (u v:Tmp):apQ u v Q F H=(apart F u v=true/\Q .nrm F H):=rfl
theorem bl_nrm (id:Nat):blockQ id Q .nrm F H=Q .nrm F H:=rfl
theorem bl_ret (id:Nat):blockQ id Q .ret F H=Q .ret F H:=rfl
theorem bl_exit (id i:Nat):blockQ id Q (.exit i) F H=if i=id then Q .nrm F H else Q (.exit i) F H:=rfl
theorem wp_skip:wp T .skip F H Q=Q .nrm F H:=by rw [wp]
theorem wp_reg (l:List SOp):wp T (.reg l) F H Q=wpL T l F H (nmQ Q):=by rw [wp];rfl
theorem wp_dreg (l:List (SOp×Nat)):wp T (.dreg l) F H Q=wpD T l F H [H] (nmQ Q):=by rw [wp];rfl
theorem wp_areg (l:List (SOp×Nat)) (u v:Tmp):wp T (.areg l u v) F H Q=wpD T l F H [H] (apQ u v Q):=by rw [wp];rfl
theorem wp_seq (a b:SCode):wp T (.seq a b) F H Q=wp T a F H (sqQ T b Q):=by rw [wp];rfl
theorem wp_cond (c:Operand) (a b:SCode):wp T (.cond c a b) F H Q=cdQ T a b F H Q (opd T.ng F c):=by rw [wp];rfl
theorem wp_block (id:Nat) (c:SCode):wp T (.block id c) F H Q=wp T c F H (blockQ id Q):=by rw [wp]
theorem wp_loop (c:SCode):wp T (.loop c) F H Q=WC T (.loop c) F H Q:=by rw [wp]
theorem wp_exit (id:Nat):wp T (.exit id) F H Q=Q (.exit id) F H:=by rw [wp]
theorem wp_ret:wp T .ret F H Q=Q .ret F H:=by rw [wp]
theorem cd_true (a b:SCode):cdQ T a b F H Q (some (.bool true))=wp T a F H Q:=rfl
theorem cd_false (a b:SCode):cdQ T a b F H Q (some (.bool false))=wp T b F H Q:=rfl
variable {F H Q}
theorem wp_sound:∀ (c:SCode) {F:Fr} {H:Hp} {Q:PC},wp T c F H Q->WC T c F H Q
 | .skip,F,H,Q,h=>WC.skip (by rwa [wp] at h)
 | .reg l,F,H,Q,h=>WC.reg (wpL_sound l (by rwa [wp] at h))
 | .dreg l,F,H,Q,h=>WC.dreg (wpD_sound l (by rwa [wp] at h))
 | .areg l u v,F,H,Q,h=>WC.areg (wpD_sound l (by rwa [wp] at h))
 | .seq a b,F,H,Q,h=>by
  rw [wp] at h
  refine WC.seq (WC.mono (wp_sound a h) fun o F' H' h'=>?_)
  cases o with
  | nrm=>exact wp_sound b h'
  | exit i=>exact h'
  | ret=>exact h'
 | .cond c a b,F,H,Q,h=>by
  rw [wp] at h
  refine WC.cond ?_
  split at h
  ·rename_i hc;rw [hc];exact wp_sound a h
  ·rename_i hc;rw [hc];exact wp_sound b h
  ·exact h.elim
 | .block id c,F,H,Q,h=>WC.block (wp_sound c (by rwa [wp] at h))
 | .loop c,F,H,Q,h=>by rwa [wp] at h
 | .exit id,F,H,Q,h=>WC.exit (by rwa [wp] at h)
 | .ret,F,H,Q,h=>WC.ret (by rwa [wp] at h)
 | .bad,F,H,Q,h=>by rw [wp] at h;exact h.elim
theorem loop_of (I:Nat->Fr->Hp->Prop) {c:SCode} {Q:PC} {F:Fr} {H:Hp} {m:Nat} (h0:I m F H) (round:∀ m F H,I m F H->wp T c F H (loopQ I m Q)):WC T (.loop c) F H Q :=
 WC.loop I h0 fun m F H h=>wp_sound c (round m F H h)
theorem lp_nrm (I:Nat->Fr->Hp->Prop) (m:Nat) (F:Fr) (H:Hp) (Q:PC):loopQ I m Q .nrm F H = ∃ m',m' < m/\I m' F H:=rfl
theorem lp_exit (I:Nat->Fr->Hp->Prop) (m i:Nat) (F:Fr) (H:Hp) (Q:PC):loopQ I m Q (.exit i) F H=Q (.exit i) F H:=rfl
theorem lp_ret (I:Nat->Fr->Hp->Prop) (m:Nat) (F:Fr) (H:Hp) (Q:PC):loopQ I m Q .ret F H=Q .ret F H:=rfl
def rsQ (Q:V->Hp->Prop) (H:Hp):Option V->Prop
 | some v=>Q v H
 | none=>False
theorem rs_ret (T:Tab) (rs:List ResultVar) (Q:V->Hp->Prop) (F:Fr) (H:Hp):resQ T rs Q .ret F H=rsQ Q H (resOf T rs F H.get):=by
 simp only [resQ];cases resOf T rs F H.get<;>rfl
theorem rs_nrm (T:Tab) (rs:List ResultVar) (Q:V->Hp->Prop) (F:Fr) (H:Hp):resQ T rs Q .nrm F H=rsQ Q H (resOf T rs F H.get):=by
 simp only [resQ];cases resOf T rs F H.get<;>rfl
end
section
variable (T:Tab) (t:TypeId) (x y:Operand)
theorem binE_int (op:BinOp) (k:IntKind) (a b:Int) (h:op≠.shl) (h' : op≠.shr):binE T op t x y (.int k a) (.int k b)=binInt op k a b:=by
 unfold binE
 rw [bin_int op _ k a b h h']
 cases hb:binInt op k a b with
 | some v=>rfl
 | none=>cases op<;>first | rfl | simp [binInt] at hb
theorem binE_str (op:BinOp) (a b:List UInt8) (h:op≠.shl) (h' : op≠.shr):binE T op t x y (.str a) (.str b)=binStr op a b:=by
 unfold binE
 rw [bin_str op _ a b h h']
 cases hb:binStr op a b with
 | some v=>rfl
 | none=>cases op<;>first | rfl | simp [binStr] at hb
theorem binE_shl (k k' : IntKind) (a n:Int) (h:0<=n):binE T .shl t x y (.int k a) (.int k' n)=some (.int k (wr k (a*2 ^ (min n.toNat k.bits)))):=by
 unfold binE;rw [bin_shl _ k k' a n h]
theorem binE_shr (k k' : IntKind) (a n:Int) (h:0<=n):binE T .shr t x y (.int k a) (.int k' n)=some (.int k (a.fdiv (2 ^ (min n.toNat k.bits)))):=by
 unfold binE;rw [bin_shr _ k k' a n h]
theorem binE_eql_agg (a b:List V):binE T .eql t x y (.agg a) (.agg b)=(eqS T t a b).map .bool:=rfl
theorem binE_neq_agg (a b:List V):binE T .neq t x y (.agg a) (.agg b)=(eqS T t a b).map fun r=>.bool !r:=rfl
theorem binE_eql_bool (a b:Bool) (h:isBoolD (descOf T t)=true):binE T .eql t x y (.bool a) (.bool b)=some (.bool (a==b)):=by
 unfold binE;rw [bin_bool_eql _ a b h]
theorem binE_neq_bool (a b:Bool) (h:isBoolD (descOf T t)=true):binE T .neq t x y (.bool a) (.bool b)=some (.bool (a != b)):=by
 unfold binE;rw [bin_bool_neq _ a b h]
theorem binE_eql_pn (b o:Nat) (h:isPtrD (descOf T t)=true):binE T .eql t x y (.ptr b o) .nilp=some (.bool false):=by
 unfold binE;rw [bin_ptr_eql _ b o h]
theorem binE_neq_pn (b o:Nat) (h:isPtrD (descOf T t)=true):binE T .neq t x y (.ptr b o) .nilp=some (.bool true):=by
 unfold binE;rw [bin_ptr_neq _ b o h]
theorem binE_eql_nn (h:isPtrD (descOf T t)=true):binE T .eql t x y .nilp .nilp=some (.bool true):=by
 unfold binE;rw [bin_nil_eql _ h]
theorem binE_neq_nn (h:isPtrD (descOf T t)=true):binE T .neq t x y .nilp .nilp=some (.bool false):=by
 unfold binE;rw [bin_nil_neq _ h]
theorem binE_eql_in (u:TypeId) (v:V) (h:isIfD (descOf T t)=true):binE T .eql t x y (.ifc u v) .nili=some (.bool false):=by
 simp [binE,bin,nilR,h]
theorem binE_neq_in (u:TypeId) (v:V) (h:isIfD (descOf T t)=true):binE T .neq t x y (.ifc u v) .nili=some (.bool true):=by
 simp [binE,bin,nilR,h]
theorem binE_eql_ii (h:isIfD (descOf T t)=true) (hc:(isC x || isC y)=true):binE T .eql t x y .nili .nili=some (.bool true):=by
 simp only [binE,bin,nilR,h,hc];rfl
theorem binE_neq_ii (h:isIfD (descOf T t)=true) (hc:(isC x || isC y)=true):binE T .neq t x y .nili .nili=some (.bool false):=by
 simp only [binE,bin,nilR,h,hc];rfl
end
theorem get_new_self (H:Hp) (o:Ob):(H.new o).get H.next=some o:=by rw [Hp.get_new,if_pos rfl]
theorem get_new_ne {H:Hp} {b:Nat} (o:Ob) (h:b≠H.next):(H.new o).get b=H.get b:=by rw [Hp.get_new,if_neg h]
theorem get_put_self (H:Hp) (b:Nat) (o:Ob):(H.put b o).get b=some o:=by rw [Hp.get_put,if_pos rfl]
theorem get_put_ne {H:Hp} {b c:Nat} (o:Ob) (h:c≠b):(H.put b o).get c=H.get c:=by rw [Hp.get_put,if_neg h]
theorem get_bump (H:Hp) (b:Nat):H.bump.get b=H.get b:=Eq.trans rfl rfl
theorem next_bump (H:Hp):H.bump.next=H.next+1:=Eq.trans rfl rfl
theorem flush_of {H:Hp} (h:H.stale=[]):H.flush=H:=by unfold Hp.flush;rw [h]
theorem st_new (H:Hp) (o:Ob):(H.new o).stale=H.stale:=Eq.trans rfl rfl
theorem st_put (H:Hp) (b:Nat) (o:Ob):(H.put b o).stale=H.stale:=Eq.trans rfl rfl
theorem st_bump (H:Hp):H.bump.stale=H.stale:=Eq.trans rfl rfl
end Go.AM
