/- Parts of the abstract machine and of the walks over it, joined: what the law that is claimed here leans on. -/
import Derived.Test.YtlillgmgpmbfnaaGreatDoorAmG1
import Derived.Test.YtlillgmgpmbfnaaGreatDoorAmX
import Derived.Test.YtlillgmgpmbfnaaGreatDoorAmC3
import Derived.KernelRfl
set_option linter.unusedVariables false
set_option linter.unusedSimpArgs false
set_option linter.unnecessarySimpa false
set_option maxRecDepth 100000
namespace Go.AM.YtlillgmgpmbfnaaGreatDoorT
open Go Go.AM Go.Proofs
abbrev exZ:Ob:=.row 35 6 false [.int .i64 0,.int .i64 0,.str [],.nils,.nils,.nils]
theorem PanP.ext {α:Type} {pr:Nat} {r:PR α} {H H1:Hp} (hX:Ext (eqR pr) H H1):∀ v H',PanP pr r H1 v H'->PanP pr r H v H':=by
 rintro v H' ⟨a,e,rfl,rfl,h⟩
 exact ⟨a,e,rfl,rfl,hX.trans h⟩
theorem Zmb {H0 H1 H H' : Hp} {t:Tx} {cs:List V} (h:Ze (since H1 H) H t cs) (h01:H0.next<=H1.next) (hle:H.next<=H'.next) (hg:∀ b,H1.next<=b->b < H.next->H'.get b=H.get b):Ze (since H0 H') H' t cs :=
 Ze.mono ⟨fun b hb hx=>⟨Nat.le_trans h01 hb.1,Nat.lt_of_lt_of_le hx hle⟩,fun b hb hx=>hg b hb.1 hx,hle⟩ _ _ h
theorem Zv5 {f:Nat} (ih:Zh9 f):Xj (f+1):=by
 intro H pr d l hP hne
 have hst:=hP.st
 have hpr:=hP.lt
 refine wr77 (Ye _ ?_)
 simp [hst]
 have hE0:Ext (eqR pr) H (H.new exZ):=Ext.new hst _
 have hP0:PAt (H.new exZ) pr l d:=hP.of_get hE0.st hE0.le fun c hc=>Z9 _ (by omega)
 refine (Zi1 hP0).mono ?_ ?_
 rotate_left
 ·rintro v H1 ⟨rfl,rfl,hX⟩
  exact ⟨_,_,by rw [Zu,if_pos rfl],rfl,hE0.trans hX⟩
 rintro v H1 ⟨hd,hP1,hX1⟩
 have hY:Zu (f+1) d l=exprY f 0 (d+1) l:=by rw [Zu,if_neg (by omega)]
 rw [hY] at hne
 rw [hY]
 simp [hX1.st]
 refine (ih H1 pr (d+1) 0 l (by omega) hP1 hne).mono ?_ (PanP.ext (hE0.trans hX1))
 rintro v H2 ⟨e,l',hr,⟨cs,rfl,hT⟩,hP2,hX2⟩
 obtain ⟨d0,d1,d2,d3,d4,d5,rfl,n0,n1,n2,n3,n4,n5⟩:=hT.six
 have s2:=hX2.st
 have l1:H.next+1<=H1.next:=hX1.le
 have l2:=hX2.le
 have hp2:=hP2.lt
 obtain ⟨v,r1,r2⟩:=hP2.row
 obtain ⟨b,off,e',ro,cells,rfl,_⟩:=r2.head hP2.ends
 have g0:H2.get H.next=some exZ:=by
  rw [hX2.get _ (by omega) (by show H.next≠pr;omega),hX1.get _ (by show H.next < H.next+1;omega) (by show H.next≠pr;omega),Z5]
 have o1:=Zp hp2
 have o2:=Zp (show H.next < H2.next by omega)
 have o3:=Zi (show pr≠H.next by omega)
 have hw:wr .i64 (d:Int)=(d:Int):=Wf (by omega) (by omega)
 simp [s2,r1,g0,o1,o2,o3,hw,Hp.get_put,Hp.get_new,n0,n1,n2,n3,n4,n5]
 have hE:=((((((hE0.trans hX1).trans hX2).newge exZ).putX (b:=H2.next) (.row 35 6 false [d0,d1,d2,d3,d4,d5]) (.inr (by omega))).putX (b:=pr) (.row 92 2 false [.sl b off l'.length none 4,.int .i64 d]) (.inl rfl)).putX (b:=H.next) (.row 35 6 false [d0,d1,d2,d3,d4,d5]) (.inr (Nat.le_refl _)))
 refine ⟨e,l',hr,⟨_,rfl,Zmb hT (by omega) (Nat.le_succ _) fun c h1 h2=>?_⟩,hP2.set hE.st (Nat.le_succ _) ?_ (r2.of_get fun c hc=>?_) hP2.ends (by omega) fun c hc=>?_,hE⟩
 ·simp [Hp.get_put,Hp.get_new,Zp h2,Zi (show c≠pr by omega),Zi (show c≠H.next by omega)]
 ·simp [Hp.get_put,Hp.get_new,o3]
 ·simp [Hp.get_put,Hp.get_new,Zp (show c < H2.next by omega),Zi (show c≠pr by omega),Zi (show c≠H.next by omega)]
 ·simp [Hp.get_put,Hp.get_new,Zp (show c < H2.next by omega),Zi (show c≠pr by omega),Zi (show c≠H.next by omega)]
theorem Jf {K:Nat->Prop} {H:Hp}:∀ {t:Tx} {cs:List V},Ze K H t cs->eqV (.agg cs) (.agg cs)=true
 | .ex ..,cs,h=>by simp only [Ze] at h;obtain ⟨vp,vq,vb,rfl,h1,h2,h3⟩:=h;simp [eqL,eqV,h1.eqv,h2.eqv,h3.eqv]
 | .st ..,cs,h=>by simp only [Ze] at h;obtain ⟨vp,vq,vb,rfl,h1,h2,h3⟩:=h;simp [eqL,eqV,h1.eqv,h2.eqv,h3.eqv]
theorem Zul {K:Nat->Prop} {H:Hp} {x y:Tx} {t:TypeId} {ro:Bool} {b:Nat} {cap:Option Nat} {d0 d1 d2 d3 d4 d5 e0 e1 e2 e3 e4 e5:V} (hx:Ze K H x [d0,d1,d2,d3,d4,d5]) (hy:Ze K H y [e0,e1,e2,e3,e4,e5]) (hg:H.get b=some (.row t 6 ro [d0,d1,d2,d3,d4,d5,e0,e1,e2,e3,e4,e5])) (hk:K b) (hb:b < H.next) (hc:∀ c,cap=some c->2<=c) (op:Nat) (num:Int) (text:Bs) :
  Ze K H (.ex op num text [x,y] [] []) [.int .i64 op,.int .i64 num,.str text,.sl b 0 2 cap 6,.nils,.nils]:=by
 simp only [Ze]
 exact ⟨_,_,_,rfl,.inr ⟨b,0,cap,t,ro,_,rfl,hg,hk,hb,rfl,by simp,by simp only [ElsAt];exact ⟨hx,hy,trivial⟩,hc⟩,.inl ⟨.inl rfl,rfl⟩,.inl ⟨.inl rfl,rfl⟩⟩
theorem fin1 {H H1 H2:Hp} {pr d r0:Nat} {l:List Tk} {e:Tx} {cs:List V} {o:Ob} (hP2:PAt H2 pr l d) (hT:Ze (since H1 H2) H2 e cs) (hX:Ext (eqR pr) H H2) (h0:H.next<=r0) (hp:pr < r0) (h1:r0 < H1.next) (h01:H.next<=H1.next):ExV H (H2.put r0 o) e (.agg cs)/\PAt (H2.put r0 o) pr l d/\Ext (eqR pr) H (H2.put r0 o) :=
 ⟨⟨_,rfl,Zmb hT h01 (Nat.le_refl _) fun c h2 h3=>Zf _ (by omega)⟩,hP2.of_get hP2.st (Nat.le_refl _) fun c hc=>Zf _ (by omega),hX.putX _ (.inr h0)⟩
theorem LvG.at_ {N n:Nat} {H:Hp} (h:LvG N H) (hn:n < 3):∃ L m X cx,H.get 6=some (.row 206 1 true L)/\L.length=3/\L[n]? = some (.mp m)/\m < N/\H.get m=some (.map true X cx)/\LvE n X:=by
 obtain ⟨_,_,⟨x,y,z,X,Y,Z,cx,cy,cz,g0,g1,g2,g3,g4,g5,g6,g7,g8,g9⟩,_⟩:=h
 match n,hn with
 | 0,_=>exact ⟨_,x,X,cx,g0,rfl,rfl,g1,g4,g7⟩
 | 1,_=>exact ⟨_,y,Y,cy,g0,rfl,rfl,g2,g5,g8⟩
 | 2,_=>exact ⟨_,z,Z,cz,g0,rfl,rfl,g3,g6,g9⟩
abbrev Kt (H0:Hp) (r0 r1:Nat):Nat->Prop:=fun b=>H0.next<=b/\b≠r0/\b≠r1
structure Ilv (R:PR Tx) (H0:Hp) (pr d n r0 r1 f k:Nat) (F:Fr) (H:Hp):Prop where
 kf:k<=f
 y:∃ e l cs,lvlY k n d e l=R/\PAt H pr l d/\H.get r1=some (.row 35 6 false cs)/\Ze (Kt H0 r0 r1) H e cs
 row:∃ cs,H.get r0=some (.row 35 6 false cs)/\cs.length=6
 ext:Ext (eqR pr) H0 H
 hp:pr < H0.next
 hr0:H0.next<=r0
 hr1:r0 < r1
 hr2:r1 < H.next
 f0:F.get 0=some (.ptr pr 0)
 f1:F.get 1=some (.int .i64 n)
 f4:F.get 4=some (.ptr r0 0)
 f5:F.get 5=some (.ptr r1 0)
theorem Zw1 {R:PR Tx} (hR:R≠.out) {f:Nat} (ih:∀ k,k < f->Zh9 k) {H0:Hp} {pr d n r0 r1:Nat} (hn:n < 3) {F:Fr} {H:Hp} {Q:PC} (h:Ilv R H0 pr d n r0 r1 f f F H)
  (hQ:∀ F' H' a l' cs,R = .ok a l'->F'.get 4=some (.ptr r0 0)->H'.get r0=some (.row 35 6 false cs)->Ze (since H0 H') H' a cs->PAt H' pr l' d->Ext (eqR pr) H0 H'->Q .ret F' H'):WCr tab (PanP pr R H0) (.loop Zea) F H Q:=by
 refine Ug (Ilv R H0 pr d n r0 r1 f) (m:=f) h ?_
 rintro k F H I
 obtain ⟨e,l,cs,hY,hP,hrow,hT⟩:=I.y
 have f0:=I.f0;have f1:=I.f1;have f4:=I.f4;have f5:=I.f5
 have hst:=I.ext.st
 have hkf:=I.kf
 obtain ⟨v,h1,h2⟩:=hP.row
 obtain ⟨b,off,e',ro,cells,rfl,g1,g3,g4,g5,g6,g7,g8,g9,g10,g11,g12⟩:=h2.head hP.ends
 obtain ⟨N,hN,hG⟩:=hP.gl
 obtain ⟨L,m,X,cx,m1,m2,m3,m4,m5,m6⟩:=hG.at_ hn
 have hlt:(0:Int) < (l.length:Int):=by omega
 have hlt3:(n:Int) < 3:=by omega
 have m3' : L[n]'(by omega) = .mp m:=by rw [List.getElem?_eq_getElem (by omega)] at m3;exact Option.some.inj m3
 obtain ⟨d0,d1,d2,d3,d4,d5,rfl,n0,n1,n2,n3,n4,n5⟩:=hT.six
 obtain ⟨cs0,z1,z2⟩:=I.row
 have hp:=I.hp;have hr0:=I.hr0;have hr1:=I.hr1;have hr2:=I.hr2
 have hpr:=hP.lt
 match cs0,z2 with
 | [a0,a1,a2,a3,a4,a5],_ =>
 cases k with
 | zero=>rw [lvlY] at hY;exact absurd hY.symm hR
 | succ k =>
 rw [lvlY] at hY
 have fin:∀ F' : Fr,F'.get 4=some (.ptr r0 0)->R = .ok e l->Q .ret F' (H.put r0 (.row 35 6 false [d0,d1,d2,d3,d4,d5])):=fun F' h4 hR'=>by
  refine hQ F' _ e l _ hR' h4 (Zd _ _ _) (Ze.mono ⟨fun c hc hx=>⟨hc.1,hx⟩,fun c hc hx=>Zf _ hc.2.1,Nat.le_refl _⟩ _ _ hT) (hP.of_get hst (Nat.le_refl _) fun c hc=>Zf _ (by omega)) (I.ext.putX _ (.inr hr0))
 rcases m6 (hdT l).t with ⟨q1,q2⟩ | ⟨j,op,q1,q2⟩
 ·rw [show (if (hdT l).k=4 then lvY n (hdT l).t else none)=none by rw [q2];split<;>rfl] at hY
  simp [Zea,f0,f1,f4,f5,hst,h1,m1,m2,m3',m5,g3,g9,g6,hlt,hn,hlt3,q1,hrow,z1,n0,n1,n2,n3,n4,n5]
  exact fin _ (by simp [f4]) hY.symm
 by_cases hk:(hdT l).k=4
 ·have b4:((hdT l).k != 4)=false:=by rw [hk];rfl
  have hk0:(hdT l).k≠0:=by rw [hk];decide
  obtain ⟨g13,g14⟩:=g12 hk0
  have g14' : (1:Int) < (l.length:Int):=by omega
  have g15:¬ (l.length:Int) < 1:=by omega
  rw [if_pos hk,q2] at hY
  dsimp only at hY
  have hwn:=V4 (show n < 1000000000 by omega)
  have o1:=Zi (show pr≠r1 by omega)
  have o2:=Zi (show pr≠r0 by omega)
  have o3:=Zi (show r0≠r1 by omega)
  simp [Zea,f0,f1,f4,f5,hst,h1,m1,m2,m3',m5,g3,g9,g8,g6,hlt,hn,hlt3,q1,b4,hk,hrow,z1,Yw,Zb,g14,g14',g15,Hp.get_put,o1,o2,o3,hwn]
  generalize hH1:H.put pr (.row 92 2 false [.sl b (off+4) (l.length-1) none 4,.int .i64 d])=H1
  have hX1:Ext (eqR pr) H0 H1:=hH1 ▸ I.ext.putX _ (.inl rfl)
  have hP1:PAt H1 pr l.tail d:=by
   subst hH1
   exact hP.set hst (Nat.le_refl _) (Zd _ _ _) g13 (hP.ends.tail hk0) hP.dp fun c hc=>Zf _ (Nat.ne_of_lt hc)
  have hn1:H1.next=H.next:=by rw [<- hH1];rfl
  have hg1:∀ c,c≠pr->H1.get c=H.get c:=fun c hc=>by rw [<- hH1];exact Zf _ hc
  have key:=ih k (by omega) H1 pr d (n+1) l.tail (by omega) hP1 (Yp hY hR)
  rw [PS,show ((n+1:Nat):Int)=(n:Int)+1 by omega] at key
  refine key.mono ?_ ?_
  rotate_left
  ·intro v H2 hp
   obtain ⟨pa,pe,q3,rfl,hX2⟩:=hp
   have s2:=hX2.st
   have k1' : H1.get r1=some (.row 35 6 false [d0,d1,d2,d3,d4,d5]):=by rw [hg1 _ (by omega)];exact hrow
   have k1:H2.get r1=some (.row 35 6 false [d0,d1,d2,d3,d4,d5]):=by rw [hX2.get r1 (by omega) (by show r1≠pr;omega)];exact k1'
   have heq:=Jf hT
   simp [Jm,f5,f4,f1,f0,s2,k1,k1',heq]
   exact PanP.up hY hX1 _ _ ⟨pa,pe,q3,rfl,hX2.upto (Nat.le_succ _)⟩
  rintro v H2 ⟨y,l2,hr,⟨ds,rfl,hT2⟩,hP2,hX2⟩
  obtain ⟨e0,e1,e2,e3,e4,e5,rfl,p0,p1,p2,p3,p4,p5⟩:=hT2.six
  have s2:=hX2.st
  have l2':=hX2.le
  rw [hr] at hY
  rw [Zn] at hY
  have k1' : H1.get r1=some (.row 35 6 false [d0,d1,d2,d3,d4,d5]):=by rw [hg1 _ (by omega)];exact hrow
  have k1:H2.get r1=some (.row 35 6 false [d0,d1,d2,d3,d4,d5]):=by rw [hX2.get r1 (by omega) (by show r1≠pr;omega),hg1 _ (by omega)];exact hrow
  have k0:H2.get r0=some (.row 35 6 false [a0,a1,a2,a3,a4,a5]):=by rw [hX2.get r0 (by omega) (by show r0≠pr;omega),hg1 _ (by omega)];exact z1
  have heq:=Jf hT
  have u1:=Zi (show r1≠H2.next+1 by omega)
  generalize hH4:((H2.bump.new (.row 35 6 false [d0,d1,d2,d3,d4,d5,e0,e1,e2,e3,e4,e5])).put r1 (.row 35 6 false [.int .i64 op,.int .i64 0,.str [],.sl (H2.next+1) 0 2 none 6,.nils,.nils])).bump=H4
  have hE4:Ext (eqR pr) H0 H4:=hH4 ▸ ((((hX1.trans hX2).bump).newge _).putX (b:=r1) _ (.inr (by omega))).bump
  have nx4:H4.next=H2.next+3:=by rw [<- hH4];rfl
  have g4:∀ c,c < H2.next->c≠r1->H4.get c=H2.get c:=fun c hc h1=>by
   have u2:=Zi (show c≠H2.next+1 by omega)
   rw [<- hH4];simp [Hp.get_put,Hp.get_new,Zi h1,u2]
  have g41:H4.get r1=some (.row 35 6 false [.int .i64 op,.int .i64 0,.str [],.sl (H2.next+1) 0 2 none 6,.nils,.nils]):=by rw [<- hH4];exact Zd _ _ _
  have g42:H4.get (H2.next+1)=some (.row 35 6 false [d0,d1,d2,d3,d4,d5,e0,e1,e2,e3,e4,e5]):=by rw [<- hH4];simp [Hp.get_put,Hp.get_new,u1]
  have g40:H4.get r0=some (.row 35 6 false [a0,a1,a2,a3,a4,a5]):=by rw [g4 r0 (by omega) (by omega)];exact k0
  have hT4:Ze (Kt H0 r0 r1) H4 (.ex op 0 [] [e,y] [] []) [.int .i64 op,.int .i64 0,.str [],.sl (H2.next+1) 0 2 none 6,.nils,.nils]:=by
   refine Zul (Ze.mono ⟨fun c hc _=>hc,fun c hc hx=>?_,by omega⟩ _ _ hT) (Ze.mono ⟨fun c hc hx=>⟨by have:=hc.1;omega,by have:=hc.1;omega,by have:=hc.1;omega⟩,fun c hc hx=>g4 c hx (by have:=hc.1;omega),by omega⟩ _ _ hT2) g42 ⟨by omega,by omega,by omega⟩ (by omega) (fun c hc=>by cases hc) _ _ _
   have h1:=hc.1;have h2:=hc.2.1;have h3:=hc.2.2
   rw [g4 c (by omega) h3,hX2.get c (by omega) (by show c≠pr;omega),hg1 c (by omega)]
  have hP4:PAt H4 pr l2 d:=hP2.of_get hE4.st (by omega) fun c hc=>g4 c (by omega) (by omega)
  by_cases hn0:n=0
  ·have hn0' : ((n:Int)==0)=true:=by rw [hn0];rfl
   rw [if_pos hn0] at hY
   simp [s2,k1,k1',heq,u1,f5,f1,f4,f0,Hp.get_put,Hp.get_new,n0,n1,n2,n3,n4,n5,p0,p1,p2,p3,p4,p5,hn0',hH4,g40,g41,o3,hE4.st]
   refine hQ _ _ _ l2 _ hY.symm (by simp [f4]) (Zd _ _ _) (Ze.mono ⟨fun c hc hx=>⟨hc.1,hx⟩,fun c hc hx=>Zf _ hc.2.1,Nat.le_refl _⟩ _ _ hT4) (hP4.of_get hE4.st (Nat.le_refl _) fun c hc=>Zf _ (by omega)) (hE4.putX _ (.inr hr0))
  ·have hn0' : ((n:Int)==0)=false:=beq_false_of_ne (by omega)
   rw [if_neg hn0] at hY
   simp [s2,k1,k1',heq,u1,f5,f1,f4,f0,Hp.get_put,Hp.get_new,n0,n1,n2,n3,n4,n5,p0,p1,p2,p3,p4,p5,hn0',hH4,hE4.st]
   exact ⟨k,by omega,by omega,⟨_,l2,_,hY,hP4,g41,hT4⟩,⟨_,g40,rfl⟩,hE4,hp,hr0,hr1,by omega,by simp [f0],by simp [f1],by simp [f4],by simp [f5]⟩
 ·have b4:((hdT l).k != 4)=true:=bne_iff_ne.2 hk
  rw [if_neg hk] at hY
  simp [Zea,f0,f1,f4,f5,hst,h1,m1,m2,m3',m5,g3,g9,g8,g6,hlt,hn,hlt3,q1,b4,hrow,z1,n0,n1,n2,n3,n4,n5]
  exact fin _ (by simp [f4]) hY.symm
theorem Z13 {f:Nat} (ihU:Zeu f) (ihE:∀ k,k < f+1->Zh9 k):Zh9 (f+1):=by
 intro H pr d n l hn hP hne
 have hst:=hP.st
 have hpr:=hP.lt
 refine Z7k (Ye _ ?_)
 have hE0:Ext (eqR pr) H (H.new exZ):=Ext.new hst _
 have hP0:PAt (H.new exZ) pr l d:=hP.of_get hE0.st hE0.le fun c hc=>Z9 _ (by omega)
 generalize hR:exprY (f+1) n d l=R at *
 rw [exprY] at hR
 by_cases h3:n=3
 ·subst h3
  rw [if_pos rfl] at hR
  simp [hst]
  refine (ihU (H.new exZ) pr d l hP0 (by rw [hR];exact hne)).mono ?_ (by rw [hR];exact PanP.ext hE0)
  rintro v H2 ⟨e,l',hr,⟨cs,rfl,hT⟩,hP2,hX2⟩
  obtain ⟨d0,d1,d2,d3,d4,d5,rfl,n0,n1,n2,n3,n4,n5⟩:=hT.six
  have s2:=hX2.st
  have l2:H.next+1<=H2.next:=hX2.le
  have g0:H2.get H.next=some exZ:=by rw [hX2.get _ (by show H.next < H.next+1;omega) (by show H.next≠pr;omega),Z5]
  simp [s2,g0,n0,n1,n2,n3,n4,n5]
  obtain ⟨a1,a2,a3⟩:=fin1 (r0:=H.next) (o:=.row 35 6 false [d0,d1,d2,d3,d4,d5]) hP2 hT (hE0.trans hX2) (Nat.le_refl _) hpr (Nat.lt_succ_self _) (Nat.le_succ _)
  exact ⟨e,l',by rw [<- hR,hr],a1,a2,a3⟩
 ·rw [if_neg h3] at hR
  have h3' : ((n:Int)==3)=false:=beq_false_of_ne (by omega)
  have hwn:=V4 (show n < 1000000000 by omega)
  simp [hst,h3',hwn]
  have key:=ihE f (by omega) (H.new exZ) pr d (n+1) l (by omega) hP0 (Yp hR hne)
  rw [PS,show ((n+1:Nat):Int)=(n:Int)+1 by omega] at key
  refine key.mono ?_ (PanP.up hR hE0)
  rintro v H2 ⟨e,l',hr,⟨cs,rfl,hT⟩,hP2,hX2⟩
  rw [hr,Zn] at hR
  obtain ⟨d0,d1,d2,d3,d4,d5,rfl,n0,n1,n2,n3,n4,n5⟩:=hT.six
  have s2:=hX2.st
  have l2:H.next+1<=H2.next:=hX2.le
  have g0:H2.get H.next=some exZ:=by rw [hX2.get _ (by show H.next < H.next+1;omega) (by show H.next≠pr;omega),Z5]
  simp [s2,n0,n1,n2,n3,n4,n5]
  have hE3:Ext (eqR pr) H ((H2.new exZ).put H2.next (.row 35 6 false [d0,d1,d2,d3,d4,d5])):=((hE0.trans hX2).newge _).putX _ (.inr (by omega))
  have old:∀ c,c < H2.next->((H2.new exZ).put H2.next (.row 35 6 false [d0,d1,d2,d3,d4,d5])).get c=H2.get c:=fun c hc=>by simp [Hp.get_put,Hp.get_new,Zp hc]
  refine Zw1 hne (fun k hk=>ihE k (by omega)) (by omega) (d:=d) (n:=n) (r0:=H.next) (r1:=H2.next) ⟨Nat.le_refl _,⟨e,l',_,hR,hP2.of_get hE3.st (Nat.le_succ _) fun c hc=>old c (by omega),Zd _ _ _,?_⟩,⟨_,by rw [old _ (by omega)];exact g0,rfl⟩,hE3,hpr,Nat.le_refl _,by omega,Nat.lt_succ_self _,by simp,by simp,by simp,by simp⟩ ?_
  ·exact Ze.mono ⟨fun c hc hx=>⟨by have:=hc.1;simp at this;omega,by have:=hc.1;simp at this;omega,by omega⟩,fun c hc hx=>old c hx,Nat.le_succ _⟩ _ _ hT
  ·intro F' H' a l2 cs hr2 f4 g4 hT' hP' hX'
   obtain ⟨e0,e1,e2,e3,e4,e5,rfl,p0,p1,p2,p3,p4,p5⟩:=hT'.six
   simp [f4,g4]
   exact ⟨a,l2,hr2,⟨_,rfl,hT'⟩,hP',hX'⟩
theorem one_at {K:Nat->Prop} {H:Hp} {x:Tx} {t:TypeId} {ro:Bool} {b:Nat} {cap:Option Nat} {ds:List V} (hx:Ze K H x ds) (hg:H.get b=some (.row t 6 ro ds)) (hk:K b) (hb:b < H.next) (hc:∀ c,cap=some c->1<=c):Zk K H [x] (.sl b 0 1 cap 6):=by
 have hl:=hx.len
 exact .inr ⟨b,0,cap,t,ro,_,rfl,hg,hk,hb,rfl,by simp [hl],by simp only [ElsAt];exact ⟨by rw [List.drop_zero,List.take_of_length_le (by omega)];exact hx,trivial⟩,hc⟩
def Yu:SCode:=.seq (.reg Zrn) (.seq (.reg Zt9) (.seq (.reg Zs7) (.seq (.reg Zoh) .ret)))
theorem Zhn {f:Nat} (ihU:Zeu f) {R:PR Tx} (hne:R≠.out) {H H1:Hp} {pr d op:Nat} {l1:List Tk} {F:Fr} (hP1:PAt H1 pr l1 d) (hX1:Ext (eqR pr) H H1) (hpr:pr < H.next) (g0:H1.get H.next=some exZ) (hlt:H.next < H1.next)
  (hR:(if d=20 then .err (hdT l1).at_ 3 else (unaryY f (d+1) l1).bind fun e l=>.ok (.ex op 0 [] [e] [] []) l)=R) (f0:F.get 0=some (.ptr pr 0)) (f2:F.get 2=some (.ptr H.next 0)) (f3:F.get 3=some (.int .i64 op)) :
  wpP tab (PanP pr R H) Yu F H1 (resQ tab [.cell 2 35] fun v H'=>∃ a l',R = .ok a l'/\ExV H H' a v/\PAt H' pr l' d/\Ext (eqR pr) H H'):=by
 have s1:=hX1.st
 simp [Yu,f0,s1]
 refine (Zi1 hP1).mono ?_ ?_
 rotate_left
 ·rintro v H2 ⟨rfl,rfl,hX⟩
  exact ⟨_,_,by rw [<- hR,if_pos rfl],rfl,hX1.trans hX⟩
 rintro v H2 ⟨hd,hP2,hX2⟩
 rw [if_neg (by omega)] at hR
 have s2:=hX2.st
 have hX02:=hX1.trans hX2
 simp [s2,f0]
 refine (ihU H2 pr (d+1) l1 hP2 (Yp hR hne)).mono ?_ (PanP.up hR hX02)
 rintro v H3 ⟨e,l',hr,⟨cs,rfl,hT⟩,hP3,hX3⟩
 rw [hr,Zn] at hR
 obtain ⟨d0,d1,d2,d3,d4,d5,rfl,n0,n1,n2,n3,n4,n5⟩:=hT.six
 have s3:=hX3.st
 have l2:=hX2.le
 have l3:=hX3.le
 have hp3:=hP3.lt
 obtain ⟨v,r1,r2⟩:=hP3.row
 obtain ⟨b,off,e',ro,cells,rfl,_⟩:=r2.head hP3.ends
 have g3:H3.get H.next=some exZ:=by
  rw [hX3.get _ (by omega) (by show H.next≠pr;omega),hX2.get _ hlt (by show H.next≠pr;omega),g0]
 have o1:=Zp hp3
 have o2:=Zp (show H.next < H3.next by omega)
 have o3:=Zi (show pr≠H.next by omega)
 have hw:wr .i64 (d:Int)=(d:Int):=Wf (by omega) (by omega)
 have o4:(H3.next+1=H3.next)=False:=by simp
 generalize hH4:((H3.new exZ).put H3.next (.row 35 6 false [d0,d1,d2,d3,d4,d5])).put pr (.row 92 2 false [.sl b off l'.length none 4,.int .i64 d])=H4
 have hE4:Ext (eqR pr) H H4:=hH4 ▸ (((hX02.trans hX3).newge _).putX (b:=H3.next) _ (.inr (by omega))).putX (b:=pr) _ (.inl rfl)
 have nx4:H4.next=H3.next+1:=by rw [<- hH4];rfl
 have g4:∀ c,c < H3.next->c≠pr->H4.get c=H3.get c:=fun c hc h1=>by rw [<- hH4];simp [Hp.get_put,Hp.get_new,Zp hc,Zi h1]
 have g40:H4.get H.next=some exZ:=by rw [g4 _ (by omega) (by omega)];exact g3
 have g41:H4.get H3.next=some (.row 35 6 false [d0,d1,d2,d3,d4,d5]):=by rw [<- hH4];simp [Hp.get_put,Hp.get_new,o1]
 have hP4:PAt H4 pr l' d:=by
  refine hP3.set hE4.st (by omega) (by rw [<- hH4];exact Zd _ _ _) r2 hP3.ends (by omega) fun c hc=>g4 c (by omega) (by omega)
 simp [s3,r1,o1,o2,o3,o4,hw,Hp.get_put,Hp.get_new,n0,n1,n2,n3,n4,n5,f0,f2,f3,hH4,g40,g41,hE4.st,nx4,g3]
 have g5:∀ c,c < H3.next->c≠pr->c≠H.next->((H4.new (.row 35 6 false [d0,d1,d2,d3,d4,d5])).put H.next (.row 35 6 false [.int .i64 op,.int .i64 0,.str [],.sl (H3.next+1) 0 1 none 6,.nils,.nils])).get c=H3.get c:=fun c hc h1 h2=>by
  rw [Zf _ h2,Z9 _ (by omega),g4 c hc h1]
 refine ⟨_,l',hR.symm,⟨_,rfl,?_⟩,hP4.of_get hE4.st (Nat.le_succ _) fun c hc=>?_,(hE4.newge _).putX _ (.inr (Nat.le_refl _))⟩
 ·have hT':=Zmb (H0:=H) (H':=((H4.new (.row 35 6 false [d0,d1,d2,d3,d4,d5])).put H.next (.row 35 6 false [.int .i64 op,.int .i64 0,.str [],.sl (H3.next+1) 0 1 none 6,.nils,.nils]))) hT (by omega) (by show H3.next<=H4.next+1;omega) fun c h1 h2=>g5 c h2 (by omega) (by omega)
  simp only [Ze]
  refine ⟨_,_,_,rfl,one_at hT' (b:=H3.next+1) (t:=35) (ro:=false) ?_ ⟨by omega,by show _ < H4.next+1;omega⟩ (by show _ < H4.next+1;omega) (fun c hc=>by cases hc),.inl ⟨.inl rfl,rfl⟩,.inl ⟨.inl rfl,rfl⟩⟩
  rw [Zf _ (by omega),<- nx4,Z5]
 ·rw [Zf _ (by omega),Z9 _ (by omega)]
theorem Zwd {f:Nat} (ihU:Zeu f) (ihB:Ziz f):Zeu (f+1):=by
 intro H pr d l hP hne
 have hst:=hP.st
 have hpr:=hP.lt
 refine Yad (Ye _ ?_)
 have hE0:Ext (eqR pr) H (H.new exZ):=Ext.new hst _
 have hP0:PAt (H.new exZ) pr l d:=hP.of_get hE0.st hE0.le fun c hc=>Z9 _ (by omega)
 generalize hR:unaryY (f+1) d l=R at *
 rw [unaryY] at hR
 change wpP tab _ (.seq (.reg Zun) (.seq (.reg Zsc) (.seq (.block 0 (.seq (.reg Zq6) (.cond (.tmp 7) (.reg Zuh) (.seq (.reg Zrg) (.cond (.tmp 10) (.reg Zsq) (.seq (.reg Zr4) (.ret))))))) Yu))) _ _ _
 simp [hst]
 refine WF.rr (Xs hP0 Zmd) ?_
 rintro v H1 ⟨rfl,hP1,hX1⟩
 have s1:=hX1.st
 have l1:H.next+1<=H1.next:=hX1.le
 have hE1:=hE0.trans hX1
 have g1:H1.get H.next=some exZ:=by rw [hX1.get _ (by show H.next < H.next+1;omega) (by show H.next≠pr;omega),Z5]
 cases hk:isK l Zmd with
 | true =>
  rw [hk,if_pos rfl] at hP1 hR
  simp [s1]
  exact Zhn (op:=6) ihU hne hP1 hE1 hpr g1 (by omega) hR (by simp) (by simp) (by simp)
 | false =>
  rw [hk,if_neg (by decide)] at hP1 hR
  simp [s1]
  refine WF.rr (Xs hP1 Zpw) ?_
  rintro v H2 ⟨rfl,hP2,hX2⟩
  have s2:=hX2.st
  have l2:H1.next<=H2.next:=hX2.le
  have hE2:=hE1.trans hX2
  have g2:H2.get H.next=some exZ:=by rw [hX2.get _ (by omega) (by show H.next≠pr;omega)];exact g1
  cases hb:isK l Zpw with
  | true =>
   rw [hb,if_pos rfl] at hP2 hR
   simp [s2]
   exact Zhn (op:=7) ihU hne hP2 hE2 hpr g2 (by omega) hR (by simp) (by simp) (by simp)
  | false =>
   rw [hb,if_neg (by decide)] at hP2 hR
   simp [s2]
   refine (ihB H2 pr d l R hP2 hR hne).mono ?_ (PanP.ext hE2)
   rintro v H3 ⟨e,l',hr,⟨cs,rfl,hT⟩,hP3,hX3⟩
   obtain ⟨d0,d1,d2,d3,d4,d5,rfl,n0,n1,n2,n3,n4,n5⟩:=hT.six
   have s3:=hX3.st
   have l3:H2.next<=H3.next:=hX3.le
   have g3:H3.get H.next=some exZ:=by rw [hX3.get _ (by omega) (by show H.next≠pr;omega)];exact g2
   simp [s3,g3,n0,n1,n2,n3,n4,n5]
   obtain ⟨a1,a2,a3⟩:=fin1 (r0:=H.next) (o:=.row 35 6 false [d0,d1,d2,d3,d4,d5]) hP3 hT (hE2.trans hX3) (Nat.le_refl _) hpr (by omega) (by omega)
   exact ⟨e,l',hr,a1,a2,a3⟩
end Go.AM.YtlillgmgpmbfnaaGreatDoorT
set_option maxRecDepth 100000
namespace Go.AM.YtlillgmgpmbfnaaGreatDoorT
open Go Go.AM Go.Proofs
theorem Zfp {H0 H H1:Hp} {pr:Nat} {R:Nat->Prop} {e:TypeId} {v:V} {ts:List Tx} (h:Gro H0 H R e v ts) (hp:pr < H0.next) (hE:Ext (eqR pr) H H1):Gro H0 H1 R e v ts :=
 h.of_get hE.st hE.le fun b h1 h2 _=>hE.get b h2 (by show b≠pr;omega)
structure Ili (R:PR (List Tx)) (H0:Hp) (pr d f L k:Nat) (F:Fr) (H:Hp):Prop where
 kf:k<=f
 y:∃ ts l v,listY k d ts l=R/\PAt H pr l d/\Gro H0 H noX 35 v ts/\F.get 5=some v/\ts.length+l.length<=L
 ext:Ext (eqR pr) H0 H
 hp:pr < H0.next
 f0:F.get 0=some (.ptr pr 0)
 f1:F.get 1=some (.str sRp)
def Yl:SCode:=.reg Zu4
theorem Zry {R:PR (List Tx)} (hR:R≠.out) {f:Nat} (ih:∀ k,k < f->Xj k) {H0 H:Hp} {pr d L k:Nat} (hL:L<=100000) (hk:k < f) {ts:List Tx} {l:List Tk} {v:V} {F:Fr} {Q:PC} (hY:((Zu k d l).bind fun e l=>listY k d (ts++[e]) l)=R) (hP:PAt H pr l d) (hG:Gro H0 H noX 35 v ts) (hl:ts.length+l.length<=L)
  (hE:Ext (eqR pr) H0 H) (hp:pr < H0.next) (f0:F.get 0=some (.ptr pr 0)) (f1:F.get 1=some (.str sRp)) (f5:F.get 5=some v) (hQ:∀ F' H',Ili R H0 pr d f L k F' H'->Q .nrm F' H'):wpP tab (PanP pr R H0) Yl F H Q:=by
 have hst:=hE.st
 simp [Yl,f0,f1,f5,hst]
 refine (ih k hk H pr d l hP (Yp hY hR)).mono ?_ (PanP.up hY hE)
 rintro w H2 ⟨e,l2,hr,⟨cs,rfl,hT2⟩,hP2,hX2⟩
 rw [hr,Zn] at hY
 obtain ⟨d0,d1,d2,d3,d4,d5,rfl,n0,n1,n2,n3,n4,n5⟩:=hT2.six
 have s2:=hX2.st
 have l2':=hX2.le
 have hle:=hE.le
 have hlt2:=Zdf hr
 obtain ⟨lc,hsl,hel⟩:=hG.sl
 have hrows:=hG.rows
 have hsl2:SlAt H2 35 6 v ts.length lc:=hsl.of_get fun b hb=>by
  have:=hrows b hb
  exact hX2.get b this.2.1 (by show b≠pr;omega)
 simp [s2,f5,n0,n1,n2,n3,n4,n5]
 refine Zjs (H:=H2) (e0:=35) (cells:=[d0,d1,d2,d3,d4,d5]) (by simp [Zb]) ty35 (by decide) (by simp [f5]) (by simp) hsl2 (fun b hb=>⟨by have:=(hrows b hb).2.1;omega,by simp [s2]⟩) rfl (by show (ts.length+1)*104<=_;omega) (by omega) (by simp [s2]) fun v' H3 hS hA=>?_
 simp
 have hnx:=hA.le
 obtain ⟨G4,keep,st1⟩:=hG.step (H4:=H3.flush) (X:=eqR pr) hsl hel (fun b hb=>hb.elim) hX2 (fun b hb _=>by show b≠pr;omega) hT2 hS (.inl rfl) hA (by simp) (by simp) (fun b _=>rfl)
 have hvn:∀ b,b < H0.next->b∉Za v:=fun b hb h=>by have:=(hrows b h).1;omega
 refine hQ _ _ ⟨by omega,⟨_,l2,v',hY,hP2.of_get (by simp) (by simp;omega) fun c hc=>keep c (by omega) (fun h=>h) (hvn c (by omega)),G4,by simp,by simp;omega⟩,⟨by simp,G4.le,fun b hb hx=>?_⟩,hp,by simp [f0],by simp [f1]⟩
 rw [keep b (by omega) (fun h=>h) (hvn b hb),hX2.get b (by omega) hx]
 exact hE.get b hb hx
theorem Zob {f:Nat} (ih:∀ k,k < f->Xj k):Zkp f:=by
 intro H0 pr d l hP hne
 have hst:=hP.st
 have hpr:=hP.lt
 generalize hR:listY f d [] l=R at *
 refine Yb2 (Ye _ ?_)
 simp [hst]
 have hL:=hP.ends.2
 refine Ug (Ili R H0 pr d f l.length) (m:=f) ⟨Nat.le_refl _,⟨[],l,.nils,hR,hP,Gro.nil hst (Nat.le_refl _),by simp,by simp⟩,Ext.refl hst,hpr,by simp,by simp⟩ ?_
 rintro k F H I
 obtain ⟨ts,l1,v,hY,hP1,hG,f5,hlen⟩:=I.y
 have f0:=I.f0;have f1:=I.f1;have hkf:=I.kf;have hX1:=I.ext
 have s1:=hX1.st
 cases k with
 | zero=>rw [listY] at hY;exact absurd hY.symm hne
 | succ k =>
 rw [listY] at hY
 change wpP tab _ (.seq (.seq (.reg Ztu) (.cond (.tmp 9) (.skip) (.exit 0))) (.block 1 (.seq (.seq (.reg Zqs) (.cond (.tmp 12) (.reg Ztq) (.skip))) Yl))) _ _ _
 simp [f0,f1,s1]
 refine WF.rr (Xs hP1 sRp) ?_
 rintro w H2 ⟨rfl,hP2,hX2⟩
 have s2:=hX2.st
 have hX02:=hX1.trans hX2
 have hG2:=Zfp hG hpr hX2
 cases hk:isK l1 sRp with
 | true =>
  rw [hk,if_pos rfl] at hP2 hY
  simp [s2,f5]
  exact ⟨ts,l1.tail,hY.symm,hG2.trees (fun b h1 h2 _=>⟨⟨h1,h2⟩,rfl⟩) (Nat.le_refl _),hP2,hX02⟩
 | false =>
  rw [hk,if_neg (by decide)] at hP2 hY
  obtain ⟨lc,hsl,hel⟩:=hG2.sl
  have hlv:=hsl.lenV 35
  have hdone:∀ {H3:Hp} {l3:List Tk} {F' : Fr} {Q:PC},((Zu k d l3).bind fun e l=>listY k d (ts++[e]) l)=R->PAt H3 pr l3 d->Ext (eqR pr) H2 H3->ts.length+l3.length<=l.length->F'.get 0=some (.ptr pr 0)->F'.get 1=some (.str sRp)->F'.get 5=some v->(∀ F' H',Ili R H0 pr d f l.length k F' H'->Q .nrm F' H')->wpP tab (PanP pr R H0) Yl F' H3 Q:=fun h1 h2 h3 h4 h5 h6 h7 h8 =>
   Zry hne ih hL (by omega) h1 h2 (Zfp hG2 hpr h3) h4 (hX02.trans h3) hpr h5 h6 h7 h8
  by_cases he:ts=[]
  ·subst he
   rw [List.isEmpty_nil,W5,if_pos rfl,Zn] at hY
   simp [s2,f5,hlv]
   refine hdone hY hP2 (Ext.refl s2) hlen (by simp [f0]) (by simp [f1]) (by simp [f5]) fun F' H' h=>⟨k,by omega,h⟩
  ·have hpos:0 < ts.length:=List.length_pos_iff.2 he
   have hpos' : (0:Int) < (ts.length:Int):=by omega
   rw [List.isEmpty_eq_false_iff.2 he,W5,if_neg (by decide)] at hY
   simp [s2,f5,hlv,hpos,hpos',f0]
   refine (Xt hP2 Zh0).mono ?_ (PanP.up hY hX02)
   rintro w H3 ⟨u,l3,hr,_,hP3,hX3⟩
   rw [hr,Zn] at hY
   have:=Un hr
   simp [hX3.st]
   refine hdone hY hP3 hX3 (by omega) (by simp [f0]) (by simp [f1]) (by simp [f5]) fun F' H' h=>⟨k,by omega,h⟩
structure Ibl (R:PR (List Tx)) (H0:Hp) (pr d f L k:Nat) (F:Fr) (H:Hp):Prop where
 kf:k<=f
 y:∃ ts l v,stmtsY k d ts l=R/\PAt H pr l d/\Gro H0 H noX 30 v ts/\F.get 3=some v/\ts.length+l.length<=L
 ext:Ext (eqR pr) H0 H
 hp:pr < H0.next
 f0:F.get 0=some (.ptr pr 0)
theorem Zwi {f:Nat} (ih:∀ k,k < f->Zko k):U2 (f+1):=by
 intro H0 pr d l hP hne
 have hst:=hP.st
 have hpr:=hP.lt
 generalize hR:blockY (f+1) d l=R at *
 rw [blockY] at hR
 refine wr80 (Ye _ ?_)
 simp [hst]
 refine (Xt hP sLc).mono ?_ (PanP.up hR (Ext.refl hst))
 rintro w H1 ⟨u,l1,hr,_,hP1,hX1⟩
 rw [hr,Zn] at hR
 have hlm:=Un hr
 simp [hX1.st]
 refine (Zi1 hP1).mono ?_ ?_
 rotate_left
 ·rintro v H2 ⟨rfl,rfl,hX⟩
  exact ⟨_,_,by rw [<- hR,if_pos rfl],rfl,hX1.trans hX⟩
 rintro v H2 ⟨hd,hP2,hX2⟩
 rw [if_neg (by omega)] at hR
 have hX02:=hX1.trans hX2
 simp [hX2.st]
 have hL:=hP.ends.2
 refine Ug (Ibl R H0 pr (d+1) f l.length) (m:=f) ⟨Nat.le_refl _,⟨[],l1,.nils,hR,hP2,Gro.nil hX02.st hX02.le,by simp,by simp;omega⟩,hX02,hpr,by simp⟩ ?_
 rintro k F H I
 obtain ⟨ts,l3,v,hY,hP3,hG,f3,hlen⟩:=I.y
 have f0:=I.f0;have hkf:=I.kf;have hX3:=I.ext
 have s3:=hX3.st
 cases k with
 | zero=>rw [stmtsY] at hY;exact absurd hY.symm hne
 | succ k =>
 rw [stmtsY] at hY
 simp [Zxz,f0,s3]
 refine WF.rr (Xs hP3 sRc) ?_
 rintro w H4 ⟨rfl,hP4,hX4⟩
 have s4:=hX4.st
 have hX04:=hX3.trans hX4
 have hG4:=Zfp hG hpr hX4
 have hle4:=hX04.le
 have hp4:=hP4.lt
 cases hk:isK l3 sRc with
 | true =>
  rw [hk,if_pos rfl] at hP4 hY
  obtain ⟨v',r1,r2⟩:=hP4.row
  obtain ⟨b,off,e',ro,cells,rfl,_⟩:=r2.head hP4.ends
  have hw:wr .i64 (d:Int)=(d:Int):=Wf (by omega) (by omega)
  simp [s4,f3,f0,r1,hw]
  have old:∀ c,c≠pr->(H4.put pr (.row 92 2 false [.sl b off l3.tail.length none 4,.int .i64 d])).get c=H4.get c:=fun c hc=>Zf _ hc
  simp at old
  refine ⟨ts,l3.tail,hY.symm,hG4.trees (fun b h1 h2 _=>⟨⟨h1,h2⟩,old b (by omega)⟩) (Nat.le_refl _),hP4.set s4 (Nat.le_refl _) (Zd _ _ _) (by simpa using r2) hP4.ends (by omega) fun c hc=>old c (by omega),hX04.putX _ (.inl rfl)⟩
 | false =>
  rw [hk,if_neg (by decide)] at hP4 hY
  simp [s4,f3,f0]
  refine (ih k (by omega) H4 pr (d+1) l3 hP4 (Yp hY hne)).mono ?_ (PanP.up hY hX04)
  rintro w H5 ⟨e,l5,hr,⟨cs,rfl,hT2⟩,hP5,hX5⟩
  rw [hr,Zn] at hY
  obtain ⟨d0,d1,d2,d3,d4,d5,rfl,n0,n1,n2,n3,n4,n5⟩:=hT2.six
  have s5:=hX5.st
  have l5':=hX5.le
  have hlt2:=Zoj hr
  obtain ⟨lc,hsl,hel⟩:=hG4.sl
  have hrows:=hG4.rows
  have hsl2:SlAt H5 30 6 v ts.length lc:=hsl.of_get fun b hb=>by
   have:=hrows b hb
   exact hX5.get b this.2.1 (by show b≠pr;omega)
  simp [s5,f3,n0,n1,n2,n3,n4,n5]
  refine Zjs (H:=H5) (e0:=30) (cells:=[d0,d1,d2,d3,d4,d5]) (by simp [Zb]) ty30 (by decide) (by simp [f3]) (by simp) hsl2 (fun b hb=>⟨by have:=(hrows b hb).2.1;omega,by simp [s5]⟩) rfl (by show (ts.length+1)*104<=_;omega) (by omega) (by simp [s5]) fun v' H6 hS hA=>?_
  simp
  have hnx:=hA.le
  obtain ⟨G6,keep,st1⟩:=hG4.step (H4:=H6.flush) (X:=eqR pr) hsl hel (fun b hb=>hb.elim) hX5 (fun b hb _=>by show b≠pr;omega) hT2 hS (.inl rfl) hA (by simp) (by simp) (fun b _=>rfl)
  have hvn:∀ b,b < H0.next->b∉Za v:=fun b hb h=>by have:=(hrows b h).1;omega
  refine ⟨k,by omega,by omega,⟨_,l5,v',hY,hP5.of_get (by simp) (by simp;omega) fun c hc=>keep c (by omega) (fun h=>h) (hvn c (by omega)),G6,by simp,by simp;omega⟩,⟨by simp,G6.le,fun b hb hx=>?_⟩,hpr,by simp [f0]⟩
  rw [keep b (by omega) (fun h=>h) (hvn b hb),hX5.get b (by omega) hx]
  exact hX04.get b hb hx
end Go.AM.YtlillgmgpmbfnaaGreatDoorT
set_option maxRecDepth 100000
namespace Go.AM.YtlillgmgpmbfnaaGreatDoorT
open Go Go.AM Go.Proofs
theorem Zoi {H0 H H2:Hp} {pr r0 r1 d:Nat} {l2:List Tk} {e y:Tx} {K2:Nat->Prop} {d0 d1 d2 d3 d4 d5 e0 e1 e2 e3 e4 e5:V} (op:Nat) (hT:Ze (Kt H0 r0 r1) H e [d0,d1,d2,d3,d4,d5]) (hX:Ext (eqR pr) H H2) (hE2:Ext (eqR pr) H0 H2) (hT2:Ze K2 H2 y [e0,e1,e2,e3,e4,e5]) (hK2:∀ b,K2 b->b < H2.next->Kt H0 r0 r1 b) (hP2:PAt H2 pr l2 d)
  (hp:pr < H0.next) (hr0:H0.next<=r0) (hr1:r0 < r1) (hr2:r1 < H2.next) {H4:Hp} (hH4:((H2.bump.new (.row 35 6 false [d0,d1,d2,d3,d4,d5,e0,e1,e2,e3,e4,e5])).put r1 (.row 35 6 false [.int .i64 op,.int .i64 0,.str [],.sl (H2.next+1) 0 2 none 6,.nils,.nils])).bump=H4) :
  Ext (eqR pr) H0 H4/\H4.next=H2.next+3/\(∀ c,c < H2.next->c≠r1->H4.get c=H2.get c)/\H4.get r1=some (.row 35 6 false [.int .i64 op,.int .i64 0,.str [],.sl (H2.next+1) 0 2 none 6,.nils,.nils]) /\
   Ze (Kt H0 r0 r1) H4 (.ex op 0 [] [e,y] [] []) [.int .i64 op,.int .i64 0,.str [],.sl (H2.next+1) 0 2 none 6,.nils,.nils]/\PAt H4 pr l2 d:=by
 have u1:=Zi (show r1≠H2.next+1 by omega)
 have l02:=hE2.le
 have l2':=hX.le
 have hE4:Ext (eqR pr) H0 H4:=hH4 ▸ (((hE2.bump).newge _).putX (b:=r1) _ (.inr (by omega))).bump
 have nx4:H4.next=H2.next+3:=by rw [<- hH4];rfl
 have g4:∀ c,c < H2.next->c≠r1->H4.get c=H2.get c:=fun c hc h1=>by
  have u2:=Zi (show c≠H2.next+1 by omega)
  rw [<- hH4];simp [Hp.get_put,Hp.get_new,Zi h1,u2]
 have g42:H4.get (H2.next+1)=some (.row 35 6 false [d0,d1,d2,d3,d4,d5,e0,e1,e2,e3,e4,e5]):=by rw [<- hH4];simp [Hp.get_put,Hp.get_new,u1]
 refine ⟨hE4,nx4,g4,by rw [<- hH4];exact Zd _ _ _,?_,hP2.of_get hE4.st (by omega) fun c hc=>g4 c (by have:=hP2.lt;omega) (by omega)⟩
 refine Zul (Ze.mono ⟨fun c hc _=>hc,fun c hc hx=>?_,by omega⟩ _ _ hT) (Ze.mono ⟨fun c hc hx=>hK2 c hc hx,fun c hc hx=>g4 c hx (hK2 c hc hx).2.2,by omega⟩ _ _ hT2) g42 ⟨by omega,by omega,by omega⟩ (by omega) (fun c hc=>by cases hc) _ _ _
 have h1:=hc.1;have h2:=hc.2.1;have h3:=hc.2.2
 rw [g4 c (by omega) h3,hX.get c (by omega) (by show c≠pr;omega)]
theorem Zj6 {T:Tab} {P:V->Hp->Prop} {t t' e:TypeId} {i:TI} {xs ys:Operand} {F:Fr} {H:Hp} {s x:V} {n k:Nat} {news l:List V} {d:Option Tmp} {r:List (SOp×Nat)} {B:List Hp} {Q:PL} (hd:Zb T t=some (.slice e)) (hi:T.ty e=some i) (hx:opd T.ng F xs=some s) (hy:opd T.ng F ys=some x)
  (hs:SlAt H e i.size s n l) (ht:Wj T H.get t t' e i.size x=some (0,news)) (h:wpDP T P r (putD F d s) H.bump (H :: B) Q):opDP T P (.call ⟨.builtin .append,#[xs,ys],#[t,t']⟩) k d r F H B Q .a:=by
 have ho:opds T.ng F (#[xs,ys]:Array Operand).toList=some [s,x]:=by simp only [opds,hx,hy]
 have he:evA T (.call ⟨.builtin .append,#[xs,ys],#[t,t']⟩) F H.get H.next=some (s,none,none):=by
  cases hs<;>simp only [evA,ho,hd,hi,ht]
 show dAP T P _ k d r F H B Q true (evA T (.call ⟨.builtin .append,#[xs,ys],#[t,t']⟩) F H.get H.next)
 rw [he]
 exact ⟨rfl,h⟩
theorem Ji {K:Nat->Prop} {H:Hp}:∀ (l r:List Tx) (cs ds:List V),cs.length=l.length*6->ElsAt K H l cs->ElsAt K H r ds->ElsAt K H (l++r) (cs++ds)
 | [],r,cs,ds,hl,h1,h2=>by
  have:cs=[]:=List.eq_nil_of_length_eq_zero (by simpa using hl)
  subst this
  exact h2
 | x :: l,r,cs,ds,hl,h1,h2=>by
  simp only [List.length_cons] at hl
  simp only [ElsAt] at h1
  simp only [List.cons_append,ElsAt]
  refine ⟨by rw [List.take_append_of_le_length (by omega)];exact h1.1,?_⟩
  rw [List.drop_append_of_le_length (by omega)]
  exact Ji l r _ ds (by rw [List.length_drop];omega) h1.2 h2
theorem Zhe {K:Nat->Prop} {H:Hp} {l:List Tx} {v:V} (h:Zk K H l v):∃ cs,Xd H.get 6 v=some (l.length,cs)/\cs.length=l.length*6/\ElsAt K H l cs/\(∀ b∈Za v,K b/\b < H.next):=by
 rcases h with ⟨h1,h0⟩ | ⟨b,off,cap,e,ro,cells,rfl,g1,g2,g3,g4,g5,g6,g7⟩
 ·have:l=[]:=List.eq_nil_of_length_eq_zero h0
  subst this
  rcases h1 with rfl | rfl
  ·exact ⟨[],rfl,rfl,trivial,by simp [Za]⟩
  ·exact ⟨[],rfl,rfl,trivial,by simp [Za]⟩
 ·refine ⟨(cells.drop off).take (l.length*6),?_,by simp;omega,(ElsAt.take (Nat.le_refl _) (by simp;omega)).1 g6,fun b' hb=>by simp [Za] at hb;subst hb;exact ⟨g2,g3⟩⟩
  simp only [Xd,g1]
  rw [if_pos ⟨by trivial,g5⟩]
structure Ipo (R:PR Tx) (H0:Hp) (pr d r0 r1 f k:Nat) (F:Fr) (H:Hp):Prop where
 kf:k<=f
 y:∃ e l cs,postY k d e l=R/\PAt H pr l d/\H.get r1=some (.row 35 6 false cs)/\Ze (Kt H0 r0 r1) H e cs
 row:H.get r0=some exZ
 ext:Ext (eqR pr) H0 H
 hp:pr < H0.next
 hr0:H0.next<=r0
 hr1:r0 < r1
 hr2:r1 < H.next
 f0:F.get 0=some (.ptr pr 0)
 f2:F.get 2=some (.ptr r0 0)
 f3:F.get 3=some (.ptr r1 0)
def Yb4:SCode:=.dreg Zqv
def Yb6:SCode:=.seq (.dreg Zqy) (.reg Zsj)
def Yb9:SCode:=.dreg Zuk
section
variable {R:PR Tx} {H0 H H1:Hp} {pr d r0 r1 f k:Nat} {l:List Tk} {e:Tx} {ds:List V} {F:Fr} {Q:PC}
theorem Zvt (hR:R≠.out) (hY:((Wd l).bind fun s l=>postY k d (.ex 14 0 [] [e,.ex 4 0 s [] [] []] [] []) l)=R) (hkf:k<=f) (hrow:H.get r1=some (.row 35 6 false ds)) (hT:Ze (Kt H0 r0 r1) H e ds) (hz:H.get r0=some exZ) (hX:Ext (eqR pr) H0 H) (hX1:Ext (eqR pr) H H1) (hP1:PAt H1 pr l d)
  (hp:pr < H0.next) (hr0:H0.next<=r0) (hr1:r0 < r1) (hr2:r1 < H.next) (f0:F.get 0=some (.ptr pr 0)) (f2:F.get 2=some (.ptr r0 0)) (f3:F.get 3=some (.ptr r1 0)) (hQ:∀ F' H',Ipo R H0 pr d r0 r1 f k F' H'->Q .nrm F' H'):wpP tab (PanP pr R H0) Yb9 F H1 Q:=by
 have s1:=hX1.st
 obtain ⟨d0,d1,d2,d3,d4,d5,rfl,n0,n1,n2,n3,n4,n5⟩:=hT.six
 have hX01:=hX.trans hX1
 have heq:=Jf hT
 have l1':=hX1.le
 have k1' : H1.get r1=some (.row 35 6 false [d0,d1,d2,d3,d4,d5]):=by rw [hX1.get r1 hr2 (by show r1≠pr;omega)];exact hrow
 simp [Yb9,f0,f2,f3,s1]
 refine (Jw hP1).mono ?_ ?_
 rotate_left
 ·rintro v H2 ⟨pa,pe,q3,rfl,hX2⟩
  have s2:=hX2.st
  have k1:H2.get r1=some (.row 35 6 false [d0,d1,d2,d3,d4,d5]):=by rw [hX2.get r1 (by omega) (by show r1≠pr;omega)];exact k1'
  simp [Jm,f0,f2,f3,s2,k1,k1',heq]
  exact PanP.up hY hX01 _ _ ⟨pa,pe,q3,rfl,hX2.upto (Nat.le_succ _)⟩
 rintro w H2 ⟨s,l2,hr,rfl,hP2,hX2⟩
 rw [hr,Zn] at hY
 have s2:=hX2.st
 have l2':=hX2.le
 have k1:H2.get r1=some (.row 35 6 false [d0,d1,d2,d3,d4,d5]):=by rw [hX2.get r1 (by omega) (by show r1≠pr;omega)];exact k1'
 have u1:=Zi (show r1≠H2.next+1 by omega)
 generalize hH4:((H2.bump.new (.row 35 6 false [d0,d1,d2,d3,d4,d5,.int .i64 (4:Nat),.int .i64 0,.str s,.nils,.nils,.nils])).put r1 (.row 35 6 false [.int .i64 (14:Nat),.int .i64 0,.str [],.sl (H2.next+1) 0 2 none 6,.nils,.nils])).bump=H4
 have hN:Ze (fun _=>False) H2 (.ex 4 0 s [] [] []) [.int .i64 (4:Nat),.int .i64 0,.str s,.nils,.nils,.nils]:=by
  simp only [Ze]
  exact ⟨_,_,_,rfl,.inl ⟨.inl rfl,rfl⟩,.inl ⟨.inl rfl,rfl⟩,.inl ⟨.inl rfl,rfl⟩⟩
 obtain ⟨hE4,nx4,g4,g41,hT4,hP4⟩:=Zoi 14 hT (hX1.trans hX2) (hX01.trans hX2) hN (fun b hb _=>hb.elim) hP2 hp hr0 hr1 (by omega) hH4
 simp at hH4
 simp [s2,k1,k1',heq,u1,f0,f2,f3,Hp.get_put,Hp.get_new,n0,n1,n2,n3,n4,n5,hH4,hE4.st]
 refine hQ _ _ ⟨hkf,⟨_,l2,_,hY,hP4,g41,hT4⟩,?_,hE4,hp,hr0,hr1,by omega,by simp [f0],by simp [f2],by simp [f3]⟩
 rw [g4 r0 (by omega) (by omega),hX2.get r0 (by omega) (by show r0≠pr;omega),hX1.get r0 (by omega) (by show r0≠pr;omega)]
 exact hz
theorem Zvr (ih:Xj k) (hR:R≠.out) (hY:((Zu k d l).bind fun y l=>(Yf sRb l).bind fun _ l=>postY k d (.ex 14 0 [] [e,y] [] []) l)=R) (hkf:k<=f) (hrow:H.get r1=some (.row 35 6 false ds)) (hT:Ze (Kt H0 r0 r1) H e ds) (hz:H.get r0=some exZ) (hX:Ext (eqR pr) H0 H) (hX1:Ext (eqR pr) H H1) (hP1:PAt H1 pr l d)
  (hp:pr < H0.next) (hr0:H0.next<=r0) (hr1:r0 < r1) (hr2:r1 < H.next) (f0:F.get 0=some (.ptr pr 0)) (f2:F.get 2=some (.ptr r0 0)) (f3:F.get 3=some (.ptr r1 0)) (hQ:∀ F' H',Ipo R H0 pr d r0 r1 f k F' H'->Q .nrm F' H'):wpP tab (PanP pr R H0) Yb6 F H1 Q:=by
 have s1:=hX1.st
 obtain ⟨d0,d1,d2,d3,d4,d5,rfl,n0,n1,n2,n3,n4,n5⟩:=hT.six
 have hX01:=hX.trans hX1
 have heq:=Jf hT
 have l0:=hX.le
 have l1':=hX1.le
 have k1' : H1.get r1=some (.row 35 6 false [d0,d1,d2,d3,d4,d5]):=by rw [hX1.get r1 hr2 (by show r1≠pr;omega)];exact hrow
 simp [Yb6,f0,f2,f3,s1]
 refine (ih H1 pr d l hP1 (Yp hY hR)).mono ?_ ?_
 rotate_left
 ·rintro v H2 ⟨pa,pe,q3,rfl,hX2⟩
  have s2:=hX2.st
  have k1:H2.get r1=some (.row 35 6 false [d0,d1,d2,d3,d4,d5]):=by rw [hX2.get r1 (by omega) (by show r1≠pr;omega)];exact k1'
  simp [Jm,f0,f2,f3,s2,k1,k1',heq]
  exact PanP.up hY hX01 _ _ ⟨pa,pe,q3,rfl,hX2.upto (Nat.le_succ _)⟩
 rintro w H2 ⟨y,l2,hr,⟨es,rfl,hT2⟩,hP2,hX2⟩
 rw [hr,Zn] at hY
 obtain ⟨e0,e1,e2,e3,e4,e5,rfl,p0,p1,p2,p3,p4,p5⟩:=hT2.six
 have s2:=hX2.st
 have l2':=hX2.le
 have k1:H2.get r1=some (.row 35 6 false [d0,d1,d2,d3,d4,d5]):=by rw [hX2.get r1 (by omega) (by show r1≠pr;omega)];exact k1'
 have u1:=Zi (show r1≠H2.next+1 by omega)
 generalize hH4:((H2.bump.new (.row 35 6 false [d0,d1,d2,d3,d4,d5,e0,e1,e2,e3,e4,e5])).put r1 (.row 35 6 false [.int .i64 (14:Nat),.int .i64 0,.str [],.sl (H2.next+1) 0 2 none 6,.nils,.nils])).bump=H4
 obtain ⟨hE4,nx4,g4,g41,hT4,hP4⟩:=Zoi 14 hT (hX1.trans hX2) (hX01.trans hX2) hT2 (fun b hb _=>⟨by have:=hb.1;omega,by have:=hb.1;omega,by have:=hb.1;omega⟩) hP2 hp hr0 hr1 (by omega) hH4
 simp at hH4
 simp [s2,k1,k1',heq,u1,f0,f2,f3,Hp.get_put,Hp.get_new,n0,n1,n2,n3,n4,n5,p0,p1,p2,p3,p4,p5,hH4,hE4.st]
 refine (Xt hP4 sRb).mono ?_ (PanP.up hY hE4)
 rintro w H5 ⟨u,l5,hr5,_,hP5,hX5⟩
 rw [hr5,Zn] at hY
 have l5':=hX5.le
 simp [hX5.st]
 refine hQ _ _ ⟨hkf,⟨_,l5,_,hY,hP5,by rw [hX5.get r1 (by omega) (by show r1≠pr;omega)];exact g41,Ze.mono ⟨fun c hc _=>hc,fun c hc hx=>hX5.get c hx (by have:=hc.1;show c≠pr;omega),l5'⟩ _ _ hT4⟩,?_,hE4.trans hX5,hp,hr0,hr1,by omega,by simp [f0],by simp [f2],by simp [f3]⟩
 rw [hX5.get r0 (by omega) (by show r0≠pr;omega),g4 r0 (by omega) (by omega),hX2.get r0 (by omega) (by show r0≠pr;omega),hX1.get r0 (by omega) (by show r0≠pr;omega)]
 exact hz
theorem Zw9 (ih:Zkp k) (hR:R≠.out) (hY:((listY k d [] l).bind fun a l=>postY k d (.ex 15 0 [] (e :: a) [] []) l)=R) (hkf:k<=f) (hrow:H.get r1=some (.row 35 6 false ds)) (hT:Ze (Kt H0 r0 r1) H e ds) (hz:H.get r0=some exZ) (hX:Ext (eqR pr) H0 H) (hX1:Ext (eqR pr) H H1) (hP1:PAt H1 pr l d)
  (hp:pr < H0.next) (hr0:H0.next<=r0) (hr1:r0 < r1) (hr2:r1 < H.next) (f0:F.get 0=some (.ptr pr 0)) (f2:F.get 2=some (.ptr r0 0)) (f3:F.get 3=some (.ptr r1 0)) (hQ:∀ F' H',Ipo R H0 pr d r0 r1 f k F' H'->Q .nrm F' H'):wpP tab (PanP pr R H0) Yb4 F H1 Q:=by
 have s1:=hX1.st
 obtain ⟨d0,d1,d2,d3,d4,d5,rfl,n0,n1,n2,n3,n4,n5⟩:=hT.six
 have hX01:=hX.trans hX1
 have heq:=Jf hT
 have l0:=hX.le
 have l1':=hX1.le
 have k1' : H1.get r1=some (.row 35 6 false [d0,d1,d2,d3,d4,d5]):=by rw [hX1.get r1 hr2 (by show r1≠pr;omega)];exact hrow
 simp [Yb4,f0,f2,f3,s1]
 refine (ih H1 pr d l hP1 (Yp hY hR)).mono ?_ ?_
 rotate_left
 ·rintro v H2 ⟨pa,pe,q3,rfl,hX2⟩
  have s2:=hX2.st
  have k1:H2.get r1=some (.row 35 6 false [d0,d1,d2,d3,d4,d5]):=by rw [hX2.get r1 (by omega) (by show r1≠pr;omega)];exact k1'
  simp [Jm,f0,f2,f3,s2,k1,k1',heq,n0,n1,n2,n3,n4,n5]
  exact PanP.up hY hX01 _ _ ⟨pa,pe,q3,rfl,hX2.upto (show H2.next<=H2.next+1+1 by omega)⟩
 rintro w H2 ⟨a,l2,hr,hT2,hP2,hX2⟩
 have hll:=Zln _ _ _ _ hr
 rw [List.length_nil,Nat.zero_add] at hll
 rw [hr,Zn] at hY
 have hen:=hP1.ends.2
 have s2:=hX2.st
 have l2':=hX2.le
 have k1:H2.get r1=some (.row 35 6 false [d0,d1,d2,d3,d4,d5]):=by rw [hX2.get r1 (by omega) (by show r1≠pr;omega)];exact k1'
 obtain ⟨es,tk1,tk2,tk3,tk4⟩:=Zhe hT2
 simp [s2,k1,k1',heq,f0,f2,f3,Hp.get_put,Hp.get_new,n0,n1,n2,n3,n4,n5]
 generalize hH3:H2.bump.new (.row 35 6 false [d0,d1,d2,d3,d4,d5])=H3
 have nx3:H3.next=H2.next+2:=by rw [<- hH3];rfl
 have s3:H3.stale=[]:=by rw [<- hH3];exact s2
 have g3:∀ c,c < H2.next->H3.get c=H2.get c:=fun c hc=>by rw [<- hH3];exact Z9 _ (by show c≠H2.next+1;omega)
 have g33:H3.get (H2.next+1)=some (.row 35 6 false [d0,d1,d2,d3,d4,d5]):=by rw [<- hH3];exact Z5 _ _
 have hX3:Ext (eqR pr) H0 H3:=hH3 ▸ ((hX01.trans hX2).bump).newge _
 have hS0:SlAt H3 35 6 (.sl (H2.next+1) 0 1 none 6) 1 [d0,d1,d2,d3,d4,d5]:=SlAt.row (H2.next+1) 1 _ g33 (by simp)
 have tk1' : Xd H3.get 6 w=some (a.length,es):=Zer tk1 fun b hb=>g3 b (tk4 b hb).2
 have k3:H3.get r1=some (.row 35 6 false [d0,d1,d2,d3,d4,d5]):=by rw [g3 r1 (by omega)];exact k1
 have kz:H3.get r0=some exZ:=by rw [g3 r0 (by omega),hX2.get r0 (by omega) (by show r0≠pr;omega),hX1.get r0 (by omega) (by show r0≠pr;omega)];exact hz
 have fin:∀ (F' : Fr) (H5 H6:Hp) (s' : V),SlAt H5 35 6 s' (1+a.length) ([d0,d1,d2,d3,d4,d5]++es)->(∀ b∈Za s',H2.next<=b/\b < H5.next)->H5.stale=[]->H3.next<=H5.next->(∀ c,c < H2.next->H5.get c=H2.get c)->(H5.put r1 (.row 35 6 false [.int .i64 (15:Nat),.int .i64 0,.str [],s',.nils,.nils])).bump=H6->F'.get 0=some (.ptr pr 0)->F'.get 2=some (.ptr r0 0)->F'.get 3=some (.ptr r1 0)->Q .nrm F' H6:=fun F' H5 H6 s' hS hrw s5 hn5 g5 hH6 f0' f2' f3'=>by
  have g6:∀ c,c≠r1->H6.get c=H5.get c:=fun c hc=>by rw [<- hH6];exact Zf _ hc
  have nx6:H6.next=H5.next+1:=by rw [<- hH6];rfl
  have s6:H6.stale=[]:=by rw [<- hH6];exact s5
  have hE6:Ext (eqR pr) H0 H6:=⟨s6,by have:=hX3.le;omega,fun c hc hx=>by
   have:=hX3.le
   rw [g6 c (by omega),g5 c (by omega)]
   exact (hX01.trans hX2).get c hc hx⟩
  refine hQ _ _ ⟨hkf,⟨_,l2,_,hY,hP2.of_get s6 (by omega) fun c hc=>?_,by rw [<- hH6];exact Zd _ _ _,?_⟩,?_,hE6,hp,hr0,hr1,by omega,f0',f2',f3'⟩
  ·have:=hP2.lt
   rw [g6 c (by omega),g5 c (by omega)]
  ·simp only [Ze]
   refine ⟨_,_,_,rfl,Zk.of_slAt (e:=35) (ts:=e :: a) (hS.of_get fun b hb=>g6 b (by have:=(hrw b hb).1;omega)) (fun b hb=>?_) (by simp;omega) ?_,.inl ⟨.inl rfl,rfl⟩,.inl ⟨.inl rfl,rfl⟩⟩
   ·have:=hrw b hb
    exact ⟨⟨by omega,by omega,by omega⟩,by omega⟩
   ·refine Ji [e] a [d0,d1,d2,d3,d4,d5] es rfl ?_ ?_
    ·simp only [ElsAt]
     refine ⟨Ze.mono ⟨fun c hc _=>hc,fun c hc hx=>?_,by omega⟩ _ _ hT,trivial⟩
     have h1:=hc.1;have h2:=hc.2.1;have h3:=hc.2.2
     rw [g6 c h3,g5 c (by omega),hX2.get c (by omega) (by show c≠pr;omega),hX1.get c hx (by show c≠pr;omega)]
    ·refine ElsAt.mono ⟨fun c hc hx=>⟨by have:=hc.1;omega,by have:=hc.1;omega,by have:=hc.1;omega⟩,fun c hc hx=>?_,by omega⟩ _ _ tk3
     rw [g6 c (by have:=hc.1;omega),g5 c hx]
  ·rw [g6 r0 (by omega),g5 r0 (by omega),<- g3 r0 (by omega)]
   exact kz
 by_cases ha:a.length=0
 ·have he0:es=[]:=List.eq_nil_of_length_eq_zero (by omega)
  subst he0
  rw [ha] at tk1'
  refine Zj6 (s:=.sl (H2.next+1) 0 1 none 6) (x:=w) (by simp [Zb]) ty35 (by simp) (by simp) hS0 (V8.trans tk1') ?_
  simp [f3,s3,k3,Zh1,Zdi]
  exact fin _ H3.bump _ _ (by have:=hS0.of_get (H':=H3.bump) fun b _=>rfl;rw [ha];simpa using this) (fun b hb=>by simp [Za] at hb;subst hb;exact ⟨by omega,by show _ < H3.next+1;omega⟩) s3 (Nat.le_succ _) g3 rfl (by simp [f0]) (by simp [f2]) (by simp [f3])
 ·refine Zc9 (s:=.sl (H2.next+1) 0 1 none 6) (x:=w) (by simp [Zb]) ty35 (by decide) (by simp) (by simp) hS0 (fun b hb=>by simp [Za] at hb;subst hb;exact ⟨by omega,by simp [s3]⟩) tk1' (by omega) tk2 (by show (1+a.length)*104<=_;omega) (by omega) (fun b hb=>⟨by simp [s3],fun h=>by have:=(tk4 b hb).2;simp [Za] at h;omega⟩) (by simp [s3]) fun s' H5 hS hA=>?_
  have c5:=hS.one;have c6:=hS.cells
  have q5:=hA.keep r1 (by omega) (by simp [Za];omega) (by simp [s3])
  simp [f3,c5,c6,q5,k3]
  have hfl:∀ c,H5.bump.flush.get c=H5.flush.get c:=fun c=>by simp
  obtain ⟨y1,y2,y3,y4,y5⟩:=Wa s3 hS hA
  have nfl:H5.bump.flush.next=H5.next+1:=by simp
  have nfl' : H5.flush.next=H5.next:=by simp
  refine fin _ H5.bump.flush _ s' (y1.of_get fun b _=>hfl b) (fun b hb=>?_) (by simp) (by omega) (fun c hc=>?_) rfl (by simp [f0]) (by simp [f2]) (by simp [f3])
  ·have:=y5 b hb
   simp [Za] at this
   omega
  ·rw [hfl,y2 c (by omega) (by simp [Za];omega),g3 c hc]
end
theorem Zjv {f:Nat} (ihO:POne f) (ihL:∀ k,k < f->Zkp k) (ihW:∀ k,k < f->Xj k):Ziz f:=by
 intro H pr d l R hP hR hne
 have hst:=hP.st
 have hpr:=hP.lt
 refine Yc9 (Ye _ ?_)
 have hE0:Ext (eqR pr) H (H.new exZ):=Ext.new hst _
 have hP0:PAt (H.new exZ) pr l d:=hP.of_get hE0.st hE0.le fun c hc=>Z9 _ (by omega)
 simp [hst]
 refine (ihO (H.new exZ) pr d l hP0 (Yp hR hne)).mono ?_ (PanP.up hR hE0)
 rintro v H2 ⟨e,l',hr,⟨cs,rfl,hT⟩,hP2,hX2⟩
 rw [hr,Zn] at hR
 obtain ⟨d0,d1,d2,d3,d4,d5,rfl,n0,n1,n2,n3,n4,n5⟩:=hT.six
 have s2:=hX2.st
 have l2:H.next+1<=H2.next:=hX2.le
 have g0:H2.get H.next=some exZ:=by rw [hX2.get _ (by show H.next < H.next+1;omega) (by show H.next≠pr;omega),Z5]
 simp [s2,n0,n1,n2,n3,n4,n5]
 have hE3:Ext (eqR pr) H ((H2.new exZ).put H2.next (.row 35 6 false [d0,d1,d2,d3,d4,d5])):=((hE0.trans hX2).newge _).putX _ (.inr (by omega))
 have old:∀ c,c < H2.next->((H2.new exZ).put H2.next (.row 35 6 false [d0,d1,d2,d3,d4,d5])).get c=H2.get c:=fun c hc=>by simp [Hp.get_put,Hp.get_new,Zp hc]
 refine Ug (Ipo R H pr d H.next H2.next f) (m:=f) ⟨Nat.le_refl _,⟨e,l',_,hR,hP2.of_get hE3.st (Nat.le_succ _) fun c hc=>old c (by omega),Zd _ _ _,?_⟩,by rw [old _ (by omega)];exact g0,hE3,hpr,Nat.le_refl _,by omega,Nat.lt_succ_self _,by simp,by simp,by simp⟩ ?_
 ·exact Ze.mono ⟨fun c hc hx=>⟨by have:=hc.1;simp at this;omega,by have:=hc.1;simp at this;omega,by omega⟩,fun c hc hx=>old c hx,Nat.le_succ _⟩ _ _ hT
 clear old hE3 hT hP2 hX2 g0 hr hR n0 n1 n2 n3 n4 n5
 generalize hr1' : H2.next=r1 at *
 generalize hr0' : H.next=r0 at *
 rintro k F H1 I
 obtain ⟨e,l,cs,hY,hP,hrow,hT⟩:=I.y
 have f0:=I.f0;have f2:=I.f2;have f3:=I.f3
 have hst:=I.ext.st
 have hkf:=I.kf;have hz:=I.row;have hX:=I.ext;have hr0:=I.hr0;have hr1:=I.hr1;have hr2:=I.hr2;have hp:=I.hp
 cases k with
 | zero=>rw [postY] at hY;exact absurd hY.symm hne
 | succ k =>
 rw [postY] at hY
 have nxt:∀ F' H',Ipo R H pr d r0 r1 f k F' H'->∃ m',m' < k+1/\Ipo R H pr d r0 r1 f m' F' H':=fun F' H' h=>⟨k,by omega,h⟩
 change wpP tab _ (.block 1 (.block 2 (.seq (.reg Zq4) (.cond (.tmp 7) Yb4 (.seq (.reg Zsz) (.cond (.tmp 16) Yb6 (.seq (.reg Zr5) (.cond (.tmp 26) Yb9 (.seq (.reg Ztz) (.ret)))))))))) _ _ _
 simp [f0,f2,f3,hst]
 refine WF.rr (Xs hP sLp) ?_
 rintro w H3 ⟨rfl,hP3,hX3⟩
 have s3:=hX3.st
 cases ha:isK l sLp with
 | true =>
  rw [ha,if_pos rfl] at hP3 hY
  simp [s3]
  exact Zw9 (ihL k (by omega)) hne hY (by omega) hrow hT hz hX hX3 hP3 hp hr0 hr1 hr2 (by simp [f0]) (by simp [f2]) (by simp [f3]) nxt
 | false =>
  rw [ha,if_neg (by decide)] at hP3 hY
  simp [s3,f0]
  refine WF.rr (Xs hP3 sLb) ?_
  rintro w H4 ⟨rfl,hP4,hX4⟩
  have s4:=hX4.st
  have hX34:=hX3.trans hX4
  cases hb:isK l sLb with
  | true =>
   rw [hb,if_pos rfl] at hP4 hY
   simp [s4]
   exact Zvr (ihW k (by omega)) hne hY (by omega) hrow hT hz hX hX34 hP4 hp hr0 hr1 hr2 (by simp [f0]) (by simp [f2]) (by simp [f3]) nxt
  | false =>
   rw [hb,if_neg (by decide)] at hP4 hY
   simp [s4,f0]
   refine WF.rr (Xs hP4 sDot) ?_
   rintro w H5 ⟨rfl,hP5,hX5⟩
   have s5:=hX5.st
   have hX35:=hX34.trans hX5
   cases hc:isK l sDot with
   | true =>
    rw [hc,if_pos rfl] at hP5 hY
    simp [s5]
    exact Zvt hne hY (by omega) hrow hT hz hX hX35 hP5 hp hr0 hr1 hr2 (by simp [f0]) (by simp [f2]) (by simp [f3]) nxt
   | false =>
    rw [hc,if_neg (by decide)] at hP5 hY
    obtain ⟨d0,d1,d2,d3,d4,d5,rfl,n0,n1,n2,n3,n4,n5⟩:=hT.six
    have l0:=hX.le
    have l5:=hX35.le
    have k1:H5.get r1=some (.row 35 6 false [d0,d1,d2,d3,d4,d5]):=by rw [hX35.get r1 hr2 (by show r1≠pr;omega)];exact hrow
    have kz:H5.get r0=some exZ:=by rw [hX35.get r0 (by omega) (by show r0≠pr;omega)];exact hz
    simp [s5,k1,kz,n0,n1,n2,n3,n4,n5,f2,f3]
    refine ⟨e,l,hY.symm,⟨_,rfl,Ze.mono ⟨fun c hc hx=>⟨by have:=hc.1;omega,by show c < H5.next;omega⟩,fun c hc hx=>?_,by exact l5⟩ _ _ hT⟩,hP5.of_get s5 (Nat.le_refl _) fun c hc=>Zf _ (by omega),(hX.trans hX35).putX _ (.inr (by omega))⟩
    rw [Zf _ hc.2.1,hX35.get c hx (by have:=hc.1;show c≠pr;omega)]
end Go.AM.YtlillgmgpmbfnaaGreatDoorT
set_option maxRecDepth 100000
namespace Go.AM.YtlillgmgpmbfnaaGreatDoorT
open Go Go.AM Go.Proofs
theorem Zti {H0 H H2 H3 H4:Hp} {X R:Nat->Prop} {e:TypeId} {v v' : V} {ts us:List Tx} {l ds:List V} (hG:Gro H0 H R e v ts) (hsl:SlAt H e 6 v ts.length l) (hel:ElsAt (Kv H0 R v) H ts l)
  (hRl:∀ b,R b->b < H.next) (hX2:Ext X H H2) (hXo:∀ b,H0.next<=b->¬ R b->¬ X b) (hT:ElsAt (since H H2) H2 us ds) (hdl:ds.length=us.length*6) (hS:SlAt H3 e 6 v' (ts.length+us.length) (l++ds)) (hA:AppR H2 v H3 v')
  (hs4:H4.stale=[]) (hn4:H3.next<=H4.next) (hg:∀ b,¬ R b->H4.get b=H3.flush.get b):Gro H0 H4 R e v' (ts++us)/\(∀ b,b < H2.next->¬ R b->b∉Za v->H4.get b=H2.get b):=by
 have s2:=hX2.st
 obtain ⟨k1,k2,k3,k4,k5⟩:=Wa s2 hS hA
 have hle:=hX2.le
 have h02:=hG.le
 rw [Hp.next_flush] at k4 k5
 have keep:∀ b,b < H2.next->¬ R b->b∉Za v->H4.get b=H2.get b:=fun b hb hR hr=>by
  rw [hg b hR,k2 b (by omega) hr]
 have hnew:∀ b∈Za v',H0.next<=b/\b < H4.next/\¬ R b:=fun b hb=>by
  obtain ⟨g1,g2⟩:=k5 b hb
  rcases g2 with g2 | g2
  ·have:=hG.rows b g2;exact ⟨this.1,by omega,this.2.2⟩
  ·exact ⟨by omega,by omega,fun h=>by have:=hRl b h;omega⟩
 have hll:=hsl.len
 have st1:Stays (Kv H0 R v) (Kv H0 R v') H H4:=by
  refine ⟨fun b hb hx=>⟨hb.1,hb.2.1,fun h=>?_⟩,fun b hb hx=>?_,by omega⟩
  ·rcases (k5 b h).2 with g | g
   ·exact hb.2.2 g
   ·omega
  ·rw [keep b (by omega) hb.2.1 hb.2.2]
   exact hX2.get b hx (hXo b hb.1 hb.2.1)
 refine ⟨⟨hs4,by omega,⟨l++ds,?_,?_⟩,hnew⟩,keep⟩
 ·rw [List.length_append]
  exact k1.of_get fun b hb=>hg b (hnew b hb).2.2
 ·have hr:∀ b,H.next<=b->b∉Za v:=fun b hb h=>by have:=(hG.rows b h).2.1;omega
  have hRn:∀ b,H.next<=b->¬ R b:=fun b hb h=>by have:=hRl b h;omega
  have st2:Stays (since H H2) (Kv H0 R v') H2 H4:=by
   refine ⟨fun b hb hx=>⟨by omega,hRn b hb.1,fun h=>?_⟩,fun b hb hx=>keep b hx (hRn b hb.1) (hr b hb.1),by omega⟩
   rcases (k5 b h).2 with g | g
   ·exact hr b hb.1 g
   ·omega
  exact Ji ts us l ds hll (ElsAt.mono st1 _ _ hel) (ElsAt.mono st2 _ _ hT)
abbrev exG (v:V):Ob:=.row 35 6 false [.int .i64 (16:Nat),.int .i64 0,.str [],v,.nils,.nils]
structure Irc (R:PR Tx) (H0:Hp) (pr d r0 re f L k:Nat) (F:Fr) (H:Hp):Prop where
 kf:k<=f
 y:∃ ts l v,recY k d ts l=R/\PAt H pr l d/\H.get re=some (exG v)/\Gro H0 H (twoR re r0) 35 v ts/\ts.length+2*l.length<=L
 row:H.get r0=some exZ
 ext:Ext (eqR pr) H0 H
 hp:pr < H0.next
 hr0:H0.next<=r0
 hr1:r0 < re
 hr2:re < H.next
 f0:F.get 0=some (.ptr pr 0)
 f2:F.get 2=some (.ptr r0 0)
 f3:F.get 3=some (.ptr re 0)
def Zr2:SCode:=.seq (.reg Zod) (.dreg Zoq)
def Zr1:SCode:=.seq (.reg Ztw) (.seq (.seq (.reg Ztx) (.cond (.tmp 17) (.seq (.reg Ztn) (.reg Zq8)) (.reg Zta))) Zr2)
section
variable {R:PR Tx} {H0 H H5:Hp} {pr d r0 re rk f L k:Nat} {l:List Tk} {kx:Tx} {ts:List Tx} {v:V} {ds:List V} {F:Fr} {Q:PC}
theorem Zx0 (ih:Xj k) (hR:R≠.out) (hY:((Yf Zhw l).bind fun _ l=>(Zu k d l).bind fun v l=>recY k d (ts++[kx,v]) l)=R) (hkf:k<=f) (hrow:H.get re=some (exG v)) (hG:Gro H0 H (twoR re r0) 35 v ts) (hL:L<=200000) (hlen:ts.length+2*l.length<=L) (hz:H.get r0=some exZ) (hX:Ext (eqR pr) H0 H) (hX5:Ext (eqR pr) H H5) (hP5:PAt H5 pr l d)
  (hk:H5.get rk=some (.row 35 6 false ds)) (hk0:H.next<=rk) (hk1:rk < H5.next) (hT:Ze (fun b=>H.next<=b/\b≠rk) H5 kx ds)
  (hp:pr < H0.next) (hr0:H0.next<=r0) (hr1:r0 < re) (hr2:re < H.next) (f0:F.get 0=some (.ptr pr 0)) (f2:F.get 2=some (.ptr r0 0)) (f3:F.get 3=some (.ptr re 0)) (f4:F.get 4=some (.ptr rk 0)) (hQ:∀ F' H',Irc R H0 pr d r0 re f L k F' H'->Q .nrm F' H'):wpP tab (PanP pr R H0) Zr2 F H5 Q:=by
 have s5:=hX5.st
 have hX05:=hX.trans hX5
 have l0:=hX.le
 have l5:=hX5.le
 have hen:=hP5.ends.2
 simp [Zr2,f0,s5]
 refine (Xt hP5 Zhw).mono ?_ (PanP.up hY hX05)
 rintro w H6 ⟨u,l6,hr,_,hP6,hX6⟩
 rw [hr,Zn] at hY
 have hlm:=Un hr
 have l6':=hX6.le
 have hX06:=hX05.trans hX6
 obtain ⟨d0,d1,d2,d3,d4,d5,rfl,n0,n1,n2,n3,n4,n5⟩:=hT.six
 have heq:=Jf hT
 obtain ⟨lc,hsl,hel⟩:=hG.sl
 have hev:=hsl.eqv
 have hrows:=hG.rows
 have k5:H5.get re=some (exG v):=by rw [hX5.get re hr2 (by show re≠pr;omega)];exact hrow
 have k6:H6.get re=some (exG v):=by rw [hX6.get re (by omega) (by show re≠pr;omega)];exact k5
 have kk6:H6.get rk=some (.row 35 6 false [d0,d1,d2,d3,d4,d5]):=by rw [hX6.get rk (by omega) (by show rk≠pr;omega)];exact hk
 simp [hX6.st,f0,f2,f3,f4]
 refine (ih H6 pr d l6 hP6 (Yp hY hR)).mono ?_ ?_
 rotate_left
 ·rintro w' H7 ⟨pa,pe,q3,rfl,hX7⟩
  have s7:=hX7.st
  have k7:H7.get re=some (exG v):=by rw [hX7.get re (by omega) (by show re≠pr;omega)];exact k6
  have kk7:H7.get rk=some (.row 35 6 false [d0,d1,d2,d3,d4,d5]):=by rw [hX7.get rk (by omega) (by show rk≠pr;omega)];exact kk6
  simp [Jm,f0,f2,f3,f4,s7,k6,k7,kk6,kk7,heq,hev,n0,n1,n2,n3,n4,n5]
  exact PanP.up hY hX06 _ _ ⟨pa,pe,q3,rfl,hX7.upto (Nat.le_succ _)⟩
 rintro w' H7 ⟨y,l7,hr7,⟨es,rfl,hT7⟩,hP7,hX7⟩
 rw [hr7,Zn] at hY
 obtain ⟨e0,e1,e2,e3,e4,e5,rfl,p0,p1,p2,p3,p4,p5⟩:=hT7.six
 have s7:=hX7.st
 have l7':=hX7.le
 have hwl:=Zdf hr7
 have k7:H7.get re=some (exG v):=by rw [hX7.get re (by omega) (by show re≠pr;omega)];exact k6
 have kk7:H7.get rk=some (.row 35 6 false [d0,d1,d2,d3,d4,d5]):=by rw [hX7.get rk (by omega) (by show rk≠pr;omega)];exact kk6
 simp [s7,f0,f2,f3,f4,k6,k7,kk6,kk7,heq,hev,n0,n1,n2,n3,n4,n5,p0,p1,p2,p3,p4,p5]
 generalize hH8:H7.bump.new (.row 35 6 false [d0,d1,d2,d3,d4,d5,e0,e1,e2,e3,e4,e5])=H8
 have nx8:H8.next=H7.next+2:=by rw [<- hH8];rfl
 have s8:H8.stale=[]:=by rw [<- hH8];exact s7
 have g8:∀ c,c < H7.next->H8.get c=H7.get c:=fun c hc=>by rw [<- hH8];exact Z9 _ (by show c≠H7.next+1;omega)
 have g88:H8.get (H7.next+1)=some (.row 35 6 false [d0,d1,d2,d3,d4,d5,e0,e1,e2,e3,e4,e5]):=by rw [<- hH8];exact Z5 _ _
 have hX58:Ext (eqR pr) H5 H8:=hH8 ▸ ((hX6.trans hX7).bump).newge _
 have hX8:Ext (eqR pr) H H8:=hX5.trans hX58
 have hT8:ElsAt (since H H8) H8 [kx,y] [d0,d1,d2,d3,d4,d5,e0,e1,e2,e3,e4,e5]:=by
  simp only [ElsAt]
  refine ⟨Ze.mono ⟨fun c hc hx=>⟨hc.1,by omega⟩,fun c hc hx=>hX58.get c hx (by have:=hc.1;show c≠pr;omega),by omega⟩ _ _ hT,Ze.mono ⟨fun c hc hx=>⟨by have:=hc.1;omega,by omega⟩,fun c hc hx=>g8 c hx,by omega⟩ _ _ hT7,trivial⟩
 have hsl8:SlAt H8 35 6 v ts.length lc:=hsl.of_get fun b hb=>by
  have:=hrows b hb
  exact hX8.get b this.2.1 (by show b≠pr;omega)
 have k8:H8.get re=some (exG v):=by rw [g8 re (by omega)];exact k7
 refine Zc9 (s:=v) (x:=.sl (H7.next+1) 0 2 none 6) (m:=2) (news:=[d0,d1,d2,d3,d4,d5,e0,e1,e2,e3,e4,e5]) (by simp [Zb]) ty35 (by decide) (by simp) (by simp) hsl8 (fun b hb=>⟨by have:=(hrows b hb).2.1;omega,by simp [s8]⟩) (by simp [Xd,g88]) (by omega) rfl (by show (ts.length+2)*104<=_;omega) (by omega) (fun b hb=>⟨by simp [s8],fun h=>by have:=(hrows b h).2.1;simp [Za] at hb;omega⟩) (by simp [s8]) fun v' H9 hS hA=>?_
 obtain ⟨q1,q2⟩:=hA.keep re (by omega) (fun h=>(hrows re h).2.2 (.inl rfl)) (by simp [s8])
 have q3:H9.get re=some (exG v):=q1.trans k8
 have hc':=hS.cells
 have ho':=hS.one
 simp [f3,q2,q3,hc',ho']
 generalize hH10:((H9.bump.flush.put re (exG v')).bump)=H10
 have s10:H10.stale=[]:=by rw [<- hH10];simp
 have n10:H10.next=H9.next+2:=by rw [<- hH10];simp
 have hg10:∀ b,¬ twoR re r0 b->H10.get b=H9.flush.get b:=fun b hb=>by
  have:b≠re:=fun h=>hb (.inl h)
  rw [<- hH10];simp [Hp.get_put,Zi this]
 have hg10r:H10.get re=some (exG v'):=by rw [<- hH10];simp
 obtain ⟨G10,keep⟩:=Zti (H4:=H10) (X:=eqR pr) hG hsl hel (fun b hb=>by rcases hb with h | h<;>omega) hX8 (fun b hb _=>by show b≠pr;omega) hT8 rfl hS hA s10 (by omega) hg10
 have hvn:∀ b,b < H0.next->b∉Za v:=fun b hb h=>by have:=(hrows b h).1;omega
 have hna:=hA.le
 have hr0v:r0∉Za v:=fun h=>(hrows r0 h).2.2 (.inr rfl)
 have q0:H10.get r0=some exZ:=by
  have e1:H10.get r0=H9.bump.flush.get r0:=by rw [<- hH10];exact Zf _ (by omega)
  obtain ⟨z1,z2⟩:=hA.keep r0 (by omega) hr0v (by simp [s8])
  rw [e1,hX8.get r0 (by omega) (by show r0≠pr;omega)] at *
  simp [z1,z2,hz]
 refine hQ _ _ ⟨hkf,⟨_,l7,v',hY,hP7.of_get s10 (by omega) fun c hc=>?_,hg10r,G10,by simp;omega⟩,q0,⟨s10,by omega,fun b hb hx=>?_⟩,hp,hr0,hr1,by omega,by simp [f0],by simp [f2],by simp [f3]⟩
 ·have:=hP7.lt
  rw [keep c (by omega) (fun h=>by rcases h with h | h<;>omega) (hvn c (by omega)),g8 c (by omega)]
 ·rw [keep b (by omega) (fun h=>by rcases h with h | h<;>omega) (hvn b hb),hX8.get b (by omega) hx]
  exact hX.get b hb hx
theorem Zxx (ih:Xj k) (hR:R≠.out) (hY:((if isK l sLb then (Zu k d l.tail).bind fun k l=>(Yf sRb l).bind fun _ l=>.ok k l else (Wd l).bind fun s l=>.ok (.ex 4 0 s [] [] []) l).bind fun kx l=>(Yf Zhw l).bind fun _ l=>(Zu k d l).bind fun v l=>recY k d (ts++[kx,v]) l)=R) (hkf:k<=f) (hrow:H.get re=some (exG v)) (hG:Gro H0 H (twoR re r0) 35 v ts) (hL:L<=200000) (hlen:ts.length+2*l.length<=L) (hz:H.get r0=some exZ) (hX:Ext (eqR pr) H0 H) (hX5:Ext (eqR pr) H H5) (hP5:PAt H5 pr l d)
  (hp:pr < H0.next) (hr0:H0.next<=r0) (hr1:r0 < re) (hr2:re < H.next) (f0:F.get 0=some (.ptr pr 0)) (f2:F.get 2=some (.ptr r0 0)) (f3:F.get 3=some (.ptr re 0)) (hQ:∀ F' H',Irc R H0 pr d r0 re f L k F' H'->Q .nrm F' H'):wpP tab (PanP pr R H0) Zr1 F H5 Q:=by
 have s5:=hX5.st
 have hX05:=hX.trans hX5
 have l0:=hX.le
 have l5:=hX5.le
 have hp5:=hP5.lt
 simp [Zr1,f0,f2,f3,s5]
 generalize hH6:(H5.new exZ).put H5.next (.row 35 6 false [.int .i64 4,.int .i64 0,.str [],.nils,.nils,.nils])=H6
 have nx6:H6.next=H5.next+1:=by rw [<- hH6];rfl
 have hX56n:Ext noX H5 H6:=hH6 ▸ (Ext.new s5 _).putX _ (.inr (Nat.le_refl _))
 have hX56:Ext (eqR pr) H5 H6:=hX56n.no
 have k6:H6.get H5.next=some (.row 35 6 false [.int .i64 (4:Nat),.int .i64 0,.str [],.nils,.nils,.nils]):=by rw [<- hH6];exact Zd _ _ _
 have hP6:PAt H6 pr l d:=hP5.ext hX56n fun c _ h=>h
 have hX06:=hX05.trans hX56
 have s6:=hX56.st
 refine WF.rr (Xs hP6 sLb) ?_
 rintro w H7 ⟨rfl,hP7,hX7⟩
 have s7:=hX7.st
 have l7:=hX7.le
 have hX07:=hX06.trans hX7
 have k7:H7.get H5.next=some (.row 35 6 false [.int .i64 (4:Nat),.int .i64 0,.str [],.nils,.nils,.nils]):=by rw [hX7.get _ (by omega) (by show H5.next≠pr;omega)];exact k6
 cases hb:isK l sLb with
 | true =>
  rw [hb,if_pos rfl] at hP7
  rw [if_pos hb] at hY
  have htl:l.tail.length<=l.length:=by simp
  simp [s7,f0]
  cases hw:Zu k d l.tail with
  | out=>rw [hw] at hY;exact absurd hY.symm hR
  | err pa pe =>
   rw [hw] at hY
   refine (ih H7 pr d l.tail hP7 (by rw [hw];exact fun h=>by cases h)).mono ?_ ?_
   ·rintro v H8 ⟨e,l8,hr,_⟩;rw [hw] at hr;cases hr
   ·rintro v H8 ⟨a,e,hr,rfl,hX8⟩
    rw [hw] at hr;cases hr
    exact ⟨_,_,hY.symm,rfl,hX07.trans hX8⟩
  | ok x l8 =>
   rw [hw,Zn] at hY
   refine (ih H7 pr d l.tail hP7 (by rw [hw];exact fun h=>by cases h)).mono ?_ ?_
   rotate_left
   ·rintro v H8 ⟨a,e,hr,rfl,hX8⟩;rw [hw] at hr;cases hr
   rintro v' H8 ⟨e,l8',hr,⟨cs,rfl,hT⟩,hP8,hX8⟩
   rw [hw] at hr;cases hr
   have hwl:=Zdf hw
   obtain ⟨d0,d1,d2,d3,d4,d5,rfl,n0,n1,n2,n3,n4,n5⟩:=hT.six
   have s8:=hX8.st
   have l8':=hX8.le
   have k8:H8.get H5.next=some (.row 35 6 false [.int .i64 (4:Nat),.int .i64 0,.str [],.nils,.nils,.nils]):=by rw [hX8.get _ (by omega) (by show H5.next≠pr;omega)];exact k7
   simp [s8,k8,n0,n1,n2,n3,n4,n5]
   generalize hH9:H8.put H5.next (.row 35 6 false [d0,d1,d2,d3,d4,d5])=H9
   have nx9:H9.next=H8.next:=by rw [<- hH9];rfl
   have g9:∀ c,c≠H5.next->H9.get c=H8.get c:=fun c hc=>by rw [<- hH9];exact Zf _ hc
   have k9:H9.get H5.next=some (.row 35 6 false [d0,d1,d2,d3,d4,d5]):=by rw [<- hH9];exact Zd _ _ _
   have hX59:Ext (eqR pr) H5 H9:=hH9 ▸ ((hX56.trans hX7).trans hX8).putX _ (.inr (Nat.le_refl _))
   have hP9:PAt H9 pr l8 d:=hP8.of_get hX59.st (by omega) fun c hc=>g9 c (by omega)
   have s9:=hX59.st
   simp [s9,f0]
   cases hm:Yf sRb l8 with
   | out=>rw [hm] at hY;exact absurd hY.symm hR
   | err pa pe =>
    rw [hm] at hY
    refine (Xt hP9 sRb).mono ?_ ?_
    ·rintro v H8 ⟨e,l8,hr,_⟩;rw [hm] at hr;cases hr
    ·rintro v H10 ⟨a,e,hr,rfl,hX10⟩
     rw [hm] at hr;cases hr
     exact ⟨_,_,hY.symm,rfl,(hX05.trans hX59).trans hX10⟩
   | ok u l10 =>
    rw [hm,Zn,Zn] at hY
    refine (Xt hP9 sRb).mono ?_ ?_
    rotate_left
    ·rintro v H8 ⟨a,e,hr,rfl,hX8⟩;rw [hm] at hr;cases hr
    rintro v' H10 ⟨e,l10',hr,_,hP10,hX10⟩
    rw [hm] at hr;cases hr
    have hml:=Un hm
    have l10':=hX10.le
    simp [hX10.st]
    refine Zx0 ih hR hY hkf hrow hG hL (by omega) hz hX ((hX5.trans hX59).trans hX10) hP10 (rk:=H5.next) (by rw [hX10.get _ (by omega) (by show H5.next≠pr;omega)];exact k9) (by omega) (by omega) ?_ hp hr0 hr1 hr2 (by simp [f0]) (by simp [f2]) (by simp [f3]) (by simp) hQ
    refine Ze.mono ⟨fun c hc hx=>⟨by have:=hc.1;omega,by have:=hc.1;omega⟩,fun c hc hx=>?_,by omega⟩ _ _ hT
    have:=hc.1
    rw [hX10.get c (by omega) (by show c≠pr;omega),g9 c (by omega)]
 | false =>
  rw [hb,if_neg (by decide)] at hP7
  rw [if_neg (by rw [hb];decide)] at hY
  simp [s7,f0]
  cases hm:Wd l with
  | out=>rw [hm] at hY;exact absurd hY.symm hR
  | err pa pe =>
   rw [hm] at hY
   refine (Jw hP7).mono ?_ ?_
   ·rintro v H8 ⟨e,l8,hr,_⟩;rw [hm] at hr;cases hr
   ·rintro v H8 ⟨a,e,hr,rfl,hX8⟩
    rw [hm] at hr;cases hr
    exact ⟨_,_,hY.symm,rfl,hX07.trans hX8⟩
  | ok sn l8 =>
   rw [hm,Zn,Zn] at hY
   refine (Jw hP7).mono ?_ ?_
   rotate_left
   ·rintro v H8 ⟨a,e,hr,rfl,hX8⟩;rw [hm] at hr;cases hr
   rintro v' H8 ⟨e,l8',hr,rfl,hP8,hX8⟩
   rw [hm] at hr;cases hr
   have hnl:=Zin hm
   have s8:=hX8.st
   have l8':=hX8.le
   have k8:H8.get H5.next=some (.row 35 6 false [.int .i64 (4:Nat),.int .i64 0,.str [],.nils,.nils,.nils]):=by rw [hX8.get _ (by omega) (by show H5.next≠pr;omega)];exact k7
   simp [s8,k8]
   generalize hH9:H8.put H5.next (.row 35 6 false [.int .i64 4,.int .i64 0,.str sn,.nils,.nils,.nils])=H9
   have nx9:H9.next=H8.next:=by rw [<- hH9];rfl
   have g9:∀ c,c≠H5.next->H9.get c=H8.get c:=fun c hc=>by rw [<- hH9];exact Zf _ hc
   have k9:H9.get H5.next=some (.row 35 6 false [.int .i64 (4:Nat),.int .i64 0,.str sn,.nils,.nils,.nils]):=by rw [<- hH9];exact Zd _ _ _
   have hX59:Ext (eqR pr) H5 H9:=hH9 ▸ ((hX56.trans hX7).trans hX8).putX _ (.inr (Nat.le_refl _))
   have hP9:PAt H9 pr l8 d:=hP8.of_get hX59.st (by omega) fun c hc=>g9 c (by omega)
   have s9:=hX59.st
   refine Zx0 ih hR hY hkf hrow hG hL (by omega) hz hX (hX5.trans hX59) hP9 (rk:=H5.next) k9 (by omega) (by omega) ?_ hp hr0 hr1 hr2 (by simp [f0]) (by simp [f2]) (by simp [f3]) (by simp) hQ
   simp only [Ze]
   exact ⟨_,_,_,rfl,.inl ⟨.inl rfl,rfl⟩,.inl ⟨.inl rfl,rfl⟩,.inl ⟨.inl rfl,rfl⟩⟩
end
theorem Zjk {f:Nat} (ih:∀ k,k < f->Xj k):PRec f:=by
 intro H pr d l hP hne
 have hst:=hP.st
 have hpr:=hP.lt
 generalize hR:recY f d [] l=R at *
 refine Ye5 (Ye _ ?_)
 simp [hst,Hp.get_new]
 generalize hH1:((H.new exZ).new exZ).put (H.next+1) (.row 35 6 false [.int .i64 16,.int .i64 0,.str [],.nils,.nils,.nils])=H1
 have nx1:H1.next=H.next+2:=by rw [<- hH1];rfl
 have hX1n:Ext noX H H1:=hH1 ▸ ((Ext.new hst _).newge _).putX _ (.inr (Nat.le_succ _))
 have hX1:Ext (eqR pr) H H1:=hX1n.no
 have hP1:PAt H1 pr l d:=hP.ext hX1n fun c _ h=>h
 have g0:H1.get H.next=some exZ:=by rw [<- hH1];simp [Hp.get_put,Hp.get_new]
 have g1:H1.get (H.next+1)=some (exG .nils):=by rw [<- hH1];exact Zd _ _ _
 have hL:=hP.ends.2
 refine Ug (Irc R H pr d H.next (H.next+1) f (2*l.length)) (m:=f) ⟨Nat.le_refl _,⟨[],l,.nils,hR,hP1,g1,Gro.nil hX1.st (by omega),by simp⟩,g0,hX1,hpr,Nat.le_refl _,Nat.lt_succ_self _,by omega,by simp,by simp,by simp⟩ ?_
 clear g0 g1 hP1 hX1 hX1n nx1 hH1 hR
 generalize hre:H.next+1=re at *
 generalize hr0' : H.next=r0 at *
 rintro k F H1 I
 obtain ⟨ts,l1,v,hY,hP1,hrow,hG,hlen⟩:=I.y
 have f0:=I.f0;have f2:=I.f2;have f3:=I.f3
 have s1:=I.ext.st
 have hkf:=I.kf;have hz:=I.row;have hX:=I.ext;have hr0:=I.hr0;have hr1:=I.hr1;have hr2:=I.hr2;have hp:=I.hp
 cases k with
 | zero=>rw [recY] at hY;exact absurd hY.symm hne
 | succ k =>
 rw [recY] at hY
 have nxt:∀ F' H',Irc R H pr d r0 re f (2*l.length) k F' H'->∃ m',m' < k+1/\Irc R H pr d r0 re f (2*l.length) m' F' H':=fun F' H' h=>⟨k,by omega,h⟩
 change wpP tab _ (.seq (.seq (.reg Zsi) (.cond (.tmp 8) (.skip) (.exit 0))) (.block 1 (.seq (.seq (.reg Zq0) (.cond (.tmp 12) (.reg Zu1) (.skip))) Zr1))) _ _ _
 simp [f0,s1]
 refine WF.rr (Xs hP1 sRc) ?_
 rintro w H2 ⟨rfl,hP2,hX2⟩
 have s2:=hX2.st
 have l0:=hX.le
 have l2:=hX2.le
 have hX02:=hX.trans hX2
 obtain ⟨lc,hsl,hel⟩:=hG.sl
 have hlv:=hsl.lenV 35
 have k2:H2.get re=some (exG v):=by rw [hX2.get re hr2 (by show re≠pr;omega)];exact hrow
 have kz:H2.get r0=some exZ:=by rw [hX2.get r0 (by omega) (by show r0≠pr;omega)];exact hz
 cases hk:isK l1 sRc with
 | true =>
  rw [hk,if_pos rfl] at hP2 hY
  have c5:=hsl.one;have c6:=hsl.cells
  simp [s2,f2,f3,k2,kz,c5,c6]
  have hG2:=Zfp hG hp hX2
  refine ⟨_,l1.tail,hY.symm,⟨_,rfl,?_⟩,hP2.of_get s2 (Nat.le_refl _) fun c hc=>Zf _ (by omega),hX02.putX _ (.inr hr0)⟩
  simp only [Ze]
  exact ⟨_,_,_,rfl,hG2.trees (fun b h1 h2 h3=>⟨⟨h1,h2⟩,Zf _ (fun h=>h3 (.inr h))⟩) (Nat.le_refl _),.inl ⟨.inl rfl,rfl⟩,.inl ⟨.inl rfl,rfl⟩⟩
 | false =>
  rw [hk,if_neg (by decide)] at hP2 hY
  have hlen2:=hP2.ends.2
  by_cases he:ts=[]
  ·subst he
   rw [List.isEmpty_nil,W5,if_pos rfl,Zn] at hY
   simp [s2,f3,k2,hlv]
   exact Zxx (ih k (by omega)) hne hY (by omega) hrow hG (by omega) hlen hz hX hX2 hP2 hp hr0 hr1 hr2 (by simp [f0]) (by simp [f2]) (by simp [f3]) nxt
  ·have hpos:0 < ts.length:=List.length_pos_iff.2 he
   have hpos' : (0:Int) < (ts.length:Int):=by omega
   rw [List.isEmpty_eq_false_iff.2 he,W5,if_neg (by decide)] at hY
   simp [s2,f3,k2,hlv,hpos,hpos',f0]
   refine (Xt hP2 Zh0).mono ?_ (PanP.up hY hX02)
   rintro w H3 ⟨u,l3,hr,_,hP3,hX3⟩
   rw [hr,Zn] at hY
   have:=Un hr
   simp [hX3.st]
   exact Zxx (ih k (by omega)) hne hY (by omega) hrow hG (by omega) (by omega) hz hX (hX2.trans hX3) hP3 hp hr0 hr1 hr2 (by simp [f0]) (by simp [f2]) (by simp [f3]) nxt
end Go.AM.YtlillgmgpmbfnaaGreatDoorT
set_option maxRecDepth 100000
namespace Go.AM.YtlillgmgpmbfnaaGreatDoorT
open Go Go.AM Go.Proofs
abbrev exF (v w:V):Ob:=.row 35 6 false [.int .i64 (17:Nat),.int .i64 0,.str [],.nils,v,w]
structure Ifn (R:PR Tx) (H0:Hp) (pr d r0 re f L k:Nat) (F:Fr) (H:Hp):Prop where
 kf:k<=f
 y:∃ ps l v,((Xy k ps l).bind fun ps l=>(blockY f d l).bind fun b l=>PR.ok (.ex 17 0 [] [] ps b) l)=R/\PAt H pr l d/\H.get re=some (exF v .nils)/\SGro H0 H (twoR re r0) 9 v ps/\ps.length+l.length<=L
 row:H.get r0=some exZ
 ext:Ext (eqR pr) H0 H
 hp:pr < H0.next
 hr0:H0.next<=r0
 hr1:r0 < re
 hr2:re < H.next
 f0:F.get 0=some (.ptr pr 0)
 f2:F.get 2=some (.ptr r0 0)
 f3:F.get 3=some (.ptr re 0)
theorem Zwk {H0 H H1:Hp} {pr:Nat} {R:Nat->Prop} {e:TypeId} {v:V} {ps:Ts} (h:SGro H0 H R e v ps) (hp:pr < H0.next) (hE:Ext (eqR pr) H H1):SGro H0 H1 R e v ps :=
 h.of_get hE.st hE.le fun b h1 h2 _=>hE.get b h2 (by show b≠pr;omega)
theorem Zdu {α β γ:Type} {r:PR α} {g:α->List Tk->PR β} {h:β->List Tk->PR γ}:(r.bind g).bind h=r.bind fun a l=>(g a l).bind h:=by cases r<;>rfl
def Zf6:SCode:=.dreg Zsb
section
variable {R:PR Tx} {H0 H H5:Hp} {pr d r0 re f L k:Nat} {l:List Tk} {ps:Ts} {v:V} {F:Fr} {Q:PC}
theorem Zsx (hR:R≠.out) (hY:((Wd l).bind fun s l=>(Xy k (ps++[s]) l).bind fun ps l=>(blockY f d l).bind fun b l=>PR.ok (.ex 17 0 [] [] ps b) l)=R) (hkf:k<=f) (hrow:H.get re=some (exF v .nils)) (hG:SGro H0 H (twoR re r0) 9 v ps) (hL:L<=100000) (hlen:ps.length+l.length<=L) (hz:H.get r0=some exZ) (hX:Ext (eqR pr) H0 H) (hX5:Ext (eqR pr) H H5) (hP5:PAt H5 pr l d)
  (hp:pr < H0.next) (hr0:H0.next<=r0) (hr1:r0 < re) (hr2:re < H.next) (f0:F.get 0=some (.ptr pr 0)) (f2:F.get 2=some (.ptr r0 0)) (f3:F.get 3=some (.ptr re 0)) (hQ:∀ F' H',Ifn R H0 pr d r0 re f L k F' H'->Q .nrm F' H'):wpP tab (PanP pr R H0) Zf6 F H5 Q:=by
 have s5:=hX5.st
 have hX05:=hX.trans hX5
 have l0:=hX.le
 have l5:=hX5.le
 have hsl:=hG.sl
 have hev:=hsl.eqv
 have hrows:=hG.rows
 have k5:H5.get re=some (exF v .nils):=by rw [hX5.get re hr2 (by show re≠pr;omega)];exact hrow
 simp [Zf6,f0,f2,f3,s5]
 refine (Jw hP5).mono ?_ ?_
 rotate_left
 ·rintro w' H7 ⟨pa,pe,q3,rfl,hX7⟩
  have s7:=hX7.st
  have k7:H7.get re=some (exF v .nils):=by rw [hX7.get re (by omega) (by show re≠pr;omega)];exact k5
  simp [Jm,f0,f2,f3,s7,k5,k7,hev]
  exact PanP.up hY hX05 _ _ ⟨pa,pe,q3,rfl,hX7.upto (Nat.le_succ _)⟩
 rintro w' H7 ⟨s,l7,hr,rfl,hP7,hX7⟩
 rw [hr,Zn] at hY
 have hnl:=Zin hr
 have s7:=hX7.st
 have l7':=hX7.le
 have k7:H7.get re=some (exF v .nils):=by rw [hX7.get re (by omega) (by show re≠pr;omega)];exact k5
 have hX07:=hX5.trans hX7
 have hsl7:SlAt H7.bump 9 1 v ps.length (ps.map .str):=hsl.of_get fun b hb=>by
  have:=hrows b hb
  exact hX07.get b this.2.1 (by show b≠pr;omega)
 simp [s7,f0,f2,f3,k5,k7,hev]
 refine Zeg (H:=H7.bump) (e0:=9) (cells:=[.str s]) (by simp [Zb]) ty9 (by decide) (by simp [f3]) (by simp) hsl7 (fun b hb=>⟨by have:=(hrows b hb).2.1;show b < H7.next+1;omega,by simp [s7]⟩) rfl (by show (ps.length+1)*16<=_;omega) (by omega) (by simp [s7]) fun v' H9 hS hA=>?_
 obtain ⟨q1,q2⟩:=hA.keep re (by show re < H7.next+1;omega) (fun h=>(hrows re h).2.2 (.inl rfl)) (by simp [s7])
 have q3:H9.get re=some (exF v .nils):=q1.trans k7
 have hc':=hS.cells
 have ho':=hS.one
 simp [f3,q2,q3,hc',ho']
 generalize hH10:((H9.bump.flush.put re (exF v' .nils)).bump)=H10
 have s10:H10.stale=[]:=by rw [<- hH10];simp
 have n10:H10.next=H9.next+2:=by rw [<- hH10];simp
 have hg10:∀ b,¬ twoR re r0 b->H10.get b=H9.flush.get b:=fun b hb=>by
  have:b≠re:=fun h=>hb (.inl h)
  rw [<- hH10];simp [Hp.get_put,Zi this]
 have hg10r:H10.get re=some (exF v' .nils):=by rw [<- hH10];simp
 obtain ⟨G10,keep⟩:=hG.step (H4:=H10) (X:=eqR pr) (fun b hb=>by rcases hb with h | h<;>omega) hX07 hS (.inr rfl) hA s10 (by omega) hg10
 have hvn:∀ b,b < H0.next->b∉Za v:=fun b hb h=>by have:=(hrows b h).1;omega
 have hna:=hA.le
 have hb1:H7.bump.next=H7.next+1:=rfl
 have hr0v:r0∉Za v:=fun h=>(hrows r0 h).2.2 (.inr rfl)
 have q0:H10.get r0=some exZ:=by
  have e1:H10.get r0=H9.bump.flush.get r0:=by rw [<- hH10];exact Zf _ (by omega)
  obtain ⟨z1,z2⟩:=hA.keep r0 (by omega) hr0v (by simp [s7])
  rw [e1]
  have z3:H7.get r0=some exZ:=by rw [hX07.get r0 (by omega) (by show r0≠pr;omega)];exact hz
  have z4:H9.get r0=some exZ:=z1.trans z3
  simp [z2,z4]
 refine hQ _ _ ⟨hkf,⟨_,l7,v',hY,hP7.of_get s10 (by omega) fun c hc=>?_,hg10r,G10,by simp;omega⟩,q0,⟨s10,by omega,fun b hb hx=>?_⟩,hp,hr0,hr1,by omega,by simp [f0],by simp [f2],by simp [f3]⟩
 ·have:=hP7.lt
  rw [keep c (by omega) (fun h=>by rcases h with h | h<;>omega) (hvn c (by omega))]
 ·rw [keep b (by omega) (fun h=>by rcases h with h | h<;>omega) (hvn b hb),hX07.get b (by omega) hx]
  exact hX.get b hb hx
end
theorem Znx {f:Nat} (ihB:U2 f):Zpt f:=by
 intro H pr d l R hP hR hne
 have hst:=hP.st
 have hpr:=hP.lt
 refine Ygo (Ye _ ?_)
 simp [hst,Hp.get_new]
 generalize hH1:((H.new exZ).new exZ).put (H.next+1) (.row 35 6 false [.int .i64 17,.int .i64 0,.str [],.nils,.nils,.nils])=H1
 have nx1:H1.next=H.next+2:=by rw [<- hH1];rfl
 have hX1n:Ext noX H H1:=hH1 ▸ ((Ext.new hst _).newge _).putX _ (.inr (Nat.le_succ _))
 have hX1:Ext (eqR pr) H H1:=hX1n.no
 have hP1:PAt H1 pr l d:=hP.ext hX1n fun c _ h=>h
 have g0:H1.get H.next=some exZ:=by rw [<- hH1];simp [Hp.get_put,Hp.get_new]
 have g1:H1.get (H.next+1)=some (exF .nils .nils):=by rw [<- hH1];exact Zd _ _ _
 have hL:=hP.ends.2
 refine (Xt hP1 sLp).mono ?_ (PanP.up hR hX1)
 rintro w H2 ⟨u,l2,hr,_,hP2,hX2⟩
 rw [hr,Zn] at hR
 have hml:=Un hr
 have s2:=hX2.st
 have l2':=hX2.le
 simp [s2]
 refine Ug (Ifn R H pr d H.next (H.next+1) f l.length) (m:=f) ⟨Nat.le_refl _,⟨[],l2,.nils,hR,hP2,by rw [hX2.get _ (by omega) (by show H.next+1≠pr;omega)];exact g1,⟨s2,by omega,.nil,by simp [Za]⟩,by simp;omega⟩,by rw [hX2.get _ (by omega) (by show H.next≠pr;omega)];exact g0,hX1.trans hX2,hpr,Nat.le_refl _,Nat.lt_succ_self _,by omega,by simp,by simp,by simp⟩ ?_
 clear g0 g1 hP1 hX1 hX1n hH1 hR hP2 hX2 hr
 generalize hre:H.next+1=re at *
 generalize hr0' : H.next=r0 at *
 rintro k F H1 I
 obtain ⟨ps,l1,v,hY,hP1,hrow,hG,hlen⟩:=I.y
 have f0:=I.f0;have f2:=I.f2;have f3:=I.f3
 have s1:=I.ext.st
 have hkf:=I.kf;have hz:=I.row;have hX:=I.ext;have hr0:=I.hr0;have hr1:=I.hr1;have hr2:=I.hr2;have hp:=I.hp
 cases k with
 | zero=>rw [Xy] at hY;exact absurd hY.symm hne
 | succ k =>
 rw [Xy] at hY
 have nxt:∀ F' H',Ifn R H pr d r0 re f l.length k F' H'->∃ m',m' < k+1/\Ifn R H pr d r0 re f l.length m' F' H':=fun F' H' h=>⟨k,by omega,h⟩
 change wpP tab _ (.seq (.seq (.reg Zte) (.cond (.tmp 9) (.skip) (.exit 0))) (.block 1 (.seq (.seq (.reg Zug) (.cond (.tmp 13) (.reg Zuo) (.skip))) Zf6))) _ _ _
 simp [f0,s1]
 refine WF.rr (Xs hP1 sRp) ?_
 rintro w H2 ⟨rfl,hP2,hX2⟩
 have s2:=hX2.st
 have l0:=hX.le
 have l2:=hX2.le
 have hX02:=hX.trans hX2
 have hlv:=hG.sl.lenV 9
 have k2:H2.get re=some (exF v .nils):=by rw [hX2.get re hr2 (by show re≠pr;omega)];exact hrow
 have kz:H2.get r0=some exZ:=by rw [hX2.get r0 (by omega) (by show r0≠pr;omega)];exact hz
 cases hk:isK l1 sRp with
 | true =>
  rw [hk,if_pos rfl] at hP2 hY
  rw [Zn] at hY
  have c5:=hG.sl.one;have c6:=hG.sl.cells
  simp [s2,f0,f2,f3]
  refine (ihB H2 pr d l1.tail hP2 (Yp hY hne)).mono ?_ (PanP.up hY hX02)
  rintro w H3 ⟨b,l3,hr,hT,hP3,hX3⟩
  rw [hr,Zn] at hY
  have s3:=hX3.st
  have l3':=hX3.le
  have k3:H3.get re=some (exF v .nils):=by rw [hX3.get re (by omega) (by show re≠pr;omega)];exact k2
  have kz3:H3.get r0=some exZ:=by rw [hX3.get r0 (by omega) (by show r0≠pr;omega)];exact kz
  have q1:=hT.one;have q2:=hT.cells
  have o3:=Zi (show r0≠re by omega)
  simp [s3,f0,f2,f3,k3,kz3,c5,c6,q1,q2,Hp.get_put,o3]
  have hG3:=Zwk hG hp (hX2.trans hX3)
  have hrows:=hG3.rows
  have old:∀ c,c≠re->c≠r0->((H3.put re (exF v w)).put r0 (exF v w)).get c=H3.get c:=fun c h1 h2=>by rw [Zf _ h2,Zf _ h1]
  refine ⟨_,l3,hY.symm,⟨_,rfl,?_⟩,hP3.of_get s3 (Nat.le_refl _) fun c hc=>old c (by omega) (by omega),((hX02.trans hX3).putX _ (.inr (by omega))).putX _ (.inr hr0)⟩
  simp only [Ze]
  refine ⟨_,_,_,rfl,.inl ⟨.inl rfl,rfl⟩,Z0.of_slAt (e:=9) (hG3.sl.of_get fun b hb=>old b (fun h=>(hrows b hb).2.2 (.inl h)) (fun h=>(hrows b hb).2.2 (.inr h))) (fun b hb=>⟨⟨(hrows b hb).1,(hrows b hb).2.1⟩,(hrows b hb).2.1⟩) rfl,?_⟩
  exact Zk.mono ⟨fun c hc hx=>⟨by have:=hc.1;omega,hx⟩,fun c hc hx=>old c (by have:=hc.1;omega) (by have:=hc.1;omega),Nat.le_refl _⟩ hT
 | false =>
  rw [hk,if_neg (by decide)] at hP2 hY
  by_cases he:ps=[]
  ·subst he
   rw [List.isEmpty_nil,W5,if_pos rfl,Zn] at hY
   simp [s2,f3,k2,hlv]
   refine Zsx hne ?_ (by omega) hrow hG (by omega) hlen hz hX hX2 hP2 hp hr0 hr1 hr2 (by simp [f0]) (by simp [f2]) (by simp [f3]) nxt
   rw [<- hY,Zdu]
  ·have hpos:0 < ps.length:=List.length_pos_iff.2 he
   have hpos' : (0:Int) < (ps.length:Int):=by omega
   rw [List.isEmpty_eq_false_iff.2 he,W5,if_neg (by decide),Zdu] at hY
   simp [s2,f3,k2,hlv,hpos,hpos',f0]
   refine (Xt hP2 Zh0).mono ?_ (PanP.up hY hX02)
   rintro w H3 ⟨u,l3,hr,_,hP3,hX3⟩
   rw [hr,Zn,Zdu] at hY
   have:=Un hr
   simp [hX3.st]
   exact Zsx hne hY (by omega) hrow hG (by omega) (by omega) hz hX (hX2.trans hX3) hP3 hp hr0 hr1 hr2 (by simp [f0]) (by simp [f2]) (by simp [f3]) nxt
end Go.AM.YtlillgmgpmbfnaaGreatDoorT
set_option maxRecDepth 100000
namespace Go.AM.YtlillgmgpmbfnaaGreatDoorT
open Go Go.AM Go.Proofs
theorem Z1p {K:Nat->Prop} {H:Hp} (op:Nat) (num:Int) (text:Bs):Ze K H (.ex op num text [] [] []) [.int .i64 op,.int .i64 num,.str text,.nils,.nils,.nils]:=by
 simp only [Ze]
 exact ⟨_,_,_,rfl,.inl ⟨.inl rfl,rfl⟩,.inl ⟨.inl rfl,rfl⟩,.inl ⟨.inl rfl,rfl⟩⟩
theorem Z5b {f:Nat} (ihW:Xj f) (ihR:PRec f) (ihF:Zpt f):POne (f+1):=by
 intro H pr d l hP hne
 have hst:=hP.st
 have hpr:=hP.lt
 generalize hR:oneY (f+1) d l=R at *
 rw [oneY] at hR
 refine Yb3 (Ye _ ?_)
 have hE0:Ext (eqR pr) H (H.new exZ):=Ext.new hst _
 have hP0:PAt (H.new exZ) pr l d:=hP.of_get hE0.st hE0.le fun c hc=>Z9 _ (by omega)
 obtain ⟨v,h1,h2⟩:=hP.row
 obtain ⟨b,off,e',ro,cells,rfl,g1,g3,g4,g5,g6,g7,g8,g9,g10,g11,g12⟩:=h2.head hP.ends
 have hlt:(0:Int) < (l.length:Int):=by omega
 have o1:=Zp hpr
 have o2:=Zp (Nat.lt_trans g1 hpr)
 have o3:=Zi (Nat.ne_of_lt g1)
 have hE1:Ext (eqR pr) H (((H.new exZ).new tkZ).put (H.next+1) (tkO (hdT l))):=hE0.trans (midE (pr:=pr) hE0.st (hdT l))
 generalize hH1:((H.new exZ).new tkZ).put (H.next+1) (tkO (hdT l))=H1 at *
 have nx1:H1.next=H.next+2:=by rw [<- hH1];rfl
 have s1:=hE1.st
 have gt:H1.get (H.next+1)=some (tkO (hdT l)):=by rw [<- hH1];exact Zd _ _ _
 have gz:H1.get H.next=some exZ:=by rw [<- hH1];simp [Hp.get_put,Hp.get_new]
 have old:∀ c,c < H.next->H1.get c=H.get c:=fun c hc=>by rw [<- hH1];simp [Hp.get_put,Hp.get_new,Zp hc]
 have hP1:PAt H1 pr l d:=hP.of_get s1 (by omega) fun c hc=>old c (by omega)
 have bare:∀ (op:Nat) (num:Int) (text:Bs) (l' : List Tk) (H2:Hp),R = .ok (.ex op num text [] [] []) l'->PAt H2 pr l' d->Ext (eqR pr) H H2->∃ a l',R = .ok a l'/\ExV H (H2.put H.next (.row 35 6 false [.int .i64 op,.int .i64 num,.str text,.nils,.nils,.nils])) a (.agg [.int .i64 op,.int .i64 num,.str text,.nils,.nils,.nils])/\PAt (H2.put H.next (.row 35 6 false [.int .i64 op,.int .i64 num,.str text,.nils,.nils,.nils])) pr l' d/\Ext (eqR pr) H (H2.put H.next (.row 35 6 false [.int .i64 op,.int .i64 num,.str text,.nils,.nils,.nils])):=fun op num text l' H2 hr hP2 hX2 =>
  ⟨_,l',hr,⟨_,rfl,Z1p op num text⟩,hP2.of_get hP2.st (Nat.le_refl _) fun c hc=>Zf _ (by omega),hX2.putX _ (.inr (Nat.le_refl _))⟩
 have full:∀ (e:Tx) (cs:List V) (l' : List Tk) (H2 H3:Hp),R = .ok e l'->H1.next<=H2.next->Ze (since H2 H3) H3 e cs->PAt H3 pr l' d->Ext (eqR pr) H H3->∃ a l',R = .ok a l'/\ExV H (H3.put H.next (.row 35 6 false cs)) a (.agg cs)/\PAt (H3.put H.next (.row 35 6 false cs)) pr l' d/\Ext (eqR pr) H (H3.put H.next (.row 35 6 false cs)):=fun e cs l' H2 H3 hr hn hT hP3 hX3=>by
  obtain ⟨a1,a2,a3⟩:=fin1 (r0:=H.next) (o:=.row 35 6 false cs) hP3 hT hX3 (Nat.le_refl _) hpr (by omega) (by omega)
  exact ⟨e,l',hr,a1,a2,a3⟩
 have gzs:∀ H2,Ext (eqR pr) H1 H2->H2.get H.next=some exZ:=fun H2 h=>by rw [h.get _ (by omega) (by show H.next≠pr;omega)];exact gz
 by_cases hk2:(hdT l).k=2
 ·have hk0:(hdT l).k≠0:=by rw [hk2];decide
  obtain ⟨g13,g14⟩:=g12 hk0
  have g14' : (1:Int) < (l.length:Int):=by omega
  have g15:¬ (l.length:Int) < 1:=by omega
  rw [if_pos hk2] at hR
  have hr1:H1.get pr=some (.row 92 2 false [.sl b off l.length none 4,.int .i64 d]):=by rw [old _ hpr];exact h1
  have e1:((hdT l).k==2)=true:=by rw [hk2];rfl
  have o4:=Zi (show H.next+1≠pr by omega)
  have o5:=Zi (show H.next≠pr by omega)
  simp [hst,h1,g3,g5,g7,hlt,g6,o1,o2,o3,Hp.get_new,hH1,gt,e1,s1,hr1,Yw,Zb,g14,g14',g15,Hp.get_put,o4,o5,gz]
  refine bare 3 (hdT l).x [] l.tail _ hR.symm (hP1.set s1 (Nat.le_refl _) (Zd _ _ _) (g13.of_get fun c hc=>old c (by omega)) (hP.ends.tail hk0) hP.dp fun c hc=>Zf _ (Nat.ne_of_lt hc)) (hE1.putX _ (.inl rfl))
 have e2:((hdT l).k==2)=false:=beq_false_of_ne hk2
 rw [if_neg hk2] at hR
 by_cases hk3:(hdT l).k=3
 ·have hk0:(hdT l).k≠0:=by rw [hk3];decide
  obtain ⟨g13,g14⟩:=g12 hk0
  have g14' : (1:Int) < (l.length:Int):=by omega
  have g15:¬ (l.length:Int) < 1:=by omega
  rw [if_pos hk3] at hR
  have hr1:H1.get pr=some (.row 92 2 false [.sl b off l.length none 4,.int .i64 d]):=by rw [old _ hpr];exact h1
  have e1:((hdT l).k==3)=true:=by rw [hk3];rfl
  have o4:=Zi (show H.next+1≠pr by omega)
  have o5:=Zi (show H.next≠pr by omega)
  simp [hst,h1,g3,g5,g7,hlt,g6,o1,o2,o3,Hp.get_new,hH1,gt,e1,e2,s1,hr1,Yw,Zb,g14,g14',g15,Hp.get_put,o4,o5,gz]
  refine bare 4 0 (hdT l).t l.tail _ hR.symm (hP1.set s1 (Nat.le_refl _) (Zd _ _ _) (g13.of_get fun c hc=>old c (by omega)) (hP.ends.tail hk0) hP.dp fun c hc=>Zf _ (Nat.ne_of_lt hc)) (hE1.putX _ (.inl rfl))
 have e3:((hdT l).k==3)=false:=beq_false_of_ne hk3
 rw [if_neg hk3] at hR
 simp [hst,h1,g3,g5,g7,hlt,g6,o1,o2,o3,Hp.get_new,hH1,gt,e2,e3,s1]
 clear o1 o2 o3 e2 e3 g1 g3 g4 g5 g6 g7 g8 g9 g10 g11 g12 h2 h1 gt hlt
 refine WF.rr (Xs hP1 wNil) ?_
 rintro w H2 ⟨rfl,hP2,hX2⟩
 have s2:=hX2.st
 have Y2:Ext (eqR pr) H1 H2:=hX2
 cases hw2:isK l wNil with
 | true =>
  rw [hw2,if_pos rfl] at hP2 hR
  simp [s2,gzs _ Y2]
  exact bare 0 0 [] l.tail _ hR.symm hP2 (hE1.trans Y2)
 | false =>
 rw [hw2,if_neg (by decide)] at hP2 hR
 simp [s2]
 refine WF.rr (Xs hP2 Zks) ?_
 rintro w H3 ⟨rfl,hP3,hX3⟩
 have s3:=hX3.st
 have Y3:Ext (eqR pr) H1 H3:=Y2.trans hX3
 cases hw3:isK l Zks with
 | true =>
  rw [hw3,if_pos rfl] at hP3 hR
  simp [s3,gzs _ Y3]
  exact bare 2 0 [] l.tail _ hR.symm hP3 (hE1.trans Y3)
 | false =>
 rw [hw3,if_neg (by decide)] at hP3 hR
 simp [s3]
 refine WF.rr (Xs hP3 Zik) ?_
 rintro w H4 ⟨rfl,hP4,hX4⟩
 have s4:=hX4.st
 have Y4:Ext (eqR pr) H1 H4:=Y3.trans hX4
 cases hw4:isK l Zik with
 | true =>
  rw [hw4,if_pos rfl] at hP4 hR
  simp [s4,gzs _ Y4]
  exact bare 1 0 [] l.tail _ hR.symm hP4 (hE1.trans Y4)
 | false =>
 rw [hw4,if_neg (by decide)] at hP4 hR
 simp [s4]
 refine WF.rr (Xs hP4 sLp) ?_
 rintro w H5 ⟨rfl,hP5,hX5⟩
 have s5:=hX5.st
 have Y5:Ext (eqR pr) H1 H5:=Y4.trans hX5
 cases hw5:isK l sLp with
 | true =>
  rw [hw5,if_pos rfl] at hP5 hR
  simp [s5]
  refine (ihW H5 pr d l.tail hP5 (Yp hR hne)).mono ?_ (PanP.up hR (hE1.trans Y5))
  rintro v H8 ⟨e,l8,hr,⟨cs,rfl,hT⟩,hP8,hX8⟩
  rw [hr,Zn] at hR
  obtain ⟨d0,d1,d2,d3,d4,d5,rfl,n0,n1,n2,n3,n4,n5⟩:=hT.six
  have s8:=hX8.st
  have l8':=hX8.le
  have lY:=Y5.le
  have Y8:Ext (eqR pr) H1 H8:=Y5.trans hX8
  simp [s8,n0,n1,n2,n3,n4,n5]
  generalize hH9:(H8.new exZ).put H8.next (.row 35 6 false [d0,d1,d2,d3,d4,d5])=H9
  have nx9:H9.next=H8.next+1:=by rw [<- hH9];rfl
  have X9n:Ext noX H8 H9:=hH9 ▸ (Ext.new s8 _).putX _ (.inr (Nat.le_refl _))
  have X9:Ext (eqR pr) H8 H9:=X9n.no
  have k9:H9.get H8.next=some (.row 35 6 false [d0,d1,d2,d3,d4,d5]):=by rw [<- hH9];exact Zd _ _ _
  have hP9:PAt H9 pr l8 d:=hP8.ext X9n fun c _ h=>h
  have Y9:=Y8.trans X9
  refine (Xt hP9 sRp).mono ?_ (PanP.up hR (hE1.trans Y9))
  rintro v H10 ⟨u,l10,hr10,_,hP10,hX10⟩
  rw [hr10,Zn] at hR
  have Y10:=Y9.trans hX10
  have l10':=hX10.le
  have hp8:=hP8.lt
  have k10:H10.get H8.next=some (.row 35 6 false [d0,d1,d2,d3,d4,d5]):=by rw [hX10.get _ (by omega) (by show H8.next≠pr;omega)];exact k9
  simp [hX10.st,k10,gzs _ Y10,n0,n1,n2,n3,n4,n5]
  refine full e _ l10 H5 H10 hR.symm lY (Ze.mono ⟨fun c hc hx=>⟨hc.1,by omega⟩,fun c hc hx=>(X9.trans hX10).get c hx (by have:=hc.1;show c≠pr;omega),by omega⟩ _ _ hT) hP10 (hE1.trans Y10)
 | false =>
 rw [hw5,if_neg (by decide)] at hP5 hR
 simp [s5]
 refine WF.rr (Xs hP5 sLc) ?_
 rintro w H6 ⟨rfl,hP6,hX6⟩
 have s6:=hX6.st
 have Y6:Ext (eqR pr) H1 H6:=Y5.trans hX6
 cases hw6:isK l sLc with
 | true =>
  rw [hw6,if_pos rfl] at hP6 hR
  simp [s6]
  refine (ihR H6 pr d l.tail hP6 (by rw [hR];exact hne)).mono ?_ (by rw [hR];exact PanP.ext (hE1.trans Y6))
  rintro v H18 ⟨e,l8,hr,⟨cs,rfl,hT⟩,hP18,hX18⟩
  obtain ⟨d0,d1,d2,d3,d4,d5,rfl,n0,n1,n2,n3,n4,n5⟩:=hT.six
  have lY:=Y6.le
  simp [hX18.st,gzs _ (Y6.trans hX18),n0,n1,n2,n3,n4,n5]
  exact full e _ l8 H6 H18 (by rw [<- hR];exact hr) lY hT hP18 (hE1.trans (Y6.trans hX18))
 | false =>
 rw [hw6,if_neg (by decide)] at hP6 hR
 simp [s6]
 refine WF.rr (Xs hP6 wFn) ?_
 rintro w H7 ⟨rfl,hP7,hX7⟩
 have s7:=hX7.st
 have Y7:Ext (eqR pr) H1 H7:=Y6.trans hX7
 cases hw7:isK l wFn with
 | true =>
  rw [hw7,if_pos rfl] at hP7 hR
  simp [s7]
  refine (ihF H7 pr d l.tail R hP7 hR hne).mono ?_ (PanP.ext (hE1.trans Y7))
  rintro v H18 ⟨e,l8,hr,⟨cs,rfl,hT⟩,hP18,hX18⟩
  obtain ⟨d0,d1,d2,d3,d4,d5,rfl,n0,n1,n2,n3,n4,n5⟩:=hT.six
  have lY:=Y7.le
  simp [hX18.st,gzs _ (Y7.trans hX18),n0,n1,n2,n3,n4,n5]
  exact full e _ l8 H7 H18 (by exact hr) lY hT hP18 (hE1.trans (Y7.trans hX18))
 | false =>
 rw [hw7,if_neg (by decide)] at hP7 hR
 simp [s7]
 refine (Jw hP7).mono ?_ (PanP.up hR (hE1.trans Y7))
 rintro v H18 ⟨s,l8,hr,rfl,hP18,hX18⟩
 rw [hr,Zn] at hR
 simp [hX18.st,gzs _ (Y7.trans hX18)]
 exact bare 5 0 s l8 _ hR.symm hP18 (hE1.trans (Y7.trans hX18))
end Go.AM.YtlillgmgpmbfnaaGreatDoorT
namespace Go.AM
open Go
def Px {α:Type} (p:α->Prop) (r:PR α):Prop:=∀ a l,r = .ok a l->p a
theorem Px.bind {α β:Type} {p:α->Prop} {q:β->Prop} {r:PR α} {g:α->List Tk->PR β} (h:Px p r) (hg:∀ a l,p a->Px q (g a l)):Px q (r.bind g):=by
 cases r with
 | ok a l=>exact hg a l (h a l rfl)
 | err a e=>intro _ _ h;cases h
 | out=>intro _ _ h;cases h
theorem Px.ok {α:Type} {p:α->Prop} {a:α} {l:List Tk} (h:p a):Px p (.ok a l):=fun _ _ e=>by cases e;exact h
theorem Px.err {α:Type} {p:α->Prop} {a:Nat} {e:Int}:Px p (.err a e:PR α):=fun _ _ h=>by cases h
theorem Px.any {α:Type} {r:PR α}:Px (fun _=>True) r:=fun _ _ _=>trivial
theorem Px.ite {α:Type} {p:α->Prop} {c:Prop} [Decidable c] {a b:PR α} (h:Px p a) (h' : Px p b):Px p (if c then a else b):=by split<;>assumption
theorem Zgi {a b:List Tx} (ha:eoks a) (hb:eoks b):eoks (a++b):=by
 induction a with
 | nil=>exact hb
 | cons x r ih=>simp only [eoks,List.cons_append] at ha ⊢;exact ⟨ha.1,ih ha.2⟩
theorem Zkz {a b:List Tx} (ha:soks a) (hb:soks b):soks (a++b):=by
 induction a with
 | nil=>exact hb
 | cons x r ih=>simp only [soks,List.cons_append] at ha ⊢;exact ⟨ha.1,ih ha.2⟩
theorem Uc (op:Nat) (num:Int) (text:Bs):(Tx.ex op num text [] [] []).eok:=by simp only [Tx.eok,eoks,soks,and_self]
theorem Zop {op:Nat} {e:Tx} (h:e.eok):(Tx.ex op 0 [] [e] [] []).eok:=by simp only [Tx.eok,eoks,soks,and_true];exact h
theorem Zfo {op:Nat} {e y:Tx} (h:e.eok) (h' : y.eok):(Tx.ex op 0 [] [e,y] [] []).eok:=by simp only [Tx.eok,eoks,soks,and_true];exact ⟨h,h'⟩
structure Ek (f:Nat):Prop where
 whole:∀ d l,Px Tx.eok (Zu f d l)
 expr:∀ n d l,Px Tx.eok (exprY f n d l)
 lvl:∀ n d e l,e.eok->Px Tx.eok (lvlY f n d e l)
 unary:∀ d l,Px Tx.eok (unaryY f d l)
 post:∀ d e l,e.eok->Px Tx.eok (postY f d e l)
 list:∀ d acc l,eoks acc->Px eoks (listY f d acc l)
 one:∀ d l,Px Tx.eok (oneY f d l)
 record:∀ d acc l,eoks acc->Px Tx.eok (recY f d acc l)
 block:∀ d l,Px soks (blockY f d l)
 stmts:∀ d acc l,soks acc->Px soks (stmtsY f d acc l)
 stmt:∀ d l,Px Tx.sok (stmtY f d l)
theorem Zzd:Ek 0:=by
 constructor<;>intros<;>simp only [Zu,exprY,lvlY,unaryY,postY,listY,oneY,recY,Xy,blockY,stmtsY,stmtY]<;>intro _ _ h<;>cases h
theorem Zco {k:Nat} {s:Bs} {e:Tx} {a:Int} (h:e.eok):(Tx.st k s [e] [] [] a).sok:=by simp only [Tx.sok,eoks,soks,and_true];exact h
theorem Zgv {k:Nat} {s:Bs} {e:Tx} {b c:List Tx} {a:Int} (h:e.eok) (hb:soks b) (hc:soks c):(Tx.st k s [e] b c a).sok:=by simp only [Tx.sok,eoks,and_true];exact ⟨h,hb,hc⟩
theorem Zvz {w:List Tk->PR Tx} (hw:∀ l,Px Tx.eok (w l)) (a:Nat) (e:Tx) (l:List Tk) (he:e.eok):Px Tx.sok (Vg w a e l):=by
 unfold Vg
 split
 ·split
  ·exact (hw _).bind fun x l1 hx=>Px.any.bind fun _ l2 _=>.ok (Zco hx)
  ·exact (hw _).bind fun x l1 hx=>Px.any.bind fun _ l2 _=>.ok (by
    simp only [Tx.eok] at he
    simp only [Tx.sok,soks,and_true]
    exact Zgi he.1 (by simp only [eoks,and_true];exact hx))
  ·exact .err
 ·exact Px.any.bind fun _ l1 _=>.ok (Zco he)
theorem Z01 {f:Nat} (T:Ek f):Ek (f+1) where
 whole d l:=by rw [Zu];exact .ite .err (T.expr _ _ _)
 expr n d l:=by rw [exprY];exact .ite (T.unary _ _) ((T.expr _ _ _).bind fun e l1 he=>T.lvl _ _ _ _ he)
 lvl n d e l he:=by
  rw [lvlY]
  split
  ·exact .ok he
  ·exact (T.expr _ _ _).bind fun y l1 hy=>.ite (.ok (Zfo he hy)) (T.lvl _ _ _ _ (Zfo he hy))
 unary d l:=by
  rw [unaryY]
  exact .ite (.ite .err ((T.unary _ _).bind fun e l1 he=>.ok (Zop he))) (.ite (.ite .err ((T.unary _ _).bind fun e l1 he=>.ok (Zop he))) ((T.one _ _).bind fun e l1 he=>T.post _ _ _ he))
 post d e l he:=by
  rw [postY]
  exact .ite ((T.list _ _ _ (by simp only [eoks])).bind fun a l1 ha=>T.post _ _ _ (by simp only [Tx.eok,eoks,soks,and_true];exact ⟨he,ha⟩))
   (.ite ((T.whole _ _).bind fun k l1 hk=>Px.any.bind fun _ l2 _=>T.post _ _ _ (Zfo he hk))
   (.ite (Px.any.bind fun s l1 _=>T.post _ _ _ (Zfo he (Uc _ _ _))) (.ok he)))
 list d acc l ha:=by
  rw [listY]
  exact .ite (.ok ha) (Px.any.bind fun _ l1 _=>(T.whole _ _).bind fun e l2 he=>T.list _ _ _ (Zgi ha (by simp only [eoks,and_true];exact he)))
 one d l:=by
  rw [oneY]
  refine .ite (.ok (Uc _ _ _)) (.ite (.ok (Uc _ _ _)) (.ite (.ok (Uc _ _ _)) (.ite (.ok (Uc _ _ _)) (.ite (.ok (Uc _ _ _)) (.ite ?_ (.ite ?_ (.ite ?_ ?_)))))))
  ·exact (T.whole _ _).bind fun e l1 he=>Px.any.bind fun _ l2 _=>.ok he
  ·exact T.record _ _ _ (by simp only [eoks])
  ·exact Px.any.bind fun _ l1 _=>Px.any.bind fun ps l2 _=>(T.block _ _).bind fun b l3 hb=>.ok (by simp only [Tx.eok,eoks,true_and];exact hb)
  ·exact Px.any.bind fun s l1 _=>.ok (Uc _ _ _)
 record d acc l ha:=by
  rw [recY]
  refine .ite (.ok (by simp only [Tx.eok,soks,and_true];exact ha)) (Px.any.bind fun _ l1 _=>?_)
  refine Px.bind (p:=Tx.eok) (.ite ((T.whole _ _).bind fun k l2 hk=>Px.any.bind fun _ l3 _=>.ok hk) (Px.any.bind fun s l2 _=>.ok (Uc _ _ _))) fun k l2 hk=>?_
  exact Px.any.bind fun _ l3 _=>(T.whole _ _).bind fun v l4 hv=>T.record _ _ _ (Zgi ha (by simp only [eoks,and_true];exact ⟨hk,hv⟩))
 block d l:=by
  rw [blockY]
  exact Px.any.bind fun _ l1 _=>.ite .err (T.stmts _ _ _ (by simp only [soks]))
 stmts d acc l ha:=by
  rw [stmtsY]
  exact .ite (.ok ha) ((T.stmt _ _).bind fun s l1 hs=>T.stmts _ _ _ (Zkz ha (by simp only [soks,and_true];exact hs)))
 stmt d l:=by
  rw [stmtY]
  refine .ite ?_ (.ite ?_ (.ite ?_ (.ite ?_ (.ite ?_ (.ite ?_ ?_)))))
  ·exact (T.whole _ _).bind fun e l1 he=>Px.any.bind fun _ l2 _=>.ok (Zco he)
  ·exact (T.whole _ _).bind fun e l1 he=>Px.any.bind fun _ l2 _=>.ok (Zco he)
  ·exact Px.any.bind fun s l1 _=>Px.any.bind fun _ l2 _=>(T.whole _ _).bind fun e l3 he=>Px.any.bind fun _ l4 _=>.ok (Zco he)
  ·exact (T.whole _ _).bind fun e l1 he=>(T.block _ _).bind fun b l2 hb=>.ite ((T.block _ _).bind fun c l3 hc=>.ok (Zgv he hb hc)) (.ok (Zgv he hb (by simp only [soks])))
  ·exact (T.whole _ _).bind fun e l1 he=>(T.block _ _).bind fun b l2 hb=>.ok (Zgv he hb (by simp only [soks]))
  ·exact (T.block _ _).bind fun b l1 hb=>Px.any.bind fun _ l2 _=>Px.any.bind fun s l3 _=>(T.block _ _).bind fun c l4 hc=>.ok (by simp only [Tx.sok,eoks,true_and];exact ⟨hb,hc⟩)
  ·exact (T.whole _ _).bind fun e l1 he=>Zvz (fun l=>T.whole _ _) _ _ _ he
theorem Zlc:∀ f,Ek f
 | 0=>Zzd
 | f+1=>Z01 (Zlc f)
theorem Zof:∀ (f:Nat) (acc:List Tx) (l:List Tk),soks acc->Px soks (modY f acc l)
 | 0,acc,l,h=>fun _ _ e=>by cases e
 | f+1,acc,l,h=>by
  rw [modY]
  exact .ite (.ok h) (((Zlc f).stmt _ _).bind fun s l1 hs=>Zof f _ l1 (Zkz h (by simp only [soks,and_true];exact hs)))
theorem Zxd {f d:Nat} {l l' : List Tk} {e:Tx} (h:Zu f d l = .ok e l'):∃ op num text ps qs b,e = .ex op num text ps qs b:=by
 have:=(Zlc f).whole d l e l' h
 cases e with
 | ex op num text ps qs b=>exact ⟨_,_,_,_,_,_,rfl⟩
 | st=>simp only [Tx.eok] at this
theorem Zdk {a b:List Tx} (ha:poks a) (hb:poks b):poks (a++b):=by
 induction a with
 | nil=>exact hb
 | cons x r ih=>simp only [poks,List.cons_append] at ha ⊢;exact ⟨ha.1,ih ha.2⟩
theorem J9 {x:Tx} (h:x.pok):poks [x]:=by simp only [poks,and_true];exact h
theorem Zk3 {x y:Tx} (h:x.pok) (h' : y.pok):poks [x,y]:=by simp only [poks,and_true];exact ⟨h,h'⟩
theorem Xm:poks []:=by simp only [poks]
theorem Uf {op:Nat} (h:op < 6) (num:Int) (text:Bs):(Tx.ex op num text [] [] []).pok:=by
 simp only [Tx.pok,poks,List.length_nil]
 refine ⟨?_,?_,?_,?_,?_,trivial,trivial⟩<;>first | omega | (intros;simp;done) | (intros;omega)
theorem Zot {op:Nat} (h:op=6\/op=7) {e:Tx} (he:e.pok):(Tx.ex op 0 [] [e] [] []).pok:=by
 simp only [Tx.pok,List.length_singleton]
 refine ⟨?_,?_,?_,?_,?_,J9 he,Xm⟩<;>first | omega | (intros;simp;done) | (intros;omega)
theorem Zfj {op:Nat} (h:8<=op) (h' : op<=14) {e y:Tx} (he:e.pok) (hy:y.pok):(Tx.ex op 0 [] [e,y] [] []).pok:=by
 simp only [Tx.pok,List.length_cons,List.length_nil]
 refine ⟨?_,?_,?_,?_,?_,Zk3 he hy,Xm⟩<;>first | omega | (intros;simp;done) | (intros;omega)
theorem Z54 {n:Nat} {t:Bs} {op:Nat} (h:lvY n t=some op):8<=op/\op<=14:=by
 unfold lvY at h
 repeat' split at h
 all_goals (cases h<;>omega)
theorem Zct {k:Nat} (hk:k < 9) (h2:k≠2) {s:Bs} {e:Tx} {a:Int} (h:e.pok):(Tx.st k s [e] [] [] a).pok:=by
 simp only [Tx.pok,List.length_singleton]
 refine ⟨hk,?_,?_,J9 h,Xm,Xm⟩<;>first | omega | (intros;simp;done) | (intros;omega)
theorem Zf9 {k:Nat} (hk:k < 9) (h2:k≠2) {s:Bs} {e:Tx} {b c:List Tx} {a:Int} (h:e.pok) (hb:poks b) (hc:poks c):(Tx.st k s [e] b c a).pok:=by
 simp only [Tx.pok,List.length_singleton]
 refine ⟨hk,?_,?_,J9 h,hb,hc⟩<;>first | omega | (intros;simp;done) | (intros;omega)
structure Pk (f:Nat):Prop where
 whole:∀ d l,Px Tx.pok (Zu f d l)
 expr:∀ n d l,Px Tx.pok (exprY f n d l)
 lvl:∀ n d e l,e.pok->Px Tx.pok (lvlY f n d e l)
 unary:∀ d l,Px Tx.pok (unaryY f d l)
 post:∀ d e l,e.pok->Px Tx.pok (postY f d e l)
 list:∀ d acc l,poks acc->Px poks (listY f d acc l)
 one:∀ d l,Px Tx.pok (oneY f d l)
 record:∀ d acc l,poks acc->acc.length % 2=0->Px Tx.pok (recY f d acc l)
 block:∀ d l,Px poks (blockY f d l)
 stmts:∀ d acc l,poks acc->Px poks (stmtsY f d acc l)
 stmt:∀ d l,Px Tx.pok (stmtY f d l)
theorem Z1f:Pk 0:=by
 constructor<;>intros<;>simp only [Zu,exprY,lvlY,unaryY,postY,listY,oneY,recY,Xy,blockY,stmtsY,stmtY]<;>intro _ _ h<;>cases h
theorem Zwh {w:List Tk->PR Tx} (hw:∀ l,Px Tx.pok (w l)) (a:Nat) (e:Tx) (l:List Tk) (he:e.pok):Px Tx.pok (Vg w a e l):=by
 unfold Vg
 split
 ·split
  ·exact (hw _).bind fun x l1 hx=>Px.any.bind fun _ l2 _=>.ok (Zct (by omega) (by omega) hx)
  ·exact (hw _).bind fun x l1 hx=>Px.any.bind fun _ l2 _=>.ok (by
    simp only [Tx.pok] at he ⊢
    obtain ⟨h1,h2,h3,h4,h5,h6,h7⟩:=he
    have:=h5 (by omega) (by omega)
    refine ⟨by omega,fun _=>by simp [this],fun h=>absurd rfl h,Zdk h6 (J9 hx),Xm,Xm⟩)
  ·exact .err
 ·exact Px.any.bind fun _ l1 _=>.ok (Zct (by omega) (by omega) he)
theorem Z0k {f:Nat} (T:Pk f):Pk (f+1) where
 whole d l:=by rw [Zu];exact .ite .err (T.expr _ _ _)
 expr n d l:=by rw [exprY];exact .ite (T.unary _ _) ((T.expr _ _ _).bind fun e l1 he=>T.lvl _ _ _ _ he)
 lvl n d e l he:=by
  rw [lvlY]
  split
  ·exact .ok he
  ·rename_i op h1
   have h2:lvY n (hdT l).t=some op:=by
    split at h1
    ·exact h1
    ·cases h1
   obtain ⟨h3,h4⟩:=Z54 h2
   exact (T.expr _ _ _).bind fun y l1 hy=>.ite (.ok (Zfj h3 h4 he hy)) (T.lvl _ _ _ _ (Zfj h3 h4 he hy))
 unary d l:=by
  rw [unaryY]
  exact .ite (.ite .err ((T.unary _ _).bind fun e l1 he=>.ok (Zot (.inl rfl) he))) (.ite (.ite .err ((T.unary _ _).bind fun e l1 he=>.ok (Zot (.inr rfl) he))) ((T.one _ _).bind fun e l1 he=>T.post _ _ _ he))
 post d e l he:=by
  rw [postY]
  exact .ite ((T.list _ _ _ Xm).bind fun a l1 ha=>T.post _ _ _ (by
    simp only [Tx.pok,List.length_cons]
    refine ⟨?_,?_,?_,?_,?_,by simp only [poks];exact ⟨he,ha⟩,Xm⟩<;>first | omega | (intros;simp;done) | (intros;omega)))
   (.ite ((T.whole _ _).bind fun k l1 hk=>Px.any.bind fun _ l2 _=>T.post _ _ _ (Zfj (by omega) (by omega) he hk))
   (.ite (Px.any.bind fun s l1 _=>T.post _ _ _ (Zfj (by omega) (by omega) he (Uf (by omega) _ _))) (.ok he)))
 list d acc l ha:=by
  rw [listY]
  exact .ite (.ok ha) (Px.any.bind fun _ l1 _=>(T.whole _ _).bind fun e l2 he=>T.list _ _ _ (Zdk ha (J9 he)))
 one d l:=by
  rw [oneY]
  refine .ite (.ok (Uf (by omega) _ _)) (.ite (.ok (Uf (by omega) _ _)) (.ite (.ok (Uf (by omega) _ _)) (.ite (.ok (Uf (by omega) _ _)) (.ite (.ok (Uf (by omega) _ _)) (.ite ?_ (.ite ?_ (.ite ?_ ?_)))))))
  ·exact (T.whole _ _).bind fun e l1 he=>Px.any.bind fun _ l2 _=>.ok he
  ·exact T.record _ _ _ Xm rfl
  ·exact Px.any.bind fun _ l1 _=>Px.any.bind fun ps l2 _=>(T.block _ _).bind fun b l3 hb=>.ok (by
    simp only [Tx.pok,List.length_nil]
    refine ⟨?_,?_,?_,?_,?_,Xm,hb⟩<;>first | omega | (intros;simp;done) | (intros;omega))
  ·exact Px.any.bind fun s l1 _=>.ok (Uf (by omega) _ _)
 record d acc l ha hl:=by
  rw [recY]
  refine .ite (.ok (by
    simp only [Tx.pok]
    refine ⟨?_,?_,?_,?_,?_,ha,Xm⟩<;>first | omega | (intros;simp;done) | (intros;omega))) (Px.any.bind fun _ l1 _=>?_)
  refine Px.bind (p:=Tx.pok) (.ite ((T.whole _ _).bind fun k l2 hk=>Px.any.bind fun _ l3 _=>.ok hk) (Px.any.bind fun s l2 _=>.ok (Uf (by omega) _ _))) fun k l2 hk=>?_
  exact Px.any.bind fun _ l3 _=>(T.whole _ _).bind fun v l4 hv=>T.record _ _ _ (Zdk ha (Zk3 hk hv)) (by simp;omega)
 block d l:=by
  rw [blockY]
  exact Px.any.bind fun _ l1 _=>.ite .err (T.stmts _ _ _ Xm)
 stmts d acc l ha:=by
  rw [stmtsY]
  exact .ite (.ok ha) ((T.stmt _ _).bind fun s l1 hs=>T.stmts _ _ _ (Zdk ha (J9 hs)))
 stmt d l:=by
  rw [stmtY]
  refine .ite ?_ (.ite ?_ (.ite ?_ (.ite ?_ (.ite ?_ (.ite ?_ ?_)))))
  ·exact (T.whole _ _).bind fun e l1 he=>Px.any.bind fun _ l2 _=>.ok (Zct (by omega) (by omega) he)
  ·exact (T.whole _ _).bind fun e l1 he=>Px.any.bind fun _ l2 _=>.ok (Zct (by omega) (by omega) he)
  ·exact Px.any.bind fun s l1 _=>Px.any.bind fun _ l2 _=>(T.whole _ _).bind fun e l3 he=>Px.any.bind fun _ l4 _=>.ok (Zct (by omega) (by omega) he)
  ·exact (T.whole _ _).bind fun e l1 he=>(T.block _ _).bind fun b l2 hb=>.ite ((T.block _ _).bind fun c l3 hc=>.ok (Zf9 (by omega) (by omega) he hb hc)) (.ok (Zf9 (by omega) (by omega) he hb Xm))
  ·exact (T.whole _ _).bind fun e l1 he=>(T.block _ _).bind fun b l2 hb=>.ok (Zf9 (by omega) (by omega) he hb Xm)
  ·exact (T.block _ _).bind fun b l1 hb=>Px.any.bind fun _ l2 _=>Px.any.bind fun s l3 _=>(T.block _ _).bind fun c l4 hc=>.ok (by
    simp only [Tx.pok]
    exact ⟨by omega,fun h=>by omega,fun _ h=>absurd rfl h,Xm,hb,hc⟩)
  ·exact (T.whole _ _).bind fun e l1 he=>Zwh (fun l=>T.whole _ _) _ _ _ he
theorem Zub:∀ f,Pk f
 | 0=>Z1f
 | f+1=>Z0k (Zub f)
theorem Znj {f d:Nat} {l l' : List Tk} {num:Int} {text:Bs} {ps:List Tx} {qs:Ts} {b:List Tx} (h:Zu f d l = .ok (.ex 14 num text ps qs b) l'):ps.length=2:=by
 have:=(Zub f).whole d l _ l' h
 simp only [Tx.pok] at this
 exact this.2.2.2.2.1 (by omega) (by omega)
end Go.AM
set_option maxRecDepth 100000
namespace Go.AM.YtlillgmgpmbfnaaGreatDoorT
open Go Go.AM Go.Proofs
abbrev stZ (a:Nat):Ob:=.row 30 6 false [.int .i64 0,.str [],.nils,.nils,.nils,.int .i64 a]
def PlQ (R:PR Tx) (H:Hp) (pr d sr:Nat) (v:V) (H' : Hp):Prop:=∃ t l' cs,R = .ok t l'/\H'.get sr=some (.row 30 6 false cs)/\Ze (fun b=>H.next<=b) H' t cs/\PAt H' pr l' d/\Ext (twoR pr sr) H H'
def PlP (R:PR Tx) (H:Hp) (pr sr:Nat) (v:V) (H' : Hp):Prop:=∃ a e,R = .err a e/\v=Zc8 a e/\Ext (twoR pr sr) H H'
def Z2e (k:Nat):Prop:=∀ (H:Hp) (pr d sr:Nat) (l:List Tk) (R:PR Tx),PAt H pr l d->pr < sr->sr < H.next->H.get sr=some (stZ (hdT l).at_)->((Zu k d l).bind fun e l1=>Vg (Zu k d) (hdT l).at_ e l1)=R->R≠.out ->
 WR tab 81 [.ptr pr 0,.ptr sr 0] H (PlQ R H pr d sr) (PlP R H pr sr)
theorem PlP.up {α:Type} {pr sr:Nat} {r:PR α} {g:α->List Tk->PR Tx} {R:PR Tx} {H H1:Hp} (hY:r.bind g=R) (hX:Ext (twoR pr sr) H H1):∀ v H',PanP pr r H1 v H'->PlP R H pr sr v H':=by
 rintro v H' ⟨a,e,rfl,rfl,h⟩
 exact ⟨a,e,hY.symm,rfl,hX.trans (h.mono fun b _ hb=>.inl hb)⟩
theorem Ziw {pr sr:Nat} {H H' : Hp} (h:Ext (eqR pr) H H'):Ext (twoR pr sr) H H':=h.mono fun b _ hb=>.inl hb
def Zp16:SCode:=.reg Zqn
def Zp11:SCode:=.seq (.reg Zt4) (.seq (.reg Zrp) (.seq (.reg Zu3) (.seq (.reg Zuz) (.cond (.tmp 75) (.dreg Zrr) (.skip)))))
def Zp3:SCode:=.seq (.seq (.reg Zyi) (.cond (.tmp 38) (.seq (.seq (.reg Zxg) (.block 0 (.seq (.reg Zy2) (.cond (.tmp 47) (.dreg Zxh) (.seq (.reg Zy3) (.cond (.tmp 57) (.reg Zup) (.seq (.reg Zyc) (.reg Zyn)))))))) Zp11) (.skip))) Zp16
section
variable {R:PR Tx} {H:Hp} {pr d sr re k:Nat} {l l1:List Tk} {F:Fr}
theorem Zf8 (hne:R≠.out) {H9:Hp} {t:Tx} {cs:List V} (hR:((Yf Vb l1).bind fun _ l=>PR.ok t l)=R) (hP9:PAt H9 pr l1 d) (hX9:Ext (twoR pr sr) H H9) (hpn:pr < H.next) (hps:pr < sr) (hsn:sr < H.next) (k9:H9.get sr=some (.row 30 6 false cs)) (hT:Ze (fun b=>H.next<=b) H9 t cs) (f0:F.get 0=some (.ptr pr 0)) :
  wpP tab (PlP R H pr sr) Zp16 F H9 (resQ tab [] (PlQ R H pr d sr)):=by
 have s9:=hX9.st
 have l9:=hX9.le
 simp [Zp16,f0,s9]
 refine (Xt hP9 Vb).mono ?_ (PlP.up hR hX9)
 rintro w H10 ⟨u,l10,hr,_,hP10,hX10⟩
 rw [hr,Zn] at hR
 simp [hX10.st]
 refine ⟨t,l10,cs,hR.symm,by rw [hX10.get sr (by omega) (by show sr≠pr;omega)];exact k9,Ze.mono ⟨fun c hc _=>hc,fun c hc hx=>hX10.get c hx (by have:H.next<=c:=hc;show c≠pr;omega),hX10.le⟩ _ _ hT,hP10,hX9.trans (Ziw hX10)⟩
set_option maxHeartbeats 1000000 in
theorem Zlu (ih:Xj k) (hne:R≠.out) {H4:Hp} {kind a op:Nat} {num:Int} {name text:Bs} {ps:List Tx} {v1 vp vq vb:V} (hk:kind=1\/kind=2) (hnm:kind=2->name=[])
  (hR:((Zu k d l1.tail).bind fun x l=>(Yf Vb l).bind fun _ l=>PR.ok (if kind=2 then .st 2 [] (ps++[x]) [] [] a else .st 1 name [x] [] [] a) l)=R) (he:isK l1 sEq=true) (hP4:PAt H4 pr l1 d) (hX4:Ext (twoR pr sr) H H4) (hpn:pr < H.next) (hps:pr < sr) (hsn:sr < H.next)
  (k4:H4.get sr=some (.row 30 6 false [.int .i64 kind,.str name,v1,.nils,.nils,.int .i64 a])) (hv1:oneV v1=true) (kre:H4.get re=some (.row 35 6 false [.int .i64 op,.int .i64 num,.str text,vp,vq,vb])) (hre:H.next<=re) (hre2:re < H4.next) (hTp:Zk (fun b=>H.next<=b) H4 ps vp)
  (f0:F.get 0=some (.ptr pr 0)) (f1:F.get 1=some (.ptr sr 0)) (f5:F.get 5=some (.ptr re 0)) (hpl:kind=2->ps.length<=100000) :
  wpP tab (PlP R H pr sr) (.seq Zp11 Zp16) F H4 (resQ tab [] (PlQ R H pr d sr)):=by
 have s4:=hX4.st
 have l4:=hX4.le
 simp [Zp11,f0,f1,f5,s4]
 refine (Xt hP4 sEq).mono ?_ ?_
 rotate_left
 ·rintro v H5 ⟨pa,pe,hr,_⟩
  rw [Yf,if_pos he] at hr;cases hr
 rintro w H5 ⟨u,l5,hr,_,hP5,hX5⟩
 rw [Yf,if_pos he] at hr;cases hr
 have l5:=hX5.le
 have X5:=hX4.trans (Ziw hX5)
 simp [hX5.st,f0,f1,f5]
 refine (ih H5 pr d l1.tail hP5 (Yp hR hne)).mono ?_ (PlP.up hR X5)
 rintro w H6 ⟨x,l6,hr6,⟨ds,rfl,hT6⟩,hP6,hX6⟩
 rw [hr6,Zn] at hR
 obtain ⟨d0,d1,d2,d3,d4,d5,rfl,n0,n1,n2,n3,n4,n5⟩:=hT6.six
 have s6:=hX6.st
 have l6':=hX6.le
 have X6:=X5.trans (Ziw hX6)
 have k6:H6.get sr=some (.row 30 6 false [.int .i64 kind,.str name,v1,.nils,.nils,.int .i64 a]):=by rw [hX6.get sr (by omega) (by show sr≠pr;omega),hX5.get sr (by omega) (by show sr≠pr;omega)];exact k4
 have kre6:H6.get re=some (.row 35 6 false [.int .i64 op,.int .i64 num,.str text,vp,vq,vb]):=by rw [hX6.get re (by omega) (by show re≠pr;omega),hX5.get re (by omega) (by show re≠pr;omega)];exact kre
 have o1:=Zp (show sr < H6.next by omega)
 have o2:=Zp (show re < H6.next by omega)
 have o3:=Zi (show re≠sr by omega)
 have o4:=Zi (show H6.next≠sr by omega)
 have mid:∀ (kv:V) (H7:Hp),(((H6.new exZ).put H6.next (.row 35 6 false [d0,d1,d2,d3,d4,d5])).new (.row 35 6 false [d0,d1,d2,d3,d4,d5])).put sr (.row 30 6 false [kv,.str name,.sl (H6.next+1) 0 1 none 6,.nils,.nils,.int .i64 a])=H7 ->
   H7.next=H6.next+2/\H7.stale=[]/\(∀ c,c < H6.next->c≠sr->H7.get c=H6.get c)/\H7.get sr=some (.row 30 6 false [kv,.str name,.sl (H6.next+1) 0 1 none 6,.nils,.nils,.int .i64 a])/\H7.get (H6.next+1)=some (.row 35 6 false [d0,d1,d2,d3,d4,d5])/\H7.get H6.next=some (.row 35 6 false [d0,d1,d2,d3,d4,d5])/\Ext (twoR pr sr) H H7/\PAt H7 pr l6 d/\Ze (fun b=>H.next<=b) H7 x [d0,d1,d2,d3,d4,d5]:=fun kv H7 hH7=>by
  have u1:=Zi (show H6.next+1≠sr by omega)
  have g7:∀ c,c < H6.next->c≠sr->H7.get c=H6.get c:=fun c hc h=>by rw [<- hH7];simp [Hp.get_put,Hp.get_new,Zp hc,Zi h]
  have s7:H7.stale=[]:=by rw [<- hH7];exact s6
  have nx7:H7.next=H6.next+2:=by rw [<- hH7];rfl
  have hp6:=hP6.lt
  refine ⟨nx7,s7,g7,by rw [<- hH7];exact Zd _ _ _,by rw [<- hH7];simp [Hp.get_put,Hp.get_new,u1],by rw [<- hH7];simp [Hp.get_put,Hp.get_new,o4],⟨s7,by omega,fun c hc hx=>?_⟩,hP6.of_get s7 (by omega) fun c hc=>g7 c (by omega) (by omega),Ze.mono ⟨fun c hc hx=>by have:=hc.1;show H.next<=c;omega,fun c hc hx=>g7 c hx (by have:=hc.1;omega),by omega⟩ _ _ hT6⟩
  rw [g7 c (by omega) (fun h=>hx (.inr h))]
  exact X6.get c hc hx
 rcases hk with rfl | rfl
 ·simp [s6,f0,f1,f5,n0,n1,n2,n3,n4,n5,Hp.get_put,Hp.get_new,k6,kre6,o1,o2,o3,o4,hv1]
  generalize hH7:(((H6.new exZ).put H6.next (.row 35 6 false [d0,d1,d2,d3,d4,d5])).new (.row 35 6 false [d0,d1,d2,d3,d4,d5])).put sr (.row 30 6 false [.int .i64 1,.str name,.sl (H6.next+1) 0 1 none 6,.nils,.nils,.int .i64 a])=H7
  obtain ⟨nx7,s7,g7,k7,kx,_,X7,hP7,hTx⟩:=mid _ H7 hH7
  refine Zf8 hne hR hP7 X7 hpn hps hsn k7 ?_ (by simp [f0])
  simp only [if_neg (show ¬ (1:Nat)=2 by decide),Ze]
  exact ⟨_,_,_,rfl,one_at hTx kx (by show H.next<=_;omega) (by omega) (fun c hc=>by cases hc),.inl ⟨.inl rfl,rfl⟩,.inl ⟨.inl rfl,rfl⟩⟩
 ·rw [hnm rfl] at k6 mid
  have hpl:=hpl rfl
  simp [s6,f0,f1,f5,n0,n1,n2,n3,n4,n5,Hp.get_put,Hp.get_new,k6,kre6,o1,o2,o3,o4,hv1]
  generalize hH7:(((H6.new exZ).put H6.next (.row 35 6 false [d0,d1,d2,d3,d4,d5])).new (.row 35 6 false [d0,d1,d2,d3,d4,d5])).put sr (.row 30 6 false [.int .i64 2,.str [],.sl (H6.next+1) 0 1 none 6,.nils,.nils,.int .i64 a])=H7
  obtain ⟨nx7,s7,g7,k7,kx,kt,X7,hP7,hTx⟩:=mid _ H7 hH7
  simp only [if_pos trivial] at hR
  have hTp7:Zk (fun b=>H.next<=b/\b < H7.next) H7 ps vp:=Zk.mono ⟨fun c hc hx=>⟨hc,by omega⟩,fun c hc hx=>by
   have hc' : H.next<=c:=hc
   rw [g7 c (by omega) (by omega),hX6.get c (by omega) (by show c≠pr;omega),hX5.get c hx (by show c≠pr;omega)],by omega⟩ hTp
  obtain ⟨es,tk1,tk2,tk3,tk4⟩:=Zhe hTp7
  generalize hH8:H7.new (.row 35 6 false [])=H8
  have nx8:H8.next=H7.next+1:=by rw [<- hH8];rfl
  have s8:H8.stale=[]:=by rw [<- hH8];exact s7
  have g8:∀ c,c < H7.next->H8.get c=H7.get c:=fun c hc=>by rw [<- hH8];exact Z9 _ (by omega)
  have g88:H8.get H7.next=some (.row 35 6 false []):=by rw [<- hH8];exact Z5 _ _
  have hS0:SlAt H8 35 6 (.sl H7.next 0 0 none 6) 0 []:=SlAt.row H7.next 0 [] g88 (by simp)
  have tk1' : Xd H8.get 6 vp=some (ps.length,es):=Zer tk1 fun b hb=>g8 b (tk4 b hb).2
  rw [show H6.next+1+1=H7.next by omega]
  have fin:∀ (F' : Fr) (H9:Hp) (s' : V),SlAt H9 35 6 s' ps.length es->(∀ b∈Za s',H7.next<=b/\b < H9.next/\b∉H9.stale)->(∀ c∈H9.stale,c=H7.next)->H8.next<=H9.next->(∀ c,c < H7.next->H9.get c=H7.get c)->F'.get 0=some (.ptr pr 0)->F'.get 1=some (.ptr sr 0)->F'.get 6=some (.ptr H6.next 0)->F'.get 80=some s' ->
    wpDP tab (PlP R H pr sr) [((some 81,Op.load 35 (Operand.tmp 6),none),1),((some 82,Op.buildSlice 28 1 #[(0,Operand.tmp 81)],none),1),((some 83,Op.call { callee:=Callee.builtin Builtin.append,args:=#[Operand.tmp 80,Operand.tmp 82],argTypes:=#[28,28] },none),0),((some 76,Op.move (Operand.tmp 1),none),2),((some 84,Op.nilCheck (Operand.tmp 76),none),0),((some 85,Op.fieldAddr 30 (Operand.tmp 84) 2,none),0),((none,Op.store 28 (Operand.tmp 85) (Operand.tmp 83),none),0)] F' H9.bump [H9,H7] (nmQ (sqQP tab (PlP R H pr sr) Zp16 (resQ tab [] (PlQ R H pr d sr)))):=fun F' H9 s' hS hrw hs9 hn9 g9 f0' f1' f6' f80=>by
   have kt9:H9.get H6.next=some (.row 35 6 false [d0,d1,d2,d3,d4,d5]):=by rw [g9 _ (by omega)];exact kt
   have hn6:¬ H6.next∈H9.stale:=fun h=>by have:=hs9 _ h;omega
   have heq:=Jf hTx
   simp [f0',f1',f6',f80,kt,kt9,heq,n0,n1,n2,n3,n4,n5]
   have hb9:H9.bump.next=H9.next+1:=rfl
   refine Zeg (H:=H9.bump) (e0:=35) (cells:=[d0,d1,d2,d3,d4,d5]) (by simp [Zb]) ty35 (by decide) (by simp [f80]) (by simp) (hS.of_get fun b _=>rfl) (fun b hb=>⟨by have:=(hrw b hb).2.1;omega,(hrw b hb).2.2⟩) rfl (by show (ps.length+1)*104<=_;omega) (by omega) (fun c hc=>by have:=hs9 c hc;omega) fun s'' H10 hS2 hA=>?_
   have k9:∀ c,c < H7.next->H10.get c=H7.get c/\c∉H10.stale:=fun c hc=>by
    obtain ⟨z1,z2⟩:=hA.keep c (by omega) (fun h=>by have:=(hrw c h).1;omega) (fun h=>by have:=hs9 c h;omega)
    exact ⟨z1.trans (g9 c hc),z2⟩
   obtain ⟨q1,q2⟩:=k9 sr (by omega)
   have q3:H10.get sr=some (.row 30 6 false [.int .i64 2,.str [],.sl (H6.next+1) 0 1 none 6,.nils,.nils,.int .i64 a]):=q1.trans k7
   have hc':=hS2.cells
   have ho':=hS2.one
   simp [f0',f1',f6',q2,q3,hc',ho']
   generalize hH11:(H10.bump.flush.put sr (.row 30 6 false [.int .i64 2,.str [],s'',.nils,.nils,.int .i64 a])).bump=H11
   have s11:H11.stale=[]:=by rw [<- hH11];simp
   have n11:H11.next=H10.next+2:=by rw [<- hH11];simp
   have hna:=hA.le
   have g11:∀ c,c≠sr->c∉H10.stale->H11.get c=H10.get c:=fun c hc hs=>by rw [<- hH11];simp [Hp.get_put,Zi hc,hs]
   have g11' : ∀ c,c < H7.next->c≠sr->H11.get c=H7.get c:=fun c hc h=>by
    obtain ⟨z1,z2⟩:=k9 c hc
    rw [g11 c h z2,z1]
   have hp7:=hP7.lt
   have hge:∀ b∈Za s'',H7.next<=b:=fun b hb=>by
    obtain ⟨_,_,z3⟩:=hA.new b hb
    rcases z3 with z3 | z3
    ·exact (hrw b z3).1
    ·omega
   refine Zf8 (t:=.st 2 [] (ps++[x]) [] [] a) (cs:=[.int .i64 (2:Nat),.str [],s'',.nils,.nils,.int .i64 a]) hne hR (hP7.of_get s11 (by omega) fun c hc=>g11' c (by omega) (by omega)) ⟨s11,by omega,fun c hc hx=>?_⟩ hpn hps hsn (by rw [<- hH11];exact Zd _ _ _) ?_ (by simp [f0'])
   ·rw [g11' c (by omega) (fun h=>hx (.inr h))]
    exact X7.get c hc hx
   ·simp only [Ze]
    refine ⟨_,_,_,rfl,Zk.of_slAt (e:=35) (hS2.of_get fun b hb=>?_) (fun b hb=>?_) (by simp) ?_,.inl ⟨.inl rfl,rfl⟩,.inl ⟨.inl rfl,rfl⟩⟩
    ·obtain ⟨z1,z2,z3⟩:=hA.new b hb
     exact g11 b (by have:=hge b hb;omega) z1
    ·obtain ⟨z1,z2,z3⟩:=hA.new b hb
     have:=hge b hb
     exact ⟨by show H.next<=b;omega,by omega⟩
    ·refine Ji ps [x] es _ tk2 (ElsAt.mono ⟨fun c hc _=>hc.1,fun c hc hx=>g11' c hx (by have:=hc.1;omega),by omega⟩ _ _ tk3) ?_
     simp only [ElsAt]
     exact ⟨Ze.mono ⟨fun c hc _=>hc,fun c hc hx=>g11' c hx (by have:H.next<=c:=hc;omega),by omega⟩ _ _ hTx,trivial⟩
  by_cases hp0:ps.length=0
  ·have he0:es=[]:=List.eq_nil_of_length_eq_zero (by omega)
   subst he0
   rw [hp0] at tk1'
   refine Zj6 (s:=.sl H7.next 0 0 none 6) (x:=vp) (by simp [Zb]) ty35 (by simp) (by simp) hS0 (V8.trans tk1') ?_
   exact fin _ H8 _ (by rw [hp0];exact hS0) (fun b hb=>by simp [Za] at hb;subst hb;exact ⟨Nat.le_refl _,by omega,by simp [s8]⟩) (by simp [s8]) (Nat.le_refl _) g8 (by simp [f0]) (by simp [f1]) (by simp) (by simp)
  ·refine Zc9 (s:=.sl H7.next 0 0 none 6) (x:=vp) (by simp [Zb]) ty35 (by decide) (by simp) (by simp) hS0 (fun b hb=>by simp [Za] at hb;subst hb;exact ⟨by omega,by simp [s8]⟩) tk1' (by omega) tk2 (by show (0+ps.length)*104<=_;omega) (by omega) (fun b hb=>⟨by simp [s8],fun h=>by have:=(tk4 b hb).2;simp [Za] at h;omega⟩) (by simp [s8]) fun s' H9 hS hA=>?_
   refine fin _ H9 s' (by simpa using hS) (fun b hb=>?_) (fun c hc=>?_) hA.le (fun c hc=>?_) (by simp [f0]) (by simp [f1]) (by simp) (by simp)
   ·obtain ⟨z1,z2,z3⟩:=hA.new b hb
    simp [Za] at z3
    exact ⟨by omega,z2,z1⟩
   ·have:=hA.old c hc
    simp [s8,Za] at this
    exact this
   ·rw [(hA.keep c (by omega) (by simp [Za];omega) (by simp [s8])).1,g8 c hc]
theorem Z1c (ih:Xj k) (hne:R≠.out) {H3:Hp} {a op b0 off0:Nat} {num:Int} {text:Bs} {ps:List Tx} {qs:Ts} {bd:List Tx} {v1 vp vq vb:V} (hP:PAt H pr l d) (h2:TkIn H pr (.sl b0 off0 l.length none 4) l) (hps:pr < sr) (hsn:sr < H.next)
  (hR:Vg (Zu k d) (hdT l).at_ (.ex op num text ps qs bd) l1=R) (hP3:PAt H3 pr l1 d) (hX3:Ext (twoR pr sr) H H3) (k3:H3.get sr=some (.row 30 6 false [.int .i64 8,.str [],v1,.nils,.nils,.int .i64 (hdT l).at_])) (hT1:Zk (fun b=>H.next<=b) H3 [.ex op num text ps qs bd] v1)
  (kre:H3.get re=some (.row 35 6 false [.int .i64 op,.int .i64 num,.str text,vp,vq,vb])) (hre:H.next<=re) (hre2:re < H3.next) (hTp:Zk (fun b=>H.next<=b) H3 ps vp)
  (f0:F.get 0=some (.ptr pr 0)) (f1:F.get 1=some (.ptr sr 0)) (f4:F.get 4=some (.sl b0 off0 l.length none 4)) (f5:F.get 5=some (.ptr re 0)) (hpl:op=14->ps.length<=100000) :
  wpP tab (PlP R H pr sr) Zp3 F H3 (resQ tab [] (PlQ R H pr d sr)):=by
 have hpn:=hP.lt
 have s3:=hX3.st
 have l3:=hX3.le
 obtain ⟨v,h3,h4⟩:=hP3.row
 obtain ⟨b,off,e',ro,cells,rfl,g1,g3,g4,g5,g6,g7,g8,g9,g10,g11,g12⟩:=h4.head hP3.ends
 have hlt:(0:Int) < (l1.length:Int):=by omega
 have hv1:=hT1.one
 by_cases hs:(hdT l1).k=4/\(hdT l1).t=sEq
 ·have hk4:((hdT l1).k==4)=true:=by rw [hs.1];rfl
  have ht4:((hdT l1).t==[61])=true:=by rw [hs.2];rfl
  have hi:isK l1 sEq=true:=by rw [isK,hk4,hs.2];rfl
  unfold Vg at hR
  rw [if_pos hs] at hR
  have o3:=Zi (show re≠sr by omega)
  have mv:∀ (H4:Hp) (ob:Ob),H4.next=H3.next+1\/H4.next=H3.next+2\/H4.next=H3.next->H4.stale=[]->H4.get sr=some ob->(∀ c,c≠sr->H4.get c=H3.get c)->PAt H4 pr l1 d/\Ext (twoR pr sr) H H4/\H4.get re=some (.row 35 6 false [.int .i64 op,.int .i64 num,.str text,vp,vq,vb])/\re < H4.next/\Zk (fun b=>H.next<=b) H4 ps vp:=fun H4 ob hn s4 _ g=>by
   have hn' : H3.next<=H4.next:=by omega
   refine ⟨hP3.of_get s4 hn' fun c hc=>g c (by omega),⟨s4,by omega,fun c hc hx=>?_⟩,by rw [g re (by omega)];exact kre,by omega,Zk.mono ⟨fun c hc _=>hc,fun c hc hx=>g c (by have:H.next<=c:=hc;omega),hn'⟩ hTp⟩
   rw [g c (fun h=>hx (.inr h))]
   exact hX3.get c hc hx
  by_cases h5:op=5
  ·subst h5
   simp only [] at hR
   have e1:(((5:Nat):Int)==5)=true:=rfl
   simp [Zp3,f0,f1,f4,f5,s3,h3,g3,g6,g8,g9,hlt,hs.1,hs.2,kre,Hp.get_put,o3,k3,hv1]
   refine ⟨by simp [eqV],?_⟩
   generalize hH4:((H3.put sr (.row 30 6 false [.int .i64 1,.str [],v1,.nils,.nils,.int .i64 (hdT l).at_])).bump.put sr (.row 30 6 false [.int .i64 1,.str text,v1,.nils,.nils,.int .i64 (hdT l).at_])).bump=H4
   have k4:H4.get sr=some (.row 30 6 false [.int .i64 (1:Nat),.str text,v1,.nils,.nils,.int .i64 (hdT l).at_]):=by rw [<- hH4];exact Zd _ _ _
   obtain ⟨hP4,hX4,kre4,hre4,hTp4⟩:=mv H4 _ (.inr (.inl (by rw [<- hH4];rfl))) (by rw [<- hH4];exact s3) k4 fun c hc=>by rw [<- hH4];simp [Hp.get_put,Zi hc]
   rw [<- Jx]
   exact Zlu (kind:=1) ih hne (.inl rfl) (fun h=>by cases h) hR hi hP4 hX4 hpn hps hsn k4 hv1 kre4 hre hre4 hTp4 (by simp [f0]) (by simp [f1]) (by simp [f5]) (fun h=>by cases h)
  ·by_cases h14:op=14
   ·subst h14
    simp only [] at hR
    simp [Zp3,f0,f1,f4,f5,s3,h3,g3,g6,g8,g9,hlt,hs.1,hs.2,kre,Hp.get_put,o3,k3,hv1]
    generalize hH4:H3.put sr (.row 30 6 false [.int .i64 2,.str [],v1,.nils,.nils,.int .i64 (hdT l).at_])=H4
    have k4:H4.get sr=some (.row 30 6 false [.int .i64 (2:Nat),.str [],v1,.nils,.nils,.int .i64 (hdT l).at_]):=by rw [<- hH4];exact Zd _ _ _
    obtain ⟨hP4,hX4,kre4,hre4,hTp4⟩:=mv H4 _ (.inr (.inr (by rw [<- hH4];rfl))) (by rw [<- hH4];exact s3) k4 fun c hc=>by rw [<- hH4];simp [Hp.get_put,Zi hc]
    rw [<- Jx]
    exact Zlu (kind:=2) (name:=[]) ih hne (.inr rfl) (fun _=>rfl) hR hi hP4 hX4 hpn hps hsn k4 hv1 kre4 hre hre4 hTp4 (by simp [f0]) (by simp [f1]) (by simp [f5]) (fun _=>hpl rfl)
   ·have hR' : R = .err (hdT l).at_ 7:=by
     rw [<- hR]
     split
     ·exfalso;simp_all
     ·exfalso;simp_all
     ·rfl
    have e1:((op:Int)==5)=false:=beq_false_of_ne (by omega)
    have e2:((op:Int)==14)=false:=beq_false_of_ne (by omega)
    simp [Zp3,f0,f1,f4,f5,s3,h3,g3,g6,g8,g9,hlt,hs.1,hs.2,kre,Hp.get_put,o3,k3,hv1,e1,e2]
    have hX4:Ext (twoR pr sr) H (H3.put pr (.row 92 2 false [.sl b0 off0 l.length none 4,.int .i64 d])):=hX3.putX _ (.inl (.inl rfl))
    have hP4:PAt (H3.put pr (.row 92 2 false [.sl b0 off0 l.length none 4,.int .i64 d])) pr l d:=hP3.set s3 (Nat.le_refl _) (Zd _ _ _) (h2.of_get fun c hc=>by rw [hX3.get c (by omega) (fun h=>by rcases h with h | h<;>omega)]) hP.ends hP.dp fun c hc=>Zf _ (by omega)
    refine WFp.rr (Ze2 hP4 7) ?_
    rintro v H5 ⟨rfl,rfl⟩
    exact ⟨_,_,hR',rfl,hX4⟩
 ·unfold Vg at hR
  rw [if_neg hs] at hR
  have fin:∀ F' : Fr,F'.get 0=some (.ptr pr 0)->wpP tab (PlP R H pr sr) Zp16 F' H3 (resQ tab [] (PlQ R H pr d sr)):=fun F' f0'=>by
   refine Zf8 hne hR hP3 hX3 hpn hps hsn k3 ?_ f0'
   simp only [Ze]
   exact ⟨_,_,_,rfl,hT1,.inl ⟨.inl rfl,rfl⟩,.inl ⟨.inl rfl,rfl⟩⟩
  cases hk4:((hdT l1).k==4) with
  | false =>
   simp [Zp3,f0,f1,f4,f5,s3,h3,g3,g6,g8,hlt,hk4]
   exact fin _ (by simp [f0])
  | true =>
   have hk:=eq_of_beq hk4
   have ht4:((hdT l1).t==[61])=false:=beq_false_of_ne fun h=>hs ⟨hk,h⟩
   simp [Zp3,f0,f1,f4,f5,s3,h3,g3,g6,g8,g9,hlt,hk,ht4]
   exact fin _ (by simp [f0])
end
theorem Zwl {k:Nat} (ih:Xj k):Z2e k:=by
 intro H pr d sr l R hP hps hsn hrow hR hne
 have hst:=hP.st
 have hpr:=hP.lt
 obtain ⟨v0,h1,h2⟩:=hP.row
 obtain ⟨b0,off0,e0',ro0,cells0,rfl,_⟩:=h2.head hP.ends
 refine wr81 (Ye _ ?_)
 change wpP tab _ (.seq (.reg Zxn) (.seq (.reg Zyk) (.seq (.dreg Zye) Zp3))) _ _ _
 simp [hst,h1]
 refine (ih H pr d l hP (Yp hR hne)).mono ?_ (PlP.up hR (Ext.refl hst))
 rintro v H1 ⟨e,l1,hr,⟨cs,rfl,hT⟩,hP1,hX1⟩
 rw [hr,Zn] at hR
 obtain ⟨op,num,text,ps,qs,bd,rfl⟩:=Zxd hr
 have hT':=hT
 simp only [Ze] at hT'
 obtain ⟨vp,vq,vb,rfl,hTp,hTq,hTb⟩:=hT'
 have np:=hTp.one;have nq:=hTq.one;have nb:=hTb.one
 have s1:=hX1.st
 have l1':=hX1.le
 have hp1:=hP1.lt
 obtain ⟨v,h3,h4⟩:=hP1.row
 obtain ⟨b,off,e',ro,cells,rfl,g1,g3,g4,g5,g6,g7,g8,g9,g10,g11,g12⟩:=h4.head hP1.ends
 have hlt:(0:Int) < (l1.length:Int):=by omega
 have k1:H1.get sr=some (stZ (hdT l).at_):=by rw [hX1.get sr hsn (by show sr≠pr;omega)];exact hrow
 have o1:=Zp (show sr < H1.next by omega)
 have o2:=Zp hp1
 have o3:=Zi (show pr≠sr by omega)
 have o4:=Zp (show b < H1.next by omega)
 have o5:=Zi (show b≠sr by omega)
 have o6:=Zi (show b≠pr by omega)
 have heq:=Jf hT
 simp [s1,Hp.get_put,Hp.get_new,o1,o2,o3,k1,np,nq,nb,Zcy,Zcz,heq]
 generalize hH3:((((((H1.new exZ).put H1.next (.row 35 6 false [.int .i64 op,.int .i64 num,.str text,vp,vq,vb])).put sr (.row 30 6 false [.int .i64 8,.str [],.nils,.nils,.nils,.int .i64 (hdT l).at_])).bump.new (.row 35 6 false [.int .i64 op,.int .i64 num,.str text,vp,vq,vb])).put sr (.row 30 6 false [.int .i64 8,.str [],.sl (H1.next+1+1) 0 1 none 6,.nils,.nils,.int .i64 (hdT l).at_])).bump)=H3
 have nx3:H3.next=H1.next+4:=by rw [<- hH3];rfl
 have s3:H3.stale=[]:=by rw [<- hH3];exact s1
 have g3' : ∀ c,c < H1.next->c≠sr->H3.get c=H1.get c:=fun c hc h=>by
  have u:=Zi (show c≠H1.next+1+1 by omega)
  rw [<- hH3];simp [Hp.get_put,Hp.get_new,Zp hc,Zi h,u]
 have k3:H3.get sr=some (.row 30 6 false [.int .i64 8,.str [],.sl (H1.next+1+1) 0 1 none 6,.nils,.nils,.int .i64 (hdT l).at_]):=by rw [<- hH3];exact Zd _ _ _
 have o7:=Zi (show H1.next≠sr by omega)
 have o8:=Zi (show H1.next+1+1≠sr by omega)
 have kre:H3.get H1.next=some (.row 35 6 false [.int .i64 op,.int .i64 num,.str text,vp,vq,vb]):=by rw [<- hH3];simp [Hp.get_put,Hp.get_new,o7]
 have kx:H3.get (H1.next+1+1)=some (.row 35 6 false [.int .i64 op,.int .i64 num,.str text,vp,vq,vb]):=by rw [<- hH3];simp [Hp.get_put,Hp.get_new,o8]
 have hX3:Ext (twoR pr sr) H H3:=⟨s3,by omega,fun c hc hx=>by
  rw [g3' c (by omega) (fun h=>hx (.inr h))]
  exact hX1.get c hc (fun h=>hx (.inl h))⟩
 have st3:Stays (since H H1) (fun b=>H.next<=b) H1 H3:=⟨fun c hc hx=>hc.1,fun c hc hx=>g3' c hx (by have:=hc.1;omega),by omega⟩
 have hT3:=Ze.mono st3 _ _ hT
 refine Z1c (a:=0) ih hne hP h2 hps hsn hR (hP1.of_get s3 (by omega) fun c hc=>g3' c (by omega) (by omega)) hX3 k3 (one_at hT3 kx (by show H.next<=_;omega) (by omega) (fun c hc=>by cases hc)) kre l1' (by omega) (Zk.mono st3 hTp) (by simp) (by simp) (by simp) (by simp) fun h=>?_
 subst h
 rw [Znj hr]
 omega
end Go.AM.YtlillgmgpmbfnaaGreatDoorT
set_option maxRecDepth 100000
namespace Go.AM.YtlillgmgpmbfnaaGreatDoorT
open Go Go.AM Go.Proofs
abbrev stN:Ob:=.row 30 6 false [.int .i64 0,.str [],.nils,.nils,.nils,.int .i64 0]
abbrev stR (kind:Nat) (name:Bs) (ve vb vl:V) (a:Nat):Ob:=.row 30 6 false [.int .i64 kind,.str name,ve,vb,vl,.int .i64 a]
structure Sta (H:Hp) (pr d r0 sr a:Nat) (H9:Hp) (l9:List Tk) (kind:Nat) (name:Bs) (es b e:List Tx) (ve vb vl:V):Prop where
 p:PAt H9 pr l9 d
 x:Ext (eqR pr) H H9
 k:H9.get sr=some (stR kind name ve vb vl a)
 z:H9.get r0=some stN
 te:Zk (Kt H r0 sr) H9 es ve
 tb:Zk (Kt H r0 sr) H9 b vb
 tl:Zk (Kt H r0 sr) H9 e vl
 hp:pr < H.next
 hr0:H.next<=r0
 hr1:r0 < sr
 hr2:sr < H9.next
section
variable {H H9 H10:Hp} {pr d r0 sr a kind:Nat} {l9 l10:List Tk} {name:Bs} {es b e:List Tx} {ve vb vl:V}
theorem Sta.step (h:Sta H pr d r0 sr a H9 l9 kind name es b e ve vb vl) (hX:Ext (eqR pr) H9 H10) (hP:PAt H10 pr l10 d):Sta H pr d r0 sr a H10 l10 kind name es b e ve vb vl:=by
 obtain ⟨p,x,k,z,te,tb,tl,hp,hr0,hr1,hr2⟩:=h
 have hle:=hX.le
 have st:Stays (Kt H r0 sr) (Kt H r0 sr) H9 H10:=⟨fun c hc _=>hc,fun c hc hx=>hX.get c hx (by have:=hc.1;show c≠pr;omega),hle⟩
 exact ⟨hP,x.trans hX,by rw [hX.get sr hr2 (by show sr≠pr;omega)];exact k,by rw [hX.get r0 (by omega) (by show r0≠pr;omega)];exact z,te.mono st,tb.mono st,tl.mono st,hp,hr0,hr1,by omega⟩
theorem Zfg (hr2:sr < H9.next) (hn:H9.next<=H10.next) (hg:∀ c,c < H9.next->c≠sr->H10.get c=H9.get c):Stays (Kt H r0 sr) (Kt H r0 sr) H9 H10:=⟨fun c hc _=>hc,fun c hc hx=>hg c hx hc.2.2,hn⟩
theorem Sta.set (h:Sta H pr d r0 sr a H9 l9 kind name es b e ve vb vl) (hn:H9.next<=H10.next) (s10:H10.stale=[]) (hg:∀ c,c < H9.next->c≠sr->H10.get c=H9.get c) {kind' : Nat} {name' : Bs} {es' b' e' : List Tx} {ve' vb' vl' : V} (hk:H10.get sr=some (stR kind' name' ve' vb' vl' a))
  (te' : Zk (Kt H r0 sr) H10 es' ve') (tb' : Zk (Kt H r0 sr) H10 b' vb') (tl' : Zk (Kt H r0 sr) H10 e' vl'):Sta H pr d r0 sr a H10 l9 kind' name' es' b' e' ve' vb' vl':=by
 obtain ⟨p,x,k,z,te,tb,tl,hp,hr0,hr1,hr2⟩:=h
 have:=x.le
 exact ⟨p.of_get s10 hn fun c hc=>hg c (by omega) (by omega),⟨s10,by omega,fun c hc hx=>by rw [hg c (by omega) (by omega)];exact x.get c hc hx⟩,hk,by rw [hg r0 (by omega) (by omega)];exact z,te',tb',tl',hp,hr0,hr1,by omega⟩
theorem Zbq {H8:Hp} {t:List Tx} {v:V} (hr2:sr < H8.next) (hr1:r0 < sr) (hr0:H.next<=r0) (h:Zk (since H8 H9) H9 t v):Zk (Kt H r0 sr) H9 t v :=
 Zk.mono ⟨fun c hc _=>⟨by have:=hc.1;omega,by have:=hc.1;omega,by have:=hc.1;omega⟩,fun _ _ _=>rfl,Nat.le_refl _⟩ h
theorem Sta.exprs {H8:Hp} {x:Tx} {ds:List V} (h:Sta H pr d r0 sr a H9 l9 kind name es b e ve vb vl) (h8:sr < H8.next) (hT:Ze (since H8 H9) H9 x ds) (hn:H9.next<=H10.next) (s10:H10.stale=[]) (hg:∀ c,c < H9.next->c≠sr->H10.get c=H9.get c) {kind' rb:Nat} (hk:H10.get sr=some (stR kind' name (.sl rb 0 1 none 6) vb vl a)) (hb:H10.get rb=some (.row 35 6 false ds)) (hb0:H9.next<=rb) (hb1:rb < H10.next) :
  Sta H pr d r0 sr a H10 l9 kind' name [x] b e (.sl rb 0 1 none 6) vb vl:=by
 have hr0:=h.hr0;have hr1:=h.hr1;have hr2:=h.hr2
 refine h.set hn s10 hg hk (one_at (Ze.mono ⟨fun c hc _=>⟨by have:=hc.1;omega,by have:=hc.1;omega,by have:=hc.1;omega⟩,fun c hc hx=>hg c hx (by have:=hc.1;omega),hn⟩ _ _ hT) hb ⟨by omega,by omega,by omega⟩ hb1 (fun c hc=>by cases hc)) (h.tb.mono (Zfg hr2 hn hg)) (h.tl.mono (Zfg hr2 hn hg))
theorem Sta.setName (h:Sta H pr d r0 sr a H9 l9 kind name es b e ve vb vl) (s:Bs):Sta H pr d r0 sr a (H9.put sr (stR kind s ve vb vl a)) l9 kind s es b e ve vb vl:=by
 have hg:∀ c,c < H9.next->c≠sr->(H9.put sr (stR kind s ve vb vl a)).get c=H9.get c:=fun c _ hc=>Zf _ hc
 have kp:=Zfg (r0:=r0) (H:=H) h.hr2 (by exact Nat.le_refl _) hg
 exact h.set (by exact Nat.le_refl _) (by exact h.p.st) hg (Zd _ _ _) (h.te.mono kp) (h.tb.mono kp) (h.tl.mono kp)
theorem Sta.body {k' : Nat} {t:List Tx} {v:V} (h:Sta H pr d r0 sr a H9 l9 kind name es b e ve vb vl) (ht:Zk (Kt H r0 sr) H9 t v):Sta H pr d r0 sr a (H9.put sr (stR k' name ve v vl a)) l9 k' name es t e ve v vl:=by
 have hg:∀ c,c < H9.next->c≠sr->(H9.put sr (stR k' name ve v vl a)).get c=H9.get c:=fun c _ hc=>Zf _ hc
 have kp:=Zfg (r0:=r0) (H:=H) h.hr2 (by exact Nat.le_refl _) hg
 exact h.set (by exact Nat.le_refl _) (by exact h.p.st) hg (Zd _ _ _) (h.te.mono kp) (ht.mono kp) (h.tl.mono kp)
theorem Sta.els {t:List Tx} {v:V} (h:Sta H pr d r0 sr a H9 l9 kind name es b e ve vb vl) (ht:Zk (Kt H r0 sr) H9 t v):Sta H pr d r0 sr a (H9.put sr (stR kind name ve vb v a)) l9 kind name es b t ve vb v:=by
 have hg:∀ c,c < H9.next->c≠sr->(H9.put sr (stR kind name ve vb v a)).get c=H9.get c:=fun c _ hc=>Zf _ hc
 have kp:=Zfg (r0:=r0) (H:=H) h.hr2 (by exact Nat.le_refl _) hg
 exact h.set (by exact Nat.le_refl _) (by exact h.p.st) hg (Zd _ _ _) (h.te.mono kp) (h.tb.mono kp) (ht.mono kp)
end
abbrev StQ (R:PR Tx) (H:Hp) (pr d:Nat) (v:V) (H' : Hp):Prop:=∃ a l',R = .ok a l'/\ExV H H' a v/\PAt H' pr l' d/\Ext (eqR pr) H H'
def Zs8:SCode:=.seq (.reg Zxw) .ret
def Zs29:SCode:=.seq (.reg Zss) .ret
section
variable {R:PR Tx} {H H9:Hp} {pr d r0 sr a kind f:Nat} {l9:List Tk} {name:Bs} {es b e:List Tx} {ve vb vl:V} {F:Fr}
theorem Zs0 (h:Sta H pr d r0 sr a H9 l9 kind name es b e ve vb vl) (hR:R = .ok (.st kind name es b e a) l9):StQ R H pr d (.agg [.int .i64 kind,.str name,ve,vb,vl,.int .i64 a]) (H9.put r0 (stR kind name ve vb vl a)):=by
 obtain ⟨p,x,k,z,te,tb,tl,hp,hr0,hr1,hr2⟩:=h
 have st:Stays (Kt H r0 sr) (since H (H9.put r0 (stR kind name ve vb vl a))) H9 (H9.put r0 (stR kind name ve vb vl a)):=⟨fun c hc hx=>⟨hc.1,hx⟩,fun c hc hx=>Zf _ hc.2.1,Nat.le_refl _⟩
 refine ⟨_,l9,hR,⟨_,rfl,?_⟩,p.of_get p.st (Nat.le_refl _) fun c hc=>Zf _ (by omega),x.putX _ (.inr hr0)⟩
 simp only [Ze]
 exact ⟨_,_,_,rfl,te.mono st,tb.mono st,tl.mono st⟩
theorem Zh8 (h:Sta H pr d r0 sr a H9 l9 kind name es b e ve vb vl) (hR:R = .ok (.st kind name es b e a) l9) (f2:F.get 2=some (.ptr r0 0)) (f3:F.get 3=some (.ptr sr 0)):wpP tab (PanP pr R H) Zs29 F H9 (resQ tab [.cell 2 30] (StQ R H pr d)):=by
 have:=Zs0 h hR
 have c1:=h.te.one;have c2:=h.tb.one;have c3:=h.tl.one
 simp [Zs29,f2,f3,h.p.st,h.k,h.z,c1,c2,c3]
 exact this
theorem st_8 (h:Sta H pr d r0 sr a H9 l9 kind name es b e ve vb vl) (hR:R = .ok (.st kind name es b e a) l9) (f2:F.get 2=some (.ptr r0 0)) (f3:F.get 3=some (.ptr sr 0)) {Q:PC} (hQ:∀ F' H',resQ tab [.cell 2 30] (StQ R H pr d) .ret F' H'->Q .ret F' H'):wpP tab (PanP pr R H) Zs8 F H9 Q:=by
 have:=Zs0 h hR
 have c1:=h.te.one;have c2:=h.tb.one;have c3:=h.tl.one
 simp [Zs8,f2,f3,h.p.st,h.k,h.z,c1,c2,c3]
 refine hQ _ _ ?_
 simp [f2,f3]
 exact this
def Zs6:SCode:=.seq (.dreg Zyf) (.seq (.reg Zx4) Zs8)
theorem st_6 (ih:Xj f) (hne:R≠.out) {kd rs:Nat} {w:Bs} (h:Sta H pr d r0 sr a H9 l9 0 [] [] [] [] .nils .nils .nils) (hR:((Zu f d l9).bind fun e l=>(Yf Vb l).bind fun _ l=>PR.ok (.st kd [] [e] [] [] a) l)=R) (hk:H9.get rs=some (.row 121 2 false [.str w,.int .i64 kd])) (hrs:sr < rs) (hrs2:rs < H9.next)
  (f0:F.get 0=some (.ptr pr 0)) (f2:F.get 2=some (.ptr r0 0)) (f3:F.get 3=some (.ptr sr 0)) (f5:F.get 5=some (.ptr rs 0)) {Q:PC} (hQ:∀ F' H',resQ tab [.cell 2 30] (StQ R H pr d) .ret F' H'->Q .ret F' H'):wpP tab (PanP pr R H) Zs6 F H9 Q:=by
 have s9:=h.p.st
 have hp:=h.hp;have hr0:=h.hr0;have hr1:=h.hr1;have hr2:=h.hr2
 simp [Zs6,f0,f2,f3,f5,s9,hk]
 refine (ih H9 pr d l9 h.p (Yp hR hne)).mono ?_ ?_
 rotate_left
 ·rintro v H2 ⟨pa,pe,q3,rfl,hX2⟩
  have s2:=hX2.st
  have hk2:H2.get rs=some (.row 121 2 false [.str w,.int .i64 kd]):=by rw [hX2.get rs hrs2 (by show rs≠pr;omega)];exact hk
  simp [Jm,f0,f2,f3,f5,s2,hk,hk2,eqV]
  exact PanP.up hR h.x _ _ ⟨pa,pe,q3,rfl,hX2.upto (Nat.le_succ _)⟩
 rintro v H2 ⟨x,l2,hr,⟨ds,rfl,hT2⟩,hP2,hX2⟩
 rw [hr,Zn] at hR
 obtain ⟨d0,d1,d2,d3,d4,d5,rfl,n0,n1,n2,n3,n4,n5⟩:=hT2.six
 have s2:=hX2.st
 have h2:=h.step hX2 hP2
 have hk2:H2.get rs=some (.row 121 2 false [.str w,.int .i64 kd]):=by rw [hX2.get rs hrs2 (by show rs≠pr;omega)];exact hk
 have l2':=hX2.le
 have u1:=Zi (show sr≠H2.next+1+1 by omega)
 have u2:=Zi (show sr≠H2.next+1 by omega)
 simp [f0,f2,f3,f5,s2,n0,n1,n2,n3,n4,n5,Hp.get_put,Hp.get_new,h2.k,hk2,hk,eqV,u1]
 generalize hH3:(((H2.bump.put sr (.row 30 6 false [.int .i64 kd,.str [],.nils,.nils,.nils,.int .i64 a])).bump.new (.row 35 6 false [d0,d1,d2,d3,d4,d5])).put sr (.row 30 6 false [.int .i64 kd,.str [],.sl (H2.next+1+1) 0 1 none 6,.nils,.nils,.int .i64 a])).bump=H3
 have s3:H3.stale=[]:=by rw [<- hH3];exact s2
 have nx3:H3.next=H2.next+4:=by rw [<- hH3];rfl
 have u3:=Zi (show H2.next+1+1≠sr by omega)
 have h3:Sta H pr d r0 sr a H3 l2 kd [] [x] [] [] (.sl (H2.next+1+1) 0 1 none 6) .nils .nils:=h2.exprs hr2 hT2 (by omega) s3 (fun c hc hx=>by
   have u4:=Zi (show c≠H2.next+1+1 by omega)
   rw [<- hH3];simp [Hp.get_put,Hp.get_new,Zi hx,u4]) (by rw [<- hH3];exact Zd _ _ _) (by rw [<- hH3];simp [Hp.get_put,Hp.get_new,u3]) (by omega) (by omega)
 refine (Xt h3.p Vb).mono ?_ (PanP.up hR h3.x)
 rintro w' H4 ⟨u,l4,hr4,_,hP4,hX4⟩
 rw [hr4,Zn] at hR
 have h4:=h3.step hX4 hP4
 simp [hX4.st]
 exact st_8 h4 hR.symm (by simp [f2]) (by simp [f3]) hQ
def Ys15:SCode:=.seq (.reg Zu2) (.seq (.reg Zr3) (.seq (.reg Zt2) (.reg Zq7)))
theorem Z23 (ih:Xj f) (hne:R≠.out) (h:Sta H pr d r0 sr a H9 l9 0 [] [] [] [] .nils .nils .nils) (hR:((Wd l9).bind fun s l=>(Yf sEq l).bind fun _ l=>(Zu f d l).bind fun e l=>(Yf Vb l).bind fun _ l=>PR.ok (.st 0 s [e] [] [] a) l)=R)
  (f0:F.get 0=some (.ptr pr 0)) (f2:F.get 2=some (.ptr r0 0)) (f3:F.get 3=some (.ptr sr 0)):wpP tab (PanP pr R H) (.seq (.block 2 Ys15) Zs29) F H9 (resQ tab [.cell 2 30] (StQ R H pr d)):=by
 have s9:=h.p.st
 simp [Ys15,f0,f2,f3,s9]
 refine (Jw h.p).mono ?_ (PanP.up hR h.x)
 rintro v H2 ⟨s,l2,hr,rfl,hP2,hX2⟩
 rw [hr,Zn] at hR
 have h2:=h.step hX2 hP2
 have h3:=h2.setName s
 have s3:=h3.p.st
 simp [hX2.st,f0,f2,f3,h2.k]
 refine (Xt h3.p sEq).mono ?_ (PanP.up hR h3.x)
 rintro w' H4 ⟨u,l4,hr4,_,hP4,hX4⟩
 rw [hr4,Zn] at hR
 have h4:=h3.step hX4 hP4
 simp [hX4.st,f0,f2,f3]
 refine (ih H4 pr d l4 h4.p (Yp hR hne)).mono ?_ (PanP.up hR h4.x)
 rintro v H5 ⟨x,l5,hr5,⟨ds,rfl,hT5⟩,hP5,hX5⟩
 rw [hr5,Zn] at hR
 obtain ⟨d0,d1,d2,d3,d4,d5,rfl,n0,n1,n2,n3,n4,n5⟩:=hT5.six
 have h5:=h4.step hX5 hP5
 have s5:=hX5.st
 have hr2:=h5.hr2
 have u1:=Zp hr2
 simp [f0,f2,f3,s5,n0,n1,n2,n3,n4,n5,Hp.get_put,Hp.get_new,h5.k,u1]
 generalize hH6:(H5.new (.row 35 6 false [d0,d1,d2,d3,d4,d5])).put sr (.row 30 6 false [.int .i64 0,.str s,.sl H5.next 0 1 none 6,.nils,.nils,.int .i64 a])=H6
 have nx6:H6.next=H5.next+1:=by rw [<- hH6];rfl
 have h6:Sta H pr d r0 sr a H6 l5 0 s [x] [] [] (.sl H5.next 0 1 none 6) .nils .nils:=h5.exprs h4.hr2 hT5 (by omega) (by rw [<- hH6];exact s5) (fun c hc hx=>by rw [<- hH6];simp [Hp.get_put,Hp.get_new,Zi hx,Zp hc]) (by rw [<- hH6];exact Zd _ _ _) (by rw [<- hH6];simp [Hp.get_put,Hp.get_new,u1]) (by omega) (by omega)
 refine (Xt h6.p Vb).mono ?_ (PanP.up hR h6.x)
 rintro w' H7 ⟨u,l7,hr7,_,hP7,hX7⟩
 rw [hr7,Zn] at hR
 have h7:=h6.step hX7 hP7
 simp [hX7.st]
 exact Zh8 h7 hR.symm (by simp [f2]) (by simp [f3])
def Ys17:SCode:=.seq (.reg Zto) (.seq (.reg Zsr) (.seq (.reg Zrw) (.cond (.tmp 61) (.reg Zue) (.skip))))
theorem Z72 (ih:Xj f) (ihB:U2 f) (hne:R≠.out) (h:Sta H pr d r0 sr a H9 l9 0 [] [] [] [] .nils .nils .nils) (hR:((Zu f d l9).bind fun e l=>(blockY f d l).bind fun b l=>if isK l Zh5 then (blockY f d l.tail).bind fun c l=>PR.ok (.st 3 [] [e] b c a) l else .ok (.st 3 [] [e] b [] a) l)=R)
  (f0:F.get 0=some (.ptr pr 0)) (f2:F.get 2=some (.ptr r0 0)) (f3:F.get 3=some (.ptr sr 0)):wpP tab (PanP pr R H) (.seq (.block 2 Ys17) Zs29) F H9 (resQ tab [.cell 2 30] (StQ R H pr d)):=by
 have s9:=h.p.st
 simp [Ys17,f0,f2,f3,s9]
 refine (ih H9 pr d l9 h.p (Yp hR hne)).mono ?_ (PanP.up hR h.x)
 rintro v H5 ⟨x,l5,hr5,⟨ds,rfl,hT5⟩,hP5,hX5⟩
 rw [hr5,Zn] at hR
 obtain ⟨d0,d1,d2,d3,d4,d5,rfl,n0,n1,n2,n3,n4,n5⟩:=hT5.six
 have h5:=h.step hX5 hP5
 have s5:=hX5.st
 have hr2:=h5.hr2
 have u1:=Zp hr2
 simp [f0,f2,f3,s5,n0,n1,n2,n3,n4,n5,Hp.get_put,Hp.get_new,h5.k,u1]
 generalize hH6:((H5.new (.row 35 6 false [d0,d1,d2,d3,d4,d5])).put sr (.row 30 6 false [.int .i64 3,.str [],.nils,.nils,.nils,.int .i64 a])).put sr (.row 30 6 false [.int .i64 3,.str [],.sl H5.next 0 1 none 6,.nils,.nils,.int .i64 a])=H6
 have nx6:H6.next=H5.next+1:=by rw [<- hH6];rfl
 have h6:Sta H pr d r0 sr a H6 l5 3 [] [x] [] [] (.sl H5.next 0 1 none 6) .nils .nils:=h5.exprs h.hr2 hT5 (by omega) (by rw [<- hH6];exact s5) (fun c hc hx=>by rw [<- hH6];simp [Hp.get_put,Hp.get_new,Zi hx,Zp hc]) (by rw [<- hH6];exact Zd _ _ _) (by rw [<- hH6];simp [Hp.get_put,Hp.get_new,u1]) (by omega) (by omega)
 refine (ihB H6 pr d l5 h6.p (Yp hR hne)).mono ?_ (PanP.up hR h6.x)
 rintro v H7 ⟨b,l7,hr7,hT7,hP7,hX7⟩
 rw [hr7,Zn] at hR
 have h7:=h6.step hX7 hP7
 have h8:=h7.body (k':=3) (Zbq h6.hr2 h6.hr1 h6.hr0 hT7)
 have q1:=hT7.one;have q2:=hT7.cells
 simp [hX7.st,f0,f2,f3,h7.k,q1,q2]
 refine WF.rr (Xs h8.p Zh5) ?_
 rintro w' H10 ⟨rfl,hP10,hX10⟩
 cases he:isK l7 Zh5 with
 | true =>
  rw [he,if_pos rfl] at hP10 hR
  have h10:=h8.step hX10 hP10
  simp [hX10.st,f0,f2,f3]
  refine (ihB H10 pr d l7.tail h10.p (Yp hR hne)).mono ?_ (PanP.up hR h10.x)
  rintro v H11 ⟨c,l11,hr11,hT11,hP11,hX11⟩
  rw [hr11,Zn] at hR
  have h11:=h10.step hX11 hP11
  have h12:=h11.els (Zbq h10.hr2 h10.hr1 h10.hr0 hT11)
  have q3:=hT11.one;have q4:=hT11.cells
  simp [hX11.st,f0,f2,f3,h11.k,q3,q4]
  exact Zh8 h12 hR.symm (by simp [f2]) (by simp [f3])
 | false =>
  rw [he,if_neg (by decide)] at hP10 hR
  have h10:=h8.step hX10 hP10
  simp [hX10.st]
  exact Zh8 h10 hR.symm (by simp [f2]) (by simp [f3])
def Ys22:SCode:=.seq (.reg Zud) (.reg Zus)
theorem Zwt (ih:Xj f) (ihB:U2 f) (hne:R≠.out) (h:Sta H pr d r0 sr a H9 l9 0 [] [] [] [] .nils .nils .nils) (hR:((Zu f d l9).bind fun e l=>(blockY f d l).bind fun b l=>PR.ok (.st 4 [] [e] b [] a) l)=R)
  (f0:F.get 0=some (.ptr pr 0)) (f2:F.get 2=some (.ptr r0 0)) (f3:F.get 3=some (.ptr sr 0)):wpP tab (PanP pr R H) (.seq (.block 2 Ys22) Zs29) F H9 (resQ tab [.cell 2 30] (StQ R H pr d)):=by
 have s9:=h.p.st
 simp [Ys22,f0,f2,f3,s9]
 refine (ih H9 pr d l9 h.p (Yp hR hne)).mono ?_ (PanP.up hR h.x)
 rintro v H5 ⟨x,l5,hr5,⟨ds,rfl,hT5⟩,hP5,hX5⟩
 rw [hr5,Zn] at hR
 obtain ⟨d0,d1,d2,d3,d4,d5,rfl,n0,n1,n2,n3,n4,n5⟩:=hT5.six
 have h5:=h.step hX5 hP5
 have s5:=hX5.st
 have hr2:=h5.hr2
 have u1:=Zp hr2
 simp [f0,f2,f3,s5,n0,n1,n2,n3,n4,n5,Hp.get_put,Hp.get_new,h5.k,u1]
 generalize hH6:((H5.new (.row 35 6 false [d0,d1,d2,d3,d4,d5])).put sr (.row 30 6 false [.int .i64 4,.str [],.nils,.nils,.nils,.int .i64 a])).put sr (.row 30 6 false [.int .i64 4,.str [],.sl H5.next 0 1 none 6,.nils,.nils,.int .i64 a])=H6
 have nx6:H6.next=H5.next+1:=by rw [<- hH6];rfl
 have h6:Sta H pr d r0 sr a H6 l5 4 [] [x] [] [] (.sl H5.next 0 1 none 6) .nils .nils:=h5.exprs h.hr2 hT5 (by omega) (by rw [<- hH6];exact s5) (fun c hc hx=>by rw [<- hH6];simp [Hp.get_put,Hp.get_new,Zi hx,Zp hc]) (by rw [<- hH6];exact Zd _ _ _) (by rw [<- hH6];simp [Hp.get_put,Hp.get_new,u1]) (by omega) (by omega)
 refine (ihB H6 pr d l5 h6.p (Yp hR hne)).mono ?_ (PanP.up hR h6.x)
 rintro v H7 ⟨b,l7,hr7,hT7,hP7,hX7⟩
 rw [hr7,Zn] at hR
 have h7:=h6.step hX7 hP7
 have h8:=h7.body (k':=4) (Zbq h6.hr2 h6.hr1 h6.hr0 hT7)
 have q1:=hT7.one;have q2:=hT7.cells
 simp [hX7.st,f0,f2,f3,h7.k,q1,q2]
 exact Zh8 h8 hR.symm (by simp [f2]) (by simp [f3])
def Ys25:SCode:=.seq (.reg Zre) (.seq (.reg Zqu) (.seq (.reg Zqg) (.reg Ztp)))
theorem Z68 (ihB:U2 f) (hne:R≠.out) (h:Sta H pr d r0 sr a H9 l9 0 [] [] [] [] .nils .nils .nils) (hR:((blockY f d l9).bind fun b l=>(Yf Zhs l).bind fun _ l=>(Wd l).bind fun s l=>(blockY f d l).bind fun c l=>PR.ok (.st 7 s [] b c a) l)=R)
  (f0:F.get 0=some (.ptr pr 0)) (f2:F.get 2=some (.ptr r0 0)) (f3:F.get 3=some (.ptr sr 0)):wpP tab (PanP pr R H) (.seq (.block 2 Ys25) Zs29) F H9 (resQ tab [.cell 2 30] (StQ R H pr d)):=by
 have s9:=h.p.st
 simp [Ys25,f0,f2,f3,s9]
 refine (ihB H9 pr d l9 h.p (Yp hR hne)).mono ?_ (PanP.up hR h.x)
 rintro v H7 ⟨b,l7,hr7,hT7,hP7,hX7⟩
 rw [hr7,Zn] at hR
 have h7:=h.step hX7 hP7
 have q1:=hT7.one;have q2:=hT7.cells
 simp [hX7.st,f0,f2,f3,h7.k,q1,q2,Hp.get_put]
 generalize hH8:(H7.put sr (.row 30 6 false [.int .i64 7,.str [],.nils,.nils,.nils,.int .i64 a])).put sr (.row 30 6 false [.int .i64 7,.str [],.nils,v,.nils,.int .i64 a])=H8
 have hg8:∀ c,c < H7.next->c≠sr->H8.get c=H7.get c:=fun c _ hc=>by rw [<- hH8,Zf _ hc,Zf _ hc]
 have nx8:H8.next=H7.next:=by rw [<- hH8];rfl
 have kp:=Zfg (r0:=r0) (H:=H) h7.hr2 (by omega) hg8
 have h8:Sta H pr d r0 sr a H8 l7 7 [] [] b [] .nils v .nils:=h7.set (by omega) (by rw [<- hH8];exact hX7.st) hg8 (by rw [<- hH8];exact Zd _ _ _) (h7.te.mono kp) ((Zbq h.hr2 h.hr1 h.hr0 hT7).mono kp) (h7.tl.mono kp)
 refine (Xt h8.p Zhs).mono ?_ (PanP.up hR h8.x)
 rintro w' H4 ⟨u,l4,hr4,_,hP4,hX4⟩
 rw [hr4,Zn] at hR
 have h4:=h8.step hX4 hP4
 simp [hX4.st,f0,f2,f3]
 refine (Jw h4.p).mono ?_ (PanP.up hR h4.x)
 rintro v2 H2 ⟨s,l2,hr,rfl,hP2,hX2⟩
 rw [hr,Zn] at hR
 have h2:=h4.step hX2 hP2
 have h3:=h2.setName s
 simp [hX2.st,f0,f2,f3,h2.k]
 refine (ihB _ pr d l2 h3.p (Yp hR hne)).mono ?_ (PanP.up hR h3.x)
 rintro v3 H11 ⟨c,l11,hr11,hT11,hP11,hX11⟩
 rw [hr11,Zn] at hR
 have h11:=h3.step hX11 hP11
 have h12:=h11.els (Zbq h3.hr2 h3.hr1 h3.hr0 hT11)
 have q3:=hT11.one;have q4:=hT11.cells
 simp [hX11.st,f0,f2,f3,h11.k,q3,q4]
 exact Zh8 h12 hR.symm (by simp [f2]) (by simp [f3])
end
structure Ist (H:Hp) (pr d r0 sr a:Nat) (l:List Tk) (m:Nat) (F:Fr) (H' : Hp):Prop where
 i:∃ i:Nat,i+m=2/\F.get 15=some (.int .i64 i)/\(1<=i->isK l Zbl=false)/\(2<=i->isK l Zc1=false)
 s:Sta H pr d r0 sr a H' l 0 [] [] [] [] .nils .nils .nils
 f0:F.get 0=some (.ptr pr 0)
 f2:F.get 2=some (.ptr r0 0)
 f3:F.get 3=some (.ptr sr 0)
 f14:F.get 14=some (.agg simL)
def Zst:SCode:=.seq (.block 2 (.seq (.reg Zur) (.cond (.tmp 35) Ys15 (.seq (.reg Zum) (.cond (.tmp 49) Ys17 (.seq (.reg Zrz) (.cond (.tmp 65) Ys22 (.seq (.reg Zro) (.cond (.tmp 76) Ys25 (.reg Ztj)))))))))) Zs29
def Lst:SCode:=.seq (.reg Zxv) (.seq (.cond (.tmp 16) (.skip) (.exit 0)) (.seq (.block 1 (.seq (.reg Zxo) (.seq (.reg Zyt) (.cond (.tmp 21) Zs6 (.skip))))) (.reg Zyh)))
theorem Z17 {f:Nat} (ih:Xj f) (ihB:U2 f) {R:PR Tx} (hne:R≠.out) {H H9:Hp} {pr d r0 sr:Nat} {l:List Tk} {F:Fr} (h:Sta H pr d r0 sr (hdT l).at_ H9 l 0 [] [] [] [] .nils .nils .nils) (hR:stmtY (f+1) d l=R) (h1:isK l Zbl=false) (h2:isK l Zc1=false)
  (f0:F.get 0=some (.ptr pr 0)) (f2:F.get 2=some (.ptr r0 0)) (f3:F.get 3=some (.ptr sr 0)):wpP tab (PanP pr R H) Zst F H9 (resQ tab [.cell 2 30] (StQ R H pr d)):=by
 rw [stmtY,if_neg (by rw [h1];decide),if_neg (by rw [h2];decide)] at hR
 have s9:=h.p.st
 simp [Zst,f0,f2,f3,s9]
 refine WF.rr (Xs h.p wLet) ?_
 rintro w H2 ⟨rfl,hP2,hX2⟩
 cases hk:isK l wLet with
 | true =>
  rw [hk,if_pos rfl] at hP2 hR
  have h2:=h.step hX2 hP2
  simp [hX2.st]
  rw [<- Za2,<- Jx]
  exact Z23 ih hne h2 hR (by simp [f0]) (by simp [f2]) (by simp [f3])
 | false =>
 rw [hk,if_neg (by decide)] at hP2 hR
 have h2:=h.step hX2 hP2
 simp [hX2.st,f0]
 refine WF.rr (Xs h2.p wIf) ?_
 rintro w H3 ⟨rfl,hP3,hX3⟩
 cases hk:isK l wIf with
 | true =>
  rw [hk,if_pos rfl] at hP3 hR
  have h3:=h2.step hX3 hP3
  simp [hX3.st]
  rw [<- Za2,<- Jx]
  exact Z72 ih ihB hne h3 hR (by simp [f0]) (by simp [f2]) (by simp [f3])
 | false =>
 rw [hk,if_neg (by decide)] at hP3 hR
 have h3:=h2.step hX3 hP3
 simp [hX3.st,f0]
 refine WF.rr (Xs h3.p Zhv) ?_
 rintro w H4 ⟨rfl,hP4,hX4⟩
 cases hk:isK l Zhv with
 | true =>
  rw [hk,if_pos rfl] at hP4 hR
  have h4:=h3.step hX4 hP4
  simp [hX4.st]
  rw [<- Za2,<- Jx]
  exact Zwt ih ihB hne h4 hR (by simp [f0]) (by simp [f2]) (by simp [f3])
 | false =>
 rw [hk,if_neg (by decide)] at hP4 hR
 have h4:=h3.step hX4 hP4
 simp [hX4.st,f0]
 refine WF.rr (Xs h4.p wTry) ?_
 rintro w H5 ⟨rfl,hP5,hX5⟩
 cases hk:isK l wTry with
 | true =>
  rw [hk,if_pos rfl] at hP5 hR
  have h5:=h4.step hX5 hP5
  simp [hX5.st]
  rw [<- Za2,<- Jx]
  exact Z68 ihB hne h5 hR (by simp [f0]) (by simp [f2]) (by simp [f3])
 | false =>
 rw [hk,if_neg (by decide)] at hP5 hR
 have h5:=h4.step hX5 hP5
 have hp:=h5.hp;have hr0:=h5.hr0;have hr1:=h5.hr1;have hr2:=h5.hr2
 have hle:=h5.x.le
 simp [hX5.st,f0,f3]
 refine (Zwl ih H5 pr d sr l R h5.p (by omega) hr2 h5.k hR hne).mono ?_ ?_
 ·rintro v H6 ⟨t,l6,cs,hr,k6,hT6,hP6,hX6⟩
  obtain ⟨d0,d1,d2,d3,d4,d5,rfl,n0,n1,n2,n3,n4,n5⟩:=hT6.six
  have z6:H6.get r0=some stN:=by rw [hX6.get r0 (by omega) (fun h=>by rcases h with h | h<;>omega)];exact h5.z
  simp [Zs29,f2,f3,hX6.st,k6,z6,n0,n1,n2,n3,n4,n5]
  refine ⟨t,l6,hr,⟨_,rfl,Ze.mono ⟨fun c hc hx=>⟨by have:H5.next<=c:=hc;omega,hx⟩,fun c hc hx=>Zf _ (by have:H5.next<=c:=hc;omega),Nat.le_refl _⟩ _ _ hT6⟩,hP6.of_get hP6.st (Nat.le_refl _) fun c hc=>Zf _ (by omega),Ext.putX ⟨hX6.st,by have:=hX6.le;omega,fun c hc hx=>?_⟩ _ (.inr hr0)⟩
  rw [hX6.get c (by omega) (fun h=>by rcases h with h | h;exact hx h;omega)]
  exact h5.x.get c hc hx
 ·rintro v H6 ⟨pa,pe,hr,rfl,hX6⟩
  exact ⟨pa,pe,hr,rfl,hX6.st,by have:=hX6.le;omega,fun c hc hx=>by
   rw [hX6.get c (by omega) (fun h=>by rcases h with h | h;exact hx h;omega)]
   exact h5.x.get c hc hx⟩
theorem Z1x {f:Nat} (ih:Xj f) (ihB:U2 f):Zko (f+1):=by
 intro H pr d l hP hne
 have hst:=hP.st
 have hpr:=hP.lt
 generalize hR:stmtY (f+1) d l=R at *
 obtain ⟨v,h1,h2⟩:=hP.row
 obtain ⟨b,off,e',ro,cells,rfl,g1,g3,g4,g5,g6,g7,g8,g9,g10,g11,g12⟩:=h2.head hP.ends
 obtain ⟨N,hN,hG⟩:=hP.gl
 have hsim:=hG.sim
 have hn1:=hG.n1
 have hlt:(0:Int) < (l.length:Int):=by omega
 have o1:=Zp hpr
 have o2:=Zp (Nat.lt_trans g1 hpr)
 have o3:=Zi (Nat.ne_of_lt g1)
 have o4:=Zp (show 2 < H.next by omega)
 refine wr53 (Ye _ ?_)
 change wpP tab _ (.seq (.reg Zxt) (.seq (.reg Zxu) (.seq (.seq (.reg Zxy) (.block 0 (.loop Lst))) Zst))) _ _ _
 have htk:List.take 4 simL=simL:=rfl
 simp [hst,h1,g3,g11,hlt,g6,Hp.get_new,Hp.get_put,o1,o2,o3,o4,hsim]
 generalize hH1:((H.new stN).new stN).put (H.next+1) (.row 30 6 false [.int .i64 0,.str [],.nils,.nils,.nils,.int .i64 (hdT l).at_])=H1
 have hX1n:Ext noX H H1:=hH1 ▸ ((Ext.new hst _).newge _).putX _ (.inr (Nat.le_succ _))
 have nx1:H1.next=H.next+2:=by rw [<- hH1];rfl
 have z1:H1.get H.next=some stN:=by rw [<- hH1];simp [Hp.get_put,Hp.get_new]
 have k1:H1.get (H.next+1)=some (stR 0 [] .nils .nils .nils (hdT l).at_):=by rw [<- hH1];exact Zd _ _ _
 have S1:Sta H pr d H.next (H.next+1) (hdT l).at_ H1 l 0 [] [] [] [] .nils .nils .nils:=⟨hP.ext hX1n fun c _ h=>h,hX1n.no,k1,z1,.inl ⟨.inl rfl,rfl⟩,.inl ⟨.inl rfl,rfl⟩,.inl ⟨.inl rfl,rfl⟩,hpr,Nat.le_refl _,Nat.lt_succ_self _,by omega⟩
 refine Ug (Ist H pr d H.next (H.next+1) (hdT l).at_ l) (m:=2) ⟨⟨0,rfl,by simp,fun h=>by omega,fun h=>by omega⟩,S1,by simp,by simp,by simp,by simp⟩ ?_
 clear S1 k1 z1 nx1 hX1n hH1
 generalize H.next+1=sr at *
 generalize H.next=r0 at *
 rintro m F H2 ⟨⟨i,him,f15,w1,w2⟩,S,f0,f2,f3,f14⟩
 have s2:=S.p.st
 have hr0:=S.hr0;have hr1:=S.hr1;have hr2:=S.hr2;have hp2:=S.p.lt
 by_cases hi2:i=2
 ·have c2:¬ ((i:Int) < 2):=by omega
  simp [Lst,f15,c2,s2]
  exact Z17 ih ihB hne S hR (w1 (by omega)) (w2 (by omega)) (by simp [f0]) (by simp [f2]) (by simp [f3])
 have c2:((i:Int) < 2):=by omega
 have c2' : i < 2:=by omega
 have hwi:=V4 (show i < 1000000000 by omega)
 obtain ⟨w,kd,hw⟩:∃ (w:Bs) (kd:Nat),(i=0/\w=Zbl/\kd=5)\/(i=1/\w=Zc1/\kd=6):=by
  match i,c2' with
  | 0,_=>exact ⟨_,_,.inl ⟨rfl,rfl,rfl⟩⟩
  | 1,_=>exact ⟨_,_,.inr ⟨rfl,rfl,rfl⟩⟩
 have htk2:List.take 2 (List.drop (i*2) simL)=[.str w,.int .i64 kd]:=by
  rcases hw with ⟨rfl,rfl,rfl⟩ | ⟨rfl,rfl,rfl⟩<;>rfl
 generalize hsl:simL=SL at *
 have hSL:SL.length=4:=by rw [<- hsl];rfl
 have hi22:i*2<=2:=by omega
 simp [Lst,f0,f2,f3,f14,f15,c2,c2',s2,htk2,hSL,hi22]
 generalize hH3:(H2.new (.row 121 2 false [.str [],.int .i64 0])).put H2.next (.row 121 2 false [.str w,.int .i64 kd])=H3
 have nx3:H3.next=H2.next+1:=by rw [<- hH3];rfl
 have X3n:Ext noX H2 H3:=hH3 ▸ (Ext.new s2 _).putX _ (.inr (Nat.le_refl _))
 have k3:H3.get H2.next=some (.row 121 2 false [.str w,.int .i64 kd]):=by rw [<- hH3];exact Zd _ _ _
 have S3:=S.step X3n.no (S.p.ext X3n fun c _ h=>h)
 refine WF.rr (Xs S3.p w) ?_
 rintro w' H4 ⟨rfl,hP4,hX4⟩
 cases hk:isK l w with
 | true =>
  rw [hk,if_pos rfl] at hP4
  have S4:=S3.step hX4 hP4
  have hR' : ((Zu f d l.tail).bind fun e l1=>(Yf Vb l1).bind fun _ l1=>PR.ok (.st kd [] [e] [] [] (hdT l).at_) l1)=R:=by
   rw [<- hR,stmtY]
   rcases hw with ⟨rfl,rfl,rfl⟩ | ⟨rfl,rfl,rfl⟩
   ·rw [if_pos hk]
   ·rw [if_neg (by rw [w1 (by omega)];decide),if_pos hk]
  simp [hX4.st]
  exact st_6 (w:=w) (kd:=kd) (rs:=H2.next) ih hne S4 hR' (by rw [hX4.get _ (by omega) (by show H2.next≠pr;omega)];exact k3) hr2 (by have:=hX4.le;omega) (by simp [f0]) (by simp [f2]) (by simp [f3]) (by simp) fun F' H' h=>h
 | false =>
  rw [hk,if_neg (by decide)] at hP4
  have S4:=S3.step hX4 hP4
  simp [hX4.st,f15,hwi]
  refine ⟨m-1,by omega,⟨i+1,by omega,by simp,fun _=>?_,fun h=>?_⟩,S4,by simp [f0],by simp [f2],by simp [f3],by simp [f14,hsl]⟩
  ·rcases hw with ⟨rfl,rfl,rfl⟩ | ⟨rfl,rfl,rfl⟩
   ·exact hk
   ·exact w1 (by omega)
  ·rcases hw with ⟨rfl,rfl,rfl⟩ | ⟨rfl,rfl,rfl⟩
   ·omega
   ·exact hk
end Go.AM.YtlillgmgpmbfnaaGreatDoorT
namespace Go.AM.YtlillgmgpmbfnaaGreatDoorT
open Go Go.AM Go.Proofs
structure PAll (f:Nat):Prop where
 whole:Xj f
 expr:Zh9 f
 unary:Zeu f
 behind:Ziz f
 one:POne f
 list:Zkp f
 record:PRec f
 func:Zpt f
 block:U2 f
 stmt:Zko f
theorem Zr9:PAll 0:=by
 have hw:Xj 0:=fun H pr d l hP hne=>absurd (by rw [Zu]) hne
 have ho:POne 0:=fun H pr d l hP hne=>absurd (by rw [oneY]) hne
 have hb:U2 0:=fun H pr d l hP hne=>absurd (by rw [blockY]) hne
 exact ⟨hw,fun H pr d n l hn hP hne=>absurd (by rw [exprY]) hne,fun H pr d l hP hne=>absurd (by rw [unaryY]) hne,Zjv ho (fun k hk=>by omega) (fun k hk=>by omega),ho,Zob (fun k hk=>by omega),Zjk (fun k hk=>by omega),Znx hb,hb,fun H pr d l hP hne=>absurd (by rw [stmtY]) hne⟩
theorem Yfn (f:Nat):PAll f:=by
 induction f using Nat.strongRecOn with
 | ind f ih =>
 cases f with
 | zero=>exact Zr9
 | succ f =>
  have I:=ih f (Nat.lt_succ_self f)
  have hw:Xj (f+1):=Zv5 I.expr
  have ho:POne (f+1):=Z5b I.whole I.record I.func
  have hb:U2 (f+1):=Zwi fun k hk=>(ih k (by omega)).stmt
  exact ⟨hw,Z13 I.unary (fun k hk=>(ih k hk).expr),Zwd I.unary I.behind,Zjv ho (fun k hk=>(ih k hk).list) (fun k hk=>(ih k hk).whole),ho,Zob (fun k hk=>(ih k hk).whole),Zjk (fun k hk=>(ih k hk).whole),Znx hb,hb,Z1x I.whole I.block⟩
theorem Zw7 (f:Nat):Zko f:=(Yfn f).stmt
end Go.AM.YtlillgmgpmbfnaaGreatDoorT
namespace Go.AM.YtlillgmgpmbfnaaGreatDoorT
open Go Go.AM Go.Proofs
set_option maxRecDepth 100000
abbrev Yak:List SOp:=[(some 2,.assign (.const (.slice none 0 0)),none),
 (some 3,.assign (.const (.int .i64 0)),none),
 (some 4,.assign (.const (.int .i64 0)),none)]
abbrev Z9d:List SOp:=[(some 10,.move (.tmp 0),none),
 (some 11,.call ⟨.builtin .len,#[(.tmp 10)],#[9]⟩,none),
 (some 12,.binOp .gtr 3 (.tmp 11) (.const (.int .i64 8192)) 3,none)]
abbrev Yei:List SOp:=[(some 2,.assign (.const (.slice none 0 0)),none),
 (some 3,.assign (.const (.int .i64 0)),none),
 (some 4,.assign (.const (.int .i64 2)),none)]
abbrev Yeg:List SOp:=[(some 5,.assign (.const (.slice none 0 0)),none)]
abbrev Yfa:List SOp:=[(some 6,.assign (.const (.int .i64 0)),none)]
abbrev Ycb:List SOp:=[(some 13,.move (.tmp 6),none),
 (some 14,.move (.tmp 0),none),
 (some 15,.call ⟨.builtin .len,#[(.tmp 14)],#[9]⟩,none),
 (some 16,.binOp .lss 3 (.tmp 13) (.tmp 15) 3,none)]
abbrev Ydj:List SOp:=[(some 17,.move (.tmp 0),none),
 (some 18,.move (.tmp 6),none),
 (some 19,.index 9 (.tmp 17) (.tmp 18),none)]
abbrev Ybg:List SOp:=[(some 21,.binOp .eql 5 (.tmp 19) (.const (.int .u8 32)) 5,none),
 (some 20,.assign (.tmp 21),none)]
abbrev Yey:List SOp:=[(some 22,.binOp .eql 5 (.tmp 19) (.const (.int .u8 10)) 5,none),
 (some 20,.assign (.tmp 22),none)]
abbrev Z9a:List SOp:=[(some 23,.move (.tmp 6),none),
 (some 24,.binOp .add 3 (.tmp 23) (.const (.int .i64 1)) 3,none),
 (some 6,.assign (.tmp 24),none)]
abbrev Z4n:List SOp:=[(some 26,.binOp .eql 5 (.tmp 19) (.const (.int .u8 35)) 5,none),
 (some 25,.assign (.tmp 26),none)]
abbrev Z6o:List SOp:=[(some 27,.move (.tmp 6),none),
 (some 28,.move (.tmp 0),none),
 (some 29,.call ⟨.builtin .len,#[(.tmp 28)],#[9]⟩,none),
 (some 30,.binOp .lss 3 (.tmp 27) (.tmp 29) 3,none),
 (some 31,.move (.tmp 30),none),
 (some 32,.move (.tmp 0),some (some 31,true)),
 (some 33,.move (.tmp 6),some (some 31,true)),
 (some 34,.index 9 (.tmp 32) (.tmp 33),some (some 31,true)),
 (some 35,.binOp .neq 5 (.tmp 34) (.const (.int .u8 10)) 5,some (some 31,true)),
 (some 36,.pick (.tmp 31) (.tmp 35) (.const (.bool false)),none)]
abbrev Z40:List SOp:=[(some 37,.move (.tmp 6),none),
 (some 38,.binOp .add 3 (.tmp 37) (.const (.int .i64 1)) 3,none),
 (some 6,.assign (.tmp 38),none)]
def Zkk:SCode:=.seq (.seq (.reg Z6o) (.cond (.tmp 36) (.skip) (.exit 3))) (.block 4 (.reg Z40))
abbrev Z3r:List SOp:=[(some 40,.move (.tmp 0),none),
 (some 41,.move (.tmp 6),none),
 (some 42,.slice 9 (.tmp 40) (some (.tmp 41)) none none,none),
 (some 43,.call ⟨.value (.func 75),#[(.tmp 42)],#[9]⟩,none),
 (some 39,.move (.tmp 43),none),
 (some 44,.extract (.tmp 39) 0,none),
 (some 45,.extract (.tmp 39) 1,none),
 (some 46,.extract (.tmp 39) 2,none),
 (some 7,.alloc 95,none),
 (none,.store 95 (.tmp 7) (.tmp 44),none),
 (some 8,.assign (.tmp 45),none),
 (some 9,.assign (.tmp 46),none)]
abbrev Z42:List SOp:=[(some 47,.move (.tmp 9),none),
 (some 48,.binOp .neq 47 (.tmp 47) (.const (.int .i64 0)) 47,none)]
abbrev Z6i:List SOp:=[(some 49,.move (.tmp 6),none),
 (some 50,.move (.tmp 9),none),
 (some 2,.assign (.const (.slice none 0 0)),none),
 (some 3,.assign (.tmp 49),none),
 (some 4,.assign (.tmp 50),none)]
abbrev Z3j:List SOp:=[(some 51,.move (.tmp 6),none),
 (some 52,.fieldAddr 95 (.tmp 7) 3,none),
 (none,.store 3 (.tmp 52) (.tmp 51),none)]
abbrev Z59:List SOp:=[(some 53,.move (.tmp 5),none),
 (some 54,.load 95 (.tmp 7),none),
 (some 55,.buildSlice 84 1 #[(0,(.tmp 54))],none),
 (some 56,.call ⟨.builtin .append,#[(.tmp 53),(.tmp 55)],#[84,84]⟩,none),
 (some 5,.assign (.tmp 56),none)]
abbrev Z2l:List SOp:=[(some 57,.move (.tmp 6),none),
 (some 58,.move (.tmp 8),none),
 (some 59,.binOp .add 3 (.tmp 57) (.tmp 58) 3,none),
 (some 6,.assign (.tmp 59),none)]
def Zfi:SCode:=.seq (.seq (.reg Ycb) (.cond (.tmp 16) (.skip) (.exit 0))) (.block 1 (.seq (.seq (.reg Ydj) (.block 2 (.seq (.seq (.reg Ybg) (.cond (.tmp 20) (.skip) (.reg Yey))) (.cond (.tmp 20) (.seq (.reg Z9a) (.exit 1)) (.seq (.reg Z4n) (.cond (.tmp 25) (.seq (.block 3 (.loop Zkk)) (.exit 1)) (.skip))))))) (.seq (.reg Z3r) (.seq (.seq (.reg Z42) (.cond (.tmp 48) (.seq (.reg Z6i) (.ret)) (.skip))) (.seq (.reg Z3j) (.seq (.reg Z59) (.reg Z2l)))))))
abbrev Z6p:List SOp:=[(some 60,.move (.tmp 5),none),
 (some 61,.move (.tmp 0),none),
 (some 62,.call ⟨.builtin .len,#[(.tmp 61)],#[9]⟩,none),
 (some 63,.build 95 #[(3,(.tmp 62))],none),
 (some 64,.buildSlice 84 1 #[(0,(.tmp 63))],none),
 (some 65,.call ⟨.builtin .append,#[(.tmp 60),(.tmp 64)],#[84,84]⟩,none),
 (some 2,.assign (.tmp 65),none),
 (some 3,.assign (.const (.int .i64 0)),none),
 (some 4,.assign (.const (.int .i64 0)),none)]
abbrev S51:SCode:=.seq (.reg Yak) (.seq (.seq (.reg Z9d) (.cond (.tmp 12) (.seq (.reg Yei) (.ret)) (.skip))) (.seq (.reg Yeg) (.seq (.reg Yfa) (.seq (.skip) (.seq (.block 0 (.loop Zfi)) (.seq (.reg Z6p) (.ret)))))))
theorem Z4i:Zh tab 51 (Tryz.f51.body.getD .skip)=S51:=by kernel_rfl
theorem wf51 {xs:List V} {H:Hp} {Q:V->Hp->Prop} (h:WC tab S51 (frame xs 0 .nil) H (resQ tab [.tmp 2,.tmp 3,.tmp 4] Q)):WF tab 51 xs H Q:=WF.of_slim (T:=tab) (f:=51) rfl fn51 rfl Z4i rfl h
abbrev Yeu:List SOp:=[(some 2,.alloc 95,none),
 (some 3,.assign (.const (.int .i64 0)),none),
 (some 4,.assign (.const (.int .i64 0)),none)]
abbrev Z8o:List SOp:=[(some 7,.move (.tmp 0),none),
 (some 8,.index 9 (.tmp 7) (.const (.int .i64 0)),none),
 (some 5,.assign (.tmp 8),none)]
abbrev Yfb:List SOp:=[(some 10,.move (.tmp 5),none),
 (some 11,.call ⟨.value (.func 111),#[(.tmp 10)],#[5]⟩,none),
 (some 9,.assign (.tmp 11),none)]
abbrev Yac:List SOp:=[(some 12,.move (.tmp 0),none),
 (some 13,.call ⟨.value (.func 112),#[(.tmp 12),(.func 113)],#[9,50]⟩,none),
 (some 6,.assign (.tmp 13),none)]
abbrev Z82:List SOp:=[(some 14,.move (.tmp 0),none),
 (some 15,.move (.tmp 6),none),
 (some 16,.slice 9 (.tmp 14) none (some (.tmp 15)) none,none),
 (some 17,.build 95 #[(0,(.const (.int .i64 1))),(1,(.tmp 16))],none),
 (some 18,.move (.tmp 6),none),
 (none,.store 95 (.tmp 2) (.tmp 17),none),
 (some 3,.assign (.tmp 18),none),
 (some 4,.assign (.const (.int .i64 0)),none)]
abbrev Ygi:List SOp:=[(some 20,.move (.tmp 5),none),
 (some 21,.call ⟨.value (.func 114),#[(.tmp 20)],#[5]⟩,none),
 (some 19,.assign (.tmp 21),none)]
abbrev Ybv:List SOp:=[(some 22,.move (.tmp 0),none),
 (some 23,.call ⟨.value (.func 115),#[(.tmp 22)],#[9]⟩,none),
 (some 24,.extract (.tmp 23) 0,none),
 (some 25,.extract (.tmp 23) 1,none),
 (some 26,.extract (.tmp 23) 2,none),
 (none,.store 95 (.tmp 2) (.tmp 24),none),
 (some 3,.assign (.tmp 25),none),
 (some 4,.assign (.tmp 26),none)]
abbrev Ycl:List SOp:=[(some 28,.move (.tmp 5),none),
 (some 29,.binOp .eql 5 (.tmp 28) (.const (.int .u8 34)) 5,none),
 (some 27,.assign (.tmp 29),none)]
abbrev Yaw:List SOp:=[(some 30,.move (.tmp 0),none),
 (some 31,.call ⟨.value (.func 116),#[(.tmp 30)],#[9]⟩,none),
 (some 32,.extract (.tmp 31) 0,none),
 (some 33,.extract (.tmp 31) 1,none),
 (some 34,.extract (.tmp 31) 2,none),
 (none,.store 95 (.tmp 2) (.tmp 32),none),
 (some 3,.assign (.tmp 33),none),
 (some 4,.assign (.tmp 34),none)]
abbrev Yf0:List SOp:=[(some 36,.move (.tmp 0),none),
 (some 37,.call ⟨.value (.func 59),#[(.tmp 36),(.const (.string ⟨#[0x3d,0x3d]⟩))],#[9,9]⟩,none),
 (some 38,.move (.tmp 37),none),
 (some 39,.move (.tmp 0),some (some 38,false)),
 (some 40,.call ⟨.value (.func 59),#[(.tmp 39),(.const (.string ⟨#[0x21,0x3d]⟩))],#[9,9]⟩,some (some 38,false)),
 (some 41,.pick (.tmp 38) (.const (.bool true)) (.tmp 40),none),
 (some 35,.assign (.tmp 41),none)]
abbrev Z2j:List SOp:=[(some 42,.move (.tmp 0),none),
 (some 43,.slice 9 (.tmp 42) none (some (.const (.int .i64 2))) none,none),
 (some 44,.build 95 #[(0,(.const (.int .i64 4))),(1,(.tmp 43))],none),
 (none,.store 95 (.tmp 2) (.tmp 44),none),
 (some 3,.assign (.const (.int .i64 2)),none),
 (some 4,.assign (.const (.int .i64 0)),none)]
abbrev Z5i:List SOp:=[(some 46,.move (.tmp 5),none),
 (some 47,.call ⟨.value (.func 117),#[(.const (.string ⟨#[0x28,0x29,0x7b,0x7d,0x5b,0x5d,0x3b,0x2c,0x3a,0x2e,0x3d,0x3c,0x2b,0x2d,0x2a,0x21]⟩)),(.tmp 46)],#[9,5]⟩,none),
 (some 48,.binOp .geq 3 (.tmp 47) (.const (.int .i64 0)) 3,none),
 (some 45,.assign (.tmp 48),none)]
abbrev Z5u:List SOp:=[(some 49,.move (.tmp 0),none),
 (some 50,.slice 9 (.tmp 49) none (some (.const (.int .i64 1))) none,none),
 (some 51,.build 95 #[(0,(.const (.int .i64 4))),(1,(.tmp 50))],none),
 (none,.store 95 (.tmp 2) (.tmp 51),none),
 (some 3,.assign (.const (.int .i64 1)),none),
 (some 4,.assign (.const (.int .i64 0)),none)]
abbrev Z3q:List SOp:=[(some 52,.build 95 #[],none),
 (none,.store 95 (.tmp 2) (.tmp 52),none),
 (some 3,.assign (.const (.int .i64 0)),none),
 (some 4,.assign (.const (.int .i64 1)),none)]
abbrev S75:SCode:=.seq (.reg Yeu) (.seq (.seq (.reg Z8o) (.block 0 (.seq (.reg Yfb) (.cond (.tmp 9) (.seq (.reg Yac) (.seq (.reg Z82) (.ret))) (.seq (.reg Ygi) (.cond (.tmp 19) (.seq (.reg Ybv) (.ret)) (.seq (.reg Ycl) (.cond (.tmp 27) (.seq (.reg Yaw) (.ret)) (.seq (.reg Yf0) (.cond (.tmp 35) (.seq (.reg Z2j) (.ret)) (.seq (.reg Z5i) (.cond (.tmp 45) (.seq (.reg Z5u) (.ret)) (.skip))))))))))))) (.seq (.reg Z3q) (.ret)))
theorem Z27:Zh tab 75 (Tryz.f75.body.getD .skip)=S75:=by kernel_rfl
theorem wf75 {xs:List V} {H:Hp} {Q:V->Hp->Prop} (h:WC tab S75 (frame xs 0 .nil) H (resQ tab [.cell 2 95,.tmp 3,.tmp 4] Q)):WF tab 75 xs H Q:=WF.of_slim (T:=tab) (f:=75) rfl fn75 rfl Z27 rfl h
abbrev Z87:List SOp:=[(some 4,.assign (.const (.bool false)),none)]
abbrev Yag:List SOp:=[(some 5,.move (.tmp 0),none),
 (some 6,.move (.tmp 1),none),
 (some 7,.call ⟨.value (.func 91),#[(.tmp 5),(.tmp 6)],#[9,9]⟩,none),
 (some 4,.assign (.tmp 7),none)]
abbrev S59:SCode:=.seq (.reg Z87) (.seq (.reg Yag) (.ret))
theorem Z2b:Zh tab 59 (Tryz.f59.body.getD .skip)=S59:=by kernel_rfl
theorem wf59 {xs:List V} {H:Hp} {Q:V->Hp->Prop} (h:WC tab S59 (frame xs 0 .nil) H (resQ tab [.tmp 4] Q)):WF tab 59 xs H Q:=WF.of_slim (T:=tab) (f:=59) rfl fn59 rfl Z2b rfl h
abbrev Z4o:List SOp:=[(some 2,.assign (.const (.bool false)),none)]
abbrev Z6j:List SOp:=[(some 3,.move (.tmp 0),none),
 (some 4,.binOp .geq 5 (.tmp 3) (.const (.int .u8 97)) 5,none),
 (some 5,.move (.tmp 4),none),
 (some 6,.move (.tmp 0),some (some 5,true)),
 (some 7,.binOp .leq 5 (.tmp 6) (.const (.int .u8 122)) 5,some (some 5,true)),
 (some 8,.pick (.tmp 5) (.tmp 7) (.const (.bool false)),none),
 (some 9,.move (.tmp 8),none),
 (some 10,.move (.tmp 0),some (some 9,false)),
 (some 11,.binOp .geq 5 (.tmp 10) (.const (.int .u8 65)) 5,some (some 9,false)),
 (some 12,.move (.tmp 11),some (some 9,false)),
 (some 13,.move (.tmp 0),some (some 12,true)),
 (some 14,.binOp .leq 5 (.tmp 13) (.const (.int .u8 90)) 5,some (some 12,true)),
 (some 15,.pick (.tmp 12) (.tmp 14) (.const (.bool false)),some (some 9,false)),
 (some 16,.pick (.tmp 9) (.const (.bool true)) (.tmp 15),none),
 (some 17,.move (.tmp 16),none),
 (some 18,.move (.tmp 0),some (some 17,false)),
 (some 19,.binOp .eql 5 (.tmp 18) (.const (.int .u8 95)) 5,some (some 17,false)),
 (some 20,.pick (.tmp 17) (.const (.bool true)) (.tmp 19),none),
 (some 2,.assign (.tmp 20),none)]
abbrev S111:SCode:=.seq (.reg Z4o) (.seq (.reg Z6j) (.ret))
theorem Zzn:Zh tab 111 (Tryz.f111.body.getD .skip)=S111:=by kernel_rfl
theorem Z86 {xs:List V} {H:Hp} {Q:V->Hp->Prop} (h:WC tab S111 (frame xs 0 .nil) H (resQ tab [.tmp 2] Q)):WF tab 111 xs H Q:=WF.of_slim (T:=tab) (f:=111) rfl Z98 rfl Zzn rfl h
abbrev Z5e:List SOp:=[(some 4,.assign (.const (.int .i64 0)),none)]
abbrev Z3u:List SOp:=[(some 6,.move (.tmp 0),none),
 (some 7,.call ⟨.builtin .len,#[(.tmp 6)],#[9]⟩,none),
 (some 8,.move (.const (.int .i64 0)),none)]
abbrev Z6m:List SOp:=[(some 9,.binOp .lss 3 (.tmp 8) (.tmp 7) 3,none)]
abbrev Z65:List SOp:=[(some 10,.move (.tmp 8),none),
 (some 5,.assign (.tmp 10),none)]
abbrev Z5w:List SOp:=[(some 11,.move (.tmp 1),none),
 (some 12,.move (.tmp 0),none),
 (some 13,.move (.tmp 5),none),
 (some 14,.index 9 (.tmp 12) (.tmp 13),none),
 (some 15,.call ⟨.value (.tmp 11),#[(.tmp 14)],#[5]⟩,none),
 (some 16,.unOp .not 4 (.tmp 15),none)]
abbrev Z60:List SOp:=[(some 17,.move (.tmp 5),none),
 (some 4,.assign (.tmp 17),none)]
abbrev Z19:List SOp:=[(some 18,.binOp .add 3 (.tmp 8) (.const (.int .i64 1)) 3,none),
 (some 8,.move (.tmp 18),none)]
def Zle:SCode:=.seq (.reg Z6m) (.seq (.cond (.tmp 9) (.skip) (.exit 0)) (.seq (.block 1 (.seq (.reg Z65) (.seq (.reg Z5w) (.cond (.tmp 16) (.seq (.reg Z60) (.ret)) (.skip))))) (.reg Z19)))
abbrev Z2n:List SOp:=[(some 19,.move (.tmp 0),none),
 (some 20,.call ⟨.builtin .len,#[(.tmp 19)],#[9]⟩,none),
 (some 4,.assign (.tmp 20),none)]
abbrev S112:SCode:=.seq (.reg Z5e) (.seq (.seq (.reg Z3u) (.block 0 (.loop Zle))) (.seq (.reg Z2n) (.ret)))
theorem Zzl:Zh tab 112 (Tryz.f112.body.getD .skip)=S112:=by kernel_rfl
theorem Z7y {xs:List V} {H:Hp} {Q:V->Hp->Prop} (h:WC tab S112 (frame xs 0 .nil) H (resQ tab [.tmp 4] Q)):WF tab 112 xs H Q:=WF.of_slim (T:=tab) (f:=112) rfl Ydd rfl Zzl rfl h
abbrev Z2u:List SOp:=[(some 2,.assign (.const (.bool false)),none)]
abbrev Z6y:List SOp:=[(some 3,.move (.tmp 0),none),
 (some 4,.call ⟨.value (.func 111),#[(.tmp 3)],#[5]⟩,none),
 (some 5,.move (.tmp 4),none),
 (some 6,.move (.tmp 0),some (some 5,false)),
 (some 7,.call ⟨.value (.func 114),#[(.tmp 6)],#[5]⟩,some (some 5,false)),
 (some 8,.pick (.tmp 5) (.const (.bool true)) (.tmp 7),none),
 (some 2,.assign (.tmp 8),none)]
abbrev S113:SCode:=.seq (.reg Z2u) (.seq (.reg Z6y) (.ret))
theorem Zzb:Zh tab 113 (Tryz.f113.body.getD .skip)=S113:=by kernel_rfl
theorem Z8l {xs:List V} {H:Hp} {Q:V->Hp->Prop} (h:WC tab S113 (frame xs 0 .nil) H (resQ tab [.tmp 2] Q)):WF tab 113 xs H Q:=WF.of_slim (T:=tab) (f:=113) rfl Z93 rfl Zzb rfl h
abbrev Z6u:List SOp:=[(some 2,.assign (.const (.bool false)),none)]
abbrev Z6b:List SOp:=[(some 3,.move (.tmp 0),none),
 (some 4,.binOp .geq 5 (.tmp 3) (.const (.int .u8 48)) 5,none),
 (some 5,.move (.tmp 4),none),
 (some 6,.move (.tmp 0),some (some 5,true)),
 (some 7,.binOp .leq 5 (.tmp 6) (.const (.int .u8 57)) 5,some (some 5,true)),
 (some 8,.pick (.tmp 5) (.tmp 7) (.const (.bool false)),none),
 (some 2,.assign (.tmp 8),none)]
abbrev S114:SCode:=.seq (.reg Z6u) (.seq (.reg Z6b) (.ret))
theorem Z0n:Zh tab 114 (Tryz.f114.body.getD .skip)=S114:=by kernel_rfl
theorem Yeb {xs:List V} {H:Hp} {Q:V->Hp->Prop} (h:WC tab S114 (frame xs 0 .nil) H (resQ tab [.tmp 2] Q)):WF tab 114 xs H Q:=WF.of_slim (T:=tab) (f:=114) rfl Yar rfl Z0n rfl h
abbrev Z4w:List SOp:=[(some 2,.alloc 95,none),
 (some 3,.assign (.const (.int .i64 0)),none),
 (some 4,.assign (.const (.int .i64 0)),none)]
abbrev Z5k:List SOp:=[(some 8,.move (.tmp 0),none),
 (some 9,.call ⟨.value (.func 112),#[(.tmp 8),(.func 114)],#[9,50]⟩,none),
 (some 5,.assign (.tmp 9),none)]
abbrev Z6v:List SOp:=[(some 11,.move (.tmp 0),none),
 (some 12,.move (.tmp 5),none),
 (some 13,.slice 9 (.tmp 11) none (some (.tmp 12)) none,none),
 (some 14,.call ⟨.value (.func 156),#[(.tmp 13),(.const (.int .i64 10)),(.const (.int .i64 64))],#[9,3,3]⟩,none),
 (some 10,.move (.tmp 14),none),
 (some 15,.extract (.tmp 10) 0,none),
 (some 16,.extract (.tmp 10) 1,none),
 (some 6,.assign (.tmp 15),none),
 (some 7,.assign (.tmp 16),none)]
abbrev Z31:List SOp:=[(some 17,.move (.tmp 7),none),
 (some 18,.binOp .neq 73 (.tmp 17) (.const (.nilIface)) 73,none),
 (some 19,.move (.tmp 18),none),
 (some 20,.move (.tmp 5),some (some 19,false)),
 (some 21,.binOp .gtr 3 (.tmp 20) (.const (.int .i64 1)) 3,some (some 19,false)),
 (some 22,.move (.tmp 21),some (some 19,false)),
 (some 23,.move (.tmp 0),some (some 22,true)),
 (some 24,.index 9 (.tmp 23) (.const (.int .i64 0)),some (some 22,true)),
 (some 25,.binOp .eql 5 (.tmp 24) (.const (.int .u8 48)) 5,some (some 22,true)),
 (some 26,.pick (.tmp 22) (.tmp 25) (.const (.bool false)),some (some 19,false)),
 (some 27,.pick (.tmp 19) (.const (.bool true)) (.tmp 26),none)]
abbrev Z5h:List SOp:=[(some 28,.build 95 #[],none),
 (none,.store 95 (.tmp 2) (.tmp 28),none),
 (some 3,.assign (.const (.int .i64 0)),none),
 (some 4,.assign (.const (.int .i64 6)),none)]
abbrev Z5t:List SOp:=[(some 29,.move (.tmp 0),none),
 (some 30,.move (.tmp 5),none),
 (some 31,.slice 9 (.tmp 29) none (some (.tmp 30)) none,none),
 (some 32,.move (.tmp 6),none),
 (some 33,.build 95 #[(0,(.const (.int .i64 2))),(1,(.tmp 31)),(2,(.tmp 32))],none),
 (some 34,.move (.tmp 5),none),
 (none,.store 95 (.tmp 2) (.tmp 33),none),
 (some 3,.assign (.tmp 34),none),
 (some 4,.assign (.const (.int .i64 0)),none)]
abbrev S115:SCode:=.seq (.reg Z4w) (.seq (.reg Z5k) (.seq (.reg Z6v) (.seq (.seq (.reg Z31) (.cond (.tmp 27) (.seq (.reg Z5h) (.ret)) (.skip))) (.seq (.reg Z5t) (.ret)))))
theorem Zy5:Zh tab 115 (Tryz.f115.body.getD .skip)=S115:=by kernel_rfl
theorem Yda {xs:List V} {H:Hp} {Q:V->Hp->Prop} (h:WC tab S115 (frame xs 0 .nil) H (resQ tab [.cell 2 95,.tmp 3,.tmp 4] Q)):WF tab 115 xs H Q:=WF.of_slim (T:=tab) (f:=115) rfl Ygp rfl Zy5 rfl h
abbrev Z4y:List SOp:=[(some 2,.alloc 95,none),
 (some 3,.assign (.const (.int .i64 0)),none),
 (some 4,.assign (.const (.int .i64 0)),none)]
abbrev Z5v:List SOp:=[(some 5,.alloc 71,none)]
abbrev Z4e:List SOp:=[(some 6,.assign (.const (.int .i64 1)),none)]
abbrev Z3o:List SOp:=[(some 8,.move (.tmp 6),none),
 (some 9,.move (.tmp 0),none),
 (some 10,.call ⟨.builtin .len,#[(.tmp 9)],#[9]⟩,none),
 (some 11,.binOp .lss 3 (.tmp 8) (.tmp 10) 3,none)]
abbrev Z2c:List SOp:=[(some 14,.move (.tmp 0),none),
 (some 15,.move (.tmp 6),none),
 (some 16,.index 9 (.tmp 14) (.tmp 15),none),
 (some 7,.assign (.tmp 16),none)]
abbrev Z26:List SOp:=[(some 20,.move (.tmp 7),none),
 (some 21,.binOp .eql 5 (.tmp 20) (.const (.int .u8 34)) 5,none),
 (some 19,.assign (.tmp 21),none)]
abbrev Z2k:List SOp:=[(some 22,.call ⟨.value (.func 40),#[(.tmp 5)],#[71]⟩,none),
 (some 23,.build 95 #[(0,(.const (.int .i64 3))),(1,(.tmp 22))],none),
 (some 24,.move (.tmp 6),none),
 (some 25,.binOp .add 3 (.tmp 24) (.const (.int .i64 1)) 3,none),
 (none,.store 95 (.tmp 2) (.tmp 23),none),
 (some 3,.assign (.tmp 25),none),
 (some 4,.assign (.const (.int .i64 0)),none)]
abbrev Z3b:List SOp:=[(some 27,.move (.tmp 7),none),
 (some 28,.binOp .eql 5 (.tmp 27) (.const (.int .u8 92)) 5,none),
 (some 29,.move (.tmp 28),none),
 (some 30,.move (.tmp 6),some (some 29,true)),
 (some 31,.binOp .add 3 (.tmp 30) (.const (.int .i64 1)) 3,some (some 29,true)),
 (some 32,.move (.tmp 0),some (some 29,true)),
 (some 33,.call ⟨.builtin .len,#[(.tmp 32)],#[9]⟩,some (some 29,true)),
 (some 34,.binOp .lss 3 (.tmp 31) (.tmp 33) 3,some (some 29,true)),
 (some 35,.pick (.tmp 29) (.tmp 34) (.const (.bool false)),none),
 (some 36,.move (.tmp 35),none),
 (some 37,.move (.tmp 0),some (some 36,true)),
 (some 38,.move (.tmp 6),some (some 36,true)),
 (some 39,.binOp .add 3 (.tmp 38) (.const (.int .i64 1)) 3,some (some 36,true)),
 (some 40,.index 9 (.tmp 37) (.tmp 39),some (some 36,true)),
 (some 41,.binOp .eql 5 (.tmp 40) (.const (.int .u8 34)) 5,some (some 36,true)),
 (some 42,.move (.tmp 41),some (some 36,true)),
 (some 43,.move (.tmp 0),some (some 42,false)),
 (some 44,.move (.tmp 6),some (some 42,false)),
 (some 45,.binOp .add 3 (.tmp 44) (.const (.int .i64 1)) 3,some (some 42,false)),
 (some 46,.index 9 (.tmp 43) (.tmp 45),some (some 42,false)),
 (some 47,.binOp .eql 5 (.tmp 46) (.const (.int .u8 92)) 5,some (some 42,false)),
 (some 48,.pick (.tmp 42) (.const (.bool true)) (.tmp 47),some (some 36,true)),
 (some 49,.pick (.tmp 36) (.tmp 48) (.const (.bool false)),none),
 (some 26,.assign (.tmp 49),none)]
abbrev Zz2:List SOp:=[(some 50,.move (.tmp 6),none),
 (some 51,.binOp .add 3 (.tmp 50) (.const (.int .i64 1)) 3,none),
 (some 6,.assign (.tmp 51),none)]
abbrev Z0c:List SOp:=[(some 52,.move (.tmp 0),none),
 (some 53,.move (.tmp 6),none),
 (some 54,.index 9 (.tmp 52) (.tmp 53),none),
 (some 55,.call ⟨.value (.func 71),#[(.tmp 5),(.tmp 54)],#[71,5]⟩,none)]
abbrev Z0w:List SOp:=[(some 57,.move (.tmp 7),none),
 (some 58,.binOp .eql 5 (.tmp 57) (.const (.int .u8 92)) 5,none),
 (some 59,.move (.tmp 58),none),
 (some 60,.move (.tmp 6),some (some 59,true)),
 (some 61,.binOp .add 3 (.tmp 60) (.const (.int .i64 1)) 3,some (some 59,true)),
 (some 62,.move (.tmp 0),some (some 59,true)),
 (some 63,.call ⟨.builtin .len,#[(.tmp 62)],#[9]⟩,some (some 59,true)),
 (some 64,.binOp .lss 3 (.tmp 61) (.tmp 63) 3,some (some 59,true)),
 (some 65,.pick (.tmp 59) (.tmp 64) (.const (.bool false)),none),
 (some 66,.move (.tmp 65),none),
 (some 67,.move (.tmp 0),some (some 66,true)),
 (some 68,.move (.tmp 6),some (some 66,true)),
 (some 69,.binOp .add 3 (.tmp 68) (.const (.int .i64 1)) 3,some (some 66,true)),
 (some 70,.index 9 (.tmp 67) (.tmp 69),some (some 66,true)),
 (some 71,.binOp .eql 5 (.tmp 70) (.const (.int .u8 110)) 5,some (some 66,true)),
 (some 72,.pick (.tmp 66) (.tmp 71) (.const (.bool false)),none),
 (some 56,.assign (.tmp 72),none)]
abbrev Z1n:List SOp:=[(some 73,.move (.tmp 6),none),
 (some 74,.binOp .add 3 (.tmp 73) (.const (.int .i64 1)) 3,none),
 (some 6,.assign (.tmp 74),none)]
abbrev Zy7:List SOp:=[(some 75,.call ⟨.value (.func 71),#[(.tmp 5),(.const (.int .u8 10))],#[71,5]⟩,none)]
abbrev Z14:List SOp:=[(some 77,.move (.tmp 7),none),
 (some 78,.binOp .lss 5 (.tmp 77) (.const (.int .u8 32)) 5,none),
 (some 79,.move (.tmp 78),none),
 (some 80,.move (.tmp 7),some (some 79,false)),
 (some 81,.binOp .gtr 5 (.tmp 80) (.const (.int .u8 126)) 5,some (some 79,false)),
 (some 82,.pick (.tmp 79) (.const (.bool true)) (.tmp 81),none),
 (some 83,.move (.tmp 82),none),
 (some 84,.move (.tmp 7),some (some 83,false)),
 (some 85,.binOp .eql 5 (.tmp 84) (.const (.int .u8 92)) 5,some (some 83,false)),
 (some 86,.pick (.tmp 83) (.const (.bool true)) (.tmp 85),none),
 (some 76,.assign (.tmp 86),none)]
abbrev Z08:List SOp:=[(some 87,.build 95 #[],none),
 (none,.store 95 (.tmp 2) (.tmp 87),none),
 (some 3,.assign (.const (.int .i64 0)),none),
 (some 4,.assign (.const (.int .i64 1)),none)]
abbrev Z4c:List SOp:=[(some 17,.move (.tmp 7),none),
 (some 18,.call ⟨.value (.func 71),#[(.tmp 5),(.tmp 17)],#[71,5]⟩,none)]
abbrev Z3s:List SOp:=[(some 12,.move (.tmp 6),none),
 (some 13,.binOp .add 3 (.tmp 12) (.const (.int .i64 1)) 3,none),
 (some 6,.assign (.tmp 13),none)]
def Ud:SCode:=.seq (.seq (.reg Z3o) (.cond (.tmp 11) (.skip) (.exit 0))) (.seq (.block 1 (.seq (.reg Z2c) (.block 2 (.seq (.reg Z26) (.cond (.tmp 19) (.seq (.reg Z2k) (.ret)) (.seq (.reg Z3b) (.cond (.tmp 26) (.seq (.reg Zz2) (.reg Z0c)) (.seq (.reg Z0w) (.cond (.tmp 56) (.seq (.reg Z1n) (.reg Zy7)) (.seq (.reg Z14) (.cond (.tmp 76) (.seq (.reg Z08) (.ret)) (.reg Z4c)))))))))))) (.reg Z3s))
abbrev Zzm:List SOp:=[(some 88,.build 95 #[],none),
 (none,.store 95 (.tmp 2) (.tmp 88),none),
 (some 3,.assign (.const (.int .i64 0)),none),
 (some 4,.assign (.const (.int .i64 1)),none)]
abbrev S116:SCode:=.seq (.reg Z4y) (.seq (.reg Z5v) (.seq (.seq (.reg Z4e) (.block 0 (.loop Ud))) (.seq (.reg Zzm) (.ret))))
theorem Z0d:Zh tab 116 (Tryz.f116.body.getD .skip)=S116:=by kernel_rfl
theorem Ygh {xs:List V} {H:Hp} {Q:V->Hp->Prop} (h:WC tab S116 (frame xs 0 .nil) H (resQ tab [.cell 2 95,.tmp 3,.tmp 4] Q)):WF tab 116 xs H Q:=WF.of_slim (T:=tab) (f:=116) rfl Ygk rfl Z0d rfl h
abbrev Z7d:List SOp:=[(some 4,.assign (.const (.bool false)),none)]
abbrev Yfe:List SOp:=[(some 5,.move (.tmp 0),none),
 (some 6,.call ⟨.builtin .len,#[(.tmp 5)],#[9]⟩,none),
 (some 7,.move (.tmp 1),none),
 (some 8,.call ⟨.builtin .len,#[(.tmp 7)],#[9]⟩,none),
 (some 9,.binOp .geq 3 (.tmp 6) (.tmp 8) 3,none),
 (some 10,.move (.tmp 9),none),
 (some 11,.move (.tmp 0),some (some 10,true)),
 (some 12,.move (.tmp 1),some (some 10,true)),
 (some 13,.call ⟨.builtin .len,#[(.tmp 12)],#[9]⟩,some (some 10,true)),
 (some 14,.slice 9 (.tmp 11) none (some (.tmp 13)) none,some (some 10,true)),
 (some 15,.move (.tmp 1),some (some 10,true)),
 (some 16,.binOp .eql 9 (.tmp 14) (.tmp 15) 9,some (some 10,true)),
 (some 17,.pick (.tmp 10) (.tmp 16) (.const (.bool false)),none),
 (some 4,.assign (.tmp 17),none)]
abbrev S91:SCode:=.seq (.reg Z7d) (.seq (.reg Yfe) (.ret))
theorem Z3t:Zh tab 91 (Tryz.f91.body.getD .skip)=S91:=by kernel_rfl
theorem wf91 {xs:List V} {H:Hp} {Q:V->Hp->Prop} (h:WC tab S91 (frame xs 0 .nil) H (resQ tab [.tmp 4] Q)):WF tab 91 xs H Q:=WF.of_slim (T:=tab) (f:=91) rfl fn91 rfl Z3t rfl h
end Go.AM.YtlillgmgpmbfnaaGreatDoorT
namespace Go.AM.YtlillgmgpmbfnaaGreatDoorT
open Go Go.AM
end Go.AM.YtlillgmgpmbfnaaGreatDoorT
namespace Go.AM.YtlillgmgpmbfnaaGreatDoorT
open Go Go.AM Go.Proofs
set_option maxRecDepth 100000
abbrev Ydg:List SOp:=[(some 4,.assign (.const (.nilIface)),none)]
abbrev Yd1:List SOp:=[(some 5,.move (.tmp 0),none),
 (some 6,.call ⟨.value (.func 69),#[(.tmp 5)],#[69]⟩,none)]
abbrev Yc0:List SOp:=[(some 7,.move (.tmp 0),none),
 (some 8,.move (.tmp 0),none),
 (some 9,.nilCheck (.tmp 8),none),
 (some 10,.fieldAddr 71 (.tmp 9) 1,none),
 (some 11,.load 60 (.tmp 10),none),
 (some 12,.move (.tmp 1),none),
 (some 13,.buildSlice 60 1 #[(0,(.tmp 12))],none),
 (some 14,.call ⟨.builtin .append,#[(.tmp 11),(.tmp 13)],#[60,60]⟩,none),
 (some 15,.nilCheck (.tmp 7),none),
 (some 16,.fieldAddr 71 (.tmp 15) 1,none),
 (none,.store 60 (.tmp 16) (.tmp 14),none)]
abbrev Ydf:List SOp:=[(some 4,.assign (.const (.nilIface)),none)]
abbrev S71:SCode:=.seq (.reg Ydg) (.seq (.reg Yd1) (.seq (.reg Yc0) (.seq (.reg Ydf) (.ret))))
theorem Z3w:Zh tab 71 (Tryz.f71.body.getD .skip)=S71:=by kernel_rfl
theorem wf71 {xs:List V} {H:Hp} {Q:V->Hp->Prop} (h:WC tab S71 (frame xs 0 .nil) H (resQ tab [.tmp 4] Q)):WF tab 71 xs H Q:=WF.of_slim (T:=tab) (f:=71) rfl fn71 rfl Z3w rfl h
end Go.AM.YtlillgmgpmbfnaaGreatDoorT
namespace Go.AM.YtlillgmgpmbfnaaGreatDoorT
open Go Go.AM
end Go.AM.YtlillgmgpmbfnaaGreatDoorT
set_option maxRecDepth 100000
namespace Go.AM.YtlillgmgpmbfnaaGreatDoorT
open Go Go.AM Go.Proofs
theorem Z3k {T:Tab} {f:FuncId} {xs:List V} {H H' : Hp} {v:V} {e:List V->Hp->Option (V×Hp)} {fn:Func} {c:Code} {Q:V->Hp->Prop} (h0:T.ext f=some e) (h1:T.fn f=some fn) (h2:fn.body=some c) (h:e xs H=some (v,H')) (hq:Q v H'):WF T f xs H Q :=
 ⟨1,v,H',by simp only [Zo,h1,h2,h0,h],hq⟩
theorem J2 {f:FuncId} {xs:List V} {H H' : Hp} {v:V} {e:List V->Hp->Option (V×Hp)} {fn:Func} {Q:V->Hp->Prop} (h0:tab.ext f=some e) (h1:tab.fn f=some fn) (h2:fn.body.isSome=true) (h:e xs H=some (v,H')) (hq:Q v H'):WF tab f xs H Q:=by
 obtain ⟨c,hc⟩:=Option.isSome_iff_exists.1 h2
 exact Z3k h0 h1 hc h hq
def Z6d:Ob:=.row 71 2 false [.nilp,.nils]
theorem Zka {H H' : Hp} {e:TypeId} {z n:Nat} {s s' : V} {l:List V} (hs:H.stale=[]) (hS:SlAt H' e z s' n l) (hA:AppR H s H' s') :
  SlAt H'.flush e z s' n l/\(∀ c,c < H.next->c∉Za s->H'.flush.get c=H.get c)/\H'.flush.stale=[]/\H.next<=H'.flush.next/\(∀ r∈Za s',r < H'.flush.next/\(r∈Za s\/H.next<=r)):=by
 refine ⟨hS.of_get fun b hb=>?_,fun c hc hr=>?_,Hp.stale_flush _,by rw [Hp.next_flush];exact hA.le,fun r hr=>?_⟩
 ·rw [Hp.get_flush,if_neg (hA.new b hb).1]
 ·have:=hA.keep c hc hr (by simp [hs])
  rw [Hp.get_flush,if_neg this.2]
  exact this.1
 ·have:=hA.new r hr
  rw [Hp.next_flush]
  exact ⟨this.2.1,this.2.2⟩
abbrev nK (K:Nat->Prop):Nat->Prop:=fun x=>¬ K x
structure BldK (K:Nat->Prop) (H:Hp) (b:Nat) (l:List UInt8):Prop where
 ex:∃ a v,H.get b=some (.row 71 2 false [a,v])/\(a = .nilp/\v = .nils\/a = .ptr b 0)/\SlAt H 5 1 v l.length (l.map bv)/\(∀ r∈Za v,¬ K r/\r < H.next/\r≠b)/\(l=[]->v = .nils)
 lo:¬ K b
 hi:b < H.next
 kn:∀ x,K x->x < H.next
theorem BldK.new {H:Hp} {K:Nat->Prop} (h:∀ x,K x->x < H.next):BldK K (H.new Z6d) H.next [] :=
 ⟨⟨_,_,Z5 H _,.inl ⟨rfl,rfl⟩,.nil,fun r hr=>by simp [Za] at hr,fun _=>rfl⟩,fun hk=>by have:=h _ hk;omega,by rw [Hp.next_new];omega,fun x hx=>by rw [Hp.next_new];have:=h x hx;omega⟩
theorem BldK.more {H:Hp} {K:Nat->Prop} {b:Nat} {l:List UInt8} (h:BldK K H b l) (o:Ob):BldK (fun x=>K x\/x=H.next) (H.new o) b l:=by
 obtain ⟨⟨a,v,h1,h2,h3,h4,h7⟩,h5,h6,hk⟩:=h
 refine ⟨⟨a,v,by rw [Z9 _ (by omega)];exact h1,h2,h3.of_get fun r hr=>Z9 _ (by have:=h4 r hr;omega),fun r hr=>?_,h7⟩,fun h=>?_,by rw [Hp.next_new];omega,fun x hx=>?_⟩
 ·have:=h4 r hr
  rw [Hp.next_new]
  exact ⟨fun h=>h.elim this.1 (fun e=>by omega),by omega,this.2.2⟩
 ·exact h.elim h5 (fun e=>by omega)
 ·rw [Hp.next_new]
  rcases hx with hx | hx
  ·have:=hk x hx;omega
  ·omega
theorem BldK.less {H:Hp} {K K' : Nat->Prop} {b:Nat} {l:List UInt8} (h:BldK K H b l) (hk:∀ x,K' x->K x):BldK K' H b l:=by
 obtain ⟨⟨a,v,h1,h2,h3,h4,h7⟩,h5,h6,h8⟩:=h
 exact ⟨⟨a,v,h1,h2,h3,fun r hr=>⟨fun h=>(h4 r hr).1 (hk r h),(h4 r hr).2⟩,h7⟩,fun h=>h5 (hk b h),h6,fun x hx=>h8 x (hk x hx)⟩
theorem BldK.ext {X K:Nat->Prop} {H H' : Hp} {b:Nat} {l:List UInt8} (h:BldK K H b l) (hE:Ext X H H') (hX:∀ x,x < H.next->¬ K x->¬ X x):BldK K H' b l:=by
 obtain ⟨⟨a,v,h1,h2,h3,h4,h7⟩,h5,h6,h8⟩:=h
 have hle:=hE.le
 refine ⟨⟨a,v,by rw [hE.get b h6 (hX _ h6 h5)];exact h1,h2,h3.of_get fun r hr=>?_,fun r hr=>?_,h7⟩,h5,by omega,fun x hx=>by have:=h8 x hx;omega⟩
 ·have:=h4 r hr
  exact hE.get r this.2.1 (hX _ this.2.1 this.1)
 ·have:=h4 r hr
  exact ⟨this.1,by omega,this.2.2⟩
theorem ccK {K:Nat->Prop} {H:Hp} {b:Nat} {l:List UInt8} (hs:H.stale=[]) (h:BldK K H b l) {Q:V->Hp->Prop} (hq:∀ H' v,H'.stale=[]->H'.next=H.next->BldK K H' b l->H'.get b=some (.row 71 2 false [.ptr b 0,v])->SlAt H' 5 1 v l.length (l.map bv)->(∀ r∈Za v,¬ K r/\r < H'.next/\r≠b)->(l=[]->v = .nils)->Ext (nK K) H H'->Q (.tup []) H'):WF tab 69 [.ptr b 0] H Q:=by
 obtain ⟨⟨a,v,h1,h2,h3,h4,h7⟩,h5,h6,h8⟩:=h
 rcases h2 with ⟨rfl,rfl⟩ | rfl
 ·refine J2 (f:=69) rfl fn69 rfl (H':=H.put b (.row 71 2 false [.ptr b 0,.nils])) (v:=.tup []) ?_ ?_
  ·simp [ccE,hs,h1]
  ·refine hq _ .nils hs rfl ⟨⟨_,_,Zd _ _ _,.inr rfl,?_,?_,h7⟩,h5,h6,h8⟩ (Zd _ _ _) ?_ ?_ h7 (Ext.put hs _ h5)
   ·exact h3.of_get fun r hr=>by simp [Za] at hr
   ·exact fun r hr=>by simp [Za] at hr
   ·exact h3.of_get fun r hr=>by simp [Za] at hr
   ·exact fun r hr=>by simp [Za] at hr
 ·refine J2 (f:=69) rfl fn69 rfl (H':=H) (v:=.tup []) ?_ ?_
  ·simp [ccE,hs,h1]
  ·exact hq _ v hs rfl ⟨⟨_,_,h1,.inr rfl,h3,h4,h7⟩,h5,h6,h8⟩ h1 h3 h4 h7 (Ext.refl hs)
theorem Zw4 {K:Nat->Prop} {H H1 H2:Hp} {b n:Nat} {v s' : V} {l:List UInt8} (s1:H1.stale=[]) (n1:H1.next=H.next) (hb:b < H.next) (hkb:¬ K b) (hk:∀ x,K x->x < H.next) (g1:H1.get b=some (.row 71 2 false [.ptr b 0,v]))
  (r1:∀ r∈Za v,¬ K r/\r < H1.next/\r≠b) (e1:Ext (nK K) H H1) (hS:SlAt H2 5 1 s' n (l.map bv)) (hn:n=l.length) (hl:l≠[]) (hA:AppR H1 v H2 s') :
  H2.flush.get b=some (.row 71 2 false [.ptr b 0,v])/\BldK K (H2.flush.put b (.row 71 2 false [.ptr b 0,s'])) b l/\Ext (nK K) H (H2.flush.put b (.row 71 2 false [.ptr b 0,s'])):=by
 subst hn
 obtain ⟨k1,k2,k3,k4,k5⟩:=Zka s1 hS hA
 have gb:H2.flush.get b=some (.row 71 2 false [.ptr b 0,v]):=by
  rw [k2 b (by omega) (fun hr=>(r1 b hr).2.2 rfl)];exact g1
 have hrb:∀ r∈Za s',r≠b:=fun r hr e=>by
  rcases (k5 r hr).2 with h1 | h1
  ·exact (r1 r h1).2.2 e
  ·omega
 refine ⟨gb,⟨⟨_,_,Zd _ _ _,.inr rfl,?_,fun r hr=>?_,fun h=>absurd h hl⟩,hkb,by show b < H2.flush.next;omega,fun x hx=>by show x < H2.flush.next;have:=hk x hx;omega⟩,?_⟩
 ·exact k1.of_get (H':=H2.flush.put b (.row 71 2 false [.ptr b 0,s'])) fun r hr=>Zf _ (hrb r hr)
 ·have h1:=k5 r hr
  refine ⟨fun hkr=>?_,h1.1,hrb r hr⟩
  rcases h1.2 with h2 | h2
  ·exact (r1 r h2).1 hkr
  ·have:=hk r hkr;omega
 ·refine ⟨k3,by show H.next<=H2.flush.next;omega,fun x hx hn=>?_⟩
  have hKx:K x:=Classical.not_not.1 hn
  rw [Zf _ (fun e=>hkb (by rw [<- e];exact hKx)),k2 x (by omega) (fun hr=>(r1 x hr).1 hKx)]
  exact e1.get x hx hn
theorem wbK {K:Nat->Prop} {H:Hp} {b:Nat} {l:List UInt8} (hs:H.stale=[]) (h:BldK K H b l) (c:UInt8) (hl:l.length < 1000000000):WF tab 71 [.ptr b 0,bv c] H fun v H'=>BldK K H' b (l++[c])/\Ext (nK K) H H':=by
 refine wf71 (Zs _ ?_)
 simp [hs]
 refine ccK hs h ?_
 intro H1 v s1 n1 hb1 g1 a1 r1 z1 e1
 simp [s1,g1]
 refine Zag (e0:=5) (cells:=[bv c]) (by simp [Zb]) ty5 (by decide) (by simp) (by simp) a1 (fun r hr=>⟨(r1 r hr).2.1,by simp [s1]⟩) rfl (by simp;omega) (by omega) (by simp [s1]) fun s' H2 hS hA=>?_
 have hS' : SlAt H2 5 1 s' (l.length+1) ((l++[c]).map bv):=by simpa using hS
 obtain ⟨gb,q1,q2⟩:=Zw4 s1 n1 h.hi h.lo h.kn g1 r1 e1 hS' (by simp) (by simp) hA
 have c1:=hS.cells
 have c2:=hS.one
 simp [gb,c1,c2]
 exact ⟨q1,q2⟩
theorem Znb {T:Tab} {t t' e:TypeId} {i:TI} {xs ys:Operand} {F:Fr} {H:Hp} {s x:V} {n:Nat} {news l:List V} {d:Option Tmp} {r:List SOp} {Q:PL} (hd:Zb T t=some (.slice e)) (hi:T.ty e=some i) (hx:opd T.ng F xs=some s) (hy:opd T.ng F ys=some x)
  (hs:SlAt H e i.size s n l) (ht:Wj T H.get t t' e i.size x=some (0,news)) (h:wpL T r (putD F d s) H Q):opQ T (.call ⟨.builtin .append,#[xs,ys],#[t,t']⟩) d r F H Q .a:=by
 have ho:opds T.ng F (#[xs,ys]:Array Operand).toList=some [s,x]:=by simp only [opds,hx,hy]
 have he:evA T (.call ⟨.builtin .append,#[xs,ys],#[t,t']⟩) F H.get H.next=some (s,none,none):=by
  cases hs<;>simp only [evA,ho,hd,hi,ht]
 show kA T _ d r F H Q (evA T (.call ⟨.builtin .append,#[xs,ys],#[t,t']⟩) F H.get H.next)
 rw [he]
 exact ⟨rfl,h⟩
theorem stK {K:Nat->Prop} {H:Hp} {b:Nat} {l:List UInt8} (hs:H.stale=[]) (h:BldK K H b l) (hl:l.length < 1000000000):WF tab 40 [.ptr b 0] H fun v H'=>v = .str l/\Ext (nK K) H H':=by
 obtain ⟨⟨a,v,h1,h2,h3,h4,h7⟩,h5,h6,h8⟩:=h
 generalize hn:l.length=n at h3
 generalize hc:l.map bv=cs0 at h3
 cases h3 with
 | nil =>
  have:l=[]:=by simpa using hc
  subst this
  exact J2 (f:=40) rfl fn40 rfl (H':=H) (v:=.str []) (by simp [strE,hs,h1]) ⟨rfl,Ext.refl hs⟩
 | row r n cs hg hle =>
  cases n with
  | zero =>
   have:l=[]:=List.eq_nil_of_length_eq_zero hn
   have:=h7 this
   cases this
  | succ n =>
   have hr:=h4 r (by simp [Za])
   rw [Nat.mul_one] at hc hle
   refine J2 (f:=40) rfl fn40 rfl (H':=H.put r (.row 5 1 true cs)) (v:=.str l) ?_ ⟨rfl,Ext.put hs _ hr.1⟩
   have e1:=Zhq l
   have e2:=Zxc l
   rw [hc] at e1 e2
   have e3:n+1<=9223372036854775807:=by omega
   simp only [strE,hs,h1,hg,hle,e1,e2,e3]
   simp
end Go.AM.YtlillgmgpmbfnaaGreatDoorT
set_option maxRecDepth 1000000
namespace Go.AM.YtlillgmgpmbfnaaGreatDoorT
open Go Go.AM Go.Proofs
def Zg0:List V:=[.str [],.str [],.str [],.str [],.str [],.str [],.str [45],.str [33],.str [43],.str [45],.str [42],.str [61,61],.str [33,61],.str [60],.str [],.str [],.str [],.str []]
def errR:Option Ob:=some (.row 73 1 true [.ifc 257 (.ptr 14 0)])
def Zra (H:Hp):Option (V×Hp)->Option (Bool×Bool×List Nat×List (Option Ob))
 | some (.bool b,H')=>some (b,Nat.ble H.next H'.next,H'.stale,(List.range H.next).map H'.get)
 | _=>none
theorem Zrx {f:FuncId} {H:Hp} {k:Nat} (h:Zra H (Zo tab k f [] H)=some (true,true,[],(List.range H.next).map H.get)):WF tab f [] H fun v H'=>v = .bool true/\Ext noX H H':=by
 unfold Zra at h
 split at h
 ·rename_i b H' he
  simp only [Option.some.injEq,Prod.mk.injEq] at h
  obtain ⟨rfl,h2,h3,h4⟩:=h
  refine ⟨k,_,H',he,rfl,h3,Nat.le_of_ble_eq_true h2,fun x hx _=>?_⟩
  have:=congrArg (fun l=>l[x]?) h4
  simpa [hx] using this
 ·cases h
end Go.AM.YtlillgmgpmbfnaaGreatDoorT
set_option maxRecDepth 100000
namespace Go.AM.YtlillgmgpmbfnaaGreatDoorT
open Go Go.AM Go.Proofs
abbrev ltN (N:Nat):Nat->Prop:=fun x=>x < N
theorem Zgf {H:Hp} (hs:H.stale=[]) (c:UInt8):WF tab 114 [bv c] H fun v H'=>v = .bool (Yt c)/\H' = H:=by
 refine Yeb (Zs _ ?_)
 by_cases h1:48<=c.toNat
 ·have h1' : (48:Int)<=(c.toNat:Int):=by omega
  by_cases h2:c.toNat<=57
  ·have h2' : (c.toNat:Int)<=57:=by omega
   simp [hs,h1',h2',Yt,h1,h2]
  ·have h2' : ¬ (c.toNat:Int)<=57:=by omega
   simp [hs,h1',h2',Yt,h1,h2]
 ·have h1' : ¬ (48:Int)<=(c.toNat:Int):=by omega
  simp [hs,h1',Yt,h1]
theorem Zje {H:Hp} (hs:H.stale=[]) (c:UInt8):WF tab 111 [bv c] H fun v H'=>v = .bool (Zbn c)/\H' = H:=by
 refine Z86 (Zs _ ?_)
 have e1:decide ((97:Int)<=(c.toNat:Int))=decide (97<=c.toNat):=by simp;omega
 have e2:decide ((c.toNat:Int)<=122)=decide (c.toNat<=122):=by simp;omega
 have e3:decide ((65:Int)<=(c.toNat:Int))=decide (65<=c.toNat):=by simp;omega
 have e4:decide ((c.toNat:Int)<=90)=decide (c.toNat<=90):=by simp;omega
 have e5:((c.toNat:Int)==95)=decide (c.toNat=95):=by
  by_cases h:c.toNat=95
  ·simp [h]
  ·have:¬ (c.toNat:Int)=95:=by omega
   simp [h,this]
 unfold Zbn
 generalize h1:decide (97<=c.toNat)=a1 at *
 generalize h2:decide (c.toNat<=122)=a2 at *
 generalize h3:decide (65<=c.toNat)=a3 at *
 generalize h4:decide (c.toNat<=90)=a4 at *
 generalize h5:decide (c.toNat=95)=a5 at *
 cases a1<;>cases a2<;>cases a3<;>cases a4<;>cases a5<;>simp [hs,e1,e2,e3,e4,e5]
theorem Z0x {H:Hp} (hs:H.stale=[]) (c:UInt8):WF tab 113 [bv c] H fun v H'=>v = .bool (Us c)/\H' = H:=by
 refine Z8l (Zs _ ?_)
 simp [hs]
 refine (Zje hs c).mono ?_
 rintro v H' ⟨rfl,rfl⟩
 cases h:Zbn c with
 | true=>simp [hs,Us,h]
 | false =>
  simp [hs,Us,h]
  refine (Zgf hs c).mono ?_
  rintro v H' ⟨rfl,rfl⟩
  simp [hs]
def Irun (s:List UInt8) (g:Nat) (p:UInt8->Bool) (H:Hp) (m:Nat) (F:Fr) (H' : Hp):Prop :=
 ∃ i:Nat,i+m=s.length/\H' = H/\F.get 0=some (.str s)/\F.get 1=some (.fn (.func g) [] [])/\F.get 7=some (.int .i64 s.length)/\F.get 8=some (.int .i64 i)/\runN p s=i+runN p (s.drop i)
theorem Zsy {H:Hp} (hs:H.stale=[]) (s:List UInt8) (g:Nat) (p:UInt8->Bool) (hp:∀ c,WF tab g [bv c] H fun v H'=>v = .bool (p c)/\H' = H) (hl:s.length < 1000000):WF tab 112 [.str s,.fn (.func g) [] []] H fun v H'=>v = .int .i64 (runN p s)/\H' = H:=by
 refine Z7y (Zs _ ?_)
 simp [hs]
 refine Xh (Irun s g p H) (m:=s.length) ⟨0,by omega,rfl,by simp,by simp,by simp,by simp,by simp⟩ ?_
 rintro m F H' ⟨i,hi,rfl,f0,f1,f7,f8,hr⟩
 by_cases hlt:i < s.length
 ·have hlt' : (i:Int) < (s.length:Int):=by omega
  have hw:=V4 (show i < 1000000000 by omega)
  rw [Jg hlt] at hr
  simp [Zle,f0,f1,f7,f8,hlt,hlt',hs]
  refine (hp _).mono ?_
  rintro v H' ⟨rfl,rfl⟩
  cases hc:p s[i] with
  | true =>
   simp [runN,hc] at hr
   simp [hs,f8,hw]
   exact ⟨m-1,by omega,i+1,by omega,rfl,by simp [f0],by simp [f1],by simp [f7],by simp,by omega⟩
  | false =>
   simp [runN,hc] at hr
   simp [hs,hr]
 ·have hlt' : ¬ (i:Int) < (s.length:Int):=by omega
  rw [List.drop_eq_nil_of_le (by omega)] at hr
  simp [runN] at hr
  have:i=s.length:=by omega
  simp [Zle,f0,f1,f7,f8,hlt,hlt',hs,hr,this]
theorem Zz1 {H:Hp} (hs:H.stale=[]) (s p:List UInt8):WF tab 91 [.str s,.str p] H fun v H'=>v = .bool (p.isPrefixOf s)/\H' = H:=by
 refine wf91 (Zs _ ?_)
 by_cases h:p.length<=s.length
 ·have h' : (p.length:Int)<=(s.length:Int):=by omega
  have e:(s.take p.length==p)=p.isPrefixOf s:=by
   rw [Bool.eq_iff_iff]
   simp [List.isPrefixOf_iff_prefix,List.prefix_iff_eq_take]
   exact ⟨fun h=>h.symm,fun h=>h.symm⟩
  simp [hs,h,h',Yw,e]
 ·have h' : ¬ (p.length:Int)<=(s.length:Int):=by omega
  have e:p.isPrefixOf s=false:=by
   rw [Bool.eq_false_iff]
   intro hp
   exact h (List.isPrefixOf_iff_prefix.1 hp).length_le
  simp [hs,h,h',e]
theorem Zuj {H:Hp} (hs:H.stale=[]) (s p:List UInt8):WF tab 59 [.str s,.str p] H fun v H'=>v = .bool (p.isPrefixOf s)/\H' = H:=by
 refine wf59 (Zs _ ?_)
 simp [hs]
 refine (Zz1 hs s p).mono ?_
 rintro v H' ⟨rfl,rfl⟩
 simp [hs]
structure Gd (H:Hp):Prop where
 st:H.stale=[]
 lt:13 < H.next
 er:H.get 13=errR
theorem Gd.ext {X:Nat->Prop} {H H' : Hp} (h:Gd H) (hE:Ext X H H') (hX:¬ X 13):Gd H':=⟨hE.st,Nat.lt_of_lt_of_le h.lt hE.le,by rw [hE.get 13 (by have:=h.lt;omega) hX];exact h.er⟩
theorem Gd.new {H:Hp} (h:Gd H) (o:Ob):Gd (H.new o):=h.ext (X:=noX) (Ext.new h.st o) (fun h=>h)
theorem Gd.bump {H:Hp} (h:Gd H):Gd H.bump:=⟨h.st,Nat.lt_succ_of_lt h.lt,h.er⟩
theorem Zrv {H:Hp} (hG:Gd H) (c:UInt8) (r:List UInt8) (hc:Yt c=true) (hl:(c :: r).length < 1000000):WF tab 115 [.str (c :: r)] H fun v H'=>v=(W3 (c :: r)).v/\Ext noX H H':=by
 have hs:=hG.st
 refine Yda (Zs _ ?_)
 simp [hs]
 refine (Zsy (by simp [hs]) (c :: r) 114 Yt (fun x=>Zgf (by simp [hs]) x) hl).mono ?_
 rintro v H' ⟨rfl,rfl⟩
 have hn:=V2 Yt (c :: r)
 have h1:1<=runN Yt (c :: r):=by rw [runN,if_pos hc];omega
 generalize hN:runN Yt (c :: r)=n at *
 have hns:=Z3c (l:=(c :: r).take n) (by intro h;have:=congrArg List.length h;simp at this;omega) (fun x hx=>Zlq Yt (c :: r) x (by rw [hN];exact hx))
 have hle:(n:Int)<=(r.length:Int)+1:=by simp at hn;omega
 simp [hs,Yw,hle]
 have hE:∀ (a b:Ob),Ext noX H ((H.new a).put H.next b):=fun a b=>(Ext.new hs a).putge b (Nat.le_refl _)
 have hlen:(List.take n (c :: r)).length<=281474976710656:=by rw [List.length_take];omega
 cases hp:Lib.parseIntB 64 (List.take n (c :: r))
 ·rename_i u
  refine J2 (f:=156) rfl Zyv rfl (H':=H.new (.row 95 4 false [.int .i64 0,.str [],.int .i64 0,.int .i64 0])) (v:=.tup [.int .i64 u,.nili]) ?_ ?_
  ·simp only [piE,hlen,if_true,hp]
  ·simp [hs]
   by_cases h2:1 < n
   ·have h2' : (1:Int) < (n:Int):=by omega
    by_cases h3:c=48
    ·subst h3
     simp [hs,h2',hE,W3,hN,hp,h2,LxR.v,tokV]
    ·have h3' : ((c.toNat:Int)==48)=false:=by
      have:=Jq h3
      simp at this ⊢
      omega
     simp [hs,h2',h3',hE,W3,hN,hp,h2,h3,LxR.v,tokV,Yw,hle]
   ·have h2' : ¬ (1:Int) < (n:Int):=by omega
    simp [hs,h2',hE,W3,hN,hp,h2,LxR.v,tokV,Yw,hle]
 ·rw [hp] at hns;cases hns
 ·refine J2 (f:=156) rfl Zyv rfl (H':=(H.new (.row 95 4 false [.int .i64 0,.str [],.int .i64 0,.int .i64 0])).bump) (v:=.tup [.int .i64 (Lib.intSat 64 (List.take n (c :: r))),.ifc 238 (.ptr (H.next+1) 0)]) ?_ ?_
  ·have h6:(H.new (Ob.row 95 4 false [V.int IntKind.i64 0,V.str [],V.int IntKind.i64 0,V.int IntKind.i64 0])).get 13=errR:=(hG.new _).er
   simp only [piE,hlen,if_true,hp,h6,errR,Zmg,hs]
   rfl
  ·simp [hs,hE,W3,hN,hp,LxR.v,tokV]
   exact ((Ext.new hs _).bump).putge _ (Nat.le_refl _)
abbrev tok0:Ob:=.row 95 4 false [.int .i64 0,.str [],.int .i64 0,.int .i64 0]
def Zoy (s:List UInt8) (H:Hp) (R:LxR) (m:Nat) (F:Fr) (H' : Hp):Prop :=
 ∃ (i:Nat) (acc:List UInt8),i+m=s.length/\1<=i/\acc.length<=i/\F.get 0=some (.str s)/\F.get 2=some (.ptr H.next 0)/\F.get 5=some (.ptr (H.next+1) 0)/\F.get 6=some (.int .i64 i) /\
  BldK (ltN (H.next+1)) H' (H.next+1) acc/\H'.get H.next=some tok0/\Ext noX H H'/\qF (s.drop i) acc i=R
theorem Zs9 {H:Hp} (hs:H.stale=[]) (s:List UInt8) (h0:1<=s.length) (hl:s.length < 1000000):WF tab 116 [.str s] H fun v H'=>v=(qF (s.drop 1) [] 1).v/\Ext noX H H':=by
 refine Ygh (Zs _ ?_)
 generalize hR:qF (s.drop 1) [] 1=R
 simp [hs]
 refine Xh (Zoy s H R) (m:=s.length-1) ⟨1,[],by omega,by omega,by simp,by simp,by simp,by simp,by simp,?_,?_,?_,hR⟩ ?_
 ·exact BldK.new (K:=ltN (H.next+1)) (H:=H.new tok0) (fun x hx=>by simpa [ltN] using hx)
 ·rw [Z9 _ (by rw [Hp.next_new];omega),Z5]
 ·exact (Ext.new hs _).newge _
 rintro m F H' ⟨i,acc,hi,hi1,ha,f0,f2,f5,f6,hB,hT,hE,hq⟩
 have hst:=hE.st
 by_cases hlt:i < s.length
 ·have hlt' : (i:Int) < (s.length:Int):=by omega
  have h0i:(0:Int)<=(i:Int)+1:=by omega
  have hw:=V4 (show i < 1000000000 by omega)
  have hw1:=V4 (show i+1 < 1000000000 by omega)
  have hw2:wr .i64 ((i:Int)+1+1)=((i+2:Nat):Int):=by rw [Wf (by omega) (by omega)];omega
  rw [Jg hlt] at hq
  generalize hc:s[i]=c at hq
  have fin:∀ (o:Ob) (H1:Hp),Ext noX H H1->Ext noX H (H1.put H.next o):=fun o H1 h=>h.putge _ (Nat.le_refl _)
  have far:∀ H1,Ext (nK (ltN (H.next+1))) H' H1->Ext noX H H1/\H1.get H.next=some tok0:=fun H1 h1=>by
   refine ⟨⟨h1.st,Nat.le_trans hE.le h1.le,fun x hx hn=>?_⟩,?_⟩
   ·rw [h1.get x (Nat.lt_of_lt_of_le hx hE.le) (by simp [nK,ltN];omega)];exact hE.get x hx hn
   ·rw [h1.get H.next (by have:=hB.hi;omega) (by simp [nK,ltN])];exact hT
  by_cases c34:c=34
  ·subst c34
   rw [Zad,if_pos rfl] at hq
   simp [Ud,f0,f2,f5,f6,hlt,hlt',hst,hc]
   refine (stK hst hB (by omega)).mono ?_
   rintro v H1 ⟨rfl,h1⟩
   obtain ⟨e1,e2⟩:=far H1 h1
   simp [e1.st,e2,f2,f6,hw,<- hq,LxR.v,tokV,fin _ H1 e1]
  ·have n34:((c.toNat:Int)==34)=false:=beq_false_of_ne (by have:=Jq c34;simp at this;omega)
   have goes:∀ (d:UInt8) (k:Nat) (H1:Hp),BldK (ltN (H.next+1)) H1 (H.next+1) (acc++[d])->Ext (nK (ltN (H.next+1))) H' H1->qF (s.drop (i+k)) (acc++[d]) (i+k)=R->1<=k->i+k<=s.length ->
     ∀ F' : Fr,F'.get 0=some (.str s)->F'.get 2=some (.ptr H.next 0)->F'.get 5=some (.ptr (H.next+1) 0)->F'.get 6=some (.int .i64 ((i+k:Nat):Int))->∃ m',m' < m/\Zoy s H R m' F' H1:=fun d k H1 b1 e1 hq' hk hk2 F' g0 g2 g5 g6=>by
    obtain ⟨x1,x2⟩:=far H1 e1
    exact ⟨s.length-(i+k),by omega,i+k,acc++[d],by omega,by omega,by simp;omega,g0,g2,g5,g6,b1,x2,x1,hq'⟩
   by_cases c92:c=92
   ·subst c92
    rw [Zad,if_neg (by decide),if_pos rfl] at hq
    by_cases hlt1:i+1 < s.length
    ·have hlt1' : ((i:Int)+1) < (s.length:Int):=by omega
     have hlt1'' : ((i+1:Nat):Int) < (s.length:Int):=by omega
     rw [Jg hlt1] at hq
     generalize hd:s[i+1]=d at hq
     dsimp only at hq
     by_cases d34:d=34
     ·subst d34
      rw [if_pos (by simp)] at hq
      simp [Ud,f0,f2,f5,f6,hlt,hlt',hst,hc,hw,h0i,hlt1,hlt1',hd]
      refine (wbK hst hB 34 (by omega)).mono ?_
      rintro v H1 ⟨b1,e1⟩
      simp [e1.st,f6,hw,hw2]
      exact goes 34 2 H1 b1 e1 hq (by omega) (by omega) _ (by simp [f0]) (by simp [f2]) (by simp [f5]) (by simp [hw2])
     ·have m34:((d.toNat:Int)==34)=false:=beq_false_of_ne (by have:=Jq d34;simp at this;omega)
      by_cases d92:d=92
      ·subst d92
       rw [if_pos (by simp)] at hq
       simp [Ud,f0,f2,f5,f6,hlt,hlt',hst,hc,hw,h0i,hlt1,hlt1',hd]
       refine (wbK hst hB 92 (by omega)).mono ?_
       rintro v H1 ⟨b1,e1⟩
       simp [e1.st,f6,hw,hw2]
       exact goes 92 2 H1 b1 e1 hq (by omega) (by omega) _ (by simp [f0]) (by simp [f2]) (by simp [f5]) (by simp [hw2])
      ·have m92:((d.toNat:Int)==92)=false:=beq_false_of_ne (by have:=Jq d92;simp at this;omega)
       rw [if_neg (by simp [d34,d92])] at hq
       by_cases d110:d=110
       ·subst d110
        rw [if_pos rfl] at hq
        simp [Ud,f0,f2,f5,f6,hlt,hlt',hst,hc,hw,h0i,hlt1,hlt1',hd]
        refine (wbK hst hB 10 (by omega)).mono ?_
        rintro v H1 ⟨b1,e1⟩
        simp [e1.st,f6,hw,hw2]
        exact goes 10 2 H1 b1 e1 hq (by omega) (by omega) _ (by simp [f0]) (by simp [f2]) (by simp [f5]) (by simp [hw2])
       ·have m110:((d.toNat:Int)==110)=false:=beq_false_of_ne (by have:=Jq d110;simp at this;omega)
        rw [if_neg d110] at hq
        simp [Ud,f0,f2,f5,f6,hlt,hlt',hst,hc,hw,h0i,hlt1,hlt1',hd,m34,m92,m110,hT,<- hq,LxR.v,tokV,fin _ H' hE]
    ·have hlt1' : ¬ ((i:Int)+1) < (s.length:Int):=by omega
     rw [List.drop_eq_nil_of_le (by omega)] at hq
     dsimp only at hq
     simp [Ud,f0,f2,f5,f6,hlt,hlt',hst,hc,hw,h0i,hlt1,hlt1',hT,<- hq,LxR.v,tokV,fin _ H' hE]
   ·have n92:((c.toNat:Int)==92)=false:=beq_false_of_ne (by have:=Jq c92;simp at this;omega)
    rw [Zad,if_neg c34,if_neg c92] at hq
    by_cases c32:c.toNat < 32
    ·have c32' : (c.toNat:Int) < 32:=by omega
     simp only [c32,true_or,if_true] at hq
     simp [Ud,f0,f2,f5,f6,hlt,hlt',hst,hc,n34,n92,c32',hT,<- hq,LxR.v,tokV,fin _ H' hE]
    ·have c32' : ¬ (c.toNat:Int) < 32:=by omega
     by_cases c126:126 < c.toNat
     ·have c126' : 126 < (c.toNat:Int):=by omega
      simp only [c126,or_true,if_true] at hq
      simp [Ud,f0,f2,f5,f6,hlt,hlt',hst,hc,n34,n92,c32',c126',hT,<- hq,LxR.v,tokV,fin _ H' hE]
     ·have c126' : ¬ 126 < (c.toNat:Int):=by omega
      simp only [c32,c126,or_false,if_false] at hq
      simp [Ud,f0,f2,f5,f6,hlt,hlt',hst,hc,n34,n92,c32',c126']
      refine (wbK hst hB c (by omega)).mono ?_
      rintro v H1 ⟨b1,e1⟩
      simp [e1.st,f6,hw]
      exact goes c 1 H1 b1 e1 hq (by omega) (by omega) _ (by simp [f0]) (by simp [f2]) (by simp [f5]) (by simp [hw2])
 ·have hlt' : ¬ (i:Int) < (s.length:Int):=by omega
  rw [List.drop_eq_nil_of_le (by omega)] at hq
  simp [qF] at hq
  have:=hE.putge (.row 95 4 false [.int .i64 0,.str [],.int .i64 0,.int .i64 0]) (Nat.le_refl H.next)
  simp [Ud,f0,f2,f5,f6,hlt,hlt',hst,hT,<- hq,LxR.v,tokV,this]
theorem Z22 {H:Hp} (s:List UInt8) (c:UInt8) (hl:s.length<=1000000):WF tab 117 [.str s,bv c] H fun v H'=>v = .int .i64 (Lib.indexByte s c)/\H' = H:=by
 refine J2 (f:=117) rfl Yen rfl (H':=H) (v:=.int .i64 (Lib.indexByte s c)) ?_ ⟨rfl,rfl⟩
 simp [ixE]
theorem Z0q {H:Hp} (hG:Gd H) (c:UInt8) (r:List UInt8) (hl:(c :: r).length < 1000000):WF tab 75 [.str (c :: r)] H fun v H'=>v=(oneF (c :: r)).v/\Ext noX H H':=by
 have hs:=hG.st
 have hE:∀ (a b:Ob) (H1:Hp),Ext noX (H.new a) H1->Ext noX H (H1.put H.next b):=fun a b H1 h=>((Ext.new hs a).trans h).putge b (Nat.le_refl _)
 have hE0:∀ (a b:Ob),Ext noX H ((H.new a).put H.next b):=fun a b=>hE a b _ (Ext.refl (by simp [hs]))
 have gt:∀ (a:Ob) H1,Ext noX (H.new a) H1->H1.get H.next=some a:=fun a H1 h=>h.keep (by rw [Hp.next_new];omega) (Z5 _ _)
 have hG1:=hG.new tok0
 refine wf75 (Zs _ ?_)
 simp [hs]
 refine (Zje (by simp [hs]) c).mono ?_
 rintro v H' ⟨rfl,rfl⟩
 cases h1:Zbn c with
 | true =>
  simp [hs]
  refine (Zsy (by simp [hs]) (c :: r) 113 Us (fun x=>Z0x (by simp [hs]) x) hl).mono ?_
  rintro v H' ⟨rfl,rfl⟩
  have hn:=V2 Us (c :: r)
  have hle:(runN Us (c :: r):Int)<=(r.length:Int)+1:=by simp at hn;omega
  simp [hs,Yw,hle,oneF,h1,LxR.v,tokV,hE0]
 | false =>
  simp [hs]
  refine (Zgf (by simp [hs]) c).mono ?_
  rintro v H' ⟨rfl,rfl⟩
  cases h2:Yt c with
  | true =>
   simp [hs]
   refine (Zrv hG1 c r h2 hl).mono ?_
   rintro v H1 ⟨rfl,e1⟩
   have g1:=gt _ _ e1
   cases hr:W3 (c :: r) with
   | ok k t x n=>simp [e1.st,g1,oneF,h1,h2,hr,LxR.v,tokV,hE _ _ _ e1]
   | err e=>simp [e1.st,g1,oneF,h1,h2,hr,LxR.v,tokV,hE _ _ _ e1]
  | false =>
   simp [hs]
   by_cases c34:c=34
   ·subst c34
    simp [hs]
    refine (Zs9 hG1.st (34 :: r) (by simp) hl).mono ?_
    rintro v H1 ⟨rfl,e1⟩
    have g1:=gt _ _ e1
    rw [List.drop_succ_cons,List.drop_zero]
    cases hr:qF r [] 1 with
    | ok k t x n=>simp [e1.st,g1,oneF,h1,h2,hr,LxR.v,tokV,hE _ _ _ e1]
    | err e=>simp [e1.st,g1,oneF,h1,h2,hr,LxR.v,tokV,hE _ _ _ e1]
   ·have n34:((c.toNat:Int)==34)=false:=beq_false_of_ne (by have:=Jq c34;simp at this;omega)
    simp [hs,n34]
    refine (Zuj (by simp [hs]) (c :: r) [61,61]).mono ?_
    rintro v H' ⟨rfl,rfl⟩
    have len2:∀ x y:UInt8,[x,y].isPrefixOf (c :: r)=true->(2:Int)<=(r.length:Int)+1:=fun x y h=>by
     have:=(List.isPrefixOf_iff_prefix.1 h).length_le
     simp at this
     omega
    cases h3:[61,61].isPrefixOf (c :: r) with
    | true =>
     have:=len2 _ _ h3
     have o1:oneF (c :: r) = .ok 4 ((c :: r).take 2) 0 2:=by
      simp only [oneF,h1,h2,c34,h3,Bool.true_or,if_true,if_false]
      rfl
     rw [o1]
     simp [hs,Yw,this,LxR.v,tokV,hE0]
    | false =>
     simp [hs]
     refine (Zuj (by simp [hs]) (c :: r) [33,61]).mono ?_
     rintro v H' ⟨rfl,rfl⟩
     have o1:oneF (c :: r)=if [33,61].isPrefixOf (c :: r)=true then .ok 4 ((c :: r).take 2) 0 2 else if 0<=Lib.indexByte Zkn c then .ok 4 [c] 0 1 else .err 1:=by
      simp only [oneF,h1,h2,c34,h3,Bool.false_or,if_false]
      rfl
     cases h4:[33,61].isPrefixOf (c :: r) with
     | true =>
      have:=len2 _ _ h4
      rw [o1,if_pos h4]
      simp [hs,Yw,this,LxR.v,tokV,hE0]
     | false =>
      rw [o1,if_neg (by simp [h4])]
      simp [hs]
      refine (Z22 Zkn c (by decide)).mono ?_
      rintro v H' ⟨rfl,rfl⟩
      by_cases h5:0<=Lib.indexByte Zkn c
      ·have l1:(1:Int)<=(r.length:Int)+1:=by omega
       rw [if_pos h5]
       simp [hs,h5,Yw,l1,LxR.v,tokV,hE0]
      ·rw [if_neg h5]
       simp [hs,h5,LxR.v,tokV,hE0]
structure TkAt (N:Nat) (H:Hp) (v:V) (l:List Tk):Prop where
 sl:SlAt H 95 4 v l.length (tksV l)
 rows:∀ r∈Za v,N<=r/\r < H.next
theorem TkAt.app {H H' H2:Hp} {v s' : V} {acc:List Tk} {a:Tk} (hst:H'.stale=[]) (hO:TkAt H.next H' v acc) (hE:Ext noX H H') (hS:SlAt H2 95 4 s' (acc.length+1) (tksV acc++a.v)) (hA:AppR H' v H2 s') :
  TkAt H.next H2.flush s' (acc++[a])/\Ext noX H H2.flush:=by
 obtain ⟨k1,k2,k3,k4,k5⟩:=Zka hst hS hA
 have hle:=hE.le
 refine ⟨⟨by rw [Zwf];simpa using k1,fun r hr=>?_⟩,k3,by omega,fun x hx hn=>?_⟩
 ·have:=k5 r hr
  refine ⟨?_,this.1⟩
  rcases this.2 with h | h
  ·exact (hO.rows r h).1
  ·omega
 ·rw [k2 x (by omega) (fun hr=>by have:=(hO.rows x hr).1;omega)]
  exact hE.get x hx hn
theorem TkAt.ext {N:Nat} {H H' : Hp} {v:V} {acc:List Tk} (h:TkAt N H v acc) (hE:Ext noX H H'):TkAt N H' v acc :=
 ⟨h.sl.of_get fun r hr=>hE.get r (h.rows r hr).2 (fun h=>h),fun r hr=>⟨(h.rows r hr).1,Nat.lt_of_lt_of_le (h.rows r hr).2 hE.le⟩⟩
def Zlv (s:List UInt8) (H:Hp) (R:List Tk×Nat×Int) (m:Nat) (F:Fr) (H' : Hp):Prop :=
 ∃ (i:Nat) (acc:List Tk) (v:V) (f:Nat),i+m=s.length/\acc.length<=i/\F.get 0=some (.str s)/\F.get 5=some v/\F.get 6=some (.int .i64 i)/\TkAt H.next H' v acc/\Ext noX H H'/\m < f/\spF f (s.drop i) i acc=R
def Z0i (s:List UInt8) (H0:Hp) (v:V) (j m0:Nat) (m:Nat) (F:Fr) (H' : Hp):Prop :=
 ∃ i:Nat,i+m=s.length/\m<=m0/\j<=i/\(i=j->s[j]? = some 35)/\F.get 0=some (.str s)/\F.get 5=some v/\F.get 6=some (.int .i64 i)/\H' = H0/\runN notB (s.drop j)=i-j+runN notB (s.drop i)
theorem Zvi {H:Hp} (hG:Gd H) (s:List UInt8) (hl:s.length<=8192):WF tab 51 [.str s] H fun v H'=>∃ sl,v=spV sl (spF (s.length+1) s 0 []).2.1 (spF (s.length+1) s 0 []).2.2/\TkAt H.next H' sl (spF (s.length+1) s 0 []).1/\Ext noX H H':=by
 have hs:=hG.st
 generalize hR:spF (s.length+1) s 0 []=R
 refine wf51 (Zs _ ?_)
 have hl' : ¬ 8192 < (s.length:Int):=by omega
 simp [hs,hl']
 refine Xh (Zlv s H R) (m:=s.length) ⟨0,[],.nils,s.length+1,by omega,by simp,by simp,by simp,by simp,⟨.nil,fun r hr=>by simp [Za] at hr⟩,Ext.refl hs,by omega,by simpa using hR⟩ ?_
 rintro m F H' ⟨i,acc,v,f,hi,ha,f0,f5,f6,hO,hE,hf,hq⟩
 have hst:=hE.st
 obtain ⟨f,rfl⟩:∃ g,f=g+1:=⟨f-1,by omega⟩
 by_cases hlt:i < s.length
 ·have hlt' : (i:Int) < (s.length:Int):=by omega
  have hw:=V4 (show i < 1000000000 by omega)
  have hdr:=Jg hlt
  rw [hdr] at hq
  generalize hc:s[i]=c at hq hdr
  by_cases cb:c=32\/c=10
  ·rw [spF,if_pos cb] at hq
   have next:∀ F' : Fr,F'.get 0=some (.str s)->F'.get 5=some v->F'.get 6=some (.int .i64 ((i+1:Nat):Int))->∃ m',m' < m/\Zlv s H R m' F' H':=fun F' g0 g5 g6 =>
    ⟨m-1,by omega,i+1,acc,v,f,by omega,by omega,g0,g5,g6,hO,hE,by omega,hq⟩
   rcases cb with rfl | rfl
   ·simp [Zfi,f0,f5,f6,hlt,hlt',hst,hc,hw]
    exact next _ (by simp [f0]) (by simp [f5]) (by simp)
   ·simp [Zfi,f0,f5,f6,hlt,hlt',hst,hc,hw]
    exact next _ (by simp [f0]) (by simp [f5]) (by simp)
  ·have n32:((c.toNat:Int)==32)=false:=beq_false_of_ne (by have:=Jq (fun e=>cb (.inl e));simp at this;omega)
   have n10:((c.toNat:Int)==10)=false:=beq_false_of_ne (by have:=Jq (fun e=>cb (.inr e));simp at this;omega)
   rw [spF,if_neg cb] at hq
   by_cases c35:c=35
   ·rw [if_pos c35] at hq
    subst c35
    simp [Zfi,f0,f5,f6,hlt,hlt',hst,hc,n32,n10]
    refine Xh (Z0i s H' v i m) (m:=m) ⟨i,by omega,Nat.le_refl _,Nat.le_refl _,fun _=>by rw [List.getElem?_eq_getElem hlt,hc],by simp [f0],by simp [f5],by simp [f6],rfl,by omega⟩ ?_
    rintro m1 F1 H1 ⟨i1,hi1,hm1,hji,he,g0,g5,g6,rfl,hr⟩
    rw [<- hdr,List.drop_drop] at hq
    have stop:¬ (i1 < s.length/\s[i1]?≠some 10)->∀ F' : Fr,F'.get 0=some (.str s)->F'.get 5=some v->F'.get 6=some (.int .i64 (i1:Int))->∃ m',m' < m/\Zlv s H R m' F' H1:=fun hno F' g0 g5 g6=>by
     have h0:runN notB (s.drop i1)=0:=by
      by_cases hh:i1 < s.length
      ·have:s[i1]? = some 10:=Decidable.byContradiction fun h=>hno ⟨hh,h⟩
       rw [List.getElem?_eq_getElem hh] at this
       rw [Jg hh,Option.some.inj this]
       rfl
      ·rw [List.drop_eq_nil_of_le (by omega)];rfl
     have hne:i1≠i:=fun e=>by
      subst e
      have:=he rfl
      exact hno ⟨hlt,by rw [this];simp⟩
     have e1:i+runN notB (s.drop i)=i1:=by omega
     rw [e1] at hq
     exact ⟨m1,by omega,i1,acc,v,f,by omega,by omega,g0,g5,g6,hO,hE,by omega,hq⟩
    by_cases hlt1:i1 < s.length
    ·have hlt1' : (i1:Int) < (s.length:Int):=by omega
     have hw1:=V4 (show i1 < 1000000000 by omega)
     by_cases c10:s[i1]=10
     ·simp [Zkk,g0,g5,g6,hlt1,hlt1',hst,c10]
      exact stop (fun h=>h.2 (by rw [List.getElem?_eq_getElem hlt1,c10])) _ (by simp [g0]) (by simp [g5]) (by simp [g6])
     ·have n10:((s[i1].toNat:Int) != 10)=true:=by
       have:=Jq c10
       simp at this ⊢
       omega
      simp [Zkk,g0,g5,g6,hlt1,hlt1',hst,n10,hw1]
      refine ⟨m1-1,by omega,i1+1,by omega,by omega,by omega,fun e=>by omega,by simp [g0],by simp [g5],by simp,rfl,?_⟩
      rw [hr,Jg hlt1,runN,if_pos (by simp [notB,c10])]
      omega
    ·have hlt1' : ¬ (i1:Int) < (s.length:Int):=by omega
     simp [Zkk,g0,g5,g6,hlt1,hlt1',hst]
     exact stop (fun h=>hlt1 h.1) _ (by simp [g0]) (by simp [g5]) (by simp [g6])
   ·have n35:((c.toNat:Int)==35)=false:=beq_false_of_ne (by have:=Jq c35;simp at this;omega)
    rw [if_neg c35] at hq
    have hile:(i:Int)<=(s.length:Int):=by omega
    have htk:List.take (s.length-i) (List.drop i s)=c :: s.drop (i+1):=by rw [List.take_of_length_le (by simp),hdr]
    simp [Zfi,f0,f5,f6,hlt,hlt',hst,hc,n32,n10,n35,Yw,hile,htk]
    refine (Z0q (hG.ext hE (fun h=>h)) c _ (by simp;omega)).mono ?_
    rintro w H1 ⟨rfl,e1⟩
    have hE1:=hE.trans e1
    cases ho:oneF (c :: s.drop (i+1)) with
    | err e =>
     rw [ho] at hq
     dsimp only at hq
     subst hq
     have ne0:(e != 0)=true:=by rcases Jy ho with rfl | rfl<;>rfl
     simp [e1.st,LxR.v,tokV,ne0,f6,f5,spV]
     exact ⟨⟨.nil,fun r hr=>by simp [Za] at hr⟩,(hE1.newge _).putge _ hE1.le⟩
    | ok k t x n =>
     rw [ho] at hq
     dsimp only at hq
     obtain ⟨n1,n2⟩:=Jn ho
     have n2' : i+n<=s.length:=by simp at n2;omega
     simp [e1.st,LxR.v,tokV,f6,f5]
     have e3:∀ a b c,Ext noX H' (((H1.new a).put H1.next b).put H1.next c):=fun a b c=>((e1.newge a).putge b e1.le).putge c e1.le
     have hO3:=fun a b c=>hO.ext (e3 a b c)
     refine Zag (e0:=95) (cells:=[.int .i64 k,.str t,.int .i64 x,.int .i64 i]) (by simp [Zb]) ty95 (by decide) (by simp) (by simp) (hO3 _ _ _).sl (fun r hr=>⟨((hO3 _ _ _).rows r hr).2,by simp [e1.st]⟩) rfl (by simp;omega) (by omega) (by simp [e1.st]) fun s' H2 hS hA=>?_
     obtain ⟨o1,o2⟩:=TkAt.app (a:=⟨k,t,x,i⟩) (e3 _ _ _).st (hO3 _ _ _) (hE.trans (e3 _ _ _)) hS hA
     have hwn:wr .i64 ((i:Int)+(n:Int))=((i+n:Nat):Int):=by rw [Wf (by omega) (by omega)];omega
     simp [hwn,f6]
     exact ⟨s.length-(i+n),by omega,i+n,acc++[⟨k,t,x,i⟩],s',f,by omega,by simp;omega,by simp [f0],by simp,by simp,o1,o2,by omega,by rw [<- hq,<- hdr,List.drop_drop]⟩
 ·have hlt' : ¬ (i:Int) < (s.length:Int):=by omega
  have:i=s.length:=by omega
  rw [List.drop_eq_nil_of_le (by omega),spF] at hq
  simp [Zfi,f0,f5,f6,hlt,hlt',hst]
  refine Zag (e0:=95) (cells:=[.int .i64 0,.str [],.int .i64 0,.int .i64 s.length]) (by simp [Zb]) ty95 (by decide) (by simp) (by simp) hO.sl (fun r hr=>⟨(hO.rows r hr).2,by simp [hst]⟩) rfl (by simp;omega) (by omega) (by simp [hst]) fun s' H2 hS hA=>?_
  obtain ⟨o1,o2⟩:=TkAt.app (a:=⟨0,[],0,s.length⟩) hst hO hE hS hA
  subst hq
  simp [spV]
  rw [this]
  exact ⟨o1,o2⟩
end Go.AM.YtlillgmgpmbfnaaGreatDoorT
