/- Parts of the abstract machine and of the walks over it, joined: what the law that is claimed here leans on. -/
import Derived.Test.YtlillgmgpmbfnaaGreatDoorAmG1
import Derived.Test.YtlillgmgpmbfnaaGreatDoorAmG2
import Derived.Test.YtlillgmgpmbfnaaGreatDoorAmC3
import Derived.Test.YtlillgmgpmbfnaaGreatDoorAmX
import Derived.Test.YtlillgmgpmbfnaaGreatDoorTie
import Derived.Test.YtlillgmgpmbfnaaGreatDoorCards
import Derived.Stop.LaidErr
import Derived.LaidMore
import Derived.Stop.Joined
set_option linter.unusedVariables false
set_option linter.unusedSimpArgs false
set_option linter.unnecessarySimpa false
set_option maxRecDepth 100000
namespace Go.AM.YtlillgmgpmbfnaaGreatDoorT
open Go Go.AM Go.Proofs
theorem Zb1:∀ (f:Nat) (s:Bs) (i:Nat) (acc:List Tk),s.length < f->(spF f s i acc).2.2=0->(∃ a∈(spF f s i acc).1,a.k=0)/\(spF f s i acc).1.length<=acc.length+s.length+1
 | 0,s,i,acc,h,_=>by omega
 | f+1,[],i,acc,h,_=>by
  rw [spF]
  exact ⟨⟨⟨0,[],0,i⟩,by simp,rfl⟩,by simp⟩
 | f+1,c :: r,i,acc,h,h0=>by
  simp only [List.length_cons] at h
  rw [spF] at h0 ⊢
  split
  ·rename_i hb
   rw [if_pos hb] at h0
   obtain ⟨h1,h2⟩:=Zb1 f r (i+1) acc (by omega) h0
   exact ⟨h1,by simp;omega⟩
  ·rename_i hb
   rw [if_neg hb] at h0
   split
   ·rename_i hc
    rw [if_pos hc] at h0
    have hn:1<=runN notB (c :: r):=by rw [runN,if_pos (by rw [hc];rfl)];omega
    have hl:((c :: r).drop (runN notB (c :: r))).length<=r.length:=by rw [List.length_drop];simp;omega
    obtain ⟨h1,h2⟩:=Zb1 f ((c :: r).drop (runN notB (c :: r))) _ acc (by omega) h0
    exact ⟨h1,by simp;omega⟩
   ·rename_i hc
    rw [if_neg hc] at h0
    split
    ·rename_i e ho
     rw [ho] at h0
     dsimp only at h0
     rcases Jy ho with rfl | rfl<;>cases h0
    ·rename_i k t x n ho
     rw [ho] at h0
     dsimp only at h0
     have hn:=Jn ho
     have hl:((c :: r).drop n).length<=r.length:=by rw [List.length_drop];simp;omega
     obtain ⟨h1,h2⟩:=Zb1 f ((c :: r).drop n) _ (acc++[⟨k,t,x,i⟩]) (by omega) h0
     exact ⟨h1,by simp at h2 ⊢;omega⟩
structure PO where
 l:List Tx
 at_:Nat
 e:Int
def Xq (s:Bs):PO:=if (spF (s.length+1) s 0 []).2.2≠0 then ⟨[],(spF (s.length+1) s 0 []).2.1,(spF (s.length+1) s 0 []).2.2⟩ else match modY (Zkh (spF (s.length+1) s 0 []).1) [] (spF (s.length+1) s 0 []).1 with
 | .ok l _=>⟨l,0,0⟩
 | .err a e=>⟨[],a,e⟩
 | .out=>⟨[],0,0⟩
theorem Zcu {f:FuncId} {c:Code} {S:SCode} {F:Fr} {H:Hp} {Q:PC} (h:Zh tab f c=S) (hw:wp tab S F H Q):∃ k o F' H',Zc tab (Zo tab k) f k c F H=some (o,F',H')/\Q o F' H':=by
 obtain ⟨k,o,F',H',h1,h2⟩:=Zs S hw
 subst h
 exact ⟨k,o,F',H',W2 c F H h1,h2⟩
theorem Zvq {f:FuncId} {c:Code} {S:SCode} {F:Fr} {H:Hp} {Q:PC} {P:V->Hp->Prop} (h:Zh tab f c=S) (hw:wpP tab P S F H Q):(∃ k o F' H',Zc tab (Zo tab k) f k c F H=some (o,F',H')/\Q o F' H')\/∃ k v H',Zg tab (Zo tab k) (Xl tab k) f k c F H=some (v,H')/\P v H':=by
 subst h
 rcases Ye _ hw with ⟨k,o,F',H',h1,h2⟩ | ⟨k,v,H',h1,h2⟩
 ·exact .inl ⟨k,o,F',H',W2 c F H h1,h2⟩
 ·exact .inr ⟨k,v,H',V1 c F H h1,h2⟩
theorem sl0:Zh tab 26 p0 = .reg R26_0:=by kernel_rfl
theorem sl1:Zh tab 26 p1 = .reg R26_1:=by kernel_rfl
theorem sl2:Zh tab 26 p2 = .seq (.reg Zpp) (.cond (.tmp 14) (.seq (.dreg Zpc) (.ret)) (.skip)):=by kernel_rfl
theorem sl4:Zh tab 26 p4 = .seq (.reg Zxm) (.seq (.block 0 (.loop Zif)) (.seq (.reg Zyl) (.ret))):=by kernel_rfl
theorem slc:Zh tab 52 q1 = .seq (.reg Zx3) (.cond (.tmp 8) (.seq (.reg Zyz) (.seq (.seq (.reg Zx8) (.cond (.tmp 15) (.reg Zy1) (.skip))) (.dreg Zxs))) (.skip)):=by kernel_rfl
abbrev rowO (v:V):Ob:=.row 24 1 false [v]
abbrev rowA (n:Int):Ob:=.row 3 1 false [.int .i64 n]
abbrev rowE (n:Int):Ob:=.row 47 1 false [.int .i64 n]
theorem Z4l {H:Hp} (hs:H.stale=[]) {ro ra re:Nat} {v:V} {a0 e0:Int} (ho:H.get ro=some (rowO v)) (ha:H.get ra=some (rowA a0)) (he:H.get re=some (rowE e0)) (h1:ro≠ra) (h2:ro≠re) (h3:ra≠re) (hl1:ro < H.next) (hl2:ra < H.next) (hl3:re < H.next) (a:Nat) (e:Int) :
  wp tab (.seq (.reg Zx3) (.cond (.tmp 8) (.seq (.reg Zyz) (.seq (.seq (.reg Zx8) (.cond (.tmp 15) (.reg Zy1) (.skip))) (.dreg Zxs))) (.skip))) ((frame [.ptr ro 0,.ptr ra 0,.ptr re 0] 0 .nil).set 3 (Zc8 a e)) H fun o F' H'=>o = .nrm/\H'.stale=[]/\H.next<=H'.next/\H'.get ro=some (rowO .nils)/\H'.get ra=some (rowA a)/\H'.get re=some (rowE e)/\∀ c,c < H.next->c≠ro->c≠ra->c≠re->H'.get c=H.get c:=by
 have o1:=Zi h1
 have o2:=Zi h2
 have o3:=Zi h3
 have q1:=Zp hl1
 have q2:=Zp hl2
 have q3:=Zp hl3
 simp [frame,hs,Hp.get_put,Hp.get_new,o1,o2,o3,q1,q2,q3,ho,ha,he,eqV]
 refine ⟨by omega,fun c h1 h2 h3 h4=>?_⟩
 simp [Zi h2,Zi h3,Zi h4,Zp h1]
structure Ipl (R:PR (List Tx)) (H0 Hb:Hp) (pr ro ra re f k:Nat) (F:Fr) (H:Hp):Prop where
 kf:k<=f
 y:∃ ts l v,modY k ts l=R/\PAt H pr l 0/\H.get ro=some (rowO v)/\Gro Hb H noX 30 v ts/\ts.length+l.length<=100000
 a:∃ n,H.get ra=some (rowA n)
 e:∃ n,H.get re=some (rowE n)
 ext:Ext noX H0 H
 h0:H0.next<=ro
 h1:ro < ra
 h2:ra < re
 h3:re < pr
 h4:pr < Hb.next
 f2:F.get 2=some (.ptr ro 0)
 f3:F.get 3=some (.ptr ra 0)
 f4:F.get 4=some (.ptr re 0)
 f6:F.get 6=some (.ptr pr 0)
def PlE (R:PR (List Tx)) (H0:Hp) (ro ra re:Nat) (v:V) (H' : Hp):Prop:=∃ a e,R = .err a e/\v=Zc8 a e/\Ext noX H0 H'/\(∃ v',H'.get ro=some (rowO v'))/\(∃ n,H'.get ra=some (rowA n))/\(∃ n,H'.get re=some (rowE n))/\re < H'.next
theorem Zmt {H:Hp} {e:TypeId} {z n:Nat} {v:V} {l:List V} (h:SlAt H e z v n l) (hn:0 < n):∃ b cs,v = .sl b 0 n none z/\H.get b=some (.row e z false cs)/\n*z<=cs.length/\cs.take (n*z)=l:=by
 cases h with
 | nil=>omega
 | row b n cs hg hl=>exact ⟨b,cs,rfl,hg,hl,rfl⟩
theorem PAt.keep1 {H H' : Hp} {pr ro d N:Nat} {l:List Tk} {t:TypeId} {x:List V} (h:PAt H pr l d) (hs:H'.stale=[]) (hle:H.next<=H'.next) (hro:H.get ro=some (.row t 1 false x)) (hpr:pr≠ro) (hg:∀ c,c<=pr->c≠ro->H'.get c=H.get c) (hN:LvG N H) (h1:N<=ro) (h2:N<=pr):PAt H' pr l d:=by
 obtain ⟨q0,⟨v,q1,b,off,e,ro',cells,rfl,q2,q3,q4⟩,q5,q6,q7,_⟩:=h
 have hb:b≠ro:=fun e=>by subst e;rw [hro] at q3;cases q3
 exact ⟨hs,⟨_,by rw [hg pr (Nat.le_refl _) hpr];exact q1,b,off,e,ro',cells,rfl,q2,by rw [hg b (by omega) hb];exact q3,q4⟩,by omega,q6,q7,N,h2,hN.of_get fun c hc=>hg c (by omega) (by omega)⟩
theorem Zw3 {R:PR (List Tx)} (hR:R≠.out) {N:Nat} {f:Nat} {H0 Hb:Hp} {pr ro ra re:Nat} {F:Fr} {H:Hp} {Q:PC} (hG0:LvG N H0) (hN:N<=H0.next) (h:Ipl R H0 Hb pr ro ra re f f F H)
  (hQ:∀ F' H' ts l v,R = .ok ts l->H'.get ro=some (rowO v)->Gro Hb H' noX 30 v ts->(∃ n,H'.get ra=some (rowA n))->(∃ n,H'.get re=some (rowE n))->Ext noX H0 H'->re < H'.next->F'.get 2=some (.ptr ro 0)->F'.get 3=some (.ptr ra 0)->F'.get 4=some (.ptr re 0)->Q (.exit 0) F' H'):WCr tab (PlE R H0 ro ra re) (.loop Zif) F H Q:=by
 refine Ug (Ipl R H0 Hb pr ro ra re f) (m:=f) h ?_
 rintro k F H I
 obtain ⟨ts,l,v,hY,hP,hrow,hG,hlen⟩:=I.y
 obtain ⟨na,ka⟩:=I.a
 obtain ⟨ne,ke⟩:=I.e
 have f2:=I.f2;have f3:=I.f3;have f4:=I.f4;have f6:=I.f6;have hkf:=I.kf
 have h0:=I.h0;have h1:=I.h1;have h2:=I.h2;have h3:=I.h3;have h4:=I.h4
 have hX:=I.ext
 have hst:=hX.st
 have hle:=hX.le
 have hgl:=hG.le
 obtain ⟨v1,r1,r2⟩:=hP.row
 obtain ⟨b,off,e',ro',cells,rfl,g1,g3,g4,g5,g6,g7,g8,g9,g10,g11,g12⟩:=r2.head hP.ends
 have hlt:(0:Int) < (l.length:Int):=by omega
 cases k with
 | zero=>rw [modY] at hY;exact absurd hY.symm hR
 | succ k =>
 rw [modY] at hY
 by_cases hk:(hdT l).k=0
 ·rw [if_pos hk] at hY
  simp [Zif,f2,f3,f4,f6,hst,r1,g3,g6,g8,hlt,hk]
  exact hQ _ _ ts l v hY.symm hrow hG ⟨na,ka⟩ ⟨ne,ke⟩ hX (by omega) (by simp [f2]) (by simp [f3]) (by simp [f4])
 ·rw [if_neg hk] at hY
  have hk' : ((hdT l).k != 0)=true:=bne_iff_ne.2 hk
  obtain ⟨lc,hsl,hel⟩:=hG.sl
  have hev:=hsl.eqv
  have hlv:=hsl.lenV 30
  have hrows:=hG.rows
  simp [Zif,f2,f3,f4,f6,hst,r1,g3,g6,g8,hlt,hk']
  refine (Zw7 k H pr 0 l hP (Yp hY hR)).mono ?_ ?_
  rotate_left
  ·rintro v' H2 ⟨pa,pe,q3,rfl,hX2⟩
   have s2:=hX2.st
   have k2:H2.get ro=some (rowO v):=by rw [hX2.get ro (by omega) (by show ro≠pr;omega)];exact hrow
   have l2':=hX2.le
   simp [Jm,f2,f3,f4,f6,s2,k2,hrow,hev,hlv]
   refine ⟨pa,pe,by rw [<- hY,q3];rfl,rfl,⟨s2,by show H0.next<=H2.next+1+1;omega,fun c hc _=>?_⟩,⟨v,k2⟩,⟨na,?_⟩,⟨ne,?_⟩,by show re < H2.next+1+1;omega⟩
   ·show H2.get c=H0.get c
    rw [hX2.get c (by omega) (by show c≠pr;omega)]
    exact hX.get c hc (fun h=>h)
   ·show H2.get ra=_
    rw [hX2.get ra (by omega) (by show ra≠pr;omega)];exact ka
   ·show H2.get re=_
    rw [hX2.get re (by omega) (by show re≠pr;omega)];exact ke
  rintro w H2 ⟨x,l2,hr,⟨ds,rfl,hT2⟩,hP2,hX2⟩
  rw [hr,Zn] at hY
  obtain ⟨d0,d1,d2,d3,d4,d5,rfl,n0,n1,n2,n3,n4,n5⟩:=hT2.six
  have s2:=hX2.st
  have k2:H2.get ro=some (rowO v):=by rw [hX2.get ro (by omega) (by show ro≠pr;omega)];exact hrow
  have l2':=hX2.le
  have hsl2:SlAt H2.bump 30 6 v ts.length lc:=hsl.of_get fun b hb=>by
   have:=hrows b hb
   show H2.get b=H.get b
   exact hX2.get b this.2.1 (by show b≠pr;omega)
  have hlt2:=Zoj hr
  have hb2:H2.bump.next=H2.next+1:=rfl
  simp [f2,f3,f4,f6,s2,k2,hrow,hev,hlv]
  refine Zeg (H:=H2.bump) (e0:=30) (cells:=[.int .i64 0,.str [],.nils,.nils,.nils,.int .i64 0]) (by simp [Zb]) ty30 (by decide) (by simp) (by simp) hsl2 (fun b hb=>⟨by have:=(hrows b hb).2.1;omega,by simp [s2]⟩) rfl (by show (ts.length+1)*104<=_;omega) (by omega) (by simp [s2]) fun v' H3 hS hA=>?_
  obtain ⟨bb,cs3,rfl,g33,hl3,ht3⟩:=Zmt hS (Nat.succ_pos _)
  obtain ⟨y1,y2,y3⟩:=hA.new bb (by simp [Za])
  have hna:=hA.le
  have hbb:Hb.next<=bb:=by
   rcases y3 with y3 | y3
   ·exact (hrows bb y3).1
   ·omega
  have hbro:bb≠ro:=by omega
  obtain ⟨q1,q2⟩:=hA.keep ro (by omega) (fun h=>by have:=(hrows ro h).1;omega) (by simp [s2])
  have q3:H3.get ro=some (rowO v):=q1.trans k2
  have hn1:¬ ((ts.length:Int)+1<=(ts.length:Int)):=by omega
  have hn2:(ts.length:Int) < (ts.length:Int)+1:=by omega
  have hl3' : (ts.length+1)*6<=cs3.length:=hl3
  have hsz:ts.length*6+6<=cs3.length:=by omega
  have hbq:Nat.beq ro bb=false:=by
   cases h:Nat.beq ro bb with
   | false=>rfl
   | true=>exact absurd (Nat.eq_of_beq_eq_true h).symm hbro
  simp [f2,f3,f4,f6,g33,y1,hsz,q2,q3,Hp.get_put,Zi hbro,n0,n1,n2,n3,n4,n5,hn2]
  refine ⟨by simp [apart,f2,hbq],k,by omega,?_⟩
  have hlc:lc.length=ts.length*6:=hsl.len
  have ht3' : cs3.take ((ts.length+1)*6)=lc++[.int .i64 0,.str [],.nils,.nils,.nils,.int .i64 0]:=ht3
  have hpre:cs3.take (ts.length*6)=lc:=by
   have h6:cs3.take (ts.length*6)=(cs3.take ((ts.length+1)*6)).take (ts.length*6):=by rw [List.take_take,show min (ts.length*6) ((ts.length+1)*6)=ts.length*6 by omega]
   rw [h6,ht3',List.take_append_of_le_length (by omega),List.take_of_length_le (by omega)]
  generalize hc4:Yb cs3 (ts.length*6) [d0,d1,d2,d3,d4,d5]=cs4
  have hc4' : cs4=lc++[d0,d1,d2,d3,d4,d5]++cs3.drop (ts.length*6+6):=by
   rw [<- hc4,Jo _ _ _ (by simp;omega),hpre];rfl
  have hc4l:(ts.length+1)*6<=cs4.length:=by rw [hc4'];simp;omega
  have hc4t:cs4.take ((ts.length+1)*6)=lc++[d0,d1,d2,d3,d4,d5]:=by
   rw [hc4',List.take_append_of_le_length (by simp;omega),List.take_of_length_le (by simp;omega)]
  show Ipl R H0 Hb pr ro ra re f k _ (((H3.bump.flush.put bb (.row 30 6 false (Yb cs3 (ts.length*6) [d0,d1,d2,d3,d4,d5]))).bump.put ro (rowO (.sl bb 0 (ts.length+1) none 6))).bump)
  rw [hc4]
  generalize hH4:((H3.bump.flush.put bb (.row 30 6 false cs4)).bump.put ro (rowO (.sl bb 0 (ts.length+1) none 6))).bump=H4
  have n4' : H4.next=H3.next+3:=by rw [<- hH4];simp
  have s4:H4.stale=[]:=by rw [<- hH4];simp
  have g4b:H4.get bb=some (.row 30 6 false cs4):=by rw [<- hH4];simp [Hp.get_put,Zi hbro]
  have g4o:H4.get ro=some (rowO (.sl bb 0 (ts.length+1) none 6)):=by rw [<- hH4];exact Zd _ _ _
  have keep:∀ c,c < H2.next->c∉Za v->c≠ro->H4.get c=H2.get c:=fun c hc hcv hco=>by
   obtain ⟨z1,z2⟩:=hA.keep c (by omega) hcv (by simp [s2])
   have hcb:c≠bb:=fun h=>by
    subst h
    rcases y3 with y3 | y3
    ·exact hcv y3
    ·omega
   rw [<- hH4]
   simp [Hp.get_put,Zi hcb,Zi hco,z2]
   exact z1
  have hvn:∀ c,c < Hb.next->c∉Za v:=fun c hc h=>by have:=(hrows c h).1;omega
  have hp2:=hP2.lt
  refine ⟨by omega,⟨ts++[x],l2,.sl bb 0 (ts.length+1) none 6,hY,hP2.keep1 s4 (by omega) k2 (by omega) (fun c hc hn=>keep c (by omega) (hvn c (by omega)) hn) (hG0.of_get fun c hc=>by rw [hX2.get c (by omega) (by show c≠pr;omega)];exact hX.get c (by omega) (fun h=>h)) (by omega) (by omega),g4o,⟨s4,by omega,⟨lc++[d0,d1,d2,d3,d4,d5],?_,?_⟩,fun c hc=>?_⟩,by simp;omega⟩,⟨na,?_⟩,⟨ne,?_⟩,⟨s4,by omega,fun c hc _=>?_⟩,h0,h1,h2,h3,h4,by simp [f2],by simp [f3],by simp [f4],by simp [f6]⟩
  ·rw [<- hc4t,List.length_append]
   exact SlAt.row bb (ts.length+1) cs4 g4b hc4l
  ·have hin:∀ c,c∈Za (.sl bb 0 (ts.length+1) none 6)->c=bb:=fun c h=>by simpa [Za] using h
   have st1:Stays (Kv Hb noX v) (Kv Hb noX (.sl bb 0 (ts.length+1) none 6)) H H4:=by
    refine ⟨fun c hc hx=>⟨hc.1,fun h=>h,fun h=>?_⟩,fun c hc hx=>?_,by omega⟩
    ·have h:=hin c h
     subst h
     rcases y3 with y3 | y3
     ·exact hc.2.2 y3
     ·omega
    ·have:=hc.1
     rw [keep c (by omega) hc.2.2 (by omega),hX2.get c hx (by show c≠pr;omega)]
   have st2:Stays (since H H2) (Kv Hb noX (.sl bb 0 (ts.length+1) none 6)) H2 H4:=by
    refine ⟨fun c hc hx=>⟨by have:=hc.1;omega,fun h=>h,fun h=>?_⟩,fun c hc hx=>?_,by omega⟩
    ·have h:=hin c h
     subst h
     have:=hc.1
     rcases y3 with y3 | y3
     ·have:=(hrows _ y3).2.1;omega
     ·omega
    ·have:=hc.1
     exact keep c hx (fun h=>by have:=(hrows _ h).2.1;omega) (by omega)
   refine Ji ts [x] lc _ hlc (ElsAt.mono st1 _ _ hel) ?_
   simp only [ElsAt]
   exact ⟨Ze.mono st2 _ _ hT2,trivial⟩
  ·simp [Za] at hc
   subst hc
   exact ⟨hbb,by omega,fun h=>h⟩
  ·rw [keep ra (by omega) (hvn ra (by omega)) (by omega),hX2.get ra (by omega) (by show ra≠pr;omega)];exact ka
  ·rw [keep re (by omega) (hvn re (by omega)) (by omega),hX2.get re (by omega) (by show re≠pr;omega)];exact ke
  ·rw [keep c (by omega) (hvn c (by omega)) (by omega),hX2.get c (by omega) (by show c≠pr;omega)]
   exact hX.get c hc (fun h=>h)
theorem Ygw {H:Hp} (hs:H.stale=[]) (s:Bs):wp tab (.reg R26_0) (frame [.str s] 0 .nil) H fun o F' H'=>o = .nrm/\F'.get 0=some (.str s)/\F'.get 2=some (.ptr H.next 0)/\F'.get 3=some (.ptr (H.next+1) 0)/\F'.get 4=some (.ptr (H.next+2) 0)/\H' = ((H.new (rowO .nils)).new (rowA 0)).new (rowE 0):=by
 simp [frame,hs]
theorem Ydm {H:Hp} (hG:Gd H) (s:Bs) (hl:s.length<=8192) {ro ra re:Nat} {F:Fr} (f0:F.get 0=some (.str s)) (f2:F.get 2=some (.ptr ro 0)) (f3:F.get 3=some (.ptr ra 0)) (f4:F.get 4=some (.ptr re 0)) (h3:ra≠re) (h4:ra < H.next) (h5:re < H.next) (ka:∃ n,H.get ra=some (rowA n)) (ke:∃ n,H.get re=some (rowE n)) :
  wp tab (.reg R26_1) F H fun o F' H'=>o = .nrm/\F'.get 2=some (.ptr ro 0)/\F'.get 3=some (.ptr ra 0)/\F'.get 4=some (.ptr re 0)/\∃ sl H1,F'.get 5=some sl/\TkAt H.next H1 sl (spF (s.length+1) s 0 []).1/\Ext noX H H1/\H' = (H1.put ra (rowA (spF (s.length+1) s 0 []).2.1)).put re (rowE (spF (s.length+1) s 0 []).2.2):=by
 have hs:=hG.st
 obtain ⟨na,ka⟩:=ka
 obtain ⟨ne,ke⟩:=ke
 simp [f0,f2,f3,f4,hs]
 refine (Zvi hG s hl).mono ?_
 rintro v H1 ⟨sl,rfl,hT,hX⟩
 have ka1:=hX.keep h4 ka
 have ke1:=hX.keep h5 ke
 have o1:=Zi h3
 simp [spV,hX.st,f2,f3,f4,ka1,ke1,Hp.get_put,o1,hT.sl.one]
 exact ⟨H1,hT,hX,rfl⟩
theorem Z5p {H:Hp} (hs:H.stale=[]) {ro ra re at_:Nat} {e:Int} {v:V} {F:Fr} (f2:F.get 2=some (.ptr ro 0)) (f3:F.get 3=some (.ptr ra 0)) (f4:F.get 4=some (.ptr re 0)) (h1:ro≠ra) (h2:ro≠re) (h3:ra≠re) (ko:H.get ro=some (rowO v)) (ka:H.get ra=some (rowA at_)) (ke:H.get re=some (rowE e)) (he:e≠0) :
  wp tab (.seq (.reg Zpp) (.cond (.tmp 14) (.seq (.dreg Zpc) (.ret)) (.skip))) F H fun o F' H'=>o = .ret/\F'.get 2=some (.ptr ro 0)/\F'.get 3=some (.ptr ra 0)/\F'.get 4=some (.ptr re 0)/\H'.get ro=some (rowO .nils)/\H'.get ra=some (rowA at_)/\H'.get re=some (rowE e)/\H'.stale=[]/\H.next<=H'.next/\∀ c,c≠ro->c≠ra->c≠re->H'.get c=H.get c:=by
 have he' : (e != 0)=true:=bne_iff_ne.2 he
 have o1:=Zi h1
 have o2:=Zi h2
 have o3:=Zi h3
 simp [f2,f3,f4,hs,ke,ka,ko,he',Hp.get_put,o1,o2,o3,eqV]
 refine ⟨by omega,fun c h1 h2 h3=>?_⟩
 simp [Zi h1,Zi h2,Zi h3]
theorem Z2q {H:Hp} (hs:H.stale=[]) {ro ra re:Nat} {sl:V} {F:Fr} (f2:F.get 2=some (.ptr ro 0)) (f3:F.get 3=some (.ptr ra 0)) (f4:F.get 4=some (.ptr re 0)) (f5:F.get 5=some sl) (ke:H.get re=some (rowE 0)) :
  wp tab (.seq (.reg Zpp) (.cond (.tmp 14) (.seq (.dreg Zpc) (.ret)) (.skip))) F H fun o F' H'=>o = .nrm/\F'.get 2=some (.ptr ro 0)/\F'.get 3=some (.ptr ra 0)/\F'.get 4=some (.ptr re 0)/\F'.get 5=some sl/\H' = H:=by
 simp [f2,f3,f4,f5,hs,ke]
theorem Yc3 {H0 H:Hp} {N:Nat} (hL:LvG N H0) (hN:N<=H0.next) (hX:Ext noX H0 H) {ro ra re:Nat} {sl:V} {L:List Tk} {F:Fr} (hT:SlAt H 95 4 sl L.length (tksV L)) (hr:∀ r∈Za sl,r < H.next) (hE:Ends L) {R:PR (List Tx)} (hR:R≠.out) {f:Nat} (hY:modY f [] L=R) (h0:H0.next<=ro) (h1:ro < ra) (h2:ra < re) (h3:re < H.next) (ko:H.get ro=some (rowO .nils)) (ka:∃ n,H.get ra=some (rowA n)) (ke:∃ n,H.get re=some (rowE n))
  (f2:F.get 2=some (.ptr ro 0)) (f3:F.get 3=some (.ptr ra 0)) (f4:F.get 4=some (.ptr re 0)) (f5:F.get 5=some sl) :
  wpP tab (PlE R H0 ro ra re) (.seq (.reg Zxm) (.seq (.block 0 (.loop Zif)) (.seq (.reg Zyl) (.ret)))) F H fun o F' H'=>o = .ret/\F'.get 2=some (.ptr ro 0)/\F'.get 3=some (.ptr ra 0)/\F'.get 4=some (.ptr re 0)/\∃ ts l v,R = .ok ts l/\H'.get ro=some (rowO v)/\H'.get ra=some (rowA 0)/\H'.get re=some (rowE 0)/\Zk (since H0 H') H' ts v/\Ext noX H0 H':=by
 have hs:=hX.st
 have hle:=hX.le
 have hpos:0 < L.length:=by obtain ⟨r,hr⟩:=hE.cons;rw [hr];simp
 obtain ⟨b,cs,rfl,hg,hl,ht⟩:=Zmt hT hpos
 have hb:=hr b (by simp [Za])
 simp [f2,f3,f4,f5,hs]
 generalize hH1:H.new (.row 92 2 false [.sl b 0 L.length none 4,.int .i64 0])=H1
 have nx1:H1.next=H.next+1:=by rw [<- hH1];rfl
 have g1:∀ c,c < H.next->H1.get c=H.get c:=fun c hc=>by rw [<- hH1];exact Z9 _ (by omega)
 have gp:H1.get H.next=some (.row 92 2 false [.sl b 0 L.length none 4,.int .i64 0]):=by rw [<- hH1];exact Z5 _ _
 have X1:Ext noX H0 H1:=hH1 ▸ hX.newge _
 have hgl:LvG N H1:=hL.of_get fun c hc=>by rw [g1 c (by omega)];exact hX.get c (by omega) (fun h=>h)
 have hl' : L.length*4<=cs.length:=hl
 have hP:PAt H1 H.next L 0:=⟨X1.st,⟨_,gp,b,0,95,false,cs,rfl,hb,by rw [g1 b hb];exact hg,rfl,ht,by omega⟩,by omega,hE,by omega,N,by omega,hgl⟩
 obtain ⟨na,ka⟩:=ka
 obtain ⟨ne,ke⟩:=ke
 refine Zw3 (Hb:=H1) hR hL hN ⟨Nat.le_refl _,⟨[],L,.nils,hY,hP,by rw [g1 ro (by omega)];exact ko,Gro.nil X1.st (Nat.le_refl _),by simpa using hE.2⟩,⟨na,by rw [g1 ra (by omega)];exact ka⟩,⟨ne,by rw [g1 re (by omega)];exact ke⟩,X1,h0,h1,h2,by omega,by omega,by simp [f2],by simp [f3],by simp [f4],by simp⟩ ?_
 rintro F' H2 ts l v hok k2 hG ⟨n2,ka2⟩ ⟨n2',ke2⟩ X2 hre g2 g3 g4
 have s2:=X2.st
 obtain ⟨lc,hsl,hel⟩:=hG.sl
 have c1:=hsl.one
 have hrows:=hG.rows
 have hle2:=hG.le
 have hc:=hsl.cells
 have o1:=Zi (show ro≠ra by omega)
 have o2:=Zi (show ro≠re by omega)
 have o3:=Zi (show ra≠re by omega)
 simp [g2,g3,g4,s2,k2,ka2,ke2,c1,hc,Hp.get_put,o1,o2,o3]
 have old:∀ c,c≠ro->c≠ra->c≠re->(((H2.put ro (rowO v)).put ra (rowA 0)).put re (rowE 0)).get c=H2.get c:=fun c h1 h2 h3=>by rw [Zf _ h3,Zf _ h2,Zf _ h1]
 refine ⟨ts,⟨l,hok⟩,hG.trees (fun c q1 q2 _=>⟨⟨by omega,q2⟩,old c (by omega) (by omega) (by omega)⟩) (Nat.le_refl _),⟨s2,X2.le,fun c hc _=>?_⟩⟩
 exact (old c (by omega) (by omega) (by omega)).trans (X2.get c hc (fun h=>h))
theorem rs_P:rsP=[.cell 2 24,.cell 3 3,.cell 4 47]:=by kernel_rfl
theorem Zpf {F:Fr} {H:Hp} {ro ra re:Nat} {v:V} {a e:Int} (f2:F.get 2=some (.ptr ro 0)) (f3:F.get 3=some (.ptr ra 0)) (f4:F.get 4=some (.ptr re 0)) (ko:H.get ro=some (rowO v)) (ka:H.get ra=some (rowA a)) (ke:H.get re=some (rowE e)):V9 F H=some (.tup [v,.int .i64 a,.int .i64 e],H):=by
 unfold V9
 rw [rs_P]
 simp [Wp,Wo,f2,f3,f4,ko,ka,ke,Vw,isAgg]
theorem Zpb {H:Hp} {N:Nat} (hG:Gd H) (hL:LvG N H) (hN:N<=H.next) (s:Bs) (hl:s.length<=8192):∃ v H',parE [.str s] H=some (.tup [v,.int .i64 (Xq s).at_,.int .i64 (Xq s).e],H')/\Zk (since H H') H' (Xq s).l v/\Ext noX H H':=by
 have hs:=hG.st
 obtain ⟨k0,o0,F0,H0,e0,rfl,p0',p2',p3',p4',hH0⟩:=Zcu sl0 (Ygw hs s)
 have X0:Ext noX H H0:=hH0 ▸ ((Ext.new hs _).newge _).newge _
 have n0:H0.next=H.next+3:=by rw [hH0];rfl
 have ko0:H0.get H.next=some (rowO .nils):=by rw [hH0];simp [Hp.get_new]
 have ka0:H0.get (H.next+1)=some (rowA 0):=by rw [hH0];simp [Hp.get_new]
 have ke0:H0.get (H.next+2)=some (rowE 0):=by rw [hH0];simp [Hp.get_new]
 clear hH0
 have hG0:Gd H0:=hG.ext X0 (fun h=>h)
 generalize hro:H.next=ro at *
 obtain ⟨k1,o1,F1,H1,e1,rfl,q2,q3,q4,sl,H1a,q5,hT,X1,hH1⟩:=Zcu sl1 (Ydm hG0 s hl (ro:=ro) p0' p2' p3' p4' (by omega) (by omega) (by omega) ⟨0,ka0⟩ ⟨0,ke0⟩)
 have l1:=X1.le
 have x0:=X0.le
 have X01:=X0.trans X1
 have oth:∀ c,c≠ro+1->c≠ro+2->H1.get c=H1a.get c:=fun c h1 h2=>by rw [hH1,Zf _ h2,Zf _ h1]
 have ko1:H1.get ro=some (rowO .nils):=by rw [oth ro (by omega) (by omega)];exact X1.keep (by omega) ko0
 have ka1:H1.get (ro+1)=some (rowA (spF (s.length+1) s 0 []).2.1):=by rw [hH1,Zf _ (by omega),Zd]
 have ke1:H1.get (ro+2)=some (rowE (spF (s.length+1) s 0 []).2.2):=by rw [hH1,Zd]
 have s1:H1.stale=[]:=by rw [hH1];exact X1.st
 have nx1:H1.next=H1a.next:=by rw [hH1];rfl
 have XH1:Ext noX H H1:=⟨s1,by omega,fun c hc _=>by rw [oth c (by omega) (by omega)];exact X01.get c hc (fun h=>h)⟩
 clear hH1
 by_cases he:(spF (s.length+1) s 0 []).2.2=0
 ·have hne:¬ (spF (s.length+1) s 0 []).2.2≠0:=fun h=>h he
  obtain ⟨hE1,hE2⟩:=Zb1 (s.length+1) s 0 [] (Nat.lt_succ_self _) he
  have hpY:Xq s=(match modY (Zkh (spF (s.length+1) s 0 []).1) [] (spF (s.length+1) s 0 []).1 with | .ok l _=>(⟨l,0,0⟩:PO) | .err a e=>⟨[],a,e⟩ | .out=>⟨[],0,0⟩):=by rw [Xq,if_neg hne]
  rw [he] at ke1
  generalize (spF (s.length+1) s 0 []).1=L at *
  have hE:Ends L:=⟨hE1,by simp at hE2;omega⟩
  have hout:=Zx1 (Zkh L) [] L (Nat.le_refl _)
  generalize hR:modY (Zkh L) [] L=R at *
  obtain ⟨k2,o2,F2,H2,e2,rfl,r2,r3,r4,r5,rfl⟩:=Zcu sl2 (Z2q s1 q2 q3 q4 q5 ke1)
  have hTs:SlAt H2 95 4 sl L.length (tksV L):=hT.sl.of_get fun b hb=>oth b (by have:=(hT.rows b hb).1;omega) (by have:=(hT.rows b hb).1;omega)
  have w:=Yc3 (F:=F2.set 17 (.fn (.func 52) [] [.ptr ro 0,.ptr (ro+1) 0,.ptr (ro+2) 0])) (ra:=ro+1) (re:=ro+2) hL (by omega) XH1 hTs (fun r hr=>by have:=(hT.rows r hr).2;omega) hE hout hR (by omega) (by omega) (by omega) (by omega) ko1 ⟨_,ka1⟩ ⟨_,ke1⟩ (by simp [r2]) (by simp [r3]) (by simp [r4]) (by simp [r5])
  rcases Zvq sl4 w with ⟨k3,o3,F3,H3,e3,rfl,t2,t3,t4,ts,l,v,hok,ko3,ka3,ke3,hT3,X3⟩ | ⟨k3,pv,H3,e3,pa,pe,herr,rfl,X3,⟨v',ko3⟩,⟨na,ka3⟩,⟨ne,ke3⟩,hre⟩
  ·have key:parK (max k0 (max k1 (max k2 k3))) [.str s] H=some (.tup [v,.int .i64 0,.int .i64 0],H3):=by
    unfold parK
    rw [Zx (Zj tab k0 _ (by omega)) (by omega) _ e0]
    dsimp only
    rw [Zx (Zj tab k1 _ (by omega)) (by omega) _ e1]
    dsimp only
    rw [Zx (Zj tab k2 _ (by omega)) (by omega) _ e2]
    dsimp only
    unfold par4
    rw [r2,r3,r4]
    dsimp only
    rw [Zx (Zj tab k3 _ (by omega)) (by omega) _ e3]
    exact Zpf t2 t3 t4 ko3 ka3 ke3
   refine ⟨v,H3,?_,?_,X3⟩
   ·rw [Ze5 key,hpY,hok];rfl
   ·rw [hpY,hok];exact hT3
  ·obtain ⟨k4,o4,F4,H4,e4,rfl,s4,n4,ko4,ka4,ke4,oth4⟩:=Zcu slc (Z4l X3.st ko3 ka3 ke3 (by omega) (by omega) (by omega) (by omega) (by omega) hre pa pe)
   have key:parK (max k0 (max k1 (max k2 (max k3 k4)))) [.str s] H=some (.tup [.nils,.int .i64 pa,.int .i64 pe],H4):=by
    have e3':=Xc (Zj tab k3 (max k0 (max k1 (max k2 (max k3 k4)))) (by omega)) (Vp tab k3 _ (by omega)) (show k3<=max k0 (max k1 (max k2 (max k3 k4))) by omega) _ e3
    unfold parK
    rw [Zx (Zj tab k0 _ (by omega)) (by omega) _ e0]
    dsimp only
    rw [Zx (Zj tab k1 _ (by omega)) (by omega) _ e1]
    dsimp only
    rw [Zx (Zj tab k2 _ (by omega)) (by omega) _ e2]
    dsimp only
    unfold par4
    rw [r2,r3,r4]
    dsimp only
    rw [Yq _ e3',e3']
    dsimp only
    rw [Zx (Zj tab k4 _ (by omega)) (by omega) _ e4]
    exact Zpf (by simp [Tr.get_set]) (by simp [Tr.get_set]) (by simp [Tr.get_set]) ko4 ka4 ke4
   refine ⟨.nils,H4,?_,?_,⟨s4,by have:=X3.le;omega,fun c hc _=>?_⟩⟩
   ·rw [Ze5 key,hpY,herr]
   ·rw [hpY,herr];exact .inl ⟨.inl rfl,rfl⟩
   ·have:=X3.le
    rw [oth4 c (by omega) (by omega) (by omega) (by omega)]
    exact X3.get c hc (fun h=>h)
 ·have hpY:Xq s=⟨[],(spF (s.length+1) s 0 []).2.1,(spF (s.length+1) s 0 []).2.2⟩:=by rw [Xq,if_pos he]
  obtain ⟨k2,o2,F2,H2,e2,rfl,r2,r3,r4,ko2,ka2,ke2,s2,n2,oth2⟩:=Zcu sl2 (Z5p s1 q2 q3 q4 (by omega) (by omega) (by omega) ko1 ka1 ke1 he)
  have key:parK (max k0 (max k1 k2)) [.str s] H=some (.tup [.nils,.int .i64 (spF (s.length+1) s 0 []).2.1,.int .i64 (spF (s.length+1) s 0 []).2.2],H2):=by
   unfold parK
   rw [Zx (Zj tab k0 _ (by omega)) (by omega) _ e0]
   dsimp only
   rw [Zx (Zj tab k1 _ (by omega)) (by omega) _ e1]
   dsimp only
   rw [Zx (Zj tab k2 _ (by omega)) (by omega) _ e2]
   exact Zpf r2 r3 r4 ko2 ka2 ke2
  refine ⟨.nils,H2,by rw [Ze5 key,hpY],?_,⟨s2,by omega,fun c hc _=>?_⟩⟩
  ·rw [hpY];exact .inl ⟨.inl rfl,rfl⟩
  ·rw [oth2 c (by omega) (by omega) (by omega)]
   exact XH1.get c hc (fun h=>h)
theorem sh0:p0 = .region 0 (match p0 with | .region _ ops _=>ops | _=>#[]) false:=by kernel_rfl
theorem sh1:p1 = .region 1 (match p1 with | .region _ ops _=>ops | _=>#[]) false:=by kernel_rfl
theorem sl3:Zh tab 26 p3 = .reg R26_4:=by kernel_rfl
theorem sh3:p3 = .region 4 (match p3 with | .region _ ops _=>ops | _=>#[]) false:=by kernel_rfl
theorem Zn2 {call:CallE} {f:FuncId} {n id:Nat} {ops:Array Oper} {F F' : Fr} {H H' : Hp} {o:Out} (h:Zc tab call f n (.region id ops false) F H=some (o,F',H')):o = .nrm:=by
 simp only [Zc] at h
 split at h
 ·cases h;rfl
 ·cases h
theorem Z0r {call:CallE} {n:Nat} {F:Fr} {H:Hp}:Zc tab call 26 n p3 F H=none:=by
 have h:evS tab call n (Zh tab 26 p3) F H=none:=by
  rw [sl3]
  have hd:∀ (F:Fr) (H:Hp),evL tab call [(none,.defer ⟨.value (.tmp 17),#[],#[]⟩,none)] F H=none:=fun F H=>by
   have h1:evOp tab (.defer ⟨.value (.tmp 17),#[],#[]⟩) F H=none:=rfl
   have h2:Zan tab F (.defer ⟨.value (.tmp 17),#[],#[]⟩)=false:=by
    simp only [Zan]
    split
    ·rfl
    ·rfl
   simp only [evL,Z6,h1,h2]
   rfl
  have h0:evL tab call R26_4 F H=none:=by
   rw [evL]
   simp only [Z6]
   split
   ·exact hd _ _
   ·exact hd _ _
   ·split
    ·exact hd _ _
    ·rfl
   ·split
    ·exact hd _ _
    ·rfl
  simp only [evS,h0]
 rw [sh3] at h ⊢
 simp only [Zh,evS] at h
 simp only [Zc,Zbp]
 exact h
theorem Znh {k:Nat} {xs:List V} {H:Hp} {r:V×Hp} (h:Zo tab k 26 xs H=some r):parE xs H=some r:=by
 cases k with
 | zero=>simp [Zo] at h
 | succ k =>
  have hx:tab.ext 26=none:=rfl
  simp only [Zo,fnP,bodyP,hx] at h
  have fin:∀ {o:Out} {F' : Fr} {H' : Hp},Zc tab (Zo tab k) 26 k (.seq p0 (.seq p1 (.seq p2 (.seq p3 p4)))) (frame xs 0 .nil) H=some (o,F',H')->(o = .ret\/o = .nrm)->V9 F' H' = some r->parE xs H=some r:=fun {o F' H'} h1 h2 h3=>by
   refine Ze5 (k:=k) ?_
   unfold parK
   simp only [Zc] at h1
   split at h1
   ·rename_i F0 H0 g0
    rw [g0]
    dsimp only
    split at h1
    ·rename_i F1 H1 g1
     rw [g1]
     dsimp only
     split at h1
     ·rw [Z0r] at h1;cases h1
     ·rename_i g2
      rcases h2 with rfl | rfl
      ·rw [h1];exact h3
      ·exact absurd h1 (g2 _ _)
    ·rename_i g1
     rw [sh1] at h1
     have:=Zn2 h1
     subst this
     rw [<- sh1] at h1
     exact absurd h1 (g1 _ _)
   ·rename_i g0
    rw [sh0] at h1
    have:=Zn2 h1
    subst this
    rw [<- sh0] at h1
    exact absurd h1 (g0 _ _)
  split at h
  ·rename_i h1
   exact fin h1 (.inl rfl) h
  ·rename_i h1
   exact fin h1 (.inr rfl) h
  ·cases h
noncomputable def ext1 (f:FuncId):Option (List V->Hp->Option (V×Hp)):=if f=26 then some parE else ext0 f
noncomputable abbrev tab1:Tab:=tab.with_ ext1
theorem Zsw:∀ f,ext1 f=tab.ext f\/∃ ef,ext1 f=some ef/\∀ k xs H r,Zo tab k f xs H=some r->ef xs H=some r:=fun f=>by
 unfold ext1
 split
 ·rename_i h;subst h;exact .inr ⟨_,rfl,fun k xs H r h=>Znh h⟩
 ·exact .inl rfl
theorem to1 {f:FuncId} {xs:List V} {H:Hp} {Q:V->Hp->Prop} (h:WF tab f xs H Q):WF tab1 f xs H Q:=w_wf Zsw h
theorem Z61:Zg3 tab1 Tryz.prog:=fun f e hx=>by
 have hx:ext1 f=some e:=hx
 unfold ext1 at hx
 split at hx
 ·rename_i h;subst h;cases hx;exact parF
 ·exact Zyy f e hx
theorem Zvn:J0 tab1:=fun f e hx xs H v H' hk hG=>by
 have hx:ext1 f=some e:=hx
 unfold ext1 at hx
 split at hx
 ·cases hx;exact Zjy hk hG
 ·exact Ur f e hx xs H v H' hk hG
theorem Zve:Zbk tab1 Tryz.prog:=fun g h=>by cases h
theorem okP1:ProgOk tab1 Tryz.prog an:=⟨Z61,Zvn,⟨Zie.ty,Zie.fn⟩,Zi4,fun f fn h=>(Z4g an f fn).trans (Zk0 f fn h),Zve⟩
theorem Zgh {H:Hp} {N:Nat} (hG:Gd H) (hL:LvG N H) (hN:N<=H.next) (s:Bs) (hl:s.length<=8192):WF tab1 26 [.str s] H fun w H'=>∃ v,w = .tup [v,.int .i64 (Xq s).at_,.int .i64 (Xq s).e]/\Zk (since H H') H' (Xq s).l v/\Ext noX H H':=by
 obtain ⟨v,H',h1,h2,h3⟩:=Zpb hG hL hN s hl
 have hx:tab1.ext 26=some parE:=rfl
 refine ⟨1,_,H',?_,v,rfl,h2,h3⟩
 simp only [Zo,Zir,fnP,bodyP,hx]
 exact h1
#print axioms okP1
end Go.AM.YtlillgmgpmbfnaaGreatDoorT
namespace Go.AM.YtlillgmgpmbfnaaGreatDoorT
open Go Go.AM Go.Proofs
set_option maxRecDepth 100000
abbrev Ycu:List SOp:=[(some 4,.assign (.const (.bool false)),none)]
abbrev Ye2:List SOp:=[(some 9,.call ⟨.value (.func 32),#[],#[]⟩,none),
 (some 10,.unOp .not 4 (.tmp 9),none)]
abbrev Yct:List SOp:=[(some 4,.assign (.const (.bool false)),none)]
abbrev Z8c:List SOp:=[(some 11,.move (.tmp 1),none),
 (some 12,.call ⟨.builtin .len,#[(.tmp 11)],#[9]⟩,none),
 (some 13,.binOp .gtr 3 (.tmp 12) (.const (.int .i64 1500)) 3,none)]
abbrev Ycy:List SOp:=[(some 4,.assign (.const (.bool true)),none)]
abbrev Z7c:List SOp:=[(some 15,.move (.tmp 1),none),
 (some 16,.call ⟨.value (.func 26),#[(.tmp 15)],#[9]⟩,none),
 (some 14,.move (.tmp 16),none),
 (some 17,.extract (.tmp 14) 0,none),
 (some 18,.extract (.tmp 14) 1,none),
 (some 19,.extract (.tmp 14) 2,none),
 (some 5,.assign (.tmp 17),none),
 (some 6,.assign (.tmp 18),none),
 (some 7,.assign (.tmp 19),none)]
abbrev Z8e:List SOp:=[(some 20,.move (.tmp 7),none),
 (some 21,.binOp .neq 47 (.tmp 20) (.const (.int .i64 0)) 47,none)]
abbrev Z8z:List SOp:=[(some 4,.assign (.const (.bool true)),none)]
abbrev Yfd:List SOp:=[(some 22,.move (.tmp 0),none),
 (some 23,.call ⟨.value (.func 33),#[(.tmp 22),(.const (.slice none 0 0))],#[60,22]⟩,none),
 (some 8,.alloc 35,none),
 (none,.store 35 (.tmp 8) (.tmp 23),none)]
abbrev Z73:List SOp:=[(some 24,.move (.tmp 5),none),
 (some 25,.fieldAddr 35 (.tmp 8) 5,none),
 (none,.store 24 (.tmp 25) (.tmp 24),none)]
abbrev Z6r:List (SOp×Nat):=[((some 26,.load 35 (.tmp 8),none),0),
 ((some 27,.call ⟨.value (.func 35),#[(.tmp 26)],#[35]⟩,none),0),
 ((some 28,.load 35 (.tmp 8),none),1),
 ((some 29,.call ⟨.value (.func 36),#[(.tmp 28)],#[35]⟩,none),0),
 ((some 30,.call ⟨.value (.func 34),#[(.tmp 27),(.tmp 29)],#[33,33]⟩,none),0),
 ((some 4,.assign (.tmp 30),none),0)]
abbrev S13:SCode:=.seq (.reg Ycu) (.seq (.seq (.reg Ye2) (.cond (.tmp 10) (.seq (.reg Yct) (.ret)) (.skip))) (.seq (.seq (.reg Z8c) (.cond (.tmp 13) (.seq (.reg Ycy) (.ret)) (.skip))) (.seq (.reg Z7c) (.seq (.seq (.reg Z8e) (.cond (.tmp 21) (.seq (.reg Z8z) (.ret)) (.skip))) (.seq (.reg Yfd) (.seq (.reg Z73) (.seq (.dreg Z6r) (.ret))))))))
theorem Z5q:Zh tab 13 (Tryz.f13.body.getD .skip)=S13:=by kernel_rfl
theorem wf13 {xs:List V} {H:Hp} {Q:V->Hp->Prop} (h:WC tab1 S13 (frame xs 0 .nil) H (resQ tab1 [.tmp 4] Q)):WF tab1 13 xs H Q:=WF.of_slim (T:=tab1) (f:=13) rfl fn13 rfl ((Uj (T:=tab) (e:=ext1) 13 _).trans Z5q) rfl h
end Go.AM.YtlillgmgpmbfnaaGreatDoorT
namespace Go.AM.YtlillgmgpmbfnaaGreatDoorT
open Go Go.AM
attribute [simp] wp_skip Zsp Zom Zo2 Zyu wp_seq Zov wp_block wp_loop wp_exit wp_ret Zol Zgl Zor Zgk Zs5 Zo6 Zt0 Zyr Zqh Zu0 Ze7 Zoe Zk8 Ztk Zon Zs1 Ztc Zrf rsQ Zpi Zpu kV kAW kA kW kC kCo Zhr oq_p oq_r oq_w oq_c Zk1 Zuu Zyq Zym Zyp Zya dV dAW dA dW dC dCo Uz skD od_p od_r od_w od_c Zlw Zsh Zy0 Zxe Zyj Zx7 Zcp Z6 kind Zcv Zo1 Zjn Znd Zlz evP evR evA evW evAW Zb frame opd opds Tr.get_set putD delD Wp Wo kbOk Yx isPt Y1 Zgw Zat Zcr Jk Jp Zk4 Zkx Zlg Zm1 Zeh Zex Zdz Zdy Zfv Zfz Zft Zf0 Zf2 Zf3 Zfu Zf1 Vx Wh Zaj Ze6 Zdo isC Zj3 Zg2 Zl4 Zjw Zcy Zj0 Zcz Zgy Zll Zjb Zow Zdm Zgm Zej Zi5 Zdi Zh1 Zg4 Zl2 Zm8 Zrm Zhl Zk5 Zlx Zsf Zg6 Znf Zi7 Zok isAgg Zd4 optI Vw Zfd Vt Xr Uv Xx eqS V6 Xw Vv esOf Vl Ut Uq Yb W0 Hp.get_flush Hp.stale_flush Hp.next_flush repl List.nil_append Z5 Zd Zm4 Zj2 Zmg Zcj Zog Hp.next_new Hp.next_put Zne IntKind.bits Zd8 nna1 nnb1 nna2 nnb2 nna3 nnb3 nna4 nnb4 nna5 nnb5 nna6 nnb6 nna7 nnb7 nna8 nnb8 Vf Vy
end Go.AM.YtlillgmgpmbfnaaGreatDoorT
namespace Go.AM.YtlillgmgpmbfnaaGreatDoorT
open Go Go.AM Go.Proofs
set_option maxRecDepth 100000
abbrev Ydp:List SOp:=[(some 0,.assign (.const (.bool false)),none)]
abbrev Ycq:List SOp:=[(some 4,.call ⟨.value (.func 24),#[],#[]⟩,none),
 (some 5,.unOp .not 4 (.tmp 4),none)]
abbrev Ydz:List SOp:=[(some 0,.assign (.const (.bool false)),none)]
abbrev Z9s:List SOp:=[(some 7,.call ⟨.value (.func 26),#[(.const (.string ⟨#[0x66,0x6e,0x28,0x61,0x29,0x20,0x7b,0x20,0x72,0x65,0x74,0x75,0x72,0x6e,0x20,0x61,0x20,0x2b,0x20,0x62,0x3b,0x20,0x7d,0x3b]⟩))],#[9]⟩,none),
 (some 6,.move (.tmp 7),none),
 (some 8,.extract (.tmp 6) 0,none),
 (some 9,.extract (.tmp 6) 1,none),
 (some 10,.extract (.tmp 6) 2,none),
 (some 1,.assign (.tmp 8),none),
 (some 2,.assign (.tmp 9),none),
 (some 3,.assign (.tmp 10),none)]
abbrev Yf1:List SOp:=[(some 11,.move (.tmp 3),none),
 (some 12,.binOp .eql 47 (.tmp 11) (.const (.int .i64 0)) 47,none),
 (some 13,.move (.tmp 12),none),
 (some 14,.move (.tmp 1),some (some 13,true)),
 (some 15,.call ⟨.builtin .len,#[(.tmp 14)],#[24]⟩,some (some 13,true)),
 (some 16,.binOp .eql 3 (.tmp 15) (.const (.int .i64 1)) 3,some (some 13,true)),
 (some 17,.pick (.tmp 13) (.tmp 16) (.const (.bool false)),none),
 (some 18,.move (.tmp 17),none),
 (some 19,.move (.tmp 1),some (some 18,true)),
 (some 20,.indexAddr 24 (.tmp 19) (.const (.int .i64 0)),some (some 18,true)),
 (some 21,.fieldAddr 30 (.tmp 20) 2,some (some 18,true)),
 (some 22,.load 28 (.tmp 21),some (some 18,true)),
 (some 23,.call ⟨.builtin .len,#[(.tmp 22)],#[28]⟩,some (some 18,true)),
 (some 24,.binOp .eql 3 (.tmp 23) (.const (.int .i64 1)) 3,some (some 18,true)),
 (some 25,.pick (.tmp 18) (.tmp 24) (.const (.bool false)),none),
 (some 26,.move (.tmp 25),none),
 (some 27,.move (.tmp 1),some (some 26,true)),
 (some 28,.indexAddr 24 (.tmp 27) (.const (.int .i64 0)),some (some 26,true)),
 (some 29,.fieldAddr 30 (.tmp 28) 2,some (some 26,true)),
 (some 30,.load 28 (.tmp 29),some (some 26,true)),
 (some 31,.indexAddr 28 (.tmp 30) (.const (.int .i64 0)),some (some 26,true)),
 (some 32,.load 35 (.tmp 31),some (some 26,true)),
 (some 33,.call ⟨.value (.func 35),#[(.tmp 32)],#[35]⟩,some (some 26,true)),
 (some 34,.buildSlice 33 1 #[(0,(.const (.string ⟨#[0x62]⟩)))],some (some 26,true)),
 (some 35,.call ⟨.value (.func 34),#[(.tmp 33),(.tmp 34)],#[33,33]⟩,some (some 26,true)),
 (some 36,.pick (.tmp 26) (.tmp 35) (.const (.bool false)),none),
 (some 37,.move (.tmp 36),none),
 (some 38,.call ⟨.value (.func 62),#[(.const (.string ⟨#[0x6c,0x65,0x6e]⟩))],#[9]⟩,some (some 37,true)),
 (some 39,.binOp .eql 3 (.tmp 38) (.const (.int .i64 0)) 3,some (some 37,true)),
 (some 40,.pick (.tmp 37) (.tmp 39) (.const (.bool false)),none),
 (some 0,.assign (.tmp 40),none)]
abbrev S32:SCode:=.seq (.reg Ydp) (.seq (.seq (.reg Ycq) (.cond (.tmp 5) (.seq (.reg Ydz) (.ret)) (.skip))) (.seq (.reg Z9s) (.seq (.reg Yf1) (.ret))))
theorem Z5o:Zh tab 32 (Tryz.f32.body.getD .skip)=S32:=by kernel_rfl
theorem wf32 {xs:List V} {H:Hp} {Q:V->Hp->Prop} (h:WC tab1 S32 (frame xs 0 .nil) H (resQ tab1 [.tmp 0] Q)):WF tab1 32 xs H Q:=WF.of_slim (T:=tab1) (f:=32) rfl fn32 rfl ((Uj (T:=tab) (e:=ext1) 32 _).trans Z5o) rfl h
abbrev Z8f:List SOp:=[(some 2,.assign (.const (.int .i64 0)),none)]
abbrev Ydq:List SOp:=[(some 3,.slice 140 (.global 3) none none none,none),
 (some 4,.move (.tmp 0),none),
 (some 5,.call ⟨.value (.func 93),#[(.tmp 3),(.tmp 4)],#[33,9]⟩,none),
 (some 2,.assign (.tmp 5),none)]
abbrev S62:SCode:=.seq (.reg Z8f) (.seq (.reg Ydq) (.ret))
theorem Z62:Zh tab 62 (Tryz.f62.body.getD .skip)=S62:=by kernel_rfl
theorem wf62 {xs:List V} {H:Hp} {Q:V->Hp->Prop} (h:WC tab1 S62 (frame xs 0 .nil) H (resQ tab1 [.tmp 2] Q)):WF tab1 62 xs H Q:=WF.of_slim (T:=tab1) (f:=62) rfl fn62 rfl ((Uj (T:=tab) (e:=ext1) 62 _).trans Z62) rfl h
end Go.AM.YtlillgmgpmbfnaaGreatDoorT
namespace Go.AM.YtlillgmgpmbfnaaGreatDoorT
open Go Go.AM
end Go.AM.YtlillgmgpmbfnaaGreatDoorT
namespace Go.AM.YtlillgmgpmbfnaaGreatDoorT
open Go Go.AM Go.Proofs
set_option maxRecDepth 100000
abbrev Ygn:List SOp:=[(some 0,.assign (.const (.bool false)),none)]
abbrev Ybo:List SOp:=[(some 4,.call ⟨.value (.func 14),#[],#[]⟩,none),
 (some 5,.unOp .not 4 (.tmp 4),none)]
abbrev Z70:List SOp:=[(some 0,.assign (.const (.bool false)),none)]
abbrev Z85:List SOp:=[(some 7,.call ⟨.value (.func 26),#[(.const (.string ⟨#[0x78,0x2e,0x79,0x20,0x3d,0x20,0x2d,0x31,0x3b]⟩))],#[9]⟩,none),
 (some 6,.move (.tmp 7),none),
 (some 8,.extract (.tmp 6) 0,none),
 (some 9,.extract (.tmp 6) 1,none),
 (some 10,.extract (.tmp 6) 2,none),
 (some 1,.assign (.tmp 8),none),
 (some 2,.assign (.tmp 9),none),
 (some 3,.assign (.tmp 10),none)]
abbrev Yf8:List SOp:=[(some 11,.move (.tmp 3),none),
 (some 12,.binOp .eql 47 (.tmp 11) (.const (.int .i64 0)) 47,none),
 (some 13,.move (.tmp 12),none),
 (some 14,.move (.tmp 2),some (some 13,true)),
 (some 15,.binOp .eql 3 (.tmp 14) (.const (.int .i64 0)) 3,some (some 13,true)),
 (some 16,.pick (.tmp 13) (.tmp 15) (.const (.bool false)),none),
 (some 17,.move (.tmp 16),none),
 (some 18,.move (.tmp 1),some (some 17,true)),
 (some 19,.call ⟨.builtin .len,#[(.tmp 18)],#[24]⟩,some (some 17,true)),
 (some 20,.binOp .eql 3 (.tmp 19) (.const (.int .i64 1)) 3,some (some 17,true)),
 (some 21,.pick (.tmp 17) (.tmp 20) (.const (.bool false)),none),
 (some 22,.move (.tmp 21),none),
 (some 23,.move (.tmp 1),some (some 22,true)),
 (some 24,.indexAddr 24 (.tmp 23) (.const (.int .i64 0)),some (some 22,true)),
 (some 25,.fieldAddr 30 (.tmp 24) 0,some (some 22,true)),
 (some 26,.load 27 (.tmp 25),some (some 22,true)),
 (some 27,.binOp .eql 27 (.tmp 26) (.const (.int .i64 2)) 27,some (some 22,true)),
 (some 28,.pick (.tmp 22) (.tmp 27) (.const (.bool false)),none),
 (some 29,.move (.tmp 28),none),
 (some 30,.move (.tmp 1),some (some 29,true)),
 (some 31,.indexAddr 24 (.tmp 30) (.const (.int .i64 0)),some (some 29,true)),
 (some 32,.fieldAddr 30 (.tmp 31) 2,some (some 29,true)),
 (some 33,.load 28 (.tmp 32),some (some 29,true)),
 (some 34,.indexAddr 28 (.tmp 33) (.const (.int .i64 1)),some (some 29,true)),
 (some 35,.fieldAddr 35 (.tmp 34) 2,some (some 29,true)),
 (some 36,.load 9 (.tmp 35),some (some 29,true)),
 (some 37,.binOp .eql 9 (.tmp 36) (.const (.string ⟨#[0x79]⟩)) 9,some (some 29,true)),
 (some 38,.pick (.tmp 29) (.tmp 37) (.const (.bool false)),none),
 (some 39,.move (.tmp 38),none),
 (some 40,.call ⟨.value (.func 50),#[(.const (.string ⟨#[0x66,0x6e]⟩))],#[9]⟩,some (some 39,true)),
 (some 41,.pick (.tmp 39) (.tmp 40) (.const (.bool false)),none),
 (some 42,.move (.tmp 41),none),
 (some 43,.call ⟨.value (.func 50),#[(.const (.string ⟨#[0x6c,0x65,0x6e]⟩))],#[9]⟩,some (some 42,true)),
 (some 44,.unOp .not 4 (.tmp 43),some (some 42,true)),
 (some 45,.pick (.tmp 42) (.tmp 44) (.const (.bool false)),none),
 (some 0,.assign (.tmp 45),none)]
abbrev S24:SCode:=.seq (.reg Ygn) (.seq (.seq (.reg Ybo) (.cond (.tmp 5) (.seq (.reg Z70) (.ret)) (.skip))) (.seq (.reg Z85) (.seq (.reg Yf8) (.ret))))
theorem Z2w:Zh tab 24 (Tryz.f24.body.getD .skip)=S24:=by kernel_rfl
theorem wf24 {xs:List V} {H:Hp} {Q:V->Hp->Prop} (h:WC tab1 S24 (frame xs 0 .nil) H (resQ tab1 [.tmp 0] Q)):WF tab1 24 xs H Q:=WF.of_slim (T:=tab1) (f:=24) rfl fn24 rfl ((Uj (T:=tab) (e:=ext1) 24 _).trans Z2w) rfl h
end Go.AM.YtlillgmgpmbfnaaGreatDoorT
namespace Go.AM.YtlillgmgpmbfnaaGreatDoorT
open Go Go.AM
end Go.AM.YtlillgmgpmbfnaaGreatDoorT
set_option maxRecDepth 1000000
namespace Go.AM.YtlillgmgpmbfnaaGreatDoorT
open Go Go.AM Go.Proofs
abbrev Es:=List (V×V×Nat)
structure Lev where
 a:Es
 b:Es
 c:Es
 ca:Nat
 cb:Nat
 cc:Nat
def e1 (n:Nat):V×V×Nat:=(.str [33,61],.int .i64 12,n)
def e2 (n:Nat):V×V×Nat:=(.str [60],.int .i64 13,n)
def e3 (n:Nat):V×V×Nat:=(.str [61,61],.int .i64 11,n)
def e4 (n:Nat):V×V×Nat:=(.str [43],.int .i64 8,n)
def e5 (n:Nat):V×V×Nat:=(.str [45],.int .i64 9,n)
def e6 (n:Nat):V×V×Nat:=(.str [42],.int .i64 10,n)
structure LevOk (m:Lev):Prop where
 a:∃ i j k,m.a=[e1 i,e2 j,e3 k]\/m.a=[e1 i,e3 k,e2 j]\/m.a=[e2 j,e1 i,e3 k]\/m.a=[e2 j,e3 k,e1 i]\/m.a=[e3 k,e1 i,e2 j]\/m.a=[e3 k,e2 j,e1 i]
 b:∃ i j,m.b=[e4 i,e5 j]\/m.b=[e5 j,e4 i]
 c:∃ i,m.c=[e6 i]
def mpO (e:Es) (c:Nat):Option Ob:=some (.map true e c)
def gl7 (o3 o9:Option Ob) (m:Lev) (l:List (Option Ob)):List (Option Ob) :=
 [some (.row 77 1 true Zg0),some (.row 118 1 true (resL.map .str)),some (.row 122 1 true simL),o3,none,none,some (.row 206 1 true [.mp 15,.mp 16,.mp 17]),none,none,o9,none,none,none,errR,none,mpO m.a m.ca,mpO m.b m.cb,mpO m.c m.cc]++l
theorem lve0 {es:Es} (h:∃ i j k,es=[e1 i,e2 j,e3 k]\/es=[e1 i,e3 k,e2 j]\/es=[e2 j,e1 i,e3 k]\/es=[e2 j,e3 k,e1 i]\/es=[e3 k,e1 i,e2 j]\/es=[e3 k,e2 j,e1 i]):LvE 0 es:=by
 obtain ⟨i,j,k,h⟩:=h
 intro t
 by_cases h1:t=[61,61]
 ·subst h1
  rcases h with rfl | rfl | rfl | rfl | rfl | rfl<;>exact .inr ⟨_,11,rfl,rfl⟩
 by_cases h2:t=[33,61]
 ·subst h2
  rcases h with rfl | rfl | rfl | rfl | rfl | rfl<;>exact .inr ⟨_,12,rfl,rfl⟩
 by_cases h3:t=[60]
 ·subst h3
  rcases h with rfl | rfl | rfl | rfl | rfl | rfl<;>exact .inr ⟨_,13,rfl,rfl⟩
 left
 refine ⟨?_,by simp [lvY,h1,h2,h3]⟩
 have q1:(t==[61,61])=false:=beq_false_of_ne h1
 have q2:(t==[33,61])=false:=beq_false_of_ne h2
 have q3:(t==[60])=false:=beq_false_of_ne h3
 rcases h with rfl | rfl | rfl | rfl | rfl | rfl<;>simp [Xu,e1,e2,e3,Vv,Xw,q1,q2,q3]
theorem lve1 {es:Es} (h:∃ i j,es=[e4 i,e5 j]\/es=[e5 j,e4 i]):LvE 1 es:=by
 obtain ⟨i,j,h⟩:=h
 intro t
 by_cases h1:t=[43]
 ·subst h1
  rcases h with rfl | rfl<;>exact .inr ⟨_,8,rfl,rfl⟩
 by_cases h2:t=[45]
 ·subst h2
  rcases h with rfl | rfl<;>exact .inr ⟨_,9,rfl,rfl⟩
 left
 refine ⟨?_,by simp [lvY,h1,h2]⟩
 have q1:(t==[43])=false:=beq_false_of_ne h1
 have q2:(t==[45])=false:=beq_false_of_ne h2
 rcases h with rfl | rfl<;>simp [Xu,e4,e5,Vv,Xw,q1,q2]
theorem lve2 {es:Es} (h:∃ i,es=[e6 i]):LvE 2 es:=by
 obtain ⟨i,rfl⟩:=h
 intro t
 by_cases h1:t=[42]
 ·subst h1;exact .inr ⟨_,10,rfl,rfl⟩
 left
 refine ⟨?_,by simp [lvY,h1]⟩
 have q1:(t==[42])=false:=beq_false_of_ne h1
 simp [Xu,e6,Vv,Xw,q1]
theorem lvg7 {m:Lev} (h:LevOk m) (o3 o9:Option Ob) (l:List (Option Ob)):LvG 18 (hO (gl7 o3 o9 m l)):=by
 refine ⟨by rw [Ub];rfl,by rw [Ub];rfl,⟨15,16,17,m.a,m.b,m.c,m.ca,m.cb,m.cc,by rw [Ub];rfl,by omega,by omega,by omega,by rw [Ub];rfl,by rw [Ub];rfl,by rw [Ub];rfl,lve0 h.a,lve1 h.b,lve2 h.c⟩,by decide,by decide,by decide⟩
theorem gd7 (m:Lev) (o3 o9:Option Ob) (l:List (Option Ob)):Gd (hO (gl7 o3 o9 m l)) :=
 ⟨Zqf _,by rw [Zci];simp [gl7],by rw [Ub];rfl⟩
theorem Zju (o3 o9 a b c d:Option Ob):WF tab 14 [] (hO [some (.row 77 1 true Zg0),some (.row 118 1 true (resL.map .str)),some (.row 122 1 true simL),o3,none,none,some (.row 206 1 true [.mp 15,.mp 16,.mp 17]),none,none,o9,none,none,none,errR,none,a,b,c,d]) fun v H'=>v = .bool true/\Ext noX (hO [some (.row 77 1 true Zg0),some (.row 118 1 true (resL.map .str)),some (.row 122 1 true simL),o3,none,none,some (.row 206 1 true [.mp 15,.mp 16,.mp 17]),none,none,o9,none,none,none,errR,none,a,b,c,d]) H':=Zrx (k:=200) (by kernel_rfl)
end Go.AM.YtlillgmgpmbfnaaGreatDoorT
set_option maxRecDepth 100000
namespace Go.AM.YtlillgmgpmbfnaaGreatDoorT
open Go Go.AM Go.Proofs
theorem LvG.ext {N:Nat} {H H' : Hp} (h:LvG N H) (hN:N<=H.next) (hE:Ext noX H H'):LvG N H':=h.of_get fun b hb=>hE.get b (by omega) (fun h=>h)
def exW:List Tx:=[.st 2 [] [.ex 5 0 [120] [] [] [],.ex 4 0 [121] [] [] [],.ex 6 0 [] [.ex 3 1 [] [] [] []] [] []] [] [] 0]
theorem exY:Xq [120,46,121,32,61,32,45,49,59]=⟨exW,0,0⟩:=by kernel_rfl
theorem Zqm {N:Nat} {H:Hp} (h6:WF tab 14 [] H fun v H'=>v = .bool true/\Ext noX H H') (hG:Gd H) (hL:LvG N H) (hN:N<=H.next):WF tab1 24 [] H fun v H'=>v = .bool true/\Ext noX H H':=by
 refine wf24 (Zs _ ?_)
 have hst:=hG.st
 simp [hst]
 refine (to1 h6).mono ?_
 rintro v H1 ⟨rfl,X1⟩
 have st1:=X1.st
 simp [st1]
 refine (Zgh (hG.ext X1 (fun h=>h)) (hL.ext hN X1) (by have:=X1.le;omega) _ (by decide)).mono ?_
 rintro _ H2 ⟨v,rfl,hv,X2⟩
 rw [exY] at hv ⊢
 have st2:=X2.st
 have L2:=(hL.ext hN X1).ext (by have:=X1.le;omega) X2
 obtain ⟨b,off,cap,e,ro,cells,d0,d1,d2,d3,d4,d5,rfl,g1,g2,g3,g4,g5,g6,g7,g8⟩:=Zk.at_ hv (show 0 < exW.length by decide)
 replace g7:Ze (since H1 H2) H2 (.st 2 [] [.ex 5 0 [120] [] [] [],.ex 4 0 [121] [] [] [],.ex 6 0 [] [.ex 3 1 [] [] [] []] [] []] [] [] 0) [d0,d1,d2,d3,d4,d5]:=g7
 simp only [Ze] at g7
 obtain ⟨ve,vb,vl,h1,h2,h3,h4⟩:=g7
 cases h1
 obtain ⟨b',off',cap',e',ro',cells',c0,c1,c2,c3,c4,c5,rfl,k1,k2,k3,k4,k5,k6,k7,k8⟩:=Zk.at_ h2 (show 1 < 3 by decide)
 replace k7:Ze (since H1 H2) H2 (.ex 4 0 [121] [] [] []) [c0,c1,c2,c3,c4,c5]:=k7
 simp only [Ze] at k7
 obtain ⟨vp,vq,vb',i1,i2,i3,i4⟩:=k7
 cases i1
 have q0:cells[off]? = some (.int .i64 2):=by have:=congrArg (·[0]?) g6;simpa using this
 have q2:cells[off+2]? = some (.sl b' off' 3 cap' 6):=by have:=congrArg (·[2]?) g6;simpa using this
 have q4:cells'[off' + 8]? = some (.str [121]):=by have:=congrArg (·[2]?) k6;simpa using this
 have hz:exW.length=1:=rfl
 simp [st2,hz,g1,q0,q2,k1,q4]
 refine (to1 (Zmu st2 L2 _)).mono ?_
 rintro _ H3 ⟨rfl,rfl⟩
 have r1:decide ([102,110]∈resL)=true:=by decide
 have r2:decide ([108,101,110]∈resL)=false:=by decide
 rw [r1]
 simp [st2]
 refine (to1 (Zmu st2 L2 _)).mono ?_
 rintro _ H3 ⟨rfl,rfl⟩
 rw [r2]
 simp [st2]
 exact X1.trans X2
end Go.AM.YtlillgmgpmbfnaaGreatDoorT
namespace Go.AM.YtlillgmgpmbfnaaGreatDoorT
open Go Go.AM Go.Proofs
set_option maxRecDepth 100000
abbrev Yfj:List SOp:=[(some 4,.assign (.const (.int .i64 0)),none)]
abbrev Ye4:List SOp:=[(some 6,.move (.tmp 0),none),
 (some 7,.call ⟨.builtin .len,#[(.tmp 6)],#[33]⟩,none),
 (some 8,.move (.const (.int .i64 0)),none)]
abbrev Ygl:List SOp:=[(some 9,.binOp .lss 3 (.tmp 8) (.tmp 7) 3,none)]
abbrev Yd7:List SOp:=[(some 10,.move (.tmp 8),none),
 (some 5,.assign (.tmp 10),none)]
abbrev Z9c:List SOp:=[(some 11,.move (.tmp 1),none),
 (some 12,.move (.tmp 0),none),
 (some 13,.move (.tmp 5),none),
 (some 14,.indexAddr 33 (.tmp 12) (.tmp 13),none),
 (some 15,.load 9 (.tmp 14),none),
 (some 16,.binOp .eql 9 (.tmp 11) (.tmp 15) 9,none)]
abbrev Ygc:List SOp:=[(some 17,.move (.tmp 5),none),
 (some 4,.assign (.tmp 17),none)]
abbrev Z95:List SOp:=[(some 18,.binOp .add 3 (.tmp 8) (.const (.int .i64 1)) 3,none),
 (some 8,.move (.tmp 18),none)]
def Zhc:SCode:=.seq (.reg Ygl) (.seq (.cond (.tmp 9) (.skip) (.exit 0)) (.seq (.block 1 (.seq (.reg Yd7) (.seq (.reg Z9c) (.cond (.tmp 16) (.seq (.reg Ygc) (.ret)) (.skip))))) (.reg Z95)))
abbrev Yf4:List SOp:=[(some 4,.assign (.const (.int .i64 (-1))),none)]
abbrev S93:SCode:=.seq (.reg Yfj) (.seq (.seq (.reg Ye4) (.block 0 (.loop Zhc))) (.seq (.reg Yf4) (.ret)))
theorem Z28:Zh tab 93 (Tryz.f93.body.getD .skip)=S93:=by kernel_rfl
theorem wf93 {xs:List V} {H:Hp} {Q:V->Hp->Prop} (h:WC tab S93 (frame xs 0 .nil) H (resQ tab [.tmp 4] Q)):WF tab 93 xs H Q:=WF.of_slim (T:=tab) (f:=93) rfl fn93 rfl Z28 rfl h
abbrev Z2y:List SOp:=[(some 4,.assign (.const (.bool false)),none)]
abbrev Z3i:List SOp:=[(some 5,.move (.tmp 0),none),
 (some 6,.move (.tmp 1),none),
 (some 7,.call ⟨.value (.func 93),#[(.tmp 5),(.tmp 6)],#[33,9]⟩,none),
 (some 8,.binOp .geq 3 (.tmp 7) (.const (.int .i64 0)) 3,none),
 (some 4,.assign (.tmp 8),none)]
abbrev S139:SCode:=.seq (.reg Z2y) (.seq (.reg Z3i) (.ret))
theorem Z10:Zh tab 139 (Tryz.f139.body.getD .skip)=S139:=by kernel_rfl
theorem Yd0 {xs:List V} {H:Hp} {Q:V->Hp->Prop} (h:WC tab S139 (frame xs 0 .nil) H (resQ tab [.tmp 4] Q)):WF tab 139 xs H Q:=WF.of_slim (T:=tab) (f:=139) rfl Ygj rfl Z10 rfl h
abbrev Ydv:List SOp:=[(some 2,.assign (.const (.slice none 0 0)),none)]
abbrev Z81:List SOp:=[(some 3,.move (.tmp 0),none),
 (some 4,.binOp .eql 33 (.tmp 3) (.const (.slice none 0 0)) 33,none)]
abbrev Yaj:List SOp:=[(some 2,.assign (.const (.slice none 0 0)),none)]
abbrev Yew:List SOp:=[(some 5,.buildSlice 33 0 #[],none),
 (some 6,.move (.tmp 0),none),
 (some 7,.call ⟨.builtin .append,#[(.tmp 5),(.tmp 6)],#[33,33]⟩,none),
 (some 2,.assign (.tmp 7),none)]
abbrev S96:SCode:=.seq (.reg Ydv) (.seq (.seq (.reg Z81) (.cond (.tmp 4) (.seq (.reg Yaj) (.ret)) (.skip))) (.seq (.reg Yew) (.ret)))
theorem Z4p:Zh tab 96 (Tryz.f96.body.getD .skip)=S96:=by kernel_rfl
theorem wf96 {xs:List V} {H:Hp} {Q:V->Hp->Prop} (h:WC tab S96 (frame xs 0 .nil) H (resQ tab [.tmp 2] Q)):WF tab 96 xs H Q:=WF.of_slim (T:=tab) (f:=96) rfl fn96 rfl Z4p rfl h
abbrev Yfr:List SOp:=[(some 4,.assign (.const (.bool false)),none)]
abbrev Ydl:List SOp:=[(some 6,.move (.tmp 0),none),
 (some 7,.call ⟨.builtin .len,#[(.tmp 6)],#[33]⟩,none),
 (some 8,.move (.tmp 1),none),
 (some 9,.call ⟨.builtin .len,#[(.tmp 8)],#[33]⟩,none),
 (some 10,.binOp .neq 3 (.tmp 7) (.tmp 9) 3,none)]
abbrev Ygm:List SOp:=[(some 4,.assign (.const (.bool false)),none)]
abbrev Ybk:List SOp:=[(some 11,.move (.tmp 0),none),
 (some 12,.call ⟨.builtin .len,#[(.tmp 11)],#[33]⟩,none),
 (some 13,.move (.const (.int .i64 0)),none)]
abbrev Z9i:List SOp:=[(some 14,.binOp .lss 3 (.tmp 13) (.tmp 12) 3,none)]
abbrev Ybs:List SOp:=[(some 15,.move (.tmp 13),none),
 (some 5,.assign (.tmp 15),none)]
abbrev Yfk:List (SOp×Nat):=[((some 16,.move (.tmp 0),none),0),
 ((some 17,.move (.tmp 5),none),0),
 ((some 18,.indexAddr 33 (.tmp 16) (.tmp 17),none),0),
 ((some 19,.load 9 (.tmp 18),none),0),
 ((some 20,.move (.tmp 1),none),0),
 ((some 21,.move (.tmp 5),none),0),
 ((some 22,.indexAddr 33 (.tmp 20) (.tmp 21),none),0),
 ((some 23,.load 9 (.tmp 22),none),0),
 ((some 24,.binOp .neq 9 (.tmp 19) (.tmp 23) 9,none),0)]
abbrev Z9z:List SOp:=[(some 4,.assign (.const (.bool false)),none)]
abbrev Z9b:List SOp:=[(some 25,.binOp .add 3 (.tmp 13) (.const (.int .i64 1)) 3,none),
 (some 13,.move (.tmp 25),none)]
def Zkr:SCode:=.seq (.reg Z9i) (.seq (.cond (.tmp 14) (.skip) (.exit 0)) (.seq (.block 1 (.seq (.reg Ybs) (.seq (.dreg Yfk) (.cond (.tmp 24) (.seq (.reg Z9z) (.ret)) (.skip))))) (.reg Z9b)))
abbrev Ycx:List SOp:=[(some 4,.assign (.const (.bool true)),none)]
abbrev S34:SCode:=.seq (.reg Yfr) (.seq (.seq (.reg Ydl) (.cond (.tmp 10) (.seq (.reg Ygm) (.ret)) (.skip))) (.seq (.seq (.reg Ybk) (.block 0 (.loop Zkr))) (.seq (.reg Ycx) (.ret))))
theorem Z3n:Zh tab 34 (Tryz.f34.body.getD .skip)=S34:=by kernel_rfl
theorem wf34 {xs:List V} {H:Hp} {Q:V->Hp->Prop} (h:WC tab S34 (frame xs 0 .nil) H (resQ tab [.tmp 4] Q)):WF tab 34 xs H Q:=WF.of_slim (T:=tab) (f:=34) rfl fn34 rfl Z3n rfl h
abbrev Z88:List SOp:=[(some 4,.alloc 35,none)]
abbrev Yfq:List SOp:=[(some 8,.move (.tmp 1),none),
 (some 9,.call ⟨.value (.func 15),#[(.tmp 8)],#[22]⟩,none),
 (some 10,.build 35 #[(0,(.const (.int .i64 17))),(5,(.tmp 9))],none),
 (some 5,.alloc 35,none),
 (none,.store 35 (.tmp 5) (.tmp 10),none)]
abbrev Yfg:List SOp:=[(some 11,.move (.tmp 0),none),
 (some 12,.call ⟨.builtin .len,#[(.tmp 11)],#[60]⟩,none),
 (some 13,.move (.const (.int .i64 0)),none)]
abbrev Z9o:List SOp:=[(some 14,.binOp .lss 3 (.tmp 13) (.tmp 12) 3,none)]
abbrev Ybi:List SOp:=[(some 15,.move (.tmp 13),none),
 (some 16,.indexAddr 60 (.tmp 11) (.tmp 13),none),
 (some 17,.load 5 (.tmp 16),none),
 (some 6,.assign (.tmp 15),none),
 (some 7,.assign (.tmp 17),none)]
abbrev Z7z:List SOp:=[(some 18,.move (.tmp 6),none),
 (some 19,.binOp .lss 3 (.tmp 18) (.const (.int .i64 3)) 3,none)]
abbrev Yfm:List (SOp×Nat):=[((some 22,.move (.tmp 7),none),0),
 ((some 23,.call ⟨.value (.func 25),#[(.tmp 22)],#[5]⟩,none),0),
 ((some 20,.fieldAddr 35 (.tmp 5) 4,none),1),
 ((some 21,.load 33 (.tmp 20),none),1),
 ((some 24,.buildSlice 33 1 #[(0,(.tmp 23))],none),0),
 ((some 25,.call ⟨.builtin .append,#[(.tmp 21),(.tmp 24)],#[33,33]⟩,none),0),
 ((some 26,.fieldAddr 35 (.tmp 5) 4,none),0),
 ((none,.store 33 (.tmp 26) (.tmp 25),none),0)]
abbrev Yck:List SOp:=[(some 27,.binOp .add 3 (.tmp 13) (.const (.int .i64 1)) 3,none),
 (some 13,.move (.tmp 27),none)]
def Zkm:SCode:=.seq (.reg Z9o) (.seq (.cond (.tmp 14) (.skip) (.exit 0)) (.seq (.block 1 (.seq (.reg Ybi) (.seq (.reg Z7z) (.cond (.tmp 19) (.dreg Yfm) (.skip))))) (.reg Yck)))
abbrev Z99:List SOp:=[(some 28,.load 35 (.tmp 5),none),
 (none,.store 35 (.tmp 4) (.tmp 28),none)]
abbrev S33:SCode:=.seq (.reg Z88) (.seq (.reg Yfq) (.seq (.seq (.reg Yfg) (.block 0 (.loop Zkm))) (.seq (.reg Z99) (.ret))))
theorem Z35:Zh tab 33 (Tryz.f33.body.getD .skip)=S33:=by kernel_rfl
theorem wf33 {xs:List V} {H:Hp} {Q:V->Hp->Prop} (h:WC tab S33 (frame xs 0 .nil) H (resQ tab [.cell 4 35] Q)):WF tab 33 xs H Q:=WF.of_slim (T:=tab) (f:=33) rfl fn33 rfl Z35 rfl h
abbrev Z8s:List SOp:=[(some 1,.box 35 (.tmp 0),none),
 (some 2,.assign (.const (.slice none 0 0)),none)]
abbrev Z89:List SOp:=[(some 4,.build 107 #[],none),
 (some 5,.box 107 (.tmp 4),none),
 (some 3,.assign (.tmp 5),none)]
abbrev Yal:List SOp:=[(some 6,.move (.tmp 3),none),
 (some 7,.fieldAddr 35 (.tmp 1) 5,none),
 (some 8,.load 24 (.tmp 7),none),
 (some 9,.fieldAddr 35 (.tmp 1) 4,none),
 (some 10,.load 33 (.tmp 9),none),
 (some 11,.call ⟨.value (.func 63),#[(.tmp 6),(.tmp 8),(.tmp 10)],#[105,24,33]⟩,none)]
abbrev Z80:List SOp:=[(some 12,.move (.tmp 3),none),
 (some 13,.nilCheck (.tmp 12),none),
 (some 14,.fieldAddr 107 (.tmp 13) 1,none),
 (some 15,.load 33 (.tmp 14),none),
 (some 2,.assign (.tmp 15),none)]
abbrev S35:SCode:=.seq (.reg Z8s) (.seq (.reg Z89) (.seq (.reg Yal) (.seq (.reg Z80) (.ret))))
theorem Z6l:Zh tab 35 (Tryz.f35.body.getD .skip)=S35:=by kernel_rfl
theorem wf35 {xs:List V} {H:Hp} {Q:V->Hp->Prop} (h:WC tab S35 (frame xs 0 .nil) H (resQ tab [.tmp 2] Q)):WF tab 35 xs H Q:=WF.of_slim (T:=tab) (f:=35) rfl fn35 rfl Z6l rfl h
abbrev Zyo:List SOp:=[(some 11,.move (.tmp 0),none),
 (some 12,.nilCheck (.tmp 11),none),
 (some 13,.fieldAddr 107 (.tmp 12) 0,none),
 (some 14,.load 33 (.tmp 13),none),
 (some 15,.call ⟨.builtin .len,#[(.tmp 14)],#[33]⟩,none),
 (some 6,.assign (.tmp 15),none)]
abbrev Zyd:List SOp:=[(some 16,.move (.tmp 0),none),
 (some 17,.move (.tmp 0),none),
 (some 18,.nilCheck (.tmp 17),none),
 (some 19,.fieldAddr 107 (.tmp 18) 0,none),
 (some 20,.load 33 (.tmp 19),none),
 (some 21,.move (.tmp 2),none),
 (some 22,.call ⟨.builtin .append,#[(.tmp 20),(.tmp 21)],#[33,33]⟩,none),
 (some 23,.nilCheck (.tmp 16),none),
 (some 24,.fieldAddr 107 (.tmp 23) 0,none),
 (none,.store 33 (.tmp 24) (.tmp 22),none)]
abbrev Zxr:List SOp:=[(some 25,.move (.tmp 1),none),
 (some 26,.call ⟨.builtin .len,#[(.tmp 25)],#[24]⟩,none),
 (some 27,.move (.const (.int .i64 0)),none)]
abbrev Zys:List SOp:=[(some 28,.binOp .lss 3 (.tmp 27) (.tmp 26) 3,none)]
abbrev Zxq:List SOp:=[(some 29,.indexAddr 24 (.tmp 25) (.tmp 27),none),
 (some 30,.load 30 (.tmp 29),none),
 (some 8,.alloc 30,none),
 (none,.store 30 (.tmp 8) (.tmp 30),none)]
abbrev Zx5:List SOp:=[(some 31,.fieldAddr 30 (.tmp 8) 2,none),
 (some 32,.load 28 (.tmp 31),none),
 (some 33,.call ⟨.builtin .len,#[(.tmp 32)],#[28]⟩,none),
 (some 34,.move (.const (.int .i64 0)),none)]
abbrev Z8n:List SOp:=[(some 35,.binOp .lss 3 (.tmp 34) (.tmp 33) 3,none)]
abbrev Yc5:List SOp:=[(some 36,.indexAddr 28 (.tmp 32) (.tmp 34),none),
 (some 37,.load 35 (.tmp 36),none),
 (some 10,.alloc 35,none),
 (none,.store 35 (.tmp 10) (.tmp 37),none)]
abbrev Z9u:List SOp:=[(some 38,.move (.tmp 0),none),
 (some 39,.load 35 (.tmp 10),none),
 (some 40,.call ⟨.value (.func 94),#[(.tmp 38),(.tmp 39)],#[105,35]⟩,none)]
abbrev Z69:List SOp:=[(some 41,.binOp .add 3 (.tmp 34) (.const (.int .i64 1)) 3,none),
 (some 34,.move (.tmp 41),none)]
def Zh6:SCode:=.seq (.reg Z8n) (.seq (.cond (.tmp 35) (.skip) (.exit 2)) (.seq (.block 3 (.seq (.reg Yc5) (.reg Z9u))) (.reg Z69)))
abbrev Zuw:List SOp:=[(some 42,.fieldAddr 30 (.tmp 8) 0,none),
 (some 43,.load 27 (.tmp 42),none)]
abbrev Ztv:List SOp:=[(some 45,.binOp .eql 27 (.tmp 43) (.const (.int .i64 0)) 27,none),
 (some 44,.assign (.tmp 45),none)]
abbrev Zt5:List (SOp×Nat):=[((some 47,.move (.tmp 0),none),0),
 ((some 48,.nilCheck (.tmp 47),none),0),
 ((some 49,.fieldAddr 107 (.tmp 48) 0,none),0),
 ((some 50,.load 33 (.tmp 49),none),0),
 ((some 51,.fieldAddr 30 (.tmp 8) 1,none),0),
 ((some 52,.load 9 (.tmp 51),none),0),
 ((some 53,.buildSlice 33 1 #[(0,(.tmp 52))],none),0),
 ((some 54,.call ⟨.builtin .append,#[(.tmp 50),(.tmp 53)],#[33,33]⟩,none),0),
 ((some 46,.move (.tmp 0),none),1),
 ((some 55,.nilCheck (.tmp 46),none),0),
 ((some 56,.fieldAddr 107 (.tmp 55) 0,none),0),
 ((none,.store 33 (.tmp 56) (.tmp 54),none),0)]
abbrev Zrs:List SOp:=[(some 58,.binOp .eql 27 (.tmp 43) (.const (.int .i64 1)) 27,none),
 (some 57,.assign (.tmp 58),none)]
abbrev Zq9:List SOp:=[(some 59,.move (.tmp 0),none),
 (some 60,.fieldAddr 30 (.tmp 8) 1,none),
 (some 61,.load 9 (.tmp 60),none),
 (some 62,.call ⟨.value (.func 95),#[(.tmp 59),(.tmp 61)],#[105,9]⟩,none)]
abbrev Zrq:List SOp:=[(some 64,.binOp .eql 27 (.tmp 43) (.const (.int .i64 7)) 27,none),
 (some 63,.assign (.tmp 64),none)]
abbrev Zsg:List SOp:=[(some 65,.move (.tmp 0),none),
 (some 66,.fieldAddr 30 (.tmp 8) 3,none),
 (some 67,.load 24 (.tmp 66),none),
 (some 68,.call ⟨.value (.func 63),#[(.tmp 65),(.tmp 67),(.const (.slice none 0 0))],#[105,24,33]⟩,none)]
abbrev Zs4:List SOp:=[(some 69,.move (.tmp 0),none),
 (some 70,.fieldAddr 30 (.tmp 8) 4,none),
 (some 71,.load 24 (.tmp 70),none),
 (some 72,.fieldAddr 30 (.tmp 8) 1,none),
 (some 73,.load 9 (.tmp 72),none),
 (some 74,.buildSlice 33 1 #[(0,(.tmp 73))],none),
 (some 75,.call ⟨.value (.func 63),#[(.tmp 69),(.tmp 71),(.tmp 74)],#[105,24,33]⟩,none)]
abbrev Ztg:List SOp:=[(some 76,.move (.tmp 0),none),
 (some 77,.fieldAddr 30 (.tmp 8) 3,none),
 (some 78,.load 24 (.tmp 77),none),
 (some 79,.call ⟨.value (.func 63),#[(.tmp 76),(.tmp 78),(.const (.slice none 0 0))],#[105,24,33]⟩,none)]
abbrev Zsk:List SOp:=[(some 80,.move (.tmp 0),none),
 (some 81,.fieldAddr 30 (.tmp 8) 4,none),
 (some 82,.load 24 (.tmp 81),none),
 (some 83,.call ⟨.value (.func 63),#[(.tmp 80),(.tmp 82),(.const (.slice none 0 0))],#[105,24,33]⟩,none)]
abbrev Zml:List SOp:=[(some 84,.binOp .add 3 (.tmp 27) (.const (.int .i64 1)) 3,none),
 (some 27,.move (.tmp 84),none)]
def Zkq:SCode:=.seq (.reg Zys) (.seq (.cond (.tmp 28) (.skip) (.exit 0)) (.seq (.block 1 (.seq (.reg Zxq) (.seq (.seq (.reg Zx5) (.block 2 (.loop Zh6))) (.seq (.seq (.reg Zuw) (.block 4 (.seq (.reg Ztv) (.cond (.tmp 44) (.dreg Zt5) (.seq (.reg Zrs) (.cond (.tmp 57) (.reg Zq9) (.seq (.reg Zrq) (.cond (.tmp 63) (.seq (.reg Zsg) (.seq (.reg Zs4) (.exit 1))) (.skip))))))))) (.seq (.reg Ztg) (.reg Zsk)))))) (.reg Zml)))
abbrev Zrt:List SOp:=[(some 85,.move (.tmp 0),none),
 (some 86,.move (.tmp 0),none),
 (some 87,.nilCheck (.tmp 86),none),
 (some 88,.fieldAddr 107 (.tmp 87) 0,none),
 (some 89,.load 33 (.tmp 88),none),
 (some 90,.move (.tmp 6),none),
 (some 91,.slice 33 (.tmp 89) none (some (.tmp 90)) none,none),
 (some 92,.nilCheck (.tmp 85),none),
 (some 93,.fieldAddr 107 (.tmp 92) 0,none),
 (none,.store 33 (.tmp 93) (.tmp 91),none)]
abbrev S63:SCode:=.seq (.reg Zyo) (.seq (.reg Zyd) (.seq (.seq (.reg Zxr) (.block 0 (.loop Zkq))) (.reg Zrt)))
theorem Z67:Zh tab 63 (Tryz.f63.body.getD .skip)=S63:=by kernel_rfl
theorem wf63 {xs:List V} {H:Hp} {Q:V->Hp->Prop} (h:WC tab S63 (frame xs 0 .nil) H (resQ tab [] Q)):WF tab 63 xs H Q:=WF.of_slim (T:=tab) (f:=63) rfl fn63 rfl Z67 rfl h
abbrev Yel:List SOp:=[(some 3,.box 35 (.tmp 1),none)]
abbrev Yd9:List SOp:=[(some 8,.fieldAddr 35 (.tmp 3) 0,none),
 (some 9,.load 32 (.tmp 8),none)]
abbrev Yca:List SOp:=[(some 11,.binOp .eql 32 (.tmp 9) (.const (.int .i64 5)) 32,none),
 (some 10,.assign (.tmp 11),none)]
abbrev Yfl:List SOp:=[(some 12,.move (.tmp 0),none),
 (some 13,.fieldAddr 35 (.tmp 3) 2,none),
 (some 14,.load 9 (.tmp 13),none),
 (some 15,.call ⟨.value (.func 95),#[(.tmp 12),(.tmp 14)],#[105,9]⟩,none)]
abbrev Z7q:List SOp:=[(some 17,.binOp .eql 32 (.tmp 9) (.const (.int .i64 17)) 32,none),
 (some 16,.assign (.tmp 17),none)]
abbrev Z7g:List SOp:=[(some 18,.load 35 (.tmp 3),none),
 (some 19,.call ⟨.value (.func 35),#[(.tmp 18)],#[35]⟩,none),
 (some 20,.call ⟨.builtin .len,#[(.tmp 19)],#[33]⟩,none),
 (some 21,.move (.const (.int .i64 0)),none)]
abbrev Z8g:List SOp:=[(some 22,.binOp .lss 3 (.tmp 21) (.tmp 20) 3,none)]
abbrev Ycw:List SOp:=[(some 23,.indexAddr 33 (.tmp 19) (.tmp 21),none),
 (some 24,.load 9 (.tmp 23),none),
 (some 5,.assign (.tmp 24),none)]
abbrev Yd3:List SOp:=[(some 25,.move (.tmp 0),none),
 (some 26,.move (.tmp 5),none),
 (some 27,.call ⟨.value (.func 95),#[(.tmp 25),(.tmp 26)],#[105,9]⟩,none)]
abbrev Z7l:List SOp:=[(some 28,.binOp .add 3 (.tmp 21) (.const (.int .i64 1)) 3,none),
 (some 21,.move (.tmp 28),none)]
def Zkv:SCode:=.seq (.reg Z8g) (.seq (.cond (.tmp 22) (.skip) (.exit 1)) (.seq (.block 2 (.seq (.reg Ycw) (.reg Yd3))) (.reg Z7l)))
abbrev Z3d:List SOp:=[(some 29,.fieldAddr 35 (.tmp 3) 3,none),
 (some 30,.load 28 (.tmp 29),none),
 (some 31,.call ⟨.builtin .len,#[(.tmp 30)],#[28]⟩,none),
 (some 32,.move (.const (.int .i64 0)),none)]
abbrev Z6t:List SOp:=[(some 33,.binOp .lss 3 (.tmp 32) (.tmp 31) 3,none)]
abbrev Z2x:List SOp:=[(some 34,.indexAddr 28 (.tmp 30) (.tmp 32),none),
 (some 35,.load 35 (.tmp 34),none),
 (some 7,.alloc 35,none),
 (none,.store 35 (.tmp 7) (.tmp 35),none)]
abbrev Z5d:List SOp:=[(some 36,.move (.tmp 0),none),
 (some 37,.load 35 (.tmp 7),none),
 (some 38,.call ⟨.value (.func 94),#[(.tmp 36),(.tmp 37)],#[105,35]⟩,none)]
abbrev Z46:List SOp:=[(some 39,.binOp .add 3 (.tmp 32) (.const (.int .i64 1)) 3,none),
 (some 32,.move (.tmp 39),none)]
def Zhj:SCode:=.seq (.reg Z6t) (.seq (.cond (.tmp 33) (.skip) (.exit 3)) (.seq (.block 4 (.seq (.reg Z2x) (.reg Z5d))) (.reg Z46)))
abbrev S94:SCode:=.seq (.reg Yel) (.seq (.seq (.reg Yd9) (.block 0 (.seq (.reg Yca) (.cond (.tmp 10) (.reg Yfl) (.seq (.reg Z7q) (.cond (.tmp 16) (.seq (.reg Z7g) (.block 1 (.loop Zkv))) (.skip))))))) (.seq (.reg Z3d) (.block 3 (.loop Zhj))))
theorem Z6f:Zh tab 94 (Tryz.f94.body.getD .skip)=S94:=by kernel_rfl
theorem wf94 {xs:List V} {H:Hp} {Q:V->Hp->Prop} (h:WC tab S94 (frame xs 0 .nil) H (resQ tab [] Q)):WF tab 94 xs H Q:=WF.of_slim (T:=tab) (f:=94) rfl fn94 rfl Z6f rfl h
abbrev Yev:List SOp:=[(some 4,.move (.tmp 0),none),
 (some 5,.nilCheck (.tmp 4),none),
 (some 6,.fieldAddr 107 (.tmp 5) 0,none),
 (some 7,.load 33 (.tmp 6),none),
 (some 8,.move (.tmp 1),none),
 (some 9,.call ⟨.value (.func 139),#[(.tmp 7),(.tmp 8)],#[33,9]⟩,none),
 (some 10,.unOp .not 4 (.tmp 9),none),
 (some 11,.move (.tmp 10),none),
 (some 12,.move (.tmp 0),some (some 11,true)),
 (some 13,.nilCheck (.tmp 12),some (some 11,true)),
 (some 14,.fieldAddr 107 (.tmp 13) 1,some (some 11,true)),
 (some 15,.load 33 (.tmp 14),some (some 11,true)),
 (some 16,.move (.tmp 1),some (some 11,true)),
 (some 17,.call ⟨.value (.func 139),#[(.tmp 15),(.tmp 16)],#[33,9]⟩,some (some 11,true)),
 (some 18,.unOp .not 4 (.tmp 17),some (some 11,true)),
 (some 19,.pick (.tmp 11) (.tmp 18) (.const (.bool false)),none)]
abbrev Z83:List SOp:=[(some 20,.move (.tmp 0),none),
 (some 21,.move (.tmp 0),none),
 (some 22,.nilCheck (.tmp 21),none),
 (some 23,.fieldAddr 107 (.tmp 22) 1,none),
 (some 24,.load 33 (.tmp 23),none),
 (some 25,.move (.tmp 1),none),
 (some 26,.buildSlice 33 1 #[(0,(.tmp 25))],none),
 (some 27,.call ⟨.builtin .append,#[(.tmp 24),(.tmp 26)],#[33,33]⟩,none),
 (some 28,.nilCheck (.tmp 20),none),
 (some 29,.fieldAddr 107 (.tmp 28) 1,none),
 (none,.store 33 (.tmp 29) (.tmp 27),none)]
abbrev S95:SCode:=.seq (.reg Yev) (.cond (.tmp 19) (.reg Z83) (.skip))
theorem Z5n:Zh tab 95 (Tryz.f95.body.getD .skip)=S95:=by kernel_rfl
theorem wf95 {xs:List V} {H:Hp} {Q:V->Hp->Prop} (h:WC tab S95 (frame xs 0 .nil) H (resQ tab [] Q)):WF tab 95 xs H Q:=WF.of_slim (T:=tab) (f:=95) rfl fn95 rfl Z5n rfl h
abbrev Yde:List SOp:=[(some 1,.box 35 (.tmp 0),none),
 (some 2,.assign (.const (.slice none 0 0)),none)]
abbrev Yez:List SOp:=[(some 3,.alloc 33,none)]
abbrev Ybd:List SOp:=[(some 4,.fieldAddr 35 (.tmp 1) 5,none),
 (some 5,.load 24 (.tmp 4),none),
 (some 6,.fieldAddr 35 (.tmp 1) 4,none),
 (some 7,.load 33 (.tmp 6),none),
 (some 8,.call ⟨.value (.func 64),#[(.tmp 5),(.tmp 7),(.tmp 3)],#[24,33,110]⟩,none)]
abbrev Z8b:List SOp:=[(some 9,.load 33 (.tmp 3),none),
 (some 2,.assign (.tmp 9),none)]
abbrev S36:SCode:=.seq (.reg Yde) (.seq (.reg Yez) (.seq (.reg Ybd) (.seq (.reg Z8b) (.ret))))
theorem Z57:Zh tab 36 (Tryz.f36.body.getD .skip)=S36:=by kernel_rfl
theorem wf36 {xs:List V} {H:Hp} {Q:V->Hp->Prop} (h:WC tab S36 (frame xs 0 .nil) H (resQ tab [.tmp 2] Q)):WF tab 36 xs H Q:=WF.of_slim (T:=tab) (f:=36) rfl fn36 rfl Z57 rfl h
abbrev Ybh:List SOp:=[(some 11,.move (.tmp 1),none),
 (some 12,.call ⟨.value (.func 96),#[(.tmp 11)],#[33]⟩,none),
 (some 1,.assign (.tmp 12),none)]
abbrev Yex:List SOp:=[(some 13,.move (.tmp 0),none),
 (some 14,.call ⟨.builtin .len,#[(.tmp 13)],#[24]⟩,none),
 (some 15,.move (.const (.int .i64 0)),none)]
abbrev Zyb:List SOp:=[(some 16,.binOp .lss 3 (.tmp 15) (.tmp 14) 3,none)]
abbrev Zxl:List SOp:=[(some 17,.indexAddr 24 (.tmp 13) (.tmp 15),none),
 (some 18,.load 30 (.tmp 17),none),
 (some 7,.alloc 30,none),
 (none,.store 30 (.tmp 7) (.tmp 18),none)]
abbrev Zxf:List SOp:=[(some 19,.fieldAddr 30 (.tmp 7) 2,none),
 (some 20,.load 28 (.tmp 19),none),
 (some 21,.call ⟨.builtin .len,#[(.tmp 20)],#[28]⟩,none),
 (some 22,.move (.const (.int .i64 0)),none)]
abbrev Yga:List SOp:=[(some 23,.binOp .lss 3 (.tmp 22) (.tmp 21) 3,none)]
abbrev Ydb:List SOp:=[(some 24,.indexAddr 28 (.tmp 20) (.tmp 22),none),
 (some 25,.load 35 (.tmp 24),none),
 (some 9,.alloc 35,none),
 (none,.store 35 (.tmp 9) (.tmp 25),none)]
abbrev Ye7:List SOp:=[(some 26,.load 35 (.tmp 9),none),
 (some 27,.move (.tmp 1),none),
 (some 28,.move (.tmp 2),none),
 (some 29,.call ⟨.value (.func 97),#[(.tmp 26),(.tmp 27),(.tmp 28)],#[35,33,110]⟩,none)]
abbrev Ycf:List SOp:=[(some 30,.binOp .add 3 (.tmp 22) (.const (.int .i64 1)) 3,none),
 (some 22,.move (.tmp 30),none)]
def Zhg:SCode:=.seq (.reg Yga) (.seq (.cond (.tmp 23) (.skip) (.exit 2)) (.seq (.block 3 (.seq (.reg Ydb) (.reg Ye7))) (.reg Ycf)))
abbrev Zxk:List SOp:=[(some 31,.fieldAddr 30 (.tmp 7) 0,none),
 (some 32,.load 27 (.tmp 31),none)]
abbrev Zt6:List SOp:=[(some 34,.binOp .eql 27 (.tmp 32) (.const (.int .i64 0)) 27,none),
 (some 33,.assign (.tmp 34),none)]
abbrev Zqj:List SOp:=[(some 35,.move (.tmp 1),none),
 (some 36,.fieldAddr 30 (.tmp 7) 1,none),
 (some 37,.load 9 (.tmp 36),none),
 (some 38,.buildSlice 33 1 #[(0,(.tmp 37))],none),
 (some 39,.call ⟨.builtin .append,#[(.tmp 35),(.tmp 38)],#[33,33]⟩,none),
 (some 1,.assign (.tmp 39),none)]
abbrev Zrb:List SOp:=[(some 41,.binOp .eql 27 (.tmp 32) (.const (.int .i64 1)) 27,none),
 (some 40,.assign (.tmp 41),none)]
abbrev Zuc:List SOp:=[(some 42,.fieldAddr 30 (.tmp 7) 1,none),
 (some 43,.load 9 (.tmp 42),none),
 (some 44,.move (.tmp 1),none),
 (some 45,.move (.tmp 2),none),
 (some 46,.call ⟨.value (.func 98),#[(.tmp 43),(.tmp 44),(.tmp 45)],#[9,33,110]⟩,none)]
abbrev Zuy:List SOp:=[(some 47,.fieldAddr 30 (.tmp 7) 3,none),
 (some 48,.load 24 (.tmp 47),none),
 (some 49,.move (.tmp 1),none),
 (some 50,.move (.tmp 2),none),
 (some 51,.call ⟨.value (.func 64),#[(.tmp 48),(.tmp 49),(.tmp 50)],#[24,33,110]⟩,none)]
abbrev Ztt:List SOp:=[(some 52,.move (.tmp 1),none),
 (some 10,.assign (.tmp 52),none)]
abbrev Zrh:List SOp:=[(some 53,.fieldAddr 30 (.tmp 7) 0,none),
 (some 54,.load 27 (.tmp 53),none),
 (some 55,.binOp .eql 27 (.tmp 54) (.const (.int .i64 7)) 27,none)]
abbrev Zut:List (SOp×Nat):=[((some 56,.move (.tmp 1),none),0),
 ((some 57,.call ⟨.value (.func 96),#[(.tmp 56)],#[33]⟩,none),0),
 ((some 58,.fieldAddr 30 (.tmp 7) 1,none),1),
 ((some 59,.load 9 (.tmp 58),none),1),
 ((some 60,.buildSlice 33 1 #[(0,(.tmp 59))],none),1),
 ((some 61,.call ⟨.builtin .append,#[(.tmp 57),(.tmp 60)],#[33,33]⟩,none),0),
 ((some 10,.assign (.tmp 61),none),0)]
abbrev Zsv:List SOp:=[(some 62,.fieldAddr 30 (.tmp 7) 4,none),
 (some 63,.load 24 (.tmp 62),none),
 (some 64,.move (.tmp 10),none),
 (some 65,.move (.tmp 2),none),
 (some 66,.call ⟨.value (.func 64),#[(.tmp 63),(.tmp 64),(.tmp 65)],#[24,33,110]⟩,none)]
abbrev Zl9:List SOp:=[(some 67,.binOp .add 3 (.tmp 15) (.const (.int .i64 1)) 3,none),
 (some 15,.move (.tmp 67),none)]
def Zpd:SCode:=.seq (.reg Zyb) (.seq (.cond (.tmp 16) (.skip) (.exit 0)) (.seq (.block 1 (.seq (.reg Zxl) (.seq (.seq (.reg Zxf) (.block 2 (.loop Zhg))) (.seq (.seq (.reg Zxk) (.block 4 (.seq (.reg Zt6) (.cond (.tmp 33) (.reg Zqj) (.seq (.reg Zrb) (.cond (.tmp 40) (.reg Zuc) (.skip))))))) (.seq (.reg Zuy) (.seq (.reg Ztt) (.seq (.seq (.reg Zrh) (.cond (.tmp 55) (.dreg Zut) (.skip))) (.reg Zsv)))))))) (.reg Zl9)))
abbrev S64:SCode:=.seq (.reg Ybh) (.seq (.reg Yex) (.block 0 (.loop Zpd)))
theorem Z5a:Zh tab 64 (Tryz.f64.body.getD .skip)=S64:=by kernel_rfl
theorem wf64 {xs:List V} {H:Hp} {Q:V->Hp->Prop} (h:WC tab S64 (frame xs 0 .nil) H (resQ tab [] Q)):WF tab 64 xs H Q:=WF.of_slim (T:=tab) (f:=64) rfl fn64 rfl Z5a rfl h
abbrev Yfx:List SOp:=[(some 3,.box 35 (.tmp 0),none)]
abbrev Yaq:List SOp:=[(some 10,.fieldAddr 35 (.tmp 3) 0,none),
 (some 11,.load 32 (.tmp 10),none),
 (some 12,.binOp .eql 32 (.tmp 11) (.const (.int .i64 5)) 32,none)]
abbrev Z9g:List SOp:=[(some 13,.fieldAddr 35 (.tmp 3) 2,none),
 (some 14,.load 9 (.tmp 13),none),
 (some 15,.move (.tmp 1),none),
 (some 16,.move (.tmp 2),none),
 (some 17,.call ⟨.value (.func 98),#[(.tmp 14),(.tmp 15),(.tmp 16)],#[9,33,110]⟩,none)]
abbrev Yds:List SOp:=[(some 18,.fieldAddr 35 (.tmp 3) 0,none),
 (some 19,.load 32 (.tmp 18),none),
 (some 20,.binOp .eql 32 (.tmp 19) (.const (.int .i64 17)) 32,none)]
abbrev Z8p:List SOp:=[(some 21,.load 35 (.tmp 3),none),
 (some 22,.call ⟨.value (.func 36),#[(.tmp 21)],#[35]⟩,none),
 (some 23,.call ⟨.builtin .len,#[(.tmp 22)],#[33]⟩,none),
 (some 24,.move (.const (.int .i64 0)),none)]
abbrev Z9e:List SOp:=[(some 25,.binOp .lss 3 (.tmp 24) (.tmp 23) 3,none)]
abbrev Ybp:List SOp:=[(some 26,.indexAddr 33 (.tmp 22) (.tmp 24),none),
 (some 27,.load 9 (.tmp 26),none),
 (some 7,.assign (.tmp 27),none)]
abbrev Ydt:List SOp:=[(some 28,.move (.tmp 7),none),
 (some 29,.move (.tmp 1),none),
 (some 30,.move (.tmp 2),none),
 (some 31,.call ⟨.value (.func 98),#[(.tmp 28),(.tmp 29),(.tmp 30)],#[9,33,110]⟩,none)]
abbrev Ydn:List SOp:=[(some 32,.binOp .add 3 (.tmp 24) (.const (.int .i64 1)) 3,none),
 (some 24,.move (.tmp 32),none)]
def Zki:SCode:=.seq (.reg Z9e) (.seq (.cond (.tmp 25) (.skip) (.exit 0)) (.seq (.block 1 (.seq (.reg Ybp) (.reg Ydt))) (.reg Ydn)))
abbrev Yaz:List SOp:=[(some 33,.fieldAddr 35 (.tmp 3) 3,none),
 (some 34,.load 28 (.tmp 33),none),
 (some 35,.call ⟨.builtin .len,#[(.tmp 34)],#[28]⟩,none),
 (some 36,.move (.const (.int .i64 0)),none)]
abbrev Z2g:List SOp:=[(some 37,.binOp .lss 3 (.tmp 36) (.tmp 35) 3,none)]
abbrev Z4m:List SOp:=[(some 38,.indexAddr 28 (.tmp 34) (.tmp 36),none),
 (some 39,.load 35 (.tmp 38),none),
 (some 9,.alloc 35,none),
 (none,.store 35 (.tmp 9) (.tmp 39),none)]
abbrev Z6q:List SOp:=[(some 40,.load 35 (.tmp 9),none),
 (some 41,.move (.tmp 1),none),
 (some 42,.move (.tmp 2),none),
 (some 43,.call ⟨.value (.func 97),#[(.tmp 40),(.tmp 41),(.tmp 42)],#[35,33,110]⟩,none)]
abbrev Z48:List SOp:=[(some 44,.binOp .add 3 (.tmp 36) (.const (.int .i64 1)) 3,none),
 (some 36,.move (.tmp 44),none)]
def Zid:SCode:=.seq (.reg Z2g) (.seq (.cond (.tmp 37) (.skip) (.exit 2)) (.seq (.block 3 (.seq (.reg Z4m) (.reg Z6q))) (.reg Z48)))
abbrev S97:SCode:=.seq (.reg Yfx) (.seq (.seq (.reg Yaq) (.cond (.tmp 12) (.reg Z9g) (.skip))) (.seq (.seq (.reg Yds) (.cond (.tmp 20) (.seq (.reg Z8p) (.block 0 (.loop Zki))) (.skip))) (.seq (.reg Yaz) (.block 2 (.loop Zid)))))
theorem Z3m:Zh tab 97 (Tryz.f97.body.getD .skip)=S97:=by kernel_rfl
theorem wf97 {xs:List V} {H:Hp} {Q:V->Hp->Prop} (h:WC tab S97 (frame xs 0 .nil) H (resQ tab [] Q)):WF tab 97 xs H Q:=WF.of_slim (T:=tab) (f:=97) rfl fn97 rfl Z3m rfl h
abbrev Yef:List SOp:=[(some 6,.move (.tmp 1),none),
 (some 7,.move (.tmp 0),none),
 (some 8,.call ⟨.value (.func 139),#[(.tmp 6),(.tmp 7)],#[33,9]⟩,none),
 (some 9,.unOp .not 4 (.tmp 8),none),
 (some 10,.move (.tmp 9),none),
 (some 11,.move (.tmp 2),some (some 10,true)),
 (some 12,.nilCheck (.tmp 11),some (some 10,true)),
 (some 13,.load 33 (.tmp 12),some (some 10,true)),
 (some 14,.move (.tmp 0),some (some 10,true)),
 (some 15,.call ⟨.value (.func 139),#[(.tmp 13),(.tmp 14)],#[33,9]⟩,some (some 10,true)),
 (some 16,.unOp .not 4 (.tmp 15),some (some 10,true)),
 (some 17,.pick (.tmp 10) (.tmp 16) (.const (.bool false)),none)]
abbrev Z7e:List SOp:=[(some 18,.move (.tmp 2),none),
 (some 19,.move (.tmp 2),none),
 (some 20,.nilCheck (.tmp 19),none),
 (some 21,.load 33 (.tmp 20),none),
 (some 22,.move (.tmp 0),none),
 (some 23,.buildSlice 33 1 #[(0,(.tmp 22))],none),
 (some 24,.call ⟨.builtin .append,#[(.tmp 21),(.tmp 23)],#[33,33]⟩,none),
 (some 25,.nilCheck (.tmp 18),none),
 (none,.store 33 (.tmp 25) (.tmp 24),none)]
abbrev S98:SCode:=.seq (.reg Yef) (.cond (.tmp 17) (.reg Z7e) (.skip))
theorem Z4q:Zh tab 98 (Tryz.f98.body.getD .skip)=S98:=by kernel_rfl
theorem wf98 {xs:List V} {H:Hp} {Q:V->Hp->Prop} (h:WC tab S98 (frame xs 0 .nil) H (resQ tab [] Q)):WF tab 98 xs H Q:=WF.of_slim (T:=tab) (f:=98) rfl fn98 rfl Z4q rfl h
end Go.AM.YtlillgmgpmbfnaaGreatDoorT
namespace Go.AM.YtlillgmgpmbfnaaGreatDoorT
open Go Go.AM
end Go.AM.YtlillgmgpmbfnaaGreatDoorT
namespace Go.AM.YtlillgmgpmbfnaaGreatDoorT
open Go Go.AM Go.Proofs
set_option maxRecDepth 100000
abbrev Ye9:List SOp:=[(some 2,.assign (.const (.slice none 0 0)),none)]
abbrev Yek:List SOp:=[(some 5,.move (.tmp 0),none),
 (some 6,.move (.tmp 0),none),
 (some 7,.call ⟨.builtin .len,#[(.tmp 6)],#[22]⟩,none),
 (some 8,.binOp .mul 3 (.const (.int .i64 2)) (.tmp 7) 3,none),
 (some 9,.binOp .add 3 (.tmp 8) (.const (.int .i64 2)) 3,none),
 (some 10,.call ⟨.builtin .min,#[(.tmp 9),(.const (.int .i64 120))],#[3,3]⟩,none),
 (some 11,.build 67 #[(0,(.tmp 5)),(1,(.tmp 10))],none),
 (some 12,.box 67 (.tmp 11),none),
 (some 3,.assign (.tmp 12),none)]
abbrev Z78:List SOp:=[(some 4,.assign (.const (.slice none 0 0)),none)]
abbrev Z7a:List SOp:=[(some 13,.move (.tmp 3),none),
 (some 14,.nilCheck (.tmp 13),none),
 (some 15,.fieldAddr 67 (.tmp 14) 0,none),
 (some 16,.load 22 (.tmp 15),none),
 (some 17,.call ⟨.builtin .len,#[(.tmp 16)],#[22]⟩,none),
 (some 18,.binOp .gtr 3 (.tmp 17) (.const (.int .i64 0)) 3,none),
 (some 19,.move (.tmp 18),none),
 (some 20,.move (.tmp 3),some (some 19,true)),
 (some 21,.nilCheck (.tmp 20),some (some 19,true)),
 (some 22,.fieldAddr 67 (.tmp 21) 1,some (some 19,true)),
 (some 23,.load 3 (.tmp 22),some (some 19,true)),
 (some 24,.binOp .gtr 3 (.tmp 23) (.const (.int .i64 0)) 3,some (some 19,true)),
 (some 25,.pick (.tmp 19) (.tmp 24) (.const (.bool false)),none)]
abbrev Z9t:List SOp:=[(some 26,.move (.tmp 4),none),
 (some 27,.move (.tmp 3),none),
 (some 28,.call ⟨.value (.func 38),#[(.tmp 27),(.const (.int .i64 3))],#[65,3]⟩,none),
 (some 29,.buildSlice 24 1 #[(0,(.tmp 28))],none),
 (some 30,.call ⟨.builtin .append,#[(.tmp 26),(.tmp 29)],#[24,24]⟩,none),
 (some 4,.assign (.tmp 30),none)]
def Zx9:SCode:=.seq (.seq (.reg Z7a) (.cond (.tmp 25) (.skip) (.exit 0))) (.block 1 (.reg Z9t))
abbrev Yf7:List SOp:=[(some 31,.move (.tmp 4),none),
 (some 2,.assign (.tmp 31),none)]
abbrev S15:SCode:=.seq (.reg Ye9) (.seq (.reg Yek) (.seq (.reg Z78) (.seq (.block 0 (.loop Zx9)) (.seq (.reg Yf7) (.ret)))))
theorem Z3x:Zh tab 15 (Tryz.f15.body.getD .skip)=S15:=by kernel_rfl
theorem wf15 {xs:List V} {H:Hp} {Q:V->Hp->Prop} (h:WC tab S15 (frame xs 0 .nil) H (resQ tab [.tmp 2] Q)):WF tab 15 xs H Q:=WF.of_slim (T:=tab) (f:=15) rfl fn15 rfl Z3x rfl h
abbrev Yai:List SOp:=[(some 2,.assign (.const (.string ⟨#[]⟩)),none)]
abbrev Yge:List SOp:=[(some 3,.buildSlice 33 8 #[(0,(.const (.string ⟨#[0x61]⟩))),(1,(.const (.string ⟨#[0x62]⟩))),(2,(.const (.string ⟨#[0x63]⟩))),(3,(.const (.string ⟨#[0x64]⟩))),(4,(.const (.string ⟨#[0x66]⟩))),(5,(.const (.string ⟨#[0x6c,0x65,0x6e]⟩))),(6,(.const (.string ⟨#[0x78,0x31]⟩))),(7,(.const (.string ⟨#[0x5f,0x79]⟩)))],none),
 (some 4,.move (.tmp 0),none),
 (some 5,.binOp .rem 5 (.tmp 4) (.const (.int .u8 8)) 5,none),
 (some 6,.indexAddr 33 (.tmp 3) (.tmp 5),none),
 (some 7,.load 9 (.tmp 6),none),
 (some 2,.assign (.tmp 7),none)]
abbrev S25:SCode:=.seq (.reg Yai) (.seq (.reg Yge) (.ret))
theorem Z47:Zh tab 25 (Tryz.f25.body.getD .skip)=S25:=by kernel_rfl
theorem wf25 {xs:List V} {H:Hp} {Q:V->Hp->Prop} (h:WC tab S25 (frame xs 0 .nil) H (resQ tab [.tmp 2] Q)):WF tab 25 xs H Q:=WF.of_slim (T:=tab) (f:=25) rfl fn25 rfl Z47 rfl h
end Go.AM.YtlillgmgpmbfnaaGreatDoorT
namespace Go.AM.YtlillgmgpmbfnaaGreatDoorT
open Go Go.AM
end Go.AM.YtlillgmgpmbfnaaGreatDoorT
set_option maxRecDepth 100000
namespace Go.AM.YtlillgmgpmbfnaaGreatDoorT
open Go Go.AM Go.Proofs
theorem Z5m {K:Nat->Prop} {H:Hp}:Z0 K H [] .nils:=.inl ⟨.inl rfl,rfl⟩
theorem Zzw {K:Nat->Prop} {H:Hp}:Zk K H [] .nils:=.inl ⟨.inl rfl,rfl⟩
theorem Zvf:∀ k:Nat,k < 8->([.str [97],.str [98],.str [99],.str [100],.str [102],.str [108,101,110],.str [120,49],.str [95,121]]:List V)[k]? = some (.str ((nameL[k]?).getD [])):=by
 intro k hk
 match k,hk with
 | 0,_ | 1,_ | 2,_ | 3,_ | 4,_ | 5,_ | 6,_ | 7,_=>rfl
theorem Z0z {H:Hp} (hs:H.stale=[]) (n:Nat):WF tab 25 [.int .u8 n] H fun v H'=>v = .str (Za9 n)/\Ext noX H H':=by
 refine wf25 (Zs _ ?_)
 have ht:(n:Int).tmod 8=((n % 8:Nat):Int):=by rw [Int.tmod_eq_emod_of_nonneg (by omega)];omega
 have hk:n % 8 < 8:=Nat.mod_lt _ (by omega)
 have ha:=Zvf _ hk
 have hlt:((n % 8:Nat):Int) < 8:=by omega
 have e0:∀ o,Ext noX H (H.new o):=fun o=>Ext.new hs o
 unfold Za9
 generalize n % 8=k at *
 simp [hs,ht,hlt,ha]
 exact e0 _
theorem Zvd {H:Hp} (hs:H.stale=[]):WF tab 15 [.nils] H fun w H'=>Zk (since H H') H' [] w/\Ext noX H H':=by
 refine wf15 (Zs _ ?_)
 have w0:wr .i64 0=0:=by decide
 have w2:wr .i64 2=2:=by decide
 simp [hs,w0,w2]
 have g:(H.new (.row 67 2 false [.nils,.int .i64 2])).get H.next=some (.row 67 2 false [.nils,.int .i64 2]):=by simp
 have X:Ext noX H (H.new (.row 67 2 false [.nils,.int .i64 2])):=Ext.new hs _
 generalize H.new (.row 67 2 false [.nils,.int .i64 2])=H1 at *
 have s1:=X.st
 refine Xh (fun k F H'=>H' = H1/\F.get 3=some (.ptr H.next 0)/\F.get 4=some .nils) (m:=0) ⟨rfl,by simp,by simp⟩ ?_
 rintro k F _ ⟨rfl,f3,f4⟩
 simp [Zx9,f3,f4,s1,g]
 exact ⟨.inl ⟨.inl rfl,rfl⟩,X⟩
end Go.AM.YtlillgmgpmbfnaaGreatDoorT
set_option maxRecDepth 100000
namespace Go.AM.YtlillgmgpmbfnaaGreatDoorT
open Go Go.AM Go.Proofs
theorem Zu9 {K:Nat->Prop} {H:Hp} {l:Ts} {v:V} {name:List UInt8} (hst:H.stale=[]) (h:Z0 K H l v) (hl:l.length<=1099511627776):WF tab 93 [v,.str name] H fun w H'=>H' = H/\∃ k:Int,w = .int .i64 k/\(0<=k ↔ name∈l):=by
 refine wf93 (Zs _ ?_)
 have h1:=h.len 9
 have h2:=h.one;have h3:=h.cells
 simp [hst,h1,h2,h3]
 refine Xh (fun k F H'=>∃ i,i+k=l.length/\H' = H/\name∉l.take i/\F.get 0=some v/\F.get 1=some (.str name)/\F.get 7=some (.int .i64 l.length)/\F.get 8=some (.int .i64 i)) (m:=l.length) ⟨0,by omega,rfl,by simp,by simp,by simp,by simp,by simp⟩ ?_
 rintro k F _ ⟨i,hi,rfl,hn,f0,f1,f7,f8⟩
 by_cases hlt:i < l.length
 ·have hlt' : (i:Int) < (l.length:Int):=by omega
  obtain ⟨b,off,cap,e,ro,cells,rfl,g1,g2,g3,g4,g5⟩:=Z0.at_ h hlt
  have hw:wr .i64 ((i:Int)+1)=((i+1:Nat):Int):=by rw [Wf (by omega) (by omega)];omega
  by_cases he:name=l[i]
  ·simp [Zhc,f0,f1,f7,f8,hst,hlt,hlt',g1,g5,<- he]
   rw [he];exact List.getElem_mem hlt
  ·have he' : (name==l[i])=false:=beq_false_of_ne he
   simp [Zhc,f0,f1,f7,f8,hst,hlt,hlt',g1,g5,he',hw]
   have hn1:name∉l.take (i+1):=by
    intro h
    rw [List.take_succ_eq_append_getElem hlt] at h
    rcases List.mem_append.1 h with h | h
    ·exact hn h
    ·exact he (List.mem_singleton.1 h)
   exact ⟨k-1,by omega,i+1,by omega,hn1,by omega⟩
 ·have hlt' : ¬ (i:Int) < (l.length:Int):=by omega
  rw [List.take_of_length_le (by omega)] at hn
  simp [Zhc,f0,f1,f7,f8,hst,hlt,hlt',hn]
theorem Zai {K:Nat->Prop} {H:Hp} {l:Ts} {v:V} {name:List UInt8} (hst:H.stale=[]) (h:Z0 K H l v) (hl:l.length<=1099511627776):WF tab 139 [v,.str name] H fun w H'=>H' = H/\w = .bool (decide (name∈l)):=by
 refine Yd0 (Zs _ ?_)
 have h2:=h.one;have h3:=h.cells
 simp [hst,h2,h3]
 refine (Zu9 hst h hl).mono ?_
 rintro w H' ⟨rfl,k,rfl,hk⟩
 simp [hst,hk]
end Go.AM.YtlillgmgpmbfnaaGreatDoorT
set_option maxRecDepth 100000
namespace Go.AM.YtlillgmgpmbfnaaGreatDoorT
open Go Go.AM Go.Proofs
structure FinAt (H:Hp) (fr:Nat) (own out:Ts) (vo vs:V):Prop where
 row:H.get fr=some (.row 107 2 false [vo,vs])
 lt:fr < H.next
 so:SlAt H 9 1 vo own.length (own.map .str)
 ss:SlAt H 9 1 vs out.length (out.map .str)
 ro:∀ b∈Za vo,b < H.next/\b≠fr/\b∉Za vs
 rs:∀ b∈Za vs,b < H.next/\b≠fr
structure FKeep (H:Hp) (fr:Nat) (vo vs:V) (H' : Hp) (vo' vs' : V):Prop where
 st:H'.stale=[]
 le:H.next<=H'.next
 get:∀ b,b < H.next->b≠fr->b∉Za vo->b∉Za vs->H'.get b=H.get b
 own:∀ b,b∈Za vo'\/b∈Za vs'->b∈Za vo\/b∈Za vs\/H.next<=b
theorem FKeep.refl {H:Hp} {fr:Nat} {vo vs:V} (h:H.stale=[]):FKeep H fr vo vs H vo vs:=⟨h,Nat.le_refl _,fun _ _ _ _ _=>rfl,fun b h=>h.elim .inl fun h=>.inr (.inl h)⟩
theorem FKeep.trans {H H1 H2:Hp} {fr:Nat} {vo vs vo1 vs1 vo2 vs2:V} (h:FKeep H fr vo vs H1 vo1 vs1) (h' : FKeep H1 fr vo1 vs1 H2 vo2 vs2):FKeep H fr vo vs H2 vo2 vs2:=by
 have h1:=h.le;have h2:=h'.le
 refine ⟨h'.st,by omega,fun b hb hf ho hs=>?_,fun b hb=>?_⟩
 ·rw [h'.get b (by omega) hf (fun hx=>?_) (fun hx=>?_)]
  ·exact h.get b hb hf ho hs
  ·rcases h.own b (.inl hx) with g | g | g
   ·exact ho g
   ·exact hs g
   ·omega
  ·rcases h.own b (.inr hx) with g | g | g
   ·exact ho g
   ·exact hs g
   ·omega
 ·rcases h'.own b hb with g | g | g
  ·exact h.own b (.inl g)
  ·exact h.own b (.inr g)
  ·exact .inr (.inr (by omega))
theorem FinAt.bump {H:Hp} {fr:Nat} {own out:Ts} {vo vs:V} (h:FinAt H fr own out vo vs):FinAt H.bump fr own out vo vs :=
 ⟨h.row,Nat.lt_succ_of_lt h.lt,h.so.of_get fun _ _=>rfl,h.ss.of_get fun _ _=>rfl,fun b hb=>⟨Nat.lt_succ_of_lt (h.ro b hb).1,(h.ro b hb).2⟩,fun b hb=>⟨Nat.lt_succ_of_lt (h.rs b hb).1,(h.rs b hb).2⟩⟩
theorem FinAt.keep {H H' : Hp} {fr:Nat} {own out:Ts} {vo vs:V} (h:FinAt H fr own out vo vs) (hle:H.next<=H'.next) (hg:∀ b,b < H.next->H'.get b=H.get b):FinAt H' fr own out vo vs :=
 ⟨by rw [hg fr h.lt];exact h.row,Nat.lt_of_lt_of_le h.lt hle,h.so.of_get fun b hb=>hg b (h.ro b hb).1,h.ss.of_get fun b hb=>hg b (h.rs b hb).1,fun b hb=>⟨Nat.lt_of_lt_of_le (h.ro b hb).1 hle,(h.ro b hb).2⟩,fun b hb=>⟨Nat.lt_of_lt_of_le (h.rs b hb).1 hle,(h.rs b hb).2⟩⟩
theorem Zi2 {H:Hp} {v:V} {l:Ts} (h:SlAt H 9 1 v l.length (l.map .str)) (hb:∀ b∈Za v,b < H.next):Z0 (fun _=>True) H l v:=Z0.of_slAt h (fun b hb'=>⟨trivial,hb b hb'⟩) rfl
theorem FinAt.app_s {H H3 H4:Hp} {fr:Nat} {own out ns:Ts} {vo vs v' : V} {k:Nat} (hF:FinAt H fr own out vo vs) (hst:H.stale=[]) (hS:SlAt H3 9 1 v' (out.length+k) (out.map .str++ns.map .str)) (hk:ns.length=k) (hA:AppR H vs H3 v') (hs4:H4.stale=[]) (hn4:H3.next<=H4.next) (hr4:H4.get fr=some (.row 107 2 false [vo,v'])) (hg:∀ b,b≠fr->H4.get b=H3.flush.get b) :
  FinAt H4 fr own (out++ns) vo v'/\FKeep H fr vo vs H4 vo v':=by
 obtain ⟨k1,k2,k3,k4,k5⟩:=Wa hst hS hA
 rw [Hp.next_flush] at k4 k5
 have hlt:=hF.lt
 have hn:∀ b∈Za v',b < H4.next/\b≠fr:=fun b hb=>by
  obtain ⟨g1,g2⟩:=k5 b hb
  refine ⟨by omega,?_⟩
  rcases g2 with g2 | g2
  ·exact (hF.rs b g2).2
  ·omega
 have ko:∀ b∈Za vo,H4.get b=H.get b:=fun b hb=>by
  have:=hF.ro b hb
  rw [hg b this.2.1,k2 b this.1 this.2.2]
 refine ⟨⟨hr4,by omega,hF.so.of_get ko,?_,fun b hb=>?_,hn⟩,⟨hs4,by omega,fun b hb hf ho hs=>by rw [hg b hf,k2 b hb hs],fun b hb=>?_⟩⟩
 ·rw [List.length_append,List.map_append,hk]
  exact k1.of_get fun b hb=>hg b (hn b hb).2
 ·have:=hF.ro b hb
  refine ⟨by omega,this.2.1,fun h=>?_⟩
  rcases (k5 b h).2 with g | g
  ·exact this.2.2 g
  ·omega
 ·rcases hb with h | h
  ·exact .inl h
  ·exact .inr (k5 b h).2
theorem FinAt.app_o {H H3 H4:Hp} {fr:Nat} {own out ns:Ts} {vo vs v' : V} {k:Nat} (hF:FinAt H fr own out vo vs) (hst:H.stale=[]) (hS:SlAt H3 9 1 v' (own.length+k) (own.map .str++ns.map .str)) (hk:ns.length=k) (hA:AppR H vo H3 v') (hs4:H4.stale=[]) (hn4:H3.next<=H4.next) (hr4:H4.get fr=some (.row 107 2 false [v',vs])) (hg:∀ b,b≠fr->H4.get b=H3.flush.get b) :
  FinAt H4 fr (own++ns) out v' vs/\FKeep H fr vo vs H4 v' vs:=by
 obtain ⟨k1,k2,k3,k4,k5⟩:=Wa hst hS hA
 rw [Hp.next_flush] at k4 k5
 have hlt:=hF.lt
 have hn:∀ b∈Za v',b < H4.next/\b≠fr/\b∉Za vs:=fun b hb=>by
  obtain ⟨g1,g2⟩:=k5 b hb
  rcases g2 with g2 | g2
  ·exact ⟨by omega,(hF.ro b g2).2⟩
  ·exact ⟨by omega,by omega,fun h=>by have:=(hF.rs b h).1;omega⟩
 have hso:∀ b∈Za vs,b∉Za vo:=fun b hb h=>(hF.ro b h).2.2 hb
 have ks:∀ b∈Za vs,H4.get b=H.get b:=fun b hb=>by
  have:=hF.rs b hb
  rw [hg b this.2,k2 b this.1 (hso b hb)]
 refine ⟨⟨hr4,by omega,?_,hF.ss.of_get ks,hn,fun b hb=>⟨by have:=(hF.rs b hb).1;omega,(hF.rs b hb).2⟩⟩,⟨hs4,by omega,fun b hb hf ho hs=>by rw [hg b hf,k2 b hb ho],fun b hb=>?_⟩⟩
 ·rw [List.length_append,List.map_append,hk]
  exact k1.of_get fun b hb=>hg b (hn b hb).2.1
 ·rcases hb with h | h
  ·rcases (k5 b h).2 with g | g
   ·exact .inl g
   ·exact .inr (.inr g)
  ·exact .inr (.inl h)
theorem Znc {H:Hp} {fr:Nat} {own out:Ts} {vo vs:V} {name:List UInt8} (hst:H.stale=[]) (hF:FinAt H fr own out vo vs) (hl:own.length<=1099511627776) (hl' : out.length<=1099511627776):WF tab 95 [.ptr fr 0,.str name] H fun _ H'=>∃ vs',FinAt H' fr own (useP own out name) vo vs'/\FKeep H fr vo vs H' vo vs':=by
 refine wf95 (Zs _ ?_)
 have hrow:=hF.row
 have c1:=hF.so.one;have c2:=hF.so.cells;have c3:=hF.ss.one;have c4:=hF.ss.cells
 simp [hst,hrow]
 refine (Zai hst (Zi2 hF.so fun b hb=>(hF.ro b hb).1) hl).mono ?_
 rintro w H1 ⟨hH1,rfl⟩
 have hH2:=hH1.symm
 subst hH2
 by_cases ho:name∈own
 ·simp [ho,hst,hrow]
  rw [show useP own out name=out by simp [useP,ho]]
  exact ⟨vs,hF,FKeep.refl hst⟩
 ·simp [ho,hst,hrow]
  refine (Zai hst (Zi2 hF.ss fun b hb=>(hF.rs b hb).1) hl').mono ?_
  rintro w H1 ⟨hH1,rfl⟩
  have hH2:=hH1.symm
  subst hH2
  by_cases hs:name∈out
  ·simp [hs,hst]
   rw [show useP own out name=out by simp [useP,hs]]
   exact ⟨vs,hF,FKeep.refl hst⟩
  ·simp [hs,hst,hrow]
   have hlt:=hF.lt
   have hu:useP own out name=out++[name]:=by simp [useP,ho,hs]
   refine Zag (H:=H) (e0:=9) (cells:=[.str name]) (by simp [Zb]) ty9 (by decide) (by simp) (by simp) hF.ss (fun b hb=>⟨(hF.rs b hb).1,by simp [hst]⟩) rfl (by show (out.length+1)*16<=_;omega) (by omega) (by simp [hst]) fun v' H3 hS hA=>?_
   obtain ⟨k1,k2⟩:=hA.keep fr hlt (fun h=>(hF.rs fr h).2 rfl) (by simp [hst])
   have c5:=hS.one;have c6:=hS.cells
   simp [k1,k2,hrow,c1,c5,c6]
   rw [hu]
   exact ⟨v',hF.app_s (ns:=[name]) (H3:=H3) (k:=1) hst hS rfl hA (by simp) (by simp) (by simp [Hp.get_put]) (fun b hb=>by simp [Hp.get_put,Zi hb])⟩
end Go.AM.YtlillgmgpmbfnaaGreatDoorT
set_option maxRecDepth 100000
namespace Go.AM.YtlillgmgpmbfnaaGreatDoorT
open Go Go.AM Go.Proofs
def Dj (K:Nat->Prop) (H:Hp) (fr:Nat) (vo vs:V):Prop:=∀ b,K b->b < H.next/\b≠fr/\b∉Za vo/\b∉Za vs
section
variable {K:Nat->Prop} {H H' : Hp} {fr:Nat} {vo vs vo' vs' : V}
theorem Dj.keep (h:Dj K H fr vo vs) (hk:FKeep H fr vo vs H' vo' vs'):Dj K H' fr vo' vs':=fun b hb=>by
 obtain ⟨h1,h2,h3,h4⟩:=h b hb
 have:=hk.le
 refine ⟨by omega,h2,fun hx=>?_,fun hx=>?_⟩
 ·rcases hk.own b (.inl hx) with g | g | g
  ·exact h3 g
  ·exact h4 g
  ·omega
 ·rcases hk.own b (.inr hx) with g | g | g
  ·exact h3 g
  ·exact h4 g
  ·omega
theorem Dj.stays (h:Dj K H fr vo vs) (hk:FKeep H fr vo vs H' vo' vs'):Stays K K H H':=⟨fun b hb _=>hb,fun b hb hx=>hk.get b hx (h b hb).2.1 (h b hb).2.2.1 (h b hb).2.2.2,hk.le⟩
theorem FKeep.news (hs:H'.stale=[]) (hl:H.next<=H'.next) (hg:∀ b,b < H.next->H'.get b=H.get b):FKeep H fr vo vs H' vo vs :=
 ⟨hs,hl,fun b hb _ _ _=>hg b hb,fun b hb=>hb.elim .inl fun h=>.inr (.inl h)⟩
end
def ExF (e:Tx):Prop:=∀ (H:Hp) (fr:Nat) (own out:Ts) (vo vs:V) (cs:List V) (K:Nat->Prop),H.stale=[]->FinAt H fr own out vo vs->Ze K H e cs->Dj K H fr vo vs->own.length+out.length+e.wt<=1099511627776 ->
 WF tab 94 [.ptr fr 0,.agg cs] H fun _ H'=>∃ vs',FinAt H' fr own (Xv e own out) vo vs'/\FKeep H fr vo vs H' vo vs'
def BlF (l:List Tx):Prop:=∀ (H:Hp) (fr:Nat) (own params out:Ts) (vo vs v va:V) (K:Nat->Prop),H.stale=[]->FinAt H fr own out vo vs->Zk K H l v->Z0 K H params va->Dj K H fr vo vs->own.length+params.length+out.length+wts l<=1099511627776 ->
 WF tab 63 [.ptr fr 0,v,va] H fun _ H'=>∃ vo' vs',FinAt H' fr own (freeB l (own++params) out) vo' vs'/\FKeep H fr vo vs H' vo' vs'
structure J78 (H0:Hp) (fr:Nat) (own out:Ts) (vo vs0 v:V) (parts:List Tx) (i:Nat) (vs:V) (F:Fr) (H:Hp):Prop where
 le:i<=parts.length
 fin:FinAt H fr own (freeEs (parts.take i) own out) vo vs
 keep:FKeep H0 fr vo vs0 H vo vs
 f0:F.get 0=some (.ptr fr 0)
 f30:F.get 30=some v
 f31:F.get 31=some (.int .i64 parts.length)
 f32:F.get 32=some (.int .i64 i)
theorem Zno {K:Nat->Prop} {H0:Hp} {fr:Nat} {own out:Ts} {vo vs0 v:V} {parts:List Tx} (hP:∀ p∈parts,ExF p) (hK:Dj K H0 fr vo vs0) (hT:Zk K H0 parts v) (hb:own.length+out.length+wts parts<=1099511627776) {F:Fr} {H:Hp} {Q:PC} {vs:V} (h0:J78 H0 fr own out vo vs0 v parts 0 vs F H)
  (hQ:∀ vs' F' H',FinAt H' fr own (freeEs parts own out) vo vs'->FKeep H0 fr vo vs0 H' vo vs'->Q (.exit 3) F' H'):WC tab (.loop Zhj) F H Q:=by
 refine Xh (fun k F H=>∃ i vs,i+k=parts.length/\J78 H0 fr own out vo vs0 v parts i vs F H) (m:=parts.length) ⟨0,vs,by omega,h0⟩ ?_
 rintro k F H ⟨i,vs,hi,I⟩
 have hst:=I.keep.st
 have f0:=I.f0;have f30:=I.f30;have f31:=I.f31;have f32:=I.f32
 by_cases hlt:i < parts.length
 ·have hlt' : (i:Int) < (parts.length:Int):=by omega
  have hTi:=hT.mono (hK.stays I.keep)
  obtain ⟨b,off,cap,e,ro,cells,d0,d1,d2,d3,d4,d5,rfl,g1,g2,g3,g4,g5,g6,g7,n0,n1,n2,n3,n4,n5⟩:=Zk.at_ hTi hlt
  have hw:wr .i64 ((i:Int)+1)=((i+1:Nat):Int):=by
   have:=Jz parts
   rw [Wf (by omega) (by omega)];omega
  have hoff:off+i*6+6<=cells.length:=by omega
  simp [Zhj,f0,f30,f31,f32,hst,hlt,hlt',g1,g4,g5,g6,hoff,n0,n1,n2,n3,n4,n5]
  have hfin:=I.fin
  have hfl:=freeEs_len (parts.take i) own out
  have hwt:=U8 parts i hlt
  have hNk:∀ o o' : Ob,FKeep H fr vo vs ((H.new o).put H.next o') vo vs:=fun o o'=>FKeep.news (by simp [hst]) (by simp) (fun b hb=>by simp [Hp.get_new,Hp.get_put,Zp hb])
  have hK1:=(hK.keep I.keep).keep (hNk (.row 35 6 false [.int .i64 0,.int .i64 0,.str [],.nils,.nils,.nils]) (.row 35 6 false [d0,d1,d2,d3,d4,d5]))
  refine (hP parts[i] (List.getElem_mem hlt) _ fr own _ vo vs _ K (by simp [hst]) (hfin.keep (by simp) fun b hb=>by simp [Hp.get_new,Hp.get_put,Zp hb]) (Ze.mono ((hK.keep I.keep).stays (hNk _ _)) _ _ g7) hK1 (by omega)).mono ?_
  rintro w H2 ⟨vs',hF2,hk2⟩
  simp [f32,hw,hk2.st]
  have hs:Xv parts[i] own (freeEs (parts.take i) own out)=freeEs (parts.take (i+1)) own out:=by rw [List.take_succ_eq_append_getElem hlt,Ux]
  rw [hs] at hF2
  exact ⟨k-1,by omega,i+1,by omega,vs',by omega,hF2,(I.keep.trans (hNk _ _)).trans hk2,by simp [f0],by simp [f30],by simp [f31],by simp⟩
 ·have hlt' : ¬ (i:Int) < (parts.length:Int):=by omega
  have hfin:=I.fin
  rw [List.take_of_length_le (by omega)] at hfin
  simp [Zhj,f0,f30,f31,f32,hst,hlt']
  exact hQ _ _ _ hfin I.keep
end Go.AM.YtlillgmgpmbfnaaGreatDoorT
set_option maxRecDepth 100000
namespace Go.AM.YtlillgmgpmbfnaaGreatDoorT
open Go Go.AM Go.Proofs
structure N78 (H0:Hp) (fr eb:Nat) (own out:Ts) (vo vs0 w v:V) (cs:List V) (L:Ts) (i:Nat) (vs:V) (F:Fr) (H:Hp):Prop where
 le:i<=L.length
 fin:FinAt H fr own ((L.take i).foldl (useP own) out) vo vs
 keep:FKeep H0 fr vo vs0 H vo vs
 f0:F.get 0=some (.ptr fr 0)
 f3:F.get 3=some (.ptr eb 0)
 f19:F.get 19=some w
 f20:F.get 20=some (.int .i64 L.length)
 f21:F.get 21=some (.int .i64 i)
theorem Zpn {K:Nat->Prop} {H0:Hp} {fr eb:Nat} {own out:Ts} {vo vs0 w v:V} {cs:List V} {L:Ts} (hK:Dj K H0 fr vo vs0) (hT:Z0 K H0 L w) (hb:own.length+out.length+L.length<=1099511627776) {F:Fr} {H:Hp} {Q:PC} {vs:V} (h0:N78 H0 fr eb own out vo vs0 w v cs L 0 vs F H)
  (hQ:∀ vs' F' H',FinAt H' fr own (L.foldl (useP own) out) vo vs'->FKeep H0 fr vo vs0 H' vo vs'->F'.get 0=some (.ptr fr 0)->F'.get 3=some (.ptr eb 0)->Q (.exit 1) F' H'):WC tab (.loop Zkv) F H Q:=by
 refine Xh (fun k F H=>∃ i vs,i+k=L.length/\N78 H0 fr eb own out vo vs0 w v cs L i vs F H) (m:=L.length) ⟨0,vs,by omega,h0⟩ ?_
 rintro k F H ⟨i,vs,hi,I⟩
 have hst:=I.keep.st
 have f0:=I.f0;have f3:=I.f3;have f19:=I.f19;have f20:=I.f20;have f21:=I.f21
 by_cases hlt:i < L.length
 ·have hlt' : (i:Int) < (L.length:Int):=by omega
  have hTi:=hT.mono (hK.stays I.keep)
  obtain ⟨b,off,cap,e,ro,cells,rfl,g1,g2,g3,g4,g5⟩:=Z0.at_ hTi hlt
  have hw:wr .i64 ((i:Int)+1)=((i+1:Nat):Int):=by rw [Wf (by omega) (by omega)];omega
  simp [Zkv,f0,f19,f20,f21,hst,hlt,hlt',g1,g5]
  have hfl:=Zae own (L.take i) out
  have htl:(L.take i).length<=i:=by simp;omega
  refine (Znc hst I.fin (by omega) (by omega)).mono ?_
  rintro u H2 ⟨vs',hF2,hk2⟩
  simp [f21,hw,hk2.st]
  have hs:useP own ((L.take i).foldl (useP own) out) L[i]=(L.take (i+1)).foldl (useP own) out:=by rw [List.take_succ_eq_append_getElem hlt,List.foldl_append];rfl
  rw [hs] at hF2
  exact ⟨k-1,by omega,i+1,by omega,vs',by omega,hF2,I.keep.trans hk2,by simp [f0],by simp [f3],by simp [f19],by simp [f20],by simp⟩
 ·have hlt' : ¬ (i:Int) < (L.length:Int):=by omega
  have hfin:=I.fin
  rw [List.take_of_length_le (by omega)] at hfin
  simp [Zkv,f0,f19,f20,f21,hst,hlt']
  exact hQ _ _ _ hfin I.keep (by simp [f0]) (by simp [f3])
theorem Zgt {body:List Tx} (hB:BlF body) {op:Nat} {num:Int} {text:List UInt8} {parts:List Tx} {params:Ts} {H:Hp} {cs:List V} {K:Nat->Prop} (hst:H.stale=[]) (hT:Ze K H (.ex op num text parts params body) cs) (hK:∀ b,K b->b < H.next) (hb:params.length+wts body<=1099511627776) :
  WF tab 35 [.agg cs] H fun w H'=>SlAt H' 9 1 w (freeB body params []).length ((freeB body params []).map .str)/\(∀ b∈Za w,H.next<=b/\b < H'.next)/\Ext noX H H':=by
 refine wf35 (Zs _ ?_)
 have hT0:=hT
 simp only [Ze] at hT
 obtain ⟨vp,vq,vb,rfl,t1,t2,t3⟩:=hT
 have n1:=t1.one;have n2:=t2.one;have n3:=t3.one
 simp [hst,n1,n2,n3,Hp.get_new]
 have hg:∀ o o' b,b < H.next->((H.new o).new o').get b=H.get b:=fun o o' b hb=>by simp [Hp.get_new,Zp hb]
 have hS:∀ o o',Stays K K H ((H.new o).new o'):=fun o o'=>⟨fun b hb _=>hb,fun b hb hx=>hg o o' b hx,by simp;omega⟩
 have hF:FinAt ((H.new (.row 35 6 false [.int .i64 op,.int .i64 num,.str text,vp,vq,vb])).new (.row 107 2 false [.nils,.nils])) (H.next+1) [] [] .nils .nils:=⟨by simp [Hp.get_new],by simp,.nil,.nil,fun b hb=>by simp [Za] at hb,fun b hb=>by simp [Za] at hb⟩
 refine (hB _ (H.next+1) [] params [] .nils .nils vb vq K (by simp [hst]) hF (t3.mono (hS _ _) (ElsAt.mono (hS _ _) body)) (t2.mono (hS _ _) fun _ h=>h) (fun b hb=>⟨by have:=hK b hb;simp;omega,by have:=hK b hb;omega,by simp [Za],by simp [Za]⟩) (by simp;omega)).mono ?_
 rintro u H2 ⟨vo',vs',hF2,hk2⟩
 have s2:=hk2.st
 have hrow:=hF2.row
 have c1:=hF2.ss.one;have c2:=hF2.ss.cells
 have l2:=hk2.le
 simp at l2
 simp [s2,hrow,c1,c2]
 rw [List.nil_append] at hF2
 have hr:∀ b,b∈Za vo'\/b∈Za vs'->H.next<=b:=fun b hb=>by
  rcases hk2.own b hb with g | g | g
  ·simp [Za] at g
  ·simp [Za] at g
  ·simp at g;omega
 refine ⟨hF2.ss,fun b hb=>⟨hr b (.inr hb),(hF2.rs b hb).1⟩,s2,by omega,fun b hb _=>?_⟩
 rw [hk2.get b (by simp;omega) (by omega) (by simp [Za]) (by simp [Za])]
 exact hg _ _ b hb
theorem Z2t {op:Nat} {num:Int} {text:List UInt8} {parts:List Tx} {params:Ts} {body:List Tx} (hP:∀ p∈parts,ExF p) (hB:BlF body):ExF (.ex op num text parts params body):=by
 intro H fr own out vo vs cs K hst hF hT hK hb
 refine wf94 (Zs _ ?_)
 have hT0:=hT
 simp only [Ze] at hT
 obtain ⟨vp,vq,vb,rfl,t1,t2,t3⟩:=hT
 simp only [Tx.wt] at hb
 have n1:=t1.one;have n2:=t2.one;have n3:=t3.one
 have c1:=t1.cells;have c2:=t2.cells;have c3:=t3.cells
 have hlt:=hF.lt
 -- the parts
 have tail:∀ (F' : Fr) (H' : Hp) (o1:Ts) (vs1:V),o1.length<=out.length+1+wts body->Xv (.ex op num text parts params body) own out=freeEs parts own o1->FinAt H' fr own o1 vo vs1->FKeep H fr vo vs H' vo vs1->F'.get 0=some (.ptr fr 0)->F'.get 30=some vp->F'.get 31=some (.int .i64 parts.length)->F'.get 32=some (.int .i64 0) ->
   WC tab (.loop Zhj) F' H' (Vi 3 (resQ tab [] fun _ H'=>∃ vs',FinAt H' fr own (Xv (.ex op num text parts params body) own out) vo vs'/\FKeep H fr vo vs H' vo vs')):=by
  intro F' H' o1 vs1 a1 a2 a3 a4 b0 b30 b31 b32
  rw [a2]
  have st:=hK.stays a4
  have hst':=a4.st
  refine Zno (H0:=H') (own:=own) (parts:=parts) (v:=vp) (fr:=fr) (vo:=vo) (out:=o1) (vs0:=vs1) (vs:=vs1) hP (hK.keep a4) (t1.mono st (ElsAt.mono st parts)) (by omega) ⟨Nat.zero_le _,by simpa only [List.take_zero,freeEs] using a3,FKeep.refl hst',b0,b30,b31,by simpa using b32⟩ ?_
  intro vs' F2 H2 g1 g2
  simp only [Ze7,if_true]
  simp [resQ]
  exact ⟨vs',g1,a4.trans g2⟩
 have hkn:∀ o:Ob,FKeep H fr vo vs (H.new o) vo vs:=fun o=>FKeep.news (by simp [hst]) (by simp) fun b hb=>by simp [Hp.get_new,Zp hb]
 have hfn:∀ o:Ob,FinAt (H.new o) fr own out vo vs:=fun o=>hF.keep (by simp) fun b hb=>by simp [Hp.get_new,Zp hb]
 have l1:=t1.len 35
 by_cases h5:op=5
 ·subst h5
  simp [hst,n1,n2,n3,Hp.get_new,c1,c2,c3]
  refine (Znc (by simp [hst]) (hfn _) (by omega) (by omega)).mono ?_
  rintro w H2 ⟨vs',hF2,hk2⟩
  have kk:=(hkn (.row 35 6 false [.int .i64 5,.int .i64 num,.str text,vp,vq,vb])).trans hk2
  have hE:H2.get H.next=some (.row 35 6 false [.int .i64 5,.int .i64 num,.str text,vp,vq,vb]):=by
   rw [hk2.get H.next (by simp) (by omega) (fun h=>?_) (fun h=>?_)]
   ·simp [Hp.get_new]
   ·have:=(hF.ro _ h).1;omega
   ·have:=(hF.rs _ h).1;omega
  simp [kk.st,hE,l1]
  exact tail _ _ (useP own out text) vs' (by have:=U7 own out text;omega) (by simp [Xv]) hF2 kk (by simp) (by simp) (by simp) (by simp)
 by_cases h17:op=17
 ·subst h17
  simp [hst,n1,n2,n3,Hp.get_new,c1,c2,c3]
  have hT1:Ze K (H.new (.row 35 6 false [.int .i64 17,.int .i64 num,.str text,vp,vq,vb])) (.ex 17 num text parts params body) [.int .i64 17,.int .i64 num,.str text,vp,vq,vb]:=Ze.mono (hK.stays (hkn _)) _ _ hT0
  refine (Zgt hB (by simp [hst]) hT1 (fun b hb=>by have:=(hK b hb).1;simp;omega) (by omega)).mono ?_
  rintro w H2 ⟨hS,hr,hX⟩
  have s2:=hX.st
  have l2:=hX.le
  simp at l2
  have hE:H2.get H.next=some (.row 35 6 false [.int .i64 17,.int .i64 num,.str text,vp,vq,vb]):=by
   rw [hX.get H.next (by simp) (fun h=>h)];simp [Hp.get_new]
  have k2:FKeep H fr vo vs H2 vo vs:=(hkn _).trans (FKeep.news s2 hX.le fun b hb=>hX.get b hb fun h=>h)
  have hF2:FinAt H2 fr own out vo vs:=(hfn _).keep hX.le fun b hb=>hX.get b hb fun h=>h
  have hLb:=freeB_len body params []
  simp only [List.length_nil] at hLb
  generalize hL:freeB body params []=L at *
  have hTL:Z0 (fun b=>b∈Za w) H2 L w:=Z0.of_slAt hS (fun b hb=>⟨hb,(hr b hb).2⟩) rfl
  have lw:=hTL.len 9
  simp [s2,lw,hTL.one,hTL.cells]
  refine Zpn (K:=fun b=>b∈Za w) (H0:=H2) (fr:=fr) (eb:=H.next) (own:=own) (out:=out) (vo:=vo) (vs0:=vs) (w:=w) (v:=w) (cs:=[]) (L:=L) (vs:=vs) (fun b hb=>?_) hTL (by omega) ⟨Nat.zero_le _,by simpa using hF2,FKeep.refl s2,by simp,by simp,by simp,by simp,by simp⟩ ?_
  ·have h1:=hr b hb
   simp at h1
   exact ⟨by omega,by omega,fun h=>by have:=(hF.ro _ h).1;omega,fun h=>by have:=(hF.rs _ h).1;omega⟩
  ·intro vs' F' H3 g1 g2 g3 g4
   have kk:=k2.trans g2
   have hE3:H3.get H.next=some (.row 35 6 false [.int .i64 17,.int .i64 num,.str text,vp,vq,vb]):=by
    rw [g2.get H.next (by omega) (by omega) (fun h=>?_) (fun h=>?_)]
    ·exact hE
    ·have:=(hF.ro _ h).1;omega
    ·have:=(hF.rs _ h).1;omega
   simp [kk.st,hE3,l1,g3,g4]
   have hfl:=Zae own L out
   exact tail _ _ (L.foldl (useP own) out) vs' (by omega) (by simp [Xv,hL]) g1 kk (by simp [g3]) (by simp) (by simp) (by simp)
 ·have e5:((op:Int)==5)=false:=beq_false_of_ne (by omega)
  have e17:((op:Int)==17)=false:=beq_false_of_ne (by omega)
  simp [hst,n1,n2,n3,Hp.get_new,c1,c2,c3,e5,e17,l1]
  exact tail _ _ out vs (by omega) (by simp [Xv,h5,h17]) (hfn _) (hkn _) (by simp) (by simp) (by simp) (by simp)
end Go.AM.YtlillgmgpmbfnaaGreatDoorT
set_option maxRecDepth 100000
namespace Go.AM.YtlillgmgpmbfnaaGreatDoorT
open Go Go.AM Go.Proofs
structure J52 (F0:Fr) (H0:Hp) (fr:Nat) (own out:Ts) (vo vs0 v:V) (parts:List Tx) (i:Nat) (vs:V) (F:Fr) (H:Hp):Prop where
 le:i<=parts.length
 fin:FinAt H fr own (freeEs (parts.take i) own out) vo vs
 keep:FKeep H0 fr vo vs0 H vo vs
 f0:F.get 0=some (.ptr fr 0)
 f6:F.get 6=F0.get 6
 f8:F.get 8=F0.get 8
 f25:F.get 25=F0.get 25
 f26:F.get 26=F0.get 26
 f27:F.get 27=F0.get 27
 f30:F.get 32=some v
 f31:F.get 33=some (.int .i64 parts.length)
 f32:F.get 34=some (.int .i64 i)
theorem Znq {K:Nat->Prop} {H0:Hp} {fr:Nat} {own out:Ts} {vo vs0 v:V} {parts:List Tx} (hP:∀ p∈parts,ExF p) (hK:Dj K H0 fr vo vs0) (hT:Zk K H0 parts v) (hb:own.length+out.length+wts parts<=1099511627776) {F0 F:Fr} {H:Hp} {Q:PC} {vs:V} (h0:J52 F0 H0 fr own out vo vs0 v parts 0 vs F H)
  (hQ:∀ vs' F' H',FinAt H' fr own (freeEs parts own out) vo vs'->FKeep H0 fr vo vs0 H' vo vs'->F'.get 0=some (.ptr fr 0)->F'.get 6=F0.get 6->F'.get 8=F0.get 8->F'.get 25=F0.get 25->F'.get 26=F0.get 26->F'.get 27=F0.get 27->Q (.exit 2) F' H'):WC tab (.loop Zh6) F H Q:=by
 refine Xh (fun k F H=>∃ i vs,i+k=parts.length/\J52 F0 H0 fr own out vo vs0 v parts i vs F H) (m:=parts.length) ⟨0,vs,by omega,h0⟩ ?_
 rintro k F H ⟨i,vs,hi,I⟩
 have hst:=I.keep.st
 have f0:=I.f0;have f30:=I.f30;have f31:=I.f31;have f32:=I.f32
 by_cases hlt:i < parts.length
 ·have hlt' : (i:Int) < (parts.length:Int):=by omega
  have hTi:=hT.mono (hK.stays I.keep)
  obtain ⟨b,off,cap,e,ro,cells,d0,d1,d2,d3,d4,d5,rfl,g1,g2,g3,g4,g5,g6,g7,n0,n1,n2,n3,n4,n5⟩:=Zk.at_ hTi hlt
  have hw:wr .i64 ((i:Int)+1)=((i+1:Nat):Int):=by
   have:=Jz parts
   rw [Wf (by omega) (by omega)];omega
  have hoff:off+i*6+6<=cells.length:=by omega
  simp [Zh6,f0,f30,f31,f32,hst,hlt,hlt',g1,g4,g5,g6,hoff,n0,n1,n2,n3,n4,n5]
  have hfin:=I.fin
  have hfl:=freeEs_len (parts.take i) own out
  have hwt:=U8 parts i hlt
  have hNk:∀ o o' : Ob,FKeep H fr vo vs ((H.new o).put H.next o') vo vs:=fun o o'=>FKeep.news (by simp [hst]) (by simp) (fun b hb=>by simp [Hp.get_new,Hp.get_put,Zp hb])
  have hK1:=(hK.keep I.keep).keep (hNk (.row 35 6 false [.int .i64 0,.int .i64 0,.str [],.nils,.nils,.nils]) (.row 35 6 false [d0,d1,d2,d3,d4,d5]))
  refine (hP parts[i] (List.getElem_mem hlt) _ fr own _ vo vs _ K (by simp [hst]) (hfin.keep (by simp) fun b hb=>by simp [Hp.get_new,Hp.get_put,Zp hb]) (Ze.mono ((hK.keep I.keep).stays (hNk _ _)) _ _ g7) hK1 (by omega)).mono ?_
  rintro w H2 ⟨vs',hF2,hk2⟩
  simp [f32,hw,hk2.st]
  have hs:Xv parts[i] own (freeEs (parts.take i) own out)=freeEs (parts.take (i+1)) own out:=by rw [List.take_succ_eq_append_getElem hlt,Ux]
  rw [hs] at hF2
  exact ⟨k-1,by omega,i+1,by omega,vs',by omega,hF2,(I.keep.trans (hNk _ _)).trans hk2,by simp [f0],by simp [I.f6],by simp [I.f8],by simp [I.f25],by simp [I.f26],by simp [I.f27],by simp [f30],by simp [f31],by simp⟩
 ·have hlt' : ¬ (i:Int) < (parts.length:Int):=by omega
  have hfin:=I.fin
  rw [List.take_of_length_le (by omega)] at hfin
  simp [Zh6,f0,f30,f31,f32,hst,hlt']
  exact hQ _ _ _ hfin I.keep (by simp [f0]) (by simp [I.f6]) (by simp [I.f8]) (by simp [I.f25]) (by simp [I.f26]) (by simp [I.f27])
end Go.AM.YtlillgmgpmbfnaaGreatDoorT
set_option maxRecDepth 100000
namespace Go.AM.YtlillgmgpmbfnaaGreatDoorT
open Go Go.AM Go.Proofs
structure O52 (H0:Hp) (fr n:Nat) (own1 out:Ts) (vo0 vs0 v:V) (l:List Tx) (i:Nat) (vo vs:V) (F:Fr) (H:Hp):Prop where
 le:i<=l.length
 fin:FinAt H fr (Yr (l.take i) own1) (freeB (l.take i) own1 out) vo vs
 keep:FKeep H0 fr vo0 vs0 H vo vs
 f0:F.get 0=some (.ptr fr 0)
 f6:F.get 6=some (.int .i64 n)
 f25:F.get 25=some v
 f26:F.get 26=some (.int .i64 l.length)
 f27:F.get 27=some (.int .i64 i)
def Y63:SCode:=.seq (.reg Ztg) (.reg Zsk)
def InF:Tx->Prop
 | .st _ _ es b e _=>(∀ x∈es,ExF x)/\BlF b/\BlF e
 | .ex ..=>False
theorem Zpk {K:Nat->Prop} {H0:Hp} {fr n:Nat} {own1 out:Ts} {vo0 vs0 v:V} {l:List Tx} (hP:∀ s∈l,InF s) (hK:Dj K H0 fr vo0 vs0) (hT:Zk K H0 l v) (hb:own1.length+out.length+wts l<=1099511627776) {F:Fr} {H:Hp} {Q:PC} {vo vs:V} (h0:O52 H0 fr n own1 out vo0 vs0 v l 0 vo vs F H)
  (hQ:∀ vo' vs' F' H',FinAt H' fr (Yr l own1) (freeB l own1 out) vo' vs'->FKeep H0 fr vo0 vs0 H' vo' vs'->F'.get 0=some (.ptr fr 0)->F'.get 6=some (.int .i64 n)->Q (.exit 0) F' H'):WC tab (.loop Zkq) F H Q:=by
 refine Xh (fun k F H=>∃ i,i+k=l.length/\∃ vo vs,O52 H0 fr n own1 out vo0 vs0 v l i vo vs F H) (m:=l.length) ⟨0,by omega,vo,vs,h0⟩ ?_
 rintro k F H ⟨i,hi,vo,vs,I⟩
 have hL:Zkq = .seq (.reg Zys) (.seq (.cond (.tmp 28) (.skip) (.exit 0)) (.seq (.block 1 (.seq (.reg Zxq) (.seq (.seq (.reg Zx5) (.block 2 (.loop Zh6))) (.seq (.seq (.reg Zuw) (.block 4 (.seq (.reg Ztv) (.cond (.tmp 44) (.dreg Zt5) (.seq (.reg Zrs) (.cond (.tmp 57) (.reg Zq9) (.seq (.reg Zrq) (.cond (.tmp 63) (.seq (.reg Zsg) (.seq (.reg Zs4) (.exit 1))) (.skip))))))))) Y63)))) (.reg Zml))):=rfl
 rw [hL]
 have hst:=I.keep.st
 have f0:=I.f0;have f6:=I.f6;have f25:=I.f25;have f26:=I.f26;have f27:=I.f27
 by_cases hlt:i < l.length
 ·have hlt' : (i:Int) < (l.length:Int):=by omega
  have hTi:=hT.mono (hK.stays I.keep)
  obtain ⟨b,off,cap,e,ro,cells,d0,d1,d2,d3,d4,d5,rfl,g1,g2,g3,g4,g5,g6,g7,n0,n1,n2,n3,n4,n5⟩:=Zk.at_ hTi hlt
  have hll:=Jz l
  have hw:wr .i64 ((i:Int)+1)=((i+1:Nat):Int):=by rw [Wf (by omega) (by omega)];omega
  have hoff:off+i*6+6<=cells.length:=by omega
  have hPi:=hP l[i] (List.getElem_mem hlt)
  have hwt:=U8 l i hlt
  have htk:Yr (l.take (i+1)) own1=ownP (Yr (l.take i) own1) l[i]:=by rw [List.take_succ_eq_append_getElem hlt,Yr,Yr,List.foldl_append];rfl
  have hfk:freeB (l.take (i+1)) own1 out=Wk l[i] (Yr (l.take i) own1) (freeB (l.take i) own1 out):=by rw [List.take_succ_eq_append_getElem hlt,Zdd]
  have hol:=Zd6 (l.take i) own1 out
  have hfin:=I.fin
  have hKi:=hK.keep I.keep
  have fin:∀ (F' : Fr) (H' : Hp) (vo' vs' : V),FinAt H' fr (ownP (Yr (l.take i) own1) l[i]) (Wk l[i] (Yr (l.take i) own1) (freeB (l.take i) own1 out)) vo' vs'->FKeep H fr vo vs H' vo' vs'->F'.get 0=some (.ptr fr 0)->F'.get 6=some (.int .i64 n)->F'.get 25=some (.sl b off l.length cap 6)->F'.get 26=some (.int .i64 l.length)->F'.get 27=some (.int .i64 (i+1:Nat))->∃ m',m' < k/\∃ i,i+m' = l.length/\∃ vo vs,O52 H0 fr n own1 out vo0 vs0 (.sl b off l.length cap 6) l i vo vs F' H':=fun F' H' vo' vs' a1 a2 b0 b6 b25 b26 b27 =>
   ⟨k-1,by omega,i+1,by omega,vo',vs',by omega,by rw [htk,hfk];exact a1,I.keep.trans a2,b0,b6,b25,b26,b27⟩
  generalize hown:Yr (l.take i) own1=own at *
  generalize hout:freeB (l.take i) own1 out=ou at *
  generalize hs:l[i]=s at *
  match s,hPi with
  | .st kind name es sbd els at_,hPi =>
   obtain ⟨p1,p2,p3⟩:=hPi
   have g7':=g7
   simp only [Ze] at g7'
   obtain ⟨ve,vb,vl,hcs,t1,t2,t3⟩:=g7'
   cases hcs
   simp only [Tx.wt] at hwt
   simp [f0,f6,f25,f26,f27,hst,hlt,hlt',g1,g4,g5,g6,hoff,n0,n1,n2,n3,n4,n5,Hp.get_new,Hp.get_put,t1.len 35]
   have hlt0:=hfin.lt
   have hg0:∀ o o' : Ob,∀ b,b < H.next->((H.new o).put H.next o').get b=H.get b:=fun o o' b hb=>by simp [Hp.get_new,Hp.get_put,Zp hb]
   have k00:FKeep H fr vo vs ((H.new (.row 30 6 false [.int .i64 0,.str [],.nils,.nils,.nils,.int .i64 0])).put H.next (.row 30 6 false [.int .i64 kind,.str name,d2,d3,d4,.int .i64 at_])) vo vs:=FKeep.news (by simp [hst]) (by simp) (hg0 _ _)
   have hF0:=hfin.keep k00.le (hg0 _ _)
   have hE0:((H.new (.row 30 6 false [.int .i64 0,.str [],.nils,.nils,.nils,.int .i64 0])).put H.next (.row 30 6 false [.int .i64 kind,.str name,d2,d3,d4,.int .i64 at_])).get H.next=some (.row 30 6 false [.int .i64 kind,.str name,d2,d3,d4,.int .i64 at_]):=by simp [Hp.get_put]
   have hN0:H.next < ((H.new (.row 30 6 false [.int .i64 0,.str [],.nils,.nils,.nils,.int .i64 0])).put H.next (.row 30 6 false [.int .i64 kind,.str name,d2,d3,d4,.int .i64 at_])).next:=by simp
   have hnv:∀ b,b∈Za vo\/b∈Za vs->b < H.next:=fun b hb=>hb.elim (fun h=>(hfin.ro b h).1) fun h=>(hfin.rs b h).1
   generalize hH1:((H.new (.row 30 6 false [.int .i64 0,.str [],.nils,.nils,.nils,.int .i64 0])).put H.next (.row 30 6 false [.int .i64 kind,.str name,d2,d3,d4,.int .i64 at_]))=H1 at *
   have s1:=hKi.stays k00
   have hK1:=hKi.keep k00
   refine Znq (F0:=_) (K:=K) (H0:=H1) (own:=own) (out:=ou) (fr:=fr) (vo:=vo) (vs0:=vs) (v:=d2) (parts:=es) (vs:=vs) p1 hK1 (t1.mono s1 (ElsAt.mono s1 es)) (by omega) ⟨Nat.zero_le _,by simpa only [List.take_zero,freeEs] using hF0,FKeep.refl k00.st,by simp [f0],rfl,rfl,rfl,rfl,rfl,by simp,by simp,by simp⟩ ?_
   intro vs1 F1 H2 hF1 hk1 b0 b6 b8 b25 b26 b27
   simp [f6] at b6
   simp at b8
   simp [f25] at b25
   simp [f26] at b26
   simp [f27] at b27
   -- the row of the statement stays
   have hsb:∀ {H5:Hp} {vo5 vs5:V},FKeep H1 fr vo vs H5 vo5 vs5->H5.get H.next=some (.row 30 6 false [.int .i64 kind,.str name,d2,d3,d4,.int .i64 at_]):=fun {H5 vo5 vs5} h=>by
    rw [h.get H.next hN0 (by omega) (fun h=>by have:=hnv _ (.inl h);omega) (fun h=>by have:=hnv _ (.inr h);omega)]
    exact hE0
   have hE2:=hsb hk1
   have hel:=freeEs_len es own ou
   have hs2:=hk1.st
   have nos:∀ (H' : Hp),Z0 K H' [] .nils:=fun H'=>Z5m
   have tail:∀ (F' : Fr) (H' : Hp) (own' o2:Ts) (vo2 vs2:V),FinAt H' fr own' o2 vo2 vs2->FKeep H1 fr vo vs H' vo2 vs2->ownP own (.st kind name es sbd els at_)=own'->Wk (.st kind name es sbd els at_) own ou=freeB els own' (freeB sbd own' o2)->own'.length+o2.length+wts sbd+wts els<=1099511627776->F'.get 0=some (.ptr fr 0)->F'.get 6=some (.int .i64 n)->F'.get 8=some (.ptr H.next 0)->F'.get 25=some (.sl b off l.length cap 6)->F'.get 26=some (.int .i64 l.length)->F'.get 27=some (.int .i64 i) ->
     wp tab Y63 F' H' (Vi 1 (sqQ tab (.reg Zml) (Zbi (fun k F H=>∃ i,i+k=l.length/\∃ vo vs,O52 H0 fr n own1 out vo0 vs0 (.sl b off l.length cap 6) l i vo vs F H) k Q))):=by
    intro F' H' own' o2 vo2 vs2 a1 a2 a3 a4 a5 q0 q6 q8 q25 q26 q27
    have e2:=hsb a2
    have st2:=hK1.stays a2
    have sA:=hKi.stays k00
    simp [Y63,q0,q8,a2.st,e2]
    refine (p2 H' fr own' [] o2 vo2 vs2 d3 .nils K a2.st a1 ((t2.mono sA (ElsAt.mono sA sbd)).mono st2 (ElsAt.mono st2 sbd)) (nos _) (hK1.keep a2) (by simp;omega)).mono ?_
    rintro w H3 ⟨vo3,vs3,hF3,hk3⟩
    rw [List.append_nil] at hF3
    have a2':=a2.trans hk3
    have e3:=hsb a2'
    have st3:=hK1.stays a2'
    have hfl:=freeB_len sbd own' o2
    simp [q0,q8,hk3.st,e3]
    refine (p3 H3 fr own' [] _ vo3 vs3 d4 .nils K hk3.st hF3 ((t3.mono sA (ElsAt.mono sA els)).mono st3 (ElsAt.mono st3 els)) (nos _) (hK1.keep a2') (by simp;omega)).mono ?_
    rintro w H4 ⟨vo4,vs4,hF4,hk4⟩
    rw [List.append_nil] at hF4
    simp [q27,hw,hk4.st]
    exact fin _ _ vo4 vs4 (by rw [a3,a4];exact hF4) ((k00.trans a2').trans hk4) (by simp [q0]) (by simp [q6]) (by simp [q25]) (by simp [q26]) (by simp)
   have hrow2:=hF1.row
   by_cases hk0:kind=0
   ·subst hk0
    simp [b0,b6,b8,b25,b26,b27,hs2,hE2,hrow2]
    refine Zgs (H:=H2) (e0:=9) (cells:=[.str name]) (by simp [Zb]) ty9 (by decide) (by simp) (by simp) hF1.so (fun b hb=>⟨(hF1.ro b hb).1,by simp [hs2]⟩) rfl (by show (own.length+1)*16<=_;omega) (by omega) (by simp [hs2]) fun v' H3 hS hA=>?_
    obtain ⟨k1,k2⟩:=hA.keep fr hF1.lt (fun h=>(hF1.ro fr h).2.1 rfl) (by simp [hs2])
    have c5:=hS.one;have c6:=hS.cells;have c7:=hF1.ss.one
    simp [k1,k2,hrow2,c5,c6,c7,b0,hs2]
    obtain ⟨hF3,hk3⟩:=hF1.app_o (ns:=[name]) (H3:=H3) (H4:=(H3.bump.flush.put fr (.row 107 2 false [v',vs1])).bump) (k:=1) hs2 hS rfl hA (by simp) (by simp;omega) (by simp [Hp.get_put]) (fun b hb=>by simp [Hp.get_put,Zi hb])
    exact tail _ _ (own++[name]) (freeEs es own ou) v' vs1 hF3 (hk1.trans hk3) (by simp [ownP]) (by simp [Wk]) (by simp;omega) (by simp [b0]) (by simp [b6]) (by simp [b8]) (by simp [b25]) (by simp [b26]) (by simp [b27])
   by_cases hk1' : kind=1
   ·subst hk1'
    simp [b0,b6,b8,b25,b26,b27,hs2,hE2]
    refine (Znc hs2 hF1 (by omega) (by omega)).mono ?_
    rintro w H3 ⟨vs2,hF3,hk3⟩
    have hul:=U7 own (freeEs es own ou) name
    simp [hk3.st]
    exact tail _ _ own (useP own (freeEs es own ou) name) vo vs2 hF3 (hk1.trans hk3) (by simp [ownP]) (by simp [Wk]) (by omega) (by simp [b0]) (by simp [b6]) (by simp [b8]) (by simp [b25]) (by simp [b26]) (by simp [b27])
   by_cases hk7:kind=7
   ·subst hk7
    simp [b0,b6,b8,b25,b26,b27,hs2,hE2]
    have st2:=hK1.stays hk1
    refine (p2 H2 fr own [] (freeEs es own ou) vo vs1 d3 .nils K hs2 hF1 ((t2.mono s1 (ElsAt.mono s1 sbd)).mono st2 (ElsAt.mono st2 sbd)) (nos _) (hK1.keep hk1) (by simp;omega)).mono ?_
    rintro w H3 ⟨vo3,vs3,hF3,hk3⟩
    rw [List.append_nil] at hF3
    have a2':=hk1.trans hk3
    have e3:=hsb a2'
    have st3:=hK1.stays a2'
    have hfl:=freeB_len sbd own (freeEs es own ou)
    have s3:=hk3.st
    simp [b0,b8,s3,e3]
    have hgn:∀ o:Ob,∀ b,b < H3.next->(H3.new o).get b=H3.get b:=fun o b hb=>by simp [Hp.get_new,Zp hb]
    have hKn:∀ o:Ob,Stays K (fun b=>K b\/b=H3.next) H3 (H3.new o):=fun o=>⟨fun b hb _=>.inl hb,fun b hb hx=>hgn o b hx,by simp⟩
    have hK3:=hK1.keep a2'
    have hKx:Dj (fun b=>K b\/b=H3.next) (H3.new (.row 9 1 false [.str name])) fr vo3 vs3:=fun b hb=>by
     rcases hb with hb | rfl
     ·have:=hK3 b hb;exact ⟨by simp;omega,this.2⟩
     ·have h9:=hF3.lt
      exact ⟨by simp,by omega,fun h=>by have:=(hF3.ro _ h).1;omega,fun h=>by have:=(hF3.rs _ h).1;omega⟩
    have hkn:FKeep H3 fr vo3 vs3 (H3.new (.row 9 1 false [.str name])) vo3 vs3:=FKeep.news (by simp [s3]) (by simp) (hgn _)
    refine (p3 _ fr own [name] _ vo3 vs3 d4 (.sl H3.next 0 1 none 1) (fun b=>K b\/b=H3.next) (by simp [s3]) (hF3.keep (by simp) (hgn _)) (((t3.mono s1 (ElsAt.mono s1 els)).mono st3 (ElsAt.mono st3 els)).mono (hKn _) (ElsAt.mono (hKn _) els)) (.inr ⟨H3.next,0,none,9,false,[.str name],rfl,by simp [Hp.get_new],.inr rfl,by simp,by simp,by simp,by simp⟩) hKx (by simp;omega)).mono ?_
    rintro w H4 ⟨vo4,vs4,hF4,hk4⟩
    simp [b27,hw,hk4.st]
    exact fin _ _ vo4 vs4 (by simpa [ownP,Wk] using hF4) (((k00.trans a2').trans hkn).trans hk4) (by simp [b0]) (by simp [b6]) (by simp [b25]) (by simp [b26]) (by simp)
   ·have e0:((kind:Int)==0)=false:=beq_false_of_ne (by omega)
    have e1:((kind:Int)==1)=false:=beq_false_of_ne (by omega)
    have e7:((kind:Int)==7)=false:=beq_false_of_ne (by omega)
    simp [b0,b6,b8,b25,b26,b27,hs2,hE2,e0,e1,e7]
    exact tail _ _ own (freeEs es own ou) vo vs1 hF1 hk1 (by simp [ownP,hk0]) (by simp [Wk,hk0,hk1',hk7]) (by omega) (by simp [b0]) (by simp [b6]) (by simp [b8]) (by simp [b25]) (by simp [b26]) (by simp [b27])
 ·have hlt' : ¬ (i:Int) < (l.length:Int):=by omega
  have hfin:=I.fin
  rw [List.take_of_length_le (by omega)] at hfin
  simp [f0,f6,f25,f26,f27,hst,hlt']
  exact hQ _ _ _ _ hfin I.keep (by simp [f0]) (by simp [f6])
end Go.AM.YtlillgmgpmbfnaaGreatDoorT
set_option maxRecDepth 100000
namespace Go.AM.YtlillgmgpmbfnaaGreatDoorT
open Go Go.AM Go.Proofs
theorem Zkd:∀ (l:List Tx) (own:Ts),∃ r,Yr l own=own++r
 | [],own=>⟨[],by simp [Yr]⟩
 | x :: l,own=>by
  obtain ⟨r,hr⟩:=Zkd l (ownP own x)
  have:∃ r',ownP own x=own++r':=by
   cases x with
   | ex=>exact ⟨[],by simp [ownP]⟩
   | st kind name es b e a =>
    by_cases h:kind=0
    ·exact ⟨[name],by simp [ownP,h]⟩
    ·exact ⟨[],by simp [ownP,h]⟩
  obtain ⟨r',hr'⟩:=this
  refine ⟨r'++r,?_⟩
  have e:Yr (x :: l) own=Yr l (ownP own x):=rfl
  rw [e,hr,hr',List.append_assoc]
theorem Z3a {H:Hp} {e:TypeId} {v:V} {l r:Ts} (h:SlAt H e 1 v (l++r).length ((l++r).map .str)):∃ v',Yw tab 33 v none (some l.length) none=some v'/\SlAt H e 1 v' l.length (l.map .str)/\Za v' = Za v:=by
 generalize hn:(l++r).length=n at h
 generalize hc:(l++r).map V.str=cs at h
 have hl:l.length<=n:=by rw [<- hn];simp
 cases h with
 | nil =>
  have h0:l=[]:=by
   cases l with
   | nil=>rfl
   | cons=>simp at hn
  subst h0
  exact ⟨.nils,by simp [Yw,Zb],.nil,rfl⟩
 | row b n cs' hg hle =>
  refine ⟨.sl b 0 l.length none 1,?_,?_,rfl⟩
  ·by_cases h0:l.length=0
   ·simp [Yw,Zb,h0]
   ·have:(0:Int) < l.length:=by omega
    simp [Yw,Zb]
    exact ⟨hl,fun h=>absurd (by rw [h];rfl) h0⟩
  ·have:=SlAt.row (H:=H) (e:=e) (sz:=1) b l.length cs' hg (by omega)
   have e2:cs'.take (l.length*1)=l.map .str:=by
    have:=congrArg (List.take l.length) hc
    rw [List.map_append,List.take_append_of_le_length (by simp),List.take_of_length_le (by simp),List.take_take,Nat.mul_one,Nat.min_eq_left hl] at this
    rw [Nat.mul_one];exact this.symm
   rw [e2] at this
   exact this
theorem Zee {K:Nat->Prop} {H:Hp} {l:Ts} {v:V} (h:Z0 K H l v):Xd H.get 1 v=some (l.length,l.map .str):=by
 rcases h with ⟨rfl | rfl,h0⟩ | ⟨b,off,cap,e,ro,cells,rfl,h1,h2,h3,h4,h5,h6,_⟩
 ·have:l=[]:=List.eq_nil_of_length_eq_zero h0
  subst this;rfl
 ·have:l=[]:=List.eq_nil_of_length_eq_zero h0
  subst this;rfl
 ·simp only [Xd,h1]
  rw [if_pos ⟨trivial,by omega⟩,Nat.mul_one,h6]
def T63:SCode:=.seq (.seq (.reg Zxr) (.block 0 (.loop Zkq))) (.reg Zrt)
theorem Zd9 {l:List Tx} (hP:∀ s∈l,InF s):BlF l:=by
 intro H fr own params out vo vs v va K hst hF hT hA hK hb
 refine wf63 (Zs _ ?_)
 have hrow:=hF.row
 have n1:=hA.one;have n2:=hA.cells;have n3:=hT.one;have n4:=hT.cells
 have l1:=hT.len 30
 have l2:=hF.so.lenV 9
 have hS:S63 = .seq (.reg Zyo) (.seq (.reg Zyd) T63):=rfl
 rw [hS]
 have rest:∀ (F' : Fr) (H1:Hp) (vo1:V),FinAt H1 fr (own++params) out vo1 vs->FKeep H fr vo vs H1 vo1 vs->F'.get 0=some (.ptr fr 0)->F'.get 1=some v->F'.get 6=some (.int .i64 own.length)->wp tab T63 F' H1 (resQ tab [] fun _ H'=>∃ vo' vs',FinAt H' fr own (freeB l (own++params) out) vo' vs'/\FKeep H fr vo vs H' vo' vs'):=by
  intro F' H1 vo1 a1 a2 b0 b1 b6
  have hs1:=a2.st
  simp [T63,b0,b1,b6,hs1,n3,n4,l1]
  have st:=hK.stays a2
  refine Zpk (K:=K) (H0:=H1) (fr:=fr) (n:=own.length) (own1:=own++params) (out:=out) (vo0:=vo1) (vs0:=vs) (v:=v) (l:=l) (vo:=vo1) (vs:=vs) hP (hK.keep a2) (hT.mono st) (by simp;omega) ⟨Nat.zero_le _,by simpa only [List.take_zero,freeB,Yr,List.foldl_nil] using a1,FKeep.refl hs1,by simp [b0],by simp [b6],by simp,by simp,by simp⟩ ?_
  intro vo2 vs2 F2 H2 hF2 hk2 q0 q6
  obtain ⟨r,hr⟩:=Zkd l (own++params)
  rw [hr,List.append_assoc] at hF2
  obtain ⟨v',e1,e2,e3⟩:=Z3a hF2.so
  have hrow2:=hF2.row
  have m1:=e2.one;have m2:=e2.cells;have m3:=hF2.ss.one
  have m4:=hF2.so.one;have m5:=hF2.so.cells
  have hs2:=hk2.st
  simp [q0,q6,hs2,hrow2,e1,m1,m2,m3,m4,m5]
  refine ⟨v',vs2,⟨by simp [Hp.get_put],hF2.lt,e2.of_get fun b hb=>?_,hF2.ss.of_get fun b hb=>Zf _ (hF2.rs b hb).2,fun b hb=>?_,fun b hb=>hF2.rs b hb⟩,(a2.trans hk2).trans ⟨by simp [hs2],by simp,fun b hb hf ho hs=>Zf _ hf,fun b hb=>?_⟩⟩
  ·rw [e3] at hb
   exact Zf _ (hF2.ro b hb).2.1
  ·rw [e3] at hb
   exact hF2.ro b hb
  ·rw [e3] at hb
   exact hb.elim .inl fun h=>.inr (.inl h)
 simp [hst,hrow,n1,n2,n3,n4,l1,l2]
 have hlt:=hF.lt
 by_cases hp:params=[]
 ·subst hp
  refine Znb (by simp [Zb]) ty9 (by simp) (by simp) hF.so (V8.trans (Zee hA)) ?_
  have m1:=hF.so.one;have m2:=hF.so.cells;have m3:=hF.ss.one
  simp [hst,hrow,m1,m2,m3]
  have hg:∀ b,(H.put fr (.row 107 2 false [vo,vs])).get b=H.get b:=fun b=>by
   by_cases hb:b=fr
   ·subst hb;rw [Zd];exact hrow.symm
   ·exact Zf _ hb
  rw [List.append_nil] at rest
  exact rest _ _ vo (hF.keep (by simp) fun b _=>hg b) (FKeep.news (by simp [hst]) (by simp) fun b _=>hg b) (by simp) (by simp) (by simp)
 ·have hpl:0 < params.length:=List.length_pos_iff.2 hp
  refine Zim (H:=H) (x:=va) (by simp [Zb]) ty9 (by decide) (by simp) (by simp) hF.so (fun b hb=>⟨(hF.ro b hb).1,by simp [hst]⟩) (Zee hA) hpl (by simp) (by show (own.length+params.length)*16<=_;omega) (by omega) (fun b hb=>?_) (by simp [hst]) fun v' H3 hS hA'=>?_
  ·rcases hA with ⟨rfl | rfl,h0⟩ | ⟨b',off,cap,e,ro,cells,rfl,h1,h2,h3,h4,h5,h6,_⟩
   ·simp [Za] at hb
   ·simp [Za] at hb
   ·simp [Za] at hb
    subst hb
    exact ⟨by simp [hst],(hK b h2).2.2.1⟩
  ·obtain ⟨k1,k2⟩:=hA'.keep fr hlt (fun h=>(hF.ro fr h).2.1 rfl) (by simp [hst])
   have c5:=hS.one;have c6:=hS.cells;have c7:=hF.ss.one
   simp [k1,k2,hrow,c5,c6,c7]
   obtain ⟨hF3,hk3⟩:=hF.app_o (ns:=params) (H3:=H3) (H4:=H3.flush.put fr (.row 107 2 false [v',vs])) (k:=params.length) hst hS rfl hA' (by simp) (by simp) (by simp [Hp.get_put]) (fun b hb=>by simp [Hp.get_put,Zi hb])
   exact rest _ _ v' hF3 hk3 (by simp) (by simp) (by simp)
mutual
theorem Z1t:∀ (t:Tx),t.eok->ExF t
 | .ex op num text parts params body,h=>by
  simp only [Tx.eok] at h
  exact Z2t (exFs_all parts h.1) (Zd9 (inFs_all body h.2))
 | .st ..,h=>by simp only [Tx.eok] at h
theorem exFs_all:∀ (l:List Tx),eoks l->∀ x∈l,ExF x
 | [],_,x,hx=>by simp at hx
 | y :: r,h,x,hx=>by
  simp only [eoks] at h
  rcases List.mem_cons.1 hx with e | hx
  ·rw [e];exact Z1t y h.1
  ·exact exFs_all r h.2 x hx
theorem Zzh:∀ (t:Tx),t.sok->InF t
 | .st kind name es b e at_,h=>by
  simp only [Tx.sok] at h
  exact ⟨exFs_all es h.1,Zd9 (inFs_all b h.2.1),Zd9 (inFs_all e h.2.2)⟩
 | .ex ..,h=>by simp only [Tx.sok] at h
theorem inFs_all:∀ (l:List Tx),soks l->∀ x∈l,InF x
 | [],_,x,hx=>by simp at hx
 | y :: r,h,x,hx=>by
  simp only [soks] at h
  rcases List.mem_cons.1 hx with e | hx
  ·rw [e];exact Zzh y h.1
  ·exact inFs_all r h.2 x hx
end
end Go.AM.YtlillgmgpmbfnaaGreatDoorT
set_option maxRecDepth 100000
namespace Go.AM.YtlillgmgpmbfnaaGreatDoorT
open Go Go.AM Go.Proofs
structure OutAt (H:Hp) (po:Nat) (out:Ts) (vs:V):Prop where
 row:H.get po=some (.row 33 1 false [vs])
 lt:po < H.next
 ss:SlAt H 9 1 vs out.length (out.map .str)
 rs:∀ b∈Za vs,b < H.next/\b≠po
theorem OutAt.keep {H H' : Hp} {po:Nat} {out:Ts} {vs:V} (h:OutAt H po out vs) (hle:H.next<=H'.next) (hg:∀ b,b < H.next->H'.get b=H.get b):OutAt H' po out vs :=
 ⟨by rw [hg po h.lt];exact h.row,Nat.lt_of_lt_of_le h.lt hle,h.ss.of_get fun b hb=>hg b (h.rs b hb).1,fun b hb=>⟨Nat.lt_of_lt_of_le (h.rs b hb).1 hle,(h.rs b hb).2⟩⟩
theorem OutAt.app {H H3 H4:Hp} {po:Nat} {out ns:Ts} {vs v' : V} {k:Nat} (hF:OutAt H po out vs) (hst:H.stale=[]) (hS:SlAt H3 9 1 v' (out.length+k) (out.map .str++ns.map .str)) (hk:ns.length=k) (hA:AppR H vs H3 v') (hs4:H4.stale=[]) (hn4:H3.next<=H4.next) (hr4:H4.get po=some (.row 33 1 false [v'])) (hg:∀ b,b≠po->H4.get b=H3.flush.get b) :
  OutAt H4 po (out++ns) v'/\FKeep H po .nils vs H4 .nils v':=by
 obtain ⟨k1,k2,k3,k4,k5⟩:=Wa hst hS hA
 rw [Hp.next_flush] at k4 k5
 have hlt:=hF.lt
 have hn:∀ b∈Za v',b < H4.next/\b≠po:=fun b hb=>by
  obtain ⟨g1,g2⟩:=k5 b hb
  refine ⟨by omega,?_⟩
  rcases g2 with g2 | g2
  ·exact (hF.rs b g2).2
  ·omega
 refine ⟨⟨hr4,by omega,?_,hn⟩,⟨hs4,by omega,fun b hb hf ho hs=>by rw [hg b hf,k2 b hb hs],fun b hb=>?_⟩⟩
 ·rw [List.length_append,List.map_append,hk]
  exact k1.of_get fun b hb=>hg b (hn b hb).2
 ·rcases hb with h | h
  ·exact .inl h
  ·exact .inr (k5 b h).2
theorem Zk7 {K:Nat->Prop} {H:Hp} {po:Nat} {own out:Ts} {va vs:V} {name:List UInt8} (hst:H.stale=[]) (hF:OutAt H po out vs) (hA:Z0 K H own va) (hl:own.length<=1099511627776) (hl' : out.length<=1099511627776):WF tab 98 [.str name,va,.ptr po 0] H fun _ H'=>∃ vs',OutAt H' po (useP own out name) vs'/\FKeep H po .nils vs H' .nils vs':=by
 refine wf98 (Zs _ ?_)
 have hrow:=hF.row
 have c1:=hA.one;have c2:=hA.cells;have c3:=hF.ss.one;have c4:=hF.ss.cells
 simp [hst,hrow,c1,c2]
 refine (Zai hst hA hl).mono ?_
 rintro w H1 ⟨hH1,rfl⟩
 have hH2:=hH1.symm
 subst hH2
 by_cases ho:name∈own
 ·simp [ho,hst,hrow]
  rw [show useP own out name=out by simp [useP,ho]]
  exact ⟨vs,hF,FKeep.refl hst⟩
 ·simp [ho,hst,hrow,c3,c4]
  refine (Zai hst (Zi2 hF.ss fun b hb=>(hF.rs b hb).1) hl').mono ?_
  rintro w H1 ⟨hH1,rfl⟩
  have hH2:=hH1.symm
  subst hH2
  by_cases hs:name∈out
  ·simp [hs,hst]
   rw [show useP own out name=out by simp [useP,hs]]
   exact ⟨vs,hF,FKeep.refl hst⟩
  ·simp [hs,hst,hrow,c3,c4]
   have hlt:=hF.lt
   have hu:useP own out name=out++[name]:=by simp [useP,ho,hs]
   refine Zag (H:=H) (e0:=9) (cells:=[.str name]) (by simp [Zb]) ty9 (by decide) (by simp) (by simp) hF.ss (fun b hb=>⟨(hF.rs b hb).1,by simp [hst]⟩) rfl (by show (out.length+1)*16<=_;omega) (by omega) (by simp [hst]) fun v' H3 hS hA=>?_
   obtain ⟨k1,k2⟩:=hA.keep po hlt (fun h=>(hF.rs po h).2 rfl) (by simp [hst])
   have c5:=hS.one;have c6:=hS.cells
   simp [k1,k2,hrow,c5,c6]
   rw [hu]
   exact ⟨v',hF.app (ns:=[name]) (H3:=H3) (k:=1) hst hS rfl hA (by simp) (by simp) (by simp [Hp.get_put]) (fun b hb=>by simp [Hp.get_put,Zi hb])⟩
theorem Z0e:binE tab .eql 33 (.tmp 3) (.const (.slice none 0 0)) .sle .nils=some (.bool false):=by kernel_rfl
theorem Zs2 (b off n:Nat) (cap:Option Nat) (z:Nat):binE tab .eql 33 (.tmp 3) (.const (.slice none 0 0)) (.sl b off n cap z) .nils=some (.bool false):=by kernel_rfl
theorem Zla {K:Nat->Prop} {H:Hp} {l:Ts} {v:V} (hst:H.stale=[]) (hA:Z0 K H l v) (hl:l.length<=1099511627776) (hK:∀ b∈Za v,b < H.next):WF tab 96 [v] H fun w H'=>SlAt H' 9 1 w l.length (l.map .str)/\(∀ b∈Za w,H.next<=b/\b < H'.next)/\Ext noX H H':=by
 refine wf96 (Zs _ ?_)
 have hT:=Zee hA
 by_cases h0:v = .nils
 ·subst h0
  have:l=[]:=by
   rcases hA with ⟨_,h0⟩ | ⟨b',off,cap,e,ro,cells,h1,_⟩
   ·exact List.eq_nil_of_length_eq_zero h0
   ·cases h1
  subst this
  simp [hst]
  exact ⟨.nil,by simp [Za],by simp,by simp,fun b hb _=>by rw [Hp.get_flush,if_neg (by simp [hst])]⟩
 ·have hn:v = .sle\/∃ b off n cap z,v = .sl b off n cap z:=by
   rcases hA with ⟨rfl | rfl,_⟩ | ⟨b',off,cap,e,ro,cells,h1,_⟩
   ·exact absurd rfl h0
   ·exact .inl rfl
   ·exact .inr ⟨_,_,_,_,_,h1⟩
  have n1:=hA.one;have n2:=hA.cells
  have hS0:SlAt (H.new (.row 9 1 false [])) 9 1 (.sl H.next 0 0 none 1) 0 []:=SlAt.row H.next 0 [] (Z5 _ _) (by simp)
  have hgn:∀ b,b < H.next->(H.new (.row 9 1 false [])).get b=H.get b:=fun b hb=>by simp [Hp.get_new,Zp hb]
  have hT1:Xd (H.new (.row 9 1 false [])).get 1 v=some (l.length,l.map .str):=by
   rw [<- hT]
   rcases hn with rfl | ⟨b,off,n,cap,z,rfl⟩
   ·rfl
   ·simp only [Xd]
    rw [hgn b (hK b (by simp [Za]))]
  by_cases hl0:l=[]
  ·subst hl0
   rcases hn with rfl | ⟨b,off,n,cap,z,rfl⟩
   all_goals
    simp [hst,Z0e,Zs2]
    refine Znb (by simp [Zb]) ty9 (by simp) (by simp) hS0 (V8.trans hT1) ?_
    simp [hst]
    exact ⟨hS0,by simp [Za],Ext.new hst _⟩
  ·have hpl:0 < l.length:=List.length_pos_iff.2 hl0
   have:∃ b off n cap z,v = .sl b off n cap z:=by
    rcases hn with rfl | h
    ·rcases hA with ⟨_,h⟩ | ⟨_,_,_,_,_,_,h1,_⟩
     ·omega
     ·cases h1
    ·exact h
   obtain ⟨b,off,n,cap,z,rfl⟩:=this
   simp [hst,Zs2]
   refine Zim (H:=H.new (.row 9 1 false [])) (x:=.sl b off n cap z) (by simp [Zb]) ty9 (by decide) (by simp) (by simp) hS0 (fun b hb=>⟨by simp [Za] at hb;subst hb;simp,by simp [hst]⟩) hT1 hpl (by simp) (by show (0+l.length)*16<=_;omega) (by omega) (fun c hc=>?_) (by simp [hst]) fun v' H3 hS hA'=>?_
   ·simp [Za] at hc
    subst hc
    exact ⟨by simp [hst],by have:=hK c (by simp [Za]);simp [Za];omega⟩
   ·obtain ⟨k1,k2,k3,k4,k5⟩:=Wa (H:=H.new (.row 9 1 false [])) (by simp [hst]) hS hA'
    have c5:=hS.one;have c6:=hS.cells
    simp [c5,c6]
    simp at k4
    refine ⟨by simpa using k1,fun b hb=>?_,by simp,by simp;omega,fun b hb _=>?_⟩
    ·have:=k5 b hb
     simp [Za] at this
     omega
    ·rw [<- hgn b hb]
     exact k2 b (by simp;omega) (by simp [Za];omega)
end Go.AM.YtlillgmgpmbfnaaGreatDoorT
set_option maxRecDepth 100000
namespace Go.AM.YtlillgmgpmbfnaaGreatDoorT
open Go Go.AM Go.Proofs
def ExR (e:Tx):Prop:=∀ (H:Hp) (po:Nat) (own out:Ts) (va vs:V) (cs:List V) (K:Nat->Prop),H.stale=[]->OutAt H po out vs->Ze K H e cs->Z0 K H own va->Dj K H po .nils vs->own.length+out.length+e.wt<=1099511627776 ->
 WF tab 97 [.agg cs,va,.ptr po 0] H fun _ H'=>∃ vs',OutAt H' po (Xv e own out) vs'/\FKeep H po .nils vs H' .nils vs'
def BlR (l:List Tx):Prop:=∀ (H:Hp) (po:Nat) (own out:Ts) (va vs v:V) (K:Nat->Prop),H.stale=[]->OutAt H po out vs->Zk K H l v->Z0 K H own va->Dj K H po .nils vs->own.length+out.length+wts l<=1099511627776 ->
 WF tab 64 [v,va,.ptr po 0] H fun _ H'=>∃ vs',OutAt H' po (freeB l own out) vs'/\FKeep H po .nils vs H' .nils vs'
structure J81 (H0:Hp) (po:Nat) (own out:Ts) (va vs0 v:V) (parts:List Tx) (i:Nat) (vs:V) (F:Fr) (H:Hp):Prop where
 le:i<=parts.length
 fin:OutAt H po (freeEs (parts.take i) own out) vs
 keep:FKeep H0 po .nils vs0 H .nils vs
 f1:F.get 1=some va
 f2:F.get 2=some (.ptr po 0)
 f30:F.get 34=some v
 f31:F.get 35=some (.int .i64 parts.length)
 f32:F.get 36=some (.int .i64 i)
theorem Zma {K:Nat->Prop} {H0:Hp} {po:Nat} {own out:Ts} {va vs0 v:V} {parts:List Tx} (hP:∀ p∈parts,ExR p) (hK:Dj K H0 po .nils vs0) (hA:Z0 K H0 own va) (hT:Zk K H0 parts v) (hb:own.length+out.length+wts parts<=1099511627776) {F:Fr} {H:Hp} {Q:PC} {vs:V} (h0:J81 H0 po own out va vs0 v parts 0 vs F H)
  (hQ:∀ vs' F' H',OutAt H' po (freeEs parts own out) vs'->FKeep H0 po .nils vs0 H' .nils vs'->Q (.exit 2) F' H'):WC tab (.loop Zid) F H Q:=by
 refine Xh (fun k F H=>∃ i vs,i+k=parts.length/\J81 H0 po own out va vs0 v parts i vs F H) (m:=parts.length) ⟨0,vs,by omega,h0⟩ ?_
 rintro k F H ⟨i,vs,hi,I⟩
 have hst:=I.keep.st
 have f1:=I.f1;have f2:=I.f2;have f30:=I.f30;have f31:=I.f31;have f32:=I.f32
 by_cases hlt:i < parts.length
 ·have hlt' : (i:Int) < (parts.length:Int):=by omega
  have hTi:=hT.mono (hK.stays I.keep)
  obtain ⟨b,off,cap,e,ro,cells,d0,d1,d2,d3,d4,d5,rfl,g1,g2,g3,g4,g5,g6,g7,n0,n1,n2,n3,n4,n5⟩:=Zk.at_ hTi hlt
  have hw:wr .i64 ((i:Int)+1)=((i+1:Nat):Int):=by
   have:=Jz parts
   rw [Wf (by omega) (by omega)];omega
  have hoff:off+i*6+6<=cells.length:=by omega
  simp [Zid,f1,f2,f30,f31,f32,hst,hlt,hlt',g1,g4,g5,g6,hoff,n0,n1,n2,n3,n4,n5]
  have hfin:=I.fin
  have hfl:=freeEs_len (parts.take i) own out
  have hwt:=U8 parts i hlt
  have hNk:∀ o o' : Ob,FKeep H po .nils vs ((H.new o).put H.next o') .nils vs:=fun o o'=>FKeep.news (by simp [hst]) (by simp) (fun b hb=>by simp [Hp.get_new,Hp.get_put,Zp hb])
  have hK1:=(hK.keep I.keep).keep (hNk (.row 35 6 false [.int .i64 0,.int .i64 0,.str [],.nils,.nils,.nils]) (.row 35 6 false [d0,d1,d2,d3,d4,d5]))
  refine (hP parts[i] (List.getElem_mem hlt) _ po own _ va vs _ K (by simp [hst]) (hfin.keep (by simp) fun b hb=>by simp [Hp.get_new,Hp.get_put,Zp hb]) (Ze.mono ((hK.keep I.keep).stays (hNk _ _)) _ _ g7) ((hA.mono (hK.stays I.keep)).mono ((hK.keep I.keep).stays (hNk _ _))) hK1 (by omega)).mono ?_
  rintro w H2 ⟨vs',hF2,hk2⟩
  simp [f32,hw,hk2.st]
  have hs:Xv parts[i] own (freeEs (parts.take i) own out)=freeEs (parts.take (i+1)) own out:=by rw [List.take_succ_eq_append_getElem hlt,Ux]
  rw [hs] at hF2
  exact ⟨k-1,by omega,i+1,by omega,vs',by omega,hF2,(I.keep.trans (hNk _ _)).trans hk2,by simp [f1],by simp [f2],by simp [f30],by simp [f31],by simp⟩
 ·have hlt' : ¬ (i:Int) < (parts.length:Int):=by omega
  have hfin:=I.fin
  rw [List.take_of_length_le (by omega)] at hfin
  simp [Zid,f1,f2,f30,f31,f32,hst,hlt']
  exact hQ _ _ _ hfin I.keep
structure N81 (H0:Hp) (po eb:Nat) (own out:Ts) (va vs0 w vp:V) (L:Ts) (i:Nat) (vs:V) (F:Fr) (H:Hp):Prop where
 le:i<=L.length
 fin:OutAt H po ((L.take i).foldl (useP own) out) vs
 keep:FKeep H0 po .nils vs0 H .nils vs
 f1:F.get 1=some va
 f2:F.get 2=some (.ptr po 0)
 f3:F.get 3=some (.ptr eb 0)
 f19:F.get 22=some w
 f20:F.get 23=some (.int .i64 L.length)
 f21:F.get 24=some (.int .i64 i)
theorem Zns {K:Nat->Prop} {H0:Hp} {po eb:Nat} {own out:Ts} {va vs0 w vp:V} {L:Ts} (hK:Dj K H0 po .nils vs0) (hA:Z0 K H0 own va) (hT:Z0 K H0 L w) (hb:own.length+out.length+L.length<=1099511627776) {F:Fr} {H:Hp} {Q:PC} {vs:V} (h0:N81 H0 po eb own out va vs0 w vp L 0 vs F H)
  (hQ:∀ vs' F' H',OutAt H' po (L.foldl (useP own) out) vs'->FKeep H0 po .nils vs0 H' .nils vs'->F'.get 1=some va->F'.get 2=some (.ptr po 0)->F'.get 3=some (.ptr eb 0)->Q (.exit 0) F' H'):WC tab (.loop Zki) F H Q:=by
 refine Xh (fun k F H=>∃ i vs,i+k=L.length/\N81 H0 po eb own out va vs0 w vp L i vs F H) (m:=L.length) ⟨0,vs,by omega,h0⟩ ?_
 rintro k F H ⟨i,vs,hi,I⟩
 have hst:=I.keep.st
 have f1:=I.f1;have f2:=I.f2;have f3:=I.f3;have f19:=I.f19;have f20:=I.f20;have f21:=I.f21
 by_cases hlt:i < L.length
 ·have hlt' : (i:Int) < (L.length:Int):=by omega
  have hTi:=hT.mono (hK.stays I.keep)
  obtain ⟨b,off,cap,e,ro,cells,rfl,g1,g2,g3,g4,g5⟩:=Z0.at_ hTi hlt
  have hw:wr .i64 ((i:Int)+1)=((i+1:Nat):Int):=by rw [Wf (by omega) (by omega)];omega
  simp [Zki,f1,f2,f19,f20,f21,hst,hlt,hlt',g1,g5]
  have hfl:=Zae own (L.take i) out
  have htl:(L.take i).length<=i:=by simp;omega
  refine (Zk7 hst I.fin (hA.mono (hK.stays I.keep)) (by omega) (by omega)).mono ?_
  rintro u H2 ⟨vs',hF2,hk2⟩
  simp [f21,hw,hk2.st]
  have hs:useP own ((L.take i).foldl (useP own) out) L[i]=(L.take (i+1)).foldl (useP own) out:=by rw [List.take_succ_eq_append_getElem hlt,List.foldl_append];rfl
  rw [hs] at hF2
  exact ⟨k-1,by omega,i+1,by omega,vs',by omega,hF2,I.keep.trans hk2,by simp [f1],by simp [f2],by simp [f3],by simp [f19],by simp [f20],by simp⟩
 ·have hlt' : ¬ (i:Int) < (L.length:Int):=by omega
  have hfin:=I.fin
  rw [List.take_of_length_le (by omega)] at hfin
  simp [Zki,f1,f2,f19,f20,f21,hst,hlt']
  exact hQ _ _ _ hfin I.keep (by simp [f1]) (by simp [f2]) (by simp [f3])
end Go.AM.YtlillgmgpmbfnaaGreatDoorT
set_option maxRecDepth 100000
namespace Go.AM.YtlillgmgpmbfnaaGreatDoorT
open Go Go.AM Go.Proofs
theorem Zmv {body:List Tx} (hB:BlR body) {op:Nat} {num:Int} {text:List UInt8} {parts:List Tx} {params:Ts} {H:Hp} {cs:List V} {K:Nat->Prop} (hst:H.stale=[]) (hT:Ze K H (.ex op num text parts params body) cs) (hK:∀ b,K b->b < H.next) (hb:params.length+wts body<=1099511627776) :
  WF tab 36 [.agg cs] H fun w H'=>SlAt H' 9 1 w (freeB body params []).length ((freeB body params []).map .str)/\(∀ b∈Za w,H.next<=b/\b < H'.next)/\Ext noX H H':=by
 refine wf36 (Zs _ ?_)
 have hT0:=hT
 simp only [Ze] at hT
 obtain ⟨vp,vq,vb,rfl,t1,t2,t3⟩:=hT
 have n1:=t1.one;have n2:=t2.one;have n3:=t3.one
 simp [hst,n1,n2,n3,Hp.get_new]
 have hg:∀ o o' b,b < H.next->((H.new o).new o').get b=H.get b:=fun o o' b hb=>by simp [Hp.get_new,Zp hb]
 have hS:∀ o o',Stays K K H ((H.new o).new o'):=fun o o'=>⟨fun b hb _=>hb,fun b hb hx=>hg o o' b hx,by simp;omega⟩
 have hF:OutAt ((H.new (.row 35 6 false [.int .i64 op,.int .i64 num,.str text,vp,vq,vb])).new (.row 33 1 false [.nils])) (H.next+1) [] .nils:=⟨by simp [Hp.get_new],by simp,.nil,fun b hb=>by simp [Za] at hb⟩
 refine (hB _ (H.next+1) params [] vq .nils vb K (by simp [hst]) hF (t3.mono (hS _ _) (ElsAt.mono (hS _ _) body)) (t2.mono (hS _ _) fun _ h=>h) (fun b hb=>⟨by have:=hK b hb;simp;omega,by have:=hK b hb;omega,by simp [Za],by simp [Za]⟩) (by simp;omega)).mono ?_
 rintro u H2 ⟨vs',hF2,hk2⟩
 have s2:=hk2.st
 have hrow:=hF2.row
 have c1:=hF2.ss.one;have c2:=hF2.ss.cells
 have l2:=hk2.le
 simp at l2
 simp [s2,hrow,c1,c2]
 have hr:∀ b,b∈Za vs'->H.next<=b:=fun b hb=>by
  rcases hk2.own b (.inr hb) with g | g | g
  ·simp [Za] at g
  ·simp [Za] at g
  ·simp at g;omega
 refine ⟨hF2.ss,fun b hb=>⟨hr b hb,(hF2.rs b hb).1⟩,s2,by omega,fun b hb _=>?_⟩
 rw [hk2.get b (by simp;omega) (by omega) (by simp [Za]) (by simp [Za])]
 exact hg _ _ b hb
theorem Z51 {op:Nat} {num:Int} {text:List UInt8} {parts:List Tx} {params:Ts} {body:List Tx} (hP:∀ p∈parts,ExR p) (hB:BlR body):ExR (.ex op num text parts params body):=by
 intro H po own out va vs cs K hst hF hT hA hK hb
 refine wf97 (Zs _ ?_)
 have hT0:=hT
 simp only [Ze] at hT
 obtain ⟨vp,vq,vb,rfl,t1,t2,t3⟩:=hT
 simp only [Tx.wt] at hb
 have n1:=t1.one;have n2:=t2.one;have n3:=t3.one
 have c1:=t1.cells;have c2:=t2.cells;have c3:=t3.cells
 have hlt:=hF.lt
 -- the parts
 have tail:∀ (F' : Fr) (H' : Hp) (o1:Ts) (vs1:V),o1.length<=out.length+1+wts body->Xv (.ex op num text parts params body) own out=freeEs parts own o1->OutAt H' po o1 vs1->FKeep H po .nils vs H' .nils vs1->F'.get 1=some va->F'.get 2=some (.ptr po 0)->F'.get 34=some vp->F'.get 35=some (.int .i64 parts.length)->F'.get 36=some (.int .i64 0) ->
   WC tab (.loop Zid) F' H' (Vi 2 (resQ tab [] fun _ H'=>∃ vs',OutAt H' po (Xv (.ex op num text parts params body) own out) vs'/\FKeep H po .nils vs H' .nils vs')):=by
  intro F' H' o1 vs1 a1 a2 a3 a4 b1 b2 b30 b31 b32
  rw [a2]
  have st:=hK.stays a4
  have hst':=a4.st
  refine Zma (H0:=H') (own:=own) (parts:=parts) (v:=vp) (po:=po) (va:=va) (out:=o1) (vs0:=vs1) (vs:=vs1) hP (hK.keep a4) (hA.mono st) (t1.mono st (ElsAt.mono st parts)) (by omega) ⟨Nat.zero_le _,by simpa only [List.take_zero,freeEs] using a3,FKeep.refl hst',b1,b2,b30,b31,by simpa using b32⟩ ?_
  intro vs' F2 H2 g1 g2
  simp only [Ze7,if_true]
  simp [resQ]
  exact ⟨vs',g1,a4.trans g2⟩
 have hkn:∀ o:Ob,FKeep H po .nils vs (H.new o) .nils vs:=fun o=>FKeep.news (by simp [hst]) (by simp) fun b hb=>by simp [Hp.get_new,Zp hb]
 have hfn:∀ o:Ob,OutAt (H.new o) po out vs:=fun o=>hF.keep (by simp) fun b hb=>by simp [Hp.get_new,Zp hb]
 have l1:=t1.len 35
 by_cases h5:op=5
 ·subst h5
  simp [hst,n1,n2,n3,Hp.get_new,c1,c2,c3]
  refine (Zk7 (by simp [hst]) (hfn _) (hA.mono (hK.stays (hkn _))) (by omega) (by omega)).mono ?_
  rintro w H2 ⟨vs',hF2,hk2⟩
  have kk:=(hkn (.row 35 6 false [.int .i64 5,.int .i64 num,.str text,vp,vq,vb])).trans hk2
  have hE:H2.get H.next=some (.row 35 6 false [.int .i64 5,.int .i64 num,.str text,vp,vq,vb]):=by
   rw [hk2.get H.next (by simp) (by omega) (by simp [Za]) (fun h=>?_)]
   ·simp [Hp.get_new]
   ·have:=(hF.rs _ h).1;omega
  simp [kk.st,hE,l1]
  exact tail _ _ (useP own out text) vs' (by have:=U7 own out text;omega) (by simp [Xv]) hF2 kk (by simp) (by simp) (by simp) (by simp) (by simp)
 by_cases h17:op=17
 ·subst h17
  simp [hst,n1,n2,n3,Hp.get_new,c1,c2,c3]
  have hT1:Ze K (H.new (.row 35 6 false [.int .i64 17,.int .i64 num,.str text,vp,vq,vb])) (.ex 17 num text parts params body) [.int .i64 17,.int .i64 num,.str text,vp,vq,vb]:=Ze.mono (hK.stays (hkn _)) _ _ hT0
  refine (Zmv hB (by simp [hst]) hT1 (fun b hb=>by have:=(hK b hb).1;simp;omega) (by omega)).mono ?_
  rintro w H2 ⟨hS,hr,hX⟩
  have s2:=hX.st
  have l2:=hX.le
  simp at l2
  have hE:H2.get H.next=some (.row 35 6 false [.int .i64 17,.int .i64 num,.str text,vp,vq,vb]):=by
   rw [hX.get H.next (by simp) (fun h=>h)];simp [Hp.get_new]
  have k2:FKeep H po .nils vs H2 .nils vs:=(hkn _).trans (FKeep.news s2 hX.le fun b hb=>hX.get b hb fun h=>h)
  have hF2:OutAt H2 po out vs:=(hfn _).keep hX.le fun b hb=>hX.get b hb fun h=>h
  have hLb:=freeB_len body params []
  simp only [List.length_nil] at hLb
  generalize hL:freeB body params []=L at *
  have hTL:Z0 (fun b=>b∈Za w) H2 L w:=Z0.of_slAt hS (fun b hb=>⟨hb,(hr b hb).2⟩) rfl
  have lw:=hTL.len 9
  simp [s2,lw,hTL.one,hTL.cells]
  refine Zns (K:=fun b=>K b\/b∈Za w) (H0:=H2) (po:=po) (eb:=H.next) (own:=own) (out:=out) (va:=va) (vs0:=vs) (w:=w) (vp:=w) (L:=L) (vs:=vs) (fun b hb=>?_) (hA.mono ⟨fun b hb _=>.inl hb,fun b hb hx=>k2.get b hx (hK b hb).2.1 (hK b hb).2.2.1 (hK b hb).2.2.2,k2.le⟩) (hTL.mono ⟨fun b hb _=>.inr hb,fun _ _ _=>rfl,Nat.le_refl _⟩) (by omega) ⟨Nat.zero_le _,by simpa using hF2,FKeep.refl s2,by simp,by simp,by simp,by simp,by simp,by simp⟩ ?_
  ·have hlt':=hF.lt
   rcases hb with hb | hb
   ·exact hK.keep k2 b hb
   ·have h1:=hr b hb
    simp at h1
    exact ⟨by omega,by omega,by simp [Za],fun h=>by have:=(hF.rs _ h).1;omega⟩
  ·intro vs' F' H3 g1 g2 g3 g5 g4
   have kk:=k2.trans g2
   have hE3:H3.get H.next=some (.row 35 6 false [.int .i64 17,.int .i64 num,.str text,vp,vq,vb]):=by
    rw [g2.get H.next (by omega) (by omega) (by simp [Za]) (fun h=>?_)]
    ·exact hE
    ·have:=(hF.rs _ h).1;omega
   simp [kk.st,hE3,l1,g3,g4,g5]
   have hfl:=Zae own L out
   exact tail _ _ (L.foldl (useP own) out) vs' (by omega) (by simp [Xv,hL]) g1 kk (by simp [g3]) (by simp [g5]) (by simp) (by simp) (by simp)
 ·have e5:((op:Int)==5)=false:=beq_false_of_ne (by omega)
  have e17:((op:Int)==17)=false:=beq_false_of_ne (by omega)
  simp [hst,n1,n2,n3,Hp.get_new,c1,c2,c3,e5,e17,l1]
  exact tail _ _ out vs (by omega) (by simp [Xv,h5,h17]) (hfn _) (hkn _) (by simp) (by simp) (by simp) (by simp) (by simp)
end Go.AM.YtlillgmgpmbfnaaGreatDoorT
set_option maxRecDepth 100000
namespace Go.AM.YtlillgmgpmbfnaaGreatDoorT
open Go Go.AM Go.Proofs
structure J53 (F0:Fr) (H0:Hp) (po:Nat) (own out:Ts) (va vs0 v:V) (parts:List Tx) (i:Nat) (vs:V) (F:Fr) (H:Hp):Prop where
 le:i<=parts.length
 fin:OutAt H po (freeEs (parts.take i) own out) vs
 keep:FKeep H0 po .nils vs0 H .nils vs
 f1:F.get 1=some va
 f2:F.get 2=some (.ptr po 0)
 f7:F.get 7=F0.get 7
 f13:F.get 13=F0.get 13
 f14:F.get 14=F0.get 14
 f15:F.get 15=F0.get 15
 f30:F.get 20=some v
 f31:F.get 21=some (.int .i64 parts.length)
 f32:F.get 22=some (.int .i64 i)
theorem Zk6 {K:Nat->Prop} {H0:Hp} {po:Nat} {own out:Ts} {va vs0 v:V} {parts:List Tx} (hP:∀ p∈parts,ExR p) (hK:Dj K H0 po .nils vs0) (hA:Z0 K H0 own va) (hT:Zk K H0 parts v) (hb:own.length+out.length+wts parts<=1099511627776) {F0 F:Fr} {H:Hp} {Q:PC} {vs:V} (h0:J53 F0 H0 po own out va vs0 v parts 0 vs F H)
  (hQ:∀ vs' F' H',OutAt H' po (freeEs parts own out) vs'->FKeep H0 po .nils vs0 H' .nils vs'->F'.get 1=some va->F'.get 2=some (.ptr po 0)->F'.get 7=F0.get 7->F'.get 13=F0.get 13->F'.get 14=F0.get 14->F'.get 15=F0.get 15->Q (.exit 2) F' H'):WC tab (.loop Zhg) F H Q:=by
 refine Xh (fun k F H=>∃ i vs,i+k=parts.length/\J53 F0 H0 po own out va vs0 v parts i vs F H) (m:=parts.length) ⟨0,vs,by omega,h0⟩ ?_
 rintro k F H ⟨i,vs,hi,I⟩
 have hst:=I.keep.st
 have f1:=I.f1;have f2:=I.f2;have f30:=I.f30;have f31:=I.f31;have f32:=I.f32
 by_cases hlt:i < parts.length
 ·have hlt' : (i:Int) < (parts.length:Int):=by omega
  have hTi:=hT.mono (hK.stays I.keep)
  obtain ⟨b,off,cap,e,ro,cells,d0,d1,d2,d3,d4,d5,rfl,g1,g2,g3,g4,g5,g6,g7,n0,n1,n2,n3,n4,n5⟩:=Zk.at_ hTi hlt
  have hw:wr .i64 ((i:Int)+1)=((i+1:Nat):Int):=by
   have:=Jz parts
   rw [Wf (by omega) (by omega)];omega
  have hoff:off+i*6+6<=cells.length:=by omega
  simp [Zhg,f1,f2,f30,f31,f32,hst,hlt,hlt',g1,g4,g5,g6,hoff,n0,n1,n2,n3,n4,n5]
  have hfin:=I.fin
  have hfl:=freeEs_len (parts.take i) own out
  have hwt:=U8 parts i hlt
  have hNk:∀ o o' : Ob,FKeep H po .nils vs ((H.new o).put H.next o') .nils vs:=fun o o'=>FKeep.news (by simp [hst]) (by simp) (fun b hb=>by simp [Hp.get_new,Hp.get_put,Zp hb])
  have hK1:=(hK.keep I.keep).keep (hNk (.row 35 6 false [.int .i64 0,.int .i64 0,.str [],.nils,.nils,.nils]) (.row 35 6 false [d0,d1,d2,d3,d4,d5]))
  refine (hP parts[i] (List.getElem_mem hlt) _ po own _ va vs _ K (by simp [hst]) (hfin.keep (by simp) fun b hb=>by simp [Hp.get_new,Hp.get_put,Zp hb]) (Ze.mono ((hK.keep I.keep).stays (hNk _ _)) _ _ g7) ((hA.mono (hK.stays I.keep)).mono ((hK.keep I.keep).stays (hNk _ _))) hK1 (by omega)).mono ?_
  rintro w H2 ⟨vs',hF2,hk2⟩
  simp [f32,hw,hk2.st]
  have hs:Xv parts[i] own (freeEs (parts.take i) own out)=freeEs (parts.take (i+1)) own out:=by rw [List.take_succ_eq_append_getElem hlt,Ux]
  rw [hs] at hF2
  exact ⟨k-1,by omega,i+1,by omega,vs',by omega,hF2,(I.keep.trans (hNk _ _)).trans hk2,by simp [f1],by simp [f2],by simp [I.f7],by simp [I.f13],by simp [I.f14],by simp [I.f15],by simp [f30],by simp [f31],by simp⟩
 ·have hlt' : ¬ (i:Int) < (parts.length:Int):=by omega
  have hfin:=I.fin
  rw [List.take_of_length_le (by omega)] at hfin
  simp [Zhg,f1,f2,f30,f31,f32,hst,hlt']
  exact hQ _ _ _ hfin I.keep (by simp [f1]) (by simp [f2]) (by simp [I.f7]) (by simp [I.f13]) (by simp [I.f14]) (by simp [I.f15])
structure BS (H0:Hp) (po:Nat) (vs0:V) (sb:Nat) (row:Ob) (own out:Ts) (vo vs:V) (H:Hp):Prop where
 fin:OutAt H po out vs
 keep:FKeep H0 po .nils vs0 H .nils vs
 so:SlAt H 9 1 vo own.length (own.map .str)
 ro:∀ b∈Za vo,H0.next<=b/\b < H.next/\b≠po/\b∉Za vs
 sg:H.get sb=some row
 sn:sb < H.next/\sb≠po/\sb∉Za vo/\sb∉Za vs
section
variable {K:Nat->Prop} {H0 H H' : Hp} {po sb:Nat} {row:Ob} {own out out' : Ts} {vs0 vo vs vs' : V}
theorem BS.step (h:BS H0 po vs0 sb row own out vo vs H) (hF:OutAt H' po out' vs') (hk:FKeep H po .nils vs H' .nils vs'):BS H0 po vs0 sb row own out' vo vs' H':=by
 have hl:=hk.le
 have hg:∀ b,b < H.next->b≠po->b∉Za vs->H'.get b=H.get b:=fun b h1 h2 h3=>hk.get b h1 h2 (by simp [Za]) h3
 have hn:∀ b,b < H.next->b∉Za vs->b∉Za vs':=fun b h1 h2 h3=>by
  rcases hk.own b (.inr h3) with g | g | g
  ·simp [Za] at g
  ·exact h2 g
  ·omega
 refine ⟨hF,h.keep.trans hk,h.so.of_get fun b hb=>?_,fun b hb=>?_,?_,?_⟩
 ·have:=h.ro b hb;exact hg b this.2.1 this.2.2.1 this.2.2.2
 ·have:=h.ro b hb;exact ⟨this.1,by omega,this.2.2.1,hn b this.2.1 this.2.2.2⟩
 ·rw [hg sb h.sn.1 h.sn.2.1 h.sn.2.2.2];exact h.sg
 ·exact ⟨by have:=h.sn.1;omega,h.sn.2.1,h.sn.2.2.1,hn sb h.sn.1 h.sn.2.2.2⟩
theorem BS.dj (h:BS H0 po vs0 sb row own out vo vs H) (hK:Dj K H0 po .nils vs0):Dj (fun b=>K b\/b∈Za vo) H po .nils vs:=fun b hb=>by
 rcases hb with hb | hb
 ·exact hK.keep h.keep b hb
 ·have:=h.ro b hb;exact ⟨this.2.1,this.2.2.1,by simp [Za],this.2.2.2⟩
theorem BS.strs (h:BS H0 po vs0 sb row own out vo vs H):Z0 (fun b=>K b\/b∈Za vo) H own vo:=Z0.of_slAt h.so (fun b hb=>⟨.inr hb,(h.ro b hb).2.1⟩) rfl
theorem BS.tr (h:BS H0 po vs0 sb row own out vo vs H) (hK:Dj K H0 po .nils vs0):Stays K (fun b=>K b\/b∈Za vo) H0 H:=⟨fun b hb _=>.inl hb,(hK.stays h.keep).get,h.keep.le⟩
theorem BS.app {H3 H4:Hp} {v' : V} {name:List UInt8} (h:BS H0 po vs0 sb row own out vo vs H) (hS:SlAt H3 9 1 v' (own.length+1) (own.map .str++[.str name])) (hA:AppR H vo H3 v') (hs4:H4.stale=[]) (hn4:H3.next<=H4.next) (hg:∀ b,H4.get b=H3.flush.get b):BS H0 po vs0 sb row (own++[name]) out v' vs H4:=by
 have hst:=h.keep.st
 obtain ⟨k1,k2,k3,k4,k5⟩:=Wa hst hS hA
 rw [Hp.next_flush] at k4 k5
 have hle:=h.keep.le
 have hgo:∀ b,b < H.next->b∉Za vo->H4.get b=H.get b:=fun b h1 h2=>by rw [hg b,k2 b h1 h2]
 have hlt:=h.fin.lt
 have hpo:po∉Za vo:=fun hx=>(h.ro po hx).2.2.1 rfl
 have hvs:∀ b∈Za vs,b∉Za vo:=fun b hb hx=>(h.ro b hx).2.2.2 hb
 refine ⟨⟨by rw [hgo po hlt hpo];exact h.fin.row,by omega,h.fin.ss.of_get fun b hb=>hgo b (h.fin.rs b hb).1 (hvs b hb),fun b hb=>⟨by have:=(h.fin.rs b hb).1;omega,(h.fin.rs b hb).2⟩⟩,⟨hs4,by omega,fun b hb h1 h2 h3=>?_,h.keep.own⟩,?_,fun b hb=>?_,?_,?_⟩
 ·rw [hgo b (by omega) (fun hx=>by have:=(h.ro b hx).1;omega)]
  exact h.keep.get b hb h1 h2 h3
 ·rw [List.length_append,List.map_append]
  exact k1.of_get fun b hb=>hg b
 ·obtain ⟨g1,g2⟩:=k5 b hb
  rcases g2 with g2 | g2
  ·have:=h.ro b g2;exact ⟨this.1,by omega,this.2.2⟩
  ·exact ⟨by omega,by omega,by omega,fun hx=>by have:=(h.fin.rs b hx).1;omega⟩
 ·rw [hgo sb h.sn.1 h.sn.2.2.1];exact h.sg
 ·refine ⟨by have:=h.sn.1;omega,h.sn.2.1,fun hx=>?_,h.sn.2.2.2⟩
  rcases (k5 sb hx).2 with g | g
  ·exact h.sn.2.2.1 g
  ·have:=h.sn.1;omega
end
end Go.AM.YtlillgmgpmbfnaaGreatDoorT
set_option maxRecDepth 100000
namespace Go.AM.YtlillgmgpmbfnaaGreatDoorT
open Go Go.AM Go.Proofs
structure O53 (H0:Hp) (po:Nat) (own1 out:Ts) (vs0 v:V) (l:List Tx) (i:Nat) (vo vs:V) (F:Fr) (H:Hp):Prop where
 le:i<=l.length
 fin:OutAt H po (freeB (l.take i) own1 out) vs
 keep:FKeep H0 po .nils vs0 H .nils vs
 so:SlAt H 9 1 vo (Yr (l.take i) own1).length ((Yr (l.take i) own1).map .str)
 ro:∀ b∈Za vo,H0.next<=b/\b < H.next/\b≠po/\b∉Za vs
 f1:F.get 1=some vo
 f2:F.get 2=some (.ptr po 0)
 f13:F.get 13=some v
 f14:F.get 14=some (.int .i64 l.length)
 f15:F.get 15=some (.int .i64 i)
def Z64:SCode:=.seq (.reg Zuy) (.seq (.reg Ztt) (.seq (.seq (.reg Zrh) (.cond (.tmp 55) (.dreg Zut) (.skip))) (.reg Zsv)))
def InR:Tx->Prop
 | .st _ _ es b e _=>(∀ x∈es,ExR x)/\BlR b/\BlR e
 | .ex ..=>False
theorem Znt {K:Nat->Prop} {H0:Hp} {po:Nat} {own1 out:Ts} {vs0 v:V} {l:List Tx} (hP:∀ s∈l,InR s) (hK:Dj K H0 po .nils vs0) (hT:Zk K H0 l v) (hb:own1.length+out.length+wts l<=1099511627776) (hpo:po < H0.next) {F:Fr} {H:Hp} {Q:PC} {vo vs:V} (h0:O53 H0 po own1 out vs0 v l 0 vo vs F H)
  (hQ:∀ vs' F' H',OutAt H' po (freeB l own1 out) vs'->FKeep H0 po .nils vs0 H' .nils vs'->Q (.exit 0) F' H'):WC tab (.loop Zpd) F H Q:=by
 refine Xh (fun k F H=>∃ i,i+k=l.length/\∃ vo vs,O53 H0 po own1 out vs0 v l i vo vs F H) (m:=l.length) ⟨0,by omega,vo,vs,h0⟩ ?_
 rintro k F H ⟨i,hi,vo,vs,I⟩
 have hL:Zpd = .seq (.reg Zyb) (.seq (.cond (.tmp 16) (.skip) (.exit 0)) (.seq (.block 1 (.seq (.reg Zxl) (.seq (.seq (.reg Zxf) (.block 2 (.loop Zhg))) (.seq (.seq (.reg Zxk) (.block 4 (.seq (.reg Zt6) (.cond (.tmp 33) (.reg Zqj) (.seq (.reg Zrb) (.cond (.tmp 40) (.reg Zuc) (.skip))))))) Z64)))) (.reg Zl9))):=rfl
 rw [hL]
 have hst:=I.keep.st
 have f1:=I.f1;have f2:=I.f2;have f13:=I.f13;have f14:=I.f14;have f15:=I.f15
 by_cases hlt:i < l.length
 ·have hlt' : (i:Int) < (l.length:Int):=by omega
  have hTi:=hT.mono (hK.stays I.keep)
  obtain ⟨b,off,cap,e,ro,cells,d0,d1,d2,d3,d4,d5,rfl,g1,g2,g3,g4,g5,g6,g7,n0,n1,n2,n3,n4,n5⟩:=Zk.at_ hTi hlt
  have hll:=Jz l
  have hw:wr .i64 ((i:Int)+1)=((i+1:Nat):Int):=by rw [Wf (by omega) (by omega)];omega
  have hoff:off+i*6+6<=cells.length:=by omega
  have hPi:=hP l[i] (List.getElem_mem hlt)
  have hwt:=U8 l i hlt
  have htk:Yr (l.take (i+1)) own1=ownP (Yr (l.take i) own1) l[i]:=by rw [List.take_succ_eq_append_getElem hlt,Yr,Yr,List.foldl_append];rfl
  have hfk:freeB (l.take (i+1)) own1 out=Wk l[i] (Yr (l.take i) own1) (freeB (l.take i) own1 out):=by rw [List.take_succ_eq_append_getElem hlt,Zdd]
  have hol:=Zd6 (l.take i) own1 out
  have hfin:=I.fin
  have hso:=I.so
  have hro:=I.ro
  have hKi:=hK.keep I.keep
  have fin:∀ (F' : Fr) (H' : Hp) (vo' vs' : V) (sb:Nat) (row:Ob),BS H0 po vs0 sb row (ownP (Yr (l.take i) own1) l[i]) (Wk l[i] (Yr (l.take i) own1) (freeB (l.take i) own1 out)) vo' vs' H'->F'.get 1=some vo'->F'.get 2=some (.ptr po 0)->F'.get 13=some (.sl b off l.length cap 6)->F'.get 14=some (.int .i64 l.length)->F'.get 15=some (.int .i64 (i+1:Nat))->∃ m',m' < k/\∃ i,i+m' = l.length/\∃ vo vs,O53 H0 po own1 out vs0 (.sl b off l.length cap 6) l i vo vs F' H':=fun F' H' vo' vs' sb row B b1 b2 b13 b14 b15 =>
   ⟨k-1,by omega,i+1,by omega,vo',vs',by omega,by rw [hfk];exact B.fin,B.keep,by rw [htk];exact B.so,B.ro,b1,b2,b13,b14,b15⟩
  generalize hown:Yr (l.take i) own1=own at *
  generalize hout:freeB (l.take i) own1 out=ou at *
  generalize hs:l[i]=s at *
  match s,hPi with
  | .st kind name es sbd els at_,hPi =>
   obtain ⟨p1,p2,p3⟩:=hPi
   have g7':=g7
   simp only [Ze] at g7'
   obtain ⟨ve,vb,vl,hcs,t1,t2,t3⟩:=g7'
   cases hcs
   simp only [Tx.wt] at hwt
   simp [f1,f2,f13,f14,f15,hst,hlt,hlt',g1,g4,g5,g6,hoff,n0,n1,n2,n3,n4,n5,Hp.get_new,Hp.get_put,t1.len 35]
   have hlt0:=hfin.lt
   have hg0:∀ o o' : Ob,∀ b,b < H.next->((H.new o).put H.next o').get b=H.get b:=fun o o' b hb=>by simp [Hp.get_new,Hp.get_put,Zp hb]
   have k00:FKeep H po .nils vs ((H.new (.row 30 6 false [.int .i64 0,.str [],.nils,.nils,.nils,.int .i64 0])).put H.next (.row 30 6 false [.int .i64 kind,.str name,d2,d3,d4,.int .i64 at_])) .nils vs:=FKeep.news (by simp [hst]) (by simp) (hg0 _ _)
   have hF0:=hfin.keep k00.le (hg0 _ _)
   have B0:BS H0 po vs0 H.next (.row 30 6 false [.int .i64 kind,.str name,d2,d3,d4,.int .i64 at_]) own ou vo vs ((H.new (.row 30 6 false [.int .i64 0,.str [],.nils,.nils,.nils,.int .i64 0])).put H.next (.row 30 6 false [.int .i64 kind,.str name,d2,d3,d4,.int .i64 at_])) :=
    ⟨hF0,I.keep.trans k00,hso.of_get fun b hb=>hg0 _ _ b (hro b hb).2.1,fun b hb=>⟨(hro b hb).1,by have:=(hro b hb).2.1;simp;omega,(hro b hb).2.2⟩,by simp [Hp.get_put],by simp,by omega,fun h=>by have:=(hro _ h).2.1;omega,fun h=>by have:=(hfin.rs _ h).1;omega⟩
   have s1:=hKi.stays k00
   generalize hH1:((H.new (.row 30 6 false [.int .i64 0,.str [],.nils,.nils,.nils,.int .i64 0])).put H.next (.row 30 6 false [.int .i64 kind,.str name,d2,d3,d4,.int .i64 at_]))=H1 at *
   have tS:∀ {H' : Hp} {own' o2:Ts} {vo2 vs2:V} (R:Nat->Prop),BS H0 po vs0 H.next (.row 30 6 false [.int .i64 kind,.str name,d2,d3,d4,.int .i64 at_]) own' o2 vo2 vs2 H'->Stays K (fun b=>K b\/R b) H H':=fun {H' own' o2 vo2 vs2} R B =>
    ⟨fun b hb _=>.inl hb,fun b hb _=>((hK.stays B.keep).get b hb (hK b hb).1).trans ((hK.stays I.keep).get b hb (hK b hb).1).symm,by have:=B.sn.1;omega⟩
   -- from the bodies on
   have tail:∀ (F' : Fr) (H' : Hp) (own' o2:Ts) (vo2 vs2:V),BS H0 po vs0 H.next (.row 30 6 false [.int .i64 kind,.str name,d2,d3,d4,.int .i64 at_]) own' o2 vo2 vs2 H'->ownP own (.st kind name es sbd els at_)=own'->Wk (.st kind name es sbd els at_) own ou=freeB els (if kind=7 then own'++[name] else own') (freeB sbd own' o2)->own'.length+o2.length+wts sbd+wts els<=1099511627776->(kind=7->own'.length+o2.length+1+wts sbd+wts els<=1099511627776)->F'.get 1=some vo2->F'.get 2=some (.ptr po 0)->F'.get 7=some (.ptr H.next 0)->F'.get 13=some (.sl b off l.length cap 6)->F'.get 14=some (.int .i64 l.length)->F'.get 15=some (.int .i64 i) ->
     wp tab Z64 F' H' (Vi 1 (sqQ tab (.reg Zl9) (Zbi (fun k F H=>∃ i,i+k=l.length/\∃ vo vs,O53 H0 po own1 out vs0 (.sl b off l.length cap 6) l i vo vs F H) k Q))):=by
    intro F' H' own' o2 vo2 vs2 B a3 a4 a5 a6 b1 b2 b7 b13 b14 b15
    have e2:=B.sg
    have m1:=B.so.one;have m2:=B.so.cells
    simp [Z64,b1,b2,b7,B.keep.st,e2]
    refine (p2 H' po own' o2 vo2 vs2 d3 (fun b=>K b\/b∈Za vo2) B.keep.st B.fin (t2.mono (tS _ B) (ElsAt.mono (tS _ B) sbd)) B.strs (B.dj hK) (by omega)).mono ?_
    rintro w H3 ⟨vs3,hF3,hk3⟩
    have B3:=B.step hF3 hk3
    have e3:=B3.sg
    have hfl:=freeB_len sbd own' o2
    have s3:=hk3.st
    have m1:=B3.so.one;have m2:=B3.so.cells
    by_cases hk7:kind=7
    ·subst hk7
     rw [if_pos rfl] at a4
     have a7:=a6 rfl
     simp [b1,b2,b7,s3,e3]
     refine (Zla s3 (K:=fun b=>K b\/b∈Za vo2) B3.strs (by omega) (fun b hb=>(B3.ro b hb).2.1)).mono ?_
     rintro u H4 ⟨hS4,hr4,hX4⟩
     have s4:=hX4.st
     have l4:=hX4.le
     have e4:H4.get H.next=_:=(hX4.get H.next B3.sn.1 (fun h=>h)).trans e3
     simp [b7,s3,s4,e3,e4,eqV]
     have hg4:∀ b,b < H3.next->H4.get b=H3.get b:=fun b hb=>hX4.get b hb (fun h=>h)
     have hS4' : SlAt H4.bump 9 1 u own'.length (own'.map .str):=hS4.of_get fun _ _=>rfl
     refine Zgs (H:=H4.bump) (e0:=9) (cells:=[.str name]) (by simp [Zb]) ty9 (by decide) (by simp) (by simp) hS4' (fun b hb=>⟨by have:=(hr4 b hb).2;show b < H4.next+1;omega,by simp [s4]⟩) rfl (by show (own'.length+1)*16<=_;omega) (by omega) (by simp [s4]) fun v' H5 hS hA=>?_
     obtain ⟨k1,k2,k3,k4,k5⟩:=Wa (H:=H4.bump) (by simp [s4]) hS hA
     rw [Hp.next_flush] at k4 k5
     have hbn:H4.bump.next=H4.next+1:=rfl
     have c5:=hS.one;have c6:=hS.cells
     have hg5:∀ b,b < H3.next->H5.flush.get b=H3.get b:=fun b hb=>by
      rw [k2 b (by omega) (fun hx=>by have:=(hr4 b hx).1;omega)]
      exact hg4 b hb
     have hgB:∀ H6:Hp,H6.stale=[]->H5.next<=H6.next->(∀ b,H6.get b=H5.flush.get b)->BS H0 po vs0 H.next (.row 30 6 false [.int .i64 7,.str name,d2,d3,d4,.int .i64 at_]) own' (freeB sbd own' o2) vo2 vs3 H6/\SlAt H6 9 1 v' (own'++[name]).length ((own'++[name]).map .str)/\(∀ b∈Za v',H3.next<=b/\b < H6.next):=fun H6 q1 q2 q3=>by
      refine ⟨B3.step (B3.fin.keep (by omega) fun b hb=>by rw [q3,hg5 b hb]) (FKeep.news q1 (by omega) fun b hb=>by rw [q3,hg5 b hb]),?_,fun b hb=>?_⟩
      ·rw [List.length_append,List.map_append];exact k1.of_get fun b _=>q3 b
      ·obtain ⟨g1,g2⟩:=k5 b hb
       rcases g2 with g2 | g2
       ·have:=hr4 b g2;exact ⟨this.1,by omega⟩
       ·exact ⟨by omega,by omega⟩
     have hsn:=B3.sn.1
     obtain ⟨y1,y2⟩:=hA.keep H.next (by omega) (fun hx=>by have:=(hr4 _ hx).1;omega) (by simp [s4])
     have y3:H5.get H.next=_:=y1.trans e4
     simp [c5,c6,b2,b7,y2,y3]
     obtain ⟨B6,S6,r6⟩:=hgB H5.bump.flush (by simp) (by simp) (fun b=>by rw [Hp.get_flush,Hp.get_flush];rfl)
     have hfb:=B6.fin
     have hD6:Dj (fun b=>K b\/b∈Za v') H5.bump.flush po .nils vs3:=fun b hb=>by
      rcases hb with hb | hb
      ·exact B6.dj hK b (.inl hb)
      ·have h9:=B3.fin.lt
       have:=r6 b hb
       exact ⟨this.2,by omega,by simp [Za],fun h=>by have:=(B3.fin.rs _ h).1;omega⟩
     refine (p3 H5.bump.flush po (own'++[name]) _ v' vs3 d4 (fun b=>K b\/b∈Za v') (by simp) B6.fin (t3.mono (tS _ B6) (ElsAt.mono (tS _ B6) els)) (Z0.of_slAt S6 (fun b hb=>⟨.inr hb,(r6 b hb).2⟩) rfl) hD6 (by simp;omega)).mono ?_
     rintro w' H7 ⟨vs4,hF4,hk4⟩
     have B4:=B6.step hF4 hk4
     simp [b15,hw,hk4.st]
     rw [a3,a4] at fin
     exact fin _ _ vo2 vs4 _ _ B4 (by simp [b1]) (by simp [b2]) (by simp [b13]) (by simp [b14]) (by simp)
    ·have e7:((kind:Int)==7)=false:=beq_false_of_ne (by omega)
     rw [if_neg hk7] at a4
     simp [b1,b2,b7,s3,e3,e7]
     refine (p3 H3 po own' _ vo2 vs3 d4 (fun b=>K b\/b∈Za vo2) s3 B3.fin (t3.mono (tS _ B3) (ElsAt.mono (tS _ B3) els)) B3.strs (B3.dj hK) (by omega)).mono ?_
     rintro w' H4 ⟨vs4,hF4,hk4⟩
     have B4:=B3.step hF4 hk4
     simp [b15,hw,hk4.st]
     rw [a3,a4] at fin
     exact fin _ _ vo2 vs4 _ _ B4 (by simp [b1]) (by simp [b2]) (by simp [b13]) (by simp [b14]) (by simp)
   refine Zk6 (F0:=_) (K:=fun b=>K b\/b∈Za vo) (H0:=H1) (own:=own) (out:=ou) (po:=po) (va:=vo) (vs0:=vs) (v:=d2) (parts:=es) (vs:=vs) p1 (B0.dj hK) B0.strs (t1.mono (tS _ B0) (ElsAt.mono (tS _ B0) es)) (by omega) ⟨Nat.zero_le _,by simpa only [List.take_zero,freeEs] using hF0,FKeep.refl k00.st,by simp [f1],by simp [f2],rfl,rfl,rfl,rfl,by simp,by simp,by simp⟩ ?_
   intro vs1 F1 H2 hF1 hk1 b1 b2 b7 b13 b14 b15
   simp at b7
   simp [f13] at b13
   simp [f14] at b14
   simp [f15] at b15
   have B2:=B0.step hF1 hk1
   have hE2:=B2.sg
   have hel:=freeEs_len es own ou
   have hs2:=hk1.st
   by_cases hk0:kind=0
   ·subst hk0
    simp [b1,b2,b7,b13,b14,b15,hs2,hE2]
    refine Zag (H:=H2) (e0:=9) (cells:=[.str name]) (by simp [Zb]) ty9 (by decide) (by simp [b1]) (by simp) B2.so (fun b hb=>⟨(B2.ro b hb).2.1,by simp [hs2]⟩) rfl (by show (own.length+1)*16<=_;omega) (by omega) (by simp [hs2]) fun v' H3 hS hA=>?_
    have c5:=hS.one;have c6:=hS.cells
    simp [c5,c6]
    have B3:=B2.app (H3:=H3) (H4:=H3.flush) hS hA (by simp) (by simp) (fun b=>rfl)
    exact tail _ _ (own++[name]) (freeEs es own ou) v' vs1 B3 (by simp [ownP]) (by simp [Wk]) (by simp;omega) (by omega) (by simp) (by simp [b2]) (by simp [b7]) (by simp [b13]) (by simp [b14]) (by simp [b15])
   by_cases hk1' : kind=1
   ·subst hk1'
    simp [b1,b2,b7,b13,b14,b15,hs2,hE2]
    refine (Zk7 hs2 B2.fin (K:=fun b=>K b\/b∈Za vo) B2.strs (by omega) (by omega)).mono ?_
    rintro w H3 ⟨vs2,hF3,hk3⟩
    have hul:=U7 own (freeEs es own ou) name
    simp [hk3.st]
    exact tail _ _ own (useP own (freeEs es own ou) name) vo vs2 (B2.step hF3 hk3) (by simp [ownP]) (by simp [Wk]) (by omega) (by omega) (by simp [b1]) (by simp [b2]) (by simp [b7]) (by simp [b13]) (by simp [b14]) (by simp [b15])
   ·have e0:((kind:Int)==0)=false:=beq_false_of_ne (by omega)
    have e1:((kind:Int)==1)=false:=beq_false_of_ne (by omega)
    simp [b1,b2,b7,b13,b14,b15,hs2,hE2,e0,e1]
    exact tail _ _ own (freeEs es own ou) vo vs1 B2 (by simp [ownP,hk0]) (by simp [Wk,hk0,hk1']) (by omega) (by omega) (by simp [b1]) (by simp [b2]) (by simp [b7]) (by simp [b13]) (by simp [b14]) (by simp [b15])
 ·have hlt' : ¬ (i:Int) < (l.length:Int):=by omega
  have hfin:=I.fin
  rw [List.take_of_length_le (by omega)] at hfin
  simp [f1,f2,f13,f14,f15,hst,hlt']
  exact hQ _ _ _ hfin I.keep
end Go.AM.YtlillgmgpmbfnaaGreatDoorT
set_option maxRecDepth 100000
namespace Go.AM.YtlillgmgpmbfnaaGreatDoorT
open Go Go.AM Go.Proofs
theorem Zh3 {l:List Tx} (hP:∀ s∈l,InR s):BlR l:=by
 intro H po own out va vs v K hst hF hT hA hK hb
 refine wf64 (Zs _ ?_)
 have n1:=hA.one;have n2:=hA.cells;have n3:=hT.one;have n4:=hT.cells
 have l1:=hT.len 30
 simp [hst,n1,n2]
 have hva:∀ b∈Za va,b < H.next:=fun b hb=>by
  rcases hA with ⟨rfl | rfl,h0⟩ | ⟨b',off,cap,e,ro,cells,rfl,h1,h2,h3,h4,h5,h6⟩
  ·simp [Za] at hb
  ·simp [Za] at hb
  ·simp [Za] at hb;subst hb;exact h3
 refine (Zla hst hA (by omega) hva).mono ?_
 rintro w H1 ⟨hS,hr,hX⟩
 have s1:=hX.st
 have l1':=hX.le
 have m1:=hS.one;have m2:=hS.cells
 have hlt:=hF.lt
 have hg:∀ b,b < H.next->H1.get b=H.get b:=fun b hb=>hX.get b hb (fun h=>h)
 simp [s1,m1,m2,n3,n4,l1]
 refine Znt (K:=K) (H0:=H) (po:=po) (own1:=own) (out:=out) (vs0:=vs) (v:=v) (l:=l) (vo:=w) (vs:=vs) hP hK hT (by omega) hlt ⟨Nat.zero_le _,by simpa only [List.take_zero,freeB] using hF.keep l1' hg,FKeep.news s1 l1' hg,by simpa only [List.take_zero,Yr,List.foldl_nil] using hS,fun b hb=>⟨(hr b hb).1,(hr b hb).2,by have:=(hr b hb).1;omega,fun h=>by have:=(hF.rs b h).1;have:=(hr b hb).1;omega⟩,by simp,by simp,by simp,by simp,by simp⟩ ?_
 intro vs' F' H' g1 g2
 simp
 exact ⟨vs',g1,g2⟩
mutual
theorem Zz8:∀ (t:Tx),t.eok->ExR t
 | .ex op num text parts params body,h=>by
  simp only [Tx.eok] at h
  exact Z51 (exRs_all parts h.1) (Zh3 (inRs_all body h.2))
 | .st ..,h=>by simp only [Tx.eok] at h
theorem exRs_all:∀ (l:List Tx),eoks l->∀ x∈l,ExR x
 | [],_,x,hx=>by simp at hx
 | y :: r,h,x,hx=>by
  simp only [eoks] at h
  rcases List.mem_cons.1 hx with e | hx
  ·rw [e];exact Zz8 y h.1
  ·exact exRs_all r h.2 x hx
theorem Z12:∀ (t:Tx),t.sok->InR t
 | .st kind name es b e at_,h=>by
  simp only [Tx.sok] at h
  exact ⟨exRs_all es h.1,Zh3 (inRs_all b h.2.1),Zh3 (inRs_all e h.2.2)⟩
 | .ex ..,h=>by simp only [Tx.sok] at h
theorem inRs_all:∀ (l:List Tx),soks l->∀ x∈l,InR x
 | [],_,x,hx=>by simp at hx
 | y :: r,h,x,hx=>by
  simp only [soks] at h
  rcases List.mem_cons.1 hx with e | hx
  ·rw [e];exact Z12 y h.1
  ·exact inRs_all r h.2 x hx
end
theorem Zmw {K K' : Nat->Prop} {H:Hp} {l l' : Ts} {v v' : V} (hst:H.stale=[]) (h:Z0 K H l v) (h' : Z0 K' H l' v') (hl:l.length<=1099511627776):WF tab 34 [v,v'] H fun w H'=>w = .bool (decide (l=l'))/\Ext noX H H':=by
 refine wf34 (Zs _ ?_)
 have h1:=h.len 9;have h2:=h.one;have h3:=h.cells
 have h1':=h'.len 9;have h2':=h'.one;have h3':=h'.cells
 by_cases hn:l.length=l'.length
 ·have e0:((l.length:Int) != (l'.length:Int))=false:=by rw [hn];exact bne_self_eq_false _
  simp [hst,h1,h2,h3,h1',h2',h3',e0]
  refine Xh (fun k F H'=>∃ i,i+k=l.length/\l.take i=l'.take i/\H'.stale=[]/\Ext noX H H'/\F.get 0=some v/\F.get 1=some v'/\F.get 12=some (.int .i64 l.length)/\F.get 13=some (.int .i64 i)) (m:=l.length) ⟨0,by omega,by simp,hst,Ext.refl hst,by simp,by simp,by simp,by simp⟩ ?_
  rintro k F H' ⟨i,hi,hp,hs',hX,f0,f1,f12,f13⟩
  by_cases hlt:i < l.length
  ·have hlt' : (i:Int) < (l.length:Int):=by omega
   have hltn:i < l'.length:=by omega
   have hl3:(i:Int) < (l'.length:Int):=by omega
   have hw:wr .i64 ((i:Int)+1)=((i+1:Nat):Int):=by rw [Wf (by omega) (by omega)];omega
   obtain ⟨b,off,cap,e,ro,cells,rfl,g1,g2,g3,g4,g5⟩:=Z0.at_ h hlt
   obtain ⟨b',off',cap',e',ro',cells',rfl,g1',g2',g3',g4',g5'⟩:=Z0.at_ h' hltn
   have r1:=(hX.get b g3 (fun h=>h)).trans g1
   have r2:=(hX.get b' g3' (fun h=>h)).trans g1'
   by_cases he:l[i]=l'[i]
   ·have he' : (l[i]==l'[i])=true:=by rw [he];exact beq_self_eq_true _
    simp [Zkr,f0,f1,f12,f13,hs',hlt,hlt',hltn,hl3,r1,r2,g5,g5',he',hw]
    have hn1:l.take (i+1)=l'.take (i+1):=by rw [List.take_succ_eq_append_getElem hlt,List.take_succ_eq_append_getElem hltn,hp,he]
    exact ⟨k-1,by omega,i+1,by omega,hn1,hX,by omega⟩
   ·have he' : (l[i]==l'[i])=false:=beq_false_of_ne he
    have hne:l≠l':=fun e=>he (by simp [e])
    simp [Zkr,f0,f1,f12,f13,hs',hlt,hlt',hltn,hl3,r1,r2,g5,g5',he',hne]
    exact hX
  ·have hlt' : ¬ (i:Int) < (l.length:Int):=by omega
   rw [List.take_of_length_le (by omega),List.take_of_length_le (by omega)] at hp
   subst hp
   simp [Zkr,f0,f1,f12,f13,hs',hlt,hlt']
   exact hX
 ·have e0:((l.length:Int) != (l'.length:Int))=true:=bne_iff_ne.2 (by omega)
  have:l≠l':=fun e=>hn (by rw [e])
  simp [hst,h1,h2,h3,h1',h2',h3',e0,this]
  exact Ext.refl hst
end Go.AM.YtlillgmgpmbfnaaGreatDoorT
set_option maxRecDepth 100000
namespace Go.AM.YtlillgmgpmbfnaaGreatDoorT
open Go Go.AM Go.Proofs
def sixT:List (List UInt8):=[[108,101,110],[102,114,101,101,122,101],[102,114,111,122,101,110],[98,114,97,110,100],[107,105,110,100],[116,101,120,116]]
abbrev sixO:Ob:=.row 140 1 true (sixT.map V.str)
theorem Zzp {K:Nat->Prop} {H:Hp} {l:Ts} {v:V} {name:List UInt8} (hst:H.stale=[]) (h:Z0 K H (name :: l) v) (hl:l.length<=1000):WF tab 93 [v,.str name] H fun w H'=>w = .int .i64 0/\H' = H:=by
 refine wf93 (Zs _ ?_)
 have h1:=h.len 9
 have h2:=h.one;have h3:=h.cells
 obtain ⟨b,off,cap,e,ro,cells,rfl,g1,g2,g3,g4,g5⟩:=Z0.at_ h (show 0 < (name :: l).length by simp)
 simp at h1 g5
 simp [hst,h1,h2,h3]
 refine Xh (fun k F H'=>H' = H/\F.get 0=some (.sl b off (l.length+1) cap 1)/\F.get 1=some (.str name)/\F.get 7=some (.int .i64 (l.length+1))/\F.get 8=some (.int .i64 0)) (m:=0) ⟨rfl,by simp,by simp,by simp,by simp⟩ ?_
 rintro k F _ ⟨rfl,f0,f1,f7,f8⟩
 have hp:(0:Int) < (l.length:Int)+1:=by omega
 simp [Zhc,f0,f1,f7,f8,hst,g1,g5,hp]
theorem Zvk {H:Hp} (hst:H.stale=[]) (hw:H.get 3=some sixO) (hlt:3 < H.next):WF tab1 62 [.str [108,101,110]] H fun w H'=>w = .int .i64 0/\H' = H:=by
 refine wf62 (Zs _ ?_)
 have hl:sixT.length=6:=rfl
 simp [hst,hw,hl]
 refine (to1 (Zzp (K:=fun _=>True) hst (l:=sixT.tail) (v:=.sl 3 0 6 (some 6) 1) (.inr ⟨3,0,_,140,true,_,rfl,hw,trivial,hlt,by simp,by decide,rfl,fun c hc=>by cases hc;decide⟩) (by decide))).mono ?_
 rintro _ H1 ⟨rfl,rfl⟩
 simp [hst]
def tx8:Bs:=[102,110,40,97,41,32,123,32,114,101,116,117,114,110,32,97,32,43,32,98,59,32,125,59]
def bd8:List Tx:=[.st 5 [] [.ex 8 0 [] [.ex 5 0 [97] [] [] [],.ex 5 0 [98] [] [] []] [] []] [] [] 8]
theorem exY8:Xq tx8=⟨[.st 8 [] [.ex 17 0 [] [] [[97]] bd8] [] [] 0],0,0⟩:=by kernel_rfl
theorem Yc1:freeB bd8 [[97]] []=[[98]]:=by kernel_rfl
theorem Yau:soks bd8:=by simp [bd8,soks,Tx.sok,eoks,Tx.eok]
theorem Zq5 {N:Nat} {H:Hp} (h6:WF tab 14 [] H fun v H'=>v = .bool true/\Ext noX H H') (hG:Gd H) (hL:LvG N H) (hN:N<=H.next) (hw:H.get 3=some sixO) (hlt:3 < N):WF tab1 32 [] H fun v H'=>v = .bool true/\Ext noX H H':=by
 refine wf32 (Zs _ ?_)
 have hst:=hG.st
 simp [hst]
 refine (Zqm h6 hG hL hN).mono ?_
 rintro v H1 ⟨rfl,X1⟩
 have st1:=X1.st
 simp [st1]
 refine (Zgh (hG.ext X1 (fun h=>h)) (hL.ext hN X1) (by have:=X1.le;omega) tx8 (by decide)).mono ?_
 rintro _ H2 ⟨v,rfl,hv,X2⟩
 rw [exY8] at hv ⊢
 have st2:=X2.st
 obtain ⟨b,off,cap,e,ro,cells,d0,d1,d2,d3,d4,d5,rfl,g1,g2,g3,g4,g5,g6,g7,g8⟩:=Zk.at_ hv (show 0 < 1 by decide)
 replace g7:Ze (since H1 H2) H2 (.st 8 [] [.ex 17 0 [] [] [[97]] bd8] [] [] 0) [d0,d1,d2,d3,d4,d5]:=g7
 simp only [Ze] at g7
 obtain ⟨ve,vb,vl,h1,h2,h3,h4⟩:=g7
 cases h1
 obtain ⟨b',off',cap',e',ro',cells',c0,c1,c2,c3,c4,c5,rfl,k1,k2,k3,k4,k5,k6,k7,k8⟩:=Zk.at_ h2 (show 0 < 1 by decide)
 replace k7:Ze (since H1 H2) H2 (.ex 17 0 [] [] [[97]] bd8) [c0,c1,c2,c3,c4,c5]:=k7
 have q2:cells[off+2]? = some (.sl b' off' 1 cap' 6):=by have:=congrArg (·[2]?) g6;simpa using this
 simp at k6
 have k5' : off' + 6<=cells'.length:=by simpa using k5
 simp [st2,g1,q2,k1,k6,k5']
 have hle:=X2.le
 refine (to1 (Zgt (Zd9 (inFs_all _ Yau)) st2 (K:=since H1 H2) k7 (fun b hb=>hb.2) (by decide))).mono ?_
 rintro w H3 ⟨hS,hr,X3⟩
 rw [Yc1] at hS
 have st3:=X3.st
 have w1:=hS.one;have w2:=hS.cells
 simp [st3,w1,w2]
 have X4:Ext noX H3 (H3.new (.row 9 1 false [.str [98]])):=Ext.new st3 _
 have g4:(H3.new (.row 9 1 false [.str [98]])).get H3.next=some (.row 9 1 false [.str [98]]):=by simp
 have n4:(H3.new (.row 9 1 false [.str [98]])).next=H3.next+1:=rfl
 generalize H3.new (.row 9 1 false [.str [98]])=H4 at *
 have st4:=X4.st
 have hS4:SlAt H4 9 1 w 1 [.str [98]]:=hS.of_get fun b hb=>X4.get b (hr b hb).2 (fun h=>h)
 refine (to1 (Zmw (K:=fun _=>True) (K':=fun _=>True) (l:=[[98]]) (l':=[[98]]) st4 (Z0.of_slAt hS4 (fun b hb=>⟨trivial,by have:=(hr b hb).2;omega⟩) rfl) (.inr ⟨H3.next,0,none,9,false,_,rfl,g4,trivial,by omega,by simp,by decide,rfl,nofun⟩) (by decide))).mono ?_
 rintro _ H5 ⟨rfl,X5⟩
 have st5:=X5.st
 have X15:=((X1.trans X2).trans X3).trans (X4.trans X5)
 simp [st5]
 refine (Zvk st5 (by rw [X15.get _ (by omega) (fun h=>h)];exact hw) (by have:=X15.le;omega)).mono ?_
 rintro _ H6 ⟨rfl,rfl⟩
 simp [st5]
 exact X15
end Go.AM.YtlillgmgpmbfnaaGreatDoorT
set_option maxRecDepth 100000
namespace Go.AM.YtlillgmgpmbfnaaGreatDoorT
open Go Go.AM Go.Proofs
abbrev exR (c0 c1 c2 v c4 c5:V):Ob:=.row 35 6 false [c0,c1,c2,v,c4,c5]
def Zbb (H:Hp) (v:V) (l:List Nat):Prop:=(v = .nils\/v = .sle)/\l=[]\/∃ b e,v = .sl b 0 l.length none 1/\b < H.next/\H.get b=some (.row e 1 true (l.map fun n=>.int .u8 (n:Nat)))
theorem Zbb.len {H:Hp} {v:V} {l:List Nat} (h:Zbb H v l) (e:TypeId):lenV v (some (.slice e))=some (.int .i64 l.length):=by
 rcases h with ⟨rfl | rfl,rfl⟩ | ⟨b,e',rfl,_⟩<;>rfl
theorem Zbb.ext {H H' : Hp} {v:V} {l:List Nat} (h:Zbb H v l) (hX:Ext noX H H'):Zbb H' v l:=by
 rcases h with h | ⟨b,e,h1,h2,h3⟩
 ·exact .inl h
 ·exact .inr ⟨b,e,h1,Nat.lt_of_lt_of_le h2 hX.le,by rw [hX.get b h2 (fun h=>h)];exact h3⟩
def fnN (ps:List Nat):Ts:=(ps.take 3).map Za9
structure J30 (H0:Hp) (re r0:Nat) (va vb:V) (ps:List Nat) (body:List Tx) (i:Nat) (v:V) (F:Fr) (H:Hp):Prop where
 le:i<=ps.length
 row:H.get re=some (exR (.int .i64 17) (.int .i64 0) (.str []) .nils v vb)
 r0r:∃ cs,H.get r0=some (.row 35 6 false cs)/\cs.length=6
 o0:H0.next<=r0
 o1:r0 < re
 o2:re < H.next
 gro:SGro H0 H (twoR re r0) 9 v (fnN (ps.take i))
 sb:Zk (Kv H0 (twoR re r0) v) H body vb
 ext:Ext noX H0 H
 f4:F.get 4=some (.ptr r0 0)
 f5:F.get 5=some (.ptr re 0)
 f11:F.get 11=some va
 f12:F.get 12=some (.int .i64 ps.length)
 f13:F.get 13=some (.int .i64 i)
theorem Zwj {ps:List Nat} {i:Nat} (hi:i < ps.length) (h3:i < 3):fnN (ps.take (i+1))=fnN (ps.take i)++[Za9 ps[i]]:=by
 unfold fnN
 rw [List.take_take,List.take_take,show min 3 (i+1)=i+1 by omega,show min 3 i=i by omega,List.take_succ_eq_append_getElem hi,List.map_append]
 rfl
theorem Zwm {ps:List Nat} {i:Nat} (h3:¬ i < 3):fnN (ps.take (i+1))=fnN (ps.take i):=by
 unfold fnN
 rw [List.take_take,List.take_take,show min 3 (i+1)=3 by omega,show min 3 i=3 by omega]
theorem Zn4 (ps:List Nat):(fnN ps).length<=3:=by simp [fnN];omega
theorem Z1o {H0:Hp} {va:V} {ps:List Nat} (hst:H0.stale=[]) (hP:Zbb H0 va ps) (hp8:∀ n∈ps,n < 256) (hpl:ps.length<=9223372036854775807) :
  WF tab 33 [va,.nils] H0 fun w H'=>∃ cs,w = .agg cs/\Ze (since H0 H') H' (.ex 17 0 [] [] (fnN ps) []) cs/\Ext noX H0 H':=by
 refine wf33 (Zs _ ?_)
 simp [hst]
 have e0:∀ o,Ext noX H0 (H0.new o):=fun o=>Ext.new hst o
 refine (Zvd (by simp [hst])).mono ?_
 rintro vb H1 ⟨hT1,hX1⟩
 have s1:=hX1.st
 have l1:=hX1.le
 simp at l1
 have n1:=hT1.one;have n2:=hT1.cells
 have hln:=(hP.len 42)
 have g0:H1.get H0.next=some (.row 35 6 false [.int .i64 0,.int .i64 0,.str [],.nils,.nils,.nils]):=by rw [hX1.get _ (by simp) (fun h=>h)];simp [Hp.get_new]
 have hlen:lenV va (some (.slice 5))=some (.int .i64 ps.length):=hP.len _
 simp [s1,n1,n2,hlen]
 have hgn:∀ o o' b,b < H1.next->((H1.new o).put H1.next o').get b=H1.get b:=fun o o' b hb=>by simp [Hp.get_new,Hp.get_put,Zp hb]
 refine Xh (fun k F H=>∃ i v,i+k=ps.length/\J30 H0 H1.next H0.next va vb ps [] i v F H) (m:=ps.length) ⟨0,.nils,by omega,⟨Nat.zero_le _,by simp [Hp.get_put],⟨_,by rw [hgn _ _ _ (by omega)];exact g0,rfl⟩,Nat.le_refl _,by omega,by simp,⟨by simp [s1],by simp;omega,.nil,by simp [Za]⟩,hT1.mono ⟨fun b hb hx=>?_,fun b hb hx=>hgn _ _ b hx,by simp⟩,⟨by simp [s1],by simp;omega,fun b hb hx=>?_⟩,by simp,by simp,by simp,by simp,by simp⟩⟩ ?_
 ·have hb1:=hb.1
  have hb2:=hb.2
  rw [Hp.next_new] at hb1
  refine ⟨by omega,fun h=>?_,by simp [Za]⟩
  rcases h with h | h<;>omega
 ·rw [hgn _ _ b (by omega),hX1.get b (by simp;omega) hx,Z9 _ (by omega)]
 rintro k F H ⟨i,v,hi,I⟩
 have hs:=I.gro.st
 have f4:=I.f4;have f5:=I.f5;have f11:=I.f11;have f12:=I.f12;have f13:=I.f13
 have hgr:=I.row
 by_cases hlt:i < ps.length
 ·have hlt' : (i:Int) < (ps.length:Int):=by omega
  have hw:wr .i64 ((i:Int)+1)=((i+1:Nat):Int):=by rw [Wf (by omega) (by omega)];omega
  have hPi:=hP.ext I.ext
  obtain ⟨b,e,rfl,y1,y2⟩:∃ b e,va = .sl b 0 ps.length none 1/\b < H.next/\H.get b=some (.row e 1 true (ps.map fun n=>.int .u8 (n:Nat))):=by
   rcases hPi with ⟨_,h0⟩ | h
   ·subst h0;simp at hlt
   ·exact h
  have y3:(ps.map fun n=>V.int .u8 ((n:Nat):Int))[i]? = some (.int .u8 (ps[i]:Nat)):=by simp [hlt]
  generalize hps:(ps.map fun n=>V.int .u8 ((n:Nat):Int))=cells at *
  by_cases h3:i < 3
  ·have h3' : (i:Int) < 3:=by omega
   simp [Zkm,f4,f5,f11,f12,f13,hs,hlt,hlt',h3,h3',y2,y3,hgr]
   refine (Z0z hs ps[i]).mono ?_
   rintro w H2 ⟨rfl,hX2⟩
   have s2:=hX2.st
   have l2:=hX2.le
   have c1:=I.o1;have c0:=I.o0;have c3:=I.o2
   have hsl:=I.gro.sl
   have hrows:=I.gro.rows
   have hl0:=I.gro.le
   have g2:H2.get H1.next=some (exR (.int .i64 17) (.int .i64 0) (.str []) .nils v vb):=hX2.keep c3 I.row
   have hsl2:SlAt H2.bump 9 1 v (fnN (ps.take i)).length ((fnN (ps.take i)).map .str):=hsl.of_get fun b hb=>by
    have:=hrows b hb
    show H2.get b=H.get b
    exact hX2.get b this.2.1 (fun h=>h)
   have hev:=hsl.eqv
   have hlen3:=Zn4 (ps.take i)
   simp [s2,f5,g2,hgr,hev,hs]
   refine Zgs (H:=H2.bump) (e0:=9) (cells:=[.str (Za9 ps[i])]) (by simp [Zb]) ty9 (by decide) (by simp [f5]) (by simp) hsl2 (fun b hb=>⟨by have:=(hrows b hb).2.1;show b < H2.next+1;omega,by simp [s2]⟩) rfl (by show ((fnN (ps.take i)).length+1)*16<=_;omega) (by omega) (by simp [s2]) fun v' H3 hS hA=>?_
   obtain ⟨kre1,kre2⟩:=hA.keep H1.next (by show H1.next < H2.next+1;omega) (fun h=>(hrows H1.next h).2.2 (.inl rfl)) (by simp [s2])
   have kre3:H3.get H1.next=some (exR (.int .i64 17) (.int .i64 0) (.str []) .nils v vb):=kre1.trans g2
   have hc':=hS.cells
   have ho':=hS.one
   have q2:=I.sb.one
   simp [f5,kre2,kre3,hc',ho',f13,hw,q2]
   have hnx:=hA.le
   have hbn:H2.bump.next=H2.next+1:=rfl
   have hg4:∀ b,¬ twoR H1.next H0.next b->((H3.bump.flush.put H1.next (exR (.int .i64 17) (.int .i64 0) (.str []) .nils v' vb)).bump).get b=H3.flush.get b:=fun b hb=>by
    have:b≠H1.next:=fun h=>hb (.inl h)
    simp [Hp.get_put,Zi this]
   have hs4:((H3.bump.flush.put H1.next (exR (.int .i64 17) (.int .i64 0) (.str []) .nils v' vb)).bump).stale=[]:=by simp
   have hn4:H3.next<=((H3.bump.flush.put H1.next (exR (.int .i64 17) (.int .i64 0) (.str []) .nils v' vb)).bump).next:=by simp;omega
   have hgre:((H3.bump.flush.put H1.next (exR (.int .i64 17) (.int .i64 0) (.str []) .nils v' vb)).bump).get H1.next=some (exR (.int .i64 17) (.int .i64 0) (.str []) .nils v' vb):=by simp
   obtain ⟨G4,keep⟩:=I.gro.step (H4:=(H3.bump.flush.put H1.next (exR (.int .i64 17) (.int .i64 0) (.str []) .nils v' vb)).bump) (X:=noX) (fun b hb=>by rcases hb with h | h<;>omega) hX2 hS (.inr rfl) hA hs4 hn4 hg4
   have hvn:∀ b,b < H0.next->b∉Za v:=fun b hb h=>by have:=(hrows b h).1;omega
   have keepR:∀ b,b < H2.next->b≠H1.next->b∉Za v->((H3.bump.flush.put H1.next (exR (.int .i64 17) (.int .i64 0) (.str []) .nils v' vb)).bump).get b=H2.get b:=fun b hb hne hnr=>by
    obtain ⟨kr1,kr2⟩:=hA.keep b (by show b < H2.next+1;omega) hnr (by simp [s2])
    simp [Hp.get_put,Zi hne,kr1,kr2]
   obtain ⟨cs,z1,z2⟩:=I.r0r
   have hQ:∀ H4:Hp,H4=((H3.bump.flush.put H1.next (exR (.int .i64 17) (.int .i64 0) (.str []) .nils v' vb)).bump)->∀ F' : Fr,F'.get 4=some (.ptr H0.next 0)->F'.get 5=some (.ptr H1.next 0)->F'.get 11=some (.sl b 0 ps.length none 1)->F'.get 12=some (.int .i64 ps.length)->F'.get 13=some (.int .i64 (i+1:Nat))->J30 H0 H1.next H0.next (.sl b 0 ps.length none 1) vb ps [] (i+1) v' F' H4:=by
    rintro H4 hH4 F' x4 x5 x11 x12 x13
    rw [<- hH4] at hgre hs4 hn4 G4 keepR
    have l4:H.next<=H4.next:=by omega
    have q0:H4.get H0.next=some (.row 35 6 false cs):=by
     rw [keepR H0.next (by omega) (by omega) (fun h=>(hrows H0.next h).2.2 (.inr rfl))];exact hX2.keep (by omega) z1
    have qs:Stays (Kv H0 (twoR H1.next H0.next) v) (Kv H0 (twoR H1.next H0.next) v') H H4:=by
     refine ⟨fun c hc hx=>⟨hc.1,hc.2.1,fun h=>?_⟩,fun c hc hx=>?_,l4⟩
     ·rcases (hA.new c h).2.2 with g | g
      ·exact hc.2.2 g
      ·have:H2.next+1<=c:=g;omega
     ·rw [keepR c (by omega) (fun h=>hc.2.1 (.inl h)) hc.2.2];exact hX2.get c hx (fun h=>h)
    have qe:Ext noX H0 H4:=⟨hs4,by omega,fun c hc hx=>by
     rw [keepR c (by omega) (by omega) (hvn c hc),hX2.get c (by omega) (fun h=>h)]
     exact I.ext.get c hc hx⟩
    exact ⟨by omega,hgre,⟨cs,q0,z2⟩,c0,c1,by omega,by rw [Zwj hlt h3];exact G4,I.sb.mono qs,qe,x4,x5,x11,x12,x13⟩
   exact ⟨k-1,by omega,i+1,by omega,v',hQ _ rfl _ (by simp [f4]) (by simp [f5]) (by simp [f11]) (by simp [f12]) (by simp)⟩
  ·have h3' : ¬ (i:Int) < 3:=by omega
   simp [Zkm,f4,f5,f11,f12,f13,hs,hlt,hlt',h3,h3',y2,y3,hw]
   exact ⟨k-1,by omega,i+1,by omega,v,⟨by omega,I.row,I.r0r,I.o0,I.o1,I.o2,by rw [Zwm h3];exact I.gro,I.sb,I.ext,by simp [f4],by simp [f5],by simp [f11],by simp [f12],by simp⟩⟩
 ·have hlt' : ¬ (i:Int) < (ps.length:Int):=by omega
  obtain ⟨cs,z1,z2⟩:=I.r0r
  have hsl:=I.gro.sl
  rw [List.take_of_length_le (by omega)] at hsl
  have q1:=hsl.one;have q3:=hsl.cells
  have q2:=I.sb.one;have q4:=I.sb.cells
  match cs,z2 with
  | [a0,a1,a2,a3,a4,a5],_ =>
   simp [Zkm,f4,f5,f11,f12,f13,hs,hlt',hgr,z1,q1,q2,q3,q4]
   have hro:=I.gro.rows
   have o0:=I.o0;have o1:=I.o1
   have hgo:∀ b o,b≠H0.next->(H.put H0.next o).get b=H.get b:=fun b o hb=>Zf _ hb
   have st:∀ o,Stays (Kv H0 (twoR H1.next H0.next) v) (since H0 (H.put H0.next o)) H (H.put H0.next o):=fun o=>⟨fun b hb hx=>⟨hb.1,hx⟩,fun b hb hx=>hgo b o (fun h=>hb.2.1 (.inr h)),Nat.le_refl _⟩
   refine ⟨?_,?_⟩
   ·simp only [Ze]
    refine ⟨_,_,_,rfl,Zzw,Z0.of_slAt (hsl.of_get fun b hb=>?_) (fun b hb=>?_) rfl,I.sb.mono (st _)⟩
    ·have:=hro b hb
     exact hgo b _ (fun h=>this.2.2 (.inr h))
    ·have:=hro b hb
     exact ⟨⟨this.1,this.2.1⟩,this.2.1⟩
   ·exact I.ext.putX _ (.inr (Nat.le_refl _))
end Go.AM.YtlillgmgpmbfnaaGreatDoorT
namespace Go.AM
open Go
def Wb {α:Type} (n:Nat) (r:PR α) (m:α->Nat):Prop:=∀ a l',r = .ok a l'->m a+l'.length<=n
section
variable {α β:Type} {n n' : Nat} {r:PR α} {m:α->Nat}
theorem Wb.bind {k:α->List Tk->PR β} {m' : β->Nat} (h:Wb n r m) (hk:∀ a l1,m a+l1.length<=n->Wb n' (k a l1) m'):Wb n' (r.bind k) m':=fun b l' e=>by
 cases r with
 | ok a l1=>exact hk a l1 (h a l1 rfl) b l' e
 | err x y=>cases e
 | out=>cases e
theorem Wb.ok {a:α} {l:List Tk} (h:m a+l.length<=n):Wb n (.ok a l) m:=fun _ _ e=>by cases e;exact h
theorem Wb.err {x:Nat} {y:Int}:Wb n (.err x y:PR α) m:=fun _ _ e=>by cases e
theorem Wb.out:Wb n (.out:PR α) m:=fun _ _ e=>by cases e
theorem Wb.ite {c:Prop} [Decidable c] {A B:PR α} (ha:c->Wb n A m) (hb:¬ c->Wb n B m):Wb n (if c then A else B) m:=by
 by_cases h:c
 ·rw [if_pos h];exact ha h
 ·rw [if_neg h];exact hb h
theorem Wb.le (h:Wb n r m) (hn:n<=n'):Wb n' r m:=fun a l' e=>Nat.le_trans (h a l' e) hn
end
theorem W6 {β:Type} {n:Nat} {m:β->Nat} (t:Bs) (l:List Tk) {k:Unit->List Tk->PR β} (hk:∀ a l1,1+l1.length<=l.length->Wb n (k a l1) m):Wb n ((Yf t l).bind k) m:=Wb.bind (n:=l.length) (m:=fun _=>1) (fun a l' e=>by have:=Un e;show 1+l'.length<=_;omega) hk
theorem Zc5 {β:Type} {n:Nat} {m:β->Nat} (l:List Tk) {k:Bs->List Tk->PR β} (hk:∀ a l1,1+l1.length<=l.length->Wb n (k a l1) m):Wb n ((Wd l).bind k) m:=Wb.bind (n:=l.length) (m:=fun _=>1) (fun a l' e=>by have:=Zin e;show 1+l'.length<=_;omega) hk
theorem Ziu {β:Type} {n:Nat} {m:β->Nat} (b:Bool) (l:List Tk) {k:Unit->List Tk->PR β} (hk:∀ a l1,l1.length<=l.length->Wb n (k a l1) m):Wb n ((W5 b l).bind k) m:=by
 refine Wb.bind (n:=l.length) (m:=fun _=>0) ?_ (fun a l1 h=>hk a l1 (by show l1.length<=_;have:0+l1.length<=l.length:=h;omega))
 unfold W5
 split
 ·exact .ok (by show 0+_<=_;omega)
 ·exact fun a l' e=>by have:=Un e;show 0+l'.length<=_;omega
theorem J7 (l:List Tx) (x:Tx):wts (l++[x])=wts l+x.wt:=by
 induction l with
 | nil=>simp [wts]
 | cons y r ih=>simp only [List.cons_append,wts,ih];omega
structure Wt (f:Nat):Prop where
 whole:∀ d l,Wb l.length (Zu f d l) Tx.wt
 expr:∀ n d l,Wb l.length (exprY f n d l) Tx.wt
 lvl:∀ n d e l,Wb (e.wt+l.length) (lvlY f n d e l) Tx.wt
 unary:∀ d l,Wb l.length (unaryY f d l) Tx.wt
 post:∀ d e l,Wb (e.wt+l.length) (postY f d e l) Tx.wt
 list:∀ d acc l,Wb (wts acc+l.length) (listY f d acc l) wts
 one:∀ d l,Wb l.length (oneY f d l) Tx.wt
 rec_:∀ d acc l,Wb (1+wts acc+l.length) (recY f d acc l) Tx.wt
 params:∀ acc l,Wb (acc.length+l.length) (Xy f acc l) List.length
 block:∀ d l,Wb l.length (blockY f d l) wts
 stmts:∀ d acc l,Wb (wts acc+l.length) (stmtsY f d acc l) wts
 stmt:∀ d l,Wb l.length (stmtY f d l) Tx.wt
theorem Zy8:Wt 0:=by
 constructor<;>intros<;>simp only [Zu,exprY,lvlY,unaryY,postY,listY,oneY,recY,Xy,blockY,stmtsY,stmtY]<;>exact .out
theorem Zlp {l:List Tk} {k:Int} (h:(hdT l).k=k) (hk:k≠0):l.tail.length < l.length:=Zb9 (by rw [h];exact hk)
theorem Zz4 {w:List Tk->PR Tx} (hw:∀ l,Wb l.length (w l) Tx.wt) (a:Nat) (e:Tx) (l:List Tk):Wb (e.wt+l.length) (Vg w a e l) Tx.wt:=by
 unfold Vg
 have hp:=e.wt_pos
 refine .ite (fun h=>?_) fun _=>W6 _ _ fun _ l1 h1=>.ok (by simp only [Tx.wt,wts];omega)
 have:=Zlp h.1 (by decide)
 split
 ·exact (hw _).bind fun x l1 h1=>W6 _ _ fun _ l2 h2=>.ok (by simp only [Tx.wt,wts];omega)
 ·exact (hw _).bind fun x l1 h1=>W6 _ _ fun _ l2 h2=>.ok (by simp only [Tx.wt,wts,J7] at *;omega)
 ·exact .err
theorem Z0o {f:Nat} (T:Wt f):Wt (f+1) where
 whole:=fun d l=>by simp only [Zu];exact .ite (fun _=>.err) fun _=>T.expr _ _ _
 expr:=fun n d l=>by simp only [exprY];exact .ite (fun _=>T.unary _ _) fun _=>(T.expr _ _ _).bind fun e l1 h1=>(T.lvl _ _ _ _).le h1
 lvl:=fun n d e l=>by
  simp only [lvlY]
  split
  ·exact .ok (Nat.le_refl _)
  ·rename_i op hc
   have:l.tail.length < l.length:=Zb9 fun h0=>by rw [h0] at hc;cases hc
   exact (T.expr _ _ _).bind fun y l1 h1=>.ite (fun _=>.ok (by simp only [Tx.wt,wts,List.length_nil];omega)) fun _=>(T.lvl _ _ _ _).le (by simp only [Tx.wt,wts,List.length_nil];omega)
 unary:=fun d l=>by
  simp only [unaryY]
  refine .ite (fun h=>.ite (fun _=>.err) fun _=>(T.unary _ _).bind fun e l1 h1=>.ok ?_) fun _=>.ite (fun h=>.ite (fun _=>.err) fun _=>(T.unary _ _).bind fun e l1 h1=>.ok ?_) fun _=>(T.one _ _).bind fun e l1 h1=>(T.post _ _ _).le h1
  ·have:=Zq h;simp only [Tx.wt,wts,List.length_nil];omega
  ·have:=Zq h;simp only [Tx.wt,wts,List.length_nil];omega
 post:=fun d e l=>by
  simp only [postY]
  refine .ite (fun h=>(T.list _ _ _).bind fun a l1 h1=>(T.post _ _ _).le ?_) fun _=>.ite (fun h=>(T.whole _ _).bind fun k l1 h1=>W6 _ _ fun _ l2 h2=>(T.post _ _ _).le ?_) fun _=>.ite (fun h=>Zc5 _ fun s l1 h1=>(T.post _ _ _).le ?_) fun _=>.ok (Nat.le_refl _)
  ·have:=Zq h;simp only [Tx.wt,wts,List.length_nil] at *;omega
  ·have:=Zq h;simp only [Tx.wt,wts,List.length_nil] at *;omega
  ·have:=Zq h;simp only [Tx.wt,wts,List.length_nil] at *;omega
 list:=fun d acc l=>by
  simp only [listY]
  refine .ite (fun h=>.ok (by have:=Zq h;omega)) fun _=>Ziu _ _ fun _ l1 h1=>(T.whole _ _).bind fun e l2 h2=>(T.list _ _ _).le (by rw [J7];omega)
 one:=fun d l=>by
  simp only [oneY]
  refine .ite (fun h=>.ok (by have:=Zlp h (by decide);simp only [Tx.wt,wts,List.length_nil];omega)) fun _=>?_
  refine .ite (fun h=>.ok (by have:=Zlp h (by decide);simp only [Tx.wt,wts,List.length_nil];omega)) fun _=>?_
  refine .ite (fun h=>.ok (by have:=Zq h;simp only [Tx.wt,wts,List.length_nil];omega)) fun _=>?_
  refine .ite (fun h=>.ok (by have:=Zq h;simp only [Tx.wt,wts,List.length_nil];omega)) fun _=>?_
  refine .ite (fun h=>.ok (by have:=Zq h;simp only [Tx.wt,wts,List.length_nil];omega)) fun _=>?_
  refine .ite (fun h=>(T.whole _ _).bind fun e l1 h1=>W6 _ _ fun _ l2 h2=>.ok (by have:=Zq h;omega)) fun _=>?_
  refine .ite (fun h=>(T.rec_ _ _ _).le (by have:=Zq h;simp only [wts];omega)) fun _=>?_
  refine .ite (fun h=>W6 _ _ fun _ l1 h1=>(T.params _ _).bind fun ps l2 h2=>(T.block _ _).bind fun b l3 h3=>.ok (by have:=Zq h;simp only [Tx.wt,wts,List.length_nil] at *;omega)) fun _=>?_
  exact Zc5 _ fun s l1 h1=>.ok (by simp only [Tx.wt,wts,List.length_nil];omega)
 rec_:=fun d acc l=>by
  simp only [recY]
  refine .ite (fun h=>.ok (by have:=Zq h;simp only [Tx.wt,wts,List.length_nil];omega)) fun _=>?_
  refine Ziu _ _ fun _ l1 h1=>Wb.bind (n:=l1.length) (m:=Tx.wt) (.ite (fun h=>(T.whole _ _).bind fun k l2 h2=>W6 _ _ fun _ l3 h3=>.ok (by have:=Zq h;omega)) fun _=>Zc5 _ fun s l2 h2=>.ok (by simp only [Tx.wt,wts,List.length_nil];omega)) fun k l2 h2=>?_
  exact W6 _ _ fun _ l3 h3=>(T.whole _ _).bind fun v l4 h4=>(T.rec_ _ _ _).le (by
   have:wts (acc++[k,v])=wts acc+k.wt+v.wt:=by
    rw [show acc++[k,v]=(acc++[k])++[v] by simp,J7,J7]
   omega)
 params:=fun acc l=>by
  simp only [Xy]
  exact .ite (fun h=>.ok (by have:=Zq h;omega)) fun _=>Ziu _ _ fun _ l1 h1=>Zc5 _ fun s l2 h2=>(T.params _ _).le (by simp;omega)
 block:=fun d l=>by
  simp only [blockY]
  exact W6 _ _ fun _ l1 h1=>.ite (fun _=>.err) fun _=>(T.stmts _ _ _).le (by simp only [wts];omega)
 stmts:=fun d acc l=>by
  simp only [stmtsY]
  exact .ite (fun h=>.ok (by have:=Zq h;omega)) fun _=>(T.stmt _ _).bind fun s l1 h1=>(T.stmts _ _ _).le (by rw [J7];omega)
 stmt:=fun d l=>by
  simp only [stmtY]
  refine .ite (fun h=>(T.whole _ _).bind fun e l1 h1=>W6 _ _ fun _ l2 h2=>.ok (by have:=Zq h;simp only [Tx.wt,wts];omega)) fun _=>?_
  refine .ite (fun h=>(T.whole _ _).bind fun e l1 h1=>W6 _ _ fun _ l2 h2=>.ok (by have:=Zq h;simp only [Tx.wt,wts];omega)) fun _=>?_
  refine .ite (fun h=>Zc5 _ fun s l0 h0=>W6 _ _ fun _ l1 h1=>(T.whole _ _).bind fun e l2 h2=>W6 _ _ fun _ l3 h3=>.ok (by have:=Zq h;simp only [Tx.wt,wts];omega)) fun _=>?_
  refine .ite (fun h=>(T.whole _ _).bind fun e l1 h1=>(T.block _ _).bind fun b l2 h2=>.ite (fun h'=>(T.block _ _).bind fun c l3 h3=>.ok (by have:=Zq h;have:=Zq h';simp only [Tx.wt,wts];omega)) fun _=>.ok (by have:=Zq h;simp only [Tx.wt,wts];omega)) fun _=>?_
  refine .ite (fun h=>(T.whole _ _).bind fun e l1 h1=>(T.block _ _).bind fun b l2 h2=>.ok (by have:=Zq h;simp only [Tx.wt,wts];omega)) fun _=>?_
  refine .ite (fun h=>(T.block _ _).bind fun b l1 h1=>W6 _ _ fun _ l2 h2=>Zc5 _ fun s l3 h3=>(T.block _ _).bind fun c l4 h4=>.ok (by have:=Zq h;simp only [Tx.wt,wts];omega)) fun _=>?_
  exact (T.whole _ _).bind fun e l1 h1=>(Zz4 (T.whole _) _ _ _).le h1
theorem Zqo:∀ f,Wt f
 | 0=>Zy8
 | f+1=>Z0o (Zqo f)
theorem Zxj:∀ (f:Nat) (acc:List Tx) (l:List Tk),Wb (wts acc+l.length) (modY f acc l) wts
 | 0,acc,l=>.out
 | f+1,acc,l=>by
  rw [modY]
  exact .ite (fun _=>.ok (Nat.le_refl _)) fun _=>((Zqo f).stmt _ _).bind fun s l1 h1=>(Zxj f _ _).le (by rw [J7];omega)
end Go.AM
namespace Go.AM.YtlillgmgpmbfnaaGreatDoorT
open Go Go.AM
theorem Zws (s:Bs):soks (Xq s).l:=by
 unfold Xq
 split
 ·simp [soks]
 ·split
  ·rename_i h;exact Zof _ _ _ (by simp [soks]) _ _ h
  ·simp [soks]
  ·simp [soks]
theorem Zv9 {s:Bs} (h:s.length<=8192):wts (Xq s).l<=8193:=by
 unfold Xq
 split
 ·simp [wts]
 ·rename_i he
  have he:(spF (s.length+1) s 0 []).2.2=0:=by simpa using he
  have hn:=(Zb1 (s.length+1) s 0 [] (by omega) he).2
  split
  ·rename_i L l' hm
   have:=Zxj _ _ _ L l' hm
   simp only [wts,List.length_nil,Nat.zero_add] at this hn
   show wts L<=_
   omega
  ·simp [wts]
  ·simp [wts]
end Go.AM.YtlillgmgpmbfnaaGreatDoorT
set_option maxRecDepth 100000
namespace Go.AM.YtlillgmgpmbfnaaGreatDoorT
open Go Go.AM Go.Proofs
theorem Zen {N:Nat} {H:Hp} {va:V} {ps:List Nat} (h6:WF tab 14 [] H fun v H'=>v = .bool true/\Ext noX H H') (hG:Gd H) (hL:LvG N H) (hN:N<=H.next) (hw:H.get 3=some sixO) (hlt:3 < N) (hP:Zbb H va ps) (hp8:∀ n∈ps,n < 256) (hpl:ps.length<=9223372036854775807) (s:Bs) :
  WF tab1 13 [va,.str s] H fun v _=>v = .bool true:=by
 refine wf13 (Zs _ ?_)
 have hst:=hG.st
 have va1:oneV va=true/\Zw va=[va]:=by rcases hP with ⟨rfl | rfl,_⟩ | ⟨b,e,rfl,_⟩<;>simp [Zgm,Zi5,Zh1,Zdm,Zej,Zdi]
 simp [hst]
 refine (Zq5 h6 hG hL hN hw hlt).mono ?_
 rintro v H1 ⟨rfl,X1⟩
 have st1:=X1.st
 by_cases ha:1500 < s.length
 ·have ha' : 1500 < (s.length:Int):=by omega
  simp [st1,ha,ha']
 have ha' : ¬ 1500 < (s.length:Int):=by omega
 simp [st1,ha,ha']
 have G1:=hG.ext X1 (fun h=>h)
 have L1:=hL.ext hN X1
 have N1:N<=H1.next:=by have:=X1.le;omega
 refine (Zgh G1 L1 N1 s (by omega)).mono ?_
 rintro _ H2 ⟨v,rfl,hv,X2⟩
 have st2:=X2.st
 by_cases ea:(Xq s).e=0
 ·have hB:=Zws s
  have hwt:=Zv9 (s:=s) (by omega)
  rw [ea]
  generalize (Xq s).l=L at *
  have v1:=Ya.one hv;have v2:=Ya.cells hv;have v3:=Ya.eqv hv
  simp [st2,v1,v2,va1.1,va1.2]
  refine (to1 (Z1o st2 (hP.ext (X1.trans X2)) hp8 hpl)).mono ?_
  rintro w H3 ⟨cs,rfl,hT,X3⟩
  have st3:=X3.st
  simp only [Ze] at hT
  obtain ⟨vp,vq,vb,rfl,t1,t2,t3⟩:=hT
  have n1:=t1.one;have n2:=t2.one;have n3:=t3.one
  have q1:=t1.eqv;have q2:=t2.eqv;have q3:=t3.eqv
  have hf:=Zn4 ps
  have hbd:(fnN ps).length+wts L<=1099511627776:=by omega
  simp [st3,n1,n2,n3,v1,v2,q1,q2,q3]
  have X4:Ext noX H3 (((H3.new (.row 35 6 false [.int .i64 0,.int .i64 0,.str [],.nils,.nils,.nils])).put H3.next (.row 35 6 false [.int .i64 17,.int .i64 0,.str [],vp,vq,vb])).put H3.next (.row 35 6 false [.int .i64 17,.int .i64 0,.str [],vp,vq,v])):=((Ext.new st3 _).putX _ (.inr (Nat.le_refl _))).putX _ (.inr (Nat.le_refl _))
  have g4:(((H3.new (.row 35 6 false [.int .i64 0,.int .i64 0,.str [],.nils,.nils,.nils])).put H3.next (.row 35 6 false [.int .i64 17,.int .i64 0,.str [],vp,vq,vb])).put H3.next (.row 35 6 false [.int .i64 17,.int .i64 0,.str [],vp,vq,v])).get H3.next=some (.row 35 6 false [.int .i64 17,.int .i64 0,.str [],vp,vq,v]):=by simp [Hp.get_put]
  have m4:(((H3.new (.row 35 6 false [.int .i64 0,.int .i64 0,.str [],.nils,.nils,.nils])).put H3.next (.row 35 6 false [.int .i64 17,.int .i64 0,.str [],vp,vq,vb])).put H3.next (.row 35 6 false [.int .i64 17,.int .i64 0,.str [],vp,vq,v])).next=H3.next+1:=rfl
  generalize ((H3.new (.row 35 6 false [.int .i64 0,.int .i64 0,.str [],.nils,.nils,.nils])).put H3.next (.row 35 6 false [.int .i64 17,.int .i64 0,.str [],vp,vq,vb])).put H3.next (.row 35 6 false [.int .i64 17,.int .i64 0,.str [],vp,vq,v])=H4 at *
  have st4:=X4.st
  have le3:=X3.le
  have K4:Stays (since H2 H3) (fun b=>b < H3.next) H3 H4:=⟨fun b _ hl=>hl,fun b _ hl=>X4.get b hl (fun h=>h),X4.le⟩
  have hv4:Zk (fun b=>b < H3.next) H4 L v:=hv.mono ⟨fun b _ hl=>by omega,fun b _ hl=>(X3.trans X4).get b hl (fun h=>h),(X3.trans X4).le⟩
  have hT:Ze (fun b=>b < H3.next) H4 (.ex 17 0 [] [] (fnN ps) L) [.int .i64 17,.int .i64 0,.str [],vp,vq,v]:=by
   simp only [Ze]
   exact ⟨vp,vq,v,rfl,Zk.mono K4 t1,Z0.mono K4 t2,hv4⟩
  refine (to1 (Zgt (Zd9 (inFs_all _ hB)) st4 hT (fun b hb=>by have:=X4.le;omega) hbd)).mono ?_
  rintro u H5 ⟨hS5,hr5,X5⟩
  have st5:=X5.st
  have l5:=X5.le
  have g5:H5.get H3.next=some (.row 35 6 false [.int .i64 17,.int .i64 0,.str [],vp,vq,v]):=by rw [X5.get _ (by omega) (fun h=>h)];exact g4
  simp [st4,st5,g4,g5,eqV,v3,q1,q2,q3,eqL]
  have K5:Stays (fun b=>b < H3.next) (fun b=>b < H3.next) H4 H5.bump:=⟨fun b hb _=>hb,fun b hb hx=>X5.get b hx (fun h=>h),by show H4.next<=H5.next+1;omega⟩
  refine (to1 (Zmv (Zh3 (inRs_all _ hB)) (by simp [st5]) (Ze.mono K5 _ _ hT) (fun b hb=>by show b < H5.next+1;omega) hbd)).mono ?_
  rintro u' H6 ⟨hS6,hr6,X6⟩
  have st6:=X6.st
  have l6:H5.next+1<=H6.next:=X6.le
  have m1:=hS5.one;have m2:=hS5.cells;have m3:=hS6.one;have m4':=hS6.cells
  simp [st6,m1,m2,m3,m4']
  have hfb:=freeB_len L (fnN ps) []
  simp at hfb
  have hu:SlAt H6.bump 9 1 u (freeB L (fnN ps) []).length ((freeB L (fnN ps) []).map .str):=hS5.of_get fun b hb=>X6.get b (show b < H5.next+1 by have:=(hr5 b hb).2;omega) (fun h=>h)
  have hu' : SlAt H6.bump 9 1 u' (freeB L (fnN ps) []).length ((freeB L (fnN ps) []).map .str):=hS6.of_get fun b hb=>rfl
  refine (to1 (Zmw (K:=fun _=>True) (K':=fun _=>True) (H:=H6.bump) (by simp [st6]) (Z0.of_slAt hu (fun b hb=>⟨trivial,by have:=(hr5 b hb).2;show b < H6.next+1;omega⟩) rfl) (Z0.of_slAt hu' (fun b hb=>⟨trivial,by have:=(hr6 b hb).2;show b < H6.next+1;omega⟩) rfl) (by omega))).mono ?_
  rintro z H7 ⟨rfl,X7⟩
  simp [X7.st]
 ·have ea' : ((Xq s).e != 0)=true:=by simp [ea]
  simp [st2,ea']
end Go.AM.YtlillgmgpmbfnaaGreatDoorT
set_option maxRecDepth 100000
namespace Go.Proofs.YtlillgmgpmbfnaaGreatDoor
open Go Go.ChangeShapes Go.WideShapes Go.ChangeAt Go.RowKit Go.AM
theorem own:ownKnob Tryz.prog.godebug=none:=by kernel_rfl
theorem Zn8:laidOutB Tryz.prog=true:=by kernel_rfl
def Zih : List (String × DataW Unit) := [("math/bits.deBruijn32tab", Rows.laid_math_bits_deBruijn32tab), ("math/bits.deBruijn64tab", Rows.laid_math_bits_deBruijn64tab), ("internal/strconv.uint64pow10", Rows.laid_internal_strconv_uint64pow10), ("strconv.ErrRange", Rows.laid_strconv_ErrRange), ("strconv.ErrSyntax", Rows.laid_strconv_ErrSyntax)]
theorem g_range : Tryz.prog.globalNamed "strconv.ErrRange" = some 13 := by kernel_rfl
theorem Zzc:(Tryz.prog.globals[13]?).map (·.type)=some 73:=by kernel_rfl
theorem Ya3:(Tryz.prog.globals[5]?).map (·.type)=some 199:=by kernel_rfl
theorem c136:Tryz.prog.cellsOf 136=1:=by kernel_rfl
theorem c199:Tryz.prog.cellsOf 199=20:=by kernel_rfl
theorem c259:Tryz.prog.cellsOf 259=1:=by kernel_rfl
theorem c9:Tryz.prog.cellsOf 9=1:=by kernel_rfl
theorem star : "*" ++ "errors.errorString" = "*errors.errorString" := by decide
theorem Z4r (u : TypeId) (h : Tryz.prog.typeName? 3 u = some "*errors.errorString") : u = 257 :=
 typeName_ptr_named (nm := "errors.errorString") (by rw [star]; kernel_rfl) (by kernel_rfl) (by decide) u (by rw [star]; exact h)
theorem Zwx:(Rows.laid_internal_strconv_uint64pow10:DataW Unit)=Lib.tabData .u64 Lib.pow10Tab:=by kernel_rfl
structure Facts (W:World):Prop where
 init:YtlillgmgpmbfnaaGreatDoorT.tab.init W.heap.size W
 range:∃ (b o:Nat) (t:TypeId) (fz:Nat×Nat),W.heap[13]? = some (.cells #[.iface 257 (.pointer (some ⟨b,o,none⟩))] t fz)
theorem Zwz {W:World} {n:String} {g:Nat} {cs:Array Value} (hg:Tryz.prog.globalNamed n=some g) (h:W.var? Tryz.prog n=some cs):∃ t fz,W.heap[g]? = some (.cells cs t fz):=by
 simp only [World.var?,hg,Option.bind_some] at h
 split at h
 ·rename_i hh;cases h;exact ⟨_,_,hh⟩
 ·cases h
theorem Zwo {W:World} {r:List (String×DataW Unit)} (h:laidMet Tryz.prog (Zih++r) W):Facts W:=by
 have h1:=h.tail.tail
 refine ⟨⟨rfl,?_⟩,?_⟩
 ·have h1 : laidMet Tryz.prog (("internal/strconv.uint64pow10", Rows.laid_internal_strconv_uint64pow10) :: _) W := h1
  rw [Zwx] at h1
  exact Lib.tabIs_of_head (by kernel_rfl) Ya3 Tryz.underlying199 Tryz.underlying136 c136 c199 h1
 ·have h2:=h1.tail
  obtain ⟨a,s,hv,hc,_,_⟩:=laid_sentinel (tp:=257) (te:=259) (ts:=9) h2 g_range Zzc Tryz.underlying73 Z4r Tryz.underlying257 Tryz.underlying259 rfl rfl Tryz.underlying9 c259 c9
  obtain ⟨t,fz,hh⟩:=Zwz g_range hv
  obtain ⟨b,o,sp⟩:=a
  cases sp with
  | none=>exact ⟨b,o,t,fz,hh⟩
  | some x =>
   unfold World.cell? at hc
   split at hc
   ·simp at hc
   ·cases hc
def sg (b o:Nat) (r:Nat->AM.Loc):Sg:=fun i=>if i=0 then ⟨0,0,18,1⟩ else if i < 14 then ⟨i,0,1,1⟩ else if i=14 then ⟨b,o,1,1⟩ else r (i-15)
end Go.Proofs.YtlillgmgpmbfnaaGreatDoor
