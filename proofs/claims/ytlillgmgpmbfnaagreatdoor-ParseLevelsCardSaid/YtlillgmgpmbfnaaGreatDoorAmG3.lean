/- Parts of the abstract machine and of the walks over it, joined: what the law that is claimed here leans on. -/
import Derived.Test.YtlillgmgpmbfnaaGreatDoorAmG1
import Derived.Test.YtlillgmgpmbfnaaGreatDoorAmG2
import Derived.Test.YtlillgmgpmbfnaaGreatDoorAmC3
import Derived.Test.YtlillgmgpmbfnaaGreatDoorAmX
import Derived.Test.YtlillgmgpmbfnaaGreatDoorTie
import Derived.Test.YtlillgmgpmbfnaaGreatDoorCards
import Derived.Stop.LaidErr
import Derived.LaidMore
import Derived.Stop.Joined
set_option linter.unusedVariables false
set_option linter.unusedSimpArgs false
set_option linter.unnecessarySimpa false
set_option maxRecDepth 100000
namespace Go.AM.YtlillgmgpmbfnaaGreatDoorT
open Go Go.AM Go.Proofs
theorem spF_ends:∀ (f:Nat) (s:Bs) (i:Nat) (acc:List Tk),s.length < f->(spF f s i acc).2.2=0->(∃ a∈(spF f s i acc).1,a.k=0)/\(spF f s i acc).1.length<=acc.length+s.length+1
 | 0,s,i,acc,h,_=>by omega
 | f+1,[],i,acc,h,_=>by
  rw [spF]
  exact ⟨⟨⟨0,[],0,i⟩,by simp,rfl⟩,by simp⟩
 | f+1,c :: r,i,acc,h,h0=>by
  simp only [List.length_cons] at h
  rw [spF] at h0 ⊢
  split
  ·rename_i hb
   rw [if_pos hb] at h0
   obtain ⟨h1,h2⟩:=spF_ends f r (i+1) acc (by omega) h0
   exact ⟨h1,by simp;omega⟩
  ·rename_i hb
   rw [if_neg hb] at h0
   split
   ·rename_i hc
    rw [if_pos hc] at h0
    have hn:1<=runN notB (c :: r):=by rw [runN,if_pos (by rw [hc];rfl)];omega
    have hl:((c :: r).drop (runN notB (c :: r))).length<=r.length:=by rw [List.length_drop];simp;omega
    obtain ⟨h1,h2⟩:=spF_ends f ((c :: r).drop (runN notB (c :: r))) _ acc (by omega) h0
    exact ⟨h1,by simp;omega⟩
   ·rename_i hc
    rw [if_neg hc] at h0
    split
    ·rename_i e ho
     rw [ho] at h0
     dsimp only at h0
     rcases oneF_err ho with rfl | rfl<;>cases h0
    ·rename_i k t x n ho
     rw [ho] at h0
     dsimp only at h0
     have hn:=oneF_n ho
     have hl:((c :: r).drop n).length<=r.length:=by rw [List.length_drop];simp;omega
     obtain ⟨h1,h2⟩:=spF_ends f ((c :: r).drop n) _ (acc++[⟨k,t,x,i⟩]) (by omega) h0
     exact ⟨h1,by simp at h2 ⊢;omega⟩
structure PO where
 l:List Tx
 at_:Nat
 e:Int
def parseY (s:Bs):PO:=if (spF (s.length+1) s 0 []).2.2≠0 then ⟨[],(spF (s.length+1) s 0 []).2.1,(spF (s.length+1) s 0 []).2.2⟩ else match modY (fuelY (spF (s.length+1) s 0 []).1) [] (spF (s.length+1) s 0 []).1 with
 | .ok l _=>⟨l,0,0⟩
 | .err a e=>⟨[],a,e⟩
 | .out=>⟨[],0,0⟩
theorem code_of {f:FuncId} {c:Code} {S:SCode} {F:Fr} {H:Hp} {Q:PC} (h:slimC tab f c=S) (hw:wp tab S F H Q):∃ k o F' H',evCode tab (evCall tab k) f k c F H=some (o,F',H')/\Q o F' H':=by
 obtain ⟨k,o,F',H',h1,h2⟩:=wp_sound S hw
 subst h
 exact ⟨k,o,F',H',evS_le c F H h1,h2⟩
theorem code_ofP {f:FuncId} {c:Code} {S:SCode} {F:Fr} {H:Hp} {Q:PC} {P:V->Hp->Prop} (h:slimC tab f c=S) (hw:wpP tab P S F H Q):(∃ k o F' H',evCode tab (evCall tab k) f k c F H=some (o,F',H')/\Q o F' H')\/∃ k v H',evCodeP tab (evCall tab k) (evPan tab k) f k c F H=some (v,H')/\P v H':=by
 subst h
 rcases wp_soundP _ hw with ⟨k,o,F',H',h1,h2⟩ | ⟨k,v,H',h1,h2⟩
 ·exact .inl ⟨k,o,F',H',evS_le c F H h1,h2⟩
 ·exact .inr ⟨k,v,H',evSP_le c F H h1,h2⟩
theorem sl0:slimC tab 26 p0 = .reg R26_0:=by kernel_rfl
theorem sl1:slimC tab 26 p1 = .reg R26_1:=by kernel_rfl
theorem sl2:slimC tab 26 p2 = .seq (.reg R26_2) (.cond (.tmp 14) (.seq (.dreg R26_3) (.ret)) (.skip)):=by kernel_rfl
theorem sl4:slimC tab 26 p4 = .seq (.reg R26_5) (.seq (.block 0 (.loop L26_0)) (.seq (.reg R26_8) (.ret))):=by kernel_rfl
theorem slc:slimC tab 52 q1 = .seq (.reg R52_1) (.cond (.tmp 8) (.seq (.reg R52_2) (.seq (.seq (.reg R52_3) (.cond (.tmp 15) (.reg R52_4) (.skip))) (.dreg R52_5))) (.skip)):=by kernel_rfl
abbrev rowO (v:V):Ob:=.row 24 1 false [v]
abbrev rowA (n:Int):Ob:=.row 3 1 false [.int .i64 n]
abbrev rowE (n:Int):Ob:=.row 47 1 false [.int .i64 n]
theorem clo_wp {H:Hp} (hs:H.stale=[]) {ro ra re:Nat} {v:V} {a0 e0:Int} (ho:H.get ro=some (rowO v)) (ha:H.get ra=some (rowA a0)) (he:H.get re=some (rowE e0)) (h1:ro≠ra) (h2:ro≠re) (h3:ra≠re) (hl1:ro < H.next) (hl2:ra < H.next) (hl3:re < H.next) (a:Nat) (e:Int) :
  wp tab (.seq (.reg R52_1) (.cond (.tmp 8) (.seq (.reg R52_2) (.seq (.seq (.reg R52_3) (.cond (.tmp 15) (.reg R52_4) (.skip))) (.dreg R52_5))) (.skip))) ((frame [.ptr ro 0,.ptr ra 0,.ptr re 0] 0 .nil).set 3 (stopV a e)) H fun o F' H'=>o = .nrm/\H'.stale=[]/\H.next<=H'.next/\H'.get ro=some (rowO .nils)/\H'.get ra=some (rowA a)/\H'.get re=some (rowE e)/\∀ c,c < H.next->c≠ro->c≠ra->c≠re->H'.get c=H.get c:=by
 have o1:=two_ne h1
 have o2:=two_ne h2
 have o3:=two_ne h3
 have q1:=old_ne hl1
 have q2:=old_ne hl2
 have q3:=old_ne hl3
 simp [frame,hs,Hp.get_put,Hp.get_new,o1,o2,o3,q1,q2,q3,ho,ha,he,eqV]
 refine ⟨by omega,fun c h1 h2 h3 h4=>?_⟩
 simp [two_ne h2,two_ne h3,two_ne h4,old_ne h1]
structure Ipl (R:PR (List Tx)) (H0 Hb:Hp) (pr ro ra re f k:Nat) (F:Fr) (H:Hp):Prop where
 kf:k<=f
 y:∃ ts l v,modY k ts l=R/\PAt H pr l 0/\H.get ro=some (rowO v)/\Gro Hb H noX 30 v ts/\ts.length+l.length<=100000
 a:∃ n,H.get ra=some (rowA n)
 e:∃ n,H.get re=some (rowE n)
 ext:Ext noX H0 H
 h0:H0.next<=ro
 h1:ro < ra
 h2:ra < re
 h3:re < pr
 h4:pr < Hb.next
 f2:F.get 2=some (.ptr ro 0)
 f3:F.get 3=some (.ptr ra 0)
 f4:F.get 4=some (.ptr re 0)
 f6:F.get 6=some (.ptr pr 0)
def PlE (R:PR (List Tx)) (H0:Hp) (ro ra re:Nat) (v:V) (H' : Hp):Prop:=∃ a e,R = .err a e/\v=stopV a e/\Ext noX H0 H'/\(∃ v',H'.get ro=some (rowO v'))/\(∃ n,H'.get ra=some (rowA n))/\(∃ n,H'.get re=some (rowE n))/\re < H'.next
theorem slAt_row {H:Hp} {e:TypeId} {z n:Nat} {v:V} {l:List V} (h:SlAt H e z v n l) (hn:0 < n):∃ b cs,v = .sl b 0 n none z/\H.get b=some (.row e z false cs)/\n*z<=cs.length/\cs.take (n*z)=l:=by
 cases h with
 | nil=>omega
 | row b n cs hg hl=>exact ⟨b,cs,rfl,hg,hl,rfl⟩
theorem PAt.keep1 {H H' : Hp} {pr ro d N:Nat} {l:List Tk} {t:TypeId} {x:List V} (h:PAt H pr l d) (hs:H'.stale=[]) (hle:H.next<=H'.next) (hro:H.get ro=some (.row t 1 false x)) (hpr:pr≠ro) (hg:∀ c,c<=pr->c≠ro->H'.get c=H.get c) (hN:LvG N H) (h1:N<=ro) (h2:N<=pr):PAt H' pr l d:=by
 obtain ⟨q0,⟨v,q1,b,off,e,ro',cells,rfl,q2,q3,q4⟩,q5,q6,q7,_⟩:=h
 have hb:b≠ro:=fun e=>by subst e;rw [hro] at q3;cases q3
 exact ⟨hs,⟨_,by rw [hg pr (Nat.le_refl _) hpr];exact q1,b,off,e,ro',cells,rfl,q2,by rw [hg b (by omega) hb];exact q3,q4⟩,by omega,q6,q7,N,h2,hN.of_get fun c hc=>hg c (by omega) (by omega)⟩
theorem mod_loop {R:PR (List Tx)} (hR:R≠.out) {N:Nat} {f:Nat} {H0 Hb:Hp} {pr ro ra re:Nat} {F:Fr} {H:Hp} {Q:PC} (hG0:LvG N H0) (hN:N<=H0.next) (h:Ipl R H0 Hb pr ro ra re f f F H)
  (hQ:∀ F' H' ts l v,R = .ok ts l->H'.get ro=some (rowO v)->Gro Hb H' noX 30 v ts->(∃ n,H'.get ra=some (rowA n))->(∃ n,H'.get re=some (rowE n))->Ext noX H0 H'->re < H'.next->F'.get 2=some (.ptr ro 0)->F'.get 3=some (.ptr ra 0)->F'.get 4=some (.ptr re 0)->Q (.exit 0) F' H'):WCr tab (PlE R H0 ro ra re) (.loop L26_0) F H Q:=by
 refine loop_ofP (Ipl R H0 Hb pr ro ra re f) (m:=f) h ?_
 rintro k F H I
 obtain ⟨ts,l,v,hY,hP,hrow,hG,hlen⟩:=I.y
 obtain ⟨na,ka⟩:=I.a
 obtain ⟨ne,ke⟩:=I.e
 have f2:=I.f2;have f3:=I.f3;have f4:=I.f4;have f6:=I.f6;have hkf:=I.kf
 have h0:=I.h0;have h1:=I.h1;have h2:=I.h2;have h3:=I.h3;have h4:=I.h4
 have hX:=I.ext
 have hst:=hX.st
 have hle:=hX.le
 have hgl:=hG.le
 obtain ⟨v1,r1,r2⟩:=hP.row
 obtain ⟨b,off,e',ro',cells,rfl,g1,g3,g4,g5,g6,g7,g8,g9,g10,g11,g12⟩:=r2.head hP.ends
 have hlt:(0:Int) < (l.length:Int):=by omega
 cases k with
 | zero=>rw [modY] at hY;exact absurd hY.symm hR
 | succ k =>
 rw [modY] at hY
 by_cases hk:(hdT l).k=0
 ·rw [if_pos hk] at hY
  simp [L26_0,f2,f3,f4,f6,hst,r1,g3,g6,g8,hlt,hk]
  exact hQ _ _ ts l v hY.symm hrow hG ⟨na,ka⟩ ⟨ne,ke⟩ hX (by omega) (by simp [f2]) (by simp [f3]) (by simp [f4])
 ·rw [if_neg hk] at hY
  have hk' : ((hdT l).k != 0)=true:=bne_iff_ne.2 hk
  obtain ⟨lc,hsl,hel⟩:=hG.sl
  have hev:=hsl.eqv
  have hlv:=hsl.lenV 30
  have hrows:=hG.rows
  simp [L26_0,f2,f3,f4,f6,hst,r1,g3,g6,g8,hlt,hk']
  refine (stmt_all k H pr 0 l hP (bind_ne hY hR)).mono ?_ ?_
  rotate_left
  ·rintro v' H2 ⟨pa,pe,q3,rfl,hX2⟩
   have s2:=hX2.st
   have k2:H2.get ro=some (rowO v):=by rw [hX2.get ro (by omega) (by show ro≠pr;omega)];exact hrow
   have l2':=hX2.le
   simp [deadQ,f2,f3,f4,f6,s2,k2,hrow,hev,hlv]
   refine ⟨pa,pe,by rw [<- hY,q3];rfl,rfl,⟨s2,by show H0.next<=H2.next+1+1;omega,fun c hc _=>?_⟩,⟨v,k2⟩,⟨na,?_⟩,⟨ne,?_⟩,by show re < H2.next+1+1;omega⟩
   ·show H2.get c=H0.get c
    rw [hX2.get c (by omega) (by show c≠pr;omega)]
    exact hX.get c hc (fun h=>h)
   ·show H2.get ra=_
    rw [hX2.get ra (by omega) (by show ra≠pr;omega)];exact ka
   ·show H2.get re=_
    rw [hX2.get re (by omega) (by show re≠pr;omega)];exact ke
  rintro w H2 ⟨x,l2,hr,⟨ds,rfl,hT2⟩,hP2,hX2⟩
  rw [hr,bind_ok] at hY
  obtain ⟨d0,d1,d2,d3,d4,d5,rfl,n0,n1,n2,n3,n4,n5⟩:=hT2.six
  have s2:=hX2.st
  have k2:H2.get ro=some (rowO v):=by rw [hX2.get ro (by omega) (by show ro≠pr;omega)];exact hrow
  have l2':=hX2.le
  have hsl2:SlAt H2.bump 30 6 v ts.length lc:=hsl.of_get fun b hb=>by
   have:=hrows b hb
   show H2.get b=H.get b
   exact hX2.get b this.2.1 (by show b≠pr;omega)
  have hlt2:=stmt_lt hr
  have hb2:H2.bump.next=H2.next+1:=rfl
  simp [f2,f3,f4,f6,s2,k2,hrow,hev,hlv]
  refine wpD_app1P (H:=H2.bump) (e0:=30) (cells:=[.int .i64 0,.str [],.nils,.nils,.nils,.int .i64 0]) (by simp [descOf]) ty30 (by decide) (by simp) (by simp) hsl2 (fun b hb=>⟨by have:=(hrows b hb).2.1;omega,by simp [s2]⟩) rfl (by show (ts.length+1)*104<=_;omega) (by omega) (by simp [s2]) fun v' H3 hS hA=>?_
  obtain ⟨bb,cs3,rfl,g33,hl3,ht3⟩:=slAt_row hS (Nat.succ_pos _)
  obtain ⟨y1,y2,y3⟩:=hA.new bb (by simp [rowsOf])
  have hna:=hA.le
  have hbb:Hb.next<=bb:=by
   rcases y3 with y3 | y3
   ·exact (hrows bb y3).1
   ·omega
  have hbro:bb≠ro:=by omega
  obtain ⟨q1,q2⟩:=hA.keep ro (by omega) (fun h=>by have:=(hrows ro h).1;omega) (by simp [s2])
  have q3:H3.get ro=some (rowO v):=q1.trans k2
  have hn1:¬ ((ts.length:Int)+1<=(ts.length:Int)):=by omega
  have hn2:(ts.length:Int) < (ts.length:Int)+1:=by omega
  have hl3' : (ts.length+1)*6<=cs3.length:=hl3
  have hsz:ts.length*6+6<=cs3.length:=by omega
  have hbq:Nat.beq ro bb=false:=by
   cases h:Nat.beq ro bb with
   | false=>rfl
   | true=>exact absurd (Nat.eq_of_beq_eq_true h).symm hbro
  simp [f2,f3,f4,f6,g33,y1,hsz,q2,q3,Hp.get_put,two_ne hbro,n0,n1,n2,n3,n4,n5,hn2]
  refine ⟨by simp [apart,f2,hbq],k,by omega,?_⟩
  have hlc:lc.length=ts.length*6:=hsl.len
  have ht3' : cs3.take ((ts.length+1)*6)=lc++[.int .i64 0,.str [],.nils,.nils,.nils,.int .i64 0]:=ht3
  have hpre:cs3.take (ts.length*6)=lc:=by
   have h6:cs3.take (ts.length*6)=(cs3.take ((ts.length+1)*6)).take (ts.length*6):=by rw [List.take_take,show min (ts.length*6) ((ts.length+1)*6)=ts.length*6 by omega]
   rw [h6,ht3',List.take_append_of_le_length (by omega),List.take_of_length_le (by omega)]
  generalize hc4:setCells cs3 (ts.length*6) [d0,d1,d2,d3,d4,d5]=cs4
  have hc4' : cs4=lc++[d0,d1,d2,d3,d4,d5]++cs3.drop (ts.length*6+6):=by
   rw [<- hc4,setCells_app _ _ _ (by simp;omega),hpre];rfl
  have hc4l:(ts.length+1)*6<=cs4.length:=by rw [hc4'];simp;omega
  have hc4t:cs4.take ((ts.length+1)*6)=lc++[d0,d1,d2,d3,d4,d5]:=by
   rw [hc4',List.take_append_of_le_length (by simp;omega),List.take_of_length_le (by simp;omega)]
  show Ipl R H0 Hb pr ro ra re f k _ (((H3.bump.flush.put bb (.row 30 6 false (setCells cs3 (ts.length*6) [d0,d1,d2,d3,d4,d5]))).bump.put ro (rowO (.sl bb 0 (ts.length+1) none 6))).bump)
  rw [hc4]
  generalize hH4:((H3.bump.flush.put bb (.row 30 6 false cs4)).bump.put ro (rowO (.sl bb 0 (ts.length+1) none 6))).bump=H4
  have n4' : H4.next=H3.next+3:=by rw [<- hH4];simp
  have s4:H4.stale=[]:=by rw [<- hH4];simp
  have g4b:H4.get bb=some (.row 30 6 false cs4):=by rw [<- hH4];simp [Hp.get_put,two_ne hbro]
  have g4o:H4.get ro=some (rowO (.sl bb 0 (ts.length+1) none 6)):=by rw [<- hH4];exact get_put_self _ _ _
  have keep:∀ c,c < H2.next->c∉rowsOf v->c≠ro->H4.get c=H2.get c:=fun c hc hcv hco=>by
   obtain ⟨z1,z2⟩:=hA.keep c (by omega) hcv (by simp [s2])
   have hcb:c≠bb:=fun h=>by
    subst h
    rcases y3 with y3 | y3
    ·exact hcv y3
    ·omega
   rw [<- hH4]
   simp [Hp.get_put,two_ne hcb,two_ne hco,z2]
   exact z1
  have hvn:∀ c,c < Hb.next->c∉rowsOf v:=fun c hc h=>by have:=(hrows c h).1;omega
  have hp2:=hP2.lt
  refine ⟨by omega,⟨ts++[x],l2,.sl bb 0 (ts.length+1) none 6,hY,hP2.keep1 s4 (by omega) k2 (by omega) (fun c hc hn=>keep c (by omega) (hvn c (by omega)) hn) (hG0.of_get fun c hc=>by rw [hX2.get c (by omega) (by show c≠pr;omega)];exact hX.get c (by omega) (fun h=>h)) (by omega) (by omega),g4o,⟨s4,by omega,⟨lc++[d0,d1,d2,d3,d4,d5],?_,?_⟩,fun c hc=>?_⟩,by simp;omega⟩,⟨na,?_⟩,⟨ne,?_⟩,⟨s4,by omega,fun c hc _=>?_⟩,h0,h1,h2,h3,h4,by simp [f2],by simp [f3],by simp [f4],by simp [f6]⟩
  ·rw [<- hc4t,List.length_append]
   exact SlAt.row bb (ts.length+1) cs4 g4b hc4l
  ·have hin:∀ c,c∈rowsOf (.sl bb 0 (ts.length+1) none 6)->c=bb:=fun c h=>by simpa [rowsOf] using h
   have st1:Stays (Kv Hb noX v) (Kv Hb noX (.sl bb 0 (ts.length+1) none 6)) H H4:=by
    refine ⟨fun c hc hx=>⟨hc.1,fun h=>h,fun h=>?_⟩,fun c hc hx=>?_,by omega⟩
    ·have h:=hin c h
     subst h
     rcases y3 with y3 | y3
     ·exact hc.2.2 y3
     ·omega
    ·have:=hc.1
     rw [keep c (by omega) hc.2.2 (by omega),hX2.get c hx (by show c≠pr;omega)]
   have st2:Stays (since H H2) (Kv Hb noX (.sl bb 0 (ts.length+1) none 6)) H2 H4:=by
    refine ⟨fun c hc hx=>⟨by have:=hc.1;omega,fun h=>h,fun h=>?_⟩,fun c hc hx=>?_,by omega⟩
    ·have h:=hin c h
     subst h
     have:=hc.1
     rcases y3 with y3 | y3
     ·have:=(hrows _ y3).2.1;omega
     ·omega
    ·have:=hc.1
     exact keep c hx (fun h=>by have:=(hrows _ h).2.1;omega) (by omega)
   refine els_append ts [x] lc _ hlc (ElsAt.mono st1 _ _ hel) ?_
   simp only [ElsAt]
   exact ⟨ExpAt.mono st2 _ _ hT2,trivial⟩
  ·simp [rowsOf] at hc
   subst hc
   exact ⟨hbb,by omega,fun h=>h⟩
  ·rw [keep ra (by omega) (hvn ra (by omega)) (by omega),hX2.get ra (by omega) (by show ra≠pr;omega)];exact ka
  ·rw [keep re (by omega) (hvn re (by omega)) (by omega),hX2.get re (by omega) (by show re≠pr;omega)];exact ke
  ·rw [keep c (by omega) (hvn c (by omega)) (by omega),hX2.get c (by omega) (by show c≠pr;omega)]
   exact hX.get c hc (fun h=>h)
theorem par_0 {H:Hp} (hs:H.stale=[]) (s:Bs):wp tab (.reg R26_0) (frame [.str s] 0 .nil) H fun o F' H'=>o = .nrm/\F'.get 0=some (.str s)/\F'.get 2=some (.ptr H.next 0)/\F'.get 3=some (.ptr (H.next+1) 0)/\F'.get 4=some (.ptr (H.next+2) 0)/\H' = ((H.new (rowO .nils)).new (rowA 0)).new (rowE 0):=by
 simp [frame,hs]
theorem par_1 {H:Hp} (hG:Gd H) (s:Bs) (hl:s.length<=8192) {ro ra re:Nat} {F:Fr} (f0:F.get 0=some (.str s)) (f2:F.get 2=some (.ptr ro 0)) (f3:F.get 3=some (.ptr ra 0)) (f4:F.get 4=some (.ptr re 0)) (h3:ra≠re) (h4:ra < H.next) (h5:re < H.next) (ka:∃ n,H.get ra=some (rowA n)) (ke:∃ n,H.get re=some (rowE n)) :
  wp tab (.reg R26_1) F H fun o F' H'=>o = .nrm/\F'.get 2=some (.ptr ro 0)/\F'.get 3=some (.ptr ra 0)/\F'.get 4=some (.ptr re 0)/\∃ sl H1,F'.get 5=some sl/\TkAt H.next H1 sl (spF (s.length+1) s 0 []).1/\Ext noX H H1/\H' = (H1.put ra (rowA (spF (s.length+1) s 0 []).2.1)).put re (rowE (spF (s.length+1) s 0 []).2.2):=by
 have hs:=hG.st
 obtain ⟨na,ka⟩:=ka
 obtain ⟨ne,ke⟩:=ke
 simp [f0,f2,f3,f4,hs]
 refine (split_ok hG s hl).mono ?_
 rintro v H1 ⟨sl,rfl,hT,hX⟩
 have ka1:=hX.keep h4 ka
 have ke1:=hX.keep h5 ke
 have o1:=two_ne h3
 simp [spV,hX.st,f2,f3,f4,ka1,ke1,Hp.get_put,o1,hT.sl.one]
 exact ⟨H1,hT,hX,rfl⟩
theorem par_2e {H:Hp} (hs:H.stale=[]) {ro ra re at_:Nat} {e:Int} {v:V} {F:Fr} (f2:F.get 2=some (.ptr ro 0)) (f3:F.get 3=some (.ptr ra 0)) (f4:F.get 4=some (.ptr re 0)) (h1:ro≠ra) (h2:ro≠re) (h3:ra≠re) (ko:H.get ro=some (rowO v)) (ka:H.get ra=some (rowA at_)) (ke:H.get re=some (rowE e)) (he:e≠0) :
  wp tab (.seq (.reg R26_2) (.cond (.tmp 14) (.seq (.dreg R26_3) (.ret)) (.skip))) F H fun o F' H'=>o = .ret/\F'.get 2=some (.ptr ro 0)/\F'.get 3=some (.ptr ra 0)/\F'.get 4=some (.ptr re 0)/\H'.get ro=some (rowO .nils)/\H'.get ra=some (rowA at_)/\H'.get re=some (rowE e)/\H'.stale=[]/\H.next<=H'.next/\∀ c,c≠ro->c≠ra->c≠re->H'.get c=H.get c:=by
 have he' : (e != 0)=true:=bne_iff_ne.2 he
 have o1:=two_ne h1
 have o2:=two_ne h2
 have o3:=two_ne h3
 simp [f2,f3,f4,hs,ke,ka,ko,he',Hp.get_put,o1,o2,o3,eqV]
 refine ⟨by omega,fun c h1 h2 h3=>?_⟩
 simp [two_ne h1,two_ne h2,two_ne h3]
theorem par_2n {H:Hp} (hs:H.stale=[]) {ro ra re:Nat} {sl:V} {F:Fr} (f2:F.get 2=some (.ptr ro 0)) (f3:F.get 3=some (.ptr ra 0)) (f4:F.get 4=some (.ptr re 0)) (f5:F.get 5=some sl) (ke:H.get re=some (rowE 0)) :
  wp tab (.seq (.reg R26_2) (.cond (.tmp 14) (.seq (.dreg R26_3) (.ret)) (.skip))) F H fun o F' H'=>o = .nrm/\F'.get 2=some (.ptr ro 0)/\F'.get 3=some (.ptr ra 0)/\F'.get 4=some (.ptr re 0)/\F'.get 5=some sl/\H' = H:=by
 simp [f2,f3,f4,f5,hs,ke]
theorem par_4 {H0 H:Hp} {N:Nat} (hL:LvG N H0) (hN:N<=H0.next) (hX:Ext noX H0 H) {ro ra re:Nat} {sl:V} {L:List Tk} {F:Fr} (hT:SlAt H 95 4 sl L.length (tksV L)) (hr:∀ r∈rowsOf sl,r < H.next) (hE:Ends L) {R:PR (List Tx)} (hR:R≠.out) {f:Nat} (hY:modY f [] L=R) (h0:H0.next<=ro) (h1:ro < ra) (h2:ra < re) (h3:re < H.next) (ko:H.get ro=some (rowO .nils)) (ka:∃ n,H.get ra=some (rowA n)) (ke:∃ n,H.get re=some (rowE n))
  (f2:F.get 2=some (.ptr ro 0)) (f3:F.get 3=some (.ptr ra 0)) (f4:F.get 4=some (.ptr re 0)) (f5:F.get 5=some sl) :
  wpP tab (PlE R H0 ro ra re) (.seq (.reg R26_5) (.seq (.block 0 (.loop L26_0)) (.seq (.reg R26_8) (.ret)))) F H fun o F' H'=>o = .ret/\F'.get 2=some (.ptr ro 0)/\F'.get 3=some (.ptr ra 0)/\F'.get 4=some (.ptr re 0)/\∃ ts l v,R = .ok ts l/\H'.get ro=some (rowO v)/\H'.get ra=some (rowA 0)/\H'.get re=some (rowE 0)/\TreesAt (since H0 H') H' ts v/\Ext noX H0 H':=by
 have hs:=hX.st
 have hle:=hX.le
 have hpos:0 < L.length:=by obtain ⟨r,hr⟩:=hE.cons;rw [hr];simp
 obtain ⟨b,cs,rfl,hg,hl,ht⟩:=slAt_row hT hpos
 have hb:=hr b (by simp [rowsOf])
 simp [f2,f3,f4,f5,hs]
 generalize hH1:H.new (.row 92 2 false [.sl b 0 L.length none 4,.int .i64 0])=H1
 have nx1:H1.next=H.next+1:=by rw [<- hH1];rfl
 have g1:∀ c,c < H.next->H1.get c=H.get c:=fun c hc=>by rw [<- hH1];exact get_new_ne _ (by omega)
 have gp:H1.get H.next=some (.row 92 2 false [.sl b 0 L.length none 4,.int .i64 0]):=by rw [<- hH1];exact get_new_self _ _
 have X1:Ext noX H0 H1:=hH1 ▸ hX.newge _
 have hgl:LvG N H1:=hL.of_get fun c hc=>by rw [g1 c (by omega)];exact hX.get c (by omega) (fun h=>h)
 have hl' : L.length*4<=cs.length:=hl
 have hP:PAt H1 H.next L 0:=⟨X1.st,⟨_,gp,b,0,95,false,cs,rfl,hb,by rw [g1 b hb];exact hg,rfl,ht,by omega⟩,by omega,hE,by omega,N,by omega,hgl⟩
 obtain ⟨na,ka⟩:=ka
 obtain ⟨ne,ke⟩:=ke
 refine mod_loop (Hb:=H1) hR hL hN ⟨Nat.le_refl _,⟨[],L,.nils,hY,hP,by rw [g1 ro (by omega)];exact ko,Gro.nil X1.st (Nat.le_refl _),by simpa using hE.2⟩,⟨na,by rw [g1 ra (by omega)];exact ka⟩,⟨ne,by rw [g1 re (by omega)];exact ke⟩,X1,h0,h1,h2,by omega,by omega,by simp [f2],by simp [f3],by simp [f4],by simp⟩ ?_
 rintro F' H2 ts l v hok k2 hG ⟨n2,ka2⟩ ⟨n2',ke2⟩ X2 hre g2 g3 g4
 have s2:=X2.st
 obtain ⟨lc,hsl,hel⟩:=hG.sl
 have c1:=hsl.one
 have hrows:=hG.rows
 have hle2:=hG.le
 have hc:=hsl.cells
 have o1:=two_ne (show ro≠ra by omega)
 have o2:=two_ne (show ro≠re by omega)
 have o3:=two_ne (show ra≠re by omega)
 simp [g2,g3,g4,s2,k2,ka2,ke2,c1,hc,Hp.get_put,o1,o2,o3]
 have old:∀ c,c≠ro->c≠ra->c≠re->(((H2.put ro (rowO v)).put ra (rowA 0)).put re (rowE 0)).get c=H2.get c:=fun c h1 h2 h3=>by rw [get_put_ne _ h3,get_put_ne _ h2,get_put_ne _ h1]
 refine ⟨ts,⟨l,hok⟩,hG.trees (fun c q1 q2 _=>⟨⟨by omega,q2⟩,old c (by omega) (by omega) (by omega)⟩) (Nat.le_refl _),⟨s2,X2.le,fun c hc _=>?_⟩⟩
 exact (old c (by omega) (by omega) (by omega)).trans (X2.get c hc (fun h=>h))
theorem rs_P:rsP=[.cell 2 24,.cell 3 3,.cell 4 47]:=by kernel_rfl
theorem res_3 {F:Fr} {H:Hp} {ro ra re:Nat} {v:V} {a e:Int} (f2:F.get 2=some (.ptr ro 0)) (f3:F.get 3=some (.ptr ra 0)) (f4:F.get 4=some (.ptr re 0)) (ko:H.get ro=some (rowO v)) (ka:H.get ra=some (rowA a)) (ke:H.get re=some (rowE e)):parFin F H=some (.tup [v,.int .i64 a,.int .i64 e],H):=by
 unfold parFin
 rw [rs_P]
 simp [resOf,getAll,f2,f3,f4,ko,ka,ke,partV,isAgg]
theorem parse_told {H:Hp} {N:Nat} (hG:Gd H) (hL:LvG N H) (hN:N<=H.next) (s:Bs) (hl:s.length<=8192):∃ v H',parE [.str s] H=some (.tup [v,.int .i64 (parseY s).at_,.int .i64 (parseY s).e],H')/\TreesAt (since H H') H' (parseY s).l v/\Ext noX H H':=by
 have hs:=hG.st
 obtain ⟨k0,o0,F0,H0,e0,rfl,p0',p2',p3',p4',hH0⟩:=code_of sl0 (par_0 hs s)
 have X0:Ext noX H H0:=hH0 ▸ ((Ext.new hs _).newge _).newge _
 have n0:H0.next=H.next+3:=by rw [hH0];rfl
 have ko0:H0.get H.next=some (rowO .nils):=by rw [hH0];simp [Hp.get_new]
 have ka0:H0.get (H.next+1)=some (rowA 0):=by rw [hH0];simp [Hp.get_new]
 have ke0:H0.get (H.next+2)=some (rowE 0):=by rw [hH0];simp [Hp.get_new]
 clear hH0
 have hG0:Gd H0:=hG.ext X0 (fun h=>h)
 generalize hro:H.next=ro at *
 obtain ⟨k1,o1,F1,H1,e1,rfl,q2,q3,q4,sl,H1a,q5,hT,X1,hH1⟩:=code_of sl1 (par_1 hG0 s hl (ro:=ro) p0' p2' p3' p4' (by omega) (by omega) (by omega) ⟨0,ka0⟩ ⟨0,ke0⟩)
 have l1:=X1.le
 have x0:=X0.le
 have X01:=X0.trans X1
 have oth:∀ c,c≠ro+1->c≠ro+2->H1.get c=H1a.get c:=fun c h1 h2=>by rw [hH1,get_put_ne _ h2,get_put_ne _ h1]
 have ko1:H1.get ro=some (rowO .nils):=by rw [oth ro (by omega) (by omega)];exact X1.keep (by omega) ko0
 have ka1:H1.get (ro+1)=some (rowA (spF (s.length+1) s 0 []).2.1):=by rw [hH1,get_put_ne _ (by omega),get_put_self]
 have ke1:H1.get (ro+2)=some (rowE (spF (s.length+1) s 0 []).2.2):=by rw [hH1,get_put_self]
 have s1:H1.stale=[]:=by rw [hH1];exact X1.st
 have nx1:H1.next=H1a.next:=by rw [hH1];rfl
 have XH1:Ext noX H H1:=⟨s1,by omega,fun c hc _=>by rw [oth c (by omega) (by omega)];exact X01.get c hc (fun h=>h)⟩
 clear hH1
 by_cases he:(spF (s.length+1) s 0 []).2.2=0
 ·have hne:¬ (spF (s.length+1) s 0 []).2.2≠0:=fun h=>h he
  obtain ⟨hE1,hE2⟩:=spF_ends (s.length+1) s 0 [] (Nat.lt_succ_self _) he
  have hpY:parseY s=(match modY (fuelY (spF (s.length+1) s 0 []).1) [] (spF (s.length+1) s 0 []).1 with | .ok l _=>(⟨l,0,0⟩:PO) | .err a e=>⟨[],a,e⟩ | .out=>⟨[],0,0⟩):=by rw [parseY,if_neg hne]
  rw [he] at ke1
  generalize (spF (s.length+1) s 0 []).1=L at *
  have hE:Ends L:=⟨hE1,by simp at hE2;omega⟩
  have hout:=mod_n (fuelY L) [] L (Nat.le_refl _)
  generalize hR:modY (fuelY L) [] L=R at *
  obtain ⟨k2,o2,F2,H2,e2,rfl,r2,r3,r4,r5,rfl⟩:=code_of sl2 (par_2n s1 q2 q3 q4 q5 ke1)
  have hTs:SlAt H2 95 4 sl L.length (tksV L):=hT.sl.of_get fun b hb=>oth b (by have:=(hT.rows b hb).1;omega) (by have:=(hT.rows b hb).1;omega)
  have w:=par_4 (F:=F2.set 17 (.fn (.func 52) [] [.ptr ro 0,.ptr (ro+1) 0,.ptr (ro+2) 0])) (ra:=ro+1) (re:=ro+2) hL (by omega) XH1 hTs (fun r hr=>by have:=(hT.rows r hr).2;omega) hE hout hR (by omega) (by omega) (by omega) (by omega) ko1 ⟨_,ka1⟩ ⟨_,ke1⟩ (by simp [r2]) (by simp [r3]) (by simp [r4]) (by simp [r5])
  rcases code_ofP sl4 w with ⟨k3,o3,F3,H3,e3,rfl,t2,t3,t4,ts,l,v,hok,ko3,ka3,ke3,hT3,X3⟩ | ⟨k3,pv,H3,e3,pa,pe,herr,rfl,X3,⟨v',ko3⟩,⟨na,ka3⟩,⟨ne,ke3⟩,hre⟩
  ·have key:parK (max k0 (max k1 (max k2 k3))) [.str s] H=some (.tup [v,.int .i64 0,.int .i64 0],H3):=by
    unfold parK
    rw [evCode_le (evCall_le tab k0 _ (by omega)) (by omega) _ e0]
    dsimp only
    rw [evCode_le (evCall_le tab k1 _ (by omega)) (by omega) _ e1]
    dsimp only
    rw [evCode_le (evCall_le tab k2 _ (by omega)) (by omega) _ e2]
    dsimp only
    unfold par4
    rw [r2,r3,r4]
    dsimp only
    rw [evCode_le (evCall_le tab k3 _ (by omega)) (by omega) _ e3]
    exact res_3 t2 t3 t4 ko3 ka3 ke3
   refine ⟨v,H3,?_,?_,X3⟩
   ·rw [parE_of key,hpY,hok];rfl
   ·rw [hpY,hok];exact hT3
  ·obtain ⟨k4,o4,F4,H4,e4,rfl,s4,n4,ko4,ka4,ke4,oth4⟩:=code_of slc (clo_wp X3.st ko3 ka3 ke3 (by omega) (by omega) (by omega) (by omega) (by omega) hre pa pe)
   have key:parK (max k0 (max k1 (max k2 (max k3 k4)))) [.str s] H=some (.tup [.nils,.int .i64 pa,.int .i64 pe],H4):=by
    have e3':=evCodeP_mono (evCall_le tab k3 (max k0 (max k1 (max k2 (max k3 k4)))) (by omega)) (evPan_le tab k3 _ (by omega)) (show k3<=max k0 (max k1 (max k2 (max k3 k4))) by omega) _ e3
    unfold parK
    rw [evCode_le (evCall_le tab k0 _ (by omega)) (by omega) _ e0]
    dsimp only
    rw [evCode_le (evCall_le tab k1 _ (by omega)) (by omega) _ e1]
    dsimp only
    rw [evCode_le (evCall_le tab k2 _ (by omega)) (by omega) _ e2]
    dsimp only
    unfold par4
    rw [r2,r3,r4]
    dsimp only
    rw [evCodeP_none _ e3',e3']
    dsimp only
    rw [evCode_le (evCall_le tab k4 _ (by omega)) (by omega) _ e4]
    exact res_3 (by simp [Tr.get_set]) (by simp [Tr.get_set]) (by simp [Tr.get_set]) ko4 ka4 ke4
   refine ⟨.nils,H4,?_,?_,⟨s4,by have:=X3.le;omega,fun c hc _=>?_⟩⟩
   ·rw [parE_of key,hpY,herr]
   ·rw [hpY,herr];exact .inl ⟨.inl rfl,rfl⟩
   ·have:=X3.le
    rw [oth4 c (by omega) (by omega) (by omega) (by omega)]
    exact X3.get c hc (fun h=>h)
 ·have hpY:parseY s=⟨[],(spF (s.length+1) s 0 []).2.1,(spF (s.length+1) s 0 []).2.2⟩:=by rw [parseY,if_pos he]
  obtain ⟨k2,o2,F2,H2,e2,rfl,r2,r3,r4,ko2,ka2,ke2,s2,n2,oth2⟩:=code_of sl2 (par_2e s1 q2 q3 q4 (by omega) (by omega) (by omega) ko1 ka1 ke1 he)
  have key:parK (max k0 (max k1 k2)) [.str s] H=some (.tup [.nils,.int .i64 (spF (s.length+1) s 0 []).2.1,.int .i64 (spF (s.length+1) s 0 []).2.2],H2):=by
   unfold parK
   rw [evCode_le (evCall_le tab k0 _ (by omega)) (by omega) _ e0]
   dsimp only
   rw [evCode_le (evCall_le tab k1 _ (by omega)) (by omega) _ e1]
   dsimp only
   rw [evCode_le (evCall_le tab k2 _ (by omega)) (by omega) _ e2]
   exact res_3 r2 r3 r4 ko2 ka2 ke2
  refine ⟨.nils,H2,by rw [parE_of key,hpY],?_,⟨s2,by omega,fun c hc _=>?_⟩⟩
  ·rw [hpY];exact .inl ⟨.inl rfl,rfl⟩
  ·rw [oth2 c (by omega) (by omega) (by omega)]
   exact XH1.get c hc (fun h=>h)
theorem sh0:p0 = .region 0 (match p0 with | .region _ ops _=>ops | _=>#[]) false:=by kernel_rfl
theorem sh1:p1 = .region 1 (match p1 with | .region _ ops _=>ops | _=>#[]) false:=by kernel_rfl
theorem sl3:slimC tab 26 p3 = .reg R26_4:=by kernel_rfl
theorem sh3:p3 = .region 4 (match p3 with | .region _ ops _=>ops | _=>#[]) false:=by kernel_rfl
theorem reg_nrm {call:CallE} {f:FuncId} {n id:Nat} {ops:Array Oper} {F F' : Fr} {H H' : Hp} {o:Out} (h:evCode tab call f n (.region id ops false) F H=some (o,F',H')):o = .nrm:=by
 simp only [evCode] at h
 split at h
 ·cases h;rfl
 ·cases h
theorem p3_none {call:CallE} {n:Nat} {F:Fr} {H:Hp}:evCode tab call 26 n p3 F H=none:=by
 have h:evS tab call n (slimC tab 26 p3) F H=none:=by
  rw [sl3]
  have hd:∀ (F:Fr) (H:Hp),evL tab call [(none,.defer ⟨.value (.tmp 17),#[],#[]⟩,none)] F H=none:=fun F H=>by
   have h1:evOp tab (.defer ⟨.value (.tmp 17),#[],#[]⟩) F H=none:=rfl
   have h2:evDef tab F (.defer ⟨.value (.tmp 17),#[],#[]⟩)=false:=by
    simp only [evDef]
    split
    ·rfl
    ·rfl
   simp only [evL,wantS,h1,h2]
   rfl
  have h0:evL tab call R26_4 F H=none:=by
   rw [evL]
   simp only [wantS]
   split
   ·exact hd _ _
   ·exact hd _ _
   ·split
    ·exact hd _ _
    ·rfl
   ·split
    ·exact hd _ _
    ·rfl
  simp only [evS,h0]
 rw [sh3] at h ⊢
 simp only [slimC,evS] at h
 simp only [evCode,evL_eq]
 exact h
theorem par_of_call {k:Nat} {xs:List V} {H:Hp} {r:V×Hp} (h:evCall tab k 26 xs H=some r):parE xs H=some r:=by
 cases k with
 | zero=>simp [evCall] at h
 | succ k =>
  have hx:tab.ext 26=none:=rfl
  simp only [evCall,fnP,bodyP,hx] at h
  have fin:∀ {o:Out} {F' : Fr} {H' : Hp},evCode tab (evCall tab k) 26 k (.seq p0 (.seq p1 (.seq p2 (.seq p3 p4)))) (frame xs 0 .nil) H=some (o,F',H')->(o = .ret\/o = .nrm)->parFin F' H' = some r->parE xs H=some r:=fun {o F' H'} h1 h2 h3=>by
   refine parE_of (k:=k) ?_
   unfold parK
   simp only [evCode] at h1
   split at h1
   ·rename_i F0 H0 g0
    rw [g0]
    dsimp only
    split at h1
    ·rename_i F1 H1 g1
     rw [g1]
     dsimp only
     split at h1
     ·rw [p3_none] at h1;cases h1
     ·rename_i g2
      rcases h2 with rfl | rfl
      ·rw [h1];exact h3
      ·exact absurd h1 (g2 _ _)
    ·rename_i g1
     rw [sh1] at h1
     have:=reg_nrm h1
     subst this
     rw [<- sh1] at h1
     exact absurd h1 (g1 _ _)
   ·rename_i g0
    rw [sh0] at h1
    have:=reg_nrm h1
    subst this
    rw [<- sh0] at h1
    exact absurd h1 (g0 _ _)
  split at h
  ·rename_i h1
   exact fin h1 (.inl rfl) h
  ·rename_i h1
   exact fin h1 (.inr rfl) h
  ·cases h
noncomputable def ext1 (f:FuncId):Option (List V->Hp->Option (V×Hp)):=if f=26 then some parE else ext0 f
noncomputable abbrev tab1:Tab:=tab.with_ ext1
theorem ext1_same:∀ f,ext1 f=tab.ext f\/∃ ef,ext1 f=some ef/\∀ k xs H r,evCall tab k f xs H=some r->ef xs H=some r:=fun f=>by
 unfold ext1
 split
 ·rename_i h;subst h;exact .inr ⟨_,rfl,fun k xs H r h=>par_of_call h⟩
 ·exact .inl rfl
theorem to1 {f:FuncId} {xs:List V} {H:Hp} {Q:V->Hp->Prop} (h:WF tab f xs H Q):WF tab1 f xs H Q:=w_wf ext1_same h
theorem extOk1:ExtOk tab1 Tryz.prog:=fun f e hx=>by
 have hx:ext1 f=some e:=hx
 unfold ext1 at hx
 split at hx
 ·rename_i h;subst h;cases hx;exact parF
 ·exact extOk f e hx
theorem extGood1:ExtGood tab1:=fun f e hx xs H v H' hk hG=>by
 have hx:ext1 f=some e:=hx
 unfold ext1 at hx
 split at hx
 ·cases hx;exact parE_good hk hG
 ·exact extGood f e hx xs H v H' hk hG
theorem quietOk1:QuietOk tab1 Tryz.prog:=fun g h=>by cases h
theorem okP1:ProgOk tab1 Tryz.prog an:=⟨extOk1,extGood1,⟨tabOk.ty,tabOk.fn⟩,mixedOk,fun f fn h=>(w_fnOk an f fn).trans (codeOk f fn h),quietOk1⟩
theorem parse_ok {H:Hp} {N:Nat} (hG:Gd H) (hL:LvG N H) (hN:N<=H.next) (s:Bs) (hl:s.length<=8192):WF tab1 26 [.str s] H fun w H'=>∃ v,w = .tup [v,.int .i64 (parseY s).at_,.int .i64 (parseY s).e]/\TreesAt (since H H') H' (parseY s).l v/\Ext noX H H':=by
 obtain ⟨v,H',h1,h2,h3⟩:=parse_told hG hL hN s hl
 have hx:tab1.ext 26=some parE:=rfl
 refine ⟨1,_,H',?_,v,rfl,h2,h3⟩
 simp only [evCall,with_fn,fnP,bodyP,hx]
 exact h1
#print axioms okP1
end Go.AM.YtlillgmgpmbfnaaGreatDoorT
namespace Go.AM.YtlillgmgpmbfnaaGreatDoorT
open Go Go.AM Go.Proofs
set_option maxRecDepth 100000
abbrev R7_0:List SOp:=[(some 4,.assign (.const (.bool false)),none)]
abbrev R7_1:List SOp:=[(some 16,.call ⟨.value (.func 24),#[],#[]⟩,none),
 (some 17,.unOp .not 4 (.tmp 16),none)]
abbrev R7_2:List SOp:=[(some 4,.assign (.const (.bool false)),none)]
abbrev R7_3:List SOp:=[(some 18,.buildSlice 33 6 #[(0,(.const (.string ⟨#[0x2b]⟩))),(1,(.const (.string ⟨#[0x2d]⟩))),(2,(.const (.string ⟨#[0x2a]⟩))),(3,(.const (.string ⟨#[0x3d,0x3d]⟩))),(4,(.const (.string ⟨#[0x21,0x3d]⟩))),(5,(.const (.string ⟨#[0x3c]⟩)))],none),
 (some 5,.assign (.tmp 18),none)]
abbrev R7_4:List SOp:=[(some 19,.buildSlice 51 6 #[(0,(.const (.int .i64 1))),(1,(.const (.int .i64 1))),(2,(.const (.int .i64 2))),(3,(.const (.int .i64 0))),(4,(.const (.int .i64 0))),(5,(.const (.int .i64 0)))],none),
 (some 6,.assign (.tmp 19),none)]
abbrev R7_5:List SOp:=[(some 20,.move (.tmp 0),none),
 (some 21,.binOp .rem 5 (.tmp 20) (.const (.int .u8 6)) 5,none),
 (some 22,.convert 5 3 (.tmp 21),none),
 (some 23,.move (.tmp 1),none),
 (some 24,.binOp .rem 5 (.tmp 23) (.const (.int .u8 6)) 5,none),
 (some 25,.convert 5 3 (.tmp 24),none),
 (some 7,.assign (.tmp 22),none),
 (some 8,.assign (.tmp 25),none)]
abbrev R7_6:List (SOp×Nat):=[((some 27,.move (.tmp 5),none),0),
 ((some 28,.move (.tmp 7),none),0),
 ((some 29,.indexAddr 33 (.tmp 27) (.tmp 28),none),0),
 ((some 30,.load 9 (.tmp 29),none),0),
 ((some 31,.binOp .add 9 (.const (.string ⟨#[0x61,0x20]⟩)) (.tmp 30) 9,none),0),
 ((some 32,.binOp .add 9 (.tmp 31) (.const (.string ⟨#[0x20,0x62,0x20]⟩)) 9,none),0),
 ((some 33,.move (.tmp 5),none),0),
 ((some 34,.move (.tmp 8),none),0),
 ((some 35,.indexAddr 33 (.tmp 33) (.tmp 34),none),0),
 ((some 36,.load 9 (.tmp 35),none),0),
 ((some 37,.binOp .add 9 (.tmp 32) (.tmp 36) 9,none),0),
 ((some 38,.binOp .add 9 (.tmp 37) (.const (.string ⟨#[0x20,0x63,0x3b]⟩)) 9,none),0),
 ((some 39,.call ⟨.value (.func 26),#[(.tmp 38)],#[9]⟩,none),0),
 ((some 26,.move (.tmp 39),none),0),
 ((some 40,.extract (.tmp 26) 0,none),0),
 ((some 41,.extract (.tmp 26) 1,none),0),
 ((some 42,.extract (.tmp 26) 2,none),0),
 ((some 9,.assign (.tmp 40),none),0),
 ((some 10,.assign (.tmp 41),none),0),
 ((some 11,.assign (.tmp 42),none),0)]
abbrev R7_7:List SOp:=[(some 43,.move (.tmp 6),none),
 (some 44,.move (.tmp 7),none),
 (some 45,.indexAddr 51 (.tmp 43) (.tmp 44),none),
 (some 46,.load 3 (.tmp 45),none),
 (some 47,.binOp .eql 3 (.tmp 46) (.const (.int .i64 0)) 3,none),
 (some 48,.move (.tmp 47),none),
 (some 49,.move (.tmp 6),some (some 48,true)),
 (some 50,.move (.tmp 8),some (some 48,true)),
 (some 51,.indexAddr 51 (.tmp 49) (.tmp 50),some (some 48,true)),
 (some 52,.load 3 (.tmp 51),some (some 48,true)),
 (some 53,.binOp .eql 3 (.tmp 52) (.const (.int .i64 0)) 3,some (some 48,true)),
 (some 54,.pick (.tmp 48) (.tmp 53) (.const (.bool false)),none)]
abbrev R7_8:List SOp:=[(some 55,.move (.tmp 11),none),
 (some 56,.binOp .eql 47 (.tmp 55) (.const (.int .i64 1)) 47,none),
 (some 57,.move (.tmp 56),none),
 (some 58,.move (.tmp 10),some (some 57,true)),
 (some 59,.move (.tmp 5),some (some 57,true)),
 (some 60,.move (.tmp 7),some (some 57,true)),
 (some 61,.indexAddr 33 (.tmp 59) (.tmp 60),some (some 57,true)),
 (some 62,.load 9 (.tmp 61),some (some 57,true)),
 (some 63,.binOp .add 9 (.const (.string ⟨#[0x61,0x20]⟩)) (.tmp 62) 9,some (some 57,true)),
 (some 64,.binOp .add 9 (.tmp 63) (.const (.string ⟨#[0x20,0x62,0x20]⟩)) 9,some (some 57,true)),
 (some 65,.call ⟨.builtin .len,#[(.tmp 64)],#[9]⟩,some (some 57,true)),
 (some 66,.binOp .eql 3 (.tmp 58) (.tmp 65) 3,some (some 57,true)),
 (some 67,.pick (.tmp 57) (.tmp 66) (.const (.bool false)),none),
 (some 4,.assign (.tmp 67),none)]
abbrev R7_9:List (SOp×Nat):=[((some 68,.move (.tmp 5),none),0),
 ((some 69,.move (.tmp 7),none),0),
 ((some 70,.indexAddr 33 (.tmp 68) (.tmp 69),none),0),
 ((some 71,.load 9 (.tmp 70),none),0),
 ((some 72,.binOp .add 9 (.const (.string ⟨#[0x28,0x61,0x20]⟩)) (.tmp 71) 9,none),0),
 ((some 73,.binOp .add 9 (.tmp 72) (.const (.string ⟨#[0x20,0x62,0x29,0x20]⟩)) 9,none),0),
 ((some 74,.move (.tmp 5),none),0),
 ((some 75,.move (.tmp 8),none),0),
 ((some 76,.indexAddr 33 (.tmp 74) (.tmp 75),none),0),
 ((some 77,.load 9 (.tmp 76),none),0),
 ((some 78,.binOp .add 9 (.tmp 73) (.tmp 77) 9,none),0),
 ((some 79,.binOp .add 9 (.tmp 78) (.const (.string ⟨#[0x20,0x63,0x3b]⟩)) 9,none),0),
 ((some 12,.assign (.tmp 79),none),0)]
abbrev R7_10:List (SOp×Nat):=[((some 80,.move (.tmp 6),none),0),
 ((some 81,.move (.tmp 8),none),0),
 ((some 82,.indexAddr 51 (.tmp 80) (.tmp 81),none),0),
 ((some 83,.load 3 (.tmp 82),none),0),
 ((some 84,.move (.tmp 6),none),0),
 ((some 85,.move (.tmp 7),none),0),
 ((some 86,.indexAddr 51 (.tmp 84) (.tmp 85),none),0),
 ((some 87,.load 3 (.tmp 86),none),0),
 ((some 88,.binOp .gtr 3 (.tmp 83) (.tmp 87) 3,none),0)]
abbrev R7_11:List (SOp×Nat):=[((some 89,.move (.tmp 5),none),0),
 ((some 90,.move (.tmp 7),none),0),
 ((some 91,.indexAddr 33 (.tmp 89) (.tmp 90),none),0),
 ((some 92,.load 9 (.tmp 91),none),0),
 ((some 93,.binOp .add 9 (.const (.string ⟨#[0x61,0x20]⟩)) (.tmp 92) 9,none),0),
 ((some 94,.binOp .add 9 (.tmp 93) (.const (.string ⟨#[0x20,0x28,0x62,0x20]⟩)) 9,none),0),
 ((some 95,.move (.tmp 5),none),0),
 ((some 96,.move (.tmp 8),none),0),
 ((some 97,.indexAddr 33 (.tmp 95) (.tmp 96),none),0),
 ((some 98,.load 9 (.tmp 97),none),0),
 ((some 99,.binOp .add 9 (.tmp 94) (.tmp 98) 9,none),0),
 ((some 100,.binOp .add 9 (.tmp 99) (.const (.string ⟨#[0x20,0x63,0x29,0x3b]⟩)) 9,none),0),
 ((some 12,.assign (.tmp 100),none),0)]
abbrev R7_12:List SOp:=[(some 102,.move (.tmp 12),none),
 (some 103,.call ⟨.value (.func 26),#[(.tmp 102)],#[9]⟩,none),
 (some 101,.move (.tmp 103),none),
 (some 104,.extract (.tmp 101) 0,none),
 (some 105,.extract (.tmp 101) 1,none),
 (some 106,.extract (.tmp 101) 2,none),
 (some 13,.assign (.tmp 104),none),
 (some 14,.assign (.tmp 105),none),
 (some 15,.assign (.tmp 106),none)]
abbrev R7_13:List SOp:=[(some 107,.move (.tmp 11),none),
 (some 108,.binOp .eql 47 (.tmp 107) (.const (.int .i64 0)) 47,none),
 (some 109,.move (.tmp 108),none),
 (some 110,.move (.tmp 15),some (some 109,true)),
 (some 111,.binOp .eql 47 (.tmp 110) (.const (.int .i64 0)) 47,some (some 109,true)),
 (some 112,.pick (.tmp 109) (.tmp 111) (.const (.bool false)),none),
 (some 113,.move (.tmp 112),none),
 (some 114,.move (.tmp 9),some (some 113,true)),
 (some 115,.move (.tmp 13),some (some 113,true)),
 (some 116,.call ⟨.value (.func 23),#[(.tmp 114),(.tmp 115)],#[24,24]⟩,some (some 113,true)),
 (some 117,.pick (.tmp 113) (.tmp 116) (.const (.bool false)),none),
 (some 4,.assign (.tmp 117),none)]
abbrev S7:SCode:=.seq (.reg R7_0) (.seq (.seq (.reg R7_1) (.cond (.tmp 17) (.seq (.reg R7_2) (.ret)) (.skip))) (.seq (.reg R7_3) (.seq (.reg R7_4) (.seq (.reg R7_5) (.seq (.dreg R7_6) (.seq (.seq (.reg R7_7) (.cond (.tmp 54) (.seq (.reg R7_8) (.ret)) (.skip))) (.seq (.dreg R7_9) (.seq (.seq (.dreg R7_10) (.cond (.tmp 88) (.dreg R7_11) (.skip))) (.seq (.reg R7_12) (.seq (.reg R7_13) (.ret)))))))))))
theorem slim7:slimC tab 7 (Tryz.f7.body.getD .skip)=S7:=by kernel_rfl
theorem wf7 {xs:List V} {H:Hp} {Q:V->Hp->Prop} (h:WC tab1 S7 (frame xs 0 .nil) H (resQ tab1 [.tmp 4] Q)):WF tab1 7 xs H Q:=WF.of_slim (T:=tab1) (f:=7) rfl fn7 rfl ((w_slim (T:=tab) (e:=ext1) 7 _).trans slim7) rfl h
end Go.AM.YtlillgmgpmbfnaaGreatDoorT
namespace Go.AM.YtlillgmgpmbfnaaGreatDoorT
open Go Go.AM
attribute [simp] wp_skip wp_reg wp_dreg wp_areg ap_ap wp_seq wp_cond wp_block wp_loop wp_exit wp_ret wpL_nil wpL_cons wpD_nil wpD_cons sq_nrm sq_exit sq_ret nm_ap bl_nrm bl_ret bl_exit cd_true cd_false lp_nrm lp_exit lp_ret rs_ret rs_nrm rsQ contL contD kV kAW kA kW kC kCo wantQ oq_p oq_r oq_w oq_c oq_alloc oq_box oq_bs oq_mm oq_ms oq_cv dV dAW dA dW dC dCo isCall skD od_p od_r od_w od_c od_alloc od_box od_bs od_mm od_ms od_cv wantDQ wantS kind convKd lenV_sl lenV_nils lenV_sle lenV_str evP evR evA evW evAW descOf frame opd opds Tr.get_set putD delD resOf getAll kbOk afterA isPt winOk ofVal ofVal0 ofVals binInt binStr binE_int binE_str binE_shl binE_shr binE_eql_agg binE_neq_agg binE_eql_bool binE_neq_bool binE_eql_pn binE_neq_pn binE_eql_nn binE_neq_nn binE_eql_in binE_neq_in binE_eql_ii binE_neq_ii isBoolD isPtrD isIfD isMpD isSlD isC cells_agg cells_bool one_bool cells_int one_int cells_str one_str cells_nilp one_nilp cells_ptr one_ptr cells_nils one_nils cells_sle one_sle cells_sl one_sl cells_nilm one_nilm cells_mp one_mp cells_nilf one_nilf cells_fn one_fn cells_nili one_nili cells_ifc one_ifc isAgg isMapT optI partV zeroV keyOk keyOk1 keyOkS keyOkL eqS sameL same1 sameK esOf partsV fillV placesV setCells mapKeyOk Hp.get_flush Hp.stale_flush Hp.next_flush repl List.nil_append get_new_self get_put_self get_bump next_bump st_new st_put st_bump Hp.next_new Hp.next_put flush_of IntKind.bits tab_ng nna1 nnb1 nna2 nnb2 nna3 nnb3 nna4 nnb4 nna5 nnb5 nna6 nnb6 nna7 nnb7 nna8 nnb8 with_ty with_ng
end Go.AM.YtlillgmgpmbfnaaGreatDoorT
namespace Go.AM.YtlillgmgpmbfnaaGreatDoorT
open Go Go.AM Go.Proofs
set_option maxRecDepth 100000
end Go.AM.YtlillgmgpmbfnaaGreatDoorT
namespace Go.AM.YtlillgmgpmbfnaaGreatDoorT
open Go Go.AM
end Go.AM.YtlillgmgpmbfnaaGreatDoorT
namespace Go.AM.YtlillgmgpmbfnaaGreatDoorT
open Go Go.AM Go.Proofs
set_option maxRecDepth 100000
abbrev R24_0:List SOp:=[(some 0,.assign (.const (.bool false)),none)]
abbrev R24_1:List SOp:=[(some 4,.call ⟨.value (.func 14),#[],#[]⟩,none),
 (some 5,.unOp .not 4 (.tmp 4),none)]
abbrev R24_2:List SOp:=[(some 0,.assign (.const (.bool false)),none)]
abbrev R24_3:List SOp:=[(some 7,.call ⟨.value (.func 26),#[(.const (.string ⟨#[0x78,0x2e,0x79,0x20,0x3d,0x20,0x2d,0x31,0x3b]⟩))],#[9]⟩,none),
 (some 6,.move (.tmp 7),none),
 (some 8,.extract (.tmp 6) 0,none),
 (some 9,.extract (.tmp 6) 1,none),
 (some 10,.extract (.tmp 6) 2,none),
 (some 1,.assign (.tmp 8),none),
 (some 2,.assign (.tmp 9),none),
 (some 3,.assign (.tmp 10),none)]
abbrev R24_4:List SOp:=[(some 11,.move (.tmp 3),none),
 (some 12,.binOp .eql 47 (.tmp 11) (.const (.int .i64 0)) 47,none),
 (some 13,.move (.tmp 12),none),
 (some 14,.move (.tmp 2),some (some 13,true)),
 (some 15,.binOp .eql 3 (.tmp 14) (.const (.int .i64 0)) 3,some (some 13,true)),
 (some 16,.pick (.tmp 13) (.tmp 15) (.const (.bool false)),none),
 (some 17,.move (.tmp 16),none),
 (some 18,.move (.tmp 1),some (some 17,true)),
 (some 19,.call ⟨.builtin .len,#[(.tmp 18)],#[24]⟩,some (some 17,true)),
 (some 20,.binOp .eql 3 (.tmp 19) (.const (.int .i64 1)) 3,some (some 17,true)),
 (some 21,.pick (.tmp 17) (.tmp 20) (.const (.bool false)),none),
 (some 22,.move (.tmp 21),none),
 (some 23,.move (.tmp 1),some (some 22,true)),
 (some 24,.indexAddr 24 (.tmp 23) (.const (.int .i64 0)),some (some 22,true)),
 (some 25,.fieldAddr 30 (.tmp 24) 0,some (some 22,true)),
 (some 26,.load 27 (.tmp 25),some (some 22,true)),
 (some 27,.binOp .eql 27 (.tmp 26) (.const (.int .i64 2)) 27,some (some 22,true)),
 (some 28,.pick (.tmp 22) (.tmp 27) (.const (.bool false)),none),
 (some 29,.move (.tmp 28),none),
 (some 30,.move (.tmp 1),some (some 29,true)),
 (some 31,.indexAddr 24 (.tmp 30) (.const (.int .i64 0)),some (some 29,true)),
 (some 32,.fieldAddr 30 (.tmp 31) 2,some (some 29,true)),
 (some 33,.load 28 (.tmp 32),some (some 29,true)),
 (some 34,.indexAddr 28 (.tmp 33) (.const (.int .i64 1)),some (some 29,true)),
 (some 35,.fieldAddr 35 (.tmp 34) 2,some (some 29,true)),
 (some 36,.load 9 (.tmp 35),some (some 29,true)),
 (some 37,.binOp .eql 9 (.tmp 36) (.const (.string ⟨#[0x79]⟩)) 9,some (some 29,true)),
 (some 38,.pick (.tmp 29) (.tmp 37) (.const (.bool false)),none),
 (some 39,.move (.tmp 38),none),
 (some 40,.call ⟨.value (.func 50),#[(.const (.string ⟨#[0x66,0x6e]⟩))],#[9]⟩,some (some 39,true)),
 (some 41,.pick (.tmp 39) (.tmp 40) (.const (.bool false)),none),
 (some 42,.move (.tmp 41),none),
 (some 43,.call ⟨.value (.func 50),#[(.const (.string ⟨#[0x6c,0x65,0x6e]⟩))],#[9]⟩,some (some 42,true)),
 (some 44,.unOp .not 4 (.tmp 43),some (some 42,true)),
 (some 45,.pick (.tmp 42) (.tmp 44) (.const (.bool false)),none),
 (some 0,.assign (.tmp 45),none)]
abbrev S24:SCode:=.seq (.reg R24_0) (.seq (.seq (.reg R24_1) (.cond (.tmp 5) (.seq (.reg R24_2) (.ret)) (.skip))) (.seq (.reg R24_3) (.seq (.reg R24_4) (.ret))))
theorem slim24:slimC tab 24 (Tryz.f24.body.getD .skip)=S24:=by kernel_rfl
theorem wf24 {xs:List V} {H:Hp} {Q:V->Hp->Prop} (h:WC tab1 S24 (frame xs 0 .nil) H (resQ tab1 [.tmp 0] Q)):WF tab1 24 xs H Q:=WF.of_slim (T:=tab1) (f:=24) rfl fn24 rfl ((w_slim (T:=tab) (e:=ext1) 24 _).trans slim24) rfl h
end Go.AM.YtlillgmgpmbfnaaGreatDoorT
namespace Go.AM.YtlillgmgpmbfnaaGreatDoorT
open Go Go.AM
end Go.AM.YtlillgmgpmbfnaaGreatDoorT
set_option maxRecDepth 1000000
namespace Go.AM.YtlillgmgpmbfnaaGreatDoorT
open Go Go.AM Go.Proofs
abbrev Es:=List (V×V×Nat)
structure Lev where
 a:Es
 b:Es
 c:Es
 ca:Nat
 cb:Nat
 cc:Nat
def e1 (n:Nat):V×V×Nat:=(.str [33,61],.int .i64 12,n)
def e2 (n:Nat):V×V×Nat:=(.str [60],.int .i64 13,n)
def e3 (n:Nat):V×V×Nat:=(.str [61,61],.int .i64 11,n)
def e4 (n:Nat):V×V×Nat:=(.str [43],.int .i64 8,n)
def e5 (n:Nat):V×V×Nat:=(.str [45],.int .i64 9,n)
def e6 (n:Nat):V×V×Nat:=(.str [42],.int .i64 10,n)
structure LevOk (m:Lev):Prop where
 a:∃ i j k,m.a=[e1 i,e2 j,e3 k]\/m.a=[e1 i,e3 k,e2 j]\/m.a=[e2 j,e1 i,e3 k]\/m.a=[e2 j,e3 k,e1 i]\/m.a=[e3 k,e1 i,e2 j]\/m.a=[e3 k,e2 j,e1 i]
 b:∃ i j,m.b=[e4 i,e5 j]\/m.b=[e5 j,e4 i]
 c:∃ i,m.c=[e6 i]
def mpO (e:Es) (c:Nat):Option Ob:=some (.map true e c)
def gl7 (o3 o9:Option Ob) (m:Lev) (l:List (Option Ob)):List (Option Ob) :=
 [some (.row 77 1 true signsL),some (.row 118 1 true (resL.map .str)),some (.row 122 1 true simL),o3,none,none,some (.row 206 1 true [.mp 15,.mp 16,.mp 17]),none,none,o9,none,none,none,errR,none,mpO m.a m.ca,mpO m.b m.cb,mpO m.c m.cc]++l
theorem lve0 {es:Es} (h:∃ i j k,es=[e1 i,e2 j,e3 k]\/es=[e1 i,e3 k,e2 j]\/es=[e2 j,e1 i,e3 k]\/es=[e2 j,e3 k,e1 i]\/es=[e3 k,e1 i,e2 j]\/es=[e3 k,e2 j,e1 i]):LvE 0 es:=by
 obtain ⟨i,j,k,h⟩:=h
 intro t
 by_cases h1:t=[61,61]
 ·subst h1
  rcases h with rfl | rfl | rfl | rfl | rfl | rfl<;>exact .inr ⟨_,11,rfl,rfl⟩
 by_cases h2:t=[33,61]
 ·subst h2
  rcases h with rfl | rfl | rfl | rfl | rfl | rfl<;>exact .inr ⟨_,12,rfl,rfl⟩
 by_cases h3:t=[60]
 ·subst h3
  rcases h with rfl | rfl | rfl | rfl | rfl | rfl<;>exact .inr ⟨_,13,rfl,rfl⟩
 left
 refine ⟨?_,by simp [lvY,h1,h2,h3]⟩
 have q1:(t==[61,61])=false:=beq_false_of_ne h1
 have q2:(t==[33,61])=false:=beq_false_of_ne h2
 have q3:(t==[60])=false:=beq_false_of_ne h3
 rcases h with rfl | rfl | rfl | rfl | rfl | rfl<;>simp [findE,e1,e2,e3,sameK,same1,q1,q2,q3]
theorem lve1 {es:Es} (h:∃ i j,es=[e4 i,e5 j]\/es=[e5 j,e4 i]):LvE 1 es:=by
 obtain ⟨i,j,h⟩:=h
 intro t
 by_cases h1:t=[43]
 ·subst h1
  rcases h with rfl | rfl<;>exact .inr ⟨_,8,rfl,rfl⟩
 by_cases h2:t=[45]
 ·subst h2
  rcases h with rfl | rfl<;>exact .inr ⟨_,9,rfl,rfl⟩
 left
 refine ⟨?_,by simp [lvY,h1,h2]⟩
 have q1:(t==[43])=false:=beq_false_of_ne h1
 have q2:(t==[45])=false:=beq_false_of_ne h2
 rcases h with rfl | rfl<;>simp [findE,e4,e5,sameK,same1,q1,q2]
theorem lve2 {es:Es} (h:∃ i,es=[e6 i]):LvE 2 es:=by
 obtain ⟨i,rfl⟩:=h
 intro t
 by_cases h1:t=[42]
 ·subst h1;exact .inr ⟨_,10,rfl,rfl⟩
 left
 refine ⟨?_,by simp [lvY,h1]⟩
 have q1:(t==[42])=false:=beq_false_of_ne h1
 simp [findE,e6,sameK,same1,q1]
theorem lvg7 {m:Lev} (h:LevOk m) (o3 o9:Option Ob) (l:List (Option Ob)):LvG 18 (hO (gl7 o3 o9 m l)):=by
 refine ⟨by rw [hO_get];rfl,by rw [hO_get];rfl,⟨15,16,17,m.a,m.b,m.c,m.ca,m.cb,m.cc,by rw [hO_get];rfl,by omega,by omega,by omega,by rw [hO_get];rfl,by rw [hO_get];rfl,by rw [hO_get];rfl,lve0 h.a,lve1 h.b,lve2 h.c⟩,by decide,by decide,by decide⟩
theorem gd7 (m:Lev) (o3 o9:Option Ob) (l:List (Option Ob)):Gd (hO (gl7 o3 o9 m l)) :=
 ⟨hO_st _,by rw [hO_next];simp [gl7],by rw [hO_get];rfl⟩
theorem awake6_70 (o3 o9 a b c:Option Ob):WF tab 14 [] (hO [some (.row 77 1 true signsL),some (.row 118 1 true (resL.map .str)),some (.row 122 1 true simL),o3,none,none,some (.row 206 1 true [.mp 15,.mp 16,.mp 17]),none,none,o9,none,none,none,errR,none,a,b,c]) fun v H'=>v = .bool true/\Ext noX (hO [some (.row 77 1 true signsL),some (.row 118 1 true (resL.map .str)),some (.row 122 1 true simL),o3,none,none,some (.row 206 1 true [.mp 15,.mp 16,.mp 17]),none,none,o9,none,none,none,errR,none,a,b,c]) H':=tellsO_wf (k:=200) (by kernel_rfl)
end Go.AM.YtlillgmgpmbfnaaGreatDoorT
set_option maxRecDepth 100000
namespace Go.AM.YtlillgmgpmbfnaaGreatDoorT
open Go Go.AM Go.Proofs
theorem LvG.ext {N:Nat} {H H' : Hp} (h:LvG N H) (hN:N<=H.next) (hE:Ext noX H H'):LvG N H':=h.of_get fun b hb=>hE.get b (by omega) (fun h=>h)
def exW:List Tx:=[.st 2 [] [.ex 5 0 [120] [] [] [],.ex 4 0 [121] [] [] [],.ex 6 0 [] [.ex 3 1 [] [] [] []] [] []] [] [] 0]
theorem exY:parseY [120,46,121,32,61,32,45,49,59]=⟨exW,0,0⟩:=by kernel_rfl
theorem awake7_ok {N:Nat} {H:Hp} (h6:WF tab 14 [] H fun v H'=>v = .bool true/\Ext noX H H') (hG:Gd H) (hL:LvG N H) (hN:N<=H.next):WF tab1 24 [] H fun v H'=>v = .bool true/\Ext noX H H':=by
 refine wf24 (wp_sound _ ?_)
 have hst:=hG.st
 simp [hst]
 refine (to1 h6).mono ?_
 rintro v H1 ⟨rfl,X1⟩
 have st1:=X1.st
 simp [st1]
 refine (parse_ok (hG.ext X1 (fun h=>h)) (hL.ext hN X1) (by have:=X1.le;omega) _ (by decide)).mono ?_
 rintro _ H2 ⟨v,rfl,hv,X2⟩
 rw [exY] at hv ⊢
 have st2:=X2.st
 have L2:=(hL.ext hN X1).ext (by have:=X1.le;omega) X2
 obtain ⟨b,off,cap,e,ro,cells,d0,d1,d2,d3,d4,d5,rfl,g1,g2,g3,g4,g5,g6,g7,g8⟩:=TreesAt.at_ hv (show 0 < exW.length by decide)
 replace g7:ExpAt (since H1 H2) H2 (.st 2 [] [.ex 5 0 [120] [] [] [],.ex 4 0 [121] [] [] [],.ex 6 0 [] [.ex 3 1 [] [] [] []] [] []] [] [] 0) [d0,d1,d2,d3,d4,d5]:=g7
 simp only [ExpAt] at g7
 obtain ⟨ve,vb,vl,h1,h2,h3,h4⟩:=g7
 cases h1
 obtain ⟨b',off',cap',e',ro',cells',c0,c1,c2,c3,c4,c5,rfl,k1,k2,k3,k4,k5,k6,k7,k8⟩:=TreesAt.at_ h2 (show 1 < 3 by decide)
 replace k7:ExpAt (since H1 H2) H2 (.ex 4 0 [121] [] [] []) [c0,c1,c2,c3,c4,c5]:=k7
 simp only [ExpAt] at k7
 obtain ⟨vp,vq,vb',i1,i2,i3,i4⟩:=k7
 cases i1
 have q0:cells[off]? = some (.int .i64 2):=by have:=congrArg (·[0]?) g6;simpa using this
 have q2:cells[off+2]? = some (.sl b' off' 3 cap' 6):=by have:=congrArg (·[2]?) g6;simpa using this
 have q4:cells'[off' + 8]? = some (.str [121]):=by have:=congrArg (·[2]?) k6;simpa using this
 have hz:exW.length=1:=rfl
 simp [st2,hz,g1,q0,q2,k1,q4]
 refine (to1 (res_ok st2 L2 _)).mono ?_
 rintro _ H3 ⟨rfl,rfl⟩
 have r1:decide ([102,110]∈resL)=true:=by decide
 have r2:decide ([108,101,110]∈resL)=false:=by decide
 rw [r1]
 simp [st2]
 refine (to1 (res_ok st2 L2 _)).mono ?_
 rintro _ H3 ⟨rfl,rfl⟩
 rw [r2]
 simp [st2]
 exact X1.trans X2
end Go.AM.YtlillgmgpmbfnaaGreatDoorT
namespace Go.AM.YtlillgmgpmbfnaaGreatDoorT
open Go Go.AM Go.Proofs
set_option maxRecDepth 100000
abbrev R73_0:List SOp:=[(some 6,.assign (.const (.bool false)),none)]
abbrev R73_1:List SOp:=[(some 10,.move (.tmp 0),none),
 (some 11,.call ⟨.builtin .len,#[(.tmp 10)],#[28]⟩,none),
 (some 12,.move (.tmp 1),none),
 (some 13,.call ⟨.builtin .len,#[(.tmp 12)],#[28]⟩,none),
 (some 14,.binOp .neq 3 (.tmp 11) (.tmp 13) 3,none)]
abbrev R73_2:List SOp:=[(some 6,.assign (.const (.bool false)),none)]
abbrev R73_3:List SOp:=[(some 15,.move (.tmp 0),none),
 (some 16,.call ⟨.builtin .len,#[(.tmp 15)],#[28]⟩,none),
 (some 17,.move (.const (.int .i64 0)),none)]
abbrev R73_4:List SOp:=[(some 18,.binOp .lss 3 (.tmp 17) (.tmp 16) 3,none)]
abbrev R73_5:List SOp:=[(some 19,.move (.tmp 17),none),
 (some 20,.indexAddr 28 (.tmp 15) (.tmp 17),none),
 (some 21,.load 35 (.tmp 20),none),
 (some 8,.alloc 35,none),
 (some 7,.assign (.tmp 19),none),
 (none,.store 35 (.tmp 8) (.tmp 21),none)]
abbrev R73_6:List SOp:=[(some 22,.move (.tmp 1),none),
 (some 23,.move (.tmp 7),none),
 (some 24,.indexAddr 28 (.tmp 22) (.tmp 23),none),
 (some 25,.load 35 (.tmp 24),none),
 (some 9,.alloc 35,none),
 (none,.store 35 (.tmp 9) (.tmp 25),none)]
abbrev R73_7:List SOp:=[(some 26,.move (.tmp 2),none),
 (some 27,.load 35 (.tmp 8),none),
 (some 28,.load 35 (.tmp 9),none),
 (some 29,.call ⟨.value (.tmp 26),#[(.tmp 27),(.tmp 28)],#[35,35]⟩,none),
 (some 30,.unOp .not 4 (.tmp 29),none)]
abbrev R73_8:List SOp:=[(some 6,.assign (.const (.bool false)),none)]
abbrev R73_9:List SOp:=[(some 31,.binOp .add 3 (.tmp 17) (.const (.int .i64 1)) 3,none),
 (some 17,.move (.tmp 31),none)]
def L73_0:SCode:=.seq (.reg R73_4) (.seq (.cond (.tmp 18) (.skip) (.exit 0)) (.seq (.block 1 (.seq (.reg R73_5) (.seq (.reg R73_6) (.seq (.reg R73_7) (.cond (.tmp 30) (.seq (.reg R73_8) (.ret)) (.skip)))))) (.reg R73_9)))
abbrev R73_10:List SOp:=[(some 6,.assign (.const (.bool true)),none)]
abbrev S73:SCode:=.seq (.reg R73_0) (.seq (.seq (.reg R73_1) (.cond (.tmp 14) (.seq (.reg R73_2) (.ret)) (.skip))) (.seq (.seq (.reg R73_3) (.block 0 (.loop L73_0))) (.seq (.reg R73_10) (.ret))))
theorem slim73:slimC tab 73 (Tryz.f73.body.getD .skip)=S73:=by kernel_rfl
theorem wf73 {xs:List V} {H:Hp} {Q:V->Hp->Prop} (h:WC tab S73 (frame xs 0 .nil) H (resQ tab [.tmp 6] Q)):WF tab 73 xs H Q:=WF.of_slim (T:=tab) (f:=73) rfl fn73 rfl slim73 rfl h
abbrev R48_0:List SOp:=[(some 6,.assign (.const (.bool false)),none)]
abbrev R48_1:List SOp:=[(some 10,.move (.tmp 0),none),
 (some 11,.call ⟨.builtin .len,#[(.tmp 10)],#[24]⟩,none),
 (some 12,.move (.tmp 1),none),
 (some 13,.call ⟨.builtin .len,#[(.tmp 12)],#[24]⟩,none),
 (some 14,.binOp .neq 3 (.tmp 11) (.tmp 13) 3,none)]
abbrev R48_2:List SOp:=[(some 6,.assign (.const (.bool false)),none)]
abbrev R48_3:List SOp:=[(some 15,.move (.tmp 0),none),
 (some 16,.call ⟨.builtin .len,#[(.tmp 15)],#[24]⟩,none),
 (some 17,.move (.const (.int .i64 0)),none)]
abbrev R48_4:List SOp:=[(some 18,.binOp .lss 3 (.tmp 17) (.tmp 16) 3,none)]
abbrev R48_5:List SOp:=[(some 19,.move (.tmp 17),none),
 (some 20,.indexAddr 24 (.tmp 15) (.tmp 17),none),
 (some 21,.load 30 (.tmp 20),none),
 (some 8,.alloc 30,none),
 (some 7,.assign (.tmp 19),none),
 (none,.store 30 (.tmp 8) (.tmp 21),none)]
abbrev R48_6:List SOp:=[(some 22,.move (.tmp 1),none),
 (some 23,.move (.tmp 7),none),
 (some 24,.indexAddr 24 (.tmp 22) (.tmp 23),none),
 (some 25,.load 30 (.tmp 24),none),
 (some 9,.alloc 30,none),
 (none,.store 30 (.tmp 9) (.tmp 25),none)]
abbrev R48_7:List SOp:=[(some 26,.move (.tmp 2),none),
 (some 27,.load 30 (.tmp 8),none),
 (some 28,.load 30 (.tmp 9),none),
 (some 29,.call ⟨.value (.tmp 26),#[(.tmp 27),(.tmp 28)],#[30,30]⟩,none),
 (some 30,.unOp .not 4 (.tmp 29),none)]
abbrev R48_8:List SOp:=[(some 6,.assign (.const (.bool false)),none)]
abbrev R48_9:List SOp:=[(some 31,.binOp .add 3 (.tmp 17) (.const (.int .i64 1)) 3,none),
 (some 17,.move (.tmp 31),none)]
def L48_0:SCode:=.seq (.reg R48_4) (.seq (.cond (.tmp 18) (.skip) (.exit 0)) (.seq (.block 1 (.seq (.reg R48_5) (.seq (.reg R48_6) (.seq (.reg R48_7) (.cond (.tmp 30) (.seq (.reg R48_8) (.ret)) (.skip)))))) (.reg R48_9)))
abbrev R48_10:List SOp:=[(some 6,.assign (.const (.bool true)),none)]
abbrev S48:SCode:=.seq (.reg R48_0) (.seq (.seq (.reg R48_1) (.cond (.tmp 14) (.seq (.reg R48_2) (.ret)) (.skip))) (.seq (.seq (.reg R48_3) (.block 0 (.loop L48_0))) (.seq (.reg R48_10) (.ret))))
theorem slim48:slimC tab 48 (Tryz.f48.body.getD .skip)=S48:=by kernel_rfl
theorem wf48 {xs:List V} {H:Hp} {Q:V->Hp->Prop} (h:WC tab S48 (frame xs 0 .nil) H (resQ tab [.tmp 6] Q)):WF tab 48 xs H Q:=WF.of_slim (T:=tab) (f:=48) rfl fn48 rfl slim48 rfl h
abbrev R74_0:List SOp:=[(some 2,.box 35 (.tmp 0),none),
 (some 3,.box 35 (.tmp 1),none),
 (some 4,.assign (.const (.bool false)),none)]
abbrev R74_1:List SOp:=[(some 5,.fieldAddr 35 (.tmp 2) 0,none),
 (some 6,.load 32 (.tmp 5),none),
 (some 7,.fieldAddr 35 (.tmp 3) 0,none),
 (some 8,.load 32 (.tmp 7),none),
 (some 9,.binOp .eql 32 (.tmp 6) (.tmp 8) 32,none),
 (some 10,.move (.tmp 9),none),
 (some 11,.fieldAddr 35 (.tmp 2) 1,some (some 10,true)),
 (some 12,.load 2 (.tmp 11),some (some 10,true)),
 (some 13,.fieldAddr 35 (.tmp 3) 1,some (some 10,true)),
 (some 14,.load 2 (.tmp 13),some (some 10,true)),
 (some 15,.binOp .eql 2 (.tmp 12) (.tmp 14) 2,some (some 10,true)),
 (some 16,.pick (.tmp 10) (.tmp 15) (.const (.bool false)),none),
 (some 17,.move (.tmp 16),none),
 (some 18,.fieldAddr 35 (.tmp 2) 2,some (some 17,true)),
 (some 19,.load 9 (.tmp 18),some (some 17,true)),
 (some 20,.fieldAddr 35 (.tmp 3) 2,some (some 17,true)),
 (some 21,.load 9 (.tmp 20),some (some 17,true)),
 (some 22,.binOp .eql 9 (.tmp 19) (.tmp 21) 9,some (some 17,true)),
 (some 23,.pick (.tmp 17) (.tmp 22) (.const (.bool false)),none),
 (some 24,.move (.tmp 23),none),
 (some 25,.fieldAddr 35 (.tmp 2) 3,some (some 24,true)),
 (some 26,.load 28 (.tmp 25),some (some 24,true)),
 (some 27,.fieldAddr 35 (.tmp 3) 3,some (some 24,true)),
 (some 28,.load 28 (.tmp 27),some (some 24,true)),
 (some 29,.call ⟨.value (.func 73),#[(.tmp 26),(.tmp 28),(.func 74)],#[28,28,117]⟩,some (some 24,true)),
 (some 30,.pick (.tmp 24) (.tmp 29) (.const (.bool false)),none),
 (some 31,.move (.tmp 30),none),
 (some 32,.fieldAddr 35 (.tmp 2) 4,some (some 31,true)),
 (some 33,.load 33 (.tmp 32),some (some 31,true)),
 (some 34,.fieldAddr 35 (.tmp 3) 4,some (some 31,true)),
 (some 35,.load 33 (.tmp 34),some (some 31,true)),
 (some 36,.call ⟨.value (.func 34),#[(.tmp 33),(.tmp 35)],#[33,33]⟩,some (some 31,true)),
 (some 37,.pick (.tmp 31) (.tmp 36) (.const (.bool false)),none),
 (some 38,.move (.tmp 37),none),
 (some 39,.fieldAddr 35 (.tmp 2) 5,some (some 38,true)),
 (some 40,.load 24 (.tmp 39),some (some 38,true)),
 (some 41,.fieldAddr 35 (.tmp 3) 5,some (some 38,true)),
 (some 42,.load 24 (.tmp 41),some (some 38,true)),
 (some 43,.call ⟨.value (.func 23),#[(.tmp 40),(.tmp 42)],#[24,24]⟩,some (some 38,true)),
 (some 44,.pick (.tmp 38) (.tmp 43) (.const (.bool false)),none),
 (some 4,.assign (.tmp 44),none)]
abbrev S74:SCode:=.seq (.reg R74_0) (.seq (.reg R74_1) (.ret))
theorem slim74:slimC tab 74 (Tryz.f74.body.getD .skip)=S74:=by kernel_rfl
theorem wf74 {xs:List V} {H:Hp} {Q:V->Hp->Prop} (h:WC tab S74 (frame xs 0 .nil) H (resQ tab [.tmp 4] Q)):WF tab 74 xs H Q:=WF.of_slim (T:=tab) (f:=74) rfl fn74 rfl slim74 rfl h
abbrev R49_0:List SOp:=[(some 2,.box 30 (.tmp 0),none),
 (some 3,.box 30 (.tmp 1),none),
 (some 4,.assign (.const (.bool false)),none)]
abbrev R49_1:List SOp:=[(some 5,.fieldAddr 30 (.tmp 2) 0,none),
 (some 6,.load 27 (.tmp 5),none),
 (some 7,.fieldAddr 30 (.tmp 3) 0,none),
 (some 8,.load 27 (.tmp 7),none),
 (some 9,.binOp .eql 27 (.tmp 6) (.tmp 8) 27,none),
 (some 10,.move (.tmp 9),none),
 (some 11,.fieldAddr 30 (.tmp 2) 1,some (some 10,true)),
 (some 12,.load 9 (.tmp 11),some (some 10,true)),
 (some 13,.fieldAddr 30 (.tmp 3) 1,some (some 10,true)),
 (some 14,.load 9 (.tmp 13),some (some 10,true)),
 (some 15,.binOp .eql 9 (.tmp 12) (.tmp 14) 9,some (some 10,true)),
 (some 16,.pick (.tmp 10) (.tmp 15) (.const (.bool false)),none),
 (some 17,.move (.tmp 16),none),
 (some 18,.fieldAddr 30 (.tmp 2) 2,some (some 17,true)),
 (some 19,.load 28 (.tmp 18),some (some 17,true)),
 (some 20,.fieldAddr 30 (.tmp 3) 2,some (some 17,true)),
 (some 21,.load 28 (.tmp 20),some (some 17,true)),
 (some 22,.call ⟨.value (.func 73),#[(.tmp 19),(.tmp 21),(.func 74)],#[28,28,117]⟩,some (some 17,true)),
 (some 23,.pick (.tmp 17) (.tmp 22) (.const (.bool false)),none),
 (some 24,.move (.tmp 23),none),
 (some 25,.fieldAddr 30 (.tmp 2) 3,some (some 24,true)),
 (some 26,.load 24 (.tmp 25),some (some 24,true)),
 (some 27,.fieldAddr 30 (.tmp 3) 3,some (some 24,true)),
 (some 28,.load 24 (.tmp 27),some (some 24,true)),
 (some 29,.call ⟨.value (.func 23),#[(.tmp 26),(.tmp 28)],#[24,24]⟩,some (some 24,true)),
 (some 30,.pick (.tmp 24) (.tmp 29) (.const (.bool false)),none),
 (some 31,.move (.tmp 30),none),
 (some 32,.fieldAddr 30 (.tmp 2) 4,some (some 31,true)),
 (some 33,.load 24 (.tmp 32),some (some 31,true)),
 (some 34,.fieldAddr 30 (.tmp 3) 4,some (some 31,true)),
 (some 35,.load 24 (.tmp 34),some (some 31,true)),
 (some 36,.call ⟨.value (.func 23),#[(.tmp 33),(.tmp 35)],#[24,24]⟩,some (some 31,true)),
 (some 37,.pick (.tmp 31) (.tmp 36) (.const (.bool false)),none),
 (some 4,.assign (.tmp 37),none)]
abbrev S49:SCode:=.seq (.reg R49_0) (.seq (.reg R49_1) (.ret))
theorem slim49:slimC tab 49 (Tryz.f49.body.getD .skip)=S49:=by kernel_rfl
theorem wf49 {xs:List V} {H:Hp} {Q:V->Hp->Prop} (h:WC tab S49 (frame xs 0 .nil) H (resQ tab [.tmp 4] Q)):WF tab 49 xs H Q:=WF.of_slim (T:=tab) (f:=49) rfl fn49 rfl slim49 rfl h
abbrev R23_0:List SOp:=[(some 4,.assign (.const (.bool false)),none)]
abbrev R23_1:List SOp:=[(some 5,.move (.tmp 0),none),
 (some 6,.move (.tmp 1),none),
 (some 7,.call ⟨.value (.func 48),#[(.tmp 5),(.tmp 6),(.func 49)],#[24,24,83]⟩,none),
 (some 4,.assign (.tmp 7),none)]
abbrev S23:SCode:=.seq (.reg R23_0) (.seq (.reg R23_1) (.ret))
theorem slim23:slimC tab 23 (Tryz.f23.body.getD .skip)=S23:=by kernel_rfl
theorem wf23 {xs:List V} {H:Hp} {Q:V->Hp->Prop} (h:WC tab S23 (frame xs 0 .nil) H (resQ tab [.tmp 4] Q)):WF tab 23 xs H Q:=WF.of_slim (T:=tab) (f:=23) rfl fn23 rfl slim23 rfl h
abbrev R34_0:List SOp:=[(some 4,.assign (.const (.bool false)),none)]
abbrev R34_1:List SOp:=[(some 6,.move (.tmp 0),none),
 (some 7,.call ⟨.builtin .len,#[(.tmp 6)],#[33]⟩,none),
 (some 8,.move (.tmp 1),none),
 (some 9,.call ⟨.builtin .len,#[(.tmp 8)],#[33]⟩,none),
 (some 10,.binOp .neq 3 (.tmp 7) (.tmp 9) 3,none)]
abbrev R34_2:List SOp:=[(some 4,.assign (.const (.bool false)),none)]
abbrev R34_3:List SOp:=[(some 11,.move (.tmp 0),none),
 (some 12,.call ⟨.builtin .len,#[(.tmp 11)],#[33]⟩,none),
 (some 13,.move (.const (.int .i64 0)),none)]
abbrev R34_4:List SOp:=[(some 14,.binOp .lss 3 (.tmp 13) (.tmp 12) 3,none)]
abbrev R34_5:List SOp:=[(some 15,.move (.tmp 13),none),
 (some 5,.assign (.tmp 15),none)]
abbrev R34_6:List (SOp×Nat):=[((some 16,.move (.tmp 0),none),0),
 ((some 17,.move (.tmp 5),none),0),
 ((some 18,.indexAddr 33 (.tmp 16) (.tmp 17),none),0),
 ((some 19,.load 9 (.tmp 18),none),0),
 ((some 20,.move (.tmp 1),none),0),
 ((some 21,.move (.tmp 5),none),0),
 ((some 22,.indexAddr 33 (.tmp 20) (.tmp 21),none),0),
 ((some 23,.load 9 (.tmp 22),none),0),
 ((some 24,.binOp .neq 9 (.tmp 19) (.tmp 23) 9,none),0)]
abbrev R34_7:List SOp:=[(some 4,.assign (.const (.bool false)),none)]
abbrev R34_8:List SOp:=[(some 25,.binOp .add 3 (.tmp 13) (.const (.int .i64 1)) 3,none),
 (some 13,.move (.tmp 25),none)]
def L34_0:SCode:=.seq (.reg R34_4) (.seq (.cond (.tmp 14) (.skip) (.exit 0)) (.seq (.block 1 (.seq (.reg R34_5) (.seq (.dreg R34_6) (.cond (.tmp 24) (.seq (.reg R34_7) (.ret)) (.skip))))) (.reg R34_8)))
abbrev R34_9:List SOp:=[(some 4,.assign (.const (.bool true)),none)]
abbrev S34:SCode:=.seq (.reg R34_0) (.seq (.seq (.reg R34_1) (.cond (.tmp 10) (.seq (.reg R34_2) (.ret)) (.skip))) (.seq (.seq (.reg R34_3) (.block 0 (.loop L34_0))) (.seq (.reg R34_9) (.ret))))
theorem slim34:slimC tab 34 (Tryz.f34.body.getD .skip)=S34:=by kernel_rfl
theorem wf34 {xs:List V} {H:Hp} {Q:V->Hp->Prop} (h:WC tab S34 (frame xs 0 .nil) H (resQ tab [.tmp 4] Q)):WF tab 34 xs H Q:=WF.of_slim (T:=tab) (f:=34) rfl fn34 rfl slim34 rfl h
end Go.AM.YtlillgmgpmbfnaaGreatDoorT
namespace Go.AM.YtlillgmgpmbfnaaGreatDoorT
open Go Go.AM
end Go.AM.YtlillgmgpmbfnaaGreatDoorT
namespace Go.AM
open Go
abbrev Tks:=List Tk
abbrev tw (w:Bs):Tk:=⟨1,w,0,0⟩
abbrev sg (s:Bs):Tk:=⟨4,s,0,0⟩
def joinT:List Tks->Tks
 | []=>[]
 | [x]=>x
 | x :: y :: r=>x++sg sComma :: joinT (y :: r)
def fieldsT:List Tks->List Tks
 | k :: v :: r=>(sg sLb :: k++sg sRb :: sg sColon :: v) :: fieldsT r
 | _=>[]
def nthT (l:List Tks) (i:Nat):Tks:=(l[i]?).getD []
def tkX (op:Nat) (num:Int) (text:Bs) (ps:List Tks) (qs:Ts) (body:Tks):Tks :=
 if op=0 then [tw wNil] else if op=1 then [tw wFalse] else if op=2 then [tw wTrue] else if op=3 then [⟨2,itoaF num,num,0⟩] else if op=4 then [⟨3,text,0,0⟩] else if op=5 then [tw text]
 else if op=6 then sg sLp :: sg sMinus :: nthT ps 0++[sg sRp] else if op=7 then sg sLp :: sg sBang :: nthT ps 0++[sg sRp] else if op=14 then nthT ps 0++sg sLb :: nthT ps 1++[sg sRb] else if op=15 then nthT ps 0++sg sLp :: joinT (ps.drop 1)++[sg sRp]
 else if op=16 then sg sLc :: joinT (fieldsT ps)++[sg sRc] else if op=17 then tw wFn :: sg sLp :: joinT (qs.map fun q=>[tw q])++sg sRp :: sg sLc :: body++[sg sRc]
 else sg sLp :: nthT ps 0++sg (signP op) :: nthT ps 1++[sg sRp]
def tkY (kind:Nat) (name:Bs) (es:List Tks) (b e:Tks) (ne:Bool):Tks :=
 if kind=0 then tw wLet :: tw name :: sg sEq :: nthT es 0++[sg sSemi] else if kind=1 then tw name :: sg sEq :: nthT es 0++[sg sSemi]
 else if kind=2 then nthT es 0++sg sLb :: nthT es 1++sg sRb :: sg sEq :: nthT es 2++[sg sSemi]
 else if kind=3 then tw wIf :: nthT es 0++sg sLc :: b++sg sRc :: (if ne then tw wElse :: sg sLc :: e++[sg sRc] else [])
 else if kind=4 then tw wWhile :: nthT es 0++sg sLc :: b++[sg sRc]
 else if kind=5 then tw wReturn :: nthT es 0++[sg sSemi] else if kind=6 then tw wThrow :: nthT es 0++[sg sSemi]
 else if kind=7 then tw wTry :: sg sLc :: b++sg sRc :: tw wCatch :: tw name :: sg sLc :: e++[sg sRc]
 else nthT es 0++[sg sSemi]
mutual
def tkE:Tx->Tks
 | .ex op num text parts params body=>tkX op num text (tkEs parts) params (tkB body)
 | .st ..=>[]
def tkEs:List Tx->List Tks
 | []=>[]
 | x :: r=>tkE x :: tkEs r
def tkS:Tx->Tks
 | .st kind name es b e _=>tkY kind name (tkEs es) (tkB b) (tkB e) (!e.isEmpty)
 | .ex ..=>[]
def tkB:List Tx->Tks
 | []=>[]
 | x :: r=>tkS x++tkB r
end
mutual
def dE:Tx->Nat
 | .ex op _ _ ps _ b=>2+max (dEs ps) (dSs b)
 | .st ..=>0
def dEs:List Tx->Nat
 | []=>0
 | x :: r=>max (dE x) (dEs r)
def dS:Tx->Nat
 | .st _ _ es b e _=>3+max (dEs es) (max (dSs b) (dSs e))
 | .ex ..=>0
def dSs:List Tx->Nat
 | []=>0
 | x :: r=>max (dS x) (dSs r)
end
theorem dEs_mem:∀ {l:List Tx} {x:Tx},x∈l->dE x<=dEs l
 | y :: r,x,hx=>by
  simp only [dEs]
  rcases List.mem_cons.1 hx with rfl | hx
  ·omega
  ·have:=dEs_mem hx;omega
def Evt {α:Type} (g:Nat->PR α) (r:PR α):Prop:=∃ N,∀ f,N<=f->g f=r
theorem Evt.succ {α:Type} {h b:Nat->PR α} {r:PR α} (hb:∀ f,h (f+1)=b f) (he:Evt b r):Evt h r:=by
 obtain ⟨N,hN⟩:=he
 refine ⟨N+1,fun f hf=>?_⟩
 obtain ⟨f,rfl⟩:∃ g,f=g+1:=⟨f-1,by omega⟩
 rw [hb];exact hN f (by omega)
theorem Evt.con {α:Type} (r:PR α):Evt (fun _=>r) r:=⟨0,fun _ _=>rfl⟩
theorem Evt.bind {α β:Type} {g:Nat->PR α} {k:Nat->α->Tks->PR β} {a:α} {l:Tks} {r:PR β} (hg:Evt g (.ok a l)) (hk:Evt (fun f=>k f a l) r):Evt (fun f=>(g f).bind (k f)) r:=by
 obtain ⟨N,hN⟩:=hg
 obtain ⟨M,hM⟩:=hk
 exact ⟨max N M,fun f hf=>by show (g f).bind (k f)=r;rw [hN f (by omega)];exact hM f (by omega)⟩
theorem Evt.congr {α:Type} {g h:Nat->PR α} {r:PR α} (hh:∀ f,g f=h f) (he:Evt h r):Evt g r:=by
 obtain ⟨N,hN⟩:=he
 exact ⟨N,fun f hf=>by rw [hh];exact hN f hf⟩
theorem hdT_cons (t:Tk) (r:Tks):hdT (t :: r)=t:=rfl
theorem isK_sg (s:Bs) (r:Tks) (t:Bs):isK (sg s :: r) t=(s==t):=by simp [isK,hdT]
theorem isK_tw (s:Bs) (r:Tks) (t:Bs):isK (tw s :: r) t=(s==t):=by simp [isK,hdT]
theorem must_sg (s:Bs) (r:Tks):mustY s (sg s :: r) = .ok () r:=by simp [mustY,isK_sg]
theorem must_tw (s:Bs) (r:Tks):mustY s (tw s :: r) = .ok () r:=by simp [mustY,isK_tw]
theorem name_tw {s:Bs} (h:s∈nameL) (r:Tks):nameY (tw s :: r) = .ok s r:=by
 have:∀ s∈nameL,s∉resL:=by decide
 unfold nameY
 rw [if_pos ⟨rfl,by simpa [hdT] using this s h⟩];rfl
structure Stop (R:Tks):Prop where
 lp:isK R sLp=false
 lb:isK R sLb=false
 dot:isK R sDot=false
 lv:∀ n,(if (hdT R).k=4 then lvY n (hdT R).t else none)=none
theorem stop_sg (s:Bs) (r:Tks) (h:s∈[sRp,sRb,sRc,sLc,sSemi,sComma,sColon,sEq]):Stop (sg s :: r):=by
 refine ⟨?_,?_,?_,fun n=>?_⟩
 ·rw [isK_sg];revert s;decide
 ·rw [isK_sg];revert s;decide
 ·rw [isK_sg];revert s;decide
 ·have key:∀ s∈[sRp,sRb,sRc,sLc,sSemi,sComma,sColon,sEq],lvY 0 s=none/\lvY 1 s=none/\lvY 2 s=none:=by decide
  obtain ⟨h0,h1,h2⟩:=key s h
  simp only [hdT_cons,if_true]
  match n with
  | 0=>exact h0
  | 1=>exact h1
  | 2=>exact h2
  | n+3=>rfl
theorem post_stop {R:Tks} (h:Stop R) (d:Nat) (e:Tx):Evt (fun f=>postY f d e R) (.ok e R) :=
 Evt.succ (b:=fun _=>.ok e R) (fun f=>by simp only [postY,h.lp,h.lb,h.dot,Bool.false_eq_true,if_false]) (Evt.con _)
theorem lvl_stop {R:Tks} {n:Nat} (h:(if (hdT R).k=4 then lvY n (hdT R).t else none)=none) (d:Nat) (e:Tx):Evt (fun f=>lvlY f n d e R) (.ok e R) :=
 Evt.succ (b:=fun _=>.ok e R) (fun f=>by simp only [lvlY,h]) (Evt.con _)
def firstW:Ts:=nameL++[wNil,wTrue,wFalse,wFn]
def First (L:Tks):Prop:=∃ t r,L=t :: r/\t.at_=0/\(t.k=2\/t.k=3\/t.k=1/\t.t∈firstW\/t.k=4/\(t.t=sLp\/t.t=sLc))
theorem First.app {L:Tks} (h:First L) (M:Tks):First (L++M):=by
 obtain ⟨t,r,rfl,h⟩:=h
 exact ⟨t,r++M,rfl,h⟩
theorem First.az {L:Tks} (h:First L) (R:Tks):(hdT (L++R)).at_=0:=by
 obtain ⟨t,r,rfl,h,_⟩:=h
 exact h
theorem First.not {L:Tks} (h:First L) {s:Bs} (h1:s∉firstW) (h2:s≠sLp) (h3:s≠sLc) (R:Tks):isK (L++R) s=false:=by
 obtain ⟨⟨k,x,n,a⟩,r,rfl,_,h⟩:=h
 dsimp only at h
 rcases h with rfl | rfl | ⟨rfl,h⟩ | ⟨rfl,rfl | rfl⟩
 ·simp [isK,hdT]
 ·simp [isK,hdT]
 ·have:(x==s)=false:=beq_false_of_ne fun e=>h1 (e ▸ h)
  simp [isK,hdT,this]
 ·have:(sLp==s)=false:=beq_false_of_ne fun e=>h2 e.symm
  simp [isK,hdT,this]
 ·have:(sLc==s)=false:=beq_false_of_ne fun e=>h3 e.symm
  simp [isK,hdT,this]
theorem First.nsg {L:Tks} (h:First L) {s:Bs} (hs:s∈[sMinus,sBang,sRp,sRb,sRc,sLb,sSemi,sEq,wReturn,wThrow,wLet,wIf,wWhile,wTry,wElse]) (R:Tks):isK (L++R) s=false:=by
 have key:∀ s∈[sMinus,sBang,sRp,sRb,sRc,sLb,sSemi,sEq,wReturn,wThrow,wLet,wIf,wWhile,wTry,wElse],s∉firstW/\s≠sLp/\s≠sLc:=by decide
 obtain ⟨h1,h2,h3⟩:=key s hs
 exact h.not h1 h2 h3 R
def OneOk (e:Tx):Prop:=∀ (d:Nat) (R:Tks) (r:PR Tx),d+dE e<=20->Evt (fun f=>postY f d e R) r->Evt (fun f=>(oneY f d (tkE e++R)).bind fun x l=>postY f d x l) r
theorem unary_go {e:Tx} (h:OneOk e) (hf:First (tkE e)) {d:Nat} {R:Tks} (hR:Evt (fun f=>postY f d e R) (.ok e R)) (hd:d+dE e<=20):Evt (fun f=>unaryY f d (tkE e++R)) (.ok e R) :=
 Evt.succ (fun f=>by rw [unaryY,hf.nsg (by decide),hf.nsg (by decide)];rfl) (h d R _ hd hR)
theorem expr3 {e:Tx} (h:OneOk e) (hf:First (tkE e)) {d:Nat} {R:Tks} (hR:Evt (fun f=>postY f d e R) (.ok e R)) (hd:d+dE e<=20):Evt (fun f=>exprY f 3 d (tkE e++R)) (.ok e R) :=
 Evt.succ (fun f=>by rw [exprY,if_pos rfl]) (unary_go h hf hR hd)
theorem expr_up {e:Tx} {n d:Nat} {L R:Tks} (hn:n≠3) (h:Evt (fun f=>exprY f (n+1) d L) (.ok e R)) (hl:(if (hdT R).k=4 then lvY n (hdT R).t else none)=none):Evt (fun f=>exprY f n d L) (.ok e R) :=
 Evt.succ (fun f=>by rw [exprY,if_neg hn]) (Evt.bind h (lvl_stop hl d e))
theorem expr_ups {e:Tx} {d:Nat} {L R:Tks}:∀ (k n:Nat),n+k<=3->Evt (fun f=>exprY f (n+k) d L) (.ok e R)->(∀ m,n<=m->m < n+k->(if (hdT R).k=4 then lvY m (hdT R).t else none)=none)->Evt (fun f=>exprY f n d L) (.ok e R)
 | 0,n,_,h,_=>h
 | k+1,n,hk,h,hl=>expr_up (by omega) (expr_ups k (n+1) (by omega) (by rw [show n+1+k=n+(k+1) by omega];exact h) fun m h1 h2=>hl m (by omega) (by omega)) (hl n (by omega) (by omega))
theorem expr_go {e:Tx} (h:OneOk e) (hf:First (tkE e)) {d:Nat} {R:Tks} (hR:Stop R) (hd:d+dE e<=20):Evt (fun f=>exprY f 0 d (tkE e++R)) (.ok e R) :=
 expr_ups 3 0 (by omega) (expr3 h hf (post_stop hR d e) hd) fun m _ _=>hR.lv m
theorem whole_go {e:Tx} (h:OneOk e) (hf:First (tkE e)) {d:Nat} {R:Tks} (hR:Stop R) (hd:d+1+dE e<=20):Evt (fun f=>wholeY f d (tkE e++R)) (.ok e R) :=
 Evt.succ (fun f=>by rw [wholeY,if_neg (by omega)]) (expr_go h hf hR (by omega))
theorem bin_go {x y:Tx} {op n0 d:Nat} {s:Bs} (hx:OneOk x) (fx:First (tkE x)) (hy:OneOk y) (fy:First (tkE y)) (hn:n0 < 3) (hs:lvY n0 s=some op) (hs' : ∀ m,n0 < m->lvY m s=none) (hp:s≠sLp/\s≠sLb/\s≠sDot) {R:Tks} (hR:Stop R) (dx:d+dE x<=20) (dy:d+dE y<=20) :
  Evt (fun f=>exprY f 0 d (tkE x++sg s :: (tkE y++R))) (.ok (.ex op 0 [] [x,y] [] []) R):=by
 have px:Evt (fun f=>postY f d x (sg s :: (tkE y++R))) (.ok x (sg s :: (tkE y++R))):=by
  obtain ⟨h1,h2,h3⟩:=hp
  refine Evt.succ (b:=fun _=>.ok x (sg s :: (tkE y++R))) (fun f=>?_) (Evt.con _)
  simp only [postY,isK_sg,beq_false_of_ne h1,beq_false_of_ne h2,beq_false_of_ne h3,Bool.false_eq_true,if_false]
 have ex:Evt (fun f=>exprY f (n0+1) d (tkE x++sg s :: (tkE y++R))) (.ok x (sg s :: (tkE y++R))):=by
  refine expr_ups (3-(n0+1)) (n0+1) (by omega) ?_ fun m h1 h2=>by simp only [hdT_cons,if_true];exact hs' m (by omega)
  rw [show n0+1+(3-(n0+1))=3 by omega]
  exact expr3 hx fx px dx
 have ey:Evt (fun f=>exprY f (n0+1) d (tkE y++R)) (.ok y R):=by
  refine expr_ups (3-(n0+1)) (n0+1) (by omega) ?_ fun m h1 h2=>hR.lv m
  rw [show n0+1+(3-(n0+1))=3 by omega]
  exact expr3 hy fy (post_stop hR d y) dy
 have el:Evt (fun f=>lvlY f n0 d x (sg s :: (tkE y++R))) (.ok (.ex op 0 [] [x,y] [] []) R):=by
  by_cases h0:n0=0
  ·subst h0
   refine Evt.succ (fun f=>?_) (Evt.bind (k:=fun f y l=>.ok (.ex op 0 [] [x,y] [] []) l) ey (Evt.con _))
   simp only [lvlY,hdT_cons,if_true,hs,List.tail_cons]
  ·refine Evt.succ (fun f=>?_) (Evt.bind (k:=fun f y l=>lvlY f n0 d (.ex op 0 [] [x,y] [] []) l) ey (lvl_stop (hR.lv n0) d _))
   simp only [lvlY,hdT_cons,if_true,hs,List.tail_cons,if_neg h0]
 refine expr_ups n0 0 (by omega) ?_ fun m _ _=>hR.lv m
 rw [Nat.zero_add]
 exact Evt.succ (fun f=>by rw [exprY,if_neg (by omega)]) (Evt.bind ex el)
end Go.AM
namespace Go.AM
open Go
mutual
def Tx.z:Tx->Prop
 | .ex _ _ _ ps _ b=>zs ps/\zs b
 | .st _ _ es b e a=>a=0/\zs es/\zs b/\zs e
def zs:List Tx->Prop
 | []=>True
 | x :: r=>x.z/\zs r
end
theorem one_leaf {e:Tx} (h:∀ f d R,oneY (f+1) d (tkE e++R) = .ok e R):OneOk e:=fun d R r hd hp =>
 Evt.bind (Evt.succ (b:=fun _=>.ok e R) (fun f=>h f d R) (Evt.con _)) hp
theorem one_paren {e:Tx} {M:Tks} (hM:tkE e=sg sLp :: (M++[sg sRp])) (h:∀ d R,d+dE e<=20->Evt (fun f=>wholeY f d (M++sg sRp :: R)) (.ok e (sg sRp :: R))):OneOk e:=fun d R r hd hp=>by
 refine Evt.bind (Evt.succ (b:=fun f=>(wholeY f d (M++sg sRp :: R)).bind fun x l=>(mustY sRp l).bind fun _ l=>.ok x l) (fun f=>?_) (Evt.bind (h d R hd) ?_)) hp
 ·rw [hM]
  simp [oneY,isK_sg,hdT_cons]
 ·refine Evt.congr (h:=fun _=>.ok e R) (fun f=>?_) (Evt.con _)
  rw [must_sg];rfl
theorem un_go {x:Tx} {op d:Nat} {s:Bs} (h:s=sMinus/\op=6\/s=sBang/\op=7) (hx:OneOk x) (fx:First (tkE x)) {R:Tks} (hR:Stop R) (dx:d+2+dE x<=20) :
  Evt (fun f=>wholeY f d (sg s :: (tkE x++R))) (.ok (.ex op 0 [] [x] [] []) R):=by
 refine Evt.succ (fun f=>by rw [wholeY,if_neg (by omega)]) ?_
 refine expr_ups 3 0 (by omega) ?_ fun m _ _=>hR.lv m
 refine Evt.succ (fun f=>by rw [exprY,if_pos rfl]) ?_
 have hu:=unary_go hx fx (d:=d+2) (R:=R) (post_stop hR _ _) (by omega)
 rcases h with ⟨rfl,rfl⟩ | ⟨rfl,rfl⟩
 ·refine Evt.succ (fun f=>?_) (Evt.bind (k:=fun f e l=>.ok (.ex 6 0 [] [e] [] []) l) hu (Evt.con _))
  rw [unaryY,isK_sg,if_pos (show (sMinus==sMinus)=true from rfl),if_neg (by omega)];rfl
 ·refine Evt.succ (fun f=>?_) (Evt.bind (k:=fun f e l=>.ok (.ex 7 0 [] [e] [] []) l) hu (Evt.con _))
  rw [unaryY,isK_sg,if_neg (by decide),isK_sg,if_pos (show (sBang==sBang)=true from rfl),if_neg (by omega)];rfl
theorem one_field {x y:Tx} (hx:OneOk x) (hy:OneOk y) (fy:First (tkE y)):OneOk (.ex 14 0 [] [x,y] [] []):=fun d R r hd hp=>by
 have e1:tkE (.ex 14 0 [] [x,y] [] [])++R=tkE x++(sg sLb :: (tkE y++sg sRb :: R)):=by simp [tkE,tkX,tkEs,nthT]
 simp only [dE,dEs,dSs] at hd
 rw [e1]
 refine hx d _ r (by omega) (Evt.succ (fun f=>?_) (Evt.bind (k:=fun f k l=>(mustY sRb l).bind fun _ l=>postY f d (.ex 14 0 [] [x,k] [] []) l) (whole_go hy fy (stop_sg sRb R (by decide)) (show d+1+dE y<=20 by omega)) ?_))
 ·rw [postY,isK_sg,if_neg (by decide),isK_sg,if_pos (show (sLb==sLb)=true from rfl)];rfl
 ·refine Evt.congr (fun f=>?_) hp
  rw [must_sg];rfl
def moreT:List Tks->Tks
 | []=>[]
 | x :: r=>sg sComma :: x++moreT r
theorem joinT_cons:∀ (x:Tks) (r:List Tks),joinT (x :: r)=x++moreT r
 | x,[]=>by simp [joinT,moreT]
 | x,y :: r=>by
  simp only [joinT,moreT,joinT_cons y r]
  simp
theorem comma_no (l:Tks):commaY false (sg sComma :: l) = .ok () l:=by simp [commaY,must_sg]
theorem stop_more (l:List Tks) (s:Bs) (hs:s∈[sRp,sRb,sRc,sLc,sSemi,sComma,sColon,sEq]) (R:Tks):Stop (moreT l++sg s :: R):=by
 cases l with
 | nil=>exact stop_sg s R hs
 | cons x r=>exact stop_sg sComma _ (by decide)
theorem list_more {d:Nat} {R:Tks}:∀ (ps acc:List Tx),acc≠[]->(∀ p∈ps,OneOk p/\First (tkE p)/\d+1+dE p<=20)->Evt (fun f=>listY f d acc (moreT (tkEs ps)++sg sRp :: R)) (.ok (acc++ps) R)
 | [],acc,_,_=>Evt.succ (b:=fun _=>.ok (acc++[]) R) (fun f=>by rw [listY];simp [tkEs,moreT,isK_sg]) (Evt.con _)
 | p :: ps,acc,hacc,hp=>by
  obtain ⟨h1,h2,h3⟩:=hp p (by simp)
  have ih:=list_more (R:=R) ps (acc++[p]) (by simp) fun q hq=>hp q (by simp [hq])
  have hw:=whole_go h1 h2 (stop_more (tkEs ps) sRp (by decide) R) h3
  refine Evt.succ (fun f=>?_) (Evt.bind (k:=fun f e l=>listY f d (acc++[e]) l) hw (by simpa using ih))
  have he:acc.isEmpty=false:=by cases acc with | nil=>exact absurd rfl hacc | cons=>rfl
  rw [listY]
  simp only [tkEs,moreT,List.cons_append,List.append_assoc,isK_sg,show (sComma==sRp)=false from rfl,Bool.false_eq_true,if_false,he,comma_no,bind_ok]
theorem list_go {d:Nat} {R:Tks} (ps:List Tx) (hp:∀ p∈ps,OneOk p/\First (tkE p)/\d+1+dE p<=20):Evt (fun f=>listY f d [] (joinT (tkEs ps)++sg sRp :: R)) (.ok ps R):=by
 cases ps with
 | nil=>exact Evt.succ (b:=fun _=>.ok [] R) (fun f=>by rw [listY];simp [tkEs,joinT,isK_sg]) (Evt.con _)
 | cons p ps =>
  obtain ⟨h1,h2,h3⟩:=hp p (by simp)
  have ih:=list_more (R:=R) ps [p] (by simp) fun q hq=>hp q (by simp [hq])
  have hw:=whole_go h1 h2 (stop_more (tkEs ps) sRp (by decide) R) h3
  refine Evt.succ (fun f=>?_) (Evt.bind (k:=fun f e l=>listY f d ([]++[e]) l) hw (by simpa using ih))
  rw [listY,tkEs,joinT_cons,List.append_assoc,h2.nsg (by decide)]
  simp [commaY,bind_ok]
theorem one_call {x:Tx} {ps:List Tx} (hx:OneOk x) (hp:∀ p∈ps,OneOk p/\First (tkE p)):OneOk (.ex 15 0 [] (x :: ps) [] []):=fun d R r hd hr=>by
 have e1:tkE (.ex 15 0 [] (x :: ps) [] [])++R=tkE x++(sg sLp :: (joinT (tkEs ps)++sg sRp :: R)):=by simp [tkE,tkX,tkEs,nthT]
 simp only [dE,dEs,dSs] at hd
 rw [e1]
 refine hx d _ r (by omega) (Evt.succ (fun f=>?_) (Evt.bind (k:=fun f a l=>postY f d (.ex 15 0 [] (x :: a) [] []) l) (list_go (d:=d) (R:=R) ps fun p h=>⟨(hp p h).1,(hp p h).2,by have:=dEs_mem (l:=ps) h;omega⟩) hr))
 rw [postY,isK_sg,if_pos (show (sLp==sLp)=true from rfl)];rfl
theorem rec_more {d:Nat} {R:Tks}:∀ (n:Nat) (ps acc:List Tx),ps.length=2*n->acc≠[]->(∀ p∈ps,OneOk p/\First (tkE p)/\d+1+dE p<=20)->Evt (fun f=>recY f d acc (moreT (fieldsT (tkEs ps))++sg sRc :: R)) (.ok (.ex 16 0 [] (acc++ps) [] []) R)
 | 0,ps,acc,hl,hacc,_=>by
  have:ps=[]:=List.eq_nil_of_length_eq_zero (by omega)
  subst this
  exact Evt.succ (b:=fun _=>.ok (.ex 16 0 [] (acc++[]) [] []) R) (fun f=>by rw [recY];simp [tkEs,fieldsT,moreT,isK_sg]) (Evt.con _)
 | n+1,ps,acc,hl,hacc,hp=>by
  match ps,hl with
  | k :: v :: ps,hl =>
  obtain ⟨a1,a2,a3⟩:=hp k (by simp)
  obtain ⟨b1,b2,b3⟩:=hp v (by simp)
  have ih:=rec_more (R:=R) n ps (acc++[k,v]) (by simp at hl;omega) (by simp) fun q hq=>hp q (by simp [hq])
  have hk:=whole_go a1 a2 (stop_sg sRb (sg sColon :: (tkE v++(moreT (fieldsT (tkEs ps))++sg sRc :: R))) (by decide)) a3
  have hv:=whole_go b1 b2 (stop_more (fieldsT (tkEs ps)) sRc (by decide) R) b3
  have he:acc.isEmpty=false:=by cases acc with | nil=>exact absurd rfl hacc | cons=>rfl
  refine Evt.succ (fun f=>?_) (Evt.bind (k:=fun f k l=>(mustY sColon l).bind fun _ l=>(wholeY f d l).bind fun v l=>recY f d (acc++[k,v]) l) (Evt.bind (k:=fun f k l=>(mustY sRb l).bind fun _ l=>.ok k l) hk (a:=k) (r:=.ok k (sg sColon :: (tkE v++(moreT (fieldsT (tkEs ps))++sg sRc :: R)))) (Evt.congr (fun f=>by rw [must_sg];rfl) (Evt.con _))) (Evt.congr (h:=fun f=>(wholeY f d (tkE v++(moreT (fieldsT (tkEs ps))++sg sRc :: R))).bind fun v l=>recY f d (acc++[k,v]) l) (fun f=>by rw [must_sg];rfl) (Evt.bind hv (by simpa using ih))))
  rw [recY]
  simp only [tkEs,fieldsT,moreT,List.cons_append,List.append_assoc,isK_sg,show (sComma==sRc)=false from rfl,Bool.false_eq_true,if_false,he,comma_no,bind_ok,show (sLb==sLb)=true from rfl,if_true,List.tail_cons]
theorem one_rec {ps:List Tx} (hl:ps.length % 2=0) (hp:∀ p∈ps,OneOk p/\First (tkE p)):OneOk (.ex 16 0 [] ps [] []):=fun d R r hd hr=>by
 have e1:tkE (.ex 16 0 [] ps [] [])++R=sg sLc :: (joinT (fieldsT (tkEs ps))++sg sRc :: R):=by simp [tkE,tkX]
 simp only [dE,dSs] at hd
 rw [e1]
 have hp' : ∀ p∈ps,OneOk p/\First (tkE p)/\d+1+dE p<=20:=fun p h=>⟨(hp p h).1,(hp p h).2,by have:=dEs_mem (l:=ps) h;omega⟩
 have hr' : Evt (fun f=>recY f d [] (joinT (fieldsT (tkEs ps))++sg sRc :: R)) (.ok (.ex 16 0 [] ps [] []) R):=by
  match ps,hl with
  | [],_=>exact Evt.succ (b:=fun _=>.ok (.ex 16 0 [] [] [] []) R) (fun f=>by rw [recY];simp [tkEs,fieldsT,joinT,isK_sg]) (Evt.con _)
  | [k],hl=>simp at hl
  | k :: v :: ps,hl =>
   obtain ⟨a1,a2,a3⟩:=hp' k (by simp)
   obtain ⟨b1,b2,b3⟩:=hp' v (by simp)
   have ih:=rec_more (R:=R) (ps.length / 2) ps [k,v] (by simp at hl;omega) (by simp) fun q hq=>hp' q (by simp [hq])
   have hk:=whole_go a1 a2 (stop_sg sRb (sg sColon :: (tkE v++(moreT (fieldsT (tkEs ps))++sg sRc :: R))) (by decide)) a3
   have hv:=whole_go b1 b2 (stop_more (fieldsT (tkEs ps)) sRc (by decide) R) b3
   refine Evt.succ (fun f=>?_) (Evt.bind (k:=fun f k l=>(mustY sColon l).bind fun _ l=>(wholeY f d l).bind fun v l=>recY f d ([]++[k,v]) l) (Evt.bind (k:=fun f k l=>(mustY sRb l).bind fun _ l=>.ok k l) hk (a:=k) (r:=.ok k (sg sColon :: (tkE v++(moreT (fieldsT (tkEs ps))++sg sRc :: R)))) (Evt.congr (fun f=>by rw [must_sg];rfl) (Evt.con _))) (Evt.congr (h:=fun f=>(wholeY f d (tkE v++(moreT (fieldsT (tkEs ps))++sg sRc :: R))).bind fun v l=>recY f d ([]++[k,v]) l) (fun f=>by rw [must_sg];rfl) (Evt.bind hv (by simpa using ih))))
   rw [recY]
   simp only [tkEs,fieldsT,joinT_cons,List.cons_append,List.append_assoc,isK_sg,show (sLb==sRc)=false from rfl,Bool.false_eq_true,if_false,List.isEmpty_nil,commaY,if_true,bind_ok,show (sLb==sLb)=true from rfl,List.tail_cons]
 refine Evt.bind (Evt.succ (fun f=>?_) hr') hr
 rw [oneY]
 simp [isK_sg,hdT_cons]
end Go.AM
namespace Go.AM
open Go
theorem params_more {R:Tks}:∀ (qs acc:Ts),acc≠[]->(∀ q∈qs,q∈nameL)->Evt (fun f=>paramsY f acc (moreT (qs.map fun q=>[tw q])++sg sRp :: R)) (.ok (acc++qs) R)
 | [],acc,_,_=>Evt.succ (b:=fun _=>.ok (acc++[]) R) (fun f=>by rw [paramsY];simp [moreT,isK_sg]) (Evt.con _)
 | q :: qs,acc,hacc,hq=>by
  have ih:=params_more (R:=R) qs (acc++[q]) (by simp) fun p hp=>hq p (by simp [hp])
  have he:acc.isEmpty=false:=by cases acc with | nil=>exact absurd rfl hacc | cons=>rfl
  refine Evt.succ (fun f=>?_) (by simpa using ih)
  rw [paramsY]
  simp only [List.map_cons,moreT,List.cons_append,List.nil_append,isK_sg,show (sComma==sRp)=false from rfl,Bool.false_eq_true,if_false,he,comma_no,bind_ok,name_tw (hq q (by simp))]
theorem params_go {R:Tks} (qs:Ts) (hq:∀ q∈qs,q∈nameL):Evt (fun f=>paramsY f [] (joinT (qs.map fun q=>[tw q])++sg sRp :: R)) (.ok qs R):=by
 cases qs with
 | nil=>exact Evt.succ (b:=fun _=>.ok [] R) (fun f=>by rw [paramsY];simp [joinT,isK_sg]) (Evt.con _)
 | cons q qs =>
  have ih:=params_more (R:=R) qs [q] (by simp) fun p hp=>hq p (by simp [hp])
  have hn:∀ s∈nameL,(s==sRp)=false:=by decide
  refine Evt.succ (fun f=>?_) (by simpa using ih)
  rw [paramsY,List.map_cons,joinT_cons]
  simp only [List.cons_append,List.nil_append,isK_tw,hn q (hq q (by simp)),Bool.false_eq_true,if_false,List.isEmpty_nil,commaY,if_true,bind_ok,name_tw (hq q (by simp))]
structure SFirst (L:Tks):Prop where
 rc:∀ R,isK (L++R) sRc=false
 els:∀ R,isK (L++R) wElse=false
 nz:∀ R,(hdT (L++R)).k≠0
 az:∀ R,(hdT (L++R)).at_=0
theorem First.sf {L:Tks} (h:First L):SFirst L:=by
 refine ⟨h.nsg (by decide),h.nsg (by decide),fun R=>?_,h.az⟩
 obtain ⟨⟨k,x,n,a⟩,r,rfl,_,h⟩:=h
 dsimp only [List.cons_append,hdT_cons] at h ⊢
 rcases h with rfl | rfl | ⟨rfl,_⟩ | ⟨rfl,_⟩<;>decide
theorem SFirst.app {L:Tks} (h:SFirst L) (M:Tks):SFirst (L++M) :=
 ⟨fun R=>by rw [List.append_assoc];exact h.rc _,fun R=>by rw [List.append_assoc];exact h.els _,fun R=>by rw [List.append_assoc];exact h.nz _,fun R=>by rw [List.append_assoc];exact h.az _⟩
theorem sf_tw (w:Bs) (h:w≠sRc/\w≠wElse) (r:Tks):SFirst (tw w :: r) :=
 ⟨fun R=>by rw [List.cons_append,isK_tw];exact beq_false_of_ne h.1,fun R=>by rw [List.cons_append,isK_tw];exact beq_false_of_ne h.2,fun R=>by rw [List.cons_append,hdT_cons];exact (by decide:(1:Int)≠0),fun R=>rfl⟩
def StOk (s:Tx):Prop:=∀ (d:Nat) (R:Tks),d+dS s<=20->isK R wElse=false->Evt (fun f=>stmtY f d (tkS s++R)) (.ok s R)
theorem stmts_go {d:Nat} {R:Tks}:∀ (l acc:List Tx),(∀ s∈l,StOk s/\SFirst (tkS s)/\d+dS s<=20)->Evt (fun f=>stmtsY f d acc (tkB l++sg sRc :: R)) (.ok (acc++l) R)
 | [],acc,_=>Evt.succ (b:=fun _=>.ok (acc++[]) R) (fun f=>by rw [stmtsY];simp [tkB,isK_sg]) (Evt.con _)
 | s :: l,acc,h=>by
  obtain ⟨h1,h2,h3⟩:=h s (by simp)
  have ih:=stmts_go (R:=R) l (acc++[s]) fun q hq=>h q (by simp [hq])
  have hel:isK (tkB l++sg sRc :: R) wElse=false:=by
   cases l with
   | nil=>simp [tkB,isK_sg]
   | cons s' l'=>rw [tkB,List.append_assoc];exact (h s' (by simp)).2.1.els _
  refine Evt.succ (fun f=>?_) (Evt.bind (k:=fun f s l=>stmtsY f d (acc++[s]) l) (h1 d _ h3 hel) (by simpa using ih))
  rw [stmtsY,tkB,List.append_assoc,h2.rc]
  simp
theorem dSs_mem:∀ {l:List Tx} {x:Tx},x∈l->dS x<=dSs l
 | y :: r,x,hx=>by
  simp only [dSs]
  rcases List.mem_cons.1 hx with rfl | hx
  ·omega
  ·have:=dSs_mem hx;omega
theorem block_go {d:Nat} {R:Tks} (l:List Tx) (h:∀ s∈l,StOk s/\SFirst (tkS s)) (hd:d+1+dSs l<=20):Evt (fun f=>blockY f d (sg sLc :: (tkB l++sg sRc :: R))) (.ok l R):=by
 have:=stmts_go (d:=d+1) (R:=R) l [] fun s hs=>⟨(h s hs).1,(h s hs).2,by have:=dSs_mem (l:=l) hs;omega⟩
 refine Evt.succ (fun f=>?_) this
 rw [blockY,must_sg,bind_ok,if_neg (by omega)]
theorem one_func {qs:Ts} {b:List Tx} (hq:∀ q∈qs,q∈nameL) (hb:∀ s∈b,StOk s/\SFirst (tkS s)):OneOk (.ex 17 0 [] [] qs b):=fun d R r hd hr=>by
 have e1:tkE (.ex 17 0 [] [] qs b)++R=tw wFn :: sg sLp :: (joinT (qs.map fun q=>[tw q])++sg sRp :: (sg sLc :: (tkB b++sg sRc :: R))):=by simp [tkE,tkX,tkEs]
 simp only [dE,dEs] at hd
 rw [e1]
 refine Evt.bind (Evt.succ (fun f=>?_) (Evt.bind (k:=fun f ps l=>(blockY f d l).bind fun b l=>PR.ok (Tx.ex 17 0 [] [] ps b) l) (params_go (R:=sg sLc :: (tkB b++sg sRc :: R)) qs hq) (Evt.bind (k:=fun f b l=>PR.ok (Tx.ex 17 0 [] [] qs b) l) (block_go (d:=d) (R:=R) b hb (by omega)) (Evt.con _)))) hr
 rw [oneY]
 simp [isK_tw,hdT_cons,must_sg,bind_ok]
theorem stY_plain {x:Tx} (hx:OneOk x) (fx:First (tkE x)) {d:Nat} {R:Tks} (hR:Stop R) {r:PR Tx} (dx:d+1+dE x<=20) (h:Evt (fun f=>plainK (wholeY f d) 0 x R) r):Evt (fun f=>stmtY f d (tkE x++R)) r:=by
 refine Evt.succ (fun f=>?_) (Evt.bind (k:=fun f e l=>plainK (wholeY f d) 0 e l) (whole_go hx fx hR dx) h)
 rw [stmtY,fx.nsg (by decide),fx.nsg (by decide),fx.nsg (by decide),fx.nsg (by decide),fx.nsg (by decide),fx.nsg (by decide),fx.az]
 simp only [Bool.false_eq_true,if_false]
theorem stY_do {x:Tx} (hx:OneOk x) (fx:First (tkE x)):StOk (.st 8 [] [x] [] [] 0):=fun d R hd hel=>by
 have e1:tkS (.st 8 [] [x] [] [] 0)++R=tkE x++sg sSemi :: R:=by simp [tkS,tkY,tkEs,nthT]
 simp only [dS,dEs,dSs] at hd
 rw [e1]
 refine stY_plain hx fx (stop_sg sSemi R (by decide)) (by omega) (Evt.congr (h:=fun _=>PR.ok (Tx.st 8 [] [x] [] [] 0) R) (fun f=>?_) (Evt.con _))
 simp [plainK,hdT_cons,must_sg,bind_ok]
theorem stY_set {n:Bs} {x:Tx} (hn:OneOk (.ex 5 0 n [] [] [])) (fn:First (tkE (.ex 5 0 n [] [] []))) (hx:OneOk x) (fx:First (tkE x)):StOk (.st 1 n [x] [] [] 0):=fun d R hd hel=>by
 have e1:tkS (.st 1 n [x] [] [] 0)++R=tkE (.ex 5 0 n [] [] [])++sg sEq :: (tkE x++sg sSemi :: R):=by simp [tkS,tkE,tkX,tkY,tkEs,nthT]
 simp only [dS,dEs,dSs] at hd
 rw [e1]
 refine stY_plain hn fn (stop_sg sEq _ (by decide)) (by simp only [dE,dEs,dSs];omega) (Evt.congr (fun f=>?_) (Evt.bind (k:=fun f x l=>(mustY sSemi l).bind fun _ l=>PR.ok (Tx.st 1 n [x] [] [] 0) l) (whole_go (d:=d) hx fx (stop_sg sSemi R (by decide)) (by omega)) (Evt.congr (h:=fun _=>PR.ok (Tx.st 1 n [x] [] [] 0) R) (fun f=>by rw [must_sg];rfl) (Evt.con _))))
 simp [plainK,hdT_cons]
theorem stY_put {x y z:Tx} (hx:OneOk x) (fx:First (tkE x)) (hy:OneOk y) (fy:First (tkE y)) (hz:OneOk z) (fz:First (tkE z)):StOk (.st 2 [] [x,y,z] [] [] 0):=fun d R hd hel=>by
 have e1:tkS (.st 2 [] [x,y,z] [] [] 0)++R=tkE (.ex 14 0 [] [x,y] [] [])++sg sEq :: (tkE z++sg sSemi :: R):=by simp [tkS,tkE,tkX,tkY,tkEs,nthT]
 have ff:First (tkE (.ex 14 0 [] [x,y] [] [])):=by
  have:tkE (.ex 14 0 [] [x,y] [] [])=tkE x++(sg sLb :: tkE y++[sg sRb]):=by simp [tkE,tkX,tkEs,nthT]
  rw [this];exact fx.app _
 simp only [dS,dEs,dSs] at hd
 rw [e1]
 refine stY_plain (one_field hx hy fy) ff (stop_sg sEq _ (by decide)) (by simp only [dE,dEs,dSs];omega) (Evt.congr (fun f=>?_) (Evt.bind (k:=fun f z l=>(mustY sSemi l).bind fun _ l=>PR.ok (Tx.st 2 [] ([x,y]++[z]) [] [] 0) l) (whole_go (d:=d) hz fz (stop_sg sSemi R (by decide)) (by omega)) (Evt.congr (h:=fun _=>PR.ok (Tx.st 2 [] [x,y,z] [] [] 0) R) (fun f=>by rw [must_sg];rfl) (Evt.con _))))
 simp [plainK,hdT_cons]
theorem stY_let {n:Bs} {x:Tx} (hn:n∈nameL) (hx:OneOk x) (fx:First (tkE x)):StOk (.st 0 n [x] [] [] 0):=fun d R hd hel=>by
 have e1:tkS (.st 0 n [x] [] [] 0)++R=tw wLet :: tw n :: sg sEq :: (tkE x++sg sSemi :: R):=by simp [tkS,tkY,tkEs,nthT]
 simp only [dS,dEs,dSs] at hd
 rw [e1]
 refine Evt.succ (fun f=>?_) (Evt.bind (k:=fun f e l=>(mustY sSemi l).bind fun _ l=>PR.ok (Tx.st 0 n [e] [] [] 0) l) (whole_go (d:=d) hx fx (stop_sg sSemi R (by decide)) (by omega)) (Evt.congr (h:=fun _=>PR.ok (Tx.st 0 n [x] [] [] 0) R) (fun f=>by rw [must_sg];rfl) (Evt.con _)))
 rw [stmtY]
 simp [isK_tw,hdT_cons,name_tw hn,bind_ok,must_sg]
theorem stY_ret {x:Tx} {k:Nat} (hk:k=5\/k=6) (hx:OneOk x) (fx:First (tkE x)):StOk (.st k [] [x] [] [] 0):=fun d R hd hel=>by
 simp only [dS,dEs,dSs] at hd
 rcases hk with rfl | rfl
 ·have e1:tkS (.st 5 [] [x] [] [] 0)++R=tw wReturn :: (tkE x++sg sSemi :: R):=by simp [tkS,tkY,tkEs,nthT]
  rw [e1]
  refine Evt.succ (fun f=>?_) (Evt.bind (k:=fun f e l=>(mustY sSemi l).bind fun _ l=>PR.ok (Tx.st 5 [] [e] [] [] 0) l) (whole_go (d:=d) hx fx (stop_sg sSemi R (by decide)) (by omega)) (Evt.congr (h:=fun _=>PR.ok (Tx.st 5 [] [x] [] [] 0) R) (fun f=>by rw [must_sg];rfl) (Evt.con _)))
  rw [stmtY]
  simp [isK_tw,hdT_cons]
 ·have e1:tkS (.st 6 [] [x] [] [] 0)++R=tw wThrow :: (tkE x++sg sSemi :: R):=by simp [tkS,tkY,tkEs,nthT]
  rw [e1]
  refine Evt.succ (fun f=>?_) (Evt.bind (k:=fun f e l=>(mustY sSemi l).bind fun _ l=>PR.ok (Tx.st 6 [] [e] [] [] 0) l) (whole_go (d:=d) hx fx (stop_sg sSemi R (by decide)) (by omega)) (Evt.congr (h:=fun _=>PR.ok (Tx.st 6 [] [x] [] [] 0) R) (fun f=>by rw [must_sg];rfl) (Evt.con _)))
  rw [stmtY]
  simp [isK_tw,hdT_cons]
abbrev Sts (l:List Tx):Prop:=∀ s∈l,StOk s/\SFirst (tkS s)
theorem stY_while {x:Tx} {b:List Tx} (hx:OneOk x) (fx:First (tkE x)) (hb:Sts b):StOk (.st 4 [] [x] b [] 0):=fun d R hd hel=>by
 have e1:tkS (.st 4 [] [x] b [] 0)++R=tw wWhile :: (tkE x++(sg sLc :: (tkB b++sg sRc :: R))):=by simp [tkS,tkY,tkEs,nthT]
 simp only [dS,dEs,dSs] at hd
 rw [e1]
 refine Evt.succ (fun f=>?_) (Evt.bind (k:=fun f e l=>(blockY f d l).bind fun b l=>PR.ok (Tx.st 4 [] [e] b [] 0) l) (whole_go (d:=d) hx fx (stop_sg sLc _ (by decide)) (by omega)) (Evt.bind (k:=fun f b l=>PR.ok (Tx.st 4 [] [x] b [] 0) l) (block_go (d:=d) (R:=R) b hb (by omega)) (Evt.con _)))
 rw [stmtY]
 simp [isK_tw,hdT_cons]
theorem stY_try {n:Bs} {b c:List Tx} (hn:n∈nameL) (hb:Sts b) (hc:Sts c):StOk (.st 7 n [] b c 0):=fun d R hd hel=>by
 have e1:tkS (.st 7 n [] b c 0)++R=tw wTry :: sg sLc :: (tkB b++sg sRc :: (tw wCatch :: tw n :: sg sLc :: (tkB c++sg sRc :: R))):=by simp [tkS,tkY,tkEs]
 simp only [dS,dEs,dSs] at hd
 rw [e1]
 refine Evt.succ (fun f=>?_) (Evt.bind (k:=fun f b l=>(mustY wCatch l).bind fun _ l=>(nameY l).bind fun s l=>(blockY f d l).bind fun c l=>PR.ok (Tx.st 7 s [] b c 0) l) (block_go (d:=d) (R:=tw wCatch :: tw n :: sg sLc :: (tkB c++sg sRc :: R)) b hb (by omega)) (Evt.congr (fun f=>?_) (Evt.bind (k:=fun f c l=>PR.ok (Tx.st 7 n [] b c 0) l) (block_go (d:=d) (R:=R) c hc (by omega)) (Evt.con _))))
 ·rw [stmtY]
  simp [isK_tw,hdT_cons]
 ·rw [must_tw,bind_ok,name_tw hn,bind_ok]
theorem stY_if {x:Tx} {b c:List Tx} (hx:OneOk x) (fx:First (tkE x)) (hb:Sts b) (hc:Sts c):StOk (.st 3 [] [x] b c 0):=fun d R hd hel=>by
 simp only [dS,dEs] at hd
 cases c with
 | nil =>
  have e1:tkS (.st 3 [] [x] b [] 0)++R=tw wIf :: (tkE x++(sg sLc :: (tkB b++sg sRc :: R))):=by simp [tkS,tkY,tkEs,nthT]
  rw [e1]
  refine Evt.succ (fun f=>?_) (Evt.bind (k:=fun f e l=>(blockY f d l).bind fun b l=>if isK l wElse then (blockY f d l.tail).bind fun c l=>PR.ok (Tx.st 3 [] [e] b c 0) l else PR.ok (Tx.st 3 [] [e] b [] 0) l) (whole_go (d:=d) hx fx (stop_sg sLc _ (by decide)) (by omega)) (Evt.bind (k:=fun f b l=>if isK l wElse then (blockY f d l.tail).bind fun c l=>PR.ok (Tx.st 3 [] [x] b c 0) l else PR.ok (Tx.st 3 [] [x] b [] 0) l) (block_go (d:=d) (R:=R) b hb (by omega)) (Evt.congr (h:=fun _=>PR.ok (Tx.st 3 [] [x] b [] 0) R) (fun f=>by simp [hel]) (Evt.con _))))
  rw [stmtY]
  simp [isK_tw,hdT_cons]
 | cons c0 cr =>
  have e1:tkS (.st 3 [] [x] b (c0 :: cr) 0)++R=tw wIf :: (tkE x++(sg sLc :: (tkB b++sg sRc :: (tw wElse :: sg sLc :: (tkB (c0 :: cr)++sg sRc :: R))))):=by simp [tkS,tkY,tkEs,nthT]
  rw [e1]
  refine Evt.succ (fun f=>?_) (Evt.bind (k:=fun f e l=>(blockY f d l).bind fun b l=>if isK l wElse then (blockY f d l.tail).bind fun c l=>PR.ok (Tx.st 3 [] [e] b c 0) l else PR.ok (Tx.st 3 [] [e] b [] 0) l) (whole_go (d:=d) hx fx (stop_sg sLc _ (by decide)) (by omega)) (Evt.bind (k:=fun f b l=>if isK l wElse then (blockY f d l.tail).bind fun c l=>PR.ok (Tx.st 3 [] [x] b c 0) l else PR.ok (Tx.st 3 [] [x] b [] 0) l) (block_go (d:=d) (R:=tw wElse :: sg sLc :: (tkB (c0 :: cr)++sg sRc :: R)) b hb (by omega)) (Evt.congr (fun f=>by simp only [isK_tw,show (wElse==wElse)=true from rfl,if_true,List.tail_cons]) (Evt.bind (k:=fun f c l=>PR.ok (Tx.st 3 [] [x] b c 0) l) (block_go (d:=d) (R:=R) (c0 :: cr) hc (by omega)) (Evt.con _)))))
  rw [stmtY]
  simp [isK_tw,hdT_cons]
end Go.AM
namespace Go.AM
open Go
theorem one_bin {x y:Tx} {op n0:Nat} {s:Bs} (hx:OneOk x) (fx:First (tkE x)) (hy:OneOk y) (fy:First (tkE y)) (he:tkE (.ex op 0 [] [x,y] [] [])=sg sLp :: ((tkE x++sg s :: tkE y)++[sg sRp])) (hn:n0 < 3) (hs:lvY n0 s=some op) (hs' : ∀ m,n0 < m->lvY m s=none) (hp:s≠sLp/\s≠sLb/\s≠sDot):OneOk (.ex op 0 [] [x,y] [] [])/\First (tkE (.ex op 0 [] [x,y] [] [])):=by
 refine ⟨one_paren he fun d R hd=>?_,by rw [he];exact ⟨_,_,rfl,rfl,.inr (.inr (.inr ⟨rfl,.inl rfl⟩))⟩⟩
 simp only [dE,dEs,dSs] at hd
 rw [List.append_assoc,List.cons_append]
 exact Evt.succ (fun f=>by rw [wholeY,if_neg (by omega)]) (bin_go hx fx hy fy hn hs hs' hp (stop_sg sRp R (by decide)) (by omega) (by omega))
theorem lv_hi (s:Bs) (n0:Nat) (h1:n0 < 1->lvY 1 s=none) (h2:n0 < 2->lvY 2 s=none):∀ m,n0 < m->lvY m s=none:=fun m hm=>by
 match m with
 | 0=>omega
 | 1=>exact h1 hm
 | 2=>exact h2 hm
 | m+3=>rfl
theorem name_facts:∀ s∈nameL,(s==wNil)=false/\(s==wTrue)=false/\(s==wFalse)=false/\(s==sLp)=false/\(s==sLc)=false/\(s==wFn)=false/\s≠sRc/\s≠wElse:=by decide
theorem first_tw {s:Bs} (h:s∈firstW) (r:Tks):First (tw s :: r):=⟨_,_,rfl,rfl,.inr (.inr (.inl ⟨rfl,h⟩))⟩
theorem first_sg {s:Bs} (h:s=sLp\/s=sLc) (r:Tks):First (sg s :: r):=⟨_,_,rfl,rfl,.inr (.inr (.inr ⟨rfl,h⟩))⟩
theorem name_one {s:Bs} (h:s∈nameL):OneOk (.ex 5 0 s [] [] [])/\First (tkE (.ex 5 0 s [] [] [])):=by
 have e:tkE (.ex 5 0 s [] [] [])=[tw s]:=by simp [tkE,tkX]
 obtain ⟨h1,h2,h3,h4,h5,h6,_,_⟩:=name_facts s h
 refine ⟨one_leaf fun f d R=>?_,by rw [e];exact first_tw (List.mem_append_left _ h) _⟩
 rw [e,oneY]
 simp only [List.cons_append,List.nil_append,hdT_cons,isK_tw,h1,h2,h3,h4,h5,h6,Bool.false_eq_true,if_false,name_tw h,bind_ok]
 rfl
theorem nil_of {α:Type} {l:List α} (h:l.length=0):l=[]:=List.eq_nil_of_length_eq_zero h
theorem one_of {α:Type} {l:List α} (h:l.length=1):∃ x,l=[x]:=List.length_eq_one_iff.1 h
theorem two_of {α:Type} {l:List α} (h:l.length=2):∃ x y,l=[x,y]:=by
 match l,h with
 | [x,y],_=>exact ⟨x,y,rfl⟩
theorem three_of {α:Type} {l:List α} (h:l.length=3):∃ x y z,l=[x,y,z]:=by
 match l,h with
 | [x,y,z],_=>exact ⟨x,y,z,rfl⟩
mutual
theorem one_all:∀ t:Tx,t.ev->t.z->OneOk t/\First (tkE t)
 | .ex op num text ps qs b,hv,hz=>by
  simp only [Tx.ev] at hv
  simp only [Tx.z] at hz
  obtain ⟨v1,⟨v2,v3⟩,v4,v5,v6,v7,v8,v9,v10,v11,v12,v13⟩:=hv
  have hp:=ones_all ps v12 hz.1
  have hb:=sts_all b v13 hz.2
  have leaf:op < 6->ps=[]/\qs=[]/\b=[]:=fun h=>⟨nil_of (v11.1 h),v8 (by omega)⟩
  rcases (show op=0\/op=1\/op=2\/op=3\/op=4\/op=5\/op=6\/op=7\/(8<=op/\op<=13)\/op=14\/op=15\/op=16\/op=17 by omega) with rfl | rfl | rfl | rfl | rfl | rfl | rfl | rfl | ⟨o1,o2⟩ | rfl | rfl | rfl | rfl
  ·obtain ⟨rfl,rfl,rfl⟩:=leaf (by omega)
   obtain rfl:=v4 (by omega)
   obtain rfl:=v7 (by omega) (by omega)
   exact ⟨one_leaf fun f d R=>by simp [tkE,tkX,oneY,hdT_cons,isK_tw],by simp only [tkE,tkX,if_true];exact first_tw (by decide) _⟩
  ·obtain ⟨rfl,rfl,rfl⟩:=leaf (by omega)
   obtain rfl:=v4 (by omega)
   obtain rfl:=v7 (by omega) (by omega)
   exact ⟨one_leaf fun f d R=>by simp [tkE,tkX,oneY,hdT_cons,isK_tw],by simp [tkE,tkX];exact first_tw (by decide) _⟩
  ·obtain ⟨rfl,rfl,rfl⟩:=leaf (by omega)
   obtain rfl:=v4 (by omega)
   obtain rfl:=v7 (by omega) (by omega)
   exact ⟨one_leaf fun f d R=>by simp [tkE,tkX,oneY,hdT_cons,isK_tw],by simp [tkE,tkX];exact first_tw (by decide) _⟩
  ·obtain ⟨rfl,rfl,rfl⟩:=leaf (by omega)
   obtain rfl:=v7 (by omega) (by omega)
   exact ⟨one_leaf fun f d R=>by simp [tkE,tkX,oneY,hdT_cons],by simp [tkE,tkX];exact ⟨_,_,rfl,rfl,.inl rfl⟩⟩
  ·obtain ⟨rfl,rfl,rfl⟩:=leaf (by omega)
   obtain rfl:=v4 (by omega)
   exact ⟨one_leaf fun f d R=>by simp [tkE,tkX,oneY,hdT_cons],by simp [tkE,tkX];exact ⟨_,_,rfl,rfl,.inr (.inl rfl)⟩⟩
  ·obtain ⟨rfl,rfl,rfl⟩:=leaf (by omega)
   obtain rfl:=v4 (by omega)
   exact name_one (v6 rfl)
  ·obtain ⟨x,rfl⟩:=one_of (v11.2.1 (.inl rfl))
   obtain ⟨rfl,rfl⟩:=v8 (by omega)
   obtain rfl:=v4 (by omega)
   obtain rfl:=v7 (by omega) (by omega)
   obtain ⟨hx,fx⟩:=hp x (by simp)
   have e:tkE (.ex 6 0 [] [x] [] [])=sg sLp :: ((sg sMinus :: tkE x)++[sg sRp]):=by simp [tkE,tkX,tkEs,nthT]
   refine ⟨one_paren e fun d R hd=>?_,by rw [e];exact first_sg (.inl rfl) _⟩
   simp only [dE,dEs,dSs] at hd
   exact un_go (.inl ⟨rfl,rfl⟩) hx fx (stop_sg sRp R (by decide)) (by omega)
  ·obtain ⟨x,rfl⟩:=one_of (v11.2.1 (.inr rfl))
   obtain ⟨rfl,rfl⟩:=v8 (by omega)
   obtain rfl:=v4 (by omega)
   obtain rfl:=v7 (by omega) (by omega)
   obtain ⟨hx,fx⟩:=hp x (by simp)
   have e:tkE (.ex 7 0 [] [x] [] [])=sg sLp :: ((sg sBang :: tkE x)++[sg sRp]):=by simp [tkE,tkX,tkEs,nthT]
   refine ⟨one_paren e fun d R hd=>?_,by rw [e];exact first_sg (.inl rfl) _⟩
   simp only [dE,dEs,dSs] at hd
   exact un_go (.inr ⟨rfl,rfl⟩) hx fx (stop_sg sRp R (by decide)) (by omega)
  ·obtain ⟨x,y,rfl⟩:=two_of (v11.2.2.2.2.2.1 (by omega) (by omega))
   obtain ⟨rfl,rfl⟩:=v8 (by omega)
   obtain rfl:=v4 (by omega)
   obtain rfl:=v7 (by omega) (by omega)
   obtain ⟨hx,fx⟩:=hp x (by simp)
   obtain ⟨hy,fy⟩:=hp y (by simp)
   rcases (show op=8\/op=9\/op=10\/op=11\/op=12\/op=13 by omega) with rfl | rfl | rfl | rfl | rfl | rfl
   ·exact one_bin (n0:=1) (s:=[43]) hx fx hy fy (by simp [tkE,tkX,tkEs,nthT,signP]) (by decide) (by decide) (lv_hi _ _ (fun h=>by omega) fun _=>by decide) (by decide)
   ·exact one_bin (n0:=1) (s:=[45]) hx fx hy fy (by simp [tkE,tkX,tkEs,nthT,signP]) (by decide) (by decide) (lv_hi _ _ (fun h=>by omega) fun _=>by decide) (by decide)
   ·exact one_bin (n0:=2) (s:=[42]) hx fx hy fy (by simp [tkE,tkX,tkEs,nthT,signP]) (by decide) (by decide) (lv_hi _ _ (fun h=>by omega) fun h=>by omega) (by decide)
   ·exact one_bin (n0:=0) (s:=[61,61]) hx fx hy fy (by simp [tkE,tkX,tkEs,nthT,signP]) (by decide) (by decide) (lv_hi _ _ (fun h=>by decide) fun _=>by decide) (by decide)
   ·exact one_bin (n0:=0) (s:=[33,61]) hx fx hy fy (by simp [tkE,tkX,tkEs,nthT,signP]) (by decide) (by decide) (lv_hi _ _ (fun h=>by decide) fun _=>by decide) (by decide)
   ·exact one_bin (n0:=0) (s:=[60]) hx fx hy fy (by simp [tkE,tkX,tkEs,nthT,signP]) (by decide) (by decide) (lv_hi _ _ (fun h=>by decide) fun _=>by decide) (by decide)
  ·obtain ⟨x,y,rfl⟩:=two_of (v11.2.2.2.2.2.1 (by omega) (by omega))
   obtain ⟨rfl,rfl⟩:=v8 (by omega)
   obtain rfl:=v4 (by omega)
   obtain rfl:=v7 (by omega) (by omega)
   obtain ⟨hx,fx⟩:=hp x (by simp)
   obtain ⟨hy,fy⟩:=hp y (by simp)
   refine ⟨one_field hx hy fy,?_⟩
   have:tkE (.ex 14 0 [] [x,y] [] [])=tkE x++(sg sLb :: tkE y++[sg sRb]):=by simp [tkE,tkX,tkEs,nthT]
   rw [this];exact fx.app _
  ·have hl:=v11.2.2.1 rfl
   obtain ⟨rfl,rfl⟩:=v8 (by omega)
   obtain rfl:=v4 (by omega)
   obtain rfl:=v7 (by omega) (by omega)
   match ps,hl,hp with
   | x :: ps,_,hp =>
    obtain ⟨hx,fx⟩:=hp x (by simp)
    refine ⟨one_call hx fun p h=>hp p (by simp [h]),?_⟩
    have:tkE (.ex 15 0 [] (x :: ps) [] [])=tkE x++(sg sLp :: joinT (tkEs ps)++[sg sRp]):=by simp [tkE,tkX,tkEs,nthT]
    rw [this];exact fx.app _
  ·obtain ⟨rfl,rfl⟩:=v8 (by omega)
   obtain rfl:=v4 (by omega)
   obtain rfl:=v7 (by omega) (by omega)
   refine ⟨one_rec (v11.2.2.2.1 rfl) hp,?_⟩
   have:tkE (.ex 16 0 [] ps [] [])=sg sLc :: (joinT (fieldsT (tkEs ps))++[sg sRc]):=by simp [tkE,tkX]
   rw [this];exact first_sg (.inr rfl) _
  ·have:ps=[]:=nil_of (v11.2.2.2.2.1 rfl)
   subst this
   obtain rfl:=v4 (by omega)
   obtain rfl:=v7 (by omega) (by omega)
   refine ⟨one_func v10 hb,?_⟩
   have:tkE (.ex 17 0 [] [] qs b)=tw wFn :: (sg sLp :: (joinT (qs.map fun q=>[tw q])++sg sRp :: sg sLc :: tkB b++[sg sRc])):=by simp [tkE,tkX,tkEs]
   rw [this];exact first_tw (by decide) _
 | .st ..,hv,_=>by simp only [Tx.ev] at hv
theorem ones_all:∀ l:List Tx,evs l->zs l->∀ p∈l,OneOk p/\First (tkE p)
 | [],_,_,p,hp=>by cases hp
 | x :: r,hv,hz,p,hp=>by
  simp only [evs] at hv
  simp only [zs] at hz
  have h1:=one_all x hv.1 hz.1
  have h2:=ones_all r hv.2 hz.2
  rcases List.mem_cons.1 hp with rfl | hp
  ·exact h1
  ·exact h2 p hp
theorem st_all:∀ t:Tx,t.sv->t.z->StOk t/\SFirst (tkS t)
 | .st kind name es b e a,hv,hz=>by
  simp only [Tx.sv] at hv
  simp only [Tx.z] at hz
  obtain ⟨v1,v2,v3,v4,v5,v6,v8,v9,v10⟩:=hv
  obtain ⟨rfl,z1,z2,z3⟩:=hz
  have he:=ones_all es v8 z1
  have hb:=sts_all b v9 z2
  have hc:=sts_all e v10 z3
  rcases (show kind=0\/kind=1\/kind=2\/kind=3\/kind=4\/kind=5\/kind=6\/kind=7\/kind=8 by omega) with rfl | rfl | rfl | rfl | rfl | rfl | rfl | rfl | rfl
  ·obtain ⟨x,rfl⟩:=one_of v4
   obtain rfl:=v5 (by omega) (by omega) (by omega)
   obtain rfl:=v6 (by omega) (by omega)
   obtain ⟨hx,fx⟩:=he x (by simp)
   exact ⟨stY_let (v2 (.inl rfl)) hx fx,by simp [tkS,tkY,tkEs,nthT];exact sf_tw _ (by decide) _⟩
  ·obtain ⟨x,rfl⟩:=one_of v4
   obtain rfl:=v5 (by omega) (by omega) (by omega)
   obtain rfl:=v6 (by omega) (by omega)
   obtain ⟨hx,fx⟩:=he x (by simp)
   have hn:=v2 (.inr (.inl rfl))
   obtain ⟨n1,n2⟩:=name_one hn
   exact ⟨stY_set n1 n2 hx fx,by simp [tkS,tkY,tkEs,nthT];exact sf_tw _ (name_facts name hn).2.2.2.2.2.2 _⟩
  ·obtain ⟨x,y,z,rfl⟩:=three_of v4
   obtain rfl:=v5 (by omega) (by omega) (by omega)
   obtain rfl:=v6 (by omega) (by omega)
   obtain rfl:=v3 (by omega) (by omega) (by omega)
   obtain ⟨hx,fx⟩:=he x (by simp)
   obtain ⟨hy,fy⟩:=he y (by simp)
   obtain ⟨hz,fz⟩:=he z (by simp)
   refine ⟨stY_put hx fx hy fy hz fz,?_⟩
   have:tkS (.st 2 [] [x,y,z] [] [] 0)=tkE x++(sg sLb :: (tkE y++sg sRb :: sg sEq :: tkE z++[sg sSemi])):=by simp [tkS,tkY,tkEs,nthT]
   rw [this];exact (fx.app _).sf
  ·obtain ⟨x,rfl⟩:=one_of v4
   obtain rfl:=v3 (by omega) (by omega) (by omega)
   obtain ⟨hx,fx⟩:=he x (by simp)
   refine ⟨stY_if hx fx hb hc,?_⟩
   simp [tkS,tkY,tkEs,nthT];exact sf_tw _ (by decide) _
  ·obtain ⟨x,rfl⟩:=one_of v4
   obtain rfl:=v6 (by omega) (by omega)
   obtain rfl:=v3 (by omega) (by omega) (by omega)
   obtain ⟨hx,fx⟩:=he x (by simp)
   exact ⟨stY_while hx fx hb,by simp [tkS,tkY,tkEs,nthT];exact sf_tw _ (by decide) _⟩
  ·obtain ⟨x,rfl⟩:=one_of v4
   obtain rfl:=v5 (by omega) (by omega) (by omega)
   obtain rfl:=v6 (by omega) (by omega)
   obtain rfl:=v3 (by omega) (by omega) (by omega)
   obtain ⟨hx,fx⟩:=he x (by simp)
   exact ⟨stY_ret (.inl rfl) hx fx,by simp [tkS,tkY,tkEs,nthT];exact sf_tw _ (by decide) _⟩
  ·obtain ⟨x,rfl⟩:=one_of v4
   obtain rfl:=v5 (by omega) (by omega) (by omega)
   obtain rfl:=v6 (by omega) (by omega)
   obtain rfl:=v3 (by omega) (by omega) (by omega)
   obtain ⟨hx,fx⟩:=he x (by simp)
   exact ⟨stY_ret (.inr rfl) hx fx,by simp [tkS,tkY,tkEs,nthT];exact sf_tw _ (by decide) _⟩
  ·have:es=[]:=nil_of v4
   subst this
   exact ⟨stY_try (v2 (.inr (.inr rfl))) hb hc,by simp [tkS,tkY,tkEs];exact sf_tw _ (by decide) _⟩
  ·obtain ⟨x,rfl⟩:=one_of v4
   obtain rfl:=v5 (by omega) (by omega) (by omega)
   obtain rfl:=v6 (by omega) (by omega)
   obtain rfl:=v3 (by omega) (by omega) (by omega)
   obtain ⟨hx,fx⟩:=he x (by simp)
   refine ⟨stY_do hx fx,?_⟩
   have:tkS (.st 8 [] [x] [] [] 0)=tkE x++[sg sSemi]:=by simp [tkS,tkY,tkEs,nthT]
   rw [this];exact (fx.app _).sf
 | .ex ..,hv,_=>by simp only [Tx.sv] at hv
theorem sts_all:∀ l:List Tx,svs l->zs l->Sts l
 | [],_,_=>fun p hp=>by cases hp
 | x :: r,hv,hz=>fun p hp=>by
  simp only [svs] at hv
  simp only [zs] at hz
  have h1:=st_all x hv.1 hz.1
  have h2:=sts_all r hv.2 hz.2
  rcases List.mem_cons.1 hp with rfl | hp
  ·exact h1
  ·exact h2 p hp
end
theorem many_z {g:MS->Tx×MS} {D:Nat} (hg:∀ m,(g m).1.z/\dE (g m).1<=D):∀ (k:Nat) (m:MS),zs (manyP g k m).1/\dEs (manyP g k m).1<=D
 | 0,m=>by simp [manyP,zs,dEs]
 | k+1,m=>by
  have h1:=hg m
  have h2:=many_z hg k (g m).2
  simp only [manyP,zs,dEs]
  exact ⟨⟨h1.1,h2.1⟩,by omega⟩
theorem stmts_z {g:MS->Tx×MS} {D:Nat} (hg:∀ m,(g m).1.z/\dS (g m).1<=D):∀ (k:Nat) (m:MS),zs (stmtsP g k m).1/\dSs (stmtsP g k m).1<=D
 | 0,m=>by simp [stmtsP,zs,dSs]
 | k+1,m=>by
  rw [stmtsP]
  split
  ·simp [zs,dSs]
  ·have h1:=hg m
   have h2:=stmts_z hg k (g m).2
   simp only [zs,dSs]
   exact ⟨⟨h1.1,h2.1⟩,by omega⟩
theorem zif {c:Prop} [Decidable c] {p q:List Tx×MS} {D:Nat} (h:zs p.1/\dSs p.1<=D) (h' : ¬ c->zs q.1/\dSs q.1<=D):zs (if c then p else q).1/\dSs (if c then p else q).1<=D:=by
 by_cases hc:c
 ·rw [if_pos hc];exact h
 ·rw [if_neg hc];exact h' hc
mutual
theorem exprP_z:∀ (f:Nat) (deep:Int) (m:MS),(exprP f deep m).1.z/\dE (exprP f deep m).1<=2+5*deep.toNat
 | 0,deep,m=>by simp [exprP,Tx.z,zs,dE,dEs,dSs]
 | f+1,deep,m=>by
  rw [exprP]
  dsimp only
  have ho:=opP_lt deep (nextM m) (nextX m)
  have hlf:=opP_leaf deep (nextM m) (nextX m)
  generalize opP deep (nextM m) (nextX m)=op at *
  have hc:=countP_cnt op (nextX m) ho
  by_cases hlow:deep<=0\/(nextM m).left<=0
  ·have h6:=hlf hlow
   have hc0:countP op (nextX m)=0:=hc.1 h6
   rw [hc0,if_neg (show op≠17 by omega)]
   simp [manyP,Tx.z,zs,dE,dEs,dSs]
  ·have hn:(deep-1).toNat+1=deep.toNat:=by omega
   have hb:=zif (c:=op=17) (q:=([],nextM m)) (stmts_z (stmtP_z f (deep-1)) ((nextX m).n % 3) (nextM m)) fun _=>⟨trivial,Nat.zero_le _⟩
   generalize (if op=17 then stmtsP (stmtP f (deep-1)) ((nextX m).n % 3) (nextM m) else ([],nextM m))=b at *
   obtain ⟨e1,e2⟩:=many_z (exprP_z f (deep-1)) (countP op (nextX m)) b.2
   simp only [Tx.z,dE]
   refine ⟨⟨e1,hb.1⟩,?_⟩
   have:=hb.2
   omega
theorem stmtP_z:∀ (f:Nat) (deep:Int) (m:MS),(stmtP f deep m).1.z/\dS (stmtP f deep m).1<=5+5*deep.toNat
 | 0,deep,m=>by simp [stmtP,Tx.z,zs,dS,dEs,dSs];omega
 | f+1,deep,m=>by
  rw [stmtP]
  dsimp only
  have ho:=kindP_lt deep (nextX m)
  have hlf:=kindP_leaf deep (nextX m)
  generalize kindP deep (nextX m)=k at *
  obtain ⟨e1,e2⟩:=many_z (exprP_z f (deep-1)) (scountP k) (nextM m)
  generalize manyP (exprP f (deep-1)) (scountP k) (nextM m)=es at *
  by_cases hlow:deep<=0
  ·obtain ⟨k3,k4,k7⟩:=hlf hlow
   rw [if_neg (by omega),if_neg (by omega)]
   simp only [Tx.z,zs,dS,dSs]
   exact ⟨⟨trivial,e1,trivial,trivial⟩,by omega⟩
  ·have hn:(deep-1).toNat+1=deep.toNat:=by omega
   have hb:=zif (c:=k=3\/k=7\/k=4) (q:=([],es.2)) (stmts_z (stmtP_z f (deep-1)) ((nextX m).a % 3) es.2) fun _=>⟨trivial,Nat.zero_le _⟩
   generalize (if k=3\/k=7\/k=4 then stmtsP (stmtP f (deep-1)) ((nextX m).a % 3) es.2 else ([],es.2))=b at *
   have hc:=zif (c:=k=3\/k=7) (q:=([],b.2)) (stmts_z (stmtP_z f (deep-1)) ((nextX m).n % 3) b.2) fun _=>⟨trivial,Nat.zero_le _⟩
   generalize (if k=3\/k=7 then stmtsP (stmtP f (deep-1)) ((nextX m).n % 3) b.2 else ([],b.2))=c at *
   simp only [Tx.z,dS]
   refine ⟨⟨trivial,e1,hb.1,hc.1⟩,?_⟩
   have:=hb.2;have:=hc.2
   omega
end
end Go.AM
namespace Go.AM
open Go
mutual
def smE:Tx->Tx->Bool
 | .ex op num text ps qs b,.ex op' num' text' ps' qs' b'=>op==op'&&(num==num'&&(text==text'&&(smL ps ps'&&(qs==qs'&&smL b b'))))
 | .st k n es b e _,.st k' n' es' b' e' _=>k==k'&&(n==n'&&(smL es es'&&(smL b b'&&smL e e')))
 | _,_=>false
def smL:List Tx->List Tx->Bool
 | [],[]=>true
 | x :: r,y :: s=>smE x y&&smL r s
 | _,_=>false
end
theorem smL_len:∀ {l m:List Tx},smL l m=true->l.length=m.length
 | [],[],_=>rfl
 | x :: r,y :: s,h=>by
  simp only [smL,Bool.and_eq_true] at h
  simp only [List.length_cons,smL_len h.2]
 | [],y :: s,h=>by simp [smL] at h
 | x :: r,[],h=>by simp [smL] at h
mutual
theorem smE_eq:∀ {x y:Tx},x.z->y.z->(smE x y=true ↔ x=y)
 | .ex op num text ps qs b,.ex op' num' text' ps' qs' b',hx,hy=>by
  simp only [Tx.z] at hx hy
  simp only [smE,Bool.and_eq_true,beq_iff_eq,smL_eq hx.1 hy.1,smL_eq hx.2 hy.2,Tx.ex.injEq]
 | .st k n es b e a,.st k' n' es' b' e' a',hx,hy=>by
  simp only [Tx.z] at hx hy
  obtain ⟨rfl,x1,x2,x3⟩:=hx
  obtain ⟨rfl,y1,y2,y3⟩:=hy
  simp only [smE,Bool.and_eq_true,beq_iff_eq,smL_eq x1 y1,smL_eq x2 y2,smL_eq x3 y3,Tx.st.injEq,and_true]
 | .ex ..,.st ..,_,_=>by simp [smE]
 | .st ..,.ex ..,_,_=>by simp [smE]
theorem smL_eq:∀ {l m:List Tx},zs l->zs m->(smL l m=true ↔ l=m)
 | [],[],_,_=>by simp [smL]
 | x :: r,y :: s,hx,hy=>by
  simp only [zs] at hx hy
  simp only [smL,Bool.and_eq_true,smE_eq hx.1 hy.1,smL_eq hx.2 hy.2,List.cons.injEq]
 | [],y :: s,_,_=>by simp [smL]
 | x :: r,[],_,_=>by simp [smL]
end
theorem smL_take:∀ {l m:List Tx} {i:Nat} (h:i < l.length) (h' : i < m.length),smL (l.take (i+1)) (m.take (i+1))=(smL (l.take i) (m.take i)&&smE l[i] m[i])
 | x :: r,y :: s,0,_,_=>by simp [smL]
 | x :: r,y :: s,i+1,h,h'=>by
  have:=smL_take (l:=r) (m:=s) (i:=i) (by simpa using h) (by simpa using h')
  simp only [List.take_succ_cons,smL,List.getElem_cons_succ] at this ⊢
  rw [this,Bool.and_assoc]
theorem smL_false:∀ {l m:List Tx} {i:Nat} (h:i < l.length) (h' : i < m.length),smE l[i] m[i]=false->smL l m=false
 | x :: r,y :: s,0,_,_,h=>by simp at h;simp [smL,h]
 | x :: r,y :: s,i+1,h1,h2,h=>by
  have:=smL_false (l:=r) (m:=s) (i:=i) (by simpa using h1) (by simpa using h2) (by simpa using h)
  simp [smL,this]
end Go.AM
set_option maxRecDepth 100000
namespace Go.AM.YtlillgmgpmbfnaaGreatDoorT
open Go Go.AM Go.Proofs
theorem eqT_ok {K:Nat->Prop} {H:Hp} {l m:List (List UInt8)} {v u:V} (hst:H.stale=[]) (hA:StrsAt K H l v) (hB:StrsAt K H m u) (hl:l.length<=1099511627776):WF tab 34 [v,u] H fun w H'=>w = .bool (l==m)/\H' = H:=by
 refine wf34 (wp_sound _ ?_)
 have h1:=hA.len 9;have h2:=hA.one;have h3:=hA.cells
 have k1:=hB.len 9;have k2:=hB.one;have k3:=hB.cells
 by_cases hlm:l.length=m.length
 ·have hn:((l.length:Int) != (m.length:Int))=false:=by simp [hlm]
  simp [hst,h1,h2,h3,k1,k2,k3,hn]
  refine loop_of (fun k F H'=>∃ i,i+k=l.length/\H' = H/\l.take i=m.take i/\F.get 0=some v/\F.get 1=some u/\F.get 12=some (.int .i64 l.length)/\F.get 13=some (.int .i64 i)) (m:=l.length) ⟨0,by omega,rfl,by simp,by simp,by simp,by simp,by simp⟩ ?_
  rintro k F _ ⟨i,hi,rfl,he,f0,f1,f12,f13⟩
  by_cases hlt:i < l.length
  ·have hlt' : (i:Int) < (l.length:Int):=by omega
   have hltm:i < m.length:=by omega
   have hltm' : (i:Int) < (m.length:Int):=by omega
   obtain ⟨b,off,cap,e,ro,cells,rfl,g1,g2,g3,g4,g5⟩:=StrsAt.at_ hA hlt
   obtain ⟨b',off',cap',e',ro',cells',rfl,g1',g2',g3',g4',g5'⟩:=StrsAt.at_ hB hltm
   have hw:wr .i64 ((i:Int)+1)=((i+1:Nat):Int):=by rw [wr_i64 (by omega) (by omega)];omega
   by_cases hc:l[i]=m[i]
   ·have hc' : (l[i]==m[i])=true:=by simp [hc]
    simp [L34_0,f0,f1,f12,f13,hst,hlt,hlt',hltm,hltm',g1,g5,g1',g5',hc,hc',hw,eqV]
    exact ⟨k-1,by omega,i+1,by omega,by rw [List.take_succ_eq_append_getElem hlt,List.take_succ_eq_append_getElem hltm,he,hc],by omega⟩
   ·have hc' : (l[i]==m[i])=false:=beq_false_of_ne hc
    have hne:(l==m)=false:=beq_false_of_ne fun e=>hc (by subst e;rfl)
    simp [L34_0,f0,f1,f12,f13,hst,hlt,hlt',hltm,hltm',g1,g5,g1',g5',hc',hw,hne,eqV]
  ·have hlt' : ¬ (i:Int) < (l.length:Int):=by omega
   have:l=m:=by
    rw [List.take_of_length_le (by omega),List.take_of_length_le (by omega)] at he
    exact he
   subst this
   simp [L34_0,f0,f1,f12,f13,hst,hlt']
 ·have hn:((l.length:Int) != (m.length:Int))=true:=by simp;omega
  have hne:(l==m)=false:=beq_false_of_ne fun e=>hlm (by subst e;rfl)
  simp [hst,h1,h2,h3,k1,k2,k3,hn,hne]
def qE (e:Tx):Prop:=∀ (e' : Tx) (H:Hp) (cs cs' : List V) (K:Nat->Prop),e'.eok->H.stale=[]->ExpAt K H e cs->ExpAt K H e' cs'->(∀ b,K b->b < H.next)->e.wt<=1099511627776->WF tab 74 [.agg cs,.agg cs'] H fun w H'=>w = .bool (smE e e')/\Ext noX H H'
def qS (e:Tx):Prop:=∀ (e' : Tx) (H:Hp) (cs cs' : List V) (K:Nat->Prop),e'.sok->H.stale=[]->ExpAt K H e cs->ExpAt K H e' cs'->(∀ b,K b->b < H.next)->e.wt<=1099511627776->WF tab 49 [.agg cs,.agg cs'] H fun w H'=>w = .bool (smE e e')/\Ext noX H H'
def qLE (l:List Tx):Prop:=∀ (m:List Tx) (H:Hp) (v u:V) (K:Nat->Prop),eoks m->H.stale=[]->TreesAt K H l v->TreesAt K H m u->(∀ b,K b->b < H.next)->wts l<=1099511627776->WF tab 73 [v,u,.fn (.func 74) [] []] H fun w H'=>w = .bool (smL l m)/\Ext noX H H'
def qLS (l:List Tx):Prop:=∀ (m:List Tx) (H:Hp) (v u:V) (K:Nat->Prop),soks m->H.stale=[]->TreesAt K H l v->TreesAt K H m u->(∀ b,K b->b < H.next)->wts l<=1099511627776->WF tab 48 [v,u,.fn (.func 49) [] []] H fun w H'=>w = .bool (smL l m)/\Ext noX H H'
theorem wts_len:∀ l:List Tx,l.length<=wts l
 | []=>by simp [wts]
 | x :: r=>by have:=wts_len r;have:=x.wt_pos;simp only [wts,List.length_cons];omega
theorem wts_mem:∀ {l:List Tx} {x:Tx},x∈l->x.wt<=wts l
 | y :: r,x,hx=>by
  simp only [wts]
  rcases List.mem_cons.1 hx with rfl | hx
  ·omega
  ·have:=wts_mem hx;omega
structure JEqE (H0:Hp) (v u:V) (l m:List Tx) (i:Nat) (F:Fr) (H:Hp):Prop where
 ext:Ext noX H0 H
 sm:smL (l.take i) (m.take i)=true
 f1:F.get 1=some u
 f2:F.get 2=some (.fn (.func 74) [] [])
 f15:F.get 15=some v
 f16:F.get 16=some (.int .i64 l.length)
 f17:F.get 17=some (.int .i64 i)
theorem EqE_ok {l:List Tx} (hP:∀ p∈l,qE p):qLE l:=by
 intro m H0 v u K hok hst0 hA hB hK hb
 refine wf73 (wp_sound _ ?_)
 have h1:=SliceOf.len hA 35;have h2:=SliceOf.one hA;have h3:=SliceOf.cells hA
 have k1:=SliceOf.len hB 35;have k2:=SliceOf.one hB;have k3:=SliceOf.cells hB
 have hwl:=wts_len l
 by_cases hlm:l.length=m.length
 ·have hn:((l.length:Int) != (m.length:Int))=false:=by simp [hlm]
  simp [hst0,h1,h2,h3,k1,k2,k3,hn]
  refine loop_of (fun k F H=>∃ i,i+k=l.length/\JEqE H0 v u l m i F H) (m:=l.length) ⟨0,by omega,⟨Ext.refl hst0,by simp [smL],by simp,by simp,by simp,by simp,by simp⟩⟩ ?_
  rintro k F H ⟨i,hi,I⟩
  have hst:=I.ext.st
  have f1:=I.f1;have f2:=I.f2;have f15:=I.f15;have f16:=I.f16;have f17:=I.f17
  by_cases hlt:i < l.length
  ·have hlt' : (i:Int) < (l.length:Int):=by omega
   have hltm:i < m.length:=by omega
   have hltm' : (i:Int) < (m.length:Int):=by omega
   have hS0:Stays K K H0 H:=⟨fun b hb _=>hb,fun b hb hx=>I.ext.get b hx (fun h=>h),I.ext.le⟩
   obtain ⟨b,off,cap,e,ro,cells,d0,d1,d2,d3,d4,d5,rfl,g1,g2,g3,g4,g5,g6,g7,n0,n1,n2,n3,n4,n5⟩:=TreesAt.at_ (hA.mono hS0) hlt
   obtain ⟨b',off',cap',e',ro',cells',c0,c1,c2,c3,c4,c5,rfl,q1,q2,q3,q4,q5,q6,q7,m0,m1,m2,m3,m4,m5⟩:=TreesAt.at_ (hB.mono hS0) hltm
   have hw:wr .i64 ((i:Int)+1)=((i+1:Nat):Int):=by rw [wr_i64 (by omega) (by omega)];omega
   have hoff:off+i*6+6<=cells.length:=by omega
   have hoff' : off' + i*6+6<=cells'.length:=by omega
   have hb3:=old_ne q3
   simp [L73_0,f1,f2,f15,f16,f17,hst,hlt,hlt',hltm,hltm',g1,g4,g5,g6,hoff,q1,q4,q5,q6,hoff',hb3,n0,n1,n2,n3,n4,n5,m0,m1,m2,m3,m4,m5,Hp.get_new,Hp.get_put]
   have hX1:∀ o o' : Ob,Ext noX H ((H.new o).put H.next o'):=fun o o'=>⟨by simp [hst],by simp,fun b hb _=>by simp [Hp.get_new,Hp.get_put,old_ne hb]⟩
   have hX2:∀ o1 o2 o3 o4:Ob,Ext noX H ((((H.new o1).put H.next o2).new o3).put (H.next+1) o4):=fun o1 o2 o3 o4=>⟨by simp [hst],by simp;omega,fun b hb _=>by simp [Hp.get_new,Hp.get_put,old_ne hb]⟩
   have hS2:∀ o1 o2 o3 o4:Ob,Stays K K H ((((H.new o1).put H.next o2).new o3).put (H.next+1) o4):=fun o1 o2 o3 o4=>⟨fun b hb _=>hb,fun b hb hx=>(hX2 o1 o2 o3 o4).get b hx (fun h=>h),(hX2 o1 o2 o3 o4).le⟩
   have hwm:=wts_mem (List.getElem_mem hlt)
   have hIle:=I.ext.le
   refine (hP l[i] (List.getElem_mem hlt) m[i] _ _ _ K (eoks_mem hok _ (List.getElem_mem hltm)) (by simp [hst]) (ExpAt.mono (hS2 _ _ _ _) _ _ g7) (ExpAt.mono (hS2 _ _ _ _) _ _ q7) (fun b hb=>by have:=hK b hb;simp;omega) (by omega)).mono ?_
   rintro w H3 ⟨rfl,hX3⟩
   have hXX:=I.ext.trans ((hX2 _ _ _ _).trans hX3)
   cases hc:smE l[i] m[i] with
   | true =>
    simp [hX3.st,f17,hw]
    exact ⟨k-1,by omega,i+1,by omega,hXX,by rw [smL_take hlt hltm,I.sm,hc];rfl,by simp [f1],by simp [f2],by simp [f15],by simp [f16],by simp⟩
   | false =>
    simp [hX3.st,smL_false hlt hltm hc,hXX]
  ·have hlt' : ¬ (i:Int) < (l.length:Int):=by omega
   have hs:=I.sm
   rw [List.take_of_length_le (by omega),List.take_of_length_le (by omega)] at hs
   simp [L73_0,f1,f2,f15,f16,f17,hst,hlt',hs,I.ext]
 ·have hn:((l.length:Int) != (m.length:Int))=true:=by simp;omega
  have hs:smL l m=false:=by
   cases h:smL l m with
   | false=>rfl
   | true=>exact absurd (smL_len h) hlm
  simp [hst0,h1,h2,h3,k1,k2,k3,hn,hs]
  exact Ext.refl hst0
structure JEqS (H0:Hp) (v u:V) (l m:List Tx) (i:Nat) (F:Fr) (H:Hp):Prop where
 ext:Ext noX H0 H
 sm:smL (l.take i) (m.take i)=true
 f1:F.get 1=some u
 f2:F.get 2=some (.fn (.func 49) [] [])
 f15:F.get 15=some v
 f16:F.get 16=some (.int .i64 l.length)
 f17:F.get 17=some (.int .i64 i)
theorem EqS_ok {l:List Tx} (hP:∀ p∈l,qS p):qLS l:=by
 intro m H0 v u K hok hst0 hA hB hK hb
 refine wf48 (wp_sound _ ?_)
 have h1:=SliceOf.len hA 30;have h2:=SliceOf.one hA;have h3:=SliceOf.cells hA
 have k1:=SliceOf.len hB 30;have k2:=SliceOf.one hB;have k3:=SliceOf.cells hB
 have hwl:=wts_len l
 by_cases hlm:l.length=m.length
 ·have hn:((l.length:Int) != (m.length:Int))=false:=by simp [hlm]
  simp [hst0,h1,h2,h3,k1,k2,k3,hn]
  refine loop_of (fun k F H=>∃ i,i+k=l.length/\JEqS H0 v u l m i F H) (m:=l.length) ⟨0,by omega,⟨Ext.refl hst0,by simp [smL],by simp,by simp,by simp,by simp,by simp⟩⟩ ?_
  rintro k F H ⟨i,hi,I⟩
  have hst:=I.ext.st
  have f1:=I.f1;have f2:=I.f2;have f15:=I.f15;have f16:=I.f16;have f17:=I.f17
  by_cases hlt:i < l.length
  ·have hlt' : (i:Int) < (l.length:Int):=by omega
   have hltm:i < m.length:=by omega
   have hltm' : (i:Int) < (m.length:Int):=by omega
   have hS0:Stays K K H0 H:=⟨fun b hb _=>hb,fun b hb hx=>I.ext.get b hx (fun h=>h),I.ext.le⟩
   obtain ⟨b,off,cap,e,ro,cells,d0,d1,d2,d3,d4,d5,rfl,g1,g2,g3,g4,g5,g6,g7,n0,n1,n2,n3,n4,n5⟩:=TreesAt.at_ (hA.mono hS0) hlt
   obtain ⟨b',off',cap',e',ro',cells',c0,c1,c2,c3,c4,c5,rfl,q1,q2,q3,q4,q5,q6,q7,m0,m1,m2,m3,m4,m5⟩:=TreesAt.at_ (hB.mono hS0) hltm
   have hw:wr .i64 ((i:Int)+1)=((i+1:Nat):Int):=by rw [wr_i64 (by omega) (by omega)];omega
   have hoff:off+i*6+6<=cells.length:=by omega
   have hoff' : off' + i*6+6<=cells'.length:=by omega
   have hb3:=old_ne q3
   simp [L48_0,f1,f2,f15,f16,f17,hst,hlt,hlt',hltm,hltm',g1,g4,g5,g6,hoff,q1,q4,q5,q6,hoff',hb3,n0,n1,n2,n3,n4,n5,m0,m1,m2,m3,m4,m5,Hp.get_new,Hp.get_put]
   have hX1:∀ o o' : Ob,Ext noX H ((H.new o).put H.next o'):=fun o o'=>⟨by simp [hst],by simp,fun b hb _=>by simp [Hp.get_new,Hp.get_put,old_ne hb]⟩
   have hX2:∀ o1 o2 o3 o4:Ob,Ext noX H ((((H.new o1).put H.next o2).new o3).put (H.next+1) o4):=fun o1 o2 o3 o4=>⟨by simp [hst],by simp;omega,fun b hb _=>by simp [Hp.get_new,Hp.get_put,old_ne hb]⟩
   have hS2:∀ o1 o2 o3 o4:Ob,Stays K K H ((((H.new o1).put H.next o2).new o3).put (H.next+1) o4):=fun o1 o2 o3 o4=>⟨fun b hb _=>hb,fun b hb hx=>(hX2 o1 o2 o3 o4).get b hx (fun h=>h),(hX2 o1 o2 o3 o4).le⟩
   have hwm:=wts_mem (List.getElem_mem hlt)
   have hIle:=I.ext.le
   refine (hP l[i] (List.getElem_mem hlt) m[i] _ _ _ K (soks_mem hok _ (List.getElem_mem hltm)) (by simp [hst]) (ExpAt.mono (hS2 _ _ _ _) _ _ g7) (ExpAt.mono (hS2 _ _ _ _) _ _ q7) (fun b hb=>by have:=hK b hb;simp;omega) (by omega)).mono ?_
   rintro w H3 ⟨rfl,hX3⟩
   have hXX:=I.ext.trans ((hX2 _ _ _ _).trans hX3)
   cases hc:smE l[i] m[i] with
   | true =>
    simp [hX3.st,f17,hw]
    exact ⟨k-1,by omega,i+1,by omega,hXX,by rw [smL_take hlt hltm,I.sm,hc];rfl,by simp [f1],by simp [f2],by simp [f15],by simp [f16],by simp⟩
   | false =>
    simp [hX3.st,smL_false hlt hltm hc,hXX]
  ·have hlt' : ¬ (i:Int) < (l.length:Int):=by omega
   have hs:=I.sm
   rw [List.take_of_length_le (by omega),List.take_of_length_le (by omega)] at hs
   simp [L48_0,f1,f2,f15,f16,f17,hst,hlt',hs,I.ext]
 ·have hn:((l.length:Int) != (m.length:Int))=true:=by simp;omega
  have hs:smL l m=false:=by
   cases h:smL l m with
   | false=>rfl
   | true=>exact absurd (smL_len h) hlm
  simp [hst0,h1,h2,h3,k1,k2,k3,hn,hs]
  exact Ext.refl hst0
def qB (l:List Tx):Prop:=∀ (m:List Tx) (H:Hp) (v u:V) (K:Nat->Prop),soks m->H.stale=[]->TreesAt K H l v->TreesAt K H m u->(∀ b,K b->b < H.next)->wts l<=1099511627776->WF tab 23 [v,u] H fun w H'=>w = .bool (smL l m)/\Ext noX H H'
theorem same_ok {l:List Tx} (h:qLS l):qB l:=by
 intro m H v u K hok hst hA hB hK hb
 refine wf23 (wp_sound _ ?_)
 have h2:=SliceOf.one hA;have h3:=SliceOf.cells hA
 have k2:=SliceOf.one hB;have k3:=SliceOf.cells hB
 simp [hst,h2,h3,k2,k3]
 refine (h m H v u K hok hst hA hB hK hb).mono ?_
 rintro w H2 ⟨rfl,hX⟩
 simp [hX.st,hX]
theorem alike_ok {kind:Nat} {name:List UInt8} {es bd el:List Tx} {at_:Int} (hE:qLE es) (hB:qB bd) (hC:qB el):qS (.st kind name es bd el at_):=by
 intro e' H cs cs' K hok hst hT hT' hK hb
 cases e' with
 | ex=>simp only [Tx.sok] at hok
 | st kind' name' es' bd' el' at' =>
 simp only [Tx.sok] at hok
 refine wf49 (wp_sound _ ?_)
 simp only [ExpAt] at hT hT'
 obtain ⟨ve,vb,vl,rfl,t1,t2,t3⟩:=hT
 obtain ⟨we,wb,wl,rfl,r1,r2,r3⟩:=hT'
 simp only [Tx.wt] at hb
 have n1:=t1.one;have n2:=t2.one;have n3:=t3.one
 have m1:=r1.one;have m2:=r2.one;have m3:=r3.one
 have hX2:∀ o1 o2:Ob,Ext noX H ((H.new o1).new o2):=fun o1 o2=>(Ext.new hst o1).trans (Ext.new (by simp [hst]) o2)
 have hS2:∀ o1 o2:Ob,Stays K K H ((H.new o1).new o2):=fun o1 o2=>⟨fun b hb _=>hb,fun b hb hx=>(hX2 o1 o2).get b hx (fun h=>h),(hX2 o1 o2).le⟩
 have keep:∀ (o1 o2:Ob) (H2:Hp),Ext noX ((H.new o1).new o2) H2->H2.get H.next=some o1/\H2.get (H.next+1)=some o2/\Ext noX H H2/\Stays K K H H2/\∀ b,K b->b < H2.next:=fun o1 o2 H2 h=>by
  have hX:=(hX2 o1 o2).trans h
  exact ⟨by rw [h.get H.next (by simp;omega) (fun h=>h)];simp [Hp.get_new],by rw [h.get (H.next+1) (by simp) (fun h=>h)];simp [Hp.get_new],hX,⟨fun b hb _=>hb,fun b hb hx=>hX.get b hx (fun h=>h),hX.le⟩,fun b hb=>by have:=hK b hb;have:=hX.le;omega⟩
 by_cases h1:kind=kind'
 ·subst h1
  by_cases h2:name=name'
  ·subst h2
   simp [hst,n1,n2,n3,m1,m2,m3,Hp.get_new]
   refine (hE es' _ ve we K hok.1 (by simp [hst]) (t1.mono (hS2 _ _) (ElsAt.mono (hS2 _ _) _)) (r1.mono (hS2 _ _) (ElsAt.mono (hS2 _ _) _)) (fun b hb=>by have:=hK b hb;simp;omega) (by omega)).mono ?_
   rintro w H3 ⟨rfl,hX3⟩
   obtain ⟨a1,a2,a3,a4,a5⟩:=keep _ _ H3 hX3
   cases c1:smL es es' with
   | false=>simp [a3.st,smE,c1,a3]
   | true =>
    simp [a3.st,a1,a2]
    refine (hB bd' H3 vb wb K hok.2.1 a3.st (t2.mono a4 (ElsAt.mono a4 _)) (r2.mono a4 (ElsAt.mono a4 _)) a5 (by omega)).mono ?_
    rintro w H4 ⟨rfl,hX4⟩
    obtain ⟨b1,b2,b3,b4,b5⟩:=keep _ _ H4 (hX3.trans hX4)
    cases c2:smL bd bd' with
    | false=>simp [b3.st,smE,c1,c2,b3]
    | true =>
     simp [b3.st,b1,b2]
     refine (hC el' H4 vl wl K hok.2.2 b3.st (t3.mono b4 (ElsAt.mono b4 _)) (r3.mono b4 (ElsAt.mono b4 _)) b5 (by omega)).mono ?_
     rintro w H5 ⟨rfl,hX5⟩
     simp [hX5.st,smE,c1,c2,b3.trans hX5]
  ·have h2' : (name==name')=false:=beq_false_of_ne h2
   simp [hst,n1,n2,n3,m1,m2,m3,h2',Hp.get_new]
   exact ⟨by simp [smE,h2'],hX2 _ _⟩
 ·have h1' : ((kind:Int)==(kind' : Int))=false:=beq_false_of_ne (by omega)
  have h1'' : (kind==kind')=false:=beq_false_of_ne h1
  simp [hst,n1,n2,n3,m1,m2,m3,h1',Hp.get_new]
  exact ⟨by simp [smE,h1''],hX2 _ _⟩
theorem sameE_ok {op:Nat} {num:Int} {text:List UInt8} {ps bd:List Tx} {qs:List (List UInt8)} (hE:qLE ps) (hB:qB bd):qE (.ex op num text ps qs bd):=by
 intro e' H cs cs' K hok hst hT hT' hK hb
 cases e' with
 | st=>simp only [Tx.eok] at hok
 | ex op' num' text' ps' qs' bd' =>
 simp only [Tx.eok] at hok
 refine wf74 (wp_sound _ ?_)
 simp only [ExpAt] at hT hT'
 obtain ⟨ve,vb,vl,rfl,t1,t2,t3⟩:=hT
 obtain ⟨we,wb,wl,rfl,r1,r2,r3⟩:=hT'
 simp only [Tx.wt] at hb
 have n1:=t1.one;have n2:=t2.one;have n3:=t3.one
 have m1:=r1.one;have m2:=r2.one;have m3:=r3.one
 have hX2:∀ o1 o2:Ob,Ext noX H ((H.new o1).new o2):=fun o1 o2=>(Ext.new hst o1).trans (Ext.new (by simp [hst]) o2)
 have hS2:∀ o1 o2:Ob,Stays K K H ((H.new o1).new o2):=fun o1 o2=>⟨fun b hb _=>hb,fun b hb hx=>(hX2 o1 o2).get b hx (fun h=>h),(hX2 o1 o2).le⟩
 have keep:∀ (o1 o2:Ob) (H2:Hp),Ext noX ((H.new o1).new o2) H2->H2.get H.next=some o1/\H2.get (H.next+1)=some o2/\Ext noX H H2/\Stays K K H H2/\∀ b,K b->b < H2.next:=fun o1 o2 H2 h=>by
  have hX:=(hX2 o1 o2).trans h
  exact ⟨by rw [h.get H.next (by simp;omega) (fun h=>h)];simp [Hp.get_new],by rw [h.get (H.next+1) (by simp) (fun h=>h)];simp [Hp.get_new],hX,⟨fun b hb _=>hb,fun b hb hx=>hX.get b hx (fun h=>h),hX.le⟩,fun b hb=>by have:=hK b hb;have:=hX.le;omega⟩
 by_cases h1:op=op'
 ·subst h1
  by_cases h2:num=num'
  ·subst h2
   by_cases h3:text=text'
   ·subst h3
    simp [hst,n1,n2,n3,m1,m2,m3,Hp.get_new]
    refine (hE ps' _ ve we K hok.1 (by simp [hst]) (t1.mono (hS2 _ _) (ElsAt.mono (hS2 _ _) _)) (r1.mono (hS2 _ _) (ElsAt.mono (hS2 _ _) _)) (fun b hb=>by have:=hK b hb;simp;omega) (by omega)).mono ?_
    rintro w H3 ⟨rfl,hX3⟩
    obtain ⟨a1,a2,a3,a4,a5⟩:=keep _ _ H3 hX3
    cases c1:smL ps ps' with
    | false=>simp [a3.st,smE,c1,a3]
    | true =>
     simp [a3.st,a1,a2]
     refine (eqT_ok (K:=K) a3.st (t2.mono a4 fun _ h=>h) (r2.mono a4 fun _ h=>h) (by omega)).mono ?_
     rintro w H4 ⟨rfl,rfl⟩
     cases c2:(qs==qs') with
     | false=>simp [a3.st,smE,c1,c2,a3]
     | true =>
      simp [a3.st,a1,a2]
      refine (hB bd' H4 vl wl K hok.2 a3.st (t3.mono a4 (ElsAt.mono a4 _)) (r3.mono a4 (ElsAt.mono a4 _)) a5 (by omega)).mono ?_
      rintro w H5 ⟨rfl,hX5⟩
      simp [hX5.st,smE,c1,c2,a3.trans hX5]
   ·have h3' : (text==text')=false:=beq_false_of_ne h3
    simp [hst,n1,n2,n3,m1,m2,m3,h3',Hp.get_new]
    exact ⟨by simp [smE,h3'],hX2 _ _⟩
  ·have h2' : (num==num')=false:=beq_false_of_ne h2
   simp [hst,n1,n2,n3,m1,m2,m3,h2',Hp.get_new]
   exact ⟨by simp [smE,h2'],hX2 _ _⟩
 ·have h1' : ((op:Int)==(op' : Int))=false:=beq_false_of_ne (by omega)
  have h1'' : (op==op')=false:=beq_false_of_ne h1
  simp [hst,n1,n2,n3,m1,m2,m3,h1',Hp.get_new]
  exact ⟨by simp [smE,h1''],hX2 _ _⟩
mutual
theorem qE_all:∀ t:Tx,t.eok->qE t
 | .ex op num text ps qs b,h=>by
  simp only [Tx.eok] at h
  exact sameE_ok (EqE_ok (qEs_all ps h.1)) (same_ok (EqS_ok (qSs_all b h.2)))
 | .st ..,h=>by simp only [Tx.eok] at h
theorem qEs_all:∀ l:List Tx,eoks l->∀ p∈l,qE p
 | [],_,p,hp=>by cases hp
 | x :: r,h,p,hp=>by
  simp only [eoks] at h
  have h1:=qE_all x h.1
  have h2:=qEs_all r h.2
  rcases List.mem_cons.1 hp with rfl | hp
  ·exact h1
  ·exact h2 p hp
theorem qS_all:∀ t:Tx,t.sok->qS t
 | .st kind name es b e a,h=>by
  simp only [Tx.sok] at h
  exact alike_ok (EqE_ok (qEs_all es h.1)) (same_ok (EqS_ok (qSs_all b h.2.1))) (same_ok (EqS_ok (qSs_all e h.2.2)))
 | .ex ..,h=>by simp only [Tx.sok] at h
theorem qSs_all:∀ l:List Tx,soks l->∀ p∈l,qS p
 | [],_,p,hp=>by cases hp
 | x :: r,h,p,hp=>by
  simp only [soks] at h
  have h1:=qS_all x h.1
  have h2:=qSs_all r h.2
  rcases List.mem_cons.1 hp with rfl | hp
  ·exact h1
  ·exact h2 p hp
end
theorem q_all {l:List Tx} (h:soks l):qB l:=same_ok (EqS_ok (qSs_all l h))
end Go.AM.YtlillgmgpmbfnaaGreatDoorT
set_option maxRecDepth 100000
namespace Go.AM.YtlillgmgpmbfnaaGreatDoorT
open Go Go.AM Go.Proofs
theorem if_leW {α:Type} {n k:Nat} {x y:α} (h:n<=k):(if n<=k then x else y)=x:=if_pos h
theorem parse_soks (s:Bs):soks (parseY s).l:=by
 unfold parseY
 split
 ·simp [soks]
 ·split
  ·rename_i h;exact mod_sok _ _ _ (by simp [soks]) _ _ h
  ·simp [soks]
  ·simp [soks]
end Go.AM.YtlillgmgpmbfnaaGreatDoorT
set_option maxRecDepth 100000
namespace Go.AM.YtlillgmgpmbfnaaGreatDoorT
open Go Go.AM Go.Proofs
def opTL:List Bs:=[[43],[45],[42],[61,61],[33,61],[60]]
def lvTL:List Nat:=[1,1,2,0,0,0]
def opT (i:Nat):Bs:=(opTL[i]?).getD []
def lvT (i:Nat):Nat:=(lvTL[i]?).getD 0
theorem opT_at:∀ k:Nat,k < 6->([.str [43],.str [45],.str [42],.str [61,61],.str [33,61],.str [60]]:List V)[k]? = some (.str (opT k)):=by
 intro k hk
 match k,hk with
 | 0,_ | 1,_ | 2,_ | 3,_ | 4,_ | 5,_=>rfl
theorem lvT_at:∀ k:Nat,k < 6->([.int .i64 1,.int .i64 1,.int .i64 2,.int .i64 0,.int .i64 0,.int .i64 0]:List V)[k]? = some (.int .i64 (lvT k)):=by
 intro k hk
 match k,hk with
 | 0,_ | 1,_ | 2,_ | 3,_ | 4,_ | 5,_=>rfl
theorem opT_get (k:Nat) (hk:k < 6) (h:k < ([.str [43],.str [45],.str [42],.str [61,61],.str [33,61],.str [60]]:List V).length):([.str [43],.str [45],.str [42],.str [61,61],.str [33,61],.str [60]]:List V)[k]'h = .str (opT k):=by
 have:=opT_at k hk;rw [List.getElem?_eq_getElem h] at this;exact Option.some.inj this
theorem lvT_get (k:Nat) (hk:k < 6) (h:k < ([.int .i64 1,.int .i64 1,.int .i64 2,.int .i64 0,.int .i64 0,.int .i64 0]:List V).length):([.int .i64 1,.int .i64 1,.int .i64 2,.int .i64 0,.int .i64 0,.int .i64 0]:List V)[k]'h = .int .i64 (lvT k):=by
 have:=lvT_at k hk;rw [List.getElem?_eq_getElem h] at this;exact Option.some.inj this
def lev1 (p q:Bs):Bs:=[97,32]++p++[32,98,32]++q++[32,99,59]
def lev2 (p q:Bs):Bs:=[40,97,32]++p++[32,98,41,32]++q++[32,99,59]
def lev3 (p q:Bs):Bs:=[97,32]++p++[32,40,98,32]++q++[32,99,41,59]
def lev23 (i k:Nat):Bs:=if lvT i < lvT k then lev3 (opT i) (opT k) else lev2 (opT i) (opT k)
def levC (i k:Nat):Bool:=if lvT i=0/\lvT k=0 then (parseY (lev1 (opT i) (opT k))).e==1&&(parseY (lev1 (opT i) (opT k))).at_==(opT i).length+5
 else (parseY (lev1 (opT i) (opT k))).e==0&&(parseY (lev23 i k)).e==0&&smL (parseY (lev1 (opT i) (opT k))).l (parseY (lev23 i k)).l&&Nat.ble (wts (parseY (lev1 (opT i) (opT k))).l) 1000
theorem levC_all:(List.range 6).all (fun i=>(List.range 6).all (levC i))=true:=by kernel_rfl
theorem lev_of {i k:Nat} (hi:i < 6) (hk:k < 6):levC i k=true:=List.all_eq_true.1 (List.all_eq_true.1 levC_all i (List.mem_range.2 hi)) k (List.mem_range.2 hk)
theorem opT_len (i:Nat):(opT i).length<=2:=by
 unfold opT
 match i with
 | 0 | 1 | 2 | 3 | 4 | 5=>decide
 | i+6=>simp [opTL]
theorem lvT_le (i:Nat):lvT i<=2:=by
 unfold lvT
 match i with
 | 0 | 1 | 2 | 3 | 4 | 5=>decide
 | i+6=>simp [lvTL]
theorem u8_mod (a:Nat):(a:Int).tmod 6=((a % 6:Nat):Int):=by rw [Int.tmod_eq_emod_of_nonneg (by omega)];omega
theorem levels_w {N:Nat} {H:Hp} (h6:WF tab 14 [] H fun v H'=>v = .bool true/\Ext noX H H') (hG:Gd H) (hL:LvG N H) (hN:N<=H.next) (a b:Nat):WF tab1 7 [.int .u8 a,.int .u8 b] H fun v _=>v = .bool true:=by
 refine wf7 (wp_sound _ ?_)
 have hst:=hG.st
 simp [hst]
 refine (awake7_ok h6 hG hL hN).mono ?_
 rintro v H1 ⟨rfl,X1⟩
 have st1:=X1.st
 have ha:=u8_mod a
 have hb:=u8_mod b
 have hi:a % 6 < 6:=Nat.mod_lt _ (by omega)
 have hk:b % 6 < 6:=Nat.mod_lt _ (by omega)
 generalize a % 6=i at *
 generalize b % 6=k at *
 have wi:wr .i64 (i:Int)=i:=by rw [wr_i64 (by omega) (by omega)]
 have wk:wr .i64 (k:Int)=k:=by rw [wr_i64 (by omega) (by omega)]
 have hi' : (i:Int) < 6:=by omega
 have hk' : (k:Int) < 6:=by omega
 have a1:=opT_get i hi;have a2:=opT_get k hk;have a3:=lvT_get i hi;have a4:=lvT_get k hk
 have b1:=opT_len i;have b2:=opT_len k;have b3:=lvT_le i;have b4:=lvT_le k
 have hc:=lev_of hi hk
 unfold levC lev23 at hc
 generalize opT i=p at *
 generalize opT k=q at *
 generalize lvT i=m at *
 generalize lvT k=n at *
 simp [st1,ha,hb,wi,wk,hi',hk',hi,hk,a1,a2,a3,a4,Hp.get_new]
 simp (disch:=first | omega | (simp only [List.length_append,List.length_cons,List.length_nil];omega)) only [if_leW]
 simp
 simp (disch:=first | omega | (simp only [List.length_append,List.length_cons,List.length_nil];omega)) only [if_leW]
 simp
 simp (disch:=first | omega | (simp only [List.length_append,List.length_cons,List.length_nil];omega)) only [if_leW]
 simp
 simp (disch:=first | omega | (simp only [List.length_append,List.length_cons,List.length_nil];omega)) only [if_leW]
 have X2:Ext noX H1 ((H1.new (.row 9 1 false [.str [43],.str [45],.str [42],.str [61,61],.str [33,61],.str [60]])).new (.row 3 1 false [.int .i64 1,.int .i64 1,.int .i64 2,.int .i64 0,.int .i64 0,.int .i64 0])):=(Ext.new (X:=noX) st1 _).trans (Ext.new (X:=noX) (by simp [st1]) _)
 have g1:((H1.new (.row 9 1 false [.str [43],.str [45],.str [42],.str [61,61],.str [33,61],.str [60]])).new (.row 3 1 false [.int .i64 1,.int .i64 1,.int .i64 2,.int .i64 0,.int .i64 0,.int .i64 0])).get H1.next=some (.row 9 1 false [.str [43],.str [45],.str [42],.str [61,61],.str [33,61],.str [60]]):=by simp [Hp.get_new]
 have g2:((H1.new (.row 9 1 false [.str [43],.str [45],.str [42],.str [61,61],.str [33,61],.str [60]])).new (.row 3 1 false [.int .i64 1,.int .i64 1,.int .i64 2,.int .i64 0,.int .i64 0,.int .i64 0])).get (H1.next+1)=some (.row 3 1 false [.int .i64 1,.int .i64 1,.int .i64 2,.int .i64 0,.int .i64 0,.int .i64 0]):=by simp [Hp.get_new]
 have n2:((H1.new (.row 9 1 false [.str [43],.str [45],.str [42],.str [61,61],.str [33,61],.str [60]])).new (.row 3 1 false [.int .i64 1,.int .i64 1,.int .i64 2,.int .i64 0,.int .i64 0,.int .i64 0])).next=H1.next+2:=rfl
 generalize (H1.new (.row 9 1 false [.str [43],.str [45],.str [42],.str [61,61],.str [33,61],.str [60]])).new (.row 3 1 false [.int .i64 1,.int .i64 1,.int .i64 2,.int .i64 0,.int .i64 0,.int .i64 0])=H2 at *
 have X2:=X1.trans X2
 have st2:=X2.st
 have G2:=hG.ext X2 (fun h=>h)
 have L2:=hL.ext hN X2
 have N2:N<=H2.next:=by have:=X2.le;omega
 have e1:(97 :: 32 :: (p++32 :: 98 :: 32 :: (q++[32,99,59])):Bs)=lev1 p q:=by simp [lev1]
 rw [e1]
 refine (parse_ok G2 L2 N2 _ (by rw [<- e1];simp;omega)).mono ?_
 rintro _ H3 ⟨v,rfl,hv,X3⟩
 have st3:=X3.st
 have g3:=(X3.get H1.next (by omega) (fun h=>h)).trans g1
 have g4:=(X3.get (H1.next+1) (by omega) (fun h=>h)).trans g2
 by_cases h0:m=0/\n=0
 ·obtain ⟨rfl,rfl⟩:=h0
  simp at hc
  simp [st2,st3,g3,g4,hi',hk',hi,hk,a1,a2,a3,a4,hc.1,hc.2]
  simp (disch:=first | omega | (simp only [List.length_append,List.length_cons,List.length_nil];omega)) only [if_leW]
  simp
  simp (disch:=first | omega | (simp only [List.length_append,List.length_cons,List.length_nil];omega)) only [if_leW]
  simp
  omega
 rw [if_neg h0] at hc
 have hcs:(m=0/\n≠0/\m < n)\/(m≠0/\m < n)\/(m≠0/\¬ m < n):=by omega
 simp only [Bool.and_eq_true,beq_iff_eq] at hc
 obtain ⟨⟨⟨c1,c2⟩,c3⟩,c4⟩:=hc
 replace c4:=Nat.le_of_ble_eq_true c4
 have XB:Ext noX H3 H3.bump:=⟨st3,Nat.le_succ _,fun _ _ _=>rfl⟩
 have G3:=(G2.ext X3 (fun h=>h)).bump
 have L3:=(L2.ext N2 X3).ext (by have:=X3.le;omega) XB
 have N3:N<=H3.bump.next:=by have:=X3.le;have:=XB.le;omega
 rcases hcs with ⟨z1,z2,z3⟩ | ⟨z1,z3⟩ | ⟨z1,z3⟩
 ·have q1:((m:Int)==0)=true:=by simp [z1]
  have q2:((n:Int)==0)=false:=beq_false_of_ne (by omega)
  have q3:(m:Int) < (n:Int):=by omega
  rw [if_pos z3] at c2 c3
  simp [st2,st3,g3,g4,hi',hk',hi,hk,a1,a2,a3,a4,q1,q2,q3]
  simp (disch:=first | omega | (simp only [List.length_append,List.length_cons,List.length_nil];omega)) only [if_leW]
  simp
  simp (disch:=first | omega | (simp only [List.length_append,List.length_cons,List.length_nil];omega)) only [if_leW]
  simp
  simp (disch:=first | omega | (simp only [List.length_append,List.length_cons,List.length_nil];omega)) only [if_leW]
  simp
  simp (disch:=first | omega | (simp only [List.length_append,List.length_cons,List.length_nil];omega)) only [if_leW]
  have e2:(97 :: 32 :: (p++32 :: 40 :: 98 :: 32 :: (q++[32,99,41,59])):Bs)=lev3 p q:=by simp [lev3]
  rw [e2]
  refine (parse_ok G3 L3 N3 _ (by rw [<- e2];simp;omega)).mono ?_
  rintro _ H4 ⟨u,rfl,hu,X4⟩
  rw [c1,c2]
  have st4:=X4.st
  simp [st4]
  refine (to1 (q_all (parse_soks _) _ _ _ _ (fun b=>b < H4.next) (parse_soks _) st4 (hv.mono ⟨fun b _ hl=>Nat.lt_of_lt_of_le hl (XB.trans X4).le,fun b hb hl=>(XB.trans X4).get b hl (fun h=>h),(XB.trans X4).le⟩) (hu.mono ⟨fun b hb hl=>hl,fun _ _ _=>rfl,Nat.le_refl _⟩) (fun _ h=>h) (by omega))).mono ?_
  rintro _ H5 ⟨rfl,X5⟩
  rw [c3]
  simp [X5.st]
 ·have q1:((m:Int)==0)=false:=beq_false_of_ne (by omega)
  have q2:(m:Int) < (n:Int):=by omega
  have q3:(m:Int) < (n:Int):=by omega
  rw [if_pos z3] at c2 c3
  simp [st2,st3,g3,g4,hi',hk',hi,hk,a1,a2,a3,a4,q1,q2,q3]
  simp (disch:=first | omega | (simp only [List.length_append,List.length_cons,List.length_nil];omega)) only [if_leW]
  simp
  simp (disch:=first | omega | (simp only [List.length_append,List.length_cons,List.length_nil];omega)) only [if_leW]
  simp
  simp (disch:=first | omega | (simp only [List.length_append,List.length_cons,List.length_nil];omega)) only [if_leW]
  simp
  simp (disch:=first | omega | (simp only [List.length_append,List.length_cons,List.length_nil];omega)) only [if_leW]
  have e2:(97 :: 32 :: (p++32 :: 40 :: 98 :: 32 :: (q++[32,99,41,59])):Bs)=lev3 p q:=by simp [lev3]
  rw [e2]
  refine (parse_ok G3 L3 N3 _ (by rw [<- e2];simp;omega)).mono ?_
  rintro _ H4 ⟨u,rfl,hu,X4⟩
  rw [c1,c2]
  have st4:=X4.st
  simp [st4]
  refine (to1 (q_all (parse_soks _) _ _ _ _ (fun b=>b < H4.next) (parse_soks _) st4 (hv.mono ⟨fun b _ hl=>Nat.lt_of_lt_of_le hl (XB.trans X4).le,fun b hb hl=>(XB.trans X4).get b hl (fun h=>h),(XB.trans X4).le⟩) (hu.mono ⟨fun b hb hl=>hl,fun _ _ _=>rfl,Nat.le_refl _⟩) (fun _ h=>h) (by omega))).mono ?_
  rintro _ H5 ⟨rfl,X5⟩
  rw [c3]
  simp [X5.st]
 ·have q1:((m:Int)==0)=false:=beq_false_of_ne (by omega)
  have q2:¬ (m:Int) < (n:Int):=by omega
  have q3:¬ (m:Int) < (n:Int):=by omega
  rw [if_neg z3] at c2 c3
  simp [st2,st3,g3,g4,hi',hk',hi,hk,a1,a2,a3,a4,q1,q2,q3]
  simp (disch:=first | omega | (simp only [List.length_append,List.length_cons,List.length_nil];omega)) only [if_leW]
  simp
  simp (disch:=first | omega | (simp only [List.length_append,List.length_cons,List.length_nil];omega)) only [if_leW]
  simp
  simp (disch:=first | omega | (simp only [List.length_append,List.length_cons,List.length_nil];omega)) only [if_leW]
  simp
  simp (disch:=first | omega | (simp only [List.length_append,List.length_cons,List.length_nil];omega)) only [if_leW]
  have e2:(40 :: 97 :: 32 :: (p++32 :: 98 :: 41 :: 32 :: (q++[32,99,59])):Bs)=lev2 p q:=by simp [lev2]
  rw [e2]
  refine (parse_ok G3 L3 N3 _ (by rw [<- e2];simp;omega)).mono ?_
  rintro _ H4 ⟨u,rfl,hu,X4⟩
  rw [c1,c2]
  have st4:=X4.st
  simp [st4]
  refine (to1 (q_all (parse_soks _) _ _ _ _ (fun b=>b < H4.next) (parse_soks _) st4 (hv.mono ⟨fun b _ hl=>Nat.lt_of_lt_of_le hl (XB.trans X4).le,fun b hb hl=>(XB.trans X4).get b hl (fun h=>h),(XB.trans X4).le⟩) (hu.mono ⟨fun b hb hl=>hl,fun _ _ _=>rfl,Nat.le_refl _⟩) (fun _ h=>h) (by omega))).mono ?_
  rintro _ H5 ⟨rfl,X5⟩
  rw [c3]
  simp [X5.st]
end Go.AM.YtlillgmgpmbfnaaGreatDoorT
set_option maxRecDepth 100000
namespace Go.Proofs.YtlillgmgpmbfnaaGreatDoor
open Go Go.ChangeShapes Go.WideShapes Go.ChangeAt Go.RowKit Go.AM
theorem own:ownKnob Tryz.prog.godebug=none:=by kernel_rfl
theorem laidOut:laidOutB Tryz.prog=true:=by kernel_rfl
def laid5 : List (String × DataW Unit) := [("math/bits.deBruijn32tab", Rows.laid_math_bits_deBruijn32tab), ("math/bits.deBruijn64tab", Rows.laid_math_bits_deBruijn64tab), ("internal/strconv.uint64pow10", Rows.laid_internal_strconv_uint64pow10), ("strconv.ErrRange", Rows.laid_strconv_ErrRange), ("strconv.ErrSyntax", Rows.laid_strconv_ErrSyntax)]
theorem g_range : Tryz.prog.globalNamed "strconv.ErrRange" = some 13 := by kernel_rfl
theorem t_range:(Tryz.prog.globals[13]?).map (·.type)=some 73:=by kernel_rfl
theorem t_pow:(Tryz.prog.globals[5]?).map (·.type)=some 199:=by kernel_rfl
theorem c136:Tryz.prog.cellsOf 136=1:=by kernel_rfl
theorem c199:Tryz.prog.cellsOf 199=20:=by kernel_rfl
theorem c259:Tryz.prog.cellsOf 259=1:=by kernel_rfl
theorem c9:Tryz.prog.cellsOf 9=1:=by kernel_rfl
theorem star : "*" ++ "errors.errorString" = "*errors.errorString" := by decide
theorem row257 (u : TypeId) (h : Tryz.prog.typeName? 3 u = some "*errors.errorString") : u = 257 :=
 typeName_ptr_named (nm := "errors.errorString") (by rw [star]; kernel_rfl) (by kernel_rfl) (by decide) u (by rw [star]; exact h)
theorem pow_data:(Rows.laid_internal_strconv_uint64pow10:DataW Unit)=Lib.tabData .u64 Lib.pow10Tab:=by kernel_rfl
structure Facts (W:World):Prop where
 init:YtlillgmgpmbfnaaGreatDoorT.tab.init W.heap.size W
 range:∃ (b o:Nat) (t:TypeId) (fz:Nat×Nat),W.heap[13]? = some (.cells #[.iface 257 (.pointer (some ⟨b,o,none⟩))] t fz)
theorem var_heap {W:World} {n:String} {g:Nat} {cs:Array Value} (hg:Tryz.prog.globalNamed n=some g) (h:W.var? Tryz.prog n=some cs):∃ t fz,W.heap[g]? = some (.cells cs t fz):=by
 simp only [World.var?,hg,Option.bind_some] at h
 split at h
 ·rename_i hh;cases h;exact ⟨_,_,hh⟩
 ·cases h
theorem facts_of {W:World} {r:List (String×DataW Unit)} (h:laidMet Tryz.prog (laid5++r) W):Facts W:=by
 have h1:=h.tail.tail
 refine ⟨⟨rfl,?_⟩,?_⟩
 ·have h1 : laidMet Tryz.prog (("internal/strconv.uint64pow10", Rows.laid_internal_strconv_uint64pow10) :: _) W := h1
  rw [pow_data] at h1
  exact Lib.tabIs_of_head (by kernel_rfl) t_pow Tryz.underlying199 Tryz.underlying136 c136 c199 h1
 ·have h2:=h1.tail
  obtain ⟨a,s,hv,hc,_,_⟩:=laid_sentinel (tp:=257) (te:=259) (ts:=9) h2 g_range t_range Tryz.underlying73 row257 Tryz.underlying257 Tryz.underlying259 rfl rfl Tryz.underlying9 c259 c9
  obtain ⟨t,fz,hh⟩:=var_heap g_range hv
  obtain ⟨b,o,sp⟩:=a
  cases sp with
  | none=>exact ⟨b,o,t,fz,hh⟩
  | some x =>
   unfold World.cell? at hc
   split at hc
   ·simp at hc
   ·cases hc
def sg (b o:Nat) (r:Nat->AM.Loc):Sg:=fun i=>if i=0 then ⟨0,0,18,1⟩ else if i < 14 then ⟨i,0,1,1⟩ else if i=14 then ⟨b,o,1,1⟩ else r (i-15)
end Go.Proofs.YtlillgmgpmbfnaaGreatDoor
set_option maxRecDepth 100000
namespace Go.Proofs.YtlillgmgpmbfnaaGreatDoor
open Go Go.ChangeShapes Go.WideShapes Go.ChangeAt Go.RowKit Go.AM
open Go.AM.YtlillgmgpmbfnaaGreatDoorT (tab tab1 okP1 Lev LevOk gl7 signsL e1 e2 e3 e4 e5 e6 mpO tab_ng errR simL)
abbrev LL:=List (String×DataW Unit)
def prs4 : LL := [("paling/tree.signs", Rows.laid_paling_tree_signs), ("paling/parse.reserved", Rows.laid_paling_parse_reserved), ("paling/parse.levels", Rows.laid_paling_parse_levels), ("paling/parse.simple", Rows.laid_paling_parse_simple)]
def laid7:LL:=laid5++prs4
theorem door7 (os:Os) (args:Array Value):laidMetH Tryz.prog laid7 ((World.doorLaid Tryz.prog 153 os).forCall (fun _ _=>0) ⟨#[],args,[]⟩).memory :=
 laidMetH_of_parts3 (fuel:=8) (laidMet_of_run' 8 (by kernel_rfl) (by kernel_rfl)) (by kernel_rfl) (by kernel_rfl)
theorem c7121:Tryz.prog.cellsOf 121=2:=by kernel_rfl
theorem c7205:Tryz.prog.cellsOf 205=1:=by kernel_rfl
theorem u79:Tryz.prog.underlying 9=some .string:=by kernel_rfl
theorem u732:Tryz.prog.underlying 32=some (.int .i64):=by kernel_rfl
theorem u7118:Tryz.prog.underlying 118=some (.array 12 9):=by kernel_rfl
theorem u777:Tryz.prog.underlying 77=some (.array 18 9):=by kernel_rfl
theorem u7122:Tryz.prog.underlying 122=some (.array 2 121):=by kernel_rfl
theorem u7205:Tryz.prog.underlying 205=some (.map 9 32):=by kernel_rfl
theorem u7206:Tryz.prog.underlying 206=some (.array 3 205):=by kernel_rfl
theorem u7121:∃ f0 f1:Field,Tryz.prog.underlying 121=some (.struct #[f0,f1])/\Tryz.prog.underlying f0.type=some .string/\Tryz.prog.cellsOf f0.type=1/\f0.offset=0/\Tryz.prog.underlying f1.type=some (.int .i64)/\Tryz.prog.cellsOf f1.type=1/\f1.offset=1 :=
 ⟨_,_,Tryz.underlying121,by kernel_rfl,by kernel_rfl,by kernel_rfl,by kernel_rfl,by kernel_rfl,by kernel_rfl⟩
def Strs (W:World) (g:Nat) (T:List (List UInt8)):Prop:=∃ C t fz,W.heap[g]? = some (.cells C t fz)/\C.size=T.length/\∀ (i:Nat) s,T[i]? = some s->C[i]? = some (.string ⟨s.toArray⟩)
theorem strs_at {W:World} {l:LL} {k g t n:Nat} {nm:String} {T:List (List UInt8)} {d:DataW Unit} (h:laidMet Tryz.prog l W) (hx:l[k]? = some (nm,d)) (hd:d = .agg (T.map fun s=>.lit (.string s))) (hg:Tryz.prog.globalNamed nm=some g) (ht:(Tryz.prog.globals[g]?).map (·.type)=some t)
  (hu:Tryz.prog.underlying t=some (.array n 9)) (hc:Tryz.prog.cellsOf t=T.length):Strs W g T:=by
 obtain ⟨C,ty,fz,f,p,h1,h2⟩:=laid_at h hx hg ht
 rw [hd] at h2
 obtain ⟨h3,h4⟩:=arr_strs hu u79 c9 h2
 exact ⟨C,ty,fz,h1,by rw [<- hc];simpa using h3,fun i s hi=>by simpa using h4 i s hi⟩
def simpleT:List (List UInt8×Int):=[([114,101,116,117,114,110],5),([116,104,114,111,119],6)]
def Prs (W:World):Prop:=∃ C t fz,W.heap[2]? = some (.cells C t fz)/\C.size=4/\∀ (i:Nat) v,simL[i]? = some v->∃ x,C[i]? = some x/\∀ D s,Rv D s v x
theorem prs_at {W:World} {l:LL} {k:Nat} {nm:String} {d:DataW Unit} (h:laidMet Tryz.prog l W) (hx:l[k]? = some (nm,d)) (hd:d = .agg (simpleT.map fun s=>.agg [.lit (.string s.1),.lit (.int .i64 s.2)])) (hg:Tryz.prog.globalNamed nm=some 2) (ht:(Tryz.prog.globals[2]?).map (·.type)=some 122) (hc:Tryz.prog.cellsOf 122=4):Prs W:=by
 obtain ⟨C,ty,fz,f,p,h1,h2⟩:=laid_at h hx hg ht
 rw [hd] at h2
 obtain ⟨f0,f1,a0,a1,a2,a3,a4,a5,a6⟩:=u7121
 obtain ⟨h3,h4⟩:=arr_pairs u7122 a0 c7121 a1 a2 a3 a4 a5 a6 h2
 refine ⟨C,ty,fz,h1,by rw [<- hc];simpa using h3,fun i v hi=>?_⟩
 have b0:=h4 0 _ rfl
 have b1:=h4 1 _ rfl
 simp at b0 b1
 match i,hi with
 | 0,hi=>cases hi;exact ⟨_,b0.1,fun D s=>.str _⟩
 | 1,hi=>cases hi;exact ⟨_,b0.2,fun D s=>.int _ _⟩
 | 2,hi=>cases hi;exact ⟨_,b1.1,fun D s=>.str _⟩
 | 3,hi=>cases hi;exact ⟨_,b1.2,fun D s=>.int _ _⟩
structure Lvs (W:World) (M:Lev) (x y z:Nat):Prop where
 ok:LevOk M
 row:∃ C t fz,W.heap[6]? = some (.cells C t fz)/\C.size=3/\C[0]? = some (.map (some x))/\C[1]? = some (.map (some y))/\C[2]? = some (.map (some z))
 a:∃ ents,W.heap[x]? = some (.map ents M.ca)/\∀ D s,EsOk D s M.a ents.toList
 b:∃ ents,W.heap[y]? = some (.map ents M.cb)/\∀ D s,EsOk D s M.b ents.toList
 c:∃ ents,W.heap[z]? = some (.map ents M.cc)/\∀ D s,EsOk D s M.c ents.toList
def D0:List (List UInt8×Int):=[([33,61],12),([60],13),([61,61],11)]
def D1:List (List UInt8×Int):=[([43],8),([45],9)]
def D2:List (List UInt8×Int):=[([42],10)]
theorem lvs_at {W:World} {l:LL} {k:Nat} {nm:String} {d:DataW Unit} (h:laidMet Tryz.prog l W) (hx:l[k]? = some (nm,d)) (hd:d = .agg [.map (D0.map fun x=>(.string x.1,.lit (.int .i64 x.2))),.map (D1.map fun x=>(.string x.1,.lit (.int .i64 x.2))),.map (D2.map fun x=>(.string x.1,.lit (.int .i64 x.2)))])
  (hg:Tryz.prog.globalNamed nm=some 6) (ht:(Tryz.prog.globals[6]?).map (·.type)=some 206) (hc:Tryz.prog.cellsOf 206=3):∃ M x y z,Lvs W M x y z:=by
 obtain ⟨C,ty,fz,f,p,h1,h2⟩:=laid_at h hx hg ht
 rw [hd] at h2
 obtain ⟨h3,_,h4⟩:=arr_open u7206 h2
 rw [hc] at h3
 obtain ⟨m0,q0,g0⟩:=h4 0 _ rfl
 obtain ⟨m1,q1,g1⟩:=h4 1 _ rfl
 obtain ⟨m2,q2,g2⟩:=h4 2 _ rfl
 rw [c7205] at g0 g1 g2
 obtain ⟨x,ca,en0,L0,a0,a1,a2,a3⟩:=map_ents u7205 u79 u732 g0
 obtain ⟨y,cb,en1,L1,b0,b1,b2,b3⟩:=map_ents u7205 u79 u732 g1
 obtain ⟨z,cc,en2,L2,c0,c1,c2,c3⟩:=map_ents u7205 u79 u732 g2
 have k0:=one_at a0
 have k1:=one_at b0
 have k2:=one_at c0
 refine ⟨⟨L0.map (Ent.es .i64),L1.map (Ent.es .i64),L2.map (Ent.es .i64),ca,cb,cc⟩,x,y,z,⟨?_,?_,?_⟩,⟨C,ty,fz,h1,by simpa using h3,by simpa using k0,by simpa using k1,by simpa using k2⟩,⟨en0,a1,fun D s=>a2 ▸ esOk_of D s _ L0⟩,⟨en1,b1,fun D s=>b2 ▸ esOk_of D s _ L1⟩,⟨en2,c1,fun D s=>c2 ▸ esOk_of D s _ L2⟩⟩
 ·have hl:=a3.length_eq
  match L0,a3,hl with
  | [p,q,r],a3,_ =>
   obtain ⟨p0,p1,p2⟩:=p
   obtain ⟨q0,q1,q2⟩:=q
   obtain ⟨r0,r1,r2⟩:=r
   have:=perm3 a3
   simp only [Prod.mk.injEq] at this
   rcases this with ⟨⟨rfl,rfl⟩,⟨rfl,rfl⟩,rfl,rfl⟩ | ⟨⟨rfl,rfl⟩,⟨rfl,rfl⟩,rfl,rfl⟩ | ⟨⟨rfl,rfl⟩,⟨rfl,rfl⟩,rfl,rfl⟩ | ⟨⟨rfl,rfl⟩,⟨rfl,rfl⟩,rfl,rfl⟩ | ⟨⟨rfl,rfl⟩,⟨rfl,rfl⟩,rfl,rfl⟩ | ⟨⟨rfl,rfl⟩,⟨rfl,rfl⟩,rfl,rfl⟩
   ·exact ⟨p2,q2,r2,.inl rfl⟩
   ·exact ⟨p2,r2,q2,.inr (.inl rfl)⟩
   ·exact ⟨q2,p2,r2,.inr (.inr (.inl rfl))⟩
   ·exact ⟨r2,p2,q2,.inr (.inr (.inr (.inl rfl)))⟩
   ·exact ⟨q2,r2,p2,.inr (.inr (.inr (.inr (.inl rfl))))⟩
   ·exact ⟨r2,q2,p2,.inr (.inr (.inr (.inr (.inr rfl))))⟩
 ·have hl:=b3.length_eq
  match L1,b3,hl with
  | [p,q],b3,_ =>
   obtain ⟨p0,p1,p2⟩:=p
   obtain ⟨q0,q1,q2⟩:=q
   have:=perm2 b3
   simp only [Prod.mk.injEq] at this
   rcases this with ⟨⟨rfl,rfl⟩,rfl,rfl⟩ | ⟨⟨rfl,rfl⟩,rfl,rfl⟩
   ·exact ⟨p2,q2,.inl rfl⟩
   ·exact ⟨q2,p2,.inr rfl⟩
 ·have hl:=c3.length_eq
  match L2,c3,hl with
  | [p],c3,_ =>
   obtain ⟨p0,p1,p2⟩:=p
   have:=c3.subset (List.mem_singleton.2 rfl)
   simp only [D2,List.mem_singleton,Prod.mk.injEq] at this
   obtain ⟨rfl,rfl⟩:=this
   exact ⟨p2,rfl⟩
def signsT7:List (List UInt8):=[[],[],[],[],[],[],[45],[33],[43],[45],[42],[61,61],[33,61],[60],[],[],[],[]]
structure Facts7 (W:World) (M:Lev) (x y z:Nat):Prop where
 init:tab1.init W.heap.size W
 range:∃ (b o:Nat) (t:TypeId) (fz:Nat×Nat),W.heap[13]? = some (.cells #[.iface 257 (.pointer (some ⟨b,o,none⟩))] t fz)
 signs:Strs W 0 signsT7
 res:Strs W 1 Go.AM.resL
 lvs:Lvs W M x y z
 simple:Prs W
theorem facts7_of {W:World} {r:LL} (h:laidMet Tryz.prog (laid5++(prs4++r)) W):∃ M x y z,Facts7 W M x y z:=by
 have hF:=facts_of h
 have g:∀ k x,prs4[k]? = some x->(laid5++(prs4++r))[k+5]? = some x:=fun k x hk=>by
  have h1:k < prs4.length:=(List.getElem?_eq_some_iff.1 hk).1
  rw [List.getElem?_append_right (show 5<=k+5 by omega),show k+5-laid5.length=k from Nat.add_sub_cancel k 5,List.getElem?_append_left h1];exact hk
 obtain ⟨M,x,y,z,hl⟩:=lvs_at h (g 2 _ rfl) rfl (by kernel_rfl) (by kernel_rfl) (by kernel_rfl)
 exact ⟨M,x,y,z,hF.init,hF.range,strs_at h (g 0 _ rfl) rfl (by kernel_rfl) (by kernel_rfl) u777 (by kernel_rfl),strs_at h (g 1 _ rfl) rfl (by kernel_rfl) (by kernel_rfl) u7118 (by kernel_rfl),hl,prs_at h (g 3 _ rfl) rfl (by kernel_rfl) (by kernel_rfl) (by kernel_rfl)⟩
theorem facts7 {W:World} (h:laidMetH Tryz.prog laid7 W):∃ M x y z,Facts7 W M x y z:=by
 rw [MakeChecks.laidMetH_plain _ _ _ (by kernel_rfl)] at h
 exact facts7_of (r:=[]) h
def szg7 (i:Nat):Nat:=if i=0 then 18 else if i=1 then 12 else if i=2 then 4 else if i=3 then 6 else if i=6 then 3 else 1
def sg7 (b o x y z:Nat) (r:Nat->AM.Loc):Sg:=fun i=>if i < 14 then ⟨i,0,szg7 i,1⟩ else if i=14 then ⟨b,o,1,1⟩ else if i=15 then ⟨x,0,0,0⟩ else if i=16 then ⟨y,0,0,0⟩ else if i=17 then ⟨z,0,0,0⟩ else r (i-18)
theorem glOk7 (b o x y z:Nat) (r:Nat->AM.Loc) {D:Nat->Prop} (hD:∀ i,i < 18->D i):GlOk tab1.ng D (sg7 b o x y z r):=fun g hg=>by
 have hg:g < tab.ng:=hg
 rw [tab_ng] at hg
 refine ⟨hD g (by omega),?_,?_⟩<;>unfold sg7<;>rw [if_pos hg]
theorem strs_row7 {W:World} {g:Nat} {T:List (List UInt8)} (h:Strs W g T) {D:Nat->Prop} {s:Sg} {e:TypeId} {n:Nat} (hn:T.length=n):RowAt D s W.heap.size W ⟨g,0,n,1⟩ e 1 true (T.map V.str):=by
 obtain ⟨C,t,fz,h1,h2,h3⟩:=h
 refine row_glob h1 (by omega) (by simp;omega) (List.all_eq_true.2 fun v hv=>by obtain ⟨s,_,rfl⟩:=List.mem_map.1 hv;rfl) fun i v hv=>?_
 rw [List.getElem?_map,Option.map_eq_some_iff] at hv
 obtain ⟨w,hw,rfl⟩:=hv
 exact ⟨_,h3 i w hw,.str _⟩
theorem in7 {W:World} {M:Lev} {b o x y z:Nat} {t:TypeId} {fz:Nat×Nat} (F:Facts7 W M x y z) (hr:W.heap[13]? = some (.cells #[.iface 257 (.pointer (some ⟨b,o,none⟩))] t fz)) {o3 o9:Option Ob} {r:Nat->AM.Loc} {l:List (Option Ob)} {D:Nat->Prop} (hD:∀ i,i < 18->D i) (h3:∀ ob,o3=some ob->InAt D (sg7 b o x y z r) W 3 ob) (h9:∀ ob,o9=some ob->InAt D (sg7 b o x y z r) W 9 ob)
  (hl:∀ (i:Nat) ob,l[i]? = some (some ob)->InAt D (sg7 b o x y z r) W (i+18) ob):∀ (i:Nat) ob,(gl7 o3 o9 M l)[i]? = some (some ob)->InAt D (sg7 b o x y z r) W i ob:=fun i ob hi=>by
 match i,hi with
 | 3,hi=>exact h3 ob (by simpa [gl7] using hi)
 | 9,hi=>exact h9 ob (by simpa [gl7] using hi)
 | 4,hi | 5,hi | 7,hi | 8,hi | 10,hi | 11,hi | 12,hi | 14,hi=>simp [gl7] at hi
 | 0,hi =>
  simp [gl7] at hi;subst hi
  exact ⟨rfl,strs_row7 F.signs rfl⟩
 | 1,hi =>
  simp [gl7] at hi;subst hi
  exact ⟨rfl,strs_row7 F.res rfl⟩
 | 2,hi =>
  simp [gl7] at hi;subst hi
  obtain ⟨C,t,fz,g1,g2,g3⟩:=F.simple
  exact ⟨rfl,row_glob g1 (by show 4<=_;omega) (by decide) rfl fun i v hv=>by obtain ⟨w,hw,hR⟩:=g3 i v hv;exact ⟨w,hw,hR _ _⟩⟩
 | 6,hi =>
  simp [gl7] at hi;subst hi
  obtain ⟨C,t,fz,g1,g2,g3,g4,g5⟩:=F.lvs.row
  refine ⟨rfl,row_glob g1 (by show 3<=_;omega) (by decide) rfl fun i v hv=>?_⟩
  match i,hv with
  | 0,hv=>cases hv;exact ⟨_,g3,Rv.mp (s:=sg7 b o x y z r) 15 (hD 15 (by omega))⟩
  | 1,hv=>cases hv;exact ⟨_,g4,Rv.mp (s:=sg7 b o x y z r) 16 (hD 16 (by omega))⟩
  | 2,hv=>cases hv;exact ⟨_,g5,Rv.mp (s:=sg7 b o x y z r) 17 (hD 17 (by omega))⟩
 | 13,hi =>
  simp [gl7,errR] at hi;subst hi
  refine ⟨rfl,row_glob hr (Nat.le_refl 1) (by decide) rfl fun i v hv=>?_⟩
  match i,hv with
  | 0,hv =>
   cases hv
   refine ⟨_,rfl,.ifc _ _ _ ?_⟩
   exact .ptr (s:=sg7 b o x y z r) 14 0 (hD 14 (by omega))
 | 15,hi =>
  simp [gl7,mpO] at hi;subst hi
  obtain ⟨en,g1,g2⟩:=F.lvs.a
  exact ⟨rfl,en,g1,g2 _ _⟩
 | 16,hi =>
  simp [gl7,mpO] at hi;subst hi
  obtain ⟨en,g1,g2⟩:=F.lvs.b
  exact ⟨rfl,en,g1,g2 _ _⟩
 | 17,hi =>
  simp [gl7,mpO] at hi;subst hi
  obtain ⟨en,g1,g2⟩:=F.lvs.c
  exact ⟨rfl,en,g1,g2 _ _⟩
 | i+18,hi=>exact hl i ob (by simpa [gl7] using hi)
theorem top7 {W:World} {M:Lev} {x y z:Nat} (F:Facts7 W M x y z) {o3 o9:Option Ob} {r:Nat->AM.Loc} {l:List (Option Ob)} {f:FuncId} {vs:List V} {args:Array Value}
  (h3:∀ b o,∀ ob,o3=some ob->InAt (dO (gl7 o3 o9 M l)) (sg7 b o x y z r) W 3 ob) (h9:∀ b o,∀ ob,o9=some ob->InAt (dO (gl7 o3 o9 M l)) (sg7 b o x y z r) W 9 ob)
  (hl:∀ b o,∀ (i:Nat) ob,l[i]? = some (some ob)->InAt (dO (gl7 o3 o9 M l)) (sg7 b o x y z r) W (i+18) ob) (hr:∀ b o,RvL (dO (gl7 o3 o9 M l)) (sg7 b o x y z r) vs args.toList)
  (h:WF tab1 f vs (hO (gl7 o3 o9 M l)) fun v _=>v = .bool true):Calls Tryz.prog f args W fun e w'=>e = .returned (.bool true)/\Below W.heap.size W w':=by
 obtain ⟨b,o,t,fz,hE⟩:=F.range
 have hD:∀ i,i < 18->dO (gl7 o3 o9 M l) i:=fun i hi=>by show i < _;simp [gl7];omega
 exact topO okP1 F.init (glOk7 b o x y z r hD) (in7 F hE hD (h3 b o) (h9 b o) (hl b o)) (hr b o) h
theorem no_in7 {D:Nat->Prop} {s:Sg} {W:World} {i:Nat}:∀ ob,(none:Option Ob)=some ob->InAt D s W i ob:=fun ob h=>by cases h
end Go.Proofs.YtlillgmgpmbfnaaGreatDoor
set_option maxRecDepth 100000
namespace Go.Proofs.YtlillgmgpmbfnaaGreatDoor
open Go Go.ChangeShapes Go.WideShapes Go.ChangeAt Go.RowKit Go.AM
open Go.AM.YtlillgmgpmbfnaaGreatDoorT (tab tab1 okP1 gl7 awake6_70 gd7 lvg7 levels_w mpO)
theorem parseLevels_walk {W:World} (hL:laidMetH Tryz.prog laid7 W) (n m:Nat):Calls Tryz.prog 7 #[.int .u8 (n:Int),.int .u8 (m:Int)] W fun e w'=>e = .returned (.bool true)/\Below W.heap.size W w':=by
 obtain ⟨M,x,y,z,F⟩:=facts7 hL
 refine top7 F (o3:=none) (o9:=none) (l:=[]) (r:=fun _=>⟨0,0,0,0⟩) (fun _ _=>no_in7) (fun _ _=>no_in7) (fun _ _ i ob h=>by simp at h) (vs:=[.int .u8 n,.int .u8 m]) (fun _ _=>.cons _ _ _ _ (.int _ _) (.cons _ _ _ _ (.int _ _) .nil)) ?_
 exact levels_w (N:=18) (awake6_70 none none (mpO M.a M.ca) (mpO M.b M.cb) (mpO M.c M.cc)) (gd7 M none none []) (lvg7 F.lvs.ok none none []) (by rw [hO_next];simp [gl7]) n m
end Go.Proofs.YtlillgmgpmbfnaaGreatDoor
