/- Parts of the abstract machine and of the walks over it, joined: what the law that is claimed here leans on. -/
import Derived.Test.YtlillgmgpmbfnaaGreatDoorAmG3
import Derived.Test.YtlillgmgpmbfnaaGreatDoorAmC3
set_option linter.unusedVariables false
set_option linter.unusedSimpArgs false
set_option linter.unnecessarySimpa false
set_option maxRecDepth 100000
namespace Go.Proofs.YtlillgmgpmbfnaaGreatDoor
open Go Go.ChangeShapes Go.WideShapes Go.ChangeAt Go.RowKit Go.AM
open Go.AM.YtlillgmgpmbfnaaGreatDoorT (tab tab1 okP1 Lev LevOk gl7 Zg0 e1 e2 e3 e4 e5 e6 mpO Zd8 errR simL)
abbrev LL:=List (String×DataW Unit)
def prs4 : LL := [("paling/tree.signs", Rows.laid_paling_tree_signs), ("paling/parse.reserved", Rows.laid_paling_parse_reserved), ("paling/parse.levels", Rows.laid_paling_parse_levels), ("paling/parse.simple", Rows.laid_paling_parse_simple)]
def Zff : LL := Zih ++ (prs4 ++ [("paling/scope.words", Rows.laid_paling_scope_words)])
theorem Yc2 (os:Os) (args:Array Value):laidMetH Tryz.prog Zff ((World.doorLaid Tryz.prog 153 os).forCall (fun _ _=>0) ⟨#[],args,[]⟩).memory :=
 laidMetH_of_parts3 (fuel:=8) (laidMet_of_run' 8 (by kernel_rfl) (by kernel_rfl)) (by kernel_rfl) (by kernel_rfl)
theorem Ydy:Tryz.prog.cellsOf 121=2:=by kernel_rfl
theorem Ycg:Tryz.prog.cellsOf 205=1:=by kernel_rfl
theorem u79:Tryz.prog.underlying 9=some .string:=by kernel_rfl
theorem u732:Tryz.prog.underlying 32=some (.int .i64):=by kernel_rfl
theorem Yeo:Tryz.prog.underlying 118=some (.array 12 9):=by kernel_rfl
theorem Ybf:Tryz.prog.underlying 140=some (.array 6 9):=by kernel_rfl
theorem u777:Tryz.prog.underlying 77=some (.array 18 9):=by kernel_rfl
theorem Z9f:Tryz.prog.underlying 122=some (.array 2 121):=by kernel_rfl
theorem Zo8:Tryz.prog.underlying 205=some (.map 9 32):=by kernel_rfl
theorem Yer:Tryz.prog.underlying 206=some (.array 3 205):=by kernel_rfl
theorem Yeh:∃ f0 f1:Field,Tryz.prog.underlying 121=some (.struct #[f0,f1])/\Tryz.prog.underlying f0.type=some .string/\Tryz.prog.cellsOf f0.type=1/\f0.offset=0/\Tryz.prog.underlying f1.type=some (.int .i64)/\Tryz.prog.cellsOf f1.type=1/\f1.offset=1 :=
 ⟨_,_,Tryz.underlying121,by kernel_rfl,by kernel_rfl,by kernel_rfl,by kernel_rfl,by kernel_rfl,by kernel_rfl⟩
def Strs (W:World) (g:Nat) (T:List (List UInt8)):Prop:=∃ C t fz,W.heap[g]? = some (.cells C t fz)/\C.size=T.length/\∀ (i:Nat) s,T[i]? = some s->C[i]? = some (.string ⟨s.toArray⟩)
theorem Zil {W:World} {l:LL} {k g t n:Nat} {nm:String} {T:List (List UInt8)} {d:DataW Unit} (h:laidMet Tryz.prog l W) (hx:l[k]? = some (nm,d)) (hd:d = .agg (T.map fun s=>.lit (.string s))) (hg:Tryz.prog.globalNamed nm=some g) (ht:(Tryz.prog.globals[g]?).map (·.type)=some t)
  (hu:Tryz.prog.underlying t=some (.array n 9)) (hc:Tryz.prog.cellsOf t=T.length):Strs W g T:=by
 obtain ⟨C,ty,fz,f,p,h1,h2⟩:=Zi3 h hx hg ht
 rw [hd] at h2
 obtain ⟨h3,h4⟩:=Zw8 hu u79 c9 h2
 exact ⟨C,ty,fz,h1,by rw [<- hc];simpa using h3,fun i s hi=>by simpa using h4 i s hi⟩
def Zzy:List (List UInt8×Int):=[([114,101,116,117,114,110],5),([116,104,114,111,119],6)]
def Prs (W:World):Prop:=∃ C t fz,W.heap[2]? = some (.cells C t fz)/\C.size=4/\∀ (i:Nat) v,simL[i]? = some v->∃ x,C[i]? = some x/\∀ D s,Rv D s v x
theorem Z3z {W:World} {l:LL} {k:Nat} {nm:String} {d:DataW Unit} (h:laidMet Tryz.prog l W) (hx:l[k]? = some (nm,d)) (hd:d = .agg (Zzy.map fun s=>.agg [.lit (.string s.1),.lit (.int .i64 s.2)])) (hg:Tryz.prog.globalNamed nm=some 2) (ht:(Tryz.prog.globals[2]?).map (·.type)=some 122) (hc:Tryz.prog.cellsOf 122=4):Prs W:=by
 obtain ⟨C,ty,fz,f,p,h1,h2⟩:=Zi3 h hx hg ht
 rw [hd] at h2
 obtain ⟨f0,f1,a0,a1,a2,a3,a4,a5,a6⟩:=Yeh
 obtain ⟨h3,h4⟩:=Zrc Z9f a0 Ydy a1 a2 a3 a4 a5 a6 h2
 refine ⟨C,ty,fz,h1,by rw [<- hc];simpa using h3,fun i v hi=>?_⟩
 have b0:=h4 0 _ rfl
 have b1:=h4 1 _ rfl
 simp at b0 b1
 match i,hi with
 | 0,hi=>cases hi;exact ⟨_,b0.1,fun D s=>.str _⟩
 | 1,hi=>cases hi;exact ⟨_,b0.2,fun D s=>.int _ _⟩
 | 2,hi=>cases hi;exact ⟨_,b1.1,fun D s=>.str _⟩
 | 3,hi=>cases hi;exact ⟨_,b1.2,fun D s=>.int _ _⟩
structure Lvs (W:World) (M:Lev) (x y z:Nat):Prop where
 ok:LevOk M
 row:∃ C t fz,W.heap[6]? = some (.cells C t fz)/\C.size=3/\C[0]? = some (.map (some x))/\C[1]? = some (.map (some y))/\C[2]? = some (.map (some z))
 a:∃ ents,W.heap[x]? = some (.map ents M.ca)/\∀ D s,EsOk D s M.a ents.toList
 b:∃ ents,W.heap[y]? = some (.map ents M.cb)/\∀ D s,EsOk D s M.b ents.toList
 c:∃ ents,W.heap[z]? = some (.map ents M.cc)/\∀ D s,EsOk D s M.c ents.toList
def D0:List (List UInt8×Int):=[([33,61],12),([60],13),([61,61],11)]
def D1:List (List UInt8×Int):=[([43],8),([45],9)]
def D2:List (List UInt8×Int):=[([42],10)]
theorem Z43 {W:World} {l:LL} {k:Nat} {nm:String} {d:DataW Unit} (h:laidMet Tryz.prog l W) (hx:l[k]? = some (nm,d)) (hd:d = .agg [.map (D0.map fun x=>(.string x.1,.lit (.int .i64 x.2))),.map (D1.map fun x=>(.string x.1,.lit (.int .i64 x.2))),.map (D2.map fun x=>(.string x.1,.lit (.int .i64 x.2)))])
  (hg:Tryz.prog.globalNamed nm=some 6) (ht:(Tryz.prog.globals[6]?).map (·.type)=some 206) (hc:Tryz.prog.cellsOf 206=3):∃ M x y z,Lvs W M x y z:=by
 obtain ⟨C,ty,fz,f,p,h1,h2⟩:=Zi3 h hx hg ht
 rw [hd] at h2
 obtain ⟨h3,_,h4⟩:=Zgq Yer h2
 rw [hc] at h3
 obtain ⟨m0,q0,g0⟩:=h4 0 _ rfl
 obtain ⟨m1,q1,g1⟩:=h4 1 _ rfl
 obtain ⟨m2,q2,g2⟩:=h4 2 _ rfl
 rw [Ycg] at g0 g1 g2
 obtain ⟨x,ca,en0,L0,a0,a1,a2,a3⟩:=Zgr Zo8 u79 u732 g0
 obtain ⟨y,cb,en1,L1,b0,b1,b2,b3⟩:=Zgr Zo8 u79 u732 g1
 obtain ⟨z,cc,en2,L2,c0,c1,c2,c3⟩:=Zgr Zo8 u79 u732 g2
 have k0:=one_at a0
 have k1:=one_at b0
 have k2:=one_at c0
 refine ⟨⟨L0.map (Ent.es .i64),L1.map (Ent.es .i64),L2.map (Ent.es .i64),ca,cb,cc⟩,x,y,z,⟨?_,?_,?_⟩,⟨C,ty,fz,h1,by simpa using h3,by simpa using k0,by simpa using k1,by simpa using k2⟩,⟨en0,a1,fun D s=>a2 ▸ Zfe D s _ L0⟩,⟨en1,b1,fun D s=>b2 ▸ Zfe D s _ L1⟩,⟨en2,c1,fun D s=>c2 ▸ Zfe D s _ L2⟩⟩
 ·have hl:=a3.length_eq
  match L0,a3,hl with
  | [p,q,r],a3,_ =>
   obtain ⟨p0,p1,p2⟩:=p
   obtain ⟨q0,q1,q2⟩:=q
   obtain ⟨r0,r1,r2⟩:=r
   have:=Ya6 a3
   simp only [Prod.mk.injEq] at this
   rcases this with ⟨⟨rfl,rfl⟩,⟨rfl,rfl⟩,rfl,rfl⟩ | ⟨⟨rfl,rfl⟩,⟨rfl,rfl⟩,rfl,rfl⟩ | ⟨⟨rfl,rfl⟩,⟨rfl,rfl⟩,rfl,rfl⟩ | ⟨⟨rfl,rfl⟩,⟨rfl,rfl⟩,rfl,rfl⟩ | ⟨⟨rfl,rfl⟩,⟨rfl,rfl⟩,rfl,rfl⟩ | ⟨⟨rfl,rfl⟩,⟨rfl,rfl⟩,rfl,rfl⟩
   ·exact ⟨p2,q2,r2,.inl rfl⟩
   ·exact ⟨p2,r2,q2,.inr (.inl rfl)⟩
   ·exact ⟨q2,p2,r2,.inr (.inr (.inl rfl))⟩
   ·exact ⟨r2,p2,q2,.inr (.inr (.inr (.inl rfl)))⟩
   ·exact ⟨q2,r2,p2,.inr (.inr (.inr (.inr (.inl rfl))))⟩
   ·exact ⟨r2,q2,p2,.inr (.inr (.inr (.inr (.inr rfl))))⟩
 ·have hl:=b3.length_eq
  match L1,b3,hl with
  | [p,q],b3,_ =>
   obtain ⟨p0,p1,p2⟩:=p
   obtain ⟨q0,q1,q2⟩:=q
   have:=Z9h b3
   simp only [Prod.mk.injEq] at this
   rcases this with ⟨⟨rfl,rfl⟩,rfl,rfl⟩ | ⟨⟨rfl,rfl⟩,rfl,rfl⟩
   ·exact ⟨p2,q2,.inl rfl⟩
   ·exact ⟨q2,p2,.inr rfl⟩
 ·have hl:=c3.length_eq
  match L2,c3,hl with
  | [p],c3,_ =>
   obtain ⟨p0,p1,p2⟩:=p
   have:=c3.subset (List.mem_singleton.2 rfl)
   simp only [D2,List.mem_singleton,Prod.mk.injEq] at this
   obtain ⟨rfl,rfl⟩:=this
   exact ⟨p2,rfl⟩
def Zzq:List (List UInt8):=[[],[],[],[],[],[],[45],[33],[43],[45],[42],[61,61],[33,61],[60],[],[],[],[]]
structure Facts7 (W:World) (M:Lev) (x y z:Nat):Prop where
 init:tab1.init W.heap.size W
 range:∃ (b o:Nat) (t:TypeId) (fz:Nat×Nat),W.heap[13]? = some (.cells #[.iface 257 (.pointer (some ⟨b,o,none⟩))] t fz)
 signs:Strs W 0 Zzq
 res:Strs W 1 Go.AM.resL
 lvs:Lvs W M x y z
 simple:Prs W
theorem Zr8 {W:World} {r:LL} (h:laidMet Tryz.prog (Zih++(prs4++r)) W):∃ M x y z,Facts7 W M x y z:=by
 have hF:=Zwo h
 have g:∀ k x,prs4[k]? = some x->(Zih++(prs4++r))[k+5]? = some x:=fun k x hk=>by
  have h1:k < prs4.length:=(List.getElem?_eq_some_iff.1 hk).1
  rw [List.getElem?_append_right (show 5<=k+5 by omega),show k+5-Zih.length=k from Nat.add_sub_cancel k 5,List.getElem?_append_left h1];exact hk
 obtain ⟨M,x,y,z,hl⟩:=Z43 h (g 2 _ rfl) rfl (by kernel_rfl) (by kernel_rfl) (by kernel_rfl)
 exact ⟨M,x,y,z,hF.init,hF.range,Zil h (g 0 _ rfl) rfl (by kernel_rfl) (by kernel_rfl) u777 (by kernel_rfl),Zil h (g 1 _ rfl) rfl (by kernel_rfl) (by kernel_rfl) Yeo (by kernel_rfl),hl,Z3z h (g 3 _ rfl) rfl (by kernel_rfl) (by kernel_rfl) (by kernel_rfl)⟩
def scopeT:List (List UInt8):=[[108,101,110],[102,114,101,101,122,101],[102,114,111,122,101,110],[98,114,97,110,100],[107,105,110,100],[116,101,120,116]]
theorem Z32 {W:World} (h:laidMetH Tryz.prog Zff W):(∃ M x y z,Facts7 W M x y z)/\Strs W 3 scopeT:=by
 rw [MakeChecks.laidMetH_plain _ _ _ (by kernel_rfl)] at h
 exact ⟨Zr8 h,Zil (k:=9) h rfl rfl (by kernel_rfl) (by kernel_rfl) Ybf (by kernel_rfl)⟩
def szg7 (i:Nat):Nat:=if i=0 then 18 else if i=1 then 12 else if i=2 then 4 else if i=3 then 6 else if i=6 then 3 else 1
def sg7 (b o x y z:Nat) (r:Nat->AM.Loc):Sg:=fun i=>if i < 14 then ⟨i,0,szg7 i,1⟩ else if i=14 then ⟨b,o,1,1⟩ else if i=15 then ⟨x,0,0,0⟩ else if i=16 then ⟨y,0,0,0⟩ else if i=17 then ⟨z,0,0,0⟩ else r (i-18)
theorem Z7b (b o x y z:Nat) (r:Nat->AM.Loc) {D:Nat->Prop} (hD:∀ i,i < 18->D i):GlOk tab1.ng D (sg7 b o x y z r):=fun g hg=>by
 have hg:g < tab.ng:=hg
 rw [Zd8] at hg
 refine ⟨hD g (by omega),?_,?_⟩<;>unfold sg7<;>rw [if_pos hg]
theorem Zew {W:World} {g:Nat} {T:List (List UInt8)} (h:Strs W g T) {D:Nat->Prop} {s:Sg} {e:TypeId} {n:Nat} (hn:T.length=n):RowAt D s W.heap.size W ⟨g,0,n,1⟩ e 1 true (T.map V.str):=by
 obtain ⟨C,t,fz,h1,h2,h3⟩:=h
 refine Zdq h1 (by omega) (by simp;omega) (List.all_eq_true.2 fun v hv=>by obtain ⟨s,_,rfl⟩:=List.mem_map.1 hv;rfl) fun i v hv=>?_
 rw [List.getElem?_map,Option.map_eq_some_iff] at hv
 obtain ⟨w,hw,rfl⟩:=hv
 exact ⟨_,h3 i w hw,.str _⟩
theorem in7 {W:World} {M:Lev} {b o x y z:Nat} {t:TypeId} {fz:Nat×Nat} (F:Facts7 W M x y z) (hr:W.heap[13]? = some (.cells #[.iface 257 (.pointer (some ⟨b,o,none⟩))] t fz)) {o3 o9:Option Ob} {r:Nat->AM.Loc} {l:List (Option Ob)} {D:Nat->Prop} (hD:∀ i,i < 18->D i) (h3:∀ ob,o3=some ob->InAt D (sg7 b o x y z r) W 3 ob) (h9:∀ ob,o9=some ob->InAt D (sg7 b o x y z r) W 9 ob)
  (hl:∀ (i:Nat) ob,l[i]? = some (some ob)->InAt D (sg7 b o x y z r) W (i+18) ob):∀ (i:Nat) ob,(gl7 o3 o9 M l)[i]? = some (some ob)->InAt D (sg7 b o x y z r) W i ob:=fun i ob hi=>by
 match i,hi with
 | 3,hi=>exact h3 ob (by simpa [gl7] using hi)
 | 9,hi=>exact h9 ob (by simpa [gl7] using hi)
 | 4,hi | 5,hi | 7,hi | 8,hi | 10,hi | 11,hi | 12,hi | 14,hi=>simp [gl7] at hi
 | 0,hi =>
  simp [gl7] at hi;subst hi
  exact ⟨rfl,Zew F.signs rfl⟩
 | 1,hi =>
  simp [gl7] at hi;subst hi
  exact ⟨rfl,Zew F.res rfl⟩
 | 2,hi =>
  simp [gl7] at hi;subst hi
  obtain ⟨C,t,fz,g1,g2,g3⟩:=F.simple
  exact ⟨rfl,Zdq g1 (by show 4<=_;omega) (by decide) rfl fun i v hv=>by obtain ⟨w,hw,hR⟩:=g3 i v hv;exact ⟨w,hw,hR _ _⟩⟩
 | 6,hi =>
  simp [gl7] at hi;subst hi
  obtain ⟨C,t,fz,g1,g2,g3,g4,g5⟩:=F.lvs.row
  refine ⟨rfl,Zdq g1 (by show 3<=_;omega) (by decide) rfl fun i v hv=>?_⟩
  match i,hv with
  | 0,hv=>cases hv;exact ⟨_,g3,Rv.mp (s:=sg7 b o x y z r) 15 (hD 15 (by omega))⟩
  | 1,hv=>cases hv;exact ⟨_,g4,Rv.mp (s:=sg7 b o x y z r) 16 (hD 16 (by omega))⟩
  | 2,hv=>cases hv;exact ⟨_,g5,Rv.mp (s:=sg7 b o x y z r) 17 (hD 17 (by omega))⟩
 | 13,hi =>
  simp [gl7,errR] at hi;subst hi
  refine ⟨rfl,Zdq hr (Nat.le_refl 1) (by decide) rfl fun i v hv=>?_⟩
  match i,hv with
  | 0,hv =>
   cases hv
   refine ⟨_,rfl,.ifc _ _ _ ?_⟩
   exact .ptr (s:=sg7 b o x y z r) 14 0 (hD 14 (by omega))
 | 15,hi =>
  simp [gl7,mpO] at hi;subst hi
  obtain ⟨en,g1,g2⟩:=F.lvs.a
  exact ⟨rfl,en,g1,g2 _ _⟩
 | 16,hi =>
  simp [gl7,mpO] at hi;subst hi
  obtain ⟨en,g1,g2⟩:=F.lvs.b
  exact ⟨rfl,en,g1,g2 _ _⟩
 | 17,hi =>
  simp [gl7,mpO] at hi;subst hi
  obtain ⟨en,g1,g2⟩:=F.lvs.c
  exact ⟨rfl,en,g1,g2 _ _⟩
 | i+18,hi=>exact hl i ob (by simpa [gl7] using hi)
theorem top7 {W:World} {M:Lev} {x y z:Nat} (F:Facts7 W M x y z) {o3 o9:Option Ob} {r:Nat->AM.Loc} {l:List (Option Ob)} {f:FuncId} {vs:List V} {args:Array Value}
  (h3:∀ b o,∀ ob,o3=some ob->InAt (dO (gl7 o3 o9 M l)) (sg7 b o x y z r) W 3 ob) (h9:∀ b o,∀ ob,o9=some ob->InAt (dO (gl7 o3 o9 M l)) (sg7 b o x y z r) W 9 ob)
  (hl:∀ b o,∀ (i:Nat) ob,l[i]? = some (some ob)->InAt (dO (gl7 o3 o9 M l)) (sg7 b o x y z r) W (i+18) ob) (hr:∀ b o,RvL (dO (gl7 o3 o9 M l)) (sg7 b o x y z r) vs args.toList)
  (h:WF tab1 f vs (hO (gl7 o3 o9 M l)) fun v _=>v = .bool true):Calls Tryz.prog f args W fun e w'=>e = .returned (.bool true)/\Below W.heap.size W w':=by
 obtain ⟨b,o,t,fz,hE⟩:=F.range
 have hD:∀ i,i < 18->dO (gl7 o3 o9 M l) i:=fun i hi=>by show i < _;simp [gl7];omega
 exact topO okP1 F.init (Z7b b o x y z r hD) (in7 F hE hD (h3 b o) (h9 b o) (hl b o)) (hr b o) h
theorem Z5c {D:Nat->Prop} {s:Sg} {W:World} {i:Nat}:∀ ob,(none:Option Ob)=some ob->InAt D s W i ob:=fun ob h=>by cases h
end Go.Proofs.YtlillgmgpmbfnaaGreatDoor
set_option maxRecDepth 100000
namespace Go.Proofs.YtlillgmgpmbfnaaGreatDoor
open Go Go.ChangeShapes Go.WideShapes Go.ChangeAt Go.RowKit Go.AM
open Go.AM.YtlillgmgpmbfnaaGreatDoorT (tab tab1 okP1 gl7 Zju gd7 lvg7 Zen mpO Zbb sixT sixO)
theorem Z37 {n:Int} (h:(Lit.int .u8 n).wf=true):∃ k:Nat,n=k/\k < 256:=by
 simp [Lit.wf,IntKind.min,IntKind.max,IntKind.signed,IntKind.bits] at h
 exact ⟨n.toNat,by omega,by omega⟩
theorem c5:Tryz.prog.cellsOf 5=1:=by kernel_rfl
theorem u60:Tryz.prog.underlying 60=some (.slice 5):=by kernel_rfl
theorem u5:Tryz.prog.underlying 5=some (.int .u8):=by kernel_rfl
theorem Zlj {α:Type} {P:Nat->α->Prop}:∀ (n:Nat),(∀ i,i < n->∃ x,P i x)->∃ l:List α,l.length=n/\∀ i x,l[i]? = some x->P i x
 | 0,_=>⟨[],rfl,fun i x h=>by simp at h⟩
 | n+1,h=>by
  obtain ⟨l,hl,hp⟩:=Zlj n fun i hi=>h i (by omega)
  obtain ⟨x,hx⟩:=h n (by omega)
  refine ⟨l++[x],by simp [hl],fun i y hy=>?_⟩
  by_cases hi:i < l.length
  ·rw [List.getElem?_append_left hi] at hy;exact hp i y hy
  ·rw [List.getElem?_append_right (by omega)] at hy
   have:i=l.length:=by
    have:=(List.getElem?_eq_some_iff.1 hy).1
    simp at this;omega
   subst this
   simp at hy
   subst hy
   rw [hl];exact hx
theorem Zu5 {H:Type} {enc:TypeId×Value->H} {P:Program} {W:World} {base:Nat} {held:Bool} {f:Nat} {t e:TypeId} {a:Addr} {len cap:Nat} {x:DataW H×List MemPlace} (ht:P.underlying t=some (.slice e)) (h:DataW.trod enc P W base (fun _=>true) held f t [.slice (some a) len cap]=some x):len<=9223372036854775807:=by
 rcases DataW.trod_slice ht h with ⟨hcs,_⟩ | ⟨a',len',cap',elems,rest,n,_,hcs,hx,_,hlc,hcm,hlen,hel,hsp,_⟩
 ·simp at hcs
 ·simp only [List.cons.injEq,and_true,Value.slice.injEq] at hcs
  obtain ⟨_,rfl,rfl⟩:=hcs
  exact Nat.le_trans hlc hcm
theorem Z53 (k:Nat) {H:Type} {enc:TypeId×Value->H} {W:World} {f:Nat} {v:Value} {x:DataW H×List MemPlace} (h:DataW.trod enc Tryz.prog W 0 (fun _=>true) true f 60 [v]=some x) :
  ∃ (xv:V) (ps:List Nat) (L:AM.Loc) (o:Option Ob),(∀ n∈ps,n < 256)/\ps.length<=9223372036854775807/\(∀ (D:Nat->Prop) (s:Sg),D k->s k=L->Rv D s xv v/\∀ ob,o=some ob->InAt D s W k ob)/\∀ Hp:Hp,k < Hp.next->Hp.get k=o->Zbb Hp xv ps:=by
 rcases Zv8 u60 c5 (by omega) h with rfl | ⟨a,cap,rfl⟩ | ⟨b,off,len,cap,rfl,h1,h2,h3,h4⟩
 ·exact ⟨.nils,[],⟨0,0,0,0⟩,none,(fun x h=>by cases h),by simp,fun D s _ _=>⟨.nils,fun ob h=>by cases h⟩,fun Hp _ _=>.inl ⟨.inl rfl,rfl⟩⟩
 ·exact ⟨.sle,[],⟨0,0,0,0⟩,none,(fun x h=>by cases h),by simp,fun D s _ _=>⟨.sle _ _,fun ob h=>by cases h⟩,fun Hp _ _=>.inl ⟨.inr rfl,rfl⟩⟩
 ·have hmx:=Zu5 u60 h
  have hel:∀ i,i < len->∃ y:Nat,y < 256/\W.cell? ⟨b,off+i,none⟩=some (.int .u8 y):=fun i hi=>by
   obtain ⟨cs,m,y,g1,g2,g3⟩:=h4 i hi
   match cs,g1 with
   | [c0],_ =>
    obtain ⟨o,rfl,ho⟩:=Zu7 u5 g3
    obtain ⟨on,rfl,hon⟩:=Z37 ho
    have:=g2 0 (by omega)
    simp at this
    exact ⟨on,hon,this⟩
  obtain ⟨Ls,hl,hP⟩:=Zlj len hel
  subst hl
  refine ⟨.sl k 0 Ls.length none 1,Ls,⟨b,off,cap,1⟩,some (.row 5 1 true (Ls.map fun n=>.int .u8 (n:Nat))),fun x hx=>?_,hmx,fun D s hD hs=>⟨?_,fun ob ho=>?_⟩,fun Hp hk hg=>.inr ⟨k,5,rfl,hk,hg⟩⟩
  ·obtain ⟨i,hi⟩:=List.getElem?_of_mem hx
   exact (hP i x hi).1
  ·have:=Rv.sln (D:=D) (s:=s) k 0 Ls.length 1 hD (by rw [hs]) (by omega) (by simp) (by rw [hs];simpa using h2)
   rw [hs] at this
   simpa using this
  ·cases ho
   refine ⟨rfl,?_⟩
   rw [hs]
   refine Zqt (by omega) h3 (by simp;omega) (List.all_eq_true.2 fun v hv=>?_) fun i v hv=>?_
   ·obtain ⟨y,_,rfl⟩:=List.mem_map.1 hv
    rfl
   ·rw [List.getElem?_map,Option.map_eq_some_iff] at hv
    obtain ⟨y,hy,rfl⟩:=hv
    exact ⟨_,(hP i y hy).2,.int _ _⟩
theorem Z45 {W:World} (h:Strs W 3 scopeT) {D:Nat->Prop} {b o x y z:Nat} {r:Nat->AM.Loc}:∀ ob,some sixO=some ob->InAt D (sg7 b o x y z r) W 3 ob:=fun ob e=>by
 cases e
 exact ⟨rfl,Zew h rfl⟩
theorem Zgx {W:World} (hL:laidMetH Tryz.prog Zff W) {H:Type} {enc:TypeId×Value->H} {v:Value} {d:DataW H} {p:List MemPlace} (h:DataW.Trod enc Tryz.prog W 0 (fun _=>true) true 60 v d p) (hc:v.cells = #[v]) (s:ByteArray):Calls Tryz.prog 13 #[v,.string s] W fun e w'=>e = .returned (.bool true)/\Below W.heap.size W w':=by
 obtain ⟨f,hf⟩:=h
 rw [hc] at hf
 obtain ⟨xa,ps,La,oa,hp8,hpl,ra,hia⟩:=Z53 18 hf
 obtain ⟨⟨M,x,y,z,F⟩,hsc⟩:=Z32 hL
 have hra:=fun b o=>ra (dO (gl7 (some sixO) none M [oa])) (sg7 b o x y z fun _=>La) (show 18 < 19 by omega) rfl
 refine top7 F (o3:=some sixO) (o9:=none) (l:=[oa]) (r:=fun _=>La) (fun _ _=>Z45 hsc) (fun _ _=>Z5c) (fun b o i ob hi=>?_) (vs:=[xa,.str s.data.toList]) (fun b o=>.cons _ _ _ _ (hra b o).1 (.cons _ _ _ _ (Z6a _ _ s) .nil)) ?_
 ·match i,hi with
  | 0,hi=>exact (hra b o).2 ob (by simpa using hi)
  | i+1,hi=>simp at hi
 ·exact Zen (N:=18) (Zju (some sixO) none (mpO M.a M.ca) (mpO M.b M.cb) (mpO M.c M.cc) oa) (gd7 M _ none _) (lvg7 F.lvs.ok _ none _) (by rw [Zci];simp [gl7]) (by rw [Ub];rfl) (by decide) (hia _ (by rw [Zci];simp [gl7]) (by rw [Ub];cases oa<;>rfl)) hp8 hpl _
end Go.Proofs.YtlillgmgpmbfnaaGreatDoor
