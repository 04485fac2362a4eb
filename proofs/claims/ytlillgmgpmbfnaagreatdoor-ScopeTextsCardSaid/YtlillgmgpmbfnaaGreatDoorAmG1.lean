/- Parts of the abstract machine and of the walks over it, joined: what the law that is claimed here leans on. -/
import Derived.Test.YtlillgmgpmbfnaaGreatDoorAmX
import Derived.Test.YtlillgmgpmbfnaaGreatDoorAmC3
import Derived.Recover
import Derived.Tactics
import Derived.Shelf.Abstract
import Derived.Test.YtlillgmgpmbfnaaGreatDoorAmC4
import Derived.Lib.Bytealg
set_option linter.unusedVariables false
set_option linter.unusedSimpArgs false
set_option linter.unnecessarySimpa false
namespace Go.AM.YtlillgmgpmbfnaaGreatDoorT
open Go Go.AM Go.Proofs
set_option maxRecDepth 100000
abbrev Zzm:List SOp:=[(some 2,.alloc 24,none),
 (some 3,.alloc 3,none),
 (some 4,.alloc 47,none)]
abbrev Zy3:List SOp:=[(some 8,.move (.tmp 0),none),
 (some 9,.call ⟨.value (.func 51),#[(.tmp 8)],#[9]⟩,none),
 (some 7,.move (.tmp 9),none),
 (some 10,.extract (.tmp 7) 0,none),
 (some 11,.extract (.tmp 7) 1,none),
 (some 12,.extract (.tmp 7) 2,none),
 (some 5,.assign (.tmp 10),none),
 (none,.store 3 (.tmp 3) (.tmp 11),none),
 (none,.store 47 (.tmp 4) (.tmp 12),none)]
abbrev Zq4:List SOp:=[(some 13,.load 47 (.tmp 4),none),
 (some 14,.binOp .neq 47 (.tmp 13) (.const (.int .i64 0)) 47,none)]
abbrev Zqk:List (SOp×Nat):=[((none,.store 24 (.tmp 2) (.const (.slice none 0 0)),none),0),
 ((some 15,.load 3 (.tmp 3),none),1),
 ((none,.store 3 (.tmp 3) (.tmp 15),none),0),
 ((some 16,.load 47 (.tmp 4),none),2),
 ((none,.store 47 (.tmp 4) (.tmp 16),none),0)]
abbrev Zy2:List SOp:=[(some 17,.makeFunc (.func 52) #[] #[(.tmp 2),(.tmp 3),(.tmp 4)],none),
 (none,.defer ⟨.value (.tmp 17),#[],#[]⟩,none)]
abbrev Zyo:List SOp:=[(some 18,.move (.tmp 5),none),
 (some 19,.build 92 #[(0,(.tmp 18))],none),
 (some 20,.box 92 (.tmp 19),none),
 (some 6,.assign (.tmp 20),none)]
abbrev Ye9:List SOp:=[(some 21,.move (.tmp 6),none),
 (some 22,.nilCheck (.tmp 21),none),
 (some 23,.fieldAddr 92 (.tmp 22) 0,none),
 (some 24,.load 84 (.tmp 23),none),
 (some 25,.indexAddr 84 (.tmp 24) (.const (.int .i64 0)),none),
 (some 26,.fieldAddr 95 (.tmp 25) 0,none),
 (some 27,.load 93 (.tmp 26),none),
 (some 28,.binOp .neq 93 (.tmp 27) (.const (.int .i64 0)) 93,none)]
abbrev Yc4:List (SOp×Nat):=[((some 30,.move (.tmp 6),none),0),
 ((some 31,.call ⟨.value (.func 53),#[(.tmp 30)],#[90]⟩,none),0),
 ((some 29,.load 24 (.tmp 2),none),1),
 ((some 32,.call ⟨.builtin .len,#[(.tmp 29)],#[24]⟩,none),1),
 ((some 33,.buildSlice 24 1 #[(0,(.const (.agg #[.int .i64 0,.string ⟨#[]⟩,.slice none 0 0,.slice none 0 0,.slice none 0 0,.int .i64 0])))],none),1),
 ((some 34,.call ⟨.builtin .append,#[(.tmp 29),(.tmp 33)],#[24,24]⟩,none),0),
 ((some 35,.indexAddr 24 (.tmp 34) (.tmp 32),none),9),
 ((none,.store 30 (.tmp 35) (.tmp 31),none),0),
 ((none,.store 24 (.tmp 2) (.tmp 34),none),0)]
def Zio:SCode:=.seq (.seq (.reg Ye9) (.cond (.tmp 28) (.skip) (.exit 0))) (.block 1 (.areg Yc4 2 35))
abbrev Zzc:List SOp:=[(some 36,.load 24 (.tmp 2),none),
 (none,.store 24 (.tmp 2) (.tmp 36),none),
 (none,.store 3 (.tmp 3) (.const (.int .i64 0)),none),
 (none,.store 47 (.tmp 4) (.const (.int .i64 0)),none)]
abbrev Zy4:List SOp:=[(some 7,.move (.tmp 3),none),
 (some 8,.binOp .neq 20 (.tmp 7) (.const (.nilIface)) 20,none)]
abbrev Zza:List SOp:=[(some 10,.move (.tmp 3),none),
 (some 11,.typeAssert (.tmp 10) 20 88 true,none),
 (some 9,.move (.tmp 11),none),
 (some 12,.extract (.tmp 9) 0,none),
 (some 13,.extract (.tmp 9) 1,none),
 (some 4,.alloc 88,none),
 (none,.store 88 (.tmp 4) (.tmp 12),none),
 (some 5,.assign (.tmp 13),none)]
abbrev Zyv:List SOp:=[(some 14,.move (.tmp 5),none),
 (some 15,.unOp .not 4 (.tmp 14),none)]
abbrev Zyp:List SOp:=[(some 16,.move (.tmp 3),none),
 (none,.panic (.tmp 16),none)]
abbrev Zz9:List (SOp×Nat):=[((none,.store 24 (.tmp 0) (.const (.slice none 0 0)),none),0),
 ((some 17,.fieldAddr 88 (.tmp 4) 0,none),1),
 ((some 18,.load 3 (.tmp 17),none),1),
 ((none,.store 3 (.tmp 1) (.tmp 18),none),0),
 ((some 19,.fieldAddr 88 (.tmp 4) 1,none),2),
 ((some 20,.load 47 (.tmp 19),none),2),
 ((none,.store 47 (.tmp 2) (.tmp 20),none),0)]
end Go.AM.YtlillgmgpmbfnaaGreatDoorT
namespace Go.AM.YtlillgmgpmbfnaaGreatDoorT
open Go Go.AM
attribute [simp] wp_skip Ztb Zp8 Zpt Zzx wp_seq Zpj Zai Zjw Zjo Zm2 Zpr Zg9 Zp2 Zg7 Zt5 Zpw Zt1 Zy7 Zte Zt8 Zf5 Zpq Znh Zuc Zpn Zux Zu8 Zvy rsQ Zq6 Zqm kV kAW kA kW kC kCo Zi6 oq_p oq_r oq_w oq_c Zoc Zu9 Zyy Zyw Zzt Zz3 dV dAW dA dW dC dCo Jg skD od_p od_r od_w od_c Zoe Zvl Zy0 Z0a Zzi Zzr Zdp Yb kind Zdg Zp6 Zkl Zn4 Zob evP evR evA evW evAW Zb frame opd opds Tr.get_set putD delD W6 W5 kbOk Xc isPt Xg Zin Zbc Zdc J6 J1 Zod Zmg Znl Zn1 Ze6 Zfo Zep Zem Zgs Zgr Zgo Zgq Zgv Zgk Zgt Zgm Uf Wy Za7 Zf4 Zdx isC Zke Ziy Zno Zka Zds Zk9 Zc8 Zhz Zn7 Zkd Zpb Zef Zgx Ze1 Zjs Zdw Zh2 Ziu Zml Zmp Zud Zir Znr Znn Ztp Zip Zl1 Zla Zph isAgg Zfl optI Ua Zf8 V8 Wd Ji Wk eqS Um Wh V5 esOf Vx U9 U3 Yg Vf Hp.get_flush Hp.stale_flush Hp.next_flush repl List.nil_append Ya Zd Zl3 Zj9 Zm3 Zdj Zpd Hp.next_new Hp.next_put Zmv IntKind.bits Zfd nna1 nnb1 nna2 nnb2 nna3 nnb3 nna4 nnb4 nna5 nnb5 nna6 nnb6 nna7 nnb7 nna8 nnb8
attribute [simp] ty1 ty2 ty3 ty4 ty5 ty6 ty7 ty8 ty9 ty10 ty11 ty12 ty13 ty14 ty15 ty16 ty17 ty18 ty19 ty20 ty21 ty22 ty23 ty24 ty25 ty26 ty27 ty28 ty29 ty30 ty31 ty32 ty33 ty34 ty35 ty36 ty37 ty38 ty39 ty40 ty41 ty42 ty43 ty44 ty45 ty46 ty47 ty49 ty50 ty51 ty52 ty53 ty54 ty55 ty56 ty57 ty58 ty59 ty60 ty61 ty62 ty63 ty64 ty65 ty66 ty67 ty68 ty69 ty70 ty71 ty72 ty73 ty75 ty76 ty77 ty78 ty79 ty80 ty81 ty82 ty84 ty88 ty90 ty91 ty92 ty93 ty94 ty95 ty96 ty97 ty98 ty99 Z9z Yai Ygm Z9l Yh0 Z8u Z9f Yfs Ygd Z93 Yhj Ybh Ybe Yfn Z80 Ydd Yem Z8x Yhr Yaf Ygc Ybf Yg2 Z8z Yee Z9e Yce Yb5 Yf9 Yep Ybx Yd5 Yg0 Ygl Yak Yff Yde Yda Yhi Yd9 Z8j Ydq Yfl Yef Ydz Ycy Yd8 Ygq Yhw Ye3 Yf7 Yew Ye5 Z90 Ycn Yfv Ygp Yf6 Yhq Yhz Yao Z9s Ydm Yct Ygf Ygy Yfc Yex Z99 Yc8 Ya9 Yhh Z9o Yau Ybo Yek Z96 Yco Z8i Yel Ybl Ycr Ya5 Yeh
attribute [simp] Zwt Z3c Zyf Zwr Zaf Zxe Zbm Zyd Zx2 Z2c Zwe Zki Zxh Zkg Z1i Zyh Z0r Zx8 Zve Zvb Zuv kVP kAWP kAP kWP kCP kCoP Zh4 Z92 Ydw Yaz Ybb Zv2 Z0i Z6v Z4o Z3w Z4y Z3i panQ dVP dAWP dAP dWP dCP dCoP skDP Yht Yd6 Yfb Yfm Zty Z1s Z6y Z48 Z5f Z7p Zdr J9 Z0w Zx3 Zrk Zqu opR rV rA Zb0 grdS addD Op.operands Call.operands Hp.get_upto Hp.next_upto Hp.stale_upto
end Go.AM.YtlillgmgpmbfnaaGreatDoorT
set_option maxRecDepth 100000
namespace Go.AM.YtlillgmgpmbfnaaGreatDoorT
open Go Go.AM Go.Proofs Go.Shelf
def cL:Code->Code | .seq a _=>a | c=>c
def cR:Code->Code | .seq _ b=>b | c=>c
noncomputable def bP:Code:=Tryz.f26.body.getD .skip
noncomputable def p0:Code:=cL bP
noncomputable def p1:Code:=cL (cR bP)
noncomputable def p2:Code:=cL (cR (cR bP))
noncomputable def p3:Code:=cL (cR (cR (cR bP)))
noncomputable def p4:Code:=cR (cR (cR (cR bP)))
theorem Jo:Tryz.f26.body=some (.seq p0 (.seq p1 (.seq p2 (.seq p3 p4)))):=by kernel_rfl
noncomputable def bC:Code:=Tryz.f52.body.getD .skip
noncomputable def q0:Code:=cL bC
noncomputable def q1:Code:=cR bC
theorem Yd7:Tryz.f52.body=some (.seq q0 q1):=by kernel_rfl
noncomputable abbrev rsP:List ResultVar:=Tryz.f26.results.toList
noncomputable def Uy (F:Fr) (H:Hp):Option (V×Hp):=match W6 tab rsP F H.get with | some v=>some (v,H) | none=>none
noncomputable def par4 (k:Nat) (F:Fr) (H:Hp):Option (V×Hp) :=
 match F.get 2,F.get 3,F.get 4 with
 | some a,some b,some c =>
  match Zc tab (Zp tab k) 26 k p4 (F.set 17 (.fn (.func 52) [] [a,b,c])) H with
  | some (.ret,F3,H3)=>Uy F3 H3
  | some _=>none
  | none=>match Zg tab (Zp tab k) (Xv tab k) 26 k p4 (F.set 17 (.fn (.func 52) [] [a,b,c])) H with
   | some (pv,H3)=>match Zc tab (Zp tab k) 52 k q1 ((frame [a,b,c] 0 .nil).set 3 pv) H3 with
    | some (.nrm,_,H4)=>Uy (((Tr.nil.set 2 a).set 3 b).set 4 c) H4
    | _=>none
   | none=>none
 | _,_,_=>none
noncomputable def parK (k:Nat) (vs:List V) (H:Hp):Option (V×Hp) :=
 match Zc tab (Zp tab k) 26 k p0 (frame vs 0 .nil) H with
 | some (.nrm,F0,H0)=>match Zc tab (Zp tab k) 26 k p1 F0 H0 with
  | some (.nrm,F1,H1)=>match Zc tab (Zp tab k) 26 k p2 F1 H1 with
   | some (.ret,F2,H2)=>Uy F2 H2
   | some (.nrm,F2,H2)=>par4 k F2 H2
   | _=>none
  | _=>none
 | _=>none
theorem Z2e {k k' : Nat} (h:k<=k') {F:Fr} {H:Hp} {r:V×Hp} (hr:par4 k F H=some r):par4 k' F H=some r:=by
 have hc:=Zk tab k k' h
 have hp:=Ub tab k k' h
 unfold par4 at hr ⊢
 split at hr
 ·rename_i a b c e2 e3 e4
  cases h1:Zc tab (Zp tab k) 26 k p4 (F.set 17 (.fn (.func 52) [] [a,b,c])) H with
  | some x =>
   rw [h1] at hr
   rw [Z0 hc h _ h1]
   obtain ⟨o,F3,H3⟩:=x
   cases o<;>exact hr
  | none =>
   rw [h1] at hr
   dsimp only at hr
   cases h2:Zg tab (Zp tab k) (Xv tab k) 26 k p4 (F.set 17 (.fn (.func 52) [] [a,b,c])) H with
   | none=>rw [h2] at hr;cases hr
   | some x =>
    rw [h2] at hr
    have h3:=Xj hc hp h _ h2
    rw [Yx _ h3,h3]
    dsimp only at hr ⊢
    cases h5:Zc tab (Zp tab k) 52 k q1 ((frame [a,b,c] 0 .nil).set 3 x.1) x.2 with
    | none=>rw [h5] at hr;cases hr
    | some y=>rw [h5] at hr;rw [Z0 hc h _ h5];exact hr
 ·cases hr
theorem Zo6 {k k' : Nat} (h:k<=k') {vs:List V} {H:Hp} {r:V×Hp} (hr:parK k vs H=some r):parK k' vs H=some r:=by
 have hc:=Zk tab k k' h
 unfold parK at hr ⊢
 cases h0:Zc tab (Zp tab k) 26 k p0 (frame vs 0 .nil) H with
 | none=>rw [h0] at hr;cases hr
 | some x0 =>
  rw [h0] at hr
  rw [Z0 hc h _ h0]
  obtain ⟨o0,F0,H0⟩:=x0
  cases o0 with
  | nrm =>
   dsimp only at hr ⊢
   cases h1:Zc tab (Zp tab k) 26 k p1 F0 H0 with
   | none=>rw [h1] at hr;cases hr
   | some x1 =>
    rw [h1] at hr
    rw [Z0 hc h _ h1]
    obtain ⟨o1,F1,H1⟩:=x1
    cases o1 with
    | nrm =>
     dsimp only at hr ⊢
     cases h2:Zc tab (Zp tab k) 26 k p2 F1 H1 with
     | none=>rw [h2] at hr;cases hr
     | some x2 =>
      rw [h2] at hr
      rw [Z0 hc h _ h2]
      obtain ⟨o2,F2,H2⟩:=x2
      cases o2 with
      | nrm=>exact Z2e h hr
      | ret=>exact hr
      | exit i=>cases hr
    | ret=>cases hr
    | exit i=>cases hr
  | ret=>cases hr
  | exit i=>cases hr
open Classical in
noncomputable def parE (vs:List V) (H:Hp):Option (V×Hp):=if h:∃ k r,parK k vs H=some r then some h.choose_spec.choose else none
theorem Zgc {k:Nat} {vs:List V} {H:Hp} {r:V×Hp} (h:parK k vs H=some r):parE vs H=some r:=by
 have hx:∃ k r,parK k vs H=some r:=⟨k,r,h⟩
 unfold parE
 rw [dif_pos hx]
 have h2:=hx.choose_spec.choose_spec
 have e1:=Zo6 (Nat.le_max_left k hx.choose) h
 have e2:=Zo6 (Nat.le_max_right k hx.choose) h2
 rw [e1] at e2
 exact e2.symm
theorem Zqb {vs:List V} {H:Hp} {r:V×Hp} (h:parE vs H=some r):∃ k,parK k vs H=some r:=by
 unfold parE at h
 split at h
 ·rename_i hx
  cases h
  exact ⟨_,hx.choose_spec.choose_spec⟩
 ·cases h
theorem Zfp {k:Nat} {F:Fr} {H:Hp} {v:V} {H' : Hp} (h:par4 k F H=some (v,H')) (hG:Good H):Grow H H':=by
 have hcg:=Xz (T:=tab) U7 k
 have hpg:=Zby (T:=tab) U7 k
 unfold par4 Uy at h
 split at h
 ·split at h
  ·rename_i F3 H3 h1
   split at h
   ·cases h;exact Zt hcg _ hG h1
   ·cases h
  ·cases h
  ·split at h
   ·rename_i pv H3 h2
    have g2:=Xa hcg hpg _ hG h2
    split at h
    ·rename_i h5
     split at h
     ·cases h;exact g2.trans (Zt hcg _ g2.good h5)
     ·cases h
    ·cases h
   ·cases h
 ·cases h
theorem Zkx {vs:List V} {H:Hp} {v:V} {H' : Hp} (h:parE vs H=some (v,H')) (hG:Good H):Grow H H':=by
 obtain ⟨k,h⟩:=Zqb h
 have hcg:=Xz (T:=tab) U7 k
 unfold parK at h
 split at h
 ·rename_i F0 H0 h0
  have g0:=Zt hcg _ hG h0
  split at h
  ·rename_i F1 H1 h1
   have g1:=Zt hcg _ g0.good h1
   split at h
   ·rename_i F2 H2 h2
    have g2:=Zt hcg _ g1.good h2
    unfold Uy at h
    split at h
    ·cases h;exact (g0.trans g1).trans g2
    ·cases h
   ·rename_i F2 H2 h2
    have g2:=Zt hcg _ g1.good h2
    exact ((g0.trans g1).trans g2).trans (Zfp h g2.good)
   ·cases h
  ·cases h
 ·cases h
theorem cdk {f:FuncId} {fn:Func} (hf:tab.fn f=some fn) {c:Code} (hb:fn.body=some c) (b:List Deferred):cdOk tab an f (⟨fn.ntmps,b⟩:NT) c=true:=by
 have:=okP.code f fn hf
 simp only [fnOk,hb,Bool.and_eq_true] at this
 exact this.1
theorem fnP:tab.fn 26=some Tryz.f26:=fn26
theorem fnC:tab.fn 52=some Tryz.f52:=fn52
theorem Zz0 (b:List Deferred):cdOk tab an 26 (⟨Tryz.f26.ntmps,b⟩:NT) (.seq p0 (.seq p1 (.seq p2 (.seq p3 p4))))=true:=cdk fnP Jo b
theorem Ydr (b:List Deferred):cdOk tab an 52 (⟨Tryz.f52.ntmps,b⟩:NT) (.seq q0 q1)=true:=cdk fnC Yd7 b
section
variable {n0:Nat} {w0:World}
theorem Z5o (hI:tab.init n0 w0) (hn:n0<=w0.heap.size) {k:Nat} {D:Nat->Prop} {s:Sg} {H H' : Hp} {w:World} {a b c pv:V} {x2 x3 x4 x:Value} {F' : Fr} (hg:GlOk tab.ng D s) (hS:Sat n0 w0 D s H w) (hG:Good H) (h2:Rv D s a x2) (h3:Rv D s b x3) (h4:Rv D s c x4) (hx:Rv D s pv x)
  (h:Zc tab (Zp tab k) 52 k q1 ((frame [a,b,c] 0 .nil).set 3 pv) H=some (.nrm,F',H')) (hf:Z1 D H H') :
  CallsD Tryz.prog 52 #[x2,x3,x4] (.panicking [{ v:=x,recovered:=false }]) w fun e u w'=>(∃ v,e = .returned v)/\u = .panicking [{ v:=x,recovered:=true }]/\∃ s',Step n0 w0 D s H w s' H' w':=by
 have hM:=okP.mach
 have hcd:=Ydr []
 simp only [cdOk,Bool.and_eq_true] at hcd
 have key:∀ (tm:Array Value),tm.size=Tryz.f52.ntmps->tm[0]? = some x2->tm[1]? = some x3->tm[2]? = some x4->tm[3]? = some x->q1.wp Tryz.prog (fun e a' w'=>e = .normal/\a'.defers=[]/\∃ s',Step n0 w0 D s H w s' H' w') { tmps:=tm,defers:=[] } w:=fun tm hsz t0 t1 t2 t3=>by
  have hP:Pre tab n0 w0 ⟨Tryz.f52.ntmps,[]⟩ D s ((frame [a,b,c] 0 .nil).set 3 pv) H { tmps:=tm,defers:=[] } w:=by
   refine ⟨hg,fun t v hv=>?_,hS,hG,by show Tryz.f52.ntmps<=tm.size;omega,[],rfl,fun d hd=>by cases hd⟩
   simp only [frame,Tr.get_set] at hv
   split at hv
   ·rename_i e;subst e;cases hv;exact ⟨x,t3,hx⟩
   ·split at hv
    ·rename_i e;subst e;cases hv;exact ⟨x4,t2,h4⟩
    ·split at hv
     ·rename_i e;subst e;cases hv;exact ⟨x3,t1,h3⟩
     ·split at hv
      ·rename_i e;subst e;cases hv;exact ⟨x2,t0,h2⟩
      ·simp [Tr.get] at hv
  refine wp_mono (Yi hM hn (okP.calls hI hn k) (Xz U7 k) q1 (Yq hM hn _ hcd.2) h hP hf) fun e a' w' he=>?_
  obtain ⟨rfl,s',hs,_,_,hd⟩:=he
  exact ⟨rfl,hd.none (fun _=>rfl),s',hs⟩
 refine callsD_of_wpS Tryz.func52 rfl fun c₀ cs hu=>?_
 have hsz:(#[x2,x3,x4]++Array.replicate (Tryz.f52.ntmps - #[x2,x3,x4].size) undef).size=Tryz.f52.ntmps:=by simp [Tryz.ntmps52]
 have ht0:(#[x2,x3,x4]++Array.replicate (Tryz.f52.ntmps - #[x2,x3,x4].size) undef)[0]? = some x2:=by simp [Array.getElem?_append]
 have ht1:(#[x2,x3,x4]++Array.replicate (Tryz.f52.ntmps - #[x2,x3,x4].size) undef)[1]? = some x3:=by simp [Array.getElem?_append]
 have ht2:(#[x2,x3,x4]++Array.replicate (Tryz.f52.ntmps - #[x2,x3,x4].size) undef)[2]? = some x4:=by simp [Array.getElem?_append]
 generalize #[x2,x3,x4]++Array.replicate (Tryz.f52.ntmps - #[x2,x3,x4].size) undef=tm at hsz ht0 ht1 ht2
 have hsz':=hsz
 rw [Tryz.ntmps52] at hsz'
 have h3' : 3 < tm.size:=by omega
 have h6' : 6 < tm.size:=by omega
 apply wpS_seq
 apply wpS_region
 simp [wpOpsS,go_sem,recoverD,hu,Exit.thenS,Act.put,Act.eval,Array.getElem?_setIfInBounds_self,h6']
 refine wpS_of_wp (wp_mono (key _ (by simp [hsz]) (by simp [ht0]) (by simp [ht1]) (by simp [ht2]) (by simp [h3'])) ?_)
 rintro e a' w' ⟨rfl,hd,hs⟩
 refine ⟨hd,.panicking [{ v:=x,recovered:=true }],?_,?_⟩
 ·rfl
 ·exact ⟨.tuple #[],by simp [results,Tryz.results52],⟨_,rfl⟩,rfl,hs⟩
theorem Z1q (hI:tab.init n0 w0) (hn:n0<=w0.heap.size) {k:Nat} {D:Nat->Prop} {s:Sg} {F:Fr} {H H' : Hp} {w:World} {a:Act} {v:V} (hP:Pre tab n0 w0 ⟨Tryz.f26.ntmps,[]⟩ D s F H a w) (h:par4 k F H=some (v,H')) (hf:Z1 D H H') {R:Ending->World->Prop}
  (hR:∀ x s' w',Step n0 w0 D s H w s' H' w'->Rv (Dn D H.next H'.next) s' v x->R (.returned x) w'):(Code.seq p3 p4).wp Tryz.prog (bodyPostD Tryz.prog Tryz.f26 R) a w:=by
 have hM:=okP.mach
 have hcg:=Xz (T:=tab) U7 k
 have hpg:=Zby (T:=tab) U7 k
 have hgr:=Zfp h hP.good
 unfold par4 at h
 split at h
 rotate_left
 ·cases h
 rename_i va vb vc e2 e3 e4
 obtain ⟨x2,t2,r2⟩:=hP.fr 2 va e2
 obtain ⟨x3,t3,r3⟩:=hP.fr 3 vb e3
 obtain ⟨x4,t4,r4⟩:=hP.fr 4 vc e4
 have hdf:=hP.defers.none (fun _=>rfl)
 have hsz:=hP.size
 have hsz' : 37<=a.tmps.size:=by have:Tryz.f26.ntmps=37:=Tryz.ntmps26;show 37<=_;have h2:Tryz.f26.ntmps<=a.tmps.size:=hsz;omega
 refine _root_.Go.wp_seq ?_
 have hp3:∀ Q:Exit->Act->World->Prop,Q .normal { tmps:=a.tmps.setIfInBounds 17 (.func (.func 52) #[] #[x2,x3,x4]),defers:=[{ target:=.fn (.func 52) #[x2,x3,x4],args:=#[] }] } w->p3.wp Tryz.prog Q a w:=fun Q hQ=>by
  have h17:17 < a.tmps.size:=by omega
  obtain ⟨tm,ds⟩:=a
  apply _root_.Go.wp_region
  simp [wpOps,go_sem,Act.put,Act.eval,Array.getElem?_setIfInBounds_self,h17,t2,t3,t4]
  have hds:ds=[]:=hdf
  subst hds
  exact .inl (.inl hQ)
 refine hp3 _ ?_
 show p4.wp Tryz.prog (bodyPostD Tryz.prog Tryz.f26 R) _ w
 have hcd:=Zz0 [{ target:=.fn (.func 52) #[x2,x3,x4],args:=#[] }]
 simp only [cdOk,Bool.and_eq_true] at hcd
 have hP4:Pre tab n0 w0 ⟨Tryz.f26.ntmps,[{ target:=.fn (.func 52) #[x2,x3,x4],args:=#[] }]⟩ D s (F.set 17 (.fn (.func 52) [] [va,vb,vc])) H { tmps:=a.tmps.setIfInBounds 17 (.func (.func 52) #[] #[x2,x3,x4]),defers:=[{ target:=.fn (.func 52) #[x2,x3,x4],args:=#[] }] } w :=
  ⟨hP.gl,FrOk.put (a:={ tmps:=a.tmps,defers:=[{ target:=.fn (.func 52) #[x2,x3,x4],args:=#[] }] }) (d:=some 17) (fun t v ht=>hP.fr t v ht) (fun t ht=>by cases ht;show 17 < a.tmps.size;omega) (.fn _ _ _ _ _ .nil (.cons _ _ _ _ r2 (.cons _ _ _ _ r3 (.cons _ _ _ _ r4 .nil)))),hP.sat,hP.good,by simpa using hsz,[],rfl,fun d hd=>by cases hd⟩
 have henter:∀ args w,(callFunc 52 args).run Tryz.prog w = .ok (.enter 52 args) w:=enters_of Tryz.func52 (by kernel_rfl) rfl
 have hinv:∀ w,(invoke (.fn (.func 52) #[x2,x3,x4]) #[]).run Tryz.prog w = .ok (.enter 52 #[x2,x3,x4]) w:=fun w=>by simpa [invoke] using henter #[x2,x3,x4] w
 split at h
 ·rename_i F3 H3 h3
  unfold Uy at h
  split at h
  ·rename_i v' hr
   cases h
   refine wp_mono (Yi hM hn (okP.calls hI hn k) hcg p4 (Yq hM hn _ hcd.2.2.2.2) h3 hP4 hf) fun e a' w' he=>?_
   obtain ⟨rfl,s',hs,hF',_,hd⟩:=he
   have hd:=hd.none (fun _=>rfl)
   obtain ⟨x,hx,hrv⟩:=Za2 hM.tab hs.sat hF' hr
   show Leaves Tryz.prog Tryz.f26 a'.tmps R a'.defers .returning w'
   rw [hd]
   refine leaves_cons (by simp) (hinv w') ((Zrc #[x2,x3,x4] w').mono ?_)
   rintro e u w'' ⟨⟨v,rfl⟩,rfl,rfl⟩
   exact ⟨x,hx,hR x s' _ hs hrv⟩
  ·cases h
 ·cases h
 ·rename_i h3
  split at h
  ·rename_i pv H3 h4
   have g4:=Xa hcg hpg _ hP.good h4
   split at h
   ·rename_i Fx H4 h5
    have g5:=Zt hcg _ g4.good h5
    unfold Uy at h
    split at h
    ·rename_i v' hr
     cases h
     refine wp_mono (W8 (ts:=[2,3,4]) hM hn (okP.calls hI hn k) hcg (okP.pans hI hn (fun _=>rfl) k) hpg p4 hcd.2.2.2.2 (by kernel_rfl) h4 hP4 (hf.left g5.le)) fun e a' w' he=>?_
     obtain ⟨x,s',rfl,hs,hv,hd,hK⟩:=he
     have hd:=hd.none (fun _=>rfl)
     have hf5:Z1 (Dn D H.next H3.next) H3 H':=hf.right g4.le
     show Leaves Tryz.prog Tryz.f26 a'.tmps R a'.defers (.panicking _) w'
     rw [hd]
     have m2:=r2.mono (D':=Dn D H.next H3.next) (s':=s') (fun b hb=>.inl hb) hs.same
     have m3:=r3.mono (D':=Dn D H.next H3.next) (s':=s') (fun b hb=>.inl hb) hs.same
     have m4:=r4.mono (D':=Dn D H.next H3.next) (s':=s') (fun b hb=>.inl hb) hs.same
     refine leaves_cons (by simp) (hinv w') ((Z5o hI hn (hP.gl.mono (fun b hb=>.inl hb) hs.same) hs.sat g4.good m2 m3 m4 hv h5 hf5).mono ?_)
     rintro e u w'' ⟨⟨u',rfl⟩,rfl,s'',hs2⟩
     have hst:=hs.trans hs2
     have hF4:FrOk (Dn D H.next H'.next) s'' (((Tr.nil.set 2 va).set 3 vb).set 4 vc) a':=fun t u hu=>by
      have hkk:∀ t,t∈[2,3,4]->∀ u,(F.set 17 (.fn (.func 52) [] [va,vb,vc])).get t=some u->∃ y,a'.tmps[t]? = some y/\Rv (Dn D H.next H'.next) s'' u y:=fun t ht u hu=>by
       obtain ⟨y,h1,h2⟩:=hK t ht u hu
       refine ⟨y,h1,?_⟩
       rw [<- Un D hs.next hs2.next]
       exact h2.mono (fun b hb=>.inl hb) hs2.same
      simp only [Tr.get_set] at hu
      split at hu
      ·rename_i e;subst e;cases hu;exact hkk 4 (by simp) _ (by simp [Tr.get_set,e4])
      ·split at hu
       ·rename_i e;subst e;cases hu;exact hkk 3 (by simp) _ (by simp [Tr.get_set,e3])
       ·split at hu
        ·rename_i e;subst e;cases hu;exact hkk 2 (by simp) _ (by simp [Tr.get_set,e2])
        ·simp [Tr.get] at hu
     obtain ⟨y,hy,hrv⟩:=Za2 hM.tab hst.sat hF4 hr
     exact ⟨y,hy,hR y s'' _ hst hrv⟩
    ·cases h
   ·cases h
  ·cases h
theorem parF:∀ n0 w0,tab.init n0 w0->n0<=w0.heap.size->∀ vs H v H',parE vs H=some (v,H')->∀ D s w (xs:Array Value),GlOk tab.ng D s->RvL D s vs xs.toList->Sat n0 w0 D s H w->Good H->Z1 D H H' ->
  Calls Tryz.prog 26 xs w fun e w'=>match e with
   | .returned x=>∃ s',Step n0 w0 D s H w s' H' w'/\Rv (Dn D H.next H'.next) s' v x
   | _=>False:=by
 intro n0 w0 hI hn vs H v H' h D s w xs hg hxs hS hG hf
 have hM:=okP.mach
 have hgr:=Zkx h hG
 obtain ⟨k,h⟩:=Zqb h
 have hcg:=Xz (T:=tab) U7 k
 have hP:Pre tab n0 w0 ⟨Tryz.f26.ntmps,[]⟩ D s (frame vs 0 .nil) H { tmps:=xs++Array.replicate (Tryz.f26.ntmps-xs.size) undef,defers:=[] } w:=by
  refine ⟨hg,Zcg vs 0 .nil (fun t v h=>by simp [Tr.get] at h) (fun j v hj=>?_),hS,hG,by show Tryz.f26.ntmps<=_;simp;omega,[],rfl,fun d hd=>by cases hd⟩
  obtain ⟨x,h1,h2⟩:=hxs.get j v hj
  rw [Array.getElem?_toList] at h1
  refine ⟨x,?_,h2⟩
  have hlt:j < xs.size:=(Array.getElem?_eq_some_iff.1 h1).1
  rw [Nat.zero_add,Array.getElem?_append_left hlt]
  exact h1
 have hcd:=Zz0 []
 simp only [cdOk,Bool.and_eq_true] at hcd
 refine calls_of_wp_defers Tryz.func26 Jo ?_
 unfold parK at h
 split at h
 ·rename_i F0 H0 h0
  have g0:=Zt hcg _ hG h0
  split at h
  ·rename_i F1 H1 h1
   have g1:=Zt hcg _ g0.good h1
   split at h
   ·rename_i F2 H2 h2
    have g2:=Zt hcg _ g1.good h2
    unfold Uy at h
    split at h
    ·rename_i v' hr
     cases h
     refine _root_.Go.wp_seq (wp_mono (Yi hM hn (okP.calls hI hn k) hcg p0 (Yq hM hn _ hcd.1) h0 hP (hf.left (Nat.le_trans g1.le g2.le))) fun e a1 w1 he=>?_)
     obtain ⟨rfl,s1,hs1,hF1,hz1,hd1⟩:=he
     have hP1:=hP.next hs1 hF1 g0.good hz1 hd1
     have hf1:=hf.right (H1:=H0) g0.le
     refine _root_.Go.wp_seq (wp_mono (Yi hM hn (okP.calls hI hn k) hcg p1 (Yq hM hn _ hcd.2.1) h1 hP1 (hf1.left g2.le)) fun e a2 w2 he=>?_)
     obtain ⟨rfl,s2,hs2,hF2,hz2,hd2⟩:=he
     have hP2:=hP1.next hs2 hF2 g1.good hz2 hd2
     have hf2:=hf1.right (H1:=H1) g1.le
     refine _root_.Go.wp_seq (wp_mono (Yi hM hn (okP.calls hI hn k) hcg p2 (Yq hM hn _ hcd.2.2.1) h2 hP2 hf2) fun e a3 w3 he=>?_)
     obtain ⟨rfl,s3,hs3,hF3,hz3,hd3⟩:=he
     have hd:=hd3.none (fun _=>rfl)
     have hst:=hs1.trans (hs2.trans hs3)
     obtain ⟨x,hx,hrv⟩:=Za2 hM.tab hs3.sat hF3 hr
     show Leaves Tryz.prog Tryz.f26 a3.tmps _ a3.defers .returning w3
     rw [hd]
     rw [Un _ hs2.next hs3.next,Un _ hs1.next (Nat.le_trans hs2.next hs3.next)] at hrv
     exact ⟨x,hx,s3,hst,hrv⟩
    ·cases h
   ·rename_i F2 H2 h2
    have g2:=Zt hcg _ g1.good h2
    have g3:=Zfp h g2.good
    refine _root_.Go.wp_seq (wp_mono (Yi hM hn (okP.calls hI hn k) hcg p0 (Yq hM hn _ hcd.1) h0 hP (hf.left (Nat.le_trans g1.le (Nat.le_trans g2.le g3.le)))) fun e a1 w1 he=>?_)
    obtain ⟨rfl,s1,hs1,hF1,hz1,hd1⟩:=he
    have hP1:=hP.next hs1 hF1 g0.good hz1 hd1
    have hf1:=hf.right (H1:=H0) g0.le
    refine _root_.Go.wp_seq (wp_mono (Yi hM hn (okP.calls hI hn k) hcg p1 (Yq hM hn _ hcd.2.1) h1 hP1 (hf1.left (Nat.le_trans g2.le g3.le))) fun e a2 w2 he=>?_)
    obtain ⟨rfl,s2,hs2,hF2,hz2,hd2⟩:=he
    have hP2:=hP1.next hs2 hF2 g1.good hz2 hd2
    have hf2:=hf1.right (H1:=H1) g1.le
    refine _root_.Go.wp_seq (wp_mono (Yi hM hn (okP.calls hI hn k) hcg p2 (Yq hM hn _ hcd.2.2.1) h2 hP2 (hf2.left g3.le)) fun e a3 w3 he=>?_)
    obtain ⟨rfl,s3,hs3,hF3,hz3,hd3⟩:=he
    have hP3:=hP2.next hs3 hF3 g2.good hz3 hd3
    have hf3:=hf2.right (H1:=H2) g2.le
    have hst:=hs1.trans (hs2.trans hs3)
    have hc:=hs2.next
    refine Z1q hI hn hP3 h hf3 fun x s' w' hs4 hrv=>?_
    have hgr4:=hs4.next
    refine ⟨s',hs1.trans (hs2.trans (hs3.trans hs4)),?_⟩
    rw [Un _ hs3.next hs4.next,Un _ hs2.next (Nat.le_trans hs3.next hs4.next),Un _ hs1.next (Nat.le_trans hs2.next (Nat.le_trans hs3.next hs4.next))] at hrv
    exact hrv
   ·cases h
  ·cases h
 ·cases h
end
end Go.AM.YtlillgmgpmbfnaaGreatDoorT
namespace Go.AM.YtlillgmgpmbfnaaGreatDoorT
open Go Go.AM Go.Proofs
set_option maxRecDepth 100000
abbrev Z4x:List SOp:=[(some 4,.move (.tmp 0),none),
 (some 5,.nilCheck (.tmp 4),none),
 (some 6,.fieldAddr 92 (.tmp 5) 0,none),
 (some 7,.load 84 (.tmp 6),none),
 (some 8,.indexAddr 84 (.tmp 7) (.const (.int .i64 0)),none),
 (some 9,.fieldAddr 95 (.tmp 8) 3,none),
 (some 10,.load 3 (.tmp 9),none),
 (some 11,.move (.tmp 1),none),
 (some 12,.build 88 #[(0,(.tmp 10)),(1,(.tmp 11))],none),
 (some 13,.makeInterface 88 (.tmp 12),none),
 (none,.panic (.tmp 13),none)]
abbrev S120:SCode:=.reg Z4x
theorem Z1f:Zh tab 120 (Tryz.f120.body.getD .skip)=S120:=by kernel_rfl
theorem Yge {xs:List V} {H:Hp} {Q P:V->Hp->Prop} (h:WCr tab P S120 (frame xs 0 .nil) H (resQ tab [] Q)):WR tab 120 xs H Q P:=WR.of_slim (T:=tab) (f:=120) rfl Yg8 rfl Z1f rfl h
abbrev Ycp:List SOp:=[(some 4,.assign (.const (.bool false)),none)]
abbrev Ybw:List SOp:=[(some 6,.move (.tmp 0),none),
 (some 7,.nilCheck (.tmp 6),none),
 (some 8,.fieldAddr 92 (.tmp 7) 0,none),
 (some 9,.load 84 (.tmp 8),none),
 (some 10,.indexAddr 84 (.tmp 9) (.const (.int .i64 0)),none),
 (some 11,.fieldAddr 95 (.tmp 10) 0,none),
 (some 12,.load 93 (.tmp 11),none),
 (some 5,.assign (.tmp 12),none)]
abbrev Yeq:List SOp:=[(some 13,.move (.tmp 5),none),
 (some 14,.binOp .neq 93 (.tmp 13) (.const (.int .i64 4)) 93,none),
 (some 15,.move (.tmp 14),none),
 (some 16,.move (.tmp 5),some (some 15,true)),
 (some 17,.binOp .neq 93 (.tmp 16) (.const (.int .i64 1)) 93,some (some 15,true)),
 (some 18,.pick (.tmp 15) (.tmp 17) (.const (.bool false)),none),
 (some 19,.move (.tmp 18),none),
 (some 20,.move (.tmp 0),some (some 19,false)),
 (some 21,.nilCheck (.tmp 20),some (some 19,false)),
 (some 22,.fieldAddr 92 (.tmp 21) 0,some (some 19,false)),
 (some 23,.load 84 (.tmp 22),some (some 19,false)),
 (some 24,.indexAddr 84 (.tmp 23) (.const (.int .i64 0)),some (some 19,false)),
 (some 25,.fieldAddr 95 (.tmp 24) 1,some (some 19,false)),
 (some 26,.load 9 (.tmp 25),some (some 19,false)),
 (some 27,.move (.tmp 1),some (some 19,false)),
 (some 28,.binOp .neq 9 (.tmp 26) (.tmp 27) 9,some (some 19,false)),
 (some 29,.pick (.tmp 19) (.const (.bool true)) (.tmp 28),none)]
abbrev Ye7:List SOp:=[(some 4,.assign (.const (.bool false)),none)]
abbrev Ydp:List SOp:=[(some 30,.move (.tmp 0),none),
 (some 31,.move (.tmp 0),none),
 (some 32,.nilCheck (.tmp 31),none),
 (some 33,.fieldAddr 92 (.tmp 32) 0,none),
 (some 34,.load 84 (.tmp 33),none),
 (some 35,.slice 84 (.tmp 34) (some (.const (.int .i64 1))) none none,none),
 (some 36,.nilCheck (.tmp 30),none),
 (some 37,.fieldAddr 92 (.tmp 36) 0,none),
 (none,.store 84 (.tmp 37) (.tmp 35),none)]
abbrev Ygw:List SOp:=[(some 4,.assign (.const (.bool true)),none)]
abbrev S76:SCode:=.seq (.reg Ycp) (.seq (.seq (.reg Ybw) (.seq (.reg Yeq) (.cond (.tmp 29) (.seq (.reg Ye7) (.ret)) (.skip)))) (.seq (.reg Ydp) (.seq (.reg Ygw) (.ret))))
theorem Z45:Zh tab 76 (Tryz.f76.body.getD .skip)=S76:=by kernel_rfl
theorem wf76 {xs:List V} {H:Hp} {Q:V->Hp->Prop} (h:WC tab S76 (frame xs 0 .nil) H (resQ tab [.tmp 4] Q)):WF tab 76 xs H Q:=WF.of_slim (T:=tab) (f:=76) rfl fn76 rfl Z45 rfl h
abbrev Yes:List SOp:=[(some 4,.move (.tmp 0),none),
 (some 5,.move (.tmp 1),none),
 (some 6,.call ⟨.value (.func 76),#[(.tmp 4),(.tmp 5)],#[90,9]⟩,none),
 (some 7,.unOp .not 4 (.tmp 6),none)]
abbrev Z9n:List SOp:=[(some 8,.move (.tmp 0),none),
 (some 9,.call ⟨.value (.func 120),#[(.tmp 8),(.const (.int .i64 1))],#[90,47]⟩,none)]
abbrev S78:SCode:=.seq (.reg Yes) (.cond (.tmp 7) (.reg Z9n) (.skip))
theorem Z6m:Zh tab 78 (Tryz.f78.body.getD .skip)=S78:=by kernel_rfl
theorem wr78 {xs:List V} {H:Hp} {Q P:V->Hp->Prop} (h:WCr tab P S78 (frame xs 0 .nil) H (resQ tab [] Q)):WR tab 78 xs H Q P:=WR.of_slim (T:=tab) (f:=78) rfl fn78 rfl Z6m rfl h
abbrev Z6j:List SOp:=[(some 2,.move (.tmp 0),none),
 (some 3,.nilCheck (.tmp 2),none),
 (some 4,.fieldAddr 92 (.tmp 3) 1,none),
 (some 5,.load 3 (.tmp 4),none),
 (some 6,.binOp .eql 3 (.tmp 5) (.const (.int .i64 20)) 3,none)]
abbrev Z70:List SOp:=[(some 7,.move (.tmp 0),none),
 (some 8,.call ⟨.value (.func 120),#[(.tmp 7),(.const (.int .i64 3))],#[90,47]⟩,none)]
abbrev Z54:List SOp:=[(some 9,.move (.tmp 0),none),
 (some 10,.nilCheck (.tmp 9),none),
 (some 11,.fieldAddr 92 (.tmp 10) 1,none),
 (some 12,.load 3 (.tmp 11),none),
 (some 13,.binOp .add 3 (.tmp 12) (.const (.int .i64 1)) 3,none),
 (some 14,.nilCheck (.tmp 9),none),
 (some 15,.fieldAddr 92 (.tmp 14) 1,none),
 (none,.store 3 (.tmp 15) (.tmp 13),none)]
abbrev S118:SCode:=.seq (.seq (.reg Z6j) (.cond (.tmp 6) (.reg Z70) (.skip))) (.reg Z54)
theorem Z3a:Zh tab 118 (Tryz.f118.body.getD .skip)=S118:=by kernel_rfl
theorem Yhu {xs:List V} {H:Hp} {Q P:V->Hp->Prop} (h:WCr tab P S118 (frame xs 0 .nil) H (resQ tab [] Q)):WR tab 118 xs H Q P:=WR.of_slim (T:=tab) (f:=118) rfl Yei rfl Z3a rfl h
abbrev Ye1:List SOp:=[(some 2,.assign (.const (.string ⟨#[]⟩)),none)]
abbrev Yho:List SOp:=[(some 4,.move (.tmp 0),none),
 (some 5,.nilCheck (.tmp 4),none),
 (some 6,.fieldAddr 92 (.tmp 5) 0,none),
 (some 7,.load 84 (.tmp 6),none),
 (some 8,.indexAddr 84 (.tmp 7) (.const (.int .i64 0)),none),
 (some 9,.load 95 (.tmp 8),none),
 (some 3,.alloc 95,none),
 (none,.store 95 (.tmp 3) (.tmp 9),none)]
abbrev Yf5:List SOp:=[(some 10,.fieldAddr 95 (.tmp 3) 0,none),
 (some 11,.load 93 (.tmp 10),none),
 (some 12,.binOp .neq 93 (.tmp 11) (.const (.int .i64 1)) 93,none),
 (some 13,.move (.tmp 12),none),
 (some 14,.fieldAddr 95 (.tmp 3) 1,some (some 13,false)),
 (some 15,.load 9 (.tmp 14),some (some 13,false)),
 (some 16,.call ⟨.value (.func 50),#[(.tmp 15)],#[9]⟩,some (some 13,false)),
 (some 17,.pick (.tmp 13) (.const (.bool true)) (.tmp 16),none)]
abbrev Yfp:List SOp:=[(some 18,.move (.tmp 0),none),
 (some 19,.call ⟨.value (.func 120),#[(.tmp 18),(.const (.int .i64 1))],#[90,47]⟩,none)]
abbrev Yeg:List SOp:=[(some 20,.move (.tmp 0),none),
 (some 21,.move (.tmp 0),none),
 (some 22,.nilCheck (.tmp 21),none),
 (some 23,.fieldAddr 92 (.tmp 22) 0,none),
 (some 24,.load 84 (.tmp 23),none),
 (some 25,.slice 84 (.tmp 24) (some (.const (.int .i64 1))) none none,none),
 (some 26,.nilCheck (.tmp 20),none),
 (some 27,.fieldAddr 92 (.tmp 26) 0,none),
 (none,.store 84 (.tmp 27) (.tmp 25),none)]
abbrev Yc7:List SOp:=[(some 28,.fieldAddr 95 (.tmp 3) 1,none),
 (some 29,.load 9 (.tmp 28),none),
 (some 2,.assign (.tmp 29),none)]
abbrev S79:SCode:=.seq (.reg Ye1) (.seq (.reg Yho) (.seq (.seq (.reg Yf5) (.cond (.tmp 17) (.reg Yfp) (.skip))) (.seq (.reg Yeg) (.seq (.reg Yc7) (.ret)))))
theorem Z7w:Zh tab 79 (Tryz.f79.body.getD .skip)=S79:=by kernel_rfl
theorem wr79 {xs:List V} {H:Hp} {Q P:V->Hp->Prop} (h:WCr tab P S79 (frame xs 0 .nil) H (resQ tab [.tmp 2] Q)):WR tab 79 xs H Q P:=WR.of_slim (T:=tab) (f:=79) rfl fn79 rfl Z7w rfl h
abbrev Yg9:List SOp:=[(some 2,.assign (.const (.bool false)),none)]
abbrev Yea:List SOp:=[(some 5,.load 118 (.global 1),none),
 (some 6,.move (.const (.int .i64 0)),none)]
abbrev Yfy:List SOp:=[(some 7,.binOp .lss 3 (.tmp 6) (.const (.int .i64 12)) 3,none)]
abbrev Ybp:List SOp:=[(some 8,.index 118 (.tmp 5) (.tmp 6),none),
 (some 4,.assign (.tmp 8),none)]
abbrev Z8l:List SOp:=[(some 9,.move (.tmp 4),none),
 (some 10,.move (.tmp 0),none),
 (some 11,.binOp .eql 9 (.tmp 9) (.tmp 10) 9,none)]
abbrev Yc1:List SOp:=[(some 2,.assign (.const (.bool true)),none)]
abbrev Yac:List SOp:=[(some 12,.binOp .add 3 (.tmp 6) (.const (.int .i64 1)) 3,none),
 (some 6,.move (.tmp 12),none)]
def Zlu:SCode:=.seq (.reg Yfy) (.seq (.cond (.tmp 7) (.skip) (.exit 0)) (.seq (.block 1 (.seq (.reg Ybp) (.seq (.reg Z8l) (.cond (.tmp 11) (.seq (.reg Yc1) (.ret)) (.skip))))) (.reg Yac)))
abbrev Ydf:List SOp:=[(some 2,.assign (.const (.bool false)),none)]
abbrev S50:SCode:=.seq (.reg Yg9) (.seq (.seq (.reg Yea) (.block 0 (.loop Zlu))) (.seq (.reg Ydf) (.ret)))
theorem Z5u:Zh tab 50 (Tryz.f50.body.getD .skip)=S50:=by kernel_rfl
theorem wf50 {xs:List V} {H:Hp} {Q:V->Hp->Prop} (h:WC tab S50 (frame xs 0 .nil) H (resQ tab [.tmp 2] Q)):WF tab 50 xs H Q:=WF.of_slim (T:=tab) (f:=50) rfl fn50 rfl Z5u rfl h
abbrev Z9j:List SOp:=[(some 2,.alloc 35,none)]
abbrev Z94:List SOp:=[(some 4,.move (.tmp 0),none),
 (some 5,.call ⟨.value (.func 118),#[(.tmp 4)],#[90]⟩,none)]
abbrev Yat:List SOp:=[(some 6,.move (.tmp 0),none),
 (some 7,.call ⟨.value (.func 119),#[(.tmp 6),(.const (.int .i64 0))],#[90,3]⟩,none),
 (some 3,.alloc 35,none),
 (none,.store 35 (.tmp 3) (.tmp 7),none)]
abbrev Yha:List SOp:=[(some 8,.move (.tmp 0),none),
 (some 9,.nilCheck (.tmp 8),none),
 (some 10,.fieldAddr 92 (.tmp 9) 1,none),
 (some 11,.load 3 (.tmp 10),none),
 (some 12,.binOp .sub 3 (.tmp 11) (.const (.int .i64 1)) 3,none),
 (some 13,.nilCheck (.tmp 8),none),
 (some 14,.fieldAddr 92 (.tmp 13) 1,none),
 (none,.store 3 (.tmp 14) (.tmp 12),none)]
abbrev Ydn:List SOp:=[(some 15,.load 35 (.tmp 3),none),
 (none,.store 35 (.tmp 2) (.tmp 15),none)]
abbrev S77:SCode:=.seq (.reg Z9j) (.seq (.reg Z94) (.seq (.reg Yat) (.seq (.reg Yha) (.seq (.reg Ydn) (.ret)))))
theorem Z4m:Zh tab 77 (Tryz.f77.body.getD .skip)=S77:=by kernel_rfl
theorem wr77 {xs:List V} {H:Hp} {Q P:V->Hp->Prop} (h:WCr tab P S77 (frame xs 0 .nil) H (resQ tab [.cell 2 35] Q)):WR tab 77 xs H Q P:=WR.of_slim (T:=tab) (f:=77) rfl fn77 rfl Z4m rfl h
abbrev Z5j:List SOp:=[(some 4,.alloc 35,none)]
abbrev Z4i:List SOp:=[(some 8,.move (.tmp 1),none),
 (some 9,.binOp .eql 3 (.tmp 8) (.const (.int .i64 3)) 3,none)]
abbrev Z5m:List SOp:=[(some 10,.move (.tmp 0),none),
 (some 11,.call ⟨.value (.func 157),#[(.tmp 10)],#[90]⟩,none),
 (none,.store 35 (.tmp 4) (.tmp 11),none)]
abbrev Z7u:List SOp:=[(some 12,.move (.tmp 0),none),
 (some 13,.move (.tmp 1),none),
 (some 14,.binOp .add 3 (.tmp 13) (.const (.int .i64 1)) 3,none),
 (some 15,.call ⟨.value (.func 119),#[(.tmp 12),(.tmp 14)],#[90,3]⟩,none),
 (some 5,.alloc 35,none),
 (none,.store 35 (.tmp 5) (.tmp 15),none)]
abbrev Z52:List (SOp×Nat):=[((some 17,.move (.tmp 1),none),0),
 ((some 18,.indexAddr 206 (.global 6) (.tmp 17),none),0),
 ((some 19,.load 205 (.tmp 18),none),0),
 ((some 20,.move (.tmp 0),none),0),
 ((some 21,.nilCheck (.tmp 20),none),0),
 ((some 22,.fieldAddr 92 (.tmp 21) 0,none),0),
 ((some 23,.load 84 (.tmp 22),none),0),
 ((some 24,.indexAddr 84 (.tmp 23) (.const (.int .i64 0)),none),0),
 ((some 25,.fieldAddr 95 (.tmp 24) 1,none),0),
 ((some 26,.load 9 (.tmp 25),none),0),
 ((some 27,.lookup 205 (.tmp 19) (.tmp 26) true,none),0),
 ((some 16,.move (.tmp 27),none),0),
 ((some 28,.extract (.tmp 16) 0,none),0),
 ((some 29,.extract (.tmp 16) 1,none),0),
 ((some 6,.assign (.tmp 28),none),0),
 ((some 7,.assign (.tmp 29),none),0)]
abbrev Z4z:List SOp:=[(some 30,.move (.tmp 7),none),
 (some 31,.unOp .not 4 (.tmp 30),none),
 (some 32,.move (.tmp 31),none),
 (some 33,.move (.tmp 0),some (some 32,false)),
 (some 34,.nilCheck (.tmp 33),some (some 32,false)),
 (some 35,.fieldAddr 92 (.tmp 34) 0,some (some 32,false)),
 (some 36,.load 84 (.tmp 35),some (some 32,false)),
 (some 37,.indexAddr 84 (.tmp 36) (.const (.int .i64 0)),some (some 32,false)),
 (some 38,.fieldAddr 95 (.tmp 37) 0,some (some 32,false)),
 (some 39,.load 93 (.tmp 38),some (some 32,false)),
 (some 40,.binOp .neq 93 (.tmp 39) (.const (.int .i64 4)) 93,some (some 32,false)),
 (some 41,.pick (.tmp 32) (.const (.bool true)) (.tmp 40),none)]
abbrev Z5n:List SOp:=[(some 42,.load 35 (.tmp 5),none),
 (none,.store 35 (.tmp 4) (.tmp 42),none)]
abbrev Z4k:List SOp:=[(some 43,.move (.tmp 0),none),
 (some 44,.move (.tmp 0),none),
 (some 45,.nilCheck (.tmp 44),none),
 (some 46,.fieldAddr 92 (.tmp 45) 0,none),
 (some 47,.load 84 (.tmp 46),none),
 (some 48,.slice 84 (.tmp 47) (some (.const (.int .i64 1))) none none,none),
 (some 49,.nilCheck (.tmp 43),none),
 (some 50,.fieldAddr 92 (.tmp 49) 0,none),
 (none,.store 84 (.tmp 50) (.tmp 48),none)]
abbrev Z49:List (SOp×Nat):=[((some 53,.move (.tmp 0),none),0),
 ((some 54,.move (.tmp 1),none),0),
 ((some 55,.binOp .add 3 (.tmp 54) (.const (.int .i64 1)) 3,none),0),
 ((some 56,.call ⟨.value (.func 119),#[(.tmp 53),(.tmp 55)],#[90,3]⟩,none),0),
 ((some 51,.move (.tmp 6),none),1),
 ((some 52,.load 35 (.tmp 5),none),1),
 ((some 57,.buildSlice 28 2 #[(0,(.tmp 52)),(1,(.tmp 56))],none),0),
 ((some 58,.build 35 #[(0,(.tmp 51)),(3,(.tmp 57))],none),0),
 ((none,.store 35 (.tmp 5) (.tmp 58),none),0)]
abbrev Z6g:List SOp:=[(some 59,.move (.tmp 1),none),
 (some 60,.binOp .eql 3 (.tmp 59) (.const (.int .i64 0)) 3,none)]
abbrev Z2o:List SOp:=[(some 61,.load 35 (.tmp 5),none),
 (none,.store 35 (.tmp 4) (.tmp 61),none)]
def Ze8:SCode:=.block 1 (.seq (.dreg Z52) (.seq (.seq (.reg Z4z) (.cond (.tmp 41) (.seq (.reg Z5n) (.ret)) (.skip))) (.seq (.reg Z4k) (.seq (.dreg Z49) (.seq (.reg Z6g) (.cond (.tmp 60) (.seq (.reg Z2o) (.ret)) (.skip)))))))
abbrev S119:SCode:=.seq (.reg Z5j) (.seq (.seq (.reg Z4i) (.cond (.tmp 9) (.seq (.reg Z5m) (.ret)) (.skip))) (.seq (.reg Z7u) (.block 0 (.loop Ze8))))
theorem Z1c:Zh tab 119 (Tryz.f119.body.getD .skip)=S119:=by kernel_rfl
theorem Ycc {xs:List V} {H:Hp} {Q P:V->Hp->Prop} (h:WCr tab P S119 (frame xs 0 .nil) H (resQ tab [.cell 4 35] Q)):WR tab 119 xs H Q P:=WR.of_slim (T:=tab) (f:=119) rfl Yhx rfl Z1c rfl h
abbrev Zu7:List SOp:=[(some 2,.alloc 35,none)]
abbrev Zr3:List SOp:=[(some 3,.assign (.const (.int .i64 18)),none)]
abbrev Zue:List SOp:=[(some 8,.move (.tmp 0),none),
 (some 9,.call ⟨.value (.func 76),#[(.tmp 8),(.const (.string ⟨#[0x2d]⟩))],#[90,9]⟩,none),
 (some 7,.assign (.tmp 9),none)]
abbrev Zs9:List SOp:=[(some 3,.assign (.const (.int .i64 6)),none)]
abbrev Zs2:List SOp:=[(some 11,.move (.tmp 0),none),
 (some 12,.call ⟨.value (.func 76),#[(.tmp 11),(.const (.string ⟨#[0x21]⟩))],#[90,9]⟩,none),
 (some 10,.assign (.tmp 12),none)]
abbrev Zt0:List SOp:=[(some 3,.assign (.const (.int .i64 7)),none)]
abbrev Zrx:List SOp:=[(some 5,.move (.tmp 0),none),
 (some 6,.call ⟨.value (.func 179),#[(.tmp 5)],#[90]⟩,none),
 (none,.store 35 (.tmp 2) (.tmp 6),none)]
abbrev Zt7:List SOp:=[(some 13,.move (.tmp 0),none),
 (some 14,.call ⟨.value (.func 118),#[(.tmp 13)],#[90]⟩,none)]
abbrev Zur:List SOp:=[(some 15,.move (.tmp 0),none),
 (some 16,.call ⟨.value (.func 157),#[(.tmp 15)],#[90]⟩,none),
 (some 4,.alloc 35,none),
 (none,.store 35 (.tmp 4) (.tmp 16),none)]
abbrev Zvr:List SOp:=[(some 17,.move (.tmp 0),none),
 (some 18,.nilCheck (.tmp 17),none),
 (some 19,.fieldAddr 92 (.tmp 18) 1,none),
 (some 20,.load 3 (.tmp 19),none),
 (some 21,.binOp .sub 3 (.tmp 20) (.const (.int .i64 1)) 3,none),
 (some 22,.nilCheck (.tmp 17),none),
 (some 23,.fieldAddr 92 (.tmp 22) 1,none),
 (none,.store 3 (.tmp 23) (.tmp 21),none)]
abbrev Zpa:List SOp:=[(some 24,.move (.tmp 3),none),
 (some 25,.load 35 (.tmp 4),none),
 (some 26,.buildSlice 28 1 #[(0,(.tmp 25))],none),
 (some 27,.build 35 #[(0,(.tmp 24)),(3,(.tmp 26))],none),
 (none,.store 35 (.tmp 2) (.tmp 27),none)]
abbrev S157:SCode:=.seq (.reg Zu7) (.seq (.reg Zr3) (.seq (.block 0 (.seq (.reg Zue) (.cond (.tmp 7) (.reg Zs9) (.seq (.reg Zs2) (.cond (.tmp 10) (.reg Zt0) (.seq (.reg Zrx) (.ret))))))) (.seq (.reg Zt7) (.seq (.reg Zur) (.seq (.reg Zvr) (.seq (.reg Zpa) (.ret)))))))
theorem Z1n:Zh tab 157 (Tryz.f157.body.getD .skip)=S157:=by kernel_rfl
theorem Ygh {xs:List V} {H:Hp} {Q P:V->Hp->Prop} (h:WCr tab P S157 (frame xs 0 .nil) H (resQ tab [.cell 2 35] Q)):WR tab 157 xs H Q P:=WR.of_slim (T:=tab) (f:=157) rfl Yg1 rfl Z1n rfl h
abbrev Z8a:List SOp:=[(some 2,.alloc 35,none)]
abbrev Z4d:List SOp:=[(some 4,.move (.tmp 0),none),
 (some 5,.call ⟨.value (.func 189),#[(.tmp 4)],#[90]⟩,none),
 (some 3,.alloc 35,none),
 (none,.store 35 (.tmp 3) (.tmp 5),none)]
abbrev Zva:List SOp:=[(some 8,.move (.tmp 0),none),
 (some 9,.call ⟨.value (.func 76),#[(.tmp 8),(.const (.string ⟨#[0x28]⟩))],#[90,9]⟩,none),
 (some 7,.assign (.tmp 9),none)]
abbrev Zsm:List (SOp×Nat):=[((some 12,.move (.tmp 0),none),0),
 ((some 13,.call ⟨.value (.func 190),#[(.tmp 12),(.const (.string ⟨#[0x29]⟩))],#[90,9]⟩,none),0),
 ((some 10,.load 35 (.tmp 3),none),1),
 ((some 11,.buildSlice 28 1 #[(0,(.tmp 10))],none),1),
 ((some 14,.call ⟨.builtin .append,#[(.tmp 11),(.tmp 13)],#[28,28]⟩,none),0),
 ((some 15,.build 35 #[(0,(.const (.int .i64 15))),(3,(.tmp 14))],none),0),
 ((none,.store 35 (.tmp 3) (.tmp 15),none),0)]
abbrev Zu2:List SOp:=[(some 17,.move (.tmp 0),none),
 (some 18,.call ⟨.value (.func 76),#[(.tmp 17),(.const (.string ⟨#[0x5b]⟩))],#[90,9]⟩,none),
 (some 16,.assign (.tmp 18),none)]
abbrev Zwb:List (SOp×Nat):=[((some 20,.move (.tmp 0),none),0),
 ((some 21,.call ⟨.value (.func 77),#[(.tmp 20)],#[90]⟩,none),0),
 ((some 19,.load 35 (.tmp 3),none),1),
 ((some 22,.buildSlice 28 2 #[(0,(.tmp 19)),(1,(.tmp 21))],none),0),
 ((some 23,.build 35 #[(0,(.const (.int .i64 14))),(3,(.tmp 22))],none),0),
 ((none,.store 35 (.tmp 3) (.tmp 23),none),0)]
abbrev Zse:List SOp:=[(some 24,.move (.tmp 0),none),
 (some 25,.call ⟨.value (.func 78),#[(.tmp 24),(.const (.string ⟨#[0x5d]⟩))],#[90,9]⟩,none)]
abbrev Zso:List SOp:=[(some 27,.move (.tmp 0),none),
 (some 28,.call ⟨.value (.func 76),#[(.tmp 27),(.const (.string ⟨#[0x2e]⟩))],#[90,9]⟩,none),
 (some 26,.assign (.tmp 28),none)]
abbrev Ztn:List (SOp×Nat):=[((some 30,.move (.tmp 0),none),0),
 ((some 31,.call ⟨.value (.func 79),#[(.tmp 30)],#[90]⟩,none),0),
 ((some 29,.load 35 (.tmp 3),none),1),
 ((some 32,.build 35 #[(0,(.const (.int .i64 4))),(2,(.tmp 31))],none),0),
 ((some 33,.buildSlice 28 2 #[(0,(.tmp 29)),(1,(.tmp 32))],none),0),
 ((some 34,.build 35 #[(0,(.const (.int .i64 14))),(3,(.tmp 33))],none),0),
 ((none,.store 35 (.tmp 3) (.tmp 34),none),0)]
abbrev Zsp:List SOp:=[(some 6,.load 35 (.tmp 3),none),
 (none,.store 35 (.tmp 2) (.tmp 6),none)]
def Z5x:SCode:=.block 1 (.block 2 (.seq (.reg Zva) (.cond (.tmp 7) (.dreg Zsm) (.seq (.reg Zu2) (.cond (.tmp 16) (.seq (.dreg Zwb) (.reg Zse)) (.seq (.reg Zso) (.cond (.tmp 26) (.dreg Ztn) (.seq (.reg Zsp) (.ret)))))))))
abbrev S179:SCode:=.seq (.reg Z8a) (.seq (.reg Z4d) (.block 0 (.loop Z5x)))
theorem Z2h:Zh tab 179 (Tryz.f179.body.getD .skip)=S179:=by kernel_rfl
theorem Ya2 {xs:List V} {H:Hp} {Q P:V->Hp->Prop} (h:WCr tab P S179 (frame xs 0 .nil) H (resQ tab [.cell 2 35] Q)):WR tab 179 xs H Q P:=WR.of_slim (T:=tab) (f:=179) rfl Ydb rfl Z2h rfl h
abbrev Z75:List SOp:=[(some 2,.alloc 35,none)]
abbrev Z72:List SOp:=[(some 5,.move (.tmp 0),none),
 (some 6,.nilCheck (.tmp 5),none),
 (some 7,.fieldAddr 92 (.tmp 6) 0,none),
 (some 8,.load 84 (.tmp 7),none),
 (some 9,.indexAddr 84 (.tmp 8) (.const (.int .i64 0)),none),
 (some 10,.load 95 (.tmp 9),none),
 (some 3,.alloc 95,none),
 (none,.store 95 (.tmp 3) (.tmp 10),none)]
abbrev Z7o:List SOp:=[(some 12,.fieldAddr 95 (.tmp 3) 0,none),
 (some 13,.load 93 (.tmp 12),none),
 (some 14,.binOp .eql 93 (.tmp 13) (.const (.int .i64 2)) 93,none),
 (some 11,.assign (.tmp 14),none)]
abbrev Z8e:List SOp:=[(some 15,.move (.tmp 0),none),
 (some 16,.move (.tmp 0),none),
 (some 17,.nilCheck (.tmp 16),none),
 (some 18,.fieldAddr 92 (.tmp 17) 0,none),
 (some 19,.load 84 (.tmp 18),none),
 (some 20,.slice 84 (.tmp 19) (some (.const (.int .i64 1))) none none,none),
 (some 21,.nilCheck (.tmp 15),none),
 (some 22,.fieldAddr 92 (.tmp 21) 0,none),
 (none,.store 84 (.tmp 22) (.tmp 20),none)]
abbrev Z77:List SOp:=[(some 23,.fieldAddr 95 (.tmp 3) 2,none),
 (some 24,.load 2 (.tmp 23),none),
 (some 25,.build 35 #[(0,(.const (.int .i64 3))),(1,(.tmp 24))],none),
 (none,.store 35 (.tmp 2) (.tmp 25),none)]
abbrev Z5g:List SOp:=[(some 27,.fieldAddr 95 (.tmp 3) 0,none),
 (some 28,.load 93 (.tmp 27),none),
 (some 29,.binOp .eql 93 (.tmp 28) (.const (.int .i64 3)) 93,none),
 (some 26,.assign (.tmp 29),none)]
abbrev Z53:List SOp:=[(some 30,.move (.tmp 0),none),
 (some 31,.move (.tmp 0),none),
 (some 32,.nilCheck (.tmp 31),none),
 (some 33,.fieldAddr 92 (.tmp 32) 0,none),
 (some 34,.load 84 (.tmp 33),none),
 (some 35,.slice 84 (.tmp 34) (some (.const (.int .i64 1))) none none,none),
 (some 36,.nilCheck (.tmp 30),none),
 (some 37,.fieldAddr 92 (.tmp 36) 0,none),
 (none,.store 84 (.tmp 37) (.tmp 35),none)]
abbrev Z6c:List SOp:=[(some 38,.fieldAddr 95 (.tmp 3) 1,none),
 (some 39,.load 9 (.tmp 38),none),
 (some 40,.build 35 #[(0,(.const (.int .i64 4))),(2,(.tmp 39))],none),
 (none,.store 35 (.tmp 2) (.tmp 40),none)]
abbrev Z5l:List SOp:=[(some 42,.move (.tmp 0),none),
 (some 43,.call ⟨.value (.func 76),#[(.tmp 42),(.const (.string ⟨#[0x6e,0x69,0x6c]⟩))],#[90,9]⟩,none),
 (some 41,.assign (.tmp 43),none)]
abbrev Z50:List SOp:=[(some 44,.build 35 #[(0,(.const (.int .i64 0)))],none),
 (none,.store 35 (.tmp 2) (.tmp 44),none)]
abbrev Z21:List SOp:=[(some 46,.move (.tmp 0),none),
 (some 47,.call ⟨.value (.func 76),#[(.tmp 46),(.const (.string ⟨#[0x74,0x72,0x75,0x65]⟩))],#[90,9]⟩,none),
 (some 45,.assign (.tmp 47),none)]
abbrev Z0u:List SOp:=[(some 48,.build 35 #[(0,(.const (.int .i64 2)))],none),
 (none,.store 35 (.tmp 2) (.tmp 48),none)]
abbrev Z1p:List SOp:=[(some 50,.move (.tmp 0),none),
 (some 51,.call ⟨.value (.func 76),#[(.tmp 50),(.const (.string ⟨#[0x66,0x61,0x6c,0x73,0x65]⟩))],#[90,9]⟩,none),
 (some 49,.assign (.tmp 51),none)]
abbrev Z0o:List SOp:=[(some 52,.build 35 #[(0,(.const (.int .i64 1)))],none),
 (none,.store 35 (.tmp 2) (.tmp 52),none)]
abbrev Z0l:List SOp:=[(some 54,.move (.tmp 0),none),
 (some 55,.call ⟨.value (.func 76),#[(.tmp 54),(.const (.string ⟨#[0x28]⟩))],#[90,9]⟩,none),
 (some 53,.assign (.tmp 55),none)]
abbrev Z1o:List SOp:=[(some 56,.move (.tmp 0),none),
 (some 57,.call ⟨.value (.func 77),#[(.tmp 56)],#[90]⟩,none),
 (some 4,.alloc 35,none),
 (none,.store 35 (.tmp 4) (.tmp 57),none)]
abbrev Z2q:List SOp:=[(some 58,.move (.tmp 0),none),
 (some 59,.call ⟨.value (.func 78),#[(.tmp 58),(.const (.string ⟨#[0x29]⟩))],#[90,9]⟩,none)]
abbrev Z2d:List SOp:=[(some 60,.load 35 (.tmp 4),none),
 (none,.store 35 (.tmp 2) (.tmp 60),none)]
abbrev Z2i:List SOp:=[(some 62,.move (.tmp 0),none),
 (some 63,.call ⟨.value (.func 76),#[(.tmp 62),(.const (.string ⟨#[0x7b]⟩))],#[90,9]⟩,none),
 (some 61,.assign (.tmp 63),none)]
abbrev Z1z:List SOp:=[(some 64,.move (.tmp 0),none),
 (some 65,.call ⟨.value (.func 199),#[(.tmp 64)],#[90]⟩,none),
 (none,.store 35 (.tmp 2) (.tmp 65),none)]
abbrev Z2k:List SOp:=[(some 67,.move (.tmp 0),none),
 (some 68,.call ⟨.value (.func 76),#[(.tmp 67),(.const (.string ⟨#[0x66,0x6e]⟩))],#[90,9]⟩,none),
 (some 66,.assign (.tmp 68),none)]
abbrev Z0h:List SOp:=[(some 69,.move (.tmp 0),none),
 (some 70,.call ⟨.value (.func 200),#[(.tmp 69)],#[90]⟩,none),
 (none,.store 35 (.tmp 2) (.tmp 70),none)]
abbrev Z3f:List SOp:=[(some 71,.move (.tmp 0),none),
 (some 72,.call ⟨.value (.func 79),#[(.tmp 71)],#[90]⟩,none),
 (some 73,.build 35 #[(0,(.const (.int .i64 5))),(2,(.tmp 72))],none),
 (none,.store 35 (.tmp 2) (.tmp 73),none)]
abbrev S189:SCode:=.seq (.reg Z75) (.seq (.reg Z72) (.seq (.block 0 (.seq (.reg Z7o) (.cond (.tmp 11) (.seq (.reg Z8e) (.seq (.reg Z77) (.ret))) (.seq (.reg Z5g) (.cond (.tmp 26) (.seq (.reg Z53) (.seq (.reg Z6c) (.ret))) (.seq (.reg Z5l) (.cond (.tmp 41) (.seq (.reg Z50) (.ret)) (.seq (.reg Z21) (.cond (.tmp 45) (.seq (.reg Z0u) (.ret)) (.seq (.reg Z1p) (.cond (.tmp 49) (.seq (.reg Z0o) (.ret)) (.seq (.reg Z0l) (.cond (.tmp 53) (.seq (.reg Z1o) (.seq (.reg Z2q) (.seq (.reg Z2d) (.ret)))) (.seq (.reg Z2i) (.cond (.tmp 61) (.seq (.reg Z1z) (.ret)) (.seq (.reg Z2k) (.cond (.tmp 66) (.seq (.reg Z0h) (.ret)) (.skip)))))))))))))))))) (.seq (.reg Z3f) (.ret))))
theorem Z08:Zh tab 189 (Tryz.f189.body.getD .skip)=S189:=by kernel_rfl
theorem Ydv {xs:List V} {H:Hp} {Q P:V->Hp->Prop} (h:WCr tab P S189 (frame xs 0 .nil) H (resQ tab [.cell 2 35] Q)):WR tab 189 xs H Q P:=WR.of_slim (T:=tab) (f:=189) rfl Yhe rfl Z08 rfl h
abbrev Z4u:List SOp:=[(some 4,.assign (.const (.slice none 0 0)),none)]
abbrev Z6l:List SOp:=[(some 5,.assign (.const (.slice none 0 0)),none)]
abbrev Zto:List SOp:=[(some 6,.move (.tmp 0),none),
 (some 7,.move (.tmp 1),none),
 (some 8,.call ⟨.value (.func 76),#[(.tmp 6),(.tmp 7)],#[90,9]⟩,none),
 (some 9,.unOp .not 4 (.tmp 8),none)]
abbrev Zt9:List SOp:=[(some 10,.move (.tmp 5),none),
 (some 11,.call ⟨.builtin .len,#[(.tmp 10)],#[28]⟩,none),
 (some 12,.binOp .gtr 3 (.tmp 11) (.const (.int .i64 0)) 3,none)]
abbrev Zv9:List SOp:=[(some 13,.move (.tmp 0),none),
 (some 14,.call ⟨.value (.func 78),#[(.tmp 13),(.const (.string ⟨#[0x2c]⟩))],#[90,9]⟩,none)]
abbrev Ztl:List SOp:=[(some 15,.move (.tmp 5),none),
 (some 16,.move (.tmp 0),none),
 (some 17,.call ⟨.value (.func 77),#[(.tmp 16)],#[90]⟩,none),
 (some 18,.buildSlice 28 1 #[(0,(.tmp 17))],none),
 (some 19,.call ⟨.builtin .append,#[(.tmp 15),(.tmp 18)],#[28,28]⟩,none),
 (some 5,.assign (.tmp 19),none)]
def Z8c:SCode:=.seq (.seq (.reg Zto) (.cond (.tmp 9) (.skip) (.exit 0))) (.block 1 (.seq (.seq (.reg Zt9) (.cond (.tmp 12) (.reg Zv9) (.skip))) (.reg Ztl)))
abbrev Z3p:List SOp:=[(some 20,.move (.tmp 5),none),
 (some 4,.assign (.tmp 20),none)]
abbrev S190:SCode:=.seq (.reg Z4u) (.seq (.reg Z6l) (.seq (.block 0 (.loop Z8c)) (.seq (.reg Z3p) (.ret))))
theorem Z3g:Zh tab 190 (Tryz.f190.body.getD .skip)=S190:=by kernel_rfl
theorem Ya4 {xs:List V} {H:Hp} {Q P:V->Hp->Prop} (h:WCr tab P S190 (frame xs 0 .nil) H (resQ tab [.tmp 4] Q)):WR tab 190 xs H Q P:=WR.of_slim (T:=tab) (f:=190) rfl Z9p rfl Z3g rfl h
abbrev Z5v:List SOp:=[(some 2,.alloc 35,none)]
abbrev Z76:List SOp:=[(some 5,.build 35 #[(0,(.const (.int .i64 16)))],none),
 (some 3,.alloc 35,none),
 (none,.store 35 (.tmp 3) (.tmp 5),none)]
abbrev Zsa:List SOp:=[(some 6,.move (.tmp 0),none),
 (some 7,.call ⟨.value (.func 76),#[(.tmp 6),(.const (.string ⟨#[0x7d]⟩))],#[90,9]⟩,none),
 (some 8,.unOp .not 4 (.tmp 7),none)]
abbrev Ztj:List SOp:=[(some 9,.fieldAddr 35 (.tmp 3) 3,none),
 (some 10,.load 28 (.tmp 9),none),
 (some 11,.call ⟨.builtin .len,#[(.tmp 10)],#[28]⟩,none),
 (some 12,.binOp .gtr 3 (.tmp 11) (.const (.int .i64 0)) 3,none)]
abbrev Zug:List SOp:=[(some 13,.move (.tmp 0),none),
 (some 14,.call ⟨.value (.func 78),#[(.tmp 13),(.const (.string ⟨#[0x2c]⟩))],#[90,9]⟩,none)]
abbrev Zuy:List SOp:=[(some 15,.build 35 #[(0,(.const (.int .i64 4)))],none),
 (some 4,.alloc 35,none),
 (none,.store 35 (.tmp 4) (.tmp 15),none)]
abbrev Zuu:List SOp:=[(some 16,.move (.tmp 0),none),
 (some 17,.call ⟨.value (.func 76),#[(.tmp 16),(.const (.string ⟨#[0x5b]⟩))],#[90,9]⟩,none)]
abbrev Zti:List SOp:=[(some 18,.move (.tmp 0),none),
 (some 19,.call ⟨.value (.func 77),#[(.tmp 18)],#[90]⟩,none),
 (none,.store 35 (.tmp 4) (.tmp 19),none)]
abbrev Zt2:List SOp:=[(some 20,.move (.tmp 0),none),
 (some 21,.call ⟨.value (.func 78),#[(.tmp 20),(.const (.string ⟨#[0x5d]⟩))],#[90,9]⟩,none)]
abbrev Zrm:List SOp:=[(some 22,.move (.tmp 0),none),
 (some 23,.call ⟨.value (.func 79),#[(.tmp 22)],#[90]⟩,none),
 (some 24,.fieldAddr 35 (.tmp 4) 2,none),
 (none,.store 9 (.tmp 24) (.tmp 23),none)]
abbrev Zp4:List SOp:=[(some 25,.move (.tmp 0),none),
 (some 26,.call ⟨.value (.func 78),#[(.tmp 25),(.const (.string ⟨#[0x3a]⟩))],#[90,9]⟩,none)]
abbrev Zp9:List (SOp×Nat):=[((some 30,.move (.tmp 0),none),0),
 ((some 31,.call ⟨.value (.func 77),#[(.tmp 30)],#[90]⟩,none),0),
 ((some 27,.fieldAddr 35 (.tmp 3) 3,none),1),
 ((some 28,.load 28 (.tmp 27),none),1),
 ((some 29,.load 35 (.tmp 4),none),1),
 ((some 32,.buildSlice 28 2 #[(0,(.tmp 29)),(1,(.tmp 31))],none),0),
 ((some 33,.call ⟨.builtin .append,#[(.tmp 28),(.tmp 32)],#[28,28]⟩,none),0),
 ((some 34,.fieldAddr 35 (.tmp 3) 3,none),0),
 ((none,.store 28 (.tmp 34) (.tmp 33),none),0)]
def Z3m:SCode:=.seq (.seq (.reg Zsa) (.cond (.tmp 8) (.skip) (.exit 0))) (.block 1 (.seq (.seq (.reg Ztj) (.cond (.tmp 12) (.reg Zug) (.skip))) (.seq (.reg Zuy) (.seq (.seq (.reg Zuu) (.cond (.tmp 17) (.seq (.reg Zti) (.reg Zt2)) (.reg Zrm))) (.seq (.reg Zp4) (.dreg Zp9))))))
abbrev Z0f:List SOp:=[(some 35,.load 35 (.tmp 3),none),
 (none,.store 35 (.tmp 2) (.tmp 35),none)]
abbrev S199:SCode:=.seq (.reg Z5v) (.seq (.reg Z76) (.seq (.block 0 (.loop Z3m)) (.seq (.reg Z0f) (.ret))))
theorem Z1r:Zh tab 199 (Tryz.f199.body.getD .skip)=S199:=by kernel_rfl
theorem Z8r {xs:List V} {H:Hp} {Q P:V->Hp->Prop} (h:WCr tab P S199 (frame xs 0 .nil) H (resQ tab [.cell 2 35] Q)):WR tab 199 xs H Q P:=WR.of_slim (T:=tab) (f:=199) rfl Yah rfl Z1r rfl h
abbrev Z40:List SOp:=[(some 2,.alloc 35,none)]
abbrev Z4b:List SOp:=[(some 4,.build 35 #[(0,(.const (.int .i64 17)))],none),
 (some 3,.alloc 35,none),
 (none,.store 35 (.tmp 3) (.tmp 4),none)]
abbrev Z4q:List SOp:=[(some 5,.move (.tmp 0),none),
 (some 6,.call ⟨.value (.func 78),#[(.tmp 5),(.const (.string ⟨#[0x28]⟩))],#[90,9]⟩,none)]
abbrev Zu4:List SOp:=[(some 7,.move (.tmp 0),none),
 (some 8,.call ⟨.value (.func 76),#[(.tmp 7),(.const (.string ⟨#[0x29]⟩))],#[90,9]⟩,none),
 (some 9,.unOp .not 4 (.tmp 8),none)]
abbrev Ztx:List SOp:=[(some 10,.fieldAddr 35 (.tmp 3) 4,none),
 (some 11,.load 33 (.tmp 10),none),
 (some 12,.call ⟨.builtin .len,#[(.tmp 11)],#[33]⟩,none),
 (some 13,.binOp .gtr 3 (.tmp 12) (.const (.int .i64 0)) 3,none)]
abbrev Zrw:List SOp:=[(some 14,.move (.tmp 0),none),
 (some 15,.call ⟨.value (.func 78),#[(.tmp 14),(.const (.string ⟨#[0x2c]⟩))],#[90,9]⟩,none)]
abbrev Zv5:List (SOp×Nat):=[((some 18,.move (.tmp 0),none),0),
 ((some 19,.call ⟨.value (.func 79),#[(.tmp 18)],#[90]⟩,none),0),
 ((some 16,.fieldAddr 35 (.tmp 3) 4,none),1),
 ((some 17,.load 33 (.tmp 16),none),1),
 ((some 20,.buildSlice 33 1 #[(0,(.tmp 19))],none),0),
 ((some 21,.call ⟨.builtin .append,#[(.tmp 17),(.tmp 20)],#[33,33]⟩,none),0),
 ((some 22,.fieldAddr 35 (.tmp 3) 4,none),0),
 ((none,.store 33 (.tmp 22) (.tmp 21),none),0)]
def Z3n:SCode:=.seq (.seq (.reg Zu4) (.cond (.tmp 9) (.skip) (.exit 0))) (.block 1 (.seq (.seq (.reg Ztx) (.cond (.tmp 13) (.reg Zrw) (.skip))) (.dreg Zv5)))
abbrev Z4w:List SOp:=[(some 23,.move (.tmp 0),none),
 (some 24,.call ⟨.value (.func 80),#[(.tmp 23)],#[90]⟩,none),
 (some 25,.fieldAddr 35 (.tmp 3) 5,none),
 (none,.store 24 (.tmp 25) (.tmp 24),none)]
abbrev Z4v:List SOp:=[(some 26,.load 35 (.tmp 3),none),
 (none,.store 35 (.tmp 2) (.tmp 26),none)]
abbrev S200:SCode:=.seq (.reg Z40) (.seq (.reg Z4b) (.seq (.reg Z4q) (.seq (.block 0 (.loop Z3n)) (.seq (.reg Z4w) (.seq (.reg Z4v) (.ret))))))
theorem Z1t:Zh tab 200 (Tryz.f200.body.getD .skip)=S200:=by kernel_rfl
theorem Ygi {xs:List V} {H:Hp} {Q P:V->Hp->Prop} (h:WCr tab P S200 (frame xs 0 .nil) H (resQ tab [.cell 2 35] Q)):WR tab 200 xs H Q P:=WR.of_slim (T:=tab) (f:=200) rfl Yag rfl Z1t rfl h
abbrev Yhf:List SOp:=[(some 2,.assign (.const (.slice none 0 0)),none)]
abbrev Yb2:List SOp:=[(some 4,.move (.tmp 0),none),
 (some 5,.call ⟨.value (.func 78),#[(.tmp 4),(.const (.string ⟨#[0x7b]⟩))],#[90,9]⟩,none)]
abbrev Yhg:List SOp:=[(some 6,.move (.tmp 0),none),
 (some 7,.call ⟨.value (.func 118),#[(.tmp 6)],#[90]⟩,none)]
abbrev Yd4:List SOp:=[(some 3,.assign (.const (.slice none 0 0)),none)]
abbrev Yfg:List SOp:=[(some 8,.move (.tmp 0),none),
 (some 9,.call ⟨.value (.func 76),#[(.tmp 8),(.const (.string ⟨#[0x7d]⟩))],#[90,9]⟩,none),
 (some 10,.unOp .not 4 (.tmp 9),none)]
abbrev Yc3:List SOp:=[(some 11,.move (.tmp 3),none),
 (some 12,.move (.tmp 0),none),
 (some 13,.call ⟨.value (.func 53),#[(.tmp 12)],#[90]⟩,none),
 (some 14,.buildSlice 24 1 #[(0,(.tmp 13))],none),
 (some 15,.call ⟨.builtin .append,#[(.tmp 11),(.tmp 14)],#[24,24]⟩,none),
 (some 3,.assign (.tmp 15),none)]
def Zyq:SCode:=.seq (.seq (.reg Yfg) (.cond (.tmp 10) (.skip) (.exit 0))) (.block 1 (.reg Yc3))
abbrev Ydy:List SOp:=[(some 16,.move (.tmp 0),none),
 (some 17,.nilCheck (.tmp 16),none),
 (some 18,.fieldAddr 92 (.tmp 17) 1,none),
 (some 19,.load 3 (.tmp 18),none),
 (some 20,.binOp .sub 3 (.tmp 19) (.const (.int .i64 1)) 3,none),
 (some 21,.nilCheck (.tmp 16),none),
 (some 22,.fieldAddr 92 (.tmp 21) 1,none),
 (none,.store 3 (.tmp 22) (.tmp 20),none)]
abbrev Yg4:List SOp:=[(some 23,.move (.tmp 3),none),
 (some 2,.assign (.tmp 23),none)]
abbrev S80:SCode:=.seq (.reg Yhf) (.seq (.reg Yb2) (.seq (.reg Yhg) (.seq (.reg Yd4) (.seq (.block 0 (.loop Zyq)) (.seq (.reg Ydy) (.seq (.reg Yg4) (.ret)))))))
theorem Z67:Zh tab 80 (Tryz.f80.body.getD .skip)=S80:=by kernel_rfl
theorem wr80 {xs:List V} {H:Hp} {Q P:V->Hp->Prop} (h:WCr tab P S80 (frame xs 0 .nil) H (resQ tab [.tmp 2] Q)):WR tab 80 xs H Q P:=WR.of_slim (T:=tab) (f:=80) rfl fn80 rfl Z67 rfl h
abbrev Zzl:List SOp:=[(some 2,.alloc 30,none)]
abbrev Zy9:List SOp:=[(some 6,.move (.tmp 0),none),
 (some 7,.nilCheck (.tmp 6),none),
 (some 8,.fieldAddr 92 (.tmp 7) 0,none),
 (some 9,.load 84 (.tmp 8),none),
 (some 10,.indexAddr 84 (.tmp 9) (.const (.int .i64 0)),none),
 (some 11,.fieldAddr 95 (.tmp 10) 3,none),
 (some 12,.load 3 (.tmp 11),none),
 (some 13,.build 30 #[(5,(.tmp 12))],none),
 (some 3,.alloc 30,none),
 (none,.store 30 (.tmp 3) (.tmp 13),none)]
abbrev Zzq:List SOp:=[(some 14,.load 122 (.global 2),none),
 (some 15,.move (.const (.int .i64 0)),none)]
abbrev Zzz:List SOp:=[(some 16,.binOp .lss 3 (.tmp 15) (.const (.int .i64 2)) 3,none)]
abbrev Zzj:List SOp:=[(some 17,.index 122 (.tmp 14) (.tmp 15),none),
 (some 5,.alloc 121,none),
 (none,.store 121 (.tmp 5) (.tmp 17),none)]
abbrev Zzk:List SOp:=[(some 18,.move (.tmp 0),none),
 (some 19,.fieldAddr 121 (.tmp 5) 0,none),
 (some 20,.load 9 (.tmp 19),none),
 (some 21,.call ⟨.value (.func 76),#[(.tmp 18),(.tmp 20)],#[90,9]⟩,none)]
abbrev Zym:List (SOp×Nat):=[((some 24,.move (.tmp 0),none),0),
 ((some 25,.call ⟨.value (.func 77),#[(.tmp 24)],#[90]⟩,none),0),
 ((some 22,.fieldAddr 121 (.tmp 5) 1,none),1),
 ((some 23,.load 27 (.tmp 22),none),1),
 ((some 27,.fieldAddr 30 (.tmp 3) 0,none),0),
 ((none,.store 27 (.tmp 27) (.tmp 23),none),0),
 ((some 26,.buildSlice 28 1 #[(0,(.tmp 25))],none),1),
 ((some 28,.fieldAddr 30 (.tmp 3) 2,none),0),
 ((none,.store 28 (.tmp 28) (.tmp 26),none),0)]
abbrev Zy1:List SOp:=[(some 29,.move (.tmp 0),none),
 (some 30,.call ⟨.value (.func 78),#[(.tmp 29),(.const (.string ⟨#[0x3b]⟩))],#[90,9]⟩,none)]
abbrev Zze:List SOp:=[(some 31,.load 30 (.tmp 3),none),
 (none,.store 30 (.tmp 2) (.tmp 31),none)]
abbrev Zyr:List SOp:=[(some 32,.binOp .add 3 (.tmp 15) (.const (.int .i64 1)) 3,none),
 (some 15,.move (.tmp 32),none)]
def Ycs:SCode:=.seq (.reg Zzz) (.seq (.cond (.tmp 16) (.skip) (.exit 0)) (.seq (.block 1 (.seq (.reg Zzj) (.seq (.reg Zzk) (.cond (.tmp 21) (.seq (.dreg Zym) (.seq (.reg Zy1) (.seq (.reg Zze) (.ret)))) (.skip))))) (.reg Zyr)))
abbrev Zv6:List SOp:=[(some 36,.move (.tmp 0),none),
 (some 37,.call ⟨.value (.func 76),#[(.tmp 36),(.const (.string ⟨#[0x6c,0x65,0x74]⟩))],#[90,9]⟩,none),
 (some 35,.assign (.tmp 37),none)]
abbrev Ztg:List SOp:=[(some 38,.move (.tmp 0),none),
 (some 39,.call ⟨.value (.func 79),#[(.tmp 38)],#[90]⟩,none),
 (some 40,.fieldAddr 30 (.tmp 3) 1,none),
 (none,.store 9 (.tmp 40) (.tmp 39),none)]
abbrev Zsj:List SOp:=[(some 41,.move (.tmp 0),none),
 (some 42,.call ⟨.value (.func 78),#[(.tmp 41),(.const (.string ⟨#[0x3d]⟩))],#[90,9]⟩,none)]
abbrev Zv3:List SOp:=[(some 43,.move (.tmp 0),none),
 (some 44,.call ⟨.value (.func 77),#[(.tmp 43)],#[90]⟩,none),
 (some 45,.buildSlice 28 1 #[(0,(.tmp 44))],none),
 (some 46,.fieldAddr 30 (.tmp 3) 2,none),
 (none,.store 28 (.tmp 46) (.tmp 45),none)]
abbrev Zwc:List SOp:=[(some 47,.move (.tmp 0),none),
 (some 48,.call ⟨.value (.func 78),#[(.tmp 47),(.const (.string ⟨#[0x3b]⟩))],#[90,9]⟩,none)]
abbrev Zut:List SOp:=[(some 50,.move (.tmp 0),none),
 (some 51,.call ⟨.value (.func 76),#[(.tmp 50),(.const (.string ⟨#[0x69,0x66]⟩))],#[90,9]⟩,none),
 (some 49,.assign (.tmp 51),none)]
abbrev Zs5:List SOp:=[(some 52,.move (.tmp 0),none),
 (some 53,.call ⟨.value (.func 77),#[(.tmp 52)],#[90]⟩,none),
 (some 54,.buildSlice 28 1 #[(0,(.tmp 53))],none),
 (some 55,.fieldAddr 30 (.tmp 3) 0,none),
 (none,.store 27 (.tmp 55) (.const (.int .i64 3)),none),
 (some 56,.fieldAddr 30 (.tmp 3) 2,none),
 (none,.store 28 (.tmp 56) (.tmp 54),none)]
abbrev Zvi:List SOp:=[(some 57,.move (.tmp 0),none),
 (some 58,.call ⟨.value (.func 80),#[(.tmp 57)],#[90]⟩,none),
 (some 59,.fieldAddr 30 (.tmp 3) 3,none),
 (none,.store 24 (.tmp 59) (.tmp 58),none)]
abbrev Zvh:List SOp:=[(some 60,.move (.tmp 0),none),
 (some 61,.call ⟨.value (.func 76),#[(.tmp 60),(.const (.string ⟨#[0x65,0x6c,0x73,0x65]⟩))],#[90,9]⟩,none)]
abbrev Zsw:List SOp:=[(some 62,.move (.tmp 0),none),
 (some 63,.call ⟨.value (.func 80),#[(.tmp 62)],#[90]⟩,none),
 (some 64,.fieldAddr 30 (.tmp 3) 4,none),
 (none,.store 24 (.tmp 64) (.tmp 63),none)]
abbrev Zs3:List SOp:=[(some 66,.move (.tmp 0),none),
 (some 67,.call ⟨.value (.func 76),#[(.tmp 66),(.const (.string ⟨#[0x77,0x68,0x69,0x6c,0x65]⟩))],#[90,9]⟩,none),
 (some 65,.assign (.tmp 67),none)]
abbrev Zvu:List SOp:=[(some 68,.move (.tmp 0),none),
 (some 69,.call ⟨.value (.func 77),#[(.tmp 68)],#[90]⟩,none),
 (some 70,.buildSlice 28 1 #[(0,(.tmp 69))],none),
 (some 71,.fieldAddr 30 (.tmp 3) 0,none),
 (none,.store 27 (.tmp 71) (.const (.int .i64 4)),none),
 (some 72,.fieldAddr 30 (.tmp 3) 2,none),
 (none,.store 28 (.tmp 72) (.tmp 70),none)]
abbrev Zrz:List SOp:=[(some 73,.move (.tmp 0),none),
 (some 74,.call ⟨.value (.func 80),#[(.tmp 73)],#[90]⟩,none),
 (some 75,.fieldAddr 30 (.tmp 3) 3,none),
 (none,.store 24 (.tmp 75) (.tmp 74),none)]
abbrev Ztu:List SOp:=[(some 77,.move (.tmp 0),none),
 (some 78,.call ⟨.value (.func 76),#[(.tmp 77),(.const (.string ⟨#[0x74,0x72,0x79]⟩))],#[90,9]⟩,none),
 (some 76,.assign (.tmp 78),none)]
abbrev Zrv:List SOp:=[(some 79,.move (.tmp 0),none),
 (some 80,.call ⟨.value (.func 80),#[(.tmp 79)],#[90]⟩,none),
 (some 81,.fieldAddr 30 (.tmp 3) 0,none),
 (none,.store 27 (.tmp 81) (.const (.int .i64 7)),none),
 (some 82,.fieldAddr 30 (.tmp 3) 3,none),
 (none,.store 24 (.tmp 82) (.tmp 80),none)]
abbrev Zvd:List SOp:=[(some 83,.move (.tmp 0),none),
 (some 84,.call ⟨.value (.func 78),#[(.tmp 83),(.const (.string ⟨#[0x63,0x61,0x74,0x63,0x68]⟩))],#[90,9]⟩,none)]
abbrev Zuj:List SOp:=[(some 85,.move (.tmp 0),none),
 (some 86,.call ⟨.value (.func 79),#[(.tmp 85)],#[90]⟩,none),
 (some 87,.fieldAddr 30 (.tmp 3) 1,none),
 (none,.store 9 (.tmp 87) (.tmp 86),none)]
abbrev Zt3:List SOp:=[(some 88,.move (.tmp 0),none),
 (some 89,.call ⟨.value (.func 80),#[(.tmp 88)],#[90]⟩,none),
 (some 90,.fieldAddr 30 (.tmp 3) 4,none),
 (none,.store 24 (.tmp 90) (.tmp 89),none)]
abbrev Zts:List SOp:=[(some 33,.move (.tmp 0),none),
 (some 34,.call ⟨.value (.func 81),#[(.tmp 33),(.tmp 3)],#[90,127]⟩,none)]
abbrev Zss:List SOp:=[(some 91,.load 30 (.tmp 3),none),
 (none,.store 30 (.tmp 2) (.tmp 91),none)]
abbrev S53:SCode:=.seq (.reg Zzl) (.seq (.reg Zy9) (.seq (.seq (.reg Zzq) (.block 0 (.loop Ycs))) (.seq (.block 2 (.seq (.reg Zv6) (.cond (.tmp 35) (.seq (.reg Ztg) (.seq (.reg Zsj) (.seq (.reg Zv3) (.reg Zwc)))) (.seq (.reg Zut) (.cond (.tmp 49) (.seq (.reg Zs5) (.seq (.reg Zvi) (.seq (.reg Zvh) (.cond (.tmp 61) (.reg Zsw) (.skip))))) (.seq (.reg Zs3) (.cond (.tmp 65) (.seq (.reg Zvu) (.reg Zrz)) (.seq (.reg Ztu) (.cond (.tmp 76) (.seq (.reg Zrv) (.seq (.reg Zvd) (.seq (.reg Zuj) (.reg Zt3)))) (.reg Zts)))))))))) (.seq (.reg Zss) (.ret)))))
theorem Z36:Zh tab 53 (Tryz.f53.body.getD .skip)=S53:=by kernel_rfl
theorem wr53 {xs:List V} {H:Hp} {Q P:V->Hp->Prop} (h:WCr tab P S53 (frame xs 0 .nil) H (resQ tab [.cell 2 30] Q)):WR tab 53 xs H Q P:=WR.of_slim (T:=tab) (f:=53) rfl fn53 rfl Z36 rfl h
abbrev Zz7:List SOp:=[(some 7,.move (.tmp 0),none),
 (some 8,.nilCheck (.tmp 7),none),
 (some 9,.fieldAddr 92 (.tmp 8) 0,none),
 (some 10,.load 84 (.tmp 9),none),
 (some 4,.assign (.tmp 10),none)]
abbrev Z0b:List SOp:=[(some 11,.move (.tmp 0),none),
 (some 12,.call ⟨.value (.func 77),#[(.tmp 11)],#[90]⟩,none),
 (some 5,.alloc 35,none),
 (none,.store 35 (.tmp 5) (.tmp 12),none)]
abbrev Zzo:List (SOp×Nat):=[((some 13,.move (.tmp 1),none),0),
 ((some 17,.nilCheck (.tmp 13),none),0),
 ((some 18,.fieldAddr 30 (.tmp 17) 0,none),0),
 ((none,.store 27 (.tmp 18) (.const (.int .i64 8)),none),0),
 ((some 14,.move (.tmp 1),none),1),
 ((some 15,.load 35 (.tmp 5),none),1),
 ((some 16,.buildSlice 28 1 #[(0,(.tmp 15))],none),1),
 ((some 19,.nilCheck (.tmp 14),none),0),
 ((some 20,.fieldAddr 30 (.tmp 19) 2,none),0),
 ((none,.store 28 (.tmp 20) (.tmp 16),none),0)]
abbrev Zzb:List SOp:=[(some 21,.move (.tmp 0),none),
 (some 22,.nilCheck (.tmp 21),none),
 (some 23,.fieldAddr 92 (.tmp 22) 0,none),
 (some 24,.load 84 (.tmp 23),none),
 (some 25,.indexAddr 84 (.tmp 24) (.const (.int .i64 0)),none),
 (some 26,.fieldAddr 95 (.tmp 25) 0,none),
 (some 27,.load 93 (.tmp 26),none),
 (some 28,.binOp .eql 93 (.tmp 27) (.const (.int .i64 4)) 93,none),
 (some 29,.move (.tmp 28),none),
 (some 30,.move (.tmp 0),some (some 29,true)),
 (some 31,.nilCheck (.tmp 30),some (some 29,true)),
 (some 32,.fieldAddr 92 (.tmp 31) 0,some (some 29,true)),
 (some 33,.load 84 (.tmp 32),some (some 29,true)),
 (some 34,.indexAddr 84 (.tmp 33) (.const (.int .i64 0)),some (some 29,true)),
 (some 35,.fieldAddr 95 (.tmp 34) 1,some (some 29,true)),
 (some 36,.load 9 (.tmp 35),some (some 29,true)),
 (some 37,.binOp .eql 9 (.tmp 36) (.const (.string ⟨#[0x3d]⟩)) 9,some (some 29,true)),
 (some 38,.pick (.tmp 29) (.tmp 37) (.const (.bool false)),none)]
abbrev Zz4:List SOp:=[(some 39,.fieldAddr 35 (.tmp 5) 0,none),
 (some 40,.load 32 (.tmp 39),none)]
abbrev Zy5:List SOp:=[(some 48,.binOp .eql 32 (.tmp 40) (.const (.int .i64 5)) 32,none),
 (some 47,.assign (.tmp 48),none)]
abbrev Zzf:List (SOp×Nat):=[((some 49,.move (.tmp 1),none),0),
 ((some 53,.nilCheck (.tmp 49),none),0),
 ((some 54,.fieldAddr 30 (.tmp 53) 0,none),0),
 ((none,.store 27 (.tmp 54) (.const (.int .i64 1)),none),0),
 ((some 50,.move (.tmp 1),none),1),
 ((some 51,.fieldAddr 35 (.tmp 5) 2,none),1),
 ((some 52,.load 9 (.tmp 51),none),1),
 ((some 55,.nilCheck (.tmp 50),none),0),
 ((some 56,.fieldAddr 30 (.tmp 55) 1,none),0),
 ((none,.store 9 (.tmp 56) (.tmp 52),none),0)]
abbrev Zyt:List SOp:=[(some 58,.binOp .eql 32 (.tmp 40) (.const (.int .i64 14)) 32,none),
 (some 57,.assign (.tmp 58),none)]
abbrev Zrt:List SOp:=[(some 59,.move (.tmp 1),none),
 (some 60,.nilCheck (.tmp 59),none),
 (some 61,.fieldAddr 30 (.tmp 60) 0,none),
 (none,.store 27 (.tmp 61) (.const (.int .i64 2)),none)]
abbrev Zyz:List SOp:=[(some 41,.move (.tmp 0),none),
 (some 42,.move (.tmp 4),none),
 (some 43,.nilCheck (.tmp 41),none),
 (some 44,.fieldAddr 92 (.tmp 43) 0,none),
 (none,.store 84 (.tmp 44) (.tmp 42),none)]
abbrev Z0c:List SOp:=[(some 45,.move (.tmp 0),none),
 (some 46,.call ⟨.value (.func 120),#[(.tmp 45),(.const (.int .i64 7))],#[90,47]⟩,none)]
abbrev Zuw:List SOp:=[(some 62,.move (.tmp 0),none),
 (some 63,.call ⟨.value (.func 78),#[(.tmp 62),(.const (.string ⟨#[0x3d]⟩))],#[90,9]⟩,none)]
abbrev Zru:List SOp:=[(some 64,.move (.tmp 0),none),
 (some 65,.call ⟨.value (.func 77),#[(.tmp 64)],#[90]⟩,none),
 (some 6,.alloc 35,none),
 (none,.store 35 (.tmp 6) (.tmp 65),none)]
abbrev Zvf:List SOp:=[(some 66,.move (.tmp 1),none),
 (some 67,.load 35 (.tmp 6),none),
 (some 68,.buildSlice 28 1 #[(0,(.tmp 67))],none),
 (some 69,.nilCheck (.tmp 66),none),
 (some 70,.fieldAddr 30 (.tmp 69) 2,none),
 (none,.store 28 (.tmp 70) (.tmp 68),none)]
abbrev Zsr:List SOp:=[(some 71,.move (.tmp 1),none),
 (some 72,.nilCheck (.tmp 71),none),
 (some 73,.fieldAddr 30 (.tmp 72) 0,none),
 (some 74,.load 27 (.tmp 73),none),
 (some 75,.binOp .eql 27 (.tmp 74) (.const (.int .i64 2)) 27,none)]
abbrev Zrr:List (SOp×Nat):=[((some 77,.buildSlice 28 0 #[],none),0),
 ((some 78,.fieldAddr 35 (.tmp 5) 3,none),0),
 ((some 79,.load 28 (.tmp 78),none),0),
 ((some 80,.call ⟨.builtin .append,#[(.tmp 77),(.tmp 79)],#[28,28]⟩,none),0),
 ((some 81,.load 35 (.tmp 6),none),1),
 ((some 82,.buildSlice 28 1 #[(0,(.tmp 81))],none),1),
 ((some 83,.call ⟨.builtin .append,#[(.tmp 80),(.tmp 82)],#[28,28]⟩,none),0),
 ((some 76,.move (.tmp 1),none),2),
 ((some 84,.nilCheck (.tmp 76),none),0),
 ((some 85,.fieldAddr 30 (.tmp 84) 2,none),0),
 ((none,.store 28 (.tmp 85) (.tmp 83),none),0)]
abbrev Zr5:List SOp:=[(some 86,.move (.tmp 0),none),
 (some 87,.call ⟨.value (.func 78),#[(.tmp 86),(.const (.string ⟨#[0x3b]⟩))],#[90,9]⟩,none)]
abbrev S81:SCode:=.seq (.reg Zz7) (.seq (.reg Z0b) (.seq (.dreg Zzo) (.seq (.seq (.reg Zzb) (.cond (.tmp 38) (.seq (.seq (.reg Zz4) (.block 0 (.seq (.reg Zy5) (.cond (.tmp 47) (.dreg Zzf) (.seq (.reg Zyt) (.cond (.tmp 57) (.reg Zrt) (.seq (.reg Zyz) (.reg Z0c)))))))) (.seq (.reg Zuw) (.seq (.reg Zru) (.seq (.reg Zvf) (.seq (.reg Zsr) (.cond (.tmp 75) (.dreg Zrr) (.skip))))))) (.skip))) (.reg Zr5))))
theorem Z44:Zh tab 81 (Tryz.f81.body.getD .skip)=S81:=by kernel_rfl
theorem wr81 {xs:List V} {H:Hp} {Q P:V->Hp->Prop} (h:WCr tab P S81 (frame xs 0 .nil) H (resQ tab [] Q)):WR tab 81 xs H Q P:=WR.of_slim (T:=tab) (f:=81) rfl fn81 rfl Z44 rfl h
end Go.AM.YtlillgmgpmbfnaaGreatDoorT
namespace Go.AM.YtlillgmgpmbfnaaGreatDoorT
open Go Go.AM
end Go.AM.YtlillgmgpmbfnaaGreatDoorT
namespace Go.AM
open Go
section
variable {T:Tab}
end
theorem Zr {b n:Nat} (h:b < n):((b=n)=False/\(n=b)=False)/\((b=n+1)=False/\(n+1=b)=False)/\((b=n+1+1)=False/\(n+1+1=b)=False)/\((b=n+1+1+1)=False/\(n+1+1+1=b)=False)/\((b=n+1+1+1+1)=False/\(n+1+1+1+1=b)=False)/\((b=n+1+1+1+1+1)=False/\(n+1+1+1+1+1=b)=False):=by
 simp only [eq_iff_iff,iff_false];omega
theorem Zj {b c:Nat} (h:b≠c):(b=c)=False/\(c=b)=False:=by
 simp only [eq_iff_iff,iff_false];omega
theorem Ext.putX {X:Nat->Prop} {H H1:Hp} (h:Ext X H H1) {b:Nat} (o:Ob) (hb:X b\/H.next<=b):Ext X H (H1.put b o) :=
 ⟨h.st,h.le,fun c hc hx=>by
  rw [Zf o (fun e=>by subst e;exact hb.elim hx (fun h=>absurd hc (Nat.not_lt.2 h)))];exact h.get c hc hx⟩
inductive Tx where
 | ex (op:Nat) (num:Int) (text:List UInt8) (parts:List Tx) (params:List (List UInt8)) (body:List Tx)
 | st (kind:Nat) (name:List UInt8) (exprs body els:List Tx) (at_:Int)
def Yf (K:Nat->Prop) (H:Hp) (z n:Nat) (v:V) (P:List V->Prop):Prop :=
 (v = .nils\/v = .sle)/\n=0\/∃ b off cap e ro cells,v = .sl b off n cap z/\H.get b=some (.row e z ro cells)/\K b/\b < H.next/\off % z=0/\off+n*z<=cells.length/\P (cells.drop off)/\∀ c,cap=some c->n<=c
mutual
def Ze (K:Nat->Prop) (H:Hp):Tx->List V->Prop
 | .ex op num text parts params body,cs=>∃ vp vq vb,cs=[.int .i64 op,.int .i64 num,.str text,vp,vq,vb]/\Yf K H 6 parts.length vp (Zi K H parts)/\Yf K H 1 params.length vq (fun cs=>cs.take params.length=params.map .str)/\Yf K H 6 body.length vb (Zi K H body)
 | .st kind name es b e at_,cs=>∃ ve vb vl,cs=[.int .i64 kind,.str name,ve,vb,vl,.int .i64 at_]/\Yf K H 6 es.length ve (Zi K H es)/\Yf K H 6 b.length vb (Zi K H b)/\Yf K H 6 e.length vl (Zi K H e)
def Zi (K:Nat->Prop) (H:Hp):List Tx->List V->Prop
 | [],_=>True
 | x :: r,cs=>Ze K H x (cs.take 6)/\Zi K H r (cs.drop 6)
end
abbrev Zl (K:Nat->Prop) (H:Hp) (l:List Tx) (v:V):Prop:=Yf K H 6 l.length v (Zi K H l)
abbrev Z2 (K:Nat->Prop) (H:Hp) (l:List (List UInt8)) (v:V):Prop:=Yf K H 1 l.length v (fun cs=>cs.take l.length=l.map .str)
structure Stays (K K' : Nat->Prop) (H H' : Hp):Prop where
 k:∀ b,K b->b < H.next->K' b
 get:∀ b,K b->b < H.next->H'.get b=H.get b
 le:H.next<=H'.next
theorem Stays.refl (K:Nat->Prop) (H:Hp):Stays K K H H:=⟨fun _ h _=>h,fun _ _ _=>rfl,Nat.le_refl _⟩
theorem Stays.trans {K K1 K2:Nat->Prop} {H H1 H2:Hp} (h:Stays K K1 H H1) (h' : Stays K1 K2 H1 H2):Stays K K2 H H2 :=
 ⟨fun b hb hl=>h'.k b (h.k b hb hl) (Nat.lt_of_lt_of_le hl h.le),fun b hb hl=>(h'.get b (h.k b hb hl) (Nat.lt_of_lt_of_le hl h.le)).trans (h.get b hb hl),Nat.le_trans h.le h'.le⟩
theorem Ext.stays {X K K' : Nat->Prop} {H H' : Hp} (h:Ext X H H') (hx:∀ b,K b->b < H.next->¬ X b) (hk:∀ b,K b->b < H.next->K' b):Stays K K' H H':=⟨hk,fun b hb hl=>h.get b hl (hx b hb hl),h.le⟩
theorem Yf.mono {K K' : Nat->Prop} {H H' : Hp} {z n:Nat} {v:V} {P P' : List V->Prop} (h:Yf K H z n v P) (hS:Stays K K' H H') (hP:∀ cs,P cs->P' cs):Yf K' H' z n v P':=by
 rcases h with h | ⟨b,off,cap,e,ro,cells,h1,h2,h3,h4,h5,h6,h7,h8⟩
 ·exact .inl h
 ·exact .inr ⟨b,off,cap,e,ro,cells,h1,by rw [hS.get b h3 h4];exact h2,hS.k b h3 h4,Nat.lt_of_lt_of_le h4 hS.le,h5,h6,hP _ h7,h8⟩
section
variable {K K' : Nat->Prop} {H H' : Hp}
mutual
theorem Ze.mono (hS:Stays K K' H H'):∀ (t:Tx) (cs:List V),Ze K H t cs->Ze K' H' t cs
 | .ex op num text parts params body,cs,h=>by
  simp only [Ze] at h ⊢
  obtain ⟨vp,vq,vb,h1,h2,h3,h4⟩:=h
  exact ⟨vp,vq,vb,h1,h2.mono hS (Zi.mono hS parts),h3.mono hS fun _ h=>h,h4.mono hS (Zi.mono hS body)⟩
 | .st kind name es b e at_,cs,h=>by
  simp only [Ze] at h ⊢
  obtain ⟨ve,vb,vl,h1,h2,h3,h4⟩:=h
  exact ⟨ve,vb,vl,h1,h2.mono hS (Zi.mono hS es),h3.mono hS (Zi.mono hS b),h4.mono hS (Zi.mono hS e)⟩
theorem Zi.mono (hS:Stays K K' H H'):∀ (l:List Tx) (cs:List V),Zi K H l cs->Zi K' H' l cs
 | [],cs,h=>by simp only [Zi]
 | x :: r,cs,h=>by
  simp only [Zi] at h ⊢
  exact ⟨Ze.mono hS x _ h.1,Zi.mono hS r _ h.2⟩
end
theorem Zl.mono (hS:Stays K K' H H') {l:List Tx} {v:V} (h:Zl K H l v):Zl K' H' l v:=Yf.mono h hS (Zi.mono hS l)
theorem Z2.mono (hS:Stays K K' H H') {l:List (List UInt8)} {v:V} (h:Z2 K H l v):Z2 K' H' l v:=Yf.mono h hS fun _ h=>h
theorem Zi.at_:∀ (l:List Tx) (cs:List V) (i:Nat) (hi:i < l.length),Zi K H l cs->Ze K H l[i] ((cs.drop (i*6)).take 6)
 | x :: r,cs,0,hi,h=>by simp only [Zi] at h;simpa using h.1
 | x :: r,cs,i+1,hi,h=>by
  simp only [Zi] at h
  have:=Zi.at_ r (cs.drop 6) i (by simpa using hi) h.2
  rw [List.drop_drop,show 6+i*6=(i+1)*6 by omega] at this
  simpa using this
theorem Zi.app:∀ (l:List Tx) (x:Tx) (cs ds:List V),cs.length=l.length*6->Zi K H l cs->Ze K H x (ds.take 6)->Zi K H (l++[x]) (cs++ds)
 | [],x,cs,ds,hl,_,hx=>by
  have:cs=[]:=List.eq_nil_of_length_eq_zero (by simpa using hl)
  subst this
  simp only [List.nil_append,Zi]
  exact ⟨hx,trivial⟩
 | y :: r,x,cs,ds,hl,h,hx=>by
  simp only [List.length_cons] at hl
  simp only [Zi] at h
  simp only [List.cons_append,Zi]
  refine ⟨?_,?_⟩
  ·rw [List.take_append_of_le_length (by omega)];exact h.1
  ·rw [List.drop_append_of_le_length (by omega)]
   exact Zi.app r x _ ds (by rw [List.length_drop];omega) h.2 hx
theorem Zi.more:∀ (l:List Tx) (cs ds:List V),l.length*6<=cs.length->(Zi K H l (cs++ds) ↔ Zi K H l cs)
 | [],cs,ds,_=>by simp only [Zi]
 | y :: r,cs,ds,hl=>by
  simp only [List.length_cons] at hl
  simp only [Zi]
  rw [List.take_append_of_le_length (by omega),List.drop_append_of_le_length (by omega),Zi.more r _ ds (by rw [List.length_drop];omega)]
theorem Zi.take {l:List Tx} {cs:List V} {n:Nat} (hn:l.length*6<=n) (hc:n<=cs.length):Zi K H l cs ↔ Zi K H l (cs.take n):=by
 conv=>lhs;rw [<- List.take_append_drop n cs]
 exact Zi.more l _ _ (by rw [List.length_take];omega)
theorem Zi.drop:∀ (k:Nat) (l:List Tx) (cs:List V),Zi K H l cs->Zi K H (l.drop k) (cs.drop (k*6))
 | 0,l,cs,h=>by simpa using h
 | k+1,[],cs,h=>by simp only [List.drop_nil,Zi]
 | k+1,x :: r,cs,h=>by
  simp only [Zi] at h
  have:=Zi.drop k r (cs.drop 6) h.2
  rw [List.drop_drop,show 6+k*6=(k+1)*6 by omega] at this
  simpa using this
theorem Yf.len {z n:Nat} {v:V} {P:List V->Prop} (h:Yf K H z n v P) (e:TypeId):lenV v (some (.slice e))=some (.int .i64 n):=by
 rcases h with ⟨rfl | rfl,rfl⟩ | ⟨b,off,cap,e,ro,cells,rfl,_⟩<;>rfl
theorem Yf.cells {z n:Nat} {v:V} {P:List V->Prop} (h:Yf K H z n v P):Zy v=[v]:=by
 rcases h with ⟨rfl | rfl,rfl⟩ | ⟨b,off,cap,e,ro,cells,rfl,_⟩<;>rfl
theorem Yf.one {z n:Nat} {v:V} {P:List V->Prop} (h:Yf K H z n v P):oneV v=true:=by
 rcases h with ⟨rfl | rfl,rfl⟩ | ⟨b,off,cap,e,ro,cells,rfl,_⟩<;>rfl
theorem Yf.eqv {z n:Nat} {v:V} {P:List V->Prop} (h:Yf K H z n v P):eqV v v=true:=by
 rcases h with ⟨rfl | rfl,rfl⟩ | ⟨b,off,cap,e,ro,cells,rfl,_⟩<;>simp [eqV]
theorem Ze.len:∀ {t:Tx} {cs:List V},Ze K H t cs->cs.length=6
 | .ex ..,cs,h=>by simp only [Ze] at h;obtain ⟨_,_,_,rfl,_⟩:=h;rfl
 | .st ..,cs,h=>by simp only [Ze] at h;obtain ⟨_,_,_,rfl,_⟩:=h;rfl
theorem Ze.ones:∀ {t:Tx} {cs:List V},Ze K H t cs->cs.all oneV=true
 | .ex ..,cs,h=>by simp only [Ze] at h;obtain ⟨vp,vq,vb,rfl,h1,h2,h3⟩:=h;simp [h1.one,h2.one,h3.one,Zds,Zc8]
 | .st ..,cs,h=>by simp only [Ze] at h;obtain ⟨vp,vq,vb,rfl,h1,h2,h3⟩:=h;simp [h1.one,h2.one,h3.one,Zds,Zc8]
theorem Ze.six {t:Tx} {cs:List V} (h:Ze K H t cs):∃ c0 c1 c2 c3 c4 c5,cs=[c0,c1,c2,c3,c4,c5]/\oneV c0=true/\oneV c1=true/\oneV c2=true/\oneV c3=true/\oneV c4=true/\oneV c5=true:=by
 have h1:=h.len
 have h2:=h.ones
 match cs,h1 with
 | [c0,c1,c2,c3,c4,c5],_ =>
  simp only [List.all_cons,List.all_nil,Bool.and_true,Bool.and_eq_true] at h2
  exact ⟨c0,c1,c2,c3,c4,c5,rfl,h2⟩
theorem Yf.row {z n i:Nat} {v:V} {P:List V->Prop} (h:Yf K H z n v P) (hi:i < n):∃ b off cap e ro cells,v = .sl b off n cap z/\H.get b=some (.row e z ro cells)/\K b/\b < H.next/\off % z=0/\off+n*z<=cells.length/\P (cells.drop off):=by
 rcases h with ⟨_,rfl⟩ | h
 ·omega
 ·obtain ⟨b,off,cap,e,ro,cells,h1,h2,h3,h4,h5,h6,h7,h8⟩:=h
  exact ⟨b,off,cap,e,ro,cells,h1,h2,h3,h4,h5,h6,h7⟩
theorem Yf.of_slAt {z n:Nat} {v:V} {e:TypeId} {l:List V} {P:List V->Prop} (h:SlAt H e z v n l) (hk:∀ b∈Za v,K b/\b < H.next) (hP:∀ cs,n*z<=cs.length->cs.take (n*z)=l->P cs):Yf K H z n v P:=by
 cases h with
 | nil=>exact .inl ⟨.inl rfl,rfl⟩
 | row b n cs hg hl =>
  have:=hk b (by simp [Za])
  exact .inr ⟨b,0,none,e,false,cs,rfl,hg,this.1,this.2,by simp,by simpa using hl,by simpa using hP cs hl rfl,fun c hc=>by cases hc⟩
theorem Zl.of_slAt {n:Nat} {v:V} {e:TypeId} {l:List V} {ts:List Tx} (h:SlAt H e 6 v n l) (hk:∀ b∈Za v,K b/\b < H.next) (hn:ts.length=n) (hP:Zi K H ts l):Zl K H ts v:=by
 subst hn
 exact Yf.of_slAt h hk fun cs h1 h2=>by rw [Zi.take (Nat.le_refl _) h1,h2];exact hP
theorem Z2.of_slAt {n:Nat} {v:V} {e:TypeId} {ts:List (List UInt8)} (h:SlAt H e 1 v n (ts.map .str)) (hk:∀ b∈Za v,K b/\b < H.next) (hn:ts.length=n):Z2 K H ts v:=by
 subst hn
 exact Yf.of_slAt h hk fun cs h1 h2=>by rw [Nat.mul_one] at h2;exact h2
end
abbrev Z4 (H0 H:Hp):Nat->Prop:=fun x=>H0.next<=x/\x < H.next
abbrev eqR (r:Nat):Nat->Prop:=fun x=>x=r
abbrev twoR (r r' : Nat):Nat->Prop:=fun x=>x=r\/x=r'
theorem Wr {H H' : Hp} {e:TypeId} {z n:Nat} {s s' : V} {l:List V} (hs:H.stale=[]) (hS:SlAt H' e z s' n l) (hA:AppR H s H' s') :
  SlAt H'.flush e z s' n l/\(∀ c,c < H.next->c∉Za s->H'.flush.get c=H.get c)/\H'.flush.stale=[]/\H.next<=H'.flush.next/\(∀ r∈Za s',r < H'.flush.next/\(r∈Za s\/H.next<=r)):=by
 refine ⟨hS.of_get fun b hb=>?_,fun c hc hr=>?_,Hp.stale_flush _,by rw [Hp.next_flush];exact hA.le,fun r hr=>?_⟩
 ·rw [Hp.get_flush,if_neg (hA.new b hb).1]
 ·have:=hA.keep c hc hr (by simp [hs])
  rw [Hp.get_flush,if_neg this.2]
  exact this.1
 ·have:=hA.new r hr
  rw [Hp.next_flush]
  exact ⟨this.2.1,this.2.2⟩
abbrev Kv (H0:Hp) (R:Nat->Prop) (v:V):Nat->Prop:=fun x=>H0.next<=x/\¬ R x/\x∉Za v
theorem SlAt.own {H:Hp} {e:TypeId} {z n:Nat} {v:V} {l:List V} (h:SlAt H e z v n l):∀ b∈Za v,∃ cs,H.get b=some (.row e z false cs):=by
 cases h with
 | nil=>intro b hb;simp [Za] at hb
 | row b n cs hg hl=>intro c hc;simp [Za] at hc;subst hc;exact ⟨_,hg⟩
structure Gro (H0 H:Hp) (R:Nat->Prop) (e:TypeId) (v:V) (ts:List Tx):Prop where
 st:H.stale=[]
 le:H0.next<=H.next
 sl:∃ l,SlAt H e 6 v ts.length l/\Zi (Kv H0 R v) H ts l
 rows:∀ b∈Za v,H0.next<=b/\b < H.next/\¬ R b
theorem Gro.nil {H0 H:Hp} {R:Nat->Prop} {e:TypeId} (hs:H.stale=[]) (hl:H0.next<=H.next):Gro H0 H R e .nils [] :=
 ⟨hs,hl,⟨[],.nil,trivial⟩,fun b hb=>by simp [Za] at hb⟩
theorem Gro.of_get {H0 H H' : Hp} {R:Nat->Prop} {e:TypeId} {v:V} {ts:List Tx} (h:Gro H0 H R e v ts) (hs:H'.stale=[]) (hl:H.next<=H'.next) (hg:∀ b,H0.next<=b->b < H.next->¬ R b->H'.get b=H.get b):Gro H0 H' R e v ts:=by
 obtain ⟨h1,h2,⟨l,h3,h4⟩,h5⟩:=h
 refine ⟨hs,by omega,⟨l,h3.of_get fun b hb=>?_,Zi.mono ⟨fun b hb hx=>hb,fun b hb hx=>hg b hb.1 hx hb.2.1,hl⟩ _ _ h4⟩,fun b hb=>?_⟩
 ·have:=h5 b hb;exact hg b this.1 this.2.1 this.2.2
 ·have:=h5 b hb;exact ⟨this.1,by omega,this.2.2⟩
theorem Gro.step {H0 H H2 Hb H3 H4:Hp} {X R:Nat->Prop} {e:TypeId} {v v' : V} {ts:List Tx} {t:Tx} {l ds:List V} (hG:Gro H0 H R e v ts) (hsl:SlAt H e 6 v ts.length l) (hel:Zi (Kv H0 R v) H ts l)
  (hRl:∀ b,R b->b < H.next) (hX2:Ext X H H2) (hXo:∀ b,H0.next<=b->¬ R b->¬ X b) (hT:Ze (Z4 H H2) H2 t ds) (hS:SlAt H3 e 6 v' (ts.length+1) (l++ds)) (hb:Hb=H2\/Hb=H2.bump) (hA:AppR Hb v H3 v')
  (hs4:H4.stale=[]) (hn4:H3.next<=H4.next) (hg:∀ b,¬ R b->H4.get b=H3.flush.get b):Gro H0 H4 R e v' (ts++[t])/\(∀ b,b < H2.next->¬ R b->b∉Za v->H4.get b=H2.get b)/\Stays (Kv H0 R v) (Kv H0 R v') H H4:=by
 have s2:=hX2.st
 have hbs:Hb.stale=[]:=by rcases hb with rfl | rfl<;>exact s2
 have hbn:H2.next<=Hb.next:=by
  rcases hb with rfl | rfl
  ·exact Nat.le_refl _
  ·exact Nat.le_succ _
 have hbg:∀ c,Hb.get c=H2.get c:=fun c=>by rcases hb with rfl | rfl<;>rfl
 obtain ⟨k1,k2,k3,k4,k5⟩:=Wr hbs hS hA
 have hle:=hX2.le
 have h02:=hG.le
 rw [Hp.next_flush] at k4 k5
 have keep:∀ b,b < H2.next->¬ R b->b∉Za v->H4.get b=H2.get b:=fun b hb hR hr=>by
  rw [hg b hR,k2 b (by omega) hr,hbg]
 have hnew:∀ b∈Za v',H0.next<=b/\b < H4.next/\¬ R b:=fun b hb=>by
  obtain ⟨g1,g2⟩:=k5 b hb
  rcases g2 with g2 | g2
  ·have:=hG.rows b g2;exact ⟨this.1,by omega,this.2.2⟩
  ·exact ⟨by omega,by omega,fun h=>by have:=hRl b h;omega⟩
 have hdl:=hT.len
 have hll:=hsl.len
 have st1:Stays (Kv H0 R v) (Kv H0 R v') H H4:=by
  refine ⟨fun b hb hx=>⟨hb.1,hb.2.1,fun h=>?_⟩,fun b hb hx=>?_,by omega⟩
  ·rcases (k5 b h).2 with g | g
   ·exact hb.2.2 g
   ·omega
  ·rw [keep b (by omega) hb.2.1 hb.2.2]
   exact hX2.get b hx (hXo b hb.1 hb.2.1)
 refine ⟨⟨hs4,by omega,⟨l++ds,?_,?_⟩,hnew⟩,keep,st1⟩
 ·rw [List.length_append]
  exact k1.of_get fun b hb=>hg b (hnew b hb).2.2
 ·have hr:∀ b,H.next<=b->b∉Za v:=fun b hb h=>by have:=(hG.rows b h).2.1;omega
  have hRn:∀ b,H.next<=b->¬ R b:=fun b hb h=>by have:=hRl b h;omega
  have st2:Stays (Z4 H H2) (Kv H0 R v') H2 H4:=by
   refine ⟨fun b hb hx=>⟨by omega,hRn b hb.1,fun h=>?_⟩,fun b hb hx=>keep b hx (hRn b hb.1) (hr b hb.1),by omega⟩
   rcases (k5 b h).2 with g | g
   ·exact hr b hb.1 g
   ·omega
  refine Zi.app ts t l ds hll (Zi.mono st1 _ _ hel) ?_
  rw [List.take_of_length_le (by omega)]
  exact Ze.mono st2 _ _ hT
structure SGro (H0 H:Hp) (R:Nat->Prop) (e:TypeId) (v:V) (ps:List (List UInt8)):Prop where
 st:H.stale=[]
 le:H0.next<=H.next
 sl:SlAt H e 1 v ps.length (ps.map .str)
 rows:∀ b∈Za v,H0.next<=b/\b < H.next/\¬ R b
theorem SGro.step {H0 H H2 Hb H3 H4:Hp} {X R:Nat->Prop} {e:TypeId} {v v' : V} {ps:List (List UInt8)} {s:List UInt8} (hG:SGro H0 H R e v ps)
  (hRl:∀ b,R b->b < H.next) (hX2:Ext X H H2) (hS:SlAt H3 e 1 v' (ps.length+1) (ps.map .str++[.str s])) (hb:Hb=H2\/Hb=H2.bump) (hA:AppR Hb v H3 v')
  (hs4:H4.stale=[]) (hn4:H3.next<=H4.next) (hg:∀ b,¬ R b->H4.get b=H3.flush.get b):SGro H0 H4 R e v' (ps++[s])/\(∀ b,b < H2.next->¬ R b->b∉Za v->H4.get b=H2.get b):=by
 have s2:=hX2.st
 have hbs:Hb.stale=[]:=by rcases hb with rfl | rfl<;>exact s2
 have hbn:H2.next<=Hb.next:=by
  rcases hb with rfl | rfl
  ·exact Nat.le_refl _
  ·exact Nat.le_succ _
 have hbg:∀ c,Hb.get c=H2.get c:=fun c=>by rcases hb with rfl | rfl<;>rfl
 obtain ⟨k1,k2,k3,k4,k5⟩:=Wr hbs hS hA
 have hle:=hX2.le
 have h02:=hG.le
 rw [Hp.next_flush] at k4 k5
 have keep:∀ b,b < H2.next->¬ R b->b∉Za v->H4.get b=H2.get b:=fun b hb hR hr=>by
  rw [hg b hR,k2 b (by omega) hr,hbg]
 have hnew:∀ b∈Za v',H0.next<=b/\b < H4.next/\¬ R b:=fun b hb=>by
  obtain ⟨g1,g2⟩:=k5 b hb
  rcases g2 with g2 | g2
  ·have:=hG.rows b g2;exact ⟨this.1,by omega,this.2.2⟩
  ·exact ⟨by omega,by omega,fun h=>by have:=hRl b h;omega⟩
 refine ⟨⟨hs4,by omega,?_,hnew⟩,keep⟩
 rw [List.length_append,List.map_append]
 exact k1.of_get fun b hb=>hg b (hnew b hb).2.2
theorem SGro.of_get {H0 H H' : Hp} {R:Nat->Prop} {e:TypeId} {v:V} {ps:List (List UInt8)} (h:SGro H0 H R e v ps) (hs:H'.stale=[]) (hl:H.next<=H'.next) (hg:∀ b,H0.next<=b->b < H.next->¬ R b->H'.get b=H.get b):SGro H0 H' R e v ps:=by
 obtain ⟨h1,h2,h3,h5⟩:=h
 refine ⟨hs,by omega,h3.of_get fun b hb=>?_,fun b hb=>?_⟩
 ·have:=h5 b hb;exact hg b this.1 this.2.1 this.2.2
 ·have:=h5 b hb;exact ⟨this.1,by omega,this.2.2⟩
theorem Gro.trees {H0 H H' : Hp} {R K:Nat->Prop} {e:TypeId} {v:V} {ts:List Tx} (h:Gro H0 H R e v ts) (hg:∀ b,H0.next<=b->b < H.next->¬ R b->K b/\H'.get b=H.get b) (hl:H.next<=H'.next):Zl K H' ts v:=by
 obtain ⟨h1,h2,⟨l,h3,h4⟩,h5⟩:=h
 refine Zl.of_slAt (h3.of_get fun b hb=>?_) (fun b hb=>?_) rfl (Zi.mono ⟨fun b hb hx=>(hg b hb.1 hx hb.2.1).1,fun b hb hx=>(hg b hb.1 hx hb.2.1).2,hl⟩ _ _ h4)
 ·have:=h5 b hb;exact (hg b this.1 this.2.1 this.2.2).2
 ·have:=h5 b hb;exact ⟨(hg b this.1 this.2.1 this.2.2).1,by omega⟩
theorem Z2.at_ {K:Nat->Prop} {H:Hp} {l:List (List UInt8)} {v:V} (h:Z2 K H l v) {i:Nat} (hi:i < l.length):∃ b off cap e ro cells,v = .sl b off l.length cap 1/\H.get b=some (.row e 1 ro cells)/\K b/\b < H.next/\off+l.length<=cells.length/\cells[off+i]? = some (.str l[i]):=by
 obtain ⟨b,off,cap,e,ro,cells,h1,h2,h3,h4,h5,h6,h7⟩:=h.row hi
 refine ⟨b,off,cap,e,ro,cells,h1,h2,h3,h4,by omega,?_⟩
 have:=congrArg (fun x=>x[i]?) h7
 simp only [List.getElem?_take,hi,if_true,List.getElem?_drop,List.getElem?_map,List.getElem?_eq_getElem hi,Option.map_some] at this
 exact this
theorem Zl.at_ {K:Nat->Prop} {H:Hp} {l:List Tx} {v:V} (h:Zl K H l v) {i:Nat} (hi:i < l.length):∃ b off cap e ro cells d0 d1 d2 d3 d4 d5,v = .sl b off l.length cap 6/\H.get b=some (.row e 6 ro cells)/\K b/\b < H.next/\off % 6=0/\off+l.length*6<=cells.length/\(cells.drop (off+i*6)).take 6=[d0,d1,d2,d3,d4,d5]/\Ze K H l[i] [d0,d1,d2,d3,d4,d5] /\
  oneV d0=true/\oneV d1=true/\oneV d2=true/\oneV d3=true/\oneV d4=true/\oneV d5=true:=by
 obtain ⟨b,off,cap,e,ro,cells,h1,h2,h3,h4,h5,h6,h7⟩:=h.row hi
 have:=Zi.at_ l _ i hi h7
 rw [List.drop_drop] at this
 obtain ⟨d0,d1,d2,d3,d4,d5,e1,e2⟩:=this.six
 rw [e1] at this
 exact ⟨b,off,cap,e,ro,cells,d0,d1,d2,d3,d4,d5,h1,h2,h3,h4,h5,h6,e1,this,e2⟩
end Go.AM
set_option maxRecDepth 100000
namespace Go.AM
open Go
abbrev bv (c:UInt8):V:=.int .u8 c.toNat
theorem u8lt (c:UInt8):c.toNat < 256:=c.toNat_lt
theorem J7 {a b:UInt8} (h:a≠b):a.toNat≠b.toNat:=fun e=>h (UInt8.toNat_inj.1 e)
theorem Jx {l:List UInt8} {i:Nat} (h:i < l.length):l.drop i=l[i] :: l.drop (i+1):=List.drop_eq_getElem_cons h
theorem Zhw:∀ l:List UInt8,V4 (l.map bv)=some l
 | []=>rfl
 | c :: r=>by
  rw [List.map_cons]
  simp only [V4,Zhw r]
  simp
theorem Zxz (l:List UInt8):(l.map bv).all Zjb=true:=by
 rw [List.all_map,List.all_eq_true]
 intro c _
 have:=u8lt c
 simp [Zjb]
 omega
end Go.AM
set_option maxRecDepth 100000
namespace Go.AM
open Go
def Zb6 (c:UInt8):Bool:=decide (97<=c.toNat)&&decide (c.toNat<=122) || (decide (65<=c.toNat)&&decide (c.toNat<=90)) || decide (c.toNat=95)
def Xb (c:UInt8):Bool:=decide (48<=c.toNat)&&decide (c.toNat<=57)
def U6 (c:UInt8):Bool:=Zb6 c || Xb c
def runN (p:UInt8->Bool):List UInt8->Nat
 | []=>0
 | c :: r=>if p c then runN p r+1 else 0
theorem Ug (p:UInt8->Bool):∀ l,runN p l<=l.length
 | []=>Nat.le_refl _
 | c :: r=>by
  rw [runN]
  have:=Ug p r
  split
  ·simp;omega
  ·simp
def numB {α:Type}:Lib.NumEnd α->Bool
 | .ok _=>true
 | .range=>true
 | _=>false
theorem Zk2 (M:Nat):∀ (l:List UInt8) (acc:Nat),(∀ c∈l,Xb c=true)->numB (Lib.parseUintM M acc l)=true
 | [],acc,h=>by simp [Lib.parseUintM,numB]
 | c :: r,acc,h=>by
  have hc:=h c (by simp)
  simp only [Xb,Bool.and_eq_true,decide_eq_true_eq] at hc
  rw [Lib.parseUintM,if_pos hc]
  split
  ·rfl
  ·split
   ·rfl
   ·exact Zk2 M r _ fun x hx=>h x (by simp [hx])
theorem Zny (p:UInt8->Bool):∀ (l:List UInt8),∀ c∈l.take (runN p l),p c=true
 | [],c,h=>by simp at h
 | x :: r,c,h=>by
  rw [runN] at h
  split at h
  ·rename_i hx
   rw [List.take_succ_cons] at h
   rcases List.mem_cons.1 h with rfl | h
   ·exact hx
   ·exact Zny p r c h
  ·simp at h
theorem Z47 {l:List UInt8} (h0:l≠[]) (h:∀ c∈l,Xb c=true):numB (Lib.parseIntB 64 l)=true:=by
 cases l with
 | nil=>exact absurd rfl h0
 | cons c r =>
  have hc:=h c (by simp)
  simp only [Xb,Bool.and_eq_true,decide_eq_true_eq] at hc
  have h43:¬ (c.toNat=43\/c.toNat=45):=by omega
  have h45:¬ c.toNat=45:=by omega
  have:=Zk2 (2 ^ 64-1) (c :: r) 0 h
  have e:Lib.parseUintB 64 (c :: r)=Lib.parseUintM (2 ^ 64-1) 0 (c :: r):=by rw [Lib.parseUintB,if_neg (by simp)]
  simp only [Lib.parseIntB]
  rw [if_neg h43,e]
  cases hq:Lib.parseUintM (2 ^ 64-1) 0 (c :: r) with
  | ok u =>
   dsimp only
   split
   ·rfl
   ·split<;>rfl
  | range=>rfl
  | _=>rw [hq] at this;cases this
inductive LxR where
 | ok (k:Int) (t:List UInt8) (x:Int) (n:Nat)
 | err (e:Int)
def tokV (k:Int) (t:List UInt8) (x at_:Int):List V:=[.int .i64 k,.str t,.int .i64 x,.int .i64 at_]
def LxR.v:LxR->V
 | .ok k t x n=>.tup [.agg (tokV k t x 0),.int .i64 n,.int .i64 0]
 | .err e=>.tup [.agg (tokV 0 [] 0 0),.int .i64 0,.int .i64 e]
def Vj (s:List UInt8):LxR :=
 match Lib.parseIntB 64 (s.take (runN Xb s)) with
 | .ok v=>if 1 < runN Xb s/\s.head? = some 48 then .err 6 else .ok 2 (s.take (runN Xb s)) v (runN Xb s)
 | _=>.err 6
def qF:List UInt8->List UInt8->Nat->LxR
 | [],_,_=>.err 1
 | c :: r,acc,i =>
  if c=34 then .ok 3 acc 0 (i+1)
  else if c=92 then match r with
   | []=>.err 1
   | d :: r'=>if d=34\/d=92 then qF r' (acc++[d]) (i+2) else if d=110 then qF r' (acc++[10]) (i+2) else .err 1
  else if c.toNat < 32\/126 < c.toNat then .err 1
  else qF r (acc++[c]) (i+1)
theorem Zap (c:UInt8) (r acc:List UInt8) (i:Nat):qF (c :: r) acc i=if c=34 then .ok 3 acc 0 (i+1)
  else if c=92 then (match r with
   | []=>.err 1
   | d :: r'=>if d=34\/d=92 then qF r' (acc++[d]) (i+2) else if d=110 then qF r' (acc++[10]) (i+2) else .err 1)
  else if c.toNat < 32\/126 < c.toNat then .err 1
  else qF r (acc++[c]) (i+1):=by
 cases r<;>simp [qF]
def Zlv:List UInt8:=[40,41,123,125,91,93,59,44,58,46,61,60,43,45,42,33]
def oneF (s:List UInt8):LxR:=match s with
 | []=>.err 1
 | c :: r =>
  if Zb6 c then .ok 1 ((c :: r).take (runN U6 (c :: r))) 0 (runN U6 (c :: r))
  else if Xb c then Vj (c :: r)
  else if c=34 then qF r [] 1
  else if [61,61].isPrefixOf (c :: r) || [33,61].isPrefixOf (c :: r) then .ok 4 ((c :: r).take 2) 0 2
  else if 0<=Lib.indexByte Zlv c then .ok 4 [c] 0 1
  else .err 1
structure Tk where
 k:Int
 t:List UInt8
 x:Int
 at_:Nat
 deriving DecidableEq
def Tk.v (a:Tk):List V:=tokV a.k a.t a.x a.at_
def tksV (l:List Tk):List V:=l.flatMap Tk.v
theorem Zwp (l:List Tk) (a:Tk):tksV (l++[a])=tksV l++a.v:=by simp [tksV]
def notB (c:UInt8):Bool:=c != 10
def spF:Nat->List UInt8->Nat->List Tk->List Tk×Nat×Int
 | 0,_,_,_=>([],0,0)
 | f+1,[],i,acc=>(acc++[⟨0,[],0,i⟩],0,0)
 | f+1,c :: r,i,acc =>
  if c=32\/c=10 then spF f r (i+1) acc
  else if c=35 then spF f ((c :: r).drop (runN notB (c :: r))) (i+runN notB (c :: r)) acc
  else match oneF (c :: r) with
   | .err e=>([],i,e)
   | .ok k t x n=>spF f ((c :: r).drop n) (i+n) (acc++[⟨k,t,x,i⟩])
theorem qF_n:∀ (m:Nat) (l:List UInt8) (acc:List UInt8) (i:Nat),l.length<=m->∀ {k t x n},qF l acc i = .ok k t x n->i+1<=n/\n<=i+l.length
 | _,[],acc,i,_,k,t,x,n,h=>by simp [qF] at h
 | 0,c :: r,acc,i,hm,k,t,x,n,h=>by simp at hm
 | m+1,c :: r,acc,i,hm,k,t,x,n,h=>by
  rw [Zap] at h
  simp only [List.length_cons] at hm ⊢
  split at h
  ·cases h;omega
  ·split at h
   ·split at h
    ·cases h
    ·rename_i d r'
     simp only [List.length_cons] at hm ⊢
     split at h
     ·have:=qF_n m r' _ _ (by omega) h;omega
     ·split at h
      ·have:=qF_n m r' _ _ (by omega) h;omega
      ·cases h
   ·split at h
    ·cases h
    ·have:=qF_n m r _ _ (by omega) h;omega
theorem J0 {c:UInt8} {r:List UInt8} {k:Int} {t:List UInt8} {x:Int} {n:Nat} (h:oneF (c :: r) = .ok k t x n):1<=n/\n<=(c :: r).length:=by
 simp only [oneF] at h
 split at h
 ·rename_i h1
  cases h
  exact ⟨by rw [runN,if_pos (by simp [U6,h1])];omega,Ug _ _⟩
 ·split at h
  ·rename_i h1
   unfold Vj at h
   split at h
   ·split at h
    ·cases h
    ·cases h
     exact ⟨by rw [runN,if_pos h1];omega,Ug _ _⟩
   ·cases h
  ·split at h
   ·have:=qF_n r.length r _ _ (Nat.le_refl _) h
    simp only [List.length_cons];omega
   ·split at h
    ·rename_i h1
     cases h
     have:2<=(c :: r).length:=by
      simp only [Bool.or_eq_true] at h1
      rcases h1 with h1 | h1<;>exact (List.isPrefixOf_iff_prefix.1 h1).length_le
     omega
    ·split at h
     ·cases h;simp
     ·cases h
def spV (sl:V) (a:Nat) (e:Int):V:=.tup [sl,.int .i64 a,.int .i64 e]
theorem Zat {s:List UInt8} {e:Int} (h:oneF s = .err e):e=1\/e=6:=by
 have q:∀ (m:Nat) (l acc:List UInt8) (i:Nat),l.length<=m->qF l acc i = .err e->e=1:=by
  intro m
  induction m with
  | zero=>intro l acc i hl h;cases l with
   | nil=>simp [qF] at h;exact h.symm
   | cons=>simp at hl
  | succ m ih =>
   intro l acc i hl h
   cases l with
   | nil=>simp [qF] at h;exact h.symm
   | cons c r =>
    simp only [List.length_cons] at hl
    rw [Zap] at h
    split at h
    ·cases h
    ·split at h
     ·split at h
      ·cases h;rfl
      ·rename_i d r'
       simp only [List.length_cons] at hl
       split at h
       ·exact ih r' _ _ (by omega) h
       ·split at h
        ·exact ih r' _ _ (by omega) h
        ·cases h;rfl
     ·split at h
      ·cases h;rfl
      ·exact ih r _ _ (by omega) h
 cases s with
 | nil=>simp [oneF] at h;exact .inl h.symm
 | cons c r =>
  simp only [oneF] at h
  split at h
  ·cases h
  ·split at h
   ·unfold Vj at h
    split at h
    ·split at h
     ·cases h;exact .inr rfl
     ·cases h
    ·cases h;exact .inr rfl
   ·split at h
    ·exact .inl (q _ _ _ _ (Nat.le_refl _) h)
    ·split at h
     ·cases h
     ·split at h
      ·cases h
      ·cases h;exact .inl rfl
def sp (r:List UInt8) (i:Nat) (acc:List Tk):List Tk×Nat×Int:=spF (r.length+1) r i acc
theorem Zcl:∀ (m:Nat) (r:List UInt8) (f g i:Nat) (acc:List Tk),r.length<=m->r.length < f->r.length < g->spF f r i acc=spF g r i acc
 | _,_,0,_,_,_,_,h,_=>by omega
 | _,_,_,0,_,_,_,_,h=>by omega
 | _,[],f+1,g+1,i,acc,_,_,_=>rfl
 | 0,c :: r,f+1,g+1,i,acc,h,_,_=>by simp at h
 | m+1,c :: r,f+1,g+1,i,acc,hm,hf,hg=>by
  simp only [List.length_cons] at hm hf hg
  rw [spF,spF]
  split
  ·exact Zcl m r f g _ _ (by omega) (by omega) (by omega)
  ·split
   ·rename_i h1 h2
    have h3:1<=runN notB (c :: r):=by rw [runN,if_pos (by subst h2;decide)];omega
    exact Zcl m _ f g _ _ (by simp;omega) (by simp;omega) (by simp;omega)
   ·split
    ·rfl
    ·rename_i k t x n hn
     have:=J0 hn
     exact Zcl m _ f g _ _ (by simp;omega) (by simp;omega) (by simp;omega)
theorem Zbd (i:Nat) (acc:List Tk):sp [] i acc=(acc++[⟨0,[],0,i⟩],0,0):=rfl
theorem Xm (c:UInt8) (r:List UInt8) (i:Nat) (acc:List Tk):sp (c :: r) i acc=if c=32\/c=10 then sp r (i+1) acc
  else if c=35 then sp ((c :: r).drop (runN notB (c :: r))) (i+runN notB (c :: r)) acc
  else match oneF (c :: r) with
   | .err e=>([],i,e)
   | .ok k t x n=>sp ((c :: r).drop n) (i+n) (acc++[⟨k,t,x,i⟩]):=by
 unfold sp
 rw [show (c :: r).length+1=(r.length+1)+1 from rfl,spF]
 split
 ·rfl
 ·split
  ·rename_i h1 h2
   have h3:1<=runN notB (c :: r):=by rw [runN,if_pos (by subst h2;decide)];omega
   exact Zcl r.length _ _ _ _ _ (by simp;omega) (by simp;omega) (by simp)
  ·cases hn:oneF (c :: r) with
   | err e=>rfl
   | ok k t x n =>
    have:=J0 hn
    exact Zcl r.length _ _ _ _ _ (by simp;omega) (by simp;omega) (by simp)
theorem Ju (p:UInt8->Bool) (d:UInt8) (y:List UInt8) (hd:p d=false):∀ x:List UInt8,runN p (x++d :: y)=runN p x
 | []=>by simp [runN,hd]
 | c :: x=>by
  rw [List.cons_append,runN,runN,Ju p d y hd x]
theorem Zi0 (y:List UInt8):∀ (m:Nat) (l acc:List UInt8) (i:Nat),l.length<=m->∀ {k t x n},qF l acc i = .ok k t x n->qF (l++y) acc i = .ok k t x n
 | _,[],acc,i,_,k,t,x,n,h=>by simp [qF] at h
 | 0,c :: r,acc,i,hm,k,t,x,n,h=>by simp at hm
 | m+1,c :: r,acc,i,hm,k,t,x,n,h=>by
  rw [List.cons_append]
  rw [Zap] at h ⊢
  simp only [List.length_cons] at hm
  split at h
  ·rename_i h1;rw [if_pos h1];exact h
  ·rename_i h1
   rw [if_neg h1]
   split at h
   ·rename_i h2
    rw [if_pos h2]
    cases r with
    | nil=>cases h
    | cons d r' =>
     simp only [List.length_cons] at hm
     dsimp only [List.cons_append] at h ⊢
     split at h
     ·rename_i h3;rw [if_pos h3];exact Zi0 y m r' _ _ (by omega) h
     ·rename_i h3
      rw [if_neg h3]
      split at h
      ·rename_i h4;rw [if_pos h4];exact Zi0 y m r' _ _ (by omega) h
      ·cases h
   ·rename_i h2
    rw [if_neg h2]
    split at h
    ·cases h
    ·rename_i h3
     rw [if_neg h3]
     exact Zi0 y m r _ _ (by omega) h
theorem Zog (a d:UInt8) (c:UInt8) (x y:List UInt8) (hd:d≠61):[a,61].isPrefixOf (c :: x++d :: y)=[a,61].isPrefixOf (c :: x):=by
 cases x with
 | nil=>simp [List.isPrefixOf];intro _;exact fun h=>hd h.symm
 | cons e x=>simp [List.isPrefixOf]
theorem Zl9 {c:UInt8} {x:List UInt8} {d:UInt8} (hd:U6 d=false) (h61:d≠61) (y:List UInt8) {k t v n} (h:oneF (c :: x) = .ok k t v n):oneF (c :: x++d :: y) = .ok k t v n:=by
 have hdd:Xb d=false:=by
  simp only [U6,Bool.or_eq_false_iff] at hd;exact hd.2
 have tk:∀ j,j<=(c :: x).length->(c :: x++d :: y).take j=(c :: x).take j:=fun j hj=>List.take_append_of_le_length hj
 have w:=Ju U6 d y hd (c :: x)
 have g:=Ju Xb d y hdd (c :: x)
 have p1:=Zog 61 d c x y h61
 have p2:=Zog 33 d c x y h61
 have hn:=J0 h
 rw [List.cons_append] at *
 simp only [oneF] at h ⊢
 split at h
 ·rename_i h1
  rw [if_pos h1,w,tk _ (Ug _ _)]
  exact h
 ·rename_i h1
  rw [if_neg h1]
  split at h
  ·rename_i h2
   rw [if_pos h2]
   unfold Vj at h ⊢
   rw [g,tk _ (Ug _ _)]
   exact h
  ·rename_i h2
   rw [if_neg h2]
   split at h
   ·rename_i h3
    rw [if_pos h3]
    exact Zi0 (d :: y) x.length x _ _ (Nat.le_refl _) h
   ·rename_i h3
    rw [if_neg h3,p1,p2]
    split at h
    ·rename_i h4
     rw [if_pos h4]
     cases h
     rw [tk 2 hn.2]
    ·rename_i h4
     rw [if_neg h4]
     exact h
theorem Zqa:∀ (m:Nat) (x:List UInt8) (i:Nat) (acc l:List Tk) (a:Nat),x.length<=m->sp x i acc=(l,a,0)->a=0/\∃ l0,l=l0++[⟨0,[],0,i+x.length⟩]/\∀ y,sp (x++10 :: y) i acc=sp y (i+x.length+1) l0
 | _,[],i,acc,l,a,_,h=>by
  rw [Zbd] at h
  cases h
  refine ⟨rfl,acc,by simp,fun y=>?_⟩
  rw [List.nil_append,Xm,if_pos (.inr rfl)]
  rfl
 | 0,c :: r,i,acc,l,a,hm,h=>by simp at hm
 | m+1,c :: r,i,acc,l,a,hm,h=>by
  simp only [List.length_cons] at hm
  rw [Xm] at h
  have go:∀ (n:Nat) (acc' : List Tk),1<=n->n<=(c :: r).length->sp ((c :: r).drop n) (i+n) acc' = (l,a,0)->(∀ y,sp (c :: r++10 :: y) i acc=sp ((c :: r).drop n++10 :: y) (i+n) acc') ->
    a=0/\∃ l0,l=l0++[⟨0,[],0,i+(c :: r).length⟩]/\∀ y,sp (c :: r++10 :: y) i acc=sp y (i+(c :: r).length+1) l0:=fun n acc' h1 h2 h3 h4=>by
   obtain ⟨g1,l0,g2,g3⟩:=Zqa m _ _ _ _ _ (by simp;omega) h3
   have e:i+n+((c :: r).drop n).length=i+(c :: r).length:=by rw [List.length_drop];omega
   rw [e] at g2 g3
   exact ⟨g1,l0,g2,fun y=>by rw [h4 y,g3 y]⟩
  have dr:∀ n,n<=(c :: r).length->∀ y,(c :: r++10 :: y).drop n=(c :: r).drop n++10 :: y:=fun n hn y=>List.drop_append_of_le_length hn
  split at h
  ·rename_i h1
   exact go 1 acc (by omega) (by simp) h fun y=>by rw [List.cons_append,Xm,if_pos h1];rfl
  ·rename_i h1
   split at h
   ·rename_i h2
    have h3:1<=runN notB (c :: r):=by rw [runN,if_pos (by subst h2;decide)];omega
    have h4:=Ug notB (c :: r)
    exact go _ acc h3 h4 h fun y=>by
     have e:=Ju notB 10 y (by decide) (c :: r)
     rw [<- dr _ h4 y]
     rw [List.cons_append] at e ⊢
     rw [Xm,if_neg h1,if_pos h2,e]
   ·rename_i h2
    cases hn:oneF (c :: r) with
    | err e =>
     rw [hn] at h
     cases h
     rcases Zat hn with h | h<;>cases h
    | ok k t v n =>
     rw [hn] at h
     have hb:=J0 hn
     exact go n _ hb.1 hb.2 h fun y=>by
      have e:=Zl9 (by decide) (by decide) y hn (d:=10)
      rw [<- dr _ hb.2 y]
      rw [List.cons_append] at e ⊢
      rw [Xm,if_neg h1,if_neg h2,e]
def shift (d:Nat) (t:Tk):Tk:={ t with at_:=t.at_+d }
theorem Zd8 (d:Nat):∀ (m:Nat) (y:List UInt8) (j:Nat) (acc l:List Tk),y.length<=m->sp y (j+d) (acc++l.map (shift d))=if (sp y j l).2.2=0 then (acc++(sp y j l).1.map (shift d),0,0) else ([],(sp y j l).2.1+d,(sp y j l).2.2)
 | _,[],j,acc,l,_=>by simp [Zbd,shift]
 | 0,c :: r,j,acc,l,hm=>by simp at hm
 | m+1,c :: r,j,acc,l,hm=>by
  simp only [List.length_cons] at hm
  rw [Xm,Xm]
  split
  ·have:=Zd8 d m r (j+1) acc l (by omega)
   rw [show j+1+d=j+d+1 by omega] at this
   exact this
  ·split
   ·rename_i h1 h2
    have h3:1<=runN notB (c :: r):=by rw [runN,if_pos (by subst h2;decide)];omega
    have:=Zd8 d m ((c :: r).drop (runN notB (c :: r))) (j+runN notB (c :: r)) acc l (by simp;omega)
    rw [show j+runN notB (c :: r)+d=j+d+runN notB (c :: r) by omega] at this
    exact this
   ·cases hn:oneF (c :: r) with
    | err e =>
     dsimp only
     rw [if_neg (by rcases Zat hn with h | h<;>rw [h]<;>decide)]
    | ok k t v n =>
     have hb:=J0 hn
     have:=Zd8 d m ((c :: r).drop n) (j+n) acc (l++[⟨k,t,v,j⟩]) (by simp;omega)
     rw [show j+n+d=j+d+n by omega] at this
     dsimp only
     rw [<- this]
     simp [shift]
theorem Zc1 (p:UInt8->Bool):∀ (l:List UInt8) (m:Nat),runN p (l.take m)=min (runN p l) m
 | [],m=>by simp [runN]
 | c :: r,0=>by simp [runN]
 | c :: r,m+1=>by
  rw [List.take_succ_cons,runN,runN,Zc1 p r m]
  split<;>omega
theorem Zhx:∀ (z:Nat) (l acc:List UInt8) (i m:Nat),l.length<=z->∀ {k t x n},qF l acc i = .ok k t x n->n<=i+m->qF (l.take m) acc i = .ok k t x n
 | _,[],acc,i,m,_,k,t,x,n,h,_=>by simp [qF] at h
 | 0,c :: r,acc,i,m,hm,k,t,x,n,h,_=>by simp at hm
 | z+1,c :: r,acc,i,m,hm,k,t,x,n,h,hn=>by
  simp only [List.length_cons] at hm
  have hb:=qF_n _ (c :: r) acc i (Nat.le_refl _) h
  obtain ⟨m,rfl⟩:∃ j,m=j+1:=⟨m-1,by omega⟩
  rw [List.take_succ_cons]
  rw [Zap] at h ⊢
  split at h
  ·rename_i h1;rw [if_pos h1];exact h
  ·rename_i h1
   rw [if_neg h1]
   split at h
   ·rename_i h2
    rw [if_pos h2]
    cases r with
    | nil=>cases h
    | cons d r' =>
     simp only [List.length_cons] at hm
     have hb2:i+2+1<=n:=by
      dsimp only at h
      split at h
      ·exact (qF_n _ r' _ _ (Nat.le_refl _) h).1
      ·split at h
       ·exact (qF_n _ r' _ _ (Nat.le_refl _) h).1
       ·cases h
     obtain ⟨m,rfl⟩:∃ j,m=j+1:=⟨m-1,by omega⟩
     rw [List.take_succ_cons]
     dsimp only at h ⊢
     split at h
     ·rename_i h3;rw [if_pos h3];exact Zhx z r' _ _ m (by omega) h (by omega)
     ·rename_i h3
      rw [if_neg h3]
      split at h
      ·rename_i h4;rw [if_pos h4];exact Zhx z r' _ _ m (by omega) h (by omega)
      ·cases h
   ·rename_i h2
    rw [if_neg h2]
    split at h
    ·cases h
    ·rename_i h3
     rw [if_neg h3]
     exact Zhx z r _ _ m (by omega) h (by omega)
theorem Zpu (w l:List UInt8) (m:Nat) (hw:w.isPrefixOf l=false):w.isPrefixOf (l.take m)=false:=by
 rw [Bool.eq_false_iff] at hw ⊢
 intro h
 exact hw (List.isPrefixOf_iff_prefix.2 ((List.isPrefixOf_iff_prefix.1 h).trans (List.take_prefix _ _)))
theorem Zmb (w l:List UInt8) (m:Nat) (hw:w.isPrefixOf l=true) (hm:w.length<=m):w.isPrefixOf (l.take m)=true:=by
 rw [List.isPrefixOf_iff_prefix] at hw ⊢
 exact List.prefix_of_prefix_length_le hw (List.take_prefix _ _) (by rw [List.length_take];have:=hw.length_le;omega)
theorem Zyg {c:UInt8} {x:List UInt8} {m:Nat} {k t v n} (h:oneF (c :: x) = .ok k t v n) (hn:n<=m):oneF ((c :: x).take m) = .ok k t v n:=by
 have hb:=J0 h
 obtain ⟨m,rfl⟩:∃ j,m=j+1:=⟨m-1,by omega⟩
 have r1:=Zc1 U6 (c :: x) (m+1)
 have r2:=Zc1 Xb (c :: x) (m+1)
 have q1:=Zpu [61,61] (c :: x) (m+1)
 have q2:=Zpu [33,61] (c :: x) (m+1)
 have q3:=Zmb [61,61] (c :: x) (m+1)
 have q4:=Zmb [33,61] (c :: x) (m+1)
 have tk:∀ j,j<=m+1->((c :: x).take (m+1)).take j=(c :: x).take j:=fun j hj=>by rw [List.take_take,Nat.min_eq_left hj]
 rw [List.take_succ_cons] at *
 simp only [oneF] at h ⊢
 split at h
 ·rename_i h1
  cases h
  rw [if_pos h1,r1,Nat.min_eq_left hn,tk _ hn]
 ·rename_i h1
  rw [if_neg h1]
  split at h
  ·rename_i h2
   rw [if_pos h2]
   have hr:runN Xb (c :: x)=n:=by
    unfold Vj at h
    split at h
    ·split at h
     ·cases h
     ·cases h;rfl
    ·cases h
   unfold Vj at h ⊢
   rw [r2,hr,Nat.min_eq_left hn,tk _ hn]
   rw [hr] at h
   exact h
  ·rename_i h2
   rw [if_neg h2]
   split at h
   ·rename_i h3
    rw [if_pos h3]
    exact Zhx x.length x _ _ m (Nat.le_refl _) h (by omega)
   ·rename_i h3
    rw [if_neg h3]
    split at h
    ·rename_i h4
     cases h
     have h5:([61,61].isPrefixOf (c :: x.take m) || [33,61].isPrefixOf (c :: x.take m))=true:=by
      rw [Bool.or_eq_true] at h4 ⊢
      exact h4.imp (fun h=>q3 h (by simpa using hn)) (fun h=>q4 h (by simpa using hn))
     rw [if_pos h5,tk 2 hn]
    ·rename_i h4
     have h5:¬ ([61,61].isPrefixOf (c :: x.take m) || [33,61].isPrefixOf (c :: x.take m))=true:=by
      rw [Bool.not_eq_true,Bool.or_eq_false_iff] at h4 ⊢
      exact ⟨q1 h4.1,q2 h4.2⟩
     rw [if_neg h5]
     exact h
theorem Zpc (x:List UInt8) (j:Nat) (acc:List Tk) {L:List Tk} {a:Nat} (h:sp x j acc=(L,a,0)):∃ L1,L=acc++L1/\sp x j []=(L1,0,0):=by
 have:=Zd8 0 x.length x j acc [] (Nat.le_refl _)
 have e:shift 0=id:=funext fun t=>rfl
 simp only [Nat.add_zero,List.map_nil,List.append_nil,e,List.map_id] at this
 rw [h] at this
 split at this
 ·rename_i h0
  obtain ⟨hj,l0,hl,_⟩:=Zqa x.length x j [] (sp x j []).1 (sp x j []).2.1 (Nat.le_refl _) (by rw [<- h0])
  simp only [Prod.mk.injEq] at this
  refine ⟨(sp x j []).1,this.1,?_⟩
  rw [Prod.ext_iff,Prod.ext_iff]
  exact ⟨rfl,hj,h0⟩
 ·rename_i h0
  simp only [Prod.mk.injEq] at this
  exact absurd this.2.2.symm h0
theorem Zle (rest:List UInt8) (q:Nat) (acc:List Tk):sp (32 :: 10 :: 32 :: rest) q acc=sp rest (q+3) acc:=by
 rw [Xm,if_pos (.inl rfl),Xm,if_pos (.inr rfl),Xm,if_pos (.inl rfl)]
theorem Zuk (p:UInt8->Bool):∀ l:List UInt8,runN p (l.take (runN p l))=runN p l:=fun l=>by rw [Zc1];omega
theorem Zm1 (p:UInt8->Bool):∀ (l:List UInt8) (d:UInt8) (y:List UInt8),l.drop (runN p l)=d :: y->p d=false
 | [],d,y,h=>by simp [runN] at h
 | c :: r,d,y,h=>by
  rw [runN] at h
  split at h
  ·rw [List.drop_succ_cons] at h;exact Zm1 p r d y h
  ·rename_i hc
   simp only [List.drop_zero,List.cons.injEq] at h
   rw [<- h.1];simpa using hc
theorem triv:∀ (m:Nat) (x:List UInt8) (j:Nat) (L:List Tk) (a:Nat),x.length<=m->sp x j []=(L,a,0)->∃ t L1,L=t :: L1/\j<=t.at_/\t.at_<=j+x.length/\∀ rest q acc,sp (x.take (t.at_-j)++32 :: 10 :: 32 :: rest) q acc=sp rest (q+(t.at_-j)+3) acc
 | _,[],j,L,a,_,h=>by
  rw [Zbd] at h
  cases h
  exact ⟨_,[],rfl,Nat.le_refl _,Nat.le_refl _,fun rest q acc=>by simp [Zle]⟩
 | 0,c :: r,j,L,a,hm,h=>by simp at hm
 | m+1,c :: r,j,L,a,hm,h=>by
  simp only [List.length_cons] at hm ⊢
  rw [Xm] at h
  have blank:∀ (d:UInt8) (y:List UInt8) (p:Nat),(d=32\/d=10)->y.length<=m->sp y (p+1) []=(L,a,0)->∃ t L1,L=t :: L1/\p+1<=t.at_/\t.at_<=p+1+y.length/\∀ rest q acc,sp ((d :: y).take (t.at_-p)++32 :: 10 :: 32 :: rest) q acc=sp rest (q+(t.at_-p)+3) acc:=fun d y p hd hy hs=>by
   obtain ⟨t,L1,h1,h2,h3,h4⟩:=triv m y (p+1) L a hy hs
   refine ⟨t,L1,h1,h2,h3,fun rest q acc=>?_⟩
   have e:t.at_-p=(t.at_-(p+1))+1:=by omega
   rw [e,List.take_succ_cons,List.cons_append,Xm,if_pos hd,h4]
   congr 1;omega
  split at h
  ·rename_i h1
   obtain ⟨t,L1,g1,g2,g3,g4⟩:=blank c r j h1 (by omega) h
   exact ⟨t,L1,g1,by omega,by omega,g4⟩
  ·rename_i h1
   split at h
   ·rename_i h2
    have n1:1<=runN notB (c :: r):=by rw [runN,if_pos (by subst h2;decide)];omega
    have n2:=Ug notB (c :: r)
    have hself:=Zuk notB (c :: r)
    have hnext:=Zm1 notB (c :: r)
    have hlen:((c :: r).take (runN notB (c :: r))).length=runN notB (c :: r):=by rw [List.length_take];omega
    have hhead:∃ r',(c :: r).take (runN notB (c :: r))=c :: r':=⟨r.take (runN notB (c :: r)-1),by obtain ⟨k,hk⟩:∃ k,runN notB (c :: r)=k+1:=⟨runN notB (c :: r)-1,by omega⟩;rw [hk];rfl⟩
    generalize hN:runN notB (c :: r)=n at *
    simp only [List.length_cons] at n2
    cases hd:(c :: r).drop n with
    | nil =>
     rw [hd,Zbd] at h
     cases h
     have hn:n=r.length+1:=by
      have:=congrArg List.length hd
      simp at this;omega
     refine ⟨_,[],rfl,by simp,by simp;omega,fun rest q acc=>?_⟩
     simp only [Nat.add_sub_cancel_left]
     rw [List.take_of_length_le (by simp;omega),List.cons_append,Xm,if_neg h1,if_pos h2]
     have e:runN notB (c :: (r++32 :: 10 :: 32 :: rest))=n+1:=by
      have e1:=Ju notB 10 (32 :: rest) (by decide) (c :: r++[32])
      have e2:runN notB (c :: r++[32])=n+1:=by
       have:∀ l:List UInt8,runN notB l=l.length->runN notB (l++[32])=l.length+1:=by
        intro l
        induction l with
        | nil=>intro _;rfl
        | cons b l ih =>
         intro hb
         rw [runN] at hb
         split at hb
         ·rename_i hb1
          rw [List.cons_append,runN,if_pos hb1,ih (by simpa using hb)]
          simp
         ·simp at hb
       rw [this (c :: r) (by rw [hN,hn];simp)]
       simp [hn]
      rw [e2] at e1
      simpa using e1
     rw [e]
     have e3:(c :: (r++32 :: 10 :: 32 :: rest)).drop (n+1)=10 :: 32 :: rest:=by
      rw [List.drop_succ_cons,List.drop_append,List.drop_eq_nil_of_le (by omega)]
      rw [hn];simp
     rw [e3,Xm,if_pos (.inr rfl),Xm,if_pos (.inl rfl)]
     congr 1
    | cons d y =>
     have hd10:d=10:=by
      have:=hnext d y hd
      simpa [notB] using this
     subst hd10
     rw [hd,Xm,if_pos (.inr rfl)] at h
     have hyl:y.length+n+1=r.length+1:=by
      have:=congrArg List.length hd
      simp at this;omega
     obtain ⟨t,L1,g1,g2,g3,g4⟩:=blank 10 y (j+n) (.inr rfl) (by omega) h
     refine ⟨t,L1,g1,by omega,by omega,fun rest q acc=>?_⟩
     have e:(c :: r).take (t.at_-j)=(c :: r).take n++(10 :: y).take (t.at_-(j+n)):=by
      rw [<- hd,show t.at_-j=n+(t.at_-(j+n)) by omega,List.take_add]
     obtain ⟨r',hr'⟩:=hhead
     have e10:(10 :: y).take (t.at_-(j+n))=10 :: y.take (t.at_-(j+n)-1):=by
      obtain ⟨k,hk⟩:∃ k,t.at_-(j+n)=k+1:=⟨t.at_-(j+n)-1,by omega⟩
      rw [hk];rfl
     have g4':=g4 rest (q+n) acc
     rw [e10] at g4'
     rw [e,e10,hr',List.append_assoc,List.cons_append,Xm,if_neg h1,if_pos h2]
     have e5:runN notB (c :: (r'++(10 :: y.take (t.at_-(j+n)-1)++32 :: 10 :: 32 :: rest)))=n:=by
      have e1:=Ju notB 10 (y.take (t.at_-(j+n)-1)++32 :: 10 :: 32 :: rest) (by decide) (c :: r')
      rw [<- hr',hself] at e1
      rw [hr'] at e1
      simpa using e1
     have e6:(c :: (r'++(10 :: y.take (t.at_-(j+n)-1)++32 :: 10 :: 32 :: rest))).drop n=10 :: y.take (t.at_-(j+n)-1)++32 :: 10 :: 32 :: rest:=by
      rw [<- List.cons_append,<- hr',List.drop_append,List.drop_eq_nil_of_le (by rw [hlen];exact Nat.le_refl _),hlen]
      simp
     rw [e5,e6,g4']
     congr 1;omega
   ·rename_i h2
    cases hn:oneF (c :: r) with
    | err e =>
     rw [hn] at h
     cases h
     rcases Zat hn with h | h<;>cases h
    | ok k t v n =>
     rw [hn] at h
     obtain ⟨L1,hL,_⟩:=Zpc _ _ _ h
     exact ⟨⟨k,t,v,j⟩,L1,hL,Nat.le_refl _,by simp,fun rest q acc=>by simp [Zle]⟩
def Zbo (s:List UInt8):List Tk->List UInt8
 | t :: u :: r=>(s.drop t.at_).take (u.at_-t.at_)++32 :: 10 :: 32 :: Zbo s (u :: r)
 | _=>[]
def ktx (t:Tk):Int×List UInt8×Int:=(t.k,t.t,t.x)
theorem Yh6:∀ (m:Nat) (s:List UInt8) (j:Nat) (L:List Tk) (a:Nat),(s.drop j).length<=m->j<=s.length->sp (s.drop j) j []=(L,a,0)->∀ q acc,∃ L',sp (Zbo s L) q acc=(acc++L',0,0)/\L'.map ktx=L.map ktx:=by
 intro m
 induction m with
 | zero =>
  intro s j L a hm hj h q acc
  have:s.drop j=[]:=List.eq_nil_of_length_eq_zero (by omega)
  rw [this,Zbd] at h
  cases h
  exact ⟨_,Zbd q acc,rfl⟩
 | succ m ih =>
  intro s j L a hm hj h q acc
  cases hx:s.drop j with
  | nil =>
   rw [hx,Zbd] at h
   cases h
   exact ⟨_,Zbd q acc,rfl⟩
  | cons c r =>
   have hlen:r.length+1=s.length-j:=by
    have:=congrArg List.length hx
    simp at this;omega
   have dr:∀ n,s.drop (j+n)=(c :: r).drop n:=fun n=>by rw [<- hx,List.drop_drop]
   have next:∀ n,1<=n->n<=r.length+1->∀ L' a',sp ((c :: r).drop n) (j+n) []=(L',a',0)->∀ q acc,∃ L'',sp (Zbo s L') q acc=(acc++L'',0,0)/\L''.map ktx=L'.map ktx:=fun n h1 h2 L' a' h3 =>
    ih s (j+n) L' a' (by rw [hx] at hm;rw [List.length_drop];simp at hm;omega) (by omega) (by rw [dr];exact h3)
   have hx0:=h
   rw [hx] at h
   rw [Xm] at h
   split at h
   ·exact next 1 (by omega) (by omega) L a h q acc
   ·rename_i h1
    split at h
    ·rename_i h2
     have n1:1<=runN notB (c :: r):=by rw [runN,if_pos (by subst h2;decide)];omega
     have n2:=Ug notB (c :: r)
     simp only [List.length_cons] at n2
     exact next _ n1 n2 L a h q acc
    ·rename_i h2
     cases hn:oneF (c :: r) with
     | err e =>
      rw [hn] at h
      cases h
      rcases Zat hn with h | h<;>cases h
     | ok k t v n =>
      rw [hn] at h
      have hb:=J0 hn
      simp only [List.length_cons] at hb
      obtain ⟨L2,rfl,h4⟩:=Zpc _ _ _ h
      obtain ⟨u,L3,rfl,g2,g3,g4⟩:=triv _ _ _ _ _ (Nat.le_refl _) h4
      have g3:u.at_<=j+(r.length+1):=by rw [List.length_drop] at g3;simp at g3;omega
      obtain ⟨L',k1,k2⟩:=next n hb.1 hb.2 _ _ h4 (q+n+(u.at_-(j+n))+3) (acc++[⟨k,t,v,q⟩])
      refine ⟨⟨k,t,v,q⟩ :: L',?_,by simp [k2,ktx]⟩
      have e:Zbo s ([]++[⟨k,t,v,j⟩]++u :: L3)=(c :: r).take (u.at_-j)++32 :: 10 :: 32 :: Zbo s (u :: L3):=by
       show (s.drop j).take (u.at_-j)++_=_
       rw [hx]
      have hcut:=Zyg (m:=u.at_-j) hn (by omega)
      obtain ⟨w,hw⟩:∃ w,u.at_-j=w+1:=⟨u.at_-j-1,by omega⟩
      have hdrop:((c :: r).take (u.at_-j)++32 :: 10 :: 32 :: Zbo s (u :: L3)).drop n=((c :: r).drop n).take (u.at_-(j+n))++32 :: 10 :: 32 :: Zbo s (u :: L3):=by
       rw [List.drop_append_of_le_length (by rw [List.length_take];simp;omega),List.drop_take,show u.at_-j-n=u.at_-(j+n) by omega]
      rw [e]
      rw [hw,List.take_succ_cons] at hcut hdrop ⊢
      have happ:=Zl9 (d:=32) (by decide) (by decide) (10 :: 32 :: Zbo s (u :: L3)) hcut
      rw [List.cons_append] at happ hdrop ⊢
      rw [Xm,if_neg h1,if_neg h2,happ]
      dsimp only
      rw [hdrop,g4,k1]
      simp
end Go.AM
namespace Go.AM
open Go
structure X4 where
 d:Nat
 a:Nat
 n:Nat
 s:Nat
structure X4.ok (x:X4):Prop where
 d:x.d < 256
 a:x.a < 256
 n:x.n < 65536
 s:x.s < 256
def X4.cs (x:X4):List V:=[.int .u8 x.d,.int .u8 x.a,.int .u16 x.n,.int .u8 x.s]
structure MS where
 l:List X4
 left:Int
def Zm (m:MS):X4:=match m.l with | []=>⟨0,0,0,0⟩ | x :: _=>x
def Z7 (m:MS):MS:=⟨m.l.tail,m.left-1⟩
def Uo:List (List UInt8):=[[97],[98],[99],[100],[102],[108,101,110],[120,49],[95,121]]
def Zct:List (List UInt8):=[[],[107],[97],[115,101,97,108],[116,119,111,32,119,111,114,100,115],[113,34,92,10,122]]
def Zb1 (n:Nat):List UInt8:=(Uo[n % 8]?).getD []
def Zzv (n:Nat):List UInt8:=(Zct[n % 6]?).getD []
def Xf (g:MS->Tx×MS):Nat->MS->List Tx×MS
 | 0,m=>([],m)
 | k+1,m=>((g m).1 :: (Xf g k (g m).2).1,(Xf g k (g m).2).2)
def Z5 (g:MS->Tx×MS):Nat->MS->List Tx×MS
 | 0,m=>([],m)
 | k+1,m=>if m.left<=0 then ([],m) else ((g m).1 :: (Z5 g k (g m).2).1,(Z5 g k (g m).2).2)
def opP (deep:Int) (m1:MS) (x:X4):Nat:=if deep<=0\/m1.left<=0 then (x.d % 18) % 6 else x.d % 18
def numP (op:Nat) (x:X4):Int:=if op=3 then (x.n:Int)*(if x.a % 3=2 then 1099511627776 else 1) else 0
def Zii (op:Nat) (x:X4):List UInt8:=if op=4 then Zzv x.s else if op=5 then Zb1 x.s else []
def Zan (op:Nat) (x:X4):List (List UInt8):=if op=17 then (List.range (x.a % 3)).map fun i=>Zb1 ((x.s+i) % 256) else []
def countP (op:Nat) (x:X4):Nat:=if op=6\/op=7 then 1 else if op=15 then 1+x.a % 3 else if op=16 then 2*(x.a % 3) else if op=17 then 0 else if op > 7 then 2 else 0
def Xy (deep:Int) (x:X4):Nat:=if deep<=0/\(x.d % 9=3\/x.d % 9=4\/x.d % 9=7) then 8 else x.d % 9
def Ve (kind:Nat):Nat:=if kind=2 then 3 else if kind=7 then 0 else 1
def Ze9 (kind:Nat) (x:X4):List UInt8:=if kind=0\/kind=1\/kind=7 then Zb1 x.s else []
mutual
def Vb:Nat->Int->MS->Tx×MS
 | 0,_,m=>(.ex 0 0 [] [] [] [],m)
 | f+1,deep,m =>
  let x:=Zm m
  let m1:=Z7 m
  let op:=opP deep m1 x
  let b:=if op=17 then Z5 (Ym f (deep-1)) (x.n % 3) m1 else ([],m1)
  let ps:=Xf (Vb f (deep-1)) (countP op x) b.2
  (.ex op (numP op x) (Zii op x) ps.1 (Zan op x) b.1,ps.2)
def Ym:Nat->Int->MS->Tx×MS
 | 0,_,m=>(.st 7 [] [] [] [] 0,m)
 | f+1,deep,m =>
  let x:=Zm m
  let m1:=Z7 m
  let k:=Xy deep x
  let es:=Xf (Vb f (deep-1)) (Ve k) m1
  let b:=if k=3\/k=7\/k=4 then Z5 (Ym f (deep-1)) (x.a % 3) es.2 else ([],es.2)
  let e:=if k=3\/k=7 then Z5 (Ym f (deep-1)) (x.n % 3) b.2 else ([],b.2)
  (.st k (Ze9 k x) es.1 b.1 e.1 0,e.2)
end
def MS.ok (m:MS):Prop:=(∀ x∈m.l,x.ok)/\-1000000<=m.left/\m.left<=120
structure Dec (c:Nat) (m m' : MS):Prop where
 lo:m.left-(c:Int)<=m'.left
 up:m'.left<=m.left
 sub:∀ x∈m'.l,x∈m.l
 len:m'.l.length<=m.l.length
theorem Dec.refl (c:Nat) (m:MS):Dec c m m:=⟨by omega,Int.le_refl _,fun _ h=>h,Nat.le_refl _⟩
theorem Dec.trans {c c' : Nat} {m m' m'' : MS} (h:Dec c m m') (h' : Dec c' m' m''):Dec (c+c') m m'' :=
 ⟨by have:=h.lo;have:=h'.lo;omega,Int.le_trans h'.up h.up,fun x hx=>h.sub x (h'.sub x hx),Nat.le_trans h'.len h.len⟩
theorem Dec.mono {c c' : Nat} {m m' : MS} (h:Dec c m m') (hc:c<=c'):Dec c' m m':=⟨by have:=h.lo;omega,h.up,h.sub,h.len⟩
theorem Zj7 (m:MS):Dec 1 m (Z7 m):=⟨by simp [Z7],by simp [Z7];omega,fun x hx=>List.mem_of_mem_tail hx,by simp [Z7]⟩
theorem Zex {g:MS->Tx×MS} {c:Nat} (hg:∀ m,Dec c m (g m).2):∀ (k:Nat) (m:MS),Dec (c*k) m (Xf g k m).2
 | 0,m=>Dec.refl _ _
 | k+1,m=>by
  rw [Xf,Nat.mul_succ,Nat.add_comm]
  exact (hg m).trans (Zex hg k _)
theorem Zec {g:MS->Tx×MS} {c:Nat} (hg:∀ m,Dec c m (g m).2):∀ (k:Nat) (m:MS),Dec (c*k) m (Z5 g k m).2
 | 0,m=>Dec.refl _ _
 | k+1,m=>by
  rw [Z5]
  split
  ·exact Dec.refl _ _
  ·rw [Nat.mul_succ,Nat.add_comm]
   exact (hg m).trans (Zec hg k _)
theorem Zfq (op:Nat) (x:X4):countP op x<=4:=by
 have:x.a % 3 < 3:=Nat.mod_lt _ (by omega)
 unfold countP
 split
 ·omega
 ·split
  ·omega
  ·split
   ·omega
   ·split
    ·omega
    ·split<;>omega
theorem Zbs (k:Nat):Ve k<=3:=by
 unfold Ve
 split
 ·omega
 ·split<;>omega
mutual
theorem Zky:∀ (f:Nat) (deep:Int) (m:MS),Dec (8 ^ f) m (Vb f deep m).2
 | 0,deep,m=>by rw [Vb];exact Dec.refl _ _
 | f+1,deep,m=>by
  have he:=Zex (Zky f (deep-1))
  have hs:=Zec (Zkf f (deep-1))
  have hc:=Zfq (opP deep (Z7 m) (Zm m)) (Zm m)
  have hk:(Zm m).n % 3<=2:=by have:=Nat.mod_lt (Zm m).n (show 0 < 3 by omega);omega
  have hp:1<=8 ^ f:=Nat.pow_pos (by omega)
  rw [Vb]
  dsimp only
  have hb:Dec (8 ^ f*2) (Z7 m) (if opP deep (Z7 m) (Zm m)=17 then Z5 (Ym f (deep-1)) ((Zm m).n % 3) (Z7 m) else ([],Z7 m)).2:=by
   split
   ·exact (hs _ _).mono (Nat.mul_le_mul_left _ hk)
   ·exact Dec.refl _ _
  refine (((Zj7 m).trans hb).trans (he _ _)).mono ?_
  have:=Nat.mul_le_mul_left (8 ^ f) hc
  rw [Nat.pow_succ]
  omega
theorem Zkf:∀ (f:Nat) (deep:Int) (m:MS),Dec (8 ^ f) m (Ym f deep m).2
 | 0,deep,m=>by rw [Ym];exact Dec.refl _ _
 | f+1,deep,m=>by
  have he:=Zex (Zky f (deep-1))
  have hs:=Zec (Zkf f (deep-1))
  have hc:=Zbs (Xy deep (Zm m))
  have hk:(Zm m).n % 3<=2:=by have:=Nat.mod_lt (Zm m).n (show 0 < 3 by omega);omega
  have ha:(Zm m).a % 3<=2:=by have:=Nat.mod_lt (Zm m).a (show 0 < 3 by omega);omega
  have hp:1<=8 ^ f:=Nat.pow_pos (by omega)
  rw [Ym]
  dsimp only
  generalize hes:Xf (Vb f (deep-1)) (Ve (Xy deep (Zm m))) (Z7 m)=es
  have h1:Dec (8 ^ f*3) (Z7 m) es.2:=by rw [<- hes];exact (he _ _).mono (Nat.mul_le_mul_left _ hc)
  generalize hb:(if Xy deep (Zm m)=3\/Xy deep (Zm m)=7\/Xy deep (Zm m)=4 then Z5 (Ym f (deep-1)) ((Zm m).a % 3) es.2 else ([],es.2))=b
  have h2:Dec (8 ^ f*2) es.2 b.2:=by
   rw [<- hb]
   split
   ·exact (hs _ _).mono (Nat.mul_le_mul_left _ ha)
   ·exact Dec.refl _ _
  have h3:Dec (8 ^ f*2) b.2 (if Xy deep (Zm m)=3\/Xy deep (Zm m)=7 then Z5 (Ym f (deep-1)) ((Zm m).n % 3) b.2 else ([],b.2)).2:=by
   split
   ·exact (hs _ _).mono (Nat.mul_le_mul_left _ hk)
   ·exact Dec.refl _ _
  refine ((((Zj7 m).trans h1).trans h2).trans h3).mono ?_
  rw [Nat.pow_succ]
  omega
end
end Go.AM
namespace Go.AM
open Go
abbrev Ts:=List (List UInt8)
def useP (own out:Ts) (name:List UInt8):Ts:=if name∈own\/name∈out then out else out++[name]
def ownP (own:Ts):Tx->Ts
 | .st kind name _ _ _ _=>if kind=0 then own++[name] else own
 | .ex ..=>own
mutual
def Wj:Tx->Ts->Ts->Ts
 | .ex op _ text parts params body,own,out =>
  Z8 parts own (if op=17 then (Z6 body params []).foldl (useP own) out else if op=5 then useP own out text else out)
 | .st ..,_,out=>out
def Z8:List Tx->Ts->Ts->Ts
 | [],_,out=>out
 | x :: r,own,out=>Z8 r own (Wj x own out)
def W2:Tx->Ts->Ts->Ts
 | .st kind name es b e _,own,out =>
  let o1:=Z8 es own out
  let own1:=if kind=0 then own++[name] else own
  let o2:=if kind=1 then useP own o1 name else o1
  Z6 e (if kind=7 then own++[name] else own1) (Z6 b own1 o2)
 | .ex ..,_,out=>out
def Z6:List Tx->Ts->Ts->Ts
 | [],_,out=>out
 | s :: r,own,out=>Z6 r (ownP own s) (W2 s own out)
end
mutual
def Tx.eok:Tx->Prop
 | .ex _ _ _ ps _ b=>eoks ps/\soks b
 | .st ..=>False
def Tx.sok:Tx->Prop
 | .st _ _ es b e _=>eoks es/\soks b/\soks e
 | .ex ..=>False
def eoks:List Tx->Prop
 | []=>True
 | x :: r=>x.eok/\eoks r
def soks:List Tx->Prop
 | []=>True
 | x :: r=>x.sok/\soks r
end
theorem Zhm {g:MS->Tx×MS} (hg:∀ m,(g m).1.eok):∀ (k:Nat) (m:MS),eoks (Xf g k m).1
 | 0,m=>by simp only [Xf,eoks]
 | k+1,m=>by simp only [Xf,eoks];exact ⟨hg m,Zhm hg k _⟩
theorem Zcp {g:MS->Tx×MS} (hg:∀ m,(g m).1.sok):∀ (k:Nat) (m:MS),soks (Z5 g k m).1
 | 0,m=>by simp only [Z5,soks]
 | k+1,m=>by
  rw [Z5]
  split
  ·simp only [soks]
  ·simp only [soks];exact ⟨hg m,Zcp hg k _⟩
mutual
theorem Zkm:∀ (f:Nat) (deep:Int) (m:MS),(Vb f deep m).1.eok
 | 0,deep,m=>by simp only [Vb,Tx.eok,eoks,soks,and_self]
 | f+1,deep,m=>by
  rw [Vb]
  dsimp only
  simp only [Tx.eok]
  refine ⟨Zhm (Zkm f (deep-1)) _ _,?_⟩
  split
  ·exact Zcp (Zez f (deep-1)) _ _
  ·simp only [soks]
theorem Zez:∀ (f:Nat) (deep:Int) (m:MS),(Ym f deep m).1.sok
 | 0,deep,m=>by simp only [Ym,Tx.sok,eoks,soks,and_self]
 | f+1,deep,m=>by
  rw [Ym]
  dsimp only
  simp only [Tx.sok]
  refine ⟨Zhm (Zkm f (deep-1)) _ _,?_,?_⟩
  ·split
   ·exact Zcp (Zez f (deep-1)) _ _
   ·simp only [soks]
  ·split
   ·exact Zcp (Zez f (deep-1)) _ _
   ·simp only [soks]
end
mutual
def Tx.wt:Tx->Nat
 | .ex _ _ _ ps qs b=>1+qs.length+wts ps+wts b
 | .st _ _ es b e _=>1+wts es+wts b+wts e
def wts:List Tx->Nat
 | []=>0
 | x :: r=>x.wt+wts r
end
theorem Tx.wt_pos:∀ t:Tx,1<=t.wt
 | .ex ..=>by simp only [Tx.wt];omega
 | .st ..=>by simp only [Tx.wt];omega
theorem Jq (own out:Ts) (n:List UInt8):(useP own out n).length<=out.length+1:=by
 unfold useP;split<;>simp
theorem Zas (own:Ts):∀ (L out:Ts),(L.foldl (useP own) out).length<=out.length+L.length
 | [],out=>by simp
 | x :: r,out=>by
  have h1:=Zas own r (useP own out x)
  have h2:=Jq own out x
  simp only [List.foldl_cons,List.length_cons]
  omega
theorem Zn2 {c:Prop} [Decidable c] {a b:Ts} {n:Nat} (ha:c->a.length<=n) (hb:¬ c->b.length<=n):(if c then a else b).length<=n:=by
 split
 ·exact ha (by assumption)
 ·exact hb (by assumption)
mutual
theorem Zvo:∀ (t:Tx) (own out:Ts),(Wj t own out).length<=out.length+t.wt
 | .ex op num text parts params body,own,out=>by
  simp only [Wj,Tx.wt]
  have h1:=Vc parts own (if op=17 then (Z6 body params []).foldl (useP own) out else if op=5 then useP own out text else out)
  have h2:=Wg body params []
  have h3:=Zas own (Z6 body params []) out
  have h4:=Jq own out text
  have h5:(if op=17 then (Z6 body params []).foldl (useP own) out else if op=5 then useP own out text else out).length<=out.length+1+wts body:=by
   simp only [List.length_nil] at h2
   refine Zn2 (fun _=>by omega) fun _=>Zn2 (fun _=>by omega) fun _=>by omega
  omega
 | .st ..,own,out=>by simp only [Wj];omega
theorem Vc:∀ (l:List Tx) (own out:Ts),(Z8 l own out).length<=out.length+wts l
 | [],own,out=>by simp only [Z8,wts];omega
 | x :: r,own,out=>by
  simp only [Z8,wts]
  have h1:=Zvo x own out
  have h2:=Vc r own (Wj x own out)
  omega
theorem Zkp:∀ (t:Tx) (own out:Ts),(ownP own t).length+(W2 t own out).length<=own.length+out.length+t.wt
 | .st kind name es b e at_,own,out=>by
  simp only [W2,Tx.wt,ownP]
  have h1:=Vc es own out
  generalize Z8 es own out=o1 at *
  have h2:=Jq (if kind=0 then own++[name] else own) o1 name
  by_cases hk:kind=0
  ·subst hk
   simp only [if_true,show ¬ (0:Nat)=1 by decide,show ¬ (0:Nat)=7 by decide,if_false]
   have h3:=Wg b (own++[name]) o1
   have h4:=Wg e (own++[name]) (Z6 b (own++[name]) o1)
   simp only [List.length_append,List.length_cons,List.length_nil]
   omega
  ·simp only [hk,if_false] at *
   have h3:=Wg b own (if kind=1 then useP own o1 name else o1)
   have h4:=Wg e (if kind=7 then own++[name] else own) (Z6 b own (if kind=1 then useP own o1 name else o1))
   have h5:(if kind=1 then useP own o1 name else o1).length<=o1.length+1:=Zn2 (fun _=>by omega) fun _=>by omega
   omega
 | .ex ..,own,out=>by simp only [W2,ownP];omega
theorem Wg:∀ (l:List Tx) (own out:Ts),(Z6 l own out).length<=out.length+wts l
 | [],own,out=>by simp only [Z6,wts];omega
 | x :: r,own,out=>by
  simp only [Z6,wts]
  have h1:=Zkp x own out
  have h2:=Wg r (ownP own x) (W2 x own out)
  have h3:own.length<=(ownP own x).length:=by cases x<;>simp only [ownP]<;>(try split)<;>simp
  omega
end
theorem Zjx {g:MS->Tx×MS} {c:Nat} (hg:∀ m,(g m).1.wt<=c):∀ (k:Nat) (m:MS),wts (Xf g k m).1<=c*k
 | 0,m=>by simp only [Xf,wts];omega
 | k+1,m=>by
  simp only [Xf,wts]
  have:=Zjx hg k (g m).2
  have:=hg m
  rw [Nat.mul_succ];omega
theorem Zeb {g:MS->Tx×MS} {c:Nat} (hg:∀ m,(g m).1.wt<=c):∀ (k:Nat) (m:MS),wts (Z5 g k m).1<=c*k
 | 0,m=>by simp only [Z5,wts];omega
 | k+1,m=>by
  rw [Z5]
  split
  ·simp only [wts];omega
  ·simp only [wts]
   have:=Zeb hg k (g m).2
   have:=hg m
   rw [Nat.mul_succ];omega
mutual
theorem Zng:∀ (f:Nat) (deep:Int) (m:MS),(Vb f deep m).1.wt<=8 ^ f*3
 | 0,deep,m=>by simp only [Vb,Tx.wt,wts,List.length_nil];omega
 | f+1,deep,m=>by
  have hc:=Zfq (opP deep (Z7 m) (Zm m)) (Zm m)
  have hk:(Zm m).n % 3<=2:=by have:=Nat.mod_lt (Zm m).n (show 0 < 3 by omega);omega
  have ha:(Zm m).a % 3<=2:=by have:=Nat.mod_lt (Zm m).a (show 0 < 3 by omega);omega
  have hp:1<=8 ^ f:=Nat.pow_pos (by omega)
  rw [Vb]
  dsimp only
  simp only [Tx.wt]
  generalize hb:(if opP deep (Z7 m) (Zm m)=17 then Z5 (Ym f (deep-1)) ((Zm m).n % 3) (Z7 m) else ([],Z7 m))=b
  have h1:=Zjx (Zng f (deep-1)) (countP (opP deep (Z7 m) (Zm m)) (Zm m)) b.2
  have h2:wts b.1<=8 ^ f*3*2:=by
   rw [<- hb]
   split
   ·exact Nat.le_trans (Zeb (Zhb f (deep-1)) _ _) (Nat.mul_le_mul_left _ hk)
   ·simp only [wts];omega
  have h3:(Zan (opP deep (Z7 m) (Zm m)) (Zm m)).length<=2:=by
   unfold Zan
   split
   ·simp;omega
   ·simp
  have h4:=Nat.mul_le_mul_left (8 ^ f*3) hc
  rw [Nat.pow_succ]
  omega
theorem Zhb:∀ (f:Nat) (deep:Int) (m:MS),(Ym f deep m).1.wt<=8 ^ f*3
 | 0,deep,m=>by simp only [Ym,Tx.wt,wts];omega
 | f+1,deep,m=>by
  have hc:=Zbs (Xy deep (Zm m))
  have hk:(Zm m).n % 3<=2:=by have:=Nat.mod_lt (Zm m).n (show 0 < 3 by omega);omega
  have ha:(Zm m).a % 3<=2:=by have:=Nat.mod_lt (Zm m).a (show 0 < 3 by omega);omega
  have hp:1<=8 ^ f:=Nat.pow_pos (by omega)
  rw [Ym]
  dsimp only
  simp only [Tx.wt]
  have h1:=Nat.le_trans (Zjx (Zng f (deep-1)) (Ve (Xy deep (Zm m))) (Z7 m)) (Nat.mul_le_mul_left _ hc)
  generalize Xf (Vb f (deep-1)) (Ve (Xy deep (Zm m))) (Z7 m)=es at *
  generalize hb:(if Xy deep (Zm m)=3\/Xy deep (Zm m)=7\/Xy deep (Zm m)=4 then Z5 (Ym f (deep-1)) ((Zm m).a % 3) es.2 else ([],es.2))=b
  have h2:wts b.1<=8 ^ f*3*2:=by
   rw [<- hb]
   split
   ·exact Nat.le_trans (Zeb (Zhb f (deep-1)) _ _) (Nat.mul_le_mul_left _ ha)
   ·simp only [wts];omega
  have h3:wts (if Xy deep (Zm m)=3\/Xy deep (Zm m)=7 then Z5 (Ym f (deep-1)) ((Zm m).n % 3) b.2 else ([],b.2)).1<=8 ^ f*3*2:=by
   split
   ·exact Nat.le_trans (Zeb (Zhb f (deep-1)) _ _) (Nat.mul_le_mul_left _ hk)
   ·simp only [wts];omega
  rw [Nat.pow_succ]
  omega
end
theorem Jj:∀ (l:List Tx) (x:Tx) (own out:Ts),Z8 (l++[x]) own out=Wj x own (Z8 l own out)
 | [],x,own,out=>by simp only [List.nil_append,Z8]
 | y :: r,x,own,out=>by simp only [List.cons_append,Z8];exact Jj r x own _
def Yz (l:List Tx) (own:Ts):Ts:=l.foldl ownP own
theorem Zed:∀ (l:List Tx) (x:Tx) (own out:Ts),Z6 (l++[x]) own out=W2 x (Yz l own) (Z6 l own out)
 | [],x,own,out=>by simp only [List.nil_append,Z6,Yz,List.foldl_nil]
 | y :: r,x,own,out=>by
  simp only [List.cons_append,Z6,Yz,List.foldl_cons]
  exact Zed r x _ _
theorem Jp:∀ (l:List Tx) (i:Nat) (h:i < l.length),wts (l.take i)+l[i].wt<=wts l
 | x :: r,0,h=>by simp only [List.take_zero,wts,List.getElem_cons_zero];omega
 | x :: r,i+1,h=>by
  have:=Jp r i (by simpa using h)
  simp only [List.take_succ_cons,wts,List.getElem_cons_succ]
  omega
theorem Zey:∀ (l:List Tx) (own out:Ts),(Yz l own).length+(Z6 l own out).length<=own.length+out.length+wts l
 | [],own,out=>by simp only [Yz,List.foldl_nil,Z6,wts];omega
 | x :: r,own,out=>by
  have h1:=Zkp x own out
  have h2:=Zey r (ownP own x) (W2 x own out)
  simp only [Yz,List.foldl_cons,Z6,wts] at *
  omega
theorem Zau:∀ l:List Tx,l.length<=wts l
 | []=>Nat.zero_le _
 | x :: r=>by
  have h1:=x.wt_pos
  have h2:=Zau r
  simp only [List.length_cons,wts]
  omega
end Go.AM
namespace Go.AM
open Go
abbrev Bs:=List UInt8
def Za4:Ts->Bs
 | []=>[]
 | [x]=>x
 | x :: y :: r=>x++[44,32]++Za4 (y :: r)
def Zmq (s:Bs):Bs:=[34]++s.flatMap (fun c=>if c=10 then [92,110] else if c=34\/c=92 then [92,c] else [c])++[34]
def Zqx (op:Nat):Bs:=(([[43],[45],[42],[61,61],[33,61],[60]]:List Bs)[op-8]?).getD []
def Zaz:Ts->Ts
 | k :: v :: r=>([91]++k++[93,58,32]++v) :: Zaz r
 | _=>[]
def nthP (l:Ts) (i:Nat):Bs:=(l[i]?).getD []
def prX (dec:Int->Bs) (op:Nat) (num:Int) (text:Bs) (ps qs:Ts) (body:Bs):Bs :=
 if op=0 then [110,105,108] else if op=1 then [102,97,108,115,101] else if op=2 then [116,114,117,101] else if op=3 then dec num else if op=4 then Zmq text else if op=5 then text
 else if op=6 then [40,45]++nthP ps 0++[41] else if op=7 then [40,33]++nthP ps 0++[41] else if op=14 then nthP ps 0++[91]++nthP ps 1++[93] else if op=15 then nthP ps 0++[40]++Za4 (ps.drop 1)++[41]
 else if op=16 then [123]++Za4 (Zaz ps)++[125] else if op=17 then [102,110,40]++Za4 qs++[41,32,123,10]++body++[125]
 else [40]++nthP ps 0++[32]++Zqx op++[32]++nthP ps 1++[41]
def prY (kind:Nat) (name:Bs) (es:Ts) (b e:Bs) (ne:Bool):Bs :=
 if kind=0 then [108,101,116,32]++name++[32,61,32]++nthP es 0++[59,10] else if kind=1 then name++[32,61,32]++nthP es 0++[59,10]
 else if kind=2 then nthP es 0++[91]++nthP es 1++[93,32,61,32]++nthP es 2++[59,10]
 else if kind=3 then [105,102,32]++nthP es 0++[32,123,10]++b++[125]++(if ne then [32,101,108,115,101,32,123,10]++e++[125] else [])++[10]
 else if kind=4 then [119,104,105,108,101,32]++nthP es 0++[32,123,10]++b++[125,10]
 else if kind=5 then [114,101,116,117,114,110,32]++nthP es 0++[59,10] else if kind=6 then [116,104,114,111,119,32]++nthP es 0++[59,10]
 else if kind=7 then [116,114,121,32,123,10]++b++[125,32,99,97,116,99,104,32]++name++[32,123,10]++e++[125,10]
 else nthP es 0++[59,10]
section
variable (dec:Int->Bs)
mutual
def prE:Tx->Bs
 | .ex op num text parts params body=>prX dec op num text (prEs parts) params (prB body)
 | .st ..=>[]
def prEs:List Tx->Ts
 | []=>[]
 | x :: r=>prE x :: prEs r
def prS:Tx->Bs
 | .st kind name es b e _=>prY kind name (prEs es) (prB b) (prB e) (!e.isEmpty)
 | .ex ..=>[]
def prB:List Tx->Bs
 | []=>[]
 | x :: r=>prS x++prB r
end
end
mutual
def Tx.pok:Tx->Prop
 | .ex op _ _ ps _ b=>op < 18/\(op=6\/op=7->ps.length=1)/\(op=15->1<=ps.length)/\(op=16->ps.length % 2=0)/\(8<=op->op<=14->ps.length=2)/\poks ps/\poks b
 | .st kind _ es b e _=>kind < 9/\(kind=2->es.length=3)/\(kind≠2->kind≠7->es.length=1)/\poks es/\poks b/\poks e
def poks:List Tx->Prop
 | []=>True
 | x :: r=>x.pok/\poks r
end
theorem Zho {g:MS->Tx×MS} (hg:∀ m,(g m).1.pok):∀ (k:Nat) (m:MS),poks (Xf g k m).1/\(Xf g k m).1.length=k
 | 0,m=>by simp only [Xf,poks,List.length_nil,and_self]
 | k+1,m=>by
  have:=Zho hg k (g m).2
  simp only [Xf,poks,List.length_cons]
  exact ⟨⟨hg m,this.1⟩,by rw [this.2]⟩
theorem Zcv {g:MS->Tx×MS} (hg:∀ m,(g m).1.pok):∀ (k:Nat) (m:MS),poks (Z5 g k m).1
 | 0,m=>by simp only [Z5,poks]
 | k+1,m=>by
  rw [Z5]
  split
  ·simp only [poks]
  ·simp only [poks];exact ⟨hg m,Zcv hg k _⟩
theorem Zup (deep:Int) (m1:MS) (x:X4):opP deep m1 x < 18:=by unfold opP;split<;>omega
theorem Znm (deep:Int) (x:X4):Xy deep x < 9:=by unfold Xy;split<;>omega
mutual
theorem Zk8:∀ (f:Nat) (deep:Int) (m:MS),(Vb f deep m).1.pok
 | 0,deep,m=>by simp [Vb,Tx.pok,poks]
 | f+1,deep,m=>by
  rw [Vb]
  dsimp only
  have ho:=Zup deep (Z7 m) (Zm m)
  generalize opP deep (Z7 m) (Zm m)=op at *
  simp only [Tx.pok]
  obtain ⟨h1,h2⟩:=Zho (Zk8 f (deep-1)) (countP op (Zm m)) (if op=17 then Z5 (Ym f (deep-1)) ((Zm m).n % 3) (Z7 m) else ([],Z7 m)).2
  refine ⟨ho,fun h=>?_,fun h=>?_,fun h=>?_,fun h h'=>?_,h1,?_⟩
  ·rw [h2,countP,if_pos h]
  ·rw [h2,countP,if_neg (by omega),if_pos h];omega
  ·rw [h2,countP,if_neg (by omega),if_neg (by omega),if_pos h];omega
  ·rw [h2,countP,if_neg (by omega),if_neg (by omega),if_neg (by omega),if_neg (by omega),if_pos (by omega)]
  ·split
   ·exact Zcv (Zfj f (deep-1)) _ _
   ·simp only [poks]
theorem Zfj:∀ (f:Nat) (deep:Int) (m:MS),(Ym f deep m).1.pok
 | 0,deep,m=>by simp [Ym,Tx.pok,poks]
 | f+1,deep,m=>by
  rw [Ym]
  dsimp only
  have ho:=Znm deep (Zm m)
  generalize Xy deep (Zm m)=k at *
  simp only [Tx.pok]
  obtain ⟨h1,h2⟩:=Zho (Zk8 f (deep-1)) (Ve k) (Z7 m)
  refine ⟨ho,fun h=>?_,fun h h'=>?_,h1,?_,?_⟩
  ·rw [h2,Ve,if_pos h]
  ·rw [h2,Ve,if_neg h,if_neg h']
  ·split
   ·exact Zcv (Zfj f (deep-1)) _ _
   ·simp only [poks]
  ·split
   ·exact Zcv (Zfj f (deep-1)) _ _
   ·simp only [poks]
end
def lens (l:Ts):Nat:=(l.map fun x=>x.length+2).sum
theorem Zbn:∀ l:Ts,(Za4 l).length<=lens l
 | []=>by simp [Za4,lens]
 | [x]=>by simp [Za4,lens]
 | x :: y :: r=>by
  have:=Zbn (y :: r)
  simp only [Za4,lens,List.map_cons,List.sum_cons,List.length_append,List.length_cons,List.length_nil] at *
  omega
theorem Zb7:∀ (l:Ts) (i:Nat),(nthP l i).length<=lens l
 | [],i=>by simp [nthP]
 | x :: r,0=>by simp [nthP,lens];omega
 | x :: r,i+1=>by
  have:=Zb7 r i
  simp only [nthP,lens,List.map_cons,List.sum_cons,List.getElem?_cons_succ] at *
  omega
theorem Zh8:∀ l:Ts,lens (Zaz l)<=lens l+l.length
 | []=>by simp [Zaz,lens]
 | [x]=>by simp [Zaz,lens]
 | x :: y :: r=>by
  have:=Zh8 r
  simp only [Zaz,lens,List.map_cons,List.sum_cons,List.length_append,List.length_cons,List.length_nil] at *
  omega
theorem Zkr:∀ (l:Ts) (i:Nat),lens (l.drop i)<=lens l
 | l,0=>by simp
 | [],i+1=>by simp
 | x :: r,i+1=>by
  have:=Zkr r i
  simp only [List.drop_succ_cons,lens,List.map_cons,List.sum_cons] at *
  omega
theorem Zvv (s:Bs):(Zmq s).length<=2+2*s.length:=by
 have:∀ l:Bs,(l.flatMap (fun c=>if c=10 then [92,110] else if c=34\/c=92 then [92,c] else [c])).length<=2*l.length:=by
  intro l
  induction l with
  | nil=>simp
  | cons x r ih =>
   rw [List.flatMap_cons,List.length_append,List.length_cons]
   have:(if x=10 then [92,110] else if x=34\/x=92 then [92,x] else [x]:Bs).length<=2:=by
    split
    ·simp
    ·split<;>simp
   omega
 have:=this s
 unfold Zmq
 simp only [List.length_append,List.length_cons,List.length_nil]
 omega
section
variable (dec:Int->Bs)
mutual
def Tx.bw:Tx->Nat
 | .ex _ num text ps qs b=>40+(dec num).length+2*text.length+lens qs+bws ps+8*ps.length+bws b
 | .st _ name es b e _=>40+name.length+bws es+8*es.length+bws b+bws e
def bws:List Tx->Nat
 | []=>0
 | x :: r=>x.bw+bws r
end
end
theorem Zww (op:Nat):(Zqx op).length<=2:=by
 unfold Zqx
 match op-8 with
 | 0 | 1 | 2 | 3 | 4 | 5=>decide
 | n+6=>exact Nat.zero_le _
theorem Zl6 (l:Ts):(nthP l 0).length+(nthP l 1).length+(nthP l 2).length<=lens l:=by
 match l with
 | []=>simp [nthP]
 | [x]=>simp [nthP,lens]
 | [x,y]=>simp [nthP,lens];omega
 | x :: y :: z :: r=>simp [nthP,lens];omega
theorem Zwo (l:Ts):(nthP l 0).length+(Za4 (l.drop 1)).length<=lens l:=by
 match l with
 | []=>simp [nthP,Za4]
 | x :: r =>
  have:=Zbn r
  simp only [nthP,lens,List.map_cons,List.sum_cons,List.getElem?_cons_zero,Option.getD_some,List.drop_succ_cons,List.drop_zero] at *
  omega
theorem ifl {c:Prop} [Decidable c] {a b:Bs} {n:Nat} (ha:c->a.length<=n) (hb:¬ c->b.length<=n):(if c then a else b).length<=n:=by
 split
 ·exact ha (by assumption)
 ·exact hb (by assumption)
theorem Z03 (dec:Int->Bs) (op:Nat) (num:Int) (text:Bs) (ps qs:Ts) (body:Bs):(prX dec op num text ps qs body).length<=20+(dec num).length+2*text.length+lens ps+ps.length+lens qs+body.length:=by
 have g1:=Zl6 ps
 have g2:=Zwo ps
 have h1:=Zb7 ps 0
 have h2:=Zb7 ps 1
 have h3:=Zvv text
 have h4:=Zbn (ps.drop 1)
 have h5:=Zkr ps 1
 have h6:=Zbn (Zaz ps)
 have h7:=Zh8 ps
 have h8:=Zbn qs
 have h9:=Zww op
 unfold prX
 repeat' (refine ifl (fun _=>?_) (fun _=>?_))
 all_goals try simp only [List.length_append,List.length_cons,List.length_nil]
 all_goals omega
theorem Z23 (kind:Nat) (name:Bs) (es:Ts) (b e:Bs) (ne:Bool):(prY kind name es b e ne).length<=30+name.length+lens es+b.length+e.length:=by
 have g1:=Zl6 es
 have h1:=Zb7 es 0
 have h2:=Zb7 es 1
 have h3:=Zb7 es 2
 unfold prY
 repeat' (refine ifl (fun _=>?_) (fun _=>?_))
 all_goals try simp only [List.length_append,List.length_cons,List.length_nil]
 all_goals try omega
 cases ne<;>simp<;>omega
mutual
theorem Z1v (dec:Int->Bs):∀ t:Tx,(prE dec t).length<=t.bw dec
 | .ex op num text ps qs b=>by
  have h1:=Z03 dec op num text (prEs dec ps) qs (prB dec b)
  have h2:=Zhi dec ps
  have h3:=Zfr dec b
  simp only [prE,Tx.bw]
  omega
 | .st ..=>by simp only [prE,List.length_nil];exact Nat.zero_le _
theorem Zhi (dec:Int->Bs):∀ l:List Tx,lens (prEs dec l)<=bws dec l+2*l.length/\(prEs dec l).length=l.length
 | []=>by simp [prEs,lens]
 | x :: r=>by
  have h1:=Z1v dec x
  have h2:=Zhi dec r
  simp only [prEs,bws,lens,List.map_cons,List.sum_cons,List.length_cons] at *
  omega
theorem Z2g (dec:Int->Bs):∀ t:Tx,(prS dec t).length<=t.bw dec
 | .st kind name es b e a=>by
  have h1:=Z23 kind name (prEs dec es) (prB dec b) (prB dec e) (!e.isEmpty)
  have h2:=Zhi dec es
  have h3:=Zfr dec b
  have h4:=Zfr dec e
  simp only [prS,Tx.bw]
  omega
 | .ex ..=>by simp only [prS,List.length_nil];exact Nat.zero_le _
theorem Zfr (dec:Int->Bs):∀ l:List Tx,(prB dec l).length<=bws dec l
 | []=>by simp only [prB,List.length_nil];exact Nat.zero_le _
 | x :: r=>by
  have h1:=Z2g dec x
  have h2:=Zfr dec r
  simp only [prB,bws,List.length_append]
  omega
end
end Go.AM
namespace Go.AM
open Go
mutual
def Tx.nn:Tx->Nat
 | .ex _ _ _ ps _ b=>1+nns ps+nns b
 | .st _ _ es b e _=>1+nns es+nns b+nns e
def nns:List Tx->Nat
 | []=>0
 | x :: r=>x.nn+nns r
end
def Zrf (op n:Nat):Prop:=(op < 6->n=0)/\(op=6\/op=7->n=1)/\(op=15->1<=n)/\(op=16->n % 2=0)/\(op=17->n=0)/\(8<=op->op<=14->n=2)/\n<=4
mutual
def Tx.ev:Tx->Prop
 | .ex op num text ps qs b=>op < 18/\(0<=num/\num < 144115188075855872)/\(op≠3->num=0)/\(op=4->text∈Zct)/\(op=5->text∈Uo)/\(op≠4->op≠5->text=[])/\(op≠17->qs=[]/\b=[])/\qs.length<=2/\(∀ q∈qs,q∈Uo)/\Zrf op ps.length/\evs ps/\svs b
 | .st ..=>False
def Tx.sv:Tx->Prop
 | .st kind name es b e at_=>kind < 9/\(kind=0\/kind=1\/kind=7->name∈Uo)/\(kind≠0->kind≠1->kind≠7->name=[])/\es.length=Ve kind/\(kind≠3->kind≠4->kind≠7->b=[])/\(kind≠3->kind≠7->e=[])/\evs es/\svs b/\svs e
 | .ex ..=>False
def evs:List Tx->Prop
 | []=>True
 | x :: r=>x.ev/\evs r
def svs:List Tx->Prop
 | []=>True
 | x :: r=>x.sv/\svs r
end
def mok (m:MS):Prop:=∀ x∈m.l,x.ok
theorem Zmz {m:MS} (h:mok m):(Zm m).ok:=by
 unfold Zm
 split
 ·exact ⟨by decide,by decide,by decide,by decide⟩
 ·rename_i x r hx;exact h x (by rw [hx];simp)
theorem Zoj {m:MS} (h:mok m):mok (Z7 m):=fun x hx=>h x (List.mem_of_mem_tail hx)
theorem Zfb (n:Nat):Zb1 n∈Uo:=by
 have:∀ k,k < 8->(Uo[k]?).getD []∈Uo:=by decide
 exact this _ (Nat.mod_lt _ (by decide))
theorem Zrp (n:Nat):Zzv n∈Zct:=by
 have:∀ k,k < 6->(Zct[k]?).getD []∈Zct:=by decide
 exact this _ (Nat.mod_lt _ (by decide))
def GE (B:Int) (g:MS->Tx×MS):Prop:=∀ m,mok m->(g m).1.ev/\((g m).1.nn:Int)+(g m).2.left=m.left/\min (m.left-1) (-B)<=(g m).2.left/\mok (g m).2
def GS (B:Int) (g:MS->Tx×MS):Prop:=∀ m,mok m->(g m).1.sv/\((g m).1.nn:Int)+(g m).2.left=m.left/\min (m.left-4) (-B)<=(g m).2.left/\mok (g m).2
theorem Zjv {B:Int} {g:MS->Tx×MS} (hg:GE B g):∀ (k:Nat) (m:MS),mok m->evs (Xf g k m).1/\(Xf g k m).1.length=k/\(nns (Xf g k m).1:Int)+(Xf g k m).2.left=m.left/\min (m.left-k) (-B-k)<=(Xf g k m).2.left/\mok (Xf g k m).2
 | 0,m,hm=>by simp only [Xf,evs,nns,List.length_nil,true_and];exact ⟨by omega,by omega,hm⟩
 | k+1,m,hm=>by
  obtain ⟨h1,h2,h3,h4⟩:=hg m hm
  obtain ⟨g1,g5,g2,g3,g4⟩:=Zjv hg k (g m).2 h4
  simp only [Xf,evs,nns,List.length_cons]
  exact ⟨⟨h1,g1⟩,by omega,by omega,by omega,g4⟩
theorem Zhe {B:Int} {g:MS->Tx×MS} (hB:3<=B) (hg:GS B g):∀ (k:Nat) (m:MS),mok m->svs (Z5 g k m).1/\(nns (Z5 g k m).1:Int)+(Z5 g k m).2.left=m.left/\min m.left (-B)<=(Z5 g k m).2.left/\mok (Z5 g k m).2
 | 0,m,hm=>by simp only [Z5,svs,nns,true_and];exact ⟨by omega,by omega,hm⟩
 | k+1,m,hm=>by
  rw [Z5]
  split
  ·simp only [svs,nns,true_and];exact ⟨by omega,by omega,hm⟩
  ·obtain ⟨h1,h2,h3,h4⟩:=hg m hm
   obtain ⟨g1,g2,g3,g4⟩:=Zhe hB hg k (g m).2 h4
   simp only [svs,nns]
   exact ⟨⟨h1,g1⟩,by omega,by omega,g4⟩
theorem Zq2 (op:Nat) (x:X4) (ho:op < 18):Zrf op (countP op x):=by
 have h3:x.a % 3 < 3:=Nat.mod_lt _ (by omega)
 unfold Zrf countP
 by_cases h1:op=6\/op=7
 ·rw [if_pos h1];omega
 ·rw [if_neg h1]
  by_cases h2:op=15
  ·rw [if_pos h2];omega
  ·rw [if_neg h2]
   by_cases h4:op=16
   ·rw [if_pos h4];omega
   ·rw [if_neg h4]
    by_cases h5:op=17
    ·rw [if_pos h5];omega
    ·rw [if_neg h5]
     by_cases h6:op > 7
     ·rw [if_pos h6];omega
     ·rw [if_neg h6];omega
theorem Z0v (op:Nat) {x:X4} (h:x.ok):0<=numP op x/\numP op x < 144115188075855872/\(op≠3->numP op x=0):=by
 have:=h.n
 unfold numP
 split
 ·split<;>omega
 ·omega
theorem Zxk (deep:Int) (m1:MS) (x:X4) (h:deep<=0\/m1.left<=0):opP deep m1 x < 6:=by unfold opP;rw [if_pos h];omega
theorem Zq3 (deep:Int) (x:X4) (h:deep<=0):Xy deep x≠3/\Xy deep x≠4/\Xy deep x≠7:=by
 unfold Xy
 split
 ·omega
 ·rename_i hh;omega
theorem Zrs (op:Nat) (x:X4):(Zan op x).length<=2/\(∀ q∈Zan op x,q∈Uo)/\(op≠17->Zan op x=[]):=by
 have h3:x.a % 3 < 3:=Nat.mod_lt _ (by omega)
 unfold Zan
 split
 ·refine ⟨by simp;omega,fun q hq=>?_,fun h=>by omega⟩
  obtain ⟨i,_,rfl⟩:=List.mem_map.1 hq
  exact Zfb _
 ·rename_i h;exact ⟨by simp,fun q hq=>by simp at hq,fun _=>rfl⟩
theorem Z1d (op:Nat) (x:X4):(op=4->Zii op x∈Zct)/\(op=5->Zii op x∈Uo)/\(op≠4->op≠5->Zii op x=[]):=by
 refine ⟨fun h=>?_,fun h=>?_,fun h h'=>?_⟩
 ·subst h;exact Zrp _
 ·subst h;exact Zfb _
 ·unfold Zii;rw [if_neg h,if_neg h']
mutual
theorem Znf:∀ (f:Nat) (deep:Int),1<=f->deep+3<=f->GE (4*f) (Vb f deep)
 | 0,deep,h,_=>by omega
 | f+1,deep,_,hd=>fun m hm=>by
  have hx:=Zmz hm
  have hm1:=Zoj hm
  have hl1:(Z7 m).left=m.left-1:=rfl
  rw [Vb]
  dsimp only
  have ho:=Zup deep (Z7 m) (Zm m)
  have hlf:=Zxk deep (Z7 m) (Zm m)
  generalize opP deep (Z7 m) (Zm m)=op at *
  have hc:=Zq2 op (Zm m) ho
  obtain ⟨n1,n2,n3⟩:=Z0v op hx
  obtain ⟨p1,p2,p3⟩:=Zrs op (Zm m)
  obtain ⟨t1,t2,t3⟩:=Z1d op (Zm m)
  by_cases hlow:deep<=0\/(Z7 m).left<=0
  ·have h6:=hlf hlow
   have hc0:countP op (Zm m)=0:=hc.1 h6
   have h17:op≠17:=by omega
   rw [hc0] at hc
   rw [hc0,if_neg h17]
   simp only [Xf,Tx.ev,Tx.nn,evs,svs,nns,List.length_nil]
   exact ⟨⟨ho,⟨n1,n2⟩,n3,t1,t2,t3,fun h=>⟨p3 h,trivial⟩,p1,p2,hc,trivial,trivial⟩,by omega,by omega,hm1⟩
  ·have hE:=Zjv (Znf f (deep-1) (by omega) (by omega)) (countP op (Zm m))
   have hS:=Zhe (by omega) (Zn3 f (deep-1) (by omega) (by omega)) ((Zm m).n % 3) (Z7 m) hm1
   have h4:countP op (Zm m)<=4:=Zfq _ _
   have hb:svs (if op=17 then Z5 (Ym f (deep-1)) ((Zm m).n % 3) (Z7 m) else ([],Z7 m)).1/\(nns (if op=17 then Z5 (Ym f (deep-1)) ((Zm m).n % 3) (Z7 m) else ([],Z7 m)).1:Int)+(if op=17 then Z5 (Ym f (deep-1)) ((Zm m).n % 3) (Z7 m) else ([],Z7 m)).2.left=(Z7 m).left/\min (Z7 m).left (-(4*f))<=(if op=17 then Z5 (Ym f (deep-1)) ((Zm m).n % 3) (Z7 m) else ([],Z7 m)).2.left/\mok (if op=17 then Z5 (Ym f (deep-1)) ((Zm m).n % 3) (Z7 m) else ([],Z7 m)).2/\(op≠17->(if op=17 then Z5 (Ym f (deep-1)) ((Zm m).n % 3) (Z7 m) else ([],Z7 m)).1=[]):=by
    by_cases h:op=17
    ·rw [if_pos h];exact ⟨hS.1,hS.2.1,hS.2.2.1,hS.2.2.2,fun h'=>absurd h h'⟩
    ·rw [if_neg h];exact ⟨by simp only [svs],by simp only [nns];omega,by dsimp only;omega,hm1,fun _=>rfl⟩
   generalize (if op=17 then Z5 (Ym f (deep-1)) ((Zm m).n % 3) (Z7 m) else ([],Z7 m))=b at *
   obtain ⟨b1,b2,b3,b4,b5⟩:=hb
   obtain ⟨e1,e2,e3,e4,e5⟩:=hE b.2 b4
   simp only [Tx.ev,Tx.nn]
   refine ⟨⟨ho,⟨n1,n2⟩,n3,t1,t2,t3,fun h=>⟨p3 h,b5 h⟩,p1,p2,by rw [e2];exact hc,e1,b1⟩,by omega,by omega,e5⟩
theorem Zn3:∀ (f:Nat) (deep:Int),2<=f->deep+3<=f->GS (4*f) (Ym f deep)
 | 0,deep,h,_=>by omega
 | f+1,deep,hf,hd=>fun m hm=>by
  have hx:=Zmz hm
  have hm1:=Zoj hm
  have hl1:(Z7 m).left=m.left-1:=rfl
  rw [Ym]
  dsimp only
  have ho:=Znm deep (Zm m)
  have hlf:=Zq3 deep (Zm m)
  generalize Xy deep (Zm m)=k at *
  obtain ⟨e1,e2,e3,e4,e5⟩:=Zjv (Znf f (deep-1) (by omega) (by omega)) (Ve k) (Z7 m) hm1
  have h3:Ve k<=3:=Zbs _
  generalize hes:Xf (Vb f (deep-1)) (Ve k) (Z7 m)=es at *
  have hn1:k=0\/k=1\/k=7->Ze9 k (Zm m)∈Uo:=fun h=>by unfold Ze9;rw [if_pos h];exact Zfb _
  have hn2:k≠0->k≠1->k≠7->Ze9 k (Zm m)=[]:=fun h h' h''=>by unfold Ze9;rw [if_neg (by omega)]
  by_cases hlow:deep<=0
  ·obtain ⟨k3,k4,k7⟩:=hlf hlow
   rw [if_neg (by omega),if_neg (by omega)]
   simp only [Tx.sv,Tx.nn,nns,svs]
   exact ⟨⟨ho,hn1,hn2,e2,fun _ _ _=>trivial,fun _ _=>trivial,e1,trivial,trivial⟩,by omega,by omega,e5⟩
  ·have hSt:=fun n m=>Zhe (by omega) (Zn3 f (deep-1) (by omega) (by omega)) n m
   have hb:∀ (c:Prop) [Decidable c] (n:Nat) (m:MS),mok m->svs (if c then Z5 (Ym f (deep-1)) n m else ([],m)).1/\(nns (if c then Z5 (Ym f (deep-1)) n m else ([],m)).1:Int)+(if c then Z5 (Ym f (deep-1)) n m else ([],m)).2.left=m.left/\min m.left (-(4*f))<=(if c then Z5 (Ym f (deep-1)) n m else ([],m)).2.left/\mok (if c then Z5 (Ym f (deep-1)) n m else ([],m)).2/\(¬ c->(if c then Z5 (Ym f (deep-1)) n m else ([],m)).1=[]):=by
    intro c _ n m hm
    have hS:=hSt n m hm
    by_cases h:c
    ·rw [if_pos h];exact ⟨hS.1,hS.2.1,hS.2.2.1,hS.2.2.2,fun h'=>absurd h h'⟩
    ·rw [if_neg h];exact ⟨by simp only [svs],by simp only [nns];omega,by dsimp only;omega,hm,fun _=>rfl⟩
   obtain ⟨b1,b2,b3,b4,b5⟩:=hb (k=3\/k=7\/k=4) ((Zm m).a % 3) es.2 e5
   generalize (if k=3\/k=7\/k=4 then Z5 (Ym f (deep-1)) ((Zm m).a % 3) es.2 else ([],es.2))=b at *
   obtain ⟨c1,c2,c3,c4,c5⟩:=hb (k=3\/k=7) ((Zm m).n % 3) b.2 b4
   generalize (if k=3\/k=7 then Z5 (Ym f (deep-1)) ((Zm m).n % 3) b.2 else ([],b.2))=c at *
   simp only [Tx.sv,Tx.nn]
   exact ⟨⟨ho,hn1,hn2,e2,fun h h' h''=>b5 (by omega),fun h h'=>c5 (by omega),e1,b1,c1⟩,by omega,by omega,c4⟩
end
theorem Zgz {s:Bs} (h:s∈Uo):s.length<=3:=by
 have:∀ s∈Uo,s.length<=3:=by decide
 exact this s h
theorem Zs0 {s:Bs} (h:s∈Zct):s.length<=9:=by
 have:∀ s∈Zct,s.length<=9:=by decide
 exact this s h
theorem Zi8:∀ {l:Ts},(∀ q∈l,q∈Uo)->lens l<=5*l.length
 | [],_=>by simp [lens]
 | x :: r,h=>by
  have h1:=Zgz (h x (by simp))
  have h2:=Zi8 fun q hq=>h q (List.mem_cons_of_mem _ hq)
  simp only [lens,List.map_cons,List.sum_cons,List.length_cons] at *
  omega
section
mutual
theorem Yh4 {dec:Int->Bs} (hdec:∀ n:Int,0<=n->n < 144115188075855872->(dec n).length<=24):∀ t:Tx,t.ev->t.bw dec<=128*t.nn
 | .ex op num text ps qs b,h=>by
  simp only [Tx.ev] at h
  obtain ⟨h1,⟨h2,h3⟩,h4,h5,h6,h7,h8,h9,h10,h11,h12,h13⟩:=h
  have e1:=Zof hdec ps h12
  have e2:=Zji hdec b h13
  have e3:=Zi8 h10
  have e4:=hdec num h2 h3
  have e5:text.length<=9:=by
   by_cases g4:op=4
   ·exact Zs0 (h5 g4)
   ·by_cases g5:op=5
    ·have:=Zgz (h6 g5);omega
    ·rw [h7 g4 g5];simp
  have e6:=h11.2.2.2.2.2.2
  simp only [Tx.bw,Tx.nn]
  omega
 | .st ..,h=>by simp only [Tx.ev] at h
theorem Zof {dec:Int->Bs} (hdec:∀ n:Int,0<=n->n < 144115188075855872->(dec n).length<=24):∀ l:List Tx,evs l->bws dec l<=128*nns l
 | [],_=>by simp only [bws,nns];omega
 | x :: r,h=>by
  simp only [evs] at h
  have h1:=Yh4 hdec x h.1
  have h2:=Zof hdec r h.2
  simp only [bws,nns]
  omega
theorem Z8p {dec:Int->Bs} (hdec:∀ n:Int,0<=n->n < 144115188075855872->(dec n).length<=24):∀ t:Tx,t.sv->t.bw dec<=128*t.nn
 | .st kind name es b e a,h=>by
  simp only [Tx.sv] at h
  obtain ⟨h1,h2,h3,h4,h5,h6,h8,h9,h10⟩:=h
  have e1:=Zof hdec es h8
  have e2:=Zji hdec b h9
  have e3:=Zji hdec e h10
  have e4:=Zbs kind
  have e5:name.length<=3:=by
   by_cases g:kind=0\/kind=1\/kind=7
   ·exact Zgz (h2 g)
   ·rw [h3 (by omega) (by omega) (by omega)];simp
  simp only [Tx.bw,Tx.nn]
  omega
 | .ex ..,h=>by simp only [Tx.sv] at h
theorem Zji {dec:Int->Bs} (hdec:∀ n:Int,0<=n->n < 144115188075855872->(dec n).length<=24):∀ l:List Tx,svs l->bws dec l<=128*nns l
 | [],_=>by simp only [bws,nns];omega
 | x :: r,h=>by
  simp only [svs] at h
  have h1:=Z8p hdec x h.1
  have h2:=Zji hdec r h.2
  simp only [bws,nns]
  omega
end
end
end Go.AM
namespace Go.AM
open Go
abbrev wLet:Bs:=[108,101,116]
abbrev wIf:Bs:=[105,102]
abbrev Ziz:Bs:=[101,108,115,101]
abbrev Zh3:Bs:=[119,104,105,108,101]
abbrev Zb5:Bs:=[114,101,116,117,114,110]
abbrev Zdd:Bs:=[116,104,114,111,119]
abbrev wTry:Bs:=[116,114,121]
abbrev Zjh:Bs:=[99,97,116,99,104]
abbrev wFn:Bs:=[102,110]
abbrev wNil:Bs:=[110,105,108]
abbrev Zlm:Bs:=[116,114,117,101]
abbrev Zil:Bs:=[102,97,108,115,101]
abbrev Zmu:Bs:=[45]
abbrev Zqn:Bs:=[33]
abbrev sLp:Bs:=[40]
abbrev sRp:Bs:=[41]
abbrev sLb:Bs:=[91]
abbrev sRb:Bs:=[93]
abbrev sLc:Bs:=[123]
abbrev sRc:Bs:=[125]
abbrev Vr:Bs:=[59]
abbrev Zh5:Bs:=[44]
abbrev Zhs:Bs:=[58]
abbrev sDot:Bs:=[46]
abbrev sEq:Bs:=[61]
inductive PR (α:Type) where
 | ok (a:α) (l:List Tk)
 | err (at_:Nat) (e:Int)
 | out
def PR.bind {α β:Type} (r:PR α) (f:α->List Tk->PR β):PR β:=match r with
 | .ok a l=>f a l
 | .err a e=>.err a e
 | .out=>.out
theorem Zo {α β:Type} (a:α) (l:List Tk) (f:α->List Tk->PR β):PR.bind (.ok a l) f=f a l:=rfl
def hdT (l:List Tk):Tk:=l.headD ⟨0,[],0,0⟩
def isK (l:List Tk) (t:Bs):Bool:=((hdT l).k==4 || (hdT l).k==1)&&(hdT l).t==t
def Yk (t:Bs) (l:List Tk):PR Unit:=if isK l t then .ok () l.tail else .err (hdT l).at_ 1
def resL:Ts:=[wLet,wIf,Ziz,Zh3,Zb5,Zdd,wTry,Zjh,wFn,wNil,Zlm,Zil]
def Wo (l:List Tk):PR Bs:=if (hdT l).k=1/\(hdT l).t∉resL then .ok (hdT l).t l.tail else .err (hdT l).at_ 1
def lvY (n:Nat) (t:Bs):Option Nat :=
 if n=0 then (if t=[61,61] then some 11 else if t=[33,61] then some 12 else if t=[60] then some 13 else none)
 else if n=1 then (if t=[43] then some 8 else if t=[45] then some 9 else none)
 else if n=2 then (if t=[42] then some 10 else none) else none
def Vk (first:Bool) (l:List Tk):PR Unit:=if first then .ok () l else Yk Zh5 l
def Wm:Nat->Ts->List Tk->PR Ts
 | 0,_,_=>.out
 | f+1,acc,l=>if isK l sRp then .ok acc l.tail else (Vk acc.isEmpty l).bind fun _ l=>(Wo l).bind fun s l=>Wm f (acc++[s]) l
def Vu (w:List Tk->PR Tx) (a:Nat) (e:Tx) (l:List Tk):PR Tx :=
 if (hdT l).k=4/\(hdT l).t=sEq then
  match e with
  | .ex 5 _ s _ _ _=>(w l.tail).bind fun x l=>(Yk Vr l).bind fun _ l=>.ok (.st 1 s [x] [] [] a) l
  | .ex 14 _ _ ps _ _=>(w l.tail).bind fun x l=>(Yk Vr l).bind fun _ l=>.ok (.st 2 [] (ps++[x]) [] [] a) l
  | _=>.err a 7
 else (Yk Vr l).bind fun _ l=>.ok (.st 8 [] [e] [] [] a) l
mutual
def Zw:Nat->Nat->List Tk->PR Tx
 | 0,_,_=>.out
 | f+1,d,l=>if d=20 then .err (hdT l).at_ 3 else Wp f 0 (d+1) l
def Wp:Nat->Nat->Nat->List Tk->PR Tx
 | 0,_,_,_=>.out
 | f+1,n,d,l=>if n=3 then Xt f d l else (Wp f (n+1) d l).bind fun e l=>lvlY f n d e l
def lvlY:Nat->Nat->Nat->Tx->List Tk->PR Tx
 | 0,_,_,_,_=>.out
 | f+1,n,d,e,l=>match (if (hdT l).k=4 then lvY n (hdT l).t else none) with
  | none=>.ok e l
  | some op=>(Wp f (n+1) d l.tail).bind fun y l=>if n=0 then .ok (.ex op 0 [] [e,y] [] []) l else lvlY f n d (.ex op 0 [] [e,y] [] []) l
def Xt:Nat->Nat->List Tk->PR Tx
 | 0,_,_=>.out
 | f+1,d,l =>
  if isK l Zmu then (if d=20 then .err (hdT l.tail).at_ 3 else (Xt f (d+1) l.tail).bind fun e l=>.ok (.ex 6 0 [] [e] [] []) l)
  else if isK l Zqn then (if d=20 then .err (hdT l.tail).at_ 3 else (Xt f (d+1) l.tail).bind fun e l=>.ok (.ex 7 0 [] [e] [] []) l)
  else (oneY f d l).bind fun e l=>Wa f d e l
def Wa:Nat->Nat->Tx->List Tk->PR Tx
 | 0,_,_,_=>.out
 | f+1,d,e,l =>
  if isK l sLp then (Xp f d [] l.tail).bind fun a l=>Wa f d (.ex 15 0 [] (e :: a) [] []) l
  else if isK l sLb then (Zw f d l.tail).bind fun k l=>(Yk sRb l).bind fun _ l=>Wa f d (.ex 14 0 [] [e,k] [] []) l
  else if isK l sDot then (Wo l.tail).bind fun s l=>Wa f d (.ex 14 0 [] [e,.ex 4 0 s [] [] []] [] []) l
  else .ok e l
def Xp:Nat->Nat->List Tx->List Tk->PR (List Tx)
 | 0,_,_,_=>.out
 | f+1,d,acc,l=>if isK l sRp then .ok acc l.tail else (Vk acc.isEmpty l).bind fun _ l=>(Zw f d l).bind fun e l=>Xp f d (acc++[e]) l
def oneY:Nat->Nat->List Tk->PR Tx
 | 0,_,_=>.out
 | f+1,d,l =>
  if (hdT l).k=2 then .ok (.ex 3 (hdT l).x [] [] [] []) l.tail
  else if (hdT l).k=3 then .ok (.ex 4 0 (hdT l).t [] [] []) l.tail
  else if isK l wNil then .ok (.ex 0 0 [] [] [] []) l.tail
  else if isK l Zlm then .ok (.ex 2 0 [] [] [] []) l.tail
  else if isK l Zil then .ok (.ex 1 0 [] [] [] []) l.tail
  else if isK l sLp then (Zw f d l.tail).bind fun e l=>(Yk sRp l).bind fun _ l=>.ok e l
  else if isK l sLc then recY f d [] l.tail
  else if isK l wFn then (Yk sLp l.tail).bind fun _ l=>(Wm f [] l).bind fun ps l=>(Yp f d l).bind fun b l=>.ok (.ex 17 0 [] [] ps b) l
  else (Wo l).bind fun s l=>.ok (.ex 5 0 s [] [] []) l
def recY:Nat->Nat->List Tx->List Tk->PR Tx
 | 0,_,_,_=>.out
 | f+1,d,acc,l =>
  if isK l sRc then .ok (.ex 16 0 [] acc [] []) l.tail
  else (Vk acc.isEmpty l).bind fun _ l =>
   (if isK l sLb then (Zw f d l.tail).bind fun k l=>(Yk sRb l).bind fun _ l=>.ok k l else (Wo l).bind fun s l=>.ok (.ex 4 0 s [] [] []) l).bind fun k l =>
   (Yk Zhs l).bind fun _ l=>(Zw f d l).bind fun v l=>recY f d (acc++[k,v]) l
def Yp:Nat->Nat->List Tk->PR (List Tx)
 | 0,_,_=>.out
 | f+1,d,l=>(Yk sLc l).bind fun _ l=>if d=20 then .err (hdT l).at_ 3 else Wx f (d+1) [] l
def Wx:Nat->Nat->List Tx->List Tk->PR (List Tx)
 | 0,_,_,_=>.out
 | f+1,d,acc,l=>if isK l sRc then .ok acc l.tail else (X8 f d l).bind fun s l=>Wx f d (acc++[s]) l
def X8:Nat->Nat->List Tk->PR Tx
 | 0,_,_=>.out
 | f+1,d,l0 =>
  if isK l0 Zb5 then (Zw f d l0.tail).bind fun e l=>(Yk Vr l).bind fun _ l=>.ok (.st 5 [] [e] [] [] (hdT l0).at_) l
  else if isK l0 Zdd then (Zw f d l0.tail).bind fun e l=>(Yk Vr l).bind fun _ l=>.ok (.st 6 [] [e] [] [] (hdT l0).at_) l
  else if isK l0 wLet then (Wo l0.tail).bind fun s l=>(Yk sEq l).bind fun _ l=>(Zw f d l).bind fun e l=>(Yk Vr l).bind fun _ l=>.ok (.st 0 s [e] [] [] (hdT l0).at_) l
  else if isK l0 wIf then (Zw f d l0.tail).bind fun e l=>(Yp f d l).bind fun b l =>
   if isK l Ziz then (Yp f d l.tail).bind fun c l=>.ok (.st 3 [] [e] b c (hdT l0).at_) l else .ok (.st 3 [] [e] b [] (hdT l0).at_) l
  else if isK l0 Zh3 then (Zw f d l0.tail).bind fun e l=>(Yp f d l).bind fun b l=>.ok (.st 4 [] [e] b [] (hdT l0).at_) l
  else if isK l0 wTry then (Yp f d l0.tail).bind fun b l=>(Yk Zjh l).bind fun _ l=>(Wo l).bind fun s l=>(Yp f d l).bind fun c l=>.ok (.st 7 s [] b c (hdT l0).at_) l
  else (Zw f d l0).bind fun e l=>Vu (Zw f d) (hdT l0).at_ e l
end
def modY:Nat->List Tx->List Tk->PR (List Tx)
 | 0,_,_=>.out
 | f+1,acc,l=>if (hdT l).k=0 then .ok acc l else (X8 f 0 l).bind fun s l=>modY f (acc++[s]) l
end Go.AM
namespace Go.AM
open Go
def Tn (z:Nat) {α:Type} (r:PR α) (n:Nat):Prop:=match r with
 | .ok _ l=>l.length < n
 | .err _ _=>True
 | .out=>0 < z
theorem Tn.bind {z:Nat} {α β:Type} {r:PR α} {g:α->List Tk->PR β} {n m:Nat} (h:Tn z r n) (hg:∀ a l,l.length < n->Tn z (g a l) m):Tn z (r.bind g) m:=by
 cases r with
 | ok a l=>exact hg a l h
 | err a e=>trivial
 | out=>exact h
theorem Tn.le {z:Nat} {α:Type} {r:PR α} {n m:Nat} (h:Tn z r n) (hm:n<=m):Tn z r m:=by
 cases r with
 | ok a l=>exact Nat.lt_of_lt_of_le h hm
 | err a e=>trivial
 | out=>exact h
theorem Tn.ne {α:Type} {r:PR α} {n:Nat} (h:Tn 0 r n):r≠.out:=fun e=>by subst e;exact absurd h (by show ¬ 0 < 0;omega)
theorem Zcy {l:List Tk} (h:(hdT l).k≠0):l.tail.length < l.length:=by
 cases l with
 | nil=>exact absurd rfl h
 | cons a r=>simp
theorem Zzy {l:List Tk} {t:Bs} (h:isK l t=true):(hdT l).k≠0:=fun e=>by
 simp only [isK,Bool.and_eq_true,Bool.or_eq_true,beq_iff_eq,e] at h
 omega
theorem Zs {l:List Tk} {t:Bs} (h:isK l t=true):l.tail.length < l.length:=Zcy (Zzy h)
theorem Vm {z:Nat} (t:Bs) (l:List Tk):Tn z (Yk t l) l.length:=by
 unfold Yk
 split
 ·rename_i h;exact Zs h
 ·trivial
theorem Zcc {z:Nat} (l:List Tk):Tn z (Wo l) l.length:=by
 unfold Wo
 split
 ·rename_i h;exact Zcy (by rw [h.1];decide)
 ·trivial
theorem Zga {z:Nat} (b:Bool) (l:List Tk):Tn z (Vk b l) (l.length+1):=by
 unfold Vk
 split
 ·exact Nat.lt_succ_self _
 ·exact (Vm _ _).le (Nat.le_succ _)
structure Tt (z f:Nat):Prop where
 whole:∀ d l,10*l.length+7<=f+z->Tn z (Zw f d l) l.length
 expr:∀ n d l,n<=3->10*l.length+(6-n)<=f+z->Tn z (Wp f n d l) l.length
 lvl:∀ n d e l,n<=3->10*l.length+1<=f+z->Tn z (lvlY f n d e l) (l.length+1)
 unary:∀ d l,10*l.length+2<=f+z->Tn z (Xt f d l) l.length
 post:∀ d e l,10*l.length+1<=f+z->Tn z (Wa f d e l) (l.length+1)
 list:∀ d acc l,10*l.length+8<=f+z->Tn z (Xp f d acc l) l.length
 one:∀ d l,10*l.length+1<=f+z->Tn z (oneY f d l) l.length
 record:∀ d acc l,10*l.length+8<=f+z->Tn z (recY f d acc l) l.length
 params:∀ acc l,10*l.length+1<=f+z->Tn z (Wm f acc l) l.length
 block:∀ d l,10*l.length+1<=f+z->Tn z (Yp f d l) l.length
 stmts:∀ d acc l,10*l.length+9<=f+z->Tn z (Wx f d acc l) l.length
 stmt:∀ d l,10*l.length+8<=f+z->Tn z (X8 f d l) l.length
theorem Z2x {z:Nat} {w:List Tk->PR Tx} {n:Nat} (hw:∀ l,l.length < n->Tn z (w l) l.length) (a:Nat) (e:Tx) (l:List Tk) (hl:l.length<=n):Tn z (Vu w a e l) l.length:=by
 unfold Vu
 split
 ·rename_i h
  have hp:=Zcy (l:=l) (by rw [h.1];decide)
  have fin:∀ g:Tx->Tx,Tn z ((w l.tail).bind fun x l=>(Yk Vr l).bind fun _ l=>.ok (g x) l) l.length:=fun g =>
   (hw l.tail (by omega)).bind fun x l1 h1=>(Vm _ l1).bind fun _ l2 h2=>by show l2.length < _;omega
  split
  ·exact fin _
  ·exact fin _
  ·trivial
 ·exact (Vm _ l).bind fun _ l1 h1=>h1
theorem Z0m {z:Nat}:Tt z 0:=by
 constructor<;>intros<;>simp only [Zw,Wp,lvlY,Xt,Wa,Xp,oneY,recY,Wm,Yp,Wx,X8]<;>show 0 < z<;>omega
theorem Z3h {z f:Nat} (T:Tt z f):Tt z (f+1) where
 whole d l h:=by
  rw [Zw]
  split
  ·trivial
  ·exact T.expr 0 _ l (by omega) (by omega)
 expr n d l hn h:=by
  rw [Wp]
  split
  ·exact T.unary d l (by omega)
  ·rename_i hn3
   exact (T.expr (n+1) d l (by omega) (by omega)).bind fun e l1 h1=>(T.lvl n d e l1 hn (by omega)).le (by omega)
 lvl n d e l hn h:=by
  rw [lvlY]
  split
  ·exact Nat.lt_succ_self _
  ·rename_i op h1
   have hp:l.tail.length < l.length:=Zcy (fun hk=>by rw [hk] at h1;simp at h1)
   have hn3:n≠3:=fun hk=>by subst hk;simp [lvY] at h1
   refine (T.expr (n+1) d l.tail (by omega) (by omega)).bind fun y l1 h1=>?_
   split
   ·show l1.length < _;omega
   ·exact (T.lvl n d _ l1 hn (by omega)).le (by omega)
 unary d l h:=by
  rw [Xt]
  split
  ·rename_i hk
   have hp:=Zs hk
   split
   ·trivial
   ·exact (T.unary _ l.tail (by omega)).bind fun e l1 h1=>by show l1.length < _;omega
  ·split
   ·rename_i hk
    have hp:=Zs hk
    split
    ·trivial
    ·exact (T.unary _ l.tail (by omega)).bind fun e l1 h1=>by show l1.length < _;omega
   ·exact (T.one d l (by omega)).bind fun e l1 h1=>(T.post d e l1 (by omega)).le (by omega)
 post d e l h:=by
  rw [Wa]
  split
  ·rename_i hk
   have hp:=Zs hk
   exact (T.list d [] l.tail (by omega)).bind fun a l1 h1=>(T.post d _ l1 (by omega)).le (by omega)
  ·split
   ·rename_i hk
    have hp:=Zs hk
    exact (T.whole d l.tail (by omega)).bind fun k l1 h1=>(Vm _ l1).bind fun _ l2 h2=>(T.post d _ l2 (by omega)).le (by omega)
   ·split
    ·rename_i hk
     have hp:=Zs hk
     exact (Zcc l.tail).bind fun s l1 h1=>(T.post d _ l1 (by omega)).le (by omega)
    ·exact Nat.lt_succ_self _
 list d acc l h:=by
  rw [Xp]
  split
  ·rename_i hk;exact Zs hk
  ·exact (Zga _ l).bind fun _ l1 h1=>(T.whole d l1 (by omega)).bind fun e l2 h2=>(T.list d _ l2 (by omega)).le (by omega)
 one d l h:=by
  rw [oneY]
  split
  ·rename_i hk;exact Zcy (by rw [hk];decide)
  split
  ·rename_i hk;exact Zcy (by rw [hk];decide)
  split
  ·rename_i hk;exact Zs hk
  split
  ·rename_i hk;exact Zs hk
  split
  ·rename_i hk;exact Zs hk
  split
  ·rename_i hk
   have hp:=Zs hk
   exact (T.whole d l.tail (by omega)).bind fun e l1 h1=>(Vm _ l1).bind fun _ l2 h2=>by show l2.length < _;omega
  split
  ·rename_i hk
   have hp:=Zs hk
   exact (T.record d [] l.tail (by omega)).le (by omega)
  split
  ·rename_i hk
   have hp:=Zs hk
   exact (Vm _ l.tail).bind fun _ l1 h1=>(T.params [] l1 (by omega)).bind fun ps l2 h2=>(T.block d l2 (by omega)).bind fun b l3 h3=>by show l3.length < _;omega
  ·exact (Zcc l).bind fun s l1 h1=>h1
 record d acc l h:=by
  rw [recY]
  split
  ·rename_i hk;exact Zs hk
  ·refine (Zga _ l).bind fun _ l1 h1=>?_
   have key:Tn z (if isK l1 sLb then (Zw f d l1.tail).bind fun k l=>(Yk sRb l).bind fun _ l=>.ok k l else (Wo l1).bind fun s l=>.ok (.ex 4 0 s [] [] []) l) l1.length:=by
    split
    ·rename_i hk
     have hp:=Zs hk
     exact (T.whole d l1.tail (by omega)).bind fun k l2 h2=>(Vm _ l2).bind fun _ l3 h3=>by show l3.length < _;omega
    ·exact (Zcc l1).bind fun s l2 h2=>h2
   exact key.bind fun k l2 h2=>(Vm _ l2).bind fun _ l3 h3=>(T.whole d l3 (by omega)).bind fun v l4 h4=>(T.record d _ l4 (by omega)).le (by omega)
 params acc l h:=by
  rw [Wm]
  split
  ·rename_i hk;exact Zs hk
  ·exact (Zga _ l).bind fun _ l1 h1=>(Zcc l1).bind fun s l2 h2=>(T.params _ l2 (by omega)).le (by omega)
 block d l h:=by
  rw [Yp]
  refine (Vm _ l).bind fun _ l1 h1=>?_
  split
  ·trivial
  ·exact (T.stmts _ [] l1 (by omega)).le (by omega)
 stmts d acc l h:=by
  rw [Wx]
  split
  ·rename_i hk;exact Zs hk
  ·exact (T.stmt d l (by omega)).bind fun s l1 h1=>(T.stmts d _ l1 (by omega)).le (by omega)
 stmt d l h:=by
  rw [X8]
  have two:∀ (t:Bs) (g:Tx->Tx),isK l t=true->Tn z ((Zw f d l.tail).bind fun e l=>(Yk Vr l).bind fun _ l=>PR.ok (g e) l) l.length:=fun t g hk=>by
   have hp:=Zs hk
   exact (T.whole d l.tail (by omega)).bind fun e l1 h1=>(Vm _ l1).bind fun _ l2 h2=>by show l2.length < _;omega
  split
  ·rename_i hk;exact two _ _ hk
  split
  ·rename_i hk;exact two _ _ hk
  split
  ·rename_i hk
   have hp:=Zs hk
   exact (Zcc l.tail).bind fun s l1 h1=>(Vm _ l1).bind fun _ l2 h2=>(T.whole d l2 (by omega)).bind fun e l3 h3=>(Vm _ l3).bind fun _ l4 h4=>by show l4.length < _;omega
  split
  ·rename_i hk
   have hp:=Zs hk
   refine (T.whole d l.tail (by omega)).bind fun e l1 h1=>(T.block d l1 (by omega)).bind fun b l2 h2=>?_
   split
   ·rename_i hk2
    have hp2:=Zs hk2
    exact (T.block d l2.tail (by omega)).bind fun c l3 h3=>by show l3.length < _;omega
   ·show l2.length < _;omega
  split
  ·rename_i hk
   have hp:=Zs hk
   exact (T.whole d l.tail (by omega)).bind fun e l1 h1=>(T.block d l1 (by omega)).bind fun b l2 h2=>by show l2.length < _;omega
  split
  ·rename_i hk
   have hp:=Zs hk
   exact (T.block d l.tail (by omega)).bind fun b l1 h1=>(Vm _ l1).bind fun _ l2 h2=>(Zcc l2).bind fun s l3 h3=>(T.block d l3 (by omega)).bind fun c l4 h4=>by show l4.length < _;omega
  ·exact (T.whole d l (by omega)).bind fun e l1 h1=>(Z2x (n:=l1.length) (fun l2 h2=>T.whole d l2 (by omega)) _ e l1 (Nat.le_refl _)).le (by omega)
theorem Zis (z:Nat):∀ f,Tt z f
 | 0=>Z0m
 | f+1=>Z3h (Zis z f)
theorem Zzg:∀ (f:Nat) (acc:List Tx) (l:List Tk),10*l.length+9<=f->modY f acc l≠.out
 | 0,acc,l,h=>by omega
 | f+1,acc,l,h=>by
  rw [modY]
  split
  ·exact fun h=>by cases h
  ·have h1:=(Zis 0 f).stmt 0 l (by omega)
   cases hs:X8 f 0 l with
   | ok a l1=>rw [hs] at h1;exact Zzg f _ l1 (by have:l1.length < l.length:=h1;omega)
   | err a e=>exact fun h=>by cases h
   | out=>rw [hs] at h1;exact absurd h1 (by show ¬ 0 < 0;omega)
theorem Tn.lt {z:Nat} {α:Type} {r:PR α} {n:Nat} (h:Tn z r n) {a:α} {l:List Tk} (hr:r = .ok a l):l.length < n:=by subst hr;exact h
theorem Zdv {f d:Nat} {l l' : List Tk} {e:Tx} (h:Zw f d l = .ok e l'):l'.length < l.length:=((Zis (10*l.length+7) f).whole d l (by omega)).lt h
theorem Zp0 {f d:Nat} {l l' : List Tk} {e:Tx} (h:X8 f d l = .ok e l'):l'.length < l.length:=((Zis (10*l.length+8) f).stmt d l (by omega)).lt h
theorem U8 {t:Bs} {l l' : List Tk} {a:Unit} (h:Yk t l = .ok a l'):l'.length < l.length:=(Vm (z:=0) t l).lt h
theorem Zjp {l l' : List Tk} {a:Bs} (h:Wo l = .ok a l'):l'.length < l.length:=(Zcc (z:=0) l).lt h
theorem Zmo:∀ (f d:Nat) (acc:List Tx) (l:List Tk) {a:List Tx} {l' : List Tk},Xp f d acc l = .ok a l'->a.length+l'.length<=acc.length+l.length
 | 0,d,acc,l,a,l',h=>by simp only [Xp] at h;cases h
 | f+1,d,acc,l,a,l',h=>by
  rw [Xp] at h
  split at h
  ·cases h;simp
  ·cases hc:Vk acc.isEmpty l with
   | err x y=>rw [hc] at h;cases h
   | out=>rw [hc] at h;cases h
   | ok u l1 =>
    rw [hc] at h
    have h1:=(Zga (z:=0) acc.isEmpty l).lt hc
    cases hw:Zw f d l1 with
    | err x y=>rw [Zo,hw] at h;cases h
    | out=>rw [Zo,hw] at h;cases h
    | ok e l2 =>
     rw [Zo,hw,Zo] at h
     have h2:=Zdv hw
     have h3:=Zmo f d (acc++[e]) l2 h
     rw [List.length_append] at h3
     simp only [List.length_singleton] at h3
     omega
def Zlk (l:List Tk):Nat:=10*l.length+9
end Go.AM
set_option maxRecDepth 100000
namespace Go.AM.YtlillgmgpmbfnaaGreatDoorT
open Go Go.AM Go.Proofs
abbrev Zeg (a:Nat) (e:Int):V:=.ifc 88 (.agg [.int .i64 a,.int .i64 e])
def Ends (l:List Tk):Prop:=(∃ a∈l,a.k=0)/\l.length<=100000
theorem Ends.tail {l:List Tk} (h:Ends l) (hk:(hdT l).k≠0):Ends l.tail:=by
 obtain ⟨⟨a,h1,h2⟩,h3⟩:=h
 cases l with
 | nil=>cases h1
 | cons b r =>
  rcases List.mem_cons.1 h1 with rfl | h1
  ·exact absurd h2 hk
  ·exact ⟨⟨a,h1,h2⟩,by simp at h3 ⊢;omega⟩
theorem Ends.cons {l:List Tk} (h:Ends l):∃ r,l=hdT l :: r:=by
 obtain ⟨⟨a,h1,h2⟩,_⟩:=h
 cases l with
 | nil=>cases h1
 | cons b r=>exact ⟨r,rfl⟩
def TkIn (H:Hp) (pr:Nat) (v:V) (l:List Tk):Prop :=
 ∃ b off e ro cells,v = .sl b off l.length none 4/\b < pr/\H.get b=some (.row e 4 ro cells)/\off % 4=0/\(cells.drop off).take (l.length*4)=tksV l/\off+l.length*4<=cells.length
def LvE (n:Nat) (es:List (V×V×Nat)):Prop:=∀ t,Wi (.str t) es 0=some none/\lvY n t=none\/∃ j op,Wi (.str t) es 0=some (some (j,.int .i64 (op:Nat)))/\lvY n t=some op
abbrev simL:List V:=[.str Zb5,.int .i64 5,.str Zdd,.int .i64 6]
structure LvG (N:Nat) (H:Hp):Prop where
 res:H.get 1=some (.row 118 1 true (resL.map .str))
 sim:H.get 2=some (.row 122 1 true simL)
 lev:∃ x y z X Y Z cx cy cz,H.get 6=some (.row 206 1 true [.mp x,.mp y,.mp z])/\x < N/\y < N/\z < N/\H.get x=some (.map true X cx)/\H.get y=some (.map true Y cy)/\H.get z=some (.map true Z cz)/\LvE 0 X/\LvE 1 Y/\LvE 2 Z
 n0:1 < N
 n1:2 < N
 n2:6 < N
theorem LvG.of_get {N:Nat} {H H' : Hp} (h:LvG N H) (hg:∀ b,b < N->H'.get b=H.get b):LvG N H':=by
 obtain ⟨h1,h2,⟨x,y,z,X,Y,Z,cx,cy,cz,g0,g1,g2,g3,g4,g5,g6,g7⟩,n0,n1,n2⟩:=h
 exact ⟨by rw [hg _ n0];exact h1,by rw [hg _ n1];exact h2,⟨x,y,z,X,Y,Z,cx,cy,cz,by rw [hg _ n2];exact g0,g1,g2,g3,by rw [hg _ g1];exact g4,by rw [hg _ g2];exact g5,by rw [hg _ g3];exact g6,g7⟩,n0,n1,n2⟩
structure PAt (H:Hp) (pr:Nat) (l:List Tk) (d:Nat):Prop where
 st:H.stale=[]
 row:∃ v,H.get pr=some (.row 92 2 false [v,.int .i64 d])/\TkIn H pr v l
 lt:pr < H.next
 ends:Ends l
 dp:d<=20
 gl:∃ N,N<=pr/\LvG N H
theorem TkIn.of_get {H H' : Hp} {pr:Nat} {v:V} {l:List Tk} (h:TkIn H pr v l) (hg:∀ b,b < pr->H'.get b=H.get b):TkIn H' pr v l:=by
 obtain ⟨b,off,e,ro,cells,h1,h2,h4,h5⟩:=h
 exact ⟨b,off,e,ro,cells,h1,h2,by rw [hg b h2];exact h4,h5⟩
theorem PAt.of_get {H H' : Hp} {pr:Nat} {l:List Tk} {d:Nat} (h:PAt H pr l d) (hs:H'.stale=[]) (hle:H.next<=H'.next) (hg:∀ b,b<=pr->H'.get b=H.get b):PAt H' pr l d:=by
 obtain ⟨h0,⟨v,h1,h2⟩,h3,h4,h5,N,h6,h7⟩:=h
 exact ⟨hs,⟨v,by rw [hg pr (Nat.le_refl _)];exact h1,h2.of_get fun b hb=>hg b (by omega)⟩,Nat.lt_of_lt_of_le h3 hle,h4,h5,N,h6,h7.of_get fun b hb=>hg b (by omega)⟩
theorem PAt.ext {X:Nat->Prop} {H H' : Hp} {pr:Nat} {l:List Tk} {d:Nat} (h:PAt H pr l d) (hE:Ext X H H') (hX:∀ b,b<=pr->¬ X b):PAt H' pr l d:=h.of_get hE.st hE.le fun b hb=>hE.get b (Nat.lt_of_le_of_lt hb h.lt) (hX b hb)
theorem PAt.set {H H' : Hp} {pr:Nat} {l l' : List Tk} {d d' : Nat} {v' : V} (h:PAt H pr l d) (hs:H'.stale=[]) (hle:H.next<=H'.next) (hr:H'.get pr=some (.row 92 2 false [v',.int .i64 d'])) (hv:TkIn H pr v' l') (he:Ends l') (hd:d'<=20) (hg:∀ b,b < pr->H'.get b=H.get b):PAt H' pr l' d':=by
 obtain ⟨h0,⟨v,h1,h2⟩,h3,h4,h5,N,h6,h7⟩:=h
 exact ⟨hs,⟨v',hr,hv.of_get hg⟩,Nat.lt_of_lt_of_le h3 hle,he,hd,N,h6,h7.of_get fun b hb=>hg b (by omega)⟩
theorem TkIn.head {H:Hp} {pr:Nat} {v:V} {l:List Tk} (h:TkIn H pr v l) (he:Ends l):∃ b off e ro cells,v = .sl b off l.length none 4/\b < pr/\H.get b=some (.row e 4 ro cells)/\off % 4=0/\off+4<=cells.length/\0 < l.length/\(cells.drop off).take 4=[.int .i64 (hdT l).k,.str (hdT l).t,.int .i64 (hdT l).x,.int .i64 (hdT l).at_] /\
  cells[off]? = some (.int .i64 (hdT l).k)/\cells[off+1]? = some (.str (hdT l).t)/\cells[off+2]? = some (.int .i64 (hdT l).x)/\cells[off+3]? = some (.int .i64 (hdT l).at_) /\
  ((hdT l).k≠0->TkIn H pr (.sl b (off+4) (l.length-1) none 4) l.tail/\1 < l.length):=by
 obtain ⟨b,off,e,ro,cells,h1,h2,h4,h5,h6,h7⟩:=h
 obtain ⟨r,hr⟩:=he.cons
 have hlen:l.length=r.length+1:=by rw [hr];rfl
 have h8:(cells.drop off).take 4=[.int .i64 (hdT l).k,.str (hdT l).t,.int .i64 (hdT l).x,.int .i64 (hdT l).at_]:=by
  have:=congrArg (List.take 4) h6
  rw [List.take_take,show min 4 (l.length*4)=4 by omega,hr] at this
  rw [this]
  simp [tksV,Tk.v,tokV,hdT]
 have at_:∀ i,i < 4->cells[off+i]? = ((cells.drop off).take 4)[i]?:=fun i hi=>by rw [List.getElem?_take,if_pos hi,List.getElem?_drop]
 refine ⟨b,off,e,ro,cells,h1,h2,h4,h5,by omega,by omega,h8,?_,?_,?_,?_,fun hk=>?_⟩
 ·have:=at_ 0 (by omega);rw [h8] at this;exact this
 ·have:=at_ 1 (by omega);rw [h8] at this;exact this
 ·have:=at_ 2 (by omega);rw [h8] at this;exact this
 ·have:=at_ 3 (by omega);rw [h8] at this;exact this
 ·have ht:l.tail=r:=by rw [hr];rfl
  have he':=he.tail hk
  rw [ht] at he'
  have hrp:0 < r.length:=List.length_pos_iff.2 fun e=>by subst e;obtain ⟨⟨_,h,_⟩,_⟩:=he';cases h
  rw [ht]
  refine ⟨⟨b,off+4,e,ro,cells,by rw [hlen];rfl,h2,h4,by omega,?_,by omega⟩,by omega⟩
  have:=congrArg (List.drop 4) h6
  rw [List.drop_take,List.drop_drop,show l.length*4-4=r.length*4 by omega,hr] at this
  rw [this]
  simp [tksV,Tk.v,tokV]
def PanP {α:Type} (pr:Nat) (r:PR α) (H:Hp) (v:V) (H' : Hp):Prop:=∃ a e,r = .err a e/\v=Zeg a e/\Ext (eqR pr) H H'
theorem PanP.up {α β:Type} {pr:Nat} {r:PR α} {g:α->List Tk->PR β} {R:PR β} {H H1:Hp} (hY:r.bind g=R) (hX:Ext (eqR pr) H H1):∀ v H',PanP pr r H1 v H'->PanP pr R H v H':=by
 rintro v H' ⟨a,e,rfl,rfl,h⟩
 exact ⟨a,e,hY.symm,rfl,hX.trans h⟩
theorem Yy {α β:Type} {r:PR α} {g:α->List Tk->PR β} {R:PR β} (hY:r.bind g=R) (hR:R≠.out):r≠.out:=fun e=>by subst e;exact hR hY.symm
def PS {α:Type} (pr d:Nat) (f:FuncId) (xs:List V) (H:Hp) (r:PR α) (val:Hp->α->V->Prop):Prop :=
 WR tab f xs H (fun v H'=>∃ a l',r = .ok a l'/\val H' a v/\PAt H' pr l' d/\Ext (eqR pr) H H') (PanP pr r H)
theorem WF.rr {f:FuncId} {xs:List V} {H:Hp} {Q Q' P:V->Hp->Prop} (h:WF tab f xs H Q) (hq:∀ v H',Q v H'->Q' v H'):WR tab f xs H Q' P:=.inl (h.mono hq)
theorem WFp.rr {f:FuncId} {xs:List V} {H:Hp} {P Q P' : V->Hp->Prop} (h:WFp tab f xs H P) (hp:∀ v H',P v H'->P' v H'):WR tab f xs H Q P':=.inr (h.mono hp)
def ExV (H0:Hp) (H:Hp) (e:Tx) (v:V):Prop:=∃ cs,v = .agg cs/\Ze (Z4 H0 H) H e cs
def Xr (f:Nat):Prop:=∀ (H:Hp) (pr d:Nat) (l:List Tk),PAt H pr l d->Zw f d l≠.out->PS pr d 77 [.ptr pr 0] H (Zw f d l) (ExV H)
def Zia (f:Nat):Prop:=∀ (H:Hp) (pr d n:Nat) (l:List Tk),n<=3->PAt H pr l d->Wp f n d l≠.out->PS pr d 119 [.ptr pr 0,.int .i64 n] H (Wp f n d l) (ExV H)
def Ze5 (f:Nat):Prop:=∀ (H:Hp) (pr d:Nat) (l:List Tk),PAt H pr l d->Xt f d l≠.out->PS pr d 157 [.ptr pr 0] H (Xt f d l) (ExV H)
def Zju (f:Nat):Prop:=∀ (H:Hp) (pr d:Nat) (l:List Tk) (R:PR Tx),PAt H pr l d->((oneY f d l).bind fun e l=>Wa f d e l)=R->R≠.out->PS pr d 179 [.ptr pr 0] H R (ExV H)
def POne (f:Nat):Prop:=∀ (H:Hp) (pr d:Nat) (l:List Tk),PAt H pr l d->oneY f d l≠.out->PS pr d 189 [.ptr pr 0] H (oneY f d l) (ExV H)
def Zlw (f:Nat):Prop:=∀ (H:Hp) (pr d:Nat) (l:List Tk),PAt H pr l d->Xp f d [] l≠.out->PS pr d 190 [.ptr pr 0,.str sRp] H (Xp f d [] l) fun H' a v=>Zl (Z4 H H') H' a v
def PRec (f:Nat):Prop:=∀ (H:Hp) (pr d:Nat) (l:List Tk),PAt H pr l d->recY f d [] l≠.out->PS pr d 199 [.ptr pr 0] H (recY f d [] l) (ExV H)
def Zqv (f:Nat):Prop:=∀ (H:Hp) (pr d:Nat) (l:List Tk) (R:PR Tx),PAt H pr l d->((Yk sLp l).bind fun _ l=>(Wm f [] l).bind fun ps l=>(Yp f d l).bind fun b l=>PR.ok (.ex 17 0 [] [] ps b) l)=R->R≠.out->PS pr d 200 [.ptr pr 0] H R (ExV H)
def Je (f:Nat):Prop:=∀ (H:Hp) (pr d:Nat) (l:List Tk),PAt H pr l d->Yp f d l≠.out->PS pr d 80 [.ptr pr 0] H (Yp f d l) fun H' a v=>Zl (Z4 H H') H' a v
def Zll (f:Nat):Prop:=∀ (H:Hp) (pr d:Nat) (l:List Tk),PAt H pr l d->X8 f d l≠.out->PS pr d 53 [.ptr pr 0] H (X8 f d l) (ExV H)
theorem Zfz {H:Hp} {pr d:Nat} {l:List Tk} (hP:PAt H pr l d) (e:Int):WFp tab 120 [.ptr pr 0,.int .i64 e] H fun v H'=>v=Zeg (hdT l).at_ e/\H' = H:=by
 have hst:=hP.st
 obtain ⟨v,h1,h2⟩:=hP.row
 obtain ⟨b,off,e',ro,cells,rfl,g1,g3,g4,g5,g6,g7,g8,g9,g10,g11,g12⟩:=h2.head hP.ends
 have key:WR tab 120 [.ptr pr 0,.int .i64 e] H (fun _ _=>False) fun v H'=>v=Zeg (hdT l).at_ e/\H' = H:=by
  refine Yge (Yj _ ?_)
  have hlt:(0:Int) < (l.length:Int):=by omega
  simp [hst,h1,g3,g8,g9,g10,g11,hlt,g6]
 rcases key with ⟨_,_,_,_,h⟩ | h
 ·exact h.elim
 ·exact h
theorem We {H:Hp} {pr d:Nat} {l:List Tk} (hP:PAt H pr l d) (t:Bs):WF tab 76 [.ptr pr 0,.str t] H fun v H'=>v = .bool (isK l t)/\PAt H' pr (if isK l t then l.tail else l) d/\Ext (eqR pr) H H':=by
 have hst:=hP.st
 obtain ⟨v,h1,h2⟩:=hP.row
 obtain ⟨b,off,e',ro,cells,rfl,g1,g3,g4,g5,g6,g7,g8,g9,g10,g11,g12⟩:=h2.head hP.ends
 have hlt:(0:Int) < (l.length:Int):=by omega
 have no:isK l t=false->isK l t=false/\PAt H pr (if isK l t then l.tail else l) d/\Ext (eqR pr) H H:=fun h=>by rw [h];exact ⟨rfl,hP,Ext.refl hst⟩
 have hk:isK l t=(((hdT l).k==4 || (hdT l).k==1)&&(hdT l).t==t):=rfl
 refine wf76 (Zu _ ?_)
 cases h41:((hdT l).k==4 || (hdT l).k==1) with
 | false =>
  have:=no (by rw [hk,h41];rfl)
  simp only [Bool.or_eq_false_iff,beq_eq_false_iff_ne] at h41
  have b4:((hdT l).k != 4)=true:=bne_iff_ne.2 h41.1
  have b1:((hdT l).k != 1)=true:=bne_iff_ne.2 h41.2
  simp [hst,h1,g3,g8,hlt,g6,b4,b1]
  exact this
 | true =>
  cases ht:((hdT l).t==t) with
  | false =>
   have:=no (by rw [hk,ht,h41];rfl)
   have ht' : ((hdT l).t != t)=true:=by rw [bne,ht];rfl
   rcases Bool.or_eq_true _ _ ▸ h41 with h | h
   ·have h':=eq_of_beq h
    simp [hst,h1,g3,g8,g9,hlt,g6,h',ht,ht']
    exact this
   ·have h':=eq_of_beq h
    simp [hst,h1,g3,g8,g9,hlt,g6,h',ht,ht']
    exact this
  | true =>
   have ht' : ((hdT l).t != t)=false:=by rw [bne,ht];rfl
   have hi:isK l t=true:=by rw [hk,ht,h41];rfl
   have hk0:=Zzy hi
   obtain ⟨g13,g14⟩:=g12 hk0
   have g14' : (1:Int) < (l.length:Int):=by omega
   have g15:¬ (l.length:Int) < 1:=by omega
   have fin:PAt (H.put pr (.row 92 2 false [.sl b (off+4) (l.length-1) none 4,.int .i64 d])) pr l.tail d/\Ext (eqR pr) H (H.put pr (.row 92 2 false [.sl b (off+4) (l.length-1) none 4,.int .i64 d])) :=
    ⟨hP.set hst (Nat.le_refl _) (Zd _ _ _) g13 (hP.ends.tail hk0) hP.dp fun c hc=>Zf _ (Nat.ne_of_lt hc),Ext.put hst _ rfl⟩
   rcases Bool.or_eq_true _ _ ▸ h41 with h | h
   ·have h':=eq_of_beq h
    simp [hst,h1,g3,g8,g9,hlt,g6,h',ht,ht',hi,Y1,Zb,g14,g14',g15,fin]
   ·have h':=eq_of_beq h
    simp [hst,h1,g3,g8,g9,hlt,g6,h',ht,ht',hi,Y1,Zb,g14,g14',g15,fin]
theorem Wf {H:Hp} {pr d:Nat} {l:List Tk} (hP:PAt H pr l d) (t:Bs):PS pr d 78 [.ptr pr 0,.str t] H (Yk t l) fun _ _ _=>True:=by
 have hst:=hP.st
 refine wr78 (Yj _ ?_)
 simp [hst]
 refine WF.rr (We hP t) ?_
 rintro v H2 ⟨rfl,hP2,hX2⟩
 have s2:=hX2.st
 cases hk:isK l t with
 | true =>
  rw [hk,if_pos rfl] at hP2
  simp [s2]
  exact ⟨(),l.tail,by simp [Yk,hk],hP2,hX2⟩
 | false =>
  rw [hk,if_neg (by decide)] at hP2
  simp [s2]
  refine WFp.rr (Zfz hP2 1) ?_
  rintro v H3 ⟨rfl,rfl⟩
  exact ⟨_,_,by simp [Yk,hk],rfl,hX2⟩
theorem Zjq {H:Hp} {pr d:Nat} {l:List Tk} (hP:PAt H pr l d):WR tab 118 [.ptr pr 0] H (fun _ H'=>d < 20/\PAt H' pr l (d+1)/\Ext (eqR pr) H H') fun v H'=>d=20/\v=Zeg (hdT l).at_ 3/\Ext (eqR pr) H H':=by
 have hst:=hP.st
 have hd:=hP.dp
 obtain ⟨v,h1,h2⟩:=hP.row
 refine Yhu (Yj _ ?_)
 by_cases h20:d=20
 ·have e:(((d:Nat):Int)==20)=true:=by rw [h20];rfl
  simp [hst,h1,e]
  refine WFp.rr (Zfz hP 3) ?_
  rintro v H3 ⟨rfl,rfl⟩
  exact ⟨h20,rfl,Ext.refl hst⟩
 ·have e:(((d:Nat):Int)==20)=false:=beq_false_of_ne (by omega)
  have hw:=Uk (show d < 1000000000 by omega)
  obtain ⟨b,off,e',ro,cells,rfl,_⟩:=h2.head hP.ends
  simp [hst,h1,e,hw]
  exact ⟨by omega,hP.set (d':=d+1) hst (Nat.le_refl _) (Zd _ _ _) h2 hP.ends (by omega) fun c hc=>Zf _ (Nat.ne_of_lt hc),Ext.put hst _ rfl⟩
def Ires (w:Bs) (H:Hp) (m:Nat) (F:Fr) (H' : Hp):Prop :=
 ∃ i:Nat,i+m=12/\H' = H/\F.get 0=some (.str w)/\F.get 5=some (.agg (resL.map .str))/\F.get 6=some (.int .i64 i)/\decide (w∈resL)=decide (w∈resL.drop i)
theorem Zmi {N:Nat} {H:Hp} (hs:H.stale=[]) (hG:LvG N H) (w:Bs):WF tab 50 [.str w] H fun v H'=>v = .bool (decide (w∈resL))/\H' = H:=by
 have hg:=hG.res
 refine wf50 (Zu _ ?_)
 have hlen:(resL.map V.str).length=12:=rfl
 have htk:(resL.map V.str).take 12=resL.map V.str:=rfl
 generalize hR:resL.map V.str=R at *
 simp [hs,hg,hlen,htk]
 refine Xq (Ires w H) (m:=12) ⟨0,by omega,rfl,by simp,by simp [hR],by simp,by simp⟩ ?_
 rintro m F H' ⟨i,hi,rfl,f0,f5,f6,hr⟩
 rw [hR] at f5
 by_cases hlt:i < 12
 ·have hlt' : (i:Int) < 12:=by omega
  have hw:=Uk (show i < 1000000000 by omega)
  have hl:i < resL.length:=hlt
  have hd:resL.drop i=resL[i] :: resL.drop (i+1):=List.drop_eq_getElem_cons hl
  have hat:R[i]? = some (.str resL[i]):=by rw [<- hR,List.getElem?_map,List.getElem?_eq_getElem hl];rfl
  rw [hd] at hr
  by_cases hc:w=resL[i]
  ·have hr' : decide (w∈resL)=true:=by rw [hr,decide_eq_true_iff,hc];exact List.mem_cons_self
   have hc' : (resL[i]==w)=true:=by rw [<- hc];simp
   simp [Zlu,f0,f5,f6,hlt,hlt',hs,hat,hc',of_decide_eq_true hr']
  ·have hr' : decide (w∈resL)=decide (w∈resL.drop (i+1)):=by rw [hr];exact decide_eq_decide.2 (by rw [List.mem_cons];exact ⟨fun h=>h.resolve_left hc,.inr⟩)
   have hc' : (resL[i]==w)=false:=beq_false_of_ne (fun e=>hc e.symm)
   simp [Zlu,f0,f5,f6,hlt,hlt',hs,hat,hc',hw]
   exact ⟨m-1,by omega,i+1,by omega,rfl,by simp [f0],by simp [f5,hR],by simp,hr'⟩
 ·have hlt' : ¬ (i:Int) < 12:=by omega
  have hn:resL.drop i=[]:=List.drop_eq_nil_of_le (show resL.length<=i by show 12<=i;omega)
  rw [hn] at hr
  have hr' : decide (w∈resL)=false:=by rw [hr];simp
  simp [Zlu,f0,f5,f6,hlt,hlt',hs]
  exact of_decide_eq_false hr'
abbrev tkZ:Ob:=.row 95 4 false [.int .i64 0,.str [],.int .i64 0,.int .i64 0]
abbrev tkO (a:Tk):Ob:=.row 95 4 false [.int .i64 a.k,.str a.t,.int .i64 a.x,.int .i64 a.at_]
abbrev midH (H:Hp) (a:Tk):Hp:=(H.new tkZ).put H.next (tkO a)
theorem midE {H:Hp} {pr:Nat} (hst:H.stale=[]) (a:Tk):Ext (eqR pr) H (midH H a):=(Ext.new hst _).putX _ (.inr (Nat.le_refl _))
theorem Zab {H:Hp} {pr d:Nat} {l:List Tk} (hP:PAt H pr l d):PS pr d 79 [.ptr pr 0] H (Wo l) fun _ s v=>v = .str s:=by
 have hst:=hP.st
 obtain ⟨v,h1,h2⟩:=hP.row
 obtain ⟨b,off,e',ro,cells,rfl,g1,g3,g4,g5,g6,g7,g8,g9,g10,g11,g12⟩:=h2.head hP.ends
 have hlt:(0:Int) < (l.length:Int):=by omega
 have hpr:=hP.lt
 obtain ⟨N,hN,hG⟩:=hP.gl
 refine wr79 (Yj _ ?_)
 have o1:=Zr hpr
 have o2:=Zr (Nat.lt_trans g1 hpr)
 have o3:=Zj (Nat.ne_of_lt g1)
 have hE:=midE (pr:=pr) hst (hdT l)
 have hP1:PAt (midH H (hdT l)) pr l d:=hP.of_get hE.st hE.le fun c hc=>by simp [Hp.get_put,Hp.get_new,Zr (show c < H.next by omega)]
 have hG1:LvG N (midH H (hdT l)):=hG.of_get fun c hc=>by simp [Hp.get_put,Hp.get_new,Zr (show c < H.next by omega)]
 have err:¬ ((hdT l).k=1/\(hdT l).t∉resL)->WR tab 120 [.ptr pr 0,.int .i64 1] (midH H (hdT l)) (fun _ _=>False) (PanP pr (Wo l) H):=fun h=>WFp.rr (Zfz hP1 1) fun v H3 h'=>⟨_,_,by rw [Wo,if_neg h],h'.1,by rw [h'.2];exact hE⟩
 by_cases hk:(hdT l).k=1
 ·have b1:((hdT l).k != 1)=false:=by rw [hk];rfl
  have hto:tkO (hdT l) = .row 95 4 false [.int .i64 1,.str (hdT l).t,.int .i64 (hdT l).x,.int .i64 (hdT l).at_]:=by rw [tkO,hk]
  rw [midH,hto] at hP1 hG1 hE err
  simp [hst,h1,g3,g5,g7,hlt,g6,b1,hk,o1,o2,o3]
  refine WF.rr (Zmi hE.st hG1 _) ?_
  rintro v H2 ⟨rfl,rfl⟩
  by_cases hm:(hdT l).t∈resL
  ·simp [hst,hm]
   exact (err (fun h=>h.2 hm)).mono (fun _ _ h=>h.elim) fun _ _ h=>h
  ·have hk0:(hdT l).k≠0:=by rw [hk];decide
   obtain ⟨g13,g14⟩:=g12 hk0
   have g14' : (1:Int) < (l.length:Int):=by omega
   have g15:¬ (l.length:Int) < 1:=by omega
   simp [hst,hm,h1,Hp.get_put,Hp.get_new,o1,o2,o3,Y1,Zb,g14,g14',g15]
   refine ⟨_,_,by rw [Wo,if_pos ⟨hk,hm⟩],rfl,?_,hE.putX _ (.inl rfl)⟩
   exact hP1.set hE.st (Nat.le_refl _) (Zd _ _ _) (g13.of_get fun c hc=>by simp [Hp.get_put,Hp.get_new,Zr (show c < H.next by omega)]) (hP.ends.tail hk0) hP.dp fun c hc=>Zf _ (Nat.ne_of_lt hc)
 ·have b1:((hdT l).k != 1)=true:=bne_iff_ne.2 hk
  simp [hst,h1,g3,g5,g7,hlt,g6,b1,o1,o2,o3]
  exact (err (fun h=>hk h.1)).mono (fun _ _ h=>h.elim) fun _ _ h=>h
end Go.AM.YtlillgmgpmbfnaaGreatDoorT
