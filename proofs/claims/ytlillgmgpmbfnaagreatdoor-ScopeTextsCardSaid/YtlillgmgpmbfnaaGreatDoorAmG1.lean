/- Parts of the abstract machine and of the walks over it, joined: what the law that is claimed here leans on. -/
import Derived.Test.YtlillgmgpmbfnaaGreatDoorAmX
import Derived.Test.YtlillgmgpmbfnaaGreatDoorAmC3
import Derived.Recover
import Derived.Tactics
import Derived.Shelf.Abstract
import Derived.Test.YtlillgmgpmbfnaaGreatDoorAmC4
import Derived.Lib.Bytealg
set_option linter.unusedVariables false
set_option linter.unusedSimpArgs false
set_option linter.unnecessarySimpa false
namespace Go.AM.YtlillgmgpmbfnaaGreatDoorT
open Go Go.AM Go.Proofs
set_option maxRecDepth 100000
abbrev R26_0:List SOp:=[(some 2,.alloc 24,none),
 (some 3,.alloc 3,none),
 (some 4,.alloc 47,none)]
abbrev R26_1:List SOp:=[(some 8,.move (.tmp 0),none),
 (some 9,.call ⟨.value (.func 51),#[(.tmp 8)],#[9]⟩,none),
 (some 7,.move (.tmp 9),none),
 (some 10,.extract (.tmp 7) 0,none),
 (some 11,.extract (.tmp 7) 1,none),
 (some 12,.extract (.tmp 7) 2,none),
 (some 5,.assign (.tmp 10),none),
 (none,.store 3 (.tmp 3) (.tmp 11),none),
 (none,.store 47 (.tmp 4) (.tmp 12),none)]
abbrev Zpp:List SOp:=[(some 13,.load 47 (.tmp 4),none),
 (some 14,.binOp .neq 47 (.tmp 13) (.const (.int .i64 0)) 47,none)]
abbrev Zpc:List (SOp×Nat):=[((none,.store 24 (.tmp 2) (.const (.slice none 0 0)),none),0),
 ((some 15,.load 3 (.tmp 3),none),1),
 ((none,.store 3 (.tmp 3) (.tmp 15),none),0),
 ((some 16,.load 47 (.tmp 4),none),2),
 ((none,.store 47 (.tmp 4) (.tmp 16),none),0)]
abbrev R26_4:List SOp:=[(some 17,.makeFunc (.func 52) #[] #[(.tmp 2),(.tmp 3),(.tmp 4)],none),
 (none,.defer ⟨.value (.tmp 17),#[],#[]⟩,none)]
abbrev Zxm:List SOp:=[(some 18,.move (.tmp 5),none),
 (some 19,.build 92 #[(0,(.tmp 18))],none),
 (some 20,.box 92 (.tmp 19),none),
 (some 6,.assign (.tmp 20),none)]
abbrev Z77:List SOp:=[(some 21,.move (.tmp 6),none),
 (some 22,.nilCheck (.tmp 21),none),
 (some 23,.fieldAddr 92 (.tmp 22) 0,none),
 (some 24,.load 84 (.tmp 23),none),
 (some 25,.indexAddr 84 (.tmp 24) (.const (.int .i64 0)),none),
 (some 26,.fieldAddr 95 (.tmp 25) 0,none),
 (some 27,.load 93 (.tmp 26),none),
 (some 28,.binOp .neq 93 (.tmp 27) (.const (.int .i64 0)) 93,none)]
abbrev Z7i:List (SOp×Nat):=[((some 30,.move (.tmp 6),none),0),
 ((some 31,.call ⟨.value (.func 53),#[(.tmp 30)],#[90]⟩,none),0),
 ((some 29,.load 24 (.tmp 2),none),1),
 ((some 32,.call ⟨.builtin .len,#[(.tmp 29)],#[24]⟩,none),1),
 ((some 33,.buildSlice 24 1 #[(0,(.const (.agg #[.int .i64 0,.string ⟨#[]⟩,.slice none 0 0,.slice none 0 0,.slice none 0 0,.int .i64 0])))],none),1),
 ((some 34,.call ⟨.builtin .append,#[(.tmp 29),(.tmp 33)],#[24,24]⟩,none),0),
 ((some 35,.indexAddr 24 (.tmp 34) (.tmp 32),none),9),
 ((none,.store 30 (.tmp 35) (.tmp 31),none),0),
 ((none,.store 24 (.tmp 2) (.tmp 34),none),0)]
def Zif:SCode:=.seq (.seq (.reg Z77) (.cond (.tmp 28) (.skip) (.exit 0))) (.block 1 (.areg Z7i 2 35))
abbrev Zyl:List SOp:=[(some 36,.load 24 (.tmp 2),none),
 (none,.store 24 (.tmp 2) (.tmp 36),none),
 (none,.store 3 (.tmp 3) (.const (.int .i64 0)),none),
 (none,.store 47 (.tmp 4) (.const (.int .i64 0)),none)]
abbrev Zx3:List SOp:=[(some 7,.move (.tmp 3),none),
 (some 8,.binOp .neq 20 (.tmp 7) (.const (.nilIface)) 20,none)]
abbrev Zyz:List SOp:=[(some 10,.move (.tmp 3),none),
 (some 11,.typeAssert (.tmp 10) 20 88 true,none),
 (some 9,.move (.tmp 11),none),
 (some 12,.extract (.tmp 9) 0,none),
 (some 13,.extract (.tmp 9) 1,none),
 (some 4,.alloc 88,none),
 (none,.store 88 (.tmp 4) (.tmp 12),none),
 (some 5,.assign (.tmp 13),none)]
abbrev Zx8:List SOp:=[(some 14,.move (.tmp 5),none),
 (some 15,.unOp .not 4 (.tmp 14),none)]
abbrev Zy1:List SOp:=[(some 16,.move (.tmp 3),none),
 (none,.panic (.tmp 16),none)]
abbrev Zxs:List (SOp×Nat):=[((none,.store 24 (.tmp 0) (.const (.slice none 0 0)),none),0),
 ((some 17,.fieldAddr 88 (.tmp 4) 0,none),1),
 ((some 18,.load 3 (.tmp 17),none),1),
 ((none,.store 3 (.tmp 1) (.tmp 18),none),0),
 ((some 19,.fieldAddr 88 (.tmp 4) 1,none),2),
 ((some 20,.load 47 (.tmp 19),none),2),
 ((none,.store 47 (.tmp 2) (.tmp 20),none),0)]
end Go.AM.YtlillgmgpmbfnaaGreatDoorT
namespace Go.AM.YtlillgmgpmbfnaaGreatDoorT
open Go Go.AM
attribute [simp] wp_skip Zsp Zom Zo2 Zyu wp_seq Zov wp_block wp_loop wp_exit wp_ret Zol Zgl Zor Zgk Zs5 Zo6 Zt0 Zyr Zqh Zu0 Ze7 Zoe Zk8 Ztk Zon Zs1 Ztc Zrf rsQ Zpi Zpu kV kAW kA kW kC kCo Zhr oq_p oq_r oq_w oq_c Zk1 Zuu Zyq Zym Zyp Zya dV dAW dA dW dC dCo Uz skD od_p od_r od_w od_c Zlw Zsh Zy0 Zxe Zyj Zx7 Zcp Z6 kind Zcv Zo1 Zjn Znd Zlz evP evR evA evW evAW Zb frame opd opds Tr.get_set putD delD Wp Wo kbOk Yx isPt Y1 Zgw Zat Zcr Jk Jp Zk4 Zkx Zlg Zm1 Zeh Zex Zdz Zdy Zfv Zfz Zft Zf0 Zf2 Zf3 Zfu Zf1 Vx Wh Zaj Ze6 Zdo isC Zj3 Zg2 Zl4 Zjw Zcy Zj0 Zcz Zgy Zll Zjb Zow Zdm Zgm Zej Zi5 Zdi Zh1 Zg4 Zl2 Zm8 Zrm Zhl Zk5 Zlx Zsf Zg6 Znf Zi7 Zok isAgg Zd4 optI Vw Zfd Vt Xr Uv Xx eqS V6 Xw Vv esOf Vl Ut Uq Yb W0 Hp.get_flush Hp.stale_flush Hp.next_flush repl List.nil_append Z5 Zd Zm4 Zj2 Zmg Zcj Zog Hp.next_new Hp.next_put Zne IntKind.bits Zd8 nna1 nnb1 nna2 nnb2 nna3 nnb3 nna4 nnb4 nna5 nnb5 nna6 nnb6 nna7 nnb7 nna8 nnb8
attribute [simp] ty1 ty2 ty3 ty4 ty5 ty6 ty7 ty8 ty9 ty10 ty11 ty12 ty13 ty14 ty15 ty16 ty17 ty18 ty19 ty20 ty21 ty22 ty23 ty24 ty25 ty26 ty27 ty28 ty29 ty30 ty31 ty32 ty33 ty34 ty35 ty36 ty37 ty38 ty39 ty40 ty41 ty42 ty43 ty44 ty45 ty46 ty47 ty49 ty50 ty51 ty52 ty53 ty54 ty55 ty56 ty57 ty58 ty59 ty60 ty61 ty62 ty63 ty64 ty65 ty66 ty67 ty68 ty69 ty70 ty71 ty72 ty73 ty75 ty76 ty77 ty78 ty79 ty80 ty81 ty82 ty84 ty88 ty90 ty91 ty92 ty93 ty94 ty95 ty96 ty97 ty98 ty99 Yf6 Yab Yd2 Z7o Ye6 Z92 Yce Ydu Ye0 Ybu Z7t Ygt Z71 Z84 Z8k Ybt Ygu Ya7 Ycz Yco Yeq Z75 Yes Ygv Z8y Ygf Z8a Ye3 Z7h Yaf Yfv Yf5 Yas Z9v Ycn Yep Yby Z9l Ybw Ygs Ybj Z9p Yci Yej Yam Z8u Z96 Ya4 Yft Z9x Ycr Yb5 Yfh Ycp Yfi Z8r Yb1 Yb7 Ya9 Z7n Ybc Z97 Yf3 Z7f Ybm Yax Z8h Yd6 Z8v Ye1 Ydx Yec Z9q Ya0 Ycm Z8i Z8x Ybq Z8j Ya5 Ygd Yat Yae Z8m
attribute [simp] Zv4 Zzv Zwe Zvc Jx Zv2 Za2 Zwq Zvy Zzo Zw5 Zjp Zwg Zj9 Z0j Zv3 Z1u Zwn Zru Zq1 Zux kVP kAWP kAP kWP kCP kCoP Zhf Ycv Ycs Z7s Ybx Ztl Z1i Z21 Z3g Z25 Z44 Z58 panQ dVP dAWP dAP dWP dCP dCoP skDP Yc7 Z74 Ydi Ybe Zq2 Z15 Z4s Z3v Z6w Z3h Zc0 Jm Z1b Zvl Zpy Zp7 opR rV rA Zba grdS addD Op.operands Call.operands Hp.get_upto Hp.next_upto Hp.stale_upto
end Go.AM.YtlillgmgpmbfnaaGreatDoorT
set_option maxRecDepth 100000
namespace Go.AM.YtlillgmgpmbfnaaGreatDoorT
open Go Go.AM Go.Proofs Go.Shelf
def cL:Code->Code | .seq a _=>a | c=>c
def cR:Code->Code | .seq _ b=>b | c=>c
noncomputable def bP:Code:=Tryz.f26.body.getD .skip
noncomputable def p0:Code:=cL bP
noncomputable def p1:Code:=cL (cR bP)
noncomputable def p2:Code:=cL (cR (cR bP))
noncomputable def p3:Code:=cL (cR (cR (cR bP)))
noncomputable def p4:Code:=cR (cR (cR (cR bP)))
theorem bodyP:Tryz.f26.body=some (.seq p0 (.seq p1 (.seq p2 (.seq p3 p4)))):=by kernel_rfl
noncomputable def bC:Code:=Tryz.f52.body.getD .skip
noncomputable def q0:Code:=cL bC
noncomputable def q1:Code:=cR bC
theorem Yd5:Tryz.f52.body=some (.seq q0 q1):=by kernel_rfl
noncomputable abbrev rsP:List ResultVar:=Tryz.f26.results.toList
noncomputable def V9 (F:Fr) (H:Hp):Option (V×Hp):=match Wp tab rsP F H.get with | some v=>some (v,H) | none=>none
noncomputable def par4 (k:Nat) (F:Fr) (H:Hp):Option (V×Hp) :=
 match F.get 2,F.get 3,F.get 4 with
 | some a,some b,some c =>
  match Zc tab (Zo tab k) 26 k p4 (F.set 17 (.fn (.func 52) [] [a,b,c])) H with
  | some (.ret,F3,H3)=>V9 F3 H3
  | some _=>none
  | none=>match Zg tab (Zo tab k) (Xl tab k) 26 k p4 (F.set 17 (.fn (.func 52) [] [a,b,c])) H with
   | some (pv,H3)=>match Zc tab (Zo tab k) 52 k q1 ((frame [a,b,c] 0 .nil).set 3 pv) H3 with
    | some (.nrm,_,H4)=>V9 (((Tr.nil.set 2 a).set 3 b).set 4 c) H4
    | _=>none
   | none=>none
 | _,_,_=>none
noncomputable def parK (k:Nat) (vs:List V) (H:Hp):Option (V×Hp) :=
 match Zc tab (Zo tab k) 26 k p0 (frame vs 0 .nil) H with
 | some (.nrm,F0,H0)=>match Zc tab (Zo tab k) 26 k p1 F0 H0 with
  | some (.nrm,F1,H1)=>match Zc tab (Zo tab k) 26 k p2 F1 H1 with
   | some (.ret,F2,H2)=>V9 F2 H2
   | some (.nrm,F2,H2)=>par4 k F2 H2
   | _=>none
  | _=>none
 | _=>none
theorem Z18 {k k' : Nat} (h:k<=k') {F:Fr} {H:Hp} {r:V×Hp} (hr:par4 k F H=some r):par4 k' F H=some r:=by
 have hc:=Zj tab k k' h
 have hp:=Vp tab k k' h
 unfold par4 at hr ⊢
 split at hr
 ·rename_i a b c e2 e3 e4
  cases h1:Zc tab (Zo tab k) 26 k p4 (F.set 17 (.fn (.func 52) [] [a,b,c])) H with
  | some x =>
   rw [h1] at hr
   rw [Zx hc h _ h1]
   obtain ⟨o,F3,H3⟩:=x
   cases o<;>exact hr
  | none =>
   rw [h1] at hr
   dsimp only at hr
   cases h2:Zg tab (Zo tab k) (Xl tab k) 26 k p4 (F.set 17 (.fn (.func 52) [] [a,b,c])) H with
   | none=>rw [h2] at hr;cases hr
   | some x =>
    rw [h2] at hr
    have h3:=Xc hc hp h _ h2
    rw [Yq _ h3,h3]
    dsimp only at hr ⊢
    cases h5:Zc tab (Zo tab k) 52 k q1 ((frame [a,b,c] 0 .nil).set 3 x.1) x.2 with
    | none=>rw [h5] at hr;cases hr
    | some y=>rw [h5] at hr;rw [Zx hc h _ h5];exact hr
 ·cases hr
theorem Zoo {k k' : Nat} (h:k<=k') {vs:List V} {H:Hp} {r:V×Hp} (hr:parK k vs H=some r):parK k' vs H=some r:=by
 have hc:=Zj tab k k' h
 unfold parK at hr ⊢
 cases h0:Zc tab (Zo tab k) 26 k p0 (frame vs 0 .nil) H with
 | none=>rw [h0] at hr;cases hr
 | some x0 =>
  rw [h0] at hr
  rw [Zx hc h _ h0]
  obtain ⟨o0,F0,H0⟩:=x0
  cases o0 with
  | nrm =>
   dsimp only at hr ⊢
   cases h1:Zc tab (Zo tab k) 26 k p1 F0 H0 with
   | none=>rw [h1] at hr;cases hr
   | some x1 =>
    rw [h1] at hr
    rw [Zx hc h _ h1]
    obtain ⟨o1,F1,H1⟩:=x1
    cases o1 with
    | nrm =>
     dsimp only at hr ⊢
     cases h2:Zc tab (Zo tab k) 26 k p2 F1 H1 with
     | none=>rw [h2] at hr;cases hr
     | some x2 =>
      rw [h2] at hr
      rw [Zx hc h _ h2]
      obtain ⟨o2,F2,H2⟩:=x2
      cases o2 with
      | nrm=>exact Z18 h hr
      | ret=>exact hr
      | exit i=>cases hr
    | ret=>cases hr
    | exit i=>cases hr
  | ret=>cases hr
  | exit i=>cases hr
open Classical in
noncomputable def parE (vs:List V) (H:Hp):Option (V×Hp):=if h:∃ k r,parK k vs H=some r then some h.choose_spec.choose else none
theorem Ze5 {k:Nat} {vs:List V} {H:Hp} {r:V×Hp} (h:parK k vs H=some r):parE vs H=some r:=by
 have hx:∃ k r,parK k vs H=some r:=⟨k,r,h⟩
 unfold parE
 rw [dif_pos hx]
 have h2:=hx.choose_spec.choose_spec
 have e1:=Zoo (Nat.le_max_left k hx.choose) h
 have e2:=Zoo (Nat.le_max_right k hx.choose) h2
 rw [e1] at e2
 exact e2.symm
theorem Znz {vs:List V} {H:Hp} {r:V×Hp} (h:parE vs H=some r):∃ k,parK k vs H=some r:=by
 unfold parE at h
 split at h
 ·rename_i hx
  cases h
  exact ⟨_,hx.choose_spec.choose_spec⟩
 ·cases h
theorem Zed {k:Nat} {F:Fr} {H:Hp} {v:V} {H' : Hp} (h:par4 k F H=some (v,H')) (hG:Good H):Grow H H':=by
 have hcg:=Xp (T:=tab) Ur k
 have hpg:=Za8 (T:=tab) Ur k
 unfold par4 V9 at h
 split at h
 ·split at h
  ·rename_i F3 H3 h1
   split at h
   ·cases h;exact Zr hcg _ hG h1
   ·cases h
  ·cases h
  ·split at h
   ·rename_i pv H3 h2
    have g2:=Yv hcg hpg _ hG h2
    split at h
    ·rename_i h5
     split at h
     ·cases h;exact g2.trans (Zr hcg _ g2.good h5)
     ·cases h
    ·cases h
   ·cases h
 ·cases h
theorem Zjy {vs:List V} {H:Hp} {v:V} {H' : Hp} (h:parE vs H=some (v,H')) (hG:Good H):Grow H H':=by
 obtain ⟨k,h⟩:=Znz h
 have hcg:=Xp (T:=tab) Ur k
 unfold parK at h
 split at h
 ·rename_i F0 H0 h0
  have g0:=Zr hcg _ hG h0
  split at h
  ·rename_i F1 H1 h1
   have g1:=Zr hcg _ g0.good h1
   split at h
   ·rename_i F2 H2 h2
    have g2:=Zr hcg _ g1.good h2
    unfold V9 at h
    split at h
    ·cases h;exact (g0.trans g1).trans g2
    ·cases h
   ·rename_i F2 H2 h2
    have g2:=Zr hcg _ g1.good h2
    exact ((g0.trans g1).trans g2).trans (Zed h g2.good)
   ·cases h
  ·cases h
 ·cases h
theorem cdk {f:FuncId} {fn:Func} (hf:tab.fn f=some fn) {c:Code} (hb:fn.body=some c) (b:List Deferred):cdOk tab an f (⟨fn.ntmps,b⟩:NT) c=true:=by
 have:=okP.code f fn hf
 simp only [fnOk,hb,Bool.and_eq_true] at this
 exact this.1
theorem fnP:tab.fn 26=some Tryz.f26:=fn26
theorem fnC:tab.fn 52=some Tryz.f52:=fn52
theorem Zyg (b:List Deferred):cdOk tab an 26 (⟨Tryz.f26.ntmps,b⟩:NT) (.seq p0 (.seq p1 (.seq p2 (.seq p3 p4))))=true:=cdk fnP bodyP b
theorem Z7j (b:List Deferred):cdOk tab an 52 (⟨Tryz.f52.ntmps,b⟩:NT) (.seq q0 q1)=true:=cdk fnC Yd5 b
section
variable {n0:Nat} {w0:World}
theorem Z52 (hI:tab.init n0 w0) (hn:n0<=w0.heap.size) {k:Nat} {D:Nat->Prop} {s:Sg} {H H' : Hp} {w:World} {a b c pv:V} {x2 x3 x4 x:Value} {F' : Fr} (hg:GlOk tab.ng D s) (hS:Sat n0 w0 D s H w) (hG:Good H) (h2:Rv D s a x2) (h3:Rv D s b x3) (h4:Rv D s c x4) (hx:Rv D s pv x)
  (h:Zc tab (Zo tab k) 52 k q1 ((frame [a,b,c] 0 .nil).set 3 pv) H=some (.nrm,F',H')) (hf:Zz D H H') :
  CallsD Tryz.prog 52 #[x2,x3,x4] (.panicking [{ v:=x,recovered:=false }]) w fun e u w'=>(∃ v,e = .returned v)/\u = .panicking [{ v:=x,recovered:=true }]/\∃ s',Step n0 w0 D s H w s' H' w':=by
 have hM:=okP.mach
 have hcd:=Z7j []
 simp only [cdOk,Bool.and_eq_true] at hcd
 have key:∀ (tm:Array Value),tm.size=Tryz.f52.ntmps->tm[0]? = some x2->tm[1]? = some x3->tm[2]? = some x4->tm[3]? = some x->q1.wp Tryz.prog (fun e a' w'=>e = .normal/\a'.defers=[]/\∃ s',Step n0 w0 D s H w s' H' w') { tmps:=tm,defers:=[] } w:=fun tm hsz t0 t1 t2 t3=>by
  have hP:Pre tab n0 w0 ⟨Tryz.f52.ntmps,[]⟩ D s ((frame [a,b,c] 0 .nil).set 3 pv) H { tmps:=tm,defers:=[] } w:=by
   refine ⟨hg,fun t v hv=>?_,hS,hG,by show Tryz.f52.ntmps<=tm.size;omega,[],rfl,fun d hd=>by cases hd⟩
   simp only [frame,Tr.get_set] at hv
   split at hv
   ·rename_i e;subst e;cases hv;exact ⟨x,t3,hx⟩
   ·split at hv
    ·rename_i e;subst e;cases hv;exact ⟨x4,t2,h4⟩
    ·split at hv
     ·rename_i e;subst e;cases hv;exact ⟨x3,t1,h3⟩
     ·split at hv
      ·rename_i e;subst e;cases hv;exact ⟨x2,t0,h2⟩
      ·simp [Tr.get] at hv
  refine wp_mono (Yd hM hn (okP.calls hI hn k) (Xp Ur k) q1 (Yi hM hn _ hcd.2) h hP hf) fun e a' w' he=>?_
  obtain ⟨rfl,s',hs,_,_,hd⟩:=he
  exact ⟨rfl,hd.none (fun _=>rfl),s',hs⟩
 refine callsD_of_wpS Tryz.func52 rfl fun c₀ cs hu=>?_
 have hsz:(#[x2,x3,x4]++Array.replicate (Tryz.f52.ntmps - #[x2,x3,x4].size) undef).size=Tryz.f52.ntmps:=by simp [Tryz.ntmps52]
 have ht0:(#[x2,x3,x4]++Array.replicate (Tryz.f52.ntmps - #[x2,x3,x4].size) undef)[0]? = some x2:=by simp [Array.getElem?_append]
 have ht1:(#[x2,x3,x4]++Array.replicate (Tryz.f52.ntmps - #[x2,x3,x4].size) undef)[1]? = some x3:=by simp [Array.getElem?_append]
 have ht2:(#[x2,x3,x4]++Array.replicate (Tryz.f52.ntmps - #[x2,x3,x4].size) undef)[2]? = some x4:=by simp [Array.getElem?_append]
 generalize #[x2,x3,x4]++Array.replicate (Tryz.f52.ntmps - #[x2,x3,x4].size) undef=tm at hsz ht0 ht1 ht2
 have hsz':=hsz
 rw [Tryz.ntmps52] at hsz'
 have h3' : 3 < tm.size:=by omega
 have h6' : 6 < tm.size:=by omega
 apply wpS_seq
 apply wpS_region
 simp [wpOpsS,go_sem,recoverD,hu,Exit.thenS,Act.put,Act.eval,Array.getElem?_setIfInBounds_self,h6']
 refine wpS_of_wp (wp_mono (key _ (by simp [hsz]) (by simp [ht0]) (by simp [ht1]) (by simp [ht2]) (by simp [h3'])) ?_)
 rintro e a' w' ⟨rfl,hd,hs⟩
 refine ⟨hd,.panicking [{ v:=x,recovered:=true }],?_,?_⟩
 ·rfl
 ·exact ⟨.tuple #[],by simp [results,Tryz.results52],⟨_,rfl⟩,rfl,hs⟩
theorem Zza (hI:tab.init n0 w0) (hn:n0<=w0.heap.size) {k:Nat} {D:Nat->Prop} {s:Sg} {F:Fr} {H H' : Hp} {w:World} {a:Act} {v:V} (hP:Pre tab n0 w0 ⟨Tryz.f26.ntmps,[]⟩ D s F H a w) (h:par4 k F H=some (v,H')) (hf:Zz D H H') {R:Ending->World->Prop}
  (hR:∀ x s' w',Step n0 w0 D s H w s' H' w'->Rv (Dn D H.next H'.next) s' v x->R (.returned x) w'):(Code.seq p3 p4).wp Tryz.prog (bodyPostD Tryz.prog Tryz.f26 R) a w:=by
 have hM:=okP.mach
 have hcg:=Xp (T:=tab) Ur k
 have hpg:=Za8 (T:=tab) Ur k
 have hgr:=Zed h hP.good
 unfold par4 at h
 split at h
 rotate_left
 ·cases h
 rename_i va vb vc e2 e3 e4
 obtain ⟨x2,t2,r2⟩:=hP.fr 2 va e2
 obtain ⟨x3,t3,r3⟩:=hP.fr 3 vb e3
 obtain ⟨x4,t4,r4⟩:=hP.fr 4 vc e4
 have hdf:=hP.defers.none (fun _=>rfl)
 have hsz:=hP.size
 have hsz' : 37<=a.tmps.size:=by have:Tryz.f26.ntmps=37:=Tryz.ntmps26;show 37<=_;have h2:Tryz.f26.ntmps<=a.tmps.size:=hsz;omega
 refine _root_.Go.wp_seq ?_
 have hp3:∀ Q:Exit->Act->World->Prop,Q .normal { tmps:=a.tmps.setIfInBounds 17 (.func (.func 52) #[] #[x2,x3,x4]),defers:=[{ target:=.fn (.func 52) #[x2,x3,x4],args:=#[] }] } w->p3.wp Tryz.prog Q a w:=fun Q hQ=>by
  have h17:17 < a.tmps.size:=by omega
  obtain ⟨tm,ds⟩:=a
  apply _root_.Go.wp_region
  simp [wpOps,go_sem,Act.put,Act.eval,Array.getElem?_setIfInBounds_self,h17,t2,t3,t4]
  have hds:ds=[]:=hdf
  subst hds
  exact .inl (.inl hQ)
 refine hp3 _ ?_
 show p4.wp Tryz.prog (bodyPostD Tryz.prog Tryz.f26 R) _ w
 have hcd:=Zyg [{ target:=.fn (.func 52) #[x2,x3,x4],args:=#[] }]
 simp only [cdOk,Bool.and_eq_true] at hcd
 have hP4:Pre tab n0 w0 ⟨Tryz.f26.ntmps,[{ target:=.fn (.func 52) #[x2,x3,x4],args:=#[] }]⟩ D s (F.set 17 (.fn (.func 52) [] [va,vb,vc])) H { tmps:=a.tmps.setIfInBounds 17 (.func (.func 52) #[] #[x2,x3,x4]),defers:=[{ target:=.fn (.func 52) #[x2,x3,x4],args:=#[] }] } w :=
  ⟨hP.gl,FrOk.put (a:={ tmps:=a.tmps,defers:=[{ target:=.fn (.func 52) #[x2,x3,x4],args:=#[] }] }) (d:=some 17) (fun t v ht=>hP.fr t v ht) (fun t ht=>by cases ht;show 17 < a.tmps.size;omega) (.fn _ _ _ _ _ .nil (.cons _ _ _ _ r2 (.cons _ _ _ _ r3 (.cons _ _ _ _ r4 .nil)))),hP.sat,hP.good,by simpa using hsz,[],rfl,fun d hd=>by cases hd⟩
 have henter:∀ args w,(callFunc 52 args).run Tryz.prog w = .ok (.enter 52 args) w:=enters_of Tryz.func52 (by kernel_rfl) rfl
 have hinv:∀ w,(invoke (.fn (.func 52) #[x2,x3,x4]) #[]).run Tryz.prog w = .ok (.enter 52 #[x2,x3,x4]) w:=fun w=>by simpa [invoke] using henter #[x2,x3,x4] w
 split at h
 ·rename_i F3 H3 h3
  unfold V9 at h
  split at h
  ·rename_i v' hr
   cases h
   refine wp_mono (Yd hM hn (okP.calls hI hn k) hcg p4 (Yi hM hn _ hcd.2.2.2.2) h3 hP4 hf) fun e a' w' he=>?_
   obtain ⟨rfl,s',hs,hF',_,hd⟩:=he
   have hd:=hd.none (fun _=>rfl)
   obtain ⟨x,hx,hrv⟩:=J6 hM.tab hs.sat hF' hr
   show Leaves Tryz.prog Tryz.f26 a'.tmps R a'.defers .returning w'
   rw [hd]
   refine leaves_cons (by simp) (hinv w') ((Zp5 #[x2,x3,x4] w').mono ?_)
   rintro e u w'' ⟨⟨v,rfl⟩,rfl,rfl⟩
   exact ⟨x,hx,hR x s' _ hs hrv⟩
  ·cases h
 ·cases h
 ·rename_i h3
  split at h
  ·rename_i pv H3 h4
   have g4:=Yv hcg hpg _ hP.good h4
   split at h
   ·rename_i Fx H4 h5
    have g5:=Zr hcg _ g4.good h5
    unfold V9 at h
    split at h
    ·rename_i v' hr
     cases h
     refine wp_mono (Wv (ts:=[2,3,4]) hM hn (okP.calls hI hn k) hcg (okP.pans hI hn (fun _=>rfl) k) hpg p4 hcd.2.2.2.2 (by kernel_rfl) h4 hP4 (hf.left g5.le)) fun e a' w' he=>?_
     obtain ⟨x,s',rfl,hs,hv,hd,hK⟩:=he
     have hd:=hd.none (fun _=>rfl)
     have hf5:Zz (Dn D H.next H3.next) H3 H':=hf.right g4.le
     show Leaves Tryz.prog Tryz.f26 a'.tmps R a'.defers (.panicking _) w'
     rw [hd]
     have m2:=r2.mono (D':=Dn D H.next H3.next) (s':=s') (fun b hb=>.inl hb) hs.same
     have m3:=r3.mono (D':=Dn D H.next H3.next) (s':=s') (fun b hb=>.inl hb) hs.same
     have m4:=r4.mono (D':=Dn D H.next H3.next) (s':=s') (fun b hb=>.inl hb) hs.same
     refine leaves_cons (by simp) (hinv w') ((Z52 hI hn (hP.gl.mono (fun b hb=>.inl hb) hs.same) hs.sat g4.good m2 m3 m4 hv h5 hf5).mono ?_)
     rintro e u w'' ⟨⟨u',rfl⟩,rfl,s'',hs2⟩
     have hst:=hs.trans hs2
     have hF4:FrOk (Dn D H.next H'.next) s'' (((Tr.nil.set 2 va).set 3 vb).set 4 vc) a':=fun t u hu=>by
      have hkk:∀ t,t∈[2,3,4]->∀ u,(F.set 17 (.fn (.func 52) [] [va,vb,vc])).get t=some u->∃ y,a'.tmps[t]? = some y/\Rv (Dn D H.next H'.next) s'' u y:=fun t ht u hu=>by
       obtain ⟨y,h1,h2⟩:=hK t ht u hu
       refine ⟨y,h1,?_⟩
       rw [<- V5 D hs.next hs2.next]
       exact h2.mono (fun b hb=>.inl hb) hs2.same
      simp only [Tr.get_set] at hu
      split at hu
      ·rename_i e;subst e;cases hu;exact hkk 4 (by simp) _ (by simp [Tr.get_set,e4])
      ·split at hu
       ·rename_i e;subst e;cases hu;exact hkk 3 (by simp) _ (by simp [Tr.get_set,e3])
       ·split at hu
        ·rename_i e;subst e;cases hu;exact hkk 2 (by simp) _ (by simp [Tr.get_set,e2])
        ·simp [Tr.get] at hu
     obtain ⟨y,hy,hrv⟩:=J6 hM.tab hst.sat hF4 hr
     exact ⟨y,hy,hR y s'' _ hst hrv⟩
    ·cases h
   ·cases h
  ·cases h
theorem parF:∀ n0 w0,tab.init n0 w0->n0<=w0.heap.size->∀ vs H v H',parE vs H=some (v,H')->∀ D s w (xs:Array Value),GlOk tab.ng D s->RvL D s vs xs.toList->Sat n0 w0 D s H w->Good H->Zz D H H' ->
  Calls Tryz.prog 26 xs w fun e w'=>match e with
   | .returned x=>∃ s',Step n0 w0 D s H w s' H' w'/\Rv (Dn D H.next H'.next) s' v x
   | _=>False:=by
 intro n0 w0 hI hn vs H v H' h D s w xs hg hxs hS hG hf
 have hM:=okP.mach
 have hgr:=Zjy h hG
 obtain ⟨k,h⟩:=Znz h
 have hcg:=Xp (T:=tab) Ur k
 have hP:Pre tab n0 w0 ⟨Tryz.f26.ntmps,[]⟩ D s (frame vs 0 .nil) H { tmps:=xs++Array.replicate (Tryz.f26.ntmps-xs.size) undef,defers:=[] } w:=by
  refine ⟨hg,Zbt vs 0 .nil (fun t v h=>by simp [Tr.get] at h) (fun j v hj=>?_),hS,hG,by show Tryz.f26.ntmps<=_;simp;omega,[],rfl,fun d hd=>by cases hd⟩
  obtain ⟨x,h1,h2⟩:=hxs.get j v hj
  rw [Array.getElem?_toList] at h1
  refine ⟨x,?_,h2⟩
  have hlt:j < xs.size:=(Array.getElem?_eq_some_iff.1 h1).1
  rw [Nat.zero_add,Array.getElem?_append_left hlt]
  exact h1
 have hcd:=Zyg []
 simp only [cdOk,Bool.and_eq_true] at hcd
 refine calls_of_wp_defers Tryz.func26 bodyP ?_
 unfold parK at h
 split at h
 ·rename_i F0 H0 h0
  have g0:=Zr hcg _ hG h0
  split at h
  ·rename_i F1 H1 h1
   have g1:=Zr hcg _ g0.good h1
   split at h
   ·rename_i F2 H2 h2
    have g2:=Zr hcg _ g1.good h2
    unfold V9 at h
    split at h
    ·rename_i v' hr
     cases h
     refine _root_.Go.wp_seq (wp_mono (Yd hM hn (okP.calls hI hn k) hcg p0 (Yi hM hn _ hcd.1) h0 hP (hf.left (Nat.le_trans g1.le g2.le))) fun e a1 w1 he=>?_)
     obtain ⟨rfl,s1,hs1,hF1,hz1,hd1⟩:=he
     have hP1:=hP.next hs1 hF1 g0.good hz1 hd1
     have hf1:=hf.right (H1:=H0) g0.le
     refine _root_.Go.wp_seq (wp_mono (Yd hM hn (okP.calls hI hn k) hcg p1 (Yi hM hn _ hcd.2.1) h1 hP1 (hf1.left g2.le)) fun e a2 w2 he=>?_)
     obtain ⟨rfl,s2,hs2,hF2,hz2,hd2⟩:=he
     have hP2:=hP1.next hs2 hF2 g1.good hz2 hd2
     have hf2:=hf1.right (H1:=H1) g1.le
     refine _root_.Go.wp_seq (wp_mono (Yd hM hn (okP.calls hI hn k) hcg p2 (Yi hM hn _ hcd.2.2.1) h2 hP2 hf2) fun e a3 w3 he=>?_)
     obtain ⟨rfl,s3,hs3,hF3,hz3,hd3⟩:=he
     have hd:=hd3.none (fun _=>rfl)
     have hst:=hs1.trans (hs2.trans hs3)
     obtain ⟨x,hx,hrv⟩:=J6 hM.tab hs3.sat hF3 hr
     show Leaves Tryz.prog Tryz.f26 a3.tmps _ a3.defers .returning w3
     rw [hd]
     rw [V5 _ hs2.next hs3.next,V5 _ hs1.next (Nat.le_trans hs2.next hs3.next)] at hrv
     exact ⟨x,hx,s3,hst,hrv⟩
    ·cases h
   ·rename_i F2 H2 h2
    have g2:=Zr hcg _ g1.good h2
    have g3:=Zed h g2.good
    refine _root_.Go.wp_seq (wp_mono (Yd hM hn (okP.calls hI hn k) hcg p0 (Yi hM hn _ hcd.1) h0 hP (hf.left (Nat.le_trans g1.le (Nat.le_trans g2.le g3.le)))) fun e a1 w1 he=>?_)
    obtain ⟨rfl,s1,hs1,hF1,hz1,hd1⟩:=he
    have hP1:=hP.next hs1 hF1 g0.good hz1 hd1
    have hf1:=hf.right (H1:=H0) g0.le
    refine _root_.Go.wp_seq (wp_mono (Yd hM hn (okP.calls hI hn k) hcg p1 (Yi hM hn _ hcd.2.1) h1 hP1 (hf1.left (Nat.le_trans g2.le g3.le))) fun e a2 w2 he=>?_)
    obtain ⟨rfl,s2,hs2,hF2,hz2,hd2⟩:=he
    have hP2:=hP1.next hs2 hF2 g1.good hz2 hd2
    have hf2:=hf1.right (H1:=H1) g1.le
    refine _root_.Go.wp_seq (wp_mono (Yd hM hn (okP.calls hI hn k) hcg p2 (Yi hM hn _ hcd.2.2.1) h2 hP2 (hf2.left g3.le)) fun e a3 w3 he=>?_)
    obtain ⟨rfl,s3,hs3,hF3,hz3,hd3⟩:=he
    have hP3:=hP2.next hs3 hF3 g2.good hz3 hd3
    have hf3:=hf2.right (H1:=H2) g2.le
    have hst:=hs1.trans (hs2.trans hs3)
    have hc:=hs2.next
    refine Zza hI hn hP3 h hf3 fun x s' w' hs4 hrv=>?_
    have hgr4:=hs4.next
    refine ⟨s',hs1.trans (hs2.trans (hs3.trans hs4)),?_⟩
    rw [V5 _ hs3.next hs4.next,V5 _ hs2.next (Nat.le_trans hs3.next hs4.next),V5 _ hs1.next (Nat.le_trans hs2.next (Nat.le_trans hs3.next hs4.next))] at hrv
    exact hrv
   ·cases h
  ·cases h
 ·cases h
end
end Go.AM.YtlillgmgpmbfnaaGreatDoorT
namespace Go.AM.YtlillgmgpmbfnaaGreatDoorT
open Go Go.AM Go.Proofs
set_option maxRecDepth 100000
abbrev Z34:List SOp:=[(some 4,.move (.tmp 0),none),
 (some 5,.nilCheck (.tmp 4),none),
 (some 6,.fieldAddr 92 (.tmp 5) 0,none),
 (some 7,.load 84 (.tmp 6),none),
 (some 8,.indexAddr 84 (.tmp 7) (.const (.int .i64 0)),none),
 (some 9,.fieldAddr 95 (.tmp 8) 3,none),
 (some 10,.load 3 (.tmp 9),none),
 (some 11,.move (.tmp 1),none),
 (some 12,.build 88 #[(0,(.tmp 10)),(1,(.tmp 11))],none),
 (some 13,.makeInterface 88 (.tmp 12),none),
 (none,.panic (.tmp 13),none)]
abbrev S120:SCode:=.reg Z34
theorem Z03:Zh tab 120 (Tryz.f120.body.getD .skip)=S120:=by kernel_rfl
theorem Yem {xs:List V} {H:Hp} {Q P:V->Hp->Prop} (h:WCr tab P S120 (frame xs 0 .nil) H (resQ tab [] Q)):WR tab 120 xs H Q P:=WR.of_slim (T:=tab) (f:=120) rfl Yff rfl Z03 rfl h
abbrev Z8q:List SOp:=[(some 4,.assign (.const (.bool false)),none)]
abbrev Yf2:List SOp:=[(some 6,.move (.tmp 0),none),
 (some 7,.nilCheck (.tmp 6),none),
 (some 8,.fieldAddr 92 (.tmp 7) 0,none),
 (some 9,.load 84 (.tmp 8),none),
 (some 10,.indexAddr 84 (.tmp 9) (.const (.int .i64 0)),none),
 (some 11,.fieldAddr 95 (.tmp 10) 0,none),
 (some 12,.load 93 (.tmp 11),none),
 (some 5,.assign (.tmp 12),none)]
abbrev Ych:List SOp:=[(some 13,.move (.tmp 5),none),
 (some 14,.binOp .neq 93 (.tmp 13) (.const (.int .i64 4)) 93,none),
 (some 15,.move (.tmp 14),none),
 (some 16,.move (.tmp 5),some (some 15,true)),
 (some 17,.binOp .neq 93 (.tmp 16) (.const (.int .i64 1)) 93,some (some 15,true)),
 (some 18,.pick (.tmp 15) (.tmp 17) (.const (.bool false)),none),
 (some 19,.move (.tmp 18),none),
 (some 20,.move (.tmp 0),some (some 19,false)),
 (some 21,.nilCheck (.tmp 20),some (some 19,false)),
 (some 22,.fieldAddr 92 (.tmp 21) 0,some (some 19,false)),
 (some 23,.load 84 (.tmp 22),some (some 19,false)),
 (some 24,.indexAddr 84 (.tmp 23) (.const (.int .i64 0)),some (some 19,false)),
 (some 25,.fieldAddr 95 (.tmp 24) 1,some (some 19,false)),
 (some 26,.load 9 (.tmp 25),some (some 19,false)),
 (some 27,.move (.tmp 1),some (some 19,false)),
 (some 28,.binOp .neq 9 (.tmp 26) (.tmp 27) 9,some (some 19,false)),
 (some 29,.pick (.tmp 19) (.const (.bool true)) (.tmp 28),none)]
abbrev Ygr:List SOp:=[(some 4,.assign (.const (.bool false)),none)]
abbrev Yao:List SOp:=[(some 30,.move (.tmp 0),none),
 (some 31,.move (.tmp 0),none),
 (some 32,.nilCheck (.tmp 31),none),
 (some 33,.fieldAddr 92 (.tmp 32) 0,none),
 (some 34,.load 84 (.tmp 33),none),
 (some 35,.slice 84 (.tmp 34) (some (.const (.int .i64 1))) none none,none),
 (some 36,.nilCheck (.tmp 30),none),
 (some 37,.fieldAddr 92 (.tmp 36) 0,none),
 (none,.store 84 (.tmp 37) (.tmp 35),none)]
abbrev Yea:List SOp:=[(some 4,.assign (.const (.bool true)),none)]
abbrev S76:SCode:=.seq (.reg Z8q) (.seq (.seq (.reg Yf2) (.seq (.reg Ych) (.cond (.tmp 29) (.seq (.reg Ygr) (.ret)) (.skip)))) (.seq (.reg Yao) (.seq (.reg Yea) (.ret))))
theorem Z2i:Zh tab 76 (Tryz.f76.body.getD .skip)=S76:=by kernel_rfl
theorem wf76 {xs:List V} {H:Hp} {Q:V->Hp->Prop} (h:WC tab S76 (frame xs 0 .nil) H (resQ tab [.tmp 4] Q)):WF tab 76 xs H Q:=WF.of_slim (T:=tab) (f:=76) rfl fn76 rfl Z2i rfl h
abbrev Ybl:List SOp:=[(some 4,.move (.tmp 0),none),
 (some 5,.move (.tmp 1),none),
 (some 6,.call ⟨.value (.func 76),#[(.tmp 4),(.tmp 5)],#[90,9]⟩,none),
 (some 7,.unOp .not 4 (.tmp 6),none)]
abbrev Z8t:List SOp:=[(some 8,.move (.tmp 0),none),
 (some 9,.call ⟨.value (.func 120),#[(.tmp 8),(.const (.int .i64 1))],#[90,47]⟩,none)]
abbrev S78:SCode:=.seq (.reg Ybl) (.cond (.tmp 7) (.reg Z8t) (.skip))
theorem Z38:Zh tab 78 (Tryz.f78.body.getD .skip)=S78:=by kernel_rfl
theorem wr78 {xs:List V} {H:Hp} {Q P:V->Hp->Prop} (h:WCr tab P S78 (frame xs 0 .nil) H (resQ tab [] Q)):WR tab 78 xs H Q P:=WR.of_slim (T:=tab) (f:=78) rfl fn78 rfl Z38 rfl h
abbrev Z2d:List SOp:=[(some 2,.move (.tmp 0),none),
 (some 3,.nilCheck (.tmp 2),none),
 (some 4,.fieldAddr 92 (.tmp 3) 1,none),
 (some 5,.load 3 (.tmp 4),none),
 (some 6,.binOp .eql 3 (.tmp 5) (.const (.int .i64 20)) 3,none)]
abbrev Z4j:List SOp:=[(some 7,.move (.tmp 0),none),
 (some 8,.call ⟨.value (.func 120),#[(.tmp 7),(.const (.int .i64 3))],#[90,47]⟩,none)]
abbrev Z20:List SOp:=[(some 9,.move (.tmp 0),none),
 (some 10,.nilCheck (.tmp 9),none),
 (some 11,.fieldAddr 92 (.tmp 10) 1,none),
 (some 12,.load 3 (.tmp 11),none),
 (some 13,.binOp .add 3 (.tmp 12) (.const (.int .i64 1)) 3,none),
 (some 14,.nilCheck (.tmp 9),none),
 (some 15,.fieldAddr 92 (.tmp 14) 1,none),
 (none,.store 3 (.tmp 15) (.tmp 13),none)]
abbrev S118:SCode:=.seq (.seq (.reg Z2d) (.cond (.tmp 6) (.reg Z4j) (.skip))) (.reg Z20)
theorem Zy6:Zh tab 118 (Tryz.f118.body.getD .skip)=S118:=by kernel_rfl
theorem Ydo {xs:List V} {H:Hp} {Q P:V->Hp->Prop} (h:WCr tab P S118 (frame xs 0 .nil) H (resQ tab [] Q)):WR tab 118 xs H Q P:=WR.of_slim (T:=tab) (f:=118) rfl Ydc rfl Zy6 rfl h
abbrev Z7r:List SOp:=[(some 2,.assign (.const (.string ⟨#[]⟩)),none)]
abbrev Z9n:List SOp:=[(some 4,.move (.tmp 0),none),
 (some 5,.nilCheck (.tmp 4),none),
 (some 6,.fieldAddr 92 (.tmp 5) 0,none),
 (some 7,.load 84 (.tmp 6),none),
 (some 8,.indexAddr 84 (.tmp 7) (.const (.int .i64 0)),none),
 (some 9,.load 95 (.tmp 8),none),
 (some 3,.alloc 95,none),
 (none,.store 95 (.tmp 3) (.tmp 9),none)]
abbrev Z79:List SOp:=[(some 10,.fieldAddr 95 (.tmp 3) 0,none),
 (some 11,.load 93 (.tmp 10),none),
 (some 12,.binOp .neq 93 (.tmp 11) (.const (.int .i64 1)) 93,none),
 (some 13,.move (.tmp 12),none),
 (some 14,.fieldAddr 95 (.tmp 3) 1,some (some 13,false)),
 (some 15,.load 9 (.tmp 14),some (some 13,false)),
 (some 16,.call ⟨.value (.func 50),#[(.tmp 15)],#[9]⟩,some (some 13,false)),
 (some 17,.pick (.tmp 13) (.const (.bool true)) (.tmp 16),none)]
abbrev Yed:List SOp:=[(some 18,.move (.tmp 0),none),
 (some 19,.call ⟨.value (.func 120),#[(.tmp 18),(.const (.int .i64 1))],#[90,47]⟩,none)]
abbrev Yc4:List SOp:=[(some 20,.move (.tmp 0),none),
 (some 21,.move (.tmp 0),none),
 (some 22,.nilCheck (.tmp 21),none),
 (some 23,.fieldAddr 92 (.tmp 22) 0,none),
 (some 24,.load 84 (.tmp 23),none),
 (some 25,.slice 84 (.tmp 24) (some (.const (.int .i64 1))) none none,none),
 (some 26,.nilCheck (.tmp 20),none),
 (some 27,.fieldAddr 92 (.tmp 26) 0,none),
 (none,.store 84 (.tmp 27) (.tmp 25),none)]
abbrev Ycd:List SOp:=[(some 28,.fieldAddr 95 (.tmp 3) 1,none),
 (some 29,.load 9 (.tmp 28),none),
 (some 2,.assign (.tmp 29),none)]
abbrev S79:SCode:=.seq (.reg Z7r) (.seq (.reg Z9n) (.seq (.seq (.reg Z79) (.cond (.tmp 17) (.reg Yed) (.skip))) (.seq (.reg Yc4) (.seq (.reg Ycd) (.ret)))))
theorem Z6s:Zh tab 79 (Tryz.f79.body.getD .skip)=S79:=by kernel_rfl
theorem wr79 {xs:List V} {H:Hp} {Q P:V->Hp->Prop} (h:WCr tab P S79 (frame xs 0 .nil) H (resQ tab [.tmp 2] Q)):WR tab 79 xs H Q P:=WR.of_slim (T:=tab) (f:=79) rfl fn79 rfl Z6s rfl h
abbrev Yfo:List SOp:=[(some 2,.assign (.const (.bool false)),none)]
abbrev Ygq:List SOp:=[(some 5,.load 118 (.global 1),none),
 (some 6,.move (.const (.int .i64 0)),none)]
abbrev Yaa:List SOp:=[(some 7,.binOp .lss 3 (.tmp 6) (.const (.int .i64 12)) 3,none)]
abbrev Ybr:List SOp:=[(some 8,.index 118 (.tmp 5) (.tmp 6),none),
 (some 4,.assign (.tmp 8),none)]
abbrev Yan:List SOp:=[(some 9,.move (.tmp 4),none),
 (some 10,.move (.tmp 0),none),
 (some 11,.binOp .eql 9 (.tmp 9) (.tmp 10) 9,none)]
abbrev Yay:List SOp:=[(some 2,.assign (.const (.bool true)),none)]
abbrev Ybn:List SOp:=[(some 12,.binOp .add 3 (.tmp 6) (.const (.int .i64 1)) 3,none),
 (some 6,.move (.tmp 12),none)]
def Zkj:SCode:=.seq (.reg Yaa) (.seq (.cond (.tmp 7) (.skip) (.exit 0)) (.seq (.block 1 (.seq (.reg Ybr) (.seq (.reg Yan) (.cond (.tmp 11) (.seq (.reg Yay) (.ret)) (.skip))))) (.reg Ybn)))
abbrev Ygg:List SOp:=[(some 2,.assign (.const (.bool false)),none)]
abbrev S50:SCode:=.seq (.reg Yfo) (.seq (.seq (.reg Ygq) (.block 0 (.loop Zkj))) (.seq (.reg Ygg) (.ret)))
theorem Z2s:Zh tab 50 (Tryz.f50.body.getD .skip)=S50:=by kernel_rfl
theorem wf50 {xs:List V} {H:Hp} {Q:V->Hp->Prop} (h:WC tab S50 (frame xs 0 .nil) H (resQ tab [.tmp 2] Q)):WF tab 50 xs H Q:=WF.of_slim (T:=tab) (f:=50) rfl fn50 rfl Z2s rfl h
abbrev Ya8:List SOp:=[(some 2,.alloc 35,none)]
abbrev Z7x:List SOp:=[(some 4,.move (.tmp 0),none),
 (some 5,.call ⟨.value (.func 118),#[(.tmp 4)],#[90]⟩,none)]
abbrev Ybz:List SOp:=[(some 6,.move (.tmp 0),none),
 (some 7,.call ⟨.value (.func 119),#[(.tmp 6),(.const (.int .i64 0))],#[90,3]⟩,none),
 (some 3,.alloc 35,none),
 (none,.store 35 (.tmp 3) (.tmp 7),none)]
abbrev Ydr:List SOp:=[(some 8,.move (.tmp 0),none),
 (some 9,.nilCheck (.tmp 8),none),
 (some 10,.fieldAddr 92 (.tmp 9) 1,none),
 (some 11,.load 3 (.tmp 10),none),
 (some 12,.binOp .sub 3 (.tmp 11) (.const (.int .i64 1)) 3,none),
 (some 13,.nilCheck (.tmp 8),none),
 (some 14,.fieldAddr 92 (.tmp 13) 1,none),
 (none,.store 3 (.tmp 14) (.tmp 12),none)]
abbrev Yd4:List SOp:=[(some 15,.load 35 (.tmp 3),none),
 (none,.store 35 (.tmp 2) (.tmp 15),none)]
abbrev S77:SCode:=.seq (.reg Ya8) (.seq (.reg Z7x) (.seq (.reg Ybz) (.seq (.reg Ydr) (.seq (.reg Yd4) (.ret)))))
theorem Z2h:Zh tab 77 (Tryz.f77.body.getD .skip)=S77:=by kernel_rfl
theorem wr77 {xs:List V} {H:Hp} {Q P:V->Hp->Prop} (h:WCr tab P S77 (frame xs 0 .nil) H (resQ tab [.cell 2 35] Q)):WR tab 77 xs H Q P:=WR.of_slim (T:=tab) (f:=77) rfl fn77 rfl Z2h rfl h
abbrev Z3e:List SOp:=[(some 4,.alloc 35,none)]
abbrev Z6k:List SOp:=[(some 8,.move (.tmp 1),none),
 (some 9,.binOp .eql 3 (.tmp 8) (.const (.int .i64 3)) 3,none)]
abbrev Z4f:List SOp:=[(some 10,.move (.tmp 0),none),
 (some 11,.call ⟨.value (.func 157),#[(.tmp 10)],#[90]⟩,none),
 (none,.store 35 (.tmp 4) (.tmp 11),none)]
abbrev Z4u:List SOp:=[(some 12,.move (.tmp 0),none),
 (some 13,.move (.tmp 1),none),
 (some 14,.binOp .add 3 (.tmp 13) (.const (.int .i64 1)) 3,none),
 (some 15,.call ⟨.value (.func 119),#[(.tmp 12),(.tmp 14)],#[90,3]⟩,none),
 (some 5,.alloc 35,none),
 (none,.store 35 (.tmp 5) (.tmp 15),none)]
abbrev Z56:List (SOp×Nat):=[((some 17,.move (.tmp 1),none),0),
 ((some 18,.indexAddr 206 (.global 6) (.tmp 17),none),0),
 ((some 19,.load 205 (.tmp 18),none),0),
 ((some 20,.move (.tmp 0),none),0),
 ((some 21,.nilCheck (.tmp 20),none),0),
 ((some 22,.fieldAddr 92 (.tmp 21) 0,none),0),
 ((some 23,.load 84 (.tmp 22),none),0),
 ((some 24,.indexAddr 84 (.tmp 23) (.const (.int .i64 0)),none),0),
 ((some 25,.fieldAddr 95 (.tmp 24) 1,none),0),
 ((some 26,.load 9 (.tmp 25),none),0),
 ((some 27,.lookup 205 (.tmp 19) (.tmp 26) true,none),0),
 ((some 16,.move (.tmp 27),none),0),
 ((some 28,.extract (.tmp 16) 0,none),0),
 ((some 29,.extract (.tmp 16) 1,none),0),
 ((some 6,.assign (.tmp 28),none),0),
 ((some 7,.assign (.tmp 29),none),0)]
abbrev Z6n:List SOp:=[(some 30,.move (.tmp 7),none),
 (some 31,.unOp .not 4 (.tmp 30),none),
 (some 32,.move (.tmp 31),none),
 (some 33,.move (.tmp 0),some (some 32,false)),
 (some 34,.nilCheck (.tmp 33),some (some 32,false)),
 (some 35,.fieldAddr 92 (.tmp 34) 0,some (some 32,false)),
 (some 36,.load 84 (.tmp 35),some (some 32,false)),
 (some 37,.indexAddr 84 (.tmp 36) (.const (.int .i64 0)),some (some 32,false)),
 (some 38,.fieldAddr 95 (.tmp 37) 0,some (some 32,false)),
 (some 39,.load 93 (.tmp 38),some (some 32,false)),
 (some 40,.binOp .neq 93 (.tmp 39) (.const (.int .i64 4)) 93,some (some 32,false)),
 (some 41,.pick (.tmp 32) (.const (.bool true)) (.tmp 40),none)]
abbrev Z5j:List SOp:=[(some 42,.load 35 (.tmp 5),none),
 (none,.store 35 (.tmp 4) (.tmp 42),none)]
abbrev Z3p:List SOp:=[(some 43,.move (.tmp 0),none),
 (some 44,.move (.tmp 0),none),
 (some 45,.nilCheck (.tmp 44),none),
 (some 46,.fieldAddr 92 (.tmp 45) 0,none),
 (some 47,.load 84 (.tmp 46),none),
 (some 48,.slice 84 (.tmp 47) (some (.const (.int .i64 1))) none none,none),
 (some 49,.nilCheck (.tmp 43),none),
 (some 50,.fieldAddr 92 (.tmp 49) 0,none),
 (none,.store 84 (.tmp 50) (.tmp 48),none)]
abbrev Z6e:List (SOp×Nat):=[((some 53,.move (.tmp 0),none),0),
 ((some 54,.move (.tmp 1),none),0),
 ((some 55,.binOp .add 3 (.tmp 54) (.const (.int .i64 1)) 3,none),0),
 ((some 56,.call ⟨.value (.func 119),#[(.tmp 53),(.tmp 55)],#[90,3]⟩,none),0),
 ((some 51,.move (.tmp 6),none),1),
 ((some 52,.load 35 (.tmp 5),none),1),
 ((some 57,.buildSlice 28 2 #[(0,(.tmp 52)),(1,(.tmp 56))],none),0),
 ((some 58,.build 35 #[(0,(.tmp 51)),(3,(.tmp 57))],none),0),
 ((none,.store 35 (.tmp 5) (.tmp 58),none),0)]
abbrev Z66:List SOp:=[(some 59,.move (.tmp 1),none),
 (some 60,.binOp .eql 3 (.tmp 59) (.const (.int .i64 0)) 3,none)]
abbrev Zz9:List SOp:=[(some 61,.load 35 (.tmp 5),none),
 (none,.store 35 (.tmp 4) (.tmp 61),none)]
def Zea:SCode:=.block 1 (.seq (.dreg Z56) (.seq (.seq (.reg Z6n) (.cond (.tmp 41) (.seq (.reg Z5j) (.ret)) (.skip))) (.seq (.reg Z3p) (.seq (.dreg Z6e) (.seq (.reg Z66) (.cond (.tmp 60) (.seq (.reg Zz9) (.ret)) (.skip)))))))
abbrev S119:SCode:=.seq (.reg Z3e) (.seq (.seq (.reg Z6k) (.cond (.tmp 9) (.seq (.reg Z4f) (.ret)) (.skip))) (.seq (.reg Z4u) (.block 0 (.loop Zea))))
theorem Z0g:Zh tab 119 (Tryz.f119.body.getD .skip)=S119:=by kernel_rfl
theorem Z7k {xs:List V} {H:Hp} {Q P:V->Hp->Prop} (h:WCr tab P S119 (frame xs 0 .nil) H (resQ tab [.cell 4 35] Q)):WR tab 119 xs H Q P:=WR.of_slim (T:=tab) (f:=119) rfl Yf9 rfl Z0g rfl h
abbrev Zun:List SOp:=[(some 2,.alloc 35,none)]
abbrev Zsc:List SOp:=[(some 3,.assign (.const (.int .i64 18)),none)]
abbrev Zq6:List SOp:=[(some 8,.move (.tmp 0),none),
 (some 9,.call ⟨.value (.func 76),#[(.tmp 8),(.const (.string ⟨#[0x2d]⟩))],#[90,9]⟩,none),
 (some 7,.assign (.tmp 9),none)]
abbrev Zuh:List SOp:=[(some 3,.assign (.const (.int .i64 6)),none)]
abbrev Zrg:List SOp:=[(some 11,.move (.tmp 0),none),
 (some 12,.call ⟨.value (.func 76),#[(.tmp 11),(.const (.string ⟨#[0x21]⟩))],#[90,9]⟩,none),
 (some 10,.assign (.tmp 12),none)]
abbrev Zsq:List SOp:=[(some 3,.assign (.const (.int .i64 7)),none)]
abbrev Zr4:List SOp:=[(some 5,.move (.tmp 0),none),
 (some 6,.call ⟨.value (.func 179),#[(.tmp 5)],#[90]⟩,none),
 (none,.store 35 (.tmp 2) (.tmp 6),none)]
abbrev Zrn:List SOp:=[(some 13,.move (.tmp 0),none),
 (some 14,.call ⟨.value (.func 118),#[(.tmp 13)],#[90]⟩,none)]
abbrev Zt9:List SOp:=[(some 15,.move (.tmp 0),none),
 (some 16,.call ⟨.value (.func 157),#[(.tmp 15)],#[90]⟩,none),
 (some 4,.alloc 35,none),
 (none,.store 35 (.tmp 4) (.tmp 16),none)]
abbrev Zs7:List SOp:=[(some 17,.move (.tmp 0),none),
 (some 18,.nilCheck (.tmp 17),none),
 (some 19,.fieldAddr 92 (.tmp 18) 1,none),
 (some 20,.load 3 (.tmp 19),none),
 (some 21,.binOp .sub 3 (.tmp 20) (.const (.int .i64 1)) 3,none),
 (some 22,.nilCheck (.tmp 17),none),
 (some 23,.fieldAddr 92 (.tmp 22) 1,none),
 (none,.store 3 (.tmp 23) (.tmp 21),none)]
abbrev Zoh:List SOp:=[(some 24,.move (.tmp 3),none),
 (some 25,.load 35 (.tmp 4),none),
 (some 26,.buildSlice 28 1 #[(0,(.tmp 25))],none),
 (some 27,.build 35 #[(0,(.tmp 24)),(3,(.tmp 26))],none),
 (none,.store 35 (.tmp 2) (.tmp 27),none)]
abbrev S157:SCode:=.seq (.reg Zun) (.seq (.reg Zsc) (.seq (.block 0 (.seq (.reg Zq6) (.cond (.tmp 7) (.reg Zuh) (.seq (.reg Zrg) (.cond (.tmp 10) (.reg Zsq) (.seq (.reg Zr4) (.ret))))))) (.seq (.reg Zrn) (.seq (.reg Zt9) (.seq (.reg Zs7) (.seq (.reg Zoh) (.ret)))))))
theorem Zzf:Zh tab 157 (Tryz.f157.body.getD .skip)=S157:=by kernel_rfl
theorem Yad {xs:List V} {H:Hp} {Q P:V->Hp->Prop} (h:WCr tab P S157 (frame xs 0 .nil) H (resQ tab [.cell 2 35] Q)):WR tab 157 xs H Q P:=WR.of_slim (T:=tab) (f:=157) rfl Ydh rfl Zzf rfl h
abbrev Z33:List SOp:=[(some 2,.alloc 35,none)]
abbrev Z5g:List SOp:=[(some 4,.move (.tmp 0),none),
 (some 5,.call ⟨.value (.func 189),#[(.tmp 4)],#[90]⟩,none),
 (some 3,.alloc 35,none),
 (none,.store 35 (.tmp 3) (.tmp 5),none)]
abbrev Zq4:List SOp:=[(some 8,.move (.tmp 0),none),
 (some 9,.call ⟨.value (.func 76),#[(.tmp 8),(.const (.string ⟨#[0x28]⟩))],#[90,9]⟩,none),
 (some 7,.assign (.tmp 9),none)]
abbrev Zqv:List (SOp×Nat):=[((some 12,.move (.tmp 0),none),0),
 ((some 13,.call ⟨.value (.func 190),#[(.tmp 12),(.const (.string ⟨#[0x29]⟩))],#[90,9]⟩,none),0),
 ((some 10,.load 35 (.tmp 3),none),1),
 ((some 11,.buildSlice 28 1 #[(0,(.tmp 10))],none),1),
 ((some 14,.call ⟨.builtin .append,#[(.tmp 11),(.tmp 13)],#[28,28]⟩,none),0),
 ((some 15,.build 35 #[(0,(.const (.int .i64 15))),(3,(.tmp 14))],none),0),
 ((none,.store 35 (.tmp 3) (.tmp 15),none),0)]
abbrev Zsz:List SOp:=[(some 17,.move (.tmp 0),none),
 (some 18,.call ⟨.value (.func 76),#[(.tmp 17),(.const (.string ⟨#[0x5b]⟩))],#[90,9]⟩,none),
 (some 16,.assign (.tmp 18),none)]
abbrev Zqy:List (SOp×Nat):=[((some 20,.move (.tmp 0),none),0),
 ((some 21,.call ⟨.value (.func 77),#[(.tmp 20)],#[90]⟩,none),0),
 ((some 19,.load 35 (.tmp 3),none),1),
 ((some 22,.buildSlice 28 2 #[(0,(.tmp 19)),(1,(.tmp 21))],none),0),
 ((some 23,.build 35 #[(0,(.const (.int .i64 14))),(3,(.tmp 22))],none),0),
 ((none,.store 35 (.tmp 3) (.tmp 23),none),0)]
abbrev Zsj:List SOp:=[(some 24,.move (.tmp 0),none),
 (some 25,.call ⟨.value (.func 78),#[(.tmp 24),(.const (.string ⟨#[0x5d]⟩))],#[90,9]⟩,none)]
abbrev Zr5:List SOp:=[(some 27,.move (.tmp 0),none),
 (some 28,.call ⟨.value (.func 76),#[(.tmp 27),(.const (.string ⟨#[0x2e]⟩))],#[90,9]⟩,none),
 (some 26,.assign (.tmp 28),none)]
abbrev Zuk:List (SOp×Nat):=[((some 30,.move (.tmp 0),none),0),
 ((some 31,.call ⟨.value (.func 79),#[(.tmp 30)],#[90]⟩,none),0),
 ((some 29,.load 35 (.tmp 3),none),1),
 ((some 32,.build 35 #[(0,(.const (.int .i64 4))),(2,(.tmp 31))],none),0),
 ((some 33,.buildSlice 28 2 #[(0,(.tmp 29)),(1,(.tmp 32))],none),0),
 ((some 34,.build 35 #[(0,(.const (.int .i64 14))),(3,(.tmp 33))],none),0),
 ((none,.store 35 (.tmp 3) (.tmp 34),none),0)]
abbrev Ztz:List SOp:=[(some 6,.load 35 (.tmp 3),none),
 (none,.store 35 (.tmp 2) (.tmp 6),none)]
def Z4a:SCode:=.block 1 (.block 2 (.seq (.reg Zq4) (.cond (.tmp 7) (.dreg Zqv) (.seq (.reg Zsz) (.cond (.tmp 16) (.seq (.dreg Zqy) (.reg Zsj)) (.seq (.reg Zr5) (.cond (.tmp 26) (.dreg Zuk) (.seq (.reg Ztz) (.ret)))))))))
abbrev S179:SCode:=.seq (.reg Z33) (.seq (.reg Z5g) (.block 0 (.loop Z4a)))
theorem Z0p:Zh tab 179 (Tryz.f179.body.getD .skip)=S179:=by kernel_rfl
theorem Yc9 {xs:List V} {H:Hp} {Q P:V->Hp->Prop} (h:WCr tab P S179 (frame xs 0 .nil) H (resQ tab [.cell 2 35] Q)):WR tab 179 xs H Q P:=WR.of_slim (T:=tab) (f:=179) rfl Ybb rfl Z0p rfl h
abbrev Z2p:List SOp:=[(some 2,.alloc 35,none)]
abbrev Z55:List SOp:=[(some 5,.move (.tmp 0),none),
 (some 6,.nilCheck (.tmp 5),none),
 (some 7,.fieldAddr 92 (.tmp 6) 0,none),
 (some 8,.load 84 (.tmp 7),none),
 (some 9,.indexAddr 84 (.tmp 8) (.const (.int .i64 0)),none),
 (some 10,.load 95 (.tmp 9),none),
 (some 3,.alloc 95,none),
 (none,.store 95 (.tmp 3) (.tmp 10),none)]
abbrev Z5x:List SOp:=[(some 12,.fieldAddr 95 (.tmp 3) 0,none),
 (some 13,.load 93 (.tmp 12),none),
 (some 14,.binOp .eql 93 (.tmp 13) (.const (.int .i64 2)) 93,none),
 (some 11,.assign (.tmp 14),none)]
abbrev Z4v:List SOp:=[(some 15,.move (.tmp 0),none),
 (some 16,.move (.tmp 0),none),
 (some 17,.nilCheck (.tmp 16),none),
 (some 18,.fieldAddr 92 (.tmp 17) 0,none),
 (some 19,.load 84 (.tmp 18),none),
 (some 20,.slice 84 (.tmp 19) (some (.const (.int .i64 1))) none none,none),
 (some 21,.nilCheck (.tmp 15),none),
 (some 22,.fieldAddr 92 (.tmp 21) 0,none),
 (none,.store 84 (.tmp 22) (.tmp 20),none)]
abbrev Z2z:List SOp:=[(some 23,.fieldAddr 95 (.tmp 3) 2,none),
 (some 24,.load 2 (.tmp 23),none),
 (some 25,.build 35 #[(0,(.const (.int .i64 3))),(1,(.tmp 24))],none),
 (none,.store 35 (.tmp 2) (.tmp 25),none)]
abbrev Z6x:List SOp:=[(some 27,.fieldAddr 95 (.tmp 3) 0,none),
 (some 28,.load 93 (.tmp 27),none),
 (some 29,.binOp .eql 93 (.tmp 28) (.const (.int .i64 3)) 93,none),
 (some 26,.assign (.tmp 29),none)]
abbrev Z41:List SOp:=[(some 30,.move (.tmp 0),none),
 (some 31,.move (.tmp 0),none),
 (some 32,.nilCheck (.tmp 31),none),
 (some 33,.fieldAddr 92 (.tmp 32) 0,none),
 (some 34,.load 84 (.tmp 33),none),
 (some 35,.slice 84 (.tmp 34) (some (.const (.int .i64 1))) none none,none),
 (some 36,.nilCheck (.tmp 30),none),
 (some 37,.fieldAddr 92 (.tmp 36) 0,none),
 (none,.store 84 (.tmp 37) (.tmp 35),none)]
abbrev Z6z:List SOp:=[(some 38,.fieldAddr 95 (.tmp 3) 1,none),
 (some 39,.load 9 (.tmp 38),none),
 (some 40,.build 35 #[(0,(.const (.int .i64 4))),(2,(.tmp 39))],none),
 (none,.store 35 (.tmp 2) (.tmp 40),none)]
abbrev Z39:List SOp:=[(some 42,.move (.tmp 0),none),
 (some 43,.call ⟨.value (.func 76),#[(.tmp 42),(.const (.string ⟨#[0x6e,0x69,0x6c]⟩))],#[90,9]⟩,none),
 (some 41,.assign (.tmp 43),none)]
abbrev Z5r:List SOp:=[(some 44,.build 35 #[(0,(.const (.int .i64 0)))],none),
 (none,.store 35 (.tmp 2) (.tmp 44),none)]
abbrev Z1g:List SOp:=[(some 46,.move (.tmp 0),none),
 (some 47,.call ⟨.value (.func 76),#[(.tmp 46),(.const (.string ⟨#[0x74,0x72,0x75,0x65]⟩))],#[90,9]⟩,none),
 (some 45,.assign (.tmp 47),none)]
abbrev Z1k:List SOp:=[(some 48,.build 35 #[(0,(.const (.int .i64 2)))],none),
 (none,.store 35 (.tmp 2) (.tmp 48),none)]
abbrev Z0s:List SOp:=[(some 50,.move (.tmp 0),none),
 (some 51,.call ⟨.value (.func 76),#[(.tmp 50),(.const (.string ⟨#[0x66,0x61,0x6c,0x73,0x65]⟩))],#[90,9]⟩,none),
 (some 49,.assign (.tmp 51),none)]
abbrev Z1j:List SOp:=[(some 52,.build 35 #[(0,(.const (.int .i64 1)))],none),
 (none,.store 35 (.tmp 2) (.tmp 52),none)]
abbrev Z00:List SOp:=[(some 54,.move (.tmp 0),none),
 (some 55,.call ⟨.value (.func 76),#[(.tmp 54),(.const (.string ⟨#[0x28]⟩))],#[90,9]⟩,none),
 (some 53,.assign (.tmp 55),none)]
abbrev Z0y:List SOp:=[(some 56,.move (.tmp 0),none),
 (some 57,.call ⟨.value (.func 77),#[(.tmp 56)],#[90]⟩,none),
 (some 4,.alloc 35,none),
 (none,.store 35 (.tmp 4) (.tmp 57),none)]
abbrev Z1e:List SOp:=[(some 58,.move (.tmp 0),none),
 (some 59,.call ⟨.value (.func 78),#[(.tmp 58),(.const (.string ⟨#[0x29]⟩))],#[90,9]⟩,none)]
abbrev Z0b:List SOp:=[(some 60,.load 35 (.tmp 4),none),
 (none,.store 35 (.tmp 2) (.tmp 60),none)]
abbrev Zz5:List SOp:=[(some 62,.move (.tmp 0),none),
 (some 63,.call ⟨.value (.func 76),#[(.tmp 62),(.const (.string ⟨#[0x7b]⟩))],#[90,9]⟩,none),
 (some 61,.assign (.tmp 63),none)]
abbrev Z06:List SOp:=[(some 64,.move (.tmp 0),none),
 (some 65,.call ⟨.value (.func 199),#[(.tmp 64)],#[90]⟩,none),
 (none,.store 35 (.tmp 2) (.tmp 65),none)]
abbrev Z1m:List SOp:=[(some 67,.move (.tmp 0),none),
 (some 68,.call ⟨.value (.func 76),#[(.tmp 67),(.const (.string ⟨#[0x66,0x6e]⟩))],#[90,9]⟩,none),
 (some 66,.assign (.tmp 68),none)]
abbrev Z0h:List SOp:=[(some 69,.move (.tmp 0),none),
 (some 70,.call ⟨.value (.func 200),#[(.tmp 69)],#[90]⟩,none),
 (none,.store 35 (.tmp 2) (.tmp 70),none)]
abbrev Z1r:List SOp:=[(some 71,.move (.tmp 0),none),
 (some 72,.call ⟨.value (.func 79),#[(.tmp 71)],#[90]⟩,none),
 (some 73,.build 35 #[(0,(.const (.int .i64 5))),(2,(.tmp 72))],none),
 (none,.store 35 (.tmp 2) (.tmp 73),none)]
abbrev S189:SCode:=.seq (.reg Z2p) (.seq (.reg Z55) (.seq (.block 0 (.seq (.reg Z5x) (.cond (.tmp 11) (.seq (.reg Z4v) (.seq (.reg Z2z) (.ret))) (.seq (.reg Z6x) (.cond (.tmp 26) (.seq (.reg Z41) (.seq (.reg Z6z) (.ret))) (.seq (.reg Z39) (.cond (.tmp 41) (.seq (.reg Z5r) (.ret)) (.seq (.reg Z1g) (.cond (.tmp 45) (.seq (.reg Z1k) (.ret)) (.seq (.reg Z0s) (.cond (.tmp 49) (.seq (.reg Z1j) (.ret)) (.seq (.reg Z00) (.cond (.tmp 53) (.seq (.reg Z0y) (.seq (.reg Z1e) (.seq (.reg Z0b) (.ret)))) (.seq (.reg Zz5) (.cond (.tmp 61) (.seq (.reg Z06) (.ret)) (.seq (.reg Z1m) (.cond (.tmp 66) (.seq (.reg Z0h) (.ret)) (.skip)))))))))))))))))) (.seq (.reg Z1r) (.ret))))
theorem Zz3:Zh tab 189 (Tryz.f189.body.getD .skip)=S189:=by kernel_rfl
theorem Yb3 {xs:List V} {H:Hp} {Q P:V->Hp->Prop} (h:WCr tab P S189 (frame xs 0 .nil) H (resQ tab [.cell 2 35] Q)):WR tab 189 xs H Q P:=WR.of_slim (T:=tab) (f:=189) rfl Yfs rfl Zz3 rfl h
abbrev Z5l:List SOp:=[(some 4,.assign (.const (.slice none 0 0)),none)]
abbrev Z5y:List SOp:=[(some 5,.assign (.const (.slice none 0 0)),none)]
abbrev Ztu:List SOp:=[(some 6,.move (.tmp 0),none),
 (some 7,.move (.tmp 1),none),
 (some 8,.call ⟨.value (.func 76),#[(.tmp 6),(.tmp 7)],#[90,9]⟩,none),
 (some 9,.unOp .not 4 (.tmp 8),none)]
abbrev Zqs:List SOp:=[(some 10,.move (.tmp 5),none),
 (some 11,.call ⟨.builtin .len,#[(.tmp 10)],#[28]⟩,none),
 (some 12,.binOp .gtr 3 (.tmp 11) (.const (.int .i64 0)) 3,none)]
abbrev Ztq:List SOp:=[(some 13,.move (.tmp 0),none),
 (some 14,.call ⟨.value (.func 78),#[(.tmp 13),(.const (.string ⟨#[0x2c]⟩))],#[90,9]⟩,none)]
abbrev Zu4:List SOp:=[(some 15,.move (.tmp 5),none),
 (some 16,.move (.tmp 0),none),
 (some 17,.call ⟨.value (.func 77),#[(.tmp 16)],#[90]⟩,none),
 (some 18,.buildSlice 28 1 #[(0,(.tmp 17))],none),
 (some 19,.call ⟨.builtin .append,#[(.tmp 15),(.tmp 18)],#[28,28]⟩,none),
 (some 5,.assign (.tmp 19),none)]
def Z4x:SCode:=.seq (.seq (.reg Ztu) (.cond (.tmp 9) (.skip) (.exit 0))) (.block 1 (.seq (.seq (.reg Zqs) (.cond (.tmp 12) (.reg Ztq) (.skip))) (.reg Zu4)))
abbrev Z4h:List SOp:=[(some 20,.move (.tmp 5),none),
 (some 4,.assign (.tmp 20),none)]
abbrev S190:SCode:=.seq (.reg Z5l) (.seq (.reg Z5y) (.seq (.block 0 (.loop Z4x)) (.seq (.reg Z4h) (.ret))))
theorem Zzt:Zh tab 190 (Tryz.f190.body.getD .skip)=S190:=by kernel_rfl
theorem Yb2 {xs:List V} {H:Hp} {Q P:V->Hp->Prop} (h:WCr tab P S190 (frame xs 0 .nil) H (resQ tab [.tmp 4] Q)):WR tab 190 xs H Q P:=WR.of_slim (T:=tab) (f:=190) rfl Yfy rfl Zzt rfl h
abbrev Z2o:List SOp:=[(some 2,.alloc 35,none)]
abbrev Z4d:List SOp:=[(some 5,.build 35 #[(0,(.const (.int .i64 16)))],none),
 (some 3,.alloc 35,none),
 (none,.store 35 (.tmp 3) (.tmp 5),none)]
abbrev Zsi:List SOp:=[(some 6,.move (.tmp 0),none),
 (some 7,.call ⟨.value (.func 76),#[(.tmp 6),(.const (.string ⟨#[0x7d]⟩))],#[90,9]⟩,none),
 (some 8,.unOp .not 4 (.tmp 7),none)]
abbrev Zq0:List SOp:=[(some 9,.fieldAddr 35 (.tmp 3) 3,none),
 (some 10,.load 28 (.tmp 9),none),
 (some 11,.call ⟨.builtin .len,#[(.tmp 10)],#[28]⟩,none),
 (some 12,.binOp .gtr 3 (.tmp 11) (.const (.int .i64 0)) 3,none)]
abbrev Zu1:List SOp:=[(some 13,.move (.tmp 0),none),
 (some 14,.call ⟨.value (.func 78),#[(.tmp 13),(.const (.string ⟨#[0x2c]⟩))],#[90,9]⟩,none)]
abbrev Ztw:List SOp:=[(some 15,.build 35 #[(0,(.const (.int .i64 4)))],none),
 (some 4,.alloc 35,none),
 (none,.store 35 (.tmp 4) (.tmp 15),none)]
abbrev Ztx:List SOp:=[(some 16,.move (.tmp 0),none),
 (some 17,.call ⟨.value (.func 76),#[(.tmp 16),(.const (.string ⟨#[0x5b]⟩))],#[90,9]⟩,none)]
abbrev Ztn:List SOp:=[(some 18,.move (.tmp 0),none),
 (some 19,.call ⟨.value (.func 77),#[(.tmp 18)],#[90]⟩,none),
 (none,.store 35 (.tmp 4) (.tmp 19),none)]
abbrev Zq8:List SOp:=[(some 20,.move (.tmp 0),none),
 (some 21,.call ⟨.value (.func 78),#[(.tmp 20),(.const (.string ⟨#[0x5d]⟩))],#[90,9]⟩,none)]
abbrev Zta:List SOp:=[(some 22,.move (.tmp 0),none),
 (some 23,.call ⟨.value (.func 79),#[(.tmp 22)],#[90]⟩,none),
 (some 24,.fieldAddr 35 (.tmp 4) 2,none),
 (none,.store 9 (.tmp 24) (.tmp 23),none)]
abbrev Zod:List SOp:=[(some 25,.move (.tmp 0),none),
 (some 26,.call ⟨.value (.func 78),#[(.tmp 25),(.const (.string ⟨#[0x3a]⟩))],#[90,9]⟩,none)]
abbrev Zoq:List (SOp×Nat):=[((some 30,.move (.tmp 0),none),0),
 ((some 31,.call ⟨.value (.func 77),#[(.tmp 30)],#[90]⟩,none),0),
 ((some 27,.fieldAddr 35 (.tmp 3) 3,none),1),
 ((some 28,.load 28 (.tmp 27),none),1),
 ((some 29,.load 35 (.tmp 4),none),1),
 ((some 32,.buildSlice 28 2 #[(0,(.tmp 29)),(1,(.tmp 31))],none),0),
 ((some 33,.call ⟨.builtin .append,#[(.tmp 28),(.tmp 32)],#[28,28]⟩,none),0),
 ((some 34,.fieldAddr 35 (.tmp 3) 3,none),0),
 ((none,.store 28 (.tmp 34) (.tmp 33),none),0)]
def Z4k:SCode:=.seq (.seq (.reg Zsi) (.cond (.tmp 8) (.skip) (.exit 0))) (.block 1 (.seq (.seq (.reg Zq0) (.cond (.tmp 12) (.reg Zu1) (.skip))) (.seq (.reg Ztw) (.seq (.seq (.reg Ztx) (.cond (.tmp 17) (.seq (.reg Ztn) (.reg Zq8)) (.reg Zta))) (.seq (.reg Zod) (.dreg Zoq))))))
abbrev Z07:List SOp:=[(some 35,.load 35 (.tmp 3),none),
 (none,.store 35 (.tmp 2) (.tmp 35),none)]
abbrev S199:SCode:=.seq (.reg Z2o) (.seq (.reg Z4d) (.seq (.block 0 (.loop Z4k)) (.seq (.reg Z07) (.ret))))
theorem Z0l:Zh tab 199 (Tryz.f199.body.getD .skip)=S199:=by kernel_rfl
theorem Ye5 {xs:List V} {H:Hp} {Q P:V->Hp->Prop} (h:WCr tab P S199 (frame xs 0 .nil) H (resQ tab [.cell 2 35] Q)):WR tab 199 xs H Q P:=WR.of_slim (T:=tab) (f:=199) rfl Yfp rfl Z0l rfl h
abbrev Z4z:List SOp:=[(some 2,.alloc 35,none)]
abbrev Z4t:List SOp:=[(some 4,.build 35 #[(0,(.const (.int .i64 17)))],none),
 (some 3,.alloc 35,none),
 (none,.store 35 (.tmp 3) (.tmp 4),none)]
abbrev Z30:List SOp:=[(some 5,.move (.tmp 0),none),
 (some 6,.call ⟨.value (.func 78),#[(.tmp 5),(.const (.string ⟨#[0x28]⟩))],#[90,9]⟩,none)]
abbrev Zte:List SOp:=[(some 7,.move (.tmp 0),none),
 (some 8,.call ⟨.value (.func 76),#[(.tmp 7),(.const (.string ⟨#[0x29]⟩))],#[90,9]⟩,none),
 (some 9,.unOp .not 4 (.tmp 8),none)]
abbrev Zug:List SOp:=[(some 10,.fieldAddr 35 (.tmp 3) 4,none),
 (some 11,.load 33 (.tmp 10),none),
 (some 12,.call ⟨.builtin .len,#[(.tmp 11)],#[33]⟩,none),
 (some 13,.binOp .gtr 3 (.tmp 12) (.const (.int .i64 0)) 3,none)]
abbrev Zuo:List SOp:=[(some 14,.move (.tmp 0),none),
 (some 15,.call ⟨.value (.func 78),#[(.tmp 14),(.const (.string ⟨#[0x2c]⟩))],#[90,9]⟩,none)]
abbrev Zsb:List (SOp×Nat):=[((some 18,.move (.tmp 0),none),0),
 ((some 19,.call ⟨.value (.func 79),#[(.tmp 18)],#[90]⟩,none),0),
 ((some 16,.fieldAddr 35 (.tmp 3) 4,none),1),
 ((some 17,.load 33 (.tmp 16),none),1),
 ((some 20,.buildSlice 33 1 #[(0,(.tmp 19))],none),0),
 ((some 21,.call ⟨.builtin .append,#[(.tmp 17),(.tmp 20)],#[33,33]⟩,none),0),
 ((some 22,.fieldAddr 35 (.tmp 3) 4,none),0),
 ((none,.store 33 (.tmp 22) (.tmp 21),none),0)]
def Z2v:SCode:=.seq (.seq (.reg Zte) (.cond (.tmp 9) (.skip) (.exit 0))) (.block 1 (.seq (.seq (.reg Zug) (.cond (.tmp 13) (.reg Zuo) (.skip))) (.dreg Zsb)))
abbrev Z3y:List SOp:=[(some 23,.move (.tmp 0),none),
 (some 24,.call ⟨.value (.func 80),#[(.tmp 23)],#[90]⟩,none),
 (some 25,.fieldAddr 35 (.tmp 3) 5,none),
 (none,.store 24 (.tmp 25) (.tmp 24),none)]
abbrev Z6c:List SOp:=[(some 26,.load 35 (.tmp 3),none),
 (none,.store 35 (.tmp 2) (.tmp 26),none)]
abbrev S200:SCode:=.seq (.reg Z4z) (.seq (.reg Z4t) (.seq (.reg Z30) (.seq (.block 0 (.loop Z2v)) (.seq (.reg Z3y) (.seq (.reg Z6c) (.ret))))))
theorem Z0a:Zh tab 200 (Tryz.f200.body.getD .skip)=S200:=by kernel_rfl
theorem Ygo {xs:List V} {H:Hp} {Q P:V->Hp->Prop} (h:WCr tab P S200 (frame xs 0 .nil) H (resQ tab [.cell 2 35] Q)):WR tab 200 xs H Q P:=WR.of_slim (T:=tab) (f:=200) rfl Ydk rfl Z0a rfl h
abbrev Z76:List SOp:=[(some 2,.assign (.const (.slice none 0 0)),none)]
abbrev Ye8:List SOp:=[(some 4,.move (.tmp 0),none),
 (some 5,.call ⟨.value (.func 78),#[(.tmp 4),(.const (.string ⟨#[0x7b]⟩))],#[90,9]⟩,none)]
abbrev Yba:List SOp:=[(some 6,.move (.tmp 0),none),
 (some 7,.call ⟨.value (.func 118),#[(.tmp 6)],#[90]⟩,none)]
abbrev Yee:List SOp:=[(some 3,.assign (.const (.slice none 0 0)),none)]
abbrev Yah:List SOp:=[(some 8,.move (.tmp 0),none),
 (some 9,.call ⟨.value (.func 76),#[(.tmp 8),(.const (.string ⟨#[0x7d]⟩))],#[90,9]⟩,none),
 (some 10,.unOp .not 4 (.tmp 9),none)]
abbrev Z7v:List SOp:=[(some 11,.move (.tmp 3),none),
 (some 12,.move (.tmp 0),none),
 (some 13,.call ⟨.value (.func 53),#[(.tmp 12)],#[90]⟩,none),
 (some 14,.buildSlice 24 1 #[(0,(.tmp 13))],none),
 (some 15,.call ⟨.builtin .append,#[(.tmp 11),(.tmp 14)],#[24,24]⟩,none),
 (some 3,.assign (.tmp 15),none)]
def Zxz:SCode:=.seq (.seq (.reg Yah) (.cond (.tmp 10) (.skip) (.exit 0))) (.block 1 (.reg Z7v))
abbrev Z7m:List SOp:=[(some 16,.move (.tmp 0),none),
 (some 17,.nilCheck (.tmp 16),none),
 (some 18,.fieldAddr 92 (.tmp 17) 1,none),
 (some 19,.load 3 (.tmp 18),none),
 (some 20,.binOp .sub 3 (.tmp 19) (.const (.int .i64 1)) 3,none),
 (some 21,.nilCheck (.tmp 16),none),
 (some 22,.fieldAddr 92 (.tmp 21) 1,none),
 (none,.store 3 (.tmp 22) (.tmp 20),none)]
abbrev Ya1:List SOp:=[(some 23,.move (.tmp 3),none),
 (some 2,.assign (.tmp 23),none)]
abbrev S80:SCode:=.seq (.reg Z76) (.seq (.reg Ye8) (.seq (.reg Yba) (.seq (.reg Yee) (.seq (.block 0 (.loop Zxz)) (.seq (.reg Z7m) (.seq (.reg Ya1) (.ret)))))))
theorem Z63:Zh tab 80 (Tryz.f80.body.getD .skip)=S80:=by kernel_rfl
theorem wr80 {xs:List V} {H:Hp} {Q P:V->Hp->Prop} (h:WCr tab P S80 (frame xs 0 .nil) H (resQ tab [.tmp 2] Q)):WR tab 80 xs H Q P:=WR.of_slim (T:=tab) (f:=80) rfl fn80 rfl Z63 rfl h
abbrev Zxt:List SOp:=[(some 2,.alloc 30,none)]
abbrev Zxu:List SOp:=[(some 6,.move (.tmp 0),none),
 (some 7,.nilCheck (.tmp 6),none),
 (some 8,.fieldAddr 92 (.tmp 7) 0,none),
 (some 9,.load 84 (.tmp 8),none),
 (some 10,.indexAddr 84 (.tmp 9) (.const (.int .i64 0)),none),
 (some 11,.fieldAddr 95 (.tmp 10) 3,none),
 (some 12,.load 3 (.tmp 11),none),
 (some 13,.build 30 #[(5,(.tmp 12))],none),
 (some 3,.alloc 30,none),
 (none,.store 30 (.tmp 3) (.tmp 13),none)]
abbrev Zxy:List SOp:=[(some 14,.load 122 (.global 2),none),
 (some 15,.move (.const (.int .i64 0)),none)]
abbrev Zxv:List SOp:=[(some 16,.binOp .lss 3 (.tmp 15) (.const (.int .i64 2)) 3,none)]
abbrev Zxo:List SOp:=[(some 17,.index 122 (.tmp 14) (.tmp 15),none),
 (some 5,.alloc 121,none),
 (none,.store 121 (.tmp 5) (.tmp 17),none)]
abbrev Zyt:List SOp:=[(some 18,.move (.tmp 0),none),
 (some 19,.fieldAddr 121 (.tmp 5) 0,none),
 (some 20,.load 9 (.tmp 19),none),
 (some 21,.call ⟨.value (.func 76),#[(.tmp 18),(.tmp 20)],#[90,9]⟩,none)]
abbrev Zyf:List (SOp×Nat):=[((some 24,.move (.tmp 0),none),0),
 ((some 25,.call ⟨.value (.func 77),#[(.tmp 24)],#[90]⟩,none),0),
 ((some 22,.fieldAddr 121 (.tmp 5) 1,none),1),
 ((some 23,.load 27 (.tmp 22),none),1),
 ((some 27,.fieldAddr 30 (.tmp 3) 0,none),0),
 ((none,.store 27 (.tmp 27) (.tmp 23),none),0),
 ((some 26,.buildSlice 28 1 #[(0,(.tmp 25))],none),1),
 ((some 28,.fieldAddr 30 (.tmp 3) 2,none),0),
 ((none,.store 28 (.tmp 28) (.tmp 26),none),0)]
abbrev Zx4:List SOp:=[(some 29,.move (.tmp 0),none),
 (some 30,.call ⟨.value (.func 78),#[(.tmp 29),(.const (.string ⟨#[0x3b]⟩))],#[90,9]⟩,none)]
abbrev Zxw:List SOp:=[(some 31,.load 30 (.tmp 3),none),
 (none,.store 30 (.tmp 2) (.tmp 31),none)]
abbrev Zyh:List SOp:=[(some 32,.binOp .add 3 (.tmp 15) (.const (.int .i64 1)) 3,none),
 (some 15,.move (.tmp 32),none)]
def Yfw:SCode:=.seq (.reg Zxv) (.seq (.cond (.tmp 16) (.skip) (.exit 0)) (.seq (.block 1 (.seq (.reg Zxo) (.seq (.reg Zyt) (.cond (.tmp 21) (.seq (.dreg Zyf) (.seq (.reg Zx4) (.seq (.reg Zxw) (.ret)))) (.skip))))) (.reg Zyh)))
abbrev Zur:List SOp:=[(some 36,.move (.tmp 0),none),
 (some 37,.call ⟨.value (.func 76),#[(.tmp 36),(.const (.string ⟨#[0x6c,0x65,0x74]⟩))],#[90,9]⟩,none),
 (some 35,.assign (.tmp 37),none)]
abbrev Zu2:List SOp:=[(some 38,.move (.tmp 0),none),
 (some 39,.call ⟨.value (.func 79),#[(.tmp 38)],#[90]⟩,none),
 (some 40,.fieldAddr 30 (.tmp 3) 1,none),
 (none,.store 9 (.tmp 40) (.tmp 39),none)]
abbrev Zr3:List SOp:=[(some 41,.move (.tmp 0),none),
 (some 42,.call ⟨.value (.func 78),#[(.tmp 41),(.const (.string ⟨#[0x3d]⟩))],#[90,9]⟩,none)]
abbrev Zt2:List SOp:=[(some 43,.move (.tmp 0),none),
 (some 44,.call ⟨.value (.func 77),#[(.tmp 43)],#[90]⟩,none),
 (some 45,.buildSlice 28 1 #[(0,(.tmp 44))],none),
 (some 46,.fieldAddr 30 (.tmp 3) 2,none),
 (none,.store 28 (.tmp 46) (.tmp 45),none)]
abbrev Zq7:List SOp:=[(some 47,.move (.tmp 0),none),
 (some 48,.call ⟨.value (.func 78),#[(.tmp 47),(.const (.string ⟨#[0x3b]⟩))],#[90,9]⟩,none)]
abbrev Zum:List SOp:=[(some 50,.move (.tmp 0),none),
 (some 51,.call ⟨.value (.func 76),#[(.tmp 50),(.const (.string ⟨#[0x69,0x66]⟩))],#[90,9]⟩,none),
 (some 49,.assign (.tmp 51),none)]
abbrev Zto:List SOp:=[(some 52,.move (.tmp 0),none),
 (some 53,.call ⟨.value (.func 77),#[(.tmp 52)],#[90]⟩,none),
 (some 54,.buildSlice 28 1 #[(0,(.tmp 53))],none),
 (some 55,.fieldAddr 30 (.tmp 3) 0,none),
 (none,.store 27 (.tmp 55) (.const (.int .i64 3)),none),
 (some 56,.fieldAddr 30 (.tmp 3) 2,none),
 (none,.store 28 (.tmp 56) (.tmp 54),none)]
abbrev Zsr:List SOp:=[(some 57,.move (.tmp 0),none),
 (some 58,.call ⟨.value (.func 80),#[(.tmp 57)],#[90]⟩,none),
 (some 59,.fieldAddr 30 (.tmp 3) 3,none),
 (none,.store 24 (.tmp 59) (.tmp 58),none)]
abbrev Zrw:List SOp:=[(some 60,.move (.tmp 0),none),
 (some 61,.call ⟨.value (.func 76),#[(.tmp 60),(.const (.string ⟨#[0x65,0x6c,0x73,0x65]⟩))],#[90,9]⟩,none)]
abbrev Zue:List SOp:=[(some 62,.move (.tmp 0),none),
 (some 63,.call ⟨.value (.func 80),#[(.tmp 62)],#[90]⟩,none),
 (some 64,.fieldAddr 30 (.tmp 3) 4,none),
 (none,.store 24 (.tmp 64) (.tmp 63),none)]
abbrev Zrz:List SOp:=[(some 66,.move (.tmp 0),none),
 (some 67,.call ⟨.value (.func 76),#[(.tmp 66),(.const (.string ⟨#[0x77,0x68,0x69,0x6c,0x65]⟩))],#[90,9]⟩,none),
 (some 65,.assign (.tmp 67),none)]
abbrev Zud:List SOp:=[(some 68,.move (.tmp 0),none),
 (some 69,.call ⟨.value (.func 77),#[(.tmp 68)],#[90]⟩,none),
 (some 70,.buildSlice 28 1 #[(0,(.tmp 69))],none),
 (some 71,.fieldAddr 30 (.tmp 3) 0,none),
 (none,.store 27 (.tmp 71) (.const (.int .i64 4)),none),
 (some 72,.fieldAddr 30 (.tmp 3) 2,none),
 (none,.store 28 (.tmp 72) (.tmp 70),none)]
abbrev Zus:List SOp:=[(some 73,.move (.tmp 0),none),
 (some 74,.call ⟨.value (.func 80),#[(.tmp 73)],#[90]⟩,none),
 (some 75,.fieldAddr 30 (.tmp 3) 3,none),
 (none,.store 24 (.tmp 75) (.tmp 74),none)]
abbrev Zro:List SOp:=[(some 77,.move (.tmp 0),none),
 (some 78,.call ⟨.value (.func 76),#[(.tmp 77),(.const (.string ⟨#[0x74,0x72,0x79]⟩))],#[90,9]⟩,none),
 (some 76,.assign (.tmp 78),none)]
abbrev Zre:List SOp:=[(some 79,.move (.tmp 0),none),
 (some 80,.call ⟨.value (.func 80),#[(.tmp 79)],#[90]⟩,none),
 (some 81,.fieldAddr 30 (.tmp 3) 0,none),
 (none,.store 27 (.tmp 81) (.const (.int .i64 7)),none),
 (some 82,.fieldAddr 30 (.tmp 3) 3,none),
 (none,.store 24 (.tmp 82) (.tmp 80),none)]
abbrev Zqu:List SOp:=[(some 83,.move (.tmp 0),none),
 (some 84,.call ⟨.value (.func 78),#[(.tmp 83),(.const (.string ⟨#[0x63,0x61,0x74,0x63,0x68]⟩))],#[90,9]⟩,none)]
abbrev Zqg:List SOp:=[(some 85,.move (.tmp 0),none),
 (some 86,.call ⟨.value (.func 79),#[(.tmp 85)],#[90]⟩,none),
 (some 87,.fieldAddr 30 (.tmp 3) 1,none),
 (none,.store 9 (.tmp 87) (.tmp 86),none)]
abbrev Ztp:List SOp:=[(some 88,.move (.tmp 0),none),
 (some 89,.call ⟨.value (.func 80),#[(.tmp 88)],#[90]⟩,none),
 (some 90,.fieldAddr 30 (.tmp 3) 4,none),
 (none,.store 24 (.tmp 90) (.tmp 89),none)]
abbrev Ztj:List SOp:=[(some 33,.move (.tmp 0),none),
 (some 34,.call ⟨.value (.func 81),#[(.tmp 33),(.tmp 3)],#[90,127]⟩,none)]
abbrev Zss:List SOp:=[(some 91,.load 30 (.tmp 3),none),
 (none,.store 30 (.tmp 2) (.tmp 91),none)]
abbrev S53:SCode:=.seq (.reg Zxt) (.seq (.reg Zxu) (.seq (.seq (.reg Zxy) (.block 0 (.loop Yfw))) (.seq (.block 2 (.seq (.reg Zur) (.cond (.tmp 35) (.seq (.reg Zu2) (.seq (.reg Zr3) (.seq (.reg Zt2) (.reg Zq7)))) (.seq (.reg Zum) (.cond (.tmp 49) (.seq (.reg Zto) (.seq (.reg Zsr) (.seq (.reg Zrw) (.cond (.tmp 61) (.reg Zue) (.skip))))) (.seq (.reg Zrz) (.cond (.tmp 65) (.seq (.reg Zud) (.reg Zus)) (.seq (.reg Zro) (.cond (.tmp 76) (.seq (.reg Zre) (.seq (.reg Zqu) (.seq (.reg Zqg) (.reg Ztp)))) (.reg Ztj)))))))))) (.seq (.reg Zss) (.ret)))))
theorem Z5s:Zh tab 53 (Tryz.f53.body.getD .skip)=S53:=by kernel_rfl
theorem wr53 {xs:List V} {H:Hp} {Q P:V->Hp->Prop} (h:WCr tab P S53 (frame xs 0 .nil) H (resQ tab [.cell 2 30] Q)):WR tab 53 xs H Q P:=WR.of_slim (T:=tab) (f:=53) rfl fn53 rfl Z5s rfl h
abbrev Zxn:List SOp:=[(some 7,.move (.tmp 0),none),
 (some 8,.nilCheck (.tmp 7),none),
 (some 9,.fieldAddr 92 (.tmp 8) 0,none),
 (some 10,.load 84 (.tmp 9),none),
 (some 4,.assign (.tmp 10),none)]
abbrev Zyk:List SOp:=[(some 11,.move (.tmp 0),none),
 (some 12,.call ⟨.value (.func 77),#[(.tmp 11)],#[90]⟩,none),
 (some 5,.alloc 35,none),
 (none,.store 35 (.tmp 5) (.tmp 12),none)]
abbrev Zye:List (SOp×Nat):=[((some 13,.move (.tmp 1),none),0),
 ((some 17,.nilCheck (.tmp 13),none),0),
 ((some 18,.fieldAddr 30 (.tmp 17) 0,none),0),
 ((none,.store 27 (.tmp 18) (.const (.int .i64 8)),none),0),
 ((some 14,.move (.tmp 1),none),1),
 ((some 15,.load 35 (.tmp 5),none),1),
 ((some 16,.buildSlice 28 1 #[(0,(.tmp 15))],none),1),
 ((some 19,.nilCheck (.tmp 14),none),0),
 ((some 20,.fieldAddr 30 (.tmp 19) 2,none),0),
 ((none,.store 28 (.tmp 20) (.tmp 16),none),0)]
abbrev Zyi:List SOp:=[(some 21,.move (.tmp 0),none),
 (some 22,.nilCheck (.tmp 21),none),
 (some 23,.fieldAddr 92 (.tmp 22) 0,none),
 (some 24,.load 84 (.tmp 23),none),
 (some 25,.indexAddr 84 (.tmp 24) (.const (.int .i64 0)),none),
 (some 26,.fieldAddr 95 (.tmp 25) 0,none),
 (some 27,.load 93 (.tmp 26),none),
 (some 28,.binOp .eql 93 (.tmp 27) (.const (.int .i64 4)) 93,none),
 (some 29,.move (.tmp 28),none),
 (some 30,.move (.tmp 0),some (some 29,true)),
 (some 31,.nilCheck (.tmp 30),some (some 29,true)),
 (some 32,.fieldAddr 92 (.tmp 31) 0,some (some 29,true)),
 (some 33,.load 84 (.tmp 32),some (some 29,true)),
 (some 34,.indexAddr 84 (.tmp 33) (.const (.int .i64 0)),some (some 29,true)),
 (some 35,.fieldAddr 95 (.tmp 34) 1,some (some 29,true)),
 (some 36,.load 9 (.tmp 35),some (some 29,true)),
 (some 37,.binOp .eql 9 (.tmp 36) (.const (.string ⟨#[0x3d]⟩)) 9,some (some 29,true)),
 (some 38,.pick (.tmp 29) (.tmp 37) (.const (.bool false)),none)]
abbrev Zxg:List SOp:=[(some 39,.fieldAddr 35 (.tmp 5) 0,none),
 (some 40,.load 32 (.tmp 39),none)]
abbrev Zy2:List SOp:=[(some 48,.binOp .eql 32 (.tmp 40) (.const (.int .i64 5)) 32,none),
 (some 47,.assign (.tmp 48),none)]
abbrev Zxh:List (SOp×Nat):=[((some 49,.move (.tmp 1),none),0),
 ((some 53,.nilCheck (.tmp 49),none),0),
 ((some 54,.fieldAddr 30 (.tmp 53) 0,none),0),
 ((none,.store 27 (.tmp 54) (.const (.int .i64 1)),none),0),
 ((some 50,.move (.tmp 1),none),1),
 ((some 51,.fieldAddr 35 (.tmp 5) 2,none),1),
 ((some 52,.load 9 (.tmp 51),none),1),
 ((some 55,.nilCheck (.tmp 50),none),0),
 ((some 56,.fieldAddr 30 (.tmp 55) 1,none),0),
 ((none,.store 9 (.tmp 56) (.tmp 52),none),0)]
abbrev Zy3:List SOp:=[(some 58,.binOp .eql 32 (.tmp 40) (.const (.int .i64 14)) 32,none),
 (some 57,.assign (.tmp 58),none)]
abbrev Zup:List SOp:=[(some 59,.move (.tmp 1),none),
 (some 60,.nilCheck (.tmp 59),none),
 (some 61,.fieldAddr 30 (.tmp 60) 0,none),
 (none,.store 27 (.tmp 61) (.const (.int .i64 2)),none)]
abbrev Zyc:List SOp:=[(some 41,.move (.tmp 0),none),
 (some 42,.move (.tmp 4),none),
 (some 43,.nilCheck (.tmp 41),none),
 (some 44,.fieldAddr 92 (.tmp 43) 0,none),
 (none,.store 84 (.tmp 44) (.tmp 42),none)]
abbrev Zyn:List SOp:=[(some 45,.move (.tmp 0),none),
 (some 46,.call ⟨.value (.func 120),#[(.tmp 45),(.const (.int .i64 7))],#[90,47]⟩,none)]
abbrev Zt4:List SOp:=[(some 62,.move (.tmp 0),none),
 (some 63,.call ⟨.value (.func 78),#[(.tmp 62),(.const (.string ⟨#[0x3d]⟩))],#[90,9]⟩,none)]
abbrev Zrp:List SOp:=[(some 64,.move (.tmp 0),none),
 (some 65,.call ⟨.value (.func 77),#[(.tmp 64)],#[90]⟩,none),
 (some 6,.alloc 35,none),
 (none,.store 35 (.tmp 6) (.tmp 65),none)]
abbrev Zu3:List SOp:=[(some 66,.move (.tmp 1),none),
 (some 67,.load 35 (.tmp 6),none),
 (some 68,.buildSlice 28 1 #[(0,(.tmp 67))],none),
 (some 69,.nilCheck (.tmp 66),none),
 (some 70,.fieldAddr 30 (.tmp 69) 2,none),
 (none,.store 28 (.tmp 70) (.tmp 68),none)]
abbrev Zuz:List SOp:=[(some 71,.move (.tmp 1),none),
 (some 72,.nilCheck (.tmp 71),none),
 (some 73,.fieldAddr 30 (.tmp 72) 0,none),
 (some 74,.load 27 (.tmp 73),none),
 (some 75,.binOp .eql 27 (.tmp 74) (.const (.int .i64 2)) 27,none)]
abbrev Zrr:List (SOp×Nat):=[((some 77,.buildSlice 28 0 #[],none),0),
 ((some 78,.fieldAddr 35 (.tmp 5) 3,none),0),
 ((some 79,.load 28 (.tmp 78),none),0),
 ((some 80,.call ⟨.builtin .append,#[(.tmp 77),(.tmp 79)],#[28,28]⟩,none),0),
 ((some 81,.load 35 (.tmp 6),none),1),
 ((some 82,.buildSlice 28 1 #[(0,(.tmp 81))],none),1),
 ((some 83,.call ⟨.builtin .append,#[(.tmp 80),(.tmp 82)],#[28,28]⟩,none),0),
 ((some 76,.move (.tmp 1),none),2),
 ((some 84,.nilCheck (.tmp 76),none),0),
 ((some 85,.fieldAddr 30 (.tmp 84) 2,none),0),
 ((none,.store 28 (.tmp 85) (.tmp 83),none),0)]
abbrev Zqn:List SOp:=[(some 86,.move (.tmp 0),none),
 (some 87,.call ⟨.value (.func 78),#[(.tmp 86),(.const (.string ⟨#[0x3b]⟩))],#[90,9]⟩,none)]
abbrev S81:SCode:=.seq (.reg Zxn) (.seq (.reg Zyk) (.seq (.dreg Zye) (.seq (.seq (.reg Zyi) (.cond (.tmp 38) (.seq (.seq (.reg Zxg) (.block 0 (.seq (.reg Zy2) (.cond (.tmp 47) (.dreg Zxh) (.seq (.reg Zy3) (.cond (.tmp 57) (.reg Zup) (.seq (.reg Zyc) (.reg Zyn)))))))) (.seq (.reg Zt4) (.seq (.reg Zrp) (.seq (.reg Zu3) (.seq (.reg Zuz) (.cond (.tmp 75) (.dreg Zrr) (.skip))))))) (.skip))) (.reg Zqn))))
theorem Z4b:Zh tab 81 (Tryz.f81.body.getD .skip)=S81:=by kernel_rfl
theorem wr81 {xs:List V} {H:Hp} {Q P:V->Hp->Prop} (h:WCr tab P S81 (frame xs 0 .nil) H (resQ tab [] Q)):WR tab 81 xs H Q P:=WR.of_slim (T:=tab) (f:=81) rfl fn81 rfl Z4b rfl h
end Go.AM.YtlillgmgpmbfnaaGreatDoorT
namespace Go.AM.YtlillgmgpmbfnaaGreatDoorT
open Go Go.AM
end Go.AM.YtlillgmgpmbfnaaGreatDoorT
namespace Go.AM
open Go
section
variable {T:Tab}
end
theorem Zp {b n:Nat} (h:b < n):((b=n)=False/\(n=b)=False)/\((b=n+1)=False/\(n+1=b)=False)/\((b=n+1+1)=False/\(n+1+1=b)=False)/\((b=n+1+1+1)=False/\(n+1+1+1=b)=False)/\((b=n+1+1+1+1)=False/\(n+1+1+1+1=b)=False)/\((b=n+1+1+1+1+1)=False/\(n+1+1+1+1+1=b)=False):=by
 simp only [eq_iff_iff,iff_false];omega
theorem Zi {b c:Nat} (h:b≠c):(b=c)=False/\(c=b)=False:=by
 simp only [eq_iff_iff,iff_false];omega
theorem Ext.putX {X:Nat->Prop} {H H1:Hp} (h:Ext X H H1) {b:Nat} (o:Ob) (hb:X b\/H.next<=b):Ext X H (H1.put b o) :=
 ⟨h.st,h.le,fun c hc hx=>by
  rw [Zf o (fun e=>by subst e;exact hb.elim hx (fun h=>absurd hc (Nat.not_lt.2 h)))];exact h.get c hc hx⟩
inductive Tx where
 | ex (op:Nat) (num:Int) (text:List UInt8) (parts:List Tx) (params:List (List UInt8)) (body:List Tx)
 | st (kind:Nat) (name:List UInt8) (exprs body els:List Tx) (at_:Int)
def Ya (K:Nat->Prop) (H:Hp) (z n:Nat) (v:V) (P:List V->Prop):Prop :=
 (v = .nils\/v = .sle)/\n=0\/∃ b off cap e ro cells,v = .sl b off n cap z/\H.get b=some (.row e z ro cells)/\K b/\b < H.next/\off % z=0/\off+n*z<=cells.length/\P (cells.drop off)/\∀ c,cap=some c->n<=c
mutual
def Ze (K:Nat->Prop) (H:Hp):Tx->List V->Prop
 | .ex op num text parts params body,cs=>∃ vp vq vb,cs=[.int .i64 op,.int .i64 num,.str text,vp,vq,vb]/\Ya K H 6 parts.length vp (ElsAt K H parts)/\Ya K H 1 params.length vq (fun cs=>cs.take params.length=params.map .str)/\Ya K H 6 body.length vb (ElsAt K H body)
 | .st kind name es b e at_,cs=>∃ ve vb vl,cs=[.int .i64 kind,.str name,ve,vb,vl,.int .i64 at_]/\Ya K H 6 es.length ve (ElsAt K H es)/\Ya K H 6 b.length vb (ElsAt K H b)/\Ya K H 6 e.length vl (ElsAt K H e)
def ElsAt (K:Nat->Prop) (H:Hp):List Tx->List V->Prop
 | [],_=>True
 | x :: r,cs=>Ze K H x (cs.take 6)/\ElsAt K H r (cs.drop 6)
end
abbrev Zk (K:Nat->Prop) (H:Hp) (l:List Tx) (v:V):Prop:=Ya K H 6 l.length v (ElsAt K H l)
abbrev Z0 (K:Nat->Prop) (H:Hp) (l:List (List UInt8)) (v:V):Prop:=Ya K H 1 l.length v (fun cs=>cs.take l.length=l.map .str)
structure Stays (K K' : Nat->Prop) (H H' : Hp):Prop where
 k:∀ b,K b->b < H.next->K' b
 get:∀ b,K b->b < H.next->H'.get b=H.get b
 le:H.next<=H'.next
theorem Stays.refl (K:Nat->Prop) (H:Hp):Stays K K H H:=⟨fun _ h _=>h,fun _ _ _=>rfl,Nat.le_refl _⟩
theorem Stays.trans {K K1 K2:Nat->Prop} {H H1 H2:Hp} (h:Stays K K1 H H1) (h' : Stays K1 K2 H1 H2):Stays K K2 H H2 :=
 ⟨fun b hb hl=>h'.k b (h.k b hb hl) (Nat.lt_of_lt_of_le hl h.le),fun b hb hl=>(h'.get b (h.k b hb hl) (Nat.lt_of_lt_of_le hl h.le)).trans (h.get b hb hl),Nat.le_trans h.le h'.le⟩
theorem Ext.stays {X K K' : Nat->Prop} {H H' : Hp} (h:Ext X H H') (hx:∀ b,K b->b < H.next->¬ X b) (hk:∀ b,K b->b < H.next->K' b):Stays K K' H H':=⟨hk,fun b hb hl=>h.get b hl (hx b hb hl),h.le⟩
theorem Ya.mono {K K' : Nat->Prop} {H H' : Hp} {z n:Nat} {v:V} {P P' : List V->Prop} (h:Ya K H z n v P) (hS:Stays K K' H H') (hP:∀ cs,P cs->P' cs):Ya K' H' z n v P':=by
 rcases h with h | ⟨b,off,cap,e,ro,cells,h1,h2,h3,h4,h5,h6,h7,h8⟩
 ·exact .inl h
 ·exact .inr ⟨b,off,cap,e,ro,cells,h1,by rw [hS.get b h3 h4];exact h2,hS.k b h3 h4,Nat.lt_of_lt_of_le h4 hS.le,h5,h6,hP _ h7,h8⟩
section
variable {K K' : Nat->Prop} {H H' : Hp}
mutual
theorem Ze.mono (hS:Stays K K' H H'):∀ (t:Tx) (cs:List V),Ze K H t cs->Ze K' H' t cs
 | .ex op num text parts params body,cs,h=>by
  simp only [Ze] at h ⊢
  obtain ⟨vp,vq,vb,h1,h2,h3,h4⟩:=h
  exact ⟨vp,vq,vb,h1,h2.mono hS (ElsAt.mono hS parts),h3.mono hS fun _ h=>h,h4.mono hS (ElsAt.mono hS body)⟩
 | .st kind name es b e at_,cs,h=>by
  simp only [Ze] at h ⊢
  obtain ⟨ve,vb,vl,h1,h2,h3,h4⟩:=h
  exact ⟨ve,vb,vl,h1,h2.mono hS (ElsAt.mono hS es),h3.mono hS (ElsAt.mono hS b),h4.mono hS (ElsAt.mono hS e)⟩
theorem ElsAt.mono (hS:Stays K K' H H'):∀ (l:List Tx) (cs:List V),ElsAt K H l cs->ElsAt K' H' l cs
 | [],cs,h=>by simp only [ElsAt]
 | x :: r,cs,h=>by
  simp only [ElsAt] at h ⊢
  exact ⟨Ze.mono hS x _ h.1,ElsAt.mono hS r _ h.2⟩
end
theorem Zk.mono (hS:Stays K K' H H') {l:List Tx} {v:V} (h:Zk K H l v):Zk K' H' l v:=Ya.mono h hS (ElsAt.mono hS l)
theorem Z0.mono (hS:Stays K K' H H') {l:List (List UInt8)} {v:V} (h:Z0 K H l v):Z0 K' H' l v:=Ya.mono h hS fun _ h=>h
theorem ElsAt.at_:∀ (l:List Tx) (cs:List V) (i:Nat) (hi:i < l.length),ElsAt K H l cs->Ze K H l[i] ((cs.drop (i*6)).take 6)
 | x :: r,cs,0,hi,h=>by simp only [ElsAt] at h;simpa using h.1
 | x :: r,cs,i+1,hi,h=>by
  simp only [ElsAt] at h
  have:=ElsAt.at_ r (cs.drop 6) i (by simpa using hi) h.2
  rw [List.drop_drop,show 6+i*6=(i+1)*6 by omega] at this
  simpa using this
theorem ElsAt.app:∀ (l:List Tx) (x:Tx) (cs ds:List V),cs.length=l.length*6->ElsAt K H l cs->Ze K H x (ds.take 6)->ElsAt K H (l++[x]) (cs++ds)
 | [],x,cs,ds,hl,_,hx=>by
  have:cs=[]:=List.eq_nil_of_length_eq_zero (by simpa using hl)
  subst this
  simp only [List.nil_append,ElsAt]
  exact ⟨hx,trivial⟩
 | y :: r,x,cs,ds,hl,h,hx=>by
  simp only [List.length_cons] at hl
  simp only [ElsAt] at h
  simp only [List.cons_append,ElsAt]
  refine ⟨?_,?_⟩
  ·rw [List.take_append_of_le_length (by omega)];exact h.1
  ·rw [List.drop_append_of_le_length (by omega)]
   exact ElsAt.app r x _ ds (by rw [List.length_drop];omega) h.2 hx
theorem ElsAt.more:∀ (l:List Tx) (cs ds:List V),l.length*6<=cs.length->(ElsAt K H l (cs++ds) ↔ ElsAt K H l cs)
 | [],cs,ds,_=>by simp only [ElsAt]
 | y :: r,cs,ds,hl=>by
  simp only [List.length_cons] at hl
  simp only [ElsAt]
  rw [List.take_append_of_le_length (by omega),List.drop_append_of_le_length (by omega),ElsAt.more r _ ds (by rw [List.length_drop];omega)]
theorem ElsAt.take {l:List Tx} {cs:List V} {n:Nat} (hn:l.length*6<=n) (hc:n<=cs.length):ElsAt K H l cs ↔ ElsAt K H l (cs.take n):=by
 conv=>lhs;rw [<- List.take_append_drop n cs]
 exact ElsAt.more l _ _ (by rw [List.length_take];omega)
theorem ElsAt.drop:∀ (k:Nat) (l:List Tx) (cs:List V),ElsAt K H l cs->ElsAt K H (l.drop k) (cs.drop (k*6))
 | 0,l,cs,h=>by simpa using h
 | k+1,[],cs,h=>by simp only [List.drop_nil,ElsAt]
 | k+1,x :: r,cs,h=>by
  simp only [ElsAt] at h
  have:=ElsAt.drop k r (cs.drop 6) h.2
  rw [List.drop_drop,show 6+k*6=(k+1)*6 by omega] at this
  simpa using this
theorem Ya.len {z n:Nat} {v:V} {P:List V->Prop} (h:Ya K H z n v P) (e:TypeId):lenV v (some (.slice e))=some (.int .i64 n):=by
 rcases h with ⟨rfl | rfl,rfl⟩ | ⟨b,off,cap,e,ro,cells,rfl,_⟩<;>rfl
theorem Ya.cells {z n:Nat} {v:V} {P:List V->Prop} (h:Ya K H z n v P):Zw v=[v]:=by
 rcases h with ⟨rfl | rfl,rfl⟩ | ⟨b,off,cap,e,ro,cells,rfl,_⟩<;>rfl
theorem Ya.one {z n:Nat} {v:V} {P:List V->Prop} (h:Ya K H z n v P):oneV v=true:=by
 rcases h with ⟨rfl | rfl,rfl⟩ | ⟨b,off,cap,e,ro,cells,rfl,_⟩<;>rfl
theorem Ya.eqv {z n:Nat} {v:V} {P:List V->Prop} (h:Ya K H z n v P):eqV v v=true:=by
 rcases h with ⟨rfl | rfl,rfl⟩ | ⟨b,off,cap,e,ro,cells,rfl,_⟩<;>simp [eqV]
theorem Ze.len:∀ {t:Tx} {cs:List V},Ze K H t cs->cs.length=6
 | .ex ..,cs,h=>by simp only [Ze] at h;obtain ⟨_,_,_,rfl,_⟩:=h;rfl
 | .st ..,cs,h=>by simp only [Ze] at h;obtain ⟨_,_,_,rfl,_⟩:=h;rfl
theorem Ze.ones:∀ {t:Tx} {cs:List V},Ze K H t cs->cs.all oneV=true
 | .ex ..,cs,h=>by simp only [Ze] at h;obtain ⟨vp,vq,vb,rfl,h1,h2,h3⟩:=h;simp [h1.one,h2.one,h3.one,Zcy,Zcz]
 | .st ..,cs,h=>by simp only [Ze] at h;obtain ⟨vp,vq,vb,rfl,h1,h2,h3⟩:=h;simp [h1.one,h2.one,h3.one,Zcy,Zcz]
theorem Ze.six {t:Tx} {cs:List V} (h:Ze K H t cs):∃ c0 c1 c2 c3 c4 c5,cs=[c0,c1,c2,c3,c4,c5]/\oneV c0=true/\oneV c1=true/\oneV c2=true/\oneV c3=true/\oneV c4=true/\oneV c5=true:=by
 have h1:=h.len
 have h2:=h.ones
 match cs,h1 with
 | [c0,c1,c2,c3,c4,c5],_ =>
  simp only [List.all_cons,List.all_nil,Bool.and_true,Bool.and_eq_true] at h2
  exact ⟨c0,c1,c2,c3,c4,c5,rfl,h2⟩
theorem Ya.row {z n i:Nat} {v:V} {P:List V->Prop} (h:Ya K H z n v P) (hi:i < n):∃ b off cap e ro cells,v = .sl b off n cap z/\H.get b=some (.row e z ro cells)/\K b/\b < H.next/\off % z=0/\off+n*z<=cells.length/\P (cells.drop off):=by
 rcases h with ⟨_,rfl⟩ | h
 ·omega
 ·obtain ⟨b,off,cap,e,ro,cells,h1,h2,h3,h4,h5,h6,h7,h8⟩:=h
  exact ⟨b,off,cap,e,ro,cells,h1,h2,h3,h4,h5,h6,h7⟩
theorem Ya.of_slAt {z n:Nat} {v:V} {e:TypeId} {l:List V} {P:List V->Prop} (h:SlAt H e z v n l) (hk:∀ b∈Za v,K b/\b < H.next) (hP:∀ cs,n*z<=cs.length->cs.take (n*z)=l->P cs):Ya K H z n v P:=by
 cases h with
 | nil=>exact .inl ⟨.inl rfl,rfl⟩
 | row b n cs hg hl =>
  have:=hk b (by simp [Za])
  exact .inr ⟨b,0,none,e,false,cs,rfl,hg,this.1,this.2,by simp,by simpa using hl,by simpa using hP cs hl rfl,fun c hc=>by cases hc⟩
theorem Zk.of_slAt {n:Nat} {v:V} {e:TypeId} {l:List V} {ts:List Tx} (h:SlAt H e 6 v n l) (hk:∀ b∈Za v,K b/\b < H.next) (hn:ts.length=n) (hP:ElsAt K H ts l):Zk K H ts v:=by
 subst hn
 exact Ya.of_slAt h hk fun cs h1 h2=>by rw [ElsAt.take (Nat.le_refl _) h1,h2];exact hP
theorem Z0.of_slAt {n:Nat} {v:V} {e:TypeId} {ts:List (List UInt8)} (h:SlAt H e 1 v n (ts.map .str)) (hk:∀ b∈Za v,K b/\b < H.next) (hn:ts.length=n):Z0 K H ts v:=by
 subst hn
 exact Ya.of_slAt h hk fun cs h1 h2=>by rw [Nat.mul_one] at h2;exact h2
end
abbrev since (H0 H:Hp):Nat->Prop:=fun x=>H0.next<=x/\x < H.next
abbrev eqR (r:Nat):Nat->Prop:=fun x=>x=r
abbrev twoR (r r' : Nat):Nat->Prop:=fun x=>x=r\/x=r'
theorem Wa {H H' : Hp} {e:TypeId} {z n:Nat} {s s' : V} {l:List V} (hs:H.stale=[]) (hS:SlAt H' e z s' n l) (hA:AppR H s H' s') :
  SlAt H'.flush e z s' n l/\(∀ c,c < H.next->c∉Za s->H'.flush.get c=H.get c)/\H'.flush.stale=[]/\H.next<=H'.flush.next/\(∀ r∈Za s',r < H'.flush.next/\(r∈Za s\/H.next<=r)):=by
 refine ⟨hS.of_get fun b hb=>?_,fun c hc hr=>?_,Hp.stale_flush _,by rw [Hp.next_flush];exact hA.le,fun r hr=>?_⟩
 ·rw [Hp.get_flush,if_neg (hA.new b hb).1]
 ·have:=hA.keep c hc hr (by simp [hs])
  rw [Hp.get_flush,if_neg this.2]
  exact this.1
 ·have:=hA.new r hr
  rw [Hp.next_flush]
  exact ⟨this.2.1,this.2.2⟩
abbrev Kv (H0:Hp) (R:Nat->Prop) (v:V):Nat->Prop:=fun x=>H0.next<=x/\¬ R x/\x∉Za v
theorem SlAt.own {H:Hp} {e:TypeId} {z n:Nat} {v:V} {l:List V} (h:SlAt H e z v n l):∀ b∈Za v,∃ cs,H.get b=some (.row e z false cs):=by
 cases h with
 | nil=>intro b hb;simp [Za] at hb
 | row b n cs hg hl=>intro c hc;simp [Za] at hc;subst hc;exact ⟨_,hg⟩
structure Gro (H0 H:Hp) (R:Nat->Prop) (e:TypeId) (v:V) (ts:List Tx):Prop where
 st:H.stale=[]
 le:H0.next<=H.next
 sl:∃ l,SlAt H e 6 v ts.length l/\ElsAt (Kv H0 R v) H ts l
 rows:∀ b∈Za v,H0.next<=b/\b < H.next/\¬ R b
theorem Gro.nil {H0 H:Hp} {R:Nat->Prop} {e:TypeId} (hs:H.stale=[]) (hl:H0.next<=H.next):Gro H0 H R e .nils [] :=
 ⟨hs,hl,⟨[],.nil,trivial⟩,fun b hb=>by simp [Za] at hb⟩
theorem Gro.of_get {H0 H H' : Hp} {R:Nat->Prop} {e:TypeId} {v:V} {ts:List Tx} (h:Gro H0 H R e v ts) (hs:H'.stale=[]) (hl:H.next<=H'.next) (hg:∀ b,H0.next<=b->b < H.next->¬ R b->H'.get b=H.get b):Gro H0 H' R e v ts:=by
 obtain ⟨h1,h2,⟨l,h3,h4⟩,h5⟩:=h
 refine ⟨hs,by omega,⟨l,h3.of_get fun b hb=>?_,ElsAt.mono ⟨fun b hb hx=>hb,fun b hb hx=>hg b hb.1 hx hb.2.1,hl⟩ _ _ h4⟩,fun b hb=>?_⟩
 ·have:=h5 b hb;exact hg b this.1 this.2.1 this.2.2
 ·have:=h5 b hb;exact ⟨this.1,by omega,this.2.2⟩
theorem Gro.step {H0 H H2 Hb H3 H4:Hp} {X R:Nat->Prop} {e:TypeId} {v v' : V} {ts:List Tx} {t:Tx} {l ds:List V} (hG:Gro H0 H R e v ts) (hsl:SlAt H e 6 v ts.length l) (hel:ElsAt (Kv H0 R v) H ts l)
  (hRl:∀ b,R b->b < H.next) (hX2:Ext X H H2) (hXo:∀ b,H0.next<=b->¬ R b->¬ X b) (hT:Ze (since H H2) H2 t ds) (hS:SlAt H3 e 6 v' (ts.length+1) (l++ds)) (hb:Hb=H2\/Hb=H2.bump) (hA:AppR Hb v H3 v')
  (hs4:H4.stale=[]) (hn4:H3.next<=H4.next) (hg:∀ b,¬ R b->H4.get b=H3.flush.get b):Gro H0 H4 R e v' (ts++[t])/\(∀ b,b < H2.next->¬ R b->b∉Za v->H4.get b=H2.get b)/\Stays (Kv H0 R v) (Kv H0 R v') H H4:=by
 have s2:=hX2.st
 have hbs:Hb.stale=[]:=by rcases hb with rfl | rfl<;>exact s2
 have hbn:H2.next<=Hb.next:=by
  rcases hb with rfl | rfl
  ·exact Nat.le_refl _
  ·exact Nat.le_succ _
 have hbg:∀ c,Hb.get c=H2.get c:=fun c=>by rcases hb with rfl | rfl<;>rfl
 obtain ⟨k1,k2,k3,k4,k5⟩:=Wa hbs hS hA
 have hle:=hX2.le
 have h02:=hG.le
 rw [Hp.next_flush] at k4 k5
 have keep:∀ b,b < H2.next->¬ R b->b∉Za v->H4.get b=H2.get b:=fun b hb hR hr=>by
  rw [hg b hR,k2 b (by omega) hr,hbg]
 have hnew:∀ b∈Za v',H0.next<=b/\b < H4.next/\¬ R b:=fun b hb=>by
  obtain ⟨g1,g2⟩:=k5 b hb
  rcases g2 with g2 | g2
  ·have:=hG.rows b g2;exact ⟨this.1,by omega,this.2.2⟩
  ·exact ⟨by omega,by omega,fun h=>by have:=hRl b h;omega⟩
 have hdl:=hT.len
 have hll:=hsl.len
 have st1:Stays (Kv H0 R v) (Kv H0 R v') H H4:=by
  refine ⟨fun b hb hx=>⟨hb.1,hb.2.1,fun h=>?_⟩,fun b hb hx=>?_,by omega⟩
  ·rcases (k5 b h).2 with g | g
   ·exact hb.2.2 g
   ·omega
  ·rw [keep b (by omega) hb.2.1 hb.2.2]
   exact hX2.get b hx (hXo b hb.1 hb.2.1)
 refine ⟨⟨hs4,by omega,⟨l++ds,?_,?_⟩,hnew⟩,keep,st1⟩
 ·rw [List.length_append]
  exact k1.of_get fun b hb=>hg b (hnew b hb).2.2
 ·have hr:∀ b,H.next<=b->b∉Za v:=fun b hb h=>by have:=(hG.rows b h).2.1;omega
  have hRn:∀ b,H.next<=b->¬ R b:=fun b hb h=>by have:=hRl b h;omega
  have st2:Stays (since H H2) (Kv H0 R v') H2 H4:=by
   refine ⟨fun b hb hx=>⟨by omega,hRn b hb.1,fun h=>?_⟩,fun b hb hx=>keep b hx (hRn b hb.1) (hr b hb.1),by omega⟩
   rcases (k5 b h).2 with g | g
   ·exact hr b hb.1 g
   ·omega
  refine ElsAt.app ts t l ds hll (ElsAt.mono st1 _ _ hel) ?_
  rw [List.take_of_length_le (by omega)]
  exact Ze.mono st2 _ _ hT
structure SGro (H0 H:Hp) (R:Nat->Prop) (e:TypeId) (v:V) (ps:List (List UInt8)):Prop where
 st:H.stale=[]
 le:H0.next<=H.next
 sl:SlAt H e 1 v ps.length (ps.map .str)
 rows:∀ b∈Za v,H0.next<=b/\b < H.next/\¬ R b
theorem SGro.step {H0 H H2 Hb H3 H4:Hp} {X R:Nat->Prop} {e:TypeId} {v v' : V} {ps:List (List UInt8)} {s:List UInt8} (hG:SGro H0 H R e v ps)
  (hRl:∀ b,R b->b < H.next) (hX2:Ext X H H2) (hS:SlAt H3 e 1 v' (ps.length+1) (ps.map .str++[.str s])) (hb:Hb=H2\/Hb=H2.bump) (hA:AppR Hb v H3 v')
  (hs4:H4.stale=[]) (hn4:H3.next<=H4.next) (hg:∀ b,¬ R b->H4.get b=H3.flush.get b):SGro H0 H4 R e v' (ps++[s])/\(∀ b,b < H2.next->¬ R b->b∉Za v->H4.get b=H2.get b):=by
 have s2:=hX2.st
 have hbs:Hb.stale=[]:=by rcases hb with rfl | rfl<;>exact s2
 have hbn:H2.next<=Hb.next:=by
  rcases hb with rfl | rfl
  ·exact Nat.le_refl _
  ·exact Nat.le_succ _
 have hbg:∀ c,Hb.get c=H2.get c:=fun c=>by rcases hb with rfl | rfl<;>rfl
 obtain ⟨k1,k2,k3,k4,k5⟩:=Wa hbs hS hA
 have hle:=hX2.le
 have h02:=hG.le
 rw [Hp.next_flush] at k4 k5
 have keep:∀ b,b < H2.next->¬ R b->b∉Za v->H4.get b=H2.get b:=fun b hb hR hr=>by
  rw [hg b hR,k2 b (by omega) hr,hbg]
 have hnew:∀ b∈Za v',H0.next<=b/\b < H4.next/\¬ R b:=fun b hb=>by
  obtain ⟨g1,g2⟩:=k5 b hb
  rcases g2 with g2 | g2
  ·have:=hG.rows b g2;exact ⟨this.1,by omega,this.2.2⟩
  ·exact ⟨by omega,by omega,fun h=>by have:=hRl b h;omega⟩
 refine ⟨⟨hs4,by omega,?_,hnew⟩,keep⟩
 rw [List.length_append,List.map_append]
 exact k1.of_get fun b hb=>hg b (hnew b hb).2.2
theorem SGro.of_get {H0 H H' : Hp} {R:Nat->Prop} {e:TypeId} {v:V} {ps:List (List UInt8)} (h:SGro H0 H R e v ps) (hs:H'.stale=[]) (hl:H.next<=H'.next) (hg:∀ b,H0.next<=b->b < H.next->¬ R b->H'.get b=H.get b):SGro H0 H' R e v ps:=by
 obtain ⟨h1,h2,h3,h5⟩:=h
 refine ⟨hs,by omega,h3.of_get fun b hb=>?_,fun b hb=>?_⟩
 ·have:=h5 b hb;exact hg b this.1 this.2.1 this.2.2
 ·have:=h5 b hb;exact ⟨this.1,by omega,this.2.2⟩
theorem Gro.trees {H0 H H' : Hp} {R K:Nat->Prop} {e:TypeId} {v:V} {ts:List Tx} (h:Gro H0 H R e v ts) (hg:∀ b,H0.next<=b->b < H.next->¬ R b->K b/\H'.get b=H.get b) (hl:H.next<=H'.next):Zk K H' ts v:=by
 obtain ⟨h1,h2,⟨l,h3,h4⟩,h5⟩:=h
 refine Zk.of_slAt (h3.of_get fun b hb=>?_) (fun b hb=>?_) rfl (ElsAt.mono ⟨fun b hb hx=>(hg b hb.1 hx hb.2.1).1,fun b hb hx=>(hg b hb.1 hx hb.2.1).2,hl⟩ _ _ h4)
 ·have:=h5 b hb;exact (hg b this.1 this.2.1 this.2.2).2
 ·have:=h5 b hb;exact ⟨(hg b this.1 this.2.1 this.2.2).1,by omega⟩
theorem Z0.at_ {K:Nat->Prop} {H:Hp} {l:List (List UInt8)} {v:V} (h:Z0 K H l v) {i:Nat} (hi:i < l.length):∃ b off cap e ro cells,v = .sl b off l.length cap 1/\H.get b=some (.row e 1 ro cells)/\K b/\b < H.next/\off+l.length<=cells.length/\cells[off+i]? = some (.str l[i]):=by
 obtain ⟨b,off,cap,e,ro,cells,h1,h2,h3,h4,h5,h6,h7⟩:=h.row hi
 refine ⟨b,off,cap,e,ro,cells,h1,h2,h3,h4,by omega,?_⟩
 have:=congrArg (fun x=>x[i]?) h7
 simp only [List.getElem?_take,hi,if_true,List.getElem?_drop,List.getElem?_map,List.getElem?_eq_getElem hi,Option.map_some] at this
 exact this
theorem Zk.at_ {K:Nat->Prop} {H:Hp} {l:List Tx} {v:V} (h:Zk K H l v) {i:Nat} (hi:i < l.length):∃ b off cap e ro cells d0 d1 d2 d3 d4 d5,v = .sl b off l.length cap 6/\H.get b=some (.row e 6 ro cells)/\K b/\b < H.next/\off % 6=0/\off+l.length*6<=cells.length/\(cells.drop (off+i*6)).take 6=[d0,d1,d2,d3,d4,d5]/\Ze K H l[i] [d0,d1,d2,d3,d4,d5] /\
  oneV d0=true/\oneV d1=true/\oneV d2=true/\oneV d3=true/\oneV d4=true/\oneV d5=true:=by
 obtain ⟨b,off,cap,e,ro,cells,h1,h2,h3,h4,h5,h6,h7⟩:=h.row hi
 have:=ElsAt.at_ l _ i hi h7
 rw [List.drop_drop] at this
 obtain ⟨d0,d1,d2,d3,d4,d5,e1,e2⟩:=this.six
 rw [e1] at this
 exact ⟨b,off,cap,e,ro,cells,d0,d1,d2,d3,d4,d5,h1,h2,h3,h4,h5,h6,e1,this,e2⟩
end Go.AM
set_option maxRecDepth 100000
namespace Go.AM
open Go
abbrev bv (c:UInt8):V:=.int .u8 c.toNat
theorem u8lt (c:UInt8):c.toNat < 256:=c.toNat_lt
theorem Jq {a b:UInt8} (h:a≠b):a.toNat≠b.toNat:=fun e=>h (UInt8.toNat_inj.1 e)
theorem Jg {l:List UInt8} {i:Nat} (h:i < l.length):l.drop i=l[i] :: l.drop (i+1):=List.drop_eq_getElem_cons h
theorem Zhq:∀ l:List UInt8,Vk (l.map bv)=some l
 | []=>rfl
 | c :: r=>by
  rw [List.map_cons]
  simp only [Vk,Zhq r]
  simp
theorem Zxc (l:List UInt8):(l.map bv).all Zhu=true:=by
 rw [List.all_map,List.all_eq_true]
 intro c _
 have:=u8lt c
 simp [Zhu]
 omega
end Go.AM
set_option maxRecDepth 100000
namespace Go.AM
open Go
def Zbn (c:UInt8):Bool:=decide (97<=c.toNat)&&decide (c.toNat<=122) || (decide (65<=c.toNat)&&decide (c.toNat<=90)) || decide (c.toNat=95)
def Yt (c:UInt8):Bool:=decide (48<=c.toNat)&&decide (c.toNat<=57)
def Us (c:UInt8):Bool:=Zbn c || Yt c
def runN (p:UInt8->Bool):List UInt8->Nat
 | []=>0
 | c :: r=>if p c then runN p r+1 else 0
theorem V2 (p:UInt8->Bool):∀ l,runN p l<=l.length
 | []=>Nat.le_refl _
 | c :: r=>by
  rw [runN]
  have:=V2 p r
  split
  ·simp;omega
  ·simp
def numB {α:Type}:Lib.NumEnd α->Bool
 | .ok _=>true
 | .range=>true
 | _=>false
theorem Zjf (M:Nat):∀ (l:List UInt8) (acc:Nat),(∀ c∈l,Yt c=true)->numB (Lib.parseUintM M acc l)=true
 | [],acc,h=>by simp [Lib.parseUintM,numB]
 | c :: r,acc,h=>by
  have hc:=h c (by simp)
  simp only [Yt,Bool.and_eq_true,decide_eq_true_eq] at hc
  rw [Lib.parseUintM,if_pos hc]
  split
  ·rfl
  ·split
   ·rfl
   ·exact Zjf M r _ fun x hx=>h x (by simp [hx])
theorem Zlq (p:UInt8->Bool):∀ (l:List UInt8),∀ c∈l.take (runN p l),p c=true
 | [],c,h=>by simp at h
 | x :: r,c,h=>by
  rw [runN] at h
  split at h
  ·rename_i hx
   rw [List.take_succ_cons] at h
   rcases List.mem_cons.1 h with rfl | h
   ·exact hx
   ·exact Zlq p r c h
  ·simp at h
theorem Z3c {l:List UInt8} (h0:l≠[]) (h:∀ c∈l,Yt c=true):numB (Lib.parseIntB 64 l)=true:=by
 cases l with
 | nil=>exact absurd rfl h0
 | cons c r =>
  have hc:=h c (by simp)
  simp only [Yt,Bool.and_eq_true,decide_eq_true_eq] at hc
  have h43:¬ (c.toNat=43\/c.toNat=45):=by omega
  have h45:¬ c.toNat=45:=by omega
  have:=Zjf (2 ^ 64-1) (c :: r) 0 h
  have e:Lib.parseUintB 64 (c :: r)=Lib.parseUintM (2 ^ 64-1) 0 (c :: r):=by rw [Lib.parseUintB,if_neg (by simp)]
  simp only [Lib.parseIntB]
  rw [if_neg h43,e]
  cases hq:Lib.parseUintM (2 ^ 64-1) 0 (c :: r) with
  | ok u =>
   dsimp only
   split
   ·rfl
   ·split<;>rfl
  | range=>rfl
  | _=>rw [hq] at this;cases this
inductive LxR where
 | ok (k:Int) (t:List UInt8) (x:Int) (n:Nat)
 | err (e:Int)
def tokV (k:Int) (t:List UInt8) (x at_:Int):List V:=[.int .i64 k,.str t,.int .i64 x,.int .i64 at_]
def LxR.v:LxR->V
 | .ok k t x n=>.tup [.agg (tokV k t x 0),.int .i64 n,.int .i64 0]
 | .err e=>.tup [.agg (tokV 0 [] 0 0),.int .i64 0,.int .i64 e]
def W3 (s:List UInt8):LxR :=
 match Lib.parseIntB 64 (s.take (runN Yt s)) with
 | .ok v=>if 1 < runN Yt s/\s.head? = some 48 then .err 6 else .ok 2 (s.take (runN Yt s)) v (runN Yt s)
 | _=>.err 6
def qF:List UInt8->List UInt8->Nat->LxR
 | [],_,_=>.err 1
 | c :: r,acc,i =>
  if c=34 then .ok 3 acc 0 (i+1)
  else if c=92 then match r with
   | []=>.err 1
   | d :: r'=>if d=34\/d=92 then qF r' (acc++[d]) (i+2) else if d=110 then qF r' (acc++[10]) (i+2) else .err 1
  else if c.toNat < 32\/126 < c.toNat then .err 1
  else qF r (acc++[c]) (i+1)
theorem Zad (c:UInt8) (r acc:List UInt8) (i:Nat):qF (c :: r) acc i=if c=34 then .ok 3 acc 0 (i+1)
  else if c=92 then (match r with
   | []=>.err 1
   | d :: r'=>if d=34\/d=92 then qF r' (acc++[d]) (i+2) else if d=110 then qF r' (acc++[10]) (i+2) else .err 1)
  else if c.toNat < 32\/126 < c.toNat then .err 1
  else qF r (acc++[c]) (i+1):=by
 cases r<;>simp [qF]
def Zkn:List UInt8:=[40,41,123,125,91,93,59,44,58,46,61,60,43,45,42,33]
def oneF (s:List UInt8):LxR:=match s with
 | []=>.err 1
 | c :: r =>
  if Zbn c then .ok 1 ((c :: r).take (runN Us (c :: r))) 0 (runN Us (c :: r))
  else if Yt c then W3 (c :: r)
  else if c=34 then qF r [] 1
  else if [61,61].isPrefixOf (c :: r) || [33,61].isPrefixOf (c :: r) then .ok 4 ((c :: r).take 2) 0 2
  else if 0<=Lib.indexByte Zkn c then .ok 4 [c] 0 1
  else .err 1
structure Tk where
 k:Int
 t:List UInt8
 x:Int
 at_:Nat
 deriving DecidableEq
def Tk.v (a:Tk):List V:=tokV a.k a.t a.x a.at_
def tksV (l:List Tk):List V:=l.flatMap Tk.v
theorem Zwf (l:List Tk) (a:Tk):tksV (l++[a])=tksV l++a.v:=by simp [tksV]
def notB (c:UInt8):Bool:=c != 10
def spF:Nat->List UInt8->Nat->List Tk->List Tk×Nat×Int
 | 0,_,_,_=>([],0,0)
 | f+1,[],i,acc=>(acc++[⟨0,[],0,i⟩],0,0)
 | f+1,c :: r,i,acc =>
  if c=32\/c=10 then spF f r (i+1) acc
  else if c=35 then spF f ((c :: r).drop (runN notB (c :: r))) (i+runN notB (c :: r)) acc
  else match oneF (c :: r) with
   | .err e=>([],i,e)
   | .ok k t x n=>spF f ((c :: r).drop n) (i+n) (acc++[⟨k,t,x,i⟩])
theorem qF_n:∀ (m:Nat) (l:List UInt8) (acc:List UInt8) (i:Nat),l.length<=m->∀ {k t x n},qF l acc i = .ok k t x n->i+1<=n/\n<=i+l.length
 | _,[],acc,i,_,k,t,x,n,h=>by simp [qF] at h
 | 0,c :: r,acc,i,hm,k,t,x,n,h=>by simp at hm
 | m+1,c :: r,acc,i,hm,k,t,x,n,h=>by
  rw [Zad] at h
  simp only [List.length_cons] at hm ⊢
  split at h
  ·cases h;omega
  ·split at h
   ·split at h
    ·cases h
    ·rename_i d r'
     simp only [List.length_cons] at hm ⊢
     split at h
     ·have:=qF_n m r' _ _ (by omega) h;omega
     ·split at h
      ·have:=qF_n m r' _ _ (by omega) h;omega
      ·cases h
   ·split at h
    ·cases h
    ·have:=qF_n m r _ _ (by omega) h;omega
theorem Jn {c:UInt8} {r:List UInt8} {k:Int} {t:List UInt8} {x:Int} {n:Nat} (h:oneF (c :: r) = .ok k t x n):1<=n/\n<=(c :: r).length:=by
 simp only [oneF] at h
 split at h
 ·rename_i h1
  cases h
  exact ⟨by rw [runN,if_pos (by simp [Us,h1])];omega,V2 _ _⟩
 ·split at h
  ·rename_i h1
   unfold W3 at h
   split at h
   ·split at h
    ·cases h
    ·cases h
     exact ⟨by rw [runN,if_pos h1];omega,V2 _ _⟩
   ·cases h
  ·split at h
   ·have:=qF_n r.length r _ _ (Nat.le_refl _) h
    simp only [List.length_cons];omega
   ·split at h
    ·rename_i h1
     cases h
     have:2<=(c :: r).length:=by
      simp only [Bool.or_eq_true] at h1
      rcases h1 with h1 | h1<;>exact (List.isPrefixOf_iff_prefix.1 h1).length_le
     omega
    ·split at h
     ·cases h;simp
     ·cases h
def spV (sl:V) (a:Nat) (e:Int):V:=.tup [sl,.int .i64 a,.int .i64 e]
theorem Jy {s:List UInt8} {e:Int} (h:oneF s = .err e):e=1\/e=6:=by
 have q:∀ (m:Nat) (l acc:List UInt8) (i:Nat),l.length<=m->qF l acc i = .err e->e=1:=by
  intro m
  induction m with
  | zero=>intro l acc i hl h;cases l with
   | nil=>simp [qF] at h;exact h.symm
   | cons=>simp at hl
  | succ m ih =>
   intro l acc i hl h
   cases l with
   | nil=>simp [qF] at h;exact h.symm
   | cons c r =>
    simp only [List.length_cons] at hl
    rw [Zad] at h
    split at h
    ·cases h
    ·split at h
     ·split at h
      ·cases h;rfl
      ·rename_i d r'
       simp only [List.length_cons] at hl
       split at h
       ·exact ih r' _ _ (by omega) h
       ·split at h
        ·exact ih r' _ _ (by omega) h
        ·cases h;rfl
     ·split at h
      ·cases h;rfl
      ·exact ih r _ _ (by omega) h
 cases s with
 | nil=>simp [oneF] at h;exact .inl h.symm
 | cons c r =>
  simp only [oneF] at h
  split at h
  ·cases h
  ·split at h
   ·unfold W3 at h
    split at h
    ·split at h
     ·cases h;exact .inr rfl
     ·cases h
    ·cases h;exact .inr rfl
   ·split at h
    ·exact .inl (q _ _ _ _ (Nat.le_refl _) h)
    ·split at h
     ·cases h
     ·split at h
      ·cases h
      ·cases h;exact .inl rfl
def sp (r:List UInt8) (i:Nat) (acc:List Tk):List Tk×Nat×Int:=spF (r.length+1) r i acc
theorem Zby:∀ (m:Nat) (r:List UInt8) (f g i:Nat) (acc:List Tk),r.length<=m->r.length < f->r.length < g->spF f r i acc=spF g r i acc
 | _,_,0,_,_,_,_,h,_=>by omega
 | _,_,_,0,_,_,_,_,h=>by omega
 | _,[],f+1,g+1,i,acc,_,_,_=>rfl
 | 0,c :: r,f+1,g+1,i,acc,h,_,_=>by simp at h
 | m+1,c :: r,f+1,g+1,i,acc,hm,hf,hg=>by
  simp only [List.length_cons] at hm hf hg
  rw [spF,spF]
  split
  ·exact Zby m r f g _ _ (by omega) (by omega) (by omega)
  ·split
   ·rename_i h1 h2
    have h3:1<=runN notB (c :: r):=by rw [runN,if_pos (by subst h2;decide)];omega
    exact Zby m _ f g _ _ (by simp;omega) (by simp;omega) (by simp;omega)
   ·split
    ·rfl
    ·rename_i k t x n hn
     have:=Jn hn
     exact Zby m _ f g _ _ (by simp;omega) (by simp;omega) (by simp;omega)
theorem Zav (i:Nat) (acc:List Tk):sp [] i acc=(acc++[⟨0,[],0,i⟩],0,0):=rfl
theorem Xe (c:UInt8) (r:List UInt8) (i:Nat) (acc:List Tk):sp (c :: r) i acc=if c=32\/c=10 then sp r (i+1) acc
  else if c=35 then sp ((c :: r).drop (runN notB (c :: r))) (i+runN notB (c :: r)) acc
  else match oneF (c :: r) with
   | .err e=>([],i,e)
   | .ok k t x n=>sp ((c :: r).drop n) (i+n) (acc++[⟨k,t,x,i⟩]):=by
 unfold sp
 rw [show (c :: r).length+1=(r.length+1)+1 from rfl,spF]
 split
 ·rfl
 ·split
  ·rename_i h1 h2
   have h3:1<=runN notB (c :: r):=by rw [runN,if_pos (by subst h2;decide)];omega
   exact Zby r.length _ _ _ _ _ (by simp;omega) (by simp;omega) (by simp)
  ·cases hn:oneF (c :: r) with
   | err e=>rfl
   | ok k t x n =>
    have:=Jn hn
    exact Zby r.length _ _ _ _ _ (by simp;omega) (by simp;omega) (by simp)
theorem Jd (p:UInt8->Bool) (d:UInt8) (y:List UInt8) (hd:p d=false):∀ x:List UInt8,runN p (x++d :: y)=runN p x
 | []=>by simp [runN,hd]
 | c :: x=>by
  rw [List.cons_append,runN,runN,Jd p d y hd x]
theorem Zht (y:List UInt8):∀ (m:Nat) (l acc:List UInt8) (i:Nat),l.length<=m->∀ {k t x n},qF l acc i = .ok k t x n->qF (l++y) acc i = .ok k t x n
 | _,[],acc,i,_,k,t,x,n,h=>by simp [qF] at h
 | 0,c :: r,acc,i,hm,k,t,x,n,h=>by simp at hm
 | m+1,c :: r,acc,i,hm,k,t,x,n,h=>by
  rw [List.cons_append]
  rw [Zad] at h ⊢
  simp only [List.length_cons] at hm
  split at h
  ·rename_i h1;rw [if_pos h1];exact h
  ·rename_i h1
   rw [if_neg h1]
   split at h
   ·rename_i h2
    rw [if_pos h2]
    cases r with
    | nil=>cases h
    | cons d r' =>
     simp only [List.length_cons] at hm
     dsimp only [List.cons_append] at h ⊢
     split at h
     ·rename_i h3;rw [if_pos h3];exact Zht y m r' _ _ (by omega) h
     ·rename_i h3
      rw [if_neg h3]
      split at h
      ·rename_i h4;rw [if_pos h4];exact Zht y m r' _ _ (by omega) h
      ·cases h
   ·rename_i h2
    rw [if_neg h2]
    split at h
    ·cases h
    ·rename_i h3
     rw [if_neg h3]
     exact Zht y m r _ _ (by omega) h
theorem Zmf (a d:UInt8) (c:UInt8) (x y:List UInt8) (hd:d≠61):[a,61].isPrefixOf (c :: x++d :: y)=[a,61].isPrefixOf (c :: x):=by
 cases x with
 | nil=>simp [List.isPrefixOf];intro _;exact fun h=>hd h.symm
 | cons e x=>simp [List.isPrefixOf]
theorem Zli {c:UInt8} {x:List UInt8} {d:UInt8} (hd:Us d=false) (h61:d≠61) (y:List UInt8) {k t v n} (h:oneF (c :: x) = .ok k t v n):oneF (c :: x++d :: y) = .ok k t v n:=by
 have hdd:Yt d=false:=by
  simp only [Us,Bool.or_eq_false_iff] at hd;exact hd.2
 have tk:∀ j,j<=(c :: x).length->(c :: x++d :: y).take j=(c :: x).take j:=fun j hj=>List.take_append_of_le_length hj
 have w:=Jd Us d y hd (c :: x)
 have g:=Jd Yt d y hdd (c :: x)
 have p1:=Zmf 61 d c x y h61
 have p2:=Zmf 33 d c x y h61
 have hn:=Jn h
 rw [List.cons_append] at *
 simp only [oneF] at h ⊢
 split at h
 ·rename_i h1
  rw [if_pos h1,w,tk _ (V2 _ _)]
  exact h
 ·rename_i h1
  rw [if_neg h1]
  split at h
  ·rename_i h2
   rw [if_pos h2]
   unfold W3 at h ⊢
   rw [g,tk _ (V2 _ _)]
   exact h
  ·rename_i h2
   rw [if_neg h2]
   split at h
   ·rename_i h3
    rw [if_pos h3]
    exact Zht (d :: y) x.length x _ _ (Nat.le_refl _) h
   ·rename_i h3
    rw [if_neg h3,p1,p2]
    split at h
    ·rename_i h4
     rw [if_pos h4]
     cases h
     rw [tk 2 hn.2]
    ·rename_i h4
     rw [if_neg h4]
     exact h
theorem Zo0:∀ (m:Nat) (x:List UInt8) (i:Nat) (acc l:List Tk) (a:Nat),x.length<=m->sp x i acc=(l,a,0)->a=0/\∃ l0,l=l0++[⟨0,[],0,i+x.length⟩]/\∀ y,sp (x++10 :: y) i acc=sp y (i+x.length+1) l0
 | _,[],i,acc,l,a,_,h=>by
  rw [Zav] at h
  cases h
  refine ⟨rfl,acc,by simp,fun y=>?_⟩
  rw [List.nil_append,Xe,if_pos (.inr rfl)]
  rfl
 | 0,c :: r,i,acc,l,a,hm,h=>by simp at hm
 | m+1,c :: r,i,acc,l,a,hm,h=>by
  simp only [List.length_cons] at hm
  rw [Xe] at h
  have go:∀ (n:Nat) (acc' : List Tk),1<=n->n<=(c :: r).length->sp ((c :: r).drop n) (i+n) acc' = (l,a,0)->(∀ y,sp (c :: r++10 :: y) i acc=sp ((c :: r).drop n++10 :: y) (i+n) acc') ->
    a=0/\∃ l0,l=l0++[⟨0,[],0,i+(c :: r).length⟩]/\∀ y,sp (c :: r++10 :: y) i acc=sp y (i+(c :: r).length+1) l0:=fun n acc' h1 h2 h3 h4=>by
   obtain ⟨g1,l0,g2,g3⟩:=Zo0 m _ _ _ _ _ (by simp;omega) h3
   have e:i+n+((c :: r).drop n).length=i+(c :: r).length:=by rw [List.length_drop];omega
   rw [e] at g2 g3
   exact ⟨g1,l0,g2,fun y=>by rw [h4 y,g3 y]⟩
  have dr:∀ n,n<=(c :: r).length->∀ y,(c :: r++10 :: y).drop n=(c :: r).drop n++10 :: y:=fun n hn y=>List.drop_append_of_le_length hn
  split at h
  ·rename_i h1
   exact go 1 acc (by omega) (by simp) h fun y=>by rw [List.cons_append,Xe,if_pos h1];rfl
  ·rename_i h1
   split at h
   ·rename_i h2
    have h3:1<=runN notB (c :: r):=by rw [runN,if_pos (by subst h2;decide)];omega
    have h4:=V2 notB (c :: r)
    exact go _ acc h3 h4 h fun y=>by
     have e:=Jd notB 10 y (by decide) (c :: r)
     rw [<- dr _ h4 y]
     rw [List.cons_append] at e ⊢
     rw [Xe,if_neg h1,if_pos h2,e]
   ·rename_i h2
    cases hn:oneF (c :: r) with
    | err e =>
     rw [hn] at h
     cases h
     rcases Jy hn with h | h<;>cases h
    | ok k t v n =>
     rw [hn] at h
     have hb:=Jn hn
     exact go n _ hb.1 hb.2 h fun y=>by
      have e:=Zli (by decide) (by decide) y hn (d:=10)
      rw [<- dr _ hb.2 y]
      rw [List.cons_append] at e ⊢
      rw [Xe,if_neg h1,if_neg h2,e]
def shift (d:Nat) (t:Tk):Tk:={ t with at_:=t.at_+d }
theorem Zdw (d:Nat):∀ (m:Nat) (y:List UInt8) (j:Nat) (acc l:List Tk),y.length<=m->sp y (j+d) (acc++l.map (shift d))=if (sp y j l).2.2=0 then (acc++(sp y j l).1.map (shift d),0,0) else ([],(sp y j l).2.1+d,(sp y j l).2.2)
 | _,[],j,acc,l,_=>by simp [Zav,shift]
 | 0,c :: r,j,acc,l,hm=>by simp at hm
 | m+1,c :: r,j,acc,l,hm=>by
  simp only [List.length_cons] at hm
  rw [Xe,Xe]
  split
  ·have:=Zdw d m r (j+1) acc l (by omega)
   rw [show j+1+d=j+d+1 by omega] at this
   exact this
  ·split
   ·rename_i h1 h2
    have h3:1<=runN notB (c :: r):=by rw [runN,if_pos (by subst h2;decide)];omega
    have:=Zdw d m ((c :: r).drop (runN notB (c :: r))) (j+runN notB (c :: r)) acc l (by simp;omega)
    rw [show j+runN notB (c :: r)+d=j+d+runN notB (c :: r) by omega] at this
    exact this
   ·cases hn:oneF (c :: r) with
    | err e =>
     dsimp only
     rw [if_neg (by rcases Jy hn with h | h<;>rw [h]<;>decide)]
    | ok k t v n =>
     have hb:=Jn hn
     have:=Zdw d m ((c :: r).drop n) (j+n) acc (l++[⟨k,t,v,j⟩]) (by simp;omega)
     rw [show j+n+d=j+d+n by omega] at this
     dsimp only
     rw [<- this]
     simp [shift]
theorem Zb3 (p:UInt8->Bool):∀ (l:List UInt8) (m:Nat),runN p (l.take m)=min (runN p l) m
 | [],m=>by simp [runN]
 | c :: r,0=>by simp [runN]
 | c :: r,m+1=>by
  rw [List.take_succ_cons,runN,runN,Zb3 p r m]
  split<;>omega
theorem Zij:∀ (z:Nat) (l acc:List UInt8) (i m:Nat),l.length<=z->∀ {k t x n},qF l acc i = .ok k t x n->n<=i+m->qF (l.take m) acc i = .ok k t x n
 | _,[],acc,i,m,_,k,t,x,n,h,_=>by simp [qF] at h
 | 0,c :: r,acc,i,m,hm,k,t,x,n,h,_=>by simp at hm
 | z+1,c :: r,acc,i,m,hm,k,t,x,n,h,hn=>by
  simp only [List.length_cons] at hm
  have hb:=qF_n _ (c :: r) acc i (Nat.le_refl _) h
  obtain ⟨m,rfl⟩:∃ j,m=j+1:=⟨m-1,by omega⟩
  rw [List.take_succ_cons]
  rw [Zad] at h ⊢
  split at h
  ·rename_i h1;rw [if_pos h1];exact h
  ·rename_i h1
   rw [if_neg h1]
   split at h
   ·rename_i h2
    rw [if_pos h2]
    cases r with
    | nil=>cases h
    | cons d r' =>
     simp only [List.length_cons] at hm
     have hb2:i+2+1<=n:=by
      dsimp only at h
      split at h
      ·exact (qF_n _ r' _ _ (Nat.le_refl _) h).1
      ·split at h
       ·exact (qF_n _ r' _ _ (Nat.le_refl _) h).1
       ·cases h
     obtain ⟨m,rfl⟩:∃ j,m=j+1:=⟨m-1,by omega⟩
     rw [List.take_succ_cons]
     dsimp only at h ⊢
     split at h
     ·rename_i h3;rw [if_pos h3];exact Zij z r' _ _ m (by omega) h (by omega)
     ·rename_i h3
      rw [if_neg h3]
      split at h
      ·rename_i h4;rw [if_pos h4];exact Zij z r' _ _ m (by omega) h (by omega)
      ·cases h
   ·rename_i h2
    rw [if_neg h2]
    split at h
    ·cases h
    ·rename_i h3
     rw [if_neg h3]
     exact Zij z r _ _ m (by omega) h (by omega)
theorem Zn1 (w l:List UInt8) (m:Nat) (hw:w.isPrefixOf l=false):w.isPrefixOf (l.take m)=false:=by
 rw [Bool.eq_false_iff] at hw ⊢
 intro h
 exact hw (List.isPrefixOf_iff_prefix.2 ((List.isPrefixOf_iff_prefix.1 h).trans (List.take_prefix _ _)))
theorem Zme (w l:List UInt8) (m:Nat) (hw:w.isPrefixOf l=true) (hm:w.length<=m):w.isPrefixOf (l.take m)=true:=by
 rw [List.isPrefixOf_iff_prefix] at hw ⊢
 exact List.prefix_of_prefix_length_le hw (List.take_prefix _ _) (by rw [List.length_take];have:=hw.length_le;omega)
theorem Zwr {c:UInt8} {x:List UInt8} {m:Nat} {k t v n} (h:oneF (c :: x) = .ok k t v n) (hn:n<=m):oneF ((c :: x).take m) = .ok k t v n:=by
 have hb:=Jn h
 obtain ⟨m,rfl⟩:∃ j,m=j+1:=⟨m-1,by omega⟩
 have r1:=Zb3 Us (c :: x) (m+1)
 have r2:=Zb3 Yt (c :: x) (m+1)
 have q1:=Zn1 [61,61] (c :: x) (m+1)
 have q2:=Zn1 [33,61] (c :: x) (m+1)
 have q3:=Zme [61,61] (c :: x) (m+1)
 have q4:=Zme [33,61] (c :: x) (m+1)
 have tk:∀ j,j<=m+1->((c :: x).take (m+1)).take j=(c :: x).take j:=fun j hj=>by rw [List.take_take,Nat.min_eq_left hj]
 rw [List.take_succ_cons] at *
 simp only [oneF] at h ⊢
 split at h
 ·rename_i h1
  cases h
  rw [if_pos h1,r1,Nat.min_eq_left hn,tk _ hn]
 ·rename_i h1
  rw [if_neg h1]
  split at h
  ·rename_i h2
   rw [if_pos h2]
   have hr:runN Yt (c :: x)=n:=by
    unfold W3 at h
    split at h
    ·split at h
     ·cases h
     ·cases h;rfl
    ·cases h
   unfold W3 at h ⊢
   rw [r2,hr,Nat.min_eq_left hn,tk _ hn]
   rw [hr] at h
   exact h
  ·rename_i h2
   rw [if_neg h2]
   split at h
   ·rename_i h3
    rw [if_pos h3]
    exact Zij x.length x _ _ m (Nat.le_refl _) h (by omega)
   ·rename_i h3
    rw [if_neg h3]
    split at h
    ·rename_i h4
     cases h
     have h5:([61,61].isPrefixOf (c :: x.take m) || [33,61].isPrefixOf (c :: x.take m))=true:=by
      rw [Bool.or_eq_true] at h4 ⊢
      exact h4.imp (fun h=>q3 h (by simpa using hn)) (fun h=>q4 h (by simpa using hn))
     rw [if_pos h5,tk 2 hn]
    ·rename_i h4
     have h5:¬ ([61,61].isPrefixOf (c :: x.take m) || [33,61].isPrefixOf (c :: x.take m))=true:=by
      rw [Bool.not_eq_true,Bool.or_eq_false_iff] at h4 ⊢
      exact ⟨q1 h4.1,q2 h4.2⟩
     rw [if_neg h5]
     exact h
theorem Zn9 (x:List UInt8) (j:Nat) (acc:List Tk) {L:List Tk} {a:Nat} (h:sp x j acc=(L,a,0)):∃ L1,L=acc++L1/\sp x j []=(L1,0,0):=by
 have:=Zdw 0 x.length x j acc [] (Nat.le_refl _)
 have e:shift 0=id:=funext fun t=>rfl
 simp only [Nat.add_zero,List.map_nil,List.append_nil,e,List.map_id] at this
 rw [h] at this
 split at this
 ·rename_i h0
  obtain ⟨hj,l0,hl,_⟩:=Zo0 x.length x j [] (sp x j []).1 (sp x j []).2.1 (Nat.le_refl _) (by rw [<- h0])
  simp only [Prod.mk.injEq] at this
  refine ⟨(sp x j []).1,this.1,?_⟩
  rw [Prod.ext_iff,Prod.ext_iff]
  exact ⟨rfl,hj,h0⟩
 ·rename_i h0
  simp only [Prod.mk.injEq] at this
  exact absurd this.2.2.symm h0
theorem Zjq (rest:List UInt8) (q:Nat) (acc:List Tk):sp (32 :: 10 :: 32 :: rest) q acc=sp rest (q+3) acc:=by
 rw [Xe,if_pos (.inl rfl),Xe,if_pos (.inr rfl),Xe,if_pos (.inl rfl)]
theorem Zse (p:UInt8->Bool):∀ l:List UInt8,runN p (l.take (runN p l))=runN p l:=fun l=>by rw [Zb3];omega
theorem Zk9 (p:UInt8->Bool):∀ (l:List UInt8) (d:UInt8) (y:List UInt8),l.drop (runN p l)=d :: y->p d=false
 | [],d,y,h=>by simp [runN] at h
 | c :: r,d,y,h=>by
  rw [runN] at h
  split at h
  ·rw [List.drop_succ_cons] at h;exact Zk9 p r d y h
  ·rename_i hc
   simp only [List.drop_zero,List.cons.injEq] at h
   rw [<- h.1];simpa using hc
theorem triv:∀ (m:Nat) (x:List UInt8) (j:Nat) (L:List Tk) (a:Nat),x.length<=m->sp x j []=(L,a,0)->∃ t L1,L=t :: L1/\j<=t.at_/\t.at_<=j+x.length/\∀ rest q acc,sp (x.take (t.at_-j)++32 :: 10 :: 32 :: rest) q acc=sp rest (q+(t.at_-j)+3) acc
 | _,[],j,L,a,_,h=>by
  rw [Zav] at h
  cases h
  exact ⟨_,[],rfl,Nat.le_refl _,Nat.le_refl _,fun rest q acc=>by simp [Zjq]⟩
 | 0,c :: r,j,L,a,hm,h=>by simp at hm
 | m+1,c :: r,j,L,a,hm,h=>by
  simp only [List.length_cons] at hm ⊢
  rw [Xe] at h
  have blank:∀ (d:UInt8) (y:List UInt8) (p:Nat),(d=32\/d=10)->y.length<=m->sp y (p+1) []=(L,a,0)->∃ t L1,L=t :: L1/\p+1<=t.at_/\t.at_<=p+1+y.length/\∀ rest q acc,sp ((d :: y).take (t.at_-p)++32 :: 10 :: 32 :: rest) q acc=sp rest (q+(t.at_-p)+3) acc:=fun d y p hd hy hs=>by
   obtain ⟨t,L1,h1,h2,h3,h4⟩:=triv m y (p+1) L a hy hs
   refine ⟨t,L1,h1,h2,h3,fun rest q acc=>?_⟩
   have e:t.at_-p=(t.at_-(p+1))+1:=by omega
   rw [e,List.take_succ_cons,List.cons_append,Xe,if_pos hd,h4]
   congr 1;omega
  split at h
  ·rename_i h1
   obtain ⟨t,L1,g1,g2,g3,g4⟩:=blank c r j h1 (by omega) h
   exact ⟨t,L1,g1,by omega,by omega,g4⟩
  ·rename_i h1
   split at h
   ·rename_i h2
    have n1:1<=runN notB (c :: r):=by rw [runN,if_pos (by subst h2;decide)];omega
    have n2:=V2 notB (c :: r)
    have hself:=Zse notB (c :: r)
    have hnext:=Zk9 notB (c :: r)
    have hlen:((c :: r).take (runN notB (c :: r))).length=runN notB (c :: r):=by rw [List.length_take];omega
    have hhead:∃ r',(c :: r).take (runN notB (c :: r))=c :: r':=⟨r.take (runN notB (c :: r)-1),by obtain ⟨k,hk⟩:∃ k,runN notB (c :: r)=k+1:=⟨runN notB (c :: r)-1,by omega⟩;rw [hk];rfl⟩
    generalize hN:runN notB (c :: r)=n at *
    simp only [List.length_cons] at n2
    cases hd:(c :: r).drop n with
    | nil =>
     rw [hd,Zav] at h
     cases h
     have hn:n=r.length+1:=by
      have:=congrArg List.length hd
      simp at this;omega
     refine ⟨_,[],rfl,by simp,by simp;omega,fun rest q acc=>?_⟩
     simp only [Nat.add_sub_cancel_left]
     rw [List.take_of_length_le (by simp;omega),List.cons_append,Xe,if_neg h1,if_pos h2]
     have e:runN notB (c :: (r++32 :: 10 :: 32 :: rest))=n+1:=by
      have e1:=Jd notB 10 (32 :: rest) (by decide) (c :: r++[32])
      have e2:runN notB (c :: r++[32])=n+1:=by
       have:∀ l:List UInt8,runN notB l=l.length->runN notB (l++[32])=l.length+1:=by
        intro l
        induction l with
        | nil=>intro _;rfl
        | cons b l ih =>
         intro hb
         rw [runN] at hb
         split at hb
         ·rename_i hb1
          rw [List.cons_append,runN,if_pos hb1,ih (by simpa using hb)]
          simp
         ·simp at hb
       rw [this (c :: r) (by rw [hN,hn];simp)]
       simp [hn]
      rw [e2] at e1
      simpa using e1
     rw [e]
     have e3:(c :: (r++32 :: 10 :: 32 :: rest)).drop (n+1)=10 :: 32 :: rest:=by
      rw [List.drop_succ_cons,List.drop_append,List.drop_eq_nil_of_le (by omega)]
      rw [hn];simp
     rw [e3,Xe,if_pos (.inr rfl),Xe,if_pos (.inl rfl)]
     congr 1
    | cons d y =>
     have hd10:d=10:=by
      have:=hnext d y hd
      simpa [notB] using this
     subst hd10
     rw [hd,Xe,if_pos (.inr rfl)] at h
     have hyl:y.length+n+1=r.length+1:=by
      have:=congrArg List.length hd
      simp at this;omega
     obtain ⟨t,L1,g1,g2,g3,g4⟩:=blank 10 y (j+n) (.inr rfl) (by omega) h
     refine ⟨t,L1,g1,by omega,by omega,fun rest q acc=>?_⟩
     have e:(c :: r).take (t.at_-j)=(c :: r).take n++(10 :: y).take (t.at_-(j+n)):=by
      rw [<- hd,show t.at_-j=n+(t.at_-(j+n)) by omega,List.take_add]
     obtain ⟨r',hr'⟩:=hhead
     have e10:(10 :: y).take (t.at_-(j+n))=10 :: y.take (t.at_-(j+n)-1):=by
      obtain ⟨k,hk⟩:∃ k,t.at_-(j+n)=k+1:=⟨t.at_-(j+n)-1,by omega⟩
      rw [hk];rfl
     have g4':=g4 rest (q+n) acc
     rw [e10] at g4'
     rw [e,e10,hr',List.append_assoc,List.cons_append,Xe,if_neg h1,if_pos h2]
     have e5:runN notB (c :: (r'++(10 :: y.take (t.at_-(j+n)-1)++32 :: 10 :: 32 :: rest)))=n:=by
      have e1:=Jd notB 10 (y.take (t.at_-(j+n)-1)++32 :: 10 :: 32 :: rest) (by decide) (c :: r')
      rw [<- hr',hself] at e1
      rw [hr'] at e1
      simpa using e1
     have e6:(c :: (r'++(10 :: y.take (t.at_-(j+n)-1)++32 :: 10 :: 32 :: rest))).drop n=10 :: y.take (t.at_-(j+n)-1)++32 :: 10 :: 32 :: rest:=by
      rw [<- List.cons_append,<- hr',List.drop_append,List.drop_eq_nil_of_le (by rw [hlen];exact Nat.le_refl _),hlen]
      simp
     rw [e5,e6,g4']
     congr 1;omega
   ·rename_i h2
    cases hn:oneF (c :: r) with
    | err e =>
     rw [hn] at h
     cases h
     rcases Jy hn with h | h<;>cases h
    | ok k t v n =>
     rw [hn] at h
     obtain ⟨L1,hL,_⟩:=Zn9 _ _ _ h
     exact ⟨⟨k,t,v,j⟩,L1,hL,Nat.le_refl _,by simp,fun rest q acc=>by simp [Zjq]⟩
def Zay (s:List UInt8):List Tk->List UInt8
 | t :: u :: r=>(s.drop t.at_).take (u.at_-t.at_)++32 :: 10 :: 32 :: Zay s (u :: r)
 | _=>[]
def ktx (t:Tk):Int×List UInt8×Int:=(t.k,t.t,t.x)
theorem Ygx:∀ (m:Nat) (s:List UInt8) (j:Nat) (L:List Tk) (a:Nat),(s.drop j).length<=m->j<=s.length->sp (s.drop j) j []=(L,a,0)->∀ q acc,∃ L',sp (Zay s L) q acc=(acc++L',0,0)/\L'.map ktx=L.map ktx:=by
 intro m
 induction m with
 | zero =>
  intro s j L a hm hj h q acc
  have:s.drop j=[]:=List.eq_nil_of_length_eq_zero (by omega)
  rw [this,Zav] at h
  cases h
  exact ⟨_,Zav q acc,rfl⟩
 | succ m ih =>
  intro s j L a hm hj h q acc
  cases hx:s.drop j with
  | nil =>
   rw [hx,Zav] at h
   cases h
   exact ⟨_,Zav q acc,rfl⟩
  | cons c r =>
   have hlen:r.length+1=s.length-j:=by
    have:=congrArg List.length hx
    simp at this;omega
   have dr:∀ n,s.drop (j+n)=(c :: r).drop n:=fun n=>by rw [<- hx,List.drop_drop]
   have next:∀ n,1<=n->n<=r.length+1->∀ L' a',sp ((c :: r).drop n) (j+n) []=(L',a',0)->∀ q acc,∃ L'',sp (Zay s L') q acc=(acc++L'',0,0)/\L''.map ktx=L'.map ktx:=fun n h1 h2 L' a' h3 =>
    ih s (j+n) L' a' (by rw [hx] at hm;rw [List.length_drop];simp at hm;omega) (by omega) (by rw [dr];exact h3)
   have hx0:=h
   rw [hx] at h
   rw [Xe] at h
   split at h
   ·exact next 1 (by omega) (by omega) L a h q acc
   ·rename_i h1
    split at h
    ·rename_i h2
     have n1:1<=runN notB (c :: r):=by rw [runN,if_pos (by subst h2;decide)];omega
     have n2:=V2 notB (c :: r)
     simp only [List.length_cons] at n2
     exact next _ n1 n2 L a h q acc
    ·rename_i h2
     cases hn:oneF (c :: r) with
     | err e =>
      rw [hn] at h
      cases h
      rcases Jy hn with h | h<;>cases h
     | ok k t v n =>
      rw [hn] at h
      have hb:=Jn hn
      simp only [List.length_cons] at hb
      obtain ⟨L2,rfl,h4⟩:=Zn9 _ _ _ h
      obtain ⟨u,L3,rfl,g2,g3,g4⟩:=triv _ _ _ _ _ (Nat.le_refl _) h4
      have g3:u.at_<=j+(r.length+1):=by rw [List.length_drop] at g3;simp at g3;omega
      obtain ⟨L',k1,k2⟩:=next n hb.1 hb.2 _ _ h4 (q+n+(u.at_-(j+n))+3) (acc++[⟨k,t,v,q⟩])
      refine ⟨⟨k,t,v,q⟩ :: L',?_,by simp [k2,ktx]⟩
      have e:Zay s ([]++[⟨k,t,v,j⟩]++u :: L3)=(c :: r).take (u.at_-j)++32 :: 10 :: 32 :: Zay s (u :: L3):=by
       show (s.drop j).take (u.at_-j)++_=_
       rw [hx]
      have hcut:=Zwr (m:=u.at_-j) hn (by omega)
      obtain ⟨w,hw⟩:∃ w,u.at_-j=w+1:=⟨u.at_-j-1,by omega⟩
      have hdrop:((c :: r).take (u.at_-j)++32 :: 10 :: 32 :: Zay s (u :: L3)).drop n=((c :: r).drop n).take (u.at_-(j+n))++32 :: 10 :: 32 :: Zay s (u :: L3):=by
       rw [List.drop_append_of_le_length (by rw [List.length_take];simp;omega),List.drop_take,show u.at_-j-n=u.at_-(j+n) by omega]
      rw [e]
      rw [hw,List.take_succ_cons] at hcut hdrop ⊢
      have happ:=Zli (d:=32) (by decide) (by decide) (10 :: 32 :: Zay s (u :: L3)) hcut
      rw [List.cons_append] at happ hdrop ⊢
      rw [Xe,if_neg h1,if_neg h2,happ]
      dsimp only
      rw [hdrop,g4,k1]
      simp
end Go.AM
namespace Go.AM
open Go
structure X4 where
 d:Nat
 a:Nat
 n:Nat
 s:Nat
structure X4.ok (x:X4):Prop where
 d:x.d < 256
 a:x.a < 256
 n:x.n < 65536
 s:x.s < 256
def X4.cs (x:X4):List V:=[.int .u8 x.d,.int .u8 x.a,.int .u16 x.n,.int .u8 x.s]
structure MS where
 l:List X4
 left:Int
def Zl (m:MS):X4:=match m.l with | []=>⟨0,0,0,0⟩ | x :: _=>x
def Z3 (m:MS):MS:=⟨m.l.tail,m.left-1⟩
def nameL:List (List UInt8):=[[97],[98],[99],[100],[102],[108,101,110],[120,49],[95,121]]
def textL:List (List UInt8):=[[],[107],[97],[115,101,97,108],[116,119,111,32,119,111,114,100,115],[113,34,92,10,122]]
def Za9 (n:Nat):List UInt8:=(nameL[n % 8]?).getD []
def Zyw (n:Nat):List UInt8:=(textL[n % 6]?).getD []
def Y0 (g:MS->Tx×MS):Nat->MS->List Tx×MS
 | 0,m=>([],m)
 | k+1,m=>((g m).1 :: (Y0 g k (g m).2).1,(Y0 g k (g m).2).2)
def Z2 (g:MS->Tx×MS):Nat->MS->List Tx×MS
 | 0,m=>([],m)
 | k+1,m=>if m.left<=0 then ([],m) else ((g m).1 :: (Z2 g k (g m).2).1,(Z2 g k (g m).2).2)
def opP (deep:Int) (m1:MS) (x:X4):Nat:=if deep<=0\/m1.left<=0 then (x.d % 18) % 6 else x.d % 18
def numP (op:Nat) (x:X4):Int:=if op=3 then (x.n:Int)*(if x.a % 3=2 then 1099511627776 else 1) else 0
def Zhp (op:Nat) (x:X4):List UInt8:=if op=4 then Zyw x.s else if op=5 then Za9 x.s else []
def Js (op:Nat) (x:X4):List (List UInt8):=if op=17 then (List.range (x.a % 3)).map fun i=>Za9 ((x.s+i) % 256) else []
def countP (op:Nat) (x:X4):Nat:=if op=6\/op=7 then 1 else if op=15 then 1+x.a % 3 else if op=16 then 2*(x.a % 3) else if op=17 then 0 else if op > 7 then 2 else 0
def Xo (deep:Int) (x:X4):Nat:=if deep<=0/\(x.d % 9=3\/x.d % 9=4\/x.d % 9=7) then 8 else x.d % 9
def Ww (kind:Nat):Nat:=if kind=2 then 3 else if kind=7 then 0 else 1
def Zep (kind:Nat) (x:X4):List UInt8:=if kind=0\/kind=1\/kind=7 then Za9 x.s else []
mutual
def Wq:Nat->Int->MS->Tx×MS
 | 0,_,m=>(.ex 0 0 [] [] [] [],m)
 | f+1,deep,m =>
  let x:=Zl m
  let m1:=Z3 m
  let op:=opP deep m1 x
  let b:=if op=17 then Z2 (stmtP f (deep-1)) (x.n % 3) m1 else ([],m1)
  let ps:=Y0 (Wq f (deep-1)) (countP op x) b.2
  (.ex op (numP op x) (Zhp op x) ps.1 (Js op x) b.1,ps.2)
def stmtP:Nat->Int->MS->Tx×MS
 | 0,_,m=>(.st 7 [] [] [] [] 0,m)
 | f+1,deep,m =>
  let x:=Zl m
  let m1:=Z3 m
  let k:=Xo deep x
  let es:=Y0 (Wq f (deep-1)) (Ww k) m1
  let b:=if k=3\/k=7\/k=4 then Z2 (stmtP f (deep-1)) (x.a % 3) es.2 else ([],es.2)
  let e:=if k=3\/k=7 then Z2 (stmtP f (deep-1)) (x.n % 3) b.2 else ([],b.2)
  (.st k (Zep k x) es.1 b.1 e.1 0,e.2)
end
def MS.ok (m:MS):Prop:=(∀ x∈m.l,x.ok)/\-1000000<=m.left/\m.left<=120
structure Dec (c:Nat) (m m' : MS):Prop where
 lo:m.left-(c:Int)<=m'.left
 up:m'.left<=m.left
 sub:∀ x∈m'.l,x∈m.l
 len:m'.l.length<=m.l.length
theorem Dec.refl (c:Nat) (m:MS):Dec c m m:=⟨by omega,Int.le_refl _,fun _ h=>h,Nat.le_refl _⟩
theorem Dec.trans {c c' : Nat} {m m' m'' : MS} (h:Dec c m m') (h' : Dec c' m' m''):Dec (c+c') m m'' :=
 ⟨by have:=h.lo;have:=h'.lo;omega,Int.le_trans h'.up h.up,fun x hx=>h.sub x (h'.sub x hx),Nat.le_trans h'.len h.len⟩
theorem Dec.mono {c c' : Nat} {m m' : MS} (h:Dec c m m') (hc:c<=c'):Dec c' m m':=⟨by have:=h.lo;omega,h.up,h.sub,h.len⟩
theorem Zjj (m:MS):Dec 1 m (Z3 m):=⟨by simp [Z3],by simp [Z3];omega,fun x hx=>List.mem_of_mem_tail hx,by simp [Z3]⟩
theorem Zem {g:MS->Tx×MS} {c:Nat} (hg:∀ m,Dec c m (g m).2):∀ (k:Nat) (m:MS),Dec (c*k) m (Y0 g k m).2
 | 0,m=>Dec.refl _ _
 | k+1,m=>by
  rw [Y0,Nat.mul_succ,Nat.add_comm]
  exact (hg m).trans (Zem hg k _)
theorem Zc6 {g:MS->Tx×MS} {c:Nat} (hg:∀ m,Dec c m (g m).2):∀ (k:Nat) (m:MS),Dec (c*k) m (Z2 g k m).2
 | 0,m=>Dec.refl _ _
 | k+1,m=>by
  rw [Z2]
  split
  ·exact Dec.refl _ _
  ·rw [Nat.mul_succ,Nat.add_comm]
   exact (hg m).trans (Zc6 hg k _)
theorem Zek (op:Nat) (x:X4):countP op x<=4:=by
 have:x.a % 3 < 3:=Nat.mod_lt _ (by omega)
 unfold countP
 split
 ·omega
 ·split
  ·omega
  ·split
   ·omega
   ·split
    ·omega
    ·split<;>omega
theorem Zbc (k:Nat):Ww k<=3:=by
 unfold Ww
 split
 ·omega
 ·split<;>omega
mutual
theorem Zjr:∀ (f:Nat) (deep:Int) (m:MS),Dec (8 ^ f) m (Wq f deep m).2
 | 0,deep,m=>by rw [Wq];exact Dec.refl _ _
 | f+1,deep,m=>by
  have he:=Zem (Zjr f (deep-1))
  have hs:=Zc6 (stmtP_dec f (deep-1))
  have hc:=Zek (opP deep (Z3 m) (Zl m)) (Zl m)
  have hk:(Zl m).n % 3<=2:=by have:=Nat.mod_lt (Zl m).n (show 0 < 3 by omega);omega
  have hp:1<=8 ^ f:=Nat.pow_pos (by omega)
  rw [Wq]
  dsimp only
  have hb:Dec (8 ^ f*2) (Z3 m) (if opP deep (Z3 m) (Zl m)=17 then Z2 (stmtP f (deep-1)) ((Zl m).n % 3) (Z3 m) else ([],Z3 m)).2:=by
   split
   ·exact (hs _ _).mono (Nat.mul_le_mul_left _ hk)
   ·exact Dec.refl _ _
  refine (((Zjj m).trans hb).trans (he _ _)).mono ?_
  have:=Nat.mul_le_mul_left (8 ^ f) hc
  rw [Nat.pow_succ]
  omega
theorem stmtP_dec:∀ (f:Nat) (deep:Int) (m:MS),Dec (8 ^ f) m (stmtP f deep m).2
 | 0,deep,m=>by rw [stmtP];exact Dec.refl _ _
 | f+1,deep,m=>by
  have he:=Zem (Zjr f (deep-1))
  have hs:=Zc6 (stmtP_dec f (deep-1))
  have hc:=Zbc (Xo deep (Zl m))
  have hk:(Zl m).n % 3<=2:=by have:=Nat.mod_lt (Zl m).n (show 0 < 3 by omega);omega
  have ha:(Zl m).a % 3<=2:=by have:=Nat.mod_lt (Zl m).a (show 0 < 3 by omega);omega
  have hp:1<=8 ^ f:=Nat.pow_pos (by omega)
  rw [stmtP]
  dsimp only
  generalize hes:Y0 (Wq f (deep-1)) (Ww (Xo deep (Zl m))) (Z3 m)=es
  have h1:Dec (8 ^ f*3) (Z3 m) es.2:=by rw [<- hes];exact (he _ _).mono (Nat.mul_le_mul_left _ hc)
  generalize hb:(if Xo deep (Zl m)=3\/Xo deep (Zl m)=7\/Xo deep (Zl m)=4 then Z2 (stmtP f (deep-1)) ((Zl m).a % 3) es.2 else ([],es.2))=b
  have h2:Dec (8 ^ f*2) es.2 b.2:=by
   rw [<- hb]
   split
   ·exact (hs _ _).mono (Nat.mul_le_mul_left _ ha)
   ·exact Dec.refl _ _
  have h3:Dec (8 ^ f*2) b.2 (if Xo deep (Zl m)=3\/Xo deep (Zl m)=7 then Z2 (stmtP f (deep-1)) ((Zl m).n % 3) b.2 else ([],b.2)).2:=by
   split
   ·exact (hs _ _).mono (Nat.mul_le_mul_left _ hk)
   ·exact Dec.refl _ _
  refine ((((Zjj m).trans h1).trans h2).trans h3).mono ?_
  rw [Nat.pow_succ]
  omega
end
end Go.AM
namespace Go.AM
open Go
abbrev Ts:=List (List UInt8)
def useP (own out:Ts) (name:List UInt8):Ts:=if name∈own\/name∈out then out else out++[name]
def ownP (own:Ts):Tx->Ts
 | .st kind name _ _ _ _=>if kind=0 then own++[name] else own
 | .ex ..=>own
mutual
def Xv:Tx->Ts->Ts->Ts
 | .ex op _ text parts params body,own,out =>
  freeEs parts own (if op=17 then (freeB body params []).foldl (useP own) out else if op=5 then useP own out text else out)
 | .st ..,_,out=>out
def freeEs:List Tx->Ts->Ts->Ts
 | [],_,out=>out
 | x :: r,own,out=>freeEs r own (Xv x own out)
def Wk:Tx->Ts->Ts->Ts
 | .st kind name es b e _,own,out =>
  let o1:=freeEs es own out
  let own1:=if kind=0 then own++[name] else own
  let o2:=if kind=1 then useP own o1 name else o1
  freeB e (if kind=7 then own++[name] else own1) (freeB b own1 o2)
 | .ex ..,_,out=>out
def freeB:List Tx->Ts->Ts->Ts
 | [],_,out=>out
 | s :: r,own,out=>freeB r (ownP own s) (Wk s own out)
end
mutual
def Tx.eok:Tx->Prop
 | .ex _ _ _ ps _ b=>eoks ps/\soks b
 | .st ..=>False
def Tx.sok:Tx->Prop
 | .st _ _ es b e _=>eoks es/\soks b/\soks e
 | .ex ..=>False
def eoks:List Tx->Prop
 | []=>True
 | x :: r=>x.eok/\eoks r
def soks:List Tx->Prop
 | []=>True
 | x :: r=>x.sok/\soks r
end
theorem Zgo {g:MS->Tx×MS} (hg:∀ m,(g m).1.eok):∀ (k:Nat) (m:MS),eoks (Y0 g k m).1
 | 0,m=>by simp only [Y0,eoks]
 | k+1,m=>by simp only [Y0,eoks];exact ⟨hg m,Zgo hg k _⟩
theorem Zb4 {g:MS->Tx×MS} (hg:∀ m,(g m).1.sok):∀ (k:Nat) (m:MS),soks (Z2 g k m).1
 | 0,m=>by simp only [Z2,soks]
 | k+1,m=>by
  rw [Z2]
  split
  ·simp only [soks]
  ·simp only [soks];exact ⟨hg m,Zb4 hg k _⟩
mutual
theorem Zjz:∀ (f:Nat) (deep:Int) (m:MS),(Wq f deep m).1.eok
 | 0,deep,m=>by simp only [Wq,Tx.eok,eoks,soks,and_self]
 | f+1,deep,m=>by
  rw [Wq]
  dsimp only
  simp only [Tx.eok]
  refine ⟨Zgo (Zjz f (deep-1)) _ _,?_⟩
  split
  ·exact Zb4 (stmtP_sok f (deep-1)) _ _
  ·simp only [soks]
theorem stmtP_sok:∀ (f:Nat) (deep:Int) (m:MS),(stmtP f deep m).1.sok
 | 0,deep,m=>by simp only [stmtP,Tx.sok,eoks,soks,and_self]
 | f+1,deep,m=>by
  rw [stmtP]
  dsimp only
  simp only [Tx.sok]
  refine ⟨Zgo (Zjz f (deep-1)) _ _,?_,?_⟩
  ·split
   ·exact Zb4 (stmtP_sok f (deep-1)) _ _
   ·simp only [soks]
  ·split
   ·exact Zb4 (stmtP_sok f (deep-1)) _ _
   ·simp only [soks]
end
mutual
def Tx.wt:Tx->Nat
 | .ex _ _ _ ps qs b=>1+qs.length+wts ps+wts b
 | .st _ _ es b e _=>1+wts es+wts b+wts e
def wts:List Tx->Nat
 | []=>0
 | x :: r=>x.wt+wts r
end
theorem Tx.wt_pos:∀ t:Tx,1<=t.wt
 | .ex ..=>by simp only [Tx.wt];omega
 | .st ..=>by simp only [Tx.wt];omega
theorem U7 (own out:Ts) (n:List UInt8):(useP own out n).length<=out.length+1:=by
 unfold useP;split<;>simp
theorem Zae (own:Ts):∀ (L out:Ts),(L.foldl (useP own) out).length<=out.length+L.length
 | [],out=>by simp
 | x :: r,out=>by
  have h1:=Zae own r (useP own out x)
  have h2:=U7 own out x
  simp only [List.foldl_cons,List.length_cons]
  omega
theorem Zm9 {c:Prop} [Decidable c] {a b:Ts} {n:Nat} (ha:c->a.length<=n) (hb:¬ c->b.length<=n):(if c then a else b).length<=n:=by
 split
 ·exact ha (by assumption)
 ·exact hb (by assumption)
mutual
theorem Zth:∀ (t:Tx) (own out:Ts),(Xv t own out).length<=out.length+t.wt
 | .ex op num text parts params body,own,out=>by
  simp only [Xv,Tx.wt]
  have h1:=freeEs_len parts own (if op=17 then (freeB body params []).foldl (useP own) out else if op=5 then useP own out text else out)
  have h2:=freeB_len body params []
  have h3:=Zae own (freeB body params []) out
  have h4:=U7 own out text
  have h5:(if op=17 then (freeB body params []).foldl (useP own) out else if op=5 then useP own out text else out).length<=out.length+1+wts body:=by
   simp only [List.length_nil] at h2
   refine Zm9 (fun _=>by omega) fun _=>Zm9 (fun _=>by omega) fun _=>by omega
  omega
 | .st ..,own,out=>by simp only [Xv];omega
theorem freeEs_len:∀ (l:List Tx) (own out:Ts),(freeEs l own out).length<=out.length+wts l
 | [],own,out=>by simp only [freeEs,wts];omega
 | x :: r,own,out=>by
  simp only [freeEs,wts]
  have h1:=Zth x own out
  have h2:=freeEs_len r own (Xv x own out)
  omega
theorem Zjc:∀ (t:Tx) (own out:Ts),(ownP own t).length+(Wk t own out).length<=own.length+out.length+t.wt
 | .st kind name es b e at_,own,out=>by
  simp only [Wk,Tx.wt,ownP]
  have h1:=freeEs_len es own out
  generalize freeEs es own out=o1 at *
  have h2:=U7 (if kind=0 then own++[name] else own) o1 name
  by_cases hk:kind=0
  ·subst hk
   simp only [if_true,show ¬ (0:Nat)=1 by decide,show ¬ (0:Nat)=7 by decide,if_false]
   have h3:=freeB_len b (own++[name]) o1
   have h4:=freeB_len e (own++[name]) (freeB b (own++[name]) o1)
   simp only [List.length_append,List.length_cons,List.length_nil]
   omega
  ·simp only [hk,if_false] at *
   have h3:=freeB_len b own (if kind=1 then useP own o1 name else o1)
   have h4:=freeB_len e (if kind=7 then own++[name] else own) (freeB b own (if kind=1 then useP own o1 name else o1))
   have h5:(if kind=1 then useP own o1 name else o1).length<=o1.length+1:=Zm9 (fun _=>by omega) fun _=>by omega
   omega
 | .ex ..,own,out=>by simp only [Wk,ownP];omega
theorem freeB_len:∀ (l:List Tx) (own out:Ts),(freeB l own out).length<=out.length+wts l
 | [],own,out=>by simp only [freeB,wts];omega
 | x :: r,own,out=>by
  simp only [freeB,wts]
  have h1:=Zjc x own out
  have h2:=freeB_len r (ownP own x) (Wk x own out)
  have h3:own.length<=(ownP own x).length:=by cases x<;>simp only [ownP]<;>(try split)<;>simp
  omega
end
theorem Zit {g:MS->Tx×MS} {c:Nat} (hg:∀ m,(g m).1.wt<=c):∀ (k:Nat) (m:MS),wts (Y0 g k m).1<=c*k
 | 0,m=>by simp only [Y0,wts];omega
 | k+1,m=>by
  simp only [Y0,wts]
  have:=Zit hg k (g m).2
  have:=hg m
  rw [Nat.mul_succ];omega
theorem Zdp {g:MS->Tx×MS} {c:Nat} (hg:∀ m,(g m).1.wt<=c):∀ (k:Nat) (m:MS),wts (Z2 g k m).1<=c*k
 | 0,m=>by simp only [Z2,wts];omega
 | k+1,m=>by
  rw [Z2]
  split
  ·simp only [wts];omega
  ·simp only [wts]
   have:=Zdp hg k (g m).2
   have:=hg m
   rw [Nat.mul_succ];omega
mutual
theorem Zlo:∀ (f:Nat) (deep:Int) (m:MS),(Wq f deep m).1.wt<=8 ^ f*3
 | 0,deep,m=>by simp only [Wq,Tx.wt,wts,List.length_nil];omega
 | f+1,deep,m=>by
  have hc:=Zek (opP deep (Z3 m) (Zl m)) (Zl m)
  have hk:(Zl m).n % 3<=2:=by have:=Nat.mod_lt (Zl m).n (show 0 < 3 by omega);omega
  have ha:(Zl m).a % 3<=2:=by have:=Nat.mod_lt (Zl m).a (show 0 < 3 by omega);omega
  have hp:1<=8 ^ f:=Nat.pow_pos (by omega)
  rw [Wq]
  dsimp only
  simp only [Tx.wt]
  generalize hb:(if opP deep (Z3 m) (Zl m)=17 then Z2 (stmtP f (deep-1)) ((Zl m).n % 3) (Z3 m) else ([],Z3 m))=b
  have h1:=Zit (Zlo f (deep-1)) (countP (opP deep (Z3 m) (Zl m)) (Zl m)) b.2
  have h2:wts b.1<=8 ^ f*3*2:=by
   rw [<- hb]
   split
   ·exact Nat.le_trans (Zdp (stmtP_wt f (deep-1)) _ _) (Nat.mul_le_mul_left _ hk)
   ·simp only [wts];omega
  have h3:(Js (opP deep (Z3 m) (Zl m)) (Zl m)).length<=2:=by
   unfold Js
   split
   ·simp;omega
   ·simp
  have h4:=Nat.mul_le_mul_left (8 ^ f*3) hc
  rw [Nat.pow_succ]
  omega
theorem stmtP_wt:∀ (f:Nat) (deep:Int) (m:MS),(stmtP f deep m).1.wt<=8 ^ f*3
 | 0,deep,m=>by simp only [stmtP,Tx.wt,wts];omega
 | f+1,deep,m=>by
  have hc:=Zbc (Xo deep (Zl m))
  have hk:(Zl m).n % 3<=2:=by have:=Nat.mod_lt (Zl m).n (show 0 < 3 by omega);omega
  have ha:(Zl m).a % 3<=2:=by have:=Nat.mod_lt (Zl m).a (show 0 < 3 by omega);omega
  have hp:1<=8 ^ f:=Nat.pow_pos (by omega)
  rw [stmtP]
  dsimp only
  simp only [Tx.wt]
  have h1:=Nat.le_trans (Zit (Zlo f (deep-1)) (Ww (Xo deep (Zl m))) (Z3 m)) (Nat.mul_le_mul_left _ hc)
  generalize Y0 (Wq f (deep-1)) (Ww (Xo deep (Zl m))) (Z3 m)=es at *
  generalize hb:(if Xo deep (Zl m)=3\/Xo deep (Zl m)=7\/Xo deep (Zl m)=4 then Z2 (stmtP f (deep-1)) ((Zl m).a % 3) es.2 else ([],es.2))=b
  have h2:wts b.1<=8 ^ f*3*2:=by
   rw [<- hb]
   split
   ·exact Nat.le_trans (Zdp (stmtP_wt f (deep-1)) _ _) (Nat.mul_le_mul_left _ ha)
   ·simp only [wts];omega
  have h3:wts (if Xo deep (Zl m)=3\/Xo deep (Zl m)=7 then Z2 (stmtP f (deep-1)) ((Zl m).n % 3) b.2 else ([],b.2)).1<=8 ^ f*3*2:=by
   split
   ·exact Nat.le_trans (Zdp (stmtP_wt f (deep-1)) _ _) (Nat.mul_le_mul_left _ hk)
   ·simp only [wts];omega
  rw [Nat.pow_succ]
  omega
end
theorem Ux:∀ (l:List Tx) (x:Tx) (own out:Ts),freeEs (l++[x]) own out=Xv x own (freeEs l own out)
 | [],x,own,out=>by simp only [List.nil_append,freeEs]
 | y :: r,x,own,out=>by simp only [List.cons_append,freeEs];exact Ux r x own _
def Yr (l:List Tx) (own:Ts):Ts:=l.foldl ownP own
theorem Zdd:∀ (l:List Tx) (x:Tx) (own out:Ts),freeB (l++[x]) own out=Wk x (Yr l own) (freeB l own out)
 | [],x,own,out=>by simp only [List.nil_append,freeB,Yr,List.foldl_nil]
 | y :: r,x,own,out=>by
  simp only [List.cons_append,freeB,Yr,List.foldl_cons]
  exact Zdd r x _ _
theorem U8:∀ (l:List Tx) (i:Nat) (h:i < l.length),wts (l.take i)+l[i].wt<=wts l
 | x :: r,0,h=>by simp only [List.take_zero,wts,List.getElem_cons_zero];omega
 | x :: r,i+1,h=>by
  have:=U8 r i (by simpa using h)
  simp only [List.take_succ_cons,wts,List.getElem_cons_succ]
  omega
theorem Zd6:∀ (l:List Tx) (own out:Ts),(Yr l own).length+(freeB l own out).length<=own.length+out.length+wts l
 | [],own,out=>by simp only [Yr,List.foldl_nil,freeB,wts];omega
 | x :: r,own,out=>by
  have h1:=Zjc x own out
  have h2:=Zd6 r (ownP own x) (Wk x own out)
  simp only [Yr,List.foldl_cons,freeB,wts] at *
  omega
theorem Jz:∀ l:List Tx,l.length<=wts l
 | []=>Nat.zero_le _
 | x :: r=>by
  have h1:=x.wt_pos
  have h2:=Jz r
  simp only [List.length_cons,wts]
  omega
end Go.AM
namespace Go.AM
open Go
abbrev Bs:=List UInt8
def Zal:Ts->Bs
 | []=>[]
 | [x]=>x
 | x :: y :: r=>x++[44,32]++Zal (y :: r)
def Zlt (s:Bs):Bs:=[34]++s.flatMap (fun c=>if c=10 then [92,110] else if c=34\/c=92 then [92,c] else [c])++[34]
def Zqa (op:Nat):Bs:=(([[43],[45],[42],[61,61],[33,61],[60]]:List Bs)[op-8]?).getD []
def J5:Ts->Ts
 | k :: v :: r=>([91]++k++[93,58,32]++v) :: J5 r
 | _=>[]
def nthP (l:Ts) (i:Nat):Bs:=(l[i]?).getD []
def prX (dec:Int->Bs) (op:Nat) (num:Int) (text:Bs) (ps qs:Ts) (body:Bs):Bs :=
 if op=0 then [110,105,108] else if op=1 then [102,97,108,115,101] else if op=2 then [116,114,117,101] else if op=3 then dec num else if op=4 then Zlt text else if op=5 then text
 else if op=6 then [40,45]++nthP ps 0++[41] else if op=7 then [40,33]++nthP ps 0++[41] else if op=14 then nthP ps 0++[91]++nthP ps 1++[93] else if op=15 then nthP ps 0++[40]++Zal (ps.drop 1)++[41]
 else if op=16 then [123]++Zal (J5 ps)++[125] else if op=17 then [102,110,40]++Zal qs++[41,32,123,10]++body++[125]
 else [40]++nthP ps 0++[32]++Zqa op++[32]++nthP ps 1++[41]
def prY (kind:Nat) (name:Bs) (es:Ts) (b e:Bs) (ne:Bool):Bs :=
 if kind=0 then [108,101,116,32]++name++[32,61,32]++nthP es 0++[59,10] else if kind=1 then name++[32,61,32]++nthP es 0++[59,10]
 else if kind=2 then nthP es 0++[91]++nthP es 1++[93,32,61,32]++nthP es 2++[59,10]
 else if kind=3 then [105,102,32]++nthP es 0++[32,123,10]++b++[125]++(if ne then [32,101,108,115,101,32,123,10]++e++[125] else [])++[10]
 else if kind=4 then [119,104,105,108,101,32]++nthP es 0++[32,123,10]++b++[125,10]
 else if kind=5 then [114,101,116,117,114,110,32]++nthP es 0++[59,10] else if kind=6 then [116,104,114,111,119,32]++nthP es 0++[59,10]
 else if kind=7 then [116,114,121,32,123,10]++b++[125,32,99,97,116,99,104,32]++name++[32,123,10]++e++[125,10]
 else nthP es 0++[59,10]
section
variable (dec:Int->Bs)
mutual
def prE:Tx->Bs
 | .ex op num text parts params body=>prX dec op num text (prEs parts) params (prB body)
 | .st ..=>[]
def prEs:List Tx->Ts
 | []=>[]
 | x :: r=>prE x :: prEs r
def prS:Tx->Bs
 | .st kind name es b e _=>prY kind name (prEs es) (prB b) (prB e) (!e.isEmpty)
 | .ex ..=>[]
def prB:List Tx->Bs
 | []=>[]
 | x :: r=>prS x++prB r
end
end
mutual
def Tx.pok:Tx->Prop
 | .ex op _ _ ps _ b=>op < 18/\(op=6\/op=7->ps.length=1)/\(op=15->1<=ps.length)/\(op=16->ps.length % 2=0)/\(8<=op->op<=14->ps.length=2)/\poks ps/\poks b
 | .st kind _ es b e _=>kind < 9/\(kind=2->es.length=3)/\(kind≠2->kind≠7->es.length=1)/\poks es/\poks b/\poks e
def poks:List Tx->Prop
 | []=>True
 | x :: r=>x.pok/\poks r
end
theorem Zgj {g:MS->Tx×MS} (hg:∀ m,(g m).1.pok):∀ (k:Nat) (m:MS),poks (Y0 g k m).1/\(Y0 g k m).1.length=k
 | 0,m=>by simp only [Y0,poks,List.length_nil,and_self]
 | k+1,m=>by
  have:=Zgj hg k (g m).2
  simp only [Y0,poks,List.length_cons]
  exact ⟨⟨hg m,this.1⟩,by rw [this.2]⟩
theorem Zce {g:MS->Tx×MS} (hg:∀ m,(g m).1.pok):∀ (k:Nat) (m:MS),poks (Z2 g k m).1
 | 0,m=>by simp only [Z2,poks]
 | k+1,m=>by
  rw [Z2]
  split
  ·simp only [poks]
  ·simp only [poks];exact ⟨hg m,Zce hg k _⟩
theorem Zqk (deep:Int) (m1:MS) (x:X4):opP deep m1 x < 18:=by unfold opP;split<;>omega
theorem Zm0 (deep:Int) (x:X4):Xo deep x < 9:=by unfold Xo;split<;>omega
mutual
theorem Zjd:∀ (f:Nat) (deep:Int) (m:MS),(Wq f deep m).1.pok
 | 0,deep,m=>by simp [Wq,Tx.pok,poks]
 | f+1,deep,m=>by
  rw [Wq]
  dsimp only
  have ho:=Zqk deep (Z3 m) (Zl m)
  generalize opP deep (Z3 m) (Zl m)=op at *
  simp only [Tx.pok]
  obtain ⟨h1,h2⟩:=Zgj (Zjd f (deep-1)) (countP op (Zl m)) (if op=17 then Z2 (stmtP f (deep-1)) ((Zl m).n % 3) (Z3 m) else ([],Z3 m)).2
  refine ⟨ho,fun h=>?_,fun h=>?_,fun h=>?_,fun h h'=>?_,h1,?_⟩
  ·rw [h2,countP,if_pos h]
  ·rw [h2,countP,if_neg (by omega),if_pos h];omega
  ·rw [h2,countP,if_neg (by omega),if_neg (by omega),if_pos h];omega
  ·rw [h2,countP,if_neg (by omega),if_neg (by omega),if_neg (by omega),if_neg (by omega),if_pos (by omega)]
  ·split
   ·exact Zce (stmtP_pok f (deep-1)) _ _
   ·simp only [poks]
theorem stmtP_pok:∀ (f:Nat) (deep:Int) (m:MS),(stmtP f deep m).1.pok
 | 0,deep,m=>by simp [stmtP,Tx.pok,poks]
 | f+1,deep,m=>by
  rw [stmtP]
  dsimp only
  have ho:=Zm0 deep (Zl m)
  generalize Xo deep (Zl m)=k at *
  simp only [Tx.pok]
  obtain ⟨h1,h2⟩:=Zgj (Zjd f (deep-1)) (Ww k) (Z3 m)
  refine ⟨ho,fun h=>?_,fun h h'=>?_,h1,?_,?_⟩
  ·rw [h2,Ww,if_pos h]
  ·rw [h2,Ww,if_neg h,if_neg h']
  ·split
   ·exact Zce (stmtP_pok f (deep-1)) _ _
   ·simp only [poks]
  ·split
   ·exact Zce (stmtP_pok f (deep-1)) _ _
   ·simp only [poks]
end
def lens (l:Ts):Nat:=(l.map fun x=>x.length+2).sum
theorem Za3:∀ l:Ts,(Zal l).length<=lens l
 | []=>by simp [Zal,lens]
 | [x]=>by simp [Zal,lens]
 | x :: y :: r=>by
  have:=Za3 (y :: r)
  simp only [Zal,lens,List.map_cons,List.sum_cons,List.length_append,List.length_cons,List.length_nil] at *
  omega
theorem Zbm:∀ (l:Ts) (i:Nat),(nthP l i).length<=lens l
 | [],i=>by simp [nthP]
 | x :: r,0=>by simp [nthP,lens];omega
 | x :: r,i+1=>by
  have:=Zbm r i
  simp only [nthP,lens,List.map_cons,List.sum_cons,List.getElem?_cons_succ] at *
  omega
theorem Zig:∀ l:Ts,lens (J5 l)<=lens l+l.length
 | []=>by simp [J5,lens]
 | [x]=>by simp [J5,lens]
 | x :: y :: r=>by
  have:=Zig r
  simp only [J5,lens,List.map_cons,List.sum_cons,List.length_append,List.length_cons,List.length_nil] at *
  omega
theorem Zj5:∀ (l:Ts) (i:Nat),lens (l.drop i)<=lens l
 | l,0=>by simp
 | [],i+1=>by simp
 | x :: r,i+1=>by
  have:=Zj5 r i
  simp only [List.drop_succ_cons,lens,List.map_cons,List.sum_cons] at *
  omega
theorem Zrk (s:Bs):(Zlt s).length<=2+2*s.length:=by
 have:∀ l:Bs,(l.flatMap (fun c=>if c=10 then [92,110] else if c=34\/c=92 then [92,c] else [c])).length<=2*l.length:=by
  intro l
  induction l with
  | nil=>simp
  | cons x r ih =>
   rw [List.flatMap_cons,List.length_append,List.length_cons]
   have:(if x=10 then [92,110] else if x=34\/x=92 then [92,x] else [x]:Bs).length<=2:=by
    split
    ·simp
    ·split<;>simp
   omega
 have:=this s
 unfold Zlt
 simp only [List.length_append,List.length_cons,List.length_nil]
 omega
section
variable (dec:Int->Bs)
mutual
def Tx.bw:Tx->Nat
 | .ex _ num text ps qs b=>40+(dec num).length+2*text.length+lens qs+bws ps+8*ps.length+bws b
 | .st _ name es b e _=>40+name.length+bws es+8*es.length+bws b+bws e
def bws:List Tx->Nat
 | []=>0
 | x :: r=>x.bw+bws r
end
end
theorem Zw6 (op:Nat):(Zqa op).length<=2:=by
 unfold Zqa
 match op-8 with
 | 0 | 1 | 2 | 3 | 4 | 5=>decide
 | n+6=>exact Nat.zero_le _
theorem Zl6 (l:Ts):(nthP l 0).length+(nthP l 1).length+(nthP l 2).length<=lens l:=by
 match l with
 | []=>simp [nthP]
 | [x]=>simp [nthP,lens]
 | [x,y]=>simp [nthP,lens];omega
 | x :: y :: z :: r=>simp [nthP,lens];omega
theorem Zvv (l:Ts):(nthP l 0).length+(Zal (l.drop 1)).length<=lens l:=by
 match l with
 | []=>simp [nthP,Zal]
 | x :: r =>
  have:=Za3 r
  simp only [nthP,lens,List.map_cons,List.sum_cons,List.getElem?_cons_zero,Option.getD_some,List.drop_succ_cons,List.drop_zero] at *
  omega
theorem ifl {c:Prop} [Decidable c] {a b:Bs} {n:Nat} (ha:c->a.length<=n) (hb:¬ c->b.length<=n):(if c then a else b).length<=n:=by
 split
 ·exact ha (by assumption)
 ·exact hb (by assumption)
theorem Z05 (dec:Int->Bs) (op:Nat) (num:Int) (text:Bs) (ps qs:Ts) (body:Bs):(prX dec op num text ps qs body).length<=20+(dec num).length+2*text.length+lens ps+ps.length+lens qs+body.length:=by
 have g1:=Zl6 ps
 have g2:=Zvv ps
 have h1:=Zbm ps 0
 have h2:=Zbm ps 1
 have h3:=Zrk text
 have h4:=Za3 (ps.drop 1)
 have h5:=Zj5 ps 1
 have h6:=Za3 (J5 ps)
 have h7:=Zig ps
 have h8:=Za3 qs
 have h9:=Zw6 op
 unfold prX
 repeat' (refine ifl (fun _=>?_) (fun _=>?_))
 all_goals try simp only [List.length_append,List.length_cons,List.length_nil]
 all_goals omega
theorem Zy4 (kind:Nat) (name:Bs) (es:Ts) (b e:Bs) (ne:Bool):(prY kind name es b e ne).length<=30+name.length+lens es+b.length+e.length:=by
 have g1:=Zl6 es
 have h1:=Zbm es 0
 have h2:=Zbm es 1
 have h3:=Zbm es 2
 unfold prY
 repeat' (refine ifl (fun _=>?_) (fun _=>?_))
 all_goals try simp only [List.length_append,List.length_cons,List.length_nil]
 all_goals try omega
 cases ne<;>simp<;>omega
mutual
theorem Z16 (dec:Int->Bs):∀ t:Tx,(prE dec t).length<=t.bw dec
 | .ex op num text ps qs b=>by
  have h1:=Z05 dec op num text (prEs dec ps) qs (prB dec b)
  have h2:=prEs_len dec ps
  have h3:=prB_len dec b
  simp only [prE,Tx.bw]
  omega
 | .st ..=>by simp only [prE,List.length_nil];exact Nat.zero_le _
theorem prEs_len (dec:Int->Bs):∀ l:List Tx,lens (prEs dec l)<=bws dec l+2*l.length/\(prEs dec l).length=l.length
 | []=>by simp [prEs,lens]
 | x :: r=>by
  have h1:=Z16 dec x
  have h2:=prEs_len dec r
  simp only [prEs,bws,lens,List.map_cons,List.sum_cons,List.length_cons] at *
  omega
theorem Zzi (dec:Int->Bs):∀ t:Tx,(prS dec t).length<=t.bw dec
 | .st kind name es b e a=>by
  have h1:=Zy4 kind name (prEs dec es) (prB dec b) (prB dec e) (!e.isEmpty)
  have h2:=prEs_len dec es
  have h3:=prB_len dec b
  have h4:=prB_len dec e
  simp only [prS,Tx.bw]
  omega
 | .ex ..=>by simp only [prS,List.length_nil];exact Nat.zero_le _
theorem prB_len (dec:Int->Bs):∀ l:List Tx,(prB dec l).length<=bws dec l
 | []=>by simp only [prB,List.length_nil];exact Nat.zero_le _
 | x :: r=>by
  have h1:=Zzi dec x
  have h2:=prB_len dec r
  simp only [prB,bws,List.length_append]
  omega
end
end Go.AM
namespace Go.AM
open Go
mutual
def Tx.nn:Tx->Nat
 | .ex _ _ _ ps _ b=>1+nns ps+nns b
 | .st _ _ es b e _=>1+nns es+nns b+nns e
def nns:List Tx->Nat
 | []=>0
 | x :: r=>x.nn+nns r
end
def Zpe (op n:Nat):Prop:=(op < 6->n=0)/\(op=6\/op=7->n=1)/\(op=15->1<=n)/\(op=16->n % 2=0)/\(op=17->n=0)/\(8<=op->op<=14->n=2)/\n<=4
mutual
def Tx.ev:Tx->Prop
 | .ex op num text ps qs b=>op < 18/\(0<=num/\num < 144115188075855872)/\(op≠3->num=0)/\(op=4->text∈textL)/\(op=5->text∈nameL)/\(op≠4->op≠5->text=[])/\(op≠17->qs=[]/\b=[])/\qs.length<=2/\(∀ q∈qs,q∈nameL)/\Zpe op ps.length/\evs ps/\svs b
 | .st ..=>False
def Tx.sv:Tx->Prop
 | .st kind name es b e at_=>kind < 9/\(kind=0\/kind=1\/kind=7->name∈nameL)/\(kind≠0->kind≠1->kind≠7->name=[])/\es.length=Ww kind/\(kind≠3->kind≠4->kind≠7->b=[])/\(kind≠3->kind≠7->e=[])/\evs es/\svs b/\svs e
 | .ex ..=>False
def evs:List Tx->Prop
 | []=>True
 | x :: r=>x.ev/\evs r
def svs:List Tx->Prop
 | []=>True
 | x :: r=>x.sv/\svs r
end
def mok (m:MS):Prop:=∀ x∈m.l,x.ok
theorem Zmy {m:MS} (h:mok m):(Zl m).ok:=by
 unfold Zl
 split
 ·exact ⟨by decide,by decide,by decide,by decide⟩
 ·rename_i x r hx;exact h x (by rw [hx];simp)
theorem Zm7 {m:MS} (h:mok m):mok (Z3 m):=fun x hx=>h x (List.mem_of_mem_tail hx)
theorem Zev (n:Nat):Za9 n∈nameL:=by
 have:∀ k,k < 8->(nameL[k]?).getD []∈nameL:=by decide
 exact this _ (Nat.mod_lt _ (by decide))
theorem Zui (n:Nat):Zyw n∈textL:=by
 have:∀ k,k < 6->(textL[k]?).getD []∈textL:=by decide
 exact this _ (Nat.mod_lt _ (by decide))
def GE (B:Int) (g:MS->Tx×MS):Prop:=∀ m,mok m->(g m).1.ev/\((g m).1.nn:Int)+(g m).2.left=m.left/\min (m.left-1) (-B)<=(g m).2.left/\mok (g m).2
def GS (B:Int) (g:MS->Tx×MS):Prop:=∀ m,mok m->(g m).1.sv/\((g m).1.nn:Int)+(g m).2.left=m.left/\min (m.left-4) (-B)<=(g m).2.left/\mok (g m).2
theorem Ziv {B:Int} {g:MS->Tx×MS} (hg:GE B g):∀ (k:Nat) (m:MS),mok m->evs (Y0 g k m).1/\(Y0 g k m).1.length=k/\(nns (Y0 g k m).1:Int)+(Y0 g k m).2.left=m.left/\min (m.left-k) (-B-k)<=(Y0 g k m).2.left/\mok (Y0 g k m).2
 | 0,m,hm=>by simp only [Y0,evs,nns,List.length_nil,true_and];exact ⟨by omega,by omega,hm⟩
 | k+1,m,hm=>by
  obtain ⟨h1,h2,h3,h4⟩:=hg m hm
  obtain ⟨g1,g5,g2,g3,g4⟩:=Ziv hg k (g m).2 h4
  simp only [Y0,evs,nns,List.length_cons]
  exact ⟨⟨h1,g1⟩,by omega,by omega,by omega,g4⟩
theorem Zgu {B:Int} {g:MS->Tx×MS} (hB:3<=B) (hg:GS B g):∀ (k:Nat) (m:MS),mok m->svs (Z2 g k m).1/\(nns (Z2 g k m).1:Int)+(Z2 g k m).2.left=m.left/\min m.left (-B)<=(Z2 g k m).2.left/\mok (Z2 g k m).2
 | 0,m,hm=>by simp only [Z2,svs,nns,true_and];exact ⟨by omega,by omega,hm⟩
 | k+1,m,hm=>by
  rw [Z2]
  split
  ·simp only [svs,nns,true_and];exact ⟨by omega,by omega,hm⟩
  ·obtain ⟨h1,h2,h3,h4⟩:=hg m hm
   obtain ⟨g1,g2,g3,g4⟩:=Zgu hB hg k (g m).2 h4
   simp only [svs,nns]
   exact ⟨⟨h1,g1⟩,by omega,by omega,g4⟩
theorem Zpm (op:Nat) (x:X4) (ho:op < 18):Zpe op (countP op x):=by
 have h3:x.a % 3 < 3:=Nat.mod_lt _ (by omega)
 unfold Zpe countP
 by_cases h1:op=6\/op=7
 ·rw [if_pos h1];omega
 ·rw [if_neg h1]
  by_cases h2:op=15
  ·rw [if_pos h2];omega
  ·rw [if_neg h2]
   by_cases h4:op=16
   ·rw [if_pos h4];omega
   ·rw [if_neg h4]
    by_cases h5:op=17
    ·rw [if_pos h5];omega
    ·rw [if_neg h5]
     by_cases h6:op > 7
     ·rw [if_pos h6];omega
     ·rw [if_neg h6];omega
theorem Z0m (op:Nat) {x:X4} (h:x.ok):0<=numP op x/\numP op x < 144115188075855872/\(op≠3->numP op x=0):=by
 have:=h.n
 unfold numP
 split
 ·split<;>omega
 ·omega
theorem Zvs (deep:Int) (m1:MS) (x:X4) (h:deep<=0\/m1.left<=0):opP deep m1 x < 6:=by unfold opP;rw [if_pos h];omega
theorem Zph (deep:Int) (x:X4) (h:deep<=0):Xo deep x≠3/\Xo deep x≠4/\Xo deep x≠7:=by
 unfold Xo
 split
 ·omega
 ·rename_i hh;omega
theorem Zqp (op:Nat) (x:X4):(Js op x).length<=2/\(∀ q∈Js op x,q∈nameL)/\(op≠17->Js op x=[]):=by
 have h3:x.a % 3 < 3:=Nat.mod_lt _ (by omega)
 unfold Js
 split
 ·refine ⟨by simp;omega,fun q hq=>?_,fun h=>by omega⟩
  obtain ⟨i,_,rfl⟩:=List.mem_map.1 hq
  exact Zev _
 ·rename_i h;exact ⟨by simp,fun q hq=>by simp at hq,fun _=>rfl⟩
theorem Zzj (op:Nat) (x:X4):(op=4->Zhp op x∈textL)/\(op=5->Zhp op x∈nameL)/\(op≠4->op≠5->Zhp op x=[]):=by
 refine ⟨fun h=>?_,fun h=>?_,fun h h'=>?_⟩
 ·subst h;exact Zui _
 ·subst h;exact Zev _
 ·unfold Zhp;rw [if_neg h,if_neg h']
mutual
theorem Zmp:∀ (f:Nat) (deep:Int),1<=f->deep+3<=f->GE (4*f) (Wq f deep)
 | 0,deep,h,_=>by omega
 | f+1,deep,_,hd=>fun m hm=>by
  have hx:=Zmy hm
  have hm1:=Zm7 hm
  have hl1:(Z3 m).left=m.left-1:=rfl
  rw [Wq]
  dsimp only
  have ho:=Zqk deep (Z3 m) (Zl m)
  have hlf:=Zvs deep (Z3 m) (Zl m)
  generalize opP deep (Z3 m) (Zl m)=op at *
  have hc:=Zpm op (Zl m) ho
  obtain ⟨n1,n2,n3⟩:=Z0m op hx
  obtain ⟨p1,p2,p3⟩:=Zqp op (Zl m)
  obtain ⟨t1,t2,t3⟩:=Zzj op (Zl m)
  by_cases hlow:deep<=0\/(Z3 m).left<=0
  ·have h6:=hlf hlow
   have hc0:countP op (Zl m)=0:=hc.1 h6
   have h17:op≠17:=by omega
   rw [hc0] at hc
   rw [hc0,if_neg h17]
   simp only [Y0,Tx.ev,Tx.nn,evs,svs,nns,List.length_nil]
   exact ⟨⟨ho,⟨n1,n2⟩,n3,t1,t2,t3,fun h=>⟨p3 h,trivial⟩,p1,p2,hc,trivial,trivial⟩,by omega,by omega,hm1⟩
  ·have hE:=Ziv (Zmp f (deep-1) (by omega) (by omega)) (countP op (Zl m))
   have hS:=Zgu (by omega) (stmtP_gs f (deep-1) (by omega) (by omega)) ((Zl m).n % 3) (Z3 m) hm1
   have h4:countP op (Zl m)<=4:=Zek _ _
   have hb:svs (if op=17 then Z2 (stmtP f (deep-1)) ((Zl m).n % 3) (Z3 m) else ([],Z3 m)).1/\(nns (if op=17 then Z2 (stmtP f (deep-1)) ((Zl m).n % 3) (Z3 m) else ([],Z3 m)).1:Int)+(if op=17 then Z2 (stmtP f (deep-1)) ((Zl m).n % 3) (Z3 m) else ([],Z3 m)).2.left=(Z3 m).left/\min (Z3 m).left (-(4*f))<=(if op=17 then Z2 (stmtP f (deep-1)) ((Zl m).n % 3) (Z3 m) else ([],Z3 m)).2.left/\mok (if op=17 then Z2 (stmtP f (deep-1)) ((Zl m).n % 3) (Z3 m) else ([],Z3 m)).2/\(op≠17->(if op=17 then Z2 (stmtP f (deep-1)) ((Zl m).n % 3) (Z3 m) else ([],Z3 m)).1=[]):=by
    by_cases h:op=17
    ·rw [if_pos h];exact ⟨hS.1,hS.2.1,hS.2.2.1,hS.2.2.2,fun h'=>absurd h h'⟩
    ·rw [if_neg h];exact ⟨by simp only [svs],by simp only [nns];omega,by dsimp only;omega,hm1,fun _=>rfl⟩
   generalize (if op=17 then Z2 (stmtP f (deep-1)) ((Zl m).n % 3) (Z3 m) else ([],Z3 m))=b at *
   obtain ⟨b1,b2,b3,b4,b5⟩:=hb
   obtain ⟨e1,e2,e3,e4,e5⟩:=hE b.2 b4
   simp only [Tx.ev,Tx.nn]
   refine ⟨⟨ho,⟨n1,n2⟩,n3,t1,t2,t3,fun h=>⟨p3 h,b5 h⟩,p1,p2,by rw [e2];exact hc,e1,b1⟩,by omega,by omega,e5⟩
theorem stmtP_gs:∀ (f:Nat) (deep:Int),2<=f->deep+3<=f->GS (4*f) (stmtP f deep)
 | 0,deep,h,_=>by omega
 | f+1,deep,hf,hd=>fun m hm=>by
  have hx:=Zmy hm
  have hm1:=Zm7 hm
  have hl1:(Z3 m).left=m.left-1:=rfl
  rw [stmtP]
  dsimp only
  have ho:=Zm0 deep (Zl m)
  have hlf:=Zph deep (Zl m)
  generalize Xo deep (Zl m)=k at *
  obtain ⟨e1,e2,e3,e4,e5⟩:=Ziv (Zmp f (deep-1) (by omega) (by omega)) (Ww k) (Z3 m) hm1
  have h3:Ww k<=3:=Zbc _
  generalize hes:Y0 (Wq f (deep-1)) (Ww k) (Z3 m)=es at *
  have hn1:k=0\/k=1\/k=7->Zep k (Zl m)∈nameL:=fun h=>by unfold Zep;rw [if_pos h];exact Zev _
  have hn2:k≠0->k≠1->k≠7->Zep k (Zl m)=[]:=fun h h' h''=>by unfold Zep;rw [if_neg (by omega)]
  by_cases hlow:deep<=0
  ·obtain ⟨k3,k4,k7⟩:=hlf hlow
   rw [if_neg (by omega),if_neg (by omega)]
   simp only [Tx.sv,Tx.nn,nns,svs]
   exact ⟨⟨ho,hn1,hn2,e2,fun _ _ _=>trivial,fun _ _=>trivial,e1,trivial,trivial⟩,by omega,by omega,e5⟩
  ·have hSt:=fun n m=>Zgu (by omega) (stmtP_gs f (deep-1) (by omega) (by omega)) n m
   have hb:∀ (c:Prop) [Decidable c] (n:Nat) (m:MS),mok m->svs (if c then Z2 (stmtP f (deep-1)) n m else ([],m)).1/\(nns (if c then Z2 (stmtP f (deep-1)) n m else ([],m)).1:Int)+(if c then Z2 (stmtP f (deep-1)) n m else ([],m)).2.left=m.left/\min m.left (-(4*f))<=(if c then Z2 (stmtP f (deep-1)) n m else ([],m)).2.left/\mok (if c then Z2 (stmtP f (deep-1)) n m else ([],m)).2/\(¬ c->(if c then Z2 (stmtP f (deep-1)) n m else ([],m)).1=[]):=by
    intro c _ n m hm
    have hS:=hSt n m hm
    by_cases h:c
    ·rw [if_pos h];exact ⟨hS.1,hS.2.1,hS.2.2.1,hS.2.2.2,fun h'=>absurd h h'⟩
    ·rw [if_neg h];exact ⟨by simp only [svs],by simp only [nns];omega,by dsimp only;omega,hm,fun _=>rfl⟩
   obtain ⟨b1,b2,b3,b4,b5⟩:=hb (k=3\/k=7\/k=4) ((Zl m).a % 3) es.2 e5
   generalize (if k=3\/k=7\/k=4 then Z2 (stmtP f (deep-1)) ((Zl m).a % 3) es.2 else ([],es.2))=b at *
   obtain ⟨c1,c2,c3,c4,c5⟩:=hb (k=3\/k=7) ((Zl m).n % 3) b.2 b4
   generalize (if k=3\/k=7 then Z2 (stmtP f (deep-1)) ((Zl m).n % 3) b.2 else ([],b.2))=c at *
   simp only [Tx.sv,Tx.nn]
   exact ⟨⟨ho,hn1,hn2,e2,fun h h' h''=>b5 (by omega),fun h h'=>c5 (by omega),e1,b1,c1⟩,by omega,by omega,c4⟩
end
theorem Zgp {s:Bs} (h:s∈nameL):s.length<=3:=by
 have:∀ s∈nameL,s.length<=3:=by decide
 exact this s h
theorem Zsa {s:Bs} (h:s∈textL):s.length<=9:=by
 have:∀ s∈textL,s.length<=9:=by decide
 exact this s h
theorem Zh4:∀ {l:Ts},(∀ q∈l,q∈nameL)->lens l<=5*l.length
 | [],_=>by simp [lens]
 | x :: r,h=>by
  have h1:=Zgp (h x (by simp))
  have h2:=Zh4 fun q hq=>h q (List.mem_cons_of_mem _ hq)
  simp only [lens,List.map_cons,List.sum_cons,List.length_cons] at *
  omega
section
mutual
theorem Ya2 {dec:Int->Bs} (hdec:∀ n:Int,0<=n->n < 144115188075855872->(dec n).length<=24):∀ t:Tx,t.ev->t.bw dec<=128*t.nn
 | .ex op num text ps qs b,h=>by
  simp only [Tx.ev] at h
  obtain ⟨h1,⟨h2,h3⟩,h4,h5,h6,h7,h8,h9,h10,h11,h12,h13⟩:=h
  have e1:=evs_bw hdec ps h12
  have e2:=svs_bw hdec b h13
  have e3:=Zh4 h10
  have e4:=hdec num h2 h3
  have e5:text.length<=9:=by
   by_cases g4:op=4
   ·exact Zsa (h5 g4)
   ·by_cases g5:op=5
    ·have:=Zgp (h6 g5);omega
    ·rw [h7 g4 g5];simp
  have e6:=h11.2.2.2.2.2.2
  simp only [Tx.bw,Tx.nn]
  omega
 | .st ..,h=>by simp only [Tx.ev] at h
theorem evs_bw {dec:Int->Bs} (hdec:∀ n:Int,0<=n->n < 144115188075855872->(dec n).length<=24):∀ l:List Tx,evs l->bws dec l<=128*nns l
 | [],_=>by simp only [bws,nns];omega
 | x :: r,h=>by
  simp only [evs] at h
  have h1:=Ya2 hdec x h.1
  have h2:=evs_bw hdec r h.2
  simp only [bws,nns]
  omega
theorem Yap {dec:Int->Bs} (hdec:∀ n:Int,0<=n->n < 144115188075855872->(dec n).length<=24):∀ t:Tx,t.sv->t.bw dec<=128*t.nn
 | .st kind name es b e a,h=>by
  simp only [Tx.sv] at h
  obtain ⟨h1,h2,h3,h4,h5,h6,h8,h9,h10⟩:=h
  have e1:=evs_bw hdec es h8
  have e2:=svs_bw hdec b h9
  have e3:=svs_bw hdec e h10
  have e4:=Zbc kind
  have e5:name.length<=3:=by
   by_cases g:kind=0\/kind=1\/kind=7
   ·exact Zgp (h2 g)
   ·rw [h3 (by omega) (by omega) (by omega)];simp
  simp only [Tx.bw,Tx.nn]
  omega
 | .ex ..,h=>by simp only [Tx.sv] at h
theorem svs_bw {dec:Int->Bs} (hdec:∀ n:Int,0<=n->n < 144115188075855872->(dec n).length<=24):∀ l:List Tx,svs l->bws dec l<=128*nns l
 | [],_=>by simp only [bws,nns];omega
 | x :: r,h=>by
  simp only [svs] at h
  have h1:=Yap hdec x h.1
  have h2:=svs_bw hdec r h.2
  simp only [bws,nns]
  omega
end
end
end Go.AM
namespace Go.AM
open Go
abbrev wLet:Bs:=[108,101,116]
abbrev wIf:Bs:=[105,102]
abbrev Zh5:Bs:=[101,108,115,101]
abbrev Zhv:Bs:=[119,104,105,108,101]
abbrev Zbl:Bs:=[114,101,116,117,114,110]
abbrev Zc1:Bs:=[116,104,114,111,119]
abbrev wTry:Bs:=[116,114,121]
abbrev Zhs:Bs:=[99,97,116,99,104]
abbrev wFn:Bs:=[102,110]
abbrev wNil:Bs:=[110,105,108]
abbrev Zks:Bs:=[116,114,117,101]
abbrev Zik:Bs:=[102,97,108,115,101]
abbrev Zmd:Bs:=[45]
abbrev Zpw:Bs:=[33]
abbrev sLp:Bs:=[40]
abbrev sRp:Bs:=[41]
abbrev sLb:Bs:=[91]
abbrev sRb:Bs:=[93]
abbrev sLc:Bs:=[123]
abbrev sRc:Bs:=[125]
abbrev Vb:Bs:=[59]
abbrev Zh0:Bs:=[44]
abbrev Zhw:Bs:=[58]
abbrev sDot:Bs:=[46]
abbrev sEq:Bs:=[61]
inductive PR (α:Type) where
 | ok (a:α) (l:List Tk)
 | err (at_:Nat) (e:Int)
 | out
def PR.bind {α β:Type} (r:PR α) (f:α->List Tk->PR β):PR β:=match r with
 | .ok a l=>f a l
 | .err a e=>.err a e
 | .out=>.out
theorem Zn {α β:Type} (a:α) (l:List Tk) (f:α->List Tk->PR β):PR.bind (.ok a l) f=f a l:=rfl
def hdT (l:List Tk):Tk:=l.headD ⟨0,[],0,0⟩
def isK (l:List Tk) (t:Bs):Bool:=((hdT l).k==4 || (hdT l).k==1)&&(hdT l).t==t
def Yf (t:Bs) (l:List Tk):PR Unit:=if isK l t then .ok () l.tail else .err (hdT l).at_ 1
def resL:Ts:=[wLet,wIf,Zh5,Zhv,Zbl,Zc1,wTry,Zhs,wFn,wNil,Zks,Zik]
def Wd (l:List Tk):PR Bs:=if (hdT l).k=1/\(hdT l).t∉resL then .ok (hdT l).t l.tail else .err (hdT l).at_ 1
def lvY (n:Nat) (t:Bs):Option Nat :=
 if n=0 then (if t=[61,61] then some 11 else if t=[33,61] then some 12 else if t=[60] then some 13 else none)
 else if n=1 then (if t=[43] then some 8 else if t=[45] then some 9 else none)
 else if n=2 then (if t=[42] then some 10 else none) else none
def W5 (first:Bool) (l:List Tk):PR Unit:=if first then .ok () l else Yf Zh0 l
def Xy:Nat->Ts->List Tk->PR Ts
 | 0,_,_=>.out
 | f+1,acc,l=>if isK l sRp then .ok acc l.tail else (W5 acc.isEmpty l).bind fun _ l=>(Wd l).bind fun s l=>Xy f (acc++[s]) l
def Vg (w:List Tk->PR Tx) (a:Nat) (e:Tx) (l:List Tk):PR Tx :=
 if (hdT l).k=4/\(hdT l).t=sEq then
  match e with
  | .ex 5 _ s _ _ _=>(w l.tail).bind fun x l=>(Yf Vb l).bind fun _ l=>.ok (.st 1 s [x] [] [] a) l
  | .ex 14 _ _ ps _ _=>(w l.tail).bind fun x l=>(Yf Vb l).bind fun _ l=>.ok (.st 2 [] (ps++[x]) [] [] a) l
  | _=>.err a 7
 else (Yf Vb l).bind fun _ l=>.ok (.st 8 [] [e] [] [] a) l
mutual
def Zu:Nat->Nat->List Tk->PR Tx
 | 0,_,_=>.out
 | f+1,d,l=>if d=20 then .err (hdT l).at_ 3 else exprY f 0 (d+1) l
def exprY:Nat->Nat->Nat->List Tk->PR Tx
 | 0,_,_,_=>.out
 | f+1,n,d,l=>if n=3 then unaryY f d l else (exprY f (n+1) d l).bind fun e l=>lvlY f n d e l
def lvlY:Nat->Nat->Nat->Tx->List Tk->PR Tx
 | 0,_,_,_,_=>.out
 | f+1,n,d,e,l=>match (if (hdT l).k=4 then lvY n (hdT l).t else none) with
  | none=>.ok e l
  | some op=>(exprY f (n+1) d l.tail).bind fun y l=>if n=0 then .ok (.ex op 0 [] [e,y] [] []) l else lvlY f n d (.ex op 0 [] [e,y] [] []) l
def unaryY:Nat->Nat->List Tk->PR Tx
 | 0,_,_=>.out
 | f+1,d,l =>
  if isK l Zmd then (if d=20 then .err (hdT l.tail).at_ 3 else (unaryY f (d+1) l.tail).bind fun e l=>.ok (.ex 6 0 [] [e] [] []) l)
  else if isK l Zpw then (if d=20 then .err (hdT l.tail).at_ 3 else (unaryY f (d+1) l.tail).bind fun e l=>.ok (.ex 7 0 [] [e] [] []) l)
  else (oneY f d l).bind fun e l=>postY f d e l
def postY:Nat->Nat->Tx->List Tk->PR Tx
 | 0,_,_,_=>.out
 | f+1,d,e,l =>
  if isK l sLp then (listY f d [] l.tail).bind fun a l=>postY f d (.ex 15 0 [] (e :: a) [] []) l
  else if isK l sLb then (Zu f d l.tail).bind fun k l=>(Yf sRb l).bind fun _ l=>postY f d (.ex 14 0 [] [e,k] [] []) l
  else if isK l sDot then (Wd l.tail).bind fun s l=>postY f d (.ex 14 0 [] [e,.ex 4 0 s [] [] []] [] []) l
  else .ok e l
def listY:Nat->Nat->List Tx->List Tk->PR (List Tx)
 | 0,_,_,_=>.out
 | f+1,d,acc,l=>if isK l sRp then .ok acc l.tail else (W5 acc.isEmpty l).bind fun _ l=>(Zu f d l).bind fun e l=>listY f d (acc++[e]) l
def oneY:Nat->Nat->List Tk->PR Tx
 | 0,_,_=>.out
 | f+1,d,l =>
  if (hdT l).k=2 then .ok (.ex 3 (hdT l).x [] [] [] []) l.tail
  else if (hdT l).k=3 then .ok (.ex 4 0 (hdT l).t [] [] []) l.tail
  else if isK l wNil then .ok (.ex 0 0 [] [] [] []) l.tail
  else if isK l Zks then .ok (.ex 2 0 [] [] [] []) l.tail
  else if isK l Zik then .ok (.ex 1 0 [] [] [] []) l.tail
  else if isK l sLp then (Zu f d l.tail).bind fun e l=>(Yf sRp l).bind fun _ l=>.ok e l
  else if isK l sLc then recY f d [] l.tail
  else if isK l wFn then (Yf sLp l.tail).bind fun _ l=>(Xy f [] l).bind fun ps l=>(blockY f d l).bind fun b l=>.ok (.ex 17 0 [] [] ps b) l
  else (Wd l).bind fun s l=>.ok (.ex 5 0 s [] [] []) l
def recY:Nat->Nat->List Tx->List Tk->PR Tx
 | 0,_,_,_=>.out
 | f+1,d,acc,l =>
  if isK l sRc then .ok (.ex 16 0 [] acc [] []) l.tail
  else (W5 acc.isEmpty l).bind fun _ l =>
   (if isK l sLb then (Zu f d l.tail).bind fun k l=>(Yf sRb l).bind fun _ l=>.ok k l else (Wd l).bind fun s l=>.ok (.ex 4 0 s [] [] []) l).bind fun k l =>
   (Yf Zhw l).bind fun _ l=>(Zu f d l).bind fun v l=>recY f d (acc++[k,v]) l
def blockY:Nat->Nat->List Tk->PR (List Tx)
 | 0,_,_=>.out
 | f+1,d,l=>(Yf sLc l).bind fun _ l=>if d=20 then .err (hdT l).at_ 3 else stmtsY f (d+1) [] l
def stmtsY:Nat->Nat->List Tx->List Tk->PR (List Tx)
 | 0,_,_,_=>.out
 | f+1,d,acc,l=>if isK l sRc then .ok acc l.tail else (stmtY f d l).bind fun s l=>stmtsY f d (acc++[s]) l
def stmtY:Nat->Nat->List Tk->PR Tx
 | 0,_,_=>.out
 | f+1,d,l0 =>
  if isK l0 Zbl then (Zu f d l0.tail).bind fun e l=>(Yf Vb l).bind fun _ l=>.ok (.st 5 [] [e] [] [] (hdT l0).at_) l
  else if isK l0 Zc1 then (Zu f d l0.tail).bind fun e l=>(Yf Vb l).bind fun _ l=>.ok (.st 6 [] [e] [] [] (hdT l0).at_) l
  else if isK l0 wLet then (Wd l0.tail).bind fun s l=>(Yf sEq l).bind fun _ l=>(Zu f d l).bind fun e l=>(Yf Vb l).bind fun _ l=>.ok (.st 0 s [e] [] [] (hdT l0).at_) l
  else if isK l0 wIf then (Zu f d l0.tail).bind fun e l=>(blockY f d l).bind fun b l =>
   if isK l Zh5 then (blockY f d l.tail).bind fun c l=>.ok (.st 3 [] [e] b c (hdT l0).at_) l else .ok (.st 3 [] [e] b [] (hdT l0).at_) l
  else if isK l0 Zhv then (Zu f d l0.tail).bind fun e l=>(blockY f d l).bind fun b l=>.ok (.st 4 [] [e] b [] (hdT l0).at_) l
  else if isK l0 wTry then (blockY f d l0.tail).bind fun b l=>(Yf Zhs l).bind fun _ l=>(Wd l).bind fun s l=>(blockY f d l).bind fun c l=>.ok (.st 7 s [] b c (hdT l0).at_) l
  else (Zu f d l0).bind fun e l=>Vg (Zu f d) (hdT l0).at_ e l
end
def modY:Nat->List Tx->List Tk->PR (List Tx)
 | 0,_,_=>.out
 | f+1,acc,l=>if (hdT l).k=0 then .ok acc l else (stmtY f 0 l).bind fun s l=>modY f (acc++[s]) l
end Go.AM
namespace Go.AM
open Go
def Tn (z:Nat) {α:Type} (r:PR α) (n:Nat):Prop:=match r with
 | .ok _ l=>l.length < n
 | .err _ _=>True
 | .out=>0 < z
theorem Tn.bind {z:Nat} {α β:Type} {r:PR α} {g:α->List Tk->PR β} {n m:Nat} (h:Tn z r n) (hg:∀ a l,l.length < n->Tn z (g a l) m):Tn z (r.bind g) m:=by
 cases r with
 | ok a l=>exact hg a l h
 | err a e=>trivial
 | out=>exact h
theorem Tn.le {z:Nat} {α:Type} {r:PR α} {n m:Nat} (h:Tn z r n) (hm:n<=m):Tn z r m:=by
 cases r with
 | ok a l=>exact Nat.lt_of_lt_of_le h hm
 | err a e=>trivial
 | out=>exact h
theorem Tn.ne {α:Type} {r:PR α} {n:Nat} (h:Tn 0 r n):r≠.out:=fun e=>by subst e;exact absurd h (by show ¬ 0 < 0;omega)
theorem Zb9 {l:List Tk} (h:(hdT l).k≠0):l.tail.length < l.length:=by
 cases l with
 | nil=>exact absurd rfl h
 | cons a r=>simp
theorem Zyx {l:List Tk} {t:Bs} (h:isK l t=true):(hdT l).k≠0:=fun e=>by
 simp only [isK,Bool.and_eq_true,Bool.or_eq_true,beq_iff_eq,e] at h
 omega
theorem Zq {l:List Tk} {t:Bs} (h:isK l t=true):l.tail.length < l.length:=Zb9 (Zyx h)
theorem W7 {z:Nat} (t:Bs) (l:List Tk):Tn z (Yf t l) l.length:=by
 unfold Yf
 split
 ·rename_i h;exact Zq h
 ·trivial
theorem Zbu {z:Nat} (l:List Tk):Tn z (Wd l) l.length:=by
 unfold Wd
 split
 ·rename_i h;exact Zb9 (by rw [h.1];decide)
 ·trivial
theorem Zfk {z:Nat} (b:Bool) (l:List Tk):Tn z (W5 b l) (l.length+1):=by
 unfold W5
 split
 ·exact Nat.lt_succ_self _
 ·exact (W7 _ _).le (Nat.le_succ _)
structure Tt (z f:Nat):Prop where
 whole:∀ d l,10*l.length+7<=f+z->Tn z (Zu f d l) l.length
 expr:∀ n d l,n<=3->10*l.length+(6-n)<=f+z->Tn z (exprY f n d l) l.length
 lvl:∀ n d e l,n<=3->10*l.length+1<=f+z->Tn z (lvlY f n d e l) (l.length+1)
 unary:∀ d l,10*l.length+2<=f+z->Tn z (unaryY f d l) l.length
 post:∀ d e l,10*l.length+1<=f+z->Tn z (postY f d e l) (l.length+1)
 list:∀ d acc l,10*l.length+8<=f+z->Tn z (listY f d acc l) l.length
 one:∀ d l,10*l.length+1<=f+z->Tn z (oneY f d l) l.length
 record:∀ d acc l,10*l.length+8<=f+z->Tn z (recY f d acc l) l.length
 params:∀ acc l,10*l.length+1<=f+z->Tn z (Xy f acc l) l.length
 block:∀ d l,10*l.length+1<=f+z->Tn z (blockY f d l) l.length
 stmts:∀ d acc l,10*l.length+9<=f+z->Tn z (stmtsY f d acc l) l.length
 stmt:∀ d l,10*l.length+8<=f+z->Tn z (stmtY f d l) l.length
theorem Z04 {z:Nat} {w:List Tk->PR Tx} {n:Nat} (hw:∀ l,l.length < n->Tn z (w l) l.length) (a:Nat) (e:Tx) (l:List Tk) (hl:l.length<=n):Tn z (Vg w a e l) l.length:=by
 unfold Vg
 split
 ·rename_i h
  have hp:=Zb9 (l:=l) (by rw [h.1];decide)
  have fin:∀ g:Tx->Tx,Tn z ((w l.tail).bind fun x l=>(Yf Vb l).bind fun _ l=>.ok (g x) l) l.length:=fun g =>
   (hw l.tail (by omega)).bind fun x l1 h1=>(W7 _ l1).bind fun _ l2 h2=>by show l2.length < _;omega
  split
  ·exact fin _
  ·exact fin _
  ·trivial
 ·exact (W7 _ l).bind fun _ l1 h1=>h1
theorem Zz0 {z:Nat}:Tt z 0:=by
 constructor<;>intros<;>simp only [Zu,exprY,lvlY,unaryY,postY,listY,oneY,recY,Xy,blockY,stmtsY,stmtY]<;>show 0 < z<;>omega
theorem Z1y {z f:Nat} (T:Tt z f):Tt z (f+1) where
 whole d l h:=by
  rw [Zu]
  split
  ·trivial
  ·exact T.expr 0 _ l (by omega) (by omega)
 expr n d l hn h:=by
  rw [exprY]
  split
  ·exact T.unary d l (by omega)
  ·rename_i hn3
   exact (T.expr (n+1) d l (by omega) (by omega)).bind fun e l1 h1=>(T.lvl n d e l1 hn (by omega)).le (by omega)
 lvl n d e l hn h:=by
  rw [lvlY]
  split
  ·exact Nat.lt_succ_self _
  ·rename_i op h1
   have hp:l.tail.length < l.length:=Zb9 (fun hk=>by rw [hk] at h1;simp at h1)
   have hn3:n≠3:=fun hk=>by subst hk;simp [lvY] at h1
   refine (T.expr (n+1) d l.tail (by omega) (by omega)).bind fun y l1 h1=>?_
   split
   ·show l1.length < _;omega
   ·exact (T.lvl n d _ l1 hn (by omega)).le (by omega)
 unary d l h:=by
  rw [unaryY]
  split
  ·rename_i hk
   have hp:=Zq hk
   split
   ·trivial
   ·exact (T.unary _ l.tail (by omega)).bind fun e l1 h1=>by show l1.length < _;omega
  ·split
   ·rename_i hk
    have hp:=Zq hk
    split
    ·trivial
    ·exact (T.unary _ l.tail (by omega)).bind fun e l1 h1=>by show l1.length < _;omega
   ·exact (T.one d l (by omega)).bind fun e l1 h1=>(T.post d e l1 (by omega)).le (by omega)
 post d e l h:=by
  rw [postY]
  split
  ·rename_i hk
   have hp:=Zq hk
   exact (T.list d [] l.tail (by omega)).bind fun a l1 h1=>(T.post d _ l1 (by omega)).le (by omega)
  ·split
   ·rename_i hk
    have hp:=Zq hk
    exact (T.whole d l.tail (by omega)).bind fun k l1 h1=>(W7 _ l1).bind fun _ l2 h2=>(T.post d _ l2 (by omega)).le (by omega)
   ·split
    ·rename_i hk
     have hp:=Zq hk
     exact (Zbu l.tail).bind fun s l1 h1=>(T.post d _ l1 (by omega)).le (by omega)
    ·exact Nat.lt_succ_self _
 list d acc l h:=by
  rw [listY]
  split
  ·rename_i hk;exact Zq hk
  ·exact (Zfk _ l).bind fun _ l1 h1=>(T.whole d l1 (by omega)).bind fun e l2 h2=>(T.list d _ l2 (by omega)).le (by omega)
 one d l h:=by
  rw [oneY]
  split
  ·rename_i hk;exact Zb9 (by rw [hk];decide)
  split
  ·rename_i hk;exact Zb9 (by rw [hk];decide)
  split
  ·rename_i hk;exact Zq hk
  split
  ·rename_i hk;exact Zq hk
  split
  ·rename_i hk;exact Zq hk
  split
  ·rename_i hk
   have hp:=Zq hk
   exact (T.whole d l.tail (by omega)).bind fun e l1 h1=>(W7 _ l1).bind fun _ l2 h2=>by show l2.length < _;omega
  split
  ·rename_i hk
   have hp:=Zq hk
   exact (T.record d [] l.tail (by omega)).le (by omega)
  split
  ·rename_i hk
   have hp:=Zq hk
   exact (W7 _ l.tail).bind fun _ l1 h1=>(T.params [] l1 (by omega)).bind fun ps l2 h2=>(T.block d l2 (by omega)).bind fun b l3 h3=>by show l3.length < _;omega
  ·exact (Zbu l).bind fun s l1 h1=>h1
 record d acc l h:=by
  rw [recY]
  split
  ·rename_i hk;exact Zq hk
  ·refine (Zfk _ l).bind fun _ l1 h1=>?_
   have key:Tn z (if isK l1 sLb then (Zu f d l1.tail).bind fun k l=>(Yf sRb l).bind fun _ l=>.ok k l else (Wd l1).bind fun s l=>.ok (.ex 4 0 s [] [] []) l) l1.length:=by
    split
    ·rename_i hk
     have hp:=Zq hk
     exact (T.whole d l1.tail (by omega)).bind fun k l2 h2=>(W7 _ l2).bind fun _ l3 h3=>by show l3.length < _;omega
    ·exact (Zbu l1).bind fun s l2 h2=>h2
   exact key.bind fun k l2 h2=>(W7 _ l2).bind fun _ l3 h3=>(T.whole d l3 (by omega)).bind fun v l4 h4=>(T.record d _ l4 (by omega)).le (by omega)
 params acc l h:=by
  rw [Xy]
  split
  ·rename_i hk;exact Zq hk
  ·exact (Zfk _ l).bind fun _ l1 h1=>(Zbu l1).bind fun s l2 h2=>(T.params _ l2 (by omega)).le (by omega)
 block d l h:=by
  rw [blockY]
  refine (W7 _ l).bind fun _ l1 h1=>?_
  split
  ·trivial
  ·exact (T.stmts _ [] l1 (by omega)).le (by omega)
 stmts d acc l h:=by
  rw [stmtsY]
  split
  ·rename_i hk;exact Zq hk
  ·exact (T.stmt d l (by omega)).bind fun s l1 h1=>(T.stmts d _ l1 (by omega)).le (by omega)
 stmt d l h:=by
  rw [stmtY]
  have two:∀ (t:Bs) (g:Tx->Tx),isK l t=true->Tn z ((Zu f d l.tail).bind fun e l=>(Yf Vb l).bind fun _ l=>PR.ok (g e) l) l.length:=fun t g hk=>by
   have hp:=Zq hk
   exact (T.whole d l.tail (by omega)).bind fun e l1 h1=>(W7 _ l1).bind fun _ l2 h2=>by show l2.length < _;omega
  split
  ·rename_i hk;exact two _ _ hk
  split
  ·rename_i hk;exact two _ _ hk
  split
  ·rename_i hk
   have hp:=Zq hk
   exact (Zbu l.tail).bind fun s l1 h1=>(W7 _ l1).bind fun _ l2 h2=>(T.whole d l2 (by omega)).bind fun e l3 h3=>(W7 _ l3).bind fun _ l4 h4=>by show l4.length < _;omega
  split
  ·rename_i hk
   have hp:=Zq hk
   refine (T.whole d l.tail (by omega)).bind fun e l1 h1=>(T.block d l1 (by omega)).bind fun b l2 h2=>?_
   split
   ·rename_i hk2
    have hp2:=Zq hk2
    exact (T.block d l2.tail (by omega)).bind fun c l3 h3=>by show l3.length < _;omega
   ·show l2.length < _;omega
  split
  ·rename_i hk
   have hp:=Zq hk
   exact (T.whole d l.tail (by omega)).bind fun e l1 h1=>(T.block d l1 (by omega)).bind fun b l2 h2=>by show l2.length < _;omega
  split
  ·rename_i hk
   have hp:=Zq hk
   exact (T.block d l.tail (by omega)).bind fun b l1 h1=>(W7 _ l1).bind fun _ l2 h2=>(Zbu l2).bind fun s l3 h3=>(T.block d l3 (by omega)).bind fun c l4 h4=>by show l4.length < _;omega
  ·exact (T.whole d l (by omega)).bind fun e l1 h1=>(Z04 (n:=l1.length) (fun l2 h2=>T.whole d l2 (by omega)) _ e l1 (Nat.le_refl _)).le (by omega)
theorem Zia (z:Nat):∀ f,Tt z f
 | 0=>Zz0
 | f+1=>Z1y (Zia z f)
theorem Zx1:∀ (f:Nat) (acc:List Tx) (l:List Tk),10*l.length+9<=f->modY f acc l≠.out
 | 0,acc,l,h=>by omega
 | f+1,acc,l,h=>by
  rw [modY]
  split
  ·exact fun h=>by cases h
  ·have h1:=(Zia 0 f).stmt 0 l (by omega)
   cases hs:stmtY f 0 l with
   | ok a l1=>rw [hs] at h1;exact Zx1 f _ l1 (by have:l1.length < l.length:=h1;omega)
   | err a e=>exact fun h=>by cases h
   | out=>rw [hs] at h1;exact absurd h1 (by show ¬ 0 < 0;omega)
theorem Tn.lt {z:Nat} {α:Type} {r:PR α} {n:Nat} (h:Tn z r n) {a:α} {l:List Tk} (hr:r = .ok a l):l.length < n:=by subst hr;exact h
theorem Zdf {f d:Nat} {l l' : List Tk} {e:Tx} (h:Zu f d l = .ok e l'):l'.length < l.length:=((Zia (10*l.length+7) f).whole d l (by omega)).lt h
theorem Zoj {f d:Nat} {l l' : List Tk} {e:Tx} (h:stmtY f d l = .ok e l'):l'.length < l.length:=((Zia (10*l.length+8) f).stmt d l (by omega)).lt h
theorem Un {t:Bs} {l l' : List Tk} {a:Unit} (h:Yf t l = .ok a l'):l'.length < l.length:=(W7 (z:=0) t l).lt h
theorem Zin {l l' : List Tk} {a:Bs} (h:Wd l = .ok a l'):l'.length < l.length:=(Zbu (z:=0) l).lt h
theorem Zln:∀ (f d:Nat) (acc:List Tx) (l:List Tk) {a:List Tx} {l' : List Tk},listY f d acc l = .ok a l'->a.length+l'.length<=acc.length+l.length
 | 0,d,acc,l,a,l',h=>by simp only [listY] at h;cases h
 | f+1,d,acc,l,a,l',h=>by
  rw [listY] at h
  split at h
  ·cases h;simp
  ·cases hc:W5 acc.isEmpty l with
   | err x y=>rw [hc] at h;cases h
   | out=>rw [hc] at h;cases h
   | ok u l1 =>
    rw [hc] at h
    have h1:=(Zfk (z:=0) acc.isEmpty l).lt hc
    cases hw:Zu f d l1 with
    | err x y=>rw [Zn,hw] at h;cases h
    | out=>rw [Zn,hw] at h;cases h
    | ok e l2 =>
     rw [Zn,hw,Zn] at h
     have h2:=Zdf hw
     have h3:=Zln f d (acc++[e]) l2 h
     rw [List.length_append] at h3
     simp only [List.length_singleton] at h3
     omega
def Zkh (l:List Tk):Nat:=10*l.length+9
end Go.AM
set_option maxRecDepth 100000
namespace Go.AM.YtlillgmgpmbfnaaGreatDoorT
open Go Go.AM Go.Proofs
abbrev Zc8 (a:Nat) (e:Int):V:=.ifc 88 (.agg [.int .i64 a,.int .i64 e])
def Ends (l:List Tk):Prop:=(∃ a∈l,a.k=0)/\l.length<=100000
theorem Ends.tail {l:List Tk} (h:Ends l) (hk:(hdT l).k≠0):Ends l.tail:=by
 obtain ⟨⟨a,h1,h2⟩,h3⟩:=h
 cases l with
 | nil=>cases h1
 | cons b r =>
  rcases List.mem_cons.1 h1 with rfl | h1
  ·exact absurd h2 hk
  ·exact ⟨⟨a,h1,h2⟩,by simp at h3 ⊢;omega⟩
theorem Ends.cons {l:List Tk} (h:Ends l):∃ r,l=hdT l :: r:=by
 obtain ⟨⟨a,h1,h2⟩,_⟩:=h
 cases l with
 | nil=>cases h1
 | cons b r=>exact ⟨r,rfl⟩
def TkIn (H:Hp) (pr:Nat) (v:V) (l:List Tk):Prop :=
 ∃ b off e ro cells,v = .sl b off l.length none 4/\b < pr/\H.get b=some (.row e 4 ro cells)/\off % 4=0/\(cells.drop off).take (l.length*4)=tksV l/\off+l.length*4<=cells.length
def LvE (n:Nat) (es:List (V×V×Nat)):Prop:=∀ t,Xu (.str t) es 0=some none/\lvY n t=none\/∃ j op,Xu (.str t) es 0=some (some (j,.int .i64 (op:Nat)))/\lvY n t=some op
abbrev simL:List V:=[.str Zbl,.int .i64 5,.str Zc1,.int .i64 6]
structure LvG (N:Nat) (H:Hp):Prop where
 res:H.get 1=some (.row 118 1 true (resL.map .str))
 sim:H.get 2=some (.row 122 1 true simL)
 lev:∃ x y z X Y Z cx cy cz,H.get 6=some (.row 206 1 true [.mp x,.mp y,.mp z])/\x < N/\y < N/\z < N/\H.get x=some (.map true X cx)/\H.get y=some (.map true Y cy)/\H.get z=some (.map true Z cz)/\LvE 0 X/\LvE 1 Y/\LvE 2 Z
 n0:1 < N
 n1:2 < N
 n2:6 < N
theorem LvG.of_get {N:Nat} {H H' : Hp} (h:LvG N H) (hg:∀ b,b < N->H'.get b=H.get b):LvG N H':=by
 obtain ⟨h1,h2,⟨x,y,z,X,Y,Z,cx,cy,cz,g0,g1,g2,g3,g4,g5,g6,g7⟩,n0,n1,n2⟩:=h
 exact ⟨by rw [hg _ n0];exact h1,by rw [hg _ n1];exact h2,⟨x,y,z,X,Y,Z,cx,cy,cz,by rw [hg _ n2];exact g0,g1,g2,g3,by rw [hg _ g1];exact g4,by rw [hg _ g2];exact g5,by rw [hg _ g3];exact g6,g7⟩,n0,n1,n2⟩
structure PAt (H:Hp) (pr:Nat) (l:List Tk) (d:Nat):Prop where
 st:H.stale=[]
 row:∃ v,H.get pr=some (.row 92 2 false [v,.int .i64 d])/\TkIn H pr v l
 lt:pr < H.next
 ends:Ends l
 dp:d<=20
 gl:∃ N,N<=pr/\LvG N H
theorem TkIn.of_get {H H' : Hp} {pr:Nat} {v:V} {l:List Tk} (h:TkIn H pr v l) (hg:∀ b,b < pr->H'.get b=H.get b):TkIn H' pr v l:=by
 obtain ⟨b,off,e,ro,cells,h1,h2,h4,h5⟩:=h
 exact ⟨b,off,e,ro,cells,h1,h2,by rw [hg b h2];exact h4,h5⟩
theorem PAt.of_get {H H' : Hp} {pr:Nat} {l:List Tk} {d:Nat} (h:PAt H pr l d) (hs:H'.stale=[]) (hle:H.next<=H'.next) (hg:∀ b,b<=pr->H'.get b=H.get b):PAt H' pr l d:=by
 obtain ⟨h0,⟨v,h1,h2⟩,h3,h4,h5,N,h6,h7⟩:=h
 exact ⟨hs,⟨v,by rw [hg pr (Nat.le_refl _)];exact h1,h2.of_get fun b hb=>hg b (by omega)⟩,Nat.lt_of_lt_of_le h3 hle,h4,h5,N,h6,h7.of_get fun b hb=>hg b (by omega)⟩
theorem PAt.ext {X:Nat->Prop} {H H' : Hp} {pr:Nat} {l:List Tk} {d:Nat} (h:PAt H pr l d) (hE:Ext X H H') (hX:∀ b,b<=pr->¬ X b):PAt H' pr l d:=h.of_get hE.st hE.le fun b hb=>hE.get b (Nat.lt_of_le_of_lt hb h.lt) (hX b hb)
theorem PAt.set {H H' : Hp} {pr:Nat} {l l' : List Tk} {d d' : Nat} {v' : V} (h:PAt H pr l d) (hs:H'.stale=[]) (hle:H.next<=H'.next) (hr:H'.get pr=some (.row 92 2 false [v',.int .i64 d'])) (hv:TkIn H pr v' l') (he:Ends l') (hd:d'<=20) (hg:∀ b,b < pr->H'.get b=H.get b):PAt H' pr l' d':=by
 obtain ⟨h0,⟨v,h1,h2⟩,h3,h4,h5,N,h6,h7⟩:=h
 exact ⟨hs,⟨v',hr,hv.of_get hg⟩,Nat.lt_of_lt_of_le h3 hle,he,hd,N,h6,h7.of_get fun b hb=>hg b (by omega)⟩
theorem TkIn.head {H:Hp} {pr:Nat} {v:V} {l:List Tk} (h:TkIn H pr v l) (he:Ends l):∃ b off e ro cells,v = .sl b off l.length none 4/\b < pr/\H.get b=some (.row e 4 ro cells)/\off % 4=0/\off+4<=cells.length/\0 < l.length/\(cells.drop off).take 4=[.int .i64 (hdT l).k,.str (hdT l).t,.int .i64 (hdT l).x,.int .i64 (hdT l).at_] /\
  cells[off]? = some (.int .i64 (hdT l).k)/\cells[off+1]? = some (.str (hdT l).t)/\cells[off+2]? = some (.int .i64 (hdT l).x)/\cells[off+3]? = some (.int .i64 (hdT l).at_) /\
  ((hdT l).k≠0->TkIn H pr (.sl b (off+4) (l.length-1) none 4) l.tail/\1 < l.length):=by
 obtain ⟨b,off,e,ro,cells,h1,h2,h4,h5,h6,h7⟩:=h
 obtain ⟨r,hr⟩:=he.cons
 have hlen:l.length=r.length+1:=by rw [hr];rfl
 have h8:(cells.drop off).take 4=[.int .i64 (hdT l).k,.str (hdT l).t,.int .i64 (hdT l).x,.int .i64 (hdT l).at_]:=by
  have:=congrArg (List.take 4) h6
  rw [List.take_take,show min 4 (l.length*4)=4 by omega,hr] at this
  rw [this]
  simp [tksV,Tk.v,tokV,hdT]
 have at_:∀ i,i < 4->cells[off+i]? = ((cells.drop off).take 4)[i]?:=fun i hi=>by rw [List.getElem?_take,if_pos hi,List.getElem?_drop]
 refine ⟨b,off,e,ro,cells,h1,h2,h4,h5,by omega,by omega,h8,?_,?_,?_,?_,fun hk=>?_⟩
 ·have:=at_ 0 (by omega);rw [h8] at this;exact this
 ·have:=at_ 1 (by omega);rw [h8] at this;exact this
 ·have:=at_ 2 (by omega);rw [h8] at this;exact this
 ·have:=at_ 3 (by omega);rw [h8] at this;exact this
 ·have ht:l.tail=r:=by rw [hr];rfl
  have he':=he.tail hk
  rw [ht] at he'
  have hrp:0 < r.length:=List.length_pos_iff.2 fun e=>by subst e;obtain ⟨⟨_,h,_⟩,_⟩:=he';cases h
  rw [ht]
  refine ⟨⟨b,off+4,e,ro,cells,by rw [hlen];rfl,h2,h4,by omega,?_,by omega⟩,by omega⟩
  have:=congrArg (List.drop 4) h6
  rw [List.drop_take,List.drop_drop,show l.length*4-4=r.length*4 by omega,hr] at this
  rw [this]
  simp [tksV,Tk.v,tokV]
def PanP {α:Type} (pr:Nat) (r:PR α) (H:Hp) (v:V) (H' : Hp):Prop:=∃ a e,r = .err a e/\v=Zc8 a e/\Ext (eqR pr) H H'
theorem PanP.up {α β:Type} {pr:Nat} {r:PR α} {g:α->List Tk->PR β} {R:PR β} {H H1:Hp} (hY:r.bind g=R) (hX:Ext (eqR pr) H H1):∀ v H',PanP pr r H1 v H'->PanP pr R H v H':=by
 rintro v H' ⟨a,e,rfl,rfl,h⟩
 exact ⟨a,e,hY.symm,rfl,hX.trans h⟩
theorem Yp {α β:Type} {r:PR α} {g:α->List Tk->PR β} {R:PR β} (hY:r.bind g=R) (hR:R≠.out):r≠.out:=fun e=>by subst e;exact hR hY.symm
def PS {α:Type} (pr d:Nat) (f:FuncId) (xs:List V) (H:Hp) (r:PR α) (val:Hp->α->V->Prop):Prop :=
 WR tab f xs H (fun v H'=>∃ a l',r = .ok a l'/\val H' a v/\PAt H' pr l' d/\Ext (eqR pr) H H') (PanP pr r H)
theorem WF.rr {f:FuncId} {xs:List V} {H:Hp} {Q Q' P:V->Hp->Prop} (h:WF tab f xs H Q) (hq:∀ v H',Q v H'->Q' v H'):WR tab f xs H Q' P:=.inl (h.mono hq)
theorem WFp.rr {f:FuncId} {xs:List V} {H:Hp} {P Q P' : V->Hp->Prop} (h:WFp tab f xs H P) (hp:∀ v H',P v H'->P' v H'):WR tab f xs H Q P':=.inr (h.mono hp)
def ExV (H0:Hp) (H:Hp) (e:Tx) (v:V):Prop:=∃ cs,v = .agg cs/\Ze (since H0 H) H e cs
def Xj (f:Nat):Prop:=∀ (H:Hp) (pr d:Nat) (l:List Tk),PAt H pr l d->Zu f d l≠.out->PS pr d 77 [.ptr pr 0] H (Zu f d l) (ExV H)
def Zh9 (f:Nat):Prop:=∀ (H:Hp) (pr d n:Nat) (l:List Tk),n<=3->PAt H pr l d->exprY f n d l≠.out->PS pr d 119 [.ptr pr 0,.int .i64 n] H (exprY f n d l) (ExV H)
def Zeu (f:Nat):Prop:=∀ (H:Hp) (pr d:Nat) (l:List Tk),PAt H pr l d->unaryY f d l≠.out->PS pr d 157 [.ptr pr 0] H (unaryY f d l) (ExV H)
def Ziz (f:Nat):Prop:=∀ (H:Hp) (pr d:Nat) (l:List Tk) (R:PR Tx),PAt H pr l d->((oneY f d l).bind fun e l=>postY f d e l)=R->R≠.out->PS pr d 179 [.ptr pr 0] H R (ExV H)
def POne (f:Nat):Prop:=∀ (H:Hp) (pr d:Nat) (l:List Tk),PAt H pr l d->oneY f d l≠.out->PS pr d 189 [.ptr pr 0] H (oneY f d l) (ExV H)
def Zkp (f:Nat):Prop:=∀ (H:Hp) (pr d:Nat) (l:List Tk),PAt H pr l d->listY f d [] l≠.out->PS pr d 190 [.ptr pr 0,.str sRp] H (listY f d [] l) fun H' a v=>Zk (since H H') H' a v
def PRec (f:Nat):Prop:=∀ (H:Hp) (pr d:Nat) (l:List Tk),PAt H pr l d->recY f d [] l≠.out->PS pr d 199 [.ptr pr 0] H (recY f d [] l) (ExV H)
def Zpt (f:Nat):Prop:=∀ (H:Hp) (pr d:Nat) (l:List Tk) (R:PR Tx),PAt H pr l d->((Yf sLp l).bind fun _ l=>(Xy f [] l).bind fun ps l=>(blockY f d l).bind fun b l=>PR.ok (.ex 17 0 [] [] ps b) l)=R->R≠.out->PS pr d 200 [.ptr pr 0] H R (ExV H)
def U2 (f:Nat):Prop:=∀ (H:Hp) (pr d:Nat) (l:List Tk),PAt H pr l d->blockY f d l≠.out->PS pr d 80 [.ptr pr 0] H (blockY f d l) fun H' a v=>Zk (since H H') H' a v
def Zko (f:Nat):Prop:=∀ (H:Hp) (pr d:Nat) (l:List Tk),PAt H pr l d->stmtY f d l≠.out->PS pr d 53 [.ptr pr 0] H (stmtY f d l) (ExV H)
theorem Ze2 {H:Hp} {pr d:Nat} {l:List Tk} (hP:PAt H pr l d) (e:Int):WFp tab 120 [.ptr pr 0,.int .i64 e] H fun v H'=>v=Zc8 (hdT l).at_ e/\H' = H:=by
 have hst:=hP.st
 obtain ⟨v,h1,h2⟩:=hP.row
 obtain ⟨b,off,e',ro,cells,rfl,g1,g3,g4,g5,g6,g7,g8,g9,g10,g11,g12⟩:=h2.head hP.ends
 have key:WR tab 120 [.ptr pr 0,.int .i64 e] H (fun _ _=>False) fun v H'=>v=Zc8 (hdT l).at_ e/\H' = H:=by
  refine Yem (Ye _ ?_)
  have hlt:(0:Int) < (l.length:Int):=by omega
  simp [hst,h1,g3,g8,g9,g10,g11,hlt,g6]
 rcases key with ⟨_,_,_,_,h⟩ | h
 ·exact h.elim
 ·exact h
theorem Xs {H:Hp} {pr d:Nat} {l:List Tk} (hP:PAt H pr l d) (t:Bs):WF tab 76 [.ptr pr 0,.str t] H fun v H'=>v = .bool (isK l t)/\PAt H' pr (if isK l t then l.tail else l) d/\Ext (eqR pr) H H':=by
 have hst:=hP.st
 obtain ⟨v,h1,h2⟩:=hP.row
 obtain ⟨b,off,e',ro,cells,rfl,g1,g3,g4,g5,g6,g7,g8,g9,g10,g11,g12⟩:=h2.head hP.ends
 have hlt:(0:Int) < (l.length:Int):=by omega
 have no:isK l t=false->isK l t=false/\PAt H pr (if isK l t then l.tail else l) d/\Ext (eqR pr) H H:=fun h=>by rw [h];exact ⟨rfl,hP,Ext.refl hst⟩
 have hk:isK l t=(((hdT l).k==4 || (hdT l).k==1)&&(hdT l).t==t):=rfl
 refine wf76 (Zs _ ?_)
 cases h41:((hdT l).k==4 || (hdT l).k==1) with
 | false =>
  have:=no (by rw [hk,h41];rfl)
  simp only [Bool.or_eq_false_iff,beq_eq_false_iff_ne] at h41
  have b4:((hdT l).k != 4)=true:=bne_iff_ne.2 h41.1
  have b1:((hdT l).k != 1)=true:=bne_iff_ne.2 h41.2
  simp [hst,h1,g3,g8,hlt,g6,b4,b1]
  exact this
 | true =>
  cases ht:((hdT l).t==t) with
  | false =>
   have:=no (by rw [hk,ht,h41];rfl)
   have ht' : ((hdT l).t != t)=true:=by rw [bne,ht];rfl
   rcases Bool.or_eq_true _ _ ▸ h41 with h | h
   ·have h':=eq_of_beq h
    simp [hst,h1,g3,g8,g9,hlt,g6,h',ht,ht']
    exact this
   ·have h':=eq_of_beq h
    simp [hst,h1,g3,g8,g9,hlt,g6,h',ht,ht']
    exact this
  | true =>
   have ht' : ((hdT l).t != t)=false:=by rw [bne,ht];rfl
   have hi:isK l t=true:=by rw [hk,ht,h41];rfl
   have hk0:=Zyx hi
   obtain ⟨g13,g14⟩:=g12 hk0
   have g14' : (1:Int) < (l.length:Int):=by omega
   have g15:¬ (l.length:Int) < 1:=by omega
   have fin:PAt (H.put pr (.row 92 2 false [.sl b (off+4) (l.length-1) none 4,.int .i64 d])) pr l.tail d/\Ext (eqR pr) H (H.put pr (.row 92 2 false [.sl b (off+4) (l.length-1) none 4,.int .i64 d])) :=
    ⟨hP.set hst (Nat.le_refl _) (Zd _ _ _) g13 (hP.ends.tail hk0) hP.dp fun c hc=>Zf _ (Nat.ne_of_lt hc),Ext.put hst _ rfl⟩
   rcases Bool.or_eq_true _ _ ▸ h41 with h | h
   ·have h':=eq_of_beq h
    simp [hst,h1,g3,g8,g9,hlt,g6,h',ht,ht',hi,Yw,Zb,g14,g14',g15,fin]
   ·have h':=eq_of_beq h
    simp [hst,h1,g3,g8,g9,hlt,g6,h',ht,ht',hi,Yw,Zb,g14,g14',g15,fin]
theorem Xt {H:Hp} {pr d:Nat} {l:List Tk} (hP:PAt H pr l d) (t:Bs):PS pr d 78 [.ptr pr 0,.str t] H (Yf t l) fun _ _ _=>True:=by
 have hst:=hP.st
 refine wr78 (Ye _ ?_)
 simp [hst]
 refine WF.rr (Xs hP t) ?_
 rintro v H2 ⟨rfl,hP2,hX2⟩
 have s2:=hX2.st
 cases hk:isK l t with
 | true =>
  rw [hk,if_pos rfl] at hP2
  simp [s2]
  exact ⟨(),l.tail,by simp [Yf,hk],hP2,hX2⟩
 | false =>
  rw [hk,if_neg (by decide)] at hP2
  simp [s2]
  refine WFp.rr (Ze2 hP2 1) ?_
  rintro v H3 ⟨rfl,rfl⟩
  exact ⟨_,_,by simp [Yf,hk],rfl,hX2⟩
theorem Zi1 {H:Hp} {pr d:Nat} {l:List Tk} (hP:PAt H pr l d):WR tab 118 [.ptr pr 0] H (fun _ H'=>d < 20/\PAt H' pr l (d+1)/\Ext (eqR pr) H H') fun v H'=>d=20/\v=Zc8 (hdT l).at_ 3/\Ext (eqR pr) H H':=by
 have hst:=hP.st
 have hd:=hP.dp
 obtain ⟨v,h1,h2⟩:=hP.row
 refine Ydo (Ye _ ?_)
 by_cases h20:d=20
 ·have e:(((d:Nat):Int)==20)=true:=by rw [h20];rfl
  simp [hst,h1,e]
  refine WFp.rr (Ze2 hP 3) ?_
  rintro v H3 ⟨rfl,rfl⟩
  exact ⟨h20,rfl,Ext.refl hst⟩
 ·have e:(((d:Nat):Int)==20)=false:=beq_false_of_ne (by omega)
  have hw:=V4 (show d < 1000000000 by omega)
  obtain ⟨b,off,e',ro,cells,rfl,_⟩:=h2.head hP.ends
  simp [hst,h1,e,hw]
  exact ⟨by omega,hP.set (d':=d+1) hst (Nat.le_refl _) (Zd _ _ _) h2 hP.ends (by omega) fun c hc=>Zf _ (Nat.ne_of_lt hc),Ext.put hst _ rfl⟩
def Ires (w:Bs) (H:Hp) (m:Nat) (F:Fr) (H' : Hp):Prop :=
 ∃ i:Nat,i+m=12/\H' = H/\F.get 0=some (.str w)/\F.get 5=some (.agg (resL.map .str))/\F.get 6=some (.int .i64 i)/\decide (w∈resL)=decide (w∈resL.drop i)
theorem Zmu {N:Nat} {H:Hp} (hs:H.stale=[]) (hG:LvG N H) (w:Bs):WF tab 50 [.str w] H fun v H'=>v = .bool (decide (w∈resL))/\H' = H:=by
 have hg:=hG.res
 refine wf50 (Zs _ ?_)
 have hlen:(resL.map V.str).length=12:=rfl
 have htk:(resL.map V.str).take 12=resL.map V.str:=rfl
 generalize hR:resL.map V.str=R at *
 simp [hs,hg,hlen,htk]
 refine Xh (Ires w H) (m:=12) ⟨0,by omega,rfl,by simp,by simp [hR],by simp,by simp⟩ ?_
 rintro m F H' ⟨i,hi,rfl,f0,f5,f6,hr⟩
 rw [hR] at f5
 by_cases hlt:i < 12
 ·have hlt' : (i:Int) < 12:=by omega
  have hw:=V4 (show i < 1000000000 by omega)
  have hl:i < resL.length:=hlt
  have hd:resL.drop i=resL[i] :: resL.drop (i+1):=List.drop_eq_getElem_cons hl
  have hat:R[i]? = some (.str resL[i]):=by rw [<- hR,List.getElem?_map,List.getElem?_eq_getElem hl];rfl
  rw [hd] at hr
  by_cases hc:w=resL[i]
  ·have hr' : decide (w∈resL)=true:=by rw [hr,decide_eq_true_iff,hc];exact List.mem_cons_self
   have hc' : (resL[i]==w)=true:=by rw [<- hc];simp
   simp [Zkj,f0,f5,f6,hlt,hlt',hs,hat,hc',of_decide_eq_true hr']
  ·have hr' : decide (w∈resL)=decide (w∈resL.drop (i+1)):=by rw [hr];exact decide_eq_decide.2 (by rw [List.mem_cons];exact ⟨fun h=>h.resolve_left hc,.inr⟩)
   have hc' : (resL[i]==w)=false:=beq_false_of_ne (fun e=>hc e.symm)
   simp [Zkj,f0,f5,f6,hlt,hlt',hs,hat,hc',hw]
   exact ⟨m-1,by omega,i+1,by omega,rfl,by simp [f0],by simp [f5,hR],by simp,hr'⟩
 ·have hlt' : ¬ (i:Int) < 12:=by omega
  have hn:resL.drop i=[]:=List.drop_eq_nil_of_le (show resL.length<=i by show 12<=i;omega)
  rw [hn] at hr
  have hr' : decide (w∈resL)=false:=by rw [hr];simp
  simp [Zkj,f0,f5,f6,hlt,hlt',hs]
  exact of_decide_eq_false hr'
abbrev tkZ:Ob:=.row 95 4 false [.int .i64 0,.str [],.int .i64 0,.int .i64 0]
abbrev tkO (a:Tk):Ob:=.row 95 4 false [.int .i64 a.k,.str a.t,.int .i64 a.x,.int .i64 a.at_]
abbrev midH (H:Hp) (a:Tk):Hp:=(H.new tkZ).put H.next (tkO a)
theorem midE {H:Hp} {pr:Nat} (hst:H.stale=[]) (a:Tk):Ext (eqR pr) H (midH H a):=(Ext.new hst _).putX _ (.inr (Nat.le_refl _))
theorem Jw {H:Hp} {pr d:Nat} {l:List Tk} (hP:PAt H pr l d):PS pr d 79 [.ptr pr 0] H (Wd l) fun _ s v=>v = .str s:=by
 have hst:=hP.st
 obtain ⟨v,h1,h2⟩:=hP.row
 obtain ⟨b,off,e',ro,cells,rfl,g1,g3,g4,g5,g6,g7,g8,g9,g10,g11,g12⟩:=h2.head hP.ends
 have hlt:(0:Int) < (l.length:Int):=by omega
 have hpr:=hP.lt
 obtain ⟨N,hN,hG⟩:=hP.gl
 refine wr79 (Ye _ ?_)
 have o1:=Zp hpr
 have o2:=Zp (Nat.lt_trans g1 hpr)
 have o3:=Zi (Nat.ne_of_lt g1)
 have hE:=midE (pr:=pr) hst (hdT l)
 have hP1:PAt (midH H (hdT l)) pr l d:=hP.of_get hE.st hE.le fun c hc=>by simp [Hp.get_put,Hp.get_new,Zp (show c < H.next by omega)]
 have hG1:LvG N (midH H (hdT l)):=hG.of_get fun c hc=>by simp [Hp.get_put,Hp.get_new,Zp (show c < H.next by omega)]
 have err:¬ ((hdT l).k=1/\(hdT l).t∉resL)->WR tab 120 [.ptr pr 0,.int .i64 1] (midH H (hdT l)) (fun _ _=>False) (PanP pr (Wd l) H):=fun h=>WFp.rr (Ze2 hP1 1) fun v H3 h'=>⟨_,_,by rw [Wd,if_neg h],h'.1,by rw [h'.2];exact hE⟩
 by_cases hk:(hdT l).k=1
 ·have b1:((hdT l).k != 1)=false:=by rw [hk];rfl
  have hto:tkO (hdT l) = .row 95 4 false [.int .i64 1,.str (hdT l).t,.int .i64 (hdT l).x,.int .i64 (hdT l).at_]:=by rw [tkO,hk]
  rw [midH,hto] at hP1 hG1 hE err
  simp [hst,h1,g3,g5,g7,hlt,g6,b1,hk,o1,o2,o3]
  refine WF.rr (Zmu hE.st hG1 _) ?_
  rintro v H2 ⟨rfl,rfl⟩
  by_cases hm:(hdT l).t∈resL
  ·simp [hst,hm]
   exact (err (fun h=>h.2 hm)).mono (fun _ _ h=>h.elim) fun _ _ h=>h
  ·have hk0:(hdT l).k≠0:=by rw [hk];decide
   obtain ⟨g13,g14⟩:=g12 hk0
   have g14' : (1:Int) < (l.length:Int):=by omega
   have g15:¬ (l.length:Int) < 1:=by omega
   simp [hst,hm,h1,Hp.get_put,Hp.get_new,o1,o2,o3,Yw,Zb,g14,g14',g15]
   refine ⟨_,_,by rw [Wd,if_pos ⟨hk,hm⟩],rfl,?_,hE.putX _ (.inl rfl)⟩
   exact hP1.set hE.st (Nat.le_refl _) (Zd _ _ _) (g13.of_get fun c hc=>by simp [Hp.get_put,Hp.get_new,Zp (show c < H.next by omega)]) (hP.ends.tail hk0) hP.dp fun c hc=>Zf _ (Nat.ne_of_lt hc)
 ·have b1:((hdT l).k != 1)=true:=bne_iff_ne.2 hk
  simp [hst,h1,g3,g5,g7,hlt,g6,b1,o1,o2,o3]
  exact (err (fun h=>hk h.1)).mono (fun _ _ h=>h.elim) fun _ _ h=>h
end Go.AM.YtlillgmgpmbfnaaGreatDoorT
