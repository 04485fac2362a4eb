import Derived.Test.YtiolgkhfpnidfaaRows
import Derived.Test.YtiolgkhfpnidfaaAmG
import Derived.Test.YtiolgkhfpnidfaaAmX
import Derived.Test.YtiolgkhfpnidfaaAmC3
import Derived.KernelRfl
set_option linter.unusedVariables false
set_option linter.unusedSimpArgs false
set_option linter.unnecessarySimpa false
namespace Go.Proofs.Ytiolgkhfpnidfaa.arenaFull
open Go.ChangeShapes Go.WideShapes Go.ChangeAt Go.RowKit Go.AM
theorem own:ownKnob Try.prog.godebug=none:=by kernel_rfl
theorem laidOut:laidOutB Try.prog=true:=by kernel_rfl
theorem gl0 (D:Nat->Prop) (s:Sg):GlOk YtiolgkhfpnidfaaT.tab.ng D s:=fun g hg=>by rw [YtiolgkhfpnidfaaT.tab_ng] at hg;omega
set_option maxRecDepth 100000 in
theorem lifted (os:Os) (started:os.Started) (H:Type) (enc:TypeId×Value->H) :
  ReturnsInHanded {} Try.checked os 4 .any (Rows.arenaFullSpec.pre6 enc Try.prog Try.f4 Rows.arenaFullRow.domain false) (Rows.arenaFullSpec.post enc Try.prog Try.f4 false true false false):=by
 refine returnsInHanded_of_change_sized (C:=Try.checked) own started (by kernel_rfl) Try.func4
  (ChangeSpec.witness6 (enc:=enc) (C:=Try.checked) false ⟨#[],#[.int .u8 0,.int .u8 0,.int .u8 0],[]⟩ 8 (by kernel_rfl) (by kernel_rfl) (by kernel_rfl) (by kernel_rfl)) ?_
 intro W base args ds gs before hval0 hW hcnd hsz0 _
 have hval:∀ (j:Nat) t v,Try.f4.params[j]? = some t->args[j]? = some v->Value.okWide Try.prog W .any base t v:=hval0
 have hW':=hW
 obtain ⟨p,q,hA0,hV,rfl,hfz,hnd⟩:=hW
 have hA:DataW.TrodAll enc Try.prog W 0 (fun _=>true) true Try.f4.params.toList args.toList ds p:=hA0
 rw [Try.params4] at hA hval
 obtain ⟨v0,vs0,d0,ds0,p0,q0,hargs,rfl,rfl,h0,r0⟩:=trodAll_cons hA
 obtain ⟨v1,vs1,d1,ds1,p1,q1,rfl,rfl,rfl,h1,r1⟩:=trodAll_cons r0
 obtain ⟨v2,vs2,d2,ds2,p2,q2,rfl,rfl,rfl,h2,r2⟩:=trodAll_cons r1
 obtain ⟨rfl,rfl,rfl⟩:=trodAll_nil r2
 obtain rfl:args = #[v0,v1,v2]:=by cases args;simp_all
 obtain ⟨rfl,rfl⟩:=trodVars_none hV
 have hlt:∀ x∈p0++(p1++(p2++([]))),x.block < W.heap.size:=fun x hx=>by simpa using hW'.lt x (List.mem_append_left _ hx)
 have k0:∀ (W' : World),Below W.heap.size W W'->DataW.Trod enc Try.prog W' 0 (fun b=>decide (b < W.heap.size)) true 5 v0 d0 p0 :=
  fun W' hn=>Below.trod laidOut (by kernel_rfl) (of_decide_eq_true (by kernel_rfl)) h0 hn (fun x hx=>hlt x (List.mem_append_left _ hx))
 have k1:∀ (W' : World),Below W.heap.size W W'->DataW.Trod enc Try.prog W' 0 (fun b=>decide (b < W.heap.size)) true 5 v1 d1 p1 :=
  fun W' hn=>Below.trod laidOut (by kernel_rfl) (of_decide_eq_true (by kernel_rfl)) h1 hn (fun x hx=>hlt x (List.mem_append_right _ (List.mem_append_left _ hx)))
 have k2:∀ (W' : World),Below W.heap.size W W'->DataW.Trod enc Try.prog W' 0 (fun b=>decide (b < W.heap.size)) true 5 v2 d2 p2 :=
  fun W' hn=>Below.trod laidOut (by kernel_rfl) (of_decide_eq_true (by kernel_rfl)) h2 hn (fun x hx=>hlt x (List.mem_append_right _ (List.mem_append_right _ (List.mem_append_left _ hx))))
 have o0:=hval 0 5 v0 rfl rfl
 have o1:=hval 1 5 v1 rfl rfl
 have o2:=hval 2 5 v2 rfl rfl
 obtain ⟨q,rfl,hq0,hq1⟩:=okw_int Try.underlying5 o0
 have hqb:0<=q/\q < 256:=by simp [IntKind.min,IntKind.max,IntKind.signed,IntKind.bits] at hq0 hq1;omega
 obtain ⟨q,rfl⟩:=Int.eq_ofNat_of_zero_le hqb.1
 obtain ⟨k,rfl,hk0,hk1⟩:=okw_int Try.underlying5 o1
 have hkb:0<=k/\k < 256:=by simp [IntKind.min,IntKind.max,IntKind.signed,IntKind.bits] at hk0 hk1;omega
 obtain ⟨k,rfl⟩:=Int.eq_ofNat_of_zero_le hkb.1
 obtain ⟨t,rfl,ht0,ht1⟩:=okw_int Try.underlying5 o2
 have htb:0<=t/\t < 256:=by simp [IntKind.min,IntKind.max,IntKind.signed,IntKind.bits] at ht0 ht1;omega
 obtain ⟨t,rfl⟩:=Int.eq_ofNat_of_zero_le htb.1
 have hwalk:Calls Try.prog 4 #[_,_,_] W fun e w'=>e = .returned (.bool true)/\Below W.heap.size W w':=topR YtiolgkhfpnidfaaT.okP (l:=[]) (s:=fun _=>⟨0,0,0,0⟩) trivial (gl0 _ _) (fun i e z cs h=>by simp at h) (.cons _ _ _ _ (.int _ _) (.cons _ _ _ _ (.int _ _) (.cons _ _ _ _ (.int _ _) .nil))) (YtiolgkhfpnidfaaT.full_walk q k t (by omega) (by omega) (by omega))
 clear hA0 hval0 hsz0
 refine hwalk.mono fun e W' ⟨he,bel⟩=>?_
 subst he
 exact ⟨_,rfl,_,_,_,[],_,[],hW',trodAll_mk1 (shut_bool Try.underlying4 _),(trodAll_cons_mk (k0 W' bel) (trodAll_cons_mk (k1 W' bel) (trodAll_cons_mk (k2 W' bel) trodAll_mk0))),rfl,bel.frame _,fun h=>by cases h⟩
theorem over:Rows.arenaFullRow.holds Try.pinned (OpenSpec.ofChange Rows.arenaFullSpec) :=
 OpenClaim.holds_of_wide 4 Try.f4 rfl rfl rfl rfl rfl rfl rfl ⟨rfl,rfl,rfl,rfl,rfl⟩ rfl rfl rfl rfl rfl (by kernel_rfl) Try.func4 (by kernel_rfl)
  (of_decide_eq_true (by kernel_rfl)) (by unfold Func.isWrapper;first | (rw [if_pos (by decide +kernel)];kernel_rfl) | (rw [if_neg (by decide +kernel)];exact ⟨rfl,rfl⟩))
  (fun os started H enc _=>lifted os started H enc)
end Go.Proofs.Ytiolgkhfpnidfaa.arenaFull
namespace Go.Proofs.Ytiolgkhfpnidfaa
theorem arenaFull_holds:Rows.ArenaFullSaid:=arenaFull.over
#print axioms arenaFull_holds
end Go.Proofs.Ytiolgkhfpnidfaa
