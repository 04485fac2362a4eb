import Derived.Test.YtlillgmgpmbfnaaGreatDoorRows
import Derived.Test.YtlillgmgpmbfnaaGreatDoorTie
import Derived.Test.YtlillgmgpmbfnaaGreatDoorCards
import Derived.Test.YtlillgmgpmbfnaaGreatDoorAmG4
import Derived.Test.YtlillgmgpmbfnaaGreatDoorAmG3
set_option linter.unusedVariables false
set_option linter.unusedSimpArgs false
set_option linter.unnecessarySimpa false
namespace Go.Proofs.YtlillgmgpmbfnaaGreatDoor.scopeTexts
open Go.ChangeShapes Go.WideShapes Go.ChangeAt Go.RowKit Go.AM
set_option maxRecDepth 100000 in
theorem lifted (os:Os) (started:os.Started) (H:Type) (enc:TypeId×Value->H) :
  ReturnsInHanded {} Tryz.checked os 13 .any (fun w args=>(Rows.scopeTextsSpec.pre enc Tryz.prog Tryz.f13 [] false w args/\laidMetH Tryz.prog Zff w)/\sizedMet enc Tryz.prog Tryz.f13 (OpenSpec.ofChange Rows.scopeTextsSpec) false w args)
   (Rows.scopeTextsSpec.post enc Tryz.prog Tryz.f13 false true false false):=by
 refine returnsInHanded_of_change_and (C:=Tryz.checked) (X:=fun w _=>laidMetH Tryz.prog Zff w) (fun _ _ _ hh h=>h.of_heap hh) own started (by kernel_rfl) Tryz.func13
  (ChangeSpec.witness_shaped (enc:=enc) (C:=Tryz.checked) (os:=os) (X:=fun w _=>laidMetH Tryz.prog Zff w) false (World.doorLaid Tryz.prog 153 os) #[.slice none 0 0,.string ⟨#[]⟩] 8 rfl (World.shaped_of_RefB (by kernel_rfl) (by kernel_rfl)) (by kernel_rfl) (by kernel_rfl) (by kernel_rfl) (Yc2 os _)) ?_
 intro W base args ds gs before hval0 hW _ _ hL _
 have hval:∀ (j:Nat) t v,Tryz.f13.params[j]? = some t->args[j]? = some v->Value.okWide Tryz.prog W .any base t v:=hval0
 have hW':=hW
 obtain ⟨p,q,hA0,hV,rfl,hfz,hnd⟩:=hW
 have hA:DataW.TrodAll enc Tryz.prog W 0 (fun _=>true) true Tryz.f13.params.toList args.toList ds p:=hA0
 rw [Tryz.params13] at hA hval
 obtain ⟨v0,vs0,d0,ds0,p0,q0,hargs,rfl,rfl,h0,r0⟩:=trodAll_cons hA
 obtain ⟨v1,vs1,d1,ds1,p1,q1,rfl,rfl,rfl,h1,r1⟩:=trodAll_cons r0
 obtain ⟨rfl,rfl,rfl⟩:=trodAll_nil r1
 obtain rfl:args = #[v0,v1]:=by cases args;simp_all
 obtain ⟨rfl,rfl⟩:=trodVars_none hV
 have hlt:∀ x∈p0++(p1++([])),x.block < W.heap.size:=fun x hx=>by simpa using hW'.lt x (List.mem_append_left _ hx)
 have k0:∀ (W' : World),Below W.heap.size W W'->DataW.Trod enc Tryz.prog W' 0 (fun b=>decide (b < W.heap.size)) true 60 v0 d0 p0 :=
  fun W' hn=>Below.trod Zn8 (by kernel_rfl) (of_decide_eq_true (by kernel_rfl)) h0 hn (fun x hx=>hlt x (List.mem_append_left _ hx))
 have k1:∀ (W' : World),Below W.heap.size W W'->DataW.Trod enc Tryz.prog W' 0 (fun b=>decide (b < W.heap.size)) true 9 v1 d1 p1 :=
  fun W' hn=>Below.trod Zn8 (by kernel_rfl) (of_decide_eq_true (by kernel_rfl)) h1 hn (fun x hx=>hlt x (List.mem_append_right _ (List.mem_append_left _ hx)))
 have o0:=hval 0 60 v0 rfl rfl
 have o1:=hval 1 9 v1 rfl rfl
 obtain ⟨a0,n0,k0,rfl⟩:=Go.WideShapes.okWide_slice u60 o0
 obtain ⟨s,rfl⟩:=Z11 Tryz.underlying9 o1
 have hwalk:Calls Tryz.prog 13 #[_,_] W fun e w'=>e = .returned (.bool true)/\Below W.heap.size W w':=Zgx hL h0 rfl s
 clear hA0 hval0
 refine hwalk.mono fun e W' ⟨he,bel⟩=>?_
 subst he
 exact ⟨_,rfl,_,_,_,[],_,[],hW',trodAll_mk1 (shut_bool Tryz.underlying4 _),(trodAll_cons_mk (k0 W' bel) (trodAll_cons_mk (k1 W' bel) trodAll_mk0)),rfl,bel.frame _,fun h=>by cases h⟩
theorem over:Rows.scopeTextsRow.holds Tryz.pinned (OpenSpec.ofChange Rows.scopeTextsSpec) :=
 OpenClaim.holds_of_wide 13 Tryz.f13 rfl rfl rfl rfl rfl rfl rfl ⟨rfl,rfl,rfl,rfl,rfl⟩ rfl rfl rfl rfl rfl (by kernel_rfl) Tryz.func13 (by kernel_rfl)
  (of_decide_eq_true (by kernel_rfl)) (by unfold Func.isWrapper;first | (rw [if_pos (by decide +kernel)];kernel_rfl) | (rw [if_neg (by decide +kernel)];exact ⟨rfl,rfl⟩))
  (fun os started H enc _=>lifted os started H enc)
theorem nfn : Tryz.prog.funcNamed "paling/palinglaw08.ScopeTexts" = some 13 := by kernel_rfl
end Go.Proofs.YtlillgmgpmbfnaaGreatDoor.scopeTexts
namespace Go.Proofs.YtlillgmgpmbfnaaGreatDoor
theorem scopeTexts_holds:Rows.ScopeTextsCardSaid :=
 Claim7.holds_tied_plain_at .later [] [.data, .data, .data, .sentinel, .sentinel, .data, .data, .mapped, .data, .widerDeep] true (true, "6117d0eb63ec57baad002b3d710af548d8d99a757b865ef30bce4cb8e059369e") true
  scopeTexts.over (fun _ h=>by cases h) (by kernel_rfl) (fun _ h=>by cases h) scopeTexts_row_tie rfl ⟨rfl,rfl⟩ (by kernel_rfl) rfl
  (fun f fn hf hfn=>by
   obtain rfl:f=13:=Option.some.inj (scopeTexts.nfn.symm.trans hf) |>.symm
   obtain rfl:fn=Tryz.f13:=(Option.some.inj (Tryz.func13.symm.trans hfn)).symm
   exact ⟨by kernel_rfl,fun j t ht=>by
    rw [Tryz.params13] at ht
    have hm:t∈([60,9]:List Nat):=by simpa using Array.mem_of_getElem? ht
    have hall:(([60,9]:List Nat).all fun u=>!Tryz.prog.wantsStandIn u)=true:=by kernel_rfl
    exact (show Tryz.prog.wantsStandIn t=false by simpa using List.all_eq_true.1 hall t hm)⟩)
  (by kernel_rfl)
#print axioms scopeTexts_holds
end Go.Proofs.YtlillgmgpmbfnaaGreatDoor
