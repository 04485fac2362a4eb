import Derived.Test.YtiolgkhfpnidfaaRows
import Derived.Test.YtiolgkhfpnidfaaAmG
import Derived.Test.YtiolgkhfpnidfaaAmX
import Derived.Test.YtiolgkhfpnidfaaAmC3
import Derived.KernelRfl
import Derived.WalkKit
import Derived.ProofKit
import Derived.OpenShut
import Derived.ShutString
import Derived.ChangeOld
import Derived.Below
import Derived.SizedLaws
import Derived.ChangeBears2
set_option linter.unusedVariables false
set_option linter.unusedSimpArgs false
set_option linter.unnecessarySimpa false
namespace Go.Proofs.Ytiolgkhfpnidfaa.arenaApart
open Go.ChangeShapes Go.WideShapes Go.ChangeAt Go.RowKit Go.AM
theorem own:ownKnob Try.prog.godebug=none:=by kernel_rfl
theorem laidOut:laidOutB Try.prog=true:=by kernel_rfl
theorem gl0 (D:Nat->Prop) (s:Sg):GlOk YtiolgkhfpnidfaaT.tab.ng D s:=fun g hg=>by rw [YtiolgkhfpnidfaaT.tab_ng] at hg;omega
theorem cells5:Try.prog.cellsOf 5=1:=by kernel_rfl
theorem u8_bounds {n:Int} (h:(Lit.int .u8 n).wf=true):0<=n/\n < 256:=by
 simp [Lit.wf,IntKind.min,IntKind.max,IntKind.signed,IntKind.bits] at h
 omega
theorem walk (W:World) (v:Value)
  (h:v = .slice none 0 0\/(∃ a c,v = .slice (some a) 0 c)\/∃ (b off len cap:Nat) (zs:List Int),v = .slice (some ⟨b,off,none⟩) len cap/\0 < len/\len<=cap/\zs.length=cap/\(∀ i,i < cap->W.cell? ⟨b,off+i,none⟩=some (.int .u8 (zs.getD i 0)))/\∀ n∈zs,0<=n/\n < 256) :
  Calls Try.prog 7 #[v] W fun e w'=>e = .returned (.bool true)/\Below W.heap.size W w':=by
 rcases h with rfl | ⟨a,c,rfl⟩ | ⟨b,off,len,cap,zs,rfl,hl0,hl,hz,hc,hzb⟩
 ·exact topR YtiolgkhfpnidfaaT.okP (l:=[]) (s:=fun _=>⟨0,0,0,0⟩) trivial (gl0 _ _) (fun i e z cs h=>by simp at h) (.cons _ _ _ _ .nils .nil) YtiolgkhfpnidfaaT.apart_nils
 ·exact topR YtiolgkhfpnidfaaT.okP (l:=[]) (s:=fun _=>⟨0,0,0,0⟩) trivial (gl0 _ _) (fun i e z cs h=>by simp at h) (.cons _ _ _ _ (.sle _ _) .nil) YtiolgkhfpnidfaaT.apart_sle
 ·have hx:∀ (D:Nat->Prop) (s:Sg) (zs:List Int),RvL D s (zs.map (V.int .u8)) (zs.map (Value.int .u8)):=fun D s zs=>by
   induction zs with
   | nil=>exact .nil
   | cons z zs ih=>exact .cons _ _ _ _ (.int _ _) ih
  have hlen:(zs.take len).length=len:=by simp;omega
  have hr:=rowR (e:=5) (l:=[(5,1,(zs.take len).map (V.int .u8))]) (s:=fun _=>Loc.mk b off cap 1) (W:=W) (b:=b) (off:=off) (cap:=cap) (z:=1) (hx _ _ (zs.take len)) (List.all_eq_true.2 fun v hv=>by obtain ⟨z,_,rfl⟩:=List.mem_map.1 hv;rfl) (by simp;omega) (by omega)
   (fun i hi=>⟨_,hc i (by omega)⟩) (fun i x hi=>by
    rw [List.getElem?_map,Option.map_eq_some_iff] at hi
    obtain ⟨z,h1,rfl⟩:=hi
    have hil:i < len:=by have:=(List.getElem?_eq_some_iff.1 h1).1;omega
    rw [List.getElem?_take,if_pos hil] at h1
    rw [hc i (by omega)]
    simp [List.getD,h1])
  refine topR YtiolgkhfpnidfaaT.okP (l:=[(5,1,(zs.take len).map (V.int .u8))]) (s:=fun _=>Loc.mk b off cap 1) trivial (gl0 _ _) (fun i e z cs h=>?_) (.cons _ _ _ _ ?_ .nil) (vs:=[.sl 0 0 len none 1]) ?_
  ·cases i with
   | zero=>simp only [List.getElem?_cons_zero,Option.some.injEq,Prod.mk.injEq] at h;obtain ⟨rfl,rfl,rfl⟩:=h;exact hr
   | succ i=>simp at h
  ·have:=Rv.sln (D:=dR [(5,1,(zs.take len).map (V.int .u8))]) (s:=fun _=>Loc.mk b off cap 1) 0 0 len 1 (by simp [dR]) rfl (by omega) (by omega) (by simp;omega)
   simpa using this
  ·have:=YtiolgkhfpnidfaaT.apart_sl (zs.take len) (fun y hy=>hzb y (List.mem_of_mem_take hy))
   rw [hlen] at this
   exact this
set_option maxRecDepth 100000 in
theorem lifted (os:Os) (started:os.Started) (H:Type) (enc:TypeId×Value->H) :
  ReturnsInHanded {} Try.checked os 7 .any (Rows.arenaApartSpec.pre6 enc Try.prog Try.f7 Rows.arenaApartRow.domain false) (Rows.arenaApartSpec.post enc Try.prog Try.f7 false true false false):=by
 refine returnsInHanded_of_change_sized (C:=Try.checked) own started (by kernel_rfl) Try.func7
  (ChangeSpec.witness6 (enc:=enc) (C:=Try.checked) false ⟨#[],#[.slice none 0 0],[]⟩ 8 (by kernel_rfl) (by kernel_rfl) (by kernel_rfl) (by kernel_rfl)) ?_
 intro W base args ds gs before hval0 hW hcnd hsz0 _
 have hval:∀ (j:Nat) t v,Try.f7.params[j]? = some t->args[j]? = some v->Value.okWide Try.prog W .any base t v:=hval0
 have hW':=hW
 obtain ⟨p,q,hA0,hV,rfl,hfz,hnd⟩:=hW
 have hA:DataW.TrodAll enc Try.prog W 0 (fun _=>true) true Try.f7.params.toList args.toList ds p:=hA0
 rw [Try.params7] at hA hval
 obtain ⟨v0,vs0,d0,ds0,p0,q0,hargs,rfl,rfl,h0,r0⟩:=trodAll_cons hA
 obtain ⟨rfl,rfl,rfl⟩:=trodAll_nil r0
 obtain rfl:args = #[v0]:=by cases args;simp_all
 obtain ⟨rfl,rfl⟩:=trodVars_none hV
 have hlt:∀ x∈p0++([]),x.block < W.heap.size:=fun x hx=>by simpa using hW'.lt x (List.mem_append_left _ hx)
 have k0:∀ (W' : World),Below W.heap.size W W'->DataW.Trod enc Try.prog W' 0 (fun b=>decide (b < W.heap.size)) true 22 v0 d0 p0 :=
  fun W' hn=>Below.trod laidOut (by kernel_rfl) (of_decide_eq_true (by kernel_rfl)) h0 hn (fun x hx=>hlt x (List.mem_append_left _ hx))
 have o0:=hval 0 22 v0 rfl rfl
 obtain ⟨a0,len,cap,rfl⟩:=okWide_slice Try.underlying22 o0
 have hwalk:Calls Try.prog 7 #[_] W fun e w'=>e = .returned (.bool true)/\Below W.heap.size W w':=walk W (.slice a0 len cap) (by
  obtain ⟨fuel0,hf⟩:=h0
  rcases open_ints Try.underlying22 Try.underlying5 cells5 hf with ⟨hcs,hx⟩ | ⟨a,len',cap',zs,hcs,_,hl,hm,hz,hx,hcell,hwz⟩
  ·simp [Value.cells] at hcs
   obtain ⟨rfl,rfl,rfl⟩:=hcs
   exact .inl rfl
  ·simp [Value.cells] at hcs
   obtain ⟨rfl,rfl,rfl⟩:=hcs
   simp only [if_true] at hz
   by_cases hl0:len=0
   ·subst hl0;exact .inr (.inl ⟨_,_,rfl⟩)
   ·obtain ⟨b,off,spot⟩:=a
    have hspot:spot=none:=by simpa [Addr.add] using World.cell?_spot (hcell 0 (by omega))
    subst hspot
    exact .inr (.inr ⟨b,off,len,cap,zs,rfl,by omega,hl,hz,fun i hi=>by rw [<- add_plain];exact hcell i (by omega),fun n hn=>u8_bounds (hwz n hn)⟩))
 clear hA0 hval0 hsz0
 refine hwalk.mono fun e W' ⟨he,bel⟩=>?_
 subst he
 exact ⟨_,rfl,_,_,_,[],_,[],hW',trodAll_mk1 (shut_bool Try.underlying4 _),(trodAll_cons_mk (k0 W' bel) trodAll_mk0),rfl,bel.frame _,fun h=>by cases h⟩
theorem over:Rows.arenaApartRow.holds Try.pinned (OpenSpec.ofChange Rows.arenaApartSpec) :=
 OpenClaim.holds_of_wide 7 Try.f7 rfl rfl rfl rfl rfl rfl rfl ⟨rfl,rfl,rfl,rfl,rfl⟩ rfl rfl rfl rfl rfl (by kernel_rfl) Try.func7 (by kernel_rfl)
  (of_decide_eq_true (by kernel_rfl)) (by unfold Func.isWrapper;first | (rw [if_pos (by decide +kernel)];kernel_rfl) | (rw [if_neg (by decide +kernel)];exact ⟨rfl,rfl⟩))
  (fun os started H enc _=>lifted os started H enc)
end Go.Proofs.Ytiolgkhfpnidfaa.arenaApart
namespace Go.Proofs.Ytiolgkhfpnidfaa
theorem arenaApart_holds:Rows.ArenaApartSaid:=arenaApart.over
#print axioms arenaApart_holds
end Go.Proofs.Ytiolgkhfpnidfaa
