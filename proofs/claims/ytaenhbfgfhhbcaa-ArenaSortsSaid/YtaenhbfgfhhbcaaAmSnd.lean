/- Drawn regions, the last word; the check of a program's code; calls. -/
import Derived.Test.YtaenhbfgfhhbcaaAmDraw
set_option linter.unusedVariables false
set_option linter.unusedSimpArgs false
namespace Go.AM
open Go

section
variable {T : Tab} {P : Program} {n0 : Nat} {w0 : World} {call : CallE} {ops : Array Oper} {nt : Nat} {p : List (Nat × Nat)} {anc : List Nat} {Fs : Nat → Fr} {Hs : Nat → Hp} {Bs : Nat → List Hp}
variable {D : Nat → Prop} {s : Sg} {w : World} {S : Array Bool} {a1 : Act} {w1 : World} {q : Nat} {D1 : Nat → Prop} {s1 : Sg} {G : Hp}

/-- When nothing more may come up, all has come up. -/
theorem Inv.all_ex (I : Inv T n0 w0 ops nt p Fs Hs D s w S a1 w1 q D1 s1 G) (C : Cx T P n0 w0 call ops nt p anc Fs Hs Bs) (hr : Region.ready .any ops S = []) : ∀ n i, i < n → i < ops.size → S.getD i false = true
  | 0, i, h, _ => by omega
  | n + 1, i, h, hi => by
    cases hS : S.getD i false with
    | true => rfl
    | false =>
      exfalso
      have ho : ops[i]? = some ops[i] := Array.getElem?_eq_getElem hi
      have : i ∈ Region.ready .any ops S := mem_ready.2 ⟨by rw [getD_tf S (by rw [I.size]; exact hi)]; exact hS, _, ho, fun e he hb => by
        have hlt := C.pl.edge i _ e ho he hb
        exact I.all_ex C hr n e.on (by omega) (by omega)⟩
      rw [hr] at this
      cases this
theorem Inv.post (I : Inv T n0 w0 ops nt p Fs Hs D s w S a1 w1 q D1 s1 G) (C : Cx T P n0 w0 call ops nt p anc Fs Hs Bs) (hf : Fresh D (Hs 0) (Hs p.length)) (hall : ∀ i, i < ops.size → S.getD i false = true) :
    Post n0 w0 nt D s (Hs 0) w (Fs p.length) (Hs p.length).flush a1 w1 := by
  have hex : ∀ k, k < p.length → Ex S p k := fun k hk => by
    obtain ⟨i, m, o, h1, h2⟩ := C.ent hk
    exact ⟨i, m, h1, hall i (some_lt h2)⟩
  have hnp : ∀ (k i' m' : Nat) o', q ≤ k → k < p.length → p[k]? = some (i', m') → ops[i']? = some o' → isPt T o'.op = false := fun k i' m' o' h1 h2 h3 h4 => I.early k i' m' o' h1 h3 h4 (hall i' (some_lt h4))
  have hGe := C.grow0 p.length (Nat.le_refl _)
  obtain ⟨k1, k2, k3⟩ := C.keep p.length I.qle (Nat.le_refl _) hnp
  have hD : D1 = Dn D (Hs 0).next (Hs p.length).next := by
    funext b
    rw [eq_iff_iff, I.dom b]
    have e1 := C.le I.qle (Nat.le_refl _)
    constructor
    · rintro (h | h | ⟨k, h1, h2, h3, h4⟩)
      · exact .inl h
      · exact .inr ⟨h.1, by omega⟩
      · have hk : k < p.length := by obtain ⟨i', m', h5, _⟩ := h2; exact (List.getElem?_eq_some_iff.1 h5).1
        have e2 := C.le (Nat.zero_le k) (Nat.le_of_lt hk)
        have e3 := C.le (show k + 1 ≤ p.length by omega) (Nat.le_refl _)
        exact .inr ⟨by omega, by omega⟩
    · rintro (h | h)
      · exact .inl h
      · by_cases h1 : b < (Hs q).next
        · exact .inr (.inl ⟨h.1, h1⟩)
        · obtain ⟨k, h3, h4, h5, h6⟩ := C.find (k := q) (b := b) (by omega) p.length I.qle (Nat.le_refl _) h.2
          exact .inr (.inr ⟨k, h3, hex k h4, h5, h6⟩)
  have hsub : ∀ b, D1 b → (Hs p.length).get b = G.get b ∨ (Hs p.length).get b = none := fun b hb => by
    rcases (I.dom b).1 hb with h | h | ⟨k, h⟩
    · by_cases hlo : b < (Hs q).next
      · left; rw [k1 b hlo, I.glo b hlo]
      · right
        by_cases hbl : b < (Hs p.length).next
        · exfalso
          have := C.le (Nat.zero_le q) I.qle
          exact hf b (by omega) (by omega) h
        · exact hGe.top b (by omega)
    · left; rw [k1 b h.2, I.glo b h.2]
    · left
      rw [I.ghi k b h]
      obtain ⟨h1, h2, h3, h4⟩ := h
      have hk : k < p.length := by obtain ⟨i', m', h5, _⟩ := h2; exact (List.getElem?_eq_some_iff.1 h5).1
      exact (C.keep (k := k + 1) p.length (by omega) (Nat.le_refl _) (fun k' i' m' o' a b c d => hnp k' i' m' o' (by omega) b c d)).1 b h4
  have hstl : (Hs p.length).stale = G.stale := by rw [k2, I.gst]
  have hsat : Sat n0 w0 D1 s1 (Hs p.length) w1 := I.step.sat.sub hstl hsub
  have hsg : StepG n0 w0 D s (Hs 0) w D1 s1 (Hs p.length) w1 :=
    ⟨hsat, I.step.sub, I.step.same, I.step.size, I.step.frame, I.step.new, fun b hb ho => I.step.ow b hb (by
      obtain ⟨u, h1, _⟩ := ho.al.live
      rcases hsub b (I.step.sub b hb) with h | h
      · exact (ow_congr h (by rw [hstl])).1 ho
      · rw [h] at h1; cases h1)⟩
  rw [hD] at hsg
  have hst := hsg.toStep (C.le (Nat.zero_le _) (Nat.le_refl _)) hf
  refine ⟨s1, hst.trans (Step.flush hst.sat), fun t v ht => ?_, I.tsize, I.defers⟩
  obtain ⟨x, h1, h2⟩ := I.fr t v (fun i o ho _ => hall i (some_lt ho)) ht
  rw [Hp.next_flush, ← hD]
  exact ⟨x, h1, h2⟩
theorem any_ok (C : Cx T P n0 w0 call ops nt p anc Fs Hs Bs) (hg0 : GlOk T.ng D s) (hf : Fresh D (Hs 0) (Hs p.length)) {Q : Exit → Act → World → Prop} (hQ : ∀ a' w', Post n0 w0 nt D s (Hs 0) w (Fs p.length) (Hs p.length).flush a' w' → Q .normal a' w') :
    ∀ (fuel : Nat) (S : Array Bool) (a1 : Act) (w1 : World), (List.range ops.size).countP (fun i => !S.getD i false) ≤ fuel → (∃ q D1 s1 G, Inv T n0 w0 ops nt p Fs Hs D s w S a1 w1 q D1 s1 G) → wpAny P .any ops Q fuel S a1 w1
  | 0, S, a1, w1, hc, ⟨q, D1, s1, G, I⟩ => by
    have hall : ∀ i, i < ops.size → S.getD i false = true := fun i hi => by
      have h0 : (List.range ops.size).countP (fun i => !S.getD i false) = 0 := by omega
      rw [List.countP_eq_zero] at h0
      simpa using h0 i (List.mem_range.2 hi)
    refine ⟨?_, hQ a1 w1 (I.post C hf hall)⟩
    cases hr : Region.ready .any ops S with
    | nil => rfl
    | cons i r =>
      have : i ∈ Region.ready .any ops S := by rw [hr]; simp
      obtain ⟨h1, o, ho, _⟩ := mem_ready.1 this
      have hi := some_lt ho
      rw [getD_tf S (by rw [I.size]; exact hi), hall i hi] at h1
      cases h1
  | fuel + 1, S, a1, w1, hc, ⟨q, D1, s1, G, I⟩ => by
    refine ⟨fun hr => hQ a1 w1 (I.post C hf fun i hi => I.all_ex C hr (i + 1) i (by omega) hi), fun i hi => ?_⟩
    obtain ⟨h1, o, ho, hpre⟩ := mem_ready.1 hi
    have hlt := some_lt ho
    have hltS : i < S.size := by rw [I.size]; exact hlt
    obtain ⟨j, m, hj⟩ := C.pl.cover i hlt
    have R : Rdy ops p S j i m o := ⟨hj, ho, by rw [← getD_tf S hltS]; exact h1, fun e he hb => hpre e he hb⟩
    refine wpOp_mono (fun a' w' hI => any_ok C hg0 hf hQ fuel _ a' w' ?_ hI) (I.op C hg0 hf R (Q := Q))
    have := countP_lt (l := List.range ops.size) (p := fun i => !S.getD i false) (p' := fun k => !(S.setIfInBounds i true).getD k false) (fun k hk h => by
      cases hS : S.getD k false with
      | false => rfl
      | true =>
        rw [(getD_set S hltS).2 (.inr hS)] at h
        cases h) ⟨i, List.mem_range.2 hlt, by rw [R.un]; rfl, by rw [(getD_set S hltS).2 (.inl rfl)]; rfl⟩
    omega
theorem Sat.drew {H : Hp} (h : Sat n0 w0 D s H w) : Sat n0 w0 D s H { w with drawn := w.drawn + 1 } :=
  ⟨h.below.trans ⟨rfl, rfl, rfl, Nat.le_refl _, fun _ _ => rfl⟩, fun b e sz ro cs hb hg => (h.row b e sz ro cs hb hg).keep (fun _ h => h) (fun _ _ => rfl) rfl, h.map, h.iter, h.sep, h.old⟩
theorem step_drew {H : Hp} (h : Sat n0 w0 D s H w) : Step n0 w0 D s H w s H { w with drawn := w.drawn + 1 } := by
  refine ⟨by rw [dn_refl]; exact h.drew, fun _ _ => rfl, Nat.le_refl _, Nat.le_refl _, fun _ _ _ => rfl, fun b h1 h2 => by omega, fun _ _ h => h⟩
/-- WHATEVER ORDER IS DRAWN, THE PLAN TELLS. -/
theorem drawOk (hM : MachOk T P) (hn : n0 ≤ w0.heap.size) {f : FuncId} {id : Nat} (hp : ∀ p, T.dr f id = some p → ∃ anc, planOk T ops nt p anc = true) : DrawOk T P n0 w0 f nt id ops := by
  intro call hc hcg p hdr F H F' H' hev D s a w Q hP hf hQ
  obtain ⟨anc, hpl⟩ := hp p hdr
  obtain ⟨Fs, Hs, Bs, e1, e2, e3, e4, e5, e6⟩ := evDraw_trace p hev
  subst e1; subst e2; subst e5; subst e6
  have C : Cx T P n0 w0 call ops nt p anc Fs Hs Bs := ⟨hM, hn, hc, hcg, planOk_spec hpl, e4, e3, hP.good⟩
  have hf' : Fresh D (Hs 0) (Hs p.length) := fun b h1 h2 => hf b h1 (by rw [Hp.next_flush]; exact h2)
  refine wp_region_any hM.mixed ?_
  refine any_ok (w := { w with drawn := w.drawn + 1 }) C hP.gl hf' (fun a' w' h => hQ a' w' (Post.trans (step_drew hP.sat) (by rw [dn_refl]; exact h))) ops.size _ a _ ?_ ?_
  · exact Nat.le_trans List.countP_le_length (by simp)
  · refine ⟨0, D, s, Hs 0, ?_⟩
    have hno : ∀ k : Nat, (Array.replicate ops.size false).getD k false = false := fun k => by
      simp only [Array.getD_eq_getD_getElem?, Array.getElem?_replicate]
      split <;> rfl
    have hne : ∀ k, ¬ Ex (Array.replicate ops.size false) p k := fun k ⟨i, m, _, h⟩ => by rw [hno] at h; cases h
    exact {
      size := by simp
      closed := fun i o e _ h => by rw [hno] at h; cases h
      qle := Nat.zero_le _
      base := fun q' h => by omega
      below := fun j h => by omega
      early := fun j i m o _ _ _ h => by rw [hno] at h; cases h
      step := StepG.refl hP.sat.drew
      dom := fun b => ⟨fun h => .inl h, fun h => by
        rcases h with h | h | ⟨k, _, h, _⟩
        · exact h
        · omega
        · exact absurd h (hne k)⟩
      gst := rfl
      glo := fun _ _ => rfl
      ghi := fun k b h => absurd h.2.1 (hne k)
      gno := fun b hb _ => hP.good.top b hb
      uniq := fun k b h => absurd h.2.1 (hne k)
      fr := fun t v hall ht => by
        have hnd : ∀ (i : Nat) o, ops[i]? = some o → o.dst ≠ some t := fun i o ho hd => by
          have := hall i o ho hd
          rw [hno] at this; cases this
        rw [C.stab p.length (Nat.zero_le _) (Nat.le_refl _) (fun j' i m o _ _ _ ho => hnd i o ho)] at ht
        exact hP.fr t v ht
      fr0 := fun t v _ ht => hP.fr t v ht
      tsize := hP.size
      defers := hP.defers }

/-! ### The check of a program's code -/
def cdOk (T : Tab) (an : FuncId → Nat → List Nat) (f : FuncId) (nt : Nat) : Code → Bool
  | .region _ ops false => ops.toList.all fun o => match o.dst with | some t => Nat.blt t nt | none => true
  | .region id ops true => match T.dr f id with | some p => planOk T ops nt p (an f id) | none => true
  | .seq a b => cdOk T an f nt a && cdOk T an f nt b
  | .cond _ a b => cdOk T an f nt a && cdOk T an f nt b
  | .block _ c => cdOk T an f nt c
  | .scope c => cdOk T an f nt c
  | .loop c => cdOk T an f nt c
  | _ => true
theorem cdOk_spec (hM : MachOk T P) (hn : n0 ≤ w0.heap.size) {an : FuncId → Nat → List Nat} {f : FuncId} : ∀ (c : Code), cdOk T an f nt c = true → CdOk T P n0 w0 f nt c
  | .region _ ops false, h => fun o ho t ht => by
    simp only [cdOk, List.all_eq_true] at h
    have := h o ho
    rw [ht] at this
    simpa using this
  | .region id ops true, h => drawOk hM hn fun p hp => by
    simp only [cdOk, hp] at h
    exact ⟨_, h⟩
  | .seq a b, h => by
    simp only [cdOk, Bool.and_eq_true] at h
    exact ⟨cdOk_spec hM hn a h.1, cdOk_spec hM hn b h.2⟩
  | .cond _ a b, h => by
    simp only [cdOk, Bool.and_eq_true] at h
    exact ⟨cdOk_spec hM hn a h.1, cdOk_spec hM hn b h.2⟩
  | .block _ c, h => cdOk_spec hM hn c (by simpa only [cdOk] using h)
  | .scope c, h => cdOk_spec hM hn c (by simpa only [cdOk] using h)
  | .loop c, h => cdOk_spec hM hn c (by simpa only [cdOk] using h)
  | .skip, _ => trivial
  | .label _, _ => trivial
  | .exit _, _ => trivial
  | .ret, _ => trivial
  | .goto _, _ => trivial
  | .rangeFunc .., _ => trivial
  | .refuse _, _ => trivial
/-- What is checked of a function. -/
def fnOk (T : Tab) (an : FuncId → Nat → List Nat) (f : FuncId) (fn : Func) : Bool :=
  (match fn.body with | some c => cdOk T an f fn.ntmps c | none => true) && !(fn.name == "runtime.NumGoroutine")
structure ProgOk (T : Tab) (P : Program) (an : FuncId → Nat → List Nat) : Prop where
  ext : ExtOk T P
  extg : ExtGood T
  tab : TabOk T P
  mixed : P.follows .mixedOrders = true
  code : ∀ f fn, T.fn f = some fn → fnOk T an f fn = true
theorem ProgOk.mach {an : FuncId → Nat → List Nat} (h : ProgOk T P an) : MachOk T P :=
  ⟨h.ext, h.extg, h.tab, fun f fn hf => by
    have := h.code f fn hf
    simp only [fnOk, Bool.and_eq_true, Bool.not_eq_true'] at this
    exact this.2, h.mixed⟩
/-- A RUN TOLD BY THE ABSTRACT MACHINE IS A CALL. -/
theorem ProgOk.calls {an : FuncId → Nat → List Nat} (h : ProgOk T P an) (hn : n0 ≤ w0.heap.size) (k : Nat) : CallOk T P n0 w0 (evCall T k) :=
  evCall_ok h.mach hn (fun f fn c hf hb => by
    have := h.code f fn hf
    simp only [fnOk, hb, Bool.and_eq_true] at this
    exact cdOk_spec h.mach hn c this.1) k
end
end Go.AM
