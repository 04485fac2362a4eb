/- One operation, of whatever kind; a region in its text's order. -/
import Derived.Test.YtaenhbfgfhhbcaaAmGood
import Derived.Calls
set_option linter.unusedVariables false
set_option linter.unusedSimpArgs false
namespace Go.AM
open Go Go.RowKit
section
variable {T : Tab} {P : Program} {D : Nat → Prop} {s : Sg} {n0 : Nat} {w0 w w' : World} {H : Hp}

/-- The operation writes, and hands nothing on. -/
def SK (n0 : Nat) (w0 : World) (D : Nat → Prop) (s : Sg) (H : Hp) (w : World) (r : Result Next) (H' : Hp) : Prop :=
  ∃ s' w', r = .ok .skip w' ∧ Step n0 w0 D s H w s' H' w'
theorem SV.flush {r : Result Next} {H' : Hp} {v : V} (hS : Sat n0 w0 D s H w) (h : SV P n0 w0 D s H.flush w r H' v) : SV P n0 w0 D s H w r H' v := by
  obtain ⟨x, s', w', g1, g2, g3⟩ := h
  refine ⟨x, s', w', g1, (Step.flush hS).trans (by rw [Hp.next_flush, dn_refl]; exact g2), ?_⟩
  rw [← Hp.next_flush]; exact g3
theorem SK.flush {r : Result Next} {H' : Hp} (hS : Sat n0 w0 D s H w) (h : SK n0 w0 D s H.flush w r H') : SK n0 w0 D s H w r H' := by
  obtain ⟨s', w', g1, g2⟩ := h
  exact ⟨s', w', g1, (Step.flush hS).trans (by rw [Hp.next_flush, dn_refl]; exact g2)⟩
theorem SV.same {H : Hp} {a : Act} {o : Oper} {v : V} (hS : Sat n0 w0 D s H w) (h : Ev P D s a o w v) : SV P n0 w0 D s H w ((execOp a.eval o).run P w) H v := by
  obtain ⟨x, hx, hr⟩ := h
  exact ⟨x, s, w, hx, Step.refl hS, by rw [dn_refl]; exact hr⟩
/-- What an operation does that is told as r. -/
def OpOk (P : Program) (n0 : Nat) (w0 : World) (D : Nat → Prop) (s : Sg) (H : Hp) (w : World) (r : Result Next) : Res → Prop
  | .val v H' => SV P n0 w0 D s H w r H' v
  | .skip H' => SK n0 w0 D s H w r H'
  | .enter g vs H' => H' = H.flush ∧ ∃ xs : Array Value, RvL D s vs xs.toList ∧ r = (callFunc g xs).run P w
theorem evOp_ok (hT : TabOk T P) {F : Fr} {a : Act} (hg : GlOk T.ng D s) (hF : FrOk D s F a) (hS : Sat n0 w0 D s H w) (hn : n0 ≤ w0.heap.size) (hf : ¬ D H.next) (hG : Good H) (o : Oper) {r : Res} (h : evOp T o.op F H = some r) :
    OpOk P n0 w0 D s H w ((execOp a.eval o).run P w) r := by
  have hst : H.next ∉ H.stale := fun hm => absurd (hG.st _ hm) (Nat.lt_irrefl _)
  have hff : ¬ D H.flush.next := by rw [Hp.next_flush]; exact hf
  unfold evOp at h
  split at h
  · rename_i hk
    split at h <;> cases h
    exact SV.same hS (evP_ok hT hg hF o hk (by assumption) w)
  · rename_i hk
    split at h <;> cases h
    exact SV.same hS (evR_ok hT hg hF hS o hk (by assumption))
  · rename_i hk
    split at h
    · rename_i v ob kb hev
      split at h <;> cases h
      rename_i hkb
      refine evA_ok hT hg hF hS hn hf hst o hk hev (fun b e _ hb => ?_)
      subst e
      simp only [kbOk, Bool.not_eq_true'] at hkb
      rw [List.contains_iff_mem.2 hb] at hkb
      cases hkb
    · split at h <;> cases h
      exact SV.flush hS (evAW_ok hT hg hF hS.flush hn hff (Hp.stale_flush H) o hk (by assumption))
  · rename_i hk
    split at h <;> cases h
    · rename_i hev
      have h2 := evW_ok hT hg hF hS.flush hn hff (Hp.stale_flush H) o hk hev
      exact SV.flush (P := P) hS h2
    · rename_i hev
      have h2 := evW_ok hT hg hF hS.flush hn hff (Hp.stale_flush H) o hk hev
      exact SK.flush hS h2
  · rename_i hk
    obtain ⟨dst, op, type, pos, after, guard⟩ := o
    dsimp only at hk h ⊢
    split at h
    · rename_i c
      obtain ⟨callee, args, tys⟩ := c
      dsimp only at h
      split at h
      · rename_i f
        split at h <;> cases h
        rename_i g fs cs vs hfv hxs
        refine ⟨rfl, ?_⟩
        have hfv' := opd_ok hg hF hfv
        have hxs' := opds_ok hg hF hxs
        generalize hz : a.eval f = y at hfv'
        cases hfv' with
        | fn _ _ _ xs ys h1 h2 =>
          refine ⟨xs ++ args.map a.eval ++ ys, by simpa using (h1.append hxs').append h2, ?_⟩
          simp [execOp, resolve, hz, Deferred.ofValue, invoke]
      · cases h
    · cases h
  · cases h

/-! ### Frames -/
theorem FrOk.mono {F : Fr} {a : Act} {D' : Nat → Prop} {s' : Sg} (h : FrOk D s F a) (hD : ∀ b, D b → D' b) (hs : ∀ b, D b → s' b = s b) : FrOk D' s' F a :=
  fun t v hv => let ⟨x, h1, h2⟩ := h t v hv; ⟨x, h1, h2.mono hD hs⟩
theorem GlOk.mono {ng : Nat} {D' : Nat → Prop} {s' : Sg} (h : GlOk ng D s) (hD : ∀ b, D b → D' b) (hs : ∀ b, D b → s' b = s b) : GlOk ng D' s' :=
  fun g hlt => let ⟨h1, h2, h3⟩ := h g hlt; ⟨hD g h1, by rw [hs g h1]; exact h2, by rw [hs g h1]; exact h3⟩
theorem put_size (a : Act) (d : Option Tmp) (x : Value) : (a.put d x).tmps.size = a.tmps.size := by cases d <;> simp [Act.put]
theorem put_defers (a : Act) (d : Option Tmp) (x : Value) : (a.put d x).defers = a.defers := by cases d <;> rfl
theorem FrOk.put {F : Fr} {a : Act} (h : FrOk D s F a) {d : Option Tmp} {v : V} {x : Value} (hd : ∀ t, d = some t → t < a.tmps.size) (hr : Rv D s v x) : FrOk D s (putD F d v) (a.put d x) := by
  cases d with
  | none => exact h
  | some t =>
    intro t' v' hv'
    simp only [putD, Tr.get_set] at hv'
    split at hv'
    · rename_i e; subst e; cases hv'
      exact ⟨x, by simp [Act.put, hd t' rfl], hr⟩
    · rename_i e
      obtain ⟨y, h1, h2⟩ := h t' v' hv'
      exact ⟨y, by simp [Act.put, Array.getElem?_setIfInBounds, Ne.symm e, h1], h2⟩
theorem delD_put (F : Fr) (d : Option Tmp) : delD F d = putD F d (.tup []) := by cases d <;> rfl
theorem rv_undef : Rv D s (.tup []) undef := .tup [] #[] .nil
theorem FrOk.del {F : Fr} {a : Act} (h : FrOk D s F a) {d : Option Tmp} (hd : ∀ t, d = some t → t < a.tmps.size) : FrOk D s (delD F d) (a.put d undef) := by
  rw [delD_put]
  exact h.put hd rv_undef
theorem gotB_ok {F : Fr} {a : Act} (h : FrOk D s F a) {ops : Array Oper} {j : Nat} {b : Option Bool} (hb : gotB ops F j = some b) : yielded ops a.tmps j = b := by
  unfold gotB at hb
  split at hb
  · rename_i o ho
    split at hb
    · rename_i t ht
      split at hb
      · rename_i b' hv
        cases hb
        obtain ⟨x, h1, h2⟩ := h t _ hv
        cases h2
        simp [yielded, ho, ht, h1]
      · rename_i hv
        cases hb
        obtain ⟨x, h1, h2⟩ := h t _ hv
        cases h2
        simp [yielded, ho, ht, h1]
      · cases hb
    · cases hb
  · cases hb
theorem wantedV_ok {F : Fr} {a : Act} (h : FrOk D s F a) {ops : Array Oper} {o : Oper} {b : Bool} (hb : wantedV ops F o.guard = some b) : Region.wanted o (yielded ops a.tmps) = b := by
  unfold wantedV at hb
  split at hb
  · rename_i hn; cases hb; simp [Region.wanted, hn]
  · rename_i j w hn
    split at hb
    · rename_i b' hg'
      cases hb
      simp only [Region.wanted, hn, gotB_ok h hg']
    · cases hb
/-- A number passed over. -/
theorem step_bump (hS : Sat n0 w0 D s H w) (hG : Good H) (hf : ¬ D H.next) : ∃ s', Step n0 w0 D s H w s' H.bump w := by
  have hn : H.get H.next = none := hG.top _ (Nat.le_refl _)
  have hs : ∀ b, D b → upd s H.next ⟨w.heap.size, 0, 0, 0⟩ b = s b := fun b hb => upd_ne _ _ (fun e => hf (e ▸ hb))
  have hD : ∀ b o, Dn D H.next H.bump.next b → H.get b = some o → D b := fun b o hb hg => by
    rcases hb with hb | hb
    · exact hb
    · have : b = H.next := by have h1 := hb.1; have h2 : b < H.next + 1 := hb.2; omega
      subst this; rw [hn] at hg; cases hg
  have hO : ∀ b, Dn D H.next H.bump.next b → Ow H b → D b := fun b hb ho => by
    unfold Ow at ho
    split at ho
    · exact hD b _ hb (by assumption)
    · exact hD b _ hb (by assumption)
    · exact hD b _ hb (by assumption)
    · cases ho
  have hA : ∀ b, Dn D H.next H.bump.next b → Al H b → D b := fun b hb ho => by
    unfold Al at ho
    split at ho
    · exact hD b _ hb (by assumption)
    · exact hD b _ hb (by assumption)
    · exact hD b _ hb (by assumption)
    · cases ho
  have m : ∀ b, D b → Dn D H.next H.bump.next b := fun b hb => .inl hb
  refine ⟨upd s H.next ⟨w.heap.size, 0, 0, 0⟩, ⟨hS.below, fun b e sz ro cs hb hg => ?_, fun b ro es c hb hg => ?_, fun b mm si se la hb hg => ?_, fun b b' h1 h2 h3 h4 h5 => ?_, fun x e sz ro cs b e' sz' cs' hx hxs hgx hb ho hgb heq => ?_⟩, hs, Nat.le_succ _, Nat.le_refl _, fun _ _ _ => rfl, fun b h1 h2 => ?_, fun b _ ho => ho⟩
  · have hd := hD b _ hb hg
    rw [hs b hd]
    exact (hS.row b e sz ro cs hd hg).keep m hs rfl
  · have hd := hD b _ hb hg
    rw [hs b hd]
    obtain ⟨ents, h1, h2, h3⟩ := hS.map b ro es c hd hg
    exact ⟨ents, h1, h2.mono m hs, h3⟩
  · have hd := hD b _ hb hg
    rw [hs b hd]
    obtain ⟨h1, h2, h3, h4⟩ := hS.iter b mm si se la hd hg
    refine ⟨?_, fun m' hm => .inl (h2 m' hm), h3, h4⟩
    rw [h1]
    cases mm with
    | none => rfl
    | some mm => simp only [Option.map_some]; rw [hs mm (h2 mm rfl)]
  · rw [hs b (hO b h1 h4), hs b' (hA b' h2 h5)]
    exact hS.sep b b' (hO b h1 h4) (hA b' h2 h5) h3 h4 h5
  · have hx' := hD x _ hx hgx
    have hb' := hO b hb ho
    rw [hs b hb', hs x hx'] at heq
    rw [hs b hb', hs x hx']
    exact hS.old x e sz ro cs b e' sz' cs' hx' hxs hgx hb' ho hgb heq
  · left
    have : b = H.next := by have h2 : b < H.next + 1 := h2; omega
    subst this
    rw [upd_self]
    exact Nat.le_refl _
end
end Go.AM
