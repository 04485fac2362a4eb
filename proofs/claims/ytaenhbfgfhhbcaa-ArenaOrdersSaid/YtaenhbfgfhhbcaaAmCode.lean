/- Code and calls. Drawn regions are a hypothesis here ('CdOk'). -/
import Derived.Test.YtaenhbfgfhhbcaaAmReg
import Derived.Tactics
set_option linter.unusedVariables false
set_option linter.unusedSimpArgs false
namespace Go.AM
open Go Go.RowKit

/-- A drawn region does what its plan tells. -/
def DrawOk (T : Tab) (P : Program) (n0 : Nat) (w0 : World) (f : FuncId) (nt : Nat) (id : Nat) (ops : Array Oper) : Prop :=
  ∀ (call : CallE), CallOk T P n0 w0 call → CallGood call → ∀ p, T.dr f id = some p → ∀ F H F' H', evDraw T call ops p F H [H] = some (F', H') → ∀ D s a w Q, Pre T n0 w0 nt D s F H a w → Fresh D H H' →
    (∀ a' w', Post n0 w0 nt D s H w F' H' a' w' → Q .normal a' w') → (Code.region id ops true).wp P Q a w
/-- Its destinations lie in the frame; its drawn regions do what their plans tell. -/
def CdOk (T : Tab) (P : Program) (n0 : Nat) (w0 : World) (f : FuncId) (nt : Nat) : Code → Prop
  | .region _ ops false => ∀ o ∈ ops.toList, ∀ t, o.dst = some t → t < nt
  | .region id ops true => DrawOk T P n0 w0 f nt id ops
  | .seq a b => CdOk T P n0 w0 f nt a ∧ CdOk T P n0 w0 f nt b
  | .cond _ a b => CdOk T P n0 w0 f nt a ∧ CdOk T P n0 w0 f nt b
  | .block _ c => CdOk T P n0 w0 f nt c
  | .scope c => CdOk T P n0 w0 f nt c
  | .loop c => CdOk T P n0 w0 f nt c
  | _ => True
def Out.exit' : Out → Exit
  | .nrm => .normal
  | .exit i => .exit i
  | .ret => .ret

theorem least {p : Nat → Prop} (h : ∃ n, p n) : ∃ n, p n ∧ ∀ m, p m → n ≤ m := by
  obtain ⟨n, hn⟩ := h
  induction n using Nat.strongRecOn with
  | _ n ih =>
    by_cases h' : ∃ m, m < n ∧ p m
    · obtain ⟨m, h1, h2⟩ := h'
      exact ih m h1 h2
    · refine ⟨n, hn, fun m hm => ?_⟩
      rcases Nat.lt_or_ge m n with h1 | h1
      · exact absurd ⟨m, h1, hm⟩ h'
      · exact h1
open Classical in
noncomputable def mu (R : Nat → Act → World → Prop) (a : Act) (w : World) : Nat := if h : ∃ n, R n a w then (least h).choose else 0
theorem mu_spec {R : Nat → Act → World → Prop} {a : Act} {w : World} (h : ∃ n, R n a w) : R (mu R a w) a w ∧ ∀ m, R m a w → mu R a w ≤ m := by
  unfold mu
  rw [dif_pos h]
  exact (least h).choose_spec
theorem wp_loopN {P : Program} {c : Code} {Q : Exit → Act → World → Prop} (R : Nat → Act → World → Prop) (zero : ∀ a w, ¬ R 0 a w) (round : ∀ m a w, R (m + 1) a w → c.wp P (Exit.then (R m) Q) a w) {n : Nat} {a : Act} {w : World} (h : R n a w) : (Code.loop c).wp P Q a w := by
  refine wp_loop (fun a w => ∃ n, R n a w) (mu R) ⟨n, h⟩ fun a w hI => ?_
  obtain ⟨h1, h2⟩ := mu_spec hI
  cases hm : mu R a w with
  | zero => rw [hm] at h1; exact absurd h1 (zero a w)
  | succ m =>
    rw [hm] at h1
    refine wp_mono (round m a w h1) fun e a' w' he => ?_
    cases e with
    | normal => exact ⟨⟨m, he⟩, Nat.lt_succ_of_le ((mu_spec ⟨m, he⟩).2 m he)⟩
    | _ => exact he

section
variable {T : Tab} {P : Program} {n0 : Nat} {w0 : World} {nt : Nat} {f : FuncId}

def RLoop (T : Tab) (n0 : Nat) (w0 : World) (nt : Nat) (body : Fr → Hp → Option (Out × Fr × Hp)) (D : Nat → Prop) (s : Sg) (H : Hp) (w : World) (o : Out) (F' : Fr) (H' : Hp) (n : Nat) (a1 : Act) (w1 : World) : Prop :=
  ∃ s1 F1 H1, Step n0 w0 D s H w s1 H1 w1 ∧ Pre T n0 w0 nt (Dn D H.next H1.next) s1 F1 H1 a1 w1 ∧ Fresh (Dn D H.next H1.next) H1 H' ∧ loopN body n F1 H1 = some (o, F', H')
theorem loopN_nrm {body : Fr → Hp → Option (Out × Fr × Hp)} : ∀ (n : Nat) {F F' : Fr} {H H' : Hp} {o : Out}, loopN body n F H = some (o, F', H') → o ≠ .nrm
  | 0, _, _, _, _, _, h => by simp [loopN] at h
  | n + 1, F, F', H, H', o, h => by
    simp only [loopN] at h
    split at h
    · exact loopN_nrm n h
    · rename_i hx
      rintro rfl
      exact hx _ _ h
theorem evCode_ok (hM : MachOk T P) (hn : n0 ≤ w0.heap.size) {call : CallE} (hc : CallOk T P n0 w0 call) (hcg : CallGood call) {n : Nat} :
    ∀ (c : Code), CdOk T P n0 w0 f nt c → ∀ {D : Nat → Prop} {s : Sg} {F F' : Fr} {H H' : Hp} {o : Out} {a : Act} {w : World}, evCode T call f n c F H = some (o, F', H') → Pre T n0 w0 nt D s F H a w → Fresh D H H' →
      c.wp P (fun e a' w' => e = o.exit' ∧ Post n0 w0 nt D s H w F' H' a' w') a w
  | .skip, _, D, s, F, F', H, H', o, a, w, h, hP, hf => by
    simp only [evCode] at h
    cases h
    exact wp_skip ⟨rfl, s, Step.refl hP.sat, hP.fr.mono (fun b hb => .inl hb) (fun _ _ => rfl), hP.size, hP.defers⟩
  | .label _, _, D, s, F, F', H, H', o, a, w, h, hP, hf => by
    simp only [evCode] at h
    cases h
    exact wp_label ⟨rfl, s, Step.refl hP.sat, hP.fr.mono (fun b hb => .inl hb) (fun _ _ => rfl), hP.size, hP.defers⟩
  | .exit _, _, D, s, F, F', H, H', o, a, w, h, hP, hf => by
    simp only [evCode] at h
    cases h
    exact wp_exit ⟨rfl, s, Step.refl hP.sat, hP.fr.mono (fun b hb => .inl hb) (fun _ _ => rfl), hP.size, hP.defers⟩
  | .ret, _, D, s, F, F', H, H', o, a, w, h, hP, hf => by
    simp only [evCode] at h
    cases h
    exact wp_ret ⟨rfl, s, Step.refl hP.sat, hP.fr.mono (fun b hb => .inl hb) (fun _ _ => rfl), hP.size, hP.defers⟩
  | .goto _, _, _, _, _, _, _, _, _, _, _, h, _, _ => by simp [evCode] at h
  | .rangeFunc .., _, _, _, _, _, _, _, _, _, _, h, _, _ => by simp [evCode] at h
  | .refuse _, _, _, _, _, _, _, _, _, _, _, h, _, _ => by simp [evCode] at h
  | .region id ops false, hk, D, s, F, F', H, H', o, a, w, h, hP, hf => by
    simp only [evCode] at h
    split at h
    · cases h
      refine wp_region ?_
      have := evOps_ok (ops := ops) (Q := fun e a' w' => e = Out.nrm.exit' ∧ Post n0 w0 nt D s H w F' H' a' w') hM hn hc hcg ops.toList 0 (fun j hj => by simp) hk (by assumption) hP hf (fun a' w' h' => ⟨rfl, h'⟩)
      rw [List.range_eq_range']
      simpa using this
    · cases h
  | .region id ops true, hk, D, s, F, F', H, H', o, a, w, h, hP, hf => by
    simp only [evCode] at h
    split at h
    · rename_i p hp
      split at h
      · cases h
        exact hk call hc hcg p hp F H F' H' (by assumption) D s a w _ hP hf (fun a' w' h' => ⟨rfl, h'⟩)
      · cases h
    · cases h
  | .seq x y, hk, D, s, F, F', H, H', o, a, w, h, hP, hf => by
    simp only [evCode] at h
    split at h
    · rename_i F1 H1 h1
      have g1 := evCode_good hcg x hP.good h1
      have g2 := evCode_good hcg y g1.good h
      refine wp_seq (wp_mono (evCode_ok hM hn hc hcg x hk.1 h1 hP (hf.left g2.le)) fun e a1 w1 he => ?_)
      obtain ⟨rfl, s1, hs, hF1, hz, hdf⟩ := he
      have hP1 := hP.next hs hF1 g1.good hz hdf
      refine wp_mono (evCode_ok hM hn hc hcg y hk.2 h hP1 (hf.right g1.le)) fun e a2 w2 he => ?_
      exact ⟨he.1, Post.trans hs he.2⟩
    · rename_i hx
      refine wp_seq (wp_mono (evCode_ok hM hn hc hcg x hk.1 h hP hf) fun e a1 w1 he => ?_)
      obtain ⟨rfl, hpost⟩ := he
      cases o with
      | nrm => exact absurd h (hx _ _)
      | exit i => exact ⟨rfl, hpost⟩
      | ret => exact ⟨rfl, hpost⟩
  | .cond x y z, hk, D, s, F, F', H, H', o, a, w, h, hP, hf => by
    simp only [evCode] at h
    split at h
    · rename_i hx
      have hx' := opd_ok hP.gl hP.fr hx
      generalize hz : a.eval x = u at hx'
      cases hx'
      exact wp_cond_true hz (evCode_ok hM hn hc hcg y hk.1 h hP hf)
    · rename_i hx
      have hx' := opd_ok hP.gl hP.fr hx
      generalize hz : a.eval x = u at hx'
      cases hx'
      exact wp_cond_false hz (evCode_ok hM hn hc hcg z hk.2 h hP hf)
    · cases h
  | .block id c, hk, D, s, F, F', H, H', o, a, w, h, hP, hf => by
    simp only [evCode] at h
    split at h
    · rename_i i F1 H1 h1
      split at h
      · rename_i hid
        cases h
        refine wp_block (wp_mono (evCode_ok hM hn hc hcg c hk h1 hP hf) fun e a1 w1 he => ?_)
        obtain ⟨rfl, hpost⟩ := he
        simp only [Out.exit', Exit.inBlock, hid, if_true]
        exact ⟨trivial, hpost⟩
      · rename_i hid
        cases h
        refine wp_block (wp_mono (evCode_ok hM hn hc hcg c hk h1 hP hf) fun e a1 w1 he => ?_)
        obtain ⟨rfl, hpost⟩ := he
        simp only [Out.exit', Exit.inBlock, hid, if_false]
        exact ⟨trivial, hpost⟩
    · rename_i hx
      refine wp_block (wp_mono (evCode_ok hM hn hc hcg c hk h hP hf) fun e a1 w1 he => ?_)
      obtain ⟨rfl, hpost⟩ := he
      cases o with
      | nrm => exact ⟨rfl, hpost⟩
      | exit i => exact absurd h (hx _ _ _)
      | ret => exact ⟨rfl, hpost⟩
  | .scope c, hk, D, s, F, F', H, H', o, a, w, h, hP, hf => by
    simp only [evCode] at h
    refine wp_scope_straight (wp_mono (evCode_ok hM hn hc hcg c hk h hP hf) fun e a1 w1 he => ?_)
    obtain ⟨rfl, hpost⟩ := he
    cases o <;> exact ⟨rfl, hpost⟩
  | .loop c, hk, D, s, F, F', H, H', o, a, w, h, hP, hf => by
    simp only [evCode] at h
    have hbg : ∀ F H o F' H', evCode T call f n c F H = some (o, F', H') → Good H → Grow H H' := fun F H o F' H' hb hG => evCode_good hcg c hG hb
    refine wp_loopN (RLoop T n0 w0 nt (evCode T call f n c) D s H w o F' H') (fun a1 w1 hR => ?_) (fun m a1 w1 hR => ?_) (n := n) ?_
    · obtain ⟨s1, F1, H1, _, _, _, hl⟩ := hR
      simp [loopN] at hl
    · obtain ⟨s1, F1, H1, hs, hP1, hf1, hl⟩ := hR
      have hnn := loopN_nrm _ hl
      simp only [loopN] at hl
      split at hl
      · rename_i F2 H2 h2
        have g1 := hbg _ _ _ _ _ h2 hP1.good
        have g2 := loopN_good hbg m g1.good hl
        refine wp_mono (evCode_ok hM hn hc hcg c hk h2 hP1 (hf1.left g2.le)) fun e a2 w2 he => ?_
        obtain ⟨rfl, s2, hs2, hF2, hz, hdf⟩ := he
        have hP2 := hP1.next hs2 hF2 g1.good hz hdf
        have hf2 := hf1.right (H1 := H2) g1.le
        rw [dn_dn D hs.next hs2.next] at hP2 hf2
        exact ⟨s2, F2, H2, hs.trans hs2, hP2, hf2, hl⟩
      · refine wp_mono (evCode_ok hM hn hc hcg c hk hl hP1 hf1) fun e a2 w2 he => ?_
        obtain ⟨rfl, hpost⟩ := he
        cases o with
        | nrm => exact absurd rfl hnn
        | exit i => exact ⟨rfl, Post.trans hs hpost⟩
        | ret => exact ⟨rfl, Post.trans hs hpost⟩
    · exact ⟨s, F, H, Step.refl hP.sat, by rw [dn_refl]; exact hP, by rw [dn_refl]; exact hf, h⟩

theorem frame_ok {D : Nat → Prop} {s : Sg} {tmps : Array Value} : ∀ (vs : List V) (i : Nat) (F : Fr), (∀ t v, F.get t = some v → ∃ x, tmps[t]? = some x ∧ Rv D s v x) → (∀ j v, vs[j]? = some v → ∃ x, tmps[i + j]? = some x ∧ Rv D s v x) →
    ∀ t v, (frame vs i F).get t = some v → ∃ x, tmps[t]? = some x ∧ Rv D s v x
  | [], i, F, hF, _ => hF
  | u :: r, i, F, hF, hv => by
    refine frame_ok r (i + 1) (F.set i u) (fun t v ht => ?_) (fun j v hj => ?_)
    · rw [Tr.get_set] at ht
      split at ht
      · rename_i e; subst e; cases ht
        have := hv 0 u (by simp)
        simpa using this
      · exact hF t v ht
    · have := hv (j + 1) v (by simpa using hj)
      rw [show i + 1 + j = i + (j + 1) from by omega]
      exact this
def resVar (tmps : Array Value) : ResultVar → Sem Value
  | .tmp t => pure (tmps.getD t undef)
  | .cell a' t => do loadVar t (← asAddr (tmps.getD a' undef))
theorem results_eq (fn : Func) (tmps : Array Value) : results fn tmps = (do let vs ← fn.results.mapM (resVar tmps); pure (if h : vs.size = 1 then vs[0] else .tuple vs)) := by
  unfold results
  congr 1
theorem getAll_ok (hT : TabOk T P) {D : Nat → Prop} {s : Sg} {F : Fr} {H : Hp} {w : World} {a : Act} (hS : Sat n0 w0 D s H w) (hF : FrOk D s F a) : ∀ (l : List ResultVar) {vs : List V}, getAll T F H.get l = some vs → ∃ xs : List Value, RvL D s vs xs ∧
    (l.mapM (resVar a.tmps)).run P w = .ok xs w
  | [], vs, h => by simp only [getAll] at h; cases h; exact ⟨[], .nil, by simp⟩
  | .tmp t :: r, vs, h => by
    simp only [getAll] at h
    split at h
    · rename_i v us h1 h2
      cases h
      obtain ⟨x, hx, hr⟩ := hF t v h1
      obtain ⟨xs, h3, h4⟩ := getAll_ok hT hS hF r h2
      refine ⟨x :: xs, .cons _ _ _ _ hr h3, ?_⟩
      have h0 : (resVar a.tmps (.tmp t)).run P w = .ok x w := by simp [resVar, hx]
      simp only [List.mapM_cons, Sem.run_bind, Sem.run_pure, Result.andThen_ok, h4, h0]
    · cases h
  | .cell a' t :: r, vs, h => by
    simp only [getAll] at h
    split at h
    · rename_i b off ha
      split at h
      · rename_i e sz ro cs hg
        split at h
        · rename_i v us h1 h2
          cases h
          obtain ⟨p, hp, hpr⟩ := hF a' _ ha
          obtain ⟨xs, h3, h4⟩ := getAll_ok hT hS hF r h2
          obtain ⟨x, hx, hr⟩ := load_ok hT hS hpr hg h1
          refine ⟨x :: xs, .cons _ _ _ _ hr h3, ?_⟩
          have h0 : (resVar a.tmps (.cell a' t)).run P w = .ok x w := by
            rw [← hx]
            cases hpr with
            | ptr b off hD => simp [resVar, hp, Instr.loadAt, Instr.sureAddr, asAddr]
          simp only [List.mapM_cons, Sem.run_bind, Sem.run_pure, Result.andThen_ok, h4, h0]
        · cases h
      · cases h
    · cases h
theorem resOf_ok (hT : TabOk T P) {D : Nat → Prop} {s : Sg} {F : Fr} {H : Hp} {w : World} {a : Act} (hS : Sat n0 w0 D s H w) (hF : FrOk D s F a) {fn : Func} {v : V} (h : resOf T fn.results.toList F H.get = some v) : ∃ x, (results fn a.tmps).run P w = .ok x w ∧ Rv D s v x := by
  unfold resOf at h
  have key : ∀ vs, getAll T F H.get fn.results.toList = some vs → ∃ xs : List Value, RvL D s vs xs ∧ (results fn a.tmps).run P w = .ok (if h : xs.toArray.size = 1 then xs.toArray[0] else .tuple xs.toArray) w := fun vs hvs => by
    obtain ⟨xs, h1, h2⟩ := getAll_ok hT hS hF _ hvs
    refine ⟨xs, h1, ?_⟩
    have := h2
    have e : fn.results = fn.results.toList.toArray := by simp
    rw [results_eq, e, List.mapM_toArray]
    have hm : (List.toArray <$> fn.results.toList.mapM (resVar a.tmps)).run P w = .ok xs.toArray w := by
      show ((fn.results.toList.mapM (resVar a.tmps)) >>= fun x => pure x.toArray).run P w = _
      simp [this]
    simp only [Sem.run_bind, hm, Result.andThen_ok, Sem.run_pure]
  split at h
  · rename_i u hvs
    cases h
    obtain ⟨xs, h1, h2⟩ := key _ hvs
    cases h1 with
    | cons _ x _ _ hx hr =>
      cases hr
      exact ⟨x, by rw [h2]; simp, hx⟩
  · rename_i vs hne hvs
    cases h
    obtain ⟨xs, h1, h2⟩ := key _ hvs
    have hl : xs.length ≠ 1 := fun e => by
      have := h1.length
      rw [e] at this
      match vs, this with
      | [u], _ => exact hne u rfl
    refine ⟨.tuple xs.toArray, by rw [h2]; simp [hl], .tup _ _ (by simpa using h1)⟩
  · cases h
theorem evCall_ok (hM : MachOk T P) (hn : n0 ≤ w0.heap.size) (hcd : ∀ f fn c, T.fn f = some fn → fn.body = some c → CdOk T P n0 w0 f fn.ntmps c) : ∀ k, CallOk T P n0 w0 (evCall T k)
  | 0 => fun f vs H v H' h => by simp [evCall] at h
  | k + 1 => fun f vs H v H' h D s w xs hg hxs hS hG hf => by
    simp only [evCall] at h
    split at h
    · rename_i fn hfn
      split at h
      · rename_i c hbody
        refine ⟨⟨fn, c, hfn, hbody⟩, ?_⟩
        split at h
        · rename_i e hex
          exact hM.ext f e hex n0 w0 hn vs H v H' h D s w xs hg hxs hS hG hf
        have go : ∀ o F' H1, evCode T (evCall T k) f k c (frame vs 0 .nil) H = some (o, F', H1) → (o = .ret ∨ o = .nrm) → (match resOf T fn.results.toList F' H1.get with | some v => some (v, H1) | none => none) = some (v, H') →
            Calls P f xs w fun e w' => match e with
              | .returned x => ∃ s', Step n0 w0 D s H w s' H' w' ∧ Rv (Dn D H.next H'.next) s' v x
              | _ => False := by
          intro o F' H1 hev ho hres
          split at hres
          · rename_i v' hr
            cases hres
            have hP : Pre T n0 w0 fn.ntmps D s (frame vs 0 .nil) H { tmps := xs ++ Array.replicate (fn.ntmps - xs.size) undef, defers := [] } w := by
              refine ⟨hg, frame_ok vs 0 .nil (fun t v h => by simp [Tr.get] at h) (fun j v hj => ?_), hS, hG, by simp; omega, rfl⟩
              obtain ⟨x, h1, h2⟩ := hxs.get j v hj
              rw [Array.getElem?_toList] at h1
              refine ⟨x, ?_, h2⟩
              have hlt : j < xs.size := (Array.getElem?_eq_some_iff.1 h1).1
              rw [Nat.zero_add, Array.getElem?_append_left hlt]
              exact h1
            refine calls_of_wp (hM.tab.fn f fn hfn) hbody (wp_mono (evCode_ok hM hn (evCall_ok hM hn hcd k) (evCall_good hM.extg k) c (hcd f fn c hfn hbody) hev hP hf) fun e a' w' he => ?_)
            obtain ⟨rfl, s', hs, hF', _, hdf⟩ := he
            obtain ⟨x, hx, hrv⟩ := resOf_ok hM.tab hs.sat hF' hr
            rcases ho with rfl | rfl
            · exact ⟨hdf, x, hx, s', hs, hrv⟩
            · exact ⟨hdf, x, hx, s', hs, hrv⟩
          · cases hres
        split at h
        · exact go _ _ _ (by assumption) (.inl rfl) h
        · exact go _ _ _ (by assumption) (.inr rfl) h
        · cases h
      · cases h
    · cases h
end
end Go.AM
