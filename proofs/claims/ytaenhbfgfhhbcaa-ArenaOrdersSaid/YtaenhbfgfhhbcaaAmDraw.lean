/- Drawn regions: whatever order is drawn, the plan tells what comes of it. -/
import Derived.Test.YtaenhbfgfhhbcaaAmInv2
set_option linter.unusedVariables false
set_option linter.unusedSimpArgs false
namespace Go.AM
open Go

mutual
theorem eqV_eq : ∀ (a b : V), eqV a b = true → a = b
  | .bool a, b, h => by cases b <;> simp_all [eqV]
  | .int k a, b, h => by cases b <;> simp_all [eqV]
  | .str a, b, h => by cases b <;> simp_all [eqV]
  | .nilp, b, h => by cases b <;> simp_all [eqV]
  | .ptr x o, b, h => by cases b <;> simp_all [eqV]
  | .nils, b, h => by cases b <;> simp_all [eqV]
  | .sle, b, h => by cases b <;> simp_all [eqV]
  | .sl x o n c z, b, h => by cases b <;> simp_all [eqV]
  | .nilm, b, h => by cases b <;> simp_all [eqV]
  | .mp x, b, h => by cases b <;> simp_all [eqV]
  | .nilf, b, h => by cases b <;> simp_all [eqV]
  | .fn f x y, b, h => by cases b <;> simp [eqV] at h
  | .nili, b, h => by cases b <;> simp_all [eqV]
  | .ifc t v, b, h => by
    cases b <;> simp only [eqV, Bool.and_eq_true, beq_iff_eq, Bool.false_eq_true] at h
    rw [h.1, eqV_eq v _ h.2]
  | .agg x, b, h => by
    cases b <;> simp only [eqV, Bool.false_eq_true] at h
    rw [eqL_eq x _ h]
  | .tup x, b, h => by
    cases b <;> simp only [eqV, Bool.false_eq_true] at h
    rw [eqL_eq x _ h]
theorem eqL_eq : ∀ (a b : List V), eqL a b = true → a = b
  | [], b, h => by cases b <;> simp_all [eqL]
  | x :: r, b, h => by
    cases b <;> simp only [eqL, Bool.and_eq_true, Bool.false_eq_true] at h
    rw [eqV_eq x _ h.1, eqL_eq r _ h.2]
end
theorem countP_lt {α : Type} {p p' : α → Bool} : ∀ {l : List α}, (∀ x ∈ l, p' x = true → p x = true) → (∃ x ∈ l, p x = true ∧ p' x = false) → l.countP p' < l.countP p
  | [], _, ⟨x, h, _⟩ => by cases h
  | y :: l, h1, h2 => by
    have hle : l.countP p' ≤ l.countP p := List.countP_mono_left (fun x hx => h1 x (by simp [hx]))
    rw [List.countP_cons, List.countP_cons]
    obtain ⟨x, hx, h3, h4⟩ := h2
    rcases List.mem_cons.1 hx with rfl | hx
    · rw [h3, h4]; simp; omega
    · have := countP_lt (p := p) (p' := p') (l := l) (fun x hx => h1 x (by simp [hx])) ⟨x, hx, h3, h4⟩
      have h5 := h1 y (by simp)
      cases hy : p' y
      · simp; omega
      · rw [h5 hy]; simp; omega

section
variable {T : Tab} {P : Program} {n0 : Nat} {w0 : World} {call : CallE} {ops : Array Oper} {nt : Nat} {p : List (Nat × Nat)} {anc : List Nat} {Fs : Nat → Fr} {Hs : Nat → Hp} {Bs : Nat → List Hp}
variable {D : Nat → Prop} {s : Sg} {w : World} {S : Array Bool} {a1 : Act} {w1 : World} {q : Nat} {D1 : Nat → Prop} {s1 : Sg} {G : Hp}

/-- The points before a place. -/
def np (T : Tab) (ops : Array Oper) (p : List (Nat × Nat)) (j : Nat) : Nat := (p.take j).countP fun e => ptAt T ops e.1
theorem np_succ {j i m : Nat} (hj : p[j]? = some (i, m)) : np T ops p (j + 1) = np T ops p j + if ptAt T ops i then 1 else 0 := by
  unfold np
  rw [List.take_add_one, hj, List.countP_append]
  simp
theorem np_mono (C : Cx T P n0 w0 call ops nt p anc Fs Hs Bs) {k : Nat} : ∀ j, k ≤ j → j ≤ p.length → np T ops p k ≤ np T ops p j
  | 0, h, _ => by have : k = 0 := by omega
                  subst this; exact Nat.le_refl _
  | j + 1, h, h' => by
    by_cases e : k = j + 1
    · subst e; exact Nat.le_refl _
    · obtain ⟨i, m, o, hj, ho⟩ := C.ent (show j < p.length by omega)
      have := np_mono C (k := k) j (by omega) (by omega)
      rw [np_succ hj]; omega
theorem StepAt.ptB {o : Oper} {m : Nat} {F F1 : Fr} {H H1 : Hp} {B B1 : List Hp} (h : StepAt T call ops o m F H B F1 H1 B1) (hp : isPt T o.op = true) : ∃ X, B1 = X :: B ∧ ∀ b, X.get b = H1.get b := by
  cases h with
  | skip _ => rw [hp]; exact ⟨H, rfl, fun _ => rfl⟩
  | val _ _ _ _ h _ => rw [hp] at h; cases h
  | pval v H' _ _ _ => exact ⟨H', rfl, fun _ => rfl⟩
  | pskip H' _ _ _ => exact ⟨H', rfl, fun _ => rfl⟩
  | call _ _ _ _ H'' _ _ _ _ => exact ⟨H'', rfl, fun _ => rfl⟩
theorem Inv.bs (I : Inv T n0 w0 ops nt p Fs Hs D s w S a1 w1 q D1 s1 G) (C : Cx T P n0 w0 call ops nt p anc Fs Hs Bs) : ∀ j, q ≤ j → j ≤ p.length → ∃ X, (Bs j)[np T ops p j - np T ops p q]? = some X ∧ ∀ b, X.get b = (Hs q).get b := by
  have hbase : ∃ X, (Bs q)[0]? = some X ∧ ∀ b, X.get b = (Hs q).get b := by
    cases hq : q with
    | zero => exact ⟨Hs 0, by rw [C.b0]; rfl, fun _ => rfl⟩
    | succ q' =>
      obtain ⟨i, m, o, h1, h2, h3⟩ := I.base q' hq
      obtain ⟨X, h4, h5⟩ := (C.stp h1 h2).ptB h3
      exact ⟨X, by rw [h4]; rfl, h5⟩
  intro j
  induction j with
  | zero =>
    intro h _
    have : q = 0 := by omega
    subst this
    rw [Nat.sub_self]; exact hbase
  | succ j ih =>
    intro h h'
    by_cases e : q = j + 1
    · rw [← e, Nat.sub_self]; exact hbase
    · obtain ⟨X, h1, h2⟩ := ih (by omega) (by omega)
      obtain ⟨i, m, o, hj, ho⟩ := C.ent (show j < p.length by omega)
      have hm := np_mono C (k := q) j (by omega) (by omega)
      refine ⟨X, ?_, h2⟩
      rw [np_succ hj]
      cases hp : isPt T o.op with
      | true =>
        obtain ⟨Y, h4, _⟩ := (C.stp hj ho).ptB hp
        have : ptAt T ops i = true := by unfold ptAt; rw [ho]; exact hp
        rw [this, h4, if_pos rfl, show np T ops p j + 1 - np T ops p q = (np T ops p j - np T ops p q) + 1 from by omega]
        exact h1
      | false =>
        obtain ⟨h4, _⟩ := (C.stp hj ho).np hp
        have : ptAt T ops i = false := by unfold ptAt; rw [ho]; exact hp
        rw [this, h4]
        simpa using h1
/-- The points that have not come up are none that must come first. -/
theorem Inv.few (I : Inv T n0 w0 ops nt p Fs Hs D s w S a1 w1 q D1 s1 G) (C : Cx T P n0 w0 call ops nt p anc Fs Hs Bs) {j i m : Nat} {o : Oper} (R : Rdy ops p S j i m o) : np T ops p j - np T ops p q ≤ m := by
  refine Nat.le_trans ?_ (C.pl.win j i m o R.at_ R.op)
  have key : ∀ k, q ≤ k → k ≤ j → np T ops p k - np T ops p q ≤ (p.take k).countP fun e => ptAt T ops e.1 && !bitA anc i e.1 := by
    intro k
    induction k with
    | zero =>
      intro h _
      have : q = 0 := by omega
      subst this
      simp
    | succ k ih =>
      intro h h'
      by_cases e : q = k + 1
      · subst e; simp
      · have hk : k < p.length := Nat.lt_of_lt_of_le (by omega) (Nat.le_of_lt R.lt)
        obtain ⟨i', m', o', hk1, hk2⟩ := C.ent hk
        have h3 := ih (by omega) (by omega)
        rw [np_succ hk1, List.take_add_one, hk1, List.countP_append]
        cases hp : ptAt T ops i' with
        | false => simp [hp]; omega
        | true =>
          have hnb : bitA anc i i' = false := by
            cases hb : bitA anc i i' with
            | false => rfl
            | true =>
              have hex := I.up C R (some_lt hk2) hb
              have := I.early k i' m' o' (by omega) hk1 hk2 hex
              unfold ptAt at hp
              rw [hk2] at hp
              have hp : isPt T o'.op = true := hp
              rw [this] at hp; cases hp
          simp [hp, hnb]; omega
  exact key j (I.qj R) (Nat.le_refl _)
/-- A reading tells the same where it comes up. -/
theorem Inv.reads (I : Inv T n0 w0 ops nt p Fs Hs D s w S a1 w1 q D1 s1 G) (C : Cx T P n0 w0 call ops nt p anc Fs Hs Bs) (hf : Fresh D (Hs 0) (Hs p.length)) (hg : GlOk T.ng D1 s1) {j i m : Nat} {o : Oper} (R : Rdy ops p S j i m o) {F : Fr} (hF : FrOk D1 s1 F a1) (hA : Agree T F (Fs j) o.op) (hk : kind T o.op = .r) {v : V}
    (hev : evR T o.op (Fs j) (Hs j).get = some v) (hwin : winOk T o.op (Fs j) m v (Bs j) = true) : evR T o.op F G.get = some v := by
  have hj := R.lt
  have hq := I.qj R
  have hexlt : ∀ k, Ex S p k → k < p.length := fun k ⟨i', m', h, _⟩ => (List.getElem?_eq_some_iff.1 h).1
  obtain ⟨X, hX, hXg⟩ := I.bs C j hq (Nat.le_of_lt hj)
  have hfew := I.few C R
  by_cases h0 : np T ops p j - np T ops p q = 0
  · have hnp : ∀ (k i' m' : Nat) o', q ≤ k → k < j → p[k]? = some (i', m') → ops[i']? = some o' → isPt T o'.op = false := fun k i' m' o' h1 h2 h3 h4 => by
      cases hp : isPt T o'.op with
      | false => rfl
      | true =>
        exfalso
        have e1 := np_mono C (k := q) k h1 (by omega)
        have e2 := np_mono C (k := k + 1) j (by omega) (Nat.le_of_lt hj)
        have e3 : np T ops p (k + 1) = np T ops p k + 1 := by rw [np_succ h3, show ptAt T ops i' = true from by unfold ptAt; rw [h4]; exact hp]; rfl
        omega
    refine evR_mono hg hF (g := (Hs j).get) (fun b ob hb hgb => ?_) (by rw [evR_congr hA]; exact hev)
    have hlt := (C.grow0 j (Nat.le_of_lt hj)).lt hgb
    rcases (I.dom b).1 hb with h | h | ⟨k, h⟩
    · by_cases hlo : b < (Hs q).next
      · rw [I.glo b hlo, ← (C.keep j hq (Nat.le_of_lt hj) hnp).1 b hlo]; exact hgb
      · exfalso
        have := C.le (Nat.zero_le q) I.qle
        have := C.le (Nat.le_of_lt hj) (Nat.le_refl _)
        exact hf b (by omega) (by omega) h
    · rw [I.glo b h.2, ← (C.keep j hq (Nat.le_of_lt hj) hnp).1 b h.2]; exact hgb
    · rw [I.ghi k b h]
      obtain ⟨h1, h2, h3, h4⟩ := h
      by_cases hkj : k < j
      · rw [← (C.keep (k := k + 1) j (by omega) (Nat.le_of_lt hj) (fun k' i' m' o' a b c d => hnp k' i' m' o' (by omega) b c d)).1 b h4]
        exact hgb
      · exfalso
        have := C.le (show j ≤ k by omega) (Nat.le_of_lt (hexlt k h2))
        omega
  · unfold winOk at hwin
    split at hwin
    · omega
    · rw [List.all_eq_true] at hwin
      have hmem : X ∈ ((Bs j).drop 1).take m := by
        refine List.mem_of_getElem? (i := np T ops p j - np T ops p q - 1) ?_
        rw [List.getElem?_take, if_pos (by omega), List.getElem?_drop, show 1 + (np T ops p j - np T ops p q - 1) = np T ops p j - np T ops p q from by omega]
        exact hX
      have h1 := hwin X hmem
      rw [hk] at h1
      dsimp only at h1
      split at h1
      · rename_i v' hv'
        have := eqV_eq v v' h1
        subst this
        refine evR_mono hg hF (g := X.get) (fun b ob hb hgb => ?_) (by rw [evR_congr hA]; exact hv')
        rw [hXg] at hgb
        rw [I.glo b ((C.grow0 q I.qle).lt hgb)]
        exact hgb
      · cases h1
/-- What an operation does, wherever it comes up. -/
theorem Inv.op (I : Inv T n0 w0 ops nt p Fs Hs D s w S a1 w1 q D1 s1 G) (C : Cx T P n0 w0 call ops nt p anc Fs Hs Bs) (hg0 : GlOk T.ng D s) (hf : Fresh D (Hs 0) (Hs p.length)) {j i m : Nat} {o : Oper} (R : Rdy ops p S j i m o) {Q : Exit → Act → World → Prop} :
    wpOp P ops Q i (fun a' w' => ∃ q D1 s1 G, Inv T n0 w0 ops nt p Fs Hs D s w (S.setIfInBounds i true) a' w' q D1 s1 G) a1 w1 := by
  have hg : GlOk T.ng D1 s1 := hg0.mono I.step.sub I.step.same
  obtain ⟨F, hF, hA, hW⟩ := I.frame_at C R
  have hj := R.lt
  have hGj := C.grow0 j (Nat.le_of_lt hj)
  have hgr := C.grow (j := j) (j + 1) (by omega) hj
  unfold wpOp
  rw [R.op]
  dsimp only
  have hdel : ∀ {D' : Nat → Prop} {s' : Sg} (t : Tmp) (v : V), o.dst = some t → (delD (Fs j) o.dst).get t = some v → Rv D' s' v undef := fun t v ht hv => by
    rw [ht] at hv
    simp [delD, Tr.get_set] at hv
    subst hv
    exact rv_undef
  have hput : ∀ t v u, o.dst = some t → (putD (Fs j) o.dst u).get t = some v → v = u := fun t v u ht hv => by
    rw [ht] at hv
    simp [putD, Tr.get_set] at hv
    exact hv.symm
  have hstp := C.stp R.at_ R.op
  -- a point's run
  have hpt : isPt T o.op = true → Sat n0 w0 D1 s1 (Hs j) w1 := fun hp => by
    obtain ⟨h1, h2, _⟩ := I.seen C hf R (I.pt_all C R hp)
    exact I.step.sat.sub h2 h1
  have hbump : ∀ (H' : Hp), Grow (Hs j) H' → Hs (j + 1) = H'.bump → ∀ s' w', Step n0 w0 D1 s1 (Hs j) w1 s' H' w' → ∃ s'', Step n0 w0 D1 s1 (Hs j) w1 s'' (Hs (j + 1)) w' ∧ ∀ b, Dn D1 (Hs j).next H'.next b → s'' b = s' b := fun H' hG' he s' w' hs => by
    have hnx : (Hs (j + 1)).next = H'.next + 1 := by rw [he]; rfl
    obtain ⟨s'', hb⟩ := step_bump hs.sat hG'.good (fun hd => by
      rcases hd with hd | hd
      · exact I.fresh C hf R hG'.le (by omega) hd
      · have := hd.2; omega)
    exact ⟨s'', by rw [he]; exact hs.trans hb, hb.same⟩
  have hf1 : isPt T o.op = true → (Hs j).next < (Hs (j + 1)).next → ¬ D1 (Hs j).next := fun _ h => I.fresh C hf R (Nat.le_refl _) h
  generalize hF1 : Fs (j + 1) = F1 at hstp
  generalize hH1 : Hs (j + 1) = H1 at hstp
  generalize hB1 : Bs (j + 1) = B1 at hstp
  cases hstp with
  | skip hw =>
    rw [wantedV_ok hF (by rw [hW]; exact hw), if_neg (by simp)]
    cases hp : isPt T o.op with
    | false => exact ⟨q, D1, s1, G, I.pure C R hp hH1 (fun t v ht hv => by rw [hF1] at hv; exact hdel t v ht hv)⟩
    | true =>
      obtain ⟨G', hI⟩ := I.point C hf R hp (s' := s1) (w' := w1) (x := undef) (by rw [hH1]; exact Step.refl (hpt hp)) (fun t v ht hv => by rw [hF1] at hv; exact hdel t v ht hv)
      exact ⟨_, _, _, _, hI⟩
  | val v H' hw hop hp hwin =>
    rw [wantedV_ok hF (by rw [hW]; exact hw), if_pos rfl]
    left
    have hrun : (∃ x, (execOp a1.eval o).run P w1 = .ok (.value x) w1 ∧ Rv D1 s1 v x ∧ H1 = Hs j) ∨ (∃ x ob s' w', (execOp a1.eval o).run P w1 = .ok (.value x) w' ∧ ob ≠ .dead ∧ H1 = (Hs j).new ob ∧ Step n0 w0 D1 s1 { G with next := (Hs j).next } w1 s' (({ G with next := (Hs j).next } : Hp).new ob) w' ∧ Rv (Dn D1 (Hs j).next ((Hs j).next + 1)) s' v x) := by
      unfold evOp at hop
      split at hop
      · rename_i hk
        split at hop <;> cases hop
        rename_i hev
        obtain ⟨x, h1, h2⟩ := evP_ok C.M.tab hg hF o hk (by rw [evP_congr hA]; exact hev) w1
        exact .inl ⟨x, h1, h2, rfl⟩
      · rename_i hk
        split at hop <;> cases hop
        rename_i hev
        obtain ⟨x, h1, h2⟩ := evR_ok C.M.tab hg hF I.step.sat o hk (I.reads C hf hg R hF hA hk hev hwin)
        exact .inl ⟨x, h1, h2, rfl⟩
      · rename_i hk
        have hcall : ∀ c, o.op ≠ .call c := fun c e => by
          unfold isPt at hp
          rw [hk] at hp
          rw [e] at hp
          simp at hp
        split at hop
        · rename_i v' ob kb hev
          split at hop <;> cases hop
          obtain ⟨ob', rfl, rfl, h1, h2, h3⟩ := evA_fresh hcall hev
          have hn1 : (afterA (Hs j) (some ob') none).next = (Hs j).next + 1 := rfl
          have hfr : ¬ D1 (Hs j).next := I.fresh C hf R (Nat.le_refl _) (by rw [hH1]; exact Nat.lt_succ_self _)
          have hsat : Sat n0 w0 D1 s1 { G with next := (Hs j).next } w1 := I.step.sat.sub rfl (fun b _ => .inl rfl)
          have hnst : (Hs j).next ∉ G.stale := by
            rw [I.gst]
            intro hm
            have := (C.grow0 q I.qle).st _ hm
            have := C.le (I.qj R) (Nat.le_of_lt hj)
            omega
          obtain ⟨x, s', w', g1, g2, g3⟩ := evA_ok (H := { G with next := (Hs j).next }) C.M.tab hg hF hsat C.hn hfr hnst o hk (v := v) (ob := some ob') (kb := none) (by rw [evA_congr hA]; exact h3 _) (fun b e _ => by cases e)
          exact .inr ⟨x, ob', s', w', g1, h1, rfl, g2, g3⟩
        · split at hop <;> cases hop
          rename_i hev
          exfalso
          generalize o.op = op at hcall hev
          cases op <;> first | exact hcall _ rfl | (simp [evAW] at hev)
      · rename_i hk; unfold isPt at hp; rw [hk] at hp; cases hp
      · rename_i hk; unfold isPt at hp; rw [hk] at hp; cases hp
      · cases hop
    unfold Oper.wp
    rcases hrun with ⟨x, h1, h2, h3⟩ | ⟨x, ob, s', w', h1, h2, h3, h4, h5⟩
    · rw [h1]
      exact ⟨q, D1, s1, G, I.pure C R hp (by rw [hH1, h3]) (fun t v' ht hv => by rw [hF1] at hv; rw [hput t v' v ht hv]; exact h2)⟩
    · rw [h1]
      exact ⟨q, _, _, _, I.alloc C hf R hp h2 (by rw [hH1, h3]) h4 (fun t v' ht hv => by rw [hF1] at hv; rw [hput t v' v ht hv]; exact h5)⟩
  | pval v H' hw hop hp =>
    rw [wantedV_ok hF (by rw [hW]; exact hw), if_pos rfl]
    left
    have hS := hpt hp
    have hgH := evOp_val hGj hop
    obtain ⟨x, s', w', g1, g2, g3⟩ := evOp_ok C.M.tab hg hF hS C.hn (hf1 hp (by rw [hH1]; have := hgH.le; show _ < H'.next + 1; omega)) hGj o (by rw [evOp_congr hA]; exact hop)
    obtain ⟨s'', g4, g5⟩ := hbump H' hgH hH1 s' w' g2
    unfold Oper.wp
    rw [g1]
    obtain ⟨G', hI⟩ := I.point C hf R hp (x := x) g4 (fun t v' ht hv => by
      rw [hF1] at hv
      rw [hput t v' v ht hv]
      refine g3.mono (fun b hb => ?_) g5
      rcases hb with hb | hb
      · exact .inl hb
      · exact .inr ⟨hb.1, by rw [hH1]; exact Nat.lt_succ_of_lt hb.2⟩)
    exact ⟨_, _, _, _, hI⟩
  | pskip H' hw hop hp =>
    rw [wantedV_ok hF (by rw [hW]; exact hw), if_pos rfl]
    left
    have hS := hpt hp
    have hgH := evOp_skp hGj hop
    obtain ⟨s', w', g1, g2⟩ := evOp_ok C.M.tab hg hF hS C.hn (hf1 hp (by rw [hH1]; have := hgH.le; show _ < H'.next + 1; omega)) hGj o (by rw [evOp_congr hA]; exact hop)
    obtain ⟨s'', g4, g5⟩ := hbump H' hgH hH1 s' w' g2
    unfold Oper.wp
    rw [g1]
    obtain ⟨G', hI⟩ := I.point C hf R hp (x := undef) g4 (fun t v' ht hv => by rw [hF1] at hv; exact hdel t v' ht hv)
    exact ⟨_, _, _, _, hI⟩
  | call f vs H0 v H'' hw hop hcl hp =>
    rw [wantedV_ok hF (by rw [hW]; exact hw), if_pos rfl]
    left
    have hS := hpt hp
    have hg0' := evOp_ent hGj hop
    have hg1' := C.cg _ _ _ _ _ hcl hg0'.good
    have hgH := hg0'.trans hg1'
    obtain ⟨rfl, xs, hxs, hr⟩ := evOp_ok C.M.tab hg hF hS C.hn (hf1 hp (by rw [hH1]; have := hgH.le; show _ < H''.next + 1; omega)) hGj o (by rw [evOp_congr hA]; exact hop)
    have hfc : Fresh D1 (Hs j).flush H'' := fun b h1 h2 => by
      rw [Hp.next_flush] at h1
      exact I.fresh C hf R h1 (by rw [hH1]; exact Nat.lt_succ_of_le h2)
    obtain ⟨⟨fn, c, e1, e2⟩, hcalls⟩ := C.c _ _ _ _ _ hcl D1 s1 w1 xs hg hxs hS.flush hg0'.good hfc
    unfold Oper.wp
    rw [hr, run_callFunc C.M e1 e2]
    refine Calls.mono hcalls fun e w' he => ?_
    cases e with
    | returned x =>
      obtain ⟨s', hs0, hv⟩ := he
      have hs : Step n0 w0 D1 s1 (Hs j) w1 s' H'' w' := (Step.flush hS).trans (by rw [Hp.next_flush, dn_refl]; exact hs0)
      rw [Hp.next_flush] at hv
      obtain ⟨s'', g4, g5⟩ := hbump H'' hgH hH1 s' w' hs
      obtain ⟨G', hI⟩ := I.point C hf R hp (x := x) g4 (fun t v' ht hv' => by
        rw [hF1] at hv'
        rw [hput t v' v ht hv']
        refine hv.mono (fun b hb => ?_) g5
        rcases hb with hb | hb
        · exact .inl hb
        · exact .inr ⟨hb.1, by rw [hH1]; exact Nat.lt_succ_of_lt hb.2⟩)
      exact ⟨_, _, _, _, hI⟩
    | panicked c => exact he.elim
    | outgrown => exact he.elim
end
end Go.AM
