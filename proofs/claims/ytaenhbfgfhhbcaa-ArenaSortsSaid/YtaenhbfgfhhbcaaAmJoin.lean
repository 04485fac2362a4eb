/- Heaps that know less; steps between heaps of whatever numbers; rows laid early are joined again behind a step. -/
import Derived.Test.YtaenhbfgfhhbcaaAmCong
set_option linter.unusedVariables false
set_option linter.unusedSimpArgs false
namespace Go.AM
open Go

section
variable {T : Tab} {P : Program} {D D' : Nat → Prop} {s s' : Sg} {n0 : Nat} {w0 w w' : World} {H H' H1 G G' : Hp} {F : Fr} {a : Act}

theorem esOf_mono {g g' : Nat → Option Ob} (hgg : ∀ b ob, D b → g b = some ob → g' b = some ob) {m : V} {x : Value} (hx : Rv D s m x) {es : List (V × V × Nat)} (h : esOf g m = some es) : esOf g' m = some es := by
  unfold esOf at h ⊢
  split at h
  · exact h
  · rename_i b
    split at h
    · rename_i ro es' c hg
      have hD : D b := by cases hx; assumption
      rw [hgg b _ hD hg]
      exact h
    · cases h
  · cases h
theorem bytesR_mono {g g' : Nat → Option Ob} (hgg : ∀ b ob, D b → g b = some ob → g' b = some ob) {m : V} {x : Value} (hx : Rv D s m x) {l : List UInt8} (h : bytesR g m = some l) : bytesR g' m = some l := by
  unfold bytesR at h ⊢
  split at h
  · exact h
  · exact h
  · rename_i b off len c z
    split at h
    · rename_i e ro cs hg
      have hD : D b := by cases hx <;> assumption
      simp only [hgg b _ hD hg]
      exact h
    · cases h
  · cases h
theorem evR_mono (hg : GlOk T.ng D s) (hF : FrOk D s F a) {g g' : Nat → Option Ob} (hgg : ∀ b ob, D b → g b = some ob → g' b = some ob) {o : Op} {v : V} (h : evR T o F g = some v) : evR T o F g' = some v := by
  cases o
  case load t x =>
    simp only [evR] at h
    split at h
    · rename_i b off hx
      have hx' := opd_ok hg hF hx
      have hD : D b := by generalize a.eval x = y at hx'; cases hx'; assumption
      split at h
      · rename_i e sz ro cs hb
        simp only [evR, hx, hgg b _ hD hb]
        exact h
      · cases h
    · cases h
  case lookup t x i ok =>
    simp only [evR] at h
    split at h
    · rename_i m k kt e hx hi hd
      split at h
      · cases h
      · rename_i hk
        split at h
        · rename_i ei es he hes
          simp only [evR, hx, hi, hd, he, esOf_mono hgg (opd_ok hg hF hx) hes]
          rw [if_neg hk]
          exact h
        · cases h
    · cases h
  case convert c d x =>
    simp only [evR] at h
    split at h
    · rename_i v' e hx hc hd
      split at h
      · rename_i l he hb
        simp only [evR, hx, hc, hd, he, bytesR_mono hgg (opd_ok hg hF hx) hb]
        exact h
      · cases h
    · cases h
  case call c =>
    simp only [evR] at h
    split at h
    · rename_i v' t ha ht
      obtain ⟨x, _, hx⟩ := args1 hg hF ha
      split at h
      · rename_i es hd hes
        simp only [evR, ha, ht, esOf_mono hgg hx hes, hd]
        exact h
      · cases h
    · cases h
  all_goals (simp [evR] at h)

theorem ow_congr {b : Nat} (hg : H.get b = H'.get b) (hs : b ∈ H.stale ↔ b ∈ H'.stale) : Ow H b ↔ Ow H' b := by
  unfold Ow
  rw [hg, hs]
theorem al_congr {b : Nat} (hg : H.get b = H'.get b) (hs : b ∈ H.stale ↔ b ∈ H'.stale) : Al H b ↔ Al H' b := by
  unfold Al
  rw [hg, hs]
theorem Al.live {b : Nat} (h : Al H b) : Live H b := by
  unfold Al at h
  split at h
  · rename_i e; exact ⟨_, e, by simp⟩
  · rename_i e; exact ⟨_, e, by simp⟩
  · rename_i e; exact ⟨_, e, by simp⟩
  · cases h
/-- A heap that knows less. -/
theorem Sat.sub (h : Sat n0 w0 D s H w) (hst : H'.stale = H.stale) (hsub : ∀ b, D b → H'.get b = H.get b ∨ H'.get b = none) : Sat n0 w0 D s H' w := by
  have hget : ∀ b o, D b → H'.get b = some o → H.get b = some o := fun b o hb hg => by
    rcases hsub b hb with h' | h'
    · rw [← h']; exact hg
    · rw [h'] at hg; cases hg
  have how : ∀ b, D b → Ow H' b → Ow H b := fun b hb ho => by
    obtain ⟨o, h1, _⟩ := ho.al.live
    exact (ow_congr (by rw [h1, hget b o hb h1]) (by rw [hst])).1 ho
  have hal : ∀ b, D b → Al H' b → Al H b := fun b hb ho => by
    obtain ⟨o, h1, _⟩ := ho.live
    exact (al_congr (by rw [h1, hget b o hb h1]) (by rw [hst])).1 ho
  refine ⟨h.below, fun b e sz ro cs hb hg => ?_, fun b ro es c hb hg => h.map b ro es c hb (hget b _ hb hg), fun b m si se la hb hg => h.iter b m si se la hb (hget b _ hb hg), fun b b' h1 h2 h3 h4 h5 => h.sep b b' h1 h2 h3 (how b h1 h4) (hal b' h2 h5), fun x e sz ro cs b e' sz' cs' hx hxs hgx hb ho hgb heq => h.old x e sz ro cs b e' sz' cs' hx (by rw [← hst]; exact hxs) (hget x _ hx hgx) hb (how b hb ho) (hget b _ hb hgb) heq⟩
  rw [hst]
  exact h.row b e sz ro cs hb (hget b _ hb hg)

structure StepG (n0 : Nat) (w0 : World) (D : Nat → Prop) (s : Sg) (H : Hp) (w : World) (D' : Nat → Prop) (s' : Sg) (H' : Hp) (w' : World) : Prop where
  sat : Sat n0 w0 D' s' H' w'
  sub : ∀ b, D b → D' b
  same : ∀ b, D b → s' b = s b
  size : w.heap.size ≤ w'.heap.size
  frame : ∀ k, k < w.heap.size → (∀ b, D b → Ow H b → (s b).b ≠ k) → w'.heap[k]? = w.heap[k]?
  new : ∀ b, D' b → ¬ D b → w.heap.size ≤ (s' b).b ∨ ∃ c, D c ∧ Ow H c ∧ (s c).b = (s' b).b
  ow : ∀ b, D b → Ow H' b → Ow H b
theorem StepG.refl (h : Sat n0 w0 D s H w) : StepG n0 w0 D s H w D s H w :=
  ⟨h, fun _ h => h, fun _ _ => rfl, Nat.le_refl _, fun _ _ _ => rfl, fun b h1 h2 => absurd h1 h2, fun _ _ h => h⟩
theorem StepG.trans {D1 D2 : Nat → Prop} {s1 s2 : Sg} {H1 H2 : Hp} {w1 w2 : World} (h1 : StepG n0 w0 D s H w D1 s1 H1 w1) (h2 : StepG n0 w0 D1 s1 H1 w1 D2 s2 H2 w2) : StepG n0 w0 D s H w D2 s2 H2 w2 := by
  refine ⟨h2.sat, fun b hb => h2.sub b (h1.sub b hb), fun b hb => (h2.same b (h1.sub b hb)).trans (h1.same b hb), Nat.le_trans h1.size h2.size, fun k hk hf => ?_, fun b hb hnb => ?_, fun b hb ho => h1.ow b hb (h2.ow b (h1.sub b hb) ho)⟩
  · rw [← h1.frame k hk hf]
    refine h2.frame k (Nat.lt_of_lt_of_le hk h1.size) fun b hb ho => ?_
    by_cases hD : D b
    · rw [h1.same b hD]; exact hf b hD (h1.ow b hD ho)
    · rcases h1.new b hb hD with h | ⟨c, hc1, hc2, hc3⟩
      · omega
      · rw [← hc3]; exact hf c hc1 hc2
  · by_cases hD : D1 b
    · rw [h2.same b hD]; exact h1.new b hD hnb
    · rcases h2.new b hb hD with h | ⟨c, hc1, hc2, hc3⟩
      · exact .inl (Nat.le_trans h1.size h)
      · by_cases hc : D c
        · exact .inr ⟨c, hc, h1.ow c hc hc2, by rw [← h1.same c hc]; exact hc3⟩
        · rcases h1.new c hc1 hc with h | ⟨d, hd1, hd2, hd3⟩
          · left; omega
          · exact .inr ⟨d, hd1, hd2, hd3.trans hc3⟩
theorem Step.toG (h : Step n0 w0 D s H w s' H' w') : StepG n0 w0 D s H w (Dn D H.next H'.next) s' H' w' :=
  ⟨h.sat, fun b hb => .inl hb, h.same, h.size, h.frame, fun b hb hn => by
    rcases hb with hb | hb
    · exact absurd hb hn
    · exact h.new b hb.1 hb.2, h.ow⟩
theorem StepG.toStep (h : StepG n0 w0 D s H w (Dn D H.next H'.next) s' H' w') (hn : H.next ≤ H'.next) (hf : Fresh D H H') : Step n0 w0 D s H w s' H' w' :=
  ⟨h.sat, h.same, hn, h.size, h.frame, fun b h1 h2 => h.new b (.inr ⟨h1, h2⟩) (hf b h1 (Nat.le_of_lt h2)), h.ow⟩

/-- ROWS LAID EARLY ARE JOINED AGAIN. H: what the step sees; G: that, and the rows laid early. -/
theorem join (hS : Sat n0 w0 D s G w) (hst : H.stale = G.stale) (hsub : ∀ b, D b → H.get b = G.get b ∨ H.get b = none)
    (hU : ∀ b, D b → H.get b = none → Live G b → b ∉ G.stale ∧ b ∉ H1.stale ∧ (∀ m si se la, G.get b ≠ some (.iter m si se la)) ∧ ∀ c, D c → c ≠ b → Live G c → (s c).b ≠ (s b).b)
    (h : Step n0 w0 D s H w s' H1 w') (hlive : ∀ b, D b → Live H1 b → Live H b)
    (hst' : G'.stale = H1.stale) (hE : ∀ b, D b → H.get b = none → Live G b → G'.get b = G.get b) (hN : ∀ b, Dn D H.next H1.next b → ¬ (D b ∧ H.get b = none ∧ Live G b) → G'.get b = H1.get b) :
    StepG n0 w0 D s G w (Dn D H.next H1.next) s' G' w' ∧ ∀ b, D b → H.get b = none → Live G b → ∀ c, Dn D H.next H1.next c → Live H1 c → (s' c).b ≠ (s b).b := by
  have hLG : ∀ b, D b → Live H b → Live G b := fun b hb hl => by
    obtain ⟨o, h1, h2⟩ := hl
    rcases hsub b hb with h' | h'
    · exact ⟨o, by rw [← h']; exact h1, h2⟩
    · rw [h'] at h1; cases h1
  have hOG : ∀ b, D b → Ow H b → Ow G b := fun b hb ho => by
    obtain ⟨o, h1, _⟩ := ho.al.live
    rcases hsub b hb with h' | h'
    · exact (ow_congr h' (by rw [hst])).1 ho
    · rw [h'] at h1; cases h1
  have hne : ∀ b c, D b → H.get b = none → Live H c → c ≠ b := fun b c _ hn hl e => by
    subst e
    obtain ⟨o, h1, _⟩ := hl
    rw [hn] at h1; cases h1
  have hm : ∀ b, D b → Dn D H.next H1.next b := fun b hb => .inl hb
  -- an early row's block is no other's
  have hsep : ∀ b, D b → H.get b = none → Live G b → ∀ c, Dn D H.next H1.next c → Live H1 c → (s' c).b ≠ (s b).b := by
    intro b hb hbn hbl c hc hcl
    obtain ⟨_, _, _, hu⟩ := hU b hb hbn hbl
    by_cases hcD : D c
    · have hl := hlive c hcD hcl
      rw [h.same c hcD]
      exact hu c hcD (hne b c hb hbn hl) (hLG c hcD hl)
    · rcases hc with hc | hc
      · exact absurd hc hcD
      · rcases h.new c hc.1 hc.2 with h' | ⟨d, hd1, hd2, hd3⟩
        · have : (s b).b < w.heap.size := by
            obtain ⟨o, h1, h2⟩ := hbl
            cases o with
            | row e sz ro cs => exact (hS.row b _ _ _ _ hb h1).lt
            | map ro es c => obtain ⟨_, h3, _⟩ := hS.map b _ _ _ hb h1; exact lt_of_heap h3
            | iter m si se la => exact lt_of_heap (hS.iter b _ _ _ _ hb h1).1
            | dead => exact absurd rfl h2
          omega
        · rw [← hd3]
          exact hu d hd1 (hne b d hb hbn hd2.al.live) (hLG d hd1 hd2.al.live)
  have hkeep : ∀ b, D b → H.get b = none → Live G b → w'.heap[(s b).b]? = w.heap[(s b).b]? := by
    intro b hb hbn hbl
    obtain ⟨_, _, _, hu⟩ := hU b hb hbn hbl
    refine h.frame _ ?_ fun c hc ho => hu c hc (hne b c hb hbn ho.al.live) (hLG c hc ho.al.live)
    obtain ⟨o, h1, h2⟩ := hbl
    cases o with
    | row e sz ro cs => exact (hS.row b _ _ _ _ hb h1).lt
    | map ro es c => obtain ⟨_, h3, _⟩ := hS.map b _ _ _ hb h1; exact lt_of_heap h3
    | iter m si se la => exact lt_of_heap (hS.iter b _ _ _ _ hb h1).1
    | dead => exact absurd rfl h2
  have howE : ∀ b, D b → H.get b = none → Live G b → (Ow G' b → Ow G b) ∧ (Al G' b → Al G b) := fun b hb hbn hbl => by
    obtain ⟨u1, u2, _, _⟩ := hU b hb hbn hbl
    exact ⟨(ow_congr (hE b hb hbn hbl) (by rw [hst']; simp [u1, u2])).1, (al_congr (hE b hb hbn hbl) (by rw [hst']; simp [u1, u2])).1⟩
  have howN : ∀ b, Dn D H.next H1.next b → ¬ (D b ∧ H.get b = none ∧ Live G b) → (Ow G' b → Ow H1 b) ∧ (Al G' b → Al H1 b) := fun b hb hn =>
    ⟨(ow_congr (hN b hb hn) (by rw [hst'])).1, (al_congr (hN b hb hn) (by rw [hst'])).1⟩
  refine ⟨⟨⟨h.sat.below, fun b e sz ro cs hb hg => ?_, fun b ro es c hb hg => ?_, fun b m si se la hb hg => ?_, fun b b' hb hb' hbb ho ha => ?_, fun x e sz ro cs b e' sz' cs' hx hxs hgx hb ho hgb heq => ?_⟩, hm, h.same, h.size, fun k hk hf => h.frame k hk fun b hb ho => hf b hb (hOG b hb ho), fun b hb hn => ?_, fun b hb ho => ?_⟩, hsep⟩
  · by_cases hE' : D b ∧ H.get b = none ∧ Live G b
    · obtain ⟨e1, e2, e3⟩ := hE'
      obtain ⟨u1, u2, _, _⟩ := hU b e1 e2 e3
      rw [hE b e1 e2 e3] at hg
      have := hS.row b e sz ro cs e1 hg
      rw [show G.stale.contains b = false from by simpa using u1] at this
      rw [h.same b e1, hst', show H1.stale.contains b = false from by simpa using u2]
      exact this.keep hm h.same (hkeep b e1 e2 e3)
    · rw [hN b hb hE'] at hg
      rw [hst']
      exact h.sat.row b e sz ro cs hb hg
  · by_cases hE' : D b ∧ H.get b = none ∧ Live G b
    · obtain ⟨e1, e2, e3⟩ := hE'
      rw [hE b e1 e2 e3] at hg
      obtain ⟨ents, h1, h2, h3⟩ := hS.map b ro es c e1 hg
      rw [h.same b e1]
      exact ⟨ents, by rw [hkeep b e1 e2 e3]; exact h1, h2.mono hm h.same, h3⟩
    · rw [hN b hb hE'] at hg
      exact h.sat.map b ro es c hb hg
  · by_cases hE' : D b ∧ H.get b = none ∧ Live G b
    · obtain ⟨e1, e2, e3⟩ := hE'
      obtain ⟨_, _, u3, _⟩ := hU b e1 e2 e3
      rw [hE b e1 e2 e3] at hg
      exact absurd hg (u3 _ _ _ _)
    · rw [hN b hb hE'] at hg
      exact h.sat.iter b m si se la hb hg
  · by_cases h1 : D b ∧ H.get b = none ∧ Live G b
    · obtain ⟨e1, e2, e3⟩ := h1
      rw [h.same b e1]
      by_cases h2 : D b' ∧ H.get b' = none ∧ Live G b'
      · obtain ⟨f1, f2, f3⟩ := h2
        rw [h.same b' f1]
        exact ((hU b e1 e2 e3).2.2.2 b' f1 (Ne.symm hbb) f3).symm
      · exact (hsep b e1 e2 e3 b' hb' ((howN b' hb' h2).2 ha).live).symm
    · by_cases h2 : D b' ∧ H.get b' = none ∧ Live G b'
      · obtain ⟨f1, f2, f3⟩ := h2
        rw [h.same b' f1]
        exact hsep b' f1 f2 f3 b hb ((howN b hb h1).1 ho).al.live
      · exact h.sat.sep b b' hb hb' hbb ((howN b hb h1).1 ho) ((howN b' hb' h2).2 ha)
  · have hx1 : ¬ (D x ∧ H.get x = none ∧ Live G x) := fun ⟨e1, e2, e3⟩ => by
      obtain ⟨_, u2, _, _⟩ := hU x e1 e2 e3
      rw [hst'] at hxs
      exact u2 hxs
    rw [hN x hx hx1] at hgx
    rw [hst'] at hxs
    by_cases h1 : D b ∧ H.get b = none ∧ Live G b
    · obtain ⟨e1, e2, e3⟩ := h1
      rw [h.same b e1] at heq
      exact absurd heq.symm (hsep b e1 e2 e3 x hx ⟨_, hgx, by simp⟩)
    · rw [hN b hb h1] at hgb
      exact h.sat.old x e sz ro cs b e' sz' cs' hx hxs hgx hb ((howN b hb h1).1 ho) hgb heq
  · rcases hb with hb | hb
    · exact absurd hb hn
    · rcases h.new b hb.1 hb.2 with h' | ⟨c, hc1, hc2, hc3⟩
      · exact .inl h'
      · exact .inr ⟨c, hc1, hOG c hc1 hc2, hc3⟩
  · by_cases h1 : D b ∧ H.get b = none ∧ Live G b
    · obtain ⟨e1, e2, e3⟩ := h1
      exact (howE b e1 e2 e3).1 ho
    · exact hOG b hb (h.ow b hb ((howN b (hm b hb) h1).1 ho))
end
end Go.AM
