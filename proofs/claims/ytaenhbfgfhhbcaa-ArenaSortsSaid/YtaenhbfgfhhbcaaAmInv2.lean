/- Drawn regions: the state behind any set of operations (2): rows made early; points. -/
import Derived.Test.YtaenhbfgfhhbcaaAmInv
set_option linter.unusedVariables false
set_option linter.unusedSimpArgs false
namespace Go.AM
open Go

section
variable {T : Tab} {P : Program} {n0 : Nat} {w0 : World} {call : CallE} {ops : Array Oper} {nt : Nat} {p : List (Nat × Nat)} {anc : List Nat} {Fs : Nat → Fr} {Hs : Nat → Hp} {Bs : Nat → List Hp}
variable {D : Nat → Prop} {s : Sg} {w : World} {S : Array Bool} {a1 : Act} {w1 : World} {q : Nat} {D1 : Nat → Prop} {s1 : Sg} {G : Hp}

theorem Sat.live_lt {H : Hp} (h : Sat n0 w0 D s H w) {b : Nat} (hD : D b) (hl : Live H b) : (s b).b < w.heap.size := by
  obtain ⟨o, h1, h2⟩ := hl
  cases o with
  | row e sz ro cs => exact (h.row b _ _ _ _ hD h1).lt
  | map ro es c => obtain ⟨_, h3, _⟩ := h.map b _ _ _ hD h1; exact lt_of_heap h3
  | iter m si se la => exact lt_of_heap (h.iter b _ _ _ _ hD h1).1
  | dead => exact absurd rfl h2
/-- An operation that makes a row, wherever it comes up. -/
theorem Inv.alloc (I : Inv T n0 w0 ops nt p Fs Hs D s w S a1 w1 q D1 s1 G) (C : Cx T P n0 w0 call ops nt p anc Fs Hs Bs) (hf : Fresh D (Hs 0) (Hs p.length)) {j i m : Nat} {o : Oper} (R : Rdy ops p S j i m o) (hp : isPt T o.op = false) {ob : Ob} (hd : ob ≠ .dead)
    (hH : Hs (j + 1) = (Hs j).new ob) {s' : Sg} {w' : World} (hst : Step n0 w0 D1 s1 { G with next := (Hs j).next } w1 s' (({ G with next := (Hs j).next } : Hp).new ob) w') {x : Value}
    (hx : ∀ t v, o.dst = some t → (Fs (j + 1)).get t = some v → Rv (Dn D1 (Hs j).next ((Hs j).next + 1)) s' v x) :
    Inv T n0 w0 ops nt p Fs Hs D s w (S.setIfInBounds i true) (a1.put o.dst x) w' q (Dn D1 (Hs j).next ((Hs j).next + 1)) s' (({ G with next := (Hs j).next } : Hp).new ob) := by
  have hj := R.lt
  have hq := I.qj R
  have hqj := C.le hq (Nat.le_of_lt hj)
  have hn1 : (Hs (j + 1)).next = (Hs j).next + 1 := by rw [hH]; rfl
  have hid : ¬ D1 (Hs j).next := I.fresh C hf R (Nat.le_refl _) (by omega)
  have hgG : ∀ b, ({ G with next := (Hs j).next } : Hp).get b = G.get b := fun _ => rfl
  have hget : ∀ b, (({ G with next := (Hs j).next } : Hp).new ob).get b = if b = (Hs j).next then some ob else G.get b := fun b => Hp.get_new _ b ob
  have hsG : (({ G with next := (Hs j).next } : Hp).new ob).stale = G.stale := rfl
  have hexlt : ∀ k, Ex S p k → k < p.length := fun k ⟨i', m', h, _⟩ => (List.getElem?_eq_some_iff.1 h).1
  have hold : ∀ k b, Ey Hs S p q k b → D1 b := fun k b h => (I.dom b).2 (.inr (.inr ⟨k, h⟩))
  have hne : ∀ k b, Ey Hs S p q k b → b ≠ (Hs j).next := fun k b h e => hid (e ▸ hold k b h)
  have hey : ∀ k b, Ey Hs (S.setIfInBounds i true) p q k b ↔ (k = j ∧ b = (Hs j).next) ∨ Ey Hs S p q k b := fun k b => by
    unfold Ey
    rw [I.ex_next C R]
    constructor
    · rintro ⟨h1, rfl | h2, h3, h4⟩
      · rw [hn1] at h4; exact .inl ⟨rfl, by omega⟩
      · exact .inr ⟨h1, h2, h3, h4⟩
    · rintro (⟨rfl, rfl⟩ | ⟨h1, h2, h3, h4⟩)
      · exact ⟨hq, .inl rfl, Nat.le_refl _, by omega⟩
      · exact ⟨h1, .inr h2, h3, h4⟩
  have hIs : StepG n0 w0 D s (Hs 0) w D1 s1 { G with next := (Hs j).next } w1 :=
    ⟨I.step.sat.sub rfl (fun b _ => .inl rfl), I.step.sub, I.step.same, I.step.size, I.step.frame, I.step.new, I.step.ow⟩
  -- the new row's block is new
  have hownew : ∀ c, D1 c → Ow ({ G with next := (Hs j).next } : Hp) c → Ow (({ G with next := (Hs j).next } : Hp).new ob) c := fun c hc ho =>
    (ow_congr (H := ({ G with next := (Hs j).next } : Hp).new ob) (H' := { G with next := (Hs j).next }) ((hget c).trans (if_neg (show c ≠ (Hs j).next from fun e => hid (e ▸ hc)))) Iff.rfl).2 ho
  have halnew : Al (({ G with next := (Hs j).next } : Hp).new ob) (Hs j).next := by
    have hg : (({ G with next := (Hs j).next } : Hp).new ob).get (Hs j).next = some ob := by rw [hget, if_pos rfl]
    unfold Al
    rw [hg]
    cases ob with
    | row e sz ro cs =>
      show (Hs j).next ∉ G.stale
      rw [I.gst]
      exact fun h => absurd ((C.grow0 q I.qle).st _ h) (by omega)
    | map => trivial
    | iter => trivial
    | dead => exact absurd rfl hd
  have hblk : w1.heap.size ≤ (s' (Hs j).next).b := by
    rcases hst.new (Hs j).next (Nat.le_refl _) (Nat.lt_succ_self _) with h | ⟨c, hc1, hc2, hc3⟩
    · exact h
    · exfalso
      have := hst.sat.sep c (Hs j).next (.inl hc1) (.inr ⟨Nat.le_refl _, Nat.lt_succ_self _⟩) (fun e => hid (e ▸ hc1)) (hownew c hc1 hc2) halnew
      rw [hst.same c hc1] at this
      exact this hc3
  exact {
    size := by simp [I.size]
    closed := I.closed_next R
    qle := I.qle
    base := I.base
    below := fun k hk => (I.ex_next C R k).2 (.inr (I.below k hk))
    early := I.early_next R hp
    step := hIs.trans hst.toG
    dom := fun b => by
      simp only [hey, Dn]
      rw [I.dom b]
      constructor
      · rintro ((h | h | ⟨k, h⟩) | h)
        · exact .inl h
        · exact .inr (.inl h)
        · exact .inr (.inr ⟨k, .inr h⟩)
        · exact .inr (.inr ⟨j, .inl ⟨rfl, by omega⟩⟩)
      · rintro (h | h | ⟨k, ⟨rfl, rfl⟩ | h⟩)
        · exact .inl (.inl h)
        · exact .inl (.inr (.inl h))
        · exact .inr ⟨Nat.le_refl _, Nat.lt_succ_self _⟩
        · exact .inl (.inr (.inr ⟨k, h⟩))
    gst := I.gst
    glo := fun b hb => by rw [hget, if_neg (by omega)]; exact I.glo b hb
    ghi := fun k b h => by
      rcases (hey k b).1 h with ⟨rfl, rfl⟩ | h
      · rw [hget, if_pos rfl, hH, Hp.get_new, if_pos rfl]
      · rw [hget, if_neg (hne k b h)]; exact I.ghi k b h
    gno := fun b hb h => by
      have h1 : b ≠ (Hs j).next := fun e => h ⟨j, (hey j b).2 (.inl ⟨rfl, e⟩)⟩
      rw [hget, if_neg h1]
      exact I.gno b hb fun ⟨k, hk⟩ => h ⟨k, (hey k b).2 (.inr hk)⟩
    uniq := fun k b h c hc hcb hl => by
      have hlG : c ≠ (Hs j).next → Live G c := fun hcn => by
        obtain ⟨u, h1, h2⟩ := hl
        rw [hget, if_neg hcn] at h1
        exact ⟨u, h1, h2⟩
      have hcD : c ≠ (Hs j).next → D1 c := fun hcn => by
        rcases hc with h | h
        · exact h
        · have := h.1; have := h.2; omega
      rcases (hey k b).1 h with ⟨rfl, rfl⟩ | h
      · have := I.step.sat.live_lt (hcD hcb) (hlG hcb)
        rw [hst.same c (hcD hcb)]
        omega
      · have hb := hold k b h
        rw [hst.same b hb]
        by_cases hcn : c = (Hs j).next
        · subst hcn
          have hlb : Live G b := by
            -- an early row is live, for it was made
            obtain ⟨h1, h2, h3, h4⟩ := h
            have hk := hexlt k h2
            obtain ⟨i', m', o', e1, e2⟩ := C.ent hk
            obtain ⟨i'', m'', e3, e4⟩ := h2
            rw [e1] at e3; cases e3
            have hnp := I.early k i' m' o' h1 e1 e2 e4
            rcases ((C.stp e1 e2).np hnp).2 with he | ⟨ob', h5, _, he⟩
            · rw [he] at h4; omega
            · refine ⟨ob', ?_, h5⟩
              rw [I.ghi k b ⟨h1, ⟨i', m', e1, e4⟩, h3, h4⟩, he, Hp.get_new, if_pos (by rw [he] at h4; have : b < (Hs k).next + 1 := h4; omega)]
          have := I.step.sat.live_lt hb hlb
          omega
        · rw [hst.same c (hcD hcn)]
          exact I.uniq k b h c (hcD hcn) hcb (hlG hcn)
    fr := I.fr_next C R (fun _ h => .inl h) hst.same hx
    fr0 := I.fr0_next R (fun _ h => .inl h) hst.same _
    tsize := by rw [put_size]; exact I.tsize
    defers := by rw [put_defers]; exact I.defers }

/-- The heap that a point sees, and what it does not. -/
theorem Inv.seen (I : Inv T n0 w0 ops nt p Fs Hs D s w S a1 w1 q D1 s1 G) (C : Cx T P n0 w0 call ops nt p anc Fs Hs Bs) (hf : Fresh D (Hs 0) (Hs p.length)) {j i m : Nat} {o : Oper} (R : Rdy ops p S j i m o) (hall : ∀ k, k < j → Ex S p k) :
    (∀ b, D1 b → (Hs j).get b = G.get b ∨ (Hs j).get b = none) ∧ (Hs j).stale = G.stale ∧
    (∀ b, D1 b → (Hs j).get b = none → Live G b → ∃ k, j < k ∧ Ey Hs S p q k b) := by
  have hj := R.lt
  have hq := I.qj R
  have hexlt : ∀ k, Ex S p k → k < p.length := fun k ⟨i', m', h, _⟩ => (List.getElem?_eq_some_iff.1 h).1
  have hnp : ∀ (k i' m' : Nat) o', q ≤ k → k < j → p[k]? = some (i', m') → ops[i']? = some o' → isPt T o'.op = false := fun k i' m' o' h1 h2 h3 h4 => by
    obtain ⟨i'', m'', h5, h6⟩ := hall k h2
    rw [h3] at h5; cases h5
    exact I.early k i' m' o' h1 h3 h4 h6
  obtain ⟨k1, k2, k3⟩ := C.keep j hq (Nat.le_of_lt hj) hnp
  have hclass : ∀ b, D1 b → (Hs j).get b = G.get b ∨ ((Hs j).get b = none ∧ ((∃ k, j < k ∧ Ey Hs S p q k b) ∨ G.get b = none)) := by
    intro b hb
    by_cases hlo : b < (Hs q).next
    · left; rw [k1 b hlo, I.glo b hlo]
    · by_cases hy : ∃ k, Ey Hs S p q k b
      · obtain ⟨k, hk⟩ := hy
        have hk' := hk
        obtain ⟨h1, h2, h3, h4⟩ := hk
        by_cases hkj : k < j
        · left
          rw [I.ghi k b hk']
          have := (C.keep (k := k + 1) j (by omega) (Nat.le_of_lt hj) (fun k' i' m' o' a b c d => hnp k' i' m' o' (by omega) b c d)).1 b h4
          exact this
        · have hne : k ≠ j := fun e => R.nex (e ▸ h2)
          right
          refine ⟨(C.grow0 j (Nat.le_of_lt hj)).top b ?_, .inl ⟨k, by omega, hk'⟩⟩
          have := C.le (show j ≤ k by omega) (Nat.le_of_lt (hexlt k h2))
          omega
      · right
        have hg := I.gno b (by omega) hy
        refine ⟨?_, .inr hg⟩
        by_cases hbj : b < (Hs j).next
        · obtain ⟨k, h1, h2, h3, h4⟩ := C.find (k := q) (b := b) (by omega) j hq (Nat.le_of_lt hj) hbj
          exact absurd ⟨k, h1, hall k h2, h3, h4⟩ hy
        · exact (C.grow0 j (Nat.le_of_lt hj)).top b (by omega)
  refine ⟨fun b hb => ?_, by rw [k2, I.gst], fun b hb hn hl => ?_⟩
  · rcases hclass b hb with h | ⟨h, _⟩
    · exact .inl h
    · exact .inr h
  · obtain ⟨u, h1, h2⟩ := hl
    rcases hclass b hb with h | ⟨_, h | h⟩
    · rw [hn, h1] at h; cases h
    · exact h
    · rw [h1] at h; cases h
theorem Inv.pt_all (I : Inv T n0 w0 ops nt p Fs Hs D s w S a1 w1 q D1 s1 G) (C : Cx T P n0 w0 call ops nt p anc Fs Hs Bs) {j i m : Nat} {o : Oper} (R : Rdy ops p S j i m o) (hp : isPt T o.op = true) : ∀ k, k < j → Ex S p k := fun k hk => by
  obtain ⟨i', m', o', h1, h2⟩ := C.ent (show k < p.length from Nat.lt_trans hk R.lt)
  exact ⟨i', m', h1, I.up C R (some_lt h2) (C.pl.pt j i m o R.at_ R.op hp k i' m' hk h1)⟩
/-- A point. -/
theorem Inv.point (I : Inv T n0 w0 ops nt p Fs Hs D s w S a1 w1 q D1 s1 G) (C : Cx T P n0 w0 call ops nt p anc Fs Hs Bs) (hf : Fresh D (Hs 0) (Hs p.length)) {j i m : Nat} {o : Oper} (R : Rdy ops p S j i m o) (hp : isPt T o.op = true)
    {s' : Sg} {w' : World} (hst : Step n0 w0 D1 s1 (Hs j) w1 s' (Hs (j + 1)) w') {x : Value}
    (hx : ∀ t v, o.dst = some t → (Fs (j + 1)).get t = some v → Rv (Dn D1 (Hs j).next (Hs (j + 1)).next) s' v x) :
    ∃ G', Inv T n0 w0 ops nt p Fs Hs D s w (S.setIfInBounds i true) (a1.put o.dst x) w' (j + 1) (Dn D1 (Hs j).next (Hs (j + 1)).next) s' G' := by
  classical
  have hj := R.lt
  have hq := I.qj R
  have hall := I.pt_all C R hp
  have hgr := C.grow (j := j) (j + 1) (by omega) hj
  have hqj := C.le hq (Nat.le_of_lt hj)
  obtain ⟨hsub, hstl, hE⟩ := I.seen C hf R hall
  have hexlt : ∀ k, Ex S p k → k < p.length := fun k ⟨i', m', h, _⟩ => (List.getElem?_eq_some_iff.1 h).1
  have hEge : ∀ k b, j < k → Ey Hs S p q k b → (Hs (j + 1)).next ≤ b := fun k b hk h => by
    have := C.le (show j + 1 ≤ k by omega) (Nat.le_of_lt (hexlt k h.2.1))
    have := h.2.2.1
    omega
  have hmade : ∀ k b, Ey Hs S p q k b → ∃ ob, G.get b = some ob ∧ ob ≠ .dead ∧ (∀ m si se la, ob ≠ .iter m si se la) := fun k b h => by
    have hk' := h
    obtain ⟨h1, h2, h3, h4⟩ := h
    have hk := hexlt k h2
    obtain ⟨i', m', o', e1, e2⟩ := C.ent hk
    obtain ⟨i'', m'', e3, e4⟩ := h2
    rw [e1] at e3; cases e3
    rcases ((C.stp e1 e2).np (I.early k i' m' o' h1 e1 e2 e4)).2 with he | ⟨ob', h5, h6, he⟩
    · rw [he] at h4; omega
    · refine ⟨ob', ?_, h5, h6⟩
      rw [I.ghi k b hk', he, Hp.get_new, if_pos (by rw [he] at h4; have : b < (Hs k).next + 1 := h4; omega)]
  let E : Nat → Prop := fun b => D1 b ∧ (Hs j).get b = none ∧ Live G b
  let G' : Hp := { next := (Hs (j + 1)).next, m := (G.m.filt (fun b => decide (E b)) (fun n => n)).mrg (Hs (j + 1)).m, stale := (Hs (j + 1)).stale }
  have hget : ∀ b, G'.get b = if E b then G.get b else (Hs (j + 1)).get b := fun b => by
    show ((G.m.filt (fun b => decide (E b)) (fun n => n)).mrg (Hs (j + 1)).m).get b = _
    rw [Tr.get_mrg, Tr.get_filt]
    by_cases h : E b
    · obtain ⟨u, h1, _⟩ := h.2.2
      have h1 : G.m.get b = some u := h1
      simp only [h, decide_true, if_true, h1, Option.some_or]
      exact h1.symm
    · simp only [h, decide_false, Bool.false_eq_true, if_false, Option.none_or]
      rfl
  have hEk : ∀ b, E b → ∃ k, j < k ∧ Ey Hs S p q k b := fun b h => hE b h.1 h.2.1 h.2.2
  obtain ⟨hsg, hsep⟩ := join (G' := G') I.step.sat hstl hsub (fun b hb hn hl => by
      obtain ⟨k, hk, hy⟩ := hE b hb hn hl
      refine ⟨?_, ?_, fun m si se la he => ?_, fun c hc hcb hlc => I.uniq k b hy c hc hcb hlc⟩
      · rw [I.gst]
        intro h
        have := (C.grow0 q I.qle).st _ h
        have := hEge k b hk hy
        have := hgr.le
        omega
      · intro h
        have := hgr.good.st _ h
        have := hEge k b hk hy
        omega
      · obtain ⟨ob, h1, _, h3⟩ := hmade k b hy
        rw [h1] at he; cases he
        exact h3 _ _ _ _ rfl) hst (fun b hb hl => by
      by_cases hlt : b < (Hs j).next
      · exact hgr.live b hlt hl
      · exfalso
        obtain ⟨u, h1, _⟩ := hl
        have hlt2 := hgr.good.lt h1
        exact I.fresh C hf R (by omega) hlt2 hb) rfl (fun b h1 h2 h3 => by rw [hget, if_pos ⟨h1, h2, h3⟩]) (fun b _ hn => by rw [hget, if_neg hn])
  have hey : ∀ k b, Ey Hs (S.setIfInBounds i true) p (j + 1) k b ↔ j < k ∧ Ey Hs S p q k b := fun k b => by
    unfold Ey
    rw [I.ex_next C R]
    constructor
    · rintro ⟨h1, rfl | h2, h3, h4⟩
      · omega
      · exact ⟨by omega, by omega, h2, h3, h4⟩
    · rintro ⟨h0, h1, h2, h3, h4⟩
      exact ⟨by omega, .inr h2, h3, h4⟩
  have hdD : ∀ k b, Ey Hs S p q k b → D1 b := fun k b h => (I.dom b).2 (.inr (.inr ⟨k, h⟩))
  have hEy : ∀ k b, j < k → Ey Hs S p q k b → E b := fun k b hk h => by
    obtain ⟨ob, h1, h2, _⟩ := hmade k b h
    refine ⟨hdD k b h, (C.grow0 j (Nat.le_of_lt hj)).top b ?_, ob, h1, h2⟩
    have := hEge k b hk h
    have := hgr.le
    omega
  refine ⟨G', {
    size := by simp [I.size]
    closed := I.closed_next R
    qle := hj
    base := fun q' e => by
      have : q' = j := by omega
      subst this
      exact ⟨i, m, o, R.at_, R.op, hp⟩
    below := fun k hk => (I.ex_next C R k).2 (by
      by_cases e : k = j
      · exact .inl e
      · exact .inr (hall k (by omega)))
    early := fun k i' m' o' h1 h2 h3 h4 => by
      have hi : i < S.size := by rw [I.size]; exact some_lt R.op
      rcases (getD_set S hi).1 h4 with rfl | h
      · have := C.pl.inj k j i' m' m h2 R.at_; omega
      · exact I.early k i' m' o' (by omega) h2 h3 h
    step := I.step.trans hsg
    dom := fun b => ?_
    gst := rfl
    glo := fun b hb => by
      rw [hget, if_neg]
      intro h
      obtain ⟨k, h1, h2⟩ := hEk b h
      have := hEge k b h1 h2
      omega
    ghi := fun k b h => by
      obtain ⟨h1, h2⟩ := (hey k b).1 h
      rw [hget, if_pos (hEy k b h1 h2)]
      exact I.ghi k b h2
    gno := fun b hb h => by
      rw [hget, if_neg]
      · exact hgr.good.top b hb
      · intro h'
        obtain ⟨k, h1, h2⟩ := hEk b h'
        exact h ⟨k, (hey k b).2 ⟨h1, h2⟩⟩
    uniq := fun k b h c hc hcb hl => ?_
    fr := I.fr_next C R (fun _ h => .inl h) hst.same hx
    fr0 := I.fr0_next R (fun _ h => .inl h) hst.same _
    tsize := by rw [put_size]; exact I.tsize
    defers := by rw [put_defers]; exact I.defers }⟩
  · simp only [hey]
    have e0 := C.le (Nat.zero_le j) (Nat.le_of_lt hj)
    constructor
    · rintro (h | h)
      · rcases (I.dom b).1 h with h | h | ⟨k, h⟩
        · exact .inl h
        · have := hgr.le
          exact .inr (.inl ⟨h.1, by omega⟩)
        · by_cases hk : j < k
          · exact .inr (.inr ⟨k, hk, h⟩)
          · have hne : k ≠ j := fun e => R.nex (e ▸ h.2.1)
            have e1 := C.le (show k + 1 ≤ j + 1 by omega) hj
            have e2 := C.le (Nat.zero_le k) (by omega)
            have := h.2.2.1
            have := h.2.2.2
            exact .inr (.inl ⟨by omega, by omega⟩)
      · exact .inr (.inl ⟨by omega, h.2⟩)
    · rintro (h | h | ⟨k, hk, h⟩)
      · exact .inl ((I.dom b).2 (.inl h))
      · by_cases h1 : b < (Hs q).next
        · exact .inl ((I.dom b).2 (.inr (.inl ⟨h.1, h1⟩)))
        · by_cases h2 : b < (Hs j).next
          · obtain ⟨k, h3, h4, h5, h6⟩ := C.find (k := q) (b := b) (by omega) j hq (Nat.le_of_lt hj) h2
            exact .inl ((I.dom b).2 (.inr (.inr ⟨k, h3, hall k h4, h5, h6⟩)))
          · exact .inr ⟨by omega, h.2⟩
      · exact .inl (hdD k b h)
  · obtain ⟨h1, h2⟩ := (hey k b).1 h
    have hEb := hEy k b h1 h2
    rw [hst.same b hEb.1]
    by_cases hEc : E c
    · rw [hst.same c hEc.1]
      exact I.uniq k b h2 c hEc.1 hcb hEc.2.2
    · obtain ⟨u, h3, h4⟩ := hl
      rw [hget, if_neg hEc] at h3
      exact hsep b hEb.1 hEb.2.1 hEb.2.2 c hc ⟨u, h3, h4⟩
end
end Go.AM
