/- Drawn regions: the state behind any set of operations (1). -/
import Derived.Test.YtaenhbfgfhhbcaaAmPlan
import Derived.Orders
set_option linter.unusedVariables false
set_option linter.unusedSimpArgs false
namespace Go.AM
open Go

def Tr.mrg {α : Type} : Tr α → Tr α → Tr α
  | .nil, t => t
  | .node l v r, .nil => .node l v r
  | .node l v r, .node l' v' r' => .node (l.mrg l') (v.or v') (r.mrg r')
theorem Tr.get_mrg {α : Type} : ∀ (a b : Tr α) (n : Nat), (a.mrg b).get n = (a.get n).or (b.get n)
  | .nil, t, n => by simp [Tr.mrg, Tr.get]
  | .node l v r, .nil, n => by simp [Tr.mrg, Tr.get]
  | .node l v r, .node l' v' r', n => by
    simp only [Tr.mrg, Tr.get]
    by_cases h0 : n = 0
    · subst h0; simp
    · rw [if_neg h0, if_neg h0, if_neg h0]
      by_cases h1 : n % 2 = 1
      · rw [if_pos h1, if_pos h1, if_pos h1, Tr.get_mrg l l']
      · rw [if_neg h1, if_neg h1, if_neg h1, Tr.get_mrg r r']

structure Cx (T : Tab) (P : Program) (n0 : Nat) (w0 : World) (call : CallE) (ops : Array Oper) (nt : Nat) (p : List (Nat × Nat)) (anc : List Nat) (Fs : Nat → Fr) (Hs : Nat → Hp) (Bs : Nat → List Hp) : Prop where
  M : MachOk T P
  hn : n0 ≤ w0.heap.size
  c : CallOk T P n0 w0 call
  cg : CallGood call
  pl : PlanP T ops nt p anc
  tr : ∀ (j i m : Nat), p[j]? = some (i, m) → ∃ o, ops[i]? = some o ∧ StepAt T call ops o m (Fs j) (Hs j) (Bs j) (Fs (j + 1)) (Hs (j + 1)) (Bs (j + 1))
  b0 : Bs 0 = [Hs 0]
  g0 : Good (Hs 0)
def Ex (S : Array Bool) (p : List (Nat × Nat)) (j : Nat) : Prop := ∃ i m, p[j]? = some (i, m) ∧ S.getD i false = true
def Ey (Hs : Nat → Hp) (S : Array Bool) (p : List (Nat × Nat)) (q j b : Nat) : Prop := q ≤ j ∧ Ex S p j ∧ (Hs j).next ≤ b ∧ b < (Hs (j + 1)).next
structure Inv (T : Tab) (n0 : Nat) (w0 : World) (ops : Array Oper) (nt : Nat) (p : List (Nat × Nat)) (Fs : Nat → Fr) (Hs : Nat → Hp) (D : Nat → Prop) (s : Sg) (w : World) (S : Array Bool) (a1 : Act) (w1 : World) (q : Nat) (D1 : Nat → Prop) (s1 : Sg) (G : Hp) : Prop where
  size : S.size = ops.size
  closed : ∀ (i : Nat) o e, ops[i]? = some o → S.getD i false = true → e ∈ o.after → Region.binds .any e = true → S.getD e.on false = true
  qle : q ≤ p.length
  base : ∀ q', q = q' + 1 → ∃ i m o, p[q']? = some (i, m) ∧ ops[i]? = some o ∧ isPt T o.op = true
  below : ∀ j, j < q → Ex S p j
  early : ∀ (j i m : Nat) o, q ≤ j → p[j]? = some (i, m) → ops[i]? = some o → S.getD i false = true → isPt T o.op = false
  step : StepG n0 w0 D s (Hs 0) w D1 s1 G w1
  dom : ∀ b, D1 b ↔ D b ∨ ((Hs 0).next ≤ b ∧ b < (Hs q).next) ∨ ∃ j, Ey Hs S p q j b
  gst : G.stale = (Hs q).stale
  glo : ∀ b, b < (Hs q).next → G.get b = (Hs q).get b
  ghi : ∀ j b, Ey Hs S p q j b → G.get b = (Hs (j + 1)).get b
  gno : ∀ b, (Hs q).next ≤ b → (¬ ∃ j, Ey Hs S p q j b) → G.get b = none
  uniq : ∀ j b, Ey Hs S p q j b → ∀ c, D1 c → c ≠ b → Live G c → (s1 c).b ≠ (s1 b).b
  fr : ∀ t v, (∀ (i : Nat) o, ops[i]? = some o → o.dst = some t → S.getD i false = true) → (Fs p.length).get t = some v → ∃ x, a1.tmps[t]? = some x ∧ Rv D1 s1 v x
  fr0 : ∀ t v, (∀ (i : Nat) o, ops[i]? = some o → o.dst = some t → S.getD i false = false) → (Fs 0).get t = some v → ∃ x, a1.tmps[t]? = some x ∧ Rv D1 s1 v x
  tsize : nt ≤ a1.tmps.size
  defers : a1.defers = []

section
variable {T : Tab} {P : Program} {n0 : Nat} {w0 : World} {call : CallE} {ops : Array Oper} {nt : Nat} {p : List (Nat × Nat)} {anc : List Nat} {Fs : Nat → Fr} {Hs : Nat → Hp} {Bs : Nat → List Hp}
variable {D : Nat → Prop} {s : Sg} {w : World} {S : Array Bool} {a1 : Act} {w1 : World} {q : Nat} {D1 : Nat → Prop} {s1 : Sg} {G : Hp}

theorem Cx.stp (C : Cx T P n0 w0 call ops nt p anc Fs Hs Bs) {j i m : Nat} {o : Oper} (hj : p[j]? = some (i, m)) (ho : ops[i]? = some o) : StepAt T call ops o m (Fs j) (Hs j) (Bs j) (Fs (j + 1)) (Hs (j + 1)) (Bs (j + 1)) := by
  obtain ⟨o', h1, h2⟩ := C.tr j i m hj
  rw [ho] at h1; cases h1
  exact h2
theorem Cx.ent (C : Cx T P n0 w0 call ops nt p anc Fs Hs Bs) {j : Nat} (hj : j < p.length) : ∃ i m o, p[j]? = some (i, m) ∧ ops[i]? = some o := by
  obtain ⟨⟨i, m⟩, h⟩ : ∃ e, p[j]? = some e := ⟨p[j], List.getElem?_eq_getElem hj⟩
  obtain ⟨o, ho⟩ := C.pl.op j i m h
  exact ⟨i, m, o, h, ho⟩
theorem Cx.grow0 (C : Cx T P n0 w0 call ops nt p anc Fs Hs Bs) : ∀ j, j ≤ p.length → Good (Hs j)
  | 0, _ => C.g0
  | j + 1, h => by
    obtain ⟨i, m, o, hj, ho⟩ := C.ent (show j < p.length by omega)
    exact ((C.stp hj ho).grow C.cg (C.grow0 j (by omega))).good
theorem Cx.grow (C : Cx T P n0 w0 call ops nt p anc Fs Hs Bs) {j : Nat} : ∀ k, j ≤ k → k ≤ p.length → Grow (Hs j) (Hs k)
  | 0, h, h' => by
    have : j = 0 := by omega
    subst this
    exact .refl C.g0
  | k + 1, h, h' => by
    by_cases e : j = k + 1
    · subst e; exact .refl (C.grow0 _ h')
    · obtain ⟨i, m, o, hj, ho⟩ := C.ent (show k < p.length by omega)
      exact (C.grow k (by omega) (by omega)).trans ((C.stp hj ho).grow C.cg (C.grow0 k (by omega)))
theorem Cx.le (C : Cx T P n0 w0 call ops nt p anc Fs Hs Bs) {j k : Nat} (h : j ≤ k) (h' : k ≤ p.length) : (Hs j).next ≤ (Hs k).next := (C.grow k h h').le
theorem Cx.stab (C : Cx T P n0 w0 call ops nt p anc Fs Hs Bs) {j t : Nat} : ∀ k, j ≤ k → k ≤ p.length → (∀ (j' i m : Nat) o, j ≤ j' → j' < k → p[j']? = some (i, m) → ops[i]? = some o → o.dst ≠ some t) → (Fs k).get t = (Fs j).get t
  | 0, h, _, _ => by
    have : j = 0 := by omega
    subst this; rfl
  | k + 1, h, h', hd => by
    by_cases e : j = k + 1
    · subst e; rfl
    · obtain ⟨i, m, o, hj, ho⟩ := C.ent (show k < p.length by omega)
      rw [(C.stp hj ho).frame t (hd k i m o (by omega) (by omega) hj ho)]
      exact C.stab k (by omega) (by omega) (fun j' i m o h1 h2 => hd j' i m o h1 (by omega))
/-- What is no point makes a row, or nothing. -/
theorem StepAt.np {o : Oper} {m : Nat} {F F1 : Fr} {H H1 : Hp} {B B1 : List Hp} (h : StepAt T call ops o m F H B F1 H1 B1) (hp : isPt T o.op = false) : B1 = B ∧ (H1 = H ∨ ∃ ob, ob ≠ .dead ∧ (∀ m si se la, ob ≠ .iter m si se la) ∧ H1 = H.new ob) := by
  cases h with
  | skip _ => rw [hp]; exact ⟨rfl, .inl rfl⟩
  | val v H' _ h _ _ =>
    refine ⟨rfl, ?_⟩
    unfold evOp at h
    unfold isPt at hp
    split at h
    · split at h <;> cases h; exact .inl rfl
    · split at h <;> cases h; exact .inl rfl
    · rename_i hk
      rw [hk] at hp
      have hcall : ∀ c, o.op ≠ .call c := fun c e => by rw [e] at hp; simp at hp
      split at h
      · rename_i v' ob kb hev
        split at h <;> cases h
        obtain ⟨ob', rfl, rfl, h1, h2, _⟩ := evA_fresh hcall hev
        exact .inr ⟨ob', h1, h2, rfl⟩
      · split at h <;> cases h
        rename_i hev
        exfalso
        generalize o.op = op at hcall hev
        cases op <;> first | exact hcall _ rfl | (simp [evAW] at hev)
    · rename_i hk; rw [hk] at hp; cases hp
    · rename_i hk; rw [hk] at hp; cases hp
    · cases h
  | pval _ _ _ _ h => rw [hp] at h; cases h
  | pskip _ _ _ h => rw [hp] at h; cases h
  | call _ _ _ _ _ _ _ _ h => rw [hp] at h; cases h
/-- Between points, what lay there lies there still. -/
theorem Cx.keep (C : Cx T P n0 w0 call ops nt p anc Fs Hs Bs) {k : Nat} : ∀ j, k ≤ j → j ≤ p.length → (∀ (j' i m : Nat) o, k ≤ j' → j' < j → p[j']? = some (i, m) → ops[i]? = some o → isPt T o.op = false) → (∀ b, b < (Hs k).next → (Hs j).get b = (Hs k).get b) ∧ (Hs j).stale = (Hs k).stale ∧ Bs j = Bs k
  | 0, h, _, _ => by
    have : k = 0 := by omega
    subst this; exact ⟨fun _ _ => rfl, rfl, rfl⟩
  | j + 1, h, h', hp => by
    by_cases e : k = j + 1
    · subst e; exact ⟨fun _ _ => rfl, rfl, rfl⟩
    · obtain ⟨i, m, o, hj, ho⟩ := C.ent (show j < p.length by omega)
      obtain ⟨h1, h2, h3⟩ := C.keep j (by omega) (by omega) (fun j' i m o a b => hp j' i m o a (by omega))
      obtain ⟨hb, hc⟩ := (C.stp hj ho).np (hp j i m o (by omega) (by omega) hj ho)
      rw [hb]
      have hle := C.le (show k ≤ j by omega) (by omega)
      rcases hc with hc | ⟨ob, _, _, hc⟩
      · rw [hc]; exact ⟨h1, h2, h3⟩
      · rw [hc]
        refine ⟨fun b hb => ?_, h2, h3⟩
        rw [Hp.get_new, if_neg (by omega)]
        exact h1 b hb
/-- Where in the run is a number given out? -/
theorem Cx.find (C : Cx T P n0 w0 call ops nt p anc Fs Hs Bs) {k b : Nat} (h0 : (Hs k).next ≤ b) : ∀ j, k ≤ j → j ≤ p.length → b < (Hs j).next → ∃ j', k ≤ j' ∧ j' < j ∧ (Hs j').next ≤ b ∧ b < (Hs (j' + 1)).next
  | 0, h, _, hb => by
    have : k = 0 := by omega
    subst this; omega
  | j + 1, h, h', hb => by
    by_cases e : k = j + 1
    · subst e; omega
    · by_cases hb' : b < (Hs j).next
      · obtain ⟨j', h1, h2, h3⟩ := C.find h0 j (by omega) (by omega) hb'
        exact ⟨j', h1, by omega, h3⟩
      · exact ⟨j, by omega, by omega, by omega, hb⟩
theorem getD_set (S : Array Bool) {i k : Nat} (hi : i < S.size) : (S.setIfInBounds i true).getD k false = true ↔ k = i ∨ S.getD k false = true := by
  by_cases e : k = i
  · subst e; simp [hi]
  · simp only [e, false_or]
    rw [getD_set_ne false (Ne.symm e)]
theorem getD_tf (S : Array Bool) {i : Nat} (hi : i < S.size) : S.getD i true = S.getD i false := by simp [hi]

/-- Everything that stands above an executed operation, or one that may come up, is executed. -/
theorem anc_ex (pl : PlanP T ops nt p anc) (hS : S.size = ops.size) (closed : ∀ (i : Nat) o e, ops[i]? = some o → S.getD i false = true → e ∈ o.after → Region.binds .any e = true → S.getD e.on false = true) :
    ∀ (n i : Nat), i < n → i < ops.size → (∀ o e, ops[i]? = some o → e ∈ o.after → Region.binds .any e = true → S.getD e.on false = true) → ∀ k, k < ops.size → bitA anc i k = true → S.getD k false = true
  | 0, i, h, _, _, _, _, _ => by omega
  | n + 1, i, h, hi, hr, k, hk, hb => by
    obtain ⟨o, e, ho, he, hbd, hor⟩ := pl.anc i k hi hk hb
    have hex := hr o e ho he hbd
    rcases hor with rfl | hor
    · exact hex
    · have hlt := pl.edge i o e ho he hbd
      exact anc_ex pl hS closed n e.on (by omega) (by omega) (fun o' e' ho' he' hb' => closed e.on o' e' ho' hex he' hb') k hk hor

/-- An operation that may come up now. -/
structure Rdy (ops : Array Oper) (p : List (Nat × Nat)) (S : Array Bool) (j i m : Nat) (o : Oper) : Prop where
  at_ : p[j]? = some (i, m)
  op : ops[i]? = some o
  un : S.getD i false = false
  pre : ∀ e, e ∈ o.after → Region.binds .any e = true → S.getD e.on false = true
theorem Inv.up (I : Inv T n0 w0 ops nt p Fs Hs D s w S a1 w1 q D1 s1 G) (C : Cx T P n0 w0 call ops nt p anc Fs Hs Bs) {j i m : Nat} {o : Oper} (R : Rdy ops p S j i m o) {k : Nat} (hk : k < ops.size) (hb : bitA anc i k = true) : S.getD k false = true :=
  anc_ex C.pl I.size I.closed (i + 1) i (by omega) (some_lt R.op) (fun o' e ho' he hb => by rw [R.op] at ho'; cases ho'; exact R.pre e he hb) k hk hb
theorem Inv.qj (I : Inv T n0 w0 ops nt p Fs Hs D s w S a1 w1 q D1 s1 G) {j i m : Nat} {o : Oper} (R : Rdy ops p S j i m o) : q ≤ j := by
  rcases Nat.lt_or_ge j q with h | h
  · obtain ⟨i', m', h1, h2⟩ := I.below j h
    rw [R.at_] at h1; cases h1
    rw [R.un] at h2; cases h2
  · exact h
theorem Rdy.lt {j i m : Nat} {o : Oper} (R : Rdy ops p S j i m o) : j < p.length := (List.getElem?_eq_some_iff.1 R.at_).1
theorem Rdy.nex {j i m : Nat} {o : Oper} (R : Rdy ops p S j i m o) : ¬ Ex S p j := fun ⟨i', m', h1, h2⟩ => by
  rw [R.at_] at h1; cases h1
  rw [R.un] at h2; cases h2
/-- What is numbered by an operation that has not come up is not there. -/
theorem Inv.fresh (I : Inv T n0 w0 ops nt p Fs Hs D s w S a1 w1 q D1 s1 G) (C : Cx T P n0 w0 call ops nt p anc Fs Hs Bs) (hf : Fresh D (Hs 0) (Hs p.length)) {j i m : Nat} {o : Oper} (R : Rdy ops p S j i m o) {b : Nat} (h1 : (Hs j).next ≤ b) (h2 : b < (Hs (j + 1)).next) : ¬ D1 b := by
  have hj := R.lt
  have hq := I.qj R
  intro hd
  rcases (I.dom b).1 hd with h | h | ⟨j', h3, h4, h5, h6⟩
  · have e1 := C.le (Nat.zero_le j) (by omega)
    have e2 := C.le (show j + 1 ≤ p.length by omega) (Nat.le_refl _)
    exact hf b (by omega) (by omega) h
  · have e1 := C.le hq (by omega)
    omega
  · have hj' : j' < p.length := by obtain ⟨i', m', h7, _⟩ := h4; exact (List.getElem?_eq_some_iff.1 h7).1
    by_cases e : j' = j
    · subst e; exact R.nex h4
    · by_cases hlt : j' < j
      · have := C.le (show j' + 1 ≤ j by omega) (by omega)
        omega
      · have := C.le (show j + 1 ≤ j' by omega) (by omega)
        omega
/-- The frame that the operation sees. -/
theorem Inv.frame_at (I : Inv T n0 w0 ops nt p Fs Hs D s w S a1 w1 q D1 s1 G) (C : Cx T P n0 w0 call ops nt p anc Fs Hs Bs) {j i m : Nat} {o : Oper} (R : Rdy ops p S j i m o) :
    ∃ F, FrOk D1 s1 F a1 ∧ Agree T F (Fs j) o.op ∧ wantedV ops F o.guard = wantedV ops (Fs j) o.guard := by
  classical
  let Y : Nat → Prop := fun t => ∀ (i' : Nat) o', ops[i']? = some o' → o'.dst = some t → ∃ k m', k < j ∧ p[k]? = some (i', m') ∧ S.getD i' false = true
  let Z : Nat → Prop := fun t => ∀ (i' : Nat) o', ops[i']? = some o' → o'.dst = some t → S.getD i' false = false ∧ before p (j + 1) i' = false
  have hget : ∀ t, ((Fs j).filt (fun t => decide (Y t ∨ Z t)) (fun n => n)).get t = if Y t ∨ Z t then (Fs j).get t else none := fun t => by
    rw [Tr.get_filt]
    by_cases h : Y t ∨ Z t <;> simp [h]
  have hwr : ∀ (k : Nat) o' t, bitA anc i k = true → (∃ j' m' : Nat, j' < j ∧ p[j']? = some (k, m')) → ops[k]? = some o' → o'.dst = some t → Y t := fun k o' t hb hbf hk ht i' o'' hi' ht' => by
    have := C.pl.dst k i' o' o'' t hk hi' ht ht'
    subst this
    obtain ⟨j', m', h1, h2⟩ := hbf
    exact ⟨j', m', h1, h2, I.up C R (some_lt hk) hb⟩
  have hwz : ∀ (k : Nat) o' t, bitA anc k i = true → before p (j + 1) k = false → ops[k]? = some o' → o'.dst = some t → Z t := fun k o' t hb hbf hk ht i' o'' hi' ht' => by
    have := C.pl.dst k i' o' o'' t hk hi' ht ht'
    subst this
    refine ⟨?_, hbf⟩
    cases hS : S.getD k false with
    | false => rfl
    | true =>
      have := anc_ex C.pl I.size I.closed (k + 1) k (by omega) (some_lt hk) (fun o1 e h1 he hb' => I.closed k o1 e h1 hS he hb') i (some_lt R.op) hb
      rw [R.un] at this
      cases this
  refine ⟨(Fs j).filt (fun t => decide (Y t ∨ Z t)) (fun n => n), fun t v ht => ?_, fun x hx => ?_, ?_⟩
  · rw [hget] at ht
    split at ht
    · rename_i hYZ
      rcases hYZ with hY | hZ
      · refine I.fr t v (fun i' o' hi' ht' => ?_) ?_
        · obtain ⟨k, m', _, _, h⟩ := hY i' o' hi' ht'
          exact h
        · rw [C.stab p.length (Nat.le_of_lt R.lt) (Nat.le_refl _) (fun j' i' m' o' h1 h2 h3 h4 h5 => ?_)]
          · exact ht
          · obtain ⟨k, m'', h6, h7, _⟩ := hY i' o' h4 h5
            have := C.pl.inj j' k i' m' m'' h3 h7
            omega
      · refine I.fr0 t v (fun i' o' hi' ht' => (hZ i' o' hi' ht').1) ?_
        rw [← C.stab j (Nat.zero_le j) (Nat.le_of_lt R.lt) (fun j' i' m' o' h1 h2 h3 h4 h5 => ?_)]
        · exact ht
        · have := (hZ i' o' h4 h5).2
          rw [before_of (show j' < j + 1 by omega) h3] at this
          cases this
    · cases ht
  · cases x with
    | tmp t =>
      simp only [opd]
      rw [hget]
      by_cases hY : Y t ∨ Z t
      · rw [if_pos hY]
      · rw [if_neg hY]
        exfalso
        apply hY
        by_cases hw : ∃ (i' : Nat) (o' : Oper), ops[i']? = some o' ∧ o'.dst = some t
        · obtain ⟨i', o', hi', ht'⟩ := hw
          rcases C.pl.tmp j i m o t i' o' R.at_ R.op hx hi' ht' with ⟨h1, h2⟩ | ⟨h1, h2⟩
          · exact .inl (hwr i' o' t h1 h2 hi' ht')
          · exact .inr (hwz i' o' t h1 h2 hi' ht')
        · exact .inl fun i' o' hi' ht' => absurd ⟨i', o', hi', ht'⟩ hw
    | const _ => rfl
    | global _ => rfl
    | func _ => rfl
  · unfold wantedV
    cases hg : o.guard with
    | none => rfl
    | some gb =>
      obtain ⟨g, b⟩ := gb
      obtain ⟨h1, h2⟩ := C.pl.grd j i m o g b R.at_ R.op hg
      have : gotB ops ((Fs j).filt (fun t => decide (Y t ∨ Z t)) (fun n => n)) g = gotB ops (Fs j) g := by
        unfold gotB
        cases hk : ops[g]? with
        | none => rfl
        | some o' =>
          dsimp only
          cases ht : o'.dst with
          | none => rfl
          | some t =>
            dsimp only
            rw [hget, if_pos (.inl (hwr g o' t h1 h2 hk ht))]
      dsimp only
      rw [this]
/-- The frame behind an operation. -/
theorem Inv.fr_next (I : Inv T n0 w0 ops nt p Fs Hs D s w S a1 w1 q D1 s1 G) (C : Cx T P n0 w0 call ops nt p anc Fs Hs Bs) {j i m : Nat} {o : Oper} (R : Rdy ops p S j i m o) {D' : Nat → Prop} {s' : Sg} (hD : ∀ b, D1 b → D' b) (hs : ∀ b, D1 b → s' b = s1 b) {x : Value}
    (hx : ∀ t v, o.dst = some t → (Fs (j + 1)).get t = some v → Rv D' s' v x) :
    ∀ t v, (∀ (i' : Nat) o', ops[i']? = some o' → o'.dst = some t → (S.setIfInBounds i true).getD i' false = true) → (Fs p.length).get t = some v → ∃ y, (a1.put o.dst x).tmps[t]? = some y ∧ Rv D' s' v y := by
  intro t v hall hv
  have hi : i < S.size := by rw [I.size]; exact some_lt R.op
  by_cases hd : o.dst = some t
  · have e : (Fs p.length).get t = (Fs (j + 1)).get t := C.stab p.length R.lt (Nat.le_refl _) (fun j' i' m' o' h1 h2 h3 h4 h5 => by
      have := C.pl.dst i i' o o' t R.op h4 hd h5
      subst this
      have := C.pl.inj j j' i m m' R.at_ h3
      omega)
    rw [e] at hv
    refine ⟨x, ?_, hx t v hd hv⟩
    have := C.pl.lt i o t R.op hd
    have h2 := I.tsize
    rw [hd]
    simp [Act.put, Nat.lt_of_lt_of_le this h2]
  · obtain ⟨y, h1, h2⟩ := I.fr t v (fun i' o' hi' ht' => by
      rcases (getD_set S hi).1 (hall i' o' hi' ht') with h | h
      · subst h
        rw [R.op] at hi'; cases hi'
        exact absurd ht' hd
      · exact h) hv
    refine ⟨y, ?_, h2.mono hD hs⟩
    cases hdd : o.dst with
    | none => exact h1
    | some u => simp [Act.put, Array.getElem?_setIfInBounds, show u ≠ t from fun e => hd (by rw [hdd, e]), h1]
theorem Inv.fr0_next (I : Inv T n0 w0 ops nt p Fs Hs D s w S a1 w1 q D1 s1 G) {j i m : Nat} {o : Oper} (R : Rdy ops p S j i m o) {D' : Nat → Prop} {s' : Sg} (hD : ∀ b, D1 b → D' b) (hs : ∀ b, D1 b → s' b = s1 b) (x : Value) :
    ∀ t v, (∀ (i' : Nat) o', ops[i']? = some o' → o'.dst = some t → (S.setIfInBounds i true).getD i' false = false) → (Fs 0).get t = some v → ∃ y, (a1.put o.dst x).tmps[t]? = some y ∧ Rv D' s' v y := by
  intro t v hall hv
  have hi : i < S.size := by rw [I.size]; exact some_lt R.op
  have hd : o.dst ≠ some t := fun e => by
    have := hall i o R.op e
    rw [(getD_set S hi).2 (.inl rfl)] at this
    cases this
  obtain ⟨y, h1, h2⟩ := I.fr0 t v (fun i' o' hi' ht' => by
    cases hS : S.getD i' false with
    | false => rfl
    | true =>
      have := hall i' o' hi' ht'
      rw [(getD_set S hi).2 (.inr hS)] at this
      cases this) hv
  refine ⟨y, ?_, h2.mono hD hs⟩
  cases hdd : o.dst with
  | none => exact h1
  | some u => simp [Act.put, Array.getElem?_setIfInBounds, show u ≠ t from fun e => hd (by rw [hdd, e]), h1]
theorem Inv.closed_next (I : Inv T n0 w0 ops nt p Fs Hs D s w S a1 w1 q D1 s1 G) {j i m : Nat} {o : Oper} (R : Rdy ops p S j i m o) :
    ∀ (k : Nat) o' e, ops[k]? = some o' → (S.setIfInBounds i true).getD k false = true → e ∈ o'.after → Region.binds .any e = true → (S.setIfInBounds i true).getD e.on false = true := by
  intro k o' e hk hex he hb
  have hi : i < S.size := by rw [I.size]; exact some_lt R.op
  rw [getD_set S hi] at hex ⊢
  right
  rcases hex with rfl | hex
  · rw [R.op] at hk; cases hk; exact R.pre e he hb
  · exact I.closed k o' e hk hex he hb
theorem Inv.ex_next (I : Inv T n0 w0 ops nt p Fs Hs D s w S a1 w1 q D1 s1 G) (C : Cx T P n0 w0 call ops nt p anc Fs Hs Bs) {j i m : Nat} {o : Oper} (R : Rdy ops p S j i m o) (k : Nat) : Ex (S.setIfInBounds i true) p k ↔ k = j ∨ Ex S p k := by
  have hi : i < S.size := by rw [I.size]; exact some_lt R.op
  constructor
  · rintro ⟨i', m', h1, h2⟩
    rcases (getD_set S hi).1 h2 with rfl | h
    · exact .inl (C.pl.inj k j i' m' m h1 R.at_)
    · exact .inr ⟨i', m', h1, h⟩
  · rintro (rfl | ⟨i', m', h1, h2⟩)
    · exact ⟨i, m, R.at_, (getD_set S hi).2 (.inl rfl)⟩
    · exact ⟨i', m', h1, (getD_set S hi).2 (.inr h2)⟩
theorem Inv.early_next (I : Inv T n0 w0 ops nt p Fs Hs D s w S a1 w1 q D1 s1 G) {j i m : Nat} {o : Oper} (R : Rdy ops p S j i m o) (hp : isPt T o.op = false) :
    ∀ (k i' m' : Nat) o', q ≤ k → p[k]? = some (i', m') → ops[i']? = some o' → (S.setIfInBounds i true).getD i' false = true → isPt T o'.op = false := by
  intro k i' m' o' h1 h2 h3 h4
  have hi : i < S.size := by rw [I.size]; exact some_lt R.op
  rcases (getD_set S hi).1 h4 with rfl | h
  · rw [R.op] at h3; cases h3; exact hp
  · exact I.early k i' m' o' h1 h2 h3 h
/-- An operation that makes nothing. -/
theorem Inv.pure (I : Inv T n0 w0 ops nt p Fs Hs D s w S a1 w1 q D1 s1 G) (C : Cx T P n0 w0 call ops nt p anc Fs Hs Bs) {j i m : Nat} {o : Oper} (R : Rdy ops p S j i m o) (hp : isPt T o.op = false) (hH : Hs (j + 1) = Hs j) {x : Value}
    (hx : ∀ t v, o.dst = some t → (Fs (j + 1)).get t = some v → Rv D1 s1 v x) : Inv T n0 w0 ops nt p Fs Hs D s w (S.setIfInBounds i true) (a1.put o.dst x) w1 q D1 s1 G := by
  have hey : ∀ k b, Ey Hs (S.setIfInBounds i true) p q k b ↔ Ey Hs S p q k b := fun k b => by
    unfold Ey
    rw [I.ex_next C R]
    constructor
    · rintro ⟨h1, rfl | h2, h3, h4⟩
      · rw [hH] at h4; omega
      · exact ⟨h1, h2, h3, h4⟩
    · rintro ⟨h1, h2, h3, h4⟩
      exact ⟨h1, .inr h2, h3, h4⟩
  exact {
    size := by simp [I.size]
    closed := I.closed_next R
    qle := I.qle
    base := I.base
    below := fun k hk => (I.ex_next C R k).2 (.inr (I.below k hk))
    early := I.early_next R hp
    step := I.step
    dom := fun b => by simp only [hey]; exact I.dom b
    gst := I.gst
    glo := I.glo
    ghi := fun k b h => I.ghi k b ((hey k b).1 h)
    gno := fun b h h' => I.gno b h (by simpa only [hey] using h')
    uniq := fun k b h => I.uniq k b ((hey k b).1 h)
    fr := I.fr_next C R (fun _ h => h) (fun _ _ => rfl) hx
    fr0 := I.fr0_next R (fun _ h => h) (fun _ _ => rfl) x
    tsize := by rw [put_size]; exact I.tsize
    defers := by rw [put_defers]; exact I.defers }
end
end Go.AM
