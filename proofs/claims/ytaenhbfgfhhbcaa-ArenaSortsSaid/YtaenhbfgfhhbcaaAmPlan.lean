/- Plans of drawn regions: what is checked of them; the run by a plan as a row of states. -/
import Derived.Test.YtaenhbfgfhhbcaaAmJoin
set_option linter.unusedVariables false
set_option linter.unusedSimpArgs false
namespace Go.AM
open Go

def bitA (anc : List Nat) (i k : Nat) : Bool := (anc.getD i 0).testBit k
def dstAt (ops : Array Oper) (i : Nat) : Option Tmp := match ops[i]? with | some o => o.dst | none => none
def ptAt (T : Tab) (ops : Array Oper) (i : Nat) : Bool := match ops[i]? with | some o => isPt T o.op | none => false
def before (p : List (Nat × Nat)) (j k : Nat) : Bool := (p.take j).any fun e => e.1 == k
/-- The operation at the plan's place j is in order. -/
def ckOne (T : Tab) (ops : Array Oper) (p : List (Nat × Nat)) (anc : List Nat) (j i m : Nat) : Bool :=
  match ops[i]? with
  | none => false
  | some o =>
    (o.op.operands.toList.all fun x => match x with
      | .tmp t => (List.range ops.size).all fun k => !(dstAt ops k == some t) || (bitA anc i k && before p j k) || (bitA anc k i && !before p (j + 1) k)
      | _ => true) &&
    (match o.guard with | some (g, _) => bitA anc i g && before p j g | none => true) &&
    (!isPt T o.op || (p.take j).all fun e => bitA anc i e.1) &&
    Nat.ble ((p.take j).countP fun e => ptAt T ops e.1 && !bitA anc i e.1) m &&
    !before p j i
def planOk (T : Tab) (ops : Array Oper) (nt : Nat) (p : List (Nat × Nat)) (anc : List Nat) : Bool :=
  ((List.range ops.size).all fun i => p.any fun e => e.1 == i) &&
  ((List.range p.length).all fun j => match p[j]? with | some e => ckOne T ops p anc j e.1 e.2 | none => false) &&
  ((List.range ops.size).all fun i => match dstAt ops i with
    | some t => Nat.blt t nt && (List.range ops.size).all fun k => !(dstAt ops k == some t) || i == k
    | none => true) &&
  ((List.range ops.size).all fun i => match ops[i]? with | some o => o.after.toList.all fun e => !Region.binds .any e || Nat.blt e.on i | none => false) &&
  ((List.range ops.size).all fun i => (List.range ops.size).all fun k => !bitA anc i k || (match ops[i]? with | some o => o.after.toList.any fun e => Region.binds .any e && (e.on == k || bitA anc e.on k) | none => false))

structure PlanP (T : Tab) (ops : Array Oper) (nt : Nat) (p : List (Nat × Nat)) (anc : List Nat) : Prop where
  cover : ∀ i : Nat, i < ops.size → ∃ j m : Nat, p[j]? = some (i, m)
  op : ∀ j i m : Nat, p[j]? = some (i, m) → ∃ o, ops[i]? = some o
  inj : ∀ j j' i m m' : Nat, p[j]? = some (i, m) → p[j']? = some (i, m') → j = j'
  lt : ∀ (i : Nat) o t, ops[i]? = some o → o.dst = some t → t < nt
  dst : ∀ (i k : Nat) o o' t, ops[i]? = some o → ops[k]? = some o' → o.dst = some t → o'.dst = some t → i = k
  tmp : ∀ (j i m : Nat) o t (k : Nat) o', p[j]? = some (i, m) → ops[i]? = some o → Operand.tmp t ∈ o.op.operands → ops[k]? = some o' → o'.dst = some t → (bitA anc i k = true ∧ ∃ j' m' : Nat, j' < j ∧ p[j']? = some (k, m')) ∨ (bitA anc k i = true ∧ before p (j + 1) k = false)
  grd : ∀ (j i m : Nat) o g b, p[j]? = some (i, m) → ops[i]? = some o → o.guard = some (g, b) → bitA anc i g = true ∧ ∃ j' m' : Nat, j' < j ∧ p[j']? = some (g, m')
  pt : ∀ (j i m : Nat) o, p[j]? = some (i, m) → ops[i]? = some o → isPt T o.op = true → ∀ j' k m' : Nat, j' < j → p[j']? = some (k, m') → bitA anc i k = true
  win : ∀ (j i m : Nat) o, p[j]? = some (i, m) → ops[i]? = some o → ((p.take j).countP fun e => ptAt T ops e.1 && !bitA anc i e.1) ≤ m
  edge : ∀ (i : Nat) o e, ops[i]? = some o → e ∈ o.after → Region.binds .any e = true → e.on < i
  anc : ∀ i k : Nat, i < ops.size → k < ops.size → bitA anc i k = true → ∃ o e, ops[i]? = some o ∧ e ∈ o.after ∧ Region.binds .any e = true ∧ (e.on = k ∨ bitA anc e.on k = true)

theorem before_spec {p : List (Nat × Nat)} {j k : Nat} (h : before p j k = true) : ∃ j' m' : Nat, j' < j ∧ p[j']? = some (k, m') := by
  unfold before at h
  rw [List.any_eq_true] at h
  obtain ⟨⟨k', m'⟩, h1, h2⟩ := h
  obtain ⟨j', h3⟩ := List.getElem?_of_mem h1
  rw [List.getElem?_take] at h3
  split at h3
  · simp at h2; subst h2; exact ⟨j', m', by assumption, h3⟩
  · cases h3
theorem before_of {p : List (Nat × Nat)} {j j' k m' : Nat} (h1 : j' < j) (h2 : p[j']? = some (k, m')) : before p j k = true := by
  unfold before
  rw [List.any_eq_true]
  exact ⟨(k, m'), List.mem_of_getElem? (i := j') (by rw [List.getElem?_take, if_pos h1]; exact h2), by simp⟩
theorem some_lt {ops : Array Oper} {i : Nat} {o : Oper} (h : ops[i]? = some o) : i < ops.size := (Array.getElem?_eq_some_iff.1 h).1
theorem planOk_spec {T : Tab} {ops : Array Oper} {nt : Nat} {p : List (Nat × Nat)} {anc : List Nat} (h : planOk T ops nt p anc = true) : PlanP T ops nt p anc := by
  simp only [planOk, Bool.and_eq_true, List.all_eq_true, List.mem_range] at h
  obtain ⟨⟨⟨⟨h1, h2⟩, h3⟩, h4⟩, h5⟩ := h
  have one : ∀ j i m, p[j]? = some (i, m) → ckOne T ops p anc j i m = true := fun j i m hj => by
    have := h2 j (List.getElem?_eq_some_iff.1 hj).1
    rw [hj] at this
    exact this
  have dd : ∀ i o t, ops[i]? = some o → o.dst = some t → t < nt ∧ ∀ k, k < ops.size → dstAt ops k = some t → i = k := fun i o t hi ht => by
    have := h3 i (some_lt hi)
    simp only [dstAt, hi, ht, Bool.and_eq_true, List.all_eq_true, List.mem_range] at this
    refine ⟨by simpa using this.1, fun k hk hd => ?_⟩
    have h' := this.2 k hk
    have hd' : (match ops[k]? with | some o => o.dst | none => none) = some t := hd
    rw [hd'] at h'
    simpa using h'
  refine ⟨fun i hi => ?_, fun j i m hj => ?_, fun j j' i m m' hj hj' => ?_, fun i o t hi ht => (dd i o t hi ht).1, fun i k o o' t hi hk ht ht' => (dd i o t hi ht).2 k (some_lt hk) (by simp [dstAt, hk, ht']), fun j i m o t k o' hj hi ht hk hk' => ?_, fun j i m o g b hj hi hg => ?_, fun j i m o hj hi hp j' k m' hlt hk => ?_, fun j i m o hj hi => ?_, fun i o e hi he hb => ?_, fun i k hi hk hb => ?_⟩
  · have := h1 i hi
    rw [List.any_eq_true] at this
    obtain ⟨⟨i', m⟩, h6, h7⟩ := this
    obtain ⟨j, h8⟩ := List.getElem?_of_mem h6
    simp at h7; subst h7
    exact ⟨j, m, h8⟩
  · have := one j i m hj
    unfold ckOne at this
    split at this
    · cases this
    · exact ⟨_, by assumption⟩
  · have key : ∀ j j' i m m', p[j]? = some (i, m) → p[j']? = some (i, m') → ¬ j' < j := fun j j' i m m' hj hj' hlt => by
      have := one j i m hj
      unfold ckOne at this
      split at this
      · cases this
      · simp only [Bool.and_eq_true, Bool.not_eq_true'] at this
        rw [before_of hlt hj'] at this
        cases this.2
    have a := key j j' i m m' hj hj'
    have b := key j' j i m' m hj' hj
    omega
  · have := one j i m hj
    simp only [ckOne, hi, Bool.and_eq_true, List.all_eq_true] at this
    have h6 := this.1.1.1.1 (.tmp t) (by simpa using ht)
    simp only [List.all_eq_true, List.mem_range] at h6
    have h7 := h6 k (some_lt hk)
    simp only [dstAt, hk, hk'] at h7
    simp at h7
    rcases h7 with h7 | h7
    · exact .inl ⟨h7.1, before_spec h7.2⟩
    · exact .inr h7
  · have := one j i m hj
    simp only [ckOne, hi, Bool.and_eq_true] at this
    have h6 := this.1.1.1.2
    rw [hg] at h6
    simp only [Bool.and_eq_true] at h6
    exact ⟨h6.1, before_spec h6.2⟩
  · have := one j i m hj
    simp only [ckOne, hi, Bool.and_eq_true] at this
    have h6 := this.1.1.2
    rw [hp] at h6
    simp only [Bool.not_true, Bool.false_or, List.all_eq_true] at h6
    exact h6 (k, m') (List.mem_of_getElem? (i := j') (by rw [List.getElem?_take, if_pos hlt]; exact hk))
  · have := one j i m hj
    simp only [ckOne, hi, Bool.and_eq_true] at this
    exact Nat.le_of_ble_eq_true this.1.2
  · have := h4 i (some_lt hi)
    simp only [hi, List.all_eq_true] at this
    have h6 := this e (by simpa using he)
    rw [hb] at h6
    simpa using h6
  · have := h5 i hi k hk
    rw [hb] at this
    simp only [Bool.not_true, Bool.false_or] at this
    split at this
    · rename_i o ho
      rw [List.any_eq_true] at this
      obtain ⟨e, h6, h7⟩ := this
      simp only [Bool.and_eq_true, Bool.or_eq_true, beq_iff_eq] at h7
      exact ⟨o, e, ho, by simpa using h6, h7.1, h7.2⟩
    · cases this

/-! ### The run by a plan -/
inductive StepAt (T : Tab) (call : CallE) (ops : Array Oper) (o : Oper) (m : Nat) (F : Fr) (H : Hp) (B : List Hp) : Fr → Hp → List Hp → Prop
  | skip : wantedV ops F o.guard = some false → StepAt T call ops o m F H B (delD F o.dst) H (if isPt T o.op then H :: B else B)
  | val (v : V) (H' : Hp) : wantedV ops F o.guard = some true → evOp T o.op F H = some (.val v H') → isPt T o.op = false → winOk T o.op F m v B = true → StepAt T call ops o m F H B (putD F o.dst v) H' B
  | pval (v : V) (H' : Hp) : wantedV ops F o.guard = some true → evOp T o.op F H = some (.val v H') → isPt T o.op = true → StepAt T call ops o m F H B (putD F o.dst v) H'.bump (H' :: B)
  | pskip (H' : Hp) : wantedV ops F o.guard = some true → evOp T o.op F H = some (.skip H') → isPt T o.op = true → StepAt T call ops o m F H B (delD F o.dst) H'.bump (H' :: B)
  | call (f : FuncId) (xs : List V) (H' : Hp) (v : V) (H'' : Hp) : wantedV ops F o.guard = some true → evOp T o.op F H = some (.enter f xs H') → call f xs H' = some (v, H'') → isPt T o.op = true → StepAt T call ops o m F H B (putD F o.dst v) H''.bump (H'' :: B)
theorem skip_pt {T : Tab} {o : Op} {F : Fr} {H H' : Hp} (h : evOp T o F H = some (.skip H')) : isPt T o = true := by
  unfold evOp at h
  unfold isPt
  split at h
  · split at h <;> cases h
  · split at h <;> cases h
  · split at h
    · split at h <;> cases h
    · split at h <;> cases h
  · rename_i hk; rw [hk]
  · split at h
    · split at h
      · split at h <;> cases h
      · cases h
    · cases h
  · cases h
theorem enter_pt {T : Tab} {o : Op} {F : Fr} {H H' : Hp} {f : FuncId} {xs : List V} (h : evOp T o F H = some (.enter f xs H')) : isPt T o = true := by
  unfold evOp at h
  unfold isPt
  split at h
  · split at h <;> cases h
  · split at h <;> cases h
  · split at h
    · split at h <;> cases h
    · split at h <;> cases h
  · split at h <;> cases h
  · rename_i hk; rw [hk]
  · cases h
theorem evDraw_trace {T : Tab} {call : CallE} {ops : Array Oper} : ∀ (p : List (Nat × Nat)) {F F' : Fr} {H H' : Hp} {B : List Hp}, evDraw T call ops p F H B = some (F', H') →
    ∃ (Fs : Nat → Fr) (Hs : Nat → Hp) (Bs : Nat → List Hp), Fs 0 = F ∧ Hs 0 = H ∧ Bs 0 = B ∧ (∀ j i m, p[j]? = some (i, m) → ∃ o, ops[i]? = some o ∧ StepAt T call ops o m (Fs j) (Hs j) (Bs j) (Fs (j + 1)) (Hs (j + 1)) (Bs (j + 1))) ∧ F' = Fs p.length ∧ H' = (Hs p.length).flush
  | [], F, F', H, H', B, h => by
    simp only [evDraw] at h
    cases h
    exact ⟨fun _ => F, fun _ => H, fun _ => B, rfl, rfl, rfl, fun j i m hj => by simp at hj, rfl, rfl⟩
  | (i, m) :: r, F, F', H, H', B, h => by
    simp only [evDraw] at h
    split at h
    · cases h
    · rename_i o ho
      have key : ∀ F1 H1 B1, StepAt T call ops o m F H B F1 H1 B1 → evDraw T call ops r F1 H1 B1 = some (F', H') →
          ∃ (Fs : Nat → Fr) (Hs : Nat → Hp) (Bs : Nat → List Hp), Fs 0 = F ∧ Hs 0 = H ∧ Bs 0 = B ∧ (∀ j i' m', ((i, m) :: r)[j]? = some (i', m') → ∃ o, ops[i']? = some o ∧ StepAt T call ops o m' (Fs j) (Hs j) (Bs j) (Fs (j + 1)) (Hs (j + 1)) (Bs (j + 1))) ∧ F' = Fs (r.length + 1) ∧ H' = (Hs (r.length + 1)).flush := by
        intro F1 H1 B1 hs hr
        obtain ⟨Fs, Hs, Bs, e1, e2, e3, e4, e5, e6⟩ := evDraw_trace r hr
        refine ⟨fun | 0 => F | j + 1 => Fs j, fun | 0 => H | j + 1 => Hs j, fun | 0 => B | j + 1 => Bs j, rfl, rfl, rfl, fun j i' m' hj => ?_, e5, e6⟩
        cases j with
        | zero =>
          simp at hj
          obtain ⟨rfl, rfl⟩ := hj
          exact ⟨o, ho, by dsimp only; rw [e1, e2, e3]; exact hs⟩
        | succ j => exact e4 j i' m' (by simpa using hj)
      split at h
      · rename_i hw
        split at h
        · rename_i v H1 hop
          split at h
          · rename_i hp
            exact key _ _ _ (.pval v H1 hw hop hp) h
          · rename_i hp
            split at h
            · rename_i hwin
              exact key _ _ _ (.val v H1 hw hop (by simpa using hp) hwin) h
            · cases h
        · rename_i H1 hop
          exact key _ _ _ (.pskip H1 hw hop (skip_pt hop)) h
        · rename_i f xs H1 hop
          split at h
          · rename_i v H2 hc
            exact key _ _ _ (.call f xs H1 v H2 hw hop hc (enter_pt hop)) h
          · cases h
        · cases h
      · rename_i hw
        exact key _ _ _ (.skip hw) h
      · cases h
theorem StepAt.grow {T : Tab} {call : CallE} (hc : CallGood call) {ops : Array Oper} {o : Oper} {m : Nat} {F F1 : Fr} {H H1 : Hp} {B B1 : List Hp} (hG : Good H) (h : StepAt T call ops o m F H B F1 H1 B1) : Grow H H1 := by
  cases h with
  | skip _ => exact .refl hG
  | val v H' _ h _ _ => exact evOp_val hG h
  | pval v H' _ h _ => exact (evOp_val hG h).bump
  | pskip H' _ h _ => exact (evOp_skp hG h).bump
  | call f xs H' v H'' _ h h' _ => exact ((evOp_ent hG h).trans (hc _ _ _ _ _ h' (evOp_ent hG h).good)).bump
theorem StepAt.frame {T : Tab} {call : CallE} {ops : Array Oper} {o : Oper} {m : Nat} {F F1 : Fr} {H H1 : Hp} {B B1 : List Hp} (h : StepAt T call ops o m F H B F1 H1 B1) (t : Nat) (ht : o.dst ≠ some t) : F1.get t = F.get t := by
  have h1 : (delD F o.dst).get t = F.get t := by
    cases hd : o.dst with
    | none => rfl
    | some u => simp only [delD, Tr.get_set]; rw [if_neg (fun e => ht (by rw [hd, e]))]
  have h2 : ∀ v, (putD F o.dst v).get t = F.get t := fun v => by
    cases hd : o.dst with
    | none => rfl
    | some u => simp only [putD, Tr.get_set]; rw [if_neg (fun e => ht (by rw [hd, e]))]
  cases h with
  | skip _ => exact h1
  | val v _ _ _ _ _ => exact h2 v
  | pval v _ _ _ _ => exact h2 v
  | pskip _ _ _ _ => exact h1
  | call _ _ _ v _ _ _ _ _ => exact h2 v
/-- A tree with some entries taken out. -/
def Tr.filt {α : Type} (q : Nat → Bool) : Tr α → (Nat → Nat) → Tr α
  | .nil, _ => .nil
  | .node l v r, k => .node (l.filt q fun n => k (2 * n + 1)) (if q (k 0) then v else none) (r.filt q fun n => k (2 * n + 2))
theorem Tr.get_filt {α : Type} (q : Nat → Bool) : ∀ (t : Tr α) (k : Nat → Nat) (n : Nat), (t.filt q k).get n = if q (k n) then t.get n else none
  | .nil, k, n => by simp [Tr.filt, Tr.get]
  | .node l v r, k, n => by
    simp only [Tr.filt, Tr.get]
    by_cases h0 : n = 0
    · subst h0; simp
    · rw [if_neg h0, if_neg h0]
      by_cases h1 : n % 2 = 1
      · rw [if_pos h1, if_pos h1, Tr.get_filt q l]
        rw [show 2 * (n / 2) + 1 = n from by omega]
      · rw [if_neg h1, if_neg h1, Tr.get_filt q r]
        rw [show 2 * (n / 2 - 1) + 2 = n from by omega]
end Go.AM
