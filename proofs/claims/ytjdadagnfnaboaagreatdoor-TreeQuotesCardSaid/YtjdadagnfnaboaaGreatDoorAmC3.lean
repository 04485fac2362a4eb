/- Parts of the abstract machine and of the walks over it, joined: what the law that is claimed here leans on. -/
import Derived.Test.YtjdadagnfnaboaaGreatDoorAmC2
import Derived.LoopNIn
import Derived.Lib.ItoaNum
import Derived.Lib.ParseIntB
import Derived.Lib.Join
import Derived.Lib.Repeat
/- A range over a function: the loop's record and its block lie apart from all that the abstract machine knows. -/
set_option linter.unusedVariables false
set_option linter.unusedSimpArgs false
namespace Go.AM
open Go Go.RowKit
section
variable {T : Tab} {P : Program} {D : Nat → Prop} {s s1 s2 : Sg} {n0 : Nat} {w0 w w1 w2 : World} {H H1 H2 : Hp}
theorem Below.put {B : Nat} (h : Below B w0 w) {l : Nat} (hl : B ≤ l) (o : Obj) : Below B w0 (w.putObj l o) :=
  h.trans ⟨rfl, rfl, rfl, by simp, fun k hk => World.putObj_heap_other (by omega)⟩
/-- A step, behind which blocks that nobody knows are turned. -/
theorem Step.apart (hs : Step n0 w0 D s H w s1 H1 w1) (hb : Below n0 w0 w2) (hz : w1.heap.size ≤ w2.heap.size) (hk : ∀ b, Dn D H.next H1.next b → w2.heap[(s1 b).b]? = w1.heap[(s1 b).b]?) (hf : ∀ k, k < w.heap.size → w2.heap[k]? = w1.heap[k]?) : Step n0 w0 D s H w s1 H1 w2 :=
  ⟨hs.sat.of_blocks hb hk, hs.same, hs.next, Nat.le_trans hs.size hz, fun k h1 h2 => (hf k h1).trans (hs.frame k h1 h2), hs.new, hs.ow⟩
/-- Where we are: a step from the start; the record l and the block d lie apart. -/
structure Cu (n0 : Nat) (w0 : World) (D : Nat → Prop) (s : Sg) (H : Hp) (w : World) (l d : Nat) (r : Loop) (s1 : Sg) (H1 : Hp) (w1 : World) : Prop where
  step : Step n0 w0 D s H w s1 H1 w1
  off : ∀ b, Dn D H.next H1.next b → (s1 b).b ≠ l ∧ (s1 b).b ≠ d
  hl : w1.heap[l]? = some (.loop r)
  hd : w1.heap[d]? = some (.deferred (some []))
  gl : w.heap.size ≤ l
  gd : w.heap.size ≤ d
  ne : d ≠ l
  bn : n0 ≤ w.heap.size
  good : Good H1
variable {l d : Nat} {r r' : Loop}
theorem Cu.next (C : Cu n0 w0 D s H w l d r s1 H1 w1) (hs : Step n0 w0 (Dn D H.next H1.next) s1 H1 w1 s2 H2 w2) (hG : Good H2) : Cu n0 w0 D s H w l d r s2 H2 w2 := by
  have hn := hs.next
  have hn0 := C.step.next
  refine ⟨C.step.trans hs, fun b hb => ?_, ?_, ?_, C.gl, C.gd, C.ne, C.bn, hG⟩
  · have ll := lt_of_heap C.hl
    have ld := lt_of_heap C.hd
    by_cases hb1 : Dn D H.next H1.next b
    · rw [hs.same b hb1]; exact C.off b hb1
    · have hnew : H1.next ≤ b ∧ b < H2.next := by
        rcases hb with hb | hb
        · exact absurd (.inl hb) hb1
        · refine ⟨?_, hb.2⟩
          rcases Nat.lt_or_ge b H1.next with h | h
          · exact absurd (.inr ⟨hb.1, h⟩) hb1
          · exact h
      rcases hs.new b hnew.1 hnew.2 with h | ⟨c, h1, _, h3⟩
      · exact ⟨by omega, by omega⟩
      · rw [← h3]; exact C.off c h1
  · rw [hs.frame l (lt_of_heap C.hl) (fun b hb _ => (C.off b hb).1)]; exact C.hl
  · rw [hs.frame d (lt_of_heap C.hd) (fun b hb _ => (C.off b hb).2)]; exact C.hd
theorem Cu.put (C : Cu n0 w0 D s H w l d r s1 H1 w1) (r' : Loop) : Cu n0 w0 D s H w l d r' s1 H1 (w1.putObj l (.loop r')) := by
  have hl := C.gl
  have hbn := C.bn
  refine ⟨C.step.apart (Below.put C.step.sat.below (Nat.le_trans hbn hl) _) (by simp) (fun b hb => World.putObj_heap_other (C.off b hb).1) (fun k hk => World.putObj_heap_other (by omega)), C.off, World.putObj_heap_same (lt_of_heap C.hl), (World.putObj_heap_other C.ne).trans C.hd, C.gl, C.gd, C.ne, C.bn, C.good⟩
/-- The loop is entered. -/
theorem Cu.start (hs : Step n0 w0 D s H w s1 H1 w1) (hbn : n0 ≤ w.heap.size) (hG : Good H1) (hlt : ∀ b, Dn D H.next H1.next b → (s1 b).b < w1.heap.size) (r : Loop) :
    Cu n0 w0 D s H w (w1.heap.size + 1) w1.heap.size r s1 H1 ((w1.alloc (.deferred (some []))).alloc (.loop r)) := by
  have hz := hs.size
  have e1 : ∀ k, k < w1.heap.size → ((w1.alloc (.deferred (some []))).alloc (.loop r)).heap[k]? = w1.heap[k]? := fun k hk => by
    rw [Go.heap_alloc_old _ _ (by rw [World.size_alloc]; omega), Go.heap_alloc_old _ _ hk]
  have hb : Below n0 w0 ((w1.alloc (.deferred (some []))).alloc (.loop r)) := (hs.sat.below.alloc (by omega) _).alloc (by rw [World.size_alloc]; omega) _
  refine ⟨hs.apart hb (by simp [World.size_alloc]; omega) (fun b hb => e1 _ (hlt b hb)) (fun k hk => e1 k (by omega)), fun b hb => ?_, ?_, ?_, by omega, by omega, by omega, hbn, hG⟩
  · have := hlt b hb
    exact ⟨by omega, by omega⟩
  · have := World.alloc_heap_new (w1.alloc (.deferred (some []))) (.loop r)
    rwa [World.size_alloc] at this
  · rw [Go.heap_alloc_old _ _ (by rw [World.size_alloc]; omega)]
    exact World.alloc_heap_new _ _
/-- The mark is come to. -/
theorem Cu.shut (C : Cu n0 w0 D s H w l d r s1 H1 w1) : Step n0 w0 D s H w s1 H1 (w1.putObj d (.deferred none)) := by
  have hd := C.gd
  have hbn := C.bn
  exact C.step.apart (Below.put C.step.sat.below (Nat.le_trans hbn hd) _) (by simp) (fun b hb => World.putObj_heap_other (C.off b hb).2) (fun k hk => World.putObj_heap_other (by omega))
/-- What was known then is known now. -/
structure Lat (D : Nat → Prop) (n : Nat) (s1 : Sg) (H1 : Hp) (s2 : Sg) (H2 : Hp) : Prop where
  same : ∀ b, Dn D n H1.next b → s2 b = s1 b
  le : H1.next ≤ H2.next
theorem Lat.refl {n : Nat} : Lat D n s1 H1 s1 H1 := ⟨fun _ _ => rfl, Nat.le_refl _⟩
theorem Lat.trans {n : Nat} {s3 : Sg} {H3 : Hp} (h : Lat D n s1 H1 s2 H2) (k : Lat D n s2 H2 s3 H3) : Lat D n s1 H1 s3 H3 :=
  ⟨fun b hb => (k.same b (hb.elim .inl fun h' => .inr ⟨h'.1, Nat.lt_of_lt_of_le h'.2 h.le⟩)).trans (h.same b hb), Nat.le_trans h.le k.le⟩
theorem Lat.fr {n : Nat} {F : Fr} {a : Act} (h : Lat D n s1 H1 s2 H2) (hF : FrOk (Dn D n H1.next) s1 F a) : FrOk (Dn D n H2.next) s2 F a :=
  hF.mono (fun b hb => hb.elim .inl fun h' => .inr ⟨h'.1, Nat.lt_of_lt_of_le h'.2 h.le⟩) h.same
theorem Lat.rv {n : Nat} {v : V} {x : Value} (h : Lat D n s1 H1 s2 H2) (hF : Rv (Dn D n H1.next) s1 v x) : Rv (Dn D n H2.next) s2 v x :=
  hF.mono (fun b hb => hb.elim .inl fun h' => .inr ⟨h'.1, Nat.lt_of_lt_of_le h'.2 h.le⟩) h.same
def noCall : CallE := fun _ _ _ => none
theorem noCall_ok (n0 : Nat) (w0 : World) : CallOk T P n0 w0 noCall := fun f vs H v H' h => by cases h
theorem noCall_good : CallGood noCall := fun f vs H v H' h => by cases h
/-- A region in a loop over a function. -/
theorem Cu.region (C : Cu n0 w0 D s H w l d r s1 H1 w1) (hM : MachOk T P) (hT : T.ng = 0) (hn : n0 ≤ w0.heap.size) (hfr : Fresh D H H2) {Z : Fence} (hZ : WideF Z) {n id nt : Nat} {ops : Array Oper} {F F' : Fr} {a : Act} {ds : List Deferred} {Q : Exit → Act → World → Prop}
    (hd : ops.toList.all (fun o => match o.dst with | some t => Nat.blt t nt | none => true) = true) (h : evOps T noCall ops ops.toList F H1 = some (F', H2)) (hF : FrOk (Dn D H.next H1.next) s1 F a) (hsz : nt ≤ a.tmps.size) (hds : a.defers = ds)
    (hQ : ∀ a' s2 w2, Cu n0 w0 D s H w l d r s2 H2 w2 → FrOk (Dn D H.next H2.next) s2 F' a' → Lat D H.next s1 H1 s2 H2 → nt ≤ a'.tmps.size → a'.defers = ds → Q .normal a' w2) : (Code.region id ops false).wpIn Z n P Q a w1 := by
  refine regIn_ok (ds := ds) hM hn (noCall_ok n0 w0) noCall_good hZ (fun o ho t ht => ?_) h ⟨fun g hg => by omega, hF, C.step.sat, C.good, hsz, hds⟩ (hfr.right C.step.next) fun a' w' hp => ?_
  · have := List.all_eq_true.1 hd o ho
    rw [ht] at this
    simpa using this
  · obtain ⟨s2, h1, h2, h3, h4⟩ := hp
    have hg := evOps_good noCall_good _ C.good h
    have e := dn_dn D C.step.next h1.next
    rw [e] at h2
    exact hQ a' s2 w' (C.next h1 hg.good) h2 ⟨h1.same, h1.next⟩ h3 h4
/-- One operation in a loop over a function. -/
theorem Cu.op (C : Cu n0 w0 D s H w l d r s1 H1 w1) (hM : MachOk T P) (hT : T.ng = 0) (hn : n0 ≤ w0.heap.size) (hfr : Fresh D H H2) {Z : Fence} (hZ : WideF Z) {n nt i : Nat} {is : List Nat} {ops : Array Oper} {o : Oper} {F F' : Fr} {a : Act} {ds : List Deferred} {Q : Exit → Act → World → Prop}
    (ho : ops[i]? = some o) (hd : ∀ t, o.dst = some t → t < nt) (h : evOps T noCall ops [o] F H1 = some (F', H2)) (hF : FrOk (Dn D H.next H1.next) s1 F a) (hsz : nt ≤ a.tmps.size) (hds : a.defers = ds)
    (hQ : ∀ a' s2 w2, Cu n0 w0 D s H w l d r s2 H2 w2 → FrOk (Dn D H.next H2.next) s2 F' a' → Lat D H.next s1 H1 s2 H2 → nt ≤ a'.tmps.size → a'.defers = ds → wpOpsIn Z n P ops Q is a' w2) : wpOpsIn Z n P ops Q (i :: is) a w1 := by
  have := evOpsIn_ok (ds := ds) (ops := ops) (Q := Q) (nt := nt) hM hn (noCall_ok n0 w0) noCall_good hZ (n := n) [o] i is (fun j hj => by simp at hj; subst hj; simpa using ho) (fun o' ho' t ht => by simp at ho'; subst ho'; exact hd t ht) h ⟨fun g hg => by omega, hF, C.step.sat, C.good, hsz, hds⟩ (hfr.right C.step.next) fun a' w' hp => ?_
  · simpa using this
  · obtain ⟨s2, h1, h2, h3, h4⟩ := hp
    have hg := evOps_good noCall_good _ C.good h
    have e := dn_dn D C.step.next h1.next
    rw [e] at h2
    exact hQ a' s2 w' (C.next h1 hg.good) h2 ⟨h1.same, h1.next⟩ h3 h4
/-- Only new blocks have come: one of them holds a new row of plain values. -/
theorem step_below (hS : Sat n0 w0 D s H w) (hst : H.stale = []) (hn : n0 ≤ w0.heap.size) (hf : ¬ D H.next) (hB : Below w.heap.size w w1) {L : Loc} {e : TypeId} {sz : Nat} {cs : List V} (hL : w.heap.size ≤ L.b) (hr : RowAt (Dn D H.next (H.next + 1)) (upd s H.next L) n0 w1 L e sz false cs) :
    Step n0 w0 D s H w (upd s H.next L) (H.new (.row e sz false cs)) w1 := by
  have hs : ∀ b, D b → upd s H.next L b = s b := fun b hb => upd_ne _ _ (fun e => hf (e ▸ hb))
  have hD : ∀ b, D b → Dn D H.next (H.next + 1) b := fun b hb => .inl hb
  have hget : ∀ b, (H.new (.row e sz false cs)).get b = if b = H.next then some (.row e sz false cs) else H.get b := fun b => Hp.get_new H b _
  have hst' : (H.new (.row e sz false cs)).stale = [] := hst
  have hne : ∀ b, D b → b ≠ H.next := fun b hb e => hf (e ▸ hb)
  have hDn : ∀ b, Dn D H.next (H.next + 1) b → D b ∨ b = H.next := fun b hb => hb.elim .inl fun h => .inr (by omega)
  have hal : ∀ b, D b → Al (H.new (.row e sz false cs)) b → Al H b := fun b hb h => by
    rw [al_iff, hget, if_neg (hne b hb), hst'] at h
    rw [al_iff, hst]; exact h
  have how : ∀ b, D b → Ow (H.new (.row e sz false cs)) b → Ow H b := fun b hb h => by
    unfold Ow at h ⊢
    rw [hget, if_neg (hne b hb), hst'] at h
    rw [hst]; exact h
  refine ⟨⟨?_, fun b e' sz' ro cs' hb hg => ?_, fun b ro es c hb hg => ?_, fun b m si se la hb hg => ?_, fun b b' h1 h2 h3 h4 h5 => ?_, fun x _ _ _ _ b _ _ _ hx hxs => ?_⟩, hs, Nat.le_succ _, hB.size, fun k hk _ => hB.block k hk, fun b h1 h2 => ?_, fun b hb => how b hb⟩
  · have := hS.below.size
    exact hS.below.trans ⟨hB.os, hB.tape, hB.output, hB.size, fun k hk => hB.block k (by omega)⟩
  · rw [hst', List.contains_nil, Bool.or_false]
    rcases hDn b hb with hb | rfl
    · rw [hget, if_neg (hne b hb)] at hg
      have h1 := hS.row b e' sz' ro cs' hb hg
      rw [hst, List.contains_nil, Bool.or_false] at h1
      rw [hs b hb]
      exact h1.keep hD hs (hB.block _ h1.lt)
    · rw [hget, if_pos rfl] at hg
      cases hg
      rw [upd_self]
      exact hr
  · rcases hDn b hb with hb | rfl
    · rw [hget, if_neg (hne b hb)] at hg
      obtain ⟨ents, h1, h2, h3⟩ := hS.map b ro es c hb hg
      rw [hs b hb, hB.block _ (lt_of_heap h1)]
      exact ⟨ents, h1, h2.mono hD hs, h3⟩
    · rw [hget, if_pos rfl] at hg
      cases hg
  · rcases hDn b hb with hb | rfl
    · rw [hget, if_neg (hne b hb)] at hg
      obtain ⟨h1, h2, h3⟩ := hS.iter b m si se la hb hg
      rw [hs b hb, hB.block _ (lt_of_heap h1)]
      refine ⟨?_, fun m' hm => hD _ (h2 m' hm), h3⟩
      rw [h1]
      cases m with
      | none => rfl
      | some m => simp only [Option.map_some]; rw [hs m (h2 m rfl)]
    · rw [hget, if_pos rfl] at hg
      cases hg
  · rcases hDn b h1 with hb | rfl
    · rcases hDn b' h2 with hb' | rfl
      · rw [hs b hb, hs b' hb']
        exact hS.sep b b' hb hb' h3 (how b hb h4) (hal b' hb' h5)
      · rw [hs b hb, upd_self]
        have := hS.lt hb (how b hb h4).al
        omega
    · rcases hDn b' h2 with hb' | rfl
      · rw [upd_self, hs b' hb']
        have := hS.lt hb' (hal b' hb' h5)
        omega
      · exact absurd rfl h3
  · rw [hst'] at hxs; cases hxs
  · have : b = H.next := by
      have : (H.new (Ob.row e sz false cs)).next = H.next + 1 := Hp.next_new _ _
      omega
    subst this
    left; rw [upd_self]; exact hL
/-- Only new blocks have come; nothing of them is known. -/
theorem step_below0 (hS : Sat n0 w0 D s H w) (hn : n0 ≤ w0.heap.size) (hB : Below w.heap.size w w1) (hlt : ∀ b, D b → (∀ o, H.get b = some o → o ≠ .dead → (s b).b < w.heap.size)) : Step n0 w0 D s H w s H w1 := by
  have hz := hS.below.size
  have e : Dn D H.next H.next = D := dn_refl D H.next
  refine ⟨?_, fun _ _ => rfl, Nat.le_refl _, hB.size, fun k hk _ => hB.block k hk, fun b h1 h2 => by omega, fun _ _ h => h⟩
  rw [e]
  refine ⟨hS.below.trans ⟨hB.os, hB.tape, hB.output, hB.size, fun k hk => hB.block k (by omega)⟩, fun b e sz ro cs hD hg => ?_, fun b ro es c hD hg => ?_, fun b m si se la hD hg => ?_, hS.sep, hS.old⟩
  · have h1 := hS.row b e sz ro cs hD hg
    exact h1.keep (fun _ h => h) (fun _ _ => rfl) (hB.block _ h1.lt)
  · obtain ⟨ents, h1, h2⟩ := hS.map b ro es c hD hg
    exact ⟨ents, by rw [hB.block _ (lt_of_heap h1)]; exact h1, h2⟩
  · obtain ⟨h1, h2⟩ := hS.iter b m si se la hD hg
    exact ⟨by rw [hB.block _ (lt_of_heap h1)]; exact h1, h2⟩
/-- A call of yield asks for a round. -/
theorem run_opYield {o : Oper} {a : Act} {w : World} {c : Call} {t : Tmp} {l : Nat} {x : Operand} {nx : Next} {w' : World} (ro : Option Nat) (ho : o.op = .call c) (hc : c.callee = .value (.tmp t)) (ha : c.args = #[x]) (ht : a.eval (.tmp t) = .func (.yield l) #[] #[]) (hy : (Instr.yield l #[a.eval x]).run P w = .ok nx w') :
    (o.semAt ro a.eval).run P w = .ok nx w' ∧ o.about P w a.eval = none := by
  constructor
  · rw [Oper.semAt_eq _ _ _ (by simp [ho])]
    simp [execOp, ho, resolve, hc, ha, ht, Deferred.ofValue, Sem.run_bind, Result.andThen, invoke, hy]
  · simp [Oper.about, ho, resolve, hc, ha, ht, Deferred.ofValue, Target.leads, Sem.run_bind, Result.andThen]
/-- A region of a code, by its number. -/
def regOf (i : Nat) : Code → Option (Array Oper)
  | .region id ops _ => if id = i then some ops else none
  | .seq a b => match regOf i a with | some x => some x | none => regOf i b
  | .cond _ a b => match regOf i a with | some x => some x | none => regOf i b
  | .block _ c => regOf i c
  | .scope c => regOf i c
  | .loop c => regOf i c
  | .rangeFunc _ _ a b => match regOf i a with | some x => some x | none => regOf i b
  | _ => none
def regF (fn : Func) (i : Nat) : Array Oper := match fn.body with | some c => (match regOf i c with | some x => x | none => #[]) | none => #[]
theorem wpOps_move {Z : Fence} {n i : Nat} {is : List Nat} {ops : Array Oper} {o : Oper} {a : Act} {w : World} {x : Operand} {Q : Exit → Act → World → Prop} (ho : ops[i]? = some o) (hg : o.guard = none) (hop : o.op = .move x) (h : wpOpsIn Z n P ops Q is (a.put o.dst (a.eval x)) w) : wpOpsIn Z n P ops Q (i :: is) a w := by
  simp only [wpOpsIn, ho]
  rw [if_pos (by simp [Region.wanted, hg])]
  refine ⟨fun f hf => ?_, ?_⟩
  · simp [Oper.about, hop] at hf
  · rw [Oper.semAt_eq _ _ _ (by simp [hop])]; unfold execOp; rw [hop]; exact h
theorem wpOps_yield {Z : Fence} {n i l f : Nat} {is : List Nat} {ops : Array Oper} {o : Oper} {a : Act} {w w' : World} {c : Call} {t : Tmp} {x : Operand} {tmps : Array Value} {assign body : Code} {Q : Exit → Act → World → Prop} (ho : ops[i]? = some o) (hg : o.guard = none) (hop : o.op = .call c) (hc : c.callee = .value (.tmp t)) (ha : c.args = #[x]) (hd : Z.depth = none)
    (ht : a.eval (.tmp t) = .func (.yield l) #[] #[]) (hy : (Instr.yield l #[a.eval x]).run P w = .ok (.round l f tmps assign body) w') (h : RoundIn Z (n - 1) P l f tmps assign body w' fun e w2 => ∃ v, e = .returned v ∧ wpOpsIn Z n P ops Q is (a.put o.dst v) w2) : wpOpsIn Z n P ops Q (i :: is) a w := by
  obtain ⟨h1, h2⟩ := run_opYield (P := P) (w := w) Z.round hop hc ha ht hy
  simp only [wpOpsIn, ho]
  rw [if_pos (by simp [Region.wanted, hg])]
  refine ⟨fun f hf => (by rw [h2] at hf; cases hf), ?_⟩
  rw [h1]
  refine ⟨fun hh => (by rw [hd] at hh; cases hh), h.mono fun e w2 he => ?_⟩
  obtain ⟨v, rfl, hv⟩ := he
  exact hv
end
/-- What is told of a function is so. -/
def ExtF (I : Nat → World → Prop) (ng : Nat) (P : Program) (f : FuncId) (e : List V → Hp → Option (V × Hp)) : Prop :=
  ∀ n0 w0, I n0 w0 → n0 ≤ w0.heap.size → ∀ vs H v H', e vs H = some (v, H') → ∀ D s w (xs : Array Value), GlOk ng D s → RvL D s vs xs.toList → Sat n0 w0 D s H w → Good H → Fresh D H H' →
    Calls P f xs w fun e w' => match e with
      | .returned x => ∃ s', Step n0 w0 D s H w s' H' w' ∧ Rv (Dn D H.next H'.next) s' v x
      | _ => False
/-- slices.AppendSeq(nil, maps.Keys(m)), told for maps of no more than one entry. fk: the iterator's number; te: the keys' type. -/
def keysE (fk te : Nat) : List V → Hp → Option (V × Hp)
  | [.nils, .fn (.func g) [] [.ptr c 0]], H => if g = fk then match H.stale, H.get c with
    | [], some (.row _ 1 _ [.nilm]) => some (.nils, H)
    | [], some (.row _ 1 _ [.mp b]) => match H.get b with
      | some (.map _ [] _) => some (.nils, H)
      | some (.map _ [(.agg [.int k0 n0, .int k1 n1, .str t], .agg [.int _ _, .int _ _, .str _], 0)] 1) => some (.sl H.next 0 1 none 3, H.new (.row te 3 false [.int k0 n0, .int k1 n1, .str t]))
      | _ => none
    | _, _ => none else none
  | _, _ => none
theorem keysE_good {fk te : Nat} {xs : List V} {H H' : Hp} {v : V} (h : keysE fk te xs H = some (v, H')) (hG : Good H) : Grow H H' := by
  unfold keysE at h
  split at h
  · split at h
    · split at h
      · cases h; exact Grow.refl hG
      · split at h
        · cases h; exact Grow.refl hG
        · cases h; exact hG.new _
        · cases h
      · cases h
    · cases h
  · cases h
/-- (*strings.Builder).copyCheck. -/
def ccE (tb : Nat) : List V → Hp → Option (V × Hp)
  | [.ptr b 0], H => match H.stale, H.get b with
    | [], some (.row e 2 false [.nilp, x]) => if e = tb then some (.tup [], H.put b (.row e 2 false [.ptr b 0, x])) else none
    | [], some (.row e 2 false [.ptr b' 0, x]) => if e = tb ∧ b' = b then some (.tup [], H) else none
    | _, _ => none
  | _, _ => none
/-- A pure function of a text and a byte. -/
def ixE (f : List UInt8 → UInt8 → Int) : List V → Hp → Option (V × Hp)
  | [.str s, .int .u8 c], H => some (.int .i64 (f s c.toNat.toUInt8), H)
  | _, _ => none
theorem ccE_good {tb : Nat} {xs : List V} {H H' : Hp} {v : V} (h : ccE tb xs H = some (v, H')) (hG : Good H) : Grow H H' := by
  unfold ccE at h
  split at h
  · split at h
    · rename_i hg
      split at h
      · cases h; exact hG.put hg
      · cases h
    · split at h
      · cases h; exact Grow.refl hG
      · cases h
    · cases h
  · cases h
theorem ixE_good {f : List UInt8 → UInt8 → Int} {xs : List V} {H H' : Hp} {v : V} (h : ixE f xs H = some (v, H')) (hG : Good H) : Grow H H' := by
  unfold ixE at h
  split at h
  · cases h; exact Grow.refl hG
  · cases h
/-- A row of its own, whole: the block. -/
theorem RowAt.block {D : Nat → Prop} {s : Sg} {n0 : Nat} {w : World} {L : Loc} {e : TypeId} {sz : Nat} {cs : List V} (h : RowAt D s n0 w L e sz false cs) :
    ∃ (C : Array Value) (fz : Nat × Nat), w.heap[L.b]? = some (.cells C e fz) ∧ L.base = 0 ∧ C.size = L.cap * sz ∧ (∀ (i : Nat) (v : V), cs[i]? = some v → ∃ x : Value, C[i]? = some x ∧ Rv D s v x) ∧ ∀ i : Nat, i < C.size → ¬ (fz.1 ≤ i ∧ i < fz.2) := by
  obtain ⟨⟨C, et, fz, g1, g2, g3, g4⟩, g5, g6, g7, g8⟩ := h
  obtain ⟨h1, rfl, h3, h4⟩ := g4 rfl
  refine ⟨C, fz, g1, h3, h4, fun i v hv => ?_, fun i hi => h1 i (by omega) (by omega)⟩
  obtain ⟨x, hx, hr⟩ := g3 i v hv
  rw [h3, Nat.zero_add] at hx
  exact ⟨x, hx, hr⟩
/-- An own row is sealed: none may write on it any more. -/
theorem step_seal {D : Nat → Prop} {s : Sg} {n0 : Nat} {w0 w w' : World} {H : Hp} (hS : Sat n0 w0 D s H w) (hst : H.stale = []) {r : Nat} {e : TypeId} {sz : Nat} {cs : List V} (hD : D r) (hg : H.get r = some (.row e sz false cs)) (hB : But w w' (s r).b)
    (hrow : RowAt D s n0 w' (s r) e sz true cs) : Step n0 w0 D s H w s (H.put r (.row e sz true cs)) w' := by
  have ho : Ow H r := by unfold Ow; rw [hg, hst]; simp
  have e0 : Dn D H.next (H.put r (.row e sz true cs)).next = D := by funext b; simp [Dn, Hp.next_put]; intro h1 h2; omega
  have hst' : (H.put r (.row e sz true cs)).stale = [] := hst
  have hget : ∀ b, (H.put r (.row e sz true cs)).get b = if b = r then some (.row e sz true cs) else H.get b := fun b => Hp.get_put H r b _
  have hal : ∀ b, Al (H.put r (.row e sz true cs)) b → Al H b := fun b h => by
    by_cases hb : b = r
    · subst hb; exact ho.al
    · rw [al_iff, hget, if_neg hb, hst'] at h
      rw [al_iff, hst]; exact h
  have how : ∀ b, Ow (H.put r (.row e sz true cs)) b → Ow H b ∧ b ≠ r := fun b h => by
    by_cases hb : b = r
    · subst hb
      unfold Ow at h
      rw [hget, if_pos rfl] at h
      simp at h
    · refine ⟨?_, hb⟩
      unfold Ow at h ⊢
      rw [hget, if_neg hb, hst'] at h
      rw [hst]; exact h
  have hne : ∀ b, D b → b ≠ r → Al H b → w'.heap[(s b).b]? = w.heap[(s b).b]? := fun b hb hbr ha => hB.old _ (hS.sep r b hD hb (Ne.symm hbr) ho ha).symm
  refine ⟨?_, fun _ _ => rfl, by rw [Hp.next_put]; exact Nat.le_refl _, by rw [hB.size]; exact Nat.le_refl _, fun k _ h => hB.old k (h r hD ho).symm, fun b h1 h2 => by rw [Hp.next_put] at h2; omega, fun b _ h => (how b h).1⟩
  rw [e0]
  refine ⟨hB.below hS.below (hS.owge hD ho), fun b e' sz' ro cs' hb hgb => ?_, fun b ro es c hb hgb => ?_, fun b m si se la hb hgb => ?_, fun b b' h1 h2 h3 h4 h5 => hS.sep b b' h1 h2 h3 (how b h4).1 (hal b' h5), fun x _ _ _ _ b _ _ _ hx hxs => by rw [hst'] at hxs; cases hxs⟩
  · rw [hst', List.contains_nil, Bool.or_false]
    rw [hget] at hgb
    split at hgb
    · rename_i hb'; subst hb'; cases hgb; exact hrow
    · rename_i hbr
      have h1 := hS.row b e' sz' ro cs' hb hgb
      rw [hst, List.contains_nil, Bool.or_false] at h1
      exact h1.keep (fun _ h => h) (fun _ _ => rfl) (hne b hb hbr (by rw [al_iff, hgb, hst]; simp))
  · rw [hget] at hgb
    split at hgb
    · cases hgb
    · rename_i hbr
      obtain ⟨ents, h1, h2⟩ := hS.map b ro es c hb hgb
      exact ⟨ents, by rw [hne b hb hbr (by rw [al_iff, hgb]; trivial)]; exact h1, h2⟩
  · rw [hget] at hgb
    split at hgb
    · cases hgb
    · rename_i hbr
      obtain ⟨h1, h2⟩ := hS.iter b m si se la hb hgb
      exact ⟨by rw [hne b hb hbr (by rw [al_iff, hgb]; trivial)]; exact h1, h2⟩
/-- A byte. -/
def byteV : V → Bool
  | .int .u8 n => decide (0 ≤ n) && decide (n < 256)
  | _ => false
/-- (*strings.Builder).String. -/
def strE (tb t5 : Nat) : List V → Hp → Option (V × Hp)
  | [.ptr b 0], H => match H.stale, H.get b with
    | [], some (.row e 2 false [_, .nils]) => if e = tb then some (.str [], H) else none
    | [], some (.row e 2 false [_, .sl r 0 (n + 1) none 1]) => if e = tb then match H.get r with
      | some (.row e' 1 false cs) => if e' = t5 ∧ n + 1 ≤ cs.length ∧ n + 1 ≤ 9223372036854775807 ∧ (cs.take (n + 1)).all byteV = true then match bytesOf (cs.take (n + 1)) with
        | some l => some (.str l, H.put r (.row e' 1 true cs))
        | none => none else none
      | _ => none else none
    | _, _ => none
  | _, _ => none
theorem strE_good {tb t5 : Nat} {xs : List V} {H H' : Hp} {v : V} (h : strE tb t5 xs H = some (v, H')) (hG : Good H) : Grow H H' := by
  unfold strE at h
  split at h
  · split at h
    · split at h
      · cases h; exact Grow.refl hG
      · cases h
    · split at h
      · split at h
        · rename_i hg
          split at h
          · split at h
            · cases h; exact hG.put hg
            · cases h
          · cases h
        · cases h
      · cases h
    · cases h
  · cases h
/-- A text's copy. -/
def clE : List V → Hp → Option (V × Hp)
  | [.str s], H => if s.length ≤ 281474976710656 then some (.str s, H) else none
  | _, _ => none
theorem clE_good {xs : List V} {H H' : Hp} {v : V} (h : clE xs H = some (v, H')) (hG : Good H) : Grow H H' := by
  unfold clE at h
  split at h
  · split at h
    · cases h; exact Grow.refl hG
    · cases h
  · cases h
theorem bytesOf_get : ∀ {cs : List V} {l : List UInt8}, bytesOf cs = some l → cs.all byteV = true → l.length = cs.length ∧ ∀ (j : Nat) (x : UInt8), l[j]? = some x → cs[j]? = some (.int .u8 x.toNat)
  | [], l, h, _ => by
    simp only [bytesOf] at h
    cases h
    exact ⟨rfl, fun j x hx => by simp at hx⟩
  | c :: cs, l, h, ha => by
    simp only [List.all_cons, Bool.and_eq_true] at ha
    unfold bytesOf at h
    split at h
    · rename_i heq; cases heq
    · rename_i n r heq
      cases heq
      split at h
      · rename_i l' hl
        cases h
        obtain ⟨h1, h2⟩ := bytesOf_get hl ha.2
        refine ⟨by simp [h1], fun j x hx => ?_⟩
        cases j with
        | zero =>
          simp only [List.getElem?_cons_zero, Option.some.injEq] at hx ⊢
          subst hx
          have := ha.1
          simp only [byteV, Bool.and_eq_true, decide_eq_true_eq] at this
          congr 1
          rw [UInt8.toNat_ofNat']
          omega
        | succ j => simpa using h2 j x (by simpa using hx)
      · cases h
    · cases h
/-- (*strings.Builder).Grow at a builder that has not been written. -/
def growE (tb t5 : Nat) : List V → Hp → Option (V × Hp)
  | [.ptr b 0, .int .i64 n], H => match H.stale, H.get b with
    | [], some (.row e 2 false [.nilp, .nils]) => if e = tb ∧ 0 < n ∧ n ≤ 281474976710656 then some (.tup [], (H.new (.row t5 1 false [])).put b (.row e 2 false [.ptr b 0, .sl H.next 0 0 none 1])) else none
    | _, _ => none
  | _, _ => none
theorem growE_good {tb t5 : Nat} {xs : List V} {H H' : Hp} {v : V} (h : growE tb t5 xs H = some (v, H')) (hG : Good H) : Grow H H' := by
  unfold growE at h
  split at h
  · split at h
    · rename_i e hst hg
      split at h
      · cases h
        have h1 := hG.new (.row t5 1 false [])
        have hlt := hG.lt hg
        exact h1.trans (h1.good.put (o := .row e 2 false [.nilp, .nils]) (by rw [Hp.get_new, if_neg (by omega)]; exact hg))
      · cases h
    · cases h
  · cases h
end Go.AM
/- More functions told otherwise: numbers' texts, texts' numbers, texts joined, texts repeated. -/
set_option linter.unusedVariables false
set_option linter.unusedSimpArgs false
namespace Go.AM
open Go Go.RowKit
/-- A number's decimal digits, so many at most. -/
def decF : Nat → Nat → List UInt8
  | 0, _ => []
  | k + 1, u => if u < 10 then [UInt8.ofNat (48 + u)] else decF k (u / 10) ++ [UInt8.ofNat (48 + u % 10)]
theorem decF_eq : ∀ (k u : Nat), u < 10 ^ (k + 1) → decF (k + 1) u = Lib.decDigits u
  | 0, u, h => by
    rw [decF, Lib.decDigits, if_pos (by omega), dif_pos (by omega)]
  | k + 1, u, h => by
    rw [decF, Lib.decDigits]
    by_cases h1 : u < 10
    · rw [if_pos h1, dif_pos h1]
    · rw [if_neg h1, dif_neg h1, decF_eq k (u / 10) (by rw [Nat.pow_succ] at h; omega)]
def itoaF (n : Int) : List UInt8 := if n < 0 then 45 :: decF 20 n.natAbs else decF 20 n.toNat
theorem itoaF_eq {n : Int} (h0 : -9223372036854775808 ≤ n) (h1 : n ≤ 9223372036854775807) : itoaF n = Lib.itoa n := by
  unfold itoaF Lib.itoa
  split
  · rw [decF_eq _ _ (by omega)]
  · rw [decF_eq _ _ (by omega)]
/-- strconv.FormatInt(n, 10). -/
def fmtE : List V → Hp → Option (V × Hp)
  | [.int .i64 n, .int .i64 10], H => if -9223372036854775808 ≤ n ∧ n ≤ 9223372036854775807 then some (.str (itoaF n), H) else none
  | _, _ => none
/-- strconv.Itoa(n). -/
def itoaE : List V → Hp → Option (V × Hp)
  | [.int .i64 n], H => if -9223372036854775808 ≤ n ∧ n ≤ 9223372036854775807 then some (.str (itoaF n), H) else none
  | _, _ => none
/-- strconv.ParseInt(s, 10, 64). gr: the variable ErrRange; tn: the error's type. -/
def piE (gr tn : Nat) : List V → Hp → Option (V × Hp)
  | [.str s, .int .i64 10, .int .i64 64], H => if s.length ≤ 281474976710656 then match Lib.parseIntB 64 s with
    | .ok v => some (.tup [.int .i64 v, .nili], H)
    | .range => match H.stale, H.get gr with
      | [], some (.row _ 1 true [.ifc t v]) => some (.tup [.int .i64 (Lib.intSat 64 s), .ifc tn (.ptr H.next 0)], H.bump)
      | _, _ => none
    | _ => none
    else none
  | _, _ => none
def strsOf : List V → Option (List (List UInt8))
  | [] => some []
  | .str s :: r => match strsOf r with | some l => some (s :: l) | none => none
  | _ => none
/-- strings.Join. -/
def joinE : List V → Hp → Option (V × Hp)
  | [.nils, .str sep], H => some (.str [], H)
  | [.sle, .str sep], H => some (.str [], H)
  | [.sl b o n c 1, .str sep], H => match H.stale, H.get b with
    | [], some (.row _ 1 _ cs) => if o + n ≤ cs.length ∧ n ≤ 140737488355328 then match strsOf ((cs.drop o).take n) with
      | some l => if (Lib.join l sep).length ≤ 140737488355328 then some (.str (Lib.join l sep), H) else none
      | none => none else none
    | _, _ => none
  | _, _ => none
/-- strings.Repeat. -/
def repE : List V → Hp → Option (V × Hp)
  | [.str s, .int .i64 n], H => if 0 ≤ n ∧ n ≤ 9223372036854775807 ∧ s.length * n.toNat ≤ 140737488355328 then some (.str (Lib.repeatL s n.toNat), H) else none
  | _, _ => none
theorem fmtE_good {xs : List V} {H H' : Hp} {v : V} (h : fmtE xs H = some (v, H')) (hG : Good H) : Grow H H' := by
  unfold fmtE at h
  split at h
  · split at h
    · cases h; exact Grow.refl hG
    · cases h
  · cases h
theorem itoaE_good {xs : List V} {H H' : Hp} {v : V} (h : itoaE xs H = some (v, H')) (hG : Good H) : Grow H H' := by
  unfold itoaE at h
  split at h
  · split at h
    · cases h; exact Grow.refl hG
    · cases h
  · cases h
theorem repE_good {xs : List V} {H H' : Hp} {v : V} (h : repE xs H = some (v, H')) (hG : Good H) : Grow H H' := by
  unfold repE at h
  split at h
  · split at h
    · cases h; exact Grow.refl hG
    · cases h
  · cases h
theorem joinE_good {xs : List V} {H H' : Hp} {v : V} (h : joinE xs H = some (v, H')) (hG : Good H) : Grow H H' := by
  unfold joinE at h
  split at h
  · cases h; exact Grow.refl hG
  · cases h; exact Grow.refl hG
  · split at h
    · split at h
      · split at h
        · split at h
          · cases h; exact Grow.refl hG
          · cases h
        · cases h
      · cases h
    · cases h
  · cases h
theorem piE_good {gr tn : Nat} {xs : List V} {H H' : Hp} {v : V} (h : piE gr tn xs H = some (v, H')) (hG : Good H) : Grow H H' := by
  unfold piE at h
  split at h
  · split at h
    · split at h
      · cases h; exact Grow.refl hG
      · split at h
        · cases h; exact hG.bump
        · cases h
      · cases h
    · cases h
  · cases h
theorem strsOf_get : ∀ {cs : List V} {l : List (List UInt8)}, strsOf cs = some l → l.length = cs.length ∧ ∀ (j : Nat) x, l[j]? = some x → cs[j]? = some (.str x)
  | [], l, h => by cases h; exact ⟨rfl, fun j x hx => by simp at hx⟩
  | c :: cs, l, h => by
    unfold strsOf at h
    split at h
    · rename_i heq; cases heq
    · rename_i s r heq
      cases heq
      split at h
      · rename_i l' hl
        cases h
        obtain ⟨h1, h2⟩ := strsOf_get hl
        refine ⟨by simp [h1], fun j x hx => ?_⟩
        cases j with
        | zero => simpa using hx
        | succ j => simpa using h2 j x (by simpa using hx)
      · cases h
    · cases h
/-- FormatUint(n, 10). -/
def fuE : List V → Hp → Option (V × Hp)
  | [.int .u64 n, .int .i64 10], H => if 0 ≤ n ∧ n < 18446744073709551616 then some (.str (decF 20 n.toNat), H) else none
  | _, _ => none
theorem fuE_good {xs : List V} {H H' : Hp} {v : V} (h : fuE xs H = some (v, H')) (hG : Good H) : Grow H H' := by
  unfold fuE at h
  split at h
  · split at h
    · cases h; exact Grow.refl hG
    · cases h
  · cases h
end Go.AM
