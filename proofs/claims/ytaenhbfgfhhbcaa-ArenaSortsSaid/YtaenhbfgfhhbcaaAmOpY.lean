/- The operations that write (3): clear, range, next; all of them, in one word. -/
import Derived.Test.YtaenhbfgfhhbcaaAmOpX
set_option linter.unusedVariables false
set_option linter.unusedSimpArgs false
namespace Go.AM
open Go Go.RowKit
section
variable {T : Tab} {P : Program} {D : Nat → Prop} {s : Sg} {n0 : Nat} {w0 w w' : World} {H : Hp}

theorem EsOk.filter (p : Nat → Bool) : ∀ {es : List (V × V × Nat)} {fs : List MapEntry}, EsOk D s es fs → EsOk D s (es.filter fun e => p e.2.2) (fs.filter fun f => p f.born)
  | _, _, .nil => .nil
  | _, _, .cons k v n x y es fs h1 h2 h3 => by
    simp only [List.filter_cons]
    split
    · exact .cons _ _ _ _ _ _ _ h1 h2 (EsOk.filter p h3)
    · exact EsOk.filter p h3
theorem EsOk.all (p : Nat → Bool) : ∀ {es : List (V × V × Nat)} {fs : List MapEntry}, EsOk D s es fs → (es.all fun e => p e.2.2) = fs.all fun f => p f.born
  | _, _, .nil => rfl
  | _, _, .cons k v n x y es fs h1 h2 h3 => by simp only [List.all_cons, EsOk.all p h3]
theorem EsOk.empty : ∀ {es : List (V × V × Nat)} {fs : List MapEntry}, EsOk D s es fs → es.isEmpty = fs.isEmpty
  | _, _, .nil => rfl
  | _, _, .cons k v n x y es fs h1 h2 h3 => rfl
theorem cand_ok {old new : List (V × V × Nat)} {A B : Array MapEntry} (ho : EsOk D s old A.toList) (hn : EsOk D s new B.toList) :
    ((if old.isEmpty then [none] else []) ++ (old ++ new).map some = [none] → (if A.isEmpty then #[none] else #[]) ++ (A ++ B).map some = #[none]) ∧
    (∀ e, (if old.isEmpty then [none] else []) ++ (old ++ new).map some = [some e] → ∃ f, (if A.isEmpty then #[none] else #[]) ++ (A ++ B).map some = #[some f] ∧ Rv D s e.1 f.key ∧ Rv D s e.2.1 f.val ∧ f.born = e.2.2) := by
  obtain ⟨A⟩ := A
  obtain ⟨B⟩ := B
  dsimp only at ho hn
  cases ho with
  | nil =>
    cases hn with
    | nil => exact ⟨fun _ => by simp, fun e h => by simp at h⟩
    | cons => exact ⟨fun h => by simp at h, fun e h => by simp at h⟩
  | cons k v n x y es fs h1 h2 h3 =>
    refine ⟨fun h => by simp at h, fun e h => ?_⟩
    simp at h
    obtain ⟨rfl, h4, h5⟩ := h
    subst h4; subst h5
    cases h3; cases hn
    exact ⟨{ key := x, val := y, born := n }, by simp, h1, h2, rfl⟩
theorem run_getObj_any {r c : Nat} {A : Array MapEntry} (h : w.heap[r]? = some (.map A c)) : (getObj r).run P w = .ok (.map A c) w := by simp [getObj, Sem.run, h]
theorem run_getObj_it {r a c : Nat} {m : Option Nat} {b : Array Nat} (h : w.heap[r]? = some (.mapIter m a b c)) : (getObj r).run P w = .ok (.mapIter m a b c) w := by simp [getObj, Sem.run, h]
theorem run_setObj_any {r a c : Nat} {m : Option Nat} {b : Array Nat} (o' : Obj) (h : w.heap[r]? = some (.mapIter m a b c)) : (setObj r o').run P w = .ok () { w with heap := w.heap.setIfInBounds r o' } := by simp [setObj, Sem.run, h]
/-- An iterator written. -/
theorem iter_put (hS : Sat n0 w0 D s H w) (hst : H.stale = []) {b : Nat} {m : Option Nat} {si la la' : Nat} {se se' : List Nat} (hD : D b) (hg : H.get b = some (.iter m si se la)) :
    Step n0 w0 D s H w s (H.put b (.iter m si se' la')) { w with heap := w.heap.setIfInBounds (s b).b (.mapIter (m.map fun m => (s m).b) si se'.toArray la') } := by
  have hob : Ow H b := by unfold Ow; rw [hg]; trivial
  obtain ⟨h1, h2, h3, h4⟩ := hS.iter b _ _ _ _ hD hg
  have hlt := lt_of_heap h1
  refine step_put hS hst hD hob ⟨rfl, rfl, rfl, by simp, fun k hk => by simp [Array.getElem?_setIfInBounds, Ne.symm hk]⟩ ?_ (fun _ _ _ _ he => by cases he) (fun _ _ _ heq => by cases heq) (fun _ _ _ _ he => ?_)
  · constructor
    · unfold Al; rw [Hp.get_put, if_pos rfl]; trivial
    · unfold Ow; rw [Hp.get_put, if_pos rfl]; trivial
  · cases he
    exact ⟨by simp [hlt], h2, h3⟩
theorem arr_all {α : Type} (a : Array α) (p : α → Bool) : a.all p = a.toList.all p := by simp
theorem arr_empty {α : Type} (a : Array α) : a.isEmpty = a.toList.isEmpty := by cases a; simp
theorem next_ok (hS : Sat n0 w0 D s H w) (hst : H.stale = []) {r m since last clock : Nat} {ty : TypeId} {seen : List Nat} {ro : Bool} {es : List (V × V × Nat)} {x : Value} (hx : Rv D s (.ptr r 0) x) (hg : H.get r = some (.iter (some m) since seen last)) (hm : H.get m = some (.map ro es clock))
    (hn : (!seen.isEmpty && !es.isEmpty && es.all (fun e => last ≤ e.2.2)) = false) {c : Option (V × V × Nat)}
    (hc : (if (((es.filter fun e => !seen.contains e.2.2).filter fun e => decide (e.2.2 < since))).isEmpty then [none] else []) ++ ((((es.filter fun e => !seen.contains e.2.2).filter fun e => decide (e.2.2 < since))) ++ ((es.filter fun e => !seen.contains e.2.2).filter fun e => decide (since ≤ e.2.2))).map some = [c]) :
    ∃ x' w', (Instr.next x false ty).run P w = .ok x' w' ∧ Step n0 w0 D s H w s (match c with | some e => H.put r (.iter (some m) since (seen ++ [e.2.2]) clock) | none => H) w' ∧ Rv D s (match c with | some e => .tup [.bool true, e.1, e.2.1] | none => .tup [.bool false]) x' := by
  cases hx with
  | ptr r off hD =>
    obtain ⟨h1, h2, h3, h4⟩ := hS.iter r _ _ _ _ hD hg
    have hDm := h2 m rfl
    obtain ⟨ents, k1, k2, _⟩ := hS.map m _ _ _ hDm hm
    have e1 := k2.filter (fun n => !seen.contains n)
    have e2 := e1.filter (fun n => decide (n < since))
    have e3 := e1.filter (fun n => decide (since ≤ n))
    have hno : (!seen.toArray.isEmpty && !ents.isEmpty && ents.all (fun f => decide (f.born ≥ last))) = false := by
      rw [arr_all, arr_empty, arr_empty, List.toList_toArray, ← k2.empty, ← k2.all (fun n => decide (n ≥ last))]
      exact hn
    have a1 : EsOk D s ((es.filter fun e => !seen.contains e.2.2).filter fun e => decide (e.2.2 < since)) ((ents.filter fun e => !seen.toArray.contains e.born).filter (·.born < since)).toList := by
      rw [Array.toList_filter, Array.toList_filter]; simp only [List.contains_toArray]; exact e2
    have a2 : EsOk D s ((es.filter fun e => !seen.contains e.2.2).filter fun e => decide (since ≤ e.2.2)) ((ents.filter fun e => !seen.toArray.contains e.born).filter (·.born ≥ since)).toList := by
      rw [Array.toList_filter, Array.toList_filter]; simp only [List.contains_toArray]; exact e3
    have hcand := cand_ok a1 a2
    simp only [Option.map_some] at h1
    cases c with
    | none =>
      have := hcand.1 hc
      refine ⟨_, w, ?_, Step.refl hS, .tup _ #[.bool false] (.cons _ _ _ _ (.bool _) .nil)⟩
      simp only [h3, Instr.next, Sem.run_bind, run_getObj_it h1, run_getObj_any k1, Result.andThen_ok, hno, Bool.false_eq_true, if_false]
      rw [this]
      simp [Question.forced]
    | some e =>
      obtain ⟨f, hf, f1, f2, f3⟩ := hcand.2 e hc
      refine ⟨_, _, ?_, iter_put (se' := seen ++ [e.2.2]) (la' := clock) hS hst hD hg, .tup _ #[.bool true, f.key, f.val] (.cons _ _ _ _ (.bool _) (.cons _ _ _ _ f1 (.cons _ _ _ _ f2 .nil)))⟩
      simp only [h3, Instr.next, Sem.run_bind, run_getObj_it h1, run_getObj_any k1, Result.andThen_ok, hno, Bool.false_eq_true, if_false]
      rw [hf]
      simp [Question.forced, run_setObj_any _ h1, f3]
theorem range_new (hS : Sat n0 w0 D s H w) (hn : n0 ≤ w0.heap.size) (hf : ¬ D H.next) (hst : H.stale = []) {m : Option Nat} (hm : ∀ m', m = some m' → D m') (si la : Nat) :
    Step n0 w0 D s H w (upd s H.next ⟨w.heap.size, 0, 1, 1⟩) (H.new (.iter m si [] la)) (w.alloc (.mapIter (m.map fun m => (s m).b) si #[] la)) := by
  rw [new_eq]
  refine step_new hS hn hf (Plus.alloc w _) rfl (fun _ _ _ _ he => by cases he) (fun _ _ _ he => by cases he) (fun _ _ _ _ he => ?_) (by rw [hst]; simp) H.stale (fun x h => .inl h) (fun x h => h) (by rw [hst]; simp)
  cases he
  exact ⟨rfl, hm, rfl⟩
theorem range_ok (hT : TabOk T P) (hS : Sat n0 w0 D s H w) (hn : n0 ≤ w0.heap.size) (hf : ¬ D H.next) (hst : H.stale = []) {t k e : TypeId} {v : V} {x : Value} (hd : descOf T t = some (.map k e)) (hx : Rv D s v x) {m : Option Nat} {si la : Nat}
    (h : (v = .nilm ∧ m = none ∧ si = 0 ∧ la = 0) ∨ ∃ b ro es c, v = .mp b ∧ H.get b = some (.map ro es c) ∧ m = some b ∧ si = c ∧ la = c) :
    ∃ x' s' w', (Instr.range t x).run P w = .ok x' w' ∧ Step n0 w0 D s H w s' (H.new (.iter m si [] la)) w' ∧ Rv (Dn D H.next (H.next + 1)) s' (.ptr H.next 0) x' := by
  have hu := und_map hT hd
  have hp : Rv (Dn D H.next (H.next + 1)) (upd s H.next ⟨w.heap.size, 0, 1, 1⟩) (.ptr H.next 0) (.pointer (some ⟨w.heap.size, 0, none⟩)) := by
    have := Rv.ptr (D := Dn D H.next (H.next + 1)) (s := upd s H.next ⟨w.heap.size, 0, 1, 1⟩) H.next 0 (dn_self D H.next)
    rwa [upd_self] at this
  rcases h with ⟨rfl, rfl, rfl, rfl⟩ | ⟨b, ro, es, c, rfl, hg, rfl, rfl, rfl⟩
  · cases hx
    refine ⟨_, _, _, ?_, range_new hS hn hf hst (fun _ he => by cases he) 0 0, hp⟩
    simp [Instr.range, run_underlying hu]
  · cases hx with
    | mp b hD =>
      obtain ⟨ents, h1, _⟩ := hS.map b _ _ _ hD hg
      refine ⟨_, _, _, ?_, range_new hS hn hf hst (fun _ he => by cases he; exact hD) _ _, hp⟩
      simp [Instr.range, run_underlying hu, run_getObj_any h1]
end
end Go.AM
