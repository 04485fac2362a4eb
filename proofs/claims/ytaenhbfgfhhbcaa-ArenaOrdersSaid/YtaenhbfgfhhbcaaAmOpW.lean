/- The operations that write. -/
import Derived.Test.YtaenhbfgfhhbcaaAmOpE
set_option linter.unusedVariables false
set_option linter.unusedSimpArgs false
namespace Go.AM
open Go Go.RowKit
section
variable {T : Tab} {P : Program} {D : Nat → Prop} {s : Sg} {n0 : Nat} {w0 w w' : World} {H : Hp}

/-- The operation writes, and hands a value on, or none. -/
def SW (P : Program) (n0 : Nat) (w0 : World) (D : Nat → Prop) (s : Sg) (H : Hp) (w : World) (r : Result Next) (H' : Hp) : Option V → Prop
  | some v => SV P n0 w0 D s H w r H' v
  | none => ∃ s' w', r = .ok .skip w' ∧ Step n0 w0 D s H w s' H' w'

/-- Cells of an own row written over. -/
theorem row_put (hS : Sat n0 w0 D s H w) (hst : H.stale = []) {b off : Nat} {e : TypeId} {sz : Nat} {cs ns : List V} {ys : List Value} (hD : D b) (hg : H.get b = some (.row e sz false cs)) (hr : RvL D s ns ys) (ho : ns.all oneV = true) (hl : off + ns.length ≤ cs.length) :
    ∃ w', (storeCells ⟨(s b).b, (s b).base + off, none⟩ ys).run P w = .ok () w' ∧ Step n0 w0 D s H w s (H.put b (.row e sz false (setCells cs off ns))) w' := by
  have hrow := hS.row b e sz false cs hD hg
  rw [hst, List.contains_nil, Bool.or_false] at hrow
  obtain ⟨⟨C, et, fz, g1, g2, g3, g4⟩, g5, g6, g7, g8⟩ := hrow
  have hyl := hr.length
  have hone := ones_of hr ho
  have hob : Ow H b := by unfold Ow; rw [hg, hst]; simp
  have hfit : (s b).base + off + ys.length ≤ C.toList.length := by have : C.toList.length = C.size := Array.length_toList; omega
  have hrun := run_storeCells P ys w (s b).b ((s b).base + off) 0 C et fz g1 (by omega) (fun j h1 h2 => g4 rfl j (by omega) (by omega)) hone
  rw [Nat.add_zero] at hrun
  have hheap := setRow_heap w (s b).b C (setL C.toList ((s b).base + off) ys).toArray et fz g1
  refine ⟨_, hrun, step_put hS hst hD hob (But.setRow w (s b).b _) ?_ (fun e' sz' ro cs' he => ?_) (fun _ _ _ he => by cases he) (fun _ _ _ _ he => by cases he)⟩
  · constructor
    · unfold Al; rw [Hp.get_put, if_pos rfl]; show b ∉ H.stale; rw [hst]; simp
    · unfold Ow; rw [Hp.get_put, if_pos rfl]; refine ⟨rfl, ?_⟩; show b ∉ H.stale; rw [hst]; simp
  · cases he
    rw [setCells_eq]
    refine ⟨⟨_, et, fz, hheap, by rw [size_setL]; exact g2, fun i v hv => ?_, g4⟩, g5, by rw [setL_length]; exact g6, all_setL _ _ _ _ g7 ho, g8⟩
    rw [setL_get _ _ _ _ hl] at hv
    rw [← Array.getElem?_toList, List.toList_toArray, setL_get _ _ _ _ hfit]
    by_cases hi : off ≤ i ∧ i < off + ns.length
    · rw [if_pos hi] at hv
      obtain ⟨x, hx, hrv⟩ := hr.get _ v hv
      exact ⟨x, by rw [if_pos (by omega), show (s b).base + i - ((s b).base + off) = i - off from by omega]; exact hx, hrv⟩
    · rw [if_neg hi] at hv
      obtain ⟨x, hx, hrv⟩ := g3 i v hv
      exact ⟨x, by rw [if_neg (by omega), Array.getElem?_toList]; exact hx, hrv⟩
theorem store_ok (hT : TabOk T P) (hS : Sat n0 w0 D s H w) (hst : H.stale = []) {t : TypeId} {i : TI} {b off : Nat} {e : TypeId} {sz : Nat} {cs : List V} {v : V} {x y : Value} (hx : Rv D s (.ptr b off) x) (hy : Rv D s v y) (hi : T.ty t = some i) (hg : H.get b = some (.row e sz false cs)) (ho : (cellsV v).all oneV = true) (hl : (cellsV v).length = i.size) (hb : off + i.size ≤ cs.length) :
    ∃ w', (Instr.storeAt t x y).run P w = .ok () w' ∧ Step n0 w0 D s H w s (H.put b (.row e sz false (setCells cs off (cellsV v)))) w' := by
  cases hx with
  | ptr b off hD =>
    obtain ⟨w', h1, h2⟩ := row_put (P := P) (off := off) hS hst hD hg hy.cells ho (by omega)
    refine ⟨w', ?_, h2⟩
    have hsz : y.cells.size = i.size := by have := hy.cells.length; simp only [Array.length_toList] at this; omega
    simp [Instr.storeAt, Instr.sureAddr, storeVar, size_of hT hi, hsz, h1]
theorem EsOk.set : ∀ {es : List (V × V × Nat)} {fs : List MapEntry} (i : Nat) {k v : V} {n : Nat} {x y : Value}, EsOk D s es fs → Rv D s k x → Rv D s v y → (∀ f, fs[i]? = some f → f.born = n) → EsOk D s (es.set i (k, v, n)) (fs.modify i fun f => { f with key := x, val := y })
  | _, _, i, _, _, _, _, _, .nil, _, _, _ => by simpa using EsOk.nil
  | _, _, 0, _, _, n, _, _, .cons k v n' x y es fs h1 h2 h3, hk, hv, hn => by
    have := hn { key := x, val := y, born := n' } (by simp)
    simp at this
    subst this
    exact .cons _ _ _ _ _ _ _ hk hv h3
  | _, _, i + 1, _, _, _, _, _, .cons k v n' x y es fs h1 h2 h3, hk, hv, hn => .cons _ _ _ _ _ _ _ h1 h2 (EsOk.set i h3 hk hv fun f hf => hn f (by simpa using hf))
theorem EsOk.born : ∀ {es : List (V × V × Nat)} {fs : List MapEntry}, EsOk D s es fs → ∀ (i : Nat) e f, es[i]? = some e → fs[i]? = some f → f.born = e.2.2
  | _, _, .nil, i, e, f, h, _ => by simp at h
  | _, _, .cons k v n x y es fs h1 h2 h3, 0, e, f, h, h' => by simp at h h'; subst h; subst h'; rfl
  | _, _, .cons k v n x y es fs h1 h2 h3, i + 1, e, f, h, h' => EsOk.born h3 i e f (by simpa using h) (by simpa using h')
theorem EsOk.push : ∀ {es : List (V × V × Nat)} {fs : List MapEntry} {k v : V} {n : Nat} {x y : Value}, EsOk D s es fs → Rv D s k x → Rv D s v y → EsOk D s (es ++ [(k, v, n)]) (fs ++ [{ key := x, val := y, born := n }])
  | _, _, _, _, _, _, _, .nil, hk, hv => .cons _ _ _ _ _ _ _ hk hv .nil
  | _, _, _, _, _, _, _, .cons _ _ _ _ _ _ _ h1 h2 h3, hk, hv => .cons _ _ _ _ _ _ _ h1 h2 (EsOk.push h3 hk hv)
theorem EsOk.erase : ∀ {es : List (V × V × Nat)} {fs : List MapEntry} (i : Nat), EsOk D s es fs → EsOk D s (es.eraseIdx i) (fs.eraseIdx i)
  | _, _, _, .nil => by simpa using EsOk.nil
  | _, _, 0, .cons _ _ _ _ _ _ _ h1 h2 h3 => by simpa using h3
  | _, _, i + 1, .cons _ _ _ _ _ _ _ h1 h2 h3 => by simpa using EsOk.cons _ _ _ _ _ _ _ h1 h2 (EsOk.erase i h3)
theorem findE_lt (k : V) : ∀ (es : List (V × V × Nat)) (n j : Nat) (v : V), findE k es n = some (some (j, v)) → n ≤ j ∧ j < n + es.length
  | [], n, j, v, h => by simp [findE] at h
  | e :: es, n, j, v, h => by
    simp only [findE] at h
    split at h
    · simp at h; obtain ⟨rfl, _⟩ := h; simp
    · have := findE_lt k es (n + 1) j v h; simp; omega
    · cases h
/-- A map written. -/
theorem map_put (hS : Sat n0 w0 D s H w) (hst : H.stale = []) {b : Nat} {es es' : List (V × V × Nat)} {c c' : Nat} (hD : D b) (hg : H.get b = some (.map false es c)) {ents' : Array MapEntry} (he : EsOk D s es' ents'.toList) :
    Step n0 w0 D s H w s (H.put b (.map false es' c')) { w with heap := w.heap.setIfInBounds (s b).b (.map ents' c') } := by
  have hob : Ow H b := by unfold Ow; rw [hg]
  obtain ⟨ents, h1, h2, h3⟩ := hS.map b _ _ _ hD hg
  have hlt := lt_of_heap h1
  refine step_put hS hst hD hob ⟨rfl, rfl, rfl, by simp, fun k hk => by simp [Array.getElem?_setIfInBounds, Ne.symm hk]⟩ ?_ (fun _ _ _ _ he => by cases he) (fun ro es'' c'' heq => ?_) (fun _ _ _ _ he => by cases he)
  · constructor
    · unfold Al; rw [Hp.get_put, if_pos rfl]; trivial
    · unfold Ow; rw [Hp.get_put, if_pos rfl]
  · cases heq
    exact ⟨ents', by simp [hlt], he⟩
theorem same_bits1 {k k' : V} {x x' : Value} (n : Nat) (hx : Rv D s k x) (hx' : Rv D s k' x') (h : same1 k k' = some true) : Instr.sameBits n x x' = true := by
  unfold same1 at h
  split at h
  · split at h
    · rename_i e; subst e; cases hx; cases hx'; simp at h; subst h; unfold Instr.sameBits; simp
    · cases h
  · cases hx; cases hx'; simp at h; subst h; unfold Instr.sameBits; simp [beq_toListBytes]
  · cases hx; cases hx'; simp at h; subst h; unfold Instr.sameBits; simp
  · cases h
end
end Go.AM
