/- Stores into rows; new blocks: the worlds they leave. -/
import Derived.Test.YtaenhbfgfhhbcaaAmOpR
import Derived.Laws.Append
set_option linter.unusedVariables false
set_option linter.unusedSimpArgs false
namespace Go.AM
open Go Go.RowKit
section
variable {T : Tab} {P : Program} {D : Nat → Prop} {s : Sg} {n0 : Nat} {w0 w : World} {H : Hp}

theorem run_store1 {g off : Nat} {C : Array Value} {et : TypeId} {fz : Nat × Nat} (hg : w.heap[g]? = some (.cells C et fz)) (hlt : off < C.size) (hf : ¬ (fz.1 ≤ off ∧ off < fz.2)) {v : Value} (hv : v.oneCell' = true) :
    (store ⟨g, off, none⟩ v .plain).run P w = .ok () (w.setRow g (C.setIfInBounds off v)) := by
  have hc : w.cell? ⟨g, off, none⟩ = some C[off] := by simp [World.cell?, hg, hlt]
  have hfr : w.frozen? ⟨g, off, none⟩ = false := by
    simp only [World.frozen?, hg]
    by_cases h1 : fz.1 ≤ off
    · have : ¬ off < fz.2 := fun h2 => hf ⟨h1, h2⟩
      simp [this]
    · simp [h1]
  rw [run_store P w _ v .plain hv]
  simp [hc, hfr]
  exact setCell_eq_setRow w g off C et fz v hg
theorem run_storeCells (P : Program) : ∀ (xs : List Value) (w : World) (g base i : Nat) (C : Array Value) (et : TypeId) (fz : Nat × Nat), w.heap[g]? = some (.cells C et fz) → base + i + xs.length ≤ C.size →
    (∀ j, base + i ≤ j → j < base + i + xs.length → ¬ (fz.1 ≤ j ∧ j < fz.2)) → (∀ x ∈ xs, Value.oneCell' x = true) →
    (storeCells ⟨g, base, none⟩ xs i).run P w = .ok () (w.setRow g (setL C.toList (base + i) xs).toArray)
  | [], w, g, base, i, C, et, fz, hg, _, _, _ => by
    simp only [storeCells, setL]
    rw [show C.toList.toArray = C from by simp, setRow_self w g C et fz hg]
    rfl
  | x :: xs, w, g, base, i, C, et, fz, hg, hl, hf, h1 => by
    simp only [List.length_cons] at hl hf
    have hs := run_store1 (P := P) (off := base + i) hg (by omega) (hf (base + i) (by omega) (by omega)) (h1 x (by simp))
    have hadd : (Addr.mk g base none).add i = ⟨g, base + i, none⟩ := by
      have := add_off g base 0 i
      simpa using this
    have hg' := setRow_heap w g C (C.setIfInBounds (base + i) x) et fz hg
    have ih := run_storeCells P xs (w.setRow g (C.setIfInBounds (base + i) x)) g base (i + 1) (C.setIfInBounds (base + i) x) et fz hg' (by simp; omega) (fun j h2 h3 => hf j (by omega) (by omega)) (fun y hy => h1 y (by simp [hy]))
    simp only [storeCells, Sem.run_bind, hadd, hs, Result.andThen_ok, ih, setRow_setRow, setL, Array.toList_setIfInBounds]
    rfl
theorem size_setL {α : Type} (C : Array α) (off : Nat) (l : List α) : (setL C.toList off l).toArray.size = C.size := by simp [setL_length]
theorem setL_get {α : Type} : ∀ (l cs : List α) (off i : Nat), off + l.length ≤ cs.length → (setL cs off l)[i]? = if off ≤ i ∧ i < off + l.length then l[i - off]? else cs[i]?
  | [], cs, off, i, _ => by simp [setL]; intro h1 h2; omega
  | v :: r, cs, off, i, h => by
    simp only [List.length_cons] at h
    rw [setL, setL_get r _ _ _ (by simp; omega)]
    by_cases h1 : off + 1 ≤ i ∧ i < off + 1 + r.length
    · rw [if_pos h1, if_pos (by simp only [List.length_cons]; omega)]
      obtain ⟨k, rfl⟩ : ∃ k, i = off + 1 + k := ⟨i - (off + 1), by omega⟩
      rw [show off + 1 + k - (off + 1) = k from by omega, show off + 1 + k - off = k + 1 from by omega]
      simp
    · rw [if_neg h1]
      by_cases h2 : i = off
      · subst h2
        rw [if_pos (by simp only [List.length_cons]; omega), List.getElem?_set_self (by omega), Nat.sub_self]
        rfl
      · rw [if_neg (by simp only [List.length_cons]; omega), List.getElem?_set_ne (by omega)]
/-- The world where a row of block g has been written. -/
theorem below_row {B g : Nat} {w0 w : World} (hb : Below B w0 w) (hBg : B ≤ g) (cs : Array Value) : Below B w0 (w.setRow g cs) :=
  hb.trans ⟨rfl, rfl, rfl, by simp, fun k hk => setRow_other w g k cs (by omega)⟩

/-- The heap with one block more. -/
def upd (s : Sg) (b : Nat) (L : Loc) : Sg := fun c => if c = b then L else s c
theorem upd_ne (s : Sg) {b c : Nat} (L : Loc) (h : c ≠ b) : upd s b L c = s c := by simp [upd, h]
theorem upd_self (s : Sg) (b : Nat) (L : Loc) : upd s b L b = L := by simp [upd]
/-- A world that is w and one block more (and some draws). -/
structure Plus (w w' : World) (o : Obj) : Prop where
  os : w'.os = w.os
  tape : w'.tape = w.tape
  output : w'.output = w.output
  size : w'.heap.size = w.heap.size + 1
  new : w'.heap[w.heap.size]? = some o
  old : ∀ k, k < w.heap.size → w'.heap[k]? = w.heap[k]?
theorem Plus.alloc (w : World) (o : Obj) : Plus w (w.alloc o) o := ⟨rfl, rfl, rfl, by simp, Go.heap_alloc_new w o, fun k hk => Go.heap_alloc_old w o hk⟩
theorem Plus.drew (w : World) (o : Obj) : Plus w (w.drew.alloc o) o := ⟨rfl, rfl, rfl, by simp, Go.heap_alloc_new w.drew o, fun k hk => Go.heap_alloc_old w.drew o hk⟩
theorem Plus.below {w w' : World} {o : Obj} (h : Plus w w' o) {B : Nat} {w0 : World} (hb : Below B w0 w) (hB : B ≤ w0.heap.size) : Below B w0 w' :=
  hb.trans ⟨h.os, h.tape, h.output, by rw [h.size]; omega, fun k hk => h.old k (Nat.lt_of_lt_of_le hk (Nat.le_trans hB hb.size))⟩
section
variable {w' : World} {o : Obj} {L : Loc} {ob : Ob}
/-- THE HEAP AND THE WORLD, EACH WITH ONE BLOCK MORE. 'stl': the rows that are gone on from. -/
theorem step_new (hS : Sat n0 w0 D s H w) (hn : n0 ≤ w0.heap.size) (hf : ¬ D H.next) (hp : Plus w w' o) (hL : L.b = w.heap.size)
    (hrow : ∀ e sz ro cs, ob = .row e sz ro cs → RowAt (Dn D H.next (H.next + 1)) (upd s H.next L) n0 w' L sz ro cs ∧ ro = false)
    (hmap : ∀ ro es c, ob = .map ro es c → ∃ ents, o = .map ents c ∧ EsOk (Dn D H.next (H.next + 1)) (upd s H.next L) es ents.toList ∧ ro = false)
    (hit : ∀ m si se la, ob = .iter m si se la → o = .mapIter (m.map fun m => (s m).b) si se.toArray la ∧ (∀ m', m = some m' → D m') ∧ L.base = 0)
    (hst : H.next ∉ H.stale)
    (stl : List Nat) (hstl : ∀ x, x ∈ stl → x ∈ H.stale ∨ D x ∧ Ow H x) (hsub : ∀ x, x ∈ H.stale → x ∈ stl) (hstn : H.next ∉ stl) :
    Step n0 w0 D s H w (upd s H.next L) { H.new ob with stale := stl } w' := by
  have hs : ∀ b, D b → upd s H.next L b = s b := fun b hb => upd_ne _ _ (fun e => hf (e ▸ hb))
  have hD : ∀ b, D b → Dn D H.next (H.next + 1) b := fun b hb => .inl hb
  have hget : ∀ b, ({ H.new ob with stale := stl } : Hp).get b = if b = H.next then some ob else H.get b := fun b => Hp.get_new H b ob
  have hbn : n0 ≤ w.heap.size := Nat.le_trans hn hS.below.size
  have hne : ∀ b, D b → b ≠ H.next := fun b hb e => hf (e ▸ hb)
  have how : ∀ b, D b → Ow ({ H.new ob with stale := stl } : Hp) b → Ow H b := fun b hb ho => by
    unfold Ow at ho ⊢
    rw [hget, if_neg (hne b hb)] at ho
    split at ho
    · exact ⟨ho.1, fun h => ho.2 (hsub b h)⟩
    · exact ho
    · trivial
    · cases ho
  have hal : ∀ b, D b → Al ({ H.new ob with stale := stl } : Hp) b → Al H b := fun b hb ho => by
    unfold Al at ho ⊢
    rw [hget, if_neg (hne b hb)] at ho
    split at ho
    · exact fun h => ho (hsub b h)
    · trivial
    · trivial
    · cases ho
  have hlive : ∀ b, D b → (∃ o', H.get b = some o' ∧ (match o' with | .dead => False | _ => True)) → (s b).b < w.heap.size := fun b hb ⟨o', e, h⟩ => by
    cases o' with
    | row e' sz ro cs => exact (hS.row b _ _ _ _ hb e).lt
    | map ro es c => obtain ⟨_, h1, _⟩ := hS.map b _ _ _ hb e; exact lt_of_heap h1
    | iter m si se la => exact lt_of_heap (hS.iter b _ _ _ _ hb e).1
    | dead => cases h
  refine ⟨⟨hp.below hS.below hn, ?_, ?_, ?_, ?_, ?_⟩, hs, Nat.le_succ _, by rw [hp.size]; omega, fun k hk _ => hp.old k hk, fun b h1 h2 => ?_, how⟩
  · intro b e sz ro cs hb hg
    rw [hget] at hg
    rcases hb with hb | hb
    · rw [if_neg (hne b hb)] at hg
      have h := hS.row b e sz ro cs hb hg
      rw [hs b hb]
      have h2 := h.keep hD hs (w' := w') (hp.old _ h.lt)
      by_cases hst' : H.stale.contains b = true
      · rw [hst'] at h2
        have : (stl.contains b) = true := by
          rw [List.contains_iff_mem] at hst' ⊢
          exact hsub b hst'
        rw [this]; exact h2
      · simp only [Bool.not_eq_true] at hst'
        rw [hst', Bool.or_false] at h2
        cases hsb : stl.contains b with
        | false => rw [Bool.or_false]; exact h2
        | true =>
          rw [Bool.or_true]
          obtain ⟨⟨C, et, fz, g1, g2, g3, g4⟩, g5, g6, g7, g8⟩ := h2
          exact ⟨⟨C, et, fz, g1, g2, g3, fun h => by cases h⟩, g5, g6, g7, fun h => by cases h⟩
    · have : b = H.next := by have h1 := hb.1; have h2 := hb.2; show b = H.next; have : b < H.next + 1 := h2; omega
      subst this
      rw [if_pos rfl] at hg
      cases hg
      obtain ⟨h, rfl⟩ := hrow e sz ro cs rfl
      rw [upd_self]
      have : stl.contains H.next = false := by
        cases hc : stl.contains H.next with
        | false => rfl
        | true => exact absurd (List.contains_iff_mem.1 hc) hstn
      rw [this]
      exact h
  · intro b ro es c hb hg
    rw [hget] at hg
    rcases hb with hb | hb
    · rw [if_neg (hne b hb)] at hg
      obtain ⟨ents, h1, h2, h3⟩ := hS.map b ro es c hb hg
      rw [hs b hb]
      exact ⟨ents, by rw [hp.old _ (lt_of_heap h1)]; exact h1, h2.mono hD hs, h3⟩
    · have : b = H.next := by have h1 := hb.1; have h2 : b < H.next + 1 := hb.2; omega
      subst this
      rw [if_pos rfl] at hg
      cases hg
      obtain ⟨ents, rfl, h2, rfl⟩ := hmap ro es c rfl
      rw [upd_self, hL]
      exact ⟨ents, hp.new, h2, fun _ => hbn⟩
  · intro b m si se la hb hg
    rw [hget] at hg
    rcases hb with hb | hb
    · rw [if_neg (hne b hb)] at hg
      obtain ⟨h1, h2, h3, h4⟩ := hS.iter b m si se la hb hg
      rw [hs b hb]
      refine ⟨?_, fun m' hm => .inl (h2 m' hm), h3, h4⟩
      rw [hp.old _ (lt_of_heap h1), h1]
      cases m with
      | none => rfl
      | some m => simp only [Option.map_some]; rw [hs m (h2 m rfl)]
    · have : b = H.next := by have h1 := hb.1; have h2 : b < H.next + 1 := hb.2; omega
      subst this
      rw [if_pos rfl] at hg
      cases hg
      obtain ⟨rfl, h2, h3⟩ := hit m si se la rfl
      rw [upd_self, hL]
      refine ⟨?_, fun m' hm => .inl (h2 m' hm), h3, hbn⟩
      rw [hp.new]
      cases m with
      | none => rfl
      | some m => simp only [Option.map_some]; rw [hs m (h2 m rfl)]
  · intro b b' hb hb' hbb ho ha
    rcases hb with hb | hb
    · rcases hb' with hb' | hb'
      · rw [hs b hb, hs b' hb']
        exact hS.sep b b' hb hb' hbb (how b hb ho) (hal b' hb' ha)
      · have : b' = H.next := by have h1 := hb'.1; have h2 : b' < H.next + 1 := hb'.2; omega
        subst this
        rw [hs b hb, upd_self, hL]
        exact Nat.ne_of_lt (hS.lt hb (how b hb ho).al)
    · have : b = H.next := by have h1 := hb.1; have h2 : b < H.next + 1 := hb.2; omega
      subst this
      rcases hb' with hb' | hb'
      · rw [hs b' hb', upd_self, hL]
        exact (Nat.ne_of_lt (hS.lt hb' (hal b' hb' ha))).symm
      · have : b' = H.next := by have h1 := hb'.1; have h2 : b' < H.next + 1 := hb'.2; omega
        exact absurd this.symm hbb
  · intro x e sz ro cs b e' sz' cs' hx hxs hgx hb ho hgb heq
    have hxn : x ≠ H.next := fun e => hstn (e ▸ hxs)
    have hDx : D x := by
      rcases hx with hx | hx
      · exact hx
      · have : x = H.next := by have h1 := hx.1; have h2 : x < H.next + 1 := hx.2; omega
        exact absurd this hxn
    rw [hget, if_neg hxn] at hgx
    rw [hs x hDx] at heq ⊢
    rcases hb with hb | hb
    · rw [hs b hb] at heq ⊢
      have hob := how b hb ho
      rw [hget, if_neg (hne b hb)] at hgb
      rcases hstl x hxs with h | ⟨_, h⟩
      · exact hS.old x e sz ro cs b e' sz' cs' hDx h hgx hb hob hgb heq
      · by_cases hbx : b = x
        · subst hbx
          unfold Ow at ho
          rw [hget, if_neg (hne b hb), hgb] at ho
          exact absurd hxs ho.2
        · exact absurd heq (hS.sep b x hb hDx hbx hob h.al)
    · have : b = H.next := by have h1 := hb.1; have h2 : b < H.next + 1 := hb.2; omega
      subst this
      rw [upd_self, hL] at heq
      have := (hS.row x e sz ro cs hDx hgx).lt
      omega
  · left
    have : b = H.next := by have h2' : b < H.next + 1 := h2; omega
    subst this
    rw [upd_self, hL]
    exact Nat.le_refl _
end
end
end Go.AM
