/- The operations that write (2): maps. -/
import Derived.Test.YtaenhbfgfhhbcaaAmOpW
import Derived.MapKept
set_option linter.unusedVariables false
set_option linter.unusedSimpArgs false
namespace Go.AM
open Go Go.RowKit
section
variable {T : Tab} {P : Program} {D : Nat → Prop} {s : Sg} {n0 : Nat} {w0 w w' : World} {H : Hp}

theorem findE_same (k : V) : ∀ (es : List (V × V × Nat)) (n j : Nat) (v : V), findE k es n = some (some (j, v)) → ∃ e, es[j - n]? = some e ∧ n ≤ j ∧ sameK k e.1 = some true
  | [], n, j, v, h => by simp [findE] at h
  | e :: es, n, j, v, h => by
    simp only [findE] at h
    split at h
    · rename_i hs
      simp at h; obtain ⟨rfl, _⟩ := h
      exact ⟨e, by simp, Nat.le_refl _, hs⟩
    · obtain ⟨e', h1, h2, h3⟩ := findE_same k es (n + 1) j v h
      refine ⟨e', ?_, by omega, h3⟩
      obtain ⟨d, rfl⟩ : ∃ d, j = n + 1 + d := ⟨j - (n + 1), by omega⟩
      rw [show n + 1 + d - n = d + 1 from by omega]
      rw [show n + 1 + d - (n + 1) = d from by omega] at h1
      simpa using h1
    · cases h
theorem EsOk.get : ∀ {es : List (V × V × Nat)} {fs : List MapEntry}, EsOk D s es fs → ∀ (i : Nat) e, es[i]? = some e → ∃ f, fs[i]? = some f ∧ Rv D s e.1 f.key ∧ Rv D s e.2.1 f.val ∧ f.born = e.2.2
  | _, _, .nil, i, e, h => by simp at h
  | _, _, .cons k v n x y es fs h1 h2 h3, 0, e, h => by simp at h; subst h; exact ⟨_, rfl, h1, h2, rfl⟩
  | _, _, .cons k v n x y es fs h1 h2 h3, i + 1, e, h => by
    obtain ⟨f, hf⟩ := EsOk.get h3 i e (by simpa using h)
    exact ⟨f, by simpa using hf⟩
theorem sameBits_sym1 {k k' : V} {x x' : Value} (n : Nat) (hx : Rv D s k x) (hx' : Rv D s k' x') (h : same1 k k' = some true) : Instr.sameBits n x' x = true := by
  unfold same1 at h
  split at h
  · split at h
    · rename_i e; subst e; cases hx; cases hx'; simp at h; subst h; unfold Instr.sameBits; simp
    · cases h
  · cases hx; cases hx'; simp at h; subst h; unfold Instr.sameBits; simp [beq_toListBytes]
  · cases hx; cases hx'; simp at h; subst h; unfold Instr.sameBits; simp
  · cases h
theorem sameBits_symL (n : Nat) : ∀ {cs cs' : List V} {xs xs' : List Value}, RvL D s cs xs → RvL D s cs' xs' → sameL same1 cs cs' = some true → xs'.length = xs.length ∧ (xs'.zip xs).all (fun p => Instr.sameBits n p.1 p.2) = true
  | _, _, _, _, .nil, .nil, _ => ⟨rfl, rfl⟩
  | _, _, _, _, .nil, .cons .., h => by simp [sameL] at h
  | _, _, _, _, .cons .., .nil, h => by simp [sameL] at h
  | _, _, _, _, .cons v x vs xs h1 h2, .cons v' x' vs' xs' h3 h4, h => by
    simp only [sameL] at h
    split at h
    · rename_i p q e1 e2
      simp at h
      obtain ⟨rfl, rfl⟩ := h
      obtain ⟨g1, g2⟩ := sameBits_symL n h2 h4 e2
      refine ⟨by simp [g1], ?_⟩
      simp only [List.zip_cons_cons, List.all_cons, sameBits_sym1 n h1 h3 e1, Bool.true_and]
      exact g2
    · cases h
theorem sameBits_K (n : Nat) {t : TypeId} {k k' : V} {x x' : Value} (hk : keyOk T t k = true) (hx : Rv D s k x) (hx' : Rv D s k' x') (h : sameK k k' = some true) : Instr.sameBits (n + 1) x' x = true := by
  by_cases ha : ∃ cs, k = .agg cs
  · obtain ⟨cs, rfl⟩ := ha
    cases k' <;> simp [sameK, same1] at h
    cases hx with
    | agg _ xs h1 _ =>
      cases hx' with
      | agg _ xs' h2 _ =>
        obtain ⟨g1, g2⟩ := sameBits_symL n h1 h2 h
        unfold Instr.sameBits
        simp only [Array.length_toList] at g1
        simp only [g1, beq_self_eq_true, Bool.true_and]
        exact g2
  · refine sameBits_sym1 (n + 1) hx hx' ?_
    cases k <;> first | exact h | exact absurd ⟨_, rfl⟩ ha
theorem mapUpdate_ok (hT : TabOk T P) (hS : Sat n0 w0 D s H w) (hst : H.stale = []) {t kt et : TypeId} {b c : Nat} {k v : V} {m x y : Value} {es : List (V × V × Nat)} {r : Option (Nat × V)} (hd : descOf T t = some (.map kt et)) (hk : keyOk T kt k = true)
    (hm : Rv D s (.mp b) m) (hx : Rv D s k x) (hy : Rv D s v y) (hg : H.get b = some (.map false es c)) (hf : findE k es 0 = some r) :
    ∃ w', (Instr.mapUpdate t m x y).run P w = .ok () w' ∧ Step n0 w0 D s H w s (match r with | some (i, _) => H.put b (.map false (modE es i k v) c) | none => H.put b (.map false (es ++ [(k, v, c)]) (c + 1))) w' := by
  have hu := und_map hT hd
  have hck : (Instr.checkKey false 10000 kt x).run P w = .ok () w := keyOk_check hT hk hx false 9998
  cases hm with
  | mp b hD =>
    obtain ⟨ents, h1, h2, _⟩ := hS.map b _ _ _ hD hg
    have hfk := findKey_ok (w := w) hT hk hx h2 hf
    cases r with
    | none =>
      refine ⟨_, ?_, map_put hS hst hD hg (ents' := ents.push { key := x, val := y, born := c }) (by simpa using EsOk.push h2 hx hy)⟩
      simp [Instr.mapUpdate, run_underlying hu, MapKept.run_getObj_map h1, hck, hfk, MapKept.run_setObj_map _ h1]
    | some p =>
      obtain ⟨i, v'⟩ := p
      obtain ⟨z, hz, _⟩ := hfk
      obtain ⟨e, he, _, hse⟩ := findE_same k es 0 i v' hf
      rw [Nat.sub_zero] at he
      obtain ⟨f, hf1, hf2, hf3, hf4⟩ := h2.get i e he
      have hfe : ents[i]? = some f := by rw [← Array.getElem?_toList]; exact hf1
      have hsb : Instr.sameBits 10000 f.key x = true := sameBits_K 9999 hk hx hf2 hse
      have hes : modE es i k v = es.set i (k, v, e.2.2) := by simp [modE, he]
      simp only
      rw [hes]
      refine ⟨_, ?_, map_put hS hst hD hg (ents' := ents.modify i fun f => { f with key := x, val := y }) ?_⟩
      · simp [Instr.mapUpdate, run_underlying hu, MapKept.run_getObj_map h1, hck, hz, hfe, Instr.keyThatStays, hsb, MapKept.run_setObj_map _ h1]
      · rw [Array.toList_modify]
        exact EsOk.set i h2 hx hy (fun f' hf' => by rw [hf1] at hf'; cases hf'; exact hf4)
theorem set_same (w : World) {r : Nat} {o : Obj} (h : w.heap[r]? = some o) : ({ w with heap := w.heap.setIfInBounds r o } : World) = w := by
  have : w.heap.setIfInBounds r o = w.heap := by
    apply Array.ext
    · simp
    · intro i h1 h2
      rw [Array.getElem_setIfInBounds]
      split
      · rename_i e; subst e
        rw [Array.getElem?_eq_getElem h2] at h
        exact (Option.some.inj h).symm
      · rfl
  rw [this]
theorem toList_erase {α : Type} (a : Array α) (i : Nat) : (a.eraseIdxIfInBounds i).toList = a.toList.eraseIdx i := by
  unfold Array.eraseIdxIfInBounds
  split
  · simp
  · rw [List.eraseIdx_of_length_le (by simpa using Nat.le_of_not_lt (by assumption))]
theorem delete_ok (hT : TabOk T P) (hS : Sat n0 w0 D s H w) (hst : H.stale = []) {t kt et ty : TypeId} {tys : Array TypeId} {b c : Nat} {k : V} {m x : Value} {es : List (V × V × Nat)} {r : Option (Nat × V)} (ht : tys[0]? = some t) (hd : descOf T t = some (.map kt et)) (hk : keyOk T kt k = true)
    (hm : Rv D s (.mp b) m) (hx : Rv D s k x) (hg : H.get b = some (.map false es c)) (hf : findE k es 0 = some r) :
    ∃ w', (Builtin.delete_ tys ty #[m, x]).run P w = .ok (.tuple #[]) w' ∧ Step n0 w0 D s H w s (match r with | some (i, _) => H.put b (.map false (es.eraseIdx i) c) | none => H) w' := by
  have hu := und_map hT hd
  have hck : ∀ b : Bool, (Instr.checkKey b 10000 kt x).run P w = .ok () w := fun b => keyOk_check hT hk hx b 9998
  cases hm with
  | mp b hD =>
    obtain ⟨ents, h1, h2, _⟩ := hS.map b _ _ _ hD hg
    have hfk := findKey_ok (w := w) hT hk hx h2 hf
    cases r with
    | none =>
      refine ⟨w, ?_, Step.refl hS⟩
      have := set_same w h1
      simp [Builtin.delete_, ht, run_underlying hu, MapKept.run_getObj_map h1, hck, hfk, MapKept.run_setObj_map _ h1, this]
    | some p =>
      obtain ⟨i, v'⟩ := p
      obtain ⟨z, hz, _⟩ := hfk
      refine ⟨_, ?_, map_put hS hst hD hg (ents' := ents.eraseIdxIfInBounds i) (by rw [toList_erase]; exact EsOk.erase i h2)⟩
      simp [Builtin.delete_, ht, run_underlying hu, MapKept.run_getObj_map h1, hck, hz, MapKept.run_setObj_map _ h1]
end
end Go.AM
