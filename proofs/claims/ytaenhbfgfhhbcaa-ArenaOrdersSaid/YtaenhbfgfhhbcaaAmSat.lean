/- What an abstract heap stands for in a world; a step from one to the next. -/
import Derived.Test.YtaenhbfgfhhbcaaAmOpV
set_option linter.unusedVariables false
set_option linter.unusedSimpArgs false
namespace Go.AM
open Go Go.RowKit

/-- Is a block alive: to be read, and written by others than itself never? -/
def Al (H : Hp) (b : Nat) : Prop := match H.get b with
  | some (.row _ _ _ _) => b ∉ H.stale
  | some (.map _ _ _) => True
  | some (.iter _ _ _ _) => True
  | _ => False
/-- Is it the run's own? -/
def Ow (H : Hp) (b : Nat) : Prop := match H.get b with
  | some (.row _ _ ro _) => ro = false ∧ b ∉ H.stale
  | some (.map ro _ _) => ro = false
  | some (.iter _ _ _ _) => True
  | _ => False
theorem Ow.al {H : Hp} {b : Nat} (h : Ow H b) : Al H b := by
  unfold Ow at h; unfold Al
  split at h <;> simp_all
structure RowAt (D : Nat → Prop) (s : Sg) (n0 : Nat) (w : World) (L : Loc) (sz : Nat) (ro : Bool) (cs : List V) : Prop where
  hp : ∃ (C : Array Value) (et : TypeId) (fz : Nat × Nat), w.heap[L.b]? = some (.cells C et fz) ∧ L.base + L.cap * sz ≤ C.size ∧
    (∀ i v, cs[i]? = some v → ∃ x, C[L.base + i]? = some x ∧ Rv D s v x) ∧ (ro = false → ∀ i, L.base ≤ i → i < L.base + L.cap * sz → ¬ (fz.1 ≤ i ∧ i < fz.2))
  size : L.sz = sz
  len : cs.length ≤ L.cap * sz
  one : cs.all oneV = true
  own : ro = false → n0 ≤ L.b
/-- A map's entries. -/
inductive EsOk (D : Nat → Prop) (s : Sg) : List (V × V × Nat) → List MapEntry → Prop
  | nil : EsOk D s [] []
  | cons (k v : V) (n : Nat) (x y : Value) (es : List (V × V × Nat)) (fs : List MapEntry) : Rv D s k x → Rv D s v y → EsOk D s es fs → EsOk D s ((k, v, n) :: es) ({ key := x, val := y, born := n } :: fs)
structure Sat (n0 : Nat) (w0 : World) (D : Nat → Prop) (s : Sg) (H : Hp) (w : World) : Prop where
  below : Below n0 w0 w
  row : ∀ b e sz ro cs, D b → H.get b = some (.row e sz ro cs) → RowAt D s n0 w (s b) sz (ro || H.stale.contains b) cs
  map : ∀ b ro es c, D b → H.get b = some (.map ro es c) → ∃ ents, w.heap[(s b).b]? = some (.map ents c) ∧ EsOk D s es ents.toList ∧ (ro = false → n0 ≤ (s b).b)
  iter : ∀ b m since seen last, D b → H.get b = some (.iter m since seen last) → w.heap[(s b).b]? = some (.mapIter (m.map fun m => (s m).b) since seen.toArray last) ∧ (∀ m', m = some m' → D m') ∧ (s b).base = 0 ∧ n0 ≤ (s b).b
  sep : ∀ b b', D b → D b' → b ≠ b' → Ow H b → Al H b' → (s b).b ≠ (s b').b
  old : ∀ x e sz ro cs b e' sz' cs', D x → x ∈ H.stale → H.get x = some (.row e sz ro cs) → D b → Ow H b → H.get b = some (.row e' sz' false cs') → (s b).b = (s x).b → (s x).base + cs.length ≤ (s b).base + cs'.length
def Dn (D : Nat → Prop) (n n' : Nat) : Nat → Prop := fun b => D b ∨ (n ≤ b ∧ b < n')
structure Step (n0 : Nat) (w0 : World) (D : Nat → Prop) (s : Sg) (H : Hp) (w : World) (s' : Sg) (H' : Hp) (w' : World) : Prop where
  sat : Sat n0 w0 (Dn D H.next H'.next) s' H' w'
  same : ∀ b, D b → s' b = s b
  next : H.next ≤ H'.next
  size : w.heap.size ≤ w'.heap.size
  frame : ∀ k, k < w.heap.size → (∀ b, D b → Ow H b → (s b).b ≠ k) → w'.heap[k]? = w.heap[k]?
  new : ∀ b, H.next ≤ b → b < H'.next → w.heap.size ≤ (s' b).b ∨ ∃ c, D c ∧ Ow H c ∧ (s c).b = (s' b).b
  ow : ∀ b, D b → Ow H' b → Ow H b

section
variable {D D' : Nat → Prop} {s s' : Sg} {n0 : Nat} {w0 w w' : World} {H H' : Hp}
theorem EsOk.mono (hD : ∀ b, D b → D' b) (hs : ∀ b, D b → s' b = s b) : ∀ {es : List (V × V × Nat)} {fs : List MapEntry}, EsOk D s es fs → EsOk D' s' es fs
  | _, _, .nil => .nil
  | _, _, .cons k v n x y es fs h1 h2 h3 => .cons k v n x y es fs (h1.mono hD hs) (h2.mono hD hs) (EsOk.mono hD hs h3)
/-- A row that stands where it stood, in a block that is as it was. -/
theorem RowAt.keep {L : Loc} {sz : Nat} {ro : Bool} {cs : List V} (h : RowAt D s n0 w L sz ro cs) (hD : ∀ b, D b → D' b) (hs : ∀ b, D b → s' b = s b) (hw : w'.heap[L.b]? = w.heap[L.b]?) : RowAt D' s' n0 w' L sz ro cs := by
  obtain ⟨⟨C, et, fz, h1, h2, h3, h4⟩, h5, h6, h7, h8⟩ := h
  exact ⟨⟨C, et, fz, by rw [hw]; exact h1, h2, fun i v hv => let ⟨x, hx, hr⟩ := h3 i v hv; ⟨x, hx, hr.mono hD hs⟩, h4⟩, h5, h6, h7, h8⟩
theorem RowAt.lt {L : Loc} {sz : Nat} {ro : Bool} {cs : List V} (h : RowAt D s n0 w L sz ro cs) : L.b < w.heap.size := by
  obtain ⟨⟨C, et, fz, h1, _⟩, _⟩ := h
  rcases Nat.lt_or_ge L.b w.heap.size with h | h
  · exact h
  · rw [Array.getElem?_eq_none h] at h1; cases h1
theorem lt_of_heap {k : Nat} {o : Obj} (h1 : w.heap[k]? = some o) : k < w.heap.size := by
  rcases Nat.lt_or_ge k w.heap.size with h | h
  · exact h
  · rw [Array.getElem?_eq_none h] at h1; cases h1
theorem Sat.lt (h : Sat n0 w0 D s H w) {b : Nat} (hD : D b) (ha : Al H b) : (s b).b < w.heap.size := by
  unfold Al at ha
  split at ha
  · rename_i e; exact (h.row b _ _ _ _ hD e).lt
  · rename_i e; obtain ⟨_, h1, _⟩ := h.map b _ _ _ hD e; exact lt_of_heap h1
  · rename_i e; exact lt_of_heap (h.iter b _ _ _ _ hD e).1
  · cases ha
theorem Sat.owge (h : Sat n0 w0 D s H w) {b : Nat} (hD : D b) (ha : Ow H b) : n0 ≤ (s b).b := by
  unfold Ow at ha
  split at ha
  · rename_i e; exact (h.row b _ _ _ _ hD e).own (by simp [ha.1, ha.2])
  · rename_i e; obtain ⟨_, _, _, h3⟩ := h.map b _ _ _ hD e; exact h3 ha
  · rename_i e; exact (h.iter b _ _ _ _ hD e).2.2.2
  · cases ha
theorem Step.refl (h : Sat n0 w0 D s H w) : Step n0 w0 D s H w s H w := by
  have e : Dn D H.next H.next = D := by funext b; simp [Dn]; intro h1 h2; omega
  exact ⟨by rw [e]; exact h, fun _ _ => rfl, Nat.le_refl _, Nat.le_refl _, fun _ _ _ => rfl, fun b h1 h2 => by omega, fun _ _ h => h⟩
theorem Step.trans {s1 s2 : Sg} {H1 H2 : Hp} {w1 w2 : World} (h1 : Step n0 w0 D s H w s1 H1 w1) (h2 : Step n0 w0 (Dn D H.next H1.next) s1 H1 w1 s2 H2 w2) : Step n0 w0 D s H w s2 H2 w2 := by
  have hn1 := h1.next
  have hn2 := h2.next
  have e : Dn (Dn D H.next H1.next) H1.next H2.next = Dn D H.next H2.next := by
    funext b; simp only [Dn, eq_iff_iff]
    constructor
    · rintro ((h | h) | h)
      · exact .inl h
      · exact .inr ⟨h.1, by omega⟩
      · exact .inr ⟨by omega, h.2⟩
    · rintro (h | h)
      · exact .inl (.inl h)
      · by_cases hb : b < H1.next
        · exact .inl (.inr ⟨h.1, hb⟩)
        · exact .inr ⟨by omega, h.2⟩
  have hsz := h1.size
  refine ⟨by rw [← e]; exact h2.sat, fun b hb => (h2.same b (.inl hb)).trans (h1.same b hb), by omega, Nat.le_trans h1.size h2.size, fun k hk hf => ?_, fun b hb1 hb2 => ?_, fun b hb ho => h1.ow b hb (h2.ow b (.inl hb) ho)⟩
  · rw [← h1.frame k hk hf]
    refine h2.frame k (by omega) fun b hb ho => ?_
    rcases hb with hb | hb
    · rw [h1.same b hb]; exact hf b hb (h1.ow b hb ho)
    · rcases h1.new b hb.1 hb.2 with h | ⟨c, hc1, hc2, hc3⟩
      · omega
      · rw [← hc3]; exact hf c hc1 hc2
  · by_cases hb : b < H1.next
    · rw [h2.same b (.inr ⟨hb1, hb⟩)]; exact h1.new b hb1 hb
    · rcases h2.new b (by omega) hb2 with h | ⟨c, hc1, hc2, hc3⟩
      · left; omega
      · rcases hc1 with hc1 | hc1
        · exact .inr ⟨c, hc1, h1.ow c hc1 hc2, by rw [← h1.same c hc1]; exact hc3⟩
        · rcases h1.new c hc1.1 hc1.2 with h | ⟨d, hd1, hd2, hd3⟩
          · left; omega
          · exact .inr ⟨d, hd1, hd2, hd3.trans hc3⟩
/-- The region's end: what was gone on from is dead. -/
theorem Sat.flush (h : Sat n0 w0 D s H w) : Sat n0 w0 D s H.flush w := by
  have hst := Hp.stale_flush H
  have hget : ∀ b o, H.flush.get b = some o → o ≠ .dead → H.get b = some o ∧ b ∉ H.stale := fun b o hb ho => by
    rw [Hp.get_flush] at hb
    split at hb
    · cases hb; exact absurd rfl ho
    · rename_i hn; exact ⟨hb, hn⟩
  have how : ∀ b, Ow H.flush b → Ow H b := fun b ho => by
    unfold Ow at ho ⊢
    split at ho
    · rename_i e; obtain ⟨h1, h2⟩ := hget b _ e (by simp); rw [h1]; exact ⟨ho.1, h2⟩
    · rename_i e; obtain ⟨h1, h2⟩ := hget b _ e (by simp); rw [h1]; exact ho
    · rename_i e; obtain ⟨h1, h2⟩ := hget b _ e (by simp); rw [h1]; trivial
    · cases ho
  have hal : ∀ b, Al H.flush b → Al H b := fun b ho => by
    unfold Al at ho ⊢
    split at ho
    · rename_i e; obtain ⟨h1, h2⟩ := hget b _ e (by simp); rw [h1]; exact h2
    · rename_i e; obtain ⟨h1, h2⟩ := hget b _ e (by simp); rw [h1]; trivial
    · rename_i e; obtain ⟨h1, h2⟩ := hget b _ e (by simp); rw [h1]; trivial
    · cases ho
  refine ⟨h.below, fun b e sz ro cs hD hg => ?_, fun b ro es c hD hg => ?_, fun b m si se la hD hg => ?_, fun b b' h1 h2 h3 h4 h5 => h.sep b b' h1 h2 h3 (how b h4) (hal b' h5), fun x e sz ro cs b e' sz' cs' hx hst' => ?_⟩
  · obtain ⟨h1, h2⟩ := hget b _ hg (by simp)
    have := h.row b e sz ro cs hD h1
    rw [hst]
    simpa [h2] using this
  · exact h.map b ro es c hD (hget b _ hg (by simp)).1
  · exact h.iter b m si se la hD (hget b _ hg (by simp)).1
  · rw [hst] at hst'; cases hst'
theorem Step.flush (h : Sat n0 w0 D s H w) : Step n0 w0 D s H w s H.flush w := by
  have e : Dn D H.next H.flush.next = D := by rw [Hp.next_flush]; funext b; simp [Dn]; intro h1 h2; omega
  refine ⟨by rw [e]; exact h.flush, fun _ _ => rfl, by rw [Hp.next_flush]; exact Nat.le_refl _, Nat.le_refl _, fun _ _ _ => rfl, fun b h1 h2 => by rw [Hp.next_flush] at h2; omega, fun b hb ho => ?_⟩
  unfold Ow at ho ⊢
  rw [Hp.get_flush, Hp.stale_flush] at ho
  by_cases hb : b ∈ H.stale
  · simp [hb] at ho
  · simp only [if_neg hb] at ho
    split at ho <;> simp_all
end
end Go.AM
