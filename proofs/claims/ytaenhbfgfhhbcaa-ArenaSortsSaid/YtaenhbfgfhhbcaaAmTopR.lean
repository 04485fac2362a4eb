/- From the abstract machine's word to a call whose arguments are rows that came in (and whose package's variables are rows). -/
import Derived.Test.YtaenhbfgfhhbcaaAmSim
import Derived.Test.YtaenhbfgfhhbcaaAmTop
set_option linter.unusedVariables false
set_option linter.unusedSimpArgs false
namespace Go.AM
open Go Go.RowKit
abbrev Rw := TypeId × Nat × List V
def mkR : List Rw → Nat → Tr Ob → Tr Ob
  | [], _, t => t
  | (e, z, cs) :: r, i, t => mkR r (i + 1) (t.set i (.row e z true cs))
/-- The heap that a call begins with: the rows that came in. -/
def hR (l : List Rw) : Hp := ⟨l.length, mkR l 0 .nil, []⟩
theorem mkR_get : ∀ (l : List Rw) (i : Nat) (t : Tr Ob) (b : Nat), (mkR l i t).get b = if i ≤ b then (match l[b - i]? with | some (e, z, cs) => some (.row e z true cs) | none => t.get b) else t.get b
  | [], i, t, b => by simp [mkR]
  | (e, z, cs) :: r, i, t, b => by
    rw [mkR, mkR_get r (i + 1), Tr.get_set]
    by_cases h1 : i + 1 ≤ b
    · obtain ⟨d, rfl⟩ : ∃ d, b = i + 1 + d := ⟨b - (i + 1), by omega⟩
      have e1 : i + 1 + d - (i + 1) = d := by omega
      have e2 : i + 1 + d - i = d + 1 := by omega
      have e3 : ¬ (i + 1 + d = i) := by omega
      have e4 : i ≤ i + 1 + d := by omega
      simp only [h1, e1, e2, e3, e4, if_true, if_false, List.getElem?_cons_succ]
    · rw [if_neg h1]
      by_cases h2 : b = i
      · subst h2; simp
      · rw [if_neg h2, if_neg (by omega)]
theorem hR_get (l : List Rw) (b : Nat) : (hR l).get b = match l[b]? with | some (e, z, cs) => some (.row e z true cs) | none => none := by
  show (mkR l 0 .nil).get b = _
  rw [mkR_get]
  simp [Tr.get]
theorem hR_st (l : List Rw) : (hR l).stale = [] := Eq.trans rfl rfl
theorem hR_next (l : List Rw) : (hR l).next = l.length := Eq.trans rfl rfl
def dR (l : List Rw) : Nat → Prop := fun b => b < l.length
theorem satR {l : List Rw} {s : Sg} {W : World} (h : ∀ (i : Nat) e z cs, l[i]? = some (e, z, cs) → RowAt (dR l) s W.heap.size W (s i) z true cs) : Sat W.heap.size W (dR l) s (hR l) W := by
  have hg : ∀ b ob, (hR l).get b = some ob → ∃ e z cs, l[b]? = some (e, z, cs) ∧ ob = .row e z true cs := fun b ob hb => by
    rw [hR_get] at hb
    split at hb
    · rename_i e z cs hl; cases hb; exact ⟨e, z, cs, hl, rfl⟩
    · cases hb
  have how : ∀ b, ¬ Ow (hR l) b := fun b ho => by
    unfold Ow at ho
    split at ho
    · rename_i hb; obtain ⟨_, _, _, _, h2⟩ := hg _ _ hb; cases h2; cases ho.1
    · rename_i hb; obtain ⟨_, _, _, _, h2⟩ := hg _ _ hb; cases h2
    · rename_i hb; obtain ⟨_, _, _, _, h2⟩ := hg _ _ hb; cases h2
    · cases ho
  refine ⟨Below.refl _ _, fun b e sz ro cs hb hgb => ?_, fun b ro es c hb hgb => ?_, fun b m since seen last hb hgb => ?_, fun b b' _ _ _ ho => absurd ho (how b), fun x e sz ro cs b e' sz' cs' _ hs => ?_⟩
  · obtain ⟨e', z', cs', h1, h2⟩ := hg _ _ hgb
    cases h2
    exact h b _ _ _ h1
  · obtain ⟨e', z', cs', h1, h2⟩ := hg _ _ hgb; cases h2
  · obtain ⟨e', z', cs', h1, h2⟩ := hg _ _ hgb; cases h2
  · rw [hR_st] at hs; cases hs
theorem goodR (l : List Rw) : Good (hR l) := ⟨fun b hb => by
  rw [hR_get]
  rw [hR_next] at hb
  rw [List.getElem?_eq_none hb], fun x h => by rw [hR_st] at h; cases h⟩
theorem topR {T : Tab} {P : Program} {an : FuncId → Nat → List Nat} (hT : ProgOk T P an) {l : List Rw} {s : Sg} {W : World} {f : FuncId} {vs : List V} {args : Array Value}
    (hg : GlOk T.ng (dR l) s) (hl : ∀ (i : Nat) e z cs, l[i]? = some (e, z, cs) → RowAt (dR l) s W.heap.size W (s i) z true cs) (hr : RvL (dR l) s vs args.toList)
    (h : WF T f vs (hR l) fun v _ => v = .bool true) : Calls P f args W fun e w' => e = .returned (.bool true) ∧ Below W.heap.size W w' := by
  obtain ⟨k, v, H', hev, rfl⟩ := h
  obtain ⟨_, hc⟩ := (hT.calls (n0 := W.heap.size) (w0 := W) (Nat.le_refl _) k) f vs (hR l) _ H' hev (dR l) s W args hg hr (satR hl) (goodR l) (fun b h1 _ h2 => by rw [hR_next] at h1; exact absurd h2 (Nat.not_lt.2 h1))
  refine hc.mono fun e w' he => ?_
  cases e with
  | returned x =>
    obtain ⟨s', h1, h2⟩ := he
    cases h2
    exact ⟨rfl, h1.sat.below⟩
  | panicked c => exact he.elim
  | outgrown => exact he.elim
/-- A row of a slice that came in. -/
theorem rowR {l : List Rw} {s : Sg} {W : World} {b off cap z : Nat} {cs : List V} {xs : List Value} (hx : RvL (dR l) s cs xs) (ho : cs.all oneV = true) (hlen : cs.length ≤ cap * z) (hpos : 0 < cap * z)
    (hc : ∀ i, i < cap * z → ∃ x, W.cell? ⟨b, off + i, none⟩ = some x) (hv : ∀ (i : Nat) x, xs[i]? = some x → W.cell? ⟨b, off + i, none⟩ = some x) : RowAt (dR l) s W.heap.size W ⟨b, off, cap, z⟩ z true cs := by
  have hcell : ∀ i x, W.cell? ⟨b, i, none⟩ = some x → ∃ C et fz, W.heap[b]? = some (.cells C et fz) ∧ C[i]? = some x := fun i x h => by
    unfold World.cell? at h
    dsimp only at h
    split at h
    · rename_i C et fz hw
      exact ⟨C, et, fz, hw, by simpa using h⟩
    · cases h
  obtain ⟨x0, hx0⟩ := hc 0 hpos
  obtain ⟨C, et, fz, hw, _⟩ := hcell _ _ hx0
  have hcell' : ∀ i x, W.cell? ⟨b, i, none⟩ = some x → C[i]? = some x := fun i x h => by
    obtain ⟨C', et', fz', hw', h'⟩ := hcell i x h
    rw [hw] at hw'; cases hw'
    exact h'
  refine ⟨⟨C, et, fz, hw, ?_, fun i v hv' => ?_, fun h => by cases h⟩, rfl, hlen, ho, fun h => by cases h⟩
  · obtain ⟨xl, hxl⟩ := hc (cap * z - 1) (by omega)
    have := hcell' _ _ hxl
    have := (Array.getElem?_eq_some_iff.1 this).1
    show off + cap * z ≤ C.size
    omega
  · obtain ⟨x, h1, h2⟩ := hx.get i v hv'
    exact ⟨x, hcell' _ _ (hv i x h1), h2⟩
end Go.AM
