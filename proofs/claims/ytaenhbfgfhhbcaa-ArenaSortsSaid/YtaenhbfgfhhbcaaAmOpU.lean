/- The operations that only compute (5): literals; all of them, in one word. -/
import Derived.Test.YtaenhbfgfhhbcaaAmOpT
import Derived.Laws.Tables
set_option linter.unusedVariables false
set_option linter.unusedSimpArgs false
namespace Go.AM
open Go Go.RowKit
section
variable {T : Tab} {P : Program} {D : Nat → Prop} {s : Sg}

theorem zero_rv : ∀ {vs : List V} {xs : List Value}, zeroOk vs xs = true → RvL D s vs xs ∧ vs.all oneV = true
  | [], [], _ => ⟨.nil, rfl⟩
  | [], _ :: _, h => by simp [zeroOk] at h
  | _ :: _, [], h => by simp [zeroOk] at h
  | v :: vs, x :: xs, h => by
    simp only [zeroOk, Bool.and_eq_true] at h
    obtain ⟨h1, h2⟩ := h
    obtain ⟨r1, r2⟩ := zero_rv h2
    have key : Rv D s v x ∧ oneV v = true := by
      split at h1
      · simp at h1; subst h1; exact ⟨.bool _, rfl⟩
      · simp at h1; obtain ⟨rfl, rfl⟩ := h1; exact ⟨.int _ _, rfl⟩
      · rename_i b
        obtain ⟨⟨l⟩⟩ := b
        simp at h1
        subst h1
        exact ⟨.str [], rfl⟩
      · exact ⟨.nilp, rfl⟩
      · exact ⟨.nils, rfl⟩
      · exact ⟨.nilm, rfl⟩
      · exact ⟨.nilf, rfl⟩
      · exact ⟨.nili, rfl⟩
      · cases h1
    exact ⟨.cons _ _ _ _ key.1 r1, by simp [key.2]; simpa using r2⟩

/-- Parts, and their values. -/
inductive Pz (D : Nat → Prop) (s : Sg) : List (Nat × V) → List (Nat × Value) → Prop
  | nil : Pz D s [] []
  | cons (i : Nat) (v : V) (x : Value) (ps : List (Nat × V)) (qs : List (Nat × Value)) : Rv D s v x → Pz D s ps qs → Pz D s ((i, v) :: ps) ((i, x) :: qs)
def setL {α : Type} (cs : List α) (off : Nat) : List α → List α
  | [] => cs
  | v :: r => setL (cs.set off v) (off + 1) r
theorem setL_length {α : Type} : ∀ (l cs : List α) (off : Nat), (setL cs off l).length = cs.length
  | [], _, _ => rfl
  | v :: r, cs, off => by rw [setL, setL_length r]; simp
theorem setCells_eq : ∀ (l cs : List V) (off : Nat), setCells cs off l = setL cs off l
  | [], _, _ => rfl
  | v :: r, cs, off => by rw [setCells, setL, setCells_eq r]
theorem RvL.setL : ∀ {ns : List V} {ys : List Value} {vs : List V} {xs : List Value} (off : Nat), RvL D s ns ys → RvL D s vs xs → RvL D s (AM.setL vs off ns) (AM.setL xs off ys)
  | _, _, _, _, _, .nil, h => h
  | _, _, _, _, off, .cons v x vs xs h1 h2, h => RvL.setL (off + 1) h2 (RvL.set off h h1)
theorem all_set (p : V → Bool) (l : List V) (i : Nat) (v : V) (h : l.all p = true) (hv : p v = true) : (l.set i v).all p = true := by
  rw [List.all_eq_true] at *
  intro x hx
  rcases List.mem_or_eq_of_mem_set hx with h1 | rfl
  · exact h x h1
  · exact hv
theorem all_setL (p : V → Bool) : ∀ (n l : List V) (off : Nat), l.all p = true → n.all p = true → (setL l off n).all p = true
  | [], l, off, h, _ => h
  | v :: r, l, off, h, hn => by
    simp only [List.all_cons, Bool.and_eq_true] at hn
    exact all_setL p r _ _ (all_set p l off v h hn.1) hn.2
theorem foldl_setL {α : Type} : ∀ (l : List α) (k off : Nat) (A : Array α), ((l.zipIdx k).foldl (fun (cs : Array α) (x : α × Nat) => cs.setIfInBounds (off + x.2) x.1) A).toList = setL A.toList (off + k) l
  | [], _, _, _ => rfl
  | v :: r, k, off, A => by
    rw [List.zipIdx_cons, List.foldl_cons, foldl_setL r (k + 1) off, setL, Array.toList_setIfInBounds]
    rfl
theorem fill_ok (place : Nat → Option (Nat × Nat)) : ∀ {ps : List (Nat × V)} {qs : List (Nat × Value)} {cs : List V} {A : Array Value} {r : List V},
    Pz D s ps qs → RvL D s cs A.toList → cs.all oneV = true → fillV place cs ps = some r →
    ∃ B, Instr.fill place A qs = some B ∧ RvL D s r B.toList ∧ r.all oneV = true
  | _, _, cs, A, r, .nil, hA, ho, h => by
    simp only [fillV] at h
    cases h
    exact ⟨A, rfl, hA, ho⟩
  | _, _, cs, A, r, .cons i v x ps qs hv hr, hA, ho, h => by
    simp only [fillV] at h
    simp only [Instr.fill]
    cases hp : place i with
    | none => rw [hp] at h; cases h
    | some p =>
      obtain ⟨off, size⟩ := p
      rw [hp] at h
      dsimp only at h
      have hc := hv.cells
      have hlen : (cellsV v).length = x.cells.size := by rw [hc.length]; simp
      have hlenA : cs.length = A.size := by rw [hA.length]; simp
      split at h
      · cases h
      · rename_i hcond
        simp only [not_or, Bool.not_eq_false, Decidable.not_not, Nat.not_lt] at hcond
        obtain ⟨c1, c2, c3⟩ := hcond
        have hb : ¬ (decide (x.cells.size ≠ size) || decide (off + x.cells.size > A.size)) = true := by
          simp; omega
        dsimp only
        rw [if_neg hb]
        refine fill_ok place hr ?_ ?_ h
        · have e := foldl_setL x.cells.toList 0 off A
          have e2 : (Array.foldl (fun (cs : Array Value) (x : Value × Nat) => cs.setIfInBounds (off + x.2) x.1) A x.cells.zipIdx).toList = setL A.toList off x.cells.toList := by
            rw [← Array.foldl_toList, Array.toList_zipIdx, e, Nat.add_zero]
          rw [setCells_eq, e2]
          exact RvL.setL off hc hA
        · rw [setCells_eq]
          exact all_setL _ _ _ _ ho c1
theorem parts_ok {F : Fr} {a : Act} (hg : GlOk T.ng D s) (hF : FrOk D s F a) : ∀ {l : List (Nat × Operand)} {ps : List (Nat × V)}, partsV T F l = some ps →
    Pz D s ps (l.map fun (i, x) => (i, a.eval x))
  | [], ps, h => by cases h; exact .nil
  | (i, x) :: r, ps, h => by
    simp only [partsV] at h
    split at h
    · rename_i v vs h1 h2
      cases h
      exact .cons _ _ _ _ _ (opd_ok hg hF h1) (parts_ok hg hF h2)
    · cases h
theorem places_ok (hT : TabOk T P) : ∀ {fs : List Field} {pl : List (Nat × Nat)}, placesV T (fs.map fun f => (f.offset, f.type)) = some pl → fs.mapM (fun f => (P.info? f.type).map fun i => (f.offset, i.size)) = some pl
  | [], pl, h => by cases h; rfl
  | f :: r, pl, h => by
    simp only [List.map_cons, placesV] at h
    split at h
    · rename_i i ps h1 h2
      cases h
      obtain ⟨inf, _, _, e1, _, _, e2, _⟩ := ti_parts hT h1
      simp [List.mapM_cons, e1, places_ok hT h2, e2]
    · cases h
theorem build_ok (hT : TabOk T P) {F : Fr} {a : Act} (hg : GlOk T.ng D s) (hF : FrOk D s F a) {t : TypeId} {parts : Array (Nat × Operand)} {v : V} (h : evP T (.build t parts) F = some v) (w : World) :
    Cm D s ((Instr.build t (parts.map fun (i, x) => (i, a.eval x))).run P w) w v := by
  simp only [evP] at h
  split at h
  · rename_i i ps hi hps
    obtain ⟨inf, d, z, e1, e2, e3, e4, e5, e6, e7, e8, e9⟩ := ti_parts hT hi
    obtain ⟨z1, z2⟩ := zero_rv (D := D) (s := s) e7
    have hp := parts_ok hg hF hps
    have el : (parts.map fun (x : Nat × Operand) => (x.1, a.eval x.2)).toList = parts.toList.map fun (x : Nat × Operand) => (x.1, a.eval x.2) := by simp
    split at h
    · rename_i fs hd
      split at h
      · rename_i pl hpl
        split at h
        · rename_i cs hcs
          cases h
          rw [hd] at e3
          cases d <;> simp [DsOk] at e3
          rename_i fs'
          subst e3
          obtain ⟨B, hB, r1, r2⟩ := fill_ok _ hp z1 z2 hcs
          refine .mk (.agg cs B r1 r2) (run_build w t _ B ?_)
          unfold Program.built
          simp only [e1, e2, e6]
          rw [places_ok hT hpl]
          simp only [el]
          rw [← hB]
          congr 1
          funext i
          simp
        · cases h
      · cases h
    · rename_i n e hd
      split at h
      · rename_i ei hei
        split at h
        · rename_i cs hcs
          cases h
          rw [hd] at e3
          cases d <;> simp [DsOk] at e3
          obtain ⟨rfl, rfl⟩ := e3
          obtain ⟨inf', _, _, f1, _, _, f4, _⟩ := ti_parts hT hei
          obtain ⟨B, hB, r1, r2⟩ := fill_ok _ hp z1 z2 hcs
          refine .mk (.agg cs B r1 r2) (run_build w t _ B ?_)
          unfold Program.built
          simp only [e1, e2, e6, f1, el, f4]
          exact hB
        · cases h
      · cases h
    · cases h
  · cases h
end
end Go.AM
