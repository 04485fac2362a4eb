/- A heap where one block has been written; a row that is gone on from in its place. -/
import Derived.Test.YtaenhbfgfhhbcaaAmMem
set_option linter.unusedVariables false
set_option linter.unusedSimpArgs false
namespace Go.AM
open Go Go.RowKit
section
variable {T : Tab} {P : Program} {D : Nat → Prop} {s : Sg} {n0 : Nat} {w0 w w' : World} {H : Hp}

/-- A world that is w but for one block (and some draws). -/
structure But (w w' : World) (g : Nat) : Prop where
  os : w'.os = w.os
  tape : w'.tape = w.tape
  output : w'.output = w.output
  size : w'.heap.size = w.heap.size
  old : ∀ k, k ≠ g → w'.heap[k]? = w.heap[k]?
theorem But.setRow (w : World) (g : Nat) (C : Array Value) : But w (w.setRow g C) g := ⟨rfl, rfl, rfl, by simp, fun k hk => setRow_other w g k C hk⟩
theorem But.below {g : Nat} (h : But w w' g) {B : Nat} (hb : Below B w0 w) (hg : B ≤ g) : Below B w0 w' :=
  hb.trans ⟨h.os, h.tape, h.output, by rw [h.size]; exact Nat.le_refl _, fun k hk => h.old k (by omega)⟩

theorem al_iff (b : Nat) : Al H b ↔ (match H.get b with | some (.row _ _ _ _) => b ∉ H.stale | some (.map _ _ _) => True | some (.iter _ _ _ _) => True | _ => False) := Iff.rfl
/-- ONE BLOCK WRITTEN, nothing gone on from. -/
theorem step_put (hS : Sat n0 w0 D s H w) (hst : H.stale = []) {b : Nat} {ob : Ob} (hD : D b) (ho : Ow H b) (hB : But w w' (s b).b)
    (hlive : Al (H.put b ob) b ∧ Ow (H.put b ob) b)
    (hrow : ∀ e sz ro cs, ob = .row e sz ro cs → RowAt D s n0 w' (s b) sz ro cs)
    (hmap : ∀ ro es c, ob = .map ro es c → ∃ ents, w'.heap[(s b).b]? = some (.map ents c) ∧ EsOk D s es ents.toList)
    (hit : ∀ m si se la, ob = .iter m si se la → w'.heap[(s b).b]? = some (.mapIter (m.map fun m => (s m).b) si se.toArray la) ∧ (∀ m', m = some m' → D m') ∧ (s b).base = 0) :
    Step n0 w0 D s H w s (H.put b ob) w' := by
  have e0 : Dn D H.next (H.put b ob).next = D := by funext b; simp [Dn, Hp.next_put]; intro h1 h2; omega
  have hst' : (H.put b ob).stale = [] := hst
  have hn0 := hS.owge hD ho
  have hne : ∀ c, D c → c ≠ b → Al H c → (s c).b ≠ (s b).b := fun c hc hcb ha => (hS.sep b c hD hc (Ne.symm hcb) ho ha).symm
  have how : ∀ c, c ≠ b → (Ow (H.put b ob) c ↔ Ow H c) := fun c hc => by
    unfold Ow
    rw [Hp.get_put, if_neg hc, hst', hst]
  have hal : ∀ c, c ≠ b → (Al (H.put b ob) c ↔ Al H c) := fun c hc => by
    unfold Al
    rw [Hp.get_put, if_neg hc, hst', hst]
  have key : Sat n0 w0 D s (H.put b ob) w' := by
    refine ⟨hB.below hS.below hn0, fun c e sz ro cs hc hg => ?_, fun c ro es cl hc hg => ?_, fun c m si se la hc hg => ?_, fun c c' h1 h2 h3 h4 h5 => ?_, fun x e sz ro cs b e' sz' cs' hx hxs => ?_⟩
    · rw [hst', List.contains_nil, Bool.or_false]
      rw [Hp.get_put] at hg
      split at hg
      · rename_i hcb; subst hcb; cases hg; exact hrow e sz ro cs rfl
      · rename_i hcb
        have h := hS.row c e sz ro cs hc hg
        rw [hst, List.contains_nil, Bool.or_false] at h
        exact h.keep (fun _ h => h) (fun _ _ => rfl) (hB.old _ (hne c hc hcb (by unfold Al; rw [hg, hst]; simp)))
    · rw [Hp.get_put] at hg
      split at hg
      · rename_i hcb; subst hcb; cases hg
        obtain ⟨ents, h1, h2⟩ := hmap ro es cl rfl
        exact ⟨ents, h1, h2, fun _ => hn0⟩
      · rename_i hcb
        obtain ⟨ents, h1, h2, h3⟩ := hS.map c ro es cl hc hg
        exact ⟨ents, by rw [hB.old _ (hne c hc hcb (by unfold Al; rw [hg]; trivial))]; exact h1, h2, h3⟩
    · rw [Hp.get_put] at hg
      split at hg
      · rename_i hcb; subst hcb; cases hg
        obtain ⟨h1, h2, h3⟩ := hit m si se la rfl
        exact ⟨h1, h2, h3, hn0⟩
      · rename_i hcb
        obtain ⟨h1, h2, h3, h4⟩ := hS.iter c m si se la hc hg
        exact ⟨by rw [hB.old _ (hne c hc hcb (by unfold Al; rw [hg]; trivial))]; exact h1, h2, h3, h4⟩
    · have ho1 : Ow H c := by
        by_cases hcb : c = b
        · subst hcb; exact ho
        · exact (how c hcb).1 h4
      have ha1 : Al H c' := by
        by_cases hcb : c' = b
        · subst hcb; exact ho.al
        · exact (hal c' hcb).1 h5
      exact hS.sep c c' h1 h2 h3 ho1 ha1
    · rw [hst'] at hxs; cases hxs
  refine ⟨by rw [e0]; exact key, fun _ _ => rfl, Nat.le_refl _, by rw [hB.size]; exact Nat.le_refl _, fun k hk hf => hB.old k (fun e => hf b hD ho e.symm), fun c h1 h2 => by rw [Hp.next_put] at h2; omega, fun c hc ho' => ?_⟩
  by_cases hcb : c = b
  · subst hcb; exact ho
  · exact (how c hcb).1 ho'

/-- A ROW GONE ON FROM, IN ITS PLACE: the new row's cells begin where the old row's do, and end behind it. -/
theorem step_app (hS : Sat n0 w0 D s H w) (hn : n0 ≤ w0.heap.size) (hf : ¬ D H.next) {b : Nat} {e e' : TypeId} {sz : Nat} {cs cs' : List V} (hD : D b) (hg : H.get b = some (.row e sz false cs)) (hbs : b ∉ H.stale) (hst : H.next ∉ H.stale)
    (hB : But w w' (s b).b) (hlen : cs.length ≤ cs'.length) {L : Loc} (hL : L.b = (s b).b) (hLb : L.base = (s b).base)
    (hnew : RowAt (Dn D H.next (H.next + 1)) (upd s H.next L) n0 w' L sz false cs')
    (hkeep : ∀ (C C' : Array Value) et et' fz fz', w.heap[(s b).b]? = some (.cells C et fz) → w'.heap[(s b).b]? = some (.cells C' et' fz') → C'.size = C.size ∧ ∀ i, i < (s b).base + cs.length → C'[i]? = C[i]?)
    (hcell : ∃ C' et' fz', w'.heap[(s b).b]? = some (.cells C' et' fz')) :
    Step n0 w0 D s H w (upd s H.next L) { H.new (.row e' sz false cs') with stale := b :: H.stale } w' := by
  have hs : ∀ c, D c → upd s H.next L c = s c := fun c hc => upd_ne _ _ (fun e => hf (e ▸ hc))
  have hDn : ∀ c, D c → Dn D H.next (H.next + 1) c := fun c hc => .inl hc
  have hne : ∀ c, D c → c ≠ H.next := fun c hc e => hf (e ▸ hc)
  have hbn := hne b hD
  have hob : Ow H b := by unfold Ow; rw [hg]; exact ⟨rfl, hbs⟩
  have hn0 := hS.owge hD hob
  generalize hH' : ({ H.new (.row e' sz false cs') with stale := b :: H.stale } : Hp) = H'
  have hget : ∀ c, H'.get c = if c = H.next then some (.row e' sz false cs') else H.get c := fun c => by subst hH'; exact Hp.get_new H c _
  have hstl : H'.stale = b :: H.stale := by subst hH'; rfl
  have hnx : H'.next = H.next + 1 := by subst hH'; rfl
  have how : ∀ c, D c → Ow H' c → Ow H c ∧ c ≠ b := fun c hc ho => by
    unfold Ow at ho ⊢
    rw [hget, if_neg (hne c hc), hstl] at ho
    have : c ≠ b := by
      rintro rfl
      rw [hg] at ho
      exact ho.2 (by simp)
    refine ⟨?_, this⟩
    split at ho
    · exact ⟨ho.1, fun h => ho.2 (by simp [h])⟩
    · exact ho
    · trivial
    · cases ho
  have hal : ∀ c, D c → Al H' c → Al H c ∧ c ≠ b := fun c hc ho => by
    unfold Al at ho ⊢
    rw [hget, if_neg (hne c hc), hstl] at ho
    have : c ≠ b := by
      rintro rfl
      rw [hg] at ho
      exact ho (by simp)
    refine ⟨?_, this⟩
    split at ho
    · exact fun h => ho (by simp [h])
    · trivial
    · trivial
    · cases ho
  have hfar : ∀ c, D c → c ≠ b → Al H c → (s c).b ≠ (s b).b := fun c hc hcb ha => (hS.sep b c hD hc (Ne.symm hcb) hob ha).symm
  have key : Sat n0 w0 (Dn D H.next (H.next + 1)) (upd s H.next L) H' w' := by
    refine ⟨hB.below hS.below hn0, fun c ec szc roc csc hc hgc => ?_, fun c ro es cl hc hgc => ?_, fun c m si se la hc hgc => ?_, fun c c' hc hc' hcc ho ha => ?_, fun x ex szx rox csx c ec szc csc hx hxs hgx hc ho hgc heq => ?_⟩
    · rw [hget] at hgc
      rcases hc with hc | hc
      · rw [if_neg (hne c hc)] at hgc
        rw [hs c hc, hstl]
        have h := hS.row c ec szc roc csc hc hgc
        by_cases hblk : (s c).b = (s b).b
        · -- the block is written: c is the row itself, or was gone on from before
          have hx : c = b ∨ c ∈ H.stale := by
            by_cases hcb : c = b
            · exact .inl hcb
            · refine .inr (Classical.not_not.1 fun hns => hfar c hc hcb (by unfold Al; rw [hgc]; exact hns) hblk)
          have hcont : ((b :: H.stale).contains c) = true := by
            rw [List.contains_iff_mem]
            rcases hx with rfl | hx
            · simp
            · simp [hx]
          have hle : (s c).base + csc.length ≤ (s b).base + cs.length := by
            rcases hx with rfl | hx
            · rw [hg] at hgc; cases hgc; exact Nat.le_refl _
            · exact hS.old c ec szc roc csc b e sz cs hc hx hgc hD hob hg hblk.symm
          rw [hcont, Bool.or_true]
          obtain ⟨⟨C, et, fz, g1, g2, g3, g4⟩, g5, g6, g7, g8⟩ := h
          obtain ⟨C', et', fz', k1⟩ := hcell
          rw [hblk] at g1
          obtain ⟨k2, k3⟩ := hkeep C C' et et' fz fz' g1 k1
          refine ⟨⟨C', et', fz', by rw [hblk]; exact k1, by rw [k2]; exact g2, fun i v hv => ?_, fun h => by cases h⟩, g5, g6, g7, fun h => by cases h⟩
          obtain ⟨x, hx1, hx2⟩ := g3 i v hv
          have hlt : i < csc.length := (List.getElem?_eq_some_iff.1 hv).1
          exact ⟨x, by rw [k3 _ (by omega)]; exact hx1, hx2.mono hDn hs⟩
        · have h2 := h.keep hDn hs (w' := w') (hB.old _ hblk)
          cases hcb : H.stale.contains c with
          | true =>
            rw [hcb] at h2
            have : ((b :: H.stale).contains c) = true := by rw [List.contains_iff_mem] at hcb ⊢; simp [hcb]
            rw [this]; exact h2
          | false =>
            rw [hcb, Bool.or_false] at h2
            cases hcb2 : (b :: H.stale).contains c with
            | false => rw [Bool.or_false]; exact h2
            | true =>
              rw [Bool.or_true]
              obtain ⟨⟨C, et, fz, g1, g2, g3, g4⟩, g5, g6, g7, g8⟩ := h2
              exact ⟨⟨C, et, fz, g1, g2, g3, fun h => by cases h⟩, g5, g6, g7, fun h => by cases h⟩
      · have : c = H.next := by have h1 := hc.1; have h2 : c < H.next + 1 := hc.2; omega
        subst this
        rw [if_pos rfl] at hgc
        cases hgc
        rw [upd_self, hstl]
        have : ((b :: H.stale).contains H.next) = false := by
          cases hcb : (b :: H.stale).contains H.next with
          | false => rfl
          | true =>
            rw [List.contains_iff_mem] at hcb
            simp only [List.mem_cons] at hcb
            rcases hcb with h | h
            · exact absurd h.symm hbn
            · exact absurd h hst
        rw [this]
        exact hnew
    · rw [hget] at hgc
      rcases hc with hc | hc
      · rw [if_neg (hne c hc)] at hgc
        obtain ⟨ents, h1, h2, h3⟩ := hS.map c ro es cl hc hgc
        rw [hs c hc]
        have hcb : c ≠ b := by rintro rfl; rw [hg] at hgc; cases hgc
        exact ⟨ents, by rw [hB.old _ (hfar c hc hcb (by unfold Al; rw [hgc]; trivial))]; exact h1, h2.mono hDn hs, h3⟩
      · have : c = H.next := by have h1 := hc.1; have h2 : c < H.next + 1 := hc.2; omega
        subst this
        rw [if_pos rfl] at hgc
        cases hgc
    · rw [hget] at hgc
      rcases hc with hc | hc
      · rw [if_neg (hne c hc)] at hgc
        obtain ⟨h1, h2, h3, h4⟩ := hS.iter c m si se la hc hgc
        rw [hs c hc]
        have hcb : c ≠ b := by rintro rfl; rw [hg] at hgc; cases hgc
        refine ⟨?_, fun m' hm => .inl (h2 m' hm), h3, h4⟩
        rw [hB.old _ (hfar c hc hcb (by unfold Al; rw [hgc]; trivial)), h1]
        cases m with
        | none => rfl
        | some m => simp only [Option.map_some]; rw [hs m (h2 m rfl)]
      · have : c = H.next := by have h1 := hc.1; have h2 : c < H.next + 1 := hc.2; omega
        subst this
        rw [if_pos rfl] at hgc
        cases hgc
    · rcases hc with hc | hc
      · obtain ⟨ho1, hcb⟩ := how c hc ho
        rw [hs c hc]
        rcases hc' with hc' | hc'
        · rw [hs c' hc']
          exact hS.sep c c' hc hc' hcc ho1 (hal c' hc' ha).1
        · have : c' = H.next := by have h1 := hc'.1; have h2 : c' < H.next + 1 := hc'.2; omega
          subst this
          rw [upd_self, hL]
          exact hfar c hc hcb ho1.al
      · have : c = H.next := by have h1 := hc.1; have h2 : c < H.next + 1 := hc.2; omega
        subst this
        rcases hc' with hc' | hc'
        · rw [hs c' hc', upd_self, hL]
          obtain ⟨ha1, hcb⟩ := hal c' hc' ha
          exact (hfar c' hc' hcb ha1).symm
        · have : c' = H.next := by have h1 := hc'.1; have h2 : c' < H.next + 1 := hc'.2; omega
          exact absurd this.symm hcc
    · have hxn : x ≠ H.next := by
        rintro rfl
        rw [hstl] at hxs
        simp only [List.mem_cons] at hxs
        rcases hxs with h | h
        · exact hbn h.symm
        · exact hst h
      have hDx : D x := by
        rcases hx with hx | hx
        · exact hx
        · have : x = H.next := by have h1 := hx.1; have h2 : x < H.next + 1 := hx.2; omega
          exact absurd this hxn
      rw [hget, if_neg hxn] at hgx
      rw [hs x hDx] at heq ⊢
      rw [hstl] at hxs
      simp only [List.mem_cons] at hxs
      rcases hc with hc | hc
      · obtain ⟨ho1, hcb⟩ := how c hc ho
        rw [hs c hc] at heq ⊢
        rw [hget, if_neg (hne c hc)] at hgc
        rcases hxs with rfl | hxs
        · exact absurd heq (hfar c hc hcb ho1.al)
        · exact hS.old x ex szx rox csx c ec szc csc hDx hxs hgx hc ho1 hgc heq
      · have : c = H.next := by have h1 := hc.1; have h2 : c < H.next + 1 := hc.2; omega
        subst this
        rw [hget, if_pos rfl] at hgc
        cases hgc
        rw [upd_self] at heq ⊢
        rw [hLb]
        rcases hxs with rfl | hxs
        · rw [hg] at hgx; cases hgx; omega
        · have := hS.old x ex szx rox csx b e sz cs hDx hxs hgx hD hob hg (by rw [← hL]; exact heq)
          omega
  refine ⟨by rw [hnx]; exact key, hs, by rw [hnx]; exact Nat.le_succ _, by rw [hB.size]; exact Nat.le_refl _, fun k hk hfr => hB.old k (fun e => hfr b hD hob e.symm), fun c h1 h2 => ?_, fun c hc ho => (how c hc ho).1⟩
  right
  have : c = H.next := by rw [hnx] at h2; omega
  subst this
  exact ⟨b, hD, hob, by rw [upd_self, hL]⟩
end
end Go.AM
