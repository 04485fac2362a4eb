/- Parts of the abstract machine and of the walks over it, joined: what the law that is claimed here leans on. -/
import Derived.Test.YtlcadokmhfjacaaGreatDoorAmC3
/- Trees of expressions and statements; how they lie in a heap. -/
set_option linter.unusedVariables false
set_option linter.unusedSimpArgs false
namespace Go.AM
open Go
section
variable {T : Tab}
theorem wpL_mono' : ∀ (l : List SOp) {F : Fr} {H : Hp} {Q Q' : PL}, (∀ F H, Q F H → Q' F H) → wpL T l F H Q → wpL T l F H Q'
  | [], F, H, Q, Q', hq, h => by rw [wpL] at h ⊢; exact hq _ _ h
  | (d, o, g) :: r, F, H, Q, Q', hq, h => by
    rw [wpL] at h ⊢
    split at h
    · split at h
      · exact wpL_mono' r hq h
      · exact wpL_mono' r hq h
      · exact WF.mono h fun v H' h => wpL_mono' r hq h
      · exact h
    · exact wpL_mono' r hq h
    · exact h
theorem wpD_mono' : ∀ (l : List (SOp × Nat)) {F : Fr} {H : Hp} {B : List Hp} {Q Q' : PL}, (∀ F H, Q F H → Q' F H) → wpD T l F H B Q → wpD T l F H B Q'
  | [], F, H, B, Q, Q', hq, h => by rw [wpD] at h ⊢; exact hq _ _ h
  | ((d, o, g), n) :: r, F, H, B, Q, Q', hq, h => by
    rw [wpD] at h ⊢
    split at h
    · split at h
      · split at h
        · rename_i hp; rw [if_pos hp]; exact wpD_mono' r hq h
        · rename_i hp; rw [if_neg hp]; exact ⟨h.1, wpD_mono' r hq h.2⟩
      · exact wpD_mono' r hq h
      · exact WF.mono h fun v H' h => wpD_mono' r hq h
      · exact h
    · exact wpD_mono' r hq h
    · exact h
theorem wp_mono' : ∀ (c : SCode) {F : Fr} {H : Hp} {Q Q' : PC}, (∀ o F H, Q o F H → Q' o F H) → wp T c F H Q → wp T c F H Q'
  | .skip, F, H, Q, Q', hq, h => by rw [wp] at h ⊢; exact hq _ _ _ h
  | .reg l, F, H, Q, Q', hq, h => by rw [wp] at h ⊢; exact wpL_mono' l (fun F H => hq _ F H) h
  | .dreg l, F, H, Q, Q', hq, h => by rw [wp] at h ⊢; exact wpD_mono' l (fun F H => hq _ F H) h
  | .seq a b, F, H, Q, Q', hq, h => by
    rw [wp] at h ⊢
    refine wp_mono' a (fun o F H h => ?_) h
    cases o with
    | nrm => exact wp_mono' b hq h
    | exit i => exact hq _ _ _ h
    | ret => exact hq _ _ _ h
  | .cond c a b, F, H, Q, Q', hq, h => by
    rw [wp] at h ⊢
    split at h
    · exact wp_mono' a hq h
    · exact wp_mono' b hq h
    · exact h
  | .block id c, F, H, Q, Q', hq, h => by
    rw [wp] at h ⊢
    refine wp_mono' c (fun o F H h => ?_) h
    cases o with
    | nrm => exact hq _ _ _ h
    | ret => exact hq _ _ _ h
    | exit i =>
      simp only [blockQ] at h ⊢
      split
      · rename_i hi; rw [if_pos hi] at h; exact hq _ _ _ h
      · rename_i hi; rw [if_neg hi] at h; exact hq _ _ _ h
  | .loop c, F, H, Q, Q', hq, h => by rw [wp] at h ⊢; exact WC.mono h fun o F H => hq o F H
  | .exit id, F, H, Q, Q', hq, h => by rw [wp] at h ⊢; exact hq _ _ _ h
  | .ret, F, H, Q, Q', hq, h => by rw [wp] at h ⊢; exact hq _ _ _ h
  | .bad, F, H, Q, Q', hq, h => by rw [wp] at h; exact h.elim
end
/-- An old row is none of the next ones. -/
theorem old_ne {b n : Nat} (h : b < n) : ((b = n) = False ∧ (n = b) = False) ∧ ((b = n + 1) = False ∧ (n + 1 = b) = False) ∧ ((b = n + 1 + 1) = False ∧ (n + 1 + 1 = b) = False) ∧ ((b = n + 1 + 1 + 1) = False ∧ (n + 1 + 1 + 1 = b) = False) ∧ ((b = n + 1 + 1 + 1 + 1) = False ∧ (n + 1 + 1 + 1 + 1 = b) = False) ∧ ((b = n + 1 + 1 + 1 + 1 + 1) = False ∧ (n + 1 + 1 + 1 + 1 + 1 = b) = False) := by
  simp only [eq_iff_iff, iff_false]; omega
/-- Two rows that are not the same. -/
theorem two_ne {b c : Nat} (h : b ≠ c) : (b = c) = False ∧ (c = b) = False := by
  simp only [eq_iff_iff, iff_false]; omega
theorem Ext.putX {X : Nat → Prop} {H H1 : Hp} (h : Ext X H H1) {b : Nat} (o : Ob) (hb : X b ∨ H.next ≤ b) : Ext X H (H1.put b o) :=
  ⟨h.st, h.le, fun c hc hx => by
    rw [get_put_ne o (fun e => by subst e; exact hb.elim hx (fun h => absurd hc (Nat.not_lt.2 h)))]; exact h.get c hc hx⟩
/-- An expression (op, number, text, parts, parameters, body); a statement (kind, name, expressions, bodies, place). -/
inductive Tx where
  | ex (op : Nat) (num : Int) (text : List UInt8) (parts : List Tx) (params : List (List UInt8)) (body : List Tx)
  | st (kind : Nat) (name : List UInt8) (exprs body els : List Tx) (at_ : Int)
/-- A slice of n elements of z cells each, in rows of K; what is asked of its cells. -/
def SliceOf (K : Nat → Prop) (H : Hp) (z n : Nat) (v : V) (P : List V → Prop) : Prop :=
  (v = .nils ∨ v = .sle) ∧ n = 0 ∨ ∃ b off cap e ro cells, v = .sl b off n cap z ∧ H.get b = some (.row e z ro cells) ∧ K b ∧ b < H.next ∧ off % z = 0 ∧ off + n * z ≤ cells.length ∧ P (cells.drop off) ∧ ∀ c, cap = some c → n ≤ c
mutual
/-- These six cells are an expression's, or a statement's. -/
def ExpAt (K : Nat → Prop) (H : Hp) : Tx → List V → Prop
  | .ex op num text parts params body, cs => ∃ vp vq vb, cs = [.int .i64 op, .int .i64 num, .str text, vp, vq, vb] ∧ SliceOf K H 6 parts.length vp (ElsAt K H parts) ∧ SliceOf K H 1 params.length vq (fun cs => cs.take params.length = params.map .str) ∧ SliceOf K H 6 body.length vb (ElsAt K H body)
  | .st kind name es b e at_, cs => ∃ ve vb vl, cs = [.int .i64 kind, .str name, ve, vb, vl, .int .i64 at_] ∧ SliceOf K H 6 es.length ve (ElsAt K H es) ∧ SliceOf K H 6 b.length vb (ElsAt K H b) ∧ SliceOf K H 6 e.length vl (ElsAt K H e)
def ElsAt (K : Nat → Prop) (H : Hp) : List Tx → List V → Prop
  | [], _ => True
  | x :: r, cs => ExpAt K H x (cs.take 6) ∧ ElsAt K H r (cs.drop 6)
end
/-- A slice of such. -/
abbrev TreesAt (K : Nat → Prop) (H : Hp) (l : List Tx) (v : V) : Prop := SliceOf K H 6 l.length v (ElsAt K H l)
abbrev StrsAt (K : Nat → Prop) (H : Hp) (l : List (List UInt8)) (v : V) : Prop := SliceOf K H 1 l.length v (fun cs => cs.take l.length = l.map .str)
/-- What lies in K lies there still, and in K'. -/
structure Stays (K K' : Nat → Prop) (H H' : Hp) : Prop where
  k : ∀ b, K b → b < H.next → K' b
  get : ∀ b, K b → b < H.next → H'.get b = H.get b
  le : H.next ≤ H'.next
theorem Stays.refl (K : Nat → Prop) (H : Hp) : Stays K K H H := ⟨fun _ h _ => h, fun _ _ _ => rfl, Nat.le_refl _⟩
theorem Stays.trans {K K1 K2 : Nat → Prop} {H H1 H2 : Hp} (h : Stays K K1 H H1) (h' : Stays K1 K2 H1 H2) : Stays K K2 H H2 :=
  ⟨fun b hb hl => h'.k b (h.k b hb hl) (Nat.lt_of_lt_of_le hl h.le), fun b hb hl => (h'.get b (h.k b hb hl) (Nat.lt_of_lt_of_le hl h.le)).trans (h.get b hb hl), Nat.le_trans h.le h'.le⟩
theorem Ext.stays {X K K' : Nat → Prop} {H H' : Hp} (h : Ext X H H') (hx : ∀ b, K b → b < H.next → ¬ X b) (hk : ∀ b, K b → b < H.next → K' b) : Stays K K' H H' := ⟨hk, fun b hb hl => h.get b hl (hx b hb hl), h.le⟩
theorem SliceOf.mono {K K' : Nat → Prop} {H H' : Hp} {z n : Nat} {v : V} {P P' : List V → Prop} (h : SliceOf K H z n v P) (hS : Stays K K' H H') (hP : ∀ cs, P cs → P' cs) : SliceOf K' H' z n v P' := by
  rcases h with h | ⟨b, off, cap, e, ro, cells, h1, h2, h3, h4, h5, h6, h7, h8⟩
  · exact .inl h
  · exact .inr ⟨b, off, cap, e, ro, cells, h1, by rw [hS.get b h3 h4]; exact h2, hS.k b h3 h4, Nat.lt_of_lt_of_le h4 hS.le, h5, h6, hP _ h7, h8⟩
section
variable {K K' : Nat → Prop} {H H' : Hp}
mutual
theorem ExpAt.mono (hS : Stays K K' H H') : ∀ (t : Tx) (cs : List V), ExpAt K H t cs → ExpAt K' H' t cs
  | .ex op num text parts params body, cs, h => by
    simp only [ExpAt] at h ⊢
    obtain ⟨vp, vq, vb, h1, h2, h3, h4⟩ := h
    exact ⟨vp, vq, vb, h1, h2.mono hS (ElsAt.mono hS parts), h3.mono hS fun _ h => h, h4.mono hS (ElsAt.mono hS body)⟩
  | .st kind name es b e at_, cs, h => by
    simp only [ExpAt] at h ⊢
    obtain ⟨ve, vb, vl, h1, h2, h3, h4⟩ := h
    exact ⟨ve, vb, vl, h1, h2.mono hS (ElsAt.mono hS es), h3.mono hS (ElsAt.mono hS b), h4.mono hS (ElsAt.mono hS e)⟩
theorem ElsAt.mono (hS : Stays K K' H H') : ∀ (l : List Tx) (cs : List V), ElsAt K H l cs → ElsAt K' H' l cs
  | [], cs, h => by simp only [ElsAt]
  | x :: r, cs, h => by
    simp only [ElsAt] at h ⊢
    exact ⟨ExpAt.mono hS x _ h.1, ElsAt.mono hS r _ h.2⟩
end
theorem TreesAt.mono (hS : Stays K K' H H') {l : List Tx} {v : V} (h : TreesAt K H l v) : TreesAt K' H' l v := SliceOf.mono h hS (ElsAt.mono hS l)
theorem StrsAt.mono (hS : Stays K K' H H') {l : List (List UInt8)} {v : V} (h : StrsAt K H l v) : StrsAt K' H' l v := SliceOf.mono h hS fun _ h => h
theorem ElsAt.at_ : ∀ (l : List Tx) (cs : List V) (i : Nat) (hi : i < l.length), ElsAt K H l cs → ExpAt K H l[i] ((cs.drop (i * 6)).take 6)
  | x :: r, cs, 0, hi, h => by simp only [ElsAt] at h; simpa using h.1
  | x :: r, cs, i + 1, hi, h => by
    simp only [ElsAt] at h
    have := ElsAt.at_ r (cs.drop 6) i (by simpa using hi) h.2
    rw [List.drop_drop, show 6 + i * 6 = (i + 1) * 6 by omega] at this
    simpa using this
theorem ElsAt.app : ∀ (l : List Tx) (x : Tx) (cs ds : List V), cs.length = l.length * 6 → ElsAt K H l cs → ExpAt K H x (ds.take 6) → ElsAt K H (l ++ [x]) (cs ++ ds)
  | [], x, cs, ds, hl, _, hx => by
    have : cs = [] := List.eq_nil_of_length_eq_zero (by simpa using hl)
    subst this
    simp only [List.nil_append, ElsAt]
    exact ⟨hx, trivial⟩
  | y :: r, x, cs, ds, hl, h, hx => by
    simp only [List.length_cons] at hl
    simp only [ElsAt] at h
    simp only [List.cons_append, ElsAt]
    refine ⟨?_, ?_⟩
    · rw [List.take_append_of_le_length (by omega)]; exact h.1
    · rw [List.drop_append_of_le_length (by omega)]
      exact ElsAt.app r x _ ds (by rw [List.length_drop]; omega) h.2 hx
/-- More cells behind do not matter. -/
theorem ElsAt.more : ∀ (l : List Tx) (cs ds : List V), l.length * 6 ≤ cs.length → (ElsAt K H l (cs ++ ds) ↔ ElsAt K H l cs)
  | [], cs, ds, _ => by simp only [ElsAt]
  | y :: r, cs, ds, hl => by
    simp only [List.length_cons] at hl
    simp only [ElsAt]
    rw [List.take_append_of_le_length (by omega), List.drop_append_of_le_length (by omega), ElsAt.more r _ ds (by rw [List.length_drop]; omega)]
theorem ElsAt.take {l : List Tx} {cs : List V} {n : Nat} (hn : l.length * 6 ≤ n) (hc : n ≤ cs.length) : ElsAt K H l cs ↔ ElsAt K H l (cs.take n) := by
  conv => lhs; rw [← List.take_append_drop n cs]
  exact ElsAt.more l _ _ (by rw [List.length_take]; omega)
theorem ElsAt.drop : ∀ (k : Nat) (l : List Tx) (cs : List V), ElsAt K H l cs → ElsAt K H (l.drop k) (cs.drop (k * 6))
  | 0, l, cs, h => by simpa using h
  | k + 1, [], cs, h => by simp only [List.drop_nil, ElsAt]
  | k + 1, x :: r, cs, h => by
    simp only [ElsAt] at h
    have := ElsAt.drop k r (cs.drop 6) h.2
    rw [List.drop_drop, show 6 + k * 6 = (k + 1) * 6 by omega] at this
    simpa using this
theorem SliceOf.len {z n : Nat} {v : V} {P : List V → Prop} (h : SliceOf K H z n v P) (e : TypeId) : lenV v (some (.slice e)) = some (.int .i64 n) := by
  rcases h with ⟨rfl | rfl, rfl⟩ | ⟨b, off, cap, e, ro, cells, rfl, _⟩ <;> rfl
theorem SliceOf.cells {z n : Nat} {v : V} {P : List V → Prop} (h : SliceOf K H z n v P) : cellsV v = [v] := by
  rcases h with ⟨rfl | rfl, rfl⟩ | ⟨b, off, cap, e, ro, cells, rfl, _⟩ <;> rfl
theorem SliceOf.one {z n : Nat} {v : V} {P : List V → Prop} (h : SliceOf K H z n v P) : oneV v = true := by
  rcases h with ⟨rfl | rfl, rfl⟩ | ⟨b, off, cap, e, ro, cells, rfl, _⟩ <;> rfl
theorem SliceOf.eqv {z n : Nat} {v : V} {P : List V → Prop} (h : SliceOf K H z n v P) : eqV v v = true := by
  rcases h with ⟨rfl | rfl, rfl⟩ | ⟨b, off, cap, e, ro, cells, rfl, _⟩ <;> simp [eqV]
theorem ExpAt.len : ∀ {t : Tx} {cs : List V}, ExpAt K H t cs → cs.length = 6
  | .ex .., cs, h => by simp only [ExpAt] at h; obtain ⟨_, _, _, rfl, _⟩ := h; rfl
  | .st .., cs, h => by simp only [ExpAt] at h; obtain ⟨_, _, _, rfl, _⟩ := h; rfl
theorem ExpAt.ones : ∀ {t : Tx} {cs : List V}, ExpAt K H t cs → cs.all oneV = true
  | .ex .., cs, h => by simp only [ExpAt] at h; obtain ⟨vp, vq, vb, rfl, h1, h2, h3⟩ := h; simp [h1.one, h2.one, h3.one, one_int, one_str]
  | .st .., cs, h => by simp only [ExpAt] at h; obtain ⟨vp, vq, vb, rfl, h1, h2, h3⟩ := h; simp [h1.one, h2.one, h3.one, one_int, one_str]
theorem ExpAt.six {t : Tx} {cs : List V} (h : ExpAt K H t cs) : ∃ c0 c1 c2 c3 c4 c5, cs = [c0, c1, c2, c3, c4, c5] ∧ oneV c0 = true ∧ oneV c1 = true ∧ oneV c2 = true ∧ oneV c3 = true ∧ oneV c4 = true ∧ oneV c5 = true := by
  have h1 := h.len
  have h2 := h.ones
  match cs, h1 with
  | [c0, c1, c2, c3, c4, c5], _ =>
    simp only [List.all_cons, List.all_nil, Bool.and_true, Bool.and_eq_true] at h2
    exact ⟨c0, c1, c2, c3, c4, c5, rfl, h2⟩
/-- Where an element lies. -/
theorem SliceOf.row {z n i : Nat} {v : V} {P : List V → Prop} (h : SliceOf K H z n v P) (hi : i < n) : ∃ b off cap e ro cells, v = .sl b off n cap z ∧ H.get b = some (.row e z ro cells) ∧ K b ∧ b < H.next ∧ off % z = 0 ∧ off + n * z ≤ cells.length ∧ P (cells.drop off) := by
  rcases h with ⟨_, rfl⟩ | h
  · omega
  · obtain ⟨b, off, cap, e, ro, cells, h1, h2, h3, h4, h5, h6, h7, h8⟩ := h
    exact ⟨b, off, cap, e, ro, cells, h1, h2, h3, h4, h5, h6, h7⟩
/-- A slice that is one's own is a slice of K. -/
theorem SliceOf.of_slAt {z n : Nat} {v : V} {e : TypeId} {l : List V} {P : List V → Prop} (h : SlAt H e z v n l) (hk : ∀ b ∈ rowsOf v, K b ∧ b < H.next) (hP : ∀ cs, n * z ≤ cs.length → cs.take (n * z) = l → P cs) : SliceOf K H z n v P := by
  cases h with
  | nil => exact .inl ⟨.inl rfl, rfl⟩
  | row b n cs hg hl =>
    have := hk b (by simp [rowsOf])
    exact .inr ⟨b, 0, none, e, false, cs, rfl, hg, this.1, this.2, by simp, by simpa using hl, by simpa using hP cs hl rfl, fun c hc => by cases hc⟩
theorem TreesAt.of_slAt {n : Nat} {v : V} {e : TypeId} {l : List V} {ts : List Tx} (h : SlAt H e 6 v n l) (hk : ∀ b ∈ rowsOf v, K b ∧ b < H.next) (hn : ts.length = n) (hP : ElsAt K H ts l) : TreesAt K H ts v := by
  subst hn
  exact SliceOf.of_slAt h hk fun cs h1 h2 => by rw [ElsAt.take (Nat.le_refl _) h1, h2]; exact hP
theorem StrsAt.of_slAt {n : Nat} {v : V} {e : TypeId} {ts : List (List UInt8)} (h : SlAt H e 1 v n (ts.map .str)) (hk : ∀ b ∈ rowsOf v, K b ∧ b < H.next) (hn : ts.length = n) : StrsAt K H ts v := by
  subst hn
  exact SliceOf.of_slAt h hk fun cs h1 h2 => by rw [Nat.mul_one] at h2; exact h2
end
/-- Rows that were made since. -/
abbrev since (H0 H : Hp) : Nat → Prop := fun x => H0.next ≤ x ∧ x < H.next
abbrev eqR (r : Nat) : Nat → Prop := fun x => x = r
abbrev twoR (r r' : Nat) : Nat → Prop := fun x => x = r ∨ x = r'
theorem app_flush' {H H' : Hp} {e : TypeId} {z n : Nat} {s s' : V} {l : List V} (hs : H.stale = []) (hS : SlAt H' e z s' n l) (hA : AppR H s H' s') :
    SlAt H'.flush e z s' n l ∧ (∀ c, c < H.next → c ∉ rowsOf s → H'.flush.get c = H.get c) ∧ H'.flush.stale = [] ∧ H.next ≤ H'.flush.next ∧ (∀ r ∈ rowsOf s', r < H'.flush.next ∧ (r ∈ rowsOf s ∨ H.next ≤ r)) := by
  refine ⟨hS.of_get fun b hb => ?_, fun c hc hr => ?_, Hp.stale_flush _, by rw [Hp.next_flush]; exact hA.le, fun r hr => ?_⟩
  · rw [Hp.get_flush, if_neg (hA.new b hb).1]
  · have := hA.keep c hc hr (by simp [hs])
    rw [Hp.get_flush, if_neg this.2]
    exact this.1
  · have := hA.new r hr
    rw [Hp.next_flush]
    exact ⟨this.2.1, this.2.2⟩
/-- Rows that were made since, but for R and a slice's own. -/
abbrev Kv (H0 : Hp) (R : Nat → Prop) (v : V) : Nat → Prop := fun x => H0.next ≤ x ∧ ¬ R x ∧ x ∉ rowsOf v
theorem SlAt.own {H : Hp} {e : TypeId} {z n : Nat} {v : V} {l : List V} (h : SlAt H e z v n l) : ∀ b ∈ rowsOf v, ∃ cs, H.get b = some (.row e z false cs) := by
  cases h with
  | nil => intro b hb; simp [rowsOf] at hb
  | row b n cs hg hl => intro c hc; simp [rowsOf] at hc; subst hc; exact ⟨_, hg⟩
/-- A slice of trees that grows, held by a row's cell (or by nothing but a temporary, where re is none). -/
structure Gro (H0 H : Hp) (R : Nat → Prop) (e : TypeId) (v : V) (ts : List Tx) : Prop where
  st : H.stale = []
  le : H0.next ≤ H.next
  sl : ∃ l, SlAt H e 6 v ts.length l ∧ ElsAt (Kv H0 R v) H ts l
  rows : ∀ b ∈ rowsOf v, H0.next ≤ b ∧ b < H.next ∧ ¬ R b
theorem Gro.nil {H0 H : Hp} {R : Nat → Prop} {e : TypeId} (hs : H.stale = []) (hl : H0.next ≤ H.next) : Gro H0 H R e .nils [] :=
  ⟨hs, hl, ⟨[], .nil, trivial⟩, fun b hb => by simp [rowsOf] at hb⟩
/-- The rows of R are other ones. -/
theorem Gro.of_get {H0 H H' : Hp} {R : Nat → Prop} {e : TypeId} {v : V} {ts : List Tx} (h : Gro H0 H R e v ts) (hs : H'.stale = []) (hl : H.next ≤ H'.next) (hg : ∀ b, H0.next ≤ b → b < H.next → ¬ R b → H'.get b = H.get b) : Gro H0 H' R e v ts := by
  obtain ⟨h1, h2, ⟨l, h3, h4⟩, h5⟩ := h
  refine ⟨hs, by omega, ⟨l, h3.of_get fun b hb => ?_, ElsAt.mono ⟨fun b hb hx => hb, fun b hb hx => hg b hb.1 hx hb.2.1, hl⟩ _ _ h4⟩, fun b hb => ?_⟩
  · have := h5 b hb; exact hg b this.1 this.2.1 this.2.2
  · have := h5 b hb; exact ⟨this.1, by omega, this.2.2⟩
/-- One tree more. -/
theorem Gro.step {H0 H H2 Hb H3 H4 : Hp} {X R : Nat → Prop} {e : TypeId} {v v' : V} {ts : List Tx} {t : Tx} {l ds : List V} (hG : Gro H0 H R e v ts) (hsl : SlAt H e 6 v ts.length l) (hel : ElsAt (Kv H0 R v) H ts l)
    (hRl : ∀ b, R b → b < H.next) (hX2 : Ext X H H2) (hXo : ∀ b, H0.next ≤ b → ¬ R b → ¬ X b) (hT : ExpAt (since H H2) H2 t ds) (hS : SlAt H3 e 6 v' (ts.length + 1) (l ++ ds)) (hb : Hb = H2 ∨ Hb = H2.bump) (hA : AppR Hb v H3 v')
    (hs4 : H4.stale = []) (hn4 : H3.next ≤ H4.next) (hg : ∀ b, ¬ R b → H4.get b = H3.flush.get b) : Gro H0 H4 R e v' (ts ++ [t]) ∧ (∀ b, b < H2.next → ¬ R b → b ∉ rowsOf v → H4.get b = H2.get b) ∧ Stays (Kv H0 R v) (Kv H0 R v') H H4 := by
  have s2 := hX2.st
  have hbs : Hb.stale = [] := by rcases hb with rfl | rfl <;> exact s2
  have hbn : H2.next ≤ Hb.next := by
    rcases hb with rfl | rfl
    · exact Nat.le_refl _
    · exact Nat.le_succ _
  have hbg : ∀ c, Hb.get c = H2.get c := fun c => by rcases hb with rfl | rfl <;> rfl
  obtain ⟨k1, k2, k3, k4, k5⟩ := app_flush' hbs hS hA
  have hle := hX2.le
  have h02 := hG.le
  rw [Hp.next_flush] at k4 k5
  have keep : ∀ b, b < H2.next → ¬ R b → b ∉ rowsOf v → H4.get b = H2.get b := fun b hb hR hr => by
    rw [hg b hR, k2 b (by omega) hr, hbg]
  have hnew : ∀ b ∈ rowsOf v', H0.next ≤ b ∧ b < H4.next ∧ ¬ R b := fun b hb => by
    obtain ⟨g1, g2⟩ := k5 b hb
    rcases g2 with g2 | g2
    · have := hG.rows b g2; exact ⟨this.1, by omega, this.2.2⟩
    · exact ⟨by omega, by omega, fun h => by have := hRl b h; omega⟩
  have hdl := hT.len
  have hll := hsl.len
  have st1 : Stays (Kv H0 R v) (Kv H0 R v') H H4 := by
    refine ⟨fun b hb hx => ⟨hb.1, hb.2.1, fun h => ?_⟩, fun b hb hx => ?_, by omega⟩
    · rcases (k5 b h).2 with g | g
      · exact hb.2.2 g
      · omega
    · rw [keep b (by omega) hb.2.1 hb.2.2]
      exact hX2.get b hx (hXo b hb.1 hb.2.1)
  refine ⟨⟨hs4, by omega, ⟨l ++ ds, ?_, ?_⟩, hnew⟩, keep, st1⟩
  · rw [List.length_append]
    exact k1.of_get fun b hb => hg b (hnew b hb).2.2
  · have hr : ∀ b, H.next ≤ b → b ∉ rowsOf v := fun b hb h => by have := (hG.rows b h).2.1; omega
    have hRn : ∀ b, H.next ≤ b → ¬ R b := fun b hb h => by have := hRl b h; omega
    have st2 : Stays (since H H2) (Kv H0 R v') H2 H4 := by
      refine ⟨fun b hb hx => ⟨by omega, hRn b hb.1, fun h => ?_⟩, fun b hb hx => keep b hx (hRn b hb.1) (hr b hb.1), by omega⟩
      rcases (k5 b h).2 with g | g
      · exact hr b hb.1 g
      · omega
    refine ElsAt.app ts t l ds hll (ElsAt.mono st1 _ _ hel) ?_
    rw [List.take_of_length_le (by omega)]
    exact ExpAt.mono st2 _ _ hT
/-- A slice of texts that grows. -/
structure SGro (H0 H : Hp) (R : Nat → Prop) (e : TypeId) (v : V) (ps : List (List UInt8)) : Prop where
  st : H.stale = []
  le : H0.next ≤ H.next
  sl : SlAt H e 1 v ps.length (ps.map .str)
  rows : ∀ b ∈ rowsOf v, H0.next ≤ b ∧ b < H.next ∧ ¬ R b
theorem SGro.step {H0 H H2 Hb H3 H4 : Hp} {X R : Nat → Prop} {e : TypeId} {v v' : V} {ps : List (List UInt8)} {s : List UInt8} (hG : SGro H0 H R e v ps)
    (hRl : ∀ b, R b → b < H.next) (hX2 : Ext X H H2) (hS : SlAt H3 e 1 v' (ps.length + 1) (ps.map .str ++ [.str s])) (hb : Hb = H2 ∨ Hb = H2.bump) (hA : AppR Hb v H3 v')
    (hs4 : H4.stale = []) (hn4 : H3.next ≤ H4.next) (hg : ∀ b, ¬ R b → H4.get b = H3.flush.get b) : SGro H0 H4 R e v' (ps ++ [s]) ∧ (∀ b, b < H2.next → ¬ R b → b ∉ rowsOf v → H4.get b = H2.get b) := by
  have s2 := hX2.st
  have hbs : Hb.stale = [] := by rcases hb with rfl | rfl <;> exact s2
  have hbn : H2.next ≤ Hb.next := by
    rcases hb with rfl | rfl
    · exact Nat.le_refl _
    · exact Nat.le_succ _
  have hbg : ∀ c, Hb.get c = H2.get c := fun c => by rcases hb with rfl | rfl <;> rfl
  obtain ⟨k1, k2, k3, k4, k5⟩ := app_flush' hbs hS hA
  have hle := hX2.le
  have h02 := hG.le
  rw [Hp.next_flush] at k4 k5
  have keep : ∀ b, b < H2.next → ¬ R b → b ∉ rowsOf v → H4.get b = H2.get b := fun b hb hR hr => by
    rw [hg b hR, k2 b (by omega) hr, hbg]
  have hnew : ∀ b ∈ rowsOf v', H0.next ≤ b ∧ b < H4.next ∧ ¬ R b := fun b hb => by
    obtain ⟨g1, g2⟩ := k5 b hb
    rcases g2 with g2 | g2
    · have := hG.rows b g2; exact ⟨this.1, by omega, this.2.2⟩
    · exact ⟨by omega, by omega, fun h => by have := hRl b h; omega⟩
  refine ⟨⟨hs4, by omega, ?_, hnew⟩, keep⟩
  rw [List.length_append, List.map_append]
  exact k1.of_get fun b hb => hg b (hnew b hb).2.2
theorem SGro.of_get {H0 H H' : Hp} {R : Nat → Prop} {e : TypeId} {v : V} {ps : List (List UInt8)} (h : SGro H0 H R e v ps) (hs : H'.stale = []) (hl : H.next ≤ H'.next) (hg : ∀ b, H0.next ≤ b → b < H.next → ¬ R b → H'.get b = H.get b) : SGro H0 H' R e v ps := by
  obtain ⟨h1, h2, h3, h5⟩ := h
  refine ⟨hs, by omega, h3.of_get fun b hb => ?_, fun b hb => ?_⟩
  · have := h5 b hb; exact hg b this.1 this.2.1 this.2.2
  · have := h5 b hb; exact ⟨this.1, by omega, this.2.2⟩
theorem Gro.trees {H0 H H' : Hp} {R K : Nat → Prop} {e : TypeId} {v : V} {ts : List Tx} (h : Gro H0 H R e v ts) (hg : ∀ b, H0.next ≤ b → b < H.next → ¬ R b → K b ∧ H'.get b = H.get b) (hl : H.next ≤ H'.next) : TreesAt K H' ts v := by
  obtain ⟨h1, h2, ⟨l, h3, h4⟩, h5⟩ := h
  refine TreesAt.of_slAt (h3.of_get fun b hb => ?_) (fun b hb => ?_) rfl (ElsAt.mono ⟨fun b hb hx => (hg b hb.1 hx hb.2.1).1, fun b hb hx => (hg b hb.1 hx hb.2.1).2, hl⟩ _ _ h4)
  · have := h5 b hb; exact (hg b this.1 this.2.1 this.2.2).2
  · have := h5 b hb; exact ⟨(hg b this.1 this.2.1 this.2.2).1, by omega⟩
theorem StrsAt.at_ {K : Nat → Prop} {H : Hp} {l : List (List UInt8)} {v : V} (h : StrsAt K H l v) {i : Nat} (hi : i < l.length) : ∃ b off cap e ro cells, v = .sl b off l.length cap 1 ∧ H.get b = some (.row e 1 ro cells) ∧ K b ∧ b < H.next ∧ off + l.length ≤ cells.length ∧ cells[off + i]? = some (.str l[i]) := by
  obtain ⟨b, off, cap, e, ro, cells, h1, h2, h3, h4, h5, h6, h7⟩ := h.row hi
  refine ⟨b, off, cap, e, ro, cells, h1, h2, h3, h4, by omega, ?_⟩
  have := congrArg (fun x => x[i]?) h7
  simp only [List.getElem?_take, hi, if_true, List.getElem?_drop, List.getElem?_map, List.getElem?_eq_getElem hi, Option.map_some] at this
  exact this
/-- Where an element of trees lies. -/
theorem TreesAt.at_ {K : Nat → Prop} {H : Hp} {l : List Tx} {v : V} (h : TreesAt K H l v) {i : Nat} (hi : i < l.length) : ∃ b off cap e ro cells d0 d1 d2 d3 d4 d5, v = .sl b off l.length cap 6 ∧ H.get b = some (.row e 6 ro cells) ∧ K b ∧ b < H.next ∧ off % 6 = 0 ∧ off + l.length * 6 ≤ cells.length ∧ (cells.drop (off + i * 6)).take 6 = [d0, d1, d2, d3, d4, d5] ∧ ExpAt K H l[i] [d0, d1, d2, d3, d4, d5] ∧
    oneV d0 = true ∧ oneV d1 = true ∧ oneV d2 = true ∧ oneV d3 = true ∧ oneV d4 = true ∧ oneV d5 = true := by
  obtain ⟨b, off, cap, e, ro, cells, h1, h2, h3, h4, h5, h6, h7⟩ := h.row hi
  have := ElsAt.at_ l _ i hi h7
  rw [List.drop_drop] at this
  obtain ⟨d0, d1, d2, d3, d4, d5, e1, e2⟩ := this.six
  rw [e1] at this
  exact ⟨b, off, cap, e, ro, cells, d0, d1, d2, d3, d4, d5, h1, h2, h3, h4, h5, h6, e1, this, e2⟩
end Go.AM
/- Trees made of small numbers: the maker, as plain functions. -/
set_option linter.unusedVariables false
set_option linter.unusedSimpArgs false
namespace Go.AM
open Go
/-- What a tree is made of. -/
structure X4 where
  d : Nat
  a : Nat
  n : Nat
  s : Nat
structure X4.ok (x : X4) : Prop where
  d : x.d < 256
  a : x.a < 256
  n : x.n < 65536
  s : x.s < 256
def X4.cs (x : X4) : List V := [.int .u8 x.d, .int .u8 x.a, .int .u16 x.n, .int .u8 x.s]
structure MS where
  l : List X4
  left : Int
def nextX (m : MS) : X4 := match m.l with | [] => ⟨0, 0, 0, 0⟩ | x :: _ => x
def nextM (m : MS) : MS := ⟨m.l.tail, m.left - 1⟩
def nameL : List (List UInt8) := [[97], [98], [99], [100], [102], [108, 101, 110], [120, 49], [95, 121]]
def textL : List (List UInt8) := [[], [107], [97], [115, 101, 97, 108], [116, 119, 111, 32, 119, 111, 114, 100, 115], [113, 34, 92, 10, 122]]
def nameT (n : Nat) : List UInt8 := (nameL[n % 8]?).getD []
def textT (n : Nat) : List UInt8 := (textL[n % 6]?).getD []
def manyP (g : MS → Tx × MS) : Nat → MS → List Tx × MS
  | 0, m => ([], m)
  | k + 1, m => ((g m).1 :: (manyP g k (g m).2).1, (manyP g k (g m).2).2)
def stmtsP (g : MS → Tx × MS) : Nat → MS → List Tx × MS
  | 0, m => ([], m)
  | k + 1, m => if m.left ≤ 0 then ([], m) else ((g m).1 :: (stmtsP g k (g m).2).1, (stmtsP g k (g m).2).2)
def opP (deep : Int) (m1 : MS) (x : X4) : Nat := if deep ≤ 0 ∨ m1.left ≤ 0 then (x.d % 18) % 6 else x.d % 18
def numP (op : Nat) (x : X4) : Int := if op = 3 then (x.n : Int) * (if x.a % 3 = 2 then 1099511627776 else 1) else 0
def textP (op : Nat) (x : X4) : List UInt8 := if op = 4 then textT x.s else if op = 5 then nameT x.s else []
def paramsP (op : Nat) (x : X4) : List (List UInt8) := if op = 17 then (List.range (x.a % 3)).map fun i => nameT ((x.s + i) % 256) else []
def countP (op : Nat) (x : X4) : Nat := if op = 6 ∨ op = 7 then 1 else if op = 15 then 1 + x.a % 3 else if op = 16 then 2 * (x.a % 3) else if op = 17 then 0 else if op > 7 then 2 else 0
def kindP (deep : Int) (x : X4) : Nat := if deep ≤ 0 ∧ (x.d % 9 = 3 ∨ x.d % 9 = 4 ∨ x.d % 9 = 7) then 8 else x.d % 9
def scountP (kind : Nat) : Nat := if kind = 2 then 3 else if kind = 7 then 0 else 1
def snameP (kind : Nat) (x : X4) : List UInt8 := if kind = 0 ∨ kind = 1 ∨ kind = 7 then nameT x.s else []
mutual
def exprP : Nat → Int → MS → Tx × MS
  | 0, _, m => (.ex 0 0 [] [] [] [], m)
  | f + 1, deep, m =>
    let x := nextX m
    let m1 := nextM m
    let op := opP deep m1 x
    let b := if op = 17 then stmtsP (stmtP f (deep - 1)) (x.n % 3) m1 else ([], m1)
    let ps := manyP (exprP f (deep - 1)) (countP op x) b.2
    (.ex op (numP op x) (textP op x) ps.1 (paramsP op x) b.1, ps.2)
def stmtP : Nat → Int → MS → Tx × MS
  | 0, _, m => (.st 7 [] [] [] [] 0, m)
  | f + 1, deep, m =>
    let x := nextX m
    let m1 := nextM m
    let k := kindP deep x
    let es := manyP (exprP f (deep - 1)) (scountP k) m1
    let b := if k = 3 ∨ k = 7 ∨ k = 4 then stmtsP (stmtP f (deep - 1)) (x.a % 3) es.2 else ([], es.2)
    let e := if k = 3 ∨ k = 7 then stmtsP (stmtP f (deep - 1)) (x.n % 3) b.2 else ([], b.2)
    (.st k (snameP k x) es.1 b.1 e.1 0, e.2)
end
/-- Statements, as long as there are numbers. -/
def allP (g : MS → Tx × MS) : Nat → MS → List Tx × MS
  | 0, m => ([], m)
  | k + 1, m => if m.l = [] ∨ m.left ≤ 0 then ([], m) else ((g m).1 :: (allP g k (g m).2).1, (allP g k (g m).2).2)
def makeP (l : List X4) : List Tx := (allP (stmtP 8 3) (l.length + 1) ⟨l, min (2 * l.length + 2) 120⟩).1
/-- The numbers of the list are in order. -/
def MS.ok (m : MS) : Prop := (∀ x ∈ m.l, x.ok) ∧ -1000000 ≤ m.left ∧ m.left ≤ 120
/-- Not too much is taken. -/
structure Dec (c : Nat) (m m' : MS) : Prop where
  lo : m.left - (c : Int) ≤ m'.left
  up : m'.left ≤ m.left
  sub : ∀ x ∈ m'.l, x ∈ m.l
  len : m'.l.length ≤ m.l.length
theorem Dec.refl (c : Nat) (m : MS) : Dec c m m := ⟨by omega, Int.le_refl _, fun _ h => h, Nat.le_refl _⟩
theorem Dec.trans {c c' : Nat} {m m' m'' : MS} (h : Dec c m m') (h' : Dec c' m' m'') : Dec (c + c') m m'' :=
  ⟨by have := h.lo; have := h'.lo; omega, Int.le_trans h'.up h.up, fun x hx => h.sub x (h'.sub x hx), Nat.le_trans h'.len h.len⟩
theorem Dec.mono {c c' : Nat} {m m' : MS} (h : Dec c m m') (hc : c ≤ c') : Dec c' m m' := ⟨by have := h.lo; omega, h.up, h.sub, h.len⟩
theorem nextM_dec (m : MS) : Dec 1 m (nextM m) := ⟨by simp [nextM], by simp [nextM]; omega, fun x hx => List.mem_of_mem_tail hx, by simp [nextM]⟩
theorem manyP_dec {g : MS → Tx × MS} {c : Nat} (hg : ∀ m, Dec c m (g m).2) : ∀ (k : Nat) (m : MS), Dec (c * k) m (manyP g k m).2
  | 0, m => Dec.refl _ _
  | k + 1, m => by
    rw [manyP, Nat.mul_succ, Nat.add_comm]
    exact (hg m).trans (manyP_dec hg k _)
theorem stmtsP_dec {g : MS → Tx × MS} {c : Nat} (hg : ∀ m, Dec c m (g m).2) : ∀ (k : Nat) (m : MS), Dec (c * k) m (stmtsP g k m).2
  | 0, m => Dec.refl _ _
  | k + 1, m => by
    rw [stmtsP]
    split
    · exact Dec.refl _ _
    · rw [Nat.mul_succ, Nat.add_comm]
      exact (hg m).trans (stmtsP_dec hg k _)
theorem countP_le (op : Nat) (x : X4) : countP op x ≤ 4 := by
  have : x.a % 3 < 3 := Nat.mod_lt _ (by omega)
  unfold countP
  split
  · omega
  · split
    · omega
    · split
      · omega
      · split
        · omega
        · split <;> omega
theorem scountP_le (k : Nat) : scountP k ≤ 3 := by
  unfold scountP
  split
  · omega
  · split <;> omega
mutual
theorem exprP_dec : ∀ (f : Nat) (deep : Int) (m : MS), Dec (8 ^ f) m (exprP f deep m).2
  | 0, deep, m => by rw [exprP]; exact Dec.refl _ _
  | f + 1, deep, m => by
    have he := manyP_dec (exprP_dec f (deep - 1))
    have hs := stmtsP_dec (stmtP_dec f (deep - 1))
    have hc := countP_le (opP deep (nextM m) (nextX m)) (nextX m)
    have hk : (nextX m).n % 3 ≤ 2 := by have := Nat.mod_lt (nextX m).n (show 0 < 3 by omega); omega
    have hp : 1 ≤ 8 ^ f := Nat.pow_pos (by omega)
    rw [exprP]
    dsimp only
    have hb : Dec (8 ^ f * 2) (nextM m) (if opP deep (nextM m) (nextX m) = 17 then stmtsP (stmtP f (deep - 1)) ((nextX m).n % 3) (nextM m) else ([], nextM m)).2 := by
      split
      · exact (hs _ _).mono (Nat.mul_le_mul_left _ hk)
      · exact Dec.refl _ _
    refine (((nextM_dec m).trans hb).trans (he _ _)).mono ?_
    have := Nat.mul_le_mul_left (8 ^ f) hc
    rw [Nat.pow_succ]
    omega
theorem stmtP_dec : ∀ (f : Nat) (deep : Int) (m : MS), Dec (8 ^ f) m (stmtP f deep m).2
  | 0, deep, m => by rw [stmtP]; exact Dec.refl _ _
  | f + 1, deep, m => by
    have he := manyP_dec (exprP_dec f (deep - 1))
    have hs := stmtsP_dec (stmtP_dec f (deep - 1))
    have hc := scountP_le (kindP deep (nextX m))
    have hk : (nextX m).n % 3 ≤ 2 := by have := Nat.mod_lt (nextX m).n (show 0 < 3 by omega); omega
    have ha : (nextX m).a % 3 ≤ 2 := by have := Nat.mod_lt (nextX m).a (show 0 < 3 by omega); omega
    have hp : 1 ≤ 8 ^ f := Nat.pow_pos (by omega)
    rw [stmtP]
    dsimp only
    generalize hes : manyP (exprP f (deep - 1)) (scountP (kindP deep (nextX m))) (nextM m) = es
    have h1 : Dec (8 ^ f * 3) (nextM m) es.2 := by rw [← hes]; exact (he _ _).mono (Nat.mul_le_mul_left _ hc)
    generalize hb : (if kindP deep (nextX m) = 3 ∨ kindP deep (nextX m) = 7 ∨ kindP deep (nextX m) = 4 then stmtsP (stmtP f (deep - 1)) ((nextX m).a % 3) es.2 else ([], es.2)) = b
    have h2 : Dec (8 ^ f * 2) es.2 b.2 := by
      rw [← hb]
      split
      · exact (hs _ _).mono (Nat.mul_le_mul_left _ ha)
      · exact Dec.refl _ _
    have h3 : Dec (8 ^ f * 2) b.2 (if kindP deep (nextX m) = 3 ∨ kindP deep (nextX m) = 7 then stmtsP (stmtP f (deep - 1)) ((nextX m).n % 3) b.2 else ([], b.2)).2 := by
      split
      · exact (hs _ _).mono (Nat.mul_le_mul_left _ hk)
      · exact Dec.refl _ _
    refine ((((nextM_dec m).trans h1).trans h2).trans h3).mono ?_
    rw [Nat.pow_succ]
    omega
end
/-- Part of a row of trees, done. -/
theorem manyP_step {g : MS → Tx × MS} {K i : Nat} {m0 mi : MS} {ts : List Tx} (h : manyP g K m0 = (ts ++ (manyP g (K - i) mi).1, (manyP g (K - i) mi).2)) (hi : i < K) : manyP g K m0 = ((ts ++ [(g mi).1]) ++ (manyP g (K - (i + 1)) (g mi).2).1, (manyP g (K - (i + 1)) (g mi).2).2) := by
  rw [h, show K - i = (K - (i + 1)) + 1 by omega, manyP]
  simp
theorem stmtP_len (f : Nat) (deep : Int) (m : MS) : (stmtP (f + 1) deep m).2.l.length ≤ (nextM m).l.length := by
  have he := manyP_dec (exprP_dec f (deep - 1))
  have hs := stmtsP_dec (stmtP_dec f (deep - 1))
  rw [stmtP]
  dsimp only
  generalize hes : manyP (exprP f (deep - 1)) (scountP (kindP deep (nextX m))) (nextM m) = es
  have h1 : es.2.l.length ≤ (nextM m).l.length := by rw [← hes]; exact (he _ _).len
  generalize hb : (if kindP deep (nextX m) = 3 ∨ kindP deep (nextX m) = 7 ∨ kindP deep (nextX m) = 4 then stmtsP (stmtP f (deep - 1)) ((nextX m).a % 3) es.2 else ([], es.2)) = b
  have h2 : b.2.l.length ≤ es.2.l.length := by
    rw [← hb]
    split
    · exact (hs _ _).len
    · exact Nat.le_refl _
  have h3 : (if kindP deep (nextX m) = 3 ∨ kindP deep (nextX m) = 7 then stmtsP (stmtP f (deep - 1)) ((nextX m).n % 3) b.2 else ([], b.2)).2.l.length ≤ b.2.l.length := by
    split
    · exact (hs _ _).len
    · exact Nat.le_refl _
  exact Nat.le_trans h3 (Nat.le_trans h2 h1)
end Go.AM
/- The names that a function uses, as plain functions of its tree. -/
set_option linter.unusedVariables false
set_option linter.unusedSimpArgs false
namespace Go.AM
open Go
abbrev Ts := List (List UInt8)
/-- A name is used. -/
def useP (own out : Ts) (name : List UInt8) : Ts := if name ∈ own ∨ name ∈ out then out else out ++ [name]
/-- What is one's own behind a statement. -/
def ownP (own : Ts) : Tx → Ts
  | .st kind name _ _ _ _ => if kind = 0 then own ++ [name] else own
  | .ex .. => own
def caughtP (own : Ts) : Tx → Ts
  | .st kind name _ _ _ _ => if kind = 7 then own ++ [name] else own
  | .ex .. => own
mutual
def freeE : Tx → Ts → Ts → Ts
  | .ex op _ text parts params body, own, out =>
    freeEs parts own (if op = 17 then (freeB body params []).foldl (useP own) out else if op = 5 then useP own out text else out)
  | .st .., _, out => out
def freeEs : List Tx → Ts → Ts → Ts
  | [], _, out => out
  | x :: r, own, out => freeEs r own (freeE x own out)
/-- What is within a statement. -/
def freeS : Tx → Ts → Ts → Ts
  | .st kind name es b e _, own, out =>
    let o1 := freeEs es own out
    let own1 := if kind = 0 then own ++ [name] else own
    let o2 := if kind = 1 then useP own o1 name else o1
    freeB e (if kind = 7 then own ++ [name] else own1) (freeB b own1 o2)
  | .ex .., _, out => out
def freeB : List Tx → Ts → Ts → Ts
  | [], _, out => out
  | s :: r, own, out => freeB r (ownP own s) (freeS s own out)
end
mutual
/-- It is an expression: and all in it is what it must be. -/
def Tx.eok : Tx → Prop
  | .ex _ _ _ ps _ b => eoks ps ∧ soks b
  | .st .. => False
def Tx.sok : Tx → Prop
  | .st _ _ es b e _ => eoks es ∧ soks b ∧ soks e
  | .ex .. => False
def eoks : List Tx → Prop
  | [] => True
  | x :: r => x.eok ∧ eoks r
def soks : List Tx → Prop
  | [] => True
  | x :: r => x.sok ∧ soks r
end
theorem many_eok {g : MS → Tx × MS} (hg : ∀ m, (g m).1.eok) : ∀ (k : Nat) (m : MS), eoks (manyP g k m).1
  | 0, m => by simp only [manyP, eoks]
  | k + 1, m => by simp only [manyP, eoks]; exact ⟨hg m, many_eok hg k _⟩
theorem stmts_sok {g : MS → Tx × MS} (hg : ∀ m, (g m).1.sok) : ∀ (k : Nat) (m : MS), soks (stmtsP g k m).1
  | 0, m => by simp only [stmtsP, soks]
  | k + 1, m => by
    rw [stmtsP]
    split
    · simp only [soks]
    · simp only [soks]; exact ⟨hg m, stmts_sok hg k _⟩
mutual
theorem exprP_eok : ∀ (f : Nat) (deep : Int) (m : MS), (exprP f deep m).1.eok
  | 0, deep, m => by simp only [exprP, Tx.eok, eoks, soks, and_self]
  | f + 1, deep, m => by
    rw [exprP]
    dsimp only
    simp only [Tx.eok]
    refine ⟨many_eok (exprP_eok f (deep - 1)) _ _, ?_⟩
    split
    · exact stmts_sok (stmtP_sok f (deep - 1)) _ _
    · simp only [soks]
theorem stmtP_sok : ∀ (f : Nat) (deep : Int) (m : MS), (stmtP f deep m).1.sok
  | 0, deep, m => by simp only [stmtP, Tx.sok, eoks, soks, and_self]
  | f + 1, deep, m => by
    rw [stmtP]
    dsimp only
    simp only [Tx.sok]
    refine ⟨many_eok (exprP_eok f (deep - 1)) _ _, ?_, ?_⟩
    · split
      · exact stmts_sok (stmtP_sok f (deep - 1)) _ _
      · simp only [soks]
    · split
      · exact stmts_sok (stmtP_sok f (deep - 1)) _ _
      · simp only [soks]
end
mutual
/-- How much there is in a tree. -/
def Tx.wt : Tx → Nat
  | .ex _ _ _ ps qs b => 1 + qs.length + wts ps + wts b
  | .st _ _ es b e _ => 1 + wts es + wts b + wts e
def wts : List Tx → Nat
  | [] => 0
  | x :: r => x.wt + wts r
end
theorem useP_len (own out : Ts) (n : List UInt8) : (useP own out n).length ≤ out.length + 1 := by
  unfold useP; split <;> simp
theorem fold_len (own : Ts) : ∀ (L out : Ts), (L.foldl (useP own) out).length ≤ out.length + L.length
  | [], out => by simp
  | x :: r, out => by
    have h1 := fold_len own r (useP own out x)
    have h2 := useP_len own out x
    simp only [List.foldl_cons, List.length_cons]
    omega
theorem if_len {c : Prop} [Decidable c] {a b : Ts} {n : Nat} (ha : c → a.length ≤ n) (hb : ¬ c → b.length ≤ n) : (if c then a else b).length ≤ n := by
  split
  · exact ha (by assumption)
  · exact hb (by assumption)
mutual
theorem freeE_len : ∀ (t : Tx) (own out : Ts), (freeE t own out).length ≤ out.length + t.wt
  | .ex op num text parts params body, own, out => by
    simp only [freeE, Tx.wt]
    have h1 := freeEs_len parts own (if op = 17 then (freeB body params []).foldl (useP own) out else if op = 5 then useP own out text else out)
    have h2 := freeB_len body params []
    have h3 := fold_len own (freeB body params []) out
    have h4 := useP_len own out text
    have h5 : (if op = 17 then (freeB body params []).foldl (useP own) out else if op = 5 then useP own out text else out).length ≤ out.length + 1 + wts body := by
      simp only [List.length_nil] at h2
      refine if_len (fun _ => by omega) fun _ => if_len (fun _ => by omega) fun _ => by omega
    omega
  | .st .., own, out => by simp only [freeE]; omega
theorem freeEs_len : ∀ (l : List Tx) (own out : Ts), (freeEs l own out).length ≤ out.length + wts l
  | [], own, out => by simp only [freeEs, wts]; omega
  | x :: r, own, out => by
    simp only [freeEs, wts]
    have h1 := freeE_len x own out
    have h2 := freeEs_len r own (freeE x own out)
    omega
theorem freeS_len : ∀ (t : Tx) (own out : Ts), (ownP own t).length + (freeS t own out).length ≤ own.length + out.length + t.wt
  | .st kind name es b e at_, own, out => by
    simp only [freeS, Tx.wt, ownP]
    have h1 := freeEs_len es own out
    generalize freeEs es own out = o1 at *
    have h2 := useP_len (if kind = 0 then own ++ [name] else own) o1 name
    by_cases hk : kind = 0
    · subst hk
      simp only [if_true, show ¬ (0 : Nat) = 1 by decide, show ¬ (0 : Nat) = 7 by decide, if_false]
      have h3 := freeB_len b (own ++ [name]) o1
      have h4 := freeB_len e (own ++ [name]) (freeB b (own ++ [name]) o1)
      simp only [List.length_append, List.length_cons, List.length_nil]
      omega
    · simp only [hk, if_false] at *
      have h3 := freeB_len b own (if kind = 1 then useP own o1 name else o1)
      have h4 := freeB_len e (if kind = 7 then own ++ [name] else own) (freeB b own (if kind = 1 then useP own o1 name else o1))
      have h5 : (if kind = 1 then useP own o1 name else o1).length ≤ o1.length + 1 := if_len (fun _ => by omega) fun _ => by omega
      omega
  | .ex .., own, out => by simp only [freeS, ownP]; omega
theorem freeB_len : ∀ (l : List Tx) (own out : Ts), (freeB l own out).length ≤ out.length + wts l
  | [], own, out => by simp only [freeB, wts]; omega
  | x :: r, own, out => by
    simp only [freeB, wts]
    have h1 := freeS_len x own out
    have h2 := freeB_len r (ownP own x) (freeS x own out)
    have h3 : own.length ≤ (ownP own x).length := by cases x <;> simp only [ownP] <;> (try split) <;> simp
    omega
end
theorem many_wt {g : MS → Tx × MS} {c : Nat} (hg : ∀ m, (g m).1.wt ≤ c) : ∀ (k : Nat) (m : MS), wts (manyP g k m).1 ≤ c * k
  | 0, m => by simp only [manyP, wts]; omega
  | k + 1, m => by
    simp only [manyP, wts]
    have := many_wt hg k (g m).2
    have := hg m
    rw [Nat.mul_succ]; omega
theorem stmts_wt {g : MS → Tx × MS} {c : Nat} (hg : ∀ m, (g m).1.wt ≤ c) : ∀ (k : Nat) (m : MS), wts (stmtsP g k m).1 ≤ c * k
  | 0, m => by simp only [stmtsP, wts]; omega
  | k + 1, m => by
    rw [stmtsP]
    split
    · simp only [wts]; omega
    · simp only [wts]
      have := stmts_wt hg k (g m).2
      have := hg m
      rw [Nat.mul_succ]; omega
mutual
theorem exprP_wt : ∀ (f : Nat) (deep : Int) (m : MS), (exprP f deep m).1.wt ≤ 8 ^ f * 3
  | 0, deep, m => by simp only [exprP, Tx.wt, wts, List.length_nil]; omega
  | f + 1, deep, m => by
    have hc := countP_le (opP deep (nextM m) (nextX m)) (nextX m)
    have hk : (nextX m).n % 3 ≤ 2 := by have := Nat.mod_lt (nextX m).n (show 0 < 3 by omega); omega
    have ha : (nextX m).a % 3 ≤ 2 := by have := Nat.mod_lt (nextX m).a (show 0 < 3 by omega); omega
    have hp : 1 ≤ 8 ^ f := Nat.pow_pos (by omega)
    rw [exprP]
    dsimp only
    simp only [Tx.wt]
    generalize hb : (if opP deep (nextM m) (nextX m) = 17 then stmtsP (stmtP f (deep - 1)) ((nextX m).n % 3) (nextM m) else ([], nextM m)) = b
    have h1 := many_wt (exprP_wt f (deep - 1)) (countP (opP deep (nextM m) (nextX m)) (nextX m)) b.2
    have h2 : wts b.1 ≤ 8 ^ f * 3 * 2 := by
      rw [← hb]
      split
      · exact Nat.le_trans (stmts_wt (stmtP_wt f (deep - 1)) _ _) (Nat.mul_le_mul_left _ hk)
      · simp only [wts]; omega
    have h3 : (paramsP (opP deep (nextM m) (nextX m)) (nextX m)).length ≤ 2 := by
      unfold paramsP
      split
      · simp; omega
      · simp
    have h4 := Nat.mul_le_mul_left (8 ^ f * 3) hc
    rw [Nat.pow_succ]
    omega
theorem stmtP_wt : ∀ (f : Nat) (deep : Int) (m : MS), (stmtP f deep m).1.wt ≤ 8 ^ f * 3
  | 0, deep, m => by simp only [stmtP, Tx.wt, wts]; omega
  | f + 1, deep, m => by
    have hc := scountP_le (kindP deep (nextX m))
    have hk : (nextX m).n % 3 ≤ 2 := by have := Nat.mod_lt (nextX m).n (show 0 < 3 by omega); omega
    have ha : (nextX m).a % 3 ≤ 2 := by have := Nat.mod_lt (nextX m).a (show 0 < 3 by omega); omega
    have hp : 1 ≤ 8 ^ f := Nat.pow_pos (by omega)
    rw [stmtP]
    dsimp only
    simp only [Tx.wt]
    have h1 := Nat.le_trans (many_wt (exprP_wt f (deep - 1)) (scountP (kindP deep (nextX m))) (nextM m)) (Nat.mul_le_mul_left _ hc)
    generalize manyP (exprP f (deep - 1)) (scountP (kindP deep (nextX m))) (nextM m) = es at *
    generalize hb : (if kindP deep (nextX m) = 3 ∨ kindP deep (nextX m) = 7 ∨ kindP deep (nextX m) = 4 then stmtsP (stmtP f (deep - 1)) ((nextX m).a % 3) es.2 else ([], es.2)) = b
    have h2 : wts b.1 ≤ 8 ^ f * 3 * 2 := by
      rw [← hb]
      split
      · exact Nat.le_trans (stmts_wt (stmtP_wt f (deep - 1)) _ _) (Nat.mul_le_mul_left _ ha)
      · simp only [wts]; omega
    have h3 : wts (if kindP deep (nextX m) = 3 ∨ kindP deep (nextX m) = 7 then stmtsP (stmtP f (deep - 1)) ((nextX m).n % 3) b.2 else ([], b.2)).1 ≤ 8 ^ f * 3 * 2 := by
      split
      · exact Nat.le_trans (stmts_wt (stmtP_wt f (deep - 1)) _ _) (Nat.mul_le_mul_left _ hk)
      · simp only [wts]; omega
    rw [Nat.pow_succ]
    omega
end
/-- What is one's own behind statements. -/
def ownsP (l : List Tx) (own : Ts) : Ts := l.foldl ownP own
end Go.AM
/- Trees' texts, as plain functions. -/
set_option linter.unusedVariables false
set_option linter.unusedSimpArgs false
namespace Go.AM
open Go
abbrev Bs := List UInt8
/-- Texts, commas between. -/
def joinP : Ts → Bs
  | [] => []
  | [x] => x
  | x :: y :: r => x ++ [44, 32] ++ joinP (y :: r)
/-- A text in quotes. -/
def quoteP (s : Bs) : Bs := [34] ++ s.flatMap (fun c => if c = 10 then [92, 110] else if c = 34 ∨ c = 92 then [92, c] else [c]) ++ [34]
def signP (op : Nat) : Bs := (([[43], [45], [42], [61, 61], [33, 61], [60]] : List Bs)[op - 8]?).getD []
/-- A record's fields. -/
def fieldsP : Ts → Ts
  | k :: v :: r => ([91] ++ k ++ [93, 58, 32] ++ v) :: fieldsP r
  | _ => []
def nthP (l : Ts) (i : Nat) : Bs := (l[i]?).getD []
/-- An expression's text, by its parts' texts and its body's. -/
def prX (dec : Int → Bs) (op : Nat) (num : Int) (text : Bs) (ps qs : Ts) (body : Bs) : Bs :=
  if op = 0 then [110, 105, 108] else if op = 1 then [102, 97, 108, 115, 101] else if op = 2 then [116, 114, 117, 101] else if op = 3 then dec num else if op = 4 then quoteP text else if op = 5 then text
  else if op = 6 then [40, 45] ++ nthP ps 0 ++ [41] else if op = 7 then [40, 33] ++ nthP ps 0 ++ [41] else if op = 14 then nthP ps 0 ++ [91] ++ nthP ps 1 ++ [93] else if op = 15 then nthP ps 0 ++ [40] ++ joinP (ps.drop 1) ++ [41]
  else if op = 16 then [123] ++ joinP (fieldsP ps) ++ [125] else if op = 17 then [102, 110, 40] ++ joinP qs ++ [41, 32, 123, 10] ++ body ++ [125]
  else [40] ++ nthP ps 0 ++ [32] ++ signP op ++ [32] ++ nthP ps 1 ++ [41]
/-- A statement's text. -/
def prY (kind : Nat) (name : Bs) (es : Ts) (b e : Bs) (ne : Bool) : Bs :=
  if kind = 0 then [108, 101, 116, 32] ++ name ++ [32, 61, 32] ++ nthP es 0 ++ [59, 10] else if kind = 1 then name ++ [32, 61, 32] ++ nthP es 0 ++ [59, 10]
  else if kind = 2 then nthP es 0 ++ [91] ++ nthP es 1 ++ [93, 32, 61, 32] ++ nthP es 2 ++ [59, 10]
  else if kind = 3 then [105, 102, 32] ++ nthP es 0 ++ [32, 123, 10] ++ b ++ [125] ++ (if ne then [32, 101, 108, 115, 101, 32, 123, 10] ++ e ++ [125] else []) ++ [10]
  else if kind = 4 then [119, 104, 105, 108, 101, 32] ++ nthP es 0 ++ [32, 123, 10] ++ b ++ [125, 10]
  else if kind = 5 then [114, 101, 116, 117, 114, 110, 32] ++ nthP es 0 ++ [59, 10] else if kind = 6 then [116, 104, 114, 111, 119, 32] ++ nthP es 0 ++ [59, 10]
  else if kind = 7 then [116, 114, 121, 32, 123, 10] ++ b ++ [125, 32, 99, 97, 116, 99, 104, 32] ++ name ++ [32, 123, 10] ++ e ++ [125, 10]
  else nthP es 0 ++ [59, 10]
section
variable (dec : Int → Bs)
mutual
def prE : Tx → Bs
  | .ex op num text parts params body => prX dec op num text (prEs parts) params (prB body)
  | .st .. => []
def prEs : List Tx → Ts
  | [] => []
  | x :: r => prE x :: prEs r
def prS : Tx → Bs
  | .st kind name es b e _ => prY kind name (prEs es) (prB b) (prB e) (!e.isEmpty)
  | .ex .. => []
def prB : List Tx → Bs
  | [] => []
  | x :: r => prS x ++ prB r
end
end
theorem prEs_map (dec : Int → Bs) : ∀ l : List Tx, prEs dec l = l.map (prE dec)
  | [] => by simp only [prEs, List.map_nil]
  | x :: r => by simp only [prEs, List.map_cons, prEs_map dec r]
theorem prB_flat (dec : Int → Bs) : ∀ l : List Tx, prB dec l = l.flatMap (prS dec)
  | [] => by simp only [prB, List.flatMap_nil]
  | x :: r => by simp only [prB, List.flatMap_cons, prB_flat dec r]
theorem prB_app (dec : Int → Bs) (l r : List Tx) : prB dec (l ++ r) = prB dec l ++ prB dec r := by simp only [prB_flat, List.flatMap_append]
mutual
/-- It has as many parts as its op wants: it can be printed. -/
def Tx.pok : Tx → Prop
  | .ex op _ _ ps _ b => op < 18 ∧ (op = 6 ∨ op = 7 → ps.length = 1) ∧ (op = 15 → 1 ≤ ps.length) ∧ (op = 16 → ps.length % 2 = 0) ∧ (8 ≤ op → op ≤ 14 → ps.length = 2) ∧ poks ps ∧ poks b
  | .st kind _ es b e _ => kind < 9 ∧ (kind = 2 → es.length = 3) ∧ (kind ≠ 2 → kind ≠ 7 → es.length = 1) ∧ poks es ∧ poks b ∧ poks e
def poks : List Tx → Prop
  | [] => True
  | x :: r => x.pok ∧ poks r
end
theorem many_pok {g : MS → Tx × MS} (hg : ∀ m, (g m).1.pok) : ∀ (k : Nat) (m : MS), poks (manyP g k m).1 ∧ (manyP g k m).1.length = k
  | 0, m => by simp only [manyP, poks, List.length_nil, and_self]
  | k + 1, m => by
    have := many_pok hg k (g m).2
    simp only [manyP, poks, List.length_cons]
    exact ⟨⟨hg m, this.1⟩, by rw [this.2]⟩
theorem stmts_pok {g : MS → Tx × MS} (hg : ∀ m, (g m).1.pok) : ∀ (k : Nat) (m : MS), poks (stmtsP g k m).1
  | 0, m => by simp only [stmtsP, poks]
  | k + 1, m => by
    rw [stmtsP]
    split
    · simp only [poks]
    · simp only [poks]; exact ⟨hg m, stmts_pok hg k _⟩
theorem opP_lt (deep : Int) (m1 : MS) (x : X4) : opP deep m1 x < 18 := by unfold opP; split <;> omega
theorem kindP_lt (deep : Int) (x : X4) : kindP deep x < 9 := by unfold kindP; split <;> omega
mutual
theorem exprP_pok : ∀ (f : Nat) (deep : Int) (m : MS), (exprP f deep m).1.pok
  | 0, deep, m => by simp [exprP, Tx.pok, poks]
  | f + 1, deep, m => by
    rw [exprP]
    dsimp only
    have ho := opP_lt deep (nextM m) (nextX m)
    generalize opP deep (nextM m) (nextX m) = op at *
    simp only [Tx.pok]
    obtain ⟨h1, h2⟩ := many_pok (exprP_pok f (deep - 1)) (countP op (nextX m)) (if op = 17 then stmtsP (stmtP f (deep - 1)) ((nextX m).n % 3) (nextM m) else ([], nextM m)).2
    refine ⟨ho, fun h => ?_, fun h => ?_, fun h => ?_, fun h h' => ?_, h1, ?_⟩
    · rw [h2, countP, if_pos h]
    · rw [h2, countP, if_neg (by omega), if_pos h]; omega
    · rw [h2, countP, if_neg (by omega), if_neg (by omega), if_pos h]; omega
    · rw [h2, countP, if_neg (by omega), if_neg (by omega), if_neg (by omega), if_neg (by omega), if_pos (by omega)]
    · split
      · exact stmts_pok (stmtP_pok f (deep - 1)) _ _
      · simp only [poks]
theorem stmtP_pok : ∀ (f : Nat) (deep : Int) (m : MS), (stmtP f deep m).1.pok
  | 0, deep, m => by simp [stmtP, Tx.pok, poks]
  | f + 1, deep, m => by
    rw [stmtP]
    dsimp only
    have ho := kindP_lt deep (nextX m)
    generalize kindP deep (nextX m) = k at *
    simp only [Tx.pok]
    obtain ⟨h1, h2⟩ := many_pok (exprP_pok f (deep - 1)) (scountP k) (nextM m)
    refine ⟨ho, fun h => ?_, fun h h' => ?_, h1, ?_, ?_⟩
    · rw [h2, scountP, if_pos h]
    · rw [h2, scountP, if_neg h, if_neg h']
    · split
      · exact stmts_pok (stmtP_pok f (deep - 1)) _ _
      · simp only [poks]
    · split
      · exact stmts_pok (stmtP_pok f (deep - 1)) _ _
      · simp only [poks]
end
theorem joinP_snoc : ∀ (l : Ts) (x : Bs), joinP (l ++ [x]) = if l = [] then x else joinP l ++ [44, 32] ++ x
  | [], x => by simp [joinP]
  | [y], x => by simp [joinP]
  | y :: z :: r, x => by
    have := joinP_snoc (z :: r) x
    simp only [List.cons_append, joinP] at this ⊢
    rw [this]
    simp
def lens (l : Ts) : Nat := (l.map fun x => x.length + 2).sum
theorem joinP_len : ∀ l : Ts, (joinP l).length ≤ lens l
  | [] => by simp [joinP, lens]
  | [x] => by simp [joinP, lens]
  | x :: y :: r => by
    have := joinP_len (y :: r)
    simp only [joinP, lens, List.map_cons, List.sum_cons, List.length_append, List.length_cons, List.length_nil] at *
    omega
theorem lens_take : ∀ (l : Ts) (i : Nat) (h : i < l.length), lens (l.take i) + l[i].length + 2 ≤ lens l
  | x :: r, 0, h => by simp [lens]
  | x :: r, i + 1, h => by
    have := lens_take r i (by simpa using h)
    simp only [lens, List.take_succ_cons, List.map_cons, List.sum_cons, List.getElem_cons_succ] at *
    omega
theorem lens_ge : ∀ l : Ts, 2 * l.length ≤ lens l
  | [] => by simp
  | x :: r => by
    have := lens_ge r
    simp only [lens, List.map_cons, List.sum_cons, List.length_cons] at *
    omega
theorem nth_len : ∀ (l : Ts) (i : Nat), (nthP l i).length ≤ lens l
  | [], i => by simp [nthP]
  | x :: r, 0 => by simp [nthP, lens]; omega
  | x :: r, i + 1 => by
    have := nth_len r i
    simp only [nthP, lens, List.map_cons, List.sum_cons, List.getElem?_cons_succ] at *
    omega
theorem fields_len : ∀ l : Ts, lens (fieldsP l) ≤ lens l + l.length
  | [] => by simp [fieldsP, lens]
  | [x] => by simp [fieldsP, lens]
  | x :: y :: r => by
    have := fields_len r
    simp only [fieldsP, lens, List.map_cons, List.sum_cons, List.length_append, List.length_cons, List.length_nil] at *
    omega
theorem lens_drop : ∀ (l : Ts) (i : Nat), lens (l.drop i) ≤ lens l
  | l, 0 => by simp
  | [], i + 1 => by simp
  | x :: r, i + 1 => by
    have := lens_drop r i
    simp only [List.drop_succ_cons, lens, List.map_cons, List.sum_cons] at *
    omega
theorem quote_len (s : Bs) : (quoteP s).length ≤ 2 + 2 * s.length := by
  have : ∀ l : Bs, (l.flatMap (fun c => if c = 10 then [92, 110] else if c = 34 ∨ c = 92 then [92, c] else [c])).length ≤ 2 * l.length := by
    intro l
    induction l with
    | nil => simp
    | cons x r ih =>
      rw [List.flatMap_cons, List.length_append, List.length_cons]
      have : (if x = 10 then [92, 110] else if x = 34 ∨ x = 92 then [92, x] else [x] : Bs).length ≤ 2 := by
        split
        · simp
        · split <;> simp
      omega
  have := this s
  unfold quoteP
  simp only [List.length_append, List.length_cons, List.length_nil]
  omega
section
variable (dec : Int → Bs)
mutual
/-- How much text there is in a tree, at most. -/
def Tx.bw : Tx → Nat
  | .ex _ num text ps qs b => 40 + (dec num).length + 2 * text.length + lens qs + bws ps + 8 * ps.length + bws b
  | .st _ name es b e _ => 40 + name.length + bws es + 8 * es.length + bws b + bws e
def bws : List Tx → Nat
  | [] => 0
  | x :: r => x.bw + bws r
end
end
theorem sign_len (op : Nat) : (signP op).length ≤ 2 := by
  unfold signP
  match op - 8 with
  | 0 | 1 | 2 | 3 | 4 | 5 => decide
  | n + 6 => exact Nat.zero_le _
theorem nth3_len (l : Ts) : (nthP l 0).length + (nthP l 1).length + (nthP l 2).length ≤ lens l := by
  match l with
  | [] => simp [nthP]
  | [x] => simp [nthP, lens]
  | [x, y] => simp [nthP, lens]; omega
  | x :: y :: z :: r => simp [nthP, lens]; omega
theorem nthj_len (l : Ts) : (nthP l 0).length + (joinP (l.drop 1)).length ≤ lens l := by
  match l with
  | [] => simp [nthP, joinP]
  | x :: r =>
    have := joinP_len r
    simp only [nthP, lens, List.map_cons, List.sum_cons, List.getElem?_cons_zero, Option.getD_some, List.drop_succ_cons, List.drop_zero] at *
    omega
theorem ifl {c : Prop} [Decidable c] {a b : Bs} {n : Nat} (ha : c → a.length ≤ n) (hb : ¬ c → b.length ≤ n) : (if c then a else b).length ≤ n := by
  split
  · exact ha (by assumption)
  · exact hb (by assumption)
theorem prX_len (dec : Int → Bs) (op : Nat) (num : Int) (text : Bs) (ps qs : Ts) (body : Bs) : (prX dec op num text ps qs body).length ≤ 20 + (dec num).length + 2 * text.length + lens ps + ps.length + lens qs + body.length := by
  have g1 := nth3_len ps
  have g2 := nthj_len ps
  have h1 := nth_len ps 0
  have h2 := nth_len ps 1
  have h3 := quote_len text
  have h4 := joinP_len (ps.drop 1)
  have h5 := lens_drop ps 1
  have h6 := joinP_len (fieldsP ps)
  have h7 := fields_len ps
  have h8 := joinP_len qs
  have h9 := sign_len op
  unfold prX
  repeat' (refine ifl (fun _ => ?_) (fun _ => ?_))
  all_goals try simp only [List.length_append, List.length_cons, List.length_nil]
  all_goals omega
theorem prY_len (kind : Nat) (name : Bs) (es : Ts) (b e : Bs) (ne : Bool) : (prY kind name es b e ne).length ≤ 30 + name.length + lens es + b.length + e.length := by
  have g1 := nth3_len es
  have h1 := nth_len es 0
  have h2 := nth_len es 1
  have h3 := nth_len es 2
  unfold prY
  repeat' (refine ifl (fun _ => ?_) (fun _ => ?_))
  all_goals try simp only [List.length_append, List.length_cons, List.length_nil]
  all_goals try omega
  cases ne <;> simp <;> omega
mutual
theorem prE_len (dec : Int → Bs) : ∀ t : Tx, (prE dec t).length ≤ t.bw dec
  | .ex op num text ps qs b => by
    have h1 := prX_len dec op num text (prEs dec ps) qs (prB dec b)
    have h2 := prEs_len dec ps
    have h3 := prB_len dec b
    simp only [prE, Tx.bw]
    omega
  | .st .. => by simp only [prE, List.length_nil]; exact Nat.zero_le _
theorem prEs_len (dec : Int → Bs) : ∀ l : List Tx, lens (prEs dec l) ≤ bws dec l + 2 * l.length ∧ (prEs dec l).length = l.length
  | [] => by simp [prEs, lens]
  | x :: r => by
    have h1 := prE_len dec x
    have h2 := prEs_len dec r
    simp only [prEs, bws, lens, List.map_cons, List.sum_cons, List.length_cons] at *
    omega
theorem prS_len (dec : Int → Bs) : ∀ t : Tx, (prS dec t).length ≤ t.bw dec
  | .st kind name es b e a => by
    have h1 := prY_len kind name (prEs dec es) (prB dec b) (prB dec e) (!e.isEmpty)
    have h2 := prEs_len dec es
    have h3 := prB_len dec b
    have h4 := prB_len dec e
    simp only [prS, Tx.bw]
    omega
  | .ex .. => by simp only [prS, List.length_nil]; exact Nat.zero_le _
theorem prB_len (dec : Int → Bs) : ∀ l : List Tx, (prB dec l).length ≤ bws dec l
  | [] => by simp only [prB, List.length_nil]; exact Nat.zero_le _
  | x :: r => by
    have h1 := prS_len dec x
    have h2 := prB_len dec r
    simp only [prB, bws, List.length_append]
    omega
end
end Go.AM
/- Trees that the maker makes: how many nodes they have, and what is in them. -/
set_option linter.unusedVariables false
set_option linter.unusedSimpArgs false
namespace Go.AM
open Go
mutual
/-- How many nodes there are. -/
def Tx.nn : Tx → Nat
  | .ex _ _ _ ps _ b => 1 + nns ps + nns b
  | .st _ _ es b e _ => 1 + nns es + nns b + nns e
def nns : List Tx → Nat
  | [] => 0
  | x :: r => x.nn + nns r
end
/-- So many parts an op has. -/
def cntOk (op n : Nat) : Prop := (op < 6 → n = 0) ∧ (op = 6 ∨ op = 7 → n = 1) ∧ (op = 15 → 1 ≤ n) ∧ (op = 16 → n % 2 = 0) ∧ (op = 17 → n = 0) ∧ (8 ≤ op → op ≤ 14 → n = 2) ∧ n ≤ 4
mutual
/-- It is an expression as the maker makes it. -/
def Tx.ev : Tx → Prop
  | .ex op num text ps qs b => op < 18 ∧ (0 ≤ num ∧ num < 144115188075855872) ∧ (op ≠ 3 → num = 0) ∧ (op = 4 → text ∈ textL) ∧ (op = 5 → text ∈ nameL) ∧ (op ≠ 4 → op ≠ 5 → text = []) ∧ (op ≠ 17 → qs = [] ∧ b = []) ∧ qs.length ≤ 2 ∧ (∀ q ∈ qs, q ∈ nameL) ∧ cntOk op ps.length ∧ evs ps ∧ svs b
  | .st .. => False
/-- It is a statement as the maker makes it. -/
def Tx.sv : Tx → Prop
  | .st kind name es b e at_ => kind < 9 ∧ (kind = 0 ∨ kind = 1 ∨ kind = 7 → name ∈ nameL) ∧ (kind ≠ 0 → kind ≠ 1 → kind ≠ 7 → name = []) ∧ es.length = scountP kind ∧ (kind ≠ 3 → kind ≠ 4 → kind ≠ 7 → b = []) ∧ (kind ≠ 3 → kind ≠ 7 → e = []) ∧ evs es ∧ svs b ∧ svs e
  | .ex .. => False
def evs : List Tx → Prop
  | [] => True
  | x :: r => x.ev ∧ evs r
def svs : List Tx → Prop
  | [] => True
  | x :: r => x.sv ∧ svs r
end
def mok (m : MS) : Prop := ∀ x ∈ m.l, x.ok
theorem nextX_ok {m : MS} (h : mok m) : (nextX m).ok := by
  unfold nextX
  split
  · exact ⟨by decide, by decide, by decide, by decide⟩
  · rename_i x r hx; exact h x (by rw [hx]; simp)
theorem nextM_ok {m : MS} (h : mok m) : mok (nextM m) := fun x hx => h x (List.mem_of_mem_tail hx)
theorem nameT_mem (n : Nat) : nameT n ∈ nameL := by
  have : ∀ k, k < 8 → (nameL[k]?).getD [] ∈ nameL := by decide
  exact this _ (Nat.mod_lt _ (by decide))
theorem textT_mem (n : Nat) : textT n ∈ textL := by
  have : ∀ k, k < 6 → (textL[k]?).getD [] ∈ textL := by decide
  exact this _ (Nat.mod_lt _ (by decide))
/-- What a maker of expressions does. -/
def GE (B : Int) (g : MS → Tx × MS) : Prop := ∀ m, mok m → (g m).1.ev ∧ ((g m).1.nn : Int) + (g m).2.left = m.left ∧ min (m.left - 1) (-B) ≤ (g m).2.left ∧ mok (g m).2
def GS (B : Int) (g : MS → Tx × MS) : Prop := ∀ m, mok m → (g m).1.sv ∧ ((g m).1.nn : Int) + (g m).2.left = m.left ∧ min (m.left - 4) (-B) ≤ (g m).2.left ∧ mok (g m).2
theorem many_ge {B : Int} {g : MS → Tx × MS} (hg : GE B g) : ∀ (k : Nat) (m : MS), mok m → evs (manyP g k m).1 ∧ (manyP g k m).1.length = k ∧ (nns (manyP g k m).1 : Int) + (manyP g k m).2.left = m.left ∧ min (m.left - k) (-B - k) ≤ (manyP g k m).2.left ∧ mok (manyP g k m).2
  | 0, m, hm => by simp only [manyP, evs, nns, List.length_nil, true_and]; exact ⟨by omega, by omega, hm⟩
  | k + 1, m, hm => by
    obtain ⟨h1, h2, h3, h4⟩ := hg m hm
    obtain ⟨g1, g5, g2, g3, g4⟩ := many_ge hg k (g m).2 h4
    simp only [manyP, evs, nns, List.length_cons]
    exact ⟨⟨h1, g1⟩, by omega, by omega, by omega, g4⟩
theorem stmts_gs {B : Int} {g : MS → Tx × MS} (hB : 3 ≤ B) (hg : GS B g) : ∀ (k : Nat) (m : MS), mok m → svs (stmtsP g k m).1 ∧ (nns (stmtsP g k m).1 : Int) + (stmtsP g k m).2.left = m.left ∧ min m.left (-B) ≤ (stmtsP g k m).2.left ∧ mok (stmtsP g k m).2
  | 0, m, hm => by simp only [stmtsP, svs, nns, true_and]; exact ⟨by omega, by omega, hm⟩
  | k + 1, m, hm => by
    rw [stmtsP]
    split
    · simp only [svs, nns, true_and]; exact ⟨by omega, by omega, hm⟩
    · obtain ⟨h1, h2, h3, h4⟩ := hg m hm
      obtain ⟨g1, g2, g3, g4⟩ := stmts_gs hB hg k (g m).2 h4
      simp only [svs, nns]
      exact ⟨⟨h1, g1⟩, by omega, by omega, g4⟩
theorem all_gs {B : Int} {g : MS → Tx × MS} (hB : 3 ≤ B) (hg : GS B g) : ∀ (k : Nat) (m : MS), mok m → svs (allP g k m).1 ∧ (nns (allP g k m).1 : Int) + (allP g k m).2.left = m.left ∧ min m.left (-B) ≤ (allP g k m).2.left
  | 0, m, hm => by simp only [allP, svs, nns, true_and]; exact ⟨by omega, by omega⟩
  | k + 1, m, hm => by
    rw [allP]
    split
    · simp only [svs, nns, true_and]; exact ⟨by omega, by omega⟩
    · rename_i hh
      rw [not_or] at hh
      obtain ⟨h1, h2, h3, h4⟩ := hg m hm
      obtain ⟨g1, g2, g3⟩ := all_gs hB hg k (g m).2 h4
      simp only [svs, nns]
      exact ⟨⟨h1, g1⟩, by omega, by omega⟩
theorem countP_cnt (op : Nat) (x : X4) (ho : op < 18) : cntOk op (countP op x) := by
  have h3 : x.a % 3 < 3 := Nat.mod_lt _ (by omega)
  unfold cntOk countP
  by_cases h1 : op = 6 ∨ op = 7
  · rw [if_pos h1]; omega
  · rw [if_neg h1]
    by_cases h2 : op = 15
    · rw [if_pos h2]; omega
    · rw [if_neg h2]
      by_cases h4 : op = 16
      · rw [if_pos h4]; omega
      · rw [if_neg h4]
        by_cases h5 : op = 17
        · rw [if_pos h5]; omega
        · rw [if_neg h5]
          by_cases h6 : op > 7
          · rw [if_pos h6]; omega
          · rw [if_neg h6]; omega
theorem numP_ok (op : Nat) {x : X4} (h : x.ok) : 0 ≤ numP op x ∧ numP op x < 144115188075855872 ∧ (op ≠ 3 → numP op x = 0) := by
  have := h.n
  unfold numP
  split
  · split <;> omega
  · omega
theorem opP_leaf (deep : Int) (m1 : MS) (x : X4) (h : deep ≤ 0 ∨ m1.left ≤ 0) : opP deep m1 x < 6 := by unfold opP; rw [if_pos h]; omega
theorem kindP_leaf (deep : Int) (x : X4) (h : deep ≤ 0) : kindP deep x ≠ 3 ∧ kindP deep x ≠ 4 ∧ kindP deep x ≠ 7 := by
  unfold kindP
  split
  · omega
  · rename_i hh; omega
theorem params_ok (op : Nat) (x : X4) : (paramsP op x).length ≤ 2 ∧ (∀ q ∈ paramsP op x, q ∈ nameL) ∧ (op ≠ 17 → paramsP op x = []) := by
  have h3 : x.a % 3 < 3 := Nat.mod_lt _ (by omega)
  unfold paramsP
  split
  · refine ⟨by simp; omega, fun q hq => ?_, fun h => by omega⟩
    obtain ⟨i, _, rfl⟩ := List.mem_map.1 hq
    exact nameT_mem _
  · rename_i h; exact ⟨by simp, fun q hq => by simp at hq, fun _ => rfl⟩
theorem text_ok (op : Nat) (x : X4) : (op = 4 → textP op x ∈ textL) ∧ (op = 5 → textP op x ∈ nameL) ∧ (op ≠ 4 → op ≠ 5 → textP op x = []) := by
  refine ⟨fun h => ?_, fun h => ?_, fun h h' => ?_⟩
  · subst h; exact textT_mem _
  · subst h; exact nameT_mem _
  · unfold textP; rw [if_neg h, if_neg h']
mutual
theorem exprP_ge : ∀ (f : Nat) (deep : Int), 1 ≤ f → deep + 3 ≤ f → GE (4 * f) (exprP f deep)
  | 0, deep, h, _ => by omega
  | f + 1, deep, _, hd => fun m hm => by
    have hx := nextX_ok hm
    have hm1 := nextM_ok hm
    have hl1 : (nextM m).left = m.left - 1 := rfl
    rw [exprP]
    dsimp only
    have ho := opP_lt deep (nextM m) (nextX m)
    have hlf := opP_leaf deep (nextM m) (nextX m)
    generalize opP deep (nextM m) (nextX m) = op at *
    have hc := countP_cnt op (nextX m) ho
    obtain ⟨n1, n2, n3⟩ := numP_ok op hx
    obtain ⟨p1, p2, p3⟩ := params_ok op (nextX m)
    obtain ⟨t1, t2, t3⟩ := text_ok op (nextX m)
    by_cases hlow : deep ≤ 0 ∨ (nextM m).left ≤ 0
    · have h6 := hlf hlow
      have hc0 : countP op (nextX m) = 0 := hc.1 h6
      have h17 : op ≠ 17 := by omega
      rw [hc0] at hc
      rw [hc0, if_neg h17]
      simp only [manyP, Tx.ev, Tx.nn, evs, svs, nns, List.length_nil]
      exact ⟨⟨ho, ⟨n1, n2⟩, n3, t1, t2, t3, fun h => ⟨p3 h, trivial⟩, p1, p2, hc, trivial, trivial⟩, by omega, by omega, hm1⟩
    · have hE := many_ge (exprP_ge f (deep - 1) (by omega) (by omega)) (countP op (nextX m))
      have hS := stmts_gs (by omega) (stmtP_gs f (deep - 1) (by omega) (by omega)) ((nextX m).n % 3) (nextM m) hm1
      have h4 : countP op (nextX m) ≤ 4 := countP_le _ _
      have hb : svs (if op = 17 then stmtsP (stmtP f (deep - 1)) ((nextX m).n % 3) (nextM m) else ([], nextM m)).1 ∧ (nns (if op = 17 then stmtsP (stmtP f (deep - 1)) ((nextX m).n % 3) (nextM m) else ([], nextM m)).1 : Int) + (if op = 17 then stmtsP (stmtP f (deep - 1)) ((nextX m).n % 3) (nextM m) else ([], nextM m)).2.left = (nextM m).left ∧ min (nextM m).left (-(4 * f)) ≤ (if op = 17 then stmtsP (stmtP f (deep - 1)) ((nextX m).n % 3) (nextM m) else ([], nextM m)).2.left ∧ mok (if op = 17 then stmtsP (stmtP f (deep - 1)) ((nextX m).n % 3) (nextM m) else ([], nextM m)).2 ∧ (op ≠ 17 → (if op = 17 then stmtsP (stmtP f (deep - 1)) ((nextX m).n % 3) (nextM m) else ([], nextM m)).1 = []) := by
        by_cases h : op = 17
        · rw [if_pos h]; exact ⟨hS.1, hS.2.1, hS.2.2.1, hS.2.2.2, fun h' => absurd h h'⟩
        · rw [if_neg h]; exact ⟨by simp only [svs], by simp only [nns]; omega, by dsimp only; omega, hm1, fun _ => rfl⟩
      generalize (if op = 17 then stmtsP (stmtP f (deep - 1)) ((nextX m).n % 3) (nextM m) else ([], nextM m)) = b at *
      obtain ⟨b1, b2, b3, b4, b5⟩ := hb
      obtain ⟨e1, e2, e3, e4, e5⟩ := hE b.2 b4
      simp only [Tx.ev, Tx.nn]
      refine ⟨⟨ho, ⟨n1, n2⟩, n3, t1, t2, t3, fun h => ⟨p3 h, b5 h⟩, p1, p2, by rw [e2]; exact hc, e1, b1⟩, by omega, by omega, e5⟩
theorem stmtP_gs : ∀ (f : Nat) (deep : Int), 2 ≤ f → deep + 3 ≤ f → GS (4 * f) (stmtP f deep)
  | 0, deep, h, _ => by omega
  | f + 1, deep, hf, hd => fun m hm => by
    have hx := nextX_ok hm
    have hm1 := nextM_ok hm
    have hl1 : (nextM m).left = m.left - 1 := rfl
    rw [stmtP]
    dsimp only
    have ho := kindP_lt deep (nextX m)
    have hlf := kindP_leaf deep (nextX m)
    generalize kindP deep (nextX m) = k at *
    obtain ⟨e1, e2, e3, e4, e5⟩ := many_ge (exprP_ge f (deep - 1) (by omega) (by omega)) (scountP k) (nextM m) hm1
    have h3 : scountP k ≤ 3 := scountP_le _
    generalize hes : manyP (exprP f (deep - 1)) (scountP k) (nextM m) = es at *
    have hn1 : k = 0 ∨ k = 1 ∨ k = 7 → snameP k (nextX m) ∈ nameL := fun h => by unfold snameP; rw [if_pos h]; exact nameT_mem _
    have hn2 : k ≠ 0 → k ≠ 1 → k ≠ 7 → snameP k (nextX m) = [] := fun h h' h'' => by unfold snameP; rw [if_neg (by omega)]
    by_cases hlow : deep ≤ 0
    · obtain ⟨k3, k4, k7⟩ := hlf hlow
      rw [if_neg (by omega), if_neg (by omega)]
      simp only [Tx.sv, Tx.nn, nns, svs]
      exact ⟨⟨ho, hn1, hn2, e2, fun _ _ _ => trivial, fun _ _ => trivial, e1, trivial, trivial⟩, by omega, by omega, e5⟩
    · have hSt := fun n m => stmts_gs (by omega) (stmtP_gs f (deep - 1) (by omega) (by omega)) n m
      have hb : ∀ (c : Prop) [Decidable c] (n : Nat) (m : MS), mok m → svs (if c then stmtsP (stmtP f (deep - 1)) n m else ([], m)).1 ∧ (nns (if c then stmtsP (stmtP f (deep - 1)) n m else ([], m)).1 : Int) + (if c then stmtsP (stmtP f (deep - 1)) n m else ([], m)).2.left = m.left ∧ min m.left (-(4 * f)) ≤ (if c then stmtsP (stmtP f (deep - 1)) n m else ([], m)).2.left ∧ mok (if c then stmtsP (stmtP f (deep - 1)) n m else ([], m)).2 ∧ (¬ c → (if c then stmtsP (stmtP f (deep - 1)) n m else ([], m)).1 = []) := by
        intro c _ n m hm
        have hS := hSt n m hm
        by_cases h : c
        · rw [if_pos h]; exact ⟨hS.1, hS.2.1, hS.2.2.1, hS.2.2.2, fun h' => absurd h h'⟩
        · rw [if_neg h]; exact ⟨by simp only [svs], by simp only [nns]; omega, by dsimp only; omega, hm, fun _ => rfl⟩
      obtain ⟨b1, b2, b3, b4, b5⟩ := hb (k = 3 ∨ k = 7 ∨ k = 4) ((nextX m).a % 3) es.2 e5
      generalize (if k = 3 ∨ k = 7 ∨ k = 4 then stmtsP (stmtP f (deep - 1)) ((nextX m).a % 3) es.2 else ([], es.2)) = b at *
      obtain ⟨c1, c2, c3, c4, c5⟩ := hb (k = 3 ∨ k = 7) ((nextX m).n % 3) b.2 b4
      generalize (if k = 3 ∨ k = 7 then stmtsP (stmtP f (deep - 1)) ((nextX m).n % 3) b.2 else ([], b.2)) = c at *
      simp only [Tx.sv, Tx.nn]
      exact ⟨⟨ho, hn1, hn2, e2, fun h h' h'' => b5 (by omega), fun h h' => c5 (by omega), e1, b1, c1⟩, by omega, by omega, c4⟩
end
theorem makeP_sv {l : List X4} (h : ∀ x ∈ l, x.ok) : svs (makeP l) ∧ nns (makeP l) ≤ 152 := by
  obtain ⟨h1, h2, h3⟩ := all_gs (by omega) (stmtP_gs 8 3 (by omega) (by omega)) (l.length + 1) ⟨l, min (2 * l.length + 2) 120⟩ h
  refine ⟨h1, ?_⟩
  unfold makeP
  dsimp only at h2 h3 ⊢
  omega
theorem name_len {s : Bs} (h : s ∈ nameL) : s.length ≤ 3 := by
  have : ∀ s ∈ nameL, s.length ≤ 3 := by decide
  exact this s h
theorem texts_len {s : Bs} (h : s ∈ textL) : s.length ≤ 9 := by
  have : ∀ s ∈ textL, s.length ≤ 9 := by decide
  exact this s h
theorem lens_names : ∀ {l : Ts}, (∀ q ∈ l, q ∈ nameL) → lens l ≤ 5 * l.length
  | [], _ => by simp [lens]
  | x :: r, h => by
    have h1 := name_len (h x (by simp))
    have h2 := lens_names fun q hq => h q (List.mem_cons_of_mem _ hq)
    simp only [lens, List.map_cons, List.sum_cons, List.length_cons] at *
    omega
section
mutual
theorem ev_bw {dec : Int → Bs} (hdec : ∀ n : Int, 0 ≤ n → n < 144115188075855872 → (dec n).length ≤ 24) : ∀ t : Tx, t.ev → t.bw dec ≤ 128 * t.nn
  | .ex op num text ps qs b, h => by
    simp only [Tx.ev] at h
    obtain ⟨h1, ⟨h2, h3⟩, h4, h5, h6, h7, h8, h9, h10, h11, h12, h13⟩ := h
    have e1 := evs_bw hdec ps h12
    have e2 := svs_bw hdec b h13
    have e3 := lens_names h10
    have e4 := hdec num h2 h3
    have e5 : text.length ≤ 9 := by
      by_cases g4 : op = 4
      · exact texts_len (h5 g4)
      · by_cases g5 : op = 5
        · have := name_len (h6 g5); omega
        · rw [h7 g4 g5]; simp
    have e6 := h11.2.2.2.2.2.2
    simp only [Tx.bw, Tx.nn]
    omega
  | .st .., h => by simp only [Tx.ev] at h
theorem evs_bw {dec : Int → Bs} (hdec : ∀ n : Int, 0 ≤ n → n < 144115188075855872 → (dec n).length ≤ 24) : ∀ l : List Tx, evs l → bws dec l ≤ 128 * nns l
  | [], _ => by simp only [bws, nns]; omega
  | x :: r, h => by
    simp only [evs] at h
    have h1 := ev_bw hdec x h.1
    have h2 := evs_bw hdec r h.2
    simp only [bws, nns]
    omega
theorem sv_bw {dec : Int → Bs} (hdec : ∀ n : Int, 0 ≤ n → n < 144115188075855872 → (dec n).length ≤ 24) : ∀ t : Tx, t.sv → t.bw dec ≤ 128 * t.nn
  | .st kind name es b e a, h => by
    simp only [Tx.sv] at h
    obtain ⟨h1, h2, h3, h4, h5, h6, h8, h9, h10⟩ := h
    have e1 := evs_bw hdec es h8
    have e2 := svs_bw hdec b h9
    have e3 := svs_bw hdec e h10
    have e4 := scountP_le kind
    have e5 : name.length ≤ 3 := by
      by_cases g : kind = 0 ∨ kind = 1 ∨ kind = 7
      · exact name_len (h2 g)
      · rw [h3 (by omega) (by omega) (by omega)]; simp
    simp only [Tx.bw, Tx.nn]
    omega
  | .ex .., h => by simp only [Tx.sv] at h
theorem svs_bw {dec : Int → Bs} (hdec : ∀ n : Int, 0 ≤ n → n < 144115188075855872 → (dec n).length ≤ 24) : ∀ l : List Tx, svs l → bws dec l ≤ 128 * nns l
  | [], _ => by simp only [bws, nns]; omega
  | x :: r, h => by
    simp only [svs] at h
    have h1 := sv_bw hdec x h.1
    have h2 := svs_bw hdec r h.2
    simp only [bws, nns]
    omega
end
end
theorem evs_mem : ∀ {l : List Tx}, evs l → ∀ x ∈ l, x.ev
  | y :: r, h, x, hx => by
    simp only [evs] at h
    rcases List.mem_cons.1 hx with rfl | hx
    · exact h.1
    · exact evs_mem h.2 x hx
theorem svs_mem : ∀ {l : List Tx}, svs l → ∀ x ∈ l, x.sv
  | y :: r, h, x, hx => by
    simp only [svs] at h
    rcases List.mem_cons.1 hx with rfl | hx
    · exact h.1
    · exact svs_mem h.2 x hx
theorem bws_mem {dec : Int → Bs} : ∀ {l : List Tx} {x : Tx}, x ∈ l → x.bw dec ≤ bws dec l
  | y :: r, x, hx => by
    simp only [bws]
    rcases List.mem_cons.1 hx with rfl | hx
    · omega
    · have := bws_mem (dec := dec) hx; omega
theorem nthP_get {l : Ts} {i : Nat} (h : i < l.length) : nthP l i = l[i] := by simp [nthP, h]
theorem decF_len : ∀ (k u : Nat), (decF k u).length ≤ k + 1
  | 0, u => by simp [decF]
  | k + 1, u => by
    rw [decF]
    have := decF_len k (u / 10)
    split <;> simp <;> omega
theorem itoaF_len (n : Int) : (itoaF n).length ≤ 24 := by
  unfold itoaF
  split
  · rw [List.length_cons]; have := decF_len 20 n.natAbs; omega
  · have := decF_len 20 n.toNat; omega
theorem makeP_bw {l : List X4} (h : ∀ x ∈ l, x.ok) : bws itoaF (makeP l) ≤ 20000 := by
  obtain ⟨h1, h2⟩ := makeP_sv h
  have := svs_bw (fun n _ _ => itoaF_len n) _ h1
  omega
end Go.AM
