/- Walks: slices.Index, slices.Contains over bytes; sets of refs. -/
import Derived.Test.YtaenhbfgfhhbcaaAmSetSR
set_option linter.unusedVariables false
set_option linter.unusedSimpArgs false
set_option maxRecDepth 20000
namespace Go.AM.YtaenhbfgfhhbcaaT
open Go Go.AM Go.Proofs
def ix (x : Int) : List Int → Int → Int
  | [], _ => -1
  | y :: r, i => if x = y then i else ix x r (i + 1)
theorem wr_i64 {n : Int} (h0 : 0 ≤ n) (h1 : n < 9223372036854775808) : wr .i64 n = n := by
  obtain ⟨m, rfl⟩ := Int.eq_ofNat_of_zero_le h0
  have : m < 9223372036854775808 := by omega
  show (if m < 9223372036854775808 then Int.ofNat m else _) = _
  rw [if_pos this]; rfl
theorem wr_u64 {n : Int} (h0 : 0 ≤ n) (h1 : n < 18446744073709551616) : wr .u64 n = n := by
  obtain ⟨m, rfl⟩ := Int.eq_ofNat_of_zero_le h0
  have : m < 18446744073709551616 := by omega
  show (if m < 18446744073709551616 then Int.ofNat m else _) = _
  rw [if_pos this]; rfl
theorem wr_u32 {n : Int} (h0 : 0 ≤ n) (h1 : n < 4294967296) : wr .u32 n = n := by
  obtain ⟨m, rfl⟩ := Int.eq_ofNat_of_zero_le h0
  have : m < 4294967296 := by omega
  show (if m < 4294967296 then Int.ofNat m else _) = _
  rw [if_pos this]; rfl
theorem wr_succ {i : Nat} (h : i < 1000000000) : wr .i64 ((i : Int) + 1) = (i + 1 : Nat) := by rw [wr_i64 (by omega) (by omega)]; omega

def I47 (b len z : Nat) (cap : Option Nat) (x : Int) (l : List Int) (H : Hp) (m : Nat) (F : Fr) (H' : Hp) : Prop :=
  ∃ i : Nat, i + m = len ∧ H' = H ∧ F.get 0 = some (.sl b 0 len cap z) ∧ F.get 1 = some (.int .u8 x) ∧ F.get 7 = some (.int .i64 len) ∧ F.get 8 = some (.int .i64 i) ∧ ix x l 0 = ix x (l.drop i) i
theorem index47 {H : Hp} {b len z : Nat} {cap : Option Nat} {ro : Bool} {e : TypeId} {cs : List V} {x : Int} {l : List Int} (hs : H.stale = []) (hg : H.get b = some (.row e 1 ro cs)) (hlen : l.length = len) (hsm : len < 1000000)
    (hl : ∀ (j : Nat) y, l[j]? = some y → cs[j]? = some (.int .u8 y)) : WF tab 47 [.sl b 0 len cap z, .int .u8 x] H fun v H' => v = .int .i64 (ix x l 0) ∧ H' = H := by
  refine wf47 (wp_sound _ ?_)
  simp [hs]
  refine loop_of (I47 b len z cap x l H) (m := len) ⟨0, by omega, rfl, by simp, by simp, by simp, by simp, by simp⟩ ?_
  rintro m F H' ⟨i, hi, rfl, f0, f1, f7, f8, hix⟩
  by_cases hlt : i < len
  · obtain ⟨y, hy⟩ : ∃ y, l[i]? = some y := ⟨l[i], List.getElem?_eq_getElem (by omega)⟩
    have hd : l.drop i = y :: l.drop (i + 1) := by
      rw [List.drop_eq_getElem_cons (by omega)]
      rw [List.getElem?_eq_getElem (by omega)] at hy
      simp at hy; rw [hy]
    have hcy := hl i y hy
    have hw := wr_succ (show i < 1000000000 by omega)
    rw [hd] at hix
    by_cases hxy : x = y
    · subst hxy
      simp [ix] at hix
      simp [L47_0, f0, f1, f7, f8, hlt, hg, hcy, hs, hix]
    · have hb : (x == y) = false := by simp [hxy]
      simp only [ix, hxy, if_false] at hix
      simp [L47_0, f0, f1, f7, f8, hlt, hg, hcy, hs, hb, hw]
      exact ⟨m - 1, by omega, i + 1, by omega, rfl, by simp [f0], by simp [f1], by simp [f7], by simp, hix⟩
  · have : l.drop i = [] := List.drop_eq_nil_of_le (by omega)
    rw [this] at hix
    simp [ix] at hix
    simp [L47_0, f0, f1, f7, f8, hlt, hs, hix]
theorem ix_mem (x : Int) : ∀ (l : List Int) (i : Int), 0 ≤ i → (decide (0 ≤ ix x l i)) = decide (x ∈ l)
  | [], i, _ => by simp [ix]
  | y :: r, i, h => by
    by_cases e : x = y
    · subst e; simp [ix, h]
    · have h1 : ix x (y :: r) i = ix x r (i + 1) := by simp [ix, e]
      have h2 := ix_mem x r (i + 1) (by omega)
      simp only [h1]
      rw [h2]
      simp [e]
theorem contains19 {H : Hp} {b len z : Nat} {cap : Option Nat} {ro : Bool} {e : TypeId} {cs : List V} {x : Int} {l : List Int} (hs : H.stale = []) (hg : H.get b = some (.row e 1 ro cs)) (hlen : l.length = len) (hsm : len < 1000000)
    (hl : ∀ (j : Nat) y, l[j]? = some y → cs[j]? = some (.int .u8 y)) : WF tab 19 [.sl b 0 len cap z, .int .u8 x] H fun v H' => v = .bool (decide (x ∈ l)) ∧ H' = H := by
  refine wf19 (wp_sound _ ?_)
  simp [hs]
  refine (index47 hs hg hlen hsm hl).mono ?_
  rintro v H' ⟨rfl, rfl⟩
  simp [hs, ix_mem]
/-! ### Sets of refs -/
theorem findE_app (k : V) (e : V × V × Nat) : ∀ (es : List (V × V × Nat)) (n : Nat) {r : Option (Nat × V)}, findE k es n = some r → findE k (es ++ [e]) n = match r with | some p => some (some p) | none => (match sameK k e.1 with | some true => some (some (n + es.length, e.2.1)) | some false => some none | none => none)
  | [], n, r, h => by
    simp only [findE] at h; cases h
    simp only [List.nil_append, findE]
    cases sameK k e.1 with
    | none => rfl
    | some b => cases b <;> rfl
  | x :: es, n, r, h => by
    simp only [findE] at h
    simp only [List.cons_append, findE]
    cases hs : sameK k x.1 with
    | none => rw [hs] at h; cases h
    | some b =>
      rw [hs] at h
      cases b with
      | true => cases h; rfl
      | false =>
        have h : findE k es (n + 1) = some r := h
        have := findE_app k e es (n + 1) h
        dsimp only
        rw [this]
        cases r with
        | some p => rfl
        | none => simp only [List.length_cons, show n + 1 + es.length = n + (es.length + 1) from by omega]
/-- The entries of the set of these numbers. -/
def SetOk (es : List (V × V × Nat)) (l : List Int) : Prop := ∀ x : Int, if x ∈ l then ∃ j, findE (.int .u64 x) es 0 = some (some (j, .agg [])) else findE (.int .u64 x) es 0 = some none
theorem SetOk.nil : SetOk [] [] := fun x => by simp [findE]
theorem SetOk.add {es : List (V × V × Nat)} {l : List Int} (h : SetOk es l) (n : Int) (c : Nat) (hn : n ∉ l) : SetOk (es ++ [(.int .u64 n, .agg [], c)]) (l ++ [n]) := by
  intro x
  have hx := h x
  by_cases hl : x ∈ l
  · rw [if_pos hl] at hx
    obtain ⟨j, hj⟩ := hx
    rw [if_pos (by simp [hl])]
    exact ⟨j, by rw [findE_app _ _ _ _ hj]⟩
  · rw [if_neg hl] at hx
    have := findE_app (.int .u64 x) (.int .u64 n, .agg [], c) es 0 hx
    by_cases he : x = n
    · subst he
      rw [if_pos (by simp)]
      refine ⟨0 + es.length, ?_⟩
      rw [this]
      simp [sameK, same1]
    · rw [if_neg (by simp [hl, he]), this]
      have : (x == n) = false := by simp [he]
      simp [sameK, same1, this]
theorem SetOk.old {es : List (V × V × Nat)} {l : List Int} (h : SetOk es l) (n : Int) (hn : n ∈ l) : SetOk es (l ++ [n]) := by
  intro x
  have hx := h x
  by_cases hl : x ∈ l
  · rw [if_pos hl] at hx; rw [if_pos (by simp [hl])]; exact hx
  · rw [if_neg hl] at hx
    rw [if_neg (by rintro hm; simp at hm; rcases hm with h | h; exact hl h; subst h; exact hl hn)]
    exact hx
/-- A heap in which nothing is gone, and more may be there; what lay there, but for these rows, lies there still. -/
structure Ext (X : Nat → Prop) (H H' : Hp) : Prop where
  st : H'.stale = []
  le : H.next ≤ H'.next
  get : ∀ b, b < H.next → ¬ X b → H'.get b = H.get b
theorem Ext.refl {X : Nat → Prop} {H : Hp} (h : H.stale = []) : Ext X H H := ⟨h, Nat.le_refl _, fun _ _ _ => rfl⟩
theorem Ext.trans {X : Nat → Prop} {H H1 H2 : Hp} (h : Ext X H H1) (h' : Ext X H1 H2) : Ext X H H2 := ⟨h'.st, Nat.le_trans h.le h'.le, fun b hb hx => (h'.get b (Nat.lt_of_lt_of_le hb h.le) hx).trans (h.get b hb hx)⟩
theorem Ext.mono {X Y : Nat → Prop} {H H' : Hp} (h : Ext X H H') (hx : ∀ b, b < H.next → X b → Y b) : Ext Y H H' := ⟨h.st, h.le, fun b hb hy => h.get b hb fun hxb => hy (hx b hb hxb)⟩
theorem Ext.new {X : Nat → Prop} {H : Hp} (h : H.stale = []) (o : Ob) : Ext X H (H.new o) := ⟨h, by rw [Hp.next_new]; omega, fun b hb _ => get_new_ne o (by omega)⟩
theorem Ext.put {X : Nat → Prop} {H : Hp} (h : H.stale = []) {b : Nat} (o : Ob) (hb : X b) : Ext X H (H.put b o) := ⟨h, Nat.le_refl _, fun c _ hx => get_put_ne o fun e => hx (e ▸ hb)⟩
theorem Ext.putge {X : Nat → Prop} {H H1 : Hp} (h : Ext X H H1) {b : Nat} (o : Ob) (hb : H.next ≤ b) : Ext X H (H1.put b o) := ⟨h.st, h.le, fun c hc hx => by rw [get_put_ne o (by omega)]; exact h.get c hc hx⟩
def noX : Nat → Prop := fun _ => False
theorem has20 {H : Hp} {b : Nat} {ro : Bool} {es : List (V × V × Nat)} {c : Nat} {l : List Int} {r : Int} (hs : H.stale = []) (hg : H.get b = some (.map ro es c)) (hS : SetOk es l) : WF tab 20 [.mp b, .int .u64 r] H fun v H' => v = .bool (decide (r ∈ l)) ∧ Ext noX H H' := by
  have hE : Ext noX H ((H.new (Ob.row 97 0 false [])).put H.next (Ob.row 97 0 false [])) := (Ext.new hs _).putge _ (Nat.le_refl _)
  refine wf20 (wp_sound _ ?_)
  have h := hS r
  by_cases hm : r ∈ l
  · rw [if_pos hm] at h
    obtain ⟨j, hj⟩ := h
    simp [hs, hg, hj, hm, hE]
  · rw [if_neg hm] at h
    simp [hs, hg, h, hm, hE]
theorem add21 {H : Hp} {b : Nat} {es : List (V × V × Nat)} {c : Nat} {l : List Int} {r : Int} (hs : H.stale = []) (hb : b < H.next) (hg : H.get b = some (.map false es c)) (hS : SetOk es l) : WF tab 21 [.mp b, .int .u64 r] H fun v H' => v = .bool (!decide (r ∈ l)) ∧ Ext (· = b) H H' ∧ ∃ es' c', H'.get b = some (.map false es' c') ∧ SetOk es' (l ++ [r]) := by
  refine wf21 (wp_sound _ ?_)
  simp [hs]
  refine (has20 hs hg hS).mono ?_
  rintro v H1 ⟨rfl, hE⟩
  have h := hS r
  have hg1 : H1.get b = some (.map false es c) := by rw [hE.get b hb (by simp [noX])]; exact hg
  have hE' : Ext (· = b) H H1 := hE.mono (fun _ _ h => h.elim)
  by_cases hm : r ∈ l
  · simp [hm, hE.st]
    exact ⟨hE', ⟨es, ⟨c, hg1⟩, hS.old r hm⟩⟩
  · rw [if_neg hm] at h
    simp [hm, hE.st, hg1, h]
    exact ⟨hE'.trans (Ext.put hE.st _ rfl), hS.add r c hm⟩
end Go.AM.YtaenhbfgfhhbcaaT
