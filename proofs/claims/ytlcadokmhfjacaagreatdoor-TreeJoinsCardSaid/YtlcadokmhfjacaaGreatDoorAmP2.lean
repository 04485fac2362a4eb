/- Parts of the abstract machine and of the walks over it, joined: what the law that is claimed here leans on. -/
import Derived.Test.YtlcadokmhfjacaaGreatDoorAmP
/- Trees' texts: the program's; lists. -/
set_option linter.unusedVariables false
set_option linter.unusedSimpArgs false
set_option maxRecDepth 100000
namespace Go.AM.YtlcadokmhfjacaaGreatDoorT
open Go Go.AM Go.Proofs
def signsV : List V := [.str [], .str [], .str [], .str [], .str [], .str [], .str [45], .str [33], .str [43], .str [45], .str [42], .str [61, 61], .str [33, 61], .str [60], .str [], .str [], .str [], .str []]
/-- A heap that has the signs. -/
structure Gs (H : Hp) : Prop where
  st : H.stale = []
  lt : 0 < H.next
  sg : H.get 0 = some (.row 99 1 true signsV)
theorem Gs.ext {H H' : Hp} (h : Gs H) (hE : Ext noX H H') : Gs H' := ⟨hE.st, Nat.lt_of_lt_of_le h.lt hE.le, by rw [hE.get _ h.lt (fun h => h)]; exact h.sg⟩
theorem strsOf_map : ∀ l : Ts, strsOf (l.map V.str) = some l
  | [] => rfl
  | x :: r => by simp only [List.map_cons, strsOf, strsOf_map r]
theorem join_P : ∀ l : Ts, Lib.join l [44, 32] = joinP l
  | [] => by simp [Lib.join, joinP]
  | [x] => by simp [Lib.join, joinP]
  | x :: y :: r => by
    have h := join_P (y :: r)
    have e : Lib.join (x :: y :: r) [44, 32] = x ++ ([44, 32] ++ Lib.join (y :: r) [44, 32]) := by simp only [Lib.join, List.intercalate]; cases r <;> simp [List.intersperse]
    rw [e, h, joinP]; simp
theorem join_told {K : Nat → Prop} {H : Hp} {l : Ts} {v : V} (hst : H.stale = []) (h : StrsAt K H l v) (hl : lens l ≤ 90000000) : WF tab 58 [v, .str [44, 32]] H fun w H' => w = .str (joinP l) ∧ H' = H := by
  refine wf_told (f := 58) rfl fn58 rfl (H' := H) (v := .str (joinP l)) ?_ ⟨rfl, rfl⟩
  have hj := joinP_len l
  have hg := lens_ge l
  rcases h with ⟨rfl | rfl, h0⟩ | ⟨b, off, cap, e, ro, cells, rfl, g1, g2, g3, g4, g5, g6, g7⟩
  · have : l = [] := List.eq_nil_of_length_eq_zero h0
    subst this; rfl
  · have : l = [] := List.eq_nil_of_length_eq_zero h0
    subst this; rfl
  · have h1 : off + l.length ≤ cells.length ∧ l.length ≤ 140737488355328 := ⟨by omega, by omega⟩
    simp only [joinE, hst, g1, if_pos h1, g6, strsOf_map, join_P]
    rw [if_pos (by omega)]
/-- The program's: what the functions come to. -/
def tX (e : Tx) : Prop := ∀ (H : Hp) (cs : List V) (K : Nat → Prop), Gs H → ExpAt K H e cs → (∀ b, K b → b < H.next) → e.bw itoaF ≤ 50000000 → WF tab 27 [.agg cs] H fun w H' => w = .str (prE itoaF e) ∧ Ext noX H H'
def tlX (l : List Tx) : Prop := ∀ (H : Hp) (v : V) (K : Nat → Prop), Gs H → TreesAt K H l v → (∀ b, K b → b < H.next) → bws itoaF l ≤ 50000000 → WF tab 57 [v] H fun w H' => w = .str (joinP (prEs itoaF l)) ∧ Ext noX H H'
def tpX (l : List Tx) : Prop := ∀ (H : Hp) (v : V) (K : Nat → Prop), Gs H → TreesAt K H l v → (∀ b, K b → b < H.next) → bws itoaF l ≤ 50000000 → WF tab 25 [v] H fun w H' => w = .str (prB itoaF l) ∧ Ext noX H H'
structure J57 (H0 : Hp) (v : V) (parts : List Tx) (i : Nat) (u : V) (F : Fr) (H : Hp) : Prop where
  gro : SGro H0 H noX 9 u (prEs itoaF (parts.take i))
  ext : Ext noX H0 H
  f3 : F.get 3 = some u
  f6 : F.get 6 = some v
  f7 : F.get 7 = some (.int .i64 parts.length)
  f8 : F.get 8 = some (.int .i64 i)
theorem list_ok {parts : List Tx} (hP : ∀ p ∈ parts, tX p) : tlX parts := by
  intro H0 v K hG hT hK hb
  have hst0 := hG.st
  refine wf57 (wp_sound _ ?_)
  have h1 := hT.len 46; have h2 := hT.one; have h3 := hT.cells
  have hll := len_bws (dec := itoaF) parts
  simp [hst0, h1, h2, h3]
  refine loop_of (fun k F H => ∃ i u, i + k = parts.length ∧ J57 H0 v parts i u F H) (m := parts.length) ⟨0, .nils, by omega, ⟨⟨hst0, Nat.le_refl _, by simpa [prEs] using SlAt.nil, fun b hb => by simp [rowsOf] at hb⟩, Ext.refl hst0, by simp, by simp, by simp, by simp⟩⟩ ?_
  rintro k F H ⟨i, u, hi, I⟩
  have hst := I.gro.st
  have f3 := I.f3; have f6 := I.f6; have f7 := I.f7; have f8 := I.f8
  by_cases hlt : i < parts.length
  · have hlt' : (i : Int) < (parts.length : Int) := by omega
    have hS0 : Stays K K H0 H := ⟨fun b hb _ => hb, fun b hb hx => I.ext.get b hx (fun h => h), I.ext.le⟩
    have hTi := hT.mono hS0
    obtain ⟨b, off, cap, e, ro, cells, d0, d1, d2, d3, d4, d5, rfl, g1, g2, g3, g4, g5, g6, g7, n0, n1, n2, n3, n4, n5⟩ := TreesAt.at_ hTi hlt
    have hw : wr .i64 ((i : Int) + 1) = ((i + 1 : Nat) : Int) := by rw [wr_i64 (by omega) (by omega)]; omega
    have hoff : off + i * 6 + 6 ≤ cells.length := by omega
    simp [L57_0, f3, f6, f7, f8, hst, hlt, hlt', g1, g4, g5, g6, hoff, n0, n1, n2, n3, n4, n5, Hp.get_new, Hp.get_put]
    have hgn : ∀ o o' : Ob, ∀ b, b < H.next → ((H.new o).put H.next o').get b = H.get b := fun o o' b hb => by simp [Hp.get_new, Hp.get_put, old_ne hb]
    have hX1 : ∀ o o' : Ob, Ext noX H ((H.new o).put H.next o') := fun o o' => ⟨by simp [hst], by simp, fun b hb _ => hgn o o' b hb⟩
    have hSn : ∀ o o' : Ob, Stays K K H ((H.new o).put H.next o') := fun o o' => ⟨fun b hb _ => hb, fun b hb hx => hgn o o' b hx, by simp⟩
    have hl0 := I.gro.le
    have hbp := bws_mem (dec := itoaF) (List.getElem_mem hlt)
    refine (hP parts[i] (List.getElem_mem hlt) _ _ K (hG.ext (I.ext.trans (hX1 _ _))) (ExpAt.mono (hSn _ _) _ _ g7) (fun b hb => by have := hK b hb; simp; omega) (by omega)).mono ?_
    rintro w' H2 ⟨rfl, hX2⟩
    have hX12 := (hX1 _ _).trans hX2
    have s2 := hX12.st
    have l2 := hX12.le
    have hrows := I.gro.rows
    have hln : (prEs itoaF (parts.take i)).length = i := by rw [prEs_map]; simp; omega
    have hsl2 : SlAt H2 9 1 u (prEs itoaF (parts.take i)).length ((prEs itoaF (parts.take i)).map .str) := I.gro.sl.of_get fun b hb => hX12.get b (hrows b hb).2.1 (fun h => h)
    simp [s2, f3]
    refine wpL_app1 (H := H2) (e0 := 9) (cells := [.str (prE itoaF parts[i])]) (by simp [descOf]) ty9 (by decide) (by simp) (by simp) hsl2 (fun b hb => ⟨by have := (hrows b hb).2.1; omega, by simp [s2]⟩) rfl (by show ((prEs itoaF (parts.take i)).length + 1) * 16 ≤ _; omega) (by omega) (by simp [s2]) fun v' H3 hS hA => ?_
    have c5 := hS.one; have c6 := hS.cells
    simp [f8, hw, c5, c6]
    obtain ⟨G4, keep⟩ := I.gro.step (H4 := H3.flush) (X := noX) (fun b hb => hb.elim) hX12 hS (.inl rfl) hA (by simp) (by simp) (fun b _ => rfl)
    have hs : prEs itoaF (parts.take (i + 1)) = prEs itoaF (parts.take i) ++ [prE itoaF parts[i]] := by rw [List.take_succ_eq_append_getElem hlt, prEs_map, prEs_map, List.map_append]; rfl
    refine ⟨k - 1, by omega, i + 1, by omega, v', by rw [hs]; exact G4, ⟨by simp, G4.le, fun b hb hx => ?_⟩, by simp, by simp [f6], by simp [f7], by simp⟩
    rw [keep b (by omega) (fun h => h) (fun h => by have := (hrows b h).1; omega), hX12.get b (by omega) (fun h => h)]
    exact I.ext.get b hb hx
  · have hlt' : ¬ (i : Int) < (parts.length : Int) := by omega
    have hg := I.gro
    rw [List.take_of_length_le (by omega)] at hg
    have hU : StrsAt (fun b => H0.next ≤ b ∧ b < H.next) H (prEs itoaF parts) u := StrsAt.of_slAt hg.sl (fun b hb => by have := hg.rows b hb; exact ⟨⟨this.1, this.2.1⟩, this.2.1⟩) rfl
    have hle := prEs_len itoaF parts
    simp [L57_0, f3, f6, f7, f8, hst, hlt']
    refine (join_told hst hU (by omega)).mono ?_
    rintro w H2 ⟨rfl, rfl⟩
    simp [hst, I.ext]
end Go.AM.YtlcadokmhfjacaaGreatDoorT
/- Trees' texts: the program's; a record's fields. -/
set_option linter.unusedVariables false
set_option linter.unusedSimpArgs false
set_option maxRecDepth 100000
namespace Go.AM.YtlcadokmhfjacaaGreatDoorT
open Go Go.AM Go.Proofs
theorem ExpAt.eqv {K : Nat → Prop} {H : Hp} : ∀ {t : Tx} {cs : List V}, ExpAt K H t cs → eqL cs cs = true
  | .ex .., cs, h => by simp only [ExpAt] at h; obtain ⟨vp, vq, vb, rfl, h1, h2, h3⟩ := h; simp [eqL, eqV, h1.eqv, h2.eqv, h3.eqv]
  | .st .., cs, h => by simp only [ExpAt] at h; obtain ⟨vp, vq, vb, rfl, h1, h2, h3⟩ := h; simp [eqL, eqV, h1.eqv, h2.eqv, h3.eqv]
structure J27 (H0 : Hp) (eb : Nat) (l : Ts) (i : Nat) (x : V) (F : Fr) (H : Hp) : Prop where
  le : 2 * i ≤ l.length
  gro : SGro H0 H noX 9 x (fieldsP (l.take (2 * i)))
  ext : Ext noX H0 H
  f1 : F.get 1 = some (.ptr eb 0)
  f3 : F.get 3 = some x
  f4 : F.get 4 = some (.int .i64 (2 * i : Nat))
theorem fieldsP_len : ∀ (n : Nat) (m : Ts), m.length ≤ n → (fieldsP m).length ≤ m.length
  | 0, m, hm => by have : m = [] := List.eq_nil_of_length_eq_zero (by omega); subst this; simp [fieldsP]
  | n + 1, [], hm => by simp [fieldsP]
  | n + 1, [y], hm => by simp [fieldsP]
  | n + 1, y :: z :: r, hm => by
    have := fieldsP_len n r (by simp at hm; omega)
    simp only [fieldsP, List.length_cons]; omega
theorem flds_loop {K : Nat → Prop} {H0 : Hp} {eb : Nat} {r0 r1 r2 vp r4 r5 : V} {parts : List Tx} (hP : ∀ p ∈ parts, tX p) (hG : Gs H0) (h2 : parts.length % 2 = 0) (hE : H0.get eb = some (.row 46 6 false [r0, r1, r2, vp, r4, r5])) (heb : eb < H0.next) (hT : TreesAt K H0 parts vp) (hK : ∀ b, K b → b < H0.next) (hb : bws itoaF parts ≤ 50000000) {F : Fr} {H : Hp} {Q : PC} {x : V} (h0 : J27 H0 eb (prEs itoaF parts) 0 x F H)
    (hQ : ∀ x' F' H', SGro H0 H' noX 9 x' (fieldsP (prEs itoaF parts)) → Ext noX H0 H' → F'.get 3 = some x' → Q (.exit 1) F' H') : WC tab (.loop L27_0) F H Q := by
  obtain ⟨lg1, lg2⟩ := prEs_len itoaF parts
  have hll := len_bws (dec := itoaF) parts
  have hpe : ∀ i (h : i < parts.length) (h' : i < (prEs itoaF parts).length), (prEs itoaF parts)[i] = prE itoaF parts[i] := fun i h h' => by simp [prEs_map]
  generalize hL : prEs itoaF parts = l at *
  refine loop_of (fun k F H => ∃ i x, 2 * (i + k) = l.length ∧ J27 H0 eb l i x F H) (m := l.length / 2) ⟨0, x, by omega, h0⟩ ?_
  rintro k F H ⟨i, x, hi, I⟩
  have hst := I.gro.st
  have f1 := I.f1; have f3 := I.f3; have f4 := I.f4
  have hrow : H.get eb = some (.row 46 6 false [r0, r1, r2, vp, r4, r5]) := by rw [I.ext.get eb heb (fun h => h)]; exact hE
  have hS0 : Stays K K H0 H := ⟨fun b hb _ => hb, fun b hb hx => I.ext.get b hx (fun h => h), I.ext.le⟩
  have hTi := hT.mono hS0
  have hl1 := SliceOf.len hTi 46
  have hvv := SliceOf.eqv hTi
  have hw1 : wr .i64 (((2 * i : Nat) : Int) + 1) = ((2 * i + 1 : Nat) : Int) := by rw [wr_i64 (by omega) (by omega)]; omega
  by_cases hlt : 2 * i < l.length
  · have hlt1 : 2 * i + 1 < parts.length := by omega
    have hltb : ((2 * i : Nat) : Int) + 1 < (parts.length : Int) := by omega
    have hlt0 : 2 * i < parts.length := by omega
    have hlt' : ((2 * i : Nat) : Int) < (parts.length : Int) := by omega
    have hw : wr .i64 (((2 * i : Nat) : Int) + 2) = ((2 * (i + 1) : Nat) : Int) := by rw [wr_i64 (by omega) (by omega)]; omega
    obtain ⟨b, off, cap, e, ro, cells, d0, d1, d2, d3, d4, d5, rfl, g1, g2, g3, g4, g5, g6, g7, n0, n1, n2, n3, n4, n5⟩ := TreesAt.at_ hTi hlt0
    obtain ⟨b', off', cap', e', ro', cells', c0, c1, c2, c3, c4, c5, hv', q1, q2, q3, q4, q5, q6, q7, m0, m1, m2, m3, m4, m5⟩ := TreesAt.at_ hTi hlt1
    cases hv'
    rw [g1] at q1
    cases q1
    have hoff : off + 2 * i * 6 + 6 ≤ cells.length := by omega
    have hoff1 : off + (2 * i + 1) * 6 + 6 ≤ cells.length := by omega
    have hq0 : (0 : Int) ≤ ((2 * i : Nat) : Int) + 1 := by omega
    have hf : fieldsP (l.take (2 * (i + 1))) = fieldsP (l.take (2 * i)) ++ [[91] ++ prE itoaF parts[2 * i] ++ [93, 58, 32] ++ prE itoaF parts[2 * i + 1]] := by
      rw [show 2 * (i + 1) = 2 * i + 1 + 1 by omega, List.take_succ_eq_append_getElem (show 2 * i + 1 < l.length by omega), List.take_succ_eq_append_getElem hlt, List.append_assoc, hpe _ hlt0, hpe _ hlt1]
      exact fieldsP_two _ _ _ (by simp; omega)
    have bb0 := bws_mem (dec := itoaF) (List.getElem_mem hlt0)
    have bb1 := bws_mem (dec := itoaF) (List.getElem_mem hlt1)
    have p0 := hP _ (List.getElem_mem hlt0)
    have p1 := hP _ (List.getElem_mem hlt1)
    have pl0 := prE_len itoaF parts[2 * i]
    have pl1 := prE_len itoaF parts[2 * i + 1]
    have hG0 := I.gro
    have hmem1 : ∀ b, K b → b < H.next := fun b hb => by have := hK b hb; have := I.ext.le; omega
    generalize hj : 2 * i = j at *
    simp [L27_0, f1, f3, f4, hst, hrow, hl1, hw1, hltb, hlt1, hlt', hlt0, g1, g5, g6, hoff, n0, n1, n2, n3, n4, n5, hw]
    refine (p0 H _ K (hG.ext I.ext) g7 hmem1 (by omega)).mono ?_
    rintro w H2 ⟨rfl, hX2⟩
    have r2' : H2.get eb = some (.row 46 6 false [r0, r1, r2, .sl b off parts.length cap 6, r4, r5]) := by rw [hX2.get eb (by have := I.ext.le; omega) (fun h => h)]; exact hrow
    have g2' : H2.get b = some (.row e 6 ro cells) := by rw [hX2.get b g3 (fun h => h)]; exact g1
    simp [hX2.st, f1, f3, f4, r2', g2', hrow, g1, hw1, hq0, hlt1, hltb, q6, hoff1, m0, m1, m2, m3, m4, m5, hvv]
    have hq7 : eqV (.agg [c0, c1, c2, c3, c4, c5]) (.agg [c0, c1, c2, c3, c4, c5]) = true := by rw [eqV]; exact ExpAt.eqv q7
    refine ⟨hq7, ?_⟩
    have hX2b := hX2.bump
    have hS2 : Stays K K H H2.bump := ⟨fun b hb _ => hb, fun b hb hx => hX2b.get b hx (fun h => h), hX2b.le⟩
    refine (p1 H2.bump _ K (hG.ext (I.ext.trans hX2b)) (ExpAt.mono hS2 _ _ q7) (fun b hb => by have := hmem1 b hb; have := hX2b.le; omega) (by omega)).mono ?_
    rintro w H3 ⟨rfl, hX3⟩
    have hX23 := hX2b.trans hX3
    have s3 := hX3.st
    simp [s3, f3]
    simp (disch := first | omega | (simp only [List.length_append, List.length_cons, List.length_nil]; omega)) only [if_le]
    simp [s3, f3]
    simp (disch := first | omega | (simp only [List.length_append, List.length_cons, List.length_nil]; omega)) only [if_le]
    simp [s3, f3]
    simp (disch := first | omega | (simp only [List.length_append, List.length_cons, List.length_nil]; omega)) only [if_le]
    simp [s3, f3]
    have hrows := hG0.rows
    have hfl : (fieldsP (l.take j)).length ≤ l.length := Nat.le_trans (fieldsP_len _ _ (Nat.le_refl _)) (by simp; omega)
    have hX23b := hX23.bump
    have l23 := hX23.le
    have hsl : SlAt H3.bump 9 1 x (fieldsP (l.take j)).length ((fieldsP (l.take j)).map .str) := hG0.sl.of_get fun b hb => hX23b.get b (hrows b hb).2.1 (fun h => h)
    refine wpD_app1 (H := H3.bump) (e0 := 9) (cells := [.str (91 :: (prE itoaF parts[j] ++ 93 :: 58 :: 32 :: prE itoaF parts[j + 1]))]) (by simp [descOf]) ty9 (by decide) (by simp) (by simp) hsl (fun b hb => ⟨by have := (hrows b hb).2.1; simp; omega, by simp [s3]⟩) rfl (by show ((fieldsP (l.take j)).length + 1) * 16 ≤ _; omega) (by omega) (by simp [s3]) fun v' H4 hS hA => ?_
    have c5 := hS.one; have c6 := hS.cells
    simp [f4, hw, c5, c6]
    obtain ⟨G4, keep⟩ := hG0.step (H2 := H3.bump) (H4 := H4.bump.flush) (X := noX) (fun b hb => hb.elim) hX23b hS (.inl rfl) hA (by simp) (by simp) (fun b _ => by rw [Hp.get_flush, Hp.get_flush]; rfl)
    have hl0 := hG0.le
    refine ⟨k - 1, by omega, i + 1, by omega, v', by omega, by rw [hf]; simpa using G4, ⟨by simp, G4.le, fun b hb hx => ?_⟩, by simp [f1], by simp, by simp⟩
    rw [keep b (by simp; omega) (fun h => h) (fun h => by have := (hrows b h).1; omega), hX23b.get b (by omega) (fun h => h)]
    exact I.ext.get b hb hx
  · have hg := I.gro
    have e0 : 2 * i = l.length := by omega
    rw [List.take_of_length_le (by omega)] at hg
    have hltb : ¬ ((2 * i : Nat) : Int) + 1 < (parts.length : Int) := by omega
    generalize hj : 2 * i = j at *
    simp [L27_0, f1, f3, f4, hst, hrow, hl1, hw1, hltb]
    exact hQ _ _ _ hg I.ext (by simp [f3])
end Go.AM.YtlcadokmhfjacaaGreatDoorT
/- Trees' texts: the program's; an expression's. -/
set_option linter.unusedVariables false
set_option linter.unusedSimpArgs false
set_option maxRecDepth 100000
namespace Go.AM.YtlcadokmhfjacaaGreatDoorT
open Go Go.AM Go.Proofs
theorem bws_drop {dec : Int → Bs} : ∀ (l : List Tx) (i : Nat), bws dec (l.drop i) ≤ bws dec l
  | l, 0 => by simp
  | [], i + 1 => by simp
  | x :: r, i + 1 => by have := bws_drop (dec := dec) r i; simp only [List.drop_succ_cons, bws]; omega
theorem tail1 {K : Nat → Prop} {H : Hp} {parts : List Tx} {v : V} (h : TreesAt K H parts v) (hn : 1 ≤ parts.length) : ∃ w, sliceV tab 40 v (some 1) none none = some w ∧ TreesAt K H (parts.drop 1) w := by
  rcases h with ⟨_, h0⟩ | ⟨b, off, cap, e, ro, cells, rfl, g1, g2, g3, g4, g5, g6, g7⟩
  · omega
  · have hd : ElsAt K H (parts.drop 1) (cells.drop (off + 6)) := by
      have := ElsAt.drop 1 _ _ g6
      rwa [List.drop_drop] at this
    have hl : (parts.drop 1).length = parts.length - 1 := by simp
    by_cases h1 : 1 < parts.length
    · have h1i : (1 : Int) < (parts.length : Int) := by omega
      have h1j : (1 : Int) ≤ (parts.length : Int) := by omega
      have h1k : ¬ (parts.length : Int) < 1 := by omega
      cases cap with
      | none =>
        refine ⟨.sl b (off + 6) (parts.length - 1) none 6, by simp [sliceV, descOf, h1i, h1j, h1k, h1], .inr ⟨b, off + 6, none, e, ro, cells, by rw [hl], g1, g2, g3, by omega, by rw [hl]; omega, hd, fun c hc => by cases hc⟩⟩
      | some c =>
        have := g7 c rfl
        have hc : ¬ (c : Int) = 1 := by omega
        have hc' : ¬ c = 1 := by omega
        refine ⟨.sl b (off + 6) (parts.length - 1) (some (c - 1)) 6, by simp [sliceV, descOf, h1i, h1j, h1k, h1, hc, hc'], .inr ⟨b, off + 6, some (c - 1), e, ro, cells, by rw [hl], g1, g2, g3, by omega, by rw [hl]; omega, hd, fun c' hc' => by cases hc'; rw [hl]; omega⟩⟩
    · have e1 : parts.length = 1 := by omega
      have hn : parts.drop 1 = [] := List.drop_eq_nil_of_le (by omega)
      rw [hn]
      cases cap with
      | none => exact ⟨.sle, by simp [sliceV, descOf, e1], .inl ⟨.inr rfl, rfl⟩⟩
      | some c =>
        refine ⟨.sl b (if (c : Int) = 1 then off else off + 6) 0 (some (c - 1)) 6, by simp [sliceV, descOf, e1], .inr ⟨b, _, some (c - 1), e, ro, cells, rfl, g1, g2, g3, ?_, ?_, trivial, fun c' hc' => Nat.zero_le _⟩⟩
        · split <;> omega
        · split <;> simp <;> omega
theorem string_ok {op : Nat} {num : Int} {text : List UInt8} {parts : List Tx} {params : Ts} {body : List Tx} (hP : ∀ p ∈ parts, tX p) (hL : tlX (parts.drop 1)) (hB : tpX body) (hv : (Tx.ex op num text parts params body).ev) : tX (.ex op num text parts params body) := by
  intro H cs K hG hT hK hb
  have hst := hG.st
  refine wf27 (wp_sound _ ?_)
  simp only [ExpAt] at hT
  obtain ⟨vp, vq, vb, rfl, t1, t2, t3⟩ := hT
  simp only [Tx.bw] at hb
  simp only [Tx.ev] at hv
  obtain ⟨v1, ⟨v2, v3⟩, v4, v5, v6, v7, v8, v9, v10, v11, v12, v13⟩ := hv
  have n1 := t1.one; have n2 := t2.one; have n3 := t3.one
  have u1 := t1.eqv; have u2 := t2.eqv; have u3 := t3.eqv
  have hl := t1.len 46
  have hsg := hG.sg
  unfold signsV at hsg
  have h0 := old_ne hG.lt
  have hX1 : ∀ o : Ob, Ext noX H (H.new o) := fun o => Ext.new hst o
  have hS1 : ∀ o : Ob, Stays K K H (H.new o) := fun o => ⟨fun b hb _ => hb, fun b hb hx => (hX1 o).get b hx (fun h => h), (hX1 o).le⟩
  have hG1 : ∀ o : Ob, Gs (H.new o) := fun o => hG.ext (hX1 o)
  have hK1 : ∀ (o : Ob) b, K b → b < (H.new o).next := fun o b hb => by have := hK b hb; simp; omega
  have hpr : prE itoaF (.ex op num text parts params body) = prX itoaF op num text (prEs itoaF parts) params (prB itoaF body) := by simp only [prE]
  rw [hpr]
  obtain ⟨len1, len2⟩ := prEs_len itoaF parts
  have hbp : ∀ i (h : i < parts.length), (parts[i]).bw itoaF ≤ 50000000 ∧ (prE itoaF parts[i]).length ≤ 50000000 ∧ nthP (prEs itoaF parts) i = prE itoaF parts[i] := fun i h => by
    have := bws_mem (dec := itoaF) (List.getElem_mem h)
    have := prE_len itoaF parts[i]
    exact ⟨by omega, by omega, by rw [nthP_get (by omega)]; simp [prEs_map]⟩
  have hTT : TreesAt K H parts vp := t1
  have keep : ∀ (o : Ob) (H2 : Hp), Ext noX (H.new o) H2 → H2.get H.next = some o ∧ H2.get 0 = H.get 0 ∧ Gs H2 ∧ Ext noX H H2 ∧ Stays K K H H2 ∧ (∀ b, K b → b < H2.next) ∧ ∀ b, b < H.next → H2.get b = H.get b := fun o H2 hX2 => by
    have hX := (hX1 o).trans hX2
    exact ⟨by rw [hX2.get H.next (by simp) (fun h => h)]; simp [Hp.get_new], hX.get _ hG.lt (fun h => h), hG.ext hX, hX, ⟨fun b hb _ => hb, fun b hb hx => hX.get b hx (fun h => h), hX.le⟩, fun b hb => by have := hK b hb; have := hX.le; omega, fun b hb => hX.get b hb (fun h => h)⟩
  rcases (show op = 0 ∨ op = 1 ∨ op = 2 ∨ op = 3 ∨ op = 4 ∨ op = 5 ∨ op = 6 ∨ op = 7 ∨ op = 8 ∨ op = 9 ∨ op = 10 ∨ op = 11 ∨ op = 12 ∨ op = 13 ∨ op = 14 ∨ op = 15 ∨ op = 16 ∨ op = 17 by omega) with rfl | rfl | rfl | rfl | rfl | rfl | rfl | rfl | rfl | rfl | rfl | rfl | rfl | rfl | rfl | rfl | rfl | rfl
  · simp [hst, n1, n2, n3, Hp.get_new, prX, hX1]
  · simp [hst, n1, n2, n3, Hp.get_new, prX, hX1]
  · simp [hst, n1, n2, n3, Hp.get_new, prX, hX1]
  · simp [hst, n1, n2, n3, Hp.get_new]
    refine wf_told (f := 55) rfl fn55 rfl (H' := _) (v := .str (itoaF num)) (by simp [fmtE]; exact ⟨by omega, rfl⟩) ?_
    simp [hst, prX, hX1]
  · simp [hst, n1, n2, n3, Hp.get_new]
    refine (Quote_ok (by simp [hst]) text (by omega)).mono ?_
    rintro w H2 ⟨rfl, hX2⟩
    obtain ⟨k1, k2, k3, k4, k5, k6, k7⟩ := keep _ H2 hX2
    simp [k3.st, prX, quoteL_P, k4]
  · simp [hst, n1, n2, n3, Hp.get_new, prX, hX1]
  · have hlen : parts.length = 1 := v11.2.1 (by omega)
    obtain ⟨b, off, cap, e, ro, cells, d0, d1, d2, d3, d4, d5, rfl, g1, g2, g3, g4, g5, g6, g7, m0, m1, m2, m3, m4, m5⟩ := TreesAt.at_ hTT (i := 0) (by omega)
    have hg3 := old_ne g3
    have hoff : off + 6 ≤ cells.length := by omega
    have g7' : eqL [d0, d1, d2, d3, d4, d5] [d0, d1, d2, d3, d4, d5] = true := ExpAt.eqv g7
    obtain ⟨z1, z2, z3⟩ := hbp 0 (by omega)
    rw [Nat.zero_mul, Nat.add_zero] at g6
    simp [hst, n1, n2, n3, Hp.get_new, h0, hsg, hlen, g1, hg3, g6, hoff, m0, m1, m2, m3, m4, m5, eqV, u1]
    refine (hP _ (List.getElem_mem (show 0 < parts.length by omega)) _ _ K (hG1 _) (ExpAt.mono (hS1 _) _ _ g7) (hK1 _) z1).mono ?_
    rintro w H2 ⟨rfl, hX2⟩
    obtain ⟨k1, k2, k3, k4, k5, k6, k7⟩ := keep _ H2 hX2
    rw [hsg] at k2
    simp [k3.st, k1, k2, h0, hsg, eqV, Hp.get_new]
    try simp (disch := first | omega | (simp only [List.length_append, List.length_cons, List.length_nil]; omega)) only [if_le]
    try simp [k3.st, k1, k2, h0, hsg, eqV, Hp.get_new]
    try simp (disch := first | omega | (simp only [List.length_append, List.length_cons, List.length_nil]; omega)) only [if_le]
    try simp [k3.st, k1, k2, h0, hsg, eqV, Hp.get_new]
    try simp (disch := first | omega | (simp only [List.length_append, List.length_cons, List.length_nil]; omega)) only [if_le]
    try simp [k3.st, k1, k2, h0, hsg, eqV, Hp.get_new]
    simp [prX, z3, k4.bump]
  · have hlen : parts.length = 1 := v11.2.1 (by omega)
    obtain ⟨b, off, cap, e, ro, cells, d0, d1, d2, d3, d4, d5, rfl, g1, g2, g3, g4, g5, g6, g7, m0, m1, m2, m3, m4, m5⟩ := TreesAt.at_ hTT (i := 0) (by omega)
    have hg3 := old_ne g3
    have hoff : off + 6 ≤ cells.length := by omega
    have g7' : eqL [d0, d1, d2, d3, d4, d5] [d0, d1, d2, d3, d4, d5] = true := ExpAt.eqv g7
    obtain ⟨z1, z2, z3⟩ := hbp 0 (by omega)
    rw [Nat.zero_mul, Nat.add_zero] at g6
    simp [hst, n1, n2, n3, Hp.get_new, h0, hsg, hlen, g1, hg3, g6, hoff, m0, m1, m2, m3, m4, m5, eqV, u1]
    refine (hP _ (List.getElem_mem (show 0 < parts.length by omega)) _ _ K (hG1 _) (ExpAt.mono (hS1 _) _ _ g7) (hK1 _) z1).mono ?_
    rintro w H2 ⟨rfl, hX2⟩
    obtain ⟨k1, k2, k3, k4, k5, k6, k7⟩ := keep _ H2 hX2
    rw [hsg] at k2
    simp [k3.st, k1, k2, h0, hsg, eqV, Hp.get_new]
    try simp (disch := first | omega | (simp only [List.length_append, List.length_cons, List.length_nil]; omega)) only [if_le]
    try simp [k3.st, k1, k2, h0, hsg, eqV, Hp.get_new]
    try simp (disch := first | omega | (simp only [List.length_append, List.length_cons, List.length_nil]; omega)) only [if_le]
    try simp [k3.st, k1, k2, h0, hsg, eqV, Hp.get_new]
    try simp (disch := first | omega | (simp only [List.length_append, List.length_cons, List.length_nil]; omega)) only [if_le]
    try simp [k3.st, k1, k2, h0, hsg, eqV, Hp.get_new]
    simp [prX, z3, k4.bump]
  · have hlen : parts.length = 2 := v11.2.2.2.2.2.1 (by omega) (by omega)
    obtain ⟨b, off, cap, e, ro, cells, d0, d1, d2, d3, d4, d5, rfl, g1, g2, g3, g4, g5, g6, g7, m0, m1, m2, m3, m4, m5⟩ := TreesAt.at_ hTT (i := 0) (by omega)
    have hg3 := old_ne g3
    have hoff : off + 6 ≤ cells.length := by omega
    have g7' : eqL [d0, d1, d2, d3, d4, d5] [d0, d1, d2, d3, d4, d5] = true := ExpAt.eqv g7
    obtain ⟨z1, z2, z3⟩ := hbp 0 (by omega)
    rw [Nat.zero_mul, Nat.add_zero] at g6
    obtain ⟨b', off', cap', e', ro', cells', c0, c1, c2, c3, c4, c5, hv', q1, q2, q3, q4, q5, q6, q7, l0, l1, l2, l3, l4, l5⟩ := TreesAt.at_ hTT (i := 1) (by omega)
    cases hv'
    rw [g1] at q1
    cases q1
    have hoff1 : off + 6 + 6 ≤ cells.length := by omega
    have q7' : eqL [c0, c1, c2, c3, c4, c5] [c0, c1, c2, c3, c4, c5] = true := ExpAt.eqv q7
    obtain ⟨y1, y2, y3⟩ := hbp 1 (by omega)
    rw [Nat.one_mul] at q6
    simp [hst, n1, n2, n3, Hp.get_new, h0, hsg, hlen, g1, hg3, g6, q6, hoff, hoff1, m0, m1, m2, m3, m4, m5, l0, l1, l2, l3, l4, l5, eqV, u1, g7', q7']
    refine (hP _ (List.getElem_mem (show 0 < parts.length by omega)) _ _ K (hG1 _) (ExpAt.mono (hS1 _) _ _ g7) (hK1 _) z1).mono ?_
    rintro w H2 ⟨rfl, hX2⟩
    obtain ⟨k1, k2, k3, k4, k5, k6, k7⟩ := keep _ H2 hX2
    have k8 := k7 b g3
    rw [hsg] at k2
    rw [g1] at k8
    simp [k3.st, k1, k2, k8, h0, hg3, hsg, hlen, g1, g6, q6, hoff, hoff1, m0, m1, m2, m3, m4, m5, l0, l1, l2, l3, l4, l5, eqV, u1, g7', q7', Hp.get_new]
    have hb2 := k4.bump
    refine (hP _ (List.getElem_mem (show 1 < parts.length by omega)) H2.bump _ K (hG.ext hb2) (ExpAt.mono ⟨fun b hb _ => hb, fun b hb hx => hb2.get b hx (fun h => h), hb2.le⟩ _ _ q7) (fun b hb => by have := hK b hb; have := hb2.le; omega) y1).mono ?_
    rintro w H3 ⟨rfl, hX3⟩
    have hXX := hb2.trans hX3
    have r1 : H3.get H.next = H2.get H.next := hX3.get H.next (by have := hX2.le; simp at this ⊢; omega) (fun h => h)
    have r2 : H3.get 0 = H.get 0 := hXX.get _ hG.lt (fun h => h)
    rw [k1] at r1
    rw [hsg] at r2
    simp [hX3.st, k1, k2, r1, r2, h0, hsg, eqV, Hp.get_new]
    try simp (disch := first | omega | (simp only [List.length_append, List.length_cons, List.length_nil]; omega)) only [if_le]
    try simp [hX3.st, k1, k2, r1, r2, h0, hsg, eqV, Hp.get_new]
    try simp (disch := first | omega | (simp only [List.length_append, List.length_cons, List.length_nil]; omega)) only [if_le]
    try simp [hX3.st, k1, k2, r1, r2, h0, hsg, eqV, Hp.get_new]
    try simp (disch := first | omega | (simp only [List.length_append, List.length_cons, List.length_nil]; omega)) only [if_le]
    try simp [hX3.st, k1, k2, r1, r2, h0, hsg, eqV, Hp.get_new]
    try simp (disch := first | omega | (simp only [List.length_append, List.length_cons, List.length_nil]; omega)) only [if_le]
    try simp [hX3.st, k1, k2, r1, r2, h0, hsg, eqV, Hp.get_new]
    try simp (disch := first | omega | (simp only [List.length_append, List.length_cons, List.length_nil]; omega)) only [if_le]
    try simp [hX3.st, k1, k2, r1, r2, h0, hsg, eqV, Hp.get_new]
    try simp (disch := first | omega | (simp only [List.length_append, List.length_cons, List.length_nil]; omega)) only [if_le]
    try simp [hX3.st, k1, k2, r1, r2, h0, hsg, eqV, Hp.get_new]
    simp [prX, signP, z3, y3, hXX.bump]
  · have hlen : parts.length = 2 := v11.2.2.2.2.2.1 (by omega) (by omega)
    obtain ⟨b, off, cap, e, ro, cells, d0, d1, d2, d3, d4, d5, rfl, g1, g2, g3, g4, g5, g6, g7, m0, m1, m2, m3, m4, m5⟩ := TreesAt.at_ hTT (i := 0) (by omega)
    have hg3 := old_ne g3
    have hoff : off + 6 ≤ cells.length := by omega
    have g7' : eqL [d0, d1, d2, d3, d4, d5] [d0, d1, d2, d3, d4, d5] = true := ExpAt.eqv g7
    obtain ⟨z1, z2, z3⟩ := hbp 0 (by omega)
    rw [Nat.zero_mul, Nat.add_zero] at g6
    obtain ⟨b', off', cap', e', ro', cells', c0, c1, c2, c3, c4, c5, hv', q1, q2, q3, q4, q5, q6, q7, l0, l1, l2, l3, l4, l5⟩ := TreesAt.at_ hTT (i := 1) (by omega)
    cases hv'
    rw [g1] at q1
    cases q1
    have hoff1 : off + 6 + 6 ≤ cells.length := by omega
    have q7' : eqL [c0, c1, c2, c3, c4, c5] [c0, c1, c2, c3, c4, c5] = true := ExpAt.eqv q7
    obtain ⟨y1, y2, y3⟩ := hbp 1 (by omega)
    rw [Nat.one_mul] at q6
    simp [hst, n1, n2, n3, Hp.get_new, h0, hsg, hlen, g1, hg3, g6, q6, hoff, hoff1, m0, m1, m2, m3, m4, m5, l0, l1, l2, l3, l4, l5, eqV, u1, g7', q7']
    refine (hP _ (List.getElem_mem (show 0 < parts.length by omega)) _ _ K (hG1 _) (ExpAt.mono (hS1 _) _ _ g7) (hK1 _) z1).mono ?_
    rintro w H2 ⟨rfl, hX2⟩
    obtain ⟨k1, k2, k3, k4, k5, k6, k7⟩ := keep _ H2 hX2
    have k8 := k7 b g3
    rw [hsg] at k2
    rw [g1] at k8
    simp [k3.st, k1, k2, k8, h0, hg3, hsg, hlen, g1, g6, q6, hoff, hoff1, m0, m1, m2, m3, m4, m5, l0, l1, l2, l3, l4, l5, eqV, u1, g7', q7', Hp.get_new]
    have hb2 := k4.bump
    refine (hP _ (List.getElem_mem (show 1 < parts.length by omega)) H2.bump _ K (hG.ext hb2) (ExpAt.mono ⟨fun b hb _ => hb, fun b hb hx => hb2.get b hx (fun h => h), hb2.le⟩ _ _ q7) (fun b hb => by have := hK b hb; have := hb2.le; omega) y1).mono ?_
    rintro w H3 ⟨rfl, hX3⟩
    have hXX := hb2.trans hX3
    have r1 : H3.get H.next = H2.get H.next := hX3.get H.next (by have := hX2.le; simp at this ⊢; omega) (fun h => h)
    have r2 : H3.get 0 = H.get 0 := hXX.get _ hG.lt (fun h => h)
    rw [k1] at r1
    rw [hsg] at r2
    simp [hX3.st, k1, k2, r1, r2, h0, hsg, eqV, Hp.get_new]
    try simp (disch := first | omega | (simp only [List.length_append, List.length_cons, List.length_nil]; omega)) only [if_le]
    try simp [hX3.st, k1, k2, r1, r2, h0, hsg, eqV, Hp.get_new]
    try simp (disch := first | omega | (simp only [List.length_append, List.length_cons, List.length_nil]; omega)) only [if_le]
    try simp [hX3.st, k1, k2, r1, r2, h0, hsg, eqV, Hp.get_new]
    try simp (disch := first | omega | (simp only [List.length_append, List.length_cons, List.length_nil]; omega)) only [if_le]
    try simp [hX3.st, k1, k2, r1, r2, h0, hsg, eqV, Hp.get_new]
    try simp (disch := first | omega | (simp only [List.length_append, List.length_cons, List.length_nil]; omega)) only [if_le]
    try simp [hX3.st, k1, k2, r1, r2, h0, hsg, eqV, Hp.get_new]
    try simp (disch := first | omega | (simp only [List.length_append, List.length_cons, List.length_nil]; omega)) only [if_le]
    try simp [hX3.st, k1, k2, r1, r2, h0, hsg, eqV, Hp.get_new]
    try simp (disch := first | omega | (simp only [List.length_append, List.length_cons, List.length_nil]; omega)) only [if_le]
    try simp [hX3.st, k1, k2, r1, r2, h0, hsg, eqV, Hp.get_new]
    simp [prX, signP, z3, y3, hXX.bump]
  · have hlen : parts.length = 2 := v11.2.2.2.2.2.1 (by omega) (by omega)
    obtain ⟨b, off, cap, e, ro, cells, d0, d1, d2, d3, d4, d5, rfl, g1, g2, g3, g4, g5, g6, g7, m0, m1, m2, m3, m4, m5⟩ := TreesAt.at_ hTT (i := 0) (by omega)
    have hg3 := old_ne g3
    have hoff : off + 6 ≤ cells.length := by omega
    have g7' : eqL [d0, d1, d2, d3, d4, d5] [d0, d1, d2, d3, d4, d5] = true := ExpAt.eqv g7
    obtain ⟨z1, z2, z3⟩ := hbp 0 (by omega)
    rw [Nat.zero_mul, Nat.add_zero] at g6
    obtain ⟨b', off', cap', e', ro', cells', c0, c1, c2, c3, c4, c5, hv', q1, q2, q3, q4, q5, q6, q7, l0, l1, l2, l3, l4, l5⟩ := TreesAt.at_ hTT (i := 1) (by omega)
    cases hv'
    rw [g1] at q1
    cases q1
    have hoff1 : off + 6 + 6 ≤ cells.length := by omega
    have q7' : eqL [c0, c1, c2, c3, c4, c5] [c0, c1, c2, c3, c4, c5] = true := ExpAt.eqv q7
    obtain ⟨y1, y2, y3⟩ := hbp 1 (by omega)
    rw [Nat.one_mul] at q6
    simp [hst, n1, n2, n3, Hp.get_new, h0, hsg, hlen, g1, hg3, g6, q6, hoff, hoff1, m0, m1, m2, m3, m4, m5, l0, l1, l2, l3, l4, l5, eqV, u1, g7', q7']
    refine (hP _ (List.getElem_mem (show 0 < parts.length by omega)) _ _ K (hG1 _) (ExpAt.mono (hS1 _) _ _ g7) (hK1 _) z1).mono ?_
    rintro w H2 ⟨rfl, hX2⟩
    obtain ⟨k1, k2, k3, k4, k5, k6, k7⟩ := keep _ H2 hX2
    have k8 := k7 b g3
    rw [hsg] at k2
    rw [g1] at k8
    simp [k3.st, k1, k2, k8, h0, hg3, hsg, hlen, g1, g6, q6, hoff, hoff1, m0, m1, m2, m3, m4, m5, l0, l1, l2, l3, l4, l5, eqV, u1, g7', q7', Hp.get_new]
    have hb2 := k4.bump
    refine (hP _ (List.getElem_mem (show 1 < parts.length by omega)) H2.bump _ K (hG.ext hb2) (ExpAt.mono ⟨fun b hb _ => hb, fun b hb hx => hb2.get b hx (fun h => h), hb2.le⟩ _ _ q7) (fun b hb => by have := hK b hb; have := hb2.le; omega) y1).mono ?_
    rintro w H3 ⟨rfl, hX3⟩
    have hXX := hb2.trans hX3
    have r1 : H3.get H.next = H2.get H.next := hX3.get H.next (by have := hX2.le; simp at this ⊢; omega) (fun h => h)
    have r2 : H3.get 0 = H.get 0 := hXX.get _ hG.lt (fun h => h)
    rw [k1] at r1
    rw [hsg] at r2
    simp [hX3.st, k1, k2, r1, r2, h0, hsg, eqV, Hp.get_new]
    try simp (disch := first | omega | (simp only [List.length_append, List.length_cons, List.length_nil]; omega)) only [if_le]
    try simp [hX3.st, k1, k2, r1, r2, h0, hsg, eqV, Hp.get_new]
    try simp (disch := first | omega | (simp only [List.length_append, List.length_cons, List.length_nil]; omega)) only [if_le]
    try simp [hX3.st, k1, k2, r1, r2, h0, hsg, eqV, Hp.get_new]
    try simp (disch := first | omega | (simp only [List.length_append, List.length_cons, List.length_nil]; omega)) only [if_le]
    try simp [hX3.st, k1, k2, r1, r2, h0, hsg, eqV, Hp.get_new]
    try simp (disch := first | omega | (simp only [List.length_append, List.length_cons, List.length_nil]; omega)) only [if_le]
    try simp [hX3.st, k1, k2, r1, r2, h0, hsg, eqV, Hp.get_new]
    try simp (disch := first | omega | (simp only [List.length_append, List.length_cons, List.length_nil]; omega)) only [if_le]
    try simp [hX3.st, k1, k2, r1, r2, h0, hsg, eqV, Hp.get_new]
    try simp (disch := first | omega | (simp only [List.length_append, List.length_cons, List.length_nil]; omega)) only [if_le]
    try simp [hX3.st, k1, k2, r1, r2, h0, hsg, eqV, Hp.get_new]
    simp [prX, signP, z3, y3, hXX.bump]
  · have hlen : parts.length = 2 := v11.2.2.2.2.2.1 (by omega) (by omega)
    obtain ⟨b, off, cap, e, ro, cells, d0, d1, d2, d3, d4, d5, rfl, g1, g2, g3, g4, g5, g6, g7, m0, m1, m2, m3, m4, m5⟩ := TreesAt.at_ hTT (i := 0) (by omega)
    have hg3 := old_ne g3
    have hoff : off + 6 ≤ cells.length := by omega
    have g7' : eqL [d0, d1, d2, d3, d4, d5] [d0, d1, d2, d3, d4, d5] = true := ExpAt.eqv g7
    obtain ⟨z1, z2, z3⟩ := hbp 0 (by omega)
    rw [Nat.zero_mul, Nat.add_zero] at g6
    obtain ⟨b', off', cap', e', ro', cells', c0, c1, c2, c3, c4, c5, hv', q1, q2, q3, q4, q5, q6, q7, l0, l1, l2, l3, l4, l5⟩ := TreesAt.at_ hTT (i := 1) (by omega)
    cases hv'
    rw [g1] at q1
    cases q1
    have hoff1 : off + 6 + 6 ≤ cells.length := by omega
    have q7' : eqL [c0, c1, c2, c3, c4, c5] [c0, c1, c2, c3, c4, c5] = true := ExpAt.eqv q7
    obtain ⟨y1, y2, y3⟩ := hbp 1 (by omega)
    rw [Nat.one_mul] at q6
    simp [hst, n1, n2, n3, Hp.get_new, h0, hsg, hlen, g1, hg3, g6, q6, hoff, hoff1, m0, m1, m2, m3, m4, m5, l0, l1, l2, l3, l4, l5, eqV, u1, g7', q7']
    refine (hP _ (List.getElem_mem (show 0 < parts.length by omega)) _ _ K (hG1 _) (ExpAt.mono (hS1 _) _ _ g7) (hK1 _) z1).mono ?_
    rintro w H2 ⟨rfl, hX2⟩
    obtain ⟨k1, k2, k3, k4, k5, k6, k7⟩ := keep _ H2 hX2
    have k8 := k7 b g3
    rw [hsg] at k2
    rw [g1] at k8
    simp [k3.st, k1, k2, k8, h0, hg3, hsg, hlen, g1, g6, q6, hoff, hoff1, m0, m1, m2, m3, m4, m5, l0, l1, l2, l3, l4, l5, eqV, u1, g7', q7', Hp.get_new]
    have hb2 := k4.bump
    refine (hP _ (List.getElem_mem (show 1 < parts.length by omega)) H2.bump _ K (hG.ext hb2) (ExpAt.mono ⟨fun b hb _ => hb, fun b hb hx => hb2.get b hx (fun h => h), hb2.le⟩ _ _ q7) (fun b hb => by have := hK b hb; have := hb2.le; omega) y1).mono ?_
    rintro w H3 ⟨rfl, hX3⟩
    have hXX := hb2.trans hX3
    have r1 : H3.get H.next = H2.get H.next := hX3.get H.next (by have := hX2.le; simp at this ⊢; omega) (fun h => h)
    have r2 : H3.get 0 = H.get 0 := hXX.get _ hG.lt (fun h => h)
    rw [k1] at r1
    rw [hsg] at r2
    simp [hX3.st, k1, k2, r1, r2, h0, hsg, eqV, Hp.get_new]
    try simp (disch := first | omega | (simp only [List.length_append, List.length_cons, List.length_nil]; omega)) only [if_le]
    try simp [hX3.st, k1, k2, r1, r2, h0, hsg, eqV, Hp.get_new]
    try simp (disch := first | omega | (simp only [List.length_append, List.length_cons, List.length_nil]; omega)) only [if_le]
    try simp [hX3.st, k1, k2, r1, r2, h0, hsg, eqV, Hp.get_new]
    try simp (disch := first | omega | (simp only [List.length_append, List.length_cons, List.length_nil]; omega)) only [if_le]
    try simp [hX3.st, k1, k2, r1, r2, h0, hsg, eqV, Hp.get_new]
    try simp (disch := first | omega | (simp only [List.length_append, List.length_cons, List.length_nil]; omega)) only [if_le]
    try simp [hX3.st, k1, k2, r1, r2, h0, hsg, eqV, Hp.get_new]
    try simp (disch := first | omega | (simp only [List.length_append, List.length_cons, List.length_nil]; omega)) only [if_le]
    try simp [hX3.st, k1, k2, r1, r2, h0, hsg, eqV, Hp.get_new]
    try simp (disch := first | omega | (simp only [List.length_append, List.length_cons, List.length_nil]; omega)) only [if_le]
    try simp [hX3.st, k1, k2, r1, r2, h0, hsg, eqV, Hp.get_new]
    simp [prX, signP, z3, y3, hXX.bump]
  · have hlen : parts.length = 2 := v11.2.2.2.2.2.1 (by omega) (by omega)
    obtain ⟨b, off, cap, e, ro, cells, d0, d1, d2, d3, d4, d5, rfl, g1, g2, g3, g4, g5, g6, g7, m0, m1, m2, m3, m4, m5⟩ := TreesAt.at_ hTT (i := 0) (by omega)
    have hg3 := old_ne g3
    have hoff : off + 6 ≤ cells.length := by omega
    have g7' : eqL [d0, d1, d2, d3, d4, d5] [d0, d1, d2, d3, d4, d5] = true := ExpAt.eqv g7
    obtain ⟨z1, z2, z3⟩ := hbp 0 (by omega)
    rw [Nat.zero_mul, Nat.add_zero] at g6
    obtain ⟨b', off', cap', e', ro', cells', c0, c1, c2, c3, c4, c5, hv', q1, q2, q3, q4, q5, q6, q7, l0, l1, l2, l3, l4, l5⟩ := TreesAt.at_ hTT (i := 1) (by omega)
    cases hv'
    rw [g1] at q1
    cases q1
    have hoff1 : off + 6 + 6 ≤ cells.length := by omega
    have q7' : eqL [c0, c1, c2, c3, c4, c5] [c0, c1, c2, c3, c4, c5] = true := ExpAt.eqv q7
    obtain ⟨y1, y2, y3⟩ := hbp 1 (by omega)
    rw [Nat.one_mul] at q6
    simp [hst, n1, n2, n3, Hp.get_new, h0, hsg, hlen, g1, hg3, g6, q6, hoff, hoff1, m0, m1, m2, m3, m4, m5, l0, l1, l2, l3, l4, l5, eqV, u1, g7', q7']
    refine (hP _ (List.getElem_mem (show 0 < parts.length by omega)) _ _ K (hG1 _) (ExpAt.mono (hS1 _) _ _ g7) (hK1 _) z1).mono ?_
    rintro w H2 ⟨rfl, hX2⟩
    obtain ⟨k1, k2, k3, k4, k5, k6, k7⟩ := keep _ H2 hX2
    have k8 := k7 b g3
    rw [hsg] at k2
    rw [g1] at k8
    simp [k3.st, k1, k2, k8, h0, hg3, hsg, hlen, g1, g6, q6, hoff, hoff1, m0, m1, m2, m3, m4, m5, l0, l1, l2, l3, l4, l5, eqV, u1, g7', q7', Hp.get_new]
    have hb2 := k4.bump
    refine (hP _ (List.getElem_mem (show 1 < parts.length by omega)) H2.bump _ K (hG.ext hb2) (ExpAt.mono ⟨fun b hb _ => hb, fun b hb hx => hb2.get b hx (fun h => h), hb2.le⟩ _ _ q7) (fun b hb => by have := hK b hb; have := hb2.le; omega) y1).mono ?_
    rintro w H3 ⟨rfl, hX3⟩
    have hXX := hb2.trans hX3
    have r1 : H3.get H.next = H2.get H.next := hX3.get H.next (by have := hX2.le; simp at this ⊢; omega) (fun h => h)
    have r2 : H3.get 0 = H.get 0 := hXX.get _ hG.lt (fun h => h)
    rw [k1] at r1
    rw [hsg] at r2
    simp [hX3.st, k1, k2, r1, r2, h0, hsg, eqV, Hp.get_new]
    try simp (disch := first | omega | (simp only [List.length_append, List.length_cons, List.length_nil]; omega)) only [if_le]
    try simp [hX3.st, k1, k2, r1, r2, h0, hsg, eqV, Hp.get_new]
    try simp (disch := first | omega | (simp only [List.length_append, List.length_cons, List.length_nil]; omega)) only [if_le]
    try simp [hX3.st, k1, k2, r1, r2, h0, hsg, eqV, Hp.get_new]
    try simp (disch := first | omega | (simp only [List.length_append, List.length_cons, List.length_nil]; omega)) only [if_le]
    try simp [hX3.st, k1, k2, r1, r2, h0, hsg, eqV, Hp.get_new]
    try simp (disch := first | omega | (simp only [List.length_append, List.length_cons, List.length_nil]; omega)) only [if_le]
    try simp [hX3.st, k1, k2, r1, r2, h0, hsg, eqV, Hp.get_new]
    try simp (disch := first | omega | (simp only [List.length_append, List.length_cons, List.length_nil]; omega)) only [if_le]
    try simp [hX3.st, k1, k2, r1, r2, h0, hsg, eqV, Hp.get_new]
    try simp (disch := first | omega | (simp only [List.length_append, List.length_cons, List.length_nil]; omega)) only [if_le]
    try simp [hX3.st, k1, k2, r1, r2, h0, hsg, eqV, Hp.get_new]
    simp [prX, signP, z3, y3, hXX.bump]
  · have hlen : parts.length = 2 := v11.2.2.2.2.2.1 (by omega) (by omega)
    obtain ⟨b, off, cap, e, ro, cells, d0, d1, d2, d3, d4, d5, rfl, g1, g2, g3, g4, g5, g6, g7, m0, m1, m2, m3, m4, m5⟩ := TreesAt.at_ hTT (i := 0) (by omega)
    have hg3 := old_ne g3
    have hoff : off + 6 ≤ cells.length := by omega
    have g7' : eqL [d0, d1, d2, d3, d4, d5] [d0, d1, d2, d3, d4, d5] = true := ExpAt.eqv g7
    obtain ⟨z1, z2, z3⟩ := hbp 0 (by omega)
    rw [Nat.zero_mul, Nat.add_zero] at g6
    obtain ⟨b', off', cap', e', ro', cells', c0, c1, c2, c3, c4, c5, hv', q1, q2, q3, q4, q5, q6, q7, l0, l1, l2, l3, l4, l5⟩ := TreesAt.at_ hTT (i := 1) (by omega)
    cases hv'
    rw [g1] at q1
    cases q1
    have hoff1 : off + 6 + 6 ≤ cells.length := by omega
    have q7' : eqL [c0, c1, c2, c3, c4, c5] [c0, c1, c2, c3, c4, c5] = true := ExpAt.eqv q7
    obtain ⟨y1, y2, y3⟩ := hbp 1 (by omega)
    rw [Nat.one_mul] at q6
    simp [hst, n1, n2, n3, Hp.get_new, h0, hsg, hlen, g1, hg3, g6, q6, hoff, hoff1, m0, m1, m2, m3, m4, m5, l0, l1, l2, l3, l4, l5, eqV, u1, g7', q7']
    refine (hP _ (List.getElem_mem (show 0 < parts.length by omega)) _ _ K (hG1 _) (ExpAt.mono (hS1 _) _ _ g7) (hK1 _) z1).mono ?_
    rintro w H2 ⟨rfl, hX2⟩
    obtain ⟨k1, k2, k3, k4, k5, k6, k7⟩ := keep _ H2 hX2
    have k8 := k7 b g3
    rw [hsg] at k2
    rw [g1] at k8
    simp [k3.st, k1, k2, k8, h0, hg3, hsg, hlen, g1, g6, q6, hoff, hoff1, m0, m1, m2, m3, m4, m5, l0, l1, l2, l3, l4, l5, eqV, u1, g7', q7', Hp.get_new]
    have hb2 := k4.bump
    refine (hP _ (List.getElem_mem (show 1 < parts.length by omega)) H2.bump _ K (hG.ext hb2) (ExpAt.mono ⟨fun b hb _ => hb, fun b hb hx => hb2.get b hx (fun h => h), hb2.le⟩ _ _ q7) (fun b hb => by have := hK b hb; have := hb2.le; omega) y1).mono ?_
    rintro w H3 ⟨rfl, hX3⟩
    have hXX := hb2.trans hX3
    have r1 : H3.get H.next = H2.get H.next := hX3.get H.next (by have := hX2.le; simp at this ⊢; omega) (fun h => h)
    have r2 : H3.get 0 = H.get 0 := hXX.get _ hG.lt (fun h => h)
    rw [k1] at r1
    rw [hsg] at r2
    simp [hX3.st, k1, k2, r1, r2, h0, hsg, eqV, Hp.get_new]
    try simp (disch := first | omega | (simp only [List.length_append, List.length_cons, List.length_nil]; omega)) only [if_le]
    try simp [hX3.st, k1, k2, r1, r2, h0, hsg, eqV, Hp.get_new]
    try simp (disch := first | omega | (simp only [List.length_append, List.length_cons, List.length_nil]; omega)) only [if_le]
    try simp [hX3.st, k1, k2, r1, r2, h0, hsg, eqV, Hp.get_new]
    try simp (disch := first | omega | (simp only [List.length_append, List.length_cons, List.length_nil]; omega)) only [if_le]
    try simp [hX3.st, k1, k2, r1, r2, h0, hsg, eqV, Hp.get_new]
    try simp (disch := first | omega | (simp only [List.length_append, List.length_cons, List.length_nil]; omega)) only [if_le]
    try simp [hX3.st, k1, k2, r1, r2, h0, hsg, eqV, Hp.get_new]
    try simp (disch := first | omega | (simp only [List.length_append, List.length_cons, List.length_nil]; omega)) only [if_le]
    try simp [hX3.st, k1, k2, r1, r2, h0, hsg, eqV, Hp.get_new]
    try simp (disch := first | omega | (simp only [List.length_append, List.length_cons, List.length_nil]; omega)) only [if_le]
    try simp [hX3.st, k1, k2, r1, r2, h0, hsg, eqV, Hp.get_new]
    simp [prX, signP, z3, y3, hXX.bump]
  · have hlen : parts.length = 2 := v11.2.2.2.2.2.1 (by omega) (by omega)
    obtain ⟨b, off, cap, e, ro, cells, d0, d1, d2, d3, d4, d5, rfl, g1, g2, g3, g4, g5, g6, g7, m0, m1, m2, m3, m4, m5⟩ := TreesAt.at_ hTT (i := 0) (by omega)
    have hg3 := old_ne g3
    have hoff : off + 6 ≤ cells.length := by omega
    have g7' : eqL [d0, d1, d2, d3, d4, d5] [d0, d1, d2, d3, d4, d5] = true := ExpAt.eqv g7
    obtain ⟨z1, z2, z3⟩ := hbp 0 (by omega)
    rw [Nat.zero_mul, Nat.add_zero] at g6
    obtain ⟨b', off', cap', e', ro', cells', c0, c1, c2, c3, c4, c5, hv', q1, q2, q3, q4, q5, q6, q7, l0, l1, l2, l3, l4, l5⟩ := TreesAt.at_ hTT (i := 1) (by omega)
    cases hv'
    rw [g1] at q1
    cases q1
    have hoff1 : off + 6 + 6 ≤ cells.length := by omega
    have q7' : eqL [c0, c1, c2, c3, c4, c5] [c0, c1, c2, c3, c4, c5] = true := ExpAt.eqv q7
    obtain ⟨y1, y2, y3⟩ := hbp 1 (by omega)
    rw [Nat.one_mul] at q6
    simp [hst, n1, n2, n3, Hp.get_new, h0, hsg, hlen, g1, hg3, g6, q6, hoff, hoff1, m0, m1, m2, m3, m4, m5, l0, l1, l2, l3, l4, l5, eqV, u1, g7', q7']
    refine (hP _ (List.getElem_mem (show 0 < parts.length by omega)) _ _ K (hG1 _) (ExpAt.mono (hS1 _) _ _ g7) (hK1 _) z1).mono ?_
    rintro w H2 ⟨rfl, hX2⟩
    obtain ⟨k1, k2, k3, k4, k5, k6, k7⟩ := keep _ H2 hX2
    have k8 := k7 b g3
    rw [hsg] at k2
    rw [g1] at k8
    simp [k3.st, k1, k2, k8, h0, hg3, hsg, hlen, g1, g6, q6, hoff, hoff1, m0, m1, m2, m3, m4, m5, l0, l1, l2, l3, l4, l5, eqV, u1, g7', q7', Hp.get_new]
    have hb2 := k4.bump
    refine (hP _ (List.getElem_mem (show 1 < parts.length by omega)) H2.bump _ K (hG.ext hb2) (ExpAt.mono ⟨fun b hb _ => hb, fun b hb hx => hb2.get b hx (fun h => h), hb2.le⟩ _ _ q7) (fun b hb => by have := hK b hb; have := hb2.le; omega) y1).mono ?_
    rintro w H3 ⟨rfl, hX3⟩
    have hXX := hb2.trans hX3
    have r1 : H3.get H.next = H2.get H.next := hX3.get H.next (by have := hX2.le; simp at this ⊢; omega) (fun h => h)
    have r2 : H3.get 0 = H.get 0 := hXX.get _ hG.lt (fun h => h)
    rw [k1] at r1
    rw [hsg] at r2
    simp [hX3.st, eqV]
    try simp (disch := first | omega | (simp only [List.length_append, List.length_cons, List.length_nil]; omega)) only [if_le]
    try simp [hX3.st]
    try simp (disch := first | omega | (simp only [List.length_append, List.length_cons, List.length_nil]; omega)) only [if_le]
    try simp [hX3.st]
    try simp (disch := first | omega | (simp only [List.length_append, List.length_cons, List.length_nil]; omega)) only [if_le]
    try simp [hX3.st]
    simp [prX, z3, y3, hXX.bump]
  · have hlen : 1 ≤ parts.length := v11.2.2.1 rfl
    obtain ⟨w1, hw1, hw2⟩ := tail1 hTT hlen
    have hpos : 0 < parts.length := by omega
    have hw3 := SliceOf.eqv hw2
    obtain ⟨b, off, cap, e, ro, cells, d0, d1, d2, d3, d4, d5, rfl, g1, g2, g3, g4, g5, g6, g7, m0, m1, m2, m3, m4, m5⟩ := TreesAt.at_ hTT (i := 0) (by omega)
    have hg3 := old_ne g3
    have hoff : off + 6 ≤ cells.length := by omega
    have g7' : eqL [d0, d1, d2, d3, d4, d5] [d0, d1, d2, d3, d4, d5] = true := ExpAt.eqv g7
    obtain ⟨z1, z2, z3⟩ := hbp 0 (by omega)
    rw [Nat.zero_mul, Nat.add_zero] at g6
    simp [hst, n1, n2, n3, Hp.get_new, h0, hsg, hpos, g1, hg3, g6, hoff, m0, m1, m2, m3, m4, m5, eqV, u1, hw1]
    refine (hP _ (List.getElem_mem (show 0 < parts.length by omega)) _ _ K (hG1 _) (ExpAt.mono (hS1 _) _ _ g7) (hK1 _) z1).mono ?_
    rintro w H2 ⟨rfl, hX2⟩
    obtain ⟨k1, k2, k3, k4, k5, k6, k7⟩ := keep _ H2 hX2
    have hb2 := k4.bump
    have k8 := k7 b g3
    rw [g1] at k8
    simp [k3.st, k1, k8, hg3, g1, hw1, eqV, u1, hw3, Hp.get_new]
    have hbd := bws_drop (dec := itoaF) parts 1
    refine (hL H2.bump w1 K (hG.ext hb2) (TreesAt.mono ⟨fun b hb _ => hb, fun b hb hx => hb2.get b hx (fun h => h), hb2.le⟩ hw2) (fun b hb => by have := hK b hb; have := hb2.le; omega) (by omega)).mono ?_
    rintro w H3 ⟨rfl, hX3⟩
    have hXX := hb2.trans hX3
    have hjl := joinP_len (prEs itoaF (parts.drop 1))
    have hjm := prEs_len itoaF (parts.drop 1)
    have hdr : (prEs itoaF parts).drop 1 = prEs itoaF (parts.drop 1) := by simp [prEs_map]
    have hjd := len_bws (dec := itoaF) (parts.drop 1)
    generalize hJ : joinP (prEs itoaF (parts.drop 1)) = jj at *
    simp [hX3.st, eqV]
    try simp (disch := first | omega | (simp only [List.length_append, List.length_cons, List.length_nil]; omega)) only [if_le]
    try simp [hX3.st]
    try simp (disch := first | omega | (simp only [List.length_append, List.length_cons, List.length_nil]; omega)) only [if_le]
    try simp [hX3.st]
    try simp (disch := first | omega | (simp only [List.length_append, List.length_cons, List.length_nil]; omega)) only [if_le]
    try simp [hX3.st]
    rw [← hdr, List.drop_one] at hJ
    simp [prX, z3, hJ, hXX.bump]
  · have hm2 : parts.length % 2 = 0 := v11.2.2.2.1 rfl
    simp [hst, n1, n2, n3, Hp.get_new]
    refine flds_loop (K := K) (H0 := H.new (.row 46 6 false [.int .i64 ((16 : Nat) : Int), .int .i64 num, .str text, vp, vq, vb])) (eb := H.next) (x := .nils) hP (hG1 _) hm2 (by simp [Hp.get_new]; exact ⟨rfl, rfl, rfl, rfl, rfl⟩) (by simp) (TreesAt.mono (hS1 _) hTT) (hK1 _) (by omega) ⟨Nat.zero_le _, ⟨by simp [hst], Nat.le_refl _, by simpa [fieldsP] using SlAt.nil, fun b hb => by simp [rowsOf] at hb⟩, Ext.refl (by simp [hst]), by simp, by simp, by simp⟩ ?_
    intro x' F2 H2 hG2 hX2 f3
    have hXX := (hX1 _).trans hX2
    generalize hL : prEs itoaF parts = l at *
    have hfl := fields_len l
    have hlg := lens_ge l
    have hll := len_bws (dec := itoaF) parts
    have hU2 : StrsAt (fun b => H.next < b ∧ b < H2.next) H2 (fieldsP l) x' := StrsAt.of_slAt hG2.sl (fun b hb => by have := hG2.rows b hb; simp at this; exact ⟨⟨by omega, this.2.1⟩, this.2.1⟩) rfl
    simp only [bl_exit, if_true]
    simp [hX2.st, f3]
    refine (join_told hX2.st hU2 (by omega)).mono ?_
    rintro w H3 ⟨rfl, rfl⟩
    have hj := joinP_len (fieldsP l)
    generalize hJ : joinP (fieldsP l) = jj at *
    simp [hX2.st]
    try simp (disch := first | omega | (simp only [List.length_append, List.length_cons, List.length_nil]; omega)) only [if_le]
    try simp [hX2.st]
    try simp (disch := first | omega | (simp only [List.length_append, List.length_cons, List.length_nil]; omega)) only [if_le]
    try simp [hX2.st]
    simp [hX2.st, prX, hXX, hJ]
  · simp [hst, n1, n2, n3, Hp.get_new]
    refine (join_told (K := K) (by simp [hst]) (t2.mono (hS1 _) fun _ h => h) (by omega)).mono ?_
    rintro w H3 ⟨rfl, rfl⟩
    have hj := joinP_len params
    generalize hJ : joinP params = jj at *
    simp [hst, Hp.get_new, u3]
    have hb1 : ∀ o : Ob, Ext noX H (H.new o).bump := fun o => (hX1 o).bump
    have hT3 : TreesAt K H body vb := t3
    refine (hB _ vb K (hG.ext (hb1 _)) (TreesAt.mono ⟨fun b hb _ => hb, fun b hb hx => (hb1 _).get b hx (fun h => h), (hb1 _).le⟩ hT3) (fun b hb => by have := hK b hb; have := (hb1 (.row 46 6 false [.int .i64 ((17 : Nat) : Int), .int .i64 num, .str text, vp, vq, vb])).le; simp at this ⊢; omega) (by omega)).mono ?_
    rintro w H4 ⟨rfl, hX4⟩
    have hXX := (hb1 _).trans hX4
    have hpb := prB_len itoaF body
    generalize hB' : prB itoaF body = bb at *
    simp [hX4.st]
    try simp (disch := first | omega | (simp only [List.length_append, List.length_cons, List.length_nil]; omega)) only [if_le]
    try simp [hX4.st]
    try simp (disch := first | omega | (simp only [List.length_append, List.length_cons, List.length_nil]; omega)) only [if_le]
    try simp [hX4.st]
    try simp (disch := first | omega | (simp only [List.length_append, List.length_cons, List.length_nil]; omega)) only [if_le]
    try simp [hX4.st]
    try simp (disch := first | omega | (simp only [List.length_append, List.length_cons, List.length_nil]; omega)) only [if_le]
    try simp [hX4.st]
    simp [hX4.st, prX, hJ, hXX.bump]
end Go.AM.YtlcadokmhfjacaaGreatDoorT
/- Trees' texts: the program's; a statement's. -/
set_option linter.unusedVariables false
set_option linter.unusedSimpArgs false
set_option maxRecDepth 100000
namespace Go.AM.YtlcadokmhfjacaaGreatDoorT
open Go Go.AM Go.Proofs
def tS (e : Tx) : Prop := ∀ (H : Hp) (cs : List V) (K : Nat → Prop), Gs H → ExpAt K H e cs → (∀ b, K b → b < H.next) → e.bw itoaF ≤ 50000000 → WF tab 26 [.agg cs] H fun w H' => w = .str (prS itoaF e) ∧ Ext noX H H'
theorem sstring_ok {kind : Nat} {name : Bs} {es bd el : List Tx} {at_ : Int} (hP : ∀ p ∈ es, tX p) (hB : tpX bd) (hE : tpX el) (hv : (Tx.st kind name es bd el at_).sv) : tS (.st kind name es bd el at_) := by
  intro H cs K hG hT hK hb
  have hst := hG.st
  refine wf26 (wp_sound _ ?_)
  simp only [ExpAt] at hT
  obtain ⟨ve, vb, vl, rfl, t1, t2, t3⟩ := hT
  simp only [Tx.bw] at hb
  simp only [Tx.sv] at hv
  obtain ⟨v1, v2, v3, v4, v5, v6, v8, v9, v10⟩ := hv
  have n1 := t1.one; have n2 := t2.one; have n3 := t3.one
  have u1 := t1.eqv; have u2 := t2.eqv; have u3 := t3.eqv
  have hl := t1.len 46
  have hX1 : ∀ o : Ob, Ext noX H (H.new o) := fun o => Ext.new hst o
  have hS1 : ∀ o : Ob, Stays K K H (H.new o) := fun o => ⟨fun b hb _ => hb, fun b hb hx => (hX1 o).get b hx (fun h => h), (hX1 o).le⟩
  have hG1 : ∀ o : Ob, Gs (H.new o) := fun o => hG.ext (hX1 o)
  have hK1 : ∀ (o : Ob) b, K b → b < (H.new o).next := fun o b hb => by have := hK b hb; simp; omega
  have hpr : prS itoaF (.st kind name es bd el at_) = prY kind name (prEs itoaF es) (prB itoaF bd) (prB itoaF el) (!el.isEmpty) := by simp only [prS]
  rw [hpr]
  obtain ⟨len1, len2⟩ := prEs_len itoaF es
  have hbp : ∀ i (h : i < es.length), (es[i]).bw itoaF ≤ 50000000 ∧ (prE itoaF es[i]).length ≤ 50000000 ∧ nthP (prEs itoaF es) i = prE itoaF es[i] := fun i h => by
    have := bws_mem (dec := itoaF) (List.getElem_mem h)
    have := prE_len itoaF es[i]
    exact ⟨by omega, by omega, by rw [nthP_get (by omega)]; simp [prEs_map]⟩
  have hTT : TreesAt K H es ve := t1
  have hTB : TreesAt K H bd vb := t2
  have hTE : TreesAt K H el vl := t3
  have pb := prB_len itoaF bd
  have pe := prB_len itoaF el
  have lle := t3.len 42
  have keep : ∀ (o : Ob) (H2 : Hp), Ext noX (H.new o) H2 → H2.get H.next = some o ∧ Gs H2 ∧ Ext noX H H2 ∧ (∀ b, b < H.next → H2.get b = H.get b) ∧ (∀ b, K b → b < H2.next) ∧ Stays K K H H2 ∧ H.next < H2.next := fun o H2 hX2 => by
    have hX := (hX1 o).trans hX2
    exact ⟨by rw [hX2.get H.next (by simp) (fun h => h)]; simp [Hp.get_new], hG.ext hX, hX, fun b hb => hX.get b hb (fun h => h), fun b hb => by have := hK b hb; have := hX.le; omega, ⟨fun b hb _ => hb, fun b hb hx => hX.get b hx (fun h => h), hX.le⟩, by have := hX2.le; simp at this; omega⟩
  rcases (show kind = 0 ∨ kind = 1 ∨ kind = 2 ∨ kind = 3 ∨ kind = 4 ∨ kind = 5 ∨ kind = 6 ∨ kind = 7 ∨ kind = 8 by omega) with rfl | rfl | rfl | rfl | rfl | rfl | rfl | rfl | rfl
  · have hlen : es.length = 1 := v4
    obtain ⟨b, off, cap, e, ro, cells, d0, d1, d2, d3, d4, d5, rfl, g1, g2, g3, g4, g5, g6, g7, m0, m1, m2, m3, m4, m5⟩ := TreesAt.at_ hTT (i := 0) (by omega)
    have hg3 := old_ne g3
    have hoff : off + 6 ≤ cells.length := by omega
    have g7' : eqL [d0, d1, d2, d3, d4, d5] [d0, d1, d2, d3, d4, d5] = true := ExpAt.eqv g7
    obtain ⟨z1, z2, z3⟩ := hbp 0 (by omega)
    rw [Nat.zero_mul, Nat.add_zero] at g6
    simp [hst, n1, n2, n3, Hp.get_new, hlen, eqV, u1, u2, u3, g1, hg3, g6, hoff, m0, m1, m2, m3, m4, m5, g7']
    refine (hP _ (List.getElem_mem (show 0 < es.length by omega)) _ _ K (hG1 _) (ExpAt.mono (hS1 _) _ _ g7) (hK1 _) z1).mono ?_
    rintro w H2 ⟨rfl, hX2⟩
    obtain ⟨kr, kG, kX, kg, kK, kS, kn⟩ := keep _ H2 hX2
    have s2 := kG.st
    have k8 := kg b g3
    rw [g1] at k8
    simp [s2, kr, eqV, u1, hlen, k8, g1, hg3, g6, hoff, m0, m1, m2, m3, m4, m5, g7', Hp.get_new]
    try simp (disch := first | omega | (simp only [List.length_append, List.length_cons, List.length_nil]; omega)) only [if_le]
    try simp [s2]
    try simp (disch := first | omega | (simp only [List.length_append, List.length_cons, List.length_nil]; omega)) only [if_le]
    try simp [s2]
    try simp (disch := first | omega | (simp only [List.length_append, List.length_cons, List.length_nil]; omega)) only [if_le]
    try simp [s2]
    try simp (disch := first | omega | (simp only [List.length_append, List.length_cons, List.length_nil]; omega)) only [if_le]
    try simp [s2]
    simp [prY, z3, kX.bump]
  · have hlen : es.length = 1 := v4
    obtain ⟨b, off, cap, e, ro, cells, d0, d1, d2, d3, d4, d5, rfl, g1, g2, g3, g4, g5, g6, g7, m0, m1, m2, m3, m4, m5⟩ := TreesAt.at_ hTT (i := 0) (by omega)
    have hg3 := old_ne g3
    have hoff : off + 6 ≤ cells.length := by omega
    have g7' : eqL [d0, d1, d2, d3, d4, d5] [d0, d1, d2, d3, d4, d5] = true := ExpAt.eqv g7
    obtain ⟨z1, z2, z3⟩ := hbp 0 (by omega)
    rw [Nat.zero_mul, Nat.add_zero] at g6
    simp [hst, n1, n2, n3, Hp.get_new, hlen, eqV, u1, u2, u3, g1, hg3, g6, hoff, m0, m1, m2, m3, m4, m5, g7']
    refine (hP _ (List.getElem_mem (show 0 < es.length by omega)) _ _ K (hG1 _) (ExpAt.mono (hS1 _) _ _ g7) (hK1 _) z1).mono ?_
    rintro w H2 ⟨rfl, hX2⟩
    obtain ⟨kr, kG, kX, kg, kK, kS, kn⟩ := keep _ H2 hX2
    have s2 := kG.st
    have k8 := kg b g3
    rw [g1] at k8
    simp [s2, kr, eqV, u1, hlen, k8, g1, hg3, g6, hoff, m0, m1, m2, m3, m4, m5, g7', Hp.get_new]
    try simp (disch := first | omega | (simp only [List.length_append, List.length_cons, List.length_nil]; omega)) only [if_le]
    try simp [s2]
    try simp (disch := first | omega | (simp only [List.length_append, List.length_cons, List.length_nil]; omega)) only [if_le]
    try simp [s2]
    try simp (disch := first | omega | (simp only [List.length_append, List.length_cons, List.length_nil]; omega)) only [if_le]
    try simp [s2]
    simp [prY, z3, kX.bump]
  · have hlen : es.length = 3 := v4
    obtain ⟨b, off, cap, e, ro, cells, d0, d1, d2, d3, d4, d5, rfl, g1, g2, g3, g4, g5, g6, g7, m0, m1, m2, m3, m4, m5⟩ := TreesAt.at_ hTT (i := 0) (by omega)
    have hg3 := old_ne g3
    have hoff : off + 6 ≤ cells.length := by omega
    have g7' : eqL [d0, d1, d2, d3, d4, d5] [d0, d1, d2, d3, d4, d5] = true := ExpAt.eqv g7
    obtain ⟨z1, z2, z3⟩ := hbp 0 (by omega)
    rw [Nat.zero_mul, Nat.add_zero] at g6
    obtain ⟨b', off', cap', e', ro', cells', c0, c1, c2, c3, c4, c5, hv', q1, q2, q3, q4, q5, q6, q7, l0, l1, l2, l3, l4, l5⟩ := TreesAt.at_ hTT (i := 1) (by omega)
    cases hv'
    rw [g1] at q1
    cases q1
    have hoff1 : off + 6 + 6 ≤ cells.length := by omega
    have q7' : eqL [c0, c1, c2, c3, c4, c5] [c0, c1, c2, c3, c4, c5] = true := ExpAt.eqv q7
    obtain ⟨y1, y2, y3⟩ := hbp 1 (by omega)
    rw [Nat.one_mul] at q6
    obtain ⟨b', off', cap', e', ro', cells', a0, a1, a2, a3, a4, a5, hv', q1, q2', q3', q4', q5', w6, w7, k0, k1, k2, k3, k4, k5⟩ := TreesAt.at_ hTT (i := 2) (by omega)
    cases hv'
    rw [g1] at q1
    cases q1
    have hoff2 : off + 12 + 6 ≤ cells.length := by omega
    have w7' : eqL [a0, a1, a2, a3, a4, a5] [a0, a1, a2, a3, a4, a5] = true := ExpAt.eqv w7
    obtain ⟨x1, x2, x3⟩ := hbp 2 (by omega)
    rw [show 2 * 6 = 12 from rfl] at w6
    simp [hst, n1, n2, n3, Hp.get_new, hlen, eqV, u1, u2, u3, g1, hg3, g6, hoff, m0, m1, m2, m3, m4, m5, g7', q6, hoff1, l0, l1, l2, l3, l4, l5, q7', w6, hoff2, k0, k1, k2, k3, k4, k5, w7']
    refine (hP _ (List.getElem_mem (show 0 < es.length by omega)) _ _ K (hG1 _) (ExpAt.mono (hS1 _) _ _ g7) (hK1 _) z1).mono ?_
    rintro w H2 ⟨rfl, hX2⟩
    obtain ⟨kr, kG, kX, kg, kK, kS, kn⟩ := keep _ H2 hX2
    have s2 := kG.st
    have k8 := kg b g3
    rw [g1] at k8
    simp [s2, kr, eqV, u1, hlen, k8, g1, hg3, g6, hoff, m0, m1, m2, m3, m4, m5, g7', q6, hoff1, l0, l1, l2, l3, l4, l5, q7', w6, hoff2, k0, k1, k2, k3, k4, k5, w7', Hp.get_new]
    have kb := kX.bump
    refine (hP _ (List.getElem_mem (show 1 < es.length by omega)) H2.bump _ K (hG.ext kb) (ExpAt.mono ⟨fun b hb _ => hb, fun b hb hx => kb.get b hx (fun h => h), kb.le⟩ _ _ q7) (fun b hb => by have := kK b hb; simp; omega) (by omega)).mono ?_
    rintro w H3 ⟨rfl, hX3⟩
    have hXX := kb.trans hX3
    have s3 := hX3.st
    have r1 : H3.get H.next = H2.get H.next := hX3.get H.next (by simp; omega) (fun h => h)
    rw [kr] at r1
    have r8 : H3.get b = H2.get b := hX3.get b (by simp; omega) (fun h => h)
    rw [k8] at r8
    simp [s3, r1, r8, kr, eqV, u1, hlen, k8, g1, hg3, g6, hoff, m0, m1, m2, m3, m4, m5, g7', q6, hoff1, l0, l1, l2, l3, l4, l5, q7', w6, hoff2, k0, k1, k2, k3, k4, k5, w7', Hp.get_new]
    have kb3 := hXX.bump
    refine (hP _ (List.getElem_mem (show 2 < es.length by omega)) H3.bump _ K (hG.ext kb3) (ExpAt.mono ⟨fun b hb _ => hb, fun b hb hx => kb3.get b hx (fun h => h), kb3.le⟩ _ _ w7) (fun b hb => by have := hK b hb; have := kb3.le; omega) (by omega)).mono ?_
    rintro w H4 ⟨rfl, hX4⟩
    have s4 := hX4.st
    simp [s4]
    try simp (disch := first | omega | (simp only [List.length_append, List.length_cons, List.length_nil]; omega)) only [if_le]
    try simp [s4]
    try simp (disch := first | omega | (simp only [List.length_append, List.length_cons, List.length_nil]; omega)) only [if_le]
    try simp [s4]
    try simp (disch := first | omega | (simp only [List.length_append, List.length_cons, List.length_nil]; omega)) only [if_le]
    try simp [s4]
    try simp (disch := first | omega | (simp only [List.length_append, List.length_cons, List.length_nil]; omega)) only [if_le]
    try simp [s4]
    try simp (disch := first | omega | (simp only [List.length_append, List.length_cons, List.length_nil]; omega)) only [if_le]
    try simp [s4]
    simp [prY, z3, y3, x3, (kb3.trans hX4).bump]
  · have hlen : es.length = 1 := v4
    obtain ⟨b, off, cap, e, ro, cells, d0, d1, d2, d3, d4, d5, rfl, g1, g2, g3, g4, g5, g6, g7, m0, m1, m2, m3, m4, m5⟩ := TreesAt.at_ hTT (i := 0) (by omega)
    have hg3 := old_ne g3
    have hoff : off + 6 ≤ cells.length := by omega
    have g7' : eqL [d0, d1, d2, d3, d4, d5] [d0, d1, d2, d3, d4, d5] = true := ExpAt.eqv g7
    obtain ⟨z1, z2, z3⟩ := hbp 0 (by omega)
    rw [Nat.zero_mul, Nat.add_zero] at g6
    simp [hst, n1, n2, n3, Hp.get_new, hlen, eqV, u1, u2, u3, g1, hg3, g6, hoff, m0, m1, m2, m3, m4, m5, g7']
    refine (hP _ (List.getElem_mem (show 0 < es.length by omega)) _ _ K (hG1 _) (ExpAt.mono (hS1 _) _ _ g7) (hK1 _) z1).mono ?_
    rintro w H2 ⟨rfl, hX2⟩
    obtain ⟨kr, kG, kX, kg, kK, kS, kn⟩ := keep _ H2 hX2
    have s2 := kG.st
    have k8 := kg b g3
    rw [g1] at k8
    simp [s2, kr, eqV, u1, u2, hlen, k8, g1, hg3, g6, hoff, m0, m1, m2, m3, m4, m5, g7', Hp.get_new]
    have kb := kX.bump
    refine (hB H2.bump _ K (hG.ext kb) (TreesAt.mono ⟨fun b hb _ => hb, fun b hb hx => kb.get b hx (fun h => h), kb.le⟩ hTB) (fun b hb => by have := kK b hb; simp; omega) (by omega)).mono ?_
    rintro w H3 ⟨rfl, hX3⟩
    have hXX := kb.trans hX3
    have s3 := hX3.st
    have r1 : H3.get H.next = H2.get H.next := hX3.get H.next (by simp; omega) (fun h => h)
    rw [kr] at r1
    have r8 : H3.get b = H2.get b := hX3.get b (by simp; omega) (fun h => h)
    rw [k8] at r8
    generalize hB' : prB itoaF bd = bb at *
    simp [s3, r1, lle]
    try simp (disch := first | omega | (simp only [List.length_append, List.length_cons, List.length_nil]; omega)) only [if_le]
    try simp [s3, r1, lle]
    try simp (disch := first | omega | (simp only [List.length_append, List.length_cons, List.length_nil]; omega)) only [if_le]
    try simp [s3, r1, lle]
    try simp (disch := first | omega | (simp only [List.length_append, List.length_cons, List.length_nil]; omega)) only [if_le]
    try simp [s3, r1, lle]
    try simp (disch := first | omega | (simp only [List.length_append, List.length_cons, List.length_nil]; omega)) only [if_le]
    try simp [s3, r1, lle]
    have kb3 := hXX.bump
    cases el with
    | nil =>
      simp [s3]
      try simp (disch := first | omega | (simp only [List.length_append, List.length_cons, List.length_nil]; omega)) only [if_le]
      try simp [s3]
      simp [prY, z3, kb3]
    | cons x0 xr =>
      simp [s3, r1]
      refine (hE H3.bump _ K (hG.ext kb3) (TreesAt.mono ⟨fun b hb _ => hb, fun b hb hx => kb3.get b hx (fun h => h), kb3.le⟩ hTE) (fun b hb => by have := hK b hb; have := kb3.le; omega) (by omega)).mono ?_
      rintro w H4 ⟨rfl, hX4⟩
      generalize hB2 : prB itoaF (x0 :: xr) = be at *
      have s4 := hX4.st
      simp [s4]
      try simp (disch := first | omega | (simp only [List.length_append, List.length_cons, List.length_nil]; omega)) only [if_le]
      try simp [s4]
      try simp (disch := first | omega | (simp only [List.length_append, List.length_cons, List.length_nil]; omega)) only [if_le]
      try simp [s4]
      try simp (disch := first | omega | (simp only [List.length_append, List.length_cons, List.length_nil]; omega)) only [if_le]
      try simp [s4]
      try simp (disch := first | omega | (simp only [List.length_append, List.length_cons, List.length_nil]; omega)) only [if_le]
      try simp [s4]
      simp [prY, z3, kb3.trans hX4]
  · have hlen : es.length = 1 := v4
    obtain ⟨b, off, cap, e, ro, cells, d0, d1, d2, d3, d4, d5, rfl, g1, g2, g3, g4, g5, g6, g7, m0, m1, m2, m3, m4, m5⟩ := TreesAt.at_ hTT (i := 0) (by omega)
    have hg3 := old_ne g3
    have hoff : off + 6 ≤ cells.length := by omega
    have g7' : eqL [d0, d1, d2, d3, d4, d5] [d0, d1, d2, d3, d4, d5] = true := ExpAt.eqv g7
    obtain ⟨z1, z2, z3⟩ := hbp 0 (by omega)
    rw [Nat.zero_mul, Nat.add_zero] at g6
    simp [hst, n1, n2, n3, Hp.get_new, hlen, eqV, u1, u2, u3, g1, hg3, g6, hoff, m0, m1, m2, m3, m4, m5, g7']
    refine (hP _ (List.getElem_mem (show 0 < es.length by omega)) _ _ K (hG1 _) (ExpAt.mono (hS1 _) _ _ g7) (hK1 _) z1).mono ?_
    rintro w H2 ⟨rfl, hX2⟩
    obtain ⟨kr, kG, kX, kg, kK, kS, kn⟩ := keep _ H2 hX2
    have s2 := kG.st
    have k8 := kg b g3
    rw [g1] at k8
    simp [s2, kr, eqV, u1, u2, hlen, k8, g1, hg3, g6, hoff, m0, m1, m2, m3, m4, m5, g7', Hp.get_new]
    have kb := kX.bump
    refine (hB H2.bump _ K (hG.ext kb) (TreesAt.mono ⟨fun b hb _ => hb, fun b hb hx => kb.get b hx (fun h => h), kb.le⟩ hTB) (fun b hb => by have := kK b hb; simp; omega) (by omega)).mono ?_
    rintro w H3 ⟨rfl, hX3⟩
    have hXX := kb.trans hX3
    have s3 := hX3.st
    have r1 : H3.get H.next = H2.get H.next := hX3.get H.next (by simp; omega) (fun h => h)
    rw [kr] at r1
    have r8 : H3.get b = H2.get b := hX3.get b (by simp; omega) (fun h => h)
    rw [k8] at r8
    generalize hB' : prB itoaF bd = bb at *
    simp [s3]
    try simp (disch := first | omega | (simp only [List.length_append, List.length_cons, List.length_nil]; omega)) only [if_le]
    try simp [s3]
    try simp (disch := first | omega | (simp only [List.length_append, List.length_cons, List.length_nil]; omega)) only [if_le]
    try simp [s3]
    try simp (disch := first | omega | (simp only [List.length_append, List.length_cons, List.length_nil]; omega)) only [if_le]
    try simp [s3]
    try simp (disch := first | omega | (simp only [List.length_append, List.length_cons, List.length_nil]; omega)) only [if_le]
    try simp [s3]
    simp [prY, z3, hXX.bump]
  · have hlen : es.length = 1 := v4
    obtain ⟨b, off, cap, e, ro, cells, d0, d1, d2, d3, d4, d5, rfl, g1, g2, g3, g4, g5, g6, g7, m0, m1, m2, m3, m4, m5⟩ := TreesAt.at_ hTT (i := 0) (by omega)
    have hg3 := old_ne g3
    have hoff : off + 6 ≤ cells.length := by omega
    have g7' : eqL [d0, d1, d2, d3, d4, d5] [d0, d1, d2, d3, d4, d5] = true := ExpAt.eqv g7
    obtain ⟨z1, z2, z3⟩ := hbp 0 (by omega)
    rw [Nat.zero_mul, Nat.add_zero] at g6
    simp [hst, n1, n2, n3, Hp.get_new, hlen, eqV, u1, u2, u3, g1, hg3, g6, hoff, m0, m1, m2, m3, m4, m5, g7']
    refine (hP _ (List.getElem_mem (show 0 < es.length by omega)) _ _ K (hG1 _) (ExpAt.mono (hS1 _) _ _ g7) (hK1 _) z1).mono ?_
    rintro w H2 ⟨rfl, hX2⟩
    obtain ⟨kr, kG, kX, kg, kK, kS, kn⟩ := keep _ H2 hX2
    have s2 := kG.st
    have k8 := kg b g3
    rw [g1] at k8
    simp [s2, kr, eqV, u1, hlen, k8, g1, hg3, g6, hoff, m0, m1, m2, m3, m4, m5, g7', Hp.get_new]
    try simp (disch := first | omega | (simp only [List.length_append, List.length_cons, List.length_nil]; omega)) only [if_le]
    try simp [s2]
    try simp (disch := first | omega | (simp only [List.length_append, List.length_cons, List.length_nil]; omega)) only [if_le]
    try simp [s2]
    simp [prY, z3, kX]
  · have hlen : es.length = 1 := v4
    obtain ⟨b, off, cap, e, ro, cells, d0, d1, d2, d3, d4, d5, rfl, g1, g2, g3, g4, g5, g6, g7, m0, m1, m2, m3, m4, m5⟩ := TreesAt.at_ hTT (i := 0) (by omega)
    have hg3 := old_ne g3
    have hoff : off + 6 ≤ cells.length := by omega
    have g7' : eqL [d0, d1, d2, d3, d4, d5] [d0, d1, d2, d3, d4, d5] = true := ExpAt.eqv g7
    obtain ⟨z1, z2, z3⟩ := hbp 0 (by omega)
    rw [Nat.zero_mul, Nat.add_zero] at g6
    simp [hst, n1, n2, n3, Hp.get_new, hlen, eqV, u1, u2, u3, g1, hg3, g6, hoff, m0, m1, m2, m3, m4, m5, g7']
    refine (hP _ (List.getElem_mem (show 0 < es.length by omega)) _ _ K (hG1 _) (ExpAt.mono (hS1 _) _ _ g7) (hK1 _) z1).mono ?_
    rintro w H2 ⟨rfl, hX2⟩
    obtain ⟨kr, kG, kX, kg, kK, kS, kn⟩ := keep _ H2 hX2
    have s2 := kG.st
    have k8 := kg b g3
    rw [g1] at k8
    simp [s2, kr, eqV, u1, hlen, k8, g1, hg3, g6, hoff, m0, m1, m2, m3, m4, m5, g7', Hp.get_new]
    try simp (disch := first | omega | (simp only [List.length_append, List.length_cons, List.length_nil]; omega)) only [if_le]
    try simp [s2]
    try simp (disch := first | omega | (simp only [List.length_append, List.length_cons, List.length_nil]; omega)) only [if_le]
    try simp [s2]
    simp [prY, z3, kX]
  · simp [hst, n1, n2, n3, Hp.get_new, eqV, u1, u2, u3]
    refine (hB _ vb K (hG1 _) (TreesAt.mono (hS1 _) hTB) (hK1 _) (by omega)).mono ?_
    rintro w H2 ⟨rfl, hX2⟩
    obtain ⟨kr, kG, kX, kg, kK, kS, kn⟩ := keep _ H2 hX2
    have s2 := kG.st
    simp [s2, kr, eqV, u1, u2, u3, Hp.get_new]
    have kb := kX.bump
    refine (hE H2.bump _ K (hG.ext kb) (TreesAt.mono ⟨fun b hb _ => hb, fun b hb hx => kb.get b hx (fun h => h), kb.le⟩ hTE) (fun b hb => by have := kK b hb; simp; omega) (by omega)).mono ?_
    rintro w H3 ⟨rfl, hX3⟩
    have hXX := kb.trans hX3
    have s3 := hX3.st
    have r1 : H3.get H.next = H2.get H.next := hX3.get H.next (by simp; omega) (fun h => h)
    rw [kr] at r1
    generalize hB' : prB itoaF bd = bb at *
    generalize hB2 : prB itoaF el = be at *
    simp [s3, r1, kr, eqV, Hp.get_new]
    try simp (disch := first | omega | (simp only [List.length_append, List.length_cons, List.length_nil]; omega)) only [if_le]
    try simp [s3]
    try simp (disch := first | omega | (simp only [List.length_append, List.length_cons, List.length_nil]; omega)) only [if_le]
    try simp [s3]
    try simp (disch := first | omega | (simp only [List.length_append, List.length_cons, List.length_nil]; omega)) only [if_le]
    try simp [s3]
    try simp (disch := first | omega | (simp only [List.length_append, List.length_cons, List.length_nil]; omega)) only [if_le]
    try simp [s3]
    try simp (disch := first | omega | (simp only [List.length_append, List.length_cons, List.length_nil]; omega)) only [if_le]
    try simp [s3]
    try simp (disch := first | omega | (simp only [List.length_append, List.length_cons, List.length_nil]; omega)) only [if_le]
    try simp [s3]
    simp [prY, hXX.bump]
  · have hlen : es.length = 1 := v4
    obtain ⟨b, off, cap, e, ro, cells, d0, d1, d2, d3, d4, d5, rfl, g1, g2, g3, g4, g5, g6, g7, m0, m1, m2, m3, m4, m5⟩ := TreesAt.at_ hTT (i := 0) (by omega)
    have hg3 := old_ne g3
    have hoff : off + 6 ≤ cells.length := by omega
    have g7' : eqL [d0, d1, d2, d3, d4, d5] [d0, d1, d2, d3, d4, d5] = true := ExpAt.eqv g7
    obtain ⟨z1, z2, z3⟩ := hbp 0 (by omega)
    rw [Nat.zero_mul, Nat.add_zero] at g6
    simp [hst, n1, n2, n3, Hp.get_new, hlen, eqV, u1, u2, u3, g1, hg3, g6, hoff, m0, m1, m2, m3, m4, m5, g7']
    refine (hP _ (List.getElem_mem (show 0 < es.length by omega)) _ _ K (hG1 _) (ExpAt.mono (hS1 _) _ _ g7) (hK1 _) z1).mono ?_
    rintro w H2 ⟨rfl, hX2⟩
    obtain ⟨kr, kG, kX, kg, kK, kS, kn⟩ := keep _ H2 hX2
    have s2 := kG.st
    have k8 := kg b g3
    rw [g1] at k8
    simp [s2, kr, eqV, u1, hlen, k8, g1, hg3, g6, hoff, m0, m1, m2, m3, m4, m5, g7', Hp.get_new]
    try simp (disch := first | omega | (simp only [List.length_append, List.length_cons, List.length_nil]; omega)) only [if_le]
    try simp [s2]
    simp [prY, z3, kX]
end Go.AM.YtlcadokmhfjacaaGreatDoorT
/- Trees' texts: the program's, all. -/
set_option linter.unusedVariables false
set_option linter.unusedSimpArgs false
set_option maxRecDepth 100000
namespace Go.AM.YtlcadokmhfjacaaGreatDoorT
open Go Go.AM Go.Proofs
structure J25 (H0 : Hp) (v : V) (l : List Tx) (i : Nat) (F : Fr) (H : Hp) : Prop where
  bld : BldK (fun x => x < H0.next) H H0.next (prB itoaF (l.take i))
  ext : Ext noX H0 H
  f3 : F.get 3 = some (.ptr H0.next 0)
  f6 : F.get 6 = some v
  f7 : F.get 7 = some (.int .i64 l.length)
  f8 : F.get 8 = some (.int .i64 i)
theorem print_ok {l : List Tx} (hl : ∀ s ∈ l, tS s) : tpX l := by
  intro H0 v K hG hT hK hb
  have hst0 := hG.st
  refine wf25 (wp_sound _ ?_)
  have h1 := hT.len 42; have h2 := hT.one; have h3 := hT.cells
  have hll := len_bws (dec := itoaF) l
  simp [hst0, h1, h2, h3]
  have hb0 : BldK (fun x => x < H0.next) (H0.new bldNew) H0.next [] := BldK.new fun x hx => hx
  refine loop_of (fun k F H => ∃ i, i + k = l.length ∧ J25 H0 v l i F H) (m := l.length) ⟨0, by omega, ⟨by simpa [prB, bldNew] using hb0, Ext.new hst0 _, by simp, by simp, by simp, by simp⟩⟩ ?_
  rintro k F H ⟨i, hi, I⟩
  have hst := I.ext.st
  have f3 := I.f3; have f6 := I.f6; have f7 := I.f7; have f8 := I.f8
  have hlen : (prB itoaF (l.take i)).length ≤ 50000000 := by have := prB_len itoaF (l.take i); have := bws_take (dec := itoaF) l i; omega
  by_cases hlt : i < l.length
  · have hlt' : (i : Int) < (l.length : Int) := by omega
    have hS0 : Stays K K H0 H := ⟨fun b hb _ => hb, fun b hb hx => I.ext.get b hx (fun h => h), I.ext.le⟩
    have hTi := hT.mono hS0
    obtain ⟨b, off, cap, e, ro, cells, d0, d1, d2, d3, d4, d5, rfl, g1, g2, g3, g4, g5, g6, g7, n0, n1, n2, n3, n4, n5⟩ := TreesAt.at_ hTi hlt
    have hw : wr .i64 ((i : Int) + 1) = ((i + 1 : Nat) : Int) := by rw [wr_i64 (by omega) (by omega)]; omega
    have hoff : off + i * 6 + 6 ≤ cells.length := by omega
    simp [L25_0, f3, f6, f7, f8, hst, hlt, hlt', g1, g4, g5, g6, hoff, n0, n1, n2, n3, n4, n5, Hp.get_new, Hp.get_put]
    have hX1 : ∀ o o' : Ob, Ext noX H ((H.new o).put H.next o') := fun o o' => ⟨by simp [hst], by simp, fun b hb _ => by simp [Hp.get_new, Hp.get_put, old_ne hb]⟩
    have hSn : ∀ o o' : Ob, Stays K K H ((H.new o).put H.next o') := fun o o' => ⟨fun b hb _ => hb, fun b hb hx => (hX1 o o').get b hx (fun h => h), (hX1 o o').le⟩
    have hbp := bws_mem (dec := itoaF) (List.getElem_mem hlt)
    have hs : prB itoaF (l.take (i + 1)) = prB itoaF (l.take i) ++ prS itoaF l[i] := by rw [List.take_succ_eq_append_getElem hlt, prB_app]; simp [prB]
    have hps := prS_len itoaF l[i]
    refine (hl _ (List.getElem_mem hlt) _ _ K (hG.ext (I.ext.trans (hX1 _ _))) (ExpAt.mono (hSn _ _) _ _ g7) (fun b hb => by have := hK b hb; have := I.ext.le; simp; omega) (by omega)).mono ?_
    rintro w H2 ⟨rfl, hX2⟩
    have hX12 := (hX1 _ _).trans hX2
    have s2 := hX12.st
    simp [s2, f3]
    have hB2 := I.bld.ext hX12 (fun x _ _ h => h)
    refine (wsK s2 hB2 (prS itoaF l[i]) (by omega)).mono ?_
    rintro w H3 ⟨hB3, hX3⟩
    have s3 := hX3.st
    simp [s3, f8, hw]
    refine ⟨k - 1, by omega, i + 1, by omega, by rw [hs]; exact hB3, Ext.nk (I.ext.trans hX12) hX3 (fun x hx => hx), by simp [f3], by simp [f6], by simp [f7], by simp⟩
  · have hlt' : ¬ (i : Int) < (l.length : Int) := by omega
    have hB := I.bld
    rw [List.take_of_length_le (by omega)] at hB hlen
    simp [L25_0, f3, f6, f7, f8, hst, hlt']
    refine (stK hst hB (by omega)).mono ?_
    rintro w H3 ⟨rfl, hX3⟩
    simp [hX3.st]
    exact Ext.nk I.ext hX3 (fun x hx => hx)
mutual
theorem tX_all : ∀ t : Tx, t.ev → tX t
  | .ex op num text ps qs b, h => by
    have h' := h
    simp only [Tx.ev] at h'
    obtain ⟨_, _, _, _, _, _, _, _, _, _, h1, h2⟩ := h'
    exact string_ok (tXs_all ps h1) (list_ok fun p hp => tXs_all ps h1 p (List.mem_of_mem_drop hp)) (print_ok (tSs_all b h2)) h
  | .st .., h => by simp only [Tx.ev] at h
theorem tXs_all : ∀ l : List Tx, evs l → ∀ p ∈ l, tX p
  | [], _, p, hp => by cases hp
  | x :: r, h, p, hp => by
    simp only [evs] at h
    have h1 := tX_all x h.1
    have h2 := tXs_all r h.2
    rcases List.mem_cons.1 hp with rfl | hp
    · exact h1
    · exact h2 p hp
theorem tS_all : ∀ t : Tx, t.sv → tS t
  | .st kind name es b e a, h => by
    have h' := h
    simp only [Tx.sv] at h'
    obtain ⟨_, _, _, _, _, _, h1, h2, h3⟩ := h'
    exact sstring_ok (tXs_all es h1) (print_ok (tSs_all b h2)) (print_ok (tSs_all e h3)) h
  | .ex .., h => by simp only [Tx.sv] at h
theorem tSs_all : ∀ l : List Tx, svs l → ∀ p ∈ l, tS p
  | [], _, p, hp => by cases hp
  | x :: r, h, p, hp => by
    simp only [svs] at h
    have h1 := tS_all x h.1
    have h2 := tSs_all r h.2
    rcases List.mem_cons.1 hp with rfl | hp
    · exact h1
    · exact h2 p hp
end
theorem tp_all {l : List Tx} (h : svs l) : tpX l := print_ok (tSs_all l h)
end Go.AM.YtlcadokmhfjacaaGreatDoorT
