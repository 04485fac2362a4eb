/- ScopeFree: the walk, as a call. -/
import Derived.Test.YtkmkkgfdobaplaaGreatDoorAmD
import Derived.Test.YtkmkkgfdobaplaaGreatDoorAmR
import Derived.Test.YtkmkkgfdobaplaaGreatDoorAmE8
set_option linter.unusedVariables false
set_option linter.unusedSimpArgs false
set_option maxRecDepth 100000
namespace Go.Proofs.YtkmkkgfdobaplaaGreatDoor
open Go Go.ChangeShapes Go.WideShapes Go.ChangeAt Go.RowKit Go.AM
open Go.AM.YtkmkkgfdobaplaaGreatDoorT (tab okP Lev LevOk glc scopeO codeO signsT reservedT scopeT codeT signsL reservedL scopeL codeL simpleL awake8 XsIn U8sIn scopeFree9)
theorem uint_of {k : IntKind} {n : Int} {m : Nat} (hm : ∀ n, (Lit.int k n).wf = true → 0 ≤ n ∧ n < m) (h : (Lit.int k n).wf = true) : ∃ j : Nat, n = j ∧ j < m := by
  have := hm n h
  exact ⟨n.toNat, by omega, by omega⟩
theorem u8_of8 {n : Int} (h : (Lit.int .u8 n).wf = true) : ∃ k : Nat, n = k ∧ k < 256 := by
  simp [Lit.wf, IntKind.min, IntKind.max, IntKind.signed, IntKind.bits] at h
  exact ⟨n.toNat, by omega, by omega⟩
theorem u16_of8 {n : Int} (h : (Lit.int .u16 n).wf = true) : ∃ k : Nat, n = k ∧ k < 65536 := by
  simp [Lit.wf, IntKind.min, IntKind.max, IntKind.signed, IntKind.bits] at h
  exact ⟨n.toNat, by omega, by omega⟩
theorem c5 : Tryz.prog.cellsOf 5 = 1 := by kernel_rfl
theorem c117 : Tryz.prog.cellsOf 117 = 1 := by kernel_rfl
theorem c119 : Tryz.prog.cellsOf 119 = 4 := by kernel_rfl
theorem u50 : Tryz.prog.underlying 50 = some (.slice 5) := by kernel_rfl
theorem u22 : Tryz.prog.underlying 22 = some (.slice 119) := by kernel_rfl
theorem u5 : Tryz.prog.underlying 5 = some (.int .u8) := by kernel_rfl
theorem u117 : Tryz.prog.underlying 117 = some (.int .u16) := by kernel_rfl
theorem list_of8 {α : Type} {P : Nat → α → Prop} : ∀ (n : Nat), (∀ i, i < n → ∃ x, P i x) → ∃ l : List α, l.length = n ∧ ∀ i x, l[i]? = some x → P i x
  | 0, _ => ⟨[], rfl, fun i x h => by simp at h⟩
  | n + 1, h => by
    obtain ⟨l, hl, hp⟩ := list_of8 n fun i hi => h i (by omega)
    obtain ⟨x, hx⟩ := h n (by omega)
    refine ⟨l ++ [x], by simp [hl], fun i y hy => ?_⟩
    by_cases hi : i < l.length
    · rw [List.getElem?_append_left hi] at hy; exact hp i y hy
    · rw [List.getElem?_append_right (by omega)] at hy
      have : i = l.length := by
        have := (List.getElem?_eq_some_iff.1 hy).1
        simp at this; omega
      subst this
      simp at hy
      subst hy
      rw [hl]; exact hx
theorem slice_max {H : Type} {enc : TypeId × Value → H} {P : Program} {W : World} {base : Nat} {held : Bool} {f : Nat} {t e : TypeId} {a : Addr} {len cap : Nat} {x : DataW H × List MemPlace} (ht : P.underlying t = some (.slice e)) (h : DataW.trod enc P W base (fun _ => true) held f t [.slice (some a) len cap] = some x) : len ≤ 9223372036854775807 := by
  rcases DataW.trod_slice ht h with ⟨hcs, _⟩ | ⟨a', len', cap', elems, rest, n, _, hcs, hx, _, hlc, hcm, hlen, hel, hsp, _⟩
  · simp at hcs
  · simp only [List.cons.injEq, and_true, Value.slice.injEq] at hcs
    obtain ⟨_, rfl, rfl⟩ := hcs
    exact Nat.le_trans hlc hcm
theorem x4_len : ∀ L : List X4, (L.flatMap X4.cs).length = L.length * 4
  | [] => rfl
  | x :: r => by rw [List.flatMap_cons, List.length_append, x4_len r, List.length_cons]; simp [X4.cs]; omega
theorem x4_at : ∀ (L : List X4) (i : Nat) (h : i < L.length), ((L.flatMap X4.cs).drop (i * 4)).take 4 = (L[i]).cs
  | x :: r, 0, h => by simp [X4.cs]
  | x :: r, i + 1, h => by
    have := x4_at r i (by simpa using h)
    have e : (i + 1) * 4 = x.cs.length + i * 4 := by simp [X4.cs]; omega
    rw [List.flatMap_cons, e, List.drop_append, List.drop_eq_nil_of_le (by omega)]
    simpa using this
theorem u8s_in (k : Nat) {H : Type} {enc : TypeId × Value → H} {W : World} {f : Nat} {v : Value} {x : DataW H × List MemPlace} (h : DataW.trod enc Tryz.prog W 0 (fun _ => true) true f 50 [v] = some x) :
    ∃ (xv : V) (ps : List Nat) (L : AM.Loc) (o : Option Ob), (∀ n ∈ ps, n < 256) ∧ ps.length ≤ 9223372036854775807 ∧ (∀ (D : Nat → Prop) (s : Sg), D k → s k = L → Rv D s xv v ∧ ∀ ob, o = some ob → InAt D s W k ob) ∧ ∀ Hp : Hp, k < Hp.next → Hp.get k = o → U8sIn Hp xv ps := by
  rcases slice_in u50 c5 (by omega) h with rfl | ⟨a, cap, rfl⟩ | ⟨b, off, len, cap, rfl, h1, h2, h3, h4⟩
  · exact ⟨.nils, [], ⟨0, 0, 0, 0⟩, none, (fun x h => by cases h), by simp, fun D s _ _ => ⟨.nils, fun ob h => by cases h⟩, fun Hp _ _ => .inl ⟨.inl rfl, rfl⟩⟩
  · exact ⟨.sle, [], ⟨0, 0, 0, 0⟩, none, (fun x h => by cases h), by simp, fun D s _ _ => ⟨.sle _ _, fun ob h => by cases h⟩, fun Hp _ _ => .inl ⟨.inr rfl, rfl⟩⟩
  · have hmx := slice_max u50 h
    have hel : ∀ i, i < len → ∃ y : Nat, y < 256 ∧ W.cell? ⟨b, off + i, none⟩ = some (.int .u8 y) := fun i hi => by
      obtain ⟨cs, m, y, g1, g2, g3⟩ := h4 i hi
      match cs, g1 with
      | [c0], _ =>
        obtain ⟨o, rfl, ho⟩ := leaf_int u5 g3
        obtain ⟨on, rfl, hon⟩ := u8_of8 ho
        have := g2 0 (by omega)
        simp at this
        exact ⟨on, hon, this⟩
    obtain ⟨Ls, hl, hP⟩ := list_of8 len hel
    subst hl
    refine ⟨.sl k 0 Ls.length none 1, Ls, ⟨b, off, cap, 1⟩, some (.row 5 1 true (Ls.map fun n => .int .u8 (n : Nat))), fun x hx => ?_, hmx, fun D s hD hs => ⟨?_, fun ob ho => ?_⟩, fun Hp hk hg => .inr ⟨k, 5, rfl, hk, hg⟩⟩
    · obtain ⟨i, hi⟩ := List.getElem?_of_mem hx
      exact (hP i x hi).1
    · have := Rv.sln (D := D) (s := s) k 0 Ls.length 1 hD (by rw [hs]) (by omega) (by simp) (by rw [hs]; simpa using h2)
      rw [hs] at this
      simpa using this
    · cases ho
      refine ⟨rfl, ?_⟩
      rw [hs]
      refine row_cells (by omega) h3 (by simp; omega) (List.all_eq_true.2 fun v hv => ?_) fun i v hv => ?_
      · obtain ⟨y, _, rfl⟩ := List.mem_map.1 hv
        rfl
      · rw [List.getElem?_map, Option.map_eq_some_iff] at hv
        obtain ⟨y, hy, rfl⟩ := hv
        exact ⟨_, (hP i y hy).2, .int _ _⟩
theorem xs_in (k : Nat) {H : Type} {enc : TypeId × Value → H} {W : World} {f : Nat} {v : Value} {x : DataW H × List MemPlace} (h : DataW.trod enc Tryz.prog W 0 (fun _ => true) true f 22 [v] = some x) :
    ∃ (xv : V) (Ls : List X4) (L : AM.Loc) (o : Option Ob), (∀ x ∈ Ls, x.ok) ∧ (∀ (D : Nat → Prop) (s : Sg), D k → s k = L → Rv D s xv v ∧ ∀ ob, o = some ob → InAt D s W k ob) ∧ ∀ Hp : Hp, k < Hp.next → Hp.get k = o → XsIn Hp xv Ls := by
  rcases slice_in u22 c119 (by omega) h with rfl | ⟨a, cap, rfl⟩ | ⟨b, off, len, cap, rfl, h1, h2, h3, h4⟩
  · exact ⟨.nils, [], ⟨0, 0, 0, 0⟩, none, (fun x h => by cases h), fun D s _ _ => ⟨.nils, fun ob h => by cases h⟩, fun Hp _ _ => .inl ⟨.inl rfl, rfl⟩⟩
  · exact ⟨.sle, [], ⟨0, 0, 0, 0⟩, none, (fun x h => by cases h), fun D s _ _ => ⟨.sle _ _, fun ob h => by cases h⟩, fun Hp _ _ => .inl ⟨.inr rfl, rfl⟩⟩
  · have hel : ∀ i, i < len → ∃ y : X4, y.ok ∧ W.cell? ⟨b, off + (i * 4 + 0), none⟩ = some (.int .u8 y.d) ∧ W.cell? ⟨b, off + (i * 4 + 1), none⟩ = some (.int .u8 y.a) ∧ W.cell? ⟨b, off + (i * 4 + 2), none⟩ = some (.int .u16 y.n) ∧ W.cell? ⟨b, off + (i * 4 + 3), none⟩ = some (.int .u8 y.s) := fun i hi => by
      obtain ⟨cs, m, y, g1, g2, g3⟩ := h4 i hi
      obtain ⟨_, hp⟩ := struct_parts Tryz.underlying119 g3
      match cs, g1 with
      | [c0, c1, c2, c3'], _ =>
        simp at hp
        obtain ⟨⟨n0, y0, z0, g0⟩, ⟨n1, y1, z1, g1⟩, ⟨n2, y2, z2, g2'⟩, ⟨n3, y3, z3, g3'⟩⟩ := hp
        simp [c5] at g0 g1 g3'
        simp [c117] at g2'
        obtain ⟨o, rfl, ho⟩ := leaf_int u5 g0
        obtain ⟨a, rfl, ha⟩ := leaf_int u5 g1
        obtain ⟨b', rfl, hb⟩ := leaf_int u117 g2'
        obtain ⟨c, rfl, hc⟩ := leaf_int u5 g3'
        obtain ⟨on, rfl, hon⟩ := u8_of8 ho
        obtain ⟨an, rfl, han⟩ := u8_of8 ha
        obtain ⟨bn, rfl, hbn⟩ := u16_of8 hb
        obtain ⟨cn, rfl, hcn⟩ := u8_of8 hc
        exact ⟨⟨on, an, bn, cn⟩, ⟨hon, han, hbn, hcn⟩, g2 0 (by omega), g2 1 (by omega), g2 2 (by omega), g2 3 (by omega)⟩
    obtain ⟨Ls, hl, hP⟩ := list_of8 len hel
    subst hl
    refine ⟨.sl k 0 Ls.length none 4, Ls, ⟨b, off, cap, 4⟩, some (.row 119 4 true (Ls.flatMap X4.cs)), fun x hx => ?_, fun D s hD hs => ⟨?_, fun ob ho => ?_⟩, fun Hp hk hg => .inr ⟨k, 0, 119, Ls.flatMap X4.cs, rfl, hk, hg, rfl, by rw [List.drop_zero, List.take_of_length_le (by rw [x4_len]; exact Nat.le_refl _)], by rw [x4_len]; omega⟩⟩
    · obtain ⟨i, hi⟩ := List.getElem?_of_mem hx
      exact (hP i x hi).1
    · have := Rv.sln (D := D) (s := s) k 0 Ls.length 4 hD (by rw [hs]) (by omega) (by simp) (by rw [hs]; simpa using h2)
      rw [hs] at this
      simpa using this
    · cases ho
      refine ⟨rfl, ?_⟩
      rw [hs]
      refine row_cells (by omega) h3 (by rw [x4_len]; omega) (List.all_eq_true.2 fun v hv => ?_) fun i v hv => ?_
      · obtain ⟨y, _, hy⟩ := List.mem_flatMap.1 hv
        simp [X4.cs] at hy
        rcases hy with rfl | rfl | rfl | rfl <;> rfl
      · have hil : i < (Ls.flatMap X4.cs).length := (List.getElem?_eq_some_iff.1 hv).1
        rw [x4_len] at hil
        have hq : i / 4 < Ls.length := by omega
        have hf := x4_at Ls (i / 4) hq
        have hr : (Ls.flatMap X4.cs)[i]? = (Ls[i / 4]).cs[i % 4]? := by
          rw [← hf, List.getElem?_take, if_pos (Nat.mod_lt _ (by omega)), List.getElem?_drop]
          congr 1; omega
        rw [hr] at hv
        obtain ⟨_, e0, e1, e2, e3⟩ := hP (i / 4) _ (List.getElem?_eq_getElem hq)
        have hm : i % 4 = 0 ∨ i % 4 = 1 ∨ i % 4 = 2 ∨ i % 4 = 3 := by omega
        rcases hm with hm | hm | hm | hm
        · rw [hm] at hv; cases hv
          exact ⟨_, by rw [show off + i = off + (i / 4 * 4 + 0) by omega]; exact e0, .int _ _⟩
        · rw [hm] at hv; cases hv
          exact ⟨_, by rw [show off + i = off + (i / 4 * 4 + 1) by omega]; exact e1, .int _ _⟩
        · rw [hm] at hv; cases hv
          exact ⟨_, by rw [show off + i = off + (i / 4 * 4 + 2) by omega]; exact e2, .int _ _⟩
        · rw [hm] at hv; cases hv
          exact ⟨_, by rw [show off + i = off + (i / 4 * 4 + 3) by omega]; exact e3, .int _ _⟩
theorem scopeFree_walk {W : World} (hL : laidMetH Tryz.prog laid8 W) {H : Type} {enc : TypeId × Value → H} {v v' : Value} {d d' : DataW H} {p p' : List MemPlace} (h : DataW.Trod enc Tryz.prog W 0 (fun _ => true) true 50 v d p) (h' : DataW.Trod enc Tryz.prog W 0 (fun _ => true) true 22 v' d' p') (hc : v.cells = #[v]) (hc' : v'.cells = #[v']) : Won 9 #[v, v'] W := by
  obtain ⟨f, hf⟩ := h
  obtain ⟨f', hf'⟩ := h'
  rw [hc] at hf
  rw [hc'] at hf'
  obtain ⟨xa, ps, La, oa, hp8, hpl, ra, hia⟩ := u8s_in 19 hf
  obtain ⟨xl, Ls, Ll, ol, hok, rl, hil⟩ := xs_in 20 hf'
  obtain ⟨⟨M, x, y, z, F⟩, hsc⟩ := facts8 hL
  let r : Nat → AM.Loc := fun i => if i = 0 then La else Ll
  have hra := ra (dO (glc none scopeO none none M [oa, ol, none, none, none, none])) (sg x y z r) (show 19 < 25 by omega) rfl
  have hrl := rl (dO (glc none scopeO none none M [oa, ol, none, none, none, none])) (sg x y z r) (show 20 < 25 by omega) rfl
  refine topC F (r := r) (l := [oa, ol, none, none, none, none]) (o0 := none) (o3 := none) (o4 := none) no_in (scope_in hsc) no_in no_in (fun i o hi => ?_) (.cons _ _ _ _ hra.1 (.cons _ _ _ _ hrl.1 .nil)) ?_
  · match i, hi with
    | 0, hi => exact hra.2 o (by simpa using hi)
    | 1, hi => exact hrl.2 o (by simpa using hi)
    | 2, hi | 3, hi | 4, hi | 5, hi => simp at hi
    | i + 6, hi => simp at hi
  · exact scopeFree9 (awake8 F.lvs.ok none none none oa ol none none none none) (hO_st _) (hia _ (by rw [hO_next, glc_len]; decide) (by rw [hO_get]; cases oa <;> rfl)) hp8 hpl (hil _ (by rw [hO_next, glc_len]; decide) (by rw [hO_get]; cases ol <;> rfl)) hok
end Go.Proofs.YtkmkkgfdobaplaaGreatDoor
