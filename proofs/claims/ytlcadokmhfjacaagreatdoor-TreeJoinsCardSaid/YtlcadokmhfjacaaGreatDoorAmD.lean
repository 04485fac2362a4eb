/- Parts of the abstract machine and of the walks over it, joined: what the law that is claimed here leans on. -/
import Derived.Test.YtlcadokmhfjacaaGreatDoorTie
import Derived.Test.YtlcadokmhfjacaaGreatDoorCards
import Derived.Test.YtlcadokmhfjacaaGreatDoorAmX
import Derived.Test.YtlcadokmhfjacaaGreatDoorAmA
import Derived.Test.YtlcadokmhfjacaaGreatDoorAmC3
import Derived.Stop.LaidErr
import Derived.LaidMore
import Derived.Stop.Joined
import Derived.Test.YtlcadokmhfjacaaGreatDoorAmM
import Derived.Test.YtlcadokmhfjacaaGreatDoorAmT
/- What the laid variables give the laws' heaps. -/
set_option linter.unusedVariables false
set_option linter.unusedSimpArgs false
set_option maxRecDepth 100000
namespace Go.Proofs.YtlcadokmhfjacaaGreatDoor
open Go Go.ChangeShapes Go.WideShapes Go.ChangeAt Go.RowKit Go.AM
theorem own : ownKnob Tryz.prog.godebug = none := by kernel_rfl
theorem laidOut : laidOutB Tryz.prog = true := by kernel_rfl
def laid5 : List (String × DataW Unit) := [("math/bits.deBruijn32tab", Rows.laid_math_bits_deBruijn32tab), ("math/bits.deBruijn64tab", Rows.laid_math_bits_deBruijn64tab), ("internal/strconv.uint64pow10", Rows.laid_internal_strconv_uint64pow10), ("strconv.ErrRange", Rows.laid_strconv_ErrRange), ("strconv.ErrSyntax", Rows.laid_strconv_ErrSyntax)]
def laid6 : List (String × DataW Unit) := laid5 ++ [("paling/tree.signs", Rows.laid_paling_tree_signs)]
theorem door6 (os : Os) (args : Array Value) : laidMetH Tryz.prog laid6 ((World.doorLaid Tryz.prog 153 os).forCall (fun _ _ => 0) ⟨#[], args, []⟩).memory :=
  laidMetH_of_parts3 (fuel := 8) (laidMet_of_run' 8 (by kernel_rfl) (by kernel_rfl)) (by kernel_rfl) (by kernel_rfl)
theorem g_range : Tryz.prog.globalNamed "strconv.ErrRange" = some 13 := by kernel_rfl
theorem t_range : (Tryz.prog.globals[13]?).map (·.type) = some 73 := by kernel_rfl
theorem t_pow : (Tryz.prog.globals[9]?).map (·.type) = some 210 := by kernel_rfl
theorem g_signs : Tryz.prog.globalNamed "paling/tree.signs" = some 0 := by kernel_rfl
theorem t_signs : (Tryz.prog.globals[0]?).map (·.type) = some 99 := by kernel_rfl
theorem c115 : Tryz.prog.cellsOf 115 = 1 := by kernel_rfl
theorem c210 : Tryz.prog.cellsOf 210 = 20 := by kernel_rfl
theorem c251 : Tryz.prog.cellsOf 251 = 1 := by kernel_rfl
theorem c9 : Tryz.prog.cellsOf 9 = 1 := by kernel_rfl
theorem c99 : Tryz.prog.cellsOf 99 = 18 := by kernel_rfl
theorem star : "*" ++ "errors.errorString" = "*errors.errorString" := by decide
theorem row249 (u : TypeId) (h : Tryz.prog.typeName? 3 u = some "*errors.errorString") : u = 249 :=
  typeName_ptr_named (nm := "errors.errorString") (by rw [star]; kernel_rfl) (by kernel_rfl) (by decide) u (by rw [star]; exact h)
theorem pow_data : (Rows.laid_internal_strconv_uint64pow10 : DataW Unit) = Lib.tabData .u64 Lib.pow10Tab := by kernel_rfl
/-- A string's cell, as the machine has it. -/
theorem strs_of_array {H : Type} {enc : TypeId × Value → H} {P : Program} {w : World} {base : Nat} {sp : Nat → Bool} {held : Bool} {fuel t e n : Nat} {cs : List Value} {l : List (List UInt8)} {p : List MemPlace}
    (ht : P.underlying t = some (.array n e)) (he : P.underlying e = some .string) (hce : P.cellsOf e = 1) (hct : P.cellsOf t = n) (hl : l.length = n)
    (h : DataW.trod enc P w base sp held fuel t cs = some (.agg (l.map fun s => .lit (.string s)), p)) : cs.length = n ∧ ∀ (i : Nat) s, l[i]? = some s → cs[i]? = some (.string ⟨s.toArray⟩) := by
  cases fuel with
  | zero => simp [DataW.trod] at h
  | succ fuel =>
    simp only [DataW.trod, ht, hce, hct, Nat.mul_one] at h
    split at h
    · rename_i hlen
      refine ⟨by omega, fun i s hi => ?_⟩
      obtain ⟨xs, hm, hx⟩ := Option.map_eq_some_iff.1 h
      have hxs : xs.map (·.1) = l.map fun s => (DataW.lit (.string s) : DataW H) := by
        have := congrArg Prod.fst hx
        simpa using this
      have hin : i < n := by rw [← hl]; exact (List.getElem?_eq_some_iff.1 hi).1
      have h2 := congrArg (·[i]?) hxs
      simp only [List.getElem?_map, hi, Option.map_some] at h2
      rw [Option.map_eq_some_iff] at h2
      obtain ⟨y, hy, hy1⟩ := h2
      obtain ⟨b, hb, hf⟩ := Lib.mapM_at hm i i (by simp [hin])
      rw [hy] at hb
      cases hb
      have : ((cs.drop i).take 1) = [cs[i]'(by omega)] := by
        rw [List.drop_eq_getElem_cons (by omega)]; rfl
      obtain ⟨s', hs', hd, _⟩ := DataW.trod_string he hf
      rw [hd] at hy1
      simp only [DataW.lit.injEq, Lit.string.injEq] at hy1
      rw [this] at hs'
      simp only [List.cons.injEq, and_true] at hs'
      rw [List.getElem?_eq_getElem (by omega), hs', ← hy1]
    · cases h
theorem signs_data : (Rows.laid_paling_tree_signs : DataW Unit) = .agg (([[], [], [], [], [], [], [45], [33], [43], [45], [42], [61, 61], [33, 61], [60], [], [], [], []] : List (List UInt8)).map fun s => .lit (.string s)) := by kernel_rfl
/-- What is known of the world of a law. -/
structure Facts (W : World) : Prop where
  init : YtlcadokmhfjacaaGreatDoorT.tab.init W.heap.size W
  range : ∃ (b o : Nat) (t : TypeId) (fz : Nat × Nat), W.heap[13]? = some (.cells #[.iface 249 (.pointer (some ⟨b, o, none⟩))] t fz)
theorem var_heap {W : World} {n : String} {g : Nat} {cs : Array Value} (hg : Tryz.prog.globalNamed n = some g) (h : W.var? Tryz.prog n = some cs) : ∃ t fz, W.heap[g]? = some (.cells cs t fz) := by
  simp only [World.var?, hg, Option.bind_some] at h
  split at h
  · rename_i hh; cases h; exact ⟨_, _, hh⟩
  · cases h
theorem facts_of {W : World} {r : List (String × DataW Unit)} (h : laidMet Tryz.prog (laid5 ++ r) W) : Facts W := by
  have h1 := h.tail.tail
  refine ⟨⟨rfl, ?_⟩, ?_⟩
  · have h1 : laidMet Tryz.prog (("internal/strconv.uint64pow10", Rows.laid_internal_strconv_uint64pow10) :: _) W := h1
    rw [pow_data] at h1
    exact Lib.tabIs_of_head (by kernel_rfl) t_pow Tryz.underlying210 Tryz.underlying115 c115 c210 h1
  · have h2 := h1.tail
    obtain ⟨a, s, hv, hc, _, _⟩ := laid_sentinel (tp := 249) (te := 251) (ts := 9) h2 g_range t_range Tryz.underlying73 row249 Tryz.underlying249 Tryz.underlying251 rfl rfl Tryz.underlying9 c251 c9
    obtain ⟨t, fz, hh⟩ := var_heap g_range hv
    obtain ⟨b, o, sp⟩ := a
    cases sp with
    | none => exact ⟨b, o, t, fz, hh⟩
    | some x =>
      unfold World.cell? at hc
      split at hc
      · simp at hc
      · cases hc
theorem facts6 {W : World} (h : laidMetH Tryz.prog laid6 W) : Facts W ∧ ∃ cs t fz, W.heap[0]? = some (.cells cs t fz) ∧ cs.size = 18 ∧ ∀ (i : Nat) s, ([[], [], [], [], [], [], [45], [33], [43], [45], [42], [61, 61], [33, 61], [60], [], [], [], []] : List (List UInt8))[i]? = some s → cs[i]? = some (.string ⟨s.toArray⟩) := by
  rw [MakeChecks.laidMetH_plain _ _ _ (by kernel_rfl)] at h
  refine ⟨facts_of h, ?_⟩
  have h1 := h.tail.tail.tail.tail.tail
  obtain ⟨ps, ⟨g0, t0, cs0, f0, p0, q0, hg0, ht0, hv0, hd0, _, _⟩, _⟩ := h1
  obtain rfl := Option.some.inj (g_signs.symm.trans hg0)
  obtain rfl := Option.some.inj (t_signs.symm.trans ht0)
  obtain ⟨t, fz, hh⟩ := var_heap g_signs hv0
  rw [signs_data] at hd0
  obtain ⟨h3, h4⟩ := strs_of_array Tryz.underlying99 Tryz.underlying9 c9 c99 rfl hd0
  exact ⟨cs0, t, fz, hh, by simpa using h3, fun i s hi => by simpa using h4 i s hi⟩
/-- Where the variables lie (and, from 15 on, what else came in). -/
def sg (b o : Nat) (r : Nat → AM.Loc) : Sg := fun i => if i = 0 then ⟨0, 0, 18, 1⟩ else if i < 14 then ⟨i, 0, 1, 1⟩ else if i = 14 then ⟨b, o, 1, 1⟩ else r (i - 15)
theorem glOk (b o : Nat) (r : Nat → AM.Loc) {D : Nat → Prop} (hD : ∀ i, i < 15 → D i) : GlOk YtlcadokmhfjacaaGreatDoorT.tab.ng D (sg b o r) := fun g hg => by
  rw [YtlcadokmhfjacaaGreatDoorT.tab_ng] at hg
  refine ⟨hD g (by omega), ?_, ?_⟩ <;> unfold sg <;> split <;> simp_all
theorem err_row {W : World} {b o : Nat} {t : TypeId} {fz : Nat × Nat} (h : W.heap[13]? = some (.cells #[.iface 249 (.pointer (some ⟨b, o, none⟩))] t fz)) (r : Nat → AM.Loc) {D : Nat → Prop} (hD : D 14) :
    RowAt D (sg b o r) W.heap.size W (sg b o r 13) 73 1 true [.ifc 249 (.ptr 14 0)] := by
  refine ⟨⟨_, _, _, h, ?_, fun i v hv => ?_, fun h => by cases h⟩, rfl, by simp [sg], rfl, fun h => by cases h⟩
  · simp [sg]
  · match i, hv with
    | 0, hv =>
      cases hv
      refine ⟨_, rfl, .ifc _ _ _ ?_⟩
      exact .ptr (s := sg b o r) 14 0 hD
theorem signs_row {W : World} {cs : Array Value} {t : TypeId} {fz : Nat × Nat} (h : W.heap[0]? = some (.cells cs t fz)) (hz : cs.size = 18) (hc : ∀ (i : Nat) s, ([[], [], [], [], [], [], [45], [33], [43], [45], [42], [61, 61], [33, 61], [60], [], [], [], []] : List (List UInt8))[i]? = some s → cs[i]? = some (.string ⟨s.toArray⟩)) (b o : Nat) (r : Nat → AM.Loc) (D : Nat → Prop) :
    RowAt D (sg b o r) W.heap.size W (sg b o r 0) 99 1 true YtlcadokmhfjacaaGreatDoorT.signsL := by
  refine ⟨⟨_, _, _, h, ?_, fun i v hv => ?_, fun h => by cases h⟩, rfl, by simp [sg, YtlcadokmhfjacaaGreatDoorT.signsL], rfl, fun h => by cases h⟩
  · simp [sg, hz]
  · have e : YtlcadokmhfjacaaGreatDoorT.signsL = ([[], [], [], [], [], [], [45], [33], [43], [45], [42], [61, 61], [33, 61], [60], [], [], [], []] : List (List UInt8)).map V.str := rfl
    rw [e, List.getElem?_map, Option.map_eq_some_iff] at hv
    obtain ⟨s, hs, rfl⟩ := hv
    refine ⟨_, ?_, .str s⟩
    have := hc i s hs
    simpa [sg] using this
theorem in6 {W : World} {b o : Nat} {t : TypeId} {fz : Nat × Nat} (h : W.heap[13]? = some (.cells #[.iface 249 (.pointer (some ⟨b, o, none⟩))] t fz)) {cs : Array Value} {t' : TypeId} {fz' : Nat × Nat} (h' : W.heap[0]? = some (.cells cs t' fz')) (hz : cs.size = 18) (hc : ∀ (i : Nat) s, ([[], [], [], [], [], [], [45], [33], [43], [45], [42], [61, 61], [33, 61], [60], [], [], [], []] : List (List UInt8))[i]? = some s → cs[i]? = some (.string ⟨s.toArray⟩)) (r : Nat → AM.Loc) (l : List (Option Ob)) {D : Nat → Prop} (hD : D 14)
    (hl : ∀ (i : Nat) ob, l[i]? = some (some ob) → InAt D (sg b o r) W (i + 15) ob) : ∀ (i : Nat) ob, (YtlcadokmhfjacaaGreatDoorT.gl6 ++ l)[i]? = some (some ob) → InAt D (sg b o r) W i ob := fun i ob hi => by
  match i, hi with
  | 1, hi | 2, hi | 3, hi | 4, hi | 5, hi | 6, hi | 7, hi | 8, hi | 9, hi | 10, hi | 11, hi | 12, hi | 14, hi => simp [YtlcadokmhfjacaaGreatDoorT.gl6] at hi
  | 0, hi =>
    simp [YtlcadokmhfjacaaGreatDoorT.gl6] at hi
    subst hi
    exact ⟨rfl, signs_row h' hz hc b o r D⟩
  | 13, hi =>
    simp [YtlcadokmhfjacaaGreatDoorT.gl6, YtlcadokmhfjacaaGreatDoorT.errR] at hi
    subst hi
    exact ⟨rfl, err_row h r hD⟩
  | i + 15, hi => exact hl i ob (by simpa [YtlcadokmhfjacaaGreatDoorT.gl6] using hi)
end Go.Proofs.YtlcadokmhfjacaaGreatDoor
/- What came in: slices of numbers of which trees are made. -/
set_option linter.unusedVariables false
set_option linter.unusedSimpArgs false
set_option maxRecDepth 100000
namespace Go.Proofs.YtlcadokmhfjacaaGreatDoor
open Go Go.ChangeShapes Go.WideShapes Go.ChangeAt Go.RowKit Go.AM
open Go.AM.YtlcadokmhfjacaaGreatDoorT (tab okP XsIn)
theorem u8_of8 {n : Int} (h : (Lit.int .u8 n).wf = true) : ∃ k : Nat, n = k ∧ k < 256 := by
  simp [Lit.wf, IntKind.min, IntKind.max, IntKind.signed, IntKind.bits] at h
  exact ⟨n.toNat, by omega, by omega⟩
theorem u16_of8 {n : Int} (h : (Lit.int .u16 n).wf = true) : ∃ k : Nat, n = k ∧ k < 65536 := by
  simp [Lit.wf, IntKind.min, IntKind.max, IntKind.signed, IntKind.bits] at h
  exact ⟨n.toNat, by omega, by omega⟩
theorem c5 : Tryz.prog.cellsOf 5 = 1 := by kernel_rfl
theorem c51 : Tryz.prog.cellsOf 51 = 1 := by kernel_rfl
theorem c53 : Tryz.prog.cellsOf 53 = 4 := by kernel_rfl
theorem u28 : Tryz.prog.underlying 28 = some (.slice 53) := by kernel_rfl
theorem u5 : Tryz.prog.underlying 5 = some (.int .u8) := by kernel_rfl
theorem u51 : Tryz.prog.underlying 51 = some (.int .u16) := by kernel_rfl
theorem list_of8 {α : Type} {P : Nat → α → Prop} : ∀ (n : Nat), (∀ i, i < n → ∃ x, P i x) → ∃ l : List α, l.length = n ∧ ∀ i x, l[i]? = some x → P i x
  | 0, _ => ⟨[], rfl, fun i x h => by simp at h⟩
  | n + 1, h => by
    obtain ⟨l, hl, hp⟩ := list_of8 n fun i hi => h i (by omega)
    obtain ⟨x, hx⟩ := h n (by omega)
    refine ⟨l ++ [x], by simp [hl], fun i y hy => ?_⟩
    by_cases hi : i < l.length
    · rw [List.getElem?_append_left hi] at hy; exact hp i y hy
    · rw [List.getElem?_append_right (by omega)] at hy
      have : i = l.length := by
        have := (List.getElem?_eq_some_iff.1 hy).1
        simp at this; omega
      subst this
      simp at hy
      subst hy
      rw [hl]; exact hx
theorem x4_len : ∀ L : List X4, (L.flatMap X4.cs).length = L.length * 4
  | [] => rfl
  | x :: r => by rw [List.flatMap_cons, List.length_append, x4_len r, List.length_cons]; simp [X4.cs]; omega
theorem x4_at : ∀ (L : List X4) (i : Nat) (h : i < L.length), ((L.flatMap X4.cs).drop (i * 4)).take 4 = (L[i]).cs
  | x :: r, 0, h => by simp [X4.cs]
  | x :: r, i + 1, h => by
    have := x4_at r i (by simpa using h)
    have e : (i + 1) * 4 = x.cs.length + i * 4 := by simp [X4.cs]; omega
    rw [List.flatMap_cons, e, List.drop_append, List.drop_eq_nil_of_le (by omega)]
    simpa using this
theorem xs_in (k : Nat) {H : Type} {enc : TypeId × Value → H} {W : World} {f : Nat} {v : Value} {x : DataW H × List MemPlace} (h : DataW.trod enc Tryz.prog W 0 (fun _ => true) true f 28 [v] = some x) :
    ∃ (xv : V) (Ls : List X4) (L : AM.Loc) (o : Option Ob), (∀ x ∈ Ls, x.ok) ∧ (∀ (D : Nat → Prop) (s : Sg), D k → s k = L → Rv D s xv v ∧ ∀ ob, o = some ob → InAt D s W k ob) ∧ ∀ Hp : Hp, k < Hp.next → Hp.get k = o → XsIn Hp xv Ls := by
  rcases slice_in u28 c53 (by omega) h with rfl | ⟨a, cap, rfl⟩ | ⟨b, off, len, cap, rfl, h1, h2, h3, h4⟩
  · exact ⟨.nils, [], ⟨0, 0, 0, 0⟩, none, (fun x h => by cases h), fun D s _ _ => ⟨.nils, fun ob h => by cases h⟩, fun Hp _ _ => .inl ⟨.inl rfl, rfl⟩⟩
  · exact ⟨.sle, [], ⟨0, 0, 0, 0⟩, none, (fun x h => by cases h), fun D s _ _ => ⟨.sle _ _, fun ob h => by cases h⟩, fun Hp _ _ => .inl ⟨.inr rfl, rfl⟩⟩
  · have hel : ∀ i, i < len → ∃ y : X4, y.ok ∧ W.cell? ⟨b, off + (i * 4 + 0), none⟩ = some (.int .u8 y.d) ∧ W.cell? ⟨b, off + (i * 4 + 1), none⟩ = some (.int .u8 y.a) ∧ W.cell? ⟨b, off + (i * 4 + 2), none⟩ = some (.int .u16 y.n) ∧ W.cell? ⟨b, off + (i * 4 + 3), none⟩ = some (.int .u8 y.s) := fun i hi => by
      obtain ⟨cs, m, y, g1, g2, g3⟩ := h4 i hi
      obtain ⟨_, hp⟩ := struct_parts Tryz.underlying53 g3
      match cs, g1 with
      | [c0, c1, c2, c3'], _ =>
        simp at hp
        obtain ⟨⟨n0, y0, z0, g0⟩, ⟨n1, y1, z1, g1⟩, ⟨n2, y2, z2, g2'⟩, ⟨n3, y3, z3, g3'⟩⟩ := hp
        simp [c5] at g0 g1 g3'
        simp [c51] at g2'
        obtain ⟨o, rfl, ho⟩ := leaf_int u5 g0
        obtain ⟨a, rfl, ha⟩ := leaf_int u5 g1
        obtain ⟨b', rfl, hb⟩ := leaf_int u51 g2'
        obtain ⟨c, rfl, hc⟩ := leaf_int u5 g3'
        obtain ⟨on, rfl, hon⟩ := u8_of8 ho
        obtain ⟨an, rfl, han⟩ := u8_of8 ha
        obtain ⟨bn, rfl, hbn⟩ := u16_of8 hb
        obtain ⟨cn, rfl, hcn⟩ := u8_of8 hc
        exact ⟨⟨on, an, bn, cn⟩, ⟨hon, han, hbn, hcn⟩, g2 0 (by omega), g2 1 (by omega), g2 2 (by omega), g2 3 (by omega)⟩
    obtain ⟨Ls, hl, hP⟩ := list_of8 len hel
    subst hl
    refine ⟨.sl k 0 Ls.length none 4, Ls, ⟨b, off, cap, 4⟩, some (.row 53 4 true (Ls.flatMap X4.cs)), fun x hx => ?_, fun D s hD hs => ⟨?_, fun ob ho => ?_⟩, fun Hp hk hg => .inr ⟨k, 0, 53, true, Ls.flatMap X4.cs, rfl, hk, hg, rfl, by rw [List.drop_zero, List.take_of_length_le (by rw [x4_len]; exact Nat.le_refl _)], by rw [x4_len]; omega⟩⟩
    · obtain ⟨i, hi⟩ := List.getElem?_of_mem hx
      exact (hP i x hi).1
    · have := Rv.sln (D := D) (s := s) k 0 Ls.length 4 hD (by rw [hs]) (by omega) (by simp) (by rw [hs]; simpa using h2)
      rw [hs] at this
      simpa using this
    · cases ho
      refine ⟨rfl, ?_⟩
      rw [hs]
      refine row_cells (by omega) h3 (by rw [x4_len]; omega) (List.all_eq_true.2 fun v hv => ?_) fun i v hv => ?_
      · obtain ⟨y, _, hy⟩ := List.mem_flatMap.1 hv
        simp [X4.cs] at hy
        rcases hy with rfl | rfl | rfl | rfl <;> rfl
      · have hil : i < (Ls.flatMap X4.cs).length := (List.getElem?_eq_some_iff.1 hv).1
        rw [x4_len] at hil
        have hq : i / 4 < Ls.length := by omega
        have hf := x4_at Ls (i / 4) hq
        have hr : (Ls.flatMap X4.cs)[i]? = (Ls[i / 4]).cs[i % 4]? := by
          rw [← hf, List.getElem?_take, if_pos (Nat.mod_lt _ (by omega)), List.getElem?_drop]
          congr 1; omega
        rw [hr] at hv
        obtain ⟨_, e0, e1, e2, e3⟩ := hP (i / 4) _ (List.getElem?_eq_getElem hq)
        have hm : i % 4 = 0 ∨ i % 4 = 1 ∨ i % 4 = 2 ∨ i % 4 = 3 := by omega
        rcases hm with hm | hm | hm | hm
        · rw [hm] at hv; cases hv
          exact ⟨_, by rw [show off + i = off + (i / 4 * 4 + 0) by omega]; exact e0, .int _ _⟩
        · rw [hm] at hv; cases hv
          exact ⟨_, by rw [show off + i = off + (i / 4 * 4 + 1) by omega]; exact e1, .int _ _⟩
        · rw [hm] at hv; cases hv
          exact ⟨_, by rw [show off + i = off + (i / 4 * 4 + 2) by omega]; exact e2, .int _ _⟩
        · rw [hm] at hv; cases hv
          exact ⟨_, by rw [show off + i = off + (i / 4 * 4 + 3) by omega]; exact e3, .int _ _⟩
end Go.Proofs.YtlcadokmhfjacaaGreatDoor
/- TreePrints, TreeJoins: the walks, as calls. -/
set_option linter.unusedVariables false
set_option linter.unusedSimpArgs false
set_option maxRecDepth 100000
namespace Go.Proofs.YtlcadokmhfjacaaGreatDoor
open Go Go.ChangeShapes Go.WideShapes Go.ChangeAt Go.RowKit Go.AM
open Go.AM.YtlcadokmhfjacaaGreatDoorT (tab okP XsIn gl6 awake6_2 Gs treePrints_w treeJoins_w signsL signsV)
abbrev Won (f : FuncId) (args : Array Value) (W : World) : Prop := Calls Tryz.prog f args W fun e w' => e = .returned (.bool true) ∧ Below W.heap.size W w'
theorem gs6 (o o' : Option Ob) : Gs (hO (gl6 ++ [o, o'])) := ⟨hO_st _, by rw [hO_next]; show 0 < 17; omega, by rw [hO_get]; rfl⟩
theorem two_in {W : World} {b o : Nat} {r : Nat → AM.Loc} {D : Nat → Prop} {o1 o2 : Option Ob} (h1 : ∀ ob, o1 = some ob → InAt D (sg b o r) W 15 ob) (h2 : ∀ ob, o2 = some ob → InAt D (sg b o r) W 16 ob) : ∀ (i : Nat) ob, ([o1, o2] : List (Option Ob))[i]? = some (some ob) → InAt D (sg b o r) W (i + 15) ob := fun i ob hi => by
  match i, hi with
  | 0, hi => exact h1 ob (by simpa using hi)
  | 1, hi => exact h2 ob (by simpa using hi)
  | i + 2, hi => simp at hi
theorem glD (fb fo : Nat) (r : Nat → AM.Loc) (o1 o2 : Option Ob) : GlOk tab.ng (dO (gl6 ++ [o1, o2])) (sg fb fo r) := glOk fb fo _ fun i hi => by show i < _; simp [gl6]; omega
theorem treeJoins_walk {W : World} (hL : laidMetH Tryz.prog laid6 W) {H : Type} {enc : TypeId × Value → H} {v v' : Value} {d d' : DataW H} {p p' : List MemPlace} (h : DataW.Trod enc Tryz.prog W 0 (fun _ => true) true 28 v d p) (h' : DataW.Trod enc Tryz.prog W 0 (fun _ => true) true 28 v' d' p') (hc : v.cells = #[v]) (hc' : v'.cells = #[v']) : Won 6 #[v, v'] W := by
  obtain ⟨f, hf⟩ := h
  obtain ⟨f', hf'⟩ := h'
  rw [hc] at hf
  rw [hc'] at hf'
  obtain ⟨xl, Ls, Ll, ol, hok, rl, hil⟩ := xs_in 15 hf
  obtain ⟨xm, Ms, Lm, om, hok', rm, him⟩ := xs_in 16 hf'
  obtain ⟨F, cs0, t0, fz0, hh0, hz0, hc0⟩ := facts6 hL
  obtain ⟨fb, fo, ft, ffz, fh⟩ := F.range
  let r : Nat → AM.Loc := fun i => if i = 0 then Ll else Lm
  have hrl := rl (dO (gl6 ++ [ol, om])) (sg fb fo r) (show 15 < 17 by omega) rfl
  have hrm := rm (dO (gl6 ++ [ol, om])) (sg fb fo r) (show 16 < 17 by omega) rfl
  refine topO okP F.init (l := gl6 ++ [ol, om]) (s := sg fb fo r) (glD fb fo _ ol om) (in6 fh hh0 hz0 hc0 _ [ol, om] (show (14 : Nat) < 17 by decide) (two_in hrl.2 hrm.2)) (.cons _ _ _ _ hrl.1 (.cons _ _ _ _ hrm.1 .nil)) ?_
  exact (treeJoins_w (awake6_2 ol om) (gs6 ol om) (hil _ (by rw [hO_next]; show 15 < 17; omega) (by rw [hO_get]; cases ol <;> rfl)) hok (him _ (by rw [hO_next]; show 16 < 17; omega) (by rw [hO_get]; cases om <;> rfl)) hok').mono fun v H' h => h.1
end Go.Proofs.YtlcadokmhfjacaaGreatDoor
