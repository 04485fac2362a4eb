/- What the laid variables give the laws' heaps. -/
import Derived.Test.YtjdadagnfnaboaaGreatDoorTie
import Derived.Test.YtjdadagnfnaboaaGreatDoorCards
import Derived.Test.YtjdadagnfnaboaaGreatDoorAmX
import Derived.Test.YtjdadagnfnaboaaGreatDoorAmL
import Derived.Test.YtjdadagnfnaboaaGreatDoorAmC2
import Derived.Stop.LaidErr
import Derived.LaidMore
import Derived.Stop.Joined
set_option linter.unusedVariables false
set_option linter.unusedSimpArgs false
set_option maxRecDepth 100000
namespace Go.Proofs.YtjdadagnfnaboaaGreatDoor
open Go Go.ChangeShapes Go.WideShapes Go.ChangeAt Go.RowKit Go.AM
theorem own : ownKnob Tryz.prog.godebug = none := by kernel_rfl
theorem laidOut : laidOutB Tryz.prog = true := by kernel_rfl
def laid5 : List (String × DataW Unit) := [("math/bits.deBruijn32tab", Rows.laid_math_bits_deBruijn32tab), ("math/bits.deBruijn64tab", Rows.laid_math_bits_deBruijn64tab), ("internal/strconv.uint64pow10", Rows.laid_internal_strconv_uint64pow10), ("strconv.ErrRange", Rows.laid_strconv_ErrRange), ("strconv.ErrSyntax", Rows.laid_strconv_ErrSyntax)]
def laid6 : List (String × DataW Unit) := laid5 ++ [("paling/tree.signs", Rows.laid_paling_tree_signs)]
theorem door5 (os : Os) (args : Array Value) : laidMetH Tryz.prog laid5 ((World.doorLaid Tryz.prog 67 os).forCall (fun _ _ => 0) ⟨#[], args, []⟩).memory :=
  laidMetH_of_parts3 (fuel := 8) (laidMet_of_run' 8 (by kernel_rfl) (by kernel_rfl)) (by kernel_rfl) (by kernel_rfl)
theorem door6 (os : Os) (args : Array Value) : laidMetH Tryz.prog laid6 ((World.doorLaid Tryz.prog 67 os).forCall (fun _ _ => 0) ⟨#[], args, []⟩).memory :=
  laidMetH_of_parts3 (fuel := 8) (laidMet_of_run' 8 (by kernel_rfl) (by kernel_rfl)) (by kernel_rfl) (by kernel_rfl)
theorem g_range : Tryz.prog.globalNamed "strconv.ErrRange" = some 6 := by kernel_rfl
theorem t_range : (Tryz.prog.globals[6]?).map (·.type) = some 75 := by kernel_rfl
theorem t_pow : (Tryz.prog.globals[1]?).map (·.type) = some 155 := by kernel_rfl
theorem g_signs : Tryz.prog.globalNamed "paling/tree.signs" = some 0 := by kernel_rfl
theorem t_signs : (Tryz.prog.globals[0]?).map (·.type) = some 84 := by kernel_rfl
theorem c37 : Tryz.prog.cellsOf 37 = 1 := by kernel_rfl
theorem c155 : Tryz.prog.cellsOf 155 = 20 := by kernel_rfl
theorem c205 : Tryz.prog.cellsOf 205 = 1 := by kernel_rfl
theorem c9 : Tryz.prog.cellsOf 9 = 1 := by kernel_rfl
theorem c84 : Tryz.prog.cellsOf 84 = 18 := by kernel_rfl
theorem star : "*" ++ "errors.errorString" = "*errors.errorString" := by decide
theorem row203 (u : TypeId) (h : Tryz.prog.typeName? 3 u = some "*errors.errorString") : u = 203 :=
  typeName_ptr_named (nm := "errors.errorString") (by rw [star]; kernel_rfl) (by kernel_rfl) (by decide) u (by rw [star]; exact h)
theorem pow_data : (Rows.laid_internal_strconv_uint64pow10 : DataW Unit) = Lib.tabData .u64 Lib.pow10Tab := by kernel_rfl
/-- A string's cell, as the machine has it. -/
theorem strs_of_array {H : Type} {enc : TypeId × Value → H} {P : Program} {w : World} {base : Nat} {sp : Nat → Bool} {held : Bool} {fuel t e n : Nat} {cs : List Value} {l : List (List UInt8)} {p : List MemPlace}
    (ht : P.underlying t = some (.array n e)) (he : P.underlying e = some .string) (hce : P.cellsOf e = 1) (hct : P.cellsOf t = n) (hl : l.length = n)
    (h : DataW.trod enc P w base sp held fuel t cs = some (.agg (l.map fun s => .lit (.string s)), p)) : cs.length = n ∧ ∀ (i : Nat) s, l[i]? = some s → cs[i]? = some (.string ⟨s.toArray⟩) := by
  cases fuel with
  | zero => simp [DataW.trod] at h
  | succ fuel =>
    simp only [DataW.trod, ht, hce, hct, Nat.mul_one] at h
    split at h
    · rename_i hlen
      refine ⟨by omega, fun i s hi => ?_⟩
      obtain ⟨xs, hm, hx⟩ := Option.map_eq_some_iff.1 h
      have hxs : xs.map (·.1) = l.map fun s => (DataW.lit (.string s) : DataW H) := by
        have := congrArg Prod.fst hx
        simpa using this
      have hin : i < n := by rw [← hl]; exact (List.getElem?_eq_some_iff.1 hi).1
      have h2 := congrArg (·[i]?) hxs
      simp only [List.getElem?_map, hi, Option.map_some] at h2
      rw [Option.map_eq_some_iff] at h2
      obtain ⟨y, hy, hy1⟩ := h2
      obtain ⟨b, hb, hf⟩ := Lib.mapM_at hm i i (by simp [hin])
      rw [hy] at hb
      cases hb
      have : ((cs.drop i).take 1) = [cs[i]'(by omega)] := by
        rw [List.drop_eq_getElem_cons (by omega)]; rfl
      obtain ⟨s', hs', hd, _⟩ := DataW.trod_string he hf
      rw [hd] at hy1
      simp only [DataW.lit.injEq, Lit.string.injEq] at hy1
      rw [this] at hs'
      simp only [List.cons.injEq, and_true] at hs'
      rw [List.getElem?_eq_getElem (by omega), hs', ← hy1]
    · cases h
theorem signs_data : (Rows.laid_paling_tree_signs : DataW Unit) = .agg (([[], [], [], [], [], [], [45], [33], [43], [45], [42], [61, 61], [33, 61], [60], [], [], [], []] : List (List UInt8)).map fun s => .lit (.string s)) := by kernel_rfl
/-- What is known of the world of a law. -/
structure Facts (W : World) : Prop where
  init : YtjdadagnfnaboaaGreatDoorT.tab.init W.heap.size W
  range : ∃ (b o : Nat) (t : TypeId) (fz : Nat × Nat), W.heap[6]? = some (.cells #[.iface 203 (.pointer (some ⟨b, o, none⟩))] t fz)
theorem var_heap {W : World} {n : String} {g : Nat} {cs : Array Value} (hg : Tryz.prog.globalNamed n = some g) (h : W.var? Tryz.prog n = some cs) : ∃ t fz, W.heap[g]? = some (.cells cs t fz) := by
  simp only [World.var?, hg, Option.bind_some] at h
  split at h
  · rename_i hh; cases h; exact ⟨_, _, hh⟩
  · cases h
theorem facts_of {W : World} {r : List (String × DataW Unit)} (h : laidMet Tryz.prog (laid5 ++ r) W) : Facts W := by
  have h1 := h.tail.tail
  refine ⟨⟨rfl, ?_⟩, ?_⟩
  · have h1 : laidMet Tryz.prog (("internal/strconv.uint64pow10", Rows.laid_internal_strconv_uint64pow10) :: _) W := h1
    rw [pow_data] at h1
    exact Lib.tabIs_of_head (by kernel_rfl) t_pow Tryz.underlying155 Tryz.underlying37 c37 c155 h1
  · have h2 := h1.tail
    obtain ⟨a, s, hv, hc, _, _⟩ := laid_sentinel (tp := 203) (te := 205) (ts := 9) h2 g_range t_range Tryz.underlying75 row203 Tryz.underlying203 Tryz.underlying205 rfl rfl Tryz.underlying9 c205 c9
    obtain ⟨t, fz, hh⟩ := var_heap g_range hv
    obtain ⟨b, o, sp⟩ := a
    cases sp with
    | none => exact ⟨b, o, t, fz, hh⟩
    | some x =>
      unfold World.cell? at hc
      split at hc
      · simp at hc
      · cases hc
theorem facts5 {W : World} (h : laidMetH Tryz.prog laid5 W) : Facts W := by
  rw [MakeChecks.laidMetH_plain _ _ _ (by kernel_rfl)] at h
  exact facts_of (r := []) h
theorem facts6 {W : World} (h : laidMetH Tryz.prog laid6 W) : Facts W ∧ ∃ cs t fz, W.heap[0]? = some (.cells cs t fz) ∧ cs.size = 18 ∧ ∀ (i : Nat) s, ([[], [], [], [], [], [], [45], [33], [43], [45], [42], [61, 61], [33, 61], [60], [], [], [], []] : List (List UInt8))[i]? = some s → cs[i]? = some (.string ⟨s.toArray⟩) := by
  rw [MakeChecks.laidMetH_plain _ _ _ (by kernel_rfl)] at h
  refine ⟨facts_of h, ?_⟩
  have h1 := h.tail.tail.tail.tail.tail
  obtain ⟨ps, ⟨g0, t0, cs0, f0, p0, q0, hg0, ht0, hv0, hd0, _, _⟩, _⟩ := h1
  obtain rfl := Option.some.inj (g_signs.symm.trans hg0)
  obtain rfl := Option.some.inj (t_signs.symm.trans ht0)
  obtain ⟨t, fz, hh⟩ := var_heap g_signs hv0
  rw [signs_data] at hd0
  obtain ⟨h3, h4⟩ := strs_of_array Tryz.underlying84 Tryz.underlying9 c9 c84 rfl hd0
  exact ⟨cs0, t, fz, hh, by simpa using h3, fun i s hi => by simpa using h4 i s hi⟩
/-- Where the variables lie (and, from 8 on, what else came in). -/
def sg (b o : Nat) (r : Nat → AM.Loc) : Sg := fun i => if i = 0 then ⟨0, 0, 18, 1⟩ else if i < 7 then ⟨i, 0, 1, 1⟩ else if i = 7 then ⟨b, o, 1, 1⟩ else r (i - 8)
theorem sg_rest (b o : Nat) (r : Nat → AM.Loc) (i : Nat) : sg b o r (i + 8) = r i := by
  unfold sg
  rw [if_neg (by omega), if_neg (by omega), if_neg (by omega)]
  congr 1
theorem glOk (b o : Nat) (r : Nat → AM.Loc) {D : Nat → Prop} (hD : ∀ i, i < 8 → D i) : GlOk YtjdadagnfnaboaaGreatDoorT.tab.ng D (sg b o r) := fun g hg => by
  rw [YtjdadagnfnaboaaGreatDoorT.tab_ng] at hg
  refine ⟨hD g (by omega), ?_, ?_⟩ <;> unfold sg <;> split <;> simp_all
theorem err_row {W : World} {b o : Nat} {t : TypeId} {fz : Nat × Nat} (h : W.heap[6]? = some (.cells #[.iface 203 (.pointer (some ⟨b, o, none⟩))] t fz)) (r : Nat → AM.Loc) {D : Nat → Prop} (hD : D 7) :
    RowAt D (sg b o r) W.heap.size W (sg b o r 6) 75 1 true [.ifc 203 (.ptr 7 0)] := by
  refine ⟨⟨_, _, _, h, ?_, fun i v hv => ?_, fun h => by cases h⟩, rfl, by simp [sg], rfl, fun h => by cases h⟩
  · simp [sg]
  · match i, hv with
    | 0, hv =>
      cases hv
      refine ⟨_, rfl, .ifc _ _ _ ?_⟩
      exact .ptr (s := sg b o r) 7 0 hD
theorem signs_row {W : World} {cs : Array Value} {t : TypeId} {fz : Nat × Nat} (h : W.heap[0]? = some (.cells cs t fz)) (hz : cs.size = 18) (hc : ∀ (i : Nat) s, ([[], [], [], [], [], [], [45], [33], [43], [45], [42], [61, 61], [33, 61], [60], [], [], [], []] : List (List UInt8))[i]? = some s → cs[i]? = some (.string ⟨s.toArray⟩)) (b o : Nat) (r : Nat → AM.Loc) (D : Nat → Prop) :
    RowAt D (sg b o r) W.heap.size W (sg b o r 0) 84 1 true YtjdadagnfnaboaaGreatDoorT.signsL := by
  refine ⟨⟨_, _, _, h, ?_, fun i v hv => ?_, fun h => by cases h⟩, rfl, by simp [sg, YtjdadagnfnaboaaGreatDoorT.signsL], rfl, fun h => by cases h⟩
  · simp [sg, hz]
  · have e : YtjdadagnfnaboaaGreatDoorT.signsL = ([[], [], [], [], [], [], [45], [33], [43], [45], [42], [61, 61], [33, 61], [60], [], [], [], []] : List (List UInt8)).map V.str := rfl
    rw [e, List.getElem?_map, Option.map_eq_some_iff] at hv
    obtain ⟨s, hs, rfl⟩ := hv
    refine ⟨_, ?_, .str s⟩
    have := hc i s hs
    simpa [sg] using this
theorem in5 {W : World} {b o : Nat} {t : TypeId} {fz : Nat × Nat} (h : W.heap[6]? = some (.cells #[.iface 203 (.pointer (some ⟨b, o, none⟩))] t fz)) (r : Nat → AM.Loc) (l : List (Option Ob)) {D : Nat → Prop} (hD : D 7)
    (hl : ∀ (i : Nat) ob, l[i]? = some (some ob) → InAt D (sg b o r) W (i + 8) ob) : ∀ (i : Nat) ob, (YtjdadagnfnaboaaGreatDoorT.gl5 ++ l)[i]? = some (some ob) → InAt D (sg b o r) W i ob := fun i ob hi => by
  match i, hi with
  | 0, hi | 1, hi | 2, hi | 3, hi | 4, hi | 5, hi | 7, hi => simp [YtjdadagnfnaboaaGreatDoorT.gl5] at hi
  | 6, hi =>
    simp [YtjdadagnfnaboaaGreatDoorT.gl5, YtjdadagnfnaboaaGreatDoorT.errR] at hi
    subst hi
    exact ⟨rfl, err_row h r hD⟩
  | i + 8, hi => exact hl i ob (by simpa [YtjdadagnfnaboaaGreatDoorT.gl5] using hi)
theorem in6 {W : World} {b o : Nat} {t : TypeId} {fz : Nat × Nat} (h : W.heap[6]? = some (.cells #[.iface 203 (.pointer (some ⟨b, o, none⟩))] t fz)) {cs : Array Value} {t' : TypeId} {fz' : Nat × Nat} (h' : W.heap[0]? = some (.cells cs t' fz')) (hz : cs.size = 18) (hc : ∀ (i : Nat) s, ([[], [], [], [], [], [], [45], [33], [43], [45], [42], [61, 61], [33, 61], [60], [], [], [], []] : List (List UInt8))[i]? = some s → cs[i]? = some (.string ⟨s.toArray⟩)) (r : Nat → AM.Loc) (l : List (Option Ob)) {D : Nat → Prop} (hD : D 7)
    (hl : ∀ (i : Nat) ob, l[i]? = some (some ob) → InAt D (sg b o r) W (i + 8) ob) : ∀ (i : Nat) ob, (YtjdadagnfnaboaaGreatDoorT.gl6 ++ l)[i]? = some (some ob) → InAt D (sg b o r) W i ob := fun i ob hi => by
  match i, hi with
  | 1, hi | 2, hi | 3, hi | 4, hi | 5, hi | 7, hi => simp [YtjdadagnfnaboaaGreatDoorT.gl6] at hi
  | 0, hi =>
    simp [YtjdadagnfnaboaaGreatDoorT.gl6] at hi
    subst hi
    exact ⟨rfl, signs_row h' hz hc b o r D⟩
  | 6, hi =>
    simp [YtjdadagnfnaboaaGreatDoorT.gl6, YtjdadagnfnaboaaGreatDoorT.errR] at hi
    subst hi
    exact ⟨rfl, err_row h r hD⟩
  | i + 8, hi => exact hl i ob (by simpa [YtjdadagnfnaboaaGreatDoorT.gl6] using hi)
end Go.Proofs.YtjdadagnfnaboaaGreatDoor
