/- Parts of the abstract machine and of the walks over it, joined: what the law that is claimed here leans on. -/
import Derived.Test.YtkmkkgfdobaplaaGreatDoorAmO
import Derived.Test.YtkmkkgfdobaplaaGreatDoorAmX
import Derived.Test.YtkmkkgfdobaplaaGreatDoorAmA
import Derived.Test.YtkmkkgfdobaplaaGreatDoorAmC3
/- What the laid variables give the laws' heaps. -/
set_option linter.unusedVariables false
set_option linter.unusedSimpArgs false
set_option maxRecDepth 100000
namespace Go.Proofs.YtkmkkgfdobaplaaGreatDoor
open Go Go.ChangeShapes Go.WideShapes Go.ChangeAt Go.RowKit Go.AM
open Go.AM.YtkmkkgfdobaplaaGreatDoorT (tab okP Lev LevOk glc scopeO codeO signsT reservedT scopeT codeT signsL reservedL scopeL codeL simpleL e1 e2 e3 e4 e5 e6 mpO tab_ng)
theorem t_pow : (Tryz.prog.globals[11]?).map (·.type) = some 191 := by kernel_rfl
theorem pow_data : (Rows.laid_internal_strconv_uint64pow10 : DataW Unit) = Lib.tabData .u64 Lib.pow10Tab := by kernel_rfl
theorem c9 : Tryz.prog.cellsOf 9 = 1 := by kernel_rfl
theorem c128 : Tryz.prog.cellsOf 128 = 2 := by kernel_rfl
theorem c188 : Tryz.prog.cellsOf 188 = 1 := by kernel_rfl
theorem u9 : Tryz.prog.underlying 9 = some .string := by kernel_rfl
theorem u36 : Tryz.prog.underlying 36 = some (.slice 9) := by kernel_rfl
theorem u51 : Tryz.prog.underlying 51 = some (.int .i64) := by kernel_rfl
theorem u98 : Tryz.prog.underlying 98 = some (.array 12 9) := by kernel_rfl
theorem u99 : Tryz.prog.underlying 99 = some (.array 6 9) := by kernel_rfl
theorem u106 : Tryz.prog.underlying 106 = some (.array 22 9) := by kernel_rfl
theorem u173 : Tryz.prog.underlying 173 = some (.array 18 9) := by kernel_rfl
theorem u129 : Tryz.prog.underlying 129 = some (.array 2 128) := by kernel_rfl
theorem u188 : Tryz.prog.underlying 188 = some (.map 9 51) := by kernel_rfl
theorem u189 : Tryz.prog.underlying 189 = some (.array 3 188) := by kernel_rfl
theorem u128 : ∃ f0 f1 : Field, Tryz.prog.underlying 128 = some (.struct #[f0, f1]) ∧ Tryz.prog.underlying f0.type = some .string ∧ Tryz.prog.cellsOf f0.type = 1 ∧ f0.offset = 0 ∧ Tryz.prog.underlying f1.type = some (.int .i64) ∧ Tryz.prog.cellsOf f1.type = 1 ∧ f1.offset = 1 :=
  ⟨_, _, Tryz.underlying128, by kernel_rfl, by kernel_rfl, by kernel_rfl, by kernel_rfl, by kernel_rfl, by kernel_rfl⟩
/-- An array of texts, laid. -/
def Strs (W : World) (g : Nat) (T : List (List UInt8)) : Prop := ∃ C t fz, W.heap[g]? = some (.cells C t fz) ∧ C.size = T.length ∧ ∀ (i : Nat) s, T[i]? = some s → C[i]? = some (.string ⟨s.toArray⟩)
theorem strs_at {W : World} {l : LL} {k g t n : Nat} {nm : String} {T : List (List UInt8)} {d : DataW Unit} (h : laidMet Tryz.prog l W) (hx : l[k]? = some (nm, d)) (hd : d = .agg (T.map fun s => .lit (.string s))) (hg : Tryz.prog.globalNamed nm = some g) (ht : (Tryz.prog.globals[g]?).map (·.type) = some t)
    (hu : Tryz.prog.underlying t = some (.array n 9)) (hc : Tryz.prog.cellsOf t = T.length) : Strs W g T := by
  obtain ⟨C, ty, fz, f, p, h1, h2⟩ := laid_at h hx hg ht
  rw [hd] at h2
  obtain ⟨h3, h4⟩ := arr_strs hu u9 c9 h2
  exact ⟨C, ty, fz, h1, by rw [← hc]; simpa using h3, fun i s hi => by simpa using h4 i s hi⟩
/-- A slice of texts, laid. -/
def Sls (W : World) (g : Nat) (T : List (List UInt8)) : Prop := ∃ C t fz b off, W.heap[g]? = some (.cells C t fz) ∧ C.size = 1 ∧ C[0]? = some (.slice (some ⟨b, off, none⟩) T.length T.length) ∧ ∀ (i : Nat) s, T[i]? = some s → W.cell? ⟨b, off + i, none⟩ = some (.string ⟨s.toArray⟩)
theorem sls_at {W : World} {l : LL} {k g : Nat} {nm : String} {T : List (List UInt8)} {d : DataW Unit} (h : laidMet Tryz.prog l W) (hx : l[k]? = some (nm, d)) (hd : d = .slice (T.map fun s => .lit (.string s)) []) (hT : T ≠ []) (hg : Tryz.prog.globalNamed nm = some g) (ht : (Tryz.prog.globals[g]?).map (·.type) = some 36) : Sls W g T := by
  obtain ⟨C, ty, fz, f, p, h1, h2⟩ := laid_at h hx hg ht
  rw [hd] at h2
  obtain ⟨b, off, h3, h4⟩ := slice_strs u36 u9 c9 hT h2
  have hC : C = #[.slice (some ⟨b, off, none⟩) T.length T.length] := by cases C; simp at h3; simp [h3]
  subst hC
  exact ⟨_, ty, fz, b, off, h1, rfl, rfl, h4⟩
def simpleT : List (List UInt8 × Int) := [([114, 101, 116, 117, 114, 110], 5), ([116, 104, 114, 111, 119], 6)]
def Prs (W : World) : Prop := ∃ C t fz, W.heap[5]? = some (.cells C t fz) ∧ C.size = 4 ∧ ∀ (i : Nat) v, simpleL[i]? = some v → ∃ x, C[i]? = some x ∧ ∀ D s, Rv D s v x
theorem prs_at {W : World} {l : LL} {k : Nat} {nm : String} {d : DataW Unit} (h : laidMet Tryz.prog l W) (hx : l[k]? = some (nm, d)) (hd : d = .agg (simpleT.map fun s => .agg [.lit (.string s.1), .lit (.int .i64 s.2)])) (hg : Tryz.prog.globalNamed nm = some 5) (ht : (Tryz.prog.globals[5]?).map (·.type) = some 129) (hc : Tryz.prog.cellsOf 129 = 4) : Prs W := by
  obtain ⟨C, ty, fz, f, p, h1, h2⟩ := laid_at h hx hg ht
  rw [hd] at h2
  obtain ⟨f0, f1, a0, a1, a2, a3, a4, a5, a6⟩ := u128
  obtain ⟨h3, h4⟩ := arr_pairs u129 a0 c128 a1 a2 a3 a4 a5 a6 h2
  refine ⟨C, ty, fz, h1, by rw [← hc]; simpa using h3, fun i v hi => ?_⟩
  have b0 := h4 0 _ rfl
  have b1 := h4 1 _ rfl
  simp at b0 b1
  match i, hi with
  | 0, hi => cases hi; exact ⟨_, b0.1, fun D s => .str _⟩
  | 1, hi => cases hi; exact ⟨_, b0.2, fun D s => .int _ _⟩
  | 2, hi => cases hi; exact ⟨_, b1.1, fun D s => .str _⟩
  | 3, hi => cases hi; exact ⟨_, b1.2, fun D s => .int _ _⟩
/-- The maps of parse.levels. -/
structure Lvs (W : World) (M : Lev) (x y z : Nat) : Prop where
  ok : LevOk M
  row : ∃ C t fz, W.heap[10]? = some (.cells C t fz) ∧ C.size = 3 ∧ C[0]? = some (.map (some x)) ∧ C[1]? = some (.map (some y)) ∧ C[2]? = some (.map (some z))
  a : ∃ ents, W.heap[x]? = some (.map ents M.ca) ∧ ∀ D s, EsOk D s M.a ents.toList
  b : ∃ ents, W.heap[y]? = some (.map ents M.cb) ∧ ∀ D s, EsOk D s M.b ents.toList
  c : ∃ ents, W.heap[z]? = some (.map ents M.cc) ∧ ∀ D s, EsOk D s M.c ents.toList
def D0 : List (List UInt8 × Int) := [([33, 61], 12), ([60], 13), ([61, 61], 11)]
def D1 : List (List UInt8 × Int) := [([43], 8), ([45], 9)]
def D2 : List (List UInt8 × Int) := [([42], 10)]
theorem lvs_at {W : World} {l : LL} {k : Nat} {nm : String} {d : DataW Unit} (h : laidMet Tryz.prog l W) (hx : l[k]? = some (nm, d)) (hd : d = .agg [.map (D0.map fun x => (.string x.1, .lit (.int .i64 x.2))), .map (D1.map fun x => (.string x.1, .lit (.int .i64 x.2))), .map (D2.map fun x => (.string x.1, .lit (.int .i64 x.2)))])
    (hg : Tryz.prog.globalNamed nm = some 10) (ht : (Tryz.prog.globals[10]?).map (·.type) = some 189) (hc : Tryz.prog.cellsOf 189 = 3) : ∃ M x y z, Lvs W M x y z := by
  obtain ⟨C, ty, fz, f, p, h1, h2⟩ := laid_at h hx hg ht
  rw [hd] at h2
  obtain ⟨h3, _, h4⟩ := arr_open u189 h2
  rw [hc] at h3
  obtain ⟨m0, q0, g0⟩ := h4 0 _ rfl
  obtain ⟨m1, q1, g1⟩ := h4 1 _ rfl
  obtain ⟨m2, q2, g2⟩ := h4 2 _ rfl
  rw [c188] at g0 g1 g2
  obtain ⟨x, ca, en0, L0, a0, a1, a2, a3⟩ := map_ents u188 u9 u51 g0
  obtain ⟨y, cb, en1, L1, b0, b1, b2, b3⟩ := map_ents u188 u9 u51 g1
  obtain ⟨z, cc, en2, L2, c0, c1, c2, c3⟩ := map_ents u188 u9 u51 g2
  have k0 := one_at a0
  have k1 := one_at b0
  have k2 := one_at c0
  refine ⟨⟨L0.map (Ent.es .i64), L1.map (Ent.es .i64), L2.map (Ent.es .i64), ca, cb, cc⟩, x, y, z, ⟨?_, ?_, ?_⟩, ⟨C, ty, fz, h1, by simpa using h3, by simpa using k0, by simpa using k1, by simpa using k2⟩, ⟨en0, a1, fun D s => a2 ▸ esOk_of D s _ L0⟩, ⟨en1, b1, fun D s => b2 ▸ esOk_of D s _ L1⟩, ⟨en2, c1, fun D s => c2 ▸ esOk_of D s _ L2⟩⟩
  · have hl := a3.length_eq
    match L0, a3, hl with
    | [p, q, r], a3, _ =>
      obtain ⟨p0, p1, p2⟩ := p
      obtain ⟨q0, q1, q2⟩ := q
      obtain ⟨r0, r1, r2⟩ := r
      have := perm3 a3
      simp only [Prod.mk.injEq] at this
      rcases this with ⟨⟨rfl, rfl⟩, ⟨rfl, rfl⟩, rfl, rfl⟩ | ⟨⟨rfl, rfl⟩, ⟨rfl, rfl⟩, rfl, rfl⟩ | ⟨⟨rfl, rfl⟩, ⟨rfl, rfl⟩, rfl, rfl⟩ | ⟨⟨rfl, rfl⟩, ⟨rfl, rfl⟩, rfl, rfl⟩ | ⟨⟨rfl, rfl⟩, ⟨rfl, rfl⟩, rfl, rfl⟩ | ⟨⟨rfl, rfl⟩, ⟨rfl, rfl⟩, rfl, rfl⟩
      · exact ⟨p2, q2, r2, .inl rfl⟩
      · exact ⟨p2, r2, q2, .inr (.inl rfl)⟩
      · exact ⟨q2, p2, r2, .inr (.inr (.inl rfl))⟩
      · exact ⟨r2, p2, q2, .inr (.inr (.inr (.inl rfl)))⟩
      · exact ⟨q2, r2, p2, .inr (.inr (.inr (.inr (.inl rfl))))⟩
      · exact ⟨r2, q2, p2, .inr (.inr (.inr (.inr (.inr rfl))))⟩
  · have hl := b3.length_eq
    match L1, b3, hl with
    | [p, q], b3, _ =>
      obtain ⟨p0, p1, p2⟩ := p
      obtain ⟨q0, q1, q2⟩ := q
      have := perm2 b3
      simp only [Prod.mk.injEq] at this
      rcases this with ⟨⟨rfl, rfl⟩, rfl, rfl⟩ | ⟨⟨rfl, rfl⟩, rfl, rfl⟩
      · exact ⟨p2, q2, .inl rfl⟩
      · exact ⟨q2, p2, .inr rfl⟩
  · have hl := c3.length_eq
    match L2, c3, hl with
    | [p], c3, _ =>
      obtain ⟨p0, p1, p2⟩ := p
      have := c3.subset (List.mem_singleton.2 rfl)
      simp only [D2, List.mem_singleton, Prod.mk.injEq] at this
      obtain ⟨rfl, rfl⟩ := this
      exact ⟨p2, rfl⟩
/-- What is known of the world of a law of this seat. -/
structure Facts (W : World) (M : Lev) (x y z : Nat) : Prop where
  init : tab.init W.heap.size W
  signs : Strs W 7 signsT
  res : Strs W 1 reservedT
  lvs : Lvs W M x y z
  simple : Prs W
theorem facts {W : World} {r : LL} {k2 k5 k6 k7 k8 : Nat} (h : laidMet Tryz.prog r W) (h2 : r[2]? = some ("internal/strconv.uint64pow10", Rows.laid_internal_strconv_uint64pow10)) (hr : r.drop 2 = ("internal/strconv.uint64pow10", Rows.laid_internal_strconv_uint64pow10) :: r.drop 3)
    (h5 : r[k5]? = some ("paling/tree.signs", Rows.laid_paling_tree_signs)) (h6 : r[k6]? = some ("paling/parse.reserved", Rows.laid_paling_parse_reserved)) (h7 : r[k7]? = some ("paling/parse.levels", Rows.laid_paling_parse_levels)) (h8 : r[k8]? = some ("paling/parse.simple", Rows.laid_paling_parse_simple)) : ∃ M x y z, Facts W M x y z := by
  obtain ⟨M, x, y, z, hl⟩ := lvs_at h h7 rfl (by kernel_rfl) (by kernel_rfl) (by kernel_rfl)
  refine ⟨M, x, y, z, ⟨rfl, ?_⟩, strs_at h h5 rfl (by kernel_rfl) (by kernel_rfl) u173 (by kernel_rfl), strs_at h h6 rfl (by kernel_rfl) (by kernel_rfl) u98 (by kernel_rfl), hl, prs_at h h8 rfl (by kernel_rfl) (by kernel_rfl) (by kernel_rfl)⟩
  have hd : laidMet Tryz.prog (r.drop 2) W := by
    match r, h2, h with
    | a :: b :: r', _, h => exact h.tail.tail
  rw [hr, pow_data] at hd
  exact Lib.tabIs_of_head (n := 20) (e := 150) (by kernel_rfl) t_pow (by kernel_rfl) (by kernel_rfl) (by kernel_rfl) (by kernel_rfl) hd
/-- Where the variables lie, the three maps, and (from 19 on) what else came in. -/
def szg (i : Nat) : Nat := if i = 1 then 12 else if i = 2 then 6 else if i = 3 then 22 else if i = 5 then 4 else if i = 7 then 18 else if i = 10 then 3 else 1
def sg (x y z : Nat) (r : Nat → AM.Loc) : Sg := fun i => if i < 16 then ⟨i, 0, szg i, 1⟩ else if i = 16 then ⟨x, 0, 0, 0⟩ else if i = 17 then ⟨y, 0, 0, 0⟩ else if i = 18 then ⟨z, 0, 0, 0⟩ else r (i - 19)
theorem sg_rest (x y z : Nat) (r : Nat → AM.Loc) (i : Nat) : sg x y z r (i + 19) = r i := by
  unfold sg
  rw [if_neg (by omega), if_neg (by omega), if_neg (by omega), if_neg (by omega)]
  congr 1
theorem glOk (x y z : Nat) (r : Nat → AM.Loc) {D : Nat → Prop} (hD : ∀ i, i < 19 → D i) : GlOk tab.ng D (sg x y z r) := fun g hg => by
  rw [tab_ng] at hg
  refine ⟨hD g (by omega), ?_, ?_⟩ <;> unfold sg <;> rw [if_pos hg]
theorem strs_row {W : World} {g : Nat} {T : List (List UInt8)} (h : Strs W g T) {D : Nat → Prop} {s : Sg} {e : TypeId} {n : Nat} (hn : T.length = n) : RowAt D s W.heap.size W ⟨g, 0, n, 1⟩ e 1 true (T.map V.str) := by
  obtain ⟨C, t, fz, h1, h2, h3⟩ := h
  refine row_glob h1 (by omega) (by simp; omega) (List.all_eq_true.2 fun v hv => by obtain ⟨s, _, rfl⟩ := List.mem_map.1 hv; rfl) fun i v hv => ?_
  rw [List.getElem?_map, Option.map_eq_some_iff] at hv
  obtain ⟨w, hw, rfl⟩ := hv
  exact ⟨_, h3 i w hw, .str _⟩
theorem sls_rows {W : World} {g k : Nat} {T : List (List UInt8)} (h : Sls W g T) (hT : T ≠ []) : ∃ L : AM.Loc, ∀ (D : Nat → Prop) (s : Sg) (e e' : TypeId), D k → s k = L → RowAt D s W.heap.size W ⟨g, 0, 1, 1⟩ e 1 true [.sl k 0 T.length none 1] ∧ RowAt D s W.heap.size W L e' 1 true (T.map V.str) := by
  obtain ⟨C, t, fz, b, off, h1, h2, h3, h4⟩ := h
  have hpos : 0 < T.length := List.length_pos_iff.2 hT
  refine ⟨⟨b, off, T.length, 1⟩, fun D s e e' hD hs => ⟨row_glob h1 (by omega) (by simp) rfl fun i v hv => ?_, row_cells (by omega) (fun i hi => ?_) (by simp) (List.all_eq_true.2 fun v hv => by obtain ⟨s, _, rfl⟩ := List.mem_map.1 hv; rfl) fun i v hv => ?_⟩⟩
  · match i, hv with
    | 0, hv =>
      cases hv
      refine ⟨_, h3, ?_⟩
      have := Rv.sln (D := D) (s := s) k 0 T.length 1 hD (by rw [hs]) (by omega) (by omega) (by rw [hs]; simp)
      rw [hs] at this
      simpa using this
  · exact ⟨_, h4 i _ (List.getElem?_eq_getElem (by omega))⟩
  · rw [List.getElem?_map, Option.map_eq_some_iff] at hv
    obtain ⟨w, hw, rfl⟩ := hv
    exact ⟨_, h4 i w hw, .str _⟩
theorem inC {W : World} {M : Lev} {x y z : Nat} (F : Facts W M x y z) {o0 o2 o3 o4 : Option Ob} {r : Nat → AM.Loc} {l : List (Option Ob)} {D : Nat → Prop} (hD : ∀ i, i < 19 → D i) (h0 : ∀ o, o0 = some o → InAt D (sg x y z r) W 0 o) (h2 : ∀ o, o2 = some o → InAt D (sg x y z r) W 2 o) (h3 : ∀ o, o3 = some o → InAt D (sg x y z r) W 3 o) (h4 : ∀ o, o4 = some o → InAt D (sg x y z r) W 4 o)
    (hl : ∀ (i : Nat) o, l[i]? = some (some o) → InAt D (sg x y z r) W (i + 19) o) : ∀ (i : Nat) o, (glc o0 o2 o3 o4 M l)[i]? = some (some o) → InAt D (sg x y z r) W i o := fun i o hi => by
  match i, hi with
  | 0, hi => exact h0 o (by simpa [glc] using hi)
  | 2, hi => exact h2 o (by simpa [glc] using hi)
  | 3, hi => exact h3 o (by simpa [glc] using hi)
  | 4, hi => exact h4 o (by simpa [glc] using hi)
  | 6, hi | 8, hi | 9, hi | 11, hi | 12, hi | 13, hi | 14, hi | 15, hi => simp [glc] at hi
  | 1, hi =>
    simp [glc] at hi; subst hi
    exact ⟨rfl, strs_row F.res rfl⟩
  | 7, hi =>
    simp [glc] at hi; subst hi
    exact ⟨rfl, strs_row F.signs rfl⟩
  | 5, hi =>
    simp [glc] at hi; subst hi
    obtain ⟨C, t, fz, g1, g2, g3⟩ := F.simple
    exact ⟨rfl, row_glob g1 (by show 4 ≤ _; omega) (by decide) rfl fun i v hv => by obtain ⟨w, hw, hR⟩ := g3 i v hv; exact ⟨w, hw, hR _ _⟩⟩
  | 10, hi =>
    simp [glc] at hi; subst hi
    obtain ⟨C, t, fz, g1, g2, g3, g4, g5⟩ := F.lvs.row
    refine ⟨rfl, row_glob g1 (by show 3 ≤ _; omega) (by decide) rfl fun i v hv => ?_⟩
    match i, hv with
    | 0, hv => cases hv; exact ⟨_, g3, Rv.mp (s := sg x y z r) 16 (hD 16 (by omega))⟩
    | 1, hv => cases hv; exact ⟨_, g4, Rv.mp (s := sg x y z r) 17 (hD 17 (by omega))⟩
    | 2, hv => cases hv; exact ⟨_, g5, Rv.mp (s := sg x y z r) 18 (hD 18 (by omega))⟩
  | 16, hi =>
    simp [glc, mpO] at hi; subst hi
    obtain ⟨en, g1, g2⟩ := F.lvs.a
    exact ⟨rfl, en, g1, g2 _ _⟩
  | 17, hi =>
    simp [glc, mpO] at hi; subst hi
    obtain ⟨en, g1, g2⟩ := F.lvs.b
    exact ⟨rfl, en, g1, g2 _ _⟩
  | 18, hi =>
    simp [glc, mpO] at hi; subst hi
    obtain ⟨en, g1, g2⟩ := F.lvs.c
    exact ⟨rfl, en, g1, g2 _ _⟩
  | i + 19, hi => exact hl i o (by simpa [glc] using hi)
/-- A law's walk is a call. -/
theorem topC {W : World} {M : Lev} {x y z : Nat} (F : Facts W M x y z) {o0 o2 o3 o4 : Option Ob} {r : Nat → AM.Loc} {l : List (Option Ob)} {f : FuncId} {vs : List V} {args : Array Value}
    (h0 : ∀ o, o0 = some o → InAt (dO (glc o0 o2 o3 o4 M l)) (sg x y z r) W 0 o) (h2 : ∀ o, o2 = some o → InAt (dO (glc o0 o2 o3 o4 M l)) (sg x y z r) W 2 o) (h3 : ∀ o, o3 = some o → InAt (dO (glc o0 o2 o3 o4 M l)) (sg x y z r) W 3 o) (h4 : ∀ o, o4 = some o → InAt (dO (glc o0 o2 o3 o4 M l)) (sg x y z r) W 4 o)
    (hl : ∀ (i : Nat) o, l[i]? = some (some o) → InAt (dO (glc o0 o2 o3 o4 M l)) (sg x y z r) W (i + 19) o) (hr : RvL (dO (glc o0 o2 o3 o4 M l)) (sg x y z r) vs args.toList)
    (h : WF tab f vs (hO (glc o0 o2 o3 o4 M l)) fun v _ => v = .bool true) : Calls Tryz.prog f args W fun e w' => e = .returned (.bool true) ∧ Below W.heap.size W w' := by
  have hD : ∀ i, i < 19 → dO (glc o0 o2 o3 o4 M l) i := fun i hi => by show i < _; simp [glc]; omega
  exact topO okP F.init (glOk x y z r hD) (inC F hD h0 h2 h3 h4 hl) hr h
end Go.Proofs.YtkmkkgfdobaplaaGreatDoor
/- What each law's own list of laid variables gives. -/
set_option linter.unusedVariables false
set_option linter.unusedSimpArgs false
set_option maxRecDepth 100000
namespace Go.Proofs.YtkmkkgfdobaplaaGreatDoor
open Go Go.ChangeShapes Go.WideShapes Go.ChangeAt Go.RowKit Go.AM
open Go.AM.YtkmkkgfdobaplaaGreatDoorT (tab okP Lev LevOk glc scopeO codeO signsT reservedT scopeT codeT signsL reservedL scopeL codeL simpleL e1 e2 e3 e4 e5 e6 mpO tab_ng)
theorem facts7 {W : World} (h : laidMetH Tryz.prog laid7 W) : ∃ M x y z, Facts W M x y z := by
  rw [MakeChecks.laidMetH_plain _ _ _ (by kernel_rfl)] at h
  exact facts (k2 := 2) (k5 := 5) (k6 := 6) (k7 := 7) (k8 := 8) h rfl rfl rfl rfl rfl rfl
theorem facts7w {W : World} (h : laidMetH Tryz.prog laid7w W) : (∃ M x y z, Facts W M x y z) ∧ Sls W 0 reservedT := by
  rw [MakeChecks.laidMetH_plain _ _ _ (by kernel_rfl)] at h
  exact ⟨facts (k2 := 2) (k5 := 5) (k6 := 6) (k7 := 7) (k8 := 8) h rfl rfl rfl rfl rfl rfl, sls_at (k := 9) h rfl rfl (by decide) (by kernel_rfl) (by kernel_rfl)⟩
theorem facts8 {W : World} (h : laidMetH Tryz.prog laid8 W) : (∃ M x y z, Facts W M x y z) ∧ Strs W 2 scopeT := by
  rw [MakeChecks.laidMetH_plain _ _ _ (by kernel_rfl)] at h
  exact ⟨facts (k2 := 2) (k5 := 5) (k6 := 6) (k7 := 7) (k8 := 8) h rfl rfl rfl rfl rfl rfl, strs_at (k := 9) h rfl rfl (by kernel_rfl) (by kernel_rfl) u99 (by kernel_rfl)⟩
theorem facts9 {W : World} (h : laidMetH Tryz.prog laid9 W) : (∃ M x y z, Facts W M x y z) ∧ Strs W 2 scopeT ∧ Strs W 3 codeT := by
  rw [MakeChecks.laidMetH_plain _ _ _ (by kernel_rfl)] at h
  exact ⟨facts (k2 := 2) (k5 := 6) (k6 := 7) (k7 := 8) (k8 := 9) h rfl rfl rfl rfl rfl rfl, strs_at (k := 10) h rfl rfl (by kernel_rfl) (by kernel_rfl) u99 (by kernel_rfl), strs_at (k := 5) h rfl rfl (by kernel_rfl) (by kernel_rfl) u106 (by kernel_rfl)⟩
theorem facts9w {W : World} (h : laidMetH Tryz.prog laid9w W) : (∃ M x y z, Facts W M x y z) ∧ Strs W 2 scopeT ∧ Strs W 3 codeT ∧ Sls W 4 codeT := by
  rw [MakeChecks.laidMetH_plain _ _ _ (by kernel_rfl)] at h
  exact ⟨facts (k2 := 2) (k5 := 6) (k6 := 7) (k7 := 8) (k8 := 9) h rfl rfl rfl rfl rfl rfl, strs_at (k := 10) h rfl rfl (by kernel_rfl) (by kernel_rfl) u99 (by kernel_rfl), strs_at (k := 5) h rfl rfl (by kernel_rfl) (by kernel_rfl) u106 (by kernel_rfl), sls_at (k := 11) h rfl rfl (by decide) (by kernel_rfl) (by kernel_rfl)⟩
theorem no_in {D : Nat → Prop} {s : Sg} {W : World} {i : Nat} : ∀ o, (none : Option Ob) = some o → InAt D s W i o := fun o h => by cases h
theorem scope_in {W : World} (h : Strs W 2 scopeT) {D : Nat → Prop} {x y z : Nat} {r : Nat → AM.Loc} : ∀ o, scopeO = some o → InAt D (sg x y z r) W 2 o := fun o e => by
  cases e; exact ⟨rfl, strs_row h rfl⟩
theorem code_in {W : World} (h : Strs W 3 codeT) {D : Nat → Prop} {x y z : Nat} {r : Nat → AM.Loc} : ∀ o, codeO = some o → InAt D (sg x y z r) W 3 o := fun o e => by
  cases e; exact ⟨rfl, strs_row h rfl⟩
def pad (l : List (Option Ob)) : List (Option Ob) := l ++ List.replicate (6 - l.length) none
theorem no_rest {D : Nat → Prop} {s : Sg} {W : World} : ∀ (i : Nat) o, ([none, none, none, none, none, none] : List (Option Ob))[i]? = some (some o) → InAt D s W (i + 19) o := fun i o h => by
  match i, h with
  | 0, h | 1, h | 2, h | 3, h | 4, h | 5, h => simp at h
  | i + 6, h => simp at h
end Go.Proofs.YtkmkkgfdobaplaaGreatDoor
/- Walks, as calls: what they share. -/
set_option linter.unusedVariables false
set_option linter.unusedSimpArgs false
set_option maxRecDepth 100000
namespace Go.Proofs.YtkmkkgfdobaplaaGreatDoor
open Go Go.ChangeShapes Go.WideShapes Go.ChangeAt Go.RowKit Go.AM
open Go.AM.YtkmkkgfdobaplaaGreatDoorT (tab okP Lev LevOk glc scopeO codeO signsT reservedT scopeT codeT signsL reservedL scopeL codeL simpleL)
abbrev Won (f : FuncId) (args : Array Value) (W : World) : Prop := Calls Tryz.prog f args W fun e w' => e = .returned (.bool true) ∧ Below W.heap.size W w'
theorem glc_len (o0 o2 o3 o4 : Option Ob) (M : Lev) (x1 x2 x3 x4 x5 x6 : Option Ob) : (glc o0 o2 o3 o4 M [x1, x2, x3, x4, x5, x6]).length = 25 := rfl
theorem sl_rest {D : Nat → Prop} {s : Sg} {W : World} {o1 : Ob} (h : InAt D s W 19 o1) : ∀ (i : Nat) o, ([some o1, none, none, none, none, none] : List (Option Ob))[i]? = some (some o) → InAt D s W (i + 19) o := fun i o hi => by
  match i, hi with
  | 0, hi => cases hi; exact h
  | 1, hi | 2, hi | 3, hi | 4, hi | 5, hi => simp at hi
  | i + 6, hi => simp at hi
end Go.Proofs.YtkmkkgfdobaplaaGreatDoor
