/- The operations that read. -/
import Derived.Test.YtaenhbfgfhhbcaaAmSat
import Derived.Laws.StructEq
set_option linter.unusedVariables false
set_option linter.unusedSimpArgs false
namespace Go.AM
open Go Go.RowKit
section
variable {T : Tab} {P : Program} {D : Nat → Prop} {s : Sg} {n0 : Nat} {w0 w : World} {H : Hp}

theorem RvL.of_get : ∀ {vs : List V} {xs : List Value}, vs.length = xs.length → (∀ (i : Nat) (v : V), vs[i]? = some v → ∃ x, xs[i]? = some x ∧ Rv D s v x) → RvL D s vs xs
  | [], [], _, _ => .nil
  | [], _ :: _, h, _ => by simp at h
  | _ :: _, [], h, _ => by simp at h
  | v :: vs, x :: xs, h, hg => by
    obtain ⟨x', hx, hr⟩ := hg 0 v (by simp)
    simp at hx
    subst hx
    exact .cons _ _ _ _ hr (RvL.of_get (by simpa using h) fun i v' hv => by
      obtain ⟨y, hy, hr'⟩ := hg (i + 1) v' (by simpa using hv)
      exact ⟨y, by simpa using hy, hr'⟩)
/-- The row's values, as they lie in the world. -/
theorem RowAt.vals {L : Loc} {sz : Nat} {ro : Bool} {cs : List V} (h : RowAt D s n0 w L sz ro cs) : ∃ xs : List Value, RvL D s cs xs ∧ ∀ i x, xs[i]? = some x → w.cell? ⟨L.b, L.base + i, none⟩ = some x := by
  obtain ⟨⟨C, et, fz, h1, h2, h3, h4⟩, h5, h6, h7, h8⟩ := h
  refine ⟨(C.toList.drop L.base).take cs.length, RvL.of_get ?_ ?_, ?_⟩
  · simp only [List.length_take, List.length_drop, Array.length_toList]; omega
  · intro i v hv
    obtain ⟨x, hx, hr⟩ := h3 i v hv
    have hlt : i < cs.length := (List.getElem?_eq_some_iff.1 hv).1
    refine ⟨x, ?_, hr⟩
    rw [List.getElem?_take, if_pos hlt, List.getElem?_drop, Array.getElem?_toList]
    exact hx
  · intro i x hx
    rw [List.getElem?_take] at hx
    split at hx
    · rw [List.getElem?_drop, Array.getElem?_toList] at hx
      simp [World.cell?, h1, hx]
    · cases hx
theorem load_agg (hT : TabOk T P) {t : TypeId} {i : TI} (hi : T.ty t = some i) (ha : isAgg i.desc = true) (a : Addr) (xs : List Value) (hl : xs.length = i.size) (hc : ∀ j x, xs[j]? = some x → w.cell? (a.add j) = some x) :
    (loadVar t a).run P w = .ok (.agg xs.toArray) w := by
  have := run_loadCells_list (P := P) (w := w) a xs hc
  simp [loadVar, agg_of hT hi, ha, size_of hT hi, ← hl, this]
theorem load_ok (hT : TabOk T P) (hS : Sat n0 w0 D s H w) {t : TypeId} {b off : Nat} {x : Value} {e : TypeId} {sz : Nat} {ro : Bool} {cs : List V} {v : V} (hx : Rv D s (.ptr b off) x) (hg : H.get b = some (.row e sz ro cs)) (h : partV T t cs off = some v) :
    Cm D s ((Instr.loadAt t x).run P w) w v := by
  cases hx with
  | ptr b off hD =>
    obtain ⟨xs, hr, hc⟩ := (hS.row b e sz ro cs hD hg).vals
    have hone := (hS.row b e sz ro cs hD hg).one
    unfold partV at h
    split at h
    · rename_i i hi
      split at h
      · rename_i ha
        split at h
        · rename_i hl
          cases h
          have hlen := hr.length
          refine .mk (.agg _ ((xs.drop off).take i.size).toArray (by simpa using (hr.drop off).take i.size) ?_) ?_
          · rw [List.all_eq_true] at hone ⊢
            exact fun c hc => hone c (List.mem_of_mem_drop (List.mem_of_mem_take hc))
          · simp only [Instr.loadAt, Instr.sureAddr, Sem.run_bind, Sem.run_pure, Result.andThen_ok]
            refine load_agg hT hi ha _ _ (by simp only [List.length_take, List.length_drop]; omega) fun j y hy => ?_
            rw [List.getElem?_take] at hy
            split at hy
            · rw [List.getElem?_drop] at hy
              rw [add_off]
              exact hc _ _ hy
            · cases hy
        · cases h
      · rename_i ha
        obtain ⟨y, hy, hr'⟩ := hr.get _ _ h
        refine .mk hr' ?_
        simp [Instr.loadAt, Instr.sureAddr, loadVar, agg_of hT hi, ha, hc _ _ hy]
    · cases h

theorem sameNow_ok {t : TypeId} {d : TypeDesc} (hT : TabOk T P) {k k' : V} {x x' : Value} {b : Bool} (hk : keyOk1 T t k = true) (hu : P.underlying t = some d) (hx : Rv D s k x) (hx' : Rv D s k' x') (h : sameK k k' = some b) : Instr.sameNow d x x' = some b := by
  cases k <;> simp [keyOk1] at hk
  case bool a =>
    split at hk <;> try (cases hk; done)
    rename_i hd
    obtain ⟨d', e1, e2⟩ := und_of hT hd
    rw [hu] at e1; cases e1
    cases d <;> simp [DsOk] at e2
    cases k' <;> simp [sameK, same1] at h
    cases hx; cases hx'; subst h; rfl
  case int kk n =>
    split at hk <;> try (cases hk; done)
    rename_i hd
    obtain ⟨d', e1, e2⟩ := und_of hT hd
    rw [hu] at e1; cases e1
    cases d <;> simp [DsOk] at e2
    cases k' <;> simp [sameK, same1] at h
    cases hx; cases hx'; obtain ⟨rfl, rfl⟩ := h; simp [Instr.sameNow]
  case str l =>
    split at hk <;> try (cases hk; done)
    rename_i hd
    obtain ⟨d', e1, e2⟩ := und_of hT hd
    rw [hu] at e1; cases e1
    cases d <;> simp [DsOk] at e2
    cases k' <;> simp [sameK, same1] at h
    cases hx; cases hx'; subst h
    simp only [Instr.sameNow, beq_toListBytes, toList_mk]
/-- What findE tells, findKey comes to. -/
theorem findNow_ok {t : TypeId} {d : TypeDesc} (hT : TabOk T P) {k : V} {x : Value} (hk : keyOk1 T t k = true) (hu : P.underlying t = some d) (hx : Rv D s k x) : ∀ {es : List (V × V × Nat)} {fs : List MapEntry} (i : Nat) {r : Option (Nat × V)}, EsOk D s es fs → findE k es i = some r →
    (match r with | none => Instr.findNow d x fs i = some none | some (j, v) => ∃ y, Instr.findNow d x fs i = some (some (j, y)) ∧ Rv D s v y)
  | _, _, i, r, .nil, h => by simp only [findE] at h; cases h; rfl
  | _, _, i, r, .cons k' v n x' y es fs h1 h2 h3, h => by
    simp only [findE] at h
    split at h
    · rename_i hs
      cases h
      exact ⟨y, by simp [Instr.findNow, sameNow_ok hT hk hu hx h1 hs], h2⟩
    · rename_i hs
      have := findNow_ok hT hk hu hx (i + 1) h3 h
      simp only [Instr.findNow, sameNow_ok hT hk hu hx h1 hs]
      exact this
    · cases h
theorem checkKey_ok {t : TypeId} (hT : TabOk T P) {k : V} {x : Value} (hk : keyOk1 T t k = true) (hx : Rv D s k x) (e : Bool) (n : Nat) : (Instr.checkKey e (n + 1) t x).run P w = .ok () w := by
  cases k <;> simp [keyOk1] at hk
  all_goals
    split at hk <;> try (cases hk; done)
    rename_i hd
    obtain ⟨d', e1, e2⟩ := und_of hT hd
    cases hx
    cases d' <;> simp [DsOk] at e2
    simp [Instr.checkKey, run_underlying e1]
theorem checkFields_ok (hT : TabOk T P) (em : Bool) (n : Nat) {xs : Array Value} (w : World) : ∀ (fs : List Field) (m : Nat) (cs : List V), keyOkL T (fs.map fun f => (f.offset, f.type)) cs m = true → (∀ i v, cs[i]? = some v → ∃ x, xs[m + i]? = some x ∧ Rv D s v x) →
    (forIn fs PUnit.unit (fun f (r : PUnit) => (do
      if f.name ≠ "_" then do
        let y ← part f.type xs f.offset
        Instr.checkKey em (n + 1) f.type y
        pure (ForInStep.yield PUnit.unit)
      else do
        pure (ForInStep.yield PUnit.unit) : Sem (ForInStep PUnit)))).run P w = .ok PUnit.unit w
  | [], _, _, _, _ => by simp
  | f :: fs, m, [], hk, _ => by simp [keyOkL] at hk
  | f :: fs, m, v :: cs, hk, hx => by
    simp only [List.map_cons, keyOkL, Bool.and_eq_true, beq_iff_eq] at hk
    obtain ⟨⟨e, hk1⟩, hk2⟩ := hk
    subst e
    obtain ⟨x, hx1, hx2⟩ := hx 0 v (by simp)
    simp only [Nat.add_zero] at hx1
    have ih := checkFields_ok hT em n w fs (f.offset + 1) cs hk2 (fun i u hu => by have := hx (i + 1) u (by simpa using hu); rwa [show f.offset + (i + 1) = f.offset + 1 + i from by omega] at this)
    rw [List.forIn_cons]
    by_cases hn : f.name ≠ "_"
    · simp only [if_pos hn, Sem.run_bind, part_leaf hT hk1 hx1, checkKey_ok hT hk1 hx2, Result.andThen_ok, Sem.run_pure]
      exact ih
    · simp only [if_neg hn, Sem.run_bind, Result.andThen_ok, Sem.run_pure]
      exact ih
theorem keyOk_check {t : TypeId} (hT : TabOk T P) {k : V} {x : Value} (hk : keyOk T t k = true) (hx : Rv D s k x) (e : Bool) (n : Nat) : (Instr.checkKey e (n + 2) t x).run P w = .ok () w := by
  cases k
  case agg cs =>
    obtain ⟨fs, hu, _, _, hkl⟩ := keyOkS_parts hT hk
    cases hx with
    | agg _ xs hx _ =>
      have := checkFields_ok hT e n (xs := xs) w fs.toList 0 cs hkl (fun i v hv => by obtain ⟨x, h1, h2⟩ := hx.get i v hv; exact ⟨x, by simpa using h1, h2⟩)
      rw [Instr.checkKey]
      simp only [Sem.run_bind, run_underlying hu, Result.andThen_ok]
      rw [← Array.forIn_toList]
      simp only [this, Result.andThen_ok, Sem.run_pure]
  all_goals exact checkKey_ok hT (by simpa [keyOk] using hk) hx e (n + 1)
theorem findAsking_ok (hT : TabOk T P) {t : TypeId} {cs : List V} {x : Value} (hk : keyOkS T t cs = true) (hx : Rv D s (.agg cs) x) : ∀ {es : List (V × V × Nat)} {fs : List MapEntry} (i : Nat) {r : Option (Nat × V)}, EsOk D s es fs → findE (.agg cs) es i = some r →
    (match r with | none => (Instr.findAsking t x fs i).run P w = .ok none w | some (j, v) => ∃ y, (Instr.findAsking t x fs i).run P w = .ok (some (j, y)) w ∧ Rv D s v y)
  | _, _, i, r, .nil, h => by simp only [findE] at h; cases h; simp [Instr.findAsking]
  | _, _, i, r, .cons k' v n x' y es fs h1 h2 h3, h => by
    have key : ∀ b, sameK (.agg cs) k' = some b → (Op.equal t x x').run P w = .ok b w := fun b hb => by
      cases k' <;> simp [sameK, same1] at hb
      exact (eqS_ok hT (r := b) (by unfold eqS; rw [if_pos hk]; exact hb) hx h1 9998 w).1
    simp only [findE] at h
    split at h
    · rename_i hs
      cases h
      exact ⟨y, by simp [Instr.findAsking, key _ hs], h2⟩
    · rename_i hs
      have ih := findAsking_ok hT hk hx (i + 1) h3 h
      simp only [Instr.findAsking, Sem.run_bind, key _ hs, Result.andThen_ok, Bool.false_eq_true, if_false]
      exact ih
    · cases h
theorem findNow_agg {d : TypeDesc} {xs : Array Value} : ∀ (fs : List MapEntry) (i : Nat), Instr.findNow d (.agg xs) fs i = if fs.isEmpty then some none else none
  | [], i => rfl
  | f :: fs, i => by cases d <;> simp [Instr.findNow, Instr.sameNow]
theorem findKey_ok (hT : TabOk T P) {t : TypeId} {k : V} {x : Value} (hk : keyOk T t k = true) (hx : Rv D s k x) {es : List (V × V × Nat)} {fs : List MapEntry} {r : Option (Nat × V)} (he : EsOk D s es fs) (h : findE k es 0 = some r) :
    (match r with | none => (Instr.findKey t x fs).run P w = .ok none w | some (j, v) => ∃ y, (Instr.findKey t x fs).run P w = .ok (some (j, y)) w ∧ Rv D s v y) := by
  by_cases ha : ∃ cs, k = .agg cs
  · obtain ⟨cs, rfl⟩ := ha
    obtain ⟨fd, hu, _, _, _⟩ := keyOkS_parts hT hk
    have h0 := findAsking_ok (w := w) hT hk hx 0 he h
    have e : (Instr.findKey t x fs).run P w = (Instr.findAsking t x fs 0).run P w := by
      cases hx with
      | agg _ xs _ _ =>
        cases fs with
        | nil => simp [Instr.findKey, run_underlying hu, findNow_agg, Instr.findAsking]
        | cons f fs => simp [Instr.findKey, run_underlying hu, findNow_agg]
    rw [e]
    cases r <;> exact h0
  · have hk1 : keyOk1 T t k = true := by cases k <;> simp_all [keyOk]
    obtain ⟨d, hu⟩ : ∃ d, P.underlying t = some d := by
      cases k <;> simp [keyOk1] at hk1
      all_goals
        split at hk1 <;> try (cases hk1; done)
        rename_i hd
        obtain ⟨d', e1, _⟩ := und_of hT hd
        exact ⟨d', e1⟩
    have := findNow_ok hT hk1 hu hx 0 he h
    cases r with
    | none => simp [Instr.findKey, run_underlying hu, this]
    | some p =>
      obtain ⟨j, v⟩ := p
      obtain ⟨y, h1, h2⟩ := this
      exact ⟨y, by simp [Instr.findKey, run_underlying hu, h1], h2⟩
theorem zeroV_ok (hT : TabOk T P) {t : TypeId} {i : TI} {z : V} (hi : T.ty t = some i) (h : zeroV i = some z) : ∃ x, (zeroValue t).run P w = .ok x w ∧ Rv D s z x := by
  obtain ⟨inf, d, zz, e1, e2, e3, e4, e5, e6, e7, e8, e9⟩ := ti_parts hT hi
  obtain ⟨z1, z2⟩ := zero_rv (D := D) (s := s) e7
  refine ⟨zz, by simp [zeroValue, typeInfo, e1, e6], ?_⟩
  unfold zeroV at h
  split at h
  · rename_i ha
    rw [e8] at ha
    cases h
    cases zz <;> simp at ha
    exact .agg _ _ z1 z2
  · rename_i ha
    rw [e8] at ha
    split at h
    · rename_i z' hz
      cases h
      rw [hz] at z1
      have hc : zz.cells = #[zz] := by cases zz <;> simp_all [Value.cells]
      rw [hc] at z1
      cases z1
      assumption
    · cases h
theorem lookup_ok (hT : TabOk T P) (hS : Sat n0 w0 D s H w) {t kt e : TypeId} {ei : TI} {m k v : V} {x y : Value} {ok : Bool} {es : List (V × V × Nat)} (hx : Rv D s m x) (hy : Rv D s k y) (hd : descOf T t = some (.map kt e)) (hk : keyOk T kt k = true) (he : T.ty e = some ei) (hes : esOf H.get m = some es)
    (h : (match findE k es 0 with
        | some (some (_, v)) => some (if ok then V.tup [v, .bool true] else v)
        | some none => (match zeroV ei with
          | some z => some (if ok then V.tup [z, .bool false] else z)
          | none => none)
        | none => none) = some v) : Cm D s ((Instr.lookup t x y ok).run P w) w v := by
  have hu := und_map hT hd
  have hck : ∀ b : Bool, (Instr.checkKey b 10000 kt y).run P w = .ok () w := fun b => keyOk_check hT hk hy b 9998
  -- the entries
  have hent : ∃ fs : Array MapEntry, EsOk D s es fs.toList ∧ ((x = .map none ∧ fs = #[]) ∨ ∃ r c, x = .map (some r) ∧ w.heap[r]? = some (.map fs c)) := by
    unfold esOf at hes
    split at hes
    · cases hes; cases hx; exact ⟨#[], .nil, .inl ⟨rfl, rfl⟩⟩
    · rename_i b
      split at hes
      · rename_i ro es' c hg
        cases hes
        cases hx with
        | mp b hD =>
          obtain ⟨ents, h1, h2, _⟩ := hS.map b _ _ _ hD hg
          exact ⟨ents, h2, .inr ⟨_, _, rfl, h1⟩⟩
      · cases hes
    · cases hes
  obtain ⟨fs, hfs, hx'⟩ := hent
  have go1 : ∀ {z : Value} {j : Nat}, (Instr.findKey kt y fs.toList).run P w = .ok (some (j, z)) w → (Instr.lookup t x y ok).run P w = .ok (if ok then .tuple #[z, .bool true] else z) w := by
    intro z j h1
    rcases hx' with ⟨rfl, rfl⟩ | ⟨r, c, rfl, hr⟩
    · simp at h1; simp [Instr.lookup, run_underlying hu, hck, h1]
    · simp [Instr.lookup, run_underlying hu, hck, h1, getObj, Sem.run, hr]
  have go0 : ∀ {z : Value}, (Instr.findKey kt y fs.toList).run P w = .ok none w → (zeroValue e).run P w = .ok z w → (Instr.lookup t x y ok).run P w = .ok (if ok then .tuple #[z, .bool false] else z) w := by
    intro z h1 h2
    rcases hx' with ⟨rfl, rfl⟩ | ⟨r, c, rfl, hr⟩
    · simp at h1; simp [Instr.lookup, run_underlying hu, hck, h1, h2]
    · simp [Instr.lookup, run_underlying hu, hck, h1, getObj, Sem.run, hr, h2]
  split at h
  · rename_i j v' hf
    obtain ⟨z, h1, h2⟩ := findKey_ok (w := w) hT hk hy hfs hf
    have h3 := go1 (z := z) h1
    cases h
    cases ok
    · exact .mk h2 h3
    · exact .mk (x := .tuple #[z, .bool true]) (.tup _ _ (.cons _ _ _ _ h2 (.cons _ _ _ _ (.bool _) .nil))) h3
  · rename_i hf
    have h1 := findKey_ok (w := w) hT hk hy hfs hf
    dsimp only at h1
    split at h
    · rename_i zv hz
      obtain ⟨z, h3, h4⟩ := zeroV_ok (w := w) (D := D) (s := s) hT he hz
      have h5 := go0 (z := z) h1 h3
      cases h
      cases ok
      · exact .mk h4 h5
      · exact .mk (x := .tuple #[z, .bool false]) (.tup _ _ (.cons _ _ _ _ h4 (.cons _ _ _ _ (.bool _) .nil))) h5
    · cases h
  · cases h
theorem bytes_ok : ∀ {cs : List V} {xs : List Value} {l : List UInt8}, RvL D s cs xs → bytesOf cs = some l → ∃ ns : List Int, xs = ns.map (Value.int .u8) ∧ l = ns.map fun n => UInt8.ofNat n.toNat
  | _, _, l, .nil, h => by simp only [bytesOf] at h; cases h; exact ⟨[], rfl, rfl⟩
  | _, _, l, .cons v x vs xs h1 h2, h => by
    unfold bytesOf at h
    split at h
    · rename_i e; cases e
    · rename_i n r e
      cases e
      split at h
      · rename_i l' hl
        obtain ⟨ns, e1, e2⟩ := bytes_ok h2 hl
        cases h; cases h1
        exact ⟨n :: ns, by simp [e1], by simp [e2]⟩
      · cases h
    · cases h
theorem conv_ok (hT : TabOk T P) (hS : Sat n0 w0 D s H w) {sr ds e : TypeId} {v : V} {x : Value} {l : List UInt8} (hx : Rv D s v x) (hs : descOf T sr = some (.slice e)) (he : descOf T e = some (.int .u8)) (hd : descOf T ds = some .str)
    (h : bytesR H.get v = some l) : Cm D s ((convert sr ds x).run P w) w (.str l) := by
  have hu := und_slice hT hs
  have hue := und_int hT he
  have hud := und_str hT hd
  unfold bytesR at h
  split at h
  · cases h; cases hx
    refine .mk (.str []) ?_
    rw [run_convert_bytes_string w sr ds e _ _ _ hu hue hud]
    simp [Conv.bytesToString]
    rfl
  · cases h; cases hx
    refine .mk (.str []) ?_
    rw [run_convert_bytes_string w sr ds e _ _ _ hu hue hud]
    rw [run_bytesToString w _ 0 _ [] (by simp [loadCells, loadCellsFrom])]
    rfl
  · rename_i b off len c z
    split at h
    · rename_i e' ro cs hg
      split at h
      · rename_i hl
        have hD : D b := by cases hx <;> assumption
        obtain ⟨xs, hr, hc⟩ := (hS.row b _ _ _ _ hD hg).vals
        obtain ⟨ns, e1, e2⟩ := bytes_ok ((hr.drop off).take len) h
        have hlen : ns.length = len := by
          have := congrArg List.length e1
          have hxl := hr.length
          simp only [List.length_take, List.length_drop, List.length_map] at this
          omega
        have hload : (loadCells ⟨(s b).b, (s b).base + off, none⟩ len).run P w = .ok (ns.map (Value.int .u8)).toArray w := by
          rw [← e1]
          have := run_loadCells_list (P := P) (w := w) ⟨(s b).b, (s b).base + off, none⟩ ((xs.drop off).take len) (fun j y hy => by
            rw [List.getElem?_take] at hy
            split at hy
            · rw [List.getElem?_drop] at hy
              rw [add_off]
              exact hc _ _ hy
            · cases hy)
          have hl2 : ((xs.drop off).take len).length = len := by rw [e1]; simpa using hlen
          rw [hl2] at this
          exact this
        refine .mk (.str _) ?_
        subst e2
        cases hx <;> (rw [run_convert_bytes_string w sr ds e _ _ _ hu hue hud, run_bytesToString w _ _ _ ns hload, foldl_push_bytes]; simp)
      · cases h
    · cases h
  · cases h
theorem args1 {F : Fr} {a : Act} (hg : GlOk T.ng D s) (hF : FrOk D s F a) {args : Array Operand} {v : V} (h : opds T.ng F args.toList = some [v]) : ∃ x, args.map a.eval = #[x] ∧ Rv D s v x := by
  have ha' := opds_ok hg hF h
  cases hm : args.toList.map a.eval with
  | nil => rw [hm] at ha'; cases ha'
  | cons x r =>
    rw [hm] at ha'
    cases ha' with
    | cons _ _ _ _ hx hr =>
      cases hr
      exact ⟨x, Array.toList_inj.1 (by rw [Array.toList_map, hm]), hx⟩
theorem args2 {F : Fr} {a : Act} (hg : GlOk T.ng D s) (hF : FrOk D s F a) {args : Array Operand} {v v' : V} (h : opds T.ng F args.toList = some [v, v']) : ∃ x y, args.map a.eval = #[x, y] ∧ Rv D s v x ∧ Rv D s v' y := by
  have ha' := opds_ok hg hF h
  cases hm : args.toList.map a.eval with
  | nil => rw [hm] at ha'; cases ha'
  | cons x r =>
    rw [hm] at ha'
    cases ha' with
    | cons _ _ _ _ hx hr =>
      cases hr with
      | cons _ y _ _ hy hr2 =>
        cases hr2
        exact ⟨x, y, Array.toList_inj.1 (by rw [Array.toList_map, hm]), hx, hy⟩
theorem EsOk.length : ∀ {es : List (V × V × Nat)} {fs : List MapEntry}, EsOk D s es fs → es.length = fs.length
  | _, _, .nil => rfl
  | _, _, .cons k v n x y es fs h1 h2 h3 => by simp [EsOk.length h3]

theorem EsOk.find : ∀ {es : List (V × V × Nat)} {fs : List MapEntry} {st : Nat} {e : V × V × Nat}, EsOk D s es fs → es.find? (fun e => e.2.2 == st) = some e → ∃ f, fs.find? (fun f => f.born == st) = some f ∧ Rv D s e.1 f.key ∧ Rv D s e.2.1 f.val
  | _, _, st, e, .nil, h => by simp at h
  | _, _, st, e, .cons k v n x y es fs h1 h2 h3, h => by
    rw [List.find?_cons] at h
    by_cases hn : n = st
    · simp [hn] at h
      subst h
      exact ⟨_, by rw [List.find?_cons]; simp [hn]; rfl, h1, h2⟩
    · have hn' : (n == st) = false := by simpa using hn
      simp only [hn'] at h
      obtain ⟨f, g1, g2⟩ := EsOk.find h3 h
      exact ⟨f, by rw [List.find?_cons]; simp only [hn']; exact g1, g2⟩
theorem evR_ok (hT : TabOk T P) {F : Fr} {a : Act} (hg : GlOk T.ng D s) (hF : FrOk D s F a) (hS : Sat n0 w0 D s H w) (o : Oper) {v : V} (hk : kind T o.op = .r) (h : evR T o.op F H.get = some v) : Ev P D s a o w v := by
  obtain ⟨dst, op, type, pos, after, guard⟩ := o
  dsimp only at hk h
  cases op
  case load t x =>
    simp only [evR] at h
    split at h
    · rename_i b off hx
      split at h
      · rename_i e sz ro cs hb
        exact .of rfl (load_ok hT hS (opd_ok hg hF hx) hb h)
      · cases h
    · cases h
  case lookup t x i ok =>
    simp only [evR] at h
    split at h
    · rename_i m k kt e h1 h2 h3
      split at h
      · cases h
      · rename_i hko
        split at h
        · rename_i ei es h4 h5
          exact .of rfl (lookup_ok hT hS (opd_ok hg hF h1) (opd_ok hg hF h2) h3 (by simpa using hko) h4 h5 h)
        · cases h
    · cases h
  case convert sr ds x =>
    simp only [evR] at h
    split at h
    · rename_i v' e h1 h2 h3
      split at h
      · rename_i l h4 h5
        cases h
        exact .of rfl (conv_ok hT hS (opd_ok hg hF h1) h2 h4 h3 h5)
      · cases h
    · cases h
  case call c =>
    obtain ⟨callee, args, tys⟩ := c
    simp only [evR] at h
    split at h
    · rename_i v' t h1 h2
      split at h
      · rename_i kt e es h3 h4
        cases h
        have hu := und_map hT h3
        obtain ⟨x, hargs, hx⟩ := args1 hg hF h1
        have hc : callee = .builtin .len := by
          simp only [kind] at hk
          split at hk <;> first | rfl | (cases hk; done) | (split at hk <;> cases hk)
        subst hc
        refine ⟨.int .i64 es.length, ?_, .int _ _⟩
        have hlen : (Builtin.len_ tys type #[x]).run P w = .ok (.int .i64 es.length) w := by
          unfold esOf at h4
          split at h4
          · cases h4; cases hx; simp [Builtin.len_, h2, run_underlying hu, goInt]
          · rename_i b
            split at h4
            · rename_i ro es' c hg'
              cases h4
              cases hx with
              | mp b hD =>
                obtain ⟨ents, e1, e2, _⟩ := hS.map b _ _ _ hD hg'
                have hl := e2.length
                simp at hl
                simp [Builtin.len_, h2, run_underlying hu, goInt, getObj, Sem.run, e1, hl]
            · cases h4
          · cases h4
        simp [execOp, resolve, invoke, builtin, hargs, hlen]
      · cases h
    · cases h
  all_goals (simp [evR] at h)
end
end Go.AM
