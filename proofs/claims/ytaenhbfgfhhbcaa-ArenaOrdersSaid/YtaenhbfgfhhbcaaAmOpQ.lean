/- The operations that only compute (2): each kind. -/
import Derived.Test.YtaenhbfgfhhbcaaAmOpP
import Derived.Lib.Strings
import Derived.Laws.StructEq
set_option linter.unusedVariables false
set_option linter.unusedSimpArgs false
namespace Go.AM
open Go Go.RowKit
section
variable {T : Tab} {P : Program} {D : Nat → Prop} {s : Sg}
/-- The run answers, in the world that it got, what v stands for. -/
def Cm (D : Nat → Prop) (s : Sg) (r : Result Value) (w : World) (v : V) : Prop := ∃ x, r = .ok x w ∧ Rv D s v x
theorem Cm.mk {r : Result Value} {w : World} {v : V} {x : Value} (hv : Rv D s v x) (hr : r = .ok x w) : Cm D s r w v := ⟨x, hr, hv⟩

theorem toList_mk (l : List UInt8) : (ByteArray.mk l.toArray).toList = l := by
  rw [Lib.toList_data]
theorem binInt_ok (op : BinOp) (t : TypeId) (k : IntKind) (a b : Int) {v : V} (h : binInt op k a b = some v) (w : World) :
    Cm D s ((binOp op t (.int k a) (.int k b)).run P w) w v := by
  unfold binInt at h
  split at h
  all_goals try (cases h; done)
  all_goals first
    | (cases h; exact .mk (.int _ _) (by simp [binOp, Op.intArith, Op.intCmp, Op.intBits, bits, wr_eq]))
    | (cases h; exact .mk (.bool _) (by simp [binOp, Op.intArith, Op.intCmp, Op.intBits]))
    | (split at h
       · cases h
       · rename_i hb
         cases h
         exact .mk (.int _ _) (by simp [binOp, Op.intDiv, hb, wr_eq]))
theorem size_mk (l : List UInt8) : (ByteArray.mk l.toArray).size = l.length := by simp [ByteArray.size]
theorem append_mk (a b : List UInt8) : (ByteArray.mk a.toArray ++ ByteArray.mk b.toArray) = ByteArray.mk (a ++ b).toArray := by
  apply ByteArray.ext
  simp
theorem binStr_ok (op : BinOp) (t : TypeId) (a b : List UInt8) {v : V} (h : binStr op a b = some v) (w : World) :
    Cm D s ((binOp op t (.string ⟨a.toArray⟩) (.string ⟨b.toArray⟩)).run P w) w v := by
  unfold binStr at h
  split at h
  all_goals try (cases h; done)
  · split at h
    · rename_i hl
      cases h
      refine .mk (.str _) ?_
      have hm : ¬ (IntKind.i64.max < (a.length : Int) + (b.length : Int)) := by
        have : IntKind.i64.max = 9223372036854775807 := rfl
        omega
      have hm' : (a.length : Int) + (b.length : Int) ≤ 9223372036854775807 := by omega
      simp [binOp, Op.stringOp, size_mk, hm', append_mk]
    · cases h
  all_goals (cases h; exact .mk (.bool _) (by simp [binOp, Op.stringOp, toList_mk]))
theorem und_bool (hT : TabOk T P) {t : TypeId} (h : isBoolD (descOf T t) = true) : P.underlying t = some .bool := by
  cases hd : descOf T t with
  | none => rw [hd] at h; cases h
  | some d =>
    rw [hd] at h
    cases d <;> simp [isBoolD] at h
    obtain ⟨d', h1, h2⟩ := und_of hT hd
    cases d' <;> simp [DsOk] at h2
    exact h1
theorem und_ptr (hT : TabOk T P) {t : TypeId} (h : isPtrD (descOf T t) = true) : ∃ e, P.underlying t = some (.pointer e) := by
  cases hd : descOf T t with
  | none => rw [hd] at h; cases h
  | some d =>
    rw [hd] at h
    cases d <;> simp [isPtrD] at h
    obtain ⟨d', h1, h2⟩ := und_of hT hd
    cases d' <;> simp [DsOk] at h2
    exact ⟨_, h1⟩
theorem eqGuard_ok (op : BinOp) (t : TypeId) (x y : Operand) {va vb : V} {a b : Value} (ha : Rv D s va a) (hb : Rv D s vb b) (hn : va ≠ .nili ∨ vb ≠ .nili) (hg : (∀ cs, va ≠ .agg cs) ∨ (∀ cs, vb ≠ .agg cs)) (w : World) :
    (eqGuard op t x y a b).run P w = .ok () w := by
  unfold eqGuard
  cases op <;> simp <;> cases ha <;> cases hb <;> simp_all
theorem eqIn_bool (d : Nat) {t : TypeId} (hu : P.underlying t = some .bool) (a b : Bool) (w : World) : (Op.equalIn (d + 1) t (.bool a) (.bool b)).run P w = .ok (a == b) w := by
  simp [Op.equalIn, run_underlying hu]
theorem eqIn_nilnil (d : Nat) {t e : TypeId} (hu : P.underlying t = some (.pointer e)) (w : World) : (Op.equalIn (d + 1) t (.pointer none) (.pointer none)).run P w = .ok true w := by
  simp [Op.equalIn, run_underlying hu]
theorem eqIn_ptrnil (d : Nat) {t e : TypeId} (hu : P.underlying t = some (.pointer e)) (a : Addr) (w : World) : (Op.equalIn (d + 1) t (.pointer (some a)) (.pointer none)).run P w = .ok false w := by
  simp [Op.equalIn, run_underlying hu]
theorem eq_bool {t : TypeId} (hu : P.underlying t = some .bool) (a b : Bool) (w : World) : (Op.equal t (.bool a) (.bool b)).run P w = .ok (a == b) w := eqIn_bool 9999 hu a b w
theorem eq_nilnil {t e : TypeId} (hu : P.underlying t = some (.pointer e)) (w : World) : (Op.equal t (.pointer none) (.pointer none)).run P w = .ok true w := eqIn_nilnil 9999 hu w
theorem eq_ptrnil {t e : TypeId} (hu : P.underlying t = some (.pointer e)) (a : Addr) (w : World) : (Op.equal t (.pointer (some a)) (.pointer none)).run P w = .ok false w := eqIn_ptrnil 9999 hu a w
theorem bin_ok (hT : TabOk T P) (op : BinOp) (t : TypeId) (x y : Operand) {va vb v : V} {a b : Value} (ha : Rv D s va a) (hb : Rv D s vb b) (h : bin op (descOf T t) va vb = some v) (w : World) :
    Cm D s ((do eqGuard op t x y a b; binOp op t a b : Sem Value).run P w) w v := by
  have key : Cm D s ((binOp op t a b).run P w) w v ∧ (va ≠ .nili ∨ vb ≠ .nili) ∧ ((∀ cs, va ≠ .agg cs) ∨ (∀ cs, vb ≠ .agg cs)) := by
    unfold bin at h
    split at h
    · -- shl
      split at h
      · rename_i hn
        cases h; cases ha; cases hb
        refine ⟨.mk (.int _ _) ?_, .inl (by simp), .inl (by simp)⟩
        simp [binOp, Op.shift, wr_eq, show ¬ (_ : Int) < 0 from Int.not_lt.2 hn]
      · cases h
    · split at h
      · rename_i hn
        cases h; cases ha; cases hb
        refine ⟨.mk (.int _ _) ?_, .inl (by simp), .inl (by simp)⟩
        simp [binOp, Op.shift, wr_eq, show ¬ (_ : Int) < 0 from Int.not_lt.2 hn]
      · cases h
    · split at h
      · rename_i k1 a1 k2 b1 h1 h2 hk
        subst hk
        cases ha; cases hb
        exact ⟨binInt_ok op t _ _ _ h w, .inl (by simp), .inl (by simp)⟩
      · cases h
    · cases ha; cases hb
      exact ⟨binStr_ok op t _ _ h w, .inl (by simp), .inl (by simp)⟩
    · split at h
      · rename_i hd
        cases h; cases ha; cases hb
        refine ⟨.mk (.bool _) ?_, .inl (by simp), .inl (by simp)⟩
        simp [binOp, eq_bool (und_bool hT hd)]
      · cases h
    · split at h
      · rename_i hd
        cases h; cases ha; cases hb
        refine ⟨.mk (.bool _) ?_, .inl (by simp), .inl (by simp)⟩
        simp [binOp, eq_bool (und_bool hT hd), bne]
      · cases h
    all_goals first
      | (split at h
         · rename_i hd
           obtain ⟨e, hu⟩ := und_ptr hT hd
           cases h; cases ha; cases hb
           refine ⟨.mk (.bool _) ?_, .inl (by simp), .inl (by simp)⟩
           simp [binOp, eq_nilnil hu, eq_ptrnil hu]
         · cases h)
      | cases h
  obtain ⟨hc, hn, hg⟩ := key
  obtain ⟨x', hx, hr⟩ := hc
  refine .mk hr ?_
  simp [eqGuard_ok op t x y ha hb hn hg w, hx]

/-! ### Structs of numbers, texts, bools; nil -/
theorem keyOk1_leaf (hT : TabOk T P) {t : TypeId} {v : V} (h : keyOk1 T t v = true) : ∃ i, T.ty t = some i ∧ isAgg i.desc = false ∧ ((∃ k n, v = .int k n ∧ P.underlying t = some (.int k)) ∨ (∃ l, v = .str l ∧ P.underlying t = some .string) ∨ (∃ b, v = .bool b ∧ P.underlying t = some .bool)) := by
  cases v <;> simp [keyOk1] at h
  all_goals
    split at h <;> try (cases h; done)
    rename_i hd
    obtain ⟨d', e1, e2⟩ := und_of hT hd
    obtain ⟨i, h1, h2⟩ := desc_parts hT hd
    refine ⟨i, h1, by rw [h2]; rfl, ?_⟩
    cases d' <;> simp [DsOk] at e2
  · exact .inr (.inr ⟨_, rfl, e1⟩)
  · rw [beq_iff_eq] at h; subst h; subst e2; exact .inl ⟨_, _, rfl, e1⟩
  · exact .inr (.inl ⟨_, rfl, e1⟩)
theorem part_leaf (hT : TabOk T P) {t : TypeId} {v : V} (h : keyOk1 T t v = true) {xs : Array Value} {off : Nat} {x : Value} (hx : xs[off]? = some x) (w : World) : (part t xs off).run P w = .ok x w := by
  obtain ⟨i, h1, h2, _⟩ := keyOk1_leaf hT h
  simp [part, agg_of hT h1, h2, hx]
theorem eq_leaf (hT : TabOk T P) {t : TypeId} {v v' : V} {b : Bool} (h : keyOk1 T t v = true) (hs : same1 v v' = some b) {x y : Value} (hx : Rv D s v x) (hy : Rv D s v' y) (d : Nat) (w : World) : (Op.equalIn (d + 1) t x y).run P w = .ok b w := by
  obtain ⟨i, _, _, ⟨k, n, rfl, hu⟩ | ⟨l, rfl, hu⟩ | ⟨c, rfl, hu⟩⟩ := keyOk1_leaf hT h
  · cases v' <;> simp [same1] at hs
    obtain ⟨rfl, rfl⟩ := hs
    cases hx; cases hy
    simp [Op.equalIn, run_underlying hu]
  · cases v' <;> simp [same1] at hs
    subst hs
    cases hx; cases hy
    simp [Op.equalIn, run_underlying hu, beq_toListBytes, toList_mk]
  · cases v' <;> simp [same1] at hs
    subst hs
    cases hx; cases hy
    simp [Op.equalIn, run_underlying hu]
theorem eqFields_ok (hT : TabOk T P) (d : Nat) {xs ys : Array Value} (w : World) : ∀ (fs : List Field) (n : Nat) (cs cs' : List V) {r : Bool}, (fs.all fun f => !(f.name == "_")) = true → keyOkL T (fs.map fun f => (f.offset, f.type)) cs n = true →
    (∀ i v, cs[i]? = some v → ∃ x, xs[n + i]? = some x ∧ Rv D s v x) → (∀ i v, cs'[i]? = some v → ∃ x, ys[n + i]? = some x ∧ Rv D s v x) → sameL same1 cs cs' = some r → (Op.eqFields (d + 1) xs ys fs).run P w = .ok r w
  | [], n, [], [], r, _, _, _, _, h => by simp [sameL] at h; subst h; simp [Op.eqFields]
  | [], n, [], _ :: _, r, _, _, _, _, h => by simp [sameL] at h
  | [], n, _ :: _, _, r, _, hk, _, _, _ => by simp [keyOkL] at hk
  | _ :: _, n, [], _, r, _, hk, _, _, _ => by simp [keyOkL] at hk
  | _ :: _, n, _ :: _, [], r, _, _, _, _, h => by simp [sameL] at h
  | f :: fs, n, v :: cs, v' :: cs', r, hn, hk, hx, hy, h => by
    simp only [List.map_cons, keyOkL, Bool.and_eq_true, beq_iff_eq] at hk
    obtain ⟨⟨e, hk1⟩, hk2⟩ := hk
    subst e
    rw [List.all_cons, Bool.and_eq_true] at hn
    have hn1 : f.name ≠ "_" := by simpa using hn.1
    obtain ⟨x, hx1, hx2⟩ := hx 0 v (by simp)
    obtain ⟨y, hy1, hy2⟩ := hy 0 v' (by simp)
    simp only [Nat.add_zero] at hx1 hy1
    simp only [sameL] at h
    split at h
    · rename_i p q h1 h2
      cases h
      have ih := eqFields_ok hT d w fs (f.offset + 1) cs cs' hn.2 hk2 (fun i u hu => by have := hx (i + 1) u (by simpa using hu); rwa [show f.offset + (i + 1) = f.offset + 1 + i from by omega] at this) (fun i u hu => by have := hy (i + 1) u (by simpa using hu); rwa [show f.offset + (i + 1) = f.offset + 1 + i from by omega] at this) h2
      have hk1' : keyOk1 T f.type v' = true := by
        cases v <;> cases v' <;> simp [same1] at h1 <;> simp_all [keyOk1]
      rw [Op.eqFields, if_pos hn1]
      simp only [Sem.run_bind, part_leaf hT hk1 hx1, part_leaf hT hk1' hy1, eq_leaf hT hk1 h1 hx2 hy2, Result.andThen_ok]
      cases p
      · simp
      · simpa using ih
    · cases h
theorem keyOkS_parts (hT : TabOk T P) {t : TypeId} {cs : List V} (h : keyOkS T t cs = true) : ∃ fs : Array Field, P.underlying t = some (.struct fs) ∧ eqOkT P t = true ∧ (fs.toList.all fun f => !(f.name == "_")) = true ∧ keyOkL T (fs.toList.map fun f => (f.offset, f.type)) cs 0 = true := by
  unfold keyOkS at h
  split at h
  · rename_i i hi
    rw [Bool.and_eq_true] at h
    have he := ti_eq hT hi h.1
    have h2 := h.2
    split at h2
    · rename_i fs hd
      obtain ⟨d', e1, e2⟩ := und_of hT (show descOf T t = some (.struct fs) by simp [descOf, hi, hd])
      cases d' <;> simp [DsOk] at e2
      refine ⟨_, e1, he, ?_, by rw [← e2]; exact h2⟩
      unfold eqOkT at he
      rw [e1] at he
      simp only [Bool.and_eq_true] at he
      exact he.2
    · cases h2
  · cases h
theorem eqS_ok (hT : TabOk T P) {t : TypeId} {cs cs' : List V} {r : Bool} (h : eqS T t cs cs' = some r) {x y : Value} (hx : Rv D s (.agg cs) x) (hy : Rv D s (.agg cs') y) (d : Nat) (w : World) : (Op.equalIn (d + 2) t x y).run P w = .ok r w ∧ P.eqGuardType P.depth t = false := by
  unfold eqS at h
  split at h
  · rename_i hk
    obtain ⟨fs, hu, he, hn, hkl⟩ := keyOkS_parts hT hk
    unfold eqOkT at he
    simp only [Bool.and_eq_true, Bool.not_eq_true'] at he
    cases hx with
    | agg _ xs hx _ =>
      cases hy with
      | agg _ ys hy _ =>
        have hf : P.fieldsOf t = fs := by simp [Program.fieldsOf, hu]
        rw [run_equalIn_struct (P := P) w (d + 1) t xs ys (by rw [hf]; exact hu) he.1.1, hf]
        exact ⟨eqFields_ok hT d w fs.toList 0 cs cs' hn hkl (fun i v hv => by obtain ⟨x, h1, h2⟩ := hx.get i v hv; exact ⟨x, by simpa using h1, h2⟩) (fun i v hv => by obtain ⟨x, h1, h2⟩ := hy.get i v hv; exact ⟨x, by simpa using h1, h2⟩) h, he.1.2⟩
  · cases h
theorem und_ifd (hT : TabOk T P) {t : TypeId} (h : isIfD (descOf T t) = true) : ∃ m, P.underlying t = some (.interface m) := by
  cases hd : descOf T t with
  | none => rw [hd] at h; cases h
  | some d =>
    rw [hd] at h
    cases d <;> simp [isIfD] at h
    obtain ⟨d', h1, h2⟩ := und_of hT hd
    cases d' <;> simp [DsOk] at h2
    exact ⟨_, h1⟩
theorem und_mpd (hT : TabOk T P) {t : TypeId} (h : isMpD (descOf T t) = true) : ∃ k e, P.underlying t = some (.map k e) := by
  cases hd : descOf T t with
  | none => rw [hd] at h; cases h
  | some d =>
    rw [hd] at h
    cases d <;> simp [isMpD] at h
    obtain ⟨d', h1, h2⟩ := und_of hT hd
    cases d' <;> simp [DsOk] at h2
    exact ⟨_, _, h1⟩
theorem und_sld (hT : TabOk T P) {t : TypeId} (h : isSlD (descOf T t) = true) : ∃ e, P.underlying t = some (.slice e) := by
  cases hd : descOf T t with
  | none => rw [hd] at h; cases h
  | some d =>
    rw [hd] at h
    cases d <;> simp [isSlD] at h
    obtain ⟨d', h1, h2⟩ := und_of hT hd
    cases d' <;> simp [DsOk] at h2
    exact ⟨_, h1⟩
theorem isC_eq (x : Operand) : (match x with | .const _ => true | _ => false) = isC x := by cases x <;> rfl
theorem nilR_ok (hT : TabOk T P) {t : TypeId} {x y : Operand} {va vb : V} {a b : Value} {r : Bool} (ha : Rv D s va a) (hb : Rv D s vb b) (h : nilR (descOf T t) x y va vb = some r) (op : BinOp) (w : World) :
    (∀ d, (Op.equalIn (d + 1) t a b).run P w = .ok r w) ∧ (eqGuard op t x y a b).run P w = .ok () w := by
  have gd : ¬ (va = .nili ∧ vb = .nili) → (∀ cs, va ≠ .agg cs) → (eqGuard op t x y a b).run P w = .ok () w := fun h1 h2 =>
    eqGuard_ok op t x y ha hb (by by_cases e : va = .nili; exact .inr fun e' => h1 ⟨e, e'⟩; exact .inl e) (.inl h2) w
  unfold nilR at h
  split at h
  all_goals first
    | (split at h <;> cases h)
    | cases h
  · rename_i hd
    rw [Bool.and_eq_true, Bool.or_eq_true] at hd
    obtain ⟨m, hu⟩ := und_ifd hT hd.1
    cases ha; cases hb
    refine ⟨fun d => by simp [Op.equalIn, run_underlying hu], ?_⟩
    unfold eqGuard
    rcases hd.2 with hc | hc
    · cases x <;> simp [isC] at hc
      cases op <;> simp
    · cases y <;> simp [isC] at hc
      cases op <;> simp
  · rename_i hd
    obtain ⟨m, hu⟩ := und_ifd hT hd
    refine ⟨?_, gd (by simp) (by simp)⟩
    cases ha; cases hb
    intro d
    simp [Op.equalIn, run_underlying hu]
  · rename_i hd
    obtain ⟨k, e, hu⟩ := und_mpd hT hd
    refine ⟨?_, gd (by simp) (by simp)⟩
    cases ha; cases hb
    intro d
    simp [Op.equalIn, run_underlying hu]
  · rename_i hd
    obtain ⟨k, e, hu⟩ := und_mpd hT hd
    refine ⟨?_, gd (by simp) (by simp)⟩
    cases ha; cases hb
    intro d
    simp [Op.equalIn, run_underlying hu]
  · rename_i hd
    obtain ⟨e, hu⟩ := und_sld hT hd
    refine ⟨?_, gd (by simp) (by simp)⟩
    cases ha; cases hb
    intro d
    simp [Op.equalIn, run_underlying hu]
  · rename_i hd
    obtain ⟨e, hu⟩ := und_sld hT hd
    refine ⟨?_, gd (by simp) (by simp)⟩
    cases ha; cases hb
    intro d
    simp [Op.equalIn, run_underlying hu]
  · rename_i hd
    obtain ⟨e, hu⟩ := und_sld hT hd
    refine ⟨?_, gd (by simp) (by simp)⟩
    intro d
    cases ha <;> cases hb <;> simp [Op.equalIn, run_underlying hu]
  · rename_i hd
    obtain ⟨e, hu⟩ := und_ptr hT hd
    refine ⟨?_, gd (by simp) (by simp)⟩
    cases ha; cases hb
    intro d
    simp [Op.equalIn, run_underlying hu]
theorem eqs_run (op : BinOp) (hop : op = .eql ∨ op = .neq) (t : TypeId) (x y : Operand) {va vb : V} {a b : Value} {r : Bool} (ha : Rv D s va a) (hb : Rv D s vb b) (hn : ∀ k n, va ≠ .int k n) (hn' : ∀ l, va ≠ .str l) (w : World) (h1 : (Op.equal t a b).run P w = .ok r w) (h2 : (eqGuard op t x y a b).run P w = .ok () w) :
    Cm D s ((do eqGuard op t x y a b; binOp op t a b : Sem Value).run P w) w (.bool (if op = .eql then r else !r)) := by
  refine .mk (.bool _) ?_
  rcases hop with rfl | rfl
  · cases ha <;> simp_all [binOp]
  · cases ha <;> simp_all [binOp]
theorem binE_ok (hT : TabOk T P) (op : BinOp) (t : TypeId) (x y : Operand) {va vb v : V} {a b : Value} (ha : Rv D s va a) (hb : Rv D s vb b) (h : binE T op t x y va vb = some v) (w : World) :
    Cm D s ((do eqGuard op t x y a b; binOp op t a b : Sem Value).run P w) w v := by
  unfold binE at h
  split at h
  · rename_i v' hv
    cases h
    exact bin_ok hT op t x y ha hb hv w
  · split at h
    · obtain ⟨r, h1, rfl⟩ := Option.map_eq_some_iff.1 h
      obtain ⟨h2, h3⟩ := eqS_ok hT h1 ha hb 9998 w
      refine eqs_run .eql (.inl rfl) t x y ha hb (by simp) (by simp) w h2 ?_
      unfold eqGuard
      cases ha; cases hb
      simp [h3]
    · obtain ⟨r, h1, rfl⟩ := Option.map_eq_some_iff.1 h
      obtain ⟨h2, h3⟩ := eqS_ok hT h1 ha hb 9998 w
      refine eqs_run .neq (.inr rfl) t x y ha hb (by simp) (by simp) w h2 ?_
      unfold eqGuard
      cases ha; cases hb
      simp [h3]
    · obtain ⟨r, h1, rfl⟩ := Option.map_eq_some_iff.1 h
      obtain ⟨h2, h3⟩ := nilR_ok hT ha hb h1 .eql w
      refine eqs_run .eql (.inl rfl) t x y ha hb ?_ ?_ w (h2 9999) h3
      all_goals (intros; rintro rfl; cases vb <;> simp [nilR] at h1)
    · obtain ⟨r, h1, rfl⟩ := Option.map_eq_some_iff.1 h
      obtain ⟨h2, h3⟩ := nilR_ok hT ha hb h1 .neq w
      refine eqs_run .neq (.inr rfl) t x y ha hb ?_ ?_ w (h2 9999) h3
      all_goals (intros; rintro rfl; cases vb <;> simp [nilR] at h1)
    · cases h
end
end Go.AM
