/- The operations that only compute (6): all of them, in one word. -/
import Derived.Test.YtaenhbfgfhhbcaaAmOpU
set_option linter.unusedVariables false
set_option linter.unusedSimpArgs false
namespace Go.AM
open Go Go.RowKit
section
variable {T : Tab} {P : Program} {D : Nat → Prop} {s : Sg}
/-- The operation's run hands a value on, in the world that it got. -/
def Ev (P : Program) (D : Nat → Prop) (s : Sg) (a : Act) (o : Oper) (w : World) (v : V) : Prop := ∃ x, (execOp a.eval o).run P w = .ok (.value x) w ∧ Rv D s v x
theorem Ev.of {a : Act} {o : Oper} {w : World} {v : V} {e : Sem Value} (he : execOp a.eval o = (do pure (.value (← e)) : Sem Next)) (h : Cm D s (e.run P w) w v) : Ev P D s a o w v := by
  obtain ⟨x, hx, hr⟩ := h
  exact ⟨x, by rw [he]; simp [hx], hr⟩
theorem optI_ok {F : Fr} {a : Act} (hg : GlOk T.ng D s) (hF : FrOk D s F a) {x : Option Operand} {n : Option Int} (h : optI T F x = some n) : Ob3 n (x.map a.eval) := by
  cases x with
  | none => cases h; exact .none
  | some y =>
    simp only [optI] at h
    split at h
    · rename_i k m hy
      cases h
      have := opd_ok hg hF hy
      simp only [Option.map_some]
      generalize a.eval y = z at this
      cases this
      exact .some _ _
    · cases h

set_option maxHeartbeats 1000000 in
theorem evP_ok (hT : TabOk T P) {F : Fr} {a : Act} (hg : GlOk T.ng D s) (hF : FrOk D s F a) (o : Oper) {v : V} (hk : kind T o.op = .p) (h : evP T o.op F = some v) (w : World) : Ev P D s a o w v := by
  obtain ⟨dst, op, type, pos, after, guard⟩ := o
  dsimp only at hk h
  cases op
  case move x =>
    exact ⟨a.eval x, by simp [execOp], opd_ok hg hF h⟩
  case assign x =>
    exact ⟨a.eval x, by simp [execOp], opd_ok hg hF h⟩
  case pick c x y =>
    simp only [evP] at h
    split at h
    · rename_i hc
      have hc' := opd_ok hg hF hc
      refine ⟨a.eval x, ?_, opd_ok hg hF h⟩
      generalize hz : a.eval c = z at hc'
      cases hc'
      simp [execOp, asBool, hz]
    · rename_i hc
      have hc' := opd_ok hg hF hc
      refine ⟨a.eval y, ?_, opd_ok hg hF h⟩
      generalize hz : a.eval c = z at hc'
      cases hc'
      simp [execOp, asBool, hz]
    · cases h
  case nilCheck x =>
    simp only [evP] at h
    split at h
    · rename_i b off hx
      cases h
      have hx' := opd_ok hg hF hx
      refine ⟨a.eval x, ?_, hx'⟩
      generalize hz : a.eval x = z at hx'
      cases hx'
      simp [execOp, hz]
    · cases h
  case binOp op t x y yt =>
    simp only [evP] at h
    split at h
    · rename_i va vb h1 h2
      exact .of rfl (binE_ok hT op t x y (opd_ok hg hF h1) (opd_ok hg hF h2) h w)
    · cases h
  case unOp op t x =>
    cases op <;> simp only [evP] at h
    case not =>
      split at h
      · rename_i b hx
        cases h
        have hx' := opd_ok hg hF hx
        refine ⟨.bool !b, ?_, .bool _⟩
        generalize hz : a.eval x = z at hx'
        cases hx'
        simp [execOp, hz, Op.unary]
      · cases h
    case neg =>
      split at h
      · rename_i k n hx
        cases h
        have hx' := opd_ok hg hF hx
        refine ⟨.int k (wr k (0 - n)), ?_, .int _ _⟩
        generalize hz : a.eval x = z at hx'
        cases hx'
        simp [execOp, hz, Op.unary, Op.intArith, wr_eq]
      · cases h
    all_goals cases h
  case convert sr ds x =>
    simp only [evP] at h
    split at h
    · rename_i k0 n k1 k hx hs hd
      cases h
      have hx' := opd_ok hg hF hx
      refine ⟨.int k (wr k n), ?_, .int _ _⟩
      generalize hz : a.eval x = z at hx'
      cases hx'
      simp [execOp, hz, convert, run_underlying (und_int hT hs), run_underlying (und_int hT hd), Conv.intToInt, wr_eq]
    · rename_i l hx hs hd
      cases h
      have hx' := opd_ok hg hF hx
      refine ⟨.string ⟨l.toArray⟩, ?_, .str _⟩
      generalize hz : a.eval x = z at hx'
      cases hx'
      simp [execOp, hz, convert, run_underlying (und_str hT hs), run_underlying (und_str hT hd)]
    · rename_i k0 n k1 hx hs hd
      split at h
      · rename_i hn
        cases h
        have hx' := opd_ok hg hF hx
        refine ⟨.string ⟨[UInt8.ofNat n.toNat].toArray⟩, ?_, .str _⟩
        generalize hz : a.eval x = z at hx'
        cases hx'
        have hen : Utf8.encode n = ⟨[UInt8.ofNat n.toNat].toArray⟩ := by
          have h1 : n.toNat < 128 := by omega
          have hv : Utf8.valid n = true := by simp [Utf8.valid]; omega
          simp [Utf8.encode, hv, h1]
        simp [execOp, hz, convert, run_underlying (und_int hT hs), run_underlying (und_str hT hd), Conv.intToString, hen]
      · cases h
    · cases h
  case makeInterface t x =>
    simp only [evP] at h
    split at h
    · cases h
    · rename_i v' d hni hx hd
      cases h
      refine ⟨.iface t (a.eval x), ?_, .ifc _ _ _ (opd_ok hg hF hx)⟩
      obtain ⟨d', h1, h2⟩ := und_of hT hd
      have : ∀ ms, d' ≠ .interface ms := by
        rintro ms rfl
        cases d <;> simp [DsOk] at h2
        exact hni rfl
      simp only [execOp, Instr.makeInterface, Sem.run_bind, run_underlying h1, Result.andThen_ok]
      simp
    · cases h
  case makeFunc f x y =>
    simp only [evP] at h
    split at h
    · rename_i vx vy h1 h2
      cases h
      refine ⟨.func f (x.map a.eval) (y.map a.eval), ?_, .fn _ _ _ _ _ ?_ ?_⟩
      · simp [execOp, Instr.makeFunc]
      · rw [Array.toList_map]; exact opds_ok hg hF h1
      · rw [Array.toList_map]; exact opds_ok hg hF h2
    · cases h
  case fieldAddr st x f =>
    simp only [evP] at h
    split at h
    · rename_i b off fs hx hd
      split at h
      · rename_i fd hf
        split at h
        · rename_i i hi
          split at h
          · cases h
          · rename_i h0
            cases h
            exact .of rfl (field_ok hT (opd_ok hg hF hx) hd hf hi h0 w)
        · cases h
      · cases h
    · cases h
  case field st x f =>
    simp only [evP] at h
    split at h
    · rename_i cs fs hx hd
      split at h
      · rename_i fd hf
        exact .of rfl (fieldv_ok hT (opd_ok hg hF hx) hd hf h w)
      · cases h
    · cases h
  case indexAddr t x i =>
    simp only [evP] at h
    split at h
    · rename_i b off len c z k n e hx hi hd
      split at h
      · rename_i ei he
        split at h
        · rename_i hn
          cases h
          have hi' := opd_ok hg hF hi
          generalize hz : a.eval i = y at hi'
          cases hi'
          exact .of (by simp only [execOp, hz]) (indexAddr_sl (k := k) hT (opd_ok hg hF hx) hd he hn w)
        · cases h
      · cases h
    · rename_i b off k n len e hx hi hd
      split at h
      · rename_i ei he
        split at h
        · rename_i hn
          cases h
          have hi' := opd_ok hg hF hi
          generalize hz : a.eval i = y at hi'
          cases hi'
          exact .of (by simp only [execOp, hz]) (indexAddr_arr (k := k) hT (opd_ok hg hF hx) hd he hn w)
        · cases h
      · cases h
    · cases h
  case index t x i =>
    simp only [evP] at h
    split at h
    · rename_i l k n hx hi hd
      split at h
      · rename_i h0
        split at h
        · rename_i b hb
          cases h
          have hi' := opd_ok hg hF hi
          have hx' := opd_ok hg hF hx
          generalize hz : a.eval i = y at hi'
          generalize hy : a.eval x = u at hx'
          cases hi'; cases hx'
          exact .of (by simp only [execOp, hz, hy]) (index_str (k := k) hT hd h0 hb w)
        · cases h
      · cases h
    · rename_i cs k n len e hx hi hd
      split at h
      · rename_i ei he
        split at h
        · rename_i hn
          have hi' := opd_ok hg hF hi
          generalize hz : a.eval i = y at hi'
          cases hi'
          exact .of (by simp only [execOp, hz]) (index_arr (k := k) hT (opd_ok hg hF hx) hd he hn h w)
        · cases h
      · cases h
    · cases h
  case slice t x lo hi mx =>
    simp only [evP] at h
    split at h
    · rename_i v' l h' m h1 h2 h3 h4
      exact .of rfl (slice_ok hT (opd_ok hg hF h1) (optI_ok hg hF h2) (optI_ok hg hF h3) (optI_ok hg hF h4) h w)
    · cases h
  case extract t i =>
    simp only [evP] at h
    split at h
    · rename_i vs ht
      have ht' := opd_ok hg hF ht
      generalize hz : a.eval t = y at ht'
      cases ht' with
      | tup cs xs hc =>
        obtain ⟨x, hx, hr⟩ := hc.get _ _ h
        rw [Array.getElem?_toList] at hx
        exact ⟨x, by simp [execOp, hz, Instr.extract, hx], hr⟩
    · cases h
  case typeAssert x t asr ok =>
    simp only [evP] at h
    split at h
    · cases h
    · rename_i t' v' d hni hx hd
      split at h
      · rename_i he
        subst he
        cases h
        have hx' := opd_ok hg hF hx
        generalize hz : a.eval x = y at hx'
        cases hx' with
        | ifc t v x hr =>
          obtain ⟨d', h1, h2⟩ := und_of hT hd
          have : ∀ ms, d' ≠ .interface ms := by
            rintro ms rfl
            cases d <;> simp [DsOk] at h2
            exact hni rfl
          cases ok
          · refine ⟨x, ?_, hr⟩
            simp only [execOp, hz, Instr.typeAssert, Sem.run_bind, run_underlying h1, Result.andThen_ok]
            split <;> simp_all
          · refine ⟨.tuple #[x, .bool true], ?_, .tup _ _ (.cons _ _ _ _ hr (.cons _ _ _ _ (.bool _) .nil))⟩
            simp only [execOp, hz, Instr.typeAssert, Sem.run_bind, run_underlying h1, Result.andThen_ok]
            split <;> simp_all
      · cases h
    · cases h
  case build t parts => exact .of rfl (build_ok hT hg hF h w)
  case call c =>
    obtain ⟨callee, args, tys⟩ := c
    simp only [evP] at h
    split at h
    · rename_i v' ha
      have ha' := opds_ok hg hF ha
      cases hm : args.toList.map a.eval with
      | nil => rw [hm] at ha'; cases ha'
      | cons x r =>
        rw [hm] at ha'
        cases ha' with
        | cons _ _ _ _ hx hr =>
          cases hr
          have hargs : args.map a.eval = #[x] := Array.toList_inj.1 (by rw [Array.toList_map, hm])
          split at h
          · rename_i t ht
            have fin : ∀ n : Nat, (Builtin.len_ tys type #[x]).run P w = .ok (.int .i64 n) w → (execOp a.eval (Oper.mk dst (.call ⟨.builtin .len, args, tys⟩) type pos after guard)).run P w = .ok (.value (.int .i64 n)) w := fun n hn => by
              simp [execOp, resolve, invoke, builtin, hargs, hn]
            generalize hdd : descOf T t = dd at h
            unfold lenV at h
            split at h
            · rename_i b off n c z e
              have hd := hdd
              cases h
              refine ⟨.int .i64 n, fin n ?_, .int _ _⟩
              cases hx <;> simp [Builtin.len_, ht, run_underlying (und_slice hT hd), goInt]
            · rename_i l
              have hd := hdd
              cases h
              refine ⟨.int .i64 l.length, fin _ ?_, .int _ _⟩
              cases hx; simp [Builtin.len_, ht, run_underlying (und_str hT hd), goInt, size_mk]
            · rename_i e
              have hd := hdd
              cases h
              refine ⟨.int .i64 ((0 : Nat) : Int), fin 0 ?_, .int _ _⟩
              cases hx; simp [Builtin.len_, ht, run_underlying (und_slice hT hd), goInt]
            · rename_i e
              have hd := hdd
              cases h
              refine ⟨.int .i64 ((0 : Nat) : Int), fin 0 ?_, .int _ _⟩
              cases hx; simp [Builtin.len_, ht, run_underlying (und_slice hT hd), goInt]
            · cases h
          · cases h
    · rename_i k m k' n ha
      cases h
      have ha' := opds_ok hg hF ha
      cases hm : args.toList.map a.eval with
      | nil => rw [hm] at ha'; cases ha'
      | cons x r =>
        rw [hm] at ha'
        cases ha' with
        | cons _ _ _ _ hx hr =>
          cases hr with
          | cons _ y _ _ hy hr2 =>
            cases hr2
            cases hx; cases hy
            have hargs : args.map a.eval = #[.int k m, .int k' n] := Array.toList_inj.1 (by rw [Array.toList_map, hm])
            refine ⟨.int k (if n > m then n else m), ?_, .int _ _⟩
            simp [execOp, resolve, invoke, builtin, hargs, Builtin.max_, Builtin.max2]
    · rename_i k m k' n ha
      cases h
      have ha' := opds_ok hg hF ha
      cases hm : args.toList.map a.eval with
      | nil => rw [hm] at ha'; cases ha'
      | cons x r =>
        rw [hm] at ha'
        cases ha' with
        | cons _ _ _ _ hx hr =>
          cases hr with
          | cons _ y _ _ hy hr2 =>
            cases hr2
            cases hx; cases hy
            have hargs : args.map a.eval = #[.int k m, .int k' n] := Array.toList_inj.1 (by rw [Array.toList_map, hm])
            refine ⟨.int k (if n < m then n else m), ?_, .int _ _⟩
            simp [execOp, resolve, invoke, builtin, hargs, Builtin.min_, Builtin.min2]
    · cases h
  all_goals (simp [evP] at h)
end
end Go.AM
