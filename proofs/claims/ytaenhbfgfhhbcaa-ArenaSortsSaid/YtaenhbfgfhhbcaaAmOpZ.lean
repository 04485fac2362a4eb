/- The operations that write (4): clear; all of them, in one word. -/
import Derived.Test.YtaenhbfgfhhbcaaAmOpY
set_option linter.unusedVariables false
set_option linter.unusedSimpArgs false
namespace Go.AM
open Go Go.RowKit
section
variable {T : Tab} {P : Program} {D : Nat → Prop} {s : Sg} {n0 : Nat} {w0 w w' : World} {H : Hp}

theorem clear_ok (hT : TabOk T P) (hS : Sat n0 w0 D s H w) (hst : H.stale = []) {t e' e ty : TypeId} {i : TI} {b off n z sz : Nat} {cap : Option Nat} {cs : List V} {x : Value} (hd : descOf T t = some (.slice e')) (hi : T.ty e' = some i) (hx : Rv D s (.sl b off n cap z) x)
    (hg : H.get b = some (.row e sz false cs)) (hsz : i.size = sz) (hl : off + n * sz ≤ cs.length) :
    ∃ w', (Builtin.clear_ #[t] ty #[x]).run P w = .ok (.tuple #[]) w' ∧ Step n0 w0 D s H w s (H.put b (.row e sz false (setCells cs off (repl i.zero n)))) w' := by
  have hu := und_slice hT hd
  obtain ⟨inf, d, zz, e1, e2, e3, e4, e5, e6, e7, e8, e9⟩ := ti_parts hT hi
  obtain ⟨z1, z2⟩ := zero_rv (D := D) (s := s) e7
  have hzs : zz.cells.size = i.size := by have := z1.length; simp only [Array.length_toList] at this; omega
  obtain ⟨c, rfl, hnc, hD, h1, h2, h3, h4, h5⟩ := sl_form hx
  have hzv : (zeroValue e').run P w = .ok zz w := by simp [zeroValue, typeInfo, e1, e6]
  have hzc : (Builtin.zeroCells zz.cells n).toList = replL zz.cells.toList n := by
    rw [← range_repl]; rfl
  obtain ⟨w', k1, k2⟩ := row_put (P := P) (off := off) hS hst hD hg (ns := repl i.zero n) (ys := (Builtin.zeroCells zz.cells n).toList) (by rw [repl_eq, hzc]; exact RvL.repl n z1) (by rw [repl_eq]; exact all_replL _ _ z2 n) (by rw [repl_eq, replL_length, e9, hsz]; exact hl)
  refine ⟨w', ?_, k2⟩
  by_cases hn0 : n = 0
  · subst hn0
    have : (Builtin.zeroCells zz.cells 0).toList = [] := by rw [hzc]; rfl
    rw [this] at k1
    simp only [storeCells, Sem.run_pure] at k1
    injection k1 with _ k1
    subst k1
    simp [Builtin.clear_, run_underlying hu]
  · have : ∀ (f : Sem Value), True := fun _ => trivial
    simp [Builtin.clear_, run_underlying hu, hzv, k1, hn0]

set_option maxHeartbeats 1000000 in
theorem evW_ok (hT : TabOk T P) {F : Fr} {a : Act} (hg : GlOk T.ng D s) (hF : FrOk D s F a) (hS : Sat n0 w0 D s H w) (hn : n0 ≤ w0.heap.size) (hf : ¬ D H.next) (hst : H.stale = []) (o : Oper) {v : Option V} {H' : Hp} (hk : kind T o.op = .w) (h : evW T o.op F H = some (v, H')) :
    SW P n0 w0 D s H w ((execOp a.eval o).run P w) H' v := by
  have eD : Dn D H.next H.next = D := by funext b; simp [Dn]; intro h1 h2; omega
  obtain ⟨dst, op, type, pos, after, guard⟩ := o
  dsimp only at hk h
  have tupv : ∀ {r : Result Value} {w' : World}, r = .ok (.tuple #[]) w' → Step n0 w0 D s H w s H' w' → H'.next = H.next → ∃ x s' w', r = .ok x w' ∧ Step n0 w0 D s H w s' H' w' ∧ Rv (Dn D H.next H'.next) s' (.tup []) x := by
    rintro r w' rfl h2 h3
    exact ⟨_, _, _, rfl, h2, .tup _ #[] .nil⟩
  cases op
  case store t x y =>
    simp only [evW] at h
    split at h
    · rename_i b off v' i hx hy hi
      split at h
      · rename_i e sz cs hg'
        split at h
        · rename_i hc
          cases h
          obtain ⟨w', h1, h2⟩ := store_ok hT hS hst (opd_ok hg hF hx) (opd_ok hg hF hy) hi hg' hc.1 hc.2.1 hc.2.2
          exact ⟨_, w', by simp [execOp, h1], h2⟩
        · cases h
      · cases h
    · cases h
  case mapUpdate t m k x =>
    simp only [evW] at h
    split at h
    · rename_i b k' v' hm hk' hx
      split at h
      · cases h
      · rename_i hok
        have hok' : mapKeyOk T t k' = true := by simpa using hok
        unfold mapKeyOk at hok'
        split at hok'
        · rename_i kt et hd
          split at h
          · rename_i es clock hg'
            split at h
            · rename_i i vv hfe
              cases h
              obtain ⟨w', h1, h2⟩ := mapUpdate_ok hT hS hst hd hok' (opd_ok hg hF hm) (opd_ok hg hF hk') (opd_ok hg hF hx) hg' hfe
              exact ⟨_, w', by simp [execOp, h1], h2⟩
            · rename_i hfe
              cases h
              obtain ⟨w', h1, h2⟩ := mapUpdate_ok hT hS hst hd hok' (opd_ok hg hF hm) (opd_ok hg hF hk') (opd_ok hg hF hx) hg' hfe
              exact ⟨_, w', by simp [execOp, h1], h2⟩
            · cases h
          · cases h
        · cases hok'
    · cases h
  case call c =>
    obtain ⟨callee, args, tys⟩ := c
    simp only [evW] at h
    split at h
    · rename_i b k t ts hargs htys
      split at h
      · cases h
      · rename_i hok
        have hok' : mapKeyOk T t k = true := by simpa using hok
        unfold mapKeyOk at hok'
        split at hok'
        · rename_i kt et hd
          obtain ⟨xm, xk, hxs, hm, hk'⟩ := args2 hg hF hargs
          have ht : tys[0]? = some t := by rw [← Array.getElem?_toList, htys]; rfl
          split at h
          · rename_i es clock hg'
            split at h
            · rename_i i vv hfe
              cases h
              obtain ⟨w', h1, h2⟩ := delete_ok (ty := type) hT hS hst ht hd hok' hm hk' hg' hfe
              obtain ⟨x, s', w', g1, g2, g3⟩ := tupv h1 h2 rfl
              exact ⟨x, s', w', by simp [execOp, resolve, invoke, builtin, hxs, g1], g2, g3⟩
            · rename_i hfe
              cases h
              obtain ⟨w', h1, h2⟩ := delete_ok (ty := type) hT hS hst ht hd hok' hm hk' hg' hfe
              obtain ⟨x, s', w', g1, g2, g3⟩ := tupv h1 h2 rfl
              exact ⟨x, s', w', by simp [execOp, resolve, invoke, builtin, hxs, g1], g2, g3⟩
            · cases h
          · cases h
        · cases hok'
    · rename_i v' t hargs htys
      have htys' : tys = #[t] := Array.toList_inj.1 htys
      subst htys'
      obtain ⟨xv, hxs, hv⟩ := args1 hg hF hargs
      split at h
      · rename_i e hd
        cases h
        cases hv
        obtain ⟨x, s', w', g1, g2, g3⟩ := tupv (r := (Builtin.clear_ #[t] type #[.slice none 0 0]).run P w) (by simp [Builtin.clear_, run_underlying (und_slice hT hd)]) (Step.refl hS) rfl
        exact ⟨x, s', w', by simp [execOp, resolve, invoke, builtin, hxs, g1], g2, g3⟩
      · rename_i e hd
        cases h
        cases hv
        rename_i A c
        obtain ⟨x, s', w', g1, g2, g3⟩ := tupv (r := (Builtin.clear_ #[t] type #[.slice (some A) 0 c]).run P w) (by simp [Builtin.clear_, run_underlying (und_slice hT hd)]) (Step.refl hS) rfl
        exact ⟨x, s', w', by simp [execOp, resolve, invoke, builtin, hxs, g1], g2, g3⟩
      · rename_i b off n cap z e' hd
        split at h
        · rename_i e sz cs i hg' hi
          split at h
          · rename_i hc
            cases h
            obtain ⟨w', h1, h2⟩ := clear_ok (ty := type) hT hS hst hd hi hv hg' hc.1 hc.2
            obtain ⟨x, s', w', g1, g2, g3⟩ := tupv h1 h2 rfl
            exact ⟨x, s', w', by simp [execOp, resolve, invoke, builtin, hxs, g1], g2, g3⟩
          · cases h
        · cases h
      · cases h
    · cases h
  case range t x =>
    simp only [evW] at h
    split at h
    · rename_i k e hx hd
      cases h
      obtain ⟨x', s', w', h1, h2, h3⟩ := range_ok hT hS hn hf hst hd (opd_ok hg hF hx) (.inl ⟨rfl, rfl, rfl, rfl⟩)
      exact ⟨x', s', w', by simp [execOp, h1], h2, h3⟩
    · rename_i m k e hx hd
      split at h
      · rename_i ro es clock hg'
        cases h
        obtain ⟨x', s', w', h1, h2, h3⟩ := range_ok hT hS hn hf hst hd (opd_ok hg hF hx) (.inr ⟨_, _, _, _, rfl, hg', rfl, rfl, rfl⟩)
        exact ⟨x', s', w', by simp [execOp, h1], h2, h3⟩
      · cases h
    · cases h
  case entry it =>
    simp only [evW] at h
    split at h
    · rename_i r hr
      split at h
      · rename_i m since seen last hgi
        split at h
        · rename_i ro es clock st h1 h2
          split at h
          · rename_i hcl
            split at h
            · rename_i e he
              cases h
              subst hcl
              have hx := opd_ok hg hF hr
              obtain ⟨x, hxe⟩ : ∃ x, a.eval it = x := ⟨_, rfl⟩
              rw [hxe] at hx
              cases hx with
              | ptr b off hD =>
                obtain ⟨i1, i2, i3, _⟩ := hS.iter r _ _ _ _ hD hgi
                obtain ⟨ents, m1, m2, _⟩ := hS.map m _ _ _ (i2 m rfl) h1
                obtain ⟨f, f1, f2, f3⟩ := m2.find he
                have hf : Array.find? (fun f => f.born == st) ents = some f := by rw [← Array.find?_toList]; exact f1
                refine ⟨.tuple #[f.key, f.val], s, w, ?_, Step.refl hS, ?_⟩
                · simp only [Option.map_some] at i1
                  simp [execOp, hxe, Instr.entry, i3, getObj, Sem.run, i1, m1, h2, hf]
                · rw [eD]
                  exact .tup _ _ (.cons _ _ _ _ f2 (.cons _ _ _ _ f3 .nil))
            · cases h
          · cases h
        · cases h
      · cases h
    · cases h
  case next it isS =>
    cases isS with
    | true => simp [evW] at h
    | false =>
      simp only [evW] at h
      split at h
      · rename_i r hx
        have hx' := opd_ok hg hF hx
        split at h
        · rename_i si se la hg'
          cases h
          generalize hz : a.eval it = y at hx'
          cases hx' with
          | ptr r off hD =>
            obtain ⟨h1, h2, h3, h4⟩ := hS.iter r _ _ _ _ hD hg'
            refine ⟨.tuple #[.bool false], s, w, ?_, Step.refl hS, .tup _ #[.bool false] (.cons _ _ _ _ (.bool _) .nil)⟩
            simp [execOp, hz, h3, Instr.next, run_getObj_it h1]
        · rename_i m since seen last hg'
          split at h
          · rename_i ro es clock hm'
            split at h
            · cases h
            · rename_i hno
              have hno' : (!seen.isEmpty && !es.isEmpty && es.all (fun e => decide (last ≤ e.2.2))) = false := by simpa using hno
              split at h
              · rename_i e hc
                cases h
                obtain ⟨x', w', h1, h2, h3⟩ := next_ok (P := P) (ty := type) hS hst hx' hg' hm' hno' hc
                exact ⟨x', _, w', by simp [execOp, h1], h2, h3.mono (fun b hb => .inl hb) (fun _ _ => rfl)⟩
              · rename_i hc
                cases h
                obtain ⟨x', w', h1, h2, h3⟩ := next_ok (P := P) (ty := type) hS hst hx' hg' hm' hno' hc
                exact ⟨x', _, w', by simp [execOp, h1], h2, h3.mono (fun b hb => .inl hb) (fun _ _ => rfl)⟩
              · cases h
          · cases h
        · cases h
      · cases h
  all_goals (simp [evW] at h)
end
end Go.AM
