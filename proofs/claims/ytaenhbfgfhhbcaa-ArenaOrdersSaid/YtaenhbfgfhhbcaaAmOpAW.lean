/- The append that writes within its row, or beyond what is known of it. -/
import Derived.Test.YtaenhbfgfhhbcaaAmOpZ
set_option linter.unusedVariables false
set_option linter.unusedSimpArgs false
namespace Go.AM
open Go Go.RowKit
section
variable {T : Tab} {P : Program} {D : Nat → Prop} {s : Sg} {n0 : Nat} {w0 w w' : World} {H : Hp}

theorem dn_refl (D : Nat → Prop) (n : Nat) : Dn D n n = D := by funext b; simp [Dn]; intro h1 h2; omega
theorem dn_dn (D : Nat → Prop) {a b c : Nat} (h1 : a ≤ b) (h2 : b ≤ c) : Dn (Dn D a b) b c = Dn D a c := by
  funext x; simp only [Dn, eq_iff_iff]
  constructor
  · rintro ((h | h) | h)
    · exact .inl h
    · exact .inr ⟨h.1, by omega⟩
    · exact .inr ⟨by omega, h.2⟩
  · rintro (h | h)
    · exact .inl (.inl h)
    · by_cases hb : x < b
      · exact .inl (.inr ⟨h.1, hb⟩)
      · exact .inr ⟨by omega, h.2⟩
theorem takeSl_zero {g : Nat → Option Ob} {sz : Nat} {v : V} {news : List V} (h : takeSl g sz v = some (0, news)) : news = [] := by
  unfold takeSl at h
  split at h
  · cases h; rfl
  · cases h; rfl
  · split at h
    · split at h
      · cases h; simp
      · cases h
    · cases h
  · cases h
theorem run_append_st {t e ty : TypeId} {inf : TypeInfo} (hu : P.underlying t = some (.slice e)) (hi : P.info? e = some inf) {g base n m c c' : Nat} {a : Addr} {xs : List Value}
    (hl : xs.length = m * inf.size) (hx : ∀ j u, xs[j]? = some u → w.cell? (a.add j) = some u) (hroom : n + m ≤ c)
    (hst : (storeCells ⟨g, base + n * inf.size, none⟩ xs).run P w = .ok () w') :
    (Builtin.append_ #[t, t] ty #[.slice (some ⟨g, base, none⟩) n c, .slice (some a) m c']).run P w = .ok (.slice (some ⟨g, base, none⟩) (n + m) c) w' := by
  have h1 := run_loadCells_list (P := P) (w := w) a xs hx
  rw [hl] at h1
  have hadd : (Addr.mk g base none).add (n * inf.size) = ⟨g, base + n * inf.size, none⟩ := by
    have := add_off g base 0 (n * inf.size)
    simpa using this
  simp [Builtin.append_, run_underlying hu, sizeOf, typeInfo, hi, Builtin.lenOf, Builtin.firstCells, hroom, h1, hadd, hst]
/-- A row of which less is known. -/
theorem forget (hS : Sat n0 w0 D s H w) (hst : H.stale = []) {b n : Nat} {e : TypeId} {sz : Nat} {cs : List V} (hD : D b) (hg : H.get b = some (.row e sz false cs)) :
    Step n0 w0 D s H w s (H.put b (.row e sz false (cs.take n))) w := by
  have hrow := hS.row b e sz false cs hD hg
  rw [hst, List.contains_nil, Bool.or_false] at hrow
  obtain ⟨⟨C, et, fz, g1, g2, g3, g4⟩, g5, g6, g7, g8⟩ := hrow
  have hob : Ow H b := by unfold Ow; rw [hg, hst]; simp
  refine step_put hS hst hD hob ⟨rfl, rfl, rfl, rfl, fun _ _ => rfl⟩ ?_ (fun e' sz' ro cs' he => ?_) (fun _ _ _ he => by cases he) (fun _ _ _ _ he => by cases he)
  · constructor
    · unfold Al; rw [Hp.get_put, if_pos rfl]; show b ∉ H.stale; rw [hst]; simp
    · unfold Ow; rw [Hp.get_put, if_pos rfl]; refine ⟨rfl, ?_⟩; show b ∉ H.stale; rw [hst]; simp
  · cases he
    refine ⟨⟨C, et, fz, g1, g2, fun i v hv => ?_, g4⟩, g5, by simp only [List.length_take]; omega, ?_, g8⟩
    · rw [List.getElem?_take] at hv
      split at hv
      · exact g3 i v hv
      · cases hv
    · rw [List.all_eq_true] at g7 ⊢
      exact fun c hc => g7 c (List.mem_of_mem_take hc)
theorem SV.after {H1 : Hp} {r : Result Next} {H' : Hp} {v : V} (h1 : Step n0 w0 D s H w s H1 w) (hn : H1.next = H.next) (h2 : SV P n0 w0 D s H1 w r H' v) : SV P n0 w0 D s H w r H' v := by
  obtain ⟨x, s', w', g1, g2, g3⟩ := h2
  refine ⟨x, s', w', g1, h1.trans (by rw [hn, dn_refl]; exact g2), ?_⟩
  rw [← hn]; exact g3
set_option maxHeartbeats 1000000 in
theorem evAW_ok (hT : TabOk T P) {F : Fr} {a : Act} (hg : GlOk T.ng D s) (hF : FrOk D s F a) (hS : Sat n0 w0 D s H w) (hn : n0 ≤ w0.heap.size) (hf : ¬ D H.next) (hst : H.stale = []) (o : Oper) {v : V} {H' : Hp} (hk : kind T o.op = .a) (h : evAW T o.op F H = some (v, H')) :
    SV P n0 w0 D s H w ((execOp a.eval o).run P w) H' v := by
  obtain ⟨dst, op, type, pos, after, guard⟩ := o
  dsimp only at hk h
  cases op
  case call c =>
    obtain ⟨callee, args, tys⟩ := c
    have hc : callee = .builtin .append := by
      simp only [kind] at hk
      split at hk <;> first | rfl | (cases hk; done) | (split at hk <;> cases hk)
    subst hc
    simp only [evAW] at h
    split at h
    · rename_i s0 x0 t t' hargs htys
      split at h
      · cases h
      · rename_i htt
        have htt : t = t' := by simpa using htt
        subst htt
        have htys' : tys = #[t, t] := Array.toList_inj.1 htys
        subst htys'
        obtain ⟨xv, xy, hxs, hv, hy⟩ := args2 hg hF hargs
        split at h
        · rename_i e hd
          split at h
          · rename_i i hi
            split at h
            · rename_i m news b n z htk
              split at h
              · rename_i e' sz cs hgb
                split at h
                · rename_i hc
                  obtain ⟨c1, c2, c3⟩ := hc
                  subst c1; subst c2
                  have hD : D b := by cases hv <;> assumption
                  split at h
                  · rename_i hfit
                    cases h
                    have hu := und_slice hT hd
                    obtain ⟨inf, d, zz, e1, e2, e3, e4, e5, e6, e7, e8, e9⟩ := ti_parts hT hi
                    obtain ⟨c, hx0, hnc, _, hsz, hz0, _, hcap, hfl⟩ := sl_form hv
                    subst hx0
                    simp only [Nat.zero_div, Nat.sub_zero, Nat.zero_add] at hcap hfl
                    have hrow := hS.row b _ _ _ _ hD hgb
                    have hroom : n + m ≤ (s b).cap := Nat.le_of_mul_le_mul_right (Nat.le_trans hfit hrow.len) hz0
                    obtain ⟨A, c', hxy, hA⟩ := takeSl_ok hS hy htk
                    subst hxy
                    have hres : Rv D s (.sl b 0 (n + m) none i.size) (.slice (some ⟨(s b).b, (s b).base + 0, none⟩) (n + m) ((s b).cap - 0 / i.size)) :=
                      .sln b 0 (n + m) i.size hD hsz hz0 (Nat.zero_mod _) (by simpa using hroom)
                    simp only [Nat.zero_div, Nat.sub_zero] at hres
                    have hmono : ∀ {y : Value}, Rv D s (.sl b 0 (n + m) none i.size) y → Rv (Dn D H.next (H.put b (.row e' i.size false (setCells cs (n * i.size) news))).next) s (.sl b 0 (n + m) none i.size) y := fun h => h.mono (fun b hb => .inl hb) (fun _ _ => rfl)
                    subst hcap
                    rcases hA with rfl | ⟨a', xs, rfl, hr, hone, hl, hcell⟩
                    · have := takeSl_zero htk
                      subst this
                      obtain ⟨w', k1, k2⟩ := row_put (P := P) (off := n * i.size) hS hst hD hgb (ns := []) (ys := []) .nil rfl (by simp; omega)
                      simp only [storeCells, Sem.run_pure] at k1
                      injection k1 with _ k1
                      subst k1
                      refine ⟨_, _, _, ?_, k2, hmono hres⟩
                      have := run_append_zero (P := P) (ty := type) hu e1 (A := some ⟨(s b).b, (s b).base + 0, none⟩) (B := A) (c' := c') hnc w
                      simp [execOp, resolve, invoke, builtin, hxs] at this ⊢
                      rw [this]
                      rfl
                    · have hnl := hr.length
                      obtain ⟨w', k1, k2⟩ := row_put (P := P) (off := n * i.size) hS hst hD hgb hr hone (by rw [hnl, hl, ← Nat.add_mul]; exact hfit)
                      refine ⟨_, _, _, ?_, k2, hmono hres⟩
                      have := run_append_st (P := P) (ty := type) hu e1 (c := (s b).cap) (c' := c') (n := n) (by rw [e4]; exact hl) hcell hroom (by rw [e4]; exact k1)
                      simp [execOp, resolve, invoke, builtin, hxs] at this ⊢
                      rw [this]
                      rfl
                  · split at h
                    · rename_i v' ob kb hev
                      cases h
                      have hf1 := forget (n := n * i.size) hS hst hD hgb
                      have hS1 := hf1.sat
                      rw [Hp.next_put, dn_refl] at hS1
                      refine SV.after hf1 rfl (evA_ok hT hg hF hS1 hn hf (by show H.next ∉ H.stale; rw [hst]; simp) ⟨dst, .call ⟨.builtin .append, args, #[t, t]⟩, type, pos, after, guard⟩ hk hev (fun b' _ _ => by show b' ∉ H.stale; rw [hst]; simp))
                    · cases h
                · cases h
              · cases h
            · cases h
          · cases h
        · cases h
    · cases h
  all_goals (simp [evAW] at h)
end
end Go.AM
