/- Regions in their text's order; code; calls. Drawn regions are a hypothesis here. -/
import Derived.Test.YtaenhbfgfhhbcaaAmOp1
import Derived.Scope
set_option linter.unusedVariables false
set_option linter.unusedSimpArgs false
namespace Go.AM
open Go Go.RowKit

def Fresh (D : Nat → Prop) (H H' : Hp) : Prop := ∀ b, H.next ≤ b → b ≤ H'.next → ¬ D b
theorem Fresh.left {D : Nat → Prop} {H H1 H' : Hp} (h : Fresh D H H') (h2 : H1.next ≤ H'.next) : Fresh D H H1 := fun b h3 h4 => h b h3 (Nat.le_trans h4 h2)
theorem Fresh.right {D : Nat → Prop} {H H1 H' : Hp} (h : Fresh D H H') (h1 : H.next ≤ H1.next) : Fresh (Dn D H.next H1.next) H1 H' := fun b h3 h4 hd => by
  rcases hd with hd | hd
  · exact h b (Nat.le_trans h1 h3) h4 hd
  · exact absurd hd.2 (Nat.not_lt.2 h3)
theorem Fresh.first {D : Nat → Prop} {H H' : Hp} (h : Fresh D H H') (hle : H.next ≤ H'.next) : ¬ D H.next := h _ (Nat.le_refl _) hle

/-- What a call comes to. -/
def CallOk (T : Tab) (P : Program) (n0 : Nat) (w0 : World) (call : CallE) : Prop :=
  ∀ f vs H v H', call f vs H = some (v, H') → ∀ D s w (xs : Array Value), GlOk T.ng D s → RvL D s vs xs.toList → Sat n0 w0 D s H w → Good H → Fresh D H H' →
    (∃ fn c, T.fn f = some fn ∧ fn.body = some c) ∧ Calls P f xs w fun e w' => match e with
      | .returned x => ∃ s', Step n0 w0 D s H w s' H' w' ∧ Rv (Dn D H.next H'.next) s' v x
      | _ => False
structure Pre (T : Tab) (n0 : Nat) (w0 : World) (nt : Nat) (D : Nat → Prop) (s : Sg) (F : Fr) (H : Hp) (a : Act) (w : World) : Prop where
  gl : GlOk T.ng D s
  fr : FrOk D s F a
  sat : Sat n0 w0 D s H w
  good : Good H
  size : nt ≤ a.tmps.size
  defers : a.defers = []
def Post (n0 : Nat) (w0 : World) (nt : Nat) (D : Nat → Prop) (s : Sg) (H : Hp) (w : World) (F' : Fr) (H' : Hp) (a' : Act) (w' : World) : Prop :=
  ∃ s', Step n0 w0 D s H w s' H' w' ∧ FrOk (Dn D H.next H'.next) s' F' a' ∧ nt ≤ a'.tmps.size ∧ a'.defers = []
/-- The functions that are told otherwise do what is told. -/
def ExtOk (T : Tab) (P : Program) : Prop :=
  ∀ f e, T.ext f = some e → ∀ n0 w0, n0 ≤ w0.heap.size → ∀ vs H v H', e vs H = some (v, H') → ∀ D s w (xs : Array Value), GlOk T.ng D s → RvL D s vs xs.toList → Sat n0 w0 D s H w → Good H → Fresh D H H' →
    Calls P f xs w fun e w' => match e with
      | .returned x => ∃ s', Step n0 w0 D s H w s' H' w' ∧ Rv (Dn D H.next H'.next) s' v x
      | _ => False
structure MachOk (T : Tab) (P : Program) : Prop where
  ext : ExtOk T P
  extg : ExtGood T
  tab : TabOk T P
  name : ∀ f fn, T.fn f = some fn → (fn.name == "runtime.NumGoroutine") = false
  mixed : P.follows .mixedOrders = true

section
variable {T : Tab} {P : Program} {D : Nat → Prop} {s : Sg} {n0 : Nat} {w0 w w' : World} {H : Hp} {nt : Nat} {F : Fr} {a : Act}

theorem Pre.next {s' : Sg} {H' : Hp} {F' : Fr} {a' : Act} (h : Pre T n0 w0 nt D s F H a w) (hs : Step n0 w0 D s H w s' H' w') (hF : FrOk (Dn D H.next H'.next) s' F' a') (hG : Good H') (h1 : nt ≤ a'.tmps.size) (h2 : a'.defers = []) : Pre T n0 w0 nt (Dn D H.next H'.next) s' F' H' a' w' :=
  ⟨h.gl.mono (fun b hb => .inl hb) hs.same, hF, hs.sat, hG, h1, h2⟩
theorem Post.trans {s1 : Sg} {H1 H' : Hp} {F' : Fr} {w1 : World} {a' : Act} (hs : Step n0 w0 D s H w s1 H1 w1) (h : Post n0 w0 nt (Dn D H.next H1.next) s1 H1 w1 F' H' a' w') : Post n0 w0 nt D s H w F' H' a' w' := by
  obtain ⟨s', h1, h2, h3, h4⟩ := h
  refine ⟨s', hs.trans h1, ?_, h3, h4⟩
  rw [← dn_dn D hs.next h1.next]
  exact h2
theorem run_callFunc (hM : MachOk T P) {f : FuncId} {fn : Func} {c : Code} (h1 : T.fn f = some fn) (h2 : fn.body = some c) (xs : Array Value) (w : World) : (callFunc f xs).run P w = .ok (.enter f xs) w := by
  have hnm := hM.name f fn h1
  rw [beq_eq_false_iff_ne] at hnm
  simp [callFunc, hM.tab.fn f fn h1, hnm, h2]

/-- A region in its text's order. -/
theorem evOps_ok (hM : MachOk T P) (hn : n0 ≤ w0.heap.size) {call : CallE} (hc : CallOk T P n0 w0 call) (hcg : CallGood call) {ops : Array Oper} {Q : Exit → Act → World → Prop} :
    ∀ (l : List Oper) (i : Nat) {D : Nat → Prop} {s : Sg} {F F' : Fr} {H H' : Hp} {a : Act} {w : World}, (∀ j, j < l.length → ops[i + j]? = l[j]?) → (∀ o ∈ l, ∀ t, o.dst = some t → t < nt) →
      evOps T call ops l F H = some (F', H') → Pre T n0 w0 nt D s F H a w → Fresh D H H' →
      (∀ a' w', Post n0 w0 nt D s H w F' H' a' w' → Q .normal a' w') → wpOps P ops Q (List.range' i l.length) a w
  | [], i, D, s, F, F', H, H', a, w, _, _, h, hP, hf, hQ => by
    simp only [evOps] at h
    cases h
    exact hQ a w ⟨s, Step.flush hP.sat, hP.fr.mono (fun b hb => .inl hb) (fun _ _ => rfl), hP.size, hP.defers⟩
  | o :: r, i, D, s, F, F', H, H', a, w, hl, hd, h, hP, hf, hQ => by
    have ho : ops[i]? = some o := by have := hl 0 (by simp); simpa using this
    have hl' : ∀ j, j < r.length → ops[i + 1 + j]? = r[j]? := fun j hj => by
      have := hl (j + 1) (by simpa using hj)
      rw [show i + 1 + j = i + (j + 1) from by omega, this]; simp
    have hd' : ∀ o' ∈ r, ∀ t, o'.dst = some t → t < nt := fun o' h' => hd o' (by simp [h'])
    have hdo : ∀ t, o.dst = some t → t < a.tmps.size := fun t ht => Nat.lt_of_lt_of_le (hd o (by simp) t ht) hP.size
    have hall := evOps_good hcg (o :: r) hP.good h
    have hf1 := hf.first hall.le
    simp only [evOps] at h
    simp only [List.length_cons, List.range'_succ, wpOps, ho]
    split at h
    · rename_i hw
      rw [wantedV_ok hP.fr hw, if_pos rfl]
      left
      unfold Oper.wp
      split at h
      · rename_i v H1 hop
        have g1 := evOp_val hP.good hop
        have g2 := evOps_good hcg r g1.good h
        obtain ⟨x, s1, w1, hr, hs, hv⟩ := evOp_ok hM.tab hP.gl hP.fr hP.sat hn hf1 hP.good o hop
        rw [hr]
        have hF1 : FrOk (Dn D H.next H1.next) s1 (putD F o.dst v) (a.put o.dst x) := (hP.fr.mono (fun b hb => .inl hb) hs.same).put hdo hv
        have hP1 := hP.next hs hF1 g1.good (by rw [put_size]; exact hP.size) (by rw [put_defers]; exact hP.defers)
        exact evOps_ok hM hn hc hcg r (i + 1) hl' hd' h hP1 (hf.right g1.le) (fun a' w' h' => hQ a' w' (Post.trans hs h'))
      · rename_i H1 hop
        have g1 := evOp_skp hP.good hop
        have g2 := evOps_good hcg r g1.good h
        obtain ⟨s1, w1, hr, hs⟩ := evOp_ok hM.tab hP.gl hP.fr hP.sat hn hf1 hP.good o hop
        rw [hr]
        have hF1 : FrOk (Dn D H.next H1.next) s1 (delD F o.dst) (a.put o.dst undef) := (hP.fr.mono (fun b hb => .inl hb) hs.same).del hdo
        have hP1 := hP.next hs hF1 g1.good (by rw [put_size]; exact hP.size) (by rw [put_defers]; exact hP.defers)
        exact evOps_ok hM hn hc hcg r (i + 1) hl' hd' h hP1 (hf.right g1.le) (fun a' w' h' => hQ a' w' (Post.trans hs h'))
      · rename_i g vs H0 hop
        have g0 := evOp_ent hP.good hop
        obtain ⟨rfl, xs, hxs, hr⟩ := evOp_ok hM.tab hP.gl hP.fr hP.sat hn hf1 hP.good o hop
        split at h
        · rename_i v H1 hcl
          have g1 := hcg _ _ _ _ _ hcl g0.good
          have g2 := evOps_good hcg r g1.good h
          have hfc : Fresh D H.flush H1 := fun b h1 h2 => hf b (by rw [Hp.next_flush] at h1; exact h1) (Nat.le_trans h2 g2.le)
          obtain ⟨⟨fn, c, e1, e2⟩, hcalls⟩ := hc _ _ _ _ _ hcl D s w xs hP.gl hxs hP.sat.flush g0.good hfc
          rw [hr, run_callFunc hM e1 e2]
          refine Calls.mono hcalls fun e w1 he => ?_
          cases e with
          | returned x =>
            obtain ⟨s1, hs0, hv⟩ := he
            have hs : Step n0 w0 D s H w s1 H1 w1 := (Step.flush hP.sat).trans (by rw [Hp.next_flush, dn_refl]; exact hs0)
            rw [Hp.next_flush] at hv
            have hF1 : FrOk (Dn D H.next H1.next) s1 (putD F o.dst v) (a.put o.dst x) := (hP.fr.mono (fun b hb => .inl hb) hs.same).put hdo hv
            have hP1 := hP.next hs hF1 g1.good (by rw [put_size]; exact hP.size) (by rw [put_defers]; exact hP.defers)
            exact evOps_ok hM hn hc hcg r (i + 1) hl' hd' h hP1 (hf.right hs.next) (fun a' w' h' => hQ a' w' (Post.trans hs h'))
          | panicked c => exact he.elim
          | outgrown => exact he.elim
        · cases h
      · cases h
    · rename_i hw
      rw [wantedV_ok hP.fr hw, if_neg (by simp)]
      have hP1 : Pre T n0 w0 nt D s (delD F o.dst) H (a.put o.dst undef) w := ⟨hP.gl, hP.fr.del hdo, hP.sat, hP.good, by rw [put_size]; exact hP.size, by rw [put_defers]; exact hP.defers⟩
      exact evOps_ok hM hn hc hcg r (i + 1) hl' hd' h hP1 hf hQ
    · cases h
end
end Go.AM
