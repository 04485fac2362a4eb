/- The operations that make memory (4): append, in one word. -/
import Derived.Test.YtaenhbfgfhhbcaaAmOpC
set_option linter.unusedVariables false
set_option linter.unusedSimpArgs false
namespace Go.AM
open Go Go.RowKit
section
variable {T : Tab} {P : Program} {D : Nat → Prop} {s : Sg} {n0 : Nat} {w0 w w' : World} {H : Hp}

/-- In its place. -/
theorem app_in (hS : Sat n0 w0 D s H w) (hn : n0 ≤ w0.heap.size) (hf : ¬ D H.next) (hst : H.next ∉ H.stale) {b n m sz : Nat} {e e' : TypeId} {cs news : List V} {xs : List Value} (hD : D b) (hg : H.get b = some (.row e sz false cs)) (hbs : b ∉ H.stale)
    (hsz : (s b).sz = sz) (h0 : 0 < sz) (hns : n * sz = cs.length) (hroom : n + m ≤ (s b).cap) (hr : RvL D s news xs) (hone : news.all oneV = true) (hl : xs.length = m * sz)
    {C : Array Value} {et : TypeId} {fz : Nat × Nat} (hC : w.heap[(s b).b]? = some (.cells C et fz)) :
    ∃ s', Step n0 w0 D s H w s' { H.new (.row e' sz false (cs ++ news)) with stale := b :: H.stale } (w.setRow (s b).b (setL C.toList ((s b).base + n * sz) xs).toArray) ∧
      Rv (Dn D H.next (H.next + 1)) s' (.sl H.next 0 (n + m) none sz) (.slice (some ⟨(s b).b, (s b).base, none⟩) (n + m) (s b).cap) := by
  have hrow := hS.row b e sz false cs hD hg
  have hbs' : H.stale.contains b = false := by
    cases hc : H.stale.contains b with
    | false => rfl
    | true => exact absurd (List.contains_iff_mem.1 hc) hbs
  rw [hbs', Bool.or_false] at hrow
  obtain ⟨⟨C1, et1, fz1, g1, g2, g3, g4⟩, g5, g6, g7, g8⟩ := hrow
  rw [hC] at g1
  cases g1
  have hnl := hr.length
  have hcap : cs.length + m * sz ≤ (s b).cap * sz := by rw [← hns, ← Nat.add_mul]; exact Nat.mul_le_mul_right _ hroom
  have hfit : (s b).base + n * sz + xs.length ≤ C.toList.length := by have : C.toList.length = C.size := Array.length_toList; omega
  obtain ⟨m1, m2⟩ := upd_mono (s := s) (L := s b) hf
  have hne : b ≠ H.next := fun e => hf (e ▸ hD)
  have hheap := setRow_heap w (s b).b C (setL C.toList ((s b).base + n * sz) xs).toArray et fz hC
  have hstep := step_app (e' := e') hS hn hf hD hg hbs hst (But.setRow w (s b).b (setL C.toList ((s b).base + n * sz) xs).toArray) (cs' := cs ++ news) (by simp) (L := s b) rfl rfl
    ⟨⟨_, et, fz, hheap, by rw [size_setL]; exact g2, fun i v hv => ?_, g4⟩, hsz, by rw [List.length_append]; omega, by rw [List.all_append, g7, hone]; rfl, g8⟩
    (fun C' C'' et' et'' fz' fz'' h1 h2 => by
      rw [hC] at h1; cases h1
      rw [hheap] at h2; cases h2
      refine ⟨size_setL _ _ _, fun i hi => ?_⟩
      rw [← Array.getElem?_toList, List.toList_toArray, setL_get _ _ _ _ hfit, if_neg (by omega), Array.getElem?_toList])
    ⟨_, _, _, hheap⟩
  · refine ⟨_, hstep, ?_⟩
    have := Rv.sln (D := Dn D H.next (H.next + 1)) (s := upd s H.next (s b)) H.next 0 (n + m) sz (dn_self D _) (by rw [upd_self]; exact hsz) h0 (Nat.zero_mod _) (by rw [upd_self]; simpa using hroom)
    rw [upd_self] at this
    simpa using this
  · by_cases hi : i < cs.length
    · rw [List.getElem?_append_left hi] at hv
      obtain ⟨x, hx, hr'⟩ := g3 i v hv
      refine ⟨x, ?_, hr'.mono m1 m2⟩
      rw [← Array.getElem?_toList, List.toList_toArray, setL_get _ _ _ _ hfit, if_neg (by omega), Array.getElem?_toList]
      exact hx
    · rw [List.getElem?_append_right (by omega)] at hv
      obtain ⟨x, hx, hr'⟩ := hr.get _ v hv
      have hlt : i - cs.length < xs.length := (List.getElem?_eq_some_iff.1 hx).1
      refine ⟨x, ?_, hr'.mono m1 m2⟩
      rw [← Array.getElem?_toList, List.toList_toArray, setL_get _ _ _ _ hfit, if_pos (by omega)]
      rw [show (s b).base + i - ((s b).base + n * sz) = i - cs.length from by omega]
      exact hx

theorem append_ok (hT : TabOk T P) (hS : Sat n0 w0 D s H w) (hn : n0 ≤ w0.heap.size) (hf : ¬ D H.next) (hst : H.next ∉ H.stale) {t e ty : TypeId} {i : TI} {v y : V} {xv xy : Value} (hd : descOf T t = some (.slice e)) (hi : T.ty e = some i)
    (hv : Rv D s v xv) (hy : Rv D s y xy) {r : V} {ob : Option Ob} {kb : Option Nat} {F : Fr} {args : Array Operand} (ha : opds T.ng F args.toList = some [v, y])
    (h : evA T (.call ⟨.builtin .append, args, #[t, t]⟩) F H.get H.next = some (r, ob, kb)) (hkb : ∀ b, kb = some b → ob.isSome = true → b ∉ H.stale) :
    ∃ x s' w', (Builtin.append_ #[t, t] ty #[xv, xy]).run P w = .ok x w' ∧ Step n0 w0 D s H w s' (afterA H ob kb) w' ∧ Rv (Dn D H.next (afterA H ob kb).next) s' r x := by
  have hu := und_slice hT hd
  obtain ⟨inf, d, z, e1, e2, e3, e4, e5, e6, e7, e8, e9⟩ := ti_parts hT hi
  have hzs : z.cells.size = i.size := by
    have := (zero_rv (D := D) (s := s) e7).1.length
    simp only [Array.length_toList] at this; omega
  have eD : Dn D H.next H.next = D := by funext b; simp [Dn]; intro h1 h2; omega
  simp only [evA, ha, ne_eq, not_true_eq_false, if_false, hd, hi] at h
  split at h
  · -- nothing is appended
    rename_i l htk
    obtain ⟨A, c', rfl, _⟩ := takeSl_ok hS hy htk
    have same : ∀ A1 n c, xv = .slice A1 n c → n ≤ c → Rv D s r xv → ob = none → ∃ x s' w', (Builtin.append_ #[t, t] ty #[xv, .slice A 0 c']).run P w = .ok x w' ∧ Step n0 w0 D s H w s' (afterA H ob kb) w' ∧ Rv (Dn D H.next (afterA H ob kb).next) s' r x := by
      rintro A1 n c rfl hnc hr rfl
      refine ⟨_, s, w, run_append_zero hu e1 hnc w, Step.refl hS, ?_⟩
      rw [show afterA H none kb = H from rfl, eD]
      exact hr
    split at h
    · cases h
      obtain ⟨c, hx, hnc, _⟩ := sl_form hv
      exact same _ _ _ hx hnc hv rfl
    · cases h
      have hv' := hv
      cases hv'
      exact same _ _ _ rfl (Nat.le_refl _) hv rfl
    · cases h
      have hv' := hv
      cases hv'
      exact same _ _ _ rfl (Nat.zero_le _) hv rfl
    · cases h
  · rename_i m news hm0 htk
    obtain ⟨A, c', rfl, hA⟩ := takeSl_ok hS hy htk
    have hm : m ≠ 0 := fun e => hm0 e
    rcases hA with h' | ⟨a, xs, rfl, hr, hone, hl, hcell⟩
    · exact absurd h' hm
    have hnl := hr.length
    have hones := ones_of hr hone
    split at h
    · -- onto nil
      split at h
      · rename_i hb
        cases h
        cases hv
        have hrun := run_append_nil (P := P) w t ty e inf z hu e1 e6 a m c' xs (by rw [e4]; exact hl) hcell (by omega) (by omega) (by rw [e5]; omega)
        obtain ⟨x, s', w', h1, h2, h3⟩ := sv_grow hT hS hn hf hst hzs hb.2.2 hr hone (by omega) rfl H.stale (fun x h => .inl h) (fun x h => h) hst hrun
        exact ⟨x, s', w', h1, h2, h3⟩
      · cases h
    · rename_i b off n cap z'
      obtain ⟨c, rfl, hnc, hD, hsz, hz0, hoff, hcap, hfit⟩ := sl_form hv
      split at h
      · rename_i e' sz ro cs hg
        split at h
        · rename_i hc
          obtain ⟨c1, c2, c3, c4, c5⟩ := hc
          subst c1; subst c2
          obtain ⟨ys, hry, hcy⟩ := (hS.row b _ _ _ _ hD hg).vals
          have honey := (hS.row b _ _ _ _ hD hg).one
          have hyl := hry.length
          have holds : ∀ j u, ((ys.drop off).take (n * i.size))[j]? = some u → w.cell? ((Addr.mk (s b).b ((s b).base + off) none).add j) = some u := fun j u hu => by
            rw [List.getElem?_take] at hu
            split at hu
            · rw [List.getElem?_drop] at hu
              rw [add_off]
              exact hcy _ _ hu
            · cases hu
          have hro : RvL D s ((cs.drop off).take (n * i.size)) ((ys.drop off).take (n * i.size)) := (hry.drop off).take _
          have hoo : ((cs.drop off).take (n * i.size)).all oneV = true := by
            rw [List.all_eq_true] at honey ⊢
            exact fun c hc => honey c (List.mem_of_mem_drop (List.mem_of_mem_take hc))
          have hlo : ((ys.drop off).take (n * i.size)).length = n * inf.size := by
            simp only [List.length_take, List.length_drop]; rw [e4]; omega
          have hgrow : ∀ old, old < n + m → ∀ (stl : List Nat), (∀ x, x ∈ stl → x ∈ H.stale ∨ D x ∧ Ow H x) → (∀ x, x ∈ H.stale → x ∈ stl) → H.next ∉ stl → c = old →
              ∃ x s' w', (Builtin.append_ #[t, t] ty #[.slice (some ⟨(s b).b, (s b).base + off, none⟩) n c, .slice (some a) m c']).run P w = .ok x w' ∧
                Step n0 w0 D s H w s' { H.new (.row e i.size false ((cs.drop off).take (n * i.size) ++ news)) with stale := stl } w' ∧ Rv (Dn D H.next (H.next + 1)) s' (.sl H.next 0 (n + m) none i.size) x := by
            rintro old hlt stl q1 q2 q3 rfl
            have hrun := run_append_grow (P := P) w t ty e inf z hu e1 e6 ⟨(s b).b, (s b).base + off, none⟩ n c _ hlo holds a m c' xs (by rw [e4]; exact hl) hcell hlt (by omega) (by rw [e5]; exact growslice_fits hlt c4)
            refine sv_grow hT hS hn hf hst hzs hz0 (hro.append hr) (by rw [List.all_append, hoo, hone]; rfl) ?_ ?_ stl q1 q2 q3 hrun
            · rw [List.length_append, hnl, hl, hro.length, hlo, e4, Nat.add_mul]
            · simp
          split at h
          · -- up to the row's end
            split at h
            · rename_i hend
              obtain ⟨d1, d2, d3⟩ := hend
              subst d1; subst d3
              cases h
              have hbs := hkb b rfl rfl
              have hob : Ow H b := by unfold Ow; rw [hg]; exact ⟨rfl, hbs⟩
              have hnb : H.next ≠ b := fun e => hf (e ▸ hD)
              dsimp only at hcap
              have hcap' : c = (s b).cap := by rw [hcap]; simp
              have htake : (cs.drop 0).take (n * i.size) = cs := by rw [List.drop_zero, d2, List.take_length]
              by_cases hroom : n + m ≤ c
              · obtain ⟨C, et, fz, g1, g2, g3, g4⟩ := (hS.row b _ _ _ _ hD hg).hp
                have hbs' : H.stale.contains b = false := by
                  cases hc : H.stale.contains b with
                  | false => rfl
                  | true => exact absurd (List.contains_iff_mem.1 hc) hbs
                rw [hbs'] at g4
                have hcapsz : (n + m) * i.size ≤ (s b).cap * i.size := Nat.mul_le_mul_right _ (by omega)
                rw [Nat.add_mul] at hcapsz
                have hrun := run_append_in (P := P) (ty := ty) (t := t) (c := c) (c' := c') (n := n) (m := m) (base := (s b).base + 0) hu e1 g1 (by rw [e4]; exact hl) hcell hones hroom (by rw [e4]; omega) (fun j h1 h2 => g4 rfl j (by omega) (by rw [e4] at h2; omega))
                obtain ⟨s', h1, h2⟩ := app_in (e' := e) hS hn hf hst hD hg hbs hsz hz0 d2 (by omega) hr hone hl g1
                refine ⟨_, s', _, hrun, ?_, ?_⟩
                · rw [e4, Nat.add_zero]; exact h1
                · rw [hcap', Nat.add_zero]; exact h2
              · have := hgrow c (by omega) (b :: H.stale) (fun x hx => by
                  simp only [List.mem_cons] at hx
                  rcases hx with rfl | hx
                  · exact .inr ⟨hD, hob⟩
                  · exact .inl hx) (fun x hx => by simp [hx]) (by simp [hnb, hst]) rfl
                rw [htake] at this
                exact this
            · cases h
          · rename_i k
            split at h
            · rename_i hk
              cases h
              have hck : c = k := hcap
              exact hgrow c (by omega) H.stale (fun x h => .inl h) (fun x h => h) hst rfl
            · cases h
        · cases h
      · cases h
    · cases h
  · cases h
end
end Go.AM
