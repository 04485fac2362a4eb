/- The operations that make memory (3): append. -/
import Derived.Test.YtaenhbfgfhhbcaaAmOpB
set_option linter.unusedVariables false
set_option linter.unusedSimpArgs false
namespace Go.AM
open Go Go.RowKit
section
variable {T : Tab} {P : Program} {D : Nat → Prop} {s : Sg} {n0 : Nat} {w0 w w' : World} {H : Hp}

/-- What is appended: nothing; or so many cells, as they lie. -/
theorem takeSl_ok (hS : Sat n0 w0 D s H w) {sz m : Nat} {v : V} {x : Value} {news : List V} (hx : Rv D s v x) (h : takeSl H.get sz v = some (m, news)) :
    (∃ A c, x = .slice A m c ∧ (m = 0 ∨ ∃ a xs, A = some a ∧ RvL D s news xs ∧ news.all oneV = true ∧ xs.length = m * sz ∧ ∀ j u, xs[j]? = some u → w.cell? (a.add j) = some u)) := by
  unfold takeSl at h
  split at h
  · cases h; cases hx; exact ⟨_, _, rfl, .inl rfl⟩
  · cases h; cases hx; exact ⟨_, _, rfl, .inl rfl⟩
  · rename_i b off n c z
    split at h
    · rename_i e sz' ro cs hg
      split at h
      · rename_i hc
        obtain ⟨rfl, hl⟩ := hc
        cases h
        have hD : D b := by cases hx <;> assumption
        have hrow := hS.row b _ _ _ _ hD hg
        obtain ⟨xs, hr, hcell⟩ := hrow.vals
        have hone := hrow.one
        have hlen := hr.length
        have key : ∃ a xs', (some (Addr.mk (s b).b ((s b).base + off) none)) = some a ∧ RvL D s ((cs.drop off).take (m * sz')) xs' ∧ ((cs.drop off).take (m * sz')).all oneV = true ∧ xs'.length = m * sz' ∧ ∀ j u, xs'[j]? = some u → w.cell? (a.add j) = some u := by
          refine ⟨_, (xs.drop off).take (m * sz'), rfl, (hr.drop off).take _, ?_, by simp only [List.length_take, List.length_drop]; omega, fun j u hu => ?_⟩
          · rw [List.all_eq_true] at hone ⊢
            exact fun c hc => hone c (List.mem_of_mem_drop (List.mem_of_mem_take hc))
          · rw [List.getElem?_take] at hu
            split at hu
            · rw [List.getElem?_drop] at hu
              rw [add_off]
              exact hcell _ _ hu
            · cases hu
        cases hx with
        | sln _ _ _ _ _ _ _ _ _ => exact ⟨_, _, rfl, .inr key⟩
        | slc _ _ _ _ _ _ _ _ _ _ _ => exact ⟨_, _, rfl, .inr key⟩
      · cases h
    · cases h
  · cases h
theorem run_append_zero {t e ty : TypeId} {inf : TypeInfo} (hu : P.underlying t = some (.slice e)) (hi : P.info? e = some inf) {A B : Option Addr} {n c c' : Nat} (hn : n ≤ c) (w : World) :
    (Builtin.append_ #[t, t] ty #[.slice A n c, .slice B 0 c']).run P w = .ok (.slice A n c) w := by
  cases A <;> cases B <;> simp [Builtin.append_, run_underlying hu, sizeOf, typeInfo, hi, Builtin.lenOf, Builtin.firstCells, loadCells, loadCellsFrom, hn, storeCells]
theorem run_append_in {t e ty : TypeId} {inf : TypeInfo} (hu : P.underlying t = some (.slice e)) (hi : P.info? e = some inf) {g base n m c c' : Nat} {a : Addr} {C : Array Value} {et : TypeId} {fz : Nat × Nat} {xs : List Value}
    (hg : w.heap[g]? = some (.cells C et fz)) (hl : xs.length = m * inf.size) (hx : ∀ j u, xs[j]? = some u → w.cell? (a.add j) = some u) (hone : ∀ u ∈ xs, Value.oneCell' u = true) (hroom : n + m ≤ c)
    (hfit : base + n * inf.size + m * inf.size ≤ C.size) (hfz : ∀ j, base + n * inf.size ≤ j → j < base + n * inf.size + m * inf.size → ¬ (fz.1 ≤ j ∧ j < fz.2)) :
    (Builtin.append_ #[t, t] ty #[.slice (some ⟨g, base, none⟩) n c, .slice (some a) m c']).run P w = .ok (.slice (some ⟨g, base, none⟩) (n + m) c) (w.setRow g (setL C.toList (base + n * inf.size) xs).toArray) := by
  have h1 := run_loadCells_list (P := P) (w := w) a xs hx
  rw [hl] at h1
  have h2 := run_storeCells P xs w g (base + n * inf.size) 0 C et fz hg (by rw [hl]; omega) (by rw [hl]; simpa using hfz) hone
  have hadd : (Addr.mk g base none).add (n * inf.size) = ⟨g, base + n * inf.size, none⟩ := by
    have := add_off g base 0 (n * inf.size)
    simpa using this
  simp [Builtin.append_, run_underlying hu, sizeOf, typeInfo, hi, Builtin.lenOf, Builtin.firstCells, hroom, h1, hadd, h2]
/-- The slice that is gone on from, as a value: its length lies within its capacity. -/
theorem sl_form {b off n z : Nat} {cap : Option Nat} {x : Value} (h : Rv D s (.sl b off n cap z) x) : ∃ c, x = .slice (some ⟨(s b).b, (s b).base + off, none⟩) n c ∧ n ≤ c ∧ D b ∧ (s b).sz = z ∧ 0 < z ∧ off % z = 0 ∧ (match cap with | none => c = (s b).cap - off / z | some k => c = k) ∧ off / z + n ≤ (s b).cap := by
  cases h with
  | sln _ _ _ _ hD h1 h2 h3 h4 => exact ⟨_, rfl, by omega, hD, h1, h2, h3, rfl, h4⟩
  | slc _ _ _ k _ hD h1 h2 h3 h4 h5 => exact ⟨_, rfl, h4, hD, h1, h2, h3, rfl, by omega⟩
theorem sv_grow (hT : TabOk T P) (hS : Sat n0 w0 D s H w) (hn : n0 ≤ w0.heap.size) (hf : ¬ D H.next) (hst : H.next ∉ H.stale) {e : TypeId} {i : TI} {z : Value} (hz : z.cells.size = i.size) (h0 : 0 < i.size) {k old : Nat} {cs : List V} {xs : List Value} (hr : RvL D s cs xs) (ho : cs.all oneV = true) (hl : cs.length = k * i.size)
    {C : Array Value} (hC : C = xs.toArray ++ Builtin.zeroCells z.cells (grownCap w k old e - k))
    (stl : List Nat) (hstl : ∀ x, x ∈ stl → x ∈ H.stale ∨ D x ∧ Ow H x) (hsub : ∀ x, x ∈ H.stale → x ∈ stl) (hstn : H.next ∉ stl) {r : Result Value} (hrun : r = .ok (.slice (some ⟨w.heap.size, 0, none⟩) k (grownCap w k old e)) (w.drew.alloc (.cells C e))) :
    ∃ x s' w', r = .ok x w' ∧ Step n0 w0 D s H w s' { H.new (.row e i.size false cs) with stale := stl } w' ∧ Rv (Dn D H.next (H.next + 1)) s' (.sl H.next 0 k none i.size) x := by
  have hge := grownCap_ge w k old e
  have hp := Plus.drew w (.cells C e)
  have hxl := hr.length
  have hsz : C.size = grownCap w k old e * i.size := by
    subst hC
    simp only [Array.size_append, List.size_toArray, size_zeroCells, hz]
    rw [← hxl, hl, ← Nat.add_mul]
    congr 1
    omega
  have hle : cs.length ≤ grownCap w k old e * i.size := by rw [hl]; exact Nat.mul_le_mul_right _ hge
  have := sv_row (e := e) hS hn hf hst hp hr ho (rest := (Builtin.zeroCells z.cells (grownCap w k old e - k)).toList) (by subst hC; simp) (cap := grownCap w k old e) (sz := i.size) hle (by omega) stl hstl hsub hstn
  exact ⟨_, _, _, hrun, this, sl_new h0 hge⟩
theorem ones_of {cs : List V} {xs : List Value} (hr : RvL D s cs xs) (ho : cs.all oneV = true) : ∀ u ∈ xs, Value.oneCell' u = true := by
  intro u hu
  obtain ⟨i, hi, rfl⟩ := List.getElem_of_mem hu
  have hl := hr.length
  obtain ⟨x, hx, hrv⟩ := hr.get i cs[i] (List.getElem?_eq_getElem (by omega))
  rw [List.getElem?_eq_getElem hi] at hx
  cases hx
  rw [List.all_eq_true] at ho
  exact hrv.one (ho _ (List.getElem_mem _))
theorem stl_self (H : Hp) : (∀ x, x ∈ H.stale → x ∈ H.stale ∨ D x ∧ Ow H x) ∧ (∀ x, x ∈ H.stale → x ∈ H.stale) := ⟨fun _ h => .inl h, fun _ h => h⟩
end
end Go.AM
