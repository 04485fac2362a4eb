/- The operations that make memory (2): rows of elements. -/
import Derived.Test.YtaenhbfgfhhbcaaAmOpA
set_option linter.unusedVariables false
set_option linter.unusedSimpArgs false
namespace Go.AM
open Go Go.RowKit
section
variable {T : Tab} {P : Program} {D : Nat → Prop} {s : Sg} {n0 : Nat} {w0 w w' : World} {H : Hp}

def replL {α : Type} (z : List α) : Nat → List α
  | 0 => []
  | n + 1 => z ++ replL z n
theorem repl_eq (z : List V) : ∀ n, repl z n = replL z n
  | 0 => rfl
  | n + 1 => by rw [repl, replL, repl_eq z n]
theorem replL_length {α : Type} (z : List α) : ∀ n, (replL z n).length = n * z.length
  | 0 => by simp [replL]
  | n + 1 => by rw [replL, List.length_append, replL_length z n, Nat.succ_mul]; omega
theorem replL_get {α : Type} (z : List α) : ∀ (n i : Nat), i < n * z.length → (replL z n)[i]? = z[i % z.length]?
  | 0, i, h => by simp at h
  | n + 1, i, h => by
    rw [replL]
    by_cases hi : i < z.length
    · rw [List.getElem?_append_left hi, Nat.mod_eq_of_lt hi]
    · rw [List.getElem?_append_right (by omega), replL_get z n _ (by rw [Nat.succ_mul] at h; omega)]
      congr 1
      rw [Nat.mod_eq_sub_mod (a := i) (by omega)]
theorem range_repl (z : Array Value) (n : Nat) : ((Array.range (n * z.size)).map fun i => z[i % z.size]!).toList = replL z.toList n := by
  apply List.ext_getElem?
  intro i
  by_cases hi : i < n * z.size
  · rw [replL_get _ _ _ (by simpa using hi)]
    have hz : 0 < z.size := by rcases Nat.eq_zero_or_pos z.size with h | h; (rw [h] at hi; omega); exact h
    have hm := Nat.mod_lt i hz
    simp [hi, hm, getElem!_pos]
  · rw [List.getElem?_eq_none (by simp; omega), List.getElem?_eq_none (by rw [replL_length]; simp; omega)]
theorem RvL.repl : ∀ (n : Nat) {z : List V} {y : List Value}, RvL D s z y → RvL D s (replL z n) (replL y n)
  | 0, _, _, h => .nil
  | n + 1, _, _, h => h.append (RvL.repl n h)
theorem all_replL (p : V → Bool) (z : List V) (h : z.all p = true) : ∀ n, (replL z n).all p = true
  | 0 => rfl
  | n + 1 => by rw [replL, List.all_append, h, all_replL p z h n]; rfl
theorem fillV_length (place : Nat → Option (Nat × Nat)) : ∀ (ps : List (Nat × V)) (cs r : List V), fillV place cs ps = some r → r.length = cs.length
  | [], cs, r, h => by simp only [fillV] at h; cases h; rfl
  | (i, v) :: ps, cs, r, h => by
    simp only [fillV] at h
    split at h
    · cases h
    · split at h
      · cases h
      · rw [fillV_length place ps _ _ h, setCells_eq, setL_length]

theorem sl_new {cap sz len : Nat} (hsz : 0 < sz) (hl : len ≤ cap) : Rv (Dn D H.next (H.next + 1)) (upd s H.next ⟨w.heap.size, 0, cap, sz⟩) (.sl H.next 0 len none sz) (.slice (some ⟨w.heap.size, 0, none⟩) len cap) := by
  have := Rv.sln (D := Dn D H.next (H.next + 1)) (s := upd s H.next ⟨w.heap.size, 0, cap, sz⟩) H.next 0 len sz (dn_self D _) (by rw [upd_self]) hsz (Nat.zero_mod _) (by rw [upd_self]; simpa using hl)
  rw [upd_self] at this
  simpa using this
theorem buildSlice_ok (hT : TabOk T P) (hS : Sat n0 w0 D s H w) (hn : n0 ≤ w0.heap.size) (hf : ¬ D H.next) (hst : H.next ∉ H.stale) {t e : TypeId} {i : TI} {len : Nat} {ps : List (Nat × V)} {qs : Array (Nat × Value)} {cs : List V} (hd : descOf T t = some (.slice e)) (hi : T.ty e = some i) (hb : len * i.size ≤ 16777216) (h0 : 0 < i.size)
    (hp : Pz D s ps qs.toList) (h : fillV (fun j => some (j * i.size, i.size)) (repl i.zero len) ps = some cs) :
    SV P n0 w0 D s H w ((do pure (.value (← Instr.buildSlice t len qs)) : Sem Next).run P w) (H.new (.row e i.size false cs)) (.sl H.next 0 len none i.size) := by
  have hu := und_slice hT hd
  obtain ⟨inf, d, z, e1, e2, e3, e4, e5, e6, e7, e8, e9⟩ := ti_parts hT hi
  obtain ⟨z1, z2⟩ := zero_rv (D := D) (s := s) e7
  have hzs : z.cells.size = i.size := by have := z1.length; simp only [Array.length_toList] at this; omega
  have hr1 : RvL D s (repl i.zero len) ((Array.range (len * i.size)).map fun j => z.cells[j % z.cells.size]!).toList := by
    rw [repl_eq, ← hzs, range_repl]; exact RvL.repl len z1
  have ho1 : (repl i.zero len).all oneV = true := by rw [repl_eq]; exact all_replL _ _ z2 len
  obtain ⟨B, hB, r1, r2⟩ := fill_ok _ hp hr1 ho1 h
  have hlen : cs.length = len * i.size := by rw [fillV_length _ _ _ _ h, repl_eq, replL_length, e9]
  have hBs : B.size = len * i.size := by have := r1.length; simp only [Array.length_toList] at this; omega
  have hpl := Plus.alloc w (.cells B e)
  have hstep := sv_row' (e := e) hS hn hf hst hpl r1 r2 (rest := []) (by simp) (cap := len) (sz := i.size) (by omega) (by omega)
  refine ⟨_, _, _, ?_, hstep, sl_new h0 (Nat.le_refl _)⟩
  have hzv : (zeroValue e).run P w = .ok z w := by simp [zeroValue, typeInfo, e1, e6]
  have hnb : ¬ (len * i.size > 2 ^ 24) := by omega
  by_cases hl0 : len = 0
  · subst hl0
    have e0 : ∀ f : Nat → Value, Array.map f (Array.range (0 * i.size)) = #[] := fun f => by simp
    rw [e0] at hB
    simp only [Instr.buildSlice, Sem.run_bind, run_underlying hu, Result.andThen_ok, size_of hT hi, Sem.run_ite]
    rw [if_neg hnb, if_pos (by simp)]
    simp only [Sem.run_pure, Result.andThen_ok]
    rw [e0, hB]
    simp [newRow]
  · have hne : ¬ len * i.size = 0 := by
      rw [Nat.mul_eq_zero]; omega
    have hnb' : ¬ (16777216 < len * i.size) := by omega
    simp only [Instr.buildSlice, Sem.run_bind, run_underlying hu, Result.andThen_ok, size_of hT hi, Sem.run_ite, hne, if_false, hzv, Sem.run_pure]
    rw [if_neg hnb]
    simp [hB, newRow]
theorem makeSlice_ok (hT : TabOk T P) (hS : Sat n0 w0 D s H w) (hn : n0 ≤ w0.heap.size) (hf : ¬ D H.next) (hst : H.next ∉ H.stale) {t e : TypeId} {i : TI} {l c : Int} {kl kc : IntKind} (hd : descOf T t = some (.slice e)) (hi : T.ty e = some i)
    (h : 0 ≤ l ∧ l ≤ c ∧ i.bytes * c ≤ 140737488355328 ∧ c ≤ 9223372036854775807 ∧ 0 < i.size) :
    SV P n0 w0 D s H w ((do pure (.value (← Instr.makeSlice t (.int kl l) (.int kc c))) : Sem Next).run P w) (H.new (.row e i.size false (repl i.zero c.toNat))) (.sl H.next 0 l.toNat none i.size) := by
  obtain ⟨h1, h2, h3, h4, h5⟩ := h
  have hu := und_slice hT hd
  obtain ⟨inf, d, z, e1, e2, e3, e4, e5, e6, e7, e8, e9⟩ := ti_parts hT hi
  obtain ⟨z1, z2⟩ := zero_rv (D := D) (s := s) e7
  have hzs : z.cells.size = i.size := by have := z1.length; simp only [Array.length_toList] at this; omega
  obtain ⟨cn, rfl⟩ : ∃ cn : Nat, c = cn := ⟨c.toNat, by omega⟩
  obtain ⟨ln, rfl⟩ : ∃ ln : Nat, l = ln := ⟨l.toNat, by omega⟩
  simp only [Int.toNat_natCast]
  have hr1 : RvL D s (repl i.zero cn) ((Array.range (cn * i.size)).map fun j => z.cells[j % z.cells.size]!).toList := by
    rw [repl_eq, ← hzs, range_repl]; exact RvL.repl cn z1
  have ho1 : (repl i.zero cn).all oneV = true := by rw [repl_eq]; exact all_replL _ _ z2 cn
  have hpl := Plus.alloc w (.cells ((Array.range (cn * i.size)).map fun j => z.cells[j % z.cells.size]!) e)
  have hstep := sv_row' (e := e) hS hn hf hst hpl hr1 ho1 (rest := []) (by simp) (cap := cn) (sz := i.size) (by rw [repl_eq, replL_length, e9]; exact Nat.le_refl _) (by simp)
  refine ⟨_, _, _, ?_, hstep, sl_new h5 (by omega)⟩
  have hzv : (zeroValue e).run P w = .ok z w := by simp [zeroValue, typeInfo, e1, e6]
  have w1 : IntKind.i64.wrap (ln : Int) = ln := IntWalk.i64_in _ (by omega)
  have w2 : IntKind.i64.wrap (cn : Int) = cn := IntWalk.i64_in _ (by omega)
  have hbig : ¬ ((i.bytes : Int) * (cn : Int) > 2 ^ 48) := by omega
  have hti : (typeInfo e).run P w = .ok inf w := by simp [typeInfo, e1]
  have hle : ¬ ((cn : Int) < (ln : Int)) := by omega
  have hc0 : ¬ ((cn : Int) < 0) := by omega
  have hl0 : ¬ ((ln : Int) < 0) := by omega
  have hcond : (((decide ((cn : Int) < 0) || decide ((inf.bytes : Int) * (cn : Int) > 2 ^ 48)) || decide ((ln : Int) < 0)) || decide ((ln : Int) > (cn : Int))) = false := by
    rw [e5]
    simp only [hc0, hl0, decide_false, Bool.false_or, Bool.or_false, decide_eq_false_iff_not, Bool.or_eq_false_iff]
    exact ⟨hbig, by omega⟩
  simp only [Instr.makeSlice, asInt, asIntOf, Sem.run_bind, run_underlying hu, Result.andThen_ok, Sem.run_pure, hti, w1, w2, hcond, Bool.false_eq_true, if_false, run_askRoom, size_of hT hi, Int.toNat_natCast]
  by_cases hcz : cn * i.size = 0
  · have : cn = 0 := by rcases Nat.mul_eq_zero.1 hcz with h | h <;> omega
    subst this
    have e0 : ∀ f : Nat → Value, Array.map f (Array.range (0 * i.size)) = #[] := fun f => by simp
    simp only [hcz, if_true, Sem.run_pure, Result.andThen_ok, newRow, e0]
    simp only [hcz] at e0
    simp
    rw [e0, e0]
  · simp [hcz, hzv, newRow]
end
end Go.AM
