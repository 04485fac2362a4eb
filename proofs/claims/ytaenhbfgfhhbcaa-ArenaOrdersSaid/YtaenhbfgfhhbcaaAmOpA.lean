/- The operations that make memory. -/
import Derived.Test.YtaenhbfgfhhbcaaAmPut
set_option linter.unusedVariables false
set_option linter.unusedSimpArgs false
namespace Go.AM
open Go Go.RowKit
section
variable {T : Tab} {P : Program} {D : Nat → Prop} {s : Sg} {n0 : Nat} {w0 w w' : World} {H : Hp}

/-- The operation hands a value on, and leaves a heap and a world that fit. -/
def SV (P : Program) (n0 : Nat) (w0 : World) (D : Nat → Prop) (s : Sg) (H : Hp) (w : World) (r : Result Next) (H' : Hp) (v : V) : Prop :=
  ∃ x s' w', r = .ok (.value x) w' ∧ Step n0 w0 D s H w s' H' w' ∧ Rv (Dn D H.next H'.next) s' v x

theorem row_new {C : Array Value} {et : TypeId} (hp : Plus w w' (.cells C et)) (hn : n0 ≤ w.heap.size) {s' : Sg} {D' : Nat → Prop} {cs : List V} {xs rest : List Value} {cap sz : Nat} (hr : RvL D' s' cs xs) (ho : cs.all oneV = true) (hC : C.toList = xs ++ rest) (hl : cs.length ≤ cap * sz) (hc : cap * sz ≤ C.size) :
    RowAt D' s' n0 w' ⟨w.heap.size, 0, cap, sz⟩ sz false cs := by
  refine ⟨⟨C, et, (0, 0), hp.new, by simpa using hc, fun i v hv => ?_, fun _ i h1 h2 h3 => by simp at h3⟩, rfl, hl, ho, fun _ => hn⟩
  obtain ⟨x, hx, hr'⟩ := hr.get i v hv
  refine ⟨x, ?_, hr'⟩
  rw [← Array.getElem?_toList, hC, Nat.zero_add, List.getElem?_append_left (List.getElem?_eq_some_iff.1 hx).1]
  exact hx
theorem dn_self (D : Nat → Prop) (n : Nat) : Dn D n (n + 1) n := .inr ⟨Nat.le_refl _, Nat.lt_succ_self _⟩
theorem upd_mono {b : Nat} {L : Loc} (hf : ¬ D b) : (∀ c, D c → Dn D b (b + 1) c) ∧ (∀ c, D c → upd s b L c = s c) :=
  ⟨fun c h => .inl h, fun c h => upd_ne _ _ (fun e => hf (e ▸ h))⟩
/-- A NEW ROW. -/
theorem sv_row (hS : Sat n0 w0 D s H w) (hn : n0 ≤ w0.heap.size) (hf : ¬ D H.next) (hst : H.next ∉ H.stale) {C : Array Value} {et e : TypeId} (hp : Plus w w' (.cells C et)) {cs : List V} {xs rest : List Value} {cap sz : Nat} (hr : RvL D s cs xs) (ho : cs.all oneV = true) (hC : C.toList = xs ++ rest) (hl : cs.length ≤ cap * sz) (hc : cap * sz ≤ C.size)
    (stl : List Nat) (hstl : ∀ x, x ∈ stl → x ∈ H.stale ∨ D x ∧ Ow H x) (hsub : ∀ x, x ∈ H.stale → x ∈ stl) (hstn : H.next ∉ stl) :
    Step n0 w0 D s H w (upd s H.next ⟨w.heap.size, 0, cap, sz⟩) { H.new (.row e sz false cs) with stale := stl } w' := by
  obtain ⟨m1, m2⟩ := upd_mono (s := s) (L := ⟨w.heap.size, 0, cap, sz⟩) hf
  refine step_new hS hn hf hp rfl (fun e' sz' ro cs' he => ?_) (fun _ _ _ he => by cases he) (fun _ _ _ _ he => by cases he) hst stl hstl hsub hstn
  cases he
  exact ⟨row_new hp (Nat.le_trans hn hS.below.size) (hr.mono m1 m2) ho hC hl hc, rfl⟩
theorem new_eq (H : Hp) (ob : Ob) : H.new ob = { H.new ob with stale := H.stale } := rfl
theorem sv_row' (hS : Sat n0 w0 D s H w) (hn : n0 ≤ w0.heap.size) (hf : ¬ D H.next) (hst : H.next ∉ H.stale) {C : Array Value} {et e : TypeId} (hp : Plus w w' (.cells C et)) {cs : List V} {xs rest : List Value} {cap sz : Nat} (hr : RvL D s cs xs) (ho : cs.all oneV = true) (hC : C.toList = xs ++ rest) (hl : cs.length ≤ cap * sz) (hc : cap * sz ≤ C.size) :
    Step n0 w0 D s H w (upd s H.next ⟨w.heap.size, 0, cap, sz⟩) (H.new (.row e sz false cs)) w' := by
  rw [new_eq]
  exact sv_row hS hn hf hst hp hr ho hC hl hc H.stale (fun x h => .inl h) (fun x h => h) hst

theorem alloc_ok (hT : TabOk T P) (hS : Sat n0 w0 D s H w) (hn : n0 ≤ w0.heap.size) (hf : ¬ D H.next) (hst : H.next ∉ H.stale) {e : TypeId} {i : TI} (hi : T.ty e = some i) {cap sz : Nat} (hcs : cap * sz = i.size) :
    SV P n0 w0 D s H w ((do pure (.value (← Instr.alloc e true (.tuple #[]))) : Sem Next).run P w) (H.new (.row e sz false i.zero)) (.ptr H.next 0) := by
  obtain ⟨inf, d, z, e1, e2, e3, e4, e5, e6, e7, e8, e9⟩ := ti_parts hT hi
  obtain ⟨z1, z2⟩ := zero_rv (D := D) (s := s) e7
  have hp := Plus.alloc w (.cells z.cells e)
  have hlen : z.cells.size = i.size := by have := z1.length; simp only [Array.length_toList] at this; omega
  have hst' := sv_row' (e := e) hS hn hf hst hp z1 z2 (rest := []) (by simp) (cap := cap) (sz := sz) (by omega) (by omega)
  refine ⟨.pointer (some ⟨w.heap.size, 0, none⟩), _, _, ?_, hst', ?_⟩
  · simp [Instr.alloc, zeroValue, typeInfo, e1, e6, newVar, newRow]
  · have := Rv.ptr (D := Dn D H.next (H.next + 1)) (s := upd s H.next ⟨w.heap.size, 0, cap, sz⟩) H.next 0 (dn_self D _)
    rw [upd_self] at this
    exact this
theorem box_ok (hS : Sat n0 w0 D s H w) (hn : n0 ≤ w0.heap.size) (hf : ¬ D H.next) (hst : H.next ∉ H.stale) {e : TypeId} {v : V} {x : Value} (hx : Rv D s v x) (ho : (cellsV v).all oneV = true) {cap sz : Nat} (hcs : cap * sz = (cellsV v).length) :
    SV P n0 w0 D s H w ((do pure (.value (← Instr.box e x)) : Sem Next).run P w) (H.new (.row e sz false (cellsV v))) (.ptr H.next 0) := by
  have hp := Plus.alloc w (.cells x.cells e)
  have hc := hx.cells
  have hlen : x.cells.size = (cellsV v).length := by have := hc.length; simp only [Array.length_toList] at this; omega
  have hst' := sv_row' (e := e) hS hn hf hst hp hc ho (rest := []) (by simp) (cap := cap) (sz := sz) (by omega) (by omega)
  refine ⟨.pointer (some ⟨w.heap.size, 0, none⟩), _, _, ?_, hst', ?_⟩
  · simp [Instr.box, newVar, newRow]
  · have := Rv.ptr (D := Dn D H.next (H.next + 1)) (s := upd s H.next ⟨w.heap.size, 0, cap, sz⟩) H.next 0 (dn_self D _)
    rw [upd_self] at this
    exact this
theorem makeMap_ok (hT : TabOk T P) (hS : Sat n0 w0 D s H w) (hn : n0 ≤ w0.heap.size) (hf : ¬ D H.next) (hst : H.next ∉ H.stale) {t k e : TypeId} (hd : descOf T t = some (.map k e)) :
    SV P n0 w0 D s H w ((do pure (.value (← Instr.makeMap t none)) : Sem Next).run P w) (H.new (.map false [] 0)) (.mp H.next) := by
  have hp := Plus.alloc w (.map #[] 0)
  have hstep : Step n0 w0 D s H w (upd s H.next ⟨w.heap.size, 0, 0, 0⟩) (H.new (.map false [] 0)) (w.alloc (.map #[] 0)) := by
    rw [new_eq]
    exact step_new hS hn hf hp rfl (fun _ _ _ _ he => by cases he) (fun _ _ _ he => by cases he; exact ⟨#[], rfl, .nil, rfl⟩) (fun _ _ _ _ he => by cases he) hst H.stale (fun x h => .inl h) (fun x h => h) hst
  refine ⟨.map (some w.heap.size), _, _, ?_, hstep, ?_⟩
  · rw [Sem.run_bind, run_makeMap]
    rfl
  · have := Rv.mp (D := Dn D H.next (H.next + 1)) (s := upd s H.next ⟨w.heap.size, 0, 0, 0⟩) H.next (dn_self D _)
    rw [upd_self] at this
    exact this
end
end Go.AM
