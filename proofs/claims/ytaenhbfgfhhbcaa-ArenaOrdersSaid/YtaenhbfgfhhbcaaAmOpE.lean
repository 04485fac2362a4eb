/- The operations that make memory (5): all of them, in one word. -/
import Derived.Test.YtaenhbfgfhhbcaaAmOpD
import Derived.Lib.ConvBytes
set_option linter.unusedVariables false
set_option linter.unusedSimpArgs false
namespace Go.AM
open Go Go.RowKit
section
variable {T : Tab} {P : Program} {D : Nat → Prop} {s : Sg} {n0 : Nat} {w0 w w' : World} {H : Hp}

theorem row_new' {C : Array Value} {et : TypeId} {fz : Nat × Nat} (hp : Plus w w' (.cells C et fz)) (hn : n0 ≤ w.heap.size) {s' : Sg} {D' : Nat → Prop} {cs : List V} {xs rest : List Value} {cap sz : Nat} (hr : RvL D' s' cs xs) (ho : cs.all oneV = true) (hC : C.toList = xs ++ rest) (hl : cs.length ≤ cap * sz) (hc : cap * sz ≤ C.size) (hfz : C.size ≤ fz.1) :
    RowAt D' s' n0 w' ⟨w.heap.size, 0, cap, sz⟩ sz false cs := by
  refine ⟨⟨C, et, fz, hp.new, by simpa using hc, fun i v hv => ?_, fun _ i h1 h2 h3 => by simp at h2; omega⟩, rfl, hl, ho, fun _ => hn⟩
  obtain ⟨x, hx, hr'⟩ := hr.get i v hv
  refine ⟨x, ?_, hr'⟩
  rw [← Array.getElem?_toList, hC, Nat.zero_add, List.getElem?_append_left (List.getElem?_eq_some_iff.1 hx).1]
  exact hx
theorem plus_bytes (w : World) (e : TypeId) (b : ByteArray) : Plus w (Lib.bytesWorld w e b) (.cells (Lib.bytesCells w e b) e ((Lib.bytesCells w e b).size, (Lib.bytesCells w e b).size + 1)) := by
  refine ⟨?_, ?_, ?_, Lib.bytesWorld_size w e b, Lib.bytesWorld_at_new w e b, fun k hk => Lib.bytesWorld_at_old w e b k hk⟩ <;>
    (unfold Lib.bytesWorld World.freeze; split <;> rfl)
theorem bytes_rv (l : List UInt8) : RvL D s (l.map fun b => V.int .u8 b.toNat) (l.map fun b => Value.int .u8 b.toNat) := by
  induction l with
  | nil => exact .nil
  | cons b l ih => exact .cons _ _ _ _ (.int _ _) ih
theorem conv_new (hT : TabOk T P) (hS : Sat n0 w0 D s H w) (hn : n0 ≤ w0.heap.size) (hf : ¬ D H.next) (hst : H.next ∉ H.stale) {sr ds e : TypeId} {l : List UInt8} (hs : descOf T sr = some .str) (hd : descOf T ds = some (.slice e)) (he : descOf T e = some (.int .u8)) :
    SV P n0 w0 D s H w ((do pure (.value (← convert sr ds (.string ⟨l.toArray⟩))) : Sem Next).run P w) (H.new (.row e 1 false (l.map fun b => .int .u8 b.toNat))) (.sl H.next 0 l.length none 1) := by
  have hu := und_str hT hs
  have hud := und_slice hT hd
  have hue := und_int hT he
  have hge : l.length ≤ grownCap w l.length 0 e := grownCap_ge w l.length 0 e
  have hp := plus_bytes w e ⟨l.toArray⟩
  have hC : (Lib.bytesCells w e ⟨l.toArray⟩).toList = (l.map fun b => Value.int .u8 (b.toNat : Int)) ++ (Array.replicate (grownCap w l.length 0 e - l.length) (Value.int .u8 0)).toList := by
    simp [Lib.bytesCells, size_mk]
  have hCs : (Lib.bytesCells w e ⟨l.toArray⟩).size = grownCap w l.length 0 e := by
    have := congrArg List.length hC
    simp only [Array.length_toList, List.length_append, List.length_map, Array.size_replicate] at this
    omega
  have hone : (l.map fun b => V.int .u8 (b.toNat : Int)).all oneV = true := by simp [List.all_eq_true, oneV]
  have hstep : Step n0 w0 D s H w (upd s H.next ⟨w.heap.size, 0, grownCap w l.length 0 e, 1⟩) (H.new (.row e 1 false (l.map fun b => V.int .u8 (b.toNat : Int)))) (Lib.bytesWorld w e ⟨l.toArray⟩) := by
    rw [new_eq]
    refine step_new hS hn hf hp rfl (fun e' sz' ro cs' he => ?_) (fun _ _ _ he => by cases he) (fun _ _ _ _ he => by cases he) hst H.stale (fun x h => .inl h) (fun x h => h) hst
    cases he
    exact ⟨row_new' hp (Nat.le_trans hn hS.below.size) (bytes_rv l) hone hC (by simp; omega) (by rw [hCs]; omega) (Nat.le_refl _), rfl⟩
  refine ⟨_, _, _, ?_, hstep, sl_new (by decide) hge⟩
  have := Lib.run_convert_string_bytes w sr ds e ⟨l.toArray⟩ hu hud hue
  rw [size_mk] at this
  rw [Sem.run_bind, this]
  rfl

set_option maxHeartbeats 1000000 in
theorem evA_ok (hT : TabOk T P) {F : Fr} {a : Act} (hg : GlOk T.ng D s) (hF : FrOk D s F a) (hS : Sat n0 w0 D s H w) (hn : n0 ≤ w0.heap.size) (hf : ¬ D H.next) (hst : H.next ∉ H.stale) (o : Oper) {v : V} {ob : Option Ob} {kb : Option Nat} (hk : kind T o.op = .a) (h : evA T o.op F H.get H.next = some (v, ob, kb))
    (hkb : ∀ b, kb = some b → ob.isSome = true → b ∉ H.stale) :
    SV P n0 w0 D s H w ((execOp a.eval o).run P w) (afterA H ob kb) v := by
  obtain ⟨dst, op, type, pos, after, guard⟩ := o
  dsimp only at hk h
  cases op
  case alloc e =>
    simp only [evA] at h
    split at h
    · rename_i i hi
      split at h
      · rename_i n e' hd
        split at h
        · rename_i i' hi'
          split at h
          · rename_i hc; cases h; exact alloc_ok hT hS hn hf hst hi hc
          · cases h
        · cases h
      · cases h; exact alloc_ok (cap := 1) hT hS hn hf hst hi (by omega)
    · cases h
  case box e x =>
    simp only [evA] at h
    split at h
    · rename_i v' i hx hi
      split at h
      · cases h
      · rename_i ho
        have ho' : (cellsV v').all oneV = true := by simpa using ho
        split at h
        · rename_i n e' hd
          split at h
          · rename_i i' hi'
            split at h
            · rename_i hc; cases h; exact box_ok hS hn hf hst (opd_ok hg hF hx) ho' hc
            · cases h
          · cases h
        · cases h; exact box_ok (cap := 1) hS hn hf hst (opd_ok hg hF hx) ho' (by omega)
    · cases h
  case buildSlice t len parts =>
    simp only [evA] at h
    split at h
    · rename_i e ps hd hps
      split at h
      · rename_i i hi
        split at h
        · rename_i hc
          split at h
          · rename_i cs hcs
            cases h
            have hp := parts_ok hg hF hps
            have el : (parts.map fun (x : Nat × Operand) => (x.1, a.eval x.2)).toList = parts.toList.map fun (x : Nat × Operand) => (x.1, a.eval x.2) := by simp
            exact buildSlice_ok hT hS hn hf hst hd hi hc.1 hc.2 (by rw [el]; exact hp) hcs
          · cases h
        · cases h
      · cases h
    · cases h
  case makeMap t r =>
    cases r with
    | some r => simp [evA] at h
    | none =>
      simp only [evA] at h
      split at h
      · rename_i k e hd
        cases h
        exact makeMap_ok hT hS hn hf hst hd
      · cases h
  case makeSlice t l c =>
    simp only [evA] at h
    split at h
    · rename_i kl l' kc c' e hl hc hd
      split at h
      · rename_i i hi
        split at h
        · rename_i hb
          cases h
          have h1 := opd_ok hg hF hl
          have h2 := opd_ok hg hF hc
          generalize hz : a.eval l = y at h1
          generalize hy : a.eval c = u at h2
          cases h1; cases h2
          have := makeSlice_ok (kl := kl) (kc := kc) hT hS hn hf hst hd hi hb
          simp only [execOp, hz, hy]
          exact this
        · cases h
      · cases h
    · cases h
  case convert sr ds x =>
    simp only [kind, convKd] at hk
    simp only [evA] at h
    split at h
    · rename_i l e hx hd
      split at h
      · rename_i he
        cases h
        have hs : descOf T sr = some .str := by
          cases hsd : descOf T sr with
          | none => rw [hsd] at hk; simp at hk
          | some d => rw [hsd, hd] at hk; cases d <;> simp at hk; rfl
        have hx' := opd_ok hg hF hx
        generalize hz : a.eval x = y at hx'
        cases hx'
        have := conv_new hT hS hn hf hst hs hd he (l := l)
        simp only [execOp, hz]
        exact this
      · cases h
    · cases h
  case call c =>
    obtain ⟨callee, args, tys⟩ := c
    have hc : callee = .builtin .append := by
      simp only [kind] at hk
      split at hk <;> first | rfl | (cases hk; done) | (split at hk <;> cases hk)
    subst hc
    cases hargs : opds T.ng F args.toList with
    | none => simp [evA, hargs] at h
    | some vs =>
      match vs, hargs with
      | [], hargs => simp [evA, hargs] at h
      | [_], hargs => simp [evA, hargs] at h
      | _ :: _ :: _ :: _, hargs => simp [evA, hargs] at h
      | [v1, y], hargs =>
        cases htys : tys.toList with
        | nil => simp [evA, hargs, htys] at h
        | cons t r =>
          match r, htys with
          | [], htys => simp [evA, hargs, htys] at h
          | _ :: _ :: _, htys => simp [evA, hargs, htys] at h
          | [t'], htys =>
            have htt : t = t' := by
              by_cases e : t = t'
              · exact e
              · simp [evA, hargs, htys, e] at h
            subst htt
            have htys' : tys = #[t, t] := Array.toList_inj.1 htys
            subst htys'
            obtain ⟨xv, xy, hxs, hv, hy⟩ := args2 hg hF hargs
            cases hd : descOf T t with
            | none => simp [evA, hargs, hd] at h
            | some d =>
              cases d
              case slice e =>
                cases hi : T.ty e with
                | none => simp [evA, hargs, hd, hi] at h
                | some i =>
                  obtain ⟨x, s', w', h1, h2, h3⟩ := append_ok (ty := type) hT hS hn hf hst hd hi hv hy hargs h hkb
                  exact ⟨x, s', w', by simp [execOp, resolve, invoke, builtin, hxs, h1], h2, h3⟩
              all_goals (simp [evA, hargs, hd] at h)
  all_goals (simp [evA] at h)
end
end Go.AM
