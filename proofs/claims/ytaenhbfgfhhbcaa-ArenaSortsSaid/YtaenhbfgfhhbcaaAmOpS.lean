/- The operations that only compute (3): addresses, parts, slices, literals. -/
import Derived.Test.YtaenhbfgfhhbcaaAmOpQ
set_option linter.unusedVariables false
set_option linter.unusedSimpArgs false
namespace Go.AM
open Go Go.RowKit
section
variable {T : Tab} {P : Program} {D : Nat → Prop} {s : Sg}

theorem add_off (b base off n : Nat) : (Addr.mk b (base + off) none).add n = ⟨b, base + (off + n), none⟩ := by
  unfold Addr.add
  split
  · rename_i h; subst h; rfl
  · simp [Nat.add_assoc]
theorem und_struct (hT : TabOk T P) {t : TypeId} {fs : List (Nat × TypeId)} (h : descOf T t = some (.struct fs)) : ∃ fs' : Array Field, P.underlying t = some (.struct fs') ∧ fs = fs'.toList.map fun f => (f.offset, f.type) := by
  obtain ⟨d, h1, h2⟩ := und_of hT h
  cases d <;> simp [DsOk] at h2
  exact ⟨_, h1, h2⟩
theorem und_slice (hT : TabOk T P) {t e : TypeId} (h : descOf T t = some (.slice e)) : P.underlying t = some (.slice e) := by
  obtain ⟨d, h1, h2⟩ := und_of hT h
  cases d <;> simp [DsOk] at h2
  rw [h1, h2]
theorem und_arr (hT : TabOk T P) {t e : TypeId} {n : Nat} (h : descOf T t = some (.arr n e)) : P.underlying t = some (.array n e) := by
  obtain ⟨d, h1, h2⟩ := und_of hT h
  cases d <;> simp [DsOk] at h2
  rw [h1, h2.1, h2.2]
theorem und_map (hT : TabOk T P) {t k e : TypeId} (h : descOf T t = some (.map k e)) : P.underlying t = some (.map k e) := by
  obtain ⟨d, h1, h2⟩ := und_of hT h
  cases d <;> simp [DsOk] at h2
  rw [h1, h2.1, h2.2]
theorem und_str (hT : TabOk T P) {t : TypeId} (h : descOf T t = some .str) : P.underlying t = some .string := by
  obtain ⟨d, h1, h2⟩ := und_of hT h
  cases d <;> simp [DsOk] at h2
  exact h1
theorem und_int (hT : TabOk T P) {t : TypeId} {k : IntKind} (h : descOf T t = some (.int k)) : P.underlying t = some (.int k) := by
  obtain ⟨d, h1, h2⟩ := und_of hT h
  cases d <;> simp [DsOk] at h2
  rw [h1, h2]

theorem field_ok (hT : TabOk T P) {st : TypeId} {fs : List (Nat × TypeId)} {f : Nat} {fd : Nat × TypeId} {i : TI} {b off : Nat} {x : Value} (hx : Rv D s (.ptr b off) x)
    (hd : descOf T st = some (.struct fs)) (hf : fs[f]? = some fd) (hi : T.ty fd.2 = some i) (h0 : ¬ i.size = 0) (w : World) :
    Cm D s ((Instr.fieldAt st x f).run P w) w (.ptr b (off + fd.1)) := by
  cases hx with
  | ptr b off hD =>
    obtain ⟨fs', hu, rfl⟩ := und_struct hT hd
    simp only [List.getElem?_map, Array.getElem?_toList] at hf
    obtain ⟨g, hg, rfl⟩ := Option.map_eq_some_iff.1 hf
    refine .mk (.ptr b (off + g.offset) hD) ?_
    simp [Instr.fieldAt, run_underlying hu, hg, Instr.sureAddr, fieldPlace, size_of hT hi, h0, add_off]

theorem part_ok (hT : TabOk T P) {t : TypeId} {cs : List V} {off : Nat} {v : V} {xs : Array Value} (hx : RvL D s cs xs.toList) (ho : cs.all oneV = true) (h : partV T t cs off = some v) (w : World) :
    Cm D s ((part t xs off).run P w) w v := by
  unfold partV at h
  split at h
  · rename_i i hi
    split at h
    · rename_i ha
      split at h
      · rename_i hl
        cases h
        refine .mk (.agg _ (xs.extract off (off + i.size)) ?_ ?_) ?_
        · have := (hx.drop off).take i.size
          rw [Array.toList_extract]
          simpa [List.extract] using this
        · rw [List.all_eq_true] at ho ⊢
          exact fun c hc => ho c (List.mem_of_mem_drop (List.mem_of_mem_take hc))
        · simp [part, agg_of hT hi, ha, size_of hT hi]
      · cases h
    · rename_i ha
      obtain ⟨x, hx1, hr⟩ := hx.get _ _ h
      refine .mk hr ?_
      rw [Array.getElem?_toList] at hx1
      simp [part, agg_of hT hi, ha, hx1]
  · cases h
theorem fieldv_ok (hT : TabOk T P) {st : TypeId} {fs : List (Nat × TypeId)} {f : Nat} {fd : Nat × TypeId} {cs : List V} {x : Value} {v : V} (hx : Rv D s (.agg cs) x)
    (hd : descOf T st = some (.struct fs)) (hf : fs[f]? = some fd) (h : partV T fd.2 cs fd.1 = some v) (w : World) :
    Cm D s ((Instr.field st x f).run P w) w v := by
  cases hx with
  | agg cs xs hc ho =>
    obtain ⟨fs', hu, rfl⟩ := und_struct hT hd
    simp only [List.getElem?_map, Array.getElem?_toList] at hf
    obtain ⟨g, hg, rfl⟩ := Option.map_eq_some_iff.1 hf
    obtain ⟨y, hy, hr⟩ := part_ok hT hc ho h w
    exact .mk hr (by simp [Instr.field, run_underlying hu, hg, asAgg, hy])
theorem indexAddr_sl (hT : TabOk T P) {t e : TypeId} {ei : TI} {b off len z : Nat} {c : Option Nat} {k : IntKind} {n : Int} {x : Value} (hx : Rv D s (.sl b off len c z) x)
    (hd : descOf T t = some (.slice e)) (he : T.ty e = some ei) (hn : 0 ≤ n ∧ n < len) (w : World) :
    Cm D s ((Instr.indexAt t x (.int k n)).run P w) w (.ptr b (off + n.toNat * ei.size)) := by
  have hu := und_slice hT hd
  have hD : D b := by cases hx <;> assumption
  refine .mk (.ptr b _ hD) ?_
  cases hx <;> simp [Instr.indexAt, run_underlying hu, asIntOf, hn, size_of hT he, add_off]
theorem indexAddr_arr (hT : TabOk T P) {t e : TypeId} {ei : TI} {b off len : Nat} {k : IntKind} {n : Int} {x : Value} (hx : Rv D s (.ptr b off) x)
    (hd : descOf T t = some (.arr len e)) (he : T.ty e = some ei) (hn : 0 ≤ n ∧ n < len) (w : World) :
    Cm D s ((Instr.indexAt t x (.int k n)).run P w) w (.ptr b (off + n.toNat * ei.size)) := by
  have hu := und_arr hT hd
  cases hx with
  | ptr b off hD =>
    refine .mk (.ptr b _ hD) ?_
    simp [Instr.indexAt, run_underlying hu, asIntOf, hn, size_of hT he, add_off, Instr.sureAddr]
theorem index_str (hT : TabOk T P) {t : TypeId} {l : List UInt8} {k : IntKind} {n : Int} {b : UInt8}
    (hd : descOf T t = some .str) (h0 : 0 ≤ n) (hb : l[n.toNat]? = some b) (w : World) :
    Cm D s ((Instr.index t (.string ⟨l.toArray⟩) (.int k n)).run P w) w (.int .u8 b.toNat) := by
  have hu := und_str hT hd
  refine .mk (.int _ _) ?_
  have hlt : n.toNat < l.length := (List.getElem?_eq_some_iff.1 hb).1
  have hg : (ByteArray.mk l.toArray)[n.toNat]? = some b := by
    rw [getElem?_pos (ByteArray.mk l.toArray) n.toNat (by rw [size_mk]; exact hlt)]
    have : (ByteArray.mk l.toArray)[n.toNat]'(by rw [size_mk]; exact hlt) = l[n.toNat] := rfl
    rw [this]
    exact (List.getElem?_eq_some_iff.1 hb).2 ▸ rfl
  simp [Instr.index, run_underlying hu, asIntOf, h0, hg]
theorem index_arr (hT : TabOk T P) {t e : TypeId} {ei : TI} {cs : List V} {len : Nat} {k : IntKind} {n : Int} {x : Value} {v : V} (hx : Rv D s (.agg cs) x)
    (hd : descOf T t = some (.arr len e)) (he : T.ty e = some ei) (hn : 0 ≤ n ∧ n < len) (h : partV T e cs (n.toNat * ei.size) = some v) (w : World) :
    Cm D s ((Instr.index t x (.int k n)).run P w) w v := by
  have hu := und_arr hT hd
  cases hx with
  | agg cs xs hc ho =>
    obtain ⟨y, hy, hr⟩ := part_ok hT hc ho h w
    exact .mk hr (by simp [Instr.index, run_underlying hu, asIntOf, hn, size_of hT he, hy])
end
end Go.AM
