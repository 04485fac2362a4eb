/- The operations that only compute: what the abstract machine tells, the model's run comes to, in every world. -/
import Derived.Test.YtaenhbfgfhhbcaaAmRel
import Derived.WalkLawsBesides
import Derived.IntWalk
set_option linter.unusedVariables false
set_option linter.unusedSimpArgs false
namespace Go.AM
open Go Go.RowKit

theorem wr_eq (k : IntKind) (n : Int) : wr k n = k.wrap n := by
  unfold wr
  split
  · split
    · rename_i m h
      exact (IntWalk.i64_in _ (by simp only [Int.ofNat_eq_natCast]; omega)).symm
    · rfl
  · split
    · simp only [IntKind.wrap, IntKind.bits, IntKind.signed]
      rename_i m h
      simp only [Bool.false_and, Bool.false_eq_true, if_false, Int.ofNat_eq_natCast]
      exact (Int.emod_eq_of_lt (by omega) (by omega)).symm
    · rfl
  · split
    · simp only [IntKind.wrap, IntKind.bits, IntKind.signed]
      rename_i m h
      simp only [Bool.false_and, Bool.false_eq_true, if_false, Int.ofNat_eq_natCast]
      exact (Int.emod_eq_of_lt (by omega) (by omega)).symm
    · rfl
  · split
    · simp only [IntKind.wrap, IntKind.bits, IntKind.signed]
      rename_i m h
      simp only [Bool.false_and, Bool.false_eq_true, if_false, Int.ofNat_eq_natCast]
      exact (Int.emod_eq_of_lt (by omega) (by omega)).symm
    · rfl
  · rfl

section
variable {T : Tab} {P : Program}
theorem ti_parts (hT : TabOk T P) {t : TypeId} {i : TI} (h : T.ty t = some i) : ∃ inf d z, P.info? t = some inf ∧ P.underlying t = some d ∧ DsOk i.desc d = true ∧ inf.size = i.size ∧ inf.bytes = i.bytes ∧ inf.zero = some z ∧ zeroOk i.zero z.cells.toList = true ∧ isAgg i.desc = (match z with | .agg _ => true | _ => false) ∧ i.zero.length = i.size := by
  have := hT.ty t i h
  unfold tiOk at this
  rw [Bool.and_eq_true] at this
  replace this := this.2
  split at this
  · rename_i inf d h1 h2
    simp only [Bool.and_eq_true, beq_iff_eq] at this
    obtain ⟨⟨⟨⟨e1, e2⟩, e3⟩, e4⟩, e5⟩ := this
    split at e4
    · rename_i z hz
      simp only [Bool.and_eq_true, beq_iff_eq] at e4
      exact ⟨inf, d, z, h1, h2, e3, e1, e2, hz, e4.1, e4.2, e5⟩
    · cases e4
  · cases this
theorem ti_eq (hT : TabOk T P) {t : TypeId} {i : TI} (h : T.ty t = some i) (he : i.eq = true) : eqOkT P t = true := by
  have := hT.ty t i h
  unfold tiOk at this
  rw [Bool.and_eq_true] at this
  simpa [he] using this.1
theorem desc_parts (hT : TabOk T P) {t : TypeId} {d : Ds} (h : descOf T t = some d) : ∃ i, T.ty t = some i ∧ i.desc = d := by
  unfold descOf at h
  split at h
  · rename_i i hi
    exact ⟨i, hi, by simpa using h⟩
  · cases h
theorem und_of (hT : TabOk T P) {t : TypeId} {d : Ds} (h : descOf T t = some d) : ∃ d', P.underlying t = some d' ∧ DsOk d d' = true := by
  obtain ⟨i, hi, rfl⟩ := desc_parts hT h
  obtain ⟨inf, d', z, _, h2, h3, _⟩ := ti_parts hT hi
  exact ⟨d', h2, h3⟩
theorem size_of (hT : TabOk T P) {t : TypeId} {i : TI} (h : T.ty t = some i) (w : World) : (sizeOf t).run P w = .ok i.size w := by
  obtain ⟨inf, d, z, h1, _, _, h4, _⟩ := ti_parts hT h
  simp [sizeOf, typeInfo, h1, h4]
theorem agg_of (hT : TabOk T P) {t : TypeId} {i : TI} (h : T.ty t = some i) (w : World) : (Go.isAgg t).run P w = .ok (isAgg i.desc) w := by
  obtain ⟨inf, d, z, h1, h2, h3, h4, _⟩ := ti_parts hT h
  simp only [Go.isAgg, Sem.run_bind, run_underlying h2, Result.andThen_ok]
  generalize i.desc = e at *
  cases e <;> cases d <;> first | rfl | (simp [DsOk] at h3)
end
end Go.AM
