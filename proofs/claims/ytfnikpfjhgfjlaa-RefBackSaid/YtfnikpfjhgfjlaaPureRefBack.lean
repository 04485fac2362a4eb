/- P1.1: for any number of 64 bits the law RefBack returns true; no condition. -/
import Derived.Test.YtfnikpfjhgfjlaaPRefBackx1
import Derived.Laws.Bits64b
namespace Go.Proofs.Ytfnikpfjhgfjlaa.Pure
open Go.RowKit Go.Proofs.Ytfnikpfjhgfjlaa.PRefBack Go.Proofs.YtfnikpfjhgfjlaaW.PrintWords Go.Proofs.YtfnikpfjhgfjlaaW.PrintLast

theorem wrap_u64 (n : Int) (h0 : 0 ≤ n) (h1 : n < 18446744073709551616) : IntKind.u64.wrap n = n := by
  simp only [IntKind.wrap, IntKind.bits, IntKind.signed]
  simp only [Bool.false_and, Bool.false_eq_true, if_false]
  omega

theorem of_tells (a b : Int) (ha : 0 ≤ a) (ha' : a < 4294967296) (hb : 0 ≤ b) (hb' : b < 4294967296) : ref_Of.f a b = some (b * 4294967296 + a) := by
  unfold ref_Of.f
  rw [wrap_u64 b hb (by omega), wrap_u64 (b * 4294967296) (by omega) (by omega), wrap_u64 a ha (by omega)]
  obtain ⟨n, rfl⟩ := Int.eq_ofNat_of_zero_le ha
  obtain ⟨m, rfl⟩ := Int.eq_ofNat_of_zero_le hb
  have e : ((m : Int) * 4294967296) = ((m * 4294967296 : Nat) : Int) := by omega
  rw [e, bits_or_u64_nat _ _ (by omega) (by omega)]
  have h := Nat.shiftLeft_add_eq_or_of_lt (i := 32) (b := n) (by omega) m
  rw [Nat.shiftLeft_eq] at h
  have e2 : (2 : Nat) ^ 32 = 4294967296 := rfl
  rw [e2] at h
  rw [← h]
  simp

theorem awake : palinglaw01_Awake.f = some true := by
  unfold palinglaw01_Awake.f
  rw [of_tells 1 2 (by omega) (by omega) (by omega) (by omega)]
  simp [ref_Ref_Uses.f]

theorem u32_in {a : Int} (h : (Lit.int .u32 a).wf = true) : 0 ≤ a ∧ a < 4294967296 := by
  simp [Lit.wf, IntKind.min, IntKind.max, IntKind.signed, IntKind.bits] at h
  omega

theorem RefBack : palinglaw01_RefBack.Pure := by
  intro n h
  have hn : 0 ≤ n ∧ n < 18446744073709551616 := by
    simp [Lit.wf, IntKind.min, IntKind.max, IntKind.signed, IntKind.bits] at h
    omega
  unfold palinglaw01_RefBack.f
  rw [awake]
  simp only [Option.bind_some, if_true, ref_Ref_Slot.f, ref_Ref_Uses.f]
  have e0 : n / 4294967296 % 4294967296 = n / 4294967296 := by omega
  rw [e0, of_tells (n % 4294967296) (n / 4294967296) (by omega) (by omega) (by omega) (by omega)]
  simp only [Option.bind_some]
  rw [if_pos (by omega), wrap_u64 (n % 4294967296) (by omega) (by omega), wrap_u64 (n / 4294967296) (by omega) (by omega)]
  rw [Int.tmod_eq_emod_of_nonneg hn.1, if_pos rfl, Int.tdiv_eq_ediv_of_nonneg hn.1, wrap_u64 (n / 4294967296) (by omega) (by omega)]
  simp

end Go.Proofs.Ytfnikpfjhgfjlaa.Pure
