/- P1.1: for any two numbers of 32 bits the law RefParts returns true; no condition. -/
import Derived.Test.YtfnikpfjhgfjlaaPRefPartsx1
import Derived.Laws.Bits64b
namespace Go.Proofs.Ytfnikpfjhgfjlaa.Pure
open Go.RowKit Go.Proofs.Ytfnikpfjhgfjlaa.PRefParts Go.Proofs.YtfnikpfjhgfjlaaW.PrintWords Go.Proofs.YtfnikpfjhgfjlaaW.PrintLast

theorem wrap_u64 (n : Int) (h0 : 0 ≤ n) (h1 : n < 18446744073709551616) : IntKind.u64.wrap n = n := by
  simp only [IntKind.wrap, IntKind.bits, IntKind.signed]
  simp only [Bool.false_and, Bool.false_eq_true, if_false]
  omega

theorem of_tells (a b : Int) (ha : 0 ≤ a) (ha' : a < 4294967296) (hb : 0 ≤ b) (hb' : b < 4294967296) : ref_Of.f a b = some (b * 4294967296 + a) := by
  unfold ref_Of.f
  rw [wrap_u64 b hb (by omega), wrap_u64 (b * 4294967296) (by omega) (by omega), wrap_u64 a ha (by omega)]
  obtain ⟨n, rfl⟩ := Int.eq_ofNat_of_zero_le ha
  obtain ⟨m, rfl⟩ := Int.eq_ofNat_of_zero_le hb
  have e : ((m : Int) * 4294967296) = ((m * 4294967296 : Nat) : Int) := by omega
  rw [e, bits_or_u64_nat _ _ (by omega) (by omega)]
  have h := Nat.shiftLeft_add_eq_or_of_lt (i := 32) (b := n) (by omega) m
  rw [Nat.shiftLeft_eq] at h
  have e2 : (2 : Nat) ^ 32 = 4294967296 := rfl
  rw [e2] at h
  rw [← h]
  simp

theorem awake : palinglaw01_Awake.f = some true := by
  unfold palinglaw01_Awake.f
  rw [of_tells 1 2 (by omega) (by omega) (by omega) (by omega)]
  simp [ref_Ref_Uses.f]

theorem u32_in {a : Int} (h : (Lit.int .u32 a).wf = true) : 0 ≤ a ∧ a < 4294967296 := by
  simp [Lit.wf, IntKind.min, IntKind.max, IntKind.signed, IntKind.bits] at h
  omega

theorem RefParts : palinglaw01_RefParts.Pure := by
  intro a b h1 h2
  obtain ⟨ha, ha'⟩ := u32_in h1
  obtain ⟨hb, hb'⟩ := u32_in h2
  unfold palinglaw01_RefParts.f
  rw [awake, of_tells a b ha ha' hb hb']
  simp only [Option.bind_some, if_true]
  rw [wrap_u64 b hb (by omega), wrap_u64 (b * 4294967296) (by omega) (by omega), wrap_u64 a ha (by omega), wrap_u64 (b * 4294967296 + a) (by omega) (by omega)]
  rw [if_pos rfl]
  unfold ref_Ref_Slot.f ref_Ref_Uses.f
  simp only [Option.bind_some]
  have e1 : (b * 4294967296 + a) % 4294967296 = a := by omega
  have e2 : (b * 4294967296 + a) / 4294967296 % 4294967296 = b := by omega
  rw [e1, e2, if_pos rfl, if_pos rfl]
  by_cases h0 : a = 0
  · rw [if_pos h0]
    by_cases hb0 : b = 0
    · simp [h0, hb0]
    · have e3 : (b * 4294967296 + a == 0) = false := beq_eq_false_iff_ne.2 (by omega)
      have e4 : (b == 0) = false := beq_eq_false_iff_ne.2 hb0
      rw [e3, e4]; rfl
  · rw [if_neg h0]
    have e3 : (b * 4294967296 + a == 0) = false := beq_eq_false_iff_ne.2 (by omega)
    rw [e3]; rfl

end Go.Proofs.Ytfnikpfjhgfjlaa.Pure
