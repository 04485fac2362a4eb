/- P1.1: for any four numbers of 32 bits and any pick the law RefApart returns true; no condition. -/
import Derived.Test.YtfnikpfjhgfjlaaPRefApartx1
import Derived.Laws.Bits64b
namespace Go.Proofs.Ytfnikpfjhgfjlaa.Pure
open Go.RowKit Go.Proofs.Ytfnikpfjhgfjlaa.PRefApart Go.Proofs.YtfnikpfjhgfjlaaW.PrintWords Go.Proofs.YtfnikpfjhgfjlaaW.PrintLast

theorem wrap_u64 (n : Int) (h0 : 0 ≤ n) (h1 : n < 18446744073709551616) : IntKind.u64.wrap n = n := by
  simp only [IntKind.wrap, IntKind.bits, IntKind.signed]
  simp only [Bool.false_and, Bool.false_eq_true, if_false]
  omega

theorem of_tells (a b : Int) (ha : 0 ≤ a) (ha' : a < 4294967296) (hb : 0 ≤ b) (hb' : b < 4294967296) : ref_Of.f a b = some (b * 4294967296 + a) := by
  unfold ref_Of.f
  rw [wrap_u64 b hb (by omega), wrap_u64 (b * 4294967296) (by omega) (by omega), wrap_u64 a ha (by omega)]
  obtain ⟨n, rfl⟩ := Int.eq_ofNat_of_zero_le ha
  obtain ⟨m, rfl⟩ := Int.eq_ofNat_of_zero_le hb
  have e : ((m : Int) * 4294967296) = ((m * 4294967296 : Nat) : Int) := by omega
  rw [e, bits_or_u64_nat _ _ (by omega) (by omega)]
  have h := Nat.shiftLeft_add_eq_or_of_lt (i := 32) (b := n) (by omega) m
  rw [Nat.shiftLeft_eq] at h
  have e2 : (2 : Nat) ^ 32 = 4294967296 := rfl
  rw [e2] at h
  rw [← h]
  simp

theorem awake : palinglaw01_Awake.f = some true := by
  unfold palinglaw01_Awake.f
  rw [of_tells 1 2 (by omega) (by omega) (by omega) (by omega)]
  simp [ref_Ref_Uses.f]

theorem u32_in {a : Int} (h : (Lit.int .u32 a).wf = true) : 0 ≤ a ∧ a < 4294967296 := by
  simp [Lit.wf, IntKind.min, IntKind.max, IntKind.signed, IntKind.bits] at h
  omega

theorem join_tells (k : Nat) (a b c d s : Int) (ha : 0 ≤ a ∧ a < 4294967296) (hb : 0 ≤ b ∧ b < 4294967296) (hc : 0 ≤ c ∧ c < 4294967296) (hd : 0 ≤ d ∧ d < 4294967296) :
    palinglaw01_RefApart.j0 (k + 1) a b c d s = some true := by
  have fin : ∀ x y : Int, 0 ≤ x ∧ x < 4294967296 → 0 ≤ y ∧ y < 4294967296 →
      (if a = c then some (((x * 4294967296 + a) == (y * 4294967296 + c)) == (x == y)) else some (((x * 4294967296 + a) == (y * 4294967296 + c)) == false)) = some true := by
    intro x y hx hy
    by_cases e : a = c
    · rw [if_pos e]
      by_cases g : x = y
      · simp [e, g]
      · have e3 : ((x * 4294967296 + a) == (y * 4294967296 + c)) = false := beq_eq_false_iff_ne.2 (by omega)
        have e4 : (x == y) = false := beq_eq_false_iff_ne.2 g
        rw [e3, e4]; rfl
    · rw [if_neg e]
      have e3 : ((x * 4294967296 + a) == (y * 4294967296 + c)) = false := beq_eq_false_iff_ne.2 (by omega)
      rw [e3]; rfl
  simp only [palinglaw01_RefApart.j0]
  simp only [of_tells a b ha.1 ha.2 hb.1 hb.2, of_tells c b hc.1 hc.2 hb.1 hb.2, of_tells c d hc.1 hc.2 hd.1 hd.2]
  simp only [Option.bind_some]
  split
  · exact fin b b hb hb
  · exact fin b d hb hd

theorem RefApart : palinglaw01_RefApart.Pure := by
  intro a b c d s h1 h2 h3 h4 _
  refine ⟨1, ?_⟩
  unfold palinglaw01_RefApart.f
  rw [awake]
  simp only [Option.bind_some, if_true]
  split
  · exact join_tells 0 a b a d s (u32_in h1) (u32_in h2) (u32_in h1) (u32_in h4)
  · exact join_tells 0 a b c d s (u32_in h1) (u32_in h2) (u32_in h3) (u32_in h4)

end Go.Proofs.Ytfnikpfjhgfjlaa.Pure
