/- Bytes. -/
import Derived.Test.YtlcadokmhfjacaaGreatDoorAmC3
set_option linter.unusedVariables false
set_option linter.unusedSimpArgs false
set_option maxRecDepth 100000
namespace Go.AM
open Go
abbrev bv (c : UInt8) : V := .int .u8 c.toNat
theorem u8lt (c : UInt8) : c.toNat < 256 := c.toNat_lt
theorem ne_u8 {a b : UInt8} (h : a ≠ b) : a.toNat ≠ b.toNat := fun e => h (UInt8.toNat_inj.1 e)
/-- What is older than N is as it was. -/
abbrev geN (N : Nat) : Nat → Prop := fun x => N ≤ x
theorem bytesOf_bv : ∀ l : List UInt8, bytesOf (l.map bv) = some l
  | [] => rfl
  | c :: r => by
    rw [List.map_cons]
    simp only [bytesOf, bytesOf_bv r]
    simp
theorem byteV_bv (l : List UInt8) : (l.map bv).all byteV = true := by
  rw [List.all_map, List.all_eq_true]
  intro c _
  have := u8lt c
  simp [byteV]
  omega
def qL (c : UInt8) : List UInt8 := if c = 34 ∨ c = 92 then [92, c] else if c = 10 then [92, 110] else [c]
theorem qL_len (c : UInt8) : (qL c).length ≤ 2 := by unfold qL; split; · simp
                                                     split <;> simp
theorem qflat_len : ∀ l : List UInt8, (l.flatMap qL).length ≤ 2 * l.length
  | [] => by simp
  | c :: r => by
    have := qflat_len r
    have := qL_len c
    simp only [List.flatMap_cons, List.length_append, List.length_cons]
    omega
def quoteL (s : List UInt8) : List UInt8 := 34 :: (s.flatMap qL ++ [34])
end Go.AM
