/- Keys' order: values made of data; arena.Order; the laws ArenaOrders, ArenaSorts. -/
import Derived.Test.YtaenhbfgfhhbcaaAmSetOr
import Derived.KernelRfl
set_option linter.unusedVariables false
set_option linter.unusedSimpArgs false
set_option maxRecDepth 100000
namespace Go.AM.YtaenhbfgfhhbcaaT
open Go Go.AM Go.Proofs
/-- What an evaluation tells of the heap that it leaves. -/
def tells : Option (V × Hp) → Option (Bool × Nat × List Nat × List (Option Ob))
  | some (.bool b, H) => some (b, H.next, H.stale, [H.get 0, H.get 1, H.get 2])
  | _ => none
theorem tells_wf {f : FuncId} {H : Hp} {k : Nat} {b : Bool} {n : Nat} {o0 o1 o2 : Option Ob} (h : tells (evCall tab k f [] H) = some (b, n, [], [o0, o1, o2])) : WF tab f [] H fun v H' => v = .bool b ∧ H'.next = n ∧ H'.stale = [] ∧ H'.get 0 = o0 ∧ H'.get 1 = o1 ∧ H'.get 2 = o2 := by
  unfold tells at h
  split at h
  · rename_i b' H' he
    simp at h
    obtain ⟨rfl, h2, h3, h4, h5, h6⟩ := h
    exact ⟨k, _, H', he, rfl, h2, h3, h4, h5, h6⟩
  · cases h
def val3 (k n : Int) (s : List UInt8) : V := .agg [.int .u8 k, .int .i64 n, .str s]
theorem u8_case {k : Int} (h : 0 ≤ k ∧ k < 256) : wr .u8 k = k := wr_u8 h.1 h.2
theorem make28 {H : Hp} {k n : Int} {s : List UInt8} (hs : H.stale = []) (hk : 0 ≤ k ∧ k < 256) : WF tab 28 [val3 k n s] H fun v H' => (∃ k' n' s', v = val3 k' n' s' ∧ 0 ≤ k' ∧ k' ≤ 4) ∧ Ext noX H H' := by
  have hE : ∀ (a b c : Ob), Ext noX H (((H.new a).new b).put (H.next + 1) c) := fun a b c => ((Ext.new hs a).newge b).putge c (by omega)
  have g0 : ∀ a b, ((H.new a).new b).get H.next = some a := fun a b => by rw [get_new_ne _ (by rw [Hp.next_new]; omega), get_new_self]
  have g1 : ∀ a b, ((H.new a).new b).get (H.next + 1) = some b := fun a b => get_new_self (H.new a) b
  have p1 : ∀ a b c, (((H.new a).new b).put (H.next + 1) c).get (H.next + 1) = some c := fun a b c => get_put_self _ _ _
  have ht : k.tmod 5 = k % 5 := by rw [Int.tmod_eq_emod_of_nonneg hk.1]
  have h5 : k % 5 = 0 ∨ k % 5 = 1 ∨ k % 5 = 2 ∨ k % 5 = 3 ∨ k % 5 = 4 := by omega
  refine wf28 (wp_sound _ ?_)
  simp [val3, hs, g0, g1, ht]
  rcases h5 with h | h | h | h | h
  all_goals
    simp [h, hs, g0, g1, p1, hE]
    try exact ⟨_, _, _, ⟨rfl, rfl, rfl⟩, by decide, by decide⟩
def ordV (k n : Int) (s : List UInt8) (k' n' : Int) (s' : List UInt8) : Int :=
  if k ≠ k' then k - k' else if n ≠ n' then (if n < n' then -1 else 1) else if Op.bytesLess s s' then -1 else if !(Op.bytesLess s s' || s == s') then 1 else 0
theorem order29 {H : Hp} {k n k' n' : Int} {s s' : List UInt8} (hs : H.stale = []) (hk : 0 ≤ k ∧ k ≤ 4) (hk' : 0 ≤ k' ∧ k' ≤ 4) : WF tab 29 [val3 k n s, val3 k' n' s'] H fun v H' => v = .int .i64 (ordV k n s k' n' s') ∧ Ext noX H H' := by
  have hE : ∀ (a b : Ob), Ext noX H ((H.new a).new b) := fun a b => (Ext.new hs a).newge b
  have g0 : ∀ a b, ((H.new a).new b).get H.next = some a := fun a b => by rw [get_new_ne _ (by rw [Hp.next_new]; omega), get_new_self]
  have g1 : ∀ a b, ((H.new a).new b).get (H.next + 1) = some b := fun a b => get_new_self (H.new a) b
  have w1 : wr .i64 k = k := wr_i64 (by omega) (by omega)
  have w2 : wr .i64 k' = k' := wr_i64 (by omega) (by omega)
  have w3 : wr .i64 (k - k') = k - k' := by rw [wr_eq]; simp [IntKind.wrap, IntKind.signed, IntKind.bits]; omega
  refine wf29 (wp_sound _ ?_)
  simp [val3, hs, g0, g1]
  by_cases h1 : k = k'
  · subst h1
    by_cases h2 : n = n'
    · subst h2
      by_cases h3 : Op.bytesLess s s' = true
      · simp [hs, g0, g1, ordV, h3, hE]
      · simp only [Bool.not_eq_true] at h3
        by_cases h4 : s = s'
        · simp [hs, g0, g1, ordV, h3, h4, hE]
          simp [h4] at h3
          simp [h3, hs, g0, g1, hE]
        · have h4' : (s == s') = false := by simp [h4]
          simp [hs, g0, g1, ordV, h3, h4, h4', hE]
    · by_cases h3 : n < n'
      · simp [hs, g0, g1, ordV, h2, h3, hE, bne]
        have : (n == n') = false := by simp [h2]
        simp [this, hs, g0, g1, h3, hE]
      · simp [hs, g0, g1, ordV, h2, h3, hE, bne]
        have : (n == n') = false := by simp [h2]
        simp [this, hs, g0, g1, h3, hE]
  · have : (k == k') = false := by simp [h1]
    simp [hs, g0, g1, ordV, h1, w1, w2, w3, hE, bne, this]
end Go.AM.YtaenhbfgfhhbcaaT
