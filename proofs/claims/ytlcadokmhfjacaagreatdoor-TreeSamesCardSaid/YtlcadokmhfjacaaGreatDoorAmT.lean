/- Parts of the abstract machine and of the walks over it, joined: what the law that is claimed here leans on. -/
import Derived.Test.YtlcadokmhfjacaaGreatDoorAmX
import Derived.Test.YtlcadokmhfjacaaGreatDoorAmC2
import Derived.Test.YtlcadokmhfjacaaGreatDoorAmC3
import Derived.Test.YtlcadokmhfjacaaGreatDoorAmG
import Derived.Test.YtlcadokmhfjacaaGreatDoorAmP
/- The slim code of these functions: printed by genslim.py. -/
namespace Go.AM.YtlcadokmhfjacaaGreatDoorT
open Go Go.AM Go.Proofs
set_option maxRecDepth 100000
/-! slices.EqualFunc[[]paling/tree.Expr,[]paling/tree.Expr,paling/tree.Expr,paling/tree.Expr] -/
abbrev R73_0 : List SOp := [(some 6, .assign (.const (.bool false)), none)]
abbrev R73_1 : List SOp := [(some 10, .move (.tmp 0), none),
  (some 11, .call ⟨.builtin .len, #[(.tmp 10)], #[40]⟩, none),
  (some 12, .move (.tmp 1), none),
  (some 13, .call ⟨.builtin .len, #[(.tmp 12)], #[40]⟩, none),
  (some 14, .binOp .neq 3 (.tmp 11) (.tmp 13) 3, none)]
abbrev R73_2 : List SOp := [(some 6, .assign (.const (.bool false)), none)]
abbrev R73_3 : List SOp := [(some 15, .move (.tmp 0), none),
  (some 16, .call ⟨.builtin .len, #[(.tmp 15)], #[40]⟩, none),
  (some 17, .move (.const (.int .i64 0)), none)]
abbrev R73_4 : List SOp := [(some 18, .binOp .lss 3 (.tmp 17) (.tmp 16) 3, none)]
abbrev R73_5 : List SOp := [(some 19, .move (.tmp 17), none),
  (some 20, .indexAddr 40 (.tmp 15) (.tmp 17), none),
  (some 21, .load 46 (.tmp 20), none),
  (some 8, .alloc 46, none),
  (some 7, .assign (.tmp 19), none),
  (none, .store 46 (.tmp 8) (.tmp 21), none)]
abbrev R73_6 : List SOp := [(some 22, .move (.tmp 1), none),
  (some 23, .move (.tmp 7), none),
  (some 24, .indexAddr 40 (.tmp 22) (.tmp 23), none),
  (some 25, .load 46 (.tmp 24), none),
  (some 9, .alloc 46, none),
  (none, .store 46 (.tmp 9) (.tmp 25), none)]
abbrev R73_7 : List SOp := [(some 26, .move (.tmp 2), none),
  (some 27, .load 46 (.tmp 8), none),
  (some 28, .load 46 (.tmp 9), none),
  (some 29, .call ⟨.value (.tmp 26), #[(.tmp 27), (.tmp 28)], #[46, 46]⟩, none),
  (some 30, .unOp .not 4 (.tmp 29), none)]
abbrev R73_8 : List SOp := [(some 6, .assign (.const (.bool false)), none)]
abbrev R73_9 : List SOp := [(some 31, .binOp .add 3 (.tmp 17) (.const (.int .i64 1)) 3, none),
  (some 17, .move (.tmp 31), none)]
def L73_0 : SCode := .seq (.reg R73_4) (.seq (.cond (.tmp 18) (.skip) (.exit 0)) (.seq (.block 1 (.seq (.reg R73_5) (.seq (.reg R73_6) (.seq (.reg R73_7) (.cond (.tmp 30) (.seq (.reg R73_8) (.ret)) (.skip)))))) (.reg R73_9)))
abbrev R73_10 : List SOp := [(some 6, .assign (.const (.bool true)), none)]
abbrev S73 : SCode := .seq (.reg R73_0) (.seq (.seq (.reg R73_1) (.cond (.tmp 14) (.seq (.reg R73_2) (.ret)) (.skip))) (.seq (.seq (.reg R73_3) (.block 0 (.loop L73_0))) (.seq (.reg R73_10) (.ret))))
theorem slim73 : slimC tab 73 (Tryz.f73.body.getD .skip) = S73 := by kernel_rfl
theorem wf73 {xs : List V} {H : Hp} {Q : V → Hp → Prop} (h : WC tab S73 (frame xs 0 .nil) H (resQ tab [.tmp 6] Q)) : WF tab 73 xs H Q := WF.of_slim (T := tab) (f := 73) rfl fn73 rfl slim73 rfl h
/-! slices.EqualFunc[[]paling/tree.Stmt,[]paling/tree.Stmt,paling/tree.Stmt,paling/tree.Stmt] -/
abbrev R52_0 : List SOp := [(some 6, .assign (.const (.bool false)), none)]
abbrev R52_1 : List SOp := [(some 10, .move (.tmp 0), none),
  (some 11, .call ⟨.builtin .len, #[(.tmp 10)], #[31]⟩, none),
  (some 12, .move (.tmp 1), none),
  (some 13, .call ⟨.builtin .len, #[(.tmp 12)], #[31]⟩, none),
  (some 14, .binOp .neq 3 (.tmp 11) (.tmp 13) 3, none)]
abbrev R52_2 : List SOp := [(some 6, .assign (.const (.bool false)), none)]
abbrev R52_3 : List SOp := [(some 15, .move (.tmp 0), none),
  (some 16, .call ⟨.builtin .len, #[(.tmp 15)], #[31]⟩, none),
  (some 17, .move (.const (.int .i64 0)), none)]
abbrev R52_4 : List SOp := [(some 18, .binOp .lss 3 (.tmp 17) (.tmp 16) 3, none)]
abbrev R52_5 : List SOp := [(some 19, .move (.tmp 17), none),
  (some 20, .indexAddr 31 (.tmp 15) (.tmp 17), none),
  (some 21, .load 42 (.tmp 20), none),
  (some 8, .alloc 42, none),
  (some 7, .assign (.tmp 19), none),
  (none, .store 42 (.tmp 8) (.tmp 21), none)]
abbrev R52_6 : List SOp := [(some 22, .move (.tmp 1), none),
  (some 23, .move (.tmp 7), none),
  (some 24, .indexAddr 31 (.tmp 22) (.tmp 23), none),
  (some 25, .load 42 (.tmp 24), none),
  (some 9, .alloc 42, none),
  (none, .store 42 (.tmp 9) (.tmp 25), none)]
abbrev R52_7 : List SOp := [(some 26, .move (.tmp 2), none),
  (some 27, .load 42 (.tmp 8), none),
  (some 28, .load 42 (.tmp 9), none),
  (some 29, .call ⟨.value (.tmp 26), #[(.tmp 27), (.tmp 28)], #[42, 42]⟩, none),
  (some 30, .unOp .not 4 (.tmp 29), none)]
abbrev R52_8 : List SOp := [(some 6, .assign (.const (.bool false)), none)]
abbrev R52_9 : List SOp := [(some 31, .binOp .add 3 (.tmp 17) (.const (.int .i64 1)) 3, none),
  (some 17, .move (.tmp 31), none)]
def L52_0 : SCode := .seq (.reg R52_4) (.seq (.cond (.tmp 18) (.skip) (.exit 0)) (.seq (.block 1 (.seq (.reg R52_5) (.seq (.reg R52_6) (.seq (.reg R52_7) (.cond (.tmp 30) (.seq (.reg R52_8) (.ret)) (.skip)))))) (.reg R52_9)))
abbrev R52_10 : List SOp := [(some 6, .assign (.const (.bool true)), none)]
abbrev S52 : SCode := .seq (.reg R52_0) (.seq (.seq (.reg R52_1) (.cond (.tmp 14) (.seq (.reg R52_2) (.ret)) (.skip))) (.seq (.seq (.reg R52_3) (.block 0 (.loop L52_0))) (.seq (.reg R52_10) (.ret))))
theorem slim52 : slimC tab 52 (Tryz.f52.body.getD .skip) = S52 := by kernel_rfl
theorem wf52 {xs : List V} {H : Hp} {Q : V → Hp → Prop} (h : WC tab S52 (frame xs 0 .nil) H (resQ tab [.tmp 6] Q)) : WF tab 52 xs H Q := WF.of_slim (T := tab) (f := 52) rfl fn52 rfl slim52 rfl h
/-! paling/tree.same -/
abbrev R88_0 : List SOp := [(some 2, .box 46 (.tmp 0), none),
  (some 3, .box 46 (.tmp 1), none),
  (some 4, .assign (.const (.bool false)), none)]
abbrev R88_1 : List SOp := [(some 5, .fieldAddr 46 (.tmp 2) 0, none),
  (some 6, .load 44 (.tmp 5), none),
  (some 7, .fieldAddr 46 (.tmp 3) 0, none),
  (some 8, .load 44 (.tmp 7), none),
  (some 9, .binOp .eql 44 (.tmp 6) (.tmp 8) 44, none),
  (some 10, .move (.tmp 9), none),
  (some 11, .fieldAddr 46 (.tmp 2) 1, some (some 10, true)),
  (some 12, .load 2 (.tmp 11), some (some 10, true)),
  (some 13, .fieldAddr 46 (.tmp 3) 1, some (some 10, true)),
  (some 14, .load 2 (.tmp 13), some (some 10, true)),
  (some 15, .binOp .eql 2 (.tmp 12) (.tmp 14) 2, some (some 10, true)),
  (some 16, .pick (.tmp 10) (.tmp 15) (.const (.bool false)), none),
  (some 17, .move (.tmp 16), none),
  (some 18, .fieldAddr 46 (.tmp 2) 2, some (some 17, true)),
  (some 19, .load 9 (.tmp 18), some (some 17, true)),
  (some 20, .fieldAddr 46 (.tmp 3) 2, some (some 17, true)),
  (some 21, .load 9 (.tmp 20), some (some 17, true)),
  (some 22, .binOp .eql 9 (.tmp 19) (.tmp 21) 9, some (some 17, true)),
  (some 23, .pick (.tmp 17) (.tmp 22) (.const (.bool false)), none),
  (some 24, .move (.tmp 23), none),
  (some 25, .fieldAddr 46 (.tmp 2) 3, some (some 24, true)),
  (some 26, .load 40 (.tmp 25), some (some 24, true)),
  (some 27, .fieldAddr 46 (.tmp 3) 3, some (some 24, true)),
  (some 28, .load 40 (.tmp 27), some (some 24, true)),
  (some 29, .call ⟨.value (.func 73), #[(.tmp 26), (.tmp 28), (.func 88)], #[40, 40, 123]⟩, some (some 24, true)),
  (some 30, .pick (.tmp 24) (.tmp 29) (.const (.bool false)), none),
  (some 31, .move (.tmp 30), none),
  (some 32, .fieldAddr 46 (.tmp 2) 4, some (some 31, true)),
  (some 33, .load 26 (.tmp 32), some (some 31, true)),
  (some 34, .fieldAddr 46 (.tmp 3) 4, some (some 31, true)),
  (some 35, .load 26 (.tmp 34), some (some 31, true)),
  (some 36, .call ⟨.value (.func 34), #[(.tmp 33), (.tmp 35)], #[26, 26]⟩, some (some 31, true)),
  (some 37, .pick (.tmp 31) (.tmp 36) (.const (.bool false)), none),
  (some 38, .move (.tmp 37), none),
  (some 39, .fieldAddr 46 (.tmp 2) 5, some (some 38, true)),
  (some 40, .load 31 (.tmp 39), some (some 38, true)),
  (some 41, .fieldAddr 46 (.tmp 3) 5, some (some 38, true)),
  (some 42, .load 31 (.tmp 41), some (some 38, true)),
  (some 43, .call ⟨.value (.func 23), #[(.tmp 40), (.tmp 42)], #[31, 31]⟩, some (some 38, true)),
  (some 44, .pick (.tmp 38) (.tmp 43) (.const (.bool false)), none),
  (some 4, .assign (.tmp 44), none)]
abbrev S88 : SCode := .seq (.reg R88_0) (.seq (.reg R88_1) (.ret))
theorem slim88 : slimC tab 88 (Tryz.f88.body.getD .skip) = S88 := by kernel_rfl
theorem wf88 {xs : List V} {H : Hp} {Q : V → Hp → Prop} (h : WC tab S88 (frame xs 0 .nil) H (resQ tab [.tmp 4] Q)) : WF tab 88 xs H Q := WF.of_slim (T := tab) (f := 88) rfl fn88 rfl slim88 rfl h
/-! paling/tree.alike -/
abbrev R53_0 : List SOp := [(some 2, .box 42 (.tmp 0), none),
  (some 3, .box 42 (.tmp 1), none),
  (some 4, .assign (.const (.bool false)), none)]
abbrev R53_1 : List SOp := [(some 5, .fieldAddr 42 (.tmp 2) 0, none),
  (some 6, .load 39 (.tmp 5), none),
  (some 7, .fieldAddr 42 (.tmp 3) 0, none),
  (some 8, .load 39 (.tmp 7), none),
  (some 9, .binOp .eql 39 (.tmp 6) (.tmp 8) 39, none),
  (some 10, .move (.tmp 9), none),
  (some 11, .fieldAddr 42 (.tmp 2) 1, some (some 10, true)),
  (some 12, .load 9 (.tmp 11), some (some 10, true)),
  (some 13, .fieldAddr 42 (.tmp 3) 1, some (some 10, true)),
  (some 14, .load 9 (.tmp 13), some (some 10, true)),
  (some 15, .binOp .eql 9 (.tmp 12) (.tmp 14) 9, some (some 10, true)),
  (some 16, .pick (.tmp 10) (.tmp 15) (.const (.bool false)), none),
  (some 17, .move (.tmp 16), none),
  (some 18, .fieldAddr 42 (.tmp 2) 2, some (some 17, true)),
  (some 19, .load 40 (.tmp 18), some (some 17, true)),
  (some 20, .fieldAddr 42 (.tmp 3) 2, some (some 17, true)),
  (some 21, .load 40 (.tmp 20), some (some 17, true)),
  (some 22, .call ⟨.value (.func 73), #[(.tmp 19), (.tmp 21), (.func 88)], #[40, 40, 123]⟩, some (some 17, true)),
  (some 23, .pick (.tmp 17) (.tmp 22) (.const (.bool false)), none),
  (some 24, .move (.tmp 23), none),
  (some 25, .fieldAddr 42 (.tmp 2) 3, some (some 24, true)),
  (some 26, .load 31 (.tmp 25), some (some 24, true)),
  (some 27, .fieldAddr 42 (.tmp 3) 3, some (some 24, true)),
  (some 28, .load 31 (.tmp 27), some (some 24, true)),
  (some 29, .call ⟨.value (.func 23), #[(.tmp 26), (.tmp 28)], #[31, 31]⟩, some (some 24, true)),
  (some 30, .pick (.tmp 24) (.tmp 29) (.const (.bool false)), none),
  (some 31, .move (.tmp 30), none),
  (some 32, .fieldAddr 42 (.tmp 2) 4, some (some 31, true)),
  (some 33, .load 31 (.tmp 32), some (some 31, true)),
  (some 34, .fieldAddr 42 (.tmp 3) 4, some (some 31, true)),
  (some 35, .load 31 (.tmp 34), some (some 31, true)),
  (some 36, .call ⟨.value (.func 23), #[(.tmp 33), (.tmp 35)], #[31, 31]⟩, some (some 31, true)),
  (some 37, .pick (.tmp 31) (.tmp 36) (.const (.bool false)), none),
  (some 4, .assign (.tmp 37), none)]
abbrev S53 : SCode := .seq (.reg R53_0) (.seq (.reg R53_1) (.ret))
theorem slim53 : slimC tab 53 (Tryz.f53.body.getD .skip) = S53 := by kernel_rfl
theorem wf53 {xs : List V} {H : Hp} {Q : V → Hp → Prop} (h : WC tab S53 (frame xs 0 .nil) H (resQ tab [.tmp 4] Q)) : WF tab 53 xs H Q := WF.of_slim (T := tab) (f := 53) rfl fn53 rfl slim53 rfl h
/-! paling/tree.Same -/
abbrev R23_0 : List SOp := [(some 4, .assign (.const (.bool false)), none)]
abbrev R23_1 : List SOp := [(some 5, .move (.tmp 0), none),
  (some 6, .move (.tmp 1), none),
  (some 7, .call ⟨.value (.func 52), #[(.tmp 5), (.tmp 6), (.func 53)], #[31, 31, 97]⟩, none),
  (some 4, .assign (.tmp 7), none)]
abbrev S23 : SCode := .seq (.reg R23_0) (.seq (.reg R23_1) (.ret))
theorem slim23 : slimC tab 23 (Tryz.f23.body.getD .skip) = S23 := by kernel_rfl
theorem wf23 {xs : List V} {H : Hp} {Q : V → Hp → Prop} (h : WC tab S23 (frame xs 0 .nil) H (resQ tab [.tmp 4] Q)) : WF tab 23 xs H Q := WF.of_slim (T := tab) (f := 23) rfl fn23 rfl slim23 rfl h
/-! slices.Equal[[]string,string] -/
abbrev R34_0 : List SOp := [(some 4, .assign (.const (.bool false)), none)]
abbrev R34_1 : List SOp := [(some 6, .move (.tmp 0), none),
  (some 7, .call ⟨.builtin .len, #[(.tmp 6)], #[26]⟩, none),
  (some 8, .move (.tmp 1), none),
  (some 9, .call ⟨.builtin .len, #[(.tmp 8)], #[26]⟩, none),
  (some 10, .binOp .neq 3 (.tmp 7) (.tmp 9) 3, none)]
abbrev R34_2 : List SOp := [(some 4, .assign (.const (.bool false)), none)]
abbrev R34_3 : List SOp := [(some 11, .move (.tmp 0), none),
  (some 12, .call ⟨.builtin .len, #[(.tmp 11)], #[26]⟩, none),
  (some 13, .move (.const (.int .i64 0)), none)]
abbrev R34_4 : List SOp := [(some 14, .binOp .lss 3 (.tmp 13) (.tmp 12) 3, none)]
abbrev R34_5 : List SOp := [(some 15, .move (.tmp 13), none),
  (some 5, .assign (.tmp 15), none)]
abbrev R34_6 : List (SOp × Nat) := [((some 16, .move (.tmp 0), none), 0),
  ((some 17, .move (.tmp 5), none), 0),
  ((some 18, .indexAddr 26 (.tmp 16) (.tmp 17), none), 0),
  ((some 19, .load 9 (.tmp 18), none), 0),
  ((some 20, .move (.tmp 1), none), 0),
  ((some 21, .move (.tmp 5), none), 0),
  ((some 22, .indexAddr 26 (.tmp 20) (.tmp 21), none), 0),
  ((some 23, .load 9 (.tmp 22), none), 0),
  ((some 24, .binOp .neq 9 (.tmp 19) (.tmp 23) 9, none), 0)]
abbrev R34_7 : List SOp := [(some 4, .assign (.const (.bool false)), none)]
abbrev R34_8 : List SOp := [(some 25, .binOp .add 3 (.tmp 13) (.const (.int .i64 1)) 3, none),
  (some 13, .move (.tmp 25), none)]
def L34_0 : SCode := .seq (.reg R34_4) (.seq (.cond (.tmp 14) (.skip) (.exit 0)) (.seq (.block 1 (.seq (.reg R34_5) (.seq (.dreg R34_6) (.cond (.tmp 24) (.seq (.reg R34_7) (.ret)) (.skip))))) (.reg R34_8)))
abbrev R34_9 : List SOp := [(some 4, .assign (.const (.bool true)), none)]
abbrev S34 : SCode := .seq (.reg R34_0) (.seq (.seq (.reg R34_1) (.cond (.tmp 10) (.seq (.reg R34_2) (.ret)) (.skip))) (.seq (.seq (.reg R34_3) (.block 0 (.loop L34_0))) (.seq (.reg R34_9) (.ret))))
theorem slim34 : slimC tab 34 (Tryz.f34.body.getD .skip) = S34 := by kernel_rfl
theorem wf34 {xs : List V} {H : Hp} {Q : V → Hp → Prop} (h : WC tab S34 (frame xs 0 .nil) H (resQ tab [.tmp 4] Q)) : WF tab 34 xs H Q := WF.of_slim (T := tab) (f := 34) rfl fn34 rfl slim34 rfl h
end Go.AM.YtlcadokmhfjacaaGreatDoorT
/- What simp opens in the walks of this seat: printed by genset.py. -/
namespace Go.AM.YtlcadokmhfjacaaGreatDoorT
open Go Go.AM
end Go.AM.YtlcadokmhfjacaaGreatDoorT
/- Are two trees the same? The walks. -/
set_option linter.unusedVariables false
set_option linter.unusedSimpArgs false
set_option maxRecDepth 100000
namespace Go.AM.YtlcadokmhfjacaaGreatDoorT
open Go Go.AM Go.Proofs
theorem eqT_ok {K : Nat → Prop} {H : Hp} {l m : List (List UInt8)} {v u : V} (hst : H.stale = []) (hA : StrsAt K H l v) (hB : StrsAt K H m u) (hl : l.length ≤ 1099511627776) : WF tab 34 [v, u] H fun w H' => w = .bool (l == m) ∧ H' = H := by
  refine wf34 (wp_sound _ ?_)
  have h1 := hA.len 9; have h2 := hA.one; have h3 := hA.cells
  have k1 := hB.len 9; have k2 := hB.one; have k3 := hB.cells
  by_cases hlm : l.length = m.length
  · have hn : ((l.length : Int) != (m.length : Int)) = false := by simp [hlm]
    simp [hst, h1, h2, h3, k1, k2, k3, hn]
    refine loop_of (fun k F H' => ∃ i, i + k = l.length ∧ H' = H ∧ l.take i = m.take i ∧ F.get 0 = some v ∧ F.get 1 = some u ∧ F.get 12 = some (.int .i64 l.length) ∧ F.get 13 = some (.int .i64 i)) (m := l.length) ⟨0, by omega, rfl, by simp, by simp, by simp, by simp, by simp⟩ ?_
    rintro k F _ ⟨i, hi, rfl, he, f0, f1, f12, f13⟩
    by_cases hlt : i < l.length
    · have hlt' : (i : Int) < (l.length : Int) := by omega
      have hltm : i < m.length := by omega
      have hltm' : (i : Int) < (m.length : Int) := by omega
      obtain ⟨b, off, cap, e, ro, cells, rfl, g1, g2, g3, g4, g5⟩ := StrsAt.at_ hA hlt
      obtain ⟨b', off', cap', e', ro', cells', rfl, g1', g2', g3', g4', g5'⟩ := StrsAt.at_ hB hltm
      have hw : wr .i64 ((i : Int) + 1) = ((i + 1 : Nat) : Int) := by rw [wr_i64 (by omega) (by omega)]; omega
      by_cases hc : l[i] = m[i]
      · have hc' : (l[i] == m[i]) = true := by simp [hc]
        simp [L34_0, f0, f1, f12, f13, hst, hlt, hlt', hltm, hltm', g1, g5, g1', g5', hc, hc', hw, eqV]
        exact ⟨k - 1, by omega, i + 1, by omega, by rw [List.take_succ_eq_append_getElem hlt, List.take_succ_eq_append_getElem hltm, he, hc], by omega⟩
      · have hc' : (l[i] == m[i]) = false := beq_false_of_ne hc
        have hne : (l == m) = false := beq_false_of_ne fun e => hc (by subst e; rfl)
        simp [L34_0, f0, f1, f12, f13, hst, hlt, hlt', hltm, hltm', g1, g5, g1', g5', hc', hw, hne, eqV]
    · have hlt' : ¬ (i : Int) < (l.length : Int) := by omega
      have : l = m := by
        rw [List.take_of_length_le (by omega), List.take_of_length_le (by omega)] at he
        exact he
      subst this
      simp [L34_0, f0, f1, f12, f13, hst, hlt']
  · have hn : ((l.length : Int) != (m.length : Int)) = true := by simp; omega
    have hne : (l == m) = false := beq_false_of_ne fun e => hlm (by subst e; rfl)
    simp [hst, h1, h2, h3, k1, k2, k3, hn, hne]
/-- What the comparisons come to. -/
def qE (e : Tx) : Prop := ∀ (e' : Tx) (H : Hp) (cs cs' : List V) (K : Nat → Prop), e'.eok → H.stale = [] → ExpAt K H e cs → ExpAt K H e' cs' → (∀ b, K b → b < H.next) → e.wt ≤ 1099511627776 → WF tab 88 [.agg cs, .agg cs'] H fun w H' => w = .bool (smE e e') ∧ Ext noX H H'
def qS (e : Tx) : Prop := ∀ (e' : Tx) (H : Hp) (cs cs' : List V) (K : Nat → Prop), e'.sok → H.stale = [] → ExpAt K H e cs → ExpAt K H e' cs' → (∀ b, K b → b < H.next) → e.wt ≤ 1099511627776 → WF tab 53 [.agg cs, .agg cs'] H fun w H' => w = .bool (smE e e') ∧ Ext noX H H'
def qLE (l : List Tx) : Prop := ∀ (m : List Tx) (H : Hp) (v u : V) (K : Nat → Prop), eoks m → H.stale = [] → TreesAt K H l v → TreesAt K H m u → (∀ b, K b → b < H.next) → wts l ≤ 1099511627776 → WF tab 73 [v, u, .fn (.func 88) [] []] H fun w H' => w = .bool (smL l m) ∧ Ext noX H H'
def qLS (l : List Tx) : Prop := ∀ (m : List Tx) (H : Hp) (v u : V) (K : Nat → Prop), soks m → H.stale = [] → TreesAt K H l v → TreesAt K H m u → (∀ b, K b → b < H.next) → wts l ≤ 1099511627776 → WF tab 52 [v, u, .fn (.func 53) [] []] H fun w H' => w = .bool (smL l m) ∧ Ext noX H H'
theorem wts_len : ∀ l : List Tx, l.length ≤ wts l
  | [] => by simp [wts]
  | x :: r => by have := wts_len r; have := x.wt_pos; simp only [wts, List.length_cons]; omega
theorem wts_mem : ∀ {l : List Tx} {x : Tx}, x ∈ l → x.wt ≤ wts l
  | y :: r, x, hx => by
    simp only [wts]
    rcases List.mem_cons.1 hx with rfl | hx
    · omega
    · have := wts_mem hx; omega
structure JEqE (H0 : Hp) (v u : V) (l m : List Tx) (i : Nat) (F : Fr) (H : Hp) : Prop where
  ext : Ext noX H0 H
  sm : smL (l.take i) (m.take i) = true
  f1 : F.get 1 = some u
  f2 : F.get 2 = some (.fn (.func 88) [] [])
  f15 : F.get 15 = some v
  f16 : F.get 16 = some (.int .i64 l.length)
  f17 : F.get 17 = some (.int .i64 i)
theorem EqE_ok {l : List Tx} (hP : ∀ p ∈ l, qE p) : qLE l := by
  intro m H0 v u K hok hst0 hA hB hK hb
  refine wf73 (wp_sound _ ?_)
  have h1 := SliceOf.len hA 46; have h2 := SliceOf.one hA; have h3 := SliceOf.cells hA
  have k1 := SliceOf.len hB 46; have k2 := SliceOf.one hB; have k3 := SliceOf.cells hB
  have hwl := wts_len l
  by_cases hlm : l.length = m.length
  · have hn : ((l.length : Int) != (m.length : Int)) = false := by simp [hlm]
    simp [hst0, h1, h2, h3, k1, k2, k3, hn]
    refine loop_of (fun k F H => ∃ i, i + k = l.length ∧ JEqE H0 v u l m i F H) (m := l.length) ⟨0, by omega, ⟨Ext.refl hst0, by simp [smL], by simp, by simp, by simp, by simp, by simp⟩⟩ ?_
    rintro k F H ⟨i, hi, I⟩
    have hst := I.ext.st
    have f1 := I.f1; have f2 := I.f2; have f15 := I.f15; have f16 := I.f16; have f17 := I.f17
    by_cases hlt : i < l.length
    · have hlt' : (i : Int) < (l.length : Int) := by omega
      have hltm : i < m.length := by omega
      have hltm' : (i : Int) < (m.length : Int) := by omega
      have hS0 : Stays K K H0 H := ⟨fun b hb _ => hb, fun b hb hx => I.ext.get b hx (fun h => h), I.ext.le⟩
      obtain ⟨b, off, cap, e, ro, cells, d0, d1, d2, d3, d4, d5, rfl, g1, g2, g3, g4, g5, g6, g7, n0, n1, n2, n3, n4, n5⟩ := TreesAt.at_ (hA.mono hS0) hlt
      obtain ⟨b', off', cap', e', ro', cells', c0, c1, c2, c3, c4, c5, rfl, q1, q2, q3, q4, q5, q6, q7, m0, m1, m2, m3, m4, m5⟩ := TreesAt.at_ (hB.mono hS0) hltm
      have hw : wr .i64 ((i : Int) + 1) = ((i + 1 : Nat) : Int) := by rw [wr_i64 (by omega) (by omega)]; omega
      have hoff : off + i * 6 + 6 ≤ cells.length := by omega
      have hoff' : off' + i * 6 + 6 ≤ cells'.length := by omega
      have hb3 := old_ne q3
      simp [L73_0, f1, f2, f15, f16, f17, hst, hlt, hlt', hltm, hltm', g1, g4, g5, g6, hoff, q1, q4, q5, q6, hoff', hb3, n0, n1, n2, n3, n4, n5, m0, m1, m2, m3, m4, m5, Hp.get_new, Hp.get_put]
      have hX1 : ∀ o o' : Ob, Ext noX H ((H.new o).put H.next o') := fun o o' => ⟨by simp [hst], by simp, fun b hb _ => by simp [Hp.get_new, Hp.get_put, old_ne hb]⟩
      have hX2 : ∀ o1 o2 o3 o4 : Ob, Ext noX H ((((H.new o1).put H.next o2).new o3).put (H.next + 1) o4) := fun o1 o2 o3 o4 => ⟨by simp [hst], by simp; omega, fun b hb _ => by simp [Hp.get_new, Hp.get_put, old_ne hb]⟩
      have hS2 : ∀ o1 o2 o3 o4 : Ob, Stays K K H ((((H.new o1).put H.next o2).new o3).put (H.next + 1) o4) := fun o1 o2 o3 o4 => ⟨fun b hb _ => hb, fun b hb hx => (hX2 o1 o2 o3 o4).get b hx (fun h => h), (hX2 o1 o2 o3 o4).le⟩
      have hwm := wts_mem (List.getElem_mem hlt)
      have hIle := I.ext.le
      refine (hP l[i] (List.getElem_mem hlt) m[i] _ _ _ K (eoks_mem hok _ (List.getElem_mem hltm)) (by simp [hst]) (ExpAt.mono (hS2 _ _ _ _) _ _ g7) (ExpAt.mono (hS2 _ _ _ _) _ _ q7) (fun b hb => by have := hK b hb; simp; omega) (by omega)).mono ?_
      rintro w H3 ⟨rfl, hX3⟩
      have hXX := I.ext.trans ((hX2 _ _ _ _).trans hX3)
      cases hc : smE l[i] m[i] with
      | true =>
        simp [hX3.st, f17, hw]
        exact ⟨k - 1, by omega, i + 1, by omega, hXX, by rw [smL_take hlt hltm, I.sm, hc]; rfl, by simp [f1], by simp [f2], by simp [f15], by simp [f16], by simp⟩
      | false =>
        simp [hX3.st, smL_false hlt hltm hc, hXX]
    · have hlt' : ¬ (i : Int) < (l.length : Int) := by omega
      have hs := I.sm
      rw [List.take_of_length_le (by omega), List.take_of_length_le (by omega)] at hs
      simp [L73_0, f1, f2, f15, f16, f17, hst, hlt', hs, I.ext]
  · have hn : ((l.length : Int) != (m.length : Int)) = true := by simp; omega
    have hs : smL l m = false := by
      cases h : smL l m with
      | false => rfl
      | true => exact absurd (smL_len h) hlm
    simp [hst0, h1, h2, h3, k1, k2, k3, hn, hs]
    exact Ext.refl hst0
structure JEqS (H0 : Hp) (v u : V) (l m : List Tx) (i : Nat) (F : Fr) (H : Hp) : Prop where
  ext : Ext noX H0 H
  sm : smL (l.take i) (m.take i) = true
  f1 : F.get 1 = some u
  f2 : F.get 2 = some (.fn (.func 53) [] [])
  f15 : F.get 15 = some v
  f16 : F.get 16 = some (.int .i64 l.length)
  f17 : F.get 17 = some (.int .i64 i)
theorem EqS_ok {l : List Tx} (hP : ∀ p ∈ l, qS p) : qLS l := by
  intro m H0 v u K hok hst0 hA hB hK hb
  refine wf52 (wp_sound _ ?_)
  have h1 := SliceOf.len hA 42; have h2 := SliceOf.one hA; have h3 := SliceOf.cells hA
  have k1 := SliceOf.len hB 42; have k2 := SliceOf.one hB; have k3 := SliceOf.cells hB
  have hwl := wts_len l
  by_cases hlm : l.length = m.length
  · have hn : ((l.length : Int) != (m.length : Int)) = false := by simp [hlm]
    simp [hst0, h1, h2, h3, k1, k2, k3, hn]
    refine loop_of (fun k F H => ∃ i, i + k = l.length ∧ JEqS H0 v u l m i F H) (m := l.length) ⟨0, by omega, ⟨Ext.refl hst0, by simp [smL], by simp, by simp, by simp, by simp, by simp⟩⟩ ?_
    rintro k F H ⟨i, hi, I⟩
    have hst := I.ext.st
    have f1 := I.f1; have f2 := I.f2; have f15 := I.f15; have f16 := I.f16; have f17 := I.f17
    by_cases hlt : i < l.length
    · have hlt' : (i : Int) < (l.length : Int) := by omega
      have hltm : i < m.length := by omega
      have hltm' : (i : Int) < (m.length : Int) := by omega
      have hS0 : Stays K K H0 H := ⟨fun b hb _ => hb, fun b hb hx => I.ext.get b hx (fun h => h), I.ext.le⟩
      obtain ⟨b, off, cap, e, ro, cells, d0, d1, d2, d3, d4, d5, rfl, g1, g2, g3, g4, g5, g6, g7, n0, n1, n2, n3, n4, n5⟩ := TreesAt.at_ (hA.mono hS0) hlt
      obtain ⟨b', off', cap', e', ro', cells', c0, c1, c2, c3, c4, c5, rfl, q1, q2, q3, q4, q5, q6, q7, m0, m1, m2, m3, m4, m5⟩ := TreesAt.at_ (hB.mono hS0) hltm
      have hw : wr .i64 ((i : Int) + 1) = ((i + 1 : Nat) : Int) := by rw [wr_i64 (by omega) (by omega)]; omega
      have hoff : off + i * 6 + 6 ≤ cells.length := by omega
      have hoff' : off' + i * 6 + 6 ≤ cells'.length := by omega
      have hb3 := old_ne q3
      simp [L52_0, f1, f2, f15, f16, f17, hst, hlt, hlt', hltm, hltm', g1, g4, g5, g6, hoff, q1, q4, q5, q6, hoff', hb3, n0, n1, n2, n3, n4, n5, m0, m1, m2, m3, m4, m5, Hp.get_new, Hp.get_put]
      have hX1 : ∀ o o' : Ob, Ext noX H ((H.new o).put H.next o') := fun o o' => ⟨by simp [hst], by simp, fun b hb _ => by simp [Hp.get_new, Hp.get_put, old_ne hb]⟩
      have hX2 : ∀ o1 o2 o3 o4 : Ob, Ext noX H ((((H.new o1).put H.next o2).new o3).put (H.next + 1) o4) := fun o1 o2 o3 o4 => ⟨by simp [hst], by simp; omega, fun b hb _ => by simp [Hp.get_new, Hp.get_put, old_ne hb]⟩
      have hS2 : ∀ o1 o2 o3 o4 : Ob, Stays K K H ((((H.new o1).put H.next o2).new o3).put (H.next + 1) o4) := fun o1 o2 o3 o4 => ⟨fun b hb _ => hb, fun b hb hx => (hX2 o1 o2 o3 o4).get b hx (fun h => h), (hX2 o1 o2 o3 o4).le⟩
      have hwm := wts_mem (List.getElem_mem hlt)
      have hIle := I.ext.le
      refine (hP l[i] (List.getElem_mem hlt) m[i] _ _ _ K (soks_mem hok _ (List.getElem_mem hltm)) (by simp [hst]) (ExpAt.mono (hS2 _ _ _ _) _ _ g7) (ExpAt.mono (hS2 _ _ _ _) _ _ q7) (fun b hb => by have := hK b hb; simp; omega) (by omega)).mono ?_
      rintro w H3 ⟨rfl, hX3⟩
      have hXX := I.ext.trans ((hX2 _ _ _ _).trans hX3)
      cases hc : smE l[i] m[i] with
      | true =>
        simp [hX3.st, f17, hw]
        exact ⟨k - 1, by omega, i + 1, by omega, hXX, by rw [smL_take hlt hltm, I.sm, hc]; rfl, by simp [f1], by simp [f2], by simp [f15], by simp [f16], by simp⟩
      | false =>
        simp [hX3.st, smL_false hlt hltm hc, hXX]
    · have hlt' : ¬ (i : Int) < (l.length : Int) := by omega
      have hs := I.sm
      rw [List.take_of_length_le (by omega), List.take_of_length_le (by omega)] at hs
      simp [L52_0, f1, f2, f15, f16, f17, hst, hlt', hs, I.ext]
  · have hn : ((l.length : Int) != (m.length : Int)) = true := by simp; omega
    have hs : smL l m = false := by
      cases h : smL l m with
      | false => rfl
      | true => exact absurd (smL_len h) hlm
    simp [hst0, h1, h2, h3, k1, k2, k3, hn, hs]
    exact Ext.refl hst0
/-- Are two blocks the same? -/
def qB (l : List Tx) : Prop := ∀ (m : List Tx) (H : Hp) (v u : V) (K : Nat → Prop), soks m → H.stale = [] → TreesAt K H l v → TreesAt K H m u → (∀ b, K b → b < H.next) → wts l ≤ 1099511627776 → WF tab 23 [v, u] H fun w H' => w = .bool (smL l m) ∧ Ext noX H H'
theorem same_ok {l : List Tx} (h : qLS l) : qB l := by
  intro m H v u K hok hst hA hB hK hb
  refine wf23 (wp_sound _ ?_)
  have h2 := SliceOf.one hA; have h3 := SliceOf.cells hA
  have k2 := SliceOf.one hB; have k3 := SliceOf.cells hB
  simp [hst, h2, h3, k2, k3]
  refine (h m H v u K hok hst hA hB hK hb).mono ?_
  rintro w H2 ⟨rfl, hX⟩
  simp [hX.st, hX]
theorem alike_ok {kind : Nat} {name : List UInt8} {es bd el : List Tx} {at_ : Int} (hE : qLE es) (hB : qB bd) (hC : qB el) : qS (.st kind name es bd el at_) := by
  intro e' H cs cs' K hok hst hT hT' hK hb
  cases e' with
  | ex => simp only [Tx.sok] at hok
  | st kind' name' es' bd' el' at' =>
  simp only [Tx.sok] at hok
  refine wf53 (wp_sound _ ?_)
  simp only [ExpAt] at hT hT'
  obtain ⟨ve, vb, vl, rfl, t1, t2, t3⟩ := hT
  obtain ⟨we, wb, wl, rfl, r1, r2, r3⟩ := hT'
  simp only [Tx.wt] at hb
  have n1 := t1.one; have n2 := t2.one; have n3 := t3.one
  have m1 := r1.one; have m2 := r2.one; have m3 := r3.one
  have hX2 : ∀ o1 o2 : Ob, Ext noX H ((H.new o1).new o2) := fun o1 o2 => (Ext.new hst o1).trans (Ext.new (by simp [hst]) o2)
  have hS2 : ∀ o1 o2 : Ob, Stays K K H ((H.new o1).new o2) := fun o1 o2 => ⟨fun b hb _ => hb, fun b hb hx => (hX2 o1 o2).get b hx (fun h => h), (hX2 o1 o2).le⟩
  have keep : ∀ (o1 o2 : Ob) (H2 : Hp), Ext noX ((H.new o1).new o2) H2 → H2.get H.next = some o1 ∧ H2.get (H.next + 1) = some o2 ∧ Ext noX H H2 ∧ Stays K K H H2 ∧ ∀ b, K b → b < H2.next := fun o1 o2 H2 h => by
    have hX := (hX2 o1 o2).trans h
    exact ⟨by rw [h.get H.next (by simp; omega) (fun h => h)]; simp [Hp.get_new], by rw [h.get (H.next + 1) (by simp) (fun h => h)]; simp [Hp.get_new], hX, ⟨fun b hb _ => hb, fun b hb hx => hX.get b hx (fun h => h), hX.le⟩, fun b hb => by have := hK b hb; have := hX.le; omega⟩
  by_cases h1 : kind = kind'
  · subst h1
    by_cases h2 : name = name'
    · subst h2
      simp [hst, n1, n2, n3, m1, m2, m3, Hp.get_new]
      refine (hE es' _ ve we K hok.1 (by simp [hst]) (t1.mono (hS2 _ _) (ElsAt.mono (hS2 _ _) _)) (r1.mono (hS2 _ _) (ElsAt.mono (hS2 _ _) _)) (fun b hb => by have := hK b hb; simp; omega) (by omega)).mono ?_
      rintro w H3 ⟨rfl, hX3⟩
      obtain ⟨a1, a2, a3, a4, a5⟩ := keep _ _ H3 hX3
      cases c1 : smL es es' with
      | false => simp [a3.st, smE, c1, a3]
      | true =>
        simp [a3.st, a1, a2]
        refine (hB bd' H3 vb wb K hok.2.1 a3.st (t2.mono a4 (ElsAt.mono a4 _)) (r2.mono a4 (ElsAt.mono a4 _)) a5 (by omega)).mono ?_
        rintro w H4 ⟨rfl, hX4⟩
        obtain ⟨b1, b2, b3, b4, b5⟩ := keep _ _ H4 (hX3.trans hX4)
        cases c2 : smL bd bd' with
        | false => simp [b3.st, smE, c1, c2, b3]
        | true =>
          simp [b3.st, b1, b2]
          refine (hC el' H4 vl wl K hok.2.2 b3.st (t3.mono b4 (ElsAt.mono b4 _)) (r3.mono b4 (ElsAt.mono b4 _)) b5 (by omega)).mono ?_
          rintro w H5 ⟨rfl, hX5⟩
          simp [hX5.st, smE, c1, c2, b3.trans hX5]
    · have h2' : (name == name') = false := beq_false_of_ne h2
      simp [hst, n1, n2, n3, m1, m2, m3, h2', Hp.get_new]
      exact ⟨by simp [smE, h2'], hX2 _ _⟩
  · have h1' : ((kind : Int) == (kind' : Int)) = false := beq_false_of_ne (by omega)
    have h1'' : (kind == kind') = false := beq_false_of_ne h1
    simp [hst, n1, n2, n3, m1, m2, m3, h1', Hp.get_new]
    exact ⟨by simp [smE, h1''], hX2 _ _⟩
theorem sameE_ok {op : Nat} {num : Int} {text : List UInt8} {ps bd : List Tx} {qs : List (List UInt8)} (hE : qLE ps) (hB : qB bd) : qE (.ex op num text ps qs bd) := by
  intro e' H cs cs' K hok hst hT hT' hK hb
  cases e' with
  | st => simp only [Tx.eok] at hok
  | ex op' num' text' ps' qs' bd' =>
  simp only [Tx.eok] at hok
  refine wf88 (wp_sound _ ?_)
  simp only [ExpAt] at hT hT'
  obtain ⟨ve, vb, vl, rfl, t1, t2, t3⟩ := hT
  obtain ⟨we, wb, wl, rfl, r1, r2, r3⟩ := hT'
  simp only [Tx.wt] at hb
  have n1 := t1.one; have n2 := t2.one; have n3 := t3.one
  have m1 := r1.one; have m2 := r2.one; have m3 := r3.one
  have hX2 : ∀ o1 o2 : Ob, Ext noX H ((H.new o1).new o2) := fun o1 o2 => (Ext.new hst o1).trans (Ext.new (by simp [hst]) o2)
  have hS2 : ∀ o1 o2 : Ob, Stays K K H ((H.new o1).new o2) := fun o1 o2 => ⟨fun b hb _ => hb, fun b hb hx => (hX2 o1 o2).get b hx (fun h => h), (hX2 o1 o2).le⟩
  have keep : ∀ (o1 o2 : Ob) (H2 : Hp), Ext noX ((H.new o1).new o2) H2 → H2.get H.next = some o1 ∧ H2.get (H.next + 1) = some o2 ∧ Ext noX H H2 ∧ Stays K K H H2 ∧ ∀ b, K b → b < H2.next := fun o1 o2 H2 h => by
    have hX := (hX2 o1 o2).trans h
    exact ⟨by rw [h.get H.next (by simp; omega) (fun h => h)]; simp [Hp.get_new], by rw [h.get (H.next + 1) (by simp) (fun h => h)]; simp [Hp.get_new], hX, ⟨fun b hb _ => hb, fun b hb hx => hX.get b hx (fun h => h), hX.le⟩, fun b hb => by have := hK b hb; have := hX.le; omega⟩
  by_cases h1 : op = op'
  · subst h1
    by_cases h2 : num = num'
    · subst h2
      by_cases h3 : text = text'
      · subst h3
        simp [hst, n1, n2, n3, m1, m2, m3, Hp.get_new]
        refine (hE ps' _ ve we K hok.1 (by simp [hst]) (t1.mono (hS2 _ _) (ElsAt.mono (hS2 _ _) _)) (r1.mono (hS2 _ _) (ElsAt.mono (hS2 _ _) _)) (fun b hb => by have := hK b hb; simp; omega) (by omega)).mono ?_
        rintro w H3 ⟨rfl, hX3⟩
        obtain ⟨a1, a2, a3, a4, a5⟩ := keep _ _ H3 hX3
        cases c1 : smL ps ps' with
        | false => simp [a3.st, smE, c1, a3]
        | true =>
          simp [a3.st, a1, a2]
          refine (eqT_ok (K := K) a3.st (t2.mono a4 fun _ h => h) (r2.mono a4 fun _ h => h) (by omega)).mono ?_
          rintro w H4 ⟨rfl, rfl⟩
          cases c2 : (qs == qs') with
          | false => simp [a3.st, smE, c1, c2, a3]
          | true =>
            simp [a3.st, a1, a2]
            refine (hB bd' H4 vl wl K hok.2 a3.st (t3.mono a4 (ElsAt.mono a4 _)) (r3.mono a4 (ElsAt.mono a4 _)) a5 (by omega)).mono ?_
            rintro w H5 ⟨rfl, hX5⟩
            simp [hX5.st, smE, c1, c2, a3.trans hX5]
      · have h3' : (text == text') = false := beq_false_of_ne h3
        simp [hst, n1, n2, n3, m1, m2, m3, h3', Hp.get_new]
        exact ⟨by simp [smE, h3'], hX2 _ _⟩
    · have h2' : (num == num') = false := beq_false_of_ne h2
      simp [hst, n1, n2, n3, m1, m2, m3, h2', Hp.get_new]
      exact ⟨by simp [smE, h2'], hX2 _ _⟩
  · have h1' : ((op : Int) == (op' : Int)) = false := beq_false_of_ne (by omega)
    have h1'' : (op == op') = false := beq_false_of_ne h1
    simp [hst, n1, n2, n3, m1, m2, m3, h1', Hp.get_new]
    exact ⟨by simp [smE, h1''], hX2 _ _⟩
mutual
theorem qE_all : ∀ t : Tx, t.eok → qE t
  | .ex op num text ps qs b, h => by
    simp only [Tx.eok] at h
    exact sameE_ok (EqE_ok (qEs_all ps h.1)) (same_ok (EqS_ok (qSs_all b h.2)))
  | .st .., h => by simp only [Tx.eok] at h
theorem qEs_all : ∀ l : List Tx, eoks l → ∀ p ∈ l, qE p
  | [], _, p, hp => by cases hp
  | x :: r, h, p, hp => by
    simp only [eoks] at h
    have h1 := qE_all x h.1
    have h2 := qEs_all r h.2
    rcases List.mem_cons.1 hp with rfl | hp
    · exact h1
    · exact h2 p hp
theorem qS_all : ∀ t : Tx, t.sok → qS t
  | .st kind name es b e a, h => by
    simp only [Tx.sok] at h
    exact alike_ok (EqE_ok (qEs_all es h.1)) (same_ok (EqS_ok (qSs_all b h.2.1))) (same_ok (EqS_ok (qSs_all e h.2.2)))
  | .ex .., h => by simp only [Tx.sok] at h
theorem qSs_all : ∀ l : List Tx, soks l → ∀ p ∈ l, qS p
  | [], _, p, hp => by cases hp
  | x :: r, h, p, hp => by
    simp only [soks] at h
    have h1 := qS_all x h.1
    have h2 := qSs_all r h.2
    rcases List.mem_cons.1 hp with rfl | hp
    · exact h1
    · exact h2 p hp
end
theorem q_all {l : List Tx} (h : soks l) : qB l := same_ok (EqS_ok (qSs_all l h))
end Go.AM.YtlcadokmhfjacaaGreatDoorT
/- The slim code of these functions: printed by genslim.py. -/
namespace Go.AM.YtlcadokmhfjacaaGreatDoorT
open Go Go.AM Go.Proofs
set_option maxRecDepth 100000
/-! slices.Clone[[]paling/palinglaw06.X,paling/palinglaw06.X] -/
abbrev R30_0 : List SOp := [(some 2, .assign (.const (.slice none 0 0)), none)]
abbrev R30_1 : List SOp := [(some 3, .move (.tmp 0), none),
  (some 4, .binOp .eql 28 (.tmp 3) (.const (.slice none 0 0)) 28, none)]
abbrev R30_2 : List SOp := [(some 2, .assign (.const (.slice none 0 0)), none)]
abbrev R30_3 : List SOp := [(some 5, .buildSlice 28 0 #[], none),
  (some 6, .move (.tmp 0), none),
  (some 7, .call ⟨.builtin .append, #[(.tmp 5), (.tmp 6)], #[28, 28]⟩, none),
  (some 2, .assign (.tmp 7), none)]
abbrev S30 : SCode := .seq (.reg R30_0) (.seq (.seq (.reg R30_1) (.cond (.tmp 4) (.seq (.reg R30_2) (.ret)) (.skip))) (.seq (.reg R30_3) (.ret)))
theorem slim30 : slimC tab 30 (Tryz.f30.body.getD .skip) = S30 := by kernel_rfl
theorem wf30 {xs : List V} {H : Hp} {Q : V → Hp → Prop} (h : WC tab S30 (frame xs 0 .nil) H (resQ tab [.tmp 2] Q)) : WF tab 30 xs H Q := WF.of_slim (T := tab) (f := 30) rfl fn30 rfl slim30 rfl h
/-! paling/palinglaw06.TreeSames -/
abbrev R7_0 : List SOp := [(some 8, .box 53 (.tmp 3), none),
  (some 10, .assign (.const (.bool false)), none)]
abbrev R7_1 : List SOp := [(some 15, .call ⟨.value (.func 24), #[], #[]⟩, none),
  (some 16, .unOp .not 4 (.tmp 15), none)]
abbrev R7_2 : List SOp := [(some 10, .assign (.const (.bool false)), none)]
abbrev R7_3 : List SOp := [(some 17, .move (.tmp 0), none),
  (some 18, .call ⟨.builtin .len, #[(.tmp 17)], #[28]⟩, none),
  (some 19, .binOp .gtr 3 (.tmp 18) (.const (.int .i64 60)) 3, none),
  (some 20, .move (.tmp 19), none),
  (some 21, .move (.tmp 1), some (some 20, false)),
  (some 22, .call ⟨.builtin .len, #[(.tmp 21)], #[28]⟩, some (some 20, false)),
  (some 23, .binOp .gtr 3 (.tmp 22) (.const (.int .i64 60)) 3, some (some 20, false)),
  (some 24, .pick (.tmp 20) (.const (.bool true)) (.tmp 23), none),
  (some 25, .move (.tmp 24), none),
  (some 26, .move (.tmp 0), some (some 25, false)),
  (some 27, .call ⟨.builtin .len, #[(.tmp 26)], #[28]⟩, some (some 25, false)),
  (some 28, .binOp .eql 3 (.tmp 27) (.const (.int .i64 0)) 3, some (some 25, false)),
  (some 29, .pick (.tmp 25) (.const (.bool true)) (.tmp 28), none)]
abbrev R7_4 : List SOp := [(some 10, .assign (.const (.bool true)), none)]
abbrev R7_5 : List SOp := [(some 30, .move (.tmp 4), none)]
abbrev R7_6 : List SOp := [(some 31, .move (.tmp 0), none),
  (some 32, .call ⟨.value (.func 30), #[(.tmp 31)], #[28]⟩, none),
  (some 1, .assign (.tmp 32), none)]
abbrev R7_7 : List (SOp × Nat) := [((some 33, .move (.tmp 1), none), 0),
  ((some 34, .move (.tmp 2), none), 0),
  ((some 35, .convert 5 3 (.tmp 34), none), 0),
  ((some 36, .move (.tmp 1), none), 0),
  ((some 37, .call ⟨.builtin .len, #[(.tmp 36)], #[28]⟩, none), 0),
  ((some 38, .binOp .rem 3 (.tmp 35) (.tmp 37) 3, none), 0),
  ((some 39, .load 53 (.tmp 8), none), 0),
  ((some 40, .indexAddr 28 (.tmp 33) (.tmp 38), none), 0),
  ((none, .store 53 (.tmp 40) (.tmp 39), none), 0)]
abbrev R7_8 : List SOp := [(some 41, .move (.tmp 0), none),
  (some 42, .call ⟨.value (.func 20), #[(.tmp 41)], #[28]⟩, none),
  (some 43, .move (.tmp 1), none),
  (some 44, .call ⟨.value (.func 20), #[(.tmp 43)], #[28]⟩, none),
  (some 11, .assign (.tmp 42), none),
  (some 12, .assign (.tmp 44), none)]
abbrev R7_9 : List SOp := [(some 45, .move (.tmp 11), none),
  (some 46, .call ⟨.value (.func 19), #[(.tmp 45)], #[31]⟩, none),
  (some 47, .move (.tmp 12), none),
  (some 48, .call ⟨.value (.func 19), #[(.tmp 47)], #[31]⟩, none),
  (some 49, .binOp .eql 9 (.tmp 46) (.tmp 48) 9, none),
  (some 13, .assign (.tmp 49), none)]
abbrev R7_10 : List SOp := [(some 50, .move (.tmp 12), none),
  (some 51, .call ⟨.builtin .len, #[(.tmp 50)], #[31]⟩, none),
  (some 52, .move (.const (.int .i64 0)), none)]
abbrev R7_11 : List SOp := [(some 53, .binOp .lss 3 (.tmp 52) (.tmp 51) 3, none)]
abbrev R7_12 : List SOp := [(some 54, .move (.tmp 52), none),
  (some 14, .assign (.tmp 54), none)]
abbrev R7_13 : List SOp := [(some 55, .move (.tmp 12), none),
  (some 56, .move (.tmp 14), none),
  (some 57, .move (.tmp 14), none),
  (some 58, .move (.tmp 2), none),
  (some 59, .convert 5 3 (.tmp 58), none),
  (some 60, .binOp .mul 3 (.tmp 57) (.tmp 59) 3, none),
  (some 61, .indexAddr 31 (.tmp 55) (.tmp 56), none),
  (some 62, .fieldAddr 42 (.tmp 61) 5, none),
  (none, .store 3 (.tmp 62) (.tmp 60), none)]
abbrev R7_14 : List SOp := [(some 63, .binOp .add 3 (.tmp 52) (.const (.int .i64 1)) 3, none),
  (some 52, .move (.tmp 63), none)]
def L7_0 : SCode := .seq (.reg R7_11) (.seq (.cond (.tmp 53) (.skip) (.exit 0)) (.seq (.block 1 (.seq (.reg R7_12) (.reg R7_13))) (.reg R7_14)))
abbrev R7_15 : List SOp := [(some 64, .move (.tmp 11), none),
  (some 65, .move (.tmp 12), none),
  (some 66, .call ⟨.value (.func 23), #[(.tmp 64), (.tmp 65)], #[31, 31]⟩, none),
  (some 67, .move (.tmp 13), none),
  (some 68, .binOp .eql 4 (.tmp 66) (.tmp 67) 4, none),
  (some 69, .move (.tmp 68), none),
  (some 70, .move (.tmp 11), some (some 69, true)),
  (some 71, .move (.tmp 0), some (some 69, true)),
  (some 72, .call ⟨.value (.func 20), #[(.tmp 71)], #[28]⟩, some (some 69, true)),
  (some 73, .call ⟨.value (.func 23), #[(.tmp 70), (.tmp 72)], #[31, 31]⟩, some (some 69, true)),
  (some 74, .pick (.tmp 69) (.tmp 73) (.const (.bool false)), none),
  (some 10, .assign (.tmp 74), none)]
abbrev S7 : SCode := .seq (.reg R7_0) (.seq (.seq (.reg R7_1) (.cond (.tmp 16) (.seq (.reg R7_2) (.ret)) (.skip))) (.seq (.seq (.reg R7_3) (.cond (.tmp 29) (.seq (.reg R7_4) (.ret)) (.skip))) (.seq (.seq (.reg R7_5) (.cond (.tmp 30) (.seq (.reg R7_6) (.dreg R7_7)) (.skip))) (.seq (.reg R7_8) (.seq (.reg R7_9) (.seq (.seq (.reg R7_10) (.block 0 (.loop L7_0))) (.seq (.reg R7_15) (.ret))))))))
theorem slim7 : slimC tab 7 (Tryz.f7.body.getD .skip) = S7 := by kernel_rfl
theorem wf7 {xs : List V} {H : Hp} {Q : V → Hp → Prop} (h : WC tab S7 (frame xs 0 .nil) H (resQ tab [.tmp 10] Q)) : WF tab 7 xs H Q := WF.of_slim (T := tab) (f := 7) rfl fn7 rfl slim7 rfl h
end Go.AM.YtlcadokmhfjacaaGreatDoorT
/- What simp opens in the walks of this seat: printed by genset.py. -/
namespace Go.AM.YtlcadokmhfjacaaGreatDoorT
open Go Go.AM
end Go.AM.YtlcadokmhfjacaaGreatDoorT
/- TreeSames: the walk, its parts. -/
set_option linter.unusedVariables false
set_option linter.unusedSimpArgs false
set_option maxRecDepth 100000
namespace Go.AM.YtlcadokmhfjacaaGreatDoorT
open Go Go.AM Go.Proofs
theorem take_xs {H : Hp} {l : List X4} {v : V} (h : XsIn H v l) : takeSl H.get 4 v = some (l.length, l.flatMap X4.cs) ∧ (v = .nils ∨ v = .sle ∨ ∃ b off n cap z, v = .sl b off n cap z) := by
  rcases h with ⟨rfl | rfl, rfl⟩ | ⟨b, off, e, ro, cells, rfl, h1, h2, h3, h4, h5⟩
  · exact ⟨rfl, .inl rfl⟩
  · exact ⟨rfl, .inr (.inl rfl)⟩
  · refine ⟨?_, .inr (.inr ⟨_, _, _, _, _, rfl⟩)⟩
    simp only [takeSl, h2]
    rw [if_pos ⟨by trivial, h5⟩, h4]
theorem x4s_len : ∀ L : List X4, (L.flatMap X4.cs).length = L.length * 4
  | [] => rfl
  | x :: r => by rw [List.flatMap_cons, List.length_append, x4s_len r, List.length_cons]; simp [X4.cs]; omega
theorem eqX_sle : binE tab .eql 28 (.tmp 3) (.const (.slice none 0 0)) .sle .nils = some (.bool false) := by kernel_rfl
theorem eqX_sl (b off n : Nat) (cap : Option Nat) (z : Nat) : binE tab .eql 28 (.tmp 3) (.const (.slice none 0 0)) (.sl b off n cap z) .nils = some (.bool false) := by kernel_rfl
theorem cloneX_ok {H : Hp} {l : List X4} {v : V} (hst : H.stale = []) (hA : XsIn H v l) (hl : l.length ≤ 1000000) : WF tab 30 [v] H fun w H' => SlAt H' 53 4 w l.length (l.flatMap X4.cs) ∧ (∀ b ∈ rowsOf w, H.next ≤ b ∧ b < H'.next) ∧ Ext noX H H' := by
  refine wf30 (wp_sound _ ?_)
  obtain ⟨hT, hn⟩ := take_xs hA
  have hcl := x4s_len l
  obtain ⟨n1, n2, _⟩ := hA.one
  have hK := hA.old
  rcases hn with rfl | hn
  · have : l.length = 0 := by simp [takeSl] at hT; omega
    have h0 : l = [] := List.eq_nil_of_length_eq_zero this
    subst h0
    simp [hst]
    exact ⟨.nil, by simp [rowsOf], by simp, by simp, fun b hb _ => by rw [Hp.get_flush, if_neg (by simp [hst])]⟩
  · have hS0 : SlAt (H.new (.row 53 4 false [])) 53 4 (.sl H.next 0 0 none 4) 0 [] := SlAt.row H.next 0 [] (get_new_self _ _) (by simp)
    have hgn : ∀ b, b < H.next → (H.new (.row 53 4 false [])).get b = H.get b := fun b hb => by simp [Hp.get_new, old_ne hb]
    have hT1 : takeSl (H.new (.row 53 4 false [])).get 4 v = some (l.length, l.flatMap X4.cs) := by
      rw [← hT]
      rcases hn with rfl | ⟨b, off, n, cap, z, rfl⟩
      · rfl
      · simp only [takeSl]
        rw [hgn b (hK b (by simp [rowsOf]))]
    by_cases hl0 : l = []
    · subst hl0
      rcases hn with rfl | ⟨b, off, n, cap, z, rfl⟩
      all_goals
        simp [hst, eqX_sle, eqX_sl]
        refine wpL_app0 (by simp [descOf]) ty53 (by simp) (by simp) hS0 (takeX_sl.trans hT1) ?_
        simp [hst]
        exact ⟨hS0, by simp [rowsOf], Ext.new hst _⟩
    · have hpl : 0 < l.length := List.length_pos_iff.2 hl0
      have : ∃ b off n cap z, v = .sl b off n cap z := by
        rcases hn with rfl | h
        · simp [takeSl] at hT; omega
        · exact h
      obtain ⟨b, off, n, cap, z, rfl⟩ := this
      simp [hst, eqX_sl]
      refine wpL_app (H := H.new (.row 53 4 false [])) (x := .sl b off n cap z) (by simp [descOf]) ty53 (by decide) (by simp) (by simp) hS0 (fun b hb => ⟨by simp [rowsOf] at hb; subst hb; simp, by simp [hst]⟩) hT1 hpl (by rw [hcl]) (by show (0 + l.length) * 6 ≤ _; omega) (by omega) (fun c hc => ?_) (by simp [hst]) fun v' H3 hS hA' => ?_
      · simp [rowsOf] at hc
        subst hc
        exact ⟨by simp [hst], by have := hK c (by simp [rowsOf]); simp [rowsOf]; omega⟩
      · obtain ⟨k1, k2, k3, k4, k5⟩ := app_flush' (H := H.new (.row 53 4 false [])) (by simp [hst]) hS hA'
        have c5 := hS.one; have c6 := hS.cells
        simp [c5, c6]
        simp at k4
        refine ⟨by simpa using k1, fun b hb => ?_, by simp, by simp; omega, fun b hb _ => ?_⟩
        · have := k5 b hb
          simp [rowsOf] at this
          omega
        · rw [← hgn b hb]
          exact k2 b (by simp; omega) (by simp [rowsOf]; omega)
mutual
theorem ev_eok : ∀ {t : Tx}, t.ev → t.eok
  | .ex .., h => by
    simp only [Tx.ev] at h
    obtain ⟨_, _, _, _, _, _, _, _, _, _, h1, h2⟩ := h
    simp only [Tx.eok]
    exact ⟨evs_eoks h1, svs_soks h2⟩
  | .st .., h => by simp only [Tx.ev] at h
theorem evs_eoks : ∀ {l : List Tx}, evs l → eoks l
  | [], _ => trivial
  | x :: r, h => by
    simp only [evs] at h
    simp only [eoks]
    exact ⟨ev_eok h.1, evs_eoks h.2⟩
theorem sv_sok : ∀ {t : Tx}, t.sv → t.sok
  | .st .., h => by
    simp only [Tx.sv] at h
    obtain ⟨_, _, _, _, _, _, h1, h2, h3⟩ := h
    simp only [Tx.sok]
    exact ⟨evs_eoks h1, svs_soks h2, svs_soks h3⟩
  | .ex .., h => by simp only [Tx.sv] at h
theorem svs_soks : ∀ {l : List Tx}, svs l → soks l
  | [], _ => trivial
  | x :: r, h => by
    simp only [svs] at h
    simp only [soks]
    exact ⟨sv_sok h.1, svs_soks h.2⟩
end
/-- A statement, somewhere else. -/
def setAt (a : Int) : Tx → Tx
  | .st k n es b e _ => .st k n es b e a
  | t => t
theorem smE_at (x y : Tx) (a : Int) : smE x (setAt a y) = smE x y := by
  cases x <;> cases y <;> simp [setAt, smE]
theorem sok_at {y : Tx} (a : Int) (h : y.sok) : (setAt a y).sok := by
  cases y <;> simp only [setAt, Tx.sok] at h ⊢ <;> exact h
theorem smL_set (a : Int) : ∀ (x y : List Tx) (i : Nat) (h : i < y.length), smL x (y.set i (setAt a y[i])) = smL x y
  | [], y :: s, i, h => by cases i <;> simp [smL]
  | x :: r, y :: s, 0, h => by simp [smL, smE_at]
  | x :: r, y :: s, i + 1, h => by
    have := smL_set a r s i (by simpa using h)
    simp only [List.set_cons_succ, smL, List.getElem_cons_succ, this]
theorem soks_set (a : Int) : ∀ (y : List Tx) (i : Nat) (h : i < y.length), soks y → soks (y.set i (setAt a y[i]))
  | y :: s, 0, h, hs => by simp only [soks] at hs; simp only [List.set_cons_zero, soks, List.getElem_cons_zero]; exact ⟨sok_at a hs.1, hs.2⟩
  | y :: s, i + 1, h, hs => by
    simp only [soks] at hs
    simp only [List.set_cons_succ, soks, List.getElem_cons_succ]
    exact ⟨hs.1, soks_set a s i (by simpa using h) hs.2⟩
theorem els_set {K : Nat → Prop} {H : Hp} (a : Int) : ∀ (y : List Tx) (cs : List V) (i : Nat) (h : i < y.length), soks y → ElsAt K H y cs → ElsAt K H (y.set i (setAt a y[i])) (cs.set (i * 6 + 5) (.int .i64 a))
  | y :: s, cs, 0, h, hs, he => by
    simp only [ElsAt] at he
    simp only [soks] at hs
    simp only [List.set_cons_zero, List.getElem_cons_zero, ElsAt]
    refine ⟨?_, by rw [Nat.zero_mul, Nat.zero_add, List.drop_set_of_lt (by omega)]; exact he.2⟩
    cases y with
    | ex => exact (by simp only [Tx.sok] at hs; exact hs.1.elim)
    | st k n es b e at_ =>
      have h1 := he.1
      simp only [ExpAt] at h1
      obtain ⟨ve, vb, vl, hc, h2⟩ := h1
      simp only [setAt, ExpAt]
      refine ⟨ve, vb, vl, ?_, h2⟩
      rw [Nat.zero_mul, Nat.zero_add, List.take_set, hc]; rfl
  | y :: s, cs, i + 1, h, hs, he => by
    simp only [ElsAt] at he
    simp only [soks] at hs
    have ih := els_set a s (cs.drop 6) i (by simpa using h) hs.2 he.2
    simp only [List.set_cons_succ, List.getElem_cons_succ, ElsAt]
    refine ⟨by rw [List.take_set_of_le (by omega)]; exact he.1, ?_⟩
    rw [show (i + 1) * 6 + 5 = 6 + (i * 6 + 5) by omega, List.drop_set, if_neg (by omega), Nat.add_sub_cancel_left]
    exact ih
end Go.AM.YtlcadokmhfjacaaGreatDoorT
/- TreeSames: the walk. -/
set_option linter.unusedVariables false
set_option linter.unusedSimpArgs false
set_option maxRecDepth 100000
namespace Go.AM.YtlcadokmhfjacaaGreatDoorT
open Go Go.AM Go.Proofs
theorem XsIn.of_rows {H H' : Hp} {v : V} {l : List X4} (h : XsIn H v l) (hle : H.next ≤ H'.next) (hg : ∀ b ∈ rowsOf v, H'.get b = H.get b) : XsIn H' v l := by
  rcases h with h | ⟨b, off, e, ro, cells, rfl, h2, h3, h4⟩
  · exact .inl h
  · exact .inr ⟨b, off, e, ro, cells, rfl, Nat.lt_of_lt_of_le h2 hle, by rw [hg b (by simp [rowsOf])]; exact h3, h4⟩
/-- The end: the same, or not. -/
theorem tu_tail {K : Nat → Prop} {va wx wy : V} {l : List X4} {x y' : List Tx} {c : Bool} {F : Fr} {H0 H : Hp} (hX0 : Ext noX H0 H) (hX : XsIn H va l) (hok : ∀ x ∈ l, x.ok) (hl : l.length ≤ 100) (hx : x = makeP l) (hw : wts x ≤ 1099511627776) (hs' : soks y') (hT : TreesAt K H x wx) (hT' : TreesAt K H y' wy) (hK : ∀ b, K b → b < H.next) (hz : zs x) (hsm : smL x y' = c)
    (f0 : F.get 0 = some va) (f11 : F.get 11 = some wx) (f12 : F.get 12 = some wy) (f13 : F.get 13 = some (.bool c)) : wp tab (.seq (.reg R7_15) .ret) F H (resQ tab [.tmp 10] fun v H' => v = .bool true ∧ Ext noX H0 H') := by
  have hst := hX0.st
  have x1 := hT.one; have x2 := hT.cells; have y1 := hT'.one; have y2 := hT'.cells
  obtain ⟨a1, a2, _⟩ := hX.one
  simp [hst, f0, f11, f12, f13, x1, x2, y1, y2]
  have hsv := (makeP_sv hok).1
  refine (q_all (svs_soks (hx ▸ hsv)) y' H wx wy K hs' hst hT hT' hK hw).mono ?_
  rintro v H1 ⟨rfl, hX1⟩
  rw [hsm]
  have s1 := hX1.st
  simp [s1, f0, f11, f12, f13, x1, x2, y1, y2, a1, a2]
  have hX' : XsIn H1 va l := hX.of_get hX1.le fun b e ro cs hb _ => hX1.get b hb (fun h => h)
  refine (make_ok s1 hX' hok hl).mono ?_
  rintro u H2 ⟨hU, hX2⟩
  have s2 := hX2.st
  have u1 := hU.one; have u2 := hU.cells
  simp [s2, u1, u2]
  rw [← hx] at hU
  have hX12 := hX1.trans hX2
  refine (q_all (svs_soks (hx ▸ hsv)) x H2 wx u (fun b => K b ∨ since H1 H2 b) (svs_soks (hx ▸ hsv)) s2 (TreesAt.mono ⟨fun b hb _ => .inl hb, fun b hb hx => hX12.get b hx (fun h => h), hX12.le⟩ hT) (TreesAt.mono ⟨fun b hb _ => .inr hb, fun b _ _ => rfl, Nat.le_refl _⟩ hU) (fun b hb => ?_) hw).mono ?_
  · rcases hb with hb | hb
    · have := hK b hb; have := hX12.le; omega
    · exact hb.2
  rintro v H3 ⟨rfl, hX3⟩
  have : smL x x = true := (smL_eq hz hz).2 rfl
  simp [hX3.st, this]
  exact (hX0.trans hX12).trans hX3
structure J7 (H0 : Hp) (va wx wy : V) (l : List X4) (x y : List Tx) (K : Nat → Prop) (at_ : Nat) (c : Bool) (N i : Nat) (F : Fr) (H : Hp) : Prop where
  ext : Ext noX H0 H
  xs : XsIn H va l
  tx : TreesAt K H x wx
  ty : ∃ y' cs, soks y' ∧ smL x y' = smL x y ∧ SlAt H 42 6 wy y'.length cs ∧ ElsAt K H y' cs ∧ y'.length = y.length
  le : N ≤ H.next
  f0 : F.get 0 = some va
  f2 : F.get 2 = some (.int .u8 at_)
  f11 : F.get 11 = some wx
  f12 : F.get 12 = some wy
  f13 : F.get 13 = some (.bool c)
  f51 : F.get 51 = some (.int .i64 y.length)
  f52 : F.get 52 = some (.int .i64 i)
theorem tu_loop {K : Nat → Prop} {va wx wy : V} {l : List X4} {x y : List Tx} {at_ N : Nat} {c : Bool} {F : Fr} {H0 H : Hp} {Q : PC} (hat : at_ < 256) (hyl : y.length ≤ 1000000) (hK : ∀ b, K b → b ∉ rowsOf wy) (hXr : ∀ b ∈ rowsOf wy, H0.next ≤ b ∧ b ∉ rowsOf va) (h0 : J7 H0 va wx wy l x y K at_ c N 0 F H)
    (hQ : ∀ F' H', J7 H0 va wx wy l x y K at_ c N y.length F' H' → Q (.exit 0) F' H') : WC tab (.loop L7_0) F H Q := by
  refine loop_of (fun k F H => ∃ i, i + k = y.length ∧ J7 H0 va wx wy l x y K at_ c N i F H) (m := y.length) ⟨0, by omega, h0⟩ ?_
  rintro k F H ⟨i, hi, I⟩
  have hst := I.ext.st
  have f0 := I.f0; have f2 := I.f2; have f11 := I.f11; have f12 := I.f12; have f13 := I.f13; have f51 := I.f51; have f52 := I.f52
  by_cases hlt : i < y.length
  · have hlt' : (i : Int) < (y.length : Int) := by omega
    obtain ⟨y', cs, hs', hsm, hS, hE, hyy⟩ := I.ty
    have hw : wr .i64 ((i : Int) + 1) = ((i + 1 : Nat) : Int) := by rw [wr_i64 (by omega) (by omega)]; omega
    have hw1 : wr .i64 (at_ : Int) = (at_ : Int) := wr_i64 (by omega) (by omega)
    have hlm : (i : Int) * (at_ : Int) ≤ 1000000 * 256 := Int.mul_le_mul (by omega) (by omega) (by omega) (by omega)
    have hlm0 : 0 ≤ (i : Int) * (at_ : Int) := Int.mul_nonneg (by omega) (by omega)
    have hw2 : wr .i64 ((i : Int) * (at_ : Int)) = (i : Int) * (at_ : Int) := wr_i64 (by omega) (by omega)
    generalize hyn : y'.length = n' at hS
    cases hS with
    | nil => omega
    | row b n cells hg hl =>
    have hlt2 : i < n' := by omega
    have hlt2' : (i : Int) < (n' : Int) := by omega
    have hoff : i * 6 + 5 + 1 ≤ cells.length := by omega
    simp [L7_0, f0, f2, f11, f12, f13, f51, f52, hst, hlt, hlt', hw, hw1, hw2, hlt2, hlt2', hg, hoff, setCells]
    have hbr := hXr b (by simp [rowsOf])
    have hXn : Ext noX H0 (H.put b (.row 42 6 false (setCells cells (i * 6 + 5) [.int .i64 (i * at_)]))) := Ext.putge I.ext _ hbr.1
    have hTk : TreesAt K (H.put b (.row 42 6 false (setCells cells (i * 6 + 5) [.int .i64 (i * at_)]))) x wx := TreesAt.mono ⟨fun c hc _ => hc, fun c hc _ => get_put_ne _ (fun e => hK c hc (by simp [rowsOf, e])), Nat.le_refl _⟩ I.tx
    have hXs : XsIn (H.put b (.row 42 6 false (setCells cells (i * 6 + 5) [.int .i64 (i * at_)]))) va l := I.xs.of_rows (Nat.le_refl _) fun c hc => get_put_ne _ (fun e => hbr.2 (e ▸ hc))
    have hEl : ElsAt K (H.put b (.row 42 6 false (setCells cells (i * 6 + 5) [.int .i64 (i * at_)]))) y' (cells.take (n' * 6)) := ElsAt.mono ⟨fun c hc _ => hc, fun c hc _ => get_put_ne _ (fun e => hK c hc (by simp [rowsOf, e])), Nat.le_refl _⟩ _ _ hE
    have hSl := SlAt.row (H := H.put b (.row 42 6 false (setCells cells (i * 6 + 5) [.int .i64 (i * at_)]))) (e := 42) (sz := 6) b n' (setCells cells (i * 6 + 5) [.int .i64 (i * at_)]) (get_put_self _ _ _) (by simp [setCells]; omega)
    simp only [setCells] at hXn hTk hXs hEl hSl
    have hi' : i < y'.length := by omega
    refine ⟨k - 1, by omega, i + 1, by omega, hXn, hXs, hTk, ⟨y'.set i (setAt (i * at_) y'[i]), _, soks_set _ _ _ hi' hs', by rw [smL_set, hsm], by rw [List.length_set, hyn]; exact hSl, ?_, by simp; omega⟩, I.le, by simp [f0], by simp [f2], by simp [f11], by simp [f12], by simp [f13], by simp [f51], by simp⟩
    rw [List.take_set]
    exact els_set _ _ _ _ hi' hs' hEl
  · have hlt' : ¬ (i : Int) < (y.length : Int) := by omega
    have : i = y.length := by omega
    subst this
    simp [L7_0, f51, f52, hst, hlt']
    exact hQ _ _ ⟨I.ext, I.xs, I.tx, I.ty, I.le, by simp [f0], by simp [f2], by simp [f11], by simp [f12], by simp [f13], by simp [f51], by simp [f52]⟩
def Y7 : SCode := .seq (.reg R7_8) (.seq (.reg R7_9) (.seq (.seq (.reg R7_10) (.block 0 (.loop L7_0))) (.seq (.reg R7_15) (.ret))))
theorem x4_set {y : X4} : ∀ (l : List X4) (k : Nat) (cells : List V), k < l.length → l.flatMap X4.cs = cells.take (l.length * 4) → (setCells cells (k * 4) y.cs).take (l.length * 4) = (l.set k y).flatMap X4.cs
  | x :: r, k, cells, hk, h => by
    have hl := congrArg List.length h
    rw [x4s_len, List.length_cons, List.length_take] at hl
    match cells, hl with
    | c0 :: c1 :: c2 :: c3 :: rest, hl =>
      rw [List.flatMap_cons, List.length_cons, Nat.succ_mul] at h
      simp only [X4.cs, List.cons_append, List.nil_append, List.take_succ_cons, List.cons.injEq] at h
      obtain ⟨rfl, rfl, rfl, rfl, h⟩ := h
      rw [List.length_cons, Nat.succ_mul]
      cases k with
      | zero =>
        rw [List.set_cons_zero, List.flatMap_cons]
        simp only [Nat.zero_mul, setCells, X4.cs, List.set_cons_zero, List.set_cons_succ, List.take_succ_cons, List.cons_append, List.nil_append, ← h, Nat.zero_add, Nat.reduceAdd]
      | succ k =>
        have ih := x4_set (y := y) r k rest (by simpa using hk) h
        rw [List.set_cons_succ, List.flatMap_cons, ← ih, Nat.succ_mul]
        simp only [setCells, X4.cs, List.set_cons_succ, List.take_succ_cons, List.cons_append, List.nil_append, show ∀ a : Nat, a + 4 + 1 = a + 1 + 1 + 1 + 1 + 1 from fun _ => rfl, show ∀ a : Nat, a + 4 = a + 1 + 1 + 1 + 1 from fun _ => rfl]
    | [], hl => simp at hl
    | [_], hl => simp at hl; omega
    | [_, _], hl => simp at hl; omega
    | [_, _, _], hl => simp at hl; omega
theorem makeP_wt' {l : List X4} (h : ∀ x ∈ l, x.ok) (hl : l.length ≤ 60) : wts (makeP l) ≤ 1099511627776 := by
  have := makeP_wt l
  omega
/-- Two trees are made, told, and one's places turned. -/
theorem tu_rest {va vb : V} {l m : List X4} {at_ : Nat} {F : Fr} {H0 H : Hp} (hat : at_ < 256) (hX0 : Ext noX H0 H) (hX : XsIn H va l) (hok : ∀ x ∈ l, x.ok) (hl : l.length ≤ 60) (hY : XsIn H vb m) (hok' : ∀ x ∈ m, x.ok) (hm : m.length ≤ 60)
    (f0 : F.get 0 = some va) (f1 : F.get 1 = some vb) (f2 : F.get 2 = some (.int .u8 at_)) : wp tab Y7 F H (resQ tab [.tmp 10] fun v H' => v = .bool true ∧ Ext noX H0 H') := by
  unfold Y7
  have hst := hX0.st
  obtain ⟨a1, a2, _⟩ := hX.one
  obtain ⟨b1, b2, _⟩ := hY.one
  simp [hst, f0, f1, f2, a1, a2, b1, b2]
  refine (make_ok hst hX hok (by omega)).mono ?_
  rintro wx H1 ⟨hT, hX1⟩
  have s1 := hX1.st
  have x1 := hT.one; have x2 := hT.cells
  simp [s1, f0, f1, f2, x1, x2, b1, b2]
  have hY1 : XsIn H1 vb m := hY.of_get hX1.le fun b e ro cs hb _ => hX1.get b hb (fun h => h)
  refine (makeG_ok s1 hY1 hok' (by omega)).mono ?_
  rintro wy H2 ⟨hG, hX2⟩
  have s2 := hX2.st
  have hU : TreesAt (since H1 H2) H2 (makeP m) wy := hG.trees (fun b h1 h2 _ => ⟨⟨h1, h2⟩, rfl⟩) (Nat.le_refl _)
  have y1 := hU.one; have y2 := hU.cells
  have hX12 := hX1.trans hX2
  have hT2 : TreesAt (since H H1) H2 (makeP l) wx := TreesAt.mono ⟨fun b hb _ => hb, fun b hb hx => hX2.get b hx (fun h => h), hX2.le⟩ hT
  simp [s2, f0, f1, f2, x1, x2, y1, y2]
  obtain ⟨sv, nn1⟩ := makeP_sv hok
  obtain ⟨sv', nn2⟩ := makeP_sv hok'
  have hbw := makeP_bw hok
  have hbw' := makeP_bw hok'
  refine (rp_all sv H2 wx _ s2 hT2 (fun b hb => by have := hb.2; have := hX2.le; omega) (by omega)).mono ?_
  rintro u H3 ⟨rfl, hX3⟩
  have s3 := hX3.st
  simp [s3, f0, f1, f2, x1, x2, y1, y2]
  have hU3 : TreesAt (since H1 H2) H3 (makeP m) wy := TreesAt.mono ⟨fun b hb _ => hb, fun b hb hx => hX3.get b hx (fun h => h), hX3.le⟩ hU
  refine (rp_all sv' H3 wy _ s3 hU3 (fun b hb => by have := hb.2; have := hX3.le; omega) (by omega)).mono ?_
  rintro u H4 ⟨rfl, hX4⟩
  have s4 := hX4.st
  have hX34 := hX3.trans hX4
  have hX24 := hX12.trans hX34
  have hlen := hU.len 42
  simp [s4, f0, f1, f2, x1, x2, y1, y2, hlen]
  obtain ⟨q1, q2, ⟨cs, q3, q4⟩, q5⟩ := hG
  have hle1 := hX1.le
  have hle2 := hX2.le
  have hle3 := hX34.le
  have hlb := len_bws (dec := itoaF) (makeP m)
  have hwl : nns (makeP l) ≤ 152 := nn1
  have hK1 : TreesAt (fun b => H.next ≤ b ∧ b < H4.next ∧ b ∉ rowsOf wy) H4 (makeP l) wx := TreesAt.mono ⟨fun b hb _ => ⟨hb.1, by have := hb.2; omega, fun h => by have := (q5 b h).1; have := hb.2; omega⟩, fun b hb hx => hX34.get b hx (fun h => h), hX34.le⟩ hT2
  have hK2 : ElsAt (fun b => H.next ≤ b ∧ b < H4.next ∧ b ∉ rowsOf wy) H4 (makeP m) cs := ElsAt.mono ⟨fun b hb hx => ⟨by have := hb.1; omega, by omega, hb.2.2⟩, fun b hb hx => hX34.get b hx (fun h => h), hX34.le⟩ _ _ q4
  have hS4 : SlAt H4 42 6 wy (makeP m).length cs := q3.of_get fun b hb => hX34.get b (q5 b hb).2.1 (fun h => h)
  have hXa : ∀ b ∈ rowsOf va, b < H.next := hX.old
  refine tu_loop (N := H4.next) (H0 := H) (K := fun b => H.next ≤ b ∧ b < H4.next ∧ b ∉ rowsOf wy) (va := va) (wx := wx) (wy := wy) (l := l) (x := makeP l) (y := makeP m) (at_ := at_) (c := prB itoaF (makeP l) == prB itoaF (makeP m)) hat (by omega) (fun b hb => hb.2.2) (fun b hb => ⟨by have := (q5 b hb).1; omega, fun h => by have := hXa b h; have := (q5 b hb).1; omega⟩) ⟨hX24, hX.of_get hX24.le fun b e ro cs hb _ => hX24.get b hb (fun h => h), hK1, ⟨makeP m, cs, svs_soks sv', rfl, hS4, hK2, rfl⟩, Nat.le_refl _, by simp [f0], by simp [f2], by simp, by simp, by simp, by simp, by simp⟩ ?_
  intro F' H' J
  have sJ := J.ext.st
  simp only [bl_exit, if_true]
  obtain ⟨y', ds, j1, j2, j3, j4, j5⟩ := J.ty
  have jle := J.le
  rw [sq_nrm]
  refine tu_tail (K := fun b => b < H4.next) (va := va) (wx := wx) (wy := wy) (l := l) (x := makeP l) (y' := y') (c := prB itoaF (makeP l) == prB itoaF (makeP m)) (hX0.trans J.ext) J.xs hok (by omega) rfl (makeP_wt' hok (by omega)) j1 (TreesAt.mono ⟨fun b hb _ => hb.2.1, fun b _ _ => rfl, Nat.le_refl _⟩ J.tx) (TreesAt.of_slAt j3 (fun b hb => by have := (q5 b hb).2.1; constructor <;> omega) rfl (ElsAt.mono ⟨fun b hb _ => hb.2.1, fun b _ _ => rfl, Nat.le_refl _⟩ _ _ j4)) (fun b hb => by omega) (makeP_z l).1 ?_ J.f0 J.f11 J.f12 J.f13
  rw [j2]
  have hz := makeP_z l
  have hz' := makeP_z m
  have key : smL (makeP l) (makeP m) = true ↔ prB itoaF (makeP l) = prB itoaF (makeP m) := by
    rw [smL_eq hz.1 hz'.1]
    exact ⟨fun e => by rw [e], fun e => prB_inj sv hz.1 hz.2 sv' hz'.1 hz'.2 e⟩
  by_cases hp : prB itoaF (makeP l) = prB itoaF (makeP m)
  · rw [key.2 hp, hp, beq_self_eq_true]
  · rw [beq_false_of_ne hp, Bool.eq_false_iff]
    exact fun h => hp (key.1 h)
theorem treeSames_w {H0 : Hp} {va vb : V} {l m : List X4} {at_ : Nat} {by_ : X4} {same : Bool} (hA : ∀ o, WF tab 24 [] (H0.new o) fun v H' => v = .bool true ∧ Ext noX (H0.new o) H') (hst : H0.stale = []) (hX : XsIn H0 va l) (hok : ∀ x ∈ l, x.ok) (hY : XsIn H0 vb m) (hok' : ∀ x ∈ m, x.ok) (hat : at_ < 256) (hby : by_.ok) : WF tab 7 [va, vb, .int .u8 at_, .agg by_.cs, .bool same] H0 fun v H' => v = .bool true ∧ Ext noX H0 H' := by
  refine wf7 (wp_sound _ ?_)
  obtain ⟨a1, a2, a3⟩ := hX.one
  obtain ⟨b1, b2, b3⟩ := hY.one
  have h4 := hX.len 53; have h4' := hY.len 53
  rw [show S7 = (.seq (.reg R7_0) (.seq (.seq (.reg R7_1) (.cond (.tmp 16) (.seq (.reg R7_2) (.ret)) (.skip))) (.seq (.seq (.reg R7_3) (.cond (.tmp 29) (.seq (.reg R7_4) (.ret)) (.skip))) (.seq (.seq (.reg R7_5) (.cond (.tmp 30) (.seq (.reg R7_6) (.dreg R7_7)) (.skip))) Y7)))) from rfl]
  simp [hst, a1, a2, b1, b2, X4.cs]
  have hX1 : Ext noX H0 (H0.new (.row 53 4 false by_.cs)) := Ext.new hst _
  refine (hA _).mono ?_
  rintro v H1 ⟨rfl, hX1'⟩
  have hrow : H1.get H0.next = some (.row 53 4 false by_.cs) := by rw [hX1'.get H0.next (by simp) (fun h => h), get_new_self]; rfl
  have hlt1 : H0.next < H1.next := by have := hX1'.le; simp at this; omega
  have hX1 := (Ext.new hst _).trans hX1'
  simp only [X4.cs] at hrow hX1
  have s1 := hX1.st
  clear hX1'
  have hXi : XsIn H1 va l := hX.of_get hX1.le fun b e ro cs hb _ => hX1.get b hb (fun h => h)
  have hYi : XsIn H1 vb m := hY.of_get hX1.le fun b e ro cs hb _ => hX1.get b hb (fun h => h)
  by_cases hl : 60 < l.length
  · have hl' : (60 : Int) < (l.length : Int) := by omega
    simp [s1, h4, h4', a1, a2, b1, b2, hl, hl', hX1]
  have hl' : ¬ (60 : Int) < (l.length : Int) := by omega
  by_cases hm : 60 < m.length
  · have hm' : (60 : Int) < (m.length : Int) := by omega
    simp [s1, h4, h4', a1, a2, b1, b2, hl, hl', hm, hm', hX1]
  have hm' : ¬ (60 : Int) < (m.length : Int) := by omega
  by_cases hz : l.length = 0
  · have hz' : ((l.length : Int) == 0) = true := by rw [hz]; rfl
    simp [s1, h4, h4', a1, a2, b1, b2, hl, hl', hm, hm', hz', hX1]
  have hz' : ((l.length : Int) == 0) = false := beq_false_of_ne (by omega)
  cases same with
  | false =>
    simp [s1, h4, h4', a1, a2, b1, b2, hl, hl', hm, hm', hz']
    exact tu_rest hat hX1 hXi hok (by omega) hYi hok' (by omega) (by simp) (by simp) (by simp)
  | true =>
    simp [s1, h4, h4', a1, a2, b1, b2, hl, hl', hm, hm', hz']
    refine (cloneX_ok s1 hXi (by omega)).mono ?_
    rintro w H2 ⟨hS, hr, hX2⟩
    have s2 := hX2.st
    have hcl := x4s_len l
    generalize hln : l.length = n at *
    generalize hfc : l.flatMap X4.cs = fc at *
    cases hS with
    | nil => exact absurd rfl hz
    | row b n cells hg hlc =>
    have w1 : wr .i64 (at_ : Int) = (at_ : Int) := wr_i64 (by omega) (by omega)
    have hrow2 := hX2.get H0.next hlt1 (fun h => h)
    rw [hrow] at hrow2
    have hne : H0.next ≠ b := fun e => by have := (hr b (by simp [rowsOf])).1; omega
    have ht0 : Int.tmod (at_ : Int) (n : Int) = ((at_ % n : Nat) : Int) := by rw [Int.tmod_eq_emod_of_nonneg (by omega)]; rfl
    have w2 : wr .i64 ((at_ % n : Nat) : Int) = ((at_ % n : Nat) : Int) := wr_i64 (by omega) (by have := Nat.mod_le at_ n; omega)
    have hlt : at_ % n < n := Nat.mod_lt _ (by omega)
    have hge' : 0 ≤ (at_ : Int) % (n : Int) := by omega
    have hlt' : (at_ : Int) % (n : Int) < (n : Int) := by omega
    have htn : ((at_ : Int) % (n : Int)).toNat = at_ % n := by omega
    have hoff : at_ % n * 4 + 4 ≤ cells.length := by omega
    have hz0 : ¬ n = 0 := hz
    simp [s2, w1, hrow2, hg, hz0, ht0, w2, hlt, hge', hlt', htn, hoff, setCells]
    have hrb := hr b (by simp [rowsOf])
    have hX3 : Ext noX H1 ((H2.put b (.row 53 4 false (setCells cells (at_ % n * 4) by_.cs))).bump) := (Ext.putge hX2 _ hrb.1).bump
    refine tu_rest (va := va) (vb := .sl b 0 n none 4) (m := l.set (at_ % n) by_) hat (hX1.trans hX3) (hXi.of_get hX3.le fun c e ro cs hc _ => hX3.get c hc (fun h => h)) hok (by omega) ?_ (fun x hx => ?_) (by simp; omega) (by simp) (by simp) (by simp)
    · refine .inr ⟨b, 0, 53, false, setCells cells (at_ % n * 4) by_.cs, by simp [hln], ?_, ?_, rfl, ?_, ?_⟩
      · simp; omega
      · simp [setCells, X4.cs, Hp.get_put]
      · rw [List.drop_zero, List.length_set, hln]; subst hln; exact x4_set _ _ _ hlt hfc
      · simp [X4.cs, setCells]; omega
    · rcases List.mem_or_eq_of_mem_set hx with h | rfl
      · exact hok x h
      · exact hby
end Go.AM.YtlcadokmhfjacaaGreatDoorT
