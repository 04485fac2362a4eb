/- Parts of the abstract machine and of the walks over it, joined: what the law that is claimed here leans on. -/
import Derived.Test.YtlcadokmhfjacaaGreatDoorAmX
import Derived.Test.YtlcadokmhfjacaaGreatDoorAmC2
import Derived.Test.YtlcadokmhfjacaaGreatDoorAmC3
import Derived.Test.YtlcadokmhfjacaaGreatDoorAmS
import Derived.Test.YtlcadokmhfjacaaGreatDoorAmM
/- The slim code of these functions: printed by genslim.py. -/
namespace Go.AM.YtlcadokmhfjacaaGreatDoorT
open Go Go.AM Go.Proofs
set_option maxRecDepth 100000
/-! slices.Index[[]string,string] -/
abbrev R93_0 : List SOp := [(some 4, .assign (.const (.int .i64 0)), none)]
abbrev R93_1 : List SOp := [(some 6, .move (.tmp 0), none),
  (some 7, .call ⟨.builtin .len, #[(.tmp 6)], #[26]⟩, none),
  (some 8, .move (.const (.int .i64 0)), none)]
abbrev R93_2 : List SOp := [(some 9, .binOp .lss 3 (.tmp 8) (.tmp 7) 3, none)]
abbrev R93_3 : List SOp := [(some 10, .move (.tmp 8), none),
  (some 5, .assign (.tmp 10), none)]
abbrev R93_4 : List SOp := [(some 11, .move (.tmp 1), none),
  (some 12, .move (.tmp 0), none),
  (some 13, .move (.tmp 5), none),
  (some 14, .indexAddr 26 (.tmp 12) (.tmp 13), none),
  (some 15, .load 9 (.tmp 14), none),
  (some 16, .binOp .eql 9 (.tmp 11) (.tmp 15) 9, none)]
abbrev R93_5 : List SOp := [(some 17, .move (.tmp 5), none),
  (some 4, .assign (.tmp 17), none)]
abbrev R93_6 : List SOp := [(some 18, .binOp .add 3 (.tmp 8) (.const (.int .i64 1)) 3, none),
  (some 8, .move (.tmp 18), none)]
def L93_0 : SCode := .seq (.reg R93_2) (.seq (.cond (.tmp 9) (.skip) (.exit 0)) (.seq (.block 1 (.seq (.reg R93_3) (.seq (.reg R93_4) (.cond (.tmp 16) (.seq (.reg R93_5) (.ret)) (.skip))))) (.reg R93_6)))
abbrev R93_7 : List SOp := [(some 4, .assign (.const (.int .i64 (-1))), none)]
abbrev S93 : SCode := .seq (.reg R93_0) (.seq (.seq (.reg R93_1) (.block 0 (.loop L93_0))) (.seq (.reg R93_7) (.ret)))
theorem slim93 : slimC tab 93 (Tryz.f93.body.getD .skip) = S93 := by kernel_rfl
theorem wf93 {xs : List V} {H : Hp} {Q : V → Hp → Prop} (h : WC tab S93 (frame xs 0 .nil) H (resQ tab [.tmp 4] Q)) : WF tab 93 xs H Q := WF.of_slim (T := tab) (f := 93) rfl fn93 rfl slim93 rfl h
/-! slices.Contains[[]string,string] -/
abbrev R139_0 : List SOp := [(some 4, .assign (.const (.bool false)), none)]
abbrev R139_1 : List SOp := [(some 5, .move (.tmp 0), none),
  (some 6, .move (.tmp 1), none),
  (some 7, .call ⟨.value (.func 93), #[(.tmp 5), (.tmp 6)], #[26, 9]⟩, none),
  (some 8, .binOp .geq 3 (.tmp 7) (.const (.int .i64 0)) 3, none),
  (some 4, .assign (.tmp 8), none)]
abbrev S139 : SCode := .seq (.reg R139_0) (.seq (.reg R139_1) (.ret))
theorem slim139 : slimC tab 139 (Tryz.f139.body.getD .skip) = S139 := by kernel_rfl
theorem wf139 {xs : List V} {H : Hp} {Q : V → Hp → Prop} (h : WC tab S139 (frame xs 0 .nil) H (resQ tab [.tmp 4] Q)) : WF tab 139 xs H Q := WF.of_slim (T := tab) (f := 139) rfl fn139 rfl slim139 rfl h
/-! slices.Clone[[]string,string] -/
abbrev R96_0 : List SOp := [(some 2, .assign (.const (.slice none 0 0)), none)]
abbrev R96_1 : List SOp := [(some 3, .move (.tmp 0), none),
  (some 4, .binOp .eql 26 (.tmp 3) (.const (.slice none 0 0)) 26, none)]
abbrev R96_2 : List SOp := [(some 2, .assign (.const (.slice none 0 0)), none)]
abbrev R96_3 : List SOp := [(some 5, .buildSlice 26 0 #[], none),
  (some 6, .move (.tmp 0), none),
  (some 7, .call ⟨.builtin .append, #[(.tmp 5), (.tmp 6)], #[26, 26]⟩, none),
  (some 2, .assign (.tmp 7), none)]
abbrev S96 : SCode := .seq (.reg R96_0) (.seq (.seq (.reg R96_1) (.cond (.tmp 4) (.seq (.reg R96_2) (.ret)) (.skip))) (.seq (.reg R96_3) (.ret)))
theorem slim96 : slimC tab 96 (Tryz.f96.body.getD .skip) = S96 := by kernel_rfl
theorem wf96 {xs : List V} {H : Hp} {Q : V → Hp → Prop} (h : WC tab S96 (frame xs 0 .nil) H (resQ tab [.tmp 2] Q)) : WF tab 96 xs H Q := WF.of_slim (T := tab) (f := 96) rfl fn96 rfl slim96 rfl h
/-! slices.Equal[[]string,string] -/
abbrev R34_0 : List SOp := [(some 4, .assign (.const (.bool false)), none)]
abbrev R34_1 : List SOp := [(some 6, .move (.tmp 0), none),
  (some 7, .call ⟨.builtin .len, #[(.tmp 6)], #[26]⟩, none),
  (some 8, .move (.tmp 1), none),
  (some 9, .call ⟨.builtin .len, #[(.tmp 8)], #[26]⟩, none),
  (some 10, .binOp .neq 3 (.tmp 7) (.tmp 9) 3, none)]
abbrev R34_2 : List SOp := [(some 4, .assign (.const (.bool false)), none)]
abbrev R34_3 : List SOp := [(some 11, .move (.tmp 0), none),
  (some 12, .call ⟨.builtin .len, #[(.tmp 11)], #[26]⟩, none),
  (some 13, .move (.const (.int .i64 0)), none)]
abbrev R34_4 : List SOp := [(some 14, .binOp .lss 3 (.tmp 13) (.tmp 12) 3, none)]
abbrev R34_5 : List SOp := [(some 15, .move (.tmp 13), none),
  (some 5, .assign (.tmp 15), none)]
abbrev R34_6 : List (SOp × Nat) := [((some 16, .move (.tmp 0), none), 0),
  ((some 17, .move (.tmp 5), none), 0),
  ((some 18, .indexAddr 26 (.tmp 16) (.tmp 17), none), 0),
  ((some 19, .load 9 (.tmp 18), none), 0),
  ((some 20, .move (.tmp 1), none), 0),
  ((some 21, .move (.tmp 5), none), 0),
  ((some 22, .indexAddr 26 (.tmp 20) (.tmp 21), none), 0),
  ((some 23, .load 9 (.tmp 22), none), 0),
  ((some 24, .binOp .neq 9 (.tmp 19) (.tmp 23) 9, none), 0)]
abbrev R34_7 : List SOp := [(some 4, .assign (.const (.bool false)), none)]
abbrev R34_8 : List SOp := [(some 25, .binOp .add 3 (.tmp 13) (.const (.int .i64 1)) 3, none),
  (some 13, .move (.tmp 25), none)]
def L34_0 : SCode := .seq (.reg R34_4) (.seq (.cond (.tmp 14) (.skip) (.exit 0)) (.seq (.block 1 (.seq (.reg R34_5) (.seq (.dreg R34_6) (.cond (.tmp 24) (.seq (.reg R34_7) (.ret)) (.skip))))) (.reg R34_8)))
abbrev R34_9 : List SOp := [(some 4, .assign (.const (.bool true)), none)]
abbrev S34 : SCode := .seq (.reg R34_0) (.seq (.seq (.reg R34_1) (.cond (.tmp 10) (.seq (.reg R34_2) (.ret)) (.skip))) (.seq (.seq (.reg R34_3) (.block 0 (.loop L34_0))) (.seq (.reg R34_9) (.ret))))
theorem slim34 : slimC tab 34 (Tryz.f34.body.getD .skip) = S34 := by kernel_rfl
theorem wf34 {xs : List V} {H : Hp} {Q : V → Hp → Prop} (h : WC tab S34 (frame xs 0 .nil) H (resQ tab [.tmp 4] Q)) : WF tab 34 xs H Q := WF.of_slim (T := tab) (f := 34) rfl fn34 rfl slim34 rfl h
/-! paling/palinglaw08.Fn -/
abbrev R33_0 : List SOp := [(some 4, .alloc 46, none)]
abbrev R33_1 : List SOp := [(some 8, .move (.tmp 1), none),
  (some 9, .call ⟨.value (.func 20), #[(.tmp 8)], #[28]⟩, none),
  (some 10, .build 46 #[(0, (.const (.int .i64 17))), (5, (.tmp 9))], none),
  (some 5, .alloc 46, none),
  (none, .store 46 (.tmp 5) (.tmp 10), none)]
abbrev R33_2 : List SOp := [(some 11, .move (.tmp 0), none),
  (some 12, .call ⟨.builtin .len, #[(.tmp 11)], #[60]⟩, none),
  (some 13, .move (.const (.int .i64 0)), none)]
abbrev R33_3 : List SOp := [(some 14, .binOp .lss 3 (.tmp 13) (.tmp 12) 3, none)]
abbrev R33_4 : List SOp := [(some 15, .move (.tmp 13), none),
  (some 16, .indexAddr 60 (.tmp 11) (.tmp 13), none),
  (some 17, .load 5 (.tmp 16), none),
  (some 6, .assign (.tmp 15), none),
  (some 7, .assign (.tmp 17), none)]
abbrev R33_5 : List SOp := [(some 18, .move (.tmp 6), none),
  (some 19, .binOp .lss 3 (.tmp 18) (.const (.int .i64 3)) 3, none)]
abbrev R33_6 : List (SOp × Nat) := [((some 22, .move (.tmp 7), none), 0),
  ((some 23, .call ⟨.value (.func 31), #[(.tmp 22)], #[5]⟩, none), 0),
  ((some 20, .fieldAddr 46 (.tmp 5) 4, none), 1),
  ((some 21, .load 26 (.tmp 20), none), 1),
  ((some 24, .buildSlice 26 1 #[(0, (.tmp 23))], none), 0),
  ((some 25, .call ⟨.builtin .append, #[(.tmp 21), (.tmp 24)], #[26, 26]⟩, none), 0),
  ((some 26, .fieldAddr 46 (.tmp 5) 4, none), 0),
  ((none, .store 26 (.tmp 26) (.tmp 25), none), 0)]
abbrev R33_7 : List SOp := [(some 27, .binOp .add 3 (.tmp 13) (.const (.int .i64 1)) 3, none),
  (some 13, .move (.tmp 27), none)]
def L33_0 : SCode := .seq (.reg R33_3) (.seq (.cond (.tmp 14) (.skip) (.exit 0)) (.seq (.block 1 (.seq (.reg R33_4) (.seq (.reg R33_5) (.cond (.tmp 19) (.dreg R33_6) (.skip))))) (.reg R33_7)))
abbrev R33_8 : List SOp := [(some 28, .load 46 (.tmp 5), none),
  (none, .store 46 (.tmp 4) (.tmp 28), none)]
abbrev S33 : SCode := .seq (.reg R33_0) (.seq (.reg R33_1) (.seq (.seq (.reg R33_2) (.block 0 (.loop L33_0))) (.seq (.reg R33_8) (.ret))))
theorem slim33 : slimC tab 33 (Tryz.f33.body.getD .skip) = S33 := by kernel_rfl
theorem wf33 {xs : List V} {H : Hp} {Q : V → Hp → Prop} (h : WC tab S33 (frame xs 0 .nil) H (resQ tab [.cell 4 46] Q)) : WF tab 33 xs H Q := WF.of_slim (T := tab) (f := 33) rfl fn33 rfl slim33 rfl h
/-! paling/scope.Free -/
abbrev R35_0 : List SOp := [(some 1, .box 46 (.tmp 0), none),
  (some 2, .assign (.const (.slice none 0 0)), none)]
abbrev R35_1 : List SOp := [(some 4, .build 107 #[], none),
  (some 5, .box 107 (.tmp 4), none),
  (some 3, .assign (.tmp 5), none)]
abbrev R35_2 : List SOp := [(some 6, .move (.tmp 3), none),
  (some 7, .fieldAddr 46 (.tmp 1) 5, none),
  (some 8, .load 31 (.tmp 7), none),
  (some 9, .fieldAddr 46 (.tmp 1) 4, none),
  (some 10, .load 26 (.tmp 9), none),
  (some 11, .call ⟨.value (.func 63), #[(.tmp 6), (.tmp 8), (.tmp 10)], #[105, 31, 26]⟩, none)]
abbrev R35_3 : List SOp := [(some 12, .move (.tmp 3), none),
  (some 13, .nilCheck (.tmp 12), none),
  (some 14, .fieldAddr 107 (.tmp 13) 1, none),
  (some 15, .load 26 (.tmp 14), none),
  (some 2, .assign (.tmp 15), none)]
abbrev S35 : SCode := .seq (.reg R35_0) (.seq (.reg R35_1) (.seq (.reg R35_2) (.seq (.reg R35_3) (.ret))))
theorem slim35 : slimC tab 35 (Tryz.f35.body.getD .skip) = S35 := by kernel_rfl
theorem wf35 {xs : List V} {H : Hp} {Q : V → Hp → Prop} (h : WC tab S35 (frame xs 0 .nil) H (resQ tab [.tmp 2] Q)) : WF tab 35 xs H Q := WF.of_slim (T := tab) (f := 35) rfl fn35 rfl slim35 rfl h
/-! (*paling/scope.finder).stmts -/
abbrev R63_0 : List SOp := [(some 11, .move (.tmp 0), none),
  (some 12, .nilCheck (.tmp 11), none),
  (some 13, .fieldAddr 107 (.tmp 12) 0, none),
  (some 14, .load 26 (.tmp 13), none),
  (some 15, .call ⟨.builtin .len, #[(.tmp 14)], #[26]⟩, none),
  (some 6, .assign (.tmp 15), none)]
abbrev R63_1 : List SOp := [(some 16, .move (.tmp 0), none),
  (some 17, .move (.tmp 0), none),
  (some 18, .nilCheck (.tmp 17), none),
  (some 19, .fieldAddr 107 (.tmp 18) 0, none),
  (some 20, .load 26 (.tmp 19), none),
  (some 21, .move (.tmp 2), none),
  (some 22, .call ⟨.builtin .append, #[(.tmp 20), (.tmp 21)], #[26, 26]⟩, none),
  (some 23, .nilCheck (.tmp 16), none),
  (some 24, .fieldAddr 107 (.tmp 23) 0, none),
  (none, .store 26 (.tmp 24) (.tmp 22), none)]
abbrev R63_2 : List SOp := [(some 25, .move (.tmp 1), none),
  (some 26, .call ⟨.builtin .len, #[(.tmp 25)], #[31]⟩, none),
  (some 27, .move (.const (.int .i64 0)), none)]
abbrev R63_3 : List SOp := [(some 28, .binOp .lss 3 (.tmp 27) (.tmp 26) 3, none)]
abbrev R63_4 : List SOp := [(some 29, .indexAddr 31 (.tmp 25) (.tmp 27), none),
  (some 30, .load 42 (.tmp 29), none),
  (some 8, .alloc 42, none),
  (none, .store 42 (.tmp 8) (.tmp 30), none)]
abbrev R63_5 : List SOp := [(some 31, .fieldAddr 42 (.tmp 8) 2, none),
  (some 32, .load 40 (.tmp 31), none),
  (some 33, .call ⟨.builtin .len, #[(.tmp 32)], #[40]⟩, none),
  (some 34, .move (.const (.int .i64 0)), none)]
abbrev R63_6 : List SOp := [(some 35, .binOp .lss 3 (.tmp 34) (.tmp 33) 3, none)]
abbrev R63_7 : List SOp := [(some 36, .indexAddr 40 (.tmp 32) (.tmp 34), none),
  (some 37, .load 46 (.tmp 36), none),
  (some 10, .alloc 46, none),
  (none, .store 46 (.tmp 10) (.tmp 37), none)]
abbrev R63_8 : List SOp := [(some 38, .move (.tmp 0), none),
  (some 39, .load 46 (.tmp 10), none),
  (some 40, .call ⟨.value (.func 94), #[(.tmp 38), (.tmp 39)], #[105, 46]⟩, none)]
abbrev R63_9 : List SOp := [(some 41, .binOp .add 3 (.tmp 34) (.const (.int .i64 1)) 3, none),
  (some 34, .move (.tmp 41), none)]
def L63_0 : SCode := .seq (.reg R63_6) (.seq (.cond (.tmp 35) (.skip) (.exit 2)) (.seq (.block 3 (.seq (.reg R63_7) (.reg R63_8))) (.reg R63_9)))
abbrev R63_10 : List SOp := [(some 42, .fieldAddr 42 (.tmp 8) 0, none),
  (some 43, .load 39 (.tmp 42), none)]
abbrev R63_11 : List SOp := [(some 45, .binOp .eql 39 (.tmp 43) (.const (.int .i64 0)) 39, none),
  (some 44, .assign (.tmp 45), none)]
abbrev R63_12 : List (SOp × Nat) := [((some 47, .move (.tmp 0), none), 0),
  ((some 48, .nilCheck (.tmp 47), none), 0),
  ((some 49, .fieldAddr 107 (.tmp 48) 0, none), 0),
  ((some 50, .load 26 (.tmp 49), none), 0),
  ((some 51, .fieldAddr 42 (.tmp 8) 1, none), 0),
  ((some 52, .load 9 (.tmp 51), none), 0),
  ((some 53, .buildSlice 26 1 #[(0, (.tmp 52))], none), 0),
  ((some 54, .call ⟨.builtin .append, #[(.tmp 50), (.tmp 53)], #[26, 26]⟩, none), 0),
  ((some 46, .move (.tmp 0), none), 1),
  ((some 55, .nilCheck (.tmp 46), none), 0),
  ((some 56, .fieldAddr 107 (.tmp 55) 0, none), 0),
  ((none, .store 26 (.tmp 56) (.tmp 54), none), 0)]
abbrev R63_13 : List SOp := [(some 58, .binOp .eql 39 (.tmp 43) (.const (.int .i64 1)) 39, none),
  (some 57, .assign (.tmp 58), none)]
abbrev R63_14 : List SOp := [(some 59, .move (.tmp 0), none),
  (some 60, .fieldAddr 42 (.tmp 8) 1, none),
  (some 61, .load 9 (.tmp 60), none),
  (some 62, .call ⟨.value (.func 95), #[(.tmp 59), (.tmp 61)], #[105, 9]⟩, none)]
abbrev R63_15 : List SOp := [(some 64, .binOp .eql 39 (.tmp 43) (.const (.int .i64 7)) 39, none),
  (some 63, .assign (.tmp 64), none)]
abbrev R63_16 : List SOp := [(some 65, .move (.tmp 0), none),
  (some 66, .fieldAddr 42 (.tmp 8) 3, none),
  (some 67, .load 31 (.tmp 66), none),
  (some 68, .call ⟨.value (.func 63), #[(.tmp 65), (.tmp 67), (.const (.slice none 0 0))], #[105, 31, 26]⟩, none)]
abbrev R63_17 : List SOp := [(some 69, .move (.tmp 0), none),
  (some 70, .fieldAddr 42 (.tmp 8) 4, none),
  (some 71, .load 31 (.tmp 70), none),
  (some 72, .fieldAddr 42 (.tmp 8) 1, none),
  (some 73, .load 9 (.tmp 72), none),
  (some 74, .buildSlice 26 1 #[(0, (.tmp 73))], none),
  (some 75, .call ⟨.value (.func 63), #[(.tmp 69), (.tmp 71), (.tmp 74)], #[105, 31, 26]⟩, none)]
abbrev R63_18 : List SOp := [(some 76, .move (.tmp 0), none),
  (some 77, .fieldAddr 42 (.tmp 8) 3, none),
  (some 78, .load 31 (.tmp 77), none),
  (some 79, .call ⟨.value (.func 63), #[(.tmp 76), (.tmp 78), (.const (.slice none 0 0))], #[105, 31, 26]⟩, none)]
abbrev R63_19 : List SOp := [(some 80, .move (.tmp 0), none),
  (some 81, .fieldAddr 42 (.tmp 8) 4, none),
  (some 82, .load 31 (.tmp 81), none),
  (some 83, .call ⟨.value (.func 63), #[(.tmp 80), (.tmp 82), (.const (.slice none 0 0))], #[105, 31, 26]⟩, none)]
abbrev R63_20 : List SOp := [(some 84, .binOp .add 3 (.tmp 27) (.const (.int .i64 1)) 3, none),
  (some 27, .move (.tmp 84), none)]
def L63_1 : SCode := .seq (.reg R63_3) (.seq (.cond (.tmp 28) (.skip) (.exit 0)) (.seq (.block 1 (.seq (.reg R63_4) (.seq (.seq (.reg R63_5) (.block 2 (.loop L63_0))) (.seq (.seq (.reg R63_10) (.block 4 (.seq (.reg R63_11) (.cond (.tmp 44) (.dreg R63_12) (.seq (.reg R63_13) (.cond (.tmp 57) (.reg R63_14) (.seq (.reg R63_15) (.cond (.tmp 63) (.seq (.reg R63_16) (.seq (.reg R63_17) (.exit 1))) (.skip))))))))) (.seq (.reg R63_18) (.reg R63_19)))))) (.reg R63_20)))
abbrev R63_21 : List SOp := [(some 85, .move (.tmp 0), none),
  (some 86, .move (.tmp 0), none),
  (some 87, .nilCheck (.tmp 86), none),
  (some 88, .fieldAddr 107 (.tmp 87) 0, none),
  (some 89, .load 26 (.tmp 88), none),
  (some 90, .move (.tmp 6), none),
  (some 91, .slice 26 (.tmp 89) none (some (.tmp 90)) none, none),
  (some 92, .nilCheck (.tmp 85), none),
  (some 93, .fieldAddr 107 (.tmp 92) 0, none),
  (none, .store 26 (.tmp 93) (.tmp 91), none)]
abbrev S63 : SCode := .seq (.reg R63_0) (.seq (.reg R63_1) (.seq (.seq (.reg R63_2) (.block 0 (.loop L63_1))) (.reg R63_21)))
theorem slim63 : slimC tab 63 (Tryz.f63.body.getD .skip) = S63 := by kernel_rfl
theorem wf63 {xs : List V} {H : Hp} {Q : V → Hp → Prop} (h : WC tab S63 (frame xs 0 .nil) H (resQ tab [] Q)) : WF tab 63 xs H Q := WF.of_slim (T := tab) (f := 63) rfl fn63 rfl slim63 rfl h
/-! (*paling/scope.finder).expr -/
abbrev R94_0 : List SOp := [(some 3, .box 46 (.tmp 1), none)]
abbrev R94_1 : List SOp := [(some 8, .fieldAddr 46 (.tmp 3) 0, none),
  (some 9, .load 44 (.tmp 8), none)]
abbrev R94_2 : List SOp := [(some 11, .binOp .eql 44 (.tmp 9) (.const (.int .i64 5)) 44, none),
  (some 10, .assign (.tmp 11), none)]
abbrev R94_3 : List SOp := [(some 12, .move (.tmp 0), none),
  (some 13, .fieldAddr 46 (.tmp 3) 2, none),
  (some 14, .load 9 (.tmp 13), none),
  (some 15, .call ⟨.value (.func 95), #[(.tmp 12), (.tmp 14)], #[105, 9]⟩, none)]
abbrev R94_4 : List SOp := [(some 17, .binOp .eql 44 (.tmp 9) (.const (.int .i64 17)) 44, none),
  (some 16, .assign (.tmp 17), none)]
abbrev R94_5 : List SOp := [(some 18, .load 46 (.tmp 3), none),
  (some 19, .call ⟨.value (.func 35), #[(.tmp 18)], #[46]⟩, none),
  (some 20, .call ⟨.builtin .len, #[(.tmp 19)], #[26]⟩, none),
  (some 21, .move (.const (.int .i64 0)), none)]
abbrev R94_6 : List SOp := [(some 22, .binOp .lss 3 (.tmp 21) (.tmp 20) 3, none)]
abbrev R94_7 : List SOp := [(some 23, .indexAddr 26 (.tmp 19) (.tmp 21), none),
  (some 24, .load 9 (.tmp 23), none),
  (some 5, .assign (.tmp 24), none)]
abbrev R94_8 : List SOp := [(some 25, .move (.tmp 0), none),
  (some 26, .move (.tmp 5), none),
  (some 27, .call ⟨.value (.func 95), #[(.tmp 25), (.tmp 26)], #[105, 9]⟩, none)]
abbrev R94_9 : List SOp := [(some 28, .binOp .add 3 (.tmp 21) (.const (.int .i64 1)) 3, none),
  (some 21, .move (.tmp 28), none)]
def L94_0 : SCode := .seq (.reg R94_6) (.seq (.cond (.tmp 22) (.skip) (.exit 1)) (.seq (.block 2 (.seq (.reg R94_7) (.reg R94_8))) (.reg R94_9)))
abbrev R94_10 : List SOp := [(some 29, .fieldAddr 46 (.tmp 3) 3, none),
  (some 30, .load 40 (.tmp 29), none),
  (some 31, .call ⟨.builtin .len, #[(.tmp 30)], #[40]⟩, none),
  (some 32, .move (.const (.int .i64 0)), none)]
abbrev R94_11 : List SOp := [(some 33, .binOp .lss 3 (.tmp 32) (.tmp 31) 3, none)]
abbrev R94_12 : List SOp := [(some 34, .indexAddr 40 (.tmp 30) (.tmp 32), none),
  (some 35, .load 46 (.tmp 34), none),
  (some 7, .alloc 46, none),
  (none, .store 46 (.tmp 7) (.tmp 35), none)]
abbrev R94_13 : List SOp := [(some 36, .move (.tmp 0), none),
  (some 37, .load 46 (.tmp 7), none),
  (some 38, .call ⟨.value (.func 94), #[(.tmp 36), (.tmp 37)], #[105, 46]⟩, none)]
abbrev R94_14 : List SOp := [(some 39, .binOp .add 3 (.tmp 32) (.const (.int .i64 1)) 3, none),
  (some 32, .move (.tmp 39), none)]
def L94_1 : SCode := .seq (.reg R94_11) (.seq (.cond (.tmp 33) (.skip) (.exit 3)) (.seq (.block 4 (.seq (.reg R94_12) (.reg R94_13))) (.reg R94_14)))
abbrev S94 : SCode := .seq (.reg R94_0) (.seq (.seq (.reg R94_1) (.block 0 (.seq (.reg R94_2) (.cond (.tmp 10) (.reg R94_3) (.seq (.reg R94_4) (.cond (.tmp 16) (.seq (.reg R94_5) (.block 1 (.loop L94_0))) (.skip))))))) (.seq (.reg R94_10) (.block 3 (.loop L94_1))))
theorem slim94 : slimC tab 94 (Tryz.f94.body.getD .skip) = S94 := by kernel_rfl
theorem wf94 {xs : List V} {H : Hp} {Q : V → Hp → Prop} (h : WC tab S94 (frame xs 0 .nil) H (resQ tab [] Q)) : WF tab 94 xs H Q := WF.of_slim (T := tab) (f := 94) rfl fn94 rfl slim94 rfl h
/-! (*paling/scope.finder).see -/
abbrev R95_0 : List SOp := [(some 4, .move (.tmp 0), none),
  (some 5, .nilCheck (.tmp 4), none),
  (some 6, .fieldAddr 107 (.tmp 5) 0, none),
  (some 7, .load 26 (.tmp 6), none),
  (some 8, .move (.tmp 1), none),
  (some 9, .call ⟨.value (.func 139), #[(.tmp 7), (.tmp 8)], #[26, 9]⟩, none),
  (some 10, .unOp .not 4 (.tmp 9), none),
  (some 11, .move (.tmp 10), none),
  (some 12, .move (.tmp 0), some (some 11, true)),
  (some 13, .nilCheck (.tmp 12), some (some 11, true)),
  (some 14, .fieldAddr 107 (.tmp 13) 1, some (some 11, true)),
  (some 15, .load 26 (.tmp 14), some (some 11, true)),
  (some 16, .move (.tmp 1), some (some 11, true)),
  (some 17, .call ⟨.value (.func 139), #[(.tmp 15), (.tmp 16)], #[26, 9]⟩, some (some 11, true)),
  (some 18, .unOp .not 4 (.tmp 17), some (some 11, true)),
  (some 19, .pick (.tmp 11) (.tmp 18) (.const (.bool false)), none)]
abbrev R95_1 : List SOp := [(some 20, .move (.tmp 0), none),
  (some 21, .move (.tmp 0), none),
  (some 22, .nilCheck (.tmp 21), none),
  (some 23, .fieldAddr 107 (.tmp 22) 1, none),
  (some 24, .load 26 (.tmp 23), none),
  (some 25, .move (.tmp 1), none),
  (some 26, .buildSlice 26 1 #[(0, (.tmp 25))], none),
  (some 27, .call ⟨.builtin .append, #[(.tmp 24), (.tmp 26)], #[26, 26]⟩, none),
  (some 28, .nilCheck (.tmp 20), none),
  (some 29, .fieldAddr 107 (.tmp 28) 1, none),
  (none, .store 26 (.tmp 29) (.tmp 27), none)]
abbrev S95 : SCode := .seq (.reg R95_0) (.cond (.tmp 19) (.reg R95_1) (.skip))
theorem slim95 : slimC tab 95 (Tryz.f95.body.getD .skip) = S95 := by kernel_rfl
theorem wf95 {xs : List V} {H : Hp} {Q : V → Hp → Prop} (h : WC tab S95 (frame xs 0 .nil) H (resQ tab [] Q)) : WF tab 95 xs H Q := WF.of_slim (T := tab) (f := 95) rfl fn95 rfl slim95 rfl h
/-! paling/palinglaw08.Free -/
abbrev R36_0 : List SOp := [(some 1, .box 46 (.tmp 0), none),
  (some 2, .assign (.const (.slice none 0 0)), none)]
abbrev R36_1 : List SOp := [(some 3, .alloc 26, none)]
abbrev R36_2 : List SOp := [(some 4, .fieldAddr 46 (.tmp 1) 5, none),
  (some 5, .load 31 (.tmp 4), none),
  (some 6, .fieldAddr 46 (.tmp 1) 4, none),
  (some 7, .load 26 (.tmp 6), none),
  (some 8, .call ⟨.value (.func 64), #[(.tmp 5), (.tmp 7), (.tmp 3)], #[31, 26, 110]⟩, none)]
abbrev R36_3 : List SOp := [(some 9, .load 26 (.tmp 3), none),
  (some 2, .assign (.tmp 9), none)]
abbrev S36 : SCode := .seq (.reg R36_0) (.seq (.reg R36_1) (.seq (.reg R36_2) (.seq (.reg R36_3) (.ret))))
theorem slim36 : slimC tab 36 (Tryz.f36.body.getD .skip) = S36 := by kernel_rfl
theorem wf36 {xs : List V} {H : Hp} {Q : V → Hp → Prop} (h : WC tab S36 (frame xs 0 .nil) H (resQ tab [.tmp 2] Q)) : WF tab 36 xs H Q := WF.of_slim (T := tab) (f := 36) rfl fn36 rfl slim36 rfl h
/-! paling/palinglaw08.block -/
abbrev R64_0 : List SOp := [(some 11, .move (.tmp 1), none),
  (some 12, .call ⟨.value (.func 96), #[(.tmp 11)], #[26]⟩, none),
  (some 1, .assign (.tmp 12), none)]
abbrev R64_1 : List SOp := [(some 13, .move (.tmp 0), none),
  (some 14, .call ⟨.builtin .len, #[(.tmp 13)], #[31]⟩, none),
  (some 15, .move (.const (.int .i64 0)), none)]
abbrev R64_2 : List SOp := [(some 16, .binOp .lss 3 (.tmp 15) (.tmp 14) 3, none)]
abbrev R64_3 : List SOp := [(some 17, .indexAddr 31 (.tmp 13) (.tmp 15), none),
  (some 18, .load 42 (.tmp 17), none),
  (some 7, .alloc 42, none),
  (none, .store 42 (.tmp 7) (.tmp 18), none)]
abbrev R64_4 : List SOp := [(some 19, .fieldAddr 42 (.tmp 7) 2, none),
  (some 20, .load 40 (.tmp 19), none),
  (some 21, .call ⟨.builtin .len, #[(.tmp 20)], #[40]⟩, none),
  (some 22, .move (.const (.int .i64 0)), none)]
abbrev R64_5 : List SOp := [(some 23, .binOp .lss 3 (.tmp 22) (.tmp 21) 3, none)]
abbrev R64_6 : List SOp := [(some 24, .indexAddr 40 (.tmp 20) (.tmp 22), none),
  (some 25, .load 46 (.tmp 24), none),
  (some 9, .alloc 46, none),
  (none, .store 46 (.tmp 9) (.tmp 25), none)]
abbrev R64_7 : List SOp := [(some 26, .load 46 (.tmp 9), none),
  (some 27, .move (.tmp 1), none),
  (some 28, .move (.tmp 2), none),
  (some 29, .call ⟨.value (.func 97), #[(.tmp 26), (.tmp 27), (.tmp 28)], #[46, 26, 110]⟩, none)]
abbrev R64_8 : List SOp := [(some 30, .binOp .add 3 (.tmp 22) (.const (.int .i64 1)) 3, none),
  (some 22, .move (.tmp 30), none)]
def L64_0 : SCode := .seq (.reg R64_5) (.seq (.cond (.tmp 23) (.skip) (.exit 2)) (.seq (.block 3 (.seq (.reg R64_6) (.reg R64_7))) (.reg R64_8)))
abbrev R64_9 : List SOp := [(some 31, .fieldAddr 42 (.tmp 7) 0, none),
  (some 32, .load 39 (.tmp 31), none)]
abbrev R64_10 : List SOp := [(some 34, .binOp .eql 39 (.tmp 32) (.const (.int .i64 0)) 39, none),
  (some 33, .assign (.tmp 34), none)]
abbrev R64_11 : List SOp := [(some 35, .move (.tmp 1), none),
  (some 36, .fieldAddr 42 (.tmp 7) 1, none),
  (some 37, .load 9 (.tmp 36), none),
  (some 38, .buildSlice 26 1 #[(0, (.tmp 37))], none),
  (some 39, .call ⟨.builtin .append, #[(.tmp 35), (.tmp 38)], #[26, 26]⟩, none),
  (some 1, .assign (.tmp 39), none)]
abbrev R64_12 : List SOp := [(some 41, .binOp .eql 39 (.tmp 32) (.const (.int .i64 1)) 39, none),
  (some 40, .assign (.tmp 41), none)]
abbrev R64_13 : List SOp := [(some 42, .fieldAddr 42 (.tmp 7) 1, none),
  (some 43, .load 9 (.tmp 42), none),
  (some 44, .move (.tmp 1), none),
  (some 45, .move (.tmp 2), none),
  (some 46, .call ⟨.value (.func 98), #[(.tmp 43), (.tmp 44), (.tmp 45)], #[9, 26, 110]⟩, none)]
abbrev R64_14 : List SOp := [(some 47, .fieldAddr 42 (.tmp 7) 3, none),
  (some 48, .load 31 (.tmp 47), none),
  (some 49, .move (.tmp 1), none),
  (some 50, .move (.tmp 2), none),
  (some 51, .call ⟨.value (.func 64), #[(.tmp 48), (.tmp 49), (.tmp 50)], #[31, 26, 110]⟩, none)]
abbrev R64_15 : List SOp := [(some 52, .move (.tmp 1), none),
  (some 10, .assign (.tmp 52), none)]
abbrev R64_16 : List SOp := [(some 53, .fieldAddr 42 (.tmp 7) 0, none),
  (some 54, .load 39 (.tmp 53), none),
  (some 55, .binOp .eql 39 (.tmp 54) (.const (.int .i64 7)) 39, none)]
abbrev R64_17 : List (SOp × Nat) := [((some 56, .move (.tmp 1), none), 0),
  ((some 57, .call ⟨.value (.func 96), #[(.tmp 56)], #[26]⟩, none), 0),
  ((some 58, .fieldAddr 42 (.tmp 7) 1, none), 1),
  ((some 59, .load 9 (.tmp 58), none), 1),
  ((some 60, .buildSlice 26 1 #[(0, (.tmp 59))], none), 1),
  ((some 61, .call ⟨.builtin .append, #[(.tmp 57), (.tmp 60)], #[26, 26]⟩, none), 0),
  ((some 10, .assign (.tmp 61), none), 0)]
abbrev R64_18 : List SOp := [(some 62, .fieldAddr 42 (.tmp 7) 4, none),
  (some 63, .load 31 (.tmp 62), none),
  (some 64, .move (.tmp 10), none),
  (some 65, .move (.tmp 2), none),
  (some 66, .call ⟨.value (.func 64), #[(.tmp 63), (.tmp 64), (.tmp 65)], #[31, 26, 110]⟩, none)]
abbrev R64_19 : List SOp := [(some 67, .binOp .add 3 (.tmp 15) (.const (.int .i64 1)) 3, none),
  (some 15, .move (.tmp 67), none)]
def L64_1 : SCode := .seq (.reg R64_2) (.seq (.cond (.tmp 16) (.skip) (.exit 0)) (.seq (.block 1 (.seq (.reg R64_3) (.seq (.seq (.reg R64_4) (.block 2 (.loop L64_0))) (.seq (.seq (.reg R64_9) (.block 4 (.seq (.reg R64_10) (.cond (.tmp 33) (.reg R64_11) (.seq (.reg R64_12) (.cond (.tmp 40) (.reg R64_13) (.skip))))))) (.seq (.reg R64_14) (.seq (.reg R64_15) (.seq (.seq (.reg R64_16) (.cond (.tmp 55) (.dreg R64_17) (.skip))) (.reg R64_18)))))))) (.reg R64_19)))
abbrev S64 : SCode := .seq (.reg R64_0) (.seq (.reg R64_1) (.block 0 (.loop L64_1)))
theorem slim64 : slimC tab 64 (Tryz.f64.body.getD .skip) = S64 := by kernel_rfl
theorem wf64 {xs : List V} {H : Hp} {Q : V → Hp → Prop} (h : WC tab S64 (frame xs 0 .nil) H (resQ tab [] Q)) : WF tab 64 xs H Q := WF.of_slim (T := tab) (f := 64) rfl fn64 rfl slim64 rfl h
/-! paling/palinglaw08.expr -/
abbrev R97_0 : List SOp := [(some 3, .box 46 (.tmp 0), none)]
abbrev R97_1 : List SOp := [(some 10, .fieldAddr 46 (.tmp 3) 0, none),
  (some 11, .load 44 (.tmp 10), none),
  (some 12, .binOp .eql 44 (.tmp 11) (.const (.int .i64 5)) 44, none)]
abbrev R97_2 : List SOp := [(some 13, .fieldAddr 46 (.tmp 3) 2, none),
  (some 14, .load 9 (.tmp 13), none),
  (some 15, .move (.tmp 1), none),
  (some 16, .move (.tmp 2), none),
  (some 17, .call ⟨.value (.func 98), #[(.tmp 14), (.tmp 15), (.tmp 16)], #[9, 26, 110]⟩, none)]
abbrev R97_3 : List SOp := [(some 18, .fieldAddr 46 (.tmp 3) 0, none),
  (some 19, .load 44 (.tmp 18), none),
  (some 20, .binOp .eql 44 (.tmp 19) (.const (.int .i64 17)) 44, none)]
abbrev R97_4 : List SOp := [(some 21, .load 46 (.tmp 3), none),
  (some 22, .call ⟨.value (.func 36), #[(.tmp 21)], #[46]⟩, none),
  (some 23, .call ⟨.builtin .len, #[(.tmp 22)], #[26]⟩, none),
  (some 24, .move (.const (.int .i64 0)), none)]
abbrev R97_5 : List SOp := [(some 25, .binOp .lss 3 (.tmp 24) (.tmp 23) 3, none)]
abbrev R97_6 : List SOp := [(some 26, .indexAddr 26 (.tmp 22) (.tmp 24), none),
  (some 27, .load 9 (.tmp 26), none),
  (some 7, .assign (.tmp 27), none)]
abbrev R97_7 : List SOp := [(some 28, .move (.tmp 7), none),
  (some 29, .move (.tmp 1), none),
  (some 30, .move (.tmp 2), none),
  (some 31, .call ⟨.value (.func 98), #[(.tmp 28), (.tmp 29), (.tmp 30)], #[9, 26, 110]⟩, none)]
abbrev R97_8 : List SOp := [(some 32, .binOp .add 3 (.tmp 24) (.const (.int .i64 1)) 3, none),
  (some 24, .move (.tmp 32), none)]
def L97_0 : SCode := .seq (.reg R97_5) (.seq (.cond (.tmp 25) (.skip) (.exit 0)) (.seq (.block 1 (.seq (.reg R97_6) (.reg R97_7))) (.reg R97_8)))
abbrev R97_9 : List SOp := [(some 33, .fieldAddr 46 (.tmp 3) 3, none),
  (some 34, .load 40 (.tmp 33), none),
  (some 35, .call ⟨.builtin .len, #[(.tmp 34)], #[40]⟩, none),
  (some 36, .move (.const (.int .i64 0)), none)]
abbrev R97_10 : List SOp := [(some 37, .binOp .lss 3 (.tmp 36) (.tmp 35) 3, none)]
abbrev R97_11 : List SOp := [(some 38, .indexAddr 40 (.tmp 34) (.tmp 36), none),
  (some 39, .load 46 (.tmp 38), none),
  (some 9, .alloc 46, none),
  (none, .store 46 (.tmp 9) (.tmp 39), none)]
abbrev R97_12 : List SOp := [(some 40, .load 46 (.tmp 9), none),
  (some 41, .move (.tmp 1), none),
  (some 42, .move (.tmp 2), none),
  (some 43, .call ⟨.value (.func 97), #[(.tmp 40), (.tmp 41), (.tmp 42)], #[46, 26, 110]⟩, none)]
abbrev R97_13 : List SOp := [(some 44, .binOp .add 3 (.tmp 36) (.const (.int .i64 1)) 3, none),
  (some 36, .move (.tmp 44), none)]
def L97_1 : SCode := .seq (.reg R97_10) (.seq (.cond (.tmp 37) (.skip) (.exit 2)) (.seq (.block 3 (.seq (.reg R97_11) (.reg R97_12))) (.reg R97_13)))
abbrev S97 : SCode := .seq (.reg R97_0) (.seq (.seq (.reg R97_1) (.cond (.tmp 12) (.reg R97_2) (.skip))) (.seq (.seq (.reg R97_3) (.cond (.tmp 20) (.seq (.reg R97_4) (.block 0 (.loop L97_0))) (.skip))) (.seq (.reg R97_9) (.block 2 (.loop L97_1)))))
theorem slim97 : slimC tab 97 (Tryz.f97.body.getD .skip) = S97 := by kernel_rfl
theorem wf97 {xs : List V} {H : Hp} {Q : V → Hp → Prop} (h : WC tab S97 (frame xs 0 .nil) H (resQ tab [] Q)) : WF tab 97 xs H Q := WF.of_slim (T := tab) (f := 97) rfl fn97 rfl slim97 rfl h
/-! paling/palinglaw08.use -/
abbrev R98_0 : List SOp := [(some 6, .move (.tmp 1), none),
  (some 7, .move (.tmp 0), none),
  (some 8, .call ⟨.value (.func 139), #[(.tmp 6), (.tmp 7)], #[26, 9]⟩, none),
  (some 9, .unOp .not 4 (.tmp 8), none),
  (some 10, .move (.tmp 9), none),
  (some 11, .move (.tmp 2), some (some 10, true)),
  (some 12, .nilCheck (.tmp 11), some (some 10, true)),
  (some 13, .load 26 (.tmp 12), some (some 10, true)),
  (some 14, .move (.tmp 0), some (some 10, true)),
  (some 15, .call ⟨.value (.func 139), #[(.tmp 13), (.tmp 14)], #[26, 9]⟩, some (some 10, true)),
  (some 16, .unOp .not 4 (.tmp 15), some (some 10, true)),
  (some 17, .pick (.tmp 10) (.tmp 16) (.const (.bool false)), none)]
abbrev R98_1 : List SOp := [(some 18, .move (.tmp 2), none),
  (some 19, .move (.tmp 2), none),
  (some 20, .nilCheck (.tmp 19), none),
  (some 21, .load 26 (.tmp 20), none),
  (some 22, .move (.tmp 0), none),
  (some 23, .buildSlice 26 1 #[(0, (.tmp 22))], none),
  (some 24, .call ⟨.builtin .append, #[(.tmp 21), (.tmp 23)], #[26, 26]⟩, none),
  (some 25, .nilCheck (.tmp 18), none),
  (none, .store 26 (.tmp 25) (.tmp 24), none)]
abbrev S98 : SCode := .seq (.reg R98_0) (.cond (.tmp 17) (.reg R98_1) (.skip))
theorem slim98 : slimC tab 98 (Tryz.f98.body.getD .skip) = S98 := by kernel_rfl
theorem wf98 {xs : List V} {H : Hp} {Q : V → Hp → Prop} (h : WC tab S98 (frame xs 0 .nil) H (resQ tab [] Q)) : WF tab 98 xs H Q := WF.of_slim (T := tab) (f := 98) rfl fn98 rfl slim98 rfl h
end Go.AM.YtlcadokmhfjacaaGreatDoorT
/- What simp opens in the walks of this seat: printed by genset.py. -/
namespace Go.AM.YtlcadokmhfjacaaGreatDoorT
open Go Go.AM
attribute [simp] wp_skip wp_reg wp_dreg wp_seq wp_cond wp_block wp_loop wp_exit wp_ret wpL_nil wpL_cons wpD_nil wpD_cons sq_nrm sq_exit sq_ret nm_ap bl_nrm bl_ret bl_exit cd_true cd_false lp_nrm lp_exit lp_ret rs_ret rs_nrm rsQ contL contD kV kAW kA kW kC kCo wantQ oq_p oq_r oq_w oq_c oq_alloc oq_box oq_bs oq_mm oq_ms oq_cv dV dAW dA dW dC dCo isCall skD od_p od_r od_w od_c od_alloc od_box od_bs od_mm od_ms od_cv wantDQ wantS kind convKd lenV_sl lenV_nils lenV_sle lenV_str evP evR evA evW evAW descOf frame opd opds Tr.get_set putD delD resOf getAll kbOk afterA isPt winOk ofVal ofVal0 ofVals binInt binStr binE_int binE_str binE_shl binE_shr binE_eql_agg binE_neq_agg binE_eql_bool binE_neq_bool binE_eql_pn binE_neq_pn binE_eql_nn binE_neq_nn binE_eql_in binE_neq_in binE_eql_ii binE_neq_ii isBoolD isPtrD isIfD isMpD isSlD isC cells_agg cells_bool one_bool cells_int one_int cells_str one_str cells_nilp one_nilp cells_ptr one_ptr cells_nils one_nils cells_sle one_sle cells_sl one_sl cells_nilm one_nilm cells_mp one_mp cells_nilf one_nilf cells_fn one_fn cells_nili one_nili cells_ifc one_ifc isAgg isMapT optI partV zeroV keyOk keyOk1 keyOkS keyOkL eqS sameL same1 sameK esOf partsV fillV placesV setCells mapKeyOk Hp.get_flush Hp.stale_flush Hp.next_flush repl List.nil_append get_new_self get_put_self get_bump next_bump st_new st_put st_bump Hp.next_new Hp.next_put flush_of IntKind.bits tab_ng nna1 nnb1 nna2 nnb2 nna3 nnb3 nna4 nnb4 nna5 nnb5 nna6 nnb6 nna7 nnb7 nna8 nnb8
attribute [simp] ty1 ty2 ty3 ty4 ty5 ty6 ty7 ty8 ty9 ty10 ty11 ty12 ty13 ty14 ty15 ty16 ty17 ty18 ty19 ty20 ty21 ty22 ty23 ty24 ty25 ty26 ty27 ty28 ty29 ty30 ty31 ty32 ty33 ty34 ty36 ty37 ty38 ty39 ty40 ty41 ty42 ty43 ty44 ty45 ty46 ty47 ty48 ty49 ty50 ty51 ty52 ty53 ty54 ty55 ty56 ty57 ty58 ty59 ty60 ty61 ty62 ty63 ty64 ty65 ty67 ty68 ty69 ty70 ty71 ty72 ty73 ty75 ty76 ty77 ty78 ty79 ty80 ty81 ty82 ty83 ty85 ty86 ty87 ty89 ty90 ty91 ty92 ty93 ty94 ty95 ty96 ty97 ty98 ty99 ty100 ty101 ty102 ty103 ty104 ty105 ty106 ty107 ty108 ty109 ty110 ty111 ty112 ty114 ty115 ty117 ty118 ty119 ty120 ty121 ty122 ty123 ty124 ty125 ty126 ty128 ty130 ty131 ty132 ty133 ty134 ty135 ty136 ty137 ty138 ty139 ty140 ty141 ty142 ty143 ty144 ty145 ty146 ty147 ty148 ty149 ty150 ty151 ty152 ty153 ty154 ty155 ty156 ty157 ty158 ty160 ty161 ty162 ty163 ty164 ty165 ty166 ty167 ty168 ty169 ty170 ty171 ty172 ty173 ty175 ty176 ty177 ty178 ty179 ty180 ty181 ty182 ty183 ty185 ty187 ty188 ty190 ty191 ty192 ty193 ty194 ty195 ty196 ty197 ty198 ty199 ty200 ty201 ty202 ty203 ty204 ty205 ty206 ty207 ty209 ty210 ty211 ty212 ty213 ty214 ty215 ty216 ty217 ty218 ty219 ty220 ty221 ty222 ty223 ty224 ty225 ty226 ty227 ty228 ty229 ty230 ty232 ty233 ty234 ty235 ty236 ty237 ty238 ty239 ty240 ty241 ty242 ty243 ty244 ty245 ty246 ty247 ty248 ty249 ty250 ty251 ty252 ty253 ty255 ty256 ty257 ty259 ty260 ty261 ty262 ty263 ty264 ty265 ty266 ty268 ty269 ty270 ty271 ty272 ty273 ty274 ty275 ty276 ty277 ty278 ty279 ty280 ty281 ty282
end Go.AM.YtlcadokmhfjacaaGreatDoorT
/- Names that are used: the library's small functions. -/
set_option linter.unusedVariables false
set_option linter.unusedSimpArgs false
set_option maxRecDepth 100000
namespace Go.AM.YtlcadokmhfjacaaGreatDoorT
open Go Go.AM Go.Proofs
theorem StrsAt.at_ {K : Nat → Prop} {H : Hp} {l : Ts} {v : V} (h : StrsAt K H l v) {i : Nat} (hi : i < l.length) : ∃ b off cap e ro cells, v = .sl b off l.length cap 1 ∧ H.get b = some (.row e 1 ro cells) ∧ K b ∧ b < H.next ∧ off + l.length ≤ cells.length ∧ cells[off + i]? = some (.str l[i]) := by
  obtain ⟨b, off, cap, e, ro, cells, h1, h2, h3, h4, h5, h6, h7⟩ := h.row hi
  refine ⟨b, off, cap, e, ro, cells, h1, h2, h3, h4, by omega, ?_⟩
  have := congrArg (fun x => x[i]?) h7
  simp only [List.getElem?_take, hi, if_true, List.getElem?_drop, List.getElem?_map, List.getElem?_eq_getElem hi, Option.map_some] at this
  exact this
theorem index_ok {K : Nat → Prop} {H : Hp} {l : Ts} {v : V} {name : List UInt8} (hst : H.stale = []) (h : StrsAt K H l v) (hl : l.length ≤ 1099511627776) : WF tab 93 [v, .str name] H fun w H' => H' = H ∧ ∃ k : Int, w = .int .i64 k ∧ (0 ≤ k ↔ name ∈ l) := by
  refine wf93 (wp_sound _ ?_)
  have h1 := h.len 9
  have h2 := h.one; have h3 := h.cells
  simp [hst, h1, h2, h3]
  refine loop_of (fun k F H' => ∃ i, i + k = l.length ∧ H' = H ∧ name ∉ l.take i ∧ F.get 0 = some v ∧ F.get 1 = some (.str name) ∧ F.get 7 = some (.int .i64 l.length) ∧ F.get 8 = some (.int .i64 i)) (m := l.length) ⟨0, by omega, rfl, by simp, by simp, by simp, by simp, by simp⟩ ?_
  rintro k F _ ⟨i, hi, rfl, hn, f0, f1, f7, f8⟩
  by_cases hlt : i < l.length
  · have hlt' : (i : Int) < (l.length : Int) := by omega
    obtain ⟨b, off, cap, e, ro, cells, rfl, g1, g2, g3, g4, g5⟩ := StrsAt.at_ h hlt
    have hw : wr .i64 ((i : Int) + 1) = ((i + 1 : Nat) : Int) := by rw [wr_i64 (by omega) (by omega)]; omega
    by_cases he : name = l[i]
    · simp [L93_0, f0, f1, f7, f8, hst, hlt, hlt', g1, g5, ← he]
      rw [he]; exact List.getElem_mem hlt
    · have he' : (name == l[i]) = false := beq_false_of_ne he
      simp [L93_0, f0, f1, f7, f8, hst, hlt, hlt', g1, g5, he', hw]
      have hn1 : name ∉ l.take (i + 1) := by
        intro h
        rw [List.take_succ_eq_append_getElem hlt] at h
        rcases List.mem_append.1 h with h | h
        · exact hn h
        · exact he (List.mem_singleton.1 h)
      exact ⟨k - 1, by omega, i + 1, by omega, hn1, by omega⟩
  · have hlt' : ¬ (i : Int) < (l.length : Int) := by omega
    rw [List.take_of_length_le (by omega)] at hn
    simp [L93_0, f0, f1, f7, f8, hst, hlt, hlt', hn]
theorem contains_ok {K : Nat → Prop} {H : Hp} {l : Ts} {v : V} {name : List UInt8} (hst : H.stale = []) (h : StrsAt K H l v) (hl : l.length ≤ 1099511627776) : WF tab 139 [v, .str name] H fun w H' => H' = H ∧ w = .bool (decide (name ∈ l)) := by
  refine wf139 (wp_sound _ ?_)
  have h2 := h.one; have h3 := h.cells
  simp [hst, h2, h3]
  refine (index_ok hst h hl).mono ?_
  rintro w H' ⟨rfl, k, rfl, hk⟩
  simp [hst, hk]
end Go.AM.YtlcadokmhfjacaaGreatDoorT
/- Names that are used: one's own, and what is used, in a row. -/
set_option linter.unusedVariables false
set_option linter.unusedSimpArgs false
set_option maxRecDepth 100000
namespace Go.AM.YtlcadokmhfjacaaGreatDoorT
open Go Go.AM Go.Proofs
/-- The finder: what is one's own, what is used. -/
structure FinAt (H : Hp) (fr : Nat) (own out : Ts) (vo vs : V) : Prop where
  row : H.get fr = some (.row 107 2 false [vo, vs])
  lt : fr < H.next
  so : SlAt H 9 1 vo own.length (own.map .str)
  ss : SlAt H 9 1 vs out.length (out.map .str)
  ro : ∀ b ∈ rowsOf vo, b < H.next ∧ b ≠ fr ∧ b ∉ rowsOf vs
  rs : ∀ b ∈ rowsOf vs, b < H.next ∧ b ≠ fr
/-- What has become of the rows: the finder's, and all others. -/
structure FKeep (H : Hp) (fr : Nat) (vo vs : V) (H' : Hp) (vo' vs' : V) : Prop where
  st : H'.stale = []
  le : H.next ≤ H'.next
  get : ∀ b, b < H.next → b ≠ fr → b ∉ rowsOf vo → b ∉ rowsOf vs → H'.get b = H.get b
  own : ∀ b, b ∈ rowsOf vo' ∨ b ∈ rowsOf vs' → b ∈ rowsOf vo ∨ b ∈ rowsOf vs ∨ H.next ≤ b
theorem FKeep.refl {H : Hp} {fr : Nat} {vo vs : V} (h : H.stale = []) : FKeep H fr vo vs H vo vs := ⟨h, Nat.le_refl _, fun _ _ _ _ _ => rfl, fun b h => h.elim .inl fun h => .inr (.inl h)⟩
theorem FKeep.trans {H H1 H2 : Hp} {fr : Nat} {vo vs vo1 vs1 vo2 vs2 : V} (h : FKeep H fr vo vs H1 vo1 vs1) (h' : FKeep H1 fr vo1 vs1 H2 vo2 vs2) : FKeep H fr vo vs H2 vo2 vs2 := by
  have h1 := h.le; have h2 := h'.le
  refine ⟨h'.st, by omega, fun b hb hf ho hs => ?_, fun b hb => ?_⟩
  · rw [h'.get b (by omega) hf (fun hx => ?_) (fun hx => ?_)]
    · exact h.get b hb hf ho hs
    · rcases h.own b (.inl hx) with g | g | g
      · exact ho g
      · exact hs g
      · omega
    · rcases h.own b (.inr hx) with g | g | g
      · exact ho g
      · exact hs g
      · omega
  · rcases h'.own b hb with g | g | g
    · exact h.own b (.inl g)
    · exact h.own b (.inr g)
    · exact .inr (.inr (by omega))
theorem FinAt.bump {H : Hp} {fr : Nat} {own out : Ts} {vo vs : V} (h : FinAt H fr own out vo vs) : FinAt H.bump fr own out vo vs :=
  ⟨h.row, Nat.lt_succ_of_lt h.lt, h.so.of_get fun _ _ => rfl, h.ss.of_get fun _ _ => rfl, fun b hb => ⟨Nat.lt_succ_of_lt (h.ro b hb).1, (h.ro b hb).2⟩, fun b hb => ⟨Nat.lt_succ_of_lt (h.rs b hb).1, (h.rs b hb).2⟩⟩
theorem FinAt.keep {H H' : Hp} {fr : Nat} {own out : Ts} {vo vs : V} (h : FinAt H fr own out vo vs) (hle : H.next ≤ H'.next) (hg : ∀ b, b < H.next → H'.get b = H.get b) : FinAt H' fr own out vo vs :=
  ⟨by rw [hg fr h.lt]; exact h.row, Nat.lt_of_lt_of_le h.lt hle, h.so.of_get fun b hb => hg b (h.ro b hb).1, h.ss.of_get fun b hb => hg b (h.rs b hb).1, fun b hb => ⟨Nat.lt_of_lt_of_le (h.ro b hb).1 hle, (h.ro b hb).2⟩, fun b hb => ⟨Nat.lt_of_lt_of_le (h.rs b hb).1 hle, (h.rs b hb).2⟩⟩
theorem sl_strs {H : Hp} {v : V} {l : Ts} (h : SlAt H 9 1 v l.length (l.map .str)) (hb : ∀ b ∈ rowsOf v, b < H.next) : StrsAt (fun _ => True) H l v := StrsAt.of_slAt h (fun b hb' => ⟨trivial, hb b hb'⟩) rfl
theorem FinAt.app_s {H H3 H4 : Hp} {fr : Nat} {own out ns : Ts} {vo vs v' : V} {k : Nat} (hF : FinAt H fr own out vo vs) (hst : H.stale = []) (hS : SlAt H3 9 1 v' (out.length + k) (out.map .str ++ ns.map .str)) (hk : ns.length = k) (hA : AppR H vs H3 v') (hs4 : H4.stale = []) (hn4 : H3.next ≤ H4.next) (hr4 : H4.get fr = some (.row 107 2 false [vo, v'])) (hg : ∀ b, b ≠ fr → H4.get b = H3.flush.get b) :
    FinAt H4 fr own (out ++ ns) vo v' ∧ FKeep H fr vo vs H4 vo v' := by
  obtain ⟨k1, k2, k3, k4, k5⟩ := app_flush' hst hS hA
  rw [Hp.next_flush] at k4 k5
  have hlt := hF.lt
  have hn : ∀ b ∈ rowsOf v', b < H4.next ∧ b ≠ fr := fun b hb => by
    obtain ⟨g1, g2⟩ := k5 b hb
    refine ⟨by omega, ?_⟩
    rcases g2 with g2 | g2
    · exact (hF.rs b g2).2
    · omega
  have ko : ∀ b ∈ rowsOf vo, H4.get b = H.get b := fun b hb => by
    have := hF.ro b hb
    rw [hg b this.2.1, k2 b this.1 this.2.2]
  refine ⟨⟨hr4, by omega, hF.so.of_get ko, ?_, fun b hb => ?_, hn⟩, ⟨hs4, by omega, fun b hb hf ho hs => by rw [hg b hf, k2 b hb hs], fun b hb => ?_⟩⟩
  · rw [List.length_append, List.map_append, hk]
    exact k1.of_get fun b hb => hg b (hn b hb).2
  · have := hF.ro b hb
    refine ⟨by omega, this.2.1, fun h => ?_⟩
    rcases (k5 b h).2 with g | g
    · exact this.2.2 g
    · omega
  · rcases hb with h | h
    · exact .inl h
    · exact .inr (k5 b h).2
theorem FinAt.app_o {H H3 H4 : Hp} {fr : Nat} {own out ns : Ts} {vo vs v' : V} {k : Nat} (hF : FinAt H fr own out vo vs) (hst : H.stale = []) (hS : SlAt H3 9 1 v' (own.length + k) (own.map .str ++ ns.map .str)) (hk : ns.length = k) (hA : AppR H vo H3 v') (hs4 : H4.stale = []) (hn4 : H3.next ≤ H4.next) (hr4 : H4.get fr = some (.row 107 2 false [v', vs])) (hg : ∀ b, b ≠ fr → H4.get b = H3.flush.get b) :
    FinAt H4 fr (own ++ ns) out v' vs ∧ FKeep H fr vo vs H4 v' vs := by
  obtain ⟨k1, k2, k3, k4, k5⟩ := app_flush' hst hS hA
  rw [Hp.next_flush] at k4 k5
  have hlt := hF.lt
  have hn : ∀ b ∈ rowsOf v', b < H4.next ∧ b ≠ fr ∧ b ∉ rowsOf vs := fun b hb => by
    obtain ⟨g1, g2⟩ := k5 b hb
    rcases g2 with g2 | g2
    · exact ⟨by omega, (hF.ro b g2).2⟩
    · exact ⟨by omega, by omega, fun h => by have := (hF.rs b h).1; omega⟩
  have hso : ∀ b ∈ rowsOf vs, b ∉ rowsOf vo := fun b hb h => (hF.ro b h).2.2 hb
  have ks : ∀ b ∈ rowsOf vs, H4.get b = H.get b := fun b hb => by
    have := hF.rs b hb
    rw [hg b this.2, k2 b this.1 (hso b hb)]
  refine ⟨⟨hr4, by omega, ?_, hF.ss.of_get ks, hn, fun b hb => ⟨by have := (hF.rs b hb).1; omega, (hF.rs b hb).2⟩⟩, ⟨hs4, by omega, fun b hb hf ho hs => by rw [hg b hf, k2 b hb ho], fun b hb => ?_⟩⟩
  · rw [List.length_append, List.map_append, hk]
    exact k1.of_get fun b hb => hg b (hn b hb).2.1
  · rcases hb with h | h
    · rcases (k5 b h).2 with g | g
      · exact .inl g
      · exact .inr (.inr g)
    · exact .inr (.inl h)
theorem see_ok {H : Hp} {fr : Nat} {own out : Ts} {vo vs : V} {name : List UInt8} (hst : H.stale = []) (hF : FinAt H fr own out vo vs) (hl : own.length ≤ 1099511627776) (hl' : out.length ≤ 1099511627776) : WF tab 95 [.ptr fr 0, .str name] H fun _ H' => ∃ vs', FinAt H' fr own (useP own out name) vo vs' ∧ FKeep H fr vo vs H' vo vs' := by
  refine wf95 (wp_sound _ ?_)
  have hrow := hF.row
  have c1 := hF.so.one; have c2 := hF.so.cells; have c3 := hF.ss.one; have c4 := hF.ss.cells
  simp [hst, hrow]
  refine (contains_ok hst (sl_strs hF.so fun b hb => (hF.ro b hb).1) hl).mono ?_
  rintro w H1 ⟨hH1, rfl⟩
  have hH2 := hH1.symm
  subst hH2
  by_cases ho : name ∈ own
  · simp [ho, hst, hrow]
    rw [show useP own out name = out by simp [useP, ho]]
    exact ⟨vs, hF, FKeep.refl hst⟩
  · simp [ho, hst, hrow]
    refine (contains_ok hst (sl_strs hF.ss fun b hb => (hF.rs b hb).1) hl').mono ?_
    rintro w H1 ⟨hH1, rfl⟩
    have hH2 := hH1.symm
    subst hH2
    by_cases hs : name ∈ out
    · simp [hs, hst]
      rw [show useP own out name = out by simp [useP, hs]]
      exact ⟨vs, hF, FKeep.refl hst⟩
    · simp [hs, hst, hrow]
      have hlt := hF.lt
      have hu : useP own out name = out ++ [name] := by simp [useP, ho, hs]
      refine wpL_app1 (H := H) (e0 := 9) (cells := [.str name]) (by simp [descOf]) ty9 (by decide) (by simp) (by simp) hF.ss (fun b hb => ⟨(hF.rs b hb).1, by simp [hst]⟩) rfl (by show (out.length + 1) * 16 ≤ _; omega) (by omega) (by simp [hst]) fun v' H3 hS hA => ?_
      obtain ⟨k1, k2⟩ := hA.keep fr hlt (fun h => (hF.rs fr h).2 rfl) (by simp [hst])
      have c5 := hS.one; have c6 := hS.cells
      simp [k1, k2, hrow, c1, c5, c6]
      rw [hu]
      exact ⟨v', hF.app_s (ns := [name]) (H3 := H3) (k := 1) hst hS rfl hA (by simp) (by simp) (by simp [Hp.get_put]) (fun b hb => by simp [Hp.get_put, two_ne hb])⟩
end Go.AM.YtlcadokmhfjacaaGreatDoorT
/- Names that are used: the finder's walk. -/
set_option linter.unusedVariables false
set_option linter.unusedSimpArgs false
set_option maxRecDepth 100000
namespace Go.AM.YtlcadokmhfjacaaGreatDoorT
open Go Go.AM Go.Proofs
/-- Rows of trees: none of the finder's. -/
def Dj (K : Nat → Prop) (H : Hp) (fr : Nat) (vo vs : V) : Prop := ∀ b, K b → b < H.next ∧ b ≠ fr ∧ b ∉ rowsOf vo ∧ b ∉ rowsOf vs
section
variable {K : Nat → Prop} {H H' : Hp} {fr : Nat} {vo vs vo' vs' : V}
theorem Dj.keep (h : Dj K H fr vo vs) (hk : FKeep H fr vo vs H' vo' vs') : Dj K H' fr vo' vs' := fun b hb => by
  obtain ⟨h1, h2, h3, h4⟩ := h b hb
  have := hk.le
  refine ⟨by omega, h2, fun hx => ?_, fun hx => ?_⟩
  · rcases hk.own b (.inl hx) with g | g | g
    · exact h3 g
    · exact h4 g
    · omega
  · rcases hk.own b (.inr hx) with g | g | g
    · exact h3 g
    · exact h4 g
    · omega
theorem Dj.stays (h : Dj K H fr vo vs) (hk : FKeep H fr vo vs H' vo' vs') : Stays K K H H' := ⟨fun b hb _ => hb, fun b hb hx => hk.get b hx (h b hb).2.1 (h b hb).2.2.1 (h b hb).2.2.2, hk.le⟩
theorem FKeep.news (hs : H'.stale = []) (hl : H.next ≤ H'.next) (hg : ∀ b, b < H.next → H'.get b = H.get b) : FKeep H fr vo vs H' vo vs :=
  ⟨hs, hl, fun b hb _ _ _ => hg b hb, fun b hb => hb.elim .inl fun h => .inr (.inl h)⟩
end
/-- The finder's functions: what they come to. -/
def ExF (e : Tx) : Prop := ∀ (H : Hp) (fr : Nat) (own out : Ts) (vo vs : V) (cs : List V) (K : Nat → Prop), H.stale = [] → FinAt H fr own out vo vs → ExpAt K H e cs → Dj K H fr vo vs → own.length + out.length + e.wt ≤ 1099511627776 →
  WF tab 94 [.ptr fr 0, .agg cs] H fun _ H' => ∃ vs', FinAt H' fr own (freeE e own out) vo vs' ∧ FKeep H fr vo vs H' vo vs'
def BlF (l : List Tx) : Prop := ∀ (H : Hp) (fr : Nat) (own params out : Ts) (vo vs v va : V) (K : Nat → Prop), H.stale = [] → FinAt H fr own out vo vs → TreesAt K H l v → StrsAt K H params va → Dj K H fr vo vs → own.length + params.length + out.length + wts l ≤ 1099511627776 →
  WF tab 63 [.ptr fr 0, v, va] H fun _ H' => ∃ vo' vs', FinAt H' fr own (freeB l (own ++ params) out) vo' vs' ∧ FKeep H fr vo vs H' vo' vs'
/-- Where an element of trees lies. -/
theorem TreesAt.at_ {K : Nat → Prop} {H : Hp} {l : List Tx} {v : V} (h : TreesAt K H l v) {i : Nat} (hi : i < l.length) : ∃ b off cap e ro cells d0 d1 d2 d3 d4 d5, v = .sl b off l.length cap 6 ∧ H.get b = some (.row e 6 ro cells) ∧ K b ∧ b < H.next ∧ off % 6 = 0 ∧ off + l.length * 6 ≤ cells.length ∧ (cells.drop (off + i * 6)).take 6 = [d0, d1, d2, d3, d4, d5] ∧ ExpAt K H l[i] [d0, d1, d2, d3, d4, d5] ∧
    oneV d0 = true ∧ oneV d1 = true ∧ oneV d2 = true ∧ oneV d3 = true ∧ oneV d4 = true ∧ oneV d5 = true := by
  obtain ⟨b, off, cap, e, ro, cells, h1, h2, h3, h4, h5, h6, h7⟩ := h.row hi
  have := ElsAt.at_ l _ i hi h7
  rw [List.drop_drop] at this
  obtain ⟨d0, d1, d2, d3, d4, d5, e1, e2⟩ := this.six
  rw [e1] at this
  exact ⟨b, off, cap, e, ro, cells, d0, d1, d2, d3, d4, d5, h1, h2, h3, h4, h5, h6, e1, this, e2⟩
structure J78 (H0 : Hp) (fr : Nat) (own out : Ts) (vo vs0 v : V) (parts : List Tx) (i : Nat) (vs : V) (F : Fr) (H : Hp) : Prop where
  le : i ≤ parts.length
  fin : FinAt H fr own (freeEs (parts.take i) own out) vo vs
  keep : FKeep H0 fr vo vs0 H vo vs
  f0 : F.get 0 = some (.ptr fr 0)
  f30 : F.get 30 = some v
  f31 : F.get 31 = some (.int .i64 parts.length)
  f32 : F.get 32 = some (.int .i64 i)
theorem eparts_loop {K : Nat → Prop} {H0 : Hp} {fr : Nat} {own out : Ts} {vo vs0 v : V} {parts : List Tx} (hP : ∀ p ∈ parts, ExF p) (hK : Dj K H0 fr vo vs0) (hT : TreesAt K H0 parts v) (hb : own.length + out.length + wts parts ≤ 1099511627776) {F : Fr} {H : Hp} {Q : PC} {vs : V} (h0 : J78 H0 fr own out vo vs0 v parts 0 vs F H)
    (hQ : ∀ vs' F' H', FinAt H' fr own (freeEs parts own out) vo vs' → FKeep H0 fr vo vs0 H' vo vs' → Q (.exit 3) F' H') : WC tab (.loop L94_1) F H Q := by
  refine loop_of (fun k F H => ∃ i vs, i + k = parts.length ∧ J78 H0 fr own out vo vs0 v parts i vs F H) (m := parts.length) ⟨0, vs, by omega, h0⟩ ?_
  rintro k F H ⟨i, vs, hi, I⟩
  have hst := I.keep.st
  have f0 := I.f0; have f30 := I.f30; have f31 := I.f31; have f32 := I.f32
  by_cases hlt : i < parts.length
  · have hlt' : (i : Int) < (parts.length : Int) := by omega
    have hTi := hT.mono (hK.stays I.keep)
    obtain ⟨b, off, cap, e, ro, cells, d0, d1, d2, d3, d4, d5, rfl, g1, g2, g3, g4, g5, g6, g7, n0, n1, n2, n3, n4, n5⟩ := TreesAt.at_ hTi hlt
    have hw : wr .i64 ((i : Int) + 1) = ((i + 1 : Nat) : Int) := by
      have := len_wts parts
      rw [wr_i64 (by omega) (by omega)]; omega
    have hoff : off + i * 6 + 6 ≤ cells.length := by omega
    simp [L94_1, f0, f30, f31, f32, hst, hlt, hlt', g1, g4, g5, g6, hoff, n0, n1, n2, n3, n4, n5]
    have hfin := I.fin
    have hfl := freeEs_len (parts.take i) own out
    have hwt := wts_take parts i hlt
    have hNk : ∀ o o' : Ob, FKeep H fr vo vs ((H.new o).put H.next o') vo vs := fun o o' => FKeep.news (by simp [hst]) (by simp) (fun b hb => by simp [Hp.get_new, Hp.get_put, old_ne hb])
    have hK1 := (hK.keep I.keep).keep (hNk (.row 46 6 false [.int .i64 0, .int .i64 0, .str [], .nils, .nils, .nils]) (.row 46 6 false [d0, d1, d2, d3, d4, d5]))
    refine (hP parts[i] (List.getElem_mem hlt) _ fr own _ vo vs _ K (by simp [hst]) (hfin.keep (by simp) fun b hb => by simp [Hp.get_new, Hp.get_put, old_ne hb]) (ExpAt.mono ((hK.keep I.keep).stays (hNk _ _)) _ _ g7) hK1 (by omega)).mono ?_
    rintro w H2 ⟨vs', hF2, hk2⟩
    simp [f32, hw, hk2.st]
    have hs : freeE parts[i] own (freeEs (parts.take i) own out) = freeEs (parts.take (i + 1)) own out := by rw [List.take_succ_eq_append_getElem hlt, freeEs_snoc]
    rw [hs] at hF2
    exact ⟨k - 1, by omega, i + 1, by omega, vs', by omega, hF2, (I.keep.trans (hNk _ _)).trans hk2, by simp [f0], by simp [f30], by simp [f31], by simp⟩
  · have hlt' : ¬ (i : Int) < (parts.length : Int) := by omega
    have hfin := I.fin
    rw [List.take_of_length_le (by omega)] at hfin
    simp [L94_1, f0, f30, f31, f32, hst, hlt']
    exact hQ _ _ _ hfin I.keep
end Go.AM.YtlcadokmhfjacaaGreatDoorT
