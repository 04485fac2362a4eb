/- Parts of the abstract machine and of the walks over it, joined: what the law that is claimed here leans on. -/
import Derived.Test.YtkmkkgfdobaplaaGreatDoorAmX
import Derived.Test.YtkmkkgfdobaplaaGreatDoorAmC2
import Derived.Test.YtkmkkgfdobaplaaGreatDoorAmC3
import Derived.Test.YtkmkkgfdobaplaaGreatDoorAmS
import Derived.Test.YtkmkkgfdobaplaaGreatDoorAmM
/- The slim code of these functions: printed by genslim.py. -/
namespace Go.AM.YtkmkkgfdobaplaaGreatDoorT
open Go Go.AM Go.Proofs
set_option maxRecDepth 100000
/-! slices.Index[[]string,string] -/
abbrev R29_0 : List SOp := [(some 4, .assign (.const (.int .i64 0)), none)]
abbrev R29_1 : List SOp := [(some 6, .move (.tmp 0), none),
  (some 7, .call ⟨.builtin .len, #[(.tmp 6)], #[36]⟩, none),
  (some 8, .move (.const (.int .i64 0)), none)]
abbrev R29_2 : List SOp := [(some 9, .binOp .lss 3 (.tmp 8) (.tmp 7) 3, none)]
abbrev R29_3 : List SOp := [(some 10, .move (.tmp 8), none),
  (some 5, .assign (.tmp 10), none)]
abbrev R29_4 : List SOp := [(some 11, .move (.tmp 1), none),
  (some 12, .move (.tmp 0), none),
  (some 13, .move (.tmp 5), none),
  (some 14, .indexAddr 36 (.tmp 12) (.tmp 13), none),
  (some 15, .load 9 (.tmp 14), none),
  (some 16, .binOp .eql 9 (.tmp 11) (.tmp 15) 9, none)]
abbrev R29_5 : List SOp := [(some 17, .move (.tmp 5), none),
  (some 4, .assign (.tmp 17), none)]
abbrev R29_6 : List SOp := [(some 18, .binOp .add 3 (.tmp 8) (.const (.int .i64 1)) 3, none),
  (some 8, .move (.tmp 18), none)]
def L29_0 : SCode := .seq (.reg R29_2) (.seq (.cond (.tmp 9) (.skip) (.exit 0)) (.seq (.block 1 (.seq (.reg R29_3) (.seq (.reg R29_4) (.cond (.tmp 16) (.seq (.reg R29_5) (.ret)) (.skip))))) (.reg R29_6)))
abbrev R29_7 : List SOp := [(some 4, .assign (.const (.int .i64 (-1))), none)]
abbrev S29 : SCode := .seq (.reg R29_0) (.seq (.seq (.reg R29_1) (.block 0 (.loop L29_0))) (.seq (.reg R29_7) (.ret)))
theorem slim29 : slimC tab 29 (Tryz.f29.body.getD .skip) = S29 := by kernel_rfl
theorem wf29 {xs : List V} {H : Hp} {Q : V → Hp → Prop} (h : WC tab S29 (frame xs 0 .nil) H (resQ tab [.tmp 4] Q)) : WF tab 29 xs H Q := WF.of_slim (T := tab) (f := 29) rfl fn29 rfl slim29 rfl h
/-! slices.Contains[[]string,string] -/
abbrev R23_0 : List SOp := [(some 4, .assign (.const (.bool false)), none)]
abbrev R23_1 : List SOp := [(some 5, .move (.tmp 0), none),
  (some 6, .move (.tmp 1), none),
  (some 7, .call ⟨.value (.func 29), #[(.tmp 5), (.tmp 6)], #[36, 9]⟩, none),
  (some 8, .binOp .geq 3 (.tmp 7) (.const (.int .i64 0)) 3, none),
  (some 4, .assign (.tmp 8), none)]
abbrev S23 : SCode := .seq (.reg R23_0) (.seq (.reg R23_1) (.ret))
theorem slim23 : slimC tab 23 (Tryz.f23.body.getD .skip) = S23 := by kernel_rfl
theorem wf23 {xs : List V} {H : Hp} {Q : V → Hp → Prop} (h : WC tab S23 (frame xs 0 .nil) H (resQ tab [.tmp 4] Q)) : WF tab 23 xs H Q := WF.of_slim (T := tab) (f := 23) rfl fn23 rfl slim23 rfl h
/-! slices.Clone[[]string,string] -/
abbrev R80_0 : List SOp := [(some 2, .assign (.const (.slice none 0 0)), none)]
abbrev R80_1 : List SOp := [(some 3, .move (.tmp 0), none),
  (some 4, .binOp .eql 36 (.tmp 3) (.const (.slice none 0 0)) 36, none)]
abbrev R80_2 : List SOp := [(some 2, .assign (.const (.slice none 0 0)), none)]
abbrev R80_3 : List SOp := [(some 5, .buildSlice 36 0 #[], none),
  (some 6, .move (.tmp 0), none),
  (some 7, .call ⟨.builtin .append, #[(.tmp 5), (.tmp 6)], #[36, 36]⟩, none),
  (some 2, .assign (.tmp 7), none)]
abbrev S80 : SCode := .seq (.reg R80_0) (.seq (.seq (.reg R80_1) (.cond (.tmp 4) (.seq (.reg R80_2) (.ret)) (.skip))) (.seq (.reg R80_3) (.ret)))
theorem slim80 : slimC tab 80 (Tryz.f80.body.getD .skip) = S80 := by kernel_rfl
theorem wf80 {xs : List V} {H : Hp} {Q : V → Hp → Prop} (h : WC tab S80 (frame xs 0 .nil) H (resQ tab [.tmp 2] Q)) : WF tab 80 xs H Q := WF.of_slim (T := tab) (f := 80) rfl fn80 rfl slim80 rfl h
/-! slices.Equal[[]string,string] -/
abbrev R31_0 : List SOp := [(some 4, .assign (.const (.bool false)), none)]
abbrev R31_1 : List SOp := [(some 6, .move (.tmp 0), none),
  (some 7, .call ⟨.builtin .len, #[(.tmp 6)], #[36]⟩, none),
  (some 8, .move (.tmp 1), none),
  (some 9, .call ⟨.builtin .len, #[(.tmp 8)], #[36]⟩, none),
  (some 10, .binOp .neq 3 (.tmp 7) (.tmp 9) 3, none)]
abbrev R31_2 : List SOp := [(some 4, .assign (.const (.bool false)), none)]
abbrev R31_3 : List SOp := [(some 11, .move (.tmp 0), none),
  (some 12, .call ⟨.builtin .len, #[(.tmp 11)], #[36]⟩, none),
  (some 13, .move (.const (.int .i64 0)), none)]
abbrev R31_4 : List SOp := [(some 14, .binOp .lss 3 (.tmp 13) (.tmp 12) 3, none)]
abbrev R31_5 : List SOp := [(some 15, .move (.tmp 13), none),
  (some 5, .assign (.tmp 15), none)]
abbrev R31_6 : List (SOp × Nat) := [((some 16, .move (.tmp 0), none), 0),
  ((some 17, .move (.tmp 5), none), 0),
  ((some 18, .indexAddr 36 (.tmp 16) (.tmp 17), none), 0),
  ((some 19, .load 9 (.tmp 18), none), 0),
  ((some 20, .move (.tmp 1), none), 0),
  ((some 21, .move (.tmp 5), none), 0),
  ((some 22, .indexAddr 36 (.tmp 20) (.tmp 21), none), 0),
  ((some 23, .load 9 (.tmp 22), none), 0),
  ((some 24, .binOp .neq 9 (.tmp 19) (.tmp 23) 9, none), 0)]
abbrev R31_7 : List SOp := [(some 4, .assign (.const (.bool false)), none)]
abbrev R31_8 : List SOp := [(some 25, .binOp .add 3 (.tmp 13) (.const (.int .i64 1)) 3, none),
  (some 13, .move (.tmp 25), none)]
def L31_0 : SCode := .seq (.reg R31_4) (.seq (.cond (.tmp 14) (.skip) (.exit 0)) (.seq (.block 1 (.seq (.reg R31_5) (.seq (.dreg R31_6) (.cond (.tmp 24) (.seq (.reg R31_7) (.ret)) (.skip))))) (.reg R31_8)))
abbrev R31_9 : List SOp := [(some 4, .assign (.const (.bool true)), none)]
abbrev S31 : SCode := .seq (.reg R31_0) (.seq (.seq (.reg R31_1) (.cond (.tmp 10) (.seq (.reg R31_2) (.ret)) (.skip))) (.seq (.seq (.reg R31_3) (.block 0 (.loop L31_0))) (.seq (.reg R31_9) (.ret))))
theorem slim31 : slimC tab 31 (Tryz.f31.body.getD .skip) = S31 := by kernel_rfl
theorem wf31 {xs : List V} {H : Hp} {Q : V → Hp → Prop} (h : WC tab S31 (frame xs 0 .nil) H (resQ tab [.tmp 4] Q)) : WF tab 31 xs H Q := WF.of_slim (T := tab) (f := 31) rfl fn31 rfl slim31 rfl h
/-! paling/palinglaw08.Fn -/
abbrev R30_0 : List SOp := [(some 4, .alloc 53, none)]
abbrev R30_1 : List SOp := [(some 8, .move (.tmp 1), none),
  (some 9, .call ⟨.value (.func 18), #[(.tmp 8)], #[22]⟩, none),
  (some 10, .build 53 #[(0, (.const (.int .i64 17))), (5, (.tmp 9))], none),
  (some 5, .alloc 53, none),
  (none, .store 53 (.tmp 5) (.tmp 10), none)]
abbrev R30_2 : List SOp := [(some 11, .move (.tmp 0), none),
  (some 12, .call ⟨.builtin .len, #[(.tmp 11)], #[50]⟩, none),
  (some 13, .move (.const (.int .i64 0)), none)]
abbrev R30_3 : List SOp := [(some 14, .binOp .lss 3 (.tmp 13) (.tmp 12) 3, none)]
abbrev R30_4 : List SOp := [(some 15, .move (.tmp 13), none),
  (some 16, .indexAddr 50 (.tmp 11) (.tmp 13), none),
  (some 17, .load 5 (.tmp 16), none),
  (some 6, .assign (.tmp 15), none),
  (some 7, .assign (.tmp 17), none)]
abbrev R30_5 : List SOp := [(some 18, .move (.tmp 6), none),
  (some 19, .binOp .lss 3 (.tmp 18) (.const (.int .i64 3)) 3, none)]
abbrev R30_6 : List (SOp × Nat) := [((some 22, .move (.tmp 7), none), 0),
  ((some 23, .call ⟨.value (.func 24), #[(.tmp 22)], #[5]⟩, none), 0),
  ((some 20, .fieldAddr 53 (.tmp 5) 4, none), 1),
  ((some 21, .load 36 (.tmp 20), none), 1),
  ((some 24, .buildSlice 36 1 #[(0, (.tmp 23))], none), 0),
  ((some 25, .call ⟨.builtin .append, #[(.tmp 21), (.tmp 24)], #[36, 36]⟩, none), 0),
  ((some 26, .fieldAddr 53 (.tmp 5) 4, none), 0),
  ((none, .store 36 (.tmp 26) (.tmp 25), none), 0)]
abbrev R30_7 : List SOp := [(some 27, .binOp .add 3 (.tmp 13) (.const (.int .i64 1)) 3, none),
  (some 13, .move (.tmp 27), none)]
def L30_0 : SCode := .seq (.reg R30_3) (.seq (.cond (.tmp 14) (.skip) (.exit 0)) (.seq (.block 1 (.seq (.reg R30_4) (.seq (.reg R30_5) (.cond (.tmp 19) (.dreg R30_6) (.skip))))) (.reg R30_7)))
abbrev R30_8 : List SOp := [(some 28, .load 53 (.tmp 5), none),
  (none, .store 53 (.tmp 4) (.tmp 28), none)]
abbrev S30 : SCode := .seq (.reg R30_0) (.seq (.reg R30_1) (.seq (.seq (.reg R30_2) (.block 0 (.loop L30_0))) (.seq (.reg R30_8) (.ret))))
theorem slim30 : slimC tab 30 (Tryz.f30.body.getD .skip) = S30 := by kernel_rfl
theorem wf30 {xs : List V} {H : Hp} {Q : V → Hp → Prop} (h : WC tab S30 (frame xs 0 .nil) H (resQ tab [.cell 4 53] Q)) : WF tab 30 xs H Q := WF.of_slim (T := tab) (f := 30) rfl fn30 rfl slim30 rfl h
/-! paling/scope.Free -/
abbrev R32_0 : List SOp := [(some 1, .box 53 (.tmp 0), none),
  (some 2, .assign (.const (.slice none 0 0)), none)]
abbrev R32_1 : List SOp := [(some 4, .build 102 #[], none),
  (some 5, .box 102 (.tmp 4), none),
  (some 3, .assign (.tmp 5), none)]
abbrev R32_2 : List SOp := [(some 6, .move (.tmp 3), none),
  (some 7, .fieldAddr 53 (.tmp 1) 5, none),
  (some 8, .load 26 (.tmp 7), none),
  (some 9, .fieldAddr 53 (.tmp 1) 4, none),
  (some 10, .load 36 (.tmp 9), none),
  (some 11, .call ⟨.value (.func 52), #[(.tmp 6), (.tmp 8), (.tmp 10)], #[100, 26, 36]⟩, none)]
abbrev R32_3 : List SOp := [(some 12, .move (.tmp 3), none),
  (some 13, .nilCheck (.tmp 12), none),
  (some 14, .fieldAddr 102 (.tmp 13) 1, none),
  (some 15, .load 36 (.tmp 14), none),
  (some 2, .assign (.tmp 15), none)]
abbrev S32 : SCode := .seq (.reg R32_0) (.seq (.reg R32_1) (.seq (.reg R32_2) (.seq (.reg R32_3) (.ret))))
theorem slim32 : slimC tab 32 (Tryz.f32.body.getD .skip) = S32 := by kernel_rfl
theorem wf32 {xs : List V} {H : Hp} {Q : V → Hp → Prop} (h : WC tab S32 (frame xs 0 .nil) H (resQ tab [.tmp 2] Q)) : WF tab 32 xs H Q := WF.of_slim (T := tab) (f := 32) rfl fn32 rfl slim32 rfl h
/-! (*paling/scope.finder).stmts -/
abbrev R52_0 : List SOp := [(some 11, .move (.tmp 0), none),
  (some 12, .nilCheck (.tmp 11), none),
  (some 13, .fieldAddr 102 (.tmp 12) 0, none),
  (some 14, .load 36 (.tmp 13), none),
  (some 15, .call ⟨.builtin .len, #[(.tmp 14)], #[36]⟩, none),
  (some 6, .assign (.tmp 15), none)]
abbrev R52_1 : List SOp := [(some 16, .move (.tmp 0), none),
  (some 17, .move (.tmp 0), none),
  (some 18, .nilCheck (.tmp 17), none),
  (some 19, .fieldAddr 102 (.tmp 18) 0, none),
  (some 20, .load 36 (.tmp 19), none),
  (some 21, .move (.tmp 2), none),
  (some 22, .call ⟨.builtin .append, #[(.tmp 20), (.tmp 21)], #[36, 36]⟩, none),
  (some 23, .nilCheck (.tmp 16), none),
  (some 24, .fieldAddr 102 (.tmp 23) 0, none),
  (none, .store 36 (.tmp 24) (.tmp 22), none)]
abbrev R52_2 : List SOp := [(some 25, .move (.tmp 1), none),
  (some 26, .call ⟨.builtin .len, #[(.tmp 25)], #[26]⟩, none),
  (some 27, .move (.const (.int .i64 0)), none)]
abbrev R52_3 : List SOp := [(some 28, .binOp .lss 3 (.tmp 27) (.tmp 26) 3, none)]
abbrev R52_4 : List SOp := [(some 29, .indexAddr 26 (.tmp 25) (.tmp 27), none),
  (some 30, .load 46 (.tmp 29), none),
  (some 8, .alloc 46, none),
  (none, .store 46 (.tmp 8) (.tmp 30), none)]
abbrev R52_5 : List SOp := [(some 31, .fieldAddr 46 (.tmp 8) 2, none),
  (some 32, .load 44 (.tmp 31), none),
  (some 33, .call ⟨.builtin .len, #[(.tmp 32)], #[44]⟩, none),
  (some 34, .move (.const (.int .i64 0)), none)]
abbrev R52_6 : List SOp := [(some 35, .binOp .lss 3 (.tmp 34) (.tmp 33) 3, none)]
abbrev R52_7 : List SOp := [(some 36, .indexAddr 44 (.tmp 32) (.tmp 34), none),
  (some 37, .load 53 (.tmp 36), none),
  (some 10, .alloc 53, none),
  (none, .store 53 (.tmp 10) (.tmp 37), none)]
abbrev R52_8 : List SOp := [(some 38, .move (.tmp 0), none),
  (some 39, .load 53 (.tmp 10), none),
  (some 40, .call ⟨.value (.func 78), #[(.tmp 38), (.tmp 39)], #[100, 53]⟩, none)]
abbrev R52_9 : List SOp := [(some 41, .binOp .add 3 (.tmp 34) (.const (.int .i64 1)) 3, none),
  (some 34, .move (.tmp 41), none)]
def L52_0 : SCode := .seq (.reg R52_6) (.seq (.cond (.tmp 35) (.skip) (.exit 2)) (.seq (.block 3 (.seq (.reg R52_7) (.reg R52_8))) (.reg R52_9)))
abbrev R52_10 : List SOp := [(some 42, .fieldAddr 46 (.tmp 8) 0, none),
  (some 43, .load 43 (.tmp 42), none)]
abbrev R52_11 : List SOp := [(some 45, .binOp .eql 43 (.tmp 43) (.const (.int .i64 0)) 43, none),
  (some 44, .assign (.tmp 45), none)]
abbrev R52_12 : List (SOp × Nat) := [((some 47, .move (.tmp 0), none), 0),
  ((some 48, .nilCheck (.tmp 47), none), 0),
  ((some 49, .fieldAddr 102 (.tmp 48) 0, none), 0),
  ((some 50, .load 36 (.tmp 49), none), 0),
  ((some 51, .fieldAddr 46 (.tmp 8) 1, none), 0),
  ((some 52, .load 9 (.tmp 51), none), 0),
  ((some 53, .buildSlice 36 1 #[(0, (.tmp 52))], none), 0),
  ((some 54, .call ⟨.builtin .append, #[(.tmp 50), (.tmp 53)], #[36, 36]⟩, none), 0),
  ((some 46, .move (.tmp 0), none), 1),
  ((some 55, .nilCheck (.tmp 46), none), 0),
  ((some 56, .fieldAddr 102 (.tmp 55) 0, none), 0),
  ((none, .store 36 (.tmp 56) (.tmp 54), none), 0)]
abbrev R52_13 : List SOp := [(some 58, .binOp .eql 43 (.tmp 43) (.const (.int .i64 1)) 43, none),
  (some 57, .assign (.tmp 58), none)]
abbrev R52_14 : List SOp := [(some 59, .move (.tmp 0), none),
  (some 60, .fieldAddr 46 (.tmp 8) 1, none),
  (some 61, .load 9 (.tmp 60), none),
  (some 62, .call ⟨.value (.func 79), #[(.tmp 59), (.tmp 61)], #[100, 9]⟩, none)]
abbrev R52_15 : List SOp := [(some 64, .binOp .eql 43 (.tmp 43) (.const (.int .i64 7)) 43, none),
  (some 63, .assign (.tmp 64), none)]
abbrev R52_16 : List SOp := [(some 65, .move (.tmp 0), none),
  (some 66, .fieldAddr 46 (.tmp 8) 3, none),
  (some 67, .load 26 (.tmp 66), none),
  (some 68, .call ⟨.value (.func 52), #[(.tmp 65), (.tmp 67), (.const (.slice none 0 0))], #[100, 26, 36]⟩, none)]
abbrev R52_17 : List SOp := [(some 69, .move (.tmp 0), none),
  (some 70, .fieldAddr 46 (.tmp 8) 4, none),
  (some 71, .load 26 (.tmp 70), none),
  (some 72, .fieldAddr 46 (.tmp 8) 1, none),
  (some 73, .load 9 (.tmp 72), none),
  (some 74, .buildSlice 36 1 #[(0, (.tmp 73))], none),
  (some 75, .call ⟨.value (.func 52), #[(.tmp 69), (.tmp 71), (.tmp 74)], #[100, 26, 36]⟩, none)]
abbrev R52_18 : List SOp := [(some 76, .move (.tmp 0), none),
  (some 77, .fieldAddr 46 (.tmp 8) 3, none),
  (some 78, .load 26 (.tmp 77), none),
  (some 79, .call ⟨.value (.func 52), #[(.tmp 76), (.tmp 78), (.const (.slice none 0 0))], #[100, 26, 36]⟩, none)]
abbrev R52_19 : List SOp := [(some 80, .move (.tmp 0), none),
  (some 81, .fieldAddr 46 (.tmp 8) 4, none),
  (some 82, .load 26 (.tmp 81), none),
  (some 83, .call ⟨.value (.func 52), #[(.tmp 80), (.tmp 82), (.const (.slice none 0 0))], #[100, 26, 36]⟩, none)]
abbrev R52_20 : List SOp := [(some 84, .binOp .add 3 (.tmp 27) (.const (.int .i64 1)) 3, none),
  (some 27, .move (.tmp 84), none)]
def L52_1 : SCode := .seq (.reg R52_3) (.seq (.cond (.tmp 28) (.skip) (.exit 0)) (.seq (.block 1 (.seq (.reg R52_4) (.seq (.seq (.reg R52_5) (.block 2 (.loop L52_0))) (.seq (.seq (.reg R52_10) (.block 4 (.seq (.reg R52_11) (.cond (.tmp 44) (.dreg R52_12) (.seq (.reg R52_13) (.cond (.tmp 57) (.reg R52_14) (.seq (.reg R52_15) (.cond (.tmp 63) (.seq (.reg R52_16) (.seq (.reg R52_17) (.exit 1))) (.skip))))))))) (.seq (.reg R52_18) (.reg R52_19)))))) (.reg R52_20)))
abbrev R52_21 : List SOp := [(some 85, .move (.tmp 0), none),
  (some 86, .move (.tmp 0), none),
  (some 87, .nilCheck (.tmp 86), none),
  (some 88, .fieldAddr 102 (.tmp 87) 0, none),
  (some 89, .load 36 (.tmp 88), none),
  (some 90, .move (.tmp 6), none),
  (some 91, .slice 36 (.tmp 89) none (some (.tmp 90)) none, none),
  (some 92, .nilCheck (.tmp 85), none),
  (some 93, .fieldAddr 102 (.tmp 92) 0, none),
  (none, .store 36 (.tmp 93) (.tmp 91), none)]
abbrev S52 : SCode := .seq (.reg R52_0) (.seq (.reg R52_1) (.seq (.seq (.reg R52_2) (.block 0 (.loop L52_1))) (.reg R52_21)))
theorem slim52 : slimC tab 52 (Tryz.f52.body.getD .skip) = S52 := by kernel_rfl
theorem wf52 {xs : List V} {H : Hp} {Q : V → Hp → Prop} (h : WC tab S52 (frame xs 0 .nil) H (resQ tab [] Q)) : WF tab 52 xs H Q := WF.of_slim (T := tab) (f := 52) rfl fn52 rfl slim52 rfl h
/-! (*paling/scope.finder).expr -/
abbrev R78_0 : List SOp := [(some 3, .box 53 (.tmp 1), none)]
abbrev R78_1 : List SOp := [(some 8, .fieldAddr 53 (.tmp 3) 0, none),
  (some 9, .load 51 (.tmp 8), none)]
abbrev R78_2 : List SOp := [(some 11, .binOp .eql 51 (.tmp 9) (.const (.int .i64 5)) 51, none),
  (some 10, .assign (.tmp 11), none)]
abbrev R78_3 : List SOp := [(some 12, .move (.tmp 0), none),
  (some 13, .fieldAddr 53 (.tmp 3) 2, none),
  (some 14, .load 9 (.tmp 13), none),
  (some 15, .call ⟨.value (.func 79), #[(.tmp 12), (.tmp 14)], #[100, 9]⟩, none)]
abbrev R78_4 : List SOp := [(some 17, .binOp .eql 51 (.tmp 9) (.const (.int .i64 17)) 51, none),
  (some 16, .assign (.tmp 17), none)]
abbrev R78_5 : List SOp := [(some 18, .load 53 (.tmp 3), none),
  (some 19, .call ⟨.value (.func 32), #[(.tmp 18)], #[53]⟩, none),
  (some 20, .call ⟨.builtin .len, #[(.tmp 19)], #[36]⟩, none),
  (some 21, .move (.const (.int .i64 0)), none)]
abbrev R78_6 : List SOp := [(some 22, .binOp .lss 3 (.tmp 21) (.tmp 20) 3, none)]
abbrev R78_7 : List SOp := [(some 23, .indexAddr 36 (.tmp 19) (.tmp 21), none),
  (some 24, .load 9 (.tmp 23), none),
  (some 5, .assign (.tmp 24), none)]
abbrev R78_8 : List SOp := [(some 25, .move (.tmp 0), none),
  (some 26, .move (.tmp 5), none),
  (some 27, .call ⟨.value (.func 79), #[(.tmp 25), (.tmp 26)], #[100, 9]⟩, none)]
abbrev R78_9 : List SOp := [(some 28, .binOp .add 3 (.tmp 21) (.const (.int .i64 1)) 3, none),
  (some 21, .move (.tmp 28), none)]
def L78_0 : SCode := .seq (.reg R78_6) (.seq (.cond (.tmp 22) (.skip) (.exit 1)) (.seq (.block 2 (.seq (.reg R78_7) (.reg R78_8))) (.reg R78_9)))
abbrev R78_10 : List SOp := [(some 29, .fieldAddr 53 (.tmp 3) 3, none),
  (some 30, .load 44 (.tmp 29), none),
  (some 31, .call ⟨.builtin .len, #[(.tmp 30)], #[44]⟩, none),
  (some 32, .move (.const (.int .i64 0)), none)]
abbrev R78_11 : List SOp := [(some 33, .binOp .lss 3 (.tmp 32) (.tmp 31) 3, none)]
abbrev R78_12 : List SOp := [(some 34, .indexAddr 44 (.tmp 30) (.tmp 32), none),
  (some 35, .load 53 (.tmp 34), none),
  (some 7, .alloc 53, none),
  (none, .store 53 (.tmp 7) (.tmp 35), none)]
abbrev R78_13 : List SOp := [(some 36, .move (.tmp 0), none),
  (some 37, .load 53 (.tmp 7), none),
  (some 38, .call ⟨.value (.func 78), #[(.tmp 36), (.tmp 37)], #[100, 53]⟩, none)]
abbrev R78_14 : List SOp := [(some 39, .binOp .add 3 (.tmp 32) (.const (.int .i64 1)) 3, none),
  (some 32, .move (.tmp 39), none)]
def L78_1 : SCode := .seq (.reg R78_11) (.seq (.cond (.tmp 33) (.skip) (.exit 3)) (.seq (.block 4 (.seq (.reg R78_12) (.reg R78_13))) (.reg R78_14)))
abbrev S78 : SCode := .seq (.reg R78_0) (.seq (.seq (.reg R78_1) (.block 0 (.seq (.reg R78_2) (.cond (.tmp 10) (.reg R78_3) (.seq (.reg R78_4) (.cond (.tmp 16) (.seq (.reg R78_5) (.block 1 (.loop L78_0))) (.skip))))))) (.seq (.reg R78_10) (.block 3 (.loop L78_1))))
theorem slim78 : slimC tab 78 (Tryz.f78.body.getD .skip) = S78 := by kernel_rfl
theorem wf78 {xs : List V} {H : Hp} {Q : V → Hp → Prop} (h : WC tab S78 (frame xs 0 .nil) H (resQ tab [] Q)) : WF tab 78 xs H Q := WF.of_slim (T := tab) (f := 78) rfl fn78 rfl slim78 rfl h
/-! (*paling/scope.finder).see -/
abbrev R79_0 : List SOp := [(some 4, .move (.tmp 0), none),
  (some 5, .nilCheck (.tmp 4), none),
  (some 6, .fieldAddr 102 (.tmp 5) 0, none),
  (some 7, .load 36 (.tmp 6), none),
  (some 8, .move (.tmp 1), none),
  (some 9, .call ⟨.value (.func 23), #[(.tmp 7), (.tmp 8)], #[36, 9]⟩, none),
  (some 10, .unOp .not 4 (.tmp 9), none),
  (some 11, .move (.tmp 10), none),
  (some 12, .move (.tmp 0), some (some 11, true)),
  (some 13, .nilCheck (.tmp 12), some (some 11, true)),
  (some 14, .fieldAddr 102 (.tmp 13) 1, some (some 11, true)),
  (some 15, .load 36 (.tmp 14), some (some 11, true)),
  (some 16, .move (.tmp 1), some (some 11, true)),
  (some 17, .call ⟨.value (.func 23), #[(.tmp 15), (.tmp 16)], #[36, 9]⟩, some (some 11, true)),
  (some 18, .unOp .not 4 (.tmp 17), some (some 11, true)),
  (some 19, .pick (.tmp 11) (.tmp 18) (.const (.bool false)), none)]
abbrev R79_1 : List SOp := [(some 20, .move (.tmp 0), none),
  (some 21, .move (.tmp 0), none),
  (some 22, .nilCheck (.tmp 21), none),
  (some 23, .fieldAddr 102 (.tmp 22) 1, none),
  (some 24, .load 36 (.tmp 23), none),
  (some 25, .move (.tmp 1), none),
  (some 26, .buildSlice 36 1 #[(0, (.tmp 25))], none),
  (some 27, .call ⟨.builtin .append, #[(.tmp 24), (.tmp 26)], #[36, 36]⟩, none),
  (some 28, .nilCheck (.tmp 20), none),
  (some 29, .fieldAddr 102 (.tmp 28) 1, none),
  (none, .store 36 (.tmp 29) (.tmp 27), none)]
abbrev S79 : SCode := .seq (.reg R79_0) (.cond (.tmp 19) (.reg R79_1) (.skip))
theorem slim79 : slimC tab 79 (Tryz.f79.body.getD .skip) = S79 := by kernel_rfl
theorem wf79 {xs : List V} {H : Hp} {Q : V → Hp → Prop} (h : WC tab S79 (frame xs 0 .nil) H (resQ tab [] Q)) : WF tab 79 xs H Q := WF.of_slim (T := tab) (f := 79) rfl fn79 rfl slim79 rfl h
/-! paling/palinglaw08.Free -/
abbrev R33_0 : List SOp := [(some 1, .box 53 (.tmp 0), none),
  (some 2, .assign (.const (.slice none 0 0)), none)]
abbrev R33_1 : List SOp := [(some 3, .alloc 36, none)]
abbrev R33_2 : List SOp := [(some 4, .fieldAddr 53 (.tmp 1) 5, none),
  (some 5, .load 26 (.tmp 4), none),
  (some 6, .fieldAddr 53 (.tmp 1) 4, none),
  (some 7, .load 36 (.tmp 6), none),
  (some 8, .call ⟨.value (.func 53), #[(.tmp 5), (.tmp 7), (.tmp 3)], #[26, 36, 105]⟩, none)]
abbrev R33_3 : List SOp := [(some 9, .load 36 (.tmp 3), none),
  (some 2, .assign (.tmp 9), none)]
abbrev S33 : SCode := .seq (.reg R33_0) (.seq (.reg R33_1) (.seq (.reg R33_2) (.seq (.reg R33_3) (.ret))))
theorem slim33 : slimC tab 33 (Tryz.f33.body.getD .skip) = S33 := by kernel_rfl
theorem wf33 {xs : List V} {H : Hp} {Q : V → Hp → Prop} (h : WC tab S33 (frame xs 0 .nil) H (resQ tab [.tmp 2] Q)) : WF tab 33 xs H Q := WF.of_slim (T := tab) (f := 33) rfl fn33 rfl slim33 rfl h
/-! paling/palinglaw08.block -/
abbrev R53_0 : List SOp := [(some 11, .move (.tmp 1), none),
  (some 12, .call ⟨.value (.func 80), #[(.tmp 11)], #[36]⟩, none),
  (some 1, .assign (.tmp 12), none)]
abbrev R53_1 : List SOp := [(some 13, .move (.tmp 0), none),
  (some 14, .call ⟨.builtin .len, #[(.tmp 13)], #[26]⟩, none),
  (some 15, .move (.const (.int .i64 0)), none)]
abbrev R53_2 : List SOp := [(some 16, .binOp .lss 3 (.tmp 15) (.tmp 14) 3, none)]
abbrev R53_3 : List SOp := [(some 17, .indexAddr 26 (.tmp 13) (.tmp 15), none),
  (some 18, .load 46 (.tmp 17), none),
  (some 7, .alloc 46, none),
  (none, .store 46 (.tmp 7) (.tmp 18), none)]
abbrev R53_4 : List SOp := [(some 19, .fieldAddr 46 (.tmp 7) 2, none),
  (some 20, .load 44 (.tmp 19), none),
  (some 21, .call ⟨.builtin .len, #[(.tmp 20)], #[44]⟩, none),
  (some 22, .move (.const (.int .i64 0)), none)]
abbrev R53_5 : List SOp := [(some 23, .binOp .lss 3 (.tmp 22) (.tmp 21) 3, none)]
abbrev R53_6 : List SOp := [(some 24, .indexAddr 44 (.tmp 20) (.tmp 22), none),
  (some 25, .load 53 (.tmp 24), none),
  (some 9, .alloc 53, none),
  (none, .store 53 (.tmp 9) (.tmp 25), none)]
abbrev R53_7 : List SOp := [(some 26, .load 53 (.tmp 9), none),
  (some 27, .move (.tmp 1), none),
  (some 28, .move (.tmp 2), none),
  (some 29, .call ⟨.value (.func 81), #[(.tmp 26), (.tmp 27), (.tmp 28)], #[53, 36, 105]⟩, none)]
abbrev R53_8 : List SOp := [(some 30, .binOp .add 3 (.tmp 22) (.const (.int .i64 1)) 3, none),
  (some 22, .move (.tmp 30), none)]
def L53_0 : SCode := .seq (.reg R53_5) (.seq (.cond (.tmp 23) (.skip) (.exit 2)) (.seq (.block 3 (.seq (.reg R53_6) (.reg R53_7))) (.reg R53_8)))
abbrev R53_9 : List SOp := [(some 31, .fieldAddr 46 (.tmp 7) 0, none),
  (some 32, .load 43 (.tmp 31), none)]
abbrev R53_10 : List SOp := [(some 34, .binOp .eql 43 (.tmp 32) (.const (.int .i64 0)) 43, none),
  (some 33, .assign (.tmp 34), none)]
abbrev R53_11 : List SOp := [(some 35, .move (.tmp 1), none),
  (some 36, .fieldAddr 46 (.tmp 7) 1, none),
  (some 37, .load 9 (.tmp 36), none),
  (some 38, .buildSlice 36 1 #[(0, (.tmp 37))], none),
  (some 39, .call ⟨.builtin .append, #[(.tmp 35), (.tmp 38)], #[36, 36]⟩, none),
  (some 1, .assign (.tmp 39), none)]
abbrev R53_12 : List SOp := [(some 41, .binOp .eql 43 (.tmp 32) (.const (.int .i64 1)) 43, none),
  (some 40, .assign (.tmp 41), none)]
abbrev R53_13 : List SOp := [(some 42, .fieldAddr 46 (.tmp 7) 1, none),
  (some 43, .load 9 (.tmp 42), none),
  (some 44, .move (.tmp 1), none),
  (some 45, .move (.tmp 2), none),
  (some 46, .call ⟨.value (.func 82), #[(.tmp 43), (.tmp 44), (.tmp 45)], #[9, 36, 105]⟩, none)]
abbrev R53_14 : List SOp := [(some 47, .fieldAddr 46 (.tmp 7) 3, none),
  (some 48, .load 26 (.tmp 47), none),
  (some 49, .move (.tmp 1), none),
  (some 50, .move (.tmp 2), none),
  (some 51, .call ⟨.value (.func 53), #[(.tmp 48), (.tmp 49), (.tmp 50)], #[26, 36, 105]⟩, none)]
abbrev R53_15 : List SOp := [(some 52, .move (.tmp 1), none),
  (some 10, .assign (.tmp 52), none)]
abbrev R53_16 : List SOp := [(some 53, .fieldAddr 46 (.tmp 7) 0, none),
  (some 54, .load 43 (.tmp 53), none),
  (some 55, .binOp .eql 43 (.tmp 54) (.const (.int .i64 7)) 43, none)]
abbrev R53_17 : List (SOp × Nat) := [((some 56, .move (.tmp 1), none), 0),
  ((some 57, .call ⟨.value (.func 80), #[(.tmp 56)], #[36]⟩, none), 0),
  ((some 58, .fieldAddr 46 (.tmp 7) 1, none), 1),
  ((some 59, .load 9 (.tmp 58), none), 1),
  ((some 60, .buildSlice 36 1 #[(0, (.tmp 59))], none), 1),
  ((some 61, .call ⟨.builtin .append, #[(.tmp 57), (.tmp 60)], #[36, 36]⟩, none), 0),
  ((some 10, .assign (.tmp 61), none), 0)]
abbrev R53_18 : List SOp := [(some 62, .fieldAddr 46 (.tmp 7) 4, none),
  (some 63, .load 26 (.tmp 62), none),
  (some 64, .move (.tmp 10), none),
  (some 65, .move (.tmp 2), none),
  (some 66, .call ⟨.value (.func 53), #[(.tmp 63), (.tmp 64), (.tmp 65)], #[26, 36, 105]⟩, none)]
abbrev R53_19 : List SOp := [(some 67, .binOp .add 3 (.tmp 15) (.const (.int .i64 1)) 3, none),
  (some 15, .move (.tmp 67), none)]
def L53_1 : SCode := .seq (.reg R53_2) (.seq (.cond (.tmp 16) (.skip) (.exit 0)) (.seq (.block 1 (.seq (.reg R53_3) (.seq (.seq (.reg R53_4) (.block 2 (.loop L53_0))) (.seq (.seq (.reg R53_9) (.block 4 (.seq (.reg R53_10) (.cond (.tmp 33) (.reg R53_11) (.seq (.reg R53_12) (.cond (.tmp 40) (.reg R53_13) (.skip))))))) (.seq (.reg R53_14) (.seq (.reg R53_15) (.seq (.seq (.reg R53_16) (.cond (.tmp 55) (.dreg R53_17) (.skip))) (.reg R53_18)))))))) (.reg R53_19)))
abbrev S53 : SCode := .seq (.reg R53_0) (.seq (.reg R53_1) (.block 0 (.loop L53_1)))
theorem slim53 : slimC tab 53 (Tryz.f53.body.getD .skip) = S53 := by kernel_rfl
theorem wf53 {xs : List V} {H : Hp} {Q : V → Hp → Prop} (h : WC tab S53 (frame xs 0 .nil) H (resQ tab [] Q)) : WF tab 53 xs H Q := WF.of_slim (T := tab) (f := 53) rfl fn53 rfl slim53 rfl h
/-! paling/palinglaw08.expr -/
abbrev R81_0 : List SOp := [(some 3, .box 53 (.tmp 0), none)]
abbrev R81_1 : List SOp := [(some 10, .fieldAddr 53 (.tmp 3) 0, none),
  (some 11, .load 51 (.tmp 10), none),
  (some 12, .binOp .eql 51 (.tmp 11) (.const (.int .i64 5)) 51, none)]
abbrev R81_2 : List SOp := [(some 13, .fieldAddr 53 (.tmp 3) 2, none),
  (some 14, .load 9 (.tmp 13), none),
  (some 15, .move (.tmp 1), none),
  (some 16, .move (.tmp 2), none),
  (some 17, .call ⟨.value (.func 82), #[(.tmp 14), (.tmp 15), (.tmp 16)], #[9, 36, 105]⟩, none)]
abbrev R81_3 : List SOp := [(some 18, .fieldAddr 53 (.tmp 3) 0, none),
  (some 19, .load 51 (.tmp 18), none),
  (some 20, .binOp .eql 51 (.tmp 19) (.const (.int .i64 17)) 51, none)]
abbrev R81_4 : List SOp := [(some 21, .load 53 (.tmp 3), none),
  (some 22, .call ⟨.value (.func 33), #[(.tmp 21)], #[53]⟩, none),
  (some 23, .call ⟨.builtin .len, #[(.tmp 22)], #[36]⟩, none),
  (some 24, .move (.const (.int .i64 0)), none)]
abbrev R81_5 : List SOp := [(some 25, .binOp .lss 3 (.tmp 24) (.tmp 23) 3, none)]
abbrev R81_6 : List SOp := [(some 26, .indexAddr 36 (.tmp 22) (.tmp 24), none),
  (some 27, .load 9 (.tmp 26), none),
  (some 7, .assign (.tmp 27), none)]
abbrev R81_7 : List SOp := [(some 28, .move (.tmp 7), none),
  (some 29, .move (.tmp 1), none),
  (some 30, .move (.tmp 2), none),
  (some 31, .call ⟨.value (.func 82), #[(.tmp 28), (.tmp 29), (.tmp 30)], #[9, 36, 105]⟩, none)]
abbrev R81_8 : List SOp := [(some 32, .binOp .add 3 (.tmp 24) (.const (.int .i64 1)) 3, none),
  (some 24, .move (.tmp 32), none)]
def L81_0 : SCode := .seq (.reg R81_5) (.seq (.cond (.tmp 25) (.skip) (.exit 0)) (.seq (.block 1 (.seq (.reg R81_6) (.reg R81_7))) (.reg R81_8)))
abbrev R81_9 : List SOp := [(some 33, .fieldAddr 53 (.tmp 3) 3, none),
  (some 34, .load 44 (.tmp 33), none),
  (some 35, .call ⟨.builtin .len, #[(.tmp 34)], #[44]⟩, none),
  (some 36, .move (.const (.int .i64 0)), none)]
abbrev R81_10 : List SOp := [(some 37, .binOp .lss 3 (.tmp 36) (.tmp 35) 3, none)]
abbrev R81_11 : List SOp := [(some 38, .indexAddr 44 (.tmp 34) (.tmp 36), none),
  (some 39, .load 53 (.tmp 38), none),
  (some 9, .alloc 53, none),
  (none, .store 53 (.tmp 9) (.tmp 39), none)]
abbrev R81_12 : List SOp := [(some 40, .load 53 (.tmp 9), none),
  (some 41, .move (.tmp 1), none),
  (some 42, .move (.tmp 2), none),
  (some 43, .call ⟨.value (.func 81), #[(.tmp 40), (.tmp 41), (.tmp 42)], #[53, 36, 105]⟩, none)]
abbrev R81_13 : List SOp := [(some 44, .binOp .add 3 (.tmp 36) (.const (.int .i64 1)) 3, none),
  (some 36, .move (.tmp 44), none)]
def L81_1 : SCode := .seq (.reg R81_10) (.seq (.cond (.tmp 37) (.skip) (.exit 2)) (.seq (.block 3 (.seq (.reg R81_11) (.reg R81_12))) (.reg R81_13)))
abbrev S81 : SCode := .seq (.reg R81_0) (.seq (.seq (.reg R81_1) (.cond (.tmp 12) (.reg R81_2) (.skip))) (.seq (.seq (.reg R81_3) (.cond (.tmp 20) (.seq (.reg R81_4) (.block 0 (.loop L81_0))) (.skip))) (.seq (.reg R81_9) (.block 2 (.loop L81_1)))))
theorem slim81 : slimC tab 81 (Tryz.f81.body.getD .skip) = S81 := by kernel_rfl
theorem wf81 {xs : List V} {H : Hp} {Q : V → Hp → Prop} (h : WC tab S81 (frame xs 0 .nil) H (resQ tab [] Q)) : WF tab 81 xs H Q := WF.of_slim (T := tab) (f := 81) rfl fn81 rfl slim81 rfl h
/-! paling/palinglaw08.use -/
abbrev R82_0 : List SOp := [(some 6, .move (.tmp 1), none),
  (some 7, .move (.tmp 0), none),
  (some 8, .call ⟨.value (.func 23), #[(.tmp 6), (.tmp 7)], #[36, 9]⟩, none),
  (some 9, .unOp .not 4 (.tmp 8), none),
  (some 10, .move (.tmp 9), none),
  (some 11, .move (.tmp 2), some (some 10, true)),
  (some 12, .nilCheck (.tmp 11), some (some 10, true)),
  (some 13, .load 36 (.tmp 12), some (some 10, true)),
  (some 14, .move (.tmp 0), some (some 10, true)),
  (some 15, .call ⟨.value (.func 23), #[(.tmp 13), (.tmp 14)], #[36, 9]⟩, some (some 10, true)),
  (some 16, .unOp .not 4 (.tmp 15), some (some 10, true)),
  (some 17, .pick (.tmp 10) (.tmp 16) (.const (.bool false)), none)]
abbrev R82_1 : List SOp := [(some 18, .move (.tmp 2), none),
  (some 19, .move (.tmp 2), none),
  (some 20, .nilCheck (.tmp 19), none),
  (some 21, .load 36 (.tmp 20), none),
  (some 22, .move (.tmp 0), none),
  (some 23, .buildSlice 36 1 #[(0, (.tmp 22))], none),
  (some 24, .call ⟨.builtin .append, #[(.tmp 21), (.tmp 23)], #[36, 36]⟩, none),
  (some 25, .nilCheck (.tmp 18), none),
  (none, .store 36 (.tmp 25) (.tmp 24), none)]
abbrev S82 : SCode := .seq (.reg R82_0) (.cond (.tmp 17) (.reg R82_1) (.skip))
theorem slim82 : slimC tab 82 (Tryz.f82.body.getD .skip) = S82 := by kernel_rfl
theorem wf82 {xs : List V} {H : Hp} {Q : V → Hp → Prop} (h : WC tab S82 (frame xs 0 .nil) H (resQ tab [] Q)) : WF tab 82 xs H Q := WF.of_slim (T := tab) (f := 82) rfl fn82 rfl slim82 rfl h
end Go.AM.YtkmkkgfdobaplaaGreatDoorT
/- What simp opens in the walks of this seat: printed by genset.py. -/
namespace Go.AM.YtkmkkgfdobaplaaGreatDoorT
open Go Go.AM
attribute [simp] wp_skip wp_reg wp_dreg wp_seq wp_cond wp_block wp_loop wp_exit wp_ret wpL_nil wpL_cons wpD_nil wpD_cons sq_nrm sq_exit sq_ret nm_ap bl_nrm bl_ret bl_exit cd_true cd_false lp_nrm lp_exit lp_ret rs_ret rs_nrm rsQ contL contD kV kAW kA kW kC kCo wantQ oq_p oq_r oq_w oq_c oq_alloc oq_box oq_bs oq_mm oq_ms oq_cv dV dAW dA dW dC dCo isCall skD od_p od_r od_w od_c od_alloc od_box od_bs od_mm od_ms od_cv wantDQ wantS kind convKd lenV_sl lenV_nils lenV_sle lenV_str evP evR evA evW evAW descOf frame opd opds Tr.get_set putD delD resOf getAll kbOk afterA isPt winOk ofVal ofVal0 ofVals binInt binStr binE_int binE_str binE_shl binE_shr binE_eql_agg binE_neq_agg binE_eql_bool binE_neq_bool binE_eql_pn binE_neq_pn binE_eql_nn binE_neq_nn binE_eql_in binE_neq_in binE_eql_ii binE_neq_ii isBoolD isPtrD isIfD isMpD isSlD isC cells_agg cells_bool one_bool cells_int one_int cells_str one_str cells_nilp one_nilp cells_ptr one_ptr cells_nils one_nils cells_sle one_sle cells_sl one_sl cells_nilm one_nilm cells_mp one_mp cells_nilf one_nilf cells_fn one_fn cells_nili one_nili cells_ifc one_ifc isAgg isMapT optI partV zeroV keyOk keyOk1 keyOkS keyOkL eqS sameL same1 sameK esOf partsV fillV placesV setCells mapKeyOk Hp.get_flush Hp.stale_flush Hp.next_flush repl List.nil_append get_new_self get_put_self get_bump next_bump st_new st_put st_bump Hp.next_new Hp.next_put flush_of IntKind.bits tab_ng nna1 nnb1 nna2 nnb2 nna3 nnb3 nna4 nnb4 nna5 nnb5 nna6 nnb6 nna7 nnb7 nna8 nnb8
attribute [simp] ty1 ty2 ty3 ty4 ty5 ty6 ty7 ty8 ty9 ty10 ty11 ty12 ty13 ty14 ty15 ty16 ty17 ty18 ty19 ty20 ty21 ty22 ty23 ty24 ty25 ty26 ty27 ty28 ty29 ty31 ty32 ty33 ty34 ty35 ty36 ty37 ty38 ty39 ty40 ty41 ty42 ty43 ty44 ty45 ty46 ty47 ty48 ty49 ty50 ty51 ty52 ty53 ty54 ty55 ty56 ty57 ty58 ty59 ty60 ty61 ty62 ty63 ty64 ty65 ty66 ty67 ty68 ty69 ty70 ty71 ty72 ty73 ty74 ty75 ty76 ty77 ty78 ty79 ty80 ty81 ty82 ty83 ty85 ty86 ty87 ty89 ty90 ty91 ty92 ty93 ty94 ty95 ty96 ty97 ty98 ty99 ty100 ty101 ty102 ty103 ty104 ty105 ty106 ty107 ty108 ty109 ty110 ty111 ty112 ty114 ty115 ty116 ty117 ty118 ty119 ty120 ty121 ty122 ty123 ty125 ty127 ty128 ty129 ty130 ty131 ty132 ty133 ty134 ty135 ty136 ty137 ty138 ty139 ty140 ty141 ty142 ty143 ty144 ty145 ty146 ty147 ty148 ty149 ty150 ty151 ty152 ty154 ty155 ty156 ty157 ty158 ty159 ty160 ty162 ty163 ty164 ty165 ty166 ty167 ty168 ty169 ty170 ty171 ty172 ty173 ty174 ty175 ty176 ty178 ty179 ty180 ty181 ty182 ty183 ty185 ty186 ty188 ty189 ty190 ty191 ty192 ty193 ty194 ty196 ty197 ty198 ty199 ty200 ty201 ty202 ty203 ty204 ty205 ty206 ty207 ty208 ty209 ty210 ty211 ty212 ty214 ty215 ty216 ty217 ty218 ty219 ty220 ty221 ty222 ty223 ty224 ty225 ty226 ty227 ty228 ty229 ty230 ty231 ty233 ty234 ty235 ty236 ty237 ty238 ty239 ty240 ty241 ty242 ty243 ty244 ty245 ty246 ty247 ty248 ty249 ty250 ty251 ty252 ty253 ty255 ty256 ty257 ty259 ty260 ty261 ty262 ty263 ty264 ty265 ty266 ty268 ty269 ty270 ty271 ty272 ty273 ty274 ty275 ty276 ty277 ty278 ty279 ty280 ty281 ty282
end Go.AM.YtkmkkgfdobaplaaGreatDoorT
/- Names that are used: the library's small functions. -/
set_option linter.unusedVariables false
set_option linter.unusedSimpArgs false
set_option maxRecDepth 100000
namespace Go.AM.YtkmkkgfdobaplaaGreatDoorT
open Go Go.AM Go.Proofs
theorem StrsAt.at_ {K : Nat → Prop} {H : Hp} {l : Ts} {v : V} (h : StrsAt K H l v) {i : Nat} (hi : i < l.length) : ∃ b off cap e ro cells, v = .sl b off l.length cap 1 ∧ H.get b = some (.row e 1 ro cells) ∧ K b ∧ b < H.next ∧ off + l.length ≤ cells.length ∧ cells[off + i]? = some (.str l[i]) := by
  obtain ⟨b, off, cap, e, ro, cells, h1, h2, h3, h4, h5, h6, h7⟩ := h.row hi
  refine ⟨b, off, cap, e, ro, cells, h1, h2, h3, h4, by omega, ?_⟩
  have := congrArg (fun x => x[i]?) h7
  simp only [List.getElem?_take, hi, if_true, List.getElem?_drop, List.getElem?_map, List.getElem?_eq_getElem hi, Option.map_some] at this
  exact this
theorem index_ok {K : Nat → Prop} {H : Hp} {l : Ts} {v : V} {name : List UInt8} (hst : H.stale = []) (h : StrsAt K H l v) (hl : l.length ≤ 1099511627776) : WF tab 29 [v, .str name] H fun w H' => H' = H ∧ ∃ k : Int, w = .int .i64 k ∧ (0 ≤ k ↔ name ∈ l) := by
  refine wf29 (wp_sound _ ?_)
  have h1 := h.len 9
  have h2 := h.one; have h3 := h.cells
  simp [hst, h1, h2, h3]
  refine loop_of (fun k F H' => ∃ i, i + k = l.length ∧ H' = H ∧ name ∉ l.take i ∧ F.get 0 = some v ∧ F.get 1 = some (.str name) ∧ F.get 7 = some (.int .i64 l.length) ∧ F.get 8 = some (.int .i64 i)) (m := l.length) ⟨0, by omega, rfl, by simp, by simp, by simp, by simp, by simp⟩ ?_
  rintro k F _ ⟨i, hi, rfl, hn, f0, f1, f7, f8⟩
  by_cases hlt : i < l.length
  · have hlt' : (i : Int) < (l.length : Int) := by omega
    obtain ⟨b, off, cap, e, ro, cells, rfl, g1, g2, g3, g4, g5⟩ := StrsAt.at_ h hlt
    have hw : wr .i64 ((i : Int) + 1) = ((i + 1 : Nat) : Int) := by rw [wr_i64 (by omega) (by omega)]; omega
    by_cases he : name = l[i]
    · simp [L29_0, f0, f1, f7, f8, hst, hlt, hlt', g1, g5, ← he]
      rw [he]; exact List.getElem_mem hlt
    · have he' : (name == l[i]) = false := beq_false_of_ne he
      simp [L29_0, f0, f1, f7, f8, hst, hlt, hlt', g1, g5, he', hw]
      have hn1 : name ∉ l.take (i + 1) := by
        intro h
        rw [List.take_succ_eq_append_getElem hlt] at h
        rcases List.mem_append.1 h with h | h
        · exact hn h
        · exact he (List.mem_singleton.1 h)
      exact ⟨k - 1, by omega, i + 1, by omega, hn1, by omega⟩
  · have hlt' : ¬ (i : Int) < (l.length : Int) := by omega
    rw [List.take_of_length_le (by omega)] at hn
    simp [L29_0, f0, f1, f7, f8, hst, hlt, hlt', hn]
theorem contains_ok {K : Nat → Prop} {H : Hp} {l : Ts} {v : V} {name : List UInt8} (hst : H.stale = []) (h : StrsAt K H l v) (hl : l.length ≤ 1099511627776) : WF tab 23 [v, .str name] H fun w H' => H' = H ∧ w = .bool (decide (name ∈ l)) := by
  refine wf23 (wp_sound _ ?_)
  have h2 := h.one; have h3 := h.cells
  simp [hst, h2, h3]
  refine (index_ok hst h hl).mono ?_
  rintro w H' ⟨rfl, k, rfl, hk⟩
  simp [hst, hk]
end Go.AM.YtkmkkgfdobaplaaGreatDoorT
/- Names that are used: one's own, and what is used, in a row. -/
set_option linter.unusedVariables false
set_option linter.unusedSimpArgs false
set_option maxRecDepth 100000
namespace Go.AM.YtkmkkgfdobaplaaGreatDoorT
open Go Go.AM Go.Proofs
/-- The finder: what is one's own, what is used. -/
structure FinAt (H : Hp) (fr : Nat) (own out : Ts) (vo vs : V) : Prop where
  row : H.get fr = some (.row 102 2 false [vo, vs])
  lt : fr < H.next
  so : SlAt H 9 1 vo own.length (own.map .str)
  ss : SlAt H 9 1 vs out.length (out.map .str)
  ro : ∀ b ∈ rowsOf vo, b < H.next ∧ b ≠ fr ∧ b ∉ rowsOf vs
  rs : ∀ b ∈ rowsOf vs, b < H.next ∧ b ≠ fr
/-- What has become of the rows: the finder's, and all others. -/
structure FKeep (H : Hp) (fr : Nat) (vo vs : V) (H' : Hp) (vo' vs' : V) : Prop where
  st : H'.stale = []
  le : H.next ≤ H'.next
  get : ∀ b, b < H.next → b ≠ fr → b ∉ rowsOf vo → b ∉ rowsOf vs → H'.get b = H.get b
  own : ∀ b, b ∈ rowsOf vo' ∨ b ∈ rowsOf vs' → b ∈ rowsOf vo ∨ b ∈ rowsOf vs ∨ H.next ≤ b
theorem FKeep.refl {H : Hp} {fr : Nat} {vo vs : V} (h : H.stale = []) : FKeep H fr vo vs H vo vs := ⟨h, Nat.le_refl _, fun _ _ _ _ _ => rfl, fun b h => h.elim .inl fun h => .inr (.inl h)⟩
theorem FKeep.trans {H H1 H2 : Hp} {fr : Nat} {vo vs vo1 vs1 vo2 vs2 : V} (h : FKeep H fr vo vs H1 vo1 vs1) (h' : FKeep H1 fr vo1 vs1 H2 vo2 vs2) : FKeep H fr vo vs H2 vo2 vs2 := by
  have h1 := h.le; have h2 := h'.le
  refine ⟨h'.st, by omega, fun b hb hf ho hs => ?_, fun b hb => ?_⟩
  · rw [h'.get b (by omega) hf (fun hx => ?_) (fun hx => ?_)]
    · exact h.get b hb hf ho hs
    · rcases h.own b (.inl hx) with g | g | g
      · exact ho g
      · exact hs g
      · omega
    · rcases h.own b (.inr hx) with g | g | g
      · exact ho g
      · exact hs g
      · omega
  · rcases h'.own b hb with g | g | g
    · exact h.own b (.inl g)
    · exact h.own b (.inr g)
    · exact .inr (.inr (by omega))
theorem FinAt.bump {H : Hp} {fr : Nat} {own out : Ts} {vo vs : V} (h : FinAt H fr own out vo vs) : FinAt H.bump fr own out vo vs :=
  ⟨h.row, Nat.lt_succ_of_lt h.lt, h.so.of_get fun _ _ => rfl, h.ss.of_get fun _ _ => rfl, fun b hb => ⟨Nat.lt_succ_of_lt (h.ro b hb).1, (h.ro b hb).2⟩, fun b hb => ⟨Nat.lt_succ_of_lt (h.rs b hb).1, (h.rs b hb).2⟩⟩
theorem FinAt.keep {H H' : Hp} {fr : Nat} {own out : Ts} {vo vs : V} (h : FinAt H fr own out vo vs) (hle : H.next ≤ H'.next) (hg : ∀ b, b < H.next → H'.get b = H.get b) : FinAt H' fr own out vo vs :=
  ⟨by rw [hg fr h.lt]; exact h.row, Nat.lt_of_lt_of_le h.lt hle, h.so.of_get fun b hb => hg b (h.ro b hb).1, h.ss.of_get fun b hb => hg b (h.rs b hb).1, fun b hb => ⟨Nat.lt_of_lt_of_le (h.ro b hb).1 hle, (h.ro b hb).2⟩, fun b hb => ⟨Nat.lt_of_lt_of_le (h.rs b hb).1 hle, (h.rs b hb).2⟩⟩
theorem sl_strs {H : Hp} {v : V} {l : Ts} (h : SlAt H 9 1 v l.length (l.map .str)) (hb : ∀ b ∈ rowsOf v, b < H.next) : StrsAt (fun _ => True) H l v := StrsAt.of_slAt h (fun b hb' => ⟨trivial, hb b hb'⟩) rfl
theorem FinAt.app_s {H H3 H4 : Hp} {fr : Nat} {own out ns : Ts} {vo vs v' : V} {k : Nat} (hF : FinAt H fr own out vo vs) (hst : H.stale = []) (hS : SlAt H3 9 1 v' (out.length + k) (out.map .str ++ ns.map .str)) (hk : ns.length = k) (hA : AppR H vs H3 v') (hs4 : H4.stale = []) (hn4 : H3.next ≤ H4.next) (hr4 : H4.get fr = some (.row 102 2 false [vo, v'])) (hg : ∀ b, b ≠ fr → H4.get b = H3.flush.get b) :
    FinAt H4 fr own (out ++ ns) vo v' ∧ FKeep H fr vo vs H4 vo v' := by
  obtain ⟨k1, k2, k3, k4, k5⟩ := app_flush' hst hS hA
  rw [Hp.next_flush] at k4 k5
  have hlt := hF.lt
  have hn : ∀ b ∈ rowsOf v', b < H4.next ∧ b ≠ fr := fun b hb => by
    obtain ⟨g1, g2⟩ := k5 b hb
    refine ⟨by omega, ?_⟩
    rcases g2 with g2 | g2
    · exact (hF.rs b g2).2
    · omega
  have ko : ∀ b ∈ rowsOf vo, H4.get b = H.get b := fun b hb => by
    have := hF.ro b hb
    rw [hg b this.2.1, k2 b this.1 this.2.2]
  refine ⟨⟨hr4, by omega, hF.so.of_get ko, ?_, fun b hb => ?_, hn⟩, ⟨hs4, by omega, fun b hb hf ho hs => by rw [hg b hf, k2 b hb hs], fun b hb => ?_⟩⟩
  · rw [List.length_append, List.map_append, hk]
    exact k1.of_get fun b hb => hg b (hn b hb).2
  · have := hF.ro b hb
    refine ⟨by omega, this.2.1, fun h => ?_⟩
    rcases (k5 b h).2 with g | g
    · exact this.2.2 g
    · omega
  · rcases hb with h | h
    · exact .inl h
    · exact .inr (k5 b h).2
theorem FinAt.app_o {H H3 H4 : Hp} {fr : Nat} {own out ns : Ts} {vo vs v' : V} {k : Nat} (hF : FinAt H fr own out vo vs) (hst : H.stale = []) (hS : SlAt H3 9 1 v' (own.length + k) (own.map .str ++ ns.map .str)) (hk : ns.length = k) (hA : AppR H vo H3 v') (hs4 : H4.stale = []) (hn4 : H3.next ≤ H4.next) (hr4 : H4.get fr = some (.row 102 2 false [v', vs])) (hg : ∀ b, b ≠ fr → H4.get b = H3.flush.get b) :
    FinAt H4 fr (own ++ ns) out v' vs ∧ FKeep H fr vo vs H4 v' vs := by
  obtain ⟨k1, k2, k3, k4, k5⟩ := app_flush' hst hS hA
  rw [Hp.next_flush] at k4 k5
  have hlt := hF.lt
  have hn : ∀ b ∈ rowsOf v', b < H4.next ∧ b ≠ fr ∧ b ∉ rowsOf vs := fun b hb => by
    obtain ⟨g1, g2⟩ := k5 b hb
    rcases g2 with g2 | g2
    · exact ⟨by omega, (hF.ro b g2).2⟩
    · exact ⟨by omega, by omega, fun h => by have := (hF.rs b h).1; omega⟩
  have hso : ∀ b ∈ rowsOf vs, b ∉ rowsOf vo := fun b hb h => (hF.ro b h).2.2 hb
  have ks : ∀ b ∈ rowsOf vs, H4.get b = H.get b := fun b hb => by
    have := hF.rs b hb
    rw [hg b this.2, k2 b this.1 (hso b hb)]
  refine ⟨⟨hr4, by omega, ?_, hF.ss.of_get ks, hn, fun b hb => ⟨by have := (hF.rs b hb).1; omega, (hF.rs b hb).2⟩⟩, ⟨hs4, by omega, fun b hb hf ho hs => by rw [hg b hf, k2 b hb ho], fun b hb => ?_⟩⟩
  · rw [List.length_append, List.map_append, hk]
    exact k1.of_get fun b hb => hg b (hn b hb).2.1
  · rcases hb with h | h
    · rcases (k5 b h).2 with g | g
      · exact .inl g
      · exact .inr (.inr g)
    · exact .inr (.inl h)
theorem see_ok {H : Hp} {fr : Nat} {own out : Ts} {vo vs : V} {name : List UInt8} (hst : H.stale = []) (hF : FinAt H fr own out vo vs) (hl : own.length ≤ 1099511627776) (hl' : out.length ≤ 1099511627776) : WF tab 79 [.ptr fr 0, .str name] H fun _ H' => ∃ vs', FinAt H' fr own (useP own out name) vo vs' ∧ FKeep H fr vo vs H' vo vs' := by
  refine wf79 (wp_sound _ ?_)
  have hrow := hF.row
  have c1 := hF.so.one; have c2 := hF.so.cells; have c3 := hF.ss.one; have c4 := hF.ss.cells
  simp [hst, hrow]
  refine (contains_ok hst (sl_strs hF.so fun b hb => (hF.ro b hb).1) hl).mono ?_
  rintro w H1 ⟨hH1, rfl⟩
  have hH2 := hH1.symm
  subst hH2
  by_cases ho : name ∈ own
  · simp [ho, hst, hrow]
    rw [show useP own out name = out by simp [useP, ho]]
    exact ⟨vs, hF, FKeep.refl hst⟩
  · simp [ho, hst, hrow]
    refine (contains_ok hst (sl_strs hF.ss fun b hb => (hF.rs b hb).1) hl').mono ?_
    rintro w H1 ⟨hH1, rfl⟩
    have hH2 := hH1.symm
    subst hH2
    by_cases hs : name ∈ out
    · simp [hs, hst]
      rw [show useP own out name = out by simp [useP, hs]]
      exact ⟨vs, hF, FKeep.refl hst⟩
    · simp [hs, hst, hrow]
      have hlt := hF.lt
      have hu : useP own out name = out ++ [name] := by simp [useP, ho, hs]
      refine wpL_app1 (H := H) (e0 := 9) (cells := [.str name]) (by simp [descOf]) ty9 (by decide) (by simp) (by simp) hF.ss (fun b hb => ⟨(hF.rs b hb).1, by simp [hst]⟩) rfl (by show (out.length + 1) * 16 ≤ _; omega) (by omega) (by simp [hst]) fun v' H3 hS hA => ?_
      obtain ⟨k1, k2⟩ := hA.keep fr hlt (fun h => (hF.rs fr h).2 rfl) (by simp [hst])
      have c5 := hS.one; have c6 := hS.cells
      simp [k1, k2, hrow, c1, c5, c6]
      rw [hu]
      exact ⟨v', hF.app_s (ns := [name]) (H3 := H3) (k := 1) hst hS rfl hA (by simp) (by simp) (by simp [Hp.get_put]) (fun b hb => by simp [Hp.get_put, two_ne hb])⟩
end Go.AM.YtkmkkgfdobaplaaGreatDoorT
/- Names that are used: the finder's walk. -/
set_option linter.unusedVariables false
set_option linter.unusedSimpArgs false
set_option maxRecDepth 100000
namespace Go.AM.YtkmkkgfdobaplaaGreatDoorT
open Go Go.AM Go.Proofs
/-- Rows of trees: none of the finder's. -/
def Dj (K : Nat → Prop) (H : Hp) (fr : Nat) (vo vs : V) : Prop := ∀ b, K b → b < H.next ∧ b ≠ fr ∧ b ∉ rowsOf vo ∧ b ∉ rowsOf vs
section
variable {K : Nat → Prop} {H H' : Hp} {fr : Nat} {vo vs vo' vs' : V}
theorem Dj.keep (h : Dj K H fr vo vs) (hk : FKeep H fr vo vs H' vo' vs') : Dj K H' fr vo' vs' := fun b hb => by
  obtain ⟨h1, h2, h3, h4⟩ := h b hb
  have := hk.le
  refine ⟨by omega, h2, fun hx => ?_, fun hx => ?_⟩
  · rcases hk.own b (.inl hx) with g | g | g
    · exact h3 g
    · exact h4 g
    · omega
  · rcases hk.own b (.inr hx) with g | g | g
    · exact h3 g
    · exact h4 g
    · omega
theorem Dj.stays (h : Dj K H fr vo vs) (hk : FKeep H fr vo vs H' vo' vs') : Stays K K H H' := ⟨fun b hb _ => hb, fun b hb hx => hk.get b hx (h b hb).2.1 (h b hb).2.2.1 (h b hb).2.2.2, hk.le⟩
theorem FKeep.news (hs : H'.stale = []) (hl : H.next ≤ H'.next) (hg : ∀ b, b < H.next → H'.get b = H.get b) : FKeep H fr vo vs H' vo vs :=
  ⟨hs, hl, fun b hb _ _ _ => hg b hb, fun b hb => hb.elim .inl fun h => .inr (.inl h)⟩
end
/-- The finder's functions: what they come to. -/
def ExF (e : Tx) : Prop := ∀ (H : Hp) (fr : Nat) (own out : Ts) (vo vs : V) (cs : List V) (K : Nat → Prop), H.stale = [] → FinAt H fr own out vo vs → ExpAt K H e cs → Dj K H fr vo vs → own.length + out.length + e.wt ≤ 1099511627776 →
  WF tab 78 [.ptr fr 0, .agg cs] H fun _ H' => ∃ vs', FinAt H' fr own (freeE e own out) vo vs' ∧ FKeep H fr vo vs H' vo vs'
def BlF (l : List Tx) : Prop := ∀ (H : Hp) (fr : Nat) (own params out : Ts) (vo vs v va : V) (K : Nat → Prop), H.stale = [] → FinAt H fr own out vo vs → TreesAt K H l v → StrsAt K H params va → Dj K H fr vo vs → own.length + params.length + out.length + wts l ≤ 1099511627776 →
  WF tab 52 [.ptr fr 0, v, va] H fun _ H' => ∃ vo' vs', FinAt H' fr own (freeB l (own ++ params) out) vo' vs' ∧ FKeep H fr vo vs H' vo' vs'
/-- Where an element of trees lies. -/
theorem TreesAt.at_ {K : Nat → Prop} {H : Hp} {l : List Tx} {v : V} (h : TreesAt K H l v) {i : Nat} (hi : i < l.length) : ∃ b off cap e ro cells d0 d1 d2 d3 d4 d5, v = .sl b off l.length cap 6 ∧ H.get b = some (.row e 6 ro cells) ∧ K b ∧ b < H.next ∧ off % 6 = 0 ∧ off + l.length * 6 ≤ cells.length ∧ (cells.drop (off + i * 6)).take 6 = [d0, d1, d2, d3, d4, d5] ∧ ExpAt K H l[i] [d0, d1, d2, d3, d4, d5] ∧
    oneV d0 = true ∧ oneV d1 = true ∧ oneV d2 = true ∧ oneV d3 = true ∧ oneV d4 = true ∧ oneV d5 = true := by
  obtain ⟨b, off, cap, e, ro, cells, h1, h2, h3, h4, h5, h6, h7⟩ := h.row hi
  have := ElsAt.at_ l _ i hi h7
  rw [List.drop_drop] at this
  obtain ⟨d0, d1, d2, d3, d4, d5, e1, e2⟩ := this.six
  rw [e1] at this
  exact ⟨b, off, cap, e, ro, cells, d0, d1, d2, d3, d4, d5, h1, h2, h3, h4, h5, h6, e1, this, e2⟩
structure J78 (H0 : Hp) (fr : Nat) (own out : Ts) (vo vs0 v : V) (parts : List Tx) (i : Nat) (vs : V) (F : Fr) (H : Hp) : Prop where
  le : i ≤ parts.length
  fin : FinAt H fr own (freeEs (parts.take i) own out) vo vs
  keep : FKeep H0 fr vo vs0 H vo vs
  f0 : F.get 0 = some (.ptr fr 0)
  f30 : F.get 30 = some v
  f31 : F.get 31 = some (.int .i64 parts.length)
  f32 : F.get 32 = some (.int .i64 i)
theorem eparts_loop {K : Nat → Prop} {H0 : Hp} {fr : Nat} {own out : Ts} {vo vs0 v : V} {parts : List Tx} (hP : ∀ p ∈ parts, ExF p) (hK : Dj K H0 fr vo vs0) (hT : TreesAt K H0 parts v) (hb : own.length + out.length + wts parts ≤ 1099511627776) {F : Fr} {H : Hp} {Q : PC} {vs : V} (h0 : J78 H0 fr own out vo vs0 v parts 0 vs F H)
    (hQ : ∀ vs' F' H', FinAt H' fr own (freeEs parts own out) vo vs' → FKeep H0 fr vo vs0 H' vo vs' → Q (.exit 3) F' H') : WC tab (.loop L78_1) F H Q := by
  refine loop_of (fun k F H => ∃ i vs, i + k = parts.length ∧ J78 H0 fr own out vo vs0 v parts i vs F H) (m := parts.length) ⟨0, vs, by omega, h0⟩ ?_
  rintro k F H ⟨i, vs, hi, I⟩
  have hst := I.keep.st
  have f0 := I.f0; have f30 := I.f30; have f31 := I.f31; have f32 := I.f32
  by_cases hlt : i < parts.length
  · have hlt' : (i : Int) < (parts.length : Int) := by omega
    have hTi := hT.mono (hK.stays I.keep)
    obtain ⟨b, off, cap, e, ro, cells, d0, d1, d2, d3, d4, d5, rfl, g1, g2, g3, g4, g5, g6, g7, n0, n1, n2, n3, n4, n5⟩ := TreesAt.at_ hTi hlt
    have hw : wr .i64 ((i : Int) + 1) = ((i + 1 : Nat) : Int) := by
      have := len_wts parts
      rw [wr_i64 (by omega) (by omega)]; omega
    have hoff : off + i * 6 + 6 ≤ cells.length := by omega
    simp [L78_1, f0, f30, f31, f32, hst, hlt, hlt', g1, g4, g5, g6, hoff, n0, n1, n2, n3, n4, n5]
    have hfin := I.fin
    have hfl := freeEs_len (parts.take i) own out
    have hwt := wts_take parts i hlt
    have hNk : ∀ o o' : Ob, FKeep H fr vo vs ((H.new o).put H.next o') vo vs := fun o o' => FKeep.news (by simp [hst]) (by simp) (fun b hb => by simp [Hp.get_new, Hp.get_put, old_ne hb])
    have hK1 := (hK.keep I.keep).keep (hNk (.row 53 6 false [.int .i64 0, .int .i64 0, .str [], .nils, .nils, .nils]) (.row 53 6 false [d0, d1, d2, d3, d4, d5]))
    refine (hP parts[i] (List.getElem_mem hlt) _ fr own _ vo vs _ K (by simp [hst]) (hfin.keep (by simp) fun b hb => by simp [Hp.get_new, Hp.get_put, old_ne hb]) (ExpAt.mono ((hK.keep I.keep).stays (hNk _ _)) _ _ g7) hK1 (by omega)).mono ?_
    rintro w H2 ⟨vs', hF2, hk2⟩
    simp [f32, hw, hk2.st]
    have hs : freeE parts[i] own (freeEs (parts.take i) own out) = freeEs (parts.take (i + 1)) own out := by rw [List.take_succ_eq_append_getElem hlt, freeEs_snoc]
    rw [hs] at hF2
    exact ⟨k - 1, by omega, i + 1, by omega, vs', by omega, hF2, (I.keep.trans (hNk _ _)).trans hk2, by simp [f0], by simp [f30], by simp [f31], by simp⟩
  · have hlt' : ¬ (i : Int) < (parts.length : Int) := by omega
    have hfin := I.fin
    rw [List.take_of_length_le (by omega)] at hfin
    simp [L78_1, f0, f30, f31, f32, hst, hlt']
    exact hQ _ _ _ hfin I.keep
end Go.AM.YtkmkkgfdobaplaaGreatDoorT
/- Names that are used: the finder's walk. -/
set_option linter.unusedVariables false
set_option linter.unusedSimpArgs false
set_option maxRecDepth 100000
namespace Go.AM.YtkmkkgfdobaplaaGreatDoorT
open Go Go.AM Go.Proofs
structure N78 (H0 : Hp) (fr eb : Nat) (own out : Ts) (vo vs0 w v : V) (cs : List V) (L : Ts) (i : Nat) (vs : V) (F : Fr) (H : Hp) : Prop where
  le : i ≤ L.length
  fin : FinAt H fr own ((L.take i).foldl (useP own) out) vo vs
  keep : FKeep H0 fr vo vs0 H vo vs
  f0 : F.get 0 = some (.ptr fr 0)
  f3 : F.get 3 = some (.ptr eb 0)
  f19 : F.get 19 = some w
  f20 : F.get 20 = some (.int .i64 L.length)
  f21 : F.get 21 = some (.int .i64 i)
theorem names_loop {K : Nat → Prop} {H0 : Hp} {fr eb : Nat} {own out : Ts} {vo vs0 w v : V} {cs : List V} {L : Ts} (hK : Dj K H0 fr vo vs0) (hT : StrsAt K H0 L w) (hb : own.length + out.length + L.length ≤ 1099511627776) {F : Fr} {H : Hp} {Q : PC} {vs : V} (h0 : N78 H0 fr eb own out vo vs0 w v cs L 0 vs F H)
    (hQ : ∀ vs' F' H', FinAt H' fr own (L.foldl (useP own) out) vo vs' → FKeep H0 fr vo vs0 H' vo vs' → F'.get 0 = some (.ptr fr 0) → F'.get 3 = some (.ptr eb 0) → Q (.exit 1) F' H') : WC tab (.loop L78_0) F H Q := by
  refine loop_of (fun k F H => ∃ i vs, i + k = L.length ∧ N78 H0 fr eb own out vo vs0 w v cs L i vs F H) (m := L.length) ⟨0, vs, by omega, h0⟩ ?_
  rintro k F H ⟨i, vs, hi, I⟩
  have hst := I.keep.st
  have f0 := I.f0; have f3 := I.f3; have f19 := I.f19; have f20 := I.f20; have f21 := I.f21
  by_cases hlt : i < L.length
  · have hlt' : (i : Int) < (L.length : Int) := by omega
    have hTi := hT.mono (hK.stays I.keep)
    obtain ⟨b, off, cap, e, ro, cells, rfl, g1, g2, g3, g4, g5⟩ := StrsAt.at_ hTi hlt
    have hw : wr .i64 ((i : Int) + 1) = ((i + 1 : Nat) : Int) := by rw [wr_i64 (by omega) (by omega)]; omega
    simp [L78_0, f0, f19, f20, f21, hst, hlt, hlt', g1, g5]
    have hfl := fold_len own (L.take i) out
    have htl : (L.take i).length ≤ i := by simp; omega
    refine (see_ok hst I.fin (by omega) (by omega)).mono ?_
    rintro u H2 ⟨vs', hF2, hk2⟩
    simp [f21, hw, hk2.st]
    have hs : useP own ((L.take i).foldl (useP own) out) L[i] = (L.take (i + 1)).foldl (useP own) out := by rw [List.take_succ_eq_append_getElem hlt, List.foldl_append]; rfl
    rw [hs] at hF2
    exact ⟨k - 1, by omega, i + 1, by omega, vs', by omega, hF2, I.keep.trans hk2, by simp [f0], by simp [f3], by simp [f19], by simp [f20], by simp⟩
  · have hlt' : ¬ (i : Int) < (L.length : Int) := by omega
    have hfin := I.fin
    rw [List.take_of_length_le (by omega)] at hfin
    simp [L78_0, f0, f19, f20, f21, hst, hlt']
    exact hQ _ _ _ hfin I.keep (by simp [f0]) (by simp [f3])
theorem sfree_ok {body : List Tx} (hB : BlF body) {op : Nat} {num : Int} {text : List UInt8} {parts : List Tx} {params : Ts} {H : Hp} {cs : List V} {K : Nat → Prop} (hst : H.stale = []) (hT : ExpAt K H (.ex op num text parts params body) cs) (hK : ∀ b, K b → b < H.next) (hb : params.length + wts body ≤ 1099511627776) :
    WF tab 32 [.agg cs] H fun w H' => SlAt H' 9 1 w (freeB body params []).length ((freeB body params []).map .str) ∧ (∀ b ∈ rowsOf w, H.next ≤ b ∧ b < H'.next) ∧ Ext noX H H' := by
  refine wf32 (wp_sound _ ?_)
  have hT0 := hT
  simp only [ExpAt] at hT
  obtain ⟨vp, vq, vb, rfl, t1, t2, t3⟩ := hT
  have n1 := t1.one; have n2 := t2.one; have n3 := t3.one
  simp [hst, n1, n2, n3, Hp.get_new]
  have hg : ∀ o o' b, b < H.next → ((H.new o).new o').get b = H.get b := fun o o' b hb => by simp [Hp.get_new, old_ne hb]
  have hS : ∀ o o', Stays K K H ((H.new o).new o') := fun o o' => ⟨fun b hb _ => hb, fun b hb hx => hg o o' b hx, by simp; omega⟩
  have hF : FinAt ((H.new (.row 53 6 false [.int .i64 op, .int .i64 num, .str text, vp, vq, vb])).new (.row 102 2 false [.nils, .nils])) (H.next + 1) [] [] .nils .nils := ⟨by simp [Hp.get_new], by simp, .nil, .nil, fun b hb => by simp [rowsOf] at hb, fun b hb => by simp [rowsOf] at hb⟩
  refine (hB _ (H.next + 1) [] params [] .nils .nils vb vq K (by simp [hst]) hF (t3.mono (hS _ _) (ElsAt.mono (hS _ _) body)) (t2.mono (hS _ _) fun _ h => h) (fun b hb => ⟨by have := hK b hb; simp; omega, by have := hK b hb; omega, by simp [rowsOf], by simp [rowsOf]⟩) (by simp; omega)).mono ?_
  rintro u H2 ⟨vo', vs', hF2, hk2⟩
  have s2 := hk2.st
  have hrow := hF2.row
  have c1 := hF2.ss.one; have c2 := hF2.ss.cells
  have l2 := hk2.le
  simp at l2
  simp [s2, hrow, c1, c2]
  rw [List.nil_append] at hF2
  have hr : ∀ b, b ∈ rowsOf vo' ∨ b ∈ rowsOf vs' → H.next ≤ b := fun b hb => by
    rcases hk2.own b hb with g | g | g
    · simp [rowsOf] at g
    · simp [rowsOf] at g
    · simp at g; omega
  refine ⟨hF2.ss, fun b hb => ⟨hr b (.inr hb), (hF2.rs b hb).1⟩, s2, by omega, fun b hb _ => ?_⟩
  rw [hk2.get b (by simp; omega) (by omega) (by simp [rowsOf]) (by simp [rowsOf])]
  exact hg _ _ b hb
theorem exF_ok {op : Nat} {num : Int} {text : List UInt8} {parts : List Tx} {params : Ts} {body : List Tx} (hP : ∀ p ∈ parts, ExF p) (hB : BlF body) : ExF (.ex op num text parts params body) := by
  intro H fr own out vo vs cs K hst hF hT hK hb
  refine wf78 (wp_sound _ ?_)
  have hT0 := hT
  simp only [ExpAt] at hT
  obtain ⟨vp, vq, vb, rfl, t1, t2, t3⟩ := hT
  simp only [Tx.wt] at hb
  have n1 := t1.one; have n2 := t2.one; have n3 := t3.one
  have c1 := t1.cells; have c2 := t2.cells; have c3 := t3.cells
  have hlt := hF.lt
  -- the parts
  have tail : ∀ (F' : Fr) (H' : Hp) (o1 : Ts) (vs1 : V), o1.length ≤ out.length + 1 + wts body → freeE (.ex op num text parts params body) own out = freeEs parts own o1 → FinAt H' fr own o1 vo vs1 → FKeep H fr vo vs H' vo vs1 → F'.get 0 = some (.ptr fr 0) → F'.get 30 = some vp → F'.get 31 = some (.int .i64 parts.length) → F'.get 32 = some (.int .i64 0) →
      WC tab (.loop L78_1) F' H' (blockQ 3 (resQ tab [] fun _ H' => ∃ vs', FinAt H' fr own (freeE (.ex op num text parts params body) own out) vo vs' ∧ FKeep H fr vo vs H' vo vs')) := by
    intro F' H' o1 vs1 a1 a2 a3 a4 b0 b30 b31 b32
    rw [a2]
    have st := hK.stays a4
    have hst' := a4.st
    refine eparts_loop (H0 := H') (own := own) (parts := parts) (v := vp) (fr := fr) (vo := vo) (out := o1) (vs0 := vs1) (vs := vs1) hP (hK.keep a4) (t1.mono st (ElsAt.mono st parts)) (by omega) ⟨Nat.zero_le _, by simpa only [List.take_zero, freeEs] using a3, FKeep.refl hst', b0, b30, b31, by simpa using b32⟩ ?_
    intro vs' F2 H2 g1 g2
    simp only [bl_exit, if_true]
    simp [resQ]
    exact ⟨vs', g1, a4.trans g2⟩
  have hkn : ∀ o : Ob, FKeep H fr vo vs (H.new o) vo vs := fun o => FKeep.news (by simp [hst]) (by simp) fun b hb => by simp [Hp.get_new, old_ne hb]
  have hfn : ∀ o : Ob, FinAt (H.new o) fr own out vo vs := fun o => hF.keep (by simp) fun b hb => by simp [Hp.get_new, old_ne hb]
  have l1 := t1.len 53
  by_cases h5 : op = 5
  · subst h5
    simp [hst, n1, n2, n3, Hp.get_new, c1, c2, c3]
    refine (see_ok (by simp [hst]) (hfn _) (by omega) (by omega)).mono ?_
    rintro w H2 ⟨vs', hF2, hk2⟩
    have kk := (hkn (.row 53 6 false [.int .i64 5, .int .i64 num, .str text, vp, vq, vb])).trans hk2
    have hE : H2.get H.next = some (.row 53 6 false [.int .i64 5, .int .i64 num, .str text, vp, vq, vb]) := by
      rw [hk2.get H.next (by simp) (by omega) (fun h => ?_) (fun h => ?_)]
      · simp [Hp.get_new]
      · have := (hF.ro _ h).1; omega
      · have := (hF.rs _ h).1; omega
    simp [kk.st, hE, l1]
    exact tail _ _ (useP own out text) vs' (by have := useP_len own out text; omega) (by simp [freeE]) hF2 kk (by simp) (by simp) (by simp) (by simp)
  by_cases h17 : op = 17
  · subst h17
    simp [hst, n1, n2, n3, Hp.get_new, c1, c2, c3]
    have hT1 : ExpAt K (H.new (.row 53 6 false [.int .i64 17, .int .i64 num, .str text, vp, vq, vb])) (.ex 17 num text parts params body) [.int .i64 17, .int .i64 num, .str text, vp, vq, vb] := ExpAt.mono (hK.stays (hkn _)) _ _ hT0
    refine (sfree_ok hB (by simp [hst]) hT1 (fun b hb => by have := (hK b hb).1; simp; omega) (by omega)).mono ?_
    rintro w H2 ⟨hS, hr, hX⟩
    have s2 := hX.st
    have l2 := hX.le
    simp at l2
    have hE : H2.get H.next = some (.row 53 6 false [.int .i64 17, .int .i64 num, .str text, vp, vq, vb]) := by
      rw [hX.get H.next (by simp) (fun h => h)]; simp [Hp.get_new]
    have k2 : FKeep H fr vo vs H2 vo vs := (hkn _).trans (FKeep.news s2 hX.le fun b hb => hX.get b hb fun h => h)
    have hF2 : FinAt H2 fr own out vo vs := (hfn _).keep hX.le fun b hb => hX.get b hb fun h => h
    have hLb := freeB_len body params []
    simp only [List.length_nil] at hLb
    generalize hL : freeB body params [] = L at *
    have hTL : StrsAt (fun b => b ∈ rowsOf w) H2 L w := StrsAt.of_slAt hS (fun b hb => ⟨hb, (hr b hb).2⟩) rfl
    have lw := hTL.len 9
    simp [s2, lw, hTL.one, hTL.cells]
    refine names_loop (K := fun b => b ∈ rowsOf w) (H0 := H2) (fr := fr) (eb := H.next) (own := own) (out := out) (vo := vo) (vs0 := vs) (w := w) (v := w) (cs := []) (L := L) (vs := vs) (fun b hb => ?_) hTL (by omega) ⟨Nat.zero_le _, by simpa using hF2, FKeep.refl s2, by simp, by simp, by simp, by simp, by simp⟩ ?_
    · have h1 := hr b hb
      simp at h1
      exact ⟨by omega, by omega, fun h => by have := (hF.ro _ h).1; omega, fun h => by have := (hF.rs _ h).1; omega⟩
    · intro vs' F' H3 g1 g2 g3 g4
      have kk := k2.trans g2
      have hE3 : H3.get H.next = some (.row 53 6 false [.int .i64 17, .int .i64 num, .str text, vp, vq, vb]) := by
        rw [g2.get H.next (by omega) (by omega) (fun h => ?_) (fun h => ?_)]
        · exact hE
        · have := (hF.ro _ h).1; omega
        · have := (hF.rs _ h).1; omega
      simp [kk.st, hE3, l1, g3, g4]
      have hfl := fold_len own L out
      exact tail _ _ (L.foldl (useP own) out) vs' (by omega) (by simp [freeE, hL]) g1 kk (by simp [g3]) (by simp) (by simp) (by simp)
  · have e5 : ((op : Int) == 5) = false := beq_false_of_ne (by omega)
    have e17 : ((op : Int) == 17) = false := beq_false_of_ne (by omega)
    simp [hst, n1, n2, n3, Hp.get_new, c1, c2, c3, e5, e17, l1]
    exact tail _ _ out vs (by omega) (by simp [freeE, h5, h17]) (hfn _) (hkn _) (by simp) (by simp) (by simp) (by simp)
end Go.AM.YtkmkkgfdobaplaaGreatDoorT
/- Names that are used: the finder's walk. -/
set_option linter.unusedVariables false
set_option linter.unusedSimpArgs false
set_option maxRecDepth 100000
namespace Go.AM.YtkmkkgfdobaplaaGreatDoorT
open Go Go.AM Go.Proofs
structure J52 (F0 : Fr) (H0 : Hp) (fr : Nat) (own out : Ts) (vo vs0 v : V) (parts : List Tx) (i : Nat) (vs : V) (F : Fr) (H : Hp) : Prop where
  le : i ≤ parts.length
  fin : FinAt H fr own (freeEs (parts.take i) own out) vo vs
  keep : FKeep H0 fr vo vs0 H vo vs
  f0 : F.get 0 = some (.ptr fr 0)
  f6 : F.get 6 = F0.get 6
  f8 : F.get 8 = F0.get 8
  f25 : F.get 25 = F0.get 25
  f26 : F.get 26 = F0.get 26
  f27 : F.get 27 = F0.get 27
  f30 : F.get 32 = some v
  f31 : F.get 33 = some (.int .i64 parts.length)
  f32 : F.get 34 = some (.int .i64 i)
theorem sexprs_loop {K : Nat → Prop} {H0 : Hp} {fr : Nat} {own out : Ts} {vo vs0 v : V} {parts : List Tx} (hP : ∀ p ∈ parts, ExF p) (hK : Dj K H0 fr vo vs0) (hT : TreesAt K H0 parts v) (hb : own.length + out.length + wts parts ≤ 1099511627776) {F0 F : Fr} {H : Hp} {Q : PC} {vs : V} (h0 : J52 F0 H0 fr own out vo vs0 v parts 0 vs F H)
    (hQ : ∀ vs' F' H', FinAt H' fr own (freeEs parts own out) vo vs' → FKeep H0 fr vo vs0 H' vo vs' → F'.get 0 = some (.ptr fr 0) → F'.get 6 = F0.get 6 → F'.get 8 = F0.get 8 → F'.get 25 = F0.get 25 → F'.get 26 = F0.get 26 → F'.get 27 = F0.get 27 → Q (.exit 2) F' H') : WC tab (.loop L52_0) F H Q := by
  refine loop_of (fun k F H => ∃ i vs, i + k = parts.length ∧ J52 F0 H0 fr own out vo vs0 v parts i vs F H) (m := parts.length) ⟨0, vs, by omega, h0⟩ ?_
  rintro k F H ⟨i, vs, hi, I⟩
  have hst := I.keep.st
  have f0 := I.f0; have f30 := I.f30; have f31 := I.f31; have f32 := I.f32
  by_cases hlt : i < parts.length
  · have hlt' : (i : Int) < (parts.length : Int) := by omega
    have hTi := hT.mono (hK.stays I.keep)
    obtain ⟨b, off, cap, e, ro, cells, d0, d1, d2, d3, d4, d5, rfl, g1, g2, g3, g4, g5, g6, g7, n0, n1, n2, n3, n4, n5⟩ := TreesAt.at_ hTi hlt
    have hw : wr .i64 ((i : Int) + 1) = ((i + 1 : Nat) : Int) := by
      have := len_wts parts
      rw [wr_i64 (by omega) (by omega)]; omega
    have hoff : off + i * 6 + 6 ≤ cells.length := by omega
    simp [L52_0, f0, f30, f31, f32, hst, hlt, hlt', g1, g4, g5, g6, hoff, n0, n1, n2, n3, n4, n5]
    have hfin := I.fin
    have hfl := freeEs_len (parts.take i) own out
    have hwt := wts_take parts i hlt
    have hNk : ∀ o o' : Ob, FKeep H fr vo vs ((H.new o).put H.next o') vo vs := fun o o' => FKeep.news (by simp [hst]) (by simp) (fun b hb => by simp [Hp.get_new, Hp.get_put, old_ne hb])
    have hK1 := (hK.keep I.keep).keep (hNk (.row 53 6 false [.int .i64 0, .int .i64 0, .str [], .nils, .nils, .nils]) (.row 53 6 false [d0, d1, d2, d3, d4, d5]))
    refine (hP parts[i] (List.getElem_mem hlt) _ fr own _ vo vs _ K (by simp [hst]) (hfin.keep (by simp) fun b hb => by simp [Hp.get_new, Hp.get_put, old_ne hb]) (ExpAt.mono ((hK.keep I.keep).stays (hNk _ _)) _ _ g7) hK1 (by omega)).mono ?_
    rintro w H2 ⟨vs', hF2, hk2⟩
    simp [f32, hw, hk2.st]
    have hs : freeE parts[i] own (freeEs (parts.take i) own out) = freeEs (parts.take (i + 1)) own out := by rw [List.take_succ_eq_append_getElem hlt, freeEs_snoc]
    rw [hs] at hF2
    exact ⟨k - 1, by omega, i + 1, by omega, vs', by omega, hF2, (I.keep.trans (hNk _ _)).trans hk2, by simp [f0], by simp [I.f6], by simp [I.f8], by simp [I.f25], by simp [I.f26], by simp [I.f27], by simp [f30], by simp [f31], by simp⟩
  · have hlt' : ¬ (i : Int) < (parts.length : Int) := by omega
    have hfin := I.fin
    rw [List.take_of_length_le (by omega)] at hfin
    simp [L52_0, f0, f30, f31, f32, hst, hlt']
    exact hQ _ _ _ hfin I.keep (by simp [f0]) (by simp [I.f6]) (by simp [I.f8]) (by simp [I.f25]) (by simp [I.f26]) (by simp [I.f27])
end Go.AM.YtkmkkgfdobaplaaGreatDoorT
/- Names that are used: the finder's walk. -/
set_option linter.unusedVariables false
set_option linter.unusedSimpArgs false
set_option maxRecDepth 100000
namespace Go.AM.YtkmkkgfdobaplaaGreatDoorT
open Go Go.AM Go.Proofs
structure O52 (H0 : Hp) (fr n : Nat) (own1 out : Ts) (vo0 vs0 v : V) (l : List Tx) (i : Nat) (vo vs : V) (F : Fr) (H : Hp) : Prop where
  le : i ≤ l.length
  fin : FinAt H fr (ownsP (l.take i) own1) (freeB (l.take i) own1 out) vo vs
  keep : FKeep H0 fr vo0 vs0 H vo vs
  f0 : F.get 0 = some (.ptr fr 0)
  f6 : F.get 6 = some (.int .i64 n)
  f25 : F.get 25 = some v
  f26 : F.get 26 = some (.int .i64 l.length)
  f27 : F.get 27 = some (.int .i64 i)
def Y52 : SCode := .seq (.reg R52_18) (.reg R52_19)
/-- All that is in a statement comes to what it must. -/
def InF : Tx → Prop
  | .st _ _ es b e _ => (∀ x ∈ es, ExF x) ∧ BlF b ∧ BlF e
  | .ex .. => False
theorem stmts_loop {K : Nat → Prop} {H0 : Hp} {fr n : Nat} {own1 out : Ts} {vo0 vs0 v : V} {l : List Tx} (hP : ∀ s ∈ l, InF s) (hK : Dj K H0 fr vo0 vs0) (hT : TreesAt K H0 l v) (hb : own1.length + out.length + wts l ≤ 1099511627776) {F : Fr} {H : Hp} {Q : PC} {vo vs : V} (h0 : O52 H0 fr n own1 out vo0 vs0 v l 0 vo vs F H)
    (hQ : ∀ vo' vs' F' H', FinAt H' fr (ownsP l own1) (freeB l own1 out) vo' vs' → FKeep H0 fr vo0 vs0 H' vo' vs' → F'.get 0 = some (.ptr fr 0) → F'.get 6 = some (.int .i64 n) → Q (.exit 0) F' H') : WC tab (.loop L52_1) F H Q := by
  refine loop_of (fun k F H => ∃ i, i + k = l.length ∧ ∃ vo vs, O52 H0 fr n own1 out vo0 vs0 v l i vo vs F H) (m := l.length) ⟨0, by omega, vo, vs, h0⟩ ?_
  rintro k F H ⟨i, hi, vo, vs, I⟩
  have hL : L52_1 = .seq (.reg R52_3) (.seq (.cond (.tmp 28) (.skip) (.exit 0)) (.seq (.block 1 (.seq (.reg R52_4) (.seq (.seq (.reg R52_5) (.block 2 (.loop L52_0))) (.seq (.seq (.reg R52_10) (.block 4 (.seq (.reg R52_11) (.cond (.tmp 44) (.dreg R52_12) (.seq (.reg R52_13) (.cond (.tmp 57) (.reg R52_14) (.seq (.reg R52_15) (.cond (.tmp 63) (.seq (.reg R52_16) (.seq (.reg R52_17) (.exit 1))) (.skip))))))))) Y52)))) (.reg R52_20))) := rfl
  rw [hL]
  have hst := I.keep.st
  have f0 := I.f0; have f6 := I.f6; have f25 := I.f25; have f26 := I.f26; have f27 := I.f27
  by_cases hlt : i < l.length
  · have hlt' : (i : Int) < (l.length : Int) := by omega
    have hTi := hT.mono (hK.stays I.keep)
    obtain ⟨b, off, cap, e, ro, cells, d0, d1, d2, d3, d4, d5, rfl, g1, g2, g3, g4, g5, g6, g7, n0, n1, n2, n3, n4, n5⟩ := TreesAt.at_ hTi hlt
    have hll := len_wts l
    have hw : wr .i64 ((i : Int) + 1) = ((i + 1 : Nat) : Int) := by rw [wr_i64 (by omega) (by omega)]; omega
    have hoff : off + i * 6 + 6 ≤ cells.length := by omega
    have hPi := hP l[i] (List.getElem_mem hlt)
    have hwt := wts_take l i hlt
    have htk : ownsP (l.take (i + 1)) own1 = ownP (ownsP (l.take i) own1) l[i] := by rw [List.take_succ_eq_append_getElem hlt, ownsP, ownsP, List.foldl_append]; rfl
    have hfk : freeB (l.take (i + 1)) own1 out = freeS l[i] (ownsP (l.take i) own1) (freeB (l.take i) own1 out) := by rw [List.take_succ_eq_append_getElem hlt, freeB_snoc]
    have hol := ownsP_len (l.take i) own1 out
    have hfin := I.fin
    have hKi := hK.keep I.keep
    have fin : ∀ (F' : Fr) (H' : Hp) (vo' vs' : V), FinAt H' fr (ownP (ownsP (l.take i) own1) l[i]) (freeS l[i] (ownsP (l.take i) own1) (freeB (l.take i) own1 out)) vo' vs' → FKeep H fr vo vs H' vo' vs' → F'.get 0 = some (.ptr fr 0) → F'.get 6 = some (.int .i64 n) → F'.get 25 = some (.sl b off l.length cap 6) → F'.get 26 = some (.int .i64 l.length) → F'.get 27 = some (.int .i64 (i + 1 : Nat)) → ∃ m', m' < k ∧ ∃ i, i + m' = l.length ∧ ∃ vo vs, O52 H0 fr n own1 out vo0 vs0 (.sl b off l.length cap 6) l i vo vs F' H' := fun F' H' vo' vs' a1 a2 b0 b6 b25 b26 b27 =>
      ⟨k - 1, by omega, i + 1, by omega, vo', vs', by omega, by rw [htk, hfk]; exact a1, I.keep.trans a2, b0, b6, b25, b26, b27⟩
    generalize hown : ownsP (l.take i) own1 = own at *
    generalize hout : freeB (l.take i) own1 out = ou at *
    generalize hs : l[i] = s at *
    match s, hPi with
    | .st kind name es sbd els at_, hPi =>
      obtain ⟨p1, p2, p3⟩ := hPi
      have g7' := g7
      simp only [ExpAt] at g7'
      obtain ⟨ve, vb, vl, hcs, t1, t2, t3⟩ := g7'
      cases hcs
      simp only [Tx.wt] at hwt
      simp [f0, f6, f25, f26, f27, hst, hlt, hlt', g1, g4, g5, g6, hoff, n0, n1, n2, n3, n4, n5, Hp.get_new, Hp.get_put, t1.len 53]
      have hlt0 := hfin.lt
      have hg0 : ∀ o o' : Ob, ∀ b, b < H.next → ((H.new o).put H.next o').get b = H.get b := fun o o' b hb => by simp [Hp.get_new, Hp.get_put, old_ne hb]
      have k00 : FKeep H fr vo vs ((H.new (.row 46 6 false [.int .i64 0, .str [], .nils, .nils, .nils, .int .i64 0])).put H.next (.row 46 6 false [.int .i64 kind, .str name, d2, d3, d4, .int .i64 at_])) vo vs := FKeep.news (by simp [hst]) (by simp) (hg0 _ _)
      have hF0 := hfin.keep k00.le (hg0 _ _)
      have hE0 : ((H.new (.row 46 6 false [.int .i64 0, .str [], .nils, .nils, .nils, .int .i64 0])).put H.next (.row 46 6 false [.int .i64 kind, .str name, d2, d3, d4, .int .i64 at_])).get H.next = some (.row 46 6 false [.int .i64 kind, .str name, d2, d3, d4, .int .i64 at_]) := by simp [Hp.get_put]
      have hN0 : H.next < ((H.new (.row 46 6 false [.int .i64 0, .str [], .nils, .nils, .nils, .int .i64 0])).put H.next (.row 46 6 false [.int .i64 kind, .str name, d2, d3, d4, .int .i64 at_])).next := by simp
      have hnv : ∀ b, b ∈ rowsOf vo ∨ b ∈ rowsOf vs → b < H.next := fun b hb => hb.elim (fun h => (hfin.ro b h).1) fun h => (hfin.rs b h).1
      generalize hH1 : ((H.new (.row 46 6 false [.int .i64 0, .str [], .nils, .nils, .nils, .int .i64 0])).put H.next (.row 46 6 false [.int .i64 kind, .str name, d2, d3, d4, .int .i64 at_])) = H1 at *
      have s1 := hKi.stays k00
      have hK1 := hKi.keep k00
      refine sexprs_loop (F0 := _) (K := K) (H0 := H1) (own := own) (out := ou) (fr := fr) (vo := vo) (vs0 := vs) (v := d2) (parts := es) (vs := vs) p1 hK1 (t1.mono s1 (ElsAt.mono s1 es)) (by omega) ⟨Nat.zero_le _, by simpa only [List.take_zero, freeEs] using hF0, FKeep.refl k00.st, by simp [f0], rfl, rfl, rfl, rfl, rfl, by simp, by simp, by simp⟩ ?_
      intro vs1 F1 H2 hF1 hk1 b0 b6 b8 b25 b26 b27
      simp [f6] at b6
      simp at b8
      simp [f25] at b25
      simp [f26] at b26
      simp [f27] at b27
      -- the row of the statement stays
      have hsb : ∀ {H5 : Hp} {vo5 vs5 : V}, FKeep H1 fr vo vs H5 vo5 vs5 → H5.get H.next = some (.row 46 6 false [.int .i64 kind, .str name, d2, d3, d4, .int .i64 at_]) := fun {H5 vo5 vs5} h => by
        rw [h.get H.next hN0 (by omega) (fun h => by have := hnv _ (.inl h); omega) (fun h => by have := hnv _ (.inr h); omega)]
        exact hE0
      have hE2 := hsb hk1
      have hel := freeEs_len es own ou
      have hs2 := hk1.st
      have nos : ∀ (H' : Hp), StrsAt K H' [] .nils := fun H' => noStrs
      have tail : ∀ (F' : Fr) (H' : Hp) (own' o2 : Ts) (vo2 vs2 : V), FinAt H' fr own' o2 vo2 vs2 → FKeep H1 fr vo vs H' vo2 vs2 → ownP own (.st kind name es sbd els at_) = own' → freeS (.st kind name es sbd els at_) own ou = freeB els own' (freeB sbd own' o2) → own'.length + o2.length + wts sbd + wts els ≤ 1099511627776 → F'.get 0 = some (.ptr fr 0) → F'.get 6 = some (.int .i64 n) → F'.get 8 = some (.ptr H.next 0) → F'.get 25 = some (.sl b off l.length cap 6) → F'.get 26 = some (.int .i64 l.length) → F'.get 27 = some (.int .i64 i) →
          wp tab Y52 F' H' (blockQ 1 (sqQ tab (.reg R52_20) (loopQ (fun k F H => ∃ i, i + k = l.length ∧ ∃ vo vs, O52 H0 fr n own1 out vo0 vs0 (.sl b off l.length cap 6) l i vo vs F H) k Q))) := by
        intro F' H' own' o2 vo2 vs2 a1 a2 a3 a4 a5 q0 q6 q8 q25 q26 q27
        have e2 := hsb a2
        have st2 := hK1.stays a2
        have sA := hKi.stays k00
        simp [Y52, q0, q8, a2.st, e2]
        refine (p2 H' fr own' [] o2 vo2 vs2 d3 .nils K a2.st a1 ((t2.mono sA (ElsAt.mono sA sbd)).mono st2 (ElsAt.mono st2 sbd)) (nos _) (hK1.keep a2) (by simp; omega)).mono ?_
        rintro w H3 ⟨vo3, vs3, hF3, hk3⟩
        rw [List.append_nil] at hF3
        have a2' := a2.trans hk3
        have e3 := hsb a2'
        have st3 := hK1.stays a2'
        have hfl := freeB_len sbd own' o2
        simp [q0, q8, hk3.st, e3]
        refine (p3 H3 fr own' [] _ vo3 vs3 d4 .nils K hk3.st hF3 ((t3.mono sA (ElsAt.mono sA els)).mono st3 (ElsAt.mono st3 els)) (nos _) (hK1.keep a2') (by simp; omega)).mono ?_
        rintro w H4 ⟨vo4, vs4, hF4, hk4⟩
        rw [List.append_nil] at hF4
        simp [q27, hw, hk4.st]
        exact fin _ _ vo4 vs4 (by rw [a3, a4]; exact hF4) ((k00.trans a2').trans hk4) (by simp [q0]) (by simp [q6]) (by simp [q25]) (by simp [q26]) (by simp)
      have hrow2 := hF1.row
      by_cases hk0 : kind = 0
      · subst hk0
        simp [b0, b6, b8, b25, b26, b27, hs2, hE2, hrow2]
        refine wpD_app1 (H := H2) (e0 := 9) (cells := [.str name]) (by simp [descOf]) ty9 (by decide) (by simp) (by simp) hF1.so (fun b hb => ⟨(hF1.ro b hb).1, by simp [hs2]⟩) rfl (by show (own.length + 1) * 16 ≤ _; omega) (by omega) (by simp [hs2]) fun v' H3 hS hA => ?_
        obtain ⟨k1, k2⟩ := hA.keep fr hF1.lt (fun h => (hF1.ro fr h).2.1 rfl) (by simp [hs2])
        have c5 := hS.one; have c6 := hS.cells; have c7 := hF1.ss.one
        simp [k1, k2, hrow2, c5, c6, c7, b0, hs2]
        obtain ⟨hF3, hk3⟩ := hF1.app_o (ns := [name]) (H3 := H3) (H4 := (H3.bump.flush.put fr (.row 102 2 false [v', vs1])).bump) (k := 1) hs2 hS rfl hA (by simp) (by simp; omega) (by simp [Hp.get_put]) (fun b hb => by simp [Hp.get_put, two_ne hb])
        exact tail _ _ (own ++ [name]) (freeEs es own ou) v' vs1 hF3 (hk1.trans hk3) (by simp [ownP]) (by simp [freeS]) (by simp; omega) (by simp [b0]) (by simp [b6]) (by simp [b8]) (by simp [b25]) (by simp [b26]) (by simp [b27])
      by_cases hk1' : kind = 1
      · subst hk1'
        simp [b0, b6, b8, b25, b26, b27, hs2, hE2]
        refine (see_ok hs2 hF1 (by omega) (by omega)).mono ?_
        rintro w H3 ⟨vs2, hF3, hk3⟩
        have hul := useP_len own (freeEs es own ou) name
        simp [hk3.st]
        exact tail _ _ own (useP own (freeEs es own ou) name) vo vs2 hF3 (hk1.trans hk3) (by simp [ownP]) (by simp [freeS]) (by omega) (by simp [b0]) (by simp [b6]) (by simp [b8]) (by simp [b25]) (by simp [b26]) (by simp [b27])
      by_cases hk7 : kind = 7
      · subst hk7
        simp [b0, b6, b8, b25, b26, b27, hs2, hE2]
        have st2 := hK1.stays hk1
        refine (p2 H2 fr own [] (freeEs es own ou) vo vs1 d3 .nils K hs2 hF1 ((t2.mono s1 (ElsAt.mono s1 sbd)).mono st2 (ElsAt.mono st2 sbd)) (nos _) (hK1.keep hk1) (by simp; omega)).mono ?_
        rintro w H3 ⟨vo3, vs3, hF3, hk3⟩
        rw [List.append_nil] at hF3
        have a2' := hk1.trans hk3
        have e3 := hsb a2'
        have st3 := hK1.stays a2'
        have hfl := freeB_len sbd own (freeEs es own ou)
        have s3 := hk3.st
        simp [b0, b8, s3, e3]
        have hgn : ∀ o : Ob, ∀ b, b < H3.next → (H3.new o).get b = H3.get b := fun o b hb => by simp [Hp.get_new, old_ne hb]
        have hKn : ∀ o : Ob, Stays K (fun b => K b ∨ b = H3.next) H3 (H3.new o) := fun o => ⟨fun b hb _ => .inl hb, fun b hb hx => hgn o b hx, by simp⟩
        have hK3 := hK1.keep a2'
        have hKx : Dj (fun b => K b ∨ b = H3.next) (H3.new (.row 9 1 false [.str name])) fr vo3 vs3 := fun b hb => by
          rcases hb with hb | rfl
          · have := hK3 b hb; exact ⟨by simp; omega, this.2⟩
          · have h9 := hF3.lt
            exact ⟨by simp, by omega, fun h => by have := (hF3.ro _ h).1; omega, fun h => by have := (hF3.rs _ h).1; omega⟩
        have hkn : FKeep H3 fr vo3 vs3 (H3.new (.row 9 1 false [.str name])) vo3 vs3 := FKeep.news (by simp [s3]) (by simp) (hgn _)
        refine (p3 _ fr own [name] _ vo3 vs3 d4 (.sl H3.next 0 1 none 1) (fun b => K b ∨ b = H3.next) (by simp [s3]) (hF3.keep (by simp) (hgn _)) (((t3.mono s1 (ElsAt.mono s1 els)).mono st3 (ElsAt.mono st3 els)).mono (hKn _) (ElsAt.mono (hKn _) els)) (.inr ⟨H3.next, 0, none, 9, false, [.str name], rfl, by simp [Hp.get_new], .inr rfl, by simp, by simp, by simp, by simp⟩) hKx (by simp; omega)).mono ?_
        rintro w H4 ⟨vo4, vs4, hF4, hk4⟩
        simp [b27, hw, hk4.st]
        exact fin _ _ vo4 vs4 (by simpa [ownP, freeS] using hF4) (((k00.trans a2').trans hkn).trans hk4) (by simp [b0]) (by simp [b6]) (by simp [b25]) (by simp [b26]) (by simp)
      · have e0 : ((kind : Int) == 0) = false := beq_false_of_ne (by omega)
        have e1 : ((kind : Int) == 1) = false := beq_false_of_ne (by omega)
        have e7 : ((kind : Int) == 7) = false := beq_false_of_ne (by omega)
        simp [b0, b6, b8, b25, b26, b27, hs2, hE2, e0, e1, e7]
        exact tail _ _ own (freeEs es own ou) vo vs1 hF1 hk1 (by simp [ownP, hk0]) (by simp [freeS, hk0, hk1', hk7]) (by omega) (by simp [b0]) (by simp [b6]) (by simp [b8]) (by simp [b25]) (by simp [b26]) (by simp [b27])
  · have hlt' : ¬ (i : Int) < (l.length : Int) := by omega
    have hfin := I.fin
    rw [List.take_of_length_le (by omega)] at hfin
    simp [f0, f6, f25, f26, f27, hst, hlt']
    exact hQ _ _ _ _ hfin I.keep (by simp [f0]) (by simp [f6])
end Go.AM.YtkmkkgfdobaplaaGreatDoorT
/- Names that are used: the finder's walk. -/
set_option linter.unusedVariables false
set_option linter.unusedSimpArgs false
set_option maxRecDepth 100000
namespace Go.AM.YtkmkkgfdobaplaaGreatDoorT
open Go Go.AM Go.Proofs
theorem ownsP_ext : ∀ (l : List Tx) (own : Ts), ∃ r, ownsP l own = own ++ r
  | [], own => ⟨[], by simp [ownsP]⟩
  | x :: l, own => by
    obtain ⟨r, hr⟩ := ownsP_ext l (ownP own x)
    have : ∃ r', ownP own x = own ++ r' := by
      cases x with
      | ex => exact ⟨[], by simp [ownP]⟩
      | st kind name es b e a =>
        by_cases h : kind = 0
        · exact ⟨[name], by simp [ownP, h]⟩
        · exact ⟨[], by simp [ownP, h]⟩
    obtain ⟨r', hr'⟩ := this
    refine ⟨r' ++ r, ?_⟩
    have e : ownsP (x :: l) own = ownsP l (ownP own x) := rfl
    rw [e, hr, hr', List.append_assoc]
/-- The first ones of a slice of texts. -/
theorem cut_sl {H : Hp} {e : TypeId} {v : V} {l r : Ts} (h : SlAt H e 1 v (l ++ r).length ((l ++ r).map .str)) : ∃ v', sliceV tab 36 v none (some l.length) none = some v' ∧ SlAt H e 1 v' l.length (l.map .str) ∧ rowsOf v' = rowsOf v := by
  generalize hn : (l ++ r).length = n at h
  generalize hc : (l ++ r).map V.str = cs at h
  have hl : l.length ≤ n := by rw [← hn]; simp
  cases h with
  | nil =>
    have h0 : l = [] := by
      cases l with
      | nil => rfl
      | cons => simp at hn
    subst h0
    exact ⟨.nils, by simp [sliceV, descOf], .nil, rfl⟩
  | row b n cs' hg hle =>
    refine ⟨.sl b 0 l.length none 1, ?_, ?_, rfl⟩
    · by_cases h0 : l.length = 0
      · simp [sliceV, descOf, h0]
      · have : (0 : Int) < l.length := by omega
        simp [sliceV, descOf]
        exact ⟨hl, fun h => absurd (by rw [h]; rfl) h0⟩
    · have := SlAt.row (H := H) (e := e) (sz := 1) b l.length cs' hg (by omega)
      have e2 : cs'.take (l.length * 1) = l.map .str := by
        have := congrArg (List.take l.length) hc
        rw [List.map_append, List.take_append_of_le_length (by simp), List.take_of_length_le (by simp), List.take_take, Nat.mul_one, Nat.min_eq_left hl] at this
        rw [Nat.mul_one]; exact this.symm
      rw [e2] at this
      exact this
theorem take_strs {K : Nat → Prop} {H : Hp} {l : Ts} {v : V} (h : StrsAt K H l v) : takeSl H.get 1 v = some (l.length, l.map .str) := by
  rcases h with ⟨rfl | rfl, h0⟩ | ⟨b, off, cap, e, ro, cells, rfl, h1, h2, h3, h4, h5, h6⟩
  · have : l = [] := List.eq_nil_of_length_eq_zero h0
    subst this; rfl
  · have : l = [] := List.eq_nil_of_length_eq_zero h0
    subst this; rfl
  · simp only [takeSl, h1]
    rw [if_pos ⟨trivial, by omega⟩, Nat.mul_one, h6]
def T52 : SCode := .seq (.seq (.reg R52_2) (.block 0 (.loop L52_1))) (.reg R52_21)
theorem blF_ok {l : List Tx} (hP : ∀ s ∈ l, InF s) : BlF l := by
  intro H fr own params out vo vs v va K hst hF hT hA hK hb
  refine wf52 (wp_sound _ ?_)
  have hrow := hF.row
  have n1 := hA.one; have n2 := hA.cells; have n3 := hT.one; have n4 := hT.cells
  have l1 := hT.len 46
  have l2 := hF.so.lenV 9
  have hS : S52 = .seq (.reg R52_0) (.seq (.reg R52_1) T52) := rfl
  rw [hS]
  have rest : ∀ (F' : Fr) (H1 : Hp) (vo1 : V), FinAt H1 fr (own ++ params) out vo1 vs → FKeep H fr vo vs H1 vo1 vs → F'.get 0 = some (.ptr fr 0) → F'.get 1 = some v → F'.get 6 = some (.int .i64 own.length) → wp tab T52 F' H1 (resQ tab [] fun _ H' => ∃ vo' vs', FinAt H' fr own (freeB l (own ++ params) out) vo' vs' ∧ FKeep H fr vo vs H' vo' vs') := by
    intro F' H1 vo1 a1 a2 b0 b1 b6
    have hs1 := a2.st
    simp [T52, b0, b1, b6, hs1, n3, n4, l1]
    have st := hK.stays a2
    refine stmts_loop (K := K) (H0 := H1) (fr := fr) (n := own.length) (own1 := own ++ params) (out := out) (vo0 := vo1) (vs0 := vs) (v := v) (l := l) (vo := vo1) (vs := vs) hP (hK.keep a2) (hT.mono st) (by simp; omega) ⟨Nat.zero_le _, by simpa only [List.take_zero, freeB, ownsP, List.foldl_nil] using a1, FKeep.refl hs1, by simp [b0], by simp [b6], by simp, by simp, by simp⟩ ?_
    intro vo2 vs2 F2 H2 hF2 hk2 q0 q6
    obtain ⟨r, hr⟩ := ownsP_ext l (own ++ params)
    rw [hr, List.append_assoc] at hF2
    obtain ⟨v', e1, e2, e3⟩ := cut_sl hF2.so
    have hrow2 := hF2.row
    have m1 := e2.one; have m2 := e2.cells; have m3 := hF2.ss.one
    have m4 := hF2.so.one; have m5 := hF2.so.cells
    have hs2 := hk2.st
    simp [q0, q6, hs2, hrow2, e1, m1, m2, m3, m4, m5]
    refine ⟨v', vs2, ⟨by simp [Hp.get_put], hF2.lt, e2.of_get fun b hb => ?_, hF2.ss.of_get fun b hb => get_put_ne _ (hF2.rs b hb).2, fun b hb => ?_, fun b hb => hF2.rs b hb⟩, (a2.trans hk2).trans ⟨by simp [hs2], by simp, fun b hb hf ho hs => get_put_ne _ hf, fun b hb => ?_⟩⟩
    · rw [e3] at hb
      exact get_put_ne _ (hF2.ro b hb).2.1
    · rw [e3] at hb
      exact hF2.ro b hb
    · rw [e3] at hb
      exact hb.elim .inl fun h => .inr (.inl h)
  simp [hst, hrow, n1, n2, n3, n4, l1, l2]
  have hlt := hF.lt
  by_cases hp : params = []
  · subst hp
    refine wpL_app0 (by simp [descOf]) ty9 (by simp) (by simp) hF.so (takeX_sl.trans (take_strs hA)) ?_
    have m1 := hF.so.one; have m2 := hF.so.cells; have m3 := hF.ss.one
    simp [hst, hrow, m1, m2, m3]
    have hg : ∀ b, (H.put fr (.row 102 2 false [vo, vs])).get b = H.get b := fun b => by
      by_cases hb : b = fr
      · subst hb; rw [get_put_self]; exact hrow.symm
      · exact get_put_ne _ hb
    rw [List.append_nil] at rest
    exact rest _ _ vo (hF.keep (by simp) fun b _ => hg b) (FKeep.news (by simp [hst]) (by simp) fun b _ => hg b) (by simp) (by simp) (by simp)
  · have hpl : 0 < params.length := List.length_pos_iff.2 hp
    refine wpL_app (H := H) (x := va) (by simp [descOf]) ty9 (by decide) (by simp) (by simp) hF.so (fun b hb => ⟨(hF.ro b hb).1, by simp [hst]⟩) (take_strs hA) hpl (by simp) (by show (own.length + params.length) * 16 ≤ _; omega) (by omega) (fun b hb => ?_) (by simp [hst]) fun v' H3 hS hA' => ?_
    · rcases hA with ⟨rfl | rfl, h0⟩ | ⟨b', off, cap, e, ro, cells, rfl, h1, h2, h3, h4, h5, h6⟩
      · simp [rowsOf] at hb
      · simp [rowsOf] at hb
      · simp [rowsOf] at hb
        subst hb
        exact ⟨by simp [hst], (hK b h2).2.2.1⟩
    · obtain ⟨k1, k2⟩ := hA'.keep fr hlt (fun h => (hF.ro fr h).2.1 rfl) (by simp [hst])
      have c5 := hS.one; have c6 := hS.cells; have c7 := hF.ss.one
      simp [k1, k2, hrow, c5, c6, c7]
      obtain ⟨hF3, hk3⟩ := hF.app_o (ns := params) (H3 := H3) (H4 := H3.flush.put fr (.row 102 2 false [v', vs])) (k := params.length) hst hS rfl hA' (by simp) (by simp) (by simp [Hp.get_put]) (fun b hb => by simp [Hp.get_put, two_ne hb])
      exact rest _ _ v' hF3 hk3 (by simp) (by simp) (by simp)
/-! ### All of it -/
mutual
theorem exF_all : ∀ (t : Tx), t.eok → ExF t
  | .ex op num text parts params body, h => by
    simp only [Tx.eok] at h
    exact exF_ok (exFs_all parts h.1) (blF_ok (inFs_all body h.2))
  | .st .., h => by simp only [Tx.eok] at h
theorem exFs_all : ∀ (l : List Tx), eoks l → ∀ x ∈ l, ExF x
  | [], _, x, hx => by simp at hx
  | y :: r, h, x, hx => by
    simp only [eoks] at h
    rcases List.mem_cons.1 hx with e | hx
    · rw [e]; exact exF_all y h.1
    · exact exFs_all r h.2 x hx
theorem inF_all : ∀ (t : Tx), t.sok → InF t
  | .st kind name es b e at_, h => by
    simp only [Tx.sok] at h
    exact ⟨exFs_all es h.1, blF_ok (inFs_all b h.2.1), blF_ok (inFs_all e h.2.2)⟩
  | .ex .., h => by simp only [Tx.sok] at h
theorem inFs_all : ∀ (l : List Tx), soks l → ∀ x ∈ l, InF x
  | [], _, x, hx => by simp at hx
  | y :: r, h, x, hx => by
    simp only [soks] at h
    rcases List.mem_cons.1 hx with e | hx
    · rw [e]; exact inF_all y h.1
    · exact inFs_all r h.2 x hx
end
end Go.AM.YtkmkkgfdobaplaaGreatDoorT
/- Names that are used: by definition. -/
set_option linter.unusedVariables false
set_option linter.unusedSimpArgs false
set_option maxRecDepth 100000
namespace Go.AM.YtkmkkgfdobaplaaGreatDoorT
open Go Go.AM Go.Proofs
/-- What is used, behind a pointer. -/
structure OutAt (H : Hp) (po : Nat) (out : Ts) (vs : V) : Prop where
  row : H.get po = some (.row 36 1 false [vs])
  lt : po < H.next
  ss : SlAt H 9 1 vs out.length (out.map .str)
  rs : ∀ b ∈ rowsOf vs, b < H.next ∧ b ≠ po
theorem OutAt.keep {H H' : Hp} {po : Nat} {out : Ts} {vs : V} (h : OutAt H po out vs) (hle : H.next ≤ H'.next) (hg : ∀ b, b < H.next → H'.get b = H.get b) : OutAt H' po out vs :=
  ⟨by rw [hg po h.lt]; exact h.row, Nat.lt_of_lt_of_le h.lt hle, h.ss.of_get fun b hb => hg b (h.rs b hb).1, fun b hb => ⟨Nat.lt_of_lt_of_le (h.rs b hb).1 hle, (h.rs b hb).2⟩⟩
theorem OutAt.app {H H3 H4 : Hp} {po : Nat} {out ns : Ts} {vs v' : V} {k : Nat} (hF : OutAt H po out vs) (hst : H.stale = []) (hS : SlAt H3 9 1 v' (out.length + k) (out.map .str ++ ns.map .str)) (hk : ns.length = k) (hA : AppR H vs H3 v') (hs4 : H4.stale = []) (hn4 : H3.next ≤ H4.next) (hr4 : H4.get po = some (.row 36 1 false [v'])) (hg : ∀ b, b ≠ po → H4.get b = H3.flush.get b) :
    OutAt H4 po (out ++ ns) v' ∧ FKeep H po .nils vs H4 .nils v' := by
  obtain ⟨k1, k2, k3, k4, k5⟩ := app_flush' hst hS hA
  rw [Hp.next_flush] at k4 k5
  have hlt := hF.lt
  have hn : ∀ b ∈ rowsOf v', b < H4.next ∧ b ≠ po := fun b hb => by
    obtain ⟨g1, g2⟩ := k5 b hb
    refine ⟨by omega, ?_⟩
    rcases g2 with g2 | g2
    · exact (hF.rs b g2).2
    · omega
  refine ⟨⟨hr4, by omega, ?_, hn⟩, ⟨hs4, by omega, fun b hb hf ho hs => by rw [hg b hf, k2 b hb hs], fun b hb => ?_⟩⟩
  · rw [List.length_append, List.map_append, hk]
    exact k1.of_get fun b hb => hg b (hn b hb).2
  · rcases hb with h | h
    · exact .inl h
    · exact .inr (k5 b h).2
theorem use_ok {K : Nat → Prop} {H : Hp} {po : Nat} {own out : Ts} {va vs : V} {name : List UInt8} (hst : H.stale = []) (hF : OutAt H po out vs) (hA : StrsAt K H own va) (hl : own.length ≤ 1099511627776) (hl' : out.length ≤ 1099511627776) : WF tab 82 [.str name, va, .ptr po 0] H fun _ H' => ∃ vs', OutAt H' po (useP own out name) vs' ∧ FKeep H po .nils vs H' .nils vs' := by
  refine wf82 (wp_sound _ ?_)
  have hrow := hF.row
  have c1 := hA.one; have c2 := hA.cells; have c3 := hF.ss.one; have c4 := hF.ss.cells
  simp [hst, hrow, c1, c2]
  refine (contains_ok hst hA hl).mono ?_
  rintro w H1 ⟨hH1, rfl⟩
  have hH2 := hH1.symm
  subst hH2
  by_cases ho : name ∈ own
  · simp [ho, hst, hrow]
    rw [show useP own out name = out by simp [useP, ho]]
    exact ⟨vs, hF, FKeep.refl hst⟩
  · simp [ho, hst, hrow, c3, c4]
    refine (contains_ok hst (sl_strs hF.ss fun b hb => (hF.rs b hb).1) hl').mono ?_
    rintro w H1 ⟨hH1, rfl⟩
    have hH2 := hH1.symm
    subst hH2
    by_cases hs : name ∈ out
    · simp [hs, hst]
      rw [show useP own out name = out by simp [useP, hs]]
      exact ⟨vs, hF, FKeep.refl hst⟩
    · simp [hs, hst, hrow, c3, c4]
      have hlt := hF.lt
      have hu : useP own out name = out ++ [name] := by simp [useP, ho, hs]
      refine wpL_app1 (H := H) (e0 := 9) (cells := [.str name]) (by simp [descOf]) ty9 (by decide) (by simp) (by simp) hF.ss (fun b hb => ⟨(hF.rs b hb).1, by simp [hst]⟩) rfl (by show (out.length + 1) * 16 ≤ _; omega) (by omega) (by simp [hst]) fun v' H3 hS hA => ?_
      obtain ⟨k1, k2⟩ := hA.keep po hlt (fun h => (hF.rs po h).2 rfl) (by simp [hst])
      have c5 := hS.one; have c6 := hS.cells
      simp [k1, k2, hrow, c5, c6]
      rw [hu]
      exact ⟨v', hF.app (ns := [name]) (H3 := H3) (k := 1) hst hS rfl hA (by simp) (by simp) (by simp [Hp.get_put]) (fun b hb => by simp [Hp.get_put, two_ne hb])⟩
theorem eql_sle : binE tab .eql 36 (.tmp 3) (.const (.slice none 0 0)) .sle .nils = some (.bool false) := by kernel_rfl
theorem eql_sl (b off n : Nat) (cap : Option Nat) (z : Nat) : binE tab .eql 36 (.tmp 3) (.const (.slice none 0 0)) (.sl b off n cap z) .nils = some (.bool false) := by kernel_rfl
theorem clone_ok {K : Nat → Prop} {H : Hp} {l : Ts} {v : V} (hst : H.stale = []) (hA : StrsAt K H l v) (hl : l.length ≤ 1099511627776) (hK : ∀ b ∈ rowsOf v, b < H.next) : WF tab 80 [v] H fun w H' => SlAt H' 9 1 w l.length (l.map .str) ∧ (∀ b ∈ rowsOf w, H.next ≤ b ∧ b < H'.next) ∧ Ext noX H H' := by
  refine wf80 (wp_sound _ ?_)
  have hT := take_strs hA
  by_cases h0 : v = .nils
  · subst h0
    have : l = [] := by
      rcases hA with ⟨_, h0⟩ | ⟨b', off, cap, e, ro, cells, h1, _⟩
      · exact List.eq_nil_of_length_eq_zero h0
      · cases h1
    subst this
    simp [hst]
    exact ⟨.nil, by simp [rowsOf], by simp, by simp, fun b hb _ => by rw [Hp.get_flush, if_neg (by simp [hst])]⟩
  · have hn : v = .sle ∨ ∃ b off n cap z, v = .sl b off n cap z := by
      rcases hA with ⟨rfl | rfl, _⟩ | ⟨b', off, cap, e, ro, cells, h1, _⟩
      · exact absurd rfl h0
      · exact .inl rfl
      · exact .inr ⟨_, _, _, _, _, h1⟩
    have n1 := hA.one; have n2 := hA.cells
    have hS0 : SlAt (H.new (.row 9 1 false [])) 9 1 (.sl H.next 0 0 none 1) 0 [] := SlAt.row H.next 0 [] (get_new_self _ _) (by simp)
    have hgn : ∀ b, b < H.next → (H.new (.row 9 1 false [])).get b = H.get b := fun b hb => by simp [Hp.get_new, old_ne hb]
    have hT1 : takeSl (H.new (.row 9 1 false [])).get 1 v = some (l.length, l.map .str) := by
      rw [← hT]
      rcases hn with rfl | ⟨b, off, n, cap, z, rfl⟩
      · rfl
      · simp only [takeSl]
        rw [hgn b (hK b (by simp [rowsOf]))]
    by_cases hl0 : l = []
    · subst hl0
      rcases hn with rfl | ⟨b, off, n, cap, z, rfl⟩
      all_goals
        simp [hst, eql_sle, eql_sl]
        refine wpL_app0 (by simp [descOf]) ty9 (by simp) (by simp) hS0 (takeX_sl.trans hT1) ?_
        simp [hst]
        exact ⟨hS0, by simp [rowsOf], Ext.new hst _⟩
    · have hpl : 0 < l.length := List.length_pos_iff.2 hl0
      have : ∃ b off n cap z, v = .sl b off n cap z := by
        rcases hn with rfl | h
        · rcases hA with ⟨_, h⟩ | ⟨_, _, _, _, _, _, h1, _⟩
          · omega
          · cases h1
        · exact h
      obtain ⟨b, off, n, cap, z, rfl⟩ := this
      simp [hst, eql_sl]
      refine wpL_app (H := H.new (.row 9 1 false [])) (x := .sl b off n cap z) (by simp [descOf]) ty9 (by decide) (by simp) (by simp) hS0 (fun b hb => ⟨by simp [rowsOf] at hb; subst hb; simp, by simp [hst]⟩) hT1 hpl (by simp) (by show (0 + l.length) * 16 ≤ _; omega) (by omega) (fun c hc => ?_) (by simp [hst]) fun v' H3 hS hA' => ?_
      · simp [rowsOf] at hc
        subst hc
        exact ⟨by simp [hst], by have := hK c (by simp [rowsOf]); simp [rowsOf]; omega⟩
      · obtain ⟨k1, k2, k3, k4, k5⟩ := app_flush' (H := H.new (.row 9 1 false [])) (by simp [hst]) hS hA'
        have c5 := hS.one; have c6 := hS.cells
        simp [c5, c6]
        simp at k4
        refine ⟨by simpa using k1, fun b hb => ?_, by simp, by simp; omega, fun b hb _ => ?_⟩
        · have := k5 b hb
          simp [rowsOf] at this
          omega
        · rw [← hgn b hb]
          exact k2 b (by simp; omega) (by simp [rowsOf]; omega)
end Go.AM.YtkmkkgfdobaplaaGreatDoorT
/- Names that are used: by definition. -/
set_option linter.unusedVariables false
set_option linter.unusedSimpArgs false
set_option maxRecDepth 100000
namespace Go.AM.YtkmkkgfdobaplaaGreatDoorT
open Go Go.AM Go.Proofs
/-- The functions by definition: what they come to. -/
def ExR (e : Tx) : Prop := ∀ (H : Hp) (po : Nat) (own out : Ts) (va vs : V) (cs : List V) (K : Nat → Prop), H.stale = [] → OutAt H po out vs → ExpAt K H e cs → StrsAt K H own va → Dj K H po .nils vs → own.length + out.length + e.wt ≤ 1099511627776 →
  WF tab 81 [.agg cs, va, .ptr po 0] H fun _ H' => ∃ vs', OutAt H' po (freeE e own out) vs' ∧ FKeep H po .nils vs H' .nils vs'
def BlR (l : List Tx) : Prop := ∀ (H : Hp) (po : Nat) (own out : Ts) (va vs v : V) (K : Nat → Prop), H.stale = [] → OutAt H po out vs → TreesAt K H l v → StrsAt K H own va → Dj K H po .nils vs → own.length + out.length + wts l ≤ 1099511627776 →
  WF tab 53 [v, va, .ptr po 0] H fun _ H' => ∃ vs', OutAt H' po (freeB l own out) vs' ∧ FKeep H po .nils vs H' .nils vs'
structure J81 (H0 : Hp) (po : Nat) (own out : Ts) (va vs0 v : V) (parts : List Tx) (i : Nat) (vs : V) (F : Fr) (H : Hp) : Prop where
  le : i ≤ parts.length
  fin : OutAt H po (freeEs (parts.take i) own out) vs
  keep : FKeep H0 po .nils vs0 H .nils vs
  f1 : F.get 1 = some va
  f2 : F.get 2 = some (.ptr po 0)
  f30 : F.get 34 = some v
  f31 : F.get 35 = some (.int .i64 parts.length)
  f32 : F.get 36 = some (.int .i64 i)
theorem reparts_loop {K : Nat → Prop} {H0 : Hp} {po : Nat} {own out : Ts} {va vs0 v : V} {parts : List Tx} (hP : ∀ p ∈ parts, ExR p) (hK : Dj K H0 po .nils vs0) (hA : StrsAt K H0 own va) (hT : TreesAt K H0 parts v) (hb : own.length + out.length + wts parts ≤ 1099511627776) {F : Fr} {H : Hp} {Q : PC} {vs : V} (h0 : J81 H0 po own out va vs0 v parts 0 vs F H)
    (hQ : ∀ vs' F' H', OutAt H' po (freeEs parts own out) vs' → FKeep H0 po .nils vs0 H' .nils vs' → Q (.exit 2) F' H') : WC tab (.loop L81_1) F H Q := by
  refine loop_of (fun k F H => ∃ i vs, i + k = parts.length ∧ J81 H0 po own out va vs0 v parts i vs F H) (m := parts.length) ⟨0, vs, by omega, h0⟩ ?_
  rintro k F H ⟨i, vs, hi, I⟩
  have hst := I.keep.st
  have f1 := I.f1; have f2 := I.f2; have f30 := I.f30; have f31 := I.f31; have f32 := I.f32
  by_cases hlt : i < parts.length
  · have hlt' : (i : Int) < (parts.length : Int) := by omega
    have hTi := hT.mono (hK.stays I.keep)
    obtain ⟨b, off, cap, e, ro, cells, d0, d1, d2, d3, d4, d5, rfl, g1, g2, g3, g4, g5, g6, g7, n0, n1, n2, n3, n4, n5⟩ := TreesAt.at_ hTi hlt
    have hw : wr .i64 ((i : Int) + 1) = ((i + 1 : Nat) : Int) := by
      have := len_wts parts
      rw [wr_i64 (by omega) (by omega)]; omega
    have hoff : off + i * 6 + 6 ≤ cells.length := by omega
    simp [L81_1, f1, f2, f30, f31, f32, hst, hlt, hlt', g1, g4, g5, g6, hoff, n0, n1, n2, n3, n4, n5]
    have hfin := I.fin
    have hfl := freeEs_len (parts.take i) own out
    have hwt := wts_take parts i hlt
    have hNk : ∀ o o' : Ob, FKeep H po .nils vs ((H.new o).put H.next o') .nils vs := fun o o' => FKeep.news (by simp [hst]) (by simp) (fun b hb => by simp [Hp.get_new, Hp.get_put, old_ne hb])
    have hK1 := (hK.keep I.keep).keep (hNk (.row 53 6 false [.int .i64 0, .int .i64 0, .str [], .nils, .nils, .nils]) (.row 53 6 false [d0, d1, d2, d3, d4, d5]))
    refine (hP parts[i] (List.getElem_mem hlt) _ po own _ va vs _ K (by simp [hst]) (hfin.keep (by simp) fun b hb => by simp [Hp.get_new, Hp.get_put, old_ne hb]) (ExpAt.mono ((hK.keep I.keep).stays (hNk _ _)) _ _ g7) ((hA.mono (hK.stays I.keep)).mono ((hK.keep I.keep).stays (hNk _ _))) hK1 (by omega)).mono ?_
    rintro w H2 ⟨vs', hF2, hk2⟩
    simp [f32, hw, hk2.st]
    have hs : freeE parts[i] own (freeEs (parts.take i) own out) = freeEs (parts.take (i + 1)) own out := by rw [List.take_succ_eq_append_getElem hlt, freeEs_snoc]
    rw [hs] at hF2
    exact ⟨k - 1, by omega, i + 1, by omega, vs', by omega, hF2, (I.keep.trans (hNk _ _)).trans hk2, by simp [f1], by simp [f2], by simp [f30], by simp [f31], by simp⟩
  · have hlt' : ¬ (i : Int) < (parts.length : Int) := by omega
    have hfin := I.fin
    rw [List.take_of_length_le (by omega)] at hfin
    simp [L81_1, f1, f2, f30, f31, f32, hst, hlt']
    exact hQ _ _ _ hfin I.keep
structure N81 (H0 : Hp) (po eb : Nat) (own out : Ts) (va vs0 w vp : V) (L : Ts) (i : Nat) (vs : V) (F : Fr) (H : Hp) : Prop where
  le : i ≤ L.length
  fin : OutAt H po ((L.take i).foldl (useP own) out) vs
  keep : FKeep H0 po .nils vs0 H .nils vs
  f1 : F.get 1 = some va
  f2 : F.get 2 = some (.ptr po 0)
  f3 : F.get 3 = some (.ptr eb 0)
  f19 : F.get 22 = some w
  f20 : F.get 23 = some (.int .i64 L.length)
  f21 : F.get 24 = some (.int .i64 i)
theorem rnames_loop {K : Nat → Prop} {H0 : Hp} {po eb : Nat} {own out : Ts} {va vs0 w vp : V} {L : Ts} (hK : Dj K H0 po .nils vs0) (hA : StrsAt K H0 own va) (hT : StrsAt K H0 L w) (hb : own.length + out.length + L.length ≤ 1099511627776) {F : Fr} {H : Hp} {Q : PC} {vs : V} (h0 : N81 H0 po eb own out va vs0 w vp L 0 vs F H)
    (hQ : ∀ vs' F' H', OutAt H' po (L.foldl (useP own) out) vs' → FKeep H0 po .nils vs0 H' .nils vs' → F'.get 1 = some va → F'.get 2 = some (.ptr po 0) → F'.get 3 = some (.ptr eb 0) → Q (.exit 0) F' H') : WC tab (.loop L81_0) F H Q := by
  refine loop_of (fun k F H => ∃ i vs, i + k = L.length ∧ N81 H0 po eb own out va vs0 w vp L i vs F H) (m := L.length) ⟨0, vs, by omega, h0⟩ ?_
  rintro k F H ⟨i, vs, hi, I⟩
  have hst := I.keep.st
  have f1 := I.f1; have f2 := I.f2; have f3 := I.f3; have f19 := I.f19; have f20 := I.f20; have f21 := I.f21
  by_cases hlt : i < L.length
  · have hlt' : (i : Int) < (L.length : Int) := by omega
    have hTi := hT.mono (hK.stays I.keep)
    obtain ⟨b, off, cap, e, ro, cells, rfl, g1, g2, g3, g4, g5⟩ := StrsAt.at_ hTi hlt
    have hw : wr .i64 ((i : Int) + 1) = ((i + 1 : Nat) : Int) := by rw [wr_i64 (by omega) (by omega)]; omega
    simp [L81_0, f1, f2, f19, f20, f21, hst, hlt, hlt', g1, g5]
    have hfl := fold_len own (L.take i) out
    have htl : (L.take i).length ≤ i := by simp; omega
    refine (use_ok hst I.fin (hA.mono (hK.stays I.keep)) (by omega) (by omega)).mono ?_
    rintro u H2 ⟨vs', hF2, hk2⟩
    simp [f21, hw, hk2.st]
    have hs : useP own ((L.take i).foldl (useP own) out) L[i] = (L.take (i + 1)).foldl (useP own) out := by rw [List.take_succ_eq_append_getElem hlt, List.foldl_append]; rfl
    rw [hs] at hF2
    exact ⟨k - 1, by omega, i + 1, by omega, vs', by omega, hF2, I.keep.trans hk2, by simp [f1], by simp [f2], by simp [f3], by simp [f19], by simp [f20], by simp⟩
  · have hlt' : ¬ (i : Int) < (L.length : Int) := by omega
    have hfin := I.fin
    rw [List.take_of_length_le (by omega)] at hfin
    simp [L81_0, f1, f2, f19, f20, f21, hst, hlt']
    exact hQ _ _ _ hfin I.keep (by simp [f1]) (by simp [f2]) (by simp [f3])
end Go.AM.YtkmkkgfdobaplaaGreatDoorT
/- Names that are used: by definition. -/
set_option linter.unusedVariables false
set_option linter.unusedSimpArgs false
set_option maxRecDepth 100000
namespace Go.AM.YtkmkkgfdobaplaaGreatDoorT
open Go Go.AM Go.Proofs
theorem rfree_ok {body : List Tx} (hB : BlR body) {op : Nat} {num : Int} {text : List UInt8} {parts : List Tx} {params : Ts} {H : Hp} {cs : List V} {K : Nat → Prop} (hst : H.stale = []) (hT : ExpAt K H (.ex op num text parts params body) cs) (hK : ∀ b, K b → b < H.next) (hb : params.length + wts body ≤ 1099511627776) :
    WF tab 33 [.agg cs] H fun w H' => SlAt H' 9 1 w (freeB body params []).length ((freeB body params []).map .str) ∧ (∀ b ∈ rowsOf w, H.next ≤ b ∧ b < H'.next) ∧ Ext noX H H' := by
  refine wf33 (wp_sound _ ?_)
  have hT0 := hT
  simp only [ExpAt] at hT
  obtain ⟨vp, vq, vb, rfl, t1, t2, t3⟩ := hT
  have n1 := t1.one; have n2 := t2.one; have n3 := t3.one
  simp [hst, n1, n2, n3, Hp.get_new]
  have hg : ∀ o o' b, b < H.next → ((H.new o).new o').get b = H.get b := fun o o' b hb => by simp [Hp.get_new, old_ne hb]
  have hS : ∀ o o', Stays K K H ((H.new o).new o') := fun o o' => ⟨fun b hb _ => hb, fun b hb hx => hg o o' b hx, by simp; omega⟩
  have hF : OutAt ((H.new (.row 53 6 false [.int .i64 op, .int .i64 num, .str text, vp, vq, vb])).new (.row 36 1 false [.nils])) (H.next + 1) [] .nils := ⟨by simp [Hp.get_new], by simp, .nil, fun b hb => by simp [rowsOf] at hb⟩
  refine (hB _ (H.next + 1) params [] vq .nils vb K (by simp [hst]) hF (t3.mono (hS _ _) (ElsAt.mono (hS _ _) body)) (t2.mono (hS _ _) fun _ h => h) (fun b hb => ⟨by have := hK b hb; simp; omega, by have := hK b hb; omega, by simp [rowsOf], by simp [rowsOf]⟩) (by simp; omega)).mono ?_
  rintro u H2 ⟨vs', hF2, hk2⟩
  have s2 := hk2.st
  have hrow := hF2.row
  have c1 := hF2.ss.one; have c2 := hF2.ss.cells
  have l2 := hk2.le
  simp at l2
  simp [s2, hrow, c1, c2]
  have hr : ∀ b, b ∈ rowsOf vs' → H.next ≤ b := fun b hb => by
    rcases hk2.own b (.inr hb) with g | g | g
    · simp [rowsOf] at g
    · simp [rowsOf] at g
    · simp at g; omega
  refine ⟨hF2.ss, fun b hb => ⟨hr b hb, (hF2.rs b hb).1⟩, s2, by omega, fun b hb _ => ?_⟩
  rw [hk2.get b (by simp; omega) (by omega) (by simp [rowsOf]) (by simp [rowsOf])]
  exact hg _ _ b hb
theorem exR_ok {op : Nat} {num : Int} {text : List UInt8} {parts : List Tx} {params : Ts} {body : List Tx} (hP : ∀ p ∈ parts, ExR p) (hB : BlR body) : ExR (.ex op num text parts params body) := by
  intro H po own out va vs cs K hst hF hT hA hK hb
  refine wf81 (wp_sound _ ?_)
  have hT0 := hT
  simp only [ExpAt] at hT
  obtain ⟨vp, vq, vb, rfl, t1, t2, t3⟩ := hT
  simp only [Tx.wt] at hb
  have n1 := t1.one; have n2 := t2.one; have n3 := t3.one
  have c1 := t1.cells; have c2 := t2.cells; have c3 := t3.cells
  have hlt := hF.lt
  -- the parts
  have tail : ∀ (F' : Fr) (H' : Hp) (o1 : Ts) (vs1 : V), o1.length ≤ out.length + 1 + wts body → freeE (.ex op num text parts params body) own out = freeEs parts own o1 → OutAt H' po o1 vs1 → FKeep H po .nils vs H' .nils vs1 → F'.get 1 = some va → F'.get 2 = some (.ptr po 0) → F'.get 34 = some vp → F'.get 35 = some (.int .i64 parts.length) → F'.get 36 = some (.int .i64 0) →
      WC tab (.loop L81_1) F' H' (blockQ 2 (resQ tab [] fun _ H' => ∃ vs', OutAt H' po (freeE (.ex op num text parts params body) own out) vs' ∧ FKeep H po .nils vs H' .nils vs')) := by
    intro F' H' o1 vs1 a1 a2 a3 a4 b1 b2 b30 b31 b32
    rw [a2]
    have st := hK.stays a4
    have hst' := a4.st
    refine reparts_loop (H0 := H') (own := own) (parts := parts) (v := vp) (po := po) (va := va) (out := o1) (vs0 := vs1) (vs := vs1) hP (hK.keep a4) (hA.mono st) (t1.mono st (ElsAt.mono st parts)) (by omega) ⟨Nat.zero_le _, by simpa only [List.take_zero, freeEs] using a3, FKeep.refl hst', b1, b2, b30, b31, by simpa using b32⟩ ?_
    intro vs' F2 H2 g1 g2
    simp only [bl_exit, if_true]
    simp [resQ]
    exact ⟨vs', g1, a4.trans g2⟩
  have hkn : ∀ o : Ob, FKeep H po .nils vs (H.new o) .nils vs := fun o => FKeep.news (by simp [hst]) (by simp) fun b hb => by simp [Hp.get_new, old_ne hb]
  have hfn : ∀ o : Ob, OutAt (H.new o) po out vs := fun o => hF.keep (by simp) fun b hb => by simp [Hp.get_new, old_ne hb]
  have l1 := t1.len 53
  by_cases h5 : op = 5
  · subst h5
    simp [hst, n1, n2, n3, Hp.get_new, c1, c2, c3]
    refine (use_ok (by simp [hst]) (hfn _) (hA.mono (hK.stays (hkn _))) (by omega) (by omega)).mono ?_
    rintro w H2 ⟨vs', hF2, hk2⟩
    have kk := (hkn (.row 53 6 false [.int .i64 5, .int .i64 num, .str text, vp, vq, vb])).trans hk2
    have hE : H2.get H.next = some (.row 53 6 false [.int .i64 5, .int .i64 num, .str text, vp, vq, vb]) := by
      rw [hk2.get H.next (by simp) (by omega) (by simp [rowsOf]) (fun h => ?_)]
      · simp [Hp.get_new]
      · have := (hF.rs _ h).1; omega
    simp [kk.st, hE, l1]
    exact tail _ _ (useP own out text) vs' (by have := useP_len own out text; omega) (by simp [freeE]) hF2 kk (by simp) (by simp) (by simp) (by simp) (by simp)
  by_cases h17 : op = 17
  · subst h17
    simp [hst, n1, n2, n3, Hp.get_new, c1, c2, c3]
    have hT1 : ExpAt K (H.new (.row 53 6 false [.int .i64 17, .int .i64 num, .str text, vp, vq, vb])) (.ex 17 num text parts params body) [.int .i64 17, .int .i64 num, .str text, vp, vq, vb] := ExpAt.mono (hK.stays (hkn _)) _ _ hT0
    refine (rfree_ok hB (by simp [hst]) hT1 (fun b hb => by have := (hK b hb).1; simp; omega) (by omega)).mono ?_
    rintro w H2 ⟨hS, hr, hX⟩
    have s2 := hX.st
    have l2 := hX.le
    simp at l2
    have hE : H2.get H.next = some (.row 53 6 false [.int .i64 17, .int .i64 num, .str text, vp, vq, vb]) := by
      rw [hX.get H.next (by simp) (fun h => h)]; simp [Hp.get_new]
    have k2 : FKeep H po .nils vs H2 .nils vs := (hkn _).trans (FKeep.news s2 hX.le fun b hb => hX.get b hb fun h => h)
    have hF2 : OutAt H2 po out vs := (hfn _).keep hX.le fun b hb => hX.get b hb fun h => h
    have hLb := freeB_len body params []
    simp only [List.length_nil] at hLb
    generalize hL : freeB body params [] = L at *
    have hTL : StrsAt (fun b => b ∈ rowsOf w) H2 L w := StrsAt.of_slAt hS (fun b hb => ⟨hb, (hr b hb).2⟩) rfl
    have lw := hTL.len 9
    simp [s2, lw, hTL.one, hTL.cells]
    refine rnames_loop (K := fun b => K b ∨ b ∈ rowsOf w) (H0 := H2) (po := po) (eb := H.next) (own := own) (out := out) (va := va) (vs0 := vs) (w := w) (vp := w) (L := L) (vs := vs) (fun b hb => ?_) (hA.mono ⟨fun b hb _ => .inl hb, fun b hb hx => k2.get b hx (hK b hb).2.1 (hK b hb).2.2.1 (hK b hb).2.2.2, k2.le⟩) (hTL.mono ⟨fun b hb _ => .inr hb, fun _ _ _ => rfl, Nat.le_refl _⟩) (by omega) ⟨Nat.zero_le _, by simpa using hF2, FKeep.refl s2, by simp, by simp, by simp, by simp, by simp, by simp⟩ ?_
    · have hlt' := hF.lt
      rcases hb with hb | hb
      · exact hK.keep k2 b hb
      · have h1 := hr b hb
        simp at h1
        exact ⟨by omega, by omega, by simp [rowsOf], fun h => by have := (hF.rs _ h).1; omega⟩
    · intro vs' F' H3 g1 g2 g3 g5 g4
      have kk := k2.trans g2
      have hE3 : H3.get H.next = some (.row 53 6 false [.int .i64 17, .int .i64 num, .str text, vp, vq, vb]) := by
        rw [g2.get H.next (by omega) (by omega) (by simp [rowsOf]) (fun h => ?_)]
        · exact hE
        · have := (hF.rs _ h).1; omega
      simp [kk.st, hE3, l1, g3, g4, g5]
      have hfl := fold_len own L out
      exact tail _ _ (L.foldl (useP own) out) vs' (by omega) (by simp [freeE, hL]) g1 kk (by simp [g3]) (by simp [g5]) (by simp) (by simp) (by simp)
  · have e5 : ((op : Int) == 5) = false := beq_false_of_ne (by omega)
    have e17 : ((op : Int) == 17) = false := beq_false_of_ne (by omega)
    simp [hst, n1, n2, n3, Hp.get_new, c1, c2, c3, e5, e17, l1]
    exact tail _ _ out vs (by omega) (by simp [freeE, h5, h17]) (hfn _) (hkn _) (by simp) (by simp) (by simp) (by simp) (by simp)
end Go.AM.YtkmkkgfdobaplaaGreatDoorT
/- Names that are used: by definition. -/
set_option linter.unusedVariables false
set_option linter.unusedSimpArgs false
set_option maxRecDepth 100000
namespace Go.AM.YtkmkkgfdobaplaaGreatDoorT
open Go Go.AM Go.Proofs
structure J53 (F0 : Fr) (H0 : Hp) (po : Nat) (own out : Ts) (va vs0 v : V) (parts : List Tx) (i : Nat) (vs : V) (F : Fr) (H : Hp) : Prop where
  le : i ≤ parts.length
  fin : OutAt H po (freeEs (parts.take i) own out) vs
  keep : FKeep H0 po .nils vs0 H .nils vs
  f1 : F.get 1 = some va
  f2 : F.get 2 = some (.ptr po 0)
  f7 : F.get 7 = F0.get 7
  f13 : F.get 13 = F0.get 13
  f14 : F.get 14 = F0.get 14
  f15 : F.get 15 = F0.get 15
  f30 : F.get 20 = some v
  f31 : F.get 21 = some (.int .i64 parts.length)
  f32 : F.get 22 = some (.int .i64 i)
theorem rsexprs_loop {K : Nat → Prop} {H0 : Hp} {po : Nat} {own out : Ts} {va vs0 v : V} {parts : List Tx} (hP : ∀ p ∈ parts, ExR p) (hK : Dj K H0 po .nils vs0) (hA : StrsAt K H0 own va) (hT : TreesAt K H0 parts v) (hb : own.length + out.length + wts parts ≤ 1099511627776) {F0 F : Fr} {H : Hp} {Q : PC} {vs : V} (h0 : J53 F0 H0 po own out va vs0 v parts 0 vs F H)
    (hQ : ∀ vs' F' H', OutAt H' po (freeEs parts own out) vs' → FKeep H0 po .nils vs0 H' .nils vs' → F'.get 1 = some va → F'.get 2 = some (.ptr po 0) → F'.get 7 = F0.get 7 → F'.get 13 = F0.get 13 → F'.get 14 = F0.get 14 → F'.get 15 = F0.get 15 → Q (.exit 2) F' H') : WC tab (.loop L53_0) F H Q := by
  refine loop_of (fun k F H => ∃ i vs, i + k = parts.length ∧ J53 F0 H0 po own out va vs0 v parts i vs F H) (m := parts.length) ⟨0, vs, by omega, h0⟩ ?_
  rintro k F H ⟨i, vs, hi, I⟩
  have hst := I.keep.st
  have f1 := I.f1; have f2 := I.f2; have f30 := I.f30; have f31 := I.f31; have f32 := I.f32
  by_cases hlt : i < parts.length
  · have hlt' : (i : Int) < (parts.length : Int) := by omega
    have hTi := hT.mono (hK.stays I.keep)
    obtain ⟨b, off, cap, e, ro, cells, d0, d1, d2, d3, d4, d5, rfl, g1, g2, g3, g4, g5, g6, g7, n0, n1, n2, n3, n4, n5⟩ := TreesAt.at_ hTi hlt
    have hw : wr .i64 ((i : Int) + 1) = ((i + 1 : Nat) : Int) := by
      have := len_wts parts
      rw [wr_i64 (by omega) (by omega)]; omega
    have hoff : off + i * 6 + 6 ≤ cells.length := by omega
    simp [L53_0, f1, f2, f30, f31, f32, hst, hlt, hlt', g1, g4, g5, g6, hoff, n0, n1, n2, n3, n4, n5]
    have hfin := I.fin
    have hfl := freeEs_len (parts.take i) own out
    have hwt := wts_take parts i hlt
    have hNk : ∀ o o' : Ob, FKeep H po .nils vs ((H.new o).put H.next o') .nils vs := fun o o' => FKeep.news (by simp [hst]) (by simp) (fun b hb => by simp [Hp.get_new, Hp.get_put, old_ne hb])
    have hK1 := (hK.keep I.keep).keep (hNk (.row 53 6 false [.int .i64 0, .int .i64 0, .str [], .nils, .nils, .nils]) (.row 53 6 false [d0, d1, d2, d3, d4, d5]))
    refine (hP parts[i] (List.getElem_mem hlt) _ po own _ va vs _ K (by simp [hst]) (hfin.keep (by simp) fun b hb => by simp [Hp.get_new, Hp.get_put, old_ne hb]) (ExpAt.mono ((hK.keep I.keep).stays (hNk _ _)) _ _ g7) ((hA.mono (hK.stays I.keep)).mono ((hK.keep I.keep).stays (hNk _ _))) hK1 (by omega)).mono ?_
    rintro w H2 ⟨vs', hF2, hk2⟩
    simp [f32, hw, hk2.st]
    have hs : freeE parts[i] own (freeEs (parts.take i) own out) = freeEs (parts.take (i + 1)) own out := by rw [List.take_succ_eq_append_getElem hlt, freeEs_snoc]
    rw [hs] at hF2
    exact ⟨k - 1, by omega, i + 1, by omega, vs', by omega, hF2, (I.keep.trans (hNk _ _)).trans hk2, by simp [f1], by simp [f2], by simp [I.f7], by simp [I.f13], by simp [I.f14], by simp [I.f15], by simp [f30], by simp [f31], by simp⟩
  · have hlt' : ¬ (i : Int) < (parts.length : Int) := by omega
    have hfin := I.fin
    rw [List.take_of_length_le (by omega)] at hfin
    simp [L53_0, f1, f2, f30, f31, f32, hst, hlt']
    exact hQ _ _ _ hfin I.keep (by simp [f1]) (by simp [f2]) (by simp [I.f7]) (by simp [I.f13]) (by simp [I.f14]) (by simp [I.f15])
/-- What a block's walk stands on: what is used, what is one's own, the statement's row. -/
structure BS (H0 : Hp) (po : Nat) (vs0 : V) (sb : Nat) (row : Ob) (own out : Ts) (vo vs : V) (H : Hp) : Prop where
  fin : OutAt H po out vs
  keep : FKeep H0 po .nils vs0 H .nils vs
  so : SlAt H 9 1 vo own.length (own.map .str)
  ro : ∀ b ∈ rowsOf vo, H0.next ≤ b ∧ b < H.next ∧ b ≠ po ∧ b ∉ rowsOf vs
  sg : H.get sb = some row
  sn : sb < H.next ∧ sb ≠ po ∧ sb ∉ rowsOf vo ∧ sb ∉ rowsOf vs
section
variable {K : Nat → Prop} {H0 H H' : Hp} {po sb : Nat} {row : Ob} {own out out' : Ts} {vs0 vo vs vs' : V}
theorem BS.step (h : BS H0 po vs0 sb row own out vo vs H) (hF : OutAt H' po out' vs') (hk : FKeep H po .nils vs H' .nils vs') : BS H0 po vs0 sb row own out' vo vs' H' := by
  have hl := hk.le
  have hg : ∀ b, b < H.next → b ≠ po → b ∉ rowsOf vs → H'.get b = H.get b := fun b h1 h2 h3 => hk.get b h1 h2 (by simp [rowsOf]) h3
  have hn : ∀ b, b < H.next → b ∉ rowsOf vs → b ∉ rowsOf vs' := fun b h1 h2 h3 => by
    rcases hk.own b (.inr h3) with g | g | g
    · simp [rowsOf] at g
    · exact h2 g
    · omega
  refine ⟨hF, h.keep.trans hk, h.so.of_get fun b hb => ?_, fun b hb => ?_, ?_, ?_⟩
  · have := h.ro b hb; exact hg b this.2.1 this.2.2.1 this.2.2.2
  · have := h.ro b hb; exact ⟨this.1, by omega, this.2.2.1, hn b this.2.1 this.2.2.2⟩
  · rw [hg sb h.sn.1 h.sn.2.1 h.sn.2.2.2]; exact h.sg
  · exact ⟨by have := h.sn.1; omega, h.sn.2.1, h.sn.2.2.1, hn sb h.sn.1 h.sn.2.2.2⟩
theorem BS.dj (h : BS H0 po vs0 sb row own out vo vs H) (hK : Dj K H0 po .nils vs0) : Dj (fun b => K b ∨ b ∈ rowsOf vo) H po .nils vs := fun b hb => by
  rcases hb with hb | hb
  · exact hK.keep h.keep b hb
  · have := h.ro b hb; exact ⟨this.2.1, this.2.2.1, by simp [rowsOf], this.2.2.2⟩
theorem BS.strs (h : BS H0 po vs0 sb row own out vo vs H) : StrsAt (fun b => K b ∨ b ∈ rowsOf vo) H own vo := StrsAt.of_slAt h.so (fun b hb => ⟨.inr hb, (h.ro b hb).2.1⟩) rfl
theorem BS.tr (h : BS H0 po vs0 sb row own out vo vs H) (hK : Dj K H0 po .nils vs0) : Stays K (fun b => K b ∨ b ∈ rowsOf vo) H0 H := ⟨fun b hb _ => .inl hb, (hK.stays h.keep).get, h.keep.le⟩
/-- One's own grows. -/
theorem BS.app {H3 H4 : Hp} {v' : V} {name : List UInt8} (h : BS H0 po vs0 sb row own out vo vs H) (hS : SlAt H3 9 1 v' (own.length + 1) (own.map .str ++ [.str name])) (hA : AppR H vo H3 v') (hs4 : H4.stale = []) (hn4 : H3.next ≤ H4.next) (hg : ∀ b, H4.get b = H3.flush.get b) : BS H0 po vs0 sb row (own ++ [name]) out v' vs H4 := by
  have hst := h.keep.st
  obtain ⟨k1, k2, k3, k4, k5⟩ := app_flush' hst hS hA
  rw [Hp.next_flush] at k4 k5
  have hle := h.keep.le
  have hgo : ∀ b, b < H.next → b ∉ rowsOf vo → H4.get b = H.get b := fun b h1 h2 => by rw [hg b, k2 b h1 h2]
  have hlt := h.fin.lt
  have hpo : po ∉ rowsOf vo := fun hx => (h.ro po hx).2.2.1 rfl
  have hvs : ∀ b ∈ rowsOf vs, b ∉ rowsOf vo := fun b hb hx => (h.ro b hx).2.2.2 hb
  refine ⟨⟨by rw [hgo po hlt hpo]; exact h.fin.row, by omega, h.fin.ss.of_get fun b hb => hgo b (h.fin.rs b hb).1 (hvs b hb), fun b hb => ⟨by have := (h.fin.rs b hb).1; omega, (h.fin.rs b hb).2⟩⟩, ⟨hs4, by omega, fun b hb h1 h2 h3 => ?_, h.keep.own⟩, ?_, fun b hb => ?_, ?_, ?_⟩
  · rw [hgo b (by omega) (fun hx => by have := (h.ro b hx).1; omega)]
    exact h.keep.get b hb h1 h2 h3
  · rw [List.length_append, List.map_append]
    exact k1.of_get fun b hb => hg b
  · obtain ⟨g1, g2⟩ := k5 b hb
    rcases g2 with g2 | g2
    · have := h.ro b g2; exact ⟨this.1, by omega, this.2.2⟩
    · exact ⟨by omega, by omega, by omega, fun hx => by have := (h.fin.rs b hx).1; omega⟩
  · rw [hgo sb h.sn.1 h.sn.2.2.1]; exact h.sg
  · refine ⟨by have := h.sn.1; omega, h.sn.2.1, fun hx => ?_, h.sn.2.2.2⟩
    rcases (k5 sb hx).2 with g | g
    · exact h.sn.2.2.1 g
    · have := h.sn.1; omega
end
end Go.AM.YtkmkkgfdobaplaaGreatDoorT
/- Names that are used: by definition. -/
set_option linter.unusedVariables false
set_option linter.unusedSimpArgs false
set_option maxRecDepth 100000
namespace Go.AM.YtkmkkgfdobaplaaGreatDoorT
open Go Go.AM Go.Proofs
structure O53 (H0 : Hp) (po : Nat) (own1 out : Ts) (vs0 v : V) (l : List Tx) (i : Nat) (vo vs : V) (F : Fr) (H : Hp) : Prop where
  le : i ≤ l.length
  fin : OutAt H po (freeB (l.take i) own1 out) vs
  keep : FKeep H0 po .nils vs0 H .nils vs
  so : SlAt H 9 1 vo (ownsP (l.take i) own1).length ((ownsP (l.take i) own1).map .str)
  ro : ∀ b ∈ rowsOf vo, H0.next ≤ b ∧ b < H.next ∧ b ≠ po ∧ b ∉ rowsOf vs
  f1 : F.get 1 = some vo
  f2 : F.get 2 = some (.ptr po 0)
  f13 : F.get 13 = some v
  f14 : F.get 14 = some (.int .i64 l.length)
  f15 : F.get 15 = some (.int .i64 i)
def Z53 : SCode := .seq (.reg R53_14) (.seq (.reg R53_15) (.seq (.seq (.reg R53_16) (.cond (.tmp 55) (.dreg R53_17) (.skip))) (.reg R53_18)))
def InR : Tx → Prop
  | .st _ _ es b e _ => (∀ x ∈ es, ExR x) ∧ BlR b ∧ BlR e
  | .ex .. => False
theorem rstmts_loop {K : Nat → Prop} {H0 : Hp} {po : Nat} {own1 out : Ts} {vs0 v : V} {l : List Tx} (hP : ∀ s ∈ l, InR s) (hK : Dj K H0 po .nils vs0) (hT : TreesAt K H0 l v) (hb : own1.length + out.length + wts l ≤ 1099511627776) (hpo : po < H0.next) {F : Fr} {H : Hp} {Q : PC} {vo vs : V} (h0 : O53 H0 po own1 out vs0 v l 0 vo vs F H)
    (hQ : ∀ vs' F' H', OutAt H' po (freeB l own1 out) vs' → FKeep H0 po .nils vs0 H' .nils vs' → Q (.exit 0) F' H') : WC tab (.loop L53_1) F H Q := by
  refine loop_of (fun k F H => ∃ i, i + k = l.length ∧ ∃ vo vs, O53 H0 po own1 out vs0 v l i vo vs F H) (m := l.length) ⟨0, by omega, vo, vs, h0⟩ ?_
  rintro k F H ⟨i, hi, vo, vs, I⟩
  have hL : L53_1 = .seq (.reg R53_2) (.seq (.cond (.tmp 16) (.skip) (.exit 0)) (.seq (.block 1 (.seq (.reg R53_3) (.seq (.seq (.reg R53_4) (.block 2 (.loop L53_0))) (.seq (.seq (.reg R53_9) (.block 4 (.seq (.reg R53_10) (.cond (.tmp 33) (.reg R53_11) (.seq (.reg R53_12) (.cond (.tmp 40) (.reg R53_13) (.skip))))))) Z53)))) (.reg R53_19))) := rfl
  rw [hL]
  have hst := I.keep.st
  have f1 := I.f1; have f2 := I.f2; have f13 := I.f13; have f14 := I.f14; have f15 := I.f15
  by_cases hlt : i < l.length
  · have hlt' : (i : Int) < (l.length : Int) := by omega
    have hTi := hT.mono (hK.stays I.keep)
    obtain ⟨b, off, cap, e, ro, cells, d0, d1, d2, d3, d4, d5, rfl, g1, g2, g3, g4, g5, g6, g7, n0, n1, n2, n3, n4, n5⟩ := TreesAt.at_ hTi hlt
    have hll := len_wts l
    have hw : wr .i64 ((i : Int) + 1) = ((i + 1 : Nat) : Int) := by rw [wr_i64 (by omega) (by omega)]; omega
    have hoff : off + i * 6 + 6 ≤ cells.length := by omega
    have hPi := hP l[i] (List.getElem_mem hlt)
    have hwt := wts_take l i hlt
    have htk : ownsP (l.take (i + 1)) own1 = ownP (ownsP (l.take i) own1) l[i] := by rw [List.take_succ_eq_append_getElem hlt, ownsP, ownsP, List.foldl_append]; rfl
    have hfk : freeB (l.take (i + 1)) own1 out = freeS l[i] (ownsP (l.take i) own1) (freeB (l.take i) own1 out) := by rw [List.take_succ_eq_append_getElem hlt, freeB_snoc]
    have hol := ownsP_len (l.take i) own1 out
    have hfin := I.fin
    have hso := I.so
    have hro := I.ro
    have hKi := hK.keep I.keep
    have fin : ∀ (F' : Fr) (H' : Hp) (vo' vs' : V) (sb : Nat) (row : Ob), BS H0 po vs0 sb row (ownP (ownsP (l.take i) own1) l[i]) (freeS l[i] (ownsP (l.take i) own1) (freeB (l.take i) own1 out)) vo' vs' H' → F'.get 1 = some vo' → F'.get 2 = some (.ptr po 0) → F'.get 13 = some (.sl b off l.length cap 6) → F'.get 14 = some (.int .i64 l.length) → F'.get 15 = some (.int .i64 (i + 1 : Nat)) → ∃ m', m' < k ∧ ∃ i, i + m' = l.length ∧ ∃ vo vs, O53 H0 po own1 out vs0 (.sl b off l.length cap 6) l i vo vs F' H' := fun F' H' vo' vs' sb row B b1 b2 b13 b14 b15 =>
      ⟨k - 1, by omega, i + 1, by omega, vo', vs', by omega, by rw [hfk]; exact B.fin, B.keep, by rw [htk]; exact B.so, B.ro, b1, b2, b13, b14, b15⟩
    generalize hown : ownsP (l.take i) own1 = own at *
    generalize hout : freeB (l.take i) own1 out = ou at *
    generalize hs : l[i] = s at *
    match s, hPi with
    | .st kind name es sbd els at_, hPi =>
      obtain ⟨p1, p2, p3⟩ := hPi
      have g7' := g7
      simp only [ExpAt] at g7'
      obtain ⟨ve, vb, vl, hcs, t1, t2, t3⟩ := g7'
      cases hcs
      simp only [Tx.wt] at hwt
      simp [f1, f2, f13, f14, f15, hst, hlt, hlt', g1, g4, g5, g6, hoff, n0, n1, n2, n3, n4, n5, Hp.get_new, Hp.get_put, t1.len 53]
      have hlt0 := hfin.lt
      have hg0 : ∀ o o' : Ob, ∀ b, b < H.next → ((H.new o).put H.next o').get b = H.get b := fun o o' b hb => by simp [Hp.get_new, Hp.get_put, old_ne hb]
      have k00 : FKeep H po .nils vs ((H.new (.row 46 6 false [.int .i64 0, .str [], .nils, .nils, .nils, .int .i64 0])).put H.next (.row 46 6 false [.int .i64 kind, .str name, d2, d3, d4, .int .i64 at_])) .nils vs := FKeep.news (by simp [hst]) (by simp) (hg0 _ _)
      have hF0 := hfin.keep k00.le (hg0 _ _)
      have B0 : BS H0 po vs0 H.next (.row 46 6 false [.int .i64 kind, .str name, d2, d3, d4, .int .i64 at_]) own ou vo vs ((H.new (.row 46 6 false [.int .i64 0, .str [], .nils, .nils, .nils, .int .i64 0])).put H.next (.row 46 6 false [.int .i64 kind, .str name, d2, d3, d4, .int .i64 at_])) :=
        ⟨hF0, I.keep.trans k00, hso.of_get fun b hb => hg0 _ _ b (hro b hb).2.1, fun b hb => ⟨(hro b hb).1, by have := (hro b hb).2.1; simp; omega, (hro b hb).2.2⟩, by simp [Hp.get_put], by simp, by omega, fun h => by have := (hro _ h).2.1; omega, fun h => by have := (hfin.rs _ h).1; omega⟩
      have s1 := hKi.stays k00
      generalize hH1 : ((H.new (.row 46 6 false [.int .i64 0, .str [], .nils, .nils, .nils, .int .i64 0])).put H.next (.row 46 6 false [.int .i64 kind, .str name, d2, d3, d4, .int .i64 at_])) = H1 at *
      have tS : ∀ {H' : Hp} {own' o2 : Ts} {vo2 vs2 : V} (R : Nat → Prop), BS H0 po vs0 H.next (.row 46 6 false [.int .i64 kind, .str name, d2, d3, d4, .int .i64 at_]) own' o2 vo2 vs2 H' → Stays K (fun b => K b ∨ R b) H H' := fun {H' own' o2 vo2 vs2} R B =>
        ⟨fun b hb _ => .inl hb, fun b hb _ => ((hK.stays B.keep).get b hb (hK b hb).1).trans ((hK.stays I.keep).get b hb (hK b hb).1).symm, by have := B.sn.1; omega⟩
      -- from the bodies on
      have tail : ∀ (F' : Fr) (H' : Hp) (own' o2 : Ts) (vo2 vs2 : V), BS H0 po vs0 H.next (.row 46 6 false [.int .i64 kind, .str name, d2, d3, d4, .int .i64 at_]) own' o2 vo2 vs2 H' → ownP own (.st kind name es sbd els at_) = own' → freeS (.st kind name es sbd els at_) own ou = freeB els (if kind = 7 then own' ++ [name] else own') (freeB sbd own' o2) → own'.length + o2.length + wts sbd + wts els ≤ 1099511627776 → (kind = 7 → own'.length + o2.length + 1 + wts sbd + wts els ≤ 1099511627776) → F'.get 1 = some vo2 → F'.get 2 = some (.ptr po 0) → F'.get 7 = some (.ptr H.next 0) → F'.get 13 = some (.sl b off l.length cap 6) → F'.get 14 = some (.int .i64 l.length) → F'.get 15 = some (.int .i64 i) →
          wp tab Z53 F' H' (blockQ 1 (sqQ tab (.reg R53_19) (loopQ (fun k F H => ∃ i, i + k = l.length ∧ ∃ vo vs, O53 H0 po own1 out vs0 (.sl b off l.length cap 6) l i vo vs F H) k Q))) := by
        intro F' H' own' o2 vo2 vs2 B a3 a4 a5 a6 b1 b2 b7 b13 b14 b15
        have e2 := B.sg
        have m1 := B.so.one; have m2 := B.so.cells
        simp [Z53, b1, b2, b7, B.keep.st, e2]
        refine (p2 H' po own' o2 vo2 vs2 d3 (fun b => K b ∨ b ∈ rowsOf vo2) B.keep.st B.fin (t2.mono (tS _ B) (ElsAt.mono (tS _ B) sbd)) B.strs (B.dj hK) (by omega)).mono ?_
        rintro w H3 ⟨vs3, hF3, hk3⟩
        have B3 := B.step hF3 hk3
        have e3 := B3.sg
        have hfl := freeB_len sbd own' o2
        have s3 := hk3.st
        have m1 := B3.so.one; have m2 := B3.so.cells
        by_cases hk7 : kind = 7
        · subst hk7
          rw [if_pos rfl] at a4
          have a7 := a6 rfl
          simp [b1, b2, b7, s3, e3]
          refine (clone_ok s3 (K := fun b => K b ∨ b ∈ rowsOf vo2) B3.strs (by omega) (fun b hb => (B3.ro b hb).2.1)).mono ?_
          rintro u H4 ⟨hS4, hr4, hX4⟩
          have s4 := hX4.st
          have l4 := hX4.le
          have e4 : H4.get H.next = _ := (hX4.get H.next B3.sn.1 (fun h => h)).trans e3
          simp [b7, s3, s4, e3, e4, eqV]
          have hg4 : ∀ b, b < H3.next → H4.get b = H3.get b := fun b hb => hX4.get b hb (fun h => h)
          have hS4' : SlAt H4.bump 9 1 u own'.length (own'.map .str) := hS4.of_get fun _ _ => rfl
          refine wpD_app1 (H := H4.bump) (e0 := 9) (cells := [.str name]) (by simp [descOf]) ty9 (by decide) (by simp) (by simp) hS4' (fun b hb => ⟨by have := (hr4 b hb).2; show b < H4.next + 1; omega, by simp [s4]⟩) rfl (by show (own'.length + 1) * 16 ≤ _; omega) (by omega) (by simp [s4]) fun v' H5 hS hA => ?_
          obtain ⟨k1, k2, k3, k4, k5⟩ := app_flush' (H := H4.bump) (by simp [s4]) hS hA
          rw [Hp.next_flush] at k4 k5
          have hbn : H4.bump.next = H4.next + 1 := rfl
          have c5 := hS.one; have c6 := hS.cells
          have hg5 : ∀ b, b < H3.next → H5.flush.get b = H3.get b := fun b hb => by
            rw [k2 b (by omega) (fun hx => by have := (hr4 b hx).1; omega)]
            exact hg4 b hb
          have hgB : ∀ H6 : Hp, H6.stale = [] → H5.next ≤ H6.next → (∀ b, H6.get b = H5.flush.get b) → BS H0 po vs0 H.next (.row 46 6 false [.int .i64 7, .str name, d2, d3, d4, .int .i64 at_]) own' (freeB sbd own' o2) vo2 vs3 H6 ∧ SlAt H6 9 1 v' (own' ++ [name]).length ((own' ++ [name]).map .str) ∧ (∀ b ∈ rowsOf v', H3.next ≤ b ∧ b < H6.next) := fun H6 q1 q2 q3 => by
            refine ⟨B3.step (B3.fin.keep (by omega) fun b hb => by rw [q3, hg5 b hb]) (FKeep.news q1 (by omega) fun b hb => by rw [q3, hg5 b hb]), ?_, fun b hb => ?_⟩
            · rw [List.length_append, List.map_append]; exact k1.of_get fun b _ => q3 b
            · obtain ⟨g1, g2⟩ := k5 b hb
              rcases g2 with g2 | g2
              · have := hr4 b g2; exact ⟨this.1, by omega⟩
              · exact ⟨by omega, by omega⟩
          have hsn := B3.sn.1
          obtain ⟨y1, y2⟩ := hA.keep H.next (by omega) (fun hx => by have := (hr4 _ hx).1; omega) (by simp [s4])
          have y3 : H5.get H.next = _ := y1.trans e4
          simp [c5, c6, b2, b7, y2, y3]
          obtain ⟨B6, S6, r6⟩ := hgB H5.bump.flush (by simp) (by simp) (fun b => by rw [Hp.get_flush, Hp.get_flush]; rfl)
          have hfb := B6.fin
          have hD6 : Dj (fun b => K b ∨ b ∈ rowsOf v') H5.bump.flush po .nils vs3 := fun b hb => by
            rcases hb with hb | hb
            · exact B6.dj hK b (.inl hb)
            · have h9 := B3.fin.lt
              have := r6 b hb
              exact ⟨this.2, by omega, by simp [rowsOf], fun h => by have := (B3.fin.rs _ h).1; omega⟩
          refine (p3 H5.bump.flush po (own' ++ [name]) _ v' vs3 d4 (fun b => K b ∨ b ∈ rowsOf v') (by simp) B6.fin (t3.mono (tS _ B6) (ElsAt.mono (tS _ B6) els)) (StrsAt.of_slAt S6 (fun b hb => ⟨.inr hb, (r6 b hb).2⟩) rfl) hD6 (by simp; omega)).mono ?_
          rintro w' H7 ⟨vs4, hF4, hk4⟩
          have B4 := B6.step hF4 hk4
          simp [b15, hw, hk4.st]
          rw [a3, a4] at fin
          exact fin _ _ vo2 vs4 _ _ B4 (by simp [b1]) (by simp [b2]) (by simp [b13]) (by simp [b14]) (by simp)
        · have e7 : ((kind : Int) == 7) = false := beq_false_of_ne (by omega)
          rw [if_neg hk7] at a4
          simp [b1, b2, b7, s3, e3, e7]
          refine (p3 H3 po own' _ vo2 vs3 d4 (fun b => K b ∨ b ∈ rowsOf vo2) s3 B3.fin (t3.mono (tS _ B3) (ElsAt.mono (tS _ B3) els)) B3.strs (B3.dj hK) (by omega)).mono ?_
          rintro w' H4 ⟨vs4, hF4, hk4⟩
          have B4 := B3.step hF4 hk4
          simp [b15, hw, hk4.st]
          rw [a3, a4] at fin
          exact fin _ _ vo2 vs4 _ _ B4 (by simp [b1]) (by simp [b2]) (by simp [b13]) (by simp [b14]) (by simp)
      refine rsexprs_loop (F0 := _) (K := fun b => K b ∨ b ∈ rowsOf vo) (H0 := H1) (own := own) (out := ou) (po := po) (va := vo) (vs0 := vs) (v := d2) (parts := es) (vs := vs) p1 (B0.dj hK) B0.strs (t1.mono (tS _ B0) (ElsAt.mono (tS _ B0) es)) (by omega) ⟨Nat.zero_le _, by simpa only [List.take_zero, freeEs] using hF0, FKeep.refl k00.st, by simp [f1], by simp [f2], rfl, rfl, rfl, rfl, by simp, by simp, by simp⟩ ?_
      intro vs1 F1 H2 hF1 hk1 b1 b2 b7 b13 b14 b15
      simp at b7
      simp [f13] at b13
      simp [f14] at b14
      simp [f15] at b15
      have B2 := B0.step hF1 hk1
      have hE2 := B2.sg
      have hel := freeEs_len es own ou
      have hs2 := hk1.st
      by_cases hk0 : kind = 0
      · subst hk0
        simp [b1, b2, b7, b13, b14, b15, hs2, hE2]
        refine wpL_app1 (H := H2) (e0 := 9) (cells := [.str name]) (by simp [descOf]) ty9 (by decide) (by simp [b1]) (by simp) B2.so (fun b hb => ⟨(B2.ro b hb).2.1, by simp [hs2]⟩) rfl (by show (own.length + 1) * 16 ≤ _; omega) (by omega) (by simp [hs2]) fun v' H3 hS hA => ?_
        have c5 := hS.one; have c6 := hS.cells
        simp [c5, c6]
        have B3 := B2.app (H3 := H3) (H4 := H3.flush) hS hA (by simp) (by simp) (fun b => rfl)
        exact tail _ _ (own ++ [name]) (freeEs es own ou) v' vs1 B3 (by simp [ownP]) (by simp [freeS]) (by simp; omega) (by omega) (by simp) (by simp [b2]) (by simp [b7]) (by simp [b13]) (by simp [b14]) (by simp [b15])
      by_cases hk1' : kind = 1
      · subst hk1'
        simp [b1, b2, b7, b13, b14, b15, hs2, hE2]
        refine (use_ok hs2 B2.fin (K := fun b => K b ∨ b ∈ rowsOf vo) B2.strs (by omega) (by omega)).mono ?_
        rintro w H3 ⟨vs2, hF3, hk3⟩
        have hul := useP_len own (freeEs es own ou) name
        simp [hk3.st]
        exact tail _ _ own (useP own (freeEs es own ou) name) vo vs2 (B2.step hF3 hk3) (by simp [ownP]) (by simp [freeS]) (by omega) (by omega) (by simp [b1]) (by simp [b2]) (by simp [b7]) (by simp [b13]) (by simp [b14]) (by simp [b15])
      · have e0 : ((kind : Int) == 0) = false := beq_false_of_ne (by omega)
        have e1 : ((kind : Int) == 1) = false := beq_false_of_ne (by omega)
        simp [b1, b2, b7, b13, b14, b15, hs2, hE2, e0, e1]
        exact tail _ _ own (freeEs es own ou) vo vs1 B2 (by simp [ownP, hk0]) (by simp [freeS, hk0, hk1']) (by omega) (by omega) (by simp [b1]) (by simp [b2]) (by simp [b7]) (by simp [b13]) (by simp [b14]) (by simp [b15])
  · have hlt' : ¬ (i : Int) < (l.length : Int) := by omega
    have hfin := I.fin
    rw [List.take_of_length_le (by omega)] at hfin
    simp [f1, f2, f13, f14, f15, hst, hlt']
    exact hQ _ _ _ hfin I.keep
end Go.AM.YtkmkkgfdobaplaaGreatDoorT
/- Names that are used: by definition. -/
set_option linter.unusedVariables false
set_option linter.unusedSimpArgs false
set_option maxRecDepth 100000
namespace Go.AM.YtkmkkgfdobaplaaGreatDoorT
open Go Go.AM Go.Proofs
theorem blR_ok {l : List Tx} (hP : ∀ s ∈ l, InR s) : BlR l := by
  intro H po own out va vs v K hst hF hT hA hK hb
  refine wf53 (wp_sound _ ?_)
  have n1 := hA.one; have n2 := hA.cells; have n3 := hT.one; have n4 := hT.cells
  have l1 := hT.len 46
  simp [hst, n1, n2]
  have hva : ∀ b ∈ rowsOf va, b < H.next := fun b hb => by
    rcases hA with ⟨rfl | rfl, h0⟩ | ⟨b', off, cap, e, ro, cells, rfl, h1, h2, h3, h4, h5, h6⟩
    · simp [rowsOf] at hb
    · simp [rowsOf] at hb
    · simp [rowsOf] at hb; subst hb; exact h3
  refine (clone_ok hst hA (by omega) hva).mono ?_
  rintro w H1 ⟨hS, hr, hX⟩
  have s1 := hX.st
  have l1' := hX.le
  have m1 := hS.one; have m2 := hS.cells
  have hlt := hF.lt
  have hg : ∀ b, b < H.next → H1.get b = H.get b := fun b hb => hX.get b hb (fun h => h)
  simp [s1, m1, m2, n3, n4, l1]
  refine rstmts_loop (K := K) (H0 := H) (po := po) (own1 := own) (out := out) (vs0 := vs) (v := v) (l := l) (vo := w) (vs := vs) hP hK hT (by omega) hlt ⟨Nat.zero_le _, by simpa only [List.take_zero, freeB] using hF.keep l1' hg, FKeep.news s1 l1' hg, by simpa only [List.take_zero, ownsP, List.foldl_nil] using hS, fun b hb => ⟨(hr b hb).1, (hr b hb).2, by have := (hr b hb).1; omega, fun h => by have := (hF.rs b h).1; have := (hr b hb).1; omega⟩, by simp, by simp, by simp, by simp, by simp⟩ ?_
  intro vs' F' H' g1 g2
  simp
  exact ⟨vs', g1, g2⟩
/-! ### All of it -/
mutual
theorem exR_all : ∀ (t : Tx), t.eok → ExR t
  | .ex op num text parts params body, h => by
    simp only [Tx.eok] at h
    exact exR_ok (exRs_all parts h.1) (blR_ok (inRs_all body h.2))
  | .st .., h => by simp only [Tx.eok] at h
theorem exRs_all : ∀ (l : List Tx), eoks l → ∀ x ∈ l, ExR x
  | [], _, x, hx => by simp at hx
  | y :: r, h, x, hx => by
    simp only [eoks] at h
    rcases List.mem_cons.1 hx with e | hx
    · rw [e]; exact exR_all y h.1
    · exact exRs_all r h.2 x hx
theorem inR_all : ∀ (t : Tx), t.sok → InR t
  | .st kind name es b e at_, h => by
    simp only [Tx.sok] at h
    exact ⟨exRs_all es h.1, blR_ok (inRs_all b h.2.1), blR_ok (inRs_all e h.2.2)⟩
  | .ex .., h => by simp only [Tx.sok] at h
theorem inRs_all : ∀ (l : List Tx), soks l → ∀ x ∈ l, InR x
  | [], _, x, hx => by simp at hx
  | y :: r, h, x, hx => by
    simp only [soks] at h
    rcases List.mem_cons.1 hx with e | hx
    · rw [e]; exact inR_all y h.1
    · exact inRs_all r h.2 x hx
end
/-- Two slices of texts are the same. -/
theorem equal_ok {K K' : Nat → Prop} {H : Hp} {l l' : Ts} {v v' : V} (hst : H.stale = []) (h : StrsAt K H l v) (h' : StrsAt K' H l' v') (hl : l.length ≤ 1099511627776) : WF tab 31 [v, v'] H fun w H' => w = .bool (decide (l = l')) ∧ Ext noX H H' := by
  refine wf31 (wp_sound _ ?_)
  have h1 := h.len 9; have h2 := h.one; have h3 := h.cells
  have h1' := h'.len 9; have h2' := h'.one; have h3' := h'.cells
  by_cases hn : l.length = l'.length
  · have e0 : ((l.length : Int) != (l'.length : Int)) = false := by rw [hn]; exact bne_self_eq_false _
    simp [hst, h1, h2, h3, h1', h2', h3', e0]
    refine loop_of (fun k F H' => ∃ i, i + k = l.length ∧ l.take i = l'.take i ∧ H'.stale = [] ∧ Ext noX H H' ∧ F.get 0 = some v ∧ F.get 1 = some v' ∧ F.get 12 = some (.int .i64 l.length) ∧ F.get 13 = some (.int .i64 i)) (m := l.length) ⟨0, by omega, by simp, hst, Ext.refl hst, by simp, by simp, by simp, by simp⟩ ?_
    rintro k F H' ⟨i, hi, hp, hs', hX, f0, f1, f12, f13⟩
    by_cases hlt : i < l.length
    · have hlt' : (i : Int) < (l.length : Int) := by omega
      have hltn : i < l'.length := by omega
      have hl3 : (i : Int) < (l'.length : Int) := by omega
      have hw : wr .i64 ((i : Int) + 1) = ((i + 1 : Nat) : Int) := by rw [wr_i64 (by omega) (by omega)]; omega
      obtain ⟨b, off, cap, e, ro, cells, rfl, g1, g2, g3, g4, g5⟩ := StrsAt.at_ h hlt
      obtain ⟨b', off', cap', e', ro', cells', rfl, g1', g2', g3', g4', g5'⟩ := StrsAt.at_ h' hltn
      have r1 := (hX.get b g3 (fun h => h)).trans g1
      have r2 := (hX.get b' g3' (fun h => h)).trans g1'
      by_cases he : l[i] = l'[i]
      · have he' : (l[i] == l'[i]) = true := by rw [he]; exact beq_self_eq_true _
        simp [L31_0, f0, f1, f12, f13, hs', hlt, hlt', hltn, hl3, r1, r2, g5, g5', he', hw]
        have hn1 : l.take (i + 1) = l'.take (i + 1) := by rw [List.take_succ_eq_append_getElem hlt, List.take_succ_eq_append_getElem hltn, hp, he]
        exact ⟨k - 1, by omega, i + 1, by omega, hn1, hX, by omega⟩
      · have he' : (l[i] == l'[i]) = false := beq_false_of_ne he
        have hne : l ≠ l' := fun e => he (by simp [e])
        simp [L31_0, f0, f1, f12, f13, hs', hlt, hlt', hltn, hl3, r1, r2, g5, g5', he', hne]
        exact hX
    · have hlt' : ¬ (i : Int) < (l.length : Int) := by omega
      rw [List.take_of_length_le (by omega), List.take_of_length_le (by omega)] at hp
      subst hp
      simp [L31_0, f0, f1, f12, f13, hs', hlt, hlt']
      exact hX
  · have e0 : ((l.length : Int) != (l'.length : Int)) = true := bne_iff_ne.2 (by omega)
    have : l ≠ l' := fun e => hn (by rw [e])
    simp [hst, h1, h2, h3, h1', h2', h3', e0, this]
    exact Ext.refl hst
end Go.AM.YtkmkkgfdobaplaaGreatDoorT
/- The slim code of these functions: printed by genslim.py. -/
namespace Go.AM.YtkmkkgfdobaplaaGreatDoorT
open Go Go.AM Go.Proofs
set_option maxRecDepth 100000
/-! paling/palinglaw08.ScopeFree -/
abbrev R9_0 : List SOp := [(some 4, .assign (.const (.bool false)), none)]
abbrev R9_1 : List SOp := [(some 6, .call ⟨.value (.func 26), #[], #[]⟩, none),
  (some 7, .unOp .not 4 (.tmp 6), none)]
abbrev R9_2 : List SOp := [(some 4, .assign (.const (.bool false)), none)]
abbrev R9_3 : List SOp := [(some 8, .move (.tmp 1), none),
  (some 9, .call ⟨.builtin .len, #[(.tmp 8)], #[22]⟩, none),
  (some 10, .binOp .gtr 3 (.tmp 9) (.const (.int .i64 60)) 3, none)]
abbrev R9_4 : List SOp := [(some 4, .assign (.const (.bool true)), none)]
abbrev R9_5 : List SOp := [(some 11, .move (.tmp 0), none),
  (some 12, .move (.tmp 1), none),
  (some 13, .call ⟨.value (.func 30), #[(.tmp 11), (.tmp 12)], #[50, 22]⟩, none),
  (some 5, .alloc 53, none),
  (none, .store 53 (.tmp 5) (.tmp 13), none)]
abbrev R9_6 : List (SOp × Nat) := [((some 14, .load 53 (.tmp 5), none), 0),
  ((some 15, .call ⟨.value (.func 32), #[(.tmp 14)], #[53]⟩, none), 0),
  ((some 16, .load 53 (.tmp 5), none), 1),
  ((some 17, .call ⟨.value (.func 33), #[(.tmp 16)], #[53]⟩, none), 0),
  ((some 18, .call ⟨.value (.func 31), #[(.tmp 15), (.tmp 17)], #[36, 36]⟩, none), 0),
  ((some 4, .assign (.tmp 18), none), 0)]
abbrev S9 : SCode := .seq (.reg R9_0) (.seq (.seq (.reg R9_1) (.cond (.tmp 7) (.seq (.reg R9_2) (.ret)) (.skip))) (.seq (.seq (.reg R9_3) (.cond (.tmp 10) (.seq (.reg R9_4) (.ret)) (.skip))) (.seq (.reg R9_5) (.seq (.dreg R9_6) (.ret)))))
theorem slim9 : slimC tab 9 (Tryz.f9.body.getD .skip) = S9 := by kernel_rfl
theorem wf9 {xs : List V} {H : Hp} {Q : V → Hp → Prop} (h : WC tab S9 (frame xs 0 .nil) H (resQ tab [.tmp 4] Q)) : WF tab 9 xs H Q := WF.of_slim (T := tab) (f := 9) rfl fn9 rfl slim9 rfl h
end Go.AM.YtkmkkgfdobaplaaGreatDoorT
/- What simp opens in the walks of this seat: printed by genset.py. -/
namespace Go.AM.YtkmkkgfdobaplaaGreatDoorT
open Go Go.AM
attribute [simp] wp_skip wp_reg wp_dreg wp_seq wp_cond wp_block wp_loop wp_exit wp_ret wpL_nil wpL_cons wpD_nil wpD_cons sq_nrm sq_exit sq_ret nm_ap bl_nrm bl_ret bl_exit cd_true cd_false lp_nrm lp_exit lp_ret rs_ret rs_nrm rsQ contL contD kV kAW kA kW kC kCo wantQ oq_p oq_r oq_w oq_c oq_alloc oq_box oq_bs oq_mm oq_ms oq_cv dV dAW dA dW dC dCo isCall skD od_p od_r od_w od_c od_alloc od_box od_bs od_mm od_ms od_cv wantDQ wantS kind convKd lenV_sl lenV_nils lenV_sle lenV_str evP evR evA evW evAW descOf frame opd opds Tr.get_set putD delD resOf getAll kbOk afterA isPt winOk ofVal ofVal0 ofVals binInt binStr binE_int binE_str binE_shl binE_shr binE_eql_agg binE_neq_agg binE_eql_bool binE_neq_bool binE_eql_pn binE_neq_pn binE_eql_nn binE_neq_nn binE_eql_in binE_neq_in binE_eql_ii binE_neq_ii isBoolD isPtrD isIfD isMpD isSlD isC cells_agg cells_bool one_bool cells_int one_int cells_str one_str cells_nilp one_nilp cells_ptr one_ptr cells_nils one_nils cells_sle one_sle cells_sl one_sl cells_nilm one_nilm cells_mp one_mp cells_nilf one_nilf cells_fn one_fn cells_nili one_nili cells_ifc one_ifc isAgg isMapT optI partV zeroV keyOk keyOk1 keyOkS keyOkL eqS sameL same1 sameK esOf partsV fillV placesV setCells mapKeyOk Hp.get_flush Hp.stale_flush Hp.next_flush repl List.nil_append get_new_self get_put_self get_bump next_bump st_new st_put st_bump Hp.next_new Hp.next_put flush_of IntKind.bits tab_ng nna1 nnb1 nna2 nnb2 nna3 nnb3 nna4 nnb4 nna5 nnb5 nna6 nnb6 nna7 nnb7 nna8 nnb8
attribute [simp] ty1 ty2 ty3 ty4 ty5 ty6 ty7 ty8 ty9 ty10 ty11 ty12 ty13 ty14 ty15 ty16 ty17 ty18 ty19 ty20 ty21 ty22 ty23 ty24 ty25 ty26 ty27 ty28 ty29 ty31 ty32 ty33 ty34 ty35 ty36 ty37 ty38 ty39 ty40 ty41 ty42 ty43 ty44 ty45 ty46 ty47 ty48 ty49 ty50 ty51 ty52 ty53 ty54 ty55 ty56 ty57 ty58 ty59 ty60 ty61 ty62 ty63 ty64 ty65 ty66 ty67 ty68 ty69 ty70 ty71 ty72 ty73 ty74 ty75 ty76 ty77 ty78 ty79 ty80 ty81 ty82 ty83 ty85 ty86 ty87 ty89 ty90 ty91 ty92 ty93 ty94 ty95 ty96 ty97 ty98 ty99 ty100 ty101 ty102 ty103 ty104 ty105 ty106 ty107 ty108 ty109 ty110 ty111 ty112 ty114 ty115 ty116 ty117 ty118 ty119 ty120 ty121 ty122 ty123 ty125 ty127 ty128 ty129 ty130 ty131 ty132 ty133 ty134 ty135 ty136 ty137 ty138 ty139 ty140 ty141 ty142 ty143 ty144 ty145 ty146 ty147 ty148 ty149 ty150 ty151 ty152 ty154 ty155 ty156 ty157 ty158 ty159 ty160 ty162 ty163 ty164 ty165 ty166 ty167 ty168 ty169 ty170 ty171 ty172 ty173 ty174 ty175 ty176 ty178 ty179 ty180 ty181 ty182 ty183 ty185 ty186 ty188 ty189 ty190 ty191 ty192 ty193 ty194 ty196 ty197 ty198 ty199 ty200 ty201 ty202 ty203 ty204 ty205 ty206 ty207 ty208 ty209 ty210 ty211 ty212 ty214 ty215 ty216 ty217 ty218 ty219 ty220 ty221 ty222 ty223 ty224 ty225 ty226 ty227 ty228 ty229 ty230 ty231 ty233 ty234 ty235 ty236 ty237 ty238 ty239 ty240 ty241 ty242 ty243 ty244 ty245 ty246 ty247 ty248 ty249 ty250 ty251 ty252 ty253 ty255 ty256 ty257 ty259 ty260 ty261 ty262 ty263 ty264 ty265 ty266 ty268 ty269 ty270 ty271 ty272 ty273 ty274 ty275 ty276 ty277 ty278 ty279 ty280 ty281 ty282
end Go.AM.YtkmkkgfdobaplaaGreatDoorT
/- Names that are used: a function made, and the law. -/
set_option linter.unusedVariables false
set_option linter.unusedSimpArgs false
set_option maxRecDepth 100000
namespace Go.AM.YtkmkkgfdobaplaaGreatDoorT
open Go Go.AM Go.Proofs
/-- Small numbers that came in. -/
def U8sIn (H : Hp) (v : V) (l : List Nat) : Prop := (v = .nils ∨ v = .sle) ∧ l = [] ∨ ∃ b e, v = .sl b 0 l.length none 1 ∧ b < H.next ∧ H.get b = some (.row e 1 true (l.map fun n => .int .u8 (n : Nat)))
theorem U8sIn.len {H : Hp} {v : V} {l : List Nat} (h : U8sIn H v l) (e : TypeId) : lenV v (some (.slice e)) = some (.int .i64 l.length) := by
  rcases h with ⟨rfl | rfl, rfl⟩ | ⟨b, e', rfl, _⟩ <;> rfl
theorem U8sIn.ext {H H' : Hp} {v : V} {l : List Nat} (h : U8sIn H v l) (hX : Ext noX H H') : U8sIn H' v l := by
  rcases h with h | ⟨b, e, h1, h2, h3⟩
  · exact .inl h
  · exact .inr ⟨b, e, h1, Nat.lt_of_lt_of_le h2 hX.le, by rw [hX.get b h2 (fun h => h)]; exact h3⟩
def fnP (ps : List Nat) : Ts := (ps.take 3).map nameT
structure J30 (H0 : Hp) (re r0 : Nat) (va vb : V) (ps : List Nat) (body : List Tx) (i : Nat) (v : V) (F : Fr) (H : Hp) : Prop where
  le : i ≤ ps.length
  row : H.get re = some (exR (.int .i64 17) (.int .i64 0) (.str []) .nils v vb)
  r0r : ∃ cs, H.get r0 = some (.row 53 6 false cs) ∧ cs.length = 6
  o0 : H0.next ≤ r0
  o1 : r0 < re
  o2 : re < H.next
  gro : SGro H0 H (twoR re r0) 9 v (fnP (ps.take i))
  sb : TreesAt (Kv H0 (twoR re r0) v) H body vb
  ext : Ext noX H0 H
  f4 : F.get 4 = some (.ptr r0 0)
  f5 : F.get 5 = some (.ptr re 0)
  f11 : F.get 11 = some va
  f12 : F.get 12 = some (.int .i64 ps.length)
  f13 : F.get 13 = some (.int .i64 i)
theorem fnP_succ {ps : List Nat} {i : Nat} (hi : i < ps.length) (h3 : i < 3) : fnP (ps.take (i + 1)) = fnP (ps.take i) ++ [nameT ps[i]] := by
  unfold fnP
  rw [List.take_take, List.take_take, show min 3 (i + 1) = i + 1 by omega, show min 3 i = i by omega, List.take_succ_eq_append_getElem hi, List.map_append]
  rfl
theorem fnP_more {ps : List Nat} {i : Nat} (h3 : ¬ i < 3) : fnP (ps.take (i + 1)) = fnP (ps.take i) := by
  unfold fnP
  rw [List.take_take, List.take_take, show min 3 (i + 1) = 3 by omega, show min 3 i = 3 by omega]
theorem fnP_len (ps : List Nat) : (fnP ps).length ≤ 3 := by simp [fnP]; omega
theorem mkfn_ok {H0 : Hp} {va vl : V} {ps : List Nat} {l : List X4} (hst : H0.stale = []) (hP : U8sIn H0 va ps) (hp8 : ∀ n ∈ ps, n < 256) (hpl : ps.length ≤ 9223372036854775807) (hX : XsIn H0 vl l) (hok : ∀ x ∈ l, x.ok) (hl : l.length ≤ 100) :
    WF tab 30 [va, vl] H0 fun w H' => ∃ cs, w = .agg cs ∧ ExpAt (since H0 H') H' (.ex 17 0 [] [] (fnP ps) (makeP l)) cs ∧ Ext noX H0 H' := by
  refine wf30 (wp_sound _ ?_)
  simp [hst]
  have e0 : ∀ o, Ext noX H0 (H0.new o) := fun o => Ext.new hst o
  refine (make_ok (l := l) (by simp [hst]) (hX.of_get (by simp) fun b e cs hb _ => by simp [Hp.get_new, old_ne hb]) hok hl).mono ?_
  rintro vb H1 ⟨hT1, hX1⟩
  have s1 := hX1.st
  have l1 := hX1.le
  simp at l1
  have n1 := hT1.one; have n2 := hT1.cells
  have hln := (hP.len 119)
  have g0 : H1.get H0.next = some (.row 53 6 false [.int .i64 0, .int .i64 0, .str [], .nils, .nils, .nils]) := by rw [hX1.get _ (by simp) (fun h => h)]; simp [Hp.get_new]
  have hlen : lenV va (some (.slice 5)) = some (.int .i64 ps.length) := hP.len _
  simp [s1, n1, n2, hlen]
  have hgn : ∀ o o' b, b < H1.next → ((H1.new o).put H1.next o').get b = H1.get b := fun o o' b hb => by simp [Hp.get_new, Hp.get_put, old_ne hb]
  refine loop_of (fun k F H => ∃ i v, i + k = ps.length ∧ J30 H0 H1.next H0.next va vb ps (makeP l) i v F H) (m := ps.length) ⟨0, .nils, by omega, ⟨Nat.zero_le _, by simp [Hp.get_put], ⟨_, by rw [hgn _ _ _ (by omega)]; exact g0, rfl⟩, Nat.le_refl _, by omega, by simp, ⟨by simp [s1], by simp; omega, .nil, by simp [rowsOf]⟩, hT1.mono ⟨fun b hb hx => ?_, fun b hb hx => hgn _ _ b hx, by simp⟩, ⟨by simp [s1], by simp; omega, fun b hb hx => ?_⟩, by simp, by simp, by simp, by simp, by simp⟩⟩ ?_
  · have hb1 := hb.1
    have hb2 := hb.2
    rw [Hp.next_new] at hb1
    refine ⟨by omega, fun h => ?_, by simp [rowsOf]⟩
    rcases h with h | h <;> omega
  · rw [hgn _ _ b (by omega), hX1.get b (by simp; omega) hx, get_new_ne _ (by omega)]
  rintro k F H ⟨i, v, hi, I⟩
  have hs := I.gro.st
  have f4 := I.f4; have f5 := I.f5; have f11 := I.f11; have f12 := I.f12; have f13 := I.f13
  have hgr := I.row
  by_cases hlt : i < ps.length
  · have hlt' : (i : Int) < (ps.length : Int) := by omega
    have hw : wr .i64 ((i : Int) + 1) = ((i + 1 : Nat) : Int) := by rw [wr_i64 (by omega) (by omega)]; omega
    have hPi := hP.ext I.ext
    obtain ⟨b, e, rfl, y1, y2⟩ : ∃ b e, va = .sl b 0 ps.length none 1 ∧ b < H.next ∧ H.get b = some (.row e 1 true (ps.map fun n => .int .u8 (n : Nat))) := by
      rcases hPi with ⟨_, h0⟩ | h
      · subst h0; simp at hlt
      · exact h
    have y3 : (ps.map fun n => V.int .u8 ((n : Nat) : Int))[i]? = some (.int .u8 (ps[i] : Nat)) := by simp [hlt]
    generalize hps : (ps.map fun n => V.int .u8 ((n : Nat) : Int)) = cells at *
    by_cases h3 : i < 3
    · have h3' : (i : Int) < 3 := by omega
      simp [L30_0, f4, f5, f11, f12, f13, hs, hlt, hlt', h3, h3', y2, y3, hgr]
      refine (Name_ok hs ps[i]).mono ?_
      rintro w H2 ⟨rfl, hX2⟩
      have s2 := hX2.st
      have l2 := hX2.le
      have c1 := I.o1; have c0 := I.o0; have c3 := I.o2
      have hsl := I.gro.sl
      have hrows := I.gro.rows
      have hl0 := I.gro.le
      have g2 : H2.get H1.next = some (exR (.int .i64 17) (.int .i64 0) (.str []) .nils v vb) := hX2.keep c3 I.row
      have hsl2 : SlAt H2.bump 9 1 v (fnP (ps.take i)).length ((fnP (ps.take i)).map .str) := hsl.of_get fun b hb => by
        have := hrows b hb
        show H2.get b = H.get b
        exact hX2.get b this.2.1 (fun h => h)
      have hev := hsl.eqv
      have hlen3 := fnP_len (ps.take i)
      simp [s2, f5, g2, hgr, hev, hs]
      refine wpD_app1 (H := H2.bump) (e0 := 9) (cells := [.str (nameT ps[i])]) (by simp [descOf]) ty9 (by decide) (by simp [f5]) (by simp) hsl2 (fun b hb => ⟨by have := (hrows b hb).2.1; show b < H2.next + 1; omega, by simp [s2]⟩) rfl (by show ((fnP (ps.take i)).length + 1) * 16 ≤ _; omega) (by omega) (by simp [s2]) fun v' H3 hS hA => ?_
      obtain ⟨kre1, kre2⟩ := hA.keep H1.next (by show H1.next < H2.next + 1; omega) (fun h => (hrows H1.next h).2.2 (.inl rfl)) (by simp [s2])
      have kre3 : H3.get H1.next = some (exR (.int .i64 17) (.int .i64 0) (.str []) .nils v vb) := kre1.trans g2
      have hc' := hS.cells
      have ho' := hS.one
      have q2 := I.sb.one
      simp [f5, kre2, kre3, hc', ho', f13, hw, q2]
      have hnx := hA.le
      have hbn : H2.bump.next = H2.next + 1 := rfl
      have hg4 : ∀ b, ¬ twoR H1.next H0.next b → ((H3.bump.flush.put H1.next (exR (.int .i64 17) (.int .i64 0) (.str []) .nils v' vb)).bump).get b = H3.flush.get b := fun b hb => by
        have : b ≠ H1.next := fun h => hb (.inl h)
        simp [Hp.get_put, two_ne this]
      have hs4 : ((H3.bump.flush.put H1.next (exR (.int .i64 17) (.int .i64 0) (.str []) .nils v' vb)).bump).stale = [] := by simp
      have hn4 : H3.next ≤ ((H3.bump.flush.put H1.next (exR (.int .i64 17) (.int .i64 0) (.str []) .nils v' vb)).bump).next := by simp; omega
      have hgre : ((H3.bump.flush.put H1.next (exR (.int .i64 17) (.int .i64 0) (.str []) .nils v' vb)).bump).get H1.next = some (exR (.int .i64 17) (.int .i64 0) (.str []) .nils v' vb) := by simp
      obtain ⟨G4, keep⟩ := I.gro.step (H4 := (H3.bump.flush.put H1.next (exR (.int .i64 17) (.int .i64 0) (.str []) .nils v' vb)).bump) (X := noX) (fun b hb => by rcases hb with h | h <;> omega) hX2 hS (.inr rfl) hA hs4 hn4 hg4
      have hvn : ∀ b, b < H0.next → b ∉ rowsOf v := fun b hb h => by have := (hrows b h).1; omega
      have keepR : ∀ b, b < H2.next → b ≠ H1.next → b ∉ rowsOf v → ((H3.bump.flush.put H1.next (exR (.int .i64 17) (.int .i64 0) (.str []) .nils v' vb)).bump).get b = H2.get b := fun b hb hne hnr => by
        obtain ⟨kr1, kr2⟩ := hA.keep b (by show b < H2.next + 1; omega) hnr (by simp [s2])
        simp [Hp.get_put, two_ne hne, kr1, kr2]
      obtain ⟨cs, z1, z2⟩ := I.r0r
      have hQ : ∀ H4 : Hp, H4 = ((H3.bump.flush.put H1.next (exR (.int .i64 17) (.int .i64 0) (.str []) .nils v' vb)).bump) → ∀ F' : Fr, F'.get 4 = some (.ptr H0.next 0) → F'.get 5 = some (.ptr H1.next 0) → F'.get 11 = some (.sl b 0 ps.length none 1) → F'.get 12 = some (.int .i64 ps.length) → F'.get 13 = some (.int .i64 (i + 1 : Nat)) → J30 H0 H1.next H0.next (.sl b 0 ps.length none 1) vb ps (makeP l) (i + 1) v' F' H4 := by
        rintro H4 hH4 F' x4 x5 x11 x12 x13
        rw [← hH4] at hgre hs4 hn4 G4 keepR
        have l4 : H.next ≤ H4.next := by omega
        have q0 : H4.get H0.next = some (.row 53 6 false cs) := by
          rw [keepR H0.next (by omega) (by omega) (fun h => (hrows H0.next h).2.2 (.inr rfl))]; exact hX2.keep (by omega) z1
        have qs : Stays (Kv H0 (twoR H1.next H0.next) v) (Kv H0 (twoR H1.next H0.next) v') H H4 := by
          refine ⟨fun c hc hx => ⟨hc.1, hc.2.1, fun h => ?_⟩, fun c hc hx => ?_, l4⟩
          · rcases (hA.new c h).2.2 with g | g
            · exact hc.2.2 g
            · have : H2.next + 1 ≤ c := g; omega
          · rw [keepR c (by omega) (fun h => hc.2.1 (.inl h)) hc.2.2]; exact hX2.get c hx (fun h => h)
        have qe : Ext noX H0 H4 := ⟨hs4, by omega, fun c hc hx => by
          rw [keepR c (by omega) (by omega) (hvn c hc), hX2.get c (by omega) (fun h => h)]
          exact I.ext.get c hc hx⟩
        exact ⟨by omega, hgre, ⟨cs, q0, z2⟩, c0, c1, by omega, by rw [fnP_succ hlt h3]; exact G4, I.sb.mono qs, qe, x4, x5, x11, x12, x13⟩
      exact ⟨k - 1, by omega, i + 1, by omega, v', hQ _ rfl _ (by simp [f4]) (by simp [f5]) (by simp [f11]) (by simp [f12]) (by simp)⟩
    · have h3' : ¬ (i : Int) < 3 := by omega
      simp [L30_0, f4, f5, f11, f12, f13, hs, hlt, hlt', h3, h3', y2, y3, hw]
      exact ⟨k - 1, by omega, i + 1, by omega, v, ⟨by omega, I.row, I.r0r, I.o0, I.o1, I.o2, by rw [fnP_more h3]; exact I.gro, I.sb, I.ext, by simp [f4], by simp [f5], by simp [f11], by simp [f12], by simp⟩⟩
  · have hlt' : ¬ (i : Int) < (ps.length : Int) := by omega
    obtain ⟨cs, z1, z2⟩ := I.r0r
    have hsl := I.gro.sl
    rw [List.take_of_length_le (by omega)] at hsl
    have q1 := hsl.one; have q3 := hsl.cells
    have q2 := I.sb.one; have q4 := I.sb.cells
    match cs, z2 with
    | [a0, a1, a2, a3, a4, a5], _ =>
      simp [L30_0, f4, f5, f11, f12, f13, hs, hlt', hgr, z1, q1, q2, q3, q4]
      have hro := I.gro.rows
      have o0 := I.o0; have o1 := I.o1
      have hgo : ∀ b o, b ≠ H0.next → (H.put H0.next o).get b = H.get b := fun b o hb => get_put_ne _ hb
      have st : ∀ o, Stays (Kv H0 (twoR H1.next H0.next) v) (since H0 (H.put H0.next o)) H (H.put H0.next o) := fun o => ⟨fun b hb hx => ⟨hb.1, hx⟩, fun b hb hx => hgo b o (fun h => hb.2.1 (.inr h)), Nat.le_refl _⟩
      refine ⟨?_, ?_⟩
      · simp only [ExpAt]
        refine ⟨_, _, _, rfl, noTrees, StrsAt.of_slAt (hsl.of_get fun b hb => ?_) (fun b hb => ?_) rfl, I.sb.mono (st _)⟩
        · have := hro b hb
          exact hgo b _ (fun h => this.2.2 (.inr h))
        · have := hro b hb
          exact ⟨⟨this.1, this.2.1⟩, this.2.1⟩
      · exact I.ext.putX _ (.inr (Nat.le_refl _))
theorem scopeFree9 {H0 : Hp} {va vl : V} {ps : List Nat} {l : List X4} (hA : WF tab 26 [] H0 fun v H' => v = .bool true ∧ Ext noX H0 H') (hst : H0.stale = []) (hP : U8sIn H0 va ps) (hp8 : ∀ n ∈ ps, n < 256) (hpl : ps.length ≤ 9223372036854775807) (hX : XsIn H0 vl l) (hok : ∀ x ∈ l, x.ok) :
    WF tab 9 [va, vl] H0 fun v _ => v = .bool true := by
  refine wf9 (wp_sound _ ?_)
  simp [hst]
  refine hA.mono ?_
  rintro v H1 ⟨rfl, e1⟩
  have s1 := e1.st
  have hX1 : XsIn H1 vl l := hX.of_get e1.le fun b _ _ hb _ => e1.get b hb (fun h => h)
  have hP1 := hP.ext e1
  have hlen := hX1.len 119
  by_cases h60 : 60 < l.length
  · have h60' : (60 : Int) < (l.length : Int) := by omega
    simp [s1, hlen, h60, h60']
  have h60' : ¬ (60 : Int) < (l.length : Int) := by omega
  simp [s1, hlen, h60, h60']
  refine (mkfn_ok s1 hP1 hp8 hpl hX1 hok (by omega)).mono ?_
  rintro w H2 ⟨cs, rfl, hT, hX2⟩
  have s2 := hX2.st
  have hT0 := hT
  simp only [ExpAt] at hT0
  obtain ⟨vp, vq, vb, rfl, t1, t2, t3⟩ := hT0
  have n1 := t1.one; have n2 := t2.one; have n3 := t3.one
  have q1 := t1.eqv; have q2 := t2.eqv; have q3 := t3.eqv
  simp [s2, n1, n2, n3]
  have hB := makeP_sok l
  have hw := makeP_wt l
  have hf := fnP_len ps
  have hbd : (fnP ps).length + wts (makeP l) ≤ 1099511627776 := by
    have := Nat.mul_le_mul_left 50331648 (show l.length + 1 ≤ 61 by omega)
    omega
  have hS : ∀ o o' : Ob, Stays (since H1 H2) (since H1 H2) H2 ((H2.new o).put H2.next o') := fun o o' => ⟨fun b hb _ => hb, fun b hb hx => by simp [Hp.get_new, Hp.get_put, old_ne hx], by simp⟩
  have l2 := hX2.le
  refine (sfree_ok (blF_ok (inFs_all _ hB)) (by simp [s2]) (ExpAt.mono (hS _ _) _ _ hT) (fun b hb => by have := hb.2; simp; omega) hbd).mono ?_
  rintro u H3 ⟨hS3, hr3, hX3⟩
  have s3 := hX3.st
  have l3 := hX3.le
  simp at l3
  have g3 : H3.get H2.next = some (exR (.int .i64 17) (.int .i64 0) (.str []) vp vq vb) := by rw [hX3.get H2.next (by simp) (fun h => h)]; simp [Hp.get_put]
  simp [s2, s3, g3, eqV, q1, q2, q3, eqL]
  have hS2 : Stays (since H1 H2) (since H1 H2) H2 H3.bump := ⟨fun b hb _ => hb, fun b hb hx => by
    show H3.get b = H2.get b
    rw [hX3.get b (by simp; omega) (fun h => h)]
    simp [Hp.get_new, Hp.get_put, old_ne hx], by show H2.next ≤ H3.next + 1; omega⟩
  refine (rfree_ok (blR_ok (inRs_all _ hB)) (by simp [s3]) (ExpAt.mono hS2 _ _ hT) (fun b hb => by have := hb.2; show b < H3.next + 1; omega) hbd).mono ?_
  rintro u' H4 ⟨hS4, hr4, hX4⟩
  have s4 := hX4.st
  have l4 : H3.next + 1 ≤ H4.next := hX4.le
  have m1 := hS3.one; have m2 := hS3.cells; have m3 := hS4.one; have m4 := hS4.cells
  simp [s4, m1, m2, m3, m4]
  have hfb := freeB_len (makeP l) (fnP ps) []
  simp at hfb
  have hu : SlAt H4.bump 9 1 u (freeB (makeP l) (fnP ps) []).length ((freeB (makeP l) (fnP ps) []).map .str) := hS3.of_get fun b hb => hX4.get b (show b < H3.next + 1 by have := (hr3 b hb).2; omega) (fun h => h)
  have hu' : SlAt H4.bump 9 1 u' (freeB (makeP l) (fnP ps) []).length ((freeB (makeP l) (fnP ps) []).map .str) := hS4.of_get fun b hb => rfl
  refine (equal_ok (K := fun _ => True) (K' := fun _ => True) (H := H4.bump) (by simp [s4]) (StrsAt.of_slAt hu (fun b hb => ⟨trivial, by have := (hr3 b hb).2; show b < H4.next + 1; omega⟩) rfl) (StrsAt.of_slAt hu' (fun b hb => ⟨trivial, by have := (hr4 b hb).2; show b < H4.next + 1; omega⟩) rfl) (by omega)).mono ?_
  rintro z H5 ⟨rfl, hX5⟩
  have s5 := hX5.st
  simp [s5]
end Go.AM.YtkmkkgfdobaplaaGreatDoorT
