/- Parts of the abstract machine and of the walks over it, joined: what the law that is claimed here leans on. -/
import Derived.Test.YtkmkkgfdobaplaaGreatDoorAmX
import Derived.Test.YtkmkkgfdobaplaaGreatDoorAmC2
import Derived.Test.YtkmkkgfdobaplaaGreatDoorAmC3
import Derived.Test.YtkmkkgfdobaplaaGreatDoorAmB
import Derived.Test.YtkmkkgfdobaplaaGreatDoorAmA
/- The slim code of these functions: printed by genslim.py. -/
namespace Go.AM.YtkmkkgfdobaplaaGreatDoorT
open Go Go.AM Go.Proofs
set_option maxRecDepth 100000
/-! paling/palinglaw07.ParseWords -/
abbrev R4_0 : List SOp := [(some 4, .assign (.const (.bool false)), none)]
abbrev R4_1 : List SOp := [(some 5, .call ⟨.value (.func 15), #[], #[]⟩, none),
  (some 6, .unOp .not 4 (.tmp 5), none)]
abbrev R4_2 : List SOp := [(some 4, .assign (.const (.bool false)), none)]
abbrev R4_3 : List SOp := [(some 7, .move (.tmp 0), none),
  (some 8, .call ⟨.builtin .len, #[(.tmp 7)], #[9]⟩, none),
  (some 9, .binOp .gtr 3 (.tmp 8) (.const (.int .i64 30)) 3, none)]
abbrev R4_4 : List SOp := [(some 4, .assign (.const (.bool true)), none)]
abbrev R4_5 : List (SOp × Nat) := [((some 10, .move (.tmp 0), none), 0),
  ((some 11, .call ⟨.value (.func 22), #[(.tmp 10)], #[9]⟩, none), 0),
  ((some 12, .load 36 (.global 0), none), 1),
  ((some 13, .move (.tmp 0), none), 1),
  ((some 14, .call ⟨.value (.func 23), #[(.tmp 12), (.tmp 13)], #[36, 9]⟩, none), 0),
  ((some 15, .binOp .eql 4 (.tmp 11) (.tmp 14) 4, none), 0),
  ((some 16, .move (.tmp 15), none), 0),
  ((some 17, .load 36 (.global 0), some (some 16, true)), 0),
  ((some 18, .move (.tmp 1), some (some 16, true)), 0),
  ((some 19, .convert 5 3 (.tmp 18), some (some 16, true)), 0),
  ((some 20, .load 36 (.global 0), some (some 16, true)), 0),
  ((some 21, .call ⟨.builtin .len, #[(.tmp 20)], #[36]⟩, some (some 16, true)), 0),
  ((some 22, .binOp .rem 3 (.tmp 19) (.tmp 21) 3, some (some 16, true)), 0),
  ((some 23, .indexAddr 36 (.tmp 17) (.tmp 22), some (some 16, true)), 0),
  ((some 24, .load 9 (.tmp 23), some (some 16, true)), 0),
  ((some 25, .call ⟨.value (.func 22), #[(.tmp 24)], #[9]⟩, some (some 16, true)), 0),
  ((some 26, .pick (.tmp 16) (.tmp 25) (.const (.bool false)), none), 0),
  ((some 4, .assign (.tmp 26), none), 0)]
abbrev S4 : SCode := .seq (.reg R4_0) (.seq (.seq (.reg R4_1) (.cond (.tmp 6) (.seq (.reg R4_2) (.ret)) (.skip))) (.seq (.seq (.reg R4_3) (.cond (.tmp 9) (.seq (.reg R4_4) (.ret)) (.skip))) (.seq (.dreg R4_5) (.ret))))
theorem slim4 : slimC tab 4 (Tryz.f4.body.getD .skip) = S4 := by kernel_rfl
theorem wf4 {xs : List V} {H : Hp} {Q : V → Hp → Prop} (h : WC tab S4 (frame xs 0 .nil) H (resQ tab [.tmp 4] Q)) : WF tab 4 xs H Q := WF.of_slim (T := tab) (f := 4) rfl fn4 rfl slim4 rfl h
/-! paling/palinglaw07.ParseSugar -/
abbrev R5_0 : List SOp := [(some 2, .assign (.const (.bool false)), none)]
abbrev R5_1 : List SOp := [(some 10, .call ⟨.value (.func 15), #[], #[]⟩, none),
  (some 11, .unOp .not 4 (.tmp 10), none)]
abbrev R5_2 : List SOp := [(some 2, .assign (.const (.bool false)), none)]
abbrev R5_3 : List SOp := [(some 12, .move (.tmp 0), none),
  (some 13, .call ⟨.value (.func 24), #[(.tmp 12)], #[5]⟩, none),
  (some 3, .assign (.tmp 13), none)]
abbrev R5_4 : List SOp := [(some 15, .move (.tmp 3), none),
  (some 16, .binOp .add 9 (.const (.string ⟨#[0x61, 0x2e]⟩)) (.tmp 15) 9, none),
  (some 17, .binOp .add 9 (.tmp 16) (.const (.string ⟨#[0x20, 0x3d, 0x20, 0x7b]⟩)) 9, none),
  (some 18, .move (.tmp 3), none),
  (some 19, .binOp .add 9 (.tmp 17) (.tmp 18) 9, none),
  (some 20, .binOp .add 9 (.tmp 19) (.const (.string ⟨#[0x3a, 0x20, 0x31, 0x20, 0x2b, 0x20, 0x32, 0x20, 0x2a, 0x20, 0x33, 0x7d, 0x3b]⟩)) 9, none),
  (some 21, .call ⟨.value (.func 20), #[(.tmp 20)], #[9]⟩, none),
  (some 14, .move (.tmp 21), none),
  (some 22, .extract (.tmp 14) 0, none),
  (some 23, .extract (.tmp 14) 1, none),
  (some 24, .extract (.tmp 14) 2, none),
  (some 4, .assign (.tmp 22), none),
  (some 5, .assign (.tmp 23), none),
  (some 6, .assign (.tmp 24), none)]
abbrev R5_5 : List SOp := [(some 26, .move (.tmp 3), none),
  (some 27, .binOp .add 9 (.const (.string ⟨#[0x61, 0x5b, 0x22]⟩)) (.tmp 26) 9, none),
  (some 28, .binOp .add 9 (.tmp 27) (.const (.string ⟨#[0x22, 0x5d, 0x20, 0x3d, 0x20, 0x28, 0x7b, 0x5b, 0x22]⟩)) 9, none),
  (some 29, .move (.tmp 3), none),
  (some 30, .binOp .add 9 (.tmp 28) (.tmp 29) 9, none),
  (some 31, .binOp .add 9 (.tmp 30) (.const (.string ⟨#[0x22, 0x5d, 0x3a, 0x20, 0x28, 0x31, 0x20, 0x2b, 0x20, 0x28, 0x32, 0x20, 0x2a, 0x20, 0x33, 0x29, 0x29, 0x7d, 0x29, 0x3b]⟩)) 9, none),
  (some 32, .call ⟨.value (.func 20), #[(.tmp 31)], #[9]⟩, none),
  (some 25, .move (.tmp 32), none),
  (some 33, .extract (.tmp 25) 0, none),
  (some 34, .extract (.tmp 25) 1, none),
  (some 35, .extract (.tmp 25) 2, none),
  (some 7, .assign (.tmp 33), none),
  (some 8, .assign (.tmp 34), none),
  (some 9, .assign (.tmp 35), none)]
abbrev R5_6 : List SOp := [(some 36, .move (.tmp 6), none),
  (some 37, .binOp .eql 29 (.tmp 36) (.const (.int .i64 0)) 29, none),
  (some 38, .move (.tmp 37), none),
  (some 39, .move (.tmp 9), some (some 38, true)),
  (some 40, .binOp .eql 29 (.tmp 39) (.const (.int .i64 0)) 29, some (some 38, true)),
  (some 41, .pick (.tmp 38) (.tmp 40) (.const (.bool false)), none),
  (some 42, .move (.tmp 41), none),
  (some 43, .move (.tmp 4), some (some 42, true)),
  (some 44, .move (.tmp 7), some (some 42, true)),
  (some 45, .call ⟨.value (.func 21), #[(.tmp 43), (.tmp 44)], #[26, 26]⟩, some (some 42, true)),
  (some 46, .pick (.tmp 42) (.tmp 45) (.const (.bool false)), none),
  (some 2, .assign (.tmp 46), none)]
abbrev S5 : SCode := .seq (.reg R5_0) (.seq (.seq (.reg R5_1) (.cond (.tmp 11) (.seq (.reg R5_2) (.ret)) (.skip))) (.seq (.reg R5_3) (.seq (.reg R5_4) (.seq (.reg R5_5) (.seq (.reg R5_6) (.ret))))))
theorem slim5 : slimC tab 5 (Tryz.f5.body.getD .skip) = S5 := by kernel_rfl
theorem wf5 {xs : List V} {H : Hp} {Q : V → Hp → Prop} (h : WC tab S5 (frame xs 0 .nil) H (resQ tab [.tmp 2] Q)) : WF tab 5 xs H Q := WF.of_slim (T := tab) (f := 5) rfl fn5 rfl slim5 rfl h
/-! paling/palinglaw08.ScopeWords -/
abbrev R8_0 : List SOp := [(some 4, .assign (.const (.bool false)), none)]
abbrev R8_1 : List SOp := [(some 7, .call ⟨.value (.func 26), #[], #[]⟩, none),
  (some 8, .unOp .not 4 (.tmp 7), none)]
abbrev R8_2 : List SOp := [(some 4, .assign (.const (.bool false)), none)]
abbrev R8_3 : List SOp := [(some 9, .buildSlice 36 6 #[(0, (.const (.string ⟨#[0x6c, 0x65, 0x6e]⟩))), (1, (.const (.string ⟨#[0x66, 0x72, 0x65, 0x65, 0x7a, 0x65]⟩))), (2, (.const (.string ⟨#[0x66, 0x72, 0x6f, 0x7a, 0x65, 0x6e]⟩))), (3, (.const (.string ⟨#[0x62, 0x72, 0x61, 0x6e, 0x64]⟩))), (4, (.const (.string ⟨#[0x6b, 0x69, 0x6e, 0x64]⟩))), (5, (.const (.string ⟨#[0x74, 0x65, 0x78, 0x74]⟩)))], none),
  (some 5, .assign (.tmp 9), none)]
abbrev R8_4 : List SOp := [(some 10, .move (.tmp 1), none),
  (some 11, .convert 5 3 (.tmp 10), none),
  (some 12, .move (.tmp 5), none),
  (some 13, .call ⟨.builtin .len, #[(.tmp 12)], #[36]⟩, none),
  (some 14, .binOp .rem 3 (.tmp 11) (.tmp 13) 3, none),
  (some 6, .assign (.tmp 14), none)]
abbrev R8_5 : List SOp := [(some 15, .call ⟨.value (.func 27), #[], #[]⟩, none),
  (some 16, .binOp .eql 3 (.tmp 15) (.const (.int .i64 6)) 3, none),
  (some 17, .move (.tmp 16), none),
  (some 18, .move (.tmp 0), some (some 17, true)),
  (some 19, .call ⟨.value (.func 28), #[(.tmp 18)], #[9]⟩, some (some 17, true)),
  (some 20, .move (.tmp 5), some (some 17, true)),
  (some 21, .move (.tmp 0), some (some 17, true)),
  (some 22, .call ⟨.value (.func 29), #[(.tmp 20), (.tmp 21)], #[36, 9]⟩, some (some 17, true)),
  (some 23, .binOp .eql 3 (.tmp 19) (.tmp 22) 3, some (some 17, true)),
  (some 24, .pick (.tmp 17) (.tmp 23) (.const (.bool false)), none),
  (some 25, .move (.tmp 24), none),
  (some 26, .move (.tmp 5), some (some 25, true)),
  (some 27, .move (.tmp 6), some (some 25, true)),
  (some 28, .indexAddr 36 (.tmp 26) (.tmp 27), some (some 25, true)),
  (some 29, .load 9 (.tmp 28), some (some 25, true)),
  (some 30, .call ⟨.value (.func 28), #[(.tmp 29)], #[9]⟩, some (some 25, true)),
  (some 31, .move (.tmp 6), some (some 25, true)),
  (some 32, .binOp .eql 3 (.tmp 30) (.tmp 31) 3, some (some 25, true)),
  (some 33, .pick (.tmp 25) (.tmp 32) (.const (.bool false)), none),
  (some 4, .assign (.tmp 33), none)]
abbrev S8 : SCode := .seq (.reg R8_0) (.seq (.seq (.reg R8_1) (.cond (.tmp 8) (.seq (.reg R8_2) (.ret)) (.skip))) (.seq (.reg R8_3) (.seq (.reg R8_4) (.seq (.reg R8_5) (.ret)))))
theorem slim8 : slimC tab 8 (Tryz.f8.body.getD .skip) = S8 := by kernel_rfl
theorem wf8 {xs : List V} {H : Hp} {Q : V → Hp → Prop} (h : WC tab S8 (frame xs 0 .nil) H (resQ tab [.tmp 4] Q)) : WF tab 8 xs H Q := WF.of_slim (T := tab) (f := 8) rfl fn8 rfl slim8 rfl h
/-! paling/palinglaw09.CodeTexts -/
abbrev R11_0 : List SOp := [(some 8, .assign (.const (.bool false)), none)]
abbrev R11_1 : List SOp := [(some 10, .call ⟨.value (.func 34), #[], #[]⟩, none),
  (some 11, .unOp .not 4 (.tmp 10), none)]
abbrev R11_2 : List SOp := [(some 8, .assign (.const (.bool false)), none)]
abbrev R11_3 : List SOp := [(some 12, .move (.tmp 0), none),
  (some 13, .move (.tmp 1), none),
  (some 14, .move (.tmp 2), none),
  (some 15, .move (.tmp 3), none),
  (some 16, .build 61 #[(0, (.tmp 12)), (1, (.tmp 13)), (2, (.tmp 14)), (3, (.tmp 15))], none),
  (some 9, .alloc 61, none),
  (none, .store 61 (.tmp 9) (.tmp 16), none)]
abbrev R11_4 : List (SOp × Nat) := [((some 17, .load 61 (.tmp 9), none), 0),
  ((some 18, .call ⟨.value (.func 35), #[(.tmp 17)], #[61]⟩, none), 0),
  ((some 19, .load 61 (.tmp 9), none), 1),
  ((some 20, .call ⟨.value (.func 36), #[(.tmp 19)], #[61]⟩, none), 0),
  ((some 21, .binOp .eql 9 (.tmp 18) (.tmp 20) 9, none), 0),
  ((some 8, .assign (.tmp 21), none), 0)]
abbrev S11 : SCode := .seq (.reg R11_0) (.seq (.seq (.reg R11_1) (.cond (.tmp 11) (.seq (.reg R11_2) (.ret)) (.skip))) (.seq (.reg R11_3) (.seq (.dreg R11_4) (.ret))))
theorem slim11 : slimC tab 11 (Tryz.f11.body.getD .skip) = S11 := by kernel_rfl
theorem wf11 {xs : List V} {H : Hp} {Q : V → Hp → Prop} (h : WC tab S11 (frame xs 0 .nil) H (resQ tab [.tmp 8] Q)) : WF tab 11 xs H Q := WF.of_slim (T := tab) (f := 11) rfl fn11 rfl slim11 rfl h
/-! paling/palinglaw09.CodeOps -/
abbrev R12_0 : List SOp := [(some 2, .assign (.const (.bool false)), none)]
abbrev R12_1 : List SOp := [(some 6, .call ⟨.value (.func 34), #[], #[]⟩, none),
  (some 7, .unOp .not 4 (.tmp 6), none)]
abbrev R12_2 : List SOp := [(some 2, .assign (.const (.bool false)), none)]
abbrev R12_3 : List SOp := [(some 8, .move (.tmp 0), none),
  (some 3, .assign (.tmp 8), none)]
abbrev R12_4 : List SOp := [(some 9, .buildSlice 65 7 #[(0, (.const (.int .u8 4))), (1, (.const (.int .u8 15))), (2, (.const (.int .u8 16))), (3, (.const (.int .u8 17))), (4, (.const (.int .u8 18))), (5, (.const (.int .u8 19))), (6, (.const (.int .u8 21)))], none),
  (some 4, .assign (.tmp 9), none)]
abbrev R12_5 : List SOp := [(some 10, .buildSlice 65 4 #[(0, (.const (.int .u8 15))), (1, (.const (.int .u8 16))), (2, (.const (.int .u8 18))), (3, (.const (.int .u8 19)))], none),
  (some 5, .assign (.tmp 10), none)]
abbrev R12_6 : List SOp := [(some 11, .move (.tmp 3), none),
  (some 12, .call ⟨.value (.func 37), #[(.tmp 11)], #[59]⟩, none),
  (some 13, .move (.tmp 0), none),
  (some 14, .binOp .lss 5 (.tmp 13) (.const (.int .u8 22)) 5, none),
  (some 15, .move (.tmp 14), none),
  (some 16, .move (.tmp 4), some (some 15, true)),
  (some 17, .move (.tmp 3), some (some 15, true)),
  (some 18, .call ⟨.value (.func 38), #[(.tmp 16), (.tmp 17)], #[65, 59]⟩, some (some 15, true)),
  (some 19, .unOp .not 4 (.tmp 18), some (some 15, true)),
  (some 20, .pick (.tmp 15) (.tmp 19) (.const (.bool false)), none),
  (some 21, .binOp .eql 4 (.tmp 12) (.tmp 20) 4, none),
  (some 22, .move (.tmp 21), none),
  (some 23, .move (.tmp 3), some (some 22, true)),
  (some 24, .call ⟨.value (.func 39), #[(.tmp 23)], #[59]⟩, some (some 22, true)),
  (some 25, .move (.tmp 5), some (some 22, true)),
  (some 26, .move (.tmp 3), some (some 22, true)),
  (some 27, .call ⟨.value (.func 38), #[(.tmp 25), (.tmp 26)], #[65, 59]⟩, some (some 22, true)),
  (some 28, .binOp .eql 4 (.tmp 24) (.tmp 27) 4, some (some 22, true)),
  (some 29, .pick (.tmp 22) (.tmp 28) (.const (.bool false)), none),
  (some 2, .assign (.tmp 29), none)]
abbrev S12 : SCode := .seq (.reg R12_0) (.seq (.seq (.reg R12_1) (.cond (.tmp 7) (.seq (.reg R12_2) (.ret)) (.skip))) (.seq (.reg R12_3) (.seq (.reg R12_4) (.seq (.reg R12_5) (.seq (.reg R12_6) (.ret))))))
theorem slim12 : slimC tab 12 (Tryz.f12.body.getD .skip) = S12 := by kernel_rfl
theorem wf12 {xs : List V} {H : Hp} {Q : V → Hp → Prop} (h : WC tab S12 (frame xs 0 .nil) H (resQ tab [.tmp 2] Q)) : WF tab 12 xs H Q := WF.of_slim (T := tab) (f := 12) rfl fn12 rfl slim12 rfl h
/-! paling/palinglaw09.CodeApart -/
abbrev R13_0 : List SOp := [(some 7, .box 68 (.tmp 2), none),
  (some 8, .box 68 (.tmp 3), none),
  (some 10, .assign (.const (.bool false)), none)]
abbrev R13_1 : List SOp := [(some 13, .call ⟨.value (.func 34), #[], #[]⟩, none),
  (some 14, .unOp .not 4 (.tmp 13), none)]
abbrev R13_2 : List SOp := [(some 10, .assign (.const (.bool false)), none)]
abbrev R13_3 : List SOp := [(some 15, .move (.tmp 4), none),
  (some 16, .binOp .rem 5 (.tmp 15) (.const (.int .u8 4)) 5, none),
  (some 17, .binOp .gtr 5 (.tmp 16) (.const (.int .u8 0)) 5, none)]
abbrev R13_4 : List SOp := [(some 18, .move (.tmp 0), none),
  (some 1, .assign (.tmp 18), none)]
abbrev R13_5 : List SOp := [(some 19, .move (.tmp 4), none),
  (some 20, .binOp .rem 5 (.tmp 19) (.const (.int .u8 4)) 5, none),
  (some 21, .binOp .gtr 5 (.tmp 20) (.const (.int .u8 1)) 5, none)]
abbrev R13_6 : List (SOp × Nat) := [((some 22, .indexAddr 68 (.tmp 7) (.const (.int .i64 0)), none), 0),
  ((some 23, .load 67 (.tmp 22), none), 0),
  ((some 26, .indexAddr 68 (.tmp 8) (.const (.int .i64 0)), none), 0),
  ((none, .store 67 (.tmp 26) (.tmp 23), none), 0),
  ((some 24, .indexAddr 68 (.tmp 7) (.const (.int .i64 1)), none), 1),
  ((some 25, .load 67 (.tmp 24), none), 1),
  ((some 27, .indexAddr 68 (.tmp 8) (.const (.int .i64 1)), none), 0),
  ((none, .store 67 (.tmp 27) (.tmp 25), none), 0)]
abbrev R13_7 : List SOp := [(some 28, .move (.tmp 0), none),
  (some 29, .binOp .rem 5 (.tmp 28) (.const (.int .u8 22)) 5, none),
  (some 30, .indexAddr 68 (.tmp 7) (.const (.int .i64 0)), none),
  (some 31, .load 67 (.tmp 30), none),
  (some 32, .convert 67 3 (.tmp 31), none),
  (some 33, .indexAddr 68 (.tmp 7) (.const (.int .i64 1)), none),
  (some 34, .load 67 (.tmp 33), none),
  (some 35, .convert 67 3 (.tmp 34), none),
  (some 36, .indexAddr 68 (.tmp 7) (.const (.int .i64 2)), none),
  (some 37, .load 67 (.tmp 36), none),
  (some 38, .convert 67 3 (.tmp 37), none),
  (some 39, .build 61 #[(0, (.tmp 29)), (1, (.tmp 32)), (2, (.tmp 35)), (3, (.tmp 38))], none),
  (some 11, .alloc 61, none),
  (none, .store 61 (.tmp 11) (.tmp 39), none)]
abbrev R13_8 : List SOp := [(some 40, .move (.tmp 1), none),
  (some 41, .binOp .rem 5 (.tmp 40) (.const (.int .u8 22)) 5, none),
  (some 42, .indexAddr 68 (.tmp 8) (.const (.int .i64 0)), none),
  (some 43, .load 67 (.tmp 42), none),
  (some 44, .convert 67 3 (.tmp 43), none),
  (some 45, .indexAddr 68 (.tmp 8) (.const (.int .i64 1)), none),
  (some 46, .load 67 (.tmp 45), none),
  (some 47, .convert 67 3 (.tmp 46), none),
  (some 48, .indexAddr 68 (.tmp 8) (.const (.int .i64 2)), none),
  (some 49, .load 67 (.tmp 48), none),
  (some 50, .convert 67 3 (.tmp 49), none),
  (some 51, .build 61 #[(0, (.tmp 41)), (1, (.tmp 44)), (2, (.tmp 47)), (3, (.tmp 50))], none),
  (some 12, .alloc 61, none),
  (none, .store 61 (.tmp 12) (.tmp 51), none)]
abbrev R13_9 : List (SOp × Nat) := [((some 52, .load 61 (.tmp 11), none), 0),
  ((some 53, .call ⟨.value (.func 35), #[(.tmp 52)], #[61]⟩, none), 0),
  ((some 54, .load 61 (.tmp 12), none), 1),
  ((some 55, .call ⟨.value (.func 35), #[(.tmp 54)], #[61]⟩, none), 0),
  ((some 56, .binOp .eql 9 (.tmp 53) (.tmp 55) 9, none), 0),
  ((some 57, .load 61 (.tmp 11), none), 2),
  ((some 58, .load 61 (.tmp 12), none), 2),
  ((some 59, .binOp .eql 61 (.tmp 57) (.tmp 58) 61, none), 2),
  ((some 60, .binOp .eql 4 (.tmp 56) (.tmp 59) 4, none), 0),
  ((some 10, .assign (.tmp 60), none), 0)]
abbrev S13 : SCode := .seq (.reg R13_0) (.seq (.seq (.reg R13_1) (.cond (.tmp 14) (.seq (.reg R13_2) (.ret)) (.skip))) (.seq (.seq (.reg R13_3) (.cond (.tmp 17) (.reg R13_4) (.skip))) (.seq (.seq (.reg R13_5) (.cond (.tmp 21) (.dreg R13_6) (.skip))) (.seq (.reg R13_7) (.seq (.reg R13_8) (.seq (.dreg R13_9) (.ret)))))))
theorem slim13 : slimC tab 13 (Tryz.f13.body.getD .skip) = S13 := by kernel_rfl
theorem wf13 {xs : List V} {H : Hp} {Q : V → Hp → Prop} (h : WC tab S13 (frame xs 0 .nil) H (resQ tab [.tmp 10] Q)) : WF tab 13 xs H Q := WF.of_slim (T := tab) (f := 13) rfl fn13 rfl slim13 rfl h
/-! paling/palinglaw09.CodePrints -/
abbrev R14_0 : List SOp := [(some 1, .box 73 (.tmp 0), none),
  (some 2, .assign (.const (.bool false)), none)]
abbrev R14_1 : List SOp := [(some 6, .call ⟨.value (.func 34), #[], #[]⟩, none),
  (some 7, .unOp .not 4 (.tmp 6), none)]
abbrev R14_2 : List SOp := [(some 2, .assign (.const (.bool false)), none)]
abbrev R14_3 : List SOp := [(some 8, .fieldAddr 73 (.tmp 1) 4, none),
  (some 9, .load 71 (.tmp 8), none),
  (some 10, .call ⟨.builtin .len, #[(.tmp 9)], #[71]⟩, none),
  (some 11, .binOp .gtr 3 (.tmp 10) (.const (.int .i64 60)) 3, none),
  (some 12, .move (.tmp 11), none),
  (some 13, .fieldAddr 73 (.tmp 1) 1, some (some 12, false)),
  (some 14, .load 40 (.tmp 13), some (some 12, false)),
  (some 15, .call ⟨.builtin .len, #[(.tmp 14)], #[40]⟩, some (some 12, false)),
  (some 16, .binOp .gtr 3 (.tmp 15) (.const (.int .i64 60)) 3, some (some 12, false)),
  (some 17, .pick (.tmp 12) (.const (.bool true)) (.tmp 16), none)]
abbrev R14_4 : List SOp := [(some 2, .assign (.const (.bool true)), none)]
abbrev R14_5 : List (SOp × Nat) := [((some 18, .fieldAddr 73 (.tmp 1) 0, none), 0),
  ((some 19, .load 3 (.tmp 18), none), 0),
  ((some 20, .call ⟨.value (.func 40), #[(.tmp 19)], #[3]⟩, none), 0),
  ((some 23, .fieldAddr 73 (.tmp 1) 1, none), 1),
  ((some 24, .load 40 (.tmp 23), none), 1),
  ((some 25, .call ⟨.builtin .len, #[(.tmp 24)], #[40]⟩, none), 1),
  ((some 26, .call ⟨.value (.func 40), #[(.tmp 25)], #[3]⟩, none), 0),
  ((some 29, .fieldAddr 73 (.tmp 1) 2, none), 2),
  ((some 30, .load 3 (.tmp 29), none), 2),
  ((some 31, .call ⟨.value (.func 40), #[(.tmp 30)], #[3]⟩, none), 0),
  ((some 21, .binOp .add 9 (.const (.string ⟨#[0x66, 0x6e, 0x20]⟩)) (.tmp 20) 9, none), 2),
  ((some 22, .binOp .add 9 (.tmp 21) (.const (.string ⟨#[0x20]⟩)) 9, none), 2),
  ((some 27, .binOp .add 9 (.tmp 22) (.tmp 26) 9, none), 1),
  ((some 28, .binOp .add 9 (.tmp 27) (.const (.string ⟨#[0x20]⟩)) 9, none), 1),
  ((some 32, .binOp .add 9 (.tmp 28) (.tmp 31) 9, none), 0),
  ((some 33, .binOp .add 9 (.tmp 32) (.const (.string ⟨#[0x0a]⟩)) 9, none), 0),
  ((some 3, .assign (.tmp 33), none), 0)]
abbrev R14_6 : List SOp := [(some 34, .fieldAddr 73 (.tmp 1) 4, none),
  (some 35, .load 71 (.tmp 34), none),
  (some 36, .call ⟨.builtin .len, #[(.tmp 35)], #[71]⟩, none),
  (some 37, .move (.const (.int .i64 0)), none)]
abbrev R14_7 : List SOp := [(some 38, .binOp .lss 3 (.tmp 37) (.tmp 36) 3, none)]
abbrev R14_8 : List SOp := [(some 39, .indexAddr 71 (.tmp 35) (.tmp 37), none),
  (some 40, .load 61 (.tmp 39), none),
  (some 5, .alloc 61, none),
  (none, .store 61 (.tmp 5) (.tmp 40), none)]
abbrev R14_9 : List SOp := [(some 41, .move (.tmp 3), none),
  (some 42, .load 61 (.tmp 5), none),
  (some 43, .call ⟨.value (.func 36), #[(.tmp 42)], #[61]⟩, none),
  (some 44, .binOp .add 9 (.tmp 43) (.const (.string ⟨#[0x0a]⟩)) 9, none),
  (some 45, .binOp .add 9 (.tmp 41) (.tmp 44) 9, none),
  (some 3, .assign (.tmp 45), none)]
abbrev R14_10 : List SOp := [(some 46, .binOp .add 3 (.tmp 37) (.const (.int .i64 1)) 3, none),
  (some 37, .move (.tmp 46), none)]
def L14_0 : SCode := .seq (.reg R14_7) (.seq (.cond (.tmp 38) (.skip) (.exit 0)) (.seq (.block 1 (.seq (.reg R14_8) (.reg R14_9))) (.reg R14_10)))
abbrev R14_11 : List SOp := [(some 47, .load 73 (.tmp 1), none),
  (some 48, .call ⟨.value (.func 41), #[(.tmp 47)], #[73]⟩, none),
  (some 49, .move (.tmp 3), none),
  (some 50, .binOp .eql 9 (.tmp 48) (.tmp 49) 9, none),
  (some 2, .assign (.tmp 50), none)]
abbrev S14 : SCode := .seq (.reg R14_0) (.seq (.seq (.reg R14_1) (.cond (.tmp 7) (.seq (.reg R14_2) (.ret)) (.skip))) (.seq (.seq (.reg R14_3) (.cond (.tmp 17) (.seq (.reg R14_4) (.ret)) (.skip))) (.seq (.dreg R14_5) (.seq (.seq (.reg R14_6) (.block 0 (.loop L14_0))) (.seq (.reg R14_11) (.ret))))))
theorem slim14 : slimC tab 14 (Tryz.f14.body.getD .skip) = S14 := by kernel_rfl
theorem wf14 {xs : List V} {H : Hp} {Q : V → Hp → Prop} (h : WC tab S14 (frame xs 0 .nil) H (resQ tab [.tmp 2] Q)) : WF tab 14 xs H Q := WF.of_slim (T := tab) (f := 14) rfl fn14 rfl slim14 rfl h
/-! paling/parse.Reserved -/
abbrev R22_0 : List SOp := [(some 2, .assign (.const (.bool false)), none)]
abbrev R22_1 : List SOp := [(some 5, .load 98 (.global 1), none),
  (some 6, .move (.const (.int .i64 0)), none)]
abbrev R22_2 : List SOp := [(some 7, .binOp .lss 3 (.tmp 6) (.const (.int .i64 12)) 3, none)]
abbrev R22_3 : List SOp := [(some 8, .index 98 (.tmp 5) (.tmp 6), none),
  (some 4, .assign (.tmp 8), none)]
abbrev R22_4 : List SOp := [(some 9, .move (.tmp 4), none),
  (some 10, .move (.tmp 0), none),
  (some 11, .binOp .eql 9 (.tmp 9) (.tmp 10) 9, none)]
abbrev R22_5 : List SOp := [(some 2, .assign (.const (.bool true)), none)]
abbrev R22_6 : List SOp := [(some 12, .binOp .add 3 (.tmp 6) (.const (.int .i64 1)) 3, none),
  (some 6, .move (.tmp 12), none)]
def L22_0 : SCode := .seq (.reg R22_2) (.seq (.cond (.tmp 7) (.skip) (.exit 0)) (.seq (.block 1 (.seq (.reg R22_3) (.seq (.reg R22_4) (.cond (.tmp 11) (.seq (.reg R22_5) (.ret)) (.skip))))) (.reg R22_6)))
abbrev R22_7 : List SOp := [(some 2, .assign (.const (.bool false)), none)]
abbrev S22 : SCode := .seq (.reg R22_0) (.seq (.seq (.reg R22_1) (.block 0 (.loop L22_0))) (.seq (.reg R22_7) (.ret)))
theorem slim22 : slimC tab 22 (Tryz.f22.body.getD .skip) = S22 := by kernel_rfl
theorem wf22 {xs : List V} {H : Hp} {Q : V → Hp → Prop} (h : WC tab S22 (frame xs 0 .nil) H (resQ tab [.tmp 2] Q)) : WF tab 22 xs H Q := WF.of_slim (T := tab) (f := 22) rfl fn22 rfl slim22 rfl h
/-! slices.Contains[[]string,string] -/
abbrev R23_0 : List SOp := [(some 4, .assign (.const (.bool false)), none)]
abbrev R23_1 : List SOp := [(some 5, .move (.tmp 0), none),
  (some 6, .move (.tmp 1), none),
  (some 7, .call ⟨.value (.func 29), #[(.tmp 5), (.tmp 6)], #[36, 9]⟩, none),
  (some 8, .binOp .geq 3 (.tmp 7) (.const (.int .i64 0)) 3, none),
  (some 4, .assign (.tmp 8), none)]
abbrev S23 : SCode := .seq (.reg R23_0) (.seq (.reg R23_1) (.ret))
theorem slim23 : slimC tab 23 (Tryz.f23.body.getD .skip) = S23 := by kernel_rfl
theorem wf23 {xs : List V} {H : Hp} {Q : V → Hp → Prop} (h : WC tab S23 (frame xs 0 .nil) H (resQ tab [.tmp 4] Q)) : WF tab 23 xs H Q := WF.of_slim (T := tab) (f := 23) rfl fn23 rfl slim23 rfl h
/-! paling/palinglaw06.Name -/
abbrev R24_0 : List SOp := [(some 2, .assign (.const (.string ⟨#[]⟩)), none)]
abbrev R24_1 : List SOp := [(some 3, .buildSlice 36 8 #[(0, (.const (.string ⟨#[0x61]⟩))), (1, (.const (.string ⟨#[0x62]⟩))), (2, (.const (.string ⟨#[0x63]⟩))), (3, (.const (.string ⟨#[0x64]⟩))), (4, (.const (.string ⟨#[0x66]⟩))), (5, (.const (.string ⟨#[0x6c, 0x65, 0x6e]⟩))), (6, (.const (.string ⟨#[0x78, 0x31]⟩))), (7, (.const (.string ⟨#[0x5f, 0x79]⟩)))], none),
  (some 4, .move (.tmp 0), none),
  (some 5, .binOp .rem 5 (.tmp 4) (.const (.int .u8 8)) 5, none),
  (some 6, .indexAddr 36 (.tmp 3) (.tmp 5), none),
  (some 7, .load 9 (.tmp 6), none),
  (some 2, .assign (.tmp 7), none)]
abbrev S24 : SCode := .seq (.reg R24_0) (.seq (.reg R24_1) (.ret))
theorem slim24 : slimC tab 24 (Tryz.f24.body.getD .skip) = S24 := by kernel_rfl
theorem wf24 {xs : List V} {H : Hp} {Q : V → Hp → Prop} (h : WC tab S24 (frame xs 0 .nil) H (resQ tab [.tmp 2] Q)) : WF tab 24 xs H Q := WF.of_slim (T := tab) (f := 24) rfl fn24 rfl slim24 rfl h
/-! paling/scope.Words -/
abbrev R27_0 : List SOp := [(some 0, .assign (.const (.int .i64 0)), none)]
abbrev R27_1 : List SOp := [(some 0, .assign (.const (.int .i64 6)), none)]
abbrev S27 : SCode := .seq (.reg R27_0) (.seq (.reg R27_1) (.ret))
theorem slim27 : slimC tab 27 (Tryz.f27.body.getD .skip) = S27 := by kernel_rfl
theorem wf27 {xs : List V} {H : Hp} {Q : V → Hp → Prop} (h : WC tab S27 (frame xs 0 .nil) H (resQ tab [.tmp 0] Q)) : WF tab 27 xs H Q := WF.of_slim (T := tab) (f := 27) rfl fn27 rfl slim27 rfl h
/-! paling/scope.Word -/
abbrev R28_0 : List SOp := [(some 2, .assign (.const (.int .i64 0)), none)]
abbrev R28_1 : List SOp := [(some 3, .slice 99 (.global 2) none none none, none),
  (some 4, .move (.tmp 0), none),
  (some 5, .call ⟨.value (.func 29), #[(.tmp 3), (.tmp 4)], #[36, 9]⟩, none),
  (some 2, .assign (.tmp 5), none)]
abbrev S28 : SCode := .seq (.reg R28_0) (.seq (.reg R28_1) (.ret))
theorem slim28 : slimC tab 28 (Tryz.f28.body.getD .skip) = S28 := by kernel_rfl
theorem wf28 {xs : List V} {H : Hp} {Q : V → Hp → Prop} (h : WC tab S28 (frame xs 0 .nil) H (resQ tab [.tmp 2] Q)) : WF tab 28 xs H Q := WF.of_slim (T := tab) (f := 28) rfl fn28 rfl slim28 rfl h
/-! slices.Index[[]string,string] -/
abbrev R29_0 : List SOp := [(some 4, .assign (.const (.int .i64 0)), none)]
abbrev R29_1 : List SOp := [(some 6, .move (.tmp 0), none),
  (some 7, .call ⟨.builtin .len, #[(.tmp 6)], #[36]⟩, none),
  (some 8, .move (.const (.int .i64 0)), none)]
abbrev R29_2 : List SOp := [(some 9, .binOp .lss 3 (.tmp 8) (.tmp 7) 3, none)]
abbrev R29_3 : List SOp := [(some 10, .move (.tmp 8), none),
  (some 5, .assign (.tmp 10), none)]
abbrev R29_4 : List SOp := [(some 11, .move (.tmp 1), none),
  (some 12, .move (.tmp 0), none),
  (some 13, .move (.tmp 5), none),
  (some 14, .indexAddr 36 (.tmp 12) (.tmp 13), none),
  (some 15, .load 9 (.tmp 14), none),
  (some 16, .binOp .eql 9 (.tmp 11) (.tmp 15) 9, none)]
abbrev R29_5 : List SOp := [(some 17, .move (.tmp 5), none),
  (some 4, .assign (.tmp 17), none)]
abbrev R29_6 : List SOp := [(some 18, .binOp .add 3 (.tmp 8) (.const (.int .i64 1)) 3, none),
  (some 8, .move (.tmp 18), none)]
def L29_0 : SCode := .seq (.reg R29_2) (.seq (.cond (.tmp 9) (.skip) (.exit 0)) (.seq (.block 1 (.seq (.reg R29_3) (.seq (.reg R29_4) (.cond (.tmp 16) (.seq (.reg R29_5) (.ret)) (.skip))))) (.reg R29_6)))
abbrev R29_7 : List SOp := [(some 4, .assign (.const (.int .i64 (-1))), none)]
abbrev S29 : SCode := .seq (.reg R29_0) (.seq (.seq (.reg R29_1) (.block 0 (.loop L29_0))) (.seq (.reg R29_7) (.ret)))
theorem slim29 : slimC tab 29 (Tryz.f29.body.getD .skip) = S29 := by kernel_rfl
theorem wf29 {xs : List V} {H : Hp} {Q : V → Hp → Prop} (h : WC tab S29 (frame xs 0 .nil) H (resQ tab [.tmp 4] Q)) : WF tab 29 xs H Q := WF.of_slim (T := tab) (f := 29) rfl fn29 rfl slim29 rfl h
/-! (paling/code.Instr).String -/
abbrev R35_0 : List SOp := [(some 1, .box 61 (.tmp 0), none),
  (some 2, .assign (.const (.string ⟨#[]⟩)), none)]
abbrev R35_1 : List SOp := [(some 3, .fieldAddr 61 (.tmp 1) 0, none),
  (some 4, .load 59 (.tmp 3), none),
  (some 5, .binOp .geq 59 (.tmp 4) (.const (.int .u8 22)) 59, none)]
abbrev R35_2 : List SOp := [(some 2, .assign (.const (.string ⟨#[0x3f]⟩)), none)]
abbrev R35_3 : List (SOp × Nat) := [((some 11, .fieldAddr 61 (.tmp 1) 1, none), 0),
  ((some 12, .load 3 (.tmp 11), none), 0),
  ((some 13, .call ⟨.value (.func 40), #[(.tmp 12)], #[3]⟩, none), 0),
  ((some 16, .fieldAddr 61 (.tmp 1) 2, none), 1),
  ((some 17, .load 3 (.tmp 16), none), 1),
  ((some 18, .call ⟨.value (.func 40), #[(.tmp 17)], #[3]⟩, none), 0),
  ((some 21, .fieldAddr 61 (.tmp 1) 3, none), 2),
  ((some 22, .load 3 (.tmp 21), none), 2),
  ((some 23, .call ⟨.value (.func 40), #[(.tmp 22)], #[3]⟩, none), 0),
  ((some 6, .fieldAddr 61 (.tmp 1) 0, none), 3),
  ((some 7, .load 59 (.tmp 6), none), 3),
  ((some 8, .indexAddr 106 (.global 3) (.tmp 7), none), 3),
  ((some 9, .load 9 (.tmp 8), none), 3),
  ((some 10, .binOp .add 9 (.tmp 9) (.const (.string ⟨#[0x20]⟩)) 9, none), 3),
  ((some 14, .binOp .add 9 (.tmp 10) (.tmp 13) 9, none), 2),
  ((some 15, .binOp .add 9 (.tmp 14) (.const (.string ⟨#[0x20]⟩)) 9, none), 2),
  ((some 19, .binOp .add 9 (.tmp 15) (.tmp 18) 9, none), 1),
  ((some 20, .binOp .add 9 (.tmp 19) (.const (.string ⟨#[0x20]⟩)) 9, none), 1),
  ((some 24, .binOp .add 9 (.tmp 20) (.tmp 23) 9, none), 0),
  ((some 2, .assign (.tmp 24), none), 0)]
abbrev S35 : SCode := .seq (.reg R35_0) (.seq (.seq (.reg R35_1) (.cond (.tmp 5) (.seq (.reg R35_2) (.ret)) (.skip))) (.seq (.dreg R35_3) (.ret)))
theorem slim35 : slimC tab 35 (Tryz.f35.body.getD .skip) = S35 := by kernel_rfl
theorem wf35 {xs : List V} {H : Hp} {Q : V → Hp → Prop} (h : WC tab S35 (frame xs 0 .nil) H (resQ tab [.tmp 2] Q)) : WF tab 35 xs H Q := WF.of_slim (T := tab) (f := 35) rfl fn35 rfl slim35 rfl h
/-! paling/palinglaw09.text -/
abbrev R36_0 : List SOp := [(some 1, .box 61 (.tmp 0), none),
  (some 2, .assign (.const (.string ⟨#[]⟩)), none)]
abbrev R36_1 : List SOp := [(some 3, .fieldAddr 61 (.tmp 1) 0, none),
  (some 4, .load 59 (.tmp 3), none),
  (some 5, .convert 59 3 (.tmp 4), none),
  (some 6, .load 36 (.global 4), none),
  (some 7, .call ⟨.builtin .len, #[(.tmp 6)], #[36]⟩, none),
  (some 8, .binOp .geq 3 (.tmp 5) (.tmp 7) 3, none)]
abbrev R36_2 : List SOp := [(some 2, .assign (.const (.string ⟨#[0x3f]⟩)), none)]
abbrev R36_3 : List (SOp × Nat) := [((some 15, .fieldAddr 61 (.tmp 1) 1, none), 0),
  ((some 16, .load 3 (.tmp 15), none), 0),
  ((some 17, .call ⟨.value (.func 40), #[(.tmp 16)], #[3]⟩, none), 0),
  ((some 20, .fieldAddr 61 (.tmp 1) 2, none), 1),
  ((some 21, .load 3 (.tmp 20), none), 1),
  ((some 22, .call ⟨.value (.func 40), #[(.tmp 21)], #[3]⟩, none), 0),
  ((some 25, .fieldAddr 61 (.tmp 1) 3, none), 2),
  ((some 26, .load 3 (.tmp 25), none), 2),
  ((some 27, .call ⟨.value (.func 40), #[(.tmp 26)], #[3]⟩, none), 0),
  ((some 9, .load 36 (.global 4), none), 3),
  ((some 10, .fieldAddr 61 (.tmp 1) 0, none), 3),
  ((some 11, .load 59 (.tmp 10), none), 3),
  ((some 12, .indexAddr 36 (.tmp 9) (.tmp 11), none), 3),
  ((some 13, .load 9 (.tmp 12), none), 3),
  ((some 14, .binOp .add 9 (.tmp 13) (.const (.string ⟨#[0x20]⟩)) 9, none), 3),
  ((some 18, .binOp .add 9 (.tmp 14) (.tmp 17) 9, none), 2),
  ((some 19, .binOp .add 9 (.tmp 18) (.const (.string ⟨#[0x20]⟩)) 9, none), 2),
  ((some 23, .binOp .add 9 (.tmp 19) (.tmp 22) 9, none), 1),
  ((some 24, .binOp .add 9 (.tmp 23) (.const (.string ⟨#[0x20]⟩)) 9, none), 1),
  ((some 28, .binOp .add 9 (.tmp 24) (.tmp 27) 9, none), 0),
  ((some 2, .assign (.tmp 28), none), 0)]
abbrev S36 : SCode := .seq (.reg R36_0) (.seq (.seq (.reg R36_1) (.cond (.tmp 8) (.seq (.reg R36_2) (.ret)) (.skip))) (.seq (.dreg R36_3) (.ret)))
theorem slim36 : slimC tab 36 (Tryz.f36.body.getD .skip) = S36 := by kernel_rfl
theorem wf36 {xs : List V} {H : Hp} {Q : V → Hp → Prop} (h : WC tab S36 (frame xs 0 .nil) H (resQ tab [.tmp 2] Q)) : WF tab 36 xs H Q := WF.of_slim (T := tab) (f := 36) rfl fn36 rfl slim36 rfl h
/-! (paling/code.Op).Writes -/
abbrev R37_0 : List SOp := [(some 2, .assign (.const (.bool false)), none)]
abbrev R37_1 : List SOp := [(some 3, .move (.tmp 0), none)]
abbrev R37_2 : List SOp := [(some 5, .binOp .eql 59 (.tmp 3) (.const (.int .u8 0)) 59, none),
  (some 4, .assign (.tmp 5), none)]
abbrev R37_3 : List SOp := [(some 6, .binOp .eql 59 (.tmp 3) (.const (.int .u8 1)) 59, none),
  (some 4, .assign (.tmp 6), none)]
abbrev R37_4 : List SOp := [(some 7, .binOp .eql 59 (.tmp 3) (.const (.int .u8 2)) 59, none),
  (some 4, .assign (.tmp 7), none)]
abbrev R37_5 : List SOp := [(some 8, .binOp .eql 59 (.tmp 3) (.const (.int .u8 3)) 59, none),
  (some 4, .assign (.tmp 8), none)]
abbrev R37_6 : List SOp := [(some 9, .binOp .eql 59 (.tmp 3) (.const (.int .u8 5)) 59, none),
  (some 4, .assign (.tmp 9), none)]
abbrev R37_7 : List SOp := [(some 10, .binOp .eql 59 (.tmp 3) (.const (.int .u8 6)) 59, none),
  (some 4, .assign (.tmp 10), none)]
abbrev R37_8 : List SOp := [(some 11, .binOp .eql 59 (.tmp 3) (.const (.int .u8 7)) 59, none),
  (some 4, .assign (.tmp 11), none)]
abbrev R37_9 : List SOp := [(some 12, .binOp .eql 59 (.tmp 3) (.const (.int .u8 8)) 59, none),
  (some 4, .assign (.tmp 12), none)]
abbrev R37_10 : List SOp := [(some 13, .binOp .eql 59 (.tmp 3) (.const (.int .u8 9)) 59, none),
  (some 4, .assign (.tmp 13), none)]
abbrev R37_11 : List SOp := [(some 14, .binOp .eql 59 (.tmp 3) (.const (.int .u8 10)) 59, none),
  (some 4, .assign (.tmp 14), none)]
abbrev R37_12 : List SOp := [(some 15, .binOp .eql 59 (.tmp 3) (.const (.int .u8 11)) 59, none),
  (some 4, .assign (.tmp 15), none)]
abbrev R37_13 : List SOp := [(some 16, .binOp .eql 59 (.tmp 3) (.const (.int .u8 12)) 59, none),
  (some 4, .assign (.tmp 16), none)]
abbrev R37_14 : List SOp := [(some 17, .binOp .eql 59 (.tmp 3) (.const (.int .u8 13)) 59, none),
  (some 4, .assign (.tmp 17), none)]
abbrev R37_15 : List SOp := [(some 18, .binOp .eql 59 (.tmp 3) (.const (.int .u8 14)) 59, none),
  (some 4, .assign (.tmp 18), none)]
abbrev R37_16 : List SOp := [(some 19, .binOp .eql 59 (.tmp 3) (.const (.int .u8 20)) 59, none),
  (some 4, .assign (.tmp 19), none)]
abbrev R37_17 : List SOp := [(some 2, .assign (.const (.bool true)), none)]
abbrev R37_18 : List SOp := [(some 2, .assign (.const (.bool false)), none)]
abbrev S37 : SCode := .seq (.reg R37_0) (.seq (.seq (.reg R37_1) (.block 0 (.seq (.seq (.reg R37_2) (.cond (.tmp 4) (.skip) (.seq (.reg R37_3) (.cond (.tmp 4) (.skip) (.seq (.reg R37_4) (.cond (.tmp 4) (.skip) (.seq (.reg R37_5) (.cond (.tmp 4) (.skip) (.seq (.reg R37_6) (.cond (.tmp 4) (.skip) (.seq (.reg R37_7) (.cond (.tmp 4) (.skip) (.seq (.reg R37_8) (.cond (.tmp 4) (.skip) (.seq (.reg R37_9) (.cond (.tmp 4) (.skip) (.seq (.reg R37_10) (.cond (.tmp 4) (.skip) (.seq (.reg R37_11) (.cond (.tmp 4) (.skip) (.seq (.reg R37_12) (.cond (.tmp 4) (.skip) (.seq (.reg R37_13) (.cond (.tmp 4) (.skip) (.seq (.reg R37_14) (.cond (.tmp 4) (.skip) (.seq (.reg R37_15) (.cond (.tmp 4) (.skip) (.reg R37_16))))))))))))))))))))))))))))) (.cond (.tmp 4) (.seq (.reg R37_17) (.ret)) (.skip))))) (.seq (.reg R37_18) (.ret)))
theorem slim37 : slimC tab 37 (Tryz.f37.body.getD .skip) = S37 := by kernel_rfl
theorem wf37 {xs : List V} {H : Hp} {Q : V → Hp → Prop} (h : WC tab S37 (frame xs 0 .nil) H (resQ tab [.tmp 2] Q)) : WF tab 37 xs H Q := WF.of_slim (T := tab) (f := 37) rfl fn37 rfl slim37 rfl h
/-! slices.Contains[[]paling/code.Op,paling/code.Op] -/
abbrev R38_0 : List SOp := [(some 4, .assign (.const (.bool false)), none)]
abbrev R38_1 : List SOp := [(some 5, .move (.tmp 0), none),
  (some 6, .move (.tmp 1), none),
  (some 7, .call ⟨.value (.func 54), #[(.tmp 5), (.tmp 6)], #[65, 59]⟩, none),
  (some 8, .binOp .geq 3 (.tmp 7) (.const (.int .i64 0)) 3, none),
  (some 4, .assign (.tmp 8), none)]
abbrev S38 : SCode := .seq (.reg R38_0) (.seq (.reg R38_1) (.ret))
theorem slim38 : slimC tab 38 (Tryz.f38.body.getD .skip) = S38 := by kernel_rfl
theorem wf38 {xs : List V} {H : Hp} {Q : V → Hp → Prop} (h : WC tab S38 (frame xs 0 .nil) H (resQ tab [.tmp 4] Q)) : WF tab 38 xs H Q := WF.of_slim (T := tab) (f := 38) rfl fn38 rfl slim38 rfl h
/-! (paling/code.Op).Ends -/
abbrev R39_0 : List SOp := [(some 2, .assign (.const (.bool false)), none)]
abbrev R39_1 : List SOp := [(some 3, .move (.tmp 0), none),
  (some 4, .binOp .eql 59 (.tmp 3) (.const (.int .u8 15)) 59, none),
  (some 5, .move (.tmp 4), none),
  (some 6, .move (.tmp 0), some (some 5, false)),
  (some 7, .binOp .eql 59 (.tmp 6) (.const (.int .u8 16)) 59, some (some 5, false)),
  (some 8, .pick (.tmp 5) (.const (.bool true)) (.tmp 7), none),
  (some 9, .move (.tmp 8), none),
  (some 10, .move (.tmp 0), some (some 9, false)),
  (some 11, .binOp .eql 59 (.tmp 10) (.const (.int .u8 18)) 59, some (some 9, false)),
  (some 12, .pick (.tmp 9) (.const (.bool true)) (.tmp 11), none),
  (some 13, .move (.tmp 12), none),
  (some 14, .move (.tmp 0), some (some 13, false)),
  (some 15, .binOp .eql 59 (.tmp 14) (.const (.int .u8 19)) 59, some (some 13, false)),
  (some 16, .pick (.tmp 13) (.const (.bool true)) (.tmp 15), none),
  (some 2, .assign (.tmp 16), none)]
abbrev S39 : SCode := .seq (.reg R39_0) (.seq (.reg R39_1) (.ret))
theorem slim39 : slimC tab 39 (Tryz.f39.body.getD .skip) = S39 := by kernel_rfl
theorem wf39 {xs : List V} {H : Hp} {Q : V → Hp → Prop} (h : WC tab S39 (frame xs 0 .nil) H (resQ tab [.tmp 2] Q)) : WF tab 39 xs H Q := WF.of_slim (T := tab) (f := 39) rfl fn39 rfl slim39 rfl h
/-! (paling/code.Func).Print -/
abbrev R41_0 : List SOp := [(some 1, .box 73 (.tmp 0), none),
  (some 2, .assign (.const (.string ⟨#[]⟩)), none)]
abbrev R41_1 : List SOp := [(some 3, .alloc 110, none)]
abbrev R41_2 : List (SOp × Nat) := [((some 6, .fieldAddr 73 (.tmp 1) 0, none), 0),
  ((some 7, .load 3 (.tmp 6), none), 0),
  ((some 8, .call ⟨.value (.func 40), #[(.tmp 7)], #[3]⟩, none), 0),
  ((some 11, .fieldAddr 73 (.tmp 1) 1, none), 1),
  ((some 12, .load 40 (.tmp 11), none), 1),
  ((some 13, .call ⟨.builtin .len, #[(.tmp 12)], #[40]⟩, none), 1),
  ((some 14, .call ⟨.value (.func 40), #[(.tmp 13)], #[3]⟩, none), 0),
  ((some 17, .fieldAddr 73 (.tmp 1) 2, none), 2),
  ((some 18, .load 3 (.tmp 17), none), 2),
  ((some 19, .call ⟨.value (.func 40), #[(.tmp 18)], #[3]⟩, none), 0),
  ((some 9, .binOp .add 9 (.const (.string ⟨#[0x66, 0x6e, 0x20]⟩)) (.tmp 8) 9, none), 2),
  ((some 10, .binOp .add 9 (.tmp 9) (.const (.string ⟨#[0x20]⟩)) 9, none), 2),
  ((some 15, .binOp .add 9 (.tmp 10) (.tmp 14) 9, none), 1),
  ((some 16, .binOp .add 9 (.tmp 15) (.const (.string ⟨#[0x20]⟩)) 9, none), 1),
  ((some 20, .binOp .add 9 (.tmp 16) (.tmp 19) 9, none), 0),
  ((some 21, .binOp .add 9 (.tmp 20) (.const (.string ⟨#[0x0a]⟩)) 9, none), 0),
  ((some 22, .call ⟨.value (.func 56), #[(.tmp 3), (.tmp 21)], #[110, 9]⟩, none), 0)]
abbrev R41_3 : List SOp := [(some 23, .fieldAddr 73 (.tmp 1) 4, none),
  (some 24, .load 71 (.tmp 23), none),
  (some 25, .call ⟨.builtin .len, #[(.tmp 24)], #[71]⟩, none),
  (some 26, .move (.const (.int .i64 0)), none)]
abbrev R41_4 : List SOp := [(some 27, .binOp .lss 3 (.tmp 26) (.tmp 25) 3, none)]
abbrev R41_5 : List SOp := [(some 28, .indexAddr 71 (.tmp 24) (.tmp 26), none),
  (some 29, .load 61 (.tmp 28), none),
  (some 5, .alloc 61, none),
  (none, .store 61 (.tmp 5) (.tmp 29), none)]
abbrev R41_6 : List SOp := [(some 30, .load 61 (.tmp 5), none),
  (some 31, .call ⟨.value (.func 35), #[(.tmp 30)], #[61]⟩, none),
  (some 32, .binOp .add 9 (.tmp 31) (.const (.string ⟨#[0x0a]⟩)) 9, none),
  (some 33, .call ⟨.value (.func 56), #[(.tmp 3), (.tmp 32)], #[110, 9]⟩, none)]
abbrev R41_7 : List SOp := [(some 34, .binOp .add 3 (.tmp 26) (.const (.int .i64 1)) 3, none),
  (some 26, .move (.tmp 34), none)]
def L41_0 : SCode := .seq (.reg R41_4) (.seq (.cond (.tmp 27) (.skip) (.exit 0)) (.seq (.block 1 (.seq (.reg R41_5) (.reg R41_6))) (.reg R41_7)))
abbrev R41_8 : List SOp := [(some 35, .call ⟨.value (.func 57), #[(.tmp 3)], #[110]⟩, none),
  (some 2, .assign (.tmp 35), none)]
abbrev S41 : SCode := .seq (.reg R41_0) (.seq (.reg R41_1) (.seq (.dreg R41_2) (.seq (.seq (.reg R41_3) (.block 0 (.loop L41_0))) (.seq (.reg R41_8) (.ret)))))
theorem slim41 : slimC tab 41 (Tryz.f41.body.getD .skip) = S41 := by kernel_rfl
theorem wf41 {xs : List V} {H : Hp} {Q : V → Hp → Prop} (h : WC tab S41 (frame xs 0 .nil) H (resQ tab [.tmp 2] Q)) : WF tab 41 xs H Q := WF.of_slim (T := tab) (f := 41) rfl fn41 rfl slim41 rfl h
/-! slices.Index[[]paling/code.Op,paling/code.Op] -/
abbrev R54_0 : List SOp := [(some 4, .assign (.const (.int .i64 0)), none)]
abbrev R54_1 : List SOp := [(some 6, .move (.tmp 0), none),
  (some 7, .call ⟨.builtin .len, #[(.tmp 6)], #[65]⟩, none),
  (some 8, .move (.const (.int .i64 0)), none)]
abbrev R54_2 : List SOp := [(some 9, .binOp .lss 3 (.tmp 8) (.tmp 7) 3, none)]
abbrev R54_3 : List SOp := [(some 10, .move (.tmp 8), none),
  (some 5, .assign (.tmp 10), none)]
abbrev R54_4 : List SOp := [(some 11, .move (.tmp 1), none),
  (some 12, .move (.tmp 0), none),
  (some 13, .move (.tmp 5), none),
  (some 14, .indexAddr 65 (.tmp 12) (.tmp 13), none),
  (some 15, .load 59 (.tmp 14), none),
  (some 16, .binOp .eql 59 (.tmp 11) (.tmp 15) 59, none)]
abbrev R54_5 : List SOp := [(some 17, .move (.tmp 5), none),
  (some 4, .assign (.tmp 17), none)]
abbrev R54_6 : List SOp := [(some 18, .binOp .add 3 (.tmp 8) (.const (.int .i64 1)) 3, none),
  (some 8, .move (.tmp 18), none)]
def L54_0 : SCode := .seq (.reg R54_2) (.seq (.cond (.tmp 9) (.skip) (.exit 0)) (.seq (.block 1 (.seq (.reg R54_3) (.seq (.reg R54_4) (.cond (.tmp 16) (.seq (.reg R54_5) (.ret)) (.skip))))) (.reg R54_6)))
abbrev R54_7 : List SOp := [(some 4, .assign (.const (.int .i64 (-1))), none)]
abbrev S54 : SCode := .seq (.reg R54_0) (.seq (.seq (.reg R54_1) (.block 0 (.loop L54_0))) (.seq (.reg R54_7) (.ret)))
theorem slim54 : slimC tab 54 (Tryz.f54.body.getD .skip) = S54 := by kernel_rfl
theorem wf54 {xs : List V} {H : Hp} {Q : V → Hp → Prop} (h : WC tab S54 (frame xs 0 .nil) H (resQ tab [.tmp 4] Q)) : WF tab 54 xs H Q := WF.of_slim (T := tab) (f := 54) rfl fn54 rfl slim54 rfl h
end Go.AM.YtkmkkgfdobaplaaGreatDoorT
/- What simp opens in the walks of this seat: printed by genset.py. -/
namespace Go.AM.YtkmkkgfdobaplaaGreatDoorT
open Go Go.AM
attribute [simp] wp_skip wp_reg wp_dreg wp_seq wp_cond wp_block wp_loop wp_exit wp_ret wpL_nil wpL_cons wpD_nil wpD_cons sq_nrm sq_exit sq_ret nm_ap bl_nrm bl_ret bl_exit cd_true cd_false lp_nrm lp_exit lp_ret rs_ret rs_nrm rsQ contL contD kV kAW kA kW kC kCo wantQ oq_p oq_r oq_w oq_c oq_alloc oq_box oq_bs oq_mm oq_ms oq_cv dV dAW dA dW dC dCo isCall skD od_p od_r od_w od_c od_alloc od_box od_bs od_mm od_ms od_cv wantDQ wantS kind convKd lenV_sl lenV_nils lenV_sle lenV_str evP evR evA evW evAW descOf frame opd opds Tr.get_set putD delD resOf getAll kbOk afterA isPt winOk ofVal ofVal0 ofVals binInt binStr binE_int binE_str binE_shl binE_shr binE_eql_agg binE_neq_agg binE_eql_bool binE_neq_bool binE_eql_pn binE_neq_pn binE_eql_nn binE_neq_nn binE_eql_in binE_neq_in binE_eql_ii binE_neq_ii isBoolD isPtrD isIfD isMpD isSlD isC cells_agg cells_bool one_bool cells_int one_int cells_str one_str cells_nilp one_nilp cells_ptr one_ptr cells_nils one_nils cells_sle one_sle cells_sl one_sl cells_nilm one_nilm cells_mp one_mp cells_nilf one_nilf cells_fn one_fn cells_nili one_nili cells_ifc one_ifc isAgg isMapT optI partV zeroV keyOk keyOk1 keyOkS keyOkL eqS sameL same1 sameK esOf partsV fillV placesV setCells mapKeyOk Hp.get_flush Hp.stale_flush Hp.next_flush repl List.nil_append get_new_self get_put_self get_bump next_bump st_new st_put st_bump Hp.next_new Hp.next_put flush_of IntKind.bits tab_ng nna1 nnb1 nna2 nnb2 nna3 nnb3 nna4 nnb4 nna5 nnb5 nna6 nnb6 nna7 nnb7 nna8 nnb8
attribute [simp] ty1 ty2 ty3 ty4 ty5 ty6 ty7 ty8 ty9 ty10 ty11 ty12 ty13 ty14 ty15 ty16 ty17 ty18 ty19 ty20 ty21 ty22 ty23 ty24 ty25 ty26 ty27 ty28 ty29 ty31 ty32 ty33 ty34 ty35 ty36 ty37 ty38 ty39 ty40 ty41 ty42 ty43 ty44 ty45 ty46 ty47 ty48 ty49 ty50 ty51 ty52 ty53 ty54 ty55 ty56 ty57 ty58 ty59 ty60 ty61 ty62 ty63 ty64 ty65 ty66 ty67 ty68 ty69 ty70 ty71 ty72 ty73 ty74 ty75 ty76 ty77 ty78 ty79 ty80 ty81 ty82 ty83 ty85 ty86 ty87 ty89 ty90 ty91 ty92 ty93 ty94 ty95 ty96 ty97 ty98 ty99 ty100 ty101 ty102 ty103 ty104 ty105 ty106 ty107 ty108 ty109 ty110 ty111 ty112 ty114 ty115 ty116 ty117 ty118 ty119 ty120 ty121 ty122 ty123 ty125 ty127 ty128 ty129 ty130 ty131 ty132 ty133 ty134 ty135 ty136 ty137 ty138 ty139 ty140 ty141 ty142 ty143 ty144 ty145 ty146 ty147 ty148 ty149 ty150 ty151 ty152 ty154 ty155 ty156 ty157 ty158 ty159 ty160 ty162 ty163 ty164 ty165 ty166 ty167 ty168 ty169 ty170 ty171 ty172 ty173 ty174 ty175 ty176 ty178 ty179 ty180 ty181 ty182 ty183 ty185 ty186 ty188 ty189 ty190 ty191 ty192 ty193 ty194 ty196 ty197 ty198 ty199 ty200 ty201 ty202 ty203 ty204 ty205 ty206 ty207 ty208 ty209 ty210 ty211 ty212 ty214 ty215 ty216 ty217 ty218 ty219 ty220 ty221 ty222 ty223 ty224 ty225 ty226 ty227 ty228 ty229 ty230 ty231 ty233 ty234 ty235 ty236 ty237 ty238 ty239 ty240 ty241 ty242 ty243 ty244 ty245 ty246 ty247 ty248 ty249 ty250 ty251 ty252 ty253 ty255 ty256 ty257 ty259 ty260 ty261 ty262 ty263 ty264 ty265 ty266 ty268 ty269 ty270 ty271 ty272 ty273 ty274 ty275 ty276 ty277 ty278 ty279 ty280 ty281 ty282
end Go.AM.YtkmkkgfdobaplaaGreatDoorT
/- Instructions' texts; which op does what. -/
set_option linter.unusedVariables false
set_option linter.unusedSimpArgs false
set_option maxRecDepth 100000
namespace Go.AM.YtkmkkgfdobaplaaGreatDoorT
open Go Go.AM Go.Proofs
def i64 (n : Int) : Prop := -9223372036854775808 ≤ n ∧ n ≤ 9223372036854775807
theorem itoa40 {H : Hp} {n : Int} (h : i64 n) : WF tab 40 [.int .i64 n] H fun v H' => v = .str (itoaF n) ∧ H' = H :=
  wf_told (f := 40) rfl fn40 rfl (H' := H) (v := .str (itoaF n)) (by simp [itoaE, h.1, h.2]) ⟨rfl, rfl⟩
theorem decF_len : ∀ k u, (decF k u).length ≤ k
  | 0, u => by simp [decF]
  | k + 1, u => by
    rw [decF]
    split
    · simp
    · have := decF_len k (u / 10); simp; omega
theorem itoaF_len (n : Int) : (itoaF n).length ≤ 21 := by
  unfold itoaF
  split
  · have := decF_len 20 n.natAbs; simp; omega
  · have := decF_len 20 n.toNat; omega
def insF (i : Nat) (a b c : Int) : List UInt8 := if i < 22 then insT i a b c else [63]
theorem opT_len : ∀ i, i < 22 → (opT i).length ≤ 10 := by decide
theorem codeL_at : ∀ i, i < 22 → codeL[i]? = some (.str (opT i)) := by
  intro i hi
  have e : codeL = opW.map V.str := rfl
  rw [e, List.getElem?_map, List.getElem?_eq_getElem (show i < opW.length from hi)]
  simp [opT, List.getElem?_eq_getElem (show i < opW.length from hi)]
theorem catE {T : Tab} {t : TypeId} {x y : Operand} {a b : List UInt8} (h : a.length + b.length ≤ 9223372036854775807) : binE T .add t x y (.str a) (.str b) = some (.str (a ++ b)) := by
  simp [binE, bin, binStr, h]
abbrev insV (i : Nat) (a b c : Int) : V := .agg [.int .u8 i, .int .i64 a, .int .i64 b, .int .i64 c]
theorem str35 {H : Hp} (hs : H.stale = []) (hg : H.get 3 = codeO) (hn : 3 < H.next) {i : Nat} {a b c : Int} (ha : i64 a) (hb : i64 b) (hc : i64 c) : WF tab 35 [insV i a b c] H fun v H' => v = .str (insF i a b c) ∧ Ext noX H H' := by
  refine wf35 (wp_sound _ ?_)
  have e0 : ∀ o, Ext noX H (H.new o) := fun o => Ext.new hs o
  have hne : ¬ 3 = H.next := by omega
  have hg1 : ∀ o, (H.new o).get 3 = codeO := fun o => by rw [get_new_ne _ hne]; exact hg
  by_cases h : i < 22
  · have h' : ¬ (22 : Int) ≤ (i : Int) := by omega
    have hlt : (i : Int) < 22 := by omega
    have hcd := codeL_at i h
    have l1 := opT_len i h
    have l2 := itoaF_len a
    have l3 := itoaF_len b
    have l4 := itoaF_len c
    simp [hs, h', hlt, h, hg1, codeO, hcd]
    refine (itoa40 ha).mono ?_
    rintro v H1 ⟨rfl, rfl⟩
    simp [hs, h', hlt, h, hg1, codeO, hcd, eqV]
    refine (itoa40 hb).mono ?_
    rintro v H1 ⟨rfl, rfl⟩
    simp [hs, h', hlt, h, hg1, codeO, hcd, eqV]
    refine (itoa40 hc).mono ?_
    rintro v H1 ⟨rfl, rfl⟩
    simp [hs, h', hlt, h, hg1, codeO, hcd, eqV]
    rw [if_pos (by omega)]; dsimp only
    iterate 5 (rw [catE (by simp only [List.length_append, List.length_cons, List.length_nil]; omega)]; dsimp only)
    refine ⟨?_, (e0 _).bump.bump.bump⟩
    simp [insF, h, insT]
  · have h' : (22 : Int) ≤ (i : Int) := by omega
    simp [hs, h', insF, h]
    exact e0 _
theorem text36 {H : Hp} (hs : H.stale = []) {r : Nat} (hg : H.get 4 = some (.row 36 1 true [.sl r 0 22 none 1])) (hr : H.get r = some (.row 9 1 true codeL)) (h4 : 4 < H.next) (hrn : r < H.next) {i : Nat} (hi : i < 256) {a b c : Int} (ha : i64 a) (hb : i64 b) (hc : i64 c) : WF tab 36 [insV i a b c] H fun v H' => v = .str (insF i a b c) ∧ Ext noX H H' := by
  refine wf36 (wp_sound _ ?_)
  have e0 : ∀ o, Ext noX H (H.new o) := fun o => Ext.new hs o
  have hg1 : ∀ o, (H.new o).get 4 = some (.row 36 1 true [.sl r 0 22 none 1]) := fun o => by rw [get_new_ne _ (by omega)]; exact hg
  have hr1 : ∀ o, (H.new o).get r = some (.row 9 1 true codeL) := fun o => by rw [get_new_ne _ (by omega)]; exact hr
  by_cases h : i < 22
  · have h' : ¬ (22 : Int) ≤ (i : Int) := by omega
    have hw : i < 256 := by omega
    have hw1 : wr .i64 (i : Int) = i := wr_i64 (by omega) (by omega)
    have hlt : (i : Int) < 22 := by omega
    have hcd := codeL_at i h
    have l1 := opT_len i h
    have l2 := itoaF_len a
    have l3 := itoaF_len b
    have l4 := itoaF_len c
    simp [hs, h', hlt, h, hg1, hr1, hw1, hcd]
    refine (itoa40 ha).mono ?_
    rintro v H1 ⟨rfl, rfl⟩
    simp [hs, h', hlt, h, hg1, hr1, hcd, eqV]
    refine (itoa40 hb).mono ?_
    rintro v H1 ⟨rfl, rfl⟩
    simp [hs, h', hlt, h, hg1, hr1, hcd, eqV]
    refine (itoa40 hc).mono ?_
    rintro v H1 ⟨rfl, rfl⟩
    simp [hs, h', hlt, h, hg1, hr1, hcd, eqV]
    rw [if_pos (by omega)]; dsimp only
    iterate 5 (rw [catE (by simp only [List.length_append, List.length_cons, List.length_nil]; omega)]; dsimp only)
    refine ⟨?_, (e0 _).bump.bump.bump⟩
    simp [insF, h, insT]
  · have h' : (22 : Int) ≤ (i : Int) := by omega
    have hw1 : wr .i64 (i : Int) = i := wr_i64 (by omega) (by omega)
    simp [hs, h', insF, h, hg1, hw1]
    exact e0 _
def wrB (n : Nat) : Bool := decide (n < 22) && !([4, 15, 16, 17, 18, 19, 21].contains n)
theorem wr37 {H : Hp} (hs : H.stale = []) {n : Nat} (hn : n < 256) : WF tab 37 [.int .u8 n] H fun v H' => v = .bool (wrB n) ∧ H' = H := by
  refine wf37 (wp_sound _ ?_)
  by_cases h : n < 22
  · have : n = 0 ∨ n = 1 ∨ n = 2 ∨ n = 3 ∨ n = 4 ∨ n = 5 ∨ n = 6 ∨ n = 7 ∨ n = 8 ∨ n = 9 ∨ n = 10 ∨ n = 11 ∨ n = 12 ∨ n = 13 ∨ n = 14 ∨ n = 15 ∨ n = 16 ∨ n = 17 ∨ n = 18 ∨ n = 19 ∨ n = 20 ∨ n = 21 := by omega
    rcases this with rfl | rfl | rfl | rfl | rfl | rfl | rfl | rfl | rfl | rfl | rfl | rfl | rfl | rfl | rfl | rfl | rfl | rfl | rfl | rfl | rfl | rfl <;> simp [hs, wrB]
  · have ne : ∀ k : Nat, k < 22 → ((n : Int) == (k : Int)) = false := fun k hk => beq_false_of_ne (by omega)
    have w : wrB n = false := by simp [wrB, h]
    have n0 : ((n : Int) == 0) = false := ne 0 (by omega)
    have n1 : ((n : Int) == 1) = false := ne 1 (by omega)
    have n2 : ((n : Int) == 2) = false := ne 2 (by omega)
    have n3 : ((n : Int) == 3) = false := ne 3 (by omega)
    have n5 : ((n : Int) == 5) = false := ne 5 (by omega)
    have n6 : ((n : Int) == 6) = false := ne 6 (by omega)
    have n7 : ((n : Int) == 7) = false := ne 7 (by omega)
    have n8 : ((n : Int) == 8) = false := ne 8 (by omega)
    have n9 : ((n : Int) == 9) = false := ne 9 (by omega)
    have n10 : ((n : Int) == 10) = false := ne 10 (by omega)
    have n11 : ((n : Int) == 11) = false := ne 11 (by omega)
    have n12 : ((n : Int) == 12) = false := ne 12 (by omega)
    have n13 : ((n : Int) == 13) = false := ne 13 (by omega)
    have n14 : ((n : Int) == 14) = false := ne 14 (by omega)
    have n20 : ((n : Int) == 20) = false := ne 20 (by omega)
    simp [hs, w, n0, n1, n2, n3, n5, n6, n7, n8, n9, n10, n11, n12, n13, n14, n20]
theorem end39 {H : Hp} (hs : H.stale = []) {n : Nat} (hn : n < 256) : WF tab 39 [.int .u8 n] H fun v H' => v = .bool ([15, 16, 18, 19].contains n) ∧ H' = H := by
  refine wf39 (wp_sound _ ?_)
  by_cases h : n = 15 ∨ n = 16 ∨ n = 18 ∨ n = 19
  · rcases h with rfl | rfl | rfl | rfl <;> simp [hs]
  · have ne : ∀ k : Nat, k = 15 ∨ k = 16 ∨ k = 18 ∨ k = 19 → ((n : Int) == (k : Int)) = false := fun k hk => beq_false_of_ne (by omega)
    have n1 : ((n : Int) == 15) = false := ne 15 (by omega)
    have n2 : ((n : Int) == 16) = false := ne 16 (by omega)
    have n3 : ((n : Int) == 18) = false := ne 18 (by omega)
    have n4 : ((n : Int) == 19) = false := ne 19 (by omega)
    have hc : [15, 16, 18, 19].contains n = false := by simp; omega
    simp [hs, n1, n2, n3, n4, hc]
    omega
/-- Where a number stands in a row of them. -/
def atF {α : Type} [DecidableEq α] (v : α) : List α → Nat → Int
  | [], _ => -1
  | x :: r, i => if v = x then i else atF v r (i + 1)
/-- A row of values, each of one cell. -/
def I54 (b : Nat) (l : List Nat) (w : Nat) (H : Hp) (m : Nat) (F : Fr) (H' : Hp) : Prop :=
  ∃ i : Nat, i + m = l.length ∧ H' = H ∧ F.get 0 = some (.sl b 0 l.length none 1) ∧ F.get 1 = some (.int .u8 w) ∧ F.get 7 = some (.int .i64 l.length) ∧ F.get 8 = some (.int .i64 i) ∧ atF w l 0 = atF w (l.drop i) i
theorem idx54 {H : Hp} (hs : H.stale = []) {b w : Nat} {l : List Nat} {ro : Bool} {e : TypeId} (hg : H.get b = some (.row e 1 ro (l.map fun (x : Nat) => V.int .u8 (x : Int)))) (hl : l.length < 1000000) : WF tab 54 [.sl b 0 l.length none 1, .int .u8 w] H fun v H' => v = .int .i64 (atF w l 0) ∧ H' = H := by
  refine wf54 (wp_sound _ ?_)
  simp [hs]
  refine loop_of (I54 b l w H) (m := l.length) ⟨0, by omega, rfl, by simp, by simp, by simp, by simp, by simp⟩ ?_
  rintro m F H' ⟨i, hi, rfl, f0, f1, f7, f8, hr⟩
  by_cases hlt : i < l.length
  · have hlt' : (i : Int) < (l.length : Int) := by omega
    have hw := wr_succ (show i < 1000000000 by omega)
    have hd : l.drop i = l[i] :: l.drop (i + 1) := List.drop_eq_getElem_cons hlt
    rw [hd, atF] at hr
    by_cases hc : w = l[i]
    · rw [if_pos hc] at hr
      have hc' : ((w : Int) == ((l[i] : Nat) : Int)) = true := by rw [← hc]; simp
      simp [L54_0, f0, f1, f7, f8, hlt, hlt', hs, hg, hc', hr]
    · rw [if_neg hc] at hr
      have hc' : ((w : Int) == ((l[i] : Nat) : Int)) = false := beq_false_of_ne (by omega)
      simp [L54_0, f0, f1, f7, f8, hlt, hlt', hs, hg, hc', hw]
      exact ⟨m - 1, by omega, i + 1, by omega, rfl, by simp [f0], by simp [f1], by simp [f7], by simp, hr⟩
  · have hlt' : ¬ (i : Int) < (l.length : Int) := by omega
    rw [List.drop_eq_nil_of_le (by omega), atF] at hr
    simp [L54_0, f0, f1, f7, f8, hlt, hlt', hs, hr]
def I29 (b : Nat) (l : List (List UInt8)) (w : List UInt8) (c : Option Nat) (H : Hp) (m : Nat) (F : Fr) (H' : Hp) : Prop :=
  ∃ i : Nat, i + m = l.length ∧ H' = H ∧ F.get 0 = some (.sl b 0 l.length c 1) ∧ F.get 1 = some (.str w) ∧ F.get 7 = some (.int .i64 l.length) ∧ F.get 8 = some (.int .i64 i) ∧ atF w l 0 = atF w (l.drop i) i
theorem idx29 {H : Hp} (hs : H.stale = []) {b : Nat} {w : List UInt8} {l : List (List UInt8)} {ro : Bool} {e : TypeId} {c : Option Nat} (hg : H.get b = some (.row e 1 ro (l.map .str))) (hl : l.length < 1000000) : WF tab 29 [.sl b 0 l.length c 1, .str w] H fun v H' => v = .int .i64 (atF w l 0) ∧ H' = H := by
  refine wf29 (wp_sound _ ?_)
  simp [hs]
  refine loop_of (I29 b l w c H) (m := l.length) ⟨0, by omega, rfl, by simp, by simp, by simp, by simp, by simp⟩ ?_
  rintro m F H' ⟨i, hi, rfl, f0, f1, f7, f8, hr⟩
  by_cases hlt : i < l.length
  · have hlt' : (i : Int) < (l.length : Int) := by omega
    have hw := wr_succ (show i < 1000000000 by omega)
    have hd : l.drop i = l[i] :: l.drop (i + 1) := List.drop_eq_getElem_cons hlt
    rw [hd, atF] at hr
    by_cases hc : w = l[i]
    · rw [if_pos hc] at hr
      have hc' : (w == l[i]) = true := by rw [← hc]; simp
      simp [L29_0, f0, f1, f7, f8, hlt, hlt', hs, hg, hc', hr]
    · rw [if_neg hc] at hr
      have hc' : (w == l[i]) = false := beq_false_of_ne hc
      simp [L29_0, f0, f1, f7, f8, hlt, hlt', hs, hg, hc', hw]
      exact ⟨m - 1, by omega, i + 1, by omega, rfl, by simp [f0], by simp [f1], by simp [f7], by simp, hr⟩
  · have hlt' : ¬ (i : Int) < (l.length : Int) := by omega
    rw [List.drop_eq_nil_of_le (by omega), atF] at hr
    simp [L29_0, f0, f1, f7, f8, hlt, hlt', hs, hr]
end Go.AM.YtkmkkgfdobaplaaGreatDoorT
/- CodeOps, CodeTexts, ScopeWords, ParseWords. -/
set_option linter.unusedVariables false
set_option linter.unusedSimpArgs false
set_option maxRecDepth 100000
namespace Go.AM.YtkmkkgfdobaplaaGreatDoorT
open Go Go.AM Go.Proofs
theorem has38 {H : Hp} (hs : H.stale = []) {b w : Nat} {l : List Nat} {ro : Bool} {e : TypeId} (hg : H.get b = some (.row e 1 ro (l.map fun (x : Nat) => V.int .u8 (x : Int)))) (hl : l.length < 1000000) : WF tab 38 [.sl b 0 l.length none 1, .int .u8 w] H fun v H' => v = .bool (decide (0 ≤ atF w l 0)) ∧ H' = H := by
  refine wf38 (wp_sound _ ?_)
  simp [hs]
  refine (idx54 hs hg hl).mono ?_
  rintro v H' ⟨rfl, rfl⟩
  simp [hs]
theorem has23 {H : Hp} (hs : H.stale = []) {b : Nat} {w : List UInt8} {l : List (List UInt8)} {ro : Bool} {e : TypeId} {c : Option Nat} (hg : H.get b = some (.row e 1 ro (l.map .str))) (hl : l.length < 1000000) : WF tab 23 [.sl b 0 l.length c 1, .str w] H fun v H' => v = .bool (decide (0 ≤ atF w l 0)) ∧ H' = H := by
  refine wf23 (wp_sound _ ?_)
  simp [hs]
  refine (idx29 hs hg hl).mono ?_
  rintro v H' ⟨rfl, rfl⟩
  simp [hs]
theorem ops_law : ∀ n, n < 256 → (wrB n = (decide (n < 22) && !decide (0 ≤ atF n [4, 15, 16, 17, 18, 19, 21] 0))) ∧ ([15, 16, 18, 19].contains n = decide (0 ≤ atF n [15, 16, 18, 19] 0)) := by decide
theorem codeOps12 (H0 : Hp) (hA : WF tab 34 [] H0 fun v H' => v = .bool true ∧ Ext noX H0 H') (hs : H0.stale = []) (n : Nat) (hn : n < 256) : WF tab 12 [.int .u8 n] H0 fun v _ => v = .bool true := by
  refine wf12 (wp_sound _ ?_)
  simp [hs]
  refine hA.mono ?_
  rintro v H1 ⟨rfl, e1⟩
  have s1 := e1.st
  obtain ⟨l1, l2⟩ := ops_law n hn
  simp [s1]
  refine (wr37 (by simp [s1]) hn).mono ?_
  rintro v H2 ⟨rfl, rfl⟩
  have g4 : ∀ o1 o2 : Ob, ((H1.new o1).new o2).get H1.next = some o1 := fun o1 o2 => by rw [get_new_ne _ (by rw [Hp.next_new]; omega)]; exact get_new_self _ _
  have g5 : ∀ o1 o2 : Ob, ((H1.new o1).new o2).get (H1.next + 1) = some o2 := fun o1 o2 => by have := get_new_self (H1.new o1) o2; rwa [Hp.next_new] at this
  have h38 : ∀ (H : Hp) (b : Nat) (l : List Nat) (w : Nat), H.stale = [] → H.get b = some (.row 59 1 false (l.map fun (x : Nat) => V.int .u8 (x : Int))) → l.length < 1000000 → WF tab 38 [.sl b 0 l.length none 1, .int .u8 w] H fun v H' => v = .bool (decide (0 ≤ atF w l 0)) ∧ H' = H := fun H b l w a1 a2 a3 => has38 a1 a2 a3
  by_cases h : n < 22
  · have h' : (n : Int) < 22 := by omega
    simp [s1, h']
    refine (h38 _ H1.next [4, 15, 16, 17, 18, 19, 21] n (by simp [s1]) (g4 _ _) (by simp)).mono ?_
    rintro v H2 ⟨rfl, rfl⟩
    simp [h] at l1
    simp [s1, l1]
    refine (end39 (by simp [s1]) hn).mono ?_
    rintro v H2 ⟨rfl, rfl⟩
    simp only [l2]
    simp [s1]
    refine (h38 _ (H1.next + 1) [15, 16, 18, 19] n (by simp [s1]) (g5 _ _) (by simp)).mono ?_
    rintro v H2 ⟨rfl, rfl⟩
    simp [s1]
  · have h' : ¬ (n : Int) < 22 := by omega
    simp [h] at l1
    simp [s1, h', l1]
    refine (end39 (by simp [s1]) hn).mono ?_
    rintro v H2 ⟨rfl, rfl⟩
    simp only [l2]
    simp [s1]
    refine (h38 _ (H1.next + 1) [15, 16, 18, 19] n (by simp [s1]) (g5 _ _) (by simp)).mono ?_
    rintro v H2 ⟨rfl, rfl⟩
    simp [s1]
theorem codeTexts11 (H0 : Hp) (hA : WF tab 34 [] H0 fun v H' => v = .bool true ∧ Ext noX H0 H') (hs : H0.stale = []) (g3 : H0.get 3 = codeO) {r : Nat} (g4 : H0.get 4 = some (.row 36 1 true [.sl r 0 22 none 1])) (gr : H0.get r = some (.row 9 1 true codeL)) (hn : 4 < H0.next) (hrn : r < H0.next) (i : Nat) (hi : i < 256) {a b c : Int} (ha : i64 a) (hb : i64 b) (hc : i64 c) : WF tab 11 [.int .u8 i, .int .i64 a, .int .i64 b, .int .i64 c] H0 fun v _ => v = .bool true := by
  refine wf11 (wp_sound _ ?_)
  simp [hs]
  refine hA.mono ?_
  rintro v H1 ⟨rfl, e1⟩
  have s1 := e1.st
  simp [s1]
  have e2 : ∀ o o' : Ob, Ext noX H0 (((H1.new o).put H1.next o')) := fun o o' => (e1.newge o).putge o' e1.le
  have k : ∀ {H : Hp} {b : Nat} {x : Ob}, Ext noX H0 H → b < H0.next → H0.get b = some x → H.get b = some x := fun hE hb hg => hE.keep hb hg
  have gg : ∀ o o' : Ob, ((H1.new o).put H1.next o').get H1.next = some o' := fun o o' => get_put_self _ _ _
  refine (str35 (i := i) (by simp [s1]) (k (e2 _ _) (by omega) g3) (by have := (e2 (.dead) .dead).le; simp at this ⊢; omega) ha hb hc).mono ?_
  rintro v H2 ⟨rfl, x2⟩
  have s2 := x2.st
  have y2 := (e2 _ _).trans x2
  have hrow := x2.keep (b := H1.next) (by simp) (gg _ _)
  simp [s1, s2, hrow, eqV, eqL]
  have y3 := y2.bump
  have hle := y3.le
  refine (text36 (r := r) (i := i) (by simp [s2]) (k y3 (by omega) g4) (k y3 hrn gr) (by omega) (by omega) hi ha hb hc).mono ?_
  rintro v H3 ⟨rfl, x3⟩
  have s3 := x3.st
  simp [s3]
theorem ix_words : ∀ k : Nat, k < 6 → atF ((scopeT[k]?).getD []) scopeT 0 = k := by decide
theorem scopeL_map : scopeL = scopeT.map V.str := rfl
theorem word28 {H : Hp} (hs : H.stale = []) (hg : H.get 2 = scopeO) (w : List UInt8) : WF tab 28 [.str w] H fun v H' => v = .int .i64 (atF w scopeT 0) ∧ H' = H := by
  refine wf28 (wp_sound _ ?_)
  have hg' : H.get 2 = some (.row 99 1 true scopeL) := hg
  simp [hs, hg', scopeL]
  refine (idx29 (l := scopeT) (ro := true) (e := 99) (c := some 6) hs (by rw [hg', scopeL_map]) (by decide)).mono ?_
  rintro v H' ⟨rfl, rfl⟩
  simp [hs]
theorem words27 {H : Hp} (hs : H.stale = []) : WF tab 27 [] H fun v H' => v = .int .i64 6 ∧ H' = H := by
  refine wf27 (wp_sound _ ?_)
  simp [hs]
theorem scopeWords8 (H0 : Hp) (hA : WF tab 26 [] H0 fun v H' => v = .bool true ∧ Ext noX H0 H') (hs : H0.stale = []) (g2 : H0.get 2 = scopeO) (hn : 2 < H0.next) (w : List UInt8) (n : Nat) (h256 : n < 256) : WF tab 8 [.str w, .int .u8 n] H0 fun v _ => v = .bool true := by
  refine wf8 (wp_sound _ ?_)
  simp [hs]
  refine hA.mono ?_
  rintro v H1 ⟨rfl, e1⟩
  have s1 := e1.st
  have hw : wr .i64 (n : Int) = n := wr_i64 (by omega) (by omega)
  have ht : (n : Int).tmod 6 = ((n % 6 : Nat) : Int) := by rw [Int.tmod_eq_emod_of_nonneg (by omega)]; omega
  have hk : n % 6 < 6 := Nat.mod_lt _ (by omega)
  generalize n % 6 = k at *
  simp [s1, hw, ht]
  have e2 : ∀ o : Ob, Ext noX H0 (H1.new o) := fun o => e1.newge o
  have g2' : ∀ o : Ob, (H1.new o).get 2 = scopeO := fun o => (e2 o).keep hn g2
  have gn : ∀ o : Ob, (H1.new o).get H1.next = some o := fun o => get_new_self _ _
  refine (words27 (by simp [s1])).mono ?_
  rintro v H2 ⟨rfl, rfl⟩
  simp [s1]
  refine (word28 (by simp [s1]) (g2' _) w).mono ?_
  rintro v H2 ⟨rfl, rfl⟩
  simp [s1]
  refine (idx29 (b := H1.next) (l := scopeT) (ro := false) (e := 9) (c := none) (by simp [s1]) (gn _) (by decide)).mono ?_
  rintro v H2 ⟨rfl, rfl⟩
  have hkk : (k : Int) < 6 := by omega
  have hix := ix_words k hk
  obtain ⟨x, hx⟩ : ∃ x, scopeT[k]? = some x := ⟨_, List.getElem?_eq_getElem (show k < scopeT.length from hk)⟩
  rw [hx] at hix
  simp only [Option.getD_some] at hix
  simp [s1, hkk, gn, hx]
  refine (word28 (by simp [s1]) (g2' _) _).mono ?_
  rintro v H2 ⟨rfl, rfl⟩
  rw [hix]
  simp [s1]
theorem reservedL_map : reservedL = reservedT.map V.str := rfl
def I22 (w : List UInt8) (H : Hp) (m : Nat) (F : Fr) (H' : Hp) : Prop :=
  ∃ i : Nat, i + m = 12 ∧ H' = H ∧ F.get 0 = some (.str w) ∧ F.get 5 = some (.agg reservedL) ∧ F.get 6 = some (.int .i64 i) ∧ atF w reservedT 0 = atF w (reservedT.drop i) i
theorem res22 {H : Hp} (hs : H.stale = []) (hg : H.get 1 = some (.row 98 1 true reservedL)) (w : List UInt8) : WF tab 22 [.str w] H fun v H' => v = .bool (decide (0 ≤ atF w reservedT 0)) ∧ H' = H := by
  refine wf22 (wp_sound _ ?_)
  have hlen : reservedL.length = 12 := rfl
  have htk : reservedL.take 12 = reservedL := rfl
  simp [hs, hg, hlen, htk]
  refine loop_of (I22 w H) (m := 12) ⟨0, by omega, rfl, by simp, by simp, by simp, by simp⟩ ?_
  rintro m F H' ⟨i, hi, rfl, f0, f5, f6, hr⟩
  by_cases hlt : i < 12
  · have hlt' : (i : Int) < 12 := by omega
    have hw := wr_succ (show i < 1000000000 by omega)
    have hl : i < reservedT.length := hlt
    have hd : reservedT.drop i = reservedT[i] :: reservedT.drop (i + 1) := List.drop_eq_getElem_cons hl
    have hat : reservedL[i]? = some (.str reservedT[i]) := by rw [reservedL_map, List.getElem?_map, List.getElem?_eq_getElem hl]; rfl
    rw [hd, atF] at hr
    by_cases hc : w = reservedT[i]
    · rw [if_pos hc] at hr
      have hc' : (reservedT[i] == w) = true := by rw [← hc]; simp
      simp [L22_0, f0, f5, f6, hlt, hlt', hs, hat, hc', hr]
    · rw [if_neg hc] at hr
      have hc' : (reservedT[i] == w) = false := beq_false_of_ne (fun e => hc e.symm)
      simp [L22_0, f0, f5, f6, hlt, hlt', hs, hat, hc', hw]
      exact ⟨m - 1, by omega, i + 1, by omega, rfl, by simp [f0], by simp [f5], by simp, hr⟩
  · have hlt' : ¬ (i : Int) < 12 := by omega
    have hn : reservedT.drop i = [] := List.drop_eq_nil_of_le (show reservedT.length ≤ i by show 12 ≤ i; omega)
    rw [hn, atF] at hr
    simp [L22_0, f0, f5, f6, hlt, hlt', hs, hr]
theorem ix_res : ∀ k : Nat, k < 12 → atF ((reservedT[k]?).getD []) reservedT 0 = k := by decide
theorem parseWords4 (H0 : Hp) (hA : WF tab 15 [] H0 fun v H' => v = .bool true ∧ Ext noX H0 H') (hs : H0.stale = []) (g1 : H0.get 1 = some (.row 98 1 true reservedL)) {r : Nat} (g0 : H0.get 0 = some (.row 36 1 true [.sl r 0 12 none 1])) (gr : H0.get r = some (.row 9 1 true reservedL)) (hn : 1 < H0.next) (hrn : r < H0.next) (w : List UInt8) (n : Nat) (h256 : n < 256) : WF tab 4 [.str w, .int .u8 n] H0 fun v _ => v = .bool true := by
  refine wf4 (wp_sound _ ?_)
  simp [hs]
  refine hA.mono ?_
  rintro v H1 ⟨rfl, e1⟩
  have s1 := e1.st
  by_cases h30 : 30 < w.length
  · have h' : 30 < (w.length : Int) := by omega
    simp [s1, h']
  · have h' : ¬ 30 < (w.length : Int) := by omega
    have g1' := e1.keep hn g1
    have g0' := e1.keep (by omega) g0
    have gr' := e1.keep hrn gr
    simp [s1, h']
    refine (res22 (by simp [s1]) (by simpa using g1') w).mono ?_
    rintro v H2 ⟨rfl, rfl⟩
    simp [s1, g0', eqV]
    refine (has23 (b := r) (l := reservedT) (ro := true) (e := 9) (c := none) (by simp [s1]) (by rw [← reservedL_map]; simpa using gr') (by decide)).mono ?_
    rintro v H2 ⟨rfl, rfl⟩
    have hw : wr .i64 (n : Int) = n := wr_i64 (by omega) (by omega)
    have ht : (n : Int).tmod 12 = ((n % 12 : Nat) : Int) := by rw [Int.tmod_eq_emod_of_nonneg (by omega)]; omega
    have hk : n % 12 < 12 := Nat.mod_lt _ (by omega)
    generalize n % 12 = k at *
    have hkk : (k : Int) < 12 := by omega
    have hix := ix_res k hk
    have hat : reservedL[k]? = some (.str ((reservedT[k]?).getD [])) := by
      rw [reservedL_map, List.getElem?_map]
      obtain ⟨x, hx⟩ : ∃ x, reservedT[k]? = some x := ⟨_, List.getElem?_eq_getElem (show k < reservedT.length from hk)⟩
      rw [hx]; rfl
    simp [s1, g0', gr', hw, ht, hkk, hat]
    refine (res22 (by simp [s1]) (by simpa using g1') _).mono ?_
    rintro v H2 ⟨rfl, rfl⟩
    rw [hix]
    simp [s1]
end Go.AM.YtkmkkgfdobaplaaGreatDoorT
