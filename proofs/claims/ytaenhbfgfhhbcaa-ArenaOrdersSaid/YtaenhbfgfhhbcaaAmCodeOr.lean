/- The slim code of these functions: printed by genslim.py. -/
import Derived.Test.YtaenhbfgfhhbcaaAmTab
import Derived.Test.YtaenhbfgfhhbcaaAmWp
namespace Go.AM.YtaenhbfgfhhbcaaT
open Go Go.AM Go.Proofs
set_option maxRecDepth 100000
/-! paling/palinglaw03.ArenaOrders -/
abbrev R8_0 : List SOp := [(some 3, .box 56 (.tmp 0), none),
  (some 4, .box 56 (.tmp 1), none),
  (some 6, .assign (.const (.bool false)), none)]
abbrev R8_1 : List SOp := [(some 11, .call ⟨.value (.func 22), #[], #[]⟩, none),
  (some 12, .unOp .not 4 (.tmp 11), none)]
abbrev R8_2 : List SOp := [(some 6, .assign (.const (.bool false)), none)]
abbrev R8_3 : List SOp := [(some 13, .move (.tmp 2), none)]
abbrev R8_4 : List SOp := [(some 14, .fieldAddr 56 (.tmp 3) 0, none),
  (some 15, .load 5 (.tmp 14), none),
  (some 16, .fieldAddr 56 (.tmp 4) 0, none),
  (none, .store 5 (.tmp 16) (.tmp 15), none)]
abbrev R8_5 : List (SOp × Nat) := [((some 17, .load 56 (.tmp 3), none), 0),
  ((some 18, .call ⟨.value (.func 28), #[(.tmp 17)], #[56]⟩, none), 0),
  ((some 19, .load 56 (.tmp 4), none), 1),
  ((some 20, .call ⟨.value (.func 28), #[(.tmp 19)], #[56]⟩, none), 0),
  ((some 7, .alloc 48, none), 2),
  ((some 8, .alloc 48, none), 2),
  ((none, .store 48 (.tmp 7) (.tmp 18), none), 0),
  ((none, .store 48 (.tmp 8) (.tmp 20), none), 0)]
abbrev R8_6 : List SOp := [(some 21, .load 48 (.tmp 7), none),
  (some 22, .load 48 (.tmp 8), none),
  (some 23, .call ⟨.value (.func 29), #[(.tmp 21), (.tmp 22)], #[48, 48]⟩, none),
  (some 9, .assign (.tmp 23), none)]
abbrev R8_7 : List SOp := [(some 24, .fieldAddr 48 (.tmp 7) 0, none),
  (some 25, .load 46 (.tmp 24), none),
  (some 26, .fieldAddr 48 (.tmp 8) 0, none),
  (some 27, .load 46 (.tmp 26), none),
  (some 28, .binOp .lss 46 (.tmp 25) (.tmp 27) 46, none),
  (some 29, .move (.tmp 28), none),
  (some 30, .fieldAddr 48 (.tmp 7) 0, some (some 29, false)),
  (some 31, .load 46 (.tmp 30), some (some 29, false)),
  (some 32, .fieldAddr 48 (.tmp 8) 0, some (some 29, false)),
  (some 33, .load 46 (.tmp 32), some (some 29, false)),
  (some 34, .binOp .eql 46 (.tmp 31) (.tmp 33) 46, some (some 29, false)),
  (some 35, .move (.tmp 34), some (some 29, false)),
  (some 36, .fieldAddr 48 (.tmp 7) 1, some (some 35, true)),
  (some 37, .load 2 (.tmp 36), some (some 35, true)),
  (some 38, .fieldAddr 48 (.tmp 8) 1, some (some 35, true)),
  (some 39, .load 2 (.tmp 38), some (some 35, true)),
  (some 40, .binOp .lss 2 (.tmp 37) (.tmp 39) 2, some (some 35, true)),
  (some 41, .move (.tmp 40), some (some 35, true)),
  (some 42, .fieldAddr 48 (.tmp 7) 1, some (some 41, false)),
  (some 43, .load 2 (.tmp 42), some (some 41, false)),
  (some 44, .fieldAddr 48 (.tmp 8) 1, some (some 41, false)),
  (some 45, .load 2 (.tmp 44), some (some 41, false)),
  (some 46, .binOp .eql 2 (.tmp 43) (.tmp 45) 2, some (some 41, false)),
  (some 47, .move (.tmp 46), some (some 41, false)),
  (some 48, .fieldAddr 48 (.tmp 7) 2, some (some 47, true)),
  (some 49, .load 9 (.tmp 48), some (some 47, true)),
  (some 50, .fieldAddr 48 (.tmp 8) 2, some (some 47, true)),
  (some 51, .load 9 (.tmp 50), some (some 47, true)),
  (some 52, .binOp .lss 9 (.tmp 49) (.tmp 51) 9, some (some 47, true)),
  (some 53, .pick (.tmp 47) (.tmp 52) (.const (.bool false)), some (some 41, false)),
  (some 54, .pick (.tmp 41) (.const (.bool true)) (.tmp 53), some (some 35, true)),
  (some 55, .pick (.tmp 35) (.tmp 54) (.const (.bool false)), some (some 29, false)),
  (some 56, .pick (.tmp 29) (.const (.bool true)) (.tmp 55), none),
  (some 10, .assign (.tmp 56), none)]
abbrev R8_8 : List SOp := [(some 57, .move (.tmp 9), none),
  (some 58, .binOp .eql 3 (.tmp 57) (.const (.int .i64 0)) 3, none),
  (some 59, .load 48 (.tmp 7), none),
  (some 60, .load 48 (.tmp 8), none),
  (some 61, .binOp .eql 48 (.tmp 59) (.tmp 60) 48, none),
  (some 62, .binOp .eql 4 (.tmp 58) (.tmp 61) 4, none),
  (some 63, .move (.tmp 62), none),
  (some 64, .move (.tmp 9), some (some 63, true)),
  (some 65, .binOp .lss 3 (.tmp 64) (.const (.int .i64 0)) 3, some (some 63, true)),
  (some 66, .move (.tmp 10), some (some 63, true)),
  (some 67, .binOp .eql 4 (.tmp 65) (.tmp 66) 4, some (some 63, true)),
  (some 68, .pick (.tmp 63) (.tmp 67) (.const (.bool false)), none),
  (some 6, .assign (.tmp 68), none)]
abbrev S8 : SCode := .seq (.reg R8_0) (.seq (.seq (.reg R8_1) (.cond (.tmp 12) (.seq (.reg R8_2) (.ret)) (.skip))) (.seq (.seq (.reg R8_3) (.cond (.tmp 13) (.reg R8_4) (.skip))) (.seq (.dreg R8_5) (.seq (.reg R8_6) (.seq (.reg R8_7) (.seq (.reg R8_8) (.ret)))))))
theorem slim8 : slimC tab 8 (Try.f8.body.getD .skip) = S8 := by kernel_rfl
theorem wf8 {xs : List V} {H : Hp} {Q : V → Hp → Prop} (h : WC tab S8 (frame xs 0 .nil) H (resQ tab [.tmp 6] Q)) : WF tab 8 xs H Q := WF.of_slim (T := tab) (f := 8) rfl fn8 rfl slim8 rfl h
/-! paling/palinglaw03.ArenaSorts -/
abbrev R9_0 : List SOp := [(some 3, .box 56 (.tmp 0), none),
  (some 4, .box 56 (.tmp 1), none),
  (some 5, .box 56 (.tmp 2), none),
  (some 6, .assign (.const (.bool false)), none)]
abbrev R9_1 : List SOp := [(some 13, .call ⟨.value (.func 22), #[], #[]⟩, none),
  (some 14, .unOp .not 4 (.tmp 13), none)]
abbrev R9_2 : List SOp := [(some 6, .assign (.const (.bool false)), none)]
abbrev R9_3 : List (SOp × Nat) := [((some 15, .load 56 (.tmp 3), none), 0),
  ((some 16, .call ⟨.value (.func 28), #[(.tmp 15)], #[56]⟩, none), 0),
  ((some 17, .load 56 (.tmp 4), none), 1),
  ((some 18, .call ⟨.value (.func 28), #[(.tmp 17)], #[56]⟩, none), 0),
  ((some 19, .load 56 (.tmp 5), none), 2),
  ((some 20, .call ⟨.value (.func 28), #[(.tmp 19)], #[56]⟩, none), 0),
  ((some 7, .alloc 48, none), 3),
  ((some 8, .alloc 48, none), 3),
  ((some 9, .alloc 48, none), 3),
  ((none, .store 48 (.tmp 7) (.tmp 16), none), 0),
  ((none, .store 48 (.tmp 8) (.tmp 18), none), 0),
  ((none, .store 48 (.tmp 9) (.tmp 20), none), 0)]
abbrev R9_4 : List (SOp × Nat) := [((some 21, .load 48 (.tmp 7), none), 0),
  ((some 22, .load 48 (.tmp 8), none), 0),
  ((some 23, .call ⟨.value (.func 29), #[(.tmp 21), (.tmp 22)], #[48, 48]⟩, none), 0),
  ((some 24, .load 48 (.tmp 8), none), 1),
  ((some 25, .load 48 (.tmp 9), none), 1),
  ((some 26, .call ⟨.value (.func 29), #[(.tmp 24), (.tmp 25)], #[48, 48]⟩, none), 0),
  ((some 27, .load 48 (.tmp 7), none), 2),
  ((some 28, .load 48 (.tmp 9), none), 2),
  ((some 29, .call ⟨.value (.func 29), #[(.tmp 27), (.tmp 28)], #[48, 48]⟩, none), 0),
  ((some 10, .assign (.tmp 23), none), 0),
  ((some 11, .assign (.tmp 26), none), 0),
  ((some 12, .assign (.tmp 29), none), 0)]
abbrev R9_5 : List SOp := [(some 30, .load 48 (.tmp 8), none),
  (some 31, .load 48 (.tmp 7), none),
  (some 32, .call ⟨.value (.func 29), #[(.tmp 30), (.tmp 31)], #[48, 48]⟩, none),
  (some 33, .binOp .lss 3 (.tmp 32) (.const (.int .i64 0)) 3, none),
  (some 34, .move (.tmp 10), none),
  (some 35, .binOp .gtr 3 (.tmp 34) (.const (.int .i64 0)) 3, none),
  (some 36, .binOp .eql 4 (.tmp 33) (.tmp 35) 4, none),
  (some 37, .move (.tmp 36), none),
  (some 38, .load 48 (.tmp 7), some (some 37, true)),
  (some 39, .load 48 (.tmp 7), some (some 37, true)),
  (some 40, .call ⟨.value (.func 29), #[(.tmp 38), (.tmp 39)], #[48, 48]⟩, some (some 37, true)),
  (some 41, .binOp .eql 3 (.tmp 40) (.const (.int .i64 0)) 3, some (some 37, true)),
  (some 42, .pick (.tmp 37) (.tmp 41) (.const (.bool false)), none),
  (some 43, .move (.tmp 42), none),
  (some 44, .move (.tmp 10), some (some 43, true)),
  (some 45, .binOp .gtr 3 (.tmp 44) (.const (.int .i64 0)) 3, some (some 43, true)),
  (some 46, .move (.tmp 45), some (some 43, true)),
  (some 47, .move (.tmp 11), some (some 46, false)),
  (some 48, .binOp .gtr 3 (.tmp 47) (.const (.int .i64 0)) 3, some (some 46, false)),
  (some 49, .pick (.tmp 46) (.const (.bool true)) (.tmp 48), some (some 43, true)),
  (some 50, .move (.tmp 49), some (some 43, true)),
  (some 51, .move (.tmp 12), some (some 50, false)),
  (some 52, .binOp .leq 3 (.tmp 51) (.const (.int .i64 0)) 3, some (some 50, false)),
  (some 53, .pick (.tmp 50) (.const (.bool true)) (.tmp 52), some (some 43, true)),
  (some 54, .pick (.tmp 43) (.tmp 53) (.const (.bool false)), none),
  (some 55, .move (.tmp 54), none),
  (some 56, .move (.tmp 10), some (some 55, true)),
  (some 57, .binOp .geq 3 (.tmp 56) (.const (.int .i64 0)) 3, some (some 55, true)),
  (some 58, .move (.tmp 57), some (some 55, true)),
  (some 59, .move (.tmp 11), some (some 58, false)),
  (some 60, .binOp .geq 3 (.tmp 59) (.const (.int .i64 0)) 3, some (some 58, false)),
  (some 61, .pick (.tmp 58) (.const (.bool true)) (.tmp 60), some (some 55, true)),
  (some 62, .move (.tmp 61), some (some 55, true)),
  (some 63, .move (.tmp 12), some (some 62, false)),
  (some 64, .binOp .lss 3 (.tmp 63) (.const (.int .i64 0)) 3, some (some 62, false)),
  (some 65, .pick (.tmp 62) (.const (.bool true)) (.tmp 64), some (some 55, true)),
  (some 66, .pick (.tmp 55) (.tmp 65) (.const (.bool false)), none),
  (some 6, .assign (.tmp 66), none)]
abbrev S9 : SCode := .seq (.reg R9_0) (.seq (.seq (.reg R9_1) (.cond (.tmp 14) (.seq (.reg R9_2) (.ret)) (.skip))) (.seq (.dreg R9_3) (.seq (.dreg R9_4) (.seq (.reg R9_5) (.ret)))))
theorem slim9 : slimC tab 9 (Try.f9.body.getD .skip) = S9 := by kernel_rfl
theorem wf9 {xs : List V} {H : Hp} {Q : V → Hp → Prop} (h : WC tab S9 (frame xs 0 .nil) H (resQ tab [.tmp 6] Q)) : WF tab 9 xs H Q := WF.of_slim (T := tab) (f := 9) rfl fn9 rfl slim9 rfl h
/-! paling/palinglaw02.Make -/
abbrev R28_0 : List SOp := [(some 1, .box 56 (.tmp 0), none),
  (some 2, .alloc 48, none)]
abbrev R28_1 : List SOp := [(some 3, .fieldAddr 56 (.tmp 1) 0, none),
  (some 4, .load 5 (.tmp 3), none),
  (some 5, .binOp .rem 5 (.tmp 4) (.const (.int .u8 5)) 5, none)]
abbrev R28_2 : List SOp := [(some 7, .binOp .eql 5 (.tmp 5) (.const (.int .u8 1)) 5, none),
  (some 6, .assign (.tmp 7), none)]
abbrev R28_3 : List SOp := [(some 8, .fieldAddr 56 (.tmp 1) 1, none),
  (some 9, .load 2 (.tmp 8), none),
  (some 10, .binOp .and 2 (.tmp 9) (.const (.int .i64 1)) 2, none),
  (some 11, .build 48 #[(0, (.const (.int .u8 1))), (1, (.tmp 10))], none),
  (none, .store 48 (.tmp 2) (.tmp 11), none)]
abbrev R28_4 : List SOp := [(some 13, .binOp .eql 5 (.tmp 5) (.const (.int .u8 2)) 5, none),
  (some 12, .assign (.tmp 13), none)]
abbrev R28_5 : List SOp := [(some 14, .fieldAddr 56 (.tmp 1) 1, none),
  (some 15, .load 2 (.tmp 14), none),
  (some 16, .build 48 #[(0, (.const (.int .u8 2))), (1, (.tmp 15))], none),
  (none, .store 48 (.tmp 2) (.tmp 16), none)]
abbrev R28_6 : List SOp := [(some 18, .binOp .eql 5 (.tmp 5) (.const (.int .u8 3)) 5, none),
  (some 17, .assign (.tmp 18), none)]
abbrev R28_7 : List SOp := [(some 19, .fieldAddr 56 (.tmp 1) 2, none),
  (some 20, .load 9 (.tmp 19), none),
  (some 21, .build 48 #[(0, (.const (.int .u8 3))), (2, (.tmp 20))], none),
  (none, .store 48 (.tmp 2) (.tmp 21), none)]
abbrev R28_8 : List SOp := [(some 23, .binOp .eql 5 (.tmp 5) (.const (.int .u8 4)) 5, none),
  (some 22, .assign (.tmp 23), none)]
abbrev R28_9 : List SOp := [(some 24, .fieldAddr 56 (.tmp 1) 1, none),
  (some 25, .load 2 (.tmp 24), none),
  (some 26, .binOp .rem 2 (.tmp 25) (.const (.int .i64 6)) 2, none),
  (some 27, .binOp .add 2 (.tmp 26) (.const (.int .i64 6)) 2, none),
  (some 28, .binOp .rem 2 (.tmp 27) (.const (.int .i64 6)) 2, none),
  (some 29, .build 48 #[(0, (.const (.int .u8 4))), (1, (.tmp 28))], none),
  (none, .store 48 (.tmp 2) (.tmp 29), none)]
abbrev R28_10 : List SOp := [(some 30, .build 48 #[], none),
  (none, .store 48 (.tmp 2) (.tmp 30), none)]
abbrev S28 : SCode := .seq (.reg R28_0) (.seq (.seq (.reg R28_1) (.block 0 (.seq (.reg R28_2) (.cond (.tmp 6) (.seq (.reg R28_3) (.ret)) (.seq (.reg R28_4) (.cond (.tmp 12) (.seq (.reg R28_5) (.ret)) (.seq (.reg R28_6) (.cond (.tmp 17) (.seq (.reg R28_7) (.ret)) (.seq (.reg R28_8) (.cond (.tmp 22) (.seq (.reg R28_9) (.ret)) (.skip))))))))))) (.seq (.reg R28_10) (.ret)))
theorem slim28 : slimC tab 28 (Try.f28.body.getD .skip) = S28 := by kernel_rfl
theorem wf28 {xs : List V} {H : Hp} {Q : V → Hp → Prop} (h : WC tab S28 (frame xs 0 .nil) H (resQ tab [.cell 2 48] Q)) : WF tab 28 xs H Q := WF.of_slim (T := tab) (f := 28) rfl fn28 rfl slim28 rfl h
/-! paling/arena.Order -/
abbrev R29_0 : List SOp := [(some 2, .box 48 (.tmp 0), none),
  (some 3, .box 48 (.tmp 1), none),
  (some 4, .assign (.const (.int .i64 0)), none)]
abbrev R29_1 : List SOp := [(some 6, .fieldAddr 48 (.tmp 2) 0, none),
  (some 7, .load 46 (.tmp 6), none),
  (some 8, .fieldAddr 48 (.tmp 3) 0, none),
  (some 9, .load 46 (.tmp 8), none),
  (some 10, .binOp .neq 46 (.tmp 7) (.tmp 9) 46, none),
  (some 5, .assign (.tmp 10), none)]
abbrev R29_2 : List SOp := [(some 11, .fieldAddr 48 (.tmp 2) 0, none),
  (some 12, .load 46 (.tmp 11), none),
  (some 13, .convert 46 3 (.tmp 12), none),
  (some 14, .fieldAddr 48 (.tmp 3) 0, none),
  (some 15, .load 46 (.tmp 14), none),
  (some 16, .convert 46 3 (.tmp 15), none),
  (some 17, .binOp .sub 3 (.tmp 13) (.tmp 16) 3, none),
  (some 4, .assign (.tmp 17), none)]
abbrev R29_3 : List SOp := [(some 19, .fieldAddr 48 (.tmp 2) 1, none),
  (some 20, .load 2 (.tmp 19), none),
  (some 21, .fieldAddr 48 (.tmp 3) 1, none),
  (some 22, .load 2 (.tmp 21), none),
  (some 23, .binOp .neq 2 (.tmp 20) (.tmp 22) 2, none),
  (some 18, .assign (.tmp 23), none)]
abbrev R29_4 : List SOp := [(some 24, .fieldAddr 48 (.tmp 2) 1, none),
  (some 25, .load 2 (.tmp 24), none),
  (some 26, .fieldAddr 48 (.tmp 3) 1, none),
  (some 27, .load 2 (.tmp 26), none),
  (some 28, .binOp .lss 2 (.tmp 25) (.tmp 27) 2, none)]
abbrev R29_5 : List SOp := [(some 4, .assign (.const (.int .i64 (-1))), none)]
abbrev R29_6 : List SOp := [(some 4, .assign (.const (.int .i64 1)), none)]
abbrev R29_7 : List SOp := [(some 30, .fieldAddr 48 (.tmp 2) 2, none),
  (some 31, .load 9 (.tmp 30), none),
  (some 32, .fieldAddr 48 (.tmp 3) 2, none),
  (some 33, .load 9 (.tmp 32), none),
  (some 34, .binOp .lss 9 (.tmp 31) (.tmp 33) 9, none),
  (some 29, .assign (.tmp 34), none)]
abbrev R29_8 : List SOp := [(some 4, .assign (.const (.int .i64 (-1))), none)]
abbrev R29_9 : List SOp := [(some 36, .fieldAddr 48 (.tmp 2) 2, none),
  (some 37, .load 9 (.tmp 36), none),
  (some 38, .fieldAddr 48 (.tmp 3) 2, none),
  (some 39, .load 9 (.tmp 38), none),
  (some 40, .binOp .gtr 9 (.tmp 37) (.tmp 39) 9, none),
  (some 35, .assign (.tmp 40), none)]
abbrev R29_10 : List SOp := [(some 4, .assign (.const (.int .i64 1)), none)]
abbrev R29_11 : List SOp := [(some 4, .assign (.const (.int .i64 0)), none)]
abbrev S29 : SCode := .seq (.reg R29_0) (.seq (.block 0 (.seq (.reg R29_1) (.cond (.tmp 5) (.seq (.reg R29_2) (.ret)) (.seq (.reg R29_3) (.cond (.tmp 18) (.seq (.seq (.reg R29_4) (.cond (.tmp 28) (.seq (.reg R29_5) (.ret)) (.skip))) (.seq (.reg R29_6) (.ret))) (.seq (.reg R29_7) (.cond (.tmp 29) (.seq (.reg R29_8) (.ret)) (.seq (.reg R29_9) (.cond (.tmp 35) (.seq (.reg R29_10) (.ret)) (.skip)))))))))) (.seq (.reg R29_11) (.ret)))
theorem slim29 : slimC tab 29 (Try.f29.body.getD .skip) = S29 := by kernel_rfl
theorem wf29 {xs : List V} {H : Hp} {Q : V → Hp → Prop} (h : WC tab S29 (frame xs 0 .nil) H (resQ tab [.tmp 4] Q)) : WF tab 29 xs H Q := WF.of_slim (T := tab) (f := 29) rfl fn29 rfl slim29 rfl h
end Go.AM.YtaenhbfgfhhbcaaT
