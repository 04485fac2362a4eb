/- Parts of the abstract machine and of the walks over it, joined: what the law that is claimed here leans on. -/
import Derived.Test.YtjdadagnfnaboaaGreatDoorAmX
import Derived.Test.YtjdadagnfnaboaaGreatDoorAmC2
/- The slim code of these functions: printed by genslim.py. -/
namespace Go.AM.YtjdadagnfnaboaaGreatDoorT
open Go Go.AM Go.Proofs
set_option maxRecDepth 100000
/-! paling/palinglaw05.LexJoins -/
abbrev R3_0 : List SOp := [(some 4, .assign (.const (.bool false)), none)]
abbrev R3_1 : List SOp := [(some 17, .call ⟨.value (.func 13), #[], #[]⟩, none),
  (some 18, .unOp .not 4 (.tmp 17), none)]
abbrev R3_2 : List SOp := [(some 4, .assign (.const (.bool false)), none)]
abbrev R3_3 : List SOp := [(some 19, .move (.tmp 0), none),
  (some 20, .call ⟨.builtin .len, #[(.tmp 19)], #[9]⟩, none),
  (some 21, .binOp .gtr 3 (.tmp 20) (.const (.int .i64 500)) 3, none),
  (some 22, .move (.tmp 21), none),
  (some 23, .move (.tmp 1), some (some 22, false)),
  (some 24, .call ⟨.builtin .len, #[(.tmp 23)], #[9]⟩, some (some 22, false)),
  (some 25, .binOp .gtr 3 (.tmp 24) (.const (.int .i64 500)) 3, some (some 22, false)),
  (some 26, .pick (.tmp 22) (.const (.bool true)) (.tmp 25), none)]
abbrev R3_4 : List SOp := [(some 4, .assign (.const (.bool true)), none)]
abbrev R3_5 : List SOp := [(some 28, .move (.tmp 0), none),
  (some 29, .call ⟨.value (.func 14), #[(.tmp 28)], #[9]⟩, none),
  (some 27, .move (.tmp 29), none),
  (some 30, .extract (.tmp 27) 0, none),
  (some 31, .extract (.tmp 27) 1, none),
  (some 32, .extract (.tmp 27) 2, none),
  (some 5, .assign (.tmp 30), none),
  (some 6, .assign (.tmp 31), none),
  (some 7, .assign (.tmp 32), none)]
abbrev R3_6 : List SOp := [(some 34, .move (.tmp 1), none),
  (some 35, .call ⟨.value (.func 14), #[(.tmp 34)], #[9]⟩, none),
  (some 33, .move (.tmp 35), none),
  (some 36, .extract (.tmp 33) 0, none),
  (some 37, .extract (.tmp 33) 1, none),
  (some 38, .extract (.tmp 33) 2, none),
  (some 8, .assign (.tmp 36), none),
  (some 9, .assign (.tmp 37), none),
  (some 10, .assign (.tmp 38), none)]
abbrev R3_7 : List SOp := [(some 40, .move (.tmp 0), none),
  (some 41, .binOp .add 9 (.tmp 40) (.const (.string ⟨#[0x0a]⟩)) 9, none),
  (some 42, .move (.tmp 1), none),
  (some 43, .binOp .add 9 (.tmp 41) (.tmp 42) 9, none),
  (some 44, .call ⟨.value (.func 14), #[(.tmp 43)], #[9]⟩, none),
  (some 39, .move (.tmp 44), none),
  (some 45, .extract (.tmp 39) 0, none),
  (some 46, .extract (.tmp 39) 1, none),
  (some 47, .extract (.tmp 39) 2, none),
  (some 11, .assign (.tmp 45), none),
  (some 12, .assign (.tmp 46), none),
  (some 13, .assign (.tmp 47), none)]
abbrev R3_8 : List SOp := [(some 48, .move (.tmp 7), none),
  (some 49, .binOp .neq 24 (.tmp 48) (.const (.int .i64 0)) 24, none),
  (some 50, .move (.tmp 49), none),
  (some 51, .move (.tmp 10), some (some 50, false)),
  (some 52, .binOp .neq 24 (.tmp 51) (.const (.int .i64 0)) 24, some (some 50, false)),
  (some 53, .pick (.tmp 50) (.const (.bool true)) (.tmp 52), none)]
abbrev R3_9 : List SOp := [(some 54, .move (.tmp 7), none),
  (some 55, .binOp .neq 24 (.tmp 54) (.const (.int .i64 0)) 24, none),
  (some 56, .move (.tmp 55), none),
  (some 57, .move (.tmp 13), some (some 56, false)),
  (some 58, .move (.tmp 10), some (some 56, false)),
  (some 59, .binOp .eql 24 (.tmp 57) (.tmp 58) 24, some (some 56, false)),
  (some 60, .pick (.tmp 56) (.const (.bool true)) (.tmp 59), none),
  (some 4, .assign (.tmp 60), none)]
abbrev R3_10 : List SOp := [(some 61, .move (.tmp 13), none),
  (some 62, .binOp .neq 24 (.tmp 61) (.const (.int .i64 0)) 24, none),
  (some 63, .move (.tmp 62), none),
  (some 64, .move (.tmp 11), some (some 63, false)),
  (some 65, .call ⟨.builtin .len, #[(.tmp 64)], #[23]⟩, some (some 63, false)),
  (some 66, .move (.tmp 5), some (some 63, false)),
  (some 67, .call ⟨.builtin .len, #[(.tmp 66)], #[23]⟩, some (some 63, false)),
  (some 68, .move (.tmp 8), some (some 63, false)),
  (some 69, .call ⟨.builtin .len, #[(.tmp 68)], #[23]⟩, some (some 63, false)),
  (some 70, .binOp .add 3 (.tmp 67) (.tmp 69) 3, some (some 63, false)),
  (some 71, .binOp .sub 3 (.tmp 70) (.const (.int .i64 1)) 3, some (some 63, false)),
  (some 72, .binOp .neq 3 (.tmp 65) (.tmp 71) 3, some (some 63, false)),
  (some 73, .pick (.tmp 63) (.const (.bool true)) (.tmp 72), none)]
abbrev R3_11 : List SOp := [(some 4, .assign (.const (.bool false)), none)]
abbrev R3_12 : List SOp := [(some 74, .move (.tmp 11), none),
  (some 75, .call ⟨.builtin .len, #[(.tmp 74)], #[23]⟩, none),
  (some 76, .move (.const (.int .i64 0)), none)]
abbrev R3_13 : List SOp := [(some 77, .binOp .lss 3 (.tmp 76) (.tmp 75) 3, none)]
abbrev R3_14 : List SOp := [(some 78, .move (.tmp 76), none),
  (some 79, .indexAddr 23 (.tmp 74) (.tmp 76), none),
  (some 80, .load 29 (.tmp 79), none),
  (some 15, .alloc 29, none),
  (some 14, .assign (.tmp 78), none),
  (none, .store 29 (.tmp 15) (.tmp 80), none)]
abbrev R3_15 : List SOp := [(some 81, .build 29 #[], none),
  (some 16, .alloc 29, none),
  (none, .store 29 (.tmp 16) (.tmp 81), none)]
abbrev R3_16 : List SOp := [(some 82, .move (.tmp 14), none),
  (some 83, .move (.tmp 5), none),
  (some 84, .call ⟨.builtin .len, #[(.tmp 83)], #[23]⟩, none),
  (some 85, .binOp .sub 3 (.tmp 84) (.const (.int .i64 1)) 3, none),
  (some 86, .binOp .lss 3 (.tmp 82) (.tmp 85) 3, none)]
abbrev R3_17 : List SOp := [(some 87, .move (.tmp 5), none),
  (some 88, .move (.tmp 14), none),
  (some 89, .indexAddr 23 (.tmp 87) (.tmp 88), none),
  (some 90, .load 29 (.tmp 89), none),
  (none, .store 29 (.tmp 16) (.tmp 90), none)]
abbrev R3_18 : List SOp := [(some 91, .move (.tmp 8), none),
  (some 92, .move (.tmp 14), none),
  (some 93, .move (.tmp 5), none),
  (some 94, .call ⟨.builtin .len, #[(.tmp 93)], #[23]⟩, none),
  (some 95, .binOp .sub 3 (.tmp 92) (.tmp 94) 3, none),
  (some 96, .binOp .add 3 (.tmp 95) (.const (.int .i64 1)) 3, none),
  (some 97, .indexAddr 23 (.tmp 91) (.tmp 96), none),
  (some 98, .load 29 (.tmp 97), none),
  (none, .store 29 (.tmp 16) (.tmp 98), none)]
abbrev R3_19 : List SOp := [(some 99, .fieldAddr 29 (.tmp 16) 3, none),
  (some 100, .load 3 (.tmp 99), none),
  (some 101, .move (.tmp 0), none),
  (some 102, .call ⟨.builtin .len, #[(.tmp 101)], #[9]⟩, none),
  (some 103, .binOp .add 3 (.tmp 102) (.const (.int .i64 1)) 3, none),
  (some 104, .binOp .add 3 (.tmp 100) (.tmp 103) 3, none),
  (some 105, .fieldAddr 29 (.tmp 16) 3, none),
  (none, .store 3 (.tmp 105) (.tmp 104), none)]
abbrev R3_20 : List SOp := [(some 106, .load 29 (.tmp 15), none),
  (some 107, .load 29 (.tmp 16), none),
  (some 108, .binOp .neq 29 (.tmp 106) (.tmp 107) 29, none)]
abbrev R3_21 : List SOp := [(some 4, .assign (.const (.bool false)), none)]
abbrev R3_22 : List SOp := [(some 109, .binOp .add 3 (.tmp 76) (.const (.int .i64 1)) 3, none),
  (some 76, .move (.tmp 109), none)]
def L3_0 : SCode := .seq (.reg R3_13) (.seq (.cond (.tmp 77) (.skip) (.exit 0)) (.seq (.block 1 (.seq (.reg R3_14) (.seq (.reg R3_15) (.seq (.seq (.reg R3_16) (.cond (.tmp 86) (.reg R3_17) (.seq (.reg R3_18) (.reg R3_19)))) (.seq (.reg R3_20) (.cond (.tmp 108) (.seq (.reg R3_21) (.ret)) (.skip))))))) (.reg R3_22)))
abbrev R3_23 : List SOp := [(some 4, .assign (.const (.bool true)), none)]
abbrev S3 : SCode := .seq (.reg R3_0) (.seq (.seq (.reg R3_1) (.cond (.tmp 18) (.seq (.reg R3_2) (.ret)) (.skip))) (.seq (.seq (.reg R3_3) (.cond (.tmp 26) (.seq (.reg R3_4) (.ret)) (.skip))) (.seq (.reg R3_5) (.seq (.reg R3_6) (.seq (.reg R3_7) (.seq (.seq (.reg R3_8) (.cond (.tmp 53) (.seq (.reg R3_9) (.ret)) (.skip))) (.seq (.seq (.reg R3_10) (.cond (.tmp 73) (.seq (.reg R3_11) (.ret)) (.skip))) (.seq (.seq (.reg R3_12) (.block 0 (.loop L3_0))) (.seq (.reg R3_23) (.ret))))))))))
theorem slim3 : slimC tab 3 (Tryz.f3.body.getD .skip) = S3 := by kernel_rfl
theorem wf3 {xs : List V} {H : Hp} {Q : V → Hp → Prop} (h : WC tab S3 (frame xs 0 .nil) H (resQ tab [.tmp 4] Q)) : WF tab 3 xs H Q := WF.of_slim (T := tab) (f := 3) rfl fn3 rfl slim3 rfl h
/-! paling/palinglaw05.LexTexts -/
abbrev R4_0 : List SOp := [(some 2, .assign (.const (.bool false)), none)]
abbrev R4_1 : List SOp := [(some 10, .call ⟨.value (.func 13), #[], #[]⟩, none),
  (some 11, .unOp .not 4 (.tmp 10), none)]
abbrev R4_2 : List SOp := [(some 2, .assign (.const (.bool false)), none)]
abbrev R4_3 : List SOp := [(some 12, .move (.tmp 0), none),
  (some 13, .call ⟨.builtin .len, #[(.tmp 12)], #[31]⟩, none),
  (some 14, .binOp .gtr 3 (.tmp 13) (.const (.int .i64 200)) 3, none)]
abbrev R4_4 : List SOp := [(some 2, .assign (.const (.bool true)), none)]
abbrev R4_5 : List SOp := [(some 3, .assign (.const (.string ⟨#[]⟩)), none),
  (some 4, .assign (.const (.string ⟨#[0x22]⟩)), none)]
abbrev R4_6 : List SOp := [(some 15, .move (.tmp 0), none),
  (some 16, .call ⟨.builtin .len, #[(.tmp 15)], #[31]⟩, none),
  (some 17, .move (.const (.int .i64 0)), none)]
abbrev R4_7 : List SOp := [(some 18, .binOp .lss 3 (.tmp 17) (.tmp 16) 3, none)]
abbrev R4_8 : List SOp := [(some 19, .indexAddr 31 (.tmp 15) (.tmp 17), none),
  (some 20, .load 5 (.tmp 19), none),
  (some 6, .assign (.tmp 20), none)]
abbrev R4_9 : List SOp := [(some 21, .move (.tmp 6), none),
  (some 22, .binOp .rem 5 (.tmp 21) (.const (.int .u8 96)) 5, none),
  (some 23, .binOp .add 5 (.const (.int .u8 31)) (.tmp 22) 5, none),
  (some 6, .assign (.tmp 23), none)]
abbrev R4_10 : List SOp := [(some 24, .move (.tmp 6), none)]
abbrev R4_12 : List SOp := [(some 36, .binOp .eql 5 (.tmp 24) (.const (.int .u8 31)) 5, none),
  (some 35, .assign (.tmp 36), none)]
abbrev R4_13 : List SOp := [(some 37, .move (.tmp 3), none),
  (some 38, .binOp .add 9 (.tmp 37) (.const (.string ⟨#[0x0a]⟩)) 9, none),
  (some 39, .move (.tmp 4), none),
  (some 40, .binOp .add 9 (.tmp 39) (.const (.string ⟨#[0x5c, 0x6e]⟩)) 9, none),
  (some 3, .assign (.tmp 38), none),
  (some 4, .assign (.tmp 40), none)]
abbrev R4_14 : List SOp := [(some 42, .binOp .eql 5 (.tmp 24) (.const (.int .u8 34)) 5, none),
  (some 41, .assign (.tmp 42), none)]
abbrev R4_15 : List SOp := [(some 43, .binOp .eql 5 (.tmp 24) (.const (.int .u8 92)) 5, none),
  (some 41, .assign (.tmp 43), none)]
abbrev R4_16 : List SOp := [(some 44, .move (.tmp 3), none),
  (some 45, .move (.tmp 6), none),
  (some 46, .convert 5 21 (.tmp 45), none),
  (some 47, .convert 21 9 (.tmp 46), none),
  (some 48, .binOp .add 9 (.tmp 44) (.tmp 47) 9, none),
  (some 49, .move (.tmp 4), none),
  (some 50, .binOp .add 9 (.tmp 49) (.const (.string ⟨#[0x5c]⟩)) 9, none),
  (some 51, .move (.tmp 6), none),
  (some 52, .convert 5 21 (.tmp 51), none),
  (some 53, .convert 21 9 (.tmp 52), none),
  (some 54, .binOp .add 9 (.tmp 50) (.tmp 53) 9, none),
  (some 3, .assign (.tmp 48), none),
  (some 4, .assign (.tmp 54), none)]
abbrev R4_11 : List SOp := [(some 25, .move (.tmp 3), none),
  (some 26, .move (.tmp 6), none),
  (some 27, .convert 5 21 (.tmp 26), none),
  (some 28, .convert 21 9 (.tmp 27), none),
  (some 29, .binOp .add 9 (.tmp 25) (.tmp 28) 9, none),
  (some 30, .move (.tmp 4), none),
  (some 31, .move (.tmp 6), none),
  (some 32, .convert 5 21 (.tmp 31), none),
  (some 33, .convert 21 9 (.tmp 32), none),
  (some 34, .binOp .add 9 (.tmp 30) (.tmp 33) 9, none),
  (some 3, .assign (.tmp 29), none),
  (some 4, .assign (.tmp 34), none)]
abbrev R4_17 : List SOp := [(some 55, .binOp .add 3 (.tmp 17) (.const (.int .i64 1)) 3, none),
  (some 17, .move (.tmp 55), none)]
def L4_0 : SCode := .seq (.reg R4_7) (.seq (.cond (.tmp 18) (.skip) (.exit 0)) (.seq (.block 1 (.seq (.reg R4_8) (.seq (.reg R4_9) (.seq (.reg R4_10) (.block 2 (.seq (.reg R4_12) (.cond (.tmp 35) (.reg R4_13) (.seq (.seq (.reg R4_14) (.cond (.tmp 41) (.skip) (.reg R4_15))) (.cond (.tmp 41) (.reg R4_16) (.reg R4_11)))))))))) (.reg R4_17)))
abbrev R4_18 : List SOp := [(some 57, .move (.tmp 4), none),
  (some 58, .binOp .add 9 (.tmp 57) (.const (.string ⟨#[0x22]⟩)) 9, none),
  (some 59, .call ⟨.value (.func 14), #[(.tmp 58)], #[9]⟩, none),
  (some 56, .move (.tmp 59), none),
  (some 60, .extract (.tmp 56) 0, none),
  (some 61, .extract (.tmp 56) 1, none),
  (some 62, .extract (.tmp 56) 2, none),
  (some 7, .assign (.tmp 60), none),
  (some 8, .assign (.tmp 61), none),
  (some 9, .assign (.tmp 62), none)]
abbrev R4_19 : List SOp := [(some 63, .move (.tmp 9), none),
  (some 64, .binOp .eql 24 (.tmp 63) (.const (.int .i64 0)) 24, none),
  (some 65, .move (.tmp 64), none),
  (some 66, .move (.tmp 7), some (some 65, true)),
  (some 67, .call ⟨.builtin .len, #[(.tmp 66)], #[23]⟩, some (some 65, true)),
  (some 68, .binOp .eql 3 (.tmp 67) (.const (.int .i64 2)) 3, some (some 65, true)),
  (some 69, .pick (.tmp 65) (.tmp 68) (.const (.bool false)), none),
  (some 70, .move (.tmp 69), none),
  (some 71, .move (.tmp 7), some (some 70, true)),
  (some 72, .indexAddr 23 (.tmp 71) (.const (.int .i64 0)), some (some 70, true)),
  (some 73, .load 29 (.tmp 72), some (some 70, true)),
  (some 74, .move (.tmp 3), some (some 70, true)),
  (some 75, .build 29 #[(0, (.const (.int .i64 3))), (1, (.tmp 74))], some (some 70, true)),
  (some 76, .binOp .eql 29 (.tmp 73) (.tmp 75) 29, some (some 70, true)),
  (some 77, .pick (.tmp 70) (.tmp 76) (.const (.bool false)), none),
  (some 2, .assign (.tmp 77), none)]
abbrev S4 : SCode := .seq (.reg R4_0) (.seq (.seq (.reg R4_1) (.cond (.tmp 11) (.seq (.reg R4_2) (.ret)) (.skip))) (.seq (.seq (.reg R4_3) (.cond (.tmp 14) (.seq (.reg R4_4) (.ret)) (.skip))) (.seq (.reg R4_5) (.seq (.seq (.reg R4_6) (.block 0 (.loop L4_0))) (.seq (.reg R4_18) (.seq (.reg R4_19) (.ret)))))))
theorem slim4 : slimC tab 4 (Tryz.f4.body.getD .skip) = S4 := by kernel_rfl
theorem wf4 {xs : List V} {H : Hp} {Q : V → Hp → Prop} (h : WC tab S4 (frame xs 0 .nil) H (resQ tab [.tmp 2] Q)) : WF tab 4 xs H Q := WF.of_slim (T := tab) (f := 4) rfl fn4 rfl slim4 rfl h
/-! paling/palinglaw05.LexAgain -/
abbrev R5_0 : List SOp := [(some 2, .assign (.const (.bool false)), none)]
abbrev R5_1 : List SOp := [(some 13, .call ⟨.value (.func 13), #[], #[]⟩, none),
  (some 14, .unOp .not 4 (.tmp 13), none)]
abbrev R5_2 : List SOp := [(some 2, .assign (.const (.bool false)), none)]
abbrev R5_3 : List SOp := [(some 15, .move (.tmp 0), none),
  (some 16, .call ⟨.builtin .len, #[(.tmp 15)], #[9]⟩, none),
  (some 17, .binOp .gtr 3 (.tmp 16) (.const (.int .i64 1000)) 3, none)]
abbrev R5_4 : List SOp := [(some 2, .assign (.const (.bool true)), none)]
abbrev R5_5 : List SOp := [(some 19, .move (.tmp 0), none),
  (some 20, .call ⟨.value (.func 14), #[(.tmp 19)], #[9]⟩, none),
  (some 18, .move (.tmp 20), none),
  (some 21, .extract (.tmp 18) 0, none),
  (some 22, .extract (.tmp 18) 1, none),
  (some 23, .extract (.tmp 18) 2, none),
  (some 3, .assign (.tmp 21), none),
  (some 4, .assign (.tmp 22), none),
  (some 5, .assign (.tmp 23), none)]
abbrev R5_6 : List SOp := [(some 24, .move (.tmp 5), none),
  (some 25, .binOp .neq 24 (.tmp 24) (.const (.int .i64 0)) 24, none)]
abbrev R5_7 : List SOp := [(some 26, .move (.tmp 3), none),
  (some 27, .call ⟨.builtin .len, #[(.tmp 26)], #[23]⟩, none),
  (some 28, .binOp .eql 3 (.tmp 27) (.const (.int .i64 0)) 3, none),
  (some 2, .assign (.tmp 28), none)]
abbrev R5_8 : List SOp := [(some 6, .assign (.const (.string ⟨#[]⟩)), none)]
abbrev R5_9 : List SOp := [(some 29, .move (.tmp 3), none),
  (some 30, .call ⟨.builtin .len, #[(.tmp 29)], #[23]⟩, none),
  (some 31, .move (.const (.int .i64 0)), none)]
abbrev R5_10 : List SOp := [(some 32, .binOp .lss 3 (.tmp 31) (.tmp 30) 3, none)]
abbrev R5_11 : List SOp := [(some 33, .move (.tmp 31), none),
  (some 34, .indexAddr 23 (.tmp 29) (.tmp 31), none),
  (some 35, .load 29 (.tmp 34), none),
  (some 8, .alloc 29, none),
  (some 7, .assign (.tmp 33), none),
  (none, .store 29 (.tmp 8) (.tmp 35), none)]
abbrev R5_12 : List SOp := [(some 36, .fieldAddr 29 (.tmp 8) 0, none),
  (some 37, .load 27 (.tmp 36), none),
  (some 38, .binOp .eql 27 (.tmp 37) (.const (.int .i64 0)) 27, none)]
abbrev R5_13 : List (SOp × Nat) := [((some 39, .move (.tmp 6), none), 0),
  ((some 40, .move (.tmp 0), none), 0),
  ((some 41, .fieldAddr 29 (.tmp 8) 3, none), 0),
  ((some 42, .load 3 (.tmp 41), none), 0),
  ((some 43, .move (.tmp 3), none), 0),
  ((some 44, .move (.tmp 7), none), 0),
  ((some 45, .binOp .add 3 (.tmp 44) (.const (.int .i64 1)) 3, none), 0),
  ((some 46, .indexAddr 23 (.tmp 43) (.tmp 45), none), 0),
  ((some 47, .fieldAddr 29 (.tmp 46) 3, none), 0),
  ((some 48, .load 3 (.tmp 47), none), 0),
  ((some 49, .slice 9 (.tmp 40) (some (.tmp 42)) (some (.tmp 48)) none, none), 0),
  ((some 50, .binOp .add 9 (.tmp 49) (.const (.string ⟨#[0x20, 0x0a, 0x20]⟩)) 9, none), 0),
  ((some 51, .binOp .add 9 (.tmp 39) (.tmp 50) 9, none), 0),
  ((some 6, .assign (.tmp 51), none), 0)]
abbrev R5_14 : List SOp := [(some 52, .binOp .add 3 (.tmp 31) (.const (.int .i64 1)) 3, none),
  (some 31, .move (.tmp 52), none)]
def L5_0 : SCode := .seq (.reg R5_10) (.seq (.cond (.tmp 32) (.skip) (.exit 0)) (.seq (.block 1 (.seq (.reg R5_11) (.seq (.seq (.reg R5_12) (.cond (.tmp 38) (.exit 0) (.skip))) (.dreg R5_13)))) (.reg R5_14)))
abbrev R5_15 : List SOp := [(some 54, .move (.tmp 6), none),
  (some 55, .call ⟨.value (.func 14), #[(.tmp 54)], #[9]⟩, none),
  (some 53, .move (.tmp 55), none),
  (some 56, .extract (.tmp 53) 0, none),
  (some 57, .extract (.tmp 53) 1, none),
  (some 58, .extract (.tmp 53) 2, none),
  (some 9, .assign (.tmp 56), none),
  (some 10, .assign (.tmp 57), none),
  (some 11, .assign (.tmp 58), none)]
abbrev R5_16 : List SOp := [(some 59, .move (.tmp 11), none),
  (some 60, .binOp .neq 24 (.tmp 59) (.const (.int .i64 0)) 24, none),
  (some 61, .move (.tmp 60), none),
  (some 62, .move (.tmp 9), some (some 61, false)),
  (some 63, .call ⟨.builtin .len, #[(.tmp 62)], #[23]⟩, some (some 61, false)),
  (some 64, .move (.tmp 3), some (some 61, false)),
  (some 65, .call ⟨.builtin .len, #[(.tmp 64)], #[23]⟩, some (some 61, false)),
  (some 66, .binOp .neq 3 (.tmp 63) (.tmp 65) 3, some (some 61, false)),
  (some 67, .pick (.tmp 61) (.const (.bool true)) (.tmp 66), none)]
abbrev R5_17 : List SOp := [(some 2, .assign (.const (.bool false)), none)]
abbrev R5_18 : List SOp := [(some 68, .move (.tmp 3), none),
  (some 69, .call ⟨.builtin .len, #[(.tmp 68)], #[23]⟩, none),
  (some 70, .move (.const (.int .i64 0)), none)]
abbrev R5_19 : List SOp := [(some 71, .binOp .lss 3 (.tmp 70) (.tmp 69) 3, none)]
abbrev R5_20 : List SOp := [(some 72, .move (.tmp 70), none),
  (some 12, .assign (.tmp 72), none)]
abbrev R5_21 : List (SOp × Nat) := [((some 73, .move (.tmp 3), none), 0),
  ((some 74, .move (.tmp 12), none), 0),
  ((some 75, .indexAddr 23 (.tmp 73) (.tmp 74), none), 0),
  ((some 76, .fieldAddr 29 (.tmp 75) 0, none), 0),
  ((some 77, .load 27 (.tmp 76), none), 0),
  ((some 78, .move (.tmp 9), none), 0),
  ((some 79, .move (.tmp 12), none), 0),
  ((some 80, .indexAddr 23 (.tmp 78) (.tmp 79), none), 0),
  ((some 81, .fieldAddr 29 (.tmp 80) 0, none), 0),
  ((some 82, .load 27 (.tmp 81), none), 0),
  ((some 83, .binOp .neq 27 (.tmp 77) (.tmp 82) 27, none), 0),
  ((some 84, .move (.tmp 83), none), 0),
  ((some 85, .move (.tmp 3), some (some 84, false)), 0),
  ((some 86, .move (.tmp 12), some (some 84, false)), 0),
  ((some 87, .indexAddr 23 (.tmp 85) (.tmp 86), some (some 84, false)), 0),
  ((some 88, .fieldAddr 29 (.tmp 87) 1, some (some 84, false)), 0),
  ((some 89, .load 9 (.tmp 88), some (some 84, false)), 0),
  ((some 90, .move (.tmp 9), some (some 84, false)), 0),
  ((some 91, .move (.tmp 12), some (some 84, false)), 0),
  ((some 92, .indexAddr 23 (.tmp 90) (.tmp 91), some (some 84, false)), 0),
  ((some 93, .fieldAddr 29 (.tmp 92) 1, some (some 84, false)), 0),
  ((some 94, .load 9 (.tmp 93), some (some 84, false)), 0),
  ((some 95, .binOp .neq 9 (.tmp 89) (.tmp 94) 9, some (some 84, false)), 0),
  ((some 96, .pick (.tmp 84) (.const (.bool true)) (.tmp 95), none), 0),
  ((some 97, .move (.tmp 96), none), 0),
  ((some 98, .move (.tmp 3), some (some 97, false)), 0),
  ((some 99, .move (.tmp 12), some (some 97, false)), 0),
  ((some 100, .indexAddr 23 (.tmp 98) (.tmp 99), some (some 97, false)), 0),
  ((some 101, .fieldAddr 29 (.tmp 100) 2, some (some 97, false)), 0),
  ((some 102, .load 2 (.tmp 101), some (some 97, false)), 0),
  ((some 103, .move (.tmp 9), some (some 97, false)), 0),
  ((some 104, .move (.tmp 12), some (some 97, false)), 0),
  ((some 105, .indexAddr 23 (.tmp 103) (.tmp 104), some (some 97, false)), 0),
  ((some 106, .fieldAddr 29 (.tmp 105) 2, some (some 97, false)), 0),
  ((some 107, .load 2 (.tmp 106), some (some 97, false)), 0),
  ((some 108, .binOp .neq 2 (.tmp 102) (.tmp 107) 2, some (some 97, false)), 0),
  ((some 109, .pick (.tmp 97) (.const (.bool true)) (.tmp 108), none), 0)]
abbrev R5_22 : List SOp := [(some 2, .assign (.const (.bool false)), none)]
abbrev R5_23 : List SOp := [(some 110, .binOp .add 3 (.tmp 70) (.const (.int .i64 1)) 3, none),
  (some 70, .move (.tmp 110), none)]
def L5_1 : SCode := .seq (.reg R5_19) (.seq (.cond (.tmp 71) (.skip) (.exit 2)) (.seq (.block 3 (.seq (.reg R5_20) (.seq (.dreg R5_21) (.cond (.tmp 109) (.seq (.reg R5_22) (.ret)) (.skip))))) (.reg R5_23)))
abbrev R5_24 : List SOp := [(some 2, .assign (.const (.bool true)), none)]
abbrev S5 : SCode := .seq (.reg R5_0) (.seq (.seq (.reg R5_1) (.cond (.tmp 14) (.seq (.reg R5_2) (.ret)) (.skip))) (.seq (.seq (.reg R5_3) (.cond (.tmp 17) (.seq (.reg R5_4) (.ret)) (.skip))) (.seq (.reg R5_5) (.seq (.seq (.reg R5_6) (.cond (.tmp 25) (.seq (.reg R5_7) (.ret)) (.skip))) (.seq (.reg R5_8) (.seq (.seq (.reg R5_9) (.block 0 (.loop L5_0))) (.seq (.reg R5_15) (.seq (.seq (.reg R5_16) (.cond (.tmp 67) (.seq (.reg R5_17) (.ret)) (.skip))) (.seq (.seq (.reg R5_18) (.block 2 (.loop L5_1))) (.seq (.reg R5_24) (.ret)))))))))))
theorem slim5 : slimC tab 5 (Tryz.f5.body.getD .skip) = S5 := by kernel_rfl
theorem wf5 {xs : List V} {H : Hp} {Q : V → Hp → Prop} (h : WC tab S5 (frame xs 0 .nil) H (resQ tab [.tmp 2] Q)) : WF tab 5 xs H Q := WF.of_slim (T := tab) (f := 5) rfl fn5 rfl slim5 rfl h
/-! paling/palinglaw05.LexSplits -/
abbrev R6_0 : List SOp := [(some 2, .assign (.const (.bool false)), none)]
abbrev R6_1 : List SOp := [(some 9, .call ⟨.value (.func 13), #[], #[]⟩, none),
  (some 10, .unOp .not 4 (.tmp 9), none)]
abbrev R6_2 : List SOp := [(some 2, .assign (.const (.bool false)), none)]
abbrev R6_3 : List SOp := [(some 11, .move (.tmp 0), none),
  (some 12, .call ⟨.builtin .len, #[(.tmp 11)], #[9]⟩, none),
  (some 13, .binOp .gtr 3 (.tmp 12) (.const (.int .i64 2000)) 3, none)]
abbrev R6_4 : List SOp := [(some 2, .assign (.const (.bool true)), none)]
abbrev R6_5 : List SOp := [(some 15, .move (.tmp 0), none),
  (some 16, .call ⟨.value (.func 14), #[(.tmp 15)], #[9]⟩, none),
  (some 14, .move (.tmp 16), none),
  (some 17, .extract (.tmp 14) 0, none),
  (some 18, .extract (.tmp 14) 1, none),
  (some 19, .extract (.tmp 14) 2, none),
  (some 3, .assign (.tmp 17), none),
  (some 4, .assign (.tmp 18), none),
  (some 5, .assign (.tmp 19), none)]
abbrev R6_6 : List SOp := [(some 21, .move (.tmp 0), none),
  (some 22, .call ⟨.value (.func 15), #[(.tmp 21)], #[9]⟩, none),
  (some 20, .move (.tmp 22), none),
  (some 23, .extract (.tmp 20) 0, none),
  (some 24, .extract (.tmp 20) 1, none),
  (some 25, .extract (.tmp 20) 2, none),
  (some 6, .assign (.tmp 23), none),
  (some 7, .assign (.tmp 24), none),
  (some 8, .assign (.tmp 25), none)]
abbrev R6_7 : List SOp := [(some 26, .move (.tmp 5), none),
  (some 27, .move (.tmp 8), none),
  (some 28, .binOp .eql 24 (.tmp 26) (.tmp 27) 24, none),
  (some 29, .move (.tmp 28), none),
  (some 30, .move (.tmp 4), some (some 29, true)),
  (some 31, .move (.tmp 7), some (some 29, true)),
  (some 32, .binOp .eql 3 (.tmp 30) (.tmp 31) 3, some (some 29, true)),
  (some 33, .pick (.tmp 29) (.tmp 32) (.const (.bool false)), none),
  (some 34, .move (.tmp 33), none),
  (some 35, .move (.tmp 3), some (some 34, true)),
  (some 36, .move (.tmp 6), some (some 34, true)),
  (some 37, .call ⟨.value (.func 16), #[(.tmp 35), (.tmp 36)], #[23, 23]⟩, some (some 34, true)),
  (some 38, .pick (.tmp 34) (.tmp 37) (.const (.bool false)), none),
  (some 2, .assign (.tmp 38), none)]
abbrev S6 : SCode := .seq (.reg R6_0) (.seq (.seq (.reg R6_1) (.cond (.tmp 10) (.seq (.reg R6_2) (.ret)) (.skip))) (.seq (.seq (.reg R6_3) (.cond (.tmp 13) (.seq (.reg R6_4) (.ret)) (.skip))) (.seq (.reg R6_5) (.seq (.reg R6_6) (.seq (.reg R6_7) (.ret))))))
theorem slim6 : slimC tab 6 (Tryz.f6.body.getD .skip) = S6 := by kernel_rfl
theorem wf6 {xs : List V} {H : Hp} {Q : V → Hp → Prop} (h : WC tab S6 (frame xs 0 .nil) H (resQ tab [.tmp 2] Q)) : WF tab 6 xs H Q := WF.of_slim (T := tab) (f := 6) rfl fn6 rfl slim6 rfl h
/-! paling/palinglaw05.LexLong -/
abbrev R7_0 : List SOp := [(some 2, .assign (.const (.bool false)), none)]
abbrev R7_1 : List SOp := [(some 7, .call ⟨.value (.func 13), #[], #[]⟩, none),
  (some 8, .unOp .not 4 (.tmp 7), none)]
abbrev R7_2 : List SOp := [(some 2, .assign (.const (.bool false)), none)]
abbrev R7_3 : List SOp := [(some 9, .move (.tmp 0), none),
  (some 10, .binOp .rem 5 (.tmp 9) (.const (.int .u8 7)) 5, none),
  (some 11, .convert 5 3 (.tmp 10), none),
  (some 12, .binOp .add 3 (.const (.int .i64 8189)) (.tmp 11) 3, none),
  (some 13, .call ⟨.value (.func 17), #[(.const (.string ⟨#[0x20]⟩)), (.tmp 12)], #[9, 3]⟩, none),
  (some 3, .assign (.tmp 13), none)]
abbrev R7_4 : List SOp := [(some 15, .move (.tmp 3), none),
  (some 16, .call ⟨.value (.func 14), #[(.tmp 15)], #[9]⟩, none),
  (some 14, .move (.tmp 16), none),
  (some 17, .extract (.tmp 14) 0, none),
  (some 18, .extract (.tmp 14) 1, none),
  (some 19, .extract (.tmp 14) 2, none),
  (some 4, .assign (.tmp 17), none),
  (some 5, .assign (.tmp 18), none),
  (some 6, .assign (.tmp 19), none)]
abbrev R7_5 : List SOp := [(some 20, .move (.tmp 3), none),
  (some 21, .call ⟨.builtin .len, #[(.tmp 20)], #[9]⟩, none),
  (some 22, .binOp .gtr 3 (.tmp 21) (.const (.int .i64 8192)) 3, none)]
abbrev R7_6 : List SOp := [(some 23, .move (.tmp 6), none),
  (some 24, .binOp .eql 24 (.tmp 23) (.const (.int .i64 2)) 24, none),
  (some 25, .move (.tmp 24), none),
  (some 26, .move (.tmp 5), some (some 25, true)),
  (some 27, .binOp .eql 3 (.tmp 26) (.const (.int .i64 0)) 3, some (some 25, true)),
  (some 28, .pick (.tmp 25) (.tmp 27) (.const (.bool false)), none),
  (some 29, .move (.tmp 28), none),
  (some 30, .move (.tmp 4), some (some 29, true)),
  (some 31, .call ⟨.builtin .len, #[(.tmp 30)], #[23]⟩, some (some 29, true)),
  (some 32, .binOp .eql 3 (.tmp 31) (.const (.int .i64 0)) 3, some (some 29, true)),
  (some 33, .pick (.tmp 29) (.tmp 32) (.const (.bool false)), none),
  (some 2, .assign (.tmp 33), none)]
abbrev R7_7 : List SOp := [(some 34, .move (.tmp 6), none),
  (some 35, .binOp .eql 24 (.tmp 34) (.const (.int .i64 0)) 24, none),
  (some 36, .move (.tmp 35), none),
  (some 37, .move (.tmp 4), some (some 36, true)),
  (some 38, .call ⟨.builtin .len, #[(.tmp 37)], #[23]⟩, some (some 36, true)),
  (some 39, .binOp .eql 3 (.tmp 38) (.const (.int .i64 1)) 3, some (some 36, true)),
  (some 40, .pick (.tmp 36) (.tmp 39) (.const (.bool false)), none),
  (some 41, .move (.tmp 40), none),
  (some 42, .move (.tmp 4), some (some 41, true)),
  (some 43, .indexAddr 23 (.tmp 42) (.const (.int .i64 0)), some (some 41, true)),
  (some 44, .fieldAddr 29 (.tmp 43) 3, some (some 41, true)),
  (some 45, .load 3 (.tmp 44), some (some 41, true)),
  (some 46, .move (.tmp 3), some (some 41, true)),
  (some 47, .call ⟨.builtin .len, #[(.tmp 46)], #[9]⟩, some (some 41, true)),
  (some 48, .binOp .eql 3 (.tmp 45) (.tmp 47) 3, some (some 41, true)),
  (some 49, .pick (.tmp 41) (.tmp 48) (.const (.bool false)), none),
  (some 2, .assign (.tmp 49), none)]
abbrev S7 : SCode := .seq (.reg R7_0) (.seq (.seq (.reg R7_1) (.cond (.tmp 8) (.seq (.reg R7_2) (.ret)) (.skip))) (.seq (.reg R7_3) (.seq (.reg R7_4) (.seq (.seq (.reg R7_5) (.cond (.tmp 22) (.seq (.reg R7_6) (.ret)) (.skip))) (.seq (.reg R7_7) (.ret))))))
theorem slim7 : slimC tab 7 (Tryz.f7.body.getD .skip) = S7 := by kernel_rfl
theorem wf7 {xs : List V} {H : Hp} {Q : V → Hp → Prop} (h : WC tab S7 (frame xs 0 .nil) H (resQ tab [.tmp 2] Q)) : WF tab 7 xs H Q := WF.of_slim (T := tab) (f := 7) rfl fn7 rfl slim7 rfl h
/-! paling/palinglaw05.LexNumbers -/
abbrev R8_0 : List SOp := [(some 4, .assign (.const (.bool false)), none)]
abbrev R8_1 : List SOp := [(some 9, .call ⟨.value (.func 13), #[], #[]⟩, none),
  (some 10, .unOp .not 4 (.tmp 9), none)]
abbrev R8_2 : List SOp := [(some 4, .assign (.const (.bool false)), none)]
abbrev R8_3 : List SOp := [(some 11, .move (.tmp 1), none),
  (some 12, .binOp .rem 5 (.tmp 11) (.const (.int .u8 3)) 5, none),
  (some 13, .convert 5 3 (.tmp 12), none),
  (some 14, .call ⟨.value (.func 17), #[(.const (.string ⟨#[0x30]⟩)), (.tmp 13)], #[9, 3]⟩, none),
  (some 15, .move (.tmp 0), none),
  (some 16, .call ⟨.value (.func 18), #[(.tmp 15), (.const (.int .i64 10))], #[37, 3]⟩, none),
  (some 17, .binOp .add 9 (.tmp 14) (.tmp 16) 9, none),
  (some 5, .assign (.tmp 17), none)]
abbrev R8_4 : List SOp := [(some 19, .move (.tmp 5), none),
  (some 20, .call ⟨.value (.func 14), #[(.tmp 19)], #[9]⟩, none),
  (some 18, .move (.tmp 20), none),
  (some 21, .extract (.tmp 18) 0, none),
  (some 22, .extract (.tmp 18) 1, none),
  (some 23, .extract (.tmp 18) 2, none),
  (some 6, .assign (.tmp 21), none),
  (some 7, .assign (.tmp 22), none),
  (some 8, .assign (.tmp 23), none)]
abbrev R8_5 : List SOp := [(some 24, .move (.tmp 1), none),
  (some 25, .binOp .rem 5 (.tmp 24) (.const (.int .u8 3)) 5, none),
  (some 26, .binOp .gtr 5 (.tmp 25) (.const (.int .u8 0)) 5, none),
  (some 27, .move (.tmp 26), none),
  (some 28, .move (.tmp 0), some (some 27, false)),
  (some 29, .binOp .gtr 37 (.tmp 28) (.const (.int .u64 9223372036854775807)) 37, some (some 27, false)),
  (some 30, .pick (.tmp 27) (.const (.bool true)) (.tmp 29), none)]
abbrev R8_6 : List SOp := [(some 31, .move (.tmp 8), none),
  (some 32, .binOp .eql 24 (.tmp 31) (.const (.int .i64 6)) 24, none),
  (some 33, .move (.tmp 32), none),
  (some 34, .move (.tmp 7), some (some 33, true)),
  (some 35, .binOp .eql 3 (.tmp 34) (.const (.int .i64 0)) 3, some (some 33, true)),
  (some 36, .pick (.tmp 33) (.tmp 35) (.const (.bool false)), none),
  (some 37, .move (.tmp 36), none),
  (some 38, .move (.tmp 6), some (some 37, true)),
  (some 39, .call ⟨.builtin .len, #[(.tmp 38)], #[23]⟩, some (some 37, true)),
  (some 40, .binOp .eql 3 (.tmp 39) (.const (.int .i64 0)) 3, some (some 37, true)),
  (some 41, .pick (.tmp 37) (.tmp 40) (.const (.bool false)), none),
  (some 4, .assign (.tmp 41), none)]
abbrev R8_7 : List SOp := [(some 42, .move (.tmp 8), none),
  (some 43, .binOp .eql 24 (.tmp 42) (.const (.int .i64 0)) 24, none),
  (some 44, .move (.tmp 43), none),
  (some 45, .move (.tmp 6), some (some 44, true)),
  (some 46, .call ⟨.builtin .len, #[(.tmp 45)], #[23]⟩, some (some 44, true)),
  (some 47, .binOp .eql 3 (.tmp 46) (.const (.int .i64 2)) 3, some (some 44, true)),
  (some 48, .pick (.tmp 44) (.tmp 47) (.const (.bool false)), none),
  (some 49, .move (.tmp 48), none),
  (some 50, .move (.tmp 6), some (some 49, true)),
  (some 51, .indexAddr 23 (.tmp 50) (.const (.int .i64 0)), some (some 49, true)),
  (some 52, .fieldAddr 29 (.tmp 51) 0, some (some 49, true)),
  (some 53, .load 27 (.tmp 52), some (some 49, true)),
  (some 54, .binOp .eql 27 (.tmp 53) (.const (.int .i64 2)) 27, some (some 49, true)),
  (some 55, .pick (.tmp 49) (.tmp 54) (.const (.bool false)), none),
  (some 56, .move (.tmp 55), none),
  (some 57, .move (.tmp 6), some (some 56, true)),
  (some 58, .indexAddr 23 (.tmp 57) (.const (.int .i64 0)), some (some 56, true)),
  (some 59, .fieldAddr 29 (.tmp 58) 2, some (some 56, true)),
  (some 60, .load 2 (.tmp 59), some (some 56, true)),
  (some 61, .move (.tmp 0), some (some 56, true)),
  (some 62, .convert 37 2 (.tmp 61), some (some 56, true)),
  (some 63, .binOp .eql 2 (.tmp 60) (.tmp 62) 2, some (some 56, true)),
  (some 64, .pick (.tmp 56) (.tmp 63) (.const (.bool false)), none),
  (some 65, .move (.tmp 64), none),
  (some 66, .move (.tmp 6), some (some 65, true)),
  (some 67, .indexAddr 23 (.tmp 66) (.const (.int .i64 0)), some (some 65, true)),
  (some 68, .fieldAddr 29 (.tmp 67) 1, some (some 65, true)),
  (some 69, .load 9 (.tmp 68), some (some 65, true)),
  (some 70, .move (.tmp 5), some (some 65, true)),
  (some 71, .binOp .eql 9 (.tmp 69) (.tmp 70) 9, some (some 65, true)),
  (some 72, .pick (.tmp 65) (.tmp 71) (.const (.bool false)), none),
  (some 4, .assign (.tmp 72), none)]
abbrev S8 : SCode := .seq (.reg R8_0) (.seq (.seq (.reg R8_1) (.cond (.tmp 10) (.seq (.reg R8_2) (.ret)) (.skip))) (.seq (.reg R8_3) (.seq (.reg R8_4) (.seq (.seq (.reg R8_5) (.cond (.tmp 30) (.seq (.reg R8_6) (.ret)) (.skip))) (.seq (.reg R8_7) (.ret))))))
theorem slim8 : slimC tab 8 (Tryz.f8.body.getD .skip) = S8 := by kernel_rfl
theorem wf8 {xs : List V} {H : Hp} {Q : V → Hp → Prop} (h : WC tab S8 (frame xs 0 .nil) H (resQ tab [.tmp 4] Q)) : WF tab 8 xs H Q := WF.of_slim (T := tab) (f := 8) rfl fn8 rfl slim8 rfl h
/-! paling/palinglaw05.Split -/
abbrev R15_0 : List SOp := [(some 2, .assign (.const (.slice none 0 0)), none),
  (some 3, .assign (.const (.int .i64 0)), none),
  (some 4, .assign (.const (.int .i64 0)), none)]
abbrev R15_1 : List SOp := [(some 11, .move (.tmp 0), none),
  (some 12, .call ⟨.builtin .len, #[(.tmp 11)], #[9]⟩, none),
  (some 13, .binOp .gtr 3 (.tmp 12) (.const (.int .i64 8192)) 3, none)]
abbrev R15_2 : List SOp := [(some 2, .assign (.const (.slice none 0 0)), none),
  (some 3, .assign (.const (.int .i64 0)), none),
  (some 4, .assign (.const (.int .i64 2)), none)]
abbrev R15_3 : List SOp := [(some 5, .assign (.const (.slice none 0 0)), none)]
abbrev R15_4 : List SOp := [(some 6, .assign (.const (.int .i64 0)), none)]
abbrev R15_5 : List SOp := [(some 14, .move (.tmp 6), none),
  (some 15, .move (.tmp 0), none),
  (some 16, .call ⟨.builtin .len, #[(.tmp 15)], #[9]⟩, none),
  (some 17, .binOp .lss 3 (.tmp 14) (.tmp 16) 3, none)]
abbrev R15_6 : List SOp := [(some 18, .move (.tmp 0), none),
  (some 19, .move (.tmp 6), none),
  (some 20, .index 9 (.tmp 18) (.tmp 19), none),
  (some 21, .binOp .eql 5 (.tmp 20) (.const (.int .u8 32)) 5, none),
  (some 22, .move (.tmp 21), none),
  (some 23, .move (.tmp 0), some (some 22, false)),
  (some 24, .move (.tmp 6), some (some 22, false)),
  (some 25, .index 9 (.tmp 23) (.tmp 24), some (some 22, false)),
  (some 26, .binOp .eql 5 (.tmp 25) (.const (.int .u8 10)) 5, some (some 22, false)),
  (some 27, .pick (.tmp 22) (.const (.bool true)) (.tmp 26), none)]
abbrev R15_7 : List SOp := [(some 28, .move (.tmp 6), none),
  (some 29, .binOp .add 3 (.tmp 28) (.const (.int .i64 1)) 3, none),
  (some 6, .assign (.tmp 29), none)]
abbrev R15_8 : List SOp := [(some 30, .move (.tmp 0), none),
  (some 31, .move (.tmp 6), none),
  (some 32, .index 9 (.tmp 30) (.tmp 31), none),
  (some 33, .binOp .eql 5 (.tmp 32) (.const (.int .u8 35)) 5, none)]
abbrev R15_9 : List SOp := [(some 34, .move (.tmp 0), none),
  (some 35, .move (.tmp 6), none),
  (some 36, .slice 9 (.tmp 34) (some (.tmp 35)) none none, none),
  (some 37, .call ⟨.value (.func 33), #[(.tmp 36), (.const (.int .u8 10))], #[9, 5]⟩, none),
  (some 7, .assign (.tmp 37), none)]
abbrev R15_10 : List SOp := [(some 38, .move (.tmp 7), none),
  (some 39, .binOp .lss 3 (.tmp 38) (.const (.int .i64 0)) 3, none)]
abbrev R15_11 : List SOp := [(some 40, .move (.tmp 0), none),
  (some 41, .call ⟨.builtin .len, #[(.tmp 40)], #[9]⟩, none),
  (some 42, .move (.tmp 6), none),
  (some 43, .binOp .sub 3 (.tmp 41) (.tmp 42) 3, none),
  (some 7, .assign (.tmp 43), none)]
abbrev R15_12 : List SOp := [(some 44, .move (.tmp 6), none),
  (some 45, .move (.tmp 7), none),
  (some 46, .binOp .add 3 (.tmp 44) (.tmp 45) 3, none),
  (some 6, .assign (.tmp 46), none)]
abbrev R15_13 : List SOp := [(some 48, .move (.tmp 0), none),
  (some 49, .move (.tmp 6), none),
  (some 50, .slice 9 (.tmp 48) (some (.tmp 49)) none none, none),
  (some 51, .call ⟨.value (.func 34), #[(.tmp 50)], #[9]⟩, none),
  (some 47, .move (.tmp 51), none),
  (some 52, .extract (.tmp 47) 0, none),
  (some 53, .extract (.tmp 47) 1, none),
  (some 54, .extract (.tmp 47) 2, none),
  (some 8, .alloc 29, none),
  (none, .store 29 (.tmp 8) (.tmp 52), none),
  (some 9, .assign (.tmp 53), none),
  (some 10, .assign (.tmp 54), none)]
abbrev R15_14 : List SOp := [(some 55, .move (.tmp 10), none),
  (some 56, .binOp .neq 24 (.tmp 55) (.const (.int .i64 0)) 24, none)]
abbrev R15_15 : List SOp := [(some 57, .move (.tmp 6), none),
  (some 58, .move (.tmp 10), none),
  (some 2, .assign (.const (.slice none 0 0)), none),
  (some 3, .assign (.tmp 57), none),
  (some 4, .assign (.tmp 58), none)]
abbrev R15_16 : List SOp := [(some 59, .move (.tmp 6), none),
  (some 60, .fieldAddr 29 (.tmp 8) 3, none),
  (none, .store 3 (.tmp 60) (.tmp 59), none)]
abbrev R15_17 : List SOp := [(some 61, .move (.tmp 5), none),
  (some 62, .load 29 (.tmp 8), none),
  (some 63, .buildSlice 23 1 #[(0, (.tmp 62))], none),
  (some 64, .call ⟨.builtin .append, #[(.tmp 61), (.tmp 63)], #[23, 23]⟩, none),
  (some 5, .assign (.tmp 64), none)]
abbrev R15_18 : List SOp := [(some 65, .move (.tmp 6), none),
  (some 66, .move (.tmp 9), none),
  (some 67, .binOp .add 3 (.tmp 65) (.tmp 66) 3, none),
  (some 6, .assign (.tmp 67), none)]
def L15_0 : SCode := .seq (.seq (.reg R15_5) (.cond (.tmp 17) (.skip) (.exit 0))) (.block 1 (.seq (.seq (.reg R15_6) (.cond (.tmp 27) (.seq (.reg R15_7) (.exit 1)) (.skip))) (.seq (.seq (.reg R15_8) (.cond (.tmp 33) (.seq (.reg R15_9) (.seq (.seq (.reg R15_10) (.cond (.tmp 39) (.reg R15_11) (.skip))) (.seq (.reg R15_12) (.exit 1)))) (.skip))) (.seq (.reg R15_13) (.seq (.seq (.reg R15_14) (.cond (.tmp 56) (.seq (.reg R15_15) (.ret)) (.skip))) (.seq (.reg R15_16) (.seq (.reg R15_17) (.reg R15_18))))))))
abbrev R15_19 : List SOp := [(some 68, .move (.tmp 5), none),
  (some 69, .move (.tmp 6), none),
  (some 70, .build 29 #[(3, (.tmp 69))], none),
  (some 71, .buildSlice 23 1 #[(0, (.tmp 70))], none),
  (some 72, .call ⟨.builtin .append, #[(.tmp 68), (.tmp 71)], #[23, 23]⟩, none),
  (some 2, .assign (.tmp 72), none),
  (some 3, .assign (.const (.int .i64 0)), none),
  (some 4, .assign (.const (.int .i64 0)), none)]
abbrev S15 : SCode := .seq (.reg R15_0) (.seq (.seq (.reg R15_1) (.cond (.tmp 13) (.seq (.reg R15_2) (.ret)) (.skip))) (.seq (.reg R15_3) (.seq (.reg R15_4) (.seq (.block 0 (.loop L15_0)) (.seq (.reg R15_19) (.ret))))))
theorem slim15 : slimC tab 15 (Tryz.f15.body.getD .skip) = S15 := by kernel_rfl
theorem wf15 {xs : List V} {H : Hp} {Q : V → Hp → Prop} (h : WC tab S15 (frame xs 0 .nil) H (resQ tab [.tmp 2, .tmp 3, .tmp 4] Q)) : WF tab 15 xs H Q := WF.of_slim (T := tab) (f := 15) rfl fn15 rfl slim15 rfl h
/-! paling/palinglaw05.one -/
abbrev R34_0 : List SOp := [(some 2, .alloc 29, none),
  (some 3, .assign (.const (.int .i64 0)), none),
  (some 4, .assign (.const (.int .i64 0)), none)]
abbrev R34_1 : List SOp := [(some 15, .move (.tmp 0), none),
  (some 16, .call ⟨.value (.func 64), #[(.tmp 15), (.const (.string ⟨#[0x30, 0x31, 0x32, 0x33, 0x34, 0x35, 0x36, 0x37, 0x38, 0x39]⟩))], #[9, 9]⟩, none),
  (some 5, .assign (.tmp 16), none)]
abbrev R34_2 : List SOp := [(some 17, .move (.tmp 5), none),
  (some 18, .binOp .gtr 3 (.tmp 17) (.const (.int .i64 0)) 3, none)]
abbrev R34_3 : List SOp := [(some 6, .assign (.const (.int .u64 0)), none)]
abbrev R34_4 : List SOp := [(some 19, .move (.tmp 5), none),
  (some 20, .move (.const (.int .i64 0)), none)]
abbrev R34_5 : List SOp := [(some 21, .binOp .lss 3 (.tmp 20) (.tmp 19) 3, none)]
abbrev R34_6 : List SOp := [(some 22, .move (.tmp 20), none),
  (some 7, .assign (.tmp 22), none)]
abbrev R34_7 : List SOp := [(some 23, .move (.tmp 6), none),
  (some 24, .binOp .gtr 37 (.tmp 23) (.const (.int .u64 922337203685477580)) 37, none)]
abbrev R34_8 : List SOp := [(some 25, .build 29 #[], none),
  (none, .store 29 (.tmp 2) (.tmp 25), none),
  (some 3, .assign (.const (.int .i64 0)), none),
  (some 4, .assign (.const (.int .i64 6)), none)]
abbrev R34_9 : List SOp := [(some 26, .move (.tmp 6), none),
  (some 27, .binOp .mul 37 (.const (.int .u64 10)) (.tmp 26) 37, none),
  (some 28, .move (.tmp 0), none),
  (some 29, .move (.tmp 7), none),
  (some 30, .index 9 (.tmp 28) (.tmp 29), none),
  (some 31, .binOp .sub 5 (.tmp 30) (.const (.int .u8 48)) 5, none),
  (some 32, .convert 5 37 (.tmp 31), none),
  (some 33, .binOp .add 37 (.tmp 27) (.tmp 32) 37, none),
  (some 6, .assign (.tmp 33), none)]
abbrev R34_10 : List SOp := [(some 34, .binOp .add 3 (.tmp 20) (.const (.int .i64 1)) 3, none),
  (some 20, .move (.tmp 34), none)]
def L34_0 : SCode := .seq (.reg R34_5) (.seq (.cond (.tmp 21) (.skip) (.exit 0)) (.seq (.block 1 (.seq (.reg R34_6) (.seq (.seq (.reg R34_7) (.cond (.tmp 24) (.seq (.reg R34_8) (.ret)) (.skip))) (.reg R34_9)))) (.reg R34_10)))
abbrev R34_11 : List SOp := [(some 35, .move (.tmp 6), none),
  (some 36, .binOp .gtr 37 (.tmp 35) (.const (.int .u64 9223372036854775807)) 37, none),
  (some 37, .move (.tmp 36), none),
  (some 38, .move (.tmp 5), some (some 37, false)),
  (some 39, .binOp .gtr 3 (.tmp 38) (.const (.int .i64 1)) 3, some (some 37, false)),
  (some 40, .move (.tmp 39), some (some 37, false)),
  (some 41, .move (.tmp 0), some (some 40, true)),
  (some 42, .index 9 (.tmp 41) (.const (.int .i64 0)), some (some 40, true)),
  (some 43, .binOp .eql 5 (.tmp 42) (.const (.int .u8 48)) 5, some (some 40, true)),
  (some 44, .pick (.tmp 40) (.tmp 43) (.const (.bool false)), some (some 37, false)),
  (some 45, .pick (.tmp 37) (.const (.bool true)) (.tmp 44), none)]
abbrev R34_12 : List SOp := [(some 46, .build 29 #[], none),
  (none, .store 29 (.tmp 2) (.tmp 46), none),
  (some 3, .assign (.const (.int .i64 0)), none),
  (some 4, .assign (.const (.int .i64 6)), none)]
abbrev R34_13 : List SOp := [(some 47, .move (.tmp 0), none),
  (some 48, .move (.tmp 5), none),
  (some 49, .slice 9 (.tmp 47) none (some (.tmp 48)) none, none),
  (some 50, .move (.tmp 6), none),
  (some 51, .convert 37 2 (.tmp 50), none),
  (some 52, .build 29 #[(0, (.const (.int .i64 2))), (1, (.tmp 49)), (2, (.tmp 51))], none),
  (some 53, .move (.tmp 5), none),
  (none, .store 29 (.tmp 2) (.tmp 52), none),
  (some 3, .assign (.tmp 53), none),
  (some 4, .assign (.const (.int .i64 0)), none)]
abbrev R34_14 : List SOp := [(some 54, .move (.tmp 0), none),
  (some 55, .call ⟨.value (.func 64), #[(.tmp 54), (.const (.string ⟨#[0x61, 0x62, 0x63, 0x64, 0x65, 0x66, 0x67, 0x68, 0x69, 0x6a, 0x6b, 0x6c, 0x6d, 0x6e, 0x6f, 0x70, 0x71, 0x72, 0x73, 0x74, 0x75, 0x76, 0x77, 0x78, 0x79, 0x7a, 0x41, 0x42, 0x43, 0x44, 0x45, 0x46, 0x47, 0x48, 0x49, 0x4a, 0x4b, 0x4c, 0x4d, 0x4e, 0x4f, 0x50, 0x51, 0x52, 0x53, 0x54, 0x55, 0x56, 0x57, 0x58, 0x59, 0x5a, 0x5f, 0x30, 0x31, 0x32, 0x33, 0x34, 0x35, 0x36, 0x37, 0x38, 0x39]⟩))], #[9, 9]⟩, none),
  (some 8, .assign (.tmp 55), none)]
abbrev R34_15 : List SOp := [(some 56, .move (.tmp 8), none),
  (some 57, .binOp .gtr 3 (.tmp 56) (.const (.int .i64 0)) 3, none)]
abbrev R34_16 : List SOp := [(some 58, .move (.tmp 0), none),
  (some 59, .move (.tmp 8), none),
  (some 60, .slice 9 (.tmp 58) none (some (.tmp 59)) none, none),
  (some 61, .build 29 #[(0, (.const (.int .i64 1))), (1, (.tmp 60))], none),
  (some 62, .move (.tmp 8), none),
  (none, .store 29 (.tmp 2) (.tmp 61), none),
  (some 3, .assign (.tmp 62), none),
  (some 4, .assign (.const (.int .i64 0)), none)]
abbrev R34_17 : List SOp := [(some 63, .move (.tmp 0), none),
  (some 64, .index 9 (.tmp 63) (.const (.int .i64 0)), none),
  (some 65, .binOp .eql 5 (.tmp 64) (.const (.int .u8 34)) 5, none)]
abbrev R34_18 : List SOp := [(some 9, .assign (.const (.string ⟨#[]⟩)), none)]
abbrev R34_19 : List SOp := [(some 10, .assign (.const (.int .i64 1)), none)]
abbrev R34_20 : List SOp := [(some 66, .move (.tmp 10), none),
  (some 67, .move (.tmp 0), none),
  (some 68, .call ⟨.builtin .len, #[(.tmp 67)], #[9]⟩, none),
  (some 69, .binOp .lss 3 (.tmp 66) (.tmp 68) 3, none)]
abbrev R34_22 : List SOp := [(some 72, .move (.tmp 0), none),
  (some 73, .move (.tmp 10), none),
  (some 74, .index 9 (.tmp 72) (.tmp 73), none),
  (some 11, .assign (.tmp 74), none)]
abbrev R34_23 : List SOp := [(some 75, .move (.tmp 11), none),
  (some 76, .binOp .eql 5 (.tmp 75) (.const (.int .u8 34)) 5, none)]
abbrev R34_24 : List SOp := [(some 77, .move (.tmp 9), none),
  (some 78, .build 29 #[(0, (.const (.int .i64 3))), (1, (.tmp 77))], none),
  (some 79, .move (.tmp 10), none),
  (some 80, .binOp .add 3 (.tmp 79) (.const (.int .i64 1)) 3, none),
  (none, .store 29 (.tmp 2) (.tmp 78), none),
  (some 3, .assign (.tmp 80), none),
  (some 4, .assign (.const (.int .i64 0)), none)]
abbrev R34_25 : List SOp := [(some 81, .move (.tmp 11), none),
  (some 82, .binOp .eql 5 (.tmp 81) (.const (.int .u8 92)) 5, none)]
abbrev R34_26 : List SOp := [(some 83, .move (.tmp 10), none),
  (some 84, .binOp .add 3 (.tmp 83) (.const (.int .i64 1)) 3, none),
  (some 10, .assign (.tmp 84), none)]
abbrev R34_27 : List SOp := [(some 85, .move (.tmp 10), none),
  (some 86, .move (.tmp 0), none),
  (some 87, .call ⟨.builtin .len, #[(.tmp 86)], #[9]⟩, none),
  (some 88, .binOp .eql 3 (.tmp 85) (.tmp 87) 3, none)]
abbrev R34_28 : List SOp := [(some 89, .move (.tmp 0), none),
  (some 90, .move (.tmp 10), none),
  (some 91, .index 9 (.tmp 89) (.tmp 90), none),
  (some 92, .call ⟨.value (.func 33), #[(.const (.string ⟨#[0x22, 0x5c, 0x6e]⟩)), (.tmp 91)], #[9, 5]⟩, none),
  (some 12, .assign (.tmp 92), none)]
abbrev R34_29 : List SOp := [(some 93, .move (.tmp 12), none),
  (some 94, .binOp .lss 3 (.tmp 93) (.const (.int .i64 0)) 3, none)]
abbrev R34_30 : List SOp := [(some 95, .move (.tmp 9), none),
  (some 96, .move (.tmp 12), none),
  (some 97, .move (.tmp 12), none),
  (some 98, .binOp .add 3 (.tmp 97) (.const (.int .i64 1)) 3, none),
  (some 99, .slice 9 (.const (.string ⟨#[0x22, 0x5c, 0x0a]⟩)) (some (.tmp 96)) (some (.tmp 98)) none, none),
  (some 100, .binOp .add 9 (.tmp 95) (.tmp 99) 9, none),
  (some 9, .assign (.tmp 100), none)]
abbrev R34_31 : List SOp := [(some 101, .move (.tmp 11), none),
  (some 102, .binOp .lss 5 (.tmp 101) (.const (.int .u8 32)) 5, none),
  (some 103, .move (.tmp 102), none),
  (some 104, .move (.tmp 11), some (some 103, false)),
  (some 105, .binOp .gtr 5 (.tmp 104) (.const (.int .u8 126)) 5, some (some 103, false)),
  (some 106, .pick (.tmp 103) (.const (.bool true)) (.tmp 105), none)]
abbrev R34_32 : List SOp := [(some 107, .move (.tmp 9), none),
  (some 108, .move (.tmp 0), none),
  (some 109, .move (.tmp 10), none),
  (some 110, .move (.tmp 10), none),
  (some 111, .binOp .add 3 (.tmp 110) (.const (.int .i64 1)) 3, none),
  (some 112, .slice 9 (.tmp 108) (some (.tmp 109)) (some (.tmp 111)) none, none),
  (some 113, .binOp .add 9 (.tmp 107) (.tmp 112) 9, none),
  (some 9, .assign (.tmp 113), none)]
abbrev R34_21 : List SOp := [(some 70, .move (.tmp 10), none),
  (some 71, .binOp .add 3 (.tmp 70) (.const (.int .i64 1)) 3, none),
  (some 10, .assign (.tmp 71), none)]
def L34_1 : SCode := .seq (.seq (.reg R34_20) (.cond (.tmp 69) (.skip) (.exit 2))) (.seq (.block 3 (.seq (.reg R34_22) (.seq (.seq (.reg R34_23) (.cond (.tmp 76) (.seq (.reg R34_24) (.ret)) (.skip))) (.seq (.seq (.reg R34_25) (.cond (.tmp 82) (.seq (.reg R34_26) (.seq (.seq (.reg R34_27) (.cond (.tmp 88) (.exit 2) (.skip))) (.seq (.reg R34_28) (.seq (.seq (.reg R34_29) (.cond (.tmp 94) (.exit 2) (.skip))) (.seq (.reg R34_30) (.exit 3)))))) (.skip))) (.seq (.seq (.reg R34_31) (.cond (.tmp 106) (.exit 2) (.skip))) (.reg R34_32)))))) (.reg R34_21))
abbrev R34_33 : List SOp := [(some 114, .build 29 #[], none),
  (none, .store 29 (.tmp 2) (.tmp 114), none),
  (some 3, .assign (.const (.int .i64 0)), none),
  (some 4, .assign (.const (.int .i64 1)), none)]
abbrev R34_34 : List SOp := [(some 115, .buildSlice 50 18 #[(0, (.const (.string ⟨#[0x3d, 0x3d]⟩))), (1, (.const (.string ⟨#[0x21, 0x3d]⟩))), (2, (.const (.string ⟨#[0x28]⟩))), (3, (.const (.string ⟨#[0x29]⟩))), (4, (.const (.string ⟨#[0x7b]⟩))), (5, (.const (.string ⟨#[0x7d]⟩))), (6, (.const (.string ⟨#[0x5b]⟩))), (7, (.const (.string ⟨#[0x5d]⟩))), (8, (.const (.string ⟨#[0x3b]⟩))), (9, (.const (.string ⟨#[0x2c]⟩))), (10, (.const (.string ⟨#[0x3a]⟩))), (11, (.const (.string ⟨#[0x2e]⟩))), (12, (.const (.string ⟨#[0x3d]⟩))), (13, (.const (.string ⟨#[0x3c]⟩))), (14, (.const (.string ⟨#[0x2b]⟩))), (15, (.const (.string ⟨#[0x2d]⟩))), (16, (.const (.string ⟨#[0x2a]⟩))), (17, (.const (.string ⟨#[0x21]⟩)))], none),
  (some 116, .call ⟨.builtin .len, #[(.tmp 115)], #[50]⟩, none),
  (some 117, .move (.const (.int .i64 0)), none)]
abbrev R34_35 : List SOp := [(some 118, .binOp .lss 3 (.tmp 117) (.tmp 116) 3, none)]
abbrev R34_36 : List SOp := [(some 119, .indexAddr 50 (.tmp 115) (.tmp 117), none),
  (some 120, .load 9 (.tmp 119), none),
  (some 14, .assign (.tmp 120), none)]
abbrev R34_37 : List SOp := [(some 121, .move (.tmp 0), none),
  (some 122, .move (.tmp 14), none),
  (some 123, .call ⟨.value (.func 36), #[(.tmp 121), (.tmp 122)], #[9, 9]⟩, none)]
abbrev R34_38 : List SOp := [(some 124, .move (.tmp 14), none),
  (some 125, .build 29 #[(0, (.const (.int .i64 4))), (1, (.tmp 124))], none),
  (some 126, .move (.tmp 14), none),
  (some 127, .call ⟨.builtin .len, #[(.tmp 126)], #[9]⟩, none),
  (none, .store 29 (.tmp 2) (.tmp 125), none),
  (some 3, .assign (.tmp 127), none),
  (some 4, .assign (.const (.int .i64 0)), none)]
abbrev R34_39 : List SOp := [(some 128, .binOp .add 3 (.tmp 117) (.const (.int .i64 1)) 3, none),
  (some 117, .move (.tmp 128), none)]
def L34_2 : SCode := .seq (.reg R34_35) (.seq (.cond (.tmp 118) (.skip) (.exit 4)) (.seq (.block 5 (.seq (.reg R34_36) (.seq (.reg R34_37) (.cond (.tmp 123) (.seq (.reg R34_38) (.ret)) (.skip))))) (.reg R34_39)))
abbrev R34_40 : List SOp := [(some 129, .build 29 #[], none),
  (none, .store 29 (.tmp 2) (.tmp 129), none),
  (some 3, .assign (.const (.int .i64 0)), none),
  (some 4, .assign (.const (.int .i64 1)), none)]
abbrev S34 : SCode := .seq (.reg R34_0) (.seq (.seq (.reg R34_1) (.seq (.reg R34_2) (.cond (.tmp 18) (.seq (.reg R34_3) (.seq (.seq (.reg R34_4) (.block 0 (.loop L34_0))) (.seq (.seq (.reg R34_11) (.cond (.tmp 45) (.seq (.reg R34_12) (.ret)) (.skip))) (.seq (.reg R34_13) (.ret))))) (.skip)))) (.seq (.seq (.reg R34_14) (.seq (.reg R34_15) (.cond (.tmp 57) (.seq (.reg R34_16) (.ret)) (.skip)))) (.seq (.seq (.reg R34_17) (.cond (.tmp 65) (.seq (.reg R34_18) (.seq (.seq (.reg R34_19) (.block 2 (.loop L34_1))) (.seq (.reg R34_33) (.ret)))) (.skip))) (.seq (.seq (.reg R34_34) (.block 4 (.loop L34_2))) (.seq (.reg R34_40) (.ret))))))
theorem slim34 : slimC tab 34 (Tryz.f34.body.getD .skip) = S34 := by kernel_rfl
theorem wf34 {xs : List V} {H : Hp} {Q : V → Hp → Prop} (h : WC tab S34 (frame xs 0 .nil) H (resQ tab [.cell 2 29, .tmp 3, .tmp 4] Q)) : WF tab 34 xs H Q := WF.of_slim (T := tab) (f := 34) rfl fn34 rfl slim34 rfl h
/-! paling/palinglaw05.among -/
abbrev R64_0 : List SOp := [(some 4, .assign (.const (.int .i64 0)), none)]
abbrev R64_1 : List SOp := [(some 6, .move (.tmp 0), none),
  (some 7, .call ⟨.builtin .len, #[(.tmp 6)], #[9]⟩, none),
  (some 8, .move (.const (.int .i64 0)), none)]
abbrev R64_2 : List SOp := [(some 9, .binOp .lss 3 (.tmp 8) (.tmp 7) 3, none)]
abbrev R64_3 : List SOp := [(some 10, .move (.tmp 8), none),
  (some 5, .assign (.tmp 10), none)]
abbrev R64_4 : List SOp := [(some 11, .move (.tmp 1), none),
  (some 12, .move (.tmp 0), none),
  (some 13, .move (.tmp 5), none),
  (some 14, .index 9 (.tmp 12) (.tmp 13), none),
  (some 15, .call ⟨.value (.func 33), #[(.tmp 11), (.tmp 14)], #[9, 5]⟩, none),
  (some 16, .binOp .lss 3 (.tmp 15) (.const (.int .i64 0)) 3, none)]
abbrev R64_5 : List SOp := [(some 17, .move (.tmp 5), none),
  (some 4, .assign (.tmp 17), none)]
abbrev R64_6 : List SOp := [(some 18, .binOp .add 3 (.tmp 8) (.const (.int .i64 1)) 3, none),
  (some 8, .move (.tmp 18), none)]
def L64_0 : SCode := .seq (.reg R64_2) (.seq (.cond (.tmp 9) (.skip) (.exit 0)) (.seq (.block 1 (.seq (.reg R64_3) (.seq (.reg R64_4) (.cond (.tmp 16) (.seq (.reg R64_5) (.ret)) (.skip))))) (.reg R64_6)))
abbrev R64_7 : List SOp := [(some 19, .move (.tmp 0), none),
  (some 20, .call ⟨.builtin .len, #[(.tmp 19)], #[9]⟩, none),
  (some 4, .assign (.tmp 20), none)]
abbrev S64 : SCode := .seq (.reg R64_0) (.seq (.seq (.reg R64_1) (.block 0 (.loop L64_0))) (.seq (.reg R64_7) (.ret)))
theorem slim64 : slimC tab 64 (Tryz.f64.body.getD .skip) = S64 := by kernel_rfl
theorem wf64 {xs : List V} {H : Hp} {Q : V → Hp → Prop} (h : WC tab S64 (frame xs 0 .nil) H (resQ tab [.tmp 4] Q)) : WF tab 64 xs H Q := WF.of_slim (T := tab) (f := 64) rfl fn64 rfl slim64 rfl h
/-! slices.Equal[[]paling/lex.Token,paling/lex.Token] -/
abbrev R16_0 : List SOp := [(some 4, .assign (.const (.bool false)), none)]
abbrev R16_1 : List SOp := [(some 6, .move (.tmp 0), none),
  (some 7, .call ⟨.builtin .len, #[(.tmp 6)], #[23]⟩, none),
  (some 8, .move (.tmp 1), none),
  (some 9, .call ⟨.builtin .len, #[(.tmp 8)], #[23]⟩, none),
  (some 10, .binOp .neq 3 (.tmp 7) (.tmp 9) 3, none)]
abbrev R16_2 : List SOp := [(some 4, .assign (.const (.bool false)), none)]
abbrev R16_3 : List SOp := [(some 11, .move (.tmp 0), none),
  (some 12, .call ⟨.builtin .len, #[(.tmp 11)], #[23]⟩, none),
  (some 13, .move (.const (.int .i64 0)), none)]
abbrev R16_4 : List SOp := [(some 14, .binOp .lss 3 (.tmp 13) (.tmp 12) 3, none)]
abbrev R16_5 : List SOp := [(some 15, .move (.tmp 13), none),
  (some 5, .assign (.tmp 15), none)]
abbrev R16_6 : List (SOp × Nat) := [((some 16, .move (.tmp 0), none), 0),
  ((some 17, .move (.tmp 5), none), 0),
  ((some 18, .indexAddr 23 (.tmp 16) (.tmp 17), none), 0),
  ((some 19, .load 29 (.tmp 18), none), 0),
  ((some 20, .move (.tmp 1), none), 0),
  ((some 21, .move (.tmp 5), none), 0),
  ((some 22, .indexAddr 23 (.tmp 20) (.tmp 21), none), 0),
  ((some 23, .load 29 (.tmp 22), none), 0),
  ((some 24, .binOp .neq 29 (.tmp 19) (.tmp 23) 29, none), 0)]
abbrev R16_7 : List SOp := [(some 4, .assign (.const (.bool false)), none)]
abbrev R16_8 : List SOp := [(some 25, .binOp .add 3 (.tmp 13) (.const (.int .i64 1)) 3, none),
  (some 13, .move (.tmp 25), none)]
def L16_0 : SCode := .seq (.reg R16_4) (.seq (.cond (.tmp 14) (.skip) (.exit 0)) (.seq (.block 1 (.seq (.reg R16_5) (.seq (.dreg R16_6) (.cond (.tmp 24) (.seq (.reg R16_7) (.ret)) (.skip))))) (.reg R16_8)))
abbrev R16_9 : List SOp := [(some 4, .assign (.const (.bool true)), none)]
abbrev S16 : SCode := .seq (.reg R16_0) (.seq (.seq (.reg R16_1) (.cond (.tmp 10) (.seq (.reg R16_2) (.ret)) (.skip))) (.seq (.seq (.reg R16_3) (.block 0 (.loop L16_0))) (.seq (.reg R16_9) (.ret))))
theorem slim16 : slimC tab 16 (Tryz.f16.body.getD .skip) = S16 := by kernel_rfl
theorem wf16 {xs : List V} {H : Hp} {Q : V → Hp → Prop} (h : WC tab S16 (frame xs 0 .nil) H (resQ tab [.tmp 4] Q)) : WF tab 16 xs H Q := WF.of_slim (T := tab) (f := 16) rfl fn16 rfl slim16 rfl h
end Go.AM.YtjdadagnfnaboaaGreatDoorT
/- What simp opens in the walks of this seat: printed by genset.py. -/
namespace Go.AM.YtjdadagnfnaboaaGreatDoorT
open Go Go.AM
attribute [simp] wp_skip wp_reg wp_dreg wp_seq wp_cond wp_block wp_loop wp_exit wp_ret wpL_nil wpL_cons wpD_nil wpD_cons sq_nrm sq_exit sq_ret nm_ap bl_nrm bl_ret bl_exit cd_true cd_false lp_nrm lp_exit lp_ret rs_ret rs_nrm rsQ contL contD kV kAW kA kW kC kCo wantQ oq_p oq_r oq_w oq_c oq_alloc oq_box oq_bs oq_mm oq_ms oq_cv dV dAW dA dW dC dCo isCall skD od_p od_r od_w od_c od_alloc od_box od_bs od_mm od_ms od_cv wantDQ wantS kind convKd lenV_sl lenV_nils lenV_sle lenV_str evP evR evA evW evAW descOf frame opd opds Tr.get_set putD delD resOf getAll kbOk afterA isPt winOk ofVal binInt binStr binE_int binE_str binE_shl binE_shr binE_eql_agg binE_neq_agg binE_eql_bool binE_neq_bool binE_eql_pn binE_neq_pn binE_eql_nn binE_neq_nn binE_eql_in binE_neq_in binE_eql_ii binE_neq_ii isBoolD isPtrD isIfD isMpD isSlD isC cells_agg cells_bool one_bool cells_int one_int cells_str one_str cells_nilp one_nilp cells_ptr one_ptr cells_nils one_nils cells_sle one_sle cells_sl one_sl cells_nilm one_nilm cells_mp one_mp cells_nilf one_nilf cells_fn one_fn cells_nili one_nili cells_ifc one_ifc isAgg isMapT optI partV zeroV keyOk keyOk1 keyOkS keyOkL eqS sameL same1 sameK esOf partsV fillV placesV setCells mapKeyOk Hp.get_flush Hp.stale_flush Hp.next_flush repl List.nil_append get_new_self get_put_self get_bump next_bump st_new st_put st_bump Hp.next_new Hp.next_put flush_of IntKind.bits tab_ng nna1 nnb1 nna2 nnb2 nna3 nnb3 nna4 nnb4 nna5 nnb5 nna6 nnb6 nna7 nnb7 nna8 nnb8
attribute [simp] ty1 ty2 ty3 ty4 ty5 ty6 ty7 ty8 ty9 ty10 ty11 ty12 ty13 ty14 ty15 ty16 ty17 ty18 ty19 ty20 ty21 ty22 ty23 ty24 ty26 ty27 ty28 ty29 ty30 ty31 ty32 ty33 ty34 ty35 ty36 ty37 ty38 ty39 ty40 ty41 ty42 ty43 ty44 ty45 ty46 ty47 ty48 ty49 ty50 ty51 ty52 ty53 ty54 ty55 ty56 ty57 ty58 ty59 ty60 ty61 ty62 ty63 ty65 ty66 ty67 ty69 ty70 ty71 ty72 ty73 ty74 ty75 ty77 ty78 ty79 ty80 ty81 ty82 ty83 ty84 ty85 ty86 ty87 ty88 ty89 ty90 ty91 ty92 ty93 ty94 ty95 ty97 ty98 ty99 ty100 ty101 ty102 ty103 ty104 ty105 ty106 ty107 ty108 ty109 ty110 ty112 ty114 ty115 ty116 ty117 ty118 ty120 ty121 ty122 ty123 ty124 ty125 ty126 ty127 ty128 ty130 ty131 ty132 ty133 ty134 ty135 ty136 ty137 ty138 ty139 ty140 ty141 ty142 ty143 ty144 ty145 ty146 ty147 ty150 ty151 ty152 ty153 ty154 ty155 ty156 ty157 ty158 ty159 ty160 ty161 ty162 ty163 ty164 ty165 ty166 ty167 ty168 ty169 ty170 ty171 ty172 ty173 ty174 ty175 ty176 ty177 ty178 ty179 ty180 ty181 ty183 ty184 ty185 ty186 ty187 ty188 ty189 ty190 ty191 ty192 ty193 ty194 ty195 ty196 ty198 ty199 ty200 ty202 ty203 ty204 ty205 ty206 ty207 ty208 ty209 ty210 ty211 ty212 ty214 ty215 ty216 ty217 ty218 ty219 ty220 ty221 ty222 ty223 ty224 ty225 ty226 ty227 ty228
end Go.AM.YtjdadagnfnaboaaGreatDoorT
