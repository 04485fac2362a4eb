/- Parts of the abstract machine and of the walks over it, joined: what the law that is claimed here leans on. -/
import Derived.Test.YtlcadokmhfjacaaGreatDoorAmX
import Derived.Test.YtlcadokmhfjacaaGreatDoorAmC2
import Derived.Test.YtlcadokmhfjacaaGreatDoorAmC3
import Derived.Test.YtlcadokmhfjacaaGreatDoorAmS
import Derived.Test.YtlcadokmhfjacaaGreatDoorAmB
/- The slim code of these functions: printed by genslim.py. -/
namespace Go.AM.YtlcadokmhfjacaaGreatDoorT
open Go Go.AM Go.Proofs
set_option maxRecDepth 100000
/-! (*paling/palinglaw06.maker).next -/
abbrev R76_0 : List SOp := [(some 2, .alloc 53, none)]
abbrev R76_1 : List SOp := [(some 4, .move (.tmp 0), none),
  (some 5, .nilCheck (.tmp 4), none),
  (some 6, .fieldAddr 80 (.tmp 5) 1, none),
  (some 7, .load 3 (.tmp 6), none),
  (some 8, .binOp .sub 3 (.tmp 7) (.const (.int .i64 1)) 3, none),
  (some 9, .nilCheck (.tmp 4), none),
  (some 10, .fieldAddr 80 (.tmp 9) 1, none),
  (none, .store 3 (.tmp 10) (.tmp 8), none)]
abbrev R76_2 : List SOp := [(some 11, .move (.tmp 0), none),
  (some 12, .nilCheck (.tmp 11), none),
  (some 13, .fieldAddr 80 (.tmp 12) 0, none),
  (some 14, .load 28 (.tmp 13), none),
  (some 15, .call ⟨.builtin .len, #[(.tmp 14)], #[28]⟩, none),
  (some 16, .binOp .eql 3 (.tmp 15) (.const (.int .i64 0)) 3, none)]
abbrev R76_3 : List SOp := [(some 17, .build 53 #[], none),
  (none, .store 53 (.tmp 2) (.tmp 17), none)]
abbrev R76_4 : List SOp := [(some 18, .move (.tmp 0), none),
  (some 19, .nilCheck (.tmp 18), none),
  (some 20, .fieldAddr 80 (.tmp 19) 0, none),
  (some 21, .load 28 (.tmp 20), none),
  (some 22, .indexAddr 28 (.tmp 21) (.const (.int .i64 0)), none),
  (some 23, .load 53 (.tmp 22), none),
  (some 3, .alloc 53, none),
  (none, .store 53 (.tmp 3) (.tmp 23), none)]
abbrev R76_5 : List SOp := [(some 24, .move (.tmp 0), none),
  (some 25, .move (.tmp 0), none),
  (some 26, .nilCheck (.tmp 25), none),
  (some 27, .fieldAddr 80 (.tmp 26) 0, none),
  (some 28, .load 28 (.tmp 27), none),
  (some 29, .slice 28 (.tmp 28) (some (.const (.int .i64 1))) none none, none),
  (some 30, .nilCheck (.tmp 24), none),
  (some 31, .fieldAddr 80 (.tmp 30) 0, none),
  (none, .store 28 (.tmp 31) (.tmp 29), none)]
abbrev R76_6 : List SOp := [(some 32, .load 53 (.tmp 3), none),
  (none, .store 53 (.tmp 2) (.tmp 32), none)]
abbrev S76 : SCode := .seq (.reg R76_0) (.seq (.reg R76_1) (.seq (.seq (.reg R76_2) (.cond (.tmp 16) (.seq (.reg R76_3) (.ret)) (.skip))) (.seq (.reg R76_4) (.seq (.reg R76_5) (.seq (.reg R76_6) (.ret))))))
theorem slim76 : slimC tab 76 (Tryz.f76.body.getD .skip) = S76 := by kernel_rfl
theorem wf76 {xs : List V} {H : Hp} {Q : V → Hp → Prop} (h : WC tab S76 (frame xs 0 .nil) H (resQ tab [.cell 2 53] Q)) : WF tab 76 xs H Q := WF.of_slim (T := tab) (f := 76) rfl fn76 rfl slim76 rfl h
/-! (*paling/palinglaw06.maker).expr -/
abbrev R77_0 : List SOp := [(some 4, .alloc 46, none)]
abbrev R77_1 : List SOp := [(some 10, .move (.tmp 0), none),
  (some 11, .call ⟨.value (.func 76), #[(.tmp 10)], #[78]⟩, none),
  (some 5, .alloc 53, none),
  (none, .store 53 (.tmp 5) (.tmp 11), none)]
abbrev R77_2 : List SOp := [(some 12, .fieldAddr 53 (.tmp 5) 0, none),
  (some 13, .load 5 (.tmp 12), none),
  (some 14, .binOp .rem 5 (.tmp 13) (.const (.int .u8 18)) 5, none),
  (some 15, .convert 5 44 (.tmp 14), none),
  (some 6, .assign (.tmp 15), none)]
abbrev R77_3 : List SOp := [(some 16, .move (.tmp 1), none),
  (some 17, .binOp .leq 3 (.tmp 16) (.const (.int .i64 0)) 3, none),
  (some 18, .move (.tmp 17), none),
  (some 19, .move (.tmp 0), some (some 18, false)),
  (some 20, .nilCheck (.tmp 19), some (some 18, false)),
  (some 21, .fieldAddr 80 (.tmp 20) 1, some (some 18, false)),
  (some 22, .load 3 (.tmp 21), some (some 18, false)),
  (some 23, .binOp .leq 3 (.tmp 22) (.const (.int .i64 0)) 3, some (some 18, false)),
  (some 24, .pick (.tmp 18) (.const (.bool true)) (.tmp 23), none)]
abbrev R77_4 : List SOp := [(some 25, .move (.tmp 6), none),
  (some 26, .binOp .rem 44 (.tmp 25) (.const (.int .i64 6)) 44, none),
  (some 6, .assign (.tmp 26), none)]
abbrev R77_5 : List SOp := [(some 27, .move (.tmp 6), none),
  (some 28, .build 46 #[(0, (.tmp 27))], none),
  (some 7, .alloc 46, none),
  (none, .store 46 (.tmp 7) (.tmp 28), none)]
abbrev R77_6 : List SOp := [(some 8, .assign (.const (.int .i64 0)), none)]
abbrev R77_7 : List SOp := [(some 29, .move (.tmp 6), none)]
abbrev R77_10 : List SOp := [(some 33, .binOp .eql 44 (.tmp 29) (.const (.int .i64 3)) 44, none),
  (some 32, .assign (.tmp 33), none)]
abbrev R77_11 : List (SOp × Nat) := [((some 34, .fieldAddr 53 (.tmp 5) 2, none), 0),
  ((some 35, .load 51 (.tmp 34), none), 0),
  ((some 36, .convert 51 2 (.tmp 35), none), 0),
  ((some 37, .buildSlice 152 3 #[(0, (.const (.int .i64 1))), (1, (.const (.int .i64 1))), (2, (.const (.int .i64 1099511627776)))], none), 0),
  ((some 38, .fieldAddr 53 (.tmp 5) 1, none), 0),
  ((some 39, .load 5 (.tmp 38), none), 0),
  ((some 40, .binOp .rem 5 (.tmp 39) (.const (.int .u8 3)) 5, none), 0),
  ((some 41, .indexAddr 152 (.tmp 37) (.tmp 40), none), 0),
  ((some 42, .load 2 (.tmp 41), none), 0),
  ((some 43, .binOp .mul 2 (.tmp 36) (.tmp 42) 2, none), 0),
  ((some 44, .fieldAddr 46 (.tmp 7) 1, none), 0),
  ((none, .store 2 (.tmp 44) (.tmp 43), none), 0)]
abbrev R77_12 : List SOp := [(some 46, .binOp .eql 44 (.tmp 29) (.const (.int .i64 4)) 44, none),
  (some 45, .assign (.tmp 46), none)]
abbrev R77_13 : List SOp := [(some 47, .fieldAddr 53 (.tmp 5) 3, none),
  (some 48, .load 5 (.tmp 47), none),
  (some 49, .call ⟨.value (.func 116), #[(.tmp 48)], #[5]⟩, none),
  (some 50, .fieldAddr 46 (.tmp 7) 2, none),
  (none, .store 9 (.tmp 50) (.tmp 49), none)]
abbrev R77_14 : List SOp := [(some 52, .binOp .eql 44 (.tmp 29) (.const (.int .i64 5)) 44, none),
  (some 51, .assign (.tmp 52), none)]
abbrev R77_15 : List SOp := [(some 53, .fieldAddr 53 (.tmp 5) 3, none),
  (some 54, .load 5 (.tmp 53), none),
  (some 55, .call ⟨.value (.func 31), #[(.tmp 54)], #[5]⟩, none),
  (some 56, .fieldAddr 46 (.tmp 7) 2, none),
  (none, .store 9 (.tmp 56) (.tmp 55), none)]
abbrev R77_16 : List SOp := [(some 58, .binOp .eql 44 (.tmp 29) (.const (.int .i64 6)) 44, none),
  (some 57, .assign (.tmp 58), none)]
abbrev R77_17 : List SOp := [(some 59, .binOp .eql 44 (.tmp 29) (.const (.int .i64 7)) 44, none),
  (some 57, .assign (.tmp 59), none)]
abbrev R77_18 : List SOp := [(some 8, .assign (.const (.int .i64 1)), none)]
abbrev R77_19 : List SOp := [(some 61, .binOp .eql 44 (.tmp 29) (.const (.int .i64 15)) 44, none),
  (some 60, .assign (.tmp 61), none)]
abbrev R77_20 : List SOp := [(some 62, .fieldAddr 53 (.tmp 5) 1, none),
  (some 63, .load 5 (.tmp 62), none),
  (some 64, .binOp .rem 5 (.tmp 63) (.const (.int .u8 3)) 5, none),
  (some 65, .convert 5 3 (.tmp 64), none),
  (some 66, .binOp .add 3 (.const (.int .i64 1)) (.tmp 65) 3, none),
  (some 8, .assign (.tmp 66), none)]
abbrev R77_21 : List SOp := [(some 68, .binOp .eql 44 (.tmp 29) (.const (.int .i64 16)) 44, none),
  (some 67, .assign (.tmp 68), none)]
abbrev R77_22 : List SOp := [(some 69, .fieldAddr 53 (.tmp 5) 1, none),
  (some 70, .load 5 (.tmp 69), none),
  (some 71, .binOp .rem 5 (.tmp 70) (.const (.int .u8 3)) 5, none),
  (some 72, .convert 5 3 (.tmp 71), none),
  (some 73, .binOp .mul 3 (.const (.int .i64 2)) (.tmp 72) 3, none),
  (some 8, .assign (.tmp 73), none)]
abbrev R77_23 : List SOp := [(some 75, .binOp .eql 44 (.tmp 29) (.const (.int .i64 17)) 44, none),
  (some 74, .assign (.tmp 75), none)]
abbrev R77_24 : List SOp := [(some 76, .fieldAddr 53 (.tmp 5) 1, none),
  (some 77, .load 5 (.tmp 76), none),
  (some 78, .binOp .rem 5 (.tmp 77) (.const (.int .u8 3)) 5, none),
  (some 79, .move (.const (.int .u8 0)), none)]
abbrev R77_25 : List SOp := [(some 80, .binOp .lss 5 (.tmp 79) (.tmp 78) 5, none)]
abbrev R77_26 : List SOp := [(some 81, .move (.tmp 79), none),
  (some 9, .assign (.tmp 81), none)]
abbrev R77_27 : List (SOp × Nat) := [((some 84, .fieldAddr 53 (.tmp 5) 3, none), 0),
  ((some 85, .load 5 (.tmp 84), none), 0),
  ((some 86, .move (.tmp 9), none), 0),
  ((some 87, .binOp .add 5 (.tmp 85) (.tmp 86) 5, none), 0),
  ((some 88, .call ⟨.value (.func 31), #[(.tmp 87)], #[5]⟩, none), 0),
  ((some 82, .fieldAddr 46 (.tmp 7) 4, none), 1),
  ((some 83, .load 26 (.tmp 82), none), 1),
  ((some 89, .buildSlice 26 1 #[(0, (.tmp 88))], none), 0),
  ((some 90, .call ⟨.builtin .append, #[(.tmp 83), (.tmp 89)], #[26, 26]⟩, none), 0),
  ((some 91, .fieldAddr 46 (.tmp 7) 4, none), 0),
  ((none, .store 26 (.tmp 91) (.tmp 90), none), 0)]
abbrev R77_28 : List SOp := [(some 92, .binOp .add 5 (.tmp 79) (.const (.int .u8 1)) 5, none),
  (some 79, .move (.tmp 92), none)]
def L77_0 : SCode := .seq (.reg R77_25) (.seq (.cond (.tmp 80) (.skip) (.exit 1)) (.seq (.block 2 (.seq (.reg R77_26) (.dreg R77_27))) (.reg R77_28)))
abbrev R77_29 : List SOp := [(some 93, .move (.tmp 0), none),
  (some 94, .move (.tmp 1), none),
  (some 95, .binOp .sub 3 (.tmp 94) (.const (.int .i64 1)) 3, none),
  (some 96, .fieldAddr 53 (.tmp 5) 2, none),
  (some 97, .load 51 (.tmp 96), none),
  (some 98, .binOp .rem 51 (.tmp 97) (.const (.int .u16 3)) 51, none),
  (some 99, .convert 51 3 (.tmp 98), none),
  (some 100, .call ⟨.value (.func 78), #[(.tmp 93), (.tmp 95), (.tmp 99)], #[78, 3, 3]⟩, none),
  (some 101, .fieldAddr 46 (.tmp 7) 5, none),
  (none, .store 31 (.tmp 101) (.tmp 100), none)]
abbrev R77_8 : List SOp := [(some 30, .move (.tmp 6), none),
  (some 31, .binOp .gtr 44 (.tmp 30) (.const (.int .i64 7)) 44, none)]
abbrev R77_9 : List SOp := [(some 8, .assign (.const (.int .i64 2)), none)]
abbrev R77_30 : List SOp := [(some 102, .move (.tmp 8), none),
  (some 103, .move (.const (.int .i64 0)), none)]
abbrev R77_31 : List SOp := [(some 104, .binOp .lss 3 (.tmp 103) (.tmp 102) 3, none)]
abbrev R77_32 : List (SOp × Nat) := [((some 107, .move (.tmp 0), none), 0),
  ((some 108, .move (.tmp 1), none), 0),
  ((some 109, .binOp .sub 3 (.tmp 108) (.const (.int .i64 1)) 3, none), 0),
  ((some 110, .call ⟨.value (.func 77), #[(.tmp 107), (.tmp 109)], #[78, 3]⟩, none), 0),
  ((some 105, .fieldAddr 46 (.tmp 7) 3, none), 1),
  ((some 106, .load 40 (.tmp 105), none), 1),
  ((some 111, .buildSlice 40 1 #[(0, (.tmp 110))], none), 0),
  ((some 112, .call ⟨.builtin .append, #[(.tmp 106), (.tmp 111)], #[40, 40]⟩, none), 0),
  ((some 113, .fieldAddr 46 (.tmp 7) 3, none), 0),
  ((none, .store 40 (.tmp 113) (.tmp 112), none), 0)]
abbrev R77_33 : List SOp := [(some 114, .binOp .add 3 (.tmp 103) (.const (.int .i64 1)) 3, none),
  (some 103, .move (.tmp 114), none)]
def L77_1 : SCode := .seq (.reg R77_31) (.seq (.cond (.tmp 104) (.skip) (.exit 3)) (.seq (.block 4 (.dreg R77_32)) (.reg R77_33)))
abbrev R77_34 : List SOp := [(some 115, .load 46 (.tmp 7), none),
  (none, .store 46 (.tmp 4) (.tmp 115), none)]
abbrev S77 : SCode := .seq (.reg R77_0) (.seq (.reg R77_1) (.seq (.reg R77_2) (.seq (.seq (.reg R77_3) (.cond (.tmp 24) (.reg R77_4) (.skip))) (.seq (.reg R77_5) (.seq (.reg R77_6) (.seq (.seq (.reg R77_7) (.block 0 (.seq (.reg R77_10) (.cond (.tmp 32) (.dreg R77_11) (.seq (.reg R77_12) (.cond (.tmp 45) (.reg R77_13) (.seq (.reg R77_14) (.cond (.tmp 51) (.reg R77_15) (.seq (.seq (.reg R77_16) (.cond (.tmp 57) (.skip) (.reg R77_17))) (.cond (.tmp 57) (.reg R77_18) (.seq (.reg R77_19) (.cond (.tmp 60) (.reg R77_20) (.seq (.reg R77_21) (.cond (.tmp 67) (.reg R77_22) (.seq (.reg R77_23) (.cond (.tmp 74) (.seq (.seq (.reg R77_24) (.block 1 (.loop L77_0))) (.reg R77_29)) (.seq (.reg R77_8) (.cond (.tmp 31) (.reg R77_9) (.skip))))))))))))))))))) (.seq (.seq (.reg R77_30) (.block 3 (.loop L77_1))) (.seq (.reg R77_34) (.ret)))))))))
theorem slim77 : slimC tab 77 (Tryz.f77.body.getD .skip) = S77 := by kernel_rfl
theorem wf77 {xs : List V} {H : Hp} {Q : V → Hp → Prop} (h : WC tab S77 (frame xs 0 .nil) H (resQ tab [.cell 4 46] Q)) : WF tab 77 xs H Q := WF.of_slim (T := tab) (f := 77) rfl fn77 rfl slim77 rfl h
/-! (*paling/palinglaw06.maker).stmt -/
abbrev R47_0 : List SOp := [(some 4, .alloc 42, none)]
abbrev R47_1 : List SOp := [(some 8, .move (.tmp 0), none),
  (some 9, .call ⟨.value (.func 76), #[(.tmp 8)], #[78]⟩, none),
  (some 5, .alloc 53, none),
  (none, .store 53 (.tmp 5) (.tmp 9), none)]
abbrev R47_2 : List SOp := [(some 10, .fieldAddr 53 (.tmp 5) 0, none),
  (some 11, .load 5 (.tmp 10), none),
  (some 12, .binOp .rem 5 (.tmp 11) (.const (.int .u8 9)) 5, none),
  (some 13, .convert 5 39 (.tmp 12), none),
  (some 14, .build 42 #[(0, (.tmp 13))], none),
  (some 6, .alloc 42, none),
  (none, .store 42 (.tmp 6) (.tmp 14), none)]
abbrev R47_3 : List SOp := [(some 15, .move (.tmp 1), none),
  (some 16, .binOp .leq 3 (.tmp 15) (.const (.int .i64 0)) 3, none),
  (some 17, .move (.tmp 16), none),
  (some 18, .fieldAddr 42 (.tmp 6) 0, some (some 17, true)),
  (some 19, .load 39 (.tmp 18), some (some 17, true)),
  (some 20, .binOp .eql 39 (.tmp 19) (.const (.int .i64 3)) 39, some (some 17, true)),
  (some 21, .move (.tmp 20), some (some 17, true)),
  (some 22, .fieldAddr 42 (.tmp 6) 0, some (some 21, false)),
  (some 23, .load 39 (.tmp 22), some (some 21, false)),
  (some 24, .binOp .eql 39 (.tmp 23) (.const (.int .i64 4)) 39, some (some 21, false)),
  (some 25, .pick (.tmp 21) (.const (.bool true)) (.tmp 24), some (some 17, true)),
  (some 26, .move (.tmp 25), some (some 17, true)),
  (some 27, .fieldAddr 42 (.tmp 6) 0, some (some 26, false)),
  (some 28, .load 39 (.tmp 27), some (some 26, false)),
  (some 29, .binOp .eql 39 (.tmp 28) (.const (.int .i64 7)) 39, some (some 26, false)),
  (some 30, .pick (.tmp 26) (.const (.bool true)) (.tmp 29), some (some 17, true)),
  (some 31, .pick (.tmp 17) (.tmp 30) (.const (.bool false)), none)]
abbrev R47_4 : List SOp := [(some 32, .fieldAddr 42 (.tmp 6) 0, none),
  (none, .store 39 (.tmp 32) (.const (.int .i64 8)), none)]
abbrev R47_5 : List SOp := [(some 7, .assign (.const (.int .i64 1)), none)]
abbrev R47_6 : List SOp := [(some 33, .fieldAddr 42 (.tmp 6) 0, none),
  (some 34, .load 39 (.tmp 33), none)]
abbrev R47_7 : List SOp := [(some 36, .binOp .eql 39 (.tmp 34) (.const (.int .i64 0)) 39, none),
  (some 35, .assign (.tmp 36), none)]
abbrev R47_8 : List SOp := [(some 37, .binOp .eql 39 (.tmp 34) (.const (.int .i64 1)) 39, none),
  (some 35, .assign (.tmp 37), none)]
abbrev R47_9 : List SOp := [(some 38, .fieldAddr 53 (.tmp 5) 3, none),
  (some 39, .load 5 (.tmp 38), none),
  (some 40, .call ⟨.value (.func 31), #[(.tmp 39)], #[5]⟩, none),
  (some 41, .fieldAddr 42 (.tmp 6) 1, none),
  (none, .store 9 (.tmp 41) (.tmp 40), none)]
abbrev R47_10 : List SOp := [(some 43, .binOp .eql 39 (.tmp 34) (.const (.int .i64 2)) 39, none),
  (some 42, .assign (.tmp 43), none)]
abbrev R47_11 : List SOp := [(some 7, .assign (.const (.int .i64 3)), none)]
abbrev R47_12 : List SOp := [(some 45, .binOp .eql 39 (.tmp 34) (.const (.int .i64 7)) 39, none),
  (some 44, .assign (.tmp 45), none)]
abbrev R47_13 : List SOp := [(some 46, .fieldAddr 53 (.tmp 5) 3, none),
  (some 47, .load 5 (.tmp 46), none),
  (some 48, .call ⟨.value (.func 31), #[(.tmp 47)], #[5]⟩, none),
  (some 49, .fieldAddr 42 (.tmp 6) 1, none),
  (none, .store 9 (.tmp 49) (.tmp 48), none),
  (some 7, .assign (.const (.int .i64 0)), none)]
abbrev R47_14 : List SOp := [(some 50, .move (.tmp 7), none),
  (some 51, .move (.const (.int .i64 0)), none)]
abbrev R47_15 : List SOp := [(some 52, .binOp .lss 3 (.tmp 51) (.tmp 50) 3, none)]
abbrev R47_16 : List (SOp × Nat) := [((some 55, .move (.tmp 0), none), 0),
  ((some 56, .move (.tmp 1), none), 0),
  ((some 57, .binOp .sub 3 (.tmp 56) (.const (.int .i64 1)) 3, none), 0),
  ((some 58, .call ⟨.value (.func 77), #[(.tmp 55), (.tmp 57)], #[78, 3]⟩, none), 0),
  ((some 53, .fieldAddr 42 (.tmp 6) 2, none), 1),
  ((some 54, .load 40 (.tmp 53), none), 1),
  ((some 59, .buildSlice 40 1 #[(0, (.tmp 58))], none), 0),
  ((some 60, .call ⟨.builtin .append, #[(.tmp 54), (.tmp 59)], #[40, 40]⟩, none), 0),
  ((some 61, .fieldAddr 42 (.tmp 6) 2, none), 0),
  ((none, .store 40 (.tmp 61) (.tmp 60), none), 0)]
abbrev R47_17 : List SOp := [(some 62, .binOp .add 3 (.tmp 51) (.const (.int .i64 1)) 3, none),
  (some 51, .move (.tmp 62), none)]
def L47_0 : SCode := .seq (.reg R47_15) (.seq (.cond (.tmp 52) (.skip) (.exit 1)) (.seq (.block 2 (.dreg R47_16)) (.reg R47_17)))
abbrev R47_18 : List SOp := [(some 63, .fieldAddr 42 (.tmp 6) 0, none),
  (some 64, .load 39 (.tmp 63), none)]
abbrev R47_19 : List SOp := [(some 66, .binOp .eql 39 (.tmp 64) (.const (.int .i64 3)) 39, none),
  (some 65, .assign (.tmp 66), none)]
abbrev R47_20 : List SOp := [(some 67, .binOp .eql 39 (.tmp 64) (.const (.int .i64 7)) 39, none),
  (some 65, .assign (.tmp 67), none)]
abbrev R47_21 : List (SOp × Nat) := [((some 68, .move (.tmp 0), none), 0),
  ((some 69, .move (.tmp 1), none), 0),
  ((some 70, .binOp .sub 3 (.tmp 69) (.const (.int .i64 1)) 3, none), 0),
  ((some 71, .fieldAddr 53 (.tmp 5) 1, none), 0),
  ((some 72, .load 5 (.tmp 71), none), 0),
  ((some 73, .binOp .rem 5 (.tmp 72) (.const (.int .u8 3)) 5, none), 0),
  ((some 74, .convert 5 3 (.tmp 73), none), 0),
  ((some 75, .call ⟨.value (.func 78), #[(.tmp 68), (.tmp 70), (.tmp 74)], #[78, 3, 3]⟩, none), 0),
  ((some 76, .move (.tmp 0), none), 1),
  ((some 77, .move (.tmp 1), none), 1),
  ((some 78, .binOp .sub 3 (.tmp 77) (.const (.int .i64 1)) 3, none), 1),
  ((some 79, .fieldAddr 53 (.tmp 5) 2, none), 1),
  ((some 80, .load 51 (.tmp 79), none), 1),
  ((some 81, .binOp .rem 51 (.tmp 80) (.const (.int .u16 3)) 51, none), 1),
  ((some 82, .convert 51 3 (.tmp 81), none), 1),
  ((some 83, .call ⟨.value (.func 78), #[(.tmp 76), (.tmp 78), (.tmp 82)], #[78, 3, 3]⟩, none), 0),
  ((some 84, .fieldAddr 42 (.tmp 6) 3, none), 1),
  ((none, .store 31 (.tmp 84) (.tmp 75), none), 0),
  ((some 85, .fieldAddr 42 (.tmp 6) 4, none), 0),
  ((none, .store 31 (.tmp 85) (.tmp 83), none), 0)]
abbrev R47_22 : List SOp := [(some 87, .binOp .eql 39 (.tmp 64) (.const (.int .i64 4)) 39, none),
  (some 86, .assign (.tmp 87), none)]
abbrev R47_23 : List SOp := [(some 88, .move (.tmp 0), none),
  (some 89, .move (.tmp 1), none),
  (some 90, .binOp .sub 3 (.tmp 89) (.const (.int .i64 1)) 3, none),
  (some 91, .fieldAddr 53 (.tmp 5) 1, none),
  (some 92, .load 5 (.tmp 91), none),
  (some 93, .binOp .rem 5 (.tmp 92) (.const (.int .u8 3)) 5, none),
  (some 94, .convert 5 3 (.tmp 93), none),
  (some 95, .call ⟨.value (.func 78), #[(.tmp 88), (.tmp 90), (.tmp 94)], #[78, 3, 3]⟩, none),
  (some 96, .fieldAddr 42 (.tmp 6) 3, none),
  (none, .store 31 (.tmp 96) (.tmp 95), none)]
abbrev R47_24 : List SOp := [(some 97, .load 42 (.tmp 6), none),
  (none, .store 42 (.tmp 4) (.tmp 97), none)]
abbrev S47 : SCode := .seq (.reg R47_0) (.seq (.reg R47_1) (.seq (.reg R47_2) (.seq (.seq (.reg R47_3) (.cond (.tmp 31) (.reg R47_4) (.skip))) (.seq (.reg R47_5) (.seq (.seq (.reg R47_6) (.block 0 (.seq (.seq (.reg R47_7) (.cond (.tmp 35) (.skip) (.reg R47_8))) (.cond (.tmp 35) (.reg R47_9) (.seq (.reg R47_10) (.cond (.tmp 42) (.reg R47_11) (.seq (.reg R47_12) (.cond (.tmp 44) (.reg R47_13) (.skip))))))))) (.seq (.seq (.reg R47_14) (.block 1 (.loop L47_0))) (.seq (.seq (.reg R47_18) (.block 3 (.seq (.seq (.reg R47_19) (.cond (.tmp 65) (.skip) (.reg R47_20))) (.cond (.tmp 65) (.dreg R47_21) (.seq (.reg R47_22) (.cond (.tmp 86) (.reg R47_23) (.skip))))))) (.seq (.reg R47_24) (.ret)))))))))
theorem slim47 : slimC tab 47 (Tryz.f47.body.getD .skip) = S47 := by kernel_rfl
theorem wf47 {xs : List V} {H : Hp} {Q : V → Hp → Prop} (h : WC tab S47 (frame xs 0 .nil) H (resQ tab [.cell 4 42] Q)) : WF tab 47 xs H Q := WF.of_slim (T := tab) (f := 47) rfl fn47 rfl slim47 rfl h
/-! (*paling/palinglaw06.maker).stmts -/
abbrev R78_0 : List SOp := [(some 6, .assign (.const (.slice none 0 0)), none)]
abbrev R78_1 : List SOp := [(some 7, .assign (.const (.slice none 0 0)), none)]
abbrev R78_2 : List SOp := [(some 8, .move (.tmp 2), none),
  (some 9, .move (.const (.int .i64 0)), none)]
abbrev R78_3 : List SOp := [(some 10, .binOp .lss 3 (.tmp 9) (.tmp 8) 3, none)]
abbrev R78_4 : List SOp := [(some 11, .move (.tmp 0), none),
  (some 12, .nilCheck (.tmp 11), none),
  (some 13, .fieldAddr 80 (.tmp 12) 1, none),
  (some 14, .load 3 (.tmp 13), none),
  (some 15, .binOp .leq 3 (.tmp 14) (.const (.int .i64 0)) 3, none)]
abbrev R78_5 : List SOp := [(some 16, .move (.tmp 7), none),
  (some 17, .move (.tmp 0), none),
  (some 18, .move (.tmp 1), none),
  (some 19, .call ⟨.value (.func 47), #[(.tmp 17), (.tmp 18)], #[78, 3]⟩, none),
  (some 20, .buildSlice 31 1 #[(0, (.tmp 19))], none),
  (some 21, .call ⟨.builtin .append, #[(.tmp 16), (.tmp 20)], #[31, 31]⟩, none),
  (some 7, .assign (.tmp 21), none)]
abbrev R78_6 : List SOp := [(some 22, .binOp .add 3 (.tmp 9) (.const (.int .i64 1)) 3, none),
  (some 9, .move (.tmp 22), none)]
def L78_0 : SCode := .seq (.reg R78_3) (.seq (.cond (.tmp 10) (.skip) (.exit 0)) (.seq (.block 1 (.seq (.seq (.reg R78_4) (.cond (.tmp 15) (.exit 0) (.skip))) (.reg R78_5))) (.reg R78_6)))
abbrev R78_7 : List SOp := [(some 23, .move (.tmp 7), none),
  (some 6, .assign (.tmp 23), none)]
abbrev S78 : SCode := .seq (.reg R78_0) (.seq (.reg R78_1) (.seq (.seq (.reg R78_2) (.block 0 (.loop L78_0))) (.seq (.reg R78_7) (.ret))))
theorem slim78 : slimC tab 78 (Tryz.f78.body.getD .skip) = S78 := by kernel_rfl
theorem wf78 {xs : List V} {H : Hp} {Q : V → Hp → Prop} (h : WC tab S78 (frame xs 0 .nil) H (resQ tab [.tmp 6] Q)) : WF tab 78 xs H Q := WF.of_slim (T := tab) (f := 78) rfl fn78 rfl slim78 rfl h
/-! paling/palinglaw06.Make -/
abbrev R20_0 : List SOp := [(some 2, .assign (.const (.slice none 0 0)), none)]
abbrev R20_1 : List SOp := [(some 5, .move (.tmp 0), none),
  (some 6, .move (.tmp 0), none),
  (some 7, .call ⟨.builtin .len, #[(.tmp 6)], #[28]⟩, none),
  (some 8, .binOp .mul 3 (.const (.int .i64 2)) (.tmp 7) 3, none),
  (some 9, .binOp .add 3 (.tmp 8) (.const (.int .i64 2)) 3, none),
  (some 10, .call ⟨.builtin .min, #[(.tmp 9), (.const (.int .i64 120))], #[3, 3]⟩, none),
  (some 11, .build 80 #[(0, (.tmp 5)), (1, (.tmp 10))], none),
  (some 12, .box 80 (.tmp 11), none),
  (some 3, .assign (.tmp 12), none)]
abbrev R20_2 : List SOp := [(some 4, .assign (.const (.slice none 0 0)), none)]
abbrev R20_3 : List SOp := [(some 13, .move (.tmp 3), none),
  (some 14, .nilCheck (.tmp 13), none),
  (some 15, .fieldAddr 80 (.tmp 14) 0, none),
  (some 16, .load 28 (.tmp 15), none),
  (some 17, .call ⟨.builtin .len, #[(.tmp 16)], #[28]⟩, none),
  (some 18, .binOp .gtr 3 (.tmp 17) (.const (.int .i64 0)) 3, none),
  (some 19, .move (.tmp 18), none),
  (some 20, .move (.tmp 3), some (some 19, true)),
  (some 21, .nilCheck (.tmp 20), some (some 19, true)),
  (some 22, .fieldAddr 80 (.tmp 21) 1, some (some 19, true)),
  (some 23, .load 3 (.tmp 22), some (some 19, true)),
  (some 24, .binOp .gtr 3 (.tmp 23) (.const (.int .i64 0)) 3, some (some 19, true)),
  (some 25, .pick (.tmp 19) (.tmp 24) (.const (.bool false)), none)]
abbrev R20_4 : List SOp := [(some 26, .move (.tmp 4), none),
  (some 27, .move (.tmp 3), none),
  (some 28, .call ⟨.value (.func 47), #[(.tmp 27), (.const (.int .i64 3))], #[78, 3]⟩, none),
  (some 29, .buildSlice 31 1 #[(0, (.tmp 28))], none),
  (some 30, .call ⟨.builtin .append, #[(.tmp 26), (.tmp 29)], #[31, 31]⟩, none),
  (some 4, .assign (.tmp 30), none)]
def L20_0 : SCode := .seq (.seq (.reg R20_3) (.cond (.tmp 25) (.skip) (.exit 0))) (.block 1 (.reg R20_4))
abbrev R20_5 : List SOp := [(some 31, .move (.tmp 4), none),
  (some 2, .assign (.tmp 31), none)]
abbrev S20 : SCode := .seq (.reg R20_0) (.seq (.reg R20_1) (.seq (.reg R20_2) (.seq (.block 0 (.loop L20_0)) (.seq (.reg R20_5) (.ret)))))
theorem slim20 : slimC tab 20 (Tryz.f20.body.getD .skip) = S20 := by kernel_rfl
theorem wf20 {xs : List V} {H : Hp} {Q : V → Hp → Prop} (h : WC tab S20 (frame xs 0 .nil) H (resQ tab [.tmp 2] Q)) : WF tab 20 xs H Q := WF.of_slim (T := tab) (f := 20) rfl fn20 rfl slim20 rfl h
/-! paling/palinglaw06.Name -/
abbrev R31_0 : List SOp := [(some 2, .assign (.const (.string ⟨#[]⟩)), none)]
abbrev R31_1 : List SOp := [(some 3, .buildSlice 26 8 #[(0, (.const (.string ⟨#[0x61]⟩))), (1, (.const (.string ⟨#[0x62]⟩))), (2, (.const (.string ⟨#[0x63]⟩))), (3, (.const (.string ⟨#[0x64]⟩))), (4, (.const (.string ⟨#[0x66]⟩))), (5, (.const (.string ⟨#[0x6c, 0x65, 0x6e]⟩))), (6, (.const (.string ⟨#[0x78, 0x31]⟩))), (7, (.const (.string ⟨#[0x5f, 0x79]⟩)))], none),
  (some 4, .move (.tmp 0), none),
  (some 5, .binOp .rem 5 (.tmp 4) (.const (.int .u8 8)) 5, none),
  (some 6, .indexAddr 26 (.tmp 3) (.tmp 5), none),
  (some 7, .load 9 (.tmp 6), none),
  (some 2, .assign (.tmp 7), none)]
abbrev S31 : SCode := .seq (.reg R31_0) (.seq (.reg R31_1) (.ret))
theorem slim31 : slimC tab 31 (Tryz.f31.body.getD .skip) = S31 := by kernel_rfl
theorem wf31 {xs : List V} {H : Hp} {Q : V → Hp → Prop} (h : WC tab S31 (frame xs 0 .nil) H (resQ tab [.tmp 2] Q)) : WF tab 31 xs H Q := WF.of_slim (T := tab) (f := 31) rfl fn31 rfl slim31 rfl h
/-! paling/palinglaw06.Text -/
abbrev R116_0 : List SOp := [(some 2, .assign (.const (.string ⟨#[]⟩)), none)]
abbrev R116_1 : List SOp := [(some 3, .buildSlice 26 6 #[(0, (.const (.string ⟨#[]⟩))), (1, (.const (.string ⟨#[0x6b]⟩))), (2, (.const (.string ⟨#[0x61]⟩))), (3, (.const (.string ⟨#[0x73, 0x65, 0x61, 0x6c]⟩))), (4, (.const (.string ⟨#[0x74, 0x77, 0x6f, 0x20, 0x77, 0x6f, 0x72, 0x64, 0x73]⟩))), (5, (.const (.string ⟨#[0x71, 0x22, 0x5c, 0x0a, 0x7a]⟩)))], none),
  (some 4, .move (.tmp 0), none),
  (some 5, .binOp .rem 5 (.tmp 4) (.const (.int .u8 6)) 5, none),
  (some 6, .indexAddr 26 (.tmp 3) (.tmp 5), none),
  (some 7, .load 9 (.tmp 6), none),
  (some 2, .assign (.tmp 7), none)]
abbrev S116 : SCode := .seq (.reg R116_0) (.seq (.reg R116_1) (.ret))
theorem slim116 : slimC tab 116 (Tryz.f116.body.getD .skip) = S116 := by kernel_rfl
theorem wf116 {xs : List V} {H : Hp} {Q : V → Hp → Prop} (h : WC tab S116 (frame xs 0 .nil) H (resQ tab [.tmp 2] Q)) : WF tab 116 xs H Q := WF.of_slim (T := tab) (f := 116) rfl fn116 rfl slim116 rfl h
end Go.AM.YtlcadokmhfjacaaGreatDoorT
/- What simp opens in the walks of this seat: printed by genset.py. -/
namespace Go.AM.YtlcadokmhfjacaaGreatDoorT
open Go Go.AM
end Go.AM.YtlcadokmhfjacaaGreatDoorT
/- The maker of trees, walked. -/
set_option linter.unusedVariables false
set_option linter.unusedSimpArgs false
set_option maxRecDepth 100000
namespace Go.AM.YtlcadokmhfjacaaGreatDoorT
open Go Go.AM Go.Proofs
theorem wr_z {n : Int} (h : -9223372036854775808 ≤ n) (h' : n ≤ 9223372036854775807) : wr .i64 n = n := by
  by_cases h0 : 0 ≤ n
  · exact wr_i64 h0 (by omega)
  · obtain ⟨m, rfl⟩ := Int.eq_negSucc_of_lt_zero (show n < 0 by omega)
    show IntKind.i64.wrap (Int.negSucc m) = _
    rw [IntKind.wrap_i64]; omega
/-- The small numbers that are left. -/
def XsIn (H : Hp) (v : V) (l : List X4) : Prop :=
  (v = .nils ∨ v = .sle) ∧ l = [] ∨ ∃ b off e ro cells, v = .sl b off l.length none 4 ∧ b < H.next ∧ H.get b = some (.row e 4 ro cells) ∧ off % 4 = 0 ∧ (cells.drop off).take (l.length * 4) = l.flatMap X4.cs ∧ off + l.length * 4 ≤ cells.length
structure MkAt (H : Hp) (mr : Nat) (m : MS) : Prop where
  row : ∃ v, H.get mr = some (.row 80 2 false [v, .int .i64 m.left]) ∧ XsIn H v m.l ∧ ∀ b ∈ rowsOf v, b < mr
  lt : mr < H.next
theorem XsIn.of_get {H H' : Hp} {v : V} {l : List X4} (h : XsIn H v l) (hle : H.next ≤ H'.next) (hg : ∀ b e ro cs, b < H.next → H.get b = some (.row e 4 ro cs) → H'.get b = H.get b) : XsIn H' v l := by
  rcases h with h | ⟨b, off, e, ro, cells, h1, h2, h3, h4⟩
  · exact .inl h
  · exact .inr ⟨b, off, e, ro, cells, h1, Nat.lt_of_lt_of_le h2 hle, by rw [hg b e ro cells h2 h3]; exact h3, h4⟩
theorem XsIn.len {H : Hp} {v : V} {l : List X4} (h : XsIn H v l) (e : TypeId) : lenV v (some (.slice e)) = some (.int .i64 l.length) := by
  rcases h with ⟨rfl | rfl, rfl⟩ | ⟨b, off, e, ro, cells, rfl, _⟩ <;> rfl
theorem XsIn.one {H : Hp} {v : V} {l : List X4} (h : XsIn H v l) : oneV v = true ∧ cellsV v = [v] ∧ eqV v v = true := by
  rcases h with ⟨rfl | rfl, rfl⟩ | ⟨b, off, e, ro, cells, rfl, _⟩ <;> simp [one_nils, one_sle, one_sl, cells_nils, cells_sle, cells_sl, eqV]
theorem XsIn.old {H : Hp} {v : V} {l : List X4} (h : XsIn H v l) : ∀ b ∈ rowsOf v, b < H.next := fun b hb => by
  rcases h with ⟨rfl | rfl, _⟩ | ⟨c, off, e, ro, cells, rfl, h2, _⟩
  · simp [rowsOf] at hb
  · simp [rowsOf] at hb
  · simp [rowsOf] at hb; subst hb; exact h2
theorem MkAt.ext {H H' : Hp} {mr : Nat} {m : MS} {X : Nat → Prop} (h : MkAt H mr m) (hE : Ext X H H') (hx : ∀ b, b < H.next → ¬ X b) : MkAt H' mr m := by
  obtain ⟨⟨v, h1, h2, h4⟩, h3⟩ := h
  exact ⟨⟨v, by rw [hE.get mr h3 (hx mr h3)]; exact h1, h2.of_get hE.le fun b e ro cs hb _ => hE.get b hb (hx b hb), h4⟩, Nat.lt_of_lt_of_le h3 hE.le⟩
theorem MkAt.bump {H : Hp} {mr : Nat} {m : MS} (h : MkAt H mr m) : MkAt H.bump mr m := by
  obtain ⟨⟨v, h1, h2, h4⟩, h3⟩ := h
  exact ⟨⟨v, h1, h2.of_get (Nat.le_succ _) fun _ _ _ _ _ _ => rfl, h4⟩, Nat.lt_succ_of_lt h3⟩
theorem next_ok {H : Hp} {mr : Nat} {m : MS} (hs : H.stale = []) (hM : MkAt H mr m) (hl : -1000000000000 ≤ m.left ∧ m.left ≤ 1000) : WF tab 76 [.ptr mr 0] H fun v H' => v = .agg (nextX m).cs ∧ MkAt H' mr (nextM m) ∧ Ext (fun b => b = mr) H H' := by
  refine wf76 (wp_sound _ ?_)
  obtain ⟨⟨v, h1, h2, hold⟩, h3⟩ := hM
  have hne : ¬ mr = H.next := by omega
  have hw : wr .i64 (m.left - 1) = m.left - 1 := wr_z (by omega) (by omega)
  have h4 := h2.len 53
  obtain ⟨h5, h6, _⟩ := h2.one
  simp [hs, h1, get_new_ne, get_put_ne, hne, hw, h4]
  have eN : ∀ o o' : Ob, Ext (fun b => b = mr) H ((H.new o).put mr o') := fun o o' => (Ext.new hs o).trans (Ext.put (H := H.new o) hs o' rfl)
  have gr : ∀ o o' : Ob, ((H.new o).put mr o').get H.next = some o := fun o o' => by rw [get_put_ne _ (by omega)]; exact get_new_self _ _
  have gm : ∀ o o' : Ob, ((H.new o).put mr o').get mr = some o' := fun o o' => get_put_self _ _ _
  rcases h2 with ⟨hv, hn⟩ | ⟨b, off, e, ro, cells, rfl, g1, g2, g3, g4, g5⟩
  · have e0 : ((m.l.length : Int) == 0) = true := by rw [hn]; rfl
    simp [hs, e0, gr, gm]
    have hx : (nextX m).cs = [.int .u8 0, .int .u8 0, .int .u16 0, .int .u8 0] := by simp [nextX, hn, X4.cs]
    rw [hx]
    refine ⟨rfl, ⟨⟨v, ?_, .inl ⟨hv, by simp [nextM, hn]⟩, hold⟩, ?_⟩, ?_⟩
    · rw [get_put_ne _ (by omega)]; exact gm _ _
    · show mr < H.next + 1; omega
    · exact (eN _ _).putge _ (Nat.le_refl _)
  · obtain ⟨x, r, hxr⟩ | hnil : (∃ x r, m.l = x :: r) ∨ m.l = [] := by cases m.l with | nil => exact .inr rfl | cons x r => exact .inl ⟨x, r, rfl⟩
    · have e0 : ((m.l.length : Int) == 0) = false := beq_false_of_ne (by rw [hxr]; simp; omega)
      have hpos : 0 < m.l.length := by rw [hxr]; simp
      have hbm : b ≠ mr := fun e => by subst e; rw [h1] at g2; cases g2
      have gb : ∀ o o' : Ob, ((H.new o).put mr o').get b = some (.row e 4 ro cells) := fun o o' => by rw [get_put_ne _ hbm, get_new_ne _ (by omega)]; exact g2
      have hbn : ¬ b = H.next := by omega
      have h4c : (cells.drop off).take 4 = x.cs := by
        have := congrArg (List.take 4) g4
        rw [List.take_take, hxr, List.flatMap_cons, show min 4 ((x :: r).length * 4) = 4 by simp; omega, List.take_append_of_le_length (by simp [X4.cs])] at this
        rw [this]; simp [X4.cs]
      have hoff : off + 4 ≤ cells.length := by rw [hxr] at g5; simp at g5; omega
      have hlt : (0 : Int) < m.l.length := by omega
      have hx : (nextX m).cs = x.cs := by simp [nextX, hxr]
      have hcs : x.cs = [.int .u8 x.d, .int .u8 x.a, .int .u16 x.n, .int .u8 x.s] := rfl
      have o1 := old_ne h3
      have o2 := old_ne g1
      have o3 := two_ne hbm
      obtain ⟨v', hsv, hv', hold'⟩ : ∃ v', sliceV tab 28 (.sl b off m.l.length none 4) (some 1) none none = some v' ∧ XsIn H v' r ∧ ∀ c ∈ rowsOf v', c < mr := by
        by_cases h1r : r = []
        · refine ⟨.sle, ?_, .inl ⟨.inr rfl, h1r⟩, fun c hc => by simp [rowsOf] at hc⟩
          have : m.l.length = 1 := by rw [hxr, h1r]; rfl
          simp [sliceV, descOf, this]
        · have hrl : 0 < r.length := List.length_pos_iff.2 h1r
          have hml : m.l.length = r.length + 1 := by rw [hxr]; rfl
          have hd : (cells.drop (off + 4)).take (r.length * 4) = r.flatMap X4.cs := by
            have := congrArg (List.drop 4) g4
            rw [List.drop_take, List.drop_drop, hxr, List.flatMap_cons, List.drop_append_of_le_length (by simp [X4.cs]), show (x :: r).length * 4 - 4 = r.length * 4 by simp; omega] at this
            rw [this]; simp [X4.cs]
          refine ⟨.sl b (off + 4) r.length none 4, ?_, .inr ⟨b, off + 4, e, ro, cells, rfl, g1, g2, by omega, hd, by omega⟩, fun c hc => hold c (by simpa [rowsOf] using hc)⟩
          have c1 : ¬ ((m.l.length : Int) < 1) := by omega
          have c2 : (1 : Int) < (m.l.length : Int) := by omega
          simp [sliceV, descOf, hml]
          omega
      obtain ⟨w1, w2, _⟩ := hv'.one
      simp [hs, e0, Hp.get_new, Hp.get_put, o1, o2, o3, h1, g2, hpos, hlt, h4c, hoff, hcs, hsv, w1, w2]
      refine ⟨by rw [hx, hcs], ⟨⟨v', ?_, ?_, hold'⟩, ?_⟩, ?_⟩
      · simp [Hp.get_put, o1, nextM]
      · have hr : (nextM m).l = r := by simp [nextM, hxr]
        rw [hr]
        refine hv'.of_get (by show H.next ≤ H.next + 1 + 1; omega) fun c e ro cs h1' h2' => ?_
        have hcm : c ≠ mr := fun e => by subst e; rw [h1] at h2'; cases h2'
        simp [Hp.get_put, Hp.get_new, old_ne h1', two_ne hcm]
      · show mr < H.next + 1 + 1; omega
      · exact ((((((Ext.new (X := fun b => b = mr) hs _).putX (b := mr) _ (.inl rfl)).newge _).putX (b := H.next + 1) _ (.inr (by omega))).putX (b := mr) _ (.inl rfl)).putX (b := H.next) _ (.inr (by omega)))
    · have e0 : ((m.l.length : Int) == 0) = true := by rw [hnil]; rfl
      simp [hs, e0, gr, gm]
      have hx : (nextX m).cs = [.int .u8 0, .int .u8 0, .int .u16 0, .int .u8 0] := by simp [nextX, hnil, X4.cs]
      rw [hx]
      refine ⟨rfl, ⟨⟨_, by rw [get_put_ne _ (by omega)]; exact gm _ _, ?_, hold⟩, ?_⟩, ?_⟩
      · refine .inr ⟨b, off, e, ro, cells, by simp [nextM, hnil], by show b < H.next + 1; omega, ?_, g3, by simp [nextM, hnil], by simp [nextM, hnil]; rw [hnil] at g5; simp at g5; exact g5⟩
        have hbm : b ≠ mr := fun e => by subst e; rw [h1] at g2; cases g2
        simp [Hp.get_put, Hp.get_new, old_ne g1, two_ne hbm, g2]
      · show mr < H.next + 1; omega
      · exact (eN _ _).putge _ (Nat.le_refl _)
theorem nameL_at : ∀ k : Nat, k < 8 → ([.str [97], .str [98], .str [99], .str [100], .str [102], .str [108, 101, 110], .str [120, 49], .str [95, 121]] : List V)[k]? = some (.str ((nameL[k]?).getD [])) := by
  intro k hk
  match k, hk with
  | 0, _ | 1, _ | 2, _ | 3, _ | 4, _ | 5, _ | 6, _ | 7, _ => rfl
theorem textL_at : ∀ k : Nat, k < 6 → ([.str [], .str [107], .str [97], .str [115, 101, 97, 108], .str [116, 119, 111, 32, 119, 111, 114, 100, 115], .str [113, 34, 92, 10, 122]] : List V)[k]? = some (.str ((textL[k]?).getD [])) := by
  intro k hk
  match k, hk with
  | 0, _ | 1, _ | 2, _ | 3, _ | 4, _ | 5, _ => rfl
theorem Name_ok {H : Hp} (hs : H.stale = []) (n : Nat) : WF tab 31 [.int .u8 n] H fun v H' => v = .str (nameT n) ∧ Ext noX H H' := by
  refine wf31 (wp_sound _ ?_)
  have ht : (n : Int).tmod 8 = ((n % 8 : Nat) : Int) := by rw [Int.tmod_eq_emod_of_nonneg (by omega)]; omega
  have hk : n % 8 < 8 := Nat.mod_lt _ (by omega)
  have ha := nameL_at _ hk
  have hlt : ((n % 8 : Nat) : Int) < 8 := by omega
  have e0 : ∀ o, Ext noX H (H.new o) := fun o => Ext.new hs o
  unfold nameT
  generalize n % 8 = k at *
  simp [hs, ht, hlt, ha]
  exact e0 _
theorem Text_ok {H : Hp} (hs : H.stale = []) (n : Nat) : WF tab 116 [.int .u8 n] H fun v H' => v = .str (textT n) ∧ Ext noX H H' := by
  refine wf116 (wp_sound _ ?_)
  have ht : (n : Int).tmod 6 = ((n % 6 : Nat) : Int) := by rw [Int.tmod_eq_emod_of_nonneg (by omega)]; omega
  have hk : n % 6 < 6 := Nat.mod_lt _ (by omega)
  have ha := textL_at _ hk
  have hlt : ((n % 6 : Nat) : Int) < 6 := by omega
  have e0 : ∀ o, Ext noX H (H.new o) := fun o => Ext.new hs o
  unfold textT
  generalize n % 6 = k at *
  simp [hs, ht, hlt, ha]
  exact e0 _
theorem MkAt.of_keep {H H' : Hp} {mr : Nat} {m : MS} (h : MkAt H mr m) (hle : H.next ≤ H'.next) (hm : H'.get mr = H.get mr) (hx : ∀ b e ro cs, b < H.next → b < mr → H.get b = some (.row e 4 ro cs) → H'.get b = H.get b) : MkAt H' mr m := by
  obtain ⟨⟨v, h1, h2, h4⟩, h3⟩ := h
  refine ⟨⟨v, by rw [hm]; exact h1, ?_, h4⟩, Nat.lt_of_lt_of_le h3 hle⟩
  rcases h2 with g | ⟨b, off, e, ro, cells, rfl, g2, g3, g4⟩
  · exact .inl g
  · exact .inr ⟨b, off, e, ro, cells, rfl, Nat.lt_of_lt_of_le g2 hle, by rw [hx b e ro cells g2 (h4 b (by simp [rowsOf])) g3]; exact g3, g4⟩
end Go.AM.YtlcadokmhfjacaaGreatDoorT
/- The maker of trees: expressions. -/
set_option linter.unusedVariables false
set_option linter.unusedSimpArgs false
set_option maxRecDepth 100000
namespace Go.AM.YtlcadokmhfjacaaGreatDoorT
open Go Go.AM Go.Proofs
/-- What the maker's functions come to. -/
def ExprOk (f : Nat) : Prop := ∀ (deep : Int) (m : MS) (H : Hp) (mr : Nat), 2 * max deep 0 + 1 ≤ (f : Int) → (f : Int) - 100000 ≤ deep → deep ≤ 100 → H.stale = [] → MkAt H mr m → (∀ x ∈ m.l, x.ok) → -1000000000 + ((8 ^ f : Nat) : Int) ≤ m.left → m.left ≤ 1000 →
  WF tab 77 [.ptr mr 0, .int .i64 deep] H fun v H' => ∃ cs, v = .agg cs ∧ MkAt H' mr (exprP f deep m).2 ∧ ExpAt (since H H') H' (exprP f deep m).1 cs ∧ Ext (eqR mr) H H'
def StmtOk (f : Nat) : Prop := ∀ (deep : Int) (m : MS) (H : Hp) (mr : Nat), 2 * max deep 0 + 2 ≤ (f : Int) → (f : Int) - 100000 ≤ deep → deep ≤ 100 → H.stale = [] → MkAt H mr m → (∀ x ∈ m.l, x.ok) → -1000000000 + ((8 ^ f : Nat) : Int) ≤ m.left → m.left ≤ 1000 →
  WF tab 47 [.ptr mr 0, .int .i64 deep] H fun v H' => ∃ cs, v = .agg cs ∧ MkAt H' mr (stmtP f deep m).2 ∧ ExpAt (since H H') H' (stmtP f deep m).1 cs ∧ Ext (eqR mr) H H'
/-- The row of an expression that is being made. -/
abbrev exR (c0 c1 c2 v c4 c5 : V) : Ob := .row 46 6 false [c0, c1, c2, v, c4, c5]
structure I64 (c : Nat) (g : MS → Tx × MS) (K : Nat) (m0 : MS) (H0 : Hp) (mr re r0 : Nat) (deep : Int) (c0 c1 c2 c4 c5 : V) (pq : List (List UInt8)) (pb : List Tx) (i : Nat) (ts : List Tx) (mi : MS) (v : V) (F : Fr) (H : Hp) : Prop where
  len : ts.length = i
  le : i ≤ K
  many : manyP g K m0 = (ts ++ (manyP g (K - i) mi).1, (manyP g (K - i) mi).2)
  mka : MkAt H mr mi
  dec : Dec (c * i) m0 mi
  row : H.get re = some (exR c0 c1 c2 v c4 c5)
  re0 : H0.next ≤ re
  re1 : re < H.next
  mr0 : mr < H0.next
  gro : Gro H0 H (twoR re r0) 46 v ts
  sq : StrsAt (Kv H0 (twoR re r0) v) H pq c4
  sb : TreesAt (Kv H0 (twoR re r0) v) H pb c5
  ext : Ext (eqR mr) H0 H
  f0 : F.get 0 = some (.ptr mr 0)
  f1 : F.get 1 = some (.int .i64 deep)
  f4 : F.get 4 = some (.ptr r0 0)
  f7 : F.get 7 = some (.ptr re 0)
  f102 : F.get 102 = some (.int .i64 K)
  f103 : F.get 103 = some (.int .i64 i)
  r00 : H0.next ≤ r0
  r01 : r0 < re
  r0r : ∃ cs, H.get r0 = some (.row 46 6 false cs) ∧ cs.length = 6
theorem parts_loop {f : Nat} (hE : ExprOk f) {deep : Int} {K : Nat} (hd : 0 < K → 2 * max (deep - 1) 0 + 1 ≤ (f : Int)) (hd1 : (f : Int) + 1 - 100000 ≤ deep) (hd2 : deep ≤ 100) (hK : K ≤ 4) {m0 : MS} {H0 : Hp} {mr re r0 : Nat} {c0 c1 c2 c4 c5 : V} {pq : List (List UInt8)} {pb : List Tx} {F : Fr} {H : Hp} {Q : PC} {v : V} (hok : ∀ x ∈ m0.l, x.ok) (hlo : -1000000000 + ((8 ^ f : Nat) : Int) * 4 ≤ m0.left) (hup : m0.left ≤ 1000)
    (h0 : I64 (8 ^ f) (exprP f (deep - 1)) K m0 H0 mr re r0 deep c0 c1 c2 c4 c5 pq pb 0 [] m0 v F H)
    (hQ : ∀ ts mi v F' H', I64 (8 ^ f) (exprP f (deep - 1)) K m0 H0 mr re r0 deep c0 c1 c2 c4 c5 pq pb K ts mi v F' H' → Q (.exit 3) F' H') : WC tab (.loop L77_1) F H Q := by
  refine loop_of (fun k F H => ∃ i ts mi v, i + k = K ∧ I64 (8 ^ f) (exprP f (deep - 1)) K m0 H0 mr re r0 deep c0 c1 c2 c4 c5 pq pb i ts mi v F H) (m := K) ⟨0, [], m0, v, by omega, h0⟩ ?_
  rintro k F H ⟨i, ts, mi, v, hi, I⟩
  have hst := I.gro.st
  have f0 := I.f0; have f1 := I.f1; have f4 := I.f4; have f7 := I.f7; have f102 := I.f102; have f103 := I.f103
  by_cases hlt : i < K
  · have hlt' : (i : Int) < (K : Int) := by omega
    have hw := wr_succ (show i < 1000000000 by omega)
    have hwd : wr .i64 (deep - 1) = deep - 1 := wr_z (by omega) (by omega)
    have hdec := I.dec
    have hmul : 8 ^ f * i ≤ 8 ^ f * 3 := Nat.mul_le_mul_left _ (by omega)
    have q2 : -1000000000 + ((8 ^ f : Nat) : Int) ≤ mi.left := by have := hdec.lo; omega
    have q3 : mi.left ≤ 1000 := Int.le_trans hdec.up hup
    simp [L77_1, f0, f1, f4, f7, f102, f103, hlt, hlt', hst, hwd]
    refine (hE (deep - 1) mi H mr (hd (by omega)) (by omega) (by omega) hst I.mka (fun x hx => hok x (hdec.sub x hx)) q2 q3).mono ?_
    rintro w H2 ⟨cs, rfl, hM2, hT2, hX2⟩
    obtain ⟨d0, d1, d2, d3, d4, d5, rfl, n0, n1, n2, n3, n4, n5⟩ := hT2.six
    have s2 := hX2.st
    have l2 := hX2.le
    have hrl := I.re1; have hr0 := I.re0; have hm0 := I.mr0; have h00 := I.r00; have h01 := I.r01
    have hmre : ¬ re = mr := by omega
    have g2 : H2.get re = some (exR c0 c1 c2 v c4 c5) := by rw [hX2.get re hrl (fun h => hmre h)]; exact I.row
    obtain ⟨l, hsl, hel⟩ := I.gro.sl
    have hev := hsl.eqv
    have hrows := I.gro.rows
    have hsl2 : SlAt H2.bump 46 6 v ts.length l := hsl.of_get fun b hb => by
      have := hrows b hb
      show H2.get b = H.get b
      exact hX2.get b this.2.1 (fun h => by have : b = mr := h; omega)
    have hgr := I.row
    simp [s2, f7, g2, hgr, hev, hst, n0, n1, n2, n3, n4, n5]
    have hlen := I.len
    have hle := I.le
    refine wpD_app1 (H := H2.bump) (e0 := 46) (cells := [d0, d1, d2, d3, d4, d5]) (by simp [descOf]) ty46 (by decide) (by simp [f7]) (by simp) hsl2 (fun b hb => ⟨by have := (hrows b hb).2.1; show b < H2.next + 1; omega, by simp [s2]⟩) rfl (by show (ts.length + 1) * 104 ≤ _; omega) (by omega) (by simp [s2]) fun v' H3 hS hA => ?_
    obtain ⟨kre1, kre2⟩ := hA.keep re (by show re < H2.next + 1; omega) (fun h => (hrows re h).2.2 (.inl rfl)) (by simp [s2])
    have kre3 : H3.get re = some (exR c0 c1 c2 v c4 c5) := kre1.trans g2
    have hc' := hS.cells
    have ho' := hS.one
    simp [f7, kre2, kre3, hc', ho', f103, hw]
    have hnx := hA.le
    have hbn : H2.bump.next = H2.next + 1 := rfl
    rw [hbn] at hnx
    have hg4 : ∀ b, ¬ twoR re r0 b → ((H3.bump.flush.put re (exR c0 c1 c2 v' c4 c5)).bump).get b = H3.flush.get b := fun b hb => by
      have : b ≠ re := fun h => hb (.inl h)
      simp [Hp.get_put, two_ne this]
    have hs4 : ((H3.bump.flush.put re (exR c0 c1 c2 v' c4 c5)).bump).stale = [] := by simp
    have hn4 : H3.next ≤ ((H3.bump.flush.put re (exR c0 c1 c2 v' c4 c5)).bump).next := by simp; omega
    have hgre : ((H3.bump.flush.put re (exR c0 c1 c2 v' c4 c5)).bump).get re = some (exR c0 c1 c2 v' c4 c5) := by simp
    obtain ⟨G4, keep, st1⟩ := I.gro.step (H4 := (H3.bump.flush.put re (exR c0 c1 c2 v' c4 c5)).bump) (X := eqR mr) hsl hel (fun b hb => by rcases hb with h | h <;> omega) hX2 (fun b hb _ h => by have : b = mr := h; omega) hT2 hS (.inr rfl) hA hs4 hn4 hg4
    have hvn : ∀ b, b < H0.next → b ∉ rowsOf v := fun b hb h => by have := (hrows b h).1; omega
    have hX4 : Ext (eqR mr) H0 ((H3.bump.flush.put re (exR c0 c1 c2 v' c4 c5)).bump) := ⟨hs4, G4.le, fun b hb hx => by
      have hl0 := I.gro.le
      rw [keep b (by omega) (fun h => by rcases h with h | h <;> omega) (hvn b hb), hX2.get b (by omega) hx]
      exact I.ext.get b hb hx⟩
    have hM4 : MkAt ((H3.bump.flush.put re (exR c0 c1 c2 v' c4 c5)).bump) mr (exprP f (deep - 1) mi).2 := hM2.of_keep (by omega) (keep mr (Nat.lt_of_lt_of_le hm0 (Nat.le_trans I.gro.le l2)) (fun h => by rcases h with h | h <;> omega) (hvn mr hm0)) fun b e ro cs hb hbm hgb => keep b hb (fun h => by
      rcases h with h | h
      · subst h; rw [g2] at hgb; cases hgb
      · obtain ⟨cs', z1, _⟩ := I.r0r
        subst h; rw [hX2.get b (by omega) (fun h => by have : b = mr := h; omega), z1] at hgb; cases hgb) (fun h => by
      obtain ⟨cs', hc2⟩ := hsl2.own b h
      have : H2.get b = _ := hc2
      rw [this] at hgb; cases hgb)
    refine ⟨k - 1, by omega, i + 1, by omega, ts ++ [(exprP f (deep - 1) mi).1], (exprP f (deep - 1) mi).2, v', ?_⟩
    have hd1 : Dec (8 ^ f * (i + 1)) m0 (exprP f (deep - 1) mi).2 := by rw [Nat.mul_succ]; exact hdec.trans (exprP_dec f (deep - 1) mi)
    refine ⟨by simp [hlen], by omega, manyP_step I.many hlt, hM4, hd1, hgre, hr0, ?_, hm0, G4, I.sq.mono st1, I.sb.mono st1, hX4, by simp [f0], by simp [f1], by simp [f4], by simp [f7], by simp [f102], by simp, h00, h01, ?_⟩
    · show re < ((H3.bump.flush.put re (exR c0 c1 c2 v' c4 c5)).bump).next
      have := hn4; have := hA.le; have : H2.bump.next = H2.next + 1 := rfl; omega
    · obtain ⟨cs, z1, z2⟩ := I.r0r
      refine ⟨cs, ?_, z2⟩
      obtain ⟨kr1, kr2⟩ := hA.keep r0 (by show r0 < H2.next + 1; omega) (fun h => (hrows r0 h).2.2 (.inr rfl)) (by simp [s2])
      have hne : r0 ≠ re := by omega
      have e1 : ((H3.bump.flush.put re (exR c0 c1 c2 v' c4 c5)).bump).get r0 = H2.get r0 := by simp [Hp.get_put, two_ne hne, kr1, kr2]
      refine e1.trans ?_
      rw [hX2.get r0 (by omega) (fun h => by have : r0 = mr := h; omega)]
      exact z1
  · have hlt' : ¬ (i : Int) < (K : Int) := by omega
    have : i = K := by have := I.le; omega
    subst this
    simp [L77_1, f0, f1, f4, f7, f102, f103, hlt', hst]
    exact hQ _ _ _ _ _ ⟨I.len, I.le, I.many, I.mka, I.dec, I.row, I.re0, I.re1, I.mr0, I.gro, I.sq, I.sb, I.ext, by simp [f0], by simp [f1], by simp [f4], by simp [f7], by simp [f102], by simp [f103], I.r00, I.r01, I.r0r⟩
theorem expr_fin {c : Nat} {g : MS → Tx × MS} {K : Nat} {m0 : MS} {H0 : Hp} {mr re r0 : Nat} {deep : Int} {op : Nat} {num : Int} {text : List UInt8} {c4 c5 : V} {pq : List (List UInt8)} {pb ts : List Tx} {mi : MS} {v : V} {F : Fr} {H : Hp}
    (I : I64 c g K m0 H0 mr re r0 deep (.int .i64 op) (.int .i64 num) (.str text) c4 c5 pq pb K ts mi v F H) : wp tab (.seq (.reg R77_34) .ret) F H (resQ tab [.cell 4 46] fun w H' => ∃ cs, w = .agg cs ∧ MkAt H' mr mi ∧ ExpAt (since H0 H') H' (.ex op num text ts pq pb) cs ∧ Ext (eqR mr) H0 H') := by
  have hst := I.gro.st
  have f4 := I.f4; have f7 := I.f7
  have hrow := I.row
  obtain ⟨cs, z1, z2⟩ := I.r0r
  have q1 := I.sq.one; have q2 := I.sb.one
  have q3 := I.sq.cells; have q4 := I.sb.cells
  obtain ⟨l, hsl, hel⟩ := I.gro.sl
  have q5 := hsl.one; have q6 := hsl.cells
  match cs, z2 with
  | [a0, a1, a2, a3, a4, a5], _ =>
    simp [f4, f7, hst, hrow, z1, q1, q2, q3, q4, q5, q6]
    have h00 := I.r00; have h01 := I.r01; have hm0 := I.mr0; have hr1 := I.re1
    have hgo : ∀ b, b ≠ r0 → (H.put r0 (.row 46 6 false [.int .i64 op, .int .i64 num, .str text, v, c4, c5])).get b = H.get b := fun b hb => get_put_ne _ hb
    have st : Stays (Kv H0 (twoR re r0) v) (since H0 (H.put r0 (.row 46 6 false [.int .i64 op, .int .i64 num, .str text, v, c4, c5]))) H (H.put r0 (.row 46 6 false [.int .i64 op, .int .i64 num, .str text, v, c4, c5])) :=
      ⟨fun b hb hx => ⟨hb.1, hx⟩, fun b hb hx => hgo b (fun h => hb.2.1 (.inr h)), Nat.le_refl _⟩
    refine ⟨?_, ?_, ?_⟩
    · refine I.mka.of_keep (Nat.le_refl _) (hgo mr (by omega)) fun b e ro cs hb hbm hgb => hgo b fun h => ?_
      subst h; rw [z1] at hgb; cases hgb
    · simp only [ExpAt]
      exact ⟨v, c4, c5, rfl, I.gro.trees (fun b h1 h2 h3 => ⟨⟨h1, h2⟩, hgo b (fun h => h3 (.inr h))⟩) (Nat.le_refl _), I.sq.mono st, I.sb.mono st⟩
    · exact I.ext.putX _ (.inr h00)
/-! ### Statements, one behind the other -/
def StmtsOk (f : Nat) : Prop := ∀ (deep : Int) (n : Nat) (m : MS) (H : Hp) (mr : Nat), 2 * max deep 0 + 2 ≤ (f : Int) → (f : Int) - 100000 ≤ deep → deep ≤ 100 → n ≤ 2 → H.stale = [] → MkAt H mr m → (∀ x ∈ m.l, x.ok) → -1000000000 + ((8 ^ f : Nat) : Int) * 3 ≤ m.left → m.left ≤ 1000 →
  WF tab 78 [.ptr mr 0, .int .i64 deep, .int .i64 n] H fun v H' => MkAt H' mr (stmtsP (stmtP f deep) n m).2 ∧ TreesAt (since H H') H' (stmtsP (stmtP f deep) n m).1 v ∧ Ext (eqR mr) H H'
structure I65 (c : Nat) (g : MS → Tx × MS) (K : Nat) (m0 : MS) (H0 : Hp) (mr : Nat) (deep : Int) (i : Nat) (ts : List Tx) (mi : MS) (v : V) (F : Fr) (H : Hp) : Prop where
  le : i ≤ K
  len : ts.length = i
  many : stmtsP g K m0 = (ts ++ (stmtsP g (K - i) mi).1, (stmtsP g (K - i) mi).2)
  mka : MkAt H mr mi
  dec : Dec (c * i) m0 mi
  mr0 : mr < H0.next
  gro : Gro H0 H noX 42 v ts
  ext : Ext (eqR mr) H0 H
  f0 : F.get 0 = some (.ptr mr 0)
  f1 : F.get 1 = some (.int .i64 deep)
  f7 : F.get 7 = some v
  f8 : F.get 8 = some (.int .i64 K)
  f9 : F.get 9 = some (.int .i64 i)
theorem stmtsP_step {g : MS → Tx × MS} {K i : Nat} {m0 mi : MS} {ts : List Tx} (h : stmtsP g K m0 = (ts ++ (stmtsP g (K - i) mi).1, (stmtsP g (K - i) mi).2)) (hi : i < K) (hl : ¬ mi.left ≤ 0) : stmtsP g K m0 = ((ts ++ [(g mi).1]) ++ (stmtsP g (K - (i + 1)) (g mi).2).1, (stmtsP g (K - (i + 1)) (g mi).2).2) := by
  rw [h, show K - i = (K - (i + 1)) + 1 by omega, stmtsP, if_neg hl]
  simp
theorem stmts_ok {f : Nat} (hE : StmtOk f) : StmtsOk f := by
  intro deep n m H0 mr hd hd1 hd2 hn hs hM hok hlo hup
  refine wf78 (wp_sound _ ?_)
  have hm0 := hM.lt
  simp [hs]
  refine loop_of (fun k F H => ∃ i ts mi v, i + k = n ∧ I65 (8 ^ f) (stmtP f deep) n m H0 mr deep i ts mi v F H) (m := n) ⟨0, [], m, .nils, by omega, by omega, rfl, by simp, hM, Dec.refl _ _, hm0, Gro.nil hs (Nat.le_refl _), Ext.refl hs, by simp, by simp, by simp, by simp, by simp⟩ ?_
  rintro k F H ⟨i, ts, mi, v, hi, I⟩
  have hst := I.gro.st
  have f0 := I.f0; have f1 := I.f1; have f7 := I.f7; have f8 := I.f8; have f9 := I.f9
  have hgl := I.gro.le
  obtain ⟨l, hsl, hel⟩ := I.gro.sl
  have done : (ts, mi) = stmtsP (stmtP f deep) n m → MkAt H mr (stmtsP (stmtP f deep) n m).2 ∧ TreesAt (since H0 H) H (stmtsP (stmtP f deep) n m).1 v ∧ Ext (eqR mr) H0 H := fun h => by
    rw [← h]
    exact ⟨I.mka, I.gro.trees (fun b h1 h2 _ => ⟨⟨h1, h2⟩, rfl⟩) (Nat.le_refl _), I.ext⟩
  by_cases hlt : i < n
  · have hlt' : (i : Int) < (n : Int) := by omega
    have hw := wr_succ (show i < 1000000000 by omega)
    have hdec := I.dec
    have hmul : 8 ^ f * i ≤ 8 ^ f * 2 := Nat.mul_le_mul_left _ (by omega)
    have q2 : -1000000000 + ((8 ^ f : Nat) : Int) ≤ mi.left := by have := hdec.lo; omega
    have q3 : mi.left ≤ 1000 := Int.le_trans hdec.up hup
    obtain ⟨⟨lv, g1, g2⟩, g3⟩ := I.mka
    by_cases hl0 : mi.left ≤ 0
    · simp [L78_0, f0, f1, f7, f8, f9, hlt, hlt', hst, g1, hl0]
      refine done ?_
      have := I.many
      rw [show n - i = (n - (i + 1)) + 1 by omega, stmtsP, if_pos hl0] at this
      rw [this]; simp
    · simp [L78_0, f0, f1, f7, f8, f9, hlt, hlt', hst, g1, hl0]
      refine (hE deep mi H mr hd hd1 hd2 hst I.mka (fun x hx => hok x (hdec.sub x hx)) q2 q3).mono ?_
      rintro w H2 ⟨cs, rfl, hM2, hT2, hX2⟩
      obtain ⟨d0, d1, d2, d3, d4, d5, rfl, n0, n1, n2, n3, n4, n5⟩ := hT2.six
      have s2 := hX2.st
      have l2 := hX2.le
      have hrows := I.gro.rows
      have hsl2 : SlAt H2 42 6 v ts.length l := hsl.of_get fun b hb => by
        have := hrows b hb
        exact hX2.get b this.2.1 (fun h => by have : b = mr := h; omega)
      have hlen := I.len
      simp [s2, f7, n0, n1, n2, n3, n4, n5]
      refine wpL_app1 (H := H2) (e0 := 42) (cells := [d0, d1, d2, d3, d4, d5]) (by simp [descOf]) ty42 (by decide) (by simp [f7]) (by simp) hsl2 (fun b hb => ⟨by have := (hrows b hb).2.1; omega, by simp [s2]⟩) rfl (by show (ts.length + 1) * 104 ≤ _; omega) (by omega) (by simp [s2]) fun v' H3 hS hA => ?_
      simp [f9, hw]
      have hnx := hA.le
      obtain ⟨G4, keep, st1⟩ := I.gro.step (H4 := H3.flush) (X := eqR mr) hsl hel (fun b hb => hb.elim) hX2 (fun b hb _ h => by have : b = mr := h; omega) hT2 hS (.inl rfl) hA (by simp) (by simp) (fun b _ => rfl)
      have hvn : ∀ b, b < H0.next → b ∉ rowsOf v := fun b hb h => by have := (hrows b h).1; omega
      refine ⟨k - 1, by omega, i + 1, by omega, ts ++ [(stmtP f deep mi).1], (stmtP f deep mi).2, v', by omega, by simp [hlen], stmtsP_step I.many hlt hl0, ?_, by rw [Nat.mul_succ]; exact hdec.trans (stmtP_dec f deep mi), hm0, G4, ⟨by simp, G4.le, fun b hb hx => ?_⟩, by simp [f0], by simp [f1], by simp, by simp [f8], by simp⟩
      · exact hM2.of_keep (by simp; omega) (keep mr (by omega) (fun h => h) (hvn mr hm0)) fun b e ro cs hb hbm hgb => keep b hb (fun h => h) (fun h => by
          obtain ⟨cs', hc2⟩ := hsl2.own b h
          rw [hc2] at hgb; cases hgb)
      · rw [keep b (by omega) (fun h => h) (hvn b hb), hX2.get b (by omega) hx]
        exact I.ext.get b hb hx
  · have hlt' : ¬ (i : Int) < (n : Int) := by omega
    have : i = n := by have := I.le; omega
    subst this
    simp [L78_0, f0, f1, f7, f8, f9, hlt', hst]
    refine done ?_
    have := I.many
    rw [Nat.sub_self, stmtsP] at this
    rw [this]; simp
theorem expr_enter {f : Nat} (hE : ExprOk f) {deep : Int} {K : Nat} (hd : 0 < K → 2 * max (deep - 1) 0 + 1 ≤ (f : Int)) (hd1 : (f : Int) + 1 - 100000 ≤ deep) (hd2 : deep ≤ 100) (hK : K ≤ 4) {m0 : MS} {H0 : Hp} {mr re r0 op : Nat} {num : Int} {text : List UInt8} {c4 c5 : V} {pq : List (List UInt8)} {pb : List Tx} {F : Fr} {H : Hp} {Qf : V → Hp → Prop} (hok : ∀ x ∈ m0.l, x.ok) (hlo : -1000000000 + ((8 ^ f : Nat) : Int) * 4 ≤ m0.left) (hup : m0.left ≤ 1000)
    (hst : H.stale = []) (hM : MkAt H mr m0) (row : H.get re = some (exR (.int .i64 op) (.int .i64 num) (.str text) .nils c4 c5)) (re0 : H0.next ≤ re) (re1 : re < H.next) (mr0 : mr < H0.next) (sq : StrsAt (Kv H0 (twoR re r0) .nils) H pq c4) (sb : TreesAt (Kv H0 (twoR re r0) .nils) H pb c5) (ext : Ext (eqR mr) H0 H)
    (f0 : F.get 0 = some (.ptr mr 0)) (f1 : F.get 1 = some (.int .i64 deep)) (f4 : F.get 4 = some (.ptr r0 0)) (f7 : F.get 7 = some (.ptr re 0)) (f102 : F.get 102 = some (.int .i64 K)) (f103 : F.get 103 = some (.int .i64 0)) (r00 : H0.next ≤ r0) (r01 : r0 < re) (r0r : ∃ cs, H.get r0 = some (.row 46 6 false cs) ∧ cs.length = 6)
    (hQ : ∀ cs H', MkAt H' mr (manyP (exprP f (deep - 1)) K m0).2 → ExpAt (since H0 H') H' (.ex op num text (manyP (exprP f (deep - 1)) K m0).1 pq pb) cs → Ext (eqR mr) H0 H' → Qf (.agg cs) H') :
    WC tab (.loop L77_1) F H (blockQ 3 (sqQ tab (.seq (.reg R77_34) .ret) (resQ tab [.cell 4 46] Qf))) := by
  refine parts_loop hE hd hd1 hd2 hK hok hlo hup (v := .nils) ⟨rfl, by omega, by simp, hM, Dec.refl _ _, row, re0, re1, mr0, Gro.nil hst ext.le, sq, sb, ext, f0, f1, f4, f7, f102, f103, r00, r01, r0r⟩ ?_
  intro ts mi v F' H' I
  have hmany := I.many
  rw [Nat.sub_self, manyP] at hmany
  simp only [List.append_nil] at hmany
  have h1 : ts = (manyP (exprP f (deep - 1)) K m0).1 := by rw [hmany]
  have h2 : mi = (manyP (exprP f (deep - 1)) K m0).2 := by rw [hmany]
  have := expr_fin I
  simp only [bl_exit, if_true, sq_nrm]
  revert this
  generalize hcode : (SCode.reg R77_34).seq SCode.ret = code
  intro this
  refine wp_mono' code (fun o F2 H2 => ?_) this
  cases o with
  | exit i => exact fun h => h
  | nrm =>
    simp only [resQ]
    split
    · rintro ⟨cs, rfl, a, b, c⟩
      exact hQ cs H2 (h2 ▸ a) (h1 ▸ b) c
    · exact fun h => h
  | ret =>
    simp only [resQ]
    split
    · rintro ⟨cs, rfl, a, b, c⟩
      exact hQ cs H2 (h2 ▸ a) (h1 ▸ b) c
    · exact fun h => h
end Go.AM.YtlcadokmhfjacaaGreatDoorT
/- The maker of trees: expressions, whole. -/
set_option linter.unusedVariables false
set_option linter.unusedSimpArgs false
set_option maxRecDepth 100000
namespace Go.AM.YtlcadokmhfjacaaGreatDoorT
open Go Go.AM Go.Proofs
theorem wr_u8m (n : Nat) : wr .u8 (n : Int) = ((n % 256 : Nat) : Int) := by
  by_cases h : n < 256
  · rw [wr_u8 (by omega) (by omega), Nat.mod_eq_of_lt h]
  · show (if n < 256 then Int.ofNat n else IntKind.u8.wrap (n : Int)) = _
    rw [if_neg h, IntKind.wrap_u8]; omega
abbrev threeR (a b c : Nat) : Nat → Prop := fun x => x = a ∨ x = b ∨ x = c
def psP (s i : Nat) : List (List UInt8) := (List.range i).map fun j => nameT ((s + j) % 256)
theorem psP_succ (s i : Nat) : psP s (i + 1) = psP s i ++ [nameT ((s + i) % 256)] := by simp [psP, List.range_succ]
theorem psP_len (s i : Nat) : (psP s i).length = i := by simp [psP]
structure IP (H0 : Hp) (mr re r0 rx : Nat) (deep : Int) (op : Nat) (x : X4) (m : MS) (i : Nat) (v : V) (F : Fr) (H : Hp) : Prop where
  le : i ≤ x.a % 3
  mka : MkAt H mr m
  mr0 : mr < H0.next
  row : H.get re = some (exR (.int .i64 op) (.int .i64 0) (.str []) .nils v .nils)
  r0r : ∃ cs, H.get r0 = some (.row 46 6 false cs) ∧ cs.length = 6
  rxr : H.get rx = some (.row 53 4 false x.cs)
  o0 : H0.next ≤ r0
  o1 : r0 < rx
  o2 : rx < re
  o3 : re < H.next
  gro : SGro H0 H (threeR re r0 rx) 9 v (psP x.s i)
  ext : Ext (eqR mr) H0 H
  f0 : F.get 0 = some (.ptr mr 0)
  f1 : F.get 1 = some (.int .i64 deep)
  f4 : F.get 4 = some (.ptr r0 0)
  f5 : F.get 5 = some (.ptr rx 0)
  f6 : F.get 6 = some (.int .i64 op)
  f7 : F.get 7 = some (.ptr re 0)
  f8 : F.get 8 = some (.int .i64 0)
  f78 : F.get 78 = some (.int .u8 (x.a % 3 : Nat))
  f79 : F.get 79 = some (.int .u8 i)
theorem params_loop {H0 : Hp} {mr re r0 rx : Nat} {deep : Int} {op : Nat} {x : X4} (hx : x.ok) {m : MS} {F : Fr} {H : Hp} {Q : PC} {v : V} (h0 : IP H0 mr re r0 rx deep op x m 0 v F H)
    (hQ : ∀ v F' H', IP H0 mr re r0 rx deep op x m (x.a % 3) v F' H' → Q (.exit 1) F' H') : WC tab (.loop L77_0) F H Q := by
  refine loop_of (fun k F H => ∃ i v, i + k = x.a % 3 ∧ IP H0 mr re r0 rx deep op x m i v F H) (m := x.a % 3) ⟨0, v, by omega, h0⟩ ?_
  rintro k F H ⟨i, v, hi, I⟩
  have hst := I.gro.st
  have f0 := I.f0; have f1 := I.f1; have f4 := I.f4; have f5 := I.f5; have f6 := I.f6; have f7 := I.f7; have f8 := I.f8; have f78 := I.f78; have f79 := I.f79
  have h3 : x.a % 3 < 3 := Nat.mod_lt _ (by omega)
  by_cases hlt : i < x.a % 3
  · have hlt' : (i : Int) < ((x.a % 3 : Nat) : Int) := by omega
    have hw : wr .u8 ((i : Int) + 1) = ((i + 1 : Nat) : Int) := by rw [wr_u8 (by omega) (by omega)]; omega
    have hsum : wr .u8 ((x.s : Int) + (i : Int)) = (((x.s + i) % 256 : Nat) : Int) := by rw [← wr_u8m]; rfl
    have hgr := I.row; have hgx := I.rxr
    have hxs : x.cs = [.int .u8 x.d, .int .u8 x.a, .int .u16 x.n, .int .u8 x.s] := rfl
    have c0 := I.o0; have c1 := I.o1; have c2 := I.o2; have c3 := I.o3; have hm0 := I.mr0
    rw [hxs] at hgx
    generalize hA3 : x.a % 3 = A at *
    simp [L77_0, f0, f1, f4, f5, f6, f7, f78, f79, hlt, hlt', hst, hgr, hgx, hsum]
    refine (Name_ok (by simp [hst]) ((x.s + i) % 256)).mono ?_
    rintro w H2 ⟨rfl, hX2⟩
    have s2 := hX2.st
    have l2 := hX2.le
    have hsl := I.gro.sl
    have hrows := I.gro.rows
    have g2 : H2.get re = some (exR (.int .i64 op) (.int .i64 0) (.str []) .nils v .nils) := hX2.keep c3 I.row
    have hsl2 : SlAt H2.bump 9 1 v (psP x.s i).length ((psP x.s i).map .str) := hsl.of_get fun b hb => by
      have := hrows b hb
      show H2.get b = H.get b
      exact hX2.get b this.2.1 (fun h => h)
    have hev := hsl.eqv
    have hlen := psP_len x.s i
    simp [s2, f7, g2, hgr, hev, hst]
    refine wpD_app1 (H := H2.bump) (e0 := 9) (cells := [.str (nameT ((x.s + i) % 256))]) (by simp [descOf]) ty9 (by decide) (by simp [f7]) (by simp) hsl2 (fun b hb => ⟨by have := (hrows b hb).2.1; show b < H2.next + 1; omega, by simp [s2]⟩) rfl (by show ((psP x.s i).length + 1) * 16 ≤ _; omega) (by omega) (by simp [s2]) fun v' H3 hS hA => ?_
    obtain ⟨kre1, kre2⟩ := hA.keep re (by show re < H2.next + 1; omega) (fun h => (hrows re h).2.2 (.inl rfl)) (by simp [s2])
    have kre3 : H3.get re = some (exR (.int .i64 op) (.int .i64 0) (.str []) .nils v .nils) := kre1.trans g2
    have hc' := hS.cells
    have ho' := hS.one
    simp [f7, kre2, kre3, hc', ho', f79, hw]
    have hnx := hA.le
    have hbn : H2.bump.next = H2.next + 1 := rfl
    have hg4 : ∀ b, ¬ threeR re r0 rx b → ((H3.bump.flush.put re (exR (.int .i64 op) (.int .i64 0) (.str []) .nils v' .nils)).bump).get b = H3.flush.get b := fun b hb => by
      have : b ≠ re := fun h => hb (.inl h)
      simp [Hp.get_put, two_ne this]
    have hs4 : ((H3.bump.flush.put re (exR (.int .i64 op) (.int .i64 0) (.str []) .nils v' .nils)).bump).stale = [] := by simp
    have hn4 : H3.next ≤ ((H3.bump.flush.put re (exR (.int .i64 op) (.int .i64 0) (.str []) .nils v' .nils)).bump).next := by simp; omega
    have hgre : ((H3.bump.flush.put re (exR (.int .i64 op) (.int .i64 0) (.str []) .nils v' .nils)).bump).get re = some (exR (.int .i64 op) (.int .i64 0) (.str []) .nils v' .nils) := by simp
    have hn5 : H3.next ≤ ((H3.bump.flush.put re (Ob.row 46 6 false [.int .i64 op, .int .i64 0, .str [], .nils, v', .nils])).bump).next := hn4
    have hl0 := I.gro.le
    obtain ⟨G4, keep⟩ := I.gro.step (H4 := (H3.bump.flush.put re (exR (.int .i64 op) (.int .i64 0) (.str []) .nils v' .nils)).bump) (X := noX) (fun b hb => by rcases hb with h | h | h <;> omega) hX2 hS (.inr rfl) hA hs4 hn4 hg4
    have hvn : ∀ b, b < H0.next → b ∉ rowsOf v := fun b hb h => by have := (hrows b h).1; omega
    -- the rows of R but re
    have keepR : ∀ b, b < H2.next → b ≠ re → b ∉ rowsOf v → ((H3.bump.flush.put re (exR (.int .i64 op) (.int .i64 0) (.str []) .nils v' .nils)).bump).get b = H2.get b := fun b hb hne hnr => by
      obtain ⟨kr1, kr2⟩ := hA.keep b (by show b < H2.next + 1; omega) hnr (by simp [s2])
      simp [Hp.get_put, two_ne hne, kr1, kr2]
    obtain ⟨cs, z1, z2⟩ := I.r0r
    refine ⟨k - 1, by omega, i + 1, by omega, v', by omega, ?_, hm0, hgre, ⟨cs, ?_, z2⟩, ?_, c0, c1, c2, ?_, ?_, ⟨hs4, by omega, fun b hb hx => ?_⟩, by simp [f0], by simp [f1], by simp [f4], by simp [f5], by simp [f6], by simp [f7], by simp [f8], by simp [f78, hA3], by simp⟩
    · refine (I.mka.ext hX2 (fun _ _ h => h)).of_keep (by omega) (keepR mr (by omega) (by omega) (hvn mr hm0)) fun b e ro cs' hb hbm hgb => keepR b hb (fun h => ?_) (fun h => ?_)
      · subst h; rw [g2] at hgb; cases hgb
      · obtain ⟨cs', hc2⟩ := hsl2.own b h
        have : H2.get b = _ := hc2
        rw [this] at hgb; cases hgb
    · rw [keepR r0 (by omega) (by omega) (fun h => (hrows r0 h).2.2 (.inr (.inl rfl)))]; exact hX2.keep (by omega) z1
    · rw [keepR rx (by omega) (by omega) (fun h => (hrows rx h).2.2 (.inr (.inr rfl)))]; exact hX2.keep (by omega) I.rxr
    · show re < ((H3.bump.flush.put re (exR (.int .i64 op) (.int .i64 0) (.str []) .nils v' .nils)).bump).next
      omega
    · rw [psP_succ]; exact G4
    · rw [keepR b (by omega) (by omega) (hvn b hb), hX2.get b (by omega) (fun h => h)]
      exact I.ext.get b hb hx
  · have hlt' : ¬ (i : Int) < ((x.a % 3 : Nat) : Int) := by omega
    have : i = x.a % 3 := by have := I.le; omega
    subst this
    simp [L77_0, f0, f1, f4, f5, f6, f7, f78, f79, hst]
    refine hQ v _ _ ⟨I.le, I.mka, I.mr0, I.row, I.r0r, I.rxr, I.o0, I.o1, I.o2, I.o3, I.gro, I.ext, by simp [f0], by simp [f1], by simp [f4], by simp [f5], by simp [f6], by simp [f7], by simp [f8], by simp [f78], by simp [f79]⟩
end Go.AM.YtlcadokmhfjacaaGreatDoorT
/- The maker of trees: expressions, whole. -/
set_option linter.unusedVariables false
set_option linter.unusedSimpArgs false
set_option maxRecDepth 100000
namespace Go.AM.YtlcadokmhfjacaaGreatDoorT
open Go Go.AM Go.Proofs
/-- The code behind the op. -/
def W77 : SCode := .seq (.reg R77_5) (.seq (.reg R77_6) (.seq (.seq (.reg R77_7) (.block 0 (.seq (.reg R77_10) (.cond (.tmp 32) (.dreg R77_11) (.seq (.reg R77_12) (.cond (.tmp 45) (.reg R77_13) (.seq (.reg R77_14) (.cond (.tmp 51) (.reg R77_15) (.seq (.seq (.reg R77_16) (.cond (.tmp 57) (.skip) (.reg R77_17))) (.cond (.tmp 57) (.reg R77_18) (.seq (.reg R77_19) (.cond (.tmp 60) (.reg R77_20) (.seq (.reg R77_21) (.cond (.tmp 67) (.reg R77_22) (.seq (.reg R77_23) (.cond (.tmp 74) (.seq (.seq (.reg R77_24) (.block 1 (.loop L77_0))) (.reg R77_29)) (.seq (.reg R77_8) (.cond (.tmp 31) (.reg R77_9) (.skip))))))))))))))))))) (.seq (.seq (.reg R77_30) (.block 3 (.loop L77_1))) (.seq (.reg R77_34) (.ret)))))
theorem noStrs {K : Nat → Prop} {H : Hp} : StrsAt K H [] .nils := .inl ⟨.inl rfl, rfl⟩
theorem noTrees {K : Nat → Prop} {H : Hp} : TreesAt K H [] .nils := .inl ⟨.inl rfl, rfl⟩
theorem expr_rest {f : Nat} (hE : ExprOk f) (hS : StmtsOk f) {deep : Int} (hd : 2 * max deep 0 + 1 ≤ ((f + 1 : Nat) : Int)) (hd1 : (f : Int) + 1 - 100000 ≤ deep) (hd2 : deep ≤ 100) {m1 : MS} {x : X4} (hx : x.ok) {op : Nat} (hop : op < 18) (hopd : 6 ≤ op → 0 < deep) {H0 : Hp} {mr r0 rx : Nat} {F : Fr} {H : Hp} (hok : ∀ y ∈ m1.l, y.ok) (hlo : -1000000000 + ((8 ^ f : Nat) : Int) * 7 ≤ m1.left) (hup : m1.left ≤ 1000)
    (hst : H.stale = []) (hM : MkAt H mr m1) (mr0 : mr < H0.next) (ext : Ext (eqR mr) H0 H) (f0 : F.get 0 = some (.ptr mr 0)) (f1 : F.get 1 = some (.int .i64 deep)) (f4 : F.get 4 = some (.ptr r0 0)) (f5 : F.get 5 = some (.ptr rx 0)) (f6 : F.get 6 = some (.int .i64 op))
    (r00 : H0.next ≤ r0) (r01 : r0 < rx) (rxl : rx < H.next) (r0r : ∃ cs, H.get r0 = some (.row 46 6 false cs) ∧ cs.length = 6) (rxr : H.get rx = some (.row 53 4 false x.cs)) {Qf : V → Hp → Prop}
    (hQ : ∀ b : List Tx × MS, b = (if op = 17 then stmtsP (stmtP f (deep - 1)) (x.n % 3) m1 else ([], m1)) → ∀ ps : List Tx × MS, ps = manyP (exprP f (deep - 1)) (countP op x) b.2 → ∀ cs H', MkAt H' mr ps.2 → ExpAt (since H0 H') H' (.ex op (numP op x) (textP op x) ps.1 (paramsP op x) b.1) cs → Ext (eqR mr) H0 H' → Qf (.agg cs) H') :
    wp tab W77 F H (resQ tab [.cell 4 46] Qf) := by
  have hxs : x.cs = [.int .u8 x.d, .int .u8 x.a, .int .u16 x.n, .int .u8 x.s] := rfl
  rw [hxs] at rxr
  have ne : ∀ k : Nat, op ≠ k → ((op : Int) == (k : Int)) = false := fun k h => beq_false_of_ne (by omega)
  have hp : 1 ≤ 8 ^ f := Nat.pow_pos (by omega)
  have kK : ∀ K : Nat, (0 < K → 6 ≤ op) → 0 < K → 2 * max (deep - 1) 0 + 1 ≤ (f : Int) := fun K h1 h2 => by have := hopd (h1 h2); omega
  have ext1 : ∀ o : Ob, Ext (eqR mr) H0 (H.new o) := fun o => ext.newge o
  have hle := ext.le
  have o1 := old_ne (b := rx) (n := H.next) rxl
  have o2 := old_ne (b := r0) (n := H.next) (by omega)
  have hMn : ∀ o, MkAt (H.new o) mr m1 := fun o => hM.ext (X := noX) (Ext.new hst o) fun _ _ h => h
  obtain ⟨c0s, z1, z2⟩ := r0r
  -- where nothing but the row's cells is set
  have plain : ∀ (K : Nat) (num : Int) (text : List UInt8) (F' : Fr) (H' : Hp), op ≠ 17 → countP op x = K → (0 < K → 6 ≤ op) → num = numP op x → text = textP op x → H'.stale = [] → (∀ b, b < H.next → H'.get b = H.get b) → H'.get H.next = some (exR (.int .i64 op) (.int .i64 num) (.str text) .nils .nils .nils) → H.next < H'.next →
      F'.get 0 = some (.ptr mr 0) → F'.get 1 = some (.int .i64 deep) → F'.get 4 = some (.ptr r0 0) → F'.get 7 = some (.ptr H.next 0) → F'.get 102 = some (.int .i64 K) → F'.get 103 = some (.int .i64 0) →
      WC tab (.loop L77_1) F' H' (blockQ 3 (sqQ tab (.seq (.reg R77_34) .ret) (resQ tab [.cell 4 46] Qf))) := fun K num text F' H' h17 hK hK6 hn ht a1 a2 a3 a4 b0 b1 b4 b7 b102 b103 => by
    have a5 : Ext (eqR mr) H0 H' := ⟨a1, by omega, fun b hb hx => by rw [a2 b (by omega)]; exact ext.get b hb hx⟩
    have a6 : MkAt H' mr m1 := hM.of_keep (by omega) (a2 mr (by omega)) fun b _ _ _ hb _ _ => a2 b hb
    refine expr_enter hE (kK K hK6) hd1 hd2 (by rw [← hK]; exact countP_le _ _) hok (by omega) hup a1 a6 a3 (by omega) a4 mr0 noStrs noTrees a5 b0 b1 b4 b7 b102 b103 r00 (by omega) ⟨c0s, by rw [a2 r0 (by omega)]; exact z1, z2⟩ fun cs H2 g1 g2 g3 => ?_
    have hpp : paramsP op x = [] := by simp [paramsP, h17]
    refine hQ ([], m1) (by rw [if_neg h17]) (manyP (exprP f (deep - 1)) K m1) (by rw [hK]) cs H2 g1 ?_ g3
    rw [← hn, ← ht, hpp]; exact g2
  have ta : (x.a : Int).tmod 3 = ((x.a % 3 : Nat) : Int) := by rw [Int.tmod_eq_emod_of_nonneg (by omega)]; omega
  have tn : (x.n : Int).tmod 3 = ((x.n % 3 : Nat) : Int) := by rw [Int.tmod_eq_emod_of_nonneg (by omega)]; omega
  have ha3 : x.a % 3 < 3 := Nat.mod_lt _ (by omega)
  have hn3 : x.n % 3 < 3 := Nat.mod_lt _ (by omega)
  have hxn := hx.n
  have wn : wr .i64 (x.n : Int) = (x.n : Int) := wr_i64 (by omega) (by omega)
  have wn' : wr .i64 ((x.n : Int) * 1099511627776) = (x.n : Int) * 1099511627776 := wr_i64 (by omega) (by omega)
  unfold W77
  by_cases h3 : op = 3
  · subst h3
    have hnum : numP 3 x = (x.n : Int) * (if x.a % 3 = 2 then 1099511627776 else 1) := by simp [numP]
    have hc : countP 3 x = 0 := rfl
    have ht : textP 3 x = [] := rfl
    generalize hA : x.a % 3 = A at *
    have key : ∀ F' H' c, wr .i64 c = c → c = numP 3 x → H'.stale = [] → (∀ b, b < H.next → H'.get b = H.get b) → H'.get H.next = some (exR (.int .i64 (3 : Int)) (.int .i64 c) (.str []) .nils .nils .nils) → H.next < H'.next → F'.get 0 = some (.ptr mr 0) → F'.get 1 = some (.int .i64 deep) → F'.get 4 = some (.ptr r0 0) → F'.get 7 = some (.ptr H.next 0) → F'.get 102 = some (.int .i64 0) → F'.get 103 = some (.int .i64 0) →
      WC tab (.loop L77_1) F' H' (blockQ 3 (sqQ tab (.seq (.reg R77_34) .ret) (resQ tab [.cell 4 46] Qf))) := fun F' H' c _ h1 => plain 0 c [] F' H' (by omega) hc (by omega) h1 ht.symm
    rcases (show A = 0 ∨ A = 1 ∨ A = 2 by omega) with rfl | rfl | rfl
    · simp [f0, f1, f4, f5, f6, hst, Hp.get_new, Hp.get_put, o1, o2, rxr, z1, ta, wn]
      exact key _ _ x.n wn (by rw [hnum]; simp) (by simp [hst]) (fun b hb => by simp [Hp.get_new, Hp.get_put, old_ne hb]) (by simp [Hp.get_new, Hp.get_put]) (by simp; omega) (by simp [f0]) (by simp [f1]) (by simp [f4]) (by simp) (by simp) (by simp)
    · simp [f0, f1, f4, f5, f6, hst, Hp.get_new, Hp.get_put, o1, o2, rxr, z1, ta, wn]
      exact key _ _ x.n wn (by rw [hnum]; simp) (by simp [hst]) (fun b hb => by simp [Hp.get_new, Hp.get_put, old_ne hb]) (by simp [Hp.get_new, Hp.get_put]) (by simp; omega) (by simp [f0]) (by simp [f1]) (by simp [f4]) (by simp) (by simp) (by simp)
    · simp [f0, f1, f4, f5, f6, hst, Hp.get_new, Hp.get_put, o1, o2, rxr, z1, ta, wn, wn']
      exact key _ _ _ wn' (by rw [hnum]; simp) (by simp [hst]) (fun b hb => by simp [Hp.get_new, Hp.get_put, old_ne hb]) (by simp [Hp.get_new, Hp.get_put]) (by simp; omega) (by simp [f0]) (by simp [f1]) (by simp [f4]) (by simp) (by simp) (by simp)
  by_cases h4 : op = 4
  · subst h4
    simp [f0, f1, f4, f5, f6, hst, Hp.get_new, Hp.get_put, o1, o2, rxr, z1, ta, tn, wn]
    refine (Text_ok (by simp [hst]) x.s).mono ?_
    rintro w H2 ⟨rfl, hX2⟩
    have s2 := hX2.st
    have l2 := hX2.le
    simp at l2
    have g2 : ∀ b, b < H.next → H2.get b = H.get b := fun b hb => by rw [hX2.get b (by simp; omega) (fun h => h)]; simp [Hp.get_new, Hp.get_put, old_ne hb]
    have g3 : H2.get H.next = some (exR (.int .i64 4) (.int .i64 0) (.str []) .nils .nils .nils) := by rw [hX2.get _ (by simp) (fun h => h)]; simp [Hp.get_new, Hp.get_put]
    simp [s2, g3, Hp.get_put]
    exact plain 0 0 (textT x.s) _ _ (by omega) rfl (by omega) rfl rfl (by simp [s2]) (fun b hb => by simp [Hp.get_new, Hp.get_put, old_ne hb, g2 b hb]) (by simp [Hp.get_new, Hp.get_put]) (by simp; try omega) (by simp [f0]) (by simp [f1]) (by simp [f4]) (by simp) (by simp) (by simp)
  by_cases h5 : op = 5
  · subst h5
    simp [f0, f1, f4, f5, f6, hst, Hp.get_new, Hp.get_put, o1, o2, rxr, z1, ta, tn, wn]
    refine (Name_ok (by simp [hst]) x.s).mono ?_
    rintro w H2 ⟨rfl, hX2⟩
    have s2 := hX2.st
    have l2 := hX2.le
    simp at l2
    have g2 : ∀ b, b < H.next → H2.get b = H.get b := fun b hb => by rw [hX2.get b (by simp; omega) (fun h => h)]; simp [Hp.get_new, Hp.get_put, old_ne hb]
    have g3 : H2.get H.next = some (exR (.int .i64 5) (.int .i64 0) (.str []) .nils .nils .nils) := by rw [hX2.get _ (by simp) (fun h => h)]; simp [Hp.get_new, Hp.get_put]
    simp [s2, g3, Hp.get_put]
    exact plain 0 0 (nameT x.s) _ _ (by omega) rfl (by omega) rfl rfl (by simp [s2]) (fun b hb => by simp [Hp.get_new, Hp.get_put, old_ne hb, g2 b hb]) (by simp [Hp.get_new, Hp.get_put]) (by simp; try omega) (by simp [f0]) (by simp [f1]) (by simp [f4]) (by simp) (by simp) (by simp)
  by_cases h6 : op = 6
  · subst h6
    simp [f0, f1, f4, f5, f6, hst, Hp.get_new, Hp.get_put, o1, o2, rxr, z1, ta, tn, wn]
    exact plain 1 0 [] _ _ (by omega) rfl (by omega) rfl rfl (by simp [hst]) (fun b hb => by simp [Hp.get_new, Hp.get_put, old_ne hb]) (by simp [Hp.get_new, Hp.get_put]) (by simp; try omega) (by simp [f0]) (by simp [f1]) (by simp [f4]) (by simp) (by simp) (by simp)
  by_cases h7 : op = 7
  · subst h7
    simp [f0, f1, f4, f5, f6, hst, Hp.get_new, Hp.get_put, o1, o2, rxr, z1, ta, tn, wn]
    exact plain 1 0 [] _ _ (by omega) rfl (by omega) rfl rfl (by simp [hst]) (fun b hb => by simp [Hp.get_new, Hp.get_put, old_ne hb]) (by simp [Hp.get_new, Hp.get_put]) (by simp; try omega) (by simp [f0]) (by simp [f1]) (by simp [f4]) (by simp) (by simp) (by simp)
  by_cases h15 : op = 15
  · subst h15
    have hc : countP 15 x = 1 + x.a % 3 := rfl
    have w1 : wr .i64 ((x.a % 3 : Nat) : Int) = ((x.a % 3 : Nat) : Int) := wr_i64 (by omega) (by omega)
    have w2 : wr .i64 (1 + ((x.a % 3 : Nat) : Int)) = ((1 + x.a % 3 : Nat) : Int) := by rw [wr_i64 (by omega) (by omega)]; omega
    generalize x.a % 3 = A at *
    simp [f0, f1, f4, f5, f6, hst, Hp.get_new, Hp.get_put, o1, o2, rxr, z1, ta, tn, wn, w1, w2]
    exact plain (1 + A) 0 [] _ _ (by omega) hc (by omega) rfl rfl (by simp [hst]) (fun b hb => by simp [Hp.get_new, Hp.get_put, old_ne hb]) (by simp [Hp.get_new, Hp.get_put]) (by simp; try omega) (by simp [f0]) (by simp [f1]) (by simp [f4]) (by simp) (by simp) (by simp)
  by_cases h16 : op = 16
  · subst h16
    have hc : countP 16 x = 2 * (x.a % 3) := rfl
    have w1 : wr .i64 ((x.a % 3 : Nat) : Int) = ((x.a % 3 : Nat) : Int) := wr_i64 (by omega) (by omega)
    have w2 : wr .i64 (2 * ((x.a % 3 : Nat) : Int)) = ((2 * (x.a % 3) : Nat) : Int) := by rw [wr_i64 (by omega) (by omega)]; omega
    generalize x.a % 3 = A at *
    simp [f0, f1, f4, f5, f6, hst, Hp.get_new, Hp.get_put, o1, o2, rxr, z1, ta, tn, wn, w1, w2]
    exact plain (2 * A) 0 [] _ _ (by omega) hc (by omega) rfl rfl (by simp [hst]) (fun b hb => by simp [Hp.get_new, Hp.get_put, old_ne hb]) (by simp [Hp.get_new, Hp.get_put]) (by simp; try omega) (by simp [f0]) (by simp [f1]) (by simp [f4]) (by simp) (by simp) (by simp)
  by_cases h17 : op = 17
  · subst h17
    have w1 : wr .u8 ((x.a % 3 : Nat) : Int) = ((x.a % 3 : Nat) : Int) := wr_u8 (by omega) (by omega)
    simp [f0, f1, f4, f5, f6, hst, Hp.get_new, Hp.get_put, o1, o2, rxr, z1, ta, tn, wn, w1]
    refine params_loop (H0 := H0) (mr := mr) (re := H.next) (r0 := r0) (rx := rx) (deep := deep) (op := 17) (m := m1) (v := .nils) hx ⟨by omega, hM.of_keep (by simp) (by simp [Hp.get_new, Hp.get_put, old_ne hM.lt]) (fun b _ _ _ hb _ _ => by simp [Hp.get_new, Hp.get_put, old_ne hb]), mr0, by simp [Hp.get_new, Hp.get_put], ⟨c0s, by simp [Hp.get_new, Hp.get_put, o2, z1], z2⟩, by simp [Hp.get_new, Hp.get_put, o1, rxr, hxs], r00, r01, rxl, by simp, ⟨by simp [hst], by simp; omega, .nil, by simp [rowsOf]⟩, ⟨by simp [hst], by simp; omega, fun b hb hx => by simp [Hp.get_new, Hp.get_put, old_ne (Nat.lt_of_lt_of_le hb hle)]; exact ext.get b hb hx⟩, by simp [f0], by simp [f1], by simp [f4], by simp [f5], by simp [f6], by simp, by simp, by simp, by simp⟩ ?_
    intro v F' H1 I
    have k0 := I.f0; have k1 := I.f1; have k4 := I.f4; have k5 := I.f5; have k6 := I.f6; have k7 := I.f7; have k8 := I.f8
    have hst1 := I.gro.st
    have hgr := I.row; have hgx := I.rxr
    rw [hxs] at hgx
    have w3 : wr .i64 ((x.n % 3 : Nat) : Int) = ((x.n % 3 : Nat) : Int) := wr_i64 (by omega) (by omega)
    have w4 : wr .i64 (deep - 1) = deep - 1 := wr_z (by omega) (by omega)
    have hdp := hopd (by omega)
    generalize x.n % 3 = N at *
    simp [k0, k1, k4, k5, k6, k7, k8, hst1, hgr, hgx, tn, w3, w4]
    refine (hS (deep - 1) N m1 H1 mr (by omega) (by omega) (by omega) (by omega) hst1 I.mka hok (by omega) hup).mono ?_
    rintro w H2 ⟨hM2, hT2, hX2⟩
    have s2 := hX2.st
    have l2 := hX2.le
    have hl1 := I.gro.le
    have hrows := I.gro.rows
    have o3' := I.o3
    have gR : ∀ b, H0.next ≤ b → b < H1.next → H2.get b = H1.get b := fun b h1 h2 => hX2.get b h2 (fun h => by have : b = mr := h; omega)
    have g2 : H2.get H.next = some (exR (.int .i64 17) (.int .i64 0) (.str []) .nils v .nils) := by rw [gR _ (by omega) o3']; exact hgr
    have q1 := hT2.one; have q2 := hT2.cells
    simp [s2, k7, k1, k0, k4, g2, q1, q2, Hp.get_put, k8]
    obtain ⟨c1s, y1, y2⟩ := I.r0r
    have hxr := I.o2
    have nr : ∀ b, b ∈ rowsOf v → b ≠ H.next := fun b hb h => (hrows b hb).2.2 (.inl h)
    have gP : ∀ b o, b ≠ H.next → ((H2.put H.next o)).get b = H2.get b := fun b o hb => get_put_ne _ hb
    have hdec : Dec (8 ^ f * N) m1 (stmtsP (stmtP f (deep - 1)) N m1).2 := stmtsP_dec (fun m => stmtP_dec f (deep - 1) m) N m1
    have hmul : 8 ^ f * N ≤ 8 ^ f * 2 := Nat.mul_le_mul_left _ (by omega)
    have hps : paramsP 17 x = psP x.s (x.a % 3) := by simp [paramsP, psP]
    refine expr_enter (H0 := H0) (r0 := r0) hE (K := 0) (m0 := (stmtsP (stmtP f (deep - 1)) N m1).2) (op := 17) (num := 0) (text := []) (c4 := v) (c5 := w) (pq := psP x.s (x.a % 3)) (pb := (stmtsP (stmtP f (deep - 1)) N m1).1) (re := H.next) (mr := mr) (by omega) hd1 hd2 (by omega) (fun y hy => hok y (hdec.sub y hy)) (by have := hdec.lo; omega) (Int.le_trans hdec.up hup) (by simp [s2]) ?_ (by simp [Hp.get_put]) (by omega) (by simp; omega) mr0 ?_ ?_ ⟨by simp [s2], by simp; omega, fun b hb hx => ?_⟩ (by simp [k0]) (by simp [k1]) (by simp [k4]) (by simp [k7]) (by simp) (by simp) r00 (by omega) ⟨c1s, ?_, y2⟩ fun cs H3 g1 g2 g3 => ?_
    · refine hM2.of_keep (by simp) (by simp [Hp.get_put]; omega) fun b e ro cs' hb hbm hgb => ?_
      have : b ≠ H.next := fun h => by subst h; rw [g2] at hgb; cases hgb
      simp [Hp.get_put, two_ne this]
    · refine StrsAt.of_slAt (I.gro.sl.of_get fun b hb => ?_) (fun b hb => ?_) rfl
      · have := hrows b hb
        simp [Hp.get_put, two_ne (nr b hb)]; exact gR b this.1 this.2.1
      · have := hrows b hb
        exact ⟨⟨this.1, fun h => this.2.2 (h.elim .inl fun h => .inr (.inl h)), by simp [rowsOf]⟩, by simp; omega⟩
    · refine hT2.mono ⟨fun b hb hx => ⟨by omega, fun h => by rcases h with h | h <;> omega, by simp [rowsOf]⟩, fun b hb hx => ?_, by simp⟩
      have : b ≠ H.next := by omega
      simp [Hp.get_put, two_ne this]
    · have : b ≠ H.next := by omega
      simp [Hp.get_put, two_ne this]
      rw [hX2.get b (by omega) hx]; exact I.ext.get b hb hx
    · have : r0 ≠ H.next := by omega
      simp [Hp.get_put, two_ne this]
      rw [gR r0 r00 (by omega)]; exact y1
    · refine hQ (stmtsP (stmtP f (deep - 1)) N m1) (by rw [if_pos rfl]) _ rfl cs H3 g1 ?_ g3
      rw [hps]; exact g2
  by_cases h7 : op < 3
  · rcases (show op = 0 ∨ op = 1 ∨ op = 2 by omega) with rfl | rfl | rfl
    · simp [f0, f1, f4, f5, f6, hst, Hp.get_new, Hp.get_put, o1, o2, rxr, z1, ta, tn, wn]
      exact plain 0 0 [] _ _ (by omega) rfl (by omega) rfl rfl (by simp [hst]) (fun b hb => by simp [Hp.get_new, Hp.get_put, old_ne hb]) (by simp [Hp.get_new, Hp.get_put]) (by simp; try omega) (by simp [f0]) (by simp [f1]) (by simp [f4]) (by simp) (by simp) (by simp)
    · simp [f0, f1, f4, f5, f6, hst, Hp.get_new, Hp.get_put, o1, o2, rxr, z1, ta, tn, wn]
      exact plain 0 0 [] _ _ (by omega) rfl (by omega) rfl rfl (by simp [hst]) (fun b hb => by simp [Hp.get_new, Hp.get_put, old_ne hb]) (by simp [Hp.get_new, Hp.get_put]) (by simp; try omega) (by simp [f0]) (by simp [f1]) (by simp [f4]) (by simp) (by simp) (by simp)
    · simp [f0, f1, f4, f5, f6, hst, Hp.get_new, Hp.get_put, o1, o2, rxr, z1, ta, tn, wn]
      exact plain 0 0 [] _ _ (by omega) rfl (by omega) rfl rfl (by simp [hst]) (fun b hb => by simp [Hp.get_new, Hp.get_put, old_ne hb]) (by simp [Hp.get_new, Hp.get_put]) (by simp; try omega) (by simp [f0]) (by simp [f1]) (by simp [f4]) (by simp) (by simp) (by simp)
  rcases (show op = 8 ∨ op = 9 ∨ op = 10 ∨ op = 11 ∨ op = 12 ∨ op = 13 ∨ op = 14 by omega) with rfl | rfl | rfl | rfl | rfl | rfl | rfl
  all_goals
    simp [f0, f1, f4, f5, f6, hst, Hp.get_new, Hp.get_put, o1, o2, rxr, z1, ta, tn, wn]
    exact plain 2 0 [] _ _ (by omega) rfl (by omega) rfl rfl (by simp [hst]) (fun b hb => by simp [Hp.get_new, Hp.get_put, old_ne hb]) (by simp [Hp.get_new, Hp.get_put]) (by simp; try omega) (by simp [f0]) (by simp [f1]) (by simp [f4]) (by simp) (by simp) (by simp)
end Go.AM.YtlcadokmhfjacaaGreatDoorT
/- The maker of trees: expressions and statements. -/
set_option linter.unusedVariables false
set_option linter.unusedSimpArgs false
set_option maxRecDepth 100000
namespace Go.AM.YtlcadokmhfjacaaGreatDoorT
open Go Go.AM Go.Proofs
theorem nextX_ok {m : MS} (h : ∀ x ∈ m.l, x.ok) : (nextX m).ok := by
  unfold nextX
  split
  · exact ⟨by decide, by decide, by decide, by decide⟩
  · rename_i x r hx
    exact h x (by rw [hx]; simp)
theorem expr_ok {f : Nat} (hE : ExprOk f) (hS : StmtsOk f) : ExprOk (f + 1) := by
  intro deep m H mr hd hd1 hd2 hst hM hok hlo hup
  refine wf77 (wp_sound _ ?_)
  change wp tab (.seq (.reg R77_0) (.seq (.reg R77_1) (.seq (.reg R77_2) (.seq (.seq (.reg R77_3) (.cond (.tmp 24) (.reg R77_4) .skip)) W77)))) _ _ _
  have hml := hM.lt
  have hp : 1 ≤ 8 ^ f := Nat.pow_pos (by omega)
  rw [Nat.pow_succ] at hlo
  simp [hst]
  have e0 : ∀ o, Ext (eqR mr) H (H.new o) := fun o => Ext.new hst o
  refine (next_ok (m := m) (by simp [hst]) (hM.ext (X := noX) (Ext.new hst _) fun _ _ h => h) ⟨by omega, hup⟩).mono ?_
  rintro w H2 ⟨rfl, hM2, hX2⟩
  have s2 := hX2.st
  have l2 := hX2.le
  simp at l2
  have hx := nextX_ok hok
  have hm1 : (nextM m).left = m.left - 1 := rfl
  have hok1 : ∀ y ∈ (nextM m).l, y.ok := fun y hy => hok y (List.mem_of_mem_tail hy)
  have hop : exprP (f + 1) deep m = (let x := nextX m
    let m1 := nextM m
    let op := opP deep m1 x
    let b := if op = 17 then stmtsP (stmtP f (deep - 1)) (x.n % 3) m1 else ([], m1)
    let ps := manyP (exprP f (deep - 1)) (countP op x) b.2
    (.ex op (numP op x) (textP op x) ps.1 (paramsP op x) b.1, ps.2)) := by rw [exprP]
  simp only at hop
  rw [hop]
  generalize nextX m = x at *
  generalize hm1' : nextM m = m1 at *
  have hxd := hx.d
  have hxs : x.cs = [.int .u8 x.d, .int .u8 x.a, .int .u16 x.n, .int .u8 x.s] := rfl
  have hl2 : mr < H2.next := by omega
  have g0 : H2.get H.next = some (exR (.int .i64 0) (.int .i64 0) (.str []) .nils .nils .nils) := by rw [hX2.get _ (by simp) (fun h => by have : H.next = mr := h; omega)]; simp [Hp.get_new]
  have td : (x.d : Int).tmod 18 = ((x.d % 18 : Nat) : Int) := by rw [Int.tmod_eq_emod_of_nonneg (by omega)]; omega
  have hD : x.d % 18 < 18 := Nat.mod_lt _ (by omega)
  have hopp : opP deep m1 x = if deep ≤ 0 ∨ m1.left ≤ 0 then (x.d % 18) % 6 else x.d % 18 := rfl
  generalize x.d % 18 = D at *
  have wD : wr .i64 (D : Int) = (D : Int) := wr_i64 (by omega) (by omega)
  have tD : (D : Int).tmod 6 = ((D % 6 : Nat) : Int) := by rw [Int.tmod_eq_emod_of_nonneg (by omega)]; omega
  obtain ⟨⟨lv, y1, y2⟩, y3⟩ := hM2
  rw [hxs]
  have hyo := old_ne y3
  have hM2' : MkAt H2 mr m1 := ⟨⟨lv, y1, y2⟩, y3⟩
  -- the ops' case
  have fin : ∀ (op : Nat) (F : Fr), opP deep m1 x = op → op < 18 → (6 ≤ op → 0 < deep) → F.get 0 = some (.ptr mr 0) → F.get 1 = some (.int .i64 deep) → F.get 4 = some (.ptr H.next 0) → F.get 5 = some (.ptr H2.next 0) → F.get 6 = some (.int .i64 op) →
    wp tab W77 F ((H2.new (.row 53 4 false [.int .u8 0, .int .u8 0, .int .u16 0, .int .u8 0])).put H2.next (.row 53 4 false [.int .u8 x.d, .int .u8 x.a, .int .u16 x.n, .int .u8 x.s])) (resQ tab [.cell 4 46] fun v H' => ∃ cs, v = .agg cs ∧ MkAt H' mr (manyP (exprP f (deep - 1)) (countP (opP deep m1 x) x) (if opP deep m1 x = 17 then stmtsP (stmtP f (deep - 1)) (x.n % 3) m1 else ([], m1)).2).2 ∧ ExpAt (since H H') H' (.ex (opP deep m1 x) (numP (opP deep m1 x) x) (textP (opP deep m1 x) x) (manyP (exprP f (deep - 1)) (countP (opP deep m1 x) x) (if opP deep m1 x = 17 then stmtsP (stmtP f (deep - 1)) (x.n % 3) m1 else ([], m1)).2).1 (paramsP (opP deep m1 x) x) (if opP deep m1 x = 17 then stmtsP (stmtP f (deep - 1)) (x.n % 3) m1 else ([], m1)).1) cs ∧ Ext (eqR mr) H H') := by
    intro op F h1 h2 h3 k0 k1 k4 k5 k6
    rw [h1]
    have z1 : ∀ o o', ((H2.new o).put H2.next o').get H.next = some (exR (.int .i64 0) (.int .i64 0) (.str []) .nils .nils .nils) := fun o o' => by
      rw [get_put_ne _ (by omega), get_new_ne _ (by omega)]; exact g0
    refine expr_rest hE hS hd (by omega) hd2 hx h2 h3 hok1 (by omega) (by omega) (by simp [s2]) (hM2'.of_keep (by simp) (by simp [Hp.get_new, Hp.get_put, hyo]) fun b _ _ _ hb _ _ => by simp [Hp.get_new, Hp.get_put, old_ne hb]) hml ⟨by simp [s2], by simp; omega, fun b hb hx => ?_⟩ k0 k1 k4 k5 k6 (Nat.le_refl _) (by omega) (by simp) ⟨_, z1 _ _, rfl⟩ (by simp [Hp.get_put, hxs]) ?_
    · rw [get_put_ne _ (by omega), get_new_ne _ (by omega), hX2.get b (by simp; omega) hx, get_new_ne _ (by omega)]
    · rintro b rfl ps rfl cs H' a1 a2 a3
      exact ⟨cs, rfl, a1, a2, a3⟩
  by_cases hc0 : deep ≤ 0
  · simp [s2, td, wD, Hp.get_new, y1, hyo, hc0, tD]
    trace_state
    exact fin (D % 6) _ (by rw [hopp, if_pos (.inl hc0)]) (by omega) (by omega) (by simp) (by simp) (by simp) (by simp) (by simp)
  · by_cases hc1 : m1.left ≤ 0
    · simp [s2, td, wD, Hp.get_new, Hp.get_put, y1, hyo, hc0, hc1, tD]
      exact fin (D % 6) _ (by rw [hopp, if_pos (.inr hc1)]) (by omega) (by omega) (by simp) (by simp) (by simp) (by simp) (by simp)
    · simp [s2, td, wD, Hp.get_new, Hp.get_put, y1, hyo, hc0, hc1, tD]
      exact fin D _ (by rw [hopp, if_neg (by omega)]) hD (by omega) (by simp) (by simp) (by simp) (by simp) (by simp)
end Go.AM.YtlcadokmhfjacaaGreatDoorT
/- The maker of trees: statements. -/
set_option linter.unusedVariables false
set_option linter.unusedSimpArgs false
set_option maxRecDepth 100000
namespace Go.AM.YtlcadokmhfjacaaGreatDoorT
open Go Go.AM Go.Proofs
/-- The row of a statement that is being made. -/
abbrev stR (c0 c1 v : V) : Ob := .row 42 6 false [c0, c1, v, .nils, .nils, .int .i64 0]
structure I45 (c : Nat) (g : MS → Tx × MS) (K : Nat) (m0 : MS) (H0 : Hp) (mr re r0 : Nat) (deep : Int) (c0 c1 : V) (rx : Nat) (x : X4) (i : Nat) (ts : List Tx) (mi : MS) (v : V) (F : Fr) (H : Hp) : Prop where
  len : ts.length = i
  le : i ≤ K
  many : manyP g K m0 = (ts ++ (manyP g (K - i) mi).1, (manyP g (K - i) mi).2)
  mka : MkAt H mr mi
  dec : Dec (c * i) m0 mi
  row : H.get re = some (stR c0 c1 v)
  re0 : H0.next ≤ re
  re1 : re < H.next
  mr0 : mr < H0.next
  gro : Gro H0 H (threeR re r0 rx) 46 v ts
  ext : Ext (eqR mr) H0 H
  f0 : F.get 0 = some (.ptr mr 0)
  f1 : F.get 1 = some (.int .i64 deep)
  f4 : F.get 4 = some (.ptr r0 0)
  f6 : F.get 6 = some (.ptr re 0)
  f5 : F.get 5 = some (.ptr rx 0)
  f50 : F.get 50 = some (.int .i64 K)
  f51 : F.get 51 = some (.int .i64 i)
  r00 : H0.next ≤ r0
  r01 : r0 < rx
  r02 : rx < re
  r0r : ∃ cs, H.get r0 = some (.row 42 6 false cs) ∧ cs.length = 6
  rxr : H.get rx = some (.row 53 4 false x.cs)
theorem sparts_loop {f : Nat} (hE : ExprOk f) {deep : Int} {K : Nat} (hd : 0 < K → 2 * max (deep - 1) 0 + 1 ≤ (f : Int)) (hd1 : (f : Int) + 1 - 100000 ≤ deep) (hd2 : deep ≤ 100) (hK : K ≤ 4) {m0 : MS} {H0 : Hp} {mr re r0 : Nat} {c0 c1 : V} {rx : Nat} {x : X4} {F : Fr} {H : Hp} {Q : PC} {v : V} (hok : ∀ x ∈ m0.l, x.ok) (hlo : -1000000000 + ((8 ^ f : Nat) : Int) * 4 ≤ m0.left) (hup : m0.left ≤ 1000)
    (h0 : I45 (8 ^ f) (exprP f (deep - 1)) K m0 H0 mr re r0 deep c0 c1 rx x 0 [] m0 v F H)
    (hQ : ∀ ts mi v F' H', I45 (8 ^ f) (exprP f (deep - 1)) K m0 H0 mr re r0 deep c0 c1 rx x K ts mi v F' H' → Q (.exit 1) F' H') : WC tab (.loop L47_0) F H Q := by
  refine loop_of (fun k F H => ∃ i ts mi v, i + k = K ∧ I45 (8 ^ f) (exprP f (deep - 1)) K m0 H0 mr re r0 deep c0 c1 rx x i ts mi v F H) (m := K) ⟨0, [], m0, v, by omega, h0⟩ ?_
  rintro k F H ⟨i, ts, mi, v, hi, I⟩
  have hst := I.gro.st
  have f0 := I.f0; have f1 := I.f1; have f4 := I.f4; have f5 := I.f5; have f6 := I.f6; have f50 := I.f50; have f51 := I.f51
  by_cases hlt : i < K
  · have hlt' : (i : Int) < (K : Int) := by omega
    have hw := wr_succ (show i < 1000000000 by omega)
    have hwd : wr .i64 (deep - 1) = deep - 1 := wr_z (by omega) (by omega)
    have hdec := I.dec
    have hmul : 8 ^ f * i ≤ 8 ^ f * 3 := Nat.mul_le_mul_left _ (by omega)
    have q2 : -1000000000 + ((8 ^ f : Nat) : Int) ≤ mi.left := by have := hdec.lo; omega
    have q3 : mi.left ≤ 1000 := Int.le_trans hdec.up hup
    simp [L47_0, f0, f1, f4, f5, f6, f50, f51, hlt, hlt', hst, hwd]
    refine (hE (deep - 1) mi H mr (hd (by omega)) (by omega) (by omega) hst I.mka (fun x hx => hok x (hdec.sub x hx)) q2 q3).mono ?_
    rintro w H2 ⟨cs, rfl, hM2, hT2, hX2⟩
    obtain ⟨d0, d1, d2, d3, d4, d5, rfl, n0, n1, n2, n3, n4, n5⟩ := hT2.six
    have s2 := hX2.st
    have l2 := hX2.le
    have hrl := I.re1; have hr0 := I.re0; have hm0 := I.mr0; have h00 := I.r00; have h01 := I.r01; have h02 := I.r02
    have hmre : ¬ re = mr := by omega
    have g2 : H2.get re = some (stR c0 c1 v) := by rw [hX2.get re hrl (fun h => hmre h)]; exact I.row
    obtain ⟨l, hsl, hel⟩ := I.gro.sl
    have hev := hsl.eqv
    have hrows := I.gro.rows
    have hsl2 : SlAt H2.bump 46 6 v ts.length l := hsl.of_get fun b hb => by
      have := hrows b hb
      show H2.get b = H.get b
      exact hX2.get b this.2.1 (fun h => by have : b = mr := h; omega)
    have hgr := I.row
    simp [s2, f6, g2, hgr, hev, hst, n0, n1, n2, n3, n4, n5]
    have hlen := I.len
    have hle := I.le
    refine wpD_app1 (H := H2.bump) (e0 := 46) (cells := [d0, d1, d2, d3, d4, d5]) (by simp [descOf]) ty46 (by decide) (by simp [f6]) (by simp) hsl2 (fun b hb => ⟨by have := (hrows b hb).2.1; show b < H2.next + 1; omega, by simp [s2]⟩) rfl (by show (ts.length + 1) * 104 ≤ _; omega) (by omega) (by simp [s2]) fun v' H3 hS hA => ?_
    obtain ⟨kre1, kre2⟩ := hA.keep re (by show re < H2.next + 1; omega) (fun h => (hrows re h).2.2 (.inl rfl)) (by simp [s2])
    have kre3 : H3.get re = some (stR c0 c1 v) := kre1.trans g2
    have hc' := hS.cells
    have ho' := hS.one
    simp [f6, kre2, kre3, hc', ho', f51, hw]
    have hnx := hA.le
    have hbn : H2.bump.next = H2.next + 1 := rfl
    rw [hbn] at hnx
    have hg4 : ∀ b, ¬ threeR re r0 rx b → ((H3.bump.flush.put re (stR c0 c1 v')).bump).get b = H3.flush.get b := fun b hb => by
      have : b ≠ re := fun h => hb (.inl h)
      simp [Hp.get_put, two_ne this]
    have hs4 : ((H3.bump.flush.put re (stR c0 c1 v')).bump).stale = [] := by simp
    have hn4 : H3.next ≤ ((H3.bump.flush.put re (stR c0 c1 v')).bump).next := by simp; omega
    have hgre : ((H3.bump.flush.put re (stR c0 c1 v')).bump).get re = some (stR c0 c1 v') := by simp
    obtain ⟨G4, keep, st1⟩ := I.gro.step (H4 := (H3.bump.flush.put re (stR c0 c1 v')).bump) (X := eqR mr) hsl hel (fun b hb => by rcases hb with h | h | h <;> omega) hX2 (fun b hb _ h => by have : b = mr := h; omega) hT2 hS (.inr rfl) hA hs4 hn4 hg4
    have hvn : ∀ b, b < H0.next → b ∉ rowsOf v := fun b hb h => by have := (hrows b h).1; omega
    have hX4 : Ext (eqR mr) H0 ((H3.bump.flush.put re (stR c0 c1 v')).bump) := ⟨hs4, G4.le, fun b hb hx => by
      have hl0 := I.gro.le
      rw [keep b (by omega) (fun h => by rcases h with h | h | h <;> omega) (hvn b hb), hX2.get b (by omega) hx]
      exact I.ext.get b hb hx⟩
    have hM4 : MkAt ((H3.bump.flush.put re (stR c0 c1 v')).bump) mr (exprP f (deep - 1) mi).2 := hM2.of_keep (by omega) (keep mr (Nat.lt_of_lt_of_le hm0 (Nat.le_trans I.gro.le l2)) (fun h => by rcases h with h | h | h <;> omega) (hvn mr hm0)) fun b e ro cs hb hbm hgb => keep b hb (fun h => by
      rcases h with h | h | h
      · subst h; rw [g2] at hgb; cases hgb
      · obtain ⟨cs', z1, _⟩ := I.r0r
        subst h; rw [hX2.get b (by omega) (fun h => by have : b = mr := h; omega), z1] at hgb; cases hgb
      · have z1 := I.mr0; have z2 := I.r00; have z3 := I.r01
        subst h; omega) (fun h => by
      obtain ⟨cs', hc2⟩ := hsl2.own b h
      have : H2.get b = _ := hc2
      rw [this] at hgb; cases hgb)
    refine ⟨k - 1, by omega, i + 1, by omega, ts ++ [(exprP f (deep - 1) mi).1], (exprP f (deep - 1) mi).2, v', ?_⟩
    have hd1 : Dec (8 ^ f * (i + 1)) m0 (exprP f (deep - 1) mi).2 := by rw [Nat.mul_succ]; exact hdec.trans (exprP_dec f (deep - 1) mi)
    refine ⟨by simp [hlen], by omega, manyP_step I.many hlt, hM4, hd1, hgre, hr0, ?_, hm0, G4, hX4, by simp [f0], by simp [f1], by simp [f4], by simp [f6], by simp [f5], by simp [f50], by simp, h00, h01, h02, ?_, ?_⟩
    · show re < ((H3.bump.flush.put re (stR c0 c1 v')).bump).next
      have := hn4; have := hA.le; have : H2.bump.next = H2.next + 1 := rfl; omega
    · obtain ⟨cs, z1, z2⟩ := I.r0r
      refine ⟨cs, ?_, z2⟩
      obtain ⟨kr1, kr2⟩ := hA.keep r0 (by show r0 < H2.next + 1; omega) (fun h => (hrows r0 h).2.2 (.inr (.inl rfl))) (by simp [s2])
      have hne : r0 ≠ re := by omega
      have e1 : ((H3.bump.flush.put re (stR c0 c1 v')).bump).get r0 = H2.get r0 := by simp [Hp.get_put, two_ne hne, kr1, kr2]
      refine e1.trans ?_
      rw [hX2.get r0 (by omega) (fun h => by have : r0 = mr := h; omega)]
      exact z1
    · obtain ⟨kr1, kr2⟩ := hA.keep rx (by show rx < H2.next + 1; omega) (fun h => (hrows rx h).2.2 (.inr (.inr rfl))) (by simp [s2])
      have hne : rx ≠ re := by omega
      have e1 : ((H3.bump.flush.put re (stR c0 c1 v')).bump).get rx = H2.get rx := by simp [Hp.get_put, two_ne hne, kr1, kr2]
      refine e1.trans ?_
      rw [hX2.get rx (by omega) (fun h => by have : rx = mr := h; omega)]
      exact I.rxr
  · have hlt' : ¬ (i : Int) < (K : Int) := by omega
    have : i = K := by have := I.le; omega
    subst this
    simp [L47_0, f0, f1, f4, f5, f6, f50, f51, hlt', hst]
    exact hQ _ _ _ _ _ ⟨I.len, I.le, I.many, I.mka, I.dec, I.row, I.re0, I.re1, I.mr0, I.gro, I.ext, by simp [f0], by simp [f1], by simp [f4], by simp [f6], by simp [f5], by simp [f50], by simp [f51], I.r00, I.r01, I.r02, I.r0r, I.rxr⟩
end Go.AM.YtlcadokmhfjacaaGreatDoorT
/- The maker of trees: statements. -/
set_option linter.unusedVariables false
set_option linter.unusedSimpArgs false
set_option maxRecDepth 100000
namespace Go.AM.YtlcadokmhfjacaaGreatDoorT
open Go Go.AM Go.Proofs
/-- The row of a statement, whole. -/
abbrev stF (c0 c1 v vb ve : V) : Ob := .row 42 6 false [c0, c1, v, vb, ve, .int .i64 0]
abbrev Kt (H0 : Hp) (re r0 : Nat) : Nat → Prop := fun x => H0.next ≤ x ∧ x ≠ re ∧ x ≠ r0
def T47 : SCode := .seq (.reg R47_24) .ret
theorem stmt_fin {H0 H : Hp} {F : Fr} {mr re r0 kind : Nat} {name : List UInt8} {v vb ve : V} {es b e : List Tx} {m : MS} (hst : H.stale = []) (row : H.get re = some (stF (.int .i64 kind) (.str name) v vb ve)) (r0r : ∃ cs, H.get r0 = some (.row 42 6 false cs) ∧ cs.length = 6)
    (f4 : F.get 4 = some (.ptr r0 0)) (f6 : F.get 6 = some (.ptr re 0)) (t1 : TreesAt (Kt H0 re r0) H es v) (t2 : TreesAt (Kt H0 re r0) H b vb) (t3 : TreesAt (Kt H0 re r0) H e ve) (hM : MkAt H mr m) (mr0 : mr < H0.next) (ext : Ext (eqR mr) H0 H) (r00 : H0.next ≤ r0) {Qf : V → Hp → Prop}
    (hQ : ∀ cs H', MkAt H' mr m → ExpAt (since H0 H') H' (.st kind name es b e 0) cs → Ext (eqR mr) H0 H' → Qf (.agg cs) H') : wp tab T47 F H (resQ tab [.cell 4 42] Qf) := by
  obtain ⟨cs, z1, z2⟩ := r0r
  have q1 := t1.one; have q2 := t2.one; have q3 := t3.one
  have q4 := t1.cells; have q5 := t2.cells; have q6 := t3.cells
  match cs, z2 with
  | [a0, a1, a2, a3, a4, a5], _ =>
    unfold T47
    simp [f4, f6, hst, row, z1, q1, q2, q3, q4, q5, q6]
    have hgo : ∀ b, b ≠ r0 → (H.put r0 (.row 42 6 false [.int .i64 kind, .str name, v, vb, ve, .int .i64 0])).get b = H.get b := fun b hb => get_put_ne _ hb
    have st : Stays (Kt H0 re r0) (since H0 (H.put r0 (.row 42 6 false [.int .i64 kind, .str name, v, vb, ve, .int .i64 0]))) H (H.put r0 (.row 42 6 false [.int .i64 kind, .str name, v, vb, ve, .int .i64 0])) :=
      ⟨fun b hb hx => ⟨hb.1, hx⟩, fun b hb hx => hgo b hb.2.2, Nat.le_refl _⟩
    refine hQ _ _ ?_ ?_ ?_
    · refine hM.of_keep (Nat.le_refl _) (hgo mr (by omega)) fun b e ro cs hb hbm hgb => hgo b fun h => ?_
      subst h; rw [z1] at hgb; cases hgb
    · simp only [ExpAt]
      exact ⟨v, vb, ve, rfl, t1.mono st, t2.mono st, t3.mono st⟩
    · exact ext.putX _ (.inr r00)
def Y47 : SCode := .seq (.seq (.reg R47_18) (.block 3 (.seq (.seq (.reg R47_19) (.cond (.tmp 65) (.skip) (.reg R47_20))) (.cond (.tmp 65) (.dreg R47_21) (.seq (.reg R47_22) (.cond (.tmp 86) (.reg R47_23) (.skip))))))) T47
theorem stmt_tail {f : Nat} (hS : StmtsOk f) {deep : Int} {K kind : Nat} (hk9 : kind < 9) (hkd : kind = 3 ∨ kind = 7 ∨ kind = 4 → 0 < deep) (hd : 2 * max deep 0 + 2 ≤ ((f + 1 : Nat) : Int)) (hd1 : (f : Int) + 1 - 100000 ≤ deep) (hd2 : deep ≤ 100) {m0 : MS} {H0 : Hp} {mr re r0 : Nat} {name : List UInt8} {rx : Nat} {x : X4} (hx : x.ok) {ts : List Tx} {mi : MS} {v : V} {F : Fr} {H : Hp} {Qf : V → Hp → Prop} (hok : ∀ x ∈ m0.l, x.ok) (hup : m0.left ≤ 1000)
    (hlo : kind = 3 ∨ kind = 7 ∨ kind = 4 → -1000000000 + ((8 ^ f : Nat) : Int) * 5 ≤ mi.left)
    (I : I45 (8 ^ f) (exprP f (deep - 1)) K m0 H0 mr re r0 deep (.int .i64 kind) (.str name) rx x K ts mi v F H)
    (hQ : ∀ b : List Tx × MS, b = (if kind = 3 ∨ kind = 7 ∨ kind = 4 then stmtsP (stmtP f (deep - 1)) (x.a % 3) mi else ([], mi)) → ∀ e : List Tx × MS, e = (if kind = 3 ∨ kind = 7 then stmtsP (stmtP f (deep - 1)) (x.n % 3) b.2 else ([], b.2)) → ∀ cs H', MkAt H' mr e.2 → ExpAt (since H0 H') H' (.st kind name ts b.1 e.1 0) cs → Ext (eqR mr) H0 H' → Qf (.agg cs) H') :
    wp tab (.seq (.seq (.reg R47_18) (.block 3 (.seq (.seq (.reg R47_19) (.cond (.tmp 65) (.skip) (.reg R47_20))) (.cond (.tmp 65) (.dreg R47_21) (.seq (.reg R47_22) (.cond (.tmp 86) (.reg R47_23) (.skip))))))) T47) F H (resQ tab [.cell 4 42] Qf) := by
  have hst := I.gro.st
  have f0 := I.f0; have f1 := I.f1; have f4 := I.f4; have f5 := I.f5; have f6 := I.f6
  have hrow := I.row; have hgx := I.rxr
  have hxs : x.cs = [.int .u8 x.d, .int .u8 x.a, .int .u16 x.n, .int .u8 x.s] := rfl
  rw [hxs] at hgx
  have hmr0 := I.mr0; have r00 := I.r00; have r01 := I.r01; have r02 := I.r02; have re1 := I.re1
  have hle := I.gro.le
  have hrows := I.gro.rows
  have t1 : TreesAt (Kt H0 re r0) H ts v := I.gro.trees (fun b h1 h2 h3 => ⟨⟨h1, fun h => h3 (.inl h), fun h => h3 (.inr (.inl h))⟩, rfl⟩) (Nat.le_refl _)
  have ta : (x.a : Int).tmod 3 = ((x.a % 3 : Nat) : Int) := by rw [Int.tmod_eq_emod_of_nonneg (by omega)]; omega
  have tn : (x.n : Int).tmod 3 = ((x.n % 3 : Nat) : Int) := by rw [Int.tmod_eq_emod_of_nonneg (by omega)]; omega
  have ha3 : x.a % 3 < 3 := Nat.mod_lt _ (by omega)
  have hn3 : x.n % 3 < 3 := Nat.mod_lt _ (by omega)
  generalize x.a % 3 = A at *
  generalize x.n % 3 = N at *
  have wA : wr .i64 (A : Int) = (A : Int) := wr_i64 (by omega) (by omega)
  have wN : wr .i64 (N : Int) = (N : Int) := wr_i64 (by omega) (by omega)
  have wd : wr .i64 (deep - 1) = deep - 1 := wr_z (by omega) (by omega)
  have hdec := I.dec
  have hp : 1 ≤ 8 ^ f := Nat.pow_pos (by omega)
  have hoki : ∀ y ∈ mi.l, y.ok := fun y hy => hok y (hdec.sub y hy)
  have hupi : mi.left ≤ 1000 := Int.le_trans hdec.up hup
  have q1 := I.gro.sl
  obtain ⟨cs0, z1, z2⟩ := I.r0r
  have kp : ∀ H2, Ext (eqR mr) H H2 → (∀ b, H0.next ≤ b → b < H.next → H2.get b = H.get b) ∧ TreesAt (Kt H0 re r0) H2 ts v := fun H2 hX => by
    have g : ∀ b, H0.next ≤ b → b < H.next → H2.get b = H.get b := fun b h1 h2 => hX.get b h2 (fun h => by have : b = mr := h; omega)
    exact ⟨g, t1.mono ⟨fun b h1 h2 => h1, fun b h1 h2 => g b h1.1 h2, hX.le⟩⟩
  have hmz : ∀ {H2 : Hp} {m : MS} {o : Ob}, MkAt H2 mr m → H2.get re = some (stR (.int .i64 kind) (.str name) v) → MkAt (H2.put re o) mr m := fun {H2 m o} h1 h2 => h1.of_keep (by simp) (get_put_ne _ (by omega)) fun b e ro cs hb hbm hgb => get_put_ne _ (fun h => by subst h; rw [h2] at hgb; cases hgb)
  have hpT : ∀ {H2 : Hp} {l : List Tx} {u : V} {o : Ob}, TreesAt (Kt H0 re r0) H2 l u → TreesAt (Kt H0 re r0) (H2.put re o) l u := fun {H2 l u o} h => h.mono ⟨fun b h1 _ => h1, fun b h1 _ => get_put_ne _ h1.2.1, by simp⟩
  have hTs : ∀ {H2 H3 : Hp} {l : List Tx} {u : V}, H.next ≤ H2.next → TreesAt (since H2 H3) H3 l u → TreesAt (Kt H0 re r0) H3 l u := fun {H2 H3 l u} h1 h => h.mono ⟨fun b hb _ => ⟨by omega, by omega, by omega⟩, fun _ _ _ => rfl, Nat.le_refl _⟩
  have hsd : ∀ n m, Dec (8 ^ f * n) m (stmtsP (stmtP f (deep - 1)) n m).2 := fun n m => stmtsP_dec (fun m => stmtP_dec f (deep - 1) m) n m
  by_cases h4 : kind = 4
  · subst h4
    have hdp := hkd (by omega)
    have hl := hlo (by omega)
    simp [f0, f1, f4, f5, f6, hst, hrow, hgx, ta, tn, wA, wN, wd]
    refine (hS (deep - 1) A mi H mr (by omega) (by omega) (by omega) (by omega) hst I.mka hoki (by omega) hupi).mono ?_
    rintro w H2 ⟨hM2, hT2, hX2⟩
    obtain ⟨g, t1'⟩ := kp H2 hX2
    have s2 := hX2.st
    have l2 := hX2.le
    have gre : H2.get re = some (stR (.int .i64 4) (.str name) v) := by rw [g re (by omega) re1]; exact hrow
    have w1 := hT2.one; have w2 := hT2.cells
    simp [s2, f6, gre, w1, w2]
    have d := hQ (stmtsP (stmtP f (deep - 1)) A mi) (if_pos (by omega)).symm ([], (stmtsP (stmtP f (deep - 1)) A mi).2) (if_neg (by omega)).symm
    refine stmt_fin (kind := 4) (name := name) (es := ts) (v := v) (vb := w) (e := []) (ve := .nils) (by simp [s2]) (by simp) ⟨cs0, by rw [get_put_ne _ (by omega), g r0 r00 (by omega)]; exact z1, z2⟩ (by simp [f4]) (by simp [f6]) (hpT t1') (hpT (hTs (Nat.le_refl _) hT2)) noTrees (hmz hM2 gre) hmr0 ⟨by simp [s2], by simp; omega, fun b hb hx => by rw [get_put_ne _ (by omega), hX2.get b (by omega) hx]; exact I.ext.get b hb hx⟩ r00 d
  by_cases h37 : kind = 3 ∨ kind = 7
  · have hdp := hkd (by omega)
    have hl := hlo (by omega)
    have h374 : kind = 3 ∨ kind = 7 ∨ kind = 4 := by omega
    have d := hQ (stmtsP (stmtP f (deep - 1)) A mi) (if_pos h374).symm (stmtsP (stmtP f (deep - 1)) N (stmtsP (stmtP f (deep - 1)) A mi).2) (if_pos h37).symm
    have hds := hsd A mi
    have hmul : 8 ^ f * A ≤ 8 ^ f * 2 := Nat.mul_le_mul_left _ (by omega)
    have call1 := hS (deep - 1) A mi H mr (by omega) (by omega) (by omega) (by omega) hst I.mka hoki (by omega) hupi
    have call2 : ∀ H2, H2.stale = [] → MkAt H2 mr (stmtsP (stmtP f (deep - 1)) A mi).2 → _ := fun H2 h1 h2 => hS (deep - 1) N _ H2 mr (by omega) (by omega) (by omega) (by omega) h1 h2 (fun y hy => hoki y (hds.sub y hy)) (by have := hds.lo; omega) (Int.le_trans hds.up hupi)
    have endc : ∀ {F' : Fr} {w w2 : V} {H2 H3 : Hp}, MkAt H3 mr (stmtsP (stmtP f (deep - 1)) N (stmtsP (stmtP f (deep - 1)) A mi).2).2 → TreesAt (since H H2) H2 (stmtsP (stmtP f (deep - 1)) A mi).1 w → Ext (eqR mr) H H2 → TreesAt (since H2.bump H3) H3 (stmtsP (stmtP f (deep - 1)) N (stmtsP (stmtP f (deep - 1)) A mi).2).1 w2 → Ext (eqR mr) H2.bump H3 → F'.get 4 = some (.ptr r0 0) → F'.get 6 = some (.ptr re 0) →
        ∀ H5, H5.stale = [] → H3.next ≤ H5.next → H5.get re = some (stF (.int .i64 kind) (.str name) v w w2) → (∀ b, b ≠ re → H5.get b = H3.get b) → wp tab T47 F' H5 (resQ tab [.cell 4 42] Qf) := fun {F' w w2 H2 H3} hM3 hT2 hX2 hT3' hX3' k4 k6 H5 h1 h2 h3 h5 => by
      have hbn : H2.bump.next = H2.next + 1 := rfl
      have hT3 : TreesAt (since H2 H3) H3 (stmtsP (stmtP f (deep - 1)) N (stmtsP (stmtP f (deep - 1)) A mi).2).1 w2 := hT3'.mono ⟨fun b hb _ => ⟨by omega, hb.2⟩, fun _ _ _ => rfl, Nat.le_refl _⟩
      have hX3 : Ext (eqR mr) H2 H3 := ⟨hX3'.st, by have := hX3'.le; omega, fun b hb hx => hX3'.get b (by omega) hx⟩
      have hX23 := hX2.trans hX3
      obtain ⟨g, t1'⟩ := kp H3 hX23
      have l2 := hX2.le
      have l3 := hX3.le
      have m1 : Stays (Kt H0 re r0) (Kt H0 re r0) H3 H5 := ⟨fun b h _ => h, fun b h _ => h5 b h.2.1, h2⟩
      have tb : TreesAt (Kt H0 re r0) H3 (stmtsP (stmtP f (deep - 1)) A mi).1 w := hT2.mono ⟨fun b hb _ => ⟨by omega, by omega, by omega⟩, fun b hb hx => hX3.get b hb.2 (fun h => by have : b = mr := h; omega), l3⟩
      have gre : H3.get re = some (stR (.int .i64 kind) (.str name) v) := by rw [g re (by omega) re1]; exact hrow
      exact stmt_fin h1 h3 ⟨cs0, by rw [h5 r0 (by omega), g r0 r00 (by omega)]; exact z1, z2⟩ k4 k6 (t1'.mono m1) (tb.mono m1) ((hTs l2 hT3).mono m1) (hM3.of_keep h2 (h5 mr (by omega)) fun b e ro cs hb hbm hgb => h5 b (fun h => by subst h; rw [gre] at hgb; cases hgb)) hmr0 ⟨h1, by omega, fun b hb hx => by rw [h5 b (by omega), hX23.get b (by omega) hx]; exact I.ext.get b hb hx⟩ r00 d
    rcases h37 with rfl | rfl
    all_goals
      simp [f0, f1, f4, f5, f6, hst, hrow, hgx, ta, tn, wA, wN, wd]
      refine call1.mono ?_
      rintro w H2 ⟨hM2, hT2, hX2⟩
      obtain ⟨g, t1'⟩ := kp H2 hX2
      have s2 := hX2.st
      have l2 := hX2.le
      have gx2 := g rx (by omega) (by omega)
      have gre : H2.get re = _ := (g re (by omega) re1).trans hrow
      have w1 := hT2.one; have w2 := hT2.cells
      simp [s2, f0, f1, f5, f6, gx2, hgx, gre, w1, w2, tn, wN, wd, hst, hrow, eqV]
      refine (call2 _ (by simp [s2]) hM2.bump).mono ?_
      rintro w' H3 ⟨hM3, hT3, hX3⟩
      have s3 := hX3.st
      have l3 := hX3.le
      have g3 : H3.get re = _ := (hX3.get re (show re < H2.next + 1 by omega) (fun h => by have : re = mr := h; omega)).trans gre
      have w3 := hT3.one; have w4 := hT3.cells
      simp [s3, f6, g3, w1, w2, w3, w4, Hp.get_put]
      exact endc hM3 hT2 hX2 hT3 hX3 (by simp [f4]) (by simp [f6]) _ (by simp [s3]) (by simp; omega) (by simp [Hp.get_put]) (fun b hb => by simp [Hp.get_put, two_ne hb])
  · have hn : ¬ (kind = 3 ∨ kind = 7 ∨ kind = 4) := by omega
    have hn' : ¬ (kind = 3 ∨ kind = 7) := by omega
    have d := hQ _ rfl _ rfl
    rw [if_neg hn, if_neg hn'] at d
    rcases (show kind = 0 ∨ kind = 1 ∨ kind = 2 ∨ kind = 5 ∨ kind = 6 ∨ kind = 8 by omega) with rfl | rfl | rfl | rfl | rfl | rfl
    all_goals
      simp [f0, f1, f4, f5, f6, hst, hrow, hgx, ta, tn, wA, wN, wd]
      exact stmt_fin hst hrow ⟨cs0, z1, z2⟩ (by simp [f4]) (by simp [f6]) t1 noTrees noTrees I.mka hmr0 I.ext r00 d
end Go.AM.YtlcadokmhfjacaaGreatDoorT
/- The maker of trees: statements. -/
set_option linter.unusedVariables false
set_option linter.unusedSimpArgs false
set_option maxRecDepth 100000
namespace Go.AM.YtlcadokmhfjacaaGreatDoorT
open Go Go.AM Go.Proofs
def Z47 : SCode := .seq (.reg R47_5) (.seq (.seq (.reg R47_6) (.block 0 (.seq (.seq (.reg R47_7) (.cond (.tmp 35) (.skip) (.reg R47_8))) (.cond (.tmp 35) (.reg R47_9) (.seq (.reg R47_10) (.cond (.tmp 42) (.reg R47_11) (.seq (.reg R47_12) (.cond (.tmp 44) (.reg R47_13) (.skip))))))))) (.seq (.seq (.reg R47_14) (.block 1 (.loop L47_0))) Y47))
theorem stmt_rest {f : Nat} (hE : ExprOk f) (hS : StmtsOk f) {kind : Nat} (hk9 : kind < 9) {deep : Int} (hkd : kind = 3 ∨ kind = 7 ∨ kind = 4 → 0 < deep) (hd : 2 * max deep 0 + 2 ≤ ((f + 1 : Nat) : Int)) (hd1 : (f : Int) + 1 - 100000 ≤ deep) (hd2 : deep ≤ 100) {m0 : MS} {H0 : Hp} {mr re r0 rx : Nat} {x : X4} (hx : x.ok) {F : Fr} {H : Hp} {Qf : V → Hp → Prop} (hok : ∀ x ∈ m0.l, x.ok) (hlo : -1000000000 + ((8 ^ f : Nat) : Int) * 7 ≤ m0.left) (hup : m0.left ≤ 1000)
    (hst : H.stale = []) (hM : MkAt H mr m0) (mr0 : mr < H0.next) (ext : Ext (eqR mr) H0 H)
    (f0 : F.get 0 = some (.ptr mr 0)) (f1 : F.get 1 = some (.int .i64 deep)) (f4 : F.get 4 = some (.ptr r0 0)) (f5 : F.get 5 = some (.ptr rx 0)) (f6 : F.get 6 = some (.ptr re 0)) (r00 : H0.next ≤ r0) (r01 : r0 < rx) (r02 : rx < re) (re1 : re < H.next) (r0r : ∃ cs, H.get r0 = some (.row 42 6 false cs) ∧ cs.length = 6)
    (row : H.get re = some (.row 42 6 false [.int .i64 kind, .str [], .nils, .nils, .nils, .int .i64 0])) (rxr : H.get rx = some (.row 53 4 false x.cs))
    (hQ : ∀ es : List Tx × MS, es = manyP (exprP f (deep - 1)) (scountP kind) m0 → ∀ b : List Tx × MS, b = (if kind = 3 ∨ kind = 7 ∨ kind = 4 then stmtsP (stmtP f (deep - 1)) (x.a % 3) es.2 else ([], es.2)) → ∀ e : List Tx × MS, e = (if kind = 3 ∨ kind = 7 then stmtsP (stmtP f (deep - 1)) (x.n % 3) b.2 else ([], b.2)) → ∀ cs H', MkAt H' mr e.2 → ExpAt (since H0 H') H' (.st kind (snameP kind x) es.1 b.1 e.1 0) cs → Ext (eqR mr) H0 H' → Qf (.agg cs) H') :
    wp tab Z47 F H (resQ tab [.cell 4 42] Qf) := by
  have hp : 1 ≤ 8 ^ f := Nat.pow_pos (by omega)
  have hxs : x.cs = [.int .u8 x.d, .int .u8 x.a, .int .u16 x.n, .int .u8 x.s] := rfl
  have hle := ext.le
  -- from the loop on
  have body : ∀ (F' : Fr) (H' : Hp), H'.stale = [] → H.next ≤ H'.next → (∀ b, b < H.next → b ≠ re → H'.get b = H.get b) → H'.get re = some (stR (.int .i64 kind) (.str (snameP kind x)) .nils) → F'.get 0 = some (.ptr mr 0) → F'.get 1 = some (.int .i64 deep) → F'.get 4 = some (.ptr r0 0) → F'.get 5 = some (.ptr rx 0) → F'.get 6 = some (.ptr re 0) → F'.get 50 = some (.int .i64 (scountP kind)) → F'.get 51 = some (.int .i64 0) →
      WC tab (.loop L47_0) F' H' (blockQ 1 (sqQ tab Y47 (resQ tab [.cell 4 42] Qf))) := by
    intro F' H' a1 a2 a3 a4 k0 k1 k4 k5 k6 k50 k51
    obtain ⟨cs, z1, z2⟩ := r0r
    have hsc : scountP kind ≤ 3 := by unfold scountP; split; omega; split <;> omega
    refine sparts_loop (H0 := H0) (re := re) (r0 := r0) (rx := rx) (x := x) (c0 := .int .i64 kind) (c1 := .str (snameP kind x)) (v := .nils) hE (K := scountP kind) (m0 := m0) (fun _ => by omega) hd1 hd2 (by omega) hok (by omega) hup ⟨rfl, by omega, by simp, hM.of_keep a2 (a3 mr (by omega) (by omega)) (fun b e ro cs hb hbm hgb => a3 b hb (fun h => by subst h; rw [row] at hgb; cases hgb)), Dec.refl _ _, a4, by omega, by omega, mr0, Gro.nil a1 (by omega), ⟨a1, by omega, fun b hb hx => by rw [a3 b (by omega) (by omega)]; exact ext.get b hb hx⟩, k0, k1, k4, k6, k5, k50, k51, r00, r01, r02, ⟨cs, by rw [a3 r0 (by omega) (by omega)]; exact z1, z2⟩, by rw [a3 rx (by omega) (by omega)]; exact rxr⟩ ?_
    intro ts mi v F2 H2 I
    have hmany := I.many
    rw [Nat.sub_self, manyP] at hmany
    simp only [List.append_nil] at hmany
    simp only [bl_exit, if_true, sq_nrm]
    refine stmt_tail hS hk9 hkd hd hd1 hd2 hx hok hup (fun h => ?_) I ?_
    · have h2 := I.dec.lo
      have h1 : scountP kind ≤ 1 := by unfold scountP; rw [if_neg (by omega)]; split <;> omega
      have h3 : 8 ^ f * scountP kind ≤ 8 ^ f * 1 := Nat.mul_le_mul_left _ h1
      omega
    · intro b hb e he cs H' g1 g2 g3
      refine hQ (ts, mi) hmany.symm b hb e he cs H' g1 g2 g3
  unfold Z47
  rcases (show kind = 0 ∨ kind = 1 ∨ kind = 7 ∨ kind = 2 ∨ kind = 3 ∨ kind = 4 ∨ kind = 5 ∨ kind = 6 ∨ kind = 8 by omega) with rfl | rfl | rfl | rfl | rfl | rfl | rfl | rfl | rfl
  iterate 3
    simp [f0, f1, f4, f5, f6, hst, row, rxr, hxs]
    refine (Name_ok hst x.s).mono ?_
    rintro w H2 ⟨rfl, hX2⟩
    have s2 := hX2.st
    have l2 := hX2.le
    have g2 : H2.get re = _ := (hX2.get re re1 (fun h => h)).trans row
    simp [s2, f6, g2, Hp.get_put]
    exact body _ _ (by simp [s2]) (by simp; omega) (fun b hb hne => by simp [Hp.get_put, two_ne hne]; exact hX2.get b hb (fun h => h)) (by simp [Hp.get_put, snameP]) (by simp [f0]) (by simp [f1]) (by simp [f4]) (by simp [f5]) (by simp [f6]) (by simp [scountP]) (by simp)
  all_goals
    simp [f0, f1, f4, f5, f6, hst, row, rxr, hxs]
    exact body _ _ (by simp [hst]) (by simp) (fun b hb hne => by simp) (by simp [row, snameP]) (by simp [f0]) (by simp [f1]) (by simp [f4]) (by simp [f5]) (by simp [f6]) (by simp [scountP]) (by simp)
set_option maxHeartbeats 2000000 in
theorem stmt_ok {f : Nat} (hE : ExprOk f) (hS : StmtsOk f) : StmtOk (f + 1) := by
  intro deep m H mr hd hd1 hd2 hst hM hok hlo hup
  suffices h : ∀ Qf : V → Hp → Prop, (∀ cs H', MkAt H' mr (stmtP (f + 1) deep m).2 → ExpAt (since H H') H' (stmtP (f + 1) deep m).1 cs → Ext (eqR mr) H H' → Qf (.agg cs) H') → WF tab 47 [.ptr mr 0, .int .i64 deep] H Qf from h _ fun cs H' a b c => ⟨cs, rfl, a, b, c⟩
  intro Qf hQf
  refine wf47 (wp_sound _ ?_)
  change wp tab (.seq (.reg R47_0) (.seq (.reg R47_1) (.seq (.reg R47_2) (.seq (.seq (.reg R47_3) (.cond (.tmp 31) (.reg R47_4) (.skip))) Z47)))) _ _ _
  have hml := hM.lt
  have hp : 1 ≤ 8 ^ f := Nat.pow_pos (by omega)
  rw [Nat.pow_succ] at hlo
  simp [hst]
  refine (next_ok (m := m) (by simp [hst]) (hM.ext (X := noX) (Ext.new hst _) fun _ _ h => h) ⟨by omega, hup⟩).mono ?_
  rintro w H2 ⟨rfl, hM2, hX2⟩
  have s2 := hX2.st
  have l2 := hX2.le
  simp at l2
  have hx := nextX_ok hok
  have hm1 : (nextM m).left = m.left - 1 := rfl
  have hok1 : ∀ y ∈ (nextM m).l, y.ok := fun y hy => hok y (List.mem_of_mem_tail hy)
  have hop : stmtP (f + 1) deep m = (let x := nextX m
    let m1 := nextM m
    let k := kindP deep x
    let es := manyP (exprP f (deep - 1)) (scountP k) m1
    let b := if k = 3 ∨ k = 7 ∨ k = 4 then stmtsP (stmtP f (deep - 1)) (x.a % 3) es.2 else ([], es.2)
    let e := if k = 3 ∨ k = 7 then stmtsP (stmtP f (deep - 1)) (x.n % 3) b.2 else ([], b.2)
    (.st k (snameP k x) es.1 b.1 e.1 0, e.2)) := by rw [stmtP]
  simp only at hop
  rw [hop] at hQf
  generalize nextX m = x at *
  generalize hm1' : nextM m = m1 at *
  have hxd := hx.d
  have hxs : x.cs = [.int .u8 x.d, .int .u8 x.a, .int .u16 x.n, .int .u8 x.s] := rfl
  have hl2 : mr < H2.next := by omega
  have g0 : H2.get H.next = some (.row 42 6 false [.int .i64 0, .str [], .nils, .nils, .nils, .int .i64 0]) := by rw [hX2.get _ (by simp) (fun h => by have : H.next = mr := h; omega)]; simp [Hp.get_new]
  have td : (x.d : Int).tmod 9 = ((x.d % 9 : Nat) : Int) := by rw [Int.tmod_eq_emod_of_nonneg (by omega)]; omega
  have hD : x.d % 9 < 9 := Nat.mod_lt _ (by omega)
  have hkk : kindP deep x = if deep ≤ 0 ∧ (x.d % 9 = 3 ∨ x.d % 9 = 4 ∨ x.d % 9 = 7) then 8 else x.d % 9 := rfl
  generalize x.d % 9 = D at *
  have wD : wr .i64 (D : Int) = (D : Int) := wr_i64 (by omega) (by omega)
  obtain ⟨⟨lv, y1, y2⟩, y3⟩ := hM2
  rw [hxs]
  have hyo := old_ne y3
  have hM2' : MkAt H2 mr m1 := ⟨⟨lv, y1, y2⟩, y3⟩
  have og := old_ne (b := H.next) (n := H2.next) (by omega)
  -- the kinds' case
  have fin : ∀ (kind : Nat) (F : Fr) (H3 : Hp), kindP deep x = kind → kind < 9 → (kind = 3 ∨ kind = 7 ∨ kind = 4 → 0 < deep) → F.get 0 = some (.ptr mr 0) → F.get 1 = some (.int .i64 deep) → F.get 4 = some (.ptr H.next 0) → F.get 5 = some (.ptr H2.next 0) → F.get 6 = some (.ptr (H2.next + 1) 0) → H3.stale = [] → H3.get (H2.next + 1) = some (.row 42 6 false [.int .i64 kind, .str [], .nils, .nils, .nils, .int .i64 0]) → H3.get H2.next = some (.row 53 4 false x.cs) → H3.next = H2.next + 1 + 1 → (∀ b, b < H2.next → H3.get b = H2.get b) →
    wp tab Z47 F H3 (resQ tab [.cell 4 42] Qf) := by
    intro kind F H3 h1 h2 h3 k0 k1 k4 k5 k6 a1 a2 a3 a4 a5
    rw [h1] at hQf
    refine stmt_rest (H0 := H) (r0 := H.next) (rx := H2.next) (re := H2.next + 1) hE hS h2 h3 hd (by omega) hd2 hx hok1 (by omega) (by omega) a1 (hM2'.of_keep (by omega) (a5 mr y3) fun b _ _ _ hb _ _ => a5 b hb) hml ⟨a1, by omega, fun b hb hx => by rw [a5 b (by omega), hX2.get b (by simp; omega) hx, get_new_ne _ (by omega)]⟩ k0 k1 k4 k5 k6 (Nat.le_refl _) (by omega) (by omega) (by omega) ⟨_, by rw [a5 _ (by omega)]; exact g0, rfl⟩ a2 a3 ?_
    rintro es rfl b rfl e rfl cs H' b1 b2 b3
    exact hQf cs H' b1 b2 b3
  by_cases hc0 : deep ≤ 0
  · rcases (show D = 0 ∨ D = 1 ∨ D = 2 ∨ D = 3 ∨ D = 4 ∨ D = 5 ∨ D = 6 ∨ D = 7 ∨ D = 8 by omega) with hDD | hDD | hDD | hDD | hDD | hDD | hDD | hDD | hDD
    · subst hDD
      have hkk' : kindP deep x = 0 := by rw [hkk]; simp [hc0]
      have wk : wr .i64 (0 : Int) = 0 := rfl
      simp [s2, td, wk, Hp.get_new, Hp.get_put, y1, hyo, hc0]
      exact fin 0 _ _ hkk' (by omega) (by omega) (by simp) (by simp) (by simp) (by simp) (by simp) (by simp [s2]) (by simp [Hp.get_new, Hp.get_put]) (by simp [Hp.get_new, Hp.get_put, hxs]) (by simp) (fun b hb => by simp [Hp.get_new, Hp.get_put, old_ne hb])
    · subst hDD
      have hkk' : kindP deep x = 1 := by rw [hkk]; simp [hc0]
      have wk : wr .i64 (1 : Int) = 1 := rfl
      simp [s2, td, wk, Hp.get_new, Hp.get_put, y1, hyo, hc0]
      exact fin 1 _ _ hkk' (by omega) (by omega) (by simp) (by simp) (by simp) (by simp) (by simp) (by simp [s2]) (by simp [Hp.get_new, Hp.get_put]) (by simp [Hp.get_new, Hp.get_put, hxs]) (by simp) (fun b hb => by simp [Hp.get_new, Hp.get_put, old_ne hb])
    · subst hDD
      have hkk' : kindP deep x = 2 := by rw [hkk]; simp [hc0]
      have wk : wr .i64 (2 : Int) = 2 := rfl
      simp [s2, td, wk, Hp.get_new, Hp.get_put, y1, hyo, hc0]
      exact fin 2 _ _ hkk' (by omega) (by omega) (by simp) (by simp) (by simp) (by simp) (by simp) (by simp [s2]) (by simp [Hp.get_new, Hp.get_put]) (by simp [Hp.get_new, Hp.get_put, hxs]) (by simp) (fun b hb => by simp [Hp.get_new, Hp.get_put, old_ne hb])
    · subst hDD
      have hkk' : kindP deep x = 8 := by rw [hkk]; simp [hc0]
      have wk : wr .i64 (3 : Int) = 3 := rfl
      simp [s2, td, wk, Hp.get_new, Hp.get_put, y1, hyo, hc0]
      exact fin 8 _ _ hkk' (by omega) (by omega) (by simp) (by simp) (by simp) (by simp) (by simp) (by simp [s2]) (by simp [Hp.get_new, Hp.get_put]) (by simp [Hp.get_new, Hp.get_put, hxs]) (by simp) (fun b hb => by simp [Hp.get_new, Hp.get_put, old_ne hb])
    · subst hDD
      have hkk' : kindP deep x = 8 := by rw [hkk]; simp [hc0]
      have wk : wr .i64 (4 : Int) = 4 := rfl
      simp [s2, td, wk, Hp.get_new, Hp.get_put, y1, hyo, hc0]
      exact fin 8 _ _ hkk' (by omega) (by omega) (by simp) (by simp) (by simp) (by simp) (by simp) (by simp [s2]) (by simp [Hp.get_new, Hp.get_put]) (by simp [Hp.get_new, Hp.get_put, hxs]) (by simp) (fun b hb => by simp [Hp.get_new, Hp.get_put, old_ne hb])
    · subst hDD
      have hkk' : kindP deep x = 5 := by rw [hkk]; simp [hc0]
      have wk : wr .i64 (5 : Int) = 5 := rfl
      simp [s2, td, wk, Hp.get_new, Hp.get_put, y1, hyo, hc0]
      exact fin 5 _ _ hkk' (by omega) (by omega) (by simp) (by simp) (by simp) (by simp) (by simp) (by simp [s2]) (by simp [Hp.get_new, Hp.get_put]) (by simp [Hp.get_new, Hp.get_put, hxs]) (by simp) (fun b hb => by simp [Hp.get_new, Hp.get_put, old_ne hb])
    · subst hDD
      have hkk' : kindP deep x = 6 := by rw [hkk]; simp [hc0]
      have wk : wr .i64 (6 : Int) = 6 := rfl
      simp [s2, td, wk, Hp.get_new, Hp.get_put, y1, hyo, hc0]
      exact fin 6 _ _ hkk' (by omega) (by omega) (by simp) (by simp) (by simp) (by simp) (by simp) (by simp [s2]) (by simp [Hp.get_new, Hp.get_put]) (by simp [Hp.get_new, Hp.get_put, hxs]) (by simp) (fun b hb => by simp [Hp.get_new, Hp.get_put, old_ne hb])
    · subst hDD
      have hkk' : kindP deep x = 8 := by rw [hkk]; simp [hc0]
      have wk : wr .i64 (7 : Int) = 7 := rfl
      simp [s2, td, wk, Hp.get_new, Hp.get_put, y1, hyo, hc0]
      exact fin 8 _ _ hkk' (by omega) (by omega) (by simp) (by simp) (by simp) (by simp) (by simp) (by simp [s2]) (by simp [Hp.get_new, Hp.get_put]) (by simp [Hp.get_new, Hp.get_put, hxs]) (by simp) (fun b hb => by simp [Hp.get_new, Hp.get_put, old_ne hb])
    · subst hDD
      have hkk' : kindP deep x = 8 := by rw [hkk]; simp [hc0]
      have wk : wr .i64 (8 : Int) = 8 := rfl
      simp [s2, td, wk, Hp.get_new, Hp.get_put, y1, hyo, hc0]
      exact fin 8 _ _ hkk' (by omega) (by omega) (by simp) (by simp) (by simp) (by simp) (by simp) (by simp [s2]) (by simp [Hp.get_new, Hp.get_put]) (by simp [Hp.get_new, Hp.get_put, hxs]) (by simp) (fun b hb => by simp [Hp.get_new, Hp.get_put, old_ne hb])
  · rcases (show D = 0 ∨ D = 1 ∨ D = 2 ∨ D = 3 ∨ D = 4 ∨ D = 5 ∨ D = 6 ∨ D = 7 ∨ D = 8 by omega) with hDD | hDD | hDD | hDD | hDD | hDD | hDD | hDD | hDD
    · subst hDD
      have hkk' : kindP deep x = 0 := by rw [hkk]; simp [hc0]
      have wk : wr .i64 (0 : Int) = 0 := rfl
      simp [s2, td, wk, Hp.get_new, Hp.get_put, y1, hyo, hc0]
      exact fin 0 _ _ hkk' (by omega) (by omega) (by simp) (by simp) (by simp) (by simp) (by simp) (by simp [s2]) (by simp [Hp.get_new, Hp.get_put]) (by simp [Hp.get_new, Hp.get_put, hxs]) (by simp) (fun b hb => by simp [Hp.get_new, Hp.get_put, old_ne hb])
    · subst hDD
      have hkk' : kindP deep x = 1 := by rw [hkk]; simp [hc0]
      have wk : wr .i64 (1 : Int) = 1 := rfl
      simp [s2, td, wk, Hp.get_new, Hp.get_put, y1, hyo, hc0]
      exact fin 1 _ _ hkk' (by omega) (by omega) (by simp) (by simp) (by simp) (by simp) (by simp) (by simp [s2]) (by simp [Hp.get_new, Hp.get_put]) (by simp [Hp.get_new, Hp.get_put, hxs]) (by simp) (fun b hb => by simp [Hp.get_new, Hp.get_put, old_ne hb])
    · subst hDD
      have hkk' : kindP deep x = 2 := by rw [hkk]; simp [hc0]
      have wk : wr .i64 (2 : Int) = 2 := rfl
      simp [s2, td, wk, Hp.get_new, Hp.get_put, y1, hyo, hc0]
      exact fin 2 _ _ hkk' (by omega) (by omega) (by simp) (by simp) (by simp) (by simp) (by simp) (by simp [s2]) (by simp [Hp.get_new, Hp.get_put]) (by simp [Hp.get_new, Hp.get_put, hxs]) (by simp) (fun b hb => by simp [Hp.get_new, Hp.get_put, old_ne hb])
    · subst hDD
      have hkk' : kindP deep x = 3 := by rw [hkk]; simp [hc0]
      have wk : wr .i64 (3 : Int) = 3 := rfl
      simp [s2, td, wk, Hp.get_new, Hp.get_put, y1, hyo, hc0]
      exact fin 3 _ _ hkk' (by omega) (by omega) (by simp) (by simp) (by simp) (by simp) (by simp) (by simp [s2]) (by simp [Hp.get_new, Hp.get_put]) (by simp [Hp.get_new, Hp.get_put, hxs]) (by simp) (fun b hb => by simp [Hp.get_new, Hp.get_put, old_ne hb])
    · subst hDD
      have hkk' : kindP deep x = 4 := by rw [hkk]; simp [hc0]
      have wk : wr .i64 (4 : Int) = 4 := rfl
      simp [s2, td, wk, Hp.get_new, Hp.get_put, y1, hyo, hc0]
      exact fin 4 _ _ hkk' (by omega) (by omega) (by simp) (by simp) (by simp) (by simp) (by simp) (by simp [s2]) (by simp [Hp.get_new, Hp.get_put]) (by simp [Hp.get_new, Hp.get_put, hxs]) (by simp) (fun b hb => by simp [Hp.get_new, Hp.get_put, old_ne hb])
    · subst hDD
      have hkk' : kindP deep x = 5 := by rw [hkk]; simp [hc0]
      have wk : wr .i64 (5 : Int) = 5 := rfl
      simp [s2, td, wk, Hp.get_new, Hp.get_put, y1, hyo, hc0]
      exact fin 5 _ _ hkk' (by omega) (by omega) (by simp) (by simp) (by simp) (by simp) (by simp) (by simp [s2]) (by simp [Hp.get_new, Hp.get_put]) (by simp [Hp.get_new, Hp.get_put, hxs]) (by simp) (fun b hb => by simp [Hp.get_new, Hp.get_put, old_ne hb])
    · subst hDD
      have hkk' : kindP deep x = 6 := by rw [hkk]; simp [hc0]
      have wk : wr .i64 (6 : Int) = 6 := rfl
      simp [s2, td, wk, Hp.get_new, Hp.get_put, y1, hyo, hc0]
      exact fin 6 _ _ hkk' (by omega) (by omega) (by simp) (by simp) (by simp) (by simp) (by simp) (by simp [s2]) (by simp [Hp.get_new, Hp.get_put]) (by simp [Hp.get_new, Hp.get_put, hxs]) (by simp) (fun b hb => by simp [Hp.get_new, Hp.get_put, old_ne hb])
    · subst hDD
      have hkk' : kindP deep x = 7 := by rw [hkk]; simp [hc0]
      have wk : wr .i64 (7 : Int) = 7 := rfl
      simp [s2, td, wk, Hp.get_new, Hp.get_put, y1, hyo, hc0]
      exact fin 7 _ _ hkk' (by omega) (by omega) (by simp) (by simp) (by simp) (by simp) (by simp) (by simp [s2]) (by simp [Hp.get_new, Hp.get_put]) (by simp [Hp.get_new, Hp.get_put, hxs]) (by simp) (fun b hb => by simp [Hp.get_new, Hp.get_put, old_ne hb])
    · subst hDD
      have hkk' : kindP deep x = 8 := by rw [hkk]; simp [hc0]
      have wk : wr .i64 (8 : Int) = 8 := rfl
      simp [s2, td, wk, Hp.get_new, Hp.get_put, y1, hyo, hc0]
      exact fin 8 _ _ hkk' (by omega) (by omega) (by simp) (by simp) (by simp) (by simp) (by simp) (by simp [s2]) (by simp [Hp.get_new, Hp.get_put]) (by simp [Hp.get_new, Hp.get_put, hxs]) (by simp) (fun b hb => by simp [Hp.get_new, Hp.get_put, old_ne hb])
end Go.AM.YtlcadokmhfjacaaGreatDoorT
/- The maker of trees: all of it. -/
set_option linter.unusedVariables false
set_option linter.unusedSimpArgs false
set_option maxRecDepth 100000
namespace Go.AM.YtlcadokmhfjacaaGreatDoorT
open Go Go.AM Go.Proofs
theorem both_ok : ∀ f, ExprOk f ∧ StmtOk f
  | 0 => ⟨fun deep m H mr h => by omega, fun deep m H mr h => by omega⟩
  | f + 1 => ⟨expr_ok (both_ok f).1 (stmts_ok (both_ok f).2), stmt_ok (both_ok f).1 (stmts_ok (both_ok f).2)⟩
theorem allP_step {g : MS → Tx × MS} {k : Nat} {m : MS} (h : ¬ (m.l = [] ∨ m.left ≤ 0)) : allP g (k + 1) m = ((g m).1 :: (allP g k (g m).2).1, (allP g k (g m).2).2) := by rw [allP, if_neg h]
theorem allP_end {g : MS → Tx × MS} {k : Nat} {m : MS} (h : m.l = [] ∨ m.left ≤ 0) : (allP g k m).1 = [] := by
  cases k with
  | zero => rfl
  | succ k => rw [allP, if_pos h]
structure I18 (l : List X4) (H0 : Hp) (mr : Nat) (k : Nat) (ts : List Tx) (mi : MS) (v : V) (F : Fr) (H : Hp) : Prop where
  many : makeP l = ts ++ (allP (stmtP 8 3) k mi).1
  fuel : mi.l.length < k
  len : ts.length + k ≤ l.length + 1
  mka : MkAt H mr mi
  ok : ∀ x ∈ mi.l, x.ok
  up : mi.left ≤ 120
  mr0 : H0.next ≤ mr
  gro : Gro H0 H (eqR mr) 42 v ts
  ext : Ext noX H0 H
  f3 : F.get 3 = some (.ptr mr 0)
  f4 : F.get 4 = some v
theorem makeG_ok {H0 : Hp} {va : V} {l : List X4} (hst : H0.stale = []) (hX : XsIn H0 va l) (hok : ∀ x ∈ l, x.ok) (hl : l.length ≤ 100) : WF tab 20 [va] H0 fun w H' => Gro H0 H' (eqR H0.next) 42 w (makeP l) ∧ Ext noX H0 H' := by
  refine wf20 (wp_sound _ ?_)
  have h4 := hX.len 53
  obtain ⟨h5, h6, _⟩ := hX.one
  have w1 : wr .i64 (2 * (l.length : Int)) = 2 * (l.length : Int) := wr_i64 (by omega) (by omega)
  have w2 : wr .i64 (2 * (l.length : Int) + 2) = 2 * (l.length : Int) + 2 := wr_i64 (by omega) (by omega)
  simp [hst, h4, h5, h6, w1, w2]
  generalize hL : (if 120 < 2 * (l.length : Int) + 2 then (120 : Int) else 2 * (l.length : Int) + 2) = L
  have hL' : L = min (2 * l.length + 2) 120 := by rw [← hL]; split <;> omega
  have hL2 : L ≤ 120 := by omega
  have hmk : makeP l = (allP (stmtP 8 3) (l.length + 1) ⟨l, L⟩).1 := by
    have : L = min (2 * (l.length : Int) + 2) 120 := by omega
    rw [this]; rfl
  refine loop_of (fun k F H => ∃ ts mi v, I18 l H0 H0.next (k + 1) ts mi v F H) (m := l.length) ⟨[], ⟨l, L⟩, .nils, hmk, by simp, by simp, ⟨⟨va, by simp [Hp.get_new], hX.of_get (by simp) (fun b e ro cs hb _ => by simp [Hp.get_new, old_ne hb]), hX.old⟩, by simp⟩, hok, hL2, Nat.le_refl _, Gro.nil (by simp [hst]) (by simp), Ext.new hst _, by simp, by simp⟩ ?_
  rintro k F H ⟨ts, mi, v, I⟩
  have hs := I.gro.st
  have f3 := I.f3; have f4 := I.f4
  have hgl := I.gro.le
  obtain ⟨⟨lv, g1, g2, g4⟩, g3⟩ := I.mka
  have h4 := g2.len 53
  obtain ⟨sl, hsl, hel⟩ := I.gro.sl
  have q1 := hsl.one; have q2 := hsl.cells
  have done : (mi.l = [] ∨ mi.left ≤ 0) → Gro H0 H (eqR H0.next) 42 v (makeP l) ∧ Ext noX H0 H := fun h => by
    have := I.many
    rw [allP_end h, List.append_nil] at this
    rw [this]
    exact ⟨I.gro, I.ext⟩
  by_cases hl0 : mi.l = []
  · have c1 : mi.l.length = 0 := by simp [hl0]
    simp [L20_0, f3, f4, hs, g1, h4, c1, q1, q2]
    exact done (.inl hl0)
  have hpos : 0 < mi.l.length := List.length_pos_iff.2 hl0
  have c1 := hpos
  by_cases hl1 : mi.left ≤ 0
  · have c2 : ¬ 0 < mi.left := by omega
    simp [L20_0, f3, f4, hs, g1, h4, c1, c2, q1, q2]
    exact done (.inr hl1)
  have c2 : 0 < mi.left := by omega
  simp [L20_0, f3, f4, hs, g1, h4, c1, c2]
  refine ((both_ok 8).2 3 mi H H0.next (by omega) (by omega) (by omega) hs I.mka I.ok (by have : (8 : Nat) ^ 8 = 16777216 := rfl; omega) (by have := I.up; omega)).mono ?_
  rintro w H2 ⟨cs, rfl, hM2, hT2, hX2⟩
  obtain ⟨d0, d1, d2, d3, d4, d5, rfl, n0, n1, n2, n3, n4, n5⟩ := hT2.six
  have s2 := hX2.st
  have l2 := hX2.le
  have hrows := I.gro.rows
  have hsl2 : SlAt H2 42 6 v ts.length sl := hsl.of_get fun b hb => by
    have := hrows b hb
    exact hX2.get b this.2.1 this.2.2
  have hfu := I.fuel
  have hlen := I.len
  simp [s2, f4, n0, n1, n2, n3, n4, n5]
  refine wpL_app1 (H := H2) (e0 := 42) (cells := [d0, d1, d2, d3, d4, d5]) (by simp [descOf]) ty42 (by decide) (by simp [f4]) (by simp) hsl2 (fun b hb => ⟨by have := (hrows b hb).2.1; omega, by simp [s2]⟩) rfl (by show (ts.length + 1) * 104 ≤ _; omega) (by omega) (by simp [s2]) fun v' H3 hS hA => ?_
  simp [f3, f4]
  have hnx := hA.le
  have hc' := hS.cells
  have ho' := hS.one
  have hdec := stmtP_dec 8 3 mi
  obtain ⟨G4, keep, st1⟩ := I.gro.step (H4 := H3.flush) (X := eqR H0.next) hsl hel (fun b hb => by have : b = H0.next := hb; have := I.mka.lt; omega) hX2 (fun b _ h hb => h hb) hT2 hS (.inl rfl) hA (by simp) (by simp) (fun b _ => rfl)
  have hmr := I.mka.lt
  obtain ⟨km1, km2⟩ := hA.keep H0.next (by omega) (fun h => (hrows _ h).2.2 rfl) (by simp [s2])
  have km : H3.flush.get H0.next = H2.get H0.next := by rw [Hp.get_flush, if_neg km2, km1]
  have hvn : ∀ b, b < H0.next → b ∉ rowsOf v := fun b hb h => by have := (hrows b h).1; omega
  obtain ⟨⟨lv2, u1, u2, u4⟩, u3⟩ := hM2
  have hl2 : (stmtP 8 3 mi).2.l.length ≤ (nextM mi).l.length := stmtP_len 7 3 mi
  have ht : (nextM mi).l.length = mi.l.length - 1 := by simp [nextM]
  have hm : makeP l = (ts ++ [(stmtP 8 3 mi).1]) ++ (allP (stmtP 8 3) k (stmtP 8 3 mi).2).1 := by
    have := I.many
    rw [allP_step (fun h => h.elim hl0 hl1)] at this
    rw [this]; simp
  refine ⟨k - 1, by omega, ts ++ [(stmtP 8 3 mi).1], (stmtP 8 3 mi).2, v', by rw [show k - 1 + 1 = k by omega]; exact hm, by omega, by simp; omega, ?_, fun x hx => I.ok x (hdec.sub x hx), Int.le_trans hdec.up I.up, I.mr0, G4, ⟨by simp, G4.le, fun b hb hx => ?_⟩, by simp [f3], by simp⟩
  · refine MkAt.of_keep ⟨⟨lv2, u1, u2, u4⟩, u3⟩ (by simp; omega) km fun b e ro cs hb hbm hgb => ?_
    have hbm : b ≠ H0.next := fun h => by subst h; rw [u1] at hgb; cases hgb
    refine keep b hb hbm (fun h => ?_)
    obtain ⟨cs', hc2⟩ := hsl2.own b h
    rw [hc2] at hgb; cases hgb
  · rw [keep b (by omega) (fun h => by have : b = H0.next := h; omega) (hvn b hb), hX2.get b (by omega) (fun h => by have : b = H0.next := h; omega)]
    exact I.ext.get b hb hx
theorem make_ok {H0 : Hp} {va : V} {l : List X4} (hst : H0.stale = []) (hX : XsIn H0 va l) (hok : ∀ x ∈ l, x.ok) (hl : l.length ≤ 100) : WF tab 20 [va] H0 fun w H' => TreesAt (since H0 H') H' (makeP l) w ∧ Ext noX H0 H' :=
  (makeG_ok hst hX hok hl).mono fun w H' h => ⟨h.1.trees (fun b h1 h2 _ => ⟨⟨h1, h2⟩, rfl⟩) (Nat.le_refl _), h.2⟩
end Go.AM.YtlcadokmhfjacaaGreatDoorT
