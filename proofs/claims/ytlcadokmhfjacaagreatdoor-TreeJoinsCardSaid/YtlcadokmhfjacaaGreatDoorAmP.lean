/- Parts of the abstract machine and of the walks over it, joined: what the law that is claimed here leans on. -/
import Derived.Test.YtlcadokmhfjacaaGreatDoorAmX
import Derived.Test.YtlcadokmhfjacaaGreatDoorAmC2
import Derived.Test.YtlcadokmhfjacaaGreatDoorAmC3
import Derived.Test.YtlcadokmhfjacaaGreatDoorAmS
import Derived.Test.YtlcadokmhfjacaaGreatDoorAmM
import Derived.Test.YtlcadokmhfjacaaGreatDoorAmB
/- The slim code of these functions: printed by genslim.py. -/
namespace Go.AM.YtlcadokmhfjacaaGreatDoorT
open Go Go.AM Go.Proofs
set_option maxRecDepth 100000
/-! paling/palinglaw06.join -/
abbrev R61_0 : List SOp := [(some 2, .assign (.const (.string ⟨#[]⟩)), none)]
abbrev R61_1 : List SOp := [(some 3, .assign (.const (.string ⟨#[]⟩)), none)]
abbrev R61_2 : List SOp := [(some 6, .move (.tmp 0), none),
  (some 7, .call ⟨.builtin .len, #[(.tmp 6)], #[26]⟩, none),
  (some 8, .move (.const (.int .i64 0)), none)]
abbrev R61_3 : List SOp := [(some 9, .binOp .lss 3 (.tmp 8) (.tmp 7) 3, none)]
abbrev R61_4 : List SOp := [(some 10, .move (.tmp 8), none),
  (some 11, .indexAddr 26 (.tmp 6) (.tmp 8), none),
  (some 12, .load 9 (.tmp 11), none),
  (some 4, .assign (.tmp 10), none),
  (some 5, .assign (.tmp 12), none)]
abbrev R61_5 : List SOp := [(some 13, .move (.tmp 4), none),
  (some 14, .binOp .gtr 3 (.tmp 13) (.const (.int .i64 0)) 3, none)]
abbrev R61_6 : List SOp := [(some 15, .move (.tmp 3), none),
  (some 16, .binOp .add 9 (.tmp 15) (.const (.string ⟨#[0x2c, 0x20]⟩)) 9, none),
  (some 3, .assign (.tmp 16), none)]
abbrev R61_7 : List SOp := [(some 17, .move (.tmp 3), none),
  (some 18, .move (.tmp 5), none),
  (some 19, .binOp .add 9 (.tmp 17) (.tmp 18) 9, none),
  (some 3, .assign (.tmp 19), none)]
abbrev R61_8 : List SOp := [(some 20, .binOp .add 3 (.tmp 8) (.const (.int .i64 1)) 3, none),
  (some 8, .move (.tmp 20), none)]
def L61_0 : SCode := .seq (.reg R61_3) (.seq (.cond (.tmp 9) (.skip) (.exit 0)) (.seq (.block 1 (.seq (.reg R61_4) (.seq (.seq (.reg R61_5) (.cond (.tmp 14) (.reg R61_6) (.skip))) (.reg R61_7)))) (.reg R61_8)))
abbrev R61_9 : List SOp := [(some 21, .move (.tmp 3), none),
  (some 2, .assign (.tmp 21), none)]
abbrev S61 : SCode := .seq (.reg R61_0) (.seq (.reg R61_1) (.seq (.seq (.reg R61_2) (.block 0 (.loop L61_0))) (.seq (.reg R61_9) (.ret))))
theorem slim61 : slimC tab 61 (Tryz.f61.body.getD .skip) = S61 := by kernel_rfl
theorem wf61 {xs : List V} {H : Hp} {Q : V → Hp → Prop} (h : WC tab S61 (frame xs 0 .nil) H (resQ tab [.tmp 2] Q)) : WF tab 61 xs H Q := WF.of_slim (T := tab) (f := 61) rfl fn61 rfl slim61 rfl h
/-! paling/palinglaw06.expr -/
abbrev R28_0 : List SOp := [(some 1, .box 46 (.tmp 0), none),
  (some 2, .assign (.const (.string ⟨#[]⟩)), none)]
abbrev R28_1 : List SOp := [(some 3, .assign (.const (.slice none 0 0)), none)]
abbrev R28_2 : List SOp := [(some 8, .fieldAddr 46 (.tmp 1) 3, none),
  (some 9, .load 40 (.tmp 8), none),
  (some 10, .call ⟨.builtin .len, #[(.tmp 9)], #[40]⟩, none),
  (some 11, .move (.const (.int .i64 0)), none)]
abbrev R28_3 : List SOp := [(some 12, .binOp .lss 3 (.tmp 11) (.tmp 10) 3, none)]
abbrev R28_4 : List SOp := [(some 13, .indexAddr 40 (.tmp 9) (.tmp 11), none),
  (some 14, .load 46 (.tmp 13), none),
  (some 5, .alloc 46, none),
  (none, .store 46 (.tmp 5) (.tmp 14), none)]
abbrev R28_5 : List SOp := [(some 15, .move (.tmp 3), none),
  (some 16, .load 46 (.tmp 5), none),
  (some 17, .call ⟨.value (.func 28), #[(.tmp 16)], #[46]⟩, none),
  (some 18, .buildSlice 26 1 #[(0, (.tmp 17))], none),
  (some 19, .call ⟨.builtin .append, #[(.tmp 15), (.tmp 18)], #[26, 26]⟩, none),
  (some 3, .assign (.tmp 19), none)]
abbrev R28_6 : List SOp := [(some 20, .binOp .add 3 (.tmp 11) (.const (.int .i64 1)) 3, none),
  (some 11, .move (.tmp 20), none)]
def L28_0 : SCode := .seq (.reg R28_3) (.seq (.cond (.tmp 12) (.skip) (.exit 0)) (.seq (.block 1 (.seq (.reg R28_4) (.reg R28_5))) (.reg R28_6)))
abbrev R28_7 : List SOp := [(some 21, .fieldAddr 46 (.tmp 1) 0, none),
  (some 22, .load 44 (.tmp 21), none)]
abbrev R28_8 : List SOp := [(some 24, .binOp .eql 44 (.tmp 22) (.const (.int .i64 0)) 44, none),
  (some 23, .assign (.tmp 24), none)]
abbrev R28_9 : List SOp := [(some 25, .binOp .eql 44 (.tmp 22) (.const (.int .i64 1)) 44, none),
  (some 23, .assign (.tmp 25), none)]
abbrev R28_10 : List SOp := [(some 26, .binOp .eql 44 (.tmp 22) (.const (.int .i64 2)) 44, none),
  (some 23, .assign (.tmp 26), none)]
abbrev R28_11 : List SOp := [(some 27, .buildSlice 26 3 #[(0, (.const (.string ⟨#[0x6e, 0x69, 0x6c]⟩))), (1, (.const (.string ⟨#[0x66, 0x61, 0x6c, 0x73, 0x65]⟩))), (2, (.const (.string ⟨#[0x74, 0x72, 0x75, 0x65]⟩)))], none),
  (some 28, .fieldAddr 46 (.tmp 1) 0, none),
  (some 29, .load 44 (.tmp 28), none),
  (some 30, .indexAddr 26 (.tmp 27) (.tmp 29), none),
  (some 31, .load 9 (.tmp 30), none),
  (some 2, .assign (.tmp 31), none)]
abbrev R28_12 : List SOp := [(some 33, .binOp .eql 44 (.tmp 22) (.const (.int .i64 3)) 44, none),
  (some 32, .assign (.tmp 33), none)]
abbrev R28_13 : List SOp := [(some 34, .fieldAddr 46 (.tmp 1) 1, none),
  (some 35, .load 2 (.tmp 34), none),
  (some 36, .call ⟨.value (.func 59), #[(.tmp 35)], #[3]⟩, none),
  (some 2, .assign (.tmp 36), none)]
abbrev R28_14 : List SOp := [(some 38, .binOp .eql 44 (.tmp 22) (.const (.int .i64 4)) 44, none),
  (some 37, .assign (.tmp 38), none)]
abbrev R28_15 : List SOp := [(some 39, .fieldAddr 46 (.tmp 1) 2, none),
  (some 40, .load 9 (.tmp 39), none),
  (some 41, .call ⟨.value (.func 60), #[(.tmp 40)], #[9]⟩, none),
  (some 2, .assign (.tmp 41), none)]
abbrev R28_16 : List SOp := [(some 43, .binOp .eql 44 (.tmp 22) (.const (.int .i64 5)) 44, none),
  (some 42, .assign (.tmp 43), none)]
abbrev R28_17 : List SOp := [(some 44, .fieldAddr 46 (.tmp 1) 2, none),
  (some 45, .load 9 (.tmp 44), none),
  (some 2, .assign (.tmp 45), none)]
abbrev R28_18 : List SOp := [(some 47, .binOp .eql 44 (.tmp 22) (.const (.int .i64 6)) 44, none),
  (some 46, .assign (.tmp 47), none)]
abbrev R28_19 : List SOp := [(some 48, .move (.tmp 3), none),
  (some 49, .indexAddr 26 (.tmp 48) (.const (.int .i64 0)), none),
  (some 50, .load 9 (.tmp 49), none),
  (some 51, .binOp .add 9 (.const (.string ⟨#[0x28, 0x2d]⟩)) (.tmp 50) 9, none),
  (some 52, .binOp .add 9 (.tmp 51) (.const (.string ⟨#[0x29]⟩)) 9, none),
  (some 2, .assign (.tmp 52), none)]
abbrev R28_20 : List SOp := [(some 54, .binOp .eql 44 (.tmp 22) (.const (.int .i64 7)) 44, none),
  (some 53, .assign (.tmp 54), none)]
abbrev R28_21 : List SOp := [(some 55, .move (.tmp 3), none),
  (some 56, .indexAddr 26 (.tmp 55) (.const (.int .i64 0)), none),
  (some 57, .load 9 (.tmp 56), none),
  (some 58, .binOp .add 9 (.const (.string ⟨#[0x28, 0x21]⟩)) (.tmp 57) 9, none),
  (some 59, .binOp .add 9 (.tmp 58) (.const (.string ⟨#[0x29]⟩)) 9, none),
  (some 2, .assign (.tmp 59), none)]
abbrev R28_22 : List SOp := [(some 61, .binOp .eql 44 (.tmp 22) (.const (.int .i64 14)) 44, none),
  (some 60, .assign (.tmp 61), none)]
abbrev R28_23 : List (SOp × Nat) := [((some 62, .move (.tmp 3), none), 0),
  ((some 63, .indexAddr 26 (.tmp 62) (.const (.int .i64 0)), none), 0),
  ((some 64, .load 9 (.tmp 63), none), 0),
  ((some 65, .binOp .add 9 (.tmp 64) (.const (.string ⟨#[0x5b]⟩)) 9, none), 0),
  ((some 66, .move (.tmp 3), none), 0),
  ((some 67, .indexAddr 26 (.tmp 66) (.const (.int .i64 1)), none), 0),
  ((some 68, .load 9 (.tmp 67), none), 0),
  ((some 69, .binOp .add 9 (.tmp 65) (.tmp 68) 9, none), 0),
  ((some 70, .binOp .add 9 (.tmp 69) (.const (.string ⟨#[0x5d]⟩)) 9, none), 0),
  ((some 2, .assign (.tmp 70), none), 0)]
abbrev R28_24 : List SOp := [(some 72, .binOp .eql 44 (.tmp 22) (.const (.int .i64 15)) 44, none),
  (some 71, .assign (.tmp 72), none)]
abbrev R28_25 : List (SOp × Nat) := [((some 77, .move (.tmp 3), none), 0),
  ((some 78, .slice 26 (.tmp 77) (some (.const (.int .i64 1))) none none, none), 0),
  ((some 79, .call ⟨.value (.func 61), #[(.tmp 78)], #[26]⟩, none), 0),
  ((some 73, .move (.tmp 3), none), 1),
  ((some 74, .indexAddr 26 (.tmp 73) (.const (.int .i64 0)), none), 1),
  ((some 75, .load 9 (.tmp 74), none), 1),
  ((some 76, .binOp .add 9 (.tmp 75) (.const (.string ⟨#[0x28]⟩)) 9, none), 1),
  ((some 80, .binOp .add 9 (.tmp 76) (.tmp 79) 9, none), 0),
  ((some 81, .binOp .add 9 (.tmp 80) (.const (.string ⟨#[0x29]⟩)) 9, none), 0),
  ((some 2, .assign (.tmp 81), none), 0)]
abbrev R28_26 : List SOp := [(some 83, .binOp .eql 44 (.tmp 22) (.const (.int .i64 16)) 44, none),
  (some 82, .assign (.tmp 83), none)]
abbrev R28_27 : List SOp := [(some 6, .assign (.const (.slice none 0 0)), none)]
abbrev R28_28 : List SOp := [(some 7, .assign (.const (.int .i64 0)), none)]
abbrev R28_29 : List SOp := [(some 84, .move (.tmp 7), none),
  (some 85, .move (.tmp 3), none),
  (some 86, .call ⟨.builtin .len, #[(.tmp 85)], #[26]⟩, none),
  (some 87, .binOp .lss 3 (.tmp 84) (.tmp 86) 3, none)]
abbrev R28_31 : List (SOp × Nat) := [((some 90, .move (.tmp 6), none), 0),
  ((some 91, .move (.tmp 3), none), 0),
  ((some 92, .move (.tmp 7), none), 0),
  ((some 93, .indexAddr 26 (.tmp 91) (.tmp 92), none), 0),
  ((some 94, .load 9 (.tmp 93), none), 0),
  ((some 95, .binOp .add 9 (.const (.string ⟨#[0x5b]⟩)) (.tmp 94) 9, none), 0),
  ((some 96, .binOp .add 9 (.tmp 95) (.const (.string ⟨#[0x5d, 0x3a, 0x20]⟩)) 9, none), 0),
  ((some 97, .move (.tmp 3), none), 0),
  ((some 98, .move (.tmp 7), none), 0),
  ((some 99, .binOp .add 3 (.tmp 98) (.const (.int .i64 1)) 3, none), 0),
  ((some 100, .indexAddr 26 (.tmp 97) (.tmp 99), none), 0),
  ((some 101, .load 9 (.tmp 100), none), 0),
  ((some 102, .binOp .add 9 (.tmp 96) (.tmp 101) 9, none), 0),
  ((some 103, .buildSlice 26 1 #[(0, (.tmp 102))], none), 0),
  ((some 104, .call ⟨.builtin .append, #[(.tmp 90), (.tmp 103)], #[26, 26]⟩, none), 0),
  ((some 6, .assign (.tmp 104), none), 0)]
abbrev R28_30 : List SOp := [(some 88, .move (.tmp 7), none),
  (some 89, .binOp .add 3 (.tmp 88) (.const (.int .i64 2)) 3, none),
  (some 7, .assign (.tmp 89), none)]
def L28_1 : SCode := .seq (.seq (.reg R28_29) (.cond (.tmp 87) (.skip) (.exit 3))) (.seq (.block 4 (.dreg R28_31)) (.reg R28_30))
abbrev R28_32 : List SOp := [(some 105, .move (.tmp 6), none),
  (some 106, .call ⟨.value (.func 61), #[(.tmp 105)], #[26]⟩, none),
  (some 107, .binOp .add 9 (.const (.string ⟨#[0x7b]⟩)) (.tmp 106) 9, none),
  (some 108, .binOp .add 9 (.tmp 107) (.const (.string ⟨#[0x7d]⟩)) 9, none),
  (some 2, .assign (.tmp 108), none)]
abbrev R28_33 : List SOp := [(some 110, .binOp .eql 44 (.tmp 22) (.const (.int .i64 17)) 44, none),
  (some 109, .assign (.tmp 110), none)]
abbrev R28_34 : List (SOp × Nat) := [((some 111, .fieldAddr 46 (.tmp 1) 4, none), 0),
  ((some 112, .load 26 (.tmp 111), none), 0),
  ((some 113, .call ⟨.value (.func 61), #[(.tmp 112)], #[26]⟩, none), 0),
  ((some 116, .fieldAddr 46 (.tmp 1) 5, none), 1),
  ((some 117, .load 31 (.tmp 116), none), 1),
  ((some 118, .call ⟨.value (.func 19), #[(.tmp 117)], #[31]⟩, none), 0),
  ((some 114, .binOp .add 9 (.const (.string ⟨#[0x66, 0x6e, 0x28]⟩)) (.tmp 113) 9, none), 1),
  ((some 115, .binOp .add 9 (.tmp 114) (.const (.string ⟨#[0x29, 0x20, 0x7b, 0x0a]⟩)) 9, none), 1),
  ((some 119, .binOp .add 9 (.tmp 115) (.tmp 118) 9, none), 0),
  ((some 120, .binOp .add 9 (.tmp 119) (.const (.string ⟨#[0x7d]⟩)) 9, none), 0),
  ((some 2, .assign (.tmp 120), none), 0)]
abbrev R28_35 : List (SOp × Nat) := [((some 121, .move (.tmp 3), none), 0),
  ((some 122, .indexAddr 26 (.tmp 121) (.const (.int .i64 0)), none), 0),
  ((some 123, .load 9 (.tmp 122), none), 0),
  ((some 124, .binOp .add 9 (.const (.string ⟨#[0x28]⟩)) (.tmp 123) 9, none), 0),
  ((some 125, .binOp .add 9 (.tmp 124) (.const (.string ⟨#[0x20]⟩)) 9, none), 0),
  ((some 126, .buildSlice 26 6 #[(0, (.const (.string ⟨#[0x2b]⟩))), (1, (.const (.string ⟨#[0x2d]⟩))), (2, (.const (.string ⟨#[0x2a]⟩))), (3, (.const (.string ⟨#[0x3d, 0x3d]⟩))), (4, (.const (.string ⟨#[0x21, 0x3d]⟩))), (5, (.const (.string ⟨#[0x3c]⟩)))], none), 0),
  ((some 127, .fieldAddr 46 (.tmp 1) 0, none), 0),
  ((some 128, .load 44 (.tmp 127), none), 0),
  ((some 129, .binOp .sub 44 (.tmp 128) (.const (.int .i64 8)) 44, none), 0),
  ((some 130, .indexAddr 26 (.tmp 126) (.tmp 129), none), 0),
  ((some 131, .load 9 (.tmp 130), none), 0),
  ((some 132, .binOp .add 9 (.tmp 125) (.tmp 131) 9, none), 0),
  ((some 133, .binOp .add 9 (.tmp 132) (.const (.string ⟨#[0x20]⟩)) 9, none), 0),
  ((some 134, .move (.tmp 3), none), 0),
  ((some 135, .indexAddr 26 (.tmp 134) (.const (.int .i64 1)), none), 0),
  ((some 136, .load 9 (.tmp 135), none), 0),
  ((some 137, .binOp .add 9 (.tmp 133) (.tmp 136) 9, none), 0),
  ((some 138, .binOp .add 9 (.tmp 137) (.const (.string ⟨#[0x29]⟩)) 9, none), 0),
  ((some 2, .assign (.tmp 138), none), 0)]
abbrev S28 : SCode := .seq (.reg R28_0) (.seq (.reg R28_1) (.seq (.seq (.reg R28_2) (.block 0 (.loop L28_0))) (.seq (.seq (.reg R28_7) (.block 2 (.seq (.seq (.reg R28_8) (.cond (.tmp 23) (.skip) (.seq (.reg R28_9) (.cond (.tmp 23) (.skip) (.reg R28_10))))) (.cond (.tmp 23) (.seq (.reg R28_11) (.ret)) (.seq (.reg R28_12) (.cond (.tmp 32) (.seq (.reg R28_13) (.ret)) (.seq (.reg R28_14) (.cond (.tmp 37) (.seq (.reg R28_15) (.ret)) (.seq (.reg R28_16) (.cond (.tmp 42) (.seq (.reg R28_17) (.ret)) (.seq (.reg R28_18) (.cond (.tmp 46) (.seq (.reg R28_19) (.ret)) (.seq (.reg R28_20) (.cond (.tmp 53) (.seq (.reg R28_21) (.ret)) (.seq (.reg R28_22) (.cond (.tmp 60) (.seq (.dreg R28_23) (.ret)) (.seq (.reg R28_24) (.cond (.tmp 71) (.seq (.dreg R28_25) (.ret)) (.seq (.reg R28_26) (.cond (.tmp 82) (.seq (.reg R28_27) (.seq (.seq (.reg R28_28) (.block 3 (.loop L28_1))) (.seq (.reg R28_32) (.ret)))) (.seq (.reg R28_33) (.cond (.tmp 109) (.seq (.dreg R28_34) (.ret)) (.skip))))))))))))))))))))))) (.seq (.dreg R28_35) (.ret)))))
theorem slim28 : slimC tab 28 (Tryz.f28.body.getD .skip) = S28 := by kernel_rfl
theorem wf28 {xs : List V} {H : Hp} {Q : V → Hp → Prop} (h : WC tab S28 (frame xs 0 .nil) H (resQ tab [.tmp 2] Q)) : WF tab 28 xs H Q := WF.of_slim (T := tab) (f := 28) rfl fn28 rfl slim28 rfl h
/-! paling/palinglaw06.Print -/
abbrev R19_0 : List SOp := [(some 2, .assign (.const (.string ⟨#[]⟩)), none)]
abbrev R19_1 : List SOp := [(some 3, .assign (.const (.string ⟨#[]⟩)), none)]
abbrev R19_2 : List SOp := [(some 9, .move (.tmp 0), none),
  (some 10, .call ⟨.builtin .len, #[(.tmp 9)], #[31]⟩, none),
  (some 11, .move (.const (.int .i64 0)), none)]
abbrev R19_3 : List SOp := [(some 12, .binOp .lss 3 (.tmp 11) (.tmp 10) 3, none)]
abbrev R19_4 : List SOp := [(some 13, .indexAddr 31 (.tmp 9) (.tmp 11), none),
  (some 14, .load 42 (.tmp 13), none),
  (some 5, .alloc 42, none),
  (none, .store 42 (.tmp 5) (.tmp 14), none)]
abbrev R19_5 : List SOp := [(some 6, .assign (.const (.slice none 0 0)), none)]
abbrev R19_6 : List SOp := [(some 15, .fieldAddr 42 (.tmp 5) 2, none),
  (some 16, .load 40 (.tmp 15), none),
  (some 17, .call ⟨.builtin .len, #[(.tmp 16)], #[40]⟩, none),
  (some 18, .move (.const (.int .i64 0)), none)]
abbrev R19_7 : List SOp := [(some 19, .binOp .lss 3 (.tmp 18) (.tmp 17) 3, none)]
abbrev R19_8 : List SOp := [(some 20, .indexAddr 40 (.tmp 16) (.tmp 18), none),
  (some 21, .load 46 (.tmp 20), none),
  (some 8, .alloc 46, none),
  (none, .store 46 (.tmp 8) (.tmp 21), none)]
abbrev R19_9 : List SOp := [(some 22, .move (.tmp 6), none),
  (some 23, .load 46 (.tmp 8), none),
  (some 24, .call ⟨.value (.func 28), #[(.tmp 23)], #[46]⟩, none),
  (some 25, .buildSlice 26 1 #[(0, (.tmp 24))], none),
  (some 26, .call ⟨.builtin .append, #[(.tmp 22), (.tmp 25)], #[26, 26]⟩, none),
  (some 6, .assign (.tmp 26), none)]
abbrev R19_10 : List SOp := [(some 27, .binOp .add 3 (.tmp 18) (.const (.int .i64 1)) 3, none),
  (some 18, .move (.tmp 27), none)]
def L19_0 : SCode := .seq (.reg R19_7) (.seq (.cond (.tmp 19) (.skip) (.exit 2)) (.seq (.block 3 (.seq (.reg R19_8) (.reg R19_9))) (.reg R19_10)))
abbrev R19_11 : List SOp := [(some 28, .fieldAddr 42 (.tmp 5) 0, none),
  (some 29, .load 39 (.tmp 28), none)]
abbrev R19_13 : List SOp := [(some 37, .binOp .eql 39 (.tmp 29) (.const (.int .i64 0)) 39, none),
  (some 36, .assign (.tmp 37), none)]
abbrev R19_14 : List (SOp × Nat) := [((some 38, .move (.tmp 3), none), 0),
  ((some 39, .fieldAddr 42 (.tmp 5) 1, none), 0),
  ((some 40, .load 9 (.tmp 39), none), 0),
  ((some 41, .binOp .add 9 (.const (.string ⟨#[0x6c, 0x65, 0x74, 0x20]⟩)) (.tmp 40) 9, none), 0),
  ((some 42, .binOp .add 9 (.tmp 41) (.const (.string ⟨#[0x20, 0x3d, 0x20]⟩)) 9, none), 0),
  ((some 43, .move (.tmp 6), none), 0),
  ((some 44, .indexAddr 26 (.tmp 43) (.const (.int .i64 0)), none), 0),
  ((some 45, .load 9 (.tmp 44), none), 0),
  ((some 46, .binOp .add 9 (.tmp 42) (.tmp 45) 9, none), 0),
  ((some 47, .binOp .add 9 (.tmp 46) (.const (.string ⟨#[0x3b, 0x0a]⟩)) 9, none), 0),
  ((some 48, .binOp .add 9 (.tmp 38) (.tmp 47) 9, none), 0),
  ((some 3, .assign (.tmp 48), none), 0)]
abbrev R19_15 : List SOp := [(some 50, .binOp .eql 39 (.tmp 29) (.const (.int .i64 1)) 39, none),
  (some 49, .assign (.tmp 50), none)]
abbrev R19_16 : List (SOp × Nat) := [((some 51, .move (.tmp 3), none), 0),
  ((some 52, .fieldAddr 42 (.tmp 5) 1, none), 0),
  ((some 53, .load 9 (.tmp 52), none), 0),
  ((some 54, .binOp .add 9 (.tmp 53) (.const (.string ⟨#[0x20, 0x3d, 0x20]⟩)) 9, none), 0),
  ((some 55, .move (.tmp 6), none), 0),
  ((some 56, .indexAddr 26 (.tmp 55) (.const (.int .i64 0)), none), 0),
  ((some 57, .load 9 (.tmp 56), none), 0),
  ((some 58, .binOp .add 9 (.tmp 54) (.tmp 57) 9, none), 0),
  ((some 59, .binOp .add 9 (.tmp 58) (.const (.string ⟨#[0x3b, 0x0a]⟩)) 9, none), 0),
  ((some 60, .binOp .add 9 (.tmp 51) (.tmp 59) 9, none), 0),
  ((some 3, .assign (.tmp 60), none), 0)]
abbrev R19_17 : List SOp := [(some 62, .binOp .eql 39 (.tmp 29) (.const (.int .i64 2)) 39, none),
  (some 61, .assign (.tmp 62), none)]
abbrev R19_18 : List (SOp × Nat) := [((some 63, .move (.tmp 3), none), 0),
  ((some 64, .move (.tmp 6), none), 0),
  ((some 65, .indexAddr 26 (.tmp 64) (.const (.int .i64 0)), none), 0),
  ((some 66, .load 9 (.tmp 65), none), 0),
  ((some 67, .binOp .add 9 (.tmp 66) (.const (.string ⟨#[0x5b]⟩)) 9, none), 0),
  ((some 68, .move (.tmp 6), none), 0),
  ((some 69, .indexAddr 26 (.tmp 68) (.const (.int .i64 1)), none), 0),
  ((some 70, .load 9 (.tmp 69), none), 0),
  ((some 71, .binOp .add 9 (.tmp 67) (.tmp 70) 9, none), 0),
  ((some 72, .binOp .add 9 (.tmp 71) (.const (.string ⟨#[0x5d, 0x20, 0x3d, 0x20]⟩)) 9, none), 0),
  ((some 73, .move (.tmp 6), none), 0),
  ((some 74, .indexAddr 26 (.tmp 73) (.const (.int .i64 2)), none), 0),
  ((some 75, .load 9 (.tmp 74), none), 0),
  ((some 76, .binOp .add 9 (.tmp 72) (.tmp 75) 9, none), 0),
  ((some 77, .binOp .add 9 (.tmp 76) (.const (.string ⟨#[0x3b, 0x0a]⟩)) 9, none), 0),
  ((some 78, .binOp .add 9 (.tmp 63) (.tmp 77) 9, none), 0),
  ((some 3, .assign (.tmp 78), none), 0)]
abbrev R19_19 : List SOp := [(some 80, .binOp .eql 39 (.tmp 29) (.const (.int .i64 3)) 39, none),
  (some 79, .assign (.tmp 80), none)]
abbrev R19_20 : List (SOp × Nat) := [((some 87, .fieldAddr 42 (.tmp 5) 3, none), 0),
  ((some 88, .load 31 (.tmp 87), none), 0),
  ((some 89, .call ⟨.value (.func 19), #[(.tmp 88)], #[31]⟩, none), 0),
  ((some 81, .move (.tmp 3), none), 1),
  ((some 82, .move (.tmp 6), none), 1),
  ((some 83, .indexAddr 26 (.tmp 82) (.const (.int .i64 0)), none), 1),
  ((some 84, .load 9 (.tmp 83), none), 1),
  ((some 85, .binOp .add 9 (.const (.string ⟨#[0x69, 0x66, 0x20]⟩)) (.tmp 84) 9, none), 1),
  ((some 86, .binOp .add 9 (.tmp 85) (.const (.string ⟨#[0x20, 0x7b, 0x0a]⟩)) 9, none), 1),
  ((some 90, .binOp .add 9 (.tmp 86) (.tmp 89) 9, none), 0),
  ((some 91, .binOp .add 9 (.tmp 90) (.const (.string ⟨#[0x7d]⟩)) 9, none), 0),
  ((some 92, .binOp .add 9 (.tmp 81) (.tmp 91) 9, none), 0),
  ((some 3, .assign (.tmp 92), none), 0)]
abbrev R19_21 : List SOp := [(some 93, .fieldAddr 42 (.tmp 5) 4, none),
  (some 94, .load 31 (.tmp 93), none),
  (some 95, .call ⟨.builtin .len, #[(.tmp 94)], #[31]⟩, none),
  (some 96, .binOp .gtr 3 (.tmp 95) (.const (.int .i64 0)) 3, none)]
abbrev R19_22 : List SOp := [(some 97, .move (.tmp 3), none),
  (some 98, .fieldAddr 42 (.tmp 5) 4, none),
  (some 99, .load 31 (.tmp 98), none),
  (some 100, .call ⟨.value (.func 19), #[(.tmp 99)], #[31]⟩, none),
  (some 101, .binOp .add 9 (.const (.string ⟨#[0x20, 0x65, 0x6c, 0x73, 0x65, 0x20, 0x7b, 0x0a]⟩)) (.tmp 100) 9, none),
  (some 102, .binOp .add 9 (.tmp 101) (.const (.string ⟨#[0x7d]⟩)) 9, none),
  (some 103, .binOp .add 9 (.tmp 97) (.tmp 102) 9, none),
  (some 3, .assign (.tmp 103), none)]
abbrev R19_23 : List SOp := [(some 104, .move (.tmp 3), none),
  (some 105, .binOp .add 9 (.tmp 104) (.const (.string ⟨#[0x0a]⟩)) 9, none),
  (some 3, .assign (.tmp 105), none)]
abbrev R19_24 : List SOp := [(some 107, .binOp .eql 39 (.tmp 29) (.const (.int .i64 4)) 39, none),
  (some 106, .assign (.tmp 107), none)]
abbrev R19_25 : List (SOp × Nat) := [((some 114, .fieldAddr 42 (.tmp 5) 3, none), 0),
  ((some 115, .load 31 (.tmp 114), none), 0),
  ((some 116, .call ⟨.value (.func 19), #[(.tmp 115)], #[31]⟩, none), 0),
  ((some 108, .move (.tmp 3), none), 1),
  ((some 109, .move (.tmp 6), none), 1),
  ((some 110, .indexAddr 26 (.tmp 109) (.const (.int .i64 0)), none), 1),
  ((some 111, .load 9 (.tmp 110), none), 1),
  ((some 112, .binOp .add 9 (.const (.string ⟨#[0x77, 0x68, 0x69, 0x6c, 0x65, 0x20]⟩)) (.tmp 111) 9, none), 1),
  ((some 113, .binOp .add 9 (.tmp 112) (.const (.string ⟨#[0x20, 0x7b, 0x0a]⟩)) 9, none), 1),
  ((some 117, .binOp .add 9 (.tmp 113) (.tmp 116) 9, none), 0),
  ((some 118, .binOp .add 9 (.tmp 117) (.const (.string ⟨#[0x7d, 0x0a]⟩)) 9, none), 0),
  ((some 119, .binOp .add 9 (.tmp 108) (.tmp 118) 9, none), 0),
  ((some 3, .assign (.tmp 119), none), 0)]
abbrev R19_26 : List SOp := [(some 121, .binOp .eql 39 (.tmp 29) (.const (.int .i64 5)) 39, none),
  (some 120, .assign (.tmp 121), none)]
abbrev R19_27 : List SOp := [(some 122, .move (.tmp 3), none),
  (some 123, .move (.tmp 6), none),
  (some 124, .indexAddr 26 (.tmp 123) (.const (.int .i64 0)), none),
  (some 125, .load 9 (.tmp 124), none),
  (some 126, .binOp .add 9 (.const (.string ⟨#[0x72, 0x65, 0x74, 0x75, 0x72, 0x6e, 0x20]⟩)) (.tmp 125) 9, none),
  (some 127, .binOp .add 9 (.tmp 126) (.const (.string ⟨#[0x3b, 0x0a]⟩)) 9, none),
  (some 128, .binOp .add 9 (.tmp 122) (.tmp 127) 9, none),
  (some 3, .assign (.tmp 128), none)]
abbrev R19_28 : List SOp := [(some 130, .binOp .eql 39 (.tmp 29) (.const (.int .i64 6)) 39, none),
  (some 129, .assign (.tmp 130), none)]
abbrev R19_29 : List SOp := [(some 131, .move (.tmp 3), none),
  (some 132, .move (.tmp 6), none),
  (some 133, .indexAddr 26 (.tmp 132) (.const (.int .i64 0)), none),
  (some 134, .load 9 (.tmp 133), none),
  (some 135, .binOp .add 9 (.const (.string ⟨#[0x74, 0x68, 0x72, 0x6f, 0x77, 0x20]⟩)) (.tmp 134) 9, none),
  (some 136, .binOp .add 9 (.tmp 135) (.const (.string ⟨#[0x3b, 0x0a]⟩)) 9, none),
  (some 137, .binOp .add 9 (.tmp 131) (.tmp 136) 9, none),
  (some 3, .assign (.tmp 137), none)]
abbrev R19_30 : List SOp := [(some 139, .binOp .eql 39 (.tmp 29) (.const (.int .i64 7)) 39, none),
  (some 138, .assign (.tmp 139), none)]
abbrev R19_31 : List (SOp × Nat) := [((some 141, .fieldAddr 42 (.tmp 5) 3, none), 0),
  ((some 142, .load 31 (.tmp 141), none), 0),
  ((some 143, .call ⟨.value (.func 19), #[(.tmp 142)], #[31]⟩, none), 0),
  ((some 150, .fieldAddr 42 (.tmp 5) 4, none), 1),
  ((some 151, .load 31 (.tmp 150), none), 1),
  ((some 152, .call ⟨.value (.func 19), #[(.tmp 151)], #[31]⟩, none), 0),
  ((some 140, .move (.tmp 3), none), 2),
  ((some 144, .binOp .add 9 (.const (.string ⟨#[0x74, 0x72, 0x79, 0x20, 0x7b, 0x0a]⟩)) (.tmp 143) 9, none), 1),
  ((some 145, .binOp .add 9 (.tmp 144) (.const (.string ⟨#[0x7d, 0x20, 0x63, 0x61, 0x74, 0x63, 0x68, 0x20]⟩)) 9, none), 1),
  ((some 146, .fieldAddr 42 (.tmp 5) 1, none), 2),
  ((some 147, .load 9 (.tmp 146), none), 2),
  ((some 148, .binOp .add 9 (.tmp 145) (.tmp 147) 9, none), 1),
  ((some 149, .binOp .add 9 (.tmp 148) (.const (.string ⟨#[0x20, 0x7b, 0x0a]⟩)) 9, none), 1),
  ((some 153, .binOp .add 9 (.tmp 149) (.tmp 152) 9, none), 0),
  ((some 154, .binOp .add 9 (.tmp 153) (.const (.string ⟨#[0x7d, 0x0a]⟩)) 9, none), 0),
  ((some 155, .binOp .add 9 (.tmp 140) (.tmp 154) 9, none), 0),
  ((some 3, .assign (.tmp 155), none), 0)]
abbrev R19_12 : List SOp := [(some 30, .move (.tmp 3), none),
  (some 31, .move (.tmp 6), none),
  (some 32, .indexAddr 26 (.tmp 31) (.const (.int .i64 0)), none),
  (some 33, .load 9 (.tmp 32), none),
  (some 34, .binOp .add 9 (.tmp 33) (.const (.string ⟨#[0x3b, 0x0a]⟩)) 9, none),
  (some 35, .binOp .add 9 (.tmp 30) (.tmp 34) 9, none),
  (some 3, .assign (.tmp 35), none)]
abbrev R19_32 : List SOp := [(some 156, .binOp .add 3 (.tmp 11) (.const (.int .i64 1)) 3, none),
  (some 11, .move (.tmp 156), none)]
def L19_1 : SCode := .seq (.reg R19_3) (.seq (.cond (.tmp 12) (.skip) (.exit 0)) (.seq (.block 1 (.seq (.reg R19_4) (.seq (.reg R19_5) (.seq (.seq (.reg R19_6) (.block 2 (.loop L19_0))) (.seq (.reg R19_11) (.block 4 (.seq (.reg R19_13) (.cond (.tmp 36) (.dreg R19_14) (.seq (.reg R19_15) (.cond (.tmp 49) (.dreg R19_16) (.seq (.reg R19_17) (.cond (.tmp 61) (.dreg R19_18) (.seq (.reg R19_19) (.cond (.tmp 79) (.seq (.dreg R19_20) (.seq (.seq (.reg R19_21) (.cond (.tmp 96) (.reg R19_22) (.skip))) (.reg R19_23))) (.seq (.reg R19_24) (.cond (.tmp 106) (.dreg R19_25) (.seq (.reg R19_26) (.cond (.tmp 120) (.reg R19_27) (.seq (.reg R19_28) (.cond (.tmp 129) (.reg R19_29) (.seq (.reg R19_30) (.cond (.tmp 138) (.dreg R19_31) (.reg R19_12))))))))))))))))))))))) (.reg R19_32)))
abbrev R19_33 : List SOp := [(some 157, .move (.tmp 3), none),
  (some 2, .assign (.tmp 157), none)]
abbrev S19 : SCode := .seq (.reg R19_0) (.seq (.reg R19_1) (.seq (.seq (.reg R19_2) (.block 0 (.loop L19_1))) (.seq (.reg R19_33) (.ret))))
theorem slim19 : slimC tab 19 (Tryz.f19.body.getD .skip) = S19 := by kernel_rfl
theorem wf19 {xs : List V} {H : Hp} {Q : V → Hp → Prop} (h : WC tab S19 (frame xs 0 .nil) H (resQ tab [.tmp 2] Q)) : WF tab 19 xs H Q := WF.of_slim (T := tab) (f := 19) rfl fn19 rfl slim19 rfl h
/-! (paling/tree.Expr).String -/
abbrev R27_0 : List SOp := [(some 1, .box 46 (.tmp 0), none),
  (some 2, .assign (.const (.string ⟨#[]⟩)), none)]
abbrev R27_1 : List SOp := [(some 5, .fieldAddr 46 (.tmp 1) 0, none),
  (some 6, .load 44 (.tmp 5), none)]
abbrev R27_2 : List SOp := [(some 8, .binOp .eql 44 (.tmp 6) (.const (.int .i64 0)) 44, none),
  (some 7, .assign (.tmp 8), none)]
abbrev R27_3 : List SOp := [(some 2, .assign (.const (.string ⟨#[0x6e, 0x69, 0x6c]⟩)), none)]
abbrev R27_4 : List SOp := [(some 10, .binOp .eql 44 (.tmp 6) (.const (.int .i64 1)) 44, none),
  (some 9, .assign (.tmp 10), none)]
abbrev R27_5 : List SOp := [(some 2, .assign (.const (.string ⟨#[0x66, 0x61, 0x6c, 0x73, 0x65]⟩)), none)]
abbrev R27_6 : List SOp := [(some 12, .binOp .eql 44 (.tmp 6) (.const (.int .i64 2)) 44, none),
  (some 11, .assign (.tmp 12), none)]
abbrev R27_7 : List SOp := [(some 2, .assign (.const (.string ⟨#[0x74, 0x72, 0x75, 0x65]⟩)), none)]
abbrev R27_8 : List SOp := [(some 14, .binOp .eql 44 (.tmp 6) (.const (.int .i64 3)) 44, none),
  (some 13, .assign (.tmp 14), none)]
abbrev R27_9 : List SOp := [(some 15, .fieldAddr 46 (.tmp 1) 1, none),
  (some 16, .load 2 (.tmp 15), none),
  (some 17, .call ⟨.value (.func 55), #[(.tmp 16), (.const (.int .i64 10))], #[2, 3]⟩, none),
  (some 2, .assign (.tmp 17), none)]
abbrev R27_10 : List SOp := [(some 19, .binOp .eql 44 (.tmp 6) (.const (.int .i64 4)) 44, none),
  (some 18, .assign (.tmp 19), none)]
abbrev R27_11 : List SOp := [(some 20, .fieldAddr 46 (.tmp 1) 2, none),
  (some 21, .load 9 (.tmp 20), none),
  (some 22, .call ⟨.value (.func 56), #[(.tmp 21)], #[9]⟩, none),
  (some 2, .assign (.tmp 22), none)]
abbrev R27_12 : List SOp := [(some 24, .binOp .eql 44 (.tmp 6) (.const (.int .i64 5)) 44, none),
  (some 23, .assign (.tmp 24), none)]
abbrev R27_13 : List SOp := [(some 25, .fieldAddr 46 (.tmp 1) 2, none),
  (some 26, .load 9 (.tmp 25), none),
  (some 2, .assign (.tmp 26), none)]
abbrev R27_14 : List SOp := [(some 28, .binOp .eql 44 (.tmp 6) (.const (.int .i64 6)) 44, none),
  (some 27, .assign (.tmp 28), none)]
abbrev R27_15 : List SOp := [(some 29, .binOp .eql 44 (.tmp 6) (.const (.int .i64 7)) 44, none),
  (some 27, .assign (.tmp 29), none)]
abbrev R27_16 : List (SOp × Nat) := [((some 35, .fieldAddr 46 (.tmp 1) 3, none), 0),
  ((some 36, .load 40 (.tmp 35), none), 0),
  ((some 37, .indexAddr 40 (.tmp 36) (.const (.int .i64 0)), none), 0),
  ((some 38, .load 46 (.tmp 37), none), 0),
  ((some 39, .call ⟨.value (.func 27), #[(.tmp 38)], #[46]⟩, none), 0),
  ((some 30, .fieldAddr 46 (.tmp 1) 0, none), 1),
  ((some 31, .load 44 (.tmp 30), none), 1),
  ((some 32, .indexAddr 99 (.global 0) (.tmp 31), none), 1),
  ((some 33, .load 9 (.tmp 32), none), 1),
  ((some 34, .binOp .add 9 (.const (.string ⟨#[0x28]⟩)) (.tmp 33) 9, none), 1),
  ((some 40, .binOp .add 9 (.tmp 34) (.tmp 39) 9, none), 0),
  ((some 41, .binOp .add 9 (.tmp 40) (.const (.string ⟨#[0x29]⟩)) 9, none), 0),
  ((some 2, .assign (.tmp 41), none), 0)]
abbrev R27_17 : List SOp := [(some 43, .binOp .eql 44 (.tmp 6) (.const (.int .i64 14)) 44, none),
  (some 42, .assign (.tmp 43), none)]
abbrev R27_18 : List (SOp × Nat) := [((some 44, .fieldAddr 46 (.tmp 1) 3, none), 0),
  ((some 45, .load 40 (.tmp 44), none), 0),
  ((some 46, .indexAddr 40 (.tmp 45) (.const (.int .i64 0)), none), 0),
  ((some 47, .load 46 (.tmp 46), none), 0),
  ((some 48, .call ⟨.value (.func 27), #[(.tmp 47)], #[46]⟩, none), 0),
  ((some 50, .fieldAddr 46 (.tmp 1) 3, none), 1),
  ((some 51, .load 40 (.tmp 50), none), 1),
  ((some 52, .indexAddr 40 (.tmp 51) (.const (.int .i64 1)), none), 1),
  ((some 53, .load 46 (.tmp 52), none), 1),
  ((some 54, .call ⟨.value (.func 27), #[(.tmp 53)], #[46]⟩, none), 0),
  ((some 49, .binOp .add 9 (.tmp 48) (.const (.string ⟨#[0x5b]⟩)) 9, none), 1),
  ((some 55, .binOp .add 9 (.tmp 49) (.tmp 54) 9, none), 0),
  ((some 56, .binOp .add 9 (.tmp 55) (.const (.string ⟨#[0x5d]⟩)) 9, none), 0),
  ((some 2, .assign (.tmp 56), none), 0)]
abbrev R27_19 : List SOp := [(some 58, .binOp .eql 44 (.tmp 6) (.const (.int .i64 15)) 44, none),
  (some 57, .assign (.tmp 58), none)]
abbrev R27_20 : List (SOp × Nat) := [((some 59, .fieldAddr 46 (.tmp 1) 3, none), 0),
  ((some 60, .load 40 (.tmp 59), none), 0),
  ((some 61, .indexAddr 40 (.tmp 60) (.const (.int .i64 0)), none), 0),
  ((some 62, .load 46 (.tmp 61), none), 0),
  ((some 63, .call ⟨.value (.func 27), #[(.tmp 62)], #[46]⟩, none), 0),
  ((some 65, .fieldAddr 46 (.tmp 1) 3, none), 1),
  ((some 66, .load 40 (.tmp 65), none), 1),
  ((some 67, .slice 40 (.tmp 66) (some (.const (.int .i64 1))) none none, none), 1),
  ((some 68, .call ⟨.value (.func 57), #[(.tmp 67)], #[40]⟩, none), 0),
  ((some 64, .binOp .add 9 (.tmp 63) (.const (.string ⟨#[0x28]⟩)) 9, none), 1),
  ((some 69, .binOp .add 9 (.tmp 64) (.tmp 68) 9, none), 0),
  ((some 70, .binOp .add 9 (.tmp 69) (.const (.string ⟨#[0x29]⟩)) 9, none), 0),
  ((some 2, .assign (.tmp 70), none), 0)]
abbrev R27_21 : List SOp := [(some 72, .binOp .eql 44 (.tmp 6) (.const (.int .i64 16)) 44, none),
  (some 71, .assign (.tmp 72), none)]
abbrev R27_22 : List SOp := [(some 3, .assign (.const (.slice none 0 0)), none)]
abbrev R27_23 : List SOp := [(some 4, .assign (.const (.int .i64 0)), none)]
abbrev R27_24 : List SOp := [(some 73, .move (.tmp 4), none),
  (some 74, .binOp .add 3 (.tmp 73) (.const (.int .i64 1)) 3, none),
  (some 75, .fieldAddr 46 (.tmp 1) 3, none),
  (some 76, .load 40 (.tmp 75), none),
  (some 77, .call ⟨.builtin .len, #[(.tmp 76)], #[40]⟩, none),
  (some 78, .binOp .lss 3 (.tmp 74) (.tmp 77) 3, none)]
abbrev R27_26 : List (SOp × Nat) := [((some 82, .fieldAddr 46 (.tmp 1) 3, none), 0),
  ((some 83, .load 40 (.tmp 82), none), 0),
  ((some 84, .move (.tmp 4), none), 0),
  ((some 85, .indexAddr 40 (.tmp 83) (.tmp 84), none), 0),
  ((some 86, .load 46 (.tmp 85), none), 0),
  ((some 87, .call ⟨.value (.func 27), #[(.tmp 86)], #[46]⟩, none), 0),
  ((some 90, .fieldAddr 46 (.tmp 1) 3, none), 1),
  ((some 91, .load 40 (.tmp 90), none), 1),
  ((some 92, .move (.tmp 4), none), 1),
  ((some 93, .binOp .add 3 (.tmp 92) (.const (.int .i64 1)) 3, none), 1),
  ((some 94, .indexAddr 40 (.tmp 91) (.tmp 93), none), 1),
  ((some 95, .load 46 (.tmp 94), none), 1),
  ((some 96, .call ⟨.value (.func 27), #[(.tmp 95)], #[46]⟩, none), 0),
  ((some 81, .move (.tmp 3), none), 2),
  ((some 88, .binOp .add 9 (.const (.string ⟨#[0x5b]⟩)) (.tmp 87) 9, none), 1),
  ((some 89, .binOp .add 9 (.tmp 88) (.const (.string ⟨#[0x5d, 0x3a, 0x20]⟩)) 9, none), 1),
  ((some 97, .binOp .add 9 (.tmp 89) (.tmp 96) 9, none), 0),
  ((some 98, .buildSlice 26 1 #[(0, (.tmp 97))], none), 0),
  ((some 99, .call ⟨.builtin .append, #[(.tmp 81), (.tmp 98)], #[26, 26]⟩, none), 0),
  ((some 3, .assign (.tmp 99), none), 0)]
abbrev R27_25 : List SOp := [(some 79, .move (.tmp 4), none),
  (some 80, .binOp .add 3 (.tmp 79) (.const (.int .i64 2)) 3, none),
  (some 4, .assign (.tmp 80), none)]
def L27_0 : SCode := .seq (.seq (.reg R27_24) (.cond (.tmp 78) (.skip) (.exit 1))) (.seq (.block 2 (.dreg R27_26)) (.reg R27_25))
abbrev R27_27 : List SOp := [(some 100, .move (.tmp 3), none),
  (some 101, .call ⟨.value (.func 58), #[(.tmp 100), (.const (.string ⟨#[0x2c, 0x20]⟩))], #[26, 9]⟩, none),
  (some 102, .binOp .add 9 (.const (.string ⟨#[0x7b]⟩)) (.tmp 101) 9, none),
  (some 103, .binOp .add 9 (.tmp 102) (.const (.string ⟨#[0x7d]⟩)) 9, none),
  (some 2, .assign (.tmp 103), none)]
abbrev R27_28 : List SOp := [(some 105, .binOp .eql 44 (.tmp 6) (.const (.int .i64 17)) 44, none),
  (some 104, .assign (.tmp 105), none)]
abbrev R27_29 : List (SOp × Nat) := [((some 106, .fieldAddr 46 (.tmp 1) 4, none), 0),
  ((some 107, .load 26 (.tmp 106), none), 0),
  ((some 108, .call ⟨.value (.func 58), #[(.tmp 107), (.const (.string ⟨#[0x2c, 0x20]⟩))], #[26, 9]⟩, none), 0),
  ((some 111, .fieldAddr 46 (.tmp 1) 5, none), 1),
  ((some 112, .load 31 (.tmp 111), none), 1),
  ((some 113, .call ⟨.value (.func 25), #[(.tmp 112)], #[31]⟩, none), 0),
  ((some 109, .binOp .add 9 (.const (.string ⟨#[0x66, 0x6e, 0x28]⟩)) (.tmp 108) 9, none), 1),
  ((some 110, .binOp .add 9 (.tmp 109) (.const (.string ⟨#[0x29, 0x20, 0x7b, 0x0a]⟩)) 9, none), 1),
  ((some 114, .binOp .add 9 (.tmp 110) (.tmp 113) 9, none), 0),
  ((some 115, .binOp .add 9 (.tmp 114) (.const (.string ⟨#[0x7d]⟩)) 9, none), 0),
  ((some 2, .assign (.tmp 115), none), 0)]
abbrev R27_30 : List (SOp × Nat) := [((some 116, .fieldAddr 46 (.tmp 1) 3, none), 0),
  ((some 117, .load 40 (.tmp 116), none), 0),
  ((some 118, .indexAddr 40 (.tmp 117) (.const (.int .i64 0)), none), 0),
  ((some 119, .load 46 (.tmp 118), none), 0),
  ((some 120, .call ⟨.value (.func 27), #[(.tmp 119)], #[46]⟩, none), 0),
  ((some 129, .fieldAddr 46 (.tmp 1) 3, none), 1),
  ((some 130, .load 40 (.tmp 129), none), 1),
  ((some 131, .indexAddr 40 (.tmp 130) (.const (.int .i64 1)), none), 1),
  ((some 132, .load 46 (.tmp 131), none), 1),
  ((some 133, .call ⟨.value (.func 27), #[(.tmp 132)], #[46]⟩, none), 0),
  ((some 121, .binOp .add 9 (.const (.string ⟨#[0x28]⟩)) (.tmp 120) 9, none), 1),
  ((some 122, .binOp .add 9 (.tmp 121) (.const (.string ⟨#[0x20]⟩)) 9, none), 1),
  ((some 123, .fieldAddr 46 (.tmp 1) 0, none), 2),
  ((some 124, .load 44 (.tmp 123), none), 2),
  ((some 125, .indexAddr 99 (.global 0) (.tmp 124), none), 2),
  ((some 126, .load 9 (.tmp 125), none), 2),
  ((some 127, .binOp .add 9 (.tmp 122) (.tmp 126) 9, none), 1),
  ((some 128, .binOp .add 9 (.tmp 127) (.const (.string ⟨#[0x20]⟩)) 9, none), 1),
  ((some 134, .binOp .add 9 (.tmp 128) (.tmp 133) 9, none), 0),
  ((some 135, .binOp .add 9 (.tmp 134) (.const (.string ⟨#[0x29]⟩)) 9, none), 0),
  ((some 2, .assign (.tmp 135), none), 0)]
abbrev S27 : SCode := .seq (.reg R27_0) (.seq (.seq (.reg R27_1) (.block 0 (.seq (.reg R27_2) (.cond (.tmp 7) (.seq (.reg R27_3) (.ret)) (.seq (.reg R27_4) (.cond (.tmp 9) (.seq (.reg R27_5) (.ret)) (.seq (.reg R27_6) (.cond (.tmp 11) (.seq (.reg R27_7) (.ret)) (.seq (.reg R27_8) (.cond (.tmp 13) (.seq (.reg R27_9) (.ret)) (.seq (.reg R27_10) (.cond (.tmp 18) (.seq (.reg R27_11) (.ret)) (.seq (.reg R27_12) (.cond (.tmp 23) (.seq (.reg R27_13) (.ret)) (.seq (.seq (.reg R27_14) (.cond (.tmp 27) (.skip) (.reg R27_15))) (.cond (.tmp 27) (.seq (.dreg R27_16) (.ret)) (.seq (.reg R27_17) (.cond (.tmp 42) (.seq (.dreg R27_18) (.ret)) (.seq (.reg R27_19) (.cond (.tmp 57) (.seq (.dreg R27_20) (.ret)) (.seq (.reg R27_21) (.cond (.tmp 71) (.seq (.reg R27_22) (.seq (.seq (.reg R27_23) (.block 1 (.loop L27_0))) (.seq (.reg R27_27) (.ret)))) (.seq (.reg R27_28) (.cond (.tmp 104) (.seq (.dreg R27_29) (.ret)) (.skip))))))))))))))))))))))))) (.seq (.dreg R27_30) (.ret)))
theorem slim27 : slimC tab 27 (Tryz.f27.body.getD .skip) = S27 := by kernel_rfl
theorem wf27 {xs : List V} {H : Hp} {Q : V → Hp → Prop} (h : WC tab S27 (frame xs 0 .nil) H (resQ tab [.tmp 2] Q)) : WF tab 27 xs H Q := WF.of_slim (T := tab) (f := 27) rfl fn27 rfl slim27 rfl h
/-! (paling/tree.Stmt).String -/
abbrev R26_0 : List SOp := [(some 1, .box 42 (.tmp 0), none),
  (some 2, .assign (.const (.string ⟨#[]⟩)), none)]
abbrev R26_1 : List SOp := [(some 4, .fieldAddr 42 (.tmp 1) 0, none),
  (some 5, .load 39 (.tmp 4), none)]
abbrev R26_2 : List SOp := [(some 7, .binOp .eql 39 (.tmp 5) (.const (.int .i64 0)) 39, none),
  (some 6, .assign (.tmp 7), none)]
abbrev R26_3 : List (SOp × Nat) := [((some 12, .fieldAddr 42 (.tmp 1) 2, none), 0),
  ((some 13, .load 40 (.tmp 12), none), 0),
  ((some 14, .indexAddr 40 (.tmp 13) (.const (.int .i64 0)), none), 0),
  ((some 15, .load 46 (.tmp 14), none), 0),
  ((some 16, .call ⟨.value (.func 27), #[(.tmp 15)], #[46]⟩, none), 0),
  ((some 8, .fieldAddr 42 (.tmp 1) 1, none), 1),
  ((some 9, .load 9 (.tmp 8), none), 1),
  ((some 10, .binOp .add 9 (.const (.string ⟨#[0x6c, 0x65, 0x74, 0x20]⟩)) (.tmp 9) 9, none), 1),
  ((some 11, .binOp .add 9 (.tmp 10) (.const (.string ⟨#[0x20, 0x3d, 0x20]⟩)) 9, none), 1),
  ((some 17, .binOp .add 9 (.tmp 11) (.tmp 16) 9, none), 0),
  ((some 18, .binOp .add 9 (.tmp 17) (.const (.string ⟨#[0x3b, 0x0a]⟩)) 9, none), 0),
  ((some 2, .assign (.tmp 18), none), 0)]
abbrev R26_4 : List SOp := [(some 20, .binOp .eql 39 (.tmp 5) (.const (.int .i64 1)) 39, none),
  (some 19, .assign (.tmp 20), none)]
abbrev R26_5 : List (SOp × Nat) := [((some 24, .fieldAddr 42 (.tmp 1) 2, none), 0),
  ((some 25, .load 40 (.tmp 24), none), 0),
  ((some 26, .indexAddr 40 (.tmp 25) (.const (.int .i64 0)), none), 0),
  ((some 27, .load 46 (.tmp 26), none), 0),
  ((some 28, .call ⟨.value (.func 27), #[(.tmp 27)], #[46]⟩, none), 0),
  ((some 21, .fieldAddr 42 (.tmp 1) 1, none), 1),
  ((some 22, .load 9 (.tmp 21), none), 1),
  ((some 23, .binOp .add 9 (.tmp 22) (.const (.string ⟨#[0x20, 0x3d, 0x20]⟩)) 9, none), 1),
  ((some 29, .binOp .add 9 (.tmp 23) (.tmp 28) 9, none), 0),
  ((some 30, .binOp .add 9 (.tmp 29) (.const (.string ⟨#[0x3b, 0x0a]⟩)) 9, none), 0),
  ((some 2, .assign (.tmp 30), none), 0)]
abbrev R26_6 : List SOp := [(some 32, .binOp .eql 39 (.tmp 5) (.const (.int .i64 2)) 39, none),
  (some 31, .assign (.tmp 32), none)]
abbrev R26_7 : List (SOp × Nat) := [((some 33, .fieldAddr 42 (.tmp 1) 2, none), 0),
  ((some 34, .load 40 (.tmp 33), none), 0),
  ((some 35, .indexAddr 40 (.tmp 34) (.const (.int .i64 0)), none), 0),
  ((some 36, .load 46 (.tmp 35), none), 0),
  ((some 37, .call ⟨.value (.func 27), #[(.tmp 36)], #[46]⟩, none), 0),
  ((some 39, .fieldAddr 42 (.tmp 1) 2, none), 1),
  ((some 40, .load 40 (.tmp 39), none), 1),
  ((some 41, .indexAddr 40 (.tmp 40) (.const (.int .i64 1)), none), 1),
  ((some 42, .load 46 (.tmp 41), none), 1),
  ((some 43, .call ⟨.value (.func 27), #[(.tmp 42)], #[46]⟩, none), 0),
  ((some 46, .fieldAddr 42 (.tmp 1) 2, none), 2),
  ((some 47, .load 40 (.tmp 46), none), 2),
  ((some 48, .indexAddr 40 (.tmp 47) (.const (.int .i64 2)), none), 2),
  ((some 49, .load 46 (.tmp 48), none), 2),
  ((some 50, .call ⟨.value (.func 27), #[(.tmp 49)], #[46]⟩, none), 0),
  ((some 38, .binOp .add 9 (.tmp 37) (.const (.string ⟨#[0x5b]⟩)) 9, none), 2),
  ((some 44, .binOp .add 9 (.tmp 38) (.tmp 43) 9, none), 1),
  ((some 45, .binOp .add 9 (.tmp 44) (.const (.string ⟨#[0x5d, 0x20, 0x3d, 0x20]⟩)) 9, none), 1),
  ((some 51, .binOp .add 9 (.tmp 45) (.tmp 50) 9, none), 0),
  ((some 52, .binOp .add 9 (.tmp 51) (.const (.string ⟨#[0x3b, 0x0a]⟩)) 9, none), 0),
  ((some 2, .assign (.tmp 52), none), 0)]
abbrev R26_8 : List SOp := [(some 54, .binOp .eql 39 (.tmp 5) (.const (.int .i64 3)) 39, none),
  (some 53, .assign (.tmp 54), none)]
abbrev R26_9 : List (SOp × Nat) := [((some 55, .fieldAddr 42 (.tmp 1) 2, none), 0),
  ((some 56, .load 40 (.tmp 55), none), 0),
  ((some 57, .indexAddr 40 (.tmp 56) (.const (.int .i64 0)), none), 0),
  ((some 58, .load 46 (.tmp 57), none), 0),
  ((some 59, .call ⟨.value (.func 27), #[(.tmp 58)], #[46]⟩, none), 0),
  ((some 62, .fieldAddr 42 (.tmp 1) 3, none), 1),
  ((some 63, .load 31 (.tmp 62), none), 1),
  ((some 64, .call ⟨.value (.func 25), #[(.tmp 63)], #[31]⟩, none), 0),
  ((some 60, .binOp .add 9 (.const (.string ⟨#[0x69, 0x66, 0x20]⟩)) (.tmp 59) 9, none), 1),
  ((some 61, .binOp .add 9 (.tmp 60) (.const (.string ⟨#[0x20, 0x7b, 0x0a]⟩)) 9, none), 1),
  ((some 65, .binOp .add 9 (.tmp 61) (.tmp 64) 9, none), 0),
  ((some 66, .binOp .add 9 (.tmp 65) (.const (.string ⟨#[0x7d]⟩)) 9, none), 0),
  ((some 3, .assign (.tmp 66), none), 0)]
abbrev R26_10 : List SOp := [(some 67, .fieldAddr 42 (.tmp 1) 4, none),
  (some 68, .load 31 (.tmp 67), none),
  (some 69, .call ⟨.builtin .len, #[(.tmp 68)], #[31]⟩, none),
  (some 70, .binOp .gtr 3 (.tmp 69) (.const (.int .i64 0)) 3, none)]
abbrev R26_11 : List SOp := [(some 71, .move (.tmp 3), none),
  (some 72, .fieldAddr 42 (.tmp 1) 4, none),
  (some 73, .load 31 (.tmp 72), none),
  (some 74, .call ⟨.value (.func 25), #[(.tmp 73)], #[31]⟩, none),
  (some 75, .binOp .add 9 (.const (.string ⟨#[0x20, 0x65, 0x6c, 0x73, 0x65, 0x20, 0x7b, 0x0a]⟩)) (.tmp 74) 9, none),
  (some 76, .binOp .add 9 (.tmp 75) (.const (.string ⟨#[0x7d]⟩)) 9, none),
  (some 77, .binOp .add 9 (.tmp 71) (.tmp 76) 9, none),
  (some 3, .assign (.tmp 77), none)]
abbrev R26_12 : List SOp := [(some 78, .move (.tmp 3), none),
  (some 79, .binOp .add 9 (.tmp 78) (.const (.string ⟨#[0x0a]⟩)) 9, none),
  (some 2, .assign (.tmp 79), none)]
abbrev R26_13 : List SOp := [(some 81, .binOp .eql 39 (.tmp 5) (.const (.int .i64 4)) 39, none),
  (some 80, .assign (.tmp 81), none)]
abbrev R26_14 : List (SOp × Nat) := [((some 82, .fieldAddr 42 (.tmp 1) 2, none), 0),
  ((some 83, .load 40 (.tmp 82), none), 0),
  ((some 84, .indexAddr 40 (.tmp 83) (.const (.int .i64 0)), none), 0),
  ((some 85, .load 46 (.tmp 84), none), 0),
  ((some 86, .call ⟨.value (.func 27), #[(.tmp 85)], #[46]⟩, none), 0),
  ((some 89, .fieldAddr 42 (.tmp 1) 3, none), 1),
  ((some 90, .load 31 (.tmp 89), none), 1),
  ((some 91, .call ⟨.value (.func 25), #[(.tmp 90)], #[31]⟩, none), 0),
  ((some 87, .binOp .add 9 (.const (.string ⟨#[0x77, 0x68, 0x69, 0x6c, 0x65, 0x20]⟩)) (.tmp 86) 9, none), 1),
  ((some 88, .binOp .add 9 (.tmp 87) (.const (.string ⟨#[0x20, 0x7b, 0x0a]⟩)) 9, none), 1),
  ((some 92, .binOp .add 9 (.tmp 88) (.tmp 91) 9, none), 0),
  ((some 93, .binOp .add 9 (.tmp 92) (.const (.string ⟨#[0x7d, 0x0a]⟩)) 9, none), 0),
  ((some 2, .assign (.tmp 93), none), 0)]
abbrev R26_15 : List SOp := [(some 95, .binOp .eql 39 (.tmp 5) (.const (.int .i64 5)) 39, none),
  (some 94, .assign (.tmp 95), none)]
abbrev R26_16 : List SOp := [(some 96, .fieldAddr 42 (.tmp 1) 2, none),
  (some 97, .load 40 (.tmp 96), none),
  (some 98, .indexAddr 40 (.tmp 97) (.const (.int .i64 0)), none),
  (some 99, .load 46 (.tmp 98), none),
  (some 100, .call ⟨.value (.func 27), #[(.tmp 99)], #[46]⟩, none),
  (some 101, .binOp .add 9 (.const (.string ⟨#[0x72, 0x65, 0x74, 0x75, 0x72, 0x6e, 0x20]⟩)) (.tmp 100) 9, none),
  (some 102, .binOp .add 9 (.tmp 101) (.const (.string ⟨#[0x3b, 0x0a]⟩)) 9, none),
  (some 2, .assign (.tmp 102), none)]
abbrev R26_17 : List SOp := [(some 104, .binOp .eql 39 (.tmp 5) (.const (.int .i64 6)) 39, none),
  (some 103, .assign (.tmp 104), none)]
abbrev R26_18 : List SOp := [(some 105, .fieldAddr 42 (.tmp 1) 2, none),
  (some 106, .load 40 (.tmp 105), none),
  (some 107, .indexAddr 40 (.tmp 106) (.const (.int .i64 0)), none),
  (some 108, .load 46 (.tmp 107), none),
  (some 109, .call ⟨.value (.func 27), #[(.tmp 108)], #[46]⟩, none),
  (some 110, .binOp .add 9 (.const (.string ⟨#[0x74, 0x68, 0x72, 0x6f, 0x77, 0x20]⟩)) (.tmp 109) 9, none),
  (some 111, .binOp .add 9 (.tmp 110) (.const (.string ⟨#[0x3b, 0x0a]⟩)) 9, none),
  (some 2, .assign (.tmp 111), none)]
abbrev R26_19 : List SOp := [(some 113, .binOp .eql 39 (.tmp 5) (.const (.int .i64 7)) 39, none),
  (some 112, .assign (.tmp 113), none)]
abbrev R26_20 : List (SOp × Nat) := [((some 114, .fieldAddr 42 (.tmp 1) 3, none), 0),
  ((some 115, .load 31 (.tmp 114), none), 0),
  ((some 116, .call ⟨.value (.func 25), #[(.tmp 115)], #[31]⟩, none), 0),
  ((some 123, .fieldAddr 42 (.tmp 1) 4, none), 1),
  ((some 124, .load 31 (.tmp 123), none), 1),
  ((some 125, .call ⟨.value (.func 25), #[(.tmp 124)], #[31]⟩, none), 0),
  ((some 117, .binOp .add 9 (.const (.string ⟨#[0x74, 0x72, 0x79, 0x20, 0x7b, 0x0a]⟩)) (.tmp 116) 9, none), 1),
  ((some 118, .binOp .add 9 (.tmp 117) (.const (.string ⟨#[0x7d, 0x20, 0x63, 0x61, 0x74, 0x63, 0x68, 0x20]⟩)) 9, none), 1),
  ((some 119, .fieldAddr 42 (.tmp 1) 1, none), 2),
  ((some 120, .load 9 (.tmp 119), none), 2),
  ((some 121, .binOp .add 9 (.tmp 118) (.tmp 120) 9, none), 1),
  ((some 122, .binOp .add 9 (.tmp 121) (.const (.string ⟨#[0x20, 0x7b, 0x0a]⟩)) 9, none), 1),
  ((some 126, .binOp .add 9 (.tmp 122) (.tmp 125) 9, none), 0),
  ((some 127, .binOp .add 9 (.tmp 126) (.const (.string ⟨#[0x7d, 0x0a]⟩)) 9, none), 0),
  ((some 2, .assign (.tmp 127), none), 0)]
abbrev R26_21 : List SOp := [(some 128, .fieldAddr 42 (.tmp 1) 2, none),
  (some 129, .load 40 (.tmp 128), none),
  (some 130, .indexAddr 40 (.tmp 129) (.const (.int .i64 0)), none),
  (some 131, .load 46 (.tmp 130), none),
  (some 132, .call ⟨.value (.func 27), #[(.tmp 131)], #[46]⟩, none),
  (some 133, .binOp .add 9 (.tmp 132) (.const (.string ⟨#[0x3b, 0x0a]⟩)) 9, none),
  (some 2, .assign (.tmp 133), none)]
abbrev S26 : SCode := .seq (.reg R26_0) (.seq (.seq (.reg R26_1) (.block 0 (.seq (.reg R26_2) (.cond (.tmp 6) (.seq (.dreg R26_3) (.ret)) (.seq (.reg R26_4) (.cond (.tmp 19) (.seq (.dreg R26_5) (.ret)) (.seq (.reg R26_6) (.cond (.tmp 31) (.seq (.dreg R26_7) (.ret)) (.seq (.reg R26_8) (.cond (.tmp 53) (.seq (.dreg R26_9) (.seq (.seq (.reg R26_10) (.cond (.tmp 70) (.reg R26_11) (.skip))) (.seq (.reg R26_12) (.ret)))) (.seq (.reg R26_13) (.cond (.tmp 80) (.seq (.dreg R26_14) (.ret)) (.seq (.reg R26_15) (.cond (.tmp 94) (.seq (.reg R26_16) (.ret)) (.seq (.reg R26_17) (.cond (.tmp 103) (.seq (.reg R26_18) (.ret)) (.seq (.reg R26_19) (.cond (.tmp 112) (.seq (.dreg R26_20) (.ret)) (.skip))))))))))))))))))) (.seq (.reg R26_21) (.ret)))
theorem slim26 : slimC tab 26 (Tryz.f26.body.getD .skip) = S26 := by kernel_rfl
theorem wf26 {xs : List V} {H : Hp} {Q : V → Hp → Prop} (h : WC tab S26 (frame xs 0 .nil) H (resQ tab [.tmp 2] Q)) : WF tab 26 xs H Q := WF.of_slim (T := tab) (f := 26) rfl fn26 rfl slim26 rfl h
/-! paling/tree.Print -/
abbrev R25_0 : List SOp := [(some 2, .assign (.const (.string ⟨#[]⟩)), none)]
abbrev R25_1 : List SOp := [(some 3, .alloc 70, none)]
abbrev R25_2 : List SOp := [(some 6, .move (.tmp 0), none),
  (some 7, .call ⟨.builtin .len, #[(.tmp 6)], #[31]⟩, none),
  (some 8, .move (.const (.int .i64 0)), none)]
abbrev R25_3 : List SOp := [(some 9, .binOp .lss 3 (.tmp 8) (.tmp 7) 3, none)]
abbrev R25_4 : List SOp := [(some 10, .indexAddr 31 (.tmp 6) (.tmp 8), none),
  (some 11, .load 42 (.tmp 10), none),
  (some 5, .alloc 42, none),
  (none, .store 42 (.tmp 5) (.tmp 11), none)]
abbrev R25_5 : List SOp := [(some 12, .load 42 (.tmp 5), none),
  (some 13, .call ⟨.value (.func 26), #[(.tmp 12)], #[42]⟩, none),
  (some 14, .call ⟨.value (.func 41), #[(.tmp 3), (.tmp 13)], #[70, 9]⟩, none)]
abbrev R25_6 : List SOp := [(some 15, .binOp .add 3 (.tmp 8) (.const (.int .i64 1)) 3, none),
  (some 8, .move (.tmp 15), none)]
def L25_0 : SCode := .seq (.reg R25_3) (.seq (.cond (.tmp 9) (.skip) (.exit 0)) (.seq (.block 1 (.seq (.reg R25_4) (.reg R25_5))) (.reg R25_6)))
abbrev R25_7 : List SOp := [(some 16, .call ⟨.value (.func 43), #[(.tmp 3)], #[70]⟩, none),
  (some 2, .assign (.tmp 16), none)]
abbrev S25 : SCode := .seq (.reg R25_0) (.seq (.reg R25_1) (.seq (.seq (.reg R25_2) (.block 0 (.loop L25_0))) (.seq (.reg R25_7) (.ret))))
theorem slim25 : slimC tab 25 (Tryz.f25.body.getD .skip) = S25 := by kernel_rfl
theorem wf25 {xs : List V} {H : Hp} {Q : V → Hp → Prop} (h : WC tab S25 (frame xs 0 .nil) H (resQ tab [.tmp 2] Q)) : WF tab 25 xs H Q := WF.of_slim (T := tab) (f := 25) rfl fn25 rfl slim25 rfl h
/-! paling/tree.list -/
abbrev R57_0 : List SOp := [(some 2, .assign (.const (.string ⟨#[]⟩)), none)]
abbrev R57_1 : List SOp := [(some 3, .assign (.const (.slice none 0 0)), none)]
abbrev R57_2 : List SOp := [(some 6, .move (.tmp 0), none),
  (some 7, .call ⟨.builtin .len, #[(.tmp 6)], #[40]⟩, none),
  (some 8, .move (.const (.int .i64 0)), none)]
abbrev R57_3 : List SOp := [(some 9, .binOp .lss 3 (.tmp 8) (.tmp 7) 3, none)]
abbrev R57_4 : List SOp := [(some 10, .indexAddr 40 (.tmp 6) (.tmp 8), none),
  (some 11, .load 46 (.tmp 10), none),
  (some 5, .alloc 46, none),
  (none, .store 46 (.tmp 5) (.tmp 11), none)]
abbrev R57_5 : List SOp := [(some 12, .move (.tmp 3), none),
  (some 13, .load 46 (.tmp 5), none),
  (some 14, .call ⟨.value (.func 27), #[(.tmp 13)], #[46]⟩, none),
  (some 15, .buildSlice 26 1 #[(0, (.tmp 14))], none),
  (some 16, .call ⟨.builtin .append, #[(.tmp 12), (.tmp 15)], #[26, 26]⟩, none),
  (some 3, .assign (.tmp 16), none)]
abbrev R57_6 : List SOp := [(some 17, .binOp .add 3 (.tmp 8) (.const (.int .i64 1)) 3, none),
  (some 8, .move (.tmp 17), none)]
def L57_0 : SCode := .seq (.reg R57_3) (.seq (.cond (.tmp 9) (.skip) (.exit 0)) (.seq (.block 1 (.seq (.reg R57_4) (.reg R57_5))) (.reg R57_6)))
abbrev R57_7 : List SOp := [(some 18, .move (.tmp 3), none),
  (some 19, .call ⟨.value (.func 58), #[(.tmp 18), (.const (.string ⟨#[0x2c, 0x20]⟩))], #[26, 9]⟩, none),
  (some 2, .assign (.tmp 19), none)]
abbrev S57 : SCode := .seq (.reg R57_0) (.seq (.reg R57_1) (.seq (.seq (.reg R57_2) (.block 0 (.loop L57_0))) (.seq (.reg R57_7) (.ret))))
theorem slim57 : slimC tab 57 (Tryz.f57.body.getD .skip) = S57 := by kernel_rfl
theorem wf57 {xs : List V} {H : Hp} {Q : V → Hp → Prop} (h : WC tab S57 (frame xs 0 .nil) H (resQ tab [.tmp 2] Q)) : WF tab 57 xs H Q := WF.of_slim (T := tab) (f := 57) rfl fn57 rfl slim57 rfl h
end Go.AM.YtlcadokmhfjacaaGreatDoorT
/- What simp opens in the walks of this seat: printed by genset.py. -/
namespace Go.AM.YtlcadokmhfjacaaGreatDoorT
open Go Go.AM
end Go.AM.YtlcadokmhfjacaaGreatDoorT
/- Trees' texts: texts joined. -/
set_option linter.unusedVariables false
set_option linter.unusedSimpArgs false
set_option maxRecDepth 100000
namespace Go.AM.YtlcadokmhfjacaaGreatDoorT
open Go Go.AM Go.Proofs
theorem join_ok {K : Nat → Prop} {H : Hp} {l : Ts} {v : V} (hst : H.stale = []) (h : StrsAt K H l v) (hl : lens l ≤ 1099511627776) : WF tab 61 [v] H fun w H' => H' = H ∧ w = .str (joinP l) := by
  refine wf61 (wp_sound _ ?_)
  have h1 := h.len 9; have h2 := h.one; have h3 := h.cells
  have hg := lens_ge l
  simp [hst, h1, h2, h3]
  refine loop_of (fun k F H' => ∃ i, i + k = l.length ∧ H' = H ∧ F.get 3 = some (.str (joinP (l.take i))) ∧ F.get 6 = some v ∧ F.get 7 = some (.int .i64 l.length) ∧ F.get 8 = some (.int .i64 i)) (m := l.length) ⟨0, by omega, rfl, by simp [joinP], by simp, by simp, by simp⟩ ?_
  rintro k F _ ⟨i, hi, rfl, f3, f6, f7, f8⟩
  by_cases hlt : i < l.length
  · have hlt' : (i : Int) < (l.length : Int) := by omega
    obtain ⟨b, off, cap, e, ro, cells, rfl, g1, g2, g3, g4, g5⟩ := StrsAt.at_ h hlt
    have hw : wr .i64 ((i : Int) + 1) = ((i + 1 : Nat) : Int) := by rw [wr_i64 (by omega) (by omega)]; omega
    have ht := lens_take l i hlt
    have hj := joinP_len (l.take i)
    have hs : joinP (l.take (i + 1)) = if l.take i = [] then l[i] else joinP (l.take i) ++ [44, 32] ++ l[i] := by rw [List.take_succ_eq_append_getElem hlt, joinP_snoc]
    have b1 : (joinP (l.take i)).length + 2 ≤ 9223372036854775807 := by omega
    have b2 : (joinP (l.take i)).length + 2 + l[i].length ≤ 9223372036854775807 := by omega
    by_cases h0 : i = 0
    · subst h0
      have g5' : cells[off]? = some (.str l[0]) := by simpa using g5
      have hw' : wr .i64 1 = 1 := rfl
      have hj0 : joinP ([] : Ts) = [] := rfl
      have hl0 : l[0].length ≤ 9223372036854775807 := by omega
      rw [if_pos (by simp)] at hs
      simp [L61_0, f3, f6, f7, f8, hst, hlt, hlt', g1, g5', hw', hj0, hl0]
      exact ⟨k - 1, by omega, 1, by omega, hs.symm, rfl⟩
    · have h0' : (0 : Int) < (i : Int) := by omega
      have h0n : 0 < i := by omega
      have hne : l.take i ≠ [] := fun e => by
        have := congrArg List.length e
        rw [List.length_take] at this
        simp only [List.length_nil] at this
        omega
      rw [if_neg hne] at hs
      simp [L61_0, f3, f6, f7, f8, hst, hlt, hlt', g1, g5, hw, h0n, b1, b2]
      exact ⟨k - 1, by omega, i + 1, by omega, by rw [hs]; simp, by omega⟩
  · have hlt' : ¬ (i : Int) < (l.length : Int) := by omega
    rw [List.take_of_length_le (by omega)] at f3
    simp [L61_0, f3, f6, f7, f8, hst, hlt']
end Go.AM.YtlcadokmhfjacaaGreatDoorT
/- Trees' texts: by definition. -/
set_option linter.unusedVariables false
set_option linter.unusedSimpArgs false
set_option maxRecDepth 100000
namespace Go.AM.YtlcadokmhfjacaaGreatDoorT
open Go Go.AM Go.Proofs
/-- By definition: what the functions come to. -/
def ReX (dec : Int → Bs) (bw : Tx → Nat) (e : Tx) : Prop := ∀ (H : Hp) (cs : List V) (K : Nat → Prop), H.stale = [] → ExpAt K H e cs → (∀ b, K b → b < H.next) → bw e ≤ 50000000 →
  WF tab 28 [.agg cs] H fun w H' => w = .str (prE dec e) ∧ Ext noX H H'
structure J44 (dec : Int → Bs) (H0 : Hp) (eb : Nat) (v : V) (parts : List Tx) (i : Nat) (u : V) (F : Fr) (H : Hp) : Prop where
  le : i ≤ parts.length
  gro : SGro H0 H noX 9 u (prEs dec (parts.take i))
  ext : Ext noX H0 H
  f1 : F.get 1 = some (.ptr eb 0)
  f3 : F.get 3 = some u
  f9 : F.get 9 = some v
  f10 : F.get 10 = some (.int .i64 parts.length)
  f11 : F.get 11 = some (.int .i64 i)
theorem rparts_loop {dec : Int → Bs} {bw : Tx → Nat} {K : Nat → Prop} {H0 : Hp} {eb : Nat} {v : V} {parts : List Tx} (hP : ∀ p ∈ parts, ReX dec bw p) (hK : ∀ b, K b → b < H0.next) (hT : TreesAt K H0 parts v) (hb : ∀ p ∈ parts, bw p ≤ 50000000) (hn : parts.length ≤ 1099511627776) {F : Fr} {H : Hp} {Q : PC} {u : V} (h0 : J44 dec H0 eb v parts 0 u F H)
    (hQ : ∀ u' F' H', SGro H0 H' noX 9 u' (prEs dec parts) → Ext noX H0 H' → F'.get 1 = some (.ptr eb 0) → F'.get 3 = some u' → Q (.exit 0) F' H') : WC tab (.loop L28_0) F H Q := by
  refine loop_of (fun k F H => ∃ i u, i + k = parts.length ∧ J44 dec H0 eb v parts i u F H) (m := parts.length) ⟨0, u, by omega, h0⟩ ?_
  rintro k F H ⟨i, u, hi, I⟩
  have hst := I.gro.st
  have f1 := I.f1; have f3 := I.f3; have f9 := I.f9; have f10 := I.f10; have f11 := I.f11
  by_cases hlt : i < parts.length
  · have hlt' : (i : Int) < (parts.length : Int) := by omega
    have hS0 : Stays K K H0 H := ⟨fun b hb _ => hb, fun b hb hx => I.ext.get b hx (fun h => h), I.ext.le⟩
    have hTi := hT.mono hS0
    obtain ⟨b, off, cap, e, ro, cells, d0, d1, d2, d3, d4, d5, rfl, g1, g2, g3, g4, g5, g6, g7, n0, n1, n2, n3, n4, n5⟩ := TreesAt.at_ hTi hlt
    have hw : wr .i64 ((i : Int) + 1) = ((i + 1 : Nat) : Int) := by rw [wr_i64 (by omega) (by omega)]; omega
    have hoff : off + i * 6 + 6 ≤ cells.length := by omega
    simp [L28_0, f1, f3, f9, f10, f11, hst, hlt, hlt', g1, g4, g5, g6, hoff, n0, n1, n2, n3, n4, n5, Hp.get_new, Hp.get_put]
    have hgn : ∀ o o' : Ob, ∀ b, b < H.next → ((H.new o).put H.next o').get b = H.get b := fun o o' b hb => by simp [Hp.get_new, Hp.get_put, old_ne hb]
    have hgr := I.gro
    have hX1 : ∀ o o' : Ob, Ext noX H ((H.new o).put H.next o') := fun o o' => ⟨by simp [hst], by simp, fun b hb _ => hgn o o' b hb⟩
    have hSn : ∀ o o' : Ob, Stays K K H ((H.new o).put H.next o') := fun o o' => ⟨fun b hb _ => hb, fun b hb hx => hgn o o' b hx, by simp⟩
    have hl0 := I.gro.le
    refine (hP parts[i] (List.getElem_mem hlt) _ _ K (by simp [hst]) (ExpAt.mono (hSn _ _) _ _ g7) (fun b hb => by have := hK b hb; simp; omega) (hb _ (List.getElem_mem hlt))).mono ?_
    rintro w H2 ⟨rfl, hX2⟩
    have hX12 := (hX1 _ _).trans hX2
    have s2 := hX12.st
    have l2 := hX12.le
    have hrows := I.gro.rows
    have hln : (prEs dec (parts.take i)).length = i := by rw [prEs_map]; simp; omega
    have hsl2 : SlAt H2 9 1 u (prEs dec (parts.take i)).length ((prEs dec (parts.take i)).map .str) := I.gro.sl.of_get fun b hb => hX12.get b (hrows b hb).2.1 (fun h => h)
    simp [s2, f3]
    refine wpL_app1 (H := H2) (e0 := 9) (cells := [.str (prE dec parts[i])]) (by simp [descOf]) ty9 (by decide) (by simp) (by simp) hsl2 (fun b hb => ⟨by have := (hrows b hb).2.1; omega, by simp [s2]⟩) rfl (by show ((prEs dec (parts.take i)).length + 1) * 16 ≤ _; omega) (by omega) (by simp [s2]) fun v' H3 hS hA => ?_
    have c5 := hS.one; have c6 := hS.cells
    simp [f11, hw, c5, c6]
    obtain ⟨G4, keep⟩ := I.gro.step (H4 := H3.flush) (X := noX) (fun b hb => hb.elim) hX12 hS (.inl rfl) hA (by simp) (by simp) (fun b _ => rfl)
    have hs : prEs dec (parts.take (i + 1)) = prEs dec (parts.take i) ++ [prE dec parts[i]] := by rw [List.take_succ_eq_append_getElem hlt, prEs_map, prEs_map, List.map_append]; rfl
    refine ⟨k - 1, by omega, i + 1, by omega, v', by omega, by rw [hs]; exact G4, ⟨by simp, G4.le, fun b hb hx => ?_⟩, by simp [f1], by simp, by simp [f9], by simp [f10], by simp⟩
    rw [keep b (by omega) (fun h => h) (fun h => by have := (hrows b h).1; omega), hX12.get b (by omega) (fun h => h)]
    exact I.ext.get b hb hx
  · have hlt' : ¬ (i : Int) < (parts.length : Int) := by omega
    have hg := I.gro
    rw [List.take_of_length_le (by omega)] at hg
    simp [L28_0, f1, f3, f9, f10, f11, hst, hlt']
    exact hQ _ _ _ hg I.ext (by simp [f1]) (by simp [f3])
end Go.AM.YtlcadokmhfjacaaGreatDoorT
/- Trees' texts: by definition. -/
set_option linter.unusedVariables false
set_option linter.unusedSimpArgs false
set_option maxRecDepth 100000
namespace Go.AM.YtlcadokmhfjacaaGreatDoorT
open Go Go.AM Go.Proofs
theorem fieldsP_two (l : Ts) (k v : Bs) (h : l.length % 2 = 0) : fieldsP (l ++ [k, v]) = fieldsP l ++ [[91] ++ k ++ [93, 58, 32] ++ v] := by
  match l, h with
  | [], _ => rfl
  | [x], h => simp at h
  | x :: y :: r, h =>
    have := fieldsP_two r k v (by simp at h; omega)
    simp only [List.cons_append, fieldsP, this]
/-- A record's fields, one behind the other. -/
structure K44 (H0 : Hp) (l : Ts) (u : V) (i : Nat) (x : V) (F : Fr) (H : Hp) : Prop where
  le : 2 * i ≤ l.length
  gro : SGro H0 H noX 9 x (fieldsP (l.take (2 * i)))
  ext : Ext noX H0 H
  f3 : F.get 3 = some u
  f6 : F.get 6 = some x
  f7 : F.get 7 = some (.int .i64 (2 * i : Nat))
theorem fields_loop {K : Nat → Prop} {H0 : Hp} {u : V} {l : Ts} (h2 : l.length % 2 = 0) (hT : StrsAt K H0 l u) (hn : lens l ≤ 1099511627776) {F : Fr} {H : Hp} {Q : PC} {x : V} (h0 : K44 H0 l u 0 x F H)
    (hQ : ∀ x' F' H', SGro H0 H' noX 9 x' (fieldsP l) → Ext noX H0 H' → F'.get 6 = some x' → Q (.exit 3) F' H') : WC tab (.loop L28_1) F H Q := by
  refine loop_of (fun k F H => ∃ i x, 2 * (i + k) = l.length ∧ K44 H0 l u i x F H) (m := l.length / 2) ⟨0, x, by omega, h0⟩ ?_
  rintro k F H ⟨i, x, hi, I⟩
  have hst := I.gro.st
  have f3 := I.f3; have f6 := I.f6; have f7 := I.f7
  have hS0 : Stays K K H0 H := ⟨fun b hb _ => hb, fun b hb hx => I.ext.get b hx (fun h => h), I.ext.le⟩
  have hTi : StrsAt K H l u := hT.mono hS0
  have hl1 := hTi.len 9
  by_cases hlt : 2 * i < l.length
  · have hlt1 : 2 * i + 1 < l.length := by omega
    have hlt' : ((2 * i : Nat) : Int) < (l.length : Int) := by omega
    have hltb : ((2 * i : Nat) : Int) + 1 < (l.length : Int) := by omega
    have hg := lens_ge l
    have hw : wr .i64 (((2 * i : Nat) : Int) + 2) = ((2 * (i + 1) : Nat) : Int) := by rw [wr_i64 (by omega) (by omega)]; omega
    have hw1 : wr .i64 (((2 * i : Nat) : Int) + 1) = ((2 * i + 1 : Nat) : Int) := by rw [wr_i64 (by omega) (by omega)]; omega
    obtain ⟨b, off, cap, e, ro, cells, rfl, g1, g2, g3, g4, g5⟩ := StrsAt.at_ hTi hlt
    obtain ⟨b', off', cap', e', ro', cells', hv', g1', g2', g3', g4', g5'⟩ := StrsAt.at_ hTi hlt1
    cases hv'
    rw [g1] at g1'
    cases g1'
    have q1 := lens_take l (2 * i) hlt
    have q2 := lens_take l (2 * i + 1) hlt1
    have hq0 : (0 : Int) ≤ ((2 * i : Nat) : Int) + 1 := by omega
    have hf : fieldsP (l.take (2 * (i + 1))) = fieldsP (l.take (2 * i)) ++ [[91] ++ l[2 * i] ++ [93, 58, 32] ++ l[2 * i + 1]] := by
      rw [show 2 * (i + 1) = 2 * i + 1 + 1 by omega, List.take_succ_eq_append_getElem hlt1, List.take_succ_eq_append_getElem hlt, List.append_assoc]
      exact fieldsP_two _ _ _ (by simp; omega)
    have hG0 := I.gro
    generalize hj : 2 * i = j at *
    have b1 : 1 + l[j].length ≤ 9223372036854775807 := by omega
    have b2 : 1 + l[j].length + 3 ≤ 9223372036854775807 := by omega
    have b4 : l[j].length ≤ 9223372036854775803 := by omega
    have b5 : l[j].length + 3 + 1 + l[j + 1].length ≤ 9223372036854775807 := by omega
    have b3 : 1 + l[j].length + 3 + l[j + 1].length ≤ 9223372036854775807 := by omega
    simp [L28_1, f3, f6, f7, hst, hlt, hlt', hlt1, hltb, hl1, g1, g5, g5', hw, hw1, b1, b2, b3, b4, b5, hq0]
    have hrows := hG0.rows
    have hsl := hG0.sl
    have hfl : (fieldsP (l.take j)).length ≤ l.length := by
      have : ∀ n (m : Ts), m.length ≤ n → (fieldsP m).length ≤ m.length := by
        intro n
        induction n with
        | zero => intro m hm; have : m = [] := List.eq_nil_of_length_eq_zero (by omega); subst this; simp [fieldsP]
        | succ n ih =>
          intro m hm
          match m with
          | [] => simp [fieldsP]
          | [y] => simp [fieldsP]
          | y :: z :: r =>
            have := ih r (by simp at hm; omega)
            simp only [fieldsP, List.length_cons]; omega
      exact Nat.le_trans (this _ _ (Nat.le_refl _)) (by simp; omega)
    refine wpD_app1 (H := H) (e0 := 9) (cells := [.str (91 :: (l[j] ++ 93 :: 58 :: 32 :: l[j + 1]))]) (by simp [descOf]) ty9 (by decide) (by simp) (by simp) hsl (fun b hb => ⟨(hrows b hb).2.1, by simp [hst]⟩) rfl (by show ((fieldsP (l.take j)).length + 1) * 16 ≤ _; omega) (by omega) (by simp [hst]) fun v' H3 hS hA => ?_
    have c5 := hS.one; have c6 := hS.cells
    simp [f7, hw, c5, c6]
    obtain ⟨G4, keep⟩ := hG0.step (H2 := H) (H4 := H3.bump.flush) (X := noX) (fun b hb => hb.elim) (Ext.refl hst) hS (.inl rfl) hA (by simp) (by simp) (fun b _ => by rw [Hp.get_flush, Hp.get_flush]; rfl)
    have hl0 := hG0.le
    refine ⟨k - 1, by omega, i + 1, by omega, v', by omega, by rw [hf]; simpa using G4, ⟨by simp, G4.le, fun b hb hx => ?_⟩, by simp [f3], by simp, by simp⟩
    rw [keep b (by omega) (fun h => h) (fun h => by have := (hrows b h).1; omega)]
    exact I.ext.get b hb hx
  · have hlt' : ¬ ((2 * i : Nat) : Int) < (l.length : Int) := by omega
    have hlt2 : ¬ (2 * (i : Int) < (l.length : Int)) := by omega
    have hg := I.gro
    rw [List.take_of_length_le (by omega)] at hg
    simp [L28_1, f3, f6, f7, hst, hl1, hlt', hlt2]
    exact hQ _ _ _ hg I.ext (by simp [f6])
end Go.AM.YtlcadokmhfjacaaGreatDoorT
/- The slim code of these functions: printed by genslim.py. -/
namespace Go.AM.YtlcadokmhfjacaaGreatDoorT
open Go Go.AM Go.Proofs
set_option maxRecDepth 100000
/-! paling/tree.Quote -/
abbrev R56_0 : List SOp := [(some 2, .assign (.const (.string ⟨#[]⟩)), none)]
abbrev R56_1 : List SOp := [(some 3, .alloc 70, none)]
abbrev R56_2 : List SOp := [(some 6, .call ⟨.value (.func 91), #[(.tmp 3), (.const (.int .u8 34))], #[70, 5]⟩, none)]
abbrev R56_3 : List SOp := [(some 7, .move (.tmp 0), none),
  (some 8, .convert 9 60 (.tmp 7), none),
  (some 9, .call ⟨.builtin .len, #[(.tmp 8)], #[60]⟩, none),
  (some 10, .move (.const (.int .i64 0)), none)]
abbrev R56_4 : List SOp := [(some 11, .binOp .lss 3 (.tmp 10) (.tmp 9) 3, none)]
abbrev R56_5 : List SOp := [(some 12, .indexAddr 60 (.tmp 8) (.tmp 10), none),
  (some 13, .load 5 (.tmp 12), none),
  (some 5, .assign (.tmp 13), none)]
abbrev R56_6 : List SOp := [(some 14, .move (.tmp 5), none)]
abbrev R56_8 : List SOp := [(some 18, .binOp .eql 5 (.tmp 14) (.const (.int .u8 34)) 5, none),
  (some 17, .assign (.tmp 18), none)]
abbrev R56_9 : List SOp := [(some 19, .binOp .eql 5 (.tmp 14) (.const (.int .u8 92)) 5, none),
  (some 17, .assign (.tmp 19), none)]
abbrev R56_10 : List SOp := [(some 20, .call ⟨.value (.func 91), #[(.tmp 3), (.const (.int .u8 92))], #[70, 5]⟩, none)]
abbrev R56_11 : List SOp := [(some 21, .move (.tmp 5), none),
  (some 22, .call ⟨.value (.func 91), #[(.tmp 3), (.tmp 21)], #[70, 5]⟩, none)]
abbrev R56_12 : List SOp := [(some 24, .binOp .eql 5 (.tmp 14) (.const (.int .u8 10)) 5, none),
  (some 23, .assign (.tmp 24), none)]
abbrev R56_13 : List SOp := [(some 25, .call ⟨.value (.func 41), #[(.tmp 3), (.const (.string ⟨#[0x5c, 0x6e]⟩))], #[70, 9]⟩, none)]
abbrev R56_7 : List SOp := [(some 15, .move (.tmp 5), none),
  (some 16, .call ⟨.value (.func 91), #[(.tmp 3), (.tmp 15)], #[70, 5]⟩, none)]
abbrev R56_14 : List SOp := [(some 26, .binOp .add 3 (.tmp 10) (.const (.int .i64 1)) 3, none),
  (some 10, .move (.tmp 26), none)]
def L56_0 : SCode := .seq (.reg R56_4) (.seq (.cond (.tmp 11) (.skip) (.exit 0)) (.seq (.block 1 (.seq (.reg R56_5) (.seq (.reg R56_6) (.block 2 (.seq (.seq (.reg R56_8) (.cond (.tmp 17) (.skip) (.reg R56_9))) (.cond (.tmp 17) (.seq (.reg R56_10) (.reg R56_11)) (.seq (.reg R56_12) (.cond (.tmp 23) (.reg R56_13) (.reg R56_7))))))))) (.reg R56_14)))
abbrev R56_15 : List SOp := [(some 27, .call ⟨.value (.func 91), #[(.tmp 3), (.const (.int .u8 34))], #[70, 5]⟩, none)]
abbrev R56_16 : List SOp := [(some 28, .call ⟨.value (.func 43), #[(.tmp 3)], #[70]⟩, none),
  (some 2, .assign (.tmp 28), none)]
abbrev S56 : SCode := .seq (.reg R56_0) (.seq (.reg R56_1) (.seq (.reg R56_2) (.seq (.seq (.reg R56_3) (.block 0 (.loop L56_0))) (.seq (.reg R56_15) (.seq (.reg R56_16) (.ret))))))
theorem slim56 : slimC tab 56 (Tryz.f56.body.getD .skip) = S56 := by kernel_rfl
theorem wf56 {xs : List V} {H : Hp} {Q : V → Hp → Prop} (h : WC tab S56 (frame xs 0 .nil) H (resQ tab [.tmp 2] Q)) : WF tab 56 xs H Q := WF.of_slim (T := tab) (f := 56) rfl fn56 rfl slim56 rfl h
/-! paling/palinglaw06.quote -/
abbrev R60_0 : List SOp := [(some 2, .assign (.const (.string ⟨#[]⟩)), none)]
abbrev R60_1 : List SOp := [(some 3, .assign (.const (.string ⟨#[]⟩)), none)]
abbrev R60_2 : List SOp := [(some 6, .move (.tmp 0), none),
  (some 7, .convert 9 60 (.tmp 6), none),
  (some 8, .call ⟨.builtin .len, #[(.tmp 7)], #[60]⟩, none),
  (some 9, .move (.const (.int .i64 0)), none)]
abbrev R60_3 : List SOp := [(some 10, .binOp .lss 3 (.tmp 9) (.tmp 8) 3, none)]
abbrev R60_4 : List SOp := [(some 11, .indexAddr 60 (.tmp 7) (.tmp 9), none),
  (some 12, .load 5 (.tmp 11), none),
  (some 5, .assign (.tmp 12), none)]
abbrev R60_5 : List SOp := [(some 13, .move (.tmp 5), none)]
abbrev R60_7 : List SOp := [(some 20, .binOp .eql 5 (.tmp 13) (.const (.int .u8 10)) 5, none),
  (some 19, .assign (.tmp 20), none)]
abbrev R60_8 : List SOp := [(some 21, .move (.tmp 3), none),
  (some 22, .binOp .add 9 (.tmp 21) (.const (.string ⟨#[0x5c, 0x6e]⟩)) 9, none),
  (some 3, .assign (.tmp 22), none)]
abbrev R60_9 : List SOp := [(some 24, .binOp .eql 5 (.tmp 13) (.const (.int .u8 34)) 5, none),
  (some 23, .assign (.tmp 24), none)]
abbrev R60_10 : List SOp := [(some 25, .binOp .eql 5 (.tmp 13) (.const (.int .u8 92)) 5, none),
  (some 23, .assign (.tmp 25), none)]
abbrev R60_11 : List SOp := [(some 26, .move (.tmp 3), none),
  (some 27, .move (.tmp 5), none),
  (some 28, .buildSlice 60 1 #[(0, (.tmp 27))], none),
  (some 29, .convert 60 9 (.tmp 28), none),
  (some 30, .binOp .add 9 (.const (.string ⟨#[0x5c]⟩)) (.tmp 29) 9, none),
  (some 31, .binOp .add 9 (.tmp 26) (.tmp 30) 9, none),
  (some 3, .assign (.tmp 31), none)]
abbrev R60_6 : List SOp := [(some 14, .move (.tmp 3), none),
  (some 15, .move (.tmp 5), none),
  (some 16, .buildSlice 60 1 #[(0, (.tmp 15))], none),
  (some 17, .convert 60 9 (.tmp 16), none),
  (some 18, .binOp .add 9 (.tmp 14) (.tmp 17) 9, none),
  (some 3, .assign (.tmp 18), none)]
abbrev R60_12 : List SOp := [(some 32, .binOp .add 3 (.tmp 9) (.const (.int .i64 1)) 3, none),
  (some 9, .move (.tmp 32), none)]
def L60_0 : SCode := .seq (.reg R60_3) (.seq (.cond (.tmp 10) (.skip) (.exit 0)) (.seq (.block 1 (.seq (.reg R60_4) (.seq (.reg R60_5) (.block 2 (.seq (.reg R60_7) (.cond (.tmp 19) (.reg R60_8) (.seq (.seq (.reg R60_9) (.cond (.tmp 23) (.skip) (.reg R60_10))) (.cond (.tmp 23) (.reg R60_11) (.reg R60_6))))))))) (.reg R60_12)))
abbrev R60_13 : List SOp := [(some 33, .move (.tmp 3), none),
  (some 34, .binOp .add 9 (.const (.string ⟨#[0x22]⟩)) (.tmp 33) 9, none),
  (some 35, .binOp .add 9 (.tmp 34) (.const (.string ⟨#[0x22]⟩)) 9, none),
  (some 2, .assign (.tmp 35), none)]
abbrev S60 : SCode := .seq (.reg R60_0) (.seq (.reg R60_1) (.seq (.seq (.reg R60_2) (.block 0 (.loop L60_0))) (.seq (.reg R60_13) (.ret))))
theorem slim60 : slimC tab 60 (Tryz.f60.body.getD .skip) = S60 := by kernel_rfl
theorem wf60 {xs : List V} {H : Hp} {Q : V → Hp → Prop} (h : WC tab S60 (frame xs 0 .nil) H (resQ tab [.tmp 2] Q)) : WF tab 60 xs H Q := WF.of_slim (T := tab) (f := 60) rfl fn60 rfl slim60 rfl h
end Go.AM.YtlcadokmhfjacaaGreatDoorT
/- What simp opens in the walks of this seat: printed by genset.py. -/
namespace Go.AM.YtlcadokmhfjacaaGreatDoorT
open Go Go.AM
end Go.AM.YtlcadokmhfjacaaGreatDoorT
/- Texts in quotes. -/
set_option linter.unusedVariables false
set_option linter.unusedSimpArgs false
set_option maxRecDepth 100000
namespace Go.AM.YtlcadokmhfjacaaGreatDoorT
open Go Go.AM Go.Proofs
def IQuote (s : List UInt8) (H0 : Hp) (b r : Nat) (m : Nat) (F : Fr) (H : Hp) : Prop :=
  ∃ i : Nat, i + m = s.length ∧ Ext noX H0 H ∧ r < H.next ∧ H.get r = some (.row 5 1 false (s.map bv)) ∧ BldK (fun x => x < H0.next ∨ x = r) H b (34 :: (s.take i).flatMap qL) ∧
    F.get 3 = some (.ptr b 0) ∧ F.get 8 = some (.sl r 0 s.length none 1) ∧ F.get 9 = some (.int .i64 s.length) ∧ F.get 10 = some (.int .i64 i)
theorem Quote_ok {H : Hp} (hs : H.stale = []) (s : List UInt8) (hl : s.length < 100000000) : WF tab 56 [.str s] H fun v H' => v = .str (quoteL s) ∧ Ext noX H H' := by
  refine wf56 (wp_sound _ ?_)
  simp [hs]
  have hb0 : BldK (fun x => x < H.next) (H.new bldNew) H.next [] := BldK.new fun x h => h
  have e0 : Ext noX H (H.new bldNew) := Ext.new hs _
  refine (wbK (b := H.next) e0.st hb0 34 (by simp)).mono ?_
  rintro v H1 ⟨b1, x1⟩
  have e1 := Ext.nk e0 x1 fun x h => h
  simp [e1.st]
  obtain ⟨r, hr⟩ : ∃ r, r = H1.next := ⟨_, rfl⟩
  have b2 := b1.more (.row 5 1 false (s.map bv))
  have e2 : Ext noX H (H1.new (.row 5 1 false (s.map bv))) := e1.newge _
  have gr : (H1.new (.row 5 1 false (s.map bv))).get r = some (.row 5 1 false (s.map bv)) := by rw [hr]; exact get_new_self _ _
  rw [← hr] at b2 ⊢
  have hrl : r < (H1.new (.row 5 1 false (s.map bv))).next := by rw [Hp.next_new]; omega
  have hlow : ∀ x, x < H.next → (x < H.next ∨ x = r) := fun x hx => .inl hx
  generalize hH2 : H1.new (.row 5 1 false (s.map bv)) = H2 at b2 e2 gr hrl
  clear hr
  refine loop_of (IQuote s H H.next r) (m := s.length) ⟨0, by omega, e2, hrl, gr, by simpa using b2, by simp, by simp, by simp, by simp⟩ ?_
  rintro m F H' ⟨i, hi, hE, hrn, hg, hB, f3, f8, f9, f10⟩
  have hst := hE.st
  have hql := qflat_len (s.take i)
  have hti : (s.take i).length ≤ s.length := by rw [List.length_take]; omega
  by_cases hlt : i < s.length
  · have hlt' : (i : Int) < (s.length : Int) := by omega
    have hw := wr_succ (show i < 1000000000 by omega)
    have htk : s.take (i + 1) = s.take i ++ [s[i]] := by rw [List.take_add_one, List.getElem?_eq_getElem hlt]; rfl
    have next : ∀ (F' : Fr) (H2 : Hp), Ext noX H H2 → r < H2.next → H2.get r = some (.row 5 1 false (s.map bv)) → BldK (fun x => x < H.next ∨ x = r) H2 H.next (34 :: (s.take i).flatMap qL ++ qL s[i]) → F'.get 3 = some (.ptr H.next 0) → F'.get 8 = some (.sl r 0 s.length none 1) → F'.get 9 = some (.int .i64 s.length) → F'.get 10 = some (.int .i64 ((i + 1 : Nat) : Int)) → ∃ m', m' < m ∧ IQuote s H H.next r m' F' H2 := fun F' H2 q1 q2 q3 q4 q5 q6 q7 q8 =>
      ⟨m - 1, by omega, i + 1, by omega, q1, q2, q3, by rw [htk, List.flatMap_append]; simpa using q4, q5, q6, q7, q8⟩
    have hbl : (34 :: (s.take i).flatMap qL).length < 900000000 := by simp only [List.length_cons]; omega
    generalize (34 :: (s.take i).flatMap qL) = acc at *
    generalize hc : s[i] = c at *
    have keep : ∀ H2 : Hp, Ext (nK fun x => x < H.next ∨ x = r) H' H2 → Ext noX H H2 ∧ r < H2.next ∧ H2.get r = some (.row 5 1 false (s.map bv)) := fun H2 h => ⟨Ext.nk hE h hlow, Nat.lt_of_lt_of_le hrn h.le, by rw [h.get r hrn (fun hn => hn (.inr rfl))]; exact hg⟩
    by_cases h34 : c = 34 ∨ c = 92
    · have hq : qL c = [92, c] := by simp [qL, h34]
      rw [hq] at next
      have hk : ((c.toNat : Int) == 34) = true ∨ ((c.toNat : Int) == 34) = false ∧ ((c.toNat : Int) == 92) = true := by
        rcases h34 with rfl | rfl
        · exact .inl rfl
        · exact .inr ⟨rfl, rfl⟩
      rcases hk with k1 | ⟨k1, k2⟩
      all_goals
        first | simp [L56_0, f3, f8, f9, f10, hlt, hlt', hst, hg, hc, hw, k1, k2] | simp [L56_0, f3, f8, f9, f10, hlt, hlt', hst, hg, hc, hw, k1]
        refine (wbK hst hB 92 (by omega)).mono ?_
        rintro v H3 ⟨b3, x3⟩
        obtain ⟨y1, y2, y3⟩ := keep _ x3
        simp [y1.st, f3]
        refine (wbK y1.st b3 c (by simp; omega)).mono ?_
        rintro v H4 ⟨b4, x4⟩
        obtain ⟨z1, z2, z3⟩ := keep _ (x3.trans x4)
        simp [z1.st, f10, hw]
        exact next _ _ z1 z2 z3 (by simpa using b4) (by simp [f3]) (by simp [f8]) (by simp [f9]) (by simp)
    · have k1 : ((c.toNat : Int) == 34) = false := beq_false_of_ne (by have := ne_u8 (fun e => h34 (.inl e)); simp at this; omega)
      have k2 : ((c.toNat : Int) == 92) = false := beq_false_of_ne (by have := ne_u8 (fun e => h34 (.inr e)); simp at this; omega)
      by_cases h10 : c = 10
      · have hq : qL c = [92, 110] := by simp [qL, h10]
        rw [hq] at next
        have k3 : ((c.toNat : Int) == 10) = true := by rw [h10]; rfl
        simp [L56_0, f3, f8, f9, f10, hlt, hlt', hst, hg, hc, hw, k1, k2, k3]
        refine (wsK hst hB [92, 110] (by simp; omega)).mono ?_
        rintro v H3 ⟨b3, x3⟩
        obtain ⟨y1, y2, y3⟩ := keep _ x3
        simp [y1.st, f10, hw]
        exact next _ _ y1 y2 y3 b3 (by simp [f3]) (by simp [f8]) (by simp [f9]) (by simp)
      · have hq : qL c = [c] := by simp [qL, h34, h10]
        rw [hq] at next
        have k3 : ((c.toNat : Int) == 10) = false := beq_false_of_ne (by have := ne_u8 h10; simp at this; omega)
        simp [L56_0, f3, f8, f9, f10, hlt, hlt', hst, hg, hc, hw, k1, k2, k3]
        refine (wbK hst hB c (by omega)).mono ?_
        rintro v H3 ⟨b3, x3⟩
        obtain ⟨y1, y2, y3⟩ := keep _ x3
        simp [y1.st, f10, hw]
        exact next _ _ y1 y2 y3 b3 (by simp [f3]) (by simp [f8]) (by simp [f9]) (by simp)
  · have hlt' : ¬ (i : Int) < (s.length : Int) := by omega
    have : i = s.length := by omega
    subst this
    rw [List.take_length] at hB
    have hql := qflat_len s
    simp [L56_0, f3, f8, f9, f10, hlt', hst]
    refine (wbK hst hB 34 (by simp only [List.length_cons]; omega)).mono ?_
    rintro v H3 ⟨b3, x3⟩
    have y1 := Ext.nk hE x3 hlow
    simp [y1.st, f3]
    refine (stK y1.st b3 (by simp only [List.length_cons, List.length_append, List.length_nil]; omega)).mono ?_
    rintro v H4 ⟨rfl, x4⟩
    have z1 := Ext.nk y1 x4 hlow
    simp [z1.st, quoteL]
    exact z1
def Iquote (s : List UInt8) (H0 : Hp) (r : Nat) (m : Nat) (F : Fr) (H : Hp) : Prop :=
  ∃ i : Nat, i + m = s.length ∧ Ext noX H0 H ∧ r < H0.next ∧ H0.get r = some (.row 5 1 false (s.map bv)) ∧
    F.get 3 = some (.str ((s.take i).flatMap qL)) ∧ F.get 7 = some (.sl r 0 s.length none 1) ∧ F.get 8 = some (.int .i64 s.length) ∧ F.get 9 = some (.int .i64 i)
theorem quote_ok {H : Hp} (hs : H.stale = []) (s : List UInt8) (hl : s.length < 100000000) : WF tab 60 [.str s] H fun v H' => v = .str (quoteL s) ∧ Ext noX H H' := by
  refine wf60 (wp_sound _ ?_)
  simp [hs]
  have e2 : Ext noX H (H.new (.row 5 1 false (s.map bv))) := Ext.new hs _
  refine loop_of (Iquote s (H.new (.row 5 1 false (s.map bv))) H.next) (m := s.length) ⟨0, by omega, Ext.refl e2.st, by rw [Hp.next_new]; omega, get_new_self _ _, by simp, by simp, by simp, by simp⟩ ?_
  rintro m F H' ⟨i, hi, hE, hrn, hg0, f3, f7, f8, f9⟩
  have hst := hE.st
  have hg := hE.keep hrn hg0
  have hql := qflat_len (s.take i)
  have hti : (s.take i).length ≤ s.length := by rw [List.length_take]; omega
  by_cases hlt : i < s.length
  · have hlt' : (i : Int) < (s.length : Int) := by omega
    have hw := wr_succ (show i < 1000000000 by omega)
    have htk : s.take (i + 1) = s.take i ++ [s[i]] := by rw [List.take_add_one, List.getElem?_eq_getElem hlt]; rfl
    have next : ∀ (F' : Fr) (H2 : Hp), Ext noX H' H2 → F'.get 3 = some (.str ((s.take i).flatMap qL ++ qL s[i])) → F'.get 7 = some (.sl H.next 0 s.length none 1) → F'.get 8 = some (.int .i64 s.length) → F'.get 9 = some (.int .i64 ((i + 1 : Nat) : Int)) → ∃ m', m' < m ∧ Iquote s (H.new (.row 5 1 false (s.map bv))) H.next m' F' H2 := fun F' H2 q1 q5 q6 q7 q8 =>
      ⟨m - 1, by omega, i + 1, by omega, hE.trans q1, hrn, hg0, by rw [htk, List.flatMap_append]; simpa using q5, q6, q7, q8⟩
    have hbl : ((s.take i).flatMap qL).length < 900000000 := by omega
    generalize ((s.take i).flatMap qL) = acc at *
    generalize hc : s[i] = c at *
    have c1 : acc.length ≤ 9223372036854775806 := by omega
    have c2 : acc.length ≤ 9223372036854775805 := by omega
    have gn : ∀ o : Ob, (H'.new o).get H'.next = some o := fun o => get_new_self _ _
    have bo : bytesR (H'.new (.row 5 1 false [V.int .u8 (c.toNat : Int)])).get (.sl H'.next 0 1 none 1) = some [c] := bytesR_new1 H' 5 (bytesOf_bv [c])
    by_cases h10 : c = 10
    · have hq : qL c = [92, 110] := by simp [qL, h10]
      rw [hq] at next
      have k3 : ((c.toNat : Int) == 10) = true := by rw [h10]; rfl
      simp [L60_0, f3, f7, f8, f9, hlt, hlt', hst, hg, hc, hw, k3, c1, c2]
      exact next _ _ (Ext.refl hst) (by simp) (by simp [f7]) (by simp [f8]) (by simp)
    · have k3 : ((c.toNat : Int) == 10) = false := beq_false_of_ne (by have := ne_u8 h10; simp at this; omega)
      by_cases h34 : c = 34 ∨ c = 92
      · have hq : qL c = [92, c] := by simp [qL, h34]
        rw [hq] at next
        have hk : ((c.toNat : Int) == 34) = true ∨ ((c.toNat : Int) == 34) = false ∧ ((c.toNat : Int) == 92) = true := by
          rcases h34 with rfl | rfl
          · exact .inl rfl
          · exact .inr ⟨rfl, rfl⟩
        rcases hk with k1 | ⟨k1, k2⟩
        all_goals
          first | simp [L60_0, f3, f7, f8, f9, hlt, hlt', hst, hg, hc, hw, k1, k2, k3, gn, bo, c1, c2] | simp [L60_0, f3, f7, f8, f9, hlt, hlt', hst, hg, hc, hw, k1, k3, gn, bo, c1, c2]
          exact next _ _ (Ext.new hst _) (by simp) (by simp [f7]) (by simp [f8]) (by simp)
      · have k1 : ((c.toNat : Int) == 34) = false := beq_false_of_ne (by have := ne_u8 (fun e => h34 (.inl e)); simp at this; omega)
        have k2 : ((c.toNat : Int) == 92) = false := beq_false_of_ne (by have := ne_u8 (fun e => h34 (.inr e)); simp at this; omega)
        have hq : qL c = [c] := by simp [qL, h34, h10]
        rw [hq] at next
        simp [L60_0, f3, f7, f8, f9, hlt, hlt', hst, hg, hc, hw, k1, k2, k3, gn, bo, c1, c2]
        exact next _ _ (Ext.new hst _) (by simp) (by simp [f7]) (by simp [f8]) (by simp)
  · have hlt' : ¬ (i : Int) < (s.length : Int) := by omega
    have : i = s.length := by omega
    subst this
    rw [List.take_length] at f3
    have hql := qflat_len s
    have c1 : 1 + (s.flatMap qL).length ≤ 9223372036854775807 := by omega
    have c2 : (s.flatMap qL).length + 1 ≤ 9223372036854775806 := by omega
    generalize hq : s.flatMap qL = Q at *
    have c3 : Q.length ≤ 9223372036854775806 := by omega
    have c4 : Q.length ≤ 9223372036854775805 := by omega
    simp [L60_0, f3, f7, f8, f9, hlt', hst, c1, c2, c3, c4, quoteL, hq]
    exact e2.trans hE
end Go.AM.YtlcadokmhfjacaaGreatDoorT
/- Trees' texts: by definition. -/
set_option linter.unusedVariables false
set_option linter.unusedSimpArgs false
set_option maxRecDepth 100000
namespace Go.AM.YtlcadokmhfjacaaGreatDoorT
open Go Go.AM Go.Proofs
/-- What printing a block by definition comes to. -/
def RpX (l : List Tx) : Prop := ∀ (H : Hp) (v : V) (K : Nat → Prop), H.stale = [] → TreesAt K H l v → (∀ b, K b → b < H.next) → bws itoaF l ≤ 50000000 → WF tab 19 [v] H fun w H' => w = .str (prB itoaF l) ∧ Ext noX H H'
abbrev rX : Tx → Prop := ReX itoaF (Tx.bw itoaF)
theorem if_le {α : Type} {n k : Nat} {x y : α} (h : n ≤ k) : (if n ≤ k then x else y) = x := if_pos h
theorem SlAt.open1 {H : Hp} {e : TypeId} {v : V} {n : Nat} {L : List V} (h : SlAt H e 1 v n L) (hn : 0 < n) : ∃ b cs, v = .sl b 0 n none 1 ∧ H.get b = some (.row e 1 false cs) ∧ n ≤ cs.length ∧ cs.take n = L := by
  cases h with
  | nil => omega
  | row b n cs hg hl => exact ⟨b, cs, rfl, hg, by omega, by rw [Nat.mul_one]⟩
theorem quoteL_P (s : List UInt8) : quoteL s = quoteP s := by
  have : (fun c => if c = 34 ∨ c = 92 then [92, c] else if c = 10 then [92, 110] else [c] : UInt8 → List UInt8) = fun c => if c = 10 then [92, 110] else if c = 34 ∨ c = 92 then [92, c] else [c] := by
    funext c
    by_cases h : c = 10
    · subst h; simp
    · simp [h]
  unfold quoteL quoteP
  show 34 :: (s.flatMap qL ++ [34]) = _
  have hq : qL = fun c => if c = 34 ∨ c = 92 then [92, c] else if c = 10 then [92, 110] else [c] := funext fun c => rfl
  rw [hq, this]; simp
theorem rexpr_ok {op : Nat} {num : Int} {text : List UInt8} {parts : List Tx} {params : Ts} {body : List Tx} (hP : ∀ p ∈ parts, rX p) (hB : RpX body) (hv : (Tx.ex op num text parts params body).ev) : rX (.ex op num text parts params body) := by
  intro H cs K hst hT hK hb
  refine wf28 (wp_sound _ ?_)
  simp only [ExpAt] at hT
  obtain ⟨vp, vq, vb, rfl, t1, t2, t3⟩ := hT
  simp only [Tx.bw] at hb
  simp only [Tx.ev] at hv
  obtain ⟨v1, ⟨v2, v3⟩, v4, v5, v6, v7, v8, v9, v10, v11, v12, v13⟩ := hv
  have n1 := t1.one; have n2 := t2.one; have n3 := t3.one
  have hl := t1.len 46
  simp [hst, n1, n2, n3, Hp.get_new, hl]
  have hS1 : ∀ o : Ob, Stays K K H (H.new o) := fun o => ⟨fun b hb _ => hb, fun b hb hx => by simp [Hp.get_new, old_ne hx], by simp⟩
  have hX1 : ∀ o : Ob, Ext noX H (H.new o) := fun o => Ext.new hst o
  obtain ⟨len1, len2⟩ := prEs_len itoaF parts
  refine rparts_loop (K := K) (H0 := H.new (.row 46 6 false [.int .i64 op, .int .i64 num, .str text, vp, vq, vb])) (eb := H.next) (v := vp) (parts := parts) hP (fun b hb => by have := hK b hb; simp; omega) (t1.mono (hS1 _) (ElsAt.mono (hS1 _) parts)) (fun p hp => by have := bws_mem (dec := itoaF) hp; omega) (by omega) ⟨Nat.zero_le _, ⟨by simp [hst], Nat.le_refl _, by simpa [prEs] using SlAt.nil, fun b hb => by simp [rowsOf] at hb⟩, Ext.refl (by simp [hst]), by simp, by simp, by simp, by simp, by simp⟩ ?_
  intro u F' H' hG hX f1 f3
  have s' := hX.st
  have hrow : H'.get H.next = some (.row 46 6 false [.int .i64 op, .int .i64 num, .str text, vp, vq, vb]) := by rw [hX.get H.next (by simp) (fun h => h)]; simp [Hp.get_new]
  have hXX := (hX1 (.row 46 6 false [.int .i64 op, .int .i64 num, .str text, vp, vq, vb])).trans hX
  have hSX : Stays K K H H' := ⟨fun b hb _ => hb, fun b hb hx => hXX.get b hx (fun h => h), hXX.le⟩
  have hU : StrsAt (fun b => H.next < b ∧ b < H'.next) H' (prEs itoaF parts) u := StrsAt.of_slAt hG.sl (fun b hb => by have := hG.rows b hb; simp at this; exact ⟨⟨by omega, this.2.1⟩, this.2.1⟩) rfl
  have hpr : prE itoaF (.ex op num text parts params body) = prX itoaF op num text (prEs itoaF parts) params (prB itoaF body) := by simp only [prE]
  rw [hpr]
  generalize prEs itoaF parts = l at *
  have hl2 : lens l ≤ 60000000 := by omega
  have hnth : ∀ i (h : i < l.length), l[i].length ≤ 60000000 := fun i h => by have := nth_len l i; rw [nthP_get h] at this; omega
  have hn := old_ne (show H.next < H'.next by have := hX.le; simp at this; omega)
  simp only [bl_exit, if_true]
  rcases (show op = 0 ∨ op = 1 ∨ op = 2 ∨ op = 3 ∨ op = 4 ∨ op = 5 ∨ op = 6 ∨ op = 7 ∨ op = 8 ∨ op = 9 ∨ op = 10 ∨ op = 11 ∨ op = 12 ∨ op = 13 ∨ op = 14 ∨ op = 15 ∨ op = 16 ∨ op = 17 by omega) with rfl | rfl | rfl | rfl | rfl | rfl | rfl | rfl | rfl | rfl | rfl | rfl | rfl | rfl | rfl | rfl | rfl | rfl
  · simp [s', f1, f3, hrow, Hp.get_new, hn]
    exact ⟨by simp [prX], hXX.trans (Ext.new s' _)⟩
  · simp [s', f1, f3, hrow, Hp.get_new, hn]
    exact ⟨by simp [prX], hXX.trans (Ext.new s' _)⟩
  · simp [s', f1, f3, hrow, Hp.get_new, hn]
    exact ⟨by simp [prX], hXX.trans (Ext.new s' _)⟩
  · simp [s', f1, f3, hrow, Hp.get_new, hn]
    refine wf_told (f := 59) rfl fn59 rfl (H' := H') (v := .str (itoaF num)) (by simp [itoaE]; omega) ?_
    simp [s', prX, hXX]
  · simp [s', f1, f3, hrow, Hp.get_new, hn]
    refine (quote_ok s' text (by omega)).mono ?_
    rintro w H2 ⟨rfl, hX2⟩
    simp [hX2.st, prX, quoteL_P, hXX.trans hX2]
  · simp [s', f1, f3, hrow, Hp.get_new, hn]
    simp [prX, hXX]
  · have hlen : l.length = 1 := by rw [len2]; exact v11.2.1 (by omega)
    obtain ⟨b, off, cap, e, ro, cells, rfl, g1, g2, g3, g4, g5⟩ := StrsAt.at_ hU (i := 0) (by omega)
    have q1 := hnth 0 (by omega)
    rw [Nat.add_zero] at g5
    simp [s', f1, f3, hrow, hn, hlen, g1, g5]
    simp (disch := first | omega | (simp only [List.length_append, List.length_cons, List.length_nil]; omega)) only [if_le]
    simp
    simp (disch := first | omega | (simp only [List.length_append, List.length_cons, List.length_nil]; omega)) only [if_le]
    simp [s', prX, hXX, nthP_get (show 0 < l.length by omega)]
  · have hlen : l.length = 1 := by rw [len2]; exact v11.2.1 (by omega)
    obtain ⟨b, off, cap, e, ro, cells, rfl, g1, g2, g3, g4, g5⟩ := StrsAt.at_ hU (i := 0) (by omega)
    have q1 := hnth 0 (by omega)
    rw [Nat.add_zero] at g5
    simp [s', f1, f3, hrow, hn, hlen, g1, g5]
    simp (disch := first | omega | (simp only [List.length_append, List.length_cons, List.length_nil]; omega)) only [if_le]
    simp
    simp (disch := first | omega | (simp only [List.length_append, List.length_cons, List.length_nil]; omega)) only [if_le]
    simp [s', prX, hXX, nthP_get (show 0 < l.length by omega)]
  · have hlen : l.length = 2 := by rw [len2]; exact v11.2.2.2.2.2.1 (by omega) (by omega)
    obtain ⟨b, off, cap, e, ro, cells, rfl, g1, g2, g3, g4, g5⟩ := StrsAt.at_ hU (i := 0) (by omega)
    obtain ⟨b', off', cap', e', ro', cells', hv', g1', g2', g3', g4', g5'⟩ := StrsAt.at_ hU (i := 1) (by omega)
    cases hv'
    rw [g1] at g1'
    cases g1'
    have q1 := hnth 0 (by omega)
    have q2 := hnth 1 (by omega)
    rw [Nat.add_zero] at g5
    simp [s', f1, f3, hrow, hn, hlen, g1, g5, g5', Hp.get_new, old_ne g3, show wr .i64 0 = 0 from rfl]
    simp (disch := first | omega | (simp only [List.length_append, List.length_cons, List.length_nil]; omega)) only [if_le]
    simp
    simp (disch := first | omega | (simp only [List.length_append, List.length_cons, List.length_nil]; omega)) only [if_le]
    simp
    simp (disch := first | omega | (simp only [List.length_append, List.length_cons, List.length_nil]; omega)) only [if_le]
    simp
    simp (disch := first | omega | (simp only [List.length_append, List.length_cons, List.length_nil]; omega)) only [if_le]
    simp
    simp (disch := first | omega | (simp only [List.length_append, List.length_cons, List.length_nil]; omega)) only [if_le]
    simp
    simp (disch := first | omega | (simp only [List.length_append, List.length_cons, List.length_nil]; omega)) only [if_le]
    simp [s', prX, signP, hXX.trans (Ext.new s' _), nthP_get (show 0 < l.length by omega), nthP_get (show 1 < l.length by omega)]
  · have hlen : l.length = 2 := by rw [len2]; exact v11.2.2.2.2.2.1 (by omega) (by omega)
    obtain ⟨b, off, cap, e, ro, cells, rfl, g1, g2, g3, g4, g5⟩ := StrsAt.at_ hU (i := 0) (by omega)
    obtain ⟨b', off', cap', e', ro', cells', hv', g1', g2', g3', g4', g5'⟩ := StrsAt.at_ hU (i := 1) (by omega)
    cases hv'
    rw [g1] at g1'
    cases g1'
    have q1 := hnth 0 (by omega)
    have q2 := hnth 1 (by omega)
    rw [Nat.add_zero] at g5
    simp [s', f1, f3, hrow, hn, hlen, g1, g5, g5', Hp.get_new, old_ne g3, show wr .i64 1 = 1 from rfl]
    simp (disch := first | omega | (simp only [List.length_append, List.length_cons, List.length_nil]; omega)) only [if_le]
    simp
    simp (disch := first | omega | (simp only [List.length_append, List.length_cons, List.length_nil]; omega)) only [if_le]
    simp
    simp (disch := first | omega | (simp only [List.length_append, List.length_cons, List.length_nil]; omega)) only [if_le]
    simp
    simp (disch := first | omega | (simp only [List.length_append, List.length_cons, List.length_nil]; omega)) only [if_le]
    simp
    simp (disch := first | omega | (simp only [List.length_append, List.length_cons, List.length_nil]; omega)) only [if_le]
    simp
    simp (disch := first | omega | (simp only [List.length_append, List.length_cons, List.length_nil]; omega)) only [if_le]
    simp [s', prX, signP, hXX.trans (Ext.new s' _), nthP_get (show 0 < l.length by omega), nthP_get (show 1 < l.length by omega)]
  · have hlen : l.length = 2 := by rw [len2]; exact v11.2.2.2.2.2.1 (by omega) (by omega)
    obtain ⟨b, off, cap, e, ro, cells, rfl, g1, g2, g3, g4, g5⟩ := StrsAt.at_ hU (i := 0) (by omega)
    obtain ⟨b', off', cap', e', ro', cells', hv', g1', g2', g3', g4', g5'⟩ := StrsAt.at_ hU (i := 1) (by omega)
    cases hv'
    rw [g1] at g1'
    cases g1'
    have q1 := hnth 0 (by omega)
    have q2 := hnth 1 (by omega)
    rw [Nat.add_zero] at g5
    simp [s', f1, f3, hrow, hn, hlen, g1, g5, g5', Hp.get_new, old_ne g3, show wr .i64 2 = 2 from rfl]
    simp (disch := first | omega | (simp only [List.length_append, List.length_cons, List.length_nil]; omega)) only [if_le]
    simp
    simp (disch := first | omega | (simp only [List.length_append, List.length_cons, List.length_nil]; omega)) only [if_le]
    simp
    simp (disch := first | omega | (simp only [List.length_append, List.length_cons, List.length_nil]; omega)) only [if_le]
    simp
    simp (disch := first | omega | (simp only [List.length_append, List.length_cons, List.length_nil]; omega)) only [if_le]
    simp
    simp (disch := first | omega | (simp only [List.length_append, List.length_cons, List.length_nil]; omega)) only [if_le]
    simp
    simp (disch := first | omega | (simp only [List.length_append, List.length_cons, List.length_nil]; omega)) only [if_le]
    simp [s', prX, signP, hXX.trans (Ext.new s' _), nthP_get (show 0 < l.length by omega), nthP_get (show 1 < l.length by omega)]
  · have hlen : l.length = 2 := by rw [len2]; exact v11.2.2.2.2.2.1 (by omega) (by omega)
    obtain ⟨b, off, cap, e, ro, cells, rfl, g1, g2, g3, g4, g5⟩ := StrsAt.at_ hU (i := 0) (by omega)
    obtain ⟨b', off', cap', e', ro', cells', hv', g1', g2', g3', g4', g5'⟩ := StrsAt.at_ hU (i := 1) (by omega)
    cases hv'
    rw [g1] at g1'
    cases g1'
    have q1 := hnth 0 (by omega)
    have q2 := hnth 1 (by omega)
    rw [Nat.add_zero] at g5
    simp [s', f1, f3, hrow, hn, hlen, g1, g5, g5', Hp.get_new, old_ne g3, show wr .i64 3 = 3 from rfl]
    simp (disch := first | omega | (simp only [List.length_append, List.length_cons, List.length_nil]; omega)) only [if_le]
    simp
    simp (disch := first | omega | (simp only [List.length_append, List.length_cons, List.length_nil]; omega)) only [if_le]
    simp
    simp (disch := first | omega | (simp only [List.length_append, List.length_cons, List.length_nil]; omega)) only [if_le]
    simp
    simp (disch := first | omega | (simp only [List.length_append, List.length_cons, List.length_nil]; omega)) only [if_le]
    simp
    simp (disch := first | omega | (simp only [List.length_append, List.length_cons, List.length_nil]; omega)) only [if_le]
    simp
    simp (disch := first | omega | (simp only [List.length_append, List.length_cons, List.length_nil]; omega)) only [if_le]
    simp [s', prX, signP, hXX.trans (Ext.new s' _), nthP_get (show 0 < l.length by omega), nthP_get (show 1 < l.length by omega)]
  · have hlen : l.length = 2 := by rw [len2]; exact v11.2.2.2.2.2.1 (by omega) (by omega)
    obtain ⟨b, off, cap, e, ro, cells, rfl, g1, g2, g3, g4, g5⟩ := StrsAt.at_ hU (i := 0) (by omega)
    obtain ⟨b', off', cap', e', ro', cells', hv', g1', g2', g3', g4', g5'⟩ := StrsAt.at_ hU (i := 1) (by omega)
    cases hv'
    rw [g1] at g1'
    cases g1'
    have q1 := hnth 0 (by omega)
    have q2 := hnth 1 (by omega)
    rw [Nat.add_zero] at g5
    simp [s', f1, f3, hrow, hn, hlen, g1, g5, g5', Hp.get_new, old_ne g3, show wr .i64 4 = 4 from rfl]
    simp (disch := first | omega | (simp only [List.length_append, List.length_cons, List.length_nil]; omega)) only [if_le]
    simp
    simp (disch := first | omega | (simp only [List.length_append, List.length_cons, List.length_nil]; omega)) only [if_le]
    simp
    simp (disch := first | omega | (simp only [List.length_append, List.length_cons, List.length_nil]; omega)) only [if_le]
    simp
    simp (disch := first | omega | (simp only [List.length_append, List.length_cons, List.length_nil]; omega)) only [if_le]
    simp
    simp (disch := first | omega | (simp only [List.length_append, List.length_cons, List.length_nil]; omega)) only [if_le]
    simp
    simp (disch := first | omega | (simp only [List.length_append, List.length_cons, List.length_nil]; omega)) only [if_le]
    simp [s', prX, signP, hXX.trans (Ext.new s' _), nthP_get (show 0 < l.length by omega), nthP_get (show 1 < l.length by omega)]
  · have hlen : l.length = 2 := by rw [len2]; exact v11.2.2.2.2.2.1 (by omega) (by omega)
    obtain ⟨b, off, cap, e, ro, cells, rfl, g1, g2, g3, g4, g5⟩ := StrsAt.at_ hU (i := 0) (by omega)
    obtain ⟨b', off', cap', e', ro', cells', hv', g1', g2', g3', g4', g5'⟩ := StrsAt.at_ hU (i := 1) (by omega)
    cases hv'
    rw [g1] at g1'
    cases g1'
    have q1 := hnth 0 (by omega)
    have q2 := hnth 1 (by omega)
    rw [Nat.add_zero] at g5
    simp [s', f1, f3, hrow, hn, hlen, g1, g5, g5', Hp.get_new, old_ne g3, show wr .i64 5 = 5 from rfl]
    simp (disch := first | omega | (simp only [List.length_append, List.length_cons, List.length_nil]; omega)) only [if_le]
    simp
    simp (disch := first | omega | (simp only [List.length_append, List.length_cons, List.length_nil]; omega)) only [if_le]
    simp
    simp (disch := first | omega | (simp only [List.length_append, List.length_cons, List.length_nil]; omega)) only [if_le]
    simp
    simp (disch := first | omega | (simp only [List.length_append, List.length_cons, List.length_nil]; omega)) only [if_le]
    simp
    simp (disch := first | omega | (simp only [List.length_append, List.length_cons, List.length_nil]; omega)) only [if_le]
    simp
    simp (disch := first | omega | (simp only [List.length_append, List.length_cons, List.length_nil]; omega)) only [if_le]
    simp [s', prX, signP, hXX.trans (Ext.new s' _), nthP_get (show 0 < l.length by omega), nthP_get (show 1 < l.length by omega)]
  · have hlen : l.length = 2 := by rw [len2]; exact v11.2.2.2.2.2.1 (by omega) (by omega)
    obtain ⟨b, off, cap, e, ro, cells, rfl, g1, g2, g3, g4, g5⟩ := StrsAt.at_ hU (i := 0) (by omega)
    obtain ⟨b', off', cap', e', ro', cells', hv', g1', g2', g3', g4', g5'⟩ := StrsAt.at_ hU (i := 1) (by omega)
    cases hv'
    rw [g1] at g1'
    cases g1'
    have q1 := hnth 0 (by omega)
    have q2 := hnth 1 (by omega)
    rw [Nat.add_zero] at g5
    simp [s', f1, f3, hrow, hn, hlen, g1, g5, g5', Hp.get_new, old_ne g3]
    simp (disch := first | omega | (simp only [List.length_append, List.length_cons, List.length_nil]; omega)) only [if_le]
    simp
    simp (disch := first | omega | (simp only [List.length_append, List.length_cons, List.length_nil]; omega)) only [if_le]
    simp
    simp (disch := first | omega | (simp only [List.length_append, List.length_cons, List.length_nil]; omega)) only [if_le]
    simp [s', prX, hXX, nthP_get (show 0 < l.length by omega), nthP_get (show 1 < l.length by omega)]
  · have hlen : 1 ≤ l.length := by rw [len2]; exact v11.2.2.1 rfl
    obtain ⟨b, cells, rfl, g1, g4, g5⟩ := SlAt.open1 hG.sl (by omega)
    have q1 := hnth 0 (by omega)
    have g0 : cells[0]? = some (.str l[0]) := by
      have := congrArg (fun x => x[0]?) g5
      simpa [List.getElem?_take, show 0 < l.length by omega] using this
    have g3 : b < H'.next := (hG.rows b (by simp [rowsOf])).2.1
    have hpos : 0 < l.length := by omega
    have hne : l ≠ [] := fun e => by subst e; simp at hlen
    have hdl := lens_drop l 1
    have hj := joinP_len (l.drop 1)
    by_cases h1 : l.length = 1
    · simp [s', f1, f3, hrow, hn, g1, g0, hlen, sliceV, h1]
      refine (join_ok (K := noX) (l := l.drop 1) s' (.inl ⟨.inr rfl, by simp [h1]⟩) (by omega)).mono ?_
      rintro w H2 ⟨rfl, rfl⟩
      have hd : l.drop 1 = [] := List.drop_eq_nil_of_le (by omega)
      rw [hd]
      simp [s', f3, g1, g0, joinP, eqV, hpos]
      simp (disch := first | omega | (simp only [List.length_append, List.length_cons, List.length_nil]; omega)) only [if_le]
      simp [s', f3, g1, g0, joinP, eqV]
      simp (disch := first | omega | (simp only [List.length_append, List.length_cons, List.length_nil]; omega)) only [if_le]
      simp [s', f3, g1, g0, joinP, eqV]
      simp (disch := first | omega | (simp only [List.length_append, List.length_cons, List.length_nil]; omega)) only [if_le]
      simp [s', prX, hXX.bump, nthP_get (show 0 < l.length by omega), hd, joinP]
    · have h1' : 1 < l.length := by omega
      have h1i : (1 : Int) < (l.length : Int) := by omega
      have h1j : ¬ (l.length : Int) < 1 := by omega
      simp [s', f1, f3, hrow, hn, g1, g0, hlen, sliceV, h1', h1i, h1j]
      have hT : StrsAt (fun x => x = b) H' (l.drop 1) (.sl b 1 (l.length - 1) none 1) := by
        refine .inr ⟨b, 1, none, 9, false, cells, by simp, g1, rfl, g3, by simp, by simp; omega, ?_, fun c hc => by cases hc⟩
        have := congrArg (fun x => x.drop 1) g5
        simp only [List.drop_take] at this
        simpa using this
      refine (join_ok s' hT (by omega)).mono ?_
      rintro w H2 ⟨rfl, rfl⟩
      generalize hJ : joinP (l.drop 1) = jj at *
      simp [s', f3, g1, g0, eqV, hpos]
      simp (disch := first | omega | (simp only [List.length_append, List.length_cons, List.length_nil]; omega)) only [if_le]
      simp [s', f3, g1, g0, eqV]
      simp (disch := first | omega | (simp only [List.length_append, List.length_cons, List.length_nil]; omega)) only [if_le]
      simp [s', f3, g1, g0, eqV]
      simp (disch := first | omega | (simp only [List.length_append, List.length_cons, List.length_nil]; omega)) only [if_le]
      rw [List.drop_one] at hJ
      simp [s', prX, hXX.bump, nthP_get (show 0 < l.length by omega), hJ]
  · have hm2 : l.length % 2 = 0 := by rw [len2]; exact v11.2.2.2.1 rfl
    simp [s', f1, f3, hrow, hn]
    refine fields_loop (K := fun b => H.next < b ∧ b < H'.next) (H0 := H') (u := u) (l := l) (x := .nils) hm2 hU (by omega) ⟨Nat.zero_le _, ⟨s', Nat.le_refl _, by simpa [fieldsP] using SlAt.nil, fun b hb => by simp [rowsOf] at hb⟩, Ext.refl s', by simp [f3], by simp, by simp⟩ ?_
    intro x' F2 H2 hG2 hX2 f6
    have hfl := fields_len l
    have hlg := lens_ge l
    have hU2 : StrsAt (fun b => H'.next ≤ b ∧ b < H2.next) H2 (fieldsP l) x' := StrsAt.of_slAt hG2.sl (fun b hb => by have := hG2.rows b hb; exact ⟨⟨this.1, this.2.1⟩, this.2.1⟩) rfl
    simp only [bl_exit, if_true]
    simp [hX2.st, f6]
    refine (join_ok hX2.st hU2 (by omega)).mono ?_
    rintro w H3 ⟨rfl, rfl⟩
    have hj := joinP_len (fieldsP l)
    generalize hJ : joinP (fieldsP l) = jj at *
    simp [hX2.st]
    simp (disch := first | omega | (simp only [List.length_append, List.length_cons, List.length_nil]; omega)) only [if_le]
    simp [hX2.st]
    simp (disch := first | omega | (simp only [List.length_append, List.length_cons, List.length_nil]; omega)) only [if_le]
    simp [hX2.st, prX, hXX.trans hX2, hJ]
  · simp [s', f1, f3, hrow, hn]
    refine (join_ok (K := K) s' (t2.mono hSX fun _ h => h) (by omega)).mono ?_
    rintro w H3 ⟨rfl, rfl⟩
    have hj := joinP_len params
    generalize hJ : joinP params = jj at *
    simp [s', hrow, f1, t3.eqv]
    refine (hB H3.bump vb (fun b => K b) (by simp [s']) (t3.mono ?_ (ElsAt.mono ?_ body)) (fun b hb => ?_) (by omega)).mono ?_
    · exact ⟨fun b hb _ => hb, fun b hb hx => hXX.bump.get b hx (fun h => h), by have := hXX.le; simp; omega⟩
    · exact ⟨fun b hb _ => hb, fun b hb hx => hXX.bump.get b hx (fun h => h), by have := hXX.le; simp; omega⟩
    · have := hK b hb; have := hXX.le; simp; omega
    rintro w H4 ⟨rfl, hX4⟩
    have hpb := prB_len itoaF body
    generalize hB' : prB itoaF body = bb at *
    simp [hX4.st]
    simp (disch := first | omega | (simp only [List.length_append, List.length_cons, List.length_nil]; omega)) only [if_le]
    simp [hX4.st]
    simp (disch := first | omega | (simp only [List.length_append, List.length_cons, List.length_nil]; omega)) only [if_le]
    simp [hX4.st]
    simp (disch := first | omega | (simp only [List.length_append, List.length_cons, List.length_nil]; omega)) only [if_le]
    simp [hX4.st]
    simp (disch := first | omega | (simp only [List.length_append, List.length_cons, List.length_nil]; omega)) only [if_le]
    simp [hX4.st, prX, hJ, (hXX.bump.trans hX4).bump]
end Go.AM.YtlcadokmhfjacaaGreatDoorT
/- Trees' texts: by definition. -/
set_option linter.unusedVariables false
set_option linter.unusedSimpArgs false
set_option maxRecDepth 100000
namespace Go.AM.YtlcadokmhfjacaaGreatDoorT
open Go Go.AM Go.Proofs
structure J19 (H0 : Hp) (sb : Nat) (v : V) (parts : List Tx) (o w : V) (n k : Nat) (i : Nat) (u : V) (F : Fr) (H : Hp) : Prop where
  le : i ≤ parts.length
  gro : SGro H0 H noX 9 u (prEs itoaF (parts.take i))
  ext : Ext noX H0 H
  f3 : F.get 3 = some o
  f5 : F.get 5 = some (.ptr sb 0)
  f6 : F.get 6 = some u
  f9 : F.get 9 = some w
  f10 : F.get 10 = some (.int .i64 n)
  f11 : F.get 11 = some (.int .i64 k)
  f16 : F.get 16 = some v
  f17 : F.get 17 = some (.int .i64 parts.length)
  f18 : F.get 18 = some (.int .i64 i)
theorem xparts_loop {K : Nat → Prop} {H0 : Hp} {sb : Nat} {v o w : V} {n k0 : Nat} {parts : List Tx} (hP : ∀ p ∈ parts, rX p) (hK : ∀ b, K b → b < H0.next) (hT : TreesAt K H0 parts v) (hb : ∀ p ∈ parts, p.bw itoaF ≤ 50000000) (hn : parts.length ≤ 1099511627776) {F : Fr} {H : Hp} {Q : PC} {u : V} (h0 : J19 H0 sb v parts o w n k0 0 u F H)
    (hQ : ∀ u' F' H', J19 H0 sb v parts o w n k0 parts.length u' F' H' → Q (.exit 2) F' H') : WC tab (.loop L19_0) F H Q := by
  refine loop_of (fun k F H => ∃ i u, i + k = parts.length ∧ J19 H0 sb v parts o w n k0 i u F H) (m := parts.length) ⟨0, u, by omega, h0⟩ ?_
  rintro k F H ⟨i, u, hi, I⟩
  have hst := I.gro.st
  have f3 := I.f3; have f5 := I.f5; have f6 := I.f6; have f9 := I.f9; have f10 := I.f10; have f11 := I.f11; have f16 := I.f16; have f17 := I.f17; have f18 := I.f18
  by_cases hlt : i < parts.length
  · have hlt' : (i : Int) < (parts.length : Int) := by omega
    have hS0 : Stays K K H0 H := ⟨fun b hb _ => hb, fun b hb hx => I.ext.get b hx (fun h => h), I.ext.le⟩
    have hTi := hT.mono hS0
    obtain ⟨b, off, cap, e, ro, cells, d0, d1, d2, d3, d4, d5, rfl, g1, g2, g3, g4, g5, g6, g7, n0, n1, n2, n3, n4, n5⟩ := TreesAt.at_ hTi hlt
    have hw : wr .i64 ((i : Int) + 1) = ((i + 1 : Nat) : Int) := by rw [wr_i64 (by omega) (by omega)]; omega
    have hoff : off + i * 6 + 6 ≤ cells.length := by omega
    simp [L19_0, f5, f6, f16, f17, f18, hst, hlt, hlt', g1, g4, g5, g6, hoff, n0, n1, n2, n3, n4, n5, Hp.get_new, Hp.get_put]
    have hgn : ∀ o o' : Ob, ∀ b, b < H.next → ((H.new o).put H.next o').get b = H.get b := fun o o' b hb => by simp [Hp.get_new, Hp.get_put, old_ne hb]
    have hgr := I.gro
    have hX1 : ∀ o o' : Ob, Ext noX H ((H.new o).put H.next o') := fun o o' => ⟨by simp [hst], by simp, fun b hb _ => hgn o o' b hb⟩
    have hSn : ∀ o o' : Ob, Stays K K H ((H.new o).put H.next o') := fun o o' => ⟨fun b hb _ => hb, fun b hb hx => hgn o o' b hx, by simp⟩
    have hl0 := I.gro.le
    refine (hP parts[i] (List.getElem_mem hlt) _ _ K (by simp [hst]) (ExpAt.mono (hSn _ _) _ _ g7) (fun b hb => by have := hK b hb; simp; omega) (hb _ (List.getElem_mem hlt))).mono ?_
    rintro w' H2 ⟨rfl, hX2⟩
    have hX12 := (hX1 _ _).trans hX2
    have s2 := hX12.st
    have l2 := hX12.le
    have hrows := I.gro.rows
    have hln : (prEs itoaF (parts.take i)).length = i := by rw [prEs_map]; simp; omega
    have hsl2 : SlAt H2 9 1 u (prEs itoaF (parts.take i)).length ((prEs itoaF (parts.take i)).map .str) := I.gro.sl.of_get fun b hb => hX12.get b (hrows b hb).2.1 (fun h => h)
    simp [s2, f6]
    refine wpL_app1 (H := H2) (e0 := 9) (cells := [.str (prE itoaF parts[i])]) (by simp [descOf]) ty9 (by decide) (by simp) (by simp) hsl2 (fun b hb => ⟨by have := (hrows b hb).2.1; omega, by simp [s2]⟩) rfl (by show ((prEs itoaF (parts.take i)).length + 1) * 16 ≤ _; omega) (by omega) (by simp [s2]) fun v' H3 hS hA => ?_
    have c5 := hS.one; have c6 := hS.cells
    simp [f18, hw, c5, c6]
    obtain ⟨G4, keep⟩ := I.gro.step (H4 := H3.flush) (X := noX) (fun b hb => hb.elim) hX12 hS (.inl rfl) hA (by simp) (by simp) (fun b _ => rfl)
    have hs : prEs itoaF (parts.take (i + 1)) = prEs itoaF (parts.take i) ++ [prE itoaF parts[i]] := by rw [List.take_succ_eq_append_getElem hlt, prEs_map, prEs_map, List.map_append]; rfl
    refine ⟨k - 1, by omega, i + 1, by omega, v', by omega, by rw [hs]; exact G4, ⟨by simp, G4.le, fun b hb hx => ?_⟩, by simp [f3], by simp [f5], by simp, by simp [f9], by simp [f10], by simp [f11], by simp [f16], by simp [f17], by simp⟩
    rw [keep b (by omega) (fun h => h) (fun h => by have := (hrows b h).1; omega), hX12.get b (by omega) (fun h => h)]
    exact I.ext.get b hb hx
  · have hlt' : ¬ (i : Int) < (parts.length : Int) := by omega
    have : i = parts.length := by omega
    subst this
    simp [L19_0, f3, f5, f6, f9, f10, f11, f16, f17, f18, hst, hlt']
    exact hQ u _ _ ⟨Nat.le_refl _, I.gro, I.ext, by simp [f3], by simp [f5], by simp [f6], by simp [f9], by simp [f10], by simp [f11], by simp [f16], by simp [f17], by simp [f18]⟩
/-- What is wanted of a statement's parts. -/
def RsX : Tx → Prop
  | .st _ _ es b e _ => (∀ x ∈ es, rX x) ∧ RpX b ∧ RpX e
  | .ex .. => False
def I19 (l : List Tx) (v : V) (H0 : Hp) (m : Nat) (F : Fr) (H : Hp) : Prop :=
  ∃ i, i + m = l.length ∧ Ext noX H0 H ∧ F.get 3 = some (.str (prB itoaF (l.take i))) ∧ F.get 9 = some v ∧ F.get 10 = some (.int .i64 l.length) ∧ F.get 11 = some (.int .i64 i)
theorem bws_take {dec : Int → Bs} : ∀ (l : List Tx) (i : Nat), bws dec (l.take i) ≤ bws dec l
  | [], i => by simp
  | x :: r, 0 => by simp [bws]
  | x :: r, i + 1 => by have := bws_take (dec := dec) r i; simp only [List.take_succ_cons, bws]; omega
theorem len_bws {dec : Int → Bs} : ∀ l : List Tx, 40 * l.length ≤ bws dec l
  | [] => by simp [bws]
  | x :: r => by
    have := len_bws (dec := dec) r
    cases x <;> simp only [bws, Tx.bw, List.length_cons] <;> omega
theorem rprint_ok {l : List Tx} (hl : ∀ s ∈ l, RsX s) (hv : svs l) : RpX l := by
  intro H v K hst hT hK hb
  refine wf19 (wp_sound _ ?_)
  have h1 := hT.len 42; have h2 := hT.one; have h3 := hT.cells
  have hll := len_bws (dec := itoaF) l
  simp [hst, h1, h2, h3]
  refine loop_of (I19 l v H) (m := l.length) ⟨0, by omega, Ext.refl hst, by simp [prB], by simp, by simp, by simp⟩ ?_
  rintro m F H' ⟨i, hi, hX, f3, f9, f10, f11⟩
  have s' := hX.st
  by_cases hlt : i < l.length
  · have hlt' : (i : Int) < (l.length : Int) := by omega
    have hw : wr .i64 ((i : Int) + 1) = ((i + 1 : Nat) : Int) := by rw [wr_i64 (by omega) (by omega)]; omega
    have hS0 : Stays K K H H' := ⟨fun b hb _ => hb, fun b hb hx => hX.get b hx (fun h => h), hX.le⟩
    have hTi := hT.mono hS0
    obtain ⟨b, off, cap, e, ro, cells, d0, d1, d2, d3, d4, d5, rfl, g1, g2, g3, g4, g5, g6, g7, n0, n1, n2, n3, n4, n5⟩ := TreesAt.at_ hTi hlt
    have hoff : off + i * 6 + 6 ≤ cells.length := by omega
    have hs : prB itoaF (l.take (i + 1)) = prB itoaF (l.take i) ++ prS itoaF l[i] := by rw [List.take_succ_eq_append_getElem hlt, prB_app]; simp [prB]
    have hacc : (prB itoaF (l.take i)).length ≤ 50000000 := by have := prB_len itoaF (l.take i); have := bws_take (dec := itoaF) l i; omega
    have hmem := List.getElem_mem hlt
    have hbi := bws_mem (dec := itoaF) hmem
    have hsv := svs_mem hv _ hmem
    have hrs := hl _ hmem
    generalize l[i] = x at *
    cases x with
    | ex => exact hrs.elim
    | st kind name es bd el at_ =>
    obtain ⟨r1, r2, r3⟩ := hrs
    simp only [Tx.sv] at hsv
    obtain ⟨v1, v2, v3, v4, v5, v6, v8, v9, v10⟩ := hsv
    simp only [ExpAt] at g7
    obtain ⟨ve, vb, vl, hcs, t1, t2, t3⟩ := g7
    simp only [List.cons.injEq, and_true] at hcs
    obtain ⟨rfl, rfl, rfl, rfl, rfl, rfl⟩ := hcs
    simp only [Tx.bw] at hbi
    have le1 := t1.len 46
    have hX1 : ∀ o o' : Ob, Ext noX H' ((H'.new o).put H'.next o') := fun o o' => ⟨by simp [s'], by simp, fun b hb _ => by simp [Hp.get_new, Hp.get_put, old_ne hb]⟩
    have hXX1 : ∀ o o' : Ob, Ext noX H ((H'.new o).put H'.next o') := fun o o' => hX.trans (hX1 o o')
    have hSt : ∀ o o' : Ob, Stays K K H' ((H'.new o).put H'.next o') := fun o o' => ⟨fun b hb _ => hb, fun b hb hx => (hX1 o o').get b hx (fun h => h), (hX1 o o').le⟩
    simp [L19_1, f3, f9, f10, f11, s', hlt, hlt', g1, g4, g5, g6, hoff, n0, n1, n2, n3, n4, n5, Hp.get_new, Hp.get_put, le1]
    obtain ⟨len1, len2⟩ := prEs_len itoaF es
    have hnx : ∀ o o' : Ob, H'.next < ((H'.new o).put H'.next o').next := fun o o' => by simp
    refine xparts_loop (K := K) (sb := H'.next) (v := d2) (parts := es) (o := .str (prB itoaF (l.take i))) (w := .sl b off l.length cap 6) (n := l.length) (k0 := i) r1 (fun b hb => by have := hK b hb; have := hX.le; have := hnx (.row 0 0 false []) (.row 0 0 false []); simp; omega) (t1.mono (hSt _ _) (ElsAt.mono (hSt _ _) es)) (fun p hp => by have := bws_mem (dec := itoaF) hp; omega) (by have := len_bws (dec := itoaF) es; omega) ⟨Nat.zero_le _, ⟨by simp [s'], Nat.le_refl _, by simpa [prEs] using SlAt.nil, fun b hb => by simp [rowsOf] at hb⟩, Ext.refl (by simp [s']), by simp [f3], by simp, by simp, by simp [f9], by simp [f10], by simp [f11], by simp, by simp, by simp⟩ ?_
    intro u F2 H2 I
    have e3 := I.f3; have e5 := I.f5; have e6 := I.f6; have e9 := I.f9; have e10 := I.f10; have e11 := I.f11
    have s2 := I.ext.st
    have hX2 := I.ext
    have hrow : H2.get H'.next = some (.row 42 6 false [.int .i64 kind, .str name, d2, d3, d4, .int .i64 at_]) := by rw [hX2.get H'.next (by simp) (fun h => h)]; simp [Hp.get_new, Hp.get_put]
    have hXX := (hXX1 _ _).trans hX2
    have hSX : Stays K K H' H2 := ⟨fun b hb _ => hb, fun b hb hx => ((hX1 _ _).trans hX2).get b hx (fun h => h), ((hX1 _ _).trans hX2).le⟩
    have hGr := I.gro
    rw [List.take_length] at hGr
    have hU : StrsAt (fun b => H'.next < b ∧ b < H2.next) H2 (prEs itoaF es) u := StrsAt.of_slAt hGr.sl (fun b hb => by have := hGr.rows b hb; simp at this; exact ⟨⟨by omega, this.2.1⟩, this.2.1⟩) rfl
    have hps : prS itoaF (.st kind name es bd el at_) = prY kind name (prEs itoaF es) (prB itoaF bd) (prB itoaF el) (!el.isEmpty) := by simp only [prS]
    rw [hps] at hs
    have pb := prB_len itoaF bd
    have pe := prB_len itoaF el
    have hT2 : TreesAt K H2 bd d3 := t2.mono hSX (ElsAt.mono hSX bd)
    have hT3 : TreesAt K H2 el d4 := t3.mono hSX (ElsAt.mono hSX el)
    have hK2 : ∀ b, K b → b < H2.next := fun b hb => by have := hK b hb; have := hXX.le; omega
    clear I t1 t2 t3 r1
    generalize prEs itoaF es = L at *
    generalize hacc' : prB itoaF (l.take i) = acc at *
    have hl2 : lens L ≤ 60000000 := by omega
    have hnth : ∀ j (h : j < L.length), L[j].length ≤ 60000000 := fun j h => by have := nth_len L j; rw [nthP_get h] at this; omega
    have fin : ∀ (F' : Fr) (H3 : Hp), Ext noX H H3 → F'.get 3 = some (.str (prB itoaF (l.take (i + 1)))) → F'.get 9 = some (.sl b off l.length cap 6) → F'.get 10 = some (.int .i64 l.length) → F'.get 11 = some (.int .i64 ((i : Int) + 1)) → ∃ m', m' < m ∧ I19 l (.sl b off l.length cap 6) H m' F' H3 := fun F' H3 a1 a2 a3 a4 a5 => ⟨m - 1, by omega, i + 1, by omega, a1, a2, a3, a4, by rw [a5]; rfl⟩
    rw [hs] at fin
    have fin' : ∀ (F' : Fr) (H3 : Hp) (t : Bs), Ext noX H H3 → t = acc ++ prY kind name L (prB itoaF bd) (prB itoaF el) (!el.isEmpty) → F'.get 3 = some (.str t) → F'.get 9 = some (.sl b off l.length cap 6) → F'.get 10 = some (.int .i64 l.length) → F'.get 11 = some (.int .i64 ((i : Int) + 1)) → ∃ m', m' < m ∧ I19 l (.sl b off l.length cap 6) H m' F' H3 := fun F' H3 t a1 a0 a2 => fin F' H3 a1 (by rw [← a0]; exact a2)
    simp only [bl_exit, if_true]
    have eq_d4 := hT3.eqv
    have kc : kind = 0 ∨ kind = 1 ∨ kind = 2 ∨ kind = 3 ∨ kind = 4 ∨ kind = 5 ∨ kind = 6 ∨ kind = 7 ∨ kind = 8 := by omega
    have one : kind ≠ 2 → kind ≠ 7 → L.length = 1 := fun a c => by rw [len2, v4]; simp [scountP, a, c]
    rcases kc with rfl | rfl | rfl | rfl | rfl | rfl | rfl | rfl | rfl
    · skip
      have hlen : L.length = 1 := one (by omega) (by omega)
      obtain ⟨b1, off1, cap1, e1, ro1, cells1, rfl, q1, q2, q3, q4, q5⟩ := StrsAt.at_ hU (i := 0) (by omega)
      have z1 := hnth 0 (by omega)
      rw [Nat.add_zero] at q5
      simp [s2, e3, e5, e6, e11, hw, hrow, hlen, q1, q5, eqV]
      try simp (disch := first | omega | (simp only [List.length_append, List.length_cons, List.length_nil]; omega)) only [if_le]
      try simp [s2, e11, hw]
      try simp (disch := first | omega | (simp only [List.length_append, List.length_cons, List.length_nil]; omega)) only [if_le]
      try simp [s2, e11, hw]
      try simp (disch := first | omega | (simp only [List.length_append, List.length_cons, List.length_nil]; omega)) only [if_le]
      try simp [s2, e11, hw]
      try simp (disch := first | omega | (simp only [List.length_append, List.length_cons, List.length_nil]; omega)) only [if_le]
      try simp [s2, e11, hw]
      try simp (disch := first | omega | (simp only [List.length_append, List.length_cons, List.length_nil]; omega)) only [if_le]
      try simp [s2, e11, hw]
      exact fin' _ _ _ hXX (by simp [prY, nthP_get (show 0 < L.length by omega)]; try rfl) (by simp; try rfl) (by simp [e9]) (by simp [e10]) (by simp [e11])
    · skip
      have hlen : L.length = 1 := one (by omega) (by omega)
      obtain ⟨b1, off1, cap1, e1, ro1, cells1, rfl, q1, q2, q3, q4, q5⟩ := StrsAt.at_ hU (i := 0) (by omega)
      have z1 := hnth 0 (by omega)
      rw [Nat.add_zero] at q5
      simp [s2, e3, e5, e6, e11, hw, hrow, hlen, q1, q5, eqV]
      try simp (disch := first | omega | (simp only [List.length_append, List.length_cons, List.length_nil]; omega)) only [if_le]
      try simp [s2, e11, hw]
      try simp (disch := first | omega | (simp only [List.length_append, List.length_cons, List.length_nil]; omega)) only [if_le]
      try simp [s2, e11, hw]
      try simp (disch := first | omega | (simp only [List.length_append, List.length_cons, List.length_nil]; omega)) only [if_le]
      try simp [s2, e11, hw]
      try simp (disch := first | omega | (simp only [List.length_append, List.length_cons, List.length_nil]; omega)) only [if_le]
      try simp [s2, e11, hw]
      exact fin' _ _ _ hXX (by simp [prY, nthP_get (show 0 < L.length by omega)]; try rfl) (by simp; try rfl) (by simp [e9]) (by simp [e10]) (by simp [e11])
    · skip
      have hlen : L.length = 3 := by rw [len2, v4]; rfl
      obtain ⟨b1, off1, cap1, e1, ro1, cells1, rfl, q1, q2, q3, q4, q5⟩ := StrsAt.at_ hU (i := 0) (by omega)
      obtain ⟨b1', off1', cap1', e1', ro1', cells1', hv1, q1', q2', q3', q4', q6⟩ := StrsAt.at_ hU (i := 1) (by omega)
      cases hv1
      rw [q1] at q1'
      cases q1'
      obtain ⟨b1', off1', cap1', e1', ro1', cells1', hv1, q1', q2', q3', q4', q7⟩ := StrsAt.at_ hU (i := 2) (by omega)
      cases hv1
      rw [q1] at q1'
      cases q1'
      have z1 := hnth 0 (by omega)
      have z2 := hnth 1 (by omega)
      have z3 := hnth 2 (by omega)
      rw [Nat.add_zero] at q5
      simp [s2, e3, e5, e6, e11, hw, hrow, hlen, q1, q5, q6, q7, eqV]
      try simp (disch := first | omega | (simp only [List.length_append, List.length_cons, List.length_nil]; omega)) only [if_le]
      try simp [s2, e11, hw]
      try simp (disch := first | omega | (simp only [List.length_append, List.length_cons, List.length_nil]; omega)) only [if_le]
      try simp [s2, e11, hw]
      try simp (disch := first | omega | (simp only [List.length_append, List.length_cons, List.length_nil]; omega)) only [if_le]
      try simp [s2, e11, hw]
      try simp (disch := first | omega | (simp only [List.length_append, List.length_cons, List.length_nil]; omega)) only [if_le]
      try simp [s2, e11, hw]
      try simp (disch := first | omega | (simp only [List.length_append, List.length_cons, List.length_nil]; omega)) only [if_le]
      try simp [s2, e11, hw]
      try simp (disch := first | omega | (simp only [List.length_append, List.length_cons, List.length_nil]; omega)) only [if_le]
      try simp [s2, e11, hw]
      exact fin' _ _ _ hXX (by simp [prY, nthP_get (show 0 < L.length by omega), nthP_get (show 1 < L.length by omega), nthP_get (show 2 < L.length by omega)]; try rfl) (by simp; try rfl) (by simp [e9]) (by simp [e10]) (by simp [e11])
    · skip
      have hlen : L.length = 1 := one (by omega) (by omega)
      obtain ⟨b1, off1, cap1, e1, ro1, cells1, rfl, q1, q2, q3, q4, q5⟩ := StrsAt.at_ hU (i := 0) (by omega)
      have z1 := hnth 0 (by omega)
      rw [Nat.add_zero] at q5
      simp [s2, e3, e5, e6, e11, hw, hrow, hlen, q1, q5, eqV]
      refine (r2 H2 d3 K s2 hT2 hK2 (by omega)).mono ?_
      rintro w H4 ⟨rfl, hX4⟩
      generalize hB' : prB itoaF bd = bb at *
      have q1k : H4.get b1 = some (.row e1 1 ro1 cells1) := by rw [hX4.get b1 q3 (fun h => h)]; exact q1
      simp [hX4.st, e3, e5, e6, e11, hw, q1, q1k, q5, eqV, hlen]
      try simp (disch := first | omega | (simp only [List.length_append, List.length_cons, List.length_nil]; omega)) only [if_le]
      try simp [hX4.st, e5, e11, hw]
      try simp (disch := first | omega | (simp only [List.length_append, List.length_cons, List.length_nil]; omega)) only [if_le]
      try simp [hX4.st, e5, e11, hw]
      try simp (disch := first | omega | (simp only [List.length_append, List.length_cons, List.length_nil]; omega)) only [if_le]
      try simp [hX4.st, e5, e11, hw]
      try simp (disch := first | omega | (simp only [List.length_append, List.length_cons, List.length_nil]; omega)) only [if_le]
      try simp [hX4.st, e5, e11, hw]
      try simp (disch := first | omega | (simp only [List.length_append, List.length_cons, List.length_nil]; omega)) only [if_le]
      try simp [hX4.st, e5, e11, hw]
      have hX24 := (hX4.bump)
      have lt2 : H'.next < H2.next := by have := hX2.le; simp at this; omega
      have rw4 : H4.get H'.next = some (.row 42 6 false [.int .i64 ((3 : Nat) : Int), .str name, d2, d3, d4, .int .i64 at_]) := by rw [hX4.get H'.next lt2 (fun h => h)]; exact hrow
      have hd4 := hT3.len 42
      simp [rw4, hd4]
      have hX4b := hX4.bump
      cases el with
      | nil =>
        have hXb := (hXX.trans hX4).bump
        simp [e11, hw, hX4.st]
        try simp (disch := first | omega | (simp only [List.length_append, List.length_cons, List.length_nil]; omega)) only [if_le]
        try simp [e11, hw, hX4.st]
        exact fin' _ _ _ hXb (by simp [prY, nthP_get (show 0 < L.length by omega)]; try rfl) (by simp; try rfl) (by simp [e9]) (by simp [e10]) (by simp [e11])
      | cons x0 xr =>
        simp [e5, rw4, hX4.st]
        refine (r3 H4.bump d4 K (by simp [hX4.st]) (TreesAt.mono ⟨fun b hb _ => hb, fun b hb hx => hX4b.get b hx (fun h => h), hX4b.le⟩ hT3) (fun b hb => by have := hK2 b hb; have := hX4b.le; omega) (by omega)).mono ?_
        rintro w H5 ⟨rfl, hX5⟩
        generalize hB2 : prB itoaF (x0 :: xr) = be at *
        simp [hX5.st, e11, hw]
        try simp (disch := first | omega | (simp only [List.length_append, List.length_cons, List.length_nil]; omega)) only [if_le]
        try simp [hX5.st, e11, hw]
        try simp (disch := first | omega | (simp only [List.length_append, List.length_cons, List.length_nil]; omega)) only [if_le]
        try simp [hX5.st, e11, hw]
        try simp (disch := first | omega | (simp only [List.length_append, List.length_cons, List.length_nil]; omega)) only [if_le]
        try simp [hX5.st, e11, hw]
        try simp (disch := first | omega | (simp only [List.length_append, List.length_cons, List.length_nil]; omega)) only [if_le]
        try simp [hX5.st, e11, hw]
        exact fin' _ _ _ (hXX.trans (hX4b.trans hX5)) (by simp [prY, hB2, nthP_get (show 0 < L.length by omega)]; try rfl) (by simp; try rfl) (by simp [e9]) (by simp [e10]) (by simp [e11])
    · skip
      have hlen : L.length = 1 := one (by omega) (by omega)
      obtain ⟨b1, off1, cap1, e1, ro1, cells1, rfl, q1, q2, q3, q4, q5⟩ := StrsAt.at_ hU (i := 0) (by omega)
      have z1 := hnth 0 (by omega)
      rw [Nat.add_zero] at q5
      simp [s2, e3, e5, e6, e11, hw, hrow, hlen, q1, q5, eqV]
      refine (r2 H2 d3 K s2 hT2 hK2 (by omega)).mono ?_
      rintro w H4 ⟨rfl, hX4⟩
      generalize hB' : prB itoaF bd = bb at *
      have q1k : H4.get b1 = some (.row e1 1 ro1 cells1) := by rw [hX4.get b1 q3 (fun h => h)]; exact q1
      simp [hX4.st, e3, e6, e11, hw, q1, q1k, q5, eqV, hlen]
      try simp (disch := first | omega | (simp only [List.length_append, List.length_cons, List.length_nil]; omega)) only [if_le]
      try simp [hX4.st, e11, hw]
      try simp (disch := first | omega | (simp only [List.length_append, List.length_cons, List.length_nil]; omega)) only [if_le]
      try simp [hX4.st, e11, hw]
      try simp (disch := first | omega | (simp only [List.length_append, List.length_cons, List.length_nil]; omega)) only [if_le]
      try simp [hX4.st, e11, hw]
      try simp (disch := first | omega | (simp only [List.length_append, List.length_cons, List.length_nil]; omega)) only [if_le]
      try simp [hX4.st, e11, hw]
      try simp (disch := first | omega | (simp only [List.length_append, List.length_cons, List.length_nil]; omega)) only [if_le]
      try simp [hX4.st, e11, hw]
      exact fin' _ _ _ (hXX.trans hX4).bump (by simp [prY, nthP_get (show 0 < L.length by omega)]; try rfl) (by simp; try rfl) (by simp [e9]) (by simp [e10]) (by simp [e11])
    · skip
      have hlen : L.length = 1 := one (by omega) (by omega)
      obtain ⟨b1, off1, cap1, e1, ro1, cells1, rfl, q1, q2, q3, q4, q5⟩ := StrsAt.at_ hU (i := 0) (by omega)
      have z1 := hnth 0 (by omega)
      rw [Nat.add_zero] at q5
      simp [s2, e3, e5, e6, e11, hw, hrow, hlen, q1, q5, eqV]
      try simp (disch := first | omega | (simp only [List.length_append, List.length_cons, List.length_nil]; omega)) only [if_le]
      try simp [s2, e11, hw]
      try simp (disch := first | omega | (simp only [List.length_append, List.length_cons, List.length_nil]; omega)) only [if_le]
      try simp [s2, e11, hw]
      try simp (disch := first | omega | (simp only [List.length_append, List.length_cons, List.length_nil]; omega)) only [if_le]
      try simp [s2, e11, hw]
      exact fin' _ _ _ hXX (by simp [prY, nthP_get (show 0 < L.length by omega)]; try rfl) (by simp; try rfl) (by simp [e9]) (by simp [e10]) (by simp [e11])
    · skip
      have hlen : L.length = 1 := one (by omega) (by omega)
      obtain ⟨b1, off1, cap1, e1, ro1, cells1, rfl, q1, q2, q3, q4, q5⟩ := StrsAt.at_ hU (i := 0) (by omega)
      have z1 := hnth 0 (by omega)
      rw [Nat.add_zero] at q5
      simp [s2, e3, e5, e6, e11, hw, hrow, hlen, q1, q5, eqV]
      try simp (disch := first | omega | (simp only [List.length_append, List.length_cons, List.length_nil]; omega)) only [if_le]
      try simp [s2, e11, hw]
      try simp (disch := first | omega | (simp only [List.length_append, List.length_cons, List.length_nil]; omega)) only [if_le]
      try simp [s2, e11, hw]
      try simp (disch := first | omega | (simp only [List.length_append, List.length_cons, List.length_nil]; omega)) only [if_le]
      try simp [s2, e11, hw]
      exact fin' _ _ _ hXX (by simp [prY, nthP_get (show 0 < L.length by omega)]; try rfl) (by simp; try rfl) (by simp [e9]) (by simp [e10]) (by simp [e11])
    · skip
      simp [s2, e3, e5, e6, e11, hw, hrow, eqV]
      refine (r2 H2 d3 K s2 hT2 hK2 (by omega)).mono ?_
      rintro w H4 ⟨rfl, hX4⟩
      have lt2 : H'.next < H2.next := by have := hX2.le; simp at this; omega
      have rw4 : H4.get H'.next = some (.row 42 6 false [.int .i64 ((7 : Nat) : Int), .str name, d2, d3, d4, .int .i64 at_]) := by rw [hX4.get H'.next lt2 (fun h => h)]; exact hrow
      simp [hX4.st, e3, e5, e11, hw, rw4, hrow, eqV, eq_d4]
      have hX4b := hX4.bump
      refine (r3 H4.bump d4 K (by simp [hX4.st]) (TreesAt.mono ⟨fun b hb _ => hb, fun b hb hx => hX4b.get b hx (fun h => h), hX4b.le⟩ hT3) (fun b hb => by have := hK2 b hb; have := hX4b.le; omega) (by omega)).mono ?_
      rintro w H5 ⟨rfl, hX5⟩
      have lt4 := hX4b.le
      have rw5 : H5.get H'.next = some (.row 42 6 false [.int .i64 ((7 : Nat) : Int), .str name, d2, d3, d4, .int .i64 at_]) := by rw [hX5.get H'.next (by omega) (fun h => h)]; exact rw4
      generalize hB' : prB itoaF bd = bb at *
      generalize hB2 : prB itoaF el = be at *
      simp [hX5.st, e3, e5, e11, hw, rw4, rw5, hrow, eqV]
      try simp (disch := first | omega | (simp only [List.length_append, List.length_cons, List.length_nil]; omega)) only [if_le]
      try simp [hX5.st, e11, hw]
      try simp (disch := first | omega | (simp only [List.length_append, List.length_cons, List.length_nil]; omega)) only [if_le]
      try simp [hX5.st, e11, hw]
      try simp (disch := first | omega | (simp only [List.length_append, List.length_cons, List.length_nil]; omega)) only [if_le]
      try simp [hX5.st, e11, hw]
      try simp (disch := first | omega | (simp only [List.length_append, List.length_cons, List.length_nil]; omega)) only [if_le]
      try simp [hX5.st, e11, hw]
      try simp (disch := first | omega | (simp only [List.length_append, List.length_cons, List.length_nil]; omega)) only [if_le]
      try simp [hX5.st, e11, hw]
      try simp (disch := first | omega | (simp only [List.length_append, List.length_cons, List.length_nil]; omega)) only [if_le]
      try simp [hX5.st, e11, hw]
      try simp (disch := first | omega | (simp only [List.length_append, List.length_cons, List.length_nil]; omega)) only [if_le]
      try simp [hX5.st, e11, hw]
      try simp (disch := first | omega | (simp only [List.length_append, List.length_cons, List.length_nil]; omega)) only [if_le]
      try simp [hX5.st, e11, hw]
      exact fin' _ _ _ (hXX.trans (hX4b.trans hX5.bump)) (by simp [prY]; try rfl) (by simp; try rfl) (by simp [e9]) (by simp [e10]) (by simp [e11])
    · skip
      have hlen : L.length = 1 := one (by omega) (by omega)
      obtain ⟨b1, off1, cap1, e1, ro1, cells1, rfl, q1, q2, q3, q4, q5⟩ := StrsAt.at_ hU (i := 0) (by omega)
      have z1 := hnth 0 (by omega)
      rw [Nat.add_zero] at q5
      simp [s2, e3, e5, e6, e11, hw, hrow, hlen, q1, q5, eqV]
      try simp (disch := first | omega | (simp only [List.length_append, List.length_cons, List.length_nil]; omega)) only [if_le]
      try simp [s2, e11, hw]
      try simp (disch := first | omega | (simp only [List.length_append, List.length_cons, List.length_nil]; omega)) only [if_le]
      try simp [s2, e11, hw]
      exact fin' _ _ _ hXX (by simp [prY, nthP_get (show 0 < L.length by omega)]; try rfl) (by simp; try rfl) (by simp [e9]) (by simp [e10]) (by simp [e11])
  · have hlt' : ¬ (i : Int) < (l.length : Int) := by omega
    rw [List.take_of_length_le (by omega)] at f3
    simp [L19_1, f3, f9, f10, f11, s', hlt', hX]
end Go.AM.YtlcadokmhfjacaaGreatDoorT
/- Trees' texts: by definition, all. -/
set_option linter.unusedVariables false
set_option linter.unusedSimpArgs false
set_option maxRecDepth 100000
namespace Go.AM.YtlcadokmhfjacaaGreatDoorT
open Go Go.AM Go.Proofs
mutual
theorem rX_all : ∀ t : Tx, t.ev → rX t
  | .ex op num text ps qs b, h => by
    have h' := h
    simp only [Tx.ev] at h'
    obtain ⟨_, _, _, _, _, _, _, _, _, _, h1, h2⟩ := h'
    exact rexpr_ok (rXs_all ps h1) (rprint_ok (rSs_all b h2) h2) h
  | .st .., h => by simp only [Tx.ev] at h
theorem rXs_all : ∀ l : List Tx, evs l → ∀ p ∈ l, rX p
  | [], _, p, hp => by cases hp
  | x :: r, h, p, hp => by
    simp only [evs] at h
    have h1 := rX_all x h.1
    have h2 := rXs_all r h.2
    rcases List.mem_cons.1 hp with rfl | hp
    · exact h1
    · exact h2 p hp
theorem rS_all : ∀ t : Tx, t.sv → RsX t
  | .st kind name es b e a, h => by
    simp only [Tx.sv] at h
    obtain ⟨_, _, _, _, _, _, h1, h2, h3⟩ := h
    exact ⟨rXs_all es h1, rprint_ok (rSs_all b h2) h2, rprint_ok (rSs_all e h3) h3⟩
  | .ex .., h => by simp only [Tx.sv] at h
theorem rSs_all : ∀ l : List Tx, svs l → ∀ p ∈ l, RsX p
  | [], _, p, hp => by cases hp
  | x :: r, h, p, hp => by
    simp only [svs] at h
    have h1 := rS_all x h.1
    have h2 := rSs_all r h.2
    rcases List.mem_cons.1 hp with rfl | hp
    · exact h1
    · exact h2 p hp
end
theorem rp_all {l : List Tx} (h : svs l) : RpX l := rprint_ok (rSs_all l h) h
end Go.AM.YtlcadokmhfjacaaGreatDoorT
