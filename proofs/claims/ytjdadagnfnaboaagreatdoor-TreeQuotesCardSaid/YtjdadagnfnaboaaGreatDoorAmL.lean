/- Parts of the abstract machine and of the walks over it, joined: what the law that is claimed here leans on. -/
import Derived.Test.YtjdadagnfnaboaaGreatDoorAmX
import Derived.Test.YtjdadagnfnaboaaGreatDoorAmC2
import Derived.KernelRfl
/- The slim code of these functions: printed by genslim.py. -/
namespace Go.AM.YtjdadagnfnaboaaGreatDoorT
open Go Go.AM Go.Proofs
set_option maxRecDepth 100000
/-! paling/lex.Split -/
abbrev R14_0 : List SOp := [(some 2, .assign (.const (.slice none 0 0)), none),
  (some 3, .assign (.const (.int .i64 0)), none),
  (some 4, .assign (.const (.int .i64 0)), none)]
abbrev R14_1 : List SOp := [(some 10, .move (.tmp 0), none),
  (some 11, .call ⟨.builtin .len, #[(.tmp 10)], #[9]⟩, none),
  (some 12, .binOp .gtr 3 (.tmp 11) (.const (.int .i64 8192)) 3, none)]
abbrev R14_2 : List SOp := [(some 2, .assign (.const (.slice none 0 0)), none),
  (some 3, .assign (.const (.int .i64 0)), none),
  (some 4, .assign (.const (.int .i64 2)), none)]
abbrev R14_3 : List SOp := [(some 5, .assign (.const (.slice none 0 0)), none)]
abbrev R14_4 : List SOp := [(some 6, .assign (.const (.int .i64 0)), none)]
abbrev R14_5 : List SOp := [(some 13, .move (.tmp 6), none),
  (some 14, .move (.tmp 0), none),
  (some 15, .call ⟨.builtin .len, #[(.tmp 14)], #[9]⟩, none),
  (some 16, .binOp .lss 3 (.tmp 13) (.tmp 15) 3, none)]
abbrev R14_6 : List SOp := [(some 17, .move (.tmp 0), none),
  (some 18, .move (.tmp 6), none),
  (some 19, .index 9 (.tmp 17) (.tmp 18), none)]
abbrev R14_7 : List SOp := [(some 21, .binOp .eql 5 (.tmp 19) (.const (.int .u8 32)) 5, none),
  (some 20, .assign (.tmp 21), none)]
abbrev R14_8 : List SOp := [(some 22, .binOp .eql 5 (.tmp 19) (.const (.int .u8 10)) 5, none),
  (some 20, .assign (.tmp 22), none)]
abbrev R14_9 : List SOp := [(some 23, .move (.tmp 6), none),
  (some 24, .binOp .add 3 (.tmp 23) (.const (.int .i64 1)) 3, none),
  (some 6, .assign (.tmp 24), none)]
abbrev R14_10 : List SOp := [(some 26, .binOp .eql 5 (.tmp 19) (.const (.int .u8 35)) 5, none),
  (some 25, .assign (.tmp 26), none)]
abbrev R14_11 : List SOp := [(some 27, .move (.tmp 6), none),
  (some 28, .move (.tmp 0), none),
  (some 29, .call ⟨.builtin .len, #[(.tmp 28)], #[9]⟩, none),
  (some 30, .binOp .lss 3 (.tmp 27) (.tmp 29) 3, none),
  (some 31, .move (.tmp 30), none),
  (some 32, .move (.tmp 0), some (some 31, true)),
  (some 33, .move (.tmp 6), some (some 31, true)),
  (some 34, .index 9 (.tmp 32) (.tmp 33), some (some 31, true)),
  (some 35, .binOp .neq 5 (.tmp 34) (.const (.int .u8 10)) 5, some (some 31, true)),
  (some 36, .pick (.tmp 31) (.tmp 35) (.const (.bool false)), none)]
abbrev R14_12 : List SOp := [(some 37, .move (.tmp 6), none),
  (some 38, .binOp .add 3 (.tmp 37) (.const (.int .i64 1)) 3, none),
  (some 6, .assign (.tmp 38), none)]
def L14_0 : SCode := .seq (.seq (.reg R14_11) (.cond (.tmp 36) (.skip) (.exit 3))) (.block 4 (.reg R14_12))
abbrev R14_13 : List SOp := [(some 40, .move (.tmp 0), none),
  (some 41, .move (.tmp 6), none),
  (some 42, .slice 9 (.tmp 40) (some (.tmp 41)) none none, none),
  (some 43, .call ⟨.value (.func 32), #[(.tmp 42)], #[9]⟩, none),
  (some 39, .move (.tmp 43), none),
  (some 44, .extract (.tmp 39) 0, none),
  (some 45, .extract (.tmp 39) 1, none),
  (some 46, .extract (.tmp 39) 2, none),
  (some 7, .alloc 29, none),
  (none, .store 29 (.tmp 7) (.tmp 44), none),
  (some 8, .assign (.tmp 45), none),
  (some 9, .assign (.tmp 46), none)]
abbrev R14_14 : List SOp := [(some 47, .move (.tmp 9), none),
  (some 48, .binOp .neq 24 (.tmp 47) (.const (.int .i64 0)) 24, none)]
abbrev R14_15 : List SOp := [(some 49, .move (.tmp 6), none),
  (some 50, .move (.tmp 9), none),
  (some 2, .assign (.const (.slice none 0 0)), none),
  (some 3, .assign (.tmp 49), none),
  (some 4, .assign (.tmp 50), none)]
abbrev R14_16 : List SOp := [(some 51, .move (.tmp 6), none),
  (some 52, .fieldAddr 29 (.tmp 7) 3, none),
  (none, .store 3 (.tmp 52) (.tmp 51), none)]
abbrev R14_17 : List SOp := [(some 53, .move (.tmp 5), none),
  (some 54, .load 29 (.tmp 7), none),
  (some 55, .buildSlice 23 1 #[(0, (.tmp 54))], none),
  (some 56, .call ⟨.builtin .append, #[(.tmp 53), (.tmp 55)], #[23, 23]⟩, none),
  (some 5, .assign (.tmp 56), none)]
abbrev R14_18 : List SOp := [(some 57, .move (.tmp 6), none),
  (some 58, .move (.tmp 8), none),
  (some 59, .binOp .add 3 (.tmp 57) (.tmp 58) 3, none),
  (some 6, .assign (.tmp 59), none)]
def L14_1 : SCode := .seq (.seq (.reg R14_5) (.cond (.tmp 16) (.skip) (.exit 0))) (.block 1 (.seq (.seq (.reg R14_6) (.block 2 (.seq (.seq (.reg R14_7) (.cond (.tmp 20) (.skip) (.reg R14_8))) (.cond (.tmp 20) (.seq (.reg R14_9) (.exit 1)) (.seq (.reg R14_10) (.cond (.tmp 25) (.seq (.block 3 (.loop L14_0)) (.exit 1)) (.skip))))))) (.seq (.reg R14_13) (.seq (.seq (.reg R14_14) (.cond (.tmp 48) (.seq (.reg R14_15) (.ret)) (.skip))) (.seq (.reg R14_16) (.seq (.reg R14_17) (.reg R14_18)))))))
abbrev R14_19 : List SOp := [(some 60, .move (.tmp 5), none),
  (some 61, .move (.tmp 0), none),
  (some 62, .call ⟨.builtin .len, #[(.tmp 61)], #[9]⟩, none),
  (some 63, .build 29 #[(3, (.tmp 62))], none),
  (some 64, .buildSlice 23 1 #[(0, (.tmp 63))], none),
  (some 65, .call ⟨.builtin .append, #[(.tmp 60), (.tmp 64)], #[23, 23]⟩, none),
  (some 2, .assign (.tmp 65), none),
  (some 3, .assign (.const (.int .i64 0)), none),
  (some 4, .assign (.const (.int .i64 0)), none)]
abbrev S14 : SCode := .seq (.reg R14_0) (.seq (.seq (.reg R14_1) (.cond (.tmp 12) (.seq (.reg R14_2) (.ret)) (.skip))) (.seq (.reg R14_3) (.seq (.reg R14_4) (.seq (.skip) (.seq (.block 0 (.loop L14_1)) (.seq (.reg R14_19) (.ret)))))))
theorem slim14 : slimC tab 14 (Tryz.f14.body.getD .skip) = S14 := by kernel_rfl
theorem wf14 {xs : List V} {H : Hp} {Q : V → Hp → Prop} (h : WC tab S14 (frame xs 0 .nil) H (resQ tab [.tmp 2, .tmp 3, .tmp 4] Q)) : WF tab 14 xs H Q := WF.of_slim (T := tab) (f := 14) rfl fn14 rfl slim14 rfl h
/-! paling/lex.one -/
abbrev R32_0 : List SOp := [(some 2, .alloc 29, none),
  (some 3, .assign (.const (.int .i64 0)), none),
  (some 4, .assign (.const (.int .i64 0)), none)]
abbrev R32_1 : List SOp := [(some 7, .move (.tmp 0), none),
  (some 8, .index 9 (.tmp 7) (.const (.int .i64 0)), none),
  (some 5, .assign (.tmp 8), none)]
abbrev R32_2 : List SOp := [(some 10, .move (.tmp 5), none),
  (some 11, .call ⟨.value (.func 57), #[(.tmp 10)], #[5]⟩, none),
  (some 9, .assign (.tmp 11), none)]
abbrev R32_3 : List SOp := [(some 12, .move (.tmp 0), none),
  (some 13, .call ⟨.value (.func 58), #[(.tmp 12), (.func 59)], #[9, 36]⟩, none),
  (some 6, .assign (.tmp 13), none)]
abbrev R32_4 : List SOp := [(some 14, .move (.tmp 0), none),
  (some 15, .move (.tmp 6), none),
  (some 16, .slice 9 (.tmp 14) none (some (.tmp 15)) none, none),
  (some 17, .build 29 #[(0, (.const (.int .i64 1))), (1, (.tmp 16))], none),
  (some 18, .move (.tmp 6), none),
  (none, .store 29 (.tmp 2) (.tmp 17), none),
  (some 3, .assign (.tmp 18), none),
  (some 4, .assign (.const (.int .i64 0)), none)]
abbrev R32_5 : List SOp := [(some 20, .move (.tmp 5), none),
  (some 21, .call ⟨.value (.func 60), #[(.tmp 20)], #[5]⟩, none),
  (some 19, .assign (.tmp 21), none)]
abbrev R32_6 : List SOp := [(some 22, .move (.tmp 0), none),
  (some 23, .call ⟨.value (.func 61), #[(.tmp 22)], #[9]⟩, none),
  (some 24, .extract (.tmp 23) 0, none),
  (some 25, .extract (.tmp 23) 1, none),
  (some 26, .extract (.tmp 23) 2, none),
  (none, .store 29 (.tmp 2) (.tmp 24), none),
  (some 3, .assign (.tmp 25), none),
  (some 4, .assign (.tmp 26), none)]
abbrev R32_7 : List SOp := [(some 28, .move (.tmp 5), none),
  (some 29, .binOp .eql 5 (.tmp 28) (.const (.int .u8 34)) 5, none),
  (some 27, .assign (.tmp 29), none)]
abbrev R32_8 : List SOp := [(some 30, .move (.tmp 0), none),
  (some 31, .call ⟨.value (.func 62), #[(.tmp 30)], #[9]⟩, none),
  (some 32, .extract (.tmp 31) 0, none),
  (some 33, .extract (.tmp 31) 1, none),
  (some 34, .extract (.tmp 31) 2, none),
  (none, .store 29 (.tmp 2) (.tmp 32), none),
  (some 3, .assign (.tmp 33), none),
  (some 4, .assign (.tmp 34), none)]
abbrev R32_9 : List SOp := [(some 36, .move (.tmp 0), none),
  (some 37, .call ⟨.value (.func 36), #[(.tmp 36), (.const (.string ⟨#[0x3d, 0x3d]⟩))], #[9, 9]⟩, none),
  (some 38, .move (.tmp 37), none),
  (some 39, .move (.tmp 0), some (some 38, false)),
  (some 40, .call ⟨.value (.func 36), #[(.tmp 39), (.const (.string ⟨#[0x21, 0x3d]⟩))], #[9, 9]⟩, some (some 38, false)),
  (some 41, .pick (.tmp 38) (.const (.bool true)) (.tmp 40), none),
  (some 35, .assign (.tmp 41), none)]
abbrev R32_10 : List SOp := [(some 42, .move (.tmp 0), none),
  (some 43, .slice 9 (.tmp 42) none (some (.const (.int .i64 2))) none, none),
  (some 44, .build 29 #[(0, (.const (.int .i64 4))), (1, (.tmp 43))], none),
  (none, .store 29 (.tmp 2) (.tmp 44), none),
  (some 3, .assign (.const (.int .i64 2)), none),
  (some 4, .assign (.const (.int .i64 0)), none)]
abbrev R32_11 : List SOp := [(some 46, .move (.tmp 5), none),
  (some 47, .call ⟨.value (.func 33), #[(.const (.string ⟨#[0x28, 0x29, 0x7b, 0x7d, 0x5b, 0x5d, 0x3b, 0x2c, 0x3a, 0x2e, 0x3d, 0x3c, 0x2b, 0x2d, 0x2a, 0x21]⟩)), (.tmp 46)], #[9, 5]⟩, none),
  (some 48, .binOp .geq 3 (.tmp 47) (.const (.int .i64 0)) 3, none),
  (some 45, .assign (.tmp 48), none)]
abbrev R32_12 : List SOp := [(some 49, .move (.tmp 0), none),
  (some 50, .slice 9 (.tmp 49) none (some (.const (.int .i64 1))) none, none),
  (some 51, .build 29 #[(0, (.const (.int .i64 4))), (1, (.tmp 50))], none),
  (none, .store 29 (.tmp 2) (.tmp 51), none),
  (some 3, .assign (.const (.int .i64 1)), none),
  (some 4, .assign (.const (.int .i64 0)), none)]
abbrev R32_13 : List SOp := [(some 52, .build 29 #[], none),
  (none, .store 29 (.tmp 2) (.tmp 52), none),
  (some 3, .assign (.const (.int .i64 0)), none),
  (some 4, .assign (.const (.int .i64 1)), none)]
abbrev S32 : SCode := .seq (.reg R32_0) (.seq (.seq (.reg R32_1) (.block 0 (.seq (.reg R32_2) (.cond (.tmp 9) (.seq (.reg R32_3) (.seq (.reg R32_4) (.ret))) (.seq (.reg R32_5) (.cond (.tmp 19) (.seq (.reg R32_6) (.ret)) (.seq (.reg R32_7) (.cond (.tmp 27) (.seq (.reg R32_8) (.ret)) (.seq (.reg R32_9) (.cond (.tmp 35) (.seq (.reg R32_10) (.ret)) (.seq (.reg R32_11) (.cond (.tmp 45) (.seq (.reg R32_12) (.ret)) (.skip))))))))))))) (.seq (.reg R32_13) (.ret)))
theorem slim32 : slimC tab 32 (Tryz.f32.body.getD .skip) = S32 := by kernel_rfl
theorem wf32 {xs : List V} {H : Hp} {Q : V → Hp → Prop} (h : WC tab S32 (frame xs 0 .nil) H (resQ tab [.cell 2 29, .tmp 3, .tmp 4] Q)) : WF tab 32 xs H Q := WF.of_slim (T := tab) (f := 32) rfl fn32 rfl slim32 rfl h
/-! strings.HasPrefix -/
abbrev R36_0 : List SOp := [(some 4, .assign (.const (.bool false)), none)]
abbrev R36_1 : List SOp := [(some 5, .move (.tmp 0), none),
  (some 6, .move (.tmp 1), none),
  (some 7, .call ⟨.value (.func 67), #[(.tmp 5), (.tmp 6)], #[9, 9]⟩, none),
  (some 4, .assign (.tmp 7), none)]
abbrev S36 : SCode := .seq (.reg R36_0) (.seq (.reg R36_1) (.ret))
theorem slim36 : slimC tab 36 (Tryz.f36.body.getD .skip) = S36 := by kernel_rfl
theorem wf36 {xs : List V} {H : Hp} {Q : V → Hp → Prop} (h : WC tab S36 (frame xs 0 .nil) H (resQ tab [.tmp 4] Q)) : WF tab 36 xs H Q := WF.of_slim (T := tab) (f := 36) rfl fn36 rfl slim36 rfl h
/-! (*strings.Builder).WriteByte -/
abbrev R48_0 : List SOp := [(some 4, .assign (.const (.nilIface)), none)]
abbrev R48_1 : List SOp := [(some 5, .move (.tmp 0), none),
  (some 6, .call ⟨.value (.func 68), #[(.tmp 5)], #[70]⟩, none)]
abbrev R48_2 : List SOp := [(some 7, .move (.tmp 0), none),
  (some 8, .move (.tmp 0), none),
  (some 9, .nilCheck (.tmp 8), none),
  (some 10, .fieldAddr 72 (.tmp 9) 1, none),
  (some 11, .load 31 (.tmp 10), none),
  (some 12, .move (.tmp 1), none),
  (some 13, .buildSlice 31 1 #[(0, (.tmp 12))], none),
  (some 14, .call ⟨.builtin .append, #[(.tmp 11), (.tmp 13)], #[31, 31]⟩, none),
  (some 15, .nilCheck (.tmp 7), none),
  (some 16, .fieldAddr 72 (.tmp 15) 1, none),
  (none, .store 31 (.tmp 16) (.tmp 14), none)]
abbrev R48_3 : List SOp := [(some 4, .assign (.const (.nilIface)), none)]
abbrev S48 : SCode := .seq (.reg R48_0) (.seq (.reg R48_1) (.seq (.reg R48_2) (.seq (.reg R48_3) (.ret))))
theorem slim48 : slimC tab 48 (Tryz.f48.body.getD .skip) = S48 := by kernel_rfl
theorem wf48 {xs : List V} {H : Hp} {Q : V → Hp → Prop} (h : WC tab S48 (frame xs 0 .nil) H (resQ tab [.tmp 4] Q)) : WF tab 48 xs H Q := WF.of_slim (T := tab) (f := 48) rfl fn48 rfl slim48 rfl h
/-! (*strings.Builder).WriteString -/
abbrev R38_0 : List SOp := [(some 4, .assign (.const (.int .i64 0)), none),
  (some 5, .assign (.const (.nilIface)), none)]
abbrev R38_1 : List SOp := [(some 6, .move (.tmp 0), none),
  (some 7, .call ⟨.value (.func 68), #[(.tmp 6)], #[70]⟩, none)]
abbrev R38_2 : List SOp := [(some 8, .move (.tmp 0), none),
  (some 9, .move (.tmp 0), none),
  (some 10, .nilCheck (.tmp 9), none),
  (some 11, .fieldAddr 72 (.tmp 10) 1, none),
  (some 12, .load 31 (.tmp 11), none),
  (some 13, .move (.tmp 1), none),
  (some 14, .call ⟨.builtin .append, #[(.tmp 12), (.tmp 13)], #[31, 9]⟩, none),
  (some 15, .nilCheck (.tmp 8), none),
  (some 16, .fieldAddr 72 (.tmp 15) 1, none),
  (none, .store 31 (.tmp 16) (.tmp 14), none)]
abbrev R38_3 : List SOp := [(some 17, .move (.tmp 1), none),
  (some 18, .call ⟨.builtin .len, #[(.tmp 17)], #[9]⟩, none),
  (some 4, .assign (.tmp 18), none),
  (some 5, .assign (.const (.nilIface)), none)]
abbrev S38 : SCode := .seq (.reg R38_0) (.seq (.reg R38_1) (.seq (.reg R38_2) (.seq (.reg R38_3) (.ret))))
theorem slim38 : slimC tab 38 (Tryz.f38.body.getD .skip) = S38 := by kernel_rfl
theorem wf38 {xs : List V} {H : Hp} {Q : V → Hp → Prop} (h : WC tab S38 (frame xs 0 .nil) H (resQ tab [.tmp 4, .tmp 5] Q)) : WF tab 38 xs H Q := WF.of_slim (T := tab) (f := 38) rfl fn38 rfl slim38 rfl h
/-! (*strings.Builder).Len -/
abbrev R39_0 : List SOp := [(some 2, .assign (.const (.int .i64 0)), none)]
abbrev R39_1 : List SOp := [(some 3, .move (.tmp 0), none),
  (some 4, .nilCheck (.tmp 3), none),
  (some 5, .fieldAddr 72 (.tmp 4) 1, none),
  (some 6, .load 31 (.tmp 5), none),
  (some 7, .call ⟨.builtin .len, #[(.tmp 6)], #[31]⟩, none),
  (some 2, .assign (.tmp 7), none)]
abbrev S39 : SCode := .seq (.reg R39_0) (.seq (.reg R39_1) (.ret))
theorem slim39 : slimC tab 39 (Tryz.f39.body.getD .skip) = S39 := by kernel_rfl
theorem wf39 {xs : List V} {H : Hp} {Q : V → Hp → Prop} (h : WC tab S39 (frame xs 0 .nil) H (resQ tab [.tmp 2] Q)) : WF tab 39 xs H Q := WF.of_slim (T := tab) (f := 39) rfl fn39 rfl slim39 rfl h
/-! paling/lex.letter -/
abbrev R57_0 : List SOp := [(some 2, .assign (.const (.bool false)), none)]
abbrev R57_1 : List SOp := [(some 3, .move (.tmp 0), none),
  (some 4, .binOp .geq 5 (.tmp 3) (.const (.int .u8 97)) 5, none),
  (some 5, .move (.tmp 4), none),
  (some 6, .move (.tmp 0), some (some 5, true)),
  (some 7, .binOp .leq 5 (.tmp 6) (.const (.int .u8 122)) 5, some (some 5, true)),
  (some 8, .pick (.tmp 5) (.tmp 7) (.const (.bool false)), none),
  (some 9, .move (.tmp 8), none),
  (some 10, .move (.tmp 0), some (some 9, false)),
  (some 11, .binOp .geq 5 (.tmp 10) (.const (.int .u8 65)) 5, some (some 9, false)),
  (some 12, .move (.tmp 11), some (some 9, false)),
  (some 13, .move (.tmp 0), some (some 12, true)),
  (some 14, .binOp .leq 5 (.tmp 13) (.const (.int .u8 90)) 5, some (some 12, true)),
  (some 15, .pick (.tmp 12) (.tmp 14) (.const (.bool false)), some (some 9, false)),
  (some 16, .pick (.tmp 9) (.const (.bool true)) (.tmp 15), none),
  (some 17, .move (.tmp 16), none),
  (some 18, .move (.tmp 0), some (some 17, false)),
  (some 19, .binOp .eql 5 (.tmp 18) (.const (.int .u8 95)) 5, some (some 17, false)),
  (some 20, .pick (.tmp 17) (.const (.bool true)) (.tmp 19), none),
  (some 2, .assign (.tmp 20), none)]
abbrev S57 : SCode := .seq (.reg R57_0) (.seq (.reg R57_1) (.ret))
theorem slim57 : slimC tab 57 (Tryz.f57.body.getD .skip) = S57 := by kernel_rfl
theorem wf57 {xs : List V} {H : Hp} {Q : V → Hp → Prop} (h : WC tab S57 (frame xs 0 .nil) H (resQ tab [.tmp 2] Q)) : WF tab 57 xs H Q := WF.of_slim (T := tab) (f := 57) rfl fn57 rfl slim57 rfl h
/-! paling/lex.run -/
abbrev R58_0 : List SOp := [(some 4, .assign (.const (.int .i64 0)), none)]
abbrev R58_1 : List SOp := [(some 6, .move (.tmp 0), none),
  (some 7, .call ⟨.builtin .len, #[(.tmp 6)], #[9]⟩, none),
  (some 8, .move (.const (.int .i64 0)), none)]
abbrev R58_2 : List SOp := [(some 9, .binOp .lss 3 (.tmp 8) (.tmp 7) 3, none)]
abbrev R58_3 : List SOp := [(some 10, .move (.tmp 8), none),
  (some 5, .assign (.tmp 10), none)]
abbrev R58_4 : List SOp := [(some 11, .move (.tmp 1), none),
  (some 12, .move (.tmp 0), none),
  (some 13, .move (.tmp 5), none),
  (some 14, .index 9 (.tmp 12) (.tmp 13), none),
  (some 15, .call ⟨.value (.tmp 11), #[(.tmp 14)], #[5]⟩, none),
  (some 16, .unOp .not 4 (.tmp 15), none)]
abbrev R58_5 : List SOp := [(some 17, .move (.tmp 5), none),
  (some 4, .assign (.tmp 17), none)]
abbrev R58_6 : List SOp := [(some 18, .binOp .add 3 (.tmp 8) (.const (.int .i64 1)) 3, none),
  (some 8, .move (.tmp 18), none)]
def L58_0 : SCode := .seq (.reg R58_2) (.seq (.cond (.tmp 9) (.skip) (.exit 0)) (.seq (.block 1 (.seq (.reg R58_3) (.seq (.reg R58_4) (.cond (.tmp 16) (.seq (.reg R58_5) (.ret)) (.skip))))) (.reg R58_6)))
abbrev R58_7 : List SOp := [(some 19, .move (.tmp 0), none),
  (some 20, .call ⟨.builtin .len, #[(.tmp 19)], #[9]⟩, none),
  (some 4, .assign (.tmp 20), none)]
abbrev S58 : SCode := .seq (.reg R58_0) (.seq (.seq (.reg R58_1) (.block 0 (.loop L58_0))) (.seq (.reg R58_7) (.ret)))
theorem slim58 : slimC tab 58 (Tryz.f58.body.getD .skip) = S58 := by kernel_rfl
theorem wf58 {xs : List V} {H : Hp} {Q : V → Hp → Prop} (h : WC tab S58 (frame xs 0 .nil) H (resQ tab [.tmp 4] Q)) : WF tab 58 xs H Q := WF.of_slim (T := tab) (f := 58) rfl fn58 rfl slim58 rfl h
/-! paling/lex.one$1 -/
abbrev R59_0 : List SOp := [(some 2, .assign (.const (.bool false)), none)]
abbrev R59_1 : List SOp := [(some 3, .move (.tmp 0), none),
  (some 4, .call ⟨.value (.func 57), #[(.tmp 3)], #[5]⟩, none),
  (some 5, .move (.tmp 4), none),
  (some 6, .move (.tmp 0), some (some 5, false)),
  (some 7, .call ⟨.value (.func 60), #[(.tmp 6)], #[5]⟩, some (some 5, false)),
  (some 8, .pick (.tmp 5) (.const (.bool true)) (.tmp 7), none),
  (some 2, .assign (.tmp 8), none)]
abbrev S59 : SCode := .seq (.reg R59_0) (.seq (.reg R59_1) (.ret))
theorem slim59 : slimC tab 59 (Tryz.f59.body.getD .skip) = S59 := by kernel_rfl
theorem wf59 {xs : List V} {H : Hp} {Q : V → Hp → Prop} (h : WC tab S59 (frame xs 0 .nil) H (resQ tab [.tmp 2] Q)) : WF tab 59 xs H Q := WF.of_slim (T := tab) (f := 59) rfl fn59 rfl slim59 rfl h
/-! paling/lex.digit -/
abbrev R60_0 : List SOp := [(some 2, .assign (.const (.bool false)), none)]
abbrev R60_1 : List SOp := [(some 3, .move (.tmp 0), none),
  (some 4, .binOp .geq 5 (.tmp 3) (.const (.int .u8 48)) 5, none),
  (some 5, .move (.tmp 4), none),
  (some 6, .move (.tmp 0), some (some 5, true)),
  (some 7, .binOp .leq 5 (.tmp 6) (.const (.int .u8 57)) 5, some (some 5, true)),
  (some 8, .pick (.tmp 5) (.tmp 7) (.const (.bool false)), none),
  (some 2, .assign (.tmp 8), none)]
abbrev S60 : SCode := .seq (.reg R60_0) (.seq (.reg R60_1) (.ret))
theorem slim60 : slimC tab 60 (Tryz.f60.body.getD .skip) = S60 := by kernel_rfl
theorem wf60 {xs : List V} {H : Hp} {Q : V → Hp → Prop} (h : WC tab S60 (frame xs 0 .nil) H (resQ tab [.tmp 2] Q)) : WF tab 60 xs H Q := WF.of_slim (T := tab) (f := 60) rfl fn60 rfl slim60 rfl h
/-! paling/lex.number -/
abbrev R61_0 : List SOp := [(some 2, .alloc 29, none),
  (some 3, .assign (.const (.int .i64 0)), none),
  (some 4, .assign (.const (.int .i64 0)), none)]
abbrev R61_1 : List SOp := [(some 8, .move (.tmp 0), none),
  (some 9, .call ⟨.value (.func 58), #[(.tmp 8), (.func 60)], #[9, 36]⟩, none),
  (some 5, .assign (.tmp 9), none)]
abbrev R61_2 : List SOp := [(some 11, .move (.tmp 0), none),
  (some 12, .move (.tmp 5), none),
  (some 13, .slice 9 (.tmp 11) none (some (.tmp 12)) none, none),
  (some 14, .call ⟨.value (.func 93), #[(.tmp 13), (.const (.int .i64 10)), (.const (.int .i64 64))], #[9, 3, 3]⟩, none),
  (some 10, .move (.tmp 14), none),
  (some 15, .extract (.tmp 10) 0, none),
  (some 16, .extract (.tmp 10) 1, none),
  (some 6, .assign (.tmp 15), none),
  (some 7, .assign (.tmp 16), none)]
abbrev R61_3 : List SOp := [(some 17, .move (.tmp 7), none),
  (some 18, .binOp .neq 75 (.tmp 17) (.const (.nilIface)) 75, none),
  (some 19, .move (.tmp 18), none),
  (some 20, .move (.tmp 5), some (some 19, false)),
  (some 21, .binOp .gtr 3 (.tmp 20) (.const (.int .i64 1)) 3, some (some 19, false)),
  (some 22, .move (.tmp 21), some (some 19, false)),
  (some 23, .move (.tmp 0), some (some 22, true)),
  (some 24, .index 9 (.tmp 23) (.const (.int .i64 0)), some (some 22, true)),
  (some 25, .binOp .eql 5 (.tmp 24) (.const (.int .u8 48)) 5, some (some 22, true)),
  (some 26, .pick (.tmp 22) (.tmp 25) (.const (.bool false)), some (some 19, false)),
  (some 27, .pick (.tmp 19) (.const (.bool true)) (.tmp 26), none)]
abbrev R61_4 : List SOp := [(some 28, .build 29 #[], none),
  (none, .store 29 (.tmp 2) (.tmp 28), none),
  (some 3, .assign (.const (.int .i64 0)), none),
  (some 4, .assign (.const (.int .i64 6)), none)]
abbrev R61_5 : List SOp := [(some 29, .move (.tmp 0), none),
  (some 30, .move (.tmp 5), none),
  (some 31, .slice 9 (.tmp 29) none (some (.tmp 30)) none, none),
  (some 32, .move (.tmp 6), none),
  (some 33, .build 29 #[(0, (.const (.int .i64 2))), (1, (.tmp 31)), (2, (.tmp 32))], none),
  (some 34, .move (.tmp 5), none),
  (none, .store 29 (.tmp 2) (.tmp 33), none),
  (some 3, .assign (.tmp 34), none),
  (some 4, .assign (.const (.int .i64 0)), none)]
abbrev S61 : SCode := .seq (.reg R61_0) (.seq (.reg R61_1) (.seq (.reg R61_2) (.seq (.seq (.reg R61_3) (.cond (.tmp 27) (.seq (.reg R61_4) (.ret)) (.skip))) (.seq (.reg R61_5) (.ret)))))
theorem slim61 : slimC tab 61 (Tryz.f61.body.getD .skip) = S61 := by kernel_rfl
theorem wf61 {xs : List V} {H : Hp} {Q : V → Hp → Prop} (h : WC tab S61 (frame xs 0 .nil) H (resQ tab [.cell 2 29, .tmp 3, .tmp 4] Q)) : WF tab 61 xs H Q := WF.of_slim (T := tab) (f := 61) rfl fn61 rfl slim61 rfl h
/-! paling/lex.quoted -/
abbrev R62_0 : List SOp := [(some 2, .alloc 29, none),
  (some 3, .assign (.const (.int .i64 0)), none),
  (some 4, .assign (.const (.int .i64 0)), none)]
abbrev R62_1 : List SOp := [(some 5, .alloc 72, none)]
abbrev R62_2 : List SOp := [(some 6, .assign (.const (.int .i64 1)), none)]
abbrev R62_3 : List SOp := [(some 8, .move (.tmp 6), none),
  (some 9, .move (.tmp 0), none),
  (some 10, .call ⟨.builtin .len, #[(.tmp 9)], #[9]⟩, none),
  (some 11, .binOp .lss 3 (.tmp 8) (.tmp 10) 3, none)]
abbrev R62_5 : List SOp := [(some 14, .move (.tmp 0), none),
  (some 15, .move (.tmp 6), none),
  (some 16, .index 9 (.tmp 14) (.tmp 15), none),
  (some 7, .assign (.tmp 16), none)]
abbrev R62_7 : List SOp := [(some 20, .move (.tmp 7), none),
  (some 21, .binOp .eql 5 (.tmp 20) (.const (.int .u8 34)) 5, none),
  (some 19, .assign (.tmp 21), none)]
abbrev R62_8 : List SOp := [(some 22, .call ⟨.value (.func 40), #[(.tmp 5)], #[72]⟩, none),
  (some 23, .build 29 #[(0, (.const (.int .i64 3))), (1, (.tmp 22))], none),
  (some 24, .move (.tmp 6), none),
  (some 25, .binOp .add 3 (.tmp 24) (.const (.int .i64 1)) 3, none),
  (none, .store 29 (.tmp 2) (.tmp 23), none),
  (some 3, .assign (.tmp 25), none),
  (some 4, .assign (.const (.int .i64 0)), none)]
abbrev R62_9 : List SOp := [(some 27, .move (.tmp 7), none),
  (some 28, .binOp .eql 5 (.tmp 27) (.const (.int .u8 92)) 5, none),
  (some 29, .move (.tmp 28), none),
  (some 30, .move (.tmp 6), some (some 29, true)),
  (some 31, .binOp .add 3 (.tmp 30) (.const (.int .i64 1)) 3, some (some 29, true)),
  (some 32, .move (.tmp 0), some (some 29, true)),
  (some 33, .call ⟨.builtin .len, #[(.tmp 32)], #[9]⟩, some (some 29, true)),
  (some 34, .binOp .lss 3 (.tmp 31) (.tmp 33) 3, some (some 29, true)),
  (some 35, .pick (.tmp 29) (.tmp 34) (.const (.bool false)), none),
  (some 36, .move (.tmp 35), none),
  (some 37, .move (.tmp 0), some (some 36, true)),
  (some 38, .move (.tmp 6), some (some 36, true)),
  (some 39, .binOp .add 3 (.tmp 38) (.const (.int .i64 1)) 3, some (some 36, true)),
  (some 40, .index 9 (.tmp 37) (.tmp 39), some (some 36, true)),
  (some 41, .binOp .eql 5 (.tmp 40) (.const (.int .u8 34)) 5, some (some 36, true)),
  (some 42, .move (.tmp 41), some (some 36, true)),
  (some 43, .move (.tmp 0), some (some 42, false)),
  (some 44, .move (.tmp 6), some (some 42, false)),
  (some 45, .binOp .add 3 (.tmp 44) (.const (.int .i64 1)) 3, some (some 42, false)),
  (some 46, .index 9 (.tmp 43) (.tmp 45), some (some 42, false)),
  (some 47, .binOp .eql 5 (.tmp 46) (.const (.int .u8 92)) 5, some (some 42, false)),
  (some 48, .pick (.tmp 42) (.const (.bool true)) (.tmp 47), some (some 36, true)),
  (some 49, .pick (.tmp 36) (.tmp 48) (.const (.bool false)), none),
  (some 26, .assign (.tmp 49), none)]
abbrev R62_10 : List SOp := [(some 50, .move (.tmp 6), none),
  (some 51, .binOp .add 3 (.tmp 50) (.const (.int .i64 1)) 3, none),
  (some 6, .assign (.tmp 51), none)]
abbrev R62_11 : List SOp := [(some 52, .move (.tmp 0), none),
  (some 53, .move (.tmp 6), none),
  (some 54, .index 9 (.tmp 52) (.tmp 53), none),
  (some 55, .call ⟨.value (.func 48), #[(.tmp 5), (.tmp 54)], #[72, 5]⟩, none)]
abbrev R62_12 : List SOp := [(some 57, .move (.tmp 7), none),
  (some 58, .binOp .eql 5 (.tmp 57) (.const (.int .u8 92)) 5, none),
  (some 59, .move (.tmp 58), none),
  (some 60, .move (.tmp 6), some (some 59, true)),
  (some 61, .binOp .add 3 (.tmp 60) (.const (.int .i64 1)) 3, some (some 59, true)),
  (some 62, .move (.tmp 0), some (some 59, true)),
  (some 63, .call ⟨.builtin .len, #[(.tmp 62)], #[9]⟩, some (some 59, true)),
  (some 64, .binOp .lss 3 (.tmp 61) (.tmp 63) 3, some (some 59, true)),
  (some 65, .pick (.tmp 59) (.tmp 64) (.const (.bool false)), none),
  (some 66, .move (.tmp 65), none),
  (some 67, .move (.tmp 0), some (some 66, true)),
  (some 68, .move (.tmp 6), some (some 66, true)),
  (some 69, .binOp .add 3 (.tmp 68) (.const (.int .i64 1)) 3, some (some 66, true)),
  (some 70, .index 9 (.tmp 67) (.tmp 69), some (some 66, true)),
  (some 71, .binOp .eql 5 (.tmp 70) (.const (.int .u8 110)) 5, some (some 66, true)),
  (some 72, .pick (.tmp 66) (.tmp 71) (.const (.bool false)), none),
  (some 56, .assign (.tmp 72), none)]
abbrev R62_13 : List SOp := [(some 73, .move (.tmp 6), none),
  (some 74, .binOp .add 3 (.tmp 73) (.const (.int .i64 1)) 3, none),
  (some 6, .assign (.tmp 74), none)]
abbrev R62_14 : List SOp := [(some 75, .call ⟨.value (.func 48), #[(.tmp 5), (.const (.int .u8 10))], #[72, 5]⟩, none)]
abbrev R62_15 : List SOp := [(some 77, .move (.tmp 7), none),
  (some 78, .binOp .lss 5 (.tmp 77) (.const (.int .u8 32)) 5, none),
  (some 79, .move (.tmp 78), none),
  (some 80, .move (.tmp 7), some (some 79, false)),
  (some 81, .binOp .gtr 5 (.tmp 80) (.const (.int .u8 126)) 5, some (some 79, false)),
  (some 82, .pick (.tmp 79) (.const (.bool true)) (.tmp 81), none),
  (some 83, .move (.tmp 82), none),
  (some 84, .move (.tmp 7), some (some 83, false)),
  (some 85, .binOp .eql 5 (.tmp 84) (.const (.int .u8 92)) 5, some (some 83, false)),
  (some 86, .pick (.tmp 83) (.const (.bool true)) (.tmp 85), none),
  (some 76, .assign (.tmp 86), none)]
abbrev R62_16 : List SOp := [(some 87, .build 29 #[], none),
  (none, .store 29 (.tmp 2) (.tmp 87), none),
  (some 3, .assign (.const (.int .i64 0)), none),
  (some 4, .assign (.const (.int .i64 1)), none)]
abbrev R62_6 : List SOp := [(some 17, .move (.tmp 7), none),
  (some 18, .call ⟨.value (.func 48), #[(.tmp 5), (.tmp 17)], #[72, 5]⟩, none)]
abbrev R62_4 : List SOp := [(some 12, .move (.tmp 6), none),
  (some 13, .binOp .add 3 (.tmp 12) (.const (.int .i64 1)) 3, none),
  (some 6, .assign (.tmp 13), none)]
def L62_0 : SCode := .seq (.seq (.reg R62_3) (.cond (.tmp 11) (.skip) (.exit 0))) (.seq (.block 1 (.seq (.reg R62_5) (.block 2 (.seq (.reg R62_7) (.cond (.tmp 19) (.seq (.reg R62_8) (.ret)) (.seq (.reg R62_9) (.cond (.tmp 26) (.seq (.reg R62_10) (.reg R62_11)) (.seq (.reg R62_12) (.cond (.tmp 56) (.seq (.reg R62_13) (.reg R62_14)) (.seq (.reg R62_15) (.cond (.tmp 76) (.seq (.reg R62_16) (.ret)) (.reg R62_6)))))))))))) (.reg R62_4))
abbrev R62_17 : List SOp := [(some 88, .build 29 #[], none),
  (none, .store 29 (.tmp 2) (.tmp 88), none),
  (some 3, .assign (.const (.int .i64 0)), none),
  (some 4, .assign (.const (.int .i64 1)), none)]
abbrev S62 : SCode := .seq (.reg R62_0) (.seq (.reg R62_1) (.seq (.seq (.reg R62_2) (.block 0 (.loop L62_0))) (.seq (.reg R62_17) (.ret))))
theorem slim62 : slimC tab 62 (Tryz.f62.body.getD .skip) = S62 := by kernel_rfl
theorem wf62 {xs : List V} {H : Hp} {Q : V → Hp → Prop} (h : WC tab S62 (frame xs 0 .nil) H (resQ tab [.cell 2 29, .tmp 3, .tmp 4] Q)) : WF tab 62 xs H Q := WF.of_slim (T := tab) (f := 62) rfl fn62 rfl slim62 rfl h
/-! internal/stringslite.HasPrefix -/
abbrev R67_0 : List SOp := [(some 4, .assign (.const (.bool false)), none)]
abbrev R67_1 : List SOp := [(some 5, .move (.tmp 0), none),
  (some 6, .call ⟨.builtin .len, #[(.tmp 5)], #[9]⟩, none),
  (some 7, .move (.tmp 1), none),
  (some 8, .call ⟨.builtin .len, #[(.tmp 7)], #[9]⟩, none),
  (some 9, .binOp .geq 3 (.tmp 6) (.tmp 8) 3, none),
  (some 10, .move (.tmp 9), none),
  (some 11, .move (.tmp 0), some (some 10, true)),
  (some 12, .move (.tmp 1), some (some 10, true)),
  (some 13, .call ⟨.builtin .len, #[(.tmp 12)], #[9]⟩, some (some 10, true)),
  (some 14, .slice 9 (.tmp 11) none (some (.tmp 13)) none, some (some 10, true)),
  (some 15, .move (.tmp 1), some (some 10, true)),
  (some 16, .binOp .eql 9 (.tmp 14) (.tmp 15) 9, some (some 10, true)),
  (some 17, .pick (.tmp 10) (.tmp 16) (.const (.bool false)), none),
  (some 4, .assign (.tmp 17), none)]
abbrev S67 : SCode := .seq (.reg R67_0) (.seq (.reg R67_1) (.ret))
theorem slim67 : slimC tab 67 (Tryz.f67.body.getD .skip) = S67 := by kernel_rfl
theorem wf67 {xs : List V} {H : Hp} {Q : V → Hp → Prop} (h : WC tab S67 (frame xs 0 .nil) H (resQ tab [.tmp 4] Q)) : WF tab 67 xs H Q := WF.of_slim (T := tab) (f := 67) rfl fn67 rfl slim67 rfl h
end Go.AM.YtjdadagnfnaboaaGreatDoorT
/- What simp opens in the walks of this seat: printed by genset.py. -/
namespace Go.AM.YtjdadagnfnaboaaGreatDoorT
open Go Go.AM
attribute [simp] wp_skip wp_reg wp_dreg wp_seq wp_cond wp_block wp_loop wp_exit wp_ret wpL_nil wpL_cons wpD_nil wpD_cons sq_nrm sq_exit sq_ret nm_ap bl_nrm bl_ret bl_exit cd_true cd_false lp_nrm lp_exit lp_ret rs_ret rs_nrm rsQ contL contD kV kAW kA kW kC kCo wantQ oq_p oq_r oq_w oq_c oq_alloc oq_box oq_bs oq_mm oq_ms oq_cv dV dAW dA dW dC dCo isCall skD od_p od_r od_w od_c od_alloc od_box od_bs od_mm od_ms od_cv wantDQ wantS kind convKd lenV_sl lenV_nils lenV_sle lenV_str evP evR evA evW evAW descOf frame opd opds Tr.get_set putD delD resOf getAll kbOk afterA isPt winOk ofVal binInt binStr binE_int binE_str binE_shl binE_shr binE_eql_agg binE_neq_agg binE_eql_bool binE_neq_bool binE_eql_pn binE_neq_pn binE_eql_nn binE_neq_nn binE_eql_in binE_neq_in binE_eql_ii binE_neq_ii isBoolD isPtrD isIfD isMpD isSlD isC cells_agg cells_bool one_bool cells_int one_int cells_str one_str cells_nilp one_nilp cells_ptr one_ptr cells_nils one_nils cells_sle one_sle cells_sl one_sl cells_nilm one_nilm cells_mp one_mp cells_nilf one_nilf cells_fn one_fn cells_nili one_nili cells_ifc one_ifc isAgg isMapT optI partV zeroV keyOk keyOk1 keyOkS keyOkL eqS sameL same1 sameK esOf partsV fillV placesV setCells mapKeyOk Hp.get_flush Hp.stale_flush Hp.next_flush repl List.nil_append get_new_self get_put_self get_bump next_bump st_new st_put st_bump Hp.next_new Hp.next_put flush_of IntKind.bits tab_ng nna1 nnb1 nna2 nnb2 nna3 nnb3 nna4 nnb4 nna5 nnb5 nna6 nnb6 nna7 nnb7 nna8 nnb8
attribute [simp] ty1 ty2 ty3 ty4 ty5 ty6 ty7 ty8 ty9 ty10 ty11 ty12 ty13 ty14 ty15 ty16 ty17 ty18 ty19 ty20 ty21 ty22 ty23 ty24 ty26 ty27 ty28 ty29 ty30 ty31 ty32 ty33 ty34 ty35 ty36 ty37 ty38 ty39 ty40 ty41 ty42 ty43 ty44 ty45 ty46 ty47 ty48 ty49 ty50 ty51 ty52 ty53 ty54 ty55 ty56 ty57 ty58 ty59 ty60 ty61 ty62 ty63 ty65 ty66 ty67 ty69 ty70 ty71 ty72 ty73 ty74 ty75 ty77 ty78 ty79 ty80 ty81 ty82 ty83 ty84 ty85 ty86 ty87 ty88 ty89 ty90 ty91 ty92 ty93 ty94 ty95 ty97 ty98 ty99 ty100 ty101 ty102 ty103 ty104 ty105 ty106 ty107 ty108 ty109 ty110 ty112 ty114 ty115 ty116 ty117 ty118 ty120 ty121 ty122 ty123 ty124 ty125 ty126 ty127 ty128 ty130 ty131 ty132 ty133 ty134 ty135 ty136 ty137 ty138 ty139 ty140 ty141 ty142 ty143 ty144 ty145 ty146 ty147 ty150 ty151 ty152 ty153 ty154 ty155 ty156 ty157 ty158 ty159 ty160 ty161 ty162 ty163 ty164 ty165 ty166 ty167 ty168 ty169 ty170 ty171 ty172 ty173 ty174 ty175 ty176 ty177 ty178 ty179 ty180 ty181 ty183 ty184 ty185 ty186 ty187 ty188 ty189 ty190 ty191 ty192 ty193 ty194 ty195 ty196 ty198 ty199 ty200 ty202 ty203 ty204 ty205 ty206 ty207 ty208 ty209 ty210 ty211 ty212 ty214 ty215 ty216 ty217 ty218 ty219 ty220 ty221 ty222 ty223 ty224 ty225 ty226 ty227 ty228
end Go.AM.YtjdadagnfnaboaaGreatDoorT
/- The heaps in which the laws of this seat begin; the Awakes, run. -/
set_option linter.unusedVariables false
set_option linter.unusedSimpArgs false
set_option maxRecDepth 1000000
namespace Go.AM.YtjdadagnfnaboaaGreatDoorT
open Go Go.AM Go.Proofs
/-- tree.signs. -/
def signsL : List V := [.str [], .str [], .str [], .str [], .str [], .str [], .str [45], .str [33], .str [43], .str [45], .str [42], .str [61, 61], .str [33, 61], .str [60], .str [], .str [], .str [], .str []]
def errR : Option Ob := some (.row 75 1 true [.ifc 203 (.ptr 7 0)])
/-- The package's variables (0..6), and ErrRange's text (7). -/
def gl5 : List (Option Ob) := [none, none, none, none, none, none, errR, none]
def gl6 : List (Option Ob) := [some (.row 84 1 true signsL), none, none, none, none, none, errR, none]
/-- What an evaluation tells of the heap that it leaves. -/
def tellsO (H : Hp) : Option (V × Hp) → Option (Bool × Bool × List Nat × List (Option Ob))
  | some (.bool b, H') => some (b, Nat.ble H.next H'.next, H'.stale, (List.range H.next).map H'.get)
  | _ => none
theorem tellsO_wf {f : FuncId} {H : Hp} {k : Nat} (h : tellsO H (evCall tab k f [] H) = some (true, true, [], (List.range H.next).map H.get)) : WF tab f [] H fun v H' => v = .bool true ∧ Ext noX H H' := by
  unfold tellsO at h
  split at h
  · rename_i b H' he
    simp only [Option.some.injEq, Prod.mk.injEq] at h
    obtain ⟨rfl, h2, h3, h4⟩ := h
    refine ⟨k, _, H', he, rfl, h3, Nat.le_of_ble_eq_true h2, fun x hx _ => ?_⟩
    have := congrArg (fun l => l[x]?) h4
    simpa [hx] using this
  · cases h
theorem awake5 : WF tab 13 [] (hO gl5) fun v H' => v = .bool true ∧ Ext noX (hO gl5) H' := tellsO_wf (k := 200) (by kernel_rfl)
theorem awake5_1 (o : Option Ob) : WF tab 13 [] (hO (gl5 ++ [o])) fun v H' => v = .bool true ∧ Ext noX (hO (gl5 ++ [o])) H' := by
  cases o with
  | none => exact tellsO_wf (k := 200) (by kernel_rfl)
  | some o => exact tellsO_wf (k := 200) (by kernel_rfl)
theorem awake6_1 (o : Option Ob) : WF tab 19 [] (hO (gl6 ++ [o])) fun v H' => v = .bool true ∧ Ext noX (hO (gl6 ++ [o])) H' := by
  cases o with
  | none => exact tellsO_wf (k := 200) (by kernel_rfl)
  | some o => exact tellsO_wf (k := 200) (by kernel_rfl)
end Go.AM.YtjdadagnfnaboaaGreatDoorT
/- Lex walks, first part: letters, digits, runs, prefixes. -/
set_option linter.unusedVariables false
set_option linter.unusedSimpArgs false
set_option maxRecDepth 100000
namespace Go.AM.YtjdadagnfnaboaaGreatDoorT
open Go Go.AM Go.Proofs
abbrev bv (c : UInt8) : V := .int .u8 c.toNat
theorem u8lt (c : UInt8) : c.toNat < 256 := c.toNat_lt
def letterB (c : UInt8) : Bool := decide (97 ≤ c.toNat) && decide (c.toNat ≤ 122) || (decide (65 ≤ c.toNat) && decide (c.toNat ≤ 90)) || decide (c.toNat = 95)
def digitB (c : UInt8) : Bool := decide (48 ≤ c.toNat) && decide (c.toNat ≤ 57)
theorem ne_u8 {a b : UInt8} (h : a ≠ b) : a.toNat ≠ b.toNat := fun e => h (UInt8.toNat_inj.1 e)
theorem digit60 {H : Hp} (hs : H.stale = []) (c : UInt8) : WF tab 60 [bv c] H fun v H' => v = .bool (digitB c) ∧ H' = H := by
  refine wf60 (wp_sound _ ?_)
  by_cases h1 : 48 ≤ c.toNat
  · have h1' : (48 : Int) ≤ (c.toNat : Int) := by omega
    by_cases h2 : c.toNat ≤ 57
    · have h2' : (c.toNat : Int) ≤ 57 := by omega
      simp [hs, h1', h2', digitB, h1, h2]
    · have h2' : ¬ (c.toNat : Int) ≤ 57 := by omega
      simp [hs, h1', h2', digitB, h1, h2]
  · have h1' : ¬ (48 : Int) ≤ (c.toNat : Int) := by omega
    simp [hs, h1', digitB, h1]
theorem letter57 {H : Hp} (hs : H.stale = []) (c : UInt8) : WF tab 57 [bv c] H fun v H' => v = .bool (letterB c) ∧ H' = H := by
  refine wf57 (wp_sound _ ?_)
  have e1 : decide ((97 : Int) ≤ (c.toNat : Int)) = decide (97 ≤ c.toNat) := by simp; omega
  have e2 : decide ((c.toNat : Int) ≤ 122) = decide (c.toNat ≤ 122) := by simp; omega
  have e3 : decide ((65 : Int) ≤ (c.toNat : Int)) = decide (65 ≤ c.toNat) := by simp; omega
  have e4 : decide ((c.toNat : Int) ≤ 90) = decide (c.toNat ≤ 90) := by simp; omega
  have e5 : ((c.toNat : Int) == 95) = decide (c.toNat = 95) := by
    by_cases h : c.toNat = 95
    · simp [h]
    · have : ¬ (c.toNat : Int) = 95 := by omega
      simp [h, this]
  unfold letterB
  generalize h1 : decide (97 ≤ c.toNat) = a1 at *
  generalize h2 : decide (c.toNat ≤ 122) = a2 at *
  generalize h3 : decide (65 ≤ c.toNat) = a3 at *
  generalize h4 : decide (c.toNat ≤ 90) = a4 at *
  generalize h5 : decide (c.toNat = 95) = a5 at *
  cases a1 <;> cases a2 <;> cases a3 <;> cases a4 <;> cases a5 <;> simp [hs, e1, e2, e3, e4, e5]
def wordB (c : UInt8) : Bool := letterB c || digitB c
theorem word59 {H : Hp} (hs : H.stale = []) (c : UInt8) : WF tab 59 [bv c] H fun v H' => v = .bool (wordB c) ∧ H' = H := by
  refine wf59 (wp_sound _ ?_)
  simp [hs]
  refine (letter57 hs c).mono ?_
  rintro v H' ⟨rfl, rfl⟩
  cases h : letterB c with
  | true => simp [hs, wordB, h]
  | false =>
    simp [hs, wordB, h]
    refine (digit60 hs c).mono ?_
    rintro v H' ⟨rfl, rfl⟩
    simp [hs]
def runN (p : UInt8 → Bool) : List UInt8 → Nat
  | [] => 0
  | c :: r => if p c then runN p r + 1 else 0
theorem runN_le (p : UInt8 → Bool) : ∀ l, runN p l ≤ l.length
  | [] => Nat.le_refl _
  | c :: r => by
    rw [runN]
    have := runN_le p r
    split
    · simp; omega
    · simp
theorem drop_cons {l : List UInt8} {i : Nat} (h : i < l.length) : l.drop i = l[i] :: l.drop (i + 1) := List.drop_eq_getElem_cons h
def I58 (s : List UInt8) (g : Nat) (p : UInt8 → Bool) (H : Hp) (m : Nat) (F : Fr) (H' : Hp) : Prop :=
  ∃ i : Nat, i + m = s.length ∧ H' = H ∧ F.get 0 = some (.str s) ∧ F.get 1 = some (.fn (.func g) [] []) ∧ F.get 7 = some (.int .i64 s.length) ∧ F.get 8 = some (.int .i64 i) ∧ runN p s = i + runN p (s.drop i)
theorem run58 {H : Hp} (hs : H.stale = []) (s : List UInt8) (g : Nat) (p : UInt8 → Bool) (hp : ∀ c, WF tab g [bv c] H fun v H' => v = .bool (p c) ∧ H' = H) (hl : s.length < 1000000) : WF tab 58 [.str s, .fn (.func g) [] []] H fun v H' => v = .int .i64 (runN p s) ∧ H' = H := by
  refine wf58 (wp_sound _ ?_)
  simp [hs]
  refine loop_of (I58 s g p H) (m := s.length) ⟨0, by omega, rfl, by simp, by simp, by simp, by simp, by simp⟩ ?_
  rintro m F H' ⟨i, hi, rfl, f0, f1, f7, f8, hr⟩
  by_cases hlt : i < s.length
  · have hlt' : (i : Int) < (s.length : Int) := by omega
    have hw := wr_succ (show i < 1000000000 by omega)
    rw [drop_cons hlt] at hr
    simp [L58_0, f0, f1, f7, f8, hlt, hlt', hs]
    refine (hp _).mono ?_
    rintro v H' ⟨rfl, rfl⟩
    cases hc : p s[i] with
    | true =>
      simp [runN, hc] at hr
      simp [hs, f8, hw]
      exact ⟨m - 1, by omega, i + 1, by omega, rfl, by simp [f0], by simp [f1], by simp [f7], by simp, by omega⟩
    | false =>
      simp [runN, hc] at hr
      simp [hs, hr]
  · have hlt' : ¬ (i : Int) < (s.length : Int) := by omega
    rw [List.drop_eq_nil_of_le (by omega)] at hr
    simp [runN] at hr
    have : i = s.length := by omega
    simp [L58_0, f0, f1, f7, f8, hlt, hlt', hs, hr, this]
theorem pre67 {H : Hp} (hs : H.stale = []) (s p : List UInt8) : WF tab 67 [.str s, .str p] H fun v H' => v = .bool (p.isPrefixOf s) ∧ H' = H := by
  refine wf67 (wp_sound _ ?_)
  by_cases h : p.length ≤ s.length
  · have h' : (p.length : Int) ≤ (s.length : Int) := by omega
    have e : (s.take p.length == p) = p.isPrefixOf s := by
      rw [Bool.eq_iff_iff]
      simp [List.isPrefixOf_iff_prefix, List.prefix_iff_eq_take]
      exact ⟨fun h => h.symm, fun h => h.symm⟩
    simp [hs, h, h', sliceV, e]
  · have h' : ¬ (p.length : Int) ≤ (s.length : Int) := by omega
    have e : p.isPrefixOf s = false := by
      rw [Bool.eq_false_iff]
      intro hp
      exact h (List.isPrefixOf_iff_prefix.1 hp).length_le
    simp [hs, h, h', e]
theorem pre36 {H : Hp} (hs : H.stale = []) (s p : List UInt8) : WF tab 36 [.str s, .str p] H fun v H' => v = .bool (p.isPrefixOf s) ∧ H' = H := by
  refine wf36 (wp_sound _ ?_)
  simp [hs]
  refine (pre67 hs s p).mono ?_
  rintro v H' ⟨rfl, rfl⟩
  simp [hs]
/-- A function that is told otherwise. -/
theorem wf_ext {T : Tab} {f : FuncId} {xs : List V} {H H' : Hp} {v : V} {e : List V → Hp → Option (V × Hp)} {fn : Func} {c : Code} {Q : V → Hp → Prop} (h0 : T.ext f = some e) (h1 : T.fn f = some fn) (h2 : fn.body = some c) (h : e xs H = some (v, H')) (hq : Q v H') : WF T f xs H Q :=
  ⟨1, v, H', by simp only [evCall, h1, h2, h0, h], hq⟩
end Go.AM.YtjdadagnfnaboaaGreatDoorT
/- Lex walks, second part: numbers. -/
set_option linter.unusedVariables false
set_option linter.unusedSimpArgs false
set_option maxRecDepth 100000
namespace Go.AM.YtjdadagnfnaboaaGreatDoorT
open Go Go.AM Go.Proofs
theorem wf_told {f : FuncId} {xs : List V} {H H' : Hp} {v : V} {e : List V → Hp → Option (V × Hp)} {fn : Func} {Q : V → Hp → Prop} (h0 : tab.ext f = some e) (h1 : tab.fn f = some fn) (h2 : fn.body.isSome = true) (h : e xs H = some (v, H')) (hq : Q v H') : WF tab f xs H Q := by
  obtain ⟨c, hc⟩ := Option.isSome_iff_exists.1 h2
  exact wf_ext h0 h1 hc h hq
/-- A heap of this seat's: nothing gone, ErrRange there. -/
structure Gd (H : Hp) : Prop where
  st : H.stale = []
  lt : 7 < H.next
  er : H.get 6 = errR
theorem Gd.ext {X : Nat → Prop} {H H' : Hp} (h : Gd H) (hE : Ext X H H') (hX : ¬ X 6) : Gd H' := ⟨hE.st, Nat.lt_of_lt_of_le h.lt hE.le, by rw [hE.get 6 (by have := h.lt; omega) hX]; exact h.er⟩
theorem Gd.new {H : Hp} (h : Gd H) (o : Ob) : Gd (H.new o) := h.ext (X := noX) (Ext.new h.st o) (fun h => h)
theorem Gd.bump {H : Hp} (h : Gd H) : Gd H.bump := ⟨h.st, Nat.lt_succ_of_lt h.lt, h.er⟩
/-- A number, or one too great: no fault of form. -/
def numB {α : Type} : Lib.NumEnd α → Bool
  | .ok _ => true
  | .range => true
  | _ => false
theorem digits_ok (M : Nat) : ∀ (l : List UInt8) (acc : Nat), (∀ c ∈ l, digitB c = true) → numB (Lib.parseUintM M acc l) = true
  | [], acc, h => by simp [Lib.parseUintM, numB]
  | c :: r, acc, h => by
    have hc := h c (by simp)
    simp only [digitB, Bool.and_eq_true, decide_eq_true_eq] at hc
    rw [Lib.parseUintM, if_pos hc]
    split
    · rfl
    · split
      · rfl
      · exact digits_ok M r _ fun x hx => h x (by simp [hx])
theorem take_run (p : UInt8 → Bool) : ∀ (l : List UInt8), ∀ c ∈ l.take (runN p l), p c = true
  | [], c, h => by simp at h
  | x :: r, c, h => by
    rw [runN] at h
    split at h
    · rename_i hx
      rw [List.take_succ_cons] at h
      rcases List.mem_cons.1 h with rfl | h
      · exact hx
      · exact take_run p r c h
    · simp at h
theorem int_ok {l : List UInt8} (h0 : l ≠ []) (h : ∀ c ∈ l, digitB c = true) : numB (Lib.parseIntB 64 l) = true := by
  cases l with
  | nil => exact absurd rfl h0
  | cons c r =>
    have hc := h c (by simp)
    simp only [digitB, Bool.and_eq_true, decide_eq_true_eq] at hc
    have h43 : ¬ (c.toNat = 43 ∨ c.toNat = 45) := by omega
    have h45 : ¬ c.toNat = 45 := by omega
    have := digits_ok (2 ^ 64 - 1) (c :: r) 0 h
    have e : Lib.parseUintB 64 (c :: r) = Lib.parseUintM (2 ^ 64 - 1) 0 (c :: r) := by rw [Lib.parseUintB, if_neg (by simp)]
    simp only [Lib.parseIntB]
    rw [if_neg h43, e]
    cases hq : Lib.parseUintM (2 ^ 64 - 1) 0 (c :: r) with
    | ok u =>
      dsimp only
      split
      · rfl
      · split <;> rfl
    | range => rfl
    | _ => rw [hq] at this; cases this
inductive LxR where
  | ok (k : Int) (t : List UInt8) (x : Int) (n : Nat)
  | err (e : Int)
def tokV (k : Int) (t : List UInt8) (x at_ : Int) : List V := [.int .i64 k, .str t, .int .i64 x, .int .i64 at_]
def LxR.v : LxR → V
  | .ok k t x n => .tup [.agg (tokV k t x 0), .int .i64 n, .int .i64 0]
  | .err e => .tup [.agg (tokV 0 [] 0 0), .int .i64 0, .int .i64 e]
def numberF (s : List UInt8) : LxR :=
  match Lib.parseIntB 64 (s.take (runN digitB s)) with
  | .ok v => if 1 < runN digitB s ∧ s.head? = some 48 then .err 6 else .ok 2 (s.take (runN digitB s)) v (runN digitB s)
  | _ => .err 6
theorem number61 {H : Hp} (hG : Gd H) (c : UInt8) (r : List UInt8) (hc : digitB c = true) (hl : (c :: r).length < 1000000) : WF tab 61 [.str (c :: r)] H fun v H' => v = (numberF (c :: r)).v ∧ Ext noX H H' := by
  have hs := hG.st
  refine wf61 (wp_sound _ ?_)
  simp [hs]
  refine (run58 (by simp [hs]) (c :: r) 60 digitB (fun x => digit60 (by simp [hs]) x) hl).mono ?_
  rintro v H' ⟨rfl, rfl⟩
  have hn := runN_le digitB (c :: r)
  have h1 : 1 ≤ runN digitB (c :: r) := by rw [runN, if_pos hc]; omega
  generalize hN : runN digitB (c :: r) = n at *
  have hns := int_ok (l := (c :: r).take n) (by intro h; have := congrArg List.length h; simp at this; omega) (fun x hx => take_run digitB (c :: r) x (by rw [hN]; exact hx))
  have hle : (n : Int) ≤ (r.length : Int) + 1 := by simp at hn; omega
  simp [hs, sliceV, hle]
  have hE : ∀ (a b : Ob), Ext noX H ((H.new a).put H.next b) := fun a b => (Ext.new hs a).putge b (Nat.le_refl _)
  have hlen : (List.take n (c :: r)).length ≤ 281474976710656 := by rw [List.length_take]; omega
  cases hp : Lib.parseIntB 64 (List.take n (c :: r))
  · rename_i u
    refine wf_told (f := 93) rfl fn93 rfl (H' := H.new (.row 29 4 false [.int .i64 0, .str [], .int .i64 0, .int .i64 0])) (v := .tup [.int .i64 u, .nili]) ?_ ?_
    · simp only [piE, hlen, if_true, hp]
    · simp [hs]
      by_cases h2 : 1 < n
      · have h2' : (1 : Int) < (n : Int) := by omega
        by_cases h3 : c = 48
        · subst h3
          simp [hs, h2', hE, numberF, hN, hp, h2, LxR.v, tokV]
        · have h3' : ((c.toNat : Int) == 48) = false := by
            have := ne_u8 h3
            simp at this ⊢
            omega
          simp [hs, h2', h3', hE, numberF, hN, hp, h2, h3, LxR.v, tokV, sliceV, hle]
      · have h2' : ¬ (1 : Int) < (n : Int) := by omega
        simp [hs, h2', hE, numberF, hN, hp, h2, LxR.v, tokV, sliceV, hle]
  · rw [hp] at hns; cases hns
  · refine wf_told (f := 93) rfl fn93 rfl (H' := (H.new (.row 29 4 false [.int .i64 0, .str [], .int .i64 0, .int .i64 0])).bump) (v := .tup [.int .i64 (Lib.intSat 64 (List.take n (c :: r))), .ifc 184 (.ptr (H.next + 1) 0)]) ?_ ?_
    · have h6 : (H.new (Ob.row 29 4 false [V.int IntKind.i64 0, V.str [], V.int IntKind.i64 0, V.int IntKind.i64 0])).get 6 = errR := (hG.new _).er
      simp only [piE, hlen, if_true, hp, h6, errR, st_new, hs]
      rfl
    · simp [hs, hE, numberF, hN, hp, LxR.v, tokV]
      exact ((Ext.new hs _).bump).putge _ (Nat.le_refl _)
end Go.AM.YtjdadagnfnaboaaGreatDoorT
/- Lex walks, third part: a strings.Builder; texts in quotes. -/
set_option linter.unusedVariables false
set_option linter.unusedSimpArgs false
set_option maxRecDepth 100000
namespace Go.AM.YtjdadagnfnaboaaGreatDoorT
open Go Go.AM Go.Proofs
/-- A Builder at row b, all of whose memory is younger than N: what it holds. -/
structure BldAt (N : Nat) (H : Hp) (b : Nat) (l : List UInt8) : Prop where
  ex : ∃ a v, H.get b = some (.row 72 2 false [a, v]) ∧ (a = .nilp ∧ v = .nils ∨ a = .ptr b 0) ∧ SlAt H 5 1 v l.length (l.map bv) ∧ (∀ r ∈ rowsOf v, N ≤ r ∧ r < H.next ∧ r ≠ b) ∧ (l = [] → v = .nils)
  lo : N ≤ b
  hi : b < H.next
def bldNew : Ob := .row 72 2 false [.nilp, .nils]
theorem BldAt.new {N : Nat} {H : Hp} (h : N ≤ H.next) : BldAt N (H.new bldNew) H.next [] :=
  ⟨⟨_, _, get_new_self H _, .inl ⟨rfl, rfl⟩, .nil, fun r hr => by simp [rowsOf] at hr, fun _ => rfl⟩, h, by rw [Hp.next_new]; omega⟩
/-- What is older than N is as it was. -/
abbrev geN (N : Nat) : Nat → Prop := fun x => N ≤ x
theorem BldAt.ext {N M : Nat} {H H' : Hp} {b : Nat} {l : List UInt8} (h : BldAt N H b l) (hE : Ext (geN M) H H') (hM : H.next ≤ M) : BldAt N H' b l := by
  obtain ⟨⟨a, v, h1, h2, h3, h4, h7⟩, h5, h6⟩ := h
  refine ⟨⟨a, v, by rw [hE.get b h6 (by simp [geN]; omega)]; exact h1, h2, h3.of_get fun r hr => ?_, fun r hr => ?_, h7⟩, h5, Nat.lt_of_lt_of_le h6 hE.le⟩
  · have := h4 r hr
    exact hE.get r this.2.1 (by simp [geN]; omega)
  · have := h4 r hr
    have := hE.le
    omega
theorem cc68 {N : Nat} {H : Hp} {b : Nat} {l : List UInt8} (hs : H.stale = []) (h : BldAt N H b l) {Q : V → Hp → Prop} (hq : ∀ H' v, H'.stale = [] → H'.next = H.next → BldAt N H' b l → H'.get b = some (.row 72 2 false [.ptr b 0, v]) → SlAt H' 5 1 v l.length (l.map bv) → (∀ r ∈ rowsOf v, N ≤ r ∧ r < H'.next ∧ r ≠ b) → Ext (geN N) H H' → Q (.tup []) H') : WF tab 68 [.ptr b 0] H Q := by
  obtain ⟨⟨a, v, h1, h2, h3, h4, h7⟩, h5, h6⟩ := h
  rcases h2 with ⟨rfl, rfl⟩ | rfl
  · refine wf_told (f := 68) rfl fn68 rfl (H' := H.put b (.row 72 2 false [.ptr b 0, .nils])) (v := .tup []) ?_ ?_
    · simp [ccE, hs, h1]
    · refine hq _ .nils hs rfl ⟨⟨_, _, get_put_self _ _ _, .inr rfl, ?_, ?_, h7⟩, h5, h6⟩ (get_put_self _ _ _) ?_ ?_ (Ext.put hs _ h5)
      · exact h3.of_get fun r hr => by simp [rowsOf] at hr
      · exact fun r hr => by simp [rowsOf] at hr
      · exact h3.of_get fun r hr => by simp [rowsOf] at hr
      · exact fun r hr => by simp [rowsOf] at hr
  · refine wf_told (f := 68) rfl fn68 rfl (H' := H) (v := .tup []) ?_ ?_
    · simp [ccE, hs, h1]
    · exact hq _ v hs rfl ⟨⟨_, _, h1, .inr rfl, h3, h4, h7⟩, h5, h6⟩ h1 h3 h4 (Ext.refl hs)
theorem app_flush {H H' : Hp} {e : TypeId} {z n : Nat} {s s' : V} {l : List V} (hs : H.stale = []) (hS : SlAt H' e z s' n l) (hA : AppR H s H' s') :
    SlAt H'.flush e z s' n l ∧ (∀ c, c < H.next → c ∉ rowsOf s → H'.flush.get c = H.get c) ∧ H'.flush.stale = [] ∧ H.next ≤ H'.flush.next ∧ (∀ r ∈ rowsOf s', r < H'.flush.next ∧ (r ∈ rowsOf s ∨ H.next ≤ r)) := by
  refine ⟨hS.of_get fun b hb => ?_, fun c hc hr => ?_, Hp.stale_flush _, by rw [Hp.next_flush]; exact hA.le, fun r hr => ?_⟩
  · rw [Hp.get_flush, if_neg (hA.new b hb).1]
  · have := hA.keep c hc hr (by simp [hs])
    rw [Hp.get_flush, if_neg this.2]
    exact this.1
  · have := hA.new r hr
    rw [Hp.next_flush]
    exact ⟨this.2.1, this.2.2⟩
theorem wb48 {N : Nat} {H : Hp} {b : Nat} {l : List UInt8} (hs : H.stale = []) (h : BldAt N H b l) (c : UInt8) (hl : l.length < 1000000000) : WF tab 48 [.ptr b 0, bv c] H fun v H' => BldAt N H' b (l ++ [c]) ∧ Ext (geN N) H H' := by
  refine wf48 (wp_sound _ ?_)
  simp [hs]
  refine cc68 hs h ?_
  intro H1 v s1 n1 hb1 g1 a1 r1 e1
  simp [s1, g1]
  refine wpL_app1 (e0 := 5) (cells := [bv c]) (by simp [descOf]) ty5 (by decide) (by simp) (by simp) a1 (fun r hr => ⟨(r1 r hr).2.1, by simp [s1]⟩) rfl (by simp; omega) (by omega) (by simp [s1]) fun s' H2 hS hA => ?_
  obtain ⟨k1, k2, k3, k4, k5⟩ := app_flush s1 hS hA
  have hb := h.hi
  have hlo := h.lo
  have gb : H2.flush.get b = some (.row 72 2 false [.ptr b 0, v]) := by
    rw [k2 b (by omega) (fun hr => (r1 b hr).2.2 rfl)]; exact g1
  have c1 := hS.cells
  have c2 := hS.one
  simp [gb, k3, c1, c2]
  have hrb : ∀ r ∈ rowsOf s', r ≠ b := fun r hr e => by
    rcases (k5 r hr).2 with h1 | h1
    · exact (r1 r h1).2.2 e
    · omega
  refine ⟨⟨⟨_, _, get_put_self _ _ _, .inr rfl, ?_, fun r hr => ?_, fun h => by simp at h⟩, hlo, ?_⟩, ?_⟩
  · have := k1.of_get (H' := H2.flush.put b (.row 72 2 false [.ptr b 0, s'])) fun r hr => get_put_ne _ (hrb r hr)
    simpa using this
  · have h1 := k5 r hr
    refine ⟨?_, h1.1, hrb r hr⟩
    rcases h1.2 with h2 | h2
    · exact (r1 r h2).1
    · omega
  · show b < H2.flush.next; omega
  · refine ⟨k3, by show H.next ≤ H2.flush.next; omega, fun x hx hn => ?_⟩
    simp only [geN, Nat.not_le] at hn
    rw [get_put_ne _ (by omega), k2 x (by omega) (fun hr => by have := (r1 x hr).1; omega)]
    exact e1.get x hx (by simp [geN]; omega)
theorem bytesOf_bv : ∀ l : List UInt8, bytesOf (l.map bv) = some l
  | [] => rfl
  | c :: r => by
    rw [List.map_cons]
    simp only [bytesOf, bytesOf_bv r]
    simp
theorem byteV_bv (l : List UInt8) : (l.map bv).all byteV = true := by
  rw [List.all_map, List.all_eq_true]
  intro c _
  have := u8lt c
  simp [byteV]
  omega
theorem st40 {N : Nat} {H : Hp} {b : Nat} {l : List UInt8} (hs : H.stale = []) (h : BldAt N H b l) (hl : l.length < 1000000000) : WF tab 40 [.ptr b 0] H fun v H' => v = .str l ∧ Ext (geN N) H H' := by
  obtain ⟨⟨a, v, h1, h2, h3, h4, h7⟩, h5, h6⟩ := h
  generalize hn : l.length = n at h3
  generalize hc : l.map bv = cs0 at h3
  cases h3 with
  | nil =>
    have : l = [] := by simpa using hc
    subst this
    exact wf_told (f := 40) rfl fn40 rfl (H' := H) (v := .str []) (by simp [strE, hs, h1]) ⟨rfl, Ext.refl hs⟩
  | row r n cs hg hle =>
    cases n with
    | zero =>
      have : l = [] := List.eq_nil_of_length_eq_zero hn
      have := h7 this
      cases this
    | succ n =>
      have hr := h4 r (by simp [rowsOf])
      rw [Nat.mul_one] at hc hle
      refine wf_told (f := 40) rfl fn40 rfl (H' := H.put r (.row 5 1 true cs)) (v := .str l) ?_ ⟨rfl, Ext.put hs _ (by simp [geN]; omega)⟩
      have e1 := bytesOf_bv l
      have e2 := byteV_bv l
      rw [hc] at e1 e2
      have e3 : n + 1 ≤ 9223372036854775807 := by omega
      simp only [strE, hs, h1, hg, hle, e1, e2, e3]
      simp
end Go.AM.YtjdadagnfnaboaaGreatDoorT
/- Lex walks, fourth part: texts in quotes. -/
set_option linter.unusedVariables false
set_option linter.unusedSimpArgs false
set_option maxRecDepth 100000
namespace Go.AM.YtjdadagnfnaboaaGreatDoorT
open Go Go.AM Go.Proofs
def qF : List UInt8 → List UInt8 → Nat → LxR
  | [], _, _ => .err 1
  | c :: r, acc, i =>
    if c = 34 then .ok 3 acc 0 (i + 1)
    else if c = 92 then match r with
      | [] => .err 1
      | d :: r' => if d = 34 ∨ d = 92 then qF r' (acc ++ [d]) (i + 2) else if d = 110 then qF r' (acc ++ [10]) (i + 2) else .err 1
    else if c.toNat < 32 ∨ 126 < c.toNat then .err 1
    else qF r (acc ++ [c]) (i + 1)
theorem qF_cons (c : UInt8) (r acc : List UInt8) (i : Nat) : qF (c :: r) acc i = if c = 34 then .ok 3 acc 0 (i + 1)
    else if c = 92 then (match r with
      | [] => .err 1
      | d :: r' => if d = 34 ∨ d = 92 then qF r' (acc ++ [d]) (i + 2) else if d = 110 then qF r' (acc ++ [10]) (i + 2) else .err 1)
    else if c.toNat < 32 ∨ 126 < c.toNat then .err 1
    else qF r (acc ++ [c]) (i + 1) := by
  cases r <;> simp [qF]
abbrev tok0 : Ob := .row 29 4 false [.int .i64 0, .str [], .int .i64 0, .int .i64 0]
def I62 (s : List UInt8) (H : Hp) (R : LxR) (m : Nat) (F : Fr) (H' : Hp) : Prop :=
  ∃ (i : Nat) (acc : List UInt8), i + m = s.length ∧ 1 ≤ i ∧ acc.length ≤ i ∧ F.get 0 = some (.str s) ∧ F.get 2 = some (.ptr H.next 0) ∧ F.get 5 = some (.ptr (H.next + 1) 0) ∧ F.get 6 = some (.int .i64 i) ∧
    BldAt (H.next + 1) H' (H.next + 1) acc ∧ H'.get H.next = some tok0 ∧ Ext noX H H' ∧ qF (s.drop i) acc i = R
theorem quoted62 {H : Hp} (hs : H.stale = []) (s : List UInt8) (h0 : 1 ≤ s.length) (hl : s.length < 1000000) : WF tab 62 [.str s] H fun v H' => v = (qF (s.drop 1) [] 1).v ∧ Ext noX H H' := by
  refine wf62 (wp_sound _ ?_)
  generalize hR : qF (s.drop 1) [] 1 = R
  simp [hs]
  refine loop_of (I62 s H R) (m := s.length - 1) ⟨1, [], by omega, by omega, by simp, by simp, by simp, by simp, by simp, ?_, ?_, ?_, hR⟩ ?_
  · exact BldAt.new (N := H.next + 1) (H := H.new tok0) (Nat.le_refl _)
  · rw [get_new_ne _ (by rw [Hp.next_new]; omega), get_new_self]
  · exact (Ext.new hs _).newge _
  rintro m F H' ⟨i, acc, hi, hi1, ha, f0, f2, f5, f6, hB, hT, hE, hq⟩
  have hst := hE.st
  by_cases hlt : i < s.length
  · have hlt' : (i : Int) < (s.length : Int) := by omega
    have h0i : (0 : Int) ≤ (i : Int) + 1 := by omega
    have hw := wr_succ (show i < 1000000000 by omega)
    have hw1 := wr_succ (show i + 1 < 1000000000 by omega)
    have hw2 : wr .i64 ((i : Int) + 1 + 1) = ((i + 2 : Nat) : Int) := by rw [wr_i64 (by omega) (by omega)]; omega
    rw [drop_cons hlt] at hq
    generalize hc : s[i] = c at hq
    have fin : ∀ (o : Ob) (H1 : Hp), Ext noX H H1 → Ext noX H (H1.put H.next o) := fun o H1 h => h.putge _ (Nat.le_refl _)
    have far : ∀ H1, Ext (geN (H.next + 1)) H' H1 → Ext noX H H1 ∧ H1.get H.next = some tok0 := fun H1 h1 => by
      refine ⟨⟨h1.st, Nat.le_trans hE.le h1.le, fun x hx hn => ?_⟩, ?_⟩
      · rw [h1.get x (Nat.lt_of_lt_of_le hx hE.le) (by simp [geN]; omega)]; exact hE.get x hx hn
      · rw [h1.get H.next (by have := hB.hi; omega) (by simp [geN])]; exact hT
    by_cases c34 : c = 34
    · subst c34
      rw [qF_cons, if_pos rfl] at hq
      simp [L62_0, f0, f2, f5, f6, hlt, hlt', hst, hc]
      refine (st40 hst hB (by omega)).mono ?_
      rintro v H1 ⟨rfl, h1⟩
      obtain ⟨e1, e2⟩ := far H1 h1
      simp [e1.st, e2, f2, f6, hw, ← hq, LxR.v, tokV, fin _ H1 e1]
    · have n34 : ((c.toNat : Int) == 34) = false := beq_false_of_ne (by have := ne_u8 c34; simp at this; omega)
      have goes : ∀ (d : UInt8) (k : Nat) (H1 : Hp), BldAt (H.next + 1) H1 (H.next + 1) (acc ++ [d]) → Ext (geN (H.next + 1)) H' H1 → qF (s.drop (i + k)) (acc ++ [d]) (i + k) = R → 1 ≤ k → i + k ≤ s.length →
          ∀ F' : Fr, F'.get 0 = some (.str s) → F'.get 2 = some (.ptr H.next 0) → F'.get 5 = some (.ptr (H.next + 1) 0) → F'.get 6 = some (.int .i64 ((i + k : Nat) : Int)) → ∃ m', m' < m ∧ I62 s H R m' F' H1 := fun d k H1 b1 e1 hq' hk hk2 F' g0 g2 g5 g6 => by
        obtain ⟨x1, x2⟩ := far H1 e1
        exact ⟨s.length - (i + k), by omega, i + k, acc ++ [d], by omega, by omega, by simp; omega, g0, g2, g5, g6, b1, x2, x1, hq'⟩
      by_cases c92 : c = 92
      · subst c92
        rw [qF_cons, if_neg (by decide), if_pos rfl] at hq
        by_cases hlt1 : i + 1 < s.length
        · have hlt1' : ((i : Int) + 1) < (s.length : Int) := by omega
          have hlt1'' : ((i + 1 : Nat) : Int) < (s.length : Int) := by omega
          rw [drop_cons hlt1] at hq
          generalize hd : s[i + 1] = d at hq
          dsimp only at hq
          by_cases d34 : d = 34
          · subst d34
            rw [if_pos (by simp)] at hq
            simp [L62_0, f0, f2, f5, f6, hlt, hlt', hst, hc, hw, h0i, hlt1, hlt1', hd]
            refine (wb48 hst hB 34 (by omega)).mono ?_
            rintro v H1 ⟨b1, e1⟩
            simp [e1.st, f6, hw, hw2]
            exact goes 34 2 H1 b1 e1 hq (by omega) (by omega) _ (by simp [f0]) (by simp [f2]) (by simp [f5]) (by simp [hw2])
          · have m34 : ((d.toNat : Int) == 34) = false := beq_false_of_ne (by have := ne_u8 d34; simp at this; omega)
            by_cases d92 : d = 92
            · subst d92
              rw [if_pos (by simp)] at hq
              simp [L62_0, f0, f2, f5, f6, hlt, hlt', hst, hc, hw, h0i, hlt1, hlt1', hd]
              refine (wb48 hst hB 92 (by omega)).mono ?_
              rintro v H1 ⟨b1, e1⟩
              simp [e1.st, f6, hw, hw2]
              exact goes 92 2 H1 b1 e1 hq (by omega) (by omega) _ (by simp [f0]) (by simp [f2]) (by simp [f5]) (by simp [hw2])
            · have m92 : ((d.toNat : Int) == 92) = false := beq_false_of_ne (by have := ne_u8 d92; simp at this; omega)
              rw [if_neg (by simp [d34, d92])] at hq
              by_cases d110 : d = 110
              · subst d110
                rw [if_pos rfl] at hq
                simp [L62_0, f0, f2, f5, f6, hlt, hlt', hst, hc, hw, h0i, hlt1, hlt1', hd]
                refine (wb48 hst hB 10 (by omega)).mono ?_
                rintro v H1 ⟨b1, e1⟩
                simp [e1.st, f6, hw, hw2]
                exact goes 10 2 H1 b1 e1 hq (by omega) (by omega) _ (by simp [f0]) (by simp [f2]) (by simp [f5]) (by simp [hw2])
              · have m110 : ((d.toNat : Int) == 110) = false := beq_false_of_ne (by have := ne_u8 d110; simp at this; omega)
                rw [if_neg d110] at hq
                simp [L62_0, f0, f2, f5, f6, hlt, hlt', hst, hc, hw, h0i, hlt1, hlt1', hd, m34, m92, m110, hT, ← hq, LxR.v, tokV, fin _ H' hE]
        · have hlt1' : ¬ ((i : Int) + 1) < (s.length : Int) := by omega
          rw [List.drop_eq_nil_of_le (by omega)] at hq
          dsimp only at hq
          simp [L62_0, f0, f2, f5, f6, hlt, hlt', hst, hc, hw, h0i, hlt1, hlt1', hT, ← hq, LxR.v, tokV, fin _ H' hE]
      · have n92 : ((c.toNat : Int) == 92) = false := beq_false_of_ne (by have := ne_u8 c92; simp at this; omega)
        rw [qF_cons, if_neg c34, if_neg c92] at hq
        by_cases c32 : c.toNat < 32
        · have c32' : (c.toNat : Int) < 32 := by omega
          simp only [c32, true_or, if_true] at hq
          simp [L62_0, f0, f2, f5, f6, hlt, hlt', hst, hc, n34, n92, c32', hT, ← hq, LxR.v, tokV, fin _ H' hE]
        · have c32' : ¬ (c.toNat : Int) < 32 := by omega
          by_cases c126 : 126 < c.toNat
          · have c126' : 126 < (c.toNat : Int) := by omega
            simp only [c126, or_true, if_true] at hq
            simp [L62_0, f0, f2, f5, f6, hlt, hlt', hst, hc, n34, n92, c32', c126', hT, ← hq, LxR.v, tokV, fin _ H' hE]
          · have c126' : ¬ 126 < (c.toNat : Int) := by omega
            simp only [c32, c126, or_false, if_false] at hq
            simp [L62_0, f0, f2, f5, f6, hlt, hlt', hst, hc, n34, n92, c32', c126']
            refine (wb48 hst hB c (by omega)).mono ?_
            rintro v H1 ⟨b1, e1⟩
            simp [e1.st, f6, hw]
            exact goes c 1 H1 b1 e1 hq (by omega) (by omega) _ (by simp [f0]) (by simp [f2]) (by simp [f5]) (by simp [hw2])
  · have hlt' : ¬ (i : Int) < (s.length : Int) := by omega
    rw [List.drop_eq_nil_of_le (by omega)] at hq
    simp [qF] at hq
    have := hE.putge (.row 29 4 false [.int .i64 0, .str [], .int .i64 0, .int .i64 0]) (Nat.le_refl H.next)
    simp [L62_0, f0, f2, f5, f6, hlt, hlt', hst, hT, ← hq, LxR.v, tokV, this]
end Go.AM.YtjdadagnfnaboaaGreatDoorT
/- Lex walks, fifth part: the token at the beginning. -/
set_option linter.unusedVariables false
set_option linter.unusedSimpArgs false
set_option maxRecDepth 100000
namespace Go.AM.YtjdadagnfnaboaaGreatDoorT
open Go Go.AM Go.Proofs
def signB : List UInt8 := [40, 41, 123, 125, 91, 93, 59, 44, 58, 46, 61, 60, 43, 45, 42, 33]
def oneF (s : List UInt8) : LxR := match s with
  | [] => .err 1
  | c :: r =>
    if letterB c then .ok 1 ((c :: r).take (runN wordB (c :: r))) 0 (runN wordB (c :: r))
    else if digitB c then numberF (c :: r)
    else if c = 34 then qF r [] 1
    else if [61, 61].isPrefixOf (c :: r) || [33, 61].isPrefixOf (c :: r) then .ok 4 ((c :: r).take 2) 0 2
    else if 0 ≤ Lib.indexByte signB c then .ok 4 [c] 0 1
    else .err 1
theorem idx33 {H : Hp} (s : List UInt8) (c : UInt8) (hl : s.length ≤ 1000000) : WF tab 33 [.str s, bv c] H fun v H' => v = .int .i64 (Lib.indexByte s c) ∧ H' = H := by
  refine wf_told (f := 33) rfl fn33 rfl (H' := H) (v := .int .i64 (Lib.indexByte s c)) ?_ ⟨rfl, rfl⟩
  simp [ixE]
theorem one32 {H : Hp} (hG : Gd H) (c : UInt8) (r : List UInt8) (hl : (c :: r).length < 1000000) : WF tab 32 [.str (c :: r)] H fun v H' => v = (oneF (c :: r)).v ∧ Ext noX H H' := by
  have hs := hG.st
  have hE : ∀ (a b : Ob) (H1 : Hp), Ext noX (H.new a) H1 → Ext noX H (H1.put H.next b) := fun a b H1 h => ((Ext.new hs a).trans h).putge b (Nat.le_refl _)
  have hE0 : ∀ (a b : Ob), Ext noX H ((H.new a).put H.next b) := fun a b => hE a b _ (Ext.refl (by simp [hs]))
  have gt : ∀ (a : Ob) H1, Ext noX (H.new a) H1 → H1.get H.next = some a := fun a H1 h => h.keep (by rw [Hp.next_new]; omega) (get_new_self _ _)
  have hG1 := hG.new tok0
  refine wf32 (wp_sound _ ?_)
  simp [hs]
  refine (letter57 (by simp [hs]) c).mono ?_
  rintro v H' ⟨rfl, rfl⟩
  cases h1 : letterB c with
  | true =>
    simp [hs]
    refine (run58 (by simp [hs]) (c :: r) 59 wordB (fun x => word59 (by simp [hs]) x) hl).mono ?_
    rintro v H' ⟨rfl, rfl⟩
    have hn := runN_le wordB (c :: r)
    have hle : (runN wordB (c :: r) : Int) ≤ (r.length : Int) + 1 := by simp at hn; omega
    simp [hs, sliceV, hle, oneF, h1, LxR.v, tokV, hE0]
  | false =>
    simp [hs]
    refine (digit60 (by simp [hs]) c).mono ?_
    rintro v H' ⟨rfl, rfl⟩
    cases h2 : digitB c with
    | true =>
      simp [hs]
      refine (number61 hG1 c r h2 hl).mono ?_
      rintro v H1 ⟨rfl, e1⟩
      have g1 := gt _ _ e1
      cases hr : numberF (c :: r) with
      | ok k t x n => simp [e1.st, g1, oneF, h1, h2, hr, LxR.v, tokV, hE _ _ _ e1]
      | err e => simp [e1.st, g1, oneF, h1, h2, hr, LxR.v, tokV, hE _ _ _ e1]
    | false =>
      simp [hs]
      by_cases c34 : c = 34
      · subst c34
        simp [hs]
        refine (quoted62 hG1.st (34 :: r) (by simp) hl).mono ?_
        rintro v H1 ⟨rfl, e1⟩
        have g1 := gt _ _ e1
        rw [List.drop_succ_cons, List.drop_zero]
        cases hr : qF r [] 1 with
        | ok k t x n => simp [e1.st, g1, oneF, h1, h2, hr, LxR.v, tokV, hE _ _ _ e1]
        | err e => simp [e1.st, g1, oneF, h1, h2, hr, LxR.v, tokV, hE _ _ _ e1]
      · have n34 : ((c.toNat : Int) == 34) = false := beq_false_of_ne (by have := ne_u8 c34; simp at this; omega)
        simp [hs, n34]
        refine (pre36 (by simp [hs]) (c :: r) [61, 61]).mono ?_
        rintro v H' ⟨rfl, rfl⟩
        have len2 : ∀ x y : UInt8, [x, y].isPrefixOf (c :: r) = true → (2 : Int) ≤ (r.length : Int) + 1 := fun x y h => by
          have := (List.isPrefixOf_iff_prefix.1 h).length_le
          simp at this
          omega
        cases h3 : [61, 61].isPrefixOf (c :: r) with
        | true =>
          have := len2 _ _ h3
          have o1 : oneF (c :: r) = .ok 4 ((c :: r).take 2) 0 2 := by
            simp only [oneF, h1, h2, c34, h3, Bool.true_or, if_true, if_false]
            rfl
          rw [o1]
          simp [hs, sliceV, this, LxR.v, tokV, hE0]
        | false =>
          simp [hs]
          refine (pre36 (by simp [hs]) (c :: r) [33, 61]).mono ?_
          rintro v H' ⟨rfl, rfl⟩
          have o1 : oneF (c :: r) = if [33, 61].isPrefixOf (c :: r) = true then .ok 4 ((c :: r).take 2) 0 2 else if 0 ≤ Lib.indexByte signB c then .ok 4 [c] 0 1 else .err 1 := by
            simp only [oneF, h1, h2, c34, h3, Bool.false_or, if_false]
            rfl
          cases h4 : [33, 61].isPrefixOf (c :: r) with
          | true =>
            have := len2 _ _ h4
            rw [o1, if_pos h4]
            simp [hs, sliceV, this, LxR.v, tokV, hE0]
          | false =>
            rw [o1, if_neg (by simp [h4])]
            simp [hs]
            refine (idx33 signB c (by decide)).mono ?_
            rintro v H' ⟨rfl, rfl⟩
            by_cases h5 : 0 ≤ Lib.indexByte signB c
            · have l1 : (1 : Int) ≤ (r.length : Int) + 1 := by omega
              rw [if_pos h5]
              simp [hs, h5, sliceV, l1, LxR.v, tokV, hE0]
            · rw [if_neg h5]
              simp [hs, h5, LxR.v, tokV, hE0]
end Go.AM.YtjdadagnfnaboaaGreatDoorT
/- Lex walks, sixth part: a text's tokens. -/
set_option linter.unusedVariables false
set_option linter.unusedSimpArgs false
set_option maxRecDepth 100000
namespace Go.AM.YtjdadagnfnaboaaGreatDoorT
open Go Go.AM Go.Proofs
structure Tk where
  k : Int
  t : List UInt8
  x : Int
  at_ : Nat
  deriving DecidableEq
def Tk.v (a : Tk) : List V := tokV a.k a.t a.x a.at_
def tksV (l : List Tk) : List V := l.flatMap Tk.v
theorem tksV_app (l : List Tk) (a : Tk) : tksV (l ++ [a]) = tksV l ++ a.v := by simp [tksV]
def notB (c : UInt8) : Bool := c != 10
def spF : Nat → List UInt8 → Nat → List Tk → List Tk × Nat × Int
  | 0, _, _, _ => ([], 0, 0)
  | f + 1, [], i, acc => (acc ++ [⟨0, [], 0, i⟩], 0, 0)
  | f + 1, c :: r, i, acc =>
    if c = 32 ∨ c = 10 then spF f r (i + 1) acc
    else if c = 35 then spF f ((c :: r).drop (runN notB (c :: r))) (i + runN notB (c :: r)) acc
    else match oneF (c :: r) with
      | .err e => ([], i, e)
      | .ok k t x n => spF f ((c :: r).drop n) (i + n) (acc ++ [⟨k, t, x, i⟩])
theorem qF_n : ∀ (m : Nat) (l : List UInt8) (acc : List UInt8) (i : Nat), l.length ≤ m → ∀ {k t x n}, qF l acc i = .ok k t x n → i + 1 ≤ n ∧ n ≤ i + l.length
  | _, [], acc, i, _, k, t, x, n, h => by simp [qF] at h
  | 0, c :: r, acc, i, hm, k, t, x, n, h => by simp at hm
  | m + 1, c :: r, acc, i, hm, k, t, x, n, h => by
    rw [qF_cons] at h
    simp only [List.length_cons] at hm ⊢
    split at h
    · cases h; omega
    · split at h
      · split at h
        · cases h
        · rename_i d r'
          simp only [List.length_cons] at hm ⊢
          split at h
          · have := qF_n m r' _ _ (by omega) h; omega
          · split at h
            · have := qF_n m r' _ _ (by omega) h; omega
            · cases h
      · split at h
        · cases h
        · have := qF_n m r _ _ (by omega) h; omega
theorem oneF_n {c : UInt8} {r : List UInt8} {k : Int} {t : List UInt8} {x : Int} {n : Nat} (h : oneF (c :: r) = .ok k t x n) : 1 ≤ n ∧ n ≤ (c :: r).length := by
  simp only [oneF] at h
  split at h
  · rename_i h1
    cases h
    exact ⟨by rw [runN, if_pos (by simp [wordB, h1])]; omega, runN_le _ _⟩
  · split at h
    · rename_i h1
      unfold numberF at h
      split at h
      · split at h
        · cases h
        · cases h
          exact ⟨by rw [runN, if_pos h1]; omega, runN_le _ _⟩
      · cases h
    · split at h
      · have := qF_n r.length r _ _ (Nat.le_refl _) h
        simp only [List.length_cons]; omega
      · split at h
        · rename_i h1
          cases h
          have : 2 ≤ (c :: r).length := by
            simp only [Bool.or_eq_true] at h1
            rcases h1 with h1 | h1 <;> exact (List.isPrefixOf_iff_prefix.1 h1).length_le
          omega
        · split at h
          · cases h; simp
          · cases h
def spV (sl : V) (a : Nat) (e : Int) : V := .tup [sl, .int .i64 a, .int .i64 e]
structure OutAt (N : Nat) (H : Hp) (v : V) (l : List Tk) : Prop where
  sl : SlAt H 29 4 v l.length (tksV l)
  rows : ∀ r ∈ rowsOf v, N ≤ r ∧ r < H.next
theorem OutAt.app {H H' H2 : Hp} {v s' : V} {acc : List Tk} {a : Tk} (hst : H'.stale = []) (hO : OutAt H.next H' v acc) (hE : Ext noX H H') (hS : SlAt H2 29 4 s' (acc.length + 1) (tksV acc ++ a.v)) (hA : AppR H' v H2 s') :
    OutAt H.next H2.flush s' (acc ++ [a]) ∧ Ext noX H H2.flush := by
  obtain ⟨k1, k2, k3, k4, k5⟩ := app_flush hst hS hA
  have hle := hE.le
  refine ⟨⟨by rw [tksV_app]; simpa using k1, fun r hr => ?_⟩, k3, by omega, fun x hx hn => ?_⟩
  · have := k5 r hr
    refine ⟨?_, this.1⟩
    rcases this.2 with h | h
    · exact (hO.rows r h).1
    · omega
  · rw [k2 x (by omega) (fun hr => by have := (hO.rows x hr).1; omega)]
    exact hE.get x hx hn
theorem OutAt.ext {N : Nat} {H H' : Hp} {v : V} {acc : List Tk} (h : OutAt N H v acc) (hE : Ext noX H H') : OutAt N H' v acc :=
  ⟨h.sl.of_get fun r hr => hE.get r (h.rows r hr).2 (fun h => h), fun r hr => ⟨(h.rows r hr).1, Nat.lt_of_lt_of_le (h.rows r hr).2 hE.le⟩⟩
theorem oneF_err {s : List UInt8} {e : Int} (h : oneF s = .err e) : e = 1 ∨ e = 6 := by
  have q : ∀ (m : Nat) (l acc : List UInt8) (i : Nat), l.length ≤ m → qF l acc i = .err e → e = 1 := by
    intro m
    induction m with
    | zero => intro l acc i hl h; cases l with
      | nil => simp [qF] at h; exact h.symm
      | cons => simp at hl
    | succ m ih =>
      intro l acc i hl h
      cases l with
      | nil => simp [qF] at h; exact h.symm
      | cons c r =>
        simp only [List.length_cons] at hl
        rw [qF_cons] at h
        split at h
        · cases h
        · split at h
          · split at h
            · cases h; rfl
            · rename_i d r'
              simp only [List.length_cons] at hl
              split at h
              · exact ih r' _ _ (by omega) h
              · split at h
                · exact ih r' _ _ (by omega) h
                · cases h; rfl
          · split at h
            · cases h; rfl
            · exact ih r _ _ (by omega) h
  cases s with
  | nil => simp [oneF] at h; exact .inl h.symm
  | cons c r =>
    simp only [oneF] at h
    split at h
    · cases h
    · split at h
      · unfold numberF at h
        split at h
        · split at h
          · cases h; exact .inr rfl
          · cases h
        · cases h; exact .inr rfl
      · split at h
        · exact .inl (q _ _ _ _ (Nat.le_refl _) h)
        · split at h
          · cases h
          · split at h
            · cases h
            · cases h; exact .inl rfl
def I14 (s : List UInt8) (H : Hp) (R : List Tk × Nat × Int) (m : Nat) (F : Fr) (H' : Hp) : Prop :=
  ∃ (i : Nat) (acc : List Tk) (v : V) (f : Nat), i + m = s.length ∧ acc.length ≤ i ∧ F.get 0 = some (.str s) ∧ F.get 5 = some v ∧ F.get 6 = some (.int .i64 i) ∧ OutAt H.next H' v acc ∧ Ext noX H H' ∧ m < f ∧ spF f (s.drop i) i acc = R
def I14n (s : List UInt8) (H0 : Hp) (v : V) (j m0 : Nat) (m : Nat) (F : Fr) (H' : Hp) : Prop :=
  ∃ i : Nat, i + m = s.length ∧ m ≤ m0 ∧ j ≤ i ∧ (i = j → s[j]? = some 35) ∧ F.get 0 = some (.str s) ∧ F.get 5 = some v ∧ F.get 6 = some (.int .i64 i) ∧ H' = H0 ∧ runN notB (s.drop j) = i - j + runN notB (s.drop i)
theorem split14 {H : Hp} (hG : Gd H) (s : List UInt8) (hl : s.length ≤ 8192) : WF tab 14 [.str s] H fun v H' => ∃ sl, v = spV sl (spF (s.length + 1) s 0 []).2.1 (spF (s.length + 1) s 0 []).2.2 ∧ OutAt H.next H' sl (spF (s.length + 1) s 0 []).1 ∧ Ext noX H H' := by
  have hs := hG.st
  generalize hR : spF (s.length + 1) s 0 [] = R
  refine wf14 (wp_sound _ ?_)
  have hl' : ¬ 8192 < (s.length : Int) := by omega
  simp [hs, hl']
  refine loop_of (I14 s H R) (m := s.length) ⟨0, [], .nils, s.length + 1, by omega, by simp, by simp, by simp, by simp, ⟨.nil, fun r hr => by simp [rowsOf] at hr⟩, Ext.refl hs, by omega, by simpa using hR⟩ ?_
  rintro m F H' ⟨i, acc, v, f, hi, ha, f0, f5, f6, hO, hE, hf, hq⟩
  have hst := hE.st
  obtain ⟨f, rfl⟩ : ∃ g, f = g + 1 := ⟨f - 1, by omega⟩
  by_cases hlt : i < s.length
  · have hlt' : (i : Int) < (s.length : Int) := by omega
    have hw := wr_succ (show i < 1000000000 by omega)
    have hdr := drop_cons hlt
    rw [hdr] at hq
    generalize hc : s[i] = c at hq hdr
    by_cases cb : c = 32 ∨ c = 10
    · rw [spF, if_pos cb] at hq
      have next : ∀ F' : Fr, F'.get 0 = some (.str s) → F'.get 5 = some v → F'.get 6 = some (.int .i64 ((i + 1 : Nat) : Int)) → ∃ m', m' < m ∧ I14 s H R m' F' H' := fun F' g0 g5 g6 =>
        ⟨m - 1, by omega, i + 1, acc, v, f, by omega, by omega, g0, g5, g6, hO, hE, by omega, hq⟩
      rcases cb with rfl | rfl
      · simp [L14_1, f0, f5, f6, hlt, hlt', hst, hc, hw]
        exact next _ (by simp [f0]) (by simp [f5]) (by simp)
      · simp [L14_1, f0, f5, f6, hlt, hlt', hst, hc, hw]
        exact next _ (by simp [f0]) (by simp [f5]) (by simp)
    · have n32 : ((c.toNat : Int) == 32) = false := beq_false_of_ne (by have := ne_u8 (fun e => cb (.inl e)); simp at this; omega)
      have n10 : ((c.toNat : Int) == 10) = false := beq_false_of_ne (by have := ne_u8 (fun e => cb (.inr e)); simp at this; omega)
      rw [spF, if_neg cb] at hq
      by_cases c35 : c = 35
      · rw [if_pos c35] at hq
        subst c35
        simp [L14_1, f0, f5, f6, hlt, hlt', hst, hc, n32, n10]
        refine loop_of (I14n s H' v i m) (m := m) ⟨i, by omega, Nat.le_refl _, Nat.le_refl _, fun _ => by rw [List.getElem?_eq_getElem hlt, hc], by simp [f0], by simp [f5], by simp [f6], rfl, by omega⟩ ?_
        rintro m1 F1 H1 ⟨i1, hi1, hm1, hji, he, g0, g5, g6, rfl, hr⟩
        rw [← hdr, List.drop_drop] at hq
        have stop : ¬ (i1 < s.length ∧ s[i1]? ≠ some 10) → ∀ F' : Fr, F'.get 0 = some (.str s) → F'.get 5 = some v → F'.get 6 = some (.int .i64 (i1 : Int)) → ∃ m', m' < m ∧ I14 s H R m' F' H1 := fun hno F' g0 g5 g6 => by
          have h0 : runN notB (s.drop i1) = 0 := by
            by_cases hh : i1 < s.length
            · have : s[i1]? = some 10 := Decidable.byContradiction fun h => hno ⟨hh, h⟩
              rw [List.getElem?_eq_getElem hh] at this
              rw [drop_cons hh, Option.some.inj this]
              rfl
            · rw [List.drop_eq_nil_of_le (by omega)]; rfl
          have hne : i1 ≠ i := fun e => by
            subst e
            have := he rfl
            exact hno ⟨hlt, by rw [this]; simp⟩
          have e1 : i + runN notB (s.drop i) = i1 := by omega
          rw [e1] at hq
          exact ⟨m1, by omega, i1, acc, v, f, by omega, by omega, g0, g5, g6, hO, hE, by omega, hq⟩
        by_cases hlt1 : i1 < s.length
        · have hlt1' : (i1 : Int) < (s.length : Int) := by omega
          have hw1 := wr_succ (show i1 < 1000000000 by omega)
          by_cases c10 : s[i1] = 10
          · simp [L14_0, g0, g5, g6, hlt1, hlt1', hst, c10]
            exact stop (fun h => h.2 (by rw [List.getElem?_eq_getElem hlt1, c10])) _ (by simp [g0]) (by simp [g5]) (by simp [g6])
          · have n10 : ((s[i1].toNat : Int) != 10) = true := by
              have := ne_u8 c10
              simp at this ⊢
              omega
            simp [L14_0, g0, g5, g6, hlt1, hlt1', hst, n10, hw1]
            refine ⟨m1 - 1, by omega, i1 + 1, by omega, by omega, by omega, fun e => by omega, by simp [g0], by simp [g5], by simp, rfl, ?_⟩
            rw [hr, drop_cons hlt1, runN, if_pos (by simp [notB, c10])]
            omega
        · have hlt1' : ¬ (i1 : Int) < (s.length : Int) := by omega
          simp [L14_0, g0, g5, g6, hlt1, hlt1', hst]
          exact stop (fun h => hlt1 h.1) _ (by simp [g0]) (by simp [g5]) (by simp [g6])
      · have n35 : ((c.toNat : Int) == 35) = false := beq_false_of_ne (by have := ne_u8 c35; simp at this; omega)
        rw [if_neg c35] at hq
        have hile : (i : Int) ≤ (s.length : Int) := by omega
        have htk : List.take (s.length - i) (List.drop i s) = c :: s.drop (i + 1) := by rw [List.take_of_length_le (by simp), hdr]
        simp [L14_1, f0, f5, f6, hlt, hlt', hst, hc, n32, n10, n35, sliceV, hile, htk]
        refine (one32 (hG.ext hE (fun h => h)) c _ (by simp; omega)).mono ?_
        rintro w H1 ⟨rfl, e1⟩
        have hE1 := hE.trans e1
        cases ho : oneF (c :: s.drop (i + 1)) with
        | err e =>
          rw [ho] at hq
          dsimp only at hq
          subst hq
          have ne0 : (e != 0) = true := by rcases oneF_err ho with rfl | rfl <;> rfl
          simp [e1.st, LxR.v, tokV, ne0, f6, f5, spV]
          exact ⟨⟨.nil, fun r hr => by simp [rowsOf] at hr⟩, (hE1.newge _).putge _ hE1.le⟩
        | ok k t x n =>
          rw [ho] at hq
          dsimp only at hq
          obtain ⟨n1, n2⟩ := oneF_n ho
          have n2' : i + n ≤ s.length := by simp at n2; omega
          simp [e1.st, LxR.v, tokV, f6, f5]
          have e3 : ∀ a b c, Ext noX H' (((H1.new a).put H1.next b).put H1.next c) := fun a b c => ((e1.newge a).putge b e1.le).putge c e1.le
          have hO3 := fun a b c => hO.ext (e3 a b c)
          refine wpL_app1 (e0 := 29) (cells := [.int .i64 k, .str t, .int .i64 x, .int .i64 i]) (by simp [descOf]) ty29 (by decide) (by simp) (by simp) (hO3 _ _ _).sl (fun r hr => ⟨((hO3 _ _ _).rows r hr).2, by simp [e1.st]⟩) rfl (by simp; omega) (by omega) (by simp [e1.st]) fun s' H2 hS hA => ?_
          obtain ⟨o1, o2⟩ := OutAt.app (a := ⟨k, t, x, i⟩) (e3 _ _ _).st (hO3 _ _ _) (hE.trans (e3 _ _ _)) hS hA
          have hwn : wr .i64 ((i : Int) + (n : Int)) = ((i + n : Nat) : Int) := by rw [wr_i64 (by omega) (by omega)]; omega
          simp [hwn, f6]
          exact ⟨s.length - (i + n), by omega, i + n, acc ++ [⟨k, t, x, i⟩], s', f, by omega, by simp; omega, by simp [f0], by simp, by simp, o1, o2, by omega, by rw [← hq, ← hdr, List.drop_drop]⟩
  · have hlt' : ¬ (i : Int) < (s.length : Int) := by omega
    have : i = s.length := by omega
    rw [List.drop_eq_nil_of_le (by omega), spF] at hq
    simp [L14_1, f0, f5, f6, hlt, hlt', hst]
    refine wpL_app1 (e0 := 29) (cells := [.int .i64 0, .str [], .int .i64 0, .int .i64 s.length]) (by simp [descOf]) ty29 (by decide) (by simp) (by simp) hO.sl (fun r hr => ⟨(hO.rows r hr).2, by simp [hst]⟩) rfl (by simp; omega) (by omega) (by simp [hst]) fun s' H2 hS hA => ?_
    obtain ⟨o1, o2⟩ := OutAt.app (a := ⟨0, [], 0, s.length⟩) hst hO hE hS hA
    subst hq
    simp [spV]
    rw [this]
    exact ⟨o1, o2⟩
end Go.AM.YtjdadagnfnaboaaGreatDoorT
