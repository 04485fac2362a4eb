/- The slim code of these functions: printed by genslim.py. -/
import Derived.Test.YtaenhbfgfhhbcaaAmTab
import Derived.Test.YtaenhbfgfhhbcaaAmWp
namespace Go.AM.YtaenhbfgfhhbcaaT
open Go Go.AM Go.Proofs
set_option maxRecDepth 100000
/-! paling/palinglaw01.RefSets -/
def R6_0 : List SOp := [(some 4, .assign (.const (.bool false)), none)]
def R6_1 : List SOp := [(some 9, .call ⟨.value (.func 15), #[], #[]⟩, none),
  (some 10, .unOp .not 4 (.tmp 9), none)]
def R6_2 : List SOp := [(some 4, .assign (.const (.bool false)), none)]
def R6_3 : List SOp := [(some 11, .move (.tmp 0), none),
  (some 12, .call ⟨.builtin .len, #[(.tmp 11)], #[31]⟩, none),
  (some 13, .binOp .gtr 3 (.tmp 12) (.const (.int .i64 60)) 3, none)]
def R6_4 : List SOp := [(some 4, .assign (.const (.bool true)), none)]
def R6_5 : List SOp := [(some 14, .makeMap 33 none, none),
  (some 5, .assign (.tmp 14), none)]
def R6_6 : List SOp := [(some 15, .move (.tmp 0), none),
  (some 16, .call ⟨.builtin .len, #[(.tmp 15)], #[31]⟩, none),
  (some 17, .move (.const (.int .i64 0)), none)]
def R6_7 : List SOp := [(some 18, .binOp .lss 3 (.tmp 17) (.tmp 16) 3, none)]
def R6_8 : List SOp := [(some 19, .move (.tmp 17), none),
  (some 20, .indexAddr 31 (.tmp 15) (.tmp 17), none),
  (some 21, .load 5 (.tmp 20), none),
  (some 6, .assign (.tmp 19), none),
  (some 7, .assign (.tmp 21), none)]
def R6_9 : List SOp := [(some 22, .move (.tmp 0), none),
  (some 23, .move (.tmp 6), none),
  (some 24, .slice 31 (.tmp 22) none (some (.tmp 23)) none, none),
  (some 25, .move (.tmp 7), none),
  (some 26, .call ⟨.value (.func 19), #[(.tmp 24), (.tmp 25)], #[31, 5]⟩, none),
  (some 8, .assign (.tmp 26), none)]
def R6_10 : List SOp := [(some 27, .move (.tmp 5), none),
  (some 28, .move (.tmp 7), none),
  (some 29, .convert 5 25 (.tmp 28), none),
  (some 30, .call ⟨.value (.func 20), #[(.tmp 27), (.tmp 29)], #[33, 25]⟩, none),
  (some 31, .move (.tmp 8), none),
  (some 32, .binOp .neq 4 (.tmp 30) (.tmp 31) 4, none),
  (some 33, .move (.tmp 32), none),
  (some 34, .move (.tmp 5), some (some 33, false)),
  (some 35, .move (.tmp 7), some (some 33, false)),
  (some 36, .convert 5 25 (.tmp 35), some (some 33, false)),
  (some 37, .call ⟨.value (.func 21), #[(.tmp 34), (.tmp 36)], #[33, 25]⟩, some (some 33, false)),
  (some 38, .move (.tmp 8), some (some 33, false)),
  (some 39, .binOp .eql 4 (.tmp 37) (.tmp 38) 4, some (some 33, false)),
  (some 40, .pick (.tmp 33) (.const (.bool true)) (.tmp 39), none),
  (some 41, .move (.tmp 40), none),
  (some 42, .move (.tmp 5), some (some 41, false)),
  (some 43, .move (.tmp 7), some (some 41, false)),
  (some 44, .convert 5 25 (.tmp 43), some (some 41, false)),
  (some 45, .call ⟨.value (.func 20), #[(.tmp 42), (.tmp 44)], #[33, 25]⟩, some (some 41, false)),
  (some 46, .unOp .not 4 (.tmp 45), some (some 41, false)),
  (some 47, .pick (.tmp 41) (.const (.bool true)) (.tmp 46), none)]
def R6_11 : List SOp := [(some 4, .assign (.const (.bool false)), none)]
def R6_12 : List SOp := [(some 48, .binOp .add 3 (.tmp 17) (.const (.int .i64 1)) 3, none),
  (some 17, .move (.tmp 48), none)]
def L6_0 : SCode := .seq (.reg R6_7) (.seq (.cond (.tmp 18) (.skip) (.exit 0)) (.seq (.block 1 (.seq (.reg R6_8) (.seq (.reg R6_9) (.seq (.reg R6_10) (.cond (.tmp 47) (.seq (.reg R6_11) (.ret)) (.skip)))))) (.reg R6_12)))
def R6_13 : List SOp := [(some 49, .move (.tmp 5), none),
  (some 50, .move (.tmp 1), none),
  (some 51, .convert 5 25 (.tmp 50), none),
  (some 52, .call ⟨.value (.func 20), #[(.tmp 49), (.tmp 51)], #[33, 25]⟩, none),
  (some 53, .move (.tmp 0), none),
  (some 54, .move (.tmp 1), none),
  (some 55, .call ⟨.value (.func 19), #[(.tmp 53), (.tmp 54)], #[31, 5]⟩, none),
  (some 56, .binOp .eql 4 (.tmp 52) (.tmp 55) 4, none),
  (some 4, .assign (.tmp 56), none)]
def S6 : SCode := .seq (.reg R6_0) (.seq (.seq (.reg R6_1) (.cond (.tmp 10) (.seq (.reg R6_2) (.ret)) (.skip))) (.seq (.seq (.reg R6_3) (.cond (.tmp 13) (.seq (.reg R6_4) (.ret)) (.skip))) (.seq (.reg R6_5) (.seq (.seq (.reg R6_6) (.block 0 (.loop L6_0))) (.seq (.reg R6_13) (.ret))))))
theorem slim6 : slimC tab 6 (Try.f6.body.getD .skip) = S6 := by kernel_rfl
theorem wf6 {xs : List V} {H : Hp} {Q : V → Hp → Prop} (h : WC tab S6 (frame xs 0 .nil) H (resQ tab [.tmp 4] Q)) : WF tab 6 xs H Q := WF.of_slim (T := tab) (f := 6) rfl fn6 rfl slim6 rfl h
/-! paling/palinglaw01.Awake -/
def R15_0 : List SOp := [(some 0, .assign (.const (.bool false)), none)]
def R15_1 : List SOp := [(some 1, .call ⟨.value (.func 16), #[(.const (.int .u32 1)), (.const (.int .u32 2))], #[22, 22]⟩, none),
  (some 2, .binOp .eql 25 (.tmp 1) (.const (.int .u64 8589934593)) 25, none),
  (some 3, .move (.tmp 2), none),
  (some 4, .call ⟨.value (.func 18), #[(.const (.int .u64 8589934593))], #[25]⟩, some (some 3, true)),
  (some 5, .binOp .eql 22 (.tmp 4) (.const (.int .u32 2)) 22, some (some 3, true)),
  (some 6, .pick (.tmp 3) (.tmp 5) (.const (.bool false)), none),
  (some 0, .assign (.tmp 6), none)]
def S15 : SCode := .seq (.reg R15_0) (.seq (.reg R15_1) (.ret))
theorem slim15 : slimC tab 15 (Try.f15.body.getD .skip) = S15 := by kernel_rfl
theorem wf15 {xs : List V} {H : Hp} {Q : V → Hp → Prop} (h : WC tab S15 (frame xs 0 .nil) H (resQ tab [.tmp 0] Q)) : WF tab 15 xs H Q := WF.of_slim (T := tab) (f := 15) rfl fn15 rfl slim15 rfl h
/-! paling/ref.Of -/
def R16_0 : List SOp := [(some 4, .assign (.const (.int .u64 0)), none)]
def R16_1 : List SOp := [(some 5, .move (.tmp 1), none),
  (some 6, .convert 22 24 (.tmp 5), none),
  (some 7, .binOp .shl 24 (.tmp 6) (.const (.int .u64 32)) 95, none),
  (some 8, .move (.tmp 0), none),
  (some 9, .convert 22 24 (.tmp 8), none),
  (some 10, .binOp .or 24 (.tmp 7) (.tmp 9) 24, none),
  (some 4, .assign (.tmp 10), none)]
def S16 : SCode := .seq (.reg R16_0) (.seq (.reg R16_1) (.ret))
theorem slim16 : slimC tab 16 (Try.f16.body.getD .skip) = S16 := by kernel_rfl
theorem wf16 {xs : List V} {H : Hp} {Q : V → Hp → Prop} (h : WC tab S16 (frame xs 0 .nil) H (resQ tab [.tmp 4] Q)) : WF tab 16 xs H Q := WF.of_slim (T := tab) (f := 16) rfl fn16 rfl slim16 rfl h
/-! (paling/ref.Ref).Uses -/
def R18_0 : List SOp := [(some 2, .assign (.const (.int .u32 0)), none)]
def R18_1 : List SOp := [(some 3, .move (.tmp 0), none),
  (some 4, .binOp .shr 25 (.tmp 3) (.const (.int .u64 32)) 95, none),
  (some 5, .convert 25 22 (.tmp 4), none),
  (some 2, .assign (.tmp 5), none)]
def S18 : SCode := .seq (.reg R18_0) (.seq (.reg R18_1) (.ret))
theorem slim18 : slimC tab 18 (Try.f18.body.getD .skip) = S18 := by kernel_rfl
theorem wf18 {xs : List V} {H : Hp} {Q : V → Hp → Prop} (h : WC tab S18 (frame xs 0 .nil) H (resQ tab [.tmp 2] Q)) : WF tab 18 xs H Q := WF.of_slim (T := tab) (f := 18) rfl fn18 rfl slim18 rfl h
/-! slices.Contains[[]uint8,uint8] -/
def R19_0 : List SOp := [(some 4, .assign (.const (.bool false)), none)]
def R19_1 : List SOp := [(some 5, .move (.tmp 0), none),
  (some 6, .move (.tmp 1), none),
  (some 7, .call ⟨.value (.func 47), #[(.tmp 5), (.tmp 6)], #[31, 5]⟩, none),
  (some 8, .binOp .geq 3 (.tmp 7) (.const (.int .i64 0)) 3, none),
  (some 4, .assign (.tmp 8), none)]
def S19 : SCode := .seq (.reg R19_0) (.seq (.reg R19_1) (.ret))
theorem slim19 : slimC tab 19 (Try.f19.body.getD .skip) = S19 := by kernel_rfl
theorem wf19 {xs : List V} {H : Hp} {Q : V → Hp → Prop} (h : WC tab S19 (frame xs 0 .nil) H (resQ tab [.tmp 4] Q)) : WF tab 19 xs H Q := WF.of_slim (T := tab) (f := 19) rfl fn19 rfl slim19 rfl h
/-! (paling/ref.Set).Has -/
def R20_0 : List SOp := [(some 4, .assign (.const (.bool false)), none)]
def R20_1 : List SOp := [(some 8, .move (.tmp 0), none),
  (some 9, .move (.tmp 1), none),
  (some 10, .lookup 33 (.tmp 8) (.tmp 9) true, none),
  (some 7, .move (.tmp 10), none),
  (some 11, .extract (.tmp 7) 0, none),
  (some 12, .extract (.tmp 7) 1, none),
  (some 5, .alloc 97, none),
  (none, .store 97 (.tmp 5) (.tmp 11), none),
  (some 6, .assign (.tmp 12), none)]
def R20_2 : List SOp := [(some 13, .move (.tmp 6), none),
  (some 4, .assign (.tmp 13), none)]
def S20 : SCode := .seq (.reg R20_0) (.seq (.reg R20_1) (.seq (.reg R20_2) (.ret)))
theorem slim20 : slimC tab 20 (Try.f20.body.getD .skip) = S20 := by kernel_rfl
theorem wf20 {xs : List V} {H : Hp} {Q : V → Hp → Prop} (h : WC tab S20 (frame xs 0 .nil) H (resQ tab [.tmp 4] Q)) : WF tab 20 xs H Q := WF.of_slim (T := tab) (f := 20) rfl fn20 rfl slim20 rfl h
/-! (paling/ref.Set).Add -/
def R21_0 : List SOp := [(some 4, .assign (.const (.bool false)), none)]
def R21_1 : List SOp := [(some 5, .move (.tmp 0), none),
  (some 6, .move (.tmp 1), none),
  (some 7, .call ⟨.value (.func 20), #[(.tmp 5), (.tmp 6)], #[33, 25]⟩, none)]
def R21_2 : List SOp := [(some 4, .assign (.const (.bool false)), none)]
def R21_3 : List SOp := [(some 8, .move (.tmp 0), none),
  (some 9, .move (.tmp 1), none),
  (some 10, .build 97 #[], none),
  (none, .mapUpdate 33 (.tmp 8) (.tmp 9) (.tmp 10), none)]
def R21_4 : List SOp := [(some 4, .assign (.const (.bool true)), none)]
def S21 : SCode := .seq (.reg R21_0) (.seq (.seq (.reg R21_1) (.cond (.tmp 7) (.seq (.reg R21_2) (.ret)) (.skip))) (.seq (.reg R21_3) (.seq (.reg R21_4) (.ret))))
theorem slim21 : slimC tab 21 (Try.f21.body.getD .skip) = S21 := by kernel_rfl
theorem wf21 {xs : List V} {H : Hp} {Q : V → Hp → Prop} (h : WC tab S21 (frame xs 0 .nil) H (resQ tab [.tmp 4] Q)) : WF tab 21 xs H Q := WF.of_slim (T := tab) (f := 21) rfl fn21 rfl slim21 rfl h
/-! slices.Index[[]uint8,uint8] -/
def R47_0 : List SOp := [(some 4, .assign (.const (.int .i64 0)), none)]
def R47_1 : List SOp := [(some 6, .move (.tmp 0), none),
  (some 7, .call ⟨.builtin .len, #[(.tmp 6)], #[31]⟩, none),
  (some 8, .move (.const (.int .i64 0)), none)]
def R47_2 : List SOp := [(some 9, .binOp .lss 3 (.tmp 8) (.tmp 7) 3, none)]
def R47_3 : List SOp := [(some 10, .move (.tmp 8), none),
  (some 5, .assign (.tmp 10), none)]
def R47_4 : List SOp := [(some 11, .move (.tmp 1), none),
  (some 12, .move (.tmp 0), none),
  (some 13, .move (.tmp 5), none),
  (some 14, .indexAddr 31 (.tmp 12) (.tmp 13), none),
  (some 15, .load 5 (.tmp 14), none),
  (some 16, .binOp .eql 5 (.tmp 11) (.tmp 15) 5, none)]
def R47_5 : List SOp := [(some 17, .move (.tmp 5), none),
  (some 4, .assign (.tmp 17), none)]
def R47_6 : List SOp := [(some 18, .binOp .add 3 (.tmp 8) (.const (.int .i64 1)) 3, none),
  (some 8, .move (.tmp 18), none)]
def L47_0 : SCode := .seq (.reg R47_2) (.seq (.cond (.tmp 9) (.skip) (.exit 0)) (.seq (.block 1 (.seq (.reg R47_3) (.seq (.reg R47_4) (.cond (.tmp 16) (.seq (.reg R47_5) (.ret)) (.skip))))) (.reg R47_6)))
def R47_7 : List SOp := [(some 4, .assign (.const (.int .i64 (-1))), none)]
def S47 : SCode := .seq (.reg R47_0) (.seq (.seq (.reg R47_1) (.block 0 (.loop L47_0))) (.seq (.reg R47_7) (.ret)))
theorem slim47 : slimC tab 47 (Try.f47.body.getD .skip) = S47 := by kernel_rfl
theorem wf47 {xs : List V} {H : Hp} {Q : V → Hp → Prop} (h : WC tab S47 (frame xs 0 .nil) H (resQ tab [.tmp 4] Q)) : WF tab 47 xs H Q := WF.of_slim (T := tab) (f := 47) rfl fn47 rfl slim47 rfl h
end Go.AM.YtaenhbfgfhhbcaaT
