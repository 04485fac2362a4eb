/- Parts of the abstract machine and of the walks over it, joined: what the law that is claimed here leans on. -/
import Derived.Test.YtiolgkhfpnidfaaAmX
import Derived.Test.YtiolgkhfpnidfaaAmC2
import Derived.Test.YtiolgkhfpnidfaaAmC3
import Derived.KernelRfl
set_option linter.unusedVariables false
set_option linter.unusedSimpArgs false
set_option linter.unnecessarySimpa false
namespace Go.AM.YtiolgkhfpnidfaaT
open Go Go.AM Go.Proofs
set_option maxRecDepth 100000
abbrev R7_0:List SOp:=[(some 2,.assign (.const (.bool false)),none)]
abbrev R7_1:List SOp:=[(some 15,.call ⟨.value (.func 16),#[],#[]⟩,none),
 (some 16,.unOp .not 4 (.tmp 15),none)]
abbrev R7_2:List SOp:=[(some 2,.assign (.const (.bool false)),none)]
abbrev R7_3:List SOp:=[(some 17,.move (.tmp 0),none),
 (some 18,.call ⟨.builtin .len,#[(.tmp 17)],#[22]⟩,none),
 (some 19,.binOp .gtr 3 (.tmp 18) (.const (.int .i64 60)) 3,none)]
abbrev R7_4:List SOp:=[(some 2,.assign (.const (.bool true)),none)]
abbrev R7_5:List SOp:=[(some 20,.call ⟨.value (.func 17),#[],#[]⟩,none),
 (some 3,.assign (.tmp 20),none)]
abbrev R7_6:List SOp:=[(some 21,.move (.tmp 3),none),
 (some 22,.call ⟨.value (.func 18),#[(.tmp 21),(.const (.int .i64 8))],#[30,3]⟩,none)]
abbrev R7_7:List SOp:=[(some 23,.makeMap 25 none,none),
 (some 4,.assign (.tmp 23),none)]
abbrev R7_8:List SOp:=[(some 5,.assign (.const (.slice none 0 0)),none)]
abbrev R7_9:List SOp:=[(some 24,.move (.tmp 0),none),
 (some 25,.call ⟨.builtin .len,#[(.tmp 24)],#[22]⟩,none),
 (some 26,.move (.const (.int .i64 0)),none)]
abbrev R7_10:List SOp:=[(some 27,.binOp .lss 3 (.tmp 26) (.tmp 25) 3,none)]
abbrev R7_11:List SOp:=[(some 28,.move (.tmp 26),none),
 (some 29,.indexAddr 22 (.tmp 24) (.tmp 26),none),
 (some 30,.load 5 (.tmp 29),none),
 (some 6,.assign (.tmp 28),none),
 (some 7,.assign (.tmp 30),none)]
abbrev R7_12:List SOp:=[(some 31,.move (.tmp 7),none),
 (some 32,.binOp .rem 5 (.tmp 31) (.const (.int .u8 3)) 5,none),
 (some 33,.binOp .eql 5 (.tmp 32) (.const (.int .u8 0)) 5,none),
 (some 34,.move (.tmp 33),none),
 (some 35,.move (.tmp 5),some (some 34,true)),
 (some 36,.call ⟨.builtin .len,#[(.tmp 35)],#[33]⟩,some (some 34,true)),
 (some 37,.binOp .gtr 3 (.tmp 36) (.const (.int .i64 0)) 3,some (some 34,true)),
 (some 38,.pick (.tmp 34) (.tmp 37) (.const (.bool false)),none)]
abbrev R7_13:List SOp:=[(some 39,.move (.tmp 7),none),
 (some 40,.binOp .quo 5 (.tmp 39) (.const (.int .u8 3)) 5,none),
 (some 41,.convert 5 3 (.tmp 40),none),
 (some 42,.move (.tmp 5),none),
 (some 43,.call ⟨.builtin .len,#[(.tmp 42)],#[33]⟩,none),
 (some 44,.binOp .rem 3 (.tmp 41) (.tmp 43) 3,none),
 (some 8,.assign (.tmp 44),none)]
abbrev R7_14:List SOp:=[(some 45,.move (.tmp 3),none),
 (some 46,.move (.tmp 5),none),
 (some 47,.move (.tmp 8),none),
 (some 48,.indexAddr 33 (.tmp 46) (.tmp 47),none),
 (some 49,.load 29 (.tmp 48),none),
 (some 50,.call ⟨.value (.func 20),#[(.tmp 45),(.tmp 49)],#[30,29]⟩,none)]
abbrev R7_15:List SOp:=[(some 51,.move (.tmp 5),none),
 (some 52,.move (.tmp 8),none),
 (some 53,.move (.tmp 8),none),
 (some 54,.binOp .add 3 (.tmp 53) (.const (.int .i64 1)) 3,none),
 (some 55,.call ⟨.value (.func 24),#[(.tmp 51),(.tmp 52),(.tmp 54)],#[33,3,3]⟩,none),
 (some 5,.assign (.tmp 55),none)]
abbrev R7_16:List SOp:=[(some 57,.move (.tmp 3),none),
 (some 58,.move (.tmp 6),none),
 (some 59,.build 44 #[(4,(.tmp 58))],none),
 (some 60,.call ⟨.value (.func 19),#[(.tmp 57),(.tmp 59)],#[30,44]⟩,none),
 (some 56,.move (.tmp 60),none),
 (some 61,.extract (.tmp 56) 0,none),
 (some 62,.extract (.tmp 56) 1,none),
 (some 9,.assign (.tmp 61),none),
 (some 10,.assign (.tmp 62),none)]
abbrev R7_17:List SOp:=[(some 63,.move (.tmp 10),none),
 (some 64,.binOp .eql 34 (.tmp 63) (.const (.int .i64 0)) 34,none),
 (some 65,.move (.tmp 5),none),
 (some 66,.call ⟨.builtin .len,#[(.tmp 65)],#[33]⟩,none),
 (some 67,.binOp .lss 3 (.tmp 66) (.const (.int .i64 8)) 3,none),
 (some 68,.binOp .neq 4 (.tmp 64) (.tmp 67) 4,none)]
abbrev R7_18:List SOp:=[(some 2,.assign (.const (.bool false)),none)]
abbrev R7_19:List SOp:=[(some 69,.move (.tmp 10),none),
 (some 70,.binOp .neq 34 (.tmp 69) (.const (.int .i64 0)) 34,none)]
abbrev R7_20:List SOp:=[(some 71,.move (.tmp 4),none),
 (some 72,.move (.tmp 9),none),
 (some 73,.call ⟨.value (.func 15),#[(.tmp 71),(.tmp 72)],#[25,29]⟩,none),
 (some 74,.unOp .not 4 (.tmp 73),none)]
abbrev R7_21:List SOp:=[(some 2,.assign (.const (.bool false)),none)]
abbrev R7_22:List SOp:=[(some 75,.move (.tmp 5),none),
 (some 76,.move (.tmp 9),none),
 (some 77,.buildSlice 33 1 #[(0,(.tmp 76))],none),
 (some 78,.call ⟨.builtin .append,#[(.tmp 75),(.tmp 77)],#[33,33]⟩,none),
 (some 5,.assign (.tmp 78),none)]
abbrev R7_23:List SOp:=[(some 79,.move (.tmp 3),none),
 (some 80,.move (.tmp 9),none),
 (some 81,.call ⟨.value (.func 21),#[(.tmp 79),(.tmp 80)],#[30,29]⟩,none),
 (some 11,.assign (.tmp 81),none)]
abbrev R7_24:List SOp:=[(some 82,.move (.tmp 11),none),
 (some 83,.binOp .neq 46 (.tmp 82) (.const (.pointer none)) 46,none)]
abbrev R7_25:List SOp:=[(some 84,.move (.tmp 11),none),
 (some 85,.move (.tmp 6),none),
 (some 86,.binOp .add 3 (.tmp 85) (.const (.int .i64 1)) 3,none),
 (some 87,.nilCheck (.tmp 84),none),
 (some 88,.fieldAddr 44 (.tmp 87) 5,none),
 (none,.store 3 (.tmp 88) (.tmp 86),none)]
abbrev R7_26:List SOp:=[(some 89,.binOp .add 3 (.tmp 26) (.const (.int .i64 1)) 3,none),
 (some 26,.move (.tmp 89),none)]
def L7_0:SCode:=.seq (.reg R7_10) (.seq (.cond (.tmp 27) (.skip) (.exit 0)) (.seq (.block 1 (.seq (.reg R7_11) (.seq (.seq (.reg R7_12) (.cond (.tmp 38) (.seq (.reg R7_13) (.seq (.reg R7_14) (.seq (.reg R7_15) (.exit 1)))) (.skip))) (.seq (.reg R7_16) (.seq (.seq (.reg R7_17) (.cond (.tmp 68) (.seq (.reg R7_18) (.ret)) (.skip))) (.seq (.seq (.reg R7_19) (.cond (.tmp 70) (.exit 1) (.skip))) (.seq (.seq (.reg R7_20) (.cond (.tmp 74) (.seq (.reg R7_21) (.ret)) (.skip))) (.seq (.reg R7_22) (.seq (.reg R7_23) (.seq (.reg R7_24) (.cond (.tmp 83) (.reg R7_25) (.skip)))))))))))) (.reg R7_26)))
abbrev R7_27:List SOp:=[(some 90,.move (.tmp 5),none),
 (some 91,.call ⟨.builtin .len,#[(.tmp 90)],#[33]⟩,none),
 (some 92,.move (.const (.int .i64 0)),none)]
abbrev R7_28:List SOp:=[(some 93,.binOp .lss 3 (.tmp 92) (.tmp 91) 3,none)]
abbrev R7_29:List SOp:=[(some 94,.indexAddr 33 (.tmp 90) (.tmp 92),none),
 (some 95,.load 29 (.tmp 94),none),
 (some 13,.assign (.tmp 95),none)]
abbrev R7_30:List SOp:=[(some 96,.move (.tmp 3),none),
 (some 97,.move (.tmp 13),none),
 (some 98,.call ⟨.value (.func 21),#[(.tmp 96),(.tmp 97)],#[30,29]⟩,none),
 (some 14,.assign (.tmp 98),none)]
abbrev R7_31:List (SOp×Nat):=[((some 99,.move (.tmp 14),none),0),
 ((some 100,.binOp .eql 46 (.tmp 99) (.const (.pointer none)) 46,none),0),
 ((some 101,.move (.tmp 100),none),0),
 ((some 102,.move (.tmp 14),some (some 101,false)),0),
 ((some 103,.nilCheck (.tmp 102),some (some 101,false)),0),
 ((some 104,.fieldAddr 44 (.tmp 103) 5,some (some 101,false)),0),
 ((some 105,.load 3 (.tmp 104),some (some 101,false)),0),
 ((some 106,.move (.tmp 14),some (some 101,false)),0),
 ((some 107,.nilCheck (.tmp 106),some (some 101,false)),0),
 ((some 108,.fieldAddr 44 (.tmp 107) 4,some (some 101,false)),0),
 ((some 109,.load 3 (.tmp 108),some (some 101,false)),0),
 ((some 110,.binOp .add 3 (.tmp 109) (.const (.int .i64 1)) 3,some (some 101,false)),0),
 ((some 111,.binOp .neq 3 (.tmp 105) (.tmp 110) 3,some (some 101,false)),0),
 ((some 112,.pick (.tmp 101) (.const (.bool true)) (.tmp 111),none),0)]
abbrev R7_32:List SOp:=[(some 2,.assign (.const (.bool false)),none)]
abbrev R7_33:List SOp:=[(some 113,.binOp .add 3 (.tmp 92) (.const (.int .i64 1)) 3,none),
 (some 92,.move (.tmp 113),none)]
def L7_1:SCode:=.seq (.reg R7_28) (.seq (.cond (.tmp 93) (.skip) (.exit 2)) (.seq (.block 3 (.seq (.reg R7_29) (.seq (.reg R7_30) (.seq (.dreg R7_31) (.cond (.tmp 112) (.seq (.reg R7_32) (.ret)) (.skip)))))) (.reg R7_33)))
abbrev R7_34:List SOp:=[(some 2,.assign (.const (.bool true)),none)]
abbrev S7:SCode:=.seq (.reg R7_0) (.seq (.seq (.reg R7_1) (.cond (.tmp 16) (.seq (.reg R7_2) (.ret)) (.skip))) (.seq (.seq (.reg R7_3) (.cond (.tmp 19) (.seq (.reg R7_4) (.ret)) (.skip))) (.seq (.reg R7_5) (.seq (.reg R7_6) (.seq (.reg R7_7) (.seq (.reg R7_8) (.seq (.seq (.reg R7_9) (.block 0 (.loop L7_0))) (.seq (.seq (.reg R7_27) (.block 2 (.loop L7_1))) (.seq (.reg R7_34) (.ret))))))))))
theorem slim7:slimC tab 7 (Try.f7.body.getD .skip)=S7:=by kernel_rfl
theorem wf7 {xs:List V} {H:Hp} {Q:V->Hp->Prop} (h:WC tab S7 (frame xs 0 .nil) H (resQ tab [.tmp 2] Q)):WF tab 7 xs H Q:=WF.of_slim (T:=tab) (f:=7) rfl fn7 rfl slim7 rfl h
end Go.AM.YtiolgkhfpnidfaaT
namespace Go.AM.YtiolgkhfpnidfaaT
open Go Go.AM
attribute [simp] wp_skip wp_reg wp_dreg wp_areg ap_ap wp_seq wp_cond wp_block wp_loop wp_exit wp_ret wpL_nil wpL_cons wpD_nil wpD_cons sq_nrm sq_exit sq_ret nm_ap bl_nrm bl_ret bl_exit cd_true cd_false lp_nrm lp_exit lp_ret rs_ret rs_nrm rsQ contL contD kV kAW kA kW kC kCo wantQ oq_p oq_r oq_w oq_c oq_alloc oq_box oq_bs oq_mm oq_ms oq_cv dV dAW dA dW dC dCo isCall skD od_p od_r od_w od_c od_alloc od_box od_bs od_mm od_ms od_cv wantDQ wantS kind convKd lenV_sl lenV_nils lenV_sle lenV_str evP evR evA evW evAW descOf frame opd opds Tr.get_set putD delD resOf getAll kbOk afterA isPt winOk ofVal ofVal0 ofVals binInt binStr binE_int binE_str binE_shl binE_shr binE_eql_agg binE_neq_agg binE_eql_bool binE_neq_bool binE_eql_pn binE_neq_pn binE_eql_nn binE_neq_nn binE_eql_in binE_neq_in binE_eql_ii binE_neq_ii isBoolD isPtrD isIfD isMpD isSlD isC cells_agg cells_bool one_bool cells_int one_int cells_str one_str cells_nilp one_nilp cells_ptr one_ptr cells_nils one_nils cells_sle one_sle cells_sl one_sl cells_nilm one_nilm cells_mp one_mp cells_nilf one_nilf cells_fn one_fn cells_nili one_nili cells_ifc one_ifc isAgg isMapT optI partV zeroV keyOk keyOk1 keyOkS keyOkL eqS sameL same1 sameK esOf partsV fillV placesV setCells mapKeyOk Hp.get_flush Hp.stale_flush Hp.next_flush repl List.nil_append get_new_self get_put_self get_bump next_bump st_new st_put st_bump Hp.next_new Hp.next_put flush_of IntKind.bits tab_ng nna1 nnb1 nna2 nnb2 nna3 nnb3 nna4 nnb4 nna5 nnb5 nna6 nnb6 nna7 nnb7 nna8 nnb8
attribute [simp] ty1 ty2 ty3 ty4 ty5 ty6 ty7 ty8 ty9 ty10 ty11 ty12 ty13 ty14 ty15 ty16 ty17 ty18 ty19 ty20 ty21 ty22 ty23 ty24 ty25 ty26 ty27 ty28 ty29 ty30 ty31 ty32 ty33 ty34 ty37 ty38 ty39 ty40 ty41 ty42 ty44 ty45 ty46 ty47 ty48 ty49 ty50 ty58 ty59 ty60 ty62 ty63 ty64 ty90 ty93 ty95 ty96 ty98 ty100 ty101 ty109 ty114 ty120
end Go.AM.YtiolgkhfpnidfaaT
namespace Go.AM.YtiolgkhfpnidfaaT
open Go Go.AM Go.Proofs
set_option maxRecDepth 100000
end Go.AM.YtiolgkhfpnidfaaT
namespace Go.AM.YtiolgkhfpnidfaaT
open Go Go.AM
end Go.AM.YtiolgkhfpnidfaaT
namespace Go.AM.YtiolgkhfpnidfaaT
open Go Go.AM Go.Proofs
set_option maxRecDepth 100000
abbrev R17_0:List SOp:=[(some 0,.assign (.const (.pointer none)),none)]
abbrev R17_1:List SOp:=[(some 1,.build 98 #[],none),
 (some 2,.box 98 (.tmp 1),none),
 (some 0,.assign (.tmp 2),none)]
abbrev S17:SCode:=.seq (.reg R17_0) (.seq (.reg R17_1) (.ret))
theorem slim17:slimC tab 17 (Try.f17.body.getD .skip)=S17:=by kernel_rfl
theorem wf17 {xs:List V} {H:Hp} {Q:V->Hp->Prop} (h:WC tab S17 (frame xs 0 .nil) H (resQ tab [.tmp 0] Q)):WF tab 17 xs H Q:=WF.of_slim (T:=tab) (f:=17) rfl fn17 rfl slim17 rfl h
abbrev R18_0:List SOp:=[(some 4,.assign (.const (.int .i64 0)),none)]
abbrev R18_1:List (SOp×Nat):=[((some 7,.move (.tmp 0),none),0),
 ((some 8,.nilCheck (.tmp 7),none),0),
 ((some 9,.fieldAddr 98 (.tmp 8) 2,none),0),
 ((some 10,.load 59 (.tmp 9),none),0),
 ((some 11,.move (.tmp 1),none),0),
 ((some 12,.call ⟨.builtin .max,#[(.tmp 11),(.const (.int .i64 0))],#[3,3]⟩,none),0),
 ((some 13,.buildSlice 59 1 #[(0,(.tmp 12))],none),0),
 ((some 14,.call ⟨.builtin .append,#[(.tmp 10),(.tmp 13)],#[59,59]⟩,none),0),
 ((some 15,.move (.tmp 0),none),1),
 ((some 16,.nilCheck (.tmp 15),none),1),
 ((some 17,.fieldAddr 98 (.tmp 16) 3,none),1),
 ((some 18,.load 59 (.tmp 17),none),1),
 ((some 19,.buildSlice 59 1 #[(0,(.const (.int .i64 0)))],none),1),
 ((some 20,.call ⟨.builtin .append,#[(.tmp 18),(.tmp 19)],#[59,59]⟩,none),0),
 ((some 5,.move (.tmp 0),none),2),
 ((some 21,.nilCheck (.tmp 5),none),0),
 ((some 22,.fieldAddr 98 (.tmp 21) 2,none),0),
 ((none,.store 59 (.tmp 22) (.tmp 14),none),0),
 ((some 6,.move (.tmp 0),none),3),
 ((some 23,.nilCheck (.tmp 6),none),0),
 ((some 24,.fieldAddr 98 (.tmp 23) 3,none),0),
 ((none,.store 59 (.tmp 24) (.tmp 20),none),0)]
abbrev R18_2:List SOp:=[(some 25,.move (.tmp 0),none),
 (some 26,.nilCheck (.tmp 25),none),
 (some 27,.fieldAddr 98 (.tmp 26) 2,none),
 (some 28,.load 59 (.tmp 27),none),
 (some 29,.call ⟨.builtin .len,#[(.tmp 28)],#[59]⟩,none),
 (some 30,.binOp .sub 3 (.tmp 29) (.const (.int .i64 1)) 3,none),
 (some 4,.assign (.tmp 30),none)]
abbrev S18:SCode:=.seq (.reg R18_0) (.seq (.dreg R18_1) (.seq (.reg R18_2) (.ret)))
theorem slim18:slimC tab 18 (Try.f18.body.getD .skip)=S18:=by kernel_rfl
theorem wf18 {xs:List V} {H:Hp} {Q:V->Hp->Prop} (h:WC tab S18 (frame xs 0 .nil) H (resQ tab [.tmp 4] Q)):WF tab 18 xs H Q:=WF.of_slim (T:=tab) (f:=18) rfl fn18 rfl slim18 rfl h
abbrev R19_0:List SOp:=[(some 3,.box 44 (.tmp 1),none),
 (some 4,.assign (.const (.int .u64 0)),none),
 (some 5,.assign (.const (.int .i64 0)),none)]
abbrev R19_1:List SOp:=[(some 8,.move (.tmp 0),none),
 (some 9,.fieldAddr 44 (.tmp 3) 1,none),
 (some 10,.load 3 (.tmp 9),none),
 (some 11,.call ⟨.value (.func 45),#[(.tmp 8),(.tmp 10)],#[30,3]⟩,none),
 (some 12,.unOp .not 4 (.tmp 11),none)]
abbrev R19_2:List SOp:=[(some 4,.assign (.const (.int .u64 0)),none),
 (some 5,.assign (.const (.int .i64 17)),none)]
abbrev R19_3:List (SOp×Nat):=[((some 13,.move (.tmp 0),none),0),
 ((some 14,.nilCheck (.tmp 13),none),0),
 ((some 15,.fieldAddr 98 (.tmp 14) 3,none),0),
 ((some 16,.load 59 (.tmp 15),none),0),
 ((some 17,.fieldAddr 44 (.tmp 3) 1,none),0),
 ((some 18,.load 3 (.tmp 17),none),0),
 ((some 19,.indexAddr 59 (.tmp 16) (.tmp 18),none),0),
 ((some 20,.load 3 (.tmp 19),none),0),
 ((some 21,.move (.tmp 0),none),0),
 ((some 22,.nilCheck (.tmp 21),none),0),
 ((some 23,.fieldAddr 98 (.tmp 22) 2,none),0),
 ((some 24,.load 59 (.tmp 23),none),0),
 ((some 25,.fieldAddr 44 (.tmp 3) 1,none),0),
 ((some 26,.load 3 (.tmp 25),none),0),
 ((some 27,.indexAddr 59 (.tmp 24) (.tmp 26),none),0),
 ((some 28,.load 3 (.tmp 27),none),0),
 ((some 29,.binOp .geq 3 (.tmp 20) (.tmp 28) 3,none),0)]
abbrev R19_4:List SOp:=[(some 4,.assign (.const (.int .u64 0)),none),
 (some 5,.assign (.const (.int .i64 8)),none)]
abbrev R19_5:List SOp:=[(some 30,.move (.tmp 0),none),
 (some 31,.nilCheck (.tmp 30),none),
 (some 32,.fieldAddr 98 (.tmp 31) 1,none),
 (some 33,.load 96 (.tmp 32),none),
 (some 34,.call ⟨.builtin .len,#[(.tmp 33)],#[96]⟩,none),
 (some 35,.binOp .eql 3 (.tmp 34) (.const (.int .i64 0)) 3,none)]
abbrev R19_6:List (SOp×Nat):=[((some 37,.move (.tmp 0),none),0),
 ((some 38,.nilCheck (.tmp 37),none),0),
 ((some 39,.fieldAddr 98 (.tmp 38) 1,none),0),
 ((some 40,.load 96 (.tmp 39),none),0),
 ((some 41,.move (.tmp 0),none),0),
 ((some 42,.nilCheck (.tmp 41),none),0),
 ((some 43,.fieldAddr 98 (.tmp 42) 0,none),0),
 ((some 44,.load 95 (.tmp 43),none),0),
 ((some 45,.call ⟨.builtin .len,#[(.tmp 44)],#[95]⟩,none),0),
 ((some 46,.convert 3 90 (.tmp 45),none),0),
 ((some 47,.buildSlice 96 1 #[(0,(.tmp 46))],none),0),
 ((some 48,.call ⟨.builtin .append,#[(.tmp 40),(.tmp 47)],#[96,96]⟩,none),0),
 ((some 36,.move (.tmp 0),none),1),
 ((some 49,.nilCheck (.tmp 36),none),0),
 ((some 50,.fieldAddr 98 (.tmp 49) 1,none),0),
 ((none,.store 96 (.tmp 50) (.tmp 48),none),0)]
abbrev R19_7:List SOp:=[(some 51,.move (.tmp 0),none),
 (some 52,.move (.tmp 0),none),
 (some 53,.nilCheck (.tmp 52),none),
 (some 54,.fieldAddr 98 (.tmp 53) 0,none),
 (some 55,.load 95 (.tmp 54),none),
 (some 56,.build 100 #[],none),
 (some 57,.buildSlice 95 1 #[(0,(.tmp 56))],none),
 (some 58,.call ⟨.builtin .append,#[(.tmp 55),(.tmp 57)],#[95,95]⟩,none),
 (some 59,.nilCheck (.tmp 51),none),
 (some 60,.fieldAddr 98 (.tmp 59) 0,none),
 (none,.store 95 (.tmp 60) (.tmp 58),none)]
abbrev R19_8:List (SOp×Nat):=[((some 61,.move (.tmp 0),none),0),
 ((some 62,.nilCheck (.tmp 61),none),0),
 ((some 63,.fieldAddr 98 (.tmp 62) 1,none),0),
 ((some 64,.load 96 (.tmp 63),none),0),
 ((some 65,.move (.tmp 0),none),0),
 ((some 66,.nilCheck (.tmp 65),none),0),
 ((some 67,.fieldAddr 98 (.tmp 66) 1,none),0),
 ((some 68,.load 96 (.tmp 67),none),0),
 ((some 69,.call ⟨.builtin .len,#[(.tmp 68)],#[96]⟩,none),0),
 ((some 70,.binOp .sub 3 (.tmp 69) (.const (.int .i64 1)) 3,none),0),
 ((some 71,.indexAddr 96 (.tmp 64) (.tmp 70),none),0),
 ((some 72,.load 90 (.tmp 71),none),0),
 ((some 6,.assign (.tmp 72),none),0)]
abbrev R19_9:List (SOp×Nat):=[((some 73,.move (.tmp 0),none),0),
 ((some 74,.move (.tmp 0),none),0),
 ((some 75,.nilCheck (.tmp 74),none),0),
 ((some 76,.fieldAddr 98 (.tmp 75) 1,none),0),
 ((some 77,.load 96 (.tmp 76),none),0),
 ((some 78,.move (.tmp 0),none),0),
 ((some 79,.nilCheck (.tmp 78),none),0),
 ((some 80,.fieldAddr 98 (.tmp 79) 1,none),0),
 ((some 81,.load 96 (.tmp 80),none),0),
 ((some 82,.call ⟨.builtin .len,#[(.tmp 81)],#[96]⟩,none),0),
 ((some 83,.binOp .sub 3 (.tmp 82) (.const (.int .i64 1)) 3,none),0),
 ((some 84,.slice 96 (.tmp 77) none (some (.tmp 83)) none,none),0),
 ((some 85,.nilCheck (.tmp 73),none),0),
 ((some 86,.fieldAddr 98 (.tmp 85) 1,none),0),
 ((none,.store 96 (.tmp 86) (.tmp 84),none),0)]
abbrev R19_10:List SOp:=[(some 87,.move (.tmp 0),none),
 (some 88,.nilCheck (.tmp 87),none),
 (some 89,.fieldAddr 98 (.tmp 88) 0,none),
 (some 90,.load 95 (.tmp 89),none),
 (some 91,.move (.tmp 6),none),
 (some 92,.indexAddr 95 (.tmp 90) (.tmp 91),none),
 (some 7,.assign (.tmp 92),none)]
abbrev R19_11:List SOp:=[(some 93,.move (.tmp 7),none),
 (some 94,.nilCheck (.tmp 93),none),
 (some 95,.fieldAddr 100 (.tmp 94) 0,none),
 (some 96,.load 90 (.tmp 95),none),
 (some 97,.binOp .add 90 (.tmp 96) (.const (.int .u32 1)) 90,none),
 (some 98,.nilCheck (.tmp 93),none),
 (some 99,.fieldAddr 100 (.tmp 98) 0,none),
 (none,.store 90 (.tmp 99) (.tmp 97),none)]
abbrev R19_12:List (SOp×Nat):=[((some 100,.move (.tmp 7),none),0),
 ((some 103,.nilCheck (.tmp 100),none),0),
 ((some 104,.fieldAddr 100 (.tmp 103) 1,none),0),
 ((none,.store 4 (.tmp 104) (.const (.bool true)),none),0),
 ((some 101,.move (.tmp 7),none),1),
 ((some 102,.load 44 (.tmp 3),none),1),
 ((some 105,.nilCheck (.tmp 101),none),0),
 ((some 106,.fieldAddr 100 (.tmp 105) 2,none),0),
 ((none,.store 44 (.tmp 106) (.tmp 102),none),0)]
abbrev R19_13:List (SOp×Nat):=[((some 107,.move (.tmp 0),none),0),
 ((some 108,.nilCheck (.tmp 107),none),0),
 ((some 109,.fieldAddr 98 (.tmp 108) 3,none),0),
 ((some 110,.load 59 (.tmp 109),none),0),
 ((some 111,.fieldAddr 44 (.tmp 3) 1,none),0),
 ((some 112,.load 3 (.tmp 111),none),0),
 ((some 113,.indexAddr 59 (.tmp 110) (.tmp 112),none),0),
 ((some 114,.load 3 (.tmp 113),none),0),
 ((some 115,.binOp .add 3 (.tmp 114) (.const (.int .i64 1)) 3,none),0),
 ((some 116,.indexAddr 59 (.tmp 110) (.tmp 112),none),0),
 ((none,.store 3 (.tmp 116) (.tmp 115),none),0)]
abbrev R19_14:List SOp:=[(some 117,.move (.tmp 6),none),
 (some 118,.move (.tmp 7),none),
 (some 119,.nilCheck (.tmp 118),none),
 (some 120,.fieldAddr 100 (.tmp 119) 0,none),
 (some 121,.load 90 (.tmp 120),none),
 (some 122,.call ⟨.value (.func 41),#[(.tmp 117),(.tmp 121)],#[90,90]⟩,none),
 (some 4,.assign (.tmp 122),none),
 (some 5,.assign (.const (.int .i64 0)),none)]
abbrev S19:SCode:=.seq (.reg R19_0) (.seq (.seq (.reg R19_1) (.cond (.tmp 12) (.seq (.reg R19_2) (.ret)) (.skip))) (.seq (.seq (.dreg R19_3) (.cond (.tmp 29) (.seq (.reg R19_4) (.ret)) (.skip))) (.seq (.seq (.reg R19_5) (.cond (.tmp 35) (.seq (.dreg R19_6) (.reg R19_7)) (.skip))) (.seq (.dreg R19_8) (.seq (.dreg R19_9) (.seq (.reg R19_10) (.seq (.reg R19_11) (.seq (.dreg R19_12) (.seq (.dreg R19_13) (.seq (.reg R19_14) (.ret)))))))))))
theorem slim19:slimC tab 19 (Try.f19.body.getD .skip)=S19:=by kernel_rfl
theorem wf19 {xs:List V} {H:Hp} {Q:V->Hp->Prop} (h:WC tab S19 (frame xs 0 .nil) H (resQ tab [.tmp 4,.tmp 5] Q)):WF tab 19 xs H Q:=WF.of_slim (T:=tab) (f:=19) rfl fn19 rfl slim19 rfl h
abbrev R20_0:List SOp:=[(some 6,.move (.tmp 0),none),
 (some 7,.move (.tmp 1),none),
 (some 8,.call ⟨.value (.func 21),#[(.tmp 6),(.tmp 7)],#[30,29]⟩,none),
 (some 4,.assign (.tmp 8),none)]
abbrev R20_1:List SOp:=[(some 9,.move (.tmp 4),none),
 (some 10,.binOp .eql 46 (.tmp 9) (.const (.pointer none)) 46,none)]
abbrev R20_2:List (SOp×Nat):=[((some 11,.move (.tmp 0),none),0),
 ((some 12,.nilCheck (.tmp 11),none),0),
 ((some 13,.fieldAddr 98 (.tmp 12) 3,none),0),
 ((some 14,.load 59 (.tmp 13),none),0),
 ((some 15,.move (.tmp 4),none),0),
 ((some 16,.nilCheck (.tmp 15),none),0),
 ((some 17,.fieldAddr 44 (.tmp 16) 1,none),0),
 ((some 18,.load 3 (.tmp 17),none),0),
 ((some 19,.indexAddr 59 (.tmp 14) (.tmp 18),none),0),
 ((some 20,.load 3 (.tmp 19),none),0),
 ((some 21,.binOp .sub 3 (.tmp 20) (.const (.int .i64 1)) 3,none),0),
 ((some 22,.indexAddr 59 (.tmp 14) (.tmp 18),none),0),
 ((none,.store 3 (.tmp 22) (.tmp 21),none),0)]
abbrev R20_3:List (SOp×Nat):=[((some 27,.move (.tmp 1),none),0),
 ((some 28,.call ⟨.value (.func 46),#[(.tmp 27)],#[29]⟩,none),0),
 ((some 23,.move (.tmp 0),none),1),
 ((some 24,.nilCheck (.tmp 23),none),1),
 ((some 25,.fieldAddr 98 (.tmp 24) 0,none),1),
 ((some 26,.load 95 (.tmp 25),none),1),
 ((some 29,.indexAddr 95 (.tmp 26) (.tmp 28),none),0),
 ((some 5,.assign (.tmp 29),none),0)]
abbrev R20_4:List SOp:=[(some 30,.move (.tmp 5),none),
 (some 31,.move (.tmp 5),none),
 (some 32,.build 44 #[],none),
 (some 33,.nilCheck (.tmp 30),none),
 (some 34,.fieldAddr 100 (.tmp 33) 1,none),
 (none,.store 4 (.tmp 34) (.const (.bool false)),none),
 (some 35,.nilCheck (.tmp 31),none),
 (some 36,.fieldAddr 100 (.tmp 35) 2,none),
 (none,.store 44 (.tmp 36) (.tmp 32),none)]
abbrev R20_5:List (SOp×Nat):=[((some 42,.move (.tmp 1),none),0),
 ((some 43,.call ⟨.value (.func 46),#[(.tmp 42)],#[29]⟩,none),0),
 ((some 38,.move (.tmp 0),none),1),
 ((some 39,.nilCheck (.tmp 38),none),1),
 ((some 40,.fieldAddr 98 (.tmp 39) 1,none),1),
 ((some 41,.load 96 (.tmp 40),none),1),
 ((some 44,.buildSlice 96 1 #[(0,(.tmp 43))],none),0),
 ((some 45,.call ⟨.builtin .append,#[(.tmp 41),(.tmp 44)],#[96,96]⟩,none),0),
 ((some 37,.move (.tmp 0),none),2),
 ((some 46,.nilCheck (.tmp 37),none),0),
 ((some 47,.fieldAddr 98 (.tmp 46) 1,none),0),
 ((none,.store 96 (.tmp 47) (.tmp 45),none),0)]
abbrev S20:SCode:=.seq (.reg R20_0) (.seq (.seq (.reg R20_1) (.cond (.tmp 10) (.ret) (.skip))) (.seq (.dreg R20_2) (.seq (.dreg R20_3) (.seq (.reg R20_4) (.dreg R20_5)))))
theorem slim20:slimC tab 20 (Try.f20.body.getD .skip)=S20:=by kernel_rfl
theorem wf20 {xs:List V} {H:Hp} {Q:V->Hp->Prop} (h:WC tab S20 (frame xs 0 .nil) H (resQ tab [] Q)):WF tab 20 xs H Q:=WF.of_slim (T:=tab) (f:=20) rfl fn20 rfl slim20 rfl h
abbrev R21_0:List SOp:=[(some 4,.assign (.const (.pointer none)),none)]
abbrev R21_1:List SOp:=[(some 6,.move (.tmp 1),none),
 (some 7,.call ⟨.value (.func 46),#[(.tmp 6)],#[29]⟩,none),
 (some 8,.convert 90 3 (.tmp 7),none),
 (some 5,.assign (.tmp 8),none)]
abbrev R21_2:List (SOp×Nat):=[((some 9,.move (.tmp 5),none),0),
 ((some 10,.move (.tmp 0),none),0),
 ((some 11,.nilCheck (.tmp 10),none),0),
 ((some 12,.fieldAddr 98 (.tmp 11) 0,none),0),
 ((some 13,.load 95 (.tmp 12),none),0),
 ((some 14,.call ⟨.builtin .len,#[(.tmp 13)],#[95]⟩,none),0),
 ((some 15,.binOp .geq 3 (.tmp 9) (.tmp 14) 3,none),0),
 ((some 16,.move (.tmp 15),none),0),
 ((some 17,.move (.tmp 0),some (some 16,false)),0),
 ((some 18,.nilCheck (.tmp 17),some (some 16,false)),0),
 ((some 19,.fieldAddr 98 (.tmp 18) 0,some (some 16,false)),0),
 ((some 20,.load 95 (.tmp 19),some (some 16,false)),0),
 ((some 21,.move (.tmp 5),some (some 16,false)),0),
 ((some 22,.indexAddr 95 (.tmp 20) (.tmp 21),some (some 16,false)),0),
 ((some 23,.fieldAddr 100 (.tmp 22) 1,some (some 16,false)),0),
 ((some 24,.load 4 (.tmp 23),some (some 16,false)),0),
 ((some 25,.unOp .not 4 (.tmp 24),some (some 16,false)),0),
 ((some 26,.pick (.tmp 16) (.const (.bool true)) (.tmp 25),none),0),
 ((some 27,.move (.tmp 26),none),0),
 ((some 36,.move (.tmp 1),some (some 27,false)),0),
 ((some 37,.call ⟨.value (.func 42),#[(.tmp 36)],#[29]⟩,some (some 27,false)),0),
 ((some 28,.move (.tmp 0),some (some 27,false)),1),
 ((some 29,.nilCheck (.tmp 28),some (some 27,false)),1),
 ((some 30,.fieldAddr 98 (.tmp 29) 0,some (some 27,false)),1),
 ((some 31,.load 95 (.tmp 30),some (some 27,false)),1),
 ((some 32,.move (.tmp 5),some (some 27,false)),1),
 ((some 33,.indexAddr 95 (.tmp 31) (.tmp 32),some (some 27,false)),1),
 ((some 34,.fieldAddr 100 (.tmp 33) 0,some (some 27,false)),1),
 ((some 35,.load 90 (.tmp 34),some (some 27,false)),1),
 ((some 38,.binOp .neq 90 (.tmp 35) (.tmp 37) 90,some (some 27,false)),0),
 ((some 39,.pick (.tmp 27) (.const (.bool true)) (.tmp 38),none),0)]
abbrev R21_3:List SOp:=[(some 4,.assign (.const (.pointer none)),none)]
abbrev R21_4:List SOp:=[(some 40,.move (.tmp 0),none),
 (some 41,.nilCheck (.tmp 40),none),
 (some 42,.fieldAddr 98 (.tmp 41) 0,none),
 (some 43,.load 95 (.tmp 42),none),
 (some 44,.move (.tmp 5),none),
 (some 45,.indexAddr 95 (.tmp 43) (.tmp 44),none),
 (some 46,.fieldAddr 100 (.tmp 45) 2,none),
 (some 4,.assign (.tmp 46),none)]
abbrev S21:SCode:=.seq (.reg R21_0) (.seq (.reg R21_1) (.seq (.seq (.dreg R21_2) (.cond (.tmp 39) (.seq (.reg R21_3) (.ret)) (.skip))) (.seq (.reg R21_4) (.ret))))
theorem slim21:slimC tab 21 (Try.f21.body.getD .skip)=S21:=by kernel_rfl
theorem wf21 {xs:List V} {H:Hp} {Q:V->Hp->Prop} (h:WC tab S21 (frame xs 0 .nil) H (resQ tab [.tmp 4] Q)):WF tab 21 xs H Q:=WF.of_slim (T:=tab) (f:=21) rfl fn21 rfl slim21 rfl h
abbrev R45_0:List SOp:=[(some 4,.assign (.const (.bool false)),none)]
abbrev R45_1:List SOp:=[(some 5,.move (.tmp 1),none),
 (some 6,.binOp .geq 3 (.tmp 5) (.const (.int .i64 0)) 3,none),
 (some 7,.move (.tmp 6),none),
 (some 8,.move (.tmp 1),some (some 7,true)),
 (some 9,.move (.tmp 0),some (some 7,true)),
 (some 10,.nilCheck (.tmp 9),some (some 7,true)),
 (some 11,.fieldAddr 98 (.tmp 10) 2,some (some 7,true)),
 (some 12,.load 59 (.tmp 11),some (some 7,true)),
 (some 13,.call ⟨.builtin .len,#[(.tmp 12)],#[59]⟩,some (some 7,true)),
 (some 14,.binOp .lss 3 (.tmp 8) (.tmp 13) 3,some (some 7,true)),
 (some 15,.pick (.tmp 7) (.tmp 14) (.const (.bool false)),none),
 (some 4,.assign (.tmp 15),none)]
abbrev S45:SCode:=.seq (.reg R45_0) (.seq (.reg R45_1) (.ret))
theorem slim45:slimC tab 45 (Try.f45.body.getD .skip)=S45:=by kernel_rfl
theorem wf45 {xs:List V} {H:Hp} {Q:V->Hp->Prop} (h:WC tab S45 (frame xs 0 .nil) H (resQ tab [.tmp 4] Q)):WF tab 45 xs H Q:=WF.of_slim (T:=tab) (f:=45) rfl fn45 rfl slim45 rfl h
abbrev R41_0:List SOp:=[(some 4,.assign (.const (.int .u64 0)),none)]
abbrev R41_1:List SOp:=[(some 5,.move (.tmp 1),none),
 (some 6,.convert 90 28 (.tmp 5),none),
 (some 7,.binOp .shl 28 (.tmp 6) (.const (.int .u64 32)) 120,none),
 (some 8,.move (.tmp 0),none),
 (some 9,.convert 90 28 (.tmp 8),none),
 (some 10,.binOp .or 28 (.tmp 7) (.tmp 9) 28,none),
 (some 4,.assign (.tmp 10),none)]
abbrev S41:SCode:=.seq (.reg R41_0) (.seq (.reg R41_1) (.ret))
theorem slim41:slimC tab 41 (Try.f41.body.getD .skip)=S41:=by kernel_rfl
theorem wf41 {xs:List V} {H:Hp} {Q:V->Hp->Prop} (h:WC tab S41 (frame xs 0 .nil) H (resQ tab [.tmp 4] Q)):WF tab 41 xs H Q:=WF.of_slim (T:=tab) (f:=41) rfl fn41 rfl slim41 rfl h
abbrev R46_0:List SOp:=[(some 2,.assign (.const (.int .u32 0)),none)]
abbrev R46_1:List SOp:=[(some 3,.move (.tmp 0),none),
 (some 4,.convert 29 90 (.tmp 3),none),
 (some 2,.assign (.tmp 4),none)]
abbrev S46:SCode:=.seq (.reg R46_0) (.seq (.reg R46_1) (.ret))
theorem slim46:slimC tab 46 (Try.f46.body.getD .skip)=S46:=by kernel_rfl
theorem wf46 {xs:List V} {H:Hp} {Q:V->Hp->Prop} (h:WC tab S46 (frame xs 0 .nil) H (resQ tab [.tmp 2] Q)):WF tab 46 xs H Q:=WF.of_slim (T:=tab) (f:=46) rfl fn46 rfl slim46 rfl h
abbrev R42_0:List SOp:=[(some 2,.assign (.const (.int .u32 0)),none)]
abbrev R42_1:List SOp:=[(some 3,.move (.tmp 0),none),
 (some 4,.binOp .shr 29 (.tmp 3) (.const (.int .u64 32)) 120,none),
 (some 5,.convert 29 90 (.tmp 4),none),
 (some 2,.assign (.tmp 5),none)]
abbrev S42:SCode:=.seq (.reg R42_0) (.seq (.reg R42_1) (.ret))
theorem slim42:slimC tab 42 (Try.f42.body.getD .skip)=S42:=by kernel_rfl
theorem wf42 {xs:List V} {H:Hp} {Q:V->Hp->Prop} (h:WC tab S42 (frame xs 0 .nil) H (resQ tab [.tmp 2] Q)):WF tab 42 xs H Q:=WF.of_slim (T:=tab) (f:=42) rfl fn42 rfl slim42 rfl h
end Go.AM.YtiolgkhfpnidfaaT
namespace Go.AM.YtiolgkhfpnidfaaT
open Go Go.AM
end Go.AM.YtiolgkhfpnidfaaT
namespace Go.AM
open Go
section
variable {T:Tab}
end
theorem two_ne {b c:Nat} (h:b≠c):(b=c)=False/\(c=b)=False:=by
 simp only [eq_iff_iff,iff_false];omega
inductive Tx where
 | ex (op:Nat) (num:Int) (text:List UInt8) (parts:List Tx) (params:List (List UInt8)) (body:List Tx)
 | st (kind:Nat) (name:List UInt8) (exprs body els:List Tx) (at_:Int)
def SliceOf (K:Nat->Prop) (H:Hp) (z n:Nat) (v:V) (P:List V->Prop):Prop :=
 (v = .nils\/v = .sle)/\n=0\/∃ b off cap e ro cells,v = .sl b off n cap z/\H.get b=some (.row e z ro cells)/\K b/\b < H.next/\off % z=0/\off+n*z<=cells.length/\P (cells.drop off)/\∀ c,cap=some c->n<=c
mutual
def ExpAt (K:Nat->Prop) (H:Hp):Tx->List V->Prop
 | .ex op num text parts params body,cs=>∃ vp vq vb,cs=[.int .i64 op,.int .i64 num,.str text,vp,vq,vb]/\SliceOf K H 6 parts.length vp (ElsAt K H parts)/\SliceOf K H 1 params.length vq (fun cs=>cs.take params.length=params.map .str)/\SliceOf K H 6 body.length vb (ElsAt K H body)
 | .st kind name es b e at_,cs=>∃ ve vb vl,cs=[.int .i64 kind,.str name,ve,vb,vl,.int .i64 at_]/\SliceOf K H 6 es.length ve (ElsAt K H es)/\SliceOf K H 6 b.length vb (ElsAt K H b)/\SliceOf K H 6 e.length vl (ElsAt K H e)
def ElsAt (K:Nat->Prop) (H:Hp):List Tx->List V->Prop
 | [],_=>True
 | x :: r,cs=>ExpAt K H x (cs.take 6)/\ElsAt K H r (cs.drop 6)
end
abbrev TreesAt (K:Nat->Prop) (H:Hp) (l:List Tx) (v:V):Prop:=SliceOf K H 6 l.length v (ElsAt K H l)
abbrev StrsAt (K:Nat->Prop) (H:Hp) (l:List (List UInt8)) (v:V):Prop:=SliceOf K H 1 l.length v (fun cs=>cs.take l.length=l.map .str)
structure Stays (K K' : Nat->Prop) (H H' : Hp):Prop where
 k:∀ b,K b->b < H.next->K' b
 get:∀ b,K b->b < H.next->H'.get b=H.get b
 le:H.next<=H'.next
theorem Stays.refl (K:Nat->Prop) (H:Hp):Stays K K H H:=⟨fun _ h _=>h,fun _ _ _=>rfl,Nat.le_refl _⟩
theorem Stays.trans {K K1 K2:Nat->Prop} {H H1 H2:Hp} (h:Stays K K1 H H1) (h' : Stays K1 K2 H1 H2):Stays K K2 H H2 :=
 ⟨fun b hb hl=>h'.k b (h.k b hb hl) (Nat.lt_of_lt_of_le hl h.le),fun b hb hl=>(h'.get b (h.k b hb hl) (Nat.lt_of_lt_of_le hl h.le)).trans (h.get b hb hl),Nat.le_trans h.le h'.le⟩
theorem Ext.stays {X K K' : Nat->Prop} {H H' : Hp} (h:Ext X H H') (hx:∀ b,K b->b < H.next->¬ X b) (hk:∀ b,K b->b < H.next->K' b):Stays K K' H H':=⟨hk,fun b hb hl=>h.get b hl (hx b hb hl),h.le⟩
theorem SliceOf.mono {K K' : Nat->Prop} {H H' : Hp} {z n:Nat} {v:V} {P P' : List V->Prop} (h:SliceOf K H z n v P) (hS:Stays K K' H H') (hP:∀ cs,P cs->P' cs):SliceOf K' H' z n v P':=by
 rcases h with h | ⟨b,off,cap,e,ro,cells,h1,h2,h3,h4,h5,h6,h7,h8⟩
 ·exact .inl h
 ·exact .inr ⟨b,off,cap,e,ro,cells,h1,by rw [hS.get b h3 h4];exact h2,hS.k b h3 h4,Nat.lt_of_lt_of_le h4 hS.le,h5,h6,hP _ h7,h8⟩
section
variable {K K' : Nat->Prop} {H H' : Hp}
mutual
theorem ExpAt.mono (hS:Stays K K' H H'):∀ (t:Tx) (cs:List V),ExpAt K H t cs->ExpAt K' H' t cs
 | .ex op num text parts params body,cs,h=>by
  simp only [ExpAt] at h ⊢
  obtain ⟨vp,vq,vb,h1,h2,h3,h4⟩:=h
  exact ⟨vp,vq,vb,h1,h2.mono hS (ElsAt.mono hS parts),h3.mono hS fun _ h=>h,h4.mono hS (ElsAt.mono hS body)⟩
 | .st kind name es b e at_,cs,h=>by
  simp only [ExpAt] at h ⊢
  obtain ⟨ve,vb,vl,h1,h2,h3,h4⟩:=h
  exact ⟨ve,vb,vl,h1,h2.mono hS (ElsAt.mono hS es),h3.mono hS (ElsAt.mono hS b),h4.mono hS (ElsAt.mono hS e)⟩
theorem ElsAt.mono (hS:Stays K K' H H'):∀ (l:List Tx) (cs:List V),ElsAt K H l cs->ElsAt K' H' l cs
 | [],cs,h=>by simp only [ElsAt]
 | x :: r,cs,h=>by
  simp only [ElsAt] at h ⊢
  exact ⟨ExpAt.mono hS x _ h.1,ElsAt.mono hS r _ h.2⟩
end
theorem TreesAt.mono (hS:Stays K K' H H') {l:List Tx} {v:V} (h:TreesAt K H l v):TreesAt K' H' l v:=SliceOf.mono h hS (ElsAt.mono hS l)
theorem StrsAt.mono (hS:Stays K K' H H') {l:List (List UInt8)} {v:V} (h:StrsAt K H l v):StrsAt K' H' l v:=SliceOf.mono h hS fun _ h=>h
theorem ElsAt.at_:∀ (l:List Tx) (cs:List V) (i:Nat) (hi:i < l.length),ElsAt K H l cs->ExpAt K H l[i] ((cs.drop (i*6)).take 6)
 | x :: r,cs,0,hi,h=>by simp only [ElsAt] at h;simpa using h.1
 | x :: r,cs,i+1,hi,h=>by
  simp only [ElsAt] at h
  have:=ElsAt.at_ r (cs.drop 6) i (by simpa using hi) h.2
  rw [List.drop_drop,show 6+i*6=(i+1)*6 by omega] at this
  simpa using this
theorem ElsAt.app:∀ (l:List Tx) (x:Tx) (cs ds:List V),cs.length=l.length*6->ElsAt K H l cs->ExpAt K H x (ds.take 6)->ElsAt K H (l++[x]) (cs++ds)
 | [],x,cs,ds,hl,_,hx=>by
  have:cs=[]:=List.eq_nil_of_length_eq_zero (by simpa using hl)
  subst this
  simp only [List.nil_append,ElsAt]
  exact ⟨hx,trivial⟩
 | y :: r,x,cs,ds,hl,h,hx=>by
  simp only [List.length_cons] at hl
  simp only [ElsAt] at h
  simp only [List.cons_append,ElsAt]
  refine ⟨?_,?_⟩
  ·rw [List.take_append_of_le_length (by omega)];exact h.1
  ·rw [List.drop_append_of_le_length (by omega)]
   exact ElsAt.app r x _ ds (by rw [List.length_drop];omega) h.2 hx
theorem ElsAt.more:∀ (l:List Tx) (cs ds:List V),l.length*6<=cs.length->(ElsAt K H l (cs++ds) ↔ ElsAt K H l cs)
 | [],cs,ds,_=>by simp only [ElsAt]
 | y :: r,cs,ds,hl=>by
  simp only [List.length_cons] at hl
  simp only [ElsAt]
  rw [List.take_append_of_le_length (by omega),List.drop_append_of_le_length (by omega),ElsAt.more r _ ds (by rw [List.length_drop];omega)]
theorem ElsAt.take {l:List Tx} {cs:List V} {n:Nat} (hn:l.length*6<=n) (hc:n<=cs.length):ElsAt K H l cs ↔ ElsAt K H l (cs.take n):=by
 conv=>lhs;rw [<- List.take_append_drop n cs]
 exact ElsAt.more l _ _ (by rw [List.length_take];omega)
theorem ElsAt.drop:∀ (k:Nat) (l:List Tx) (cs:List V),ElsAt K H l cs->ElsAt K H (l.drop k) (cs.drop (k*6))
 | 0,l,cs,h=>by simpa using h
 | k+1,[],cs,h=>by simp only [List.drop_nil,ElsAt]
 | k+1,x :: r,cs,h=>by
  simp only [ElsAt] at h
  have:=ElsAt.drop k r (cs.drop 6) h.2
  rw [List.drop_drop,show 6+k*6=(k+1)*6 by omega] at this
  simpa using this
theorem SliceOf.len {z n:Nat} {v:V} {P:List V->Prop} (h:SliceOf K H z n v P) (e:TypeId):lenV v (some (.slice e))=some (.int .i64 n):=by
 rcases h with ⟨rfl | rfl,rfl⟩ | ⟨b,off,cap,e,ro,cells,rfl,_⟩<;>rfl
theorem SliceOf.cells {z n:Nat} {v:V} {P:List V->Prop} (h:SliceOf K H z n v P):cellsV v=[v]:=by
 rcases h with ⟨rfl | rfl,rfl⟩ | ⟨b,off,cap,e,ro,cells,rfl,_⟩<;>rfl
theorem SliceOf.one {z n:Nat} {v:V} {P:List V->Prop} (h:SliceOf K H z n v P):oneV v=true:=by
 rcases h with ⟨rfl | rfl,rfl⟩ | ⟨b,off,cap,e,ro,cells,rfl,_⟩<;>rfl
theorem SliceOf.eqv {z n:Nat} {v:V} {P:List V->Prop} (h:SliceOf K H z n v P):eqV v v=true:=by
 rcases h with ⟨rfl | rfl,rfl⟩ | ⟨b,off,cap,e,ro,cells,rfl,_⟩<;>simp [eqV]
theorem ExpAt.len:∀ {t:Tx} {cs:List V},ExpAt K H t cs->cs.length=6
 | .ex ..,cs,h=>by simp only [ExpAt] at h;obtain ⟨_,_,_,rfl,_⟩:=h;rfl
 | .st ..,cs,h=>by simp only [ExpAt] at h;obtain ⟨_,_,_,rfl,_⟩:=h;rfl
theorem ExpAt.ones:∀ {t:Tx} {cs:List V},ExpAt K H t cs->cs.all oneV=true
 | .ex ..,cs,h=>by simp only [ExpAt] at h;obtain ⟨vp,vq,vb,rfl,h1,h2,h3⟩:=h;simp [h1.one,h2.one,h3.one,one_int,one_str]
 | .st ..,cs,h=>by simp only [ExpAt] at h;obtain ⟨vp,vq,vb,rfl,h1,h2,h3⟩:=h;simp [h1.one,h2.one,h3.one,one_int,one_str]
theorem ExpAt.six {t:Tx} {cs:List V} (h:ExpAt K H t cs):∃ c0 c1 c2 c3 c4 c5,cs=[c0,c1,c2,c3,c4,c5]/\oneV c0=true/\oneV c1=true/\oneV c2=true/\oneV c3=true/\oneV c4=true/\oneV c5=true:=by
 have h1:=h.len
 have h2:=h.ones
 match cs,h1 with
 | [c0,c1,c2,c3,c4,c5],_ =>
  simp only [List.all_cons,List.all_nil,Bool.and_true,Bool.and_eq_true] at h2
  exact ⟨c0,c1,c2,c3,c4,c5,rfl,h2⟩
theorem SliceOf.row {z n i:Nat} {v:V} {P:List V->Prop} (h:SliceOf K H z n v P) (hi:i < n):∃ b off cap e ro cells,v = .sl b off n cap z/\H.get b=some (.row e z ro cells)/\K b/\b < H.next/\off % z=0/\off+n*z<=cells.length/\P (cells.drop off):=by
 rcases h with ⟨_,rfl⟩ | h
 ·omega
 ·obtain ⟨b,off,cap,e,ro,cells,h1,h2,h3,h4,h5,h6,h7,h8⟩:=h
  exact ⟨b,off,cap,e,ro,cells,h1,h2,h3,h4,h5,h6,h7⟩
theorem SliceOf.of_slAt {z n:Nat} {v:V} {e:TypeId} {l:List V} {P:List V->Prop} (h:SlAt H e z v n l) (hk:∀ b∈rowsOf v,K b/\b < H.next) (hP:∀ cs,n*z<=cs.length->cs.take (n*z)=l->P cs):SliceOf K H z n v P:=by
 cases h with
 | nil=>exact .inl ⟨.inl rfl,rfl⟩
 | row b n cs hg hl =>
  have:=hk b (by simp [rowsOf])
  exact .inr ⟨b,0,none,e,false,cs,rfl,hg,this.1,this.2,by simp,by simpa using hl,by simpa using hP cs hl rfl,fun c hc=>by cases hc⟩
theorem TreesAt.of_slAt {n:Nat} {v:V} {e:TypeId} {l:List V} {ts:List Tx} (h:SlAt H e 6 v n l) (hk:∀ b∈rowsOf v,K b/\b < H.next) (hn:ts.length=n) (hP:ElsAt K H ts l):TreesAt K H ts v:=by
 subst hn
 exact SliceOf.of_slAt h hk fun cs h1 h2=>by rw [ElsAt.take (Nat.le_refl _) h1,h2];exact hP
theorem StrsAt.of_slAt {n:Nat} {v:V} {e:TypeId} {ts:List (List UInt8)} (h:SlAt H e 1 v n (ts.map .str)) (hk:∀ b∈rowsOf v,K b/\b < H.next) (hn:ts.length=n):StrsAt K H ts v:=by
 subst hn
 exact SliceOf.of_slAt h hk fun cs h1 h2=>by rw [Nat.mul_one] at h2;exact h2
end
abbrev since (H0 H:Hp):Nat->Prop:=fun x=>H0.next<=x/\x < H.next
theorem app_flush' {H H' : Hp} {e:TypeId} {z n:Nat} {s s' : V} {l:List V} (hs:H.stale=[]) (hS:SlAt H' e z s' n l) (hA:AppR H s H' s') :
  SlAt H'.flush e z s' n l/\(∀ c,c < H.next->c∉rowsOf s->H'.flush.get c=H.get c)/\H'.flush.stale=[]/\H.next<=H'.flush.next/\(∀ r∈rowsOf s',r < H'.flush.next/\(r∈rowsOf s\/H.next<=r)):=by
 refine ⟨hS.of_get fun b hb=>?_,fun c hc hr=>?_,Hp.stale_flush _,by rw [Hp.next_flush];exact hA.le,fun r hr=>?_⟩
 ·rw [Hp.get_flush,if_neg (hA.new b hb).1]
 ·have:=hA.keep c hc hr (by simp [hs])
  rw [Hp.get_flush,if_neg this.2]
  exact this.1
 ·have:=hA.new r hr
  rw [Hp.next_flush]
  exact ⟨this.2.1,this.2.2⟩
abbrev Kv (H0:Hp) (R:Nat->Prop) (v:V):Nat->Prop:=fun x=>H0.next<=x/\¬ R x/\x∉rowsOf v
theorem SlAt.own {H:Hp} {e:TypeId} {z n:Nat} {v:V} {l:List V} (h:SlAt H e z v n l):∀ b∈rowsOf v,∃ cs,H.get b=some (.row e z false cs):=by
 cases h with
 | nil=>intro b hb;simp [rowsOf] at hb
 | row b n cs hg hl=>intro c hc;simp [rowsOf] at hc;subst hc;exact ⟨_,hg⟩
structure Gro (H0 H:Hp) (R:Nat->Prop) (e:TypeId) (v:V) (ts:List Tx):Prop where
 st:H.stale=[]
 le:H0.next<=H.next
 sl:∃ l,SlAt H e 6 v ts.length l/\ElsAt (Kv H0 R v) H ts l
 rows:∀ b∈rowsOf v,H0.next<=b/\b < H.next/\¬ R b
theorem Gro.nil {H0 H:Hp} {R:Nat->Prop} {e:TypeId} (hs:H.stale=[]) (hl:H0.next<=H.next):Gro H0 H R e .nils [] :=
 ⟨hs,hl,⟨[],.nil,trivial⟩,fun b hb=>by simp [rowsOf] at hb⟩
theorem Gro.of_get {H0 H H' : Hp} {R:Nat->Prop} {e:TypeId} {v:V} {ts:List Tx} (h:Gro H0 H R e v ts) (hs:H'.stale=[]) (hl:H.next<=H'.next) (hg:∀ b,H0.next<=b->b < H.next->¬ R b->H'.get b=H.get b):Gro H0 H' R e v ts:=by
 obtain ⟨h1,h2,⟨l,h3,h4⟩,h5⟩:=h
 refine ⟨hs,by omega,⟨l,h3.of_get fun b hb=>?_,ElsAt.mono ⟨fun b hb hx=>hb,fun b hb hx=>hg b hb.1 hx hb.2.1,hl⟩ _ _ h4⟩,fun b hb=>?_⟩
 ·have:=h5 b hb;exact hg b this.1 this.2.1 this.2.2
 ·have:=h5 b hb;exact ⟨this.1,by omega,this.2.2⟩
theorem Gro.step {H0 H H2 Hb H3 H4:Hp} {X R:Nat->Prop} {e:TypeId} {v v' : V} {ts:List Tx} {t:Tx} {l ds:List V} (hG:Gro H0 H R e v ts) (hsl:SlAt H e 6 v ts.length l) (hel:ElsAt (Kv H0 R v) H ts l)
  (hRl:∀ b,R b->b < H.next) (hX2:Ext X H H2) (hXo:∀ b,H0.next<=b->¬ R b->¬ X b) (hT:ExpAt (since H H2) H2 t ds) (hS:SlAt H3 e 6 v' (ts.length+1) (l++ds)) (hb:Hb=H2\/Hb=H2.bump) (hA:AppR Hb v H3 v')
  (hs4:H4.stale=[]) (hn4:H3.next<=H4.next) (hg:∀ b,¬ R b->H4.get b=H3.flush.get b):Gro H0 H4 R e v' (ts++[t])/\(∀ b,b < H2.next->¬ R b->b∉rowsOf v->H4.get b=H2.get b)/\Stays (Kv H0 R v) (Kv H0 R v') H H4:=by
 have s2:=hX2.st
 have hbs:Hb.stale=[]:=by rcases hb with rfl | rfl<;>exact s2
 have hbn:H2.next<=Hb.next:=by
  rcases hb with rfl | rfl
  ·exact Nat.le_refl _
  ·exact Nat.le_succ _
 have hbg:∀ c,Hb.get c=H2.get c:=fun c=>by rcases hb with rfl | rfl<;>rfl
 obtain ⟨k1,k2,k3,k4,k5⟩:=app_flush' hbs hS hA
 have hle:=hX2.le
 have h02:=hG.le
 rw [Hp.next_flush] at k4 k5
 have keep:∀ b,b < H2.next->¬ R b->b∉rowsOf v->H4.get b=H2.get b:=fun b hb hR hr=>by
  rw [hg b hR,k2 b (by omega) hr,hbg]
 have hnew:∀ b∈rowsOf v',H0.next<=b/\b < H4.next/\¬ R b:=fun b hb=>by
  obtain ⟨g1,g2⟩:=k5 b hb
  rcases g2 with g2 | g2
  ·have:=hG.rows b g2;exact ⟨this.1,by omega,this.2.2⟩
  ·exact ⟨by omega,by omega,fun h=>by have:=hRl b h;omega⟩
 have hdl:=hT.len
 have hll:=hsl.len
 have st1:Stays (Kv H0 R v) (Kv H0 R v') H H4:=by
  refine ⟨fun b hb hx=>⟨hb.1,hb.2.1,fun h=>?_⟩,fun b hb hx=>?_,by omega⟩
  ·rcases (k5 b h).2 with g | g
   ·exact hb.2.2 g
   ·omega
  ·rw [keep b (by omega) hb.2.1 hb.2.2]
   exact hX2.get b hx (hXo b hb.1 hb.2.1)
 refine ⟨⟨hs4,by omega,⟨l++ds,?_,?_⟩,hnew⟩,keep,st1⟩
 ·rw [List.length_append]
  exact k1.of_get fun b hb=>hg b (hnew b hb).2.2
 ·have hr:∀ b,H.next<=b->b∉rowsOf v:=fun b hb h=>by have:=(hG.rows b h).2.1;omega
  have hRn:∀ b,H.next<=b->¬ R b:=fun b hb h=>by have:=hRl b h;omega
  have st2:Stays (since H H2) (Kv H0 R v') H2 H4:=by
   refine ⟨fun b hb hx=>⟨by omega,hRn b hb.1,fun h=>?_⟩,fun b hb hx=>keep b hx (hRn b hb.1) (hr b hb.1),by omega⟩
   rcases (k5 b h).2 with g | g
   ·exact hr b hb.1 g
   ·omega
  refine ElsAt.app ts t l ds hll (ElsAt.mono st1 _ _ hel) ?_
  rw [List.take_of_length_le (by omega)]
  exact ExpAt.mono st2 _ _ hT
structure SGro (H0 H:Hp) (R:Nat->Prop) (e:TypeId) (v:V) (ps:List (List UInt8)):Prop where
 st:H.stale=[]
 le:H0.next<=H.next
 sl:SlAt H e 1 v ps.length (ps.map .str)
 rows:∀ b∈rowsOf v,H0.next<=b/\b < H.next/\¬ R b
theorem SGro.step {H0 H H2 Hb H3 H4:Hp} {X R:Nat->Prop} {e:TypeId} {v v' : V} {ps:List (List UInt8)} {s:List UInt8} (hG:SGro H0 H R e v ps)
  (hRl:∀ b,R b->b < H.next) (hX2:Ext X H H2) (hS:SlAt H3 e 1 v' (ps.length+1) (ps.map .str++[.str s])) (hb:Hb=H2\/Hb=H2.bump) (hA:AppR Hb v H3 v')
  (hs4:H4.stale=[]) (hn4:H3.next<=H4.next) (hg:∀ b,¬ R b->H4.get b=H3.flush.get b):SGro H0 H4 R e v' (ps++[s])/\(∀ b,b < H2.next->¬ R b->b∉rowsOf v->H4.get b=H2.get b):=by
 have s2:=hX2.st
 have hbs:Hb.stale=[]:=by rcases hb with rfl | rfl<;>exact s2
 have hbn:H2.next<=Hb.next:=by
  rcases hb with rfl | rfl
  ·exact Nat.le_refl _
  ·exact Nat.le_succ _
 have hbg:∀ c,Hb.get c=H2.get c:=fun c=>by rcases hb with rfl | rfl<;>rfl
 obtain ⟨k1,k2,k3,k4,k5⟩:=app_flush' hbs hS hA
 have hle:=hX2.le
 have h02:=hG.le
 rw [Hp.next_flush] at k4 k5
 have keep:∀ b,b < H2.next->¬ R b->b∉rowsOf v->H4.get b=H2.get b:=fun b hb hR hr=>by
  rw [hg b hR,k2 b (by omega) hr,hbg]
 have hnew:∀ b∈rowsOf v',H0.next<=b/\b < H4.next/\¬ R b:=fun b hb=>by
  obtain ⟨g1,g2⟩:=k5 b hb
  rcases g2 with g2 | g2
  ·have:=hG.rows b g2;exact ⟨this.1,by omega,this.2.2⟩
  ·exact ⟨by omega,by omega,fun h=>by have:=hRl b h;omega⟩
 refine ⟨⟨hs4,by omega,?_,hnew⟩,keep⟩
 rw [List.length_append,List.map_append]
 exact k1.of_get fun b hb=>hg b (hnew b hb).2.2
theorem SGro.of_get {H0 H H' : Hp} {R:Nat->Prop} {e:TypeId} {v:V} {ps:List (List UInt8)} (h:SGro H0 H R e v ps) (hs:H'.stale=[]) (hl:H.next<=H'.next) (hg:∀ b,H0.next<=b->b < H.next->¬ R b->H'.get b=H.get b):SGro H0 H' R e v ps:=by
 obtain ⟨h1,h2,h3,h5⟩:=h
 refine ⟨hs,by omega,h3.of_get fun b hb=>?_,fun b hb=>?_⟩
 ·have:=h5 b hb;exact hg b this.1 this.2.1 this.2.2
 ·have:=h5 b hb;exact ⟨this.1,by omega,this.2.2⟩
theorem Gro.trees {H0 H H' : Hp} {R K:Nat->Prop} {e:TypeId} {v:V} {ts:List Tx} (h:Gro H0 H R e v ts) (hg:∀ b,H0.next<=b->b < H.next->¬ R b->K b/\H'.get b=H.get b) (hl:H.next<=H'.next):TreesAt K H' ts v:=by
 obtain ⟨h1,h2,⟨l,h3,h4⟩,h5⟩:=h
 refine TreesAt.of_slAt (h3.of_get fun b hb=>?_) (fun b hb=>?_) rfl (ElsAt.mono ⟨fun b hb hx=>(hg b hb.1 hx hb.2.1).1,fun b hb hx=>(hg b hb.1 hx hb.2.1).2,hl⟩ _ _ h4)
 ·have:=h5 b hb;exact (hg b this.1 this.2.1 this.2.2).2
 ·have:=h5 b hb;exact ⟨(hg b this.1 this.2.1 this.2.2).1,by omega⟩
theorem StrsAt.at_ {K:Nat->Prop} {H:Hp} {l:List (List UInt8)} {v:V} (h:StrsAt K H l v) {i:Nat} (hi:i < l.length):∃ b off cap e ro cells,v = .sl b off l.length cap 1/\H.get b=some (.row e 1 ro cells)/\K b/\b < H.next/\off+l.length<=cells.length/\cells[off+i]? = some (.str l[i]):=by
 obtain ⟨b,off,cap,e,ro,cells,h1,h2,h3,h4,h5,h6,h7⟩:=h.row hi
 refine ⟨b,off,cap,e,ro,cells,h1,h2,h3,h4,by omega,?_⟩
 have:=congrArg (fun x=>x[i]?) h7
 simp only [List.getElem?_take,hi,if_true,List.getElem?_drop,List.getElem?_map,List.getElem?_eq_getElem hi,Option.map_some] at this
 exact this
theorem TreesAt.at_ {K:Nat->Prop} {H:Hp} {l:List Tx} {v:V} (h:TreesAt K H l v) {i:Nat} (hi:i < l.length):∃ b off cap e ro cells d0 d1 d2 d3 d4 d5,v = .sl b off l.length cap 6/\H.get b=some (.row e 6 ro cells)/\K b/\b < H.next/\off % 6=0/\off+l.length*6<=cells.length/\(cells.drop (off+i*6)).take 6=[d0,d1,d2,d3,d4,d5]/\ExpAt K H l[i] [d0,d1,d2,d3,d4,d5] /\
  oneV d0=true/\oneV d1=true/\oneV d2=true/\oneV d3=true/\oneV d4=true/\oneV d5=true:=by
 obtain ⟨b,off,cap,e,ro,cells,h1,h2,h3,h4,h5,h6,h7⟩:=h.row hi
 have:=ElsAt.at_ l _ i hi h7
 rw [List.drop_drop] at this
 obtain ⟨d0,d1,d2,d3,d4,d5,e1,e2⟩:=this.six
 rw [e1] at this
 exact ⟨b,off,cap,e,ro,cells,d0,d1,d2,d3,d4,d5,h1,h2,h3,h4,h5,h6,e1,this,e2⟩
end Go.AM
set_option maxRecDepth 100000
namespace Go.AM.YtiolgkhfpnidfaaT
open Go Go.AM Go.Proofs
structure Sl where
 uses:Nat
 used:Bool
 o:List V
def Sl.cs (s:Sl):List V:=.int .u32 s.uses :: .bool s.used :: s.o
structure Ar where
 slots:List Sl
 free:List Nat
 quotas:List Int
 many:List Int
structure ArAt (R:Nat->Prop) (H:Hp) (a:Nat) (A:Ar):Prop where
 st:H.stale=[]
 row:∃ vs vf vq vm,H.get a=some (.row 98 4 false [vs,vf,vq,vm])/\SlAt H 100 16 vs A.slots.length (A.slots.flatMap Sl.cs)/\SlAt H 90 1 vf A.free.length (A.free.map fun n=>.int .u32 (n:Nat))/\SlAt H 3 1 vq A.quotas.length (A.quotas.map (.int .i64))/\SlAt H 3 1 vm A.many.length (A.many.map (.int .i64)) /\
  (∀ b,b∈rowsOf vs\/b∈rowsOf vf\/b∈rowsOf vq\/b∈rowsOf vm->R b)/\(∀ b,b∈rowsOf vs->b∉rowsOf vf/\b∉rowsOf vq/\b∉rowsOf vm)/\(∀ b,b∈rowsOf vf->b∉rowsOf vq/\b∉rowsOf vm)/\(∀ b,b∈rowsOf vq->b∉rowsOf vm)
 lt:a < H.next
 rl:∀ b,R b->b < H.next
 ra:¬ R a
 o14:∀ s∈A.slots,s.o.length=14
 qm:A.quotas.length=A.many.length
 big:A.slots.length<=100000/\A.free.length<=100000/\A.quotas.length<=1000
theorem or_of {n u:Nat} (hn:n < 4294967296) (hu:u < 4294967296):bits .or .u64 ((u:Int)*4294967296) n=(u:Int)*4294967296+n:=by
 have h1:(BitVec.ofInt 64 ((u:Int)*4294967296))=BitVec.ofNat 64 (u*4294967296):=by
  rw [show ((u:Int)*4294967296)=((u*4294967296:Nat):Int) by omega,BitVec.ofInt_natCast]
 have h2:(BitVec.ofInt 64 (n:Int))=BitVec.ofNat 64 n:=BitVec.ofInt_natCast _ _
 have h3:u*4294967296 ||| n=u*4294967296+n:=by
  rw [show u*4294967296=u <<< 32 by rw [Nat.shiftLeft_eq]]
  exact (Nat.shiftLeft_add_eq_or_of_lt (by omega) u).symm
 unfold bits
 simp only [IntKind.bits]
 rw [h1,h2]
 show IntKind.u64.wrap ((BitVec.ofNat 64 (u*4294967296) ||| BitVec.ofNat 64 n:BitVec 64).toNat:Int)=_
 rw [BitVec.toNat_or,BitVec.toNat_ofNat,BitVec.toNat_ofNat,Nat.mod_eq_of_lt (by omega),Nat.mod_eq_of_lt (by omega),h3]
 simp [IntKind.wrap,IntKind.bits,IntKind.signed]
 omega
theorem slot_ok {H:Hp} (hs:H.stale=[]) (r:Nat) (hr:r < 18446744073709551616):WF tab 46 [.int .u64 r] H fun w H'=>w = .int .u32 ((r % 4294967296:Nat):Int)/\H' = H:=by
 refine wf46 (wp_sound _ ?_)
 simp [hs]
 rw [wr_eq]
 simp [IntKind.wrap,IntKind.bits,IntKind.signed]
theorem uses_ok {H:Hp} (hs:H.stale=[]) (r:Nat) (hr:r < 18446744073709551616):WF tab 42 [.int .u64 r] H fun w H'=>w = .int .u32 ((r / 4294967296:Nat):Int)/\H' = H:=by
 refine wf42 (wp_sound _ ?_)
 simp [hs]
 rw [Int.fdiv_eq_ediv_of_nonneg _ (by omega),wr_u32 (by omega) (by omega)]
theorem of_ok {H:Hp} (hs:H.stale=[]) (n u:Nat) (hn:n < 4294967296) (hu:u < 4294967296):WF tab 41 [.int .u32 n,.int .u32 u] H fun w H'=>w = .int .u64 ((u*4294967296+n:Nat):Int)/\H' = H:=by
 refine wf41 (wp_sound _ ?_)
 simp [hs]
 rw [wr_u64 (n:=(u:Int)) (by omega) (by omega),wr_u64 (n:=(n:Int)) (by omega) (by omega),wr_u64 (n:=(u:Int)*4294967296) (by omega) (by omega)]
 exact or_of hn hu
theorem new_ok {H:Hp} (hs:H.stale=[]):WF tab 17 [] H fun w H'=>w = .ptr H.next 0/\ArAt (fun _=>False) H' H.next ⟨[],[],[],[]⟩/\Ext noX H H':=by
 refine wf17 (wp_sound _ ?_)
 simp [hs]
 refine ⟨⟨hs,⟨_,_,_,_,get_new_self _ _,.nil,.nil,.nil,.nil,by simp [rowsOf],by simp [rowsOf],by simp [rowsOf],by simp [rowsOf]⟩,by simp,fun _ h=>h.elim,fun h=>h,fun s h=>(by cases h),rfl,by decide⟩,Ext.new hs _⟩
theorem ArAt.of_get {R:Nat->Prop} {H H' : Hp} {a:Nat} {A:Ar} (h:ArAt R H a A) (hs:H'.stale=[]) (hl:H.next<=H'.next) (hg:∀ b,b=a\/R b->H'.get b=H.get b):ArAt R H' a A:=by
 obtain ⟨h1,⟨vs,vf,vq,vm,h2,h3,h4,h5,h6,h7,h8⟩,h9,h10,h11,h12,h13,h14⟩:=h
 exact ⟨hs,⟨vs,vf,vq,vm,by rw [hg a (.inl rfl)];exact h2,h3.of_get fun b hb=>hg b (.inr (h7 b (.inl hb))),h4.of_get fun b hb=>hg b (.inr (h7 b (.inr (.inl hb)))),h5.of_get fun b hb=>hg b (.inr (h7 b (.inr (.inr (.inl hb))))),h6.of_get fun b hb=>hg b (.inr (h7 b (.inr (.inr (.inr hb))))),h7,h8⟩,by omega,fun b hb=>by have:=h10 b hb;omega,h11,h12,h13,h14⟩
theorem ArAt.ext {R X:Nat->Prop} {H H' : Hp} {a:Nat} {A:Ar} (h:ArAt R H a A) (hX:Ext X H H') (hx:∀ b,b=a\/R b->¬ X b):ArAt R H' a A :=
 h.of_get hX.st hX.le fun b hb=>hX.get b (hb.elim (fun e=>e ▸ h.lt) (h.rl b)) (hx b hb)
theorem has_ok {R:Nat->Prop} {H:Hp} {a:Nat} {A:Ar} (h:ArAt R H a A) (n:Int) (hn : -9223372036854775808<=n/\n<=9223372036854775807):WF tab 45 [.ptr a 0,.int .i64 n] H fun w H'=>w = .bool (decide (0<=n/\n < A.quotas.length))/\H' = H:=by
 refine wf45 (wp_sound _ ?_)
 have hs:=h.st
 obtain ⟨vs,vf,vq,vm,g0,gs,gf,gq,gm,-⟩:=h.row
 have l1:=gq.lenV 3
 have c1:=gq.one
 by_cases h0:0<=n
 ·simp [hs,g0,h0,l1,c1]
 ·simp [hs,g0,h0,l1]
theorem slots_at {L:List Sl} (ho:∀ s∈L,s.o.length=14) {n:Nat} {s:Sl} (hn:L[n]? = some s):(L.flatMap Sl.cs)[n*16]? = some (.int .u32 s.uses)/\(L.flatMap Sl.cs)[n*16+1]? = some (.bool s.used)/\((L.flatMap Sl.cs).drop (n*16+2)).take 14=s.o/\(∀ i,i < 14->(L.flatMap Sl.cs)[n*16+2+i]? = s.o[i]?)/\n*16+16<=(L.flatMap Sl.cs).length:=by
 induction L generalizing n with
 | nil=>simp at hn
 | cons x r ih =>
  have hx:=ho x (by simp)
  have hl:x.cs.length=16:=by simp [Sl.cs,hx]
  cases n with
  | zero =>
   simp at hn;subst hn
   refine ⟨by simp [Sl.cs],by simp [Sl.cs],?_,fun i hi=>?_,by simp [hl]⟩
   ·simp [Sl.cs]
    rw [List.take_append_of_le_length (by omega),List.take_of_length_le (by omega)]
   ·simp [Sl.cs]
    rw [show 2+i=i+1+1 by omega]
    simp
    rw [List.getElem?_append_left (by omega)]
  | succ n =>
   simp at hn
   obtain ⟨h1,h2,h3,h4,h5⟩:=ih (fun s hs=>ho s (by simp [hs])) hn
   have hd:∀ k,((x :: r).flatMap Sl.cs)[(n+1)*16+k]? = (r.flatMap Sl.cs)[n*16+k]?:=fun k=>by
    rw [List.flatMap_cons,List.getElem?_append_right (by omega),hl];congr 1;omega
   refine ⟨?_,?_,?_,?_,?_⟩
   ·exact (hd 0).trans h1
   ·exact (hd 1).trans h2
   ·rw [List.flatMap_cons,show (n+1)*16+2=x.cs.length+(n*16+2) by omega,List.drop_append,List.drop_eq_nil_of_le (by omega)]
    simpa using h3
   ·intro i hi
    have:=hd (2+i)
    rw [<- Nat.add_assoc] at this
    rw [this,<- Nat.add_assoc];exact h4 i hi
   ·rw [List.flatMap_cons,List.length_append];omega
end Go.AM.YtiolgkhfpnidfaaT
set_option maxRecDepth 100000
namespace Go.AM.YtiolgkhfpnidfaaT
open Go Go.AM Go.Proofs
def slotN (r:Nat):Nat:=r % 4294967296
def usesN (r:Nat):Nat:=r / 4294967296
def liveA (A:Ar) (r:Nat):Bool:=match A.slots[slotN r]? with | some s=>s.used&&s.uses==usesN r | none=>false
structure SlotAt (R:Nat->Prop) (H:Hp) (a:Nat) (A:Ar) (n:Nat) (s:Sl) (b:Nat) (cs:List V):Prop where
 row:∃ vf vq vm,H.get a=some (.row 98 4 false [.sl b 0 A.slots.length none 16,vf,vq,vm])
 get:H.get b=some (.row 100 16 false cs)
 le:A.slots.length*16<=cs.length
 eq:cs.take (A.slots.length*16)=A.slots.flatMap Sl.cs
 rb:R b
 lt:n < A.slots.length
 c0:cs[n*16]? = some (.int .u32 s.uses)
 c1:cs[n*16+1]? = some (.bool s.used)
 co:∀ i,i < 14->cs[n*16+2+i]? = s.o[i]?
 ol:s.o.length=14
theorem ArAt.slot {R:Nat->Prop} {H:Hp} {a:Nat} {A:Ar} (h:ArAt R H a A) {n:Nat} {s:Sl} (hn:A.slots[n]? = some s):∃ b cs,SlotAt R H a A n s b cs:=by
 obtain ⟨vs,vf,vq,vm,g0,gs,gf,gq,gm,hR,-⟩:=h.row
 have hlt:=(List.getElem?_eq_some_iff.1 hn).1
 obtain ⟨h1,h2,h3,h4,h5⟩:=slots_at h.o14 hn
 have hmem:s∈A.slots:=List.mem_of_getElem? hn
 generalize hL:A.slots.flatMap Sl.cs=L at *
 generalize hk:A.slots.length=k at *
 cases gs with
 | nil=>omega
 | row b k cs hg hle =>
  have tk:∀ j,j < k*16->cs[j]? = (cs.take (k*16))[j]?:=fun j hj=>by rw [List.getElem?_take,if_pos hj]
  exact ⟨b,cs,⟨vf,vq,vm,by rw [hk];exact g0⟩,hg,by rw [hk];exact hle,by rw [hk,hL],hR b (.inl (by simp [rowsOf])),by omega,by rw [tk _ (by omega)];exact h1,by rw [tk _ (by omega)];exact h2,fun i hi=>by rw [tk _ (by omega)];exact h4 i hi,h.o14 s hmem⟩
theorem slot_ok' {H:Hp} (hs:H.stale=[]) (r:Nat) (hr:r < 18446744073709551616):WF tab 46 [.int .u64 r] H fun w H'=>w = .int .u32 (slotN r:Nat)/\H' = H:=slot_ok hs r hr
theorem uses_ok' {H:Hp} (hs:H.stale=[]) (r:Nat) (hr:r < 18446744073709551616):WF tab 42 [.int .u64 r] H fun w H'=>w = .int .u32 (usesN r:Nat)/\H' = H:=uses_ok hs r hr
theorem slotN_lt (r:Nat):slotN r < 4294967296:=Nat.mod_lt _ (by omega)
theorem get_nil {R:Nat->Prop} {H:Hp} {a:Nat} {A:Ar} (h:ArAt R H a A) (r:Nat) (hr:r < 18446744073709551616) (hl:liveA A r=false):WF tab 21 [.ptr a 0,.int .u64 r] H fun w H'=>w = .nilp/\Ext noX H H':=by
 refine wf21 (wp_sound _ ?_)
 have hs:=h.st
 have hlt:=slotN_lt r
 have k1:=slot_ok' hs r hr
 have k2:=fun (H:Hp) hs=>uses_ok' (H:=H) hs r hr
 unfold liveA at hl
 generalize slotN r=n at *
 generalize usesN r=u at *
 simp [hs]
 refine k1.mono ?_
 rintro _ H ⟨rfl,rfl⟩
 have hw:wr .i64 (n:Int)=(n:Int):=by rw [wr_i64 (by omega) (by omega)]
 by_cases hn:n < A.slots.length
 ·have hn' : ¬ ((A.slots.length:Int)<=(n:Int)):=by omega
  have hn2:(n:Int) < (A.slots.length:Int):=by omega
  obtain ⟨b,cs,S⟩:=h.slot (List.getElem?_eq_getElem hn)
  rw [List.getElem?_eq_getElem hn] at hl
  generalize A.slots[n]=s at *
  obtain ⟨vf,vq,vm,g0⟩:=S.row
  have g1:=S.get;have c0:=S.c0;have c1:=S.c1
  generalize A.slots.length=k at *
  by_cases hu:s.used=true
  ·rw [hu] at c1
   have hne:((s.uses:Int) != (u:Int))=true:=by
    simp [hu] at hl ⊢
    omega
   simp [hs,hw,g0,g1,hn,hn',hn2,c0,c1]
   refine (k2 H hs).mono ?_
   rintro _ H' ⟨rfl,rfl⟩
   simp [hs,hw,g0,g1,hn,hn',hn2,c0,c1,hne]
   exact ⟨by simp [eqV],by simp [eqV],(Ext.refl hs).bump⟩
  ·have hu:s.used=false:=by simpa using hu
   rw [hu] at c1
   simp [hs,hw,g0,g1,hn,hn',hn2,c0,c1]
   exact Ext.refl hs
 ·have hn' : (A.slots.length:Int)<=(n:Int):=by omega
  obtain ⟨vs,vf,vq,vm,g0,gs,gf,gq,gm,hR,-⟩:=h.row
  have l1:=gs.lenV 100;have c1:=gs.one;have c2:=gs.cells
  simp [hs,hw,g0,l1,c1,c2,hn']
  exact Ext.refl hs
theorem get_ptr {R:Nat->Prop} {H:Hp} {a:Nat} {A:Ar} (h:ArAt R H a A) (r:Nat) (hr:r < 18446744073709551616) (hl:liveA A r=true):WF tab 21 [.ptr a 0,.int .u64 r] H fun w H'=>∃ b s cs,w = .ptr b (slotN r*16+2)/\A.slots[slotN r]? = some s/\s.used=true/\s.uses=usesN r/\SlotAt R H a A (slotN r) s b cs/\H'.get=H.get/\H'.stale=[]/\H.next<=H'.next:=by
 refine wf21 (wp_sound _ ?_)
 have hs:=h.st
 have hlt:=slotN_lt r
 have k1:=slot_ok' hs r hr
 have k2:=fun (H:Hp) hs=>uses_ok' (H:=H) hs r hr
 unfold liveA at hl
 generalize slotN r=n at *
 generalize usesN r=u at *
 simp [hs]
 refine k1.mono ?_
 rintro _ H ⟨rfl,rfl⟩
 have hw:wr .i64 (n:Int)=(n:Int):=by rw [wr_i64 (by omega) (by omega)]
 obtain ⟨s,hsn⟩:∃ s,A.slots[n]? = some s:=by
  cases hc:A.slots[n]? with
  | some s=>exact ⟨s,rfl⟩
  | none=>rw [hc] at hl;cases hl
 rw [hsn] at hl
 simp only [Bool.and_eq_true,beq_iff_eq] at hl
 have hn:=(List.getElem?_eq_some_iff.1 hsn).1
 have hn' : ¬ ((A.slots.length:Int)<=(n:Int)):=by omega
 have hn2:(n:Int) < (A.slots.length:Int):=by omega
 obtain ⟨b,cs,S⟩:=h.slot hsn
 obtain ⟨vf,vq,vm,g0⟩:=S.row
 have g1:=S.get;have c0:=S.c0;have c1:=S.c1
 rw [hl.1] at c1
 rw [hl.2] at c0
 have hq:∃ b' s' cs',V.ptr b (n*16+2) = .ptr b' (n*16+2)/\A.slots[n]? = some s'/\s'.used=true/\s'.uses=u/\SlotAt R H a A n s' b' cs':=⟨b,s,cs,rfl,hsn,hl.1,hl.2,S⟩
 generalize A.slots.length=k at *
 simp [hs,hw,g0,g1,hn,hn',hn2,c0,c1]
 refine (k2 H hs).mono ?_
 rintro _ H' ⟨rfl,rfl⟩
 simp [hs,hw,g0,g1,hn,hn',hn2,c0,c1]
 exact ⟨by simp [eqV],by simp [eqV],s,hsn,hl.1,hl.2,⟨cs,S⟩,rfl⟩
end Go.AM.YtiolgkhfpnidfaaT
set_option maxRecDepth 100000
namespace Go.AM.YtiolgkhfpnidfaaT
open Go Go.AM Go.Proofs
def Ar.owner (A:Ar) (q:Int):Ar:={ A with quotas:=A.quotas++[max q 0],many:=A.many++[0] }
def Rn (R:Nat->Prop) (H H' : Hp) (b:Nat):Prop:=R b\/H.next<=b/\b < H'.next
def aR (R:Nat->Prop) (a b:Nat):Prop:=b=a\/R b
theorem owner_ok {R:Nat->Prop} {H:Hp} {a:Nat} {A:Ar} (h:ArAt R H a A) (q:Int) (hq : -9223372036854775808<=q/\q<=9223372036854775807) (hb:A.quotas.length < 1000):WF tab 18 [.ptr a 0,.int .i64 q] H fun w H'=>w = .int .i64 A.quotas.length/\ArAt (Rn R H H') H' a (A.owner q)/\Ext (aR R a) H H':=by
 refine wf18 (wp_sound _ ?_)
 have hs:=h.st
 obtain ⟨vs,vf,vq,vm,g0,gs,gf,gq,gm,hR,d1,d2,d3⟩:=h.row
 have s1:=gs.cells;have f1:=gf.cells;have q1:=gq.cells;have m1:=gm.cells
 have s2:=gs.one;have f2:=gf.one;have q2:=gq.one;have m2:=gm.one
 have hlt:=h.lt
 have hmx:(if q < 0 then 0 else q)=max q 0:=by split<;>omega
 have rl:=fun b hb=>h.rl b (hR b hb)
 simp [hs,g0,s1,s2,f1,f2,q1,q2,m1,m2,hmx]
 refine wpD_app1 (H:=H) (e0:=3) (cells:=[.int .i64 (max q 0)]) (by simp [descOf]) ty3 (by decide) (by simp) (by simp) gq (fun b hb=>⟨rl b (.inr (.inr (.inl hb))),by simp [hs]⟩) rfl (by show (A.quotas.length+1)*8<=_;omega) (by omega) (by simp [hs]) fun vq' H1 hS1 hA1=>?_
 have le1:=hA1.le
 have ra:∀ v,(∀ b∈rowsOf v,R b)->a∉rowsOf v:=fun v hv hm=>h.ra (hv a hm)
 have aq:a∉rowsOf vq:=ra vq fun b hb=>hR b (.inr (.inr (.inl hb)))
 have am:a∉rowsOf vm:=ra vm fun b hb=>hR b (.inr (.inr (.inr hb)))
 obtain ⟨ka1,ka2⟩:=hA1.keep a hlt aq (by simp [hs])
 rw [g0] at ka1
 have c1:=hS1.cells;have o1:=hS1.one
 have gm1:SlAt H1.bump 3 1 vm A.many.length (A.many.map (.int .i64)):=gm.of_get fun b hb=>(hA1.keep b (rl b (.inr (.inr (.inr hb)))) (fun hq=>d3 b hq hb) (by simp [hs])).1
 have em:=gm.eqv
 have st1:∀ c∈H1.stale,c∈rowsOf vq:=fun c hc=>(hA1.old c hc).elim (fun h=>by rw [hs] at h;cases h) id
 simp [hs,g0,ka1,ka2,s1,s2,f1,f2,q1,q2,m1,m2,em]
 refine wpD_app1 (H:=H1.bump) (e0:=3) (cells:=[.int .i64 0]) (by simp [descOf]) ty3 (by decide) (by simp) (by simp) gm1 (fun b hb=>⟨by have:=rl b (.inr (.inr (.inr hb)));show b < H1.next+1;omega,fun hc=>d3 b (st1 b hc) hb⟩) rfl (by show (A.many.length+1)*8<=_;have:=h.qm;omega) (by have:=h.qm;omega) (fun c hc=>by have:=rl c (.inr (.inr (.inl (st1 c hc))));show c < H1.next+1;omega) fun vm' H2 hS2 hA2=>?_
 have le2:H1.next+1<=H2.next:=hA2.le
 obtain ⟨kb1,kb2⟩:=hA2.keep a (by show a < H1.next+1;omega) am ka2
 have kb1:=kb1.trans ka1
 have c2:=hS2.cells;have o2:=hS2.one
 simp [hs,g0,ka1,ka2,kb1,kb2,s1,s2,f1,f2,q1,q2,m1,m2,c1,o1,c2,o2]
 have hln:∀ e0,lenV vq' (some (.slice e0))=some (.int .i64 ((A.quotas.length:Int)+1)):=fun e0=>by have:=hS1.lenV e0;simpa using this
 have w1:wr .i64 (A.quotas.length:Int)=(A.quotas.length:Int):=by rw [wr_i64 (by omega) (by omega)]
 have w2:(A.quotas.length:Int)+1-1=A.quotas.length:=by omega
 simp [hln,w1,w2]
 generalize hH5:((H2.bump.flush.put a (.row 98 4 false [vs,vf,vq',vm])).bump.put a (.row 98 4 false [vs,vf,vq',vm'])).bump=H5
 have s5:H5.stale=[]:=by rw [<- hH5];simp
 have n5:H5.next=H2.next+1+1+1:=by rw [<- hH5];simp
 have a5:H5.get a=some (.row 98 4 false [vs,vf,vq',vm']):=by rw [<- hH5];simp
 have g5:∀ b,b≠a->b∉H2.stale->H5.get b=H2.get b:=fun b hb hst=>by
  rw [<- hH5]
  simp [Hp.get_put,two_ne hb,Hp.get_flush,hst]
 have keep:∀ b,b < H.next->b≠a->b∉rowsOf vq->b∉rowsOf vm->H5.get b=H.get b:=fun b hb ha h1 h2=>by
  obtain ⟨e1,e2⟩:=hA1.keep b hb h1 (by simp [hs])
  obtain ⟨e3,e4⟩:=hA2.keep b (by show b < H1.next+1;omega) h2 e2
  rw [g5 b ha e4,e3];exact e1
 have nq:∀ b∈rowsOf vq',(b∈rowsOf vq\/H.next<=b)/\b < H1.next/\b∉rowsOf vm/\H5.get b=H1.get b:=fun b hb=>by
  obtain ⟨e1,e2,e3⟩:=hA1.new b hb
  have hvm:b∉rowsOf vm:=fun hm=>by
   rcases e3 with e3 | e3
   ·exact d3 b e3 hm
   ·have:=rl b (.inr (.inr (.inr hm)));omega
  obtain ⟨e4,e5⟩:=hA2.keep b (by show b < H1.next+1;omega) hvm e1
  have hba:b≠a:=fun e=>by
   rcases e3 with e3 | e3
   ·exact aq (e ▸ e3)
   ·omega
  exact ⟨e3,e2,hvm,by rw [g5 b hba e5];exact e4⟩
 have nm:∀ b∈rowsOf vm',(b∈rowsOf vm\/H1.next+1<=b)/\b < H2.next/\H5.get b=H2.get b:=fun b hb=>by
  obtain ⟨e1,e2,e3⟩:=hA2.new b hb
  have hba:b≠a:=fun e=>by
   rcases e3 with e3 | e3
   ·exact am (e ▸ e3)
   ·have:H1.next+1<=b:=e3;omega
  exact ⟨e3,e2,g5 b hba e1⟩
 refine ⟨⟨s5,⟨vs,vf,vq',vm',a5,gs.of_get fun b hb=>?_,gf.of_get fun b hb=>?_,?_,?_,fun b hb=>?_,fun b hb=>⟨(d1 b hb).1,fun hq=>?_,fun hm=>?_⟩,fun b hb=>⟨fun hq=>?_,fun hm=>?_⟩,fun b hb hm=>?_⟩,by omega,fun b hb=>?_,fun hb=>?_,h.o14,?_,h.big.1,h.big.2.1,?_⟩,s5,by omega,fun b hb hx=>?_⟩
 ·exact keep b (rl b (.inl hb)) (fun e=>h.ra (e ▸ hR b (.inl hb))) (d1 b hb).2.1 (d1 b hb).2.2
 ·exact keep b (rl b (.inr (.inl hb))) (fun e=>h.ra (e ▸ hR b (.inr (.inl hb)))) (d2 b hb).1 (d2 b hb).2
 ·have:=hS1.of_get (H':=H5) fun b hb=>(nq b hb).2.2.2
  simpa [Ar.owner] using this
 ·have:=hS2.of_get (H':=H5) fun b hb=>(nm b hb).2.2
  simpa [Ar.owner] using this
 ·rcases hb with hb | hb | hb | hb
  ·exact .inl (hR b (.inl hb))
  ·exact .inl (hR b (.inr (.inl hb)))
  ·rcases (nq b hb).1 with e | e
   ·exact .inl (hR b (.inr (.inr (.inl e))))
   ·exact .inr ⟨e,by have:=(nq b hb).2.1;omega⟩
  ·rcases (nm b hb).1 with e | e
   ·exact .inl (hR b (.inr (.inr (.inr e))))
   ·exact .inr ⟨by omega,by have:=(nm b hb).2.1;omega⟩
 ·rcases (nq b hq).1 with e | e
  ·exact (d1 b hb).2.1 e
  ·have:=rl b (.inl hb);omega
 ·rcases (nm b hm).1 with e | e
  ·exact (d1 b hb).2.2 e
  ·have:=rl b (.inl hb);omega
 ·rcases (nq b hq).1 with e | e
  ·exact (d2 b hb).1 e
  ·have:=rl b (.inr (.inl hb));omega
 ·rcases (nm b hm).1 with e | e
  ·exact (d2 b hb).2 e
  ·have:=rl b (.inr (.inl hb));omega
 ·have h1:=nq b hb
  rcases (nm b hm).1 with e | e
  ·exact h1.2.2.1 e
  ·omega
 ·rcases hb with hb | hb
  ·have:=h.rl b hb;omega
  ·exact hb.2
 ·rcases hb with hb | hb
  ·exact h.ra hb
  ·omega
 ·simp [Ar.owner,h.qm]
 ·simp [Ar.owner];omega
 ·exact keep b hb (fun e=>hx (.inl e)) (fun hq=>hx (.inr (hR b (.inr (.inr (.inl hq)))))) fun hm=>hx (.inr (hR b (.inr (.inr (.inr hm)))))
end Go.AM.YtiolgkhfpnidfaaT
set_option maxRecDepth 100000
namespace Go.AM.YtiolgkhfpnidfaaT
open Go Go.AM Go.Proofs
def zO:List V:=[.int .u8 0,.int .i64 0,.bool false,.nilm,.int .i64 0,.int .i64 0,.nils,.int .u64 0,.int .u8 0,.int .i64 0,.str [],.int .i64 0,.int .u64 0,.int .i64 0]
def Ar.drop (A:Ar) (n ow:Nat):Ar :=
 { A with slots:=A.slots.set n ⟨((A.slots[n]?).map Sl.uses).getD 0,false,zO⟩,free:=A.free++[n],many:=A.many.set ow ((A.many[ow]?).getD 0-1) }
theorem drop_nil {R:Nat->Prop} {H:Hp} {a:Nat} {A:Ar} (h:ArAt R H a A) (r:Nat) (hr:r < 18446744073709551616) (hl:liveA A r=false):WF tab 20 [.ptr a 0,.int .u64 r] H fun _ H'=>Ext noX H H':=by
 refine wf20 (wp_sound _ ?_)
 have hs:=h.st
 simp [hs]
 refine (get_nil h r hr hl).mono ?_
 rintro _ H1 ⟨rfl,X1⟩
 simp [X1.st]
 exact X1
theorem sl_open {H:Hp} {e:TypeId} {z n:Nat} {v:V} {l:List V} (h:SlAt H e z v n l) (hn:0 < n):∃ b cs,v = .sl b 0 n none z/\H.get b=some (.row e z false cs)/\n*z<=cs.length/\cs.take (n*z)=l:=by
 cases h with
 | nil=>omega
 | row b n cs hg hle=>exact ⟨b,cs,rfl,hg,hle,rfl⟩
theorem flat_at {L:List Sl} (ho:∀ s∈L,s.o.length=14) {q i:Nat} (hi:i < 16):(L.flatMap Sl.cs)[q*16+i]? = (L[q]?).bind fun s=>s.cs[i]?:=by
 cases hq:L[q]? with
 | none =>
  have hl:L.length<=q:=List.getElem?_eq_none_iff.1 hq
  have:(L.flatMap Sl.cs).length=L.length*16:=by
   clear hq hl
   induction L with
   | nil=>rfl
   | cons x r ih=>rw [List.flatMap_cons,List.length_append,ih fun s hs=>ho s (by simp [hs])];simp [Sl.cs,ho x (by simp)];omega
  simp only [Option.bind_none]
  exact List.getElem?_eq_none_iff.2 (by omega)
 | some s =>
  obtain ⟨h1,h2,h3,h4,h5⟩:=slots_at ho hq
  simp only [Option.bind_some]
  match i,hi with
  | 0,_=>exact h1
  | 1,_=>exact h2
  | i+2,hi =>
   have:=h4 i (by omega)
   rw [show q*16+(i+2)=q*16+2+i by omega,this]
   simp [Sl.cs]
theorem flat_len {L:List Sl} (ho:∀ s∈L,s.o.length=14):(L.flatMap Sl.cs).length=L.length*16:=by
 induction L with
 | nil=>rfl
 | cons x r ih=>rw [List.flatMap_cons,List.length_append,ih fun s hs=>ho s (by simp [hs])];simp [Sl.cs,ho x (by simp)];omega
theorem slot_write {L:List Sl} {cs cs' : List V} (ho:∀ s∈L,s.o.length=14) (hL:cs.take (L.length*16)=L.flatMap Sl.cs) {n:Nat} (hn:n < L.length) {s' : Sl} (ho' : s'.o.length=14) (h0:∀ j,j < n*16\/n*16+16<=j->cs'[j]? = cs[j]?) (h1:∀ i,i < 16->cs'[n*16+i]? = s'.cs[i]?) :
  cs'.take (L.length*16)=(L.set n s').flatMap Sl.cs:=by
 have ho2:∀ s∈L.set n s',s.o.length=14:=fun s hs=>by
  rcases List.mem_or_eq_of_mem_set hs with h | rfl
  ·exact ho s h
  ·exact ho'
 apply List.ext_getElem?
 intro j
 by_cases hj:j < L.length*16
 ·have e1:j=j / 16*16+j % 16:=by omega
  rw [List.getElem?_take,if_pos hj]
  have hc:cs[j]? = (L.flatMap Sl.cs)[j]?:=by rw [<- hL,List.getElem?_take,if_pos hj]
  rw [e1,flat_at ho2 (by omega),List.getElem?_set]
  by_cases hq:n=j / 16
  ·subst hq
   rw [if_pos rfl,if_pos hn,h1 _ (by omega)]
   rfl
  ·rw [if_neg hq,h0 _ (by omega),<- e1,hc]
   rw [e1,flat_at ho (by omega),<- e1]
 ·have h2:((L.set n s').flatMap Sl.cs).length<=j:=by rw [flat_len ho2,List.length_set];omega
  rw [List.getElem?_eq_none_iff.2 h2,List.getElem?_eq_none_iff.2 (by simp;omega)]
theorem setCells_get (o X:List V) (p:Nat) (h:p+o.length<=X.length) (j:Nat):(setCells X p o)[j]? = if p<=j/\j < p+o.length then o[j-p]? else X[j]?:=by
 rw [setCells_app o X p h]
 by_cases h1:j < p
 ·rw [if_neg (by omega),List.append_assoc,List.getElem?_append_left (by simp;omega),List.getElem?_take,if_pos h1]
 ·by_cases h2:j < p+o.length
  ·rw [if_pos (by omega),List.append_assoc,List.getElem?_append_right (by simp;omega),List.getElem?_append_left (by simp;omega)]
   congr 1;simp;omega
  ·rw [if_neg (by omega),List.getElem?_append_right (by simp;omega),List.getElem?_drop]
   congr 1;simp;omega
theorem rows_new {R:Nat->Prop} {m m' : Nat} {vs vf vq vm vs' vf' vq' vm' : V} {Ns Nf Nq Nm:Nat->Prop}
  (hR:∀ b,b∈rowsOf vs\/b∈rowsOf vf\/b∈rowsOf vq\/b∈rowsOf vm->R b) (d1:∀ b,b∈rowsOf vs->b∉rowsOf vf/\b∉rowsOf vq/\b∉rowsOf vm) (d2:∀ b,b∈rowsOf vf->b∉rowsOf vq/\b∉rowsOf vm) (d3:∀ b,b∈rowsOf vq->b∉rowsOf vm)
  (hl:∀ b,R b->b < m) (hs:∀ c∈rowsOf vs',c∈rowsOf vs\/Ns c) (hf:∀ c∈rowsOf vf',c∈rowsOf vf\/Nf c) (hq:∀ c∈rowsOf vq',c∈rowsOf vq\/Nq c) (hm:∀ c∈rowsOf vm',c∈rowsOf vm\/Nm c)
  (hn:∀ c,Ns c\/Nf c\/Nq c\/Nm c->m<=c/\c < m') (e1:∀ c,Ns c->¬ Nf c/\¬ Nq c/\¬ Nm c) (e2:∀ c,Nf c->¬ Nq c/\¬ Nm c) (e3:∀ c,Nq c->¬ Nm c) :
  (∀ b,b∈rowsOf vs'\/b∈rowsOf vf'\/b∈rowsOf vq'\/b∈rowsOf vm'->R b\/m<=b/\b < m')/\(∀ b,b∈rowsOf vs'->b∉rowsOf vf'/\b∉rowsOf vq'/\b∉rowsOf vm')/\(∀ b,b∈rowsOf vf'->b∉rowsOf vq'/\b∉rowsOf vm')/\(∀ b,b∈rowsOf vq'->b∉rowsOf vm'):=by
 have o:∀ c,c∈rowsOf vs\/c∈rowsOf vf\/c∈rowsOf vq\/c∈rowsOf vm->¬ (Ns c\/Nf c\/Nq c\/Nm c):=fun c h1 h2=>by have:=hl c (hR c h1);have:=(hn c h2).1;omega
 refine ⟨fun b hb=>?_,fun b hb=>⟨fun h=>?_,fun h=>?_,fun h=>?_⟩,fun b hb=>⟨fun h=>?_,fun h=>?_⟩,fun b hb h=>?_⟩
 ·rcases hb with hb | hb | hb | hb
  ·exact (hs b hb).imp (fun h=>hR b (.inl h)) fun h=>hn b (.inl h)
  ·exact (hf b hb).imp (fun h=>hR b (.inr (.inl h))) fun h=>hn b (.inr (.inl h))
  ·exact (hq b hb).imp (fun h=>hR b (.inr (.inr (.inl h)))) fun h=>hn b (.inr (.inr (.inl h)))
  ·exact (hm b hb).imp (fun h=>hR b (.inr (.inr (.inr h)))) fun h=>hn b (.inr (.inr (.inr h)))
 ·have h1:=hs b hb;have h2:=hf b h;have h3:=o b;have h4:=d1 b;have h5:=e1 b;grind
 ·have h1:=hs b hb;have h2:=hq b h;have h3:=o b;have h4:=d1 b;have h5:=e1 b;grind
 ·have h1:=hs b hb;have h2:=hm b h;have h3:=o b;have h4:=d1 b;have h5:=e1 b;grind
 ·have h1:=hf b hb;have h2:=hq b h;have h3:=o b;have h4:=d2 b;have h5:=e2 b;grind
 ·have h1:=hf b hb;have h2:=hm b h;have h3:=o b;have h4:=d2 b;have h5:=e2 b;grind
 ·have h1:=hq b hb;have h2:=hm b h;have h3:=o b;have h4:=d3 b;have h5:=e3 b;grind
theorem drop_ok {R:Nat->Prop} {H:Hp} {a:Nat} {A:Ar} (h:ArAt R H a A) (r:Nat) (hr:r < 18446744073709551616) (hl:liveA A r=true) {s0:Sl} (hs0:A.slots[slotN r]? = some s0) {ow:Nat} (how:s0.o[1]? = some (.int .i64 (ow:Nat))) (hlt:ow < A.many.length) {k:Int} (hk:A.many[ow]? = some k) (hk1 : -9223372036854775807<=k/\k<=9223372036854775807) (hf:A.free.length < 100000) :
  WF tab 20 [.ptr a 0,.int .u64 r] H fun _ H'=>ArAt (Rn R H H') H' a (A.drop (slotN r) ow)/\Ext (aR R a) H H':=by
 refine wf20 (wp_sound _ ?_)
 have hs:=h.st
 simp [hs]
 refine (get_ptr h r hr hl).mono ?_
 rintro _ H1 ⟨b,s,cs,rfl,hsn,hu,huu,S,hg1,st1,le1⟩
 rw [hs0] at hsn
 obtain rfl:s0=s:=by simpa using hsn
 have h1:ArAt R H1 a A:=h.of_get st1 le1 fun b _=>by rw [hg1]
 have S1:SlotAt R H1 a A (slotN r) s0 b cs:=⟨by rw [hg1];exact S.row,by rw [hg1];exact S.get,S.le,S.eq,S.rb,S.lt,S.c0,S.c1,S.co,S.ol⟩
 have k1:=fun (H:Hp) hs=>slot_ok' (H:=H) hs r hr
 have hX1:Ext noX H H1:=⟨st1,le1,fun b _ _=>by rw [hg1]⟩
 have hn4:=slotN_lt r
 generalize slotN r=n at *
 obtain ⟨vs,vf,vq,vm,g0,gs,gf,gq,gm,hR,d1,d2,d3⟩:=h1.row
 obtain ⟨vf',vq',vm',g0'⟩:=S1.row
 rw [g0] at g0'
 obtain ⟨rfl,rfl,rfl,rfl⟩:vs = .sl b 0 A.slots.length none 16/\vf=vf'/\vq=vq'/\vm=vm':=by simpa using g0'
 obtain ⟨bm,cm,rfl,gm1,gm2,gm3⟩:=sl_open gm (by omega)
 have hbs:=S1.get
 have hso:=S1.co 1 (by omega)
 rw [how] at hso
 have q1:=gq.cells;have q2:=gq.one;have f1:=gf.cells;have f2:=gf.one
 have hcm:cm[ow]? = some (.int .i64 k):=by
  have:(cm.take (A.many.length*1))[ow]? = some (.int .i64 k):=by rw [gm3,List.getElem?_map,hk];rfl
  rw [List.getElem?_take,if_pos (by omega)] at this;exact this
 have how2:(ow:Int) < (A.many.length:Int):=by omega
 have hcl:ow+1<=cm.length:=by omega
 have wk:wr .i64 (k-1)=k-1:=by rw [wr_eq,IntKind.wrap_i64];omega
 have hne:bm≠b:=fun e=>(d1 b (by simp [rowsOf])).2.2 (by simp [rowsOf,e])
 have hnea:bm≠a:=fun e=>h1.ra (e ▸ hR bm (.inr (.inr (.inr (by simp [rowsOf])))))
 have hba:b≠a:=fun e=>h1.ra (e ▸ S1.rb)
 simp [st1,g0,hbs,hso,gm1,hcm,hlt,how2,hcl,wk]
 generalize hH2:(H1.put bm (.row 3 1 false (cm.set ow (.int .i64 (k-1))))).bump=H2
 have st2:H2.stale=[]:=by rw [<- hH2];simp [st1]
 have n2:H2.next=H1.next+1:=by rw [<- hH2];simp
 have e2:∀ c,c≠bm->H2.get c=H1.get c:=fun c hc=>by rw [<- hH2];simp [st1,Hp.get_put,two_ne hc]
 have m2:H2.get bm=some (.row 3 1 false (cm.set ow (.int .i64 (k-1)))):=by rw [<- hH2];simp [st1,Hp.get_put]
 have ga2:H2.get a=some (.row 98 4 false [.sl b 0 A.slots.length none 16,vf,vq,.sl bm 0 A.many.length none 1]):=by rw [e2 a (Ne.symm hnea)];exact g0
 have gb2:H2.get b=some (.row 100 16 false cs):=by rw [e2 b (Ne.symm hne)];exact hbs
 refine (k1 H2 st2).mono ?_
 rintro _ H2 ⟨rfl,rfl⟩
 have hnl:(n:Int) < (A.slots.length:Int):=by have:=S1.lt;omega
 have hnl':=S1.lt
 have hle:=S1.le
 have j1:n*16+1+1<=cs.length:=by omega
 have j2:n*16+2+14<=cs.length:=by omega
 have eS:eqV (V.sl b 0 A.slots.length none 16) (V.sl b 0 A.slots.length none 16)=true:=by simp [eqV]
 simp [st2,ga2,gb2,hnl,hnl',j1,j2,eS]
 rw [show (((((((((((((((cs.set (n*16+1) (V.bool false)).set (n*16+2) (V.int IntKind.u8 0)).set (n*16+2+1) (V.int IntKind.i64 0)).set (n*16+2+1+1) (V.bool false)).set (n*16+2+1+1+1) V.nilm).set (n*16+2+1+1+1+1) (V.int IntKind.i64 0)).set (n*16+2+1+1+1+1+1) (V.int IntKind.i64 0)).set (n*16+2+1+1+1+1+1+1) V.nils).set (n*16+2+1+1+1+1+1+1+1) (V.int IntKind.u64 0)).set (n*16+2+1+1+1+1+1+1+1+1) (V.int IntKind.u8 0)).set (n*16+2+1+1+1+1+1+1+1+1+1) (V.int IntKind.i64 0)).set (n*16+2+1+1+1+1+1+1+1+1+1+1) (V.str [])).set (n*16+2+1+1+1+1+1+1+1+1+1+1+1) (V.int IntKind.i64 0)).set (n*16+2+1+1+1+1+1+1+1+1+1+1+1+1) (V.int IntKind.u64 0)).set (n*16+2+1+1+1+1+1+1+1+1+1+1+1+1+1) (V.int IntKind.i64 0))=setCells (cs.set (n*16+1) (.bool false)) (n*16+2) zO from rfl]
 have hzl:zO.length=14:=rfl
 have hcs' : ∀ j,(setCells (cs.set (n*16+1) (.bool false)) (n*16+2) zO)[j]? = if n*16+2<=j/\j < n*16+2+14 then zO[j-(n*16+2)]? else (cs.set (n*16+1) (.bool false))[j]?:=setCells_get zO _ _ (by rw [hzl,List.length_set];omega)
 have hcl' : (setCells (cs.set (n*16+1) (.bool false)) (n*16+2) zO).length=cs.length:=by
  rw [setCells_app _ _ _ (by rw [hzl,List.length_set];omega)];simp [hzl];omega
 generalize setCells (cs.set (n*16+1) (.bool false)) (n*16+2) zO=cs' at *
 generalize hH3:(H2.bump.put b (.row 100 16 false (cs.set (n*16+1) (.bool false)))).put b (.row 100 16 false cs')=H3
 have st3:H3.stale=[]:=by rw [<- hH3];simp [st2]
 have n3:H3.next=H2.next+1:=by rw [<- hH3];simp
 have e3:∀ c,c≠b->H3.get c=H2.get c:=fun c hc=>by rw [<- hH3];simp [Hp.get_put,two_ne hc]
 have m3:H3.get b=some (.row 100 16 false cs'):=by rw [<- hH3];simp [Hp.get_put]
 have ga3:H3.get a=some (.row 98 4 false [.sl b 0 A.slots.length none 16,vf,vq,.sl bm 0 A.many.length none 1]):=by rw [e3 a (Ne.symm hba)];exact ga2
 refine (k1 H3 st3).mono ?_
 rintro _ H3 ⟨rfl,rfl⟩
 have ef:=gf.eqv
 have gf3:SlAt H3.bump 90 1 vf A.free.length (A.free.map fun n=>.int .u32 (n:Nat)):=gf.of_get fun c hc=>by
  show H3.get c=_
  rw [e3 c (fun e=>(d1 b (by simp [rowsOf])).1 (e ▸ hc)),e2 c (fun e=>(d2 c hc).2 (by simp [rowsOf,e]))]
 have rl:=fun c hc=>h1.rl c (hR c hc)
 simp [st3,ga3,f1,f2,ef]
 refine wpD_app1 (H:=H3.bump) (e0:=90) (cells:=[.int .u32 (n:Nat)]) (by simp [descOf]) ty90 (by decide) (by simp) (by simp) gf3 (fun c hc=>⟨by have:=rl c (.inr (.inl hc));show c < H3.next+1;omega,by simp [st3]⟩) rfl (by show (A.free.length+1)*4<=_;omega) (by omega) (by simp [st3]) fun vf' H4 hS4 hA4=>?_
 have le4:H3.next+1<=H4.next:=hA4.le
 have af:a∉rowsOf vf:=fun hm=>h1.ra (hR a (.inr (.inl hm)))
 have bf:b∉rowsOf vf:=(d1 b (by simp [rowsOf])).1
 have mf:bm∉rowsOf vf:=fun hm=>(d2 bm hm).2 (by simp [rowsOf])
 have hlta:=h1.lt
 obtain ⟨ka1,ka2⟩:=hA4.keep a (by show a < H3.next+1;omega) af (by simp [st3])
 have ka1:=ka1.trans ga3
 have c1:=hS4.cells;have o1:=hS4.one
 simp [ka1,ka2,c1,o1,f1,f2,q1,q2]
 generalize hH5:(H4.bump.flush.put a (.row 98 4 false [.sl b 0 A.slots.length none 16,vf',vq,.sl bm 0 A.many.length none 1])).bump=H5
 have s5:H5.stale=[]:=by rw [<- hH5];simp
 have n5:H5.next=H4.next+1+1:=by rw [<- hH5];simp
 have a5:H5.get a=some (.row 98 4 false [.sl b 0 A.slots.length none 16,vf',vq,.sl bm 0 A.many.length none 1]):=by rw [<- hH5];simp
 have g5:∀ c,c≠a->c∉H4.stale->H5.get c=H4.get c:=fun c hc hst=>by
  rw [<- hH5]
  simp [Hp.get_put,two_ne hc,Hp.get_flush,hst]
 have keep:∀ c,c < H1.next->c≠a->c∉rowsOf vf->H5.get c=H3.get c:=fun c hc ha hf=>by
  obtain ⟨k1,k2⟩:=hA4.keep c (by show c < H3.next+1;omega) hf (by simp [st3])
  rw [g5 c ha k2];exact k1
 have keep1:∀ c,c < H1.next->c≠a->c∉rowsOf vf->c≠b->c≠bm->H5.get c=H1.get c:=fun c hc ha hf hb hm=>by
  rw [keep c hc ha hf,e3 c hb,e2 c hm]
 have nf:∀ c∈rowsOf vf',(c∈rowsOf vf\/H3.next+1<=c)/\c < H4.next/\H5.get c=H4.get c:=fun c hc=>by
  obtain ⟨k1,k2,k3⟩:=hA4.new c hc
  have hca:c≠a:=fun e=>by
   rcases k3 with k3 | k3
   ·exact af (e ▸ k3)
   ·have:H3.next+1<=c:=k3;omega
  exact ⟨k3,k2,g5 c hca k1⟩
 obtain ⟨r1,r2,r3,r4⟩:=rows_new (vs':=.sl b 0 A.slots.length none 16) (vf':=vf') (vq':=vq) (vm':=.sl bm 0 A.many.length none 1) (m:=H1.next) (m':=H5.next) (Ns:=fun _=>False) (Nf:=fun c=>H3.next+1<=c/\c < H4.next) (Nq:=fun _=>False) (Nm:=fun _=>False) hR d1 d2 d3 h1.rl
  (fun c hc=>.inl hc) (fun c hc=>(nf c hc).1.imp id fun h=>⟨h,(nf c hc).2.1⟩) (fun c hc=>.inl hc) (fun c hc=>.inl hc) (fun c hc=>by rcases hc with hc | hc | hc | hc<;>first | exact hc.elim | omega) (fun c hc=>hc.elim) (fun c hc=>⟨fun h=>h,fun h=>h⟩) (fun c hc=>hc.elim)
 have eD:(A.drop n ow).slots=A.slots.set n ⟨s0.uses,false,zO⟩:=by simp [Ar.drop,hs0]
 refine ⟨⟨s5,⟨_,_,_,_,a5,?_,?_,?_,?_,fun c hc=>(r1 c hc).imp id fun h=>⟨by omega,h.2⟩,r2,r3,r4⟩,by omega,fun c hc=>?_,fun hc=>?_,?_,?_,?_⟩,s5,by omega,fun c hc hx=>?_⟩
 ·have hw:=slot_write (s':=⟨s0.uses,false,zO⟩) (cs':=cs') h.o14 S1.eq hnl' rfl (fun j hj=>?_) fun i hi=>?_
  ·rw [eD,<- hw,List.length_set]
   exact SlAt.row _ _ _ (by rw [keep b (h1.rl b S1.rb) hba bf];exact m3) (by rw [hcl'];exact hle)
  ·rw [hcs',if_neg (by omega),List.getElem?_set_ne (by omega)]
  ·rw [hcs']
   match i,hi with
   | 0,_=>rw [if_neg (by omega),List.getElem?_set_ne (by omega)];exact S1.c0
   | 1,_=>rw [if_neg (by omega),List.getElem?_set_self (by omega)];rfl
   | i+2,hi=>rw [if_pos (by omega),show n*16+(i+2)-(n*16+2)=i by omega];rfl
 ·have:=hS4.of_get (H':=H5) fun c hc=>(nf c hc).2.2
  simpa [Ar.drop] using this
 ·exact gq.of_get fun c hc=>keep1 c (h1.rl c (hR c (.inr (.inr (.inl hc))))) (fun e=>h1.ra (hR a (.inr (.inr (.inl (e ▸ hc)))))) (fun hf=>(d2 c hf).1 hc) (fun e=>(d1 b (by simp [rowsOf])).2.1 (e ▸ hc)) (fun e=>d3 c hc (by simp [rowsOf,e]))
 ·have hg:H5.get bm=some (.row 3 1 false (cm.set ow (.int .i64 (k-1)))):=by rw [keep bm (h1.rl bm (hR bm (.inr (.inr (.inr (by simp [rowsOf])))))) hnea mf,e3 bm hne];exact m2
  have:=SlAt.row (sz:=1) bm A.many.length _ hg (by simp;omega)
  have e:((cm.set ow (.int .i64 (k-1))).take (A.many.length*1))=(A.drop n ow).many.map (.int .i64):=by
   simp only [Ar.drop,hk,Option.getD_some,List.map_set,<- gm3,List.take_set]
  rw [e] at this
  simpa [Ar.drop] using this
 ·rcases hc with hc | hc
  ·have:=h.rl c hc;omega
  ·exact hc.2
 ·rcases hc with hc | hc
  ·exact h.ra hc
  ·have:=h.lt;omega
 ·intro s hs'
  rw [eD] at hs'
  rcases List.mem_or_eq_of_mem_set hs' with h | rfl
  ·exact h1.o14 s h
  ·rfl
 ·simp [Ar.drop,h.qm]
 ·have:=h.big;simp [Ar.drop];omega
 ·have hc1:c < H1.next:=by omega
  have hcR:¬ R c:=fun h=>hx (.inr h)
  rw [keep1 c hc1 (fun e=>hx (.inl e)) (fun hf=>hcR (hR c (.inr (.inl hf)))) (fun e=>hcR (e ▸ S1.rb)) (fun e=>hcR (hR c (.inr (.inr (.inr (by simp [rowsOf,e])))))),hg1]
end Go.AM.YtiolgkhfpnidfaaT
set_option maxRecDepth 100000
namespace Go.AM.YtiolgkhfpnidfaaT
open Go Go.AM Go.Proofs
def Ar.usesAt (A:Ar) (n:Nat):Nat:=((A.slots[n]?).map Sl.uses).getD 0
def Ar.grow (A:Ar):Ar:=if A.free=[] then { A with slots:=A.slots++[⟨0,false,zO⟩],free:=[A.slots.length] } else A
def Ar.top (A:Ar):Nat:=A.grow.free.getLastD 0
def Ar.put (A:Ar) (o:List V) (ow:Nat):Ar :=
 { slots:=A.grow.slots.set A.top ⟨A.grow.usesAt A.top+1,true,o⟩,free:=A.grow.free.dropLast,quotas:=A.quotas,many:=A.many.set ow ((A.many[ow]?).getD 0+1) }
def Ar.ref (A:Ar):Nat:=(A.grow.usesAt A.top+1)*4294967296+A.top
theorem grow_nil {A:Ar} (h:A.free=[]):A.grow = { A with slots:=A.slots++[⟨0,false,zO⟩],free:=[A.slots.length] }:=by unfold Ar.grow;rw [if_pos h]
theorem grow_ne {A:Ar} (h:A.free≠[]):A.grow=A:=by unfold Ar.grow;rw [if_neg h]
theorem top_nil {A:Ar} (h:A.free=[]):A.top=A.slots.length:=by unfold Ar.top;rw [grow_nil h];rfl
theorem put_nil {A:Ar} (h:A.free=[]) (o:List V) (ow:Nat):A.put o ow=⟨A.slots++[⟨1,true,o⟩],[],A.quotas,A.many.set ow ((A.many[ow]?).getD 0+1)⟩:=by
 unfold Ar.put
 rw [top_nil h,grow_nil h]
 simp [Ar.usesAt]
theorem ref_nil {A:Ar} (h:A.free=[]):A.ref=4294967296+A.slots.length:=by
 unfold Ar.ref
 rw [top_nil h,grow_nil h]
 simp [Ar.usesAt]
theorem slot_of (u n:Nat) (h:n < 4294967296):slotN (u*4294967296+n)=n/\usesN (u*4294967296+n)=u:=by
 unfold slotN usesN;omega
theorem ref_eq (r:Nat):r=usesN r*4294967296+slotN r:=by unfold slotN usesN;omega
structure FullInv (q k i j:Nat) (A:Ar) (l:List Nat):Prop where
 free:A.free=[]
 qs:A.quotas=[(q:Int),(k:Int)]
 ms:A.many=[((min i q:Nat):Int),((min j k:Nat):Int)]
 live:∀ s∈A.slots,s.used=true/\s.uses=1
 len:A.slots.length<=i+j
 ll:l.length=min i q
 ls:∀ r∈l,∃ n s,r=4294967296+n/\A.slots[n]? = some s/\s.o[1]? = some (.int .i64 (0:Nat))
theorem FullInv.start (q k:Nat):FullInv q k 0 0 ⟨[],[],[(q:Int),(k:Int)],[0,0]⟩ []:=⟨rfl,rfl,by simp,by simp,by simp,by simp,by simp⟩
variable {q k i j:Nat} {A:Ar} {l:List Nat} {o:List V}
theorem FullInv.gone (h:FullInv q k i j A l) (hi:q<=i) (hij:i+j < 4294967296) {r:Nat} (hr:r∈l) :
  ∃ s,A.slots[slotN r]? = some s/\s.o[1]? = some (.int .i64 (0:Nat))/\liveA A r=true/\A.many[0]? = some (q:Int)/\r < 18446744073709551616 /\
   (A.drop (slotN r) 0).free=[slotN r]/\(A.drop (slotN r) 0).many[0]? = some ((q:Int)-1)/\slotN r < A.slots.length /\
   (A.drop (slotN r) 0).usesAt (slotN r)=1/\((A.drop (slotN r) 0).put o 0).many[0]? = some (q:Int)/\liveA ((A.drop (slotN r) 0).put o 0) r=false/\(A.drop (slotN r) 0).slots.length=A.slots.length:=by
 obtain ⟨n,s,h1,h2,h3⟩:=h.ls r hr
 have hn:=(List.getElem?_eq_some_iff.1 h2).1
 have hl:=h.len
 have e:=slot_of 1 n (by omega)
 rw [Nat.one_mul,<- h1] at e
 obtain ⟨e1,e2⟩:=e
 have hs:=h.live s (List.mem_of_getElem? h2)
 have hm:A.many[0]? = some (q:Int):=by rw [h.ms];simp;omega
 have hf:(A.drop n 0).free=[n]:=by simp [Ar.drop,h.free]
 have hu:(A.drop n 0).usesAt n=1:=by
  have:A.slots[n]=s:=by rw [List.getElem?_eq_getElem hn] at h2;simpa using h2
  simp [Ar.drop,Ar.usesAt,hn,this,hs.2]
 have ht:(A.drop n 0).top=n:=by unfold Ar.top;rw [grow_ne (by rw [hf];simp),hf];rfl
 have hmd:(A.drop n 0).many[0]? = some ((q:Int)-1):=by simp [Ar.drop,h.ms];omega
 rw [e1]
 refine ⟨s,h2,h3,?_,hm,by omega,hf,hmd,hn,hu,?_,?_,by simp [Ar.drop]⟩
 ·unfold liveA;rw [e1,h2];simp [hs,e2]
 ·have:0 < (A.drop n 0).many.length:=by simp [Ar.drop,h.ms]
  simp only [Ar.put,List.getElem?_set,hmd]
  simp [this]
 ·unfold liveA
  rw [e1,e2]
  have:n < (A.drop n 0).slots.length:=by simp [Ar.drop,hn]
  simp [Ar.put,grow_ne (A:=A.drop n 0) (by rw [hf];simp),ht,hu,this]
end Go.AM.YtiolgkhfpnidfaaT
set_option maxRecDepth 100000
namespace Go.AM.YtiolgkhfpnidfaaT
open Go Go.AM Go.Proofs
def objL (k:Int) (ow:Int) (fi:V) (mo me:Int):List V:=[.int .u8 k,.int .i64 ow,.bool false,fi,.int .i64 mo,.int .i64 0,.nils,.int .u64 0,.int .u8 0,.int .i64 0,.str [],.int .i64 me,.int .u64 0,.int .i64 0]
def objV (k:Int) (ow:Int) (fi:V) (mo me:Int):V:=.agg (objL k ow fi mo me)
def Zput13:SCode:=.seq (.dreg R19_13) (.seq (.reg R19_14) (.ret))
def Zput11:SCode:=.seq (.reg R19_11) (.seq (.dreg R19_12) Zput13)
def Zput:SCode:=.seq (.dreg R19_8) (.seq (.dreg R19_9) (.seq (.reg R19_10) Zput11))
theorem put_mid {R:Nat->Prop} {H:Hp} {a p b:Nat} {B:Ar} {F:Fr} {cs:List V} (h:ArAt R H a B) (hp:p < H.next) (hpa:p≠a) (hpR:¬ R p) {k mo me:Int} {ow:Nat} {fi:V} (gp:H.get p=some (.row 44 14 false (objL k ow fi mo me))) (hf1:cellsV fi=[fi]) (hf2:oneV fi=true) (hf3:eqV fi fi=true)
  {n:Nat} {s:Sl} (hn:B.slots[n]? = some s) (S1:SlotAt R H a B n s b cs) (hu:s.uses < 4294967295) {m:Int} (hm:B.many[ow]? = some m) (hm1:0<=m/\m < 1000000000)
  (f0:F.get 0=some (.ptr a 0)) (f3:F.get 3=some (.ptr p 0)) (f6:F.get 6=some (.int .u32 (n:Nat))) (f7:F.get 7=some (.ptr b (n*16))) {Q:V->Hp->Prop}
  (hQ:∀ H',ArAt R H' a ⟨B.slots.set n ⟨s.uses+1,true,objL k ow fi mo me⟩,B.free,B.quotas,B.many.set ow (m+1)⟩->Ext (aR R a) H H'->Q (.tup [.int .u64 ((s.uses+1)*4294967296+n:Nat),.int .i64 0]) H') :
  wp tab Zput11 F H (resQ tab [.tmp 4,.tmp 5] Q):=by
 have hs:=h.st
 obtain ⟨vs,vf,vq,vm,g0,gs,gf,gq,gm,hR,d1,d2,d3⟩:=h.row
 obtain ⟨vf',vq',vm',g0'⟩:=S1.row
 rw [g0] at g0'
 obtain ⟨rfl,rfl,rfl,rfl⟩:vs = .sl b 0 B.slots.length none 16/\vf=vf'/\vq=vq'/\vm=vm':=by simpa using g0'
 have hml:ow < B.many.length:=(List.getElem?_eq_some_iff.1 hm).1
 obtain ⟨bm,cm,rfl,gm1,gm2,gm3⟩:=sl_open gm (by omega)
 have hcm:cm[ow]? = some (.int .i64 m):=by
  have:(cm.take (B.many.length*1))[ow]? = some (.int .i64 m):=by rw [gm3,List.getElem?_map,hm];rfl
  rw [List.getElem?_take,if_pos (by omega)] at this;exact this
 have q1:=gq.cells;have q2:=gq.one
 have hbs:=S1.get
 have c0:=S1.c0
 have hnl:=S1.lt
 have hle:=S1.le
 have hba:b≠a:=fun e=>h.ra (e ▸ S1.rb)
 have hbp:b≠p:=fun e=>hpR (e ▸ S1.rb)
 have hmR:R bm:=hR bm (.inr (.inr (.inr (by simp [rowsOf]))))
 have hmb:bm≠b:=fun e=>(d1 b (by simp [rowsOf])).2.2 (by simp [rowsOf,e])
 have hma:bm≠a:=fun e=>h.ra (e ▸ hmR)
 have hmp:bm≠p:=fun e=>hpR (e ▸ hmR)
 have wu:wr .u32 ((s.uses:Int)+1)=((s.uses+1:Nat):Int):=by rw [wr_u32 (by omega) (by omega)];omega
 have wm:wr .i64 (m+1)=m+1:=by rw [wr_i64 (by omega) (by omega)]
 have j0:n*16+1<=cs.length:=by omega
 have j1:n*16+1+1<=cs.length:=by omega
 have j2:n*16+2+14<=cs.length:=by omega
 have ho1:(objL k ow fi mo me).length=14:=rfl
 have ho2:(objL k ow fi mo me).take 14=objL k ow fi mo me:=rfl
 have ho3:cellsV (.agg (objL k ow fi mo me))=objL k ow fi mo me:=by simp [cellsV]
 have ho4:∀ x∈objL k ow fi mo me,oneV x=true:=by
  intro x hx
  simp only [objL,List.mem_cons,List.not_mem_nil,or_false] at hx
  rcases hx with rfl | rfl | rfl | rfl | rfl | rfl | rfl | rfl | rfl | rfl | rfl | rfl | rfl | rfl<;>first | rfl | exact hf2
 have ho5:eqV (.agg (objL k ow fi mo me)) (.agg (objL k ow fi mo me))=true:=by simp [objL,eqV,hf3,eqL]
 have ho7:(objL k ow fi mo me)[1]? = some (.int .i64 (ow:Nat)):=rfl
 generalize objL k ow fi mo me=O at *
 have ho6:(∀ x,x∈O->oneV x=true)=True:=eq_true ho4
 simp [Zput11,hs,f0,f3,f6,f7,g0,hbs,gp,c0,wu,j0,j1,j2,two_ne hbp,Hp.get_put,ho1,ho2,ho3,ho6,ho5]
 have hcs' : ∀ j,(setCells ((cs.set (n*16) (.int .u32 ((s.uses:Int)+1))).set (n*16+1) (.bool true)) (n*16+2) O)[j]? = if n*16+2<=j/\j < n*16+2+14 then O[j-(n*16+2)]? else ((cs.set (n*16) (.int .u32 ((s.uses:Int)+1))).set (n*16+1) (.bool true))[j]?:=by
  have:=setCells_get O ((cs.set (n*16) (.int .u32 ((s.uses:Int)+1))).set (n*16+1) (.bool true)) (n*16+2) (by rw [ho1,List.length_set,List.length_set];omega)
  rw [ho1] at this;exact this
 have hcl' : (setCells ((cs.set (n*16) (.int .u32 ((s.uses:Int)+1))).set (n*16+1) (.bool true)) (n*16+2) O).length=cs.length:=by
  rw [setCells_app _ _ _ (by rw [ho1,List.length_set,List.length_set];omega)];simp [ho1];omega
 generalize setCells ((cs.set (n*16) (.int .u32 ((s.uses:Int)+1))).set (n*16+1) (.bool true)) (n*16+2) O=cs' at *
 generalize hH2:(((H.put b (.row 100 16 false (cs.set (n*16) (.int .u32 ((s.uses:Int)+1))))).put b (.row 100 16 false ((cs.set (n*16) (.int .u32 ((s.uses:Int)+1))).set (n*16+1) (.bool true)))).bump.put b (.row 100 16 false cs')).bump=H2
 have st2:H2.stale=[]:=by rw [<- hH2];simp [hs]
 have n2:H2.next=H.next+1+1:=by rw [<- hH2];simp
 have e2:∀ c,c≠b->H2.get c=H.get c:=fun c hc=>by rw [<- hH2];simp [hs,Hp.get_put,two_ne hc]
 have m2:H2.get b=some (.row 100 16 false cs'):=by rw [<- hH2];simp [hs,Hp.get_put]
 have ga2:=(e2 a (Ne.symm hba)).trans g0
 have gp2:=(e2 p (Ne.symm hbp)).trans gp
 have gm2':=(e2 bm hmb).trans gm1
 have hc0:cs'[n*16]? = some (.int .u32 ((s.uses:Int)+1)):=by rw [hcs',if_neg (by omega),List.getElem?_set_ne (by omega),List.getElem?_set_self (by omega)]
 have how2:(ow:Int) < (B.many.length:Int):=by omega
 have hcl:ow+1<=cm.length:=by omega
 simp [Zput13,st2,f0,f3,f6,f7,ga2,gp2,gm2',hcm,hml,how2,hcl,wm,ho7,Hp.get_put,two_ne hmb,m2,hc0]
 generalize hH3:(H2.put bm (.row 3 1 false (cm.set ow (.int .i64 (m+1))))).bump=H3
 have st3:H3.stale=[]:=by rw [<- hH3];simp [st2]
 have n3:H3.next=H2.next+1:=by rw [<- hH3];simp
 have e3:∀ c,c≠bm->H3.get c=H2.get c:=fun c hc=>by rw [<- hH3];simp [Hp.get_put,two_ne hc]
 have m3:H3.get bm=some (.row 3 1 false (cm.set ow (.int .i64 (m+1)))):=by rw [<- hH3];simp [Hp.get_put]
 rw [show ((s.uses:Int)+1)=((s.uses+1:Nat):Int) by omega]
 have hof:=of_ok st3 n (s.uses+1) (by have:=h.big.1;omega) (by omega)
 have hQ3:ArAt R H3 a ⟨B.slots.set n ⟨s.uses+1,true,O⟩,B.free,B.quotas,B.many.set ow (m+1)⟩/\Ext (aR R a) H H3:=by
  have keep:∀ c,c≠b->c≠bm->H3.get c=H.get c:=fun c h1 h2=>by rw [e3 c h2,e2 c h1]
  refine ⟨⟨st3,⟨_,_,_,_,(keep a (Ne.symm hba) (Ne.symm hma)).trans g0,?_,?_,?_,?_,hR,d1,d2,d3⟩,by have:=h.lt;omega,fun c hc=>by have:=h.rl c hc;omega,h.ra,?_,by simp [h.qm],by have:=h.big;simpa using this⟩,st3,by omega,fun c hc hx=>?_⟩
  ·have hw:=slot_write (s':=⟨s.uses+1,true,O⟩) (cs':=cs') h.o14 S1.eq hnl ho1 (fun j hj=>?_) fun i hi=>?_
   ·show SlAt H3 100 16 _ (B.slots.set n ⟨s.uses+1,true,O⟩).length ((B.slots.set n ⟨s.uses+1,true,O⟩).flatMap Sl.cs)
    rw [<- hw,List.length_set]
    exact SlAt.row _ _ _ (by rw [e3 b (Ne.symm hmb)];exact m2) (by rw [hcl'];exact hle)
   ·rw [hcs',if_neg (by omega),List.getElem?_set_ne (by omega),List.getElem?_set_ne (by omega)]
   ·match i,hi with
    | 0,_=>rw [Nat.add_zero,hc0];rfl
    | 1,_=>rw [hcs',if_neg (by omega),List.getElem?_set_self (by rw [List.length_set];omega)];rfl
    | i+2,hi=>rw [hcs',if_pos (by omega),show n*16+(i+2)-(n*16+2)=i by omega];rfl
  ·exact gf.of_get fun c hc=>keep c (fun e=>(d1 b (by simp [rowsOf])).1 (e ▸ hc)) (fun e=>(d2 c hc).2 (by simp [rowsOf,e]))
  ·exact gq.of_get fun c hc=>keep c (fun e=>(d1 b (by simp [rowsOf])).2.1 (e ▸ hc)) (fun e=>d3 c hc (by simp [rowsOf,e]))
  ·have:=SlAt.row (sz:=1) bm B.many.length _ m3 (by simp;omega)
   have e:((cm.set ow (.int .i64 (m+1))).take (B.many.length*1))=(B.many.set ow (m+1)).map (.int .i64):=by
    simp only [List.map_set,<- gm3,List.take_set]
   rw [e] at this
   simpa using this
  ·intro s' hs'
   rcases List.mem_or_eq_of_mem_set hs' with h' | rfl
   ·exact h.o14 s' h'
   ·exact ho1
  ·exact keep c (fun e=>hx (.inr (e ▸ S1.rb))) (fun e=>hx (.inr (e ▸ hmR)))
 have hq:=hQ H3 hQ3.1 hQ3.2
 clear hQ3 hQ
 generalize (s.uses+1)*4294967296+n=rr at *
 refine hof.mono ?_
 rintro _ H4 ⟨rfl,rfl⟩
 simp [st3,hq]
theorem put_tail {R:Nat->Prop} {H:Hp} {a p:Nat} {B:Ar} {F:Fr} (h:ArAt R H a B) (hp:p < H.next) (hpa:p≠a) (hpR:¬ R p) {k mo me:Int} {ow:Nat} {fi:V} (gp:H.get p=some (.row 44 14 false (objL k ow fi mo me))) (hf1:cellsV fi=[fi]) (hf2:oneV fi=true) (hf3:eqV fi fi=true)
  {fr:List Nat} {n:Nat} (hfr:B.free=fr++[n]) {s:Sl} (hn:B.slots[n]? = some s) (hu:s.uses < 4294967295) {m:Int} (hm:B.many[ow]? = some m) (hm1:0<=m/\m < 1000000000)
  (f0:F.get 0=some (.ptr a 0)) (f3:F.get 3=some (.ptr p 0)) {Q:V->Hp->Prop}
  (hQ:∀ H',ArAt R H' a ⟨B.slots.set n ⟨s.uses+1,true,objL k ow fi mo me⟩,fr,B.quotas,B.many.set ow (m+1)⟩->Ext (aR R a) H H'->Q (.tup [.int .u64 ((s.uses+1)*4294967296+n:Nat),.int .i64 0]) H') :
  wp tab Zput F H (resQ tab [.tmp 4,.tmp 5] Q):=by
 have hs:=h.st
 obtain ⟨b,cs,S1⟩:=h.slot hn
 obtain ⟨vs,vf,vq,vm,g0,gs,gf,gq,gm,hR,d1,d2,d3⟩:=h.row
 obtain ⟨vf',vq',vm',g0'⟩:=S1.row
 rw [g0] at g0'
 obtain ⟨rfl,rfl,rfl,rfl⟩:vs = .sl b 0 B.slots.length none 16/\vf=vf'/\vq=vq'/\vm=vm':=by simpa using g0'
 have hfl:B.free.length=fr.length+1:=by rw [hfr];simp
 have hml:ow < B.many.length:=(List.getElem?_eq_some_iff.1 hm).1
 obtain ⟨bf,cf,rfl,gf1,gf2,gf3⟩:=sl_open gf (by omega)
 obtain ⟨bm,cm,rfl,gm1,gm2,gm3⟩:=sl_open gm (by omega)
 have hcf:cf[fr.length]? = some (.int .u32 (n:Nat)):=by
  have:(cf.take (B.free.length*1))[fr.length]? = some (.int .u32 (n:Nat)):=by rw [gf3,List.getElem?_map,hfr];simp
  rw [List.getElem?_take,if_pos (by omega)] at this;exact this
 have hcm:cm[ow]? = some (.int .i64 m):=by
  have:(cm.take (B.many.length*1))[ow]? = some (.int .i64 m):=by rw [gm3,List.getElem?_map,hm];rfl
  rw [List.getElem?_take,if_pos (by omega)] at this;exact this
 have q1:=gq.cells;have q2:=gq.one
 have hbs:=S1.get
 have hnl:=S1.lt
 have hnl' : (n:Int) < (B.slots.length:Int):=by omega
 have hb2:=h.big.2.1
 rw [hfl] at g0 gf2 hb2
 generalize hnf:fr.length=nf at *
 have e1:(nf:Int)+1-1=nf:=by omega
 have l1:(nf:Int) < (nf:Int)+1:=by omega
 have w1:wr .i64 (nf:Int)=(nf:Int):=by rw [wr_i64 (by omega) (by omega)]
 have hsl:sliceV tab 96 (.sl bf 0 (nf+1) none 1) none (some (nf:Int)) none=some (.sl bf 0 nf none 1):=by
  simp [sliceV];omega
 have eF:eqV (V.sl bf 0 (nf+1) none 1) (V.sl bf 0 (nf+1) none 1)=true:=by simp [eqV]
 simp [Zput,hs,f0,f3,g0,gf1,e1,l1,w1,hcf,hsl,eF,q1,q2,hnl,hnl']
 generalize hH1:(H.put a (.row 98 4 false [.sl b 0 B.slots.length none 16,.sl bf 0 nf none 1,vq,.sl bm 0 B.many.length none 1])).bump=H1
 have st1:H1.stale=[]:=by rw [<- hH1];simp [hs]
 have n1:H1.next=H.next+1:=by rw [<- hH1];simp
 have k1:∀ c,c≠a->H1.get c=H.get c:=fun c hc=>by rw [<- hH1];simp [hs,Hp.get_put,two_ne hc]
 have ga1:H1.get a=some (.row 98 4 false [.sl b 0 B.slots.length none 16,.sl bf 0 nf none 1,vq,.sl bm 0 B.many.length none 1]):=by rw [<- hH1];simp [hs,Hp.get_put]
 have na:∀ c,R c->c≠a:=fun c hc e=>h.ra (e ▸ hc)
 have h1:ArAt R H1 a ⟨B.slots,fr,B.quotas,B.many⟩:=by
  refine ⟨st1,⟨_,_,_,_,ga1,gs.of_get fun c hc=>k1 c (na c (hR c (.inl hc))),?_,gq.of_get fun c hc=>k1 c (na c (hR c (.inr (.inr (.inl hc))))),gm.of_get fun c hc=>k1 c (na c (hR c (.inr (.inr (.inr hc))))),hR,d1,d2,d3⟩,by have:=h.lt;omega,fun c hc=>by have:=h.rl c hc;omega,h.ra,h.o14,h.qm,h.big.1,by show fr.length<=_;omega,h.big.2.2⟩
  have:=SlAt.row (sz:=1) bf nf _ ((k1 bf (na bf (hR bf (.inr (.inl (by simp [rowsOf])))))).trans gf1) (by omega)
  have e:cf.take (nf*1)=fr.map fun n=>.int .u32 (n:Nat):=by
   have:cf.take (nf*1)=(cf.take (B.free.length*1)).take nf:=by rw [List.take_take];congr 1;omega
   rw [this,gf3,hfr,List.map_append,List.take_left' (by simp [hnf])]
  rw [e] at this
  show SlAt H1 90 1 _ fr.length _
  rw [hnf];exact this
 have hE:Ext (aR R a) H H1:=⟨st1,by omega,fun c hc hx=>k1 c fun e=>hx (.inl e)⟩
 exact put_mid (B:=⟨B.slots,fr,B.quotas,B.many⟩) h1 (by omega) hpa hpR ((k1 p hpa).trans gp) hf1 hf2 hf3 hn ⟨⟨_,_,_,ga1⟩,(k1 b (na b S1.rb)).trans S1.get,S1.le,S1.eq,S1.rb,S1.lt,S1.c0,S1.c1,S1.co,S1.ol⟩ hu hm hm1 (by simp [f0]) (by simp [f3]) (by simp) (by simp) fun H' hA hX=>hQ H' hA (hE.trans hX)
end Go.AM.YtiolgkhfpnidfaaT
set_option maxRecDepth 100000
namespace Go.AM.YtiolgkhfpnidfaaT
open Go Go.AM Go.Proofs
theorem put_code:S19 = .seq (.reg R19_0) (.seq (.seq (.reg R19_1) (.cond (.tmp 12) (.seq (.reg R19_2) (.ret)) (.skip))) (.seq (.seq (.dreg R19_3) (.cond (.tmp 29) (.seq (.reg R19_4) (.ret)) (.skip))) (.seq (.seq (.reg R19_5) (.cond (.tmp 35) (.seq (.dreg R19_6) (.reg R19_7)) (.skip))) Zput))):=rfl
structure Box1 (H:Hp) (O:List V):Prop where
 l:O.length=14
 c:cellsV (.agg O)=O
 t:O.take 14=O
 o:(O.all oneV)=true
theorem obj_box {k mo me:Int} {ow:Int} {fi:V} (hf1:cellsV fi=[fi]) (hf2:oneV fi=true) (H:Hp):Box1 H (objL k ow fi mo me):=by
 refine ⟨rfl,by simp [cellsV],rfl,?_⟩
 rw [List.all_eq_true]
 intro x hx
 simp only [objL,List.mem_cons,List.not_mem_nil,or_false] at hx
 rcases hx with rfl | rfl | rfl | rfl | rfl | rfl | rfl | rfl | rfl | rfl | rfl | rfl | rfl | rfl<;>first | rfl | exact hf2
theorem ar_new {R:Nat->Prop} {H:Hp} {a:Nat} {A:Ar} (h:ArAt R H a A) (o:Ob):ArAt R (H.new o) a A:=h.ext (X:=noX) (Ext.new h.st o) fun _ _ h=>h
theorem put_full {R:Nat->Prop} {H:Hp} {a:Nat} {A:Ar} (h:ArAt R H a A) {k mo me:Int} {ow:Nat} {fi:V} (hf1:cellsV fi=[fi]) (hf2:oneV fi=true) {q m:Int} (hq:A.quotas[ow]? = some q) (hm:A.many[ow]? = some m) (hqm:q<=m) :
  WF tab 19 [.ptr a 0,objV k ow fi mo me] H fun w H'=>w = .tup [.int .u64 0,.int .i64 8]/\Ext noX H H':=by
 have B:=obj_box (k:=k) (mo:=mo) (me:=me) (ow:=ow) hf1 hf2 H
 have hs:=h.st
 have b1:=B.l;have b2:=B.c;have b3:=B.t;have b4:=B.o
 have b5:(objL k ow fi mo me)[1]? = some (.int .i64 (ow:Int)):=rfl
 have b6:∀ h:1 < (objL k ow fi mo me).length,(objL k ow fi mo me)[1]'h = .int .i64 (ow:Int):=fun _=>rfl
 unfold objV
 generalize objL k ow fi mo me=O at *
 have hlt:=(List.getElem?_eq_some_iff.1 hq).1
 have hb:=h.big.2.2
 refine wf19 (wp_sound _ ?_)
 rw [put_code]
 simp [hs,b1,b2,b4,b5,b6]
 have h1:=ar_new h (.row 44 14 false O)
 refine (has_ok h1 (ow:Int) (by omega)).mono ?_
 rintro _ H1 ⟨rfl,rfl⟩
 have:decide (0<=(ow:Int)/\(ow:Int) < (A.quotas.length:Int))=true:=by simp;omega
 simp only [this]
 generalize hH1:H.new (.row 44 14 false O)=H1 at *
 have hp1:H1.get H.next=some (.row 44 14 false O):=by rw [<- hH1];exact get_new_self _ _
 have hX:Ext noX H H1:=hH1 ▸ Ext.new hs _
 have s1:=h1.st
 have hml:ow < A.many.length:=by rw [<- h.qm];exact hlt
 obtain ⟨vs,vf,vq,vm,g0,gs,gf,gq,gm,-⟩:=h1.row
 obtain ⟨bq,cq,rfl,gq1,gq2,gq3⟩:=sl_open gq (by omega)
 obtain ⟨bm,cm,rfl,gm1,gm2,gm3⟩:=sl_open gm (by omega)
 have hcm:cm[ow]? = some (.int .i64 m):=by
  have:(cm.take (A.many.length*1))[ow]? = some (.int .i64 m):=by rw [gm3,List.getElem?_map,hm];rfl
  rw [List.getElem?_take,if_pos (by omega)] at this;exact this
 have hcq:cq[ow]? = some (.int .i64 q):=by
  have:(cq.take (A.quotas.length*1))[ow]? = some (.int .i64 q):=by rw [gq3,List.getElem?_map,hq];rfl
  rw [List.getElem?_take,if_pos (by omega)] at this;exact this
 have j1:(ow:Int) < (A.many.length:Int):=by omega
 have j2:(ow:Int) < (A.quotas.length:Int):=by omega
 simp [s1,g0,hp1,b5,b6,gm1,gq1,hcm,hcq,j1,j2,hml,hlt,hqm]
 exact hX
theorem ArAt.more {R R' : Nat->Prop} {H:Hp} {a:Nat} {A:Ar} (h:ArAt R H a A) (hR:∀ b,R b->R' b) (hl:∀ b,R' b->b < H.next) (ha:¬ R' a):ArAt R' H a A:=by
 obtain ⟨h1,⟨vs,vf,vq,vm,h2,h3,h4,h5,h6,h7,h8⟩,h9,h10,h11,h12,h13,h14⟩:=h
 exact ⟨h1,⟨vs,vf,vq,vm,h2,h3,h4,h5,h6,fun b hb=>hR b (h7 b hb),h8⟩,h9,hl,ha,h12,h13,h14⟩
theorem put_ok {R:Nat->Prop} {H:Hp} {a:Nat} {A:Ar} (h:ArAt R H a A) {k mo me:Int} {ow:Nat} {fi:V} (hf1:cellsV fi=[fi]) (hf2:oneV fi=true) (hf3:eqV fi fi=true) {q m:Int} (hq:A.quotas[ow]? = some q) (hm:A.many[ow]? = some m) (hqm:m < q) (hm0:0<=m/\m < 1000000000)
  (hfr:∀ n∈A.free,n < A.slots.length) (hu:A.grow.usesAt A.top < 4294967295) (hl:A.slots.length < 100000) :
  WF tab 19 [.ptr a 0,objV k ow fi mo me] H fun w H'=>w = .tup [.int .u64 (A.ref:Nat),.int .i64 0]/\ArAt (Rn R H H') H' a (A.put (objL k ow fi mo me) ow)/\Ext (aR R a) H H':=by
 have B:=obj_box (k:=k) (mo:=mo) (me:=me) (ow:=ow) hf1 hf2 H
 have hs:=h.st
 have b1:=B.l;have b2:=B.c;have b3:=B.t;have b4:=B.o
 have b5:(objL k ow fi mo me)[1]? = some (.int .i64 (ow:Int)):=rfl
 have b6:∀ h:1 < (objL k ow fi mo me).length,(objL k ow fi mo me)[1]'h = .int .i64 (ow:Int):=fun _=>rfl
 have tail:=@put_tail R
 unfold objV
 have hlt:=(List.getElem?_eq_some_iff.1 hq).1
 have hb:=h.big.2.2
 refine wf19 (wp_sound _ ?_)
 rw [put_code]
 generalize hO:objL k ow fi mo me=O at *
 simp [hs,b1,b2,b4,b5,b6]
 have h1:=ar_new h (.row 44 14 false O)
 refine (has_ok h1 (ow:Int) (by omega)).mono ?_
 rintro _ H1 ⟨rfl,rfl⟩
 have:decide (0<=(ow:Int)/\(ow:Int) < (A.quotas.length:Int))=true:=by simp;omega
 simp only [this]
 have hp1:(H.new (.row 44 14 false O)).get H.next=some (.row 44 14 false O):=get_new_self _ _
 have hn1:(H.new (.row 44 14 false O)).next=H.next+1:=rfl
 have hX:Ext noX H (H.new (.row 44 14 false O)):=Ext.new hs _
 generalize hH1:H.new (.row 44 14 false O)=H1 at *
 have s1:=h1.st
 have hml:ow < A.many.length:=by rw [<- h.qm];exact hlt
 have hrow:=h1.row
 obtain ⟨vs,vf,vq,vm,g0,gs,gf,gq,gm,hR,d1,d2,d3⟩:=hrow
 obtain ⟨bq,cq,rfl,gq1,gq2,gq3⟩:=sl_open gq (by omega)
 obtain ⟨bm,cm,rfl,gm1,gm2,gm3⟩:=sl_open gm (by omega)
 have hcm:cm[ow]? = some (.int .i64 m):=by
  have:(cm.take (A.many.length*1))[ow]? = some (.int .i64 m):=by rw [gm3,List.getElem?_map,hm];rfl
  rw [List.getElem?_take,if_pos (by omega)] at this;exact this
 have hcq:cq[ow]? = some (.int .i64 q):=by
  have:(cq.take (A.quotas.length*1))[ow]? = some (.int .i64 q):=by rw [gq3,List.getElem?_map,hq];rfl
  rw [List.getElem?_take,if_pos (by omega)] at this;exact this
 have j1:(ow:Int) < (A.many.length:Int):=by omega
 have j2:(ow:Int) < (A.quotas.length:Int):=by omega
 have j3:¬ q<=m:=by omega
 have f1:=gf.cells;have f2:=gf.one;have fl:=gf.lenV 90;have sl:=gs.lenV 100
 have v1:=gs.cells;have v2:=gs.one
 have hRp:∀ b,R b->b < H.next:=h.rl
 have hpa:H.next≠a:=by have:=h.lt;omega
 have hpR:¬ R H.next:=fun hr=>by have:=hRp _ hr;omega
 by_cases hfe:A.free=[]
 ·have hf0:A.free.length=0:=by rw [hfe];rfl
  simp [s1,g0,hp1,b5,b6,gm1,gq1,hcm,hcq,j1,j2,j3,hml,hlt,hqm,f1,f2,fl,hf0,v1,v2,sl]
  have w32:wr .u32 (A.slots.length:Int)=(A.slots.length:Int):=by rw [wr_u32 (by omega) (by omega)]
  rw [w32]
  have hlta:=h1.lt
  rw [hf0] at gf
  have rl:=fun b hb=>h1.rl b (hR b hb)
  have af:a∉rowsOf vf:=fun hm=>h1.ra (hR a (.inr (.inl hm)))
  have asl:a∉rowsOf vs:=fun hm=>h1.ra (hR a (.inl hm))
  have pf:H.next∉rowsOf vf:=fun hm=>hpR (hR _ (.inr (.inl hm)))
  have ps:H.next∉rowsOf vs:=fun hm=>hpR (hR _ (.inl hm))
  refine wpD_app1 (H:=H1) (e0:=90) (cells:=[.int .u32 (A.slots.length:Nat)]) (by simp [descOf]) ty90 (by decide) (by simp) (by simp) gf (fun c hc=>⟨rl c (.inr (.inl hc)),by simp [s1]⟩) rfl (by show (0+1)*4<=_;omega) (by omega) (by simp [s1]) fun vf' H2 hS2 hA2=>?_
  have le2:H1.next<=H2.next:=hA2.le
  obtain ⟨ka1,ka2⟩:=hA2.keep a hlta af (by simp [s1])
  have ka1:=ka1.trans g0
  have c1:=hS2.cells;have o1:=hS2.one
  simp [ka1,ka2,c1,o1,v1,v2]
  generalize hH3:(H2.bump.flush.put a (.row 98 4 false [vs,vf',.sl bq 0 A.quotas.length none 1,.sl bm 0 A.many.length none 1])).bump=H3
  have st3:H3.stale=[]:=by rw [<- hH3];simp
  have n3:H3.next=H2.next+1+1:=by rw [<- hH3];simp
  have ga3:H3.get a=some (.row 98 4 false [vs,vf',.sl bq 0 A.quotas.length none 1,.sl bm 0 A.many.length none 1]):=by rw [<- hH3];simp
  have g3:∀ c,c≠a->c∉H2.stale->H3.get c=H2.get c:=fun c hc hst=>by
   rw [<- hH3]
   simp [Hp.get_put,two_ne hc,Hp.get_flush,hst]
  have keep3:∀ c,c < H1.next->c≠a->c∉rowsOf vf->H3.get c=H1.get c:=fun c hc ha hf=>by
   obtain ⟨k1,k2⟩:=hA2.keep c hc hf (by simp [s1])
   rw [g3 c ha k2,k1]
  have na:∀ c,R c->c≠a:=fun c hc e=>h1.ra (e ▸ hc)
  have gs3:SlAt H3 100 16 vs A.slots.length (A.slots.flatMap Sl.cs):=gs.of_get fun c hc=>keep3 c (rl c (.inl hc)) (na c (hR c (.inl hc))) (d1 c hc).1
  refine wpL_app1 (H:=H3) (e0:=100) (cells:=[.int .u32 0,.bool false,.int .u8 0,.int .i64 0,.bool false,.nilm,.int .i64 0,.int .i64 0,.nils,.int .u64 0,.int .u8 0,.int .i64 0,.str [],.int .i64 0,.int .u64 0,.int .i64 0]) (by simp [descOf]) ty100 (by decide) (by simp) (by simp [n3]) gs3 (fun c hc=>⟨by have:=rl c (.inl hc);omega,by simp [st3]⟩) rfl (by show (A.slots.length+1)*144<=_;omega) (by omega) (by simp [st3]) fun vs' H4 hS4 hA4=>?_
  have le4:H3.next<=H4.next:=hA4.le
  obtain ⟨kb1,kb2⟩:=hA4.keep a (by omega) asl (by simp [st3])
  have kb1:=kb1.trans ga3
  have c2:=hS4.cells;have o2:=hS4.one
  simp [kb1,kb2,c1,o1,c2,o2]
  generalize hH5:H4.flush.put a (.row 98 4 false [vs',vf',.sl bq 0 A.quotas.length none 1,.sl bm 0 A.many.length none 1])=H5
  have st5:H5.stale=[]:=by rw [<- hH5];simp
  have n5:H5.next=H4.next:=by rw [<- hH5];simp
  have ga5:H5.get a=some (.row 98 4 false [vs',vf',.sl bq 0 A.quotas.length none 1,.sl bm 0 A.many.length none 1]):=by rw [<- hH5];simp
  have g5:∀ c,c≠a->c∉H4.stale->H5.get c=H4.get c:=fun c hc hst=>by
   rw [<- hH5]
   simp [Hp.get_put,two_ne hc,Hp.get_flush,hst]
  have keep5:∀ c,c < H1.next->c≠a->c∉rowsOf vf->c∉rowsOf vs->H5.get c=H1.get c:=fun c hc ha hf hv=>by
   obtain ⟨k1,k2⟩:=hA4.keep c (by omega) hv (by simp [st3])
   rw [g5 c ha k2,k1,keep3 c hc ha hf]
  have nf:∀ c∈rowsOf vf',(c∈rowsOf vf\/H1.next<=c)/\c < H2.next/\H5.get c=H2.get c:=fun c hc=>by
   obtain ⟨k1,k2,k3⟩:=hA2.new c hc
   have hca:c≠a:=fun e=>by
    rcases k3 with k3 | k3
    ·exact af (e ▸ k3)
    ·omega
   have hcs:c∉rowsOf vs:=fun hm=>by
    rcases k3 with k3 | k3
    ·exact (d1 c hm).1 k3
    ·have:=rl c (.inl hm);omega
   obtain ⟨k4,k5⟩:=hA4.keep c (by omega) hcs (by simp [st3])
   exact ⟨k3,k2,by rw [g5 c hca k5,k4,g3 c hca k1]⟩
  have ns:∀ c∈rowsOf vs',(c∈rowsOf vs\/H3.next<=c)/\c < H4.next/\H5.get c=H4.get c:=fun c hc=>by
   obtain ⟨k1,k2,k3⟩:=hA4.new c hc
   have hca:c≠a:=fun e=>by
    rcases k3 with k3 | k3
    ·exact asl (e ▸ k3)
    ·omega
   exact ⟨k3,k2,g5 c hca k1⟩
  obtain ⟨r1,r2,r3,r4⟩:=rows_new (vs':=vs') (vf':=vf') (vq':=.sl bq 0 A.quotas.length none 1) (vm':=.sl bm 0 A.many.length none 1) (m:=H1.next) (m':=H5.next) (Ns:=fun c=>H3.next<=c/\c < H4.next) (Nf:=fun c=>H1.next<=c/\c < H2.next) (Nq:=fun _=>False) (Nm:=fun _=>False) hR d1 d2 d3 h1.rl
   (fun c hc=>(ns c hc).1.imp id fun h=>⟨h,(ns c hc).2.1⟩) (fun c hc=>(nf c hc).1.imp id fun h=>⟨h,(nf c hc).2.1⟩) (fun c hc=>.inl hc) (fun c hc=>.inl hc) (fun c hc=>by rcases hc with hc | hc | hc | hc<;>first | exact hc.elim | omega) (fun c hc=>⟨fun h=>by omega,fun h=>h,fun h=>h⟩) (fun c hc=>⟨fun h=>h,fun h=>h⟩) (fun c hc=>hc.elim)
  have h5:ArAt (fun c=>R c\/H1.next<=c/\c < H5.next) H5 a A.grow:=by
   rw [grow_nil hfe]
   refine ⟨st5,⟨_,_,_,_,ga5,?_,?_,?_,?_,r1,r2,r3,r4⟩,by omega,fun c hc=>?_,fun hc=>?_,?_,h.qm,?_⟩
   ·have:=hS4.of_get (H':=H5) fun c hc=>(ns c hc).2.2
    simpa [List.flatMap_append,Sl.cs,zO] using this
   ·have:=hS2.of_get (H':=H5) fun c hc=>(nf c hc).2.2
    simpa [hfe] using this
   ·exact gq.of_get fun c hc=>keep5 c (rl c (.inr (.inr (.inl hc)))) (na c (hR c (.inr (.inr (.inl hc))))) (fun hf=>(d2 c hf).1 hc) (fun hv=>(d1 c hv).2.1 hc)
   ·exact gm.of_get fun c hc=>keep5 c (rl c (.inr (.inr (.inr hc)))) (na c (hR c (.inr (.inr (.inr hc))))) (fun hf=>(d2 c hf).2 hc) (fun hv=>(d1 c hv).2.2 hc)
   ·rcases hc with hc | hc
    ·have:=h1.rl c hc;omega
    ·exact hc.2
   ·rcases hc with hc | hc
    ·exact h.ra hc
    ·omega
   ·intro s hs'
    rcases List.mem_append.1 hs' with hs' | hs'
    ·exact h.o14 s hs'
    ·simp at hs';subst hs';rfl
   ·have:=h.big;simp;omega
  have hp5:H5.get H.next=some (.row 44 14 false O):=by rw [keep5 _ (by omega) hpa pf ps];exact hp1
  have hX5:Ext (aR R a) H H5:=⟨st5,by omega,fun c hc hx=>by
   have hcR:¬ R c:=fun hr=>hx (.inr hr)
   rw [keep5 c (by omega) (fun e=>hx (.inl e)) (fun hf=>hcR (hR c (.inr (.inl hf)))) (fun hv=>hcR (hR c (.inl hv)))]
   exact hX.get c hc fun h=>h⟩
  have hfd:A.grow.free=[]++[A.slots.length]:=by rw [grow_nil hfe];rfl
  have hn:A.grow.slots[A.slots.length]? = some ⟨0,false,zO⟩:=by rw [grow_nil hfe];simp
  have hmg:A.grow.many[ow]? = some m:=by rw [grow_nil hfe];exact hm
  subst hO
  refine put_tail h5 (by omega) hpa (fun hc=>hc.elim hpR fun h=>by omega) hp5 hf1 hf2 hf3 hfd hn (by show 0 < _;omega) hmg hm0 (by simp) (by simp) fun H' hA hE=>⟨?_,?_,hE.st,by have:=hE.le;omega,fun c hc hx=>by
   rw [hE.get c (by omega) (fun h5=>h5.elim (fun e=>hx (.inl e)) fun h=>h.elim (fun h=>hx (.inr h)) fun h=>by omega)]
   exact hX5.get c hc hx⟩
  ·have e:A.ref=(0+1)*4294967296+A.slots.length:=by rw [ref_nil hfe]
   rw [e]
  ·have le5:=hE.le
   have e:(⟨A.grow.slots.set A.slots.length ⟨0+1,true,objL k ow fi mo me⟩,[],A.grow.quotas,A.grow.many.set ow (m+1)⟩:Ar)=A.put (objL k ow fi mo me) ow:=by
    rw [put_nil hfe,grow_nil hfe,hm];simp
   rw [e] at hA
   refine hA.more (fun b hb=>hb.imp id fun h=>⟨by omega,by omega⟩) (fun b hb=>?_) fun hc=>?_
   ·rcases hb with hb | hb
    ·have:=h.rl b hb;omega
    ·exact hb.2
   ·rcases hc with hc | hc
    ·exact h.ra hc
    ·omega
 ·have hf0:¬ ((A.free.length:Int)=0):=by have:=List.length_pos_iff.2 hfe;omega
  have hf0' : ¬ (A.free.length=0):=by have:=List.length_pos_iff.2 hfe;omega
  have hfd:A.free=A.free.dropLast++[A.top]:=by
   have ht:A.top=A.free.getLast hfe:=by unfold Ar.top;rw [grow_ne hfe,List.getLastD_eq_getLast?,List.getLast?_eq_some_getLast hfe];rfl
   rw [ht,List.dropLast_concat_getLast hfe]
  have hmem:A.top∈A.free:=by rw [hfd];simp
  have hn:=List.getElem?_eq_getElem (hfr _ hmem)
  generalize A.slots[A.top]'(hfr _ hmem)=s at hn
  have hus:A.grow.usesAt A.top=s.uses:=by rw [grow_ne hfe];simp [Ar.usesAt,hn]
  have hf2' : ((A.free.length:Int)==0)=false:=by simpa using hf0
  simp [s1,g0,hp1,b5,b6,gm1,gq1,hcm,hcq,j1,j2,j3,hml,hlt,hqm,f1,f2,fl,hf0,hf0',hfe,hf2']
  subst hO
  have hsl:A.grow.slots=A.slots:=by rw [grow_ne hfe]
  refine tail h1 (by omega) hpa hpR hp1 hf1 hf2 hf3 hfd hn (by omega) hm hm0 (by simp) (by simp) fun H' hA hE=>⟨?_,?_,(hX.mono fun _ _ h=>h.elim).trans hE⟩
  ·unfold Ar.ref;rw [hus]
  ·have he:A.put (objL k ow fi mo me) ow=⟨A.slots.set A.top ⟨s.uses+1,true,objL k ow fi mo me⟩,A.free.dropLast,A.quotas,A.many.set ow (m+1)⟩:=by
    unfold Ar.put;rw [hus,grow_ne hfe,hm];rfl
   rw [he]
   refine hA.more (fun b hb=>.inl hb) (fun b hb=>?_) fun hc=>?_
   ·rcases hb with hb | hb
    ·exact hA.rl b hb
    ·exact hb.2
   ·rcases hc with hc | hc
    ·exact h.ra hc
    ·have:=h.lt;omega
end Go.AM.YtiolgkhfpnidfaaT
set_option maxRecDepth 100000
namespace Go.AM.YtiolgkhfpnidfaaT
open Go Go.AM Go.Proofs
structure ApInv (i:Nat) (A:Ar) (live:List Nat) (seen:List Nat):Prop where
 qs:A.quotas=[8]
 ms:A.many=[(live.length:Int)]
 l8:live.length<=8
 nd:live.Nodup
 lv:∀ r∈live,∃ s,∃ m:Nat,A.slots[slotN r]? = some s/\s.used=true/\s.uses=usesN r/\s.o[1]? = some (.int .i64 (0:Nat))/\s.o[4]? = some (.int .i64 m)/\s.o[5]? = some (.int .i64 (m+1:Nat))/\m < i
 fr:∀ n∈A.free,∃ s,A.slots[n]? = some s/\s.used=false
 fn:A.free.Nodup
 us:∀ (n:Nat) s,A.slots[n]? = some s->s.uses<=i
 sl:A.slots.length<=i
 fl:A.free.length<=i
 sn:∀ r∈seen,∃ s,A.slots[slotN r]? = some s/\usesN r<=s.uses
theorem ApInv.start:ApInv 0 ⟨[],[],[8],[0]⟩ [] []:=⟨rfl,rfl,by simp,by simp,by simp,by simp,by simp,by simp,by simp,by simp,by simp⟩
variable {i:Nat} {A:Ar} {live seen:List Nat} {o:List V}
theorem ApInv.next (h:ApInv i A live seen):ApInv (i+1) A live seen :=
 ⟨h.qs,h.ms,h.l8,h.nd,fun r hr=>by obtain ⟨s,m,h1,h2,h3,h4,h5,h6,h7⟩:=h.lv r hr;exact ⟨s,m,h1,h2,h3,h4,h5,h6,by omega⟩,h.fr,h.fn,fun n s hs=>by have:=h.us n s hs;omega,by have:=h.sl;omega,by have:=h.fl;omega,h.sn⟩
theorem ApInv.inj (h:ApInv i A live seen) {r r' : Nat} (hr:r∈live) (hr' : r'∈live) (he:slotN r=slotN r'):r=r':=by
 obtain ⟨s,m,h1,h2,h3,-⟩:=h.lv r hr
 obtain ⟨s',m',h1',h2',h3',-⟩:=h.lv r' hr'
 rw [he] at h1
 rw [h1] at h1'
 obtain rfl:s=s':=by simpa using h1'
 rw [ref_eq r,ref_eq r',he,<- h3,<- h3']
theorem ApInv.liveA (h:ApInv i A live seen) {r:Nat} (hr:r∈live):liveA A r=true:=by
 obtain ⟨s,m,h1,h2,h3,-⟩:=h.lv r hr
 unfold Go.AM.YtiolgkhfpnidfaaT.liveA
 rw [h1];simp [h2,h3]
theorem ApInv.lt (h:ApInv i A live seen) (hi:i < 4294967296) {r:Nat} (hr:r∈live):r < 18446744073709551616:=by
 obtain ⟨s,m,h1,h2,h3,-⟩:=h.lv r hr
 have h4:=h.us _ _ h1
 have h5:slotN r < 4294967296:=slotN_lt r
 have:=ref_eq r
 omega
theorem ApInv.drop (h : ApInv i A live seen) {r : Nat} (hr : r ∈ live) : ApInv (i + 1) (A.drop (slotN r) 0) (live.erase r) seen := by
  obtain ⟨s, m, h1, h2, h3, -⟩ := h.lv r hr
  have hn := (List.getElem?_eq_some_iff.1 h1).1
  have hlen : (live.erase r).length + 1 = live.length := by rw [List.length_erase_of_mem hr]; have := List.length_pos_of_mem hr; omega
  have hnf : slotN r ∉ A.free := fun hc => by obtain ⟨s', g1, g2⟩ := h.fr _ hc; rw [h1] at g1; obtain rfl : s = s' := by simpa using g1
                                              rw [h2] at g2; cases g2
  refine ⟨h.qs, ?_, by have := h.l8; omega, h.nd.erase _, ?_, ?_, ?_, ?_, by have := h.sl; simp [Ar.drop]; omega, by have := h.fl; simp [Ar.drop]; omega, ?_⟩
  · show A.many.set 0 _ = _
    rw [h.ms]; simp; omega
  · intro r' hr'
    have hm := List.mem_of_mem_erase hr'
    have hne : r' ≠ r := fun e => by subst e; exact (List.Nodup.not_mem_erase h.nd) hr'
    have hsl : slotN r ≠ slotN r' := fun e => hne (h.inj hm hr e.symm)
    obtain ⟨s', m', g1, g2, g3, g4, g5, g6, g7⟩ := h.lv r' hm
    exact ⟨s', m', by simp only [Ar.drop]; rw [List.getElem?_set_ne hsl]; exact g1, g2, g3, g4, g5, g6, by omega⟩
  · intro n hn'
    rcases List.mem_append.1 hn' with hn' | hn'
    · obtain ⟨s', g1, g2⟩ := h.fr n hn'
      exact ⟨s', by simp only [Ar.drop]; rw [List.getElem?_set_ne (fun e => hnf (by rw [e]; exact hn'))]; exact g1, g2⟩
    · simp at hn'; subst hn'
      exact ⟨_, by simp only [Ar.drop]; rw [List.getElem?_set_self hn], rfl⟩
  · show (A.free ++ [slotN r]).Nodup
    rw [List.nodup_append]
    exact ⟨h.fn, by simp, fun a ha b hb => by simp at hb; subst hb; exact fun e => hnf (e ▸ ha)⟩
  · intro n s' hs'
    simp only [Ar.drop] at hs'
    by_cases hc : slotN r = n
    · subst hc
      rw [List.getElem?_set_self hn, h1] at hs'
      simp at hs'; subst hs'
      have := h.us _ _ h1
      show s.uses ≤ _; omega
    · rw [List.getElem?_set_ne hc] at hs'
      have := h.us _ _ hs'; omega
  · intro r' hr'
    obtain ⟨s', g1, g2⟩ := h.sn r' hr'
    by_cases hc : slotN r = slotN r'
    · rw [← hc, h1] at g1
      obtain rfl : s = s' := by simpa using g1
      exact ⟨_, by simp only [Ar.drop]; rw [← hc, List.getElem?_set_self hn], by simp [h1]; exact g2⟩
    · exact ⟨s', by simp only [Ar.drop]; rw [List.getElem?_set_ne hc]; exact g1, g2⟩
theorem ApInv.top (h:ApInv i A live seen):∃ s,A.grow.slots[A.top]? = some s/\s.used=false/\s.uses<=i/\A.grow.usesAt A.top=s.uses/\(A.slots[A.top]? = some s\/A.top=A.slots.length)/\A.top∉A.grow.free.dropLast/\A.top<=i/\A.grow.slots.length<=i+1/\(∀ (n:Nat) s',A.slots[n]? = some s'->A.grow.slots[n]? = some s')/\(∀ n∈A.grow.free.dropLast,n∈A.free):=by
 by_cases hf:A.free=[]
 ·rw [top_nil hf,grow_nil hf]
  refine ⟨⟨0,false,zO⟩,by simp,rfl,by simp,by simp [Ar.usesAt],.inr rfl,by simp,h.sl,by have:=h.sl;simp;omega,fun n s' hs'=>?_,by simp⟩
  show (A.slots++_)[n]? = _
  rw [List.getElem?_append_left (List.getElem?_eq_some_iff.1 hs').1];exact hs'
 ·have ht:A.top=A.free.getLast hf:=by unfold Ar.top;rw [grow_ne hf,List.getLastD_eq_getLast?,List.getLast?_eq_some_getLast hf];rfl
  have hm:A.top∈A.free:=by rw [ht];exact List.getLast_mem hf
  obtain ⟨s,g1,g2⟩:=h.fr _ hm
  have hlt:=(List.getElem?_eq_some_iff.1 g1).1
  rw [grow_ne hf]
  refine ⟨s,g1,g2,h.us _ _ g1,by simp [Ar.usesAt,g1],.inl g1,fun hc=>?_,by have:=h.sl;omega,by have:=h.sl;omega,fun n s' hs'=>hs',fun n hn=>(List.dropLast_sublist _).subset hn⟩
  have hd:=h.fn
  rw [<- List.dropLast_concat_getLast hf,List.nodup_append] at hd
  exact hd.2.2 _ hc _ (by rw [ht];simp) rfl
theorem ApInv.ref_slot (h:ApInv i A live seen) (hi:i < 4294967296):slotN A.ref=A.top/\usesN A.ref=A.grow.usesAt A.top+1:=by
 obtain ⟨s,h1,h2,h3,h4,h5,h6,h7,-⟩:=h.top
 exact slot_of _ _ (by omega)
theorem ApInv.fresh (h:ApInv i A live seen) (hi:i < 4294967296):A.ref∉seen/\A.ref∉live:=by
 obtain ⟨s,h1,h2,h3,h4,h5,h6,h7,-⟩:=h.top
 obtain ⟨e1,e2⟩:=h.ref_slot hi
 constructor
 ·intro hc
  obtain ⟨s',g1,g2⟩:=h.sn _ hc
  rw [e1] at g1;rw [e2] at g2
  rcases h5 with h5 | h5
  ·rw [h5] at g1
   obtain rfl:s=s':=by simpa using g1
   omega
  ·have:=(List.getElem?_eq_some_iff.1 g1).1;omega
 ·intro hc
  obtain ⟨s',m,g1,g2,-⟩:=h.lv _ hc
  rw [e1] at g1
  rcases h5 with h5 | h5
  ·rw [h5] at g1
   obtain rfl:s=s':=by simpa using g1
   rw [h2] at g2;cases g2
  ·have:=(List.getElem?_eq_some_iff.1 g1).1;omega
theorem ApInv.put (h:ApInv i A live seen) (hi:i < 4294967296) (hl:live.length < 8) (ho1:o[1]? = some (.int .i64 (0:Nat))) (ho4:o[4]? = some (.int .i64 (i:Nat))) (ho5:5 < o.length) :
  ApInv (i+1) { A.put o 0 with slots:=(A.put o 0).slots.set A.top ⟨A.grow.usesAt A.top+1,true,o.set 5 (.int .i64 (i+1:Nat))⟩ } (live++[A.ref]) (seen++[A.ref]):=by
 obtain ⟨s,h1,h2,h3,h4,h5,h6,h7,h8,h9,h10⟩:=h.top
 obtain ⟨e1,e2⟩:=h.ref_slot hi
 obtain ⟨f1,f2⟩:=h.fresh hi
 have ht:=(List.getElem?_eq_some_iff.1 h1).1
 have hg:∀ n,A.top≠n->((A.grow.slots.set A.top ⟨A.grow.usesAt A.top+1,true,o⟩).set A.top ⟨A.grow.usesAt A.top+1,true,o.set 5 (.int .i64 (i+1:Nat))⟩)[n]? = A.grow.slots[n]?:=fun n hn=>by rw [List.getElem?_set_ne hn,List.getElem?_set_ne hn]
 have hs:((A.grow.slots.set A.top ⟨A.grow.usesAt A.top+1,true,o⟩).set A.top ⟨A.grow.usesAt A.top+1,true,o.set 5 (.int .i64 (i+1:Nat))⟩)[A.top]? = some ⟨A.grow.usesAt A.top+1,true,o.set 5 (.int .i64 (i+1:Nat))⟩:=by rw [List.getElem?_set_self (by simpa using ht)]
 have hnt:∀ r∈live,A.top≠slotN r:=fun r hr e=>by
  obtain ⟨s',m,g1,g2,-⟩:=h.lv _ hr
  have:=h9 _ _ g1
  rw [<- e,h1] at this
  obtain rfl:s=s':=by simpa using this
  rw [h2] at g2;cases g2
 refine ⟨h.qs,?_,by simp;omega,?_,?_,?_,?_,?_,?_,?_,?_⟩
 ·show A.many.set 0 _=_
  rw [h.ms];simp
 ·rw [List.nodup_append]
  exact ⟨h.nd,by simp,fun a ha b hb=>by simp at hb;subst hb;exact fun e=>f2 (e ▸ ha)⟩
 ·intro r hr
  rcases List.mem_append.1 hr with hr | hr
  ·obtain ⟨s',m,g1,g2,g3,g4,g5,g6,g7⟩:=h.lv _ hr
   exact ⟨s',m,(hg _ (hnt r hr)).trans (h9 _ _ g1),g2,g3,g4,g5,g6,by omega⟩
  ·simp at hr;subst hr
   rw [e1,e2]
   exact ⟨_,i,hs,rfl,rfl,by rw [List.getElem?_set_ne (by omega)];exact ho1,by rw [List.getElem?_set_ne (by omega)];exact ho4,by rw [List.getElem?_set_self ho5],by omega⟩
 ·intro n hn
  obtain ⟨s',g1,g2⟩:=h.fr n (h10 n hn)
  exact ⟨s',(hg n fun e=>h6 (e ▸ hn)).trans (h9 _ _ g1),g2⟩
 ·show A.grow.free.dropLast.Nodup
  by_cases hf:A.free=[]
  ·rw [grow_nil hf];simp
  ·rw [grow_ne hf];exact h.fn.sublist (List.dropLast_sublist _)
 ·intro n s' hs'
  have hs' : ((A.grow.slots.set A.top _).set A.top _)[n]? = some s':=hs'
  by_cases hc:A.top=n
  ·subst hc
   rw [hs] at hs'
   simp at hs';subst hs'
   show A.grow.usesAt A.top+1<=_;omega
  ·rw [hg n hc] at hs'
   by_cases hf:A.free=[]
   ·rw [grow_nil hf] at hs'
    have hs' : (A.slots++[_])[n]? = some s':=hs'
    rw [top_nil hf] at hc
    have hb:=(List.getElem?_eq_some_iff.1 hs').1
    rw [List.getElem?_append_left (by simp at hb;omega)] at hs'
    have:=h.us _ _ hs';omega
   ·rw [grow_ne hf] at hs'
    have:=h.us _ _ hs';omega
 ·show ((A.grow.slots.set _ _).set _ _).length<=_
  simpa using h8
 ·show A.grow.free.dropLast.length<=_
  by_cases hf:A.free=[]
  ·rw [grow_nil hf];simp
  ·rw [grow_ne hf];have:=h.fl;simp;omega
 ·intro r hr
  have key:∀ n s',A.slots[n]? = some s'->A.top≠n->((A.grow.slots.set A.top ⟨A.grow.usesAt A.top+1,true,o⟩).set A.top ⟨A.grow.usesAt A.top+1,true,o.set 5 (.int .i64 (i+1:Nat))⟩)[n]? = some s':=fun n s' g hn=>(hg n hn).trans (h9 _ _ g)
  rcases List.mem_append.1 hr with hr | hr
  ·obtain ⟨s',g1,g2⟩:=h.sn _ hr
   by_cases hc:A.top=slotN r
   ·rw [<- hc]
    refine ⟨_,hs,?_⟩
    rw [<- hc] at g1
    have:=h9 _ _ g1
    rw [h1] at this
    obtain rfl:s=s':=by simpa using this
    show usesN r<=A.grow.usesAt A.top+1;omega
   ·exact ⟨s',key _ _ g1 hc,g2⟩
  ·simp at hr;subst hr
   rw [e1,e2]
   exact ⟨_,hs,Nat.le_refl _⟩
end Go.AM.YtiolgkhfpnidfaaT
set_option maxRecDepth 100000
namespace Go.AM.YtiolgkhfpnidfaaT
open Go Go.AM Go.Proofs
theorem fr0 {A:Ar} (e:A.free=[]):∀ n∈A.free,n < A.slots.length:=fun n hn=>by rw [e] at hn;cases hn
end Go.AM.YtiolgkhfpnidfaaT
namespace Go.AM.YtiolgkhfpnidfaaT
open Go Go.AM Go.Proofs
set_option maxRecDepth 100000
abbrev R14_0:List SOp:=[(some 4,.assign (.const (.bool false)),none)]
abbrev R14_1:List SOp:=[(some 8,.move (.tmp 0),none),
 (some 9,.move (.tmp 1),none),
 (some 10,.lookup 25 (.tmp 8) (.tmp 9) true,none),
 (some 7,.move (.tmp 10),none),
 (some 11,.extract (.tmp 7) 0,none),
 (some 12,.extract (.tmp 7) 1,none),
 (some 5,.alloc 93,none),
 (none,.store 93 (.tmp 5) (.tmp 11),none),
 (some 6,.assign (.tmp 12),none)]
abbrev R14_2:List SOp:=[(some 13,.move (.tmp 6),none),
 (some 4,.assign (.tmp 13),none)]
abbrev S14:SCode:=.seq (.reg R14_0) (.seq (.reg R14_1) (.seq (.reg R14_2) (.ret)))
theorem slim14:slimC tab 14 (Try.f14.body.getD .skip)=S14:=by kernel_rfl
theorem wf14 {xs:List V} {H:Hp} {Q:V->Hp->Prop} (h:WC tab S14 (frame xs 0 .nil) H (resQ tab [.tmp 4] Q)):WF tab 14 xs H Q:=WF.of_slim (T:=tab) (f:=14) rfl fn14 rfl slim14 rfl h
abbrev R15_0:List SOp:=[(some 4,.assign (.const (.bool false)),none)]
abbrev R15_1:List SOp:=[(some 5,.move (.tmp 0),none),
 (some 6,.move (.tmp 1),none),
 (some 7,.call ⟨.value (.func 14),#[(.tmp 5),(.tmp 6)],#[25,29]⟩,none)]
abbrev R15_2:List SOp:=[(some 4,.assign (.const (.bool false)),none)]
abbrev R15_3:List SOp:=[(some 8,.move (.tmp 0),none),
 (some 9,.move (.tmp 1),none),
 (some 10,.build 93 #[],none),
 (none,.mapUpdate 25 (.tmp 8) (.tmp 9) (.tmp 10),none)]
abbrev R15_4:List SOp:=[(some 4,.assign (.const (.bool true)),none)]
abbrev S15:SCode:=.seq (.reg R15_0) (.seq (.seq (.reg R15_1) (.cond (.tmp 7) (.seq (.reg R15_2) (.ret)) (.skip))) (.seq (.reg R15_3) (.seq (.reg R15_4) (.ret))))
theorem slim15:slimC tab 15 (Try.f15.body.getD .skip)=S15:=by kernel_rfl
theorem wf15 {xs:List V} {H:Hp} {Q:V->Hp->Prop} (h:WC tab S15 (frame xs 0 .nil) H (resQ tab [.tmp 4] Q)):WF tab 15 xs H Q:=WF.of_slim (T:=tab) (f:=15) rfl fn15 rfl slim15 rfl h
end Go.AM.YtiolgkhfpnidfaaT
namespace Go.AM.YtiolgkhfpnidfaaT
open Go Go.AM
end Go.AM.YtiolgkhfpnidfaaT
set_option maxRecDepth 100000
namespace Go.AM.YtiolgkhfpnidfaaT
open Go Go.AM Go.Proofs
theorem findE_app (k:V) (e:V×V×Nat):∀ (es:List (V×V×Nat)) (n:Nat) {r:Option (Nat×V)},findE k es n=some r->findE k (es++[e]) n=match r with | some p=>some (some p) | none=>(match sameK k e.1 with | some true=>some (some (n+es.length,e.2.1)) | some false=>some none | none=>none)
 | [],n,r,h=>by
  simp only [findE] at h;cases h
  simp only [List.nil_append,findE]
  cases sameK k e.1 with
  | none=>rfl
  | some b=>cases b<;>rfl
 | x :: es,n,r,h=>by
  simp only [findE] at h
  simp only [List.cons_append,findE]
  cases hs:sameK k x.1 with
  | none=>rw [hs] at h;cases h
  | some b =>
   rw [hs] at h
   cases b with
   | true=>cases h;rfl
   | false =>
    have h:findE k es (n+1)=some r:=h
    have:=findE_app k e es (n+1) h
    dsimp only
    rw [this]
    cases r with
    | some p=>rfl
    | none=>simp only [List.length_cons,show n+1+es.length=n+(es.length+1) from by omega]
def SetOk (es:List (V×V×Nat)) (l:List Int):Prop:=∀ x:Int,if x∈l then ∃ j,findE (.int .u64 x) es 0=some (some (j,.agg [])) else findE (.int .u64 x) es 0=some none
theorem SetOk.nil:SetOk [] []:=fun x=>by simp [findE]
theorem SetOk.add {es:List (V×V×Nat)} {l:List Int} (h:SetOk es l) (n:Int) (c:Nat) (hn:n∉l):SetOk (es++[(.int .u64 n,.agg [],c)]) (l++[n]):=by
 intro x
 have hx:=h x
 by_cases hl:x∈l
 ·rw [if_pos hl] at hx
  obtain ⟨j,hj⟩:=hx
  rw [if_pos (by simp [hl])]
  exact ⟨j,by rw [findE_app _ _ _ _ hj]⟩
 ·rw [if_neg hl] at hx
  have:=findE_app (.int .u64 x) (.int .u64 n,.agg [],c) es 0 hx
  by_cases he:x=n
  ·subst he
   rw [if_pos (by simp)]
   refine ⟨0+es.length,?_⟩
   rw [this]
   simp [sameK,same1]
  ·rw [if_neg (by simp [hl,he]),this]
   have:(x==n)=false:=by simp [he]
   simp [sameK,same1,this]
theorem SetOk.old {es:List (V×V×Nat)} {l:List Int} (h:SetOk es l) (n:Int) (hn:n∈l):SetOk es (l++[n]):=by
 intro x
 have hx:=h x
 by_cases hl:x∈l
 ·rw [if_pos hl] at hx;rw [if_pos (by simp [hl])];exact hx
 ·rw [if_neg hl] at hx
  rw [if_neg (by rintro hm;simp at hm;rcases hm with h | h;exact hl h;subst h;exact hl hn)]
  exact hx
theorem has_set {H:Hp} {b:Nat} {ro:Bool} {es:List (V×V×Nat)} {c:Nat} {l:List Int} {r:Int} (hs:H.stale=[]) (hg:H.get b=some (.map ro es c)) (hS:SetOk es l):WF tab 14 [.mp b,.int .u64 r] H fun v H'=>v = .bool (decide (r∈l))/\Ext noX H H':=by
 have hE:Ext noX H ((H.new (Ob.row 93 0 false [])).put H.next (Ob.row 93 0 false [])):=(Ext.new hs _).putge _ (Nat.le_refl _)
 refine wf14 (wp_sound _ ?_)
 have h:=hS r
 by_cases hm:r∈l
 ·rw [if_pos hm] at h
  obtain ⟨j,hj⟩:=h
  simp [hs,hg,hj,hm,hE]
 ·rw [if_neg hm] at h
  simp [hs,hg,h,hm,hE]
theorem add_set {H:Hp} {b:Nat} {es:List (V×V×Nat)} {c:Nat} {l:List Int} {r:Int} (hs:H.stale=[]) (hb:b < H.next) (hg:H.get b=some (.map false es c)) (hS:SetOk es l):WF tab 15 [.mp b,.int .u64 r] H fun v H'=>v = .bool (!decide (r∈l))/\Ext (· = b) H H'/\∃ es' c',H'.get b=some (.map false es' c')/\SetOk es' (l++[r]):=by
 refine wf15 (wp_sound _ ?_)
 simp [hs]
 refine (has_set hs hg hS).mono ?_
 rintro v H1 ⟨rfl,hE⟩
 have h:=hS r
 have hg1:H1.get b=some (.map false es c):=by rw [hE.get b hb (by simp [noX])];exact hg
 have hE' : Ext (· = b) H H1:=hE.mono (fun _ _ h=>h.elim)
 by_cases hm:r∈l
 ·simp [hm,hE.st]
  exact ⟨hE',⟨es,⟨c,hg1⟩,hS.old r hm⟩⟩
 ·rw [if_neg hm] at h
  simp [hm,hE.st,hg1,h]
  exact ⟨hE'.trans (Ext.put hE.st _ rfl),hS.add r c hm⟩
end Go.AM.YtiolgkhfpnidfaaT
set_option maxRecDepth 100000
namespace Go.AM.YtiolgkhfpnidfaaT
open Go Go.AM Go.Proofs
theorem wf_ext {T:Tab} {f:FuncId} {xs:List V} {H H' : Hp} {v:V} {e:List V->Hp->Option (V×Hp)} {fn:Func} {c:Code} {Q:V->Hp->Prop} (h0:T.ext f=some e) (h1:T.fn f=some fn) (h2:fn.body=some c) (h:e xs H=some (v,H')) (hq:Q v H'):WF T f xs H Q :=
 ⟨1,v,H',by simp only [evCall,h1,h2,h0,h],hq⟩
theorem wf_told {f:FuncId} {xs:List V} {H H' : Hp} {v:V} {e:List V->Hp->Option (V×Hp)} {fn:Func} {Q:V->Hp->Prop} (h0:tab.ext f=some e) (h1:tab.fn f=some fn) (h2:fn.body.isSome=true) (h:e xs H=some (v,H')) (hq:Q v H'):WF tab f xs H Q:=by
 obtain ⟨c,hc⟩:=Option.isSome_iff_exists.1 h2
 exact wf_ext h0 h1 hc h hq
theorem del_ok {H:Hp} {b i n:Nat} {cs:List V} {l:List Nat} (hs:H.stale=[]) (hg:H.get b=some (.row 29 1 false cs)) (hl:l.length=n) (hn:n<=cs.length) (hc:cs.take n=l.map fun r=>.int .u64 (r:Nat)) (hi:i < n) :
  WF tab 24 [.sl b 0 n none 1,.int .i64 (i:Nat),.int .i64 ((i:Int)+1)] H fun w H'=>w = .sl b 0 (n-1) none 1/\H' = H.put b (.row 29 1 false (((l.eraseIdx i).map fun r=>.int .u64 (r:Nat))++[.int .u64 0]++cs.drop n)):=by
 have hall:(cs.take n).all (isK .u64)=true:=by rw [hc,List.all_eq_true];intro x hx;obtain ⟨y,-,rfl⟩:=List.mem_map.1 hx;rfl
 have hE:delE .u64 29 [.sl b 0 n none 1,.int .i64 (i:Nat),.int .i64 ((i:Int)+1)] H=some (.sl b 0 (n-1) none 1,H.put b (.row 29 1 false (((l.eraseIdx i).map fun r=>.int .u64 (r:Nat))++[.int .u64 0]++cs.drop n))):=by
  have e1:((i:Int)+1).toNat=i+1:=by omega
  have e2:(i:Int).toNat=i:=by omega
  have c1:(0:Int)<=(i:Int):=by omega
  have c2:(i:Int) < (i:Int)+1:=by omega
  have c3:(i:Int)+1<=(n:Int):=by omega
  have e3:i+1-i=1:=by omega
  simp only [delE,hs,hg,hall,c1,c2,c3,hn,e1,e2,e3,and_self,if_true]
  rw [hc,<- List.map_take,<- List.map_drop,<- List.map_append,List.eraseIdx_eq_take_drop_succ]
  rfl
 exact wf_told (Eq.trans rfl rfl) fn24 rfl hE ⟨rfl,rfl⟩
theorem erase_at:∀ (l:List Nat) (i:Nat) (h:i < l.length),l.Nodup->l.erase l[i]=l.eraseIdx i
 | x :: r,0,h,hn=>by simp
 | x :: r,i+1,h,hn=>by
  rw [List.nodup_cons] at hn
  have hr:i < r.length:=by simpa using h
  have:¬ (x=r[i]):=fun e=>hn.1 (by rw [e];exact List.getElem_mem _)
  simp only [List.getElem_cons_succ,List.eraseIdx_cons_succ]
  rw [List.erase_cons_tail (by simpa using this),erase_at r i (by simpa using h) hn.2]
def tells0:Option (V×Hp)->Option (Bool×Bool×List Nat×Option Ob)
 | some (.bool b,H)=>some (b,Nat.blt 0 H.next,H.stale,H.get 0)
 | _=>none
theorem tells0_wf {f:FuncId} {H:Hp} {k:Nat} {b:Bool} {o0:Option Ob} (h:tells0 (evCall tab k f [] H)=some (b,true,[],o0)):WF tab f [] H fun v H'=>v = .bool b/\0 < H'.next/\H'.stale=[]/\H'.get 0=o0:=by
 unfold tells0 at h
 split at h
 ·rename_i b' H' he
  simp only [Option.some.injEq,Prod.mk.injEq] at h
  obtain ⟨rfl,h2,h3,h4⟩:=h
  exact ⟨k,_,H',he,rfl,by simpa [Nat.blt_eq] using h2,h3,h4⟩
 ·cases h
theorem awake3_1 (cs:List V):tells0 (evCall tab 40 16 [] (hR [(5,1,cs)]))=some (true,true,[],some (.row 5 1 true cs)):=by kernel_rfl
theorem awake3_2:∃ o,tells0 (evCall tab 40 16 [] (hR []))=some (true,true,[],o):=⟨(match tells0 (evCall tab 40 16 [] (hR [])) with | some (_,_,_,o)=>o | none=>none),by kernel_rfl⟩
structure LIn (H:Hp) (v:V) (l:List Nat):Prop where
 len:∀ e,lenV v (some (.slice e))=some (.int .i64 l.length)
 row:l≠[]->v = .sl 0 0 l.length none 1/\∃ cs,H.get 0=some (.row 5 1 true cs)/\∀ (i:Nat) x,l[i]? = some x->cs[i]? = some (.int .u8 (x:Nat))
structure IA (n0 mb i:Nat) (v:V) (l:List Nat) (R:Nat->Prop) (A:Ar) (live seen:List Nat) (w:V) (F:Fr) (H:Hp):Prop where
 ar:ArAt R H n0 A
 inv:ApInv i A live seen
 sl:SlAt H 29 1 w live.length (live.map fun r=>.int .u64 (r:Nat))
 wr:∀ b∈rowsOf w,¬ R b/\n0 < b/\b≠mb/\b < H.next
 rg:∀ b,R b->n0 < b/\b≠mb
 mg:∃ es c,H.get mb=some (.map false es c)/\SetOk es (seen.map fun (r:Nat)=>(r:Int))
 ml:n0 < mb/\mb < H.next
 li:LIn H v l
 lz:l≠[]->0 < n0
 f3:F.get 3=some (.ptr n0 0)
 f4:F.get 4=some (.mp mb)
 f5:F.get 5=some w
 f24:F.get 24=some v
 f25:F.get 25=some (.int .i64 l.length)
 f26:F.get 26=some (.int .i64 i)
def LA (n0:Nat) (v:V) (l:List Nat) (m:Nat) (F:Fr) (H:Hp):Prop:=∃ i mb R A live seen w,i+m=l.length/\IA n0 mb i v l R A live seen w F H
def Za24:SCode:=.seq (.reg R7_24) (.cond (.tmp 83) (.reg R7_25) (.skip))
def Za16:SCode:=.seq (.reg R7_16) (.seq (.seq (.reg R7_17) (.cond (.tmp 68) (.seq (.reg R7_18) (.ret)) (.skip))) (.seq (.seq (.reg R7_19) (.cond (.tmp 70) (.exit 1) (.skip))) (.seq (.seq (.reg R7_20) (.cond (.tmp 74) (.seq (.reg R7_21) (.ret)) (.skip))) (.seq (.reg R7_22) (.seq (.reg R7_23) Za24)))))
def Zadr:SCode:=.seq (.reg R7_13) (.seq (.reg R7_14) (.seq (.reg R7_15) (.exit 1)))
theorem apart_code:L7_0 = .seq (.reg R7_10) (.seq (.cond (.tmp 27) (.skip) (.exit 0)) (.seq (.block 1 (.seq (.reg R7_11) (.seq (.seq (.reg R7_12) (.cond (.tmp 38) Zadr (.skip))) Za16))) (.reg R7_26))):=rfl
variable {n0 mb i m:Nat} {v w:V} {l:List Nat} {R:Nat->Prop} {A:Ar} {live seen:List Nat} {F:Fr} {H:Hp} {Q:PC}
theorem IA.ext (h:IA n0 mb i v l R A live seen w F H) {H' : Hp} (hX:Ext noX H H') {F' : Fr} (f3:F'.get 3=F.get 3) (f4:F'.get 4=F.get 4) (f5:F'.get 5=F.get 5) (f24:F'.get 24=F.get 24) (f25:F'.get 25=F.get 25) (f26:F'.get 26=F.get 26):IA n0 mb i v l R A live seen w F' H':=by
 have hg:∀ b,b < H.next->H'.get b=H.get b:=fun b hb=>hX.get b hb fun h=>h
 have hle:=hX.le
 refine ⟨h.ar.ext hX fun _ _ h=>h,h.inv,h.sl.of_get fun b hb=>hg b (h.wr b hb).2.2.2,fun b hb=>?_,h.rg,?_,⟨h.ml.1,by have:=h.ml.2;omega⟩,⟨h.li.len,fun hl=>?_⟩,h.lz,by rw [f3,h.f3],by rw [f4,h.f4],by rw [f5,h.f5],by rw [f24,h.f24],by rw [f25,h.f25],by rw [f26,h.f26]⟩
 ·obtain ⟨a,b,c,d⟩:=h.wr b hb;exact ⟨a,b,c,by omega⟩
 ·obtain ⟨es,c,h1,h2⟩:=h.mg;exact ⟨es,c,by rw [hg mb h.ml.2];exact h1,h2⟩
 ·obtain ⟨h1,cs,h2,h3⟩:=h.li.row hl
  exact ⟨h1,cs,by rw [hg 0 (by have:=h.lz hl;have:=h.ar.lt;omega)];exact h2,h3⟩
theorem IA.more (h:IA n0 mb i v l R A live seen w F H) {F' : Fr} (f3:F'.get 3=F.get 3) (f4:F'.get 4=F.get 4) (f5:F'.get 5=F.get 5) (f24:F'.get 24=F.get 24) (f25:F'.get 25=F.get 25) (f26:F'.get 26=some (.int .i64 (i+1:Nat))):IA n0 mb (i+1) v l R A live seen w F' H :=
 ⟨h.ar,h.inv.next,h.sl,h.wr,h.rg,h.mg,h.ml,h.li,h.lz,by rw [f3,h.f3],by rw [f4,h.f4],by rw [f5,h.f5],by rw [f24,h.f24],by rw [f25,h.f25],f26⟩
theorem apart_drop (h:IA n0 mb i v l R A live seen w F H) (him:i+m=l.length) (hl60:l.length<=60) {x:Nat} (hx:l[i]? = some x) (hxb:x < 256) (hne:live≠[]) (f6:F.get 6=some (.int .i64 (i:Nat))) (f7:F.get 7=some (.int .u8 (x:Nat))) :
  wp tab Zadr F H (sqQ tab Za16 (blockQ 1 (sqQ tab (.reg R7_26) (loopQ (LA n0 v l) m Q)))):=by
 have hs:=h.ar.st
 have hlp:=List.length_pos_iff.2 hne
 have hi:i < l.length:=(List.getElem?_eq_some_iff.1 hx).1
 obtain ⟨b,cs,rfl,hb1,hb2,hb3⟩:=sl_open h.sl hlp
 have f5:=h.f5;have f3:=h.f3
 have hlv:=h.inv.l8
 generalize hn:live.length=n at *
 have t1:(x:Int).tdiv 3=((x / 3:Nat):Int):=by rw [Int.tdiv_eq_ediv_of_nonneg (by omega)];rfl
 have w1:wr .i64 ((x / 3:Nat):Int)=((x / 3:Nat):Int):=by rw [wr_i64 (by omega) (by omega)]
 have w2:wr .u8 ((x / 3:Nat):Int)=((x / 3:Nat):Int):=by rw [wr_u8 (by omega) (by omega)]
 have t2:((x / 3:Nat):Int).tmod (n:Int)=((x / 3 % n:Nat):Int):=by rw [Int.tmod_eq_emod_of_nonneg (by omega)];rfl
 have hk:x / 3 % n < n:=Nat.mod_lt _ hlp
 have hn0:¬ n=0:=by omega
 generalize x / 3=y at *
 generalize y % n=k at *
 have hkl:k < live.length:=by omega
 have hmem:=List.getElem_mem hkl
 have hlk:=List.getElem?_eq_getElem hkl
 have herase:=erase_at live k hkl h.inv.nd
 generalize live[k]=r at hmem hlk herase
 have hck:cs[k]? = some (.int .u64 (r:Nat)):=by
  have:(cs.take (n*1))[k]? = some (.int .u64 (r:Nat)):=by rw [hb3,List.getElem?_map,hlk];rfl
  rw [List.getElem?_take,if_pos (by omega)] at this;exact this
 have k1:(k:Int) < (n:Int):=by omega
 have wk:wr .i64 ((k:Int)+1)=(k:Int)+1:=by rw [wr_i64 (by omega) (by omega)]
 simp [Zadr,hs,f3,f5,f7,t1,w1,w2,t2,hn0,hb1,hck,k1]
 obtain ⟨s,mm,g1,g2,g3,g4,-⟩:=h.inv.lv r hmem
 have hsl:=h.inv.sl
 refine (drop_ok h.ar r (h.inv.lt (by omega) hmem) (h.inv.liveA hmem) g1 (ow:=0) g4 (by rw [h.inv.ms];simp) (by rw [h.inv.ms];rfl) (by omega) (by have:=h.inv.fl;omega)).mono ?_
 rintro _ H1 ⟨hA1,hX1⟩
 have hwb:=h.wr b (by simp [rowsOf])
 have hna:=h.ar.lt
 have hb1' : H1.get b=some (.row 29 1 false cs):=by rw [hX1.get b hwb.2.2.2 fun hx=>hx.elim (fun e=>by omega) hwb.1];exact hb1
 have le1:=hX1.le
 simp [hA1.st,f5,wk]
 refine (del_ok hA1.st hb1' hn (by omega) (by rw [Nat.mul_one] at hb3;exact hb3) (by omega)).mono ?_
 rintro _ H2 ⟨rfl,rfl⟩
 have wi:wr .i64 ((i:Int)+1)=(i+1:Nat):=wr_succ (by omega)
 simp [hA1.st,h.f26,wi]
 rw [<- herase]
 have hel:(live.erase r).length=n-1:=by rw [List.length_erase_of_mem hmem,hn]
 generalize hcs' : ((live.erase r).map (fun r=>V.int .u64 (r:Nat))++V.int .u64 0 :: cs.drop n)=cs'
 have hcl:n<=cs'.length:=by rw [<- hcs'];simp;omega
 have hct:cs'.take (n-1)=(live.erase r).map (fun r=>V.int .u64 (r:Nat)):=by rw [<- hcs',List.take_left' (by simp [hel])]
 have keep:∀ c,c≠b->(H1.put b (.row 29 1 false cs')).get c=H1.get c:=fun c hc=>get_put_ne _ hc
 have keep2:∀ c,c < H.next->c≠n0->¬ R c->c≠b->(H1.put b (.row 29 1 false cs')).get c=H.get c:=fun c hc h1 h2 h3=>by
  rw [keep c h3];exact hX1.get c hc fun hx=>hx.elim h1 h2
 have hmR:¬ R mb:=fun hr=>(h.rg mb hr).2 rfl
 refine ⟨m-1,by omega,i+1,mb,Rn R H H1,A.drop (slotN r) 0,live.erase r,seen,.sl b 0 (n-1) none 1,by omega,?_⟩
 refine ⟨hA1.of_get hA1.st (Nat.le_refl _) fun c hc=>keep c fun e=>?_,h.inv.drop hmem,?_,fun c hc=>?_,fun c hc=>?_,?_,⟨h.ml.1,by have:=h.ml.2;show mb < H1.next;omega⟩,⟨h.li.len,fun hl=>?_⟩,h.lz,by simp [h.f3],by simp [h.f4],by simp,by simp [h.f24],by simp [h.f25],by simp⟩
 ·rw [e] at hc
  rcases hc with hc | hc | hc
  ·omega
  ·exact hwb.1 hc
  ·have:=hwb.2.2.2;omega
 ·have:=SlAt.row (H:=H1.put b (.row 29 1 false cs')) (sz:=1) b (n-1) cs' (get_put_self _ _ _) (by omega)
  rw [Nat.mul_one,hct] at this
  rw [hel];exact this
 ·simp [rowsOf] at hc;rw [hc]
  exact ⟨fun hx=>hx.elim hwb.1 fun hx=>by have:=hwb.2.2.2;omega,hwb.2.1,hwb.2.2.1,by show b < H1.next;have:=hwb.2.2.2;omega⟩
 ·rcases hc with hc | hc
  ·exact h.rg c hc
  ·have:=h.ml.2;exact ⟨by omega,by omega⟩
 ·obtain ⟨es,c,h1,h2⟩:=h.mg
  exact ⟨es,c,by rw [keep2 mb h.ml.2 (by have:=h.ml.1;omega) hmR (Ne.symm hwb.2.2.1)];exact h1,h2⟩
 ·obtain ⟨h1,cs0,h2,h3⟩:=h.li.row hl
  have h0:=h.lz hl
  exact ⟨h1,cs0,by rw [keep2 0 (by omega) (by omega) (fun hr=>by have:=(h.rg 0 hr).1;omega) (by omega)];exact h2,h3⟩
theorem apart_set (hA:ArAt R H n0 A) {s0:Sl} {n:Nat} (hn:A.slots[n]? = some s0) (ho:s0.o.length=14) {b:Nat} {cs:List V} (S1:SlotAt R H n0 A n s0 b cs) {z:Int} :
  ArAt R (H.put b (.row 100 16 false (cs.set (n*16+2+5) (.int .i64 z)))) n0 { A with slots:=A.slots.set n { s0 with o:=s0.o.set 5 (.int .i64 z) } }:=by
 obtain ⟨vs,vf,vq,vm,g0,gs,gf,gq,gm,hR,d1,d2,d3⟩:=hA.row
 obtain ⟨vf',vq',vm',g0'⟩:=S1.row
 rw [g0] at g0'
 obtain ⟨rfl,rfl,rfl,rfl⟩:vs = .sl b 0 A.slots.length none 16/\vf=vf'/\vq=vq'/\vm=vm':=by simpa using g0'
 have hba:b≠n0:=fun e=>hA.ra (e ▸ S1.rb)
 have hl:=S1.le
 have hnl:=S1.lt
 have keep:∀ c,c≠b->(H.put b (.row 100 16 false (cs.set (n*16+2+5) (.int .i64 z)))).get c=H.get c:=fun c hc=>get_put_ne _ hc
 have bmem:b∈rowsOf (.sl b 0 A.slots.length none 16):=by simp [rowsOf]
 refine ⟨hA.st,⟨_,_,_,_,(keep n0 (Ne.symm hba)).trans g0,?_,gf.of_get fun c hc=>keep c fun e=>(d1 b bmem).1 (e ▸ hc),gq.of_get fun c hc=>keep c fun e=>(d1 b bmem).2.1 (e ▸ hc),gm.of_get fun c hc=>keep c fun e=>(d1 b bmem).2.2 (e ▸ hc),hR,d1,d2,d3⟩,hA.lt,hA.rl,hA.ra,?_,hA.qm,by have:=hA.big;simpa using this⟩
 ·have hw:=slot_write (s':={ s0 with o:=s0.o.set 5 (.int .i64 z) }) (cs':=cs.set (n*16+2+5) (.int .i64 z)) hA.o14 S1.eq hnl (by simpa using ho) (fun j hj=>by rw [List.getElem?_set_ne (by omega)]) fun q hq=>?_
  ·show SlAt _ 100 16 _ (A.slots.set n _).length ((A.slots.set n _).flatMap Sl.cs)
   rw [<- hw,List.length_set]
   exact SlAt.row _ _ _ (get_put_self _ _ _) (by rw [List.length_set];exact hl)
  ·match q,hq with
   | 0,_=>rw [List.getElem?_set_ne (by omega)];exact S1.c0
   | 1,_=>rw [List.getElem?_set_ne (by omega)];exact S1.c1
   | q+2,hq =>
    show _=(s0.o.set 5 (.int .i64 z))[q]?
    by_cases h5:q=5
    ·subst h5;rw [List.getElem?_set_self (by omega),List.getElem?_set_self (by omega)]
    ·rw [List.getElem?_set_ne (by omega),List.getElem?_set_ne (by omega),show n*16+(q+2)=n*16+2+q by omega];exact S1.co q (by omega)
 ·intro s hs
  rcases List.mem_or_eq_of_mem_set hs with h' | rfl
  ·exact hA.o14 s h'
  ·simpa using ho
theorem apart_put (h : IA n0 mb i v l R A live seen w F H) (him : i + m = l.length) (hl60 : l.length ≤ 60) {x : Nat} (hx : l[i]? = some x) (f6 : F.get 6 = some (.int .i64 (i : Nat))) :
    wp tab Za16 F H (blockQ 1 (sqQ tab (.reg R7_26) (loopQ (LA n0 v l) m Q))) := by
  have hs := h.ar.st
  have hi : i < l.length := (List.getElem?_eq_some_iff.1 hx).1
  have f5 := h.f5; have f3 := h.f3; have f4 := h.f4
  have hlv := h.inv.l8
  have hq : A.quotas[0]? = some 8 := by rw [h.inv.qs]; rfl
  have hm : A.many[0]? = some (live.length : Int) := by rw [h.inv.ms]; rfl
  have lc := h.sl.lenV 29
  have wi : wr .i64 ((i : Int) + 1) = (i + 1 : Nat) := wr_succ (by omega)
  simp [Za16, hs, f3, f6]
  by_cases hl8 : live.length < 8
  · have hi32 : i < 4294967296 := by omega
    obtain ⟨s0, q1, q2, q3, q4, q5, q6, q7, q8, q9, q10⟩ := h.inv.top
    obtain ⟨r1, r2⟩ := h.inv.ref_slot hi32
    obtain ⟨r3, r4⟩ := h.inv.fresh hi32
    have hput := h.inv.put (o := objL 0 0 .nilm (i : Int) 0) hi32 hl8 rfl rfl (show 5 < 14 by decide)
    have hlv : liveA (A.put (objL 0 0 .nilm (i : Int) 0) 0) A.ref = true := by
      unfold liveA
      have : A.top < A.grow.slots.length := (List.getElem?_eq_some_iff.1 q1).1
      rw [r1, r2]
      simp [Ar.put, this]
    have hsn : (A.put (objL 0 0 .nilm (i : Int) 0) 0).slots[slotN A.ref]? = some ⟨A.grow.usesAt A.top + 1, true, objL 0 0 .nilm (i : Int) 0⟩ := by
      have : A.top < A.grow.slots.length := (List.getElem?_eq_some_iff.1 q1).1
      rw [r1]; simp [Ar.put, this]
    have hr64 : A.ref < 18446744073709551616 := by have := ref_eq A.ref; have := slotN_lt A.ref; omega
    refine (put_ok (ow := 0) (k := 0) (mo := (i : Int)) (me := 0) (fi := .nilm) h.ar rfl rfl rfl hq hm (by omega) (by omega) (fun n hn => ?_) (by omega) (by have := h.inv.sl; omega)).mono ?_
    · obtain ⟨s', g1, -⟩ := h.inv.fr n hn; exact (List.getElem?_eq_some_iff.1 g1).1
    rintro _ H1 ⟨rfl, hA1, hX1⟩
    generalize A.ref = r at *
    generalize hA' : A.put (objL 0 0 .nilm (i : Int) 0) 0 = A' at *
    have hl8' : (live.length : Int) < 8 := by omega
    have hmR : ¬ R mb := fun hr => (h.rg mb hr).2 rfl
    have hml := h.ml
    have hX1g : ∀ c, c < H.next → c ≠ n0 → ¬ R c → H1.get c = H.get c := fun c hc h1 h2 => hX1.get c hc fun hx => hx.elim h1 h2
    have le1 := hX1.le
    simp [hA1.st, f4, f5, lc, hl8', hl8]
    obtain ⟨es, cc, m1, m2⟩ := h.mg
    have m1' : H1.get mb = some (.map false es cc) := by rw [hX1g mb hml.2 (by omega) hmR]; exact m1
    refine (add_set (r := (r : Int)) hA1.st (by omega) m1' m2).mono ?_
    rintro _ H2 ⟨rfl, hX2, es', c', m3, m4⟩
    have hni : ((r : Int) ∈ seen.map fun (r : Nat) => (r : Int)) = False := by
      simp only [List.mem_map, eq_iff_iff, iff_false, not_exists, not_and]
      rintro y hy he
      exact r3 (by have : y = r := by omega
                   exact this ▸ hy)
    simp only [hni]
    have le2 := hX2.le
    have hX2g : ∀ c, c < H1.next → c ≠ mb → H2.get c = H1.get c := fun c hc h1 => hX2.get c hc h1
    have hwr := h.wr
    have hsl2 : SlAt H2 29 1 w live.length (live.map fun r => .int .u64 (r : Nat)) := h.sl.of_get fun c hc => by
      obtain ⟨h1, h2, h3, h4⟩ := hwr c hc
      rw [hX2g c (by omega) h3, hX1g c h4 (by omega) h1]
    simp [hX2.st, f5]
    refine wpL_app1 (H := H2) (e0 := 29) (cells := [.int .u64 (r : Nat)]) (by simp [descOf]) ty29 (by decide) (by simp [f5]) (by simp) hsl2 (fun c hc => ⟨by have := (hwr c hc).2.2.2; omega, by simp [hX2.st]⟩) rfl (by show (live.length + 1) * 8 ≤ _; omega) (by omega) (by simp [hX2.st]) fun v' H3 hS3 hA3 => ?_
    obtain ⟨g1, g2, g3, g4, g5⟩ := app_flush' hX2.st hS3 hA3
    have lt1 := hA1.lt
    have hRm : ∀ c, Rn R H H1 c → n0 < c ∧ c ≠ mb ∧ c ∉ rowsOf w ∧ c < H1.next := fun c hc => by
      have hcl := hA1.rl c hc
      rcases hc with hc | hc
      · have := h.rg c hc
        exact ⟨this.1, this.2, fun hm => (hwr c hm).1 hc, hcl⟩
      · exact ⟨by omega, by omega, fun hm => by have := (hwr c hm).2.2.2; omega, hcl⟩
    have hA4 : ArAt (Rn R H H1) H3.flush n0 A' := hA1.of_get g3 (by omega) fun c hc => by
      rcases hc with rfl | hc
      · rw [g2 c (by omega) (fun hm => by have := (hwr c hm).2.1; omega), hX2g c lt1 (by omega)]
      · obtain ⟨k1, k2, k3, k4⟩ := hRm c hc
        rw [g2 c (by omega) k3, hX2g c k4 k2]
    simp [f3]
    refine (get_ptr hA4 r hr64 hlv).mono ?_
    rintro _ H5 ⟨b, s1, cs, rfl, z1, z2, z3, S5, z4, z5, z6⟩
    rw [← r1] at hsn
    rw [hsn] at z1
    obtain rfl : s1 = _ := by simpa using z1.symm
    have hg5 : H5.get b = some (.row 100 16 false cs) := by rw [z4]; exact S5.get
    have hsl5 := S5.le
    have hlt5 := S5.lt
    have j5 : slotN r * 16 + 2 + 5 + 1 ≤ cs.length := by omega
    simp [z5, Za24, f6, wi, hg5, j5, h.f26]
    rw [show ((i : Int) + 1) = ((i + 1 : Nat) : Int) by omega]
    have hA5 : ArAt (Rn R H H1) H5 n0 A' := hA4.of_get z5 z6 fun c _ => by rw [z4]
    have hA6 := apart_set hA5 (z := (i + 1 : Nat)) hsn (by rfl) ⟨by rw [z4]; exact S5.row, hg5, S5.le, S5.eq, S5.rb, S5.lt, S5.c0, S5.c1, S5.co, S5.ol⟩
    rw [← r1] at hput
    have hbR := hRm b S5.rb
    have keep6 : ∀ c, c ≠ b → (H5.put b (.row 100 16 false (cs.set (slotN r * 16 + 2 + 5) (.int .i64 (i + 1 : Nat))))).get c = H3.flush.get c := fun c hc => by rw [get_put_ne _ hc, z4]
    have keep2 : ∀ c, c < H.next → c ≠ n0 → ¬ R c → c ≠ mb → c ∉ rowsOf w → (H5.put b (.row 100 16 false (cs.set (slotN r * 16 + 2 + 5) (.int .i64 (i + 1 : Nat))))).get c = H.get c := fun c hc h1 h2 h3 h4 => by
      have hcb : c ≠ b := fun e => by
        have hR := S5.rb
        rw [← e] at hR
        rcases hR with hR | hR
        · exact h2 hR
        · omega
      rw [keep6 c hcb, g2 c (by omega) h4, hX2g c (by omega) h3, hX1g c hc h1 h2]
    refine ⟨m - 1, by omega, i + 1, mb, Rn R H H1, _, live ++ [r], seen ++ [r], v', by omega, ⟨hA6, hput, ?_, fun c hc => ?_, fun c hc => ⟨(hRm c hc).1, (hRm c hc).2.1⟩, ⟨es', c', ?_, by simpa using m4⟩, ⟨hml.1, ?_⟩, ⟨h.li.len, fun hl => ?_⟩, h.lz, by simp [h.f3], by simp [h.f4], by simp, by simp [h.f24], by simp [h.f25], by simp⟩⟩
    · have := g1.of_get (H' := H5.put b (.row 100 16 false (cs.set (slotN r * 16 + 2 + 5) (.int .i64 (i + 1 : Nat))))) fun c hc => keep6 c fun e => by
        obtain ⟨k1, k2⟩ := g5 c hc
        rw [e] at k2
        rcases k2 with k2 | k2
        · exact hbR.2.2.1 k2
        · have := hbR.2.2.2; omega
      simpa using this
    · obtain ⟨k1, k2⟩ := g5 c hc
      rcases k2 with k2 | k2
      · obtain ⟨y1, y2, y3, y4⟩ := hwr c k2
        exact ⟨fun hx => hx.elim y1 fun hx => by omega, y2, y3, by show c < H5.next; omega⟩
      · exact ⟨fun hx => by have := (hRm c hx).2.2.2; omega, by omega, by omega, by show c < H5.next; omega⟩
    · rw [keep6 mb (Ne.symm hbR.2.1), g2 mb (by omega) (fun hm => (hwr mb hm).2.2.1 rfl)]; exact m3
    · show mb < H5.next; omega
    · obtain ⟨h1, cs0, h2, h3⟩ := h.li.row hl
      have h0 := h.lz hl
      exact ⟨h1, cs0, by rw [keep2 0 (by omega) (by omega) (fun hr => by have := (h.rg 0 hr).1; omega) (by omega) (fun hm => by have := (hwr 0 hm).2.1; omega)]; exact h2, h3⟩
  · refine (put_full (ow := 0) (k := 0) (mo := (i : Int)) (me := 0) (fi := .nilm) h.ar rfl rfl hq hm (by omega)).mono ?_
    rintro _ H1 ⟨rfl, hX1⟩
    have hl8' : ¬ ((live.length : Int) < 8) := by omega
    simp [hX1.st, f5, lc, hl8', hl8, h.f26, wi]
    exact ⟨m - 1, by omega, i + 1, mb, R, A, live, seen, w, by omega, (h.ext hX1 (F' := F) rfl rfl rfl rfl rfl rfl).more (by simp) (by simp) (by simp) (by simp) (by simp) (by simp)⟩
end Go.AM.YtiolgkhfpnidfaaT
set_option maxRecDepth 100000
namespace Go.AM.YtiolgkhfpnidfaaT
open Go Go.AM Go.Proofs
variable {n0 mb i m:Nat} {v w:V} {l:List Nat} {R:Nat->Prop} {A:Ar} {live seen:List Nat} {F:Fr} {H:Hp}
def LB (n0:Nat) (R:Nat->Prop) (A:Ar) (live:List Nat) (w:V) (m:Nat) (F:Fr) (H:Hp):Prop :=
 ∃ j,j+m=live.length/\ArAt R H n0 A/\SlAt H 29 1 w live.length (live.map fun r=>.int .u64 (r:Nat))/\F.get 3=some (.ptr n0 0)/\F.get 90=some w/\F.get 91=some (.int .i64 live.length)/\F.get 92=some (.int .i64 j)
theorem apart_last (hA:ArAt R H n0 A) (hI:ApInv i A live seen) (hi:i<=60) (hsl:SlAt H 29 1 w live.length (live.map fun r=>.int .u64 (r:Nat))) (f3:F.get 3=some (.ptr n0 0)) (f90:F.get 90=some w) (f91:F.get 91=some (.int .i64 live.length)) (f92:F.get 92=some (.int .i64 0)) :
  WC tab (.loop L7_1) F H (blockQ 2 (sqQ tab (.seq (.reg R7_34) (.ret)) (resQ tab [.tmp 2] fun v _=>v = .bool true))):=by
 refine loop_of (LB n0 R A live w) (m:=live.length) ⟨0,by omega,hA,hsl,f3,f90,f91,f92⟩ ?_
 clear f3 f90 f91 f92 hsl hA
 rintro m F H ⟨j,hj,hA,hsl,f3,f90,f91,f92⟩
 have hs:=hA.st
 have h8:=hI.l8
 by_cases hlt:j < live.length
 ·obtain ⟨b,cs,rfl,hb1,hb2,hb3⟩:=sl_open hsl (by omega)
  have hmem:=List.getElem_mem hlt
  have hlk:=List.getElem?_eq_getElem hlt
  generalize live[j]=r at hmem hlk
  have hcj:cs[j]? = some (.int .u64 (r:Nat)):=by
   have:(cs.take (live.length*1))[j]? = some (.int .u64 (r:Nat)):=by rw [hb3,List.getElem?_map,hlk];rfl
   rw [List.getElem?_take,if_pos (by omega)] at this;exact this
  have k1:(j:Int) < (live.length:Int):=by omega
  have wj:wr .i64 ((j:Int)+1)=(j+1:Nat):=wr_succ (by omega)
  simp [L7_1,f3,f90,f91,f92,hs,k1,hb1,hcj,hlt]
  refine (get_ptr hA r (hI.lt (by omega) hmem) (hI.liveA hmem)).mono ?_
  rintro _ H1 ⟨b1,s,cs1,rfl,z1,z2,z3,S,z4,z5,z6⟩
  obtain ⟨s',mm,y1,y2,y3,y4,y5,y6,y7⟩:=hI.lv r hmem
  rw [z1] at y1
  obtain rfl:s=s':=by simpa using y1
  have hg:H1.get b1=some (.row 100 16 false cs1):=by rw [z4];exact S.get
  have x4:=(S.co 4 (by omega)).trans y5
  have x5:=(S.co 5 (by omega)).trans y6
  have wm:wr .i64 ((mm:Int)+1)=(mm+1:Nat):=wr_succ (by omega)
  simp [z5,hg,x4,x5,wm,wj,f92]
  exact ⟨m-1,by omega,j+1,by omega,hA.of_get z5 z6 fun c _=>by rw [z4],hsl.of_get fun c _=>by rw [z4],by simp [f3],by simp [f90],by simp [f91],by simp⟩
 ·have k1:¬ ((j:Int) < (live.length:Int)):=by omega
  simp [L7_1,f3,f90,f91,f92,hs,k1]
theorem apart_walk {v:V} {l:List Nat} {H0:Hp} (hs0:H0.stale=[]) (hlb:∀ x∈l,x < 256) (hw:WF tab 16 [] H0 fun w H'=>w = .bool true/\0 < H'.next/\H'.stale=[]/\LIn H' v l):WF tab 7 [v] H0 fun v _=>v = .bool true:=by
 refine wf7 (wp_sound _ ?_)
 simp [hs0]
 refine hw.mono ?_
 rintro _ H ⟨rfl,hpos,hs,hL⟩
 have hlen:=hL.len 5
 simp [hs,hlen]
 by_cases h60:60 < l.length
 ·have h60' : (60:Int) < (l.length:Int):=by omega
  simp [h60,h60',hs]
 have h60' : ¬ (60:Int) < (l.length:Int):=by omega
 simp [h60,h60',hs]
 refine (new_ok hs).mono ?_
 rintro _ H1 ⟨rfl,hA1,hX1⟩
 simp [hA1.st]
 refine (owner_ok hA1 8 (by omega) (by simp)).mono ?_
 rintro _ H2 ⟨rfl,hA2,hX2⟩
 have hA:(Ar.owner ⟨[],[],[],[]⟩ 8)=(⟨[],[],[8],[0]⟩:Ar):=by
  have:max (8:Int) 0=8:=by omega
  simp [Ar.owner,this]
 rw [hA] at hA2
 have hs2:=hA2.st
 have le1:H.next+1<=H2.next:=by have:=hA2.lt;omega
 have hr2:∀ b,Rn (fun _=>False) H1 H2 b->H.next < b/\b < H2.next:=fun b hb=>by
  rcases hb with hb | hb
  ·exact hb.elim
  ·have:=hA1.lt;omega
 simp [hs2,hlen]
 have hA3:=hA2.ext (X:=noX) (Ext.new hs2 (.map false [] 0)) fun _ _ h=>h
 have keep0:l≠[]->(H2.new (.map false [] 0)).get 0=H.get 0:=fun _=>by
  rw [get_new_ne _ (by omega),hX2.get 0 (by have:=hX1.le;omega) (fun hx=>hx.elim (fun e=>by omega) fun h=>h),hX1.get 0 hpos fun h=>h]
 refine loop_of (LA H.next v l) (m:=l.length) ⟨0,H2.next,Rn (fun _=>False) H1 H2,_,[],[],.nils,by omega,⟨hA3,ApInv.start,.nil,by simp [rowsOf],fun b hb=>⟨(hr2 b hb).1,by have:=(hr2 b hb).2;omega⟩,⟨[],0,get_new_self _ _,SetOk.nil⟩,⟨by omega,by show _ < H2.next+1;omega⟩,⟨hL.len,fun hl=>?_⟩,fun _=>hpos,by simp,by simp,by simp,by simp,by simp,by simp⟩⟩ ?_
 ·obtain ⟨h1,cs,h2,h3⟩:=hL.row hl
  exact ⟨h1,cs,(keep0 hl).trans h2,h3⟩
 generalize H.next=n0
 clear keep0 hA3 hr2 le1 hs2 hA2 hA hX2 hA1 hX1 hL hs hpos
 rintro m F H ⟨i,mb,R,A,live,seen,w,him,h⟩
 have hs:=h.ar.st
 have f24:=h.f24;have f25:=h.f25;have f26:=h.f26;have f5:=h.f5
 by_cases hi:i < l.length
 ·have hi' : (i:Int) < (l.length:Int):=by omega
  have hne:l≠[]:=fun e=>by rw [e] at hi;simp at hi
  obtain ⟨rfl,cs,c1,c2⟩:=h.li.row hne
  have hx:=List.getElem?_eq_getElem hi
  have hxb:=hlb _ (List.getElem_mem hi)
  generalize l[i]=x at hx hxb
  have hcx:=c2 i x hx
  have t1:(x:Int).tmod 3=((x % 3:Nat):Int):=by rw [Int.tmod_eq_emod_of_nonneg (by omega)];rfl
  have lw:=h.sl.lenV 29
  have hfr:∀ {F' : Fr},F'.get 3=F.get 3->F'.get 4=F.get 4->F'.get 5=F.get 5->F'.get 24=F.get 24->F'.get 25=F.get 25->F'.get 26=F.get 26->IA n0 mb i (.sl 0 0 l.length none 1) l R A live seen w F' H:=fun e1 e2 e3 e4 e5 e6=>h.ext (Ext.refl hs) e1 e2 e3 e4 e5 e6
  rw [apart_code]
  by_cases hc:x % 3=0
  ·have t2:(x:Int).tmod 3=0:=by rw [t1,hc];rfl
   by_cases hlv:live=[]
   ·have t3:live.length=0:=by rw [hlv];rfl
    simp [f24,f25,f26,f5,hs,hi',hi,c1,hcx,t2,lw,t3]
    exact apart_put (hfr (by simp) (by simp) (by simp) (by simp) (by simp) (by simp)) him (by omega) hx (by simp)
   ·have t3:(0:Int) < (live.length:Int):=by have:=List.length_pos_iff.2 hlv;omega
    have t3' : 0 < live.length:=List.length_pos_iff.2 hlv
    simp [f24,f25,f26,f5,hs,hi',hi,c1,hcx,t2,lw,t3,t3']
    exact apart_drop (hfr (by simp) (by simp) (by simp) (by simp) (by simp) (by simp)) him (by omega) hx hxb hlv (by simp) (by simp)
  ·have t2:((x:Int).tmod 3==0)=false:=by rw [t1];exact beq_eq_false_iff_ne.2 (by omega)
   simp [f24,f25,f26,f5,hs,hi',hi,c1,hcx,t2,lw]
   exact apart_put (hfr (by simp) (by simp) (by simp) (by simp) (by simp) (by simp)) him (by omega) hx (by simp)
 ·have hil:i=l.length:=by omega
  have hi' : ¬ ((i:Int) < (l.length:Int)):=by omega
  have lw:=h.sl.lenV 29
  rw [apart_code]
  simp [f24,f25,f26,f5,hs,hi',lw]
  exact apart_last h.ar h.inv (by omega) h.sl (by simp [h.f3]) (by simp) (by simp) (by simp)
theorem apart_nils:WF tab 7 [.nils] (hR []) fun v _=>v = .bool true:=by
 obtain ⟨o,hw⟩:=awake3_2
 refine apart_walk (l:=[]) (hR_st _) (by simp) ((tells0_wf hw).mono ?_)
 rintro _ H ⟨rfl,h1,h2,-⟩
 exact ⟨rfl,h1,h2,fun e=>rfl,fun h=>absurd rfl h⟩
theorem apart_sle:WF tab 7 [.sle] (hR []) fun v _=>v = .bool true:=by
 obtain ⟨o,hw⟩:=awake3_2
 refine apart_walk (l:=[]) (hR_st _) (by simp) ((tells0_wf hw).mono ?_)
 rintro _ H ⟨rfl,h1,h2,-⟩
 exact ⟨rfl,h1,h2,fun e=>rfl,fun h=>absurd rfl h⟩
theorem apart_sl (zs:List Int) (hb:∀ z∈zs,0<=z/\z < 256):WF tab 7 [.sl 0 0 zs.length none 1] (hR [(5,1,zs.map (V.int .u8))]) fun v _=>v = .bool true:=by
 refine apart_walk (l:=zs.map Int.toNat) (hR_st _) (fun x hx=>?_) ((tells0_wf (awake3_1 _)).mono ?_)
 ·obtain ⟨z,hz,rfl⟩:=List.mem_map.1 hx
  have:=hb z hz;omega
 ·rintro _ H ⟨rfl,h1,h2,h3⟩
  refine ⟨rfl,h1,h2,fun e=>by simp [lenV_sl],fun _=>⟨by simp,_,h3,fun i x hx=>?_⟩⟩
  rw [List.getElem?_map,Option.map_eq_some_iff] at hx
  obtain ⟨z,hz,rfl⟩:=hx
  have:=hb z (List.mem_of_getElem? hz)
  rw [List.getElem?_map,hz]
  simp;omega
end Go.AM.YtiolgkhfpnidfaaT
