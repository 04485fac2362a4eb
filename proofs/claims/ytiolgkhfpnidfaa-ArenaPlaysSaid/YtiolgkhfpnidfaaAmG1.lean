/- Parts of the abstract machine and of the walks over it, joined: what the law that is claimed here leans on. -/
import Derived.Test.YtiolgkhfpnidfaaAmX
import Derived.Test.YtiolgkhfpnidfaaAmC2
import Derived.Test.YtiolgkhfpnidfaaAmC3
import Derived.KernelRfl
set_option linter.unusedVariables false
set_option linter.unusedSimpArgs false
set_option linter.unnecessarySimpa false
namespace Go.AM.YtiolgkhfpnidfaaT
open Go Go.AM Go.Proofs
set_option maxRecDepth 100000
abbrev R8_0:List SOp:=[(some 2,.assign (.const (.bool false)),none)]
abbrev R8_1:List SOp:=[(some 7,.call ⟨.value (.func 16),#[],#[]⟩,none),
 (some 8,.unOp .not 4 (.tmp 7),none)]
abbrev R8_2:List SOp:=[(some 2,.assign (.const (.bool false)),none)]
abbrev R8_3:List SOp:=[(some 9,.move (.tmp 0),none),
 (some 10,.call ⟨.builtin .len,#[(.tmp 9)],#[57]⟩,none),
 (some 11,.binOp .gtr 3 (.tmp 10) (.const (.int .i64 120)) 3,none)]
abbrev R8_4:List SOp:=[(some 2,.assign (.const (.bool true)),none)]
abbrev R8_5:List SOp:=[(some 12,.call ⟨.value (.func 17),#[],#[]⟩,none),
 (some 13,.build 62 #[],none),
 (some 14,.box 62 (.tmp 13),none),
 (some 3,.assign (.tmp 12),none),
 (some 4,.assign (.tmp 14),none)]
abbrev R8_6:List SOp:=[(some 15,.move (.tmp 0),none),
 (some 16,.call ⟨.builtin .len,#[(.tmp 15)],#[57]⟩,none),
 (some 17,.move (.const (.int .i64 0)),none)]
abbrev R8_7:List SOp:=[(some 18,.binOp .lss 3 (.tmp 17) (.tmp 16) 3,none)]
abbrev R8_8:List SOp:=[(some 19,.indexAddr 57 (.tmp 15) (.tmp 17),none),
 (some 20,.load 65 (.tmp 19),none),
 (some 6,.alloc 65,none),
 (none,.store 65 (.tmp 6) (.tmp 20),none)]
abbrev R8_9:List SOp:=[(some 21,.move (.tmp 4),none),
 (some 22,.move (.tmp 3),none),
 (some 23,.load 65 (.tmp 6),none),
 (some 24,.call ⟨.value (.func 25),#[(.tmp 21),(.tmp 22),(.tmp 23)],#[58,30,65]⟩,none),
 (some 25,.unOp .not 4 (.tmp 24),none),
 (some 26,.move (.tmp 25),none),
 (some 27,.move (.tmp 4),some (some 26,false)),
 (some 28,.move (.tmp 3),some (some 26,false)),
 (some 29,.call ⟨.value (.func 26),#[(.tmp 27),(.tmp 28)],#[58,30]⟩,some (some 26,false)),
 (some 30,.unOp .not 4 (.tmp 29),some (some 26,false)),
 (some 31,.pick (.tmp 26) (.const (.bool true)) (.tmp 30),none)]
abbrev R8_10:List SOp:=[(some 2,.assign (.const (.bool false)),none)]
abbrev R8_11:List SOp:=[(some 32,.binOp .add 3 (.tmp 17) (.const (.int .i64 1)) 3,none),
 (some 17,.move (.tmp 32),none)]
def L8_0:SCode:=.seq (.reg R8_7) (.seq (.cond (.tmp 18) (.skip) (.exit 0)) (.seq (.block 1 (.seq (.reg R8_8) (.seq (.reg R8_9) (.cond (.tmp 31) (.seq (.reg R8_10) (.ret)) (.skip))))) (.reg R8_11)))
abbrev R8_12:List SOp:=[(some 2,.assign (.const (.bool true)),none)]
abbrev S8:SCode:=.seq (.reg R8_0) (.seq (.seq (.reg R8_1) (.cond (.tmp 8) (.seq (.reg R8_2) (.ret)) (.skip))) (.seq (.seq (.reg R8_3) (.cond (.tmp 11) (.seq (.reg R8_4) (.ret)) (.skip))) (.seq (.reg R8_5) (.seq (.seq (.reg R8_6) (.block 0 (.loop L8_0))) (.seq (.reg R8_12) (.ret))))))
theorem slim8:slimC tab 8 (Try.f8.body.getD .skip)=S8:=by kernel_rfl
theorem wf8 {xs:List V} {H:Hp} {Q:V->Hp->Prop} (h:WC tab S8 (frame xs 0 .nil) H (resQ tab [.tmp 2] Q)):WF tab 8 xs H Q:=WF.of_slim (T:=tab) (f:=8) rfl fn8 rfl slim8 rfl h
end Go.AM.YtiolgkhfpnidfaaT
namespace Go.AM.YtiolgkhfpnidfaaT
open Go Go.AM
attribute [simp] wp_skip wp_reg wp_dreg wp_areg ap_ap wp_seq wp_cond wp_block wp_loop wp_exit wp_ret wpL_nil wpL_cons wpD_nil wpD_cons sq_nrm sq_exit sq_ret nm_ap bl_nrm bl_ret bl_exit cd_true cd_false lp_nrm lp_exit lp_ret rs_ret rs_nrm rsQ contL contD kV kAW kA kW kC kCo wantQ oq_p oq_r oq_w oq_c oq_alloc oq_box oq_bs oq_mm oq_ms oq_cv dV dAW dA dW dC dCo isCall skD od_p od_r od_w od_c od_alloc od_box od_bs od_mm od_ms od_cv wantDQ wantS kind convKd lenV_sl lenV_nils lenV_sle lenV_str evP evR evA evW evAW descOf frame opd opds Tr.get_set putD delD resOf getAll kbOk afterA isPt winOk ofVal ofVal0 ofVals binInt binStr binE_int binE_str binE_shl binE_shr binE_eql_agg binE_neq_agg binE_eql_bool binE_neq_bool binE_eql_pn binE_neq_pn binE_eql_nn binE_neq_nn binE_eql_in binE_neq_in binE_eql_ii binE_neq_ii isBoolD isPtrD isIfD isMpD isSlD isC cells_agg cells_bool one_bool cells_int one_int cells_str one_str cells_nilp one_nilp cells_ptr one_ptr cells_nils one_nils cells_sle one_sle cells_sl one_sl cells_nilm one_nilm cells_mp one_mp cells_nilf one_nilf cells_fn one_fn cells_nili one_nili cells_ifc one_ifc isAgg isMapT optI partV zeroV keyOk keyOk1 keyOkS keyOkL eqS sameL same1 sameK esOf partsV fillV placesV setCells mapKeyOk Hp.get_flush Hp.stale_flush Hp.next_flush repl List.nil_append get_new_self get_put_self get_bump next_bump st_new st_put st_bump Hp.next_new Hp.next_put flush_of IntKind.bits tab_ng nna1 nnb1 nna2 nnb2 nna3 nnb3 nna4 nnb4 nna5 nnb5 nna6 nnb6 nna7 nnb7 nna8 nnb8
attribute [simp] ty1 ty2 ty3 ty4 ty5 ty6 ty7 ty8 ty9 ty10 ty11 ty12 ty13 ty14 ty15 ty16 ty17 ty18 ty19 ty20 ty21 ty22 ty23 ty24 ty25 ty26 ty27 ty28 ty29 ty30 ty31 ty32 ty33 ty34 ty37 ty38 ty39 ty40 ty41 ty42 ty44 ty45 ty46 ty47 ty48 ty49 ty50 ty51 ty52 ty53 ty54 ty55 ty57 ty58 ty59 ty60 ty62 ty63 ty64 ty65 ty66 ty67 ty71 ty72 ty74 ty75 ty76 ty77 ty78 ty79 ty80 ty82 ty83 ty84 ty87 ty90 ty93 ty95 ty96 ty98 ty100 ty101 ty107 ty109 ty114 ty120 ty123 ty128 ty139 ty141 ty143 ty148 ty150 ty152 ty157 ty158 ty160 ty161 ty162 ty163 ty164 ty165 ty166 ty168
end Go.AM.YtiolgkhfpnidfaaT
namespace Go.AM.YtiolgkhfpnidfaaT
open Go Go.AM Go.Proofs
set_option maxRecDepth 100000
end Go.AM.YtiolgkhfpnidfaaT
namespace Go.AM.YtiolgkhfpnidfaaT
open Go Go.AM
end Go.AM.YtiolgkhfpnidfaaT
namespace Go.AM.YtiolgkhfpnidfaaT
open Go Go.AM Go.Proofs
set_option maxRecDepth 100000
end Go.AM.YtiolgkhfpnidfaaT
namespace Go.AM.YtiolgkhfpnidfaaT
open Go Go.AM
end Go.AM.YtiolgkhfpnidfaaT
namespace Go.AM.YtiolgkhfpnidfaaT
open Go Go.AM Go.Proofs
set_option maxRecDepth 100000
abbrev R17_0:List SOp:=[(some 0,.assign (.const (.pointer none)),none)]
abbrev R17_1:List SOp:=[(some 1,.build 98 #[],none),
 (some 2,.box 98 (.tmp 1),none),
 (some 0,.assign (.tmp 2),none)]
abbrev S17:SCode:=.seq (.reg R17_0) (.seq (.reg R17_1) (.ret))
theorem slim17:slimC tab 17 (Try.f17.body.getD .skip)=S17:=by kernel_rfl
theorem wf17 {xs:List V} {H:Hp} {Q:V->Hp->Prop} (h:WC tab S17 (frame xs 0 .nil) H (resQ tab [.tmp 0] Q)):WF tab 17 xs H Q:=WF.of_slim (T:=tab) (f:=17) rfl fn17 rfl slim17 rfl h
abbrev R18_0:List SOp:=[(some 4,.assign (.const (.int .i64 0)),none)]
abbrev R18_1:List (SOp×Nat):=[((some 7,.move (.tmp 0),none),0),
 ((some 8,.nilCheck (.tmp 7),none),0),
 ((some 9,.fieldAddr 98 (.tmp 8) 2,none),0),
 ((some 10,.load 59 (.tmp 9),none),0),
 ((some 11,.move (.tmp 1),none),0),
 ((some 12,.call ⟨.builtin .max,#[(.tmp 11),(.const (.int .i64 0))],#[3,3]⟩,none),0),
 ((some 13,.buildSlice 59 1 #[(0,(.tmp 12))],none),0),
 ((some 14,.call ⟨.builtin .append,#[(.tmp 10),(.tmp 13)],#[59,59]⟩,none),0),
 ((some 15,.move (.tmp 0),none),1),
 ((some 16,.nilCheck (.tmp 15),none),1),
 ((some 17,.fieldAddr 98 (.tmp 16) 3,none),1),
 ((some 18,.load 59 (.tmp 17),none),1),
 ((some 19,.buildSlice 59 1 #[(0,(.const (.int .i64 0)))],none),1),
 ((some 20,.call ⟨.builtin .append,#[(.tmp 18),(.tmp 19)],#[59,59]⟩,none),0),
 ((some 5,.move (.tmp 0),none),2),
 ((some 21,.nilCheck (.tmp 5),none),0),
 ((some 22,.fieldAddr 98 (.tmp 21) 2,none),0),
 ((none,.store 59 (.tmp 22) (.tmp 14),none),0),
 ((some 6,.move (.tmp 0),none),3),
 ((some 23,.nilCheck (.tmp 6),none),0),
 ((some 24,.fieldAddr 98 (.tmp 23) 3,none),0),
 ((none,.store 59 (.tmp 24) (.tmp 20),none),0)]
abbrev R18_2:List SOp:=[(some 25,.move (.tmp 0),none),
 (some 26,.nilCheck (.tmp 25),none),
 (some 27,.fieldAddr 98 (.tmp 26) 2,none),
 (some 28,.load 59 (.tmp 27),none),
 (some 29,.call ⟨.builtin .len,#[(.tmp 28)],#[59]⟩,none),
 (some 30,.binOp .sub 3 (.tmp 29) (.const (.int .i64 1)) 3,none),
 (some 4,.assign (.tmp 30),none)]
abbrev S18:SCode:=.seq (.reg R18_0) (.seq (.dreg R18_1) (.seq (.reg R18_2) (.ret)))
theorem slim18:slimC tab 18 (Try.f18.body.getD .skip)=S18:=by kernel_rfl
theorem wf18 {xs:List V} {H:Hp} {Q:V->Hp->Prop} (h:WC tab S18 (frame xs 0 .nil) H (resQ tab [.tmp 4] Q)):WF tab 18 xs H Q:=WF.of_slim (T:=tab) (f:=18) rfl fn18 rfl slim18 rfl h
abbrev R19_0:List SOp:=[(some 3,.box 44 (.tmp 1),none),
 (some 4,.assign (.const (.int .u64 0)),none),
 (some 5,.assign (.const (.int .i64 0)),none)]
abbrev R19_1:List SOp:=[(some 8,.move (.tmp 0),none),
 (some 9,.fieldAddr 44 (.tmp 3) 1,none),
 (some 10,.load 3 (.tmp 9),none),
 (some 11,.call ⟨.value (.func 45),#[(.tmp 8),(.tmp 10)],#[30,3]⟩,none),
 (some 12,.unOp .not 4 (.tmp 11),none)]
abbrev R19_2:List SOp:=[(some 4,.assign (.const (.int .u64 0)),none),
 (some 5,.assign (.const (.int .i64 17)),none)]
abbrev R19_3:List (SOp×Nat):=[((some 13,.move (.tmp 0),none),0),
 ((some 14,.nilCheck (.tmp 13),none),0),
 ((some 15,.fieldAddr 98 (.tmp 14) 3,none),0),
 ((some 16,.load 59 (.tmp 15),none),0),
 ((some 17,.fieldAddr 44 (.tmp 3) 1,none),0),
 ((some 18,.load 3 (.tmp 17),none),0),
 ((some 19,.indexAddr 59 (.tmp 16) (.tmp 18),none),0),
 ((some 20,.load 3 (.tmp 19),none),0),
 ((some 21,.move (.tmp 0),none),0),
 ((some 22,.nilCheck (.tmp 21),none),0),
 ((some 23,.fieldAddr 98 (.tmp 22) 2,none),0),
 ((some 24,.load 59 (.tmp 23),none),0),
 ((some 25,.fieldAddr 44 (.tmp 3) 1,none),0),
 ((some 26,.load 3 (.tmp 25),none),0),
 ((some 27,.indexAddr 59 (.tmp 24) (.tmp 26),none),0),
 ((some 28,.load 3 (.tmp 27),none),0),
 ((some 29,.binOp .geq 3 (.tmp 20) (.tmp 28) 3,none),0)]
abbrev R19_4:List SOp:=[(some 4,.assign (.const (.int .u64 0)),none),
 (some 5,.assign (.const (.int .i64 8)),none)]
abbrev R19_5:List SOp:=[(some 30,.move (.tmp 0),none),
 (some 31,.nilCheck (.tmp 30),none),
 (some 32,.fieldAddr 98 (.tmp 31) 1,none),
 (some 33,.load 96 (.tmp 32),none),
 (some 34,.call ⟨.builtin .len,#[(.tmp 33)],#[96]⟩,none),
 (some 35,.binOp .eql 3 (.tmp 34) (.const (.int .i64 0)) 3,none)]
abbrev R19_6:List (SOp×Nat):=[((some 37,.move (.tmp 0),none),0),
 ((some 38,.nilCheck (.tmp 37),none),0),
 ((some 39,.fieldAddr 98 (.tmp 38) 1,none),0),
 ((some 40,.load 96 (.tmp 39),none),0),
 ((some 41,.move (.tmp 0),none),0),
 ((some 42,.nilCheck (.tmp 41),none),0),
 ((some 43,.fieldAddr 98 (.tmp 42) 0,none),0),
 ((some 44,.load 95 (.tmp 43),none),0),
 ((some 45,.call ⟨.builtin .len,#[(.tmp 44)],#[95]⟩,none),0),
 ((some 46,.convert 3 90 (.tmp 45),none),0),
 ((some 47,.buildSlice 96 1 #[(0,(.tmp 46))],none),0),
 ((some 48,.call ⟨.builtin .append,#[(.tmp 40),(.tmp 47)],#[96,96]⟩,none),0),
 ((some 36,.move (.tmp 0),none),1),
 ((some 49,.nilCheck (.tmp 36),none),0),
 ((some 50,.fieldAddr 98 (.tmp 49) 1,none),0),
 ((none,.store 96 (.tmp 50) (.tmp 48),none),0)]
abbrev R19_7:List SOp:=[(some 51,.move (.tmp 0),none),
 (some 52,.move (.tmp 0),none),
 (some 53,.nilCheck (.tmp 52),none),
 (some 54,.fieldAddr 98 (.tmp 53) 0,none),
 (some 55,.load 95 (.tmp 54),none),
 (some 56,.build 100 #[],none),
 (some 57,.buildSlice 95 1 #[(0,(.tmp 56))],none),
 (some 58,.call ⟨.builtin .append,#[(.tmp 55),(.tmp 57)],#[95,95]⟩,none),
 (some 59,.nilCheck (.tmp 51),none),
 (some 60,.fieldAddr 98 (.tmp 59) 0,none),
 (none,.store 95 (.tmp 60) (.tmp 58),none)]
abbrev R19_8:List (SOp×Nat):=[((some 61,.move (.tmp 0),none),0),
 ((some 62,.nilCheck (.tmp 61),none),0),
 ((some 63,.fieldAddr 98 (.tmp 62) 1,none),0),
 ((some 64,.load 96 (.tmp 63),none),0),
 ((some 65,.move (.tmp 0),none),0),
 ((some 66,.nilCheck (.tmp 65),none),0),
 ((some 67,.fieldAddr 98 (.tmp 66) 1,none),0),
 ((some 68,.load 96 (.tmp 67),none),0),
 ((some 69,.call ⟨.builtin .len,#[(.tmp 68)],#[96]⟩,none),0),
 ((some 70,.binOp .sub 3 (.tmp 69) (.const (.int .i64 1)) 3,none),0),
 ((some 71,.indexAddr 96 (.tmp 64) (.tmp 70),none),0),
 ((some 72,.load 90 (.tmp 71),none),0),
 ((some 6,.assign (.tmp 72),none),0)]
abbrev R19_9:List (SOp×Nat):=[((some 73,.move (.tmp 0),none),0),
 ((some 74,.move (.tmp 0),none),0),
 ((some 75,.nilCheck (.tmp 74),none),0),
 ((some 76,.fieldAddr 98 (.tmp 75) 1,none),0),
 ((some 77,.load 96 (.tmp 76),none),0),
 ((some 78,.move (.tmp 0),none),0),
 ((some 79,.nilCheck (.tmp 78),none),0),
 ((some 80,.fieldAddr 98 (.tmp 79) 1,none),0),
 ((some 81,.load 96 (.tmp 80),none),0),
 ((some 82,.call ⟨.builtin .len,#[(.tmp 81)],#[96]⟩,none),0),
 ((some 83,.binOp .sub 3 (.tmp 82) (.const (.int .i64 1)) 3,none),0),
 ((some 84,.slice 96 (.tmp 77) none (some (.tmp 83)) none,none),0),
 ((some 85,.nilCheck (.tmp 73),none),0),
 ((some 86,.fieldAddr 98 (.tmp 85) 1,none),0),
 ((none,.store 96 (.tmp 86) (.tmp 84),none),0)]
abbrev R19_10:List SOp:=[(some 87,.move (.tmp 0),none),
 (some 88,.nilCheck (.tmp 87),none),
 (some 89,.fieldAddr 98 (.tmp 88) 0,none),
 (some 90,.load 95 (.tmp 89),none),
 (some 91,.move (.tmp 6),none),
 (some 92,.indexAddr 95 (.tmp 90) (.tmp 91),none),
 (some 7,.assign (.tmp 92),none)]
abbrev R19_11:List SOp:=[(some 93,.move (.tmp 7),none),
 (some 94,.nilCheck (.tmp 93),none),
 (some 95,.fieldAddr 100 (.tmp 94) 0,none),
 (some 96,.load 90 (.tmp 95),none),
 (some 97,.binOp .add 90 (.tmp 96) (.const (.int .u32 1)) 90,none),
 (some 98,.nilCheck (.tmp 93),none),
 (some 99,.fieldAddr 100 (.tmp 98) 0,none),
 (none,.store 90 (.tmp 99) (.tmp 97),none)]
abbrev R19_12:List (SOp×Nat):=[((some 100,.move (.tmp 7),none),0),
 ((some 103,.nilCheck (.tmp 100),none),0),
 ((some 104,.fieldAddr 100 (.tmp 103) 1,none),0),
 ((none,.store 4 (.tmp 104) (.const (.bool true)),none),0),
 ((some 101,.move (.tmp 7),none),1),
 ((some 102,.load 44 (.tmp 3),none),1),
 ((some 105,.nilCheck (.tmp 101),none),0),
 ((some 106,.fieldAddr 100 (.tmp 105) 2,none),0),
 ((none,.store 44 (.tmp 106) (.tmp 102),none),0)]
abbrev R19_13:List (SOp×Nat):=[((some 107,.move (.tmp 0),none),0),
 ((some 108,.nilCheck (.tmp 107),none),0),
 ((some 109,.fieldAddr 98 (.tmp 108) 3,none),0),
 ((some 110,.load 59 (.tmp 109),none),0),
 ((some 111,.fieldAddr 44 (.tmp 3) 1,none),0),
 ((some 112,.load 3 (.tmp 111),none),0),
 ((some 113,.indexAddr 59 (.tmp 110) (.tmp 112),none),0),
 ((some 114,.load 3 (.tmp 113),none),0),
 ((some 115,.binOp .add 3 (.tmp 114) (.const (.int .i64 1)) 3,none),0),
 ((some 116,.indexAddr 59 (.tmp 110) (.tmp 112),none),0),
 ((none,.store 3 (.tmp 116) (.tmp 115),none),0)]
abbrev R19_14:List SOp:=[(some 117,.move (.tmp 6),none),
 (some 118,.move (.tmp 7),none),
 (some 119,.nilCheck (.tmp 118),none),
 (some 120,.fieldAddr 100 (.tmp 119) 0,none),
 (some 121,.load 90 (.tmp 120),none),
 (some 122,.call ⟨.value (.func 41),#[(.tmp 117),(.tmp 121)],#[90,90]⟩,none),
 (some 4,.assign (.tmp 122),none),
 (some 5,.assign (.const (.int .i64 0)),none)]
abbrev S19:SCode:=.seq (.reg R19_0) (.seq (.seq (.reg R19_1) (.cond (.tmp 12) (.seq (.reg R19_2) (.ret)) (.skip))) (.seq (.seq (.dreg R19_3) (.cond (.tmp 29) (.seq (.reg R19_4) (.ret)) (.skip))) (.seq (.seq (.reg R19_5) (.cond (.tmp 35) (.seq (.dreg R19_6) (.reg R19_7)) (.skip))) (.seq (.dreg R19_8) (.seq (.dreg R19_9) (.seq (.reg R19_10) (.seq (.reg R19_11) (.seq (.dreg R19_12) (.seq (.dreg R19_13) (.seq (.reg R19_14) (.ret)))))))))))
theorem slim19:slimC tab 19 (Try.f19.body.getD .skip)=S19:=by kernel_rfl
theorem wf19 {xs:List V} {H:Hp} {Q:V->Hp->Prop} (h:WC tab S19 (frame xs 0 .nil) H (resQ tab [.tmp 4,.tmp 5] Q)):WF tab 19 xs H Q:=WF.of_slim (T:=tab) (f:=19) rfl fn19 rfl slim19 rfl h
abbrev R20_0:List SOp:=[(some 6,.move (.tmp 0),none),
 (some 7,.move (.tmp 1),none),
 (some 8,.call ⟨.value (.func 21),#[(.tmp 6),(.tmp 7)],#[30,29]⟩,none),
 (some 4,.assign (.tmp 8),none)]
abbrev R20_1:List SOp:=[(some 9,.move (.tmp 4),none),
 (some 10,.binOp .eql 46 (.tmp 9) (.const (.pointer none)) 46,none)]
abbrev R20_2:List (SOp×Nat):=[((some 11,.move (.tmp 0),none),0),
 ((some 12,.nilCheck (.tmp 11),none),0),
 ((some 13,.fieldAddr 98 (.tmp 12) 3,none),0),
 ((some 14,.load 59 (.tmp 13),none),0),
 ((some 15,.move (.tmp 4),none),0),
 ((some 16,.nilCheck (.tmp 15),none),0),
 ((some 17,.fieldAddr 44 (.tmp 16) 1,none),0),
 ((some 18,.load 3 (.tmp 17),none),0),
 ((some 19,.indexAddr 59 (.tmp 14) (.tmp 18),none),0),
 ((some 20,.load 3 (.tmp 19),none),0),
 ((some 21,.binOp .sub 3 (.tmp 20) (.const (.int .i64 1)) 3,none),0),
 ((some 22,.indexAddr 59 (.tmp 14) (.tmp 18),none),0),
 ((none,.store 3 (.tmp 22) (.tmp 21),none),0)]
abbrev R20_3:List (SOp×Nat):=[((some 27,.move (.tmp 1),none),0),
 ((some 28,.call ⟨.value (.func 46),#[(.tmp 27)],#[29]⟩,none),0),
 ((some 23,.move (.tmp 0),none),1),
 ((some 24,.nilCheck (.tmp 23),none),1),
 ((some 25,.fieldAddr 98 (.tmp 24) 0,none),1),
 ((some 26,.load 95 (.tmp 25),none),1),
 ((some 29,.indexAddr 95 (.tmp 26) (.tmp 28),none),0),
 ((some 5,.assign (.tmp 29),none),0)]
abbrev R20_4:List SOp:=[(some 30,.move (.tmp 5),none),
 (some 31,.move (.tmp 5),none),
 (some 32,.build 44 #[],none),
 (some 33,.nilCheck (.tmp 30),none),
 (some 34,.fieldAddr 100 (.tmp 33) 1,none),
 (none,.store 4 (.tmp 34) (.const (.bool false)),none),
 (some 35,.nilCheck (.tmp 31),none),
 (some 36,.fieldAddr 100 (.tmp 35) 2,none),
 (none,.store 44 (.tmp 36) (.tmp 32),none)]
abbrev R20_5:List (SOp×Nat):=[((some 42,.move (.tmp 1),none),0),
 ((some 43,.call ⟨.value (.func 46),#[(.tmp 42)],#[29]⟩,none),0),
 ((some 38,.move (.tmp 0),none),1),
 ((some 39,.nilCheck (.tmp 38),none),1),
 ((some 40,.fieldAddr 98 (.tmp 39) 1,none),1),
 ((some 41,.load 96 (.tmp 40),none),1),
 ((some 44,.buildSlice 96 1 #[(0,(.tmp 43))],none),0),
 ((some 45,.call ⟨.builtin .append,#[(.tmp 41),(.tmp 44)],#[96,96]⟩,none),0),
 ((some 37,.move (.tmp 0),none),2),
 ((some 46,.nilCheck (.tmp 37),none),0),
 ((some 47,.fieldAddr 98 (.tmp 46) 1,none),0),
 ((none,.store 96 (.tmp 47) (.tmp 45),none),0)]
abbrev S20:SCode:=.seq (.reg R20_0) (.seq (.seq (.reg R20_1) (.cond (.tmp 10) (.ret) (.skip))) (.seq (.dreg R20_2) (.seq (.dreg R20_3) (.seq (.reg R20_4) (.dreg R20_5)))))
theorem slim20:slimC tab 20 (Try.f20.body.getD .skip)=S20:=by kernel_rfl
theorem wf20 {xs:List V} {H:Hp} {Q:V->Hp->Prop} (h:WC tab S20 (frame xs 0 .nil) H (resQ tab [] Q)):WF tab 20 xs H Q:=WF.of_slim (T:=tab) (f:=20) rfl fn20 rfl slim20 rfl h
abbrev R21_0:List SOp:=[(some 4,.assign (.const (.pointer none)),none)]
abbrev R21_1:List SOp:=[(some 6,.move (.tmp 1),none),
 (some 7,.call ⟨.value (.func 46),#[(.tmp 6)],#[29]⟩,none),
 (some 8,.convert 90 3 (.tmp 7),none),
 (some 5,.assign (.tmp 8),none)]
abbrev R21_2:List (SOp×Nat):=[((some 9,.move (.tmp 5),none),0),
 ((some 10,.move (.tmp 0),none),0),
 ((some 11,.nilCheck (.tmp 10),none),0),
 ((some 12,.fieldAddr 98 (.tmp 11) 0,none),0),
 ((some 13,.load 95 (.tmp 12),none),0),
 ((some 14,.call ⟨.builtin .len,#[(.tmp 13)],#[95]⟩,none),0),
 ((some 15,.binOp .geq 3 (.tmp 9) (.tmp 14) 3,none),0),
 ((some 16,.move (.tmp 15),none),0),
 ((some 17,.move (.tmp 0),some (some 16,false)),0),
 ((some 18,.nilCheck (.tmp 17),some (some 16,false)),0),
 ((some 19,.fieldAddr 98 (.tmp 18) 0,some (some 16,false)),0),
 ((some 20,.load 95 (.tmp 19),some (some 16,false)),0),
 ((some 21,.move (.tmp 5),some (some 16,false)),0),
 ((some 22,.indexAddr 95 (.tmp 20) (.tmp 21),some (some 16,false)),0),
 ((some 23,.fieldAddr 100 (.tmp 22) 1,some (some 16,false)),0),
 ((some 24,.load 4 (.tmp 23),some (some 16,false)),0),
 ((some 25,.unOp .not 4 (.tmp 24),some (some 16,false)),0),
 ((some 26,.pick (.tmp 16) (.const (.bool true)) (.tmp 25),none),0),
 ((some 27,.move (.tmp 26),none),0),
 ((some 36,.move (.tmp 1),some (some 27,false)),0),
 ((some 37,.call ⟨.value (.func 42),#[(.tmp 36)],#[29]⟩,some (some 27,false)),0),
 ((some 28,.move (.tmp 0),some (some 27,false)),1),
 ((some 29,.nilCheck (.tmp 28),some (some 27,false)),1),
 ((some 30,.fieldAddr 98 (.tmp 29) 0,some (some 27,false)),1),
 ((some 31,.load 95 (.tmp 30),some (some 27,false)),1),
 ((some 32,.move (.tmp 5),some (some 27,false)),1),
 ((some 33,.indexAddr 95 (.tmp 31) (.tmp 32),some (some 27,false)),1),
 ((some 34,.fieldAddr 100 (.tmp 33) 0,some (some 27,false)),1),
 ((some 35,.load 90 (.tmp 34),some (some 27,false)),1),
 ((some 38,.binOp .neq 90 (.tmp 35) (.tmp 37) 90,some (some 27,false)),0),
 ((some 39,.pick (.tmp 27) (.const (.bool true)) (.tmp 38),none),0)]
abbrev R21_3:List SOp:=[(some 4,.assign (.const (.pointer none)),none)]
abbrev R21_4:List SOp:=[(some 40,.move (.tmp 0),none),
 (some 41,.nilCheck (.tmp 40),none),
 (some 42,.fieldAddr 98 (.tmp 41) 0,none),
 (some 43,.load 95 (.tmp 42),none),
 (some 44,.move (.tmp 5),none),
 (some 45,.indexAddr 95 (.tmp 43) (.tmp 44),none),
 (some 46,.fieldAddr 100 (.tmp 45) 2,none),
 (some 4,.assign (.tmp 46),none)]
abbrev S21:SCode:=.seq (.reg R21_0) (.seq (.reg R21_1) (.seq (.seq (.dreg R21_2) (.cond (.tmp 39) (.seq (.reg R21_3) (.ret)) (.skip))) (.seq (.reg R21_4) (.ret))))
theorem slim21:slimC tab 21 (Try.f21.body.getD .skip)=S21:=by kernel_rfl
theorem wf21 {xs:List V} {H:Hp} {Q:V->Hp->Prop} (h:WC tab S21 (frame xs 0 .nil) H (resQ tab [.tmp 4] Q)):WF tab 21 xs H Q:=WF.of_slim (T:=tab) (f:=21) rfl fn21 rfl slim21 rfl h
abbrev R45_0:List SOp:=[(some 4,.assign (.const (.bool false)),none)]
abbrev R45_1:List SOp:=[(some 5,.move (.tmp 1),none),
 (some 6,.binOp .geq 3 (.tmp 5) (.const (.int .i64 0)) 3,none),
 (some 7,.move (.tmp 6),none),
 (some 8,.move (.tmp 1),some (some 7,true)),
 (some 9,.move (.tmp 0),some (some 7,true)),
 (some 10,.nilCheck (.tmp 9),some (some 7,true)),
 (some 11,.fieldAddr 98 (.tmp 10) 2,some (some 7,true)),
 (some 12,.load 59 (.tmp 11),some (some 7,true)),
 (some 13,.call ⟨.builtin .len,#[(.tmp 12)],#[59]⟩,some (some 7,true)),
 (some 14,.binOp .lss 3 (.tmp 8) (.tmp 13) 3,some (some 7,true)),
 (some 15,.pick (.tmp 7) (.tmp 14) (.const (.bool false)),none),
 (some 4,.assign (.tmp 15),none)]
abbrev S45:SCode:=.seq (.reg R45_0) (.seq (.reg R45_1) (.ret))
theorem slim45:slimC tab 45 (Try.f45.body.getD .skip)=S45:=by kernel_rfl
theorem wf45 {xs:List V} {H:Hp} {Q:V->Hp->Prop} (h:WC tab S45 (frame xs 0 .nil) H (resQ tab [.tmp 4] Q)):WF tab 45 xs H Q:=WF.of_slim (T:=tab) (f:=45) rfl fn45 rfl slim45 rfl h
abbrev R41_0:List SOp:=[(some 4,.assign (.const (.int .u64 0)),none)]
abbrev R41_1:List SOp:=[(some 5,.move (.tmp 1),none),
 (some 6,.convert 90 28 (.tmp 5),none),
 (some 7,.binOp .shl 28 (.tmp 6) (.const (.int .u64 32)) 120,none),
 (some 8,.move (.tmp 0),none),
 (some 9,.convert 90 28 (.tmp 8),none),
 (some 10,.binOp .or 28 (.tmp 7) (.tmp 9) 28,none),
 (some 4,.assign (.tmp 10),none)]
abbrev S41:SCode:=.seq (.reg R41_0) (.seq (.reg R41_1) (.ret))
theorem slim41:slimC tab 41 (Try.f41.body.getD .skip)=S41:=by kernel_rfl
theorem wf41 {xs:List V} {H:Hp} {Q:V->Hp->Prop} (h:WC tab S41 (frame xs 0 .nil) H (resQ tab [.tmp 4] Q)):WF tab 41 xs H Q:=WF.of_slim (T:=tab) (f:=41) rfl fn41 rfl slim41 rfl h
abbrev R46_0:List SOp:=[(some 2,.assign (.const (.int .u32 0)),none)]
abbrev R46_1:List SOp:=[(some 3,.move (.tmp 0),none),
 (some 4,.convert 29 90 (.tmp 3),none),
 (some 2,.assign (.tmp 4),none)]
abbrev S46:SCode:=.seq (.reg R46_0) (.seq (.reg R46_1) (.ret))
theorem slim46:slimC tab 46 (Try.f46.body.getD .skip)=S46:=by kernel_rfl
theorem wf46 {xs:List V} {H:Hp} {Q:V->Hp->Prop} (h:WC tab S46 (frame xs 0 .nil) H (resQ tab [.tmp 2] Q)):WF tab 46 xs H Q:=WF.of_slim (T:=tab) (f:=46) rfl fn46 rfl slim46 rfl h
abbrev R42_0:List SOp:=[(some 2,.assign (.const (.int .u32 0)),none)]
abbrev R42_1:List SOp:=[(some 3,.move (.tmp 0),none),
 (some 4,.binOp .shr 29 (.tmp 3) (.const (.int .u64 32)) 120,none),
 (some 5,.convert 29 90 (.tmp 4),none),
 (some 2,.assign (.tmp 5),none)]
abbrev S42:SCode:=.seq (.reg R42_0) (.seq (.reg R42_1) (.ret))
theorem slim42:slimC tab 42 (Try.f42.body.getD .skip)=S42:=by kernel_rfl
theorem wf42 {xs:List V} {H:Hp} {Q:V->Hp->Prop} (h:WC tab S42 (frame xs 0 .nil) H (resQ tab [.tmp 2] Q)):WF tab 42 xs H Q:=WF.of_slim (T:=tab) (f:=42) rfl fn42 rfl slim42 rfl h
end Go.AM.YtiolgkhfpnidfaaT
namespace Go.AM.YtiolgkhfpnidfaaT
open Go Go.AM
end Go.AM.YtiolgkhfpnidfaaT
namespace Go.AM
open Go
section
variable {T:Tab}
end
theorem old_ne {b n:Nat} (h:b < n):((b=n)=False/\(n=b)=False)/\((b=n+1)=False/\(n+1=b)=False)/\((b=n+1+1)=False/\(n+1+1=b)=False)/\((b=n+1+1+1)=False/\(n+1+1+1=b)=False)/\((b=n+1+1+1+1)=False/\(n+1+1+1+1=b)=False)/\((b=n+1+1+1+1+1)=False/\(n+1+1+1+1+1=b)=False):=by
 simp only [eq_iff_iff,iff_false];omega
theorem two_ne {b c:Nat} (h:b≠c):(b=c)=False/\(c=b)=False:=by
 simp only [eq_iff_iff,iff_false];omega
inductive Tx where
 | ex (op:Nat) (num:Int) (text:List UInt8) (parts:List Tx) (params:List (List UInt8)) (body:List Tx)
 | st (kind:Nat) (name:List UInt8) (exprs body els:List Tx) (at_:Int)
def SliceOf (K:Nat->Prop) (H:Hp) (z n:Nat) (v:V) (P:List V->Prop):Prop :=
 (v = .nils\/v = .sle)/\n=0\/∃ b off cap e ro cells,v = .sl b off n cap z/\H.get b=some (.row e z ro cells)/\K b/\b < H.next/\off % z=0/\off+n*z<=cells.length/\P (cells.drop off)/\∀ c,cap=some c->n<=c
mutual
def ExpAt (K:Nat->Prop) (H:Hp):Tx->List V->Prop
 | .ex op num text parts params body,cs=>∃ vp vq vb,cs=[.int .i64 op,.int .i64 num,.str text,vp,vq,vb]/\SliceOf K H 6 parts.length vp (ElsAt K H parts)/\SliceOf K H 1 params.length vq (fun cs=>cs.take params.length=params.map .str)/\SliceOf K H 6 body.length vb (ElsAt K H body)
 | .st kind name es b e at_,cs=>∃ ve vb vl,cs=[.int .i64 kind,.str name,ve,vb,vl,.int .i64 at_]/\SliceOf K H 6 es.length ve (ElsAt K H es)/\SliceOf K H 6 b.length vb (ElsAt K H b)/\SliceOf K H 6 e.length vl (ElsAt K H e)
def ElsAt (K:Nat->Prop) (H:Hp):List Tx->List V->Prop
 | [],_=>True
 | x :: r,cs=>ExpAt K H x (cs.take 6)/\ElsAt K H r (cs.drop 6)
end
abbrev TreesAt (K:Nat->Prop) (H:Hp) (l:List Tx) (v:V):Prop:=SliceOf K H 6 l.length v (ElsAt K H l)
abbrev StrsAt (K:Nat->Prop) (H:Hp) (l:List (List UInt8)) (v:V):Prop:=SliceOf K H 1 l.length v (fun cs=>cs.take l.length=l.map .str)
structure Stays (K K' : Nat->Prop) (H H' : Hp):Prop where
 k:∀ b,K b->b < H.next->K' b
 get:∀ b,K b->b < H.next->H'.get b=H.get b
 le:H.next<=H'.next
theorem Stays.refl (K:Nat->Prop) (H:Hp):Stays K K H H:=⟨fun _ h _=>h,fun _ _ _=>rfl,Nat.le_refl _⟩
theorem Stays.trans {K K1 K2:Nat->Prop} {H H1 H2:Hp} (h:Stays K K1 H H1) (h' : Stays K1 K2 H1 H2):Stays K K2 H H2 :=
 ⟨fun b hb hl=>h'.k b (h.k b hb hl) (Nat.lt_of_lt_of_le hl h.le),fun b hb hl=>(h'.get b (h.k b hb hl) (Nat.lt_of_lt_of_le hl h.le)).trans (h.get b hb hl),Nat.le_trans h.le h'.le⟩
theorem Ext.stays {X K K' : Nat->Prop} {H H' : Hp} (h:Ext X H H') (hx:∀ b,K b->b < H.next->¬ X b) (hk:∀ b,K b->b < H.next->K' b):Stays K K' H H':=⟨hk,fun b hb hl=>h.get b hl (hx b hb hl),h.le⟩
theorem SliceOf.mono {K K' : Nat->Prop} {H H' : Hp} {z n:Nat} {v:V} {P P' : List V->Prop} (h:SliceOf K H z n v P) (hS:Stays K K' H H') (hP:∀ cs,P cs->P' cs):SliceOf K' H' z n v P':=by
 rcases h with h | ⟨b,off,cap,e,ro,cells,h1,h2,h3,h4,h5,h6,h7,h8⟩
 ·exact .inl h
 ·exact .inr ⟨b,off,cap,e,ro,cells,h1,by rw [hS.get b h3 h4];exact h2,hS.k b h3 h4,Nat.lt_of_lt_of_le h4 hS.le,h5,h6,hP _ h7,h8⟩
section
variable {K K' : Nat->Prop} {H H' : Hp}
mutual
theorem ExpAt.mono (hS:Stays K K' H H'):∀ (t:Tx) (cs:List V),ExpAt K H t cs->ExpAt K' H' t cs
 | .ex op num text parts params body,cs,h=>by
  simp only [ExpAt] at h ⊢
  obtain ⟨vp,vq,vb,h1,h2,h3,h4⟩:=h
  exact ⟨vp,vq,vb,h1,h2.mono hS (ElsAt.mono hS parts),h3.mono hS fun _ h=>h,h4.mono hS (ElsAt.mono hS body)⟩
 | .st kind name es b e at_,cs,h=>by
  simp only [ExpAt] at h ⊢
  obtain ⟨ve,vb,vl,h1,h2,h3,h4⟩:=h
  exact ⟨ve,vb,vl,h1,h2.mono hS (ElsAt.mono hS es),h3.mono hS (ElsAt.mono hS b),h4.mono hS (ElsAt.mono hS e)⟩
theorem ElsAt.mono (hS:Stays K K' H H'):∀ (l:List Tx) (cs:List V),ElsAt K H l cs->ElsAt K' H' l cs
 | [],cs,h=>by simp only [ElsAt]
 | x :: r,cs,h=>by
  simp only [ElsAt] at h ⊢
  exact ⟨ExpAt.mono hS x _ h.1,ElsAt.mono hS r _ h.2⟩
end
theorem TreesAt.mono (hS:Stays K K' H H') {l:List Tx} {v:V} (h:TreesAt K H l v):TreesAt K' H' l v:=SliceOf.mono h hS (ElsAt.mono hS l)
theorem StrsAt.mono (hS:Stays K K' H H') {l:List (List UInt8)} {v:V} (h:StrsAt K H l v):StrsAt K' H' l v:=SliceOf.mono h hS fun _ h=>h
theorem ElsAt.at_:∀ (l:List Tx) (cs:List V) (i:Nat) (hi:i < l.length),ElsAt K H l cs->ExpAt K H l[i] ((cs.drop (i*6)).take 6)
 | x :: r,cs,0,hi,h=>by simp only [ElsAt] at h;simpa using h.1
 | x :: r,cs,i+1,hi,h=>by
  simp only [ElsAt] at h
  have:=ElsAt.at_ r (cs.drop 6) i (by simpa using hi) h.2
  rw [List.drop_drop,show 6+i*6=(i+1)*6 by omega] at this
  simpa using this
theorem ElsAt.app:∀ (l:List Tx) (x:Tx) (cs ds:List V),cs.length=l.length*6->ElsAt K H l cs->ExpAt K H x (ds.take 6)->ElsAt K H (l++[x]) (cs++ds)
 | [],x,cs,ds,hl,_,hx=>by
  have:cs=[]:=List.eq_nil_of_length_eq_zero (by simpa using hl)
  subst this
  simp only [List.nil_append,ElsAt]
  exact ⟨hx,trivial⟩
 | y :: r,x,cs,ds,hl,h,hx=>by
  simp only [List.length_cons] at hl
  simp only [ElsAt] at h
  simp only [List.cons_append,ElsAt]
  refine ⟨?_,?_⟩
  ·rw [List.take_append_of_le_length (by omega)];exact h.1
  ·rw [List.drop_append_of_le_length (by omega)]
   exact ElsAt.app r x _ ds (by rw [List.length_drop];omega) h.2 hx
theorem ElsAt.more:∀ (l:List Tx) (cs ds:List V),l.length*6<=cs.length->(ElsAt K H l (cs++ds) ↔ ElsAt K H l cs)
 | [],cs,ds,_=>by simp only [ElsAt]
 | y :: r,cs,ds,hl=>by
  simp only [List.length_cons] at hl
  simp only [ElsAt]
  rw [List.take_append_of_le_length (by omega),List.drop_append_of_le_length (by omega),ElsAt.more r _ ds (by rw [List.length_drop];omega)]
theorem ElsAt.take {l:List Tx} {cs:List V} {n:Nat} (hn:l.length*6<=n) (hc:n<=cs.length):ElsAt K H l cs ↔ ElsAt K H l (cs.take n):=by
 conv=>lhs;rw [<- List.take_append_drop n cs]
 exact ElsAt.more l _ _ (by rw [List.length_take];omega)
theorem ElsAt.drop:∀ (k:Nat) (l:List Tx) (cs:List V),ElsAt K H l cs->ElsAt K H (l.drop k) (cs.drop (k*6))
 | 0,l,cs,h=>by simpa using h
 | k+1,[],cs,h=>by simp only [List.drop_nil,ElsAt]
 | k+1,x :: r,cs,h=>by
  simp only [ElsAt] at h
  have:=ElsAt.drop k r (cs.drop 6) h.2
  rw [List.drop_drop,show 6+k*6=(k+1)*6 by omega] at this
  simpa using this
theorem SliceOf.len {z n:Nat} {v:V} {P:List V->Prop} (h:SliceOf K H z n v P) (e:TypeId):lenV v (some (.slice e))=some (.int .i64 n):=by
 rcases h with ⟨rfl | rfl,rfl⟩ | ⟨b,off,cap,e,ro,cells,rfl,_⟩<;>rfl
theorem SliceOf.cells {z n:Nat} {v:V} {P:List V->Prop} (h:SliceOf K H z n v P):cellsV v=[v]:=by
 rcases h with ⟨rfl | rfl,rfl⟩ | ⟨b,off,cap,e,ro,cells,rfl,_⟩<;>rfl
theorem SliceOf.one {z n:Nat} {v:V} {P:List V->Prop} (h:SliceOf K H z n v P):oneV v=true:=by
 rcases h with ⟨rfl | rfl,rfl⟩ | ⟨b,off,cap,e,ro,cells,rfl,_⟩<;>rfl
theorem SliceOf.eqv {z n:Nat} {v:V} {P:List V->Prop} (h:SliceOf K H z n v P):eqV v v=true:=by
 rcases h with ⟨rfl | rfl,rfl⟩ | ⟨b,off,cap,e,ro,cells,rfl,_⟩<;>simp [eqV]
theorem ExpAt.len:∀ {t:Tx} {cs:List V},ExpAt K H t cs->cs.length=6
 | .ex ..,cs,h=>by simp only [ExpAt] at h;obtain ⟨_,_,_,rfl,_⟩:=h;rfl
 | .st ..,cs,h=>by simp only [ExpAt] at h;obtain ⟨_,_,_,rfl,_⟩:=h;rfl
theorem ExpAt.ones:∀ {t:Tx} {cs:List V},ExpAt K H t cs->cs.all oneV=true
 | .ex ..,cs,h=>by simp only [ExpAt] at h;obtain ⟨vp,vq,vb,rfl,h1,h2,h3⟩:=h;simp [h1.one,h2.one,h3.one,one_int,one_str]
 | .st ..,cs,h=>by simp only [ExpAt] at h;obtain ⟨vp,vq,vb,rfl,h1,h2,h3⟩:=h;simp [h1.one,h2.one,h3.one,one_int,one_str]
theorem ExpAt.six {t:Tx} {cs:List V} (h:ExpAt K H t cs):∃ c0 c1 c2 c3 c4 c5,cs=[c0,c1,c2,c3,c4,c5]/\oneV c0=true/\oneV c1=true/\oneV c2=true/\oneV c3=true/\oneV c4=true/\oneV c5=true:=by
 have h1:=h.len
 have h2:=h.ones
 match cs,h1 with
 | [c0,c1,c2,c3,c4,c5],_ =>
  simp only [List.all_cons,List.all_nil,Bool.and_true,Bool.and_eq_true] at h2
  exact ⟨c0,c1,c2,c3,c4,c5,rfl,h2⟩
theorem SliceOf.row {z n i:Nat} {v:V} {P:List V->Prop} (h:SliceOf K H z n v P) (hi:i < n):∃ b off cap e ro cells,v = .sl b off n cap z/\H.get b=some (.row e z ro cells)/\K b/\b < H.next/\off % z=0/\off+n*z<=cells.length/\P (cells.drop off):=by
 rcases h with ⟨_,rfl⟩ | h
 ·omega
 ·obtain ⟨b,off,cap,e,ro,cells,h1,h2,h3,h4,h5,h6,h7,h8⟩:=h
  exact ⟨b,off,cap,e,ro,cells,h1,h2,h3,h4,h5,h6,h7⟩
theorem SliceOf.of_slAt {z n:Nat} {v:V} {e:TypeId} {l:List V} {P:List V->Prop} (h:SlAt H e z v n l) (hk:∀ b∈rowsOf v,K b/\b < H.next) (hP:∀ cs,n*z<=cs.length->cs.take (n*z)=l->P cs):SliceOf K H z n v P:=by
 cases h with
 | nil=>exact .inl ⟨.inl rfl,rfl⟩
 | row b n cs hg hl =>
  have:=hk b (by simp [rowsOf])
  exact .inr ⟨b,0,none,e,false,cs,rfl,hg,this.1,this.2,by simp,by simpa using hl,by simpa using hP cs hl rfl,fun c hc=>by cases hc⟩
theorem TreesAt.of_slAt {n:Nat} {v:V} {e:TypeId} {l:List V} {ts:List Tx} (h:SlAt H e 6 v n l) (hk:∀ b∈rowsOf v,K b/\b < H.next) (hn:ts.length=n) (hP:ElsAt K H ts l):TreesAt K H ts v:=by
 subst hn
 exact SliceOf.of_slAt h hk fun cs h1 h2=>by rw [ElsAt.take (Nat.le_refl _) h1,h2];exact hP
theorem StrsAt.of_slAt {n:Nat} {v:V} {e:TypeId} {ts:List (List UInt8)} (h:SlAt H e 1 v n (ts.map .str)) (hk:∀ b∈rowsOf v,K b/\b < H.next) (hn:ts.length=n):StrsAt K H ts v:=by
 subst hn
 exact SliceOf.of_slAt h hk fun cs h1 h2=>by rw [Nat.mul_one] at h2;exact h2
end
abbrev since (H0 H:Hp):Nat->Prop:=fun x=>H0.next<=x/\x < H.next
theorem app_flush' {H H' : Hp} {e:TypeId} {z n:Nat} {s s' : V} {l:List V} (hs:H.stale=[]) (hS:SlAt H' e z s' n l) (hA:AppR H s H' s') :
  SlAt H'.flush e z s' n l/\(∀ c,c < H.next->c∉rowsOf s->H'.flush.get c=H.get c)/\H'.flush.stale=[]/\H.next<=H'.flush.next/\(∀ r∈rowsOf s',r < H'.flush.next/\(r∈rowsOf s\/H.next<=r)):=by
 refine ⟨hS.of_get fun b hb=>?_,fun c hc hr=>?_,Hp.stale_flush _,by rw [Hp.next_flush];exact hA.le,fun r hr=>?_⟩
 ·rw [Hp.get_flush,if_neg (hA.new b hb).1]
 ·have:=hA.keep c hc hr (by simp [hs])
  rw [Hp.get_flush,if_neg this.2]
  exact this.1
 ·have:=hA.new r hr
  rw [Hp.next_flush]
  exact ⟨this.2.1,this.2.2⟩
abbrev Kv (H0:Hp) (R:Nat->Prop) (v:V):Nat->Prop:=fun x=>H0.next<=x/\¬ R x/\x∉rowsOf v
theorem SlAt.own {H:Hp} {e:TypeId} {z n:Nat} {v:V} {l:List V} (h:SlAt H e z v n l):∀ b∈rowsOf v,∃ cs,H.get b=some (.row e z false cs):=by
 cases h with
 | nil=>intro b hb;simp [rowsOf] at hb
 | row b n cs hg hl=>intro c hc;simp [rowsOf] at hc;subst hc;exact ⟨_,hg⟩
structure Gro (H0 H:Hp) (R:Nat->Prop) (e:TypeId) (v:V) (ts:List Tx):Prop where
 st:H.stale=[]
 le:H0.next<=H.next
 sl:∃ l,SlAt H e 6 v ts.length l/\ElsAt (Kv H0 R v) H ts l
 rows:∀ b∈rowsOf v,H0.next<=b/\b < H.next/\¬ R b
theorem Gro.nil {H0 H:Hp} {R:Nat->Prop} {e:TypeId} (hs:H.stale=[]) (hl:H0.next<=H.next):Gro H0 H R e .nils [] :=
 ⟨hs,hl,⟨[],.nil,trivial⟩,fun b hb=>by simp [rowsOf] at hb⟩
theorem Gro.of_get {H0 H H' : Hp} {R:Nat->Prop} {e:TypeId} {v:V} {ts:List Tx} (h:Gro H0 H R e v ts) (hs:H'.stale=[]) (hl:H.next<=H'.next) (hg:∀ b,H0.next<=b->b < H.next->¬ R b->H'.get b=H.get b):Gro H0 H' R e v ts:=by
 obtain ⟨h1,h2,⟨l,h3,h4⟩,h5⟩:=h
 refine ⟨hs,by omega,⟨l,h3.of_get fun b hb=>?_,ElsAt.mono ⟨fun b hb hx=>hb,fun b hb hx=>hg b hb.1 hx hb.2.1,hl⟩ _ _ h4⟩,fun b hb=>?_⟩
 ·have:=h5 b hb;exact hg b this.1 this.2.1 this.2.2
 ·have:=h5 b hb;exact ⟨this.1,by omega,this.2.2⟩
theorem Gro.step {H0 H H2 Hb H3 H4:Hp} {X R:Nat->Prop} {e:TypeId} {v v' : V} {ts:List Tx} {t:Tx} {l ds:List V} (hG:Gro H0 H R e v ts) (hsl:SlAt H e 6 v ts.length l) (hel:ElsAt (Kv H0 R v) H ts l)
  (hRl:∀ b,R b->b < H.next) (hX2:Ext X H H2) (hXo:∀ b,H0.next<=b->¬ R b->¬ X b) (hT:ExpAt (since H H2) H2 t ds) (hS:SlAt H3 e 6 v' (ts.length+1) (l++ds)) (hb:Hb=H2\/Hb=H2.bump) (hA:AppR Hb v H3 v')
  (hs4:H4.stale=[]) (hn4:H3.next<=H4.next) (hg:∀ b,¬ R b->H4.get b=H3.flush.get b):Gro H0 H4 R e v' (ts++[t])/\(∀ b,b < H2.next->¬ R b->b∉rowsOf v->H4.get b=H2.get b)/\Stays (Kv H0 R v) (Kv H0 R v') H H4:=by
 have s2:=hX2.st
 have hbs:Hb.stale=[]:=by rcases hb with rfl | rfl<;>exact s2
 have hbn:H2.next<=Hb.next:=by
  rcases hb with rfl | rfl
  ·exact Nat.le_refl _
  ·exact Nat.le_succ _
 have hbg:∀ c,Hb.get c=H2.get c:=fun c=>by rcases hb with rfl | rfl<;>rfl
 obtain ⟨k1,k2,k3,k4,k5⟩:=app_flush' hbs hS hA
 have hle:=hX2.le
 have h02:=hG.le
 rw [Hp.next_flush] at k4 k5
 have keep:∀ b,b < H2.next->¬ R b->b∉rowsOf v->H4.get b=H2.get b:=fun b hb hR hr=>by
  rw [hg b hR,k2 b (by omega) hr,hbg]
 have hnew:∀ b∈rowsOf v',H0.next<=b/\b < H4.next/\¬ R b:=fun b hb=>by
  obtain ⟨g1,g2⟩:=k5 b hb
  rcases g2 with g2 | g2
  ·have:=hG.rows b g2;exact ⟨this.1,by omega,this.2.2⟩
  ·exact ⟨by omega,by omega,fun h=>by have:=hRl b h;omega⟩
 have hdl:=hT.len
 have hll:=hsl.len
 have st1:Stays (Kv H0 R v) (Kv H0 R v') H H4:=by
  refine ⟨fun b hb hx=>⟨hb.1,hb.2.1,fun h=>?_⟩,fun b hb hx=>?_,by omega⟩
  ·rcases (k5 b h).2 with g | g
   ·exact hb.2.2 g
   ·omega
  ·rw [keep b (by omega) hb.2.1 hb.2.2]
   exact hX2.get b hx (hXo b hb.1 hb.2.1)
 refine ⟨⟨hs4,by omega,⟨l++ds,?_,?_⟩,hnew⟩,keep,st1⟩
 ·rw [List.length_append]
  exact k1.of_get fun b hb=>hg b (hnew b hb).2.2
 ·have hr:∀ b,H.next<=b->b∉rowsOf v:=fun b hb h=>by have:=(hG.rows b h).2.1;omega
  have hRn:∀ b,H.next<=b->¬ R b:=fun b hb h=>by have:=hRl b h;omega
  have st2:Stays (since H H2) (Kv H0 R v') H2 H4:=by
   refine ⟨fun b hb hx=>⟨by omega,hRn b hb.1,fun h=>?_⟩,fun b hb hx=>keep b hx (hRn b hb.1) (hr b hb.1),by omega⟩
   rcases (k5 b h).2 with g | g
   ·exact hr b hb.1 g
   ·omega
  refine ElsAt.app ts t l ds hll (ElsAt.mono st1 _ _ hel) ?_
  rw [List.take_of_length_le (by omega)]
  exact ExpAt.mono st2 _ _ hT
structure SGro (H0 H:Hp) (R:Nat->Prop) (e:TypeId) (v:V) (ps:List (List UInt8)):Prop where
 st:H.stale=[]
 le:H0.next<=H.next
 sl:SlAt H e 1 v ps.length (ps.map .str)
 rows:∀ b∈rowsOf v,H0.next<=b/\b < H.next/\¬ R b
theorem SGro.step {H0 H H2 Hb H3 H4:Hp} {X R:Nat->Prop} {e:TypeId} {v v' : V} {ps:List (List UInt8)} {s:List UInt8} (hG:SGro H0 H R e v ps)
  (hRl:∀ b,R b->b < H.next) (hX2:Ext X H H2) (hS:SlAt H3 e 1 v' (ps.length+1) (ps.map .str++[.str s])) (hb:Hb=H2\/Hb=H2.bump) (hA:AppR Hb v H3 v')
  (hs4:H4.stale=[]) (hn4:H3.next<=H4.next) (hg:∀ b,¬ R b->H4.get b=H3.flush.get b):SGro H0 H4 R e v' (ps++[s])/\(∀ b,b < H2.next->¬ R b->b∉rowsOf v->H4.get b=H2.get b):=by
 have s2:=hX2.st
 have hbs:Hb.stale=[]:=by rcases hb with rfl | rfl<;>exact s2
 have hbn:H2.next<=Hb.next:=by
  rcases hb with rfl | rfl
  ·exact Nat.le_refl _
  ·exact Nat.le_succ _
 have hbg:∀ c,Hb.get c=H2.get c:=fun c=>by rcases hb with rfl | rfl<;>rfl
 obtain ⟨k1,k2,k3,k4,k5⟩:=app_flush' hbs hS hA
 have hle:=hX2.le
 have h02:=hG.le
 rw [Hp.next_flush] at k4 k5
 have keep:∀ b,b < H2.next->¬ R b->b∉rowsOf v->H4.get b=H2.get b:=fun b hb hR hr=>by
  rw [hg b hR,k2 b (by omega) hr,hbg]
 have hnew:∀ b∈rowsOf v',H0.next<=b/\b < H4.next/\¬ R b:=fun b hb=>by
  obtain ⟨g1,g2⟩:=k5 b hb
  rcases g2 with g2 | g2
  ·have:=hG.rows b g2;exact ⟨this.1,by omega,this.2.2⟩
  ·exact ⟨by omega,by omega,fun h=>by have:=hRl b h;omega⟩
 refine ⟨⟨hs4,by omega,?_,hnew⟩,keep⟩
 rw [List.length_append,List.map_append]
 exact k1.of_get fun b hb=>hg b (hnew b hb).2.2
theorem SGro.of_get {H0 H H' : Hp} {R:Nat->Prop} {e:TypeId} {v:V} {ps:List (List UInt8)} (h:SGro H0 H R e v ps) (hs:H'.stale=[]) (hl:H.next<=H'.next) (hg:∀ b,H0.next<=b->b < H.next->¬ R b->H'.get b=H.get b):SGro H0 H' R e v ps:=by
 obtain ⟨h1,h2,h3,h5⟩:=h
 refine ⟨hs,by omega,h3.of_get fun b hb=>?_,fun b hb=>?_⟩
 ·have:=h5 b hb;exact hg b this.1 this.2.1 this.2.2
 ·have:=h5 b hb;exact ⟨this.1,by omega,this.2.2⟩
theorem Gro.trees {H0 H H' : Hp} {R K:Nat->Prop} {e:TypeId} {v:V} {ts:List Tx} (h:Gro H0 H R e v ts) (hg:∀ b,H0.next<=b->b < H.next->¬ R b->K b/\H'.get b=H.get b) (hl:H.next<=H'.next):TreesAt K H' ts v:=by
 obtain ⟨h1,h2,⟨l,h3,h4⟩,h5⟩:=h
 refine TreesAt.of_slAt (h3.of_get fun b hb=>?_) (fun b hb=>?_) rfl (ElsAt.mono ⟨fun b hb hx=>(hg b hb.1 hx hb.2.1).1,fun b hb hx=>(hg b hb.1 hx hb.2.1).2,hl⟩ _ _ h4)
 ·have:=h5 b hb;exact (hg b this.1 this.2.1 this.2.2).2
 ·have:=h5 b hb;exact ⟨(hg b this.1 this.2.1 this.2.2).1,by omega⟩
theorem StrsAt.at_ {K:Nat->Prop} {H:Hp} {l:List (List UInt8)} {v:V} (h:StrsAt K H l v) {i:Nat} (hi:i < l.length):∃ b off cap e ro cells,v = .sl b off l.length cap 1/\H.get b=some (.row e 1 ro cells)/\K b/\b < H.next/\off+l.length<=cells.length/\cells[off+i]? = some (.str l[i]):=by
 obtain ⟨b,off,cap,e,ro,cells,h1,h2,h3,h4,h5,h6,h7⟩:=h.row hi
 refine ⟨b,off,cap,e,ro,cells,h1,h2,h3,h4,by omega,?_⟩
 have:=congrArg (fun x=>x[i]?) h7
 simp only [List.getElem?_take,hi,if_true,List.getElem?_drop,List.getElem?_map,List.getElem?_eq_getElem hi,Option.map_some] at this
 exact this
theorem TreesAt.at_ {K:Nat->Prop} {H:Hp} {l:List Tx} {v:V} (h:TreesAt K H l v) {i:Nat} (hi:i < l.length):∃ b off cap e ro cells d0 d1 d2 d3 d4 d5,v = .sl b off l.length cap 6/\H.get b=some (.row e 6 ro cells)/\K b/\b < H.next/\off % 6=0/\off+l.length*6<=cells.length/\(cells.drop (off+i*6)).take 6=[d0,d1,d2,d3,d4,d5]/\ExpAt K H l[i] [d0,d1,d2,d3,d4,d5] /\
  oneV d0=true/\oneV d1=true/\oneV d2=true/\oneV d3=true/\oneV d4=true/\oneV d5=true:=by
 obtain ⟨b,off,cap,e,ro,cells,h1,h2,h3,h4,h5,h6,h7⟩:=h.row hi
 have:=ElsAt.at_ l _ i hi h7
 rw [List.drop_drop] at this
 obtain ⟨d0,d1,d2,d3,d4,d5,e1,e2⟩:=this.six
 rw [e1] at this
 exact ⟨b,off,cap,e,ro,cells,d0,d1,d2,d3,d4,d5,h1,h2,h3,h4,h5,h6,e1,this,e2⟩
end Go.AM
set_option maxRecDepth 100000
namespace Go.AM.YtiolgkhfpnidfaaT
open Go Go.AM Go.Proofs
structure Sl where
 uses:Nat
 used:Bool
 o:List V
def Sl.cs (s:Sl):List V:=.int .u32 s.uses :: .bool s.used :: s.o
structure Ar where
 slots:List Sl
 free:List Nat
 quotas:List Int
 many:List Int
structure ArAt (R:Nat->Prop) (H:Hp) (a:Nat) (A:Ar):Prop where
 st:H.stale=[]
 row:∃ vs vf vq vm,H.get a=some (.row 98 4 false [vs,vf,vq,vm])/\SlAt H 100 16 vs A.slots.length (A.slots.flatMap Sl.cs)/\SlAt H 90 1 vf A.free.length (A.free.map fun n=>.int .u32 (n:Nat))/\SlAt H 3 1 vq A.quotas.length (A.quotas.map (.int .i64))/\SlAt H 3 1 vm A.many.length (A.many.map (.int .i64)) /\
  (∀ b,b∈rowsOf vs\/b∈rowsOf vf\/b∈rowsOf vq\/b∈rowsOf vm->R b)/\(∀ b,b∈rowsOf vs->b∉rowsOf vf/\b∉rowsOf vq/\b∉rowsOf vm)/\(∀ b,b∈rowsOf vf->b∉rowsOf vq/\b∉rowsOf vm)/\(∀ b,b∈rowsOf vq->b∉rowsOf vm)
 lt:a < H.next
 rl:∀ b,R b->b < H.next
 ra:¬ R a
 o14:∀ s∈A.slots,s.o.length=14
 qm:A.quotas.length=A.many.length
 big:A.slots.length<=100000/\A.free.length<=100000/\A.quotas.length<=1000
theorem or_of {n u:Nat} (hn:n < 4294967296) (hu:u < 4294967296):bits .or .u64 ((u:Int)*4294967296) n=(u:Int)*4294967296+n:=by
 have h1:(BitVec.ofInt 64 ((u:Int)*4294967296))=BitVec.ofNat 64 (u*4294967296):=by
  rw [show ((u:Int)*4294967296)=((u*4294967296:Nat):Int) by omega,BitVec.ofInt_natCast]
 have h2:(BitVec.ofInt 64 (n:Int))=BitVec.ofNat 64 n:=BitVec.ofInt_natCast _ _
 have h3:u*4294967296 ||| n=u*4294967296+n:=by
  rw [show u*4294967296=u <<< 32 by rw [Nat.shiftLeft_eq]]
  exact (Nat.shiftLeft_add_eq_or_of_lt (by omega) u).symm
 unfold bits
 simp only [IntKind.bits]
 rw [h1,h2]
 show IntKind.u64.wrap ((BitVec.ofNat 64 (u*4294967296) ||| BitVec.ofNat 64 n:BitVec 64).toNat:Int)=_
 rw [BitVec.toNat_or,BitVec.toNat_ofNat,BitVec.toNat_ofNat,Nat.mod_eq_of_lt (by omega),Nat.mod_eq_of_lt (by omega),h3]
 simp [IntKind.wrap,IntKind.bits,IntKind.signed]
 omega
theorem slot_ok {H:Hp} (hs:H.stale=[]) (r:Nat) (hr:r < 18446744073709551616):WF tab 46 [.int .u64 r] H fun w H'=>w = .int .u32 ((r % 4294967296:Nat):Int)/\H' = H:=by
 refine wf46 (wp_sound _ ?_)
 simp [hs]
 rw [wr_eq]
 simp [IntKind.wrap,IntKind.bits,IntKind.signed]
theorem uses_ok {H:Hp} (hs:H.stale=[]) (r:Nat) (hr:r < 18446744073709551616):WF tab 42 [.int .u64 r] H fun w H'=>w = .int .u32 ((r / 4294967296:Nat):Int)/\H' = H:=by
 refine wf42 (wp_sound _ ?_)
 simp [hs]
 rw [Int.fdiv_eq_ediv_of_nonneg _ (by omega),wr_u32 (by omega) (by omega)]
theorem of_ok {H:Hp} (hs:H.stale=[]) (n u:Nat) (hn:n < 4294967296) (hu:u < 4294967296):WF tab 41 [.int .u32 n,.int .u32 u] H fun w H'=>w = .int .u64 ((u*4294967296+n:Nat):Int)/\H' = H:=by
 refine wf41 (wp_sound _ ?_)
 simp [hs]
 rw [wr_u64 (n:=(u:Int)) (by omega) (by omega),wr_u64 (n:=(n:Int)) (by omega) (by omega),wr_u64 (n:=(u:Int)*4294967296) (by omega) (by omega)]
 exact or_of hn hu
theorem new_ok {H:Hp} (hs:H.stale=[]):WF tab 17 [] H fun w H'=>w = .ptr H.next 0/\ArAt (fun _=>False) H' H.next ⟨[],[],[],[]⟩/\Ext noX H H':=by
 refine wf17 (wp_sound _ ?_)
 simp [hs]
 refine ⟨⟨hs,⟨_,_,_,_,get_new_self _ _,.nil,.nil,.nil,.nil,by simp [rowsOf],by simp [rowsOf],by simp [rowsOf],by simp [rowsOf]⟩,by simp,fun _ h=>h.elim,fun h=>h,fun s h=>(by cases h),rfl,by decide⟩,Ext.new hs _⟩
theorem ArAt.of_get {R:Nat->Prop} {H H' : Hp} {a:Nat} {A:Ar} (h:ArAt R H a A) (hs:H'.stale=[]) (hl:H.next<=H'.next) (hg:∀ b,b=a\/R b->H'.get b=H.get b):ArAt R H' a A:=by
 obtain ⟨h1,⟨vs,vf,vq,vm,h2,h3,h4,h5,h6,h7,h8⟩,h9,h10,h11,h12,h13,h14⟩:=h
 exact ⟨hs,⟨vs,vf,vq,vm,by rw [hg a (.inl rfl)];exact h2,h3.of_get fun b hb=>hg b (.inr (h7 b (.inl hb))),h4.of_get fun b hb=>hg b (.inr (h7 b (.inr (.inl hb)))),h5.of_get fun b hb=>hg b (.inr (h7 b (.inr (.inr (.inl hb))))),h6.of_get fun b hb=>hg b (.inr (h7 b (.inr (.inr (.inr hb))))),h7,h8⟩,by omega,fun b hb=>by have:=h10 b hb;omega,h11,h12,h13,h14⟩
theorem ArAt.ext {R X:Nat->Prop} {H H' : Hp} {a:Nat} {A:Ar} (h:ArAt R H a A) (hX:Ext X H H') (hx:∀ b,b=a\/R b->¬ X b):ArAt R H' a A :=
 h.of_get hX.st hX.le fun b hb=>hX.get b (hb.elim (fun e=>e ▸ h.lt) (h.rl b)) (hx b hb)
theorem has_ok {R:Nat->Prop} {H:Hp} {a:Nat} {A:Ar} (h:ArAt R H a A) (n:Int) (hn : -9223372036854775808<=n/\n<=9223372036854775807):WF tab 45 [.ptr a 0,.int .i64 n] H fun w H'=>w = .bool (decide (0<=n/\n < A.quotas.length))/\H' = H:=by
 refine wf45 (wp_sound _ ?_)
 have hs:=h.st
 obtain ⟨vs,vf,vq,vm,g0,gs,gf,gq,gm,-⟩:=h.row
 have l1:=gq.lenV 3
 have c1:=gq.one
 by_cases h0:0<=n
 ·simp [hs,g0,h0,l1,c1]
 ·simp [hs,g0,h0,l1]
theorem slots_at {L:List Sl} (ho:∀ s∈L,s.o.length=14) {n:Nat} {s:Sl} (hn:L[n]? = some s):(L.flatMap Sl.cs)[n*16]? = some (.int .u32 s.uses)/\(L.flatMap Sl.cs)[n*16+1]? = some (.bool s.used)/\((L.flatMap Sl.cs).drop (n*16+2)).take 14=s.o/\(∀ i,i < 14->(L.flatMap Sl.cs)[n*16+2+i]? = s.o[i]?)/\n*16+16<=(L.flatMap Sl.cs).length:=by
 induction L generalizing n with
 | nil=>simp at hn
 | cons x r ih =>
  have hx:=ho x (by simp)
  have hl:x.cs.length=16:=by simp [Sl.cs,hx]
  cases n with
  | zero =>
   simp at hn;subst hn
   refine ⟨by simp [Sl.cs],by simp [Sl.cs],?_,fun i hi=>?_,by simp [hl]⟩
   ·simp [Sl.cs]
    rw [List.take_append_of_le_length (by omega),List.take_of_length_le (by omega)]
   ·simp [Sl.cs]
    rw [show 2+i=i+1+1 by omega]
    simp
    rw [List.getElem?_append_left (by omega)]
  | succ n =>
   simp at hn
   obtain ⟨h1,h2,h3,h4,h5⟩:=ih (fun s hs=>ho s (by simp [hs])) hn
   have hd:∀ k,((x :: r).flatMap Sl.cs)[(n+1)*16+k]? = (r.flatMap Sl.cs)[n*16+k]?:=fun k=>by
    rw [List.flatMap_cons,List.getElem?_append_right (by omega),hl];congr 1;omega
   refine ⟨?_,?_,?_,?_,?_⟩
   ·exact (hd 0).trans h1
   ·exact (hd 1).trans h2
   ·rw [List.flatMap_cons,show (n+1)*16+2=x.cs.length+(n*16+2) by omega,List.drop_append,List.drop_eq_nil_of_le (by omega)]
    simpa using h3
   ·intro i hi
    have:=hd (2+i)
    rw [<- Nat.add_assoc] at this
    rw [this,<- Nat.add_assoc];exact h4 i hi
   ·rw [List.flatMap_cons,List.length_append];omega
end Go.AM.YtiolgkhfpnidfaaT
set_option maxRecDepth 100000
namespace Go.AM.YtiolgkhfpnidfaaT
open Go Go.AM Go.Proofs
def slotN (r:Nat):Nat:=r % 4294967296
def usesN (r:Nat):Nat:=r / 4294967296
def liveA (A:Ar) (r:Nat):Bool:=match A.slots[slotN r]? with | some s=>s.used&&s.uses==usesN r | none=>false
structure SlotAt (R:Nat->Prop) (H:Hp) (a:Nat) (A:Ar) (n:Nat) (s:Sl) (b:Nat) (cs:List V):Prop where
 row:∃ vf vq vm,H.get a=some (.row 98 4 false [.sl b 0 A.slots.length none 16,vf,vq,vm])
 get:H.get b=some (.row 100 16 false cs)
 le:A.slots.length*16<=cs.length
 eq:cs.take (A.slots.length*16)=A.slots.flatMap Sl.cs
 rb:R b
 lt:n < A.slots.length
 c0:cs[n*16]? = some (.int .u32 s.uses)
 c1:cs[n*16+1]? = some (.bool s.used)
 co:∀ i,i < 14->cs[n*16+2+i]? = s.o[i]?
 ol:s.o.length=14
theorem ArAt.slot {R:Nat->Prop} {H:Hp} {a:Nat} {A:Ar} (h:ArAt R H a A) {n:Nat} {s:Sl} (hn:A.slots[n]? = some s):∃ b cs,SlotAt R H a A n s b cs:=by
 obtain ⟨vs,vf,vq,vm,g0,gs,gf,gq,gm,hR,-⟩:=h.row
 have hlt:=(List.getElem?_eq_some_iff.1 hn).1
 obtain ⟨h1,h2,h3,h4,h5⟩:=slots_at h.o14 hn
 have hmem:s∈A.slots:=List.mem_of_getElem? hn
 generalize hL:A.slots.flatMap Sl.cs=L at *
 generalize hk:A.slots.length=k at *
 cases gs with
 | nil=>omega
 | row b k cs hg hle =>
  have tk:∀ j,j < k*16->cs[j]? = (cs.take (k*16))[j]?:=fun j hj=>by rw [List.getElem?_take,if_pos hj]
  exact ⟨b,cs,⟨vf,vq,vm,by rw [hk];exact g0⟩,hg,by rw [hk];exact hle,by rw [hk,hL],hR b (.inl (by simp [rowsOf])),by omega,by rw [tk _ (by omega)];exact h1,by rw [tk _ (by omega)];exact h2,fun i hi=>by rw [tk _ (by omega)];exact h4 i hi,h.o14 s hmem⟩
theorem slot_ok' {H:Hp} (hs:H.stale=[]) (r:Nat) (hr:r < 18446744073709551616):WF tab 46 [.int .u64 r] H fun w H'=>w = .int .u32 (slotN r:Nat)/\H' = H:=slot_ok hs r hr
theorem uses_ok' {H:Hp} (hs:H.stale=[]) (r:Nat) (hr:r < 18446744073709551616):WF tab 42 [.int .u64 r] H fun w H'=>w = .int .u32 (usesN r:Nat)/\H' = H:=uses_ok hs r hr
theorem slotN_lt (r:Nat):slotN r < 4294967296:=Nat.mod_lt _ (by omega)
theorem get_nil {R:Nat->Prop} {H:Hp} {a:Nat} {A:Ar} (h:ArAt R H a A) (r:Nat) (hr:r < 18446744073709551616) (hl:liveA A r=false):WF tab 21 [.ptr a 0,.int .u64 r] H fun w H'=>w = .nilp/\Ext noX H H':=by
 refine wf21 (wp_sound _ ?_)
 have hs:=h.st
 have hlt:=slotN_lt r
 have k1:=slot_ok' hs r hr
 have k2:=fun (H:Hp) hs=>uses_ok' (H:=H) hs r hr
 unfold liveA at hl
 generalize slotN r=n at *
 generalize usesN r=u at *
 simp [hs]
 refine k1.mono ?_
 rintro _ H ⟨rfl,rfl⟩
 have hw:wr .i64 (n:Int)=(n:Int):=by rw [wr_i64 (by omega) (by omega)]
 by_cases hn:n < A.slots.length
 ·have hn' : ¬ ((A.slots.length:Int)<=(n:Int)):=by omega
  have hn2:(n:Int) < (A.slots.length:Int):=by omega
  obtain ⟨b,cs,S⟩:=h.slot (List.getElem?_eq_getElem hn)
  rw [List.getElem?_eq_getElem hn] at hl
  generalize A.slots[n]=s at *
  obtain ⟨vf,vq,vm,g0⟩:=S.row
  have g1:=S.get;have c0:=S.c0;have c1:=S.c1
  generalize A.slots.length=k at *
  by_cases hu:s.used=true
  ·rw [hu] at c1
   have hne:((s.uses:Int) != (u:Int))=true:=by
    simp [hu] at hl ⊢
    omega
   simp [hs,hw,g0,g1,hn,hn',hn2,c0,c1]
   refine (k2 H hs).mono ?_
   rintro _ H' ⟨rfl,rfl⟩
   simp [hs,hw,g0,g1,hn,hn',hn2,c0,c1,hne]
   exact ⟨by simp [eqV],by simp [eqV],(Ext.refl hs).bump⟩
  ·have hu:s.used=false:=by simpa using hu
   rw [hu] at c1
   simp [hs,hw,g0,g1,hn,hn',hn2,c0,c1]
   exact Ext.refl hs
 ·have hn' : (A.slots.length:Int)<=(n:Int):=by omega
  obtain ⟨vs,vf,vq,vm,g0,gs,gf,gq,gm,hR,-⟩:=h.row
  have l1:=gs.lenV 100;have c1:=gs.one;have c2:=gs.cells
  simp [hs,hw,g0,l1,c1,c2,hn']
  exact Ext.refl hs
theorem get_ptr {R:Nat->Prop} {H:Hp} {a:Nat} {A:Ar} (h:ArAt R H a A) (r:Nat) (hr:r < 18446744073709551616) (hl:liveA A r=true):WF tab 21 [.ptr a 0,.int .u64 r] H fun w H'=>∃ b s cs,w = .ptr b (slotN r*16+2)/\A.slots[slotN r]? = some s/\s.used=true/\s.uses=usesN r/\SlotAt R H a A (slotN r) s b cs/\H'.get=H.get/\H'.stale=[]/\H.next<=H'.next:=by
 refine wf21 (wp_sound _ ?_)
 have hs:=h.st
 have hlt:=slotN_lt r
 have k1:=slot_ok' hs r hr
 have k2:=fun (H:Hp) hs=>uses_ok' (H:=H) hs r hr
 unfold liveA at hl
 generalize slotN r=n at *
 generalize usesN r=u at *
 simp [hs]
 refine k1.mono ?_
 rintro _ H ⟨rfl,rfl⟩
 have hw:wr .i64 (n:Int)=(n:Int):=by rw [wr_i64 (by omega) (by omega)]
 obtain ⟨s,hsn⟩:∃ s,A.slots[n]? = some s:=by
  cases hc:A.slots[n]? with
  | some s=>exact ⟨s,rfl⟩
  | none=>rw [hc] at hl;cases hl
 rw [hsn] at hl
 simp only [Bool.and_eq_true,beq_iff_eq] at hl
 have hn:=(List.getElem?_eq_some_iff.1 hsn).1
 have hn' : ¬ ((A.slots.length:Int)<=(n:Int)):=by omega
 have hn2:(n:Int) < (A.slots.length:Int):=by omega
 obtain ⟨b,cs,S⟩:=h.slot hsn
 obtain ⟨vf,vq,vm,g0⟩:=S.row
 have g1:=S.get;have c0:=S.c0;have c1:=S.c1
 rw [hl.1] at c1
 rw [hl.2] at c0
 have hq:∃ b' s' cs',V.ptr b (n*16+2) = .ptr b' (n*16+2)/\A.slots[n]? = some s'/\s'.used=true/\s'.uses=u/\SlotAt R H a A n s' b' cs':=⟨b,s,cs,rfl,hsn,hl.1,hl.2,S⟩
 generalize A.slots.length=k at *
 simp [hs,hw,g0,g1,hn,hn',hn2,c0,c1]
 refine (k2 H hs).mono ?_
 rintro _ H' ⟨rfl,rfl⟩
 simp [hs,hw,g0,g1,hn,hn',hn2,c0,c1]
 exact ⟨by simp [eqV],by simp [eqV],s,hsn,hl.1,hl.2,⟨cs,S⟩,rfl⟩
end Go.AM.YtiolgkhfpnidfaaT
set_option maxRecDepth 100000
namespace Go.AM.YtiolgkhfpnidfaaT
open Go Go.AM Go.Proofs
def Ar.owner (A:Ar) (q:Int):Ar:={ A with quotas:=A.quotas++[max q 0],many:=A.many++[0] }
def Rn (R:Nat->Prop) (H H' : Hp) (b:Nat):Prop:=R b\/H.next<=b/\b < H'.next
def aR (R:Nat->Prop) (a b:Nat):Prop:=b=a\/R b
theorem owner_ok {R:Nat->Prop} {H:Hp} {a:Nat} {A:Ar} (h:ArAt R H a A) (q:Int) (hq : -9223372036854775808<=q/\q<=9223372036854775807) (hb:A.quotas.length < 1000):WF tab 18 [.ptr a 0,.int .i64 q] H fun w H'=>w = .int .i64 A.quotas.length/\ArAt (Rn R H H') H' a (A.owner q)/\Ext (aR R a) H H':=by
 refine wf18 (wp_sound _ ?_)
 have hs:=h.st
 obtain ⟨vs,vf,vq,vm,g0,gs,gf,gq,gm,hR,d1,d2,d3⟩:=h.row
 have s1:=gs.cells;have f1:=gf.cells;have q1:=gq.cells;have m1:=gm.cells
 have s2:=gs.one;have f2:=gf.one;have q2:=gq.one;have m2:=gm.one
 have hlt:=h.lt
 have hmx:(if q < 0 then 0 else q)=max q 0:=by split<;>omega
 have rl:=fun b hb=>h.rl b (hR b hb)
 simp [hs,g0,s1,s2,f1,f2,q1,q2,m1,m2,hmx]
 refine wpD_app1 (H:=H) (e0:=3) (cells:=[.int .i64 (max q 0)]) (by simp [descOf]) ty3 (by decide) (by simp) (by simp) gq (fun b hb=>⟨rl b (.inr (.inr (.inl hb))),by simp [hs]⟩) rfl (by show (A.quotas.length+1)*8<=_;omega) (by omega) (by simp [hs]) fun vq' H1 hS1 hA1=>?_
 have le1:=hA1.le
 have ra:∀ v,(∀ b∈rowsOf v,R b)->a∉rowsOf v:=fun v hv hm=>h.ra (hv a hm)
 have aq:a∉rowsOf vq:=ra vq fun b hb=>hR b (.inr (.inr (.inl hb)))
 have am:a∉rowsOf vm:=ra vm fun b hb=>hR b (.inr (.inr (.inr hb)))
 obtain ⟨ka1,ka2⟩:=hA1.keep a hlt aq (by simp [hs])
 rw [g0] at ka1
 have c1:=hS1.cells;have o1:=hS1.one
 have gm1:SlAt H1.bump 3 1 vm A.many.length (A.many.map (.int .i64)):=gm.of_get fun b hb=>(hA1.keep b (rl b (.inr (.inr (.inr hb)))) (fun hq=>d3 b hq hb) (by simp [hs])).1
 have em:=gm.eqv
 have st1:∀ c∈H1.stale,c∈rowsOf vq:=fun c hc=>(hA1.old c hc).elim (fun h=>by rw [hs] at h;cases h) id
 simp [hs,g0,ka1,ka2,s1,s2,f1,f2,q1,q2,m1,m2,em]
 refine wpD_app1 (H:=H1.bump) (e0:=3) (cells:=[.int .i64 0]) (by simp [descOf]) ty3 (by decide) (by simp) (by simp) gm1 (fun b hb=>⟨by have:=rl b (.inr (.inr (.inr hb)));show b < H1.next+1;omega,fun hc=>d3 b (st1 b hc) hb⟩) rfl (by show (A.many.length+1)*8<=_;have:=h.qm;omega) (by have:=h.qm;omega) (fun c hc=>by have:=rl c (.inr (.inr (.inl (st1 c hc))));show c < H1.next+1;omega) fun vm' H2 hS2 hA2=>?_
 have le2:H1.next+1<=H2.next:=hA2.le
 obtain ⟨kb1,kb2⟩:=hA2.keep a (by show a < H1.next+1;omega) am ka2
 have kb1:=kb1.trans ka1
 have c2:=hS2.cells;have o2:=hS2.one
 simp [hs,g0,ka1,ka2,kb1,kb2,s1,s2,f1,f2,q1,q2,m1,m2,c1,o1,c2,o2]
 have hln:∀ e0,lenV vq' (some (.slice e0))=some (.int .i64 ((A.quotas.length:Int)+1)):=fun e0=>by have:=hS1.lenV e0;simpa using this
 have w1:wr .i64 (A.quotas.length:Int)=(A.quotas.length:Int):=by rw [wr_i64 (by omega) (by omega)]
 have w2:(A.quotas.length:Int)+1-1=A.quotas.length:=by omega
 simp [hln,w1,w2]
 generalize hH5:((H2.bump.flush.put a (.row 98 4 false [vs,vf,vq',vm])).bump.put a (.row 98 4 false [vs,vf,vq',vm'])).bump=H5
 have s5:H5.stale=[]:=by rw [<- hH5];simp
 have n5:H5.next=H2.next+1+1+1:=by rw [<- hH5];simp
 have a5:H5.get a=some (.row 98 4 false [vs,vf,vq',vm']):=by rw [<- hH5];simp
 have g5:∀ b,b≠a->b∉H2.stale->H5.get b=H2.get b:=fun b hb hst=>by
  rw [<- hH5]
  simp [Hp.get_put,two_ne hb,Hp.get_flush,hst]
 have keep:∀ b,b < H.next->b≠a->b∉rowsOf vq->b∉rowsOf vm->H5.get b=H.get b:=fun b hb ha h1 h2=>by
  obtain ⟨e1,e2⟩:=hA1.keep b hb h1 (by simp [hs])
  obtain ⟨e3,e4⟩:=hA2.keep b (by show b < H1.next+1;omega) h2 e2
  rw [g5 b ha e4,e3];exact e1
 have nq:∀ b∈rowsOf vq',(b∈rowsOf vq\/H.next<=b)/\b < H1.next/\b∉rowsOf vm/\H5.get b=H1.get b:=fun b hb=>by
  obtain ⟨e1,e2,e3⟩:=hA1.new b hb
  have hvm:b∉rowsOf vm:=fun hm=>by
   rcases e3 with e3 | e3
   ·exact d3 b e3 hm
   ·have:=rl b (.inr (.inr (.inr hm)));omega
  obtain ⟨e4,e5⟩:=hA2.keep b (by show b < H1.next+1;omega) hvm e1
  have hba:b≠a:=fun e=>by
   rcases e3 with e3 | e3
   ·exact aq (e ▸ e3)
   ·omega
  exact ⟨e3,e2,hvm,by rw [g5 b hba e5];exact e4⟩
 have nm:∀ b∈rowsOf vm',(b∈rowsOf vm\/H1.next+1<=b)/\b < H2.next/\H5.get b=H2.get b:=fun b hb=>by
  obtain ⟨e1,e2,e3⟩:=hA2.new b hb
  have hba:b≠a:=fun e=>by
   rcases e3 with e3 | e3
   ·exact am (e ▸ e3)
   ·have:H1.next+1<=b:=e3;omega
  exact ⟨e3,e2,g5 b hba e1⟩
 refine ⟨⟨s5,⟨vs,vf,vq',vm',a5,gs.of_get fun b hb=>?_,gf.of_get fun b hb=>?_,?_,?_,fun b hb=>?_,fun b hb=>⟨(d1 b hb).1,fun hq=>?_,fun hm=>?_⟩,fun b hb=>⟨fun hq=>?_,fun hm=>?_⟩,fun b hb hm=>?_⟩,by omega,fun b hb=>?_,fun hb=>?_,h.o14,?_,h.big.1,h.big.2.1,?_⟩,s5,by omega,fun b hb hx=>?_⟩
 ·exact keep b (rl b (.inl hb)) (fun e=>h.ra (e ▸ hR b (.inl hb))) (d1 b hb).2.1 (d1 b hb).2.2
 ·exact keep b (rl b (.inr (.inl hb))) (fun e=>h.ra (e ▸ hR b (.inr (.inl hb)))) (d2 b hb).1 (d2 b hb).2
 ·have:=hS1.of_get (H':=H5) fun b hb=>(nq b hb).2.2.2
  simpa [Ar.owner] using this
 ·have:=hS2.of_get (H':=H5) fun b hb=>(nm b hb).2.2
  simpa [Ar.owner] using this
 ·rcases hb with hb | hb | hb | hb
  ·exact .inl (hR b (.inl hb))
  ·exact .inl (hR b (.inr (.inl hb)))
  ·rcases (nq b hb).1 with e | e
   ·exact .inl (hR b (.inr (.inr (.inl e))))
   ·exact .inr ⟨e,by have:=(nq b hb).2.1;omega⟩
  ·rcases (nm b hb).1 with e | e
   ·exact .inl (hR b (.inr (.inr (.inr e))))
   ·exact .inr ⟨by omega,by have:=(nm b hb).2.1;omega⟩
 ·rcases (nq b hq).1 with e | e
  ·exact (d1 b hb).2.1 e
  ·have:=rl b (.inl hb);omega
 ·rcases (nm b hm).1 with e | e
  ·exact (d1 b hb).2.2 e
  ·have:=rl b (.inl hb);omega
 ·rcases (nq b hq).1 with e | e
  ·exact (d2 b hb).1 e
  ·have:=rl b (.inr (.inl hb));omega
 ·rcases (nm b hm).1 with e | e
  ·exact (d2 b hb).2 e
  ·have:=rl b (.inr (.inl hb));omega
 ·have h1:=nq b hb
  rcases (nm b hm).1 with e | e
  ·exact h1.2.2.1 e
  ·omega
 ·rcases hb with hb | hb
  ·have:=h.rl b hb;omega
  ·exact hb.2
 ·rcases hb with hb | hb
  ·exact h.ra hb
  ·omega
 ·simp [Ar.owner,h.qm]
 ·simp [Ar.owner];omega
 ·exact keep b hb (fun e=>hx (.inl e)) (fun hq=>hx (.inr (hR b (.inr (.inr (.inl hq)))))) fun hm=>hx (.inr (hR b (.inr (.inr (.inr hm)))))
end Go.AM.YtiolgkhfpnidfaaT
set_option maxRecDepth 100000
namespace Go.AM.YtiolgkhfpnidfaaT
open Go Go.AM Go.Proofs
def zO:List V:=[.int .u8 0,.int .i64 0,.bool false,.nilm,.int .i64 0,.int .i64 0,.nils,.int .u64 0,.int .u8 0,.int .i64 0,.str [],.int .i64 0,.int .u64 0,.int .i64 0]
def Ar.drop (A:Ar) (n ow:Nat):Ar :=
 { A with slots:=A.slots.set n ⟨((A.slots[n]?).map Sl.uses).getD 0,false,zO⟩,free:=A.free++[n],many:=A.many.set ow ((A.many[ow]?).getD 0-1) }
theorem drop_nil {R:Nat->Prop} {H:Hp} {a:Nat} {A:Ar} (h:ArAt R H a A) (r:Nat) (hr:r < 18446744073709551616) (hl:liveA A r=false):WF tab 20 [.ptr a 0,.int .u64 r] H fun _ H'=>Ext noX H H':=by
 refine wf20 (wp_sound _ ?_)
 have hs:=h.st
 simp [hs]
 refine (get_nil h r hr hl).mono ?_
 rintro _ H1 ⟨rfl,X1⟩
 simp [X1.st]
 exact X1
theorem sl_open {H:Hp} {e:TypeId} {z n:Nat} {v:V} {l:List V} (h:SlAt H e z v n l) (hn:0 < n):∃ b cs,v = .sl b 0 n none z/\H.get b=some (.row e z false cs)/\n*z<=cs.length/\cs.take (n*z)=l:=by
 cases h with
 | nil=>omega
 | row b n cs hg hle=>exact ⟨b,cs,rfl,hg,hle,rfl⟩
theorem flat_at {L:List Sl} (ho:∀ s∈L,s.o.length=14) {q i:Nat} (hi:i < 16):(L.flatMap Sl.cs)[q*16+i]? = (L[q]?).bind fun s=>s.cs[i]?:=by
 cases hq:L[q]? with
 | none =>
  have hl:L.length<=q:=List.getElem?_eq_none_iff.1 hq
  have:(L.flatMap Sl.cs).length=L.length*16:=by
   clear hq hl
   induction L with
   | nil=>rfl
   | cons x r ih=>rw [List.flatMap_cons,List.length_append,ih fun s hs=>ho s (by simp [hs])];simp [Sl.cs,ho x (by simp)];omega
  simp only [Option.bind_none]
  exact List.getElem?_eq_none_iff.2 (by omega)
 | some s =>
  obtain ⟨h1,h2,h3,h4,h5⟩:=slots_at ho hq
  simp only [Option.bind_some]
  match i,hi with
  | 0,_=>exact h1
  | 1,_=>exact h2
  | i+2,hi =>
   have:=h4 i (by omega)
   rw [show q*16+(i+2)=q*16+2+i by omega,this]
   simp [Sl.cs]
theorem flat_len {L:List Sl} (ho:∀ s∈L,s.o.length=14):(L.flatMap Sl.cs).length=L.length*16:=by
 induction L with
 | nil=>rfl
 | cons x r ih=>rw [List.flatMap_cons,List.length_append,ih fun s hs=>ho s (by simp [hs])];simp [Sl.cs,ho x (by simp)];omega
theorem slot_write {L:List Sl} {cs cs' : List V} (ho:∀ s∈L,s.o.length=14) (hL:cs.take (L.length*16)=L.flatMap Sl.cs) {n:Nat} (hn:n < L.length) {s' : Sl} (ho' : s'.o.length=14) (h0:∀ j,j < n*16\/n*16+16<=j->cs'[j]? = cs[j]?) (h1:∀ i,i < 16->cs'[n*16+i]? = s'.cs[i]?) :
  cs'.take (L.length*16)=(L.set n s').flatMap Sl.cs:=by
 have ho2:∀ s∈L.set n s',s.o.length=14:=fun s hs=>by
  rcases List.mem_or_eq_of_mem_set hs with h | rfl
  ·exact ho s h
  ·exact ho'
 apply List.ext_getElem?
 intro j
 by_cases hj:j < L.length*16
 ·have e1:j=j / 16*16+j % 16:=by omega
  rw [List.getElem?_take,if_pos hj]
  have hc:cs[j]? = (L.flatMap Sl.cs)[j]?:=by rw [<- hL,List.getElem?_take,if_pos hj]
  rw [e1,flat_at ho2 (by omega),List.getElem?_set]
  by_cases hq:n=j / 16
  ·subst hq
   rw [if_pos rfl,if_pos hn,h1 _ (by omega)]
   rfl
  ·rw [if_neg hq,h0 _ (by omega),<- e1,hc]
   rw [e1,flat_at ho (by omega),<- e1]
 ·have h2:((L.set n s').flatMap Sl.cs).length<=j:=by rw [flat_len ho2,List.length_set];omega
  rw [List.getElem?_eq_none_iff.2 h2,List.getElem?_eq_none_iff.2 (by simp;omega)]
theorem setCells_get (o X:List V) (p:Nat) (h:p+o.length<=X.length) (j:Nat):(setCells X p o)[j]? = if p<=j/\j < p+o.length then o[j-p]? else X[j]?:=by
 rw [setCells_app o X p h]
 by_cases h1:j < p
 ·rw [if_neg (by omega),List.append_assoc,List.getElem?_append_left (by simp;omega),List.getElem?_take,if_pos h1]
 ·by_cases h2:j < p+o.length
  ·rw [if_pos (by omega),List.append_assoc,List.getElem?_append_right (by simp;omega),List.getElem?_append_left (by simp;omega)]
   congr 1;simp;omega
  ·rw [if_neg (by omega),List.getElem?_append_right (by simp;omega),List.getElem?_drop]
   congr 1;simp;omega
theorem rows_new {R:Nat->Prop} {m m' : Nat} {vs vf vq vm vs' vf' vq' vm' : V} {Ns Nf Nq Nm:Nat->Prop}
  (hR:∀ b,b∈rowsOf vs\/b∈rowsOf vf\/b∈rowsOf vq\/b∈rowsOf vm->R b) (d1:∀ b,b∈rowsOf vs->b∉rowsOf vf/\b∉rowsOf vq/\b∉rowsOf vm) (d2:∀ b,b∈rowsOf vf->b∉rowsOf vq/\b∉rowsOf vm) (d3:∀ b,b∈rowsOf vq->b∉rowsOf vm)
  (hl:∀ b,R b->b < m) (hs:∀ c∈rowsOf vs',c∈rowsOf vs\/Ns c) (hf:∀ c∈rowsOf vf',c∈rowsOf vf\/Nf c) (hq:∀ c∈rowsOf vq',c∈rowsOf vq\/Nq c) (hm:∀ c∈rowsOf vm',c∈rowsOf vm\/Nm c)
  (hn:∀ c,Ns c\/Nf c\/Nq c\/Nm c->m<=c/\c < m') (e1:∀ c,Ns c->¬ Nf c/\¬ Nq c/\¬ Nm c) (e2:∀ c,Nf c->¬ Nq c/\¬ Nm c) (e3:∀ c,Nq c->¬ Nm c) :
  (∀ b,b∈rowsOf vs'\/b∈rowsOf vf'\/b∈rowsOf vq'\/b∈rowsOf vm'->R b\/m<=b/\b < m')/\(∀ b,b∈rowsOf vs'->b∉rowsOf vf'/\b∉rowsOf vq'/\b∉rowsOf vm')/\(∀ b,b∈rowsOf vf'->b∉rowsOf vq'/\b∉rowsOf vm')/\(∀ b,b∈rowsOf vq'->b∉rowsOf vm'):=by
 have o:∀ c,c∈rowsOf vs\/c∈rowsOf vf\/c∈rowsOf vq\/c∈rowsOf vm->¬ (Ns c\/Nf c\/Nq c\/Nm c):=fun c h1 h2=>by have:=hl c (hR c h1);have:=(hn c h2).1;omega
 refine ⟨fun b hb=>?_,fun b hb=>⟨fun h=>?_,fun h=>?_,fun h=>?_⟩,fun b hb=>⟨fun h=>?_,fun h=>?_⟩,fun b hb h=>?_⟩
 ·rcases hb with hb | hb | hb | hb
  ·exact (hs b hb).imp (fun h=>hR b (.inl h)) fun h=>hn b (.inl h)
  ·exact (hf b hb).imp (fun h=>hR b (.inr (.inl h))) fun h=>hn b (.inr (.inl h))
  ·exact (hq b hb).imp (fun h=>hR b (.inr (.inr (.inl h)))) fun h=>hn b (.inr (.inr (.inl h)))
  ·exact (hm b hb).imp (fun h=>hR b (.inr (.inr (.inr h)))) fun h=>hn b (.inr (.inr (.inr h)))
 ·have h1:=hs b hb;have h2:=hf b h;have h3:=o b;have h4:=d1 b;have h5:=e1 b;grind
 ·have h1:=hs b hb;have h2:=hq b h;have h3:=o b;have h4:=d1 b;have h5:=e1 b;grind
 ·have h1:=hs b hb;have h2:=hm b h;have h3:=o b;have h4:=d1 b;have h5:=e1 b;grind
 ·have h1:=hf b hb;have h2:=hq b h;have h3:=o b;have h4:=d2 b;have h5:=e2 b;grind
 ·have h1:=hf b hb;have h2:=hm b h;have h3:=o b;have h4:=d2 b;have h5:=e2 b;grind
 ·have h1:=hq b hb;have h2:=hm b h;have h3:=o b;have h4:=d3 b;have h5:=e3 b;grind
theorem drop_ok {R:Nat->Prop} {H:Hp} {a:Nat} {A:Ar} (h:ArAt R H a A) (r:Nat) (hr:r < 18446744073709551616) (hl:liveA A r=true) {s0:Sl} (hs0:A.slots[slotN r]? = some s0) {ow:Nat} (how:s0.o[1]? = some (.int .i64 (ow:Nat))) (hlt:ow < A.many.length) {k:Int} (hk:A.many[ow]? = some k) (hk1 : -9223372036854775807<=k/\k<=9223372036854775807) (hf:A.free.length < 100000) :
  WF tab 20 [.ptr a 0,.int .u64 r] H fun _ H'=>ArAt (Rn R H H') H' a (A.drop (slotN r) ow)/\Ext (aR R a) H H':=by
 refine wf20 (wp_sound _ ?_)
 have hs:=h.st
 simp [hs]
 refine (get_ptr h r hr hl).mono ?_
 rintro _ H1 ⟨b,s,cs,rfl,hsn,hu,huu,S,hg1,st1,le1⟩
 rw [hs0] at hsn
 obtain rfl:s0=s:=by simpa using hsn
 have h1:ArAt R H1 a A:=h.of_get st1 le1 fun b _=>by rw [hg1]
 have S1:SlotAt R H1 a A (slotN r) s0 b cs:=⟨by rw [hg1];exact S.row,by rw [hg1];exact S.get,S.le,S.eq,S.rb,S.lt,S.c0,S.c1,S.co,S.ol⟩
 have k1:=fun (H:Hp) hs=>slot_ok' (H:=H) hs r hr
 have hX1:Ext noX H H1:=⟨st1,le1,fun b _ _=>by rw [hg1]⟩
 have hn4:=slotN_lt r
 generalize slotN r=n at *
 obtain ⟨vs,vf,vq,vm,g0,gs,gf,gq,gm,hR,d1,d2,d3⟩:=h1.row
 obtain ⟨vf',vq',vm',g0'⟩:=S1.row
 rw [g0] at g0'
 obtain ⟨rfl,rfl,rfl,rfl⟩:vs = .sl b 0 A.slots.length none 16/\vf=vf'/\vq=vq'/\vm=vm':=by simpa using g0'
 obtain ⟨bm,cm,rfl,gm1,gm2,gm3⟩:=sl_open gm (by omega)
 have hbs:=S1.get
 have hso:=S1.co 1 (by omega)
 rw [how] at hso
 have q1:=gq.cells;have q2:=gq.one;have f1:=gf.cells;have f2:=gf.one
 have hcm:cm[ow]? = some (.int .i64 k):=by
  have:(cm.take (A.many.length*1))[ow]? = some (.int .i64 k):=by rw [gm3,List.getElem?_map,hk];rfl
  rw [List.getElem?_take,if_pos (by omega)] at this;exact this
 have how2:(ow:Int) < (A.many.length:Int):=by omega
 have hcl:ow+1<=cm.length:=by omega
 have wk:wr .i64 (k-1)=k-1:=by rw [wr_eq,IntKind.wrap_i64];omega
 have hne:bm≠b:=fun e=>(d1 b (by simp [rowsOf])).2.2 (by simp [rowsOf,e])
 have hnea:bm≠a:=fun e=>h1.ra (e ▸ hR bm (.inr (.inr (.inr (by simp [rowsOf])))))
 have hba:b≠a:=fun e=>h1.ra (e ▸ S1.rb)
 simp [st1,g0,hbs,hso,gm1,hcm,hlt,how2,hcl,wk]
 generalize hH2:(H1.put bm (.row 3 1 false (cm.set ow (.int .i64 (k-1))))).bump=H2
 have st2:H2.stale=[]:=by rw [<- hH2];simp [st1]
 have n2:H2.next=H1.next+1:=by rw [<- hH2];simp
 have e2:∀ c,c≠bm->H2.get c=H1.get c:=fun c hc=>by rw [<- hH2];simp [st1,Hp.get_put,two_ne hc]
 have m2:H2.get bm=some (.row 3 1 false (cm.set ow (.int .i64 (k-1)))):=by rw [<- hH2];simp [st1,Hp.get_put]
 have ga2:H2.get a=some (.row 98 4 false [.sl b 0 A.slots.length none 16,vf,vq,.sl bm 0 A.many.length none 1]):=by rw [e2 a (Ne.symm hnea)];exact g0
 have gb2:H2.get b=some (.row 100 16 false cs):=by rw [e2 b (Ne.symm hne)];exact hbs
 refine (k1 H2 st2).mono ?_
 rintro _ H2 ⟨rfl,rfl⟩
 have hnl:(n:Int) < (A.slots.length:Int):=by have:=S1.lt;omega
 have hnl':=S1.lt
 have hle:=S1.le
 have j1:n*16+1+1<=cs.length:=by omega
 have j2:n*16+2+14<=cs.length:=by omega
 have eS:eqV (V.sl b 0 A.slots.length none 16) (V.sl b 0 A.slots.length none 16)=true:=by simp [eqV]
 simp [st2,ga2,gb2,hnl,hnl',j1,j2,eS]
 rw [show (((((((((((((((cs.set (n*16+1) (V.bool false)).set (n*16+2) (V.int IntKind.u8 0)).set (n*16+2+1) (V.int IntKind.i64 0)).set (n*16+2+1+1) (V.bool false)).set (n*16+2+1+1+1) V.nilm).set (n*16+2+1+1+1+1) (V.int IntKind.i64 0)).set (n*16+2+1+1+1+1+1) (V.int IntKind.i64 0)).set (n*16+2+1+1+1+1+1+1) V.nils).set (n*16+2+1+1+1+1+1+1+1) (V.int IntKind.u64 0)).set (n*16+2+1+1+1+1+1+1+1+1) (V.int IntKind.u8 0)).set (n*16+2+1+1+1+1+1+1+1+1+1) (V.int IntKind.i64 0)).set (n*16+2+1+1+1+1+1+1+1+1+1+1) (V.str [])).set (n*16+2+1+1+1+1+1+1+1+1+1+1+1) (V.int IntKind.i64 0)).set (n*16+2+1+1+1+1+1+1+1+1+1+1+1+1) (V.int IntKind.u64 0)).set (n*16+2+1+1+1+1+1+1+1+1+1+1+1+1+1) (V.int IntKind.i64 0))=setCells (cs.set (n*16+1) (.bool false)) (n*16+2) zO from rfl]
 have hzl:zO.length=14:=rfl
 have hcs' : ∀ j,(setCells (cs.set (n*16+1) (.bool false)) (n*16+2) zO)[j]? = if n*16+2<=j/\j < n*16+2+14 then zO[j-(n*16+2)]? else (cs.set (n*16+1) (.bool false))[j]?:=setCells_get zO _ _ (by rw [hzl,List.length_set];omega)
 have hcl' : (setCells (cs.set (n*16+1) (.bool false)) (n*16+2) zO).length=cs.length:=by
  rw [setCells_app _ _ _ (by rw [hzl,List.length_set];omega)];simp [hzl];omega
 generalize setCells (cs.set (n*16+1) (.bool false)) (n*16+2) zO=cs' at *
 generalize hH3:(H2.bump.put b (.row 100 16 false (cs.set (n*16+1) (.bool false)))).put b (.row 100 16 false cs')=H3
 have st3:H3.stale=[]:=by rw [<- hH3];simp [st2]
 have n3:H3.next=H2.next+1:=by rw [<- hH3];simp
 have e3:∀ c,c≠b->H3.get c=H2.get c:=fun c hc=>by rw [<- hH3];simp [Hp.get_put,two_ne hc]
 have m3:H3.get b=some (.row 100 16 false cs'):=by rw [<- hH3];simp [Hp.get_put]
 have ga3:H3.get a=some (.row 98 4 false [.sl b 0 A.slots.length none 16,vf,vq,.sl bm 0 A.many.length none 1]):=by rw [e3 a (Ne.symm hba)];exact ga2
 refine (k1 H3 st3).mono ?_
 rintro _ H3 ⟨rfl,rfl⟩
 have ef:=gf.eqv
 have gf3:SlAt H3.bump 90 1 vf A.free.length (A.free.map fun n=>.int .u32 (n:Nat)):=gf.of_get fun c hc=>by
  show H3.get c=_
  rw [e3 c (fun e=>(d1 b (by simp [rowsOf])).1 (e ▸ hc)),e2 c (fun e=>(d2 c hc).2 (by simp [rowsOf,e]))]
 have rl:=fun c hc=>h1.rl c (hR c hc)
 simp [st3,ga3,f1,f2,ef]
 refine wpD_app1 (H:=H3.bump) (e0:=90) (cells:=[.int .u32 (n:Nat)]) (by simp [descOf]) ty90 (by decide) (by simp) (by simp) gf3 (fun c hc=>⟨by have:=rl c (.inr (.inl hc));show c < H3.next+1;omega,by simp [st3]⟩) rfl (by show (A.free.length+1)*4<=_;omega) (by omega) (by simp [st3]) fun vf' H4 hS4 hA4=>?_
 have le4:H3.next+1<=H4.next:=hA4.le
 have af:a∉rowsOf vf:=fun hm=>h1.ra (hR a (.inr (.inl hm)))
 have bf:b∉rowsOf vf:=(d1 b (by simp [rowsOf])).1
 have mf:bm∉rowsOf vf:=fun hm=>(d2 bm hm).2 (by simp [rowsOf])
 have hlta:=h1.lt
 obtain ⟨ka1,ka2⟩:=hA4.keep a (by show a < H3.next+1;omega) af (by simp [st3])
 have ka1:=ka1.trans ga3
 have c1:=hS4.cells;have o1:=hS4.one
 simp [ka1,ka2,c1,o1,f1,f2,q1,q2]
 generalize hH5:(H4.bump.flush.put a (.row 98 4 false [.sl b 0 A.slots.length none 16,vf',vq,.sl bm 0 A.many.length none 1])).bump=H5
 have s5:H5.stale=[]:=by rw [<- hH5];simp
 have n5:H5.next=H4.next+1+1:=by rw [<- hH5];simp
 have a5:H5.get a=some (.row 98 4 false [.sl b 0 A.slots.length none 16,vf',vq,.sl bm 0 A.many.length none 1]):=by rw [<- hH5];simp
 have g5:∀ c,c≠a->c∉H4.stale->H5.get c=H4.get c:=fun c hc hst=>by
  rw [<- hH5]
  simp [Hp.get_put,two_ne hc,Hp.get_flush,hst]
 have keep:∀ c,c < H1.next->c≠a->c∉rowsOf vf->H5.get c=H3.get c:=fun c hc ha hf=>by
  obtain ⟨k1,k2⟩:=hA4.keep c (by show c < H3.next+1;omega) hf (by simp [st3])
  rw [g5 c ha k2];exact k1
 have keep1:∀ c,c < H1.next->c≠a->c∉rowsOf vf->c≠b->c≠bm->H5.get c=H1.get c:=fun c hc ha hf hb hm=>by
  rw [keep c hc ha hf,e3 c hb,e2 c hm]
 have nf:∀ c∈rowsOf vf',(c∈rowsOf vf\/H3.next+1<=c)/\c < H4.next/\H5.get c=H4.get c:=fun c hc=>by
  obtain ⟨k1,k2,k3⟩:=hA4.new c hc
  have hca:c≠a:=fun e=>by
   rcases k3 with k3 | k3
   ·exact af (e ▸ k3)
   ·have:H3.next+1<=c:=k3;omega
  exact ⟨k3,k2,g5 c hca k1⟩
 obtain ⟨r1,r2,r3,r4⟩:=rows_new (vs':=.sl b 0 A.slots.length none 16) (vf':=vf') (vq':=vq) (vm':=.sl bm 0 A.many.length none 1) (m:=H1.next) (m':=H5.next) (Ns:=fun _=>False) (Nf:=fun c=>H3.next+1<=c/\c < H4.next) (Nq:=fun _=>False) (Nm:=fun _=>False) hR d1 d2 d3 h1.rl
  (fun c hc=>.inl hc) (fun c hc=>(nf c hc).1.imp id fun h=>⟨h,(nf c hc).2.1⟩) (fun c hc=>.inl hc) (fun c hc=>.inl hc) (fun c hc=>by rcases hc with hc | hc | hc | hc<;>first | exact hc.elim | omega) (fun c hc=>hc.elim) (fun c hc=>⟨fun h=>h,fun h=>h⟩) (fun c hc=>hc.elim)
 have eD:(A.drop n ow).slots=A.slots.set n ⟨s0.uses,false,zO⟩:=by simp [Ar.drop,hs0]
 refine ⟨⟨s5,⟨_,_,_,_,a5,?_,?_,?_,?_,fun c hc=>(r1 c hc).imp id fun h=>⟨by omega,h.2⟩,r2,r3,r4⟩,by omega,fun c hc=>?_,fun hc=>?_,?_,?_,?_⟩,s5,by omega,fun c hc hx=>?_⟩
 ·have hw:=slot_write (s':=⟨s0.uses,false,zO⟩) (cs':=cs') h.o14 S1.eq hnl' rfl (fun j hj=>?_) fun i hi=>?_
  ·rw [eD,<- hw,List.length_set]
   exact SlAt.row _ _ _ (by rw [keep b (h1.rl b S1.rb) hba bf];exact m3) (by rw [hcl'];exact hle)
  ·rw [hcs',if_neg (by omega),List.getElem?_set_ne (by omega)]
  ·rw [hcs']
   match i,hi with
   | 0,_=>rw [if_neg (by omega),List.getElem?_set_ne (by omega)];exact S1.c0
   | 1,_=>rw [if_neg (by omega),List.getElem?_set_self (by omega)];rfl
   | i+2,hi=>rw [if_pos (by omega),show n*16+(i+2)-(n*16+2)=i by omega];rfl
 ·have:=hS4.of_get (H':=H5) fun c hc=>(nf c hc).2.2
  simpa [Ar.drop] using this
 ·exact gq.of_get fun c hc=>keep1 c (h1.rl c (hR c (.inr (.inr (.inl hc))))) (fun e=>h1.ra (hR a (.inr (.inr (.inl (e ▸ hc)))))) (fun hf=>(d2 c hf).1 hc) (fun e=>(d1 b (by simp [rowsOf])).2.1 (e ▸ hc)) (fun e=>d3 c hc (by simp [rowsOf,e]))
 ·have hg:H5.get bm=some (.row 3 1 false (cm.set ow (.int .i64 (k-1)))):=by rw [keep bm (h1.rl bm (hR bm (.inr (.inr (.inr (by simp [rowsOf])))))) hnea mf,e3 bm hne];exact m2
  have:=SlAt.row (sz:=1) bm A.many.length _ hg (by simp;omega)
  have e:((cm.set ow (.int .i64 (k-1))).take (A.many.length*1))=(A.drop n ow).many.map (.int .i64):=by
   simp only [Ar.drop,hk,Option.getD_some,List.map_set,<- gm3,List.take_set]
  rw [e] at this
  simpa [Ar.drop] using this
 ·rcases hc with hc | hc
  ·have:=h.rl c hc;omega
  ·exact hc.2
 ·rcases hc with hc | hc
  ·exact h.ra hc
  ·have:=h.lt;omega
 ·intro s hs'
  rw [eD] at hs'
  rcases List.mem_or_eq_of_mem_set hs' with h | rfl
  ·exact h1.o14 s h
  ·rfl
 ·simp [Ar.drop,h.qm]
 ·have:=h.big;simp [Ar.drop];omega
 ·have hc1:c < H1.next:=by omega
  have hcR:¬ R c:=fun h=>hx (.inr h)
  rw [keep1 c hc1 (fun e=>hx (.inl e)) (fun hf=>hcR (hR c (.inr (.inl hf)))) (fun e=>hcR (e ▸ S1.rb)) (fun e=>hcR (hR c (.inr (.inr (.inr (by simp [rowsOf,e])))))),hg1]
end Go.AM.YtiolgkhfpnidfaaT
set_option maxRecDepth 100000
namespace Go.AM.YtiolgkhfpnidfaaT
open Go Go.AM Go.Proofs
def Ar.usesAt (A:Ar) (n:Nat):Nat:=((A.slots[n]?).map Sl.uses).getD 0
def Ar.grow (A:Ar):Ar:=if A.free=[] then { A with slots:=A.slots++[⟨0,false,zO⟩],free:=[A.slots.length] } else A
def Ar.top (A:Ar):Nat:=A.grow.free.getLastD 0
def Ar.put (A:Ar) (o:List V) (ow:Nat):Ar :=
 { slots:=A.grow.slots.set A.top ⟨A.grow.usesAt A.top+1,true,o⟩,free:=A.grow.free.dropLast,quotas:=A.quotas,many:=A.many.set ow ((A.many[ow]?).getD 0+1) }
def Ar.ref (A:Ar):Nat:=(A.grow.usesAt A.top+1)*4294967296+A.top
theorem grow_nil {A:Ar} (h:A.free=[]):A.grow = { A with slots:=A.slots++[⟨0,false,zO⟩],free:=[A.slots.length] }:=by unfold Ar.grow;rw [if_pos h]
theorem grow_ne {A:Ar} (h:A.free≠[]):A.grow=A:=by unfold Ar.grow;rw [if_neg h]
theorem top_nil {A:Ar} (h:A.free=[]):A.top=A.slots.length:=by unfold Ar.top;rw [grow_nil h];rfl
theorem put_nil {A:Ar} (h:A.free=[]) (o:List V) (ow:Nat):A.put o ow=⟨A.slots++[⟨1,true,o⟩],[],A.quotas,A.many.set ow ((A.many[ow]?).getD 0+1)⟩:=by
 unfold Ar.put
 rw [top_nil h,grow_nil h]
 simp [Ar.usesAt]
theorem ref_nil {A:Ar} (h:A.free=[]):A.ref=4294967296+A.slots.length:=by
 unfold Ar.ref
 rw [top_nil h,grow_nil h]
 simp [Ar.usesAt]
theorem slot_of (u n:Nat) (h:n < 4294967296):slotN (u*4294967296+n)=n/\usesN (u*4294967296+n)=u:=by
 unfold slotN usesN;omega
theorem ref_eq (r:Nat):r=usesN r*4294967296+slotN r:=by unfold slotN usesN;omega
structure FullInv (q k i j:Nat) (A:Ar) (l:List Nat):Prop where
 free:A.free=[]
 qs:A.quotas=[(q:Int),(k:Int)]
 ms:A.many=[((min i q:Nat):Int),((min j k:Nat):Int)]
 live:∀ s∈A.slots,s.used=true/\s.uses=1
 len:A.slots.length<=i+j
 ll:l.length=min i q
 ls:∀ r∈l,∃ n s,r=4294967296+n/\A.slots[n]? = some s/\s.o[1]? = some (.int .i64 (0:Nat))
theorem FullInv.start (q k:Nat):FullInv q k 0 0 ⟨[],[],[(q:Int),(k:Int)],[0,0]⟩ []:=⟨rfl,rfl,by simp,by simp,by simp,by simp,by simp⟩
variable {q k i j:Nat} {A:Ar} {l:List Nat} {o:List V}
theorem FullInv.gone (h:FullInv q k i j A l) (hi:q<=i) (hij:i+j < 4294967296) {r:Nat} (hr:r∈l) :
  ∃ s,A.slots[slotN r]? = some s/\s.o[1]? = some (.int .i64 (0:Nat))/\liveA A r=true/\A.many[0]? = some (q:Int)/\r < 18446744073709551616 /\
   (A.drop (slotN r) 0).free=[slotN r]/\(A.drop (slotN r) 0).many[0]? = some ((q:Int)-1)/\slotN r < A.slots.length /\
   (A.drop (slotN r) 0).usesAt (slotN r)=1/\((A.drop (slotN r) 0).put o 0).many[0]? = some (q:Int)/\liveA ((A.drop (slotN r) 0).put o 0) r=false/\(A.drop (slotN r) 0).slots.length=A.slots.length:=by
 obtain ⟨n,s,h1,h2,h3⟩:=h.ls r hr
 have hn:=(List.getElem?_eq_some_iff.1 h2).1
 have hl:=h.len
 have e:=slot_of 1 n (by omega)
 rw [Nat.one_mul,<- h1] at e
 obtain ⟨e1,e2⟩:=e
 have hs:=h.live s (List.mem_of_getElem? h2)
 have hm:A.many[0]? = some (q:Int):=by rw [h.ms];simp;omega
 have hf:(A.drop n 0).free=[n]:=by simp [Ar.drop,h.free]
 have hu:(A.drop n 0).usesAt n=1:=by
  have:A.slots[n]=s:=by rw [List.getElem?_eq_getElem hn] at h2;simpa using h2
  simp [Ar.drop,Ar.usesAt,hn,this,hs.2]
 have ht:(A.drop n 0).top=n:=by unfold Ar.top;rw [grow_ne (by rw [hf];simp),hf];rfl
 have hmd:(A.drop n 0).many[0]? = some ((q:Int)-1):=by simp [Ar.drop,h.ms];omega
 rw [e1]
 refine ⟨s,h2,h3,?_,hm,by omega,hf,hmd,hn,hu,?_,?_,by simp [Ar.drop]⟩
 ·unfold liveA;rw [e1,h2];simp [hs,e2]
 ·have:0 < (A.drop n 0).many.length:=by simp [Ar.drop,h.ms]
  simp only [Ar.put,List.getElem?_set,hmd]
  simp [this]
 ·unfold liveA
  rw [e1,e2]
  have:n < (A.drop n 0).slots.length:=by simp [Ar.drop,hn]
  simp [Ar.put,grow_ne (A:=A.drop n 0) (by rw [hf];simp),ht,hu,this]
end Go.AM.YtiolgkhfpnidfaaT
set_option maxRecDepth 100000
namespace Go.AM.YtiolgkhfpnidfaaT
open Go Go.AM Go.Proofs
def objL (k:Int) (ow:Int) (fi:V) (mo me:Int):List V:=[.int .u8 k,.int .i64 ow,.bool false,fi,.int .i64 mo,.int .i64 0,.nils,.int .u64 0,.int .u8 0,.int .i64 0,.str [],.int .i64 me,.int .u64 0,.int .i64 0]
def objV (k:Int) (ow:Int) (fi:V) (mo me:Int):V:=.agg (objL k ow fi mo me)
def Zput13:SCode:=.seq (.dreg R19_13) (.seq (.reg R19_14) (.ret))
def Zput11:SCode:=.seq (.reg R19_11) (.seq (.dreg R19_12) Zput13)
def Zput:SCode:=.seq (.dreg R19_8) (.seq (.dreg R19_9) (.seq (.reg R19_10) Zput11))
theorem put_mid {R:Nat->Prop} {H:Hp} {a p b:Nat} {B:Ar} {F:Fr} {cs:List V} (h:ArAt R H a B) (hp:p < H.next) (hpa:p≠a) (hpR:¬ R p) {k mo me:Int} {ow:Nat} {fi:V} (gp:H.get p=some (.row 44 14 false (objL k ow fi mo me))) (hf1:cellsV fi=[fi]) (hf2:oneV fi=true) (hf3:eqV fi fi=true)
  {n:Nat} {s:Sl} (hn:B.slots[n]? = some s) (S1:SlotAt R H a B n s b cs) (hu:s.uses < 4294967295) {m:Int} (hm:B.many[ow]? = some m) (hm1:0<=m/\m < 1000000000)
  (f0:F.get 0=some (.ptr a 0)) (f3:F.get 3=some (.ptr p 0)) (f6:F.get 6=some (.int .u32 (n:Nat))) (f7:F.get 7=some (.ptr b (n*16))) {Q:V->Hp->Prop}
  (hQ:∀ H',ArAt R H' a ⟨B.slots.set n ⟨s.uses+1,true,objL k ow fi mo me⟩,B.free,B.quotas,B.many.set ow (m+1)⟩->Ext (aR R a) H H'->Q (.tup [.int .u64 ((s.uses+1)*4294967296+n:Nat),.int .i64 0]) H') :
  wp tab Zput11 F H (resQ tab [.tmp 4,.tmp 5] Q):=by
 have hs:=h.st
 obtain ⟨vs,vf,vq,vm,g0,gs,gf,gq,gm,hR,d1,d2,d3⟩:=h.row
 obtain ⟨vf',vq',vm',g0'⟩:=S1.row
 rw [g0] at g0'
 obtain ⟨rfl,rfl,rfl,rfl⟩:vs = .sl b 0 B.slots.length none 16/\vf=vf'/\vq=vq'/\vm=vm':=by simpa using g0'
 have hml:ow < B.many.length:=(List.getElem?_eq_some_iff.1 hm).1
 obtain ⟨bm,cm,rfl,gm1,gm2,gm3⟩:=sl_open gm (by omega)
 have hcm:cm[ow]? = some (.int .i64 m):=by
  have:(cm.take (B.many.length*1))[ow]? = some (.int .i64 m):=by rw [gm3,List.getElem?_map,hm];rfl
  rw [List.getElem?_take,if_pos (by omega)] at this;exact this
 have q1:=gq.cells;have q2:=gq.one
 have hbs:=S1.get
 have c0:=S1.c0
 have hnl:=S1.lt
 have hle:=S1.le
 have hba:b≠a:=fun e=>h.ra (e ▸ S1.rb)
 have hbp:b≠p:=fun e=>hpR (e ▸ S1.rb)
 have hmR:R bm:=hR bm (.inr (.inr (.inr (by simp [rowsOf]))))
 have hmb:bm≠b:=fun e=>(d1 b (by simp [rowsOf])).2.2 (by simp [rowsOf,e])
 have hma:bm≠a:=fun e=>h.ra (e ▸ hmR)
 have hmp:bm≠p:=fun e=>hpR (e ▸ hmR)
 have wu:wr .u32 ((s.uses:Int)+1)=((s.uses+1:Nat):Int):=by rw [wr_u32 (by omega) (by omega)];omega
 have wm:wr .i64 (m+1)=m+1:=by rw [wr_i64 (by omega) (by omega)]
 have j0:n*16+1<=cs.length:=by omega
 have j1:n*16+1+1<=cs.length:=by omega
 have j2:n*16+2+14<=cs.length:=by omega
 have ho1:(objL k ow fi mo me).length=14:=rfl
 have ho2:(objL k ow fi mo me).take 14=objL k ow fi mo me:=rfl
 have ho3:cellsV (.agg (objL k ow fi mo me))=objL k ow fi mo me:=by simp [cellsV]
 have ho4:∀ x∈objL k ow fi mo me,oneV x=true:=by
  intro x hx
  simp only [objL,List.mem_cons,List.not_mem_nil,or_false] at hx
  rcases hx with rfl | rfl | rfl | rfl | rfl | rfl | rfl | rfl | rfl | rfl | rfl | rfl | rfl | rfl<;>first | rfl | exact hf2
 have ho5:eqV (.agg (objL k ow fi mo me)) (.agg (objL k ow fi mo me))=true:=by simp [objL,eqV,hf3,eqL]
 have ho7:(objL k ow fi mo me)[1]? = some (.int .i64 (ow:Nat)):=rfl
 generalize objL k ow fi mo me=O at *
 have ho6:(∀ x,x∈O->oneV x=true)=True:=eq_true ho4
 simp [Zput11,hs,f0,f3,f6,f7,g0,hbs,gp,c0,wu,j0,j1,j2,two_ne hbp,Hp.get_put,ho1,ho2,ho3,ho6,ho5]
 have hcs' : ∀ j,(setCells ((cs.set (n*16) (.int .u32 ((s.uses:Int)+1))).set (n*16+1) (.bool true)) (n*16+2) O)[j]? = if n*16+2<=j/\j < n*16+2+14 then O[j-(n*16+2)]? else ((cs.set (n*16) (.int .u32 ((s.uses:Int)+1))).set (n*16+1) (.bool true))[j]?:=by
  have:=setCells_get O ((cs.set (n*16) (.int .u32 ((s.uses:Int)+1))).set (n*16+1) (.bool true)) (n*16+2) (by rw [ho1,List.length_set,List.length_set];omega)
  rw [ho1] at this;exact this
 have hcl' : (setCells ((cs.set (n*16) (.int .u32 ((s.uses:Int)+1))).set (n*16+1) (.bool true)) (n*16+2) O).length=cs.length:=by
  rw [setCells_app _ _ _ (by rw [ho1,List.length_set,List.length_set];omega)];simp [ho1];omega
 generalize setCells ((cs.set (n*16) (.int .u32 ((s.uses:Int)+1))).set (n*16+1) (.bool true)) (n*16+2) O=cs' at *
 generalize hH2:(((H.put b (.row 100 16 false (cs.set (n*16) (.int .u32 ((s.uses:Int)+1))))).put b (.row 100 16 false ((cs.set (n*16) (.int .u32 ((s.uses:Int)+1))).set (n*16+1) (.bool true)))).bump.put b (.row 100 16 false cs')).bump=H2
 have st2:H2.stale=[]:=by rw [<- hH2];simp [hs]
 have n2:H2.next=H.next+1+1:=by rw [<- hH2];simp
 have e2:∀ c,c≠b->H2.get c=H.get c:=fun c hc=>by rw [<- hH2];simp [hs,Hp.get_put,two_ne hc]
 have m2:H2.get b=some (.row 100 16 false cs'):=by rw [<- hH2];simp [hs,Hp.get_put]
 have ga2:=(e2 a (Ne.symm hba)).trans g0
 have gp2:=(e2 p (Ne.symm hbp)).trans gp
 have gm2':=(e2 bm hmb).trans gm1
 have hc0:cs'[n*16]? = some (.int .u32 ((s.uses:Int)+1)):=by rw [hcs',if_neg (by omega),List.getElem?_set_ne (by omega),List.getElem?_set_self (by omega)]
 have how2:(ow:Int) < (B.many.length:Int):=by omega
 have hcl:ow+1<=cm.length:=by omega
 simp [Zput13,st2,f0,f3,f6,f7,ga2,gp2,gm2',hcm,hml,how2,hcl,wm,ho7,Hp.get_put,two_ne hmb,m2,hc0]
 generalize hH3:(H2.put bm (.row 3 1 false (cm.set ow (.int .i64 (m+1))))).bump=H3
 have st3:H3.stale=[]:=by rw [<- hH3];simp [st2]
 have n3:H3.next=H2.next+1:=by rw [<- hH3];simp
 have e3:∀ c,c≠bm->H3.get c=H2.get c:=fun c hc=>by rw [<- hH3];simp [Hp.get_put,two_ne hc]
 have m3:H3.get bm=some (.row 3 1 false (cm.set ow (.int .i64 (m+1)))):=by rw [<- hH3];simp [Hp.get_put]
 rw [show ((s.uses:Int)+1)=((s.uses+1:Nat):Int) by omega]
 have hof:=of_ok st3 n (s.uses+1) (by have:=h.big.1;omega) (by omega)
 have hQ3:ArAt R H3 a ⟨B.slots.set n ⟨s.uses+1,true,O⟩,B.free,B.quotas,B.many.set ow (m+1)⟩/\Ext (aR R a) H H3:=by
  have keep:∀ c,c≠b->c≠bm->H3.get c=H.get c:=fun c h1 h2=>by rw [e3 c h2,e2 c h1]
  refine ⟨⟨st3,⟨_,_,_,_,(keep a (Ne.symm hba) (Ne.symm hma)).trans g0,?_,?_,?_,?_,hR,d1,d2,d3⟩,by have:=h.lt;omega,fun c hc=>by have:=h.rl c hc;omega,h.ra,?_,by simp [h.qm],by have:=h.big;simpa using this⟩,st3,by omega,fun c hc hx=>?_⟩
  ·have hw:=slot_write (s':=⟨s.uses+1,true,O⟩) (cs':=cs') h.o14 S1.eq hnl ho1 (fun j hj=>?_) fun i hi=>?_
   ·show SlAt H3 100 16 _ (B.slots.set n ⟨s.uses+1,true,O⟩).length ((B.slots.set n ⟨s.uses+1,true,O⟩).flatMap Sl.cs)
    rw [<- hw,List.length_set]
    exact SlAt.row _ _ _ (by rw [e3 b (Ne.symm hmb)];exact m2) (by rw [hcl'];exact hle)
   ·rw [hcs',if_neg (by omega),List.getElem?_set_ne (by omega),List.getElem?_set_ne (by omega)]
   ·match i,hi with
    | 0,_=>rw [Nat.add_zero,hc0];rfl
    | 1,_=>rw [hcs',if_neg (by omega),List.getElem?_set_self (by rw [List.length_set];omega)];rfl
    | i+2,hi=>rw [hcs',if_pos (by omega),show n*16+(i+2)-(n*16+2)=i by omega];rfl
  ·exact gf.of_get fun c hc=>keep c (fun e=>(d1 b (by simp [rowsOf])).1 (e ▸ hc)) (fun e=>(d2 c hc).2 (by simp [rowsOf,e]))
  ·exact gq.of_get fun c hc=>keep c (fun e=>(d1 b (by simp [rowsOf])).2.1 (e ▸ hc)) (fun e=>d3 c hc (by simp [rowsOf,e]))
  ·have:=SlAt.row (sz:=1) bm B.many.length _ m3 (by simp;omega)
   have e:((cm.set ow (.int .i64 (m+1))).take (B.many.length*1))=(B.many.set ow (m+1)).map (.int .i64):=by
    simp only [List.map_set,<- gm3,List.take_set]
   rw [e] at this
   simpa using this
  ·intro s' hs'
   rcases List.mem_or_eq_of_mem_set hs' with h' | rfl
   ·exact h.o14 s' h'
   ·exact ho1
  ·exact keep c (fun e=>hx (.inr (e ▸ S1.rb))) (fun e=>hx (.inr (e ▸ hmR)))
 have hq:=hQ H3 hQ3.1 hQ3.2
 clear hQ3 hQ
 generalize (s.uses+1)*4294967296+n=rr at *
 refine hof.mono ?_
 rintro _ H4 ⟨rfl,rfl⟩
 simp [st3,hq]
theorem put_tail {R:Nat->Prop} {H:Hp} {a p:Nat} {B:Ar} {F:Fr} (h:ArAt R H a B) (hp:p < H.next) (hpa:p≠a) (hpR:¬ R p) {k mo me:Int} {ow:Nat} {fi:V} (gp:H.get p=some (.row 44 14 false (objL k ow fi mo me))) (hf1:cellsV fi=[fi]) (hf2:oneV fi=true) (hf3:eqV fi fi=true)
  {fr:List Nat} {n:Nat} (hfr:B.free=fr++[n]) {s:Sl} (hn:B.slots[n]? = some s) (hu:s.uses < 4294967295) {m:Int} (hm:B.many[ow]? = some m) (hm1:0<=m/\m < 1000000000)
  (f0:F.get 0=some (.ptr a 0)) (f3:F.get 3=some (.ptr p 0)) {Q:V->Hp->Prop}
  (hQ:∀ H',ArAt R H' a ⟨B.slots.set n ⟨s.uses+1,true,objL k ow fi mo me⟩,fr,B.quotas,B.many.set ow (m+1)⟩->Ext (aR R a) H H'->Q (.tup [.int .u64 ((s.uses+1)*4294967296+n:Nat),.int .i64 0]) H') :
  wp tab Zput F H (resQ tab [.tmp 4,.tmp 5] Q):=by
 have hs:=h.st
 obtain ⟨b,cs,S1⟩:=h.slot hn
 obtain ⟨vs,vf,vq,vm,g0,gs,gf,gq,gm,hR,d1,d2,d3⟩:=h.row
 obtain ⟨vf',vq',vm',g0'⟩:=S1.row
 rw [g0] at g0'
 obtain ⟨rfl,rfl,rfl,rfl⟩:vs = .sl b 0 B.slots.length none 16/\vf=vf'/\vq=vq'/\vm=vm':=by simpa using g0'
 have hfl:B.free.length=fr.length+1:=by rw [hfr];simp
 have hml:ow < B.many.length:=(List.getElem?_eq_some_iff.1 hm).1
 obtain ⟨bf,cf,rfl,gf1,gf2,gf3⟩:=sl_open gf (by omega)
 obtain ⟨bm,cm,rfl,gm1,gm2,gm3⟩:=sl_open gm (by omega)
 have hcf:cf[fr.length]? = some (.int .u32 (n:Nat)):=by
  have:(cf.take (B.free.length*1))[fr.length]? = some (.int .u32 (n:Nat)):=by rw [gf3,List.getElem?_map,hfr];simp
  rw [List.getElem?_take,if_pos (by omega)] at this;exact this
 have hcm:cm[ow]? = some (.int .i64 m):=by
  have:(cm.take (B.many.length*1))[ow]? = some (.int .i64 m):=by rw [gm3,List.getElem?_map,hm];rfl
  rw [List.getElem?_take,if_pos (by omega)] at this;exact this
 have q1:=gq.cells;have q2:=gq.one
 have hbs:=S1.get
 have hnl:=S1.lt
 have hnl' : (n:Int) < (B.slots.length:Int):=by omega
 have hb2:=h.big.2.1
 rw [hfl] at g0 gf2 hb2
 generalize hnf:fr.length=nf at *
 have e1:(nf:Int)+1-1=nf:=by omega
 have l1:(nf:Int) < (nf:Int)+1:=by omega
 have w1:wr .i64 (nf:Int)=(nf:Int):=by rw [wr_i64 (by omega) (by omega)]
 have hsl:sliceV tab 96 (.sl bf 0 (nf+1) none 1) none (some (nf:Int)) none=some (.sl bf 0 nf none 1):=by
  simp [sliceV];omega
 have eF:eqV (V.sl bf 0 (nf+1) none 1) (V.sl bf 0 (nf+1) none 1)=true:=by simp [eqV]
 simp [Zput,hs,f0,f3,g0,gf1,e1,l1,w1,hcf,hsl,eF,q1,q2,hnl,hnl']
 generalize hH1:(H.put a (.row 98 4 false [.sl b 0 B.slots.length none 16,.sl bf 0 nf none 1,vq,.sl bm 0 B.many.length none 1])).bump=H1
 have st1:H1.stale=[]:=by rw [<- hH1];simp [hs]
 have n1:H1.next=H.next+1:=by rw [<- hH1];simp
 have k1:∀ c,c≠a->H1.get c=H.get c:=fun c hc=>by rw [<- hH1];simp [hs,Hp.get_put,two_ne hc]
 have ga1:H1.get a=some (.row 98 4 false [.sl b 0 B.slots.length none 16,.sl bf 0 nf none 1,vq,.sl bm 0 B.many.length none 1]):=by rw [<- hH1];simp [hs,Hp.get_put]
 have na:∀ c,R c->c≠a:=fun c hc e=>h.ra (e ▸ hc)
 have h1:ArAt R H1 a ⟨B.slots,fr,B.quotas,B.many⟩:=by
  refine ⟨st1,⟨_,_,_,_,ga1,gs.of_get fun c hc=>k1 c (na c (hR c (.inl hc))),?_,gq.of_get fun c hc=>k1 c (na c (hR c (.inr (.inr (.inl hc))))),gm.of_get fun c hc=>k1 c (na c (hR c (.inr (.inr (.inr hc))))),hR,d1,d2,d3⟩,by have:=h.lt;omega,fun c hc=>by have:=h.rl c hc;omega,h.ra,h.o14,h.qm,h.big.1,by show fr.length<=_;omega,h.big.2.2⟩
  have:=SlAt.row (sz:=1) bf nf _ ((k1 bf (na bf (hR bf (.inr (.inl (by simp [rowsOf])))))).trans gf1) (by omega)
  have e:cf.take (nf*1)=fr.map fun n=>.int .u32 (n:Nat):=by
   have:cf.take (nf*1)=(cf.take (B.free.length*1)).take nf:=by rw [List.take_take];congr 1;omega
   rw [this,gf3,hfr,List.map_append,List.take_left' (by simp [hnf])]
  rw [e] at this
  show SlAt H1 90 1 _ fr.length _
  rw [hnf];exact this
 have hE:Ext (aR R a) H H1:=⟨st1,by omega,fun c hc hx=>k1 c fun e=>hx (.inl e)⟩
 exact put_mid (B:=⟨B.slots,fr,B.quotas,B.many⟩) h1 (by omega) hpa hpR ((k1 p hpa).trans gp) hf1 hf2 hf3 hn ⟨⟨_,_,_,ga1⟩,(k1 b (na b S1.rb)).trans S1.get,S1.le,S1.eq,S1.rb,S1.lt,S1.c0,S1.c1,S1.co,S1.ol⟩ hu hm hm1 (by simp [f0]) (by simp [f3]) (by simp) (by simp) fun H' hA hX=>hQ H' hA (hE.trans hX)
end Go.AM.YtiolgkhfpnidfaaT
set_option maxRecDepth 100000
namespace Go.AM.YtiolgkhfpnidfaaT
open Go Go.AM Go.Proofs
theorem put_code:S19 = .seq (.reg R19_0) (.seq (.seq (.reg R19_1) (.cond (.tmp 12) (.seq (.reg R19_2) (.ret)) (.skip))) (.seq (.seq (.dreg R19_3) (.cond (.tmp 29) (.seq (.reg R19_4) (.ret)) (.skip))) (.seq (.seq (.reg R19_5) (.cond (.tmp 35) (.seq (.dreg R19_6) (.reg R19_7)) (.skip))) Zput))):=rfl
structure Box1 (H:Hp) (O:List V):Prop where
 l:O.length=14
 c:cellsV (.agg O)=O
 t:O.take 14=O
 o:(O.all oneV)=true
theorem obj_box {k mo me:Int} {ow:Int} {fi:V} (hf1:cellsV fi=[fi]) (hf2:oneV fi=true) (H:Hp):Box1 H (objL k ow fi mo me):=by
 refine ⟨rfl,by simp [cellsV],rfl,?_⟩
 rw [List.all_eq_true]
 intro x hx
 simp only [objL,List.mem_cons,List.not_mem_nil,or_false] at hx
 rcases hx with rfl | rfl | rfl | rfl | rfl | rfl | rfl | rfl | rfl | rfl | rfl | rfl | rfl | rfl<;>first | rfl | exact hf2
theorem ar_new {R:Nat->Prop} {H:Hp} {a:Nat} {A:Ar} (h:ArAt R H a A) (o:Ob):ArAt R (H.new o) a A:=h.ext (X:=noX) (Ext.new h.st o) fun _ _ h=>h
theorem put_own {R:Nat->Prop} {H:Hp} {a:Nat} {A:Ar} (h:ArAt R H a A) {k mo me:Int} {ow:Int} {fi:V} (hf1:cellsV fi=[fi]) (hf2:oneV fi=true) (how:¬ (0<=ow/\ow < A.quotas.length)) (hb : -9223372036854775808<=ow/\ow<=9223372036854775807) :
  WF tab 19 [.ptr a 0,objV k ow fi mo me] H fun w H'=>w = .tup [.int .u64 0,.int .i64 17]/\Ext noX H H':=by
 have B:=obj_box (k:=k) (mo:=mo) (me:=me) (ow:=ow) hf1 hf2 H
 have hs:=h.st
 have b1:=B.l;have b2:=B.c;have b3:=B.t;have b4:=B.o
 have b5:(objL k ow fi mo me)[1]? = some (.int .i64 ow):=rfl
 have b6:∀ h:1 < (objL k ow fi mo me).length,(objL k ow fi mo me)[1]'h = .int .i64 ow:=fun _=>rfl
 unfold objV
 generalize objL k ow fi mo me=O at *
 refine wf19 (wp_sound _ ?_)
 rw [put_code]
 simp [hs,b1,b2,b4,b5,b6]
 refine (has_ok (ar_new h _) ow hb).mono ?_
 rintro _ H1 ⟨rfl,rfl⟩
 have:decide (0<=ow/\ow < (A.quotas.length:Int))=false:=by simpa using how
 simp only [this]
 simp [hs]
 exact Ext.new hs _
theorem put_full {R:Nat->Prop} {H:Hp} {a:Nat} {A:Ar} (h:ArAt R H a A) {k mo me:Int} {ow:Nat} {fi:V} (hf1:cellsV fi=[fi]) (hf2:oneV fi=true) {q m:Int} (hq:A.quotas[ow]? = some q) (hm:A.many[ow]? = some m) (hqm:q<=m) :
  WF tab 19 [.ptr a 0,objV k ow fi mo me] H fun w H'=>w = .tup [.int .u64 0,.int .i64 8]/\Ext noX H H':=by
 have B:=obj_box (k:=k) (mo:=mo) (me:=me) (ow:=ow) hf1 hf2 H
 have hs:=h.st
 have b1:=B.l;have b2:=B.c;have b3:=B.t;have b4:=B.o
 have b5:(objL k ow fi mo me)[1]? = some (.int .i64 (ow:Int)):=rfl
 have b6:∀ h:1 < (objL k ow fi mo me).length,(objL k ow fi mo me)[1]'h = .int .i64 (ow:Int):=fun _=>rfl
 unfold objV
 generalize objL k ow fi mo me=O at *
 have hlt:=(List.getElem?_eq_some_iff.1 hq).1
 have hb:=h.big.2.2
 refine wf19 (wp_sound _ ?_)
 rw [put_code]
 simp [hs,b1,b2,b4,b5,b6]
 have h1:=ar_new h (.row 44 14 false O)
 refine (has_ok h1 (ow:Int) (by omega)).mono ?_
 rintro _ H1 ⟨rfl,rfl⟩
 have:decide (0<=(ow:Int)/\(ow:Int) < (A.quotas.length:Int))=true:=by simp;omega
 simp only [this]
 generalize hH1:H.new (.row 44 14 false O)=H1 at *
 have hp1:H1.get H.next=some (.row 44 14 false O):=by rw [<- hH1];exact get_new_self _ _
 have hX:Ext noX H H1:=hH1 ▸ Ext.new hs _
 have s1:=h1.st
 have hml:ow < A.many.length:=by rw [<- h.qm];exact hlt
 obtain ⟨vs,vf,vq,vm,g0,gs,gf,gq,gm,-⟩:=h1.row
 obtain ⟨bq,cq,rfl,gq1,gq2,gq3⟩:=sl_open gq (by omega)
 obtain ⟨bm,cm,rfl,gm1,gm2,gm3⟩:=sl_open gm (by omega)
 have hcm:cm[ow]? = some (.int .i64 m):=by
  have:(cm.take (A.many.length*1))[ow]? = some (.int .i64 m):=by rw [gm3,List.getElem?_map,hm];rfl
  rw [List.getElem?_take,if_pos (by omega)] at this;exact this
 have hcq:cq[ow]? = some (.int .i64 q):=by
  have:(cq.take (A.quotas.length*1))[ow]? = some (.int .i64 q):=by rw [gq3,List.getElem?_map,hq];rfl
  rw [List.getElem?_take,if_pos (by omega)] at this;exact this
 have j1:(ow:Int) < (A.many.length:Int):=by omega
 have j2:(ow:Int) < (A.quotas.length:Int):=by omega
 simp [s1,g0,hp1,b5,b6,gm1,gq1,hcm,hcq,j1,j2,hml,hlt,hqm]
 exact hX
theorem ArAt.more {R R' : Nat->Prop} {H:Hp} {a:Nat} {A:Ar} (h:ArAt R H a A) (hR:∀ b,R b->R' b) (hl:∀ b,R' b->b < H.next) (ha:¬ R' a):ArAt R' H a A:=by
 obtain ⟨h1,⟨vs,vf,vq,vm,h2,h3,h4,h5,h6,h7,h8⟩,h9,h10,h11,h12,h13,h14⟩:=h
 exact ⟨h1,⟨vs,vf,vq,vm,h2,h3,h4,h5,h6,fun b hb=>hR b (h7 b hb),h8⟩,h9,hl,ha,h12,h13,h14⟩
theorem put_ok {R:Nat->Prop} {H:Hp} {a:Nat} {A:Ar} (h:ArAt R H a A) {k mo me:Int} {ow:Nat} {fi:V} (hf1:cellsV fi=[fi]) (hf2:oneV fi=true) (hf3:eqV fi fi=true) {q m:Int} (hq:A.quotas[ow]? = some q) (hm:A.many[ow]? = some m) (hqm:m < q) (hm0:0<=m/\m < 1000000000)
  (hfr:∀ n∈A.free,n < A.slots.length) (hu:A.grow.usesAt A.top < 4294967295) (hl:A.slots.length < 100000) :
  WF tab 19 [.ptr a 0,objV k ow fi mo me] H fun w H'=>w = .tup [.int .u64 (A.ref:Nat),.int .i64 0]/\ArAt (Rn R H H') H' a (A.put (objL k ow fi mo me) ow)/\Ext (aR R a) H H':=by
 have B:=obj_box (k:=k) (mo:=mo) (me:=me) (ow:=ow) hf1 hf2 H
 have hs:=h.st
 have b1:=B.l;have b2:=B.c;have b3:=B.t;have b4:=B.o
 have b5:(objL k ow fi mo me)[1]? = some (.int .i64 (ow:Int)):=rfl
 have b6:∀ h:1 < (objL k ow fi mo me).length,(objL k ow fi mo me)[1]'h = .int .i64 (ow:Int):=fun _=>rfl
 have tail:=@put_tail R
 unfold objV
 have hlt:=(List.getElem?_eq_some_iff.1 hq).1
 have hb:=h.big.2.2
 refine wf19 (wp_sound _ ?_)
 rw [put_code]
 generalize hO:objL k ow fi mo me=O at *
 simp [hs,b1,b2,b4,b5,b6]
 have h1:=ar_new h (.row 44 14 false O)
 refine (has_ok h1 (ow:Int) (by omega)).mono ?_
 rintro _ H1 ⟨rfl,rfl⟩
 have:decide (0<=(ow:Int)/\(ow:Int) < (A.quotas.length:Int))=true:=by simp;omega
 simp only [this]
 have hp1:(H.new (.row 44 14 false O)).get H.next=some (.row 44 14 false O):=get_new_self _ _
 have hn1:(H.new (.row 44 14 false O)).next=H.next+1:=rfl
 have hX:Ext noX H (H.new (.row 44 14 false O)):=Ext.new hs _
 generalize hH1:H.new (.row 44 14 false O)=H1 at *
 have s1:=h1.st
 have hml:ow < A.many.length:=by rw [<- h.qm];exact hlt
 have hrow:=h1.row
 obtain ⟨vs,vf,vq,vm,g0,gs,gf,gq,gm,hR,d1,d2,d3⟩:=hrow
 obtain ⟨bq,cq,rfl,gq1,gq2,gq3⟩:=sl_open gq (by omega)
 obtain ⟨bm,cm,rfl,gm1,gm2,gm3⟩:=sl_open gm (by omega)
 have hcm:cm[ow]? = some (.int .i64 m):=by
  have:(cm.take (A.many.length*1))[ow]? = some (.int .i64 m):=by rw [gm3,List.getElem?_map,hm];rfl
  rw [List.getElem?_take,if_pos (by omega)] at this;exact this
 have hcq:cq[ow]? = some (.int .i64 q):=by
  have:(cq.take (A.quotas.length*1))[ow]? = some (.int .i64 q):=by rw [gq3,List.getElem?_map,hq];rfl
  rw [List.getElem?_take,if_pos (by omega)] at this;exact this
 have j1:(ow:Int) < (A.many.length:Int):=by omega
 have j2:(ow:Int) < (A.quotas.length:Int):=by omega
 have j3:¬ q<=m:=by omega
 have f1:=gf.cells;have f2:=gf.one;have fl:=gf.lenV 90;have sl:=gs.lenV 100
 have v1:=gs.cells;have v2:=gs.one
 have hRp:∀ b,R b->b < H.next:=h.rl
 have hpa:H.next≠a:=by have:=h.lt;omega
 have hpR:¬ R H.next:=fun hr=>by have:=hRp _ hr;omega
 by_cases hfe:A.free=[]
 ·have hf0:A.free.length=0:=by rw [hfe];rfl
  simp [s1,g0,hp1,b5,b6,gm1,gq1,hcm,hcq,j1,j2,j3,hml,hlt,hqm,f1,f2,fl,hf0,v1,v2,sl]
  have w32:wr .u32 (A.slots.length:Int)=(A.slots.length:Int):=by rw [wr_u32 (by omega) (by omega)]
  rw [w32]
  have hlta:=h1.lt
  rw [hf0] at gf
  have rl:=fun b hb=>h1.rl b (hR b hb)
  have af:a∉rowsOf vf:=fun hm=>h1.ra (hR a (.inr (.inl hm)))
  have asl:a∉rowsOf vs:=fun hm=>h1.ra (hR a (.inl hm))
  have pf:H.next∉rowsOf vf:=fun hm=>hpR (hR _ (.inr (.inl hm)))
  have ps:H.next∉rowsOf vs:=fun hm=>hpR (hR _ (.inl hm))
  refine wpD_app1 (H:=H1) (e0:=90) (cells:=[.int .u32 (A.slots.length:Nat)]) (by simp [descOf]) ty90 (by decide) (by simp) (by simp) gf (fun c hc=>⟨rl c (.inr (.inl hc)),by simp [s1]⟩) rfl (by show (0+1)*4<=_;omega) (by omega) (by simp [s1]) fun vf' H2 hS2 hA2=>?_
  have le2:H1.next<=H2.next:=hA2.le
  obtain ⟨ka1,ka2⟩:=hA2.keep a hlta af (by simp [s1])
  have ka1:=ka1.trans g0
  have c1:=hS2.cells;have o1:=hS2.one
  simp [ka1,ka2,c1,o1,v1,v2]
  generalize hH3:(H2.bump.flush.put a (.row 98 4 false [vs,vf',.sl bq 0 A.quotas.length none 1,.sl bm 0 A.many.length none 1])).bump=H3
  have st3:H3.stale=[]:=by rw [<- hH3];simp
  have n3:H3.next=H2.next+1+1:=by rw [<- hH3];simp
  have ga3:H3.get a=some (.row 98 4 false [vs,vf',.sl bq 0 A.quotas.length none 1,.sl bm 0 A.many.length none 1]):=by rw [<- hH3];simp
  have g3:∀ c,c≠a->c∉H2.stale->H3.get c=H2.get c:=fun c hc hst=>by
   rw [<- hH3]
   simp [Hp.get_put,two_ne hc,Hp.get_flush,hst]
  have keep3:∀ c,c < H1.next->c≠a->c∉rowsOf vf->H3.get c=H1.get c:=fun c hc ha hf=>by
   obtain ⟨k1,k2⟩:=hA2.keep c hc hf (by simp [s1])
   rw [g3 c ha k2,k1]
  have na:∀ c,R c->c≠a:=fun c hc e=>h1.ra (e ▸ hc)
  have gs3:SlAt H3 100 16 vs A.slots.length (A.slots.flatMap Sl.cs):=gs.of_get fun c hc=>keep3 c (rl c (.inl hc)) (na c (hR c (.inl hc))) (d1 c hc).1
  refine wpL_app1 (H:=H3) (e0:=100) (cells:=[.int .u32 0,.bool false,.int .u8 0,.int .i64 0,.bool false,.nilm,.int .i64 0,.int .i64 0,.nils,.int .u64 0,.int .u8 0,.int .i64 0,.str [],.int .i64 0,.int .u64 0,.int .i64 0]) (by simp [descOf]) ty100 (by decide) (by simp) (by simp [n3]) gs3 (fun c hc=>⟨by have:=rl c (.inl hc);omega,by simp [st3]⟩) rfl (by show (A.slots.length+1)*144<=_;omega) (by omega) (by simp [st3]) fun vs' H4 hS4 hA4=>?_
  have le4:H3.next<=H4.next:=hA4.le
  obtain ⟨kb1,kb2⟩:=hA4.keep a (by omega) asl (by simp [st3])
  have kb1:=kb1.trans ga3
  have c2:=hS4.cells;have o2:=hS4.one
  simp [kb1,kb2,c1,o1,c2,o2]
  generalize hH5:H4.flush.put a (.row 98 4 false [vs',vf',.sl bq 0 A.quotas.length none 1,.sl bm 0 A.many.length none 1])=H5
  have st5:H5.stale=[]:=by rw [<- hH5];simp
  have n5:H5.next=H4.next:=by rw [<- hH5];simp
  have ga5:H5.get a=some (.row 98 4 false [vs',vf',.sl bq 0 A.quotas.length none 1,.sl bm 0 A.many.length none 1]):=by rw [<- hH5];simp
  have g5:∀ c,c≠a->c∉H4.stale->H5.get c=H4.get c:=fun c hc hst=>by
   rw [<- hH5]
   simp [Hp.get_put,two_ne hc,Hp.get_flush,hst]
  have keep5:∀ c,c < H1.next->c≠a->c∉rowsOf vf->c∉rowsOf vs->H5.get c=H1.get c:=fun c hc ha hf hv=>by
   obtain ⟨k1,k2⟩:=hA4.keep c (by omega) hv (by simp [st3])
   rw [g5 c ha k2,k1,keep3 c hc ha hf]
  have nf:∀ c∈rowsOf vf',(c∈rowsOf vf\/H1.next<=c)/\c < H2.next/\H5.get c=H2.get c:=fun c hc=>by
   obtain ⟨k1,k2,k3⟩:=hA2.new c hc
   have hca:c≠a:=fun e=>by
    rcases k3 with k3 | k3
    ·exact af (e ▸ k3)
    ·omega
   have hcs:c∉rowsOf vs:=fun hm=>by
    rcases k3 with k3 | k3
    ·exact (d1 c hm).1 k3
    ·have:=rl c (.inl hm);omega
   obtain ⟨k4,k5⟩:=hA4.keep c (by omega) hcs (by simp [st3])
   exact ⟨k3,k2,by rw [g5 c hca k5,k4,g3 c hca k1]⟩
  have ns:∀ c∈rowsOf vs',(c∈rowsOf vs\/H3.next<=c)/\c < H4.next/\H5.get c=H4.get c:=fun c hc=>by
   obtain ⟨k1,k2,k3⟩:=hA4.new c hc
   have hca:c≠a:=fun e=>by
    rcases k3 with k3 | k3
    ·exact asl (e ▸ k3)
    ·omega
   exact ⟨k3,k2,g5 c hca k1⟩
  obtain ⟨r1,r2,r3,r4⟩:=rows_new (vs':=vs') (vf':=vf') (vq':=.sl bq 0 A.quotas.length none 1) (vm':=.sl bm 0 A.many.length none 1) (m:=H1.next) (m':=H5.next) (Ns:=fun c=>H3.next<=c/\c < H4.next) (Nf:=fun c=>H1.next<=c/\c < H2.next) (Nq:=fun _=>False) (Nm:=fun _=>False) hR d1 d2 d3 h1.rl
   (fun c hc=>(ns c hc).1.imp id fun h=>⟨h,(ns c hc).2.1⟩) (fun c hc=>(nf c hc).1.imp id fun h=>⟨h,(nf c hc).2.1⟩) (fun c hc=>.inl hc) (fun c hc=>.inl hc) (fun c hc=>by rcases hc with hc | hc | hc | hc<;>first | exact hc.elim | omega) (fun c hc=>⟨fun h=>by omega,fun h=>h,fun h=>h⟩) (fun c hc=>⟨fun h=>h,fun h=>h⟩) (fun c hc=>hc.elim)
  have h5:ArAt (fun c=>R c\/H1.next<=c/\c < H5.next) H5 a A.grow:=by
   rw [grow_nil hfe]
   refine ⟨st5,⟨_,_,_,_,ga5,?_,?_,?_,?_,r1,r2,r3,r4⟩,by omega,fun c hc=>?_,fun hc=>?_,?_,h.qm,?_⟩
   ·have:=hS4.of_get (H':=H5) fun c hc=>(ns c hc).2.2
    simpa [List.flatMap_append,Sl.cs,zO] using this
   ·have:=hS2.of_get (H':=H5) fun c hc=>(nf c hc).2.2
    simpa [hfe] using this
   ·exact gq.of_get fun c hc=>keep5 c (rl c (.inr (.inr (.inl hc)))) (na c (hR c (.inr (.inr (.inl hc))))) (fun hf=>(d2 c hf).1 hc) (fun hv=>(d1 c hv).2.1 hc)
   ·exact gm.of_get fun c hc=>keep5 c (rl c (.inr (.inr (.inr hc)))) (na c (hR c (.inr (.inr (.inr hc))))) (fun hf=>(d2 c hf).2 hc) (fun hv=>(d1 c hv).2.2 hc)
   ·rcases hc with hc | hc
    ·have:=h1.rl c hc;omega
    ·exact hc.2
   ·rcases hc with hc | hc
    ·exact h.ra hc
    ·omega
   ·intro s hs'
    rcases List.mem_append.1 hs' with hs' | hs'
    ·exact h.o14 s hs'
    ·simp at hs';subst hs';rfl
   ·have:=h.big;simp;omega
  have hp5:H5.get H.next=some (.row 44 14 false O):=by rw [keep5 _ (by omega) hpa pf ps];exact hp1
  have hX5:Ext (aR R a) H H5:=⟨st5,by omega,fun c hc hx=>by
   have hcR:¬ R c:=fun hr=>hx (.inr hr)
   rw [keep5 c (by omega) (fun e=>hx (.inl e)) (fun hf=>hcR (hR c (.inr (.inl hf)))) (fun hv=>hcR (hR c (.inl hv)))]
   exact hX.get c hc fun h=>h⟩
  have hfd:A.grow.free=[]++[A.slots.length]:=by rw [grow_nil hfe];rfl
  have hn:A.grow.slots[A.slots.length]? = some ⟨0,false,zO⟩:=by rw [grow_nil hfe];simp
  have hmg:A.grow.many[ow]? = some m:=by rw [grow_nil hfe];exact hm
  subst hO
  refine put_tail h5 (by omega) hpa (fun hc=>hc.elim hpR fun h=>by omega) hp5 hf1 hf2 hf3 hfd hn (by show 0 < _;omega) hmg hm0 (by simp) (by simp) fun H' hA hE=>⟨?_,?_,hE.st,by have:=hE.le;omega,fun c hc hx=>by
   rw [hE.get c (by omega) (fun h5=>h5.elim (fun e=>hx (.inl e)) fun h=>h.elim (fun h=>hx (.inr h)) fun h=>by omega)]
   exact hX5.get c hc hx⟩
  ·have e:A.ref=(0+1)*4294967296+A.slots.length:=by rw [ref_nil hfe]
   rw [e]
  ·have le5:=hE.le
   have e:(⟨A.grow.slots.set A.slots.length ⟨0+1,true,objL k ow fi mo me⟩,[],A.grow.quotas,A.grow.many.set ow (m+1)⟩:Ar)=A.put (objL k ow fi mo me) ow:=by
    rw [put_nil hfe,grow_nil hfe,hm];simp
   rw [e] at hA
   refine hA.more (fun b hb=>hb.imp id fun h=>⟨by omega,by omega⟩) (fun b hb=>?_) fun hc=>?_
   ·rcases hb with hb | hb
    ·have:=h.rl b hb;omega
    ·exact hb.2
   ·rcases hc with hc | hc
    ·exact h.ra hc
    ·omega
 ·have hf0:¬ ((A.free.length:Int)=0):=by have:=List.length_pos_iff.2 hfe;omega
  have hf0' : ¬ (A.free.length=0):=by have:=List.length_pos_iff.2 hfe;omega
  have hfd:A.free=A.free.dropLast++[A.top]:=by
   have ht:A.top=A.free.getLast hfe:=by unfold Ar.top;rw [grow_ne hfe,List.getLastD_eq_getLast?,List.getLast?_eq_some_getLast hfe];rfl
   rw [ht,List.dropLast_concat_getLast hfe]
  have hmem:A.top∈A.free:=by rw [hfd];simp
  have hn:=List.getElem?_eq_getElem (hfr _ hmem)
  generalize A.slots[A.top]'(hfr _ hmem)=s at hn
  have hus:A.grow.usesAt A.top=s.uses:=by rw [grow_ne hfe];simp [Ar.usesAt,hn]
  have hf2' : ((A.free.length:Int)==0)=false:=by simpa using hf0
  simp [s1,g0,hp1,b5,b6,gm1,gq1,hcm,hcq,j1,j2,j3,hml,hlt,hqm,f1,f2,fl,hf0,hf0',hfe,hf2']
  subst hO
  have hsl:A.grow.slots=A.slots:=by rw [grow_ne hfe]
  refine tail h1 (by omega) hpa hpR hp1 hf1 hf2 hf3 hfd hn (by omega) hm hm0 (by simp) (by simp) fun H' hA hE=>⟨?_,?_,(hX.mono fun _ _ h=>h.elim).trans hE⟩
  ·unfold Ar.ref;rw [hus]
  ·have he:A.put (objL k ow fi mo me) ow=⟨A.slots.set A.top ⟨s.uses+1,true,objL k ow fi mo me⟩,A.free.dropLast,A.quotas,A.many.set ow (m+1)⟩:=by
    unfold Ar.put;rw [hus,grow_ne hfe,hm];rfl
   rw [he]
   refine hA.more (fun b hb=>.inl hb) (fun b hb=>?_) fun hc=>?_
   ·rcases hb with hb | hb
    ·exact hA.rl b hb
    ·exact hb.2
   ·rcases hc with hc | hc
    ·exact h.ra hc
    ·have:=h.lt;omega
end Go.AM.YtiolgkhfpnidfaaT
set_option maxRecDepth 100000
namespace Go.AM.YtiolgkhfpnidfaaT
open Go Go.AM Go.Proofs
structure ApInv (i:Nat) (A:Ar) (live:List Nat) (seen:List Nat):Prop where
 qs:A.quotas=[8]
 ms:A.many=[(live.length:Int)]
 l8:live.length<=8
 nd:live.Nodup
 lv:∀ r∈live,∃ s,∃ m:Nat,A.slots[slotN r]? = some s/\s.used=true/\s.uses=usesN r/\s.o[1]? = some (.int .i64 (0:Nat))/\s.o[4]? = some (.int .i64 m)/\s.o[5]? = some (.int .i64 (m+1:Nat))/\m < i
 fr:∀ n∈A.free,∃ s,A.slots[n]? = some s/\s.used=false
 fn:A.free.Nodup
 us:∀ (n:Nat) s,A.slots[n]? = some s->s.uses<=i
 sl:A.slots.length<=i
 fl:A.free.length<=i
 sn:∀ r∈seen,∃ s,A.slots[slotN r]? = some s/\usesN r<=s.uses
theorem ApInv.start:ApInv 0 ⟨[],[],[8],[0]⟩ [] []:=⟨rfl,rfl,by simp,by simp,by simp,by simp,by simp,by simp,by simp,by simp,by simp⟩
variable {i:Nat} {A:Ar} {live seen:List Nat} {o:List V}
theorem ApInv.next (h:ApInv i A live seen):ApInv (i+1) A live seen :=
 ⟨h.qs,h.ms,h.l8,h.nd,fun r hr=>by obtain ⟨s,m,h1,h2,h3,h4,h5,h6,h7⟩:=h.lv r hr;exact ⟨s,m,h1,h2,h3,h4,h5,h6,by omega⟩,h.fr,h.fn,fun n s hs=>by have:=h.us n s hs;omega,by have:=h.sl;omega,by have:=h.fl;omega,h.sn⟩
theorem ApInv.inj (h:ApInv i A live seen) {r r' : Nat} (hr:r∈live) (hr' : r'∈live) (he:slotN r=slotN r'):r=r':=by
 obtain ⟨s,m,h1,h2,h3,-⟩:=h.lv r hr
 obtain ⟨s',m',h1',h2',h3',-⟩:=h.lv r' hr'
 rw [he] at h1
 rw [h1] at h1'
 obtain rfl:s=s':=by simpa using h1'
 rw [ref_eq r,ref_eq r',he,<- h3,<- h3']
theorem ApInv.liveA (h:ApInv i A live seen) {r:Nat} (hr:r∈live):liveA A r=true:=by
 obtain ⟨s,m,h1,h2,h3,-⟩:=h.lv r hr
 unfold Go.AM.YtiolgkhfpnidfaaT.liveA
 rw [h1];simp [h2,h3]
theorem ApInv.lt (h:ApInv i A live seen) (hi:i < 4294967296) {r:Nat} (hr:r∈live):r < 18446744073709551616:=by
 obtain ⟨s,m,h1,h2,h3,-⟩:=h.lv r hr
 have h4:=h.us _ _ h1
 have h5:slotN r < 4294967296:=slotN_lt r
 have:=ref_eq r
 omega
theorem ApInv.drop (h : ApInv i A live seen) {r : Nat} (hr : r ∈ live) : ApInv (i + 1) (A.drop (slotN r) 0) (live.erase r) seen := by
  obtain ⟨s, m, h1, h2, h3, -⟩ := h.lv r hr
  have hn := (List.getElem?_eq_some_iff.1 h1).1
  have hlen : (live.erase r).length + 1 = live.length := by rw [List.length_erase_of_mem hr]; have := List.length_pos_of_mem hr; omega
  have hnf : slotN r ∉ A.free := fun hc => by obtain ⟨s', g1, g2⟩ := h.fr _ hc; rw [h1] at g1; obtain rfl : s = s' := by simpa using g1
                                              rw [h2] at g2; cases g2
  refine ⟨h.qs, ?_, by have := h.l8; omega, h.nd.erase _, ?_, ?_, ?_, ?_, by have := h.sl; simp [Ar.drop]; omega, by have := h.fl; simp [Ar.drop]; omega, ?_⟩
  · show A.many.set 0 _ = _
    rw [h.ms]; simp; omega
  · intro r' hr'
    have hm := List.mem_of_mem_erase hr'
    have hne : r' ≠ r := fun e => by subst e; exact (List.Nodup.not_mem_erase h.nd) hr'
    have hsl : slotN r ≠ slotN r' := fun e => hne (h.inj hm hr e.symm)
    obtain ⟨s', m', g1, g2, g3, g4, g5, g6, g7⟩ := h.lv r' hm
    exact ⟨s', m', by simp only [Ar.drop]; rw [List.getElem?_set_ne hsl]; exact g1, g2, g3, g4, g5, g6, by omega⟩
  · intro n hn'
    rcases List.mem_append.1 hn' with hn' | hn'
    · obtain ⟨s', g1, g2⟩ := h.fr n hn'
      exact ⟨s', by simp only [Ar.drop]; rw [List.getElem?_set_ne (fun e => hnf (by rw [e]; exact hn'))]; exact g1, g2⟩
    · simp at hn'; subst hn'
      exact ⟨_, by simp only [Ar.drop]; rw [List.getElem?_set_self hn], rfl⟩
  · show (A.free ++ [slotN r]).Nodup
    rw [List.nodup_append]
    exact ⟨h.fn, by simp, fun a ha b hb => by simp at hb; subst hb; exact fun e => hnf (e ▸ ha)⟩
  · intro n s' hs'
    simp only [Ar.drop] at hs'
    by_cases hc : slotN r = n
    · subst hc
      rw [List.getElem?_set_self hn, h1] at hs'
      simp at hs'; subst hs'
      have := h.us _ _ h1
      show s.uses ≤ _; omega
    · rw [List.getElem?_set_ne hc] at hs'
      have := h.us _ _ hs'; omega
  · intro r' hr'
    obtain ⟨s', g1, g2⟩ := h.sn r' hr'
    by_cases hc : slotN r = slotN r'
    · rw [← hc, h1] at g1
      obtain rfl : s = s' := by simpa using g1
      exact ⟨_, by simp only [Ar.drop]; rw [← hc, List.getElem?_set_self hn], by simp [h1]; exact g2⟩
    · exact ⟨s', by simp only [Ar.drop]; rw [List.getElem?_set_ne hc]; exact g1, g2⟩
theorem ApInv.top (h:ApInv i A live seen):∃ s,A.grow.slots[A.top]? = some s/\s.used=false/\s.uses<=i/\A.grow.usesAt A.top=s.uses/\(A.slots[A.top]? = some s\/A.top=A.slots.length)/\A.top∉A.grow.free.dropLast/\A.top<=i/\A.grow.slots.length<=i+1/\(∀ (n:Nat) s',A.slots[n]? = some s'->A.grow.slots[n]? = some s')/\(∀ n∈A.grow.free.dropLast,n∈A.free):=by
 by_cases hf:A.free=[]
 ·rw [top_nil hf,grow_nil hf]
  refine ⟨⟨0,false,zO⟩,by simp,rfl,by simp,by simp [Ar.usesAt],.inr rfl,by simp,h.sl,by have:=h.sl;simp;omega,fun n s' hs'=>?_,by simp⟩
  show (A.slots++_)[n]? = _
  rw [List.getElem?_append_left (List.getElem?_eq_some_iff.1 hs').1];exact hs'
 ·have ht:A.top=A.free.getLast hf:=by unfold Ar.top;rw [grow_ne hf,List.getLastD_eq_getLast?,List.getLast?_eq_some_getLast hf];rfl
  have hm:A.top∈A.free:=by rw [ht];exact List.getLast_mem hf
  obtain ⟨s,g1,g2⟩:=h.fr _ hm
  have hlt:=(List.getElem?_eq_some_iff.1 g1).1
  rw [grow_ne hf]
  refine ⟨s,g1,g2,h.us _ _ g1,by simp [Ar.usesAt,g1],.inl g1,fun hc=>?_,by have:=h.sl;omega,by have:=h.sl;omega,fun n s' hs'=>hs',fun n hn=>(List.dropLast_sublist _).subset hn⟩
  have hd:=h.fn
  rw [<- List.dropLast_concat_getLast hf,List.nodup_append] at hd
  exact hd.2.2 _ hc _ (by rw [ht];simp) rfl
theorem ApInv.ref_slot (h:ApInv i A live seen) (hi:i < 4294967296):slotN A.ref=A.top/\usesN A.ref=A.grow.usesAt A.top+1:=by
 obtain ⟨s,h1,h2,h3,h4,h5,h6,h7,-⟩:=h.top
 exact slot_of _ _ (by omega)
theorem ApInv.fresh (h:ApInv i A live seen) (hi:i < 4294967296):A.ref∉seen/\A.ref∉live:=by
 obtain ⟨s,h1,h2,h3,h4,h5,h6,h7,-⟩:=h.top
 obtain ⟨e1,e2⟩:=h.ref_slot hi
 constructor
 ·intro hc
  obtain ⟨s',g1,g2⟩:=h.sn _ hc
  rw [e1] at g1;rw [e2] at g2
  rcases h5 with h5 | h5
  ·rw [h5] at g1
   obtain rfl:s=s':=by simpa using g1
   omega
  ·have:=(List.getElem?_eq_some_iff.1 g1).1;omega
 ·intro hc
  obtain ⟨s',m,g1,g2,-⟩:=h.lv _ hc
  rw [e1] at g1
  rcases h5 with h5 | h5
  ·rw [h5] at g1
   obtain rfl:s=s':=by simpa using g1
   rw [h2] at g2;cases g2
  ·have:=(List.getElem?_eq_some_iff.1 g1).1;omega
theorem ApInv.put (h:ApInv i A live seen) (hi:i < 4294967296) (hl:live.length < 8) (ho1:o[1]? = some (.int .i64 (0:Nat))) (ho4:o[4]? = some (.int .i64 (i:Nat))) (ho5:5 < o.length) :
  ApInv (i+1) { A.put o 0 with slots:=(A.put o 0).slots.set A.top ⟨A.grow.usesAt A.top+1,true,o.set 5 (.int .i64 (i+1:Nat))⟩ } (live++[A.ref]) (seen++[A.ref]):=by
 obtain ⟨s,h1,h2,h3,h4,h5,h6,h7,h8,h9,h10⟩:=h.top
 obtain ⟨e1,e2⟩:=h.ref_slot hi
 obtain ⟨f1,f2⟩:=h.fresh hi
 have ht:=(List.getElem?_eq_some_iff.1 h1).1
 have hg:∀ n,A.top≠n->((A.grow.slots.set A.top ⟨A.grow.usesAt A.top+1,true,o⟩).set A.top ⟨A.grow.usesAt A.top+1,true,o.set 5 (.int .i64 (i+1:Nat))⟩)[n]? = A.grow.slots[n]?:=fun n hn=>by rw [List.getElem?_set_ne hn,List.getElem?_set_ne hn]
 have hs:((A.grow.slots.set A.top ⟨A.grow.usesAt A.top+1,true,o⟩).set A.top ⟨A.grow.usesAt A.top+1,true,o.set 5 (.int .i64 (i+1:Nat))⟩)[A.top]? = some ⟨A.grow.usesAt A.top+1,true,o.set 5 (.int .i64 (i+1:Nat))⟩:=by rw [List.getElem?_set_self (by simpa using ht)]
 have hnt:∀ r∈live,A.top≠slotN r:=fun r hr e=>by
  obtain ⟨s',m,g1,g2,-⟩:=h.lv _ hr
  have:=h9 _ _ g1
  rw [<- e,h1] at this
  obtain rfl:s=s':=by simpa using this
  rw [h2] at g2;cases g2
 refine ⟨h.qs,?_,by simp;omega,?_,?_,?_,?_,?_,?_,?_,?_⟩
 ·show A.many.set 0 _=_
  rw [h.ms];simp
 ·rw [List.nodup_append]
  exact ⟨h.nd,by simp,fun a ha b hb=>by simp at hb;subst hb;exact fun e=>f2 (e ▸ ha)⟩
 ·intro r hr
  rcases List.mem_append.1 hr with hr | hr
  ·obtain ⟨s',m,g1,g2,g3,g4,g5,g6,g7⟩:=h.lv _ hr
   exact ⟨s',m,(hg _ (hnt r hr)).trans (h9 _ _ g1),g2,g3,g4,g5,g6,by omega⟩
  ·simp at hr;subst hr
   rw [e1,e2]
   exact ⟨_,i,hs,rfl,rfl,by rw [List.getElem?_set_ne (by omega)];exact ho1,by rw [List.getElem?_set_ne (by omega)];exact ho4,by rw [List.getElem?_set_self ho5],by omega⟩
 ·intro n hn
  obtain ⟨s',g1,g2⟩:=h.fr n (h10 n hn)
  exact ⟨s',(hg n fun e=>h6 (e ▸ hn)).trans (h9 _ _ g1),g2⟩
 ·show A.grow.free.dropLast.Nodup
  by_cases hf:A.free=[]
  ·rw [grow_nil hf];simp
  ·rw [grow_ne hf];exact h.fn.sublist (List.dropLast_sublist _)
 ·intro n s' hs'
  have hs' : ((A.grow.slots.set A.top _).set A.top _)[n]? = some s':=hs'
  by_cases hc:A.top=n
  ·subst hc
   rw [hs] at hs'
   simp at hs';subst hs'
   show A.grow.usesAt A.top+1<=_;omega
  ·rw [hg n hc] at hs'
   by_cases hf:A.free=[]
   ·rw [grow_nil hf] at hs'
    have hs' : (A.slots++[_])[n]? = some s':=hs'
    rw [top_nil hf] at hc
    have hb:=(List.getElem?_eq_some_iff.1 hs').1
    rw [List.getElem?_append_left (by simp at hb;omega)] at hs'
    have:=h.us _ _ hs';omega
   ·rw [grow_ne hf] at hs'
    have:=h.us _ _ hs';omega
 ·show ((A.grow.slots.set _ _).set _ _).length<=_
  simpa using h8
 ·show A.grow.free.dropLast.length<=_
  by_cases hf:A.free=[]
  ·rw [grow_nil hf];simp
  ·rw [grow_ne hf];have:=h.fl;simp;omega
 ·intro r hr
  have key:∀ n s',A.slots[n]? = some s'->A.top≠n->((A.grow.slots.set A.top ⟨A.grow.usesAt A.top+1,true,o⟩).set A.top ⟨A.grow.usesAt A.top+1,true,o.set 5 (.int .i64 (i+1:Nat))⟩)[n]? = some s':=fun n s' g hn=>(hg n hn).trans (h9 _ _ g)
  rcases List.mem_append.1 hr with hr | hr
  ·obtain ⟨s',g1,g2⟩:=h.sn _ hr
   by_cases hc:A.top=slotN r
   ·rw [<- hc]
    refine ⟨_,hs,?_⟩
    rw [<- hc] at g1
    have:=h9 _ _ g1
    rw [h1] at this
    obtain rfl:s=s':=by simpa using this
    show usesN r<=A.grow.usesAt A.top+1;omega
   ·exact ⟨s',key _ _ g1 hc,g2⟩
  ·simp at hr;subst hr
   rw [e1,e2]
   exact ⟨_,hs,Nat.le_refl _⟩
end Go.AM.YtiolgkhfpnidfaaT
set_option maxRecDepth 100000
namespace Go.AM.YtiolgkhfpnidfaaT
open Go Go.AM Go.Proofs
theorem fr0 {A:Ar} (e:A.free=[]):∀ n∈A.free,n < A.slots.length:=fun n hn=>by rw [e] at hn;cases hn
end Go.AM.YtiolgkhfpnidfaaT
namespace Go.AM.YtiolgkhfpnidfaaT
open Go Go.AM Go.Proofs
set_option maxRecDepth 100000
end Go.AM.YtiolgkhfpnidfaaT
namespace Go.AM.YtiolgkhfpnidfaaT
open Go Go.AM
end Go.AM.YtiolgkhfpnidfaaT
set_option maxRecDepth 100000
namespace Go.AM.YtiolgkhfpnidfaaT
open Go Go.AM Go.Proofs
theorem findE_app (k:V) (e:V×V×Nat):∀ (es:List (V×V×Nat)) (n:Nat) {r:Option (Nat×V)},findE k es n=some r->findE k (es++[e]) n=match r with | some p=>some (some p) | none=>(match sameK k e.1 with | some true=>some (some (n+es.length,e.2.1)) | some false=>some none | none=>none)
 | [],n,r,h=>by
  simp only [findE] at h;cases h
  simp only [List.nil_append,findE]
  cases sameK k e.1 with
  | none=>rfl
  | some b=>cases b<;>rfl
 | x :: es,n,r,h=>by
  simp only [findE] at h
  simp only [List.cons_append,findE]
  cases hs:sameK k x.1 with
  | none=>rw [hs] at h;cases h
  | some b =>
   rw [hs] at h
   cases b with
   | true=>cases h;rfl
   | false =>
    have h:findE k es (n+1)=some r:=h
    have:=findE_app k e es (n+1) h
    dsimp only
    rw [this]
    cases r with
    | some p=>rfl
    | none=>simp only [List.length_cons,show n+1+es.length=n+(es.length+1) from by omega]
def SetOk (es:List (V×V×Nat)) (l:List Int):Prop:=∀ x:Int,if x∈l then ∃ j,findE (.int .u64 x) es 0=some (some (j,.agg [])) else findE (.int .u64 x) es 0=some none
theorem SetOk.nil:SetOk [] []:=fun x=>by simp [findE]
theorem SetOk.add {es:List (V×V×Nat)} {l:List Int} (h:SetOk es l) (n:Int) (c:Nat) (hn:n∉l):SetOk (es++[(.int .u64 n,.agg [],c)]) (l++[n]):=by
 intro x
 have hx:=h x
 by_cases hl:x∈l
 ·rw [if_pos hl] at hx
  obtain ⟨j,hj⟩:=hx
  rw [if_pos (by simp [hl])]
  exact ⟨j,by rw [findE_app _ _ _ _ hj]⟩
 ·rw [if_neg hl] at hx
  have:=findE_app (.int .u64 x) (.int .u64 n,.agg [],c) es 0 hx
  by_cases he:x=n
  ·subst he
   rw [if_pos (by simp)]
   refine ⟨0+es.length,?_⟩
   rw [this]
   simp [sameK,same1]
  ·rw [if_neg (by simp [hl,he]),this]
   have:(x==n)=false:=by simp [he]
   simp [sameK,same1,this]
theorem SetOk.old {es:List (V×V×Nat)} {l:List Int} (h:SetOk es l) (n:Int) (hn:n∈l):SetOk es (l++[n]):=by
 intro x
 have hx:=h x
 by_cases hl:x∈l
 ·rw [if_pos hl] at hx;rw [if_pos (by simp [hl])];exact hx
 ·rw [if_neg hl] at hx
  rw [if_neg (by rintro hm;simp at hm;rcases hm with h | h;exact hl h;subst h;exact hl hn)]
  exact hx
end Go.AM.YtiolgkhfpnidfaaT
set_option maxRecDepth 100000
namespace Go.AM.YtiolgkhfpnidfaaT
open Go Go.AM Go.Proofs
theorem wf_ext {T:Tab} {f:FuncId} {xs:List V} {H H' : Hp} {v:V} {e:List V->Hp->Option (V×Hp)} {fn:Func} {c:Code} {Q:V->Hp->Prop} (h0:T.ext f=some e) (h1:T.fn f=some fn) (h2:fn.body=some c) (h:e xs H=some (v,H')) (hq:Q v H'):WF T f xs H Q :=
 ⟨1,v,H',by simp only [evCall,h1,h2,h0,h],hq⟩
theorem wf_told {f:FuncId} {xs:List V} {H H' : Hp} {v:V} {e:List V->Hp->Option (V×Hp)} {fn:Func} {Q:V->Hp->Prop} (h0:tab.ext f=some e) (h1:tab.fn f=some fn) (h2:fn.body.isSome=true) (h:e xs H=some (v,H')) (hq:Q v H'):WF tab f xs H Q:=by
 obtain ⟨c,hc⟩:=Option.isSome_iff_exists.1 h2
 exact wf_ext h0 h1 hc h hq
theorem erase_at:∀ (l:List Nat) (i:Nat) (h:i < l.length),l.Nodup->l.erase l[i]=l.eraseIdx i
 | x :: r,0,h,hn=>by simp
 | x :: r,i+1,h,hn=>by
  rw [List.nodup_cons] at hn
  have hr:i < r.length:=by simpa using h
  have:¬ (x=r[i]):=fun e=>hn.1 (by rw [e];exact List.getElem_mem _)
  simp only [List.getElem_cons_succ,List.eraseIdx_cons_succ]
  rw [List.erase_cons_tail (by simpa using this),erase_at r i (by simpa using h) hn.2]
def tells0:Option (V×Hp)->Option (Bool×Bool×List Nat×Option Ob)
 | some (.bool b,H)=>some (b,Nat.blt 0 H.next,H.stale,H.get 0)
 | _=>none
theorem tells0_wf {f:FuncId} {H:Hp} {k:Nat} {b:Bool} {o0:Option Ob} (h:tells0 (evCall tab k f [] H)=some (b,true,[],o0)):WF tab f [] H fun v H'=>v = .bool b/\0 < H'.next/\H'.stale=[]/\H'.get 0=o0:=by
 unfold tells0 at h
 split at h
 ·rename_i b' H' he
  simp only [Option.some.injEq,Prod.mk.injEq] at h
  obtain ⟨rfl,h2,h3,h4⟩:=h
  exact ⟨k,_,H',he,rfl,by simpa [Nat.blt_eq] using h2,h3,h4⟩
 ·cases h
theorem awake3_2:∃ o,tells0 (evCall tab 40 16 [] (hR []))=some (true,true,[],o):=⟨(match tells0 (evCall tab 40 16 [] (hR [])) with | some (_,_,_,o)=>o | none=>none),by kernel_rfl⟩
structure LIn (H:Hp) (v:V) (l:List Nat):Prop where
 len:∀ e,lenV v (some (.slice e))=some (.int .i64 l.length)
 row:l≠[]->v = .sl 0 0 l.length none 1/\∃ cs,H.get 0=some (.row 5 1 true cs)/\∀ (i:Nat) x,l[i]? = some x->cs[i]? = some (.int .u8 (x:Nat))
structure IA (n0 mb i:Nat) (v:V) (l:List Nat) (R:Nat->Prop) (A:Ar) (live seen:List Nat) (w:V) (F:Fr) (H:Hp):Prop where
 ar:ArAt R H n0 A
 inv:ApInv i A live seen
 sl:SlAt H 29 1 w live.length (live.map fun r=>.int .u64 (r:Nat))
 wr:∀ b∈rowsOf w,¬ R b/\n0 < b/\b≠mb/\b < H.next
 rg:∀ b,R b->n0 < b/\b≠mb
 mg:∃ es c,H.get mb=some (.map false es c)/\SetOk es (seen.map fun (r:Nat)=>(r:Int))
 ml:n0 < mb/\mb < H.next
 li:LIn H v l
 lz:l≠[]->0 < n0
 f3:F.get 3=some (.ptr n0 0)
 f4:F.get 4=some (.mp mb)
 f5:F.get 5=some w
 f24:F.get 24=some v
 f25:F.get 25=some (.int .i64 l.length)
 f26:F.get 26=some (.int .i64 i)
variable {n0 mb i m:Nat} {v w:V} {l:List Nat} {R:Nat->Prop} {A:Ar} {live seen:List Nat} {F:Fr} {H:Hp} {Q:PC}
theorem IA.ext (h:IA n0 mb i v l R A live seen w F H) {H' : Hp} (hX:Ext noX H H') {F' : Fr} (f3:F'.get 3=F.get 3) (f4:F'.get 4=F.get 4) (f5:F'.get 5=F.get 5) (f24:F'.get 24=F.get 24) (f25:F'.get 25=F.get 25) (f26:F'.get 26=F.get 26):IA n0 mb i v l R A live seen w F' H':=by
 have hg:∀ b,b < H.next->H'.get b=H.get b:=fun b hb=>hX.get b hb fun h=>h
 have hle:=hX.le
 refine ⟨h.ar.ext hX fun _ _ h=>h,h.inv,h.sl.of_get fun b hb=>hg b (h.wr b hb).2.2.2,fun b hb=>?_,h.rg,?_,⟨h.ml.1,by have:=h.ml.2;omega⟩,⟨h.li.len,fun hl=>?_⟩,h.lz,by rw [f3,h.f3],by rw [f4,h.f4],by rw [f5,h.f5],by rw [f24,h.f24],by rw [f25,h.f25],by rw [f26,h.f26]⟩
 ·obtain ⟨a,b,c,d⟩:=h.wr b hb;exact ⟨a,b,c,by omega⟩
 ·obtain ⟨es,c,h1,h2⟩:=h.mg;exact ⟨es,c,by rw [hg mb h.ml.2];exact h1,h2⟩
 ·obtain ⟨h1,cs,h2,h3⟩:=h.li.row hl
  exact ⟨h1,cs,by rw [hg 0 (by have:=h.lz hl;have:=h.ar.lt;omega)];exact h2,h3⟩
theorem IA.more (h:IA n0 mb i v l R A live seen w F H) {F' : Fr} (f3:F'.get 3=F.get 3) (f4:F'.get 4=F.get 4) (f5:F'.get 5=F.get 5) (f24:F'.get 24=F.get 24) (f25:F'.get 25=F.get 25) (f26:F'.get 26=some (.int .i64 (i+1:Nat))):IA n0 mb (i+1) v l R A live seen w F' H :=
 ⟨h.ar,h.inv.next,h.sl,h.wr,h.rg,h.mg,h.ml,h.li,h.lz,by rw [f3,h.f3],by rw [f4,h.f4],by rw [f5,h.f5],by rw [f24,h.f24],by rw [f25,h.f25],f26⟩
end Go.AM.YtiolgkhfpnidfaaT
namespace Go.AM.YtiolgkhfpnidfaaT
open Go Go.AM Go.Proofs
set_option maxRecDepth 100000
abbrev R25_0:List SOp:=[(some 5,.box 65 (.tmp 2),none),
 (some 6,.assign (.const (.bool false)),none)]
abbrev R25_1:List SOp:=[(some 14,.fieldAddr 65 (.tmp 5) 0,none),
 (some 15,.load 5 (.tmp 14),none),
 (some 16,.binOp .rem 5 (.tmp 15) (.const (.int .u8 4)) 5,none)]
abbrev R25_8:List SOp:=[(some 59,.binOp .eql 5 (.tmp 16) (.const (.int .u8 0)) 5,none),
 (some 58,.assign (.tmp 59),none)]
abbrev R25_9:List SOp:=[(some 60,.move (.tmp 0),none),
 (some 61,.nilCheck (.tmp 60),none),
 (some 62,.fieldAddr 62 (.tmp 61) 0,none),
 (some 63,.load 59 (.tmp 62),none),
 (some 64,.call ⟨.builtin .len,#[(.tmp 63)],#[59]⟩,none),
 (some 65,.binOp .gtr 3 (.tmp 64) (.const (.int .i64 5)) 3,none)]
abbrev R25_10:List SOp:=[(some 6,.assign (.const (.bool true)),none)]
abbrev R25_11:List (SOp×Nat):=[((some 67,.move (.tmp 0),none),0),
 ((some 68,.nilCheck (.tmp 67),none),0),
 ((some 69,.fieldAddr 62 (.tmp 68) 0,none),0),
 ((some 70,.load 59 (.tmp 69),none),0),
 ((some 71,.fieldAddr 65 (.tmp 5) 3,none),0),
 ((some 72,.load 63 (.tmp 71),none),0),
 ((some 73,.convert 63 3 (.tmp 72),none),0),
 ((some 74,.call ⟨.builtin .max,#[(.tmp 73),(.const (.int .i64 0))],#[3,3]⟩,none),0),
 ((some 75,.binOp .rem 3 (.tmp 74) (.const (.int .i64 12)) 3,none),0),
 ((some 76,.buildSlice 59 1 #[(0,(.tmp 75))],none),0),
 ((some 77,.call ⟨.builtin .append,#[(.tmp 70),(.tmp 76)],#[59,59]⟩,none),0),
 ((some 66,.move (.tmp 0),none),1),
 ((some 78,.nilCheck (.tmp 66),none),0),
 ((some 79,.fieldAddr 62 (.tmp 78) 0,none),0),
 ((none,.store 59 (.tmp 79) (.tmp 77),none),0)]
abbrev R25_12:List (SOp×Nat):=[((some 80,.move (.tmp 1),none),0),
 ((some 81,.fieldAddr 65 (.tmp 5) 3,none),0),
 ((some 82,.load 63 (.tmp 81),none),0),
 ((some 83,.convert 63 3 (.tmp 82),none),0),
 ((some 84,.binOp .rem 3 (.tmp 83) (.const (.int .i64 12)) 3,none),0),
 ((some 85,.call ⟨.value (.func 18),#[(.tmp 80),(.tmp 84)],#[30,3]⟩,none),0),
 ((some 86,.move (.tmp 0),none),1),
 ((some 87,.nilCheck (.tmp 86),none),1),
 ((some 88,.fieldAddr 62 (.tmp 87) 0,none),1),
 ((some 89,.load 59 (.tmp 88),none),1),
 ((some 90,.call ⟨.builtin .len,#[(.tmp 89)],#[59]⟩,none),1),
 ((some 91,.binOp .sub 3 (.tmp 90) (.const (.int .i64 1)) 3,none),1),
 ((some 92,.binOp .eql 3 (.tmp 85) (.tmp 91) 3,none),0),
 ((some 6,.assign (.tmp 92),none),0)]
abbrev R25_13:List SOp:=[(some 94,.binOp .eql 5 (.tmp 16) (.const (.int .u8 1)) 5,none),
 (some 93,.assign (.tmp 94),none)]
abbrev R25_14:List SOp:=[(some 95,.fieldAddr 65 (.tmp 5) 1,none),
 (some 96,.load 5 (.tmp 95),none),
 (some 97,.binOp .rem 5 (.tmp 96) (.const (.int .u8 8)) 5,none),
 (some 98,.convert 5 3 (.tmp 97),none),
 (some 99,.binOp .sub 3 (.tmp 98) (.const (.int .i64 1)) 3,none),
 (some 7,.assign (.tmp 99),none)]
abbrev R25_15:List SOp:=[(some 101,.move (.tmp 1),none),
 (some 102,.fieldAddr 65 (.tmp 5) 2,none),
 (some 103,.load 5 (.tmp 102),none),
 (some 104,.binOp .rem 5 (.tmp 103) (.const (.int .u8 8)) 5,none),
 (some 105,.move (.tmp 7),none),
 (some 106,.fieldAddr 65 (.tmp 5) 3,none),
 (some 107,.load 63 (.tmp 106),none),
 (some 108,.convert 63 3 (.tmp 107),none),
 (some 109,.build 44 #[(0,(.tmp 104)),(1,(.tmp 105)),(4,(.tmp 108))],none),
 (some 110,.call ⟨.value (.func 19),#[(.tmp 101),(.tmp 109)],#[30,44]⟩,none),
 (some 100,.move (.tmp 110),none),
 (some 111,.extract (.tmp 100) 0,none),
 (some 112,.extract (.tmp 100) 1,none),
 (some 8,.assign (.tmp 111),none),
 (some 9,.assign (.tmp 112),none)]
abbrev R25_16:List SOp:=[(some 114,.move (.tmp 7),none),
 (some 115,.binOp .lss 3 (.tmp 114) (.const (.int .i64 0)) 3,none),
 (some 116,.move (.tmp 115),none),
 (some 117,.move (.tmp 7),some (some 116,false)),
 (some 118,.move (.tmp 0),some (some 116,false)),
 (some 119,.nilCheck (.tmp 118),some (some 116,false)),
 (some 120,.fieldAddr 62 (.tmp 119) 0,some (some 116,false)),
 (some 121,.load 59 (.tmp 120),some (some 116,false)),
 (some 122,.call ⟨.builtin .len,#[(.tmp 121)],#[59]⟩,some (some 116,false)),
 (some 123,.binOp .geq 3 (.tmp 117) (.tmp 122) 3,some (some 116,false)),
 (some 124,.pick (.tmp 116) (.const (.bool true)) (.tmp 123),none),
 (some 113,.assign (.tmp 124),none)]
abbrev R25_17:List SOp:=[(some 125,.move (.tmp 9),none),
 (some 126,.binOp .eql 34 (.tmp 125) (.const (.int .i64 17)) 34,none),
 (some 127,.move (.tmp 126),none),
 (some 128,.move (.tmp 8),some (some 127,true)),
 (some 129,.binOp .eql 29 (.tmp 128) (.const (.int .u64 0)) 29,some (some 127,true)),
 (some 130,.pick (.tmp 127) (.tmp 129) (.const (.bool false)),none),
 (some 6,.assign (.tmp 130),none)]
abbrev R25_18:List (SOp×Nat):=[((some 132,.move (.tmp 0),none),0),
 ((some 133,.move (.tmp 7),none),0),
 ((some 134,.call ⟨.value (.func 47),#[(.tmp 132),(.tmp 133)],#[58,3]⟩,none),0),
 ((some 135,.move (.tmp 0),none),1),
 ((some 136,.nilCheck (.tmp 135),none),1),
 ((some 137,.fieldAddr 62 (.tmp 136) 0,none),1),
 ((some 138,.load 59 (.tmp 137),none),1),
 ((some 139,.move (.tmp 7),none),1),
 ((some 140,.indexAddr 59 (.tmp 138) (.tmp 139),none),1),
 ((some 141,.load 3 (.tmp 140),none),1),
 ((some 142,.binOp .geq 3 (.tmp 134) (.tmp 141) 3,none),0),
 ((some 131,.assign (.tmp 142),none),0)]
abbrev R25_19:List SOp:=[(some 143,.move (.tmp 9),none),
 (some 144,.binOp .eql 34 (.tmp 143) (.const (.int .i64 8)) 34,none),
 (some 145,.move (.tmp 144),none),
 (some 146,.move (.tmp 8),some (some 145,true)),
 (some 147,.binOp .eql 29 (.tmp 146) (.const (.int .u64 0)) 29,some (some 145,true)),
 (some 148,.pick (.tmp 145) (.tmp 147) (.const (.bool false)),none),
 (some 6,.assign (.tmp 148),none)]
abbrev R25_20:List SOp:=[(some 149,.move (.tmp 9),none),
 (some 150,.binOp .neq 34 (.tmp 149) (.const (.int .i64 0)) 34,none),
 (some 151,.move (.tmp 150),none),
 (some 152,.move (.tmp 8),some (some 151,false)),
 (some 153,.binOp .eql 29 (.tmp 152) (.const (.int .u64 0)) 29,some (some 151,false)),
 (some 154,.pick (.tmp 151) (.const (.bool true)) (.tmp 153),none),
 (some 155,.move (.tmp 154),none),
 (some 156,.move (.tmp 0),some (some 155,false)),
 (some 157,.nilCheck (.tmp 156),some (some 155,false)),
 (some 158,.fieldAddr 62 (.tmp 157) 1,some (some 155,false)),
 (some 159,.load 33 (.tmp 158),some (some 155,false)),
 (some 160,.move (.tmp 8),some (some 155,false)),
 (some 161,.call ⟨.value (.func 48),#[(.tmp 159),(.tmp 160)],#[33,29]⟩,some (some 155,false)),
 (some 162,.pick (.tmp 155) (.const (.bool true)) (.tmp 161),none),
 (some 163,.move (.tmp 162),none),
 (some 164,.move (.tmp 0),some (some 163,false)),
 (some 165,.nilCheck (.tmp 164),some (some 163,false)),
 (some 166,.fieldAddr 62 (.tmp 165) 4,some (some 163,false)),
 (some 167,.load 33 (.tmp 166),some (some 163,false)),
 (some 168,.move (.tmp 8),some (some 163,false)),
 (some 169,.call ⟨.value (.func 48),#[(.tmp 167),(.tmp 168)],#[33,29]⟩,some (some 163,false)),
 (some 170,.pick (.tmp 163) (.const (.bool true)) (.tmp 169),none)]
abbrev R25_21:List SOp:=[(some 6,.assign (.const (.bool false)),none)]
abbrev R25_22:List (SOp×Nat):=[((some 174,.move (.tmp 0),none),0),
 ((some 175,.nilCheck (.tmp 174),none),0),
 ((some 176,.fieldAddr 62 (.tmp 175) 1,none),0),
 ((some 177,.load 33 (.tmp 176),none),0),
 ((some 178,.move (.tmp 8),none),0),
 ((some 179,.buildSlice 33 1 #[(0,(.tmp 178))],none),0),
 ((some 180,.call ⟨.builtin .append,#[(.tmp 177),(.tmp 179)],#[33,33]⟩,none),0),
 ((some 181,.move (.tmp 0),none),1),
 ((some 182,.nilCheck (.tmp 181),none),1),
 ((some 183,.fieldAddr 62 (.tmp 182) 2,none),1),
 ((some 184,.load 59 (.tmp 183),none),1),
 ((some 185,.move (.tmp 7),none),1),
 ((some 186,.buildSlice 59 1 #[(0,(.tmp 185))],none),1),
 ((some 187,.call ⟨.builtin .append,#[(.tmp 184),(.tmp 186)],#[59,59]⟩,none),0),
 ((some 188,.move (.tmp 0),none),2),
 ((some 189,.nilCheck (.tmp 188),none),2),
 ((some 190,.fieldAddr 62 (.tmp 189) 3,none),2),
 ((some 191,.load 60 (.tmp 190),none),2),
 ((some 192,.fieldAddr 65 (.tmp 5) 3,none),2),
 ((some 193,.load 63 (.tmp 192),none),2),
 ((some 194,.convert 63 2 (.tmp 193),none),2),
 ((some 195,.buildSlice 60 1 #[(0,(.tmp 194))],none),2),
 ((some 196,.call ⟨.builtin .append,#[(.tmp 191),(.tmp 195)],#[60,60]⟩,none),0),
 ((some 171,.move (.tmp 0),none),3),
 ((some 197,.nilCheck (.tmp 171),none),0),
 ((some 198,.fieldAddr 62 (.tmp 197) 1,none),0),
 ((none,.store 33 (.tmp 198) (.tmp 180),none),0),
 ((some 172,.move (.tmp 0),none),4),
 ((some 199,.nilCheck (.tmp 172),none),0),
 ((some 200,.fieldAddr 62 (.tmp 199) 2,none),0),
 ((none,.store 59 (.tmp 200) (.tmp 187),none),0),
 ((some 173,.move (.tmp 0),none),5),
 ((some 201,.nilCheck (.tmp 173),none),0),
 ((some 202,.fieldAddr 62 (.tmp 201) 3,none),0),
 ((none,.store 60 (.tmp 202) (.tmp 196),none),0)]
abbrev R25_23:List SOp:=[(some 204,.binOp .eql 5 (.tmp 16) (.const (.int .u8 2)) 5,none),
 (some 203,.assign (.tmp 204),none)]
abbrev R25_24:List SOp:=[(some 205,.move (.tmp 0),none),
 (some 206,.nilCheck (.tmp 205),none),
 (some 207,.fieldAddr 62 (.tmp 206) 1,none),
 (some 208,.load 33 (.tmp 207),none),
 (some 209,.call ⟨.builtin .len,#[(.tmp 208)],#[33]⟩,none),
 (some 210,.binOp .eql 3 (.tmp 209) (.const (.int .i64 0)) 3,none),
 (some 211,.move (.tmp 210),none),
 (some 212,.fieldAddr 65 (.tmp 5) 2,some (some 211,false)),
 (some 213,.load 5 (.tmp 212),some (some 211,false)),
 (some 214,.binOp .rem 5 (.tmp 213) (.const (.int .u8 5)) 5,some (some 211,false)),
 (some 215,.binOp .eql 5 (.tmp 214) (.const (.int .u8 0)) 5,some (some 211,false)),
 (some 216,.pick (.tmp 211) (.const (.bool true)) (.tmp 215),none)]
abbrev R25_25:List SOp:=[(some 217,.fieldAddr 65 (.tmp 5) 1,none),
 (some 218,.load 5 (.tmp 217),none),
 (some 219,.convert 5 90 (.tmp 218),none),
 (some 220,.fieldAddr 65 (.tmp 5) 2,none),
 (some 221,.load 5 (.tmp 220),none),
 (some 222,.convert 5 90 (.tmp 221),none),
 (some 223,.binOp .add 90 (.tmp 222) (.const (.int .u32 9)) 90,none),
 (some 224,.call ⟨.value (.func 41),#[(.tmp 219),(.tmp 223)],#[90,90]⟩,none),
 (some 10,.assign (.tmp 224),none)]
abbrev R25_26:List SOp:=[(some 225,.move (.tmp 0),none),
 (some 226,.nilCheck (.tmp 225),none),
 (some 227,.fieldAddr 62 (.tmp 226) 1,none),
 (some 228,.load 33 (.tmp 227),none),
 (some 229,.move (.tmp 10),none),
 (some 230,.call ⟨.value (.func 48),#[(.tmp 228),(.tmp 229)],#[33,29]⟩,none),
 (some 231,.unOp .not 4 (.tmp 230),none)]
abbrev R25_27:List SOp:=[(some 232,.move (.tmp 1),none),
 (some 233,.move (.tmp 10),none),
 (some 234,.call ⟨.value (.func 20),#[(.tmp 232),(.tmp 233)],#[30,29]⟩,none)]
abbrev R25_28:List SOp:=[(some 6,.assign (.const (.bool true)),none)]
abbrev R25_29:List (SOp×Nat):=[((some 235,.fieldAddr 65 (.tmp 5) 1,none),0),
 ((some 236,.load 5 (.tmp 235),none),0),
 ((some 237,.convert 5 3 (.tmp 236),none),0),
 ((some 238,.move (.tmp 0),none),0),
 ((some 239,.nilCheck (.tmp 238),none),0),
 ((some 240,.fieldAddr 62 (.tmp 239) 1,none),0),
 ((some 241,.load 33 (.tmp 240),none),0),
 ((some 242,.call ⟨.builtin .len,#[(.tmp 241)],#[33]⟩,none),0),
 ((some 243,.binOp .rem 3 (.tmp 237) (.tmp 242) 3,none),0),
 ((some 11,.assign (.tmp 243),none),0)]
abbrev R25_30:List SOp:=[(some 244,.move (.tmp 1),none),
 (some 245,.move (.tmp 0),none),
 (some 246,.nilCheck (.tmp 245),none),
 (some 247,.fieldAddr 62 (.tmp 246) 1,none),
 (some 248,.load 33 (.tmp 247),none),
 (some 249,.move (.tmp 11),none),
 (some 250,.indexAddr 33 (.tmp 248) (.tmp 249),none),
 (some 251,.load 29 (.tmp 250),none),
 (some 252,.call ⟨.value (.func 20),#[(.tmp 244),(.tmp 251)],#[30,29]⟩,none)]
abbrev R25_31:List SOp:=[(some 253,.move (.tmp 1),none),
 (some 254,.move (.tmp 0),none),
 (some 255,.nilCheck (.tmp 254),none),
 (some 256,.fieldAddr 62 (.tmp 255) 1,none),
 (some 257,.load 33 (.tmp 256),none),
 (some 258,.move (.tmp 11),none),
 (some 259,.indexAddr 33 (.tmp 257) (.tmp 258),none),
 (some 260,.load 29 (.tmp 259),none),
 (some 261,.call ⟨.value (.func 20),#[(.tmp 253),(.tmp 260)],#[30,29]⟩,none)]
abbrev R25_32:List (SOp×Nat):=[((some 263,.move (.tmp 0),none),0),
 ((some 264,.nilCheck (.tmp 263),none),0),
 ((some 265,.fieldAddr 62 (.tmp 264) 4,none),0),
 ((some 266,.load 33 (.tmp 265),none),0),
 ((some 267,.move (.tmp 0),none),0),
 ((some 268,.nilCheck (.tmp 267),none),0),
 ((some 269,.fieldAddr 62 (.tmp 268) 1,none),0),
 ((some 270,.load 33 (.tmp 269),none),0),
 ((some 271,.move (.tmp 11),none),0),
 ((some 272,.indexAddr 33 (.tmp 270) (.tmp 271),none),0),
 ((some 273,.load 29 (.tmp 272),none),0),
 ((some 274,.buildSlice 33 1 #[(0,(.tmp 273))],none),0),
 ((some 275,.call ⟨.builtin .append,#[(.tmp 266),(.tmp 274)],#[33,33]⟩,none),0),
 ((some 262,.move (.tmp 0),none),1),
 ((some 276,.nilCheck (.tmp 262),none),0),
 ((some 277,.fieldAddr 62 (.tmp 276) 4,none),0),
 ((none,.store 33 (.tmp 277) (.tmp 275),none),0)]
abbrev R25_33:List (SOp×Nat):=[((some 281,.move (.tmp 0),none),0),
 ((some 282,.nilCheck (.tmp 281),none),0),
 ((some 283,.fieldAddr 62 (.tmp 282) 1,none),0),
 ((some 284,.load 33 (.tmp 283),none),0),
 ((some 285,.move (.tmp 11),none),0),
 ((some 286,.move (.tmp 11),none),0),
 ((some 287,.binOp .add 3 (.tmp 286) (.const (.int .i64 1)) 3,none),0),
 ((some 288,.call ⟨.value (.func 24),#[(.tmp 284),(.tmp 285),(.tmp 287)],#[33,3,3]⟩,none),0),
 ((some 289,.move (.tmp 0),none),1),
 ((some 290,.nilCheck (.tmp 289),none),1),
 ((some 291,.fieldAddr 62 (.tmp 290) 2,none),1),
 ((some 292,.load 59 (.tmp 291),none),1),
 ((some 293,.move (.tmp 11),none),1),
 ((some 294,.move (.tmp 11),none),1),
 ((some 295,.binOp .add 3 (.tmp 294) (.const (.int .i64 1)) 3,none),1),
 ((some 296,.call ⟨.value (.func 49),#[(.tmp 292),(.tmp 293),(.tmp 295)],#[59,3,3]⟩,none),0),
 ((some 297,.move (.tmp 0),none),2),
 ((some 298,.nilCheck (.tmp 297),none),2),
 ((some 299,.fieldAddr 62 (.tmp 298) 3,none),2),
 ((some 300,.load 60 (.tmp 299),none),2),
 ((some 301,.move (.tmp 11),none),2),
 ((some 302,.move (.tmp 11),none),2),
 ((some 303,.binOp .add 3 (.tmp 302) (.const (.int .i64 1)) 3,none),2),
 ((some 304,.call ⟨.value (.func 50),#[(.tmp 300),(.tmp 301),(.tmp 303)],#[60,3,3]⟩,none),0),
 ((some 278,.move (.tmp 0),none),3),
 ((some 305,.nilCheck (.tmp 278),none),0),
 ((some 306,.fieldAddr 62 (.tmp 305) 1,none),0),
 ((none,.store 33 (.tmp 306) (.tmp 288),none),0),
 ((some 279,.move (.tmp 0),none),4),
 ((some 307,.nilCheck (.tmp 279),none),0),
 ((some 308,.fieldAddr 62 (.tmp 307) 2,none),0),
 ((none,.store 59 (.tmp 308) (.tmp 296),none),0),
 ((some 280,.move (.tmp 0),none),5),
 ((some 309,.nilCheck (.tmp 280),none),0),
 ((some 310,.fieldAddr 62 (.tmp 309) 3,none),0),
 ((none,.store 60 (.tmp 310) (.tmp 304),none),0)]
abbrev R25_2:List SOp:=[(some 17,.move (.tmp 0),none),
 (some 18,.nilCheck (.tmp 17),none),
 (some 19,.fieldAddr 62 (.tmp 18) 1,none),
 (some 20,.load 33 (.tmp 19),none),
 (some 21,.call ⟨.builtin .len,#[(.tmp 20)],#[33]⟩,none),
 (some 22,.binOp .gtr 3 (.tmp 21) (.const (.int .i64 0)) 3,none)]
abbrev R25_3:List (SOp×Nat):=[((some 23,.fieldAddr 65 (.tmp 5) 1,none),0),
 ((some 24,.load 5 (.tmp 23),none),0),
 ((some 25,.convert 5 3 (.tmp 24),none),0),
 ((some 26,.move (.tmp 0),none),0),
 ((some 27,.nilCheck (.tmp 26),none),0),
 ((some 28,.fieldAddr 62 (.tmp 27) 1,none),0),
 ((some 29,.load 33 (.tmp 28),none),0),
 ((some 30,.call ⟨.builtin .len,#[(.tmp 29)],#[33]⟩,none),0),
 ((some 31,.binOp .rem 3 (.tmp 25) (.tmp 30) 3,none),0),
 ((some 12,.assign (.tmp 31),none),0)]
abbrev R25_4:List SOp:=[(some 32,.move (.tmp 1),none),
 (some 33,.move (.tmp 0),none),
 (some 34,.nilCheck (.tmp 33),none),
 (some 35,.fieldAddr 62 (.tmp 34) 1,none),
 (some 36,.load 33 (.tmp 35),none),
 (some 37,.move (.tmp 12),none),
 (some 38,.indexAddr 33 (.tmp 36) (.tmp 37),none),
 (some 39,.load 29 (.tmp 38),none),
 (some 40,.call ⟨.value (.func 21),#[(.tmp 32),(.tmp 39)],#[30,29]⟩,none),
 (some 13,.assign (.tmp 40),none)]
abbrev R25_5:List SOp:=[(some 41,.move (.tmp 13),none),
 (some 42,.binOp .eql 46 (.tmp 41) (.const (.pointer none)) 46,none)]
abbrev R25_6:List SOp:=[(some 6,.assign (.const (.bool false)),none)]
abbrev R25_7:List (SOp×Nat):=[((some 43,.move (.tmp 13),none),0),
 ((some 44,.move (.tmp 0),none),0),
 ((some 45,.nilCheck (.tmp 44),none),0),
 ((some 46,.fieldAddr 62 (.tmp 45) 3,none),0),
 ((some 47,.load 60 (.tmp 46),none),0),
 ((some 49,.fieldAddr 65 (.tmp 5) 3,none),0),
 ((some 50,.load 63 (.tmp 49),none),0),
 ((some 51,.convert 63 3 (.tmp 50),none),0),
 ((some 55,.nilCheck (.tmp 43),none),0),
 ((some 56,.fieldAddr 44 (.tmp 55) 4,none),0),
 ((none,.store 3 (.tmp 56) (.tmp 51),none),0),
 ((some 48,.move (.tmp 12),none),1),
 ((some 52,.fieldAddr 65 (.tmp 5) 3,none),1),
 ((some 53,.load 63 (.tmp 52),none),1),
 ((some 54,.convert 63 2 (.tmp 53),none),1),
 ((some 57,.indexAddr 60 (.tmp 47) (.tmp 48),none),0),
 ((none,.store 2 (.tmp 57) (.tmp 54),none),0)]
abbrev R25_34:List SOp:=[(some 6,.assign (.const (.bool true)),none)]
abbrev S25:SCode:=.seq (.reg R25_0) (.seq (.seq (.reg R25_1) (.block 0 (.seq (.reg R25_8) (.cond (.tmp 58) (.seq (.seq (.reg R25_9) (.cond (.tmp 65) (.seq (.reg R25_10) (.ret)) (.skip))) (.seq (.dreg R25_11) (.seq (.dreg R25_12) (.ret)))) (.seq (.reg R25_13) (.cond (.tmp 93) (.seq (.reg R25_14) (.seq (.reg R25_15) (.seq (.block 1 (.seq (.reg R25_16) (.cond (.tmp 113) (.seq (.reg R25_17) (.ret)) (.seq (.dreg R25_18) (.cond (.tmp 131) (.seq (.reg R25_19) (.ret)) (.skip)))))) (.seq (.seq (.reg R25_20) (.cond (.tmp 170) (.seq (.reg R25_21) (.ret)) (.skip))) (.dreg R25_22))))) (.seq (.reg R25_23) (.cond (.tmp 203) (.seq (.seq (.reg R25_24) (.cond (.tmp 216) (.seq (.seq (.reg R25_25) (.seq (.reg R25_26) (.cond (.tmp 231) (.reg R25_27) (.skip)))) (.seq (.reg R25_28) (.ret))) (.skip))) (.seq (.dreg R25_29) (.seq (.reg R25_30) (.seq (.reg R25_31) (.seq (.dreg R25_32) (.dreg R25_33)))))) (.seq (.reg R25_2) (.cond (.tmp 22) (.seq (.dreg R25_3) (.seq (.reg R25_4) (.seq (.seq (.reg R25_5) (.cond (.tmp 42) (.seq (.reg R25_6) (.ret)) (.skip))) (.dreg R25_7)))) (.skip))))))))))) (.seq (.reg R25_34) (.ret)))
theorem slim25:slimC tab 25 (Try.f25.body.getD .skip)=S25:=by kernel_rfl
theorem wf25 {xs:List V} {H:Hp} {Q:V->Hp->Prop} (h:WC tab S25 (frame xs 0 .nil) H (resQ tab [.tmp 6] Q)):WF tab 25 xs H Q:=WF.of_slim (T:=tab) (f:=25) rfl fn25 rfl slim25 rfl h
end Go.AM.YtiolgkhfpnidfaaT
namespace Go.AM.YtiolgkhfpnidfaaT
open Go Go.AM
end Go.AM.YtiolgkhfpnidfaaT
namespace Go.AM.YtiolgkhfpnidfaaT
open Go Go.AM Go.Proofs
set_option maxRecDepth 100000
abbrev R26_0:List SOp:=[(some 4,.assign (.const (.bool false)),none)]
abbrev R26_1:List SOp:=[(some 18,.move (.tmp 0),none),
 (some 19,.nilCheck (.tmp 18),none),
 (some 20,.fieldAddr 62 (.tmp 19) 1,none),
 (some 21,.load 33 (.tmp 20),none),
 (some 22,.call ⟨.builtin .len,#[(.tmp 21)],#[33]⟩,none),
 (some 23,.move (.const (.int .i64 0)),none)]
abbrev R26_2:List SOp:=[(some 24,.binOp .lss 3 (.tmp 23) (.tmp 22) 3,none)]
abbrev R26_3:List SOp:=[(some 25,.move (.tmp 23),none),
 (some 26,.indexAddr 33 (.tmp 21) (.tmp 23),none),
 (some 27,.load 29 (.tmp 26),none),
 (some 5,.assign (.tmp 25),none),
 (some 6,.assign (.tmp 27),none)]
abbrev R26_4:List SOp:=[(some 28,.move (.tmp 1),none),
 (some 29,.move (.tmp 6),none),
 (some 30,.call ⟨.value (.func 21),#[(.tmp 28),(.tmp 29)],#[30,29]⟩,none),
 (some 7,.assign (.tmp 30),none)]
abbrev R26_5:List (SOp×Nat):=[((some 31,.move (.tmp 7),none),0),
 ((some 32,.binOp .eql 46 (.tmp 31) (.const (.pointer none)) 46,none),0),
 ((some 33,.move (.tmp 32),none),0),
 ((some 34,.move (.tmp 7),some (some 33,false)),0),
 ((some 35,.nilCheck (.tmp 34),some (some 33,false)),0),
 ((some 36,.fieldAddr 44 (.tmp 35) 1,some (some 33,false)),0),
 ((some 37,.load 3 (.tmp 36),some (some 33,false)),0),
 ((some 38,.move (.tmp 0),some (some 33,false)),0),
 ((some 39,.nilCheck (.tmp 38),some (some 33,false)),0),
 ((some 40,.fieldAddr 62 (.tmp 39) 2,some (some 33,false)),0),
 ((some 41,.load 59 (.tmp 40),some (some 33,false)),0),
 ((some 42,.move (.tmp 5),some (some 33,false)),0),
 ((some 43,.indexAddr 59 (.tmp 41) (.tmp 42),some (some 33,false)),0),
 ((some 44,.load 3 (.tmp 43),some (some 33,false)),0),
 ((some 45,.binOp .neq 3 (.tmp 37) (.tmp 44) 3,some (some 33,false)),0),
 ((some 46,.pick (.tmp 33) (.const (.bool true)) (.tmp 45),none),0),
 ((some 47,.move (.tmp 46),none),0),
 ((some 48,.move (.tmp 7),some (some 47,false)),0),
 ((some 49,.nilCheck (.tmp 48),some (some 47,false)),0),
 ((some 50,.fieldAddr 44 (.tmp 49) 4,some (some 47,false)),0),
 ((some 51,.load 3 (.tmp 50),some (some 47,false)),0),
 ((some 52,.move (.tmp 0),some (some 47,false)),0),
 ((some 53,.nilCheck (.tmp 52),some (some 47,false)),0),
 ((some 54,.fieldAddr 62 (.tmp 53) 3,some (some 47,false)),0),
 ((some 55,.load 60 (.tmp 54),some (some 47,false)),0),
 ((some 56,.move (.tmp 5),some (some 47,false)),0),
 ((some 57,.indexAddr 60 (.tmp 55) (.tmp 56),some (some 47,false)),0),
 ((some 58,.load 2 (.tmp 57),some (some 47,false)),0),
 ((some 59,.binOp .neq 2 (.tmp 51) (.tmp 58) 2,some (some 47,false)),0),
 ((some 60,.pick (.tmp 47) (.const (.bool true)) (.tmp 59),none),0)]
abbrev R26_6:List SOp:=[(some 4,.assign (.const (.bool false)),none)]
abbrev R26_7:List SOp:=[(some 61,.binOp .add 3 (.tmp 23) (.const (.int .i64 1)) 3,none),
 (some 23,.move (.tmp 61),none)]
def L26_0:SCode:=.seq (.reg R26_2) (.seq (.cond (.tmp 24) (.skip) (.exit 0)) (.seq (.block 1 (.seq (.reg R26_3) (.seq (.reg R26_4) (.seq (.dreg R26_5) (.cond (.tmp 60) (.seq (.reg R26_6) (.ret)) (.skip)))))) (.reg R26_7)))
abbrev R26_8:List SOp:=[(some 62,.move (.tmp 0),none),
 (some 63,.nilCheck (.tmp 62),none),
 (some 64,.fieldAddr 62 (.tmp 63) 4,none),
 (some 65,.load 33 (.tmp 64),none),
 (some 66,.call ⟨.builtin .len,#[(.tmp 65)],#[33]⟩,none),
 (some 67,.move (.const (.int .i64 0)),none)]
abbrev R26_9:List SOp:=[(some 68,.binOp .lss 3 (.tmp 67) (.tmp 66) 3,none)]
abbrev R26_10:List SOp:=[(some 69,.indexAddr 33 (.tmp 65) (.tmp 67),none),
 (some 70,.load 29 (.tmp 69),none),
 (some 9,.assign (.tmp 70),none)]
abbrev R26_11:List SOp:=[(some 71,.move (.tmp 1),none),
 (some 72,.move (.tmp 9),none),
 (some 73,.call ⟨.value (.func 21),#[(.tmp 71),(.tmp 72)],#[30,29]⟩,none),
 (some 74,.binOp .neq 46 (.tmp 73) (.const (.pointer none)) 46,none)]
abbrev R26_12:List SOp:=[(some 4,.assign (.const (.bool false)),none)]
abbrev R26_13:List SOp:=[(some 75,.binOp .add 3 (.tmp 67) (.const (.int .i64 1)) 3,none),
 (some 67,.move (.tmp 75),none)]
def L26_1:SCode:=.seq (.reg R26_9) (.seq (.cond (.tmp 68) (.skip) (.exit 2)) (.seq (.block 3 (.seq (.reg R26_10) (.seq (.reg R26_11) (.cond (.tmp 74) (.seq (.reg R26_12) (.ret)) (.skip))))) (.reg R26_13)))
abbrev R26_14:List SOp:=[(some 76,.move (.tmp 0),none),
 (some 77,.nilCheck (.tmp 76),none),
 (some 78,.fieldAddr 62 (.tmp 77) 0,none),
 (some 79,.load 59 (.tmp 78),none),
 (some 80,.call ⟨.builtin .len,#[(.tmp 79)],#[59]⟩,none),
 (some 81,.move (.const (.int .i64 0)),none)]
abbrev R26_15:List SOp:=[(some 82,.binOp .lss 3 (.tmp 81) (.tmp 80) 3,none)]
abbrev R26_16:List SOp:=[(some 83,.move (.tmp 81),none),
 (some 84,.indexAddr 59 (.tmp 79) (.tmp 81),none),
 (some 85,.load 3 (.tmp 84),none),
 (some 10,.assign (.tmp 83),none),
 (some 11,.assign (.tmp 85),none)]
abbrev R26_17:List SOp:=[(some 87,.move (.tmp 1),none),
 (some 88,.move (.tmp 10),none),
 (some 89,.call ⟨.value (.func 40),#[(.tmp 87),(.tmp 88)],#[30,3]⟩,none),
 (some 86,.move (.tmp 89),none),
 (some 90,.extract (.tmp 86) 0,none),
 (some 91,.extract (.tmp 86) 1,none),
 (some 12,.assign (.tmp 90),none),
 (some 13,.assign (.tmp 91),none)]
abbrev R26_18:List SOp:=[(some 92,.move (.tmp 12),none),
 (some 93,.move (.tmp 0),none),
 (some 94,.move (.tmp 10),none),
 (some 95,.call ⟨.value (.func 47),#[(.tmp 93),(.tmp 94)],#[58,3]⟩,none),
 (some 96,.binOp .neq 3 (.tmp 92) (.tmp 95) 3,none),
 (some 97,.move (.tmp 96),none),
 (some 98,.move (.tmp 13),some (some 97,false)),
 (some 99,.move (.tmp 11),some (some 97,false)),
 (some 100,.move (.tmp 0),some (some 97,false)),
 (some 101,.move (.tmp 10),some (some 97,false)),
 (some 102,.call ⟨.value (.func 47),#[(.tmp 100),(.tmp 101)],#[58,3]⟩,some (some 97,false)),
 (some 103,.binOp .sub 3 (.tmp 99) (.tmp 102) 3,some (some 97,false)),
 (some 104,.binOp .neq 3 (.tmp 98) (.tmp 103) 3,some (some 97,false)),
 (some 105,.pick (.tmp 97) (.const (.bool true)) (.tmp 104),none)]
abbrev R26_19:List SOp:=[(some 4,.assign (.const (.bool false)),none)]
abbrev R26_20:List SOp:=[(some 106,.binOp .add 3 (.tmp 81) (.const (.int .i64 1)) 3,none),
 (some 81,.move (.tmp 106),none)]
def L26_2:SCode:=.seq (.reg R26_15) (.seq (.cond (.tmp 82) (.skip) (.exit 4)) (.seq (.block 5 (.seq (.reg R26_16) (.seq (.reg R26_17) (.seq (.reg R26_18) (.cond (.tmp 105) (.seq (.reg R26_19) (.ret)) (.skip)))))) (.reg R26_20)))
abbrev R26_21:List SOp:=[(some 107,.move (.tmp 1),none),
 (some 108,.call ⟨.value (.func 32),#[(.tmp 107)],#[30]⟩,none),
 (some 14,.assign (.tmp 108),none)]
abbrev R26_22:List SOp:=[(some 109,.move (.tmp 0),none),
 (some 110,.nilCheck (.tmp 109),none),
 (some 111,.fieldAddr 62 (.tmp 110) 1,none),
 (some 112,.load 33 (.tmp 111),none),
 (some 113,.call ⟨.value (.func 51),#[(.tmp 112)],#[33]⟩,none),
 (some 15,.assign (.tmp 113),none)]
abbrev R26_23:List SOp:=[(some 114,.move (.tmp 15),none),
 (some 115,.call ⟨.value (.func 52),#[(.tmp 114),(.func 53)],#[33,107]⟩,none)]
abbrev R26_24:List SOp:=[(some 117,.move (.tmp 1),none),
 (some 118,.move (.tmp 0),none),
 (some 119,.nilCheck (.tmp 118),none),
 (some 120,.fieldAddr 62 (.tmp 119) 0,none),
 (some 121,.load 59 (.tmp 120),none),
 (some 122,.call ⟨.builtin .len,#[(.tmp 121)],#[59]⟩,none),
 (some 123,.call ⟨.value (.func 40),#[(.tmp 117),(.tmp 122)],#[30,3]⟩,none),
 (some 116,.move (.tmp 123),none),
 (some 124,.extract (.tmp 116) 0,none),
 (some 125,.extract (.tmp 116) 1,none),
 (some 16,.assign (.tmp 124),none),
 (some 17,.assign (.tmp 125),none)]
abbrev R26_25:List (SOp×Nat):=[((some 126,.move (.tmp 14),none),0),
 ((some 127,.move (.tmp 15),none),0),
 ((some 128,.call ⟨.value (.func 54),#[(.tmp 126),(.tmp 127)],#[33,33]⟩,none),0),
 ((some 129,.move (.tmp 128),none),0),
 ((some 130,.move (.tmp 1),some (some 129,true)),0),
 ((some 131,.call ⟨.value (.func 55),#[(.tmp 130)],#[30]⟩,some (some 129,true)),0),
 ((some 132,.move (.tmp 0),some (some 129,true)),1),
 ((some 133,.nilCheck (.tmp 132),some (some 129,true)),1),
 ((some 134,.fieldAddr 62 (.tmp 133) 0,some (some 129,true)),1),
 ((some 135,.load 59 (.tmp 134),some (some 129,true)),1),
 ((some 136,.call ⟨.builtin .len,#[(.tmp 135)],#[59]⟩,some (some 129,true)),1),
 ((some 137,.binOp .eql 3 (.tmp 131) (.tmp 136) 3,some (some 129,true)),0),
 ((some 138,.pick (.tmp 129) (.tmp 137) (.const (.bool false)),none),0),
 ((some 139,.move (.tmp 138),none),0),
 ((some 140,.move (.tmp 16),some (some 139,true)),0),
 ((some 141,.binOp .eql 3 (.tmp 140) (.const (.int .i64 0)) 3,some (some 139,true)),0),
 ((some 142,.pick (.tmp 139) (.tmp 141) (.const (.bool false)),none),0),
 ((some 143,.move (.tmp 142),none),0),
 ((some 144,.move (.tmp 17),some (some 143,true)),0),
 ((some 145,.binOp .eql 3 (.tmp 144) (.const (.int .i64 0)) 3,some (some 143,true)),0),
 ((some 146,.pick (.tmp 143) (.tmp 145) (.const (.bool false)),none),0),
 ((some 147,.move (.tmp 146),none),0),
 ((some 148,.move (.tmp 1),some (some 147,true)),0),
 ((some 149,.call ⟨.value (.func 21),#[(.tmp 148),(.const (.int .u64 0))],#[30,29]⟩,some (some 147,true)),0),
 ((some 150,.binOp .eql 46 (.tmp 149) (.const (.pointer none)) 46,some (some 147,true)),0),
 ((some 151,.pick (.tmp 147) (.tmp 150) (.const (.bool false)),none),0),
 ((some 4,.assign (.tmp 151),none),0)]
abbrev S26:SCode:=.seq (.reg R26_0) (.seq (.seq (.reg R26_1) (.block 0 (.loop L26_0))) (.seq (.seq (.reg R26_8) (.block 2 (.loop L26_1))) (.seq (.seq (.reg R26_14) (.block 4 (.loop L26_2))) (.seq (.reg R26_21) (.seq (.reg R26_22) (.seq (.reg R26_23) (.seq (.reg R26_24) (.seq (.dreg R26_25) (.ret)))))))))
theorem slim26:slimC tab 26 (Try.f26.body.getD .skip)=S26:=by kernel_rfl
theorem wf26 {xs:List V} {H:Hp} {Q:V->Hp->Prop} (h:WC tab S26 (frame xs 0 .nil) H (resQ tab [.tmp 4] Q)):WF tab 26 xs H Q:=WF.of_slim (T:=tab) (f:=26) rfl fn26 rfl slim26 rfl h
end Go.AM.YtiolgkhfpnidfaaT
namespace Go.AM.YtiolgkhfpnidfaaT
open Go Go.AM
end Go.AM.YtiolgkhfpnidfaaT
namespace Go.AM.YtiolgkhfpnidfaaT
open Go Go.AM Go.Proofs
set_option maxRecDepth 100000
abbrev R47_0:List SOp:=[(some 4,.assign (.const (.int .i64 0)),none)]
abbrev R47_1:List SOp:=[(some 5,.assign (.const (.int .i64 0)),none)]
abbrev R47_2:List SOp:=[(some 8,.move (.tmp 0),none),
 (some 9,.nilCheck (.tmp 8),none),
 (some 10,.fieldAddr 62 (.tmp 9) 2,none),
 (some 11,.load 59 (.tmp 10),none),
 (some 12,.call ⟨.builtin .len,#[(.tmp 11)],#[59]⟩,none),
 (some 13,.move (.const (.int .i64 0)),none)]
abbrev R47_3:List SOp:=[(some 14,.binOp .lss 3 (.tmp 13) (.tmp 12) 3,none)]
abbrev R47_4:List SOp:=[(some 15,.indexAddr 59 (.tmp 11) (.tmp 13),none),
 (some 16,.load 3 (.tmp 15),none),
 (some 7,.assign (.tmp 16),none)]
abbrev R47_5:List SOp:=[(some 17,.move (.tmp 7),none),
 (some 18,.move (.tmp 1),none),
 (some 19,.binOp .eql 3 (.tmp 17) (.tmp 18) 3,none)]
abbrev R47_6:List SOp:=[(some 20,.move (.tmp 5),none),
 (some 21,.binOp .add 3 (.tmp 20) (.const (.int .i64 1)) 3,none),
 (some 5,.assign (.tmp 21),none)]
abbrev R47_7:List SOp:=[(some 22,.binOp .add 3 (.tmp 13) (.const (.int .i64 1)) 3,none),
 (some 13,.move (.tmp 22),none)]
def L47_0:SCode:=.seq (.reg R47_3) (.seq (.cond (.tmp 14) (.skip) (.exit 0)) (.seq (.block 1 (.seq (.reg R47_4) (.seq (.reg R47_5) (.cond (.tmp 19) (.reg R47_6) (.skip))))) (.reg R47_7)))
abbrev R47_8:List SOp:=[(some 23,.move (.tmp 5),none),
 (some 4,.assign (.tmp 23),none)]
abbrev S47:SCode:=.seq (.reg R47_0) (.seq (.reg R47_1) (.seq (.seq (.reg R47_2) (.block 0 (.loop L47_0))) (.seq (.reg R47_8) (.ret))))
theorem slim47:slimC tab 47 (Try.f47.body.getD .skip)=S47:=by kernel_rfl
theorem wf47 {xs:List V} {H:Hp} {Q:V->Hp->Prop} (h:WC tab S47 (frame xs 0 .nil) H (resQ tab [.tmp 4] Q)):WF tab 47 xs H Q:=WF.of_slim (T:=tab) (f:=47) rfl fn47 rfl slim47 rfl h
end Go.AM.YtiolgkhfpnidfaaT
namespace Go.AM.YtiolgkhfpnidfaaT
open Go Go.AM
end Go.AM.YtiolgkhfpnidfaaT
namespace Go.AM.YtiolgkhfpnidfaaT
open Go Go.AM Go.Proofs
set_option maxRecDepth 100000
abbrev R40_0:List SOp:=[(some 4,.assign (.const (.int .i64 0)),none),
 (some 5,.assign (.const (.int .i64 0)),none)]
abbrev R40_1:List SOp:=[(some 6,.move (.tmp 0),none),
 (some 7,.move (.tmp 1),none),
 (some 8,.call ⟨.value (.func 45),#[(.tmp 6),(.tmp 7)],#[30,3]⟩,none),
 (some 9,.unOp .not 4 (.tmp 8),none)]
abbrev R40_2:List SOp:=[(some 4,.assign (.const (.int .i64 0)),none),
 (some 5,.assign (.const (.int .i64 0)),none)]
abbrev R40_3:List (SOp×Nat):=[((some 10,.move (.tmp 0),none),0),
 ((some 11,.nilCheck (.tmp 10),none),0),
 ((some 12,.fieldAddr 98 (.tmp 11) 3,none),0),
 ((some 13,.load 59 (.tmp 12),none),0),
 ((some 14,.move (.tmp 1),none),0),
 ((some 15,.indexAddr 59 (.tmp 13) (.tmp 14),none),0),
 ((some 16,.load 3 (.tmp 15),none),0),
 ((some 17,.move (.tmp 0),none),0),
 ((some 18,.nilCheck (.tmp 17),none),0),
 ((some 19,.fieldAddr 98 (.tmp 18) 2,none),0),
 ((some 20,.load 59 (.tmp 19),none),0),
 ((some 21,.move (.tmp 1),none),0),
 ((some 22,.indexAddr 59 (.tmp 20) (.tmp 21),none),0),
 ((some 23,.load 3 (.tmp 22),none),0),
 ((some 24,.move (.tmp 0),none),0),
 ((some 25,.nilCheck (.tmp 24),none),0),
 ((some 26,.fieldAddr 98 (.tmp 25) 3,none),0),
 ((some 27,.load 59 (.tmp 26),none),0),
 ((some 28,.move (.tmp 1),none),0),
 ((some 29,.indexAddr 59 (.tmp 27) (.tmp 28),none),0),
 ((some 30,.load 3 (.tmp 29),none),0),
 ((some 31,.binOp .sub 3 (.tmp 23) (.tmp 30) 3,none),0),
 ((some 4,.assign (.tmp 16),none),0),
 ((some 5,.assign (.tmp 31),none),0)]
abbrev S40:SCode:=.seq (.reg R40_0) (.seq (.seq (.reg R40_1) (.cond (.tmp 9) (.seq (.reg R40_2) (.ret)) (.skip))) (.seq (.dreg R40_3) (.ret)))
theorem slim40:slimC tab 40 (Try.f40.body.getD .skip)=S40:=by kernel_rfl
theorem wf40 {xs:List V} {H:Hp} {Q:V->Hp->Prop} (h:WC tab S40 (frame xs 0 .nil) H (resQ tab [.tmp 4,.tmp 5] Q)):WF tab 40 xs H Q:=WF.of_slim (T:=tab) (f:=40) rfl fn40 rfl slim40 rfl h
abbrev R55_0:List SOp:=[(some 2,.assign (.const (.int .i64 0)),none)]
abbrev R55_1:List SOp:=[(some 3,.move (.tmp 0),none),
 (some 4,.nilCheck (.tmp 3),none),
 (some 5,.fieldAddr 98 (.tmp 4) 2,none),
 (some 6,.load 59 (.tmp 5),none),
 (some 7,.call ⟨.builtin .len,#[(.tmp 6)],#[59]⟩,none),
 (some 2,.assign (.tmp 7),none)]
abbrev S55:SCode:=.seq (.reg R55_0) (.seq (.reg R55_1) (.ret))
theorem slim55:slimC tab 55 (Try.f55.body.getD .skip)=S55:=by kernel_rfl
theorem wf55 {xs:List V} {H:Hp} {Q:V->Hp->Prop} (h:WC tab S55 (frame xs 0 .nil) H (resQ tab [.tmp 2] Q)):WF tab 55 xs H Q:=WF.of_slim (T:=tab) (f:=55) rfl fn55 rfl slim55 rfl h
abbrev R32_0:List SOp:=[(some 2,.assign (.const (.slice none 0 0)),none)]
abbrev R32_1:List SOp:=[(some 3,.assign (.const (.slice none 0 0)),none)]
abbrev R32_2:List SOp:=[(some 6,.move (.tmp 0),none),
 (some 7,.nilCheck (.tmp 6),none),
 (some 8,.fieldAddr 98 (.tmp 7) 0,none),
 (some 9,.load 95 (.tmp 8),none),
 (some 10,.call ⟨.builtin .len,#[(.tmp 9)],#[95]⟩,none),
 (some 11,.move (.const (.int .i64 0)),none)]
abbrev R32_3:List SOp:=[(some 12,.binOp .lss 3 (.tmp 11) (.tmp 10) 3,none)]
abbrev R32_4:List SOp:=[(some 13,.move (.tmp 11),none),
 (some 14,.indexAddr 95 (.tmp 9) (.tmp 11),none),
 (some 15,.load 100 (.tmp 14),none),
 (some 5,.alloc 100,none),
 (some 4,.assign (.tmp 13),none),
 (none,.store 100 (.tmp 5) (.tmp 15),none)]
abbrev R32_5:List SOp:=[(some 16,.fieldAddr 100 (.tmp 5) 1,none),
 (some 17,.load 4 (.tmp 16),none)]
abbrev R32_6:List SOp:=[(some 18,.move (.tmp 3),none),
 (some 19,.move (.tmp 4),none),
 (some 20,.convert 3 90 (.tmp 19),none),
 (some 21,.fieldAddr 100 (.tmp 5) 0,none),
 (some 22,.load 90 (.tmp 21),none),
 (some 23,.call ⟨.value (.func 41),#[(.tmp 20),(.tmp 22)],#[90,90]⟩,none),
 (some 24,.buildSlice 33 1 #[(0,(.tmp 23))],none),
 (some 25,.call ⟨.builtin .append,#[(.tmp 18),(.tmp 24)],#[33,33]⟩,none),
 (some 3,.assign (.tmp 25),none)]
abbrev R32_7:List SOp:=[(some 26,.binOp .add 3 (.tmp 11) (.const (.int .i64 1)) 3,none),
 (some 11,.move (.tmp 26),none)]
def L32_0:SCode:=.seq (.reg R32_3) (.seq (.cond (.tmp 12) (.skip) (.exit 0)) (.seq (.block 1 (.seq (.reg R32_4) (.seq (.reg R32_5) (.cond (.tmp 17) (.reg R32_6) (.skip))))) (.reg R32_7)))
abbrev R32_8:List SOp:=[(some 27,.move (.tmp 3),none),
 (some 2,.assign (.tmp 27),none)]
abbrev S32:SCode:=.seq (.reg R32_0) (.seq (.reg R32_1) (.seq (.seq (.reg R32_2) (.block 0 (.loop L32_0))) (.seq (.reg R32_8) (.ret))))
theorem slim32:slimC tab 32 (Try.f32.body.getD .skip)=S32:=by kernel_rfl
theorem wf32 {xs:List V} {H:Hp} {Q:V->Hp->Prop} (h:WC tab S32 (frame xs 0 .nil) H (resQ tab [.tmp 2] Q)):WF tab 32 xs H Q:=WF.of_slim (T:=tab) (f:=32) rfl fn32 rfl slim32 rfl h
end Go.AM.YtiolgkhfpnidfaaT
namespace Go.AM.YtiolgkhfpnidfaaT
open Go Go.AM
end Go.AM.YtiolgkhfpnidfaaT
namespace Go.AM.YtiolgkhfpnidfaaT
open Go Go.AM Go.Proofs
set_option maxRecDepth 100000
abbrev R65_0:List SOp:=[(some 4,.assign (.const (.int .i64 0)),none)]
abbrev R65_1:List SOp:=[(some 6,.move (.tmp 0),none),
 (some 7,.call ⟨.builtin .len,#[(.tmp 6)],#[33]⟩,none),
 (some 8,.move (.const (.int .i64 0)),none)]
abbrev R65_2:List SOp:=[(some 9,.binOp .lss 3 (.tmp 8) (.tmp 7) 3,none)]
abbrev R65_3:List SOp:=[(some 10,.move (.tmp 8),none),
 (some 5,.assign (.tmp 10),none)]
abbrev R65_4:List SOp:=[(some 11,.move (.tmp 1),none),
 (some 12,.move (.tmp 0),none),
 (some 13,.move (.tmp 5),none),
 (some 14,.indexAddr 33 (.tmp 12) (.tmp 13),none),
 (some 15,.load 29 (.tmp 14),none),
 (some 16,.binOp .eql 29 (.tmp 11) (.tmp 15) 29,none)]
abbrev R65_5:List SOp:=[(some 17,.move (.tmp 5),none),
 (some 4,.assign (.tmp 17),none)]
abbrev R65_6:List SOp:=[(some 18,.binOp .add 3 (.tmp 8) (.const (.int .i64 1)) 3,none),
 (some 8,.move (.tmp 18),none)]
def L65_0:SCode:=.seq (.reg R65_2) (.seq (.cond (.tmp 9) (.skip) (.exit 0)) (.seq (.block 1 (.seq (.reg R65_3) (.seq (.reg R65_4) (.cond (.tmp 16) (.seq (.reg R65_5) (.ret)) (.skip))))) (.reg R65_6)))
abbrev R65_7:List SOp:=[(some 4,.assign (.const (.int .i64 (-1))),none)]
abbrev S65:SCode:=.seq (.reg R65_0) (.seq (.seq (.reg R65_1) (.block 0 (.loop L65_0))) (.seq (.reg R65_7) (.ret)))
theorem slim65:slimC tab 65 (Try.f65.body.getD .skip)=S65:=by kernel_rfl
theorem wf65 {xs:List V} {H:Hp} {Q:V->Hp->Prop} (h:WC tab S65 (frame xs 0 .nil) H (resQ tab [.tmp 4] Q)):WF tab 65 xs H Q:=WF.of_slim (T:=tab) (f:=65) rfl fn65 rfl slim65 rfl h
abbrev R48_0:List SOp:=[(some 4,.assign (.const (.bool false)),none)]
abbrev R48_1:List SOp:=[(some 5,.move (.tmp 0),none),
 (some 6,.move (.tmp 1),none),
 (some 7,.call ⟨.value (.func 65),#[(.tmp 5),(.tmp 6)],#[33,29]⟩,none),
 (some 8,.binOp .geq 3 (.tmp 7) (.const (.int .i64 0)) 3,none),
 (some 4,.assign (.tmp 8),none)]
abbrev S48:SCode:=.seq (.reg R48_0) (.seq (.reg R48_1) (.ret))
theorem slim48:slimC tab 48 (Try.f48.body.getD .skip)=S48:=by kernel_rfl
theorem wf48 {xs:List V} {H:Hp} {Q:V->Hp->Prop} (h:WC tab S48 (frame xs 0 .nil) H (resQ tab [.tmp 4] Q)):WF tab 48 xs H Q:=WF.of_slim (T:=tab) (f:=48) rfl fn48 rfl slim48 rfl h
abbrev R51_0:List SOp:=[(some 2,.assign (.const (.slice none 0 0)),none)]
abbrev R51_1:List SOp:=[(some 3,.move (.tmp 0),none),
 (some 4,.binOp .eql 33 (.tmp 3) (.const (.slice none 0 0)) 33,none)]
abbrev R51_2:List SOp:=[(some 2,.assign (.const (.slice none 0 0)),none)]
abbrev R51_3:List SOp:=[(some 5,.buildSlice 33 0 #[],none),
 (some 6,.move (.tmp 0),none),
 (some 7,.call ⟨.builtin .append,#[(.tmp 5),(.tmp 6)],#[33,33]⟩,none),
 (some 2,.assign (.tmp 7),none)]
abbrev S51:SCode:=.seq (.reg R51_0) (.seq (.seq (.reg R51_1) (.cond (.tmp 4) (.seq (.reg R51_2) (.ret)) (.skip))) (.seq (.reg R51_3) (.ret)))
theorem slim51:slimC tab 51 (Try.f51.body.getD .skip)=S51:=by kernel_rfl
theorem wf51 {xs:List V} {H:Hp} {Q:V->Hp->Prop} (h:WC tab S51 (frame xs 0 .nil) H (resQ tab [.tmp 2] Q)):WF tab 51 xs H Q:=WF.of_slim (T:=tab) (f:=51) rfl fn51 rfl slim51 rfl h
abbrev R54_0:List SOp:=[(some 4,.assign (.const (.bool false)),none)]
abbrev R54_1:List SOp:=[(some 6,.move (.tmp 0),none),
 (some 7,.call ⟨.builtin .len,#[(.tmp 6)],#[33]⟩,none),
 (some 8,.move (.tmp 1),none),
 (some 9,.call ⟨.builtin .len,#[(.tmp 8)],#[33]⟩,none),
 (some 10,.binOp .neq 3 (.tmp 7) (.tmp 9) 3,none)]
abbrev R54_2:List SOp:=[(some 4,.assign (.const (.bool false)),none)]
abbrev R54_3:List SOp:=[(some 11,.move (.tmp 0),none),
 (some 12,.call ⟨.builtin .len,#[(.tmp 11)],#[33]⟩,none),
 (some 13,.move (.const (.int .i64 0)),none)]
abbrev R54_4:List SOp:=[(some 14,.binOp .lss 3 (.tmp 13) (.tmp 12) 3,none)]
abbrev R54_5:List SOp:=[(some 15,.move (.tmp 13),none),
 (some 5,.assign (.tmp 15),none)]
abbrev R54_6:List (SOp×Nat):=[((some 16,.move (.tmp 0),none),0),
 ((some 17,.move (.tmp 5),none),0),
 ((some 18,.indexAddr 33 (.tmp 16) (.tmp 17),none),0),
 ((some 19,.load 29 (.tmp 18),none),0),
 ((some 20,.move (.tmp 1),none),0),
 ((some 21,.move (.tmp 5),none),0),
 ((some 22,.indexAddr 33 (.tmp 20) (.tmp 21),none),0),
 ((some 23,.load 29 (.tmp 22),none),0),
 ((some 24,.binOp .neq 29 (.tmp 19) (.tmp 23) 29,none),0)]
abbrev R54_7:List SOp:=[(some 4,.assign (.const (.bool false)),none)]
abbrev R54_8:List SOp:=[(some 25,.binOp .add 3 (.tmp 13) (.const (.int .i64 1)) 3,none),
 (some 13,.move (.tmp 25),none)]
def L54_0:SCode:=.seq (.reg R54_4) (.seq (.cond (.tmp 14) (.skip) (.exit 0)) (.seq (.block 1 (.seq (.reg R54_5) (.seq (.dreg R54_6) (.cond (.tmp 24) (.seq (.reg R54_7) (.ret)) (.skip))))) (.reg R54_8)))
abbrev R54_9:List SOp:=[(some 4,.assign (.const (.bool true)),none)]
abbrev S54:SCode:=.seq (.reg R54_0) (.seq (.seq (.reg R54_1) (.cond (.tmp 10) (.seq (.reg R54_2) (.ret)) (.skip))) (.seq (.seq (.reg R54_3) (.block 0 (.loop L54_0))) (.seq (.reg R54_9) (.ret))))
theorem slim54:slimC tab 54 (Try.f54.body.getD .skip)=S54:=by kernel_rfl
theorem wf54 {xs:List V} {H:Hp} {Q:V->Hp->Prop} (h:WC tab S54 (frame xs 0 .nil) H (resQ tab [.tmp 4] Q)):WF tab 54 xs H Q:=WF.of_slim (T:=tab) (f:=54) rfl fn54 rfl slim54 rfl h
end Go.AM.YtiolgkhfpnidfaaT
namespace Go.AM.YtiolgkhfpnidfaaT
open Go Go.AM
end Go.AM.YtiolgkhfpnidfaaT
