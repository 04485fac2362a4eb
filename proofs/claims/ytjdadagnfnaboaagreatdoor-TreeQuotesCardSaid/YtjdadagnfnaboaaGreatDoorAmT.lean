/- Parts of the abstract machine and of the walks over it, joined: what the law that is claimed here leans on. -/
import Derived.Test.YtjdadagnfnaboaaGreatDoorAmX
import Derived.Test.YtjdadagnfnaboaaGreatDoorAmC2
import Derived.Test.YtjdadagnfnaboaaGreatDoorAmL
import Derived.Test.YtjdadagnfnaboaaGreatDoorAmB
/- The slim code of these functions: printed by genslim.py. -/
namespace Go.AM.YtjdadagnfnaboaaGreatDoorT
open Go Go.AM Go.Proofs
set_option maxRecDepth 100000
/-! paling/palinglaw06.TreeQuotes -/
abbrev R10_0 : List SOp := [(some 2, .assign (.const (.bool false)), none)]
abbrev R10_1 : List SOp := [(some 6, .call ⟨.value (.func 19), #[], #[]⟩, none),
  (some 7, .unOp .not 4 (.tmp 6), none)]
abbrev R10_2 : List SOp := [(some 2, .assign (.const (.bool false)), none)]
abbrev R10_3 : List SOp := [(some 8, .move (.tmp 0), none),
  (some 9, .call ⟨.builtin .len, #[(.tmp 8)], #[31]⟩, none),
  (some 10, .binOp .gtr 3 (.tmp 9) (.const (.int .i64 200)) 3, none)]
abbrev R10_4 : List SOp := [(some 2, .assign (.const (.bool true)), none)]
abbrev R10_5 : List SOp := [(some 3, .assign (.const (.string ⟨#[]⟩)), none)]
abbrev R10_6 : List SOp := [(some 11, .move (.tmp 0), none),
  (some 12, .call ⟨.builtin .len, #[(.tmp 11)], #[31]⟩, none),
  (some 13, .move (.const (.int .i64 0)), none)]
abbrev R10_7 : List SOp := [(some 14, .binOp .lss 3 (.tmp 13) (.tmp 12) 3, none)]
abbrev R10_8 : List SOp := [(some 15, .indexAddr 31 (.tmp 11) (.tmp 13), none),
  (some 16, .load 5 (.tmp 15), none),
  (some 5, .assign (.tmp 16), none)]
abbrev R10_9 : List SOp := [(some 17, .move (.tmp 5), none),
  (some 18, .binOp .rem 5 (.tmp 17) (.const (.int .u8 96)) 5, none),
  (some 19, .binOp .add 5 (.const (.int .u8 31)) (.tmp 18) 5, none),
  (some 5, .assign (.tmp 19), none)]
abbrev R10_10 : List SOp := [(some 20, .move (.tmp 5), none),
  (some 21, .binOp .eql 5 (.tmp 20) (.const (.int .u8 31)) 5, none)]
abbrev R10_11 : List SOp := [(some 5, .assign (.const (.int .u8 10)), none)]
abbrev R10_12 : List SOp := [(some 22, .move (.tmp 3), none),
  (some 23, .move (.tmp 5), none),
  (some 24, .buildSlice 31 1 #[(0, (.tmp 23))], none),
  (some 25, .convert 31 9 (.tmp 24), none),
  (some 26, .binOp .add 9 (.tmp 22) (.tmp 25) 9, none),
  (some 3, .assign (.tmp 26), none)]
abbrev R10_13 : List SOp := [(some 27, .binOp .add 3 (.tmp 13) (.const (.int .i64 1)) 3, none),
  (some 13, .move (.tmp 27), none)]
def L10_0 : SCode := .seq (.reg R10_7) (.seq (.cond (.tmp 14) (.skip) (.exit 0)) (.seq (.block 1 (.seq (.reg R10_8) (.seq (.seq (.reg R10_9) (.seq (.reg R10_10) (.cond (.tmp 21) (.reg R10_11) (.skip)))) (.reg R10_12)))) (.reg R10_13)))
abbrev R10_14 : List SOp := [(some 28, .move (.tmp 3), none),
  (some 29, .call ⟨.value (.func 26), #[(.tmp 28)], #[9]⟩, none),
  (some 30, .move (.tmp 3), none),
  (some 31, .call ⟨.value (.func 27), #[(.tmp 30)], #[9]⟩, none),
  (some 32, .binOp .eql 9 (.tmp 29) (.tmp 31) 9, none),
  (some 2, .assign (.tmp 32), none)]
abbrev S10 : SCode := .seq (.reg R10_0) (.seq (.seq (.reg R10_1) (.cond (.tmp 7) (.seq (.reg R10_2) (.ret)) (.skip))) (.seq (.seq (.reg R10_3) (.cond (.tmp 10) (.seq (.reg R10_4) (.ret)) (.skip))) (.seq (.reg R10_5) (.seq (.seq (.reg R10_6) (.block 0 (.loop L10_0))) (.seq (.reg R10_14) (.ret))))))
theorem slim10 : slimC tab 10 (Tryz.f10.body.getD .skip) = S10 := by kernel_rfl
theorem wf10 {xs : List V} {H : Hp} {Q : V → Hp → Prop} (h : WC tab S10 (frame xs 0 .nil) H (resQ tab [.tmp 2] Q)) : WF tab 10 xs H Q := WF.of_slim (T := tab) (f := 10) rfl fn10 rfl slim10 rfl h
/-! paling/tree.Quote -/
abbrev R26_0 : List SOp := [(some 2, .assign (.const (.string ⟨#[]⟩)), none)]
abbrev R26_1 : List SOp := [(some 3, .alloc 72, none)]
abbrev R26_2 : List SOp := [(some 6, .call ⟨.value (.func 48), #[(.tmp 3), (.const (.int .u8 34))], #[72, 5]⟩, none)]
abbrev R26_3 : List SOp := [(some 7, .move (.tmp 0), none),
  (some 8, .convert 9 31 (.tmp 7), none),
  (some 9, .call ⟨.builtin .len, #[(.tmp 8)], #[31]⟩, none),
  (some 10, .move (.const (.int .i64 0)), none)]
abbrev R26_4 : List SOp := [(some 11, .binOp .lss 3 (.tmp 10) (.tmp 9) 3, none)]
abbrev R26_5 : List SOp := [(some 12, .indexAddr 31 (.tmp 8) (.tmp 10), none),
  (some 13, .load 5 (.tmp 12), none),
  (some 5, .assign (.tmp 13), none)]
abbrev R26_6 : List SOp := [(some 14, .move (.tmp 5), none)]
abbrev R26_8 : List SOp := [(some 18, .binOp .eql 5 (.tmp 14) (.const (.int .u8 34)) 5, none),
  (some 17, .assign (.tmp 18), none)]
abbrev R26_9 : List SOp := [(some 19, .binOp .eql 5 (.tmp 14) (.const (.int .u8 92)) 5, none),
  (some 17, .assign (.tmp 19), none)]
abbrev R26_10 : List SOp := [(some 20, .call ⟨.value (.func 48), #[(.tmp 3), (.const (.int .u8 92))], #[72, 5]⟩, none)]
abbrev R26_11 : List SOp := [(some 21, .move (.tmp 5), none),
  (some 22, .call ⟨.value (.func 48), #[(.tmp 3), (.tmp 21)], #[72, 5]⟩, none)]
abbrev R26_12 : List SOp := [(some 24, .binOp .eql 5 (.tmp 14) (.const (.int .u8 10)) 5, none),
  (some 23, .assign (.tmp 24), none)]
abbrev R26_13 : List SOp := [(some 25, .call ⟨.value (.func 38), #[(.tmp 3), (.const (.string ⟨#[0x5c, 0x6e]⟩))], #[72, 9]⟩, none)]
abbrev R26_7 : List SOp := [(some 15, .move (.tmp 5), none),
  (some 16, .call ⟨.value (.func 48), #[(.tmp 3), (.tmp 15)], #[72, 5]⟩, none)]
abbrev R26_14 : List SOp := [(some 26, .binOp .add 3 (.tmp 10) (.const (.int .i64 1)) 3, none),
  (some 10, .move (.tmp 26), none)]
def L26_0 : SCode := .seq (.reg R26_4) (.seq (.cond (.tmp 11) (.skip) (.exit 0)) (.seq (.block 1 (.seq (.reg R26_5) (.seq (.reg R26_6) (.block 2 (.seq (.seq (.reg R26_8) (.cond (.tmp 17) (.skip) (.reg R26_9))) (.cond (.tmp 17) (.seq (.reg R26_10) (.reg R26_11)) (.seq (.reg R26_12) (.cond (.tmp 23) (.reg R26_13) (.reg R26_7))))))))) (.reg R26_14)))
abbrev R26_15 : List SOp := [(some 27, .call ⟨.value (.func 48), #[(.tmp 3), (.const (.int .u8 34))], #[72, 5]⟩, none)]
abbrev R26_16 : List SOp := [(some 28, .call ⟨.value (.func 40), #[(.tmp 3)], #[72]⟩, none),
  (some 2, .assign (.tmp 28), none)]
abbrev S26 : SCode := .seq (.reg R26_0) (.seq (.reg R26_1) (.seq (.reg R26_2) (.seq (.seq (.reg R26_3) (.block 0 (.loop L26_0))) (.seq (.reg R26_15) (.seq (.reg R26_16) (.ret))))))
theorem slim26 : slimC tab 26 (Tryz.f26.body.getD .skip) = S26 := by kernel_rfl
theorem wf26 {xs : List V} {H : Hp} {Q : V → Hp → Prop} (h : WC tab S26 (frame xs 0 .nil) H (resQ tab [.tmp 2] Q)) : WF tab 26 xs H Q := WF.of_slim (T := tab) (f := 26) rfl fn26 rfl slim26 rfl h
/-! paling/palinglaw06.quote -/
abbrev R27_0 : List SOp := [(some 2, .assign (.const (.string ⟨#[]⟩)), none)]
abbrev R27_1 : List SOp := [(some 3, .assign (.const (.string ⟨#[]⟩)), none)]
abbrev R27_2 : List SOp := [(some 6, .move (.tmp 0), none),
  (some 7, .convert 9 31 (.tmp 6), none),
  (some 8, .call ⟨.builtin .len, #[(.tmp 7)], #[31]⟩, none),
  (some 9, .move (.const (.int .i64 0)), none)]
abbrev R27_3 : List SOp := [(some 10, .binOp .lss 3 (.tmp 9) (.tmp 8) 3, none)]
abbrev R27_4 : List SOp := [(some 11, .indexAddr 31 (.tmp 7) (.tmp 9), none),
  (some 12, .load 5 (.tmp 11), none),
  (some 5, .assign (.tmp 12), none)]
abbrev R27_5 : List SOp := [(some 13, .move (.tmp 5), none)]
abbrev R27_7 : List SOp := [(some 20, .binOp .eql 5 (.tmp 13) (.const (.int .u8 10)) 5, none),
  (some 19, .assign (.tmp 20), none)]
abbrev R27_8 : List SOp := [(some 21, .move (.tmp 3), none),
  (some 22, .binOp .add 9 (.tmp 21) (.const (.string ⟨#[0x5c, 0x6e]⟩)) 9, none),
  (some 3, .assign (.tmp 22), none)]
abbrev R27_9 : List SOp := [(some 24, .binOp .eql 5 (.tmp 13) (.const (.int .u8 34)) 5, none),
  (some 23, .assign (.tmp 24), none)]
abbrev R27_10 : List SOp := [(some 25, .binOp .eql 5 (.tmp 13) (.const (.int .u8 92)) 5, none),
  (some 23, .assign (.tmp 25), none)]
abbrev R27_11 : List SOp := [(some 26, .move (.tmp 3), none),
  (some 27, .move (.tmp 5), none),
  (some 28, .buildSlice 31 1 #[(0, (.tmp 27))], none),
  (some 29, .convert 31 9 (.tmp 28), none),
  (some 30, .binOp .add 9 (.const (.string ⟨#[0x5c]⟩)) (.tmp 29) 9, none),
  (some 31, .binOp .add 9 (.tmp 26) (.tmp 30) 9, none),
  (some 3, .assign (.tmp 31), none)]
abbrev R27_6 : List SOp := [(some 14, .move (.tmp 3), none),
  (some 15, .move (.tmp 5), none),
  (some 16, .buildSlice 31 1 #[(0, (.tmp 15))], none),
  (some 17, .convert 31 9 (.tmp 16), none),
  (some 18, .binOp .add 9 (.tmp 14) (.tmp 17) 9, none),
  (some 3, .assign (.tmp 18), none)]
abbrev R27_12 : List SOp := [(some 32, .binOp .add 3 (.tmp 9) (.const (.int .i64 1)) 3, none),
  (some 9, .move (.tmp 32), none)]
def L27_0 : SCode := .seq (.reg R27_3) (.seq (.cond (.tmp 10) (.skip) (.exit 0)) (.seq (.block 1 (.seq (.reg R27_4) (.seq (.reg R27_5) (.block 2 (.seq (.reg R27_7) (.cond (.tmp 19) (.reg R27_8) (.seq (.seq (.reg R27_9) (.cond (.tmp 23) (.skip) (.reg R27_10))) (.cond (.tmp 23) (.reg R27_11) (.reg R27_6))))))))) (.reg R27_12)))
abbrev R27_13 : List SOp := [(some 33, .move (.tmp 3), none),
  (some 34, .binOp .add 9 (.const (.string ⟨#[0x22]⟩)) (.tmp 33) 9, none),
  (some 35, .binOp .add 9 (.tmp 34) (.const (.string ⟨#[0x22]⟩)) 9, none),
  (some 2, .assign (.tmp 35), none)]
abbrev S27 : SCode := .seq (.reg R27_0) (.seq (.reg R27_1) (.seq (.seq (.reg R27_2) (.block 0 (.loop L27_0))) (.seq (.reg R27_13) (.ret))))
theorem slim27 : slimC tab 27 (Tryz.f27.body.getD .skip) = S27 := by kernel_rfl
theorem wf27 {xs : List V} {H : Hp} {Q : V → Hp → Prop} (h : WC tab S27 (frame xs 0 .nil) H (resQ tab [.tmp 2] Q)) : WF tab 27 xs H Q := WF.of_slim (T := tab) (f := 27) rfl fn27 rfl slim27 rfl h
end Go.AM.YtjdadagnfnaboaaGreatDoorT
/- What simp opens in the walks of this seat: printed by genset.py. -/
namespace Go.AM.YtjdadagnfnaboaaGreatDoorT
open Go Go.AM
attribute [simp] wp_skip wp_reg wp_dreg wp_seq wp_cond wp_block wp_loop wp_exit wp_ret wpL_nil wpL_cons wpD_nil wpD_cons sq_nrm sq_exit sq_ret nm_ap bl_nrm bl_ret bl_exit cd_true cd_false lp_nrm lp_exit lp_ret rs_ret rs_nrm rsQ contL contD kV kAW kA kW kC kCo wantQ oq_p oq_r oq_w oq_c oq_alloc oq_box oq_bs oq_mm oq_ms oq_cv dV dAW dA dW dC dCo isCall skD od_p od_r od_w od_c od_alloc od_box od_bs od_mm od_ms od_cv wantDQ wantS kind convKd lenV_sl lenV_nils lenV_sle lenV_str evP evR evA evW evAW descOf frame opd opds Tr.get_set putD delD resOf getAll kbOk afterA isPt winOk ofVal binInt binStr binE_int binE_str binE_shl binE_shr binE_eql_agg binE_neq_agg binE_eql_bool binE_neq_bool binE_eql_pn binE_neq_pn binE_eql_nn binE_neq_nn binE_eql_in binE_neq_in binE_eql_ii binE_neq_ii isBoolD isPtrD isIfD isMpD isSlD isC cells_agg cells_bool one_bool cells_int one_int cells_str one_str cells_nilp one_nilp cells_ptr one_ptr cells_nils one_nils cells_sle one_sle cells_sl one_sl cells_nilm one_nilm cells_mp one_mp cells_nilf one_nilf cells_fn one_fn cells_nili one_nili cells_ifc one_ifc isAgg isMapT optI partV zeroV keyOk keyOk1 keyOkS keyOkL eqS sameL same1 sameK esOf partsV fillV placesV setCells mapKeyOk Hp.get_flush Hp.stale_flush Hp.next_flush repl List.nil_append get_new_self get_put_self get_bump next_bump st_new st_put st_bump Hp.next_new Hp.next_put flush_of IntKind.bits tab_ng nna1 nnb1 nna2 nnb2 nna3 nnb3 nna4 nnb4 nna5 nnb5 nna6 nnb6 nna7 nnb7 nna8 nnb8
attribute [simp] ty1 ty2 ty3 ty4 ty5 ty6 ty7 ty8 ty9 ty10 ty11 ty12 ty13 ty14 ty15 ty16 ty17 ty18 ty19 ty20 ty21 ty22 ty23 ty24 ty26 ty27 ty28 ty29 ty30 ty31 ty32 ty33 ty34 ty35 ty36 ty37 ty38 ty39 ty40 ty41 ty42 ty43 ty44 ty45 ty46 ty47 ty48 ty49 ty50 ty51 ty52 ty53 ty54 ty55 ty56 ty57 ty58 ty59 ty60 ty61 ty62 ty63 ty65 ty66 ty67 ty69 ty70 ty71 ty72 ty73 ty74 ty75 ty77 ty78 ty79 ty80 ty81 ty82 ty83 ty84 ty85 ty86 ty87 ty88 ty89 ty90 ty91 ty92 ty93 ty94 ty95 ty97 ty98 ty99 ty100 ty101 ty102 ty103 ty104 ty105 ty106 ty107 ty108 ty109 ty110 ty112 ty114 ty115 ty116 ty117 ty118 ty120 ty121 ty122 ty123 ty124 ty125 ty126 ty127 ty128 ty130 ty131 ty132 ty133 ty134 ty135 ty136 ty137 ty138 ty139 ty140 ty141 ty142 ty143 ty144 ty145 ty146 ty147 ty150 ty151 ty152 ty153 ty154 ty155 ty156 ty157 ty158 ty159 ty160 ty161 ty162 ty163 ty164 ty165 ty166 ty167 ty168 ty169 ty170 ty171 ty172 ty173 ty174 ty175 ty176 ty177 ty178 ty179 ty180 ty181 ty183 ty184 ty185 ty186 ty187 ty188 ty189 ty190 ty191 ty192 ty193 ty194 ty195 ty196 ty198 ty199 ty200 ty202 ty203 ty204 ty205 ty206 ty207 ty208 ty209 ty210 ty211 ty212 ty214 ty215 ty216 ty217 ty218 ty219 ty220 ty221 ty222 ty223 ty224 ty225 ty226 ty227 ty228
end Go.AM.YtjdadagnfnaboaaGreatDoorT
/- A strings.Builder beside rows that stay: WriteByte, WriteString, String. -/
set_option linter.unusedVariables false
set_option linter.unusedSimpArgs false
set_option maxRecDepth 100000
namespace Go.AM.YtjdadagnfnaboaaGreatDoorT
open Go Go.AM Go.Proofs
abbrev nK (K : Nat → Prop) : Nat → Prop := fun x => ¬ K x
/-- A Builder at row b, none of whose memory is K's: what it holds. -/
structure BldK (K : Nat → Prop) (H : Hp) (b : Nat) (l : List UInt8) : Prop where
  ex : ∃ a v, H.get b = some (.row 72 2 false [a, v]) ∧ (a = .nilp ∧ v = .nils ∨ a = .ptr b 0) ∧ SlAt H 5 1 v l.length (l.map bv) ∧ (∀ r ∈ rowsOf v, ¬ K r ∧ r < H.next ∧ r ≠ b) ∧ (l = [] → v = .nils)
  lo : ¬ K b
  hi : b < H.next
  kn : ∀ x, K x → x < H.next
theorem BldK.new {H : Hp} {K : Nat → Prop} (h : ∀ x, K x → x < H.next) : BldK K (H.new bldNew) H.next [] :=
  ⟨⟨_, _, get_new_self H _, .inl ⟨rfl, rfl⟩, .nil, fun r hr => by simp [rowsOf] at hr, fun _ => rfl⟩, fun hk => by have := h _ hk; omega, by rw [Hp.next_new]; omega, fun x hx => by rw [Hp.next_new]; have := h x hx; omega⟩
/-- One row more that stays. -/
theorem BldK.more {H : Hp} {K : Nat → Prop} {b : Nat} {l : List UInt8} (h : BldK K H b l) (o : Ob) : BldK (fun x => K x ∨ x = H.next) (H.new o) b l := by
  obtain ⟨⟨a, v, h1, h2, h3, h4, h7⟩, h5, h6, hk⟩ := h
  refine ⟨⟨a, v, by rw [get_new_ne _ (by omega)]; exact h1, h2, h3.of_get fun r hr => get_new_ne _ (by have := h4 r hr; omega), fun r hr => ?_, h7⟩, fun h => ?_, by rw [Hp.next_new]; omega, fun x hx => ?_⟩
  · have := h4 r hr
    rw [Hp.next_new]
    exact ⟨fun h => h.elim this.1 (fun e => by omega), by omega, this.2.2⟩
  · exact h.elim h5 (fun e => by omega)
  · rw [Hp.next_new]
    rcases hx with hx | hx
    · have := hk x hx; omega
    · omega
/-- Fewer rows that stay. -/
theorem BldK.less {H : Hp} {K K' : Nat → Prop} {b : Nat} {l : List UInt8} (h : BldK K H b l) (hk : ∀ x, K' x → K x) : BldK K' H b l := by
  obtain ⟨⟨a, v, h1, h2, h3, h4, h7⟩, h5, h6, h8⟩ := h
  exact ⟨⟨a, v, h1, h2, h3, fun r hr => ⟨fun h => (h4 r hr).1 (hk r h), (h4 r hr).2⟩, h7⟩, fun h => h5 (hk b h), h6, fun x hx => h8 x (hk x hx)⟩
theorem BldK.ext {X K : Nat → Prop} {H H' : Hp} {b : Nat} {l : List UInt8} (h : BldK K H b l) (hE : Ext X H H') (hX : ∀ x, x < H.next → ¬ K x → ¬ X x) : BldK K H' b l := by
  obtain ⟨⟨a, v, h1, h2, h3, h4, h7⟩, h5, h6, h8⟩ := h
  have hle := hE.le
  refine ⟨⟨a, v, by rw [hE.get b h6 (hX _ h6 h5)]; exact h1, h2, h3.of_get fun r hr => ?_, fun r hr => ?_, h7⟩, h5, by omega, fun x hx => by have := h8 x hx; omega⟩
  · have := h4 r hr
    exact hE.get r this.2.1 (hX _ this.2.1 this.1)
  · have := h4 r hr
    exact ⟨this.1, by omega, this.2.2⟩
theorem ccK {K : Nat → Prop} {H : Hp} {b : Nat} {l : List UInt8} (hs : H.stale = []) (h : BldK K H b l) {Q : V → Hp → Prop} (hq : ∀ H' v, H'.stale = [] → H'.next = H.next → BldK K H' b l → H'.get b = some (.row 72 2 false [.ptr b 0, v]) → SlAt H' 5 1 v l.length (l.map bv) → (∀ r ∈ rowsOf v, ¬ K r ∧ r < H'.next ∧ r ≠ b) → (l = [] → v = .nils) → Ext (nK K) H H' → Q (.tup []) H') : WF tab 68 [.ptr b 0] H Q := by
  obtain ⟨⟨a, v, h1, h2, h3, h4, h7⟩, h5, h6, h8⟩ := h
  rcases h2 with ⟨rfl, rfl⟩ | rfl
  · refine wf_told (f := 68) rfl fn68 rfl (H' := H.put b (.row 72 2 false [.ptr b 0, .nils])) (v := .tup []) ?_ ?_
    · simp [ccE, hs, h1]
    · refine hq _ .nils hs rfl ⟨⟨_, _, get_put_self _ _ _, .inr rfl, ?_, ?_, h7⟩, h5, h6, h8⟩ (get_put_self _ _ _) ?_ ?_ h7 (Ext.put hs _ h5)
      · exact h3.of_get fun r hr => by simp [rowsOf] at hr
      · exact fun r hr => by simp [rowsOf] at hr
      · exact h3.of_get fun r hr => by simp [rowsOf] at hr
      · exact fun r hr => by simp [rowsOf] at hr
  · refine wf_told (f := 68) rfl fn68 rfl (H' := H) (v := .tup []) ?_ ?_
    · simp [ccE, hs, h1]
    · exact hq _ v hs rfl ⟨⟨_, _, h1, .inr rfl, h3, h4, h7⟩, h5, h6, h8⟩ h1 h3 h4 h7 (Ext.refl hs)
theorem app_tail {K : Nat → Prop} {H H1 H2 : Hp} {b n : Nat} {v s' : V} {l : List UInt8} (s1 : H1.stale = []) (n1 : H1.next = H.next) (hb : b < H.next) (hkb : ¬ K b) (hk : ∀ x, K x → x < H.next) (g1 : H1.get b = some (.row 72 2 false [.ptr b 0, v]))
    (r1 : ∀ r ∈ rowsOf v, ¬ K r ∧ r < H1.next ∧ r ≠ b) (e1 : Ext (nK K) H H1) (hS : SlAt H2 5 1 s' n (l.map bv)) (hn : n = l.length) (hl : l ≠ []) (hA : AppR H1 v H2 s') :
    H2.flush.get b = some (.row 72 2 false [.ptr b 0, v]) ∧ BldK K (H2.flush.put b (.row 72 2 false [.ptr b 0, s'])) b l ∧ Ext (nK K) H (H2.flush.put b (.row 72 2 false [.ptr b 0, s'])) := by
  subst hn
  obtain ⟨k1, k2, k3, k4, k5⟩ := app_flush s1 hS hA
  have gb : H2.flush.get b = some (.row 72 2 false [.ptr b 0, v]) := by
    rw [k2 b (by omega) (fun hr => (r1 b hr).2.2 rfl)]; exact g1
  have hrb : ∀ r ∈ rowsOf s', r ≠ b := fun r hr e => by
    rcases (k5 r hr).2 with h1 | h1
    · exact (r1 r h1).2.2 e
    · omega
  refine ⟨gb, ⟨⟨_, _, get_put_self _ _ _, .inr rfl, ?_, fun r hr => ?_, fun h => absurd h hl⟩, hkb, by show b < H2.flush.next; omega, fun x hx => by show x < H2.flush.next; have := hk x hx; omega⟩, ?_⟩
  · exact k1.of_get (H' := H2.flush.put b (.row 72 2 false [.ptr b 0, s'])) fun r hr => get_put_ne _ (hrb r hr)
  · have h1 := k5 r hr
    refine ⟨fun hkr => ?_, h1.1, hrb r hr⟩
    rcases h1.2 with h2 | h2
    · exact (r1 r h2).1 hkr
    · have := hk r hkr; omega
  · refine ⟨k3, by show H.next ≤ H2.flush.next; omega, fun x hx hn => ?_⟩
    have hKx : K x := Classical.not_not.1 hn
    rw [get_put_ne _ (fun e => hkb (by rw [← e]; exact hKx)), k2 x (by omega) (fun hr => (r1 x hr).1 hKx)]
    exact e1.get x hx hn
theorem wbK {K : Nat → Prop} {H : Hp} {b : Nat} {l : List UInt8} (hs : H.stale = []) (h : BldK K H b l) (c : UInt8) (hl : l.length < 1000000000) : WF tab 48 [.ptr b 0, bv c] H fun v H' => BldK K H' b (l ++ [c]) ∧ Ext (nK K) H H' := by
  refine wf48 (wp_sound _ ?_)
  simp [hs]
  refine ccK hs h ?_
  intro H1 v s1 n1 hb1 g1 a1 r1 z1 e1
  simp [s1, g1]
  refine wpL_app1 (e0 := 5) (cells := [bv c]) (by simp [descOf]) ty5 (by decide) (by simp) (by simp) a1 (fun r hr => ⟨(r1 r hr).2.1, by simp [s1]⟩) rfl (by simp; omega) (by omega) (by simp [s1]) fun s' H2 hS hA => ?_
  have hS' : SlAt H2 5 1 s' (l.length + 1) ((l ++ [c]).map bv) := by simpa using hS
  obtain ⟨gb, q1, q2⟩ := app_tail s1 n1 h.hi h.lo h.kn g1 r1 e1 hS' (by simp) (by simp) hA
  have c1 := hS.cells
  have c2 := hS.one
  simp [gb, c1, c2]
  exact ⟨q1, q2⟩
theorem wpL_app0 {T : Tab} {t t' e : TypeId} {i : TI} {xs ys : Operand} {F : Fr} {H : Hp} {s x : V} {n : Nat} {news l : List V} {d : Option Tmp} {r : List SOp} {Q : PL} (hd : descOf T t = some (.slice e)) (hi : T.ty e = some i) (hx : opd T.ng F xs = some s) (hy : opd T.ng F ys = some x)
    (hs : SlAt H e i.size s n l) (ht : takeX T H.get t t' e i.size x = some (0, news)) (h : wpL T r (putD F d s) H Q) : opQ T (.call ⟨.builtin .append, #[xs, ys], #[t, t']⟩) d r F H Q .a := by
  have ho : opds T.ng F (#[xs, ys] : Array Operand).toList = some [s, x] := by simp only [opds, hx, hy]
  have he : evA T (.call ⟨.builtin .append, #[xs, ys], #[t, t']⟩) F H.get H.next = some (s, none, none) := by
    cases hs <;> simp only [evA, ho, hd, hi, ht]
  show kA T _ d r F H Q (evA T (.call ⟨.builtin .append, #[xs, ys], #[t, t']⟩) F H.get H.next)
  rw [he]
  exact ⟨rfl, h⟩
theorem wsK {K : Nat → Prop} {H : Hp} {b : Nat} {l : List UInt8} (hs : H.stale = []) (h : BldK K H b l) (x : List UInt8) (hl : l.length + x.length < 1000000000) : WF tab 38 [.ptr b 0, .str x] H fun v H' => BldK K H' b (l ++ x) ∧ Ext (nK K) H H' := by
  refine wf38 (wp_sound _ ?_)
  simp [hs]
  refine ccK hs h ?_
  intro H1 v s1 n1 hb1 g1 a1 r1 z1 e1
  simp [s1, g1]
  have htk : takeX tab H1.get 31 9 5 1 (.str x) = some (x.length, x.map fun b => .int .u8 b.toNat) := takeX_str (by decide) (by simp [descOf]) (by simp [descOf])
  by_cases hx : x = []
  · subst hx
    refine wpL_app0 (by simp [descOf]) ty5 (by simp) (by simp) a1 htk ?_
    have c1 := a1.cells
    have c2 := a1.one
    simp [s1, g1, c1, c2]
    obtain ⟨⟨a, v', q1, q2, q3, q4, q7⟩, q5, q6, q8⟩ := hb1
    rw [g1] at q1
    cases q1
    have hg : ∀ r, (H1.put b (.row 72 2 false [.ptr b 0, v])).get r = H1.get r := fun r => by
      by_cases e : r = b
      · subst e; rw [get_put_self, g1]
      · exact get_put_ne _ e
    refine ⟨⟨⟨_, _, get_put_self _ _ _, .inr rfl, a1.of_get fun r _ => hg r, r1, z1⟩, q5, q6, q8⟩, ⟨s1, by show H.next ≤ H1.next; omega, fun x hx hn => ?_⟩⟩
    rw [hg]; exact e1.get x hx hn
  · have hpos : 0 < x.length := List.length_pos_iff.2 hx
    refine wpL_appX (m := x.length) (by simp [descOf]) ty5 (by decide) (by simp) (by simp) a1 (fun r hr => ⟨(r1 r hr).2.1, by simp [s1]⟩) htk hpos (by simp) (by simp; omega) (by omega) (fun b hb => by simp [rowsOf] at hb) (by simp [s1]) fun s' H2 hS hA => ?_
    have hS' : SlAt H2 5 1 s' (l.length + x.length) ((l ++ x).map bv) := by
      have : (l ++ x).map bv = l.map bv ++ x.map fun b => V.int .u8 b.toNat := by simp [bv]
      rw [this]; exact hS
    obtain ⟨gb, q1, q2⟩ := app_tail s1 n1 h.hi h.lo h.kn g1 r1 e1 hS' (by simp) (by simp [hx]) hA
    have c1 := hS.cells
    have c2 := hS.one
    simp [gb, c1, c2]
    exact ⟨q1, q2⟩
theorem stK {K : Nat → Prop} {H : Hp} {b : Nat} {l : List UInt8} (hs : H.stale = []) (h : BldK K H b l) (hl : l.length < 1000000000) : WF tab 40 [.ptr b 0] H fun v H' => v = .str l ∧ Ext (nK K) H H' := by
  obtain ⟨⟨a, v, h1, h2, h3, h4, h7⟩, h5, h6, h8⟩ := h
  generalize hn : l.length = n at h3
  generalize hc : l.map bv = cs0 at h3
  cases h3 with
  | nil =>
    have : l = [] := by simpa using hc
    subst this
    exact wf_told (f := 40) rfl fn40 rfl (H' := H) (v := .str []) (by simp [strE, hs, h1]) ⟨rfl, Ext.refl hs⟩
  | row r n cs hg hle =>
    cases n with
    | zero =>
      have : l = [] := List.eq_nil_of_length_eq_zero hn
      have := h7 this
      cases this
    | succ n =>
      have hr := h4 r (by simp [rowsOf])
      rw [Nat.mul_one] at hc hle
      refine wf_told (f := 40) rfl fn40 rfl (H' := H.put r (.row 5 1 true cs)) (v := .str l) ?_ ⟨rfl, Ext.put hs _ hr.1⟩
      have e1 := bytesOf_bv l
      have e2 := byteV_bv l
      rw [hc] at e1 e2
      have e3 : n + 1 ≤ 9223372036854775807 := by omega
      simp only [strE, hs, h1, hg, hle, e1, e2, e3]
      simp
end Go.AM.YtjdadagnfnaboaaGreatDoorT
/- TreeQuotes. -/
set_option linter.unusedVariables false
set_option linter.unusedSimpArgs false
set_option maxRecDepth 100000
namespace Go.AM.YtjdadagnfnaboaaGreatDoorT
open Go Go.AM Go.Proofs
def qL (c : UInt8) : List UInt8 := if c = 34 ∨ c = 92 then [92, c] else if c = 10 then [92, 110] else [c]
theorem qL_len (c : UInt8) : (qL c).length ≤ 2 := by unfold qL; split; · simp
                                                     split <;> simp
theorem qflat_len : ∀ l : List UInt8, (l.flatMap qL).length ≤ 2 * l.length
  | [] => by simp
  | c :: r => by
    have := qflat_len r
    have := qL_len c
    simp only [List.flatMap_cons, List.length_append, List.length_cons]
    omega
def quoteL (s : List UInt8) : List UInt8 := 34 :: (s.flatMap qL ++ [34])
theorem Ext.nk {K : Nat → Prop} {H H1 H2 : Hp} (h : Ext noX H H1) (h2 : Ext (nK K) H1 H2) (hk : ∀ x, x < H.next → K x) : Ext noX H H2 :=
  ⟨h2.st, Nat.le_trans h.le h2.le, fun b hb hx => by rw [h2.get b (Nat.lt_of_lt_of_le hb h.le) (fun hn => hn (hk b hb))]; exact h.get b hb hx⟩
def I26 (s : List UInt8) (H0 : Hp) (b r : Nat) (m : Nat) (F : Fr) (H : Hp) : Prop :=
  ∃ i : Nat, i + m = s.length ∧ Ext noX H0 H ∧ r < H.next ∧ H.get r = some (.row 5 1 false (s.map bv)) ∧ BldK (fun x => x < H0.next ∨ x = r) H b (34 :: (s.take i).flatMap qL) ∧
    F.get 3 = some (.ptr b 0) ∧ F.get 8 = some (.sl r 0 s.length none 1) ∧ F.get 9 = some (.int .i64 s.length) ∧ F.get 10 = some (.int .i64 i)
theorem quote26 {H : Hp} (hs : H.stale = []) (s : List UInt8) (hl : s.length < 100000000) : WF tab 26 [.str s] H fun v H' => v = .str (quoteL s) ∧ Ext noX H H' := by
  refine wf26 (wp_sound _ ?_)
  simp [hs]
  have hb0 : BldK (fun x => x < H.next) (H.new bldNew) H.next [] := BldK.new fun x h => h
  have e0 : Ext noX H (H.new bldNew) := Ext.new hs _
  refine (wbK (b := H.next) e0.st hb0 34 (by simp)).mono ?_
  rintro v H1 ⟨b1, x1⟩
  have e1 := Ext.nk e0 x1 fun x h => h
  simp [e1.st]
  obtain ⟨r, hr⟩ : ∃ r, r = H1.next := ⟨_, rfl⟩
  have b2 := b1.more (.row 5 1 false (s.map bv))
  have e2 : Ext noX H (H1.new (.row 5 1 false (s.map bv))) := e1.newge _
  have gr : (H1.new (.row 5 1 false (s.map bv))).get r = some (.row 5 1 false (s.map bv)) := by rw [hr]; exact get_new_self _ _
  rw [← hr] at b2 ⊢
  have hrl : r < (H1.new (.row 5 1 false (s.map bv))).next := by rw [Hp.next_new]; omega
  have hlow : ∀ x, x < H.next → (x < H.next ∨ x = r) := fun x hx => .inl hx
  generalize hH2 : H1.new (.row 5 1 false (s.map bv)) = H2 at b2 e2 gr hrl
  clear hr
  refine loop_of (I26 s H H.next r) (m := s.length) ⟨0, by omega, e2, hrl, gr, by simpa using b2, by simp, by simp, by simp, by simp⟩ ?_
  rintro m F H' ⟨i, hi, hE, hrn, hg, hB, f3, f8, f9, f10⟩
  have hst := hE.st
  have hql := qflat_len (s.take i)
  have hti : (s.take i).length ≤ s.length := by rw [List.length_take]; omega
  by_cases hlt : i < s.length
  · have hlt' : (i : Int) < (s.length : Int) := by omega
    have hw := wr_succ (show i < 1000000000 by omega)
    have htk : s.take (i + 1) = s.take i ++ [s[i]] := by rw [List.take_add_one, List.getElem?_eq_getElem hlt]; rfl
    have next : ∀ (F' : Fr) (H2 : Hp), Ext noX H H2 → r < H2.next → H2.get r = some (.row 5 1 false (s.map bv)) → BldK (fun x => x < H.next ∨ x = r) H2 H.next (34 :: (s.take i).flatMap qL ++ qL s[i]) → F'.get 3 = some (.ptr H.next 0) → F'.get 8 = some (.sl r 0 s.length none 1) → F'.get 9 = some (.int .i64 s.length) → F'.get 10 = some (.int .i64 ((i + 1 : Nat) : Int)) → ∃ m', m' < m ∧ I26 s H H.next r m' F' H2 := fun F' H2 q1 q2 q3 q4 q5 q6 q7 q8 =>
      ⟨m - 1, by omega, i + 1, by omega, q1, q2, q3, by rw [htk, List.flatMap_append]; simpa using q4, q5, q6, q7, q8⟩
    have hbl : (34 :: (s.take i).flatMap qL).length < 900000000 := by simp only [List.length_cons]; omega
    generalize (34 :: (s.take i).flatMap qL) = acc at *
    generalize hc : s[i] = c at *
    have keep : ∀ H2 : Hp, Ext (nK fun x => x < H.next ∨ x = r) H' H2 → Ext noX H H2 ∧ r < H2.next ∧ H2.get r = some (.row 5 1 false (s.map bv)) := fun H2 h => ⟨Ext.nk hE h hlow, Nat.lt_of_lt_of_le hrn h.le, by rw [h.get r hrn (fun hn => hn (.inr rfl))]; exact hg⟩
    by_cases h34 : c = 34 ∨ c = 92
    · have hq : qL c = [92, c] := by simp [qL, h34]
      rw [hq] at next
      have hk : ((c.toNat : Int) == 34) = true ∨ ((c.toNat : Int) == 34) = false ∧ ((c.toNat : Int) == 92) = true := by
        rcases h34 with rfl | rfl
        · exact .inl rfl
        · exact .inr ⟨rfl, rfl⟩
      rcases hk with k1 | ⟨k1, k2⟩
      all_goals
        first | simp [L26_0, f3, f8, f9, f10, hlt, hlt', hst, hg, hc, hw, k1, k2] | simp [L26_0, f3, f8, f9, f10, hlt, hlt', hst, hg, hc, hw, k1]
        refine (wbK hst hB 92 (by omega)).mono ?_
        rintro v H3 ⟨b3, x3⟩
        obtain ⟨y1, y2, y3⟩ := keep _ x3
        simp [y1.st, f3]
        refine (wbK y1.st b3 c (by simp; omega)).mono ?_
        rintro v H4 ⟨b4, x4⟩
        obtain ⟨z1, z2, z3⟩ := keep _ (x3.trans x4)
        simp [z1.st, f10, hw]
        exact next _ _ z1 z2 z3 (by simpa using b4) (by simp [f3]) (by simp [f8]) (by simp [f9]) (by simp)
    · have k1 : ((c.toNat : Int) == 34) = false := beq_false_of_ne (by have := ne_u8 (fun e => h34 (.inl e)); simp at this; omega)
      have k2 : ((c.toNat : Int) == 92) = false := beq_false_of_ne (by have := ne_u8 (fun e => h34 (.inr e)); simp at this; omega)
      by_cases h10 : c = 10
      · have hq : qL c = [92, 110] := by simp [qL, h10]
        rw [hq] at next
        have k3 : ((c.toNat : Int) == 10) = true := by rw [h10]; rfl
        simp [L26_0, f3, f8, f9, f10, hlt, hlt', hst, hg, hc, hw, k1, k2, k3]
        refine (wsK hst hB [92, 110] (by simp; omega)).mono ?_
        rintro v H3 ⟨b3, x3⟩
        obtain ⟨y1, y2, y3⟩ := keep _ x3
        simp [y1.st, f10, hw]
        exact next _ _ y1 y2 y3 b3 (by simp [f3]) (by simp [f8]) (by simp [f9]) (by simp)
      · have hq : qL c = [c] := by simp [qL, h34, h10]
        rw [hq] at next
        have k3 : ((c.toNat : Int) == 10) = false := beq_false_of_ne (by have := ne_u8 h10; simp at this; omega)
        simp [L26_0, f3, f8, f9, f10, hlt, hlt', hst, hg, hc, hw, k1, k2, k3]
        refine (wbK hst hB c (by omega)).mono ?_
        rintro v H3 ⟨b3, x3⟩
        obtain ⟨y1, y2, y3⟩ := keep _ x3
        simp [y1.st, f10, hw]
        exact next _ _ y1 y2 y3 b3 (by simp [f3]) (by simp [f8]) (by simp [f9]) (by simp)
  · have hlt' : ¬ (i : Int) < (s.length : Int) := by omega
    have : i = s.length := by omega
    subst this
    rw [List.take_length] at hB
    have hql := qflat_len s
    simp [L26_0, f3, f8, f9, f10, hlt', hst]
    refine (wbK hst hB 34 (by simp only [List.length_cons]; omega)).mono ?_
    rintro v H3 ⟨b3, x3⟩
    have y1 := Ext.nk hE x3 hlow
    simp [y1.st, f3]
    refine (stK y1.st b3 (by simp only [List.length_cons, List.length_append, List.length_nil]; omega)).mono ?_
    rintro v H4 ⟨rfl, x4⟩
    have z1 := Ext.nk y1 x4 hlow
    simp [z1.st, quoteL]
    exact z1
theorem bytesR_new1 (H : Hp) (e : TypeId) {x : V} {c : UInt8} (h : bytesOf [x] = some [c]) : bytesR (H.new (.row e 1 false [x])).get (.sl H.next 0 1 none 1) = some [c] := by
  simp only [bytesR, get_new_self]; simpa using h
def I27 (s : List UInt8) (H0 : Hp) (r : Nat) (m : Nat) (F : Fr) (H : Hp) : Prop :=
  ∃ i : Nat, i + m = s.length ∧ Ext noX H0 H ∧ r < H0.next ∧ H0.get r = some (.row 5 1 false (s.map bv)) ∧
    F.get 3 = some (.str ((s.take i).flatMap qL)) ∧ F.get 7 = some (.sl r 0 s.length none 1) ∧ F.get 8 = some (.int .i64 s.length) ∧ F.get 9 = some (.int .i64 i)
theorem quote27 {H : Hp} (hs : H.stale = []) (s : List UInt8) (hl : s.length < 100000000) : WF tab 27 [.str s] H fun v H' => v = .str (quoteL s) ∧ Ext noX H H' := by
  refine wf27 (wp_sound _ ?_)
  simp [hs]
  have e2 : Ext noX H (H.new (.row 5 1 false (s.map bv))) := Ext.new hs _
  refine loop_of (I27 s (H.new (.row 5 1 false (s.map bv))) H.next) (m := s.length) ⟨0, by omega, Ext.refl e2.st, by rw [Hp.next_new]; omega, get_new_self _ _, by simp, by simp, by simp, by simp⟩ ?_
  rintro m F H' ⟨i, hi, hE, hrn, hg0, f3, f7, f8, f9⟩
  have hst := hE.st
  have hg := hE.keep hrn hg0
  have hql := qflat_len (s.take i)
  have hti : (s.take i).length ≤ s.length := by rw [List.length_take]; omega
  by_cases hlt : i < s.length
  · have hlt' : (i : Int) < (s.length : Int) := by omega
    have hw := wr_succ (show i < 1000000000 by omega)
    have htk : s.take (i + 1) = s.take i ++ [s[i]] := by rw [List.take_add_one, List.getElem?_eq_getElem hlt]; rfl
    have next : ∀ (F' : Fr) (H2 : Hp), Ext noX H' H2 → F'.get 3 = some (.str ((s.take i).flatMap qL ++ qL s[i])) → F'.get 7 = some (.sl H.next 0 s.length none 1) → F'.get 8 = some (.int .i64 s.length) → F'.get 9 = some (.int .i64 ((i + 1 : Nat) : Int)) → ∃ m', m' < m ∧ I27 s (H.new (.row 5 1 false (s.map bv))) H.next m' F' H2 := fun F' H2 q1 q5 q6 q7 q8 =>
      ⟨m - 1, by omega, i + 1, by omega, hE.trans q1, hrn, hg0, by rw [htk, List.flatMap_append]; simpa using q5, q6, q7, q8⟩
    have hbl : ((s.take i).flatMap qL).length < 900000000 := by omega
    generalize ((s.take i).flatMap qL) = acc at *
    generalize hc : s[i] = c at *
    have c1 : acc.length ≤ 9223372036854775806 := by omega
    have c2 : acc.length ≤ 9223372036854775805 := by omega
    have gn : ∀ o : Ob, (H'.new o).get H'.next = some o := fun o => get_new_self _ _
    have bo : bytesR (H'.new (.row 5 1 false [V.int .u8 (c.toNat : Int)])).get (.sl H'.next 0 1 none 1) = some [c] := bytesR_new1 H' 5 (bytesOf_bv [c])
    by_cases h10 : c = 10
    · have hq : qL c = [92, 110] := by simp [qL, h10]
      rw [hq] at next
      have k3 : ((c.toNat : Int) == 10) = true := by rw [h10]; rfl
      simp [L27_0, f3, f7, f8, f9, hlt, hlt', hst, hg, hc, hw, k3, c1, c2]
      exact next _ _ (Ext.refl hst) (by simp) (by simp [f7]) (by simp [f8]) (by simp)
    · have k3 : ((c.toNat : Int) == 10) = false := beq_false_of_ne (by have := ne_u8 h10; simp at this; omega)
      by_cases h34 : c = 34 ∨ c = 92
      · have hq : qL c = [92, c] := by simp [qL, h34]
        rw [hq] at next
        have hk : ((c.toNat : Int) == 34) = true ∨ ((c.toNat : Int) == 34) = false ∧ ((c.toNat : Int) == 92) = true := by
          rcases h34 with rfl | rfl
          · exact .inl rfl
          · exact .inr ⟨rfl, rfl⟩
        rcases hk with k1 | ⟨k1, k2⟩
        all_goals
          first | simp [L27_0, f3, f7, f8, f9, hlt, hlt', hst, hg, hc, hw, k1, k2, k3, gn, bo, c1, c2] | simp [L27_0, f3, f7, f8, f9, hlt, hlt', hst, hg, hc, hw, k1, k3, gn, bo, c1, c2]
          exact next _ _ (Ext.new hst _) (by simp) (by simp [f7]) (by simp [f8]) (by simp)
      · have k1 : ((c.toNat : Int) == 34) = false := beq_false_of_ne (by have := ne_u8 (fun e => h34 (.inl e)); simp at this; omega)
        have k2 : ((c.toNat : Int) == 92) = false := beq_false_of_ne (by have := ne_u8 (fun e => h34 (.inr e)); simp at this; omega)
        have hq : qL c = [c] := by simp [qL, h34, h10]
        rw [hq] at next
        simp [L27_0, f3, f7, f8, f9, hlt, hlt', hst, hg, hc, hw, k1, k2, k3, gn, bo, c1, c2]
        exact next _ _ (Ext.new hst _) (by simp) (by simp [f7]) (by simp [f8]) (by simp)
  · have hlt' : ¬ (i : Int) < (s.length : Int) := by omega
    have : i = s.length := by omega
    subst this
    rw [List.take_length] at f3
    have hql := qflat_len s
    have c1 : 1 + (s.flatMap qL).length ≤ 9223372036854775807 := by omega
    have c2 : (s.flatMap qL).length + 1 ≤ 9223372036854775806 := by omega
    generalize hq : s.flatMap qL = Q at *
    have c3 : Q.length ≤ 9223372036854775806 := by omega
    have c4 : Q.length ≤ 9223372036854775805 := by omega
    simp [L27_0, f3, f7, f8, f9, hlt', hst, c1, c2, c3, c4, quoteL, hq]
    exact e2.trans hE
def uOf (c : UInt8) : UInt8 := if c.toNat % 96 = 0 then 10 else UInt8.ofNat (31 + c.toNat % 96)
def I10 (v : V) (l : List UInt8) (H1 : Hp) (m : Nat) (F : Fr) (H : Hp) : Prop :=
  ∃ i : Nat, i + m = l.length ∧ Ext noX H1 H ∧ F.get 3 = some (.str ((l.take i).map uOf)) ∧ F.get 11 = some v ∧ F.get 12 = some (.int .i64 l.length) ∧ F.get 13 = some (.int .i64 i)
theorem treeQuotes10 (H0 : Hp) (hA : WF tab 19 [] H0 fun v H' => v = .bool true ∧ Ext noX H0 H') (hs : H0.stale = []) (v : V) (l : List UInt8) (hb : BytesIn H0 v l) : WF tab 10 [v] H0 fun w H' => w = .bool true := by
  refine wf10 (wp_sound _ ?_)
  simp [hs]
  refine hA.mono ?_
  rintro w H1 ⟨rfl, e1⟩
  have s1 := e1.st
  have hb1 := hb.ext e1
  have hlen := hb1.len 5
  by_cases h200 : 200 < l.length
  · have h' : 200 < (l.length : Int) := by omega
    simp [s1, hlen, h200, h']
  · have h' : ¬ 200 < (l.length : Int) := by omega
    simp [s1, hlen, h200, h']
    refine loop_of (I10 v l H1) (m := l.length) ⟨0, by omega, Ext.refl s1, by simp, by simp, by simp, by simp⟩ ?_
    rintro m F H ⟨i, hi, hE, f3, f11, f12, f13⟩
    have hst := hE.st
    have hb2 := hb1.ext hE
    by_cases hlt : i < l.length
    · have hlt' : (i : Int) < (l.length : Int) := by omega
      have hw := wr_succ (show i < 1000000000 by omega)
      rcases hb2 with ⟨rfl, rfl⟩ | ⟨rfl, rfl⟩ | ⟨b, e, rfl, hbn, hg⟩
      · simp at hlt
      · simp at hlt
      have htk : l.take (i + 1) = l.take i ++ [l[i]] := by rw [List.take_add_one, List.getElem?_eq_getElem hlt]; rfl
      have big1 : ((l.take i).map uOf).length ≤ 200 := by rw [List.length_map, List.length_take]; omega
      have next : ∀ (F' : Fr) (H2 : Hp), Ext noX H H2 → F'.get 3 = some (.str ((l.take i).map uOf ++ [uOf l[i]])) → F'.get 11 = some (.sl b 0 l.length none 1) → F'.get 12 = some (.int .i64 l.length) → F'.get 13 = some (.int .i64 ((i + 1 : Nat) : Int)) → ∃ m', m' < m ∧ I10 (.sl b 0 l.length none 1) l H1 m' F' H2 := fun F' H2 a0 a1 a2 a3 a4 =>
        ⟨m - 1, by omega, i + 1, by omega, hE.trans a0, by rw [a1, htk, List.map_append]; rfl, a2, a3, a4⟩
      generalize (l.take i).map uOf = wt at *
      have c1 : wt.length ≤ 9223372036854775806 := by omega
      have ht : ((l[i].toNat : Int)).tmod 96 = ((l[i].toNat % 96 : Nat) : Int) := by rw [Int.tmod_eq_emod_of_nonneg (by omega)]; omega
      have hw1 : wr .u8 (31 + (l[i].toNat : Int) % 96) = ((31 + l[i].toNat % 96 : Nat) : Int) := by rw [wr_u8 (by omega) (by omega)]; omega
      have hkk : l[i].toNat % 96 < 96 := Nat.mod_lt _ (by omega)
      have gn : ∀ o : Ob, (H.new o).get H.next = some o := fun o => get_new_self _ _
      by_cases k0 : l[i].toNat % 96 = 0
      · have hu : uOf l[i] = 10 := by simp [uOf, k0]
        rw [hu] at next
        have bo : bytesR (H.new (.row 5 1 false [V.int .u8 10])).get (.sl H.next 0 1 none 1) = some [10] := bytesR_new1 H 5 rfl
        have k0' : (l[i].toNat : Int) % 96 = 0 := by omega
        have hw2 : wr .u8 31 = 31 := rfl
        simp [L10_0, f3, f11, f12, f13, hlt, hlt', hst, hg, ht, hw, hw1, hw2, k0, k0', gn, bo, c1]
        exact next _ _ (Ext.new hst _) (by simp) (by simp [f11]) (by simp [f12]) (by simp)
      · have hu : uOf l[i] = UInt8.ofNat (31 + l[i].toNat % 96) := by simp [uOf, k0]
        rw [hu] at next
        have e : (UInt8.ofNat (31 + l[i].toNat % 96)).toNat = 31 + l[i].toNat % 96 := by rw [UInt8.toNat_ofNat']; omega
        have bo : bytesR (H.new (.row 5 1 false [V.int .u8 ((31 + l[i].toNat % 96 : Nat) : Int)])).get (.sl H.next 0 1 none 1) = some [UInt8.ofNat (31 + l[i].toNat % 96)] := by
          refine bytesR_new1 H 5 ?_
          have := bytesOf_bv [UInt8.ofNat (31 + l[i].toNat % 96)]
          rw [← this]
          simp only [List.map_cons, List.map_nil, bv, e]
        have n31 : (((31 + l[i].toNat % 96 : Nat) : Int) == 31) = false := beq_false_of_ne (by omega)
        generalize hK : 31 + l[i].toNat % 96 = K at *
        simp [L10_0, f3, f11, f12, f13, hlt, hlt', hst, hg, ht, hw, hw1, n31, gn, bo, c1]
        exact next _ _ (Ext.new hst _) (by simp) (by simp [f11]) (by simp [f12]) (by simp)
    · have hlt' : ¬ (i : Int) < (l.length : Int) := by omega
      have : i = l.length := by omega
      subst this
      rw [List.take_length] at f3
      have hl' : (l.map uOf).length < 100000000 := by rw [List.length_map]; omega
      generalize l.map uOf = s at *
      simp [L10_0, f3, f11, f12, f13, hlt', hst]
      refine (quote26 hst s hl').mono ?_
      rintro v H3 ⟨rfl, e3⟩
      simp [e3.st, f3]
      refine (quote27 e3.st s hl').mono ?_
      rintro v H4 ⟨rfl, e4⟩
      simp [e4.st]
end Go.AM.YtjdadagnfnaboaaGreatDoorT
