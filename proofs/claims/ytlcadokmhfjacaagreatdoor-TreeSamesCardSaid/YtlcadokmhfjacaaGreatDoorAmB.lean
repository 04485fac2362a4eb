/- Parts of the abstract machine and of the walks over it, joined: what the law that is claimed here leans on. -/
import Derived.Test.YtlcadokmhfjacaaGreatDoorAmX
import Derived.Test.YtlcadokmhfjacaaGreatDoorAmC2
import Derived.Test.YtlcadokmhfjacaaGreatDoorAmC3
import Derived.Test.YtlcadokmhfjacaaGreatDoorAmL
/- The slim code of these functions: printed by genslim.py. -/
namespace Go.AM.YtlcadokmhfjacaaGreatDoorT
open Go Go.AM Go.Proofs
set_option maxRecDepth 100000
/-! (*strings.Builder).WriteByte -/
abbrev R91_0 : List SOp := [(some 4, .assign (.const (.nilIface)), none)]
abbrev R91_1 : List SOp := [(some 5, .move (.tmp 0), none),
  (some 6, .call ⟨.value (.func 68), #[(.tmp 5)], #[68]⟩, none)]
abbrev R91_2 : List SOp := [(some 7, .move (.tmp 0), none),
  (some 8, .move (.tmp 0), none),
  (some 9, .nilCheck (.tmp 8), none),
  (some 10, .fieldAddr 70 (.tmp 9) 1, none),
  (some 11, .load 60 (.tmp 10), none),
  (some 12, .move (.tmp 1), none),
  (some 13, .buildSlice 60 1 #[(0, (.tmp 12))], none),
  (some 14, .call ⟨.builtin .append, #[(.tmp 11), (.tmp 13)], #[60, 60]⟩, none),
  (some 15, .nilCheck (.tmp 7), none),
  (some 16, .fieldAddr 70 (.tmp 15) 1, none),
  (none, .store 60 (.tmp 16) (.tmp 14), none)]
abbrev R91_3 : List SOp := [(some 4, .assign (.const (.nilIface)), none)]
abbrev S91 : SCode := .seq (.reg R91_0) (.seq (.reg R91_1) (.seq (.reg R91_2) (.seq (.reg R91_3) (.ret))))
/-! (*strings.Builder).WriteString -/
abbrev R41_0 : List SOp := [(some 4, .assign (.const (.int .i64 0)), none),
  (some 5, .assign (.const (.nilIface)), none)]
abbrev R41_1 : List SOp := [(some 6, .move (.tmp 0), none),
  (some 7, .call ⟨.value (.func 68), #[(.tmp 6)], #[68]⟩, none)]
abbrev R41_2 : List SOp := [(some 8, .move (.tmp 0), none),
  (some 9, .move (.tmp 0), none),
  (some 10, .nilCheck (.tmp 9), none),
  (some 11, .fieldAddr 70 (.tmp 10) 1, none),
  (some 12, .load 60 (.tmp 11), none),
  (some 13, .move (.tmp 1), none),
  (some 14, .call ⟨.builtin .append, #[(.tmp 12), (.tmp 13)], #[60, 9]⟩, none),
  (some 15, .nilCheck (.tmp 8), none),
  (some 16, .fieldAddr 70 (.tmp 15) 1, none),
  (none, .store 60 (.tmp 16) (.tmp 14), none)]
abbrev R41_3 : List SOp := [(some 17, .move (.tmp 1), none),
  (some 18, .call ⟨.builtin .len, #[(.tmp 17)], #[9]⟩, none),
  (some 4, .assign (.tmp 18), none),
  (some 5, .assign (.const (.nilIface)), none)]
abbrev S41 : SCode := .seq (.reg R41_0) (.seq (.reg R41_1) (.seq (.reg R41_2) (.seq (.reg R41_3) (.ret))))
end Go.AM.YtlcadokmhfjacaaGreatDoorT
/- What simp opens in the walks of this seat: printed by genset.py. -/
namespace Go.AM.YtlcadokmhfjacaaGreatDoorT
open Go Go.AM
attribute [simp] wp_skip wp_reg wp_dreg wp_seq wp_cond wp_block wp_loop wp_exit wp_ret wpL_nil wpL_cons wpD_nil wpD_cons sq_nrm sq_exit sq_ret nm_ap bl_nrm bl_ret bl_exit cd_true cd_false lp_nrm lp_exit lp_ret rs_ret rs_nrm rsQ contL contD kV kAW kA kW kC kCo wantQ oq_p oq_r oq_w oq_c oq_alloc oq_box oq_bs oq_mm oq_ms oq_cv dV dAW dA dW dC dCo isCall skD od_p od_r od_w od_c od_alloc od_box od_bs od_mm od_ms od_cv wantDQ wantS kind convKd lenV_sl lenV_nils lenV_sle lenV_str evP evR evA evW evAW descOf frame opd opds Tr.get_set putD delD resOf getAll kbOk afterA isPt winOk ofVal ofVal0 ofVals binInt binStr binE_int binE_str binE_shl binE_shr binE_eql_agg binE_neq_agg binE_eql_bool binE_neq_bool binE_eql_pn binE_neq_pn binE_eql_nn binE_neq_nn binE_eql_in binE_neq_in binE_eql_ii binE_neq_ii isBoolD isPtrD isIfD isMpD isSlD isC cells_agg cells_bool one_bool cells_int one_int cells_str one_str cells_nilp one_nilp cells_ptr one_ptr cells_nils one_nils cells_sle one_sle cells_sl one_sl cells_nilm one_nilm cells_mp one_mp cells_nilf one_nilf cells_fn one_fn cells_nili one_nili cells_ifc one_ifc isAgg isMapT optI partV zeroV keyOk keyOk1 keyOkS keyOkL eqS sameL same1 sameK esOf partsV fillV placesV setCells mapKeyOk Hp.get_flush Hp.stale_flush Hp.next_flush repl List.nil_append get_new_self get_put_self get_bump next_bump st_new st_put st_bump Hp.next_new Hp.next_put flush_of IntKind.bits tab_ng nna1 nnb1 nna2 nnb2 nna3 nnb3 nna4 nnb4 nna5 nnb5 nna6 nnb6 nna7 nnb7 nna8 nnb8
attribute [simp] ty1 ty2 ty3 ty4 ty5 ty6 ty7 ty8 ty9 ty10 ty11 ty12 ty13 ty14 ty15 ty16 ty17 ty18 ty19 ty20 ty21 ty22 ty23 ty24 ty25 ty26 ty27 ty28 ty29 ty30 ty31 ty32 ty33 ty34 ty36 ty37 ty38 ty39 ty40 ty41 ty42 ty43 ty44 ty45 ty46 ty47 ty48 ty49 ty50 ty51 ty52 ty53 ty54 ty55 ty56 ty57 ty58 ty59 ty60 ty61 ty62 ty63 ty64 ty65 ty67 ty68 ty69 ty70 ty71 ty72 ty73 ty75 ty76 ty77 ty78 ty79 ty80 ty81 ty82 ty83 ty85 ty86 ty87 ty89 ty90 ty91 ty92 ty93 ty94 ty95 ty96 ty97 ty98 ty99 ty100 ty101 ty102 ty103 ty104 ty105 ty106 ty107 ty108 ty109 ty110 ty111 ty112 ty114 ty115 ty117 ty118 ty119 ty120 ty121 ty122 ty123 ty124 ty125 ty126 ty128 ty130 ty131 ty132 ty133 ty134 ty135 ty136 ty137 ty138 ty139 ty140 ty141 ty142 ty143 ty144 ty145 ty146 ty147 ty148 ty149 ty150 ty151 ty152 ty153 ty154 ty155 ty156 ty157 ty158 ty160 ty161 ty162 ty163 ty164 ty165 ty166 ty167 ty168 ty169 ty170 ty171 ty172 ty173 ty175 ty176 ty177 ty178 ty179 ty180 ty181 ty182 ty183 ty185 ty187 ty188 ty190 ty191 ty192 ty193 ty194 ty195 ty196 ty197 ty198 ty199 ty200 ty201 ty202 ty203 ty204 ty205 ty206 ty207 ty209 ty210 ty211 ty212 ty213 ty214 ty215 ty216 ty217 ty218 ty219 ty220 ty221 ty222 ty223 ty224 ty225 ty226 ty227 ty228 ty229 ty230 ty232 ty233 ty234 ty235 ty236 ty237 ty238 ty239 ty240 ty241 ty242 ty243 ty244 ty245 ty246 ty247 ty248 ty249 ty250 ty251 ty252 ty253 ty255 ty256 ty257 ty259 ty260 ty261 ty262 ty263 ty264 ty265 ty266 ty268 ty269 ty270 ty271 ty272 ty273 ty274 ty275 ty276 ty277 ty278 ty279 ty280 ty281 ty282
end Go.AM.YtlcadokmhfjacaaGreatDoorT
/- A strings.Builder beside rows that stay: WriteByte, WriteString, String. -/
set_option linter.unusedVariables false
set_option linter.unusedSimpArgs false
set_option maxRecDepth 100000
namespace Go.AM.YtlcadokmhfjacaaGreatDoorT
open Go Go.AM Go.Proofs
/-- A function that is told otherwise. -/
theorem wf_ext {T : Tab} {f : FuncId} {xs : List V} {H H' : Hp} {v : V} {e : List V → Hp → Option (V × Hp)} {fn : Func} {c : Code} {Q : V → Hp → Prop} (h0 : T.ext f = some e) (h1 : T.fn f = some fn) (h2 : fn.body = some c) (h : e xs H = some (v, H')) (hq : Q v H') : WF T f xs H Q :=
  ⟨1, v, H', by simp only [evCall, h1, h2, h0, h], hq⟩
theorem wf_told {f : FuncId} {xs : List V} {H H' : Hp} {v : V} {e : List V → Hp → Option (V × Hp)} {fn : Func} {Q : V → Hp → Prop} (h0 : tab.ext f = some e) (h1 : tab.fn f = some fn) (h2 : fn.body.isSome = true) (h : e xs H = some (v, H')) (hq : Q v H') : WF tab f xs H Q := by
  obtain ⟨c, hc⟩ := Option.isSome_iff_exists.1 h2
  exact wf_ext h0 h1 hc h hq
def bldNew : Ob := .row 70 2 false [.nilp, .nils]
abbrev nK (K : Nat → Prop) : Nat → Prop := fun x => ¬ K x
/-- A Builder at row b, none of whose memory is K's: what it holds. -/
structure BldK (K : Nat → Prop) (H : Hp) (b : Nat) (l : List UInt8) : Prop where
  ex : ∃ a v, H.get b = some (.row 70 2 false [a, v]) ∧ (a = .nilp ∧ v = .nils ∨ a = .ptr b 0) ∧ SlAt H 5 1 v l.length (l.map bv) ∧ (∀ r ∈ rowsOf v, ¬ K r ∧ r < H.next ∧ r ≠ b) ∧ (l = [] → v = .nils)
  lo : ¬ K b
  hi : b < H.next
  kn : ∀ x, K x → x < H.next
theorem BldK.new {H : Hp} {K : Nat → Prop} (h : ∀ x, K x → x < H.next) : BldK K (H.new bldNew) H.next [] :=
  ⟨⟨_, _, get_new_self H _, .inl ⟨rfl, rfl⟩, .nil, fun r hr => by simp [rowsOf] at hr, fun _ => rfl⟩, fun hk => by have := h _ hk; omega, by rw [Hp.next_new]; omega, fun x hx => by rw [Hp.next_new]; have := h x hx; omega⟩
/-- One row more that stays. -/
theorem BldK.more {H : Hp} {K : Nat → Prop} {b : Nat} {l : List UInt8} (h : BldK K H b l) (o : Ob) : BldK (fun x => K x ∨ x = H.next) (H.new o) b l := by
  obtain ⟨⟨a, v, h1, h2, h3, h4, h7⟩, h5, h6, hk⟩ := h
  refine ⟨⟨a, v, by rw [get_new_ne _ (by omega)]; exact h1, h2, h3.of_get fun r hr => get_new_ne _ (by have := h4 r hr; omega), fun r hr => ?_, h7⟩, fun h => ?_, by rw [Hp.next_new]; omega, fun x hx => ?_⟩
  · have := h4 r hr
    rw [Hp.next_new]
    exact ⟨fun h => h.elim this.1 (fun e => by omega), by omega, this.2.2⟩
  · exact h.elim h5 (fun e => by omega)
  · rw [Hp.next_new]
    rcases hx with hx | hx
    · have := hk x hx; omega
    · omega
/-- Fewer rows that stay. -/
theorem BldK.less {H : Hp} {K K' : Nat → Prop} {b : Nat} {l : List UInt8} (h : BldK K H b l) (hk : ∀ x, K' x → K x) : BldK K' H b l := by
  obtain ⟨⟨a, v, h1, h2, h3, h4, h7⟩, h5, h6, h8⟩ := h
  exact ⟨⟨a, v, h1, h2, h3, fun r hr => ⟨fun h => (h4 r hr).1 (hk r h), (h4 r hr).2⟩, h7⟩, fun h => h5 (hk b h), h6, fun x hx => h8 x (hk x hx)⟩
theorem BldK.ext {X K : Nat → Prop} {H H' : Hp} {b : Nat} {l : List UInt8} (h : BldK K H b l) (hE : Ext X H H') (hX : ∀ x, x < H.next → ¬ K x → ¬ X x) : BldK K H' b l := by
  obtain ⟨⟨a, v, h1, h2, h3, h4, h7⟩, h5, h6, h8⟩ := h
  have hle := hE.le
  refine ⟨⟨a, v, by rw [hE.get b h6 (hX _ h6 h5)]; exact h1, h2, h3.of_get fun r hr => ?_, fun r hr => ?_, h7⟩, h5, by omega, fun x hx => by have := h8 x hx; omega⟩
  · have := h4 r hr
    exact hE.get r this.2.1 (hX _ this.2.1 this.1)
  · have := h4 r hr
    exact ⟨this.1, by omega, this.2.2⟩
theorem wpL_app0 {T : Tab} {t t' e : TypeId} {i : TI} {xs ys : Operand} {F : Fr} {H : Hp} {s x : V} {n : Nat} {news l : List V} {d : Option Tmp} {r : List SOp} {Q : PL} (hd : descOf T t = some (.slice e)) (hi : T.ty e = some i) (hx : opd T.ng F xs = some s) (hy : opd T.ng F ys = some x)
    (hs : SlAt H e i.size s n l) (ht : takeX T H.get t t' e i.size x = some (0, news)) (h : wpL T r (putD F d s) H Q) : opQ T (.call ⟨.builtin .append, #[xs, ys], #[t, t']⟩) d r F H Q .a := by
  have ho : opds T.ng F (#[xs, ys] : Array Operand).toList = some [s, x] := by simp only [opds, hx, hy]
  have he : evA T (.call ⟨.builtin .append, #[xs, ys], #[t, t']⟩) F H.get H.next = some (s, none, none) := by
    cases hs <;> simp only [evA, ho, hd, hi, ht]
  show kA T _ d r F H Q (evA T (.call ⟨.builtin .append, #[xs, ys], #[t, t']⟩) F H.get H.next)
  rw [he]
  exact ⟨rfl, h⟩
theorem bytesR_new1 (H : Hp) (e : TypeId) {x : V} {c : UInt8} (h : bytesOf [x] = some [c]) : bytesR (H.new (.row e 1 false [x])).get (.sl H.next 0 1 none 1) = some [c] := by
  simp only [bytesR, get_new_self]; simpa using h
end Go.AM.YtlcadokmhfjacaaGreatDoorT
