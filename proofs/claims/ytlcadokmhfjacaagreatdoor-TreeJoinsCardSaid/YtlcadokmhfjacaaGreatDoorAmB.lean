/- Parts of the abstract machine and of the walks over it, joined: what the law that is claimed here leans on. -/
import Derived.Test.YtlcadokmhfjacaaGreatDoorAmX
import Derived.Test.YtlcadokmhfjacaaGreatDoorAmC2
import Derived.Test.YtlcadokmhfjacaaGreatDoorAmC3
import Derived.Test.YtlcadokmhfjacaaGreatDoorAmL
/- The slim code of these functions: printed by genslim.py. -/
namespace Go.AM.YtlcadokmhfjacaaGreatDoorT
open Go Go.AM Go.Proofs
set_option maxRecDepth 100000
/-! (*strings.Builder).WriteByte -/
abbrev R91_0 : List SOp := [(some 4, .assign (.const (.nilIface)), none)]
abbrev R91_1 : List SOp := [(some 5, .move (.tmp 0), none),
  (some 6, .call ⟨.value (.func 68), #[(.tmp 5)], #[68]⟩, none)]
abbrev R91_2 : List SOp := [(some 7, .move (.tmp 0), none),
  (some 8, .move (.tmp 0), none),
  (some 9, .nilCheck (.tmp 8), none),
  (some 10, .fieldAddr 70 (.tmp 9) 1, none),
  (some 11, .load 60 (.tmp 10), none),
  (some 12, .move (.tmp 1), none),
  (some 13, .buildSlice 60 1 #[(0, (.tmp 12))], none),
  (some 14, .call ⟨.builtin .append, #[(.tmp 11), (.tmp 13)], #[60, 60]⟩, none),
  (some 15, .nilCheck (.tmp 7), none),
  (some 16, .fieldAddr 70 (.tmp 15) 1, none),
  (none, .store 60 (.tmp 16) (.tmp 14), none)]
abbrev R91_3 : List SOp := [(some 4, .assign (.const (.nilIface)), none)]
abbrev S91 : SCode := .seq (.reg R91_0) (.seq (.reg R91_1) (.seq (.reg R91_2) (.seq (.reg R91_3) (.ret))))
theorem slim91 : slimC tab 91 (Tryz.f91.body.getD .skip) = S91 := by kernel_rfl
theorem wf91 {xs : List V} {H : Hp} {Q : V → Hp → Prop} (h : WC tab S91 (frame xs 0 .nil) H (resQ tab [.tmp 4] Q)) : WF tab 91 xs H Q := WF.of_slim (T := tab) (f := 91) rfl fn91 rfl slim91 rfl h
/-! (*strings.Builder).WriteString -/
abbrev R41_0 : List SOp := [(some 4, .assign (.const (.int .i64 0)), none),
  (some 5, .assign (.const (.nilIface)), none)]
abbrev R41_1 : List SOp := [(some 6, .move (.tmp 0), none),
  (some 7, .call ⟨.value (.func 68), #[(.tmp 6)], #[68]⟩, none)]
abbrev R41_2 : List SOp := [(some 8, .move (.tmp 0), none),
  (some 9, .move (.tmp 0), none),
  (some 10, .nilCheck (.tmp 9), none),
  (some 11, .fieldAddr 70 (.tmp 10) 1, none),
  (some 12, .load 60 (.tmp 11), none),
  (some 13, .move (.tmp 1), none),
  (some 14, .call ⟨.builtin .append, #[(.tmp 12), (.tmp 13)], #[60, 9]⟩, none),
  (some 15, .nilCheck (.tmp 8), none),
  (some 16, .fieldAddr 70 (.tmp 15) 1, none),
  (none, .store 60 (.tmp 16) (.tmp 14), none)]
abbrev R41_3 : List SOp := [(some 17, .move (.tmp 1), none),
  (some 18, .call ⟨.builtin .len, #[(.tmp 17)], #[9]⟩, none),
  (some 4, .assign (.tmp 18), none),
  (some 5, .assign (.const (.nilIface)), none)]
abbrev S41 : SCode := .seq (.reg R41_0) (.seq (.reg R41_1) (.seq (.reg R41_2) (.seq (.reg R41_3) (.ret))))
theorem slim41 : slimC tab 41 (Tryz.f41.body.getD .skip) = S41 := by kernel_rfl
theorem wf41 {xs : List V} {H : Hp} {Q : V → Hp → Prop} (h : WC tab S41 (frame xs 0 .nil) H (resQ tab [.tmp 4, .tmp 5] Q)) : WF tab 41 xs H Q := WF.of_slim (T := tab) (f := 41) rfl fn41 rfl slim41 rfl h
end Go.AM.YtlcadokmhfjacaaGreatDoorT
/- What simp opens in the walks of this seat: printed by genset.py. -/
namespace Go.AM.YtlcadokmhfjacaaGreatDoorT
open Go Go.AM
attribute [simp] wp_skip wp_reg wp_dreg wp_seq wp_cond wp_block wp_loop wp_exit wp_ret wpL_nil wpL_cons wpD_nil wpD_cons sq_nrm sq_exit sq_ret nm_ap bl_nrm bl_ret bl_exit cd_true cd_false lp_nrm lp_exit lp_ret rs_ret rs_nrm rsQ contL contD kV kAW kA kW kC kCo wantQ oq_p oq_r oq_w oq_c oq_alloc oq_box oq_bs oq_mm oq_ms oq_cv dV dAW dA dW dC dCo isCall skD od_p od_r od_w od_c od_alloc od_box od_bs od_mm od_ms od_cv wantDQ wantS kind convKd lenV_sl lenV_nils lenV_sle lenV_str evP evR evA evW evAW descOf frame opd opds Tr.get_set putD delD resOf getAll kbOk afterA isPt winOk ofVal ofVal0 ofVals binInt binStr binE_int binE_str binE_shl binE_shr binE_eql_agg binE_neq_agg binE_eql_bool binE_neq_bool binE_eql_pn binE_neq_pn binE_eql_nn binE_neq_nn binE_eql_in binE_neq_in binE_eql_ii binE_neq_ii isBoolD isPtrD isIfD isMpD isSlD isC cells_agg cells_bool one_bool cells_int one_int cells_str one_str cells_nilp one_nilp cells_ptr one_ptr cells_nils one_nils cells_sle one_sle cells_sl one_sl cells_nilm one_nilm cells_mp one_mp cells_nilf one_nilf cells_fn one_fn cells_nili one_nili cells_ifc one_ifc isAgg isMapT optI partV zeroV keyOk keyOk1 keyOkS keyOkL eqS sameL same1 sameK esOf partsV fillV placesV setCells mapKeyOk Hp.get_flush Hp.stale_flush Hp.next_flush repl List.nil_append get_new_self get_put_self get_bump next_bump st_new st_put st_bump Hp.next_new Hp.next_put flush_of IntKind.bits tab_ng nna1 nnb1 nna2 nnb2 nna3 nnb3 nna4 nnb4 nna5 nnb5 nna6 nnb6 nna7 nnb7 nna8 nnb8
attribute [simp] ty1 ty2 ty3 ty4 ty5 ty6 ty7 ty8 ty9 ty10 ty11 ty12 ty13 ty14 ty15 ty16 ty17 ty18 ty19 ty20 ty21 ty22 ty23 ty24 ty25 ty26 ty27 ty28 ty29 ty30 ty31 ty32 ty33 ty34 ty36 ty37 ty38 ty39 ty40 ty41 ty42 ty43 ty44 ty45 ty46 ty47 ty48 ty49 ty50 ty51 ty52 ty53 ty54 ty55 ty56 ty57 ty58 ty59 ty60 ty61 ty62 ty63 ty64 ty65 ty67 ty68 ty69 ty70 ty71 ty72 ty73 ty75 ty76 ty77 ty78 ty79 ty80 ty81 ty82 ty83 ty85 ty86 ty87 ty89 ty90 ty91 ty92 ty93 ty94 ty95 ty96 ty97 ty98 ty99 ty100 ty101 ty102 ty103 ty104 ty105 ty106 ty107 ty108 ty109 ty110 ty111 ty112 ty114 ty115 ty117 ty118 ty119 ty120 ty121 ty122 ty123 ty124 ty125 ty126 ty128 ty130 ty131 ty132 ty133 ty134 ty135 ty136 ty137 ty138 ty139 ty140 ty141 ty142 ty143 ty144 ty145 ty146 ty147 ty148 ty149 ty150 ty151 ty152 ty153 ty154 ty155 ty156 ty157 ty158 ty160 ty161 ty162 ty163 ty164 ty165 ty166 ty167 ty168 ty169 ty170 ty171 ty172 ty173 ty175 ty176 ty177 ty178 ty179 ty180 ty181 ty182 ty183 ty185 ty187 ty188 ty190 ty191 ty192 ty193 ty194 ty195 ty196 ty197 ty198 ty199 ty200 ty201 ty202 ty203 ty204 ty205 ty206 ty207 ty209 ty210 ty211 ty212 ty213 ty214 ty215 ty216 ty217 ty218 ty219 ty220 ty221 ty222 ty223 ty224 ty225 ty226 ty227 ty228 ty229 ty230 ty232 ty233 ty234 ty235 ty236 ty237 ty238 ty239 ty240 ty241 ty242 ty243 ty244 ty245 ty246 ty247 ty248 ty249 ty250 ty251 ty252 ty253 ty255 ty256 ty257 ty259 ty260 ty261 ty262 ty263 ty264 ty265 ty266 ty268 ty269 ty270 ty271 ty272 ty273 ty274 ty275 ty276 ty277 ty278 ty279 ty280 ty281 ty282
end Go.AM.YtlcadokmhfjacaaGreatDoorT
/- A strings.Builder beside rows that stay: WriteByte, WriteString, String. -/
set_option linter.unusedVariables false
set_option linter.unusedSimpArgs false
set_option maxRecDepth 100000
namespace Go.AM.YtlcadokmhfjacaaGreatDoorT
open Go Go.AM Go.Proofs
/-- A function that is told otherwise. -/
theorem wf_ext {T : Tab} {f : FuncId} {xs : List V} {H H' : Hp} {v : V} {e : List V → Hp → Option (V × Hp)} {fn : Func} {c : Code} {Q : V → Hp → Prop} (h0 : T.ext f = some e) (h1 : T.fn f = some fn) (h2 : fn.body = some c) (h : e xs H = some (v, H')) (hq : Q v H') : WF T f xs H Q :=
  ⟨1, v, H', by simp only [evCall, h1, h2, h0, h], hq⟩
theorem wf_told {f : FuncId} {xs : List V} {H H' : Hp} {v : V} {e : List V → Hp → Option (V × Hp)} {fn : Func} {Q : V → Hp → Prop} (h0 : tab.ext f = some e) (h1 : tab.fn f = some fn) (h2 : fn.body.isSome = true) (h : e xs H = some (v, H')) (hq : Q v H') : WF tab f xs H Q := by
  obtain ⟨c, hc⟩ := Option.isSome_iff_exists.1 h2
  exact wf_ext h0 h1 hc h hq
def bldNew : Ob := .row 70 2 false [.nilp, .nils]
theorem app_flush {H H' : Hp} {e : TypeId} {z n : Nat} {s s' : V} {l : List V} (hs : H.stale = []) (hS : SlAt H' e z s' n l) (hA : AppR H s H' s') :
    SlAt H'.flush e z s' n l ∧ (∀ c, c < H.next → c ∉ rowsOf s → H'.flush.get c = H.get c) ∧ H'.flush.stale = [] ∧ H.next ≤ H'.flush.next ∧ (∀ r ∈ rowsOf s', r < H'.flush.next ∧ (r ∈ rowsOf s ∨ H.next ≤ r)) := by
  refine ⟨hS.of_get fun b hb => ?_, fun c hc hr => ?_, Hp.stale_flush _, by rw [Hp.next_flush]; exact hA.le, fun r hr => ?_⟩
  · rw [Hp.get_flush, if_neg (hA.new b hb).1]
  · have := hA.keep c hc hr (by simp [hs])
    rw [Hp.get_flush, if_neg this.2]
    exact this.1
  · have := hA.new r hr
    rw [Hp.next_flush]
    exact ⟨this.2.1, this.2.2⟩
abbrev nK (K : Nat → Prop) : Nat → Prop := fun x => ¬ K x
/-- A Builder at row b, none of whose memory is K's: what it holds. -/
structure BldK (K : Nat → Prop) (H : Hp) (b : Nat) (l : List UInt8) : Prop where
  ex : ∃ a v, H.get b = some (.row 70 2 false [a, v]) ∧ (a = .nilp ∧ v = .nils ∨ a = .ptr b 0) ∧ SlAt H 5 1 v l.length (l.map bv) ∧ (∀ r ∈ rowsOf v, ¬ K r ∧ r < H.next ∧ r ≠ b) ∧ (l = [] → v = .nils)
  lo : ¬ K b
  hi : b < H.next
  kn : ∀ x, K x → x < H.next
theorem BldK.new {H : Hp} {K : Nat → Prop} (h : ∀ x, K x → x < H.next) : BldK K (H.new bldNew) H.next [] :=
  ⟨⟨_, _, get_new_self H _, .inl ⟨rfl, rfl⟩, .nil, fun r hr => by simp [rowsOf] at hr, fun _ => rfl⟩, fun hk => by have := h _ hk; omega, by rw [Hp.next_new]; omega, fun x hx => by rw [Hp.next_new]; have := h x hx; omega⟩
/-- One row more that stays. -/
theorem BldK.more {H : Hp} {K : Nat → Prop} {b : Nat} {l : List UInt8} (h : BldK K H b l) (o : Ob) : BldK (fun x => K x ∨ x = H.next) (H.new o) b l := by
  obtain ⟨⟨a, v, h1, h2, h3, h4, h7⟩, h5, h6, hk⟩ := h
  refine ⟨⟨a, v, by rw [get_new_ne _ (by omega)]; exact h1, h2, h3.of_get fun r hr => get_new_ne _ (by have := h4 r hr; omega), fun r hr => ?_, h7⟩, fun h => ?_, by rw [Hp.next_new]; omega, fun x hx => ?_⟩
  · have := h4 r hr
    rw [Hp.next_new]
    exact ⟨fun h => h.elim this.1 (fun e => by omega), by omega, this.2.2⟩
  · exact h.elim h5 (fun e => by omega)
  · rw [Hp.next_new]
    rcases hx with hx | hx
    · have := hk x hx; omega
    · omega
/-- Fewer rows that stay. -/
theorem BldK.less {H : Hp} {K K' : Nat → Prop} {b : Nat} {l : List UInt8} (h : BldK K H b l) (hk : ∀ x, K' x → K x) : BldK K' H b l := by
  obtain ⟨⟨a, v, h1, h2, h3, h4, h7⟩, h5, h6, h8⟩ := h
  exact ⟨⟨a, v, h1, h2, h3, fun r hr => ⟨fun h => (h4 r hr).1 (hk r h), (h4 r hr).2⟩, h7⟩, fun h => h5 (hk b h), h6, fun x hx => h8 x (hk x hx)⟩
theorem BldK.ext {X K : Nat → Prop} {H H' : Hp} {b : Nat} {l : List UInt8} (h : BldK K H b l) (hE : Ext X H H') (hX : ∀ x, x < H.next → ¬ K x → ¬ X x) : BldK K H' b l := by
  obtain ⟨⟨a, v, h1, h2, h3, h4, h7⟩, h5, h6, h8⟩ := h
  have hle := hE.le
  refine ⟨⟨a, v, by rw [hE.get b h6 (hX _ h6 h5)]; exact h1, h2, h3.of_get fun r hr => ?_, fun r hr => ?_, h7⟩, h5, by omega, fun x hx => by have := h8 x hx; omega⟩
  · have := h4 r hr
    exact hE.get r this.2.1 (hX _ this.2.1 this.1)
  · have := h4 r hr
    exact ⟨this.1, by omega, this.2.2⟩
theorem ccK {K : Nat → Prop} {H : Hp} {b : Nat} {l : List UInt8} (hs : H.stale = []) (h : BldK K H b l) {Q : V → Hp → Prop} (hq : ∀ H' v, H'.stale = [] → H'.next = H.next → BldK K H' b l → H'.get b = some (.row 70 2 false [.ptr b 0, v]) → SlAt H' 5 1 v l.length (l.map bv) → (∀ r ∈ rowsOf v, ¬ K r ∧ r < H'.next ∧ r ≠ b) → (l = [] → v = .nils) → Ext (nK K) H H' → Q (.tup []) H') : WF tab 68 [.ptr b 0] H Q := by
  obtain ⟨⟨a, v, h1, h2, h3, h4, h7⟩, h5, h6, h8⟩ := h
  rcases h2 with ⟨rfl, rfl⟩ | rfl
  · refine wf_told (f := 68) rfl fn68 rfl (H' := H.put b (.row 70 2 false [.ptr b 0, .nils])) (v := .tup []) ?_ ?_
    · simp [ccE, hs, h1]
    · refine hq _ .nils hs rfl ⟨⟨_, _, get_put_self _ _ _, .inr rfl, ?_, ?_, h7⟩, h5, h6, h8⟩ (get_put_self _ _ _) ?_ ?_ h7 (Ext.put hs _ h5)
      · exact h3.of_get fun r hr => by simp [rowsOf] at hr
      · exact fun r hr => by simp [rowsOf] at hr
      · exact h3.of_get fun r hr => by simp [rowsOf] at hr
      · exact fun r hr => by simp [rowsOf] at hr
  · refine wf_told (f := 68) rfl fn68 rfl (H' := H) (v := .tup []) ?_ ?_
    · simp [ccE, hs, h1]
    · exact hq _ v hs rfl ⟨⟨_, _, h1, .inr rfl, h3, h4, h7⟩, h5, h6, h8⟩ h1 h3 h4 h7 (Ext.refl hs)
theorem app_tail {K : Nat → Prop} {H H1 H2 : Hp} {b n : Nat} {v s' : V} {l : List UInt8} (s1 : H1.stale = []) (n1 : H1.next = H.next) (hb : b < H.next) (hkb : ¬ K b) (hk : ∀ x, K x → x < H.next) (g1 : H1.get b = some (.row 70 2 false [.ptr b 0, v]))
    (r1 : ∀ r ∈ rowsOf v, ¬ K r ∧ r < H1.next ∧ r ≠ b) (e1 : Ext (nK K) H H1) (hS : SlAt H2 5 1 s' n (l.map bv)) (hn : n = l.length) (hl : l ≠ []) (hA : AppR H1 v H2 s') :
    H2.flush.get b = some (.row 70 2 false [.ptr b 0, v]) ∧ BldK K (H2.flush.put b (.row 70 2 false [.ptr b 0, s'])) b l ∧ Ext (nK K) H (H2.flush.put b (.row 70 2 false [.ptr b 0, s'])) := by
  subst hn
  obtain ⟨k1, k2, k3, k4, k5⟩ := app_flush s1 hS hA
  have gb : H2.flush.get b = some (.row 70 2 false [.ptr b 0, v]) := by
    rw [k2 b (by omega) (fun hr => (r1 b hr).2.2 rfl)]; exact g1
  have hrb : ∀ r ∈ rowsOf s', r ≠ b := fun r hr e => by
    rcases (k5 r hr).2 with h1 | h1
    · exact (r1 r h1).2.2 e
    · omega
  refine ⟨gb, ⟨⟨_, _, get_put_self _ _ _, .inr rfl, ?_, fun r hr => ?_, fun h => absurd h hl⟩, hkb, by show b < H2.flush.next; omega, fun x hx => by show x < H2.flush.next; have := hk x hx; omega⟩, ?_⟩
  · exact k1.of_get (H' := H2.flush.put b (.row 70 2 false [.ptr b 0, s'])) fun r hr => get_put_ne _ (hrb r hr)
  · have h1 := k5 r hr
    refine ⟨fun hkr => ?_, h1.1, hrb r hr⟩
    rcases h1.2 with h2 | h2
    · exact (r1 r h2).1 hkr
    · have := hk r hkr; omega
  · refine ⟨k3, by show H.next ≤ H2.flush.next; omega, fun x hx hn => ?_⟩
    have hKx : K x := Classical.not_not.1 hn
    rw [get_put_ne _ (fun e => hkb (by rw [← e]; exact hKx)), k2 x (by omega) (fun hr => (r1 x hr).1 hKx)]
    exact e1.get x hx hn
theorem wbK {K : Nat → Prop} {H : Hp} {b : Nat} {l : List UInt8} (hs : H.stale = []) (h : BldK K H b l) (c : UInt8) (hl : l.length < 1000000000) : WF tab 91 [.ptr b 0, bv c] H fun v H' => BldK K H' b (l ++ [c]) ∧ Ext (nK K) H H' := by
  refine wf91 (wp_sound _ ?_)
  simp [hs]
  refine ccK hs h ?_
  intro H1 v s1 n1 hb1 g1 a1 r1 z1 e1
  simp [s1, g1]
  refine wpL_app1 (e0 := 5) (cells := [bv c]) (by simp [descOf]) ty5 (by decide) (by simp) (by simp) a1 (fun r hr => ⟨(r1 r hr).2.1, by simp [s1]⟩) rfl (by simp; omega) (by omega) (by simp [s1]) fun s' H2 hS hA => ?_
  have hS' : SlAt H2 5 1 s' (l.length + 1) ((l ++ [c]).map bv) := by simpa using hS
  obtain ⟨gb, q1, q2⟩ := app_tail s1 n1 h.hi h.lo h.kn g1 r1 e1 hS' (by simp) (by simp) hA
  have c1 := hS.cells
  have c2 := hS.one
  simp [gb, c1, c2]
  exact ⟨q1, q2⟩
theorem wpL_app0 {T : Tab} {t t' e : TypeId} {i : TI} {xs ys : Operand} {F : Fr} {H : Hp} {s x : V} {n : Nat} {news l : List V} {d : Option Tmp} {r : List SOp} {Q : PL} (hd : descOf T t = some (.slice e)) (hi : T.ty e = some i) (hx : opd T.ng F xs = some s) (hy : opd T.ng F ys = some x)
    (hs : SlAt H e i.size s n l) (ht : takeX T H.get t t' e i.size x = some (0, news)) (h : wpL T r (putD F d s) H Q) : opQ T (.call ⟨.builtin .append, #[xs, ys], #[t, t']⟩) d r F H Q .a := by
  have ho : opds T.ng F (#[xs, ys] : Array Operand).toList = some [s, x] := by simp only [opds, hx, hy]
  have he : evA T (.call ⟨.builtin .append, #[xs, ys], #[t, t']⟩) F H.get H.next = some (s, none, none) := by
    cases hs <;> simp only [evA, ho, hd, hi, ht]
  show kA T _ d r F H Q (evA T (.call ⟨.builtin .append, #[xs, ys], #[t, t']⟩) F H.get H.next)
  rw [he]
  exact ⟨rfl, h⟩
theorem wsK {K : Nat → Prop} {H : Hp} {b : Nat} {l : List UInt8} (hs : H.stale = []) (h : BldK K H b l) (x : List UInt8) (hl : l.length + x.length < 1000000000) : WF tab 41 [.ptr b 0, .str x] H fun v H' => BldK K H' b (l ++ x) ∧ Ext (nK K) H H' := by
  refine wf41 (wp_sound _ ?_)
  simp [hs]
  refine ccK hs h ?_
  intro H1 v s1 n1 hb1 g1 a1 r1 z1 e1
  simp [s1, g1]
  have htk : takeX tab H1.get 60 9 5 1 (.str x) = some (x.length, x.map fun b => .int .u8 b.toNat) := takeX_str (by decide) (by simp [descOf]) (by simp [descOf])
  by_cases hx : x = []
  · subst hx
    refine wpL_app0 (by simp [descOf]) ty5 (by simp) (by simp) a1 htk ?_
    have c1 := a1.cells
    have c2 := a1.one
    simp [s1, g1, c1, c2]
    obtain ⟨⟨a, v', q1, q2, q3, q4, q7⟩, q5, q6, q8⟩ := hb1
    rw [g1] at q1
    cases q1
    have hg : ∀ r, (H1.put b (.row 70 2 false [.ptr b 0, v])).get r = H1.get r := fun r => by
      by_cases e : r = b
      · subst e; rw [get_put_self, g1]
      · exact get_put_ne _ e
    refine ⟨⟨⟨_, _, get_put_self _ _ _, .inr rfl, a1.of_get fun r _ => hg r, r1, z1⟩, q5, q6, q8⟩, ⟨s1, by show H.next ≤ H1.next; omega, fun x hx hn => ?_⟩⟩
    rw [hg]; exact e1.get x hx hn
  · have hpos : 0 < x.length := List.length_pos_iff.2 hx
    refine wpL_appX (m := x.length) (by simp [descOf]) ty5 (by decide) (by simp) (by simp) a1 (fun r hr => ⟨(r1 r hr).2.1, by simp [s1]⟩) htk hpos (by simp) (by simp; omega) (by omega) (fun b hb => by simp [rowsOf] at hb) (by simp [s1]) fun s' H2 hS hA => ?_
    have hS' : SlAt H2 5 1 s' (l.length + x.length) ((l ++ x).map bv) := by
      have : (l ++ x).map bv = l.map bv ++ x.map fun b => V.int .u8 b.toNat := by simp [bv]
      rw [this]; exact hS
    obtain ⟨gb, q1, q2⟩ := app_tail s1 n1 h.hi h.lo h.kn g1 r1 e1 hS' (by simp) (by simp [hx]) hA
    have c1 := hS.cells
    have c2 := hS.one
    simp [gb, c1, c2]
    exact ⟨q1, q2⟩
theorem stK {K : Nat → Prop} {H : Hp} {b : Nat} {l : List UInt8} (hs : H.stale = []) (h : BldK K H b l) (hl : l.length < 1000000000) : WF tab 43 [.ptr b 0] H fun v H' => v = .str l ∧ Ext (nK K) H H' := by
  obtain ⟨⟨a, v, h1, h2, h3, h4, h7⟩, h5, h6, h8⟩ := h
  generalize hn : l.length = n at h3
  generalize hc : l.map bv = cs0 at h3
  cases h3 with
  | nil =>
    have : l = [] := by simpa using hc
    subst this
    exact wf_told (f := 43) rfl fn43 rfl (H' := H) (v := .str []) (by simp [strE, hs, h1]) ⟨rfl, Ext.refl hs⟩
  | row r n cs hg hle =>
    cases n with
    | zero =>
      have : l = [] := List.eq_nil_of_length_eq_zero hn
      have := h7 this
      cases this
    | succ n =>
      have hr := h4 r (by simp [rowsOf])
      rw [Nat.mul_one] at hc hle
      refine wf_told (f := 43) rfl fn43 rfl (H' := H.put r (.row 5 1 true cs)) (v := .str l) ?_ ⟨rfl, Ext.put hs _ hr.1⟩
      have e1 := bytesOf_bv l
      have e2 := byteV_bv l
      rw [hc] at e1 e2
      have e3 : n + 1 ≤ 9223372036854775807 := by omega
      simp only [strE, hs, h1, hg, hle, e1, e2, e3]
      simp
theorem Ext.nk {K : Nat → Prop} {H H1 H2 : Hp} (h : Ext noX H H1) (h2 : Ext (nK K) H1 H2) (hk : ∀ x, x < H.next → K x) : Ext noX H H2 :=
  ⟨h2.st, Nat.le_trans h.le h2.le, fun b hb hx => by rw [h2.get b (Nat.lt_of_lt_of_le hb h.le) (fun hn => hn (hk b hb))]; exact h.get b hb hx⟩
theorem bytesR_new1 (H : Hp) (e : TypeId) {x : V} {c : UInt8} (h : bytesOf [x] = some [c]) : bytesR (H.new (.row e 1 false [x])).get (.sl H.next 0 1 none 1) = some [c] := by
  simp only [bytesR, get_new_self]; simpa using h
end Go.AM.YtlcadokmhfjacaaGreatDoorT
