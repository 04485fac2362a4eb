/- Parts of the abstract machine and of the walks over it, joined: what the law that is claimed here leans on. -/
import Derived.Test.YtjdadagnfnaboaaGreatDoorAmP
import Derived.Test.YtjdadagnfnaboaaGreatDoorAmX
import Derived.Test.YtjdadagnfnaboaaGreatDoorAmC2
import Derived.Test.YtjdadagnfnaboaaGreatDoorAmU4
set_option linter.unusedVariables false
set_option linter.unusedSimpArgs false
set_option maxRecDepth 100000
namespace Go.AM.YtjdadagnfnaboaaGreatDoorT
open Go Go.AM Go.Proofs
/-! ### Digits -/
def decV (a : Nat) (l : List UInt8) : Nat := l.foldl (fun a c => a * 10 + (c.toNat - 48)) a
theorem decV_ge : ∀ (l : List UInt8) (a : Nat), a ≤ decV a l
  | [], a => Nat.le_refl _
  | c :: r, a => by
    have := decV_ge r (a * 10 + (c.toNat - 48))
    have h : decV a (c :: r) = decV (a * 10 + (c.toNat - 48)) r := rfl
    rw [h]; omega
theorem decV_app (a : Nat) (l m : List UInt8) : decV a (l ++ m) = decV (decV a l) m := by simp [decV]
theorem dig_range {c : UInt8} (h : digitB c = true) : 48 ≤ c.toNat ∧ c.toNat ≤ 57 := by
  simp only [digitB, Bool.and_eq_true, decide_eq_true_eq] at h
  omega
theorem parseM_ok : ∀ (l : List UInt8) (a : Nat), (∀ c ∈ l, digitB c = true) → decV a l ≤ 2 ^ 64 - 1 → Lib.parseUintM (2 ^ 64 - 1) a l = .ok (decV a l)
  | [], a, _, _ => rfl
  | c :: r, a, hd, hv => by
    have h1 := dig_range (hd c (by simp))
    have h2 := decV_ge r (a * 10 + (c.toNat - 48))
    have hv' : decV (a * 10 + (c.toNat - 48)) r ≤ 2 ^ 64 - 1 := hv
    rw [Lib.parseUintM, if_pos h1, if_neg (by omega), if_neg (by omega)]
    exact parseM_ok r _ (fun x hx => hd x (by simp [hx])) hv'
theorem runN_all (p : UInt8 → Bool) : ∀ l : List UInt8, (∀ c ∈ l, p c = true) → runN p l = l.length
  | [], _ => rfl
  | c :: r, h => by rw [runN, if_pos (h c (by simp)), runN_all p r fun x hx => h x (by simp [hx])]; rfl
theorem dig_of (u : Nat) (h : u < 10) : digitB (UInt8.ofNat (48 + u)) = true ∧ (UInt8.ofNat (48 + u)).toNat = 48 + u := by
  have : (UInt8.ofNat (48 + u)).toNat = 48 + u := by rw [UInt8.toNat_ofNat']; omega
  refine ⟨?_, this⟩
  simp only [digitB, Bool.and_eq_true, decide_eq_true_eq]
  omega
theorem decF_facts : ∀ (k u : Nat), u < 10 ^ (k + 1) → decF (k + 1) u ≠ [] ∧ (∀ c ∈ decF (k + 1) u, digitB c = true) ∧ decV 0 (decF (k + 1) u) = u ∧ (decF (k + 1) u).length ≤ k + 1 ∧ (0 < u → (decF (k + 1) u).head? ≠ some 48) ∧ (u < 10 → (decF (k + 1) u).length = 1)
  | k, u, h => by
    rw [decF]
    by_cases h1 : u < 10
    · rw [if_pos h1]
      obtain ⟨d1, d2⟩ := dig_of u h1
      refine ⟨by simp, fun c hc => by rw [List.mem_singleton] at hc; subst hc; exact d1, ?_, by simp, fun h0 e => ?_, fun _ => rfl⟩
      · show 0 * 10 + ((UInt8.ofNat (48 + u)).toNat - 48) = u
        rw [d2]; omega
      · simp only [List.head?_cons, Option.some.injEq] at e
        have := congrArg UInt8.toNat e
        rw [d2] at this
        simp at this
        omega
    · rw [if_neg h1]
      obtain ⟨k, rfl⟩ : ∃ j, k = j + 1 := ⟨k - 1, by
        cases k with
        | zero => simp at h; omega
        | succ k => omega⟩
      obtain ⟨d1, d2⟩ := dig_of (u % 10) (by omega)
      obtain ⟨e1, e2, e3, e4, e5, _⟩ := decF_facts k (u / 10) (by rw [Nat.pow_succ] at h; omega)
      refine ⟨by simp, fun c hc => ?_, ?_, by simp; omega, fun _ e => ?_, fun h => absurd h h1⟩
      · rw [List.mem_append] at hc
        rcases hc with hc | hc
        · exact e2 c hc
        · rw [List.mem_singleton] at hc; subst hc; exact d1
      · rw [decV_app, e3]
        show u / 10 * 10 + ((UInt8.ofNat (48 + u % 10)).toNat - 48) = u
        rw [d2]; omega
      · rw [List.head?_append] at e
        cases hh : (decF (k + 1) (u / 10)).head? with
        | none => exact e1 (List.head?_eq_none_iff.1 hh)
        | some x =>
          rw [hh] at e
          exact e5 (by omega) (by rw [hh]; simpa using e)
theorem decV_noughts (z : Nat) (l : List UInt8) : decV 0 (List.replicate z 48 ++ l) = decV 0 l := by
  rw [decV_app]
  congr 1
  induction z with
  | zero => rfl
  | succ z ih => rw [List.replicate_succ]; exact ih
theorem dig_notletter {c : UInt8} (h : digitB c = true) : letterB c = false ∧ c ≠ 32 ∧ c ≠ 10 ∧ c ≠ 35 := by
  have := dig_range h
  refine ⟨?_, fun e => by subst e; simp at this, fun e => by subst e; simp at this, fun e => by subst e; simp at this⟩
  simp only [letterB, Bool.or_eq_false_iff, Bool.and_eq_false_iff, decide_eq_false_iff_not, beq_eq_false_iff_ne]
  first | omega | grind
theorem number_law (z n : Nat) (hz : z ≤ 2) (hn : n < 18446744073709551616) : ∀ S, S = List.replicate z 48 ++ decF 20 n → (S.length ≤ 22 ∧
    sp S 0 [] = if 0 < z ∨ 9223372036854775807 < n then ([], 0, 6) else ([⟨2, S, n, 0⟩, ⟨0, [], 0, S.length⟩], 0, 0)) := by
  intro S hS
  have F0 := decF_facts 19 n (by omega)
  simp only [Nat.reduceAdd] at F0
  obtain ⟨e1, e2, e3, e4, e5, e6⟩ := F0
  have hd : ∀ c ∈ S, digitB c = true := by
    intro c hc
    rw [hS, List.mem_append] at hc
    rcases hc with hc | hc
    · rw [List.eq_of_mem_replicate hc]; rfl
    · exact e2 c hc
  have hl : S.length ≤ 22 := by rw [hS]; simp only [List.length_append, List.length_replicate]; omega
  have hv : decV 0 S = n := by rw [hS, decV_noughts]; exact e3
  refine ⟨hl, ?_⟩
  have hne : S ≠ [] := by rw [hS]; simp [e1]
  obtain ⟨c, r, hcr⟩ : ∃ c r, S = c :: r := by
    cases hh : S with
    | nil => exact absurd hh hne
    | cons c r => exact ⟨c, r, rfl⟩
  have hc := hd c (by rw [hcr]; simp)
  obtain ⟨q1, q2, q3, q4⟩ := dig_notletter hc
  have hrun : runN digitB S = S.length := runN_all _ _ hd
  have h43 : ¬ (c.toNat = 43 ∨ c.toNat = 45) := by have := dig_range hc; omega
  have h45 : ¬ c.toNat = 45 := by omega
  have hp : Lib.parseIntB 64 S = if 9223372036854775808 ≤ n then .range else .ok n := by
    have h1 : Lib.parseUintB 64 S = .ok n := by
      unfold Lib.parseUintB
      rw [if_neg hne, parseM_ok S 0 hd (by omega), hv]
    rw [hcr] at h1 ⊢
    unfold Lib.parseIntB
    have h43' : ¬ c.toNat = 43 := fun h => h43 (.inl h)
    simp only [h43', h1, h45, or_self, not_false_eq_true, true_and, false_and, if_false]
  have hsp : sp S 0 [] = match oneF S with
      | .err e => ([], 0, e)
      | .ok k t x m => sp (S.drop m) (0 + m) ([] ++ [⟨k, t, x, 0⟩]) := by
    rw [hcr, sp_cons, if_neg (by simp [q2, q3]), if_neg q4]
    cases oneF (c :: r) <;> rfl
  have ho : oneF S = numberF S := by
    rw [hcr]
    simp only [oneF, q1, hc, if_true, Bool.false_eq_true, if_false]
  rw [hsp, ho]
  unfold numberF
  rw [hrun, List.take_length, hp]
  by_cases hb : 9223372036854775808 ≤ n
  · rw [if_pos hb, if_pos (.inr (by omega))]
  · rw [if_neg hb]
    by_cases h0 : 0 < z
    · have h1 : 1 < S.length ∧ S.head? = some 48 := by
        obtain ⟨y, rfl⟩ : ∃ y, z = y + 1 := ⟨z - 1, by omega⟩
        have h2 : 0 < (decF 20 n).length := List.length_pos_iff.2 e1
        refine ⟨by rw [hS]; simp only [List.length_append, List.length_replicate]; omega, by rw [hS, List.replicate_succ]; rfl⟩
      simp only [if_pos h1]
      rw [if_pos (.inl h0)]
    · have hz0 : z = 0 := by omega
      subst hz0
      have hS' : S = decF 20 n := by simpa using hS
      have h1 : ¬ (1 < S.length ∧ S.head? = some 48) := by
        rw [hS']
        rintro ⟨a, b⟩
        by_cases hn0 : 0 < n
        · exact e5 hn0 b
        · have := e6 (by omega); omega
      simp only [if_neg h1]
      rw [if_neg (by omega), List.drop_length, sp_nil]
      simp
end Go.AM.YtjdadagnfnaboaaGreatDoorT
/- The slim code of these functions: printed by genslim.py. -/
namespace Go.AM.YtjdadagnfnaboaaGreatDoorT
open Go Go.AM Go.Proofs
set_option maxRecDepth 100000
/-! strconv.FormatUint -/
abbrev R18_0 : List SOp := [(some 4, .assign (.const (.string ⟨#[]⟩)), none)]
abbrev R18_1 : List SOp := [(some 5, .move (.tmp 0), none),
  (some 6, .move (.tmp 1), none),
  (some 7, .call ⟨.value (.func 41), #[(.tmp 5), (.tmp 6)], #[37, 3]⟩, none),
  (some 4, .assign (.tmp 7), none)]
abbrev S18 : SCode := .seq (.reg R18_0) (.seq (.reg R18_1) (.ret))
theorem slim18 : slimC tab 18 (Tryz.f18.body.getD .skip) = S18 := by kernel_rfl
theorem wf18 {xs : List V} {H : Hp} {Q : V → Hp → Prop} (h : WC tab S18 (frame xs 0 .nil) H (resQ tab [.tmp 4] Q)) : WF tab 18 xs H Q := WF.of_slim (T := tab) (f := 18) rfl fn18 rfl slim18 rfl h
end Go.AM.YtjdadagnfnaboaaGreatDoorT
/- What simp opens in the walks of this seat: printed by genset.py. -/
namespace Go.AM.YtjdadagnfnaboaaGreatDoorT
open Go Go.AM
attribute [simp] wp_skip wp_reg wp_dreg wp_seq wp_cond wp_block wp_loop wp_exit wp_ret wpL_nil wpL_cons wpD_nil wpD_cons sq_nrm sq_exit sq_ret nm_ap bl_nrm bl_ret bl_exit cd_true cd_false lp_nrm lp_exit lp_ret rs_ret rs_nrm rsQ contL contD kV kAW kA kW kC kCo wantQ oq_p oq_r oq_w oq_c oq_alloc oq_box oq_bs oq_mm oq_ms oq_cv dV dAW dA dW dC dCo isCall skD od_p od_r od_w od_c od_alloc od_box od_bs od_mm od_ms od_cv wantDQ wantS kind convKd lenV_sl lenV_nils lenV_sle lenV_str evP evR evA evW evAW descOf frame opd opds Tr.get_set putD delD resOf getAll kbOk afterA isPt winOk ofVal binInt binStr binE_int binE_str binE_shl binE_shr binE_eql_agg binE_neq_agg binE_eql_bool binE_neq_bool binE_eql_pn binE_neq_pn binE_eql_nn binE_neq_nn binE_eql_in binE_neq_in binE_eql_ii binE_neq_ii isBoolD isPtrD isIfD isMpD isSlD isC cells_agg cells_bool one_bool cells_int one_int cells_str one_str cells_nilp one_nilp cells_ptr one_ptr cells_nils one_nils cells_sle one_sle cells_sl one_sl cells_nilm one_nilm cells_mp one_mp cells_nilf one_nilf cells_fn one_fn cells_nili one_nili cells_ifc one_ifc isAgg isMapT optI partV zeroV keyOk keyOk1 keyOkS keyOkL eqS sameL same1 sameK esOf partsV fillV placesV setCells mapKeyOk Hp.get_flush Hp.stale_flush Hp.next_flush repl List.nil_append get_new_self get_put_self get_bump next_bump st_new st_put st_bump Hp.next_new Hp.next_put flush_of IntKind.bits tab_ng nna1 nnb1 nna2 nnb2 nna3 nnb3 nna4 nnb4 nna5 nnb5 nna6 nnb6 nna7 nnb7 nna8 nnb8
attribute [simp] ty1 ty2 ty3 ty4 ty5 ty6 ty7 ty8 ty9 ty10 ty11 ty12 ty13 ty14 ty15 ty16 ty17 ty18 ty19 ty20 ty21 ty22 ty23 ty24 ty26 ty27 ty28 ty29 ty30 ty31 ty32 ty33 ty34 ty35 ty36 ty37 ty38 ty39 ty40 ty41 ty42 ty43 ty44 ty45 ty46 ty47 ty48 ty49 ty50 ty51 ty52 ty53 ty54 ty55 ty56 ty57 ty58 ty59 ty60 ty61 ty62 ty63 ty65 ty66 ty67 ty69 ty70 ty71 ty72 ty73 ty74 ty75 ty77 ty78 ty79 ty80 ty81 ty82 ty83 ty84 ty85 ty86 ty87 ty88 ty89 ty90 ty91 ty92 ty93 ty94 ty95 ty97 ty98 ty99 ty100 ty101 ty102 ty103 ty104 ty105 ty106 ty107 ty108 ty109 ty110 ty112 ty114 ty115 ty116 ty117 ty118 ty120 ty121 ty122 ty123 ty124 ty125 ty126 ty127 ty128 ty130 ty131 ty132 ty133 ty134 ty135 ty136 ty137 ty138 ty139 ty140 ty141 ty142 ty143 ty144 ty145 ty146 ty147 ty150 ty151 ty152 ty153 ty154 ty155 ty156 ty157 ty158 ty159 ty160 ty161 ty162 ty163 ty164 ty165 ty166 ty167 ty168 ty169 ty170 ty171 ty172 ty173 ty174 ty175 ty176 ty177 ty178 ty179 ty180 ty181 ty183 ty184 ty185 ty186 ty187 ty188 ty189 ty190 ty191 ty192 ty193 ty194 ty195 ty196 ty198 ty199 ty200 ty202 ty203 ty204 ty205 ty206 ty207 ty208 ty209 ty210 ty211 ty212 ty214 ty215 ty216 ty217 ty218 ty219 ty220 ty221 ty222 ty223 ty224 ty225 ty226 ty227 ty228
end Go.AM.YtjdadagnfnaboaaGreatDoorT
/- LexNumbers. -/
set_option linter.unusedVariables false
set_option linter.unusedSimpArgs false
set_option maxRecDepth 100000
namespace Go.AM.YtjdadagnfnaboaaGreatDoorT
open Go Go.AM Go.Proofs
theorem fmt18 {H : Hp} (hs : H.stale = []) (n : Nat) (hn : n < 18446744073709551616) : WF tab 18 [.int .u64 n, .int .i64 10] H fun v H' => v = .str (decF 20 n) ∧ H' = H := by
  refine wf18 (wp_sound _ ?_)
  simp [hs]
  refine wf_told (f := 41) rfl fn41 rfl (H' := H) (v := .str (decF 20 n)) ?_ ?_
  · have h0 : (0 : Int) ≤ n := by omega
    have h1 : (n : Int) < 18446744073709551616 := by omega
    simp [fuE, h0, h1]
  · simp [hs]
theorem lexNumbers8 (n z : Nat) (hn : n < 18446744073709551616) (hz : z < 256) : WF tab 8 [.int .u64 n, .int .u8 z] (hO gl5) fun v H' => v = .bool true := by
  have ht : (z : Int).tmod 3 = ((z % 3 : Nat) : Int) := by rw [Int.tmod_eq_emod_of_nonneg (by omega)]; omega
  have hk : z % 3 ≤ 2 := by omega
  generalize z % 3 = k at ht hk
  have hw0 : wr .i64 ((k : Int)) = k := wr_i64 (by omega) (by omega)
  refine wf8 (wp_sound _ ?_)
  have g0 : Gd (hO gl5) := by simpa using gd5 []
  simp [g0.st]
  refine awake5.mono ?_
  rintro v H1 ⟨rfl, e1⟩
  have g1 := g0.ext e1 (fun h => h)
  simp [g1.st, ht, hw0]
  refine (rep17 [48] k (by simp; omega) (by omega)).mono ?_
  rintro v H2 ⟨rfl, rfl⟩
  have hrep : Lib.repeatL [48] k = List.replicate k 48 := by
    have := Lib.repeatL_replicate 48 1 k
    simpa using this
  rw [hrep]
  simp [g1.st]
  refine (fmt18 g1.st n hn).mono ?_
  rintro v H2 ⟨rfl, rfl⟩
  obtain ⟨hl, hsp⟩ := number_law k n hk hn _ rfl
  obtain ⟨S, hS⟩ : ∃ S, List.replicate k (48 : UInt8) ++ decF 20 n = S := ⟨_, rfl⟩
  rw [hS] at hl hsp
  have hl1 : k + (decF 20 n).length ≤ 9223372036854775807 := by
    have := congrArg List.length hS
    simp at this
    omega
  simp [g1.st, hl1, hS]
  refine (split14 g1 S (by omega)).mono ?_
  rintro v H3 ⟨sl, rfl, ho, e3⟩
  have hR : spF (S.length + 1) S 0 [] = sp S 0 [] := rfl
  rw [hR, hsp] at ho ⊢
  have g3 := g1.ext e3 (fun h => h)
  by_cases hk0 : 0 < k
  · have hk' : 0 < (k : Int) := by omega
    rw [if_pos (.inl hk0)] at ho ⊢
    have m1 := ho.sl.lenV 29
    simp [spV, g3.st, ht, hk0, hk', m1]
  · have hk' : ¬ 0 < (k : Int) := by omega
    by_cases hb : 9223372036854775807 < n
    · have hb' : 9223372036854775807 < (n : Int) := by omega
      rw [if_pos (.inr hb)] at ho ⊢
      have m1 := ho.sl.lenV 29
      simp [spV, g3.st, ht, hk0, hk', hb, hb', m1]
    · have hb' : ¬ 9223372036854775807 < (n : Int) := by omega
      rw [if_neg (by omega)] at ho ⊢
      have m1 := ho.sl.lenV 29
      obtain ⟨b, cs, rfl, u3, g3', p3, q3⟩ := ho.load (i := 0) rfl
      have c0 : cs[0]? = some (.int .i64 2) := by have := congrArg (fun l => l[0]?) q3; simpa using this
      have c1 : cs[1]? = some (.str S) := by have := congrArg (fun l => l[1]?) q3; simpa using this
      have c2 : cs[2]? = some (.int .i64 n) := by have := congrArg (fun l => l[2]?) q3; simpa using this
      have hwn : wr .i64 (n : Int) = n := wr_i64 (by omega) (by omega)
      simp [spV, g3.st, ht, hk0, hk', hb, hb', m1, g3', p3, q3, hwn, c0, c1, c2]
end Go.AM.YtjdadagnfnaboaaGreatDoorT
