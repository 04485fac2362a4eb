/- The law palinglaw03.ArenaSorts returns true for every input, and leaves its arguments as they were. -/
import Derived.Test.YtaenhbfgfhhbcaaRows
import Derived.Test.YtaenhbfgfhhbcaaAmOr2
import Derived.Test.YtaenhbfgfhhbcaaAmOpen
set_option linter.unusedVariables false
set_option linter.unusedSimpArgs false
namespace Go.Proofs.Ytaenhbfgfhhbcaa.arenaSorts
open Go.ChangeShapes Go.WideShapes Go.ChangeAt Go.RowKit Go.AM
theorem own : ownKnob Try.prog.godebug = none := by kernel_rfl
theorem laidOut : laidOutB Try.prog = true := by kernel_rfl
theorem okP : ProgOk YtaenhbfgfhhbcaaT.tab Try.prog YtaenhbfgfhhbcaaT.an := YtaenhbfgfhhbcaaT.ok (fun f e h => (YtaenhbfgfhhbcaaT.noExt h).elim) (fun f e h => (YtaenhbfgfhhbcaaT.noExt h).elim)
theorem gl0 (D : Nat → Prop) (s : Sg) : GlOk YtaenhbfgfhhbcaaT.tab.ng D s := fun g hg => by rw [YtaenhbfgfhhbcaaT.tab_ng] at hg; omega
theorem u8_bounds {n : Int} (h : (Lit.int .u8 n).wf = true) : 0 ≤ n ∧ n < 256 := by
  simp [Lit.wf, IntKind.min, IntKind.max, IntKind.signed, IntKind.bits] at h
  omega
theorem cells5 : Try.prog.cellsOf 5 = 1 := by kernel_rfl
theorem cells2 : Try.prog.cellsOf 2 = 1 := by kernel_rfl
theorem cells9 : Try.prog.cellsOf 9 = 1 := by kernel_rfl
theorem cells56 : Try.prog.cellsOf 56 = 3 := by kernel_rfl
set_option maxRecDepth 100000 in
theorem open56 {H : Type} {enc : TypeId × Value → H} {W : World} {base : Nat} {v : Value} {d : DataW H} {p : List MemPlace} (hv : Value.okWide Try.prog W .any base 56 v) (h : DataW.Trod enc Try.prog W 0 (fun _ => true) true 56 v d p) :
    ∃ k n s, v = .agg #[.int .u8 k, .int .i64 n, .string s] ∧ (0 ≤ k ∧ k < 256) := by
  obtain ⟨cs, rfl, hcs⟩ := okWide_struct Try.underlying56 hv
  rw [cells56] at hcs
  obtain ⟨fuel, hf⟩ := h
  obtain ⟨c0, c1, c2, rfl⟩ := arr3 hcs
  obtain ⟨_, hp⟩ := struct_parts Try.underlying56 hf
  simp [Value.cells] at hp
  obtain ⟨⟨n0, y0, z0, g0⟩, ⟨n1, y1, z1, g1⟩, ⟨n2, y2, z2, g2⟩⟩ := hp
  simp [cells5] at g0
  simp [cells2] at g1
  simp [cells9] at g2
  obtain ⟨k, rfl, hk⟩ := leaf_int Try.underlying5 g0
  obtain ⟨n, rfl, _⟩ := leaf_int Try.underlying2 g1
  obtain ⟨s, rfl, _⟩ := leaf_str Try.underlying9 g2
  exact ⟨k, n, s, rfl, u8_bounds hk⟩
theorem rv56 (D : Nat → Prop) (s : Sg) (k n : Int) (b : ByteArray) : Rv D s (YtaenhbfgfhhbcaaT.val3 k n b.data.toList) (.agg #[.int .u8 k, .int .i64 n, .string b]) :=
  .agg _ _ (.cons _ _ _ _ (.int _ _) (.cons _ _ _ _ (.int _ _) (.cons _ _ _ _ (rv_str D s b) .nil))) rfl
set_option maxRecDepth 100000 in
theorem lifted (os : Os) (started : os.Started) (H : Type) (enc : TypeId × Value → H) :
    ReturnsInHanded {} Try.checked os 9 .any (Rows.arenaSortsSpec.pre6 enc Try.prog Try.f9 Rows.arenaSortsRow.domain false) (Rows.arenaSortsSpec.post enc Try.prog Try.f9 false true false false) := by
  refine returnsInHanded_of_change_sized (C := Try.checked) own started (by kernel_rfl) Try.func9
    (ChangeSpec.witness6 (enc := enc) (C := Try.checked) false ⟨#[], #[.agg #[.int .u8 0, .int .i64 0, .string ⟨#[]⟩], .agg #[.int .u8 0, .int .i64 0, .string ⟨#[]⟩], .agg #[.int .u8 0, .int .i64 0, .string ⟨#[]⟩]], []⟩ 8 (by kernel_rfl) (by kernel_rfl) (by kernel_rfl) (by kernel_rfl)) ?_
  intro W base args ds gs before hval0 hW hcnd hsz0 _
  have hval : ∀ (j : Nat) t v, Try.f9.params[j]? = some t → args[j]? = some v → Value.okWide Try.prog W .any base t v := hval0
  have hW' := hW
  obtain ⟨p, q, hA0, hV, rfl, hfz, hnd⟩ := hW
  have hA : DataW.TrodAll enc Try.prog W 0 (fun _ => true) true Try.f9.params.toList args.toList ds p := hA0
  rw [Try.params9] at hA hval
  obtain ⟨v0, vs0, d0, ds0, p0, q0, hargs, rfl, rfl, h0, r0⟩ := trodAll_cons hA
  obtain ⟨v1, vs1, d1, ds1, p1, q1, rfl, rfl, rfl, h1, r1⟩ := trodAll_cons r0
  obtain ⟨v2, vs2, d2, ds2, p2, q2, rfl, rfl, rfl, h2, r2⟩ := trodAll_cons r1
  obtain ⟨rfl, rfl, rfl⟩ := trodAll_nil r2
  obtain rfl : args = #[v0, v1, v2] := by cases args; simp_all
  obtain ⟨rfl, rfl⟩ := trodVars_none hV
  have hlt : ∀ x ∈ p0 ++ (p1 ++ (p2 ++ ([]))), x.block < W.heap.size := fun x hx => by simpa using hW'.lt x (List.mem_append_left _ hx)
  have k0 : ∀ (W' : World), Below W.heap.size W W' → DataW.Trod enc Try.prog W' 0 (fun b => decide (b < W.heap.size)) true 56 v0 d0 p0 :=
    fun W' hn => Below.trod laidOut (by kernel_rfl) (of_decide_eq_true (by kernel_rfl)) h0 hn (fun x hx => hlt x (List.mem_append_left _ hx))
  have k1 : ∀ (W' : World), Below W.heap.size W W' → DataW.Trod enc Try.prog W' 0 (fun b => decide (b < W.heap.size)) true 56 v1 d1 p1 :=
    fun W' hn => Below.trod laidOut (by kernel_rfl) (of_decide_eq_true (by kernel_rfl)) h1 hn (fun x hx => hlt x (List.mem_append_right _ (List.mem_append_left _ hx)))
  have k2 : ∀ (W' : World), Below W.heap.size W W' → DataW.Trod enc Try.prog W' 0 (fun b => decide (b < W.heap.size)) true 56 v2 d2 p2 :=
    fun W' hn => Below.trod laidOut (by kernel_rfl) (of_decide_eq_true (by kernel_rfl)) h2 hn (fun x hx => hlt x (List.mem_append_right _ (List.mem_append_right _ (List.mem_append_left _ hx))))
  have o0 := hval 0 56 v0 rfl rfl
  have o1 := hval 1 56 v1 rfl rfl
  have o2 := hval 2 56 v2 rfl rfl
  obtain ⟨ka, na, sa, rfl, ha⟩ := open56 o0 h0
  obtain ⟨kb, nb, sb, rfl, hb⟩ := open56 o1 h1
  obtain ⟨kc, nc, sc, rfl, hc⟩ := open56 o2 h2
  have hwalk : Calls Try.prog 9 #[_, _, _] W fun e w' => e = .returned (.bool true) ∧ Below W.heap.size W w' := topR okP (l := []) (s := fun _ => ⟨0, 0, 0, 0⟩) (gl0 _ _) (fun i e z cs h => by simp at h) (.cons _ _ _ _ (rv56 _ _ ka na sa) (.cons _ _ _ _ (rv56 _ _ kb nb sb) (.cons _ _ _ _ (rv56 _ _ kc nc sc) .nil))) (YtaenhbfgfhhbcaaT.sorts9 ka na _ kb nb _ kc nc _ ha hb hc)
  clear hA0 hval0 hsz0
  refine hwalk.mono fun e W' ⟨he, bel⟩ => ?_
  subst he
  exact ⟨_, rfl, _, _, _, [], _, [], hW', trodAll_mk1 (shut_bool Try.underlying4 _), (trodAll_cons_mk (k0 W' bel) (trodAll_cons_mk (k1 W' bel) (trodAll_cons_mk (k2 W' bel) trodAll_mk0))), rfl, bel.frame _, fun h => by cases h⟩
theorem over : Rows.arenaSortsRow.holds Try.pinned (OpenSpec.ofChange Rows.arenaSortsSpec) :=
  OpenClaim.holds_of_wide 9 Try.f9 rfl rfl rfl rfl rfl rfl rfl ⟨rfl, rfl, rfl, rfl, rfl⟩ rfl rfl rfl rfl rfl (by kernel_rfl) Try.func9 (by kernel_rfl)
    (of_decide_eq_true (by kernel_rfl)) (by unfold Func.isWrapper; first | (rw [if_pos (by decide +kernel)]; kernel_rfl) | (rw [if_neg (by decide +kernel)]; exact ⟨rfl, rfl⟩))
    (fun os started H enc _ => lifted os started H enc)
end Go.Proofs.Ytaenhbfgfhhbcaa.arenaSorts
namespace Go.Proofs.Ytaenhbfgfhhbcaa
/-- ArenaSorts holds. -/
theorem arenaSorts_holds : Rows.ArenaSortsSaid := arenaSorts.over
#print axioms arenaSorts_holds
end Go.Proofs.Ytaenhbfgfhhbcaa
