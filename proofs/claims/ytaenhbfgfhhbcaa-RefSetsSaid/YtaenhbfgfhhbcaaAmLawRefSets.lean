/- The law palinglaw01.RefSets returns true for every input, and leaves its arguments as they were. -/
import Derived.Test.YtaenhbfgfhhbcaaRows
import Derived.Test.YtaenhbfgfhhbcaaAmRefK2
import Derived.Test.YtaenhbfgfhhbcaaAmTopR
import Derived.WalkKit
import Derived.ProofKit
import Derived.OpenShut
import Derived.ShutString
import Derived.ChangeOld
import Derived.Below
import Derived.SizedLaws
import Derived.ChangeBears2
set_option linter.unusedVariables false
set_option linter.unusedSimpArgs false
namespace Go.AM.YtaenhbfgfhhbcaaT
open Go Go.AM Go.Proofs Go.RowKit
theorem noExt {f : FuncId} {e : List V → Hp → Option (V × Hp)} (h : tab.ext f = some e) : False := by
  have h : (none : Option (List V → Hp → Option (V × Hp))) = some e := h
  cases h
theorem okP : ProgOk tab Try.prog an := ok (fun f e h => (noExt h).elim) (fun f e h => (noExt h).elim)
theorem gl0 (D : Nat → Prop) (s : Sg) : GlOk tab.ng D s := fun g hg => by rw [tab_ng] at hg; omega
theorem sets6e (v : V) (hv : v = .nils ∨ v = .sle) (o : Int) (ho : 0 ≤ o ∧ o < 256) : WF tab 6 [v, .int .u8 o] (hR []) fun v _ => v = .bool true := by
  have hu : wr .u64 o = o := wr_u64 (by omega) (by omega)
  refine wf6 (wp_sound _ ?_)
  rcases hv with rfl | rfl
  all_goals
    simp [hR_st]
    refine (awake15 _ (hR_st _)).mono ?_
    rintro v H ⟨rfl, rfl⟩
    simp [hR_st]
    refine loop_of (fun m F H => H = (hR []).new (.map false [] 0) ∧ F.get 0 = some _ ∧ F.get 1 = some (.int .u8 o) ∧ F.get 5 = some (.mp 0) ∧ F.get 16 = some (.int .i64 0) ∧ F.get 17 = some (.int .i64 0)) (m := 0) ⟨rfl, by simp; rfl, by simp, by simp [hR_next], by simp, by simp⟩ ?_
    rintro m F H ⟨rfl, f0, f1, f5, f16, f17⟩
    have hs : ((hR []).new (.map false [] 0)).stale = [] := by simp [hR_st]
    have hg : ((hR []).new (.map false [] 0)).get 0 = some (.map false [] 0) := get_new_self _ _
    simp [L6_0, f0, f1, f5, f16, f17, hs, hR_st, hu]
    refine (has20 hs hg SetOk.nil).mono ?_
    rintro v H1 ⟨rfl, hE⟩
    have hs1 := hE.st
    simp [hs1, f0, f1]
    refine WF.mono (Q := fun v H' => v = .bool false ∧ H' = H1) (wf19 (wp_sound _ ?_)) ?_
    · simp [hs1]
      refine WF.mono (Q := fun v H' => v = .int .i64 (-1) ∧ H' = H1) (wf47 (wp_sound _ ?_)) ?_
      · simp [hs1]
        refine loop_of (fun m F H => H = H1 ∧ F.get 7 = some (.int .i64 0) ∧ F.get 8 = some (.int .i64 0)) (m := 0) ⟨rfl, by simp, by simp⟩ ?_
        rintro m F H ⟨rfl, f7, f8⟩
        simp [L47_0, f7, f8, hs1]
      · rintro v H' ⟨rfl, rfl⟩
        simp [hs1]
    · rintro v H' ⟨rfl, rfl⟩
      simp [hs1]
end Go.AM.YtaenhbfgfhhbcaaT
namespace Go.Proofs.Ytaenhbfgfhhbcaa.refSets
open Go.ChangeShapes Go.WideShapes Go.ChangeAt Go.RowKit Go.AM
theorem own : ownKnob Try.prog.godebug = none := by kernel_rfl
theorem laidOut : laidOutB Try.prog = true := by kernel_rfl
theorem cells5 : Try.prog.cellsOf 5 = 1 := by kernel_rfl
theorem u8_bounds {n : Int} (h : (Lit.int .u8 n).wf = true) : 0 ≤ n ∧ n < 256 := by
  simp [Lit.wf, IntKind.min, IntKind.max, IntKind.signed, IntKind.bits] at h
  omega
theorem walk (o : Int) (ho : 0 ≤ o ∧ o < 256) (W : World) (v : Value)
    (h : v = .slice none 0 0 ∨ (∃ a c, v = .slice (some a) 0 c) ∨ ∃ (b off len cap : Nat) (zs : List Int), v = .slice (some ⟨b, off, none⟩) len cap ∧ 0 < len ∧ len ≤ cap ∧ zs.length = cap ∧ (∀ i, i < cap → W.cell? ⟨b, off + i, none⟩ = some (.int .u8 (zs.getD i 0))) ∧ ∀ n ∈ zs, 0 ≤ n ∧ n < 256) :
    Calls Try.prog 6 #[v, .int .u8 o] W fun e w' => e = .returned (.bool true) ∧ Below W.heap.size W w' := by
  rcases h with rfl | ⟨a, c, rfl⟩ | ⟨b, off, len, cap, zs, rfl, hl0, hl, hz, hc, hzb⟩
  · exact topR YtaenhbfgfhhbcaaT.okP (l := []) (s := fun _ => ⟨0, 0, 0, 0⟩) (YtaenhbfgfhhbcaaT.gl0 _ _) (fun i e z cs h => by simp at h) (.cons _ _ _ _ .nils (.cons _ _ _ _ (.int _ _) .nil)) (YtaenhbfgfhhbcaaT.sets6e .nils (.inl rfl) o ho)
  · exact topR YtaenhbfgfhhbcaaT.okP (l := []) (s := fun _ => ⟨0, 0, 0, 0⟩) (YtaenhbfgfhhbcaaT.gl0 _ _) (fun i e z cs h => by simp at h) (.cons _ _ _ _ (.sle _ _) (.cons _ _ _ _ (.int _ _) .nil)) (YtaenhbfgfhhbcaaT.sets6e .sle (.inr rfl) o ho)
  · have hx : ∀ (D : Nat → Prop) (s : Sg) (zs : List Int), RvL D s (zs.map (V.int .u8)) (zs.map (Value.int .u8)) := fun D s zs => by
      induction zs with
      | nil => exact .nil
      | cons z zs ih => exact .cons _ _ _ _ (.int _ _) ih
    have hlen : (zs.take len).length = len := by simp; omega
    have hr := rowR (l := [(5, 1, (zs.take len).map (V.int .u8))]) (s := fun _ => Loc.mk b off cap 1) (W := W) (b := b) (off := off) (cap := cap) (z := 1) (hx _ _ (zs.take len)) (List.all_eq_true.2 fun v hv => by obtain ⟨z, _, rfl⟩ := List.mem_map.1 hv; rfl) (by simp; omega) (by omega)
      (fun i hi => ⟨_, hc i (by omega)⟩) (fun i x hi => by
        rw [List.getElem?_map, Option.map_eq_some_iff] at hi
        obtain ⟨z, h1, rfl⟩ := hi
        have hil : i < len := by have := (List.getElem?_eq_some_iff.1 h1).1; omega
        rw [List.getElem?_take, if_pos hil] at h1
        rw [hc i (by omega)]
        simp [List.getD, h1])
    refine topR YtaenhbfgfhhbcaaT.okP (l := [(5, 1, (zs.take len).map (V.int .u8))]) (s := fun _ => Loc.mk b off cap 1) (YtaenhbfgfhhbcaaT.gl0 _ _) (fun i e z cs h => ?_) (.cons _ _ _ _ ?_ (.cons _ _ _ _ (.int _ _) .nil)) (vs := [.sl 0 0 len none 1, .int .u8 o]) ?_
    · cases i with
      | zero => simp only [List.getElem?_cons_zero, Option.some.injEq, Prod.mk.injEq] at h; obtain ⟨rfl, rfl, rfl⟩ := h; exact hr
      | succ i => simp at h
    · have := Rv.sln (D := dR [(5, 1, (zs.take len).map (V.int .u8))]) (s := fun _ => Loc.mk b off cap 1) 0 0 len 1 (by simp [dR]) rfl (by omega) (by omega) (by simp; omega)
      simpa using this
    · have := YtaenhbfgfhhbcaaT.sets6 ((zs.take len).map (V.int .u8)) (zs.take len) o (fun j y hj => by rw [List.getElem?_map, hj]; rfl) (fun y hy => hzb y (List.mem_of_mem_take hy)) ho
      rw [hlen] at this
      exact this
set_option maxRecDepth 100000 in
theorem lifted (os : Os) (started : os.Started) (H : Type) (enc : TypeId × Value → H) :
    ReturnsInHanded {} Try.checked os 6 .any (Rows.refSetsSpec.pre6 enc Try.prog Try.f6 Rows.refSetsRow.domain false) (Rows.refSetsSpec.post enc Try.prog Try.f6 false true false false) := by
  refine returnsInHanded_of_change_sized (C := Try.checked) own started (by kernel_rfl) Try.func6
    (ChangeSpec.witness6 (enc := enc) (C := Try.checked) false ⟨#[], #[.slice none 0 0, .int .u8 0], []⟩ 8 (by kernel_rfl) (by kernel_rfl) (by kernel_rfl) (by kernel_rfl)) ?_
  intro W base args ds gs before hval0 hW hcnd hsz0 _
  have hval : ∀ (j : Nat) t v, Try.f6.params[j]? = some t → args[j]? = some v → Value.okWide Try.prog W .any base t v := hval0
  have hW' := hW
  obtain ⟨p, q, hA0, hV, rfl, hfz, hnd⟩ := hW
  have hA : DataW.TrodAll enc Try.prog W 0 (fun _ => true) true Try.f6.params.toList args.toList ds p := hA0
  rw [Try.params6] at hA hval
  obtain ⟨v0, vs0, d0, ds0, p0, q0, hargs, rfl, rfl, h0, r0⟩ := trodAll_cons hA
  obtain ⟨v1, vs1, d1, ds1, p1, q1, rfl, rfl, rfl, h1, r1⟩ := trodAll_cons r0
  obtain ⟨rfl, rfl, rfl⟩ := trodAll_nil r1
  obtain rfl : args = #[v0, v1] := by cases args; simp_all
  obtain ⟨rfl, rfl⟩ := trodVars_none hV
  have hlt : ∀ x ∈ p0 ++ (p1 ++ []), x.block < W.heap.size := fun x hx => by simpa using hW'.lt x (List.mem_append_left _ hx)
  have k0 : ∀ (W' : World), Below W.heap.size W W' → DataW.Trod enc Try.prog W' 0 (fun b => decide (b < W.heap.size)) true 31 v0 d0 p0 :=
    fun W' hn => Below.trod laidOut (by kernel_rfl) (of_decide_eq_true (by kernel_rfl)) h0 hn (fun x hx => hlt x (List.mem_append_left _ hx))
  have k1 : ∀ (W' : World), Below W.heap.size W W' → DataW.Trod enc Try.prog W' 0 (fun b => decide (b < W.heap.size)) true 5 v1 d1 p1 :=
    fun W' hn => Below.trod laidOut (by kernel_rfl) (of_decide_eq_true (by kernel_rfl)) h1 hn (fun x hx => hlt x (List.mem_append_right _ (List.mem_append_left _ hx)))
  obtain ⟨a0, len, cap, rfl⟩ := okWide_slice Try.underlying31 (hval 0 31 v0 rfl rfl)
  obtain ⟨a1, rfl, _, _, w1⟩ := open_int Try.underlying5 (hval 1 5 v1 rfl rfl) h1
  have hwalk := walk a1 (u8_bounds w1) W (.slice a0 len cap) (by
    obtain ⟨fuel0, hf⟩ := h0
    rcases open_ints Try.underlying31 Try.underlying5 cells5 hf with ⟨hcs, hx⟩ | ⟨a, len', cap', zs, hcs, _, hl, hm, hz, hx, hcell, hwz⟩
    · simp [Value.cells] at hcs
      obtain ⟨rfl, rfl, rfl⟩ := hcs
      exact .inl rfl
    · simp [Value.cells] at hcs
      obtain ⟨rfl, rfl, rfl⟩ := hcs
      simp only [if_true] at hz
      by_cases hl0 : len = 0
      · subst hl0; exact .inr (.inl ⟨_, _, rfl⟩)
      · obtain ⟨b, off, spot⟩ := a
        have hspot : spot = none := by simpa [Addr.add] using World.cell?_spot (hcell 0 (by omega))
        subst hspot
        exact .inr (.inr ⟨b, off, len, cap, zs, rfl, by omega, hl, hz, fun i hi => by rw [← add_plain]; exact hcell i (by omega), fun n hn => u8_bounds (hwz n hn)⟩))
  clear hA0 hval0 hsz0
  refine hwalk.mono fun e W' ⟨he, bel⟩ => ?_
  subst he
  exact ⟨_, rfl, _, _, _, [], _, [], hW', trodAll_mk1 (shut_bool Try.underlying4 _), (trodAll_cons_mk (k0 W' bel) (trodAll_cons_mk (k1 W' bel) trodAll_mk0)), rfl, bel.frame _, fun h => by cases h⟩
theorem over : Rows.refSetsRow.holds Try.pinned (OpenSpec.ofChange Rows.refSetsSpec) :=
  OpenClaim.holds_of_wide 6 Try.f6 rfl rfl rfl rfl rfl rfl rfl ⟨rfl, rfl, rfl, rfl, rfl⟩ rfl rfl rfl rfl rfl (by kernel_rfl) Try.func6 (by kernel_rfl)
    (of_decide_eq_true (by kernel_rfl)) (by unfold Func.isWrapper; first | (rw [if_pos (by decide +kernel)]; kernel_rfl) | (rw [if_neg (by decide +kernel)]; exact ⟨rfl, rfl⟩))
    (fun os started H enc _ => lifted os started H enc)
end Go.Proofs.Ytaenhbfgfhhbcaa.refSets
namespace Go.Proofs.Ytaenhbfgfhhbcaa
/-- RefSets holds. -/
theorem refSets_holds : Rows.RefSetsSaid := refSets.over
#print axioms refSets_holds
end Go.Proofs.Ytaenhbfgfhhbcaa
