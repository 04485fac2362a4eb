/- The law palinglaw06.TreeQuotes returns true for every input, and leaves its arguments as they were. -/
import Derived.Test.YtjdadagnfnaboaaGreatDoorRows
import Derived.Test.YtjdadagnfnaboaaGreatDoorTie
import Derived.Test.YtjdadagnfnaboaaGreatDoorCards
import Derived.Test.YtjdadagnfnaboaaGreatDoorAmB
import Derived.Test.YtjdadagnfnaboaaGreatDoorAmT
import Derived.Test.YtjdadagnfnaboaaGreatDoorAmD
set_option linter.unusedVariables false
set_option linter.unusedSimpArgs false
namespace Go.Proofs.YtjdadagnfnaboaaGreatDoor.treeQuotes
open Go.ChangeShapes Go.WideShapes Go.ChangeAt Go.RowKit Go.AM
set_option maxRecDepth 100000 in
theorem lifted (os : Os) (started : os.Started) (H : Type) (enc : TypeId × Value → H) :
    ReturnsInHanded {} Tryz.checked os 10 .any (fun w args => (Rows.treeQuotesSpec.pre enc Tryz.prog Tryz.f10 [] false w args ∧ laidMetH Tryz.prog laid6 w) ∧ sizedMet enc Tryz.prog Tryz.f10 (OpenSpec.ofChange Rows.treeQuotesSpec) false w args)
      (Rows.treeQuotesSpec.post enc Tryz.prog Tryz.f10 false true false false) := by
  refine returnsInHanded_of_change_and (C := Tryz.checked) (X := fun w _ => laidMetH Tryz.prog laid6 w) (fun _ _ _ hh h => h.of_heap hh) own started (by kernel_rfl) Tryz.func10
    (ChangeSpec.witness_shaped (enc := enc) (C := Tryz.checked) (os := os) (X := fun w _ => laidMetH Tryz.prog laid6 w) false (World.doorLaid Tryz.prog 67 os) #[.slice none 0 0] 8 rfl (World.shaped_of_RefB (by kernel_rfl) (by kernel_rfl)) (by kernel_rfl) (by kernel_rfl) (by kernel_rfl) (door6 os _)) ?_
  intro W base args ds gs before hval0 hW _ _ hL _
  have hval : ∀ (j : Nat) t v, Tryz.f10.params[j]? = some t → args[j]? = some v → Value.okWide Tryz.prog W .any base t v := hval0
  have hW' := hW
  obtain ⟨p, q, hA0, hV, rfl, hfz, hnd⟩ := hW
  have hA : DataW.TrodAll enc Tryz.prog W 0 (fun _ => true) true Tryz.f10.params.toList args.toList ds p := hA0
  rw [Tryz.params10] at hA hval
  obtain ⟨v0, vs0, d0, ds0, p0, q0, hargs, rfl, rfl, h0, r0⟩ := trodAll_cons hA
  obtain ⟨rfl, rfl, rfl⟩ := trodAll_nil r0
  obtain rfl : args = #[v0] := by cases args; simp_all
  obtain ⟨rfl, rfl⟩ := trodVars_none hV
  have hlt : ∀ x ∈ p0 ++ ([]), x.block < W.heap.size := fun x hx => by simpa using hW'.lt x (List.mem_append_left _ hx)
  have k0 : ∀ (W' : World), Below W.heap.size W W' → DataW.Trod enc Tryz.prog W' 0 (fun b => decide (b < W.heap.size)) true 31 v0 d0 p0 :=
    fun W' hn => Below.trod laidOut (by kernel_rfl) (of_decide_eq_true (by kernel_rfl)) h0 hn (fun x hx => hlt x (List.mem_append_left _ hx))
  have o0 := hval 0 31 v0 rfl rfl
  obtain ⟨F, cs0, t0, fz0, hh0, hz0, hc0⟩ := facts6 hL
  obtain ⟨fb, fo, ft, ffz, fh⟩ := F.range
  obtain ⟨ob, r, x, l, hrv, hbi, hin⟩ := bytes_in o0 h0 YtjdadagnfnaboaaGreatDoorT.gl6 rfl fb fo
  have hwalk : Calls Tryz.prog 10 #[_] W fun e w' => e = .returned (.bool true) ∧ Below W.heap.size W w' := topO YtjdadagnfnaboaaGreatDoorT.okP F.init (l := YtjdadagnfnaboaaGreatDoorT.gl6 ++ [ob]) (s := sg fb fo r) (glOk fb fo _ fun i hi => by show i < _; simp [YtjdadagnfnaboaaGreatDoorT.gl6]; omega) (in6 fh hh0 hz0 hc0 _ [ob] (show (7 : Nat) < 9 by decide) hin) (.cons _ _ _ _ hrv .nil) (YtjdadagnfnaboaaGreatDoorT.treeQuotes10 _ (YtjdadagnfnaboaaGreatDoorT.awake6_1 ob) (hO_st _) x l hbi)
  clear hA0 hval0
  refine hwalk.mono fun e W' ⟨he, bel⟩ => ?_
  subst he
  exact ⟨_, rfl, _, _, _, [], _, [], hW', trodAll_mk1 (shut_bool Tryz.underlying4 _), (trodAll_cons_mk (k0 W' bel) trodAll_mk0), rfl, bel.frame _, fun h => by cases h⟩
theorem over : Rows.treeQuotesRow.holds Tryz.pinned (OpenSpec.ofChange Rows.treeQuotesSpec) :=
  OpenClaim.holds_of_wide 10 Tryz.f10 rfl rfl rfl rfl rfl rfl rfl ⟨rfl, rfl, rfl, rfl, rfl⟩ rfl rfl rfl rfl rfl (by kernel_rfl) Tryz.func10 (by kernel_rfl)
    (of_decide_eq_true (by kernel_rfl)) (by unfold Func.isWrapper; first | (rw [if_pos (by decide +kernel)]; kernel_rfl) | (rw [if_neg (by decide +kernel)]; exact ⟨rfl, rfl⟩))
    (fun os started H enc _ => lifted os started H enc)
theorem nfn : Tryz.prog.funcNamed "paling/palinglaw06.TreeQuotes" = some 10 := by kernel_rfl
end Go.Proofs.YtjdadagnfnaboaaGreatDoor.treeQuotes
namespace Go.Proofs.YtjdadagnfnaboaaGreatDoor
/-- TreeQuotes holds: the tied card. -/
theorem treeQuotes_holds : Rows.TreeQuotesCardSaid :=
  Claim7.holds_tied_plain_at .later [] [.data, .data, .data, .sentinel, .sentinel, .data] true (true, "bd6c930386b9cd952449528e822fa839569780827c7fba419a4b223959424b39") true
    treeQuotes.over (fun _ h => by cases h) (by kernel_rfl) (fun _ h => by cases h) treeQuotes_row_tie rfl ⟨rfl, rfl⟩ (by kernel_rfl) rfl
    (fun f fn hf hfn => by
      obtain rfl : f = 10 := Option.some.inj (treeQuotes.nfn.symm.trans hf) |>.symm
      obtain rfl : fn = Tryz.f10 := (Option.some.inj (Tryz.func10.symm.trans hfn)).symm
      exact ⟨by kernel_rfl, fun j t ht => by
        rw [Tryz.params10] at ht
        have hm : t ∈ ([31] : List Nat) := by simpa using Array.mem_of_getElem? ht
        have hall : (([31] : List Nat).all fun u => !Tryz.prog.wantsStandIn u) = true := by kernel_rfl
        exact (show Tryz.prog.wantsStandIn t = false by simpa using List.all_eq_true.1 hall t hm)⟩)
    (by kernel_rfl)
#print axioms treeQuotes_holds
end Go.Proofs.YtjdadagnfnaboaaGreatDoor
