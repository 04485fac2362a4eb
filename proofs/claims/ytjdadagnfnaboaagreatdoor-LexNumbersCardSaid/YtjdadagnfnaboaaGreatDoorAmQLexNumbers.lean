/- The law palinglaw05.LexNumbers returns true for every input, and leaves its arguments as they were. -/
import Derived.Test.YtjdadagnfnaboaaGreatDoorRows
import Derived.Test.YtjdadagnfnaboaaGreatDoorTie
import Derived.Test.YtjdadagnfnaboaaGreatDoorCards
import Derived.Test.YtjdadagnfnaboaaGreatDoorAmN
import Derived.Test.YtjdadagnfnaboaaGreatDoorAmD
set_option linter.unusedVariables false
set_option linter.unusedSimpArgs false
namespace Go.Proofs.YtjdadagnfnaboaaGreatDoor.lexNumbers
open Go.ChangeShapes Go.WideShapes Go.ChangeAt Go.RowKit Go.AM
set_option maxRecDepth 100000 in
theorem lifted (os : Os) (started : os.Started) (H : Type) (enc : TypeId × Value → H) :
    ReturnsInHanded {} Tryz.checked os 8 .any (fun w args => (Rows.lexNumbersSpec.pre enc Tryz.prog Tryz.f8 [] false w args ∧ laidMetH Tryz.prog laid5 w) ∧ sizedMet enc Tryz.prog Tryz.f8 (OpenSpec.ofChange Rows.lexNumbersSpec) false w args)
      (Rows.lexNumbersSpec.post enc Tryz.prog Tryz.f8 false true false false) := by
  refine returnsInHanded_of_change_and (C := Tryz.checked) (X := fun w _ => laidMetH Tryz.prog laid5 w) (fun _ _ _ hh h => h.of_heap hh) own started (by kernel_rfl) Tryz.func8
    (ChangeSpec.witness_shaped (enc := enc) (C := Tryz.checked) (os := os) (X := fun w _ => laidMetH Tryz.prog laid5 w) false (World.doorLaid Tryz.prog 67 os) #[.int .u64 0, .int .u8 0] 8 rfl (World.shaped_of_RefB (by kernel_rfl) (by kernel_rfl)) (by kernel_rfl) (by kernel_rfl) (by kernel_rfl) (door5 os _)) ?_
  intro W base args ds gs before hval0 hW _ _ hL _
  have hval : ∀ (j : Nat) t v, Tryz.f8.params[j]? = some t → args[j]? = some v → Value.okWide Tryz.prog W .any base t v := hval0
  have hW' := hW
  obtain ⟨p, q, hA0, hV, rfl, hfz, hnd⟩ := hW
  have hA : DataW.TrodAll enc Tryz.prog W 0 (fun _ => true) true Tryz.f8.params.toList args.toList ds p := hA0
  rw [Tryz.params8] at hA hval
  obtain ⟨v0, vs0, d0, ds0, p0, q0, hargs, rfl, rfl, h0, r0⟩ := trodAll_cons hA
  obtain ⟨v1, vs1, d1, ds1, p1, q1, rfl, rfl, rfl, h1, r1⟩ := trodAll_cons r0
  obtain ⟨rfl, rfl, rfl⟩ := trodAll_nil r1
  obtain rfl : args = #[v0, v1] := by cases args; simp_all
  obtain ⟨rfl, rfl⟩ := trodVars_none hV
  have hlt : ∀ x ∈ p0 ++ (p1 ++ ([])), x.block < W.heap.size := fun x hx => by simpa using hW'.lt x (List.mem_append_left _ hx)
  have k0 : ∀ (W' : World), Below W.heap.size W W' → DataW.Trod enc Tryz.prog W' 0 (fun b => decide (b < W.heap.size)) true 37 v0 d0 p0 :=
    fun W' hn => Below.trod laidOut (by kernel_rfl) (of_decide_eq_true (by kernel_rfl)) h0 hn (fun x hx => hlt x (List.mem_append_left _ hx))
  have k1 : ∀ (W' : World), Below W.heap.size W W' → DataW.Trod enc Tryz.prog W' 0 (fun b => decide (b < W.heap.size)) true 5 v1 d1 p1 :=
    fun W' hn => Below.trod laidOut (by kernel_rfl) (of_decide_eq_true (by kernel_rfl)) h1 hn (fun x hx => hlt x (List.mem_append_right _ (List.mem_append_left _ hx)))
  have o0 := hval 0 37 v0 rfl rfl
  have o1 := hval 1 5 v1 rfl rfl
  have F := facts5 hL
  obtain ⟨fb, fo, ft, ffz, fh⟩ := F.range
  obtain ⟨n, rfl, hn0, hn1⟩ := okw_int Tryz.underlying37 o0
  obtain ⟨z, rfl, hz0, hz1⟩ := okw_int Tryz.underlying5 o1
  have hn : 0 ≤ n ∧ n < 18446744073709551616 := by simp [IntKind.min, IntKind.max, IntKind.signed, IntKind.bits] at hn0 hn1; omega
  have hz : 0 ≤ z ∧ z < 256 := by simp [IntKind.min, IntKind.max, IntKind.signed, IntKind.bits] at hz0 hz1; omega
  obtain ⟨n, rfl⟩ := Int.eq_ofNat_of_zero_le hn.1
  obtain ⟨z, rfl⟩ := Int.eq_ofNat_of_zero_le hz.1
  have hwalk : Calls Tryz.prog 8 #[_, _] W fun e w' => e = .returned (.bool true) ∧ Below W.heap.size W w' := topO YtjdadagnfnaboaaGreatDoorT.okP F.init (l := YtjdadagnfnaboaaGreatDoorT.gl5 ++ []) (s := sg fb fo fun _ => ⟨0, 0, 0, 0⟩) (glOk fb fo _ fun i hi => by show i < _; simpa [YtjdadagnfnaboaaGreatDoorT.gl5] using hi) (in5 fh _ [] (show (7 : Nat) < 8 by decide) (fun i ob h => by simp at h)) (.cons _ _ _ _ (.int _ _) (.cons _ _ _ _ (.int _ _) .nil)) (by simpa using YtjdadagnfnaboaaGreatDoorT.lexNumbers8 n z (by omega) (by omega))
  clear hA0 hval0
  refine hwalk.mono fun e W' ⟨he, bel⟩ => ?_
  subst he
  exact ⟨_, rfl, _, _, _, [], _, [], hW', trodAll_mk1 (shut_bool Tryz.underlying4 _), (trodAll_cons_mk (k0 W' bel) (trodAll_cons_mk (k1 W' bel) trodAll_mk0)), rfl, bel.frame _, fun h => by cases h⟩
theorem over : Rows.lexNumbersRow.holds Tryz.pinned (OpenSpec.ofChange Rows.lexNumbersSpec) :=
  OpenClaim.holds_of_wide 8 Tryz.f8 rfl rfl rfl rfl rfl rfl rfl ⟨rfl, rfl, rfl, rfl, rfl⟩ rfl rfl rfl rfl rfl (by kernel_rfl) Tryz.func8 (by kernel_rfl)
    (of_decide_eq_true (by kernel_rfl)) (by unfold Func.isWrapper; first | (rw [if_pos (by decide +kernel)]; kernel_rfl) | (rw [if_neg (by decide +kernel)]; exact ⟨rfl, rfl⟩))
    (fun os started H enc _ => lifted os started H enc)
theorem nfn : Tryz.prog.funcNamed "paling/palinglaw05.LexNumbers" = some 8 := by kernel_rfl
end Go.Proofs.YtjdadagnfnaboaaGreatDoor.lexNumbers
namespace Go.Proofs.YtjdadagnfnaboaaGreatDoor
/-- LexNumbers holds: the tied card. -/
theorem lexNumbers_holds : Rows.LexNumbersCardSaid :=
  Claim7.holds_tied_plain_at .later [] [.data, .data, .data, .sentinel, .sentinel] true (true, "bd6c930386b9cd952449528e822fa839569780827c7fba419a4b223959424b39") true
    lexNumbers.over (fun _ h => by cases h) (by kernel_rfl) (fun _ h => by cases h) lexNumbers_row_tie rfl ⟨rfl, rfl⟩ (by kernel_rfl) rfl
    (fun f fn hf hfn => by
      obtain rfl : f = 8 := Option.some.inj (lexNumbers.nfn.symm.trans hf) |>.symm
      obtain rfl : fn = Tryz.f8 := (Option.some.inj (Tryz.func8.symm.trans hfn)).symm
      exact ⟨by kernel_rfl, fun j t ht => by
        rw [Tryz.params8] at ht
        have hm : t ∈ ([37, 5] : List Nat) := by simpa using Array.mem_of_getElem? ht
        have hall : (([37, 5] : List Nat).all fun u => !Tryz.prog.wantsStandIn u) = true := by kernel_rfl
        exact (show Tryz.prog.wantsStandIn t = false by simpa using List.all_eq_true.1 hall t hm)⟩)
    (by kernel_rfl)
#print axioms lexNumbers_holds
end Go.Proofs.YtjdadagnfnaboaaGreatDoor
