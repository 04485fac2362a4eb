/- From the abstract machine's word to a call of a program that knows no package variables. -/
import Derived.Test.YtaenhbfgfhhbcaaAmSnd
set_option linter.unusedVariables false
set_option linter.unusedSimpArgs false
namespace Go.AM
open Go Go.RowKit

def noD : Nat → Prop := fun _ => False
def noS : Sg := fun _ => ⟨0, 0, 0, 0⟩
def h0 : Hp := ⟨0, .nil, []⟩
theorem sat0 (w : World) : Sat w.heap.size w noD noS h0 w :=
  ⟨Below.refl _ _, fun _ _ _ _ _ h => h.elim, fun _ _ _ _ h => h.elim, fun _ _ _ _ _ h => h.elim, fun _ _ h => h.elim, fun _ _ _ _ _ _ _ _ _ h => h.elim⟩
theorem good0 : Good h0 := ⟨fun b _ => by simp [h0, Hp.get, Tr.get], fun x h => by simp [h0] at h⟩
theorem top {T : Tab} {P : Program} {an : FuncId → Nat → List Nat} (hT : ProgOk T P an) (hng : T.ng = 0) {f : FuncId} {vs : List V} {args : Array Value} {k : Nat} {v : V} {H' : Hp} (hr : RvL noD noS vs args.toList) (h : evCall T k f vs h0 = some (v, H')) (W : World) :
    Calls P f args W fun e w' => match e with | .returned x => Below W.heap.size W w' ∧ ∃ D s, Rv D s v x | _ => False := by
  obtain ⟨_, hc⟩ := (hT.calls (n0 := W.heap.size) (w0 := W) (Nat.le_refl _) k) f vs h0 v H' h noD noS W args (fun g hg => by rw [hng] at hg; omega) hr (sat0 W) good0 (fun b _ _ h => h)
  refine hc.mono fun e w' he => ?_
  cases e with
  | returned x =>
    obtain ⟨s', h1, h2⟩ := he
    exact ⟨h1.sat.below, _, _, h2⟩
  | panicked c => exact he
  | outgrown => exact he
theorem top_bool {T : Tab} {P : Program} {an : FuncId → Nat → List Nat} (hT : ProgOk T P an) (hng : T.ng = 0) {f : FuncId} {vs : List V} {args : Array Value} {k : Nat} {b : Bool} {H' : Hp} (hr : RvL noD noS vs args.toList) (h : evCall T k f vs h0 = some (.bool b, H')) (W : World) :
    Calls P f args W fun e w' => e = .returned (.bool b) ∧ Below W.heap.size W w' := by
  refine (top hT hng hr h W).mono fun e w' he => ?_
  cases e with
  | returned x =>
    obtain ⟨h1, D, s, h2⟩ := he
    cases h2
    exact ⟨rfl, h1⟩
  | panicked c => exact he.elim
  | outgrown => exact he.elim
end Go.AM
