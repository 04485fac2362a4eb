/- The heaps in which the laws of layer 6 begin. -/
import Derived.Test.YtlcadokmhfjacaaGreatDoorAmX
import Derived.Test.YtlcadokmhfjacaaGreatDoorAmC3
import Derived.KernelRfl
set_option linter.unusedVariables false
set_option linter.unusedSimpArgs false
set_option maxRecDepth 1000000
namespace Go.AM.YtlcadokmhfjacaaGreatDoorT
open Go Go.AM Go.Proofs
/-- tree.signs. -/
def signsL : List V := [.str [], .str [], .str [], .str [], .str [], .str [], .str [45], .str [33], .str [43], .str [45], .str [42], .str [61, 61], .str [33, 61], .str [60], .str [], .str [], .str [], .str []]
def errR : Option Ob := some (.row 73 1 true [.ifc 249 (.ptr 14 0)])
/-- The package's variables (0 .. 13), and ErrRange's text (14). -/
def gl6 : List (Option Ob) := [some (.row 99 1 true signsL), none, none, none, none, none, none, none, none, none, none, none, none, errR, none]
/-- What an evaluation tells of the heap that it leaves. -/
def tellsO (H : Hp) : Option (V × Hp) → Option (Bool × Bool × List Nat × List (Option Ob))
  | some (.bool b, H') => some (b, Nat.ble H.next H'.next, H'.stale, (List.range H.next).map H'.get)
  | _ => none
theorem tellsO_wf {f : FuncId} {H : Hp} {k : Nat} (h : tellsO H (evCall tab k f [] H) = some (true, true, [], (List.range H.next).map H.get)) : WF tab f [] H fun v H' => v = .bool true ∧ Ext noX H H' := by
  unfold tellsO at h
  split at h
  · rename_i b H' he
    simp only [Option.some.injEq, Prod.mk.injEq] at h
    obtain ⟨rfl, h2, h3, h4⟩ := h
    refine ⟨k, _, H', he, rfl, h3, Nat.le_of_ble_eq_true h2, fun x hx _ => ?_⟩
    have := congrArg (fun l => l[x]?) h4
    simpa [hx] using this
  · cases h
end Go.AM.YtlcadokmhfjacaaGreatDoorT
