/- An Awake, run: half of the orders in which the maps' entries may lie. -/
import Derived.Test.YtkmkkgfdobaplaaGreatDoorAmA
set_option maxRecDepth 1000000
set_option maxHeartbeats 8000000
namespace Go.AM.YtkmkkgfdobaplaaGreatDoorT
open Go Go.AM Go.Proofs
theorem aw7_10 (o0 o2 o3 o4 x1 x2 x3 x4 x5 x6 : Option Ob) (i j k l m n a b c : Nat) : WF tab 15 [] (hO (glc o0 o2 o3 o4 ⟨[e1 i, e2 j, e3 k], [e5 m, e4 l], [e6 n], a, b, c⟩ [x1, x2, x3, x4, x5, x6])) fun v H' => v = .bool true ∧ Ext noX (hO (glc o0 o2 o3 o4 ⟨[e1 i, e2 j, e3 k], [e5 m, e4 l], [e6 n], a, b, c⟩ [x1, x2, x3, x4, x5, x6])) H' := tellsO_wf (k := 200) (by kernel_rfl)
theorem aw7_11 (o0 o2 o3 o4 x1 x2 x3 x4 x5 x6 : Option Ob) (i j k l m n a b c : Nat) : WF tab 15 [] (hO (glc o0 o2 o3 o4 ⟨[e1 i, e3 k, e2 j], [e5 m, e4 l], [e6 n], a, b, c⟩ [x1, x2, x3, x4, x5, x6])) fun v H' => v = .bool true ∧ Ext noX (hO (glc o0 o2 o3 o4 ⟨[e1 i, e3 k, e2 j], [e5 m, e4 l], [e6 n], a, b, c⟩ [x1, x2, x3, x4, x5, x6])) H' := tellsO_wf (k := 200) (by kernel_rfl)
theorem aw7_12 (o0 o2 o3 o4 x1 x2 x3 x4 x5 x6 : Option Ob) (i j k l m n a b c : Nat) : WF tab 15 [] (hO (glc o0 o2 o3 o4 ⟨[e2 j, e1 i, e3 k], [e5 m, e4 l], [e6 n], a, b, c⟩ [x1, x2, x3, x4, x5, x6])) fun v H' => v = .bool true ∧ Ext noX (hO (glc o0 o2 o3 o4 ⟨[e2 j, e1 i, e3 k], [e5 m, e4 l], [e6 n], a, b, c⟩ [x1, x2, x3, x4, x5, x6])) H' := tellsO_wf (k := 200) (by kernel_rfl)
theorem aw7_13 (o0 o2 o3 o4 x1 x2 x3 x4 x5 x6 : Option Ob) (i j k l m n a b c : Nat) : WF tab 15 [] (hO (glc o0 o2 o3 o4 ⟨[e2 j, e3 k, e1 i], [e5 m, e4 l], [e6 n], a, b, c⟩ [x1, x2, x3, x4, x5, x6])) fun v H' => v = .bool true ∧ Ext noX (hO (glc o0 o2 o3 o4 ⟨[e2 j, e3 k, e1 i], [e5 m, e4 l], [e6 n], a, b, c⟩ [x1, x2, x3, x4, x5, x6])) H' := tellsO_wf (k := 200) (by kernel_rfl)
theorem aw7_14 (o0 o2 o3 o4 x1 x2 x3 x4 x5 x6 : Option Ob) (i j k l m n a b c : Nat) : WF tab 15 [] (hO (glc o0 o2 o3 o4 ⟨[e3 k, e1 i, e2 j], [e5 m, e4 l], [e6 n], a, b, c⟩ [x1, x2, x3, x4, x5, x6])) fun v H' => v = .bool true ∧ Ext noX (hO (glc o0 o2 o3 o4 ⟨[e3 k, e1 i, e2 j], [e5 m, e4 l], [e6 n], a, b, c⟩ [x1, x2, x3, x4, x5, x6])) H' := tellsO_wf (k := 200) (by kernel_rfl)
theorem aw7_15 (o0 o2 o3 o4 x1 x2 x3 x4 x5 x6 : Option Ob) (i j k l m n a b c : Nat) : WF tab 15 [] (hO (glc o0 o2 o3 o4 ⟨[e3 k, e2 j, e1 i], [e5 m, e4 l], [e6 n], a, b, c⟩ [x1, x2, x3, x4, x5, x6])) fun v H' => v = .bool true ∧ Ext noX (hO (glc o0 o2 o3 o4 ⟨[e3 k, e2 j, e1 i], [e5 m, e4 l], [e6 n], a, b, c⟩ [x1, x2, x3, x4, x5, x6])) H' := tellsO_wf (k := 200) (by kernel_rfl)
end Go.AM.YtkmkkgfdobaplaaGreatDoorT
