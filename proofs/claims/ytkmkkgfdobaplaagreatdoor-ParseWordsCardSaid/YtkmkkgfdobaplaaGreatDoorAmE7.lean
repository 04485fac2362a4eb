/- An Awake, in whatever order the maps' entries lie. -/
import Derived.Test.YtkmkkgfdobaplaaGreatDoorAmE7x
import Derived.Test.YtkmkkgfdobaplaaGreatDoorAmE7y
namespace Go.AM.YtkmkkgfdobaplaaGreatDoorT
open Go Go.AM Go.Proofs
theorem awake7 {M : Lev} (h : LevOk M) (o0 o2 o3 o4 x1 x2 x3 x4 x5 x6 : Option Ob) : WF tab 15 [] (hO (glc o0 o2 o3 o4 M [x1, x2, x3, x4, x5, x6])) fun v H' => v = .bool true ∧ Ext noX (hO (glc o0 o2 o3 o4 M [x1, x2, x3, x4, x5, x6])) H' := by
  obtain ⟨ma, mb, mc, a, b, c⟩ := M
  obtain ⟨⟨i, j, k, ha⟩, ⟨l, m, hb⟩, ⟨n, hc⟩⟩ := h
  dsimp only at ha hb hc
  subst hc
  rcases hb with rfl | rfl
  · rcases ha with rfl | rfl | rfl | rfl | rfl | rfl
    · exact aw7_00 o0 o2 o3 o4 x1 x2 x3 x4 x5 x6 i j k l m n a b c
    · exact aw7_01 o0 o2 o3 o4 x1 x2 x3 x4 x5 x6 i j k l m n a b c
    · exact aw7_02 o0 o2 o3 o4 x1 x2 x3 x4 x5 x6 i j k l m n a b c
    · exact aw7_03 o0 o2 o3 o4 x1 x2 x3 x4 x5 x6 i j k l m n a b c
    · exact aw7_04 o0 o2 o3 o4 x1 x2 x3 x4 x5 x6 i j k l m n a b c
    · exact aw7_05 o0 o2 o3 o4 x1 x2 x3 x4 x5 x6 i j k l m n a b c
  · rcases ha with rfl | rfl | rfl | rfl | rfl | rfl
    · exact aw7_10 o0 o2 o3 o4 x1 x2 x3 x4 x5 x6 i j k l m n a b c
    · exact aw7_11 o0 o2 o3 o4 x1 x2 x3 x4 x5 x6 i j k l m n a b c
    · exact aw7_12 o0 o2 o3 o4 x1 x2 x3 x4 x5 x6 i j k l m n a b c
    · exact aw7_13 o0 o2 o3 o4 x1 x2 x3 x4 x5 x6 i j k l m n a b c
    · exact aw7_14 o0 o2 o3 o4 x1 x2 x3 x4 x5 x6 i j k l m n a b c
    · exact aw7_15 o0 o2 o3 o4 x1 x2 x3 x4 x5 x6 i j k l m n a b c
end Go.AM.YtkmkkgfdobaplaaGreatDoorT
