/- An Awake, in whatever order the maps' entries lie. -/
import Derived.Test.YtkmkkgfdobaplaaGreatDoorAmE8x
import Derived.Test.YtkmkkgfdobaplaaGreatDoorAmE8y
namespace Go.AM.YtkmkkgfdobaplaaGreatDoorT
open Go Go.AM Go.Proofs
theorem awake8 {M : Lev} (h : LevOk M) (o0 o3 o4 x1 x2 x3 x4 x5 x6 : Option Ob) : WF tab 26 [] (hO (glc o0 scopeO o3 o4 M [x1, x2, x3, x4, x5, x6])) fun v H' => v = .bool true ∧ Ext noX (hO (glc o0 scopeO o3 o4 M [x1, x2, x3, x4, x5, x6])) H' := by
  obtain ⟨ma, mb, mc, a, b, c⟩ := M
  obtain ⟨⟨i, j, k, ha⟩, ⟨l, m, hb⟩, ⟨n, hc⟩⟩ := h
  dsimp only at ha hb hc
  subst hc
  rcases hb with rfl | rfl
  · rcases ha with rfl | rfl | rfl | rfl | rfl | rfl
    · exact aw8_00 o0 o3 o4 x1 x2 x3 x4 x5 x6 i j k l m n a b c
    · exact aw8_01 o0 o3 o4 x1 x2 x3 x4 x5 x6 i j k l m n a b c
    · exact aw8_02 o0 o3 o4 x1 x2 x3 x4 x5 x6 i j k l m n a b c
    · exact aw8_03 o0 o3 o4 x1 x2 x3 x4 x5 x6 i j k l m n a b c
    · exact aw8_04 o0 o3 o4 x1 x2 x3 x4 x5 x6 i j k l m n a b c
    · exact aw8_05 o0 o3 o4 x1 x2 x3 x4 x5 x6 i j k l m n a b c
  · rcases ha with rfl | rfl | rfl | rfl | rfl | rfl
    · exact aw8_10 o0 o3 o4 x1 x2 x3 x4 x5 x6 i j k l m n a b c
    · exact aw8_11 o0 o3 o4 x1 x2 x3 x4 x5 x6 i j k l m n a b c
    · exact aw8_12 o0 o3 o4 x1 x2 x3 x4 x5 x6 i j k l m n a b c
    · exact aw8_13 o0 o3 o4 x1 x2 x3 x4 x5 x6 i j k l m n a b c
    · exact aw8_14 o0 o3 o4 x1 x2 x3 x4 x5 x6 i j k l m n a b c
    · exact aw8_15 o0 o3 o4 x1 x2 x3 x4 x5 x6 i j k l m n a b c
end Go.AM.YtkmkkgfdobaplaaGreatDoorT
