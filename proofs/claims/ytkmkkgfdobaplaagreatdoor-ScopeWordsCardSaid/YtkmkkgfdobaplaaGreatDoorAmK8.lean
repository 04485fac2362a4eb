/- Walks, as calls. -/
import Derived.Test.YtkmkkgfdobaplaaGreatDoorAmD
import Derived.Test.YtkmkkgfdobaplaaGreatDoorAmW
import Derived.Test.YtkmkkgfdobaplaaGreatDoorAmE8
set_option linter.unusedVariables false
set_option linter.unusedSimpArgs false
set_option maxRecDepth 100000
namespace Go.Proofs.YtkmkkgfdobaplaaGreatDoor
open Go Go.ChangeShapes Go.WideShapes Go.ChangeAt Go.RowKit Go.AM
open Go.AM.YtkmkkgfdobaplaaGreatDoorT (tab okP Lev LevOk glc scopeO codeO signsT reservedT scopeT codeT signsL reservedL scopeL codeL simpleL)
open Go.AM.YtkmkkgfdobaplaaGreatDoorT (scopeWords8 awake8)
theorem scopeWords_walk {W : World} (hL : laidMetH Tryz.prog laid8 W) (w : ByteArray) (n : Nat) (hn : n < 256) : Won 8 #[.string w, .int .u8 n] W := by
  obtain ⟨⟨M, x, y, z, F⟩, hsc⟩ := facts8 hL
  exact topC F (r := fun _ => ⟨0, 0, 0, 0⟩) (l := [none, none, none, none, none, none]) (o0 := none) (o3 := none) (o4 := none) no_in (scope_in hsc) no_in no_in no_rest (.cons _ _ _ _ (rv_str _ _ w) (.cons _ _ _ _ (.int _ _) .nil)) (scopeWords8 _ (awake8 F.lvs.ok none none none none none none none none none) (hO_st _) (by rw [hO_get]; rfl) (by rw [hO_next, glc_len]; decide) _ n hn)
end Go.Proofs.YtkmkkgfdobaplaaGreatDoor
