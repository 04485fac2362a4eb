/- Walks, as calls. -/
import Derived.Test.YtkmkkgfdobaplaaGreatDoorAmD
import Derived.Test.YtkmkkgfdobaplaaGreatDoorAmW
import Derived.Test.YtkmkkgfdobaplaaGreatDoorAmE7
set_option linter.unusedVariables false
set_option linter.unusedSimpArgs false
set_option maxRecDepth 100000
namespace Go.Proofs.YtkmkkgfdobaplaaGreatDoor
open Go Go.ChangeShapes Go.WideShapes Go.ChangeAt Go.RowKit Go.AM
open Go.AM.YtkmkkgfdobaplaaGreatDoorT (tab okP Lev LevOk glc scopeO codeO signsT reservedT scopeT codeT signsL reservedL scopeL codeL simpleL)
open Go.AM.YtkmkkgfdobaplaaGreatDoorT (parseWords4 awake7)
theorem parseWords_walk {W : World} (hL : laidMetH Tryz.prog laid7w W) (w : ByteArray) (n : Nat) (hn : n < 256) : Won 4 #[.string w, .int .u8 n] W := by
  obtain ⟨⟨M, x, y, z, F⟩, hw⟩ := facts7w hL
  obtain ⟨L, hL2⟩ := sls_rows (k := 19) hw (by decide)
  have hk := hL2 (dO (glc (some (.row 36 1 true [.sl 19 0 12 none 1])) none none none M [some (.row 9 1 true reservedL), none, none, none, none, none])) (sg x y z fun _ => L) 36 9 (show 19 < _ by rw [glc_len]; omega) rfl
  refine topC F (r := fun _ => L) (l := [some (.row 9 1 true reservedL), none, none, none, none, none]) (o0 := some (.row 36 1 true [.sl 19 0 12 none 1])) (o2 := none) (o3 := none) (o4 := none) (fun o e => by cases e; exact ⟨rfl, hk.1⟩) no_in no_in no_in (sl_rest ⟨rfl, hk.2⟩) (.cons _ _ _ _ (rv_str _ _ w) (.cons _ _ _ _ (.int _ _) .nil)) ?_
  exact parseWords4 _ (awake7 F.lvs.ok _ none none none _ none none none none none) (hO_st _) (by rw [hO_get]; rfl) (r := 19) (by rw [hO_get]; rfl) (by rw [hO_get]; rfl) (by rw [hO_next, glc_len]; omega) (by rw [hO_next, glc_len]; omega) _ n hn
end Go.Proofs.YtkmkkgfdobaplaaGreatDoor
