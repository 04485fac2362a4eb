/- Walks, as calls. -/
import Derived.Test.YtkmkkgfdobaplaaGreatDoorAmD
import Derived.Test.YtkmkkgfdobaplaaGreatDoorAmW
import Derived.Test.YtkmkkgfdobaplaaGreatDoorAmE9
set_option linter.unusedVariables false
set_option linter.unusedSimpArgs false
set_option maxRecDepth 100000
namespace Go.Proofs.YtkmkkgfdobaplaaGreatDoor
open Go Go.ChangeShapes Go.WideShapes Go.ChangeAt Go.RowKit Go.AM
open Go.AM.YtkmkkgfdobaplaaGreatDoorT (tab okP Lev LevOk glc scopeO codeO signsT reservedT scopeT codeT signsL reservedL scopeL codeL simpleL)
open Go.AM.YtkmkkgfdobaplaaGreatDoorT (codeOps12 codeTexts11 awake9)
theorem codeOps_walk {W : World} (hL : laidMetH Tryz.prog laid9 W) (n : Nat) (hn : n < 256) : Won 12 #[.int .u8 n] W := by
  obtain ⟨⟨M, x, y, z, F⟩, hsc, hcd⟩ := facts9 hL
  exact topC F (r := fun _ => ⟨0, 0, 0, 0⟩) (l := [none, none, none, none, none, none]) (o0 := none) (o4 := none) no_in (scope_in hsc) (code_in hcd) no_in no_rest (.cons _ _ _ _ (.int _ _) .nil) (codeOps12 _ (awake9 F.lvs.ok none none none none none none none none) (hO_st _) n hn)
theorem codeTexts_walk {W : World} (hL : laidMetH Tryz.prog laid9w W) (n : Nat) (hn : n < 256) {a b c : Int} (ha : -9223372036854775808 ≤ a ∧ a ≤ 9223372036854775807) (hb : -9223372036854775808 ≤ b ∧ b ≤ 9223372036854775807) (hc : -9223372036854775808 ≤ c ∧ c ≤ 9223372036854775807) : Won 11 #[.int .u8 n, .int .i64 a, .int .i64 b, .int .i64 c] W := by
  obtain ⟨⟨M, x, y, z, F⟩, hsc, hcd, hw⟩ := facts9w hL
  obtain ⟨L, hL2⟩ := sls_rows (k := 19) hw (by decide)
  have hk := hL2 (dO (glc none scopeO codeO (some (.row 36 1 true [.sl 19 0 22 none 1])) M [some (.row 9 1 true codeL), none, none, none, none, none])) (sg x y z fun _ => L) 36 9 (show 19 < _ by rw [glc_len]; omega) rfl
  refine topC F (r := fun _ => L) (l := [some (.row 9 1 true codeL), none, none, none, none, none]) (o0 := none) (o4 := some (.row 36 1 true [.sl 19 0 22 none 1])) no_in (scope_in hsc) (code_in hcd) (fun o e => by cases e; exact ⟨rfl, hk.1⟩) (sl_rest ⟨rfl, hk.2⟩) (.cons _ _ _ _ (.int _ _) (.cons _ _ _ _ (.int _ _) (.cons _ _ _ _ (.int _ _) (.cons _ _ _ _ (.int _ _) .nil)))) ?_
  exact codeTexts11 _ (awake9 F.lvs.ok none _ _ none none none none none) (hO_st _) (by rw [hO_get]; rfl) (r := 19) (by rw [hO_get]; rfl) (by rw [hO_get]; rfl) (by rw [hO_next, glc_len]; omega) (by rw [hO_next, glc_len]; omega) n hn ha hb hc
end Go.Proofs.YtkmkkgfdobaplaaGreatDoor
