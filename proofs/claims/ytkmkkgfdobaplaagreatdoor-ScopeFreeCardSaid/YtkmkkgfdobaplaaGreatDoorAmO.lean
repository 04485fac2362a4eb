/- The laid variables of this seat's laws; a start that meets them. -/
import Derived.Test.YtkmkkgfdobaplaaGreatDoorTie
import Derived.Test.YtkmkkgfdobaplaaGreatDoorCards
import Derived.LaidMore
import Derived.Stop.Joined
set_option linter.unusedVariables false
set_option maxRecDepth 100000
namespace Go.Proofs.YtkmkkgfdobaplaaGreatDoor
open Go
theorem own : ownKnob Tryz.prog.godebug = none := by kernel_rfl
theorem laidOut : laidOutB Tryz.prog = true := by kernel_rfl
abbrev LL := List (String × DataW Unit)
def num3 : LL := [("math/bits.deBruijn32tab", Rows.laid_math_bits_deBruijn32tab), ("math/bits.deBruijn64tab", Rows.laid_math_bits_deBruijn64tab), ("internal/strconv.uint64pow10", Rows.laid_internal_strconv_uint64pow10)]
def err2 : LL := [("strconv.ErrRange", Rows.laid_strconv_ErrRange), ("strconv.ErrSyntax", Rows.laid_strconv_ErrSyntax)]
def prs : LL := [("paling/tree.signs", Rows.laid_paling_tree_signs), ("paling/parse.reserved", Rows.laid_paling_parse_reserved), ("paling/parse.levels", Rows.laid_paling_parse_levels), ("paling/parse.simple", Rows.laid_paling_parse_simple)]
/-- The laid variables of the laws of layer 7; with a row more; of layers 8, 9. -/
def laid7 : LL := num3 ++ (err2 ++ prs)
def laid7w : LL := num3 ++ (err2 ++ (prs ++ [("paling/palinglaw07.words", Rows.laid_paling_palinglaw07_words)]))
def laid8 : LL := num3 ++ (err2 ++ (prs ++ [("paling/scope.words", Rows.laid_paling_scope_words)]))
def laid9 : LL := num3 ++ (err2 ++ (("paling/code.words", Rows.laid_paling_code_words) :: (prs ++ [("paling/scope.words", Rows.laid_paling_scope_words)])))
def laid9w : LL := num3 ++ (err2 ++ (("paling/code.words", Rows.laid_paling_code_words) :: (prs ++ [("paling/scope.words", Rows.laid_paling_scope_words), ("paling/palinglaw09.words", Rows.laid_paling_palinglaw09_words)])))
theorem door7 (os : Os) (args : Array Value) : laidMetH Tryz.prog laid7 ((World.doorLaid Tryz.prog 153 os).forCall (fun _ _ => 0) ⟨#[], args, []⟩).memory :=
  laidMetH_of_parts3 (fuel := 8) (laidMet_of_run' 8 (by kernel_rfl) (by kernel_rfl)) (by kernel_rfl) (by kernel_rfl)
theorem door7w (os : Os) (args : Array Value) : laidMetH Tryz.prog laid7w ((World.doorLaid Tryz.prog 153 os).forCall (fun _ _ => 0) ⟨#[], args, []⟩).memory :=
  laidMetH_of_parts3 (fuel := 8) (laidMet_of_run' 8 (by kernel_rfl) (by kernel_rfl)) (by kernel_rfl) (by kernel_rfl)
theorem door8 (os : Os) (args : Array Value) : laidMetH Tryz.prog laid8 ((World.doorLaid Tryz.prog 153 os).forCall (fun _ _ => 0) ⟨#[], args, []⟩).memory :=
  laidMetH_of_parts3 (fuel := 8) (laidMet_of_run' 8 (by kernel_rfl) (by kernel_rfl)) (by kernel_rfl) (by kernel_rfl)
theorem door9 (os : Os) (args : Array Value) : laidMetH Tryz.prog laid9 ((World.doorLaid Tryz.prog 153 os).forCall (fun _ _ => 0) ⟨#[], args, []⟩).memory :=
  laidMetH_of_parts3 (fuel := 8) (laidMet_of_run' 8 (by kernel_rfl) (by kernel_rfl)) (by kernel_rfl) (by kernel_rfl)
theorem door9w (os : Os) (args : Array Value) : laidMetH Tryz.prog laid9w ((World.doorLaid Tryz.prog 153 os).forCall (fun _ _ => 0) ⟨#[], args, []⟩).memory :=
  laidMetH_of_parts3 (fuel := 8) (laidMet_of_run' 8 (by kernel_rfl) (by kernel_rfl)) (by kernel_rfl) (by kernel_rfl)
end Go.Proofs.YtkmkkgfdobaplaaGreatDoor
