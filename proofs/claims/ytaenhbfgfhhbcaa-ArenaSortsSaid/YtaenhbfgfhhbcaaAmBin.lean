/- Binary operations, one law each (simp is not to open 'bin'). -/
import Derived.Test.YtaenhbfgfhhbcaaAmSlim
set_option linter.unusedVariables false
namespace Go.AM
open Go
theorem bin_bool_eql (d : Option Ds) (a b : Bool) (h : isBoolD d = true) : bin .eql d (.bool a) (.bool b) = some (.bool (a == b)) := by simp only [bin, h, if_true]
theorem bin_bool_neq (d : Option Ds) (a b : Bool) (h : isBoolD d = true) : bin .neq d (.bool a) (.bool b) = some (.bool (a != b)) := by simp only [bin, h, if_true]
theorem bin_bool_eql' (a b : Bool) : bin .eql (some .bool) (.bool a) (.bool b) = some (.bool (a == b)) := bin_bool_eql _ a b rfl
theorem bin_bool_neq' (a b : Bool) : bin .neq (some .bool) (.bool a) (.bool b) = some (.bool (a != b)) := bin_bool_neq _ a b rfl
theorem bin_nil_eql' (e : TypeId) : bin .eql (some (.ptr e)) .nilp .nilp = some (.bool true) := by simp only [bin, isPtrD, if_true]
theorem bin_nil_neq' (e : TypeId) : bin .neq (some (.ptr e)) .nilp .nilp = some (.bool false) := by simp only [bin, isPtrD, if_true]
theorem bin_ptr_eql' (e : TypeId) (b o : Nat) : bin .eql (some (.ptr e)) (.ptr b o) .nilp = some (.bool false) := by simp only [bin, isPtrD, if_true]
theorem bin_ptr_neq' (e : TypeId) (b o : Nat) : bin .neq (some (.ptr e)) (.ptr b o) .nilp = some (.bool true) := by simp only [bin, isPtrD, if_true]
theorem bin_nil_eql (d : Option Ds) (h : isPtrD d = true) : bin .eql d .nilp .nilp = some (.bool true) := by simp only [bin, h, if_true]
theorem bin_nil_neq (d : Option Ds) (h : isPtrD d = true) : bin .neq d .nilp .nilp = some (.bool false) := by simp only [bin, h, if_true]
theorem bin_ptr_eql (d : Option Ds) (b o : Nat) (h : isPtrD d = true) : bin .eql d (.ptr b o) .nilp = some (.bool false) := by simp only [bin, h, if_true]
theorem bin_ptr_neq (d : Option Ds) (b o : Nat) (h : isPtrD d = true) : bin .neq d (.ptr b o) .nilp = some (.bool true) := by simp only [bin, h, if_true]
theorem bin_str (op : BinOp) (d : Option Ds) (a b : List UInt8) (h : op ≠ .shl) (h' : op ≠ .shr) : bin op d (.str a) (.str b) = binStr op a b := by cases op <;> simp_all [bin]
theorem bin_int (op : BinOp) (d : Option Ds) (k : IntKind) (a b : Int) (h : op ≠ .shl) (h' : op ≠ .shr) : bin op d (.int k a) (.int k b) = binInt op k a b := by cases op <;> simp_all [bin]
theorem bin_shl (d : Option Ds) (k k' : IntKind) (a n : Int) (h : 0 ≤ n) : bin .shl d (.int k a) (.int k' n) = some (.int k (wr k (a * 2 ^ (min n.toNat k.bits)))) := by simp [bin, h]
theorem bin_shr (d : Option Ds) (k k' : IntKind) (a n : Int) (h : 0 ≤ n) : bin .shr d (.int k a) (.int k' n) = some (.int k (a.fdiv (2 ^ (min n.toNat k.bits)))) := by simp [bin, h]
end Go.AM
