/- The heaps in which the laws of this seat begin. -/
import Derived.Test.YtkmkkgfdobaplaaGreatDoorAmX
import Derived.Test.YtkmkkgfdobaplaaGreatDoorAmC3
import Derived.KernelRfl
set_option linter.unusedVariables false
set_option linter.unusedSimpArgs false
set_option maxRecDepth 1000000
namespace Go.AM.YtkmkkgfdobaplaaGreatDoorT
open Go Go.AM Go.Proofs
def signsT : List (List UInt8) := [[], [], [], [], [], [], [45], [33], [43], [45], [42], [61, 61], [33, 61], [60], [], [], [], []]
def reservedT : List (List UInt8) := [[108, 101, 116], [105, 102], [101, 108, 115, 101], [119, 104, 105, 108, 101], [114, 101, 116, 117, 114, 110], [116, 104, 114, 111, 119], [116, 114, 121], [99, 97, 116, 99, 104], [102, 110], [110, 105, 108], [116, 114, 117, 101], [102, 97, 108, 115, 101]]
def scopeT : List (List UInt8) := [[108, 101, 110], [102, 114, 101, 101, 122, 101], [102, 114, 111, 122, 101, 110], [98, 114, 97, 110, 100], [107, 105, 110, 100], [116, 101, 120, 116]]
def codeT : List (List UInt8) := [[99, 111, 110, 115, 116], [109, 111, 118, 101], [110, 101, 119], [103, 101, 116], [112, 117, 116], [99, 108, 111, 115, 101], [99, 97, 108, 108], [109, 105, 110, 117, 115], [110, 111, 116], [97, 100, 100], [115, 117, 98], [109, 117, 108], [101, 113, 117, 97, 108], [117, 110, 108, 105, 107, 101], [108, 101, 115, 115], [106, 117, 109, 112], [98, 97, 99, 107], [117, 110, 108, 101, 115, 115], [114, 101, 116, 117, 114, 110], [116, 104, 114, 111, 119], [116, 114, 121], [100, 111, 110, 101]]
def signsL : List V := [.str [], .str [], .str [], .str [], .str [], .str [], .str [45], .str [33], .str [43], .str [45], .str [42], .str [61, 61], .str [33, 61], .str [60], .str [], .str [], .str [], .str []]
def reservedL : List V := [.str [108, 101, 116], .str [105, 102], .str [101, 108, 115, 101], .str [119, 104, 105, 108, 101], .str [114, 101, 116, 117, 114, 110], .str [116, 104, 114, 111, 119], .str [116, 114, 121], .str [99, 97, 116, 99, 104], .str [102, 110], .str [110, 105, 108], .str [116, 114, 117, 101], .str [102, 97, 108, 115, 101]]
def scopeL : List V := [.str [108, 101, 110], .str [102, 114, 101, 101, 122, 101], .str [102, 114, 111, 122, 101, 110], .str [98, 114, 97, 110, 100], .str [107, 105, 110, 100], .str [116, 101, 120, 116]]
def codeL : List V := [.str [99, 111, 110, 115, 116], .str [109, 111, 118, 101], .str [110, 101, 119], .str [103, 101, 116], .str [112, 117, 116], .str [99, 108, 111, 115, 101], .str [99, 97, 108, 108], .str [109, 105, 110, 117, 115], .str [110, 111, 116], .str [97, 100, 100], .str [115, 117, 98], .str [109, 117, 108], .str [101, 113, 117, 97, 108], .str [117, 110, 108, 105, 107, 101], .str [108, 101, 115, 115], .str [106, 117, 109, 112], .str [98, 97, 99, 107], .str [117, 110, 108, 101, 115, 115], .str [114, 101, 116, 117, 114, 110], .str [116, 104, 114, 111, 119], .str [116, 114, 121], .str [100, 111, 110, 101]]
def simpleL : List V := [.str [114, 101, 116, 117, 114, 110], .int .i64 5, .str [116, 104, 114, 111, 119], .int .i64 6]
abbrev Es := List (V × V × Nat)
/-- What is laid of parse.levels: three maps, in whatever order their entries lie, whatever their stamps. -/
structure Lev where
  a : Es
  b : Es
  c : Es
  ca : Nat
  cb : Nat
  cc : Nat
def e1 (n : Nat) : V × V × Nat := (.str [33, 61], .int .i64 12, n)
def e2 (n : Nat) : V × V × Nat := (.str [60], .int .i64 13, n)
def e3 (n : Nat) : V × V × Nat := (.str [61, 61], .int .i64 11, n)
def e4 (n : Nat) : V × V × Nat := (.str [43], .int .i64 8, n)
def e5 (n : Nat) : V × V × Nat := (.str [45], .int .i64 9, n)
def e6 (n : Nat) : V × V × Nat := (.str [42], .int .i64 10, n)
structure LevOk (m : Lev) : Prop where
  a : ∃ i j k, m.a = [e1 i, e2 j, e3 k] ∨ m.a = [e1 i, e3 k, e2 j] ∨ m.a = [e2 j, e1 i, e3 k] ∨ m.a = [e2 j, e3 k, e1 i] ∨ m.a = [e3 k, e1 i, e2 j] ∨ m.a = [e3 k, e2 j, e1 i]
  b : ∃ i j, m.b = [e4 i, e5 j] ∨ m.b = [e5 j, e4 i]
  c : ∃ i, m.c = [e6 i]
def mpO (e : Es) (c : Nat) : Option Ob := some (.map true e c)
/-- The package's variables (0 .. 15; of some it is not said what they hold), the three maps (16 .. 18), what else lies there. -/
def glc (o0 o2 o3 o4 : Option Ob) (m : Lev) (l : List (Option Ob)) : List (Option Ob) :=
  [o0, some (.row 98 1 true reservedL), o2, o3, o4, some (.row 129 1 true simpleL), none, some (.row 173 1 true signsL), none, none, some (.row 189 1 true [.mp 16, .mp 17, .mp 18]), none, none, none, none, none, mpO m.a m.ca, mpO m.b m.cb, mpO m.c m.cc] ++ l
def scopeO : Option Ob := some (.row 99 1 true scopeL)
def codeO : Option Ob := some (.row 106 1 true codeL)
/-- What an evaluation tells of the heap that it leaves. -/
def tellsO (H : Hp) : Option (V × Hp) → Option (Bool × Bool × List Nat × List (Option Ob))
  | some (.bool b, H') => some (b, Nat.ble H.next H'.next, H'.stale, (List.range H.next).map H'.get)
  | _ => none
theorem tellsO_wf {f : FuncId} {H : Hp} {k : Nat} {xs : List V} (h : tellsO H (evCall tab k f xs H) = some (true, true, [], (List.range H.next).map H.get)) : WF tab f xs H fun v H' => v = .bool true ∧ Ext noX H H' := by
  unfold tellsO at h
  split at h
  · rename_i b H' he
    simp only [Option.some.injEq, Prod.mk.injEq] at h
    obtain ⟨rfl, h2, h3, h4⟩ := h
    refine ⟨k, _, H', he, rfl, h3, Nat.le_of_ble_eq_true h2, fun x hx _ => ?_⟩
    have := congrArg (fun l => l[x]?) h4
    simpa [hx] using this
  · cases h
end Go.AM.YtkmkkgfdobaplaaGreatDoorT
