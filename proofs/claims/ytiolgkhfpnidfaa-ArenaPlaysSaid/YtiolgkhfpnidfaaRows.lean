/-
  No cell of these rows narrows 'for every input' (looked for: loops, veiled, ifaces, maps, wideKeys, modest, calm, conditions, laid).
  DERIVED. THE GIVEN ROWS OF THIS SEAT. 9 by the template 'for every input the law returns true; each argument reads behind the call as it read before'; 0 by the template 'total and deterministic' (their statements: YtiolgkhfpnidfaaTotals.lean).
  GIVEN WITH THE SEED: the statements are not yours to turn. If you find one false, say at which input.
  Laid BY PROGRAM, IN A SANDBOX (cutbox-rows.mjs): the forced cells as the released guide's own fill.sh prints them over the translation 56e00c629989c523… (all of the seat's roots in one cut). By AI agents, Wed Nov 11 2026. No macro, syntax, notation, axiom, sorry.
-/
import Derived.Test.YtiolgkhfpnidfaaChecked
import GoSem.Claim
import GoSem.ClaimJoined
import GoSem.ClaimMapViews
import Derived.JoinedTies
import Derived.KernelRfl
namespace Go.Proofs.Ytiolgkhfpnidfaa
/- THE CELL 'sum', in the pinned program and in every row, IS THE sha256 OF THE DUMP (.gsa) THAT YtiolgkhfpnidfaaProg.lean LOADS. Nothing in Lean hashes anything: it is a label: what it is worth is what the hold of that sum in a sandbox is worth. -/
noncomputable def Try.pinned : Pinned := { name := "ytiolgkhfpnidfaa", sum := "56e00c629989c523bbb4bf31de8a8987eb47b0de5841492ab62d3ea0f09c7cb2", checked := Try.checked }
namespace Rows
def none {H : Type} : Left H := { results := [], args := [] }

/-- 'palinglaw01.RefSets': WHATEVER THE INPUT: true; the input reads as it did. -/
def refSetsSpec : ChangeSpec := { name := "refSets", fn := fun _ => fun
  | [d1, d2] => { results := [.lit (.bool true)], args := [d1, d2] }
  | _ => none }
def refSetsRow : OpenClaim := { program := "ytiolgkhfpnidfaa", sum := "56e00c629989c523bbb4bf31de8a8987eb47b0de5841492ab62d3ea0f09c7cb2", func := "paling/palinglaw01.RefSets", spec := "refSets", plainKeys := false, apart := false }
def RefSetsSaid : Prop := refSetsRow.holds Try.pinned (OpenSpec.ofChange refSetsSpec)

/-- ITS FALSE NEIGHBOUR: 'it returns false'. Refute it at one input. -/
def refSetsWrong : ChangeSpec := { name := "refSets", fn := fun _ => fun
  | [d1, d2] => { results := [.lit (.bool false)], args := [d1, d2] }
  | _ => none }
def RefSetsWrongFalsely : Prop := refSetsRow.holds Try.pinned (OpenSpec.ofChange refSetsWrong)

/-- 'palinglaw03.ArenaFull': WHATEVER THE INPUT: true; the input reads as it did. -/
def arenaFullSpec : ChangeSpec := { name := "arenaFull", fn := fun _ => fun
  | [d1, d2, d3] => { results := [.lit (.bool true)], args := [d1, d2, d3] }
  | _ => none }
def arenaFullRow : OpenClaim := { program := "ytiolgkhfpnidfaa", sum := "56e00c629989c523bbb4bf31de8a8987eb47b0de5841492ab62d3ea0f09c7cb2", func := "paling/palinglaw03.ArenaFull", spec := "arenaFull", plainKeys := false, apart := false }
def ArenaFullSaid : Prop := arenaFullRow.holds Try.pinned (OpenSpec.ofChange arenaFullSpec)

/-- ITS FALSE NEIGHBOUR: 'it returns false'. Refute it at one input. -/
def arenaFullWrong : ChangeSpec := { name := "arenaFull", fn := fun _ => fun
  | [d1, d2, d3] => { results := [.lit (.bool false)], args := [d1, d2, d3] }
  | _ => none }
def ArenaFullWrongFalsely : Prop := arenaFullRow.holds Try.pinned (OpenSpec.ofChange arenaFullWrong)

/-- 'palinglaw03.ArenaOrders': WHATEVER THE INPUT: true; the input reads as it did. -/
def arenaOrdersSpec : ChangeSpec := { name := "arenaOrders", fn := fun _ => fun
  | [d1, d2, d3] => { results := [.lit (.bool true)], args := [d1, d2, d3] }
  | _ => none }
def arenaOrdersRow : OpenClaim := { program := "ytiolgkhfpnidfaa", sum := "56e00c629989c523bbb4bf31de8a8987eb47b0de5841492ab62d3ea0f09c7cb2", func := "paling/palinglaw03.ArenaOrders", spec := "arenaOrders", plainKeys := false, apart := false }
def ArenaOrdersSaid : Prop := arenaOrdersRow.holds Try.pinned (OpenSpec.ofChange arenaOrdersSpec)

/-- ITS FALSE NEIGHBOUR: 'it returns false'. Refute it at one input. -/
def arenaOrdersWrong : ChangeSpec := { name := "arenaOrders", fn := fun _ => fun
  | [d1, d2, d3] => { results := [.lit (.bool false)], args := [d1, d2, d3] }
  | _ => none }
def ArenaOrdersWrongFalsely : Prop := arenaOrdersRow.holds Try.pinned (OpenSpec.ofChange arenaOrdersWrong)

/-- 'palinglaw03.ArenaSorts': WHATEVER THE INPUT: true; the input reads as it did. -/
def arenaSortsSpec : ChangeSpec := { name := "arenaSorts", fn := fun _ => fun
  | [d1, d2, d3] => { results := [.lit (.bool true)], args := [d1, d2, d3] }
  | _ => none }
def arenaSortsRow : OpenClaim := { program := "ytiolgkhfpnidfaa", sum := "56e00c629989c523bbb4bf31de8a8987eb47b0de5841492ab62d3ea0f09c7cb2", func := "paling/palinglaw03.ArenaSorts", spec := "arenaSorts", plainKeys := false, apart := false }
def ArenaSortsSaid : Prop := arenaSortsRow.holds Try.pinned (OpenSpec.ofChange arenaSortsSpec)

/-- ITS FALSE NEIGHBOUR: 'it returns false'. Refute it at one input. -/
def arenaSortsWrong : ChangeSpec := { name := "arenaSorts", fn := fun _ => fun
  | [d1, d2, d3] => { results := [.lit (.bool false)], args := [d1, d2, d3] }
  | _ => none }
def ArenaSortsWrongFalsely : Prop := arenaSortsRow.holds Try.pinned (OpenSpec.ofChange arenaSortsWrong)

/-- 'palinglaw03.ArenaApart': WHATEVER THE INPUT: true; the input reads as it did. -/
def arenaApartSpec : ChangeSpec := { name := "arenaApart", fn := fun _ => fun
  | [d] => { results := [.lit (.bool true)], args := [d] }
  | _ => none }
def arenaApartRow : OpenClaim := { program := "ytiolgkhfpnidfaa", sum := "56e00c629989c523bbb4bf31de8a8987eb47b0de5841492ab62d3ea0f09c7cb2", func := "paling/palinglaw03.ArenaApart", spec := "arenaApart", plainKeys := false, apart := false }
def ArenaApartSaid : Prop := arenaApartRow.holds Try.pinned (OpenSpec.ofChange arenaApartSpec)

/-- ITS FALSE NEIGHBOUR: 'it returns false'. Refute it at one input. -/
def arenaApartWrong : ChangeSpec := { name := "arenaApart", fn := fun _ => fun
  | [d] => { results := [.lit (.bool false)], args := [d] }
  | _ => none }
def ArenaApartWrongFalsely : Prop := arenaApartRow.holds Try.pinned (OpenSpec.ofChange arenaApartWrong)

/-- 'palinglaw03.ArenaPlays': WHATEVER THE INPUT: true; the input reads as it did. -/
def arenaPlaysSpec : ChangeSpec := { name := "arenaPlays", fn := fun _ => fun
  | [d] => { results := [.lit (.bool true)], args := [d] }
  | _ => none }
def arenaPlaysRow : OpenClaim := { program := "ytiolgkhfpnidfaa", sum := "56e00c629989c523bbb4bf31de8a8987eb47b0de5841492ab62d3ea0f09c7cb2", func := "paling/palinglaw03.ArenaPlays", spec := "arenaPlays", unfollowed := true, recurses := true, plainKeys := false, apart := false }
def ArenaPlaysSaid : Prop := arenaPlaysRow.holds Try.pinned (OpenSpec.ofChange arenaPlaysSpec)

/-- ITS FALSE NEIGHBOUR: 'it returns false'. Refute it at one input. -/
def arenaPlaysWrong : ChangeSpec := { name := "arenaPlays", fn := fun _ => fun
  | [d] => { results := [.lit (.bool false)], args := [d] }
  | _ => none }
def ArenaPlaysWrongFalsely : Prop := arenaPlaysRow.holds Try.pinned (OpenSpec.ofChange arenaPlaysWrong)

/-- 'palinglaw04.SweepTwice': WHATEVER THE INPUT: true; the input reads as it did. -/
def sweepTwiceSpec : ChangeSpec := { name := "sweepTwice", fn := fun _ => fun
  | [d1, d2, d3, d4] => { results := [.lit (.bool true)], args := [d1, d2, d3, d4] }
  | _ => none }
def sweepTwiceRow : OpenClaim := { program := "ytiolgkhfpnidfaa", sum := "56e00c629989c523bbb4bf31de8a8987eb47b0de5841492ab62d3ea0f09c7cb2", func := "paling/palinglaw04.SweepTwice", spec := "sweepTwice", unfollowed := true, recurses := true, plainKeys := false, apart := false }
def SweepTwiceSaid : Prop := sweepTwiceRow.holds Try.pinned (OpenSpec.ofChange sweepTwiceSpec)

/-- ITS FALSE NEIGHBOUR: 'it returns false'. Refute it at one input. -/
def sweepTwiceWrong : ChangeSpec := { name := "sweepTwice", fn := fun _ => fun
  | [d1, d2, d3, d4] => { results := [.lit (.bool false)], args := [d1, d2, d3, d4] }
  | _ => none }
def SweepTwiceWrongFalsely : Prop := sweepTwiceRow.holds Try.pinned (OpenSpec.ofChange sweepTwiceWrong)

/-- 'palinglaw04.SweepJoins': WHATEVER THE INPUT: true; the input reads as it did. -/
def sweepJoinsSpec : ChangeSpec := { name := "sweepJoins", fn := fun _ => fun
  | [d1, d2, d3, d4] => { results := [.lit (.bool true)], args := [d1, d2, d3, d4] }
  | _ => none }
def sweepJoinsRow : OpenClaim := { program := "ytiolgkhfpnidfaa", sum := "56e00c629989c523bbb4bf31de8a8987eb47b0de5841492ab62d3ea0f09c7cb2", func := "paling/palinglaw04.SweepJoins", spec := "sweepJoins", unfollowed := true, recurses := true, plainKeys := false, apart := false }
def SweepJoinsSaid : Prop := sweepJoinsRow.holds Try.pinned (OpenSpec.ofChange sweepJoinsSpec)

/-- ITS FALSE NEIGHBOUR: 'it returns false'. Refute it at one input. -/
def sweepJoinsWrong : ChangeSpec := { name := "sweepJoins", fn := fun _ => fun
  | [d1, d2, d3, d4] => { results := [.lit (.bool false)], args := [d1, d2, d3, d4] }
  | _ => none }
def SweepJoinsWrongFalsely : Prop := sweepJoinsRow.holds Try.pinned (OpenSpec.ofChange sweepJoinsWrong)

/-- 'palinglaw04.SweepCollects': WHATEVER THE INPUT: true; the input reads as it did. -/
def sweepCollectsSpec : ChangeSpec := { name := "sweepCollects", fn := fun _ => fun
  | [d1, d2, d3] => { results := [.lit (.bool true)], args := [d1, d2, d3] }
  | _ => none }
def sweepCollectsRow : OpenClaim := { program := "ytiolgkhfpnidfaa", sum := "56e00c629989c523bbb4bf31de8a8987eb47b0de5841492ab62d3ea0f09c7cb2", func := "paling/palinglaw04.SweepCollects", spec := "sweepCollects", inPlace := ["maps.clone"], unfollowed := true, recurses := true, plainKeys := false, apart := false }
def SweepCollectsSaid : Prop := sweepCollectsRow.holds Try.pinned (OpenSpec.ofChange sweepCollectsSpec)

/-- ITS FALSE NEIGHBOUR: 'it returns false'. Refute it at one input. -/
def sweepCollectsWrong : ChangeSpec := { name := "sweepCollects", fn := fun _ => fun
  | [d1, d2, d3] => { results := [.lit (.bool false)], args := [d1, d2, d3] }
  | _ => none }
def SweepCollectsWrongFalsely : Prop := sweepCollectsRow.holds Try.pinned (OpenSpec.ofChange sweepCollectsWrong)

/- THE SECOND FORM. 'bulk': how many values and letters a reading holds, each counted each time it is reached (what is shared counts as often as it is met; a slice's spare places count too). A statement '..UptoSaid' is the law's where the arguments, and the package variables that the reading takes, are together of bulk at most 1048576: NARROWER than '..Said'. Prove '..Said' where nothing that the law and all that it calls make is longer than what came in: it says more and counts as full. Else prove '..UptoSaid'. A law counts once. -/
mutual
def uptoBulk {H : Type} : DataW H → Nat
  | .lit (.string bytes) => bytes.length + 1
  | .lit _ => 1
  | .nil => 1
  | .ptr d => uptoBulk d + 1
  | .slice elems spare => uptoBulkAll elems + uptoBulkAll spare + 1
  | .agg parts => uptoBulkAll parts + 1
  | .iface _ d => uptoBulk d + 1
  | .map entries => uptoBulkEntries entries + 1
  | .held _ => 1
def uptoBulkAll {H : Type} : List (DataW H) → Nat
  | [] => 0
  | d :: r => uptoBulk d + uptoBulkAll r
def uptoBulkEntries {H : Type} : List (Lit × DataW H) → Nat
  | [] => 0
  | x :: r => uptoBulkEntry x + uptoBulkEntries r
def uptoBulkEntry {H : Type} : Lit × DataW H → Nat
  | (.string bytes, d) => bytes.length + uptoBulk d + 1
  | (_, d) => uptoBulk d + 1
 end
def uptoSmall : (H : Type) → List (DataW H) → Bool := fun _ ds => decide (uptoBulkAll ds ≤ 1048576)
def OpenSpec.upto (s : _root_.Go.ChangeSpec) : _root_.Go.OpenSpec := { _root_.Go.OpenSpec.ofChange s with cond := some uptoSmall }

/-- 'palinglaw01.RefSets', WHERE WHAT IT READS IS OF BULK AT MOST 1048576: true; the input reads as it did. -/
def refSetsUptoRow : OpenClaim := { program := "ytiolgkhfpnidfaa", sum := "56e00c629989c523bbb4bf31de8a8987eb47b0de5841492ab62d3ea0f09c7cb2", func := "paling/palinglaw01.RefSets", spec := "refSets", plainKeys := false, apart := false, narrowed := true }
def RefSetsUptoSaid : Prop := refSetsUptoRow.holds Try.pinned (OpenSpec.upto refSetsSpec)

/-- 'palinglaw03.ArenaFull', WHERE WHAT IT READS IS OF BULK AT MOST 1048576: true; the input reads as it did. -/
def arenaFullUptoRow : OpenClaim := { program := "ytiolgkhfpnidfaa", sum := "56e00c629989c523bbb4bf31de8a8987eb47b0de5841492ab62d3ea0f09c7cb2", func := "paling/palinglaw03.ArenaFull", spec := "arenaFull", plainKeys := false, apart := false, narrowed := true }
def ArenaFullUptoSaid : Prop := arenaFullUptoRow.holds Try.pinned (OpenSpec.upto arenaFullSpec)

/-- 'palinglaw03.ArenaOrders', WHERE WHAT IT READS IS OF BULK AT MOST 1048576: true; the input reads as it did. -/
def arenaOrdersUptoRow : OpenClaim := { program := "ytiolgkhfpnidfaa", sum := "56e00c629989c523bbb4bf31de8a8987eb47b0de5841492ab62d3ea0f09c7cb2", func := "paling/palinglaw03.ArenaOrders", spec := "arenaOrders", plainKeys := false, apart := false, narrowed := true }
def ArenaOrdersUptoSaid : Prop := arenaOrdersUptoRow.holds Try.pinned (OpenSpec.upto arenaOrdersSpec)

/-- 'palinglaw03.ArenaSorts', WHERE WHAT IT READS IS OF BULK AT MOST 1048576: true; the input reads as it did. -/
def arenaSortsUptoRow : OpenClaim := { program := "ytiolgkhfpnidfaa", sum := "56e00c629989c523bbb4bf31de8a8987eb47b0de5841492ab62d3ea0f09c7cb2", func := "paling/palinglaw03.ArenaSorts", spec := "arenaSorts", plainKeys := false, apart := false, narrowed := true }
def ArenaSortsUptoSaid : Prop := arenaSortsUptoRow.holds Try.pinned (OpenSpec.upto arenaSortsSpec)

/-- 'palinglaw03.ArenaApart', WHERE WHAT IT READS IS OF BULK AT MOST 1048576: true; the input reads as it did. -/
def arenaApartUptoRow : OpenClaim := { program := "ytiolgkhfpnidfaa", sum := "56e00c629989c523bbb4bf31de8a8987eb47b0de5841492ab62d3ea0f09c7cb2", func := "paling/palinglaw03.ArenaApart", spec := "arenaApart", plainKeys := false, apart := false, narrowed := true }
def ArenaApartUptoSaid : Prop := arenaApartUptoRow.holds Try.pinned (OpenSpec.upto arenaApartSpec)

/-- 'palinglaw03.ArenaPlays', WHERE WHAT IT READS IS OF BULK AT MOST 1048576: true; the input reads as it did. -/
def arenaPlaysUptoRow : OpenClaim := { program := "ytiolgkhfpnidfaa", sum := "56e00c629989c523bbb4bf31de8a8987eb47b0de5841492ab62d3ea0f09c7cb2", func := "paling/palinglaw03.ArenaPlays", spec := "arenaPlays", unfollowed := true, recurses := true, plainKeys := false, apart := false, narrowed := true }
def ArenaPlaysUptoSaid : Prop := arenaPlaysUptoRow.holds Try.pinned (OpenSpec.upto arenaPlaysSpec)

/-- 'palinglaw04.SweepTwice', WHERE WHAT IT READS IS OF BULK AT MOST 1048576: true; the input reads as it did. -/
def sweepTwiceUptoRow : OpenClaim := { program := "ytiolgkhfpnidfaa", sum := "56e00c629989c523bbb4bf31de8a8987eb47b0de5841492ab62d3ea0f09c7cb2", func := "paling/palinglaw04.SweepTwice", spec := "sweepTwice", unfollowed := true, recurses := true, plainKeys := false, apart := false, narrowed := true }
def SweepTwiceUptoSaid : Prop := sweepTwiceUptoRow.holds Try.pinned (OpenSpec.upto sweepTwiceSpec)

/-- 'palinglaw04.SweepJoins', WHERE WHAT IT READS IS OF BULK AT MOST 1048576: true; the input reads as it did. -/
def sweepJoinsUptoRow : OpenClaim := { program := "ytiolgkhfpnidfaa", sum := "56e00c629989c523bbb4bf31de8a8987eb47b0de5841492ab62d3ea0f09c7cb2", func := "paling/palinglaw04.SweepJoins", spec := "sweepJoins", unfollowed := true, recurses := true, plainKeys := false, apart := false, narrowed := true }
def SweepJoinsUptoSaid : Prop := sweepJoinsUptoRow.holds Try.pinned (OpenSpec.upto sweepJoinsSpec)

/-- 'palinglaw04.SweepCollects', WHERE WHAT IT READS IS OF BULK AT MOST 1048576: true; the input reads as it did. -/
def sweepCollectsUptoRow : OpenClaim := { program := "ytiolgkhfpnidfaa", sum := "56e00c629989c523bbb4bf31de8a8987eb47b0de5841492ab62d3ea0f09c7cb2", func := "paling/palinglaw04.SweepCollects", spec := "sweepCollects", inPlace := ["maps.clone"], unfollowed := true, recurses := true, plainKeys := false, apart := false, narrowed := true }
def SweepCollectsUptoSaid : Prop := sweepCollectsUptoRow.holds Try.pinned (OpenSpec.upto sweepCollectsSpec)

end Rows
end Go.Proofs.Ytiolgkhfpnidfaa
