/-
  No cell of these rows narrows 'for every input' (looked for: loops, veiled, ifaces, maps, wideKeys, modest, calm, conditions, laid).
  DERIVED. THE GIVEN ROWS OF THIS SEAT. 5 by the template 'for every input the law returns true; each argument reads behind the call as it read before'; 0 by the template 'total and deterministic' (their statements: YtkjbgdhpeidocaaTotals.lean).
  GIVEN WITH THE SEED: the statements are not yours to turn. If you find one false, say at which input.
  Laid BY PROGRAM, IN A SANDBOX (cutbox-rows.mjs): the forced cells as the released guide's own fill.sh prints them over the translation 17c598734cf95173… (all of the seat's roots in one cut). By AI agents, Wed Nov 11 2026. No macro, syntax, notation, axiom, sorry.
-/
import Derived.Test.YtkjbgdhpeidocaaChecked
import GoSem.Claim
import GoSem.ClaimJoined
import GoSem.ClaimMapViews
import Derived.JoinedTies
import Derived.KernelRfl
namespace Go.Proofs.Ytkjbgdhpeidocaa
/- THE CELL 'sum', in the pinned program and in every row, IS THE sha256 OF THE DUMP (.gsa) THAT YtkjbgdhpeidocaaProg.lean LOADS. Nothing in Lean hashes anything: it is a label: what it is worth is what the hold of that sum in a sandbox is worth. -/
noncomputable def Try.pinned : Pinned := { name := "ytkjbgdhpeidocaa", sum := "17c598734cf951731a298b0e7937027cd114c0f2560a394a370fd7ecf5878cc2", checked := Try.checked }
namespace Rows
def none {H : Type} : Left H := { results := [], args := [] }

/-- 'laws.FnExactTreeLoad': WHATEVER THE INPUT: true; the input reads as it did. -/
def fnExactTreeLoadSpec : ChangeSpec := { name := "fnExactTreeLoad", fn := fun _ => fun
  | [d] => { results := [.lit (.bool true)], args := [d] }
  | _ => none }
def fnExactTreeLoadRow : OpenClaim := { program := "ytkjbgdhpeidocaa", sum := "17c598734cf951731a298b0e7937027cd114c0f2560a394a370fd7ecf5878cc2", func := "loop.example/schemamigration/laws.FnExactTreeLoad", spec := "fnExactTreeLoad", apart := false }
def FnExactTreeLoadSaid : Prop := fnExactTreeLoadRow.holds Try.pinned (OpenSpec.ofChange fnExactTreeLoadSpec)

/-- ITS FALSE NEIGHBOUR: 'it returns false'. Refute it at one input. -/
def fnExactTreeLoadWrong : ChangeSpec := { name := "fnExactTreeLoad", fn := fun _ => fun
  | [d] => { results := [.lit (.bool false)], args := [d] }
  | _ => none }
def FnExactTreeLoadWrongFalsely : Prop := fnExactTreeLoadRow.holds Try.pinned (OpenSpec.ofChange fnExactTreeLoadWrong)

/-- 'laws.FnExactValidTree': WHATEVER THE INPUT: true; the input reads as it did. -/
def fnExactValidTreeSpec : ChangeSpec := { name := "fnExactValidTree", fn := fun _ => fun
  | [d] => { results := [.lit (.bool true)], args := [d] }
  | _ => none }
def fnExactValidTreeRow : OpenClaim := { program := "ytkjbgdhpeidocaa", sum := "17c598734cf951731a298b0e7937027cd114c0f2560a394a370fd7ecf5878cc2", func := "loop.example/schemamigration/laws.FnExactValidTree", spec := "fnExactValidTree", apart := false }
def FnExactValidTreeSaid : Prop := fnExactValidTreeRow.holds Try.pinned (OpenSpec.ofChange fnExactValidTreeSpec)

/-- ITS FALSE NEIGHBOUR: 'it returns false'. Refute it at one input. -/
def fnExactValidTreeWrong : ChangeSpec := { name := "fnExactValidTree", fn := fun _ => fun
  | [d] => { results := [.lit (.bool false)], args := [d] }
  | _ => none }
def FnExactValidTreeWrongFalsely : Prop := fnExactValidTreeRow.holds Try.pinned (OpenSpec.ofChange fnExactValidTreeWrong)

/-- 'laws.FnExactTreeItems': WHATEVER THE INPUT: true; the input reads as it did. -/
def fnExactTreeItemsSpec : ChangeSpec := { name := "fnExactTreeItems", fn := fun _ => fun
  | [d] => { results := [.lit (.bool true)], args := [d] }
  | _ => none }
def fnExactTreeItemsRow : OpenClaim := { program := "ytkjbgdhpeidocaa", sum := "17c598734cf951731a298b0e7937027cd114c0f2560a394a370fd7ecf5878cc2", func := "loop.example/schemamigration/laws.FnExactTreeItems", spec := "fnExactTreeItems", apart := false }
def FnExactTreeItemsSaid : Prop := fnExactTreeItemsRow.holds Try.pinned (OpenSpec.ofChange fnExactTreeItemsSpec)

/-- ITS FALSE NEIGHBOUR: 'it returns false'. Refute it at one input. -/
def fnExactTreeItemsWrong : ChangeSpec := { name := "fnExactTreeItems", fn := fun _ => fun
  | [d] => { results := [.lit (.bool false)], args := [d] }
  | _ => none }
def FnExactTreeItemsWrongFalsely : Prop := fnExactTreeItemsRow.holds Try.pinned (OpenSpec.ofChange fnExactTreeItemsWrong)

/-- 'laws.FnExactTreeRange': WHATEVER THE INPUT: true; the input reads as it did. -/
def fnExactTreeRangeSpec : ChangeSpec := { name := "fnExactTreeRange", fn := fun _ => fun
  | [d1, d2, d3] => { results := [.lit (.bool true)], args := [d1, d2, d3] }
  | _ => none }
def fnExactTreeRangeRow : OpenClaim := { program := "ytkjbgdhpeidocaa", sum := "17c598734cf951731a298b0e7937027cd114c0f2560a394a370fd7ecf5878cc2", func := "loop.example/schemamigration/laws.FnExactTreeRange", spec := "fnExactTreeRange", apart := false }
def FnExactTreeRangeSaid : Prop := fnExactTreeRangeRow.holds Try.pinned (OpenSpec.ofChange fnExactTreeRangeSpec)

/-- ITS FALSE NEIGHBOUR: 'it returns false'. Refute it at one input. -/
def fnExactTreeRangeWrong : ChangeSpec := { name := "fnExactTreeRange", fn := fun _ => fun
  | [d1, d2, d3] => { results := [.lit (.bool false)], args := [d1, d2, d3] }
  | _ => none }
def FnExactTreeRangeWrongFalsely : Prop := fnExactTreeRangeRow.holds Try.pinned (OpenSpec.ofChange fnExactTreeRangeWrong)

/-- 'laws.FnTreeItems': WHATEVER THE INPUT: true; the input reads as it did. -/
def fnTreeItemsSpec : ChangeSpec := { name := "fnTreeItems", fn := fun _ => fun
  | [d] => { results := [.lit (.bool true)], args := [d] }
  | _ => none }
def fnTreeItemsRow : OpenClaim := { program := "ytkjbgdhpeidocaa", sum := "17c598734cf951731a298b0e7937027cd114c0f2560a394a370fd7ecf5878cc2", func := "loop.example/schemamigration/laws.FnTreeItems", spec := "fnTreeItems", apart := false }
def FnTreeItemsSaid : Prop := fnTreeItemsRow.holds Try.pinned (OpenSpec.ofChange fnTreeItemsSpec)

/-- ITS FALSE NEIGHBOUR: 'it returns false'. Refute it at one input. -/
def fnTreeItemsWrong : ChangeSpec := { name := "fnTreeItems", fn := fun _ => fun
  | [d] => { results := [.lit (.bool false)], args := [d] }
  | _ => none }
def FnTreeItemsWrongFalsely : Prop := fnTreeItemsRow.holds Try.pinned (OpenSpec.ofChange fnTreeItemsWrong)

/- THE SECOND FORM. 'bulk': how many values and letters a reading holds, each counted each time it is reached (what is shared counts as often as it is met; a slice's spare places count too). A statement '..UptoSaid' is the law's where the arguments, and the package variables that the reading takes, are together of bulk at most 1048576: NARROWER than '..Said'. Prove '..Said' where nothing that the law and all that it calls make is longer than what came in: it says more and counts as full. Else prove '..UptoSaid'. A law counts once. -/
mutual
def uptoBulk {H : Type} : DataW H → Nat
  | .lit (.string bytes) => bytes.length + 1
  | .lit _ => 1
  | .nil => 1
  | .ptr d => uptoBulk d + 1
  | .slice elems spare => uptoBulkAll elems + uptoBulkAll spare + 1
  | .agg parts => uptoBulkAll parts + 1
  | .iface _ d => uptoBulk d + 1
  | .map entries => uptoBulkEntries entries + 1
  | .held _ => 1
def uptoBulkAll {H : Type} : List (DataW H) → Nat
  | [] => 0
  | d :: r => uptoBulk d + uptoBulkAll r
def uptoBulkEntries {H : Type} : List (Lit × DataW H) → Nat
  | [] => 0
  | x :: r => uptoBulkEntry x + uptoBulkEntries r
def uptoBulkEntry {H : Type} : Lit × DataW H → Nat
  | (.string bytes, d) => bytes.length + uptoBulk d + 1
  | (_, d) => uptoBulk d + 1
 end
def uptoSmall : (H : Type) → List (DataW H) → Bool := fun _ ds => decide (uptoBulkAll ds ≤ 1048576)
def OpenSpec.upto (s : _root_.Go.ChangeSpec) : _root_.Go.OpenSpec := { _root_.Go.OpenSpec.ofChange s with cond := some uptoSmall }

/-- 'laws.FnExactTreeLoad', WHERE WHAT IT READS IS OF BULK AT MOST 1048576: true; the input reads as it did. -/
def fnExactTreeLoadUptoRow : OpenClaim := { program := "ytkjbgdhpeidocaa", sum := "17c598734cf951731a298b0e7937027cd114c0f2560a394a370fd7ecf5878cc2", func := "loop.example/schemamigration/laws.FnExactTreeLoad", spec := "fnExactTreeLoad", apart := false, narrowed := true }
def FnExactTreeLoadUptoSaid : Prop := fnExactTreeLoadUptoRow.holds Try.pinned (OpenSpec.upto fnExactTreeLoadSpec)

/-- 'laws.FnExactValidTree', WHERE WHAT IT READS IS OF BULK AT MOST 1048576: true; the input reads as it did. -/
def fnExactValidTreeUptoRow : OpenClaim := { program := "ytkjbgdhpeidocaa", sum := "17c598734cf951731a298b0e7937027cd114c0f2560a394a370fd7ecf5878cc2", func := "loop.example/schemamigration/laws.FnExactValidTree", spec := "fnExactValidTree", apart := false, narrowed := true }
def FnExactValidTreeUptoSaid : Prop := fnExactValidTreeUptoRow.holds Try.pinned (OpenSpec.upto fnExactValidTreeSpec)

/-- 'laws.FnExactTreeItems', WHERE WHAT IT READS IS OF BULK AT MOST 1048576: true; the input reads as it did. -/
def fnExactTreeItemsUptoRow : OpenClaim := { program := "ytkjbgdhpeidocaa", sum := "17c598734cf951731a298b0e7937027cd114c0f2560a394a370fd7ecf5878cc2", func := "loop.example/schemamigration/laws.FnExactTreeItems", spec := "fnExactTreeItems", apart := false, narrowed := true }
def FnExactTreeItemsUptoSaid : Prop := fnExactTreeItemsUptoRow.holds Try.pinned (OpenSpec.upto fnExactTreeItemsSpec)

/-- 'laws.FnExactTreeRange', WHERE WHAT IT READS IS OF BULK AT MOST 1048576: true; the input reads as it did. -/
def fnExactTreeRangeUptoRow : OpenClaim := { program := "ytkjbgdhpeidocaa", sum := "17c598734cf951731a298b0e7937027cd114c0f2560a394a370fd7ecf5878cc2", func := "loop.example/schemamigration/laws.FnExactTreeRange", spec := "fnExactTreeRange", apart := false, narrowed := true }
def FnExactTreeRangeUptoSaid : Prop := fnExactTreeRangeUptoRow.holds Try.pinned (OpenSpec.upto fnExactTreeRangeSpec)

/-- 'laws.FnTreeItems', WHERE WHAT IT READS IS OF BULK AT MOST 1048576: true; the input reads as it did. -/
def fnTreeItemsUptoRow : OpenClaim := { program := "ytkjbgdhpeidocaa", sum := "17c598734cf951731a298b0e7937027cd114c0f2560a394a370fd7ecf5878cc2", func := "loop.example/schemamigration/laws.FnTreeItems", spec := "fnTreeItems", apart := false, narrowed := true }
def FnTreeItemsUptoSaid : Prop := fnTreeItemsUptoRow.holds Try.pinned (OpenSpec.upto fnTreeItemsSpec)

end Rows
end Go.Proofs.Ytkjbgdhpeidocaa
