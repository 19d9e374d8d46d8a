/-
  No cell of these rows narrows 'for every input' (looked for: loops, veiled, ifaces, maps, wideKeys, modest, calm, conditions, laid).
  DERIVED. THE GIVEN ROWS OF THIS SEAT. 10 by the template 'for every input the law returns true; each argument reads behind the call as it read before'; 0 by the template 'total and deterministic' (their statements: YtmdlffhkhhionaaTotals.lean).
  GIVEN WITH THE SEED: the statements are not yours to turn. If you find one false, say at which input.
  Laid BY PROGRAM, IN A SANDBOX (cutbox-rows.mjs): the forced cells as the released guide's own fill.sh prints them over the translation b0e06a589ff0deca… (all of the seat's roots in one cut). By AI agents, Wed Nov 11 2026. No macro, syntax, notation, axiom, sorry.
-/
import Derived.Test.YtmdlffhkhhionaaChecked
import GoSem.Claim
import GoSem.ClaimJoined
import GoSem.ClaimMapViews
import Derived.JoinedTies
import Derived.KernelRfl
namespace Go.Proofs.Ytmdlffhkhhionaa
/- THE CELL 'sum', in the pinned program and in every row, IS THE sha256 OF THE DUMP (.gsa) THAT YtmdlffhkhhionaaProg.lean LOADS. Nothing in Lean hashes anything: it is a label: what it is worth is what the hold of that sum in a sandbox is worth. -/
noncomputable def Try.pinned : Pinned := { name := "ytmdlffhkhhionaa", sum := "b0e06a589ff0decaf2fb47d3ba982671dd867b838af02a76f55f2d4f2b6e8139", checked := Try.checked }
namespace Rows
def none {H : Type} : Left H := { results := [], args := [] }

/-- 'laws.FnExactValidActs': WHATEVER THE INPUT: true; the input reads as it did. -/
def fnExactValidActsSpec : ChangeSpec := { name := "fnExactValidActs", fn := fun _ => fun
  | [d] => { results := [.lit (.bool true)], args := [d] }
  | _ => none }
def fnExactValidActsRow : OpenClaim := { program := "ytmdlffhkhhionaa", sum := "b0e06a589ff0decaf2fb47d3ba982671dd867b838af02a76f55f2d4f2b6e8139", func := "loop.example/schemamigration/laws.FnExactValidActs", spec := "fnExactValidActs", apart := false }
def FnExactValidActsSaid : Prop := fnExactValidActsRow.holds Try.pinned (OpenSpec.ofChange fnExactValidActsSpec)

/-- ITS FALSE NEIGHBOUR: 'it returns false'. Refute it at one input. -/
def fnExactValidActsWrong : ChangeSpec := { name := "fnExactValidActs", fn := fun _ => fun
  | [d] => { results := [.lit (.bool false)], args := [d] }
  | _ => none }
def FnExactValidActsWrongFalsely : Prop := fnExactValidActsRow.holds Try.pinned (OpenSpec.ofChange fnExactValidActsWrong)

/-- 'laws.FnValidActs': WHATEVER THE INPUT: true; the input reads as it did. -/
def fnValidActsSpec : ChangeSpec := { name := "fnValidActs", fn := fun _ => fun
  | [d] => { results := [.lit (.bool true)], args := [d] }
  | _ => none }
def fnValidActsRow : OpenClaim := { program := "ytmdlffhkhhionaa", sum := "b0e06a589ff0decaf2fb47d3ba982671dd867b838af02a76f55f2d4f2b6e8139", func := "loop.example/schemamigration/laws.FnValidActs", spec := "fnValidActs", apart := false }
def FnValidActsSaid : Prop := fnValidActsRow.holds Try.pinned (OpenSpec.ofChange fnValidActsSpec)

/-- ITS FALSE NEIGHBOUR: 'it returns false'. Refute it at one input. -/
def fnValidActsWrong : ChangeSpec := { name := "fnValidActs", fn := fun _ => fun
  | [d] => { results := [.lit (.bool false)], args := [d] }
  | _ => none }
def FnValidActsWrongFalsely : Prop := fnValidActsRow.holds Try.pinned (OpenSpec.ofChange fnValidActsWrong)

/-- 'laws.FnExactIsLocked': WHATEVER THE INPUT: true; the input reads as it did. -/
def fnExactIsLockedSpec : ChangeSpec := { name := "fnExactIsLocked", fn := fun _ => fun
  | [d] => { results := [.lit (.bool true)], args := [d] }
  | _ => none }
def fnExactIsLockedRow : OpenClaim := { program := "ytmdlffhkhhionaa", sum := "b0e06a589ff0decaf2fb47d3ba982671dd867b838af02a76f55f2d4f2b6e8139", func := "loop.example/schemamigration/laws.FnExactIsLocked", spec := "fnExactIsLocked", apart := false }
def FnExactIsLockedSaid : Prop := fnExactIsLockedRow.holds Try.pinned (OpenSpec.ofChange fnExactIsLockedSpec)

/-- ITS FALSE NEIGHBOUR: 'it returns false'. Refute it at one input. -/
def fnExactIsLockedWrong : ChangeSpec := { name := "fnExactIsLocked", fn := fun _ => fun
  | [d] => { results := [.lit (.bool false)], args := [d] }
  | _ => none }
def FnExactIsLockedWrongFalsely : Prop := fnExactIsLockedRow.holds Try.pinned (OpenSpec.ofChange fnExactIsLockedWrong)

/-- 'laws.FnExactIsStrict': WHATEVER THE INPUT: true; the input reads as it did. -/
def fnExactIsStrictSpec : ChangeSpec := { name := "fnExactIsStrict", fn := fun _ => fun
  | [d] => { results := [.lit (.bool true)], args := [d] }
  | _ => none }
def fnExactIsStrictRow : OpenClaim := { program := "ytmdlffhkhhionaa", sum := "b0e06a589ff0decaf2fb47d3ba982671dd867b838af02a76f55f2d4f2b6e8139", func := "loop.example/schemamigration/laws.FnExactIsStrict", spec := "fnExactIsStrict", apart := false }
def FnExactIsStrictSaid : Prop := fnExactIsStrictRow.holds Try.pinned (OpenSpec.ofChange fnExactIsStrictSpec)

/-- ITS FALSE NEIGHBOUR: 'it returns false'. Refute it at one input. -/
def fnExactIsStrictWrong : ChangeSpec := { name := "fnExactIsStrict", fn := fun _ => fun
  | [d] => { results := [.lit (.bool false)], args := [d] }
  | _ => none }
def FnExactIsStrictWrongFalsely : Prop := fnExactIsStrictRow.holds Try.pinned (OpenSpec.ofChange fnExactIsStrictWrong)

/-- 'laws.FnIsStrict': WHATEVER THE INPUT: true; the input reads as it did. -/
def fnIsStrictSpec : ChangeSpec := { name := "fnIsStrict", fn := fun _ => fun
  | [d] => { results := [.lit (.bool true)], args := [d] }
  | _ => none }
def fnIsStrictRow : OpenClaim := { program := "ytmdlffhkhhionaa", sum := "b0e06a589ff0decaf2fb47d3ba982671dd867b838af02a76f55f2d4f2b6e8139", func := "loop.example/schemamigration/laws.FnIsStrict", spec := "fnIsStrict", apart := false }
def FnIsStrictSaid : Prop := fnIsStrictRow.holds Try.pinned (OpenSpec.ofChange fnIsStrictSpec)

/-- ITS FALSE NEIGHBOUR: 'it returns false'. Refute it at one input. -/
def fnIsStrictWrong : ChangeSpec := { name := "fnIsStrict", fn := fun _ => fun
  | [d] => { results := [.lit (.bool false)], args := [d] }
  | _ => none }
def FnIsStrictWrongFalsely : Prop := fnIsStrictRow.holds Try.pinned (OpenSpec.ofChange fnIsStrictWrong)

/-- 'laws.FnIsLocked': WHATEVER THE INPUT: true; the input reads as it did. -/
def fnIsLockedSpec : ChangeSpec := { name := "fnIsLocked", fn := fun _ => fun
  | [d] => { results := [.lit (.bool true)], args := [d] }
  | _ => none }
def fnIsLockedRow : OpenClaim := { program := "ytmdlffhkhhionaa", sum := "b0e06a589ff0decaf2fb47d3ba982671dd867b838af02a76f55f2d4f2b6e8139", func := "loop.example/schemamigration/laws.FnIsLocked", spec := "fnIsLocked", apart := false }
def FnIsLockedSaid : Prop := fnIsLockedRow.holds Try.pinned (OpenSpec.ofChange fnIsLockedSpec)

/-- ITS FALSE NEIGHBOUR: 'it returns false'. Refute it at one input. -/
def fnIsLockedWrong : ChangeSpec := { name := "fnIsLocked", fn := fun _ => fun
  | [d] => { results := [.lit (.bool false)], args := [d] }
  | _ => none }
def FnIsLockedWrongFalsely : Prop := fnIsLockedRow.holds Try.pinned (OpenSpec.ofChange fnIsLockedWrong)

/-- 'laws.FnSerialOrderPrefix': WHATEVER THE INPUT: true; the input reads as it did. -/
def fnSerialOrderPrefixSpec : ChangeSpec := { name := "fnSerialOrderPrefix", fn := fun _ => fun
  | [d] => { results := [.lit (.bool true)], args := [d] }
  | _ => none }
def fnSerialOrderPrefixRow : OpenClaim := { program := "ytmdlffhkhhionaa", sum := "b0e06a589ff0decaf2fb47d3ba982671dd867b838af02a76f55f2d4f2b6e8139", func := "loop.example/schemamigration/laws.FnSerialOrderPrefix", spec := "fnSerialOrderPrefix", apart := false }
def FnSerialOrderPrefixSaid : Prop := fnSerialOrderPrefixRow.holds Try.pinned (OpenSpec.ofChange fnSerialOrderPrefixSpec)

/-- ITS FALSE NEIGHBOUR: 'it returns false'. Refute it at one input. -/
def fnSerialOrderPrefixWrong : ChangeSpec := { name := "fnSerialOrderPrefix", fn := fun _ => fun
  | [d] => { results := [.lit (.bool false)], args := [d] }
  | _ => none }
def FnSerialOrderPrefixWrongFalsely : Prop := fnSerialOrderPrefixRow.holds Try.pinned (OpenSpec.ofChange fnSerialOrderPrefixWrong)

/-- 'laws.FnSerialOrderSerial': WHATEVER THE INPUT: true; the input reads as it did. -/
def fnSerialOrderSerialSpec : ChangeSpec := { name := "fnSerialOrderSerial", fn := fun _ => fun
  | [d] => { results := [.lit (.bool true)], args := [d] }
  | _ => none }
def fnSerialOrderSerialRow : OpenClaim := { program := "ytmdlffhkhhionaa", sum := "b0e06a589ff0decaf2fb47d3ba982671dd867b838af02a76f55f2d4f2b6e8139", func := "loop.example/schemamigration/laws.FnSerialOrderSerial", spec := "fnSerialOrderSerial", apart := false }
def FnSerialOrderSerialSaid : Prop := fnSerialOrderSerialRow.holds Try.pinned (OpenSpec.ofChange fnSerialOrderSerialSpec)

/-- ITS FALSE NEIGHBOUR: 'it returns false'. Refute it at one input. -/
def fnSerialOrderSerialWrong : ChangeSpec := { name := "fnSerialOrderSerial", fn := fun _ => fun
  | [d] => { results := [.lit (.bool false)], args := [d] }
  | _ => none }
def FnSerialOrderSerialWrongFalsely : Prop := fnSerialOrderSerialRow.holds Try.pinned (OpenSpec.ofChange fnSerialOrderSerialWrong)

/-- 'laws.FnSerialOrder': WHATEVER THE INPUT: true; the input reads as it did. -/
def fnSerialOrderSpec : ChangeSpec := { name := "fnSerialOrder", fn := fun _ => fun
  | [d] => { results := [.lit (.bool true)], args := [d] }
  | _ => none }
def fnSerialOrderRow : OpenClaim := { program := "ytmdlffhkhhionaa", sum := "b0e06a589ff0decaf2fb47d3ba982671dd867b838af02a76f55f2d4f2b6e8139", func := "loop.example/schemamigration/laws.FnSerialOrder", spec := "fnSerialOrder", apart := false }
def FnSerialOrderSaid : Prop := fnSerialOrderRow.holds Try.pinned (OpenSpec.ofChange fnSerialOrderSpec)

/-- ITS FALSE NEIGHBOUR: 'it returns false'. Refute it at one input. -/
def fnSerialOrderWrong : ChangeSpec := { name := "fnSerialOrder", fn := fun _ => fun
  | [d] => { results := [.lit (.bool false)], args := [d] }
  | _ => none }
def FnSerialOrderWrongFalsely : Prop := fnSerialOrderRow.holds Try.pinned (OpenSpec.ofChange fnSerialOrderWrong)

/-- 'laws.FnExactSerialOrder': WHATEVER THE INPUT: true; the input reads as it did. -/
def fnExactSerialOrderSpec : ChangeSpec := { name := "fnExactSerialOrder", fn := fun _ => fun
  | [d] => { results := [.lit (.bool true)], args := [d] }
  | _ => none }
def fnExactSerialOrderRow : OpenClaim := { program := "ytmdlffhkhhionaa", sum := "b0e06a589ff0decaf2fb47d3ba982671dd867b838af02a76f55f2d4f2b6e8139", func := "loop.example/schemamigration/laws.FnExactSerialOrder", spec := "fnExactSerialOrder", apart := false }
def FnExactSerialOrderSaid : Prop := fnExactSerialOrderRow.holds Try.pinned (OpenSpec.ofChange fnExactSerialOrderSpec)

/-- ITS FALSE NEIGHBOUR: 'it returns false'. Refute it at one input. -/
def fnExactSerialOrderWrong : ChangeSpec := { name := "fnExactSerialOrder", fn := fun _ => fun
  | [d] => { results := [.lit (.bool false)], args := [d] }
  | _ => none }
def FnExactSerialOrderWrongFalsely : Prop := fnExactSerialOrderRow.holds Try.pinned (OpenSpec.ofChange fnExactSerialOrderWrong)

/- THE SECOND FORM. 'bulk': how many values and letters a reading holds, each counted each time it is reached (what is shared counts as often as it is met; a slice's spare places count too). A statement '..UptoSaid' is the law's where the arguments, and the package variables that the reading takes, are together of bulk at most 1048576: NARROWER than '..Said'. Prove '..Said' where nothing that the law and all that it calls make is longer than what came in: it says more and counts as full. Else prove '..UptoSaid'. A law counts once. -/
mutual
def uptoBulk {H : Type} : DataW H → Nat
  | .lit (.string bytes) => bytes.length + 1
  | .lit _ => 1
  | .nil => 1
  | .ptr d => uptoBulk d + 1
  | .slice elems spare => uptoBulkAll elems + uptoBulkAll spare + 1
  | .agg parts => uptoBulkAll parts + 1
  | .iface _ d => uptoBulk d + 1
  | .map entries => uptoBulkEntries entries + 1
  | .held _ => 1
def uptoBulkAll {H : Type} : List (DataW H) → Nat
  | [] => 0
  | d :: r => uptoBulk d + uptoBulkAll r
def uptoBulkEntries {H : Type} : List (Lit × DataW H) → Nat
  | [] => 0
  | x :: r => uptoBulkEntry x + uptoBulkEntries r
def uptoBulkEntry {H : Type} : Lit × DataW H → Nat
  | (.string bytes, d) => bytes.length + uptoBulk d + 1
  | (_, d) => uptoBulk d + 1
 end
def uptoSmall : (H : Type) → List (DataW H) → Bool := fun _ ds => decide (uptoBulkAll ds ≤ 1048576)
def OpenSpec.upto (s : _root_.Go.ChangeSpec) : _root_.Go.OpenSpec := { _root_.Go.OpenSpec.ofChange s with cond := some uptoSmall }

/-- 'laws.FnExactValidActs', WHERE WHAT IT READS IS OF BULK AT MOST 1048576: true; the input reads as it did. -/
def fnExactValidActsUptoRow : OpenClaim := { program := "ytmdlffhkhhionaa", sum := "b0e06a589ff0decaf2fb47d3ba982671dd867b838af02a76f55f2d4f2b6e8139", func := "loop.example/schemamigration/laws.FnExactValidActs", spec := "fnExactValidActs", apart := false, narrowed := true }
def FnExactValidActsUptoSaid : Prop := fnExactValidActsUptoRow.holds Try.pinned (OpenSpec.upto fnExactValidActsSpec)

/-- 'laws.FnValidActs', WHERE WHAT IT READS IS OF BULK AT MOST 1048576: true; the input reads as it did. -/
def fnValidActsUptoRow : OpenClaim := { program := "ytmdlffhkhhionaa", sum := "b0e06a589ff0decaf2fb47d3ba982671dd867b838af02a76f55f2d4f2b6e8139", func := "loop.example/schemamigration/laws.FnValidActs", spec := "fnValidActs", apart := false, narrowed := true }
def FnValidActsUptoSaid : Prop := fnValidActsUptoRow.holds Try.pinned (OpenSpec.upto fnValidActsSpec)

/-- 'laws.FnExactIsLocked', WHERE WHAT IT READS IS OF BULK AT MOST 1048576: true; the input reads as it did. -/
def fnExactIsLockedUptoRow : OpenClaim := { program := "ytmdlffhkhhionaa", sum := "b0e06a589ff0decaf2fb47d3ba982671dd867b838af02a76f55f2d4f2b6e8139", func := "loop.example/schemamigration/laws.FnExactIsLocked", spec := "fnExactIsLocked", apart := false, narrowed := true }
def FnExactIsLockedUptoSaid : Prop := fnExactIsLockedUptoRow.holds Try.pinned (OpenSpec.upto fnExactIsLockedSpec)

/-- 'laws.FnExactIsStrict', WHERE WHAT IT READS IS OF BULK AT MOST 1048576: true; the input reads as it did. -/
def fnExactIsStrictUptoRow : OpenClaim := { program := "ytmdlffhkhhionaa", sum := "b0e06a589ff0decaf2fb47d3ba982671dd867b838af02a76f55f2d4f2b6e8139", func := "loop.example/schemamigration/laws.FnExactIsStrict", spec := "fnExactIsStrict", apart := false, narrowed := true }
def FnExactIsStrictUptoSaid : Prop := fnExactIsStrictUptoRow.holds Try.pinned (OpenSpec.upto fnExactIsStrictSpec)

/-- 'laws.FnIsStrict', WHERE WHAT IT READS IS OF BULK AT MOST 1048576: true; the input reads as it did. -/
def fnIsStrictUptoRow : OpenClaim := { program := "ytmdlffhkhhionaa", sum := "b0e06a589ff0decaf2fb47d3ba982671dd867b838af02a76f55f2d4f2b6e8139", func := "loop.example/schemamigration/laws.FnIsStrict", spec := "fnIsStrict", apart := false, narrowed := true }
def FnIsStrictUptoSaid : Prop := fnIsStrictUptoRow.holds Try.pinned (OpenSpec.upto fnIsStrictSpec)

/-- 'laws.FnIsLocked', WHERE WHAT IT READS IS OF BULK AT MOST 1048576: true; the input reads as it did. -/
def fnIsLockedUptoRow : OpenClaim := { program := "ytmdlffhkhhionaa", sum := "b0e06a589ff0decaf2fb47d3ba982671dd867b838af02a76f55f2d4f2b6e8139", func := "loop.example/schemamigration/laws.FnIsLocked", spec := "fnIsLocked", apart := false, narrowed := true }
def FnIsLockedUptoSaid : Prop := fnIsLockedUptoRow.holds Try.pinned (OpenSpec.upto fnIsLockedSpec)

/-- 'laws.FnSerialOrderPrefix', WHERE WHAT IT READS IS OF BULK AT MOST 1048576: true; the input reads as it did. -/
def fnSerialOrderPrefixUptoRow : OpenClaim := { program := "ytmdlffhkhhionaa", sum := "b0e06a589ff0decaf2fb47d3ba982671dd867b838af02a76f55f2d4f2b6e8139", func := "loop.example/schemamigration/laws.FnSerialOrderPrefix", spec := "fnSerialOrderPrefix", apart := false, narrowed := true }
def FnSerialOrderPrefixUptoSaid : Prop := fnSerialOrderPrefixUptoRow.holds Try.pinned (OpenSpec.upto fnSerialOrderPrefixSpec)

/-- 'laws.FnSerialOrderSerial', WHERE WHAT IT READS IS OF BULK AT MOST 1048576: true; the input reads as it did. -/
def fnSerialOrderSerialUptoRow : OpenClaim := { program := "ytmdlffhkhhionaa", sum := "b0e06a589ff0decaf2fb47d3ba982671dd867b838af02a76f55f2d4f2b6e8139", func := "loop.example/schemamigration/laws.FnSerialOrderSerial", spec := "fnSerialOrderSerial", apart := false, narrowed := true }
def FnSerialOrderSerialUptoSaid : Prop := fnSerialOrderSerialUptoRow.holds Try.pinned (OpenSpec.upto fnSerialOrderSerialSpec)

/-- 'laws.FnSerialOrder', WHERE WHAT IT READS IS OF BULK AT MOST 1048576: true; the input reads as it did. -/
def fnSerialOrderUptoRow : OpenClaim := { program := "ytmdlffhkhhionaa", sum := "b0e06a589ff0decaf2fb47d3ba982671dd867b838af02a76f55f2d4f2b6e8139", func := "loop.example/schemamigration/laws.FnSerialOrder", spec := "fnSerialOrder", apart := false, narrowed := true }
def FnSerialOrderUptoSaid : Prop := fnSerialOrderUptoRow.holds Try.pinned (OpenSpec.upto fnSerialOrderSpec)

/-- 'laws.FnExactSerialOrder', WHERE WHAT IT READS IS OF BULK AT MOST 1048576: true; the input reads as it did. -/
def fnExactSerialOrderUptoRow : OpenClaim := { program := "ytmdlffhkhhionaa", sum := "b0e06a589ff0decaf2fb47d3ba982671dd867b838af02a76f55f2d4f2b6e8139", func := "loop.example/schemamigration/laws.FnExactSerialOrder", spec := "fnExactSerialOrder", apart := false, narrowed := true }
def FnExactSerialOrderUptoSaid : Prop := fnExactSerialOrderUptoRow.holds Try.pinned (OpenSpec.upto fnExactSerialOrderSpec)

end Rows
end Go.Proofs.Ytmdlffhkhhionaa
