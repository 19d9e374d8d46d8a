/-
  No cell of these rows narrows 'for every input' (looked for: loops, veiled, ifaces, maps, wideKeys, modest, calm, conditions, laid).
  DERIVED. THE GIVEN ROWS OF THIS SEAT. 10 by the template 'for every input the law returns true; each argument reads behind the call as it read before'; 0 by the template 'total and deterministic' (their statements: YtlkjddbhcbnmkaaTotals.lean).
  GIVEN WITH THE SEED: the statements are not yours to turn. If you find one false, say at which input.
  Laid BY PROGRAM, IN A SANDBOX (cutbox-rows.mjs): the forced cells as the released guide's own fill.sh prints them over the translation 3208200c649b94f9… (all of the seat's roots in one cut). By AI agents, Wed Nov 11 2026. No macro, syntax, notation, axiom, sorry.
-/
import Derived.Test.YtlkjddbhcbnmkaaChecked
import GoSem.Claim
import GoSem.ClaimJoined
import GoSem.ClaimMapViews
import Derived.JoinedTies
import Derived.KernelRfl
namespace Go.Proofs.Ytlkjddbhcbnmkaa
/- THE CELL 'sum', in the pinned program and in every row, IS THE sha256 OF THE DUMP (.gsa) THAT YtlkjddbhcbnmkaaProg.lean LOADS. Nothing in Lean hashes anything: it is a label: what it is worth is what the hold of that sum in a sandbox is worth. -/
noncomputable def Try.pinned : Pinned := { name := "ytlkjddbhcbnmkaa", sum := "3208200c649b94f974ff98b005c799e684dc774e917ba910d8600ff30a94efab", checked := Try.checked }
namespace Rows
def none {H : Type} : Left H := { results := [], args := [] }

/-- 'laws.FnExactRedoFrom': WHATEVER THE INPUT: true; the input reads as it did. -/
def fnExactRedoFromSpec : ChangeSpec := { name := "fnExactRedoFrom", fn := fun _ => fun
  | [d1, d2] => { results := [.lit (.bool true)], args := [d1, d2] }
  | _ => none }
def fnExactRedoFromRow : OpenClaim := { program := "ytlkjddbhcbnmkaa", sum := "3208200c649b94f974ff98b005c799e684dc774e917ba910d8600ff30a94efab", func := "loop.example/schemamigration/laws.FnExactRedoFrom", spec := "fnExactRedoFrom", apart := false }
def FnExactRedoFromSaid : Prop := fnExactRedoFromRow.holds Try.pinned (OpenSpec.ofChange fnExactRedoFromSpec)

/-- ITS FALSE NEIGHBOUR: 'it returns false'. Refute it at one input. -/
def fnExactRedoFromWrong : ChangeSpec := { name := "fnExactRedoFrom", fn := fun _ => fun
  | [d1, d2] => { results := [.lit (.bool false)], args := [d1, d2] }
  | _ => none }
def FnExactRedoFromWrongFalsely : Prop := fnExactRedoFromRow.holds Try.pinned (OpenSpec.ofChange fnExactRedoFromWrong)

/-- 'laws.FnExactValidNotes': WHATEVER THE INPUT: true; the input reads as it did. -/
def fnExactValidNotesSpec : ChangeSpec := { name := "fnExactValidNotes", fn := fun _ => fun
  | [d1, d2] => { results := [.lit (.bool true)], args := [d1, d2] }
  | _ => none }
def fnExactValidNotesRow : OpenClaim := { program := "ytlkjddbhcbnmkaa", sum := "3208200c649b94f974ff98b005c799e684dc774e917ba910d8600ff30a94efab", func := "loop.example/schemamigration/laws.FnExactValidNotes", spec := "fnExactValidNotes", apart := false }
def FnExactValidNotesSaid : Prop := fnExactValidNotesRow.holds Try.pinned (OpenSpec.ofChange fnExactValidNotesSpec)

/-- ITS FALSE NEIGHBOUR: 'it returns false'. Refute it at one input. -/
def fnExactValidNotesWrong : ChangeSpec := { name := "fnExactValidNotes", fn := fun _ => fun
  | [d1, d2] => { results := [.lit (.bool false)], args := [d1, d2] }
  | _ => none }
def FnExactValidNotesWrongFalsely : Prop := fnExactValidNotesRow.holds Try.pinned (OpenSpec.ofChange fnExactValidNotesWrong)

/-- 'laws.FnValidNotes': WHATEVER THE INPUT: true; the input reads as it did. -/
def fnValidNotesSpec : ChangeSpec := { name := "fnValidNotes", fn := fun _ => fun
  | [d] => { results := [.lit (.bool true)], args := [d] }
  | _ => none }
def fnValidNotesRow : OpenClaim := { program := "ytlkjddbhcbnmkaa", sum := "3208200c649b94f974ff98b005c799e684dc774e917ba910d8600ff30a94efab", func := "loop.example/schemamigration/laws.FnValidNotes", spec := "fnValidNotes", apart := false }
def FnValidNotesSaid : Prop := fnValidNotesRow.holds Try.pinned (OpenSpec.ofChange fnValidNotesSpec)

/-- ITS FALSE NEIGHBOUR: 'it returns false'. Refute it at one input. -/
def fnValidNotesWrong : ChangeSpec := { name := "fnValidNotes", fn := fun _ => fun
  | [d] => { results := [.lit (.bool false)], args := [d] }
  | _ => none }
def FnValidNotesWrongFalsely : Prop := fnValidNotesRow.holds Try.pinned (OpenSpec.ofChange fnValidNotesWrong)

/-- 'laws.FnExactRedoCells': WHATEVER THE INPUT: true; the input reads as it did. -/
def fnExactRedoCellsSpec : ChangeSpec := { name := "fnExactRedoCells", fn := fun _ => fun
  | [d1, d2] => { results := [.lit (.bool true)], args := [d1, d2] }
  | _ => none }
def fnExactRedoCellsRow : OpenClaim := { program := "ytlkjddbhcbnmkaa", sum := "3208200c649b94f974ff98b005c799e684dc774e917ba910d8600ff30a94efab", func := "loop.example/schemamigration/laws.FnExactRedoCells", spec := "fnExactRedoCells", apart := false }
def FnExactRedoCellsSaid : Prop := fnExactRedoCellsRow.holds Try.pinned (OpenSpec.ofChange fnExactRedoCellsSpec)

/-- ITS FALSE NEIGHBOUR: 'it returns false'. Refute it at one input. -/
def fnExactRedoCellsWrong : ChangeSpec := { name := "fnExactRedoCells", fn := fun _ => fun
  | [d1, d2] => { results := [.lit (.bool false)], args := [d1, d2] }
  | _ => none }
def FnExactRedoCellsWrongFalsely : Prop := fnExactRedoCellsRow.holds Try.pinned (OpenSpec.ofChange fnExactRedoCellsWrong)

/-- 'laws.FnRedoCells': WHATEVER THE INPUT: true; the input reads as it did. -/
def fnRedoCellsSpec : ChangeSpec := { name := "fnRedoCells", fn := fun _ => fun
  | [d] => { results := [.lit (.bool true)], args := [d] }
  | _ => none }
def fnRedoCellsRow : OpenClaim := { program := "ytlkjddbhcbnmkaa", sum := "3208200c649b94f974ff98b005c799e684dc774e917ba910d8600ff30a94efab", func := "loop.example/schemamigration/laws.FnRedoCells", spec := "fnRedoCells", apart := false }
def FnRedoCellsSaid : Prop := fnRedoCellsRow.holds Try.pinned (OpenSpec.ofChange fnRedoCellsSpec)

/-- ITS FALSE NEIGHBOUR: 'it returns false'. Refute it at one input. -/
def fnRedoCellsWrong : ChangeSpec := { name := "fnRedoCells", fn := fun _ => fun
  | [d] => { results := [.lit (.bool false)], args := [d] }
  | _ => none }
def FnRedoCellsWrongFalsely : Prop := fnRedoCellsRow.holds Try.pinned (OpenSpec.ofChange fnRedoCellsWrong)

/-- 'laws.FnRedoCellsParts': WHATEVER THE INPUT: true; the input reads as it did. -/
def fnRedoCellsPartsSpec : ChangeSpec := { name := "fnRedoCellsParts", fn := fun _ => fun
  | [d] => { results := [.lit (.bool true)], args := [d] }
  | _ => none }
def fnRedoCellsPartsRow : OpenClaim := { program := "ytlkjddbhcbnmkaa", sum := "3208200c649b94f974ff98b005c799e684dc774e917ba910d8600ff30a94efab", func := "loop.example/schemamigration/laws.FnRedoCellsParts", spec := "fnRedoCellsParts", apart := false }
def FnRedoCellsPartsSaid : Prop := fnRedoCellsPartsRow.holds Try.pinned (OpenSpec.ofChange fnRedoCellsPartsSpec)

/-- ITS FALSE NEIGHBOUR: 'it returns false'. Refute it at one input. -/
def fnRedoCellsPartsWrong : ChangeSpec := { name := "fnRedoCellsParts", fn := fun _ => fun
  | [d] => { results := [.lit (.bool false)], args := [d] }
  | _ => none }
def FnRedoCellsPartsWrongFalsely : Prop := fnRedoCellsPartsRow.holds Try.pinned (OpenSpec.ofChange fnRedoCellsPartsWrong)

/-- 'laws.FnExactRecoverFrom': WHATEVER THE INPUT: true; the input reads as it did. -/
def fnExactRecoverFromSpec : ChangeSpec := { name := "fnExactRecoverFrom", fn := fun _ => fun
  | [d1, d2, d3] => { results := [.lit (.bool true)], args := [d1, d2, d3] }
  | _ => none }
def fnExactRecoverFromRow : OpenClaim := { program := "ytlkjddbhcbnmkaa", sum := "3208200c649b94f974ff98b005c799e684dc774e917ba910d8600ff30a94efab", func := "loop.example/schemamigration/laws.FnExactRecoverFrom", spec := "fnExactRecoverFrom", apart := false }
def FnExactRecoverFromSaid : Prop := fnExactRecoverFromRow.holds Try.pinned (OpenSpec.ofChange fnExactRecoverFromSpec)

/-- ITS FALSE NEIGHBOUR: 'it returns false'. Refute it at one input. -/
def fnExactRecoverFromWrong : ChangeSpec := { name := "fnExactRecoverFrom", fn := fun _ => fun
  | [d1, d2, d3] => { results := [.lit (.bool false)], args := [d1, d2, d3] }
  | _ => none }
def FnExactRecoverFromWrongFalsely : Prop := fnExactRecoverFromRow.holds Try.pinned (OpenSpec.ofChange fnExactRecoverFromWrong)

/-- 'laws.FnExactRecoverStore': WHATEVER THE INPUT: true; the input reads as it did. -/
def fnExactRecoverStoreSpec : ChangeSpec := { name := "fnExactRecoverStore", fn := fun _ => fun
  | [d1, d2] => { results := [.lit (.bool true)], args := [d1, d2] }
  | _ => none }
def fnExactRecoverStoreRow : OpenClaim := { program := "ytlkjddbhcbnmkaa", sum := "3208200c649b94f974ff98b005c799e684dc774e917ba910d8600ff30a94efab", func := "loop.example/schemamigration/laws.FnExactRecoverStore", spec := "fnExactRecoverStore", apart := false }
def FnExactRecoverStoreSaid : Prop := fnExactRecoverStoreRow.holds Try.pinned (OpenSpec.ofChange fnExactRecoverStoreSpec)

/-- ITS FALSE NEIGHBOUR: 'it returns false'. Refute it at one input. -/
def fnExactRecoverStoreWrong : ChangeSpec := { name := "fnExactRecoverStore", fn := fun _ => fun
  | [d1, d2] => { results := [.lit (.bool false)], args := [d1, d2] }
  | _ => none }
def FnExactRecoverStoreWrongFalsely : Prop := fnExactRecoverStoreRow.holds Try.pinned (OpenSpec.ofChange fnExactRecoverStoreWrong)

/-- 'laws.FnRedoFrom': WHATEVER THE INPUT: true; the input reads as it did. -/
def fnRedoFromSpec : ChangeSpec := { name := "fnRedoFrom", fn := fun _ => fun
  | [d] => { results := [.lit (.bool true)], args := [d] }
  | _ => none }
def fnRedoFromRow : OpenClaim := { program := "ytlkjddbhcbnmkaa", sum := "3208200c649b94f974ff98b005c799e684dc774e917ba910d8600ff30a94efab", func := "loop.example/schemamigration/laws.FnRedoFrom", spec := "fnRedoFrom", unfollowed := true, recurses := true, apart := false }
def FnRedoFromSaid : Prop := fnRedoFromRow.holds Try.pinned (OpenSpec.ofChange fnRedoFromSpec)

/-- ITS FALSE NEIGHBOUR: 'it returns false'. Refute it at one input. -/
def fnRedoFromWrong : ChangeSpec := { name := "fnRedoFrom", fn := fun _ => fun
  | [d] => { results := [.lit (.bool false)], args := [d] }
  | _ => none }
def FnRedoFromWrongFalsely : Prop := fnRedoFromRow.holds Try.pinned (OpenSpec.ofChange fnRedoFromWrong)

/-- 'laws.FnRedoFromLeast': WHATEVER THE INPUT: true; the input reads as it did. -/
def fnRedoFromLeastSpec : ChangeSpec := { name := "fnRedoFromLeast", fn := fun _ => fun
  | [d] => { results := [.lit (.bool true)], args := [d] }
  | _ => none }
def fnRedoFromLeastRow : OpenClaim := { program := "ytlkjddbhcbnmkaa", sum := "3208200c649b94f974ff98b005c799e684dc774e917ba910d8600ff30a94efab", func := "loop.example/schemamigration/laws.FnRedoFromLeast", spec := "fnRedoFromLeast", apart := false }
def FnRedoFromLeastSaid : Prop := fnRedoFromLeastRow.holds Try.pinned (OpenSpec.ofChange fnRedoFromLeastSpec)

/-- ITS FALSE NEIGHBOUR: 'it returns false'. Refute it at one input. -/
def fnRedoFromLeastWrong : ChangeSpec := { name := "fnRedoFromLeast", fn := fun _ => fun
  | [d] => { results := [.lit (.bool false)], args := [d] }
  | _ => none }
def FnRedoFromLeastWrongFalsely : Prop := fnRedoFromLeastRow.holds Try.pinned (OpenSpec.ofChange fnRedoFromLeastWrong)

/- THE SECOND FORM. 'bulk': how many values and letters a reading holds, each counted each time it is reached (what is shared counts as often as it is met; a slice's spare places count too). A statement '..UptoSaid' is the law's where the arguments, and the package variables that the reading takes, are together of bulk at most 1048576: NARROWER than '..Said'. Prove '..Said' where nothing that the law and all that it calls make is longer than what came in: it says more and counts as full. Else prove '..UptoSaid'. A law counts once. -/
mutual
def uptoBulk {H : Type} : DataW H → Nat
  | .lit (.string bytes) => bytes.length + 1
  | .lit _ => 1
  | .nil => 1
  | .ptr d => uptoBulk d + 1
  | .slice elems spare => uptoBulkAll elems + uptoBulkAll spare + 1
  | .agg parts => uptoBulkAll parts + 1
  | .iface _ d => uptoBulk d + 1
  | .map entries => uptoBulkEntries entries + 1
  | .held _ => 1
def uptoBulkAll {H : Type} : List (DataW H) → Nat
  | [] => 0
  | d :: r => uptoBulk d + uptoBulkAll r
def uptoBulkEntries {H : Type} : List (Lit × DataW H) → Nat
  | [] => 0
  | x :: r => uptoBulkEntry x + uptoBulkEntries r
def uptoBulkEntry {H : Type} : Lit × DataW H → Nat
  | (.string bytes, d) => bytes.length + uptoBulk d + 1
  | (_, d) => uptoBulk d + 1
 end
def uptoSmall : (H : Type) → List (DataW H) → Bool := fun _ ds => decide (uptoBulkAll ds ≤ 1048576)
def OpenSpec.upto (s : _root_.Go.ChangeSpec) : _root_.Go.OpenSpec := { _root_.Go.OpenSpec.ofChange s with cond := some uptoSmall }

/-- 'laws.FnExactRedoFrom', WHERE WHAT IT READS IS OF BULK AT MOST 1048576: true; the input reads as it did. -/
def fnExactRedoFromUptoRow : OpenClaim := { program := "ytlkjddbhcbnmkaa", sum := "3208200c649b94f974ff98b005c799e684dc774e917ba910d8600ff30a94efab", func := "loop.example/schemamigration/laws.FnExactRedoFrom", spec := "fnExactRedoFrom", apart := false, narrowed := true }
def FnExactRedoFromUptoSaid : Prop := fnExactRedoFromUptoRow.holds Try.pinned (OpenSpec.upto fnExactRedoFromSpec)

/-- 'laws.FnExactValidNotes', WHERE WHAT IT READS IS OF BULK AT MOST 1048576: true; the input reads as it did. -/
def fnExactValidNotesUptoRow : OpenClaim := { program := "ytlkjddbhcbnmkaa", sum := "3208200c649b94f974ff98b005c799e684dc774e917ba910d8600ff30a94efab", func := "loop.example/schemamigration/laws.FnExactValidNotes", spec := "fnExactValidNotes", apart := false, narrowed := true }
def FnExactValidNotesUptoSaid : Prop := fnExactValidNotesUptoRow.holds Try.pinned (OpenSpec.upto fnExactValidNotesSpec)

/-- 'laws.FnValidNotes', WHERE WHAT IT READS IS OF BULK AT MOST 1048576: true; the input reads as it did. -/
def fnValidNotesUptoRow : OpenClaim := { program := "ytlkjddbhcbnmkaa", sum := "3208200c649b94f974ff98b005c799e684dc774e917ba910d8600ff30a94efab", func := "loop.example/schemamigration/laws.FnValidNotes", spec := "fnValidNotes", apart := false, narrowed := true }
def FnValidNotesUptoSaid : Prop := fnValidNotesUptoRow.holds Try.pinned (OpenSpec.upto fnValidNotesSpec)

/-- 'laws.FnExactRedoCells', WHERE WHAT IT READS IS OF BULK AT MOST 1048576: true; the input reads as it did. -/
def fnExactRedoCellsUptoRow : OpenClaim := { program := "ytlkjddbhcbnmkaa", sum := "3208200c649b94f974ff98b005c799e684dc774e917ba910d8600ff30a94efab", func := "loop.example/schemamigration/laws.FnExactRedoCells", spec := "fnExactRedoCells", apart := false, narrowed := true }
def FnExactRedoCellsUptoSaid : Prop := fnExactRedoCellsUptoRow.holds Try.pinned (OpenSpec.upto fnExactRedoCellsSpec)

/-- 'laws.FnRedoCells', WHERE WHAT IT READS IS OF BULK AT MOST 1048576: true; the input reads as it did. -/
def fnRedoCellsUptoRow : OpenClaim := { program := "ytlkjddbhcbnmkaa", sum := "3208200c649b94f974ff98b005c799e684dc774e917ba910d8600ff30a94efab", func := "loop.example/schemamigration/laws.FnRedoCells", spec := "fnRedoCells", apart := false, narrowed := true }
def FnRedoCellsUptoSaid : Prop := fnRedoCellsUptoRow.holds Try.pinned (OpenSpec.upto fnRedoCellsSpec)

/-- 'laws.FnRedoCellsParts', WHERE WHAT IT READS IS OF BULK AT MOST 1048576: true; the input reads as it did. -/
def fnRedoCellsPartsUptoRow : OpenClaim := { program := "ytlkjddbhcbnmkaa", sum := "3208200c649b94f974ff98b005c799e684dc774e917ba910d8600ff30a94efab", func := "loop.example/schemamigration/laws.FnRedoCellsParts", spec := "fnRedoCellsParts", apart := false, narrowed := true }
def FnRedoCellsPartsUptoSaid : Prop := fnRedoCellsPartsUptoRow.holds Try.pinned (OpenSpec.upto fnRedoCellsPartsSpec)

/-- 'laws.FnExactRecoverFrom', WHERE WHAT IT READS IS OF BULK AT MOST 1048576: true; the input reads as it did. -/
def fnExactRecoverFromUptoRow : OpenClaim := { program := "ytlkjddbhcbnmkaa", sum := "3208200c649b94f974ff98b005c799e684dc774e917ba910d8600ff30a94efab", func := "loop.example/schemamigration/laws.FnExactRecoverFrom", spec := "fnExactRecoverFrom", apart := false, narrowed := true }
def FnExactRecoverFromUptoSaid : Prop := fnExactRecoverFromUptoRow.holds Try.pinned (OpenSpec.upto fnExactRecoverFromSpec)

/-- 'laws.FnExactRecoverStore', WHERE WHAT IT READS IS OF BULK AT MOST 1048576: true; the input reads as it did. -/
def fnExactRecoverStoreUptoRow : OpenClaim := { program := "ytlkjddbhcbnmkaa", sum := "3208200c649b94f974ff98b005c799e684dc774e917ba910d8600ff30a94efab", func := "loop.example/schemamigration/laws.FnExactRecoverStore", spec := "fnExactRecoverStore", apart := false, narrowed := true }
def FnExactRecoverStoreUptoSaid : Prop := fnExactRecoverStoreUptoRow.holds Try.pinned (OpenSpec.upto fnExactRecoverStoreSpec)

/-- 'laws.FnRedoFrom', WHERE WHAT IT READS IS OF BULK AT MOST 1048576: true; the input reads as it did. -/
def fnRedoFromUptoRow : OpenClaim := { program := "ytlkjddbhcbnmkaa", sum := "3208200c649b94f974ff98b005c799e684dc774e917ba910d8600ff30a94efab", func := "loop.example/schemamigration/laws.FnRedoFrom", spec := "fnRedoFrom", unfollowed := true, recurses := true, apart := false, narrowed := true }
def FnRedoFromUptoSaid : Prop := fnRedoFromUptoRow.holds Try.pinned (OpenSpec.upto fnRedoFromSpec)

/-- 'laws.FnRedoFromLeast', WHERE WHAT IT READS IS OF BULK AT MOST 1048576: true; the input reads as it did. -/
def fnRedoFromLeastUptoRow : OpenClaim := { program := "ytlkjddbhcbnmkaa", sum := "3208200c649b94f974ff98b005c799e684dc774e917ba910d8600ff30a94efab", func := "loop.example/schemamigration/laws.FnRedoFromLeast", spec := "fnRedoFromLeast", apart := false, narrowed := true }
def FnRedoFromLeastUptoSaid : Prop := fnRedoFromLeastUptoRow.holds Try.pinned (OpenSpec.upto fnRedoFromLeastSpec)

end Rows
end Go.Proofs.Ytlkjddbhcbnmkaa
