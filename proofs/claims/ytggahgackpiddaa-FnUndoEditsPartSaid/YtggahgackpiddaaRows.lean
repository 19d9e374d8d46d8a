/-
  No cell of these rows narrows 'for every input' (looked for: loops, veiled, ifaces, maps, wideKeys, modest, calm, conditions, laid).
  DERIVED. THE GIVEN ROWS OF THIS SEAT. 7 by the template 'for every input the law returns true; each argument reads behind the call as it read before'; 0 by the template 'total and deterministic' (their statements: YtggahgackpiddaaTotals.lean).
  GIVEN WITH THE SEED: the statements are not yours to turn. If you find one false, say at which input.
  Laid BY PROGRAM, IN A SANDBOX (cutbox-rows.mjs): the forced cells as the released guide's own fill.sh prints them over the translation be50494c13c33203… (all of the seat's roots in one cut). By AI agents, Wed Nov 11 2026. No macro, syntax, notation, axiom, sorry.
-/
import Derived.Test.YtggahgackpiddaaChecked
import GoSem.Claim
import GoSem.ClaimJoined
import GoSem.ClaimMapViews
import Derived.JoinedTies
import Derived.KernelRfl
namespace Go.Proofs.Ytggahgackpiddaa
/- THE CELL 'sum', in the pinned program and in every row, IS THE sha256 OF THE DUMP (.gsa) THAT YtggahgackpiddaaProg.lean LOADS. Nothing in Lean hashes anything: it is a label: what it is worth is what the hold of that sum in a sandbox is worth. -/
noncomputable def Try.pinned : Pinned := { name := "ytggahgackpiddaa", sum := "be50494c13c33203fbcc2e22b2f207065207bd758df864a353ca09cb1c4459d0", checked := Try.checked }
namespace Rows
def none {H : Type} : Left H := { results := [], args := [] }

/-- 'laws.FnWithoutOwner': WHATEVER THE INPUT: true; the input reads as it did. -/
def fnWithoutOwnerSpec : ChangeSpec := { name := "fnWithoutOwner", fn := fun _ => fun
  | [d] => { results := [.lit (.bool true)], args := [d] }
  | _ => none }
def fnWithoutOwnerRow : OpenClaim := { program := "ytggahgackpiddaa", sum := "be50494c13c33203fbcc2e22b2f207065207bd758df864a353ca09cb1c4459d0", func := "loop.example/schemamigration/laws.FnWithoutOwner", spec := "fnWithoutOwner", apart := false }
def FnWithoutOwnerSaid : Prop := fnWithoutOwnerRow.holds Try.pinned (OpenSpec.ofChange fnWithoutOwnerSpec)

/-- ITS FALSE NEIGHBOUR: 'it returns false'. Refute it at one input. -/
def fnWithoutOwnerWrong : ChangeSpec := { name := "fnWithoutOwner", fn := fun _ => fun
  | [d] => { results := [.lit (.bool false)], args := [d] }
  | _ => none }
def FnWithoutOwnerWrongFalsely : Prop := fnWithoutOwnerRow.holds Try.pinned (OpenSpec.ofChange fnWithoutOwnerWrong)

/-- 'laws.FnExactWithoutOwner': WHATEVER THE INPUT: true; the input reads as it did. -/
def fnExactWithoutOwnerSpec : ChangeSpec := { name := "fnExactWithoutOwner", fn := fun _ => fun
  | [d1, d2] => { results := [.lit (.bool true)], args := [d1, d2] }
  | _ => none }
def fnExactWithoutOwnerRow : OpenClaim := { program := "ytggahgackpiddaa", sum := "be50494c13c33203fbcc2e22b2f207065207bd758df864a353ca09cb1c4459d0", func := "loop.example/schemamigration/laws.FnExactWithoutOwner", spec := "fnExactWithoutOwner", apart := false }
def FnExactWithoutOwnerSaid : Prop := fnExactWithoutOwnerRow.holds Try.pinned (OpenSpec.ofChange fnExactWithoutOwnerSpec)

/-- ITS FALSE NEIGHBOUR: 'it returns false'. Refute it at one input. -/
def fnExactWithoutOwnerWrong : ChangeSpec := { name := "fnExactWithoutOwner", fn := fun _ => fun
  | [d1, d2] => { results := [.lit (.bool false)], args := [d1, d2] }
  | _ => none }
def FnExactWithoutOwnerWrongFalsely : Prop := fnExactWithoutOwnerRow.holds Try.pinned (OpenSpec.ofChange fnExactWithoutOwnerWrong)

/-- 'laws.FnExactDoEdit': WHATEVER THE INPUT: true; the input reads as it did. -/
def fnExactDoEditSpec : ChangeSpec := { name := "fnExactDoEdit", fn := fun _ => fun
  | [d1, d2] => { results := [.lit (.bool true)], args := [d1, d2] }
  | _ => none }
def fnExactDoEditRow : OpenClaim := { program := "ytggahgackpiddaa", sum := "be50494c13c33203fbcc2e22b2f207065207bd758df864a353ca09cb1c4459d0", func := "loop.example/schemamigration/laws.FnExactDoEdit", spec := "fnExactDoEdit", apart := false }
def FnExactDoEditSaid : Prop := fnExactDoEditRow.holds Try.pinned (OpenSpec.ofChange fnExactDoEditSpec)

/-- ITS FALSE NEIGHBOUR: 'it returns false'. Refute it at one input. -/
def fnExactDoEditWrong : ChangeSpec := { name := "fnExactDoEdit", fn := fun _ => fun
  | [d1, d2] => { results := [.lit (.bool false)], args := [d1, d2] }
  | _ => none }
def FnExactDoEditWrongFalsely : Prop := fnExactDoEditRow.holds Try.pinned (OpenSpec.ofChange fnExactDoEditWrong)

/-- 'laws.FnDoEdit': WHATEVER THE INPUT: true; the input reads as it did. -/
def fnDoEditSpec : ChangeSpec := { name := "fnDoEdit", fn := fun _ => fun
  | [d] => { results := [.lit (.bool true)], args := [d] }
  | _ => none }
def fnDoEditRow : OpenClaim := { program := "ytggahgackpiddaa", sum := "be50494c13c33203fbcc2e22b2f207065207bd758df864a353ca09cb1c4459d0", func := "loop.example/schemamigration/laws.FnDoEdit", spec := "fnDoEdit", apart := false }
def FnDoEditSaid : Prop := fnDoEditRow.holds Try.pinned (OpenSpec.ofChange fnDoEditSpec)

/-- ITS FALSE NEIGHBOUR: 'it returns false'. Refute it at one input. -/
def fnDoEditWrong : ChangeSpec := { name := "fnDoEdit", fn := fun _ => fun
  | [d] => { results := [.lit (.bool false)], args := [d] }
  | _ => none }
def FnDoEditWrongFalsely : Prop := fnDoEditRow.holds Try.pinned (OpenSpec.ofChange fnDoEditWrong)

/-- 'laws.FnUndoEditsPart': WHATEVER THE INPUT: true; the input reads as it did. -/
def fnUndoEditsPartSpec : ChangeSpec := { name := "fnUndoEditsPart", fn := fun _ => fun
  | [d] => { results := [.lit (.bool true)], args := [d] }
  | _ => none }
def fnUndoEditsPartRow : OpenClaim := { program := "ytggahgackpiddaa", sum := "be50494c13c33203fbcc2e22b2f207065207bd758df864a353ca09cb1c4459d0", func := "loop.example/schemamigration/laws.FnUndoEditsPart", spec := "fnUndoEditsPart", apart := false }
def FnUndoEditsPartSaid : Prop := fnUndoEditsPartRow.holds Try.pinned (OpenSpec.ofChange fnUndoEditsPartSpec)

/-- ITS FALSE NEIGHBOUR: 'it returns false'. Refute it at one input. -/
def fnUndoEditsPartWrong : ChangeSpec := { name := "fnUndoEditsPart", fn := fun _ => fun
  | [d] => { results := [.lit (.bool false)], args := [d] }
  | _ => none }
def FnUndoEditsPartWrongFalsely : Prop := fnUndoEditsPartRow.holds Try.pinned (OpenSpec.ofChange fnUndoEditsPartWrong)

/-- 'laws.FnUndoEdits': WHATEVER THE INPUT: true; the input reads as it did. -/
def fnUndoEditsSpec : ChangeSpec := { name := "fnUndoEdits", fn := fun _ => fun
  | [d] => { results := [.lit (.bool true)], args := [d] }
  | _ => none }
def fnUndoEditsRow : OpenClaim := { program := "ytggahgackpiddaa", sum := "be50494c13c33203fbcc2e22b2f207065207bd758df864a353ca09cb1c4459d0", func := "loop.example/schemamigration/laws.FnUndoEdits", spec := "fnUndoEdits", apart := false }
def FnUndoEditsSaid : Prop := fnUndoEditsRow.holds Try.pinned (OpenSpec.ofChange fnUndoEditsSpec)

/-- ITS FALSE NEIGHBOUR: 'it returns false'. Refute it at one input. -/
def fnUndoEditsWrong : ChangeSpec := { name := "fnUndoEdits", fn := fun _ => fun
  | [d] => { results := [.lit (.bool false)], args := [d] }
  | _ => none }
def FnUndoEditsWrongFalsely : Prop := fnUndoEditsRow.holds Try.pinned (OpenSpec.ofChange fnUndoEditsWrong)

/-- 'laws.FnExactUndoEdits': WHATEVER THE INPUT: true; the input reads as it did. -/
def fnExactUndoEditsSpec : ChangeSpec := { name := "fnExactUndoEdits", fn := fun _ => fun
  | [d1, d2, d3, d4] => { results := [.lit (.bool true)], args := [d1, d2, d3, d4] }
  | _ => none }
def fnExactUndoEditsRow : OpenClaim := { program := "ytggahgackpiddaa", sum := "be50494c13c33203fbcc2e22b2f207065207bd758df864a353ca09cb1c4459d0", func := "loop.example/schemamigration/laws.FnExactUndoEdits", spec := "fnExactUndoEdits", apart := false }
def FnExactUndoEditsSaid : Prop := fnExactUndoEditsRow.holds Try.pinned (OpenSpec.ofChange fnExactUndoEditsSpec)

/-- ITS FALSE NEIGHBOUR: 'it returns false'. Refute it at one input. -/
def fnExactUndoEditsWrong : ChangeSpec := { name := "fnExactUndoEdits", fn := fun _ => fun
  | [d1, d2, d3, d4] => { results := [.lit (.bool false)], args := [d1, d2, d3, d4] }
  | _ => none }
def FnExactUndoEditsWrongFalsely : Prop := fnExactUndoEditsRow.holds Try.pinned (OpenSpec.ofChange fnExactUndoEditsWrong)

/- THE SECOND FORM. 'bulk': how many values and letters a reading holds, each counted each time it is reached (what is shared counts as often as it is met; a slice's spare places count too). A statement '..UptoSaid' is the law's where the arguments, and the package variables that the reading takes, are together of bulk at most 1048576: NARROWER than '..Said'. Prove '..Said' where nothing that the law and all that it calls make is longer than what came in: it says more and counts as full. Else prove '..UptoSaid'. A law counts once. -/
mutual
def uptoBulk {H : Type} : DataW H → Nat
  | .lit (.string bytes) => bytes.length + 1
  | .lit _ => 1
  | .nil => 1
  | .ptr d => uptoBulk d + 1
  | .slice elems spare => uptoBulkAll elems + uptoBulkAll spare + 1
  | .agg parts => uptoBulkAll parts + 1
  | .iface _ d => uptoBulk d + 1
  | .map entries => uptoBulkEntries entries + 1
  | .held _ => 1
def uptoBulkAll {H : Type} : List (DataW H) → Nat
  | [] => 0
  | d :: r => uptoBulk d + uptoBulkAll r
def uptoBulkEntries {H : Type} : List (Lit × DataW H) → Nat
  | [] => 0
  | x :: r => uptoBulkEntry x + uptoBulkEntries r
def uptoBulkEntry {H : Type} : Lit × DataW H → Nat
  | (.string bytes, d) => bytes.length + uptoBulk d + 1
  | (_, d) => uptoBulk d + 1
 end
def uptoSmall : (H : Type) → List (DataW H) → Bool := fun _ ds => decide (uptoBulkAll ds ≤ 1048576)
def OpenSpec.upto (s : _root_.Go.ChangeSpec) : _root_.Go.OpenSpec := { _root_.Go.OpenSpec.ofChange s with cond := some uptoSmall }

/-- 'laws.FnWithoutOwner', WHERE WHAT IT READS IS OF BULK AT MOST 1048576: true; the input reads as it did. -/
def fnWithoutOwnerUptoRow : OpenClaim := { program := "ytggahgackpiddaa", sum := "be50494c13c33203fbcc2e22b2f207065207bd758df864a353ca09cb1c4459d0", func := "loop.example/schemamigration/laws.FnWithoutOwner", spec := "fnWithoutOwner", apart := false, narrowed := true }
def FnWithoutOwnerUptoSaid : Prop := fnWithoutOwnerUptoRow.holds Try.pinned (OpenSpec.upto fnWithoutOwnerSpec)

/-- 'laws.FnExactWithoutOwner', WHERE WHAT IT READS IS OF BULK AT MOST 1048576: true; the input reads as it did. -/
def fnExactWithoutOwnerUptoRow : OpenClaim := { program := "ytggahgackpiddaa", sum := "be50494c13c33203fbcc2e22b2f207065207bd758df864a353ca09cb1c4459d0", func := "loop.example/schemamigration/laws.FnExactWithoutOwner", spec := "fnExactWithoutOwner", apart := false, narrowed := true }
def FnExactWithoutOwnerUptoSaid : Prop := fnExactWithoutOwnerUptoRow.holds Try.pinned (OpenSpec.upto fnExactWithoutOwnerSpec)

/-- 'laws.FnExactDoEdit', WHERE WHAT IT READS IS OF BULK AT MOST 1048576: true; the input reads as it did. -/
def fnExactDoEditUptoRow : OpenClaim := { program := "ytggahgackpiddaa", sum := "be50494c13c33203fbcc2e22b2f207065207bd758df864a353ca09cb1c4459d0", func := "loop.example/schemamigration/laws.FnExactDoEdit", spec := "fnExactDoEdit", apart := false, narrowed := true }
def FnExactDoEditUptoSaid : Prop := fnExactDoEditUptoRow.holds Try.pinned (OpenSpec.upto fnExactDoEditSpec)

/-- 'laws.FnDoEdit', WHERE WHAT IT READS IS OF BULK AT MOST 1048576: true; the input reads as it did. -/
def fnDoEditUptoRow : OpenClaim := { program := "ytggahgackpiddaa", sum := "be50494c13c33203fbcc2e22b2f207065207bd758df864a353ca09cb1c4459d0", func := "loop.example/schemamigration/laws.FnDoEdit", spec := "fnDoEdit", apart := false, narrowed := true }
def FnDoEditUptoSaid : Prop := fnDoEditUptoRow.holds Try.pinned (OpenSpec.upto fnDoEditSpec)

/-- 'laws.FnUndoEditsPart', WHERE WHAT IT READS IS OF BULK AT MOST 1048576: true; the input reads as it did. -/
def fnUndoEditsPartUptoRow : OpenClaim := { program := "ytggahgackpiddaa", sum := "be50494c13c33203fbcc2e22b2f207065207bd758df864a353ca09cb1c4459d0", func := "loop.example/schemamigration/laws.FnUndoEditsPart", spec := "fnUndoEditsPart", apart := false, narrowed := true }
def FnUndoEditsPartUptoSaid : Prop := fnUndoEditsPartUptoRow.holds Try.pinned (OpenSpec.upto fnUndoEditsPartSpec)

/-- 'laws.FnUndoEdits', WHERE WHAT IT READS IS OF BULK AT MOST 1048576: true; the input reads as it did. -/
def fnUndoEditsUptoRow : OpenClaim := { program := "ytggahgackpiddaa", sum := "be50494c13c33203fbcc2e22b2f207065207bd758df864a353ca09cb1c4459d0", func := "loop.example/schemamigration/laws.FnUndoEdits", spec := "fnUndoEdits", apart := false, narrowed := true }
def FnUndoEditsUptoSaid : Prop := fnUndoEditsUptoRow.holds Try.pinned (OpenSpec.upto fnUndoEditsSpec)

/-- 'laws.FnExactUndoEdits', WHERE WHAT IT READS IS OF BULK AT MOST 1048576: true; the input reads as it did. -/
def fnExactUndoEditsUptoRow : OpenClaim := { program := "ytggahgackpiddaa", sum := "be50494c13c33203fbcc2e22b2f207065207bd758df864a353ca09cb1c4459d0", func := "loop.example/schemamigration/laws.FnExactUndoEdits", spec := "fnExactUndoEdits", apart := false, narrowed := true }
def FnExactUndoEditsUptoSaid : Prop := fnExactUndoEditsUptoRow.holds Try.pinned (OpenSpec.upto fnExactUndoEditsSpec)

end Rows
end Go.Proofs.Ytggahgackpiddaa
