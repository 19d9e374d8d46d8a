/-
  No cell of these rows narrows 'for every input' (looked for: loops, veiled, ifaces, maps, wideKeys, modest, calm, conditions, laid).
  DERIVED. THE GIVEN ROWS OF THIS SEAT. 10 by the template 'for every input the law returns true; each argument reads behind the call as it read before'; 0 by the template 'total and deterministic' (their statements: YtkjdhfkihampjaaTotals.lean).
  GIVEN WITH THE SEED: the statements are not yours to turn. If you find one false, say at which input.
  Laid BY PROGRAM, IN A SANDBOX (cutbox-rows.mjs): the forced cells as the released guide's own fill.sh prints them over the translation dc8d468c7fdf6a1f… (all of the seat's roots in one cut). By AI agents, Wed Nov 11 2026. No macro, syntax, notation, axiom, sorry.
-/
import Derived.Test.YtkjdhfkihampjaaChecked
import GoSem.Claim
import GoSem.ClaimJoined
import GoSem.ClaimMapViews
import Derived.JoinedTies
import Derived.KernelRfl
namespace Go.Proofs.Ytkjdhfkihampjaa
/- THE CELL 'sum', in the pinned program and in every row, IS THE sha256 OF THE DUMP (.gsa) THAT YtkjdhfkihampjaaProg.lean LOADS. Nothing in Lean hashes anything: it is a label: what it is worth is what the hold of that sum in a sandbox is worth. -/
noncomputable def Try.pinned : Pinned := { name := "ytkjdhfkihampjaa", sum := "dc8d468c7fdf6a1f3bce23fa012e581de196bfd2b53e5028ae8a5b8fa0aea6a8", checked := Try.checked }
namespace Rows
def none {H : Type} : Left H := { results := [], args := [] }

/-- 'laws.FnExactLosersOf': WHATEVER THE INPUT: true; the input reads as it did. -/
def fnExactLosersOfSpec : ChangeSpec := { name := "fnExactLosersOf", fn := fun _ => fun
  | [d1, d2] => { results := [.lit (.bool true)], args := [d1, d2] }
  | _ => none }
def fnExactLosersOfRow : OpenClaim := { program := "ytkjdhfkihampjaa", sum := "dc8d468c7fdf6a1f3bce23fa012e581de196bfd2b53e5028ae8a5b8fa0aea6a8", func := "loop.example/schemamigration/laws.FnExactLosersOf", spec := "fnExactLosersOf", unfollowed := true, recurses := true, apart := false }
def FnExactLosersOfSaid : Prop := fnExactLosersOfRow.holds Try.pinned (OpenSpec.ofChange fnExactLosersOfSpec)

/-- ITS FALSE NEIGHBOUR: 'it returns false'. Refute it at one input. -/
def fnExactLosersOfWrong : ChangeSpec := { name := "fnExactLosersOf", fn := fun _ => fun
  | [d1, d2] => { results := [.lit (.bool false)], args := [d1, d2] }
  | _ => none }
def FnExactLosersOfWrongFalsely : Prop := fnExactLosersOfRow.holds Try.pinned (OpenSpec.ofChange fnExactLosersOfWrong)

/-- 'laws.FnLosersOf': WHATEVER THE INPUT: true; the input reads as it did. -/
def fnLosersOfSpec : ChangeSpec := { name := "fnLosersOf", fn := fun _ => fun
  | [d] => { results := [.lit (.bool true)], args := [d] }
  | _ => none }
def fnLosersOfRow : OpenClaim := { program := "ytkjdhfkihampjaa", sum := "dc8d468c7fdf6a1f3bce23fa012e581de196bfd2b53e5028ae8a5b8fa0aea6a8", func := "loop.example/schemamigration/laws.FnLosersOf", spec := "fnLosersOf", unfollowed := true, recurses := true, apart := false }
def FnLosersOfSaid : Prop := fnLosersOfRow.holds Try.pinned (OpenSpec.ofChange fnLosersOfSpec)

/-- ITS FALSE NEIGHBOUR: 'it returns false'. Refute it at one input. -/
def fnLosersOfWrong : ChangeSpec := { name := "fnLosersOf", fn := fun _ => fun
  | [d] => { results := [.lit (.bool false)], args := [d] }
  | _ => none }
def FnLosersOfWrongFalsely : Prop := fnLosersOfRow.holds Try.pinned (OpenSpec.ofChange fnLosersOfWrong)

/-- 'laws.FnExactCellsAt': WHATEVER THE INPUT: true; the input reads as it did. -/
def fnExactCellsAtSpec : ChangeSpec := { name := "fnExactCellsAt", fn := fun _ => fun
  | [d1, d2, d3] => { results := [.lit (.bool true)], args := [d1, d2, d3] }
  | _ => none }
def fnExactCellsAtRow : OpenClaim := { program := "ytkjdhfkihampjaa", sum := "dc8d468c7fdf6a1f3bce23fa012e581de196bfd2b53e5028ae8a5b8fa0aea6a8", func := "loop.example/schemamigration/laws.FnExactCellsAt", spec := "fnExactCellsAt", apart := false }
def FnExactCellsAtSaid : Prop := fnExactCellsAtRow.holds Try.pinned (OpenSpec.ofChange fnExactCellsAtSpec)

/-- ITS FALSE NEIGHBOUR: 'it returns false'. Refute it at one input. -/
def fnExactCellsAtWrong : ChangeSpec := { name := "fnExactCellsAt", fn := fun _ => fun
  | [d1, d2, d3] => { results := [.lit (.bool false)], args := [d1, d2, d3] }
  | _ => none }
def FnExactCellsAtWrongFalsely : Prop := fnExactCellsAtRow.holds Try.pinned (OpenSpec.ofChange fnExactCellsAtWrong)

/-- 'laws.FnCellsAt': WHATEVER THE INPUT: true; the input reads as it did. -/
def fnCellsAtSpec : ChangeSpec := { name := "fnCellsAt", fn := fun _ => fun
  | [d] => { results := [.lit (.bool true)], args := [d] }
  | _ => none }
def fnCellsAtRow : OpenClaim := { program := "ytkjdhfkihampjaa", sum := "dc8d468c7fdf6a1f3bce23fa012e581de196bfd2b53e5028ae8a5b8fa0aea6a8", func := "loop.example/schemamigration/laws.FnCellsAt", spec := "fnCellsAt", apart := false }
def FnCellsAtSaid : Prop := fnCellsAtRow.holds Try.pinned (OpenSpec.ofChange fnCellsAtSpec)

/-- ITS FALSE NEIGHBOUR: 'it returns false'. Refute it at one input. -/
def fnCellsAtWrong : ChangeSpec := { name := "fnCellsAt", fn := fun _ => fun
  | [d] => { results := [.lit (.bool false)], args := [d] }
  | _ => none }
def FnCellsAtWrongFalsely : Prop := fnCellsAtRow.holds Try.pinned (OpenSpec.ofChange fnCellsAtWrong)

/-- 'laws.FnRecoverStoreAgain': WHATEVER THE INPUT: true; the input reads as it did. -/
def fnRecoverStoreAgainSpec : ChangeSpec := { name := "fnRecoverStoreAgain", fn := fun _ => fun
  | [d] => { results := [.lit (.bool true)], args := [d] }
  | _ => none }
def fnRecoverStoreAgainRow : OpenClaim := { program := "ytkjdhfkihampjaa", sum := "dc8d468c7fdf6a1f3bce23fa012e581de196bfd2b53e5028ae8a5b8fa0aea6a8", func := "loop.example/schemamigration/laws.FnRecoverStoreAgain", spec := "fnRecoverStoreAgain", apart := false }
def FnRecoverStoreAgainSaid : Prop := fnRecoverStoreAgainRow.holds Try.pinned (OpenSpec.ofChange fnRecoverStoreAgainSpec)

/-- ITS FALSE NEIGHBOUR: 'it returns false'. Refute it at one input. -/
def fnRecoverStoreAgainWrong : ChangeSpec := { name := "fnRecoverStoreAgain", fn := fun _ => fun
  | [d] => { results := [.lit (.bool false)], args := [d] }
  | _ => none }
def FnRecoverStoreAgainWrongFalsely : Prop := fnRecoverStoreAgainRow.holds Try.pinned (OpenSpec.ofChange fnRecoverStoreAgainWrong)

/-- 'laws.FnRecoverFrom': WHATEVER THE INPUT: true; the input reads as it did. -/
def fnRecoverFromSpec : ChangeSpec := { name := "fnRecoverFrom", fn := fun _ => fun
  | [d] => { results := [.lit (.bool true)], args := [d] }
  | _ => none }
def fnRecoverFromRow : OpenClaim := { program := "ytkjdhfkihampjaa", sum := "dc8d468c7fdf6a1f3bce23fa012e581de196bfd2b53e5028ae8a5b8fa0aea6a8", func := "loop.example/schemamigration/laws.FnRecoverFrom", spec := "fnRecoverFrom", apart := false }
def FnRecoverFromSaid : Prop := fnRecoverFromRow.holds Try.pinned (OpenSpec.ofChange fnRecoverFromSpec)

/-- ITS FALSE NEIGHBOUR: 'it returns false'. Refute it at one input. -/
def fnRecoverFromWrong : ChangeSpec := { name := "fnRecoverFrom", fn := fun _ => fun
  | [d] => { results := [.lit (.bool false)], args := [d] }
  | _ => none }
def FnRecoverFromWrongFalsely : Prop := fnRecoverFromRow.holds Try.pinned (OpenSpec.ofChange fnRecoverFromWrong)

/-- 'laws.FnRecoverStore': WHATEVER THE INPUT: true; the input reads as it did. -/
def fnRecoverStoreSpec : ChangeSpec := { name := "fnRecoverStore", fn := fun _ => fun
  | [d] => { results := [.lit (.bool true)], args := [d] }
  | _ => none }
def fnRecoverStoreRow : OpenClaim := { program := "ytkjdhfkihampjaa", sum := "dc8d468c7fdf6a1f3bce23fa012e581de196bfd2b53e5028ae8a5b8fa0aea6a8", func := "loop.example/schemamigration/laws.FnRecoverStore", spec := "fnRecoverStore", apart := false }
def FnRecoverStoreSaid : Prop := fnRecoverStoreRow.holds Try.pinned (OpenSpec.ofChange fnRecoverStoreSpec)

/-- ITS FALSE NEIGHBOUR: 'it returns false'. Refute it at one input. -/
def fnRecoverStoreWrong : ChangeSpec := { name := "fnRecoverStore", fn := fun _ => fun
  | [d] => { results := [.lit (.bool false)], args := [d] }
  | _ => none }
def FnRecoverStoreWrongFalsely : Prop := fnRecoverStoreRow.holds Try.pinned (OpenSpec.ofChange fnRecoverStoreWrong)

/-- 'laws.FnCheckOfActive': WHATEVER THE INPUT: true; the input reads as it did. -/
def fnCheckOfActiveSpec : ChangeSpec := { name := "fnCheckOfActive", fn := fun _ => fun
  | [d] => { results := [.lit (.bool true)], args := [d] }
  | _ => none }
def fnCheckOfActiveRow : OpenClaim := { program := "ytkjdhfkihampjaa", sum := "dc8d468c7fdf6a1f3bce23fa012e581de196bfd2b53e5028ae8a5b8fa0aea6a8", func := "loop.example/schemamigration/laws.FnCheckOfActive", spec := "fnCheckOfActive", unfollowed := true, recurses := true, apart := false }
def FnCheckOfActiveSaid : Prop := fnCheckOfActiveRow.holds Try.pinned (OpenSpec.ofChange fnCheckOfActiveSpec)

/-- ITS FALSE NEIGHBOUR: 'it returns false'. Refute it at one input. -/
def fnCheckOfActiveWrong : ChangeSpec := { name := "fnCheckOfActive", fn := fun _ => fun
  | [d] => { results := [.lit (.bool false)], args := [d] }
  | _ => none }
def FnCheckOfActiveWrongFalsely : Prop := fnCheckOfActiveRow.holds Try.pinned (OpenSpec.ofChange fnCheckOfActiveWrong)

/-- 'laws.FnRecoverStoreEnd': WHATEVER THE INPUT: true; the input reads as it did. -/
def fnRecoverStoreEndSpec : ChangeSpec := { name := "fnRecoverStoreEnd", fn := fun _ => fun
  | [d] => { results := [.lit (.bool true)], args := [d] }
  | _ => none }
def fnRecoverStoreEndRow : OpenClaim := { program := "ytkjdhfkihampjaa", sum := "dc8d468c7fdf6a1f3bce23fa012e581de196bfd2b53e5028ae8a5b8fa0aea6a8", func := "loop.example/schemamigration/laws.FnRecoverStoreEnd", spec := "fnRecoverStoreEnd", unfollowed := true, recurses := true, apart := false }
def FnRecoverStoreEndSaid : Prop := fnRecoverStoreEndRow.holds Try.pinned (OpenSpec.ofChange fnRecoverStoreEndSpec)

/-- ITS FALSE NEIGHBOUR: 'it returns false'. Refute it at one input. -/
def fnRecoverStoreEndWrong : ChangeSpec := { name := "fnRecoverStoreEnd", fn := fun _ => fun
  | [d] => { results := [.lit (.bool false)], args := [d] }
  | _ => none }
def FnRecoverStoreEndWrongFalsely : Prop := fnRecoverStoreEndRow.holds Try.pinned (OpenSpec.ofChange fnRecoverStoreEndWrong)

/-- 'laws.FnRecoverStoreWinners': WHATEVER THE INPUT: true; the input reads as it did. -/
def fnRecoverStoreWinnersSpec : ChangeSpec := { name := "fnRecoverStoreWinners", fn := fun _ => fun
  | [d] => { results := [.lit (.bool true)], args := [d] }
  | _ => none }
def fnRecoverStoreWinnersRow : OpenClaim := { program := "ytkjdhfkihampjaa", sum := "dc8d468c7fdf6a1f3bce23fa012e581de196bfd2b53e5028ae8a5b8fa0aea6a8", func := "loop.example/schemamigration/laws.FnRecoverStoreWinners", spec := "fnRecoverStoreWinners", unfollowed := true, recurses := true, apart := false }
def FnRecoverStoreWinnersSaid : Prop := fnRecoverStoreWinnersRow.holds Try.pinned (OpenSpec.ofChange fnRecoverStoreWinnersSpec)

/-- ITS FALSE NEIGHBOUR: 'it returns false'. Refute it at one input. -/
def fnRecoverStoreWinnersWrong : ChangeSpec := { name := "fnRecoverStoreWinners", fn := fun _ => fun
  | [d] => { results := [.lit (.bool false)], args := [d] }
  | _ => none }
def FnRecoverStoreWinnersWrongFalsely : Prop := fnRecoverStoreWinnersRow.holds Try.pinned (OpenSpec.ofChange fnRecoverStoreWinnersWrong)

/- THE SECOND FORM. 'bulk': how many values and letters a reading holds, each counted each time it is reached (what is shared counts as often as it is met; a slice's spare places count too). A statement '..UptoSaid' is the law's where the arguments, and the package variables that the reading takes, are together of bulk at most 1048576: NARROWER than '..Said'. Prove '..Said' where nothing that the law and all that it calls make is longer than what came in: it says more and counts as full. Else prove '..UptoSaid'. A law counts once. -/
mutual
def uptoBulk {H : Type} : DataW H → Nat
  | .lit (.string bytes) => bytes.length + 1
  | .lit _ => 1
  | .nil => 1
  | .ptr d => uptoBulk d + 1
  | .slice elems spare => uptoBulkAll elems + uptoBulkAll spare + 1
  | .agg parts => uptoBulkAll parts + 1
  | .iface _ d => uptoBulk d + 1
  | .map entries => uptoBulkEntries entries + 1
  | .held _ => 1
def uptoBulkAll {H : Type} : List (DataW H) → Nat
  | [] => 0
  | d :: r => uptoBulk d + uptoBulkAll r
def uptoBulkEntries {H : Type} : List (Lit × DataW H) → Nat
  | [] => 0
  | x :: r => uptoBulkEntry x + uptoBulkEntries r
def uptoBulkEntry {H : Type} : Lit × DataW H → Nat
  | (.string bytes, d) => bytes.length + uptoBulk d + 1
  | (_, d) => uptoBulk d + 1
 end
def uptoSmall : (H : Type) → List (DataW H) → Bool := fun _ ds => decide (uptoBulkAll ds ≤ 1048576)
def OpenSpec.upto (s : _root_.Go.ChangeSpec) : _root_.Go.OpenSpec := { _root_.Go.OpenSpec.ofChange s with cond := some uptoSmall }

/-- 'laws.FnExactLosersOf', WHERE WHAT IT READS IS OF BULK AT MOST 1048576: true; the input reads as it did. -/
def fnExactLosersOfUptoRow : OpenClaim := { program := "ytkjdhfkihampjaa", sum := "dc8d468c7fdf6a1f3bce23fa012e581de196bfd2b53e5028ae8a5b8fa0aea6a8", func := "loop.example/schemamigration/laws.FnExactLosersOf", spec := "fnExactLosersOf", unfollowed := true, recurses := true, apart := false, narrowed := true }
def FnExactLosersOfUptoSaid : Prop := fnExactLosersOfUptoRow.holds Try.pinned (OpenSpec.upto fnExactLosersOfSpec)

/-- 'laws.FnLosersOf', WHERE WHAT IT READS IS OF BULK AT MOST 1048576: true; the input reads as it did. -/
def fnLosersOfUptoRow : OpenClaim := { program := "ytkjdhfkihampjaa", sum := "dc8d468c7fdf6a1f3bce23fa012e581de196bfd2b53e5028ae8a5b8fa0aea6a8", func := "loop.example/schemamigration/laws.FnLosersOf", spec := "fnLosersOf", unfollowed := true, recurses := true, apart := false, narrowed := true }
def FnLosersOfUptoSaid : Prop := fnLosersOfUptoRow.holds Try.pinned (OpenSpec.upto fnLosersOfSpec)

/-- 'laws.FnExactCellsAt', WHERE WHAT IT READS IS OF BULK AT MOST 1048576: true; the input reads as it did. -/
def fnExactCellsAtUptoRow : OpenClaim := { program := "ytkjdhfkihampjaa", sum := "dc8d468c7fdf6a1f3bce23fa012e581de196bfd2b53e5028ae8a5b8fa0aea6a8", func := "loop.example/schemamigration/laws.FnExactCellsAt", spec := "fnExactCellsAt", apart := false, narrowed := true }
def FnExactCellsAtUptoSaid : Prop := fnExactCellsAtUptoRow.holds Try.pinned (OpenSpec.upto fnExactCellsAtSpec)

/-- 'laws.FnCellsAt', WHERE WHAT IT READS IS OF BULK AT MOST 1048576: true; the input reads as it did. -/
def fnCellsAtUptoRow : OpenClaim := { program := "ytkjdhfkihampjaa", sum := "dc8d468c7fdf6a1f3bce23fa012e581de196bfd2b53e5028ae8a5b8fa0aea6a8", func := "loop.example/schemamigration/laws.FnCellsAt", spec := "fnCellsAt", apart := false, narrowed := true }
def FnCellsAtUptoSaid : Prop := fnCellsAtUptoRow.holds Try.pinned (OpenSpec.upto fnCellsAtSpec)

/-- 'laws.FnRecoverStoreAgain', WHERE WHAT IT READS IS OF BULK AT MOST 1048576: true; the input reads as it did. -/
def fnRecoverStoreAgainUptoRow : OpenClaim := { program := "ytkjdhfkihampjaa", sum := "dc8d468c7fdf6a1f3bce23fa012e581de196bfd2b53e5028ae8a5b8fa0aea6a8", func := "loop.example/schemamigration/laws.FnRecoverStoreAgain", spec := "fnRecoverStoreAgain", apart := false, narrowed := true }
def FnRecoverStoreAgainUptoSaid : Prop := fnRecoverStoreAgainUptoRow.holds Try.pinned (OpenSpec.upto fnRecoverStoreAgainSpec)

/-- 'laws.FnRecoverFrom', WHERE WHAT IT READS IS OF BULK AT MOST 1048576: true; the input reads as it did. -/
def fnRecoverFromUptoRow : OpenClaim := { program := "ytkjdhfkihampjaa", sum := "dc8d468c7fdf6a1f3bce23fa012e581de196bfd2b53e5028ae8a5b8fa0aea6a8", func := "loop.example/schemamigration/laws.FnRecoverFrom", spec := "fnRecoverFrom", apart := false, narrowed := true }
def FnRecoverFromUptoSaid : Prop := fnRecoverFromUptoRow.holds Try.pinned (OpenSpec.upto fnRecoverFromSpec)

/-- 'laws.FnRecoverStore', WHERE WHAT IT READS IS OF BULK AT MOST 1048576: true; the input reads as it did. -/
def fnRecoverStoreUptoRow : OpenClaim := { program := "ytkjdhfkihampjaa", sum := "dc8d468c7fdf6a1f3bce23fa012e581de196bfd2b53e5028ae8a5b8fa0aea6a8", func := "loop.example/schemamigration/laws.FnRecoverStore", spec := "fnRecoverStore", apart := false, narrowed := true }
def FnRecoverStoreUptoSaid : Prop := fnRecoverStoreUptoRow.holds Try.pinned (OpenSpec.upto fnRecoverStoreSpec)

/-- 'laws.FnCheckOfActive', WHERE WHAT IT READS IS OF BULK AT MOST 1048576: true; the input reads as it did. -/
def fnCheckOfActiveUptoRow : OpenClaim := { program := "ytkjdhfkihampjaa", sum := "dc8d468c7fdf6a1f3bce23fa012e581de196bfd2b53e5028ae8a5b8fa0aea6a8", func := "loop.example/schemamigration/laws.FnCheckOfActive", spec := "fnCheckOfActive", unfollowed := true, recurses := true, apart := false, narrowed := true }
def FnCheckOfActiveUptoSaid : Prop := fnCheckOfActiveUptoRow.holds Try.pinned (OpenSpec.upto fnCheckOfActiveSpec)

/-- 'laws.FnRecoverStoreEnd', WHERE WHAT IT READS IS OF BULK AT MOST 1048576: true; the input reads as it did. -/
def fnRecoverStoreEndUptoRow : OpenClaim := { program := "ytkjdhfkihampjaa", sum := "dc8d468c7fdf6a1f3bce23fa012e581de196bfd2b53e5028ae8a5b8fa0aea6a8", func := "loop.example/schemamigration/laws.FnRecoverStoreEnd", spec := "fnRecoverStoreEnd", unfollowed := true, recurses := true, apart := false, narrowed := true }
def FnRecoverStoreEndUptoSaid : Prop := fnRecoverStoreEndUptoRow.holds Try.pinned (OpenSpec.upto fnRecoverStoreEndSpec)

/-- 'laws.FnRecoverStoreWinners', WHERE WHAT IT READS IS OF BULK AT MOST 1048576: true; the input reads as it did. -/
def fnRecoverStoreWinnersUptoRow : OpenClaim := { program := "ytkjdhfkihampjaa", sum := "dc8d468c7fdf6a1f3bce23fa012e581de196bfd2b53e5028ae8a5b8fa0aea6a8", func := "loop.example/schemamigration/laws.FnRecoverStoreWinners", spec := "fnRecoverStoreWinners", unfollowed := true, recurses := true, apart := false, narrowed := true }
def FnRecoverStoreWinnersUptoSaid : Prop := fnRecoverStoreWinnersUptoRow.holds Try.pinned (OpenSpec.upto fnRecoverStoreWinnersSpec)

end Rows
end Go.Proofs.Ytkjdhfkihampjaa
