/-
  No cell of these rows narrows 'for every input' (looked for: loops, veiled, ifaces, maps, wideKeys, modest, calm, conditions, laid).
  DERIVED. THE GIVEN ROWS OF THIS SEAT. 6 by the template 'for every input the law returns true; each argument reads behind the call as it read before'; 0 by the template 'total and deterministic' (their statements: YtamcolbbaaebiaaTotals.lean).
  GIVEN WITH THE SEED: the statements are not yours to turn. If you find one false, say at which input.
  Laid BY PROGRAM, IN A SANDBOX (cutbox-rows.mjs): the forced cells as the released guide's own fill.sh prints them over the translation e231f525a6957205… (all of the seat's roots in one cut). By AI agents, Wed Nov 11 2026. No macro, syntax, notation, axiom, sorry.
-/
import Derived.Test.YtamcolbbaaebiaaChecked
import GoSem.Claim
import GoSem.ClaimJoined
import GoSem.ClaimMapViews
import Derived.JoinedTies
import Derived.KernelRfl
namespace Go.Proofs.Ytamcolbbaaebiaa
/- THE CELL 'sum', in the pinned program and in every row, IS THE sha256 OF THE DUMP (.gsa) THAT YtamcolbbaaebiaaProg.lean LOADS. Nothing in Lean hashes anything: it is a label: what it is worth is what the hold of that sum in a sandbox is worth. -/
noncomputable def Try.pinned : Pinned := { name := "ytamcolbbaaebiaa", sum := "e231f525a6957205e853dec4741e8d76ad5ad153e9cb8f4647385d0da0fbc77d", checked := Try.checked }
namespace Rows
def none {H : Type} : Left H := { results := [], args := [] }

/-- 'laws.FnExactValidActs': WHATEVER THE INPUT: true; the input reads as it did. -/
def fnExactValidActsSpec : ChangeSpec := { name := "fnExactValidActs", fn := fun _ => fun
  | [d] => { results := [.lit (.bool true)], args := [d] }
  | _ => none }
def fnExactValidActsRow : OpenClaim := { program := "ytamcolbbaaebiaa", sum := "e231f525a6957205e853dec4741e8d76ad5ad153e9cb8f4647385d0da0fbc77d", func := "loop.example/schemamigration/laws.FnExactValidActs", spec := "fnExactValidActs", apart := false }
def FnExactValidActsSaid : Prop := fnExactValidActsRow.holds Try.pinned (OpenSpec.ofChange fnExactValidActsSpec)

/-- ITS FALSE NEIGHBOUR: 'it returns false'. Refute it at one input. -/
def fnExactValidActsWrong : ChangeSpec := { name := "fnExactValidActs", fn := fun _ => fun
  | [d] => { results := [.lit (.bool false)], args := [d] }
  | _ => none }
def FnExactValidActsWrongFalsely : Prop := fnExactValidActsRow.holds Try.pinned (OpenSpec.ofChange fnExactValidActsWrong)

/-- 'laws.FnValidActs': WHATEVER THE INPUT: true; the input reads as it did. -/
def fnValidActsSpec : ChangeSpec := { name := "fnValidActs", fn := fun _ => fun
  | [d] => { results := [.lit (.bool true)], args := [d] }
  | _ => none }
def fnValidActsRow : OpenClaim := { program := "ytamcolbbaaebiaa", sum := "e231f525a6957205e853dec4741e8d76ad5ad153e9cb8f4647385d0da0fbc77d", func := "loop.example/schemamigration/laws.FnValidActs", spec := "fnValidActs", apart := false }
def FnValidActsSaid : Prop := fnValidActsRow.holds Try.pinned (OpenSpec.ofChange fnValidActsSpec)

/-- ITS FALSE NEIGHBOUR: 'it returns false'. Refute it at one input. -/
def fnValidActsWrong : ChangeSpec := { name := "fnValidActs", fn := fun _ => fun
  | [d] => { results := [.lit (.bool false)], args := [d] }
  | _ => none }
def FnValidActsWrongFalsely : Prop := fnValidActsRow.holds Try.pinned (OpenSpec.ofChange fnValidActsWrong)

/-- 'laws.FnWithoutOwner': WHATEVER THE INPUT: true; the input reads as it did. -/
def fnWithoutOwnerSpec : ChangeSpec := { name := "fnWithoutOwner", fn := fun _ => fun
  | [d] => { results := [.lit (.bool true)], args := [d] }
  | _ => none }
def fnWithoutOwnerRow : OpenClaim := { program := "ytamcolbbaaebiaa", sum := "e231f525a6957205e853dec4741e8d76ad5ad153e9cb8f4647385d0da0fbc77d", func := "loop.example/schemamigration/laws.FnWithoutOwner", spec := "fnWithoutOwner", apart := false }
def FnWithoutOwnerSaid : Prop := fnWithoutOwnerRow.holds Try.pinned (OpenSpec.ofChange fnWithoutOwnerSpec)

/-- ITS FALSE NEIGHBOUR: 'it returns false'. Refute it at one input. -/
def fnWithoutOwnerWrong : ChangeSpec := { name := "fnWithoutOwner", fn := fun _ => fun
  | [d] => { results := [.lit (.bool false)], args := [d] }
  | _ => none }
def FnWithoutOwnerWrongFalsely : Prop := fnWithoutOwnerRow.holds Try.pinned (OpenSpec.ofChange fnWithoutOwnerWrong)

/-- 'laws.FnExactRedoFrom': WHATEVER THE INPUT: true; the input reads as it did. -/
def fnExactRedoFromSpec : ChangeSpec := { name := "fnExactRedoFrom", fn := fun _ => fun
  | [d1, d2] => { results := [.lit (.bool true)], args := [d1, d2] }
  | _ => none }
def fnExactRedoFromRow : OpenClaim := { program := "ytamcolbbaaebiaa", sum := "e231f525a6957205e853dec4741e8d76ad5ad153e9cb8f4647385d0da0fbc77d", func := "loop.example/schemamigration/laws.FnExactRedoFrom", spec := "fnExactRedoFrom", apart := false }
def FnExactRedoFromSaid : Prop := fnExactRedoFromRow.holds Try.pinned (OpenSpec.ofChange fnExactRedoFromSpec)

/-- ITS FALSE NEIGHBOUR: 'it returns false'. Refute it at one input. -/
def fnExactRedoFromWrong : ChangeSpec := { name := "fnExactRedoFrom", fn := fun _ => fun
  | [d1, d2] => { results := [.lit (.bool false)], args := [d1, d2] }
  | _ => none }
def FnExactRedoFromWrongFalsely : Prop := fnExactRedoFromRow.holds Try.pinned (OpenSpec.ofChange fnExactRedoFromWrong)

/-- 'laws.FnExactWithoutOwner': WHATEVER THE INPUT: true; the input reads as it did. -/
def fnExactWithoutOwnerSpec : ChangeSpec := { name := "fnExactWithoutOwner", fn := fun _ => fun
  | [d1, d2] => { results := [.lit (.bool true)], args := [d1, d2] }
  | _ => none }
def fnExactWithoutOwnerRow : OpenClaim := { program := "ytamcolbbaaebiaa", sum := "e231f525a6957205e853dec4741e8d76ad5ad153e9cb8f4647385d0da0fbc77d", func := "loop.example/schemamigration/laws.FnExactWithoutOwner", spec := "fnExactWithoutOwner", apart := false }
def FnExactWithoutOwnerSaid : Prop := fnExactWithoutOwnerRow.holds Try.pinned (OpenSpec.ofChange fnExactWithoutOwnerSpec)

/-- ITS FALSE NEIGHBOUR: 'it returns false'. Refute it at one input. -/
def fnExactWithoutOwnerWrong : ChangeSpec := { name := "fnExactWithoutOwner", fn := fun _ => fun
  | [d1, d2] => { results := [.lit (.bool false)], args := [d1, d2] }
  | _ => none }
def FnExactWithoutOwnerWrongFalsely : Prop := fnExactWithoutOwnerRow.holds Try.pinned (OpenSpec.ofChange fnExactWithoutOwnerWrong)

/-- 'laws.FnExactDoEdit': WHATEVER THE INPUT: true; the input reads as it did. -/
def fnExactDoEditSpec : ChangeSpec := { name := "fnExactDoEdit", fn := fun _ => fun
  | [d1, d2] => { results := [.lit (.bool true)], args := [d1, d2] }
  | _ => none }
def fnExactDoEditRow : OpenClaim := { program := "ytamcolbbaaebiaa", sum := "e231f525a6957205e853dec4741e8d76ad5ad153e9cb8f4647385d0da0fbc77d", func := "loop.example/schemamigration/laws.FnExactDoEdit", spec := "fnExactDoEdit", apart := false }
def FnExactDoEditSaid : Prop := fnExactDoEditRow.holds Try.pinned (OpenSpec.ofChange fnExactDoEditSpec)

/-- ITS FALSE NEIGHBOUR: 'it returns false'. Refute it at one input. -/
def fnExactDoEditWrong : ChangeSpec := { name := "fnExactDoEdit", fn := fun _ => fun
  | [d1, d2] => { results := [.lit (.bool false)], args := [d1, d2] }
  | _ => none }
def FnExactDoEditWrongFalsely : Prop := fnExactDoEditRow.holds Try.pinned (OpenSpec.ofChange fnExactDoEditWrong)

/- THE SECOND FORM. 'bulk': how many values and letters a reading holds, each counted each time it is reached (what is shared counts as often as it is met; a slice's spare places count too). A statement '..UptoSaid' is the law's where the arguments, and the package variables that the reading takes, are together of bulk at most 1048576: NARROWER than '..Said'. Prove '..Said' where nothing that the law and all that it calls make is longer than what came in: it says more and counts as full. Else prove '..UptoSaid'. A law counts once. -/
mutual
def uptoBulk {H : Type} : DataW H → Nat
  | .lit (.string bytes) => bytes.length + 1
  | .lit _ => 1
  | .nil => 1
  | .ptr d => uptoBulk d + 1
  | .slice elems spare => uptoBulkAll elems + uptoBulkAll spare + 1
  | .agg parts => uptoBulkAll parts + 1
  | .iface _ d => uptoBulk d + 1
  | .map entries => uptoBulkEntries entries + 1
  | .held _ => 1
def uptoBulkAll {H : Type} : List (DataW H) → Nat
  | [] => 0
  | d :: r => uptoBulk d + uptoBulkAll r
def uptoBulkEntries {H : Type} : List (Lit × DataW H) → Nat
  | [] => 0
  | x :: r => uptoBulkEntry x + uptoBulkEntries r
def uptoBulkEntry {H : Type} : Lit × DataW H → Nat
  | (.string bytes, d) => bytes.length + uptoBulk d + 1
  | (_, d) => uptoBulk d + 1
 end
def uptoSmall : (H : Type) → List (DataW H) → Bool := fun _ ds => decide (uptoBulkAll ds ≤ 1048576)
def OpenSpec.upto (s : _root_.Go.ChangeSpec) : _root_.Go.OpenSpec := { _root_.Go.OpenSpec.ofChange s with cond := some uptoSmall }

/-- 'laws.FnExactValidActs', WHERE WHAT IT READS IS OF BULK AT MOST 1048576: true; the input reads as it did. -/
def fnExactValidActsUptoRow : OpenClaim := { program := "ytamcolbbaaebiaa", sum := "e231f525a6957205e853dec4741e8d76ad5ad153e9cb8f4647385d0da0fbc77d", func := "loop.example/schemamigration/laws.FnExactValidActs", spec := "fnExactValidActs", apart := false, narrowed := true }
def FnExactValidActsUptoSaid : Prop := fnExactValidActsUptoRow.holds Try.pinned (OpenSpec.upto fnExactValidActsSpec)

/-- 'laws.FnValidActs', WHERE WHAT IT READS IS OF BULK AT MOST 1048576: true; the input reads as it did. -/
def fnValidActsUptoRow : OpenClaim := { program := "ytamcolbbaaebiaa", sum := "e231f525a6957205e853dec4741e8d76ad5ad153e9cb8f4647385d0da0fbc77d", func := "loop.example/schemamigration/laws.FnValidActs", spec := "fnValidActs", apart := false, narrowed := true }
def FnValidActsUptoSaid : Prop := fnValidActsUptoRow.holds Try.pinned (OpenSpec.upto fnValidActsSpec)

/-- 'laws.FnWithoutOwner', WHERE WHAT IT READS IS OF BULK AT MOST 1048576: true; the input reads as it did. -/
def fnWithoutOwnerUptoRow : OpenClaim := { program := "ytamcolbbaaebiaa", sum := "e231f525a6957205e853dec4741e8d76ad5ad153e9cb8f4647385d0da0fbc77d", func := "loop.example/schemamigration/laws.FnWithoutOwner", spec := "fnWithoutOwner", apart := false, narrowed := true }
def FnWithoutOwnerUptoSaid : Prop := fnWithoutOwnerUptoRow.holds Try.pinned (OpenSpec.upto fnWithoutOwnerSpec)

/-- 'laws.FnExactRedoFrom', WHERE WHAT IT READS IS OF BULK AT MOST 1048576: true; the input reads as it did. -/
def fnExactRedoFromUptoRow : OpenClaim := { program := "ytamcolbbaaebiaa", sum := "e231f525a6957205e853dec4741e8d76ad5ad153e9cb8f4647385d0da0fbc77d", func := "loop.example/schemamigration/laws.FnExactRedoFrom", spec := "fnExactRedoFrom", apart := false, narrowed := true }
def FnExactRedoFromUptoSaid : Prop := fnExactRedoFromUptoRow.holds Try.pinned (OpenSpec.upto fnExactRedoFromSpec)

/-- 'laws.FnExactWithoutOwner', WHERE WHAT IT READS IS OF BULK AT MOST 1048576: true; the input reads as it did. -/
def fnExactWithoutOwnerUptoRow : OpenClaim := { program := "ytamcolbbaaebiaa", sum := "e231f525a6957205e853dec4741e8d76ad5ad153e9cb8f4647385d0da0fbc77d", func := "loop.example/schemamigration/laws.FnExactWithoutOwner", spec := "fnExactWithoutOwner", apart := false, narrowed := true }
def FnExactWithoutOwnerUptoSaid : Prop := fnExactWithoutOwnerUptoRow.holds Try.pinned (OpenSpec.upto fnExactWithoutOwnerSpec)

/-- 'laws.FnExactDoEdit', WHERE WHAT IT READS IS OF BULK AT MOST 1048576: true; the input reads as it did. -/
def fnExactDoEditUptoRow : OpenClaim := { program := "ytamcolbbaaebiaa", sum := "e231f525a6957205e853dec4741e8d76ad5ad153e9cb8f4647385d0da0fbc77d", func := "loop.example/schemamigration/laws.FnExactDoEdit", spec := "fnExactDoEdit", apart := false, narrowed := true }
def FnExactDoEditUptoSaid : Prop := fnExactDoEditUptoRow.holds Try.pinned (OpenSpec.upto fnExactDoEditSpec)

end Rows
end Go.Proofs.Ytamcolbbaaebiaa
