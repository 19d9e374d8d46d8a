/-
  No cell of these rows narrows 'for every input' (looked for: loops, veiled, ifaces, maps, wideKeys, modest, calm, conditions, laid).
  DERIVED. THE GIVEN ROWS OF THIS SEAT. 8 by the template 'for every input the law returns true; each argument reads behind the call as it read before'; 0 by the template 'total and deterministic' (their statements: YtbppiknmlipmpaaTotals.lean).
  GIVEN WITH THE SEED: the statements are not yours to turn. If you find one false, say at which input.
  Laid BY PROGRAM, IN A SANDBOX (cutbox-rows.mjs): the forced cells as the released guide's own fill.sh prints them over the translation 6a177be37f13a2e3… (all of the seat's roots in one cut). By AI agents, Wed Nov 11 2026. No macro, syntax, notation, axiom, sorry.
-/
import Derived.Test.YtbppiknmlipmpaaChecked
import GoSem.Claim
import GoSem.ClaimJoined
import GoSem.ClaimMapViews
import Derived.JoinedTies
import Derived.KernelRfl
namespace Go.Proofs.Ytbppiknmlipmpaa
/- THE CELL 'sum', in the pinned program and in every row, IS THE sha256 OF THE DUMP (.gsa) THAT YtbppiknmlipmpaaProg.lean LOADS. Nothing in Lean hashes anything: it is a label: what it is worth is what the hold of that sum in a sandbox is worth. -/
noncomputable def Try.pinned : Pinned := { name := "ytbppiknmlipmpaa", sum := "6a177be37f13a2e3ff2913a30e9257ebb1cace53563fd79f6bb17887d1c4d585", checked := Try.checked }
namespace Rows
def none {H : Type} : Left H := { results := [], args := [] }

/-- 'laws.FnExactDropLock': WHATEVER THE INPUT: true; the input reads as it did. -/
def fnExactDropLockSpec : ChangeSpec := { name := "fnExactDropLock", fn := fun _ => fun
  | [d1, d2] => { results := [.lit (.bool true)], args := [d1, d2] }
  | _ => none }
def fnExactDropLockRow : OpenClaim := { program := "ytbppiknmlipmpaa", sum := "6a177be37f13a2e3ff2913a30e9257ebb1cace53563fd79f6bb17887d1c4d585", func := "loop.example/schemamigration/laws.FnExactDropLock", spec := "fnExactDropLock", unfollowed := true, recurses := true, apart := false }
def FnExactDropLockSaid : Prop := fnExactDropLockRow.holds Try.pinned (OpenSpec.ofChange fnExactDropLockSpec)

/-- ITS FALSE NEIGHBOUR: 'it returns false'. Refute it at one input. -/
def fnExactDropLockWrong : ChangeSpec := { name := "fnExactDropLock", fn := fun _ => fun
  | [d1, d2] => { results := [.lit (.bool false)], args := [d1, d2] }
  | _ => none }
def FnExactDropLockWrongFalsely : Prop := fnExactDropLockRow.holds Try.pinned (OpenSpec.ofChange fnExactDropLockWrong)

/-- 'laws.FnWaitsFor': WHATEVER THE INPUT: true; the input reads as it did. -/
def fnWaitsForSpec : ChangeSpec := { name := "fnWaitsFor", fn := fun _ => fun
  | [d] => { results := [.lit (.bool true)], args := [d] }
  | _ => none }
def fnWaitsForRow : OpenClaim := { program := "ytbppiknmlipmpaa", sum := "6a177be37f13a2e3ff2913a30e9257ebb1cace53563fd79f6bb17887d1c4d585", func := "loop.example/schemamigration/laws.FnWaitsFor", spec := "fnWaitsFor", apart := false }
def FnWaitsForSaid : Prop := fnWaitsForRow.holds Try.pinned (OpenSpec.ofChange fnWaitsForSpec)

/-- ITS FALSE NEIGHBOUR: 'it returns false'. Refute it at one input. -/
def fnWaitsForWrong : ChangeSpec := { name := "fnWaitsFor", fn := fun _ => fun
  | [d] => { results := [.lit (.bool false)], args := [d] }
  | _ => none }
def FnWaitsForWrongFalsely : Prop := fnWaitsForRow.holds Try.pinned (OpenSpec.ofChange fnWaitsForWrong)

/-- 'laws.FnWaitsForDirect': WHATEVER THE INPUT: true; the input reads as it did. -/
def fnWaitsForDirectSpec : ChangeSpec := { name := "fnWaitsForDirect", fn := fun _ => fun
  | [d] => { results := [.lit (.bool true)], args := [d] }
  | _ => none }
def fnWaitsForDirectRow : OpenClaim := { program := "ytbppiknmlipmpaa", sum := "6a177be37f13a2e3ff2913a30e9257ebb1cace53563fd79f6bb17887d1c4d585", func := "loop.example/schemamigration/laws.FnWaitsForDirect", spec := "fnWaitsForDirect", apart := false }
def FnWaitsForDirectSaid : Prop := fnWaitsForDirectRow.holds Try.pinned (OpenSpec.ofChange fnWaitsForDirectSpec)

/-- ITS FALSE NEIGHBOUR: 'it returns false'. Refute it at one input. -/
def fnWaitsForDirectWrong : ChangeSpec := { name := "fnWaitsForDirect", fn := fun _ => fun
  | [d] => { results := [.lit (.bool false)], args := [d] }
  | _ => none }
def FnWaitsForDirectWrongFalsely : Prop := fnWaitsForDirectRow.holds Try.pinned (OpenSpec.ofChange fnWaitsForDirectWrong)

/-- 'laws.FnLockedUp': WHATEVER THE INPUT: true; the input reads as it did. -/
def fnLockedUpSpec : ChangeSpec := { name := "fnLockedUp", fn := fun _ => fun
  | [d] => { results := [.lit (.bool true)], args := [d] }
  | _ => none }
def fnLockedUpRow : OpenClaim := { program := "ytbppiknmlipmpaa", sum := "6a177be37f13a2e3ff2913a30e9257ebb1cace53563fd79f6bb17887d1c4d585", func := "loop.example/schemamigration/laws.FnLockedUp", spec := "fnLockedUp", apart := false }
def FnLockedUpSaid : Prop := fnLockedUpRow.holds Try.pinned (OpenSpec.ofChange fnLockedUpSpec)

/-- ITS FALSE NEIGHBOUR: 'it returns false'. Refute it at one input. -/
def fnLockedUpWrong : ChangeSpec := { name := "fnLockedUp", fn := fun _ => fun
  | [d] => { results := [.lit (.bool false)], args := [d] }
  | _ => none }
def FnLockedUpWrongFalsely : Prop := fnLockedUpRow.holds Try.pinned (OpenSpec.ofChange fnLockedUpWrong)

/-- 'laws.FnExactWaitsFor': WHATEVER THE INPUT: true; the input reads as it did. -/
def fnExactWaitsForSpec : ChangeSpec := { name := "fnExactWaitsFor", fn := fun _ => fun
  | [d1, d2] => { results := [.lit (.bool true)], args := [d1, d2] }
  | _ => none }
def fnExactWaitsForRow : OpenClaim := { program := "ytbppiknmlipmpaa", sum := "6a177be37f13a2e3ff2913a30e9257ebb1cace53563fd79f6bb17887d1c4d585", func := "loop.example/schemamigration/laws.FnExactWaitsFor", spec := "fnExactWaitsFor", apart := false }
def FnExactWaitsForSaid : Prop := fnExactWaitsForRow.holds Try.pinned (OpenSpec.ofChange fnExactWaitsForSpec)

/-- ITS FALSE NEIGHBOUR: 'it returns false'. Refute it at one input. -/
def fnExactWaitsForWrong : ChangeSpec := { name := "fnExactWaitsFor", fn := fun _ => fun
  | [d1, d2] => { results := [.lit (.bool false)], args := [d1, d2] }
  | _ => none }
def FnExactWaitsForWrongFalsely : Prop := fnExactWaitsForRow.holds Try.pinned (OpenSpec.ofChange fnExactWaitsForWrong)

/-- 'laws.FnExactLockedUp': WHATEVER THE INPUT: true; the input reads as it did. -/
def fnExactLockedUpSpec : ChangeSpec := { name := "fnExactLockedUp", fn := fun _ => fun
  | [d] => { results := [.lit (.bool true)], args := [d] }
  | _ => none }
def fnExactLockedUpRow : OpenClaim := { program := "ytbppiknmlipmpaa", sum := "6a177be37f13a2e3ff2913a30e9257ebb1cace53563fd79f6bb17887d1c4d585", func := "loop.example/schemamigration/laws.FnExactLockedUp", spec := "fnExactLockedUp", apart := false }
def FnExactLockedUpSaid : Prop := fnExactLockedUpRow.holds Try.pinned (OpenSpec.ofChange fnExactLockedUpSpec)

/-- ITS FALSE NEIGHBOUR: 'it returns false'. Refute it at one input. -/
def fnExactLockedUpWrong : ChangeSpec := { name := "fnExactLockedUp", fn := fun _ => fun
  | [d] => { results := [.lit (.bool false)], args := [d] }
  | _ => none }
def FnExactLockedUpWrongFalsely : Prop := fnExactLockedUpRow.holds Try.pinned (OpenSpec.ofChange fnExactLockedUpWrong)

/-- 'laws.FnVictimsOf': WHATEVER THE INPUT: true; the input reads as it did. -/
def fnVictimsOfSpec : ChangeSpec := { name := "fnVictimsOf", fn := fun _ => fun
  | [d] => { results := [.lit (.bool true)], args := [d] }
  | _ => none }
def fnVictimsOfRow : OpenClaim := { program := "ytbppiknmlipmpaa", sum := "6a177be37f13a2e3ff2913a30e9257ebb1cace53563fd79f6bb17887d1c4d585", func := "loop.example/schemamigration/laws.FnVictimsOf", spec := "fnVictimsOf", apart := false }
def FnVictimsOfSaid : Prop := fnVictimsOfRow.holds Try.pinned (OpenSpec.ofChange fnVictimsOfSpec)

/-- ITS FALSE NEIGHBOUR: 'it returns false'. Refute it at one input. -/
def fnVictimsOfWrong : ChangeSpec := { name := "fnVictimsOf", fn := fun _ => fun
  | [d] => { results := [.lit (.bool false)], args := [d] }
  | _ => none }
def FnVictimsOfWrongFalsely : Prop := fnVictimsOfRow.holds Try.pinned (OpenSpec.ofChange fnVictimsOfWrong)

/-- 'laws.FnExactVictimsOf': WHATEVER THE INPUT: true; the input reads as it did. -/
def fnExactVictimsOfSpec : ChangeSpec := { name := "fnExactVictimsOf", fn := fun _ => fun
  | [d] => { results := [.lit (.bool true)], args := [d] }
  | _ => none }
def fnExactVictimsOfRow : OpenClaim := { program := "ytbppiknmlipmpaa", sum := "6a177be37f13a2e3ff2913a30e9257ebb1cace53563fd79f6bb17887d1c4d585", func := "loop.example/schemamigration/laws.FnExactVictimsOf", spec := "fnExactVictimsOf", apart := false }
def FnExactVictimsOfSaid : Prop := fnExactVictimsOfRow.holds Try.pinned (OpenSpec.ofChange fnExactVictimsOfSpec)

/-- ITS FALSE NEIGHBOUR: 'it returns false'. Refute it at one input. -/
def fnExactVictimsOfWrong : ChangeSpec := { name := "fnExactVictimsOf", fn := fun _ => fun
  | [d] => { results := [.lit (.bool false)], args := [d] }
  | _ => none }
def FnExactVictimsOfWrongFalsely : Prop := fnExactVictimsOfRow.holds Try.pinned (OpenSpec.ofChange fnExactVictimsOfWrong)

/- THE SECOND FORM. 'bulk': how many values and letters a reading holds, each counted each time it is reached (what is shared counts as often as it is met; a slice's spare places count too). A statement '..UptoSaid' is the law's where the arguments, and the package variables that the reading takes, are together of bulk at most 1048576: NARROWER than '..Said'. Prove '..Said' where nothing that the law and all that it calls make is longer than what came in: it says more and counts as full. Else prove '..UptoSaid'. A law counts once. -/
mutual
def uptoBulk {H : Type} : DataW H → Nat
  | .lit (.string bytes) => bytes.length + 1
  | .lit _ => 1
  | .nil => 1
  | .ptr d => uptoBulk d + 1
  | .slice elems spare => uptoBulkAll elems + uptoBulkAll spare + 1
  | .agg parts => uptoBulkAll parts + 1
  | .iface _ d => uptoBulk d + 1
  | .map entries => uptoBulkEntries entries + 1
  | .held _ => 1
def uptoBulkAll {H : Type} : List (DataW H) → Nat
  | [] => 0
  | d :: r => uptoBulk d + uptoBulkAll r
def uptoBulkEntries {H : Type} : List (Lit × DataW H) → Nat
  | [] => 0
  | x :: r => uptoBulkEntry x + uptoBulkEntries r
def uptoBulkEntry {H : Type} : Lit × DataW H → Nat
  | (.string bytes, d) => bytes.length + uptoBulk d + 1
  | (_, d) => uptoBulk d + 1
 end
def uptoSmall : (H : Type) → List (DataW H) → Bool := fun _ ds => decide (uptoBulkAll ds ≤ 1048576)
def OpenSpec.upto (s : _root_.Go.ChangeSpec) : _root_.Go.OpenSpec := { _root_.Go.OpenSpec.ofChange s with cond := some uptoSmall }

/-- 'laws.FnExactDropLock', WHERE WHAT IT READS IS OF BULK AT MOST 1048576: true; the input reads as it did. -/
def fnExactDropLockUptoRow : OpenClaim := { program := "ytbppiknmlipmpaa", sum := "6a177be37f13a2e3ff2913a30e9257ebb1cace53563fd79f6bb17887d1c4d585", func := "loop.example/schemamigration/laws.FnExactDropLock", spec := "fnExactDropLock", unfollowed := true, recurses := true, apart := false, narrowed := true }
def FnExactDropLockUptoSaid : Prop := fnExactDropLockUptoRow.holds Try.pinned (OpenSpec.upto fnExactDropLockSpec)

/-- 'laws.FnWaitsFor', WHERE WHAT IT READS IS OF BULK AT MOST 1048576: true; the input reads as it did. -/
def fnWaitsForUptoRow : OpenClaim := { program := "ytbppiknmlipmpaa", sum := "6a177be37f13a2e3ff2913a30e9257ebb1cace53563fd79f6bb17887d1c4d585", func := "loop.example/schemamigration/laws.FnWaitsFor", spec := "fnWaitsFor", apart := false, narrowed := true }
def FnWaitsForUptoSaid : Prop := fnWaitsForUptoRow.holds Try.pinned (OpenSpec.upto fnWaitsForSpec)

/-- 'laws.FnWaitsForDirect', WHERE WHAT IT READS IS OF BULK AT MOST 1048576: true; the input reads as it did. -/
def fnWaitsForDirectUptoRow : OpenClaim := { program := "ytbppiknmlipmpaa", sum := "6a177be37f13a2e3ff2913a30e9257ebb1cace53563fd79f6bb17887d1c4d585", func := "loop.example/schemamigration/laws.FnWaitsForDirect", spec := "fnWaitsForDirect", apart := false, narrowed := true }
def FnWaitsForDirectUptoSaid : Prop := fnWaitsForDirectUptoRow.holds Try.pinned (OpenSpec.upto fnWaitsForDirectSpec)

/-- 'laws.FnLockedUp', WHERE WHAT IT READS IS OF BULK AT MOST 1048576: true; the input reads as it did. -/
def fnLockedUpUptoRow : OpenClaim := { program := "ytbppiknmlipmpaa", sum := "6a177be37f13a2e3ff2913a30e9257ebb1cace53563fd79f6bb17887d1c4d585", func := "loop.example/schemamigration/laws.FnLockedUp", spec := "fnLockedUp", apart := false, narrowed := true }
def FnLockedUpUptoSaid : Prop := fnLockedUpUptoRow.holds Try.pinned (OpenSpec.upto fnLockedUpSpec)

/-- 'laws.FnExactWaitsFor', WHERE WHAT IT READS IS OF BULK AT MOST 1048576: true; the input reads as it did. -/
def fnExactWaitsForUptoRow : OpenClaim := { program := "ytbppiknmlipmpaa", sum := "6a177be37f13a2e3ff2913a30e9257ebb1cace53563fd79f6bb17887d1c4d585", func := "loop.example/schemamigration/laws.FnExactWaitsFor", spec := "fnExactWaitsFor", apart := false, narrowed := true }
def FnExactWaitsForUptoSaid : Prop := fnExactWaitsForUptoRow.holds Try.pinned (OpenSpec.upto fnExactWaitsForSpec)

/-- 'laws.FnExactLockedUp', WHERE WHAT IT READS IS OF BULK AT MOST 1048576: true; the input reads as it did. -/
def fnExactLockedUpUptoRow : OpenClaim := { program := "ytbppiknmlipmpaa", sum := "6a177be37f13a2e3ff2913a30e9257ebb1cace53563fd79f6bb17887d1c4d585", func := "loop.example/schemamigration/laws.FnExactLockedUp", spec := "fnExactLockedUp", apart := false, narrowed := true }
def FnExactLockedUpUptoSaid : Prop := fnExactLockedUpUptoRow.holds Try.pinned (OpenSpec.upto fnExactLockedUpSpec)

/-- 'laws.FnVictimsOf', WHERE WHAT IT READS IS OF BULK AT MOST 1048576: true; the input reads as it did. -/
def fnVictimsOfUptoRow : OpenClaim := { program := "ytbppiknmlipmpaa", sum := "6a177be37f13a2e3ff2913a30e9257ebb1cace53563fd79f6bb17887d1c4d585", func := "loop.example/schemamigration/laws.FnVictimsOf", spec := "fnVictimsOf", apart := false, narrowed := true }
def FnVictimsOfUptoSaid : Prop := fnVictimsOfUptoRow.holds Try.pinned (OpenSpec.upto fnVictimsOfSpec)

/-- 'laws.FnExactVictimsOf', WHERE WHAT IT READS IS OF BULK AT MOST 1048576: true; the input reads as it did. -/
def fnExactVictimsOfUptoRow : OpenClaim := { program := "ytbppiknmlipmpaa", sum := "6a177be37f13a2e3ff2913a30e9257ebb1cace53563fd79f6bb17887d1c4d585", func := "loop.example/schemamigration/laws.FnExactVictimsOf", spec := "fnExactVictimsOf", apart := false, narrowed := true }
def FnExactVictimsOfUptoSaid : Prop := fnExactVictimsOfUptoRow.holds Try.pinned (OpenSpec.upto fnExactVictimsOfSpec)

end Rows
end Go.Proofs.Ytbppiknmlipmpaa
