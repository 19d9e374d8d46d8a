/-
  NARROWER THAN 'FOR EVERY INPUT', by the rows' own cells (each row's printed sentence says how): FnDropLock: laid · FnQueueWaits: laid · FnExactQueueWaits: laid.
  DERIVED. THE GIVEN ROWS OF THIS SEAT. 3 by the template 'for every input the law returns true; each argument reads behind the call as it read before'; 0 by the template 'total and deterministic' (their statements: YtbppiknmlipmpaaDoorTotals.lean).
  GIVEN WITH THE SEED: the statements are not yours to turn. If you find one false, say at which input.
  Laid BY PROGRAM, IN A SANDBOX (cutbox-rows.mjs): the forced cells as the released guide's own fill.sh prints them over the translation 41d2156e12d11809… (all of the seat's roots in one cut). By AI agents, Wed Nov 11 2026. No macro, syntax, notation, axiom, sorry.
-/
import Derived.Test.YtbppiknmlipmpaaDoorChecked
import GoSem.Claim
import GoSem.ClaimJoined
import GoSem.ClaimMapViews
import Derived.JoinedTies
import Derived.KernelRfl
namespace Go.Proofs.YtbppiknmlipmpaaDoor
/- THE CELL 'sum', in the pinned program and in every row, IS THE sha256 OF THE DUMP (.gsa) THAT YtbppiknmlipmpaaDoorProg.lean LOADS. Nothing in Lean hashes anything: it is a label: what it is worth is what the hold of that sum in a sandbox is worth. -/
noncomputable def Tryd.pinned : Pinned := { name := "ytbppiknmlipmpaadoor", sum := "41d2156e12d11809c82a679c761294864a281fea67e2d7eece0f98f61bf23252", checked := Tryd.checked }
namespace Rows
def none {H : Type} : Left H := { results := [], args := [] }

/- WHAT THE LISTED PACKAGE-LEVEL VARIABLES READ AS WHEN THE CALL BEGINS. Each datum BY PROGRAM (the guide's laid-datum.mjs) off the statement by which the dump's own 'gosem.cut.vars' lays the variable. In a bare row this is a premise. The card (YtbppiknmlipmpaaDoorCards.lean) ties it to the program's text. -/
def laid_loop_example_schemamigration_impl_lockMasks {H : Type} : DataW H := .agg [.lit (.int .u8 63), .lit (.int .u8 31), .lit (.int .u8 7), .lit (.int .u8 11), .lit (.int .u8 3), .lit (.int .u8 1)]

/-- 'laws.FnDropLock': WHATEVER THE INPUT: true; the input reads as it did. -/
def fnDropLockSpec : ChangeSpec := { name := "fnDropLock", vars := ["loop.example/schemamigration/impl.lockMasks"], fn := fun _ => fun
  | [d, g1] => { results := [.lit (.bool true)], args := [d], vars := [g1] }
  | _ => none }
def fnDropLockRow : OpenClaim := { program := "ytbppiknmlipmpaadoor", sum := "41d2156e12d11809c82a679c761294864a281fea67e2d7eece0f98f61bf23252", func := "loop.example/schemamigration/laws.FnDropLock", spec := "fnDropLock", unfollowed := true, recurses := true, named := ["loop.example/schemamigration/impl.lockMasks"], apart := false, laid := [("loop.example/schemamigration/impl.lockMasks", laid_loop_example_schemamigration_impl_lockMasks)] }
def FnDropLockSaid : Prop := fnDropLockRow.holds Tryd.pinned (OpenSpec.ofChange fnDropLockSpec)

/-- ITS FALSE NEIGHBOUR: 'it returns false'. Refute it at one input. -/
def fnDropLockWrong : ChangeSpec := { name := "fnDropLock", vars := ["loop.example/schemamigration/impl.lockMasks"], fn := fun _ => fun
  | [d, g1] => { results := [.lit (.bool false)], args := [d], vars := [g1] }
  | _ => none }
def FnDropLockWrongFalsely : Prop := fnDropLockRow.holds Tryd.pinned (OpenSpec.ofChange fnDropLockWrong)

/-- 'laws.FnQueueWaits': WHATEVER THE INPUT: true; the input reads as it did. -/
def fnQueueWaitsSpec : ChangeSpec := { name := "fnQueueWaits", vars := ["loop.example/schemamigration/impl.lockMasks"], fn := fun _ => fun
  | [d, g1] => { results := [.lit (.bool true)], args := [d], vars := [g1] }
  | _ => none }
def fnQueueWaitsRow : OpenClaim := { program := "ytbppiknmlipmpaadoor", sum := "41d2156e12d11809c82a679c761294864a281fea67e2d7eece0f98f61bf23252", func := "loop.example/schemamigration/laws.FnQueueWaits", spec := "fnQueueWaits", unfollowed := true, recurses := true, named := ["loop.example/schemamigration/impl.lockMasks"], apart := false, laid := [("loop.example/schemamigration/impl.lockMasks", laid_loop_example_schemamigration_impl_lockMasks)] }
def FnQueueWaitsSaid : Prop := fnQueueWaitsRow.holds Tryd.pinned (OpenSpec.ofChange fnQueueWaitsSpec)

/-- ITS FALSE NEIGHBOUR: 'it returns false'. Refute it at one input. -/
def fnQueueWaitsWrong : ChangeSpec := { name := "fnQueueWaits", vars := ["loop.example/schemamigration/impl.lockMasks"], fn := fun _ => fun
  | [d, g1] => { results := [.lit (.bool false)], args := [d], vars := [g1] }
  | _ => none }
def FnQueueWaitsWrongFalsely : Prop := fnQueueWaitsRow.holds Tryd.pinned (OpenSpec.ofChange fnQueueWaitsWrong)

/-- 'laws.FnExactQueueWaits': WHATEVER THE INPUT: true; the input reads as it did. -/
def fnExactQueueWaitsSpec : ChangeSpec := { name := "fnExactQueueWaits", vars := ["loop.example/schemamigration/impl.lockMasks"], fn := fun _ => fun
  | [d, g1] => { results := [.lit (.bool true)], args := [d], vars := [g1] }
  | _ => none }
def fnExactQueueWaitsRow : OpenClaim := { program := "ytbppiknmlipmpaadoor", sum := "41d2156e12d11809c82a679c761294864a281fea67e2d7eece0f98f61bf23252", func := "loop.example/schemamigration/laws.FnExactQueueWaits", spec := "fnExactQueueWaits", unfollowed := true, recurses := true, named := ["loop.example/schemamigration/impl.lockMasks"], apart := false, laid := [("loop.example/schemamigration/impl.lockMasks", laid_loop_example_schemamigration_impl_lockMasks)] }
def FnExactQueueWaitsSaid : Prop := fnExactQueueWaitsRow.holds Tryd.pinned (OpenSpec.ofChange fnExactQueueWaitsSpec)

/-- ITS FALSE NEIGHBOUR: 'it returns false'. Refute it at one input. -/
def fnExactQueueWaitsWrong : ChangeSpec := { name := "fnExactQueueWaits", vars := ["loop.example/schemamigration/impl.lockMasks"], fn := fun _ => fun
  | [d, g1] => { results := [.lit (.bool false)], args := [d], vars := [g1] }
  | _ => none }
def FnExactQueueWaitsWrongFalsely : Prop := fnExactQueueWaitsRow.holds Tryd.pinned (OpenSpec.ofChange fnExactQueueWaitsWrong)

/- THE SECOND FORM. 'bulk': how many values and letters a reading holds, each counted each time it is reached (what is shared counts as often as it is met; a slice's spare places count too). A statement '..UptoSaid' is the law's where the arguments, and the package variables that the reading takes, are together of bulk at most 1048576: NARROWER than '..Said'. Prove '..Said' where nothing that the law and all that it calls make is longer than what came in: it says more and counts as full. Else prove '..UptoSaid'. A law counts once. -/
mutual
def uptoBulk {H : Type} : DataW H → Nat
  | .lit (.string bytes) => bytes.length + 1
  | .lit _ => 1
  | .nil => 1
  | .ptr d => uptoBulk d + 1
  | .slice elems spare => uptoBulkAll elems + uptoBulkAll spare + 1
  | .agg parts => uptoBulkAll parts + 1
  | .iface _ d => uptoBulk d + 1
  | .map entries => uptoBulkEntries entries + 1
  | .held _ => 1
def uptoBulkAll {H : Type} : List (DataW H) → Nat
  | [] => 0
  | d :: r => uptoBulk d + uptoBulkAll r
def uptoBulkEntries {H : Type} : List (Lit × DataW H) → Nat
  | [] => 0
  | x :: r => uptoBulkEntry x + uptoBulkEntries r
def uptoBulkEntry {H : Type} : Lit × DataW H → Nat
  | (.string bytes, d) => bytes.length + uptoBulk d + 1
  | (_, d) => uptoBulk d + 1
 end
def uptoSmall : (H : Type) → List (DataW H) → Bool := fun _ ds => decide (uptoBulkAll ds ≤ 1048576)
def OpenSpec.upto (s : _root_.Go.ChangeSpec) : _root_.Go.OpenSpec := { _root_.Go.OpenSpec.ofChange s with cond := some uptoSmall }

/-- 'laws.FnDropLock', WHERE WHAT IT READS IS OF BULK AT MOST 1048576: true; the input reads as it did. -/
def fnDropLockUptoRow : OpenClaim := { program := "ytbppiknmlipmpaadoor", sum := "41d2156e12d11809c82a679c761294864a281fea67e2d7eece0f98f61bf23252", func := "loop.example/schemamigration/laws.FnDropLock", spec := "fnDropLock", unfollowed := true, recurses := true, named := ["loop.example/schemamigration/impl.lockMasks"], apart := false, laid := [("loop.example/schemamigration/impl.lockMasks", laid_loop_example_schemamigration_impl_lockMasks)], narrowed := true }
def FnDropLockUptoSaid : Prop := fnDropLockUptoRow.holds Tryd.pinned (OpenSpec.upto fnDropLockSpec)

/-- 'laws.FnQueueWaits', WHERE WHAT IT READS IS OF BULK AT MOST 1048576: true; the input reads as it did. -/
def fnQueueWaitsUptoRow : OpenClaim := { program := "ytbppiknmlipmpaadoor", sum := "41d2156e12d11809c82a679c761294864a281fea67e2d7eece0f98f61bf23252", func := "loop.example/schemamigration/laws.FnQueueWaits", spec := "fnQueueWaits", unfollowed := true, recurses := true, named := ["loop.example/schemamigration/impl.lockMasks"], apart := false, laid := [("loop.example/schemamigration/impl.lockMasks", laid_loop_example_schemamigration_impl_lockMasks)], narrowed := true }
def FnQueueWaitsUptoSaid : Prop := fnQueueWaitsUptoRow.holds Tryd.pinned (OpenSpec.upto fnQueueWaitsSpec)

/-- 'laws.FnExactQueueWaits', WHERE WHAT IT READS IS OF BULK AT MOST 1048576: true; the input reads as it did. -/
def fnExactQueueWaitsUptoRow : OpenClaim := { program := "ytbppiknmlipmpaadoor", sum := "41d2156e12d11809c82a679c761294864a281fea67e2d7eece0f98f61bf23252", func := "loop.example/schemamigration/laws.FnExactQueueWaits", spec := "fnExactQueueWaits", unfollowed := true, recurses := true, named := ["loop.example/schemamigration/impl.lockMasks"], apart := false, laid := [("loop.example/schemamigration/impl.lockMasks", laid_loop_example_schemamigration_impl_lockMasks)], narrowed := true }
def FnExactQueueWaitsUptoSaid : Prop := fnExactQueueWaitsUptoRow.holds Tryd.pinned (OpenSpec.upto fnExactQueueWaitsSpec)

end Rows
end Go.Proofs.YtbppiknmlipmpaaDoor
