/-
  No cell of these rows narrows 'for every input' (looked for: loops, veiled, ifaces, maps, wideKeys, modest, calm, conditions, laid).
  DERIVED. THE GIVEN ROWS OF THIS SEAT. 10 by the template 'for every input the law returns true; each argument reads behind the call as it read before'; 0 by the template 'total and deterministic' (their statements: YtfchlcghildiaaaTotals.lean).
  GIVEN WITH THE SEED: the statements are not yours to turn. If you find one false, say at which input.
  Laid BY PROGRAM, IN A SANDBOX (cutbox-rows.mjs): the forced cells as the released guide's own fill.sh prints them over the translation c1dcda6934cba64f… (all of the seat's roots in one cut). By AI agents, Wed Nov 11 2026. No macro, syntax, notation, axiom, sorry.
-/
import Derived.Test.YtfchlcghildiaaaChecked
import GoSem.Claim
import GoSem.ClaimJoined
import GoSem.ClaimMapViews
import Derived.JoinedTies
import Derived.KernelRfl
namespace Go.Proofs.Ytfchlcghildiaaa
/- THE CELL 'sum', in the pinned program and in every row, IS THE sha256 OF THE DUMP (.gsa) THAT YtfchlcghildiaaaProg.lean LOADS. Nothing in Lean hashes anything: it is a label: what it is worth is what the hold of that sum in a sandbox is worth. -/
noncomputable def Try.pinned : Pinned := { name := "ytfchlcghildiaaa", sum := "c1dcda6934cba64f0c325b3bb25bf56bb07d66ef1f05d919504a783bc666f295", checked := Try.checked }
namespace Rows
def none {H : Type} : Left H := { results := [], args := [] }

/-- 'laws.FnExactValidBuffer': WHATEVER THE INPUT: true; the input reads as it did. -/
def fnExactValidBufferSpec : ChangeSpec := { name := "fnExactValidBuffer", fn := fun _ => fun
  | [d] => { results := [.lit (.bool true)], args := [d] }
  | _ => none }
def fnExactValidBufferRow : OpenClaim := { program := "ytfchlcghildiaaa", sum := "c1dcda6934cba64f0c325b3bb25bf56bb07d66ef1f05d919504a783bc666f295", func := "loop.example/schemamigration/laws.FnExactValidBuffer", spec := "fnExactValidBuffer", unfollowed := true, recurses := true, apart := false }
def FnExactValidBufferSaid : Prop := fnExactValidBufferRow.holds Try.pinned (OpenSpec.ofChange fnExactValidBufferSpec)

/-- ITS FALSE NEIGHBOUR: 'it returns false'. Refute it at one input. -/
def fnExactValidBufferWrong : ChangeSpec := { name := "fnExactValidBuffer", fn := fun _ => fun
  | [d] => { results := [.lit (.bool false)], args := [d] }
  | _ => none }
def FnExactValidBufferWrongFalsely : Prop := fnExactValidBufferRow.holds Try.pinned (OpenSpec.ofChange fnExactValidBufferWrong)

/-- 'laws.FnExactCanWrite': WHATEVER THE INPUT: true; the input reads as it did. -/
def fnExactCanWriteSpec : ChangeSpec := { name := "fnExactCanWrite", fn := fun _ => fun
  | [d1, d2] => { results := [.lit (.bool true)], args := [d1, d2] }
  | _ => none }
def fnExactCanWriteRow : OpenClaim := { program := "ytfchlcghildiaaa", sum := "c1dcda6934cba64f0c325b3bb25bf56bb07d66ef1f05d919504a783bc666f295", func := "loop.example/schemamigration/laws.FnExactCanWrite", spec := "fnExactCanWrite", unfollowed := true, recurses := true, apart := false }
def FnExactCanWriteSaid : Prop := fnExactCanWriteRow.holds Try.pinned (OpenSpec.ofChange fnExactCanWriteSpec)

/-- ITS FALSE NEIGHBOUR: 'it returns false'. Refute it at one input. -/
def fnExactCanWriteWrong : ChangeSpec := { name := "fnExactCanWrite", fn := fun _ => fun
  | [d1, d2] => { results := [.lit (.bool false)], args := [d1, d2] }
  | _ => none }
def FnExactCanWriteWrongFalsely : Prop := fnExactCanWriteRow.holds Try.pinned (OpenSpec.ofChange fnExactCanWriteWrong)

/-- 'laws.FnExactRedoStart': WHATEVER THE INPUT: true; the input reads as it did. -/
def fnExactRedoStartSpec : ChangeSpec := { name := "fnExactRedoStart", fn := fun _ => fun
  | [d] => { results := [.lit (.bool true)], args := [d] }
  | _ => none }
def fnExactRedoStartRow : OpenClaim := { program := "ytfchlcghildiaaa", sum := "c1dcda6934cba64f0c325b3bb25bf56bb07d66ef1f05d919504a783bc666f295", func := "loop.example/schemamigration/laws.FnExactRedoStart", spec := "fnExactRedoStart", unfollowed := true, recurses := true, apart := false }
def FnExactRedoStartSaid : Prop := fnExactRedoStartRow.holds Try.pinned (OpenSpec.ofChange fnExactRedoStartSpec)

/-- ITS FALSE NEIGHBOUR: 'it returns false'. Refute it at one input. -/
def fnExactRedoStartWrong : ChangeSpec := { name := "fnExactRedoStart", fn := fun _ => fun
  | [d] => { results := [.lit (.bool false)], args := [d] }
  | _ => none }
def FnExactRedoStartWrongFalsely : Prop := fnExactRedoStartRow.holds Try.pinned (OpenSpec.ofChange fnExactRedoStartWrong)

/-- 'laws.FnValidBuffer': WHATEVER THE INPUT: true; the input reads as it did. -/
def fnValidBufferSpec : ChangeSpec := { name := "fnValidBuffer", fn := fun _ => fun
  | [d] => { results := [.lit (.bool true)], args := [d] }
  | _ => none }
def fnValidBufferRow : OpenClaim := { program := "ytfchlcghildiaaa", sum := "c1dcda6934cba64f0c325b3bb25bf56bb07d66ef1f05d919504a783bc666f295", func := "loop.example/schemamigration/laws.FnValidBuffer", spec := "fnValidBuffer", unfollowed := true, recurses := true, apart := false }
def FnValidBufferSaid : Prop := fnValidBufferRow.holds Try.pinned (OpenSpec.ofChange fnValidBufferSpec)

/-- ITS FALSE NEIGHBOUR: 'it returns false'. Refute it at one input. -/
def fnValidBufferWrong : ChangeSpec := { name := "fnValidBuffer", fn := fun _ => fun
  | [d] => { results := [.lit (.bool false)], args := [d] }
  | _ => none }
def FnValidBufferWrongFalsely : Prop := fnValidBufferRow.holds Try.pinned (OpenSpec.ofChange fnValidBufferWrong)

/-- 'laws.FnCanWrite': WHATEVER THE INPUT: true; the input reads as it did. -/
def fnCanWriteSpec : ChangeSpec := { name := "fnCanWrite", fn := fun _ => fun
  | [d] => { results := [.lit (.bool true)], args := [d] }
  | _ => none }
def fnCanWriteRow : OpenClaim := { program := "ytfchlcghildiaaa", sum := "c1dcda6934cba64f0c325b3bb25bf56bb07d66ef1f05d919504a783bc666f295", func := "loop.example/schemamigration/laws.FnCanWrite", spec := "fnCanWrite", unfollowed := true, recurses := true, apart := false }
def FnCanWriteSaid : Prop := fnCanWriteRow.holds Try.pinned (OpenSpec.ofChange fnCanWriteSpec)

/-- ITS FALSE NEIGHBOUR: 'it returns false'. Refute it at one input. -/
def fnCanWriteWrong : ChangeSpec := { name := "fnCanWrite", fn := fun _ => fun
  | [d] => { results := [.lit (.bool false)], args := [d] }
  | _ => none }
def FnCanWriteWrongFalsely : Prop := fnCanWriteRow.holds Try.pinned (OpenSpec.ofChange fnCanWriteWrong)

/-- 'laws.FnRedoStart': WHATEVER THE INPUT: true; the input reads as it did. -/
def fnRedoStartSpec : ChangeSpec := { name := "fnRedoStart", fn := fun _ => fun
  | [d] => { results := [.lit (.bool true)], args := [d] }
  | _ => none }
def fnRedoStartRow : OpenClaim := { program := "ytfchlcghildiaaa", sum := "c1dcda6934cba64f0c325b3bb25bf56bb07d66ef1f05d919504a783bc666f295", func := "loop.example/schemamigration/laws.FnRedoStart", spec := "fnRedoStart", unfollowed := true, recurses := true, apart := false }
def FnRedoStartSaid : Prop := fnRedoStartRow.holds Try.pinned (OpenSpec.ofChange fnRedoStartSpec)

/-- ITS FALSE NEIGHBOUR: 'it returns false'. Refute it at one input. -/
def fnRedoStartWrong : ChangeSpec := { name := "fnRedoStart", fn := fun _ => fun
  | [d] => { results := [.lit (.bool false)], args := [d] }
  | _ => none }
def FnRedoStartWrongFalsely : Prop := fnRedoStartRow.holds Try.pinned (OpenSpec.ofChange fnRedoStartWrong)

/-- 'laws.FnExactValidFormat': WHATEVER THE INPUT: true; the input reads as it did. -/
def fnExactValidFormatSpec : ChangeSpec := { name := "fnExactValidFormat", fn := fun _ => fun
  | [d] => { results := [.lit (.bool true)], args := [d] }
  | _ => none }
def fnExactValidFormatRow : OpenClaim := { program := "ytfchlcghildiaaa", sum := "c1dcda6934cba64f0c325b3bb25bf56bb07d66ef1f05d919504a783bc666f295", func := "loop.example/schemamigration/laws.FnExactValidFormat", spec := "fnExactValidFormat", apart := false }
def FnExactValidFormatSaid : Prop := fnExactValidFormatRow.holds Try.pinned (OpenSpec.ofChange fnExactValidFormatSpec)

/-- ITS FALSE NEIGHBOUR: 'it returns false'. Refute it at one input. -/
def fnExactValidFormatWrong : ChangeSpec := { name := "fnExactValidFormat", fn := fun _ => fun
  | [d] => { results := [.lit (.bool false)], args := [d] }
  | _ => none }
def FnExactValidFormatWrongFalsely : Prop := fnExactValidFormatRow.holds Try.pinned (OpenSpec.ofChange fnExactValidFormatWrong)

/-- 'laws.FnValidFormat': WHATEVER THE INPUT: true; the input reads as it did. -/
def fnValidFormatSpec : ChangeSpec := { name := "fnValidFormat", fn := fun _ => fun
  | [d] => { results := [.lit (.bool true)], args := [d] }
  | _ => none }
def fnValidFormatRow : OpenClaim := { program := "ytfchlcghildiaaa", sum := "c1dcda6934cba64f0c325b3bb25bf56bb07d66ef1f05d919504a783bc666f295", func := "loop.example/schemamigration/laws.FnValidFormat", spec := "fnValidFormat", apart := false }
def FnValidFormatSaid : Prop := fnValidFormatRow.holds Try.pinned (OpenSpec.ofChange fnValidFormatSpec)

/-- ITS FALSE NEIGHBOUR: 'it returns false'. Refute it at one input. -/
def fnValidFormatWrong : ChangeSpec := { name := "fnValidFormat", fn := fun _ => fun
  | [d] => { results := [.lit (.bool false)], args := [d] }
  | _ => none }
def FnValidFormatWrongFalsely : Prop := fnValidFormatRow.holds Try.pinned (OpenSpec.ofChange fnValidFormatWrong)

/-- 'laws.FnRowFits': WHATEVER THE INPUT: true; the input reads as it did. -/
def fnRowFitsSpec : ChangeSpec := { name := "fnRowFits", fn := fun _ => fun
  | [d] => { results := [.lit (.bool true)], args := [d] }
  | _ => none }
def fnRowFitsRow : OpenClaim := { program := "ytfchlcghildiaaa", sum := "c1dcda6934cba64f0c325b3bb25bf56bb07d66ef1f05d919504a783bc666f295", func := "loop.example/schemamigration/laws.FnRowFits", spec := "fnRowFits", apart := false }
def FnRowFitsSaid : Prop := fnRowFitsRow.holds Try.pinned (OpenSpec.ofChange fnRowFitsSpec)

/-- ITS FALSE NEIGHBOUR: 'it returns false'. Refute it at one input. -/
def fnRowFitsWrong : ChangeSpec := { name := "fnRowFits", fn := fun _ => fun
  | [d] => { results := [.lit (.bool false)], args := [d] }
  | _ => none }
def FnRowFitsWrongFalsely : Prop := fnRowFitsRow.holds Try.pinned (OpenSpec.ofChange fnRowFitsWrong)

/-- 'laws.FnExactRowFits': WHATEVER THE INPUT: true; the input reads as it did. -/
def fnExactRowFitsSpec : ChangeSpec := { name := "fnExactRowFits", fn := fun _ => fun
  | [d1, d2] => { results := [.lit (.bool true)], args := [d1, d2] }
  | _ => none }
def fnExactRowFitsRow : OpenClaim := { program := "ytfchlcghildiaaa", sum := "c1dcda6934cba64f0c325b3bb25bf56bb07d66ef1f05d919504a783bc666f295", func := "loop.example/schemamigration/laws.FnExactRowFits", spec := "fnExactRowFits", apart := false }
def FnExactRowFitsSaid : Prop := fnExactRowFitsRow.holds Try.pinned (OpenSpec.ofChange fnExactRowFitsSpec)

/-- ITS FALSE NEIGHBOUR: 'it returns false'. Refute it at one input. -/
def fnExactRowFitsWrong : ChangeSpec := { name := "fnExactRowFits", fn := fun _ => fun
  | [d1, d2] => { results := [.lit (.bool false)], args := [d1, d2] }
  | _ => none }
def FnExactRowFitsWrongFalsely : Prop := fnExactRowFitsRow.holds Try.pinned (OpenSpec.ofChange fnExactRowFitsWrong)

/- THE SECOND FORM. 'bulk': how many values and letters a reading holds, each counted each time it is reached (what is shared counts as often as it is met; a slice's spare places count too). A statement '..UptoSaid' is the law's where the arguments, and the package variables that the reading takes, are together of bulk at most 1048576: NARROWER than '..Said'. Prove '..Said' where nothing that the law and all that it calls make is longer than what came in: it says more and counts as full. Else prove '..UptoSaid'. A law counts once. -/
mutual
def uptoBulk {H : Type} : DataW H → Nat
  | .lit (.string bytes) => bytes.length + 1
  | .lit _ => 1
  | .nil => 1
  | .ptr d => uptoBulk d + 1
  | .slice elems spare => uptoBulkAll elems + uptoBulkAll spare + 1
  | .agg parts => uptoBulkAll parts + 1
  | .iface _ d => uptoBulk d + 1
  | .map entries => uptoBulkEntries entries + 1
  | .held _ => 1
def uptoBulkAll {H : Type} : List (DataW H) → Nat
  | [] => 0
  | d :: r => uptoBulk d + uptoBulkAll r
def uptoBulkEntries {H : Type} : List (Lit × DataW H) → Nat
  | [] => 0
  | x :: r => uptoBulkEntry x + uptoBulkEntries r
def uptoBulkEntry {H : Type} : Lit × DataW H → Nat
  | (.string bytes, d) => bytes.length + uptoBulk d + 1
  | (_, d) => uptoBulk d + 1
 end
def uptoSmall : (H : Type) → List (DataW H) → Bool := fun _ ds => decide (uptoBulkAll ds ≤ 1048576)
def OpenSpec.upto (s : _root_.Go.ChangeSpec) : _root_.Go.OpenSpec := { _root_.Go.OpenSpec.ofChange s with cond := some uptoSmall }

/-- 'laws.FnExactValidBuffer', WHERE WHAT IT READS IS OF BULK AT MOST 1048576: true; the input reads as it did. -/
def fnExactValidBufferUptoRow : OpenClaim := { program := "ytfchlcghildiaaa", sum := "c1dcda6934cba64f0c325b3bb25bf56bb07d66ef1f05d919504a783bc666f295", func := "loop.example/schemamigration/laws.FnExactValidBuffer", spec := "fnExactValidBuffer", unfollowed := true, recurses := true, apart := false, narrowed := true }
def FnExactValidBufferUptoSaid : Prop := fnExactValidBufferUptoRow.holds Try.pinned (OpenSpec.upto fnExactValidBufferSpec)

/-- 'laws.FnExactCanWrite', WHERE WHAT IT READS IS OF BULK AT MOST 1048576: true; the input reads as it did. -/
def fnExactCanWriteUptoRow : OpenClaim := { program := "ytfchlcghildiaaa", sum := "c1dcda6934cba64f0c325b3bb25bf56bb07d66ef1f05d919504a783bc666f295", func := "loop.example/schemamigration/laws.FnExactCanWrite", spec := "fnExactCanWrite", unfollowed := true, recurses := true, apart := false, narrowed := true }
def FnExactCanWriteUptoSaid : Prop := fnExactCanWriteUptoRow.holds Try.pinned (OpenSpec.upto fnExactCanWriteSpec)

/-- 'laws.FnExactRedoStart', WHERE WHAT IT READS IS OF BULK AT MOST 1048576: true; the input reads as it did. -/
def fnExactRedoStartUptoRow : OpenClaim := { program := "ytfchlcghildiaaa", sum := "c1dcda6934cba64f0c325b3bb25bf56bb07d66ef1f05d919504a783bc666f295", func := "loop.example/schemamigration/laws.FnExactRedoStart", spec := "fnExactRedoStart", unfollowed := true, recurses := true, apart := false, narrowed := true }
def FnExactRedoStartUptoSaid : Prop := fnExactRedoStartUptoRow.holds Try.pinned (OpenSpec.upto fnExactRedoStartSpec)

/-- 'laws.FnValidBuffer', WHERE WHAT IT READS IS OF BULK AT MOST 1048576: true; the input reads as it did. -/
def fnValidBufferUptoRow : OpenClaim := { program := "ytfchlcghildiaaa", sum := "c1dcda6934cba64f0c325b3bb25bf56bb07d66ef1f05d919504a783bc666f295", func := "loop.example/schemamigration/laws.FnValidBuffer", spec := "fnValidBuffer", unfollowed := true, recurses := true, apart := false, narrowed := true }
def FnValidBufferUptoSaid : Prop := fnValidBufferUptoRow.holds Try.pinned (OpenSpec.upto fnValidBufferSpec)

/-- 'laws.FnCanWrite', WHERE WHAT IT READS IS OF BULK AT MOST 1048576: true; the input reads as it did. -/
def fnCanWriteUptoRow : OpenClaim := { program := "ytfchlcghildiaaa", sum := "c1dcda6934cba64f0c325b3bb25bf56bb07d66ef1f05d919504a783bc666f295", func := "loop.example/schemamigration/laws.FnCanWrite", spec := "fnCanWrite", unfollowed := true, recurses := true, apart := false, narrowed := true }
def FnCanWriteUptoSaid : Prop := fnCanWriteUptoRow.holds Try.pinned (OpenSpec.upto fnCanWriteSpec)

/-- 'laws.FnRedoStart', WHERE WHAT IT READS IS OF BULK AT MOST 1048576: true; the input reads as it did. -/
def fnRedoStartUptoRow : OpenClaim := { program := "ytfchlcghildiaaa", sum := "c1dcda6934cba64f0c325b3bb25bf56bb07d66ef1f05d919504a783bc666f295", func := "loop.example/schemamigration/laws.FnRedoStart", spec := "fnRedoStart", unfollowed := true, recurses := true, apart := false, narrowed := true }
def FnRedoStartUptoSaid : Prop := fnRedoStartUptoRow.holds Try.pinned (OpenSpec.upto fnRedoStartSpec)

/-- 'laws.FnExactValidFormat', WHERE WHAT IT READS IS OF BULK AT MOST 1048576: true; the input reads as it did. -/
def fnExactValidFormatUptoRow : OpenClaim := { program := "ytfchlcghildiaaa", sum := "c1dcda6934cba64f0c325b3bb25bf56bb07d66ef1f05d919504a783bc666f295", func := "loop.example/schemamigration/laws.FnExactValidFormat", spec := "fnExactValidFormat", apart := false, narrowed := true }
def FnExactValidFormatUptoSaid : Prop := fnExactValidFormatUptoRow.holds Try.pinned (OpenSpec.upto fnExactValidFormatSpec)

/-- 'laws.FnValidFormat', WHERE WHAT IT READS IS OF BULK AT MOST 1048576: true; the input reads as it did. -/
def fnValidFormatUptoRow : OpenClaim := { program := "ytfchlcghildiaaa", sum := "c1dcda6934cba64f0c325b3bb25bf56bb07d66ef1f05d919504a783bc666f295", func := "loop.example/schemamigration/laws.FnValidFormat", spec := "fnValidFormat", apart := false, narrowed := true }
def FnValidFormatUptoSaid : Prop := fnValidFormatUptoRow.holds Try.pinned (OpenSpec.upto fnValidFormatSpec)

/-- 'laws.FnRowFits', WHERE WHAT IT READS IS OF BULK AT MOST 1048576: true; the input reads as it did. -/
def fnRowFitsUptoRow : OpenClaim := { program := "ytfchlcghildiaaa", sum := "c1dcda6934cba64f0c325b3bb25bf56bb07d66ef1f05d919504a783bc666f295", func := "loop.example/schemamigration/laws.FnRowFits", spec := "fnRowFits", apart := false, narrowed := true }
def FnRowFitsUptoSaid : Prop := fnRowFitsUptoRow.holds Try.pinned (OpenSpec.upto fnRowFitsSpec)

/-- 'laws.FnExactRowFits', WHERE WHAT IT READS IS OF BULK AT MOST 1048576: true; the input reads as it did. -/
def fnExactRowFitsUptoRow : OpenClaim := { program := "ytfchlcghildiaaa", sum := "c1dcda6934cba64f0c325b3bb25bf56bb07d66ef1f05d919504a783bc666f295", func := "loop.example/schemamigration/laws.FnExactRowFits", spec := "fnExactRowFits", apart := false, narrowed := true }
def FnExactRowFitsUptoSaid : Prop := fnExactRowFitsUptoRow.holds Try.pinned (OpenSpec.upto fnExactRowFitsSpec)

end Rows
end Go.Proofs.Ytfchlcghildiaaa
