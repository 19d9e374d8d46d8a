/-
  DERIVED. GIVEN WITH THE SEED: THE CARDS: each row of YtbppiknmlipmpaaDoorRows.lean that lists a variable, with what it lists TIED to the program's text (the seventh form; the later family's looks); each row that meets fmt, with fmt's text TOLD by the authors' own Lean function (tested against real Go, not proved from fmt's source: count such statements apart). THE CARD IS WHAT COUNTS. Prove the row's statement (the work); the ties are given (YtbppiknmlipmpaaDoorTie.lean); close each card by the builder's one call (the guide's Derived/Test/ToyasCard.lean, 'card_holds'). Laid BY PROGRAM, IN A SANDBOX (cutbox-door.mjs). By AI agents, Wed Nov 11 2026. No macro, syntax, notation, axiom, sorry.
-/
import Derived.Test.YtbppiknmlipmpaaDoorRows
import GoSem.ClaimSeven
namespace Go.Proofs.YtbppiknmlipmpaaDoor
namespace Rows

/-- THE TIED CARD OF 'laws.FnDropLock'. -/
def fnDropLockCard : Claim7 := { stood := { row := fnDropLockRow, standIns := [], harness := (true, "00b59d1229517070db895b0a13439f58146c34a4bd6e3c7c2415fa63a12d2039"), looks := false }, kinds := [], alts := [], laidByText := true, laidKinds := [.data], laidTests := true, laidLooks := .later }
def FnDropLockCardSaid : Prop := Claim7.holds Tryd.pinned (.plain (OpenSpec.ofChange fnDropLockSpec)) fnDropLockCard

/-- THE TIED CARD OF 'laws.FnQueueWaits'. -/
def fnQueueWaitsCard : Claim7 := { stood := { row := fnQueueWaitsRow, standIns := [], harness := (true, "00b59d1229517070db895b0a13439f58146c34a4bd6e3c7c2415fa63a12d2039"), looks := false }, kinds := [], alts := [], laidByText := true, laidKinds := [.data], laidTests := true, laidLooks := .later }
def FnQueueWaitsCardSaid : Prop := Claim7.holds Tryd.pinned (.plain (OpenSpec.ofChange fnQueueWaitsSpec)) fnQueueWaitsCard

/-- THE TIED CARD OF 'laws.FnExactQueueWaits'. -/
def fnExactQueueWaitsCard : Claim7 := { stood := { row := fnExactQueueWaitsRow, standIns := [], harness := (true, "00b59d1229517070db895b0a13439f58146c34a4bd6e3c7c2415fa63a12d2039"), looks := false }, kinds := [], alts := [], laidByText := true, laidKinds := [.data], laidTests := true, laidLooks := .later }
def FnExactQueueWaitsCardSaid : Prop := Claim7.holds Tryd.pinned (.plain (OpenSpec.ofChange fnExactQueueWaitsSpec)) fnExactQueueWaitsCard

/-- THE SECOND FORM's CARD OF 'laws.FnDropLock'. -/
def fnDropLockUptoCard : Claim7 := { stood := { row := fnDropLockUptoRow, standIns := [], harness := (true, "00b59d1229517070db895b0a13439f58146c34a4bd6e3c7c2415fa63a12d2039"), looks := false }, kinds := [], alts := [], laidByText := true, laidKinds := [.data], laidTests := true, laidLooks := .later }
def FnDropLockUptoCardSaid : Prop := Claim7.holds Tryd.pinned (.plain (OpenSpec.upto fnDropLockSpec)) fnDropLockUptoCard

/-- THE SECOND FORM's CARD OF 'laws.FnQueueWaits'. -/
def fnQueueWaitsUptoCard : Claim7 := { stood := { row := fnQueueWaitsUptoRow, standIns := [], harness := (true, "00b59d1229517070db895b0a13439f58146c34a4bd6e3c7c2415fa63a12d2039"), looks := false }, kinds := [], alts := [], laidByText := true, laidKinds := [.data], laidTests := true, laidLooks := .later }
def FnQueueWaitsUptoCardSaid : Prop := Claim7.holds Tryd.pinned (.plain (OpenSpec.upto fnQueueWaitsSpec)) fnQueueWaitsUptoCard

/-- THE SECOND FORM's CARD OF 'laws.FnExactQueueWaits'. -/
def fnExactQueueWaitsUptoCard : Claim7 := { stood := { row := fnExactQueueWaitsUptoRow, standIns := [], harness := (true, "00b59d1229517070db895b0a13439f58146c34a4bd6e3c7c2415fa63a12d2039"), looks := false }, kinds := [], alts := [], laidByText := true, laidKinds := [.data], laidTests := true, laidLooks := .later }
def FnExactQueueWaitsUptoCardSaid : Prop := Claim7.holds Tryd.pinned (.plain (OpenSpec.upto fnExactQueueWaitsSpec)) fnExactQueueWaitsUptoCard
end Rows
end Go.Proofs.YtbppiknmlipmpaaDoor
