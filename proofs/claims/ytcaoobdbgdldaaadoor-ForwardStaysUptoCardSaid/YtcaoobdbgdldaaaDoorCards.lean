/-
  DERIVED. GIVEN WITH THE SEED: THE CARDS: each row of YtcaoobdbgdldaaaDoorRows.lean that lists a variable, with what it lists TIED to the program's text (the seventh form; the later family's looks); each row that meets fmt, with fmt's text TOLD by the authors' own Lean function (tested against real Go, not proved from fmt's source: count such statements apart). THE CARD IS WHAT COUNTS. Prove the row's statement (the work); the ties are given (YtcaoobdbgdldaaaDoorTie.lean); close each card by the builder's one call (the guide's Derived/Test/ToyasCard.lean, 'card_holds'). Laid BY PROGRAM, IN A SANDBOX (cutbox-door.mjs). By AI agents, Wed Nov 11 2026. No macro, syntax, notation, axiom, sorry.
-/
import Derived.Test.YtcaoobdbgdldaaaDoorRows
import GoSem.ClaimSeven
namespace Go.Proofs.YtcaoobdbgdldaaaDoor
namespace Rows

/-- THE TIED CARD OF 'depotlaw11.ForwardRuns'. -/
def forwardRunsCard : Claim7 := { stood := { row := forwardRunsRow, standIns := [], harness := (true, "eac1674b1e2fa858fb78427e2da56c1db3b911cbe716082e759355117f58dc75"), looks := true }, kinds := [], alts := [], laidByText := true, laidKinds := [.data, .data, .data], laidTests := true, laidLooks := .later }
def ForwardRunsCardSaid : Prop := Claim7.holds Tryd.pinned (.plain (OpenSpec.ofChange forwardRunsSpec)) forwardRunsCard

/-- THE TIED CARD OF 'depotlaw11.ForwardStays'. -/
def forwardStaysCard : Claim7 := { stood := { row := forwardStaysRow, standIns := [], harness := (true, "eac1674b1e2fa858fb78427e2da56c1db3b911cbe716082e759355117f58dc75"), looks := true }, kinds := [], alts := [], laidByText := true, laidKinds := [.data, .data, .data], laidTests := true, laidLooks := .later }
def ForwardStaysCardSaid : Prop := Claim7.holds Tryd.pinned (.plain (OpenSpec.ofChange forwardStaysSpec)) forwardStaysCard

/-- THE SECOND FORM's CARD OF 'depotlaw11.ForwardRuns'. -/
def forwardRunsUptoCard : Claim7 := { stood := { row := forwardRunsUptoRow, standIns := [], harness := (true, "eac1674b1e2fa858fb78427e2da56c1db3b911cbe716082e759355117f58dc75"), looks := true }, kinds := [], alts := [], laidByText := true, laidKinds := [.data, .data, .data], laidTests := true, laidLooks := .later }
def ForwardRunsUptoCardSaid : Prop := Claim7.holds Tryd.pinned (.plain (OpenSpec.upto forwardRunsSpec)) forwardRunsUptoCard

/-- THE SECOND FORM's CARD OF 'depotlaw11.ForwardStays'. -/
def forwardStaysUptoCard : Claim7 := { stood := { row := forwardStaysUptoRow, standIns := [], harness := (true, "eac1674b1e2fa858fb78427e2da56c1db3b911cbe716082e759355117f58dc75"), looks := true }, kinds := [], alts := [], laidByText := true, laidKinds := [.data, .data, .data], laidTests := true, laidLooks := .later }
def ForwardStaysUptoCardSaid : Prop := Claim7.holds Tryd.pinned (.plain (OpenSpec.upto forwardStaysSpec)) forwardStaysUptoCard
end Rows
end Go.Proofs.YtcaoobdbgdldaaaDoor
