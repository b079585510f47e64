/-
  DERIVED. GIVEN WITH THE SEED: THE CARDS: each row of YtcaoobdbgdldaaaGreatDoorRows.lean that lists a variable, with what it lists TIED to the program's text (the seventh form; the later family's looks); each row that meets fmt, with fmt's text TOLD by the authors' own Lean function (tested against real Go, not proved from fmt's source: count such statements apart). THE CARD IS WHAT COUNTS. Prove the row's statement (the work); the ties are given (YtcaoobdbgdldaaaGreatDoorTie.lean); close each card by the builder's one call (the guide's Derived/Test/ToyasCard.lean, 'card_holds'). Laid BY PROGRAM, IN A SANDBOX (cutbox-door.mjs). By AI agents, Wed Nov 11 2026. No macro, syntax, notation, axiom, sorry.
-/
import Derived.Test.YtcaoobdbgdldaaaGreatDoorRows
import GoSem.ClaimSeven
namespace Go.Proofs.YtcaoobdbgdldaaaGreatDoor
namespace Rows

/-- THE TIED CARD OF 'depottop.TopProof'. -/
def topProofCard : Claim7 := { stood := { row := topProofRow, standIns := [], harness := (true, "206b5233bfb594bb55b9adb8ed49b7c90ce407ee2bdfb3dd948bdffb88add9ac"), looks := true }, kinds := [], alts := [], laidByText := true, laidKinds := [.data, .data, .data], laidTests := true, laidLooks := .later }
def TopProofCardSaid : Prop := Claim7.holds Tryz.pinned (.plain (OpenSpec.ofChange topProofSpec)) topProofCard

/-- THE TIED CARD OF 'depotlaw11.ForwardChecks'. -/
def forwardChecksCard : Claim7 := { stood := { row := forwardChecksRow, standIns := [], harness := (true, "206b5233bfb594bb55b9adb8ed49b7c90ce407ee2bdfb3dd948bdffb88add9ac"), looks := true }, kinds := [], alts := [], laidByText := true, laidKinds := [.data, .data, .data], laidTests := true, laidLooks := .later }
def ForwardChecksCardSaid : Prop := Claim7.holds Tryz.pinned (.plain (OpenSpec.ofChange forwardChecksSpec)) forwardChecksCard

/-- THE TIED CARD OF 'depotlaw11.ForwardScript'. -/
def forwardScriptCard : Claim7 := { stood := { row := forwardScriptRow, standIns := [], harness := (true, "206b5233bfb594bb55b9adb8ed49b7c90ce407ee2bdfb3dd948bdffb88add9ac"), looks := true }, kinds := [], alts := [], laidByText := true, laidKinds := [.data, .data, .data], laidTests := true, laidLooks := .later }
def ForwardScriptCardSaid : Prop := Claim7.holds Tryz.pinned (.plain (OpenSpec.ofChange forwardScriptSpec)) forwardScriptCard

/-- THE TIED CARD OF 'depotlaw11.ForwardKeeps'. -/
def forwardKeepsCard : Claim7 := { stood := { row := forwardKeepsRow, standIns := [], harness := (true, "206b5233bfb594bb55b9adb8ed49b7c90ce407ee2bdfb3dd948bdffb88add9ac"), looks := true }, kinds := [], alts := [], laidByText := true, laidKinds := [.data, .data, .data], laidTests := true, laidLooks := .later }
def ForwardKeepsCardSaid : Prop := Claim7.holds Tryz.pinned (.plain (OpenSpec.ofChange forwardKeepsSpec)) forwardKeepsCard

/-- THE TIED CARD OF 'depotlaw11.ForwardSound'. -/
def forwardSoundCard : Claim7 := { stood := { row := forwardSoundRow, standIns := [], harness := (true, "206b5233bfb594bb55b9adb8ed49b7c90ce407ee2bdfb3dd948bdffb88add9ac"), looks := true }, kinds := [], alts := [], laidByText := true, laidKinds := [.data, .data, .data], laidTests := true, laidLooks := .later }
def ForwardSoundCardSaid : Prop := Claim7.holds Tryz.pinned (.plain (OpenSpec.ofChange forwardSoundSpec)) forwardSoundCard

/-- THE TIED CARD OF 'depotlaw11.ForwardLasts'. -/
def forwardLastsCard : Claim7 := { stood := { row := forwardLastsRow, standIns := [], harness := (true, "206b5233bfb594bb55b9adb8ed49b7c90ce407ee2bdfb3dd948bdffb88add9ac"), looks := true }, kinds := [], alts := [], laidByText := true, laidKinds := [.data, .data, .data], laidTests := true, laidLooks := .later }
def ForwardLastsCardSaid : Prop := Claim7.holds Tryz.pinned (.plain (OpenSpec.ofChange forwardLastsSpec)) forwardLastsCard

/-- THE SECOND FORM's CARD OF 'depottop.TopProof'. -/
def topProofUptoCard : Claim7 := { stood := { row := topProofUptoRow, standIns := [], harness := (true, "206b5233bfb594bb55b9adb8ed49b7c90ce407ee2bdfb3dd948bdffb88add9ac"), looks := true }, kinds := [], alts := [], laidByText := true, laidKinds := [.data, .data, .data], laidTests := true, laidLooks := .later }
def TopProofUptoCardSaid : Prop := Claim7.holds Tryz.pinned (.plain (OpenSpec.upto topProofSpec)) topProofUptoCard

/-- THE SECOND FORM's CARD OF 'depotlaw11.ForwardChecks'. -/
def forwardChecksUptoCard : Claim7 := { stood := { row := forwardChecksUptoRow, standIns := [], harness := (true, "206b5233bfb594bb55b9adb8ed49b7c90ce407ee2bdfb3dd948bdffb88add9ac"), looks := true }, kinds := [], alts := [], laidByText := true, laidKinds := [.data, .data, .data], laidTests := true, laidLooks := .later }
def ForwardChecksUptoCardSaid : Prop := Claim7.holds Tryz.pinned (.plain (OpenSpec.upto forwardChecksSpec)) forwardChecksUptoCard

/-- THE SECOND FORM's CARD OF 'depotlaw11.ForwardScript'. -/
def forwardScriptUptoCard : Claim7 := { stood := { row := forwardScriptUptoRow, standIns := [], harness := (true, "206b5233bfb594bb55b9adb8ed49b7c90ce407ee2bdfb3dd948bdffb88add9ac"), looks := true }, kinds := [], alts := [], laidByText := true, laidKinds := [.data, .data, .data], laidTests := true, laidLooks := .later }
def ForwardScriptUptoCardSaid : Prop := Claim7.holds Tryz.pinned (.plain (OpenSpec.upto forwardScriptSpec)) forwardScriptUptoCard

/-- THE SECOND FORM's CARD OF 'depotlaw11.ForwardKeeps'. -/
def forwardKeepsUptoCard : Claim7 := { stood := { row := forwardKeepsUptoRow, standIns := [], harness := (true, "206b5233bfb594bb55b9adb8ed49b7c90ce407ee2bdfb3dd948bdffb88add9ac"), looks := true }, kinds := [], alts := [], laidByText := true, laidKinds := [.data, .data, .data], laidTests := true, laidLooks := .later }
def ForwardKeepsUptoCardSaid : Prop := Claim7.holds Tryz.pinned (.plain (OpenSpec.upto forwardKeepsSpec)) forwardKeepsUptoCard

/-- THE SECOND FORM's CARD OF 'depotlaw11.ForwardSound'. -/
def forwardSoundUptoCard : Claim7 := { stood := { row := forwardSoundUptoRow, standIns := [], harness := (true, "206b5233bfb594bb55b9adb8ed49b7c90ce407ee2bdfb3dd948bdffb88add9ac"), looks := true }, kinds := [], alts := [], laidByText := true, laidKinds := [.data, .data, .data], laidTests := true, laidLooks := .later }
def ForwardSoundUptoCardSaid : Prop := Claim7.holds Tryz.pinned (.plain (OpenSpec.upto forwardSoundSpec)) forwardSoundUptoCard

/-- THE SECOND FORM's CARD OF 'depotlaw11.ForwardLasts'. -/
def forwardLastsUptoCard : Claim7 := { stood := { row := forwardLastsUptoRow, standIns := [], harness := (true, "206b5233bfb594bb55b9adb8ed49b7c90ce407ee2bdfb3dd948bdffb88add9ac"), looks := true }, kinds := [], alts := [], laidByText := true, laidKinds := [.data, .data, .data], laidTests := true, laidLooks := .later }
def ForwardLastsUptoCardSaid : Prop := Claim7.holds Tryz.pinned (.plain (OpenSpec.upto forwardLastsSpec)) forwardLastsUptoCard
end Rows
end Go.Proofs.YtcaoobdbgdldaaaGreatDoor
