/-
  DERIVED. GIVEN WITH THE SEED: THE CARDS: each row of YtjhmkhbmjopmkaaGreatDoorRows.lean that lists a variable, with what it lists TIED to the program's text (the seventh form; the later family's looks); each row that meets fmt, with fmt's text TOLD by the authors' own Lean function (tested against real Go, not proved from fmt's source: count such statements apart). THE CARD IS WHAT COUNTS. Prove the row's statement (the work); the ties are given (YtjhmkhbmjopmkaaGreatDoorTie.lean); close each card by the builder's one call (the guide's Derived/Test/ToyasCard.lean, 'card_holds'). Laid BY PROGRAM, IN A SANDBOX (cutbox-door.mjs). By AI agents, Wed Nov 11 2026. No macro, syntax, notation, axiom, sorry.
-/
import Derived.Test.YtjhmkhbmjopmkaaGreatDoorRows
import GoSem.ClaimSeven
namespace Go.Proofs.YtjhmkhbmjopmkaaGreatDoor
namespace Rows

/-- THE TIED CARD OF 'depotlaw18.UnderHolds'. -/
def underHoldsCard : Claim7 := { stood := { row := underHoldsRow, standIns := [], harness := (true, "2dfb1baec22937a3a945c303e161978ce71806e49195df22599333740a3157b3"), looks := true }, kinds := [], alts := [], laidByText := true, laidKinds := [.data, .data, .data], laidTests := true, laidLooks := .later }
def UnderHoldsCardSaid : Prop := Claim7.holds Tryz.pinned (.plain (OpenSpec.ofChange underHoldsSpec)) underHoldsCard

/-- THE SECOND FORM's CARD OF 'depotlaw18.UnderHolds'. -/
def underHoldsUptoCard : Claim7 := { stood := { row := underHoldsUptoRow, standIns := [], harness := (true, "2dfb1baec22937a3a945c303e161978ce71806e49195df22599333740a3157b3"), looks := true }, kinds := [], alts := [], laidByText := true, laidKinds := [.data, .data, .data], laidTests := true, laidLooks := .later }
def UnderHoldsUptoCardSaid : Prop := Claim7.holds Tryz.pinned (.plain (OpenSpec.upto underHoldsSpec)) underHoldsUptoCard
end Rows
end Go.Proofs.YtjhmkhbmjopmkaaGreatDoor
