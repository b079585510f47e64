/- Part of the proof of ForwardLasts: what the law uses of the text ClO. -/
import Derived.Test.YtcaoobdbgdldaaaGreatDoorZPJPorts
namespace Go.Proofs.YtcaoobdbgdldaaaGreatDoor.Cl
open Go.RowKit Go.Proofs.YtcaoobdbgdldaaaGreatDoor.Lit
def OC (w : World) (A : Option Addr) (l : List (Int × List Int)) : Prop := ∀ k, k < l.length → ∃ ad on A1 c1, A = some ad ∧ w.cell? (ad.add (k * 3)) = some (.int .i64 on) ∧ w.cell? ⟨(ad.add (k * 3)).block, (ad.add (k * 3)).off + 1, none⟩ = some (.int .i64 (l.getD k (0, [])).1) ∧ w.cell? ⟨(ad.add (k * 3)).block, (ad.add (k * 3)).off + 2, none⟩ = some (.slice A1 (l.getD k (0, [])).2.length c1) ∧ IC w A1 (l.getD k (0, [])).2
end Go.Proofs.YtcaoobdbgdldaaaGreatDoor.Cl
