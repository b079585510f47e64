/- Part of the proof of ForwardScript: what the law uses of the text Clk. -/
import Derived.Test.YtcaoobdbgdldaaaGreatDoorZPJP7
import Derived.Test.YtcaoobdbgdldaaaGreatDoorZPJP0
namespace Go.Proofs.YtcaoobdbgdldaaaGreatDoor.Clk
open Go.RowKit Go.Proofs.YtcaoobdbgdldaaaGreatDoor.Lit Go.Proofs.YtcaoobdbgdldaaaGreatDoor.Spr Go.Proofs.YtcaoobdbgdldaaaGreatDoorW.PrintWords
set_option linter.unusedVariables false
theorem infoL : (Tryz.prog.info? 40).map (fun i => (i.zero, i.size, i.bytes)) = some (some (.slice none 0 0), 1, 24) := by kernel_rfl
abbrev kL : Kd (List Int) := Kd.slice 3 (Kd.int .i64)
theorem kL_mk {W : World} {ok : Nat → Prop} {x : List Int} {A : Option Addr} {c : Nat} (hc : x.length ≤ c) (h : Kd.F (Kd.int .i64) W ok A x.length x) : Kd.FK kL W ok x [.slice A x.length c] := fun W' hW => ⟨A, c, rfl, hc, h W' hW⟩
end Go.Proofs.YtcaoobdbgdldaaaGreatDoor.Clk
