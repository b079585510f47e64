/- Part of the proof of ForwardLasts: what the law uses of the text ClF. -/
import Derived.Test.YtcaoobdbgdldaaaGreatDoorZPClO
import Derived.Test.YtcaoobdbgdldaaaGreatDoorZPFwO
namespace Go.Proofs.YtcaoobdbgdldaaaGreatDoor.Cl
open Go.RowKit Go.Shelf Go.Maps Go.Proofs.YtcaoobdbgdldaaaGreatDoor.Lit Go.Proofs.YtcaoobdbgdldaaaGreatDoor.Spr Go.Proofs.YtcaoobdbgdldaaaGreatDoor.Fwd Go.Proofs.YtcaoobdbgdldaaaGreatDoor.P Go.Proofs.YtcaoobdbgdldaaaGreatDoorW.PrintWords
set_option linter.unusedVariables false
set_option linter.unusedSimpArgs false
set_option maxHeartbeats 4000000 in
set_option maxRecDepth 100000 in
theorem lasts_no (v : Int) (A : Option Addr) (c0 : Nat) (cs : List (List Int)) (Ao : Option Addr) (co n : Nat) (w : World) (hC : RC w A cs) (hcl : cs.length ≤ 1048576) (h8 : ∀ c ∈ cs, c.length ≤ 1048576) (hT : Tab w) (hp : formedB v cs = false) :
    Calls Tryz.prog 8 #[.agg #[.int .i64 v, .slice A cs.length c0], .slice Ao n co] w fun e w' => e = .returned (.bool true) ∧ Below w.heap.size w w' := by
  have HW := Lib.hid (FBox.init w v (.slice A cs.length c0))
  obtain ⟨hb0, hb1, hb2⟩ := HW.out.cell
  have HA := Lib.hid (fun (w2 : World) (hb : Below w.heap.size w w2) => awake_any w2 (hT.below hb))
  have HN := Lib.hid (fun (w2 : World) (hb : Below w.heap.size w w2) => show Calls Tryz.prog 18 #[.agg #[.int .i64 v, .slice A cs.length c0]] w2 (fun e w' => e = .returned (.tuple #[.pointer none, .int .i64 1]) ∧ Below w2.heap.size w2 w') from by
    have := new_any v A c0 cs w2 (hC.below hb) (by omega) (fun c hc => by have := h8 c hc; omega) (hT.below hb)
    unfold Fwd.NewPost at this
    simp only [hp, Bool.false_eq_true, ↓reduceIte] at this
    exact this)
  have HF := Lib.hid (fun (w2 : World) (hb : Below w.heap.size w w2) => show Calls Tryz.prog 31 #[.agg #[.int .i64 v, .slice A cs.length c0]] w2 (fun e w' => e = .returned (.bool false) ∧ Below w2.heap.size w2 w') from by
    have := cformed_any v A c0 cs w2 (hC.below hb) (by omega) (fun c hc => by have := h8 c hc; omega)
    rw [hp] at this
    exact this)
  clear hT hC hp h8
  generalize cs.length = nc at *
  go_enter Tryz.func8, Tryz.ntmps8
  go_wp2_with (first
    | (go_at_call 23; refine (HA.out _ HW.out.below).mono ?_; rintro e w2 ⟨rfl, hb⟩; have HW2 := Lib.hid (HW.out.step hb); clear hb; obtain ⟨hc20, hc21, hc22⟩ := HW2.out.cell)
    | (go_at_call 18; refine (HN.out _ HW2.out.below).mono ?_; rintro e w3 ⟨rfl, hb⟩; have HW3 := Lib.hid (HW2.out.step hb); clear hb; obtain ⟨hc30, hc31, hc32⟩ := HW3.out.cell)
    | (go_at_call 31; refine (HF.out _ HW3.out.below).mono ?_; rintro e w4 ⟨rfl, hb⟩; have HW4 := Lib.hid (HW3.out.step hb); clear hb))
  go_ret
  exact ⟨rfl, HW4.out.below⟩
end Go.Proofs.YtcaoobdbgdldaaaGreatDoor.Cl
