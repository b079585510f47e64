/- Part of the proof of ForwardLasts: what the law uses of the text FwO. -/
import Derived.Test.YtcaoobdbgdldaaaGreatDoorZPFwM
import Derived.Test.YtcaoobdbgdldaaaGreatDoorZPJPorts
import Derived.Test.YtcaoobdbgdldaaaGreatDoorZPJP3
namespace Go.Proofs.YtcaoobdbgdldaaaGreatDoor.Fwd
open Go.RowKit Go.Shelf Go.Maps Go.Proofs.YtcaoobdbgdldaaaGreatDoor.Lit Go.Proofs.YtcaoobdbgdldaaaGreatDoor.Spr
set_option linter.unusedVariables false
set_option linter.unusedSimpArgs false

theorem done_any (w0 : World) (B b m N : Nat) (F : Fw) (w : World) (h : FwR w0 B b m N F w) :
    Calls Tryz.prog 37 #[.pointer (some ⟨b, 0, none⟩)] w fun e w' => e = .returned (.bool F.done) ∧ w' = w := by
  obtain ⟨v, h⟩ := h
  obtain ⟨_, _, _, h3⟩ := h.cell
  clear h
  go_enter Tryz.func37, Tryz.ntmps37
  go_wp2
  go_ret
  exact ⟨rfl, rfl⟩

theorem awake_any (w : World) (hT : Tab w) : Calls Tryz.prog 23 #[] w fun e w' => e = .returned (.bool true) ∧ Below w.heap.size w w' :=
  P.depotlaw11_awake.calls true w hT (by decide +kernel)

structure FBox (w : World) (v : Int) (sl : Value) (wx : World) : Prop where
  below : Below w.heap.size w wx
  blk : wx.heap[w.heap.size]? = some (Obj.cells #[.int .i64 v, sl] 24 (0, 0))
theorem FBox.init (w : World) (v : Int) (sl : Value) : FBox w v sl (w.alloc (.cells #[.int .i64 v, sl] 24)) := ⟨(Below.refl _ _).alloc (Nat.le_refl _) _, heap_alloc_new w _⟩
theorem FBox.keep {w wx w1 : World} {v : Int} {sl : Value} (h : FBox w v sl wx) (hb : Below w.heap.size wx w1) (hk : KeepT wx w1) : FBox w v sl w1 := ⟨h.below.trans hb, hk _ _ _ (by decide) (by decide) h.blk⟩
theorem FBox.step {w wx w1 : World} {v : Int} {sl : Value} (h : FBox w v sl wx) (hb : Below wx.heap.size wx w1) : FBox w v sl w1 := h.keep (hb.mono h.below.size) (.of_below hb)
theorem FBox.cell {w wx : World} {v : Int} {sl : Value} (h : FBox w v sl wx) : wx.cell? ⟨w.heap.size, 0, none⟩ = some (.int .i64 v) ∧ wx.cell? ⟨w.heap.size, 1, none⟩ = some sl ∧ w.heap.size < wx.heap.size := by
  refine ⟨?_, ?_, (Array.getElem?_eq_some_iff.1 h.blk).1⟩
  · unfold World.cell?; rw [h.blk]; rfl
  · unfold World.cell?; rw [h.blk]; rfl
theorem FBox.two {w wx X : World} {v : Int} {sl : Value} (h : FBox w v sl wx) (hb : Below wx.heap.size wx X) : X.cell? ⟨w.heap.size, 0, none⟩ = some (.int .i64 v) ∧ X.cell? ⟨w.heap.size, 1, none⟩ = some sl := ⟨(h.step hb).cell.1, (h.step hb).cell.2.1⟩
end Go.Proofs.YtcaoobdbgdldaaaGreatDoor.Fwd
