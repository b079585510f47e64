/- Part of the proof of ForwardStays: what the law uses of the text FwO. -/
import Derived.Test.YtcaoobdbgdldaaaDoorZPFwN
import Derived.Test.YtcaoobdbgdldaaaDoorZPPortsJ
import Derived.Test.YtcaoobdbgdldaaaDoorZPP0
import Derived.Test.YtcaoobdbgdldaaaDoorZPUpD
import Derived.Test.YtcaoobdbgdldaaaDoorZPP3
namespace Go.Proofs.YtcaoobdbgdldaaaDoor.Fwd
open Go.RowKit Go.Shelf Go.Maps Go.Proofs.YtcaoobdbgdldaaaDoor.Lit Go.Proofs.YtcaoobdbgdldaaaDoor.Spr
set_option linter.unusedVariables false
set_option linter.unusedSimpArgs false

theorem done_any (w0 : World) (B b m N : Nat) (F : Fw) (w : World) (h : FwR w0 B b m N F w) :
    Calls Tryd.prog 10 #[.pointer (some ⟨b, 0, none⟩)] w fun e w' => e = .returned (.bool F.done) ∧ w' = w := by
  obtain ⟨v, h⟩ := h
  obtain ⟨_, _, _, h3⟩ := h.cell
  clear h
  go_enter Tryd.func10, Tryd.ntmps10
  go_wp2
  go_ret
  exact ⟨rfl, rfl⟩

theorem awake_any (w : World) (hT : Tab w) : Calls Tryd.prog 5 #[] w fun e w' => e = .returned (.bool true) ∧ Below w.heap.size w w' :=
  P.depotlaw11_awake.calls true w hT (by decide +kernel)

theorem drop_done (F : Fw) (c : List Int) : (dropW F c).2.2.done = F.done := by
  unfold dropW
  split
  · split
    · rfl
    · split
      · rfl
      · rfl
  · rfl
theorem take_done {F : Fw} {d : Bool} {c : List Int} (h : (takeW F d c).1 = 0) (hd : F.done = false) : (takeW F d c).2.done = false := by
  unfold takeW at h ⊢
  cases d with
  | true =>
    simp only [↓reduceIte] at h ⊢
    split
    · rename_i h1; rw [if_pos h1] at h; cases h
    · rename_i h1
      rw [if_neg h1] at h
      split
      · rename_i h2; rw [if_pos h2] at h; cases h
      · rw [drop_done]; exact hd
  | false =>
    simp only [Bool.false_eq_true, ↓reduceIte] at h ⊢
    split
    · rename_i h1; rw [if_pos h1] at h; cases h
    · rename_i h1
      rw [if_neg h1] at h
      split
      · rename_i h2; rw [if_pos h2] at h; cases h
      · rename_i h2
        rw [if_neg h2] at h
        split
        · rename_i h3; rw [if_pos h3] at h; cases h
        · rename_i h3; exact Bool.eq_false_iff.2 h3
theorem new_done (cs : List (List Int)) : (newW cs).done = false := by
  unfold newW
  have : ∀ (cs : List (List Int)) (F : Fw), F.done = false → (cs.foldl putW F).done = false := by
    intro cs
    induction cs with
    | nil => exact fun F h => h
    | cons c t ih => exact fun F h => ih _ h
  exact this cs _ rfl
theorem run_done {F : Fw} (hd : F.done = false) (l : List (Bool × List Int)) : ∀ k, k ≤ l.length → (∀ j, j < k → (takeW (runW F (l.take j)) (l.getD j (false, [])).1 (l.getD j (false, [])).2).1 = 0) → (runW F (l.take k)).done = false := by
  intro k
  induction k with
  | zero => intro _ _; exact hd
  | succ k ih =>
    intro hk h
    have e : runW F (l.take (k + 1)) = (takeW (runW F (l.take k)) (l.getD k (false, [])).1 (l.getD k (false, [])).2).2 := by
      rw [← runW_snoc, List.take_add_one, List.getD_eq_getElem?_getD, List.getElem?_eq_getElem (by omega)]; rfl
    rw [e]
    exact take_done (h k (by omega)) (ih (by omega) (fun j hj => h j (by omega)))
structure FBox (w : World) (v : Int) (sl : Value) (wx : World) : Prop where
  below : Below w.heap.size w wx
  blk : wx.heap[w.heap.size]? = some (Obj.cells #[.int .i64 v, sl] 24 (0, 0))
theorem FBox.init (w : World) (v : Int) (sl : Value) : FBox w v sl (w.alloc (.cells #[.int .i64 v, sl] 24)) := ⟨(Below.refl _ _).alloc (Nat.le_refl _) _, heap_alloc_new w _⟩
theorem FBox.keep {w wx w1 : World} {v : Int} {sl : Value} (h : FBox w v sl wx) (hb : Below w.heap.size wx w1) (hk : KeepT wx w1) : FBox w v sl w1 := ⟨h.below.trans hb, hk _ _ _ (by decide) (by decide) h.blk⟩
theorem FBox.step {w wx w1 : World} {v : Int} {sl : Value} (h : FBox w v sl wx) (hb : Below wx.heap.size wx w1) : FBox w v sl w1 := h.keep (hb.mono h.below.size) (.of_below hb)
theorem FBox.cell {w wx : World} {v : Int} {sl : Value} (h : FBox w v sl wx) : wx.cell? ⟨w.heap.size, 0, none⟩ = some (.int .i64 v) ∧ wx.cell? ⟨w.heap.size, 1, none⟩ = some sl ∧ w.heap.size < wx.heap.size := by
  refine ⟨?_, ?_, (Array.getElem?_eq_some_iff.1 h.blk).1⟩
  · unfold World.cell?; rw [h.blk]; rfl
  · unfold World.cell?; rw [h.blk]; rfl
end Go.Proofs.YtcaoobdbgdldaaaDoor.Fwd
