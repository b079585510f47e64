/- Part of the proof of ForwardRuns: what the law uses of the text FwO. -/
import Derived.Test.YtcaoobdbgdldaaaDoorZPFwN
import Derived.Test.YtcaoobdbgdldaaaDoorZPPortsJ
import Derived.Test.YtcaoobdbgdldaaaDoorZPRefY
import Derived.Test.YtcaoobdbgdldaaaDoorZPP3
namespace Go.Proofs.YtcaoobdbgdldaaaDoor.Fwd
open Go.RowKit Go.Shelf Go.Maps Go.Proofs.YtcaoobdbgdldaaaDoor.Lit Go.Proofs.YtcaoobdbgdldaaaDoor.Spr
set_option linter.unusedVariables false
set_option linter.unusedSimpArgs false

theorem done_any (w0 : World) (B b m N : Nat) (F : Fw) (w : World) (h : FwR w0 B b m N F w) :
    Calls Tryd.prog 10 #[.pointer (some ⟨b, 0, none⟩)] w fun e w' => e = .returned (.bool F.done) ∧ w' = w := by
  obtain ⟨v, h⟩ := h
  obtain ⟨_, _, _, h3⟩ := h.cell
  clear h
  go_enter Tryd.func10, Tryd.ntmps10
  go_wp2
  go_ret
  exact ⟨rfl, rfl⟩

theorem awake_any (w : World) (hT : Tab w) : Calls Tryd.prog 5 #[] w fun e w' => e = .returned (.bool true) ∧ Below w.heap.size w w' :=
  P.depotlaw11_awake.calls true w hT (by decide +kernel)

theorem drop_done (F : Fw) (c : List Int) : (dropW F c).2.2.done = F.done := by
  unfold dropW
  split
  · split
    · rfl
    · split
      · rfl
      · rfl
  · rfl
theorem take_done {F : Fw} {d : Bool} {c : List Int} (h : (takeW F d c).1 = 0) (hd : F.done = false) : (takeW F d c).2.done = false := by
  unfold takeW at h ⊢
  cases d with
  | true =>
    simp only [↓reduceIte] at h ⊢
    split
    · rename_i h1; rw [if_pos h1] at h; cases h
    · rename_i h1
      rw [if_neg h1] at h
      split
      · rename_i h2; rw [if_pos h2] at h; cases h
      · rw [drop_done]; exact hd
  | false =>
    simp only [Bool.false_eq_true, ↓reduceIte] at h ⊢
    split
    · rename_i h1; rw [if_pos h1] at h; cases h
    · rename_i h1
      rw [if_neg h1] at h
      split
      · rename_i h2; rw [if_pos h2] at h; cases h
      · rename_i h2
        rw [if_neg h2] at h
        split
        · rename_i h3; rw [if_pos h3] at h; cases h
        · rename_i h3; exact Bool.eq_false_iff.2 h3
theorem new_done (cs : List (List Int)) : (newW cs).done = false := by
  unfold newW
  have : ∀ (cs : List (List Int)) (F : Fw), F.done = false → (cs.foldl putW F).done = false := by
    intro cs
    induction cs with
    | nil => exact fun F h => h
    | cons c t ih => exact fun F h => ih _ h
  exact this cs _ rfl
theorem run_done {F : Fw} (hd : F.done = false) (l : List (Bool × List Int)) : ∀ k, k ≤ l.length → (∀ j, j < k → (takeW (runW F (l.take j)) (l.getD j (false, [])).1 (l.getD j (false, [])).2).1 = 0) → (runW F (l.take k)).done = false := by
  intro k
  induction k with
  | zero => intro _ _; exact hd
  | succ k ih =>
    intro hk h
    have e : runW F (l.take (k + 1)) = (takeW (runW F (l.take k)) (l.getD k (false, [])).1 (l.getD k (false, [])).2).2 := by
      rw [← runW_snoc, List.take_add_one, List.getD_eq_getElem?_getD, List.getElem?_eq_getElem (by omega)]; rfl
    rw [e]
    exact take_done (h k (by omega)) (ih (by omega) (fun j hj => h j (by omega)))
theorem takeW_drop {F : Fw} {c : List Int} {d1 d2 : Int} {G : Fw} (h : dropW F c = (d1, d2, G)) : takeW F true c = if d2 ≠ 0 then (5, G) else if d1 = 0 then (3, G) else (0, G) := by
  unfold takeW; rw [if_pos rfl, h]
theorem takeW_add {F : Fw} {c : List Int} {a1 a2 : Int} {G : Fw} (h : addW F c = (a1, a2, G)) : takeW F false c = if a2 ≠ 0 then (5, G) else if a1 = 0 then (2, G) else if G.done = true then (1, G) else (0, G) := by
  unfold takeW; rw [if_neg (by decide), h]

def Rep2 (g : Nat) (x y : Int) (w : World) : Prop := w.heap[g]? = some (Obj.cells #[.int .i64 x, .int .i64 y] 28 (0, 0))
theorem Rep2.new (w : World) (x y : Int) : Rep2 w.heap.size x y (w.alloc (.cells #[.int .i64 x, .int .i64 y] 28)) := heap_alloc_new w _
theorem Rep2.keep {g : Nat} {x y : Int} {w w1 : World} (h : Rep2 g x y w) (hk : KeepT w w1) : Rep2 g x y w1 := hk g _ _ (by decide) (by decide) h
theorem Rep2.step {g : Nat} {x y : Int} {w w1 : World} (h : Rep2 g x y w) (hb : Below w.heap.size w w1) : Rep2 g x y w1 := h.keep (.of_below hb)
theorem Rep2.cell {g : Nat} {x y : Int} {w : World} (h : Rep2 g x y w) : w.cell? ⟨g, 0, none⟩ = some (.int .i64 x) ∧ w.cell? ⟨g, 1, none⟩ = some (.int .i64 y) ∧ w.frozen? ⟨g, 0, none⟩ = false ∧ w.frozen? ⟨g, 1, none⟩ = false := by
  have h2 : w.heap[g]? = some (Obj.cells #[.int .i64 x, .int .i64 y] 28 (0, 0)) := h
  refine ⟨?_, ?_, ?_, ?_⟩
  · unfold World.cell?; rw [h2]; rfl
  · unfold World.cell?; rw [h2]; rfl
  · simp [World.frozen?, h2]
  · simp [World.frozen?, h2]
theorem Rep2.lt {g : Nat} {x y : Int} {w : World} (h : Rep2 g x y w) : g < w.heap.size := (Array.getElem?_eq_some_iff.1 h).1
theorem Rep2.set {g : Nat} {x y : Int} {w : World} (h : Rep2 g x y w) (x' y' : Int) : Rep2 g x' y' ((w.setCell ⟨g, 0, none⟩ (.int .i64 x')).setCell ⟨g, 1, none⟩ (.int .i64 y')) := (blkSet ((blkSet h 0 _).trans rfl) 1 _).trans rfl
theorem Rep2.other {g g' : Nat} {x y : Int} {w : World} (h : Rep2 g x y w) (hne : g ≠ g') (u v : Value) : Rep2 g x y ((w.setCell ⟨g', 0, none⟩ u).setCell ⟨g', 1, none⟩ v) := by
  unfold Rep2
  rw [Below.heap_setCell _ ⟨g', 1, none⟩ v g hne, Below.heap_setCell _ ⟨g', 0, none⟩ u g hne]; exact h

theorem Rep2.grown {g : Nat} {x y : Int} {w w1 : World} {row : Option Nat} (h : Rep2 g x y w) (hg : w.grownBy w1 row) (hne : some g ≠ row) : Rep2 g x y w1 := by
  unfold Rep2
  rw [hg.block g h.lt hne]; exact h

def NewB (wc : World) (g : Nat) (X : World) : Prop := wc.heap.size ≤ g ∧ Rep2 g 0 0 X
theorem NewB.init {wc X : World} (hb : Below wc.heap.size wc X) : NewB wc X.heap.size (X.alloc (.cells #[.int .i64 0, .int .i64 0] 28)) := ⟨hb.size, Rep2.new X 0 0⟩
theorem NewB.step {wc X Y : World} {g : Nat} (h : NewB wc g X) (hb : Below X.heap.size X Y) : NewB wc g Y := ⟨h.1, h.2.step hb⟩
theorem NewB.drewI {wc X : World} {g : Nat} {o : Obj} (h : NewB wc g (X.alloc o)) : NewB wc g (X.alloc o).drew := h.step (below_drewN (Below.refl _ _) 1)
theorem NewB.grown {wc X Y : World} {g : Nat} {row : Option Nat} (h : NewB wc g X) (hg : X.grownBy Y row) (hne : some g ≠ row) : NewB wc g Y := ⟨h.1, h.2.grown hg hne⟩

structure FBox (w : World) (v : Int) (sl : Value) (wx : World) : Prop where
  below : Below w.heap.size w wx
  blk : wx.heap[w.heap.size]? = some (Obj.cells #[.int .i64 v, sl] 24 (0, 0))
theorem FBox.init (w : World) (v : Int) (sl : Value) : FBox w v sl (w.alloc (.cells #[.int .i64 v, sl] 24)) := ⟨(Below.refl _ _).alloc (Nat.le_refl _) _, heap_alloc_new w _⟩
theorem FBox.keep {w wx w1 : World} {v : Int} {sl : Value} (h : FBox w v sl wx) (hb : Below w.heap.size wx w1) (hk : KeepT wx w1) : FBox w v sl w1 := ⟨h.below.trans hb, hk _ _ _ (by decide) (by decide) h.blk⟩
theorem FBox.step {w wx w1 : World} {v : Int} {sl : Value} (h : FBox w v sl wx) (hb : Below wx.heap.size wx w1) : FBox w v sl w1 := h.keep (hb.mono h.below.size) (.of_below hb)
theorem FBox.cell {w wx : World} {v : Int} {sl : Value} (h : FBox w v sl wx) : wx.cell? ⟨w.heap.size, 0, none⟩ = some (.int .i64 v) ∧ wx.cell? ⟨w.heap.size, 1, none⟩ = some sl ∧ w.heap.size < wx.heap.size := by
  refine ⟨?_, ?_, (Array.getElem?_eq_some_iff.1 h.blk).1⟩
  · unfold World.cell?; rw [h.blk]; rfl
  · unfold World.cell?; rw [h.blk]; rfl
theorem FBox.two {w wx X : World} {v : Int} {sl : Value} (h : FBox w v sl wx) (hb : Below wx.heap.size wx X) : X.cell? ⟨w.heap.size, 0, none⟩ = some (.int .i64 v) ∧ X.cell? ⟨w.heap.size, 1, none⟩ = some sl := ⟨(h.step hb).cell.1, (h.step hb).cell.2.1⟩
theorem FBox.set {w wx : World} {v : Int} {sl : Value} (h : FBox w v sl wx) {g : Nat} (hg : w.heap.size < g) (x y : Value) : FBox w v sl ((wx.setCell ⟨g, 0, none⟩ x).setCell ⟨g, 1, none⟩ y) := by
  refine ⟨(h.below.setCell (by show w.heap.size ≤ g; omega) _).setCell (by show w.heap.size ≤ g; omega) _, ?_⟩
  rw [Below.heap_setCell _ ⟨g, 1, none⟩ y _ (by show w.heap.size ≠ g; omega), Below.heap_setCell _ ⟨g, 0, none⟩ x _ (by show w.heap.size ≠ g; omega)]; exact h.blk
theorem FBox.twoS {w wx X : World} {v : Int} {sl : Value} (h : FBox w v sl wx) (hb : Below wx.heap.size wx X) {g : Nat} (hg : w.heap.size < g) (x y : Value) : ((X.setCell ⟨g, 0, none⟩ x).setCell ⟨g, 1, none⟩ y).cell? ⟨w.heap.size, 0, none⟩ = some (.int .i64 v) ∧ ((X.setCell ⟨g, 0, none⟩ x).setCell ⟨g, 1, none⟩ y).cell? ⟨w.heap.size, 1, none⟩ = some sl := ⟨((h.step hb).set hg x y).cell.1, ((h.step hb).set hg x y).cell.2.1⟩

end Go.Proofs.YtcaoobdbgdldaaaDoor.Fwd
