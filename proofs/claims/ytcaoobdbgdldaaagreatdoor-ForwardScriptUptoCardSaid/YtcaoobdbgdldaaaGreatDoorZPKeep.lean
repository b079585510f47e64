/- Part of the proof of ForwardScript: what the law uses of the text Keep. -/
import Derived.Below
import Derived.RowKit
import Derived.WalkKit
namespace Go.Proofs.YtcaoobdbgdldaaaGreatDoor.Fwd
open Go.RowKit
def rowOf (i : Nat) (w : World) (b : Nat) : Option Nat := match w.heap[b]? with
  | some (.cells cs _ _) => (cs.getD i (.slice none 0 0)).ownBlock
  | _ => none
structure KeepO (i b m : Nat) (w w1 : World) : Prop where
  size : w.heap.size ≤ w1.heap.size
  keep : ∀ g, g < w.heap.size → g ≠ b → g ≠ m → some g ≠ rowOf i w b → w1.heap[g]? = w.heap[g]?
  row : ∀ g, rowOf i w1 b = some g → rowOf i w b = some g ∨ w.heap.size ≤ g
theorem KeepO.refl (i b m : Nat) (w : World) : KeepO i b m w w := ⟨Nat.le_refl _, fun _ _ _ _ _ => rfl, fun _ h => .inl h⟩
theorem KeepO.trans {i b m : Nat} {x y z : World} (h : KeepO i b m x y) (k : KeepO i b m y z) : KeepO i b m x z :=
  ⟨Nat.le_trans h.size k.size, fun g hl n1 n2 n3 => (k.keep g (Nat.lt_of_lt_of_le hl h.size) n1 n2 (fun e => by
    rcases h.row g e.symm with e2 | e2
    · exact n3 e2.symm
    · omega)).trans (h.keep g hl n1 n2 n3), fun g hg => by
    rcases k.row g hg with e | e
    · exact h.row g e
    · exact .inr (Nat.le_trans h.size e)⟩
theorem KeepO.of_below {i b m : Nat} {w w1 : World} (hb : Below w.heap.size w w1) (hl : b < w.heap.size) : KeepO i b m w w1 :=
  ⟨hb.size, fun g hg _ _ _ => hb.block g hg, fun g hg => .inl (by rw [← hg]; unfold rowOf; rw [hb.block b hl])⟩
theorem rowOf_blk {i : Nat} {w : World} {b : Nat} {cs : Array Value} {t : TypeId} (h : w.heap[b]? = some (Obj.cells cs t (0, 0))) : rowOf i w b = (cs.getD i (.slice none 0 0)).ownBlock := by
  unfold rowOf
  rw [h]
theorem KeepO.mk' {i b m : Nat} {w w1 : World} {cs ds : Array Value} {t : TypeId} (h : w.heap[b]? = some (Obj.cells cs t (0, 0))) (h1 : w1.heap[b]? = some (Obj.cells ds t (0, 0))) (hs : w.heap.size ≤ w1.heap.size)
    (hk : ∀ g, g < w.heap.size → g ≠ b → g ≠ m → some g ≠ (cs.getD i (.slice none 0 0)).ownBlock → w1.heap[g]? = w.heap[g]?) (hv : (ds.getD i (.slice none 0 0)).ownBlock = (cs.getD i (.slice none 0 0)).ownBlock ∨ ∀ g, (ds.getD i (.slice none 0 0)).ownBlock = some g → w.heap.size ≤ g) : KeepO i b m w w1 :=
  ⟨hs, fun g hl n1 n2 n3 => hk g hl n1 n2 (by rw [← rowOf_blk h]; exact n3), fun g hg => by
    rw [rowOf_blk h1] at hg
    rw [rowOf_blk h]
    rcases hv with e | e
    · exact .inl (e ▸ hg)
    · exact .inr (e g hg)⟩
theorem KeepO.setFresh {i b m : Nat} {w0 w : World} (h : KeepO i b m w0 w) {bx j : Nat} (hb : w0.heap.size ≤ bx) (hne : b ≠ bx) (u : Value) : KeepO i b m w0 (w.setCell ⟨bx, j, none⟩ u) :=
  ⟨by have := h.size; simpa using this, fun g hl n1 n2 n3 => (Below.heap_setCell w ⟨bx, j, none⟩ u g (show g ≠ bx by omega)).trans (h.keep g hl n1 n2 n3), fun g hg => h.row g (by
    unfold rowOf at hg ⊢
    rwa [Below.heap_setCell w ⟨bx, j, none⟩ u b hne] at hg)⟩
end Go.Proofs.YtcaoobdbgdldaaaGreatDoor.Fwd
