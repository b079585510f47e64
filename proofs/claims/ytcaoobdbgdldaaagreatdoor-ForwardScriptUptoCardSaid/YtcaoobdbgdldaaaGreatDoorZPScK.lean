/- Part of the proof of ForwardScript: what the law uses of the text ScK. -/
import Derived.Test.YtcaoobdbgdldaaaGreatDoorZPScJ
import Derived.Test.YtcaoobdbgdldaaaGreatDoorZPJP7
namespace Go.Proofs.YtcaoobdbgdldaaaGreatDoor.Sc
open Go.RowKit Go.Proofs.YtcaoobdbgdldaaaGreatDoor.Lit Go.Proofs.YtcaoobdbgdldaaaGreatDoor.Spr Go.Proofs.YtcaoobdbgdldaaaGreatDoor.P Go.Proofs.YtcaoobdbgdldaaaGreatDoor.Rf Go.Proofs.YtcaoobdbgdldaaaGreatDoor.Rfw Go.Proofs.YtcaoobdbgdldaaaGreatDoor.Cl Go.Proofs.YtcaoobdbgdldaaaGreatDoorW.PrintWords Go.Proofs.YtcaoobdbgdldaaaGreatDoorW.PrintLast
open Go.Proofs.YtcaoobdbgdldaaaGreatDoor.Fwd (Fw FwR FwV KeepI KeepT KeepO rowOf rowOf_blk MapR AllR RowR newW new_any Tab)
set_option linter.unusedVariables false
set_option linter.unusedSimpArgs false

abbrev M0 : Nat := 1048580
def Pr (B : Nat) (own : Nat → Nat) (t N : Nat) (p q : Value) (X : World) : Prop := ∃ b m br F A o, p = .pointer (some ⟨b, 0, none⟩) ∧ q = .pointer (some ⟨br, 0, none⟩) ∧ Duo B own t b m br N F A o X
structure St (w : World) (cells : Array Value) (k : Nat) (X : World) : Prop where
  below : Below w.heap.size w X
  sb : X.heap[w.heap.size]? = some (Obj.cells cells 47 (0, 0))
  more : ∃ own p0 p1 q0 q1, X.heap[w.heap.size + 1]? = some (Obj.cells #[p0, p1] 49 (0, 0)) ∧ X.heap[w.heap.size + 1 + 1]? = some (Obj.cells #[q0, q1] 51 (0, 0)) ∧ (∀ g, g < w.heap.size + 3 → own g = 9) ∧ (0 < k → Pr (w.heap.size + 3) own 0 M0 p0 q0 X) ∧ (1 < k → Pr (w.heap.size + 3) own 2 M0 p1 q1 X)
theorem St.size {w X : World} {cells : Array Value} {k : Nat} (h : St w cells k X) : w.heap.size + 3 ≤ X.heap.size := by
  obtain ⟨_, _, _, _, _, _, h2, _⟩ := h.more
  have := (Array.getElem?_eq_some_iff.1 h2).1
  omega
theorem St.init (w : World) (cells : Array Value) : St w cells 0 (((w.alloc (Obj.cells cells 47)).alloc (Obj.cells #[.pointer none, .pointer none] 49)).alloc (Obj.cells #[.pointer none, .pointer none] 51)) := by
  have s1 : (w.alloc (Obj.cells cells 47)).heap.size = w.heap.size + 1 := by simp
  have s2 : ((w.alloc (Obj.cells cells 47)).alloc (Obj.cells #[.pointer none, .pointer none] 49)).heap.size = w.heap.size + 1 + 1 := by simp
  have b1 : Below w.heap.size w (w.alloc (Obj.cells cells 47)) := (Below.refl _ _).alloc (Nat.le_refl _) _
  have h1 := World.alloc_heap_new w (Obj.cells cells 47)
  have h2 := World.alloc_heap_new (w.alloc (Obj.cells cells 47)) (Obj.cells #[.pointer none, .pointer none] 49)
  rw [s1] at h2
  have h3 := World.alloc_heap_new ((w.alloc (Obj.cells cells 47)).alloc (Obj.cells #[.pointer none, .pointer none] 49)) (Obj.cells #[.pointer none, .pointer none] 51)
  rw [s2] at h3
  have e2 := (below_alloc (Below.refl (w.alloc (Obj.cells cells 47)).heap.size _) (Obj.cells #[.pointer none, .pointer none] 49)).block w.heap.size (by omega)
  have e3 := fun g hg => (below_alloc (Below.refl ((w.alloc (Obj.cells cells 47)).alloc (Obj.cells #[.pointer none, .pointer none] 49)).heap.size _) (Obj.cells #[.pointer none, .pointer none] 51)).block g hg
  refine ⟨(b1.alloc (by omega) _).alloc (by omega) _, (e3 w.heap.size (by omega)).trans (e2.trans h1), fun _ => 9, .pointer none, .pointer none, .pointer none, .pointer none, (e3 (w.heap.size + 1) (by omega)).trans h2, h3, fun _ _ => rfl, fun h => by omega, fun h => by omega⟩
theorem Pr.below {B : Nat} {own : Nat → Nat} {t N : Nat} {p q : Value} {X Y : World} (h : Pr B own t N p q X) (hb : Below X.heap.size X Y) : Pr B own t N p q Y := by
  obtain ⟨b, m, br, F, A, o, h1, h2, h3⟩ := h
  exact ⟨b, m, br, F, A, o, h1, h2, h3.below hb own (fun _ _ => rfl)⟩
theorem Pr.other {B : Nat} {own own' : Nat → Nat} {s t N : Nat} {p q : Value} {X Y : World} (h : Pr B own s N p q X) (he : Eff t B own own' X Y) (h1 : s ≠ t) (h2 : s ≠ t + 1) (h3 : s + 1 ≠ t) : Pr B own' s N p q Y := by
  obtain ⟨b, m, br, F, A, o, k1, k2, k3⟩ := h
  exact ⟨b, m, br, F, A, o, k1, k2, k3.other he h1 h2 h3⟩
theorem Pr.set {B : Nat} {own : Nat → Nat} {t N : Nat} {p q : Value} {X : World} (h : Pr B own t N p q X) {g j : Nat} {u : Value} {cells : Array Value} {ty : TypeId} (hg : X.heap[g]? = some (Obj.cells cells ty (0, 0))) (hty : ty ≠ 3) (h1 : own g ≠ t) (h2 : own g ≠ t + 1) : Pr B own t N p q (X.setCell ⟨g, j, none⟩ u) := by
  obtain ⟨b, m, br, F, A, o, k1, k2, k3⟩ := h
  exact ⟨b, m, br, F, A, o, k1, k2, k3.set hg hty h1 h2⟩
theorem St.below' {w X Y : World} {cells : Array Value} {k : Nat} (h : St w cells k X) (hb : Below X.heap.size X Y) : St w cells k Y := by
  obtain ⟨own, p0, p1, q0, q1, h1, h2, h3, h4, h5⟩ := h.more
  exact ⟨h.below.trans (hb.mono h.below.size), (hb.block _ (Array.getElem?_eq_some_iff.1 h.sb).1).trans h.sb, own, p0, p1, q0, q1, (hb.block _ (Array.getElem?_eq_some_iff.1 h1).1).trans h1, (hb.block _ (Array.getElem?_eq_some_iff.1 h2).1).trans h2, h3, fun hk => (h4 hk).below hb, fun hk => (h5 hk).below hb⟩
theorem St.put {w X W1 W2 : World} {cells : Array Value} {k : Nat} (hk : k < 2) (h : St w cells k X) {v : Int} {cs : List (List Int)} {b m br N : Nat} (hf : formedB v cs = true) (h1 : FwR X X.heap.size b m N (newW cs) W1) (h2 : RfR (fun g => W1.heap.size ≤ g) W1 W1.heap.size br cs false W2) (hok : RfOk cs) (hN : N ≤ M0) (hl : cs.length ≤ M0) :
    St w cells (k + 1) ((W2.setCell ⟨w.heap.size + 1, k, none⟩ (.pointer (some ⟨b, 0, none⟩))).setCell ⟨w.heap.size + 1 + 1, k, none⟩ (.pointer (some ⟨br, 0, none⟩))) := by
  obtain ⟨own, p0, p1, q0, q1, x1, y1, ho, hp0, hp1⟩ := h.more
  have hs := h.size
  obtain ⟨D, hb, hE⟩ := Duo.make (t := 2 * k) (own := own) hf h1 h2 hok hs hN hl
  have x2 := (hb.block _ (Array.getElem?_eq_some_iff.1 x1).1).trans x1
  have y2 := (hb.block _ (Array.getElem?_eq_some_iff.1 y1).1).trans y1
  have s2 := (hb.block _ (Array.getElem?_eq_some_iff.1 h.sb).1).trans h.sb
  have n1 : w.heap.size + 1 ≠ w.heap.size + 1 + 1 := by omega
  have x3 : (W2.setCell ⟨w.heap.size + 1, k, none⟩ (.pointer (some ⟨b, 0, none⟩))).heap[w.heap.size + 1]? = some (Obj.cells ((#[p0, p1] : Array Value).setIfInBounds k (.pointer (some ⟨b, 0, none⟩))) 49 (0, 0)) := Fwd.blkSet x2 k _
  have y3 : (W2.setCell ⟨w.heap.size + 1, k, none⟩ (.pointer (some ⟨b, 0, none⟩))).heap[w.heap.size + 1 + 1]? = some (Obj.cells #[q0, q1] 51 (0, 0)) := (Below.heap_setCell _ ⟨w.heap.size + 1, k, none⟩ _ _ (Ne.symm n1)).trans y2
  have x4 := (Below.heap_setCell (W2.setCell ⟨w.heap.size + 1, k, none⟩ (.pointer (some ⟨b, 0, none⟩))) ⟨w.heap.size + 1 + 1, k, none⟩ (.pointer (some ⟨br, 0, none⟩)) _ n1).trans x3
  have y4 := Fwd.blkSet y3 k (.pointer (some ⟨br, 0, none⟩))
  have s4 : ((W2.setCell ⟨w.heap.size + 1, k, none⟩ (.pointer (some ⟨b, 0, none⟩))).setCell ⟨w.heap.size + 1 + 1, k, none⟩ (.pointer (some ⟨br, 0, none⟩))).heap[w.heap.size]? = W2.heap[w.heap.size]? := (Below.heap_setCell _ ⟨w.heap.size + 1 + 1, k, none⟩ _ _ (show w.heap.size ≠ w.heap.size + 1 + 1 by omega)).trans (Below.heap_setCell _ ⟨w.heap.size + 1, k, none⟩ _ _ (show w.heap.size ≠ w.heap.size + 1 by omega))
  have ho' : ∀ g, g < w.heap.size + 3 → lab2 own X.heap.size W1.heap.size (2 * k) g = 9 := fun g hg => by
    rw [hE.same g (by omega)]; exact ho g hg
  have hD : Duo (w.heap.size + 3) (lab2 own X.heap.size W1.heap.size (2 * k)) (2 * k) b m br M0 (newW cs) cs false ((W2.setCell ⟨w.heap.size + 1, k, none⟩ (.pointer (some ⟨b, 0, none⟩))).setCell ⟨w.heap.size + 1 + 1, k, none⟩ (.pointer (some ⟨br, 0, none⟩))) :=
    (D.set x2 (by decide) (by rw [ho' _ (by omega)]; omega) (by rw [ho' _ (by omega)]; omega)).set y3 (by decide) (by rw [ho' _ (by omega)]; omega) (by rw [ho' _ (by omega)]; omega)
  refine ⟨((h.below.trans (hb.mono h.below.size)).setCell (p := ⟨w.heap.size + 1, k, none⟩) (by show w.heap.size ≤ w.heap.size + 1; omega) _).setCell (p := ⟨w.heap.size + 1 + 1, k, none⟩) (by show w.heap.size ≤ w.heap.size + 1 + 1; omega) _, s4.trans s2, ?_⟩
  have hk' : k = 0 ∨ k = 1 := by omega
  rcases hk' with rfl | rfl
  · exact ⟨_, _, p1, _, q1, x4, y4, ho', fun _ => ⟨b, m, br, _, _, _, rfl, rfl, hD⟩, fun h => by omega⟩
  · refine ⟨_, p0, _, q0, _, x4, y4, ho', fun _ => ?_, fun _ => ⟨b, m, br, _, _, _, rfl, rfl, hD⟩⟩
    exact (((hp0 (by omega)).other hE (by omega) (by omega) (by omega)).set x2 (by decide) (by rw [ho' _ (by omega)]; omega) (by rw [ho' _ (by omega)]; omega)).set y3 (by decide) (by rw [ho' _ (by omega)]; omega) (by rw [ho' _ (by omega)]; omega)
end Go.Proofs.YtcaoobdbgdldaaaGreatDoor.Sc
