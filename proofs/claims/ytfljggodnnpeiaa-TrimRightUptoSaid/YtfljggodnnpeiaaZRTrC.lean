/- Part of the proof of TrimRight: what the law uses of the text TrC. -/
import Derived.Test.YtfljggodnnpeiaaZRTrA
namespace Go.Proofs.Ytfljggodnnpeiaa.Trm
open Go.RowKit Go.Maps Go.Proofs.Ytfljggodnnpeiaa.Lit Go.Proofs.Ytfljggodnnpeiaa.Spr
open Go.Proofs.YtfljggodnnpeiaaW.PrintWords hiding own_slice own_base own_lt own_move
set_option linter.unusedVariables false
set_option linter.unusedSimpArgs false

theorem fresh_row {w w1 : World} {B : Nat} {τ : Nat → Nat} {v : Value} {xs : List Int} (hB : B ≤ w.heap.size) (ho : w1.ownsRow w.heap.size 3 1 v (ints .i64 xs).length (ints .i64 xs)) (t : Nat) : IRow w1 B (retag τ w.heap.size t) t 3 .i64 v xs :=
  ⟨Spr.own_lower ho hB, fun k hk => retag_new (own_base ho k hk)⟩
theorem KRep.set_lean {w : World} {B b : Nat} {τ : Nat → Nat} {V : KV} {K : KSt} (R : KRep w B b τ V K) {ga ca gi ci gl cl : Nat} (f : KForm w B b τ V K ga ca gi ci gl cl) {v : Value} {xs : List Int} (hv : IRow w B τ 4 3 .i64 v xs) (a : Nat) (ha : a < K.all.length) :
    KRep (w.setCell ⟨gl, a, none⟩ v) B b τ { V with ll := V.ll.set a v } { K with lean := K.lean.set a xs } := by
  have hs : Stay w (w.setCell ⟨gl, a, none⟩ v) τ τ (fun s => s ≠ 3) := (Stay.refl w τ _).setCell _ _ (fun _ h => h f.tl)
  refine ⟨(hs.blk b R.lt (by rw [R.tb]; omega)).trans R.blk, R.hb, R.tb, R.ra.stay hs (by omega), R.al.step (fun k hk hlt => hs.blk k hlt (by rw [R.old k hk]; omega)), R.ri.stay hs (by omega), ⟨?_, R.rl.tag⟩, by show (V.ll.set a v).length = _; rw [List.length_set]; exact R.ll, R.li, by show (K.lean.set a xs).length = _; rw [List.length_set]; exact R.le, fun i u c h1 h2 => ?_, R.old⟩
  · have h := R.rl.own
    rw [f.vl] at h
    exact own_putV h f.vl a v
  · by_cases e : i = a
    · subst e
      rw [List.getElem?_set_self (by rw [R.ll]; exact ha)] at h1
      rw [List.getElem?_set_self (by rw [R.le]; exact ha)] at h2
      cases h1
      cases h2
      exact hv.stay hs (by omega)
    · rw [List.getElem?_set_ne (Ne.symm e)] at h1 h2
      exact (R.lr i u c h1 h2).stay hs (by omega)
theorem KRep.put_inn {w : World} {B b : Nat} {τ : Nat → Nat} {V : KV} {K : KSt} (R : KRep w B b τ V K) {ga ca gi ci gl cl : Nat} (f : KForm w B b τ V K ga ca gi ci gl cl) (x : Nat) (y : Bool) :
    KRep (w.setCell ⟨gi, x, none⟩ (.bool y)) B b τ V { K with inn := K.inn.set x y } := by
  have hs : Stay w (w.setCell ⟨gi, x, none⟩ (.bool y)) τ τ (fun s => s ≠ 2) := (Stay.refl w τ _).setCell _ _ (fun _ h => h f.ti)
  refine ⟨(hs.blk b R.lt (by rw [R.tb]; omega)).trans R.blk, R.hb, R.tb, R.ra.stay hs (by omega), R.al.step (fun k hk hlt => hs.blk k hlt (by rw [R.old k hk]; omega)), ⟨?_, R.ri.tag⟩, R.rl.stay hs (by omega), R.ll, by show (K.inn.set x y).length = _; rw [List.length_set]; exact R.li, R.le, fun i u c h1 h2 => (R.lr i u c h1 h2).stay hs (by omega), R.old⟩
  have h := R.ri.own
  rw [f.vi] at h
  have := own_putV h f.vi x (.bool y)
  rw [show (bls K.inn).set x (.bool y) = bls (K.inn.set x y) by unfold bls; rw [List.map_set]] at this
  exact this
theorem KRep.set_inn {w : World} {B b : Nat} {τ : Nat → Nat} {V : KV} {K : KSt} (R : KRep w B b τ V K) {v : Value} {xs : List Bool} (hv : Row w B τ 5 4 v (bls xs)) (hl : xs.length = K.all.length) :
    KRep (w.setCell ⟨b, 2, none⟩ v) B b (fun k => if τ k = 5 then 2 else if τ k = 2 then 6 else τ k) { V with vi := v } { K with inn := xs } := by
  have hs : Stay w (w.setCell ⟨b, 2, none⟩ v) τ τ (fun s => s ≠ 0) := (Stay.refl w τ _).setCell _ _ (fun _ h => h R.tb)
  have hrow : ∀ {t : Nat} {e : TypeId} {u : Value} {ys : List Value}, Row w B τ t e u ys → t ≠ 0 → t ≠ 5 → t ≠ 2 → Row (w.setCell ⟨b, 2, none⟩ v) B (fun k => if τ k = 5 then 2 else if τ k = 2 then 6 else τ k) t e u ys := fun h h0 h5 h2 =>
    ⟨(h.stay hs h0).own, fun k hk => by
      have := h.tag k hk
      show (if τ k = 5 then 2 else if τ k = 2 then 6 else τ k) = _
      rw [if_neg (by omega), if_neg (by omega)]; exact this⟩
  refine ⟨?_, R.hb, ?_, hrow R.ra (by omega) (by omega) (by omega), R.al.step (fun k hk hlt => hs.blk k hlt (by rw [R.old k hk]; omega)), ⟨(hv.stay hs (by omega)).own, fun k hk => ?_⟩, hrow R.rl (by omega) (by omega) (by omega), R.ll, hl, R.le, fun i u c h1 h2 => hrow (R.lr i u c h1 h2) (by omega) (by omega) (by omega), fun k hk => ?_⟩
  · exact row_setCell _ _ _ _ _ _ R.blk
  · show (if τ b = 5 then 2 else if τ b = 2 then 6 else τ b) = 0
    rw [R.tb]; rfl
  · show (if τ k = 5 then 2 else if τ k = 2 then 6 else τ k) = 2
    rw [if_pos (hv.tag k hk)]
  · show (if τ k = 5 then 2 else if τ k = 2 then 6 else τ k) = 1
    rw [R.old k hk]; rfl
def KLed (w : World) (B b : Nat) (K : KSt) (w' : World) : Prop := ∃ τ' V', KRep w' B b τ' V' K ∧ Below B w w'
theorem KLed.mk {w w' : World} {B b : Nat} {K : KSt} {τ' : Nat → Nat} {V' : KV} (R : KRep w' B b τ' V' K) (hb : Below B w w') : KLed w B b K w' := ⟨τ', V', R, hb⟩

end Go.Proofs.Ytfljggodnnpeiaa.Trm
