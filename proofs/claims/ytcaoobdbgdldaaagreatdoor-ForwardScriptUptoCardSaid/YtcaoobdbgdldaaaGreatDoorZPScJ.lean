/- Part of the proof of ForwardScript: what the law uses of the text ScJ. -/
import Derived.Test.YtcaoobdbgdldaaaGreatDoorZPScI
import Derived.Test.YtcaoobdbgdldaaaGreatDoorZPJP9
namespace Go.Proofs.YtcaoobdbgdldaaaGreatDoor.Sc
open Go.RowKit Go.Proofs.YtcaoobdbgdldaaaGreatDoor.Lit Go.Proofs.YtcaoobdbgdldaaaGreatDoor.Spr Go.Proofs.YtcaoobdbgdldaaaGreatDoor.P Go.Proofs.YtcaoobdbgdldaaaGreatDoor.Rf Go.Proofs.YtcaoobdbgdldaaaGreatDoor.Rfw Go.Proofs.YtcaoobdbgdldaaaGreatDoor.Cl Go.Proofs.YtcaoobdbgdldaaaGreatDoorW.PrintWords Go.Proofs.YtcaoobdbgdldaaaGreatDoorW.PrintLast
open Go.Proofs.YtcaoobdbgdldaaaGreatDoor.Fwd (Fw FwR FwV KeepI KeepT KeepO rowOf rowOf_blk MapR AllR RowR newW new_any)
set_option linter.unusedVariables false
set_option linter.unusedSimpArgs false

theorem fw_lower {w0 w : World} {B B' b m N : Nat} {F : Fw} (h : FwR w0 B b m N F w) (hB : B' ≤ B) : FwR w0 B' b m N F w := by
  obtain ⟨v, h⟩ := h
  obtain ⟨vs, h1, h2, h3⟩ := h.all
  exact ⟨v, h.blk, h.map, ⟨vs, h1, Fwd.own_lower h2 hB, fun i hi => Fwd.own_lower (h3 i hi) hB⟩, h.base.mono hB, Nat.le_trans hB h.hb, Nat.le_trans hB h.hm, Nat.le_trans hB h.hw, h.ok, h.kp, h.ko⟩
theorem rf_lower {O : Nat → Prop} {w0 w : World} {B B' b : Nat} {A : List (List Int)} {o : Bool} (h : RfR O w0 B b A o w) (hB : B' ≤ B) : RfR O w0 B' b A o w := by
  obtain ⟨Ad, c, h1, h2, h3, h4, h5⟩ := h
  exact ⟨Ad, c, h1, Kd.N_mono (Kd.N_lower h2 hB) (fun k hk => ⟨hk.1, Nat.le_trans hB hk.2.1, hk.2.2⟩), h3.mono hB, Nat.le_trans hB h4, h5⟩
def lab2 (own : Nat → Nat) (n n1 t : Nat) : Nat → Nat := fun g => if g < n then own g else (if g < n1 then t else t + 1)
theorem Duo.make {B t b m br N M : Nat} {own : Nat → Nat} {v : Int} {cs : List (List Int)} {w w1 w2 : World} (hf : formedB v cs = true) (h1 : FwR w w.heap.size b m N (newW cs) w1) (h2 : RfR (fun k => w1.heap.size ≤ k) w1 w1.heap.size br cs false w2) (hok : RfOk cs) (hB : B ≤ w.heap.size) (hN : N ≤ M) (hl : cs.length ≤ M) :
    Duo B (lab2 own w.heap.size w1.heap.size t) t b m br M (newW cs) cs false w2 ∧ Below w.heap.size w w2 ∧ Eff t B own (lab2 own w.heap.size w1.heap.size t) w w2 := by
  have hb1 := Fwd.FwR.base h1
  have hb2 := h2.base
  obtain ⟨f1, f2, f3⟩ := FwR.facts h1
  obtain ⟨r1, r2⟩ := RfR.facts h2
  have hs1 := hb1.size
  have hs2 := hb2.size
  have hbb : w.heap.size ≤ b ∧ w.heap.size ≤ m ∧ ∀ g, rowOf 1 w1 b = some g → w.heap.size ≤ g := by
    obtain ⟨v, h⟩ := h1
    refine ⟨h.hb, h.hm, fun g hg => ?_⟩
    rw [rowOf_blk h.blk] at hg
    exact (h.all.typed g hg).1
  have hrr : w1.heap.size ≤ br ∧ ∀ g, rowOf 0 w2 br = some g → w1.heap.size ≤ g := by
    obtain ⟨Ad, c, k1, k2, _, k4, _⟩ := h2
    refine ⟨k4, fun g hg => ?_⟩
    rw [rowOf_blk k1] at hg
    exact Kd.N_base k2 g hg
  have l1 : ∀ g, w.heap.size ≤ g → g < w1.heap.size → lab2 own w.heap.size w1.heap.size t g = t := fun g a c => by unfold lab2; rw [if_neg (by omega), if_pos c]
  have l2 : ∀ g, w1.heap.size ≤ g → lab2 own w.heap.size w1.heap.size t g = t + 1 := fun g a => by unfold lab2; rw [if_neg (by omega), if_neg (by omega)]
  have l0 : ∀ g, g < w.heap.size → lab2 own w.heap.size w1.heap.size t g = own g := fun g a => if_pos a
  have kb : w2.heap[b]? = w1.heap[b]? := hb2.block b f1
  have hbw := hb1.trans (hb2.mono hs1)
  refine ⟨⟨((fw_lower h1 hB).mono hN).step hb2 |>.rebase, rf_lower (rf_move h2 (fun _ _ _ => rfl) rfl (fun g _ hg => l2 g hg)) (Nat.le_trans hB hs1), l1 b hbb.1 f1, l1 m hbb.2.1 f2, fun g hg => ?_, l2 br hrr.1, fun g hg => l2 g (hrr.2 g hg), new_same hf, hok, hl⟩, hbw, ⟨hbw.size, l0, fun g hg _ _ => hbw.block g hg, .of_below hbw, hbw.mono hB⟩⟩
  rw [row_same kb] at hg
  exact l1 g (hbb.2.2 g hg) (f3 g hg)
theorem Duo.set {B : Nat} {own : Nat → Nat} {t b m br N : Nat} {F : Fw} {A : List (List Int)} {o : Bool} {w : World} (h : Duo B own t b m br N F A o w) {g j : Nat} {u : Value} {cells : Array Value} {ty : TypeId} (hg : w.heap[g]? = some (Obj.cells cells ty (0, 0))) (hty : ty ≠ 3) (h1 : own g ≠ t) (h2 : own g ≠ t + 1) : Duo B own t b m br N F A o (w.setCell ⟨g, j, none⟩ u) := by
  obtain ⟨f1, f2, f3⟩ := FwR.facts h.fw
  obtain ⟨r1, r2⟩ := RfR.facts h.rf
  have hk : ∀ i, own i = t ∨ own i = t + 1 → (w.setCell ⟨g, j, none⟩ u).heap[i]? = w.heap[i]? := fun i hi => Below.heap_setCell w ⟨g, j, none⟩ u i (fun e => by
    have e' : i = g := e
    rw [e'] at hi
    rcases hi with hi | hi
    · exact h1 hi
    · exact h2 hi)
  have kb := hk b (.inl h.lb)
  have kr := hk br (.inr h.lr)
  refine ⟨fw_move h.fw (by simp) (.setCell hg hty) kb (hk m (.inl h.lm)) (fun i hi => hk i (.inl (h.lv i hi))), rf_move h.rf (fun i _ hi => hk i (.inr hi)) kr (fun _ _ hi => hi), h.lb, h.lm, fun i hi => ?_, h.lr, fun i hi => ?_, h.sr, h.ok, h.la⟩
  · rw [row_same kb] at hi; exact h.lv i hi
  · rw [row_same kr] at hi; exact h.lq i hi
def smallCs : List (List Int) := [[1, 2], [-1, 2], [1, -2], [-1, -2]]
theorem small_any (w : World) : Calls Tryz.prog 16 #[] w fun e w' => ∃ A c, e = .returned (.agg #[.int .i64 2, .slice A smallCs.length c]) ∧ smallCs.length ≤ c ∧ Kd.C kL w' A smallCs.length smallCs ∧ Below w.heap.size w w' := by
  refine (depotlaw11_small.calls 2 smallCs w rfl).mono fun e w' h => ?_
  obtain ⟨v, rfl, hN, hb⟩ := h
  obtain ⟨A, c, rfl⟩ := Kd.N_slice hN
  exact ⟨A, c, rfl, (Kd.N_reads' hN).2.1, (Kd.N_reads' hN).2.2, hb⟩
theorem small_formed : formedB 2 smallCs = true := by decide
theorem small_ok : RfOk smallCs := ⟨by decide, by decide, by decide⟩
theorem ok_of {v : Int} {cs : List (List Int)} (hf : formedB v cs = true) (hl : cs.length ≤ 1048576) (h8 : ∀ c ∈ cs, c.length ≤ 1048576) : RfOk cs := ⟨by omega, fun c hc => by have := h8 c hc; omega, fun c hc x hx => (formed_mem hf c hc x hx).1⟩
end Go.Proofs.YtcaoobdbgdldaaaGreatDoor.Sc
