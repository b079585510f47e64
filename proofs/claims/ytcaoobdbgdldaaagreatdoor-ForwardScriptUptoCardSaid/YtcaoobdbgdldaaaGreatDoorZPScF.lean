/- Part of the proof of ForwardScript: what the law uses of the text ScF. -/
import Derived.Test.YtcaoobdbgdldaaaGreatDoorZPScS
import Derived.Test.YtcaoobdbgdldaaaGreatDoorZPScX
namespace Go.Proofs.YtcaoobdbgdldaaaGreatDoor.Sc
open Go.RowKit Go.Proofs.YtcaoobdbgdldaaaGreatDoor.Lit Go.Proofs.YtcaoobdbgdldaaaGreatDoor.Spr Go.Proofs.YtcaoobdbgdldaaaGreatDoor.P Go.Proofs.YtcaoobdbgdldaaaGreatDoor.Rf Go.Proofs.YtcaoobdbgdldaaaGreatDoor.Rfw Go.Proofs.YtcaoobdbgdldaaaGreatDoor.Cl Go.Proofs.YtcaoobdbgdldaaaGreatDoorW.PrintWords Go.Proofs.YtcaoobdbgdldaaaGreatDoorW.PrintLast
open Go.Proofs.YtcaoobdbgdldaaaGreatDoor.Fwd (Fw FwR FwV KeepI KeepT KeepO rowOf rowOf_blk MapR)
set_option linter.unusedVariables false
set_option linter.unusedSimpArgs false

theorem fw_move {w0 w w1 : World} {B b m N : Nat} {F : Fw} (h : FwR w0 B b m N F w) (hs : w.heap.size ≤ w1.heap.size) (hi : KeepI w w1) (hb : w1.heap[b]? = w.heap[b]?) (hm : w1.heap[m]? = w.heap[m]?) (hv : ∀ g, rowOf 1 w b = some g → w1.heap[g]? = w.heap[g]?) : FwR w1 B b m N F w1 := by
  obtain ⟨v, h⟩ := h
  obtain ⟨D, ⟨es, clock, h1, h2⟩, h3⟩ := h.map
  exact ⟨v, hb.trans h.blk, ⟨D, ⟨es, clock, hm.trans h1, h2⟩, h3⟩, h.all.keep hi (fun g hg => hv g (by rw [rowOf_blk h.blk]; exact hg)), Below.refl _ _, h.hb, h.hm, Nat.le_trans h.hw hs, h.ok, .refl _, .refl _ _ _ _⟩
theorem rf_move {O O' : Nat → Prop} {w0 w w1 : World} {B b : Nat} {A : List (List Int)} {o : Bool} (h : RfR O w0 B b A o w) (hk : ∀ g, g < w.heap.size → O g → w1.heap[g]? = w.heap[g]?) (hb : w1.heap[b]? = w.heap[b]?) (hO : ∀ g, g < w.heap.size → O g → O' g) : RfR O' w1 B b A o w1 := by
  obtain ⟨Ad, c, h1, h2, h3, h4, h5⟩ := h
  refine ⟨Ad, c, hb.trans h1, Kd.N_mono (Kd.N_step (Kd.N_bound h2) (fun g hg hl => hk g hl hg.1.1)) (fun g hg => ⟨hO g hg.2 hg.1.1, hg.1.2⟩), Below.refl _ _, h4, .refl _ _ _ _⟩
theorem keepI_of {w w1 : World} (h : KeepT w w1) : KeepI w w1 := fun g cells e => h g cells _ (by decide) (by decide) e
theorem keepI_rf {O : Nat → Prop} {w0 w w1 : World} {B b : Nat} {A : List (List Int)} {o : Bool} (h : RfR O w0 B b A o w) (hk : KeepO 0 b b w w1) : KeepI w w1 := fun g cells e => by
  obtain ⟨Ad, c, h1, h2, _⟩ := h
  have hg : g < w.heap.size := (Array.getElem?_eq_some_iff.1 e).1
  have n1 : g ≠ b := by
    rintro rfl
    rw [h1] at e
    injection e with e
    injection e with _ e
    exact absurd e (by decide)
  have n2 : some g ≠ rowOf 0 w b := by
    rw [rowOf_blk h1]
    intro e2
    obtain ⟨cells', e3⟩ := Kd.N_typed h2 g e2.symm
    rw [e3] at e
    injection e with e
    injection e with _ e
    exact absurd e (by decide)
  rw [hk.keep g hg n1 n1 n2]; exact e
structure Duo (B : Nat) (own : Nat → Nat) (t b m br N : Nat) (F : Fw) (A : List (List Int)) (o : Bool) (w : World) : Prop where
  fw : FwR w B b m N F w
  rf : RfR (fun k => own k = t + 1) w B br A o w
  lb : own b = t
  lm : own m = t
  lv : ∀ g, rowOf 1 w b = some g → own g = t
  lr : own br = t + 1
  lq : ∀ g, rowOf 0 w br = some g → own g = t + 1
  sr : SRel F A o
  ok : RfOk A
  la : A.length ≤ N
structure Eff (t : Nat) (B : Nat) (own own' : Nat → Nat) (w w1 : World) : Prop where
  size : w.heap.size ≤ w1.heap.size
  same : ∀ g, g < w.heap.size → own' g = own g
  keep : ∀ g, g < w.heap.size → own g ≠ t → own g ≠ t + 1 → w1.heap[g]? = w.heap[g]?
  ints : KeepI w w1
  below : Below B w w1
theorem Eff.trans {t B : Nat} {p q r : Nat → Nat} {x y z : World} (h : Eff t B p q x y) (k : Eff t B q r y z) : Eff t B p r x z :=
  ⟨Nat.le_trans h.size k.size, fun g hg => (k.same g (Nat.lt_of_lt_of_le hg h.size)).trans (h.same g hg), fun g hg n1 n2 => (k.keep g (Nat.lt_of_lt_of_le hg h.size) (by rw [h.same g hg]; exact n1) (by rw [h.same g hg]; exact n2)).trans (h.keep g hg n1 n2), KeepI.trans h.ints k.ints, h.below.trans k.below⟩
theorem Eff.of_below {t B : Nat} {own : Nat → Nat} {w w1 : World} (hb : Below w.heap.size w w1) (hB : B ≤ w.heap.size) : Eff t B own own w w1 :=
  ⟨hb.size, fun _ _ => rfl, fun g hg _ _ => hb.block g hg, .of_below hb, hb.mono hB⟩
theorem FwR.facts {w0 w : World} {B b m N : Nat} {F : Fw} (h : FwR w0 B b m N F w) : b < w.heap.size ∧ m < w.heap.size ∧ ∀ g, rowOf 1 w b = some g → g < w.heap.size := by
  obtain ⟨v, h⟩ := h
  obtain ⟨es, clock, e⟩ := h.map.lt
  refine ⟨(Array.getElem?_eq_some_iff.1 h.blk).1, (Array.getElem?_eq_some_iff.1 e).1, fun g hg => ?_⟩
  rw [rowOf_blk h.blk] at hg
  obtain ⟨_, cells, e2⟩ := h.all.typed g hg
  exact (Array.getElem?_eq_some_iff.1 e2).1
theorem RfR.facts {O : Nat → Prop} {w0 w : World} {B b : Nat} {A : List (List Int)} {o : Bool} (h : RfR O w0 B b A o w) : b < w.heap.size ∧ ∀ g, rowOf 0 w b = some g → g < w.heap.size := by
  obtain ⟨Ad, c, h1, h2, _⟩ := h
  refine ⟨(Array.getElem?_eq_some_iff.1 h1).1, fun g hg => ?_⟩
  rw [rowOf_blk h1] at hg
  obtain ⟨cells, e2⟩ := Kd.N_typed h2 g hg
  exact (Array.getElem?_eq_some_iff.1 e2).1
theorem row_same {i : Nat} {w w1 : World} {b : Nat} (h : w1.heap[b]? = w.heap[b]?) : rowOf i w1 b = rowOf i w b := by unfold rowOf; rw [h]
theorem Duo.other {B : Nat} {own own' : Nat → Nat} {s t b m br N : Nat} {F : Fw} {A : List (List Int)} {o : Bool} {w w1 : World} (h : Duo B own s b m br N F A o w) (he : Eff t B own own' w w1) (h1 : s ≠ t) (h2 : s ≠ t + 1) (h3 : s + 1 ≠ t) : Duo B own' s b m br N F A o w1 := by
  obtain ⟨f1, f2, f3⟩ := FwR.facts h.fw
  obtain ⟨r1, r2⟩ := RfR.facts h.rf
  have kb := he.keep b f1 (by rw [h.lb]; exact h1) (by rw [h.lb]; exact h2)
  have km := he.keep m f2 (by rw [h.lm]; exact h1) (by rw [h.lm]; exact h2)
  have kr := he.keep br r1 (by rw [h.lr]; exact h3) (by rw [h.lr]; omega)
  refine ⟨fw_move h.fw he.size he.ints kb km (fun g hg => he.keep g (f3 g hg) (by rw [h.lv g hg]; exact h1) (by rw [h.lv g hg]; exact h2)), rf_move h.rf (fun g hg hl => he.keep g hg (by rw [hl]; exact h3) (by rw [hl]; omega)) kr (fun g hg hl => (he.same g hg).trans hl), ?_, ?_, ?_, ?_, ?_, h.sr, h.ok, h.la⟩
  · rw [he.same b f1]; exact h.lb
  · rw [he.same m f2]; exact h.lm
  · intro g hg
    rw [row_same kb] at hg
    rw [he.same g (f3 g hg)]; exact h.lv g hg
  · rw [he.same br r1]; exact h.lr
  · intro g hg
    rw [row_same kr] at hg
    rw [he.same g (r2 g hg)]; exact h.lq g hg
def lab (own : Nat → Nat) (n t : Nat) : Nat → Nat := fun g => if g < n then own g else t
theorem lab_old (own : Nat → Nat) (n t : Nat) {g : Nat} (h : g < n) : lab own n t g = own g := if_pos h
theorem lab_new (own : Nat → Nat) (n t : Nat) {g : Nat} (h : n ≤ g) : lab own n t g = t := if_neg (by omega)
theorem eff_fw {B t b m N N' : Nat} {own : Nat → Nat} {F G : Fw} {w w1 : World} (h : FwR w B b m N F w) (h' : FwR w B b m N' G w1) (lb : own b = t) (lm : own m = t) (lv : ∀ g, rowOf 1 w b = some g → own g = t) : Eff t B own (lab own w.heap.size t) w w1 ∧ (∀ g, rowOf 1 w1 b = some g → lab own w.heap.size t g = t) ∧ ∀ g, g < w.heap.size → own g ≠ t → w1.heap[g]? = w.heap[g]? := by
  have hk := FwR.ko h'
  have hkp : ∀ g, g < w.heap.size → own g ≠ t → w1.heap[g]? = w.heap[g]? := fun g hg n => hk.keep g hg (fun e => n (by rw [e]; exact lb)) (fun e => n (by rw [e]; exact lm)) (fun e => n (lv g e.symm))
  refine ⟨⟨hk.size, fun g hg => lab_old _ _ _ hg, fun g hg n1 _ => hkp g hg n1, keepI_of (FwR.kp h'), FwR.base h'⟩, fun g hg => ?_, hkp⟩
  rcases hk.row g hg with e | e
  · by_cases hl : g < w.heap.size
    · rw [lab_old _ _ _ hl]; exact lv g e
    · exact lab_new _ _ _ (by omega)
  · exact lab_new _ _ _ e
theorem eff_rf {B t b : Nat} {O O' : Nat → Prop} {own : Nat → Nat} {A A' : List (List Int)} {o o' : Bool} {w w1 : World} (h : RfR O w B b A o w) (h' : RfR O' w B b A' o' w1) (lb : own b = t + 1) (lv : ∀ g, rowOf 0 w b = some g → own g = t + 1) : Eff t B own (lab own w.heap.size (t + 1)) w w1 ∧ (∀ g, rowOf 0 w1 b = some g → lab own w.heap.size (t + 1) g = t + 1) ∧ ∀ g, g < w.heap.size → own g ≠ t + 1 → w1.heap[g]? = w.heap[g]? := by
  have hk := h'.ko
  have hkp : ∀ g, g < w.heap.size → own g ≠ t + 1 → w1.heap[g]? = w.heap[g]? := fun g hg n => hk.keep g hg (fun e => n (by rw [e]; exact lb)) (fun e => n (by rw [e]; exact lb)) (fun e => n (lv g e.symm))
  refine ⟨⟨hk.size, fun g hg => lab_old _ _ _ hg, fun g hg _ n2 => hkp g hg n2, keepI_rf h hk, h'.base⟩, fun g hg => ?_, hkp⟩
  rcases hk.row g hg with e | e
  · by_cases hl : g < w.heap.size
    · rw [lab_old _ _ _ hl]; exact lv g e
    · exact lab_new _ _ _ (by omega)
  · exact lab_new _ _ _ e
end Go.Proofs.YtcaoobdbgdldaaaGreatDoor.Sc
