/- Part of the proof of TrimRight: what the law uses of the text RefA. -/
import Derived.Test.YtfljggodnnpeiaaZREvA
import Derived.Test.YtfljggodnnpeiaaZRJP5
namespace Go.Proofs.Ytfljggodnnpeiaa.Rf
open Go.RowKit Go.Proofs.Ytfljggodnnpeiaa.P Go.Proofs.Ytfljggodnnpeiaa.Lit Go.Proofs.Ytfljggodnnpeiaa.Spr Go.Proofs.YtfljggodnnpeiaaW.PrintWords Go.Proofs.YtfljggodnnpeiaaW.PrintLast

theorem formed01 (a : Int) : depotref01_Formed.f a = some (fm a) := by
  unfold depotref01_Formed.f fm
  by_cases h1 : a ≥ 1
  · rw [if_pos h1]
    by_cases h2 : a ≤ 1048576
    · rw [if_pos h2, decide_eq_true (by omega)]
    · rw [if_neg h2, if_pos (by omega), decide_eq_false (by omega), decide_eq_false (by omega)]
  · rw [if_neg h1]
    by_cases h2 : a ≥ -1048576
    · rw [if_pos h2]
      by_cases h3 : a ≤ -1
      · rw [decide_eq_true h3, decide_eq_true (by omega)]
      · rw [decide_eq_false h3, decide_eq_false (by omega)]
    · rw [if_neg h2, decide_eq_false (by omega)]
theorem sound01_l (l : List Int) (hl : l.length < 9223372036854775807) : ∀ (d n : Nat), l.length - n = d → n ≤ l.length → Ev (fun k => depotref01_Sound.l0 k l (n : Int)) ((l.drop n).all fm) := by
  intro d
  induction d with
  | zero =>
    intro n hd hn
    have : l.drop n = [] := List.drop_eq_nil_of_le (by omega)
    rw [this]
    refine Ev.step (f := fun _ => some true) (fun k => ?_) (Ev.now _)
    simp only [depotref01_Sound.l0]
    rw [if_neg (by omega)]
  | succ d ih =>
    intro n hd hn
    have hlt : n < l.length := by omega
    rw [drop_get 0 hlt, List.all_cons]
    by_cases hf : fm (l.getD n 0) = true
    · rw [hf, Bool.true_and]
      refine Ev.step (fun k => ?_) (ih (n + 1) (by omega) (by omega))
      simp only [depotref01_Sound.l0]
      rw [if_pos (by omega), if_pos (by omega), rd_nat, formed01, hf, Option.bind_some, if_pos rfl, wrap_nat (by omega)]
    · rw [Bool.eq_false_iff.2 hf, Bool.false_and]
      refine Ev.step (f := fun _ => some false) (fun k => ?_) (Ev.now _)
      simp only [depotref01_Sound.l0]
      rw [if_pos (by omega), if_pos (by omega), rd_nat, formed01, Bool.eq_false_iff.2 hf, Option.bind_some, if_neg (by decide)]
theorem sound01 (l : List Int) (hl : l.length < 9223372036854775807) : Ev (fun k => depotref01_Sound.f k l) (l.all fm) := by
  simpa [depotref01_Sound.f] using sound01_l l hl _ 0 rfl (by omega)

theorem within02_l (l : List Int) (v : Int) (hf : ∀ x ∈ l, fm x = true) (hl : l.length < 9223372036854775807) : ∀ (d n : Nat), l.length - n = d → n ≤ l.length → Ev (fun k => depotref02_within.l0 k l v (n : Int)) ((l.drop n).all fun x => decide (lv x ≤ v)) := by
  intro d
  induction d with
  | zero =>
    intro n hd hn
    have : l.drop n = [] := List.drop_eq_nil_of_le (by omega)
    rw [this]
    refine Ev.step (f := fun _ => some true) (fun k => ?_) (Ev.now _)
    simp only [depotref02_within.l0]
    rw [if_neg (by omega)]
  | succ d ih =>
    intro n hd hn
    have hlt : n < l.length := by omega
    have hx := hf _ (get_mem 0 hlt)
    have hx2 := fm_true hx
    rw [drop_get 0 hlt, List.all_cons]
    generalize hg : l.getD n 0 = x at *
    have hw : wrap64 (-x) = -x := by unfold wrap64; omega
    have hlv : lv x = if x < 0 then -x else x := by unfold lv; rw [if_pos hx]
    by_cases h1 : lv x ≤ v
    · rw [decide_eq_true h1, Bool.true_and]
      refine Ev.step (fun k => ?_) (ih (n + 1) (by omega) (by omega))
      simp only [depotref02_within.l0]
      rw [if_pos (by omega), if_pos (by omega), rd_nat, hg, hw, if_neg (by split at hlv <;> omega), if_neg (by split at hlv <;> omega), wrap_nat (by omega)]
    · rw [decide_eq_false h1, Bool.false_and]
      refine Ev.step (f := fun _ => some false) (fun k => ?_) (Ev.now _)
      simp only [depotref02_within.l0]
      rw [if_pos (by omega), if_pos (by omega), rd_nat, hg, hw]
      by_cases h2 : x > v
      · rw [if_pos h2]
      · rw [if_neg h2, if_pos (by split at hlv <;> omega)]
theorem within02 (l : List Int) (v : Int) (hl : l.length < 9223372036854775807) : Ev (fun k => depotref02_within.f k l v) (withinB l v) := by
  unfold withinB depotref02_within.f
  refine Ev.bind (sound01 l hl) ?_
  by_cases hf : l.all fm = true
  · rw [hf, Bool.true_and]
    simpa using within02_l l v (List.all_eq_true.1 hf) hl _ 0 rfl (by omega)
  · rw [Bool.eq_false_iff.2 hf, Bool.false_and]
    exact Ev.congr (fun k => by rw [if_neg (by decide)]) (Ev.now _)
theorem formed02_l (v : Int) (cs : List (List Int)) (hl : cs.length < 9223372036854775807) (h8 : ∀ c ∈ cs, c.length < 9223372036854775807) : ∀ (d n : Nat), cs.length - n = d → n ≤ cs.length → Ev (fun k => depotref02_Formed.l0 k (n : Int) v cs) ((cs.drop n).all fun c => withinB c v) := by
  intro d
  induction d with
  | zero =>
    intro n hd hn
    have : cs.drop n = [] := List.drop_eq_nil_of_le (by omega)
    rw [this]
    refine Ev.step (f := fun _ => some true) (fun k => ?_) (Ev.now _)
    simp only [depotref02_Formed.l0]
    rw [if_neg (by omega)]
  | succ d ih =>
    intro n hd hn
    have hlt : n < cs.length := by omega
    rw [drop_get [] hlt, List.all_cons]
    refine Ev.step (fun k => ?_) (Ev.bind (within02 (cs.getD n []) v (h8 _ (get_mem [] hlt))) (f := fun k t => if t = true then depotref02_Formed.l0 k ((n + 1 : Nat) : Int) v cs else some false) ?_)
    · simp only [depotref02_Formed.l0]
      rw [if_pos (by omega), if_pos (by omega), rdL_nat, wrap_nat (by omega)]
    · by_cases h : withinB (cs.getD n []) v = true
      · rw [h, Bool.true_and]
        exact Ev.congr (fun k => by rw [if_pos rfl]) (ih (n + 1) (by omega) (by omega))
      · rw [Bool.eq_false_iff.2 h, Bool.false_and]
        exact Ev.congr (fun k => by rw [if_neg (by decide)]) (Ev.now _)
theorem formed02 (v : Int) (cs : List (List Int)) (hl : cs.length < 9223372036854775807) (h8 : ∀ c ∈ cs, c.length < 9223372036854775807) : Ev (fun k => depotref02_Formed.f k v cs) (formedB v cs) := by
  unfold depotref02_Formed.f formedB
  by_cases h0 : v < 0
  · rw [decide_eq_false (show ¬ 0 ≤ v by omega), Bool.false_and, Bool.false_and]
    refine Ev.step (f := fun _ => some false) (fun k => ?_) (Ev.now _)
    rw [if_pos h0]
    simp only [depotref02_Formed.j0]
    rw [if_pos trivial]
  · rw [decide_eq_true (show 0 ≤ v by omega), Bool.true_and]
    by_cases h1 : v > 1048576
    · rw [decide_eq_false (show ¬ v ≤ 1048576 by omega), Bool.false_and]
      refine Ev.step (f := fun _ => some false) (fun k => ?_) (Ev.now _)
      rw [if_neg h0, decide_eq_true h1]
      simp only [depotref02_Formed.j0]
      rw [if_pos trivial]
    · rw [decide_eq_true (show v ≤ 1048576 by omega), Bool.true_and]
      refine Ev.step (fun k => ?_) (show Ev (fun k => depotref02_Formed.l0 k ((0 : Nat) : Int) v cs) (cs.all fun c => withinB c v) from by simpa using formed02_l v cs hl h8 _ 0 rfl (by omega))
      rw [if_neg h0, decide_eq_false h1]
      simp only [depotref02_Formed.j0]
      rw [if_neg (by decide)]
      rfl

end Go.Proofs.Ytfljggodnnpeiaa.Rf
