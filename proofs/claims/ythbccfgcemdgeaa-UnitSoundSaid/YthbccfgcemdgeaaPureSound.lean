/- UnitSound as a plain statement: the law's plain function answers true. -/
import Derived.Test.YthbccfgcemdgeaaLawA
import Derived.Test.YthbccfgcemdgeaaP13
namespace Go.Proofs.Ythbccfgcemdgeaa.Pure
open Go.RowKit Go.Proofs.Ythbccfgcemdgeaa.P Go.Proofs.Ythbccfgcemdgeaa.Lit Go.Proofs.Ythbccfgcemdgeaa.Spr Go.Proofs.Ythbccfgcemdgeaa.Rf Go.Proofs.YthbccfgcemdgeaaW.PrintWords Go.Proofs.YthbccfgcemdgeaaW.PrintLast

theorem sound_facts (L F : List Int) (hL : L.length < 9223372036854775807) (hF : F.length < 9223372036854775807) (h : ∀ x ∈ F, x ∈ L) : ∀ (d n : Nat), F.length - n = d → n ≤ F.length → Ev (fun k => depotlaw06_UnitSound.l1 k F L (n : Int)) true := by
  intro d
  induction d with
  | zero =>
    intro n hd hn
    refine Ev.step (f := fun _ => some true) (fun k => ?_) (Ev.now _)
    simp only [depotlaw06_UnitSound.l1]
    rw [if_neg (by omega)]
  | succ d ih =>
    intro n hd hn
    have hlt : n < F.length := by omega
    have hm := h _ (get_mem 0 hlt)
    have hc : L.contains (F.getD n 0) = true := by simpa using hm
    refine Ev.step (fun k => ?_) (Ev.bind (hasInt L (F.getD n 0) hL) (f := fun k t => if t = true then depotlaw06_UnitSound.l1 k F L ((n + 1 : Nat) : Int) else some false) ?_)
    · simp only [depotlaw06_UnitSound.l1]
      rw [if_pos (by omega), if_pos (by omega), rd_nat, wrap_nat (n := n) (by omega)]
    · exact Ev.congr (fun k => by rw [if_pos hc]) (ih (n + 1) (by omega) (by omega))
theorem sound_lits (v : Int) (cs : List (List Int)) (m : List Bool) (L F : List Int) (_ : 0 ≤ v) (hm : m.length ≤ 1048576) (hv : (m.length : Int) = v) (hL : L.length < 9223372036854775807) (hw : ∀ x ∈ L, win v x = true ∧ mk m x = true) (hend : Ev (fun k => depotlaw06_UnitSound.l1 k F L ((0 : Nat) : Int)) true) : ∀ (d n : Nat), L.length - n = d → n ≤ L.length → Ev (fun k => depotlaw06_UnitSound.l0 k F m L (n : Int) v cs) true := by
  intro d
  induction d with
  | zero =>
    intro n hd hn
    refine Ev.step (fun k => ?_) hend
    simp only [depotlaw06_UnitSound.l0]
    rw [if_neg (by omega)]; rfl
  | succ d ih =>
    intro n hd hn
    have hlt : n < L.length := by omega
    obtain ⟨h1, h2⟩ := hw _ (get_mem 0 hlt)
    have h3 := win_true h1
    have hmk := makes06 m _ hm (by rw [hv]; exact h1)
    have hwr : wrap64 (-v) = -v := by unfold wrap64; omega
    refine Ev.step (fun k => ?_) (ih (n + 1) (by omega) (by omega))
    simp only [depotlaw06_UnitSound.l0]
    rw [if_pos (by omega), if_pos (by omega), rd_nat, hwr, if_neg h3.1, if_neg (by omega), if_neg (by omega), hmk, h2, Option.bind_some, if_pos rfl, wrap_nat (n := n) (by omega)]

theorem UnitSound (v : Int) (cs : List (List Int)) (F : List Int) (m : List Bool) (h24 : cs.length * 24 ≤ 140737488351232) (h8 : ∀ x ∈ cs, x.length * 8 ≤ 140737488351232) (hF8 : F.length * 8 ≤ 140737488351232) (_ : m.length ≤ 140737488351232) : ∃ k, depotlaw06_UnitSound.f k v cs F m = some true := by
  have h82 : ∀ x ∈ cs, x.length ≤ 17592186044416 := fun x hx => by have := h8 x hx; omega
  have h83 : ∀ x ∈ cs, x.length < 9223372036854775807 := fun x hx => by have := h8 x hx; omega
  have hj : Ev (fun k => depotlaw06_UnitSound.j0 k F m true v cs) true := Ev.step (f := fun _ => some true) (fun k => by simp only [depotlaw06_UnitSound.j0]; rw [if_pos trivial]) (Ev.now _)
  refine Ev.rounds ?_
  unfold depotlaw06_UnitSound.f
  refine Ev.bind awake06 (Ev.congr (fun k => if_pos rfl) ?_)
  refine Ev.bind (shaped06 v cs (by omega) h83) ?_
  by_cases hs : formedB v cs = true
  · refine Ev.congr (fun k => if_pos hs) ?_
    have hr := formed_range hs
    have hcw := formed_win hs
    by_cases hm : (m.length : Int) = v
    · refine Ev.congr (fun k => if_pos hm) (Ev.bind (within06 F v hr.1 hr.2 (by omega)) ?_)
      by_cases hF : F.all (win v) = true
      · refine Ev.congr (fun k => if_pos hF) ?_
        have hFw := List.all_eq_true.1 hF
        refine Ev.bind (sat06 m (by omega) v cs F (by rw [hm]; exact hFw) (by rw [hm]; exact hcw) (by omega) (by omega) h83) ?_
        by_cases hsat : satB cs F m = true
        · rw [hsat]
          have hsat2 := hsat
          unfold satB at hsat2
          rw [Bool.and_eq_true] at hsat2
          have hFm := List.all_eq_true.1 hsat2.1
          have hCm : ∀ c ∈ cs, ∃ x ∈ c, mk m x = true := fun c hc => List.any_eq_true.1 (List.all_eq_true.1 hsat2.2 c hc)
          have hc0 : ∀ c ∈ cs, ∀ x ∈ c, x ≠ 0 := fun c hc x hx => (win_true (hcw c hc x hx)).1
          have hF0 : ∀ x ∈ F, x ≠ 0 := fun x hx => (win_true (hFw x hx)).1
          have hfmC : ∀ c ∈ cs, ∀ x ∈ c, fm x = true := fun c hc x hx => by have := hcw c hc x hx; rw [win_fm hr.2, Bool.and_eq_true] at this; exact this.1
          have hfmF : ∀ x ∈ F, fm x = true := fun x hx => by have := hFw x hx; rw [win_fm hr.2, Bool.and_eq_true] at this; exact this.1
          have hask : askedI v cs F = 0 := by unfold askedI; rw [hs, List.all_eq_true.2 hfmF]; rfl
          obtain ⟨p1, p2⟩ := closed_up cs F hfmF hfmC
          have hno := model_no_clash hFm hF0 hc0 hCm
          have hy : (closedSt cs F).2 = true := by
            cases he : (closedSt cs F).2 with
            | true => rfl
            | false => exact absurd (p2 he) hno
          obtain ⟨_, _, hT, _, _⟩ := p1 hy
          have hcl : closeR v cs F = (tidyL (closedSt cs F).1.trail, false, 0) := by unfold closeR; rw [hask, if_pos rfl, if_pos hy]
          have hlen : (tidyL (closedSt cs F).1.trail).length < 9223372036854775807 := by have := tidy_len (closedSt cs F).1.trail; omega
          have hmem : ∀ x, x ∈ tidyL (closedSt cs F).1.trail ↔ UP cs F x ∧ fm x = true := fun x => by rw [mem_tidy, hT x]
          refine Ev.step (fun k => by simp only [depotlaw06_UnitSound.j0]; rw [if_neg (by decide)]) ?_
          refine Ev.bind (copyFormula v cs (by omega) h82) (Ev.bind (copyInts F (by omega)) ?_)
          refine Ev.bind (a := closeR v cs F) (Ev.congr (fun k => closeI v (fits h24 h8 hF8)) (Ev.now _)) ?_
          rw [hcl]
          refine Ev.congr (fun k => if_pos rfl) (Ev.step (fun k => by simp only [depotlaw06_UnitSound.j1]; rw [if_neg (by decide)]) ?_)
          refine sound_lits v cs m _ F hr.1 (by omega) hm hlen (fun x hx => ?_) (sound_facts _ F hlen (by omega) (fun x hx => (hmem x).2 ⟨.fact hx, hfmF x hx⟩) _ 0 rfl (by omega)) _ 0 rfl (by omega)
          have hu := ((hmem x).1 hx).1
          exact ⟨hu.of (P := fun x => win v x = true) hFw hcw, model_up hFm hc0 hCm hu⟩
        · rw [Bool.eq_false_iff.2 hsat]; exact hj
      · exact Ev.congr (fun k => if_neg hF) hj
    · exact Ev.congr (fun k => if_neg hm) hj
  · exact Ev.congr (fun k => if_neg hs) hj

end Go.Proofs.Ythbccfgcemdgeaa.Pure
