/- Part of the proof of ForwardScript: what the law uses of the texts RefA, RefB, RefC, RefF, RefS. -/
import Derived.Test.YtcaoobdbgdldaaaGreatDoorZPEvA
import Derived.Test.YtcaoobdbgdldaaaGreatDoorZPP4
import Derived.Test.YtcaoobdbgdldaaaGreatDoorZPJP5
import Derived.Test.YtcaoobdbgdldaaaGreatDoorZPJUpA
import Derived.Test.YtcaoobdbgdldaaaGreatDoorZPJP9
namespace Go.Proofs.YtcaoobdbgdldaaaGreatDoor.Rf
open Go.RowKit Go.Proofs.YtcaoobdbgdldaaaGreatDoor.P Go.Proofs.YtcaoobdbgdldaaaGreatDoor.Lit Go.Proofs.YtcaoobdbgdldaaaGreatDoor.Spr Go.Proofs.YtcaoobdbgdldaaaGreatDoorW.PrintWords Go.Proofs.YtcaoobdbgdldaaaGreatDoorW.PrintLast

theorem formed01 (a : Int) : depotref01_Formed.f a = some (fm a) := by
  unfold depotref01_Formed.f fm
  by_cases h1 : a ≥ 1
  · rw [if_pos h1]
    by_cases h2 : a ≤ 1048576
    · rw [if_pos h2, decide_eq_true (by omega)]
    · rw [if_neg h2, if_pos (by omega), decide_eq_false (by omega), decide_eq_false (by omega)]
  · rw [if_neg h1]
    by_cases h2 : a ≥ -1048576
    · rw [if_pos h2]
      by_cases h3 : a ≤ -1
      · rw [decide_eq_true h3, decide_eq_true (by omega)]
      · rw [decide_eq_false h3, decide_eq_false (by omega)]
    · rw [if_neg h2, decide_eq_false (by omega)]
theorem sound01_l (l : List Int) (hl : l.length < 9223372036854775807) : ∀ (d n : Nat), l.length - n = d → n ≤ l.length → Ev (fun k => depotref01_Sound.l0 k l (n : Int)) ((l.drop n).all fm) := by
  intro d
  induction d with
  | zero =>
    intro n hd hn
    have : l.drop n = [] := List.drop_eq_nil_of_le (by omega)
    rw [this]
    refine Ev.step (f := fun _ => some true) (fun k => ?_) (Ev.now _)
    simp only [depotref01_Sound.l0]
    rw [if_neg (by omega)]
  | succ d ih =>
    intro n hd hn
    have hlt : n < l.length := by omega
    rw [drop_get 0 hlt, List.all_cons]
    by_cases hf : fm (l.getD n 0) = true
    · rw [hf, Bool.true_and]
      refine Ev.step (fun k => ?_) (ih (n + 1) (by omega) (by omega))
      simp only [depotref01_Sound.l0]
      rw [if_pos (by omega), if_pos (by omega), rd_nat, formed01, hf, Option.bind_some, if_pos rfl, wrap_nat (by omega)]
    · rw [Bool.eq_false_iff.2 hf, Bool.false_and]
      refine Ev.step (f := fun _ => some false) (fun k => ?_) (Ev.now _)
      simp only [depotref01_Sound.l0]
      rw [if_pos (by omega), if_pos (by omega), rd_nat, formed01, Bool.eq_false_iff.2 hf, Option.bind_some, if_neg (by decide)]
theorem sound01 (l : List Int) (hl : l.length < 9223372036854775807) : Ev (fun k => depotref01_Sound.f k l) (l.all fm) := by
  simpa [depotref01_Sound.f] using sound01_l l hl _ 0 rfl (by omega)

theorem within02_l (l : List Int) (v : Int) (hf : ∀ x ∈ l, fm x = true) (hl : l.length < 9223372036854775807) : ∀ (d n : Nat), l.length - n = d → n ≤ l.length → Ev (fun k => depotref02_within.l0 k l v (n : Int)) ((l.drop n).all fun x => decide (lv x ≤ v)) := by
  intro d
  induction d with
  | zero =>
    intro n hd hn
    have : l.drop n = [] := List.drop_eq_nil_of_le (by omega)
    rw [this]
    refine Ev.step (f := fun _ => some true) (fun k => ?_) (Ev.now _)
    simp only [depotref02_within.l0]
    rw [if_neg (by omega)]
  | succ d ih =>
    intro n hd hn
    have hlt : n < l.length := by omega
    have hx := hf _ (get_mem 0 hlt)
    have hx2 := fm_true hx
    rw [drop_get 0 hlt, List.all_cons]
    generalize hg : l.getD n 0 = x at *
    have hw : wrap64 (-x) = -x := by unfold wrap64; omega
    have hlv : lv x = if x < 0 then -x else x := by unfold lv; rw [if_pos hx]
    by_cases h1 : lv x ≤ v
    · rw [decide_eq_true h1, Bool.true_and]
      refine Ev.step (fun k => ?_) (ih (n + 1) (by omega) (by omega))
      simp only [depotref02_within.l0]
      rw [if_pos (by omega), if_pos (by omega), rd_nat, hg, hw, if_neg (by split at hlv <;> omega), if_neg (by split at hlv <;> omega), wrap_nat (by omega)]
    · rw [decide_eq_false h1, Bool.false_and]
      refine Ev.step (f := fun _ => some false) (fun k => ?_) (Ev.now _)
      simp only [depotref02_within.l0]
      rw [if_pos (by omega), if_pos (by omega), rd_nat, hg, hw]
      by_cases h2 : x > v
      · rw [if_pos h2]
      · rw [if_neg h2, if_pos (by split at hlv <;> omega)]
theorem within02 (l : List Int) (v : Int) (hl : l.length < 9223372036854775807) : Ev (fun k => depotref02_within.f k l v) (withinB l v) := by
  unfold withinB depotref02_within.f
  refine Ev.bind (sound01 l hl) ?_
  by_cases hf : l.all fm = true
  · rw [hf, Bool.true_and]
    simpa using within02_l l v (List.all_eq_true.1 hf) hl _ 0 rfl (by omega)
  · rw [Bool.eq_false_iff.2 hf, Bool.false_and]
    exact Ev.congr (fun k => by rw [if_neg (by decide)]) (Ev.now _)
theorem formed02_l (v : Int) (cs : List (List Int)) (hl : cs.length < 9223372036854775807) (h8 : ∀ c ∈ cs, c.length < 9223372036854775807) : ∀ (d n : Nat), cs.length - n = d → n ≤ cs.length → Ev (fun k => depotref02_Formed.l0 k (n : Int) v cs) ((cs.drop n).all fun c => withinB c v) := by
  intro d
  induction d with
  | zero =>
    intro n hd hn
    have : cs.drop n = [] := List.drop_eq_nil_of_le (by omega)
    rw [this]
    refine Ev.step (f := fun _ => some true) (fun k => ?_) (Ev.now _)
    simp only [depotref02_Formed.l0]
    rw [if_neg (by omega)]
  | succ d ih =>
    intro n hd hn
    have hlt : n < cs.length := by omega
    rw [drop_get [] hlt, List.all_cons]
    refine Ev.step (fun k => ?_) (Ev.bind (within02 (cs.getD n []) v (h8 _ (get_mem [] hlt))) (f := fun k t => if t = true then depotref02_Formed.l0 k ((n + 1 : Nat) : Int) v cs else some false) ?_)
    · simp only [depotref02_Formed.l0]
      rw [if_pos (by omega), if_pos (by omega), rdL_nat, wrap_nat (by omega)]
    · by_cases h : withinB (cs.getD n []) v = true
      · rw [h, Bool.true_and]
        exact Ev.congr (fun k => by rw [if_pos rfl]) (ih (n + 1) (by omega) (by omega))
      · rw [Bool.eq_false_iff.2 h, Bool.false_and]
        exact Ev.congr (fun k => by rw [if_neg (by decide)]) (Ev.now _)
theorem formed02 (v : Int) (cs : List (List Int)) (hl : cs.length < 9223372036854775807) (h8 : ∀ c ∈ cs, c.length < 9223372036854775807) : Ev (fun k => depotref02_Formed.f k v cs) (formedB v cs) := by
  unfold depotref02_Formed.f formedB
  by_cases h0 : v < 0
  · rw [decide_eq_false (show ¬ 0 ≤ v by omega), Bool.false_and, Bool.false_and]
    refine Ev.step (f := fun _ => some false) (fun k => ?_) (Ev.now _)
    rw [if_pos h0]
    simp only [depotref02_Formed.j0]
    rw [if_pos trivial]
  · rw [decide_eq_true (show 0 ≤ v by omega), Bool.true_and]
    by_cases h1 : v > 1048576
    · rw [decide_eq_false (show ¬ v ≤ 1048576 by omega), Bool.false_and]
      refine Ev.step (f := fun _ => some false) (fun k => ?_) (Ev.now _)
      rw [if_neg h0, decide_eq_true h1]
      simp only [depotref02_Formed.j0]
      rw [if_pos trivial]
    · rw [decide_eq_true (show v ≤ 1048576 by omega), Bool.true_and]
      refine Ev.step (fun k => ?_) (show Ev (fun k => depotref02_Formed.l0 k ((0 : Nat) : Int) v cs) (cs.all fun c => withinB c v) from by simpa using formed02_l v cs hl h8 _ 0 rfl (by omega))
      rw [if_neg h0, decide_eq_false h1]
      simp only [depotref02_Formed.j0]
      rw [if_neg (by decide)]
      rfl

end Go.Proofs.YtcaoobdbgdldaaaGreatDoor.Rf

namespace Go.Proofs.YtcaoobdbgdldaaaGreatDoor.Rf
open Go.RowKit Go.Proofs.YtcaoobdbgdldaaaGreatDoor.P Go.Proofs.YtcaoobdbgdldaaaGreatDoor.Lit Go.Proofs.YtcaoobdbgdldaaaGreatDoor.Spr Go.Proofs.YtcaoobdbgdldaaaGreatDoorW.PrintWords Go.Proofs.YtcaoobdbgdldaaaGreatDoorW.PrintLast

theorem lv_of {l : Int} (h : fm l = true) : lv l = if l < 0 then -l else l := by unfold lv; rw [if_pos h]
theorem wrap_neg {x : Int} (h : -1048576 ≤ x) (h2 : x ≤ 1048576) : wrap64 (-x) = -x := by unfold wrap64; omega

theorem greatest_l (c : List Int) (hf : ∀ x ∈ c, fm x = true) (hl : c.length < 9223372036854775807) : ∀ (d n : Nat) (a : Int), c.length - n = d → n ≤ c.length → 0 ≤ a → a ≤ 1048576 →
    ∃ r, Ev (fun k => depotref06_greatest.l0 k c a (n : Int)) r ∧ a ≤ r ∧ r ≤ 1048576 ∧ ∀ x ∈ c.drop n, lv x ≤ r := by
  intro d
  induction d with
  | zero =>
    intro n a hd hn h0 h1
    have : c.drop n = [] := List.drop_eq_nil_of_le (by omega)
    refine ⟨a, Ev.step (f := fun _ => some a) (fun k => ?_) (Ev.now _), by omega, h1, by rw [this]; simp⟩
    simp only [depotref06_greatest.l0]
    rw [if_neg (by omega)]
  | succ d ih =>
    intro n a hd hn h0 h1
    have hlt : n < c.length := by omega
    have hx := hf _ (get_mem 0 hlt)
    have hx2 := fm_true hx
    have hlv := lv_of hx
    have hd2 := drop_get 0 hlt
    generalize hg : c.getD n 0 = x at *
    have hw := wrap_neg hx2.2.1 hx2.2.2
    obtain ⟨r, h2, h3, h4, h5⟩ := ih (n + 1) (if a < lv x then lv x else a) (by omega) (by omega) (by split <;> omega) (by split <;> (try split at hlv) <;> omega)
    refine ⟨r, Ev.step (fun k => ?_) h2, by split at h3 <;> omega, h4, fun y hy => ?_⟩
    · simp only [depotref06_greatest.l0]
      rw [if_pos (by omega), if_pos (by omega), rd_nat, hg, hw, wrap_nat (by omega)]
      by_cases e1 : x > a
      · rw [if_pos e1, if_neg (by omega)]
        congr 1
        split at hlv <;> split <;> omega
      · rw [if_neg e1]
        by_cases e2 : -x > a
        · rw [if_pos e2]
          congr 1
          split at hlv <;> split <;> omega
        · rw [if_neg e2]
          congr 1
          split at hlv <;> split <;> omega
    · rw [hd2] at hy
      rcases List.mem_cons.1 hy with e | hy
      · rw [e]; split at h3 <;> omega
      · exact h5 y hy
theorem greatest (c : List Int) (a : Int) (hf : ∀ x ∈ c, fm x = true) (hl : c.length < 9223372036854775807) (h0 : 0 ≤ a) (h1 : a ≤ 1048576) : ∃ r, Ev (fun k => depotref06_greatest.f k c a) r ∧ a ≤ r ∧ r ≤ 1048576 ∧ ∀ x ∈ c, lv x ≤ r := by
  simpa [depotref06_greatest.f] using greatest_l c hf hl _ 0 a rfl (by omega) h0 h1
theorem values_l (v : Int) (cs : List (List Int)) (hf : ∀ c ∈ cs, ∀ x ∈ c, fm x = true) (hl : cs.length < 9223372036854775807) (h8 : ∀ c ∈ cs, c.length < 9223372036854775807) : ∀ (d n : Nat) (a : Int), cs.length - n = d → n ≤ cs.length → 0 ≤ a → a ≤ 1048576 →
    ∃ m : Nat, Ev (fun k => depotref06_Values.l0 k a (n : Int) v cs) (List.replicate (m + 1) 0) ∧ a ≤ m ∧ m ≤ 1048576 ∧ ∀ c ∈ cs.drop n, ∀ x ∈ c, lv x ≤ m := by
  intro d
  induction d with
  | zero =>
    intro n a hd hn h0 h1
    have : cs.drop n = [] := List.drop_eq_nil_of_le (by omega)
    have hw : wrap64 (a + 1) = a + 1 := by unfold wrap64; omega
    refine ⟨a.toNat, Ev.step (f := fun _ => some (List.replicate (a.toNat + 1) 0)) (fun k => ?_) (Ev.now _), by omega, by omega, by rw [this]; simp⟩
    simp only [depotref06_Values.l0]
    rw [if_neg (by omega), hw, if_pos (by omega), if_pos (by omega)]
    congr 2
    omega
  | succ d ih =>
    intro n a hd hn h0 h1
    have hlt : n < cs.length := by omega
    have hm := get_mem [] hlt
    obtain ⟨g, g1, g2, g3, g4⟩ := greatest (cs.getD n []) a (hf _ hm) (h8 _ hm) h0 h1
    obtain ⟨m, h2, h3, h4, h5⟩ := ih (n + 1) g (by omega) (by omega) (by omega) g3
    refine ⟨m, Ev.step (fun k => ?_) (Ev.bind g1 (f := fun k t => depotref06_Values.l0 k t ((n + 1 : Nat) : Int) v cs) h2), by omega, h4, fun c hc x hx => ?_⟩
    · simp only [depotref06_Values.l0]
      rw [if_pos (by omega), if_pos (by omega), rdL_nat, wrap_nat (by omega)]
    · rw [drop_get [] hlt] at hc
      rcases List.mem_cons.1 hc with e | hc
      · rw [e] at hx; have := g4 x hx; omega
      · exact h5 c hc x hx
theorem values (v : Int) (cs : List (List Int)) (F : List Int) (hf : ∀ c ∈ cs, ∀ x ∈ c, fm x = true) (hF : ∀ x ∈ F, fm x = true) (hl : cs.length < 9223372036854775807) (h8 : ∀ c ∈ cs, c.length < 9223372036854775807) (hFl : F.length < 9223372036854775807) :
    ∃ m : Nat, Ev (fun k => depotref06_Values.f k v cs F) (List.replicate (m + 1) 0) ∧ m ≤ 1048576 ∧ (∀ c ∈ cs, ∀ x ∈ c, lv x ≤ m) ∧ ∀ x ∈ F, lv x ≤ m := by
  obtain ⟨g, g1, g2, g3, g4⟩ := greatest F 0 hF hFl (by omega) (by omega)
  obtain ⟨m, h2, h3, h4, h5⟩ := values_l v cs hf hl h8 _ 0 g rfl (by omega) g2 g3
  refine ⟨m, ?_, h4, by simpa using h5, fun x hx => by have := g4 x hx; omega⟩
  unfold depotref06_Values.f
  exact Ev.bind g1 h2

def vv (a : List Int) (l : Int) : Int := if lv l < a.length then (if l < 0 then -(a.getD (lv l).toNat 0) else a.getD (lv l).toNat 0) else 0
structure Vs (a : List Int) : Prop where
  len : a.length ≤ 1048577
  rng : ∀ i, -1 ≤ a.getD i 0 ∧ a.getD i 0 ≤ 1
theorem value (a : List Int) (ha : Vs a) (l : Int) (hl : fm l = true) : depotref06_Value.f a l = some (vv a l) := by
  have h1 := fm_true hl
  have hlv := lv_of hl
  have hw := wrap_neg h1.2.1 h1.2.2
  unfold depotref06_Value.f vv
  by_cases h0 : l < 0
  · rw [if_pos h0] at hlv
    have hr := ha.rng (-l).toNat
    have hw2 : wrap64 (-(a.getD (-l).toNat 0)) = -(a.getD (-l).toNat 0) := wrap_neg (by omega) (by omega)
    rw [if_pos h0, hw, hlv]
    by_cases h2 : -l < (a.length : Int)
    · rw [if_pos h2, if_pos (by omega), if_pos h2, if_pos h0]
      unfold rd
      rw [hw2]
    · rw [if_neg h2, if_neg h2]
  · rw [if_neg h0] at hlv
    rw [if_neg h0, hlv]
    by_cases h2 : l < (a.length : Int)
    · rw [if_pos h2, if_pos (by omega), if_pos h2, if_neg h0]; rfl
    · rw [if_neg h2, if_neg h2]
theorem vv_neg (a : List Int) {l : Int} (hl : fm l = true) : vv a (-l) = -vv a l := by
  have h1 := fm_true hl
  unfold vv
  rw [lv_neg hl]
  split
  · by_cases h0 : l < 0
    · rw [if_neg (by omega), if_pos h0]; omega
    · rw [if_pos (by omega), if_neg h0]
  · rfl
theorem vv_cases {a : List Int} (ha : Vs a) (l : Int) : vv a l = 1 ∨ vv a l = -1 ∨ vv a l = 0 := by
  unfold vv
  have := ha.rng (lv l).toNat
  split
  · split <;> omega
  · omega
def putV (a : List Int) (l : Int) : List Int := a.set (lv l).toNat (if l < 0 then -1 else 1)
theorem put_v (a : List Int) (l : Int) (hl : fm l = true) (hin : lv l < a.length) : Ev (fun k => depotref06_Put.f k a l) (putV a l) := by
  have h1 := fm_true hl
  have hlv := lv_of hl
  have hw := wrap_neg h1.2.1 h1.2.2
  unfold depotref06_Put.f putV
  by_cases h0 : l < 0
  · rw [if_pos h0] at hlv
    refine Ev.step (f := fun _ => some (a.set (lv l).toNat (if l < 0 then -1 else 1))) (fun k => ?_) (Ev.now _)
    rw [if_pos h0, hw, decide_eq_true (by omega)]
    simp only [depotref06_Put.j0]
    rw [if_pos trivial, hw, if_pos (by omega), if_pos (by omega), Option.bind_some, if_neg (by omega), hlv, if_pos h0]
  · rw [if_neg h0] at hlv
    refine Ev.step (f := fun _ => some (a.set (lv l).toNat (if l < 0 then -1 else 1))) (fun k => ?_) (Ev.now _)
    rw [if_neg h0]
    simp only [depotref06_Put.j0]
    rw [if_neg (by decide), if_pos (by omega), if_pos (by omega), if_pos (by omega), hlv, if_neg h0]
theorem putV_vs {a : List Int} (ha : Vs a) (l : Int) : Vs (putV a l) := by
  refine ⟨by unfold putV; rw [List.length_set]; exact ha.len, fun i => ?_⟩
  unfold putV
  rw [List.getD_eq_getElem?_getD, List.getElem?_set]
  split
  · split
    · split <;> simp
    · simp
  · have := ha.rng i
    rw [List.getD_eq_getElem?_getD] at this
    exact this
theorem vv_put {a : List Int} {l x : Int} (hl : fm l = true) (hx : fm x = true) (hin : lv l < a.length) : vv (putV a l) x = if x = l then 1 else if x = -l then -1 else vv a x := by
  have h1 := fm_true hl
  have h2 := fm_true hx
  have hp := lv_pos hl
  unfold vv putV
  rw [List.length_set]
  by_cases he : lv x = lv l
  · rw [he, if_pos hin, List.getD_eq_getElem?_getD, List.getElem?_set_self (by omega), Option.getD_some]
    rcases lv_eq hl hx he with e | e
    · subst e
      rw [if_pos rfl]
      split <;> rfl
    · subst e
      have hne : ¬ (-l = l) := by omega
      rw [if_neg hne, if_pos rfl]
      by_cases h0 : l < 0
      · rw [if_neg (show ¬ (-l) < 0 by omega), if_pos h0]
      · rw [if_pos (show (-l) < 0 by omega), if_neg h0]
  · have n1 : x ≠ l := fun e => he (by rw [e])
    have n2 : x ≠ -l := fun e => he (by rw [e]; exact lv_neg hl)
    have hp2 := lv_pos hx
    rw [if_neg n1, if_neg n2, List.getD_eq_getElem?_getD, List.getElem?_set_ne (by omega), ← List.getD_eq_getElem?_getD]

def StandsOk (a : List Int) (c : List Int) (r : Int × Int) : Prop :=
  (r.1 = 1 ∧ ∃ x ∈ c, vv a x = 1) ∨ (r.1 = 0 ∧ ∃ x ∈ c, ∃ y ∈ c, x ≠ y ∧ vv a x = 0 ∧ vv a y = 0) ∨ (r.1 = 2 ∧ ∀ x ∈ c, vv a x = -1) ∨ (r.1 = 3 ∧ r.2 ∈ c ∧ vv a r.2 = 0 ∧ ∀ x ∈ c, x ≠ r.2 → vv a x = -1)
theorem stands_l (a : List Int) (ha : Vs a) (c : List Int) (hf : ∀ x ∈ c, fm x = true) (hl : c.length < 9223372036854775807) : ∀ (d n : Nat) (o : Int), c.length - n = d → n ≤ c.length →
    ((o = 0 ∧ ∀ x ∈ c.take n, vv a x = -1) ∨ (o ∈ c ∧ vv a o = 0 ∧ ∀ x ∈ c.take n, x ≠ o → vv a x = -1)) →
    ∃ r, Ev (fun k => depotref06_Stands.l0 k c a o (n : Int)) r ∧ StandsOk a c r := by
  intro d
  induction d with
  | zero =>
    intro n o hd hn ho
    have ht : c.take n = c := List.take_of_length_le (by omega)
    rw [ht] at ho
    by_cases e : o = 0
    · refine ⟨(2, 0), Ev.step (f := fun _ => some (2, 0)) (fun k => ?_) (Ev.now _), .inr (.inr (.inl ⟨rfl, ?_⟩))⟩
      · simp only [depotref06_Stands.l0]
        rw [if_neg (by omega), if_pos e]
      · rcases ho with ho | ho
        · exact ho.2
        · have := fm_true (hf o ho.1); omega
    · refine ⟨(3, o), Ev.step (f := fun _ => some (3, o)) (fun k => ?_) (Ev.now _), .inr (.inr (.inr ⟨rfl, ?_⟩))⟩
      · simp only [depotref06_Stands.l0]
        rw [if_neg (by omega), if_neg e]
      · rcases ho with ho | ho
        · exact absurd ho.1 e
        · exact ho
  | succ d ih =>
    intro n o hd hn ho
    have hlt : n < c.length := by omega
    have hm := get_mem 0 hlt
    have hx := hf _ hm
    have hv := value a ha _ hx
    have ht : c.take (n + 1) = c.take n ++ [c.getD n 0] := by
      rw [List.take_succ_eq_append_getElem hlt, List.getD_eq_getElem?_getD, List.getElem?_eq_getElem hlt]; rfl
    have ih1 := ih (n + 1)
    rw [ht] at ih1
    generalize hg : c.getD n 0 = x at *
    have hx0 := (fm_true hx).1
    rcases vv_cases ha x with e | e | e
    · refine ⟨(1, 0), Ev.step (f := fun _ => some (1, 0)) (fun k => ?_) (Ev.now _), .inl ⟨rfl, x, hm, e⟩⟩
      simp only [depotref06_Stands.l0]
      rw [if_pos (by omega), if_pos (by omega), rd_nat, hg, hv, e, Option.bind_some, if_pos rfl]
    · obtain ⟨r, h1, h2⟩ := ih1 o (by omega) (by omega) (by
        rcases ho with ho | ho
        · refine .inl ⟨ho.1, fun y hy => ?_⟩
          rcases List.mem_append.1 hy with hy | hy
          · exact ho.2 y hy
          · rw [List.mem_singleton.1 hy]; exact e
        · refine .inr ⟨ho.1, ho.2.1, fun y hy hne => ?_⟩
          rcases List.mem_append.1 hy with hy | hy
          · exact ho.2.2 y hy hne
          · rw [List.mem_singleton.1 hy]; exact e)
      refine ⟨r, Ev.step (f := fun k => depotref06_Stands.j1 k c a o (n : Int) (-1) false) (fun k => ?_) (Ev.step (fun k => ?_) h1), h2⟩
      · simp only [depotref06_Stands.l0]
        rw [if_pos (by omega), if_pos (by omega), rd_nat, hg, hv, e, Option.bind_some, if_neg (by decide), if_neg (by decide)]
      · simp only [depotref06_Stands.j1]
        rw [if_neg (by decide), if_neg (by decide), wrap_nat (by omega)]
    · have hgo : (o = 0 ∨ o = x) → ∃ r, Ev (fun k => depotref06_Stands.l0 k c a o (n : Int)) r ∧ StandsOk a c r := by
        intro hox
        obtain ⟨r, h1, h2⟩ := ih1 x (by omega) (by omega) (.inr ⟨hm, e, fun y hy hne => by
          rcases List.mem_append.1 hy with hy | hy
          · rcases ho with ho | ho
            · exact ho.2 y hy
            · rcases hox with h0 | h0
              · have := (fm_true (hf o ho.1)).1; omega
              · exact ho.2.2 y hy (by rw [h0]; exact hne)
          · exact absurd (List.mem_singleton.1 hy) hne⟩)
        refine ⟨r, Ev.step (f := fun k => depotref06_Stands.j1 k c a o (n : Int) 0 false) (fun k => ?_) (Ev.step (fun k => ?_) h1), h2⟩
        · simp only [depotref06_Stands.l0]
          rw [if_pos (by omega), if_pos (by omega), rd_nat, hg, hv, e, Option.bind_some, if_neg (by decide), if_pos rfl]
          rcases hox with h0 | h0
          · rw [if_pos h0]
          · by_cases hz : o = 0
            · rw [if_pos hz]
            · rw [if_neg hz, bne_eq_false_iff_eq.2 h0]
        · simp only [depotref06_Stands.j1]
          rw [if_neg (by decide), if_pos trivial, if_pos (by omega), if_pos (by omega), rd_nat, hg, wrap_nat (by omega)]
      by_cases h0 : o = 0
      · exact hgo (.inl h0)
      · by_cases h1 : o = x
        · exact hgo (.inr h1)
        · refine ⟨(0, 0), Ev.step (f := fun k => depotref06_Stands.j1 k c a o (n : Int) 0 true) (fun k => ?_) (Ev.step (f := fun _ => some (0, 0)) (fun k => ?_) (Ev.now _)), .inr (.inl ⟨rfl, ?_⟩)⟩
          · simp only [depotref06_Stands.l0]
            rw [if_pos (by omega), if_pos (by omega), rd_nat, hg, hv, e, Option.bind_some, if_neg (by decide), if_pos rfl, if_neg h0, bne_iff_ne.2 h1]
          · simp only [depotref06_Stands.j1]
            rw [if_pos trivial]
          · rcases ho with ho | ho
            · exact absurd ho.1 h0
            · exact ⟨o, ho.1, x, hm, h1, ho.2.1, e⟩
theorem stands (a : List Int) (ha : Vs a) (c : List Int) (hf : ∀ x ∈ c, fm x = true) (hl : c.length < 9223372036854775807) : ∃ r, Ev (fun k => depotref06_Stands.f k c a) r ∧ StandsOk a c r := by
  simpa [depotref06_Stands.f] using stands_l a ha c hf hl _ 0 0 rfl (by omega) (.inl ⟨rfl, by simp⟩)

end Go.Proofs.YtcaoobdbgdldaaaGreatDoor.Rf

namespace Go.Proofs.YtcaoobdbgdldaaaGreatDoor.Rf
open Go.RowKit Go.Proofs.YtcaoobdbgdldaaaGreatDoor.P Go.Proofs.YtcaoobdbgdldaaaGreatDoor.Lit Go.Proofs.YtcaoobdbgdldaaaGreatDoor.Spr Go.Proofs.YtcaoobdbgdldaaaGreatDoorW.PrintWords Go.Proofs.YtcaoobdbgdldaaaGreatDoorW.PrintLast

structure RI (cs : List (List Int)) (F : List Int) (a : List Int) : Prop where
  vs : Vs a
  rc : ∀ c ∈ cs, ∀ x ∈ c, lv x < a.length
  rf : ∀ x ∈ F, lv x < a.length
  snd : ∀ l, fm l = true → vv a l = 1 → UP cs F l
theorem RI.put {cs : List (List Int)} {F a : List Int} (h : RI cs F a) {l : Int} (hl : fm l = true) (hin : lv l < a.length) (hu : UP cs F l) : RI cs F (putV a l) := by
  have he : (putV a l).length = a.length := by unfold putV; rw [List.length_set]
  refine ⟨putV_vs h.vs l, by rw [he]; exact h.rc, by rw [he]; exact h.rf, fun x hx hv => ?_⟩
  rw [vv_put hl hx hin] at hv
  by_cases e : x = l
  · rw [e]; exact hu
  · rw [if_neg e] at hv
    by_cases e2 : x = -l
    · rw [if_pos e2] at hv; exact absurd hv (by decide)
    · rw [if_neg e2] at hv; exact h.snd x hx hv

theorem given_l (cs : List (List Int)) (F : List Int) (hF : ∀ x ∈ F, fm x = true) (hl : F.length < 9223372036854775807) : ∀ (d n : Nat) (a : List Int), F.length - n = d → n ≤ F.length → RI cs F a → (∀ x ∈ F.take n, vv a x = 1) →
    ∃ r, Ev (fun k => depotref06_given.l0 k F a (n : Int)) r ∧ RI cs F r.1 ∧ (r.2 = true → ∀ x ∈ F, vv r.1 x = 1) ∧ (r.2 = false → Clash cs F) := by
  intro d
  induction d with
  | zero =>
    intro n a hd hn hi ht
    rw [List.take_of_length_le (by omega)] at ht
    refine ⟨(a, true), Ev.step (f := fun _ => some (a, true)) (fun k => ?_) (Ev.now _), hi, fun _ => ht, fun h => by cases h⟩
    simp only [depotref06_given.l0]
    rw [if_neg (by omega)]
  | succ d ih =>
    intro n a hd hn hi ht
    have hlt : n < F.length := by omega
    have hm := get_mem 0 hlt
    have hx := hF _ hm
    have hv := value a hi.vs _ hx
    have htk := take_one hlt
    have ih1 := ih (n + 1)
    rw [htk] at ih1
    generalize hg : F.getD n 0 = x at *
    by_cases e : vv a x = -1
    · refine ⟨(a, false), Ev.step (f := fun _ => some (a, false)) (fun k => ?_) (Ev.now _), hi, (fun h => by cases h), fun _ => .inl ⟨x, .fact hm, hi.snd _ (fm_neg hx) (by rw [vv_neg a hx, e]; rfl)⟩⟩
      simp only [depotref06_given.l0]
      rw [if_pos (by omega), if_pos (by omega), rd_nat, hg, hv, e, Option.bind_some, if_pos rfl]
    · obtain ⟨r, h1, h2⟩ := ih1 (putV a x) (by omega) (by omega) (hi.put hx (hi.rf x hm) (.fact hm)) (fun y hy => by
        rcases List.mem_append.1 hy with hy | hy
        · have hyF := List.mem_of_mem_take hy
          rw [vv_put hx (hF y hyF) (hi.rf x hm)]
          by_cases e1 : y = x
          · rw [if_pos e1]
          · rw [if_neg e1]
            by_cases e2 : y = -x
            · have h3 := ht y hy
              rw [e2, vv_neg a hx] at h3
              omega
            · rw [if_neg e2]; exact ht y hy
        · rw [List.mem_singleton.1 hy, vv_put hx hx (hi.rf x hm), if_pos rfl])
      refine ⟨r, Ev.step (fun k => ?_) (Ev.bind (put_v a x hx (hi.rf x hm)) (f := fun k t => depotref06_given.l0 k F t ((n + 1 : Nat) : Int)) h1), h2⟩
      simp only [depotref06_given.l0]
      rw [if_pos (by omega), if_pos (by omega), rd_nat, hg, hv, Option.bind_some, if_neg e, wrap_nat (by omega)]

def zeros (a : List Int) : Nat := (a.filter (· == 0)).length
theorem zeros_le (a : List Int) : zeros a ≤ a.length := List.length_filter_le _ _
theorem zeros_set : ∀ (a : List Int) (n : Nat) (x : Int), n < a.length → a.getD n 0 = 0 → x ≠ 0 → zeros (a.set n x) + 1 = zeros a
  | [], n, x, h, _, _ => absurd h (by simp)
  | y :: t, 0, x, _, h0, hx => by
    have hy : y = 0 := by simpa using h0
    subst hy
    unfold zeros
    rw [List.set_cons_zero, List.filter_cons_of_neg (by simpa using hx), List.filter_cons_of_pos (by simp)]
    rfl
  | y :: t, n + 1, x, h, h0, hx => by
    have ih := zeros_set t n x (by simpa using h) (by simpa using h0) hx
    unfold zeros at *
    rw [List.set_cons_succ]
    by_cases hy : (y == 0) = true
    · rw [List.filter_cons_of_pos (by exact hy), List.filter_cons_of_pos (by exact hy), List.length_cons, List.length_cons, ih]
    · rw [List.filter_cons_of_neg (by exact hy), List.filter_cons_of_neg (by exact hy), ih]
theorem zeros_put {a : List Int} {l : Int} (hl : fm l = true) (hin : lv l < a.length) (h0 : vv a l = 0) : zeros (putV a l) + 1 = zeros a := by
  have hp := lv_pos hl
  unfold vv at h0
  rw [if_pos hin] at h0
  refine zeros_set a _ _ (by omega) (by split at h0 <;> omega) (by split <;> decide)

def Settled (a c : List Int) : Prop := (∃ x ∈ c, vv a x = 1) ∨ ∃ x ∈ c, ∃ y ∈ c, x ≠ y ∧ vv a x = 0 ∧ vv a y = 0
theorem round_l (v : Int) (cs : List (List Int)) (F : List Int) (hf : ∀ c ∈ cs, ∀ x ∈ c, fm x = true) (hl : cs.length < 9223372036854775807) (h8 : ∀ c ∈ cs, c.length < 9223372036854775807) : ∀ (d n : Nat) (m : Nat) (a : List Int), cs.length - n = d → n ≤ cs.length → RI cs F a → m + zeros a ≤ 1048577 →
    ∃ (m' : Nat) (b : Bool) (a' : List Int), Ev (fun k => depotref06_round.l0 k a (m : Int) (n : Int) v cs) ((m' : Int), b, a') ∧ RI cs F a' ∧ (b = true → Clash cs F) ∧ (∀ x, fm x = true → vv a x = 1 → vv a' x = 1) ∧ m' + zeros a' = m + zeros a ∧ m ≤ m' ∧ (b = false → m' = m → a' = a ∧ ∀ c ∈ cs.drop n, Settled a c) := by
  intro d
  induction d with
  | zero =>
    intro n m a hd hn hi hz
    refine ⟨m, false, a, Ev.step (f := fun _ => some ((m : Int), false, a)) (fun k => ?_) (Ev.now _), hi, (fun h => by cases h), fun _ _ h => h, rfl, Nat.le_refl _, fun _ _ => ⟨rfl, by rw [List.drop_eq_nil_of_le (by omega)]; simp⟩⟩
    simp only [depotref06_round.l0]
    rw [if_neg (by omega)]
  | succ d ih =>
    intro n m a hd hn hi hz
    have hlt : n < cs.length := by omega
    have hm := get_mem [] hlt
    obtain ⟨r, s1, s2⟩ := stands a hi.vs _ (hf _ hm) (h8 _ hm)
    have hdr := drop_get [] hlt
    obtain ⟨kd, l⟩ := r
    have hskip : kd ≠ 2 → kd ≠ 3 → Settled a (cs.getD n []) → ∃ (m' : Nat) (b : Bool) (a' : List Int), Ev (fun k => depotref06_round.l0 k a (m : Int) (n : Int) v cs) ((m' : Int), b, a') ∧ RI cs F a' ∧ (b = true → Clash cs F) ∧ (∀ x, fm x = true → vv a x = 1 → vv a' x = 1) ∧ m' + zeros a' = m + zeros a ∧ m ≤ m' ∧ (b = false → m' = m → a' = a ∧ ∀ c ∈ cs.drop n, Settled a c) := by
      intro e2 e3 hs
      obtain ⟨m', b, a', g1, g2, g3, g4, g5, g6, g7⟩ := ih (n + 1) m a (by omega) (by omega) hi hz
      refine ⟨m', b, a', Ev.step (fun k => ?_) (Ev.bind s1 (f := fun k t => if t.1 = 2 then some ((m : Int), true, a) else if t.1 = 3 then (depotref06_Put.f k a t.2).bind fun t2 => depotref06_round.l0 k t2 (wrap64 ((m : Int) + 1)) ((n + 1 : Nat) : Int) v cs else depotref06_round.l0 k a (m : Int) ((n + 1 : Nat) : Int) v cs) (Ev.congr (fun k => ?_) g1)), g2, g3, g4, g5, g6, fun hb he => ?_⟩
      · simp only [depotref06_round.l0]
        rw [if_pos (by omega), if_pos (by omega), rdL_nat, wrap_nat (n := n) (by omega)]
      · rw [if_neg e2, if_neg e3]
      · obtain ⟨k1, k2⟩ := g7 hb he
        refine ⟨k1, fun c hc => ?_⟩
        rw [hdr] at hc
        rcases List.mem_cons.1 hc with e | hc
        · rw [e]; exact hs
        · exact k2 c hc
    rcases s2 with ⟨e, hs⟩ | ⟨e, hs⟩ | ⟨e, hs⟩ | ⟨e, hs1, hs2, hs3⟩
    · have e : kd = 1 := e
      exact hskip (by omega) (by omega) (.inl hs)
    · have e : kd = 0 := e
      exact hskip (by omega) (by omega) (.inr hs)
    · have e : kd = 2 := e
      refine ⟨m, true, a, Ev.step (fun k => ?_) (Ev.bind s1 (f := fun k t => if t.1 = 2 then some ((m : Int), true, a) else if t.1 = 3 then (depotref06_Put.f k a t.2).bind fun t2 => depotref06_round.l0 k t2 (wrap64 ((m : Int) + 1)) ((n + 1 : Nat) : Int) v cs else depotref06_round.l0 k a (m : Int) ((n + 1 : Nat) : Int) v cs) (Ev.congr (fun k => ?_) (Ev.now _))), hi, (fun _ => .inr ⟨_, hm, fun x hx => ?_⟩), fun _ _ h => h, rfl, Nat.le_refl _, fun h => by cases h⟩
      · simp only [depotref06_round.l0]
        rw [if_pos (by omega), if_pos (by omega), rdL_nat, wrap_nat (n := n) (by omega)]
      · rw [if_pos e]
      · have hfx := hf _ hm x hx
        exact hi.snd _ (fm_neg hfx) (by rw [vv_neg a hfx, hs x hx]; rfl)
    · have e : kd = 3 := e
      have hs1 : l ∈ cs.getD n [] := hs1
      have hs2 : vv a l = 0 := hs2
      have hfl := hf _ hm l hs1
      have hin := hi.rc _ hm l hs1
      have hu : UP cs F l := .unit hm hs1 fun x hx hne => hi.snd _ (fm_neg (hf _ hm x hx)) (by rw [vv_neg a (hf _ hm x hx), hs3 x hx hne]; rfl)
      have hz2 := zeros_put hfl hin hs2
      obtain ⟨m', b, a', g1, g2, g3, g4, g5, g6, g7⟩ := ih (n + 1) (m + 1) (putV a l) (by omega) (by omega) (hi.put hfl hin hu) (by omega)
      refine ⟨m', b, a', Ev.step (fun k => ?_) (Ev.bind s1 (f := fun k t => if t.1 = 2 then some ((m : Int), true, a) else if t.1 = 3 then (depotref06_Put.f k a t.2).bind fun t2 => depotref06_round.l0 k t2 (wrap64 ((m : Int) + 1)) ((n + 1 : Nat) : Int) v cs else depotref06_round.l0 k a (m : Int) ((n + 1 : Nat) : Int) v cs) (Ev.congr (fun k => ?_) (Ev.bind (put_v a l hfl hin) (f := fun k t => depotref06_round.l0 k t ((m + 1 : Nat) : Int) ((n + 1 : Nat) : Int) v cs) g1))), g2, g3, fun x hx hv => g4 x hx ?_, by omega, by omega, fun _ he => by omega⟩
      · simp only [depotref06_round.l0]
        rw [if_pos (by omega), if_pos (by omega), rdL_nat, wrap_nat (n := n) (by omega)]
      · rw [if_neg (by omega), if_pos e, wrap_nat (by omega)]
      · rw [vv_put hfl hx hin]
        by_cases e1 : x = l
        · rw [if_pos e1]
        · rw [if_neg e1]
          by_cases e2 : x = -l
          · rw [e2, vv_neg a hfl] at hv; omega
          · rw [if_neg e2]; exact hv

def TT (a : List Int) (l : Int) : Prop := fm l = true ∧ vv a l = 1
theorem closed_of {cs : List (List Int)} {F a : List Int} (hf : ∀ c ∈ cs, ∀ x ∈ c, fm x = true) (hF : ∀ x ∈ F, fm x = true) (h1 : ∀ x ∈ F, vv a x = 1) (h2 : ∀ c ∈ cs, Settled a c) : Closed cs F (TT a) := by
  refine ⟨fun l hl => ⟨hF l hl, h1 l hl⟩, fun l hl hn => ?_, fun c hc => ?_⟩
  · have := hn.2
    rw [vv_neg a hl.1, hl.2] at this
    exact absurd this (by decide)
  · rcases h2 c hc with ⟨x, hx, hv⟩ | ⟨x, hx, y, hy, hne, h3, h4⟩
    · exact .inl ⟨x, hx, hf c hc x hx, hv⟩
    · refine .inr ⟨x, hx, y, hy, hne, fun hn => ?_, fun hn => ?_⟩
      · have := hn.2; rw [vv_neg a (hf c hc x hx)] at this; omega
      · have := hn.2; rw [vv_neg a (hf c hc y hy)] at this; omega
theorem closing_end (v : Int) (cs : List (List Int)) (a : List Int) (n : Int) (b : Bool) (h : n ≤ 0 ∨ b = true) : Ev (fun k => depotref06_Closing.l0 k a n b v cs) (a, b) := by
  refine Ev.step (f := fun _ => some (a, b)) (fun k => ?_) (Ev.now _)
  simp only [depotref06_Closing.l0]
  by_cases hn : n > 0
  · rw [if_pos hn, if_pos (h.resolve_left (by omega))]
  · rw [if_neg hn]
theorem closing_l (v : Int) (cs : List (List Int)) (F : List Int) (hf : ∀ c ∈ cs, ∀ x ∈ c, fm x = true) (hF : ∀ x ∈ F, fm x = true) (hl : cs.length < 9223372036854775807) (h8 : ∀ c ∈ cs, c.length < 9223372036854775807) : ∀ (z : Nat) (a : List Int) (n : Int), zeros a ≤ z → 0 < n → RI cs F a → (∀ x ∈ F, vv a x = 1) →
    ∃ r, Ev (fun k => depotref06_Closing.l0 k a n false v cs) r ∧ RI cs F r.1 ∧ (r.2 = true → Clash cs F) ∧ (r.2 = false → Closed cs F (TT r.1)) := by
  intro z
  induction z with
  | zero =>
    intro a n hz hn hi ht
    obtain ⟨m', b, a', g1, g2, g3, g4, g5, g6, g7⟩ := round_l v cs F hf hl h8 _ 0 0 a rfl (by omega) hi (by have := zeros_le a; have := hi.vs.len; omega)
    have he : Ev (fun k => depotref06_Closing.l0 k a' (m' : Int) b v cs) (a', b) := closing_end v cs a' _ b (.inl (by omega))
    refine ⟨(a', b), Ev.step (fun k => ?_) (Ev.bind g1 (f := fun k t => depotref06_Closing.l0 k t.2.2 t.1 t.2.1 v cs) he), g2, g3, fun hb => ?_⟩
    · simp only [depotref06_Closing.l0]
      rw [if_pos hn, if_neg (by decide)]
      rfl
    · obtain ⟨k1, k2⟩ := g7 hb (by omega)
      show Closed cs F (TT a')
      rw [k1]
      exact closed_of hf hF ht (by simpa using k2)
  | succ z ih =>
    intro a n hz hn hi ht
    obtain ⟨m', b, a', g1, g2, g3, g4, g5, g6, g7⟩ := round_l v cs F hf hl h8 _ 0 0 a rfl (by omega) hi (by have := zeros_le a; have := hi.vs.len; omega)
    have hstep : ∀ r, Ev (fun k => depotref06_Closing.l0 k a' (m' : Int) b v cs) r → Ev (fun k => depotref06_Closing.l0 k a n false v cs) r := fun r hr =>
      Ev.step (fun k => by
        simp only [depotref06_Closing.l0]
        rw [if_pos hn, if_neg (by decide)]
        rfl) (Ev.bind g1 (f := fun k t => depotref06_Closing.l0 k t.2.2 t.1 t.2.1 v cs) hr)
    cases b with
    | true => exact ⟨(a', true), hstep _ (closing_end v cs a' _ true (.inr rfl)), g2, fun _ => g3 rfl, fun h => by cases h⟩
    | false =>
      by_cases hm : m' = 0
      · obtain ⟨k1, k2⟩ := g7 rfl hm
        refine ⟨(a', false), hstep _ (closing_end v cs a' _ false (.inl (by omega))), g2, (fun h => by cases h), fun _ => ?_⟩
        show Closed cs F (TT a')
        rw [k1]
        exact closed_of hf hF ht (by simpa using k2)
      · obtain ⟨r, h1, h2⟩ := ih a' (m' : Int) (by omega) (by omega) g2 (fun x hx => g4 x (hF x hx) (ht x hx))
        exact ⟨r, hstep r h1, h2⟩

theorem closing (v : Int) (cs : List (List Int)) (F : List Int) (hf : ∀ c ∈ cs, ∀ x ∈ c, fm x = true) (hF : ∀ x ∈ F, fm x = true) (hl : cs.length < 9223372036854775807) (h8 : ∀ c ∈ cs, c.length < 9223372036854775807) (hFl : F.length < 9223372036854775807) :
    ∃ r, Ev (fun k => depotref06_Closing.f k v cs F) r ∧ Vs r.1 ∧ (r.2 = true → Clash cs F) ∧ (r.2 = false → ¬ Clash cs F ∧ ∀ l, fm l = true → (vv r.1 l = 1 ↔ UP cs F l)) := by
  obtain ⟨m, h1, h2, h3, h4⟩ := values v cs F hf hF hl h8 hFl
  have hz : ∀ i, (List.replicate (m + 1) (0 : Int)).getD i 0 = 0 := fun i => by rw [List.getD_eq_getElem?_getD, List.getElem?_replicate]; split <;> rfl
  have hv0 : ∀ l, vv (List.replicate (m + 1) 0) l = 0 := fun l => by
    unfold vv; rw [hz]; split
    · split <;> rfl
    · rfl
  have hi : RI cs F (List.replicate (m + 1) 0) := ⟨⟨by simp; omega, fun i => by rw [hz]; omega⟩, fun c hc x hx => by have := h3 c hc x hx; simp; omega, fun x hx => by have := h4 x hx; simp; omega, fun l _ h => by rw [hv0] at h; exact absurd h (by decide)⟩
  obtain ⟨g, g1, g2, g3, g4⟩ := given_l cs F hF hFl _ 0 _ rfl (by omega) hi (by simp)
  have hg : Ev (fun k => depotref06_given.f k v cs F) g := by
    unfold depotref06_given.f
    exact Ev.bind h1 g1
  obtain ⟨a, b⟩ := g
  cases b with
  | false =>
    refine ⟨(a, true), ?_, g2.vs, fun _ => g4 rfl, fun h => by cases h⟩
    unfold depotref06_Closing.f
    exact Ev.bind hg (Ev.congr (fun k => by rw [if_neg (show ¬ (false = true) by decide)]) (Ev.now _))
  | true =>
    obtain ⟨r, r1, r2, r3, r4⟩ := closing_l v cs F hf hF hl h8 _ a 1 (Nat.le_refl _) (by omega) g2 (g3 rfl)
    refine ⟨r, ?_, r2.vs, r3, fun hb => ?_⟩
    · unfold depotref06_Closing.f
      exact Ev.bind hg (Ev.congr (fun k => by rw [if_pos rfl]) r1)
    · have hC := r4 hb
      exact ⟨hC.no_clash, fun l hfl => ⟨r2.snd l hfl, fun hu => (hC.up hu).2⟩⟩

end Go.Proofs.YtcaoobdbgdldaaaGreatDoor.Rf

namespace Go.Proofs.YtcaoobdbgdldaaaGreatDoor.Rf
open Go.RowKit Go.Proofs.YtcaoobdbgdldaaaGreatDoor.P Go.Proofs.YtcaoobdbgdldaaaGreatDoor.Lit Go.Proofs.YtcaoobdbgdldaaaGreatDoor.Spr Go.Proofs.YtcaoobdbgdldaaaGreatDoorW.PrintWords Go.Proofs.YtcaoobdbgdldaaaGreatDoorW.PrintLast

theorem has01_l (l : List Int) (x : Int) (hl : l.length < 9223372036854775807) : ∀ (d n : Nat), l.length - n = d → n ≤ l.length → Ev (fun k => depotref01_Has.l0 k l x (n : Int)) ((l.drop n).contains x) := by
  intro d
  induction d with
  | zero =>
    intro n hd hn
    have : l.drop n = [] := List.drop_eq_nil_of_le (by omega)
    rw [this]
    refine Ev.step (f := fun _ => some false) (fun k => ?_) (Ev.now _)
    simp only [depotref01_Has.l0]
    rw [if_neg (by omega)]
  | succ d ih =>
    intro n hd hn
    have hlt : n < l.length := by omega
    rw [drop_get 0 hlt, List.contains_cons]
    by_cases hf : l.getD n 0 = x
    · have he : (x == l.getD n 0) = true := by rw [hf]; exact beq_self_eq_true _
      rw [he, Bool.true_or]
      refine Ev.step (f := fun _ => some true) (fun k => ?_) (Ev.now _)
      simp only [depotref01_Has.l0]
      rw [if_pos (by omega), if_pos (by omega), rd_nat, if_pos hf]
    · have he : (x == l.getD n 0) = false := by simpa using fun h => hf h.symm
      rw [he, Bool.false_or]
      refine Ev.step (fun k => ?_) (ih (n + 1) (by omega) (by omega))
      simp only [depotref01_Has.l0]
      rw [if_pos (by omega), if_pos (by omega), rd_nat, if_neg hf, wrap_nat (by omega)]
theorem has01 (l : List Int) (x : Int) (hl : l.length < 9223372036854775807) : Ev (fun k => depotref01_Has.f k l x) (hasB l x) := by
  unfold depotref01_Has.f hasB
  by_cases h : fm x = true
  · rw [h, Bool.true_and]
    refine Ev.congr (fun k => by rw [formed01, h, Option.bind_some, if_pos rfl]) ?_
    have := has01_l l x hl _ 0 rfl (by omega)
    simpa using this
  · rw [Bool.eq_false_iff.2 h, Bool.false_and]
    exact Ev.congr (fun k => by rw [formed01, Bool.eq_false_iff.2 h, Option.bind_some, if_neg (by decide)]) (Ev.now _)
theorem index01 (a : Int) (h : fm a = true) : depotref01_Index.f a = some (ix a) := by
  obtain ⟨h1, h2, h3⟩ := fm_true h
  unfold depotref01_Index.f
  rw [formed01, h, Option.bind_some, if_pos rfl]
  have w0 : ∀ x : Int, -9223372036854775808 ≤ x → x < 9223372036854775808 → wrap64 x = x := fun x h1 h2 => by unfold wrap64; omega
  unfold ix
  rw [if_pos h]
  split
  · rw [w0 ((-2) * a) (by omega) (by omega), w0 _ (by omega) (by omega)]; congr 1; omega
  · rw [w0 (2 * a) (by omega) (by omega), w0 _ (by omega) (by omega)]

def mgF : Nat → List Int → List Int → List Int
  | 0, _, _ => []
  | _ + 1, [], [] => []
  | d + 1, [], y :: b => y :: mgF d [] b
  | d + 1, x :: a, [] => x :: mgF d a []
  | d + 1, x :: a, y :: b => if ix x < ix y then x :: mgF d a (y :: b) else if ix y < ix x then y :: mgF d (x :: a) b else x :: mgF d a b
theorem mg_mem : ∀ (d : Nat) (a b : List Int), (∀ z ∈ a, fm z = true) → (∀ z ∈ b, fm z = true) → a.length + b.length ≤ d → ∀ y, y ∈ mgF d a b ↔ y ∈ a ∨ y ∈ b
  | 0, a, b, _, _, h, y => by
    obtain rfl : a = [] := List.eq_nil_of_length_eq_zero (by omega)
    obtain rfl : b = [] := List.eq_nil_of_length_eq_zero (by omega)
    simp [mgF]
  | d + 1, [], [], _, _, _, y => by simp [mgF]
  | d + 1, [], z :: b, ha, hb, h, y => by
    have ih := mg_mem d [] b ha (fun z hz => hb z (by simp [hz])) (by simp at h ⊢; omega) y
    simp only [mgF, List.mem_cons, ih]
    simp
  | d + 1, x :: a, [], ha, hb, h, y => by
    have ih := mg_mem d a [] (fun z hz => ha z (by simp [hz])) hb (by simp at h ⊢; omega) y
    simp only [mgF, List.mem_cons, ih]
    simp
  | d + 1, x :: a, z :: b, ha, hb, h, y => by
    have i1 := mg_mem d a (z :: b) (fun z hz => ha z (by simp [hz])) hb (by simp at h ⊢; omega) y
    have i2 := mg_mem d (x :: a) b ha (fun z hz => hb z (by simp [hz])) (by simp at h ⊢; omega) y
    have i3 := mg_mem d a b (fun z hz => ha z (by simp [hz])) (fun z hz => hb z (by simp [hz])) (by simp at h ⊢; omega) y
    simp only [mgF]
    split
    · rw [List.mem_cons, i1, List.mem_cons, List.mem_cons]
      simp only [or_assoc]
    · split
      · rw [List.mem_cons, i2, List.mem_cons, List.mem_cons]
        constructor
        · rintro (h | (h | h) | h)
          · exact .inr (.inl h)
          · exact .inl (.inl h)
          · exact .inl (.inr h)
          · exact .inr (.inr h)
        · rintro ((h | h) | h | h)
          · exact .inr (.inl (.inl h))
          · exact .inr (.inl (.inr h))
          · exact .inl h
          · exact .inr (.inr h)
      · have he : x = z := ix_inj (ha x (by simp)) (hb z (by simp)) (by omega)
        rw [List.mem_cons, i3, List.mem_cons, List.mem_cons]
        subst he
        constructor
        · rintro (h | h | h)
          · exact .inl (.inl h)
          · exact .inl (.inr h)
          · exact .inr (.inr h)
        · rintro ((h | h) | h | h)
          · exact .inl h
          · exact .inr (.inl h)
          · exact .inl h
          · exact .inr (.inr h)
theorem mg_rising : ∀ (d : Nat) (a b : List Int), (∀ z ∈ a, fm z = true) → (∀ z ∈ b, fm z = true) → a.length + b.length ≤ d → Rising a → Rising b → Rising (mgF d a b)
  | 0, _, _, _, _, _, _, _ => List.Pairwise.nil
  | d + 1, [], [], _, _, _, _, _ => List.Pairwise.nil
  | d + 1, [], z :: b, ha, hb, h, hra, hrb => by
    obtain ⟨r1, r2⟩ := List.pairwise_cons.1 hrb
    refine List.pairwise_cons.2 ⟨fun y hy => ?_, mg_rising d [] b ha (fun z hz => hb z (by simp [hz])) (by simp at h ⊢; omega) hra r2⟩
    rcases (mg_mem d [] b ha (fun z hz => hb z (by simp [hz])) (by simp at h ⊢; omega) y).1 hy with h | h
    · cases h
    · exact r1 y h
  | d + 1, x :: a, [], ha, hb, h, hra, hrb => by
    obtain ⟨r1, r2⟩ := List.pairwise_cons.1 hra
    refine List.pairwise_cons.2 ⟨fun y hy => ?_, mg_rising d a [] (fun z hz => ha z (by simp [hz])) hb (by simp at h ⊢; omega) r2 hrb⟩
    rcases (mg_mem d a [] (fun z hz => ha z (by simp [hz])) hb (by simp at h ⊢; omega) y).1 hy with h | h
    · exact r1 y h
    · cases h
  | d + 1, x :: a, z :: b, ha, hb, h, hra, hrb => by
    obtain ⟨r1, r2⟩ := List.pairwise_cons.1 hra
    obtain ⟨s1, s2⟩ := List.pairwise_cons.1 hrb
    have ha' : ∀ y ∈ a, fm y = true := fun z hz => ha z (by simp [hz])
    have hb' : ∀ y ∈ b, fm y = true := fun z hz => hb z (by simp [hz])
    simp only [mgF]
    split
    · rename_i hlt
      refine List.pairwise_cons.2 ⟨fun y hy => ?_, mg_rising d a (z :: b) ha' hb (by simp at h ⊢; omega) r2 hrb⟩
      rcases (mg_mem d a (z :: b) ha' hb (by simp at h ⊢; omega) y).1 hy with h | h
      · exact r1 y h
      · rcases List.mem_cons.1 h with h | h
        · rw [h]; exact hlt
        · have := s1 y h; omega
    · split
      · rename_i h1 hlt
        refine List.pairwise_cons.2 ⟨fun y hy => ?_, mg_rising d (x :: a) b ha hb' (by simp at h ⊢; omega) hra s2⟩
        rcases (mg_mem d (x :: a) b ha hb' (by simp at h ⊢; omega) y).1 hy with h | h
        · rcases List.mem_cons.1 h with h | h
          · rw [h]; exact hlt
          · have := r1 y h; omega
        · exact s1 y h
      · rename_i h1 h2
        refine List.pairwise_cons.2 ⟨fun y hy => ?_, mg_rising d a b ha' hb' (by simp at h ⊢; omega) r2 s2⟩
        rcases (mg_mem d a b ha' hb' (by simp at h ⊢; omega) y).1 hy with h | h
        · exact r1 y h
        · have := s1 y h; omega
theorem fm_tidy (c : List Int) : ∀ z ∈ tidyL c, fm z = true := fun z hz => ((mem_tidy c z).1 hz).2
theorem mg_tidy (a b : List Int) (d : Nat) (h : (tidyL a).length + (tidyL b).length ≤ d) : mgF d (tidyL a) (tidyL b) = tidyL (a ++ b) := by
  refine rising_ext _ _ (mg_rising d _ _ (fm_tidy a) (fm_tidy b) h (tidy_rising a) (tidy_rising b)) (tidy_rising _) fun y => ?_
  rw [mg_mem d _ _ (fm_tidy a) (fm_tidy b) h, mem_tidy, mem_tidy, mem_tidy, List.mem_append]
  exact ⟨fun h => by rcases h with h | h; exact ⟨.inl h.1, h.2⟩; exact ⟨.inr h.1, h.2⟩, fun h => by rcases h.1 with e | e; exact .inl ⟨e, h.2⟩; exact .inr ⟨e, h.2⟩⟩

set_option maxHeartbeats 1000000 in
theorem merged_l (a b : List Int) (ha : ∀ z ∈ a, fm z = true) (hb : ∀ z ∈ b, fm z = true) (hl : a.length + b.length ≤ 17592186044416) : ∀ (d i j : Nat) (acc : List Int), (a.length - i) + (b.length - j) ≤ d → i ≤ a.length → j ≤ b.length → acc.length ≤ i + j →
    Ev (fun k => depotref01_merged.l0 k a b acc (i : Int) (j : Int)) (acc ++ mgF d (a.drop i) (b.drop j)) := by
  intro d
  induction d with
  | zero =>
    intro i j acc hd hi hj hacc
    refine Ev.step (f := fun k => depotref01_merged.j1 k a b acc (i : Int) (j : Int) false) (fun k => ?_) (Ev.step (f := fun _ => some acc) (fun k => ?_) (by simp only [mgF, List.append_nil]; exact Ev.now _))
    · simp only [depotref01_merged.l0]
      rw [if_neg (by omega), decide_eq_false (by omega)]
    · simp only [depotref01_merged.j1]
      rw [if_neg (by decide)]
  | succ d ih =>
    intro i j acc hd hi hj hacc
    by_cases h1 : i < a.length
    · have f1 := ha _ (get_mem 0 h1)
      rw [drop_get 0 h1]
      refine Ev.step (f := fun k => depotref01_merged.j1 k a b acc (i : Int) (j : Int) true) (fun k => by simp only [depotref01_merged.l0]; rw [if_pos (by omega)]) ?_
      by_cases h2 : j < b.length
      · have f2 := hb _ (get_mem 0 h2)
        rw [drop_get 0 h2]
        refine Ev.step (f := fun k => depotref01_merged.j2 k a b acc (i : Int) (j : Int) (decide (ix (a.getD i 0) < ix (b.getD j 0)))) (fun k => ?_) ?_
        · simp only [depotref01_merged.j1]
          rw [if_pos trivial, if_neg (by omega), if_pos (by omega), if_pos (by omega), rd_nat, index01 _ f1, Option.bind_some, if_pos (by omega), if_pos (by omega), rd_nat, index01 _ f2, Option.bind_some]
        · by_cases h3 : ix (a.getD i 0) < ix (b.getD j 0)
          · have e := ih (i + 1) j (acc ++ [a.getD i 0]) (by omega) (by omega) hj (by simp; omega)
            simp only [mgF]
            rw [if_pos h3, decide_eq_true h3]
            rw [List.append_assoc, List.singleton_append, drop_get 0 h2] at e
            refine Ev.step (fun k => ?_) e
            simp only [depotref01_merged.j2]
            rw [if_pos trivial, if_pos (by omega), if_pos (by omega), if_pos (by omega), rd_nat, wrap_nat (by omega)]
          · simp only [mgF]
            rw [if_neg h3, decide_eq_false h3]
            by_cases h4 : ix (b.getD j 0) < ix (a.getD i 0)
            · have e := ih i (j + 1) (acc ++ [b.getD j 0]) (by omega) hi (by omega) (by simp; omega)
              rw [if_pos h4]
              rw [List.append_assoc, List.singleton_append, drop_get 0 h1] at e
              refine Ev.step (fun k => ?_) e
              simp only [depotref01_merged.j2]
              rw [if_neg (by decide), if_neg (by omega), if_pos (by omega), if_pos (by omega), rd_nat, index01 _ f2, Option.bind_some, if_pos (by omega), if_pos (by omega), rd_nat, index01 _ f1, Option.bind_some, if_pos h4, if_pos (by omega), wrap_nat (by omega)]
            · have e := ih (i + 1) (j + 1) (acc ++ [a.getD i 0]) (by omega) (by omega) (by omega) (by simp; omega)
              rw [if_neg h4]
              rw [List.append_assoc, List.singleton_append] at e
              refine Ev.step (fun k => ?_) e
              simp only [depotref01_merged.j2]
              rw [if_neg (by decide), if_neg (by omega), if_pos (by omega), if_pos (by omega), rd_nat, index01 _ f2, Option.bind_some, if_pos (by omega), if_pos (by omega), rd_nat, index01 _ f1, Option.bind_some, if_neg h4, if_pos (by omega), wrap_nat (by omega), wrap_nat (by omega)]
      · have hnil : b.drop j = [] := List.drop_eq_nil_of_le (by omega)
        have e := ih (i + 1) j (acc ++ [a.getD i 0]) (by omega) (by omega) hj (by simp; omega)
        rw [hnil, List.append_assoc, List.singleton_append] at e
        rw [hnil]
        simp only [mgF]
        refine Ev.step (f := fun k => depotref01_merged.j2 k a b acc (i : Int) (j : Int) true) (fun k => ?_) (Ev.step (fun k => ?_) e)
        · simp only [depotref01_merged.j1]
          rw [if_pos trivial, if_pos (by omega)]
        · simp only [depotref01_merged.j2]
          rw [if_pos trivial, if_pos (by omega), if_pos (by omega), if_pos (by omega), rd_nat, wrap_nat (by omega)]
    · have hnil : a.drop i = [] := List.drop_eq_nil_of_le (by omega)
      by_cases h2 : j < b.length
      · have e := ih i (j + 1) (acc ++ [b.getD j 0]) (by omega) hi (by omega) (by simp; omega)
        rw [hnil, List.append_assoc, List.singleton_append] at e
        rw [hnil, drop_get 0 h2]
        simp only [mgF]
        refine Ev.step (f := fun k => depotref01_merged.j1 k a b acc (i : Int) (j : Int) true) (fun k => ?_) (Ev.step (f := fun k => depotref01_merged.j2 k a b acc (i : Int) (j : Int) false) (fun k => ?_) (Ev.step (fun k => ?_) e))
        · simp only [depotref01_merged.l0]
          rw [if_neg (by omega), decide_eq_true (by omega)]
        · simp only [depotref01_merged.j1]
          rw [if_pos trivial, if_neg (by omega), if_neg (by omega)]
        · simp only [depotref01_merged.j2]
          rw [if_neg (by decide), if_pos (by omega), if_pos (by omega), if_pos (by omega), if_pos (by omega), rd_nat, wrap_nat (by omega)]
      · have hnb : b.drop j = [] := List.drop_eq_nil_of_le (by omega)
        rw [hnil, hnb]
        simp only [mgF, List.append_nil]
        refine Ev.step (f := fun k => depotref01_merged.j1 k a b acc (i : Int) (j : Int) false) (fun k => ?_) (Ev.step (f := fun _ => some acc) (fun k => ?_) (Ev.now _))
        · simp only [depotref01_merged.l0]
          rw [if_neg (by omega), decide_eq_false (by omega)]
        · simp only [depotref01_merged.j1]
          rw [if_neg (by decide)]
theorem merged01 (a b : List Int) : Ev (fun k => depotref01_merged.f k (tidyL a) (tidyL b)) (tidyL (a ++ b)) := by
  have h1 := tidy_len a
  have h2 := tidy_len b
  have := merged_l (tidyL a) (tidyL b) (fm_tidy a) (fm_tidy b) (by omega) _ 0 0 [] (Nat.le_refl _) (by omega) (by omega) (by simp)
  rw [List.nil_append, List.drop_zero, List.drop_zero, mg_tidy a b _ (by omega)] at this
  simpa [depotref01_merged.f] using this
theorem tidy01 : ∀ (n : Nat) (c : List Int), c.length ≤ n → c.length ≤ 17592186044416 → Ev (fun k => depotref01_Tidy.f k c) (tidyL c)
  | n, c, hn, hl => by
    by_cases h0 : c.length = 0
    · obtain rfl : c = [] := List.eq_nil_of_length_eq_zero h0
      exact Ev.step (f := fun _ => some []) (fun k => by simp only [depotref01_Tidy.f]; rw [if_pos (by simp)]) (Ev.now _)
    · by_cases h1 : c.length = 1
      · obtain ⟨x, rfl⟩ := List.length_eq_one_iff.1 h1
        refine Ev.step (f := fun _ => some (tidyL [x])) (fun k => ?_) (Ev.now _)
        simp only [depotref01_Tidy.f]
        rw [if_neg (by simp), if_pos (by simp), if_pos (by simp)]
        have hr : rd [x] 0 = x := by simp [rd]
        rw [hr, formed01, Option.bind_some]
        by_cases hf : fm x = true
        · rw [if_pos hf]; simp [tidyL, hf, ins]
        · rw [if_neg hf]; simp [tidyL, hf]
      · match n, hn with
        | 0, hn => omega
        | n + 1, hn =>
          have hh : ((c.length : Int) / 2) = ((c.length / 2 : Nat) : Int) := by omega
          have hw : wrap64 ((c.length : Int) / 2) = ((c.length / 2 : Nat) : Int) := by rw [hh]; unfold wrap64; omega
          have i1 := tidy01 n (c.take (c.length / 2)) (by rw [List.length_take]; omega) (by rw [List.length_take]; omega)
          have i2 := tidy01 n (c.drop (c.length / 2)) (by rw [List.length_drop]; omega) (by rw [List.length_drop]; omega)
          have i3 := merged01 (c.take (c.length / 2)) (c.drop (c.length / 2))
          rw [List.take_append_drop] at i3
          refine Ev.step (fun k => ?_) (Ev.bind i1 (f := fun k t => (depotref01_Tidy.f k (c.drop (c.length / 2))).bind fun u => (depotref01_merged.f k t u).bind fun z => some z) (Ev.bind i2 (Ev.bind i3 (Ev.now _))))
          simp only [depotref01_Tidy.f]
          rw [if_neg (by omega), if_neg (by omega), hw, if_pos (by omega), if_pos (by omega), Int.toNat_natCast]
theorem without01_l (l : Int) (t : List Int) (hl : t.length ≤ 2097152) : ∀ (d n : Nat), t.length - n = d → n ≤ t.length → Ev (fun k => depotref01_Without.l0 k l t (dropL l (t.take n)) (n : Int)) (dropL l t) := by
  intro d
  induction d with
  | zero =>
    intro n hd hn
    rw [List.take_of_length_le (by omega)]
    refine Ev.step (f := fun _ => some (dropL l t)) (fun k => ?_) (Ev.now _)
    simp only [depotref01_Without.l0]
    rw [if_neg (by omega)]
  | succ d ih =>
    intro n hd hn
    have hlt : n < t.length := by omega
    have h := ih (n + 1) (by omega) (by omega)
    have hle : (dropL l (t.take n)).length ≤ n := Nat.le_trans (List.length_filter_le _ _) (List.length_take_le _ _)
    have hs : dropL l (t.take (n + 1)) = dropL l (t.take n) ++ (if t.getD n 0 = l then [] else [t.getD n 0]) := by
      unfold dropL
      rw [List.take_succ_eq_append_getElem hlt, List.filter_append, List.getD_eq_getElem?_getD, List.getElem?_eq_getElem hlt]
      congr 1
      show List.filter _ [t[n]] = if t[n] = l then [] else [t[n]]
      by_cases he : t[n] = l
      · rw [if_pos he, List.filter_cons_of_neg (by simp [he])]; rfl
      · rw [if_neg he, List.filter_cons_of_pos (by simp [he])]; rfl
    rw [hs] at h
    refine Ev.step (fun k => ?_) h
    simp only [depotref01_Without.l0]
    rw [if_pos (by omega), if_pos (by omega), rd_nat]
    by_cases he : t.getD n 0 = l
    · rw [if_pos he, if_pos he, List.append_nil, wrap_nat (by omega)]
    · rw [if_neg he, if_neg he, if_pos (by omega), wrap_nat (by omega)]
theorem without01 (c : List Int) (l : Int) (hl : c.length ≤ 17592186044416) : Ev (fun k => depotref01_Without.f k c l) (withoutL c l) := by
  have := without01_l l (tidyL c) (tidy_len c) _ 0 rfl (by omega)
  unfold depotref01_Without.f
  refine Ev.bind (tidy01 _ c (Nat.le_refl _) hl) ?_
  simpa [dropL, withoutL] using this
theorem join01 (a b : List Int) (ha : a.length ≤ 17592186044416) (hb : b.length ≤ 17592186044416) : Ev (fun k => depotref01_Join.f k a b) (joinL a b) := by
  unfold depotref01_Join.f joinL
  exact Ev.bind (tidy01 _ a (Nat.le_refl _) ha) (Ev.bind (tidy01 _ b (Nat.le_refl _) hb) (Ev.bind (merged01 a b) (Ev.now _)))

end Go.Proofs.YtcaoobdbgdldaaaGreatDoor.Rf

namespace Go.Proofs.YtcaoobdbgdldaaaGreatDoor.Rf
open Go.RowKit Go.Proofs.YtcaoobdbgdldaaaGreatDoor.P Go.Proofs.YtcaoobdbgdldaaaGreatDoor.Lit Go.Proofs.YtcaoobdbgdldaaaGreatDoor.Spr Go.Proofs.YtcaoobdbgdldaaaGreatDoorW.PrintWords Go.Proofs.YtcaoobdbgdldaaaGreatDoorW.PrintLast

theorem sameInts_l (l : List Int) (hl : l.length < 9223372036854775807) : ∀ (d n : Nat), l.length - n = d → n ≤ l.length → Ev (fun k => depotref00_SameInts.l0 k l l (n : Int)) true := by
  intro d
  induction d with
  | zero =>
    intro n hd hn
    refine Ev.step (f := fun _ => some true) (fun k => ?_) (Ev.now _)
    simp only [depotref00_SameInts.l0]
    rw [if_neg (by omega)]
  | succ d ih =>
    intro n hd hn
    refine Ev.step (fun k => ?_) (ih (n + 1) (by omega) (by omega))
    simp only [depotref00_SameInts.l0]
    rw [if_pos (by omega), if_pos (by omega), if_pos (by omega), if_true, wrap_nat (by omega)]
theorem sameInts (l : List Int) (hl : l.length < 9223372036854775807) : Ev (fun k => depotref00_SameInts.f k l l) true := by
  have := sameInts_l l hl _ 0 rfl (by omega)
  simpa [depotref00_SameInts.f] using this

end Go.Proofs.YtcaoobdbgdldaaaGreatDoor.Rf
