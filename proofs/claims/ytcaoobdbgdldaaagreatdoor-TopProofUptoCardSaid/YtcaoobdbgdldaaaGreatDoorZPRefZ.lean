/- Part of the proof of TopProof: what the law uses of the text RefZ. -/
import Derived.Test.YtcaoobdbgdldaaaGreatDoorZPP3
import Derived.Test.YtcaoobdbgdldaaaGreatDoorZPP4
import Derived.Test.YtcaoobdbgdldaaaGreatDoorZPUpD
namespace Go.Proofs.YtcaoobdbgdldaaaGreatDoor.Rf
open Go.RowKit Go.Proofs.YtcaoobdbgdldaaaGreatDoor.P Go.Proofs.YtcaoobdbgdldaaaGreatDoor.Lit Go.Proofs.YtcaoobdbgdldaaaGreatDoor.Spr Go.Proofs.YtcaoobdbgdldaaaGreatDoorW.PrintWords Go.Proofs.YtcaoobdbgdldaaaGreatDoorW.PrintLast
set_option linter.unusedVariables false
set_option linter.unusedSimpArgs false

theorem wrap_nat {n : Nat} (h : n < 9223372036854775807) : wrap64 ((n : Int) + 1) = ((n + 1 : Nat) : Int) := by unfold wrap64; omega
theorem rd_nat (xs : List Int) (n : Nat) : rd xs (n : Int) = xs.getD n 0 := by simp [rd]
theorem rdL_nat (xs : List (List Int)) (n : Nat) : rd_L1 xs (n : Int) = xs.getD n [] := by simp [rd_L1]
theorem drop_get {α : Type} {xs : List α} {n : Nat} (d : α) (h : n < xs.length) : xs.drop n = xs.getD n d :: xs.drop (n + 1) := by
  rw [List.drop_eq_getElem_cons h, List.getD_eq_getElem?_getD, List.getElem?_eq_getElem h]; rfl
theorem get_mem {α : Type} {xs : List α} {n : Nat} (d : α) (h : n < xs.length) : xs.getD n d ∈ xs := by
  rw [List.getD_eq_getElem?_getD, List.getElem?_eq_getElem h]; exact List.getElem_mem h

theorem copyInts_l (l : List Int) (hl : l.length ≤ 17592186044416) : ∀ (d n : Nat) (acc : List Int), l.length - n = d → n ≤ l.length → acc.length = n → Ev (fun k => depotref00_CopyInts.l0 k l acc (n : Int)) (acc ++ l.drop n) := by
  intro d
  induction d with
  | zero =>
    intro n acc hd hn ha
    have : l.drop n = [] := List.drop_eq_nil_of_le (by omega)
    rw [this, List.append_nil]
    refine Ev.step (f := fun _ => some acc) (fun k => ?_) (Ev.now _)
    simp only [depotref00_CopyInts.l0]
    rw [if_neg (by omega)]
  | succ d ih =>
    intro n acc hd hn ha
    have hlt : n < l.length := by omega
    have := ih (n + 1) (acc ++ [l.getD n 0]) (by omega) (by omega) (by simp [ha])
    rw [drop_get 0 hlt]
    rw [List.append_assoc, List.singleton_append] at this
    refine Ev.step (fun k => ?_) this
    simp only [depotref00_CopyInts.l0]
    rw [if_pos (by omega), if_pos (by omega), if_pos (by omega), rd_nat, wrap_nat (by omega)]
theorem copyInts (l : List Int) (hl : l.length ≤ 17592186044416) : Ev (fun k => depotref00_CopyInts.f k l) l := by
  have := copyInts_l l hl _ 0 [] rfl (by omega) rfl
  simpa [depotref00_CopyInts.f] using this

theorem copyClauses_l (cs : List (List Int)) (hl : cs.length ≤ 5864062014805) (h8 : ∀ c ∈ cs, c.length ≤ 17592186044416) : ∀ (d n : Nat) (acc : List (List Int)), cs.length - n = d → n ≤ cs.length → acc.length = n → Ev (fun k => depotref00_CopyClauses.l0 k cs acc (n : Int)) (acc ++ cs.drop n) := by
  intro d
  induction d with
  | zero =>
    intro n acc hd hn ha
    have : cs.drop n = [] := List.drop_eq_nil_of_le (by omega)
    rw [this, List.append_nil]
    refine Ev.step (f := fun _ => some acc) (fun k => ?_) (Ev.now _)
    simp only [depotref00_CopyClauses.l0]
    rw [if_neg (by omega)]
  | succ d ih =>
    intro n acc hd hn ha
    have hlt : n < cs.length := by omega
    have := ih (n + 1) (acc ++ [cs.getD n []]) (by omega) (by omega) (by simp [ha])
    rw [drop_get [] hlt]
    rw [List.append_assoc, List.singleton_append] at this
    refine Ev.step (fun k => ?_) (Ev.bind (copyInts (cs.getD n []) (h8 _ (get_mem [] hlt))) (f := fun k t => depotref00_CopyClauses.l0 k cs (acc ++ [t]) ((n + 1 : Nat) : Int)) this)
    simp only [depotref00_CopyClauses.l0]
    rw [if_pos (by omega), if_pos (by omega), rdL_nat, wrap_nat (by omega)]
    simp only [if_pos (show acc.length < 5864062014805 by omega)]
theorem copyFormula (v : Int) (cs : List (List Int)) (hl : cs.length ≤ 5864062014805) (h8 : ∀ c ∈ cs, c.length ≤ 17592186044416) : Ev (fun k => depotref00_CopyFormula.f k v cs) (v, cs) := by
  have := copyClauses_l cs hl h8 _ 0 [] rfl (by omega) rfl
  have h2 : Ev (fun k => depotref00_CopyClauses.f k cs) cs := by simpa [depotref00_CopyClauses.f] using this
  exact Ev.bind h2 (Ev.now _)

theorem formed01 (a : Int) : depotref01_Formed.f a = some (fm a) := by
  unfold depotref01_Formed.f fm
  by_cases h1 : a ≥ 1
  · rw [if_pos h1]
    by_cases h2 : a ≤ 1048576
    · rw [if_pos h2, decide_eq_true (by omega)]
    · rw [if_neg h2, if_pos (by omega), decide_eq_false (by omega), decide_eq_false (by omega)]
  · rw [if_neg h1]
    by_cases h2 : a ≥ -1048576
    · rw [if_pos h2]
      by_cases h3 : a ≤ -1
      · rw [decide_eq_true h3, decide_eq_true (by omega)]
      · rw [decide_eq_false h3, decide_eq_false (by omega)]
    · rw [if_neg h2, decide_eq_false (by omega)]
theorem sound01_l (l : List Int) (hl : l.length < 9223372036854775807) : ∀ (d n : Nat), l.length - n = d → n ≤ l.length → Ev (fun k => depotref01_Sound.l0 k l (n : Int)) ((l.drop n).all fm) := by
  intro d
  induction d with
  | zero =>
    intro n hd hn
    have : l.drop n = [] := List.drop_eq_nil_of_le (by omega)
    rw [this]
    refine Ev.step (f := fun _ => some true) (fun k => ?_) (Ev.now _)
    simp only [depotref01_Sound.l0]
    rw [if_neg (by omega)]
  | succ d ih =>
    intro n hd hn
    have hlt : n < l.length := by omega
    rw [drop_get 0 hlt, List.all_cons]
    by_cases hf : fm (l.getD n 0) = true
    · rw [hf, Bool.true_and]
      refine Ev.step (fun k => ?_) (ih (n + 1) (by omega) (by omega))
      simp only [depotref01_Sound.l0]
      rw [if_pos (by omega), if_pos (by omega), rd_nat, formed01, hf, Option.bind_some, if_pos rfl, wrap_nat (by omega)]
    · rw [Bool.eq_false_iff.2 hf, Bool.false_and]
      refine Ev.step (f := fun _ => some false) (fun k => ?_) (Ev.now _)
      simp only [depotref01_Sound.l0]
      rw [if_pos (by omega), if_pos (by omega), rd_nat, formed01, Bool.eq_false_iff.2 hf, Option.bind_some, if_neg (by decide)]
theorem sound01 (l : List Int) (hl : l.length < 9223372036854775807) : Ev (fun k => depotref01_Sound.f k l) (l.all fm) := by
  simpa [depotref01_Sound.f] using sound01_l l hl _ 0 rfl (by omega)

theorem within02_l (l : List Int) (v : Int) (hf : ∀ x ∈ l, fm x = true) (hl : l.length < 9223372036854775807) : ∀ (d n : Nat), l.length - n = d → n ≤ l.length → Ev (fun k => depotref02_within.l0 k l v (n : Int)) ((l.drop n).all fun x => decide (lv x ≤ v)) := by
  intro d
  induction d with
  | zero =>
    intro n hd hn
    have : l.drop n = [] := List.drop_eq_nil_of_le (by omega)
    rw [this]
    refine Ev.step (f := fun _ => some true) (fun k => ?_) (Ev.now _)
    simp only [depotref02_within.l0]
    rw [if_neg (by omega)]
  | succ d ih =>
    intro n hd hn
    have hlt : n < l.length := by omega
    have hx := hf _ (get_mem 0 hlt)
    have hx2 := fm_true hx
    rw [drop_get 0 hlt, List.all_cons]
    generalize hg : l.getD n 0 = x at *
    have hw : wrap64 (-x) = -x := by unfold wrap64; omega
    have hlv : lv x = if x < 0 then -x else x := by unfold lv; rw [if_pos hx]
    by_cases h1 : lv x ≤ v
    · rw [decide_eq_true h1, Bool.true_and]
      refine Ev.step (fun k => ?_) (ih (n + 1) (by omega) (by omega))
      simp only [depotref02_within.l0]
      rw [if_pos (by omega), if_pos (by omega), rd_nat, hg, hw, if_neg (by split at hlv <;> omega), if_neg (by split at hlv <;> omega), wrap_nat (by omega)]
    · rw [decide_eq_false h1, Bool.false_and]
      refine Ev.step (f := fun _ => some false) (fun k => ?_) (Ev.now _)
      simp only [depotref02_within.l0]
      rw [if_pos (by omega), if_pos (by omega), rd_nat, hg, hw]
      by_cases h2 : x > v
      · rw [if_pos h2]
      · rw [if_neg h2, if_pos (by split at hlv <;> omega)]
theorem within02 (l : List Int) (v : Int) (hl : l.length < 9223372036854775807) : Ev (fun k => depotref02_within.f k l v) (withinB l v) := by
  unfold withinB depotref02_within.f
  refine Ev.bind (sound01 l hl) ?_
  by_cases hf : l.all fm = true
  · rw [hf, Bool.true_and]
    simpa using within02_l l v (List.all_eq_true.1 hf) hl _ 0 rfl (by omega)
  · rw [Bool.eq_false_iff.2 hf, Bool.false_and]
    exact Ev.congr (fun k => by rw [if_neg (by decide)]) (Ev.now _)
theorem formed02_l (v : Int) (cs : List (List Int)) (hl : cs.length < 9223372036854775807) (h8 : ∀ c ∈ cs, c.length < 9223372036854775807) : ∀ (d n : Nat), cs.length - n = d → n ≤ cs.length → Ev (fun k => depotref02_Formed.l0 k (n : Int) v cs) ((cs.drop n).all fun c => withinB c v) := by
  intro d
  induction d with
  | zero =>
    intro n hd hn
    have : cs.drop n = [] := List.drop_eq_nil_of_le (by omega)
    rw [this]
    refine Ev.step (f := fun _ => some true) (fun k => ?_) (Ev.now _)
    simp only [depotref02_Formed.l0]
    rw [if_neg (by omega)]
  | succ d ih =>
    intro n hd hn
    have hlt : n < cs.length := by omega
    rw [drop_get [] hlt, List.all_cons]
    refine Ev.step (fun k => ?_) (Ev.bind (within02 (cs.getD n []) v (h8 _ (get_mem [] hlt))) (f := fun k t => if t = true then depotref02_Formed.l0 k ((n + 1 : Nat) : Int) v cs else some false) ?_)
    · simp only [depotref02_Formed.l0]
      rw [if_pos (by omega), if_pos (by omega), rdL_nat, wrap_nat (by omega)]
    · by_cases h : withinB (cs.getD n []) v = true
      · rw [h, Bool.true_and]
        exact Ev.congr (fun k => by rw [if_pos rfl]) (ih (n + 1) (by omega) (by omega))
      · rw [Bool.eq_false_iff.2 h, Bool.false_and]
        exact Ev.congr (fun k => by rw [if_neg (by decide)]) (Ev.now _)
theorem formed02 (v : Int) (cs : List (List Int)) (hl : cs.length < 9223372036854775807) (h8 : ∀ c ∈ cs, c.length < 9223372036854775807) : Ev (fun k => depotref02_Formed.f k v cs) (formedB v cs) := by
  unfold depotref02_Formed.f formedB
  by_cases h0 : v < 0
  · rw [decide_eq_false (show ¬ 0 ≤ v by omega), Bool.false_and, Bool.false_and]
    refine Ev.step (f := fun _ => some false) (fun k => ?_) (Ev.now _)
    rw [if_pos h0]
    simp only [depotref02_Formed.j0]
    rw [if_pos trivial]
  · rw [decide_eq_true (show 0 ≤ v by omega), Bool.true_and]
    by_cases h1 : v > 1048576
    · rw [decide_eq_false (show ¬ v ≤ 1048576 by omega), Bool.false_and]
      refine Ev.step (f := fun _ => some false) (fun k => ?_) (Ev.now _)
      rw [if_neg h0, decide_eq_true h1]
      simp only [depotref02_Formed.j0]
      rw [if_pos trivial]
    · rw [decide_eq_true (show v ≤ 1048576 by omega), Bool.true_and]
      refine Ev.step (fun k => ?_) (show Ev (fun k => depotref02_Formed.l0 k ((0 : Nat) : Int) v cs) (cs.all fun c => withinB c v) from by simpa using formed02_l v cs hl h8 _ 0 rfl (by omega))
      rw [if_neg h0, decide_eq_false h1]
      simp only [depotref02_Formed.j0]
      rw [if_neg (by decide)]
      rfl

theorem rdT_nat (xs : List S42) (n : Nat) : rd_T42 xs (n : Int) = xs.getD n z42 := by simp [rd_T42]
theorem copySteps_l (l : List S42) (hl : l.length ≤ 4398046511104) (h8 : ∀ s ∈ l, s.f1.length ≤ 17592186044416) : ∀ (d n : Nat) (acc : List S42), l.length - n = d → n ≤ l.length → acc.length = n → Ev (fun k => depotref00_CopySteps.l0 k l acc (n : Int)) (acc ++ l.drop n) := by
  intro d
  induction d with
  | zero =>
    intro n acc hd hn ha
    have : l.drop n = [] := List.drop_eq_nil_of_le (by omega)
    rw [this, List.append_nil]
    refine Ev.step (f := fun _ => some acc) (fun k => ?_) (Ev.now _)
    simp only [depotref00_CopySteps.l0]
    rw [if_neg (by omega)]
  | succ d ih =>
    intro n acc hd hn ha
    have hlt : n < l.length := by omega
    have := ih (n + 1) (acc ++ [l.getD n z42]) (by omega) (by omega) (by simp [ha])
    rw [drop_get z42 hlt]
    rw [List.append_assoc, List.singleton_append] at this
    refine Ev.step (fun k => ?_) (Ev.bind (copyInts (l.getD n z42).f1 (h8 _ (get_mem z42 hlt))) (f := fun k t => depotref00_CopySteps.l0 k l (acc ++ [⟨(l.getD n z42).f0, t⟩]) ((n + 1 : Nat) : Int)) this)
    simp only [depotref00_CopySteps.l0]
    rw [if_pos (by omega), if_pos (by omega), rdT_nat, wrap_nat (by omega)]
    simp only [if_pos (show acc.length < 4398046511104 by omega)]
theorem copySteps (l : List S42) (hl : l.length ≤ 4398046511104) (h8 : ∀ s ∈ l, s.f1.length ≤ 17592186044416) : Ev (fun k => depotref00_CopySteps.f k l) l := by
  have := copySteps_l l hl h8 _ 0 [] rfl (by omega) rfl
  simpa [depotref00_CopySteps.f] using this

def mk (m : List Bool) (l : Int) : Bool := if l < 0 then !(m.getD (-l - 1).toNat false) else m.getD (l - 1).toNat false
theorem true02_l (m : List Bool) (hm : m.length ≤ 1048576) (l : List Int) (hl : l.length < 9223372036854775807) (hw : ∀ x ∈ l, x ≠ 0 ∧ -(m.length : Int) ≤ x ∧ x ≤ m.length) : ∀ (d n : Nat), l.length - n = d → n ≤ l.length → Ev (fun k => depotref02_True.l0 k l m (n : Int)) ((l.drop n).any (mk m)) := by
  intro d
  induction d with
  | zero =>
    intro n hd hn
    rw [List.drop_eq_nil_of_le (by omega)]
    refine Ev.step (f := fun _ => some false) (fun k => ?_) (Ev.now _)
    simp only [depotref02_True.l0]
    rw [if_neg (by omega)]
  | succ d ih =>
    intro n hd hn
    have hlt : n < l.length := by omega
    have hx := hw _ (get_mem 0 hlt)
    rw [drop_get 0 hlt, List.any_cons]
    generalize hg : l.getD n 0 = x at *
    by_cases hp : x > 0
    · have hw1 : wrap64 (x - 1) = x - 1 := by unfold wrap64; omega
      have hmk : mk m x = m.getD (x - 1).toNat false := by unfold mk; rw [if_neg (by omega)]
      by_cases hb : m.getD (x - 1).toNat false = true
      · rw [hmk, hb, Bool.true_or]
        refine Ev.step (f := fun _ => some true) (fun k => ?_) (Ev.now _)
        simp only [depotref02_True.l0]
        rw [if_pos (by omega), if_pos (by omega), rd_nat, hg, if_pos hp, hw1, if_pos (by omega), if_pos (by omega)]
        unfold rdOf
        rw [if_pos hb]
      · rw [hmk, Bool.eq_false_iff.2 hb, Bool.false_or]
        refine Ev.step (fun k => ?_) (ih (n + 1) (by omega) (by omega))
        simp only [depotref02_True.l0]
        rw [if_pos (by omega), if_pos (by omega), rd_nat, hg, if_pos hp, hw1, if_pos (by omega), if_pos (by omega)]
        unfold rdOf
        rw [if_neg hb, if_neg (by omega), wrap_nat (n := n) (by omega)]
    · have hw1 : wrap64 (wrap64 (-x) - 1) = -x - 1 := by unfold wrap64; omega
      have hmk : mk m x = !(m.getD (-x - 1).toNat false) := by unfold mk; rw [if_pos (by omega)]
      by_cases hb : m.getD (-x - 1).toNat false = true
      · rw [hmk, hb, Bool.not_true, Bool.false_or]
        refine Ev.step (fun k => ?_) (ih (n + 1) (by omega) (by omega))
        simp only [depotref02_True.l0]
        rw [if_pos (by omega), if_pos (by omega), rd_nat, hg, if_neg hp, if_pos (by omega), hw1, if_pos (by omega), if_pos (by omega)]
        unfold rdOf
        rw [if_pos hb, wrap_nat (n := n) (by omega)]
      · rw [hmk, Bool.eq_false_iff.2 hb, Bool.not_false, Bool.true_or]
        refine Ev.step (f := fun _ => some true) (fun k => ?_) (Ev.now _)
        simp only [depotref02_True.l0]
        rw [if_pos (by omega), if_pos (by omega), rd_nat, hg, if_neg hp, if_pos (by omega), hw1, if_pos (by omega), if_pos (by omega)]
        unfold rdOf
        rw [if_neg hb]
theorem true02 (m : List Bool) (hm : m.length ≤ 1048576) (l : List Int) (hl : l.length < 9223372036854775807) (hw : ∀ x ∈ l, x ≠ 0 ∧ -(m.length : Int) ≤ x ∧ x ≤ m.length) : Ev (fun k => depotref02_True.f k l m) (l.any (mk m)) := by
  simpa [depotref02_True.f] using true02_l m hm l hl hw _ 0 rfl (by omega)
theorem satisfied02_l (v : Int) (m : List Bool) (hm : m.length ≤ 1048576) (cs : List (List Int)) (hl : cs.length < 9223372036854775807) (h8 : ∀ c ∈ cs, c.length < 9223372036854775807) (hw : ∀ c ∈ cs, ∀ x ∈ c, x ≠ 0 ∧ -(m.length : Int) ≤ x ∧ x ≤ m.length) : ∀ (d n : Nat), cs.length - n = d → n ≤ cs.length → Ev (fun k => depotref02_satisfied.l0 k m (n : Int) v cs) ((cs.drop n).all fun c => c.any (mk m)) := by
  intro d
  induction d with
  | zero =>
    intro n hd hn
    rw [List.drop_eq_nil_of_le (by omega)]
    refine Ev.step (f := fun _ => some true) (fun k => ?_) (Ev.now _)
    simp only [depotref02_satisfied.l0]
    rw [if_neg (by omega)]
  | succ d ih =>
    intro n hd hn
    have hlt : n < cs.length := by omega
    have hmem := get_mem (xs := cs) [] hlt
    rw [drop_get [] hlt, List.all_cons]
    refine Ev.step (fun k => ?_) (Ev.bind (true02 m hm (cs.getD n []) (h8 _ hmem) (hw _ hmem)) (f := fun k t => if t = true then depotref02_satisfied.l0 k m ((n + 1 : Nat) : Int) v cs else some false) ?_)
    · simp only [depotref02_satisfied.l0]
      rw [if_pos (by omega), if_pos (by omega), rdL_nat, wrap_nat (n := n) (by omega)]
    · by_cases h : (cs.getD n []).any (mk m) = true
      · rw [h, Bool.true_and]
        exact Ev.congr (fun k => by rw [if_pos rfl]) (ih (n + 1) (by omega) (by omega))
      · rw [Bool.eq_false_iff.2 h, Bool.false_and]
        exact Ev.congr (fun k => by rw [if_neg (by decide)]) (Ev.now _)
theorem within_win {c : List Int} {v : Int} (h : withinB c v = true) : ∀ x ∈ c, fm x = true ∧ x ≠ 0 ∧ -v ≤ x ∧ x ≤ v := by
  unfold withinB at h
  rw [Bool.and_eq_true] at h
  intro x hx
  have h1 := List.all_eq_true.1 h.1 x hx
  have h2 := of_decide_eq_true (List.all_eq_true.1 h.2 x hx)
  have h3 := fm_true h1
  unfold lv at h2
  rw [if_pos h1] at h2
  refine ⟨h1, h3.1, ?_⟩
  split at h2 <;> omega
theorem formed_win {v : Int} {cs : List (List Int)} (h : formedB v cs = true) : (0 ≤ v ∧ v ≤ 1048576) ∧ ∀ c ∈ cs, ∀ x ∈ c, fm x = true ∧ x ≠ 0 ∧ -v ≤ x ∧ x ≤ v := by
  unfold formedB at h
  simp only [Bool.and_eq_true, decide_eq_true_eq] at h
  exact ⟨h.1, fun c hc x hx => within_win (List.all_eq_true.1 h.2 c hc) x hx⟩
theorem satisfies02 (v : Int) (cs : List (List Int)) (m : List Bool) (hl : cs.length < 9223372036854775807) (h8 : ∀ c ∈ cs, c.length < 9223372036854775807) (hf : formedB v cs = true) (hm : (m.length : Int) = v) : Ev (fun k => depotref02_Satisfies.f k v cs m) (cs.all fun c => c.any (mk m)) := by
  obtain ⟨hv, hw⟩ := formed_win hf
  unfold depotref02_Satisfies.f
  refine Ev.bind (formed02 v cs hl h8) (Ev.congr (fun k => by rw [if_pos hf, if_pos hm]) ?_)
  have h := satisfied02_l v m (by omega) cs hl h8 (fun c hc x hx => by have := hw c hc x hx; rw [hm]; exact this.2) _ 0 rfl (by omega)
  rw [List.drop_zero] at h
  exact Ev.bind h (Ev.now _)
theorem mk_neg (m : List Bool) {l : Int} (h : l ≠ 0) : mk m (-l) = !mk m l := by
  unfold mk
  by_cases h0 : l < 0
  · rw [if_neg (by omega), if_pos h0]; simp
  · rw [if_pos (by omega), if_neg h0, Int.neg_neg]

end Go.Proofs.YtcaoobdbgdldaaaGreatDoor.Rf
