/- The laws' own small functions of layer 6: within, shaped, makes, satisfies, HasInt: what each comes to; a model that satisfies formula and facts makes all that follows true. -/
import Derived.Test.YthbccfgcemdgeaaRefA
import Derived.Test.YthbccfgcemdgeaaUpD
import Derived.Test.YthbccfgcemdgeaaP11
namespace Go.Proofs.Ythbccfgcemdgeaa.Rf
open Go.RowKit Go.Proofs.Ythbccfgcemdgeaa.P Go.Proofs.Ythbccfgcemdgeaa.Lit Go.Proofs.Ythbccfgcemdgeaa.Spr Go.Proofs.YthbccfgcemdgeaaW.PrintWords Go.Proofs.YthbccfgcemdgeaaW.PrintLast

theorem fits {cs : List (List Int)} {F : List Int} (h24 : cs.length * 24 ≤ 140737488351232) (h8 : ∀ x ∈ cs, x.length * 8 ≤ 140737488351232) (hF : F.length * 8 ≤ 140737488351232) : Fits cs F := ⟨by omega, fun x hx => by have := h8 x hx; omega, by omega⟩
theorem closeI (v : Int) {cs : List (List Int)} {F : List Int} (h : Fits cs F) : unit_Close.f v cs F = some (closeR v cs F) := by unfold unit_Close.f; rw [if_pos h]
theorem forcesI (v : Int) {cs : List (List Int)} {F : List Int} (l : Int) (h : Fits cs F) : unit_Forces.f v cs F l = some (forcesR v cs F l) := by unfold unit_Forces.f; rw [if_pos h]
theorem close_len (v : Int) (cs : List (List Int)) (F : List Int) : (closeR v cs F).1.length ≤ 2097152 := by
  unfold closeR
  split
  · split
    · exact tidy_len _
    · exact Nat.zero_le _
  · exact Nat.zero_le _
theorem awake06 : Ev (fun k => depotlaw06_awake.f k) true := by
  have h : depotlaw06_awake.f 10 = some true := by decide +kernel
  exact Ev.of depotlaw06_awake.mono h

theorem lv_of' {l : Int} (h : fm l = true) : lv l = if l < 0 then -l else l := by unfold lv; rw [if_pos h]
/-- In a range. -/
def win (v x : Int) : Bool := decide (x ≠ 0 ∧ x ≤ v ∧ -v ≤ x)
theorem win_fm {v x : Int} (h1 : v ≤ 1048576) : win v x = (fm x && decide (lv x ≤ v)) := by
  unfold win
  by_cases hf : fm x = true
  · have := fm_true hf
    rw [hf, Bool.true_and, lv_of' hf]
    by_cases h0 : x < 0
    · rw [if_pos h0]
      by_cases h : -x ≤ v
      · rw [decide_eq_true h, decide_eq_true (by omega)]
      · rw [decide_eq_false h, decide_eq_false (by omega)]
    · rw [if_neg h0]
      by_cases h : x ≤ v
      · rw [decide_eq_true h, decide_eq_true (by omega)]
      · rw [decide_eq_false h, decide_eq_false (by omega)]
  · have := fm_false (Bool.eq_false_iff.2 hf)
    rw [Bool.eq_false_iff.2 hf, Bool.false_and, decide_eq_false (by omega)]
theorem win_true {v x : Int} (h : win v x = true) : x ≠ 0 ∧ x ≤ v ∧ -v ≤ x := of_decide_eq_true h
theorem within06_l (l : List Int) (v : Int) (h0 : 0 ≤ v) (h1 : v ≤ 1048576) (hl : l.length < 9223372036854775807) : ∀ (d n : Nat), l.length - n = d → n ≤ l.length → Ev (fun k => depotlaw06_within.l0 k l v (n : Int)) ((l.drop n).all (win v)) := by
  intro d
  have hw : wrap64 (-v) = -v := by unfold wrap64; omega
  induction d with
  | zero =>
    intro n hd hn
    rw [List.drop_eq_nil_of_le (by omega)]
    refine Ev.step (f := fun _ => some true) (fun k => ?_) (Ev.now _)
    simp only [depotlaw06_within.l0]
    rw [if_neg (by omega)]
  | succ d ih =>
    intro n hd hn
    have hlt : n < l.length := by omega
    rw [drop_get 0 hlt, List.all_cons]
    generalize hg : l.getD n 0 = x
    by_cases hx : win v x = true
    · have hx2 := win_true hx
      rw [hx, Bool.true_and]
      refine Ev.step (fun k => ?_) (ih (n + 1) (by omega) (by omega))
      simp only [depotlaw06_within.l0]
      rw [if_pos (by omega), if_pos (by omega), rd_nat, hg, hw, if_neg hx2.1, if_neg (by omega), if_neg (by omega), wrap_nat (by omega)]
    · have hx2 : ¬ (x ≠ 0 ∧ x ≤ v ∧ -v ≤ x) := of_decide_eq_false (Bool.eq_false_iff.2 hx)
      rw [Bool.eq_false_iff.2 hx, Bool.false_and]
      refine Ev.step (f := fun _ => some false) (fun k => ?_) (Ev.now _)
      simp only [depotlaw06_within.l0]
      rw [if_pos (by omega), if_pos (by omega), rd_nat, hg, hw]
      by_cases e1 : x = 0
      · rw [if_pos e1]
      · rw [if_neg e1]
        by_cases e2 : x > v
        · rw [if_pos e2]
        · rw [if_neg e2, if_pos (by omega)]
theorem within06 (l : List Int) (v : Int) (h0 : 0 ≤ v) (h1 : v ≤ 1048576) (hl : l.length < 9223372036854775807) : Ev (fun k => depotlaw06_within.f k l v) (l.all (win v)) := by
  simpa [depotlaw06_within.f] using within06_l l v h0 h1 hl _ 0 rfl (by omega)
theorem shaped06_l (v : Int) (cs : List (List Int)) (h0 : 0 ≤ v) (h1 : v ≤ 1048576) (hl : cs.length < 9223372036854775807) (h8 : ∀ c ∈ cs, c.length < 9223372036854775807) : ∀ (d n : Nat), cs.length - n = d → n ≤ cs.length → Ev (fun k => depotlaw06_shaped.l0 k (n : Int) v cs) ((cs.drop n).all fun c => c.all (win v)) := by
  intro d
  induction d with
  | zero =>
    intro n hd hn
    rw [List.drop_eq_nil_of_le (by omega)]
    refine Ev.step (f := fun _ => some true) (fun k => ?_) (Ev.now _)
    simp only [depotlaw06_shaped.l0]
    rw [if_neg (by omega)]
  | succ d ih =>
    intro n hd hn
    have hlt : n < cs.length := by omega
    rw [drop_get [] hlt, List.all_cons]
    refine Ev.step (fun k => ?_) (Ev.bind (within06 (cs.getD n []) v h0 h1 (h8 _ (get_mem [] hlt))) (f := fun k t => if t = true then depotlaw06_shaped.l0 k ((n + 1 : Nat) : Int) v cs else some false) ?_)
    · simp only [depotlaw06_shaped.l0]
      rw [if_pos (by omega), if_pos (by omega), rdL_nat, wrap_nat (n := n) (by omega)]
    · by_cases h : (cs.getD n []).all (win v) = true
      · rw [h, Bool.true_and]
        exact Ev.congr (fun k => by rw [if_pos rfl]) (ih (n + 1) (by omega) (by omega))
      · rw [Bool.eq_false_iff.2 h, Bool.false_and]
        exact Ev.congr (fun k => by rw [if_neg (by decide)]) (Ev.now _)
theorem shaped_formed {v : Int} (cs : List (List Int)) (h1 : v ≤ 1048576) : (cs.all fun c => c.all (win v)) = cs.all fun c => withinB c v := by
  refine congrArg (List.all cs) (funext fun c => ?_)
  unfold withinB
  have : win v = fun x => fm x && decide (lv x ≤ v) := funext fun x => win_fm h1
  rw [this]
  induction c with
  | nil => rfl
  | cons x t ih =>
    rw [List.all_cons, List.all_cons, List.all_cons, ih]
    cases fm x <;> cases decide (lv x ≤ v) <;> simp
theorem shaped06 (v : Int) (cs : List (List Int)) (hl : cs.length < 9223372036854775807) (h8 : ∀ c ∈ cs, c.length < 9223372036854775807) : Ev (fun k => depotlaw06_shaped.f k v cs) (formedB v cs) := by
  unfold depotlaw06_shaped.f formedB
  by_cases h0 : v < 0
  · rw [decide_eq_false (show ¬ 0 ≤ v by omega), Bool.false_and, Bool.false_and]
    refine Ev.step (f := fun _ => some false) (fun k => ?_) (Ev.now _)
    rw [if_pos h0]
    simp only [depotlaw06_shaped.j0]
    rw [if_pos trivial]
  · rw [decide_eq_true (show 0 ≤ v by omega), Bool.true_and]
    by_cases h1 : v > 1048576
    · rw [decide_eq_false (show ¬ v ≤ 1048576 by omega), Bool.false_and]
      refine Ev.step (f := fun _ => some false) (fun k => ?_) (Ev.now _)
      rw [if_neg h0, decide_eq_true h1]
      simp only [depotlaw06_shaped.j0]
      rw [if_pos trivial]
    · rw [decide_eq_true (show v ≤ 1048576 by omega), Bool.true_and, ← shaped_formed cs (by omega)]
      refine Ev.step (fun k => ?_) (show Ev (fun k => depotlaw06_shaped.l0 k ((0 : Nat) : Int) v cs) (cs.all fun c => c.all (win v)) from by simpa using shaped06_l v cs (by omega) (by omega) hl h8 _ 0 rfl (by omega))
      rw [if_neg h0, decide_eq_false h1]
      simp only [depotlaw06_shaped.j0]
      rw [if_neg (by decide)]
      rfl
theorem formed_range {v : Int} {cs : List (List Int)} (h : formedB v cs = true) : 0 ≤ v ∧ v ≤ 1048576 := by
  unfold formedB at h
  simp only [Bool.and_eq_true, decide_eq_true_eq] at h
  exact ⟨h.1.1, h.1.2⟩
theorem formed_win {v : Int} {cs : List (List Int)} (h : formedB v cs = true) : ∀ c ∈ cs, ∀ x ∈ c, win v x = true := by
  intro c hc x hx
  have hr := formed_range h
  unfold formedB at h
  rw [Bool.and_eq_true, ← shaped_formed cs hr.2] at h
  exact List.all_eq_true.1 (List.all_eq_true.1 h.2 c hc) x hx

/-- Does a model make a literal true? -/
def mk (m : List Bool) (l : Int) : Bool := if l < 0 then !(m.getD (-l - 1).toNat false) else m.getD (l - 1).toNat false
theorem makes06 (m : List Bool) (l : Int) (hm : m.length ≤ 1048576) (hl : win m.length l = true) : depotlaw06_makes.f m l = some (mk m l) := by
  have h := win_true hl
  unfold depotlaw06_makes.f mk
  by_cases h0 : l < 0
  · have hw : wrap64 (wrap64 (-l) - 1) = -l - 1 := by unfold wrap64; omega
    rw [if_pos h0, hw, if_pos (by omega), if_pos (by omega), if_pos h0]; rfl
  · have hw : wrap64 (l - 1) = l - 1 := by unfold wrap64; omega
    rw [if_neg h0, hw, if_pos (by omega), if_pos (by omega), if_neg h0]; rfl
theorem mk_neg (m : List Bool) {l : Int} (h : l ≠ 0) : mk m (-l) = !mk m l := by
  unfold mk
  by_cases h0 : l < 0
  · rw [if_neg (by omega), if_pos h0]; simp
  · rw [if_pos (by omega), if_neg h0, Int.neg_neg]

/-- A model makes all true that follows from what it satisfies. -/
theorem model_up {cs : List (List Int)} {F : List Int} {m : List Bool} (hF : ∀ l ∈ F, mk m l = true) (h0 : ∀ c ∈ cs, ∀ x ∈ c, x ≠ 0) (hc : ∀ c ∈ cs, ∃ x ∈ c, mk m x = true) {l : Int} (h : UP cs F l) : mk m l = true := by
  induction h with
  | fact hl => exact hF _ hl
  | @unit c l h1 h2 _ ih =>
    obtain ⟨x, hx, hv⟩ := hc c h1
    by_cases e : x = l
    · rw [← e]; exact hv
    · have := ih x hx e
      rw [mk_neg m (h0 c h1 x hx), hv] at this
      exact absurd this (by decide)
theorem model_no_clash {cs : List (List Int)} {F : List Int} {m : List Bool} (hF : ∀ l ∈ F, mk m l = true) (hF0 : ∀ l ∈ F, l ≠ 0) (h0 : ∀ c ∈ cs, ∀ x ∈ c, x ≠ 0) (hc : ∀ c ∈ cs, ∃ x ∈ c, mk m x = true) : ¬ Clash cs F := by
  rintro (⟨l, h1, h2⟩ | ⟨c, h1, h2⟩)
  · have a := model_up hF h0 hc h1
    have b := model_up hF h0 hc h2
    rw [mk_neg m (h1.of (P := (· ≠ 0)) hF0 h0), a] at b
    exact absurd b (by decide)
  · obtain ⟨x, hx, hv⟩ := hc c h1
    have b := model_up hF h0 hc (h2 x hx)
    rw [mk_neg m (h0 c h1 x hx), hv] at b
    exact absurd b (by decide)

/-! ### satisfies -/
theorem sat_c (m : List Bool) (hm : m.length ≤ 1048576) (v : Int) (cs : List (List Int)) (i : Nat) (hi : i < cs.length) (c : List Int) (hc : cs.getD i [] = c) (hw : ∀ x ∈ c, win m.length x = true) (hl : c.length < 9223372036854775807) (R : Bool) (hnext : Ev (fun k => depotlaw06_satisfies.l1 k m ((i + 1 : Nat) : Int) v cs) R) (hil : i < 9223372036854775806) : ∀ (d n : Nat) (b : Bool), c.length - n = d → n ≤ c.length →
    Ev (fun k => depotlaw06_satisfies.l2 k m (i : Int) b (n : Int) v cs) ((b || (c.drop n).any (mk m)) && R) := by
  intro d
  induction d with
  | zero =>
    intro n b hd hn
    rw [List.drop_eq_nil_of_le (by omega), List.any_nil, Bool.or_false]
    cases b with
    | true =>
      rw [Bool.true_and]
      refine Ev.step (fun k => ?_) hnext
      simp only [depotlaw06_satisfies.l2]
      rw [if_pos (by omega), if_pos (by omega), rdL_nat, hc, if_neg (by omega), if_pos trivial, wrap_nat (n := i) (by omega)]
    | false =>
      rw [Bool.false_and]
      refine Ev.step (f := fun _ => some false) (fun k => ?_) (Ev.now _)
      simp only [depotlaw06_satisfies.l2]
      rw [if_pos (by omega), if_pos (by omega), rdL_nat, hc, if_neg (by omega), if_neg (by decide)]
  | succ d ih =>
    intro n b hd hn
    have hlt : n < c.length := by omega
    have hx := hw _ (get_mem 0 hlt)
    have hmk := makes06 m _ hm hx
    rw [drop_get 0 hlt, List.any_cons]
    cases b with
    | true =>
      rw [Bool.true_or, Bool.true_and]
      have := ih (n + 1) true (by omega) (by omega)
      rw [Bool.true_or, Bool.true_and] at this
      refine Ev.step (fun k => ?_) this
      simp only [depotlaw06_satisfies.l2]
      rw [if_pos (by omega), if_pos (by omega), rdL_nat, hc, if_pos (by omega), if_pos trivial, wrap_nat (n := n) (by omega)]
    | false =>
      rw [Bool.false_or]
      refine Ev.step (fun k => ?_) (ih (n + 1) (mk m (c.getD n 0)) (by omega) (by omega))
      simp only [depotlaw06_satisfies.l2]
      rw [if_pos (by omega), if_pos (by omega), rdL_nat, hc, if_pos (by omega), if_neg (by decide), if_pos (by omega), rd_nat, hmk, Option.bind_some, wrap_nat (n := n) (by omega)]
theorem sat_cs (m : List Bool) (hm : m.length ≤ 1048576) (v : Int) (cs : List (List Int)) (hw : ∀ c ∈ cs, ∀ x ∈ c, win m.length x = true) (hl : cs.length < 9223372036854775806) (h8 : ∀ c ∈ cs, c.length < 9223372036854775807) : ∀ (d n : Nat), cs.length - n = d → n ≤ cs.length →
    Ev (fun k => depotlaw06_satisfies.l1 k m (n : Int) v cs) ((cs.drop n).all fun c => c.any (mk m)) := by
  intro d
  induction d with
  | zero =>
    intro n hd hn
    rw [List.drop_eq_nil_of_le (by omega)]
    refine Ev.step (f := fun _ => some true) (fun k => ?_) (Ev.now _)
    simp only [depotlaw06_satisfies.l1]
    rw [if_neg (by omega)]
  | succ d ih =>
    intro n hd hn
    have hlt : n < cs.length := by omega
    have hmem := get_mem [] hlt
    rw [drop_get [] hlt, List.all_cons]
    have := sat_c m hm v cs n hlt _ rfl (hw _ hmem) (h8 _ hmem) _ (ih (n + 1) (by omega) (by omega)) (by omega) _ 0 false rfl (by omega)
    rw [Bool.false_or, List.drop_zero] at this
    refine Ev.step (fun k => ?_) this
    simp only [depotlaw06_satisfies.l1]
    rw [if_pos (by omega)]
    rfl
theorem sat_fs (m : List Bool) (hm : m.length ≤ 1048576) (v : Int) (cs : List (List Int)) (F : List Int) (hF : ∀ x ∈ F, win m.length x = true) (hFl : F.length < 9223372036854775807) (R : Bool) (hR : Ev (fun k => depotlaw06_satisfies.l1 k m 0 v cs) R) : ∀ (d n : Nat), F.length - n = d → n ≤ F.length →
    Ev (fun k => depotlaw06_satisfies.l0 k F m (n : Int) v cs) ((F.drop n).all (mk m) && R) := by
  intro d
  induction d with
  | zero =>
    intro n hd hn
    rw [List.drop_eq_nil_of_le (by omega), List.all_nil, Bool.true_and]
    refine Ev.step (fun k => ?_) hR
    simp only [depotlaw06_satisfies.l0]
    rw [if_neg (by omega)]
  | succ d ih =>
    intro n hd hn
    have hlt : n < F.length := by omega
    have hmk := makes06 m _ hm (hF _ (get_mem 0 hlt))
    rw [drop_get 0 hlt, List.all_cons]
    generalize hg : F.getD n 0 = x at *
    by_cases h : mk m x = true
    · rw [h, Bool.true_and]
      refine Ev.step (fun k => ?_) (ih (n + 1) (by omega) (by omega))
      simp only [depotlaw06_satisfies.l0]
      rw [if_pos (by omega), if_pos (by omega), rd_nat, hg, hmk, h, Option.bind_some, if_pos rfl, wrap_nat (n := n) (by omega)]
    · rw [Bool.eq_false_iff.2 h, Bool.false_and, Bool.false_and]
      refine Ev.step (f := fun _ => some false) (fun k => ?_) (Ev.now _)
      simp only [depotlaw06_satisfies.l0]
      rw [if_pos (by omega), if_pos (by omega), rd_nat, hg, hmk, Bool.eq_false_iff.2 h, Option.bind_some, if_neg (by decide)]
def satB (cs : List (List Int)) (F : List Int) (m : List Bool) : Bool := F.all (mk m) && cs.all fun c => c.any (mk m)
theorem sat06 (m : List Bool) (hm : m.length ≤ 1048576) (v : Int) (cs : List (List Int)) (F : List Int) (hF : ∀ x ∈ F, win m.length x = true) (hw : ∀ c ∈ cs, ∀ x ∈ c, win m.length x = true) (hFl : F.length < 9223372036854775807) (hl : cs.length < 9223372036854775806) (h8 : ∀ c ∈ cs, c.length < 9223372036854775807) :
    Ev (fun k => depotlaw06_satisfies.f k v cs F m) (satB cs F m) := by
  have h1 := sat_cs m hm v cs hw hl h8 _ 0 rfl (by omega)
  rw [List.drop_zero] at h1
  have := sat_fs m hm v cs F hF hFl _ h1 _ 0 rfl (by omega)
  rw [List.drop_zero] at this
  exact this

/-! ### HasInt -/
theorem hasInt_l (l : List Int) (x : Int) (hl : l.length < 9223372036854775807) : ∀ (d n : Nat), l.length - n = d → n ≤ l.length → Ev (fun k => depotref00_HasInt.l0 k l x (n : Int)) ((l.drop n).contains x) := by
  intro d
  induction d with
  | zero =>
    intro n hd hn
    rw [List.drop_eq_nil_of_le (by omega)]
    refine Ev.step (f := fun _ => some false) (fun k => ?_) (Ev.now _)
    simp only [depotref00_HasInt.l0]
    rw [if_neg (by omega)]
  | succ d ih =>
    intro n hd hn
    have hlt : n < l.length := by omega
    rw [drop_get 0 hlt, List.contains_cons]
    by_cases h : l.getD n 0 = x
    · rw [show (x == l.getD n 0) = true from beq_iff_eq.2 h.symm, Bool.true_or]
      refine Ev.step (f := fun _ => some true) (fun k => ?_) (Ev.now _)
      simp only [depotref00_HasInt.l0]
      rw [if_pos (by omega), if_pos (by omega), rd_nat, if_pos h]
    · rw [show (x == l.getD n 0) = false from beq_false_of_ne (fun e => h e.symm), Bool.false_or]
      refine Ev.step (fun k => ?_) (ih (n + 1) (by omega) (by omega))
      simp only [depotref00_HasInt.l0]
      rw [if_pos (by omega), if_pos (by omega), rd_nat, if_neg h, wrap_nat (by omega)]
theorem hasInt (l : List Int) (x : Int) (hl : l.length < 9223372036854775807) : Ev (fun k => depotref00_HasInt.f k l x) (l.contains x) := by
  simpa [depotref00_HasInt.f] using hasInt_l l x hl _ 0 rfl (by omega)

end Go.Proofs.Ythbccfgcemdgeaa.Rf
