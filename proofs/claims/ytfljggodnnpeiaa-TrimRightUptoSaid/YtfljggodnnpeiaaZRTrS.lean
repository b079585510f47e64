/- Part of the proof of TrimRight: what the law uses of the text TrS. -/
import Derived.Test.YtfljggodnnpeiaaZRRefC
import Derived.Test.YtfljggodnnpeiaaZRTrP
import Derived.Test.YtfljggodnnpeiaaZRJP12
import Derived.Test.YtfljggodnnpeiaaZRJP17
namespace Go.Proofs.Ytfljggodnnpeiaa.Rf
open Go.RowKit Go.Proofs.Ytfljggodnnpeiaa.P Go.Proofs.Ytfljggodnnpeiaa.Lit Go.Proofs.Ytfljggodnnpeiaa.Spr Go.Proofs.Ytfljggodnnpeiaa.Trm Go.Proofs.YtfljggodnnpeiaaW.PrintWords Go.Proofs.YtfljggodnnpeiaaW.PrintLast
set_option linter.unusedVariables false
set_option linter.unusedSimpArgs false
open Classical

theorem opps_len (c : List Int) : (opps c).length = c.length := List.length_map _
theorem opps_take {c : List Int} {n : Nat} (h : n < c.length) : (opps c).take (n + 1) = (opps c).take n ++ [-(c.getD n 0)] := by
  rw [List.take_add_one]
  unfold opps
  rw [List.getElem?_map, List.getElem?_eq_getElem h, List.getD_eq_getElem?_getD, List.getElem?_eq_getElem h]; rfl
theorem follows12_l (cs : List (List Int)) (c : List Int) (hf : ∀ c ∈ cs, ∀ x ∈ c, fm x = true) (hc : ∀ x ∈ c, fm x = true) (hl : cs.length < 9223372036854775807) (h8 : ∀ c ∈ cs, c.length < 9223372036854775807) (hcl : c.length ≤ 17592186044416) : ∀ (d n : Nat), c.length - n = d → n ≤ c.length → Ev (fun k => depotref12_Follows.l0 k cs c ((opps c).take n) (n : Int)) (decide (Clash cs (opps c))) := by
  intro d
  induction d with
  | zero =>
    intro n hd hn
    rw [List.take_of_length_le (by rw [opps_len]; omega)]
    obtain ⟨r, r1, r2, r3, r4⟩ := closing 0 cs (opps c) hf (opps_fm hc) hl h8 (by rw [opps_len]; omega)
    have he : decide (Clash cs (opps c)) = r.2 := by
      cases hr : r.2 with
      | true => exact decide_eq_true (r3 hr)
      | false => exact decide_eq_false (r4 hr).1
    rw [he]
    refine Ev.step (fun k => ?_) (Ev.bind r1 (f := fun _ r => some r.2) (Ev.now _))
    simp only [depotref12_Follows.l0]
    rw [if_neg (by omega)]
  | succ d ih =>
    intro n hd hn
    have hlt : n < c.length := by omega
    have h := ih (n + 1) (by omega) (by omega)
    rw [opps_take hlt] at h
    refine Ev.step (fun k => ?_) h
    simp only [depotref12_Follows.l0]
    obtain ⟨_, f1, f2⟩ := fm_true (hc _ (get_mem 0 hlt))
    have hlen : ((opps c).take n).length ≤ n := List.length_take_le _ _
    rw [if_pos (by omega), if_pos (by omega), if_pos (by omega), rd_nat, wrap_neg f1 f2, wrap_nat (by omega)]
theorem follows12 (cs : List (List Int)) (c : List Int) (hf : ∀ c ∈ cs, ∀ x ∈ c, fm x = true) (hc : ∀ x ∈ c, fm x = true) (hl : cs.length < 9223372036854775807) (h8 : ∀ c ∈ cs, c.length < 9223372036854775807) (hcl : c.length ≤ 17592186044416) : Ev (fun k => depotref12_Follows.f k cs c) (decide (Clash cs (opps c))) := by
  have := follows12_l cs c hf hc hl h8 hcl _ 0 rfl (by omega)
  simpa [depotref12_Follows.f] using this

structure Fine (cs : List (List Int)) : Prop where
  f : ∀ c ∈ cs, ∀ x ∈ c, fm x = true
  l : ∀ c ∈ cs, c.length ≤ 4194304
theorem Fine.append {a b : List (List Int)} (h : Fine a) (k : Fine b) : Fine (a ++ b) := ⟨fun c hc => (List.mem_append.1 hc).elim (h.f c) (k.f c), fun c hc => (List.mem_append.1 hc).elim (h.l c) (k.l c)⟩
theorem Fine.of {a b : List (List Int)} (h : Fine a) (k : ∀ c ∈ b, c ∈ a) : Fine b := ⟨fun c hc => h.f c (k c hc), fun c hc => h.l c (k c hc)⟩

def Steps (cs added : List (List Int)) (n : Nat) : Prop := ∀ i, n ≤ i → i < added.length → Clash (cs ++ added.take i) (opps (added.getD i []))
def HoldsP (cs added : List (List Int)) : Prop := added ≠ [] ∧ added.getD (added.length - 1) [] = [] ∧ Steps cs added 0
theorem take_snoc {α : Type} {xs : List α} {n : Nat} (d : α) (h : n < xs.length) : xs.take (n + 1) = xs.take n ++ [xs.getD n d] := by
  rw [List.take_add_one, List.getD_eq_getElem?_getD, List.getElem?_eq_getElem h]; rfl
theorem holds12_l (cs added : List (List Int)) (hc : Fine cs) (ha : Fine added) (h1 : cs.length ≤ 4194304) (h2 : added.length ≤ 4194304) : ∀ (d n : Nat), added.length - n = d → n ≤ added.length → Ev (fun k => depotref12_Holds.l0 k added (cs ++ added.take n) (n : Int)) (decide (Steps cs added n)) := by
  intro d
  induction d with
  | zero =>
    intro n hd hn
    have : Steps cs added n := fun i h3 h4 => absurd h4 (by omega)
    rw [decide_eq_true this]
    refine Ev.step (f := fun _ => some true) (fun k => ?_) (Ev.now _)
    simp only [depotref12_Holds.l0]
    rw [if_neg (by omega)]
  | succ d ih =>
    intro n hd hn
    have hlt : n < added.length := by omega
    have hF : Fine (cs ++ added.take n) := hc.append (ha.of fun c hc => List.mem_of_mem_take hc)
    have hlen : (cs ++ added.take n).length ≤ 8388608 := by rw [List.length_append]; have := List.length_take_le n added; omega
    have hm := get_mem (xs := added) [] hlt
    have hfo := follows12 (cs ++ added.take n) (added.getD n []) hF.f (ha.f _ hm) (by omega) (fun c hc => by have := hF.l c hc; omega) (by have := ha.l _ hm; omega)
    by_cases hcl : Clash (cs ++ added.take n) (opps (added.getD n []))
    · have h := ih (n + 1) (by omega) (by omega)
      have e : decide (Steps cs added n) = decide (Steps cs added (n + 1)) := by
        rw [decide_eq_decide]
        refine ⟨fun h i h3 h4 => h i (by omega) h4, fun h i h3 h4 => ?_⟩
        by_cases e : i = n
        · subst e; exact hcl
        · exact h i (by omega) h4
      rw [e]
      rw [take_snoc [] hlt, ← List.append_assoc] at h
      rw [decide_eq_true hcl] at hfo
      refine Ev.step (fun k => ?_) (Ev.bind hfo (f := fun k t => if t = true then depotref12_Holds.l0 k added (cs ++ added.take n ++ [added.getD n []]) ((n + 1 : Nat) : Int) else some false) (by simpa using h))
      simp only [depotref12_Holds.l0]
      rw [if_pos (by omega), if_pos (by omega), rdL_nat, if_pos (by omega), wrap_nat (by omega)]
    · rw [decide_eq_false hcl] at hfo
      have : ¬ Steps cs added n := fun h => hcl (h n (Nat.le_refl _) hlt)
      rw [decide_eq_false this]
      refine Ev.step (fun k => ?_) (Ev.bind hfo (f := fun k t => if t = true then depotref12_Holds.l0 k added (cs ++ added.take n ++ [added.getD n []]) ((n + 1 : Nat) : Int) else some false) (by simpa using Ev.now (α := Bool) false))
      simp only [depotref12_Holds.l0]
      rw [if_pos (by omega), if_pos (by omega), rdL_nat, if_pos (by omega), wrap_nat (by omega)]
theorem copyAll (cs : List (List Int)) (hl : cs.length ≤ 5864062014805) (h8 : ∀ c ∈ cs, c.length ≤ 17592186044416) : Ev (fun k => depotref00_CopyClauses.f k cs) cs := by
  have := copyClauses_l cs hl h8 _ 0 [] rfl (by omega) rfl
  simpa [depotref00_CopyClauses.f] using this
theorem holds12 (cs added : List (List Int)) (hc : Fine cs) (ha : Fine added) (h1 : cs.length ≤ 4194304) (h2 : added.length ≤ 4194304) : Ev (fun k => depotref12_Holds.f k cs added) (decide (HoldsP cs added)) := by
  unfold depotref12_Holds.f
  by_cases h0 : added.length = 0
  · have : ¬ HoldsP cs added := fun h => h.1 (List.eq_nil_of_length_eq_zero h0)
    rw [decide_eq_false this]
    refine Ev.step (f := fun _ => some false) (fun k => ?_) (Ev.now _)
    rw [if_pos (by omega)]
    simp only [depotref12_Holds.j0]
    rfl
  · have hw : wrap64 ((added.length : Int) - 1) = ((added.length - 1 : Nat) : Int) := by unfold wrap64; omega
    rw [hw]
    simp only [rdL_nat]
    have hlt : added.length - 1 < added.length := by omega
    by_cases hz : (added.getD (added.length - 1) []).length = 0
    · have hz2 := List.eq_nil_of_length_eq_zero hz
      have h := holds12_l cs added hc ha h1 h2 _ 0 rfl (by omega)
      rw [List.take_zero, List.append_nil] at h
      have e : decide (HoldsP cs added) = decide (Steps cs added 0) := by
        rw [decide_eq_decide]
        exact ⟨fun h => h.2.2, fun h => ⟨fun e => h0 (by rw [e]; rfl), hz2, h⟩⟩
      rw [e]
      refine Ev.step (fun k => ?_) (Ev.bind (copyAll cs (by omega) (fun c hx => by have := hc.l c hx; omega)) (f := fun k t => depotref12_Holds.l0 k added t 0) h)
      rw [if_neg (by omega), if_pos (by omega), if_pos (by omega)]
      simp only [depotref12_Holds.j0]
      rw [if_neg (by rw [decide_eq_true_eq]; omega)]
    · have : ¬ HoldsP cs added := fun h => hz (by rw [h.2.1]; rfl)
      rw [decide_eq_false this]
      refine Ev.step (f := fun _ => some false) (fun k => ?_) (Ev.now _)
      rw [if_neg (by omega), if_pos (by omega), if_pos (by omega)]
      simp only [depotref12_Holds.j0]
      rw [if_pos (decide_eq_true (by omega))]

def addT (l : List S79) : List (List Int) := (l.filter fun s => !s.f0).map (·.f1)
theorem rdT_at (xs : List S79) (n : Nat) : rd_T79 xs (n : Int) = xs.getD n z79 := by simp [rd_T79]
theorem addT_len (l : List S79) : (addT l).length ≤ l.length := by unfold addT; rw [List.length_map]; exact List.length_filter_le _ _
theorem additions12_l (l : List S79) (hl : l.length ≤ 4194304) (h8 : ∀ s ∈ l, s.f1.length ≤ 4194304) : ∀ (d n : Nat) (acc : List (List Int)), l.length - n = d → n ≤ l.length → acc.length ≤ n → Ev (fun k => depotref12_Additions.l0 k l acc (n : Int)) (acc ++ addT (l.drop n)) := by
  intro d
  induction d with
  | zero =>
    intro n acc hd hn ha
    have : l.drop n = [] := List.drop_eq_nil_of_le (by omega)
    rw [this, show addT [] = [] from rfl, List.append_nil]
    refine Ev.step (f := fun _ => some acc) (fun k => ?_) (Ev.now _)
    simp only [depotref12_Additions.l0]
    rw [if_neg (by omega)]
  | succ d ih =>
    intro n acc hd hn ha
    have hlt : n < l.length := by omega
    have e := drop_get z79 hlt
    have hm := get_mem (xs := l) z79 hlt
    by_cases hd0 : (l.getD n z79).f0 = true
    · have h := ih (n + 1) acc (by omega) (by omega) (by omega)
      have e2 : addT (l.drop n) = addT (l.drop (n + 1)) := by rw [e]; unfold addT; rw [List.filter_cons_of_neg (by rw [hd0]; decide)]
      rw [e2]
      refine Ev.step (fun k => ?_) h
      simp only [depotref12_Additions.l0]
      rw [if_pos (by omega), if_pos (by omega), rdT_at, if_pos hd0, wrap_nat (by omega)]
    · have h := ih (n + 1) (acc ++ [(l.getD n z79).f1]) (by omega) (by omega) (by simp; omega)
      have e2 : addT (l.drop n) = (l.getD n z79).f1 :: addT (l.drop (n + 1)) := by rw [e]; unfold addT; rw [List.filter_cons_of_pos (by rw [Bool.eq_false_iff.2 hd0]; rfl)]; rfl
      rw [e2]
      rw [List.append_assoc, List.singleton_append] at h
      refine Ev.step (fun k => ?_) (Ev.bind (copyInts _ (by have := h8 _ hm; omega)) (f := fun k t => depotref12_Additions.l0 k l (acc ++ [t]) ((n + 1 : Nat) : Int)) h)
      simp only [depotref12_Additions.l0]
      rw [if_pos (by omega), if_pos (by omega), rdT_at, if_neg hd0, wrap_nat (by omega)]
      simp only [if_pos (show acc.length < 5864062014805 by omega)]
theorem additions12 (l : List S79) (hl : l.length ≤ 4194304) (h8 : ∀ s ∈ l, s.f1.length ≤ 4194304) : Ev (fun k => depotref12_Additions.f k l) (addT l) := by
  have := additions12_l l hl h8 _ 0 [] rfl (by omega) (by simp)
  simpa [depotref12_Additions.f] using this

theorem but12_l (l : List (List Int)) (hl : l.length ≤ 4194304) (x : Nat) : ∀ (d n : Nat) (acc : List (List Int)), l.length - n = d → n ≤ l.length → acc.length ≤ n → Ev (fun k => depotref12_but.l0 k l (x : Int) acc (n : Int)) (acc ++ if x < n then l.drop n else (l.drop n).eraseIdx (x - n)) := by
  intro d
  induction d with
  | zero =>
    intro n acc hd hn ha
    have : l.drop n = [] := List.drop_eq_nil_of_le (by omega)
    rw [this, show (if x < n then ([] : List (List Int)) else [].eraseIdx (x - n)) = [] by split <;> rfl, List.append_nil]
    refine Ev.step (f := fun _ => some acc) (fun k => ?_) (Ev.now _)
    simp only [depotref12_but.l0]
    rw [if_neg (by omega)]
  | succ d ih =>
    intro n acc hd hn ha
    have hlt : n < l.length := by omega
    have e := drop_get [] hlt
    by_cases hx : n = x
    · have h := ih (n + 1) acc (by omega) (by omega) (by omega)
      rw [if_pos (by omega)] at h
      rw [if_neg (by omega), show x - n = 0 by omega, e, List.eraseIdx_zero, List.tail_cons]
      refine Ev.step (fun k => ?_) h
      simp only [depotref12_but.l0]
      rw [if_pos (by omega), if_pos (by omega), wrap_nat (by omega)]
    · have h := ih (n + 1) (acc ++ [l.getD n []]) (by omega) (by omega) (by simp; omega)
      rw [List.append_assoc, List.singleton_append] at h
      have e2 : (if x < n then l.drop n else (l.drop n).eraseIdx (x - n)) = l.getD n [] :: (if x < n + 1 then l.drop (n + 1) else (l.drop (n + 1)).eraseIdx (x - (n + 1))) := by
        by_cases h1 : x < n
        · rw [if_pos h1, if_pos (by omega), e]
        · rw [if_neg h1, if_neg (by omega), e, show x - n = (x - (n + 1)) + 1 by omega, List.eraseIdx_cons_succ]
      rw [e2]
      refine Ev.step (fun k => ?_) h
      simp only [depotref12_but.l0]
      rw [if_pos (by omega), if_neg (by omega), if_pos (by omega), if_pos (by omega), rdL_nat, wrap_nat (by omega)]
theorem but12 (l : List (List Int)) (hl : l.length ≤ 4194304) (x : Nat) : Ev (fun k => depotref12_but.f k l (x : Int)) (l.eraseIdx x) := by
  have := but12_l l hl x _ 0 [] rfl (by omega) (by simp)
  simpa [depotref12_but.f] using this

theorem fine_erase {a : List (List Int)} (h : Fine a) (x : Nat) : Fine (a.eraseIdx x) := h.of fun c hc => List.mem_of_mem_eraseIdx hc
theorem erase_le {α : Type} (a : List α) (x : Nat) : (a.eraseIdx x).length ≤ a.length := by rw [List.length_eraseIdx]; split <;> omega
theorem spare12_l1 (cs added : List (List Int)) (hc : Fine cs) (ha : Fine added) (h1 : cs.length ≤ 4194304) (h2 : added.length ≤ 4194304) (hno : ∀ i, i + 1 < added.length → ¬ HoldsP cs (added.eraseIdx i)) : ∀ (d n : Nat), added.length - n = d → n ≤ added.length → Ev (fun k => depotref12_Spare.l1 k cs added (n : Int)) false := by
  intro d
  induction d with
  | zero =>
    intro n hd hn
    refine Ev.step (f := fun _ => some false) (fun k => ?_) (Ev.now _)
    simp only [depotref12_Spare.l1]
    rw [wrap_nat (by omega), if_neg (by omega)]
  | succ d ih =>
    intro n hd hn
    by_cases hlt : n + 1 < added.length
    · have h := ih (n + 1) (by omega) (by omega)
      have hh := holds12 cs (added.eraseIdx n) hc (fine_erase ha n) h1 (Nat.le_trans (erase_le _ _) h2)
      rw [decide_eq_false (hno n hlt)] at hh
      refine Ev.step (fun k => ?_) (Ev.bind (but12 added h2 n) (f := fun k t => (depotref12_Holds.f k cs t).bind fun b => if b = true then some true else depotref12_Spare.l1 k cs added ((n + 1 : Nat) : Int)) (Ev.bind hh (f := fun k b => if b = true then some true else depotref12_Spare.l1 k cs added ((n + 1 : Nat) : Int)) (by simpa using h)))
      simp only [depotref12_Spare.l1]
      rw [wrap_nat (by omega), if_pos (by omega)]
    · refine Ev.step (f := fun _ => some false) (fun k => ?_) (Ev.now _)
      simp only [depotref12_Spare.l1]
      rw [wrap_nat (by omega), if_neg (by omega)]
theorem spare12_l0 (cs added : List (List Int)) (hc : Fine cs) (ha : Fine added) (h1 : cs.length ≤ 4194304) (h2 : added.length ≤ 4194304) (hno : ∀ i, i + 1 < added.length → ¬ HoldsP cs (added.eraseIdx i)) (hnc : ∀ i, i < cs.length → ¬ HoldsP (cs.eraseIdx i) added) : ∀ (d n : Nat), cs.length - n = d → n ≤ cs.length → Ev (fun k => depotref12_Spare.l0 k cs added (n : Int)) false := by
  intro d
  induction d with
  | zero =>
    intro n hd hn
    refine Ev.step (fun k => ?_) (spare12_l1 cs added hc ha h1 h2 hno _ 0 rfl (by omega))
    simp only [depotref12_Spare.l0]
    rw [if_neg (by omega)]
    rfl
  | succ d ih =>
    intro n hd hn
    have h := ih (n + 1) (by omega) (by omega)
    have hh := holds12 (cs.eraseIdx n) added (fine_erase hc n) ha (Nat.le_trans (erase_le _ _) h1) h2
    rw [decide_eq_false (hnc n (by omega))] at hh
    refine Ev.step (fun k => ?_) (Ev.bind (but12 cs h1 n) (f := fun k t => (depotref12_Holds.f k t added).bind fun b => if b = true then some true else depotref12_Spare.l0 k cs added ((n + 1 : Nat) : Int)) (Ev.bind hh (f := fun k b => if b = true then some true else depotref12_Spare.l0 k cs added ((n + 1 : Nat) : Int)) (by simpa using h)))
    simp only [depotref12_Spare.l0]
    rw [if_pos (by omega), wrap_nat (by omega)]
theorem spare12 (cs added : List (List Int)) (hc : Fine cs) (ha : Fine added) (h1 : cs.length ≤ 4194304) (h2 : added.length ≤ 4194304) (hno : ∀ i, i + 1 < added.length → ¬ HoldsP cs (added.eraseIdx i)) (hnc : ∀ i, i < cs.length → ¬ HoldsP (cs.eraseIdx i) added) : Ev (fun k => depotref12_Spare.f k cs added) false := by
  have := spare12_l0 cs added hc ha h1 h2 hno hnc _ 0 rfl (by omega)
  simpa [depotref12_Spare.f] using this
end Go.Proofs.Ytfljggodnnpeiaa.Rf
