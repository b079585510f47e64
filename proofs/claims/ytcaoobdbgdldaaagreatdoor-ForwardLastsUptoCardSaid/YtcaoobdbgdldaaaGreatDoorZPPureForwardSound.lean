/- Part of the proof of ForwardLasts: what the law uses of the text PureForwardSound. -/
import Derived.Test.YtcaoobdbgdldaaaGreatDoorZPRefX
import Derived.Test.YtcaoobdbgdldaaaGreatDoorZPFwM
import Derived.Test.YtcaoobdbgdldaaaGreatDoorZPCnH
import Derived.Test.YtcaoobdbgdldaaaGreatDoorZPJPorts
import Derived.Test.YtcaoobdbgdldaaaGreatDoorZPJP3
import Derived.Test.YtcaoobdbgdldaaaGreatDoorZPP7
namespace Go.Proofs.YtcaoobdbgdldaaaGreatDoor.Pure
open Go.RowKit Go.Proofs.YtcaoobdbgdldaaaGreatDoor.P Go.Proofs.YtcaoobdbgdldaaaGreatDoor.Lit Go.Proofs.YtcaoobdbgdldaaaGreatDoor.Spr Go.Proofs.YtcaoobdbgdldaaaGreatDoor.Rf Go.Proofs.YtcaoobdbgdldaaaGreatDoor.Fwd Go.Proofs.YtcaoobdbgdldaaaGreatDoorW.PrintWords Go.Proofs.YtcaoobdbgdldaaaGreatDoorW.PrintLast
set_option linter.unusedVariables false
set_option linter.unusedSimpArgs false

def maxL (m : Int) (c : List Int) : Int := c.foldl (fun m x => if (if x < 0 then -x else x) > m then (if x < 0 then -x else x) else m) m
def maxC (m : Int) (cs : List (List Int)) : Int := cs.foldl maxL m
theorem maxL_ge : ∀ (c : List Int) (m : Int), m ≤ maxL m c ∧ ∀ x ∈ c, -(maxL m c) ≤ x ∧ x ≤ maxL m c
  | [], m => ⟨Int.le_refl _, fun x hx => by cases hx⟩
  | y :: t, m => by
    obtain ⟨h1, h2⟩ := maxL_ge t (if (if y < 0 then -y else y) > m then (if y < 0 then -y else y) else m)
    have e : maxL m (y :: t) = maxL (if (if y < 0 then -y else y) > m then (if y < 0 then -y else y) else m) t := rfl
    rw [e]
    generalize maxL (if (if y < 0 then -y else y) > m then (if y < 0 then -y else y) else m) t = M at *
    refine ⟨?_, fun x hx => ?_⟩
    · split at h1 <;> omega
    · rcases List.mem_cons.1 hx with rfl | hx
      · split at h1 <;> split at h1 <;> omega
      · exact h2 x hx
theorem maxL_le : ∀ (c : List Int) (m B : Int), m ≤ B → (∀ x ∈ c, -B ≤ x ∧ x ≤ B) → maxL m c ≤ B
  | [], m, B, h, _ => h
  | y :: t, m, B, h, hx => by
    refine maxL_le t _ B ?_ fun x h => hx x (List.mem_cons_of_mem _ h)
    have := hx y List.mem_cons_self
    dsimp only
    split <;> split <;> omega
theorem maxC_ge : ∀ (cs : List (List Int)) (m : Int), m ≤ maxC m cs ∧ ∀ c ∈ cs, ∀ x ∈ c, -(maxC m cs) ≤ x ∧ x ≤ maxC m cs
  | [], m => ⟨Int.le_refl _, fun c hc => by cases hc⟩
  | c :: t, m => by
    obtain ⟨h1, h2⟩ := maxC_ge t (maxL m c)
    obtain ⟨h3, h4⟩ := maxL_ge c m
    have e : maxC m (c :: t) = maxC (maxL m c) t := rfl
    rw [e]
    refine ⟨by omega, fun d hd x hx => ?_⟩
    rcases List.mem_cons.1 hd with rfl | hd
    · have := h4 x hx; omega
    · exact h2 d hd x hx
theorem maxC_le : ∀ (cs : List (List Int)) (m B : Int), m ≤ B → (∀ c ∈ cs, ∀ x ∈ c, -B ≤ x ∧ x ≤ B) → maxC m cs ≤ B
  | [], m, B, h, _ => h
  | c :: t, m, B, h, hx => maxC_le t _ B (maxL_le c m B h (hx c List.mem_cons_self)) fun d hd => hx d (List.mem_cons_of_mem _ hd)
theorem var_f {x : Int} (h0 : x ≠ 0) (h1 : -1048576 ≤ x) (h2 : x ≤ 1048576) : lits_Var.f x = some (if x < 0 then -x else x) := by
  unfold lits_Var.f lits_Formed.f
  rw [if_neg h0, if_pos (by omega), Option.bind_some, if_pos (decide_eq_true h2)]
  by_cases h : x < 0
  · rw [if_pos h, if_pos h]; congr 1; unfold wrap64; omega
  · rw [if_neg h, if_neg h]
theorem narrow_in (v : Int) (cs cs2 : List (List Int)) (hl : cs.length < 9223372036854775807) (h8 : ∀ c ∈ cs, c.length < 9223372036854775807) (hw : ∀ c ∈ cs, ∀ x ∈ c, x ≠ 0 ∧ -1048576 ≤ x ∧ x ≤ 1048576) (n : Nat) (hn : n < cs.length) (r : Int × List (List Int)) :
    ∀ (d j : Nat) (m : Int), (cs.getD n []).length - j = d → j ≤ (cs.getD n []).length → Ev (fun k => depotlaw11_narrow.l0 k ((n + 1 : Nat) : Int) v cs (maxL m ((cs.getD n []).drop j)) cs2) r → Ev (fun k => depotlaw11_narrow.l1 k (n : Int) (j : Int) v cs m cs2) r := by
  have hmem := get_mem (xs := cs) [] hn
  have h8c := h8 _ hmem
  have hwc := hw _ hmem
  intro d
  induction d with
  | zero =>
    intro j m hd hj hE
    rw [List.drop_eq_nil_of_le (by omega)] at hE
    refine Ev.step (fun k => ?_) hE
    simp only [depotlaw11_narrow.l1]
    rw [if_pos (by omega), if_pos (by omega), rdL_nat, if_neg (by omega), wrap_nat (n := n) (by omega)]
    rfl
  | succ d ih =>
    intro j m hd hj hE
    have hlt : j < (cs.getD n []).length := by omega
    have hx := hwc _ (get_mem 0 hlt)
    rw [drop_get 0 hlt] at hE
    refine Ev.step (fun k => ?_) (ih (j + 1) (if (if (cs.getD n []).getD j 0 < 0 then -((cs.getD n []).getD j 0) else (cs.getD n []).getD j 0) > m then (if (cs.getD n []).getD j 0 < 0 then -((cs.getD n []).getD j 0) else (cs.getD n []).getD j 0) else m) (by omega) (by omega) hE)
    simp only [depotlaw11_narrow.l1]
    rw [if_pos (by omega), if_pos (by omega), rdL_nat, if_pos (by omega), if_pos (by omega), rd_nat, var_f hx.1 (by omega) (by omega), Option.bind_some, wrap_nat (n := j) (by omega)]
    generalize (if (cs.getD n []).getD j 0 < 0 then -((cs.getD n []).getD j 0) else (cs.getD n []).getD j 0) = y
    by_cases h : y > m
    · rw [if_pos h, if_pos h]
    · rw [if_neg h, if_neg h]
theorem narrow_out (v : Int) (cs cs2 : List (List Int)) (hl : cs.length < 9223372036854775807) (h8 : ∀ c ∈ cs, c.length < 9223372036854775807) (hw : ∀ c ∈ cs, ∀ x ∈ c, x ≠ 0 ∧ -1048576 ≤ x ∧ x ≤ 1048576) :
    ∀ (d n : Nat) (m : Int), cs.length - n = d → n ≤ cs.length → Ev (fun k => depotlaw11_narrow.l0 k (n : Int) v cs m cs2) (maxC m (cs.drop n), cs2) := by
  intro d
  induction d with
  | zero =>
    intro n m hd hn
    rw [List.drop_eq_nil_of_le (by omega)]
    refine Ev.step (f := fun _ => some (m, cs2)) (fun k => ?_) (Ev.now _)
    simp only [depotlaw11_narrow.l0]
    rw [if_neg (by omega)]
  | succ d ih =>
    intro n m hd hn
    have hlt : n < cs.length := by omega
    rw [drop_get [] hlt]
    have h := ih (n + 1) (maxL m (cs.getD n [])) (by omega) (by omega)
    refine Ev.step (fun k => ?_) (narrow_in v cs cs2 hl h8 hw n hlt _ _ 0 m rfl (by omega) (by rw [List.drop_zero]; exact h))
    simp only [depotlaw11_narrow.l0]
    rw [if_pos (by omega)]
    rfl
theorem narrow_ev (v : Int) (cs : List (List Int)) (hl : cs.length ≤ 2097152) (h8 : ∀ c ∈ cs, c.length ≤ 2097152) (hw : ∀ c ∈ cs, ∀ x ∈ c, x ≠ 0 ∧ -1048576 ≤ x ∧ x ≤ 1048576) : Ev (fun k => depotlaw11_narrow.f k v cs) (maxC 0 cs, cs) := by
  unfold depotlaw11_narrow.f
  refine Ev.bind (copyFormula v cs (by omega) (fun c hc => by have := h8 c hc; omega)) ?_
  have h := narrow_out v cs cs (by omega) (fun c hc => by have := h8 c hc; omega) hw _ 0 0 rfl (by omega)
  rw [List.drop_zero] at h
  exact h

theorem narrow_formed {v : Int} {cs : List (List Int)} (h : formedB v cs = true) : 0 ≤ maxC 0 cs ∧ maxC 0 cs ≤ 1048576 ∧ formedB (maxC 0 cs) cs = true := by
  have hF := h
  unfold formedB at h
  simp only [Bool.and_eq_true, decide_eq_true_eq] at h
  obtain ⟨⟨hv0, hv1⟩, ha⟩ := h
  have hr : ∀ c ∈ cs, ∀ x ∈ c, fm x = true ∧ x ≠ 0 ∧ -v ≤ x ∧ x ≤ v := fun c hc x hx => by
    have h := List.all_eq_true.1 ha c hc
    unfold withinB at h
    rw [Bool.and_eq_true] at h
    have h1 := List.all_eq_true.1 h.1 x hx
    have h2 := of_decide_eq_true (List.all_eq_true.1 h.2 x hx)
    have h3 := fm_true h1
    unfold lv at h2
    rw [if_pos h1] at h2
    refine ⟨h1, h3.1, ?_⟩
    split at h2 <;> omega
  obtain ⟨h1, h2⟩ := maxC_ge cs 0
  have h3 := maxC_le cs 0 v hv0 fun c hc x hx => (hr c hc x hx).2.2
  refine ⟨h1, by omega, ?_⟩
  unfold formedB
  simp only [Bool.and_eq_true, decide_eq_true_eq]
  refine ⟨⟨h1, by omega⟩, List.all_eq_true.2 fun c hc => ?_⟩
  unfold withinB
  rw [Bool.and_eq_true]
  refine ⟨List.all_eq_true.2 fun x hx => (hr c hc x hx).1, List.all_eq_true.2 fun x hx => decide_eq_true ?_⟩
  have := h2 c hc x hx
  unfold lv
  rw [if_pos (hr c hc x hx).1]
  split <;> omega

end Go.Proofs.YtcaoobdbgdldaaaGreatDoor.Pure
