/- Part of the proof of ForwardLasts: what the law uses of the text CnD. -/
import Derived.Test.YtcaoobdbgdldaaaGreatDoorZPCnC
namespace Go.Proofs.YtcaoobdbgdldaaaGreatDoor.Cn
open Go.RowKit Go.Proofs.YtcaoobdbgdldaaaGreatDoor.Lit Go.Proofs.YtcaoobdbgdldaaaGreatDoor.Spr Go.Proofs.YtcaoobdbgdldaaaGreatDoor.P Go.Proofs.YtcaoobdbgdldaaaGreatDoorW.PrintWords Go.Proofs.YtcaoobdbgdldaaaGreatDoorW.PrintLast
set_option linter.unusedVariables false
set_option linter.unusedSimpArgs false

def tv (m : List Bool) (l : Int) : Bool := if l < 0 then !(m.getD (-l - 1).toNat false) else m.getD (l - 1).toNat false
def sat (cs : List (List Int)) (m : List Bool) : Bool := cs.all fun c => c.any (tv m)
theorem wrap_nat {n : Nat} (h : n < 9223372036854775807) : wrap64 ((n : Int) + 1) = ((n + 1 : Nat) : Int) := by unfold wrap64; omega
theorem rd_nat (xs : List Int) (n : Nat) : rd xs (n : Int) = xs.getD n 0 := by simp [rd]
theorem rdL_nat (xs : List (List Int)) (n : Nat) : rd_L1 xs (n : Int) = xs.getD n [] := by simp [rd_L1]
theorem drop_get {α : Type} {xs : List α} {n : Nat} (d : α) (h : n < xs.length) : xs.drop n = xs.getD n d :: xs.drop (n + 1) := by
  rw [List.drop_eq_getElem_cons h, List.getD_eq_getElem?_getD, List.getElem?_eq_getElem h]; rfl
theorem get_mem {α : Type} {xs : List α} {n : Nat} (d : α) (h : n < xs.length) : xs.getD n d ∈ xs := by
  rw [List.getD_eq_getElem?_getD, List.getElem?_eq_getElem h]; exact List.getElem_mem h
theorem var_f {x : Int} (h0 : x ≠ 0) (h1 : -1048576 ≤ x) (h2 : x ≤ 1048576) : lits_Var.f x = some (if x < 0 then -x else x) := by
  unfold lits_Var.f lits_Formed.f
  rw [if_neg h0, if_pos (by omega), Option.bind_some, if_pos (decide_eq_true h2)]
  by_cases h : x < 0
  · rw [if_pos h, if_pos h]; congr 1; unfold wrap64; omega
  · rw [if_neg h, if_neg h]
theorem holds_l (m : List Bool) (hm : m.length ≤ 1048576) (l : List Int) (hl : l.length < 9223372036854775807) (hw : ∀ x ∈ l, x ≠ 0 ∧ -(m.length : Int) ≤ x ∧ x ≤ m.length) : ∀ (d n : Nat), l.length - n = d → n ≤ l.length → Ev (fun k => cnf_holds.l0 k m l (l.length : Int) (n : Int)) ((l.drop n).any (tv m)) := by
  intro d
  induction d with
  | zero =>
    intro n hd hn
    rw [List.drop_eq_nil_of_le (by omega)]
    refine Ev.step (f := fun _ => some false) (fun k => ?_) (Ev.now _)
    simp only [cnf_holds.l0]
    rw [if_neg (by omega)]
  | succ d ih =>
    intro n hd hn
    have hlt : n < l.length := by omega
    have hx := hw _ (get_mem 0 hlt)
    rw [drop_get 0 hlt, List.any_cons]
    refine Ev.step (f := fun k => if tv m (l.getD n 0) = true then some true else cnf_holds.l0 k m l (l.length : Int) ((n + 1 : Nat) : Int)) (fun k => ?_) ?_
    · simp only [cnf_holds.l0]
      rw [if_pos (by omega), if_pos (by omega), if_pos (by omega), rd_nat, wrap_nat (n := n) (by omega)]
      generalize l.getD n 0 = x at hx
      rw [var_f hx.1 (by omega) (by omega), Option.bind_some]
      unfold tv rdOf
      by_cases h : x < 0
      · rw [if_pos h, if_pos h, show wrap64 (-x - 1) = -x - 1 by unfold wrap64; omega, if_pos (by omega), if_pos (by omega), decide_eq_false (by omega)]
        cases m.getD (-x - 1).toNat false <;> rfl
      · rw [if_neg h, if_neg h, show wrap64 (x - 1) = x - 1 by unfold wrap64; omega, if_pos (by omega), if_pos (by omega), decide_eq_true (by omega)]
        cases m.getD (x - 1).toNat false <;> rfl
    · by_cases h : tv m (l.getD n 0) = true
      · rw [h, Bool.true_or]
        exact Ev.congr (fun k => if_pos rfl) (Ev.now _)
      · rw [Bool.eq_false_iff.2 h, Bool.false_or]
        exact Ev.congr (fun k => if_neg (by decide)) (ih (n + 1) (by omega) (by omega))
theorem holds_ev (m : List Bool) (hm : m.length ≤ 1048576) (l : List Int) (hl : l.length < 9223372036854775807) (hw : ∀ x ∈ l, x ≠ 0 ∧ -(m.length : Int) ≤ x ∧ x ≤ m.length) : Ev (fun k => cnf_holds.f k l m) (l.any (tv m)) := by
  have h := holds_l m hm l hl hw _ 0 rfl (by omega)
  rw [List.drop_zero] at h
  exact h
theorem all_l (m : List Bool) (hm : m.length ≤ 1048576) (cs : List (List Int)) (hl : cs.length < 9223372036854775807) (h8 : ∀ c ∈ cs, c.length < 9223372036854775807) (hw : ∀ c ∈ cs, ∀ x ∈ c, x ≠ 0 ∧ -(m.length : Int) ≤ x ∧ x ≤ m.length) : ∀ (d n : Nat), cs.length - n = d → n ≤ cs.length → Ev (fun k => cnf_all.l0 k m cs (cs.length : Int) (n : Int)) ((cs.drop n).all fun c => c.any (tv m)) := by
  intro d
  induction d with
  | zero =>
    intro n hd hn
    rw [List.drop_eq_nil_of_le (by omega)]
    refine Ev.step (f := fun _ => some true) (fun k => ?_) (Ev.now _)
    simp only [cnf_all.l0]
    rw [if_neg (by omega)]
  | succ d ih =>
    intro n hd hn
    have hlt : n < cs.length := by omega
    have hmem := get_mem (xs := cs) [] hlt
    rw [drop_get [] hlt, List.all_cons]
    refine Ev.step (fun k => ?_) (Ev.bind (holds_ev m hm (cs.getD n []) (h8 _ hmem) (hw _ hmem)) (f := fun k t => if t = true then cnf_all.l0 k m cs (cs.length : Int) ((n + 1 : Nat) : Int) else some false) ?_)
    · simp only [cnf_all.l0]
      rw [if_pos (by omega), if_pos (by omega), if_pos (by omega), rdL_nat, wrap_nat (n := n) (by omega)]
    · by_cases h : (cs.getD n []).any (tv m) = true
      · rw [h, Bool.true_and]
        exact Ev.congr (fun k => by rw [if_pos rfl]) (ih (n + 1) (by omega) (by omega))
      · rw [Bool.eq_false_iff.2 h, Bool.false_and]
        exact Ev.congr (fun k => by rw [if_neg (by decide)]) (Ev.now _)
structure AFit (cs : List (List Int)) (n : Nat) : Prop where
  v : n ≤ 1048576
  l : cs.length ≤ 5864062014800
  c8 : ∀ c ∈ cs, c.length ≤ 17592186044416
  w : ∀ c ∈ cs, ∀ x ∈ c, x ≠ 0 ∧ -(n : Int) ≤ x ∧ x ≤ n
theorem all_any (v : Int) (A : Option Addr) (c0 : Nat) (cs : List (List Int)) (Am : Option Addr) (cm : Nat) (m : List Bool) (w : World) (hC : Kd.C kL w A cs.length cs) (hc0 : cs.length ≤ c0) (hM : Kd.C Kd.bool w Am m.length m) (hcm : m.length ≤ cm) (hF : AFit cs m.length) :
    Calls Tryz.prog 92 #[.agg #[.int .i64 v, .slice A cs.length c0], .slice Am m.length cm] w fun e w' => e = .returned (.bool (sat cs m)) ∧ Below w.heap.size w w' := by
  have h := all_l m hF.v cs (by have := hF.l; omega) (fun c hc => by have := hF.c8 c hc; omega) hF.w _ 0 rfl (by omega)
  rw [List.drop_zero] at h
  obtain ⟨k, hk⟩ := h.rounds
  exact cnf_all.calls k v A c0 cs Am cm m (sat cs m) w hC hc0 hM hcm hk

end Go.Proofs.YtcaoobdbgdldaaaGreatDoor.Cn
