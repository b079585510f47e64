/- Part of the proof of ForwardRuns: what the law uses of the text RefY. -/
import Derived.Test.YtcaoobdbgdldaaaDoorZPP4
import Derived.Test.YtcaoobdbgdldaaaDoorZPUpD
namespace Go.Proofs.YtcaoobdbgdldaaaDoor.Rf
open Go.RowKit Go.Proofs.YtcaoobdbgdldaaaDoor.P Go.Proofs.YtcaoobdbgdldaaaDoor.Lit Go.Proofs.YtcaoobdbgdldaaaDoor.Spr Go.Proofs.YtcaoobdbgdldaaaDoorW.PrintWords Go.Proofs.YtcaoobdbgdldaaaDoorW.PrintLast
set_option linter.unusedVariables false
set_option linter.unusedSimpArgs false

theorem wrap_nat {n : Nat} (h : n < 9223372036854775807) : wrap64 ((n : Int) + 1) = ((n + 1 : Nat) : Int) := by unfold wrap64; omega
theorem rd_nat (xs : List Int) (n : Nat) : rd xs (n : Int) = xs.getD n 0 := by simp [rd]
theorem drop_get {α : Type} {xs : List α} {n : Nat} (d : α) (h : n < xs.length) : xs.drop n = xs.getD n d :: xs.drop (n + 1) := by
  rw [List.drop_eq_getElem_cons h, List.getD_eq_getElem?_getD, List.getElem?_eq_getElem h]; rfl
theorem get_mem {α : Type} {xs : List α} {n : Nat} (d : α) (h : n < xs.length) : xs.getD n d ∈ xs := by
  rw [List.getD_eq_getElem?_getD, List.getElem?_eq_getElem h]; exact List.getElem_mem h

theorem copyInts_l (l : List Int) (hl : l.length ≤ 17592186044416) : ∀ (d n : Nat) (acc : List Int), l.length - n = d → n ≤ l.length → acc.length = n → Ev (fun k => depotref00_CopyInts.l0 k l acc (n : Int)) (acc ++ l.drop n) := by
  intro d
  induction d with
  | zero =>
    intro n acc hd hn ha
    have : l.drop n = [] := List.drop_eq_nil_of_le (by omega)
    rw [this, List.append_nil]
    refine Ev.step (f := fun _ => some acc) (fun k => ?_) (Ev.now _)
    simp only [depotref00_CopyInts.l0]
    rw [if_neg (by omega)]
  | succ d ih =>
    intro n acc hd hn ha
    have hlt : n < l.length := by omega
    have := ih (n + 1) (acc ++ [l.getD n 0]) (by omega) (by omega) (by simp [ha])
    rw [drop_get 0 hlt]
    rw [List.append_assoc, List.singleton_append] at this
    refine Ev.step (fun k => ?_) this
    simp only [depotref00_CopyInts.l0]
    rw [if_pos (by omega), if_pos (by omega), if_pos (by omega), rd_nat, wrap_nat (by omega)]
theorem copyInts (l : List Int) (hl : l.length ≤ 17592186044416) : Ev (fun k => depotref00_CopyInts.f k l) l := by
  have := copyInts_l l hl _ 0 [] rfl (by omega) rfl
  simpa [depotref00_CopyInts.f] using this

theorem rdT_nat (xs : List S37) (n : Nat) : rd_T37 xs (n : Int) = xs.getD n z37 := by simp [rd_T37]
theorem copySteps_l (l : List S37) (hl : l.length ≤ 4398046511104) (h8 : ∀ s ∈ l, s.f1.length ≤ 17592186044416) : ∀ (d n : Nat) (acc : List S37), l.length - n = d → n ≤ l.length → acc.length = n → Ev (fun k => depotref00_CopySteps.l0 k l acc (n : Int)) (acc ++ l.drop n) := by
  intro d
  induction d with
  | zero =>
    intro n acc hd hn ha
    have : l.drop n = [] := List.drop_eq_nil_of_le (by omega)
    rw [this, List.append_nil]
    refine Ev.step (f := fun _ => some acc) (fun k => ?_) (Ev.now _)
    simp only [depotref00_CopySteps.l0]
    rw [if_neg (by omega)]
  | succ d ih =>
    intro n acc hd hn ha
    have hlt : n < l.length := by omega
    have := ih (n + 1) (acc ++ [l.getD n z37]) (by omega) (by omega) (by simp [ha])
    rw [drop_get z37 hlt]
    rw [List.append_assoc, List.singleton_append] at this
    refine Ev.step (fun k => ?_) (Ev.bind (copyInts (l.getD n z37).f1 (h8 _ (get_mem z37 hlt))) (f := fun k t => depotref00_CopySteps.l0 k l (acc ++ [⟨(l.getD n z37).f0, t⟩]) ((n + 1 : Nat) : Int)) this)
    simp only [depotref00_CopySteps.l0]
    rw [if_pos (by omega), if_pos (by omega), rdT_nat, wrap_nat (by omega)]
    simp only [if_pos (show acc.length < 4398046511104 by omega)]
theorem copySteps (l : List S37) (hl : l.length ≤ 4398046511104) (h8 : ∀ s ∈ l, s.f1.length ≤ 17592186044416) : Ev (fun k => depotref00_CopySteps.f k l) l := by
  have := copySteps_l l hl h8 _ 0 [] rfl (by omega) rfl
  simpa [depotref00_CopySteps.f] using this

end Go.Proofs.YtcaoobdbgdldaaaDoor.Rf
