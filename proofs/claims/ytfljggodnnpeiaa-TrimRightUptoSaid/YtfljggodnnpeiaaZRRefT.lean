/- Part of the proof of TrimRight: what the law uses of the text RefT. -/
import Derived.Test.YtfljggodnnpeiaaZREvA
import Derived.Test.YtfljggodnnpeiaaZRJPortsV
import Derived.Test.YtfljggodnnpeiaaZRJPorts
namespace Go.Proofs.Ytfljggodnnpeiaa.Rf
open Go.RowKit Go.Proofs.Ytfljggodnnpeiaa.P Go.Proofs.Ytfljggodnnpeiaa.Lit Go.Proofs.Ytfljggodnnpeiaa.Spr Go.Proofs.YtfljggodnnpeiaaW.PrintWords Go.Proofs.YtfljggodnnpeiaaW.PrintLast
set_option linter.unusedVariables false
set_option linter.unusedSimpArgs false

theorem rdT_nat (xs : List S79) (n : Nat) : rd_T79 xs (n : Int) = xs.getD n z79 := by simp [rd_T79]
theorem copySteps_l (l : List S79) (hl : l.length ≤ 4398046511104) (h8 : ∀ s ∈ l, s.f1.length ≤ 17592186044416) : ∀ (d n : Nat) (acc : List S79), l.length - n = d → n ≤ l.length → acc.length = n → Ev (fun k => depotref00_CopySteps.l0 k l acc (n : Int)) (acc ++ l.drop n) := by
  intro d
  induction d with
  | zero =>
    intro n acc hd hn ha
    have : l.drop n = [] := List.drop_eq_nil_of_le (by omega)
    rw [this, List.append_nil]
    refine Ev.step (f := fun _ => some acc) (fun k => ?_) (Ev.now _)
    simp only [depotref00_CopySteps.l0]
    rw [if_neg (by omega)]
  | succ d ih =>
    intro n acc hd hn ha
    have hlt : n < l.length := by omega
    have := ih (n + 1) (acc ++ [l.getD n z79]) (by omega) (by omega) (by simp [ha])
    rw [drop_get z79 hlt]
    rw [List.append_assoc, List.singleton_append] at this
    refine Ev.step (fun k => ?_) (Ev.bind (copyInts (l.getD n z79).f1 (h8 _ (get_mem z79 hlt))) (f := fun k t => depotref00_CopySteps.l0 k l (acc ++ [⟨(l.getD n z79).f0, t⟩]) ((n + 1 : Nat) : Int)) this)
    simp only [depotref00_CopySteps.l0]
    rw [if_pos (by omega), if_pos (by omega), rdT_nat, wrap_nat (by omega)]
    simp only [if_pos (show acc.length < 4398046511104 by omega)]
theorem copySteps (l : List S79) (hl : l.length ≤ 4398046511104) (h8 : ∀ s ∈ l, s.f1.length ≤ 17592186044416) : Ev (fun k => depotref00_CopySteps.f k l) l := by
  have := copySteps_l l hl h8 _ 0 [] rfl (by omega) rfl
  simpa [depotref00_CopySteps.f] using this

end Go.Proofs.Ytfljggodnnpeiaa.Rf
