/- Part of the proof of TrimRight: what the law uses of the text EvA. -/
import Derived.Test.YtfljggodnnpeiaaZRJPortsV
import Derived.Test.YtfljggodnnpeiaaZRJJoin
namespace Go.Proofs.Ytfljggodnnpeiaa.Rf
open Go.RowKit Go.Proofs.Ytfljggodnnpeiaa.P Go.Proofs.Ytfljggodnnpeiaa.Lit Go.Proofs.Ytfljggodnnpeiaa.Spr Go.Proofs.YtfljggodnnpeiaaW.PrintWords Go.Proofs.YtfljggodnnpeiaaW.PrintLast
set_option linter.unusedVariables false
set_option linter.unusedSimpArgs false

theorem wrap_nat {n : Nat} (h : n < 9223372036854775807) : wrap64 ((n : Int) + 1) = ((n + 1 : Nat) : Int) := by unfold wrap64; omega
theorem rd_nat (xs : List Int) (n : Nat) : rd xs (n : Int) = xs.getD n 0 := by simp [rd]
theorem rdL_nat (xs : List (List Int)) (n : Nat) : rd_L2 xs (n : Int) = xs.getD n [] := by simp [rd_L2]
theorem drop_get {α : Type} {xs : List α} {n : Nat} (d : α) (h : n < xs.length) : xs.drop n = xs.getD n d :: xs.drop (n + 1) := by
  rw [List.drop_eq_getElem_cons h, List.getD_eq_getElem?_getD, List.getElem?_eq_getElem h]; rfl
theorem get_mem {α : Type} {xs : List α} {n : Nat} (d : α) (h : n < xs.length) : xs.getD n d ∈ xs := by
  rw [List.getD_eq_getElem?_getD, List.getElem?_eq_getElem h]; exact List.getElem_mem h

theorem copyInts_l (l : List Int) (hl : l.length ≤ 17592186044416) : ∀ (d n : Nat) (acc : List Int), l.length - n = d → n ≤ l.length → acc.length = n → Ev (fun k => depotref00_CopyInts.l0 k l acc (n : Int)) (acc ++ l.drop n) := by
  intro d
  induction d with
  | zero =>
    intro n acc hd hn ha
    have : l.drop n = [] := List.drop_eq_nil_of_le (by omega)
    rw [this, List.append_nil]
    refine Ev.step (f := fun _ => some acc) (fun k => ?_) (Ev.now _)
    simp only [depotref00_CopyInts.l0]
    rw [if_neg (by omega)]
  | succ d ih =>
    intro n acc hd hn ha
    have hlt : n < l.length := by omega
    have := ih (n + 1) (acc ++ [l.getD n 0]) (by omega) (by omega) (by simp [ha])
    rw [drop_get 0 hlt]
    rw [List.append_assoc, List.singleton_append] at this
    refine Ev.step (fun k => ?_) this
    simp only [depotref00_CopyInts.l0]
    rw [if_pos (by omega), if_pos (by omega), if_pos (by omega), rd_nat, wrap_nat (by omega)]
theorem copyInts (l : List Int) (hl : l.length ≤ 17592186044416) : Ev (fun k => depotref00_CopyInts.f k l) l := by
  have := copyInts_l l hl _ 0 [] rfl (by omega) rfl
  simpa [depotref00_CopyInts.f] using this

theorem copyClauses_l (cs : List (List Int)) (hl : cs.length ≤ 5864062014805) (h8 : ∀ c ∈ cs, c.length ≤ 17592186044416) : ∀ (d n : Nat) (acc : List (List Int)), cs.length - n = d → n ≤ cs.length → acc.length = n → Ev (fun k => depotref00_CopyClauses.l0 k cs acc (n : Int)) (acc ++ cs.drop n) := by
  intro d
  induction d with
  | zero =>
    intro n acc hd hn ha
    have : cs.drop n = [] := List.drop_eq_nil_of_le (by omega)
    rw [this, List.append_nil]
    refine Ev.step (f := fun _ => some acc) (fun k => ?_) (Ev.now _)
    simp only [depotref00_CopyClauses.l0]
    rw [if_neg (by omega)]
  | succ d ih =>
    intro n acc hd hn ha
    have hlt : n < cs.length := by omega
    have := ih (n + 1) (acc ++ [cs.getD n []]) (by omega) (by omega) (by simp [ha])
    rw [drop_get [] hlt]
    rw [List.append_assoc, List.singleton_append] at this
    refine Ev.step (fun k => ?_) (Ev.bind (copyInts (cs.getD n []) (h8 _ (get_mem [] hlt))) (f := fun k t => depotref00_CopyClauses.l0 k cs (acc ++ [t]) ((n + 1 : Nat) : Int)) this)
    simp only [depotref00_CopyClauses.l0]
    rw [if_pos (by omega), if_pos (by omega), rdL_nat, wrap_nat (by omega)]
    simp only [if_pos (show acc.length < 5864062014805 by omega)]
theorem copyFormula (v : Int) (cs : List (List Int)) (hl : cs.length ≤ 5864062014805) (h8 : ∀ c ∈ cs, c.length ≤ 17592186044416) : Ev (fun k => depotref00_CopyFormula.f k v cs) (v, cs) := by
  have := copyClauses_l cs hl h8 _ 0 [] rfl (by omega) rfl
  have h2 : Ev (fun k => depotref00_CopyClauses.f k cs) cs := by simpa [depotref00_CopyClauses.f] using this
  exact Ev.bind h2 (Ev.now _)

end Go.Proofs.Ytfljggodnnpeiaa.Rf
