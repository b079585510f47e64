/- Part of the proof of TopProof: what the law uses of the text PureTopProof. -/
import Derived.Test.YtcaoobdbgdldaaaGreatDoorZPRefZ
import Derived.Test.YtcaoobdbgdldaaaGreatDoorZPFwM
import Derived.Test.YtcaoobdbgdldaaaGreatDoorZPP5
namespace Go.Proofs.YtcaoobdbgdldaaaGreatDoor.Pure
open Go.RowKit Go.Proofs.YtcaoobdbgdldaaaGreatDoor.P Go.Proofs.YtcaoobdbgdldaaaGreatDoor.Lit Go.Proofs.YtcaoobdbgdldaaaGreatDoor.Spr Go.Proofs.YtcaoobdbgdldaaaGreatDoor.Rf Go.Proofs.YtcaoobdbgdldaaaGreatDoor.Fwd Go.Proofs.YtcaoobdbgdldaaaGreatDoorW.PrintWords Go.Proofs.YtcaoobdbgdldaaaGreatDoorW.PrintLast
set_option linter.unusedVariables false

theorem checks11 : depottop_checks.f = some true := by decide +kernel

theorem TopProof (v : Int) (cs : List (List Int)) (l : List S42) (m : List Bool) (h1 : cs.length ≤ 2097152) (h2 : ∀ c ∈ cs, c.length ≤ 2097152) (h3 : l.length ≤ 2097152) (h4 : ∀ s ∈ l, s.f1.length ≤ 2097152) : ∃ k, depottop_TopProof.f k v cs l m = some true := by
  have h82 : ∀ c ∈ cs, c.length < 9223372036854775807 := fun c hc => by have := h2 c hc; omega
  have hcf : CFits cs l := ⟨h1, h2, h3, h4⟩
  have hck : forward_Check.f v cs l = some (checkW v cs (l.map fun s => (s.f0, s.f1))) := by unfold forward_Check.f; rw [if_pos hcf]
  refine Ev.rounds ?_
  unfold depottop_TopProof.f
  refine Ev.bind (a := true) (Ev.congr (fun k => checks11) (Ev.now _)) (Ev.congr (fun k => if_pos rfl) ?_)
  refine Ev.bind (copyFormula v cs (by omega) (fun c hc => by have := h2 c hc; omega)) ?_
  refine Ev.bind (copySteps l (by omega) (fun s hs => by have := h4 s hs; omega)) ?_
  refine Ev.bind (a := checkW v cs (l.map fun s => (s.f0, s.f1))) (Ev.congr (fun k => hck) (Ev.now _)) ?_
  refine Ev.bind (formed02 v cs (by omega) h82) ?_
  by_cases hf : formedB v cs = true
  · refine Ev.congr (fun k => if_pos hf) ?_
    obtain ⟨hv, hw⟩ := formed_win hf
    have h0 : (checkW v cs (l.map fun s => (s.f0, s.f1))).2.2 = 0 := by unfold checkW; rw [if_pos hf]
    refine Ev.congr (fun k => if_pos h0) ?_
    by_cases hc : (checkW v cs (l.map fun s => (s.f0, s.f1))).1 = 1
    · have hsat : (cs.all fun c => c.any (mk (fitL m v.toNat))) = false := by
        refine Bool.eq_false_iff.2 fun ht => check_sound (fun c hc x hx => (hw c hc x hx).1) hc (mk (fitL m v.toNat)) (fun x hx => mk_neg _ hx) fun c hc => ?_
        exact List.any_eq_true.1 (List.all_eq_true.1 ht c hc)
      have hs := satisfies02 v cs (fitL m v.toNat) (by omega) h82 hf (by rw [fitL_len]; omega)
      rw [hsat] at hs
      have hfi : depottop_fitted.f m v = some (fitL m v.toNat) := by unfold depottop_fitted.f; rw [if_pos hv]
      refine Ev.step (f := fun k => (depottop_fitted.f m v).bind fun t200 => ((depotref02_Satisfies.f k v cs t200).bind fun t203 => (some (!t203)))) (fun k => ?_) (Ev.bind (a := fitL m v.toNat) (Ev.congr (fun k => hfi) (Ev.now _)) (Ev.bind hs (Ev.now _)))
      simp only [depottop_TopProof.j0]
      rw [hc, if_neg (by decide)]
    · refine Ev.step (f := fun _ => some true) (fun k => ?_) (Ev.now _)
      simp only [depottop_TopProof.j0]
      rw [show ((checkW v cs (l.map fun s => (s.f0, s.f1))).1 != 1) = true from by simpa using hc, if_pos rfl, h0]
      rfl
  · refine Ev.congr (fun k => if_neg hf) ?_
    have h1 : (checkW v cs (l.map fun s => (s.f0, s.f1))).2.2 = 1 := by unfold checkW; rw [if_neg hf]
    rw [h1]
    exact Ev.now _

end Go.Proofs.YtcaoobdbgdldaaaGreatDoor.Pure
