/- Part of the proof of ForwardScript: what the law uses of the text ScS. -/
import Derived.Test.YtcaoobdbgdldaaaGreatDoorZPScU
import Derived.Test.YtcaoobdbgdldaaaGreatDoorZPScM
namespace Go.Proofs.YtcaoobdbgdldaaaGreatDoor.Sc
open Go.RowKit Go.Proofs.YtcaoobdbgdldaaaGreatDoor.Lit Go.Proofs.YtcaoobdbgdldaaaGreatDoor.Spr Go.Proofs.YtcaoobdbgdldaaaGreatDoor.Rf Go.Proofs.YtcaoobdbgdldaaaGreatDoor.Rfw Go.Proofs.YtcaoobdbgdldaaaGreatDoor.Cl
open Go.Proofs.YtcaoobdbgdldaaaGreatDoor.Fwd (Fw addW dropW putW goneW knownR refusesR kindF newW)
set_option linter.unusedVariables false
set_option linter.unusedSimpArgs false

def un (F : Fw) : Fw := { F with done := false }
structure SRel (F : Fw) (A : List (List Int)) (o : Bool) : Prop where
  rel : Rel (un F) A
  dn : F.done = o
  nd : ND F
theorem ref_not {F : Fw} {c : List Int} (hs : c.all Lit.fm = false) : refusesR F c = 1 := by unfold refusesR; rw [if_neg (by rw [hs]; decide)]
theorem ref_over {F : Fw} {c : List Int} (hs : c.all Lit.fm = true) (hd : F.done = true) : refusesR F c = 3 := by unfold refusesR; rw [if_pos hs, if_pos hd]
theorem ref_ok {F : Fw} {c : List Int} (hs : c.all Lit.fm = true) (hd : F.done = false) : refusesR F c = 0 := by unfold refusesR; rw [if_pos hs, if_neg (by rw [hd]; decide)]

theorem add_same {F : Fw} {A : List (List Int)} {o : Bool} (h : SRel F A o) (c : List Int) : (addW F c).1 = (rAdd A o c).1 ∧ (addW F c).2.1 = (rAdd A o c).2.1 ∧ SRel (addW F c).2.2 (rAdd A o c).2.2.1 (rAdd A o c).2.2.2 := by
  have hn := h.nd.add c
  cases hs : c.all Lit.fm with
  | false =>
    have e1 : addW F c = (0, 1, F) := by unfold addW; rw [ref_not hs, if_neg (by decide)]
    have e2 : rAdd A o c = (0, 1, A, o) := by unfold rAdd; rw [if_neg (by rw [hs]; decide)]
    rw [e1, e2]
    exact ⟨rfl, rfl, h⟩
  | true =>
    cases ho : o with
    | true =>
      have e1 : addW F c = (0, 3, F) := by unfold addW; rw [ref_over hs (h.dn.trans ho), if_neg (by decide)]
      have e2 : rAdd A true c = (0, 3, A, true) := by unfold rAdd; rw [if_pos hs, if_pos rfl]
      rw [e1, e2]
      rw [ho] at h
      exact ⟨rfl, rfl, h⟩
    | false =>
      rw [ho] at h
      have hk := h.rel.kind hs
      have hkf : (kindF F.vars F.all c).1 = (kindA 1048576 A c).1 := by
        have hf := h.rel.formed
        unfold kindF
        rw [show formedB F.vars F.all = true from hf, hs, if_pos (show (true && true) = true from rfl)]
        exact hk
      have e1 : addW F c = if (kindA 1048576 A c).1 = 0 then (0, 0, F) else ((kindA 1048576 A c).1, 0, { putW F c with done := decide (c.length = 0) }) := by unfold addW; rw [ref_ok hs h.dn, if_pos rfl, hkf]
      have e2 : rAdd A false c = if (kindA 1048576 A c).1 = 0 then (0, 0, A, false) else ((kindA 1048576 A c).1, 0, A ++ [c], decide (c.length = 0)) := by unfold rAdd; rw [if_pos hs, if_neg (by decide)]
      by_cases h0 : (kindA 1048576 A c).1 = 0
      · rw [if_pos h0] at e1 e2
        rw [e1, e2]
        exact ⟨rfl, rfl, h⟩
      · rw [if_neg h0] at e1 e2
        rw [e1] at hn
        rw [e1, e2]
        exact ⟨rfl, rfl, h.rel.put (List.all_eq_true.1 hs), rfl, hn⟩
theorem drop_same {F : Fw} {A : List (List Int)} {o : Bool} (h : SRel F A o) (c : List Int) : (dropW F c).1 = (rDrop A o c).1 ∧ (dropW F c).2.1 = (rDrop A o c).2.1 ∧ SRel (dropW F c).2.2 (rDrop A o c).2.2 o := by
  have hn := h.nd.drop c
  cases hs : c.all Lit.fm with
  | false =>
    have e1 : dropW F c = (0, 1, F) := by unfold dropW; rw [ref_not hs, if_neg (by decide)]
    have e2 : rDrop A o c = (0, 1, A) := by unfold rDrop; rw [if_neg (by rw [hs]; decide)]
    rw [e1, e2]
    exact ⟨rfl, rfl, h⟩
  | true =>
    cases ho : o with
    | true =>
      have e1 : dropW F c = (0, 3, F) := by unfold dropW; rw [ref_over hs (h.dn.trans ho), if_neg (by decide)]
      have e2 : rDrop A true c = (0, 3, A) := by unfold rDrop; rw [if_pos hs, if_pos rfl]
      rw [e1, e2]
      rw [ho] at h
      exact ⟨rfl, rfl, h⟩
    | false =>
      rw [ho] at h
      have hc := List.all_eq_true.1 hs
      have eD : dropW F c = if F.ms.count (tidyL c) = 0 then (0, 0, F) else (if knownR F (tidyL c) = true then (2, 0, F) else (1, 0, goneW F (tidyL c))) := by unfold dropW; rw [ref_ok hs h.dn, if_pos rfl]
      have eR : rDrop A false c = if atN A c A.length < 0 then (0, 0, A) else (if rKnown A c = true then (2, 0, A) else (1, 0, outN A (atN A c A.length) A.length)) := by unfold rDrop; rw [if_pos hs, if_neg (by decide)]
      have hkn : knownR F (tidyL c) = rKnown A c := h.rel.known hc
      rcases at_spec A c A.length with ⟨h1, h2⟩ | ⟨p, h1, h2, h3⟩
      · have hcn : F.ms.count (tidyL c) = 0 := List.count_eq_zero.2 fun hm => by
          obtain ⟨a, ha, e⟩ := (h.rel.mem _).1 hm
          obtain ⟨j, hj, ej⟩ := List.getElem_of_mem ha
          exact h2 j hj (by rw [List.getD_eq_getElem?_getD, List.getElem?_eq_getElem hj]; show tidyL A[j] = _; rw [ej, e])
        rw [if_pos hcn] at eD
        rw [if_pos h1] at eR
        rw [eD, eR]
        exact ⟨rfl, rfl, h⟩
      · have hmA : A.getD p [] ∈ A := get_nth [] h2
        have hcn : ¬ F.ms.count (tidyL c) = 0 := fun e => (List.count_eq_zero.1 e) ((h.rel.mem _).2 ⟨_, hmA, h3⟩)
        rw [if_neg hcn, hkn] at eD
        rw [h1, if_neg (by omega)] at eR
        cases hk : rKnown A c with
        | true =>
          rw [hk, if_pos rfl] at eD eR
          rw [eD, eR]
          exact ⟨rfl, rfl, h⟩
        | false =>
          rw [hk, if_neg (by decide)] at eD eR
          rw [eD] at hn
          rw [eD, eR]
          have hperm := out_perm A p h2 A.length h2 (Nat.le_refl _)
          rw [List.take_length] at hperm
          refine ⟨rfl, rfl, h.rel.gone (t := tidyL c) ?_ ?_, h.dn, hn⟩
          · have := hperm.map tidyL
            rw [List.map_cons, h3] at this
            exact this
          · intro a ha
            obtain ⟨j, hj, e⟩ := outN_mem A p A.length a ha
            rw [e]
            exact get_nth [] hj
theorem new_same {v : Int} {cs : List (List Int)} (h : formedB v cs = true) : SRel (newW cs) cs false :=
  have r := Rel.new cs fun c hc x hx => (formed_mem h c hc x hx).1
  ⟨⟨r.p, r.a, r.f, r.v, r.w, rfl⟩, Cl.new_doneF cs, ND.new cs⟩
end Go.Proofs.YtcaoobdbgdldaaaGreatDoor.Sc
