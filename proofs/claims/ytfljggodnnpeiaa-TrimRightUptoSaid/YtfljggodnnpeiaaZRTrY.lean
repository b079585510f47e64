/- Part of the proof of TrimRight: what the law uses of the text TrY. -/
import Derived.Test.YtfljggodnnpeiaaZRTrX
import Derived.Test.YtfljggodnnpeiaaZRJP17
namespace Go.Proofs.Ytfljggodnnpeiaa.Rf
open Go.RowKit Go.Proofs.Ytfljggodnnpeiaa.P Go.Proofs.Ytfljggodnnpeiaa.Lit Go.Proofs.Ytfljggodnnpeiaa.Spr Go.Proofs.Ytfljggodnnpeiaa.Trm Go.Proofs.YtfljggodnnpeiaaW.PrintWords Go.Proofs.YtfljggodnnpeiaaW.PrintLast
set_option linter.unusedVariables false
set_option linter.unusedSimpArgs false
open Classical

structure Right (v : Int) (cs : List (List Int)) (l : List S79) (core : List Int) (proof : List (List Int)) : Prop where
  fo : (formedB v cs && l.all fun s => s.f1.all fm) = true
  go : goodV cs l = true
  ri : RisingL core cs.length
  cl : core.length ≤ 4194304
  su : (stepsL proof).Sublist l
  pl : proof.length ≤ 4194304
  fp : Fine proof
  ho : HoldsP (pick cs core) proof
  s2 : ∀ i, i + 1 < proof.length → ¬ HoldsP (pick cs core) (proof.eraseIdx i)
  s1 : ∀ i, i < (pick cs core).length → ¬ HoldsP ((pick cs core).eraseIdx i) proof
theorem steps_getD (proof : List (List Int)) {n : Nat} (h : n < (stepsL proof).length) : ((stepsL proof).getD n z79).f0 = false := by
  have hm := get_mem (xs := stepsL proof) z79 h
  obtain ⟨c, _, e⟩ := List.mem_map.1 hm
  rw [← e]
theorem ok_l0 {v : Int} {cs : List (List Int)} {l : List S79} {core : List Int} {proof : List (List Int)} (h1 : Few cs) (R : Right v cs l core proof) : ∀ (d n : Nat), (stepsL proof).length - n = d → n ≤ (stepsL proof).length → Ev (fun k => depotref12_OkTrim.l0 k core (stepsL proof) (n : Int) v cs) true := by
  have hsl : (stepsL proof).length = proof.length := List.length_map _
  have hf1 : formedB v cs = true := (Bool.and_eq_true _ _ ▸ R.fo).1
  have hfc := formed_lits' hf1
  have hr : ∀ c ∈ cs, c.length ≤ 4194304 := fun c hc => by have := h1.2 c hc; omega
  have hcn : cs.length ≤ 4194304 := by have := h1.1; omega
  have hFp : Fine (pick cs core) := (few_fine h1 hfc).of fun c hc => by
    obtain ⟨n, hn, rfl⟩ := List.mem_map.1 hc
    have := R.ri.1 n hn
    exact get_mem [] (by omega)
  have hpl : (pick cs core).length ≤ 4194304 := by unfold pick; rw [List.length_map]; exact R.cl
  intro d
  induction d with
  | zero =>
    intro n hd hn
    have ho := only12 v cs core hf1 hcn hr R.cl R.ri
    have ha := additions12 (stepsL proof) (by rw [hsl]; exact R.pl) (fun s hs => by obtain ⟨c, hc, rfl⟩ := List.mem_map.1 hs; exact R.fp.l c hc)
    rw [addT_steps] at ha
    have hh := holds12 (pick cs core) proof hFp R.fp hpl R.pl
    rw [decide_eq_true R.ho] at hh
    have hs := spare12 (pick cs core) proof hFp R.fp hpl R.pl R.s2 R.s1
    refine Ev.step (fun k => ?_) (Ev.bind ho (f := fun k b => (depotref12_Additions.f k (stepsL proof)).bind fun t => (depotref12_Holds.f k b.2.1 t).bind fun u => if u = true then (depotref12_Spare.f k b.2.1 t).bind fun z => some (!z) else some false) (Ev.bind ha (f := fun k t => (depotref12_Holds.f k (pick cs core) t).bind fun u => if u = true then (depotref12_Spare.f k (pick cs core) t).bind fun z => some (!z) else some false) (Ev.bind hh (f := fun k u => if u = true then (depotref12_Spare.f k (pick cs core) proof).bind fun z => some (!z) else some false) (by simpa using Ev.bind hs (f := fun _ z => some (!z)) (Ev.now true)))))
    simp only [depotref12_OkTrim.l0]
    rw [if_neg (by omega)]
  | succ d ih =>
    intro n hd hn
    have hlt : n < (stepsL proof).length := by omega
    have hp4 := R.pl
    refine Ev.step (fun k => ?_) (ih (n + 1) (by omega) (by omega))
    simp only [depotref12_OkTrim.l0]
    rw [if_pos (by omega), if_pos (by omega), rdT_at, steps_getD proof hlt, if_neg Bool.false_ne_true, wrap_nat (by omega)]
theorem ok_yes {v : Int} {cs : List (List Int)} {l : List S79} {core : List Int} {proof : List (List Int)} (h1 : Few cs) (h2 : Few (l.map (·.f1))) (R : Right v cs l core proof) : Ev (fun k => depotref12_OkTrim.f k v cs l core (stepsL proof) 0) true := by
  have hl : l.length ≤ 2097152 := by have := h2.1; simpa using this
  have h8 : ∀ s ∈ l, s.f1.length ≤ 4194304 := fun s hs => by have := h2.2 _ (List.mem_map_of_mem hs); omega
  have hr : ∀ c ∈ cs, c.length ≤ 4194304 := fun c hc => by have := h1.2 c hc; omega
  have hfs : ∀ s ∈ l, ∀ x ∈ s.f1, fm x = true := fun s hs => List.all_eq_true.1 (List.all_eq_true.1 ((Bool.and_eq_true _ _ ▸ R.fo).2) s hs)
  have hfc := formed_lits' ((Bool.and_eq_true _ _ ▸ R.fo).1)
  have hsh := shaped12 v cs l (by have := h1.1; omega) hr (by omega) h8
  rw [R.fo] at hsh
  have hgo := good12 v cs l (few_fine h1 hfc) (by have := h1.1; omega) (by omega) hfs h8
  rw [R.go] at hgo
  have hri := rising00 core cs.length R.cl R.ri
  have hwi := within12 _ (stepsL proof) l (Nat.le_refl _) (by omega) h8 R.su
  have hl0 := ok_l0 h1 R _ 0 rfl (by omega)
  have hj1 : Ev (fun k => depotref12_OkTrim.j1 k core (stepsL proof) false v cs) true := by
    refine Ev.step (fun k => ?_) hl0
    simp only [depotref12_OkTrim.j1]
    rw [if_neg Bool.false_ne_true]; rfl
  have hj0 : ∀ x : Bool, Ev (fun k => depotref12_OkTrim.j0 k l core (stepsL proof) 0 x v cs) true := fun x => by
    refine Ev.step (fun k => ?_) (Ev.bind hsh (f := fun k t => if t = true then ((depotref00_Rising.f k core (cs.length : Int)).bind fun t => if t = true then ((depotref12_Within.f k (stepsL proof) l).bind fun u => depotref12_OkTrim.j1 k core (stepsL proof) (!u) v cs) else depotref12_OkTrim.j1 k core (stepsL proof) true v cs) else (if (0 : Int) = 1 then some x else some false))
      (by simpa using Ev.bind hri (f := fun k t => if t = true then ((depotref12_Within.f k (stepsL proof) l).bind fun u => depotref12_OkTrim.j1 k core (stepsL proof) (!u) v cs) else depotref12_OkTrim.j1 k core (stepsL proof) true v cs) (by simpa using Ev.bind hwi (f := fun k u => depotref12_OkTrim.j1 k core (stepsL proof) (!u) v cs) (by simpa using hj1))))
    simp only [depotref12_OkTrim.j0, hgo, Option.bind_some]
    rfl
  unfold depotref12_OkTrim.f
  by_cases hc : (core.length : Int) = 0
  · exact Ev.congr (fun k => if_pos hc) (hj0 _)
  · exact Ev.congr (fun k => if_neg hc) (hj0 _)

theorem told_right {v : Int} {cs added : List (List Int)} {l : List S79} (h1 : Few cs) (h2 : Few (l.map (·.f1))) (hf : (formedB v cs && l.all fun s => s.f1.all fm) = true) (ha : addsL (pairs l) = some added) {K : KSt} (hg : goodR (startK cs added) = some K) (hho : HoldsP cs added) (ft : KFits (cs ++ added)) : Right v cs l (coreL (leastR K) (leastR K).all.length) (proofL (leastR K) (leastR K).all.length) := by
  have hp := adds_pos _ _ ha
  have hl := adds_last _ _ ha
  have h0 := startK_ok hp ft
  obtain ⟨k1, k2, k3⟩ := h0.good hg
  have s1 := good_sup h0 hg
  obtain ⟨e1, e2, e3, e4⟩ := leastR_ok k1
  have hE : End (leastR K) := ⟨e1, least_sup s1 k1, e4⟩
  have hall : (leastR K).all = cs ++ added := e2.trans k2
  have hgiv : (leastR K).given = cs.length := e3.trans k3
  have hfin : Fine (cs ++ added) := ⟨ft.f, fun c hc => by have := ft.r c hc; omega⟩
  have hN : (leastR K).all.length ≤ 4194304 := by rw [hall]; exact ft.n
  have hlast : (leastR K).all.getD ((leastR K).all.length - 1) [] = [] := by
    rw [hall, List.length_append, List.getD_eq_getElem?_getD, List.getElem?_append_right (by omega), show cs.length + added.length - 1 - cs.length = added.length - 1 by omega, ← List.getD_eq_getElem?_getD, hl]
  have hga : goodV cs l = true := by
    unfold goodV
    rw [adds_empty] at ha
    cases hem : emptyAt (addT l) with
    | none => rw [hem] at ha; cases ha
    | some i =>
      rw [hem] at ha
      have : (addT l).take (i + 1) = added := Option.some.inj ha
      show decide (HoldsP cs ((addT l).take (i + 1))) = true
      rw [this]
      exact decide_eq_true hho
  have hpk := pick_core hall hgiv (leastR K).all.length
  have hpr := proofL_ks (leastR K) (leastR K).all.length
  refine ⟨hf, hga, ?_, ?_, ?_, ?_, ?_, ?_, ?_, ?_⟩
  · have := core_rising (leastR K) (leastR K).all.length
    rwa [hgiv] at this
  · exact Nat.le_trans (coreL_len _ _) hN
  · have hs1 : (proofL (leastR K) (leastR K).all.length).Sublist added := by
      rw [hpr, hall, hgiv]
      exact proof_sub cs added _
    have hs2 : (stepsL added).Sublist l := by
      rw [adds_empty] at ha
      cases hem : emptyAt (addT l) with
      | none => rw [hem] at ha; cases ha
      | some i =>
        rw [hem] at ha
        have e : (addT l).take (i + 1) = added := Option.some.inj ha
        rw [← e]
        have h3 : (stepsL ((addT l).take (i + 1))).Sublist (stepsL (addT l)) := (List.take_sublist _ _).map _
        rw [steps_addT] at h3
        exact h3.trans List.filter_sublist
    exact (hs1.map _).trans hs2
  · have := proofL_len (leastR K) (leastR K).all.length
    unfold stepsL at this
    rw [List.length_map] at this
    omega
  · rw [hpr, hall]
    refine atL_fine hfin fun n hn => ?_
    have := (mem_ks2.1 hn).1
    exact this
  · rw [hpk, hpr]; exact end_holds hE hlast
  · intro i hi
    rw [hpr] at hi ⊢
    rw [hpk]
    exact end_spare2 hE hi
  · intro i hi
    rw [hpk] at hi ⊢
    rw [hpr]
    exact end_spare1 hE hi
theorem fits_of {v : Int} {cs added : List (List Int)} {l : List S79} (h1 : Few cs) (h2 : Few (l.map (·.f1))) (hf : (formedB v cs && l.all fun s => s.f1.all fm) = true) (ha : addsL (pairs l) = some added) : KFits (cs ++ added) := by
  have hl : l.length ≤ 2097152 := by have := h2.1; simpa using this
  have a1 := adds_len (pairs l)
  have a2 := adds_mem (pairs l)
  rw [ha] at a1 a2
  have hpl : (pairs l).length = l.length := List.length_map _
  simp only [Option.getD_some] at a1 a2
  have hm : ∀ c ∈ added, ∃ s ∈ l, s.f1 = c := fun c hc => by
    obtain ⟨p, hp, e⟩ := a2 c hc
    obtain ⟨s, hs, rfl⟩ := List.mem_map.1 hp
    exact ⟨s, hs, e⟩
  have hfs : ∀ s ∈ l, ∀ x ∈ s.f1, fm x = true := fun s hs => List.all_eq_true.1 (List.all_eq_true.1 ((Bool.and_eq_true _ _ ▸ hf).2) s hs)
  have hfc := formed_lits' ((Bool.and_eq_true _ _ ▸ hf).1)
  refine ⟨by rw [List.length_append]; have := h1.1; omega, fun c hc => ?_, fun c hc => ?_⟩
  · rcases List.mem_append.1 hc with hc | hc
    · have := h1.2 c hc; omega
    · obtain ⟨s, hs, rfl⟩ := hm c hc
      have := h2.2 _ (List.mem_map_of_mem hs); omega
  · rcases List.mem_append.1 hc with hc | hc
    · exact hfc c hc
    · obtain ⟨s, hs, rfl⟩ := hm c hc
      exact hfs s hs
theorem trim_right (v : Int) (cs : List (List Int)) (l : List S79) (h1 : Few cs) (h2 : Few (l.map (·.f1))) : Ev (fun k => depotref12_OkTrim.f k v cs l (trimR v cs (pairs l)).1 (stepsL (trimR v cs (pairs l)).2.1) (trimR v cs (pairs l)).2.2) true := by
  have hsh : (formedB v cs && (pairs l).all fun s => s.2.all fm) = (formedB v cs && l.all fun s => s.f1.all fm) := by
    unfold pairs; rw [List.all_map]; rfl
  unfold trimR
  rw [hsh]
  by_cases hf : (formedB v cs && l.all fun s => s.f1.all fm) = true
  · rw [if_pos hf]
    cases ha : addsL (pairs l) with
    | none =>
      have hg : goodV cs l = false := by
        unfold goodV
        rw [adds_empty] at ha
        cases hem : emptyAt (addT l) with
        | none => rfl
        | some i => rw [hem] at ha; cases ha
      exact ok_no v cs l 120 h1 h2 (.inr ⟨hf, hg, rfl⟩)
    | some added =>
      have ft := fits_of h1 h2 hf ha
      have hgi := start_good (adds_pos _ _ ha) (adds_last _ _ ha) ft
      show Ev (fun k => depotref12_OkTrim.f k v cs l (trimG cs added).1 (stepsL (trimG cs added).2.1) (trimG cs added).2.2) true
      unfold trimG
      cases hg : goodR (startK cs added) with
      | none =>
        rw [hg] at hgi
        have hno : goodV cs l = false := by
          unfold goodV
          rw [adds_empty] at ha
          cases hem : emptyAt (addT l) with
          | none => rfl
          | some i =>
            rw [hem] at ha
            have e : (addT l).take (i + 1) = added := Option.some.inj ha
            show decide (HoldsP cs ((addT l).take (i + 1))) = false
            rw [e]
            exact decide_eq_false fun h => by have := hgi.2 h; cases this
        exact ok_no v cs l 120 h1 h2 (.inr ⟨hf, hno, rfl⟩)
      | some K =>
        rw [hg] at hgi
        exact ok_yes h1 h2 (told_right h1 h2 hf ha hg (hgi.1 rfl) ft)
  · rw [if_neg hf]
    exact ok_no v cs l 1 h1 h2 (.inl ⟨Bool.eq_false_iff.2 hf, rfl⟩)
theorem TrimRight_ev (v : Int) (cs : List (List Int)) (l : List S79) (h1 : Few cs) (h2 : Few (l.map (·.f1))) : Ev (fun k => depotlaw12_TrimRight.f k v cs l) true := by
  have hl : l.length ≤ 2097152 := by have := h2.1; simpa using this
  have h8 : ∀ s ∈ l, s.f1.length ≤ 17592186044416 := fun s hs => by have := h2.2 _ (List.mem_map_of_mem hs); omega
  unfold depotlaw12_TrimRight.f
  refine Ev.bind (copyFormula v cs (by have := h1.1; omega) (fun c hc => by have := h1.2 c hc; omega)) ?_
  refine Ev.bind (copySteps l (by omega) h8) ?_
  have ht : trim_Trim.f v cs l = some ((trimR v cs (pairs l)).1, stepsL (trimR v cs (pairs l)).2.1, (trimR v cs (pairs l)).2.2) := by unfold trim_Trim.f; rw [if_pos ⟨h1, h2⟩]
  refine Ev.congr (fun k => ?_) (Ev.bind (trim_right v cs l h1 h2) (f := fun _ t => some t) (Ev.now true))
  show (trim_Trim.f v cs l).bind _ = _
  rw [ht]
  rfl
end Go.Proofs.Ytfljggodnnpeiaa.Rf
