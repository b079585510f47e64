/- UnitGrows as a plain statement: where the lists are not too long the law's plain function answers true. -/
import Derived.Test.YthbccfgcemdgeaaLawA
import Derived.Test.YthbccfgcemdgeaaP14
namespace Go.Proofs.Ythbccfgcemdgeaa.Pure
open Go.RowKit Go.Proofs.Ythbccfgcemdgeaa.P Go.Proofs.Ythbccfgcemdgeaa.Lit Go.Proofs.Ythbccfgcemdgeaa.Spr Go.Proofs.Ythbccfgcemdgeaa.Rf Go.Proofs.YthbccfgcemdgeaaW.PrintWords Go.Proofs.YthbccfgcemdgeaaW.PrintLast

/-- What Close answers to a formula and facts. -/
theorem close_spec {v : Int} {cs : List (List Int)} {F : List Int} (hc : ∀ c ∈ cs, ∀ x ∈ c, fm x = true) (hF : ∀ x ∈ F, fm x = true) (ha : askedI v cs F = 0) :
    (Clash cs F ∧ closeR v cs F = ([], true, 0)) ∨ (¬ Clash cs F ∧ ∃ L, closeR v cs F = (L, false, 0) ∧ Rising L ∧ ∀ l, l ∈ L ↔ UP cs F l) := by
  obtain ⟨p1, p2⟩ := closed_up cs F hF hc
  unfold closeR
  rw [ha, if_pos rfl]
  by_cases hy : (closedSt cs F).2 = true
  · obtain ⟨_, _, hT, _, hn⟩ := p1 hy
    rw [if_pos hy]
    refine .inr ⟨hn, _, rfl, tidy_rising _, fun l => ?_⟩
    rw [mem_tidy, hT l]
    exact ⟨fun h => h.1, fun h => ⟨h, h.of hF hc⟩⟩
  · rw [if_neg hy]
    exact .inl ⟨p2 (Bool.eq_false_iff.2 hy), rfl⟩
theorem up_again {cs : List (List Int)} {F G : List Int} (h : ∀ l ∈ G, UP cs F l) {x : Int} (hx : UP cs G x) : UP cs F x := by
  induction hx with
  | fact hl => exact h _ hl
  | unit h1 h2 _ ih => exact .unit h1 h2 ih

theorem grows_l (L M : List Int) (x : Int) (hL : L.length < 9223372036854775807) (hM : M.length < 9223372036854775807) (h : ∀ y ∈ L, y ∈ M) (hx : x ∈ M) : ∀ (d n : Nat), L.length - n = d → n ≤ L.length → Ev (fun k => depotlaw06_UnitGrows.l0 k x L M (n : Int)) true := by
  intro d
  induction d with
  | zero =>
    intro n hd hn
    refine Ev.step (fun k => ?_) (Ev.bind (hasInt M x hM) (f := fun k t => if t = true then (depotlaw06_awake.f k).bind fun t398 => some t398 else some false) (Ev.congr (fun k => if_pos (by simpa using hx)) (Ev.bind awake06 (Ev.now _))))
    simp only [depotlaw06_UnitGrows.l0]
    rw [if_neg (by omega)]
  | succ d ih =>
    intro n hd hn
    have hlt : n < L.length := by omega
    refine Ev.step (fun k => ?_) (Ev.bind (hasInt M (L.getD n 0) hM) (f := fun k t => if t = true then depotlaw06_UnitGrows.l0 k x L M ((n + 1 : Nat) : Int) else some false) (Ev.congr (fun k => if_pos (by simpa using h _ (get_mem 0 hlt))) (ih (n + 1) (by omega) (by omega))))
    simp only [depotlaw06_UnitGrows.l0]
    rw [if_pos (by omega), if_pos (by omega), rd_nat, wrap_nat (n := n) (by omega)]

theorem UnitGrows (v : Int) (cs : List (List Int)) (F cl : List Int) (x : Int) (hcs : cs.length ≤ 1048575) (hcl : ∀ x ∈ cs, x.length ≤ 1048575) (hFl : F.length ≤ 1048575) (hll : cl.length ≤ 1048575) (_ : (Lit.int .i64 x).wf = true) : ∃ k, depotlaw06_UnitGrows.f k v cs F cl x = some true := by
  have h83 : ∀ x ∈ cs, x.length < 9223372036854775807 := fun x hx => by have := hcl x hx; omega
  have h84 : ∀ x ∈ cs, x.length ≤ 17592186044416 := fun x hx => by have := hcl x hx; omega
  have hfit : Fits cs F := ⟨by omega, fun x hx => by have := hcl x hx; omega, by omega⟩
  have hw1 : win 1048576 = fm := funext fun x => by
    rw [win_fm (by omega)]
    by_cases h : fm x = true
    · have h1 := fm_true h
      rw [h, Bool.true_and, lv_of' h]
      refine decide_eq_true ?_
      split <;> omega
    · rw [Bool.eq_false_iff.2 h]; rfl
  have hj : Ev (fun k => depotlaw06_UnitGrows.j0 k F cl x true v cs) true := Ev.step (fun k => by simp only [depotlaw06_UnitGrows.j0]; rw [if_pos trivial]) (Ev.bind awake06 (f := fun _ t => some t) (Ev.now _))
  refine Ev.rounds ?_
  unfold depotlaw06_UnitGrows.f
  refine Ev.bind (shaped06 v cs (by omega) h83) ?_
  by_cases hs : formedB v cs = true
  · refine Ev.congr (fun k => if_pos hs) (Ev.bind (within06 F 1048576 (by omega) (by omega) (by omega)) ?_)
    have hr := formed_range hs
    by_cases hF : F.all (win 1048576) = true
    · refine Ev.congr (fun k => if_pos hF) (Ev.bind (within06 cl v hr.1 hr.2 (by omega)) ?_)
      by_cases hC : cl.all (win v) = true
      · refine Ev.congr (fun k => if_pos hC) (Ev.bind (within06 [x] 1048576 (by omega) (by omega) (by simp)) ?_)
        by_cases hx : ([x] : List Int).all (win 1048576) = true
        · rw [hx]
          have hcw := formed_win hs
          have hfmF : ∀ y ∈ F, fm y = true := fun y hy => by have := List.all_eq_true.1 hF y hy; rwa [hw1] at this
          have hfx : fm x = true := by rw [hw1] at hx; simpa using hx
          have hwf : ∀ y, win v y = true → fm y = true := fun y hy => by rw [win_fm hr.2, Bool.and_eq_true] at hy; exact hy.1
          have hfmC : ∀ c ∈ cs, ∀ y ∈ c, fm y = true := fun c hc y hy => hwf y (hcw c hc y hy)
          have hfml : ∀ y ∈ cl, fm y = true := fun y hy => hwf y (List.all_eq_true.1 hC y hy)
          have hask : ∀ G : List Int, (∀ y ∈ G, fm y = true) → askedI v cs G = 0 := fun G hG => by unfold askedI; rw [hs, List.all_eq_true.2 hG]; rfl
          have hfmg : ∀ c ∈ cs ++ [cl], ∀ y ∈ c, fm y = true := fun c hc y hy => by
            rcases List.mem_append.1 hc with hc | hc
            · exact hfmC c hc y hy
            · rw [List.mem_singleton.1 hc] at hy; exact hfml y hy
          have hfmm : ∀ y ∈ F ++ [x], fm y = true := fun y hy => by
            rcases List.mem_append.1 hy with hy | hy
            · exact hfmF y hy
            · rw [List.mem_singleton.1 hy]; exact hfx
          have hfg : formedB v (cs ++ [cl]) = true := by
            have hs2 := hs
            unfold formedB at hs2 ⊢
            rw [List.all_append]
            simp only [Bool.and_eq_true] at hs2 ⊢
            refine ⟨hs2.1, hs2.2, ?_⟩
            have h1 := shaped_formed [cl] hr.2
            rw [← h1]
            simpa using hC
          have hask2 : askedI v (cs ++ [cl]) (F ++ [x]) = 0 := by unfold askedI; rw [hfg, List.all_eq_true.2 hfmm]; rfl
          have hsub : ∀ c ∈ cs, ∃ c' ∈ cs ++ [cl], ∀ y, y ∈ c ↔ y ∈ c' := fun c hc => ⟨c, List.mem_append_left _ hc, fun _ => Iff.rfl⟩
          have hsubF : ∀ y ∈ F, y ∈ F ++ [x] := fun y hy => List.mem_append_left _ hy
          have hfit2 : Fits (cs ++ [cl]) (F ++ [x]) := ⟨by simp; omega, fun y hy => by
            rcases List.mem_append.1 hy with hy | hy
            · have := hcl y hy; omega
            · rw [List.mem_singleton.1 hy]; omega, by simp; omega⟩
          have hstep : ∀ R, Ev (fun k => if (closeR v cs F).2.2 = 0 then (if (closeR v (cs ++ [cl]) (F ++ [x])).2.2 = 0 then (if (closeR v cs F).2.1 = true then (depotlaw06_UnitGrows.j1 k x (closeR v cs F).1 (closeR v cs F).2.1 (closeR v (cs ++ [cl]) (F ++ [x])).1 (closeR v (cs ++ [cl]) (F ++ [x])).2.1 (!(closeR v (cs ++ [cl]) (F ++ [x])).2.1) v cs) else (depotlaw06_UnitGrows.j1 k x (closeR v cs F).1 (closeR v cs F).2.1 (closeR v (cs ++ [cl]) (F ++ [x])).1 (closeR v (cs ++ [cl]) (F ++ [x])).2.1 false v cs)) else (depotlaw06_UnitGrows.j1 k x (closeR v cs F).1 (closeR v cs F).2.1 (closeR v (cs ++ [cl]) (F ++ [x])).1 (closeR v (cs ++ [cl]) (F ++ [x])).2.1 true v cs)) else (depotlaw06_UnitGrows.j1 k x (closeR v cs F).1 (closeR v cs F).2.1 (closeR v (cs ++ [cl]) (F ++ [x])).1 (closeR v (cs ++ [cl]) (F ++ [x])).2.1 true v cs)) R → Ev (fun k => depotlaw06_UnitGrows.j0 k F cl x (!true) v cs) R := by
            intro R hR
            refine Ev.step (fun k => by simp only [depotlaw06_UnitGrows.j0]; rw [if_neg (by decide)]) ?_
            refine Ev.bind (copyFormula v cs (by omega) h84) (Ev.bind (copyInts F (by omega)) ?_)
            refine Ev.bind (a := closeR v cs F) (Ev.congr (fun k => closeI v hfit) (Ev.now _)) (Ev.bind (copyInts F (by omega)) ?_)
            refine Ev.congr (fun k => if_pos (by omega)) (Ev.bind (copyFormula v cs (by omega) h84) (Ev.bind (copyInts cl (by omega)) ?_))
            refine Ev.congr (fun k => if_pos (show cs.length < 5864062014805 by omega)) ?_
            exact Ev.bind (a := closeR v (cs ++ [cl]) (F ++ [x])) (Ev.congr (fun k => closeI v hfit2) (Ev.now _)) hR
          refine hstep true ?_
          rcases close_spec hfmC hfmF (hask F hfmF) with ⟨hcl1, e1⟩ | ⟨hn1, L, e1, r1, m1⟩
          · rcases close_spec hfmg hfmm hask2 with ⟨_, e2⟩ | ⟨hn2, _⟩
            · rw [e1, e2]
              refine Ev.congr (fun k => by rw [if_pos rfl, if_pos rfl, if_pos rfl]) (Ev.step (fun k => by simp only [depotlaw06_UnitGrows.j1]; rw [if_neg (by decide), if_pos trivial]) (Ev.bind awake06 (f := fun _ t => some t) (Ev.now _)))
            · exact absurd (hcl1.mono hsub hsubF) hn2
          · rw [e1]
            have hLf : ∀ y ∈ L, fm y = true := fun y hy => ((m1 y).1 hy).of hfmF hfmC
            have hLl : L.length ≤ 2097152 := by have := close_len v cs F; rw [e1] at this; exact this
            have hd : ∀ y, UP cs L y ↔ UP cs F y := fun y => ⟨up_again (fun l hl => (m1 l).1 hl), fun h => h.mono (fun c hc => ⟨c, hc, fun _ => Iff.rfl⟩) (fun l hl => (m1 l).2 (.fact hl))⟩
            have hagain : closeR v cs L = (L, false, 0) := by
              rcases close_spec hfmC hLf (hask L hLf) with ⟨h1, _⟩ | ⟨_, L2, e2, r2, m2⟩
              · refine absurd ?_ hn1
                rcases h1 with ⟨l, a, b⟩ | ⟨c, a, b⟩
                · exact .inl ⟨l, (hd l).1 a, (hd _).1 b⟩
                · exact .inr ⟨c, a, fun y hy => (hd _).1 (b y hy)⟩
              · rw [e2, rising_ext L2 L r2 r1 (fun y => by rw [m2 y, m1 y, hd y])]
            have hgo : ∀ (M : List Int) (b : Bool), (b = false → (∀ y ∈ L, y ∈ M) ∧ x ∈ M ∧ M.length ≤ 2097152) → Ev (fun k => depotlaw06_UnitGrows.j1 k x L false M b false v cs) true := by
              intro M b hM
              refine Ev.step (fun k => by simp only [depotlaw06_UnitGrows.j1]; rw [if_neg (by decide), if_neg (by decide)]) ?_
              refine Ev.bind (copyFormula v cs (by omega) h84) (Ev.bind (copyInts L (by omega)) ?_)
              refine Ev.bind (a := closeR v cs L) (Ev.congr (fun k => closeI v (show Fits cs L from ⟨hfit.1, hfit.2.1, by omega⟩)) (Ev.now _)) ?_
              rw [hagain]
              refine Ev.congr (fun k => if_neg (show ¬ ((false : Bool) = true) by decide)) (Ev.bind (sameInts L (by omega)) ?_)
              refine Ev.step (fun k => by simp only [depotlaw06_UnitGrows.j2]; rw [if_neg (by decide)]) ?_
              cases b with
              | true => exact Ev.congr (fun k => if_pos rfl) (Ev.bind awake06 (Ev.now _))
              | false =>
                obtain ⟨h1, h2, h3⟩ := hM rfl
                exact Ev.congr (fun k => if_neg (by decide)) (grows_l L M x (by omega) (by omega) h1 h2 _ 0 rfl (by omega))
            rcases close_spec hfmg hfmm hask2 with ⟨_, e2⟩ | ⟨_, M, e2, _, m2⟩
            · rw [e2]
              refine Ev.congr (fun k => by rw [if_pos rfl, if_pos rfl, if_neg (show ¬ ((false : Bool) = true) by decide)]) (hgo [] true (fun h => by cases h))
            · have hMl : M.length ≤ 2097152 := by have := close_len v (cs ++ [cl]) (F ++ [x]); rw [e2] at this; exact this
              rw [e2]
              refine Ev.congr (fun k => by rw [if_pos rfl, if_pos rfl, if_neg (show ¬ ((false : Bool) = true) by decide)]) (hgo M false (fun _ => ⟨fun y hy => (m2 y).2 (((m1 y).1 hy).mono hsub hsubF), (m2 x).2 (.fact (by simp)), hMl⟩))
        · rw [Bool.eq_false_iff.2 hx]; exact hj
      · exact Ev.congr (fun k => if_neg hC) hj
    · exact Ev.congr (fun k => if_neg hF) hj
  · exact Ev.congr (fun k => if_neg hs) hj

end Go.Proofs.Ythbccfgcemdgeaa.Pure
