/- Part of the proof of UnitStory: what the law uses of the text PureStory. -/
import Derived.Test.YthbccfgcemdgeaaZuEvQ
import Derived.Test.YthbccfgcemdgeaaZuStoryP
import Derived.Test.YthbccfgcemdgeaaZuQ4
namespace Go.Proofs.Ythbccfgcemdgeaa.Pure
open Go.RowKit Go.Proofs.Ythbccfgcemdgeaa.Q Go.Proofs.Ythbccfgcemdgeaa.Lit Go.Proofs.Ythbccfgcemdgeaa.Spr Go.Proofs.Ythbccfgcemdgeaa.Rq Go.Proofs.YthbccfgcemdgeaaW.PrintWords Go.Proofs.YthbccfgcemdgeaaW.PrintLast
set_option linter.unusedVariables false
set_option linter.unusedSimpArgs false

theorem fitsQ {cs : List (List Int)} {F : List Int} (h24 : cs.length * 24 ≤ 140737488351232) (h8 : ∀ x ∈ cs, x.length * 8 ≤ 140737488351232) (hF : F.length * 8 ≤ 140737488351232) : Fits cs F := ⟨by omega, fun x hx => by have := h8 x hx; omega, by omega⟩
theorem awakeQ : Ev (fun k => depotlaw06_awake.f k) true := by
  have h : depotlaw06_awake.f 10 = some true := by decide +kernel
  exact Ev.of depotlaw06_awake.mono h
theorem wrap_neg {x : Int} (h : fm x = true) : wrap64 (-x) = -x := by
  have := fm_true h
  unfold wrap64; omega

theorem stands_l (K : List Int) (hK : K.length < 9223372036854775807) (c : List Int) (hc : c.length < 9223372036854775807) (hf : ∀ x ∈ c, fm x = true) : ∀ (d n : Nat) (o : Int), c.length - n = d → n ≤ c.length → Ev (fun k => depotlaw06_stands.l0 k c K o (n : Int)) (standsL K (c.drop n) o) := by
  intro d
  induction d with
  | zero =>
    intro n o hd hn
    rw [List.drop_eq_nil_of_le (by omega)]
    refine Ev.step (f := fun _ => some (standsL K [] o)) (fun k => ?_) (Ev.now _)
    simp only [depotlaw06_stands.l0]
    rw [if_neg (by omega)]
    unfold standsL
    split <;> rfl
  | succ d ih =>
    intro n o hd hn
    have hlt : n < c.length := by omega
    have hw := wrap_neg (hf _ (get_mem 0 hlt))
    rw [drop_get 0 hlt]
    have h1 := hasInt K (c.getD n 0) hK
    have h2 := hasInt K (-(c.getD n 0)) hK
    unfold standsL
    refine Ev.step (f := fun k => (depotref00_HasInt.f k K (c.getD n 0)).bind fun t139 => (if t139 = true then (some (1, 0)) else ((depotref00_HasInt.f k K (-(c.getD n 0))).bind fun t141 => (if t141 = true then (depotlaw06_stands.l0 k c K o ((n + 1 : Nat) : Int)) else (if o = 0 then (depotlaw06_stands.l0 k c K (c.getD n 0) ((n + 1 : Nat) : Int)) else (if o = (c.getD n 0) then (depotlaw06_stands.l0 k c K (c.getD n 0) ((n + 1 : Nat) : Int)) else (some (0, 0)))))))) (fun k => ?_) ?_
    · simp only [depotlaw06_stands.l0]
      rw [if_pos (by omega), if_pos (by omega), rd_nat, hw, wrap_nat (by omega)]
    · refine Ev.bind h1 ?_
      by_cases c1 : c.getD n 0 ∈ K
      · rw [if_pos c1]
        exact Ev.congr (fun k => if_pos (by simpa using c1)) (Ev.now _)
      · rw [if_neg c1]
        refine Ev.congr (fun k => if_neg (by simpa using c1)) (Ev.bind h2 ?_)
        by_cases c2 : -(c.getD n 0) ∈ K
        · rw [if_pos c2]
          exact Ev.congr (fun k => if_pos (by simpa using c2)) (ih (n + 1) o (by omega) (by omega))
        · rw [if_neg c2]
          refine Ev.congr (fun k => if_neg (by simpa using c2)) ?_
          by_cases c3 : o = 0
          · rw [if_pos c3]
            exact Ev.congr (fun k => if_pos c3) (ih (n + 1) _ (by omega) (by omega))
          · rw [if_neg c3]
            refine Ev.congr (fun k => if_neg c3) ?_
            by_cases c4 : o = c.getD n 0
            · rw [if_pos c4]
              exact Ev.congr (fun k => if_pos c4) (c4 ▸ ih (n + 1) _ (by omega) (by omega))
            · rw [if_neg c4]
              exact Ev.congr (fun k => if_neg c4) (Ev.now _)
theorem stands (K : List Int) (hK : K.length < 9223372036854775807) (c : List Int) (hc : c.length < 9223372036854775807) (hf : ∀ x ∈ c, fm x = true) : Ev (fun k => depotlaw06_stands.f k c K) (standsL K c 0) := by
  simpa [depotlaw06_stands.f] using stands_l K hK c hc hf _ 0 0 rfl (by omega)

def ex (k : Nat) (F : List Int) (L : List S51) (at_ : Int) (K : List Int) (i : Int) (v : Int) (cs : List (List Int)) : Option Bool :=
  if i < (L.length : Int) then (if 0 ≤ i then (if K.length < 26388279066624 then (depotlaw06_UnitStory.l0 k F L at_ (K ++ [(rd_T51 L i).f0]) (wrap64 (i + 1)) v cs) else none) else none) else (depotlaw06_UnitStory.l0 k F L at_ K (wrap64 (i + 1)) v cs)

theorem inner (F : List Int) (L : List S51) (at_ : Int) (K : List Int) (i : Nat) (v : Int) (cs : List (List Int)) (la : Int) (r : Bool) (hK : K.length < 9223372036854775807) (hcs : cs.length < 9223372036854775807) (hc8 : ∀ c ∈ cs, c.length < 9223372036854775807) (hf : ∀ c ∈ cs, ∀ x ∈ c, fm x = true)
    (t : Nat) (ht : t ≤ cs.length) (hq : ∀ j, j < t → saysL K (cs.getD j []) 0 = (false, 0))
    (hend : (t = cs.length ∧ la = -1) ∨ (t < cs.length ∧ la = t ∧ ((i = L.length ∧ (standsL K (cs.getD t []) 0).1 = -1) ∨ (i < L.length ∧ standsL K (cs.getD t []) 0 = (2, (rd_T51 L (i : Int)).f0)))))
    (hE : Ev (fun k => ex k F L at_ K (i : Int) v cs) r) : ∀ (d n : Nat), t - n = d → n ≤ t → Ev (fun k => depotlaw06_UnitStory.l1 k F L at_ K (i : Int) la (n : Int) v cs) r := by
  intro d
  have hst : ∀ n, n < cs.length → Ev (fun k => depotlaw06_stands.f k (cs.getD n []) K) (standsL K (cs.getD n []) 0) := fun n hn => stands K hK _ (hc8 _ (get_mem [] hn)) (hf _ (get_mem [] hn))
  induction d with
  | zero =>
    intro n hd hn
    obtain rfl : n = t := by omega
    rcases hend with ⟨h1, h2⟩ | ⟨h1, h2, h3⟩
    · refine Ev.step (fun k => ?_) hE
      simp only [depotlaw06_UnitStory.l1, ex]
      rw [if_neg (by omega)]
    · subst h2
      rcases h3 with ⟨h4, h5⟩ | ⟨h4, h5⟩
      · have hj4 : Ev (fun k => depotlaw06_UnitStory.j4 k F L at_ K (i : Int) (n : Int) (n : Int) (standsL K (cs.getD n []) 0).1 false v cs) r := by
          refine Ev.step (fun k => ?_) hE
          simp only [depotlaw06_UnitStory.j4, ex]
          rw [if_neg (by decide), if_pos trivial]
        refine Ev.step (f := fun k => (depotlaw06_stands.f k (cs.getD n []) K).bind fun bt => if bt.1 = -1 then depotlaw06_UnitStory.j4 k F L at_ K (i : Int) (n : Int) (n : Int) bt.1 false v cs else depotlaw06_UnitStory.j4 k F L at_ K (i : Int) (n : Int) (n : Int) bt.1 true v cs) (fun k => ?_) (Ev.bind (hst n h1) (Ev.congr (fun k => if_pos h5) hj4))
        simp only [depotlaw06_UnitStory.l1]
        rw [if_pos (by omega), if_pos (by omega), rdL_nat]
        simp only [if_pos trivial, if_pos (show (i : Int) = (L.length : Int) by omega), if_neg (show ¬ ((i : Int) < (L.length : Int)) by omega)]
      · have hj4 : Ev (fun k => depotlaw06_UnitStory.j4 k F L at_ K (i : Int) (n : Int) (n : Int) (standsL K (cs.getD n []) 0).1 ((standsL K (cs.getD n []) 0).2 != (rd_T51 L (i : Int)).f0) v cs) r := by
          refine Ev.step (fun k => ?_) hE
          simp only [depotlaw06_UnitStory.j4, ex]
          rw [h5, if_neg (by simp), if_pos trivial]
        refine Ev.step (f := fun k => (depotlaw06_stands.f k (cs.getD n []) K).bind fun bt => if bt.1 = 2 then depotlaw06_UnitStory.j4 k F L at_ K (i : Int) (n : Int) (n : Int) bt.1 (bt.2 != (rd_T51 L (i : Int)).f0) v cs else depotlaw06_UnitStory.j4 k F L at_ K (i : Int) (n : Int) (n : Int) bt.1 true v cs) (fun k => ?_) (Ev.bind (hst n h1) (Ev.congr (fun k => if_pos (by rw [h5])) hj4))
        simp only [depotlaw06_UnitStory.l1]
        rw [if_pos (by omega), if_pos (by omega), rdL_nat]
        simp only [if_pos trivial, if_neg (show ¬ ((i : Int) = (L.length : Int)) by omega), if_pos (show ((i : Int) < (L.length : Int)) by omega), if_pos (show (0 : Int) ≤ (i : Int) by omega)]
  | succ d ih =>
    intro n hd hn
    have hlt : n < cs.length := by omega
    have hla : (n : Int) ≠ la := by rcases hend with ⟨_, h⟩ | ⟨_, h, _⟩ <;> omega
    have h3 := (stands_says (K := K) (cs.getD n []) 0 (fun x hx => (fm_true (hf _ (get_mem [] hlt) x hx)).1)).2.2 (by rw [hq n (by omega)]) (by rw [hq n (by omega)])
    have hj4 : Ev (fun k => depotlaw06_UnitStory.j4 k F L at_ K (i : Int) la (n : Int) (standsL K (cs.getD n []) 0).1 false v cs) r := by
      refine Ev.step (fun k => ?_) (ih (n + 1) (by omega) (by omega))
      simp only [depotlaw06_UnitStory.j4]
      rw [if_neg (by decide), if_neg hla, if_neg (by omega), if_neg (by omega), wrap_nat (by omega)]
    refine Ev.step (f := fun k => (depotlaw06_stands.f k (cs.getD n []) K).bind fun bt => depotlaw06_UnitStory.j4 k F L at_ K (i : Int) la (n : Int) bt.1 false v cs) (fun k => ?_) (Ev.bind (hst n hlt) hj4)
    simp only [depotlaw06_UnitStory.l1]
    rw [if_pos (by omega), if_pos (by omega), rdL_nat]
    simp only [if_neg hla]

theorem rd51 (P : List (Int × Int)) (n : Nat) : rd_T51 (mk51 P) (n : Int) = ⟨(P.getD n (0, 0)).1, (P.getD n (0, 0)).2⟩ := by
  unfold rd_T51 mk51 z51
  rw [Int.toNat_natCast, List.getD_eq_getElem?_getD, List.getElem?_map, List.getD_eq_getElem?_getD]
  cases P[n]? <;> rfl
theorem mk51_len (P : List (Int × Int)) : (mk51 P).length = P.length := List.length_map _

theorem story_l (v : Int) (cs : List (List Int)) (F : List Int) (P : List (Int × Int)) (at_ : Int) (r : Bool) (hcs : cs.length < 9223372036854775807) (hc8 : ∀ c ∈ cs, c.length < 9223372036854775807) (hf : ∀ c ∈ cs, ∀ x ∈ c, fm x = true) (hP : P.length ≤ 2097153)
    (hend : ∀ K, K = F ++ P.map Prod.fst → Ev (fun k => depotlaw06_UnitStory.l0 k F (mk51 P) at_ K ((P.length + 1 : Nat) : Int) v cs) r) (hF : F.length ≤ 17592186044416) :
    ∀ (d n : Nat), P.length - n = d → n ≤ P.length → Story cs (F ++ (P.take n).map Prod.fst) (P.drop n) at_ → Ev (fun k => depotlaw06_UnitStory.l0 k F (mk51 P) at_ (F ++ (P.take n).map Prod.fst) (n : Int) v cs) r := by
  intro d
  have hl := mk51_len P
  induction d with
  | zero =>
    intro n hd hn hS
    obtain rfl : n = P.length := by omega
    rw [List.take_length, List.drop_length] at *
    have hKl : (F ++ P.map Prod.fst).length < 9223372036854775807 := by rw [List.length_append, List.length_map]; omega
    have hE : Ev (fun k => ex k F (mk51 P) at_ (F ++ P.map Prod.fst) (P.length : Int) v cs) r := by
      refine Ev.congr (fun k => ?_) (hend _ rfl)
      unfold ex
      rw [if_neg (by omega), wrap_nat (by omega)]
    have hin : at_ < (cs.length : Int) ∧ -1 ≤ at_ ∧ ∃ t, t ≤ cs.length ∧ (∀ j, j < t → saysL (F ++ P.map Prod.fst) (cs.getD j []) 0 = (false, 0)) ∧ ((t = cs.length ∧ at_ = -1) ∨ (t < cs.length ∧ at_ = t ∧ (standsL (F ++ P.map Prod.fst) (cs.getD t []) 0).1 = -1)) := by
      rcases hS with ⟨h1, rfl⟩ | ⟨m, h1, rfl⟩
      · exact ⟨by omega, by omega, cs.length, Nat.le_refl _, scan_none cs 0 h1, .inl ⟨rfl, rfl⟩⟩
      · obtain ⟨j, h2, h3, h4, h5⟩ := scan_some _ _ _ _ h1
        obtain rfl : m = j := by omega
        rw [if_pos rfl] at h4
        exact ⟨by omega, by omega, m, by omega, h5, .inr ⟨h3, rfl, (stands_says _ 0 (fun x hx => (fm_true (hf _ (get_mem [] h3) x hx)).1)).1 (by rw [h4])⟩⟩
    obtain ⟨h1, h2, t, h3, h4, h5⟩ := hin
    have hl1 := inner F (mk51 P) at_ (F ++ P.map Prod.fst) P.length v cs at_ r hKl hcs hc8 hf t h3 h4 (h5.imp id (fun h => ⟨h.1, h.2.1, .inl ⟨hl.symm, h.2.2⟩⟩)) hE _ 0 rfl (by omega)
    have hj2 : Ev (fun k => depotlaw06_UnitStory.j2 k F (mk51 P) at_ (F ++ P.map Prod.fst) (P.length : Int) at_ (decide (at_ < -1)) v cs) r := by
      refine Ev.step (fun k => ?_) hl1
      simp only [depotlaw06_UnitStory.j2]
      rw [if_neg (by simp; omega)]
      rfl
    have hj1 : Ev (fun k => depotlaw06_UnitStory.j1 k F (mk51 P) at_ (F ++ P.map Prod.fst) (P.length : Int) at_ v cs) r := by
      refine Ev.step (fun k => ?_) hj2
      simp only [depotlaw06_UnitStory.j1]
      rw [if_neg (by omega)]
    refine Ev.step (fun k => ?_) hj1
    simp only [depotlaw06_UnitStory.l0]
    rw [if_pos (by omega), if_neg (by omega)]
  | succ d ih =>
    intro n hd hn hS
    have hlt : n < P.length := by omega
    have hdr : P.drop n = P.getD n (0, 0) :: P.drop (n + 1) := drop_get (0, 0) hlt
    have htk : (P.take (n + 1)).map Prod.fst = (P.take n).map Prod.fst ++ [(P.getD n (0, 0)).1] := by
      rw [List.take_add_one, List.getD_eq_getElem?_getD, List.getElem?_eq_getElem hlt, List.map_append]; rfl
    rw [hdr] at hS
    obtain ⟨m, h1, h2, h3, h4⟩ := hS
    have hnext := ih (n + 1) (by omega) (by omega) (by rw [htk, ← List.append_assoc]; exact h4)
    rw [htk, ← List.append_assoc] at hnext
    have hKl : (F ++ (P.take n).map Prod.fst).length < 19000000000000 := by rw [List.length_append, List.length_map]; have := List.length_take_le n P; omega
    generalize F ++ (P.take n).map Prod.fst = K at *
    obtain ⟨j, h5, h6, h7, h8⟩ := scan_some _ _ _ _ h1
    obtain rfl : m = j := by omega
    rw [if_neg h2] at h7
    have hrd := rd51 P n
    have hE : Ev (fun k => ex k F (mk51 P) at_ K (n : Int) v cs) r := by
      refine Ev.congr (fun k => ?_) hnext
      unfold ex
      rw [if_pos (by omega), if_pos (by omega), if_pos (by omega), wrap_nat (by omega), hrd]
    have hs2 := (stands_says (K := K) (cs.getD m []) 0 (fun x hx => (fm_true (hf _ (get_mem [] h6) x hx)).1)).2.1 (by rw [h7]) (by rw [h7]; exact h2)
    rw [h7] at hs2
    have hl1 := inner F (mk51 P) at_ K n v cs (P.getD n (0, 0)).2 r (by omega) hcs hc8 hf m (by omega) h8 (.inr ⟨h6, h3, .inr ⟨by omega, by rw [hs2, hrd]⟩⟩) hE _ 0 rfl (by omega)
    have hj2 : Ev (fun k => depotlaw06_UnitStory.j2 k F (mk51 P) at_ K (n : Int) (P.getD n (0, 0)).2 (decide ((P.getD n (0, 0)).2 < -1)) v cs) r := by
      refine Ev.step (fun k => ?_) hl1
      simp only [depotlaw06_UnitStory.j2]
      rw [if_neg (by rw [decide_eq_true_iff]; omega)]
      rfl
    have hj1 : Ev (fun k => depotlaw06_UnitStory.j1 k F (mk51 P) at_ K (n : Int) (P.getD n (0, 0)).2 v cs) r := by
      refine Ev.step (fun k => ?_) hj2
      simp only [depotlaw06_UnitStory.j1]
      rw [if_neg (by omega)]
    refine Ev.step (fun k => ?_) hj1
    simp only [depotlaw06_UnitStory.l0]
    rw [if_pos (by omega), if_pos (by omega), if_pos (by omega), hrd, if_neg (by show ¬ ((P.getD n (0, 0)).2 < 0); omega)]

theorem last_l (Kn : List Int) (hK : Kn.length < 9223372036854775807) (m : List Int) (clash : Bool) (hm : m.length < 9223372036854775807) (h : ∀ x ∈ m, x ∈ Kn) (h0 : clash = true ∨ m ≠ [] ∨ Kn = []) : ∀ (d n : Nat), m.length - n = d → n ≤ m.length → Ev (fun k => depotlaw06_UnitStory.l2 k Kn m clash (n : Int)) true := by
  intro d
  induction d with
  | zero =>
    intro n hd hn
    refine Ev.step (f := fun _ => some true) (fun k => ?_) (Ev.now _)
    simp only [depotlaw06_UnitStory.l2]
    rw [if_neg (by omega)]
    by_cases hc : clash = true
    · rw [if_pos hc]
    · rw [if_neg hc]
      by_cases h1 : (m.length : Int) > 0
      · rw [if_pos h1]
      · rw [if_neg h1]
        have h2 : m = [] := List.eq_nil_of_length_eq_zero (by omega)
        have h3 : Kn = [] := (h0.resolve_left hc).resolve_left (fun h => h h2)
        subst h3
        rfl
  | succ d ih =>
    intro n hd hn
    have hlt : n < m.length := by omega
    refine Ev.step (f := fun k => (depotref00_HasInt.f k Kn (m.getD n 0)).bind fun t => if t = true then depotlaw06_UnitStory.l2 k Kn m clash ((n + 1 : Nat) : Int) else some false) (fun k => ?_) (Ev.bind (hasInt Kn (m.getD n 0) hK) (Ev.congr (fun k => if_pos (by simpa using h _ (get_mem 0 hlt))) (ih (n + 1) (by omega) (by omega))))
    simp only [depotlaw06_UnitStory.l2]
    rw [if_pos (by omega), if_pos (by omega), rd_nat, wrap_nat (by omega)]

theorem UnitStory (v : Int) (cs : List (List Int)) (F : List Int) (h24 : cs.length * 24 ≤ 140737488351232) (h8 : ∀ x ∈ cs, x.length * 8 ≤ 140737488351232) (hF : F.length * 8 ≤ 140737488351232) : ∃ k, depotlaw06_UnitStory.f k v cs F = some true := by
  have h82 : ∀ x ∈ cs, x.length ≤ 17592186044416 := fun x hx => by have := h8 x hx; omega
  have hfit := fitsQ h24 h8 hF
  refine Ev.rounds ?_
  unfold depotlaw06_UnitStory.f
  refine Ev.bind (copyFormula v cs (by omega) h82) (Ev.bind (copyInts F (by omega)) ?_)
  refine Ev.bind (a := (mk51 (whyR v cs F).1, (whyR v cs F).2.1, (whyR v cs F).2.2)) (Ev.congr (fun k => show unit_Why.f v cs F = _ by unfold unit_Why.f; rw [if_pos hfit]) (Ev.now _)) ?_
  have herr : ∀ (e : Int), e ≠ 0 → whyR v cs F = ([], 0, e) → Ev (fun k => if (whyR v cs F).2.2 = 0 then (depotref00_CopyInts.f k F).bind fun t => depotlaw06_UnitStory.l0 k F (mk51 (whyR v cs F).1) (whyR v cs F).2.1 t 0 v cs else if ((mk51 (whyR v cs F).1).length : Int) = 0 then (depotlaw06_awake.f k).bind fun t => some t else some false) true := by
    intro e he hr
    rw [hr]
    exact Ev.congr (fun k => by rw [if_neg he, if_pos (show ((mk51 (([] : List (Int × Int)), (0 : Int), e).1).length : Int) = 0 from rfl)]) (Ev.bind awakeQ (Ev.now _))
  rcases asked_cases v cs F with ⟨ha, h1, h2⟩ | ha
  · by_cases ht : tautB F = true
    · exact herr 20 (by decide) (by unfold whyR; rw [if_pos ha, if_pos ht])
    · have hwy : whyR v cs F = ((whyW cs F).1, (whyW cs F).2, 0) := by unfold whyR; rw [if_pos ha, if_neg ht]
      rw [hwy]
      refine Ev.congr (fun k => if_pos rfl) (Ev.bind (copyInts F (by omega)) ?_)
      have hf : ∀ c ∈ cs, ∀ x ∈ c, fm x = true := fun c hc => Spr.formed_all h1 c hc
      have hfF := List.all_eq_true.1 h2
      have hS := why_story hf F
      have hL := why_len hf (F := F) _ _ _ hS
      have hPl := fm_short hL.1 (fun x hx => (hL.2 x hx).1)
      rw [List.length_map] at hPl
      have hc0 : ∀ c ∈ cs, ∀ x ∈ c, x ≠ 0 := fun c hc x hx => (fm_true (hf c hc x hx)).1
      have hcons : Cons F := fun x hx hx2 => ht ((taut_iff F).2 ⟨x, hx, hfF x hx, hx2⟩)
      obtain ⟨hup, hend⟩ := story_end hc0 _ _ _ hS hcons (fun x hx => .fact hx) (fun x hx => hx)
      obtain ⟨p1, p2⟩ := closed_up cs F hfF hf
      generalize whyW cs F = W at *
      obtain ⟨P, at_⟩ := W
      dsimp only at *
      have hgo : ∀ hh, Ev (fun k => depotlaw06_UnitStory.l0 k F (mk51 P) at_ F 0 v cs) true := fun hh => by
        have := story_l v cs F P at_ true (by omega) (fun c hc => by have := h8 c hc; omega) hf hPl hh (by omega) _ 0 rfl (by omega) (by simpa using hS)
        simpa using this
      refine hgo ?_
      clear hgo
      rintro K rfl
      have hKl : (F ++ P.map Prod.fst).length < 9223372036854775807 := by rw [List.length_append, List.length_map]; omega
      have hcloseI : unit_Close.f v cs F = some (closeR v cs F) := by unfold unit_Close.f; rw [if_pos hfit]
      refine Ev.step (f := fun k => (depotref00_CopyFormula.f k v cs).bind fun bt176 => ((depotref00_CopyInts.f k F).bind fun t180 => ((unit_Close.f bt176.1 bt176.2 t180).bind fun bt183 => (if (bt183.2.1 != (decide (at_ ≥ 0))) = true then (some false) else (depotlaw06_UnitStory.l2 k (F ++ P.map Prod.fst) bt183.1 bt183.2.1 0))))) (fun k => ?_) (Ev.bind (copyFormula v cs (by omega) h82) (Ev.bind (copyInts F (by omega)) (Ev.bind (a := closeR v cs F) (Ev.congr (fun k => hcloseI) (Ev.now _)) ?_)))
      · simp only [depotlaw06_UnitStory.l0]
        rw [if_neg (by rw [mk51_len]; omega)]
      · cases hy : (closedSt cs F).2 with
        | true =>
          obtain ⟨_, _, hT, _, hno⟩ := p1 hy
          obtain ⟨hat, _, hin⟩ := hend.resolve_left (fun h => hno h.2)
          have hcl : closeR v cs F = (tidyL (closedSt cs F).1.trail, false, 0) := by unfold closeR; rw [ha, if_pos rfl, if_pos hy]
          have hmem : ∀ x, x ∈ tidyL (closedSt cs F).1.trail ↔ UP cs F x ∧ fm x = true := fun x => by rw [mem_tidy, hT x]
          rw [hcl]
          refine Ev.congr (fun k => if_neg (by rw [hat, decide_eq_false (show ¬ ((-1 : Int) ≥ 0) by decide)]; exact fun h => by cases h)) ?_
          refine last_l _ hKl _ false (by have := tidy_len (closedSt cs F).1.trail; omega) (fun x hx => hin x ((hmem x).1 hx).1) ?_ _ 0 rfl (by omega)
          cases hK0 : F ++ P.map Prod.fst with
          | nil => exact .inr (.inr rfl)
          | cons x xs =>
            refine .inr (.inl fun h => ?_)
            have hx : x ∈ F ++ P.map Prod.fst := by rw [hK0]; exact List.mem_cons_self
            have hux := hup x hx
            have hfx : fm x = true := hux.of (P := fun x => fm x = true) hfF hf
            have := (hmem x).2 ⟨hux, hfx⟩
            rw [h] at this
            cases this
        | false =>
          have hclash := p2 hy
          have hat : 0 ≤ at_ := by
            rcases hend with h | h
            · exact h.1
            · exact absurd hclash h.2.1
          have hcl : closeR v cs F = ([], true, 0) := by unfold closeR; rw [ha, if_pos rfl, if_neg (by rw [hy]; decide)]
          rw [hcl]
          refine Ev.congr (fun k => if_neg (by rw [decide_eq_true (show at_ ≥ 0 from hat)]; exact fun h => by cases h)) ?_
          exact last_l _ hKl [] true (by simp) (by simp) (.inl rfl) _ 0 rfl (by simp)
  · exact herr 1 (by decide) (by unfold whyR; rw [if_neg (by rw [ha]; decide)])

end Go.Proofs.Ythbccfgcemdgeaa.Pure
