/- Part of the proof of RupGrows: what the law uses of the text PureRupGrows. -/
import Derived.Test.YthbccfgcemdgeabZgEvA
import Derived.Test.YthbccfgcemdgeabZgRupP
import Derived.Test.YthbccfgcemdgeabZgRupM
import Derived.Test.YthbccfgcemdgeabZgPortsT
import Derived.Test.YthbccfgcemdgeabZgP5
import Derived.Test.YthbccfgcemdgeabZgP6
import Derived.Test.YthbccfgcemdgeabZgP7
namespace Go.Proofs.Ythbccfgcemdgeab.Pure
open Go.RowKit Go.Proofs.Ythbccfgcemdgeab.P Go.Proofs.Ythbccfgcemdgeab.Lit Go.Proofs.Ythbccfgcemdgeab.Spr Go.Proofs.Ythbccfgcemdgeab.Rf Go.Proofs.YthbccfgcemdgeabW.PrintWords Go.Proofs.YthbccfgcemdgeabW.PrintLast
set_option linter.unusedVariables false
set_option linter.unusedSimpArgs false

theorem awake08 : depotlaw08_awake.f = some true := by decide +kernel
theorem pformed (a : Int) : lits_Formed.f a = some (fm a) := by
  unfold lits_Formed.f fm
  by_cases h1 : a = 0
  · rw [if_pos h1]; congr 1; symm; exact decide_eq_false (by omega)
  · rw [if_neg h1]
    by_cases h2 : a ≥ -1048576
    · rw [if_pos h2]; congr 1
      by_cases h3 : a ≤ 1048576
      · rw [decide_eq_true h3, decide_eq_true (by omega)]
      · rw [decide_eq_false h3, decide_eq_false (by omega)]
    · rw [if_neg h2]; congr 1; symm; exact decide_eq_false (by omega)
theorem pvar (a : Int) : lits_Var.f a = some (lv a) := by
  unfold lits_Var.f lv
  rw [pformed, Option.bind_some]
  by_cases h : fm a = true
  · obtain ⟨_, h2, h3⟩ := fm_true h
    rw [if_pos h, if_pos h]
    by_cases h0 : a < 0
    · rw [if_pos h0, if_pos h0]; congr 1; unfold wrap64; omega
    · rw [if_neg h0, if_neg h0]
  · rw [if_neg h, if_neg h]
def topV (v : Int) : List Int → Int
  | [] => v
  | x :: d => topV (if lv x > v then lv x else v) d
theorem with_l (cs : List (List Int)) (d : List Int) (hl : d.length < 9223372036854775807) : ∀ (m n : Nat) (v : Int), d.length - n = m → n ≤ d.length → Ev (fun k => depotlaw08_with.l0 k d (n : Int) v cs) (topV v (d.drop n), cs) := by
  intro m
  induction m with
  | zero =>
    intro n v hd hn
    rw [List.drop_eq_nil_of_le (by omega)]
    refine Ev.step (f := fun _ => some (v, cs)) (fun k => ?_) (Ev.now _)
    simp only [depotlaw08_with.l0]
    rw [if_neg (by omega)]
  | succ m ih =>
    intro n v hd hn
    have hlt : n < d.length := by omega
    rw [drop_get 0 hlt]
    show Ev _ (topV (if lv (d.getD n 0) > v then lv (d.getD n 0) else v) (d.drop (n + 1)), cs)
    refine Ev.step (fun k => ?_) (ih (n + 1) (if lv (d.getD n 0) > v then lv (d.getD n 0) else v) (by omega) (by omega))
    simp only [depotlaw08_with.l0]
    rw [if_pos (by omega), if_pos (by omega), rd_nat, pvar, Option.bind_some, Option.bind_some, wrap_nat (by omega)]
    by_cases h : lv (d.getD n 0) > v
    · rw [if_pos h, if_pos h]
    · rw [if_neg h, if_neg h]
theorem with08 (v : Int) (cs : List (List Int)) (d : List Int) (hl : cs.length ≤ 5864062014634) (h8 : ∀ c ∈ cs, c.length ≤ 17592186044416) (hd : d.length ≤ 17592186044416) : Ev (fun k => depotlaw08_with.f k v cs d) (topV v d, cs ++ [d]) := by
  unfold depotlaw08_with.f
  refine Ev.bind (copyFormula v cs (by omega) h8) (Ev.bind (copyInts d hd) ?_)
  refine Ev.congr (fun k => by rw [if_pos (by show cs.length < 5864062014805; omega)]) ?_
  have := with_l (cs ++ [d]) d (by omega) _ 0 v rfl (by omega)
  simpa using this
theorem topV_ge : ∀ (d : List Int) (v : Int), v ≤ topV v d ∧ (∀ x ∈ d, lv x ≤ topV v d) ∧ (v ≤ 1048576 → topV v d ≤ 1048576)
  | [], v => ⟨Int.le_refl _, by simp, fun h => h⟩
  | x :: d, v => by
    have hb := (lv_bd x).2
    obtain ⟨m, hm, m1, m2, m3⟩ : ∃ m, (if lv x > v then lv x else v) = m ∧ v ≤ m ∧ lv x ≤ m ∧ (v ≤ 1048576 → m ≤ 1048576) := ⟨_, rfl, by split <;> omega, by split <;> omega, fun h => by split <;> omega⟩
    obtain ⟨h1, h2, h3⟩ := topV_ge d m
    have e : topV v (x :: d) = topV m d := by rw [← hm]; rfl
    rw [e]
    refine ⟨by omega, fun y hy => ?_, fun h => h3 (m3 h)⟩
    rcases List.mem_cons.1 hy with e | e
    · subst e; omega
    · exact h2 y e
theorem formed_with {v : Int} {cs : List (List Int)} {d : List Int} (h1 : formedB v cs = true) (hd : ∀ x ∈ d, fm x = true) : formedB (topV v d) (cs ++ [d]) = true := by
  obtain ⟨hr, _⟩ := formed_all h1
  obtain ⟨t1, t2, t3⟩ := topV_ge d v
  have t4 := t3 hr.2
  unfold formedB at h1 ⊢
  rw [Bool.and_eq_true] at h1 ⊢
  refine ⟨by simp only [Bool.and_eq_true, decide_eq_true_eq]; omega, ?_⟩
  rw [List.all_append, Bool.and_eq_true]
  refine ⟨List.all_eq_true.2 fun c hc => ?_, ?_⟩
  · have := List.all_eq_true.1 h1.2 c hc
    unfold withinB at this ⊢
    rw [Bool.and_eq_true] at this ⊢
    refine ⟨this.1, List.all_eq_true.2 fun x hx => ?_⟩
    have h5 := of_decide_eq_true (List.all_eq_true.1 this.2 x hx)
    exact decide_eq_true (by omega)
  · rw [List.all_cons, List.all_nil, Bool.and_true]
    unfold withinB
    rw [Bool.and_eq_true]
    exact ⟨List.all_eq_true.2 hd, List.all_eq_true.2 fun x hx => decide_eq_true (t2 x hx)⟩

theorem RupGrows (v : Int) (cs : List (List Int)) (c d : List Int) (h24 : cs.length * 24 ≤ 140737488351232) (h8 : ∀ x ∈ cs, x.length * 8 ≤ 140737488351232) (hF : c.length * 8 ≤ 140737488351232) (hD : d.length * 8 ≤ 140737488351232) : ∃ k, depotlaw08_RupGrows.f k v cs c d = some true := by
  have hfit : Fits cs c := fitsE h24 h8 (by omega)
  have h82 : ∀ x ∈ cs, x.length ≤ 17592186044416 := fun x hx => by have := h8 x hx; omega
  have hfw : ∀ e : List Int, e.length ≤ 17592186044416 → Fits (cs ++ [d]) e := fun e he => ⟨by rw [List.length_append]; simp; omega, fun x hx => by
    rcases List.mem_append.1 hx with h | h
    · have := h8 x h; omega
    · rw [List.mem_singleton.1 h]; omega, he⟩
  have hw := with08 v cs d (by omega) h82 (by omega)
  refine Ev.rounds ?_
  unfold depotlaw08_RupGrows.f
  have hBl : rup_Blocked.f v cs c = some (blockedR v cs c) := by unfold rup_Blocked.f; rw [if_pos hfit]
  refine Ev.congr (fun k => by rw [awake08, Option.bind_some, if_pos rfl, Follows_p v hfit, Option.bind_some, hBl, Option.bind_some, Safe_p v hfit, Option.bind_some]) ?_
  by_cases h1 : (formedB v cs && c.all fm) = true
  · have h2 := h1
    rw [Bool.and_eq_true] at h2
    have hc := List.all_eq_true.1 h2.2
    have eF : followsA v cs c = (followsR v cs c, 0) := by unfold followsA; rw [if_pos h2.1, if_pos h2.2]
    have eS : safeA v cs c = (safeR v cs c, 0) := by unfold safeA; rw [if_pos h2.1, if_pos h2.2]
    have eB : blockedR v cs c = (blockedB cs c, 0) := by unfold blockedR; rw [if_pos h1]
    rw [eF, eS, eB]
    have hj : Ev (fun k => depotlaw08_RupGrows.j0 k c d (followsR v cs c) false v cs) true := by
      by_cases hs : d.all fm = true
      · have hdf := List.all_eq_true.1 hs
        have hfd := formed_with h2.1 hdf
        have eM : followsA (topV v d) (cs ++ [d]) c = (followsR (topV v d) (cs ++ [d]) c, 0) := by unfold followsA; rw [if_pos hfd, if_pos h2.2]
        have eO : followsA (topV v d) (cs ++ [d]) d = (followsR (topV v d) (cs ++ [d]) d, 0) := by unfold followsA; rw [if_pos hfd, if_pos hs]
        have eL : followsA v cs (joinL c d) = (followsR v cs (joinL c d), 0) := by unfold followsA; rw [if_pos h2.1, if_pos (List.all_eq_true.2 (join_fm c d))]
        have hown : followsR (topV v d) (cs ++ [d]) d = true := (follows_iff hfd hdf).2 (clash_clause (d := d) (by simp) fun x hx => mem_negL.2 (by rw [Int.neg_neg]; exact hx))
        have hmore : followsR v cs c = true → followsR (topV v d) (cs ++ [d]) c = true := fun h => (follows_iff hfd hc).2 (((follows_iff h2.1 hc).1 h).mono (fun e he => ⟨e, by simp [he], fun _ => Iff.rfl⟩) (fun _ h => h))
        have hlong : followsR v cs c = true → followsR v cs (joinL c d) = true := fun h => (follows_iff h2.1 (join_fm c d)).2 (((follows_iff h2.1 hc).1 h).mono (fun e he => ⟨e, he, fun _ => Iff.rfl⟩) (fun x hx => by
          rw [mem_negL] at hx ⊢
          exact mem_join.2 ⟨.inl hx, hc _ hx⟩))
        refine Ev.step (fun k => ?_) (Ev.bind hw (f := fun k b => (rup_Follows.f b.1 b.2 c).bind fun b1 => (lits_Join.f c d).bind fun t => (rup_Follows.f v cs t).bind fun b2 => (depotlaw08_with.f k v cs d).bind fun b3 => (rup_Follows.f b3.1 b3.2 d).bind fun b4 => if b1.2 = 0 then (if b2.2 = 0 then (if b4.2 = 0 then (if b4.1 = true then (if followsR v cs c = true then (if b1.1 = true then some b2.1 else some false) else some true) else some false) else some false) else some false) else some false) ?_)
        · simp only [depotlaw08_RupGrows.j0]
          rw [if_neg (by decide)]
          unfold lits_Sound.f
          rw [if_pos (show Fits [] d from ⟨by simp, (fun x hx => by cases hx), by omega⟩), Option.bind_some, if_pos hs]
        · refine Ev.congr (fun k => by rw [Follows_p (topV v d) (hfw c (by omega)), Option.bind_some]; unfold lits_Join.f; rw [if_pos (by omega), Option.bind_some, Follows_p v (fitsE h24 h8 (by have := join_len c d; omega)), Option.bind_some]) (Ev.bind hw ?_)
          refine Ev.congr (fun k => by rw [Follows_p (topV v d) (hfw d (by omega)), Option.bind_some, eM, eO, eL]) ?_
          by_cases hy : followsR v cs c = true
          · exact Ev.congr (fun k => by rw [if_pos rfl, if_pos rfl, if_pos rfl, if_pos hown, if_pos hy, if_pos (hmore hy), hlong hy]) (Ev.now _)
          · exact Ev.congr (fun k => by rw [if_pos rfl, if_pos rfl, if_pos rfl, if_pos hown, if_neg hy]) (Ev.now _)
      · refine Ev.step (f := fun _ => some true) (fun k => ?_) (Ev.now _)
        simp only [depotlaw08_RupGrows.j0]
        rw [if_neg (by decide)]
        unfold lits_Sound.f
        rw [if_pos (show Fits [] d from ⟨by simp, (fun x hx => by cases hx), by omega⟩), Option.bind_some, if_neg hs]
    by_cases hb : blockedB cs c = true
    · have hsf := blocked_safe h2.1 hc hb
      exact Ev.congr (fun k => by rw [if_pos rfl, if_pos rfl, if_pos rfl, if_pos hb, hsf]; rfl) hj
    · exact Ev.congr (fun k => by rw [if_pos rfl, if_pos rfl, if_pos rfl, if_neg hb]) hj
  · have eB : blockedR v cs c = (false, 1) := by unfold blockedR; rw [if_neg h1]
    have eF : followsA v cs c = (false, 1) := by
      unfold followsA
      by_cases h2 : formedB v cs = true
      · rw [if_pos h2, if_neg (fun h => h1 (by rw [h2, h]; rfl))]
      · rw [if_neg h2]
    have eS : safeA v cs c = (false, 1) := by
      unfold safeA
      by_cases h2 : formedB v cs = true
      · rw [if_pos h2, if_neg (fun h => h1 (by rw [h2, h]; rfl))]
      · rw [if_neg h2]
    rw [eF, eS, eB]
    exact Ev.congr (fun k => by rw [if_neg (by decide), if_pos rfl, if_pos rfl, if_neg (by decide), if_neg (by decide)]; rfl) (Ev.now _)

end Go.Proofs.Ythbccfgcemdgeab.Pure
