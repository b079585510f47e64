/- Part of the proof of RupOrder: what the law uses of the text PureRupOrder. -/
import Derived.Test.YthbccfgcemdgeabZoEvA
import Derived.Test.YthbccfgcemdgeabZoRupP
import Derived.Test.YthbccfgcemdgeabZoRupN
import Derived.Test.YthbccfgcemdgeabZoPortsT
import Derived.Test.YthbccfgcemdgeabZoP6
import Derived.Test.YthbccfgcemdgeabZoP10
namespace Go.Proofs.Ythbccfgcemdgeab.Pure
open Go.RowKit Go.Proofs.Ythbccfgcemdgeab.P Go.Proofs.Ythbccfgcemdgeab.Lit Go.Proofs.Ythbccfgcemdgeab.Spr Go.Proofs.Ythbccfgcemdgeab.Rf Go.Proofs.YthbccfgcemdgeabW.PrintWords Go.Proofs.YthbccfgcemdgeabW.PrintLast
set_option linter.unusedVariables false
set_option linter.unusedSimpArgs false

theorem awake08 : depotlaw08_awake.f = some true := by decide +kernel
theorem partners_l (cs : List (List Int)) (hl : cs.length ≤ 5864062014634) (h8 : ∀ c ∈ cs, c.length ≤ 17592186044416) : ∀ (m n : Nat) (acc : List Int), cs.length - n = m → n ≤ cs.length → acc.length ≤ n →
    ∃ r, Ev (fun k => rup_Partners.l0 k 1 acc cs (cs.length : Int) (n : Int)) r ∧ r.length = acc.length + (cs.drop n).countP fun d => hasB d (-1) := by
  have w1 : wrap64 (-1 : Int) = -1 := by unfold wrap64; omega
  intro m
  induction m with
  | zero =>
    intro n acc hd hn ha
    rw [List.drop_eq_nil_of_le (by omega)]
    refine ⟨acc, Ev.step (f := fun _ => some acc) (fun k => ?_) (Ev.now _), by simp⟩
    simp only [rup_Partners.l0]
    rw [if_neg (by omega)]
  | succ m ih =>
    intro n acc hd hn ha
    have hlt : n < cs.length := by omega
    have hfit : Fits [] (cs.getD n []) := ⟨by simp, (fun x hx => by cases hx), h8 _ (get_mem [] hlt)⟩
    rw [drop_get [] hlt, List.countP_cons]
    by_cases h : hasB (cs.getD n []) (-1) = true
    · obtain ⟨r, r1, r2⟩ := ih (n + 1) (acc ++ [(n : Int)]) (by omega) (by omega) (by simp; omega)
      refine ⟨r, Ev.step (fun k => ?_) r1, by rw [r2, if_pos h]; simp; omega⟩
      simp only [rup_Partners.l0]
      unfold lits_Has.f
      rw [if_pos (by omega), if_pos (by omega), if_pos (by omega), rdL_nat, w1, if_pos hfit, Option.bind_some, if_pos h, if_pos (by omega), wrap_nat (by omega)]
    · obtain ⟨r, r1, r2⟩ := ih (n + 1) acc (by omega) (by omega) (by omega)
      refine ⟨r, Ev.step (fun k => ?_) r1, by rw [r2, if_neg h]; simp⟩
      simp only [rup_Partners.l0]
      unfold lits_Has.f
      rw [if_pos (by omega), if_pos (by omega), if_pos (by omega), rdL_nat, w1, if_pos hfit, Option.bind_some, if_neg h, wrap_nat (by omega)]
theorem partners (v : Int) (cs : List (List Int)) (hl : cs.length ≤ 5864062014634) (h8 : ∀ c ∈ cs, c.length ≤ 17592186044416) (hfit : Fits cs []) :
    ∃ r, Ev (fun k => rup_Partners.f k v cs 1) r ∧ r.length = if formedB v cs = true then cs.countP fun d => hasB d (-1) else 0 := by
  have hc : cnf_Formed.f v cs = some (formedB v cs) := by unfold cnf_Formed.f; rw [if_pos hfit]
  have hf1 : lits_Formed.f 1 = some true := by decide
  unfold rup_Partners.f
  by_cases h1 : formedB v cs = true
  · obtain ⟨r, r1, r2⟩ := partners_l cs hl h8 _ 0 [] rfl (by omega) (by simp)
    refine ⟨r, ?_, by rw [r2, if_pos h1]; simp⟩
    refine Ev.congr (fun k => by rw [hc, Option.bind_some, if_pos h1, hf1, Option.bind_some]) (Ev.step (fun k => ?_) r1)
    simp only [rup_Partners.j0]
    rw [if_neg (by decide)]
    rfl
  · refine ⟨[], ?_, by rw [if_neg h1]; rfl⟩
    refine Ev.congr (fun k => by rw [hc, Option.bind_some, if_neg h1]) (Ev.step (f := fun _ => some []) (fun k => ?_) (Ev.now _))
    simp only [rup_Partners.j0]
    rw [if_pos trivial]

theorem wrap_down {n : Nat} (h : n < 9223372036854775807) : wrap64 ((n : Int) - 1) = (n : Int) - 1 := by unfold wrap64; omega

theorem turn_l (c : List Int) (t : Int) (N : Int) (v : Int) (cs : List (List Int)) (R : Bool) (d : List Int) (hd : d.length ≤ 17592186043904) (g : List (List Int)) (hg : g.length < 5864062014805) (i : Nat) (hi : i < 9223372036854775807)
    (hnext : Ev (fun k => depotlaw08_RupOrder.l0 k c t N ((i + 1 : Nat) : Int) v cs v (g ++ [rvL d])) R) : ∀ (m : Nat) (acc : List Int), m ≤ d.length → acc = (d.drop m).reverse →
    Ev (fun k => depotlaw08_RupOrder.l1 k c t N (i : Int) d acc ((m : Int) - 1) v cs v g) R := by
  intro m
  induction m with
  | zero =>
    intro acc hm ha
    rw [List.drop_zero] at ha
    have hal : acc.length = d.length := by rw [ha, List.length_reverse]
    refine Ev.step (fun k => ?_) hnext
    simp only [depotlaw08_RupOrder.l1]
    rw [if_neg (by omega)]
    by_cases hp : 0 < d.length
    · have hr0 : rd d 0 = d.getD 0 0 := by simp [rd]
      have e : acc ++ [d.getD 0 0] = rvL d := by
        rw [ha]; unfold rvL
        congr 1
        cases d with
        | nil => simp at hp
        | cons x d => rfl
      rw [if_pos (by omega), if_pos (by omega), if_pos (by omega), if_pos (by omega), hr0, e, wrap_nat hi]
    · have e : acc = rvL d := by
        obtain rfl : d = [] := List.eq_nil_of_length_eq_zero (by omega)
        rw [ha]; rfl
      rw [if_neg (by omega), if_pos (by omega), e, wrap_nat hi]
  | succ m ih =>
    intro acc hm ha
    have hlt : m < d.length := by omega
    have hal : acc.length ≤ d.length := by rw [ha, List.length_reverse, List.length_drop]; omega
    have h := ih (acc ++ [d.getD m 0]) (by omega) (by rw [ha, drop_get 0 hlt, List.reverse_cons])
    refine Ev.step (fun k => ?_) h
    simp only [depotlaw08_RupOrder.l1]
    have e : ((m + 1 : Nat) : Int) - 1 = (m : Int) := by omega
    rw [e, if_pos (by omega), if_pos (by omega), if_pos (by omega), if_pos (by omega), rd_nat, wrap_down (by omega)]

theorem rot_l (c : List Int) (t : Int) (p : Nat) (v : Int) (cs : List (List Int)) (R : Bool) (hl : cs.length ≤ 5864062014634) (h8 : ∀ c ∈ cs, c.length ≤ 17592186043904) (hp : 0 < cs.length → p < cs.length ∧ depotkit_Pick.f t (cs.length : Int) = some (p : Int))
    (hend : Ev (fun k => depotlaw08_RupOrder.l0 k c t (cs.length : Int) (cs.length : Int) v cs v (rotL p cs)) R) : ∀ (m i : Nat), cs.length - i = m → i ≤ cs.length →
    Ev (fun k => depotlaw08_RupOrder.l0 k c t (cs.length : Int) (i : Int) v cs v ((rotL p cs).take i)) R := by
  intro m
  induction m with
  | zero =>
    intro i hm hi
    obtain rfl : i = cs.length := by omega
    rw [List.take_of_length_le (by rw [rot_len]; exact Nat.le_refl _)]
    exact hend
  | succ m ih =>
    intro i hm hi
    have hlt : i < cs.length := by omega
    obtain ⟨hpl, hpk⟩ := hp (by omega)
    have h := ih (i + 1) (by omega) (by omega)
    have hj : (i + p) % cs.length < cs.length := Nat.mod_lt _ (by omega)
    have htk : (rotL p cs).take (i + 1) = (rotL p cs).take i ++ [rvL (cs.getD ((i + p) % cs.length) [])] := by
      rw [List.take_add_one, rot_get hpl hlt]; rfl
    rw [htk] at h
    have hw : wrap64 ((i : Int) + (p : Int)) = ((i + p : Nat) : Int) := by unfold wrap64; omega
    have hm2 : Int.tmod ((i + p : Nat) : Int) (cs.length : Int) = (((i + p) % cs.length : Nat) : Int) := by rw [Int.tmod_eq_emod_of_nonneg (by omega)]; omega
    have hd8 := h8 _ (get_mem [] hj)
    have hT := turn_l c t (cs.length : Int) v cs R (cs.getD ((i + p) % cs.length) []) hd8 ((rotL p cs).take i) (by rw [List.length_take, rot_len]; omega) i (by omega) h _ [] (Nat.le_refl _) (by rw [List.drop_eq_nil_of_le (Nat.le_refl _)]; rfl)
    refine Ev.step (fun k => ?_) hT
    simp only [depotlaw08_RupOrder.l0]
    rw [if_pos (by omega), hpk, Option.bind_some, if_neg (by omega), hw, hm2, if_pos (by omega), if_pos (by omega), rdL_nat, wrap_down (by omega)]

theorem front_l (c : List Int) (v : Int) (cs gs : List (List Int)) (R : Bool) (hc : c.length ≤ 17592186043904) (hend : Ev (fun k => depotlaw08_RupOrder.l2 k c (frontL c) 0 v cs v gs) R) : ∀ (m : Nat) (acc : List Int), m + 1 ≤ c.length → acc = c.take 1 ++ c.take 1 ++ (c.drop (m + 1)).reverse →
    Ev (fun k => depotlaw08_RupOrder.l2 k c acc (m : Int) v cs v gs) R := by
  intro m
  induction m with
  | zero =>
    intro acc hm ha
    have : acc = frontL c := ha
    rw [this]; exact hend
  | succ m ih =>
    intro acc hm ha
    have hlt : m + 1 < c.length := by omega
    have hal : acc.length ≤ c.length := by rw [ha]; simp [List.length_take, List.length_drop]; omega
    have h := ih (acc ++ [c.getD (m + 1) 0]) (by omega) (by rw [ha, drop_get 0 hlt, List.reverse_cons, List.append_assoc])
    refine Ev.step (fun k => ?_) h
    simp only [depotlaw08_RupOrder.l2]
    have e : wrap64 (((m + 1 : Nat) : Int) - 1) = (m : Int) := by unfold wrap64; omega
    rw [if_pos (by omega), if_pos (by omega), if_pos (by omega), if_pos (by omega), rd_nat, e]

theorem pick (t : Int) (n : Nat) (hn : 0 < n) (hb : n ≤ 5864062014634) : ∃ p : Nat, p < n ∧ depotkit_Pick.f t (n : Int) = some (p : Int) := by
  have h1 := Int.tmod_lt_of_pos t (show (0 : Int) < n by omega)
  have h2 : -(n : Int) < Int.tmod t n := by
    have := Int.lt_tmod_of_pos t (show (0 : Int) < n by omega)
    omega
  unfold depotkit_Pick.f
  rw [if_neg (by omega)]
  by_cases h : Int.tmod t n < 0
  · refine ⟨(Int.tmod t n + n).toNat, by omega, ?_⟩
    rw [if_pos h]
    congr 1
    unfold wrap64; omega
  · refine ⟨(Int.tmod t n).toNat, by omega, ?_⟩
    rw [if_neg h]
    congr 1
    omega

theorem RupOrder (v : Int) (cs : List (List Int)) (c : List Int) (t : Int) (h24 : cs.length * 24 ≤ 140737488351232) (h8 : ∀ x ∈ cs, x.length * 8 ≤ 140737488351232) (hF : c.length * 8 ≤ 140737488351232) (_ : (Lit.int .i64 t).wf = true) : ∃ k, depotlaw08_RupOrder.f k v cs c t = some true := by
  have hfit : Fits cs c := fitsE h24 h8 (by omega)
  have hl : cs.length ≤ 5864062014634 := by omega
  have h82 : ∀ x ∈ cs, x.length ≤ 17592186043904 := fun x hx => by have := h8 x hx; omega
  obtain ⟨p, hp⟩ : ∃ p : Nat, 0 < cs.length → p < cs.length ∧ depotkit_Pick.f t (cs.length : Int) = some (p : Int) := by
    by_cases h : 0 < cs.length
    · obtain ⟨p, h1, h2⟩ := pick t cs.length h hl
      exact ⟨p, fun _ => ⟨h1, h2⟩⟩
    · exact ⟨0, fun h2 => absurd h2 h⟩
  have hsc := rot_sc p cs
  have hrl := rot_len p cs
  have hr8 : ∀ x ∈ rotL p cs, x.length ≤ 17592186043905 := fun x hx => by
    unfold rotL at hx
    obtain ⟨d, hd, rfl⟩ := List.mem_map.1 hx
    have hd2 : d ∈ cs := by
      rcases List.mem_append.1 hd with h | h
      · exact List.mem_of_mem_drop h
      · exact List.mem_of_mem_take h
    have := h82 d hd2
    unfold rvL
    rw [List.length_append, List.length_reverse, List.length_take]
    omega
  have hfl : (frontL c).length ≤ 17592186043905 := by unfold frontL; simp [List.length_take, List.length_drop]; omega
  have hfitg : Fits (rotL p cs) (frontL c) := ⟨by rw [hrl]; omega, fun x hx => by have := hr8 x hx; omega, by omega⟩
  have hfs := formed_sc hsc v
  have hss := sound_ext (mem_frontL c)
  -- the answers
  have eK : kindA v (rotL p cs) (frontL c) = kindA v cs c := by
    unfold kindA
    rw [← hfs, ← hss]
    by_cases h1 : formedB v cs = true
    · rw [if_pos h1, if_pos h1]
      by_cases h2 : c.all fm = true
      · rw [if_pos h2, if_pos h2, follows_sc hsc (mem_frontL c) h1 (List.all_eq_true.1 h2), safe_sc hsc (mem_frontL c) (front_get c) (front_pos c) h1]
      · rw [if_neg h2, if_neg h2]
    · rw [if_neg h1, if_neg h1]
  have eB : blockedR v (rotL p cs) (frontL c) = blockedR v cs c := by
    unfold blockedR
    rw [← hfs, ← hss, blocked_sc hsc (mem_frontL c) (front_get c) (front_pos c)]
  have hB1 : rup_Blocked.f v cs c = some (blockedR v cs c) := by unfold rup_Blocked.f; rw [if_pos hfit]
  have hB2 : rup_Blocked.f v (rotL p cs) (frontL c) = some (blockedR v cs c) := by unfold rup_Blocked.f; rw [if_pos hfitg, eB]
  obtain ⟨r1, r1a, r1b⟩ := partners v cs hl (fun x hx => by have := h82 x hx; omega) ⟨hfit.1, hfit.2.1, by simp⟩
  obtain ⟨r2, r2a, r2b⟩ := partners v (rotL p cs) (by omega) (fun x hx => by have := hr8 x hx; omega) ⟨hfitg.1, hfitg.2.1, by simp⟩
  have hrr : r1.length = r2.length := by rw [r1b, r2b, ← hfs, rot_count]
  have hend : Ev (fun k => depotlaw08_RupOrder.l2 k c (frontL c) 0 v cs v (rotL p cs)) true := by
    refine Ev.step (fun k => ?_) (Ev.bind r1a (f := fun k t1 => (rup_Partners.f k v (rotL p cs) 1).bind fun t2 => some ((t1.length : Int) == (t2.length : Int))) (Ev.bind r2a (Ev.congr (fun k => by rw [hrr, beq_self_eq_true]) (Ev.now _))))
    simp only [depotlaw08_RupOrder.l2]
    rw [if_neg (by omega), Kind_p v hfit, Option.bind_some, Kind_p v hfitg, Option.bind_some, hB1, Option.bind_some, hB2, Option.bind_some, eK]
    simp only [if_true, beq_self_eq_true]
  have hj2 : Ev (fun k => depotlaw08_RupOrder.l0 k c t (cs.length : Int) (cs.length : Int) v cs v (rotL p cs)) true := by
    by_cases hpc : 0 < c.length
    · have hr0 : rd c 0 = c.getD 0 0 := by simp [rd]
      have e : ([] : List Int) ++ [c.getD 0 0, c.getD 0 0] = c.take 1 ++ c.take 1 ++ (c.drop (c.length - 1 + 1)).reverse := by
        rw [List.drop_eq_nil_of_le (by omega)]
        cases c with
        | nil => simp at hpc
        | cons x c => rfl
      have hE := front_l c v cs (rotL p cs) true (by omega) hend (c.length - 1) _ (by omega) e
      refine Ev.step (fun k => ?_) (Ev.step (f := fun k => depotlaw08_RupOrder.l2 k c ([] ++ [c.getD 0 0, c.getD 0 0]) ((c.length - 1 : Nat) : Int) v cs v (rotL p cs)) (g := fun k => depotlaw08_RupOrder.j2 k c ([] ++ [c.getD 0 0, c.getD 0 0]) v cs v (rotL p cs)) (fun k => ?_) hE)
      · simp only [depotlaw08_RupOrder.l0]
        rw [if_neg (by omega), if_pos (by omega), if_pos (by omega), hr0, Option.bind_some, if_pos (by simp)]
      · simp only [depotlaw08_RupOrder.j2]
        rw [show wrap64 ((c.length : Int) - 1) = ((c.length - 1 : Nat) : Int) by unfold wrap64; omega]
    · obtain rfl : c = [] := List.eq_nil_of_length_eq_zero (by omega)
      refine Ev.step (f := fun k => depotlaw08_RupOrder.j2 k [] [] v cs v (rotL p cs)) (fun k => ?_) (Ev.step (f := fun k => depotlaw08_RupOrder.l2 k [] [] (-1) v cs v (rotL p cs)) (fun k => ?_) ?_)
      · simp only [depotlaw08_RupOrder.l0]
        rw [if_neg (by omega), if_neg (by simp)]
      · simp only [depotlaw08_RupOrder.j2]
        rw [show wrap64 ((([] : List Int).length : Int) - 1) = -1 by show wrap64 ((0 : Int) - 1) = -1; unfold wrap64; omega]
      · refine Ev.step (fun k => ?_) (Ev.bind r1a (f := fun k t1 => (rup_Partners.f k v (rotL p cs) 1).bind fun t2 => some ((t1.length : Int) == (t2.length : Int))) (Ev.bind r2a (Ev.congr (fun k => by rw [hrr, beq_self_eq_true]) (Ev.now _))))
        simp only [depotlaw08_RupOrder.l2]
        have hk2 : rup_Kind.f v (rotL p cs) [] = some (kindA v cs []) := by rw [← eK]; exact Kind_p v hfitg
        have hb2 : rup_Blocked.f v (rotL p cs) [] = some (blockedR v cs []) := hB2
        rw [if_neg (by omega), Kind_p v hfit, Option.bind_some, hk2, Option.bind_some, hB1, Option.bind_some, hb2, Option.bind_some]
        simp only [if_true, beq_self_eq_true]
  have := rot_l c t p v cs true hl h82 hp hj2 _ 0 rfl (by omega)
  refine Ev.rounds ?_
  unfold depotlaw08_RupOrder.f
  refine Ev.congr (fun k => by rw [awake08, Option.bind_some, if_pos rfl]) ?_
  simpa using this

end Go.Proofs.Ythbccfgcemdgeab.Pure
