/- Part of the proof of RupSound: what the law uses of the text PureRupSound. -/
import Derived.Test.YthgkchnmajccoaaZPRefX
import Derived.Test.YthgkchnmajccoaaZPSnd
import Derived.Test.YthgkchnmajccoaaZPFolP
import Derived.Test.YthgkchnmajccoaaZPPortsE
import Derived.Test.YthgkchnmajccoaaZPPortsN
import Derived.Test.YthgkchnmajccoaaZPPortsS
import Derived.Test.YthgkchnmajccoaaZPP1
import Derived.Test.YthgkchnmajccoaaZPP5
import Derived.Test.YthgkchnmajccoaaZPP6
import Derived.Test.YthgkchnmajccoaaZPP7
namespace Go.Proofs.Ythgkchnmajccoaa.Pure
open Go.RowKit Go.Proofs.Ythgkchnmajccoaa.P Go.Proofs.Ythgkchnmajccoaa.Lit Go.Proofs.Ythgkchnmajccoaa.Spr Go.Proofs.Ythgkchnmajccoaa.Rf Go.Proofs.Ythgkchnmajccoaa.Fwd Go.Proofs.YthgkchnmajccoaaW.PrintWords Go.Proofs.YthgkchnmajccoaaW.PrintLast
set_option linter.unusedVariables false
set_option linter.unusedSimpArgs false

theorem awake08 : depotlaw08_awake.f = some true := by decide +kernel
theorem pformed (a : Int) : lits_Formed.f a = some (fm a) := by
  unfold lits_Formed.f fm
  by_cases h1 : a = 0
  · rw [if_pos h1]; congr 1; symm; exact decide_eq_false (by omega)
  · rw [if_neg h1]
    by_cases h2 : a ≥ -1048576
    · rw [if_pos h2]; congr 1
      by_cases h3 : a ≤ 1048576
      · rw [decide_eq_true h3, decide_eq_true (by omega)]
      · rw [decide_eq_false h3, decide_eq_false (by omega)]
    · rw [if_neg h2]; congr 1; symm; exact decide_eq_false (by omega)
theorem pvar (a : Int) : lits_Var.f a = some (lv a) := by
  unfold lits_Var.f lv
  rw [pformed, Option.bind_some]
  by_cases h : fm a = true
  · obtain ⟨_, h2, h3⟩ := fm_true h
    rw [if_pos h, if_pos h]
    by_cases h0 : a < 0
    · rw [if_pos h0, if_pos h0]; congr 1; unfold wrap64; omega
    · rw [if_neg h0, if_neg h0]
  · rw [if_neg h, if_neg h]
def topV (v : Int) : List Int → Int
  | [] => v
  | x :: d => topV (if lv x > v then lv x else v) d
theorem with_l (cs : List (List Int)) (d : List Int) (hl : d.length < 9223372036854775807) : ∀ (m n : Nat) (v : Int), d.length - n = m → n ≤ d.length → Ev (fun k => depotlaw08_with.l0 k d (n : Int) v cs) (topV v (d.drop n), cs) := by
  intro m
  induction m with
  | zero =>
    intro n v hd hn
    rw [List.drop_eq_nil_of_le (by omega)]
    refine Ev.step (f := fun _ => some (v, cs)) (fun k => ?_) (Ev.now _)
    simp only [depotlaw08_with.l0]
    rw [if_neg (by omega)]
  | succ m ih =>
    intro n v hd hn
    have hlt : n < d.length := by omega
    rw [drop_get 0 hlt]
    show Ev _ (topV (if lv (d.getD n 0) > v then lv (d.getD n 0) else v) (d.drop (n + 1)), cs)
    refine Ev.step (fun k => ?_) (ih (n + 1) (if lv (d.getD n 0) > v then lv (d.getD n 0) else v) (by omega) (by omega))
    simp only [depotlaw08_with.l0]
    rw [if_pos (by omega), if_pos (by omega), rd_nat, pvar, Option.bind_some, Option.bind_some, wrap_nat (by omega)]
    by_cases h : lv (d.getD n 0) > v
    · rw [if_pos h, if_pos h]
    · rw [if_neg h, if_neg h]
theorem with08 (v : Int) (cs : List (List Int)) (d : List Int) (hl : cs.length ≤ 5864062014634) (h8 : ∀ c ∈ cs, c.length ≤ 17592186044416) (hd : d.length ≤ 17592186044416) : Ev (fun k => depotlaw08_with.f k v cs d) (topV v d, cs ++ [d]) := by
  unfold depotlaw08_with.f
  refine Ev.bind (copyFormula v cs (by omega) h8) (Ev.bind (copyInts d hd) ?_)
  refine Ev.congr (fun k => by rw [if_pos (by show cs.length < 5864062014805; omega)]) ?_
  have := with_l (cs ++ [d]) d (by omega) _ 0 v rfl (by omega)
  simpa using this
theorem topV_ge : ∀ (d : List Int) (v : Int), v ≤ topV v d ∧ (∀ x ∈ d, lv x ≤ topV v d) ∧ (v ≤ 1048576 → topV v d ≤ 1048576)
  | [], v => ⟨Int.le_refl _, by simp, fun h => h⟩
  | x :: d, v => by
    have hb := (lv_bd x).2
    obtain ⟨m, hm, m1, m2, m3⟩ : ∃ m, (if lv x > v then lv x else v) = m ∧ v ≤ m ∧ lv x ≤ m ∧ (v ≤ 1048576 → m ≤ 1048576) := ⟨_, rfl, by split <;> omega, by split <;> omega, fun h => by split <;> omega⟩
    obtain ⟨h1, h2, h3⟩ := topV_ge d m
    have e : topV v (x :: d) = topV m d := by rw [← hm]; rfl
    rw [e]
    refine ⟨by omega, fun y hy => ?_, fun h => h3 (m3 h)⟩
    rcases List.mem_cons.1 hy with e | e
    · subst e; omega
    · exact h2 y e
theorem formed_with {v : Int} {cs : List (List Int)} {d : List Int} (h1 : formedB v cs = true) (hd : ∀ x ∈ d, fm x = true) : formedB (topV v d) (cs ++ [d]) = true := by
  obtain ⟨hr, _⟩ := formed_all h1
  obtain ⟨t1, t2, t3⟩ := topV_ge d v
  have t4 := t3 hr.2
  unfold formedB at h1 ⊢
  rw [Bool.and_eq_true] at h1 ⊢
  refine ⟨by simp only [Bool.and_eq_true, decide_eq_true_eq]; omega, ?_⟩
  rw [List.all_append, Bool.and_eq_true]
  refine ⟨List.all_eq_true.2 fun c hc => ?_, ?_⟩
  · have := List.all_eq_true.1 h1.2 c hc
    unfold withinB at this ⊢
    rw [Bool.and_eq_true] at this ⊢
    refine ⟨this.1, List.all_eq_true.2 fun x hx => ?_⟩
    have h5 := of_decide_eq_true (List.all_eq_true.1 this.2 x hx)
    exact decide_eq_true (by omega)
  · rw [List.all_cons, List.all_nil, Bool.and_true]
    unfold withinB
    rw [Bool.and_eq_true]
    exact ⟨List.all_eq_true.2 hd, List.all_eq_true.2 fun x hx => decide_eq_true (t2 x hx)⟩
def kindA (v : Int) (cs : List (List Int)) (c : List Int) : Int × Int := if formedB v cs = true then (if c.all fm = true then (if followsR v cs c = true then (1, 0) else if safeR v cs c = true then (2, 0) else (0, 0)) else (0, 1)) else (0, 1)
theorem fit08 (v : Int) {cs : List (List Int)} {c : List Int} (h : Fits cs c) : rup_fit.f v cs c = some (formedB v cs && c.all fm) := by
  unfold rup_fit.f cnf_Formed.f lits_Sound.f
  rw [if_pos (show Fits cs [] from ⟨h.1, h.2.1, by simp⟩), Option.bind_some]
  by_cases h1 : formedB v cs = true
  · rw [if_pos h1, if_pos (show Fits [] c from ⟨by simp, (fun x hx => by cases hx), h.2.2⟩), Option.bind_some, h1, Bool.true_and]
  · rw [if_neg h1, Bool.eq_false_iff.2 h1, Bool.false_and]
theorem Kind_p (v : Int) {cs : List (List Int)} {c : List Int} (h : Fits cs c) : rup_Kind.f v cs c = some (kindA v cs c) := by
  unfold rup_Kind.f kindA
  rw [fit08 v h, Option.bind_some]
  by_cases h1 : formedB v cs = true
  · rw [if_pos h1, h1, Bool.true_and]
    by_cases h2 : c.all fm = true
    · rw [if_pos h2, if_pos h2]
      unfold rup_follows.f rup_safe.f
      rw [if_pos h, if_pos h2, Option.bind_some, if_pos h, if_pos h2, Option.bind_some]
      by_cases h3 : followsR v cs c = true
      · rw [if_pos h3, if_pos h3]
      · rw [if_neg h3, if_neg h3]
        by_cases h4 : safeR v cs c = true
        · rw [if_pos h4, if_pos h4]
        · rw [if_neg h4, if_neg h4]
    · rw [if_neg h2, if_neg h2]
  · rw [if_neg h1, Bool.eq_false_iff.2 h1, Bool.false_and, if_neg (by decide)]

theorem tv_neg (m : List Bool) {x : Int} (h : x ≠ 0) : Cn.tv m (-x) = !Cn.tv m x := by
  unfold Cn.tv
  by_cases h0 : x < 0
  · rw [if_neg (by omega), if_pos h0]; simp
  · rw [if_pos (by omega), if_neg h0, Int.neg_neg]
theorem tv_proper (m : List Bool) : Proper (Cn.tv m) := fun x hx => tv_neg m hx
theorem mod_sat {cs : List (List Int)} {m : List Bool} (h : Cn.sat cs m = true) : Mod (Cn.tv m) cs := fun c hc => List.any_eq_true.1 (List.all_eq_true.1 h c hc)
def cutV (val : Int → Bool) (n : Nat) : List Bool := (List.range n).map fun (i : Nat) => val ((i : Int) + 1)
theorem cut_tv {val : Int → Bool} (hv : Proper val) {n : Nat} {x : Int} (h0 : x ≠ 0) (h1 : -(n : Int) ≤ x) (h2 : x ≤ n) : Cn.tv (cutV val n) x = val x := by
  have get : ∀ i : Nat, i < n → (cutV val n).getD i false = val ((i : Int) + 1) := fun i hi => by
    unfold cutV
    rw [List.getD_eq_getElem?_getD, List.getElem?_map, List.getElem?_range hi]
    rfl
  unfold Cn.tv
  by_cases h : x < 0
  · rw [if_pos h, get _ (by omega), show (((-x - 1).toNat : Nat) : Int) + 1 = -x by omega, hv x h0, Bool.not_not]
  · rw [if_neg h, get _ (by omega), show (((x - 1).toNat : Nat) : Int) + 1 = x by omega]
theorem cut_mem {val : Int → Bool} (hv : Proper val) {n : Nat} {cs : List (List Int)} (hm : Mod val cs) (hw : ∀ c ∈ cs, ∀ x ∈ c, x ≠ 0 ∧ -(n : Int) ≤ x ∧ x ≤ n) : cutV val n ∈ Cn.mods cs n := by
  unfold Cn.mods
  refine List.mem_filter.2 ⟨(Cn.all_len n _).2 (by unfold cutV; simp), List.all_eq_true.2 fun c hc => List.any_eq_true.2 ?_⟩
  obtain ⟨x, hx, h⟩ := hm c hc
  have hx3 := hw c hc x hx
  exact ⟨x, hx, by rw [cut_tv hv hx3.1 hx3.2.1 hx3.2.2]; exact h⟩
theorem formed_win {v : Int} {cs : List (List Int)} (h : formedB v cs = true) : (0 ≤ v ∧ v ≤ 1048576) ∧ ∀ c ∈ cs, withinB c v = true := by
  unfold formedB at h
  simp only [Bool.and_eq_true, decide_eq_true_eq] at h
  exact ⟨h.1, fun c hc => List.all_eq_true.1 h.2 c hc⟩
theorem formed_pre {v : Int} {cs : List (List Int)} {c : List Int} (h : formedB v (cs ++ [c]) = true) : formedB v cs = true ∧ withinB c v = true := by
  unfold formedB at h ⊢
  rw [List.all_append] at h
  simp only [Bool.and_eq_true] at h ⊢
  exact ⟨⟨h.1, h.2.1⟩, by have := h.2.2; simpa using this⟩
theorem sat_with (cs : List (List Int)) (c : List Int) (m : List Bool) : Cn.sat (cs ++ [c]) m = (Cn.sat cs m && c.any (Cn.tv m)) := by
  unfold Cn.sat; rw [List.all_append]; simp
theorem kept_model {v : Int} {n : Nat} {cs : List (List Int)} {c : List Int} (hk : followsR v cs c = true ∨ safeR v cs c = true) (hcs : ∀ d ∈ cs, ∀ x ∈ d, fm x = true) (hc : ∀ x ∈ c, fm x = true) (hf : formedB (n : Int) (cs ++ [c]) = true) :
    0 < (Cn.mods cs n).length ↔ 0 < (Cn.mods (cs ++ [c]) n).length := by
  constructor
  · intro h
    obtain ⟨m, hm⟩ := List.exists_mem_of_length_pos h
    have hs := mod_sat (List.mem_filter.1 hm).2
    obtain ⟨val, h1, h2, h3⟩ : ∃ val, Proper val ∧ Mod val cs ∧ ∃ x ∈ c, val x = true := by
      rcases hk with e | e
      · exact ⟨_, tv_proper m, hs, follows_sound e hcs hc (tv_proper m) hs⟩
      · exact safe_sound e hcs hc (tv_proper m) hs
    have := cut_mem (n := n) (cs := cs ++ [c]) h1 (fun d hd => by
      rcases List.mem_append.1 hd with e | e
      · exact h2 d e
      · rw [List.mem_singleton.1 e]; exact h3) (fun d hd => Cn.within_of ((formed_win hf).2 d hd))
    exact List.length_pos_of_mem this
  · intro h
    obtain ⟨m, hm⟩ := List.exists_mem_of_length_pos h
    obtain ⟨h1, h2⟩ := List.mem_filter.1 hm
    rw [sat_with, Bool.and_eq_true] at h2
    exact List.length_pos_of_mem (List.mem_filter.2 ⟨h1, h2.1⟩)

theorem RupSound (v : Int) (cs : List (List Int)) (c : List Int) (h24 : cs.length * 24 ≤ 140737488351232) (h8 : ∀ x ∈ cs, x.length * 8 ≤ 140737488351232) (hF : c.length * 8 ≤ 140737488351232) : ∃ k, depotlaw08_RupSound.f k v cs c = some true := by
  have hfit : Fits cs c := fitsE h24 h8 (by omega)
  have h82 : ∀ x ∈ cs, x.length ≤ 17592186044416 := fun x hx => by have := h8 x hx; omega
  have h83 : ∀ x ∈ cs ++ [c], x.length ≤ 17592186044416 := fun x hx => by
    rcases List.mem_append.1 hx with h | h
    · exact h82 x h
    · rw [List.mem_singleton.1 h]; omega
  have hw := with08 v cs c (by omega) h82 (by omega)
  refine Ev.rounds ?_
  unfold depotlaw08_RupSound.f
  refine Ev.congr (fun k => by rw [awake08, Option.bind_some, if_pos rfl, Kind_p v hfit, Option.bind_some]) ?_
  have hq0 : cnf_Formed.f v cs = some (formedB v cs) := by unfold cnf_Formed.f; rw [if_pos (show Fits cs [] from ⟨hfit.1, hfit.2.1, by simp⟩)]
  have hq1 : lits_Sound.f c = some (c.all fm) := by unfold lits_Sound.f; rw [if_pos (show Fits [] c from ⟨by simp, (fun x hx => by cases hx), hfit.2.2⟩)]
  cases h1 : formedB v cs with
  | false =>
    have e : kindA v cs c = (0, 1) := by unfold kindA; rw [if_neg (by rw [h1]; decide)]
    rw [e]
    refine Ev.congr (f := fun _ => some true) (fun k => ?_) (Ev.now _)
    rw [if_neg (by decide), if_pos (by decide), hq0, h1]
    rfl
  | true =>
    cases h2 : c.all fm with
    | false =>
      have e : kindA v cs c = (0, 1) := by unfold kindA; rw [if_pos h1, if_neg (by rw [h2]; decide)]
      rw [e]
      refine Ev.congr (f := fun _ => some true) (fun k => ?_) (Ev.now _)
      rw [if_neg (by decide), if_pos (by decide), hq0, h1, hq1, h2]
      rfl
    | true =>
      have hc := List.all_eq_true.1 h2
      have hcs := (formed_all h1).2
      have hfw := formed_with h1 hc
      have e : kindA v cs c = if followsR v cs c = true then (1, 0) else if safeR v cs c = true then (2, 0) else (0, 0) := by unfold kindA; rw [if_pos h1, if_pos h2]
      have e0 : (kindA v cs c).2 = 0 := by rw [e]; split; rfl; split <;> rfl
      have e1 : (kindA v cs c).1 = 0 ∨ (kindA v cs c).1 = 1 ∨ (kindA v cs c).1 = 2 := by
        rw [e]; split; exact .inr (.inl rfl); split; exact .inr (.inr rfl); exact .inl rfl
      have eK : (kindA v cs c).1 ≠ 0 → followsR v cs c = true ∨ safeR v cs c = true := fun h => by
        rw [e] at h
        split at h
        · exact .inl ‹_›
        · split at h
          · exact .inr ‹_›
          · exact absurd rfl h
      have eF : (kindA v cs c).1 = 1 → followsR v cs c = true := fun h => by
        rw [e] at h
        split at h
        · assumption
        · split at h
          · exact absurd h (by decide)
          · exact absurd h (by decide)
      generalize kindA v cs c = ka at *
      obtain ⟨kd, er⟩ := ka
      dsimp only at e0 e1 eK eF ⊢
      subst e0
      refine Ev.congr (fun k => if_pos rfl) (Ev.bind hw ?_)
      have hyes : Ev (fun k => depotlaw08_RupSound.j0 k c kd true v cs (topV v c) (cs ++ [c])) true := by
        refine Ev.step (f := fun _ => some true) (fun k => ?_) (Ev.now _)
        simp only [depotlaw08_RupSound.j0]
        rw [if_pos trivial]
        rcases e1 with h | h | h
        · rw [if_pos h]
        · rw [if_neg (by omega), if_pos h]
        · rw [if_neg (by omega), if_neg (by omega), h]; rfl
      by_cases h16 : topV v c > 16
      · exact Ev.congr (fun k => if_pos h16) hyes
      · refine Ev.congr (fun k => if_neg h16) ?_
        by_cases hz : kd = 0
        · subst hz
          exact hyes
        · rw [show (kd == 0) = false from by rw [beq_eq_false_iff_ne]; exact hz]
          obtain ⟨⟨hv0, hv1⟩, _⟩ := formed_win hfw
          obtain ⟨n, hn⟩ : ∃ n : Nat, topV v c = n := ⟨(topV v c).toNat, by omega⟩
          rw [hn] at hfw h16 ⊢
          obtain ⟨hfn, hcw⟩ := formed_pre hfw
          have hm := kept_model (eK hz) hcs hc hfw
          have hc1 : cnf_Count.f (n : Int) cs = some (((Cn.mods cs n).length : Int), 0) := by
            unfold cnf_Count.f Cn.countW
            rw [if_pos ⟨by omega, h82⟩, if_pos hfn, if_neg h16, Int.toNat_natCast]
          have hc2 : cnf_Count.f (n : Int) (cs ++ [c]) = some (((Cn.mods (cs ++ [c]) n).length : Int), 0) := by
            unfold cnf_Count.f Cn.countW
            rw [if_pos ⟨by rw [List.length_append, List.length_singleton]; omega, h83⟩, if_pos hfw, if_neg h16, Int.toNat_natCast]
          have hne : ((decide (((Cn.mods cs n).length : Int) > 0)) != (decide (((Cn.mods (cs ++ [c]) n).length : Int) > 0))) = false := by
            have : decide (((Cn.mods cs n).length : Int) > 0) = decide (((Cn.mods (cs ++ [c]) n).length : Int) > 0) := by
              rw [Bool.eq_iff_iff, decide_eq_true_eq, decide_eq_true_eq]; omega
            rw [this]; simp
          refine Ev.step (fun k => ?_) (Ev.bind (copyFormula v cs (by omega) h82) (f := fun k bt => (cnf_Count.f (n : Int) bt.2).bind fun bt204 => ((cnf_Count.f (n : Int) (cs ++ [c])).bind fun bt206 => (if bt204.2 = 0 then (if bt206.2 = 0 then (depotlaw08_RupSound.j1 k c kd bt204.1 bt206.1 ((decide (bt204.1 > 0)) != (decide (bt206.1 > 0))) (n : Int) bt.2) else (depotlaw08_RupSound.j1 k c kd bt204.1 bt206.1 true (n : Int) bt.2)) else (depotlaw08_RupSound.j1 k c kd bt204.1 bt206.1 true (n : Int) bt.2)))) (Ev.congr (f := fun k => depotlaw08_RupSound.j1 k c kd ((Cn.mods cs n).length : Int) ((Cn.mods (cs ++ [c]) n).length : Int) false (n : Int) cs) (fun k => ?_) ?_))
          · simp only [depotlaw08_RupSound.j0]
            rw [if_neg (by decide)]
          · dsimp only
            rw [hc1, Option.bind_some, hc2, Option.bind_some, if_pos rfl, if_pos rfl, hne]
          · by_cases h3 : kd = 2
            · refine Ev.step (f := fun _ => some true) (fun k => ?_) (Ev.now _)
              simp only [depotlaw08_RupSound.j1]
              rw [if_neg (by decide), if_pos h3]
            · have h4 : kd = 1 := by omega
              have hall : ∀ m ∈ Cn.mods cs n, c.any (Cn.tv m) = true := fun m hm => by
                obtain ⟨x, hx, hv⟩ := follows_sound (eF h4) hcs hc (tv_proper m) (mod_sat (List.mem_filter.1 hm).2)
                exact List.any_eq_true.2 ⟨x, hx, hv⟩
              have he : cnf_Entails.f (n : Int) cs c = some (true, 0) := by
                unfold cnf_Entails.f
                rw [if_pos ⟨⟨by omega, h82⟩, by omega, hfn, hcw, by omega⟩, Int.toNat_natCast]
                rw [show ((Cn.mods cs n).all fun m => c.any (Cn.tv m)) = true from List.all_eq_true.2 hall]
              have hsame : (Cn.mods (cs ++ [c]) n).length = (Cn.mods cs n).length := by
                have : Cn.mods (cs ++ [c]) n = Cn.mods cs n := by
                  unfold Cn.mods
                  refine List.filter_congr fun m hm => ?_
                  rw [sat_with]
                  cases hs : Cn.sat cs m with
                  | false => rfl
                  | true => rw [hall m (List.mem_filter.2 ⟨hm, hs⟩)]; rfl
                rw [this]
              refine Ev.step (f := fun _ => some true) (fun k => ?_) (Ev.now _)
              simp only [depotlaw08_RupSound.j1]
              rw [if_neg (by decide), if_neg h3, he, Option.bind_some, if_pos h4, if_pos rfl, if_pos rfl, hsame]
              simp

end Go.Proofs.Ythgkchnmajccoaa.Pure
