/- Part of the proof of ForwardSound: what the law uses of the text PureForwardSound. -/
import Derived.Test.YtcaoobdbgdldaaaGreatDoorZPRefX
import Derived.Test.YtcaoobdbgdldaaaGreatDoorZPFwM
import Derived.Test.YtcaoobdbgdldaaaGreatDoorZPCnH
import Derived.Test.YtcaoobdbgdldaaaGreatDoorZPP8
namespace Go.Proofs.YtcaoobdbgdldaaaGreatDoor.Pure
open Go.RowKit Go.Proofs.YtcaoobdbgdldaaaGreatDoor.P Go.Proofs.YtcaoobdbgdldaaaGreatDoor.Lit Go.Proofs.YtcaoobdbgdldaaaGreatDoor.Spr Go.Proofs.YtcaoobdbgdldaaaGreatDoor.Rf Go.Proofs.YtcaoobdbgdldaaaGreatDoor.Fwd Go.Proofs.YtcaoobdbgdldaaaGreatDoorW.PrintWords Go.Proofs.YtcaoobdbgdldaaaGreatDoorW.PrintLast
set_option linter.unusedVariables false
set_option linter.unusedSimpArgs false

theorem awake11 : depotlaw11_awake.f = some true := by decide +kernel
theorem take_code (F : Fw) (hd : F.done = false) (d : Bool) (c : List Int) : ((Fwd.takeW F d c).1 = 0 ∧ (Fwd.takeW F d c).2.done = false) ∨ ((Fwd.takeW F d c).1 = 1 ∧ d = false ∧ c.length = 0) ∨ (2 ≤ (Fwd.takeW F d c).1 ∧ (Fwd.takeW F d c).1 ≤ 5 ∧ (Fwd.takeW F d c).1 ≠ 4) := by
  unfold Fwd.takeW
  cases d with
  | true =>
    rw [if_pos rfl]
    by_cases h1 : (dropW F c).2.1 ≠ 0
    · rw [if_pos h1]; exact .inr (.inr ⟨show (2 : Int) ≤ 5 by decide, show (5 : Int) ≤ 5 by decide, show (5 : Int) ≠ 4 by decide⟩)
    · rw [if_neg h1]
      by_cases h2 : (dropW F c).1 = 0
      · rw [if_pos h2]; exact .inr (.inr ⟨show (2 : Int) ≤ 3 by decide, show (3 : Int) ≤ 5 by decide, show (3 : Int) ≠ 4 by decide⟩)
      · rw [if_neg h2]
        refine .inl ⟨rfl, ?_⟩
        show (dropW F c).2.2.done = false
        unfold dropW
        split
        · split
          · exact hd
          · split
            · exact hd
            · exact hd
        · exact hd
  | false =>
    rw [if_neg (by decide)]
    by_cases h1 : (addW F c).2.1 ≠ 0
    · rw [if_pos h1]; exact .inr (.inr ⟨show (2 : Int) ≤ 5 by decide, show (5 : Int) ≤ 5 by decide, show (5 : Int) ≠ 4 by decide⟩)
    · rw [if_neg h1]
      by_cases h2 : (addW F c).1 = 0
      · rw [if_pos h2]; exact .inr (.inr ⟨show (2 : Int) ≤ 2 by decide, show (2 : Int) ≤ 5 by decide, show (2 : Int) ≠ 4 by decide⟩)
      · rw [if_neg h2]
        by_cases h3 : (addW F c).2.2.done = true
        · rw [if_pos h3]
          refine .inr (.inl ⟨rfl, rfl, ?_⟩)
          unfold addW at h3
          split at h3
          · split at h3
            · rw [hd] at h3; cases h3
            · exact of_decide_eq_true h3
          · rw [hd] at h3; cases h3
        · rw [if_neg h3]
          exact .inl ⟨rfl, Bool.eq_false_iff.2 h3⟩
theorem steps_code : ∀ (l : List (Bool × List Int)) (F : Fw) (i : Nat), F.done = false →
    ((stepsW F i l).1 = 1 ∧ (∃ j : Nat, (stepsW F i l).2 = ((i + j : Nat) : Int) ∧ l[j]? = some (false, []))) ∨ ((stepsW F i l).1 = 4 ∧ (stepsW F i l).2 = ((i + l.length : Nat) : Int)) ∨ (2 ≤ (stepsW F i l).1 ∧ (stepsW F i l).1 ≤ 5 ∧ (stepsW F i l).1 ≠ 4 ∧ ∃ j : Nat, j < l.length ∧ (stepsW F i l).2 = ((i + j : Nat) : Int))
  | [], F, i, hd => .inr (.inl ⟨rfl, rfl⟩)
  | (d, c) :: t, F, i, hd => by
    unfold stepsW
    rcases take_code F hd d c with ⟨h1, h2⟩ | ⟨h1, rfl, h3⟩ | ⟨h1, h2, h3⟩
    · rw [if_neg (by rw [h1]; decide)]
      rcases steps_code t _ (i + 1) h2 with ⟨e, j, e2, e3⟩ | ⟨e, e2⟩ | ⟨e1, e2, e3, j, e4, e5⟩
      · exact .inl ⟨e, j + 1, by rw [e2]; congr 1; omega, e3⟩
      · exact .inr (.inl ⟨e, by rw [e2, List.length_cons]; congr 1; omega⟩)
      · exact .inr (.inr ⟨e1, e2, e3, j + 1, by rw [List.length_cons]; omega, by rw [e5]; congr 1; omega⟩)
    · rw [if_pos (by rw [h1]; decide)]
      obtain rfl : c = [] := List.length_eq_zero_iff.1 h3
      exact .inl ⟨h1, 0, rfl, rfl⟩
    · rw [if_pos (by omega)]
      exact .inr (.inr ⟨h1, h2, h3, 0, by simp, rfl⟩)
theorem new_done (cs : List (List Int)) : (newW cs).done = false := by
  unfold newW
  have : ∀ (l : List (List Int)) (F : Fw), F.done = false → (l.foldl putW F).done = false := by
    intro l
    induction l with
    | nil => exact fun F h => h
    | cons c t ih => exact fun F h => ih _ h
  exact this cs _ rfl

def maxL (m : Int) (c : List Int) : Int := c.foldl (fun m x => if (if x < 0 then -x else x) > m then (if x < 0 then -x else x) else m) m
def maxC (m : Int) (cs : List (List Int)) : Int := cs.foldl maxL m
theorem maxL_ge : ∀ (c : List Int) (m : Int), m ≤ maxL m c ∧ ∀ x ∈ c, -(maxL m c) ≤ x ∧ x ≤ maxL m c
  | [], m => ⟨Int.le_refl _, fun x hx => by cases hx⟩
  | y :: t, m => by
    obtain ⟨h1, h2⟩ := maxL_ge t (if (if y < 0 then -y else y) > m then (if y < 0 then -y else y) else m)
    have e : maxL m (y :: t) = maxL (if (if y < 0 then -y else y) > m then (if y < 0 then -y else y) else m) t := rfl
    rw [e]
    generalize maxL (if (if y < 0 then -y else y) > m then (if y < 0 then -y else y) else m) t = M at *
    refine ⟨?_, fun x hx => ?_⟩
    · split at h1 <;> omega
    · rcases List.mem_cons.1 hx with rfl | hx
      · split at h1 <;> split at h1 <;> omega
      · exact h2 x hx
theorem maxL_le : ∀ (c : List Int) (m B : Int), m ≤ B → (∀ x ∈ c, -B ≤ x ∧ x ≤ B) → maxL m c ≤ B
  | [], m, B, h, _ => h
  | y :: t, m, B, h, hx => by
    refine maxL_le t _ B ?_ fun x h => hx x (List.mem_cons_of_mem _ h)
    have := hx y List.mem_cons_self
    dsimp only
    split <;> split <;> omega
theorem maxC_ge : ∀ (cs : List (List Int)) (m : Int), m ≤ maxC m cs ∧ ∀ c ∈ cs, ∀ x ∈ c, -(maxC m cs) ≤ x ∧ x ≤ maxC m cs
  | [], m => ⟨Int.le_refl _, fun c hc => by cases hc⟩
  | c :: t, m => by
    obtain ⟨h1, h2⟩ := maxC_ge t (maxL m c)
    obtain ⟨h3, h4⟩ := maxL_ge c m
    have e : maxC m (c :: t) = maxC (maxL m c) t := rfl
    rw [e]
    refine ⟨by omega, fun d hd x hx => ?_⟩
    rcases List.mem_cons.1 hd with rfl | hd
    · have := h4 x hx; omega
    · exact h2 d hd x hx
theorem maxC_le : ∀ (cs : List (List Int)) (m B : Int), m ≤ B → (∀ c ∈ cs, ∀ x ∈ c, -B ≤ x ∧ x ≤ B) → maxC m cs ≤ B
  | [], m, B, h, _ => h
  | c :: t, m, B, h, hx => maxC_le t _ B (maxL_le c m B h (hx c List.mem_cons_self)) fun d hd => hx d (List.mem_cons_of_mem _ hd)
theorem var_f {x : Int} (h0 : x ≠ 0) (h1 : -1048576 ≤ x) (h2 : x ≤ 1048576) : lits_Var.f x = some (if x < 0 then -x else x) := by
  unfold lits_Var.f lits_Formed.f
  rw [if_neg h0, if_pos (by omega), Option.bind_some, if_pos (decide_eq_true h2)]
  by_cases h : x < 0
  · rw [if_pos h, if_pos h]; congr 1; unfold wrap64; omega
  · rw [if_neg h, if_neg h]
theorem narrow_in (v : Int) (cs cs2 : List (List Int)) (hl : cs.length < 9223372036854775807) (h8 : ∀ c ∈ cs, c.length < 9223372036854775807) (hw : ∀ c ∈ cs, ∀ x ∈ c, x ≠ 0 ∧ -1048576 ≤ x ∧ x ≤ 1048576) (n : Nat) (hn : n < cs.length) (r : Int × List (List Int)) :
    ∀ (d j : Nat) (m : Int), (cs.getD n []).length - j = d → j ≤ (cs.getD n []).length → Ev (fun k => depotlaw11_narrow.l0 k ((n + 1 : Nat) : Int) v cs (maxL m ((cs.getD n []).drop j)) cs2) r → Ev (fun k => depotlaw11_narrow.l1 k (n : Int) (j : Int) v cs m cs2) r := by
  have hmem := get_mem (xs := cs) [] hn
  have h8c := h8 _ hmem
  have hwc := hw _ hmem
  intro d
  induction d with
  | zero =>
    intro j m hd hj hE
    rw [List.drop_eq_nil_of_le (by omega)] at hE
    refine Ev.step (fun k => ?_) hE
    simp only [depotlaw11_narrow.l1]
    rw [if_pos (by omega), if_pos (by omega), rdL_nat, if_neg (by omega), wrap_nat (n := n) (by omega)]
    rfl
  | succ d ih =>
    intro j m hd hj hE
    have hlt : j < (cs.getD n []).length := by omega
    have hx := hwc _ (get_mem 0 hlt)
    rw [drop_get 0 hlt] at hE
    refine Ev.step (fun k => ?_) (ih (j + 1) (if (if (cs.getD n []).getD j 0 < 0 then -((cs.getD n []).getD j 0) else (cs.getD n []).getD j 0) > m then (if (cs.getD n []).getD j 0 < 0 then -((cs.getD n []).getD j 0) else (cs.getD n []).getD j 0) else m) (by omega) (by omega) hE)
    simp only [depotlaw11_narrow.l1]
    rw [if_pos (by omega), if_pos (by omega), rdL_nat, if_pos (by omega), if_pos (by omega), rd_nat, var_f hx.1 (by omega) (by omega), Option.bind_some, wrap_nat (n := j) (by omega)]
    generalize (if (cs.getD n []).getD j 0 < 0 then -((cs.getD n []).getD j 0) else (cs.getD n []).getD j 0) = y
    by_cases h : y > m
    · rw [if_pos h, if_pos h]
    · rw [if_neg h, if_neg h]
theorem narrow_out (v : Int) (cs cs2 : List (List Int)) (hl : cs.length < 9223372036854775807) (h8 : ∀ c ∈ cs, c.length < 9223372036854775807) (hw : ∀ c ∈ cs, ∀ x ∈ c, x ≠ 0 ∧ -1048576 ≤ x ∧ x ≤ 1048576) :
    ∀ (d n : Nat) (m : Int), cs.length - n = d → n ≤ cs.length → Ev (fun k => depotlaw11_narrow.l0 k (n : Int) v cs m cs2) (maxC m (cs.drop n), cs2) := by
  intro d
  induction d with
  | zero =>
    intro n m hd hn
    rw [List.drop_eq_nil_of_le (by omega)]
    refine Ev.step (f := fun _ => some (m, cs2)) (fun k => ?_) (Ev.now _)
    simp only [depotlaw11_narrow.l0]
    rw [if_neg (by omega)]
  | succ d ih =>
    intro n m hd hn
    have hlt : n < cs.length := by omega
    rw [drop_get [] hlt]
    have h := ih (n + 1) (maxL m (cs.getD n [])) (by omega) (by omega)
    refine Ev.step (fun k => ?_) (narrow_in v cs cs2 hl h8 hw n hlt _ _ 0 m rfl (by omega) (by rw [List.drop_zero]; exact h))
    simp only [depotlaw11_narrow.l0]
    rw [if_pos (by omega)]
    rfl
theorem narrow_ev (v : Int) (cs : List (List Int)) (hl : cs.length ≤ 2097152) (h8 : ∀ c ∈ cs, c.length ≤ 2097152) (hw : ∀ c ∈ cs, ∀ x ∈ c, x ≠ 0 ∧ -1048576 ≤ x ∧ x ≤ 1048576) : Ev (fun k => depotlaw11_narrow.f k v cs) (maxC 0 cs, cs) := by
  unfold depotlaw11_narrow.f
  refine Ev.bind (copyFormula v cs (by omega) (fun c hc => by have := h8 c hc; omega)) ?_
  have h := narrow_out v cs cs (by omega) (fun c hc => by have := h8 c hc; omega) hw _ 0 0 rfl (by omega)
  rw [List.drop_zero] at h
  exact h

theorem tv_neg (m : List Bool) {x : Int} (h : x ≠ 0) : Cn.tv m (-x) = !Cn.tv m x := by
  unfold Cn.tv
  by_cases h0 : x < 0
  · rw [if_neg (by omega), if_pos h0]; simp
  · rw [if_pos (by omega), if_neg h0, Int.neg_neg]
theorem narrow_formed {v : Int} {cs : List (List Int)} (h : formedB v cs = true) : 0 ≤ maxC 0 cs ∧ maxC 0 cs ≤ 1048576 ∧ formedB (maxC 0 cs) cs = true := by
  have hF := h
  unfold formedB at h
  simp only [Bool.and_eq_true, decide_eq_true_eq] at h
  obtain ⟨⟨hv0, hv1⟩, ha⟩ := h
  have hr : ∀ c ∈ cs, ∀ x ∈ c, fm x = true ∧ x ≠ 0 ∧ -v ≤ x ∧ x ≤ v := fun c hc x hx => by
    have h := List.all_eq_true.1 ha c hc
    unfold withinB at h
    rw [Bool.and_eq_true] at h
    have h1 := List.all_eq_true.1 h.1 x hx
    have h2 := of_decide_eq_true (List.all_eq_true.1 h.2 x hx)
    have h3 := fm_true h1
    unfold lv at h2
    rw [if_pos h1] at h2
    refine ⟨h1, h3.1, ?_⟩
    split at h2 <;> omega
  obtain ⟨h1, h2⟩ := maxC_ge cs 0
  have h3 := maxC_le cs 0 v hv0 fun c hc x hx => (hr c hc x hx).2.2
  refine ⟨h1, by omega, ?_⟩
  unfold formedB
  simp only [Bool.and_eq_true, decide_eq_true_eq]
  refine ⟨⟨h1, by omega⟩, List.all_eq_true.2 fun c hc => ?_⟩
  unfold withinB
  rw [Bool.and_eq_true]
  refine ⟨List.all_eq_true.2 fun x hx => (hr c hc x hx).1, List.all_eq_true.2 fun x hx => decide_eq_true ?_⟩
  have := h2 c hc x hx
  unfold lv
  rw [if_pos (hr c hc x hx).1]
  split <;> omega

theorem ForwardSound (v : Int) (cs : List (List Int)) (l : List S42) (h1 : cs.length ≤ 2097152) (h2 : ∀ c ∈ cs, c.length ≤ 2097152) (h3 : l.length ≤ 2097152) (h4 : ∀ s ∈ l, s.f1.length ≤ 2097152) : ∃ k, depotlaw11_ForwardSound.f k v cs l = some true := by
  have hcf : CFits cs l := ⟨h1, h2, h3, h4⟩
  have hck : forward_Check.f v cs l = some (checkW v cs (l.map fun s => (s.f0, s.f1))) := by unfold forward_Check.f; rw [if_pos hcf]
  refine Ev.rounds ?_
  unfold depotlaw11_ForwardSound.f
  refine Ev.bind (a := true) (Ev.congr (fun k => awake11) (Ev.now _)) (Ev.congr (fun k => if_pos rfl) ?_)
  refine Ev.bind (a := checkW v cs (l.map fun s => (s.f0, s.f1))) (Ev.congr (fun k => hck) (Ev.now _)) ?_
  cases hf : formedB v cs with
  | false =>
    have e : checkW v cs (l.map fun s => (s.f0, s.f1)) = (0, 0, 1) := by unfold checkW; rw [if_neg (by rw [hf]; decide)]
    rw [e]
    have hq : cnf_Formed.f v cs = some false := by unfold cnf_Formed.f; rw [if_pos ⟨by omega, fun c hc => by have := h2 c hc; omega, by simp⟩, hf]
    refine Ev.congr (f := fun _ => some true) (fun k => ?_) (Ev.now _)
    rw [if_neg (by decide), if_pos (by decide), if_pos (by decide), hq]
    rfl
  | true =>
    obtain ⟨hn0, hn1, hnf⟩ := narrow_formed hf
    have hr : ∀ c ∈ cs, ∀ x ∈ c, fm x = true := fun c hc x hx => by
      unfold formedB at hf
      simp only [Bool.and_eq_true, decide_eq_true_eq] at hf
      have h := List.all_eq_true.1 hf.2 c hc
      unfold withinB at h
      rw [Bool.and_eq_true] at h
      exact List.all_eq_true.1 h.1 x hx
    obtain ⟨sl, hsl⟩ : ∃ sl, (l.map fun s => (s.f0, s.f1)) = sl := ⟨_, rfl⟩
    have hll : sl.length = l.length := by rw [← hsl, List.length_map]
    rw [hsl]
    have e : checkW v cs sl = ((stepsW (newW cs) 0 sl).1, (stepsW (newW cs) 0 sl).2, 0) := by unfold checkW; rw [if_pos hf]
    rw [e]
    refine Ev.congr (fun k => if_pos rfl) ?_
    rcases steps_code sl (newW cs) 0 (new_done cs) with ⟨e1, j, e2, e3⟩ | ⟨e1, e2⟩ | ⟨e1, e2, e3, j, e4, e5⟩
    · have hjl : j < sl.length := (List.getElem?_eq_some_iff.1 e3).1
      have hjl2 : j < l.length := by omega
      obtain ⟨hz0, hz1⟩ : (rd_T42 l (j : Int)).f0 = false ∧ (rd_T42 l (j : Int)).f1 = [] := by
        rw [← hsl, List.getElem?_map, List.getElem?_eq_getElem hjl2] at e3
        have e4 := Option.some.inj e3
        have e5 : rd_T42 l (j : Int) = l[j] := by
          simp [rd_T42, List.getElem?_eq_getElem hjl2]
        rw [e5]
        exact ⟨congrArg Prod.fst e4, congrArg Prod.snd e4⟩
      rw [Nat.zero_add] at e2
      have hno : Cn.countW (maxC 0 cs) cs = if maxC 0 cs > 16 then (0, 4) else (0, 0) := by
        unfold Cn.countW
        rw [if_pos hnf]
        have hm : Cn.mods cs (maxC 0 cs).toNat = [] := by
          unfold Cn.mods
          refine List.filter_eq_nil_iff.2 fun m _ hs => ?_
          refine check_sound (v := v) hr (l := sl) (by rw [e]; exact e1) (Cn.tv m) (fun x hx => tv_neg m hx) fun c hc => ?_
          have := List.all_eq_true.1 hs c hc
          exact List.any_eq_true.1 this
        rw [hm]
        rfl
      have hq : cnf_Count.f (maxC 0 cs) cs = some (Cn.countW (maxC 0 cs) cs) := by unfold cnf_Count.f; rw [if_pos ⟨by omega, fun c hc => by have := h2 c hc; omega⟩]
      refine Ev.step (f := fun k => (depotlaw11_narrow.f k v cs).bind fun bt => (if bt.1 > 16 then (some true) else ((cnf_Count.f bt.1 bt.2).bind fun bt2 => (if bt2.1 = 0 then (some (bt2.2 == 0)) else (some false))))) (fun k => ?_) (Ev.bind (narrow_ev v cs h1 h2 (fun c hc x hx => by have := fm_true (hr c hc x hx); omega)) ?_)
      · dsimp only
        rw [if_pos e1, e2, if_neg (by omega), if_neg (by omega), if_pos (by omega), if_pos (by omega), hz0, hz1, if_neg (by decide)]
        simp only [depotlaw11_ForwardSound.j0]
        rw [if_neg (by decide)]
      · by_cases h16 : maxC 0 cs > 16
        · exact Ev.congr (fun k => if_pos h16) (Ev.now _)
        · refine Ev.congr (f := fun _ => some true) (fun k => ?_) (Ev.now _)
          rw [if_neg h16, hq, hno, if_neg h16]
          rfl
    · refine Ev.congr (f := fun _ => some true) (fun k => ?_) (Ev.now _)
      dsimp only
      rw [e1, e2, if_neg (by decide), if_pos (by decide), if_pos (by decide), Nat.zero_add, if_pos (by omega), if_pos (by omega), hll]
      simp
    · refine Ev.congr (f := fun _ => some true) (fun k => ?_) (Ev.now _)
      dsimp only
      rw [if_neg (by omega), if_pos e1, if_pos e2, e5, Nat.zero_add, if_pos (by omega), if_pos (by omega)]
      rw [show (((j : Int) == (l.length : Int)) = false) from by rw [beq_eq_false_iff_ne]; omega, show (((stepsW (newW cs) 0 sl).1 == 4) = false) from by rw [beq_eq_false_iff_ne]; exact e3]
      rfl

end Go.Proofs.YtcaoobdbgdldaaaGreatDoor.Pure
