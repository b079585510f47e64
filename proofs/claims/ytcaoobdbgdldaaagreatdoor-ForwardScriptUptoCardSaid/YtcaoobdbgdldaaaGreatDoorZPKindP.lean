/- Part of the proof of ForwardScript: what the law uses of the text KindP. -/
import Derived.Test.YtcaoobdbgdldaaaGreatDoorZPJRefA
import Derived.Test.YtcaoobdbgdldaaaGreatDoorZPFolP
import Derived.Test.YtcaoobdbgdldaaaGreatDoorZPJFollows
import Derived.Test.YtcaoobdbgdldaaaGreatDoorZPJP7
namespace Go.Proofs.YtcaoobdbgdldaaaGreatDoor.Rf
open Go.RowKit Go.Proofs.YtcaoobdbgdldaaaGreatDoor.P Go.Proofs.YtcaoobdbgdldaaaGreatDoor.Lit Go.Proofs.YtcaoobdbgdldaaaGreatDoor.Spr Go.Proofs.YtcaoobdbgdldaaaGreatDoorW.PrintWords Go.Proofs.YtcaoobdbgdldaaaGreatDoorW.PrintLast
set_option linter.unusedVariables false
set_option linter.unusedSimpArgs false

theorem opposites_l (c : List Int) (hc : ∀ x ∈ c, fm x = true) (hl : c.length ≤ 17592186044416) : ∀ (d n : Nat), c.length - n = d → n ≤ c.length → Ev (fun k => depotref08_opposites.l0 k c ((negL c).take n) (n : Int)) (negL c) := by
  intro d
  induction d with
  | zero =>
    intro n hd hn
    rw [List.take_of_length_le (by rw [negL_len]; omega)]
    refine Ev.step (f := fun _ => some (negL c)) (fun k => ?_) (Ev.now _)
    simp only [depotref08_opposites.l0]
    rw [if_neg (by omega)]
  | succ d ih =>
    intro n hd hn
    have hlt : n < c.length := by omega
    have h := ih (n + 1) (by omega) (by omega)
    rw [negL_take hlt] at h
    refine Ev.step (fun k => ?_) h
    simp only [depotref08_opposites.l0]
    obtain ⟨_, f1, f2⟩ := fm_true (hc _ (get_mem 0 hlt))
    have hlen : ((negL c).take n).length ≤ n := List.length_take_le _ _
    rw [if_pos (by omega), if_pos (by omega), if_pos (by omega), rd_nat, wrap_neg f1 f2, wrap_nat (by omega)]
theorem follows08 (v : Int) (cs : List (List Int)) (c : List Int) (h1 : formedB v cs = true) (hc : ∀ x ∈ c, fm x = true) (hl : cs.length < 9223372036854775807) (h8 : ∀ c ∈ cs, c.length < 9223372036854775807) (hcl : c.length ≤ 17592186044416) :
    Ev (fun k => depotref08_follows.f k v cs c) (followsR v cs c) := by
  obtain ⟨_, hf⟩ := formed_all h1
  obtain ⟨r, r1, r2, r3, r4⟩ := closing v cs (negL c) hf (fm_negL hc) hl h8 (by rw [negL_len]; omega)
  have ho : Ev (fun k => depotref08_opposites.f k c) (negL c) := by
    have := opposites_l c hc hcl _ 0 rfl (by omega)
    simpa [depotref08_opposites.f] using this
  have he : followsR v cs c = r.2 := by
    have hi := follows_iff h1 hc
    cases hr : r.2 with
    | true => exact hi.2 (r3 hr)
    | false => exact Bool.eq_false_iff.2 fun h => (r4 hr).1 (hi.1 h)
  rw [he]
  unfold depotref08_follows.f
  exact Ev.bind ho (Ev.bind r1 (Ev.now _))
def kindA (v : Int) (cs : List (List Int)) (c : List Int) : Int × Int := if formedB v cs = true then (if c.all fm = true then (if followsR v cs c = true then (1, 0) else if safeR v cs c = true then (2, 0) else (0, 0)) else (0, 1)) else (0, 1)
theorem safe_l (v : Int) (cs : List (List Int)) (c : List Int) (h1 : formedB v cs = true) (hc : ∀ x ∈ c, fm x = true) (hp : 0 < c.length) (hl : cs.length < 9223372036854775807) (h8 : ∀ x ∈ cs, x.length ≤ 17592186044416) (hcl : c.length ≤ 17592186044416) : ∀ (d n : Nat), cs.length - n = d → n ≤ cs.length →
    Ev (fun k => depotref08_safe.l0 k c (n : Int) v cs) ((cs.drop n).all (partB (c.getD 0 0) fun rest => followsR v cs (joinL c rest))) := by
  obtain ⟨_, hf⟩ := formed_all h1
  obtain ⟨_, f1, f2⟩ := fm_true (hc _ (get_mem 0 hp))
  have hr0 : rd c 0 = c.getD 0 0 := by simp [rd]
  have hpi : (0 : Int) < (c.length : Int) := by omega
  have h88 : ∀ x ∈ cs, x.length < 9223372036854775807 := fun x hx => by have := h8 x hx; omega
  intro d
  induction d with
  | zero =>
    intro n hd hn
    have : cs.drop n = [] := List.drop_eq_nil_of_le (by omega)
    rw [this]
    refine Ev.step (f := fun _ => some true) (fun k => ?_) (Ev.now _)
    simp only [depotref08_safe.l0]
    rw [if_neg (by omega)]
  | succ d ih =>
    intro n hd hn
    have hlt : n < cs.length := by omega
    have hI := ih (n + 1) (by omega) (by omega)
    have hle := h8 _ (get_mem [] hlt)
    have hnx : wrap64 ((n : Int) + 1) = ((n + 1 : Nat) : Int) := wrap_nat (by omega)
    rw [drop_get [] hlt, List.all_cons]
    generalize (cs.drop (n + 1)).all (partB (c.getD 0 0) fun rest => followsR v cs (joinL c rest)) = B at *
    have hw := without_len (cs.getD n []) (-(c.getD 0 0))
    have hjl := join_len c (withoutL (cs.getD n []) (-(c.getD 0 0)))
    have hF := follows08 v cs (joinL c (withoutL (cs.getD n []) (-(c.getD 0 0)))) h1 (join_fm _ _) hl h88 (by omega)
    refine Ev.step (fun k => ?_) (Ev.bind (has01 (cs.getD n []) (-(c.getD 0 0)) (by omega)) (f := fun k t => if t = true then (depotref01_Without.f k (cs.getD n []) (-(c.getD 0 0))).bind fun t2 => (depotref01_Join.f k c t2).bind fun t3 => (depotref08_follows.f k v cs t3).bind fun t4 => if t4 = true then depotref08_safe.l0 k c ((n + 1 : Nat) : Int) v cs else some false else depotref08_safe.l0 k c ((n + 1 : Nat) : Int) v cs) ?_)
    · simp only [depotref08_safe.l0]
      rw [if_pos (by omega), if_pos (by omega), if_pos hpi, rdL_nat, hr0, wrap_neg f1 f2, hnx]
    · rw [show partB (c.getD 0 0) (fun rest => followsR v cs (joinL c rest)) (cs.getD n []) = (!hasB (cs.getD n []) (-(c.getD 0 0)) || followsR v cs (joinL c (withoutL (cs.getD n []) (-(c.getD 0 0))))) from rfl]
      by_cases h2 : hasB (cs.getD n []) (-(c.getD 0 0)) = true
      · rw [h2, Bool.not_true, Bool.false_or]
        refine Ev.congr (fun k => by rw [if_pos rfl]) (Ev.bind (without01 (cs.getD n []) (-(c.getD 0 0)) hle) (Ev.bind (join01 c (withoutL (cs.getD n []) (-(c.getD 0 0))) hcl (by omega)) (Ev.bind hF ?_)))
        by_cases h3 : followsR v cs (joinL c (withoutL (cs.getD n []) (-(c.getD 0 0)))) = true
        · rw [h3, Bool.true_and]
          exact Ev.congr (fun k => by rw [if_pos rfl]) hI
        · rw [Bool.eq_false_iff.2 h3, Bool.false_and]
          exact Ev.congr (fun k => by rw [if_neg (by decide)]) (Ev.now _)
      · rw [Bool.eq_false_iff.2 h2, Bool.not_false, Bool.true_or, Bool.true_and]
        exact Ev.congr (fun k => by rw [if_neg (by decide)]) hI
theorem safe08 (v : Int) (cs : List (List Int)) (c : List Int) (h1 : formedB v cs = true) (hc : ∀ x ∈ c, fm x = true) (hl : cs.length < 9223372036854775807) (h8 : ∀ x ∈ cs, x.length ≤ 17592186044416) (hcl : c.length ≤ 17592186044416) :
    Ev (fun k => depotref08_safe.f k v cs c) (safeR v cs c) := by
  unfold depotref08_safe.f safeR
  by_cases hp : 0 < c.length
  · rw [decide_eq_true hp, Bool.true_and]
    refine Ev.congr (fun k => by rw [if_neg (by omega)]) ?_
    have := safe_l v cs c h1 hc hp hl h8 hcl _ 0 rfl (by omega)
    simpa using this
  · rw [decide_eq_false hp, Bool.false_and]
    exact Ev.congr (fun k => by rw [if_pos (by omega)]) (Ev.now _)
theorem Kind08 (v : Int) (cs : List (List Int)) (c : List Int) (hl : cs.length < 9223372036854775807) (h8 : ∀ x ∈ cs, x.length ≤ 17592186044416) (hcl : c.length ≤ 17592186044416) : Ev (fun k => depotref08_Kind.f k v cs c) (kindA v cs c) := by
  have h88 : ∀ x ∈ cs, x.length < 9223372036854775807 := fun x hx => by have := h8 x hx; omega
  have hj1 : Ev (fun k => depotref08_Kind.j0 k c true v cs) ((0 : Int), (1 : Int)) := Ev.step (f := fun _ => some (0, 1)) (fun k => by simp only [depotref08_Kind.j0]; rw [if_pos trivial]) (Ev.now _)
  unfold depotref08_Kind.f kindA
  refine Ev.bind (formed02 v cs hl h88) ?_
  by_cases h1 : formedB v cs = true
  · rw [if_pos h1]
    refine Ev.congr (fun k => by rw [if_pos h1]) (Ev.bind (sound01 c (by omega)) (f := fun k t => depotref08_Kind.j0 k c (!t) v cs) ?_)
    by_cases h2 : c.all fm = true
    · rw [if_pos h2, h2]
      have hc := List.all_eq_true.1 h2
      refine Ev.step (fun k => ?_) (Ev.bind (follows08 v cs c h1 hc hl h88 hcl) (f := fun k t => if t = true then some ((1 : Int), (0 : Int)) else (depotref08_safe.f k v cs c).bind fun u => if u = true then some (2, 0) else some (0, 0)) ?_)
      · simp only [depotref08_Kind.j0]
        rw [if_neg (by decide)]
      · by_cases h3 : followsR v cs c = true
        · rw [if_pos h3]
          exact Ev.congr (fun k => by rw [if_pos h3]) (Ev.now _)
        · rw [if_neg h3]
          refine Ev.congr (fun k => by rw [if_neg h3]) (Ev.bind (safe08 v cs c h1 hc hl h8 hcl) ?_)
          by_cases h4 : safeR v cs c = true
          · rw [if_pos h4]; exact Ev.congr (fun k => by rw [if_pos h4]) (Ev.now _)
          · rw [if_neg h4]; exact Ev.congr (fun k => by rw [if_neg h4]) (Ev.now _)
    · rw [if_neg h2, Bool.eq_false_iff.2 h2]
      exact hj1
  · rw [if_neg h1]
    exact Ev.congr (fun k => by rw [if_neg h1]) hj1

end Go.Proofs.YtcaoobdbgdldaaaGreatDoor.Rf
