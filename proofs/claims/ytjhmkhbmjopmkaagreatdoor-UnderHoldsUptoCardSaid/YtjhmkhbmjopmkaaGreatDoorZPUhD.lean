/- Part of the proof of UnderHolds: what the law uses of the text UhD. -/
import Derived.Test.YtjhmkhbmjopmkaaGreatDoorZPUhA
import Derived.Test.YtjhmkhbmjopmkaaGreatDoorZPFwH
namespace Go.Proofs.YtjhmkhbmjopmkaaGreatDoor.Uh
open Go.RowKit Go.Shelf Go.Maps Go.Proofs.YtjhmkhbmjopmkaaGreatDoor.Lit Go.Proofs.YtjhmkhbmjopmkaaGreatDoor.Spr Go.Proofs.YtjhmkhbmjopmkaaGreatDoor.P Go.Proofs.YtjhmkhbmjopmkaaGreatDoor.Rf Go.Proofs.YtjhmkhbmjopmkaaGreatDoor.Rfw Go.Proofs.YtjhmkhbmjopmkaaGreatDoorW.PrintWords
set_option linter.unusedVariables false
set_option linter.unusedSimpArgs false

theorem ban_l (c : List Int) (hc : ∀ x ∈ c, fm x = true) (hl : c.length ≤ 2097152) : ∀ (d n : Nat), c.length - n = d → n ≤ c.length → Ev (fun k => under_ban.l0 k ((negL c).take n) c (c.length : Int) (n : Int)) (negL c) := by
  intro d
  induction d with
  | zero =>
    intro n hd hn
    rw [List.take_of_length_le (by rw [negL_len]; omega)]
    refine Ev.step (f := fun _ => some (negL c)) (fun k => ?_) (Ev.now _)
    simp only [under_ban.l0]
    rw [if_neg (by omega)]
  | succ d ih =>
    intro n hd hn
    have hlt : n < c.length := by omega
    have h := ih (n + 1) (by omega) (by omega)
    rw [negL_take hlt] at h
    refine Ev.step (fun k => ?_) h
    simp only [under_ban.l0]
    obtain ⟨_, f1, f2⟩ := fm_true (hc _ (get_mem 0 hlt))
    have hlen : ((negL c).take n).length ≤ n := List.length_take_le _ _
    rw [if_pos (by omega), if_pos (by omega), if_pos (by omega), if_pos (by omega), rd_nat, wrap_neg f1 f2, wrap_nat (n := n) (by omega)]
theorem rban_l (c : List Int) (hc : ∀ x ∈ c, fm x = true) (hl : c.length ≤ 2097152) : ∀ (d n : Nat), c.length - n = d → n ≤ c.length → Ev (fun k => depotref18_Ban.l0 k c ((negL c).take n) (n : Int)) (negL c) := by
  intro d
  induction d with
  | zero =>
    intro n hd hn
    rw [List.take_of_length_le (by rw [negL_len]; omega)]
    refine Ev.step (f := fun _ => some (negL c)) (fun k => ?_) (Ev.now _)
    simp only [depotref18_Ban.l0]
    rw [if_neg (by omega)]
  | succ d ih =>
    intro n hd hn
    have hlt : n < c.length := by omega
    have h := ih (n + 1) (by omega) (by omega)
    rw [negL_take hlt] at h
    refine Ev.step (fun k => ?_) h
    simp only [depotref18_Ban.l0]
    obtain ⟨_, f1, f2⟩ := fm_true (hc _ (get_mem 0 hlt))
    have hlen : ((negL c).take n).length ≤ n := List.length_take_le _ _
    rw [if_pos (by omega), if_pos (by omega), if_pos (by omega), rd_nat, wrap_neg f1 f2, wrap_nat (n := n) (by omega)]
theorem ban_any (Ac : Option Addr) (cc : Nat) (c : List Int) (w : World) (hC : Kd.C kI w Ac c.length c) (hcc : c.length ≤ cc) (hf : ∀ x ∈ c, fm x = true) (hl : c.length ≤ 2097152) :
    Calls Tryz.prog 14 #[.slice Ac c.length cc] w fun e w' => ∃ A1 c1, e = .returned (.slice A1 (negL c).length c1) ∧ (negL c).length ≤ c1 ∧ Kd.C kI w' A1 (negL c).length (negL c) ∧ Below w.heap.size w w' := by
  have hE : Ev (fun k => under_ban.f k c) (negL c) := by
    have := ban_l c hf hl _ 0 rfl (by omega)
    simpa [under_ban.f] using this
  obtain ⟨k, hk⟩ := hE.rounds
  refine (under_ban.calls k Ac cc c _ w hC hcc hk).mono fun e w' h => ?_
  obtain ⟨v, he, hR, hb⟩ := h
  obtain ⟨A1, c1, rfl⟩ := Kd.R_slice hR
  obtain ⟨_, h2, h3⟩ := Kd.R_reads' hR
  exact ⟨A1, c1, he, h2, h3, hb⟩
theorem rban_any (Ac : Option Addr) (cc : Nat) (c : List Int) (w : World) (hC : Kd.C kI w Ac c.length c) (hcc : c.length ≤ cc) (hf : ∀ x ∈ c, fm x = true) (hl : c.length ≤ 2097152) :
    Calls Tryz.prog 21 #[.slice Ac c.length cc] w fun e w' => ∃ A1 c1, e = .returned (.slice A1 (negL c).length c1) ∧ (negL c).length ≤ c1 ∧ Kd.C kI w' A1 (negL c).length (negL c) ∧ Below w.heap.size w w' := by
  have hE : Ev (fun k => depotref18_Ban.f k c) (negL c) := by
    have := rban_l c hf hl _ 0 rfl (by omega)
    simpa [depotref18_Ban.f] using this
  obtain ⟨k, hk⟩ := hE.rounds
  refine (depotref18_Ban.calls k Ac cc c _ w hC hcc hk).mono fun e w' h => ?_
  obtain ⟨v, he, hR, hb⟩ := h
  obtain ⟨A1, c1, rfl⟩ := Kd.R_slice hR
  obtain ⟨_, h2, h3⟩ := Kd.R_reads' hR
  exact ⟨A1, c1, he, h2, h3, hb⟩
theorem rsame_all (Aa : Option Addr) (ca : Nat) (a : List Int) (Ac : Option Addr) (cc : Nat) (c : List Int) (w : World) (hA : Kd.C kI w Aa a.length a) (hca : a.length ≤ ca) (hC : Kd.C kI w Ac c.length c) (hcc : c.length ≤ cc) (hl : a.length ≤ 2097152) (hl2 : c.length ≤ 2097152) :
    Calls Tryz.prog 20 #[.slice Aa a.length ca, .slice Ac c.length cc] w fun e w' => e = .returned (.bool (sameB a c)) ∧ Below w.heap.size w w' := by
  have hE : Ev (fun k => depotref01_Same.f k a c) (sameB a c) := by
    unfold sameB
    cases h1 : a.all fm with
    | false =>
      rw [Bool.false_and]
      unfold depotref01_Same.f
      refine Ev.bind (sound01 a (by omega)) ?_
      rw [h1]
      exact Ev.congr (fun k => if_neg (by decide)) (Ev.now _)
    | true =>
      cases h2 : c.all fm with
      | false =>
        rw [Bool.false_and, Bool.and_false]
        unfold depotref01_Same.f
        refine Ev.bind (sound01 a (by omega)) ?_
        rw [h1]
        refine Ev.congr (fun k => if_pos rfl) (Ev.bind (sound01 c (by omega)) ?_)
        rw [h2]
        exact Ev.congr (fun k => if_neg (by decide)) (Ev.now _)
      | true =>
        rw [Bool.true_and, Bool.true_and]
        exact same01 a c (List.all_eq_true.1 h1) (List.all_eq_true.1 h2) (by omega) (by omega)
  obtain ⟨k, hk⟩ := hE.rounds
  exact depotref01_Same.calls k Aa ca a Ac cc c _ w hA hca hC hcc hk

set_option maxHeartbeats 4000000 in
set_option maxRecDepth 100000 in
theorem lsame_any (Aa : Option Addr) (ca : Nat) (a : List Int) (Ab : Option Addr) (cb : Nat) (b : List Int) (w : World) (hA : IC w Aa a) (hB : IC w Ab b) (hl : a.length ≤ 2097152) (hl2 : b.length ≤ 2097152) :
    Calls Tryz.prog 13 #[.slice Aa a.length ca, .slice Ab b.length cb] w fun e w' => e = .returned (.bool (sameB a b)) ∧ Below w.heap.size w w' := by
  have HS1 := Lib.hid (sound_any Aa ca a w hA (by omega))
  have HS2 := Lib.hid (sound_any Ab cb b w hB (by omega))
  have HT1 := Lib.hid (tidy_any Aa ca a w hA (by omega))
  have HT2 := Lib.hid (fun W (hb : Below w.heap.size w W) => tidy_any Ab cb b W (hB.below hb) (by omega))
  have ht1 := tidy_len a
  have ht2 := tidy_len b
  unfold TidyPost at HT1 HT2
  clear hA hB
  unfold sameB
  cases h1 : a.all fm with
  | false =>
    rw [Bool.false_and]
    go_enter Tryz.func13, Tryz.ntmps13
    go_wp2_with (go_at_call 10; refine HS1.out.mono ?_; rintro e w1 ⟨rfl, rfl⟩; rw [h1])
    go_ret
    exact ⟨rfl, Below.refl _ _⟩
  | true =>
    cases h2 : b.all fm with
    | false =>
      rw [Bool.false_and, Bool.and_false]
      go_enter Tryz.func13, Tryz.ntmps13
      go_wp2_with (first
        | (go_at_call 10; refine HS1.out.mono ?_; clear HS1; rintro e w1 ⟨rfl, rfl⟩; rw [h1])
        | (go_at_call 10; refine HS2.out.mono ?_; clear HS2; rintro e w1 ⟨rfl, rfl⟩; rw [h2]))
      go_ret
      exact ⟨rfl, Below.refl _ _⟩
    | true =>
      rw [Bool.true_and, Bool.true_and, show decide (tidyL a = tidyL b) = (tidyL a == tidyL b) by rw [Bool.eq_iff_iff, decide_eq_true_eq, beq_iff_eq]]
      generalize tidyL a = ta at *
      generalize tidyL b = tb at *
      go_enter Tryz.func13, Tryz.ntmps13
      go_wp2_with (first
        | (go_at_call 10; refine HS1.out.mono ?_; clear HS1; rintro e w1 ⟨rfl, rfl⟩; rw [h1])
        | (go_at_call 10; refine HS2.out.mono ?_; clear HS2; rintro e w1 ⟨rfl, rfl⟩; rw [h2])
        | (go_at_call 26; refine HT1.out.mono ?_; clear HT1; rintro e w1 ⟨u, rfl, hown, hb⟩; obtain ⟨A1, c1, ev, hi1⟩ := own_IC hown; subst ev; have HI1 := Lib.hid hi1; have HB1 := Lib.hid hb; clear hown hb hi1)
        | (go_at_call 26; refine (HT2.out w1 HB1.out).mono ?_; clear HT2; rintro e w2 ⟨u, rfl, hown, hb⟩; obtain ⟨A2, c2, ev, hi2⟩ := own_IC hown; subst ev; have HI2 := Lib.hid hi2; have HI1' := Lib.hid (HI1.out.below hb); have HB2 := Lib.hid (HB1.out.trans (hb.mono HB1.out.size)); clear hown hb hi2)
        | (go_at_call 31; refine (Fwd.equal_any A1 c1 ta A2 c2 tb w2 HI1'.out HI2.out (by omega) (by omega)).mono ?_; rintro e w3 ⟨rfl, q, rfl⟩))
      go_ret
      exact ⟨rfl, HB2.out.trans (pw_below_drewN (Below.refl _ _) q)⟩

end Go.Proofs.YtjhmkhbmjopmkaaGreatDoor.Uh
