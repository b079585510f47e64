/- Part of the proof of ForwardScript: what the law uses of the text ScW. -/
import Derived.Test.YtcaoobdbgdldaaaGreatDoorZPScM
import Derived.Test.YtcaoobdbgdldaaaGreatDoorZPFcE
import Derived.Test.YtcaoobdbgdldaaaGreatDoorZPJP7
namespace Go.Proofs.YtcaoobdbgdldaaaGreatDoor.Sc
open Go.RowKit Go.Proofs.YtcaoobdbgdldaaaGreatDoor.Lit Go.Proofs.YtcaoobdbgdldaaaGreatDoor.Spr Go.Proofs.YtcaoobdbgdldaaaGreatDoor.P Go.Proofs.YtcaoobdbgdldaaaGreatDoor.Rf Go.Proofs.YtcaoobdbgdldaaaGreatDoor.Rfw Go.Proofs.YtcaoobdbgdldaaaGreatDoor.Cl Go.Proofs.YtcaoobdbgdldaaaGreatDoorW.PrintWords Go.Proofs.YtcaoobdbgdldaaaGreatDoorW.PrintLast
set_option linter.unusedVariables false
set_option linter.unusedSimpArgs false

theorem ahead_l (a c : List Int) (ha : ∀ x ∈ a, fm x = true) (hc : ∀ x ∈ c, fm x = true) (h63 : a.length < 9223372036854775807) : ∀ (d n : Nat), a.length - n = d → n ≤ a.length → n ≤ c.length → Ev (fun k => depotref11_ahead.l0 k a c (n : Int)) (decide (cmpL (a.drop n) (c.drop n) < 0)) := by
  intro d
  induction d with
  | zero =>
    intro n hd hn hm
    have e : decide (cmpL (a.drop n) (c.drop n) < 0) = decide ((a.length : Int) < (c.length : Int)) := by
      rw [List.drop_eq_nil_of_le (by omega)]
      by_cases hlt : n < c.length
      · rw [drop_get 0 hlt, decide_eq_true (by simp [cmpL]), decide_eq_true (by omega)]
      · rw [List.drop_eq_nil_of_le (by omega), decide_eq_false (by simp [cmpL]), decide_eq_false (by omega)]
    rw [e]
    refine Ev.step (f := fun k => depotref11_ahead.j1 k a c (n : Int) false) (fun k => by simp only [depotref11_ahead.l0]; rw [if_neg (by omega)]) ?_
    exact Ev.step (f := fun _ => some (decide ((a.length : Int) < (c.length : Int)))) (fun k => by simp only [depotref11_ahead.j1]; rw [if_neg (by decide)]) (Ev.now _)
  | succ d ih =>
    intro n hd hn hm
    have hlt : n < a.length := by omega
    by_cases hlc : n < c.length
    · have hx : fm (a.getD n 0) = true := ha _ (get_nth 0 hlt)
      have hy : fm (c.getD n 0) = true := hc _ (get_nth 0 hlc)
      rw [drop_get 0 hlt, drop_get 0 hlc]
      refine Ev.step (f := fun k => depotref11_ahead.j1 k a c (n : Int) true) (fun k => by simp only [depotref11_ahead.l0]; rw [if_pos (by omega), decide_eq_true (by omega)]) ?_
      refine Ev.step (f := fun k => if ix (a.getD n 0) = ix (c.getD n 0) then depotref11_ahead.l0 k a c ((n + 1 : Nat) : Int) else some (decide (ix (a.getD n 0) < ix (c.getD n 0)))) (fun k => ?_) ?_
      · simp only [depotref11_ahead.j1]
        rw [if_pos trivial, if_pos (by omega), if_pos (by omega), rd_nat, rd_nat, index01 _ hx, index01 _ hy, wrap_nat (n := n) (by omega)]
        simp only [Option.bind_some]
        rw [if_pos (by omega)]
      · have := ih (n + 1) (by omega) (by omega) (by omega)
        unfold cmpL
        by_cases h : ix (a.getD n 0) = ix (c.getD n 0)
        · rw [if_pos (by omega)]
          exact Ev.congr (fun k => if_pos h) this
        · rw [if_neg (by omega)]
          rw [show decide (ix (a.getD n 0) - ix (c.getD n 0) < 0) = decide (ix (a.getD n 0) < ix (c.getD n 0)) by rw [Bool.eq_iff_iff, decide_eq_true_eq, decide_eq_true_eq]; omega]
          exact Ev.congr (fun k => if_neg h) (Ev.now _)
    · have e : decide (cmpL (a.drop n) (c.drop n) < 0) = decide ((a.length : Int) < (c.length : Int)) := by
        rw [drop_get 0 hlt, show c.drop n = [] from List.drop_eq_nil_of_le (by omega), decide_eq_false (by simp [cmpL]), decide_eq_false (by omega)]
      rw [e]
      refine Ev.step (f := fun k => depotref11_ahead.j1 k a c (n : Int) false) (fun k => by simp only [depotref11_ahead.l0]; rw [if_pos (by omega), decide_eq_false (by omega)]) ?_
      exact Ev.step (f := fun _ => some (decide ((a.length : Int) < (c.length : Int)))) (fun k => by simp only [depotref11_ahead.j1]; rw [if_neg (by decide)]) (Ev.now _)
theorem ahead_any (A : Option Addr) (c0 : Nat) (a : List Int) (C : Option Addr) (c1 : Nat) (c : List Int) (w : World) (hA : Kd.C kI w A a.length a) (hc0 : a.length ≤ c0) (hC : Kd.C kI w C c.length c) (hc1 : c.length ≤ c1) (ha : ∀ x ∈ a, fm x = true) (hc : ∀ x ∈ c, fm x = true) (hl : a.length ≤ 2097152) :
    Calls Tryz.prog 83 #[.slice A a.length c0, .slice C c.length c1] w fun e w' => e = .returned (.bool (decide (cmpL a c < 0))) ∧ ∃ m, w' = w.drewN m := by
  have h := ahead_l a c ha hc (by omega) _ 0 rfl (by omega) (by omega)
  rw [List.drop_zero, List.drop_zero] at h
  obtain ⟨k, hk⟩ := h.rounds
  exact (depotref11_ahead.calls k A c0 a C c1 c _ w hA hc0 hC hc1 hk).mono fun e w' hh => ⟨hh.1, hh.2.out⟩
theorem rtidy_any (A : Option Addr) (c0 : Nat) (a : List Int) (w : World) (hA : Kd.C kI w A a.length a) (hc0 : a.length ≤ c0) (hl : a.length ≤ 2097152) :
    Calls Tryz.prog 82 #[.slice A a.length c0] w fun e w' => ∃ v, e = .returned v ∧ Kd.R kI 3 w' w.heap.size (fun _ => True) v (tidyL a) ∧ Below w.heap.size w w' := by
  obtain ⟨k, hk⟩ := (tidy01 _ a (Nat.le_refl _) (by omega)).rounds
  exact depotref01_Tidy.calls k A c0 a _ w hA hc0 hk

theorem out_at {W : World} {B g n cap : Nat} {ok : Nat → Prop} {xs : List (List Int)} (h : Kd.N kL 40 W B ok (.slice (some ⟨g, 0, none⟩) n cap) xs) (i : Nat) (hi : i < n) :
    ∃ A1 c1, W.cell? ⟨g, i, none⟩ = some (.slice A1 (xs.getD i []).length c1) ∧ W.frozen? ⟨g, i, none⟩ = false ∧ (xs.getD i []).length ≤ c1 ∧ Kd.C kI W A1 (xs.getD i []).length (xs.getD i []) ∧ Kd.FK kL W (fun k => ok k ∧ k ≠ g) (xs.getD i []) [.slice A1 (xs.getD i []).length c1] := by
  obtain ⟨c, hcl, hK, hcell, hfr⟩ := Kd.N_elem h [] (i : Int) (by omega) (by omega)
  rw [Int.toNat_natCast] at hK hcell hfr
  obtain ⟨A1, c1, e1, h1, h2⟩ := hK W (fun _ _ _ => rfl)
  subst e1
  refine ⟨A1, c1, ?_, ?_, h1, h2, hK⟩
  · have := hcell 0 _ rfl
    rwa [show i * kL.sz + 0 = i from Nat.mul_one i] at this
  · have := hfr 0
    rwa [show i * kL.sz + 0 = i from Nat.mul_one i] at this
theorem out_put {W : World} {B g n cap : Nat} {ok : Nat → Prop} {xs : List (List Int)} (h : Kd.N kL 40 W B ok (.slice (some ⟨g, 0, none⟩) n cap) xs) (i : Nat) (hi : i < n) {x : List Int} {A1 : Option Addr} {c1 : Nat} (hM : Kd.FK kL W (fun k => ok k ∧ k ≠ g) x [.slice A1 x.length c1]) :
    Kd.N kL 40 (W.setCell ⟨g, i, none⟩ (.slice A1 x.length c1)) B ok (.slice (some ⟨g, 0, none⟩) n cap) (xs.set i x) ∧ W.grownBy (W.setCell ⟨g, i, none⟩ (.slice A1 x.length c1)) (some g) := by
  obtain ⟨A0, c0, hcell, _, _, _, _⟩ := out_at h i hi
  have := Kd.N_seg h (i : Int) (by omega) (by omega) (c := [.slice A0 (xs.getD i []).length c0]) (seg := [.slice A1 x.length c1]) (j := 0) (x' := x) (okp := fun k => ok k ∧ k ≠ g) rfl (fun j u hu => by
    match j, hu with
    | 0, hu =>
      have e : Value.slice A0 (xs.getD i []).length c0 = u := by simpa using hu
      rw [← e, Int.toNat_natCast, show i * kL.sz + 0 = i from Nat.mul_one i]
      exact hcell
    | j + 1, hu => simp at hu) (Nat.le_refl 1) (by simpa using hM) (fun k hk => hk)
  rw [Int.toNat_natCast, show i * kL.sz + 0 = i from Nat.mul_one i] at this
  exact this
end Go.Proofs.YtcaoobdbgdldaaaGreatDoor.Sc
