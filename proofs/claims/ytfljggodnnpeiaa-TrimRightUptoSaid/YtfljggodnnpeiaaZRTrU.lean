/- Part of the proof of TrimRight: what the law uses of the text TrU. -/
import Derived.Test.YtfljggodnnpeiaaZRTrT
namespace Go.Proofs.Ytfljggodnnpeiaa.Rf
open Go.RowKit Go.Proofs.Ytfljggodnnpeiaa.P Go.Proofs.Ytfljggodnnpeiaa.Lit Go.Proofs.Ytfljggodnnpeiaa.Spr Go.Proofs.Ytfljggodnnpeiaa.Trm Go.Proofs.YtfljggodnnpeiaaW.PrintWords Go.Proofs.YtfljggodnnpeiaaW.PrintLast
set_option linter.unusedVariables false
set_option linter.unusedSimpArgs false
open Classical

theorem sameAny_l (a b : List Int) (hl : a.length ≤ 4194304) (he : a.length = b.length) : ∀ (d n : Nat), a.length - n = d → n ≤ a.length → Ev (fun k => depotref00_SameInts.l0 k a b (n : Int)) (decide (a.drop n = b.drop n)) := by
  intro d
  induction d with
  | zero =>
    intro n hd hn
    rw [List.drop_eq_nil_of_le (by omega), List.drop_eq_nil_of_le (by omega), decide_eq_true rfl]
    refine Ev.step (f := fun _ => some true) (fun k => ?_) (Ev.now _)
    simp only [depotref00_SameInts.l0]
    rw [if_neg (by omega)]
  | succ d ih =>
    intro n hd hn
    have h := ih (n + 1) (by omega) (by omega)
    have e1 := drop_get (xs := a) 0 (show n < a.length by omega)
    have e2 := drop_get (xs := b) 0 (show n < b.length by omega)
    by_cases hx : a.getD n 0 = b.getD n 0
    · have e : decide (a.drop n = b.drop n) = decide (a.drop (n + 1) = b.drop (n + 1)) := by
        rw [decide_eq_decide, e1, e2, hx]
        exact ⟨fun h => (List.cons.inj h).2, fun h => by rw [h]⟩
      rw [e]
      refine Ev.step (fun k => ?_) h
      simp only [depotref00_SameInts.l0]
      rw [if_pos (by omega), if_pos (by omega), if_pos (by omega), rd_nat, rd_nat, if_pos hx, wrap_nat (by omega)]
    · rw [decide_eq_false (by rw [e1, e2]; exact fun h => hx (List.cons.inj h).1)]
      refine Ev.step (f := fun _ => some false) (fun k => ?_) (Ev.now _)
      simp only [depotref00_SameInts.l0]
      rw [if_pos (by omega), if_pos (by omega), if_pos (by omega), rd_nat, rd_nat, if_neg hx]
theorem sameAny (a b : List Int) (hl : a.length ≤ 4194304) (hl2 : b.length ≤ 4194304) : Ev (fun k => depotref00_SameInts.f k a b) (decide (a = b)) := by
  unfold depotref00_SameInts.f
  by_cases he : a.length = b.length
  · have h := sameAny_l a b hl he _ 0 rfl (by omega)
    refine Ev.congr (fun k => by rw [if_pos (by omega)]) (by simpa using h)
  · rw [decide_eq_false (fun e => he (by rw [e]))]
    exact Ev.congr (fun k => by rw [if_neg (by omega)]) (Ev.now _)
theorem sub_tail {α : Type} {x y : α} {a b : List α} (h : (x :: a).Sublist (y :: b)) : a.Sublist b := by
  cases h with
  | cons _ h => exact (List.sublist_cons_self x a).trans h
  | cons_cons _ h => exact h
theorem sub_skip {α : Type} {x y : α} {a b : List α} (h : (x :: a).Sublist (y :: b)) (hne : x ≠ y) : (x :: a).Sublist b := by
  cases h with
  | cons _ h => exact h
  | cons_cons _ h => exact absurd rfl hne
theorem within12 : ∀ (m : Nat) (a b : List S79), a.length ≤ m → b.length ≤ 4194304 → (∀ s ∈ b, s.f1.length ≤ 4194304) → a.Sublist b → Ev (fun k => depotref12_Within.f k a b) true := by
  intro m
  induction m with
  | zero =>
    intro a b hm hb h8 hs
    refine Ev.step (f := fun _ => some true) (fun k => ?_) (Ev.now _)
    simp only [depotref12_Within.f]
    rw [if_pos (by omega)]
  | succ m ihm =>
    intro a b hm hb h8 hs
    cases a with
    | nil =>
      refine Ev.step (f := fun _ => some true) (fun k => ?_) (Ev.now _)
      simp only [depotref12_Within.f]
      rw [if_pos (by simp)]
    | cons s t =>
      have h8s : s.f1.length ≤ 4194304 := h8 s (hs.subset (by simp))
      have key : ∀ (d n : Nat), b.length - n = d → n ≤ b.length → (s :: t).Sublist (b.drop n) → Ev (fun k => depotref12_Within.l0 k (s :: t) b (n : Int)) true := by
        intro d
        induction d with
        | zero =>
          intro n hd hn hs
          rw [List.drop_eq_nil_of_le (by omega)] at hs
          exact absurd (List.sublist_nil.1 hs) (by simp)
        | succ d ih =>
          intro n hd hn hs
          have hlt : n < b.length := by omega
          have e := drop_get z79 hlt
          have hm8 := h8 _ (get_mem (xs := b) z79 hlt)
          rw [e] at hs
          have hr0 : rd_T79 (s :: t) 0 = s := rfl
          have hl0 : (0 : Int) < ((s :: t).length : Int) := by rw [List.length_cons]; omega
          have hl1 : (1 : Int) ≤ ((s :: t).length : Int) := by rw [List.length_cons]; omega
          by_cases hf : s.f0 = (b.getD n z79).f0
          · have hsame := sameAny s.f1 (b.getD n z79).f1 h8s hm8
            by_cases hx : s.f1 = (b.getD n z79).f1
            · rw [decide_eq_true hx] at hsame
              have h := ihm t (b.drop (n + 1)) (by simpa using hm) (by rw [List.length_drop]; omega) (fun s hs => h8 s (List.mem_of_mem_drop hs)) (sub_tail hs)
              refine Ev.step (fun k => ?_) (Ev.bind hsame (f := fun k u => if u = true then (depotref12_Within.f k t (b.drop (n + 1))).bind fun x => some x else depotref12_Within.l0 k (s :: t) b ((n + 1 : Nat) : Int)) (by simpa using Ev.bind h (f := fun _ x => some x) (Ev.now true)))
              simp only [depotref12_Within.l0]
              rw [if_pos (by omega), if_pos hl0, if_pos (by omega), rdT_at, hr0, if_pos (by simpa using hf), wrap_nat (by omega)]
              simp only [if_pos hl1, if_pos (show (0 : Int) ≤ ((n + 1 : Nat) : Int) by omega), if_pos (show ((n + 1 : Nat) : Int) ≤ (b.length : Int) by omega), Int.toNat_natCast, List.drop_succ_cons, List.drop_zero]
            · rw [decide_eq_false hx] at hsame
              have h := ih (n + 1) (by omega) (by omega) (sub_skip hs (fun e => hx (by rw [e])))
              refine Ev.step (fun k => ?_) (Ev.bind hsame (f := fun k u => if u = true then (depotref12_Within.f k t (b.drop (n + 1))).bind fun x => some x else depotref12_Within.l0 k (s :: t) b ((n + 1 : Nat) : Int)) (by simpa using h))
              simp only [depotref12_Within.l0]
              rw [if_pos (by omega), if_pos hl0, if_pos (by omega), rdT_at, hr0, if_pos (by simpa using hf), wrap_nat (by omega)]
              simp only [if_pos hl1, if_pos (show (0 : Int) ≤ ((n + 1 : Nat) : Int) by omega), if_pos (show ((n + 1 : Nat) : Int) ≤ (b.length : Int) by omega), Int.toNat_natCast, List.drop_succ_cons, List.drop_zero]
          · have h := ih (n + 1) (by omega) (by omega) (sub_skip hs (fun e => hf (by rw [e])))
            refine Ev.step (fun k => ?_) h
            simp only [depotref12_Within.l0]
            rw [if_pos (by omega), if_pos hl0, if_pos (by omega), rdT_at, hr0, if_neg (by simpa using hf), wrap_nat (by omega)]
      have h := key _ 0 rfl (by omega) (by simpa using hs)
      refine Ev.step (fun k => ?_) h
      simp only [depotref12_Within.f]
      rw [if_neg (by simp; omega)]
      rfl
end Go.Proofs.Ytfljggodnnpeiaa.Rf
