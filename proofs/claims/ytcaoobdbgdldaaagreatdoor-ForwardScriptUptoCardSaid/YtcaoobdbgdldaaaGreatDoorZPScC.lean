/- Part of the proof of ForwardScript: what the law uses of the text ScC. -/
import Derived.Test.YtcaoobdbgdldaaaGreatDoorZPFcB
import Derived.Test.YtcaoobdbgdldaaaGreatDoorZPFcR
import Derived.Test.YtcaoobdbgdldaaaGreatDoorZPJP7
namespace Go.Proofs.YtcaoobdbgdldaaaGreatDoor.Rf
open Go.RowKit Go.Proofs.YtcaoobdbgdldaaaGreatDoor.P Go.Proofs.YtcaoobdbgdldaaaGreatDoor.Lit Go.Proofs.YtcaoobdbgdldaaaGreatDoor.Spr Go.Proofs.YtcaoobdbgdldaaaGreatDoorW.PrintWords Go.Proofs.YtcaoobdbgdldaaaGreatDoorW.PrintLast
set_option linter.unusedVariables false
theorem formed_lits {v : Int} {cs : List (List Int)} (h : formedB v cs = true) : ∀ c ∈ cs, ∀ x ∈ c, fm x = true := by
  intro c hc x hx
  unfold formedB at h
  rw [Bool.and_eq_true] at h
  have := List.all_eq_true.1 h.2 c hc
  unfold withinB at this
  rw [Bool.and_eq_true] at this
  exact List.all_eq_true.1 this.1 x hx
theorem asked_true {v : Int} {cs : List (List Int)} {F : List Int} (h1 : formedB v cs = true) (h2 : F.all fm = true) : askedI v cs F = 0 := by
  unfold askedI; rw [h1, h2]; rfl
theorem asked_false {v : Int} {cs : List (List Int)} {F : List Int} (h : ¬ (formedB v cs = true ∧ F.all fm = true)) : askedI v cs F = 1 := by
  unfold askedI
  rw [if_neg (fun e => h (by rw [Bool.and_eq_true] at e; exact e))]
theorem close_l (a : List Int) (ha : Vs a) : ∀ (d n : Nat) (acc : List Int), a.length - n = d → 1 ≤ n → (n ≤ a.length ∨ a.length = 0) → acc.length ≤ n → Rising acc → (∀ l, l ∈ acc ↔ fm l = true ∧ lv l < n ∧ vv a l = 1) →
    ∃ out, Ev (fun k => depotref06_Close.l0 k a acc (n : Int)) (out, false, 0) ∧ Rising out ∧ ∀ l, l ∈ out ↔ fm l = true ∧ vv a l = 1 := by
  intro d
  induction d with
  | zero =>
    intro n acc hd h1 hn hal hr hm
    refine ⟨acc, Ev.step (f := fun _ => some (acc, false, 0)) (fun k => ?_) (Ev.now _), hr, fun l => ?_⟩
    · simp only [depotref06_Close.l0]
      rw [if_neg (by omega)]
    · rw [hm l]
      refine ⟨fun h => ⟨h.1, h.2.2⟩, fun h => ⟨h.1, ?_, h.2⟩⟩
      have h2 := h.2
      unfold vv at h2
      split at h2
      · omega
      · exact absurd h2 (by decide)
  | succ d ih =>
    intro n acc hd h1 hn hal hr hm
    have hlt : n < a.length := by omega
    have hlen := ha.len
    have hg := ha.rng n
    have hnf : fm (n : Int) = true := decide_eq_true (by omega)
    have hvn : vv a (n : Int) = a.getD n 0 := by
      have : lv (n : Int) = n := by rw [lv_of hnf, if_neg (by omega)]
      unfold vv
      rw [this, if_pos (by omega), if_neg (by omega), Int.toNat_natCast]
    have hvm : vv a (-(n : Int)) = -(a.getD n 0) := by rw [vv_neg a hnf, hvn]
    have hone : ∀ l, fm l = true → lv l = n → l = n ∨ l = -(n : Int) := fun l hl h => lv_eq hnf hl (by rw [h, lv_of hnf, if_neg (by omega)])
    by_cases h0 : a.getD n 0 = 0
    · obtain ⟨out, o1, o2⟩ := ih (n + 1) acc (by omega) (by omega) (by omega) (by omega) hr (fun l => by
        rw [hm l]
        refine ⟨fun h => ⟨h.1, by omega, h.2.2⟩, fun h => ⟨h.1, ?_, h.2.2⟩⟩
        by_cases e : lv l = n
        · rcases hone l h.1 e with e | e
          · have := h.2.2; rw [e, hvn] at this; omega
          · have := h.2.2; rw [e, hvm] at this; omega
        · omega)
      refine ⟨out, Ev.step (fun k => ?_) o1, o2⟩
      simp only [depotref06_Close.l0]
      rw [if_pos (by omega), if_pos (by omega), rd_nat, if_pos h0, wrap_nat (by omega)]
    · have hx : ∃ x : Int, wrap64 ((n : Int) * a.getD n 0) = x ∧ fm x = true ∧ lv x = n ∧ vv a x = 1 ∧ ∀ l, fm l = true → lv l = n → vv a l = 1 → l = x := by
        rcases (by omega : a.getD n 0 = 1 ∨ a.getD n 0 = -1) with e | e
        · refine ⟨n, by rw [e]; unfold wrap64; omega, hnf, by rw [lv_of hnf, if_neg (by omega)], by rw [hvn, e], fun l hl hv h => ?_⟩
          rcases hone l hl hv with e2 | e2
          · exact e2
          · rw [e2, hvm, e] at h; exact absurd h (by decide)
        · refine ⟨-(n : Int), by rw [e]; unfold wrap64; omega, fm_neg hnf, by rw [lv_neg hnf, lv_of hnf, if_neg (by omega)], by rw [hvm, e]; rfl, fun l hl hv h => ?_⟩
          rcases hone l hl hv with e2 | e2
          · rw [e2, hvn, e] at h; exact absurd h (by decide)
          · exact e2
      obtain ⟨x, hw, hxf, hxl, hxv, hxo⟩ := hx
      obtain ⟨out, o1, o2⟩ := ih (n + 1) (acc ++ [x]) (by omega) (by omega) (by omega) (by simp; omega) (by
        unfold Rising
        rw [List.pairwise_append]
        refine ⟨hr, by simp, fun y hy z hz => ?_⟩
        rw [List.mem_singleton.1 hz]
        obtain ⟨y1, y2, _⟩ := (hm y).1 hy
        have a1 := fm_true y1
        have a2 := fm_true hxf
        rw [lv_of y1] at y2
        rw [lv_of hxf] at hxl
        unfold ix
        rw [if_pos y1, if_pos hxf]
        split at y2 <;> split at hxl <;> (repeat' split) <;> omega) (fun l => by
        rw [List.mem_append, hm l, List.mem_singleton]
        constructor
        · rintro (h | h)
          · exact ⟨h.1, by omega, h.2.2⟩
          · rw [h]; exact ⟨hxf, by omega, hxv⟩
        · intro h
          by_cases e : lv l = n
          · exact .inr (hxo l h.1 e h.2.2)
          · exact .inl ⟨h.1, by omega, h.2.2⟩)
      refine ⟨out, Ev.step (fun k => ?_) o1, o2⟩
      simp only [depotref06_Close.l0]
      rw [if_pos (by omega), if_pos (by omega), rd_nat, if_neg h0, if_pos (by omega), wrap_nat (by omega), hw]
theorem lists (cs : List (List Int)) (F : List Int) (hc : ∀ c ∈ cs, ∀ x ∈ c, fm x = true) (hF : ∀ x ∈ F, fm x = true) (hy : (closedSt cs F).2 = true) (out : List Int) (hr : Rising out) (ho : ∀ l, l ∈ out ↔ fm l = true ∧ UP cs F l) : out = tidyL (closedSt cs F).1.trail := by
  obtain ⟨p1, _⟩ := closed_up cs F hF hc
  obtain ⟨_, _, h3, _, _⟩ := p1 hy
  refine rising_ext _ _ hr (tidy_rising _) fun l => ?_
  rw [ho l, mem_tidy, h3 l, and_comm]
theorem close06 (v : Int) (cs : List (List Int)) (F : List Int) (hl : cs.length < 9223372036854775807) (h8 : ∀ c ∈ cs, c.length < 9223372036854775807) (hFl : F.length < 9223372036854775807) :
    Ev (fun k => depotref06_Close.f k v cs F) (closeR v cs F) := by
  have hj1 : Ev (fun k => depotref06_Close.j0 k F true v cs) (([] : List Int), false, (1 : Int)) := Ev.step (f := fun _ => some ([], false, 1)) (fun k => by simp only [depotref06_Close.j0]; rw [if_pos trivial]) (Ev.now _)
  unfold depotref06_Close.f
  refine Ev.bind (formed02 v cs hl h8) ?_
  by_cases h1 : formedB v cs = true
  · refine Ev.congr (fun k => by rw [if_pos h1]) (Ev.bind (sound01 F hFl) (f := fun k t => depotref06_Close.j0 k F (!t) v cs) ?_)
    by_cases h2 : F.all fm = true
    · rw [h2]
      unfold closeR
      rw [asked_true h1 h2, if_pos rfl]
      have hc := formed_lits h1
      have hF := List.all_eq_true.1 h2
      obtain ⟨r, r1, r2, r3, r4⟩ := closing v cs F hc hF hl h8 hFl
      obtain ⟨p1, p2⟩ := closed_up cs F hF hc
      refine Ev.step (fun k => by simp only [depotref06_Close.j0]; rw [if_neg (by decide)]) (Ev.bind r1 (f := fun k t => if t.2 = true then some (([] : List Int), true, (0 : Int)) else depotref06_Close.l0 k t.1 [] 1) ?_)
      by_cases hb : r.2 = true
      · have hcl := r3 hb
        have hn : ¬ (closedSt cs F).2 = true := fun h => (p1 h).2.2.2.2 hcl
        rw [if_neg hn]
        exact Ev.congr (fun k => by rw [if_pos hb]) (Ev.now _)
      · obtain ⟨q1, q2⟩ := r4 (Bool.eq_false_iff.2 hb)
        have hy : (closedSt cs F).2 = true := by
          cases he : (closedSt cs F).2 with
          | true => rfl
          | false => exact absurd (p2 he) q1
        rw [if_pos hy]
        refine Ev.congr (fun k => by rw [if_neg hb]) ?_
        by_cases hz : r.1.length = 0
        · have hnil : r.1 = [] := List.eq_nil_of_length_eq_zero hz
          have he : ([] : List Int) = tidyL (closedSt cs F).1.trail := lists cs F hc hF hy [] List.Pairwise.nil (fun l => ⟨by simp, fun h => by
            have := (q2 l h.1).2 h.2
            rw [hnil] at this
            have h5 := lv_pos h.1
            unfold vv at this
            rw [if_neg (by simp; omega)] at this
            exact absurd this (by decide)⟩)
          rw [← he]
          refine Ev.step (f := fun _ => some ([], false, 0)) (fun k => ?_) (Ev.now _)
          simp only [depotref06_Close.l0]
          rw [if_neg (by omega)]
        · obtain ⟨out, o1, o2, o3⟩ := close_l r.1 r2 _ 1 [] rfl (Nat.le_refl _) (by omega) (by simp) List.Pairwise.nil (fun l => ⟨by simp, fun h => by have := lv_pos h.1; omega⟩)
          have he := lists cs F hc hF hy out o2 (fun l => by rw [o3 l]; exact ⟨fun h => ⟨h.1, (q2 l h.1).1 h.2⟩, fun h => ⟨h.1, (q2 l h.1).2 h.2⟩⟩)
          rw [← he]
          exact o1
    · rw [Bool.eq_false_iff.2 h2]
      unfold closeR
      rw [asked_false (fun h => h2 h.2), if_neg (by decide)]
      exact hj1
  · refine Ev.congr (fun k => by rw [if_neg h1]) (?_ : Ev (fun k => depotref06_Close.j0 k F true v cs) _)
    unfold closeR
    rw [asked_false (fun h => h1 h.1), if_neg (by decide)]
    exact hj1
end Go.Proofs.YtcaoobdbgdldaaaGreatDoor.Rf
