/- Part of the proof of RupKinds: what the law uses of the text RefE. -/
import Derived.Test.YthbccfgcemdgeaaZkRefC
import Derived.Test.YthbccfgcemdgeaaZkPortsR
import Derived.Test.YthbccfgcemdgeaaZkP18
namespace Go.Proofs.Ythbccfgcemdgeaa.Rf
open Go.RowKit Go.Proofs.Ythbccfgcemdgeaa.P Go.Proofs.Ythbccfgcemdgeaa.Lit Go.Proofs.Ythbccfgcemdgeaa.Spr Go.Proofs.YthbccfgcemdgeaaW.PrintWords Go.Proofs.YthbccfgcemdgeaaW.PrintLast

theorem formed_all {v : Int} {cs : List (List Int)} (h : formedB v cs = true) : (0 ≤ v ∧ v ≤ 1048576) ∧ ∀ c ∈ cs, ∀ x ∈ c, fm x = true := by
  unfold formedB at h
  simp only [Bool.and_eq_true, decide_eq_true_eq] at h
  refine ⟨h.1, fun c hc x hx => ?_⟩
  have := List.all_eq_true.1 h.2 c hc
  unfold withinB at this
  rw [Bool.and_eq_true] at this
  exact List.all_eq_true.1 this.1 x hx
theorem fm_negL {c : List Int} (h : ∀ x ∈ c, fm x = true) : ∀ x ∈ negL c, fm x = true := fun x hx => by
  obtain ⟨y, hy, rfl⟩ := List.mem_map.1 hx
  exact fm_neg (h y hy)
theorem fitsE {cs : List (List Int)} {F : List Int} (h24 : cs.length * 24 ≤ 140737488351232) (h8 : ∀ x ∈ cs, x.length * 8 ≤ 140737488351232) (hF : F.length ≤ 17592186044416) : Fits cs F := ⟨by omega, fun x hx => by have := h8 x hx; omega, hF⟩

theorem follows_iff {v : Int} {cs : List (List Int)} {c : List Int} (h1 : formedB v cs = true) (hc : ∀ x ∈ c, fm x = true) : followsR v cs c = true ↔ Clash cs (negL c) := by
  obtain ⟨_, hf⟩ := formed_all h1
  have hn := fm_negL hc
  obtain ⟨p1, p2⟩ := closed_up cs (negL c) hn hf
  unfold followsR closeR
  have ha : askedI v cs (negL c) = 0 := by unfold askedI; rw [h1, List.all_eq_true.2 hn]; rfl
  rw [if_pos ha]
  by_cases hy : (closedSt cs (negL c)).2 = true
  · rw [if_pos hy]
    exact ⟨fun h => absurd (show false = true from h) (by decide), fun h => absurd h (p1 hy).2.2.2.2⟩
  · rw [if_neg hy]
    exact ⟨fun _ => p2 (Bool.eq_false_iff.2 hy), fun _ => rfl⟩

theorem opposites_l (c : List Int) (hc : ∀ x ∈ c, fm x = true) (hl : c.length ≤ 17592186044416) : ∀ (d n : Nat), c.length - n = d → n ≤ c.length → Ev (fun k => depotref08_opposites.l0 k c ((negL c).take n) (n : Int)) (negL c) := by
  intro d
  induction d with
  | zero =>
    intro n hd hn
    rw [List.take_of_length_le (by rw [negL_len]; omega)]
    refine Ev.step (f := fun _ => some (negL c)) (fun k => ?_) (Ev.now _)
    simp only [depotref08_opposites.l0]
    rw [if_neg (by omega)]
  | succ d ih =>
    intro n hd hn
    have hlt : n < c.length := by omega
    have h := ih (n + 1) (by omega) (by omega)
    rw [negL_take hlt] at h
    refine Ev.step (fun k => ?_) h
    simp only [depotref08_opposites.l0]
    obtain ⟨_, f1, f2⟩ := fm_true (hc _ (get_mem 0 hlt))
    have hlen : ((negL c).take n).length ≤ n := List.length_take_le _ _
    rw [if_pos (by omega), if_pos (by omega), if_pos (by omega), rd_nat, wrap_neg f1 f2, wrap_nat (by omega)]
theorem follows08 (v : Int) (cs : List (List Int)) (c : List Int) (h1 : formedB v cs = true) (hc : ∀ x ∈ c, fm x = true) (hl : cs.length < 9223372036854775807) (h8 : ∀ c ∈ cs, c.length < 9223372036854775807) (hcl : c.length ≤ 17592186044416) :
    Ev (fun k => depotref08_follows.f k v cs c) (followsR v cs c) := by
  obtain ⟨_, hf⟩ := formed_all h1
  obtain ⟨r, r1, r2, r3, r4⟩ := closing v cs (negL c) hf (fm_negL hc) hl h8 (by rw [negL_len]; omega)
  have ho : Ev (fun k => depotref08_opposites.f k c) (negL c) := by
    have := opposites_l c hc hcl _ 0 rfl (by omega)
    simpa [depotref08_opposites.f] using this
  have he : followsR v cs c = r.2 := by
    have hi := follows_iff h1 hc
    cases hr : r.2 with
    | true => exact hi.2 (r3 hr)
    | false => exact Bool.eq_false_iff.2 fun h => (r4 hr).1 (hi.1 h)
  rw [he]
  unfold depotref08_follows.f
  exact Ev.bind ho (Ev.bind r1 (Ev.now _))
end Go.Proofs.Ythbccfgcemdgeaa.Rf
