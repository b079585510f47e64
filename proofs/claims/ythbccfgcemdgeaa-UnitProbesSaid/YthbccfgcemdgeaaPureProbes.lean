/- UnitProbes as a plain statement: the reference's Probe finds just the literals that the program's finds. -/
import Derived.Test.YthbccfgcemdgeaaRefC
import Derived.Test.YthbccfgcemdgeaaP16
namespace Go.Proofs.Ythbccfgcemdgeaa.Pure
open Go.RowKit Go.Proofs.Ythbccfgcemdgeaa.P Go.Proofs.Ythbccfgcemdgeaa.Lit Go.Proofs.Ythbccfgcemdgeaa.Spr Go.Proofs.Ythbccfgcemdgeaa.Rf Go.Proofs.YthbccfgcemdgeaaW.PrintWords Go.Proofs.YthbccfgcemdgeaaW.PrintLast

theorem at01 (n : Nat) (hn : n < 2097152) : Ev (fun k => depotref01_At.f k (n : Int)) (litAt (n : Int)) := by
  refine Ev.step (f := fun _ => some (litAt (n : Int))) (fun k => ?_) (Ev.now _)
  unfold depotref01_At.f
  rw [if_neg (by omega)]
  simp only [depotref01_At.j0]
  have e1 : Int.tmod (n : Int) 2 = ((n % 2 : Nat) : Int) := by rw [Int.tmod_eq_emod_of_nonneg (by omega)]; omega
  have e2 : Int.tdiv (n : Int) 2 = ((n / 2 : Nat) : Int) := by rw [Int.tdiv_eq_ediv_of_nonneg (by omega)]; omega
  have w0 : ∀ x : Int, -9223372036854775808 ≤ x → x < 9223372036854775808 → wrap64 x = x := fun x h1 h2 => by unfold wrap64; omega
  rw [e1, e2]
  have hb : (n / 2 : Nat) < 1048576 := by omega
  generalize (n / 2 : Nat) = q at *
  rw [w0 (q : Int) (by omega) (by omega), w0 ((q : Int) + 1) (by omega) (by omega), w0 (-((q : Int) + 1)) (by omega) (by omega)]
  have hd : decide ((n : Int) ≥ 2097152) = false := decide_eq_false (by omega)
  rw [hd]
  unfold litAt
  rw [if_neg (show ¬ (false = true) by decide), if_neg (show ¬ ((n : Int) < 0 ∨ (n : Int) ≥ 2097152) by omega)]
  have hq : (n : Int) / 2 = (q : Int) := by rw [← e2, Int.tdiv_eq_ediv_of_nonneg (by omega)]
  rw [hq]
  by_cases h : n % 2 = 0
  · rw [if_pos (by omega), if_neg (by omega)]
  · rw [if_neg (by omega), if_pos (by omega)]

theorem probe_l (v : Nat) (hv : v ≤ 2000) (cs : List (List Int)) (hc : ∀ c ∈ cs, ∀ x ∈ c, fm x = true) (hl : cs.length < 9223372036854775807) (h8 : ∀ c ∈ cs, c.length < 9223372036854775807) : ∀ (d n : Nat), 2 * v - n = d → n ≤ 2 * v →
    Ev (fun k => depotref06_Probe.l0 k (outL cs n) (n : Int) (v : Int) cs) (outL cs (2 * v), (0 : Int)) := by
  have w1 : wrap64 (2 * (v : Int)) = ((2 * v : Nat) : Int) := by unfold wrap64; omega
  intro d
  induction d with
  | zero =>
    intro n hd hn
    obtain rfl : n = 2 * v := by omega
    refine Ev.step (f := fun _ => some (outL cs (2 * v), (0 : Int))) (fun k => ?_) (Ev.now _)
    simp only [depotref06_Probe.l0]
    rw [w1, if_neg (by omega)]
  | succ d ih =>
    intro n hd hn
    have hlt : n < 2 * v := by omega
    have hfl := litAt_fm (i := (n : Int)) (by omega) (by omega)
    have hI := ih (n + 1) (by omega) (by omega)
    obtain ⟨r, r1, r2, r3, r4⟩ := closing (v : Int) cs [litAt (n : Int)] hc (by simpa using hfl) hl h8 (by simp)
    obtain ⟨p1, p2⟩ := closed_up cs [litAt (n : Int)] (by simpa using hfl) hc
    have hsn := outL_succ cs n
    have hlen := outL_len cs n
    have hnx : wrap64 ((n : Int) + 1) = ((n + 1 : Nat) : Int) := wrap_nat (by omega)
    refine Ev.step (fun k => ?_) (Ev.bind (at01 n (by omega)) (f := fun k t => (depotref06_Closing.f k (v : Int) cs [t]).bind fun b => if b.2 = true then depotref06_Probe.l0 k (outL cs n ++ [t]) ((n + 1 : Nat) : Int) (v : Int) cs else depotref06_Probe.l0 k (outL cs n) ((n + 1 : Nat) : Int) (v : Int) cs) ?_)
    · simp only [depotref06_Probe.l0]
      rw [w1, if_pos (by omega), hnx]
      simp only [if_pos (show (outL cs n).length < 17592186044416 by omega)]
    · refine Ev.bind r1 (f := fun k b => if b.2 = true then depotref06_Probe.l0 k (outL cs n ++ [litAt (n : Int)]) ((n + 1 : Nat) : Int) (v : Int) cs else depotref06_Probe.l0 k (outL cs n) ((n + 1 : Nat) : Int) (v : Int) cs) ?_
      by_cases hb : r.2 = true
      · have hcl := r3 hb
        rw [if_neg (fun h => (p1 h).2.2.2.2 hcl)] at hsn
        rw [hsn] at hI
        exact Ev.congr (fun k => by rw [if_pos hb]) hI
      · have hcl := (r4 (Bool.eq_false_iff.2 hb)).1
        have hy : (closedSt cs [litAt (n : Int)]).2 = true := by
          cases he : (closedSt cs [litAt (n : Int)]).2 with
          | true => rfl
          | false => exact absurd (p2 he) hcl
        rw [if_pos hy, List.append_nil] at hsn
        rw [hsn] at hI
        exact Ev.congr (fun k => by rw [if_neg hb]) hI

theorem formed_all {v : Int} {cs : List (List Int)} (h : formedB v cs = true) : (0 ≤ v ∧ v ≤ 1048576) ∧ ∀ c ∈ cs, ∀ x ∈ c, fm x = true := by
  unfold formedB at h
  simp only [Bool.and_eq_true, decide_eq_true_eq] at h
  refine ⟨h.1, fun c hc x hx => ?_⟩
  have := List.all_eq_true.1 h.2 c hc
  unfold withinB at this
  rw [Bool.and_eq_true] at this
  exact List.all_eq_true.1 this.1 x hx

theorem probe06 (v : Int) (cs : List (List Int)) (hl : cs.length < 9223372036854775807) (h8 : ∀ c ∈ cs, c.length < 9223372036854775807) : Ev (fun k => depotref06_Probe.f k v cs) (probeR v cs) := by
  unfold depotref06_Probe.f probeR
  refine Ev.bind (formed02 v cs hl h8) ?_
  by_cases h1 : formedB v cs = true
  · rw [if_pos h1]
    refine Ev.congr (fun k => by rw [if_pos h1]) ?_
    by_cases hv : v > 2000
    · rw [if_pos hv]
      exact Ev.congr (fun k => by rw [if_pos hv]) (Ev.now _)
    · rw [if_neg hv]
      refine Ev.congr (fun k => by rw [if_neg hv]) ?_
      obtain ⟨hr, hc⟩ := formed_all h1
      obtain ⟨m, rfl⟩ : ∃ m : Nat, v = m := ⟨v.toNat, by omega⟩
      have := probe_l m (by omega) cs hc hl h8 _ 0 rfl (by omega)
      have he : probeL (m : Int) cs = outL cs (2 * m) := by unfold probeL outL; rw [show (2 * (m : Int)).toNat = 2 * m by omega]
      rw [he]
      exact this
  · rw [if_neg h1]
    exact Ev.congr (fun k => by rw [if_neg h1]) (Ev.now _)

theorem probe_len (v : Int) (cs : List (List Int)) : (probeR v cs).1.length ≤ 4000 := by
  unfold probeR
  split
  · split
    · simp
    · have := outL_len cs (2 * v).toNat
      show (outL cs (2 * v).toNat).length ≤ 4000
      omega
  · simp

theorem UnitProbes (v : Int) (cs : List (List Int)) (h24 : cs.length * 24 ≤ 140737488351232) (h8 : ∀ x ∈ cs, x.length * 8 ≤ 140737488351232) : ∃ k, depotlaw06_UnitProbes.f k v cs = some true := by
  have h82 : ∀ x ∈ cs, x.length ≤ 17592186044416 := fun x hx => by have := h8 x hx; omega
  have hfit : Fits cs [] := ⟨by omega, fun x hx => by have := h8 x hx; omega, by simp⟩
  refine Ev.rounds ?_
  unfold depotlaw06_UnitProbes.f
  refine Ev.bind (copyFormula v cs (by omega) h82) ?_
  refine Ev.bind (a := probeR v cs) (Ev.congr (fun k => by unfold unit_Probe.f; rw [if_pos hfit]) (Ev.now _)) ?_
  refine Ev.bind (probe06 v cs (by omega) (fun x hx => by have := h8 x hx; omega)) ?_
  refine Ev.congr (fun k => by rw [if_pos rfl]) ?_
  have hs := sameInts (probeR v cs).1 (by have := probe_len v cs; omega)
  exact Ev.bind hs (Ev.now _)

end Go.Proofs.Ythbccfgcemdgeaa.Pure
