/- A spread at rest, probed: one literal put, run, and undone: what it tells and that it rests again. -/
import Derived.Test.YthbccfgcemdgeaaBackP
namespace Go.Proofs.Ythbccfgcemdgeaa.Spr
open Go.RowKit Go.Proofs.Ythbccfgcemdgeaa.Lit

/-- The literal of a number. -/
def litAt (i : Int) : Int := if i < 0 ∨ i ≥ 2097152 then 0 else if i % 2 = 1 then -(i / 2 + 1) else i / 2 + 1

/-- A spread at rest. -/
structure Rest (cls : List (List Int)) (T0 : List Int) (S : St) : Prop where
  inv : Inv cls [] S
  cnt : Cnt cls T0 S
  tr : S.trail = T0
  dn : S.done = T0.length
  bd : S.bad = -1
  lk : ∀ n, n < cls.length → Looked T0 T0 (cls.getD n [])

theorem Inv.weaken {cls : List (List Int)} {F F' : List Int} {S : St} (h : Inv cls F S) (hF : ∀ x ∈ F, x ∈ F') : Inv cls F' S :=
  ⟨h.good, h.cl, h.kn, h.inn, h.tv, h.nd, fun l hl => (h.snd l hl).mono (fun c hc => ⟨c, hc, fun _ => Iff.rfl⟩) hF, fun hb => (h.bad hb).mono (fun c hc => ⟨c, hc, fun _ => Iff.rfl⟩) hF⟩
theorem run_done : ∀ (k : Nat) (S : St), S.done ≤ (runF k S).done
  | 0, _ => Int.le_refl _
  | k + 1, S => by
    unfold runF
    split
    · have := run_done k (stepSt S)
      rw [stepSt_done] at this
      omega
    · exact Int.le_refl _
theorem back_done (S : St) : (backStep S).done = if ((S.trail.length - 1 : Nat) : Int) < S.done then ((S.trail.length - 1 : Nat) : Int) else S.done := (unSt_fields S).2.2.2.2.2.2.2
theorem back_trail (S : St) : (backStep S).trail = S.trail.take (S.trail.length - 1) := by
  show ((unSt S).trail).take _ = _
  rw [(unSt_fields S).2.2.2.1]
theorem Held.backs {cls : List (List Int)} {F : List Int} (hnd : ∀ c ∈ cls, c.Nodup) (hlen : ∀ c ∈ cls, c.length ≤ 4611686018427387903) : ∀ (k : Nat) {S : St}, Held cls F S → k ≤ S.trail.length →
    Held cls F (backF k S) ∧ (backF k S).trail = S.trail.take (S.trail.length - k) ∧ (((S.trail.length - k : Nat) : Int) ≤ S.done → (backF k S).done = ((S.trail.length - k : Nat) : Int))
  | 0, S, h, _ => ⟨h, (List.take_length).symm, fun hd => by have := h.inv.good.dn; show S.done = _; omega⟩
  | k + 1, S, h, hk => by
    have hl : (backStep S).trail.length = S.trail.length - 1 := by rw [back_trail, List.length_take]; omega
    obtain ⟨h1, h2, h3⟩ := Held.backs hnd hlen k (h.back hnd hlen (by omega)) (by omega)
    have e1 : S.trail.length - 1 - k = S.trail.length - (k + 1) := by omega
    rw [hl, e1] at h2 h3
    refine ⟨h1, ?_, fun hd => h3 ?_⟩
    · show (backF k (backStep S)).trail = _
      rw [h2, back_trail, List.take_take, Nat.min_eq_left (by omega)]
    · rw [back_done]
      split <;> omega

/-- One probe. -/
def probeRun (S : St) (l : Int) : St := runF (fuel (putSt S l (-1))) (putSt S l (-1))
theorem Rest.probe {cls : List (List Int)} {T0 : List Int} {S : St} (h : Rest cls T0 S) (hnd : ∀ c ∈ cls, c.Nodup) (hlen : ∀ c ∈ cls, c.length ≤ 4611686018427387903) (l : Int) (hl : fm l = true) (hv : vl S l ≠ -1) :
    Held cls [l] (probeRun S l) ∧ T0.length ≤ (probeRun S l).trail.length ∧ ((probeRun S l).bad = -1 ↔ ¬ Clash cls [l]) ∧ Rest cls T0 (backSt (probeRun S l) T0.length) := by
  have hok := h.inv.good.ok
  have i1 : Inv cls [l] (putSt S l (-1)) := (h.inv.weaken (by simp)).put l (-1) hl (.fact (by simp))
  obtain ⟨e1, e2, e3, e4, e5, e6, e7, e8⟩ := putSt_fields S l (-1)
  have hpre : T0 <+: (putSt S l (-1)).trail := by
    rcases e8 with e | e
    · rw [e, h.tr]; exact List.prefix_refl _
    · rw [e, h.tr]; exact List.prefix_append _ _
  have hdz : (putSt S l (-1)).done.toNat = T0.length := by rw [e4, h.dn]; omega
  have htk : (putSt S l (-1)).trail.take (putSt S l (-1)).done.toNat = T0 := by
    rw [hdz, pre_take hpre (Nat.le_refl _), List.take_length]
  have hR : Runs cls [l] (putSt S l (-1)) := by
    refine ⟨i1, ?_, fun _ n hn => ?_⟩
    · rw [htk]; exact ⟨by rw [e3]; exact h.cnt.on, by rw [e2]; exact h.cnt.opn⟩
    · rw [htk]; exact (h.lk n hn).mono (fun x hx => hpre.subset hx)
  have hlm : l ∈ (putSt S l (-1)).trail := by
    rw [put_trail hok]
    by_cases h0 : vl S l = 0
    · rw [if_pos h0]; simp
    · rw [if_neg h0, h.inv.tv l hl]
      rcases vl_cases hok l with e | e | e
      · exact e
      · exact absurd e hv
      · exact absurd e h0
  obtain ⟨r1, r2, r3, r4⟩ := hR.run hnd hlen (fuel (putSt S l (-1)))
  have hgo : goes (probeRun S l) = false := r4 (by have := hR.inv.good.dn; unfold fuel; omega)
  change Runs cls [l] (probeRun S l) at r1
  change (putSt S l (-1)).trail <+: (probeRun S l).trail at r3
  have hdone : (T0.length : Int) ≤ (probeRun S l).done := by
    have := run_done (fuel (putSt S l (-1))) (putSt S l (-1))
    rw [e4, h.dn] at this
    exact this
  generalize probeRun S l = R at *
  have hpre2 : T0 <+: R.trail := hpre.trans r3
  have hle := hpre2.length_le
  have hH : Held cls [l] R := ⟨r1.inv, r1.cnt⟩
  refine ⟨hH, hle, ⟨fun hb => ?_, fun hc => ?_⟩, ?_⟩
  · exact (r1.closed hb hgo (fun x hx => by rw [List.mem_singleton.1 hx]; exact r3.subset hlm)).no_clash
  · by_cases hb : R.bad = -1
    · exact hb
    · exact absurd (r1.inv.bad hb) hc
  · obtain ⟨b1, b2, b3⟩ := Held.backs hnd hlen (R.trail.length - T0.length) hH (by omega)
    have e9 : R.trail.length - (R.trail.length - T0.length) = T0.length := by omega
    rw [e9] at b2 b3
    rw [pre_take hpre2 (Nat.le_refl _), List.take_length] at b2
    have b4 := b3 hdone
    have hc := b1.cnt
    rw [b2, b4, Int.toNat_natCast, List.take_length] at hc
    unfold backSt
    generalize backF (R.trail.length - T0.length) R = B at *
    have hg : Good (goodBad B) := ⟨⟨b1.inv.good.ok.nd, b1.inv.good.ok.rg, b1.inv.good.ok.lnv, b1.inv.good.ok.lw, b1.inv.good.ok.li, b1.inv.good.ok.bv, b1.inv.good.ok.tr, b1.inv.good.ok.lo, b1.inv.good.ok.ln⟩, b1.inv.good.tk, b1.inv.good.tf, b1.inv.good.cf, b1.inv.good.ir, b1.inv.good.dn⟩
    refine ⟨⟨hg, b1.inv.cl, b1.inv.kn, b1.inv.inn, b1.inv.tv, b1.inv.nd, fun x hx => ?_, fun hb => absurd rfl hb⟩, ⟨hc.on, hc.opn⟩, b2, b4, rfl, h.lk⟩
    have hx2 : x ∈ B.trail := hx
    rw [b2] at hx2
    exact h.inv.snd x (by rw [h.tr]; exact hx2)
theorem Rest.no {cls : List (List Int)} {T0 : List Int} {S : St} (h : Rest cls T0 S) (l : Int) (hl : fm l = true) (hv : vl S l = -1) : Clash cls [l] :=
  .inl ⟨l, .fact (by simp), (h.inv.snd _ ((h.inv.tneg hl).2 hv)).mono (fun c hc => ⟨c, hc, fun _ => Iff.rfl⟩) (by simp)⟩

/-- A closing without a clash comes to rest. -/
theorem closed_rest (cs : List (List Int)) (hy : (closedSt cs []).2 = true) : Rest (cs.map tidyL) (closedSt cs []).1.trail (closedSt cs []).1 := by
  have hB := newF_built cs cs.length (Nat.le_refl _)
  rw [List.take_length] at hB
  obtain ⟨i0, c0⟩ := hB.inv []
  have hnd : ∀ c ∈ cs.map tidyL, c.Nodup := fun c h => by obtain ⟨c', _, rfl⟩ := List.mem_map.1 h; exact tidy_nodup _
  have hlen : ∀ c ∈ cs.map tidyL, c.length ≤ 4611686018427387903 := fun c h => by obtain ⟨c', _, rfl⟩ := List.mem_map.1 h; have := tidy_len c'; omega
  have hcl : closedSt cs [] = (ranSt (newF cs cs.length), decide ((ranSt (newF cs cs.length)).bad = -1)) := by
    unfold closedSt putsF
    rw [if_pos rfl]
  rw [hcl] at hy ⊢
  have hbad : (ranSt (newF cs cs.length)).bad = -1 := of_decide_eq_true hy
  obtain ⟨b1, b2, _, b4, b5⟩ := i0.begin_ hnd c0 (cs.map tidyL).length (Nat.le_refl _)
  have he : beginSt (newF cs cs.length) = beginF (newF cs cs.length) (cs.map tidyL).length := by unfold beginSt; rw [hB.cl]
  rw [← he] at b1 b2 b4 b5
  have hz : (beginSt (newF cs cs.length)).done.toNat = 0 := by rw [b5, hB.dn]; rfl
  have hR : Runs (cs.map tidyL) [] (beginSt (newF cs cs.length)) := ⟨b1, by rw [hz]; simpa using b2, fun hb n hn => by rw [hz]; simpa using b4 hb n hn⟩
  obtain ⟨r1, _, _, r4⟩ := hR.run hnd hlen (fuel (beginSt (newF cs cs.length)))
  have hgo : goes (ranSt (newF cs cs.length)) = false := r4 (by have := hR.inv.good.dn; unfold fuel; omega)
  change Runs (cs.map tidyL) [] (ranSt (newF cs cs.length)) at r1
  show Rest (cs.map tidyL) (ranSt (newF cs cs.length)).trail (ranSt (newF cs cs.length))
  generalize ranSt (newF cs cs.length) = S at *
  have hd : ¬ (S.bad = -1 ∧ S.done < S.trail.length) := of_decide_eq_false hgo
  have hdn : S.done = S.trail.length := by have := r1.inv.good.dn; omega
  have hall : S.trail.take S.done.toNat = S.trail := List.take_of_length_le (by omega)
  have hc1 := r1.cnt
  have hl1 := r1.lk hbad
  rw [hall] at hc1 hl1
  exact ⟨r1.inv, hc1, rfl, hdn, hbad, hl1⟩

/-- What Probe finds. -/
def probeL (v : Int) (cs : List (List Int)) : List Int := ((List.range (2 * v).toNat).map fun (i : Nat) => litAt (i : Int)).filter fun l => !(closedSt cs [l]).2
def probeR (v : Int) (cs : List (List Int)) : List Int × Int := if formedB v cs = true then (if v > 2000 then ([], 4) else (probeL v cs, 0)) else ([], 1)
theorem clash_tidy (cs : List (List Int)) (hc : ∀ c ∈ cs, ∀ l ∈ c, fm l = true) (F : List Int) : Clash (cs.map tidyL) F ↔ Clash cs F := by
  obtain ⟨t1, t2⟩ := tidy_clauses cs hc
  exact ⟨fun h => h.mono t1 (fun _ h => h), fun h => h.mono t2 (fun _ h => h)⟩
theorem closed_iff (cs : List (List Int)) (hc : ∀ c ∈ cs, ∀ l ∈ c, fm l = true) (l : Int) (hl : fm l = true) : (closedSt cs [l]).2 = true ↔ ¬ Clash (cs.map tidyL) [l] := by
  rw [clash_tidy cs hc]
  obtain ⟨p1, p2⟩ := closed_up cs [l] (by simpa using hl) hc
  refine ⟨fun h => (p1 h).2.2.2.2, fun h => ?_⟩
  cases he : (closedSt cs [l]).2 with
  | true => rfl
  | false => exact absurd (p2 he) h

end Go.Proofs.Ythbccfgcemdgeaa.Spr
