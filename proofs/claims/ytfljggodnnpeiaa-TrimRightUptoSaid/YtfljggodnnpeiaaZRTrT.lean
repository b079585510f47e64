/- Part of the proof of TrimRight: what the law uses of the text TrT. -/
import Derived.Test.YtfljggodnnpeiaaZRTrS
import Derived.Test.YtfljggodnnpeiaaZREvA
import Derived.Test.YtfljggodnnpeiaaZRJP5
namespace Go.Proofs.Ytfljggodnnpeiaa.Rf
open Go.RowKit Go.Proofs.Ytfljggodnnpeiaa.P Go.Proofs.Ytfljggodnnpeiaa.Lit Go.Proofs.Ytfljggodnnpeiaa.Spr Go.Proofs.Ytfljggodnnpeiaa.Trm Go.Proofs.YtfljggodnnpeiaaW.PrintWords Go.Proofs.YtfljggodnnpeiaaW.PrintLast
set_option linter.unusedVariables false
set_option linter.unusedSimpArgs false
open Classical

noncomputable def goodV (cs : List (List Int)) (l : List S79) : Bool := match emptyAt (addT l) with
  | none => false
  | some i => decide (HoldsP cs ((addT l).take (i + 1)))
theorem addT_fine {l : List S79} (hf : ∀ s ∈ l, ∀ x ∈ s.f1, fm x = true) (h8 : ∀ s ∈ l, s.f1.length ≤ 4194304) : Fine (addT l) := by
  refine ⟨fun c hc => ?_, fun c hc => ?_⟩
  · obtain ⟨s, hs, rfl⟩ := List.mem_map.1 hc
    exact hf s (List.mem_filter.1 hs).1
  · obtain ⟨s, hs, rfl⟩ := List.mem_map.1 hc
    exact h8 s (List.mem_filter.1 hs).1
theorem good_ev (cs : List (List Int)) (l : List S79) (hc : Fine cs) (h1 : cs.length ≤ 4194304) (hl : l.length ≤ 4194304) (hf : ∀ s ∈ l, ∀ x ∈ s.f1, fm x = true) (h8 : ∀ s ∈ l, s.f1.length ≤ 4194304) : Ev (fun k => goodK k cs l) (goodV cs l) := by
  have ha := addT_fine hf h8
  have h2 := addT_len l
  unfold goodK goodV
  refine Ev.bind (additions12 l hl h8) ?_
  cases emptyAt (addT l) with
  | none => exact Ev.now _
  | some i => exact holds12 cs _ hc (ha.of fun c hx => List.mem_of_mem_take hx) h1 (Nat.le_trans (List.length_take_le' _ _) (by omega))
theorem goodK_mono (cs : List (List Int)) (l : List S79) (k : Nat) : LeO (goodK k cs l) (goodK (k + 1) cs l) := by
  unfold goodK
  refine LeO.bind (depotref12_Additions.mono _ _) (fun all => ?_)
  cases emptyAt all with
  | none => exact LeO.refl _
  | some i => exact depotref12_Holds.mono _ _ _
theorem good12 (v : Int) (cs : List (List Int)) (l : List S79) (hc : Fine cs) (h1 : cs.length ≤ 4194304) (hl : l.length ≤ 4194304) (hf : ∀ s ∈ l, ∀ x ∈ s.f1, fm x = true) (h8 : ∀ s ∈ l, s.f1.length ≤ 4194304) : depotref12_Good.f v cs l = some (goodV cs l) := by
  obtain ⟨K, hK⟩ := good_ev cs l hc h1 hl hf h8
  have hx : ∃ b k, goodK k cs l = some b := ⟨_, K, hK K (Nat.le_refl _)⟩
  unfold depotref12_Good.f
  rw [dif_pos hx]
  obtain ⟨k, hk⟩ := Classical.choose_spec hx
  obtain ⟨K2, hK2⟩ := Ev.of (goodK_mono cs l) hk
  have e1 := hK2 (K + K2) (by omega)
  have e2 := hK (K + K2) (by omega)
  rw [e1] at e2
  exact e2

theorem shaped12_l (l : List S79) (hl : l.length ≤ 4194304) (h8 : ∀ s ∈ l, s.f1.length ≤ 4194304) : ∀ (d n : Nat), l.length - n = d → n ≤ l.length → Ev (fun k => depotref12_shaped.l0 k l (n : Int)) ((l.drop n).all fun s => s.f1.all fm) := by
  intro d
  induction d with
  | zero =>
    intro n hd hn
    have : l.drop n = [] := List.drop_eq_nil_of_le (by omega)
    rw [this]
    refine Ev.step (f := fun _ => some true) (fun k => ?_) (Ev.now _)
    simp only [depotref12_shaped.l0]
    rw [if_neg (by omega)]
  | succ d ih =>
    intro n hd hn
    have hlt : n < l.length := by omega
    have e := drop_get z79 hlt
    have hm := get_mem (xs := l) z79 hlt
    have h := ih (n + 1) (by omega) (by omega)
    have hs := sound01 (l.getD n z79).f1 (by have := h8 _ hm; omega)
    rw [e, List.all_cons]
    have hb : Ev (fun k => if ((l.getD n z79).f1.all fm) = true then depotref12_shaped.l0 k l ((n + 1 : Nat) : Int) else some false) ((l.getD n z79).f1.all fm && (l.drop (n + 1)).all fun s => s.f1.all fm) := by
      cases (l.getD n z79).f1.all fm with
      | true => simpa using h
      | false => simpa using Ev.now (α := Bool) false
    refine Ev.step (fun k => ?_) (Ev.bind hs (f := fun k t => if t = true then depotref12_shaped.l0 k l ((n + 1 : Nat) : Int) else some false) hb)
    simp only [depotref12_shaped.l0]
    rw [if_pos (by omega), if_pos (by omega), rdT_at, wrap_nat (by omega)]
theorem shaped12 (v : Int) (cs : List (List Int)) (l : List S79) (h1 : cs.length ≤ 4194304) (hr : ∀ c ∈ cs, c.length ≤ 4194304) (hl : l.length ≤ 4194304) (h8 : ∀ s ∈ l, s.f1.length ≤ 4194304) : Ev (fun k => depotref12_shaped.f k v cs l) (formedB v cs && l.all fun s => s.f1.all fm) := by
  unfold depotref12_shaped.f
  have h := shaped12_l l hl h8 _ 0 rfl (by omega)
  refine Ev.bind (formed02 v cs (by omega) (fun c hc => by have := hr c hc; omega)) ?_
  cases formedB v cs with
  | true => simpa using h
  | false => simpa using Ev.now (α := Bool) false

def RisingL (l : List Int) (m : Int) : Prop := (∀ x ∈ l, 0 ≤ x ∧ x < m) ∧ l.Pairwise (· < ·)
theorem rising00_l (l : List Int) (m : Int) (hl : l.length ≤ 4194304) (hr : RisingL l m) : ∀ (d n : Nat), l.length - n = d → n ≤ l.length → Ev (fun k => depotref00_Rising.l0 k l m (n : Int)) true := by
  intro d
  induction d with
  | zero =>
    intro n hd hn
    refine Ev.step (f := fun _ => some true) (fun k => ?_) (Ev.now _)
    simp only [depotref00_Rising.l0]
    rw [if_neg (by omega)]
  | succ d ih =>
    intro n hd hn
    have hlt : n < l.length := by omega
    have h := ih (n + 1) (by omega) (by omega)
    obtain ⟨x1, x2⟩ := hr.1 _ (get_mem (xs := l) 0 hlt)
    refine Ev.step (fun k => ?_) h
    simp only [depotref00_Rising.l0]
    rw [if_pos (by omega), if_pos (by omega), rd_nat, if_neg (by omega), if_neg (by omega)]
    by_cases hn0 : n = 0
    · subst hn0
      rw [if_neg (by omega), wrap_nat (by omega)]
    · have hw : wrap64 ((n : Int) - 1) = ((n - 1 : Nat) : Int) := by unfold wrap64; omega
      have hp : l.getD (n - 1) 0 < l.getD n 0 := by
        have := List.pairwise_iff_getElem.1 hr.2 (n - 1) n (by omega) hlt (by omega)
        rw [List.getD_eq_getElem?_getD, List.getElem?_eq_getElem (by omega), List.getD_eq_getElem?_getD, List.getElem?_eq_getElem hlt]
        exact this
      rw [if_pos (by omega), hw, if_pos (by omega), if_pos (by omega), rd_nat, if_neg (by omega), wrap_nat (by omega)]
theorem rising00 (l : List Int) (m : Int) (hl : l.length ≤ 4194304) (hr : RisingL l m) : Ev (fun k => depotref00_Rising.f k l m) true := by
  have := rising00_l l m hl hr _ 0 rfl (by omega)
  simpa [depotref00_Rising.f] using this

def pick (cs : List (List Int)) (core : List Int) : List (List Int) := core.map fun n => cs.getD n.toNat []
theorem only12_l (v v2 : Int) (cs : List (List Int)) (core : List Int) (h1 : cs.length ≤ 4194304) (hr : ∀ c ∈ cs, c.length ≤ 4194304) (hl : core.length ≤ 4194304) (hri : RisingL core cs.length) : ∀ (d n : Nat) (acc : List (List Int)), core.length - n = d → n ≤ core.length → acc.length ≤ n → Ev (fun k => depotref12_Only.l0 k core (n : Int) v cs v2 acc) (v2, acc ++ pick cs (core.drop n), 0) := by
  intro d
  induction d with
  | zero =>
    intro n acc hd hn ha
    have : core.drop n = [] := List.drop_eq_nil_of_le (by omega)
    rw [this, show pick cs [] = [] from rfl, List.append_nil]
    refine Ev.step (f := fun _ => some (v2, acc, 0)) (fun k => ?_) (Ev.now _)
    simp only [depotref12_Only.l0]
    rw [if_neg (by omega)]
  | succ d ih =>
    intro n acc hd hn ha
    have hlt : n < core.length := by omega
    have e := drop_get 0 hlt
    obtain ⟨x1, x2⟩ := hri.1 _ (get_mem (xs := core) 0 hlt)
    have hx : (core.getD n 0).toNat < cs.length := by omega
    have h := ih (n + 1) (acc ++ [cs.getD (core.getD n 0).toNat []]) (by omega) (by omega) (by simp; omega)
    rw [List.append_assoc, List.singleton_append] at h
    have e2 : pick cs (core.drop n) = cs.getD (core.getD n 0).toNat [] :: pick cs (core.drop (n + 1)) := by rw [e]; rfl
    rw [e2]
    refine Ev.step (fun k => ?_) (Ev.bind (copyInts (cs.getD (core.getD n 0).toNat []) (by have := hr _ (get_mem (xs := cs) [] hx); omega)) (f := fun k t => depotref12_Only.l0 k core ((n + 1 : Nat) : Int) v cs v2 (acc ++ [t])) h)
    simp only [depotref12_Only.l0]
    rw [if_pos (by omega), if_pos (by omega), rd_nat, if_pos (by omega), if_pos (by omega), wrap_nat (by omega)]
    simp only [if_pos (show acc.length < 5864062014805 by omega)]
    rfl
theorem only12 (v : Int) (cs : List (List Int)) (core : List Int) (hf : formedB v cs = true) (h1 : cs.length ≤ 4194304) (hr : ∀ c ∈ cs, c.length ≤ 4194304) (hl : core.length ≤ 4194304) (hri : RisingL core cs.length) : Ev (fun k => depotref12_Only.f k v cs core) (v, pick cs core, 0) := by
  unfold depotref12_Only.f
  have h := only12_l v v cs core h1 hr hl hri _ 0 [] rfl (by omega) (by simp)
  have hfo := formed02 v cs (by omega) (fun c hc => by have := hr c hc; omega)
  rw [hf] at hfo
  refine Ev.bind hfo ?_
  simp only [if_true]
  refine Ev.bind (rising00 core cs.length hl hri) ?_
  simpa using h
end Go.Proofs.Ytfljggodnnpeiaa.Rf
