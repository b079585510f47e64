/- Part of the proof of AtmostForces: what the law uses of the text PureAtmostForces. -/
import Derived.Test.YtcaoobdbgdldaaaZPAtM
import Derived.Test.YtcaoobdbgdldaaaZPPortsM
import Derived.Test.YtcaoobdbgdldaaaZPP5
namespace Go.Proofs.Ytcaoobdbgdldaaa.Rf
open Go.RowKit Go.Proofs.Ytcaoobdbgdldaaa.P Go.Proofs.Ytcaoobdbgdldaaa.Lit Go.Proofs.Ytcaoobdbgdldaaa.Spr Go.Proofs.YtcaoobdbgdldaaaW.PrintWords Go.Proofs.YtcaoobdbgdldaaaW.PrintLast
set_option linter.unusedVariables false
set_option linter.unusedSimpArgs false

theorem wrap_nat {n : Nat} (h : n < 9223372036854775807) : wrap64 ((n : Int) + 1) = ((n + 1 : Nat) : Int) := by unfold wrap64; omega
theorem rd_nat (xs : List Int) (n : Nat) : rd xs (n : Int) = xs.getD n 0 := by simp [rd]
theorem drop_get {α : Type} {xs : List α} {n : Nat} (d : α) (h : n < xs.length) : xs.drop n = xs.getD n d :: xs.drop (n + 1) := by
  rw [List.drop_eq_getElem_cons h, List.getD_eq_getElem?_getD, List.getElem?_eq_getElem h]; rfl
theorem get_mem {α : Type} {xs : List α} {n : Nat} (d : α) (h : n < xs.length) : xs.getD n d ∈ xs := by
  rw [List.getD_eq_getElem?_getD, List.getElem?_eq_getElem h]; exact List.getElem_mem h
theorem copyInts_l (l : List Int) (hl : l.length ≤ 17592186044416) : ∀ (d n : Nat) (acc : List Int), l.length - n = d → n ≤ l.length → acc.length = n → Ev (fun k => depotref00_CopyInts.l0 k l acc (n : Int)) (acc ++ l.drop n) := by
  intro d
  induction d with
  | zero =>
    intro n acc hd hn ha
    have : l.drop n = [] := List.drop_eq_nil_of_le (by omega)
    rw [this, List.append_nil]
    refine Ev.step (f := fun _ => some acc) (fun k => ?_) (Ev.now _)
    simp only [depotref00_CopyInts.l0]
    rw [if_neg (by omega)]
  | succ d ih =>
    intro n acc hd hn ha
    have hlt : n < l.length := by omega
    have := ih (n + 1) (acc ++ [l.getD n 0]) (by omega) (by omega) (by simp [ha])
    rw [drop_get 0 hlt]
    rw [List.append_assoc, List.singleton_append] at this
    refine Ev.step (fun k => ?_) this
    simp only [depotref00_CopyInts.l0]
    rw [if_pos (by omega), if_pos (by omega), if_pos (by omega), rd_nat, wrap_nat (by omega)]
theorem copyInts (l : List Int) (hl : l.length ≤ 17592186044416) : Ev (fun k => depotref00_CopyInts.f k l) l := by
  have := copyInts_l l hl _ 0 [] rfl (by omega) rfl
  simpa [depotref00_CopyInts.f] using this
theorem hasInt_l (l : List Int) (x : Int) (hl : l.length < 9223372036854775807) : ∀ (d n : Nat), l.length - n = d → n ≤ l.length → Ev (fun k => depotref00_HasInt.l0 k l x (n : Int)) ((l.drop n).contains x) := by
  intro d
  induction d with
  | zero =>
    intro n hd hn
    rw [List.drop_eq_nil_of_le (by omega)]
    refine Ev.step (f := fun _ => some false) (fun k => ?_) (Ev.now _)
    simp only [depotref00_HasInt.l0]
    rw [if_neg (by omega)]
  | succ d ih =>
    intro n hd hn
    have hlt : n < l.length := by omega
    rw [drop_get 0 hlt, List.contains_cons]
    by_cases h : l.getD n 0 = x
    · rw [show (x == l.getD n 0) = true from beq_iff_eq.2 h.symm, Bool.true_or]
      refine Ev.step (f := fun _ => some true) (fun k => ?_) (Ev.now _)
      simp only [depotref00_HasInt.l0]
      rw [if_pos (by omega), if_pos (by omega), rd_nat, if_pos h]
    · rw [show (x == l.getD n 0) = false from beq_false_of_ne (fun e => h e.symm), Bool.false_or]
      refine Ev.step (fun k => ?_) (ih (n + 1) (by omega) (by omega))
      simp only [depotref00_HasInt.l0]
      rw [if_pos (by omega), if_pos (by omega), rd_nat, if_neg h, wrap_nat (by omega)]
theorem hasInt (l : List Int) (x : Int) (hl : l.length < 9223372036854775807) : Ev (fun k => depotref00_HasInt.f k l x) (l.contains x) := by
  simpa [depotref00_HasInt.f] using hasInt_l l x hl _ 0 rfl (by omega)
theorem closeI (v : Int) {cs : List (List Int)} {F : List Int} (h : Fits cs F) : unit_Close.f v cs F = some (closeR v cs F) := by unfold unit_Close.f; rw [if_pos h]
theorem close_spec {v : Int} {cs : List (List Int)} {F : List Int} (hc : ∀ c ∈ cs, ∀ x ∈ c, fm x = true) (hF : ∀ x ∈ F, fm x = true) (ha : askedI v cs F = 0) :
    (Clash cs F ∧ closeR v cs F = ([], true, 0)) ∨ (¬ Clash cs F ∧ ∃ L, closeR v cs F = (L, false, 0) ∧ L.length ≤ 2097152 ∧ ∀ l, l ∈ L ↔ UP cs F l) := by
  obtain ⟨p1, p2⟩ := closed_up cs F hF hc
  unfold closeR
  rw [ha, if_pos rfl]
  by_cases hy : (closedSt cs F).2 = true
  · obtain ⟨_, _, hT, _, hn⟩ := p1 hy
    rw [if_pos hy]
    refine .inr ⟨hn, _, rfl, tidy_len _, fun l => ?_⟩
    rw [mem_tidy, hT l]
    exact ⟨fun h => h.1, fun h => ⟨h, h.of hF hc⟩⟩
  · rw [if_neg hy]
    exact .inl ⟨p2 (Bool.eq_false_iff.2 hy), rfl⟩
end Go.Proofs.Ytcaoobdbgdldaaa.Rf
namespace Go.Proofs.Ytcaoobdbgdldaaa.Atm
open Go.RowKit Go.Proofs.Ytcaoobdbgdldaaa.P Go.Proofs.Ytcaoobdbgdldaaa.Lit Go.Proofs.Ytcaoobdbgdldaaa.Spr Go.Proofs.Ytcaoobdbgdldaaa.Rf Go.Proofs.YtcaoobdbgdldaaaW.PrintWords Go.Proofs.YtcaoobdbgdldaaaW.PrintLast
set_option linter.unusedVariables false
set_option linter.unusedSimpArgs false

theorem awake27 : depotlaw27_awake.f = some true := by decide +kernel

theorem fit_l1 (l : List Int) (hl : l.length ≤ 60) (i : Nat) (hi : i < l.length) (h0 : -60 ≤ l.getD i 0 ∧ l.getD i 0 ≤ 60) (R : Prop) (hR : ∃ b, Ev (fun k => depotlaw27_fit.l0 k l ((i + 1 : Nat) : Int)) b ∧ (b = true → R)) : ∀ (d m : Nat), i - m = d → m ≤ i →
    ∃ b, Ev (fun k => depotlaw27_fit.l1 k l (i : Int) (m : Int)) b ∧ (b = true → R ∧ ∀ j, m ≤ j → j < i → l.getD j 0 ≠ l.getD i 0 ∧ l.getD j 0 ≠ -(l.getD i 0)) := by
  intro d
  induction d with
  | zero =>
    intro m hd hm
    obtain ⟨b, h1, h2⟩ := hR
    refine ⟨b, Ev.step (fun k => ?_) h1, fun e => ⟨h2 e, fun j h3 h4 => by omega⟩⟩
    simp only [depotlaw27_fit.l1]
    rw [if_neg (by omega), wrap_nat (by omega)]
  | succ d ih =>
    intro m hd hm
    have hlt : m < i := by omega
    have hw : wrap64 (-(l.getD i 0)) = -(l.getD i 0) := by unfold wrap64; omega
    by_cases e1 : l.getD m 0 = l.getD i 0
    · refine ⟨false, Ev.step (f := fun _ => some false) (fun k => ?_) (Ev.now _), by simp⟩
      simp only [depotlaw27_fit.l1]
      rw [if_pos (by omega), if_pos (by omega), if_pos (by omega), if_pos (by omega), if_pos (by omega), rd_nat, rd_nat, if_pos e1]
    · by_cases e2 : l.getD m 0 = -(l.getD i 0)
      · refine ⟨false, Ev.step (f := fun _ => some false) (fun k => ?_) (Ev.now _), by simp⟩
        simp only [depotlaw27_fit.l1]
        rw [if_pos (by omega), if_pos (by omega), if_pos (by omega), if_pos (by omega), if_pos (by omega), rd_nat, rd_nat, if_neg e1, hw, if_pos e2]
      · obtain ⟨b, h1, h2⟩ := ih (m + 1) (by omega) (by omega)
        refine ⟨b, Ev.step (fun k => ?_) h1, fun e => ⟨(h2 e).1, fun j h3 h4 => ?_⟩⟩
        · simp only [depotlaw27_fit.l1]
          rw [if_pos (by omega), if_pos (by omega), if_pos (by omega), if_pos (by omega), if_pos (by omega), rd_nat, rd_nat, if_neg e1, hw, if_neg e2, wrap_nat (by omega)]
        · by_cases hj : j = m
          · subst hj; exact ⟨e1, e2⟩
          · exact (h2 e).2 j (by omega) h4
theorem fit_l0 (l : List Int) (hl : l.length ≤ 60) : ∀ (d n : Nat), l.length - n = d → n ≤ l.length →
    ∃ b, Ev (fun k => depotlaw27_fit.l0 k l (n : Int)) b ∧ (b = true → ∀ i, n ≤ i → i < l.length → (l.getD i 0 ≠ 0 ∧ -60 ≤ l.getD i 0 ∧ l.getD i 0 ≤ 60) ∧ ∀ j, j < i → l.getD j 0 ≠ l.getD i 0 ∧ l.getD j 0 ≠ -(l.getD i 0)) := by
  intro d
  induction d with
  | zero =>
    intro n hd hn
    refine ⟨true, Ev.step (f := fun _ => some true) (fun k => ?_) (Ev.now _), fun _ i h1 h2 => by omega⟩
    simp only [depotlaw27_fit.l0]
    rw [if_neg (by omega)]
  | succ d ih =>
    intro n hd hn
    have hlt : n < l.length := by omega
    by_cases e1 : l.getD n 0 = 0
    · refine ⟨false, Ev.step (fun k => ?_) (show Ev (fun k => depotlaw27_fit.j2 k l (n : Int) true) false from Ev.step (f := fun _ => some false) (fun k => by simp only [depotlaw27_fit.j2]; rw [if_pos trivial]) (Ev.now _)), by simp⟩
      simp only [depotlaw27_fit.l0]
      rw [if_pos (by omega), if_pos (by omega), rd_nat, if_pos e1]
    · by_cases e2 : l.getD n 0 > 60
      · refine ⟨false, Ev.step (fun k => ?_) (show Ev (fun k => depotlaw27_fit.j2 k l (n : Int) true) false from Ev.step (f := fun _ => some false) (fun k => by simp only [depotlaw27_fit.j2]; rw [if_pos trivial]) (Ev.now _)), by simp⟩
        simp only [depotlaw27_fit.l0]
        rw [if_pos (by omega), if_pos (by omega), rd_nat, if_neg e1, if_pos e2]
      · by_cases e3 : l.getD n 0 < -60
        · refine ⟨false, Ev.step (fun k => ?_) (show Ev (fun k => depotlaw27_fit.j2 k l (n : Int) true) false from Ev.step (f := fun _ => some false) (fun k => by simp only [depotlaw27_fit.j2]; rw [if_pos trivial]) (Ev.now _)), by simp⟩
          simp only [depotlaw27_fit.l0]
          rw [if_pos (by omega), if_pos (by omega), rd_nat, if_neg e1, if_neg e2, decide_eq_true e3]
        · obtain ⟨b, h1, h2⟩ := fit_l1 l hl n hlt (by omega) _ (ih (n + 1) (by omega) (by omega)) _ 0 rfl (by omega)
          refine ⟨b, Ev.step (fun k => ?_) (show Ev (fun k => depotlaw27_fit.j2 k l (n : Int) false) b from Ev.step (fun k => by simp only [depotlaw27_fit.j2]; rw [if_neg (by decide)]; rfl) h1), fun e i h3 h4 => ?_⟩
          · simp only [depotlaw27_fit.l0]
            rw [if_pos (by omega), if_pos (by omega), rd_nat, if_neg e1, if_neg e2, decide_eq_false e3]
          · by_cases hi : i = n
            · subst hi
              exact ⟨⟨e1, by omega, by omega⟩, fun j hj => (h2 e).2 j (by omega) hj⟩
            · exact (h2 e).1 i (by omega) h4
theorem fit27 (l : List Int) : ∃ b, Ev (fun k => depotlaw27_fit.f k l 0) b ∧ (b = true → Fit l) := by
  by_cases hl : l.length ≤ 60
  · obtain ⟨b, h1, h2⟩ := fit_l0 l hl _ 0 rfl (by omega)
    refine ⟨b, ?_, fun e => ?_⟩
    · refine Ev.congr (fun k => ?_) (show Ev (fun k => depotlaw27_fit.j0 k l false) b from Ev.step (fun k => by simp only [depotlaw27_fit.j0]; rw [if_neg (by decide)]; rfl) h1)
      unfold depotlaw27_fit.f
      rw [if_neg (by omega), if_neg (by omega), decide_eq_false (by omega)]
    · have h := fun i (hi : i < l.length) => h2 e i (Nat.zero_le _) hi
      refine ⟨hl, fun x hx => ?_, ?_, fun x hx hnx => ?_⟩
      · obtain ⟨n, hn, rfl⟩ := mem_getD hx
        exact (h n hn).1
      · rw [List.Nodup, List.pairwise_iff_getElem]
        intro i j hi hj hij
        have := ((h j hj).2 i hij).1
        rwa [List.getD_eq_getElem?_getD, List.getElem?_eq_getElem hi, List.getD_eq_getElem?_getD, List.getElem?_eq_getElem hj] at this
      · obtain ⟨n, hn, e1⟩ := mem_getD hx
        obtain ⟨m, hm, e2⟩ := mem_getD hnx
        have h0 := (h n hn).1.1
        rcases Nat.lt_trichotomy n m with hlt | heq | hgt
        · have := ((h m hm).2 n hlt).2
          omega
        · subst heq; omega
        · have := ((h n hn).2 m hgt).2
          omega
  · refine ⟨false, ?_, by simp⟩
    refine Ev.congr (fun k => ?_) (show Ev (fun k => depotlaw27_fit.j0 k l true) false from Ev.step (f := fun _ => some false) (fun k => by simp only [depotlaw27_fit.j0]; rw [if_pos trivial]) (Ev.now _))
    unfold depotlaw27_fit.f
    rw [if_neg (by omega), if_neg (by omega), decide_eq_true (by omega)]

theorem fit_fm {l : List Int} (h : Fit l) : ∀ x ∈ l, fm x = true := fun x hx => by have := h.rng x hx; exact decide_eq_true (by omega)
theorem lv_bound {x b : Int} (h0 : x ≠ 0) (h1 : -b ≤ x) (h2 : x ≤ b) (hb : b ≤ 1048576) : fm x = true ∧ lv x ≤ b := by
  have hf : fm x = true := decide_eq_true (by omega)
  refine ⟨hf, ?_⟩
  unfold lv
  rw [if_pos hf]
  split <;> omega
theorem fit_fits {l : List Int} (h : Fit l) (k : Nat) (hk : k ≤ 60) : AFits l k 61 := by
  refine ⟨h.len, h.rng, fun x hx => ?_, ?_, by omega, by omega, by omega⟩
  · have := h.rng x hx
    have := (lv_bound this.1 this.2.1 this.2.2 (by omega)).2
    omega
  · rw [List.Nodup, List.pairwise_map]
    refine List.Pairwise.imp_of_mem (fun {a b} ha hb hab e => ?_) h.nd
    rcases lv_eq (fit_fm h b hb) (fit_fm h a ha) e with e1 | e1
    · exact hab e1
    · subst e1
      exact h.un b hb ha
theorem atI {l : List Int} (h : Fit l) (k : Nat) (hk : k ≤ 60) : atmost_AtMost.f l (k : Int) 61 = some (atmostL l k 61, 61 + helpersI l.length k, 0) := by unfold atmost_AtMost.f; rw [if_pos (fit_fits h k hk)]
theorem atmostL_lt {l : List Int} {k : Nat} (h : k < l.length) (f : Int) : atmostL l k f = clausesL l k f := by unfold atmostL; rw [if_pos (by omega), Int.toNat_natCast]
theorem atmostL_ge {l : List Int} {k : Nat} (h : ¬ k < l.length) (f : Int) : atmostL l k f = [] := by unfold atmostL; rw [if_neg (by omega)]
theorem at_rng {l : List Int} (h : Fit l) (k : Nat) : ∀ c ∈ atmostL l k 61, ∀ x ∈ c, x ≠ 0 ∧ -(60 + helpersI l.length k) ≤ x ∧ x ≤ 60 + helpersI l.length k := by
  by_cases hlt : k < l.length
  · rw [atmostL_lt hlt]
    exact fun c hc x hx => ⟨ne_all h k hlt c hc x hx, all_rng h k hlt c hc x hx⟩
  · rw [atmostL_ge hlt]; simp
theorem at_len {l : List Int} (h : Fit l) (k : Nat) : (atmostL l k 61).length ≤ 12300 ∧ ∀ c ∈ atmostL l k 61, c.length ≤ 3 := by
  by_cases hlt : k < l.length
  · rw [atmostL_lt hlt]
    exact all_len h.len k (by have := h.len; omega) hlt 61
  · rw [atmostL_ge hlt]; simp
theorem at_asked {l C : List Int} (h : Fit l) (hs : ∀ x ∈ C, x ∈ l) (k : Nat) (hk : k ≤ 60) : askedI (wrap64 (61 + helpersI l.length k - 1)) (atmostL l k 61) C = 0 ∧ ∀ c ∈ atmostL l k 61, ∀ x ∈ c, fm x = true := by
  have hb := helpers_rng l.length k h.len hk
  have hr := at_rng h k
  have hw : wrap64 (61 + helpersI l.length k - 1) = 60 + helpersI l.length k := by unfold wrap64; omega
  rw [hw]
  generalize helpersI l.length k = H at *
  have hfm : ∀ c ∈ atmostL l k 61, ∀ x ∈ c, fm x = true ∧ lv x ≤ 60 + H := fun c hc x hx => by
    have := hr c hc x hx
    exact lv_bound this.1 this.2.1 this.2.2 (by omega)
  refine ⟨?_, fun c hc x hx => (hfm c hc x hx).1⟩
  have h1 : formedB (60 + H) (atmostL l k 61) = true := by
    unfold formedB
    rw [decide_eq_true (by omega), decide_eq_true (by omega), Bool.true_and, Bool.true_and]
    refine List.all_eq_true.2 fun c hc => ?_
    unfold withinB
    rw [List.all_eq_true.2 (fun x hx => (hfm c hc x hx).1), List.all_eq_true.2 (fun x hx => decide_eq_true (hfm c hc x hx).2)]
    rfl
  unfold askedI
  rw [h1, List.all_eq_true.2 (fun x hx => fit_fm h x (hs x hx))]
  rfl
theorem at_fits {l C : List Int} (h : Fit l) (hC : C.length ≤ 60) (k : Nat) : Fits (atmostL l k 61) C := by
  obtain ⟨h1, h2⟩ := at_len h k
  exact ⟨by omega, fun x hx => by have := h2 x hx; omega, by omega⟩
theorem at_no_clash {l C : List Int} (h : Fit l) (hC : C.Nodup) (hs : ∀ x ∈ C, x ∈ l) : ¬ Clash (atmostL l C.length 61) C := by
  by_cases hlt : C.length < l.length
  · rw [atmostL_lt hlt]; exact no_clash h hC hs hlt
  · rw [atmostL_ge hlt]; exact no_clash_nil h hs
theorem at_others {l C : List Int} (h : Fit l) (hC : C.Nodup) (hs : ∀ x ∈ C, x ∈ l) {x : Int} (hx : x ∈ l) (hxC : x ∉ C) : UP (atmostL l C.length 61) C (-x) := by
  have hlt : C.length < l.length := by
    have := nd_len (x :: C) l (List.nodup_cons.2 ⟨hxC, hC⟩) (fun y hy => by rcases List.mem_cons.1 hy with e | e; rw [e]; exact hx; exact hs y e)
    rw [List.length_cons] at this
    omega
  rw [atmostL_lt hlt]
  exact others hC h.nd hs hlt hx hxC
theorem at_more {l C : List Int} (h : Fit l) (hC : C.Nodup) (hs : ∀ x ∈ C, x ∈ l) (k : Nat) (hk : C.length = k + 1) : Clash (atmostL l k 61) C := by
  have := nd_len C l hC hs
  rw [atmostL_lt (by omega)]
  exact more hC h.nd hs k hk

theorem less27 {l C : List Int} (h : Fit l) (hC : C.Nodup) (hs : ∀ x ∈ C, x ∈ l) (k0 : Nat) (hk : C.length = k0 + 1) : Ev (fun k => (depotref00_CopyInts.f k l).bind fun t154 => ((atmost_AtMost.f t154 (wrap64 ((C.length : Int) - 1)) 61).bind fun bt157 => (if bt157.2.2 = 0 then (depotlaw27_AtmostForces.j5 k C bt157.1 bt157.2.1 (decide (bt157.2.1 < 61))) else (depotlaw27_AtmostForces.j5 k C bt157.1 bt157.2.1 true)))) true := by
  have hCl := nd_len C l hC hs
  have hll := h.len
  have hw : wrap64 ((C.length : Int) - 1) = (k0 : Int) := by unfold wrap64; omega
  have hb := helpers_rng l.length k0 h.len (by omega)
  obtain ⟨ha, hfm⟩ := at_asked h hs k0 (by omega)
  refine Ev.bind (copyInts l (by omega)) ?_
  refine Ev.bind (a := (atmostL l k0 61, 61 + helpersI l.length k0, 0)) (Ev.congr (fun k => by rw [hw, atI h k0 (by omega)]) (Ev.now _)) ?_
  refine Ev.congr (fun k => by rw [if_pos rfl, decide_eq_false (show ¬ (61 + helpersI l.length k0 < 61) by omega)]) ?_
  refine Ev.step (f := fun k => (depotref00_CopyInts.f k C).bind fun t162 => ((unit_Close.f (wrap64 (61 + helpersI l.length k0 - 1)) (atmostL l k0 61) t162).bind fun bt165 => (if bt165.2.2 = 0 then (some bt165.2.1) else (some false)))) (fun k => by simp only [depotlaw27_AtmostForces.j5]; rw [if_neg (by decide)]) ?_
  refine Ev.bind (copyInts C (by omega)) ?_
  rcases close_spec hfm (fun x hx => fit_fm h x (hs x hx)) ha with ⟨_, hc⟩ | ⟨hn, _⟩
  · refine Ev.bind (a := ([], true, 0)) (Ev.congr (fun k => by rw [closeI _ (at_fits h (by omega) k0), hc]) (Ev.now _)) ?_
    exact Ev.congr (fun k => if_pos rfl) (Ev.now _)
  · exact absurd (at_more h hC hs k0 hk) hn

theorem look27 {l C K : List Int} (h : Fit l) (hC : C.Nodup) (hs : ∀ x ∈ C, x ∈ l) (hKl : K.length ≤ 2097152) (hK : ∀ x ∈ l, x ∉ C → -x ∈ K) : ∀ (d n : Nat), l.length - n = d → n ≤ l.length → Ev (fun k => depotlaw27_AtmostForces.l1 k l C (C.length : Int) K (n : Int)) true := by
  have hCl := nd_len C l hC hs
  have hll := h.len
  intro d
  induction d with
  | zero =>
    intro n hd hn
    by_cases h0 : C.length = 0
    · refine Ev.step (f := fun _ => some true) (fun k => ?_) (Ev.now _)
      simp only [depotlaw27_AtmostForces.l1]
      rw [if_neg (by omega), if_pos (by omega)]
    · refine Ev.step (fun k => ?_) (less27 h hC hs (C.length - 1) (by omega))
      simp only [depotlaw27_AtmostForces.l1]
      rw [if_neg (by omega), if_neg (by omega)]
  | succ d ih =>
    intro n hd hn
    have hlt : n < l.length := by omega
    have hm := get_mem (xs := l) 0 hlt
    have hr := h.rng _ hm
    have hw : wrap64 (-(l.getD n 0)) = -(l.getD n 0) := by unfold wrap64; omega
    by_cases hc : l.getD n 0 ∈ C
    · refine Ev.step (fun k => ?_) (Ev.bind (hasInt C (l.getD n 0) (by omega)) (f := fun k t => if t = true then depotlaw27_AtmostForces.l1 k l C (C.length : Int) K ((n + 1 : Nat) : Int) else ((depotref00_HasInt.f k K (-(l.getD n 0))).bind fun t153 => if t153 = true then depotlaw27_AtmostForces.l1 k l C (C.length : Int) K ((n + 1 : Nat) : Int) else some false)) (Ev.congr (fun k => if_pos (by simpa using hc)) (ih (n + 1) (by omega) (by omega))))
      simp only [depotlaw27_AtmostForces.l1]
      rw [if_pos (by omega), if_pos (by omega), rd_nat, wrap_nat (n := n) (by omega), hw]
    · refine Ev.step (fun k => ?_) (Ev.bind (hasInt C (l.getD n 0) (by omega)) (f := fun k t => if t = true then depotlaw27_AtmostForces.l1 k l C (C.length : Int) K ((n + 1 : Nat) : Int) else ((depotref00_HasInt.f k K (-(l.getD n 0))).bind fun t153 => if t153 = true then depotlaw27_AtmostForces.l1 k l C (C.length : Int) K ((n + 1 : Nat) : Int) else some false)) (Ev.congr (fun k => if_neg (by simpa using hc)) (Ev.bind (hasInt K (-(l.getD n 0)) (by omega)) (Ev.congr (fun k => if_pos (by simpa using hK _ hm hc)) (ih (n + 1) (by omega) (by omega))))))
      simp only [depotlaw27_AtmostForces.l1]
      rw [if_pos (by omega), if_pos (by omega), rd_nat, wrap_nat (n := n) (by omega), hw]

theorem just27 {l C : List Int} (h : Fit l) (hC : C.Nodup) (hs : ∀ x ∈ C, x ∈ l) : Ev (fun k => (depotref00_CopyInts.f k l).bind fun t134 => ((atmost_AtMost.f t134 (C.length : Int) 61).bind fun bt137 => (if bt137.2.2 = 0 then (depotlaw27_AtmostForces.j2 k l C (C.length : Int) bt137.1 bt137.2.1 (decide (bt137.2.1 < 61))) else (depotlaw27_AtmostForces.j2 k l C (C.length : Int) bt137.1 bt137.2.1 true)))) true := by
  have hCl := nd_len C l hC hs
  have hll := h.len
  have hb := helpers_rng l.length C.length h.len (by omega)
  obtain ⟨ha, hfm⟩ := at_asked h hs C.length (by omega)
  refine Ev.bind (copyInts l (by omega)) ?_
  refine Ev.bind (a := (atmostL l C.length 61, 61 + helpersI l.length C.length, 0)) (Ev.congr (fun k => by rw [atI h C.length (by omega)]) (Ev.now _)) ?_
  refine Ev.congr (fun k => by rw [if_pos rfl, decide_eq_false (show ¬ (61 + helpersI l.length C.length < 61) by omega)]) ?_
  refine Ev.step (f := fun k => (depotref00_CopyInts.f k C).bind fun t142 => ((unit_Close.f (wrap64 (61 + helpersI l.length C.length - 1)) (atmostL l C.length 61) t142).bind fun bt145 => (if bt145.2.2 = 0 then (depotlaw27_AtmostForces.j3 k l C (C.length : Int) bt145.1 bt145.2.1) else (depotlaw27_AtmostForces.j3 k l C (C.length : Int) bt145.1 true)))) (fun k => by simp only [depotlaw27_AtmostForces.j2]; rw [if_neg (by decide)]) ?_
  refine Ev.bind (copyInts C (by omega)) ?_
  rcases close_spec hfm (fun x hx => fit_fm h x (hs x hx)) ha with ⟨hc, _⟩ | ⟨_, L, hc, hLl, hL⟩
  · exact absurd hc (at_no_clash h hC hs)
  · refine Ev.bind (a := (L, false, 0)) (Ev.congr (fun k => by rw [closeI _ (at_fits h (by omega) C.length), hc]) (Ev.now _)) ?_
    refine Ev.congr (fun k => if_pos rfl) ?_
    exact Ev.step (fun k => by simp only [depotlaw27_AtmostForces.j3]; rw [if_neg (by decide)]; rfl) (look27 h hC hs hLl (fun x hx hxC => (hL _).2 (at_others h hC hs hx hxC)) _ 0 rfl (by omega))

theorem pick27 {l : List Int} (h : Fit l) (l1 : List Int) (hl1 : l1.length < 9223372036854775807) : ∀ (d n : Nat) (C : List Int), l1.length - n = d → n ≤ l1.length → C.Nodup → (∀ x ∈ C, x ∈ l) → Ev (fun k => depotlaw27_AtmostForces.l0 k l l1 C (n : Int)) true := by
  have hll := h.len
  intro d
  induction d with
  | zero =>
    intro n C hd hn hC hs
    refine Ev.step (fun k => ?_) (just27 h hC hs)
    simp only [depotlaw27_AtmostForces.l0]
    rw [if_neg (by omega)]
  | succ d ih =>
    intro n C hd hn hC hs
    have hlt : n < l1.length := by omega
    have hCl := nd_len C l hC hs
    by_cases e1 : l1.getD n 0 ≥ 0
    · by_cases e2 : l1.getD n 0 < (l.length : Int)
      · obtain ⟨m, hm⟩ : ∃ m : Nat, l1.getD n 0 = m := ⟨(l1.getD n 0).toNat, by omega⟩
        have hml : m < l.length := by omega
        have hx := get_mem (xs := l) 0 hml
        by_cases hc : l.getD m 0 ∈ C
        · refine Ev.step (fun k => ?_) (Ev.bind (hasInt C (l.getD m 0) (by omega)) (f := fun k t => if t = true then depotlaw27_AtmostForces.l0 k l l1 C ((n + 1 : Nat) : Int) else (if C.length < 17592186044416 then depotlaw27_AtmostForces.l0 k l l1 (C ++ [l.getD m 0]) ((n + 1 : Nat) : Int) else none)) (Ev.congr (fun k => if_pos (by simpa using hc)) (ih (n + 1) C (by omega) (by omega) hC hs)))
          simp only [depotlaw27_AtmostForces.l0]
          rw [if_pos (by omega), if_pos (by omega), rd_nat, hm, if_pos (by omega), if_pos (by omega), if_pos (by omega), rd_nat, wrap_nat (n := n) (by omega)]
        · refine Ev.step (fun k => ?_) (Ev.bind (hasInt C (l.getD m 0) (by omega)) (f := fun k t => if t = true then depotlaw27_AtmostForces.l0 k l l1 C ((n + 1 : Nat) : Int) else (if C.length < 17592186044416 then depotlaw27_AtmostForces.l0 k l l1 (C ++ [l.getD m 0]) ((n + 1 : Nat) : Int) else none)) (Ev.congr (fun k => by rw [if_neg (by simpa using hc), if_pos (by omega)]) (ih (n + 1) (C ++ [l.getD m 0]) (by omega) (by omega) ?_ ?_)))
          · simp only [depotlaw27_AtmostForces.l0]
            rw [if_pos (by omega), if_pos (by omega), rd_nat, hm, if_pos (by omega), if_pos (by omega), if_pos (by omega), rd_nat, wrap_nat (n := n) (by omega)]
          · rw [List.nodup_append]
            refine ⟨hC, by simp, fun a ha b hb e => ?_⟩
            rw [List.mem_singleton.1 hb] at e
            exact hc (e ▸ ha)
          · intro x hx2
            rcases List.mem_append.1 hx2 with e | e
            · exact hs x e
            · rw [List.mem_singleton.1 e]; exact hx
      · refine Ev.step (fun k => ?_) (ih (n + 1) C (by omega) (by omega) hC hs)
        simp only [depotlaw27_AtmostForces.l0]
        rw [if_pos (by omega), if_pos (by omega), rd_nat, if_pos e1, if_neg e2, wrap_nat (n := n) (by omega)]
    · refine Ev.step (fun k => ?_) (ih (n + 1) C (by omega) (by omega) hC hs)
      simp only [depotlaw27_AtmostForces.l0]
      rw [if_pos (by omega), if_pos (by omega), rd_nat, if_neg e1, wrap_nat (n := n) (by omega)]

end Go.Proofs.Ytcaoobdbgdldaaa.Atm
namespace Go.Proofs.Ytcaoobdbgdldaaa.Pure
open Go.RowKit Go.Proofs.Ytcaoobdbgdldaaa.P Go.Proofs.Ytcaoobdbgdldaaa.Lit Go.Proofs.Ytcaoobdbgdldaaa.Spr Go.Proofs.Ytcaoobdbgdldaaa.Rf Go.Proofs.Ytcaoobdbgdldaaa.Atm Go.Proofs.YtcaoobdbgdldaaaW.PrintWords Go.Proofs.YtcaoobdbgdldaaaW.PrintLast

theorem AtmostForces : depotlaw27_AtmostForces.Pure := by
  intro l0 l1 _ _ _ hm _ _
  refine Ev.rounds ?_
  unfold depotlaw27_AtmostForces.f
  refine Ev.bind (a := true) (Ev.congr (fun k => awake27) (Ev.now _)) (Ev.congr (fun k => if_pos rfl) ?_)
  obtain ⟨b, h1, h2⟩ := fit27 l0
  refine Ev.bind h1 ?_
  cases b with
  | false =>
    refine Ev.step (f := fun _ => some true) (fun k => ?_) (Ev.now _)
    simp only [depotlaw27_AtmostForces.j0]
    rw [Bool.not_false, if_pos rfl, awake27]
    rfl
  | true =>
    refine Ev.step (fun k => ?_) (pick27 (h2 rfl) l1 (by unfold maxLen at hm; omega) _ 0 [] rfl (by omega) List.nodup_nil (by simp))
    simp only [depotlaw27_AtmostForces.j0]
    rw [Bool.not_true, if_neg (by decide)]
    rfl

end Go.Proofs.Ytcaoobdbgdldaaa.Pure
