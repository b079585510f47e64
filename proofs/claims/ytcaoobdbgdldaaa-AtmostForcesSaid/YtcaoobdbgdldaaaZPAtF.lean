/- Part of the proof of AtmostForces: what the law uses of the text AtF. -/
import Derived.Test.YtcaoobdbgdldaaaZPAtE
namespace Go.Proofs.Ytcaoobdbgdldaaa.Spr
open Go.RowKit Go.Maps Go.Proofs.Ytcaoobdbgdldaaa.Lit Go.Proofs.YtcaoobdbgdldaaaW.PrintWords
set_option linter.unusedVariables false
set_option linter.unusedSimpArgs false

def AFits (l : List Int) (k first : Int) : Prop := l.length ≤ 60 ∧ (∀ x ∈ l, x ≠ 0 ∧ -60 ≤ x ∧ x ≤ 60) ∧ (∀ x ∈ l, lv x < first) ∧ (l.map lv).Nodup ∧ (0 ≤ k ∧ k ≤ 60) ∧ 3 ≤ first ∧ first ≤ 61
instance (l : List Int) (k first : Int) : Decidable (AFits l k first) := by unfold AFits; infer_instance
def atmostL (l : List Int) (k first : Int) : List (List Int) := if k < l.length then clausesL l k.toNat first else []

def AtW (w : World) (k first : Int) (wr : World) : Prop :=
  Below w.heap.size w wr ∧ w.heap.size + 2 ≤ wr.heap.size ∧ wr.cell? ⟨w.heap.size, 0, none⟩ = some (.int .i64 k) ∧ wr.cell? ⟨w.heap.size + 1, 0, none⟩ = some (.int .i64 first)
theorem AtW.step {w wr w2 : World} {k first : Int} (h : AtW w k first wr) (hb : Below wr.heap.size wr w2) : AtW w k first w2 := by
  obtain ⟨h1, h2, h3, h4⟩ := h
  exact ⟨below_then h1 (by omega) hb, by have := hb.size; omega, (hb.cell (World.block_lt_of_cell? wr _ h3)).trans h3, (hb.cell (World.block_lt_of_cell? wr _ h4)).trans h4⟩
theorem AtW.drewN {w wr : World} {k first : Int} (h : AtW w k first wr) (m : Nat) : AtW w k first (wr.drewN m) := h.step (below_drewN (Below.refl _ _) m)
theorem AtW.init (w : World) (k first : Int) : AtW w k first ((w.alloc (.cells #[.int .i64 k] 3)).alloc (.cells #[.int .i64 first] 3)) := by
  have e : (w.alloc (.cells #[.int .i64 k] 3)).heap.size = w.heap.size + 1 := by simp
  refine ⟨((Below.refl _ w).alloc (Nat.le_refl _) _).alloc (by omega) _, by simp, ?_, ?_⟩
  · unfold World.cell?
    rw [(heap_alloc_old (w.alloc (.cells #[.int .i64 k] 3)) _ (r := w.heap.size) (by omega)).trans (heap_alloc_new w _)]
    rfl
  · have h := heap_alloc_new (w.alloc (.cells #[.int .i64 k] 3)) (.cells #[.int .i64 first] 3)
    rw [e] at h
    unfold World.cell?
    rw [h]
    rfl

theorem helpersI_bd {N : Nat} {k : Int} (hN : N ≤ 60) (h0 : 0 ≤ k) (h1 : k ≤ 60) : 0 ≤ helpersI N k ∧ helpersI N k ≤ 3600 := by
  unfold helpersI
  split
  · omega
  · have h1 : 0 ≤ ((N : Int) - 1) * k := Int.mul_nonneg (by omega) (by omega)
    have h2 : ((N : Int) - 1) * k ≤ 60 * 60 := Int.mul_le_mul (by omega) (by omega) (by omega) (by omega)
    omega

set_option maxHeartbeats 8000000 in
set_option maxRecDepth 100000 in
theorem atmost_any (A : Option Addr) (c : Nat) (l : List Int) (k first : Int) (w : World) (hC : IC w A l) (hF : AFits l k first) :
    Calls Try.prog 7 #[.slice A l.length c, .int .i64 k, .int .i64 first] w fun e w' => ∃ v, e = .returned (.tuple #[v, .int .i64 (first + helpersI l.length k), .int .i64 0]) ∧ Kd.S (Kd.slice 3 (Kd.int .i64)) 22 w' w.heap.size (fun _ => True) v (atmostL l k first) ∧ Below w.heap.size w w' := by
  obtain ⟨hl, hrg, hlow, hnd, ⟨k0, k1⟩, f0, f1⟩ := hF
  have hfm : ∀ x ∈ l, fm x = true := fun x hx => by have := hrg x hx; exact decide_eq_true (by omega)
  have HU := Lib.hid (fun (w2 : World) (hb : Below w.heap.size w w2) => unlike_any A c l w2 (hC.below hb) (by omega) hfm hnd)
  have HC := Lib.hid (fun n (hn : n < l.length) (w2 : World) (hb2 : Below w.heap.size w w2) => (hC.below hb2) n hn)
  have HLow := Lib.hid (fun n (hn : n < l.length) => hlow (l.getD n 0) (by rw [List.getD_eq_getElem?_getD, List.getElem?_eq_getElem hn]; exact List.getElem_mem _))
  have HCl := Lib.hid (fun (w2 : World) (hW : AtW w k first w2) (hkl : k < l.length) =>
    show Calls Try.prog 14 #[.slice A l.length c, .int .i64 k, .func (.func 13) #[] #[.pointer (some ⟨w.heap.size + 1, 0, none⟩), .pointer (some ⟨w.heap.size, 0, none⟩)]] w2 (ClausesPost w2 (atmostL l k first)) from by
      have hb : ∀ x ∈ l, -1048576 ≤ x ∧ x ≤ 1048576 := fun x hx => by have := hrg x hx; omega
      unfold atmostL
      rw [if_pos hkl]
      by_cases h0 : k = 0
      · subst h0
        exact clauses_zero A c l _ w2 (hC.below hW.1) hl hb
      · obtain ⟨q, rfl⟩ : ∃ q : Nat, k = q := ⟨k.toNat, by omega⟩
        rw [Int.toNat_natCast]
        exact clauses_any A c l q first _ _ w2 (hC.below hW.1) hl hb (by omega) (by omega) ⟨by omega, by omega⟩ hW.2.2.2 hW.2.2.1)
  have HNil := Lib.hid (fun (h : ¬ k < l.length) => show atmostL l k first = [] by unfold atmostL; rw [if_neg h])
  have HI := Lib.hid (AtW.init w k first)
  clear hC hrg hlow hnd hfm
  generalize atmostL l k first = cs at *
  generalize hN : l.length = N at *
  clear hN
  obtain ⟨p0, p1⟩ := helpersI_bd hl k0 k1
  have HHp := Lib.hid (fun (w2 : World) => helpers_any N k w2 ⟨by omega, by omega⟩ ⟨k0, by omega⟩)
  have d1 : decide (k < 0) = false := decide_eq_false (by omega)
  have d2 : decide (first < 1) = false := decide_eq_false (by omega)
  have d3 : decide (first > 1048577) = false := decide_eq_false (by omega)
  generalize hH : helpersI N k = H at *
  clear hH
  have d4 : decide (H > 1048577 - first) = false := decide_eq_false (by omega)
  go_enter Try.func7, Try.ntmps7
  go_wp2_with (first
    | (go_at_call 10; refine (HU.out _ HI.out.1).mono ?_; rintro e w1 ⟨rfl, hb⟩; have HW := Lib.hid (HI.out.step hb); clear hb))
  have hck := HW.out.2.2.1
  have hcf := HW.out.2.2.2
  by_cases hkn : k < N
  · have d5 : decide (k < (N : Int)) = true := decide_eq_true hkn
    go_quiet ((go_at_call 11; exact Calls.quiet_of_same ((HHp.out _).mono fun _ _ h => ⟨h.1, h.2.symm⟩)))
    clear hck hcf
    go_wp2
    go_loopw [43] (fun i wr => ∃ m : Nat, m ≤ N ∧ i = .int .i64 m ∧ AtW w k first wr) (fun i _ => N - (intOf i).toNat)
    case atStart => exact ⟨0, Nat.zero_le _, rfl, HW.out.drewN _⟩
    case round =>
      obtain ⟨m, hm, rfl, hr⟩ := hrel
      by_cases hlt : m < N
      · obtain ⟨ad, hA, hx⟩ := HC.out m hlt wr hr.1
        subst hA
        have x0 := HLow.out m hlt
        have hcf2 := hr.2.2.2
        have HR := Lib.hid hr
        have HV := Lib.hid (fun q => var_any (l.getD m 0) (wr.drewN q))
        clear hr
        generalize l.getD m 0 = x at *
        generalize lv x = y at *
        have dd : decide (first ≤ y) = false := decide_eq_false (by omega)
        go_wp2
        go_quiet ((go_at_call 12; exact Calls.quiet_of_same ((HV.out _).mono fun _ _ h => ⟨h.1, h.2.symm⟩)))
        go_wp2
        go_roundw
        case rel => exact ⟨m + 1, by omega, by go_num, HR.out.drewN _⟩
        case measure => simp [intOf]; omega
      · obtain rfl : m = N := by omega
        have hck2 := hr.2.2.1
        have HR := Lib.hid hr
        clear hr
        go_wp2_with (first
          | (go_at_call 14; refine (HCl.out _ HR.out hkn).mono ?_; rintro e w3 ⟨v, rfl, hS, hb⟩; have HS := Lib.hid (Kd.S_lower hS HR.out.1.size); have HW3 := Lib.hid (HR.out.step hb); clear hS hb))
        have hck3 := HW3.out.2.2.1
        have hcf3 := HW3.out.2.2.2
        go_quiet ((go_at_call 11; exact Calls.quiet_of_same ((HHp.out _).mono fun _ _ h => ⟨h.1, h.2.symm⟩)))
        go_wp2
        go_ret3
        exact ⟨v, rfl, Kd.S_drewN HS.out _, (HW3.out.drewN _).1⟩
  · have d5 : decide (k < (N : Int)) = false := decide_eq_false hkn
    have hcs := HNil.out (by omega)
    subst hcs
    go_quiet ((go_at_call 11; exact Calls.quiet_of_same ((HHp.out _).mono fun _ _ h => ⟨h.1, h.2.symm⟩)))
    clear hck hcf
    go_wp2
    go_loopw [6, 43] (fun c i wr => ∃ m : Nat, m ≤ N ∧ i = .int .i64 m ∧ c = .slice none 0 0 ∧ AtW w k first wr) (fun _ i _ => N - (intOf i).toNat)
    case atStart => exact ⟨0, Nat.zero_le _, rfl, rfl, HW.out.drewN _⟩
    case round =>
      obtain ⟨m, hm, rfl, rfl, hr⟩ := hrel
      by_cases hlt : m < N
      · obtain ⟨ad, hA, hx⟩ := HC.out m hlt wr hr.1
        subst hA
        have x0 := HLow.out m hlt
        have hcf2 := hr.2.2.2
        have HR := Lib.hid hr
        have HV := Lib.hid (fun q => var_any (l.getD m 0) (wr.drewN q))
        clear hr
        generalize l.getD m 0 = x at *
        generalize lv x = y at *
        have dd : decide (first ≤ y) = false := decide_eq_false (by omega)
        go_wp2
        go_quiet ((go_at_call 12; exact Calls.quiet_of_same ((HV.out _).mono fun _ _ h => ⟨h.1, h.2.symm⟩)))
        go_wp2
        go_roundw
        case rel => exact ⟨m + 1, by omega, by go_num, rfl, HR.out.drewN _⟩
        case measure => simp [intOf]; omega
      · obtain rfl : m = N := by omega
        have hck2 := hr.2.2.1
        have hcf2 := hr.2.2.2
        have HR := Lib.hid hr
        clear hr
        go_wp2
        go_quiet ((go_at_call 11; exact Calls.quiet_of_same ((HHp.out _).mono fun _ _ h => ⟨h.1, h.2.symm⟩)))
        go_wp2
        go_ret3
        exact ⟨_, rfl, Kd.S_nil _ _ _ _ _, (HR.out.drewN _).1⟩

end Go.Proofs.Ytcaoobdbgdldaaa.Spr
