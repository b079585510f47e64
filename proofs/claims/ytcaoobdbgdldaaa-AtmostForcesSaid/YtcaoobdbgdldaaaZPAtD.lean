/- Part of the proof of AtmostForces: what the law uses of the text AtD. -/
import Derived.Test.YtcaoobdbgdldaaaZPAtC
import Derived.Deep.RegionWith
import Derived.Deep.DeepCutAuto
import Derived.BigQuiet
import Derived.Deep.QuietTactic
namespace Go.Proofs.Ytcaoobdbgdldaaa.Spr
open Go.RowKit Go.Maps Go.Proofs.Ytcaoobdbgdldaaa.Lit Go.Proofs.YtcaoobdbgdldaaaW.PrintWords
set_option linter.unusedVariables false
set_option linter.unusedSimpArgs false

def midL (f k i x : Int) (h : Nat) : List (List Int) := [[x, -(sI f k (i - 1) (h + 2 - 1)), sI f k i (h + 2)], [-(sI f k (i - 1) (h + 2)), sI f k i (h + 2)]]
def rowL (f : Int) (k : Nat) (l : List Int) (m : Nat) : List (List Int) :=
  [[-(l.getD (m + 1) 0), sI f k (m + 2) 1], [-(sI f k (m + 2 - 1) 1), sI f k (m + 2) 1]] ++ (List.range (k - 1)).flatMap (midL f k (m + 2) (-(l.getD (m + 1) 0))) ++ [[-(l.getD (m + 1) 0), -(sI f k (m + 2 - 1) k)]]
def headL (f : Int) (k : Nat) (l : List Int) : List (List Int) := [[-(l.getD 0 0), sI f k 1 1]]
def clausesL (l : List Int) (k : Nat) (f : Int) : List (List Int) :=
  if k = 0 then l.map (fun x => [-x])
  else headL f k l ++ (List.range (k - 1)).map (fun j : Nat => [-(sI f k 1 (j + 2))]) ++ (List.range (l.length - 2)).flatMap (rowL f k l) ++ [[-(l.getD (l.length - 1) 0), -(sI f k (l.length - 1) k)]]

theorem range_map_succ {α : Type} (g : Nat → α) (n : Nat) : (List.range (n + 1)).map g = (List.range n).map g ++ [g n] := by rw [List.range_succ, List.map_append]; rfl
theorem range_flat_succ {α : Type} (g : Nat → List α) (n : Nat) : (List.range (n + 1)).flatMap g = (List.range n).flatMap g ++ g n := by rw [List.range_succ, List.flatMap_append]; simp
theorem sI_bd {f k i j : Int} (h1 : 0 ≤ f ∧ f ≤ 100000) (h2 : 0 ≤ k ∧ k ≤ 60) (h3 : 1 ≤ i ∧ i ≤ 1000) (h4 : 0 ≤ j ∧ j ≤ 1000) : -1 ≤ sI f k i j ∧ sI f k i j ≤ 1000000 := by
  unfold sI
  have hm0 : 0 ≤ (i - 1) * k := Int.mul_nonneg (by omega) h2.1
  have hm1 : (i - 1) * k ≤ 1000 * 60 := Int.mul_le_mul (by omega) h2.2 h2.1 (by omega)
  omega
theorem PutR.below {w0 : World} {base cb N : Nat} {cs : List (List Int)} {wr : World} (h : PutR w0 base cb N cs wr) : Below base w0 wr := h.choose_spec.2.2.1

theorem cput_at {w0 : World} {base cb N : Nat} {cs : List (List Int)} {wr : World} (hP : PutR w0 base cb N cs wr) (hN : N ≤ 1000000) (hbw : base ≤ wr.heap.size) (xs : List Int) (n : Nat) (hn : n = xs.length) (h0 : 0 < n) (hl : n ≤ 1000) (m : Nat) (W : World) (hW : W = (wr.alloc (.cells (ints .i64 xs).toArray 3)).drewN m) (g : Nat) (hg : g = wr.heap.size) :
    Calls Try.prog 20 #[.slice (some ⟨g, 0, none⟩) n n, .pointer (some ⟨cb, 0, none⟩)] W fun e w' => e = .returned (.tuple #[]) ∧ PutR w0 base cb (N + 1) (cs ++ [xs]) w' := by
  subst hW hg
  exact cput_any (hP.drewN m) hN hbw xs _ rfl n hn h0 hl

def ClausesPost (w : World) (cs : List (List Int)) (e : Ending) (w' : World) : Prop := ∃ v : Value, e = .returned v ∧ Kd.S (Kd.slice 3 (Kd.int .i64)) 22 w' w.heap.size (fun _ => True) v cs ∧ Below w.heap.size w w'

set_option maxHeartbeats 4000000 in
set_option maxRecDepth 100000 in
theorem clauses_zero (A : Option Addr) (c : Nat) (l : List Int) (fv : Value) (w : World) (hC : IC w A l) (hl : l.length ≤ 60) (hb : ∀ x ∈ l, -1048576 ≤ x ∧ x ≤ 1048576) :
    Calls Try.prog 14 #[.slice A l.length c, .int .i64 0, fv] w (ClausesPost w (l.map fun x => [-x])) := by
  have HC := Lib.hid hC
  have HBd := Lib.hid hb
  have HT0 := Lib.hid (fun k (hk : k < l.length) => show (l.take (k + 1)).map (fun x => [-x]) = (l.take k).map (fun x => [-x]) ++ [[-(l.getD k 0)]] by rw [List.take_add_one, List.getD_eq_getElem?_getD, List.getElem?_eq_getElem hk, List.map_append]; rfl)
  have HI := Lib.hid (PutR.init (w0 := w) (w := w) (base := w.heap.size) (Below.refl _ _) (Nat.le_refl _))
  clear hC hb
  generalize hN : l.length = N at *
  have HN := Lib.hid hN
  clear hN
  go_enter Try.func14, Try.ntmps14
  go_wp2
  go_loopw [23] (fun i wr => ∃ k : Nat, k ≤ N ∧ i = .int .i64 k ∧ PutR w w.heap.size w.heap.size k ((l.take k).map fun x => [-x]) wr) (fun i _ => N - (intOf i).toNat)
  case atStart => exact ⟨0, Nat.zero_le _, rfl, HI.out⟩
  case round =>
    obtain ⟨k, hk, rfl, hr⟩ := hrel
    by_cases hlt : k < N
    · obtain ⟨ad, hA, hx⟩ := HC.out k (by rw [HN.out]; exact hlt)
      subst hA
      replace hx := (hr.below.cell (World.block_lt_of_cell? w _ hx)).trans hx
      have hxb := HBd.out (l.getD k 0) (by rw [List.getD_eq_getElem?_getD, List.getElem?_eq_getElem (by rw [HN.out]; exact hlt)]; exact List.getElem_mem _)
      have HTk := Lib.hid (HT0.out k hlt)
      have HP := Lib.hid hr
      have hbw := hr.below.size
      clear hr
      generalize l.getD k 0 = x at *
      obtain ⟨x1, x2⟩ := hxb
      go_wp2_with (first
        | (go_at_call 20; refine (cput_any HP.out (by omega) hbw [-x] _ rfl 1 rfl (by decide) (by decide)).mono ?_; rintro e w' ⟨rfl, hp⟩; have HP1 := Lib.hid hp; clear hp))
      go_roundw
      case rel => exact ⟨k + 1, by omega, by go_num, by rw [HTk.out]; exact HP1.out⟩
      case measure => simp [intOf]; omega
    · obtain rfl : k = N := by omega
      obtain ⟨v, h1, h2, h3, h4, h5⟩ := hr
      have hcell : wr.cell? ⟨w.heap.size, 0, none⟩ = some v := by unfold World.cell?; rw [h1]; rfl
      have HE := Lib.hid (show Kd.S (Kd.slice 3 (Kd.int .i64)) 22 wr w.heap.size (fun _ => True) v (l.map fun x => [-x]) by rw [← HN.out, List.take_length] at h2; exact Kd.S_mono h2 (fun _ _ => trivial))
      have HB := Lib.hid h3
      clear h1 h2 h3 h4 h5
      go_wp2
      go_ret
      exact ⟨v, rfl, HE.out, HB.out⟩

end Go.Proofs.Ytcaoobdbgdldaaa.Spr
