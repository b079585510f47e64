/- Part of the proof of TrimRight: what the law uses of the text TrI. -/
import Derived.Test.YtfljggodnnpeiaaZRTrH
import Derived.Test.YtfljggodnnpeiaaZRShelfE
import Derived.Laws.CopyOwn
import Derived.Outline
namespace Go.Proofs.Ytfljggodnnpeiaa.Trm
open Go.RowKit Go.Maps Go.Shelf Go.Proofs Go.Proofs.Ytfljggodnnpeiaa.Lit Go.Proofs.Ytfljggodnnpeiaa.Spr
set_option linter.unusedVariables false
set_option linter.unusedSimpArgs false

theorem infoB : (Try.prog.info? 4).map (fun i => (i.zero, i.size, i.bytes)) = some (some (.bool false), 1, 1) := by kernel_rfl
theorem made_bools (n : Nat) : (madeCells (Value.bool false).cells (n * 1)).toList = bls (List.replicate n false) := by
  show (madeCells #[Value.bool false] (n * 1)).toList = _
  refine List.ext_getElem (by simp [madeCells, bls]) fun i h1 h2 => ?_
  simp [madeCells, Nat.mod_one, bls]
def trF (n k : Nat) : List Value := bls (List.replicate k true ++ List.replicate (n - k) false)
theorem trF_len {n k : Nat} (h : k ≤ n) : (trF n k).length = n := by simp [trF, bls]; omega
theorem trF_zero (n : Nat) : trF n 0 = bls (List.replicate n false) := by simp [trF]
theorem trF_all (n : Nat) : trF n n = bls (List.replicate n true) := by simp [trF]
theorem trF_splice {n k c : Nat} (h : k + c ≤ n) : splice (trF n k) k (bls (List.replicate c true)) = trF n (k + c) := by
  have e1 : (trF n k).take k = bls (List.replicate k true) := by unfold trF bls; rw [← List.map_take, List.take_append_of_le_length (by simp), List.take_of_length_le (by simp)]
  have e2 : (trF n k).drop (k + c) = bls (List.replicate (n - (k + c)) false) := by
    unfold trF bls
    rw [← List.map_drop, List.drop_append, List.drop_of_length_le (by simp), List.nil_append, List.length_replicate, List.drop_replicate]
    congr 2
    omega
  unfold splice
  rw [show (bls (List.replicate c true)).length = c by simp [bls], e1, e2]
  unfold trF bls
  rw [← List.map_append, ← List.map_append]
  congr 1
  rw [← List.append_assoc, List.replicate_append_replicate]
theorem cell_trF {w : World} {g : Nat} {cs : List Value} {t : TypeId} (h : w.heap[g]? = some (.cells cs.toArray t (0, 0))) {j : Nat} {v : Value} (hj : cs[j]? = some v) : w.cell? ⟨g, 0 + j, none⟩ = some v := by
  rw [Nat.zero_add]
  simp [World.cell?, h]
  exact hj
theorem trF_get {n k i : Nat} (h : i < k) : (trF n k)[i]? = some (.bool true) := by
  unfold trF bls
  rw [List.getElem?_map, List.getElem?_append_left (by simpa using h), List.getElem?_replicate, if_pos h]; rfl

def RepPost (w : World) (n : Nat) (e : Ending) (w' : World) : Prop := ∃ v, e = .returned v ∧ w'.ownsRow w.heap.size 4 1 v n (bls (List.replicate n true)) ∧ Below w.heap.size w w'

set_option maxHeartbeats 4000000 in
set_option maxRecDepth 100000 in
theorem repeat_any (g : Nat) (n : Nat) (w : World) (hx : w.cell? ⟨g, 0, none⟩ = some (.bool true)) (h0 : 1 ≤ n) (hn : n ≤ 4194304) :
    Calls Try.prog 95 #[.slice (some ⟨g, 0, none⟩) 1 1, .int .i64 n] w (RepPost w n) := by
  obtain ⟨iB, hiB, zB1, zB2, zB3⟩ := info_parts infoB
  have HiB := Lib.hid (And.intro hiB (And.intro zB1 (And.intro zB2 zB3)))
  clear hiB zB1 zB2 zB3
  have hm0 : ∀ w, Calls Try.prog 132 #[.int .u64 1, .int .u64 n] w fun e w' => e = .returned (.tuple #[.int .u64 0, .int .u64 n]) ∧ w = w' := fun w => by
    have h := Try.bits_Mul 1 n (by omega) (by omega) w
    rw [show 1 * n / 18446744073709551616 = 0 by omega, show 1 * n % 18446744073709551616 = n by omega] at h
    exact h.mono fun e w' h => ⟨h.1, h.2.symm⟩
  have HM := Lib.hid hm0
  have HX := Lib.hid hx
  have hsz : (Try.prog.info? 4).map (·.size) = some 1 := by rw [HiB.out.1, Option.map_some, HiB.out.2.2.1]
  have Hsz := Lib.hid hsz
  clear hm0 hsz
  go_enter Try.func95, Try.ntmps95
  go_wp2_with (first
    | (go_at_call 132; refine (HM.out _).mono ?_; rintro e w' ⟨rfl, rfl⟩)
    | (at_make; refine wpList_make_full _ rfl _ _ 124 rfl w.heap.size 4 iB (.bool false) 1 Try.underlying124 HiB.out.1 HiB.out.2.1 HiB.out.2.2.1 _ _ _ _ n rfl rfl rfl rfl (by rw [HiB.out.2.2.2]; omega) (by unfold maxLen; omega) (Nat.le_refl _) ?_; intro w1 hown1 hgrow1; rw [made_bools] at hown1; have HO1 := Lib.hid hown1; have HB1 := Lib.hid ((Below.refl w.heap.size w).grown hgrow1 (Nat.le_refl _) (fun k hk => by cases hk)); clear hown1 hgrow1; refine Hid.out ?_))
  have hbk : w1.heap[w.heap.size]? = some (.cells (trF n 0).toArray 4 (0, 0)) := by
    rw [trF_zero]
    rcases HO1.out.2 with ⟨h0, _⟩ | ⟨g', cap, cur, hv, _, hh, _, _, hs, ht⟩
    · cases h0
    · injection hv with e1 _ e3
      injection e1 with e1
      injection e1 with e1
      subst e1 e3
      rw [hh]
      congr 2
      apply Array.ext'
      rw [← ht]
      simp only [Nat.mul_one] at hs ⊢
      exact (List.take_of_length_le (by simp [hs])).symm
  have HBk := Lib.hid hbk
  have HX1 := Lib.hid ((HB1.out.cell (World.block_lt_of_cell? w _ hx)).trans hx)
  clear hbk
  refine Lib.hid ?_
  go_wp2_with (first
    | (refine wpList_copy_splice rfl _ _ 124 124 rfl 4 Try.underlying124 Hsz.out (some ⟨w.heap.size, 0, none⟩) (some ⟨g, 0, none⟩) n n 1 1 rfl rfl w.heap.size 0 (trF n 0) 4 HBk.out (bls [true]) (by simp [bls, Nat.min_def]; omega) (fun hp => ⟨rfl, _, rfl, fun j v hj => by
        cases j with
        | zero => simp [bls] at hj; subst hj; rw [Addr.add_lit]; exact HX1.out
        | succ j => simp [bls] at hj⟩) (by rw [trF_len (by omega)]; simp [bls]; omega) (by simp [bls, Value.oneCell']) w.heap.size w HB1.out (Nat.le_refl _) ?_; intro w2 HG2 hB2; have HB2 := Lib.hid hB2; clear hB2))
  have hg2 : w2.heap[w.heap.size]? = some (.cells (trF n 1).toArray 4 (0, 0)) := by
    have h := HG2.out
    rw [show bls [true] = bls (List.replicate 1 true) from rfl, trF_splice (by omega), Nat.zero_add] at h
    exact h
  have HG3 := Lib.hid hg2
  clear hg2
  go_loopw [8] (fun i wr => ∃ k : Nat, 1 ≤ k ∧ k ≤ n ∧ i = .int .i64 k ∧ Hid (wr.heap[w.heap.size]? = some (.cells (trF n k).toArray 4 (0, 0))) ∧ Hid (Below w.heap.size w wr)) (fun i _ => n - (intOf i).toNat)
  case atStart => exact ⟨1, Nat.le_refl _, h0, by first | rfl | (simp [goInt, bls]; done), HG3.out, HB2.out⟩
  case round =>
    obtain ⟨k, hk1, hk, rfl, hb, hbe⟩ := hrel
    by_cases hlt : k < n
    · obtain ⟨c, hc⟩ : ∃ c, Nat.min k (n - k) = c := ⟨_, rfl⟩
      have hc1 : 1 ≤ c ∧ c ≤ k ∧ k + c ≤ n ∧ (c = k ∨ c = n - k) := by rw [← hc]; simp only [Nat.min_def]; split <;> omega
      have Hc := Lib.hid hc
      have HSp := Lib.hid (trF_splice (n := n) (k := k) (c := c) (by omega))
      have hne : ¬ (n = k) := by omega
      have hcl : (bls (List.replicate c true)).length = c := by simp [bls]
      have Hcl := Lib.hid hcl
      have HGet := Lib.hid (fun j (v : Value) (hj : (bls (List.replicate c true))[j]? = some v) => show (trF n k)[j]? = some v from by
        have hjc : j < c := by have := (List.getElem?_eq_some_iff.1 hj).1; rw [hcl] at this; exact this
        have hv : v = .bool true := by unfold bls at hj; rw [List.getElem?_map, List.getElem?_replicate, if_pos hjc] at hj; cases hj; rfl
        subst hv; exact trF_get (by omega))
      clear hc hcl
      go_wp2
      go_region_law (refine step_copy_splice rfl (.tmp 41) (.tmp 44) 124 124 rfl 4 Try.underlying124 Hsz.out (some ⟨w.heap.size, k, none⟩) (some ⟨w.heap.size, 0, none⟩) (n - k) (n - k) k n (by simp [Act.eval, Act.put]) (by simp [Act.eval, Act.put]) w.heap.size k (trF n k) 4 hb.out (bls (List.replicate c true)) (by rw [Hcl.out, ← Hc.out]) (fun _ => ⟨rfl, _, rfl, fun j v hj => by rw [Addr.add_lit]; exact cell_trF hb.out (HGet.out j v hj)⟩) (by rw [Hcl.out, trF_len (by omega)]; omega) (by simp [bls, Value.oneCell']) w.heap.size w (by first | exact hbe.out | exact hbe.out.drew | exact hbe.out.drew.drew | exact hbe.out.drew.drew.drew) (Nat.le_refl _) ?_; intro w3 HG4 hB4)
      have hg4 := HG4.out
      rw [HSp.out] at hg4
      rw [Hcl.out]
      clear HG4
      have HG5 := Lib.hid hg4
      have HB4 := Lib.hid hB4
      clear hg4 hB4
      go_simp
      have hwr : IntKind.i64.wrap ((k : Int) + c) = ((k + c : Nat) : Int) := by simp [IntKind.wrap, IntKind.bits, IntKind.signed]; omega
      rw [hwr]
      refine ⟨?_, ?_⟩
      · exact ⟨_, _, _, _, _, _, _, _, _, _, _, _, _, _, ⟨k + c, by omega, by omega, rfl, HG5.out, HB4.out⟩, rfl⟩
      · simp [intOf]; omega
    · obtain rfl : k = n := by omega
      have HF := Lib.hid hb.out
      have HBe := Lib.hid hbe.out
      clear hb hbe
      go_wp2
      go_ret
      refine ⟨_, rfl, ⟨by simp [bls], .inr ⟨w.heap.size, k, (trF k k).toArray, rfl, Nat.le_refl _, HF.out, Nat.le_refl _, by unfold maxLen; omega, ?_, ?_⟩⟩, HBe.out⟩
      · simp [trF_len]
      · rw [trF_all]; simp [bls]

set_option maxHeartbeats 4000000 in
set_option maxRecDepth 100000 in
theorem repeat_zero (g : Nat) (w : World) :
    Calls Try.prog 95 #[.slice (some ⟨g, 0, none⟩) 1 1, .int .i64 0] w (RepPost w 0) := by
  obtain ⟨iB, hiB, zB1, zB2, zB3⟩ := info_parts infoB
  have HiB := Lib.hid (And.intro hiB (And.intro zB1 (And.intro zB2 zB3)))
  clear hiB zB1 zB2 zB3
  have hm0 : ∀ w, Calls Try.prog 132 #[.int .u64 1, .int .u64 0] w fun e w' => e = .returned (.tuple #[.int .u64 0, .int .u64 0]) ∧ w = w' := fun w => by
    have h := Try.bits_Mul 1 0 (by omega) (by omega) w
    exact h.mono fun e w' h => ⟨h.1, h.2.symm⟩
  have HM := Lib.hid hm0
  have hsz : (Try.prog.info? 4).map (·.size) = some 1 := by rw [HiB.out.1, Option.map_some, HiB.out.2.2.1]
  have Hsz := Lib.hid hsz
  clear hm0 hsz
  go_enter Try.func95, Try.ntmps95
  go_wp2_with (first
    | (go_at_call 132; refine (HM.out _).mono ?_; rintro e w' ⟨rfl, rfl⟩)
    | (at_make; refine wpList_make_full _ rfl _ _ 124 rfl w.heap.size 4 iB (.bool false) 1 Try.underlying124 HiB.out.1 HiB.out.2.1 HiB.out.2.2.1 _ _ _ _ 0 rfl rfl rfl rfl (by rw [HiB.out.2.2.2]; omega) (by unfold maxLen; omega) (Nat.le_refl _) ?_; intro w1 hown1 hgrow1; rw [made_bools] at hown1; have HO1 := Lib.hid hown1; have HB1 := Lib.hid ((Below.refl w.heap.size w).grown hgrow1 (Nat.le_refl _) (fun k hk => by cases hk)); clear hown1 hgrow1)
    | (refine wpList_copy_nothing rfl _ _ 124 124 rfl 4 Try.underlying124 Hsz.out (some ⟨w.heap.size, 0, none⟩) (some ⟨g, 0, none⟩) 0 0 1 1 rfl rfl rfl ?_))
  go_loopw [8] (fun i wr => i = .int .i64 0 ∧ Hid (wr.ownsRow w.heap.size 4 1 (.slice (some ⟨w.heap.size, 0, none⟩) 0 0) 0 (bls (List.replicate 0 false))) ∧ Hid (Below w.heap.size w wr)) (fun i _ => 0)
  case atStart => exact ⟨rfl, HO1.out, HB1.out⟩
  case round =>
    obtain ⟨rfl, HO2, HB2⟩ := hrel
    go_wp2
    go_ret
    exact ⟨_, rfl, HO2.out, HB2.out⟩
end Go.Proofs.Ytfljggodnnpeiaa.Trm
