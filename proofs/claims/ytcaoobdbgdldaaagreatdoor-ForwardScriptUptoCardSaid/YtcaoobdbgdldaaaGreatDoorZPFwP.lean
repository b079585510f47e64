/- Part of the proof of ForwardScript: what the law uses of the text FwP. -/
import Derived.Test.YtcaoobdbgdldaaaGreatDoorZPFwI
namespace Go.Proofs.YtcaoobdbgdldaaaGreatDoor.Fwd
open Go.RowKit Go.Shelf Go.Maps Go.Proofs.YtcaoobdbgdldaaaGreatDoor.Lit Go.Proofs.YtcaoobdbgdldaaaGreatDoor.Spr
set_option linter.unusedVariables false
set_option linter.unusedSimpArgs false

theorem FwV.init {w w2 : World} (hb : Below w.heap.size w w2) : FwV w w.heap.size (w2.heap.size + 1) w2.heap.size 0 ⟨[], [], 0, false⟩ (.slice none 0 0) ((w2.alloc (.map #[] 0)).alloc (.cells #[.map (some w2.heap.size), .slice none 0 0, .int .i64 0, .bool false] 88)) := by
  have hs : (w2.alloc (.map #[] 0)).heap.size = w2.heap.size + 1 := by simp
  have hbz := hb.size
  have hblk : ((w2.alloc (.map #[] 0)).alloc (.cells #[.map (some w2.heap.size), .slice none 0 0, .int .i64 0, .bool false] 88)).heap[w2.heap.size + 1]? = some (Obj.cells #[.map (some w2.heap.size), .slice none 0 0, .int .i64 0, .bool false] 88 (0, 0)) := by
    have := heap_alloc_new (w2.alloc (.map #[] 0)) (.cells #[.map (some w2.heap.size), .slice none 0 0, .int .i64 0, .bool false] 88)
    rwa [hs] at this
  refine ⟨hblk, ⟨_, (World.ownsMap_made w2 _ _ _).alloc _, fun t => rfl⟩, AllR.nil _ _, (hb.alloc hbz _).alloc (by rw [hs]; omega) _, by omega, hbz, by simp; omega, ⟨Nat.le_refl _, Nat.le_refl _, by simp, by simp⟩, (KeepT.of_below hb).trans (.of_below (((Below.refl _ _).alloc (Nat.le_refl _) _).alloc (by simp) _)), ?_⟩
  refine ⟨by simp; omega, fun g hl _ _ _ => ?_, fun g hg => ?_⟩
  · exact ((hb.alloc hbz _).alloc (by rw [hs]; omega) _).block g hl
  · rw [rowOf_blk hblk] at hg; cases hg

def NewPost (w : World) (v : Int) (cs : List (List Int)) (e : Ending) (w' : World) : Prop :=
  if formedB v cs = true then ∃ b m, e = .returned (.tuple #[.pointer (some ⟨b, 0, none⟩), .int .i64 0]) ∧ FwR w w.heap.size b m cs.length (newW cs) w' else e = .returned (.tuple #[.pointer none, .int .i64 1]) ∧ Below w.heap.size w w'

set_option maxHeartbeats 4000000 in
set_option maxRecDepth 100000 in
theorem new_any (v : Int) (A : Option Addr) (c0 : Nat) (cs : List (List Int)) (w : World) (hC : RC w A cs) (hl : cs.length ≤ 2097152) (h8 : ∀ c ∈ cs, c.length ≤ 2097152) (hT : Tab w) :
    Calls Tryz.prog 18 #[.agg #[.int .i64 v, .slice A cs.length c0]] w (NewPost w v cs) := by
  have HFm := Lib.hid (fun (w2 : World) (hb : Below w.heap.size w w2) => cformed_any v A c0 cs w2 (hC.below hb) (by omega) (fun x hx => by have := h8 x hx; omega))
  have HW := Lib.hid (BoxW.init w v (.slice A cs.length c0))
  have hc0 := HW.out.2.1
  have hc1 := HW.out.2.2
  have HC := Lib.hid (fun k (hk : k < cs.length) (w2 : World) (hb : Below w.heap.size w w2) => (hC.below hb) k hk)
  have H8 := Lib.hid (fun k (hk : k < cs.length) => show (cs.getD k []).length ≤ 2097152 from h8 _ (by rw [List.getD_eq_getElem?_getD, List.getElem?_eq_getElem hk]; exact List.getElem_mem _))
  have HSn := Lib.hid (fun k (hk : k < cs.length) => show newW (cs.take (k + 1)) = putW (newW (cs.take k)) (cs.getD k []) by rw [← newW_snoc, List.take_add_one, List.getD_eq_getElem?_getD, List.getElem?_eq_getElem hk]; rfl)
  have HEnd := Lib.hid (show newW (cs.take cs.length) = newW cs by rw [List.take_length])
  have HT := Lib.hid (Lib.tabBelow_of_tabIs hT)
  have hmm := @run_makeMap Tryz.prog
  unfold NewPost
  clear hC h8 hT
  generalize formedB v cs = p at *
  generalize hn : cs.length = n at *
  clear hn
  cases p with
  | false =>
    simp only [Bool.false_eq_true, ↓reduceIte]
    go_enter Tryz.func18, Tryz.ntmps18
    go_wp2_with (first
      | (go_at_call 31; refine (HFm.out _ HW.out.1).mono ?_; rintro e w2 ⟨rfl, hb⟩; have HW2 := Lib.hid (HW.out.step hb); clear hb))
    go_ret2
    exact ⟨rfl, HW2.out.1⟩
  | true =>
    simp only [↓reduceIte]
    go_enter Tryz.func18, Tryz.ntmps18
    go_wp2_with (first
      | (go_at_call 31; refine (HFm.out _ HW.out.1).mono ?_; rintro e w2 ⟨rfl, hb⟩; have HW2 := Lib.hid (HW.out.step hb); have hc20 := HW2.out.2.1; have hc21 := HW2.out.2.2; have hlt2 : w.heap.size < w2.heap.size := World.block_lt_of_cell? _ _ hc20; have HI0 := (HW2.out.step (w3 := (w2.alloc (.map #[] 0)).alloc (.cells #[.map (some w2.heap.size), .slice none 0 0, .int .i64 0, .bool false] 88)) (((Below.refl _ _).alloc (Nat.le_refl _) _).alloc (by simp) _)); have hc40 := HI0.2.1; have hc41 := HI0.2.2; clear hb HI0))
    have HI := Lib.hid (FwV.init HW2.out.1)
    go_loopw [16] (fun i wr => ∃ k : Nat, k ≤ n ∧ i = .int .i64 k ∧ FwR w w.heap.size (w2.heap.size + 1) w2.heap.size k (newW (cs.take k)) wr) (fun i _ => n - (intOf i).toNat)
    case atStart => exact ⟨0, Nat.zero_le _, rfl, _, HI.out⟩
    case round =>
      obtain ⟨k, hk, rfl, hr⟩ := hrel
      by_cases hlt : k < n
      · obtain ⟨ad, A1, c1, hA, hx, hic⟩ := HC.out k hlt _ hr.base
        subst hA
        have h8k := H8.out k hlt
        have HS := Lib.hid (HSn.out k hlt)
        have HP := Lib.hid (put_any w w.heap.size (w2.heap.size + 1) w2.heap.size k (newW (cs.take k)) A1 c1 (cs.getD k []) wr hr hic (by omega) HT.out (by omega))
        clear hr hic
        generalize cs.getD k [] = c at *
        go_wp2_with (first
          | (go_at_call 46; refine HP.out.mono ?_; rintro e w3 ⟨rfl, hp⟩; have HR := Lib.hid hp; clear hp))
        go_roundw
        case rel => exact ⟨k + 1, by omega, by go_num, by rw [HS.out]; exact HR.out⟩
        case measure => simp [intOf]; omega
      · obtain rfl : k = n := by omega
        rw [HEnd.out] at hr
        have HR := Lib.hid hr
        clear hr
        go_wp2
        go_ret2
        exact ⟨_, _, rfl, HR.out⟩

end Go.Proofs.YtcaoobdbgdldaaaGreatDoor.Fwd
