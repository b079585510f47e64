/- Part of the proof of ForwardLasts: what the law uses of the text CnB. -/
import Derived.Test.YtcaoobdbgdldaaaGreatDoorZPCnP
import Derived.Test.YtcaoobdbgdldaaaGreatDoorProg
import Derived.RegionTactic
import Derived.Deep.DeepCutAuto
import Derived.Deep.CutBlock
import Derived.Deep.RegionWith
import Derived.Deep.QuietTactic
import Derived.BigQuiet
import Derived.RowKit3
import Derived.Below
import Derived.Lib.Hide
namespace Go.Proofs.YtcaoobdbgdldaaaGreatDoor.Cn
open Go.RowKit
set_option linter.unusedVariables false
set_option linter.unusedSimpArgs false

def ArrM (g : Nat) (l : List Bool) (w : World) : Prop := w.heap[g]? = some (Obj.cells (l.map Value.bool).toArray 113 (0, 0))
theorem ArrM.cell {g : Nat} {l : List Bool} {w : World} (h : ArrM g l w) {k : Nat} {b : Bool} (hk : l[k]? = some b) : w.cell? ⟨g, k, none⟩ = some (.bool b) ∧ w.frozen? ⟨g, k, none⟩ = false := by
  have h2 : w.heap[g]? = some (Obj.cells (l.map Value.bool).toArray 113 (0, 0)) := h
  refine ⟨?_, by simp [World.frozen?, h2]⟩
  unfold World.cell?
  rw [h2]
  simp [hk]
theorem ArrM.lt {g : Nat} {l : List Bool} {w : World} (h : ArrM g l w) : g < w.heap.size := (Array.getElem?_eq_some_iff.1 h).1
theorem ArrM.set {g : Nat} {l : List Bool} {w : World} (h : ArrM g l w) (k : Nat) (b : Bool) : ArrM g (l.set k b) (w.setCell ⟨g, k, none⟩ (.bool b)) := by
  have h2 : w.heap[g]? = some (Obj.cells (l.map Value.bool).toArray 113 (0, 0)) := h
  unfold ArrM
  simp [World.setCell, Array.getElem?_modify, h2, List.map_set]
theorem ArrM.drew {g : Nat} {l : List Bool} {w : World} (h : ArrM g l w) : ArrM g l w.drew := h
theorem set_at (k : Nat) (m : List Bool) (b : Bool) (hk : k < m.length) : (List.replicate k false ++ m.drop k).set k b = List.replicate k false ++ b :: m.drop (k + 1) := by
  rw [List.drop_eq_getElem_cons hk, List.set_append, if_neg (by simp), List.length_replicate, Nat.sub_self]
  rfl
theorem rep_succ (k : Nat) (m : List Bool) : List.replicate k false ++ false :: m.drop (k + 1) = List.replicate (k + 1) false ++ m.drop (k + 1) := by
  rw [List.replicate_succ', List.append_assoc]; rfl
theorem get_at (k : Nat) (m : List Bool) : (List.replicate k false ++ m.drop k)[k]? = m[k]? := by
  rw [List.getElem?_append_right (by simp)]
  simp

theorem grown_set {w wr : World} {g k : Nat} {u : Value} (h : w.grownBy wr (some g)) : w.grownBy (wr.setCell ⟨g, k, none⟩ u) (some g) :=
  ⟨h.os, h.tape, h.output, by have := h.size; simpa using this, fun i hi hne => by rw [Below.heap_setCell wr ⟨g, k, none⟩ u i (fun e => hne (by rw [e])), h.block i hi hne]⟩
theorem grown_drew {w wr : World} {r : Option Nat} (h : w.grownBy wr r) : w.grownBy wr.drew r := ⟨h.os, h.tape, h.output, h.size, h.block⟩

def NextPost (w : World) (g : Nat) (mb pad : List Bool) (e : Ending) (w' : World) : Prop := w.grownBy w' (some g) ∧ ((∃ m', nextL mb = some m' ∧ e = .returned (.bool true) ∧ ArrM g (m' ++ pad) w') ∨ (nextL mb = none ∧ e = .returned (.bool false) ∧ ArrM g (List.replicate mb.length false ++ pad) w'))

set_option maxHeartbeats 4000000 in
set_option maxRecDepth 100000 in
theorem next_any (g : Nat) (mb pad : List Bool) (w : World) (h : ArrM g (mb ++ pad) w) (h16 : mb.length + pad.length = 16) :
    Calls Tryz.prog 91 #[.pointer (some ⟨g, 0, none⟩), .int .i64 mb.length] w (NextPost w g mb pad) := by
  have HI := Lib.hid (show ArrM g (List.replicate 0 false ++ (mb ++ pad).drop 0) w from h)
  clear h
  have HG := Lib.hid (World.grownBy.refl w (some g))
  have HNo := Lib.hid (next_none mb)
  have HSp := Lib.hid (fun i => next_split i mb)
  have HLen := Lib.hid (show (mb ++ pad).length = 16 by rw [List.length_append]; exact h16)
  have HGet := Lib.hid (fun k (hk : k < mb.length) => show ∃ b, mb[k]? = some b ∧ (List.replicate k false ++ (mb ++ pad).drop k)[k]? = some b from ⟨mb[k], List.getElem?_eq_getElem hk, by rw [get_at, List.getElem?_append_left hk]; exact List.getElem?_eq_getElem hk⟩)
  have HSet := Lib.hid (fun k (hk : k < mb.length) b => set_at k (mb ++ pad) b (by rw [List.length_append]; omega))
  have HDr := Lib.hid (fun k (hk : k < mb.length) => show (mb ++ pad).drop (k + 1) = mb.drop (k + 1) ++ pad from by rw [List.drop_append_of_le_length (by omega)])
  have HEnd := Lib.hid (show List.replicate mb.length false ++ (mb ++ pad).drop mb.length = List.replicate mb.length false ++ pad by rw [List.drop_left])
  unfold NextPost
  generalize hn : mb.length = n at *
  have HLn := Lib.hid hn
  clear hn
  have hn16 : n ≤ 16 := by omega
  go_enter Tryz.func91, Tryz.ntmps91
  go_wp2
  go_loopw [7] (fun i wr => ∃ k : Nat, k ≤ n ∧ i = .int .i64 k ∧ w.grownBy wr (some g) ∧ ArrM g (List.replicate k false ++ (mb ++ pad).drop k) wr ∧ Hid (∀ j, j < k → mb[j]? = some true)) (fun i _ => n - (intOf i).toNat)
  case atStart => exact ⟨0, Nat.zero_le _, rfl, HG.out, HI.out, Lib.hid (fun j hj => absurd hj (by omega))⟩
  case round =>
    obtain ⟨k, hk, rfl, hg, ha, hb⟩ := hrel
    have HGr := Lib.hid hg
    have HAr := Lib.hid ha
    clear hg ha
    by_cases hlt : k < n
    · obtain ⟨b, hb1, hb2⟩ := HGet.out k hlt
      obtain ⟨hc, hf⟩ := HAr.out.cell hb2
      have hk0 : (0 : Int) ≤ (k : Int) := by omega
      have hk16 : (k : Int) < 16 := by omega
      have hA2 := (HAr.out.drew).set k (!b)
      rw [HSet.out k hlt] at hA2
      have HA2 := Lib.hid hA2
      clear hA2
      have hA3 : (wr.drew.setCell ⟨g, k, none⟩ (.bool (!b))).cell? ⟨g, k, none⟩ = some (.bool (!b)) := (HA2.out.cell (by rw [List.getElem?_append_right (by simp)]; simp)).1
      have HB1 := Lib.hid hb1
      have HG2 := Lib.hid (grown_set (k := k) (u := .bool (!b)) (grown_drew HGr.out))
      clear hb1 hb2
      have hcd : wr.drew.cell? ⟨g, k, none⟩ = some (.bool b) := hc
      have hfd : wr.drew.frozen? ⟨g, k, none⟩ = false := hf
      cases b with
      | true =>
        go_upto_region 4 with (fail)
        go_region
        all_goals
          go_wp2
          go_roundw
          case rel =>
            refine ⟨k + 1, by omega, by go_num, HG2.out, by rw [← rep_succ]; exact HA2.out, Lib.hid (fun j hj => ?_)⟩
            rcases Nat.lt_or_ge j k with h | h
            · exact hb.out j h
            · obtain rfl : j = k := by omega
              exact HB1.out
          case measure => simp [intOf]; omega
      | false =>
        go_upto_region 4 with (fail)
        go_region
        all_goals
          go_wp2
          go_ret
          refine ⟨HG2.out, .inl ⟨_, HSp.out k hb.out HB1.out, rfl, ?_⟩⟩
          rw [List.append_assoc, List.cons_append, ← HDr.out k hlt]
          exact HA2.out
    · obtain rfl : k = n := by omega
      have hA2 := HAr.out
      rw [HEnd.out] at hA2
      have HA2 := Lib.hid hA2
      clear hA2
      go_wp2
      go_ret
      exact ⟨HGr.out, .inr ⟨HNo.out (fun j hj => hb.out j hj), rfl, HA2.out⟩⟩

end Go.Proofs.YtcaoobdbgdldaaaGreatDoor.Cn
