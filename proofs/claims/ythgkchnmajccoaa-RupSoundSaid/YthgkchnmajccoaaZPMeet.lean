/- Part of the proof of RupSound: what the law uses of the text Meet. -/
import Derived.Test.YthgkchnmajccoaaZPUD
import Derived.Defers
import Derived.Recover
import Derived.WalkSmall
namespace Go.Proofs.Ythgkchnmajccoaa.Spr
open Go.RowKit Go.Maps Go.Proofs.Ythgkchnmajccoaa.Lit
set_option linter.unusedVariables false

def negL (c : List Int) : List Int := c.map fun x => -x
theorem negL_len (c : List Int) : (negL c).length = c.length := by simp [negL]
theorem negL_take {c : List Int} {k : Nat} (h : k < c.length) : (negL c).take (k + 1) = (negL c).take k ++ [-(c.getD k 0)] := by
  rw [List.take_succ_eq_append_getElem (by rw [negL_len]; exact h)]
  congr 2
  unfold negL
  rw [List.getElem_map, List.getD_eq_getElem?_getD, List.getElem?_eq_getElem h]
  rfl
def clashV : Value := .iface 50 (.agg #[])
def MeetPost (w : World) (b : Bool) (e : Ending) (w' : World) : Prop :=
  e = (if b = true then .panicked [{ v := clashV, recovered := false }] else .returned (.tuple #[])) ∧ Below w.heap.size w w'

set_option maxHeartbeats 4000000 in
set_option maxRecDepth 100000 in
theorem meet_any (v : Int) (A : Option Addr) (c0 : Nat) (cs : List (List Int)) (Af : Option Addr) (cf : Nat) (c : List Int) (w : World) (hC : RC w A cs) (hF : IC w Af c) (hS : Fits cs c) (hfm : ∀ l ∈ c, fm l = true) :
    Calls Try.prog 25 #[.agg #[.int .i64 v, .slice A cs.length c0], .slice Af c.length cf] w (MeetPost w (closeR v cs (negL c)).2.1) := by
  have HS2 := Lib.hid (show Fits cs (negL c) from ⟨hS.1, hS.2.1, by rw [negL_len]; exact hS.2.2⟩)
  have hn : c.length ≤ 17592186044416 := hS.2.2
  have hHB : Below w.heap.size w (w.alloc (.cells #[.int .i64 v, .slice A cs.length c0] 24)) := (Below.refl _ _).alloc (Nat.le_refl _) _
  have HB := Lib.hid hHB
  have HCl := Lib.hid (fun (w2 : World) (hb : Below w.heap.size w w2) (A2 : Option Addr) (c2 : Nat) (h2 : IC w2 A2 (negL c)) => close_any v A c0 cs A2 c2 (negL c) w2 (hC.below hb) h2 HS2.out)
  have HF := Lib.hid hF
  have Hfm := Lib.hid (fun k (hk : k < c.length) => fm_true (hfm (c.getD k 0) (by rw [List.getD_eq_getElem?_getD, List.getElem?_eq_getElem hk]; exact List.getElem_mem _)))
  have hsz : (w.alloc (.cells #[.int .i64 v, .slice A cs.length c0] 24)).heap.size = w.heap.size + 1 := by simp
  have hc0 : (w.alloc (.cells #[.int .i64 v, .slice A cs.length c0] 24)).cell? ⟨w.heap.size, 0, none⟩ = some (.int .i64 v) := by simp
  have hc1 : (w.alloc (.cells #[.int .i64 v, .slice A cs.length c0] 24)).cell? ⟨w.heap.size, 1, none⟩ = some (.slice A cs.length c0) := by simp
  have HC1 := Lib.hid (And.intro hc0 hc1)
  have HSz := Lib.hid hsz
  have HNL := Lib.hid (negL_len c)
  have HTk := Lib.hid (fun k (hk : k < c.length) => negL_take hk)
  clear hc0 hc1 hC hF hS hfm hHB hsz
  unfold ClosePost at HCl
  unfold MeetPost
  obtain ⟨i3, hi3, z31, z32, z33⟩ := info_parts info3
  have Hi3 := Lib.hid (And.intro hi3 (And.intro z31 (And.intro z32 z33)))
  clear hi3 z31 z32 z33
  generalize closeR v cs (negL c) = R at *
  obtain ⟨r1, b, r3⟩ := R
  dsimp only at *
  generalize hN : c.length = N at *
  have HN := Lib.hid hN
  clear hN
  go_enter Try.func25, Try.ntmps25
  go_wp2_with (first
    | (at_make; refine wpList_make_own _ rfl _ _ 25 rfl (w.heap.size + 1) 3 i3 (.int .i64 0) 1 Try.underlying25 Hi3.out.1 Hi3.out.2.1 Hi3.out.2.2.1 _ _ _ N rfl rfl rfl (by rw [Hi3.out.2.2.2]; omega) (by unfold maxLen; omega) (by simp) ?_; intro w0 hown0 hgrow0; have HW := Lib.hid hown0; have HB0 := Lib.hid ((Below.refl (w.heap.size + 1) _).grown hgrow0 (by rw [HSz.out]; exact Nat.le_refl _) (fun _ h => by cases h)); clear hown0 hgrow0))
  go_loopw [4, 15] (fun u i wr => ∃ k : Nat, k ≤ N ∧ i = .int .i64 k ∧ Hid (wr.ownsRow (w.heap.size + 1) 3 1 u (ints .i64 ((negL c).take k)).length (ints .i64 ((negL c).take k))) ∧ Hid (Below (w.heap.size + 1) (w.alloc (.cells #[.int .i64 v, .slice A cs.length c0] 24)) wr)) (fun _ i _ => N - (intOf i).toNat)
  case atStart => exact ⟨0, Nat.zero_le _, rfl, by have := HW.out; rw [HSz.out] at this; exact this, HB0.out⟩
  case round =>
    obtain ⟨k, hk, rfl, ho, hb⟩ := hrel
    have hbase : w.heap.size + 1 ≤ wr.heap.size := by have := hb.out.size; rw [HSz.out] at this; exact this
    have hfl : ((negL c).take k).length ≤ k := List.length_take_le _ _
    by_cases hlt : k < N
    · obtain ⟨ad, hA, hx⟩ := HF.out k (by rw [HN.out]; exact hlt)
      replace hx := (hb.out.cell (by have := World.block_lt_of_cell? w _ hx; omega)).trans ((HB.out.cell (World.block_lt_of_cell? w _ hx)).trans hx)
      subst hA
      obtain ⟨l1, l2, l3⟩ := Hfm.out k hlt
      have HT := Lib.hid (HTk.out k hlt)
      generalize (negL c).take k = ys at *
      generalize c.getD k 0 = l at *
      go_wp2_with (first
        | (at_builtin; refine wpList_append_own_at _ rfl (.tmp 19) (.tmp 22) 25 rfl (w.heap.size + 1) 3 i3 (.int .i64 0) 1 8 Try.underlying25 Hi3.out.1 Hi3.out.2.1 Hi3.out.2.2.1 Hi3.out.2.2.2 rfl (by decide) _ _ _ rfl (ho.out.alloc _) ⟨wr.heap.size, 0, none⟩ 1 1 [.int .i64 (-l)] rfl rfl (cell_one_new _ _ _) (by simp [Value.oneCell']) ?_ ?_ ?_ ?_; (rw [ints_len]; unfold maxLen; omega); (rw [ints_len]; omega); (exact base_alloc hbase _); intro v1 w1 hown1 hgrow1 hnil1 hat1; have HO := Lib.hid (row_snoc (x := -l) hown1); have HB1 := Lib.hid (hb.out.trans (below_push _ hgrow1 hbase (own_base ho.out))); clear hown1 hgrow1 hnil1 hat1))
      go_roundw
      case rel => exact ⟨k + 1, by omega, by go_num, by rw [HT.out]; exact HO.out, HB1.out⟩
      case measure => simp [intOf]; omega
    · obtain rfl : k = N := by omega
      rw [List.take_of_length_le (by rw [HNL.out]; exact Nat.le_refl _)] at ho
      have hc0 := (hb.out.cell (p := ⟨w.heap.size, 0, none⟩) (by simp)).trans HC1.out.1
      have hc1 := (hb.out.cell (p := ⟨w.heap.size, 1, none⟩) (by simp)).trans HC1.out.2
      obtain ⟨A4, c4, hu, hi4⟩ := own_IC ho.out
      rw [HNL.out] at hu
      subst hu
      have HBw := Lib.hid (HB.out.trans (hb.out.mono (Nat.le_succ _)))
      have HCa := Lib.hid (HCl.out wr HBw.out A4 c4 hi4)
      rw [HNL.out] at HCa
      clear hi4
      cases b with
      | true =>
        go_wp2_with (first
          | (go_at_call 34; refine HCa.out.mono ?_; rintro e w5 ⟨u5, rfl, ho5, hb5⟩; have HB5 := Lib.hid (HBw.out.trans (hb5.mono HBw.out.size)); clear ho5 hb5))
        exact ⟨rfl, rfl, HB5.out⟩
      | false =>
        go_wp2_with (first
          | (go_at_call 34; refine HCa.out.mono ?_; rintro e w5 ⟨u5, rfl, ho5, hb5⟩; have HB5 := Lib.hid (HBw.out.trans (hb5.mono HBw.out.size)); clear ho5 hb5))
        go_end0
        exact ⟨rfl, HB5.out⟩

end Go.Proofs.Ythgkchnmajccoaa.Spr
