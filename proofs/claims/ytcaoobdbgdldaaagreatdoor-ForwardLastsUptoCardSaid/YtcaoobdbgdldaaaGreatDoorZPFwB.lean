/- Part of the proof of ForwardLasts: what the law uses of the text FwB. -/
import Derived.Test.YtcaoobdbgdldaaaGreatDoorZPFwA
import Derived.Test.YtcaoobdbgdldaaaGreatDoorZPShelfC
import Derived.Lib.AppendIntMem
import Derived.Lib.Slices
import Derived.Lib.Hide
import Derived.Laws.IdiomStrings
import Derived.Laws.BytesArg
import Derived.OwnWalk
import Derived.WalkKit
import Derived.BigCall
namespace Go.Proofs.YtcaoobdbgdldaaaGreatDoor.Fwd
open Go.RowKit Go.Shelf Go.Proofs.YtcaoobdbgdldaaaGreatDoor.Lit Go.Proofs.YtcaoobdbgdldaaaGreatDoor.Spr
set_option linter.unusedVariables false
set_option linter.unusedSimpArgs false

def Tab (w : World) : Prop := Lib.TabIs Tryz.prog w "internal/strconv.uint64pow10" .u64 Lib.pow10Tab
theorem Tab.below {w w1 : World} (h : Tab w) (hb : Below w.heap.size w w1) : Tab w1 := Lib.tabBelow_of_tabIs h w1 hb

theorem infoByte : (Tryz.prog.info? 5).map (fun i => (i.zero, i.size, i.bytes)) = some (some (.int .u8 0), 1, 1) := by kernel_rfl

theorem appendInt (B n : Nat) (i : Int) (h0 : -9223372036854775808 ≤ i) (h1 : i ≤ 9223372036854775807) (sv : Value) (xs : List Value) (w : World) (hown : w.ownsRow B 5 1 sv n xs) (hBw : B ≤ w.heap.size) (hlim : n + 21 ≤ 140737488355328) (htab : Lib.TabBelow Tryz.prog B w "internal/strconv.uint64pow10" .u64 Lib.pow10Tab) :
    Calls Tryz.prog 99 #[sv, .int .i64 i, .int .i64 10] w fun e w' => ∃ v', e = .returned v' ∧ w'.ownsRow B 5 1 v' (n + (Lib.itoa i).length) (xs ++ Lib.byteCells (Lib.itoa i)) ∧ Below B w w' ∧ Lib.OthersKept 5 none w w' := Any.strconv_AppendInt_10 Tryz.laysAI B n i h0 h1 sv xs w hown hBw hlim htab

theorem bytes_back (w : World) (B : Nat) (v : Value) (l : List UInt8) (hown : w.ownsRow B 5 1 v l.length (Lib.byteCells l)) :
    (convert 118 9 v).run Tryz.prog w = .ok (.string ⟨l.toArray⟩) w := by
  rcases hown.2 with ⟨rfl, h0⟩ | ⟨g, cap, cur, rfl, -, -, -, -, -, -⟩
  · have : l = [] := List.length_eq_zero_iff.1 h0
    subst this
    exact run_convert_bytes_nil (P := Tryz.prog) (w := w) 118 5 Tryz.underlying118 Tryz.underlying5 0 0 9 Tryz.underlying9
  · exact run_convert_bytes_back (P := Tryz.prog) w 118 9 5 ⟨g, 0, none⟩ cap l Tryz.underlying118 Tryz.underlying5 Tryz.underlying9 (fun j hj => hown.cells (g := g) rfl j _ (by simp [Lib.byteCells, hj]))

set_option maxHeartbeats 4000000 in
set_option maxRecDepth 100000 in
theorem text_any (A : Option Addr) (c : Nat) (xs : List Int) (w : World) (hC : IC w A xs) (hl : xs.length ≤ 2097152) (hx : ∀ x ∈ xs, fm x = true) (hT : Tab w) :
    Calls Tryz.prog 66 #[.slice A xs.length c] w fun e w' => e = .returned (.string ⟨(txt xs).toArray⟩) ∧ Below w.heap.size w w' := by
  obtain ⟨i0, hi, hz0, hz1, hz2⟩ := info_parts infoByte
  have HIn := Lib.hid (And.intro hi (And.intro hz0 (And.intro hz1 hz2)))
  have HT := Lib.hid (Lib.tabBelow_of_tabIs hT)
  have HC := Lib.hid (fun n (hn : n < xs.length) (w2 : World) (hb2 : Below w.heap.size w w2) => (hC.below hb2) n hn)
  have HBd := Lib.hid (fun n (hn : n < xs.length) => show -1048576 ≤ xs.getD n 0 ∧ xs.getD n 0 ≤ 1048576 from (fm_true (hx (xs.getD n 0) (by rw [List.getD_eq_getElem?_getD, List.getElem?_eq_getElem hn]; exact List.getElem_mem _))).2)
  have HLen := Lib.hid (fun k => show (txt (xs.take k)).length ≤ 22 * k by
    have := txt_len (B := 0) (xs.take k) (fun x hx2 => by have := fm_true (hx x (List.mem_of_mem_take hx2)); omega)
    have := List.length_take_le k xs
    omega)
  have HSn := Lib.hid (fun k (hk : k < xs.length) => show txt (xs.take (k + 1)) = txt (xs.take k) ++ Lib.itoa (xs.getD k 0) ++ [32] by
    rw [← txt_snoc, List.take_add_one, List.getD_eq_getElem?_getD, List.getElem?_eq_getElem hk]; rfl)
  have HEnd := Lib.hid (show txt (xs.take xs.length) = txt xs by rw [List.take_length])
  clear hC hx hT hi hz0 hz1 hz2
  generalize hN : xs.length = N at *
  clear hN
  go_enter Tryz.func66, Tryz.ntmps66
  go_wp2
  go_loopw [3, 8] (fun b i wr => ∃ k : Nat, k ≤ N ∧ i = .int .i64 k ∧ wr.ownsRow w.heap.size 5 1 b (txt (xs.take k)).length (Lib.byteCells (txt (xs.take k))) ∧ Below w.heap.size w wr) (fun _ i _ => N - (intOf i).toNat)
  case atStart => exact ⟨0, Nat.zero_le _, rfl, World.ownsRow_nil _ _ _ _, Below.refl _ _⟩
  case round =>
    obtain ⟨k, hk, rfl, hown, hb⟩ := hrel
    by_cases hlt : k < N
    · obtain ⟨ad, hA, hx⟩ := HC.out k hlt _ hb
      subst hA
      obtain ⟨b0, b1⟩ := HBd.out k hlt
      have hlen := HLen.out k
      have HS := Lib.hid (HSn.out k hlt)
      have hbz := hb.size
      have HO := Lib.hid hown
      have HB := Lib.hid hb
      clear hown hb
      generalize hx0 : xs.getD k 0 = x at *
      clear hx0
      have hil := Lib.itoa_length_le x (by omega) (by omega)
      go_wp2_with (first
        | (go_at_call 99; refine (appendInt w.heap.size _ x (by omega) (by omega) _ _ _ HO.out hbz (by omega) (HT.out.on HB.out)).mono ?_; rintro e w1 ⟨v1, rfl, hown1, hnx1, -⟩; refine Hid.out ?_))
      refine Lib.hid ?_
      have hz1 := hnx1.size
      have HO1 := Lib.hid hown1
      have HN1 := Lib.hid hnx1
      clear hown1 hnx1
      go_wp2_with (first
        | (at_builtin; refine wpList_append_own _ rfl _ _ 118 rfl w.heap.size 5 i0 (.int .u8 0) 1 1 Tryz.underlying118 HIn.out.1 HIn.out.2.1 HIn.out.2.2.1 HIn.out.2.2.2 rfl (by decide) _ _ _ rfl (HO1.out.alloc _) ⟨w1.heap.size, 0, none⟩ 1 1 [Value.int .u8 32] rfl rfl (by intro j u' hj; match j, hj with | 0, hj => simp at hj; subst hj; simp [Addr.add]) (by intro u' hu'; simp at hu'; subst hu'; rfl) (by unfold maxLen; omega) (by omega) (by simp; omega) ?_; intro v2 w2 hown2 hgrow2 _; have HO2 := Lib.hid hown2; have HN2 := Lib.hid ((HN1.out.alloc (by omega) _).grown hgrow2 (by simp; omega) (fun k hk => (HO1.out.lt k hk).1)); clear hown2 hgrow2))
      go_roundw
      case rel =>
        refine ⟨k + 1, by omega, by go_num, ?_, HB.out.trans HN2.out⟩
        rw [HS.out]
        have e1 : (txt (xs.take k) ++ Lib.itoa x ++ [32]).length = (txt (xs.take k)).length + (Lib.itoa x).length + 1 := by rw [List.length_append, List.length_append]; rfl
        have e2 : Lib.byteCells (txt (xs.take k) ++ Lib.itoa x ++ [32]) = Lib.byteCells (txt (xs.take k)) ++ Lib.byteCells (Lib.itoa x) ++ [Value.int .u8 32] := by simp [Lib.byteCells]
        rw [e1, e2]
        exact HO2.out
      case measure => simp [intOf]; omega
    · obtain rfl : k = N := by omega
      rw [HEnd.out] at hown
      have HB := Lib.hid hb
      clear hb
      have hcv := bytes_back wr _ _ _ hown
      clear hown
      go_wp2
      go_ret
      exact ⟨rfl, HB.out⟩

end Go.Proofs.YtcaoobdbgdldaaaGreatDoor.Fwd
