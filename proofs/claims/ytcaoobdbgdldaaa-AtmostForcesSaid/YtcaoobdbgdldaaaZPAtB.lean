/- Part of the proof of AtmostForces: what the law uses of the text AtB. -/
import Derived.Test.YtcaoobdbgdldaaaZPAtA
namespace Go.Proofs.Ytcaoobdbgdldaaa.Spr
open Go.RowKit Go.Maps Go.Proofs.Ytcaoobdbgdldaaa.Lit Go.Proofs.YtcaoobdbgdldaaaW.PrintWords
set_option linter.unusedVariables false
set_option linter.unusedSimpArgs false

set_option maxHeartbeats 4000000 in
set_option maxRecDepth 100000 in
theorem unlike_any (A : Option Addr) (c : Nat) (l : List Int) (w : World) (hC : IC w A l) (hl : l.length ≤ 1000) (hf : ∀ x ∈ l, fm x = true) (hn : (l.map lv).Nodup) :
    Calls Try.prog 10 #[.slice A l.length c] w fun e w' => e = .returned (.bool true) ∧ Below w.heap.size w w' := by
  have HC := Lib.hid hC
  have HF := Lib.hid hf
  have HT0 := Lib.hid (fun k (hk : k < l.length) => show (l.take (k + 1)).map lv = (l.take k).map lv ++ [lv (l.getD k 0)] by rw [List.take_add_one, List.getD_eq_getElem?_getD, List.getElem?_eq_getElem hk, List.map_append]; rfl)
  have HNo := Lib.hid (fun k (hk : k < l.length) => show lv (l.getD k 0) ∉ (l.take k).map lv by
    have h1 : l.map lv = (l.take k).map lv ++ lv (l.getD k 0) :: (l.drop (k + 1)).map lv := by
      conv => lhs; rw [← List.take_append_drop k l, List.drop_eq_getElem_cons hk]
      rw [List.map_append, List.map_cons, List.getD_eq_getElem?_getD, List.getElem?_eq_getElem hk]; rfl
    rw [h1, List.nodup_append] at hn
    exact fun h => hn.2.2 _ h _ List.mem_cons_self rfl)
  have hmm := @run_makeMap Try.prog
  clear hC hf hn
  generalize hN : l.length = N at *
  have HN := Lib.hid hN
  clear hN
  go_enter Try.func10, Try.ntmps10
  go_wp2
  go_loopw [10] (fun i wr => ∃ k : Nat, k ≤ N ∧ i = .int .i64 k ∧ KnownR w w.heap.size ((l.take k).map lv) wr) (fun i _ => N - (intOf i).toNat)
  case atStart => exact ⟨0, Nat.zero_le _, rfl, KnownR.init (Below.refl _ _)⟩
  case round =>
    obtain ⟨k, hk, rfl, hr⟩ := hrel
    obtain ⟨D, hK, hD, hb, hbb⟩ := hr
    by_cases hlt : k < N
    · obtain ⟨ad, hA, hx⟩ := HC.out k (by rw [HN.out]; exact hlt)
      subst hA
      replace hx := (hb.cell (World.block_lt_of_cell? w _ hx)).trans hx
      have hlv : lv (l.getD k 0) ≠ 0 := by
        have := HF.out (l.getD k 0) (by rw [List.getD_eq_getElem?_getD, List.getElem?_eq_getElem (by rw [HN.out]; exact hlt)]; exact List.getElem_mem _)
        unfold lv
        have h2 := fm_true this
        rw [if_pos this]
        split <;> omega
      have HTk := Lib.hid (HT0.out k hlt)
      have hno := HNo.out k hlt
      have hb0 := lv_bd (l.getD k 0)
      have HV := Lib.hid (var_any (l.getD k 0))
      generalize l.getD k 0 = y at *
      generalize lv y = x at *
      have hxb : (x == 0) = false := by simpa using hlv
      obtain ⟨z, hz, z0, z1, z2⟩ := hD x
      obtain rfl : z = 0 := by
        have : ¬ 0 < z := fun h => hno (z2.1 h)
        omega
      have HKey := Lib.hid (keyOf_int_mk (P := Try.prog) Try.underlying3 (a := x) (WalkArith.wf_i64 (by omega)))
      obtain ⟨c0, hrun, hat, hwc⟩ := hK.lookup_int (t := 44) (e := 3) law3 Try.underlying44 Try.underlying3 (zero3 _) HKey.out
      obtain rfl : 0 = c0 := (by have := hz.symm.trans hat; simpa [dI] using this)
      clear hat hwc
      have HM := Lib.hid (show ((l.take k).map lv).length ≤ 1000 by rw [List.length_map]; have := List.length_take_le k l; omega)
      have HK := Lib.hid hK
      have HZ := Lib.hid hz
      have HD := Lib.hid (And.intro hD (And.intro hb hbb))
      clear hK hz hD hb hbb z0 z1 z2 hno
      go_wp2_with (first
        | (go_at_call 12; refine (HV.out _).mono ?_; rintro e w' ⟨rfl, rfl⟩)
        | (at_mapUpdate; refine wpList_mapUpdate_own _ rfl _ _ _ 44 rfl 3 3 law3 Try.underlying44 _ w.heap.size _ D rfl HK.out (by have := HM.out; unfold maxLen; omega) _ _ _ rfl rfl HKey.out _ [] (plainElem_int Try.underlying3 (WalkArith.wf_i64 (by omega))) ?_; intro w5 hown5 hgrow5; have HK5 := Lib.hid hown5; have HG5 := Lib.hid hgrow5; clear hown5 hgrow5))
      go_roundw
      case rel => exact ⟨k + 1, by omega, by go_num, by rw [HTk.out]; exact KnownR.put HK.out HD.out.1 HD.out.2.1 HD.out.2.2 HZ.out HK5.out HG5.out⟩
      case measure => simp [intOf]; omega
    · obtain rfl : k = N := by omega
      have HB := Lib.hid hb
      clear hb hK hD hbb
      go_wp2
      go_ret
      exact ⟨rfl, HB.out⟩

end Go.Proofs.Ytcaoobdbgdldaaa.Spr
