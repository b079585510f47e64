/- Part of the proof of ForwardLasts: what the law uses of the text FwF. -/
import Derived.Test.YtcaoobdbgdldaaaGreatDoorZPFwE
namespace Go.Proofs.YtcaoobdbgdldaaaGreatDoor.Fwd
open Go.RowKit Go.Shelf Go.Maps Go.Proofs.YtcaoobdbgdldaaaGreatDoor.Lit Go.Proofs.YtcaoobdbgdldaaaGreatDoor.Spr
set_option linter.unusedVariables false
set_option linter.unusedSimpArgs false

def UnitsPost (w : World) (F : Fw) (e : Ending) (w' : World) : Prop := ∃ u, e = .returned (.tuple #[u, .bool (closeR F.vars F.all []).2.1]) ∧ RowR w' w.heap.size u (closeR F.vars F.all []).1 ∧ Below w.heap.size w w'
theorem units_any (w0 : World) (B b m N : Nat) (F : Fw) (w : World) (h : FwR w0 B b m N F w) (hN : N ≤ 4194304) :
    Calls Tryz.prog 49 #[.pointer (some ⟨b, 0, none⟩)] w (UnitsPost w F) := by
  obtain ⟨v, h⟩ := h
  obtain ⟨A, c, e, _, hr⟩ := h.all.rc
  subst e
  have HF := Lib.hid (formula_any w0 B b m N F _ w h)
  have HC := Lib.hid (fun (w2 : World) (hb : Below w.heap.size w w2) => close_any F.vars A c F.all none 0 [] w2 (hr.below hb) (ic_nil _) (h.ok.fits hN [] (by simp)))
  unfold UnitsPost
  unfold ClosePost at HC
  clear h hr
  generalize closeR F.vars F.all [] = r at *
  generalize F.all.length = n at *
  generalize F.vars = x at *
  obtain ⟨r1, r2, r3⟩ := r
  go_enter Tryz.func49, Tryz.ntmps49
  go_wp2_with (first
    | (go_at_call 64; refine HF.out.mono ?_; rintro e w2 ⟨rfl, hb⟩; have HB2 := Lib.hid hb; clear hb)
    | (go_at_call 84; refine (HC.out _ HB2.out).mono ?_; rintro e w3 ⟨u, rfl, ho, hb⟩; have HB3 := Lib.hid (HB2.out.trans (hb.mono HB2.out.size)); have HO := Lib.hid (own_lower ho HB2.out.size); clear ho hb))
  go_ret2
  refine ⟨u, rfl, ?_, HB3.out⟩
  have := HO.out
  unfold RowR
  rwa [show (ints .i64 r1).length = r1.length by simp [ints]] at this

def AddPost (w0 : World) (B b m N : Nat) (r : Int × Int × Fw) (e : Ending) (w' : World) : Prop := e = .returned (.tuple #[.int .i64 r.1, .int .i64 r.2.1]) ∧ FwR w0 B b m (N + 1) r.2.2 w'
theorem FwOk.mono {F : Fw} {N M : Nat} (h : FwOk F N) (hm : N ≤ M) : FwOk F M := ⟨Nat.le_trans h.ml hm, Nat.le_trans h.al hm, h.af, h.v⟩
theorem MapR.mono {w : World} {m N M : Nat} {ms : List (List Int)} (h : MapR w m N ms) (hm : N ≤ M) : MapR w m M ms := by
  obtain ⟨D, ⟨es, clock, h1, h2, h3, h4⟩, hk⟩ := h
  exact ⟨D, ⟨es, clock, h1, h2, Nat.le_trans h3 hm, h4⟩, hk⟩
theorem FwR.mono {w0 : World} {B b m N M : Nat} {F : Fw} {w : World} (h : FwR w0 B b m N F w) (hm : N ≤ M) : FwR w0 B b m M F w := by
  obtain ⟨v, h⟩ := h
  exact ⟨v, h.blk, h.map.mono hm, h.all, h.base, h.hb, h.hm, h.hw, h.ok.mono hm, h.kp⟩
theorem refuses_cases (F : Fw) (c : List Int) : refusesR F c = 0 ∨ refusesR F c = 1 ∨ refusesR F c = 3 := by
  unfold refusesR
  split
  · split <;> simp
  · simp
theorem kindF_cases (v : Int) (cs : List (List Int)) (c : List Int) : (kindF v cs c).1 = 0 ∨ (kindF v cs c).1 = 1 ∨ (kindF v cs c).1 = 2 := by
  unfold kindF kindR
  split
  · split
    · simp
    · split <;> simp
  · simp

set_option maxHeartbeats 4000000 in
set_option maxRecDepth 100000 in
theorem add_any (w0 : World) (B b m N : Nat) (F : Fw) (Af : Option Addr) (cf : Nat) (c : List Int) (w : World) (h : FwR w0 B b m N F w) (hF : IC w Af c) (hl : c.length ≤ 17592186044416) (hT : Lib.TabBelow Tryz.prog B w0 "internal/strconv.uint64pow10" .u64 Lib.pow10Tab) (hN : N ≤ 4194304) :
    Calls Tryz.prog 34 #[.pointer (some ⟨b, 0, none⟩), .slice Af c.length cf] w (AddPost w0 B b m N (addW F c)) := by
  have HRf := Lib.hid (refuses_any w0 B b m N F Af cf c w h hF (by omega))
  have HFo := Lib.hid (fun v (hv : FwV w0 B b m N F v w) => formula_any w0 B b m N F v w hv)
  have HV := Lib.hid h
  have HPu := Lib.hid (fun (w2 : World) (hb : Below w.heap.size w w2) => put_any w0 B b m N F Af cf c w2 (h.step hb) (hF.below hb) hl hT hN)
  have hrc := refuses_cases F c
  have hkc := kindF_cases F.vars F.all c
  obtain ⟨v, hv⟩ := h
  obtain ⟨A, c0, e, _, hr⟩ := hv.all.rc
  subst e
  have HK := Lib.hid (fun (w2 : World) (hb : Below w.heap.size w w2) => kind_any F.vars A c0 F.all Af cf c w2 (hr.below hb) (hF.below hb) (hv.ok.fits hN c hl))
  have HFo2 := Lib.hid (HFo.out _ hv)
  unfold AddPost addW
  unfold KindPost at HK
  clear hv hr hF HFo
  generalize refusesR F c = q at *
  generalize hkf : kindF F.vars F.all c = kk at *
  clear hkf
  obtain ⟨k1, k2⟩ := kk
  generalize hG : putW F c = G at *
  clear hG
  generalize c.length = n at *
  generalize F.all.length = na at *
  generalize F.vars = x at *
  dsimp only at hkc
  rcases hrc with rfl | rfl | rfl
  · rw [if_pos rfl]
    rcases hkc with rfl | rfl | rfl
    · rw [if_pos rfl]
      go_enter Tryz.func34, Tryz.ntmps34
      go_wp2_with (first
        | (go_at_call 62; refine HRf.out.mono ?_; rintro e w1 ⟨rfl, rfl⟩)
        | (go_at_call 64; refine HFo2.out.mono ?_; rintro e w2 ⟨rfl, hb⟩; have HB2 := Lib.hid hb; clear hb)
        | (go_at_call 63; refine (HK.out _ HB2.out).mono ?_; rintro e w3 ⟨rfl, hb⟩; have HB3 := Lib.hid (HB2.out.trans (hb.mono HB2.out.size)); clear hb))
      go_ret2
      exact ⟨rfl, (HV.out.step HB3.out).mono (Nat.le_succ _)⟩
    · rw [if_neg (show ¬ ((1 : Int) = 0) by decide)]
      go_enter Tryz.func34, Tryz.ntmps34
      go_wp2_with (first
        | (go_at_call 62; refine HRf.out.mono ?_; rintro e w1 ⟨rfl, rfl⟩)
        | (go_at_call 64; refine HFo2.out.mono ?_; rintro e w2 ⟨rfl, hb⟩; have HB2 := Lib.hid hb; clear hb)
        | (go_at_call 63; refine (HK.out _ HB2.out).mono ?_; rintro e w3 ⟨rfl, hb⟩; have HB3 := Lib.hid (HB2.out.trans (hb.mono HB2.out.size)); clear hb)
        | (go_at_call 46; refine (HPu.out _ HB3.out).mono ?_; rintro e w4 ⟨rfl, hv4⟩; obtain ⟨v4, hv4⟩ := hv4; have HV4 := Lib.hid hv4; have hc43 := hv4.cell.2.2.2; have hf43 := hv4.free 3; clear hv4))
      go_ret2
      refine ⟨rfl, v4, ?_⟩
      rw [show ((n : Int) == 0) = decide (n = 0) from by by_cases h0 : n = 0 <;> simp [h0]]
      exact HV4.out.setDone _
    · rw [if_neg (show ¬ ((2 : Int) = 0) by decide)]
      go_enter Tryz.func34, Tryz.ntmps34
      go_wp2_with (first
        | (go_at_call 62; refine HRf.out.mono ?_; rintro e w1 ⟨rfl, rfl⟩)
        | (go_at_call 64; refine HFo2.out.mono ?_; rintro e w2 ⟨rfl, hb⟩; have HB2 := Lib.hid hb; clear hb)
        | (go_at_call 63; refine (HK.out _ HB2.out).mono ?_; rintro e w3 ⟨rfl, hb⟩; have HB3 := Lib.hid (HB2.out.trans (hb.mono HB2.out.size)); clear hb)
        | (go_at_call 46; refine (HPu.out _ HB3.out).mono ?_; rintro e w4 ⟨rfl, hv4⟩; obtain ⟨v4, hv4⟩ := hv4; have HV4 := Lib.hid hv4; have hc43 := hv4.cell.2.2.2; have hf43 := hv4.free 3; clear hv4))
      go_ret2
      refine ⟨rfl, v4, ?_⟩
      rw [show ((n : Int) == 0) = decide (n = 0) from by by_cases h0 : n = 0 <;> simp [h0]]
      exact HV4.out.setDone _
  · rw [if_neg (show ¬ ((1 : Int) = 0) by decide)]
    go_enter Tryz.func34, Tryz.ntmps34
    go_wp2_with (first
      | (go_at_call 62; refine HRf.out.mono ?_; rintro e w1 ⟨rfl, rfl⟩))
    go_ret2
    exact ⟨rfl, HV.out.mono (Nat.le_succ _)⟩
  · rw [if_neg (show ¬ ((3 : Int) = 0) by decide)]
    go_enter Tryz.func34, Tryz.ntmps34
    go_wp2_with (first
      | (go_at_call 62; refine HRf.out.mono ?_; rintro e w1 ⟨rfl, rfl⟩))
    go_ret2
    exact ⟨rfl, HV.out.mono (Nat.le_succ _)⟩

end Go.Proofs.YtcaoobdbgdldaaaGreatDoor.Fwd
