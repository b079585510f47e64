/- Part of the proof of ForwardScript: what the law uses of the texts FwF, FwG. -/
import Derived.Test.YtcaoobdbgdldaaaGreatDoorZPJFwC
namespace Go.Proofs.YtcaoobdbgdldaaaGreatDoor.Fwd
open Go.RowKit Go.Shelf Go.Maps Go.Proofs.YtcaoobdbgdldaaaGreatDoor.Lit Go.Proofs.YtcaoobdbgdldaaaGreatDoor.Spr
set_option linter.unusedVariables false
set_option linter.unusedSimpArgs false

def UnitsPost (w : World) (F : Fw) (e : Ending) (w' : World) : Prop := ∃ u, e = .returned (.tuple #[u, .bool (closeR F.vars F.all []).2.1]) ∧ RowR w' w.heap.size u (closeR F.vars F.all []).1 ∧ Below w.heap.size w w'
theorem units_any (w0 : World) (B b m N : Nat) (F : Fw) (w : World) (h : FwR w0 B b m N F w) (hN : N ≤ 4194304) :
    Calls Tryz.prog 49 #[.pointer (some ⟨b, 0, none⟩)] w (UnitsPost w F) := by
  obtain ⟨v, h⟩ := h
  obtain ⟨A, c, e, _, hr⟩ := h.all.rc
  subst e
  have HF := Lib.hid (formula_any w0 B b m N F _ w h)
  have HC := Lib.hid (fun (w2 : World) (hb : Below w.heap.size w w2) => close_any F.vars A c F.all none 0 [] w2 (hr.below hb) (ic_nil _) (h.ok.fits hN [] (by simp)))
  unfold UnitsPost
  unfold ClosePost at HC
  clear h hr
  generalize closeR F.vars F.all [] = r at *
  generalize F.all.length = n at *
  generalize F.vars = x at *
  obtain ⟨r1, r2, r3⟩ := r
  go_enter Tryz.func49, Tryz.ntmps49
  go_wp2_with (first
    | (go_at_call 64; refine HF.out.mono ?_; rintro e w2 ⟨rfl, hb⟩; have HB2 := Lib.hid hb; clear hb)
    | (go_at_call 84; refine (HC.out _ HB2.out).mono ?_; rintro e w3 ⟨u, rfl, ho, hb⟩; have HB3 := Lib.hid (HB2.out.trans (hb.mono HB2.out.size)); have HO := Lib.hid (own_lower ho HB2.out.size); clear ho hb))
  go_ret2
  refine ⟨u, rfl, ?_, HB3.out⟩
  have := HO.out
  unfold RowR
  rwa [show (ints .i64 r1).length = r1.length by simp [ints]] at this

def AddPost (w0 : World) (B b m N : Nat) (r : Int × Int × Fw) (e : Ending) (w' : World) : Prop := e = .returned (.tuple #[.int .i64 r.1, .int .i64 r.2.1]) ∧ FwR w0 B b m (N + 1) r.2.2 w'
theorem FwOk.mono {F : Fw} {N M : Nat} (h : FwOk F N) (hm : N ≤ M) : FwOk F M := ⟨Nat.le_trans h.ml hm, Nat.le_trans h.al hm, h.af, h.v⟩
theorem MapR.mono {w : World} {m N M : Nat} {ms : List (List Int)} (h : MapR w m N ms) (hm : N ≤ M) : MapR w m M ms := by
  obtain ⟨D, ⟨es, clock, h1, h2, h3, h4⟩, hk⟩ := h
  exact ⟨D, ⟨es, clock, h1, h2, Nat.le_trans h3 hm, h4⟩, hk⟩
theorem FwR.mono {w0 : World} {B b m N M : Nat} {F : Fw} {w : World} (h : FwR w0 B b m N F w) (hm : N ≤ M) : FwR w0 B b m M F w := by
  obtain ⟨v, h⟩ := h
  exact ⟨v, h.blk, h.map.mono hm, h.all, h.base, h.hb, h.hm, h.hw, h.ok.mono hm, h.kp, h.ko⟩
theorem refuses_cases (F : Fw) (c : List Int) : refusesR F c = 0 ∨ refusesR F c = 1 ∨ refusesR F c = 3 := by
  unfold refusesR
  split
  · split <;> simp
  · simp
theorem kindF_cases (v : Int) (cs : List (List Int)) (c : List Int) : (kindF v cs c).1 = 0 ∨ (kindF v cs c).1 = 1 ∨ (kindF v cs c).1 = 2 := by
  unfold kindF kindR
  split
  · split
    · simp
    · split <;> simp
  · simp

set_option maxHeartbeats 4000000 in
set_option maxRecDepth 100000 in
theorem add_any (w0 : World) (B b m N : Nat) (F : Fw) (Af : Option Addr) (cf : Nat) (c : List Int) (w : World) (h : FwR w0 B b m N F w) (hF : IC w Af c) (hl : c.length ≤ 17592186044416) (hT : Lib.TabBelow Tryz.prog B w0 "internal/strconv.uint64pow10" .u64 Lib.pow10Tab) (hN : N ≤ 4194304) :
    Calls Tryz.prog 34 #[.pointer (some ⟨b, 0, none⟩), .slice Af c.length cf] w (AddPost w0 B b m N (addW F c)) := by
  have HRf := Lib.hid (refuses_any w0 B b m N F Af cf c w h hF (by omega))
  have HFo := Lib.hid (fun v (hv : FwV w0 B b m N F v w) => formula_any w0 B b m N F v w hv)
  have HV := Lib.hid h
  have HPu := Lib.hid (fun (w2 : World) (hb : Below w.heap.size w w2) => put_any w0 B b m N F Af cf c w2 (h.step hb) (hF.below hb) hl hT hN)
  have hrc := refuses_cases F c
  have hkc := kindF_cases F.vars F.all c
  obtain ⟨v, hv⟩ := h
  obtain ⟨A, c0, e, _, hr⟩ := hv.all.rc
  subst e
  have HK := Lib.hid (fun (w2 : World) (hb : Below w.heap.size w w2) => kind_any F.vars A c0 F.all Af cf c w2 (hr.below hb) (hF.below hb) (hv.ok.fits hN c hl))
  have HFo2 := Lib.hid (HFo.out _ hv)
  unfold AddPost addW
  unfold KindPost at HK
  clear hv hr hF HFo
  generalize refusesR F c = q at *
  generalize hkf : kindF F.vars F.all c = kk at *
  clear hkf
  obtain ⟨k1, k2⟩ := kk
  generalize hG : putW F c = G at *
  clear hG
  generalize c.length = n at *
  generalize F.all.length = na at *
  generalize F.vars = x at *
  dsimp only at hkc
  rcases hrc with rfl | rfl | rfl
  · rw [if_pos rfl]
    rcases hkc with rfl | rfl | rfl
    · rw [if_pos rfl]
      go_enter Tryz.func34, Tryz.ntmps34
      go_wp2_with (first
        | (go_at_call 62; refine HRf.out.mono ?_; rintro e w1 ⟨rfl, rfl⟩)
        | (go_at_call 64; refine HFo2.out.mono ?_; rintro e w2 ⟨rfl, hb⟩; have HB2 := Lib.hid hb; clear hb)
        | (go_at_call 63; refine (HK.out _ HB2.out).mono ?_; rintro e w3 ⟨rfl, hb⟩; have HB3 := Lib.hid (HB2.out.trans (hb.mono HB2.out.size)); clear hb))
      go_ret2
      exact ⟨rfl, (HV.out.step HB3.out).mono (Nat.le_succ _)⟩
    · rw [if_neg (show ¬ ((1 : Int) = 0) by decide)]
      go_enter Tryz.func34, Tryz.ntmps34
      go_wp2_with (first
        | (go_at_call 62; refine HRf.out.mono ?_; rintro e w1 ⟨rfl, rfl⟩)
        | (go_at_call 64; refine HFo2.out.mono ?_; rintro e w2 ⟨rfl, hb⟩; have HB2 := Lib.hid hb; clear hb)
        | (go_at_call 63; refine (HK.out _ HB2.out).mono ?_; rintro e w3 ⟨rfl, hb⟩; have HB3 := Lib.hid (HB2.out.trans (hb.mono HB2.out.size)); clear hb)
        | (go_at_call 46; refine (HPu.out _ HB3.out).mono ?_; rintro e w4 ⟨rfl, hv4⟩; obtain ⟨v4, hv4⟩ := hv4; have HV4 := Lib.hid hv4; have hc43 := hv4.cell.2.2.2; have hf43 := hv4.free 3; clear hv4))
      go_ret2
      refine ⟨rfl, v4, ?_⟩
      rw [show ((n : Int) == 0) = decide (n = 0) from by by_cases h0 : n = 0 <;> simp [h0]]
      exact HV4.out.setDone _
    · rw [if_neg (show ¬ ((2 : Int) = 0) by decide)]
      go_enter Tryz.func34, Tryz.ntmps34
      go_wp2_with (first
        | (go_at_call 62; refine HRf.out.mono ?_; rintro e w1 ⟨rfl, rfl⟩)
        | (go_at_call 64; refine HFo2.out.mono ?_; rintro e w2 ⟨rfl, hb⟩; have HB2 := Lib.hid hb; clear hb)
        | (go_at_call 63; refine (HK.out _ HB2.out).mono ?_; rintro e w3 ⟨rfl, hb⟩; have HB3 := Lib.hid (HB2.out.trans (hb.mono HB2.out.size)); clear hb)
        | (go_at_call 46; refine (HPu.out _ HB3.out).mono ?_; rintro e w4 ⟨rfl, hv4⟩; obtain ⟨v4, hv4⟩ := hv4; have HV4 := Lib.hid hv4; have hc43 := hv4.cell.2.2.2; have hf43 := hv4.free 3; clear hv4))
      go_ret2
      refine ⟨rfl, v4, ?_⟩
      rw [show ((n : Int) == 0) = decide (n = 0) from by by_cases h0 : n = 0 <;> simp [h0]]
      exact HV4.out.setDone _
  · rw [if_neg (show ¬ ((1 : Int) = 0) by decide)]
    go_enter Tryz.func34, Tryz.ntmps34
    go_wp2_with (first
      | (go_at_call 62; refine HRf.out.mono ?_; rintro e w1 ⟨rfl, rfl⟩))
    go_ret2
    exact ⟨rfl, HV.out.mono (Nat.le_succ _)⟩
  · rw [if_neg (show ¬ ((3 : Int) = 0) by decide)]
    go_enter Tryz.func34, Tryz.ntmps34
    go_wp2_with (first
      | (go_at_call 62; refine HRf.out.mono ?_; rintro e w1 ⟨rfl, rfl⟩))
    go_ret2
    exact ⟨rfl, HV.out.mono (Nat.le_succ _)⟩

end Go.Proofs.YtcaoobdbgdldaaaGreatDoor.Fwd

namespace Go.Proofs.YtcaoobdbgdldaaaGreatDoor.Fwd
open Go.RowKit Go.Shelf Go.Maps Go.Proofs.YtcaoobdbgdldaaaGreatDoor.Lit Go.Proofs.YtcaoobdbgdldaaaGreatDoor.Spr
set_option linter.unusedVariables false
set_option linter.unusedSimpArgs false

def IsR (W : World) (mb : Nat) (L : List Int) (wr : World) : Prop :=
  ∃ (D : DataW Unit) (n : Nat), wr.ownsMap Tryz.prog 3 (plainElem Tryz.prog 3) mb n D ∧ n ≤ 2 * L.length ∧ (∀ x : Int, D.atKey (.int .i64 x) (dI 0) = dI (isV L x)) ∧ Below W.heap.size W wr ∧ W.heap.size ≤ mb
theorem IsR.init {W w : World} (hb : Below W.heap.size W w) : IsR W w.heap.size [] (w.alloc (.map #[] 0)) :=
  ⟨_, 0, World.ownsMap_made w _ _ _, Nat.le_refl _, fun x => rfl, hb.alloc hb.size _, hb.size⟩
theorem IsR.put {W wr w1 w2 : World} {mb n : Nat} {L : List Int} {l : Int} {D : DataW Unit} (hD : wr.ownsMap Tryz.prog 3 (plainElem Tryz.prog 3) mb n D) (hn : n ≤ 2 * L.length) (hk : ∀ x : Int, D.atKey (.int .i64 x) (dI 0) = dI (isV L x)) (hb : Below W.heap.size W wr) (hm : W.heap.size ≤ mb)
    (h1 : w1.ownsMap Tryz.prog 3 (plainElem Tryz.prog 3) mb (n + 1) (D.put (.int .i64 l) (dI 1))) (h2 : w2.ownsMap Tryz.prog 3 (plainElem Tryz.prog 3) mb (n + 1 + 1) ((D.put (.int .i64 l) (dI 1)).put (.int .i64 (-l)) (dI (-1)))) (hg1 : wr.grownBy w1 (some mb)) (hg2 : w1.grownBy w2 (some mb)) : IsR W mb (L ++ [l]) w2 := by
  refine ⟨_, _, h2, by rw [List.length_append, List.length_singleton]; omega, fun x => ?_, hb.trans (below_stay (hg1.trans hg2) hb.size (fun k hk => by injection hk with hk; omega)), hm⟩
  rw [isV_snoc]
  by_cases e1 : x = -l
  · subst e1
    rw [atKey_put_same h1.isMap (IsKeyLit_int _), if_pos rfl]
  · rw [if_neg e1, atKey_put_other (fun e => e1 (by injection e))]
    by_cases e2 : x = l
    · subst e2
      rw [atKey_put_same hD.isMap (IsKeyLit_int _), if_pos rfl]
    · rw [if_neg e2, atKey_put_other (fun e => e2 (by injection e)), hk x]

theorem sumR_bd (L : List Int) (t : List Int) : ∀ k, k ≤ t.length → -(k : Int) ≤ sumR L (t.take k) ∧ sumR L (t.take k) ≤ k := by
  intro k
  induction k with
  | zero => intro _; simp [sumR]
  | succ k ih =>
    intro hk
    have h1 := ih (by omega)
    have h2 := isV_bd L (t.getD k 0)
    rw [show t.take (k + 1) = t.take k ++ [t.getD k 0] by rw [List.take_add_one, List.getD_eq_getElem?_getD, List.getElem?_eq_getElem (by omega)]; rfl, sumR_snoc]
    omega
theorem truthsR_bd (L : List Int) (t : List Int) : ∀ k, k ≤ t.length → 0 ≤ truthsR L (t.take k) ∧ truthsR L (t.take k) ≤ k := by
  intro k
  induction k with
  | zero => intro _; simp [truthsR]
  | succ k ih =>
    intro hk
    have h1 := ih (by omega)
    rw [show t.take (k + 1) = t.take k ++ [t.getD k 0] by rw [List.take_add_one, List.getD_eq_getElem?_getD, List.getElem?_eq_getElem (by omega)]; rfl, truthsR_snoc]
    split <;> omega
theorem close_fm (v : Int) (cs : List (List Int)) (F : List Int) : (closeR v cs F).1.length ≤ 2097152 ∧ ∀ x ∈ (closeR v cs F).1, fm x = true := by
  unfold closeR
  split
  · split
    · exact ⟨tidy_len _, tidy_fm _⟩
    · simp
  · simp

set_option maxHeartbeats 8000000 in
set_option maxRecDepth 100000 in
theorem known_any (w0 : World) (B b m N : Nat) (F : Fw) (Ac : Option Addr) (cc : Nat) (t : List Int) (w : World) (h : FwR w0 B b m N F w) (hT : IC w Ac t) (hl : t.length ≤ 2097152) (hf : ∀ x ∈ t, fm x = true) (hN : N ≤ 4194304) :
    Calls Tryz.prog 67 #[.pointer (some ⟨b, 0, none⟩), .slice Ac t.length cc] w fun e w' => e = .returned (.bool (knownR F t)) ∧ Below w.heap.size w w' := by
  have HU := Lib.hid (units_any w0 B b m N F w h hN)
  have HC := Lib.hid (fun n (hn : n < t.length) (w2 : World) (hb2 : Below w.heap.size w w2) => (hT.below hb2) n hn)
  have HFm := Lib.hid (fun n (hn : n < t.length) => show -1048576 ≤ t.getD n 0 ∧ t.getD n 0 ≤ 1048576 from (fm_true (hf (t.getD n 0) (by rw [List.getD_eq_getElem?_getD, List.getElem?_eq_getElem hn]; exact List.getElem_mem _))).2)
  have hcf := close_fm F.vars F.all []
  have hmm := @run_makeMap Tryz.prog
  unfold UnitsPost at HU
  unfold knownR
  clear h hT hf
  generalize closeR F.vars F.all [] = r at *
  obtain ⟨L, clash, r3⟩ := r
  dsimp only at *
  have hLl := hcf.1
  have HLf := Lib.hid (fun n (hn : n < L.length) => show -1048576 ≤ L.getD n 0 ∧ L.getD n 0 ≤ 1048576 from (fm_true (hcf.2 (L.getD n 0) (by rw [List.getD_eq_getElem?_getD, List.getElem?_eq_getElem hn]; exact List.getElem_mem _))).2)
  clear hcf
  cases clash with
  | true =>
    rw [if_pos rfl]
    clear HC HFm HLf
    generalize t.length = n at *
    go_enter Tryz.func67, Tryz.ntmps67
    go_wp2_with (first
      | (go_at_call 49; refine HU.out.mono ?_; rintro e w2 ⟨u, rfl, hu, hb⟩; have HB2 := Lib.hid hb; clear hb hu))
    go_ret
    exact ⟨rfl, HB2.out⟩
  | false =>
    rw [if_neg (by decide)]
    have HTk := Lib.hid (fun k (hk : k < L.length) => show L.take (k + 1) = L.take k ++ [L.getD k 0] by rw [List.take_add_one, List.getD_eq_getElem?_getD, List.getElem?_eq_getElem hk]; rfl)
    have HTl := Lib.hid (show L.take L.length = L by rw [List.take_length])
    have HSu := Lib.hid (fun k (hk : k < t.length) => show sumR L (t.take (k + 1)) = sumR L (t.take k) + isV L (t.getD k 0) by rw [← sumR_snoc, List.take_add_one, List.getD_eq_getElem?_getD, List.getElem?_eq_getElem hk]; rfl)
    have HTu := Lib.hid (fun k (hk : k < t.length) => show truthsR L (t.take (k + 1)) = truthsR L (t.take k) + (if isV L (t.getD k 0) = 1 then 1 else 0) by rw [← truthsR_snoc, List.take_add_one, List.getD_eq_getElem?_getD, List.getElem?_eq_getElem hk]; rfl)
    have HSb := Lib.hid (sumR_bd L t)
    have HTb := Lib.hid (truthsR_bd L t)
    have HEs := Lib.hid (show sumR L (t.take t.length) = sumR L t by rw [List.take_length])
    have HEt := Lib.hid (show truthsR L (t.take t.length) = truthsR L t by rw [List.take_length])
    have HBB := Lib.hid (show (decide (truthsR L t = 1) && decide (sumR L t = 2 - (t.length : Int))) = (decide (truthsR L (t.take t.length) = 1) && decide (sumR L (t.take t.length) = 2 - (t.length : Int))) by rw [List.take_length])
    generalize (decide (truthsR L t = 1) && decide (sumR L t = 2 - (t.length : Int))) = bb at *
    clear HEs HEt
    generalize hn : t.length = n at *
    generalize hnl : L.length = nl at *
    have HNl := Lib.hid hnl
    clear hn hnl
    go_enter Tryz.func67, Tryz.ntmps67
    go_wp2_with (first
      | (go_at_call 49; refine HU.out.mono ?_; rintro e w2 ⟨u, rfl, hu, hb⟩; obtain ⟨Au, cu, eu, _, hiu⟩ := hu.ic; rw [HNl.out] at eu; subst eu; have HIu := Lib.hid hiu; have HB2 := Lib.hid hb; clear hb hu hiu))
    go_loopw [23] (fun i wr => ∃ k : Nat, k ≤ nl ∧ i = .int .i64 k ∧ IsR w2 w2.heap.size (L.take k) wr) (fun i _ => nl - (intOf i).toNat)
    case atStart => exact ⟨0, Nat.zero_le _, rfl, IsR.init (Below.refl _ _)⟩
    case round =>
      obtain ⟨k, hk, rfl, hr⟩ := hrel
      by_cases hlt : k < nl
      · obtain ⟨D, nd, hD, hnd, hkd, hbd, hmd⟩ := hr
        obtain ⟨ad, hA, hx⟩ := (HIu.out.below hbd) k (by rw [HNl.out]; exact hlt)
        subst hA
        obtain ⟨l1, l2⟩ := HLf.out k hlt
        have HTk1 := Lib.hid (HTk.out k hlt)
        have hlen : (L.take k).length ≤ 2097152 := by have := List.length_take_le k L; omega
        have HD := Lib.hid hD
        have HK := Lib.hid hkd
        have HBd := Lib.hid hbd
        clear hD hkd hbd
        generalize L.getD k 0 = l at *
        have hwn : IntKind.i64.wrap (-l) = -l := by rw [IntKind.wrap_i64]; omega
        have HK1 := Lib.hid (keyOf_int_mk (P := Tryz.prog) Tryz.underlying3 (a := l) (WalkArith.wf_i64 (by omega)))
        have HK2 := Lib.hid (keyOf_int_mk (P := Tryz.prog) Tryz.underlying3 (a := -l) (WalkArith.wf_i64 (by omega)))
        go_wp2_with (first
          | (at_mapUpdate; refine wpList_mapUpdate_own _ rfl _ _ _ 120 rfl 3 3 law3 Tryz.underlying120 _ w2.heap.size nd D rfl HD.out (by unfold maxLen; omega) _ _ _ rfl rfl HK1.out _ [] (plainElem_int Tryz.underlying3 (WalkArith.wf_i64 (by omega))) ?_; intro w5 hown5 hgrow5; have HD5 := Lib.hid hown5; have HG5 := Lib.hid hgrow5; clear hown5 hgrow5)
          | (at_mapUpdate; refine wpList_mapUpdate_own _ rfl _ _ _ 120 rfl 3 3 law3 Tryz.underlying120 _ w2.heap.size (nd + 1) _ rfl HD5.out (by unfold maxLen; omega) _ _ _ rfl rfl HK2.out _ [] (plainElem_int Tryz.underlying3 (WalkArith.wf_i64 (by omega))) ?_; intro w6 hown6 hgrow6; have HD6 := Lib.hid hown6; have HG6 := Lib.hid hgrow6; clear hown6 hgrow6))
        go_roundw
        case rel => exact ⟨k + 1, by omega, by go_num, by rw [HTk1.out]; exact IsR.put HD.out hnd HK.out HBd.out hmd HD5.out HD6.out HG5.out HG6.out⟩
        case measure => simp [intOf]; omega
      · obtain rfl : k = nl := by omega
        rw [HTl.out] at hr
        obtain ⟨D, nd, hD, hnd, hkd, hbd, hmd⟩ := hr
        have HD := Lib.hid hD
        have HK := Lib.hid hkd
        have HBw := Lib.hid (HB2.out.trans (hbd.mono HB2.out.size))
        clear hD hkd hbd
        go_wp2
        go_loop [10, 11, 35] (fun s q i => ∃ j : Nat, j ≤ n ∧ i = .int .i64 j ∧ s = .int .i64 (sumR L (t.take j)) ∧ q = .int .i64 (truthsR L (t.take j))) (fun _ _ i => n - (intOf i).toNat)
        case atStart => exact ⟨0, Nat.zero_le _, rfl, rfl, rfl⟩
        case round =>
          obtain ⟨j, hj, rfl, rfl, rfl⟩ := hrel
          by_cases hlj : j < n
          · obtain ⟨ad, hA, hx⟩ := HC.out j hlj _ HBw.out
            subst hA
            obtain ⟨l1, l2⟩ := HFm.out j hlj
            obtain ⟨s1, s2⟩ := HSb.out j hj
            obtain ⟨q1, q2⟩ := HTb.out j hj
            obtain ⟨v1, v2⟩ := isV_bd L (t.getD j 0)
            have HS := Lib.hid (HSu.out j hlj)
            have HQ := Lib.hid (HTu.out j hlj)
            have hkx := HK.out (t.getD j 0)
            generalize t.getD j 0 = x at *
            have HKx := keyOf_int_mk (P := Tryz.prog) Tryz.underlying3 (a := x) (WalkArith.wf_i64 (by omega))
            obtain ⟨q, hrun, hat, _⟩ := HD.out.lookup_int (t := 120) (e := 3) law3 Tryz.underlying120 Tryz.underlying3 (zero3 _) HKx
            obtain rfl : isV L x = q := by have := hkx.symm.trans hat; simpa [dI] using this
            clear hat hkx HKx
            generalize isV L x = y at *
            generalize sumR L (t.take j) = s at *
            generalize truthsR L (t.take j) = p at *
            by_cases hy : y = 1
            · subst hy
              go_wp2
              go_round
              case rel => exact ⟨j + 1, by omega, by go_num, by rw [HS.out], by rw [HQ.out, if_pos rfl]⟩
              case measure => simp [intOf]; omega
            · have hyb : (y == 1) = false := by simpa using hy
              go_wp2
              go_round
              case rel => exact ⟨j + 1, by omega, by go_num, by rw [HS.out], by rw [HQ.out, if_neg hy, Int.add_zero]⟩
              case measure => simp [intOf]; omega
          · obtain rfl : j = n := by omega
            obtain ⟨s1, s2⟩ := HSb.out j hj
            generalize sumR L (t.take j) = s at *
            generalize truthsR L (t.take j) = p at *
            by_cases hp : p = 1
            · subst hp
              go_wp2
              go_ret
              exact ⟨by rw [HBB.out]; by_cases h0 : s = 2 - (j : Int) <;> simp [h0], HBw.out⟩
            · have hpb : (p == 1) = false := by simpa using hp
              go_wp2
              go_ret
              exact ⟨by rw [HBB.out, decide_eq_false hp]; rfl, HBw.out⟩

end Go.Proofs.YtcaoobdbgdldaaaGreatDoor.Fwd
