/- Part of the proof of ForwardLasts: what the law uses of the text FwE. -/
import Derived.Test.YtcaoobdbgdldaaaGreatDoorZPFwD
namespace Go.Proofs.YtcaoobdbgdldaaaGreatDoor.Fwd
open Go.RowKit Go.Shelf Go.Maps Go.Proofs.YtcaoobdbgdldaaaGreatDoor.Lit Go.Proofs.YtcaoobdbgdldaaaGreatDoor.Spr
set_option linter.unusedVariables false
set_option linter.unusedSimpArgs false

theorem own_lower {w : World} {a base n : Nat} {e : TypeId} {size : Nat} {v : Value} {xs : List Value} (h : w.ownsRow a e size v n xs) (hle : base ≤ a) : w.ownsRow base e size v n xs := by
  refine ⟨h.1, ?_⟩
  rcases h.2 with h0 | ⟨g, cap, cur, h1, h2, h3⟩
  · exact .inl h0
  · exact .inr ⟨g, cap, cur, h1, by omega, h3⟩
def keyB (t : List Int) : ByteArray := ⟨(txt t).toArray⟩
theorem lawS : Keyed Tryz.prog 9 := string_keyed Tryz.underlying9
theorem key_of {t : List Int} (hl : t.length ≤ 2097152) (hf : ∀ x ∈ t, fm x = true) : keyOf Tryz.prog 9 (.string (keyB t)) = some (.string (txt t)) := by
  have h1 := txt_len (B := 0) t (fun x hx => by have := fm_true (hf x hx); omega)
  have h2 : (keyB t).size ≤ maxLen := by
    show (txt t).toArray.size ≤ maxLen
    rw [List.size_toArray]
    unfold maxLen; omega
  rw [WideMaps.keyOf_string_mk Tryz.underlying9 h2]
  simp [keyB]
theorem isKey_str (s : List UInt8) : WideAt.IsKeyLit (.string s) := by simp [WideAt.IsKeyLit]

theorem MapR.more {w w1 : World} {m N : Nat} {ms : List (List Int)} {D : DataW Unit} (hD : w.ownsMap Tryz.prog 9 (plainElem Tryz.prog 3) m N D) (hk : ∀ t, D.atKey (.string (txt t)) (dI 0) = dI (ms.count t)) (t : List Int) (z : Int) (hz : z = ms.count t)
    (h1 : w1.ownsMap Tryz.prog 9 (plainElem Tryz.prog 3) m (N + 1) (D.put (.string (txt t)) (dI (z + 1)))) : MapR w1 m (N + 1) (ms ++ [t]) := by
  refine ⟨_, h1, fun s => ?_⟩
  by_cases e : s = t
  · subst e
    rw [atKey_put_same hD.isMap (isKey_str _), hz, List.count_append, List.count_singleton_self]
    rfl
  · rw [atKey_put_other (fun h => e (txt_inj _ _ (by injection h))), hk s, List.count_append]
    have : List.count s [t] = 0 := by rw [List.count_eq_zero]; simpa using e
    rw [this]; rfl
theorem FwV.counted {w0 : World} {B b m N : Nat} {F : Fw} {v : Value} {w w1 : World} (h : FwV w0 B b m N F v w) (t : List Int) (hm : MapR w1 m (N + 1) (F.ms ++ [t])) (hg : w.grownBy w1 (some m)) : FwV w0 B b m (N + 1) { F with ms := F.ms ++ [t] } v w1 := by
  have hmi : ∀ g, some m = some g → ∀ cells : Array Value, w.heap[g]? ≠ some (Obj.cells cells 3 (0, 0)) := fun g e cells e2 => by
    injection e with e
    subst e
    obtain ⟨es, clock, e3⟩ := h.map.lt
    rw [e3] at e2; cases e2
  refine ⟨?_, hm, h.all.keep (.grown hg hmi) (fun g hg2 => ?_), h.base.grown hg h.hw (fun k hk => by injection hk with hk; subst hk; exact h.hm), h.hb, h.hm, Nat.le_trans h.hw hg.size, ⟨?_, ?_, h.ok.af, h.ok.v⟩, h.kp.trans (.grown hg fun g e cells _ _ e2 => by injection e with e; subst e; obtain ⟨es, clock, e3⟩ := h.map.lt; rw [e3] at e2; cases e2)⟩
  · rw [hg.block b (Array.getElem?_eq_some_iff.1 h.blk).1 (fun e => by injection e with e; exact h.m_ne e.symm)]; exact h.blk
  · obtain ⟨_, cells, e⟩ := h.all.typed g hg2
    exact hg.block g (Array.getElem?_eq_some_iff.1 e).1 (fun e => by injection e with e; exact (h.own_ne g hg2).2 e)
  · have := h.ok.ml; simp; omega
  · have := h.ok.al; simp; omega
theorem RowR.grownM {w w1 : World} {B m N : Nat} {ms : List (List Int)} {u : Value} {t : List Int} (h : RowR w B u t) (hm : MapR w m N ms) (hg : w.grownBy w1 (some m)) : RowR w1 B u t := by
  refine h.keep (.grown hg fun g e cells e2 => ?_)
  injection e with e
  subst e
  obtain ⟨es, clock, e3⟩ := hm.lt
  rw [e3] at e2; cases e2
theorem FwV.app {w0 : World} {B b m N : Nat} {F : Fw} {v v2 : Value} {w w2 : World} (h : FwV w0 B b m N F v w) {u : Value} {t : List Int} (hu : RowR w B u t) (ht : t.length ≤ 2097152 ∧ ∀ x ∈ t, fm x = true) {vs : List Value} (h1 : vs.length = F.all.length) (h3 : ∀ i, i < F.all.length → RowR w B (vs.getD i (.slice none 0 0)) (F.all.getD i []))
    (ho : w2.ownsRow B 40 1 v2 (F.all.length + 1) (vs ++ [u])) (hg : w.grownBy w2 v.ownBlock) (hal : F.all.length + 1 ≤ N) :
    FwV w0 B b m N { F with all := F.all ++ [t] } v2 (w2.setCell ⟨b, 1, none⟩ v2) ∧ ∀ y ys, RowR w B y ys → RowR (w2.setCell ⟨b, 1, none⟩ v2) B y ys := by
  have hki : KeepI w w2 := .grown hg fun g e cells e2 => by
    obtain ⟨_, cells', e3⟩ := h.all.typed g e
    rw [e3] at e2
    injection e2 with e2
    injection e2 with _ e2
    exact absurd e2 (by decide)
  have hblk : w2.heap[b]? = some (Obj.cells #[.map (some m), v, .int .i64 F.vars, .bool F.done] 88 (0, 0)) := by
    rw [hg.block b (Array.getElem?_eq_some_iff.1 h.blk).1 (fun e => (h.own_ne b e.symm).1 rfl)]; exact h.blk
  have hkc : KeepI w2 (w2.setCell ⟨b, 1, none⟩ v2) := .setCell hblk (by decide)
  have hal2 : AllR w2 B v2 (F.all ++ [t]) := by
    refine ⟨vs ++ [u], by simp [h1], by simpa using ho, fun i hi => ?_⟩
    by_cases e : i < F.all.length
    · have := (h3 i e).keep hki
      rwa [List.getD_eq_getElem?_getD, List.getD_eq_getElem?_getD, List.getElem?_append_left (by omega), List.getElem?_append_left e, ← List.getD_eq_getElem?_getD, ← List.getD_eq_getElem?_getD]
    · obtain rfl : i = F.all.length := by simp at hi; omega
      have := hu.keep hki
      rwa [List.getD_eq_getElem?_getD, List.getD_eq_getElem?_getD, List.getElem?_append_right (by omega), List.getElem?_append_right (by omega), h1, Nat.sub_self]
  have hv2 : ∀ g, v2.ownBlock = some g → g ≠ b := by
    intro g hgv
    obtain ⟨_, cells, e⟩ := hal2.typed g hgv
    rintro rfl
    rw [hblk] at e
    injection e with e
    injection e with _ e
    exact absurd e (by decide)
  refine ⟨⟨(blkSet hblk 1 _).trans rfl, ?_, hal2.keep hkc (fun g hgv => Below.heap_setCell _ _ _ _ (hv2 g hgv)), ?_, h.hb, h.hm, by have := h.hw; have := hg.size; simpa using (by omega : B ≤ w2.heap.size), ⟨h.ok.ml, by simpa using hal, fun s hs => ?_, h.ok.v⟩, (h.kp.trans (.grown hg fun g e cells t n1 e2 => by obtain ⟨_, cells', e3⟩ := h.all.typed g e; rw [e3] at e2; injection e2 with e2; injection e2 with _ e2; exact n1 e2.symm)).trans (.setCell hblk (.inr rfl))⟩, fun y ys hy => (hy.keep hki).keep hkc⟩
  · exact (h.map.kept hg (fun e => (h.own_ne m e.symm).2 rfl)).setCell h.m_ne _
  · exact (h.base.grown hg h.hw (fun k hk => (h.all.typed k hk).1)).setCell h.hb _
  · rcases List.mem_append.1 hs with e | e
    · exact h.ok.af s e
    · rw [List.mem_singleton.1 e]; exact ht

theorem FwV.app_cell {w0 : World} {B b m N : Nat} {F : Fw} {v : Value} {w w2 : World} (h : FwV w0 B b m N F v w) (hg : w.grownBy w2 v.ownBlock) : w2.cell? ⟨b, 1, none⟩ = some v ∧ w2.frozen? ⟨b, 1, none⟩ = false := by
  have hblk : w2.heap[b]? = some (Obj.cells #[.map (some m), v, .int .i64 F.vars, .bool F.done] 88 (0, 0)) := by
    rw [hg.block b (Array.getElem?_eq_some_iff.1 h.blk).1 (fun e => (h.own_ne b e.symm).1 rfl)]; exact h.blk
  exact ⟨by unfold World.cell?; rw [hblk]; rfl, by simp [World.frozen?, hblk]⟩

theorem infoRow : (Tryz.prog.info? 40).map (fun i => (i.zero, i.size, i.bytes)) = some (some (.slice none 0 0), 1, 24) := by kernel_rfl
theorem tidy_fm (c : List Int) : ∀ x ∈ tidyL c, fm x = true := fun x hx => ((mem_tidy c x).1 hx).2
theorem text_key (A : Option Addr) (c : Nat) (xs : List Int) (w : World) (hC : IC w A xs) (hl : xs.length ≤ 2097152) (hx : ∀ x ∈ xs, fm x = true) (hT : Tab w) :
    Calls Tryz.prog 66 #[.slice A xs.length c] w fun e w' => e = .returned (.string (keyB xs)) ∧ Below w.heap.size w w' := text_any A c xs w hC hl hx hT

set_option maxHeartbeats 8000000 in
set_option maxRecDepth 100000 in
theorem put_any (w0 : World) (B b m N : Nat) (F : Fw) (Af : Option Addr) (cf : Nat) (c : List Int) (w : World) (h : FwR w0 B b m N F w) (hF : IC w Af c) (hl : c.length ≤ 17592186044416) (hT : Lib.TabBelow Tryz.prog B w0 "internal/strconv.uint64pow10" .u64 Lib.pow10Tab) (hN : N ≤ 4194304) :
    Calls Tryz.prog 46 #[.pointer (some ⟨b, 0, none⟩), .slice Af c.length cf] w fun e w' => e = .returned (.tuple #[]) ∧ FwR w0 B b m (N + 1) (putW F c) w' := by
  obtain ⟨v, h⟩ := h
  obtain ⟨i0, hi, hz0, hz1, hz2⟩ := info_parts infoRow
  have HIn := Lib.hid (And.intro hi (And.intro hz0 (And.intro hz1 hz2)))
  have HTi := Lib.hid (tidy_any Af cf c w hF (by omega))
  have HT := Lib.hid hT
  have htl : (tidyL c).length ≤ 2097152 ∧ ∀ x ∈ tidyL c, fm x = true := ⟨tidy_len c, tidy_fm c⟩
  have HTl := Lib.hid htl
  have HKey := Lib.hid (key_of htl.1 htl.2)
  have HV := Lib.hid h
  have HP := Lib.hid (show putW F c = { F with ms := F.ms ++ [tidyL c], all := if F.ms.count (tidyL c) = 0 then F.all ++ [tidyL c] else F.all, vars := reachV F.vars (tidyL c) } from rfl)
  have HCn := Lib.hid (show F.ms.count (tidyL c) ≤ 4194304 by have := List.count_le_length (a := tidyL c) (l := F.ms); have := h.ok.ml; omega)
  unfold TidyPost at HTi
  clear h hi hz0 hz1 hz2 hF hT htl
  generalize putW F c = G at *
  generalize hn : c.length = n at *
  clear hn
  generalize tidyL c = t at *
  obtain ⟨z, hz⟩ : ∃ z : Int, z = F.ms.count t := ⟨_, rfl⟩
  have HZ := Lib.hid hz
  have z0 : 0 ≤ z := by omega
  have z1 : z ≤ 4194304 := by have := HCn.out; omega
  by_cases h0 : F.ms.count t = 0
  · obtain rfl : z = 0 := by omega
    have HP2 := Lib.hid (show G = { F with ms := F.ms ++ [t], all := F.all ++ [t], vars := reachV F.vars t } by rw [HP.out, if_pos h0])
    clear hz h0
    go_enter Tryz.func46, Tryz.ntmps46
    go_wp2_with (first
      | (go_at_call 65; refine HTi.out.mono ?_; rintro e w1 ⟨u, rfl, hown, hb⟩; have HV1 := Lib.hid (HV.out.step hb); have HU1 := Lib.hid (show RowR w1 B u t from by unfold RowR; rw [show t.length = (ints .i64 t).length by simp [ints]]; exact own_lower hown HV.out.hw); clear hown hb; obtain ⟨A1, c1, hu, _, hic⟩ := HU1.out.ic; subst hu; have HI1 := Lib.hid hic; clear hic)
      | (go_at_call 66; refine (text_key A1 c1 t w1 HI1.out HTl.out.1 HTl.out.2 (HT.out _ HV1.out.base)).mono ?_; rintro e w2 ⟨rfl, hb⟩; have HV2 := Lib.hid (HV1.out.step hb); have HU2 := Lib.hid (HU1.out.keep (.of_below hb)); clear hb; have hc20 := HV2.out.cell.1; obtain ⟨D, hD, hk⟩ := HV2.out.map; have HD := Lib.hid hD; have HK := Lib.hid hk; obtain ⟨q, hrun, hat, _⟩ := hD.lookup_int (t := 86) (e := 3) lawS Tryz.underlying86 Tryz.underlying3 (zero3 _) HKey.out; obtain rfl : 0 = q := (by have := (hk t).symm.trans hat; rw [← HZ.out] at this; simpa [dI] using this); clear hat hD hk)
      | (at_mapUpdate; refine wpList_mapUpdate_own _ rfl _ _ _ 86 rfl 9 3 lawS Tryz.underlying86 _ m N D rfl HD.out (by unfold maxLen; omega) _ _ _ rfl rfl HKey.out _ [] (plainElem_int Tryz.underlying3 (WalkArith.wf_i64 (by omega))) ?_; intro w3 hown3 hgrow3; have HV3 := Lib.hid (HV2.out.counted t (MapR.more HD.out HK.out t 0 HZ.out hown3) hgrow3); have HU3 := Lib.hid (HU2.out.grownM HV2.out.map hgrow3); obtain ⟨q, hrun3, hat3, _⟩ := hown3.lookup_int (t := 86) (e := 3) lawS Tryz.underlying86 Tryz.underlying3 (zero3 _) HKey.out; obtain rfl : 1 = q := (by rw [atKey_put_same HD.out.isMap (isKey_str _)] at hat3; simpa [dI] using hat3); clear hat3 hown3 hgrow3; have hc30 := HV3.out.cell.1; have hc31 := HV3.out.cell.2.1; obtain ⟨vs, hvl, hvo, hvr⟩ := HV3.out.all; have HVo := Lib.hid hvo; have HVr := Lib.hid hvr; have HVl := Lib.hid hvl; clear hvo hvr hvl)
      | (at_builtin; refine wpList_append_own _ rfl _ _ 22 rfl B 40 i0 (.slice none 0 0) 1 24 Tryz.underlying22 HIn.out.1 HIn.out.2.1 HIn.out.2.2.1 HIn.out.2.2.2 rfl (by decide) v F.all.length vs rfl (HVo.out.alloc _) ⟨w3.heap.size, 0, none⟩ 1 1 [.slice A1 t.length c1] rfl rfl (by intro j u' hj; match j, hj with | 0, hj => simp at hj; subst hj; simp [Addr.add]) (by intro u' hu'; simp at hu'; subst hu'; rfl) (by have := HV.out.ok.al; unfold maxLen; omega) (by have := HV.out.ok.al; omega) (by have := HV3.out.hw; simp; omega) ?_; intro v4 w4 hown4 hgrow4 _; have HA4 := Lib.hid (HV3.out.app HU3.out HTl.out HVl.out HVr.out hown4 ((World.grownBy_alloc _ _ _).trans hgrow4) (by have := HV.out.ok.al; show F.all.length + 1 ≤ N + 1; omega)); obtain ⟨hc41, hf41⟩ := HV3.out.app_cell ((World.grownBy_alloc _ _ _).trans hgrow4); clear hown4 hgrow4; obtain ⟨A4, n4, c4, e4⟩ : ∃ A n c, v4 = .slice A n c := (by obtain ⟨A, c, e, _⟩ := HA4.out.1.all.rc; exact ⟨A, _, c, e⟩); subst e4)
      | (go_at_call 81; refine (reach_any w0 B b m (N + 1) _ _ _ t _ HA4.out.1 (HA4.out.2 _ _ HU3.out) (by have := HTl.out.1; omega) HTl.out.2).mono ?_; rintro e w5 ⟨rfl, hv5⟩; have HV5 := Lib.hid hv5; clear hv5))
    refine bodyPost_end (results_none rfl _ _ _) rfl ⟨rfl, ?_⟩
    rw [HP2.out]
    exact ⟨_, HV5.out⟩
  · have z2 : 1 ≤ z := by omega
    have hne : (z + 1 == 1) = false := by simpa using (show z + 1 ≠ 1 by omega)
    have HP2 := Lib.hid (show G = { F with ms := F.ms ++ [t], all := F.all, vars := reachV F.vars t } by rw [HP.out, if_neg h0])
    clear hz h0
    go_enter Tryz.func46, Tryz.ntmps46
    go_wp2_with (first
      | (go_at_call 65; refine HTi.out.mono ?_; rintro e w1 ⟨u, rfl, hown, hb⟩; have HV1 := Lib.hid (HV.out.step hb); have HU1 := Lib.hid (show RowR w1 B u t from by unfold RowR; rw [show t.length = (ints .i64 t).length by simp [ints]]; exact own_lower hown HV.out.hw); clear hown hb; obtain ⟨A1, c1, hu, _, hic⟩ := HU1.out.ic; subst hu; have HI1 := Lib.hid hic; clear hic)
      | (go_at_call 66; refine (text_key A1 c1 t w1 HI1.out HTl.out.1 HTl.out.2 (HT.out _ HV1.out.base)).mono ?_; rintro e w2 ⟨rfl, hb⟩; have HV2 := Lib.hid (HV1.out.step hb); have HU2 := Lib.hid (HU1.out.keep (.of_below hb)); clear hb; have hc20 := HV2.out.cell.1; obtain ⟨D, hD, hk⟩ := HV2.out.map; have HD := Lib.hid hD; have HK := Lib.hid hk; obtain ⟨q, hrun, hat, _⟩ := hD.lookup_int (t := 86) (e := 3) lawS Tryz.underlying86 Tryz.underlying3 (zero3 _) HKey.out; obtain rfl : z = q := (by have := (hk t).symm.trans hat; rw [← HZ.out] at this; simpa [dI] using this); clear hat hD hk)
      | (at_mapUpdate; refine wpList_mapUpdate_own _ rfl _ _ _ 86 rfl 9 3 lawS Tryz.underlying86 _ m N D rfl HD.out (by unfold maxLen; omega) _ _ _ rfl rfl HKey.out _ [] (plainElem_int Tryz.underlying3 (WalkArith.wf_i64 (by omega))) ?_; intro w3 hown3 hgrow3; have HV3 := Lib.hid (HV2.out.counted t (MapR.more HD.out HK.out t z HZ.out hown3) hgrow3); have HU3 := Lib.hid (HU2.out.grownM HV2.out.map hgrow3); obtain ⟨q, hrun3, hat3, _⟩ := hown3.lookup_int (t := 86) (e := 3) lawS Tryz.underlying86 Tryz.underlying3 (zero3 _) HKey.out; obtain rfl : z + 1 = q := (by rw [atKey_put_same HD.out.isMap (isKey_str _)] at hat3; simpa [dI] using hat3); clear hat3 hown3 hgrow3; have hc30 := HV3.out.cell.1)
      | (go_at_call 81; refine (reach_any w0 B b m (N + 1) _ v _ t _ HV3.out HU3.out (by have := HTl.out.1; omega) HTl.out.2).mono ?_; rintro e w5 ⟨rfl, hv5⟩; have HV5 := Lib.hid hv5; clear hv5))
    refine bodyPost_end (results_none rfl _ _ _) rfl ⟨rfl, ?_⟩
    rw [HP2.out]
    exact ⟨v, HV5.out⟩

end Go.Proofs.YtcaoobdbgdldaaaGreatDoor.Fwd
