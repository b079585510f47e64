/- Part of the proof of ForwardLasts: what the law uses of the text FwD. -/
import Derived.Test.YtcaoobdbgdldaaaGreatDoorZPFwC
import Derived.Deep.RegionWith
namespace Go.Proofs.YtcaoobdbgdldaaaGreatDoor.Fwd
open Go.RowKit Go.Shelf Go.Maps Go.Proofs.YtcaoobdbgdldaaaGreatDoor.Lit Go.Proofs.YtcaoobdbgdldaaaGreatDoor.Spr
set_option linter.unusedVariables false
set_option linter.unusedSimpArgs false

theorem blkSet {w : World} {g : Nat} {t : TypeId} {cs : Array Value} (h : w.heap[g]? = some (.cells cs t (0, 0))) (i : Nat) (u : Value) : (w.setCell ⟨g, i, none⟩ u).heap[g]? = some (.cells (cs.setIfInBounds i u) t (0, 0)) := by
  simp [World.setCell, Array.getElem?_modify, h]
theorem KeepI.setCell {w : World} {b i : Nat} {u : Value} {cells : Array Value} {t : TypeId} (h : w.heap[b]? = some (Obj.cells cells t (0, 0))) (ht : t ≠ 3) : KeepI w (w.setCell ⟨b, i, none⟩ u) := fun g c e => by
  have hne : g ≠ b := by
    rintro rfl
    rw [h] at e
    injection e with e
    injection e with _ e
    exact ht e
  rw [Below.heap_setCell w ⟨b, i, none⟩ u g hne]; exact e
theorem KeepI.grown {w w1 : World} {row : Option Nat} (hg : w.grownBy w1 row) (h : ∀ g, row = some g → ∀ cells : Array Value, w.heap[g]? ≠ some (Obj.cells cells 3 (0, 0))) : KeepI w w1 := fun g c e => by
  rw [hg.block g (Array.getElem?_eq_some_iff.1 e).1 (fun e2 => h g e2.symm c e)]; exact e

theorem FwV.own_ne {w0 : World} {B b m N : Nat} {F : Fw} {v : Value} {w : World} (h : FwV w0 B b m N F v w) : ∀ g, v.ownBlock = some g → g ≠ b ∧ g ≠ m := by
  intro g hg
  obtain ⟨_, cells, e⟩ := h.all.typed g hg
  constructor
  · rintro rfl
    rw [h.blk] at e
    injection e with e
    injection e with _ e
    exact absurd e (by decide)
  · rintro rfl
    obtain ⟨es, clock, e2⟩ := h.map.lt
    rw [e2] at e
    cases e
theorem FwV.m_ne {w0 : World} {B b m N : Nat} {F : Fw} {v : Value} {w : World} (h : FwV w0 B b m N F v w) : m ≠ b := by
  rintro rfl
  obtain ⟨es, clock, e2⟩ := h.map.lt
  have := h.blk
  rw [e2] at this
  cases this
theorem FwV.setVars {w0 : World} {B b m N : Nat} {F : Fw} {v : Value} {w : World} (h : FwV w0 B b m N F v w) (x : Int) (hx : 0 ≤ x ∧ x ≤ 1048576) : FwV w0 B b m N { F with vars := x } v (w.setCell ⟨b, 2, none⟩ (.int .i64 x)) :=
  ⟨(blkSet h.blk 2 _).trans rfl, h.map.setCell h.m_ne _, h.all.keep (.setCell h.blk (by decide)) (fun g hg => Below.heap_setCell _ _ _ _ (h.own_ne g hg).1), h.base.setCell h.hb _, h.hb, h.hm, by have := h.hw; simpa using this, ⟨h.ok.ml, h.ok.al, h.ok.af, hx⟩, h.kp.trans (.setCell h.blk (.inr rfl))⟩
theorem FwV.setDone {w0 : World} {B b m N : Nat} {F : Fw} {v : Value} {w : World} (h : FwV w0 B b m N F v w) (d : Bool) : FwV w0 B b m N { F with done := d } v (w.setCell ⟨b, 3, none⟩ (.bool d)) :=
  ⟨(blkSet h.blk 3 _).trans rfl, h.map.setCell h.m_ne _, h.all.keep (.setCell h.blk (by decide)) (fun g hg => Below.heap_setCell _ _ _ _ (h.own_ne g hg).1), h.base.setCell h.hb _, h.hb, h.hm, by have := h.hw; simpa using this, ⟨h.ok.ml, h.ok.al, h.ok.af, h.ok.v⟩, h.kp.trans (.setCell h.blk (.inr rfl))⟩
theorem RowR.setCell {w : World} {B : Nat} {u : Value} {xs : List Int} (h : RowR w B u xs) {b i : Nat} {x : Value} {cells : Array Value} {t : TypeId} (hb : w.heap[b]? = some (Obj.cells cells t (0, 0))) (ht : t ≠ 3) : RowR (w.setCell ⟨b, i, none⟩ x) B u xs := h.keep (.setCell hb ht)

theorem formula_any (w0 : World) (B b m N : Nat) (F : Fw) (v : Value) (w : World) (h : FwV w0 B b m N F v w) :
    Calls Tryz.prog 64 #[.pointer (some ⟨b, 0, none⟩)] w fun e w' => e = .returned (.agg #[.int .i64 F.vars, v]) ∧ Below w.heap.size w w' := by
  obtain ⟨A, c, rfl, _, _⟩ := h.all.rc
  obtain ⟨_, hc1, hc2, _⟩ := h.cell
  have hlt : b < w.heap.size := (Array.getElem?_eq_some_iff.1 h.blk).1
  generalize F.vars = x at *
  clear h
  generalize F.all.length = n at *
  go_enter Tryz.func64, Tryz.ntmps64
  go_wp2
  go_region
  go_wp2
  refine bodyPost_ret (v := .agg #[.int .i64 x, .slice A n c]) (by simp [results, Tryz.results64, go_sem]) rfl ⟨rfl, below_drewN ((Below.refl _ _).alloc (Nat.le_refl _) _) 1⟩
theorem refuses_any (w0 : World) (B b m N : Nat) (F : Fw) (Af : Option Addr) (cf : Nat) (c : List Int) (w : World) (h : FwR w0 B b m N F w) (hF : IC w Af c) (hl : c.length ≤ 9223372036854775807) :
    Calls Tryz.prog 62 #[.pointer (some ⟨b, 0, none⟩), .slice Af c.length cf] w fun e w' => e = .returned (.int .i64 (refusesR F c)) ∧ w = w' := by
  obtain ⟨v, h⟩ := h
  obtain ⟨_, _, _, hc3⟩ := h.cell
  have HS := Lib.hid (sound_any Af cf c w hF hl)
  unfold refusesR
  clear h hF
  generalize c.length = n at *
  generalize c.all fm = p at *
  generalize F.done = d at *
  cases p with
  | true =>
    cases d with
    | true =>
      go_enter Tryz.func62, Tryz.ntmps62
      go_wp2_with (go_at_call 86; refine HS.out.mono ?_; rintro e w2 ⟨rfl, rfl⟩)
      go_ret
      exact ⟨rfl, rfl⟩
    | false =>
      go_enter Tryz.func62, Tryz.ntmps62
      go_wp2_with (go_at_call 86; refine HS.out.mono ?_; rintro e w2 ⟨rfl, rfl⟩)
      go_ret
      exact ⟨rfl, rfl⟩
  | false =>
    go_enter Tryz.func62, Tryz.ntmps62
    go_wp2_with (go_at_call 86; refine HS.out.mono ?_; rintro e w2 ⟨rfl, rfl⟩)
    go_ret
    exact ⟨rfl, rfl⟩

set_option maxHeartbeats 4000000 in
set_option maxRecDepth 100000 in
theorem reach_any (w0 : World) (B b m N : Nat) (F : Fw) (v : Value) (u : Value) (t : List Int) (w : World) (h : FwV w0 B b m N F v w) (hu : RowR w B u t) (hl : t.length ≤ 9223372036854775807) (hf : ∀ x ∈ t, fm x = true) :
    Calls Tryz.prog 81 #[.pointer (some ⟨b, 0, none⟩), u] w fun e w' => e = .returned (.tuple #[]) ∧ FwV w0 B b m N { F with vars := reachV F.vars t } v w' := by
  have hbd : ∀ k, k ≤ t.length → 0 ≤ reachV F.vars (t.take k) ∧ reachV F.vars (t.take k) ≤ 1048576 := by
    intro k
    induction k with
    | zero => intro _; exact h.ok.v
    | succ k ih =>
      intro hk
      have e : t.take (k + 1) = t.take k ++ [t.getD k 0] := by
        rw [List.take_add_one, List.getD_eq_getElem?_getD, List.getElem?_eq_getElem (by omega)]; rfl
      have h1 := ih (by omega)
      have h2 := lv_bd (t.getD k 0)
      rw [e, reachV_snoc]
      omega
  have HBd := Lib.hid hbd
  have HSn := Lib.hid (fun k (hk : k < t.length) => show reachV F.vars (t.take (k + 1)) = max (reachV F.vars (t.take k)) (lv (t.getD k 0)) by
    rw [← reachV_snoc, List.take_add_one, List.getD_eq_getElem?_getD, List.getElem?_eq_getElem hk]; rfl)
  have HEnd := Lib.hid (show reachV F.vars (t.take t.length) = reachV F.vars t by rw [List.take_length])
  have HI := Lib.hid (show FwV w0 B b m N { F with vars := reachV F.vars (t.take 0) } v w ∧ RowR w B u t from ⟨h, hu⟩)
  obtain ⟨A, c, rfl, _, _⟩ := hu.ic
  clear h hbd hu
  generalize hN : t.length = n at *
  have HNn := Lib.hid hN
  clear hN
  go_enter Tryz.func81, Tryz.ntmps81
  go_wp2
  go_loopw [8] (fun i wr => ∃ k : Nat, k ≤ n ∧ i = .int .i64 k ∧ FwV w0 B b m N { F with vars := reachV F.vars (t.take k) } v wr ∧ RowR wr B (.slice A n c) t) (fun i _ => n - (intOf i).toNat)
  case atStart => exact ⟨0, Nat.zero_le _, rfl, HI.out.1, HI.out.2⟩
  case round =>
    obtain ⟨k, hk, rfl, hr, hro⟩ := hrel
    by_cases hlt : k < n
    · obtain ⟨A', c', e1, _, hic⟩ := hro.ic
      obtain rfl : A' = A := by injection e1 with e1; exact e1.symm
      clear e1
      obtain ⟨ad, hA, hx⟩ := hic k (by rw [HNn.out]; exact hlt)
      subst hA
      obtain ⟨_, _, hc2, _⟩ := hr.cell
      have hfz := hr.free 2
      have HR := Lib.hid hr
      have HRo := Lib.hid hro
      have hb1 := (HBd.out (k + 1) (by omega))
      rw [HSn.out k hlt] at hb1
      have HS := Lib.hid (HSn.out k hlt)
      have HV := Lib.hid (fun w2 => var_any (t.getD k 0) w2)
      clear hr hro hic
      generalize t.getD k 0 = x at *
      generalize lv x = y at *
      have hc2' : wr.drew.cell? ⟨b, 2, none⟩ = some (.int .i64 (reachV F.vars (t.take k))) := hc2
      have hfz' : wr.drew.frozen? ⟨b, 2, none⟩ = false := hfz
      generalize hz : reachV F.vars (t.take k) = z at *
      go_upto_region 3 with (fail)
      go_region_with (first
        | (go_at_call 60; refine (HV.out _).mono ?_; rintro e w2 ⟨rfl, rfl⟩))
      all_goals
        go_wp2
        go_roundw
        case rel =>
          refine ⟨k + 1, by omega, by go_num, ?_, ?_⟩
          · rw [HS.out]
            exact (HR.out.setVars _ hb1).step (below_drewN (Below.refl _ _) 1)
          · exact (HRo.out.setCell HR.out.blk (by decide)).keep (.of_below (below_drewN (Below.refl _ _) 1))
        case measure => simp [intOf]; omega
    · obtain rfl : k = n := by omega
      rw [HEnd.out] at hr
      have HR := Lib.hid hr
      clear hr hro
      go_wp2
      refine bodyPost_end (results_none rfl _ _ _) rfl ⟨rfl, HR.out⟩

end Go.Proofs.YtcaoobdbgdldaaaGreatDoor.Fwd
