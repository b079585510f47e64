/- Part of the proof of ForwardScript: what the law uses of the text FwI. -/
import Derived.Test.YtcaoobdbgdldaaaGreatDoorZPFwH
namespace Go.Proofs.YtcaoobdbgdldaaaGreatDoor.Fwd
open Go.RowKit Go.Shelf Go.Maps Go.Proofs.YtcaoobdbgdldaaaGreatDoor.Lit Go.Proofs.YtcaoobdbgdldaaaGreatDoor.Spr
set_option linter.unusedVariables false
set_option linter.unusedSimpArgs false

theorem MapR.less {w w1 : World} {m N : Nat} {ms : List (List Int)} {D : DataW Unit} (hD : w.ownsMap Tryz.prog 9 (plainElem Tryz.prog 3) m N D) (hk : ∀ t, D.atKey (.string (txt t)) (dI 0) = dI (ms.count t)) (t : List Int) (z : Int) (hz : z = ms.count t) (hp : 0 < z)
    (h1 : w1.ownsMap Tryz.prog 9 (plainElem Tryz.prog 3) m (N + 1) (D.put (.string (txt t)) (dI (z - 1)))) : MapR w1 m (N + 1) (ms.erase t) := by
  refine ⟨_, h1, fun s => ?_⟩
  by_cases e : s = t
  · subst e
    rw [atKey_put_same hD.isMap (isKey_str _), List.count_erase_self, hz]
    congr 1; omega
  · rw [atKey_put_other (fun h => e (txt_inj _ _ (by injection h))), hk s, List.count_erase_of_ne e]
theorem MapR.gone {w w1 : World} {m N : Nat} {ms : List (List Int)} {D : DataW Unit} (hD : w.ownsMap Tryz.prog 9 (plainElem Tryz.prog 3) m N D) (hk : ∀ t, D.atKey (.string (txt t)) (dI 0) = dI (ms.count t)) (t : List Int) (hz : ms.count t = 0)
    (h1 : w1.ownsMap Tryz.prog 9 (plainElem Tryz.prog 3) m N (D.del (.string (txt t)))) : MapR w1 m N ms := by
  refine ⟨_, h1, fun s => ?_⟩
  by_cases e : s = t
  · subst e
    rw [atKey_del_same, hz]; rfl
  · rw [atKey_del_other (fun h => e (txt_inj _ _ (by injection h))), hk s]
theorem FwV.recount {w0 : World} {B b m N M : Nat} {F : Fw} {v : Value} {w w1 : World} (h : FwV w0 B b m N F v w) (ms : List (List Int)) (hm : MapR w1 m M ms) (hg : w.grownBy w1 (some m)) (hN : N ≤ M) (hms : ms.length ≤ M) : FwV w0 B b m M { F with ms := ms } v w1 := by
  have hmi : ∀ g, some m = some g → ∀ cells : Array Value, w.heap[g]? ≠ some (Obj.cells cells 3 (0, 0)) := fun g e cells e2 => by
    injection e with e
    subst e
    obtain ⟨es, clock, e3⟩ := h.map.lt
    rw [e3] at e2; cases e2
  refine ⟨?_, hm, h.all.keep (.grown hg hmi) (fun g hg2 => ?_), h.base.grown hg h.hw (fun k hk => by injection hk with hk; subst hk; exact h.hm), h.hb, h.hm, Nat.le_trans h.hw hg.size, ⟨hms, Nat.le_trans h.ok.al hN, h.ok.af, h.ok.v⟩, h.kp.trans (.grown hg fun g e cells _ _ e2 => by injection e with e; subst e; obtain ⟨es, clock, e3⟩ := h.map.lt; rw [e3] at e2; cases e2), h.ko.trans (.mk' h.blk (by rw [hg.block b (Array.getElem?_eq_some_iff.1 h.blk).1 (fun e => by injection e with e; exact h.m_ne e.symm)]; exact h.blk) hg.size (fun g hl _ n2 _ => hg.block g hl (fun e => by injection e with e; exact n2 e)) (.inl rfl))⟩
  · rw [hg.block b (Array.getElem?_eq_some_iff.1 h.blk).1 (fun e => by injection e with e; exact h.m_ne e.symm)]; exact h.blk
  · obtain ⟨_, cells, e⟩ := h.all.typed g hg2
    exact hg.block g (Array.getElem?_eq_some_iff.1 e).1 (fun e => by injection e with e; exact (h.own_ne g hg2).2 e)
theorem FwV.fewer {w0 : World} {B b m N : Nat} {F : Fw} {v v2 : Value} {w w2 : World} (h : FwV w0 B b m N F v w) {all : List (List Int)} (ha : AllR w2 B v2 all) (hg : w.grownBy w2 v.ownBlock) (hv : v2.ownBlock = v.ownBlock) (hsub : ∀ t ∈ all, t ∈ F.all) (hlen : all.length ≤ F.all.length) :
    FwV w0 B b m N { F with all := all } v2 (w2.setCell ⟨b, 1, none⟩ v2) := by
  have hblk : w2.heap[b]? = some (Obj.cells #[.map (some m), v, .int .i64 F.vars, .bool F.done] 88 (0, 0)) := by
    rw [hg.block b (Array.getElem?_eq_some_iff.1 h.blk).1 (fun e => (h.own_ne b e.symm).1 rfl)]; exact h.blk
  refine ⟨(blkSet hblk 1 _).trans rfl, ?_, ha.keep (.setCell hblk (by decide)) (fun g hgv => Below.heap_setCell _ _ _ _ (h.own_ne g (hv ▸ hgv)).1), ?_, h.hb, h.hm, by have := h.hw; have := hg.size; simpa using (by omega : B ≤ w2.heap.size), ⟨h.ok.ml, Nat.le_trans hlen h.ok.al, fun s hs => h.ok.af s (hsub s hs), h.ok.v⟩, (h.kp.trans (.grown hg fun g e cells t n1 e2 => by obtain ⟨_, cells', e3⟩ := h.all.typed g e; rw [e3] at e2; injection e2 with e2; injection e2 with _ e2; exact n1 e2.symm)).trans (.setCell hblk (.inr rfl)), h.ko.trans (.mk' h.blk ((blkSet hblk 1 _).trans rfl) (by have := hg.size; simpa using this) (fun g hl n1 _ n3 => (Below.heap_setCell _ _ _ _ n1).trans (hg.block g hl n3)) (.inl hv))⟩
  · exact (h.map.kept hg (fun e => (h.own_ne m e.symm).2 rfl)).setCell h.m_ne _
  · exact (h.base.grown hg h.hw (fun k hk => (h.all.typed k hk).1)).setCell h.hb _

def BoxC (bx : Nat) (s : Value) (w : World) : Prop := w.heap[bx]? = some (Obj.cells #[s] 40 (0, 0))
theorem BoxC.init (w : World) (s : Value) : BoxC w.heap.size s (w.alloc (.cells #[s] 40)) := heap_alloc_new w _
theorem BoxC.step {bx : Nat} {s : Value} {w w2 : World} (h : BoxC bx s w) (hb : Below w.heap.size w w2) : BoxC bx s w2 := by
  unfold BoxC
  rw [hb.block bx (Array.getElem?_eq_some_iff.1 h).1]; exact h
theorem BoxC.set {bx : Nat} {s : Value} {w : World} (h : BoxC bx s w) (u : Value) : BoxC bx u (w.setCell ⟨bx, 0, none⟩ u) := (blkSet h 0 u).trans rfl
theorem BoxC.grownM {bx : Nat} {s : Value} {w w1 : World} {m : Nat} (h : BoxC bx s w) (hg : w.grownBy w1 (some m)) (hne : bx ≠ m) : BoxC bx s w1 := by
  unfold BoxC
  rw [hg.block bx (Array.getElem?_eq_some_iff.1 h).1 (fun e => by injection e with e; exact hne e)]; exact h
theorem BoxC.cell {bx : Nat} {s : Value} {w : World} (h : BoxC bx s w) : w.cell? ⟨bx, 0, none⟩ = some s := by unfold World.cell?; rw [h]; rfl
theorem BoxC.free {bx : Nat} {s : Value} {w : World} (h : BoxC bx s w) : w.frozen? ⟨bx, 0, none⟩ = false := by
  have h2 : w.heap[bx]? = some (Obj.cells #[s] 40 (0, 0)) := h
  simp [World.frozen?, h2]

theorem FwV.setBox {w0 : World} {B b m N : Nat} {F : Fw} {v : Value} {w : World} (h : FwV w0 B b m N F v w) {bx : Nat} {s : Value} (hx : BoxC bx s w) (h0 : w0.heap.size ≤ bx) (hB : B ≤ bx) (hb : b < bx) (hm : m < bx) (hv : ∀ g, v.ownBlock = some g → g < bx) (u : Value) : FwV w0 B b m N F v (w.setCell ⟨bx, 0, none⟩ u) :=
  ⟨by rw [Below.heap_setCell w ⟨bx, 0, none⟩ u b (by show b ≠ bx; omega)]; exact h.blk, h.map.setCell (by show m ≠ bx; omega) _, h.all.keep (.setCell hx (by decide)) (fun g hg => Below.heap_setCell w ⟨bx, 0, none⟩ u g (by have := hv g hg; show g ≠ bx; omega)), h.base.setCell hB _, h.hb, h.hm, by have := h.hw; simpa using this, h.ok, h.kp.trans (.setCell hx (.inl rfl)), h.ko.setFresh h0 (by omega) u⟩

def DropPost (w0 : World) (B b m N : Nat) (r : Int × Int × Fw) (e : Ending) (w' : World) : Prop := e = .returned (.tuple #[.int .i64 r.1, .int .i64 r.2.1]) ∧ FwR w0 B b m (N + 1) r.2.2 w'

set_option maxHeartbeats 8000000 in
set_option maxRecDepth 100000 in
theorem drop_any (w0 : World) (B b m N : Nat) (F : Fw) (Af : Option Addr) (cf : Nat) (c : List Int) (w : World) (h : FwR w0 B b m N F w) (hF : IC w Af c) (hl : c.length ≤ 17592186044416) (hT : Lib.TabBelow Tryz.prog B w0 "internal/strconv.uint64pow10" .u64 Lib.pow10Tab) (hN : N ≤ 4194304) (ham : ∀ t ∈ F.ms, t ∈ F.all) :
    Calls Tryz.prog 35 #[.pointer (some ⟨b, 0, none⟩), .slice Af c.length cf] w (DropPost w0 B b m N (dropW F c)) := by
  have hmf : ∀ (fn : Fn) (first cap : Array Value) (w : World), (Instr.makeFunc fn first cap).run Tryz.prog w = .ok (.func fn first cap) w := fun _ _ _ _ => rfl
  have hB1 : Below w.heap.size w (w.alloc (.cells #[.slice Af c.length cf] 40)) := (Below.refl _ _).alloc (Nat.le_refl _) _
  obtain ⟨v, hv⟩ := h
  have HV := Lib.hid hv
  have HV1 := Lib.hid (hv.step hB1)
  have HRf := Lib.hid (refuses_any w0 B b m N F Af cf c _ ⟨v, hv.step hB1⟩ (hF.below hB1) (by omega))
  have HTi := Lib.hid (tidy_any Af cf c _ (hF.below hB1) (by omega))
  have HX1 := Lib.hid (BoxC.init w (.slice Af c.length cf))
  have hx1c := HX1.out.cell
  have hx1f := HX1.out.free
  have HT := Lib.hid hT
  have htl : (tidyL c).length ≤ 2097152 ∧ ∀ x ∈ tidyL c, fm x = true := ⟨tidy_len c, tidy_fm c⟩
  have HTl := Lib.hid htl
  have HKey := Lib.hid (key_of htl.1 htl.2)
  have hrc := refuses_cases F c
  have hbxb : B ≤ w.heap.size := hv.hw
  have hbx0 : w0.heap.size ≤ w.heap.size := hv.ko.size
  have hbxbb : b < w.heap.size := (Array.getElem?_eq_some_iff.1 hv.blk).1
  have hbxm : m < w.heap.size := by obtain ⟨es, clock, e⟩ := hv.map.lt; exact (Array.getElem?_eq_some_iff.1 e).1
  have hbxv : ∀ g, v.ownBlock = some g → g < w.heap.size := fun g hg => by obtain ⟨_, cells, e⟩ := hv.all.typed g hg; exact (Array.getElem?_eq_some_iff.1 e).1
  have HBv := Lib.hid hbxv
  have HCn := Lib.hid (show F.ms.count (tidyL c) ≤ 4194304 by have := List.count_le_length (a := tidyL c) (l := F.ms); have := hv.ok.ml; omega)
  have HAm := Lib.hid (fun (hp : F.ms.count (tidyL c) ≠ 0) => show F.all ≠ [] from fun e => by
    have h1 := ham (tidyL c) (List.count_pos_iff.1 (by omega))
    rw [e] at h1; cases h1)
  unfold DropPost dropW
  unfold TidyPost at HTi
  clear hv hF hT htl hB1 hbxv
  generalize hq : refusesR F c = q at *
  clear hq
  generalize c.length = n at *
  generalize tidyL c = t at *
  generalize hkn : knownR F t = kn at *
  have HKn := Lib.hid hkn
  clear hkn
  generalize hGo : goneW F t = G at *
  have HG := Lib.hid (show G = { F with ms := F.ms.erase t, all := if F.ms.count t = 1 then F.all.filter (fun d => !(t == d)) else F.all } from hGo.symm)
  clear hGo
  obtain ⟨z, hz⟩ : ∃ z : Int, z = F.ms.count t := ⟨_, rfl⟩
  have HZ := Lib.hid hz
  have z0 : 0 ≤ z := by omega
  have z1 : z ≤ 4194304 := by have := HCn.out; omega
  rcases hrc with rfl | rfl | rfl
  · rw [if_pos rfl]
    by_cases h0 : F.ms.count t = 0
    · obtain rfl : z = 0 := by omega
      rw [if_pos h0]
      clear hz h0
      go_enter Tryz.func35, Tryz.ntmps35
      go_wp2_with (first
        | (go_at_call 62; refine HRf.out.mono ?_; rintro e w1 ⟨rfl, rfl⟩)
        | (go_at_call 65; refine HTi.out.mono ?_; rintro e w2 ⟨u, rfl, hown, hb⟩; have HX2 := Lib.hid (HX1.out.step hb); have HU2 := Lib.hid (show RowR w2 B u t from by unfold RowR; rw [show t.length = (ints .i64 t).length by simp [ints]]; exact own_lower hown (by have := HV1.out.hw; omega)); have HV3 := Lib.hid ((HV1.out.step hb).setBox HX2.out hbx0 hbxb hbxbb hbxm HBv.out u); clear hown hb; obtain ⟨A1, c1, hu, _, _⟩ := HU2.out.ic; subst hu; have hx2c := HX2.out.cell; have hx2f := HX2.out.free; have HU3 := Lib.hid (HU2.out.setCell (i := 0) (x := .slice A1 t.length c1) HX2.out (by decide)); have HX3 := Lib.hid (HX2.out.set (.slice A1 t.length c1)); have hx3c := HX3.out.cell; obtain ⟨A1', c1', e1, _, hic⟩ := HU3.out.ic; obtain rfl : A1 = A1' := (by injection e1); have HI3 := Lib.hid hic; clear e1 hic)
        | (go_at_call 66; refine (text_key A1 c1 t _ HI3.out HTl.out.1 HTl.out.2 (HT.out _ HV3.out.base)).mono ?_; rintro e w4 ⟨rfl, hb⟩; have HV4 := Lib.hid (HV3.out.step hb); have HU4 := Lib.hid (HU3.out.keep (.of_below hb)); have HX4 := Lib.hid (HX3.out.step hb); clear hb; have hx4c := HX4.out.cell; have hc40 := HV4.out.cell.1; obtain ⟨D4, hD4, hk4⟩ := HV4.out.map; obtain ⟨q, hrun4, hat, _⟩ := hD4.lookup_int (t := 86) (e := 3) lawS Tryz.underlying86 Tryz.underlying3 (zero3 _) HKey.out; obtain rfl : 0 = q := (by have := (hk4 t).symm.trans hat; rw [← HZ.out] at this; simpa [dI] using this); clear hat hD4 hk4))
      go_ret2
      exact ⟨rfl, FwR.mono ⟨v, HV4.out⟩ (Nat.le_succ _)⟩
    · rw [if_neg h0]
      have z2 : 1 ≤ z := by omega
      have hz0 : (z == 0) = false := by simpa using (show z ≠ 0 by omega)
      cases kn with
      | true =>
        rw [if_pos rfl]
        clear hz
        go_enter Tryz.func35, Tryz.ntmps35
        go_wp2_with (first
          | (go_at_call 62; refine HRf.out.mono ?_; rintro e w1 ⟨rfl, rfl⟩)
          | (go_at_call 65; refine HTi.out.mono ?_; rintro e w2 ⟨u, rfl, hown, hb⟩; have HX2 := Lib.hid (HX1.out.step hb); have HU2 := Lib.hid (show RowR w2 B u t from by unfold RowR; rw [show t.length = (ints .i64 t).length by simp [ints]]; exact own_lower hown (by have := HV1.out.hw; omega)); have HV3 := Lib.hid ((HV1.out.step hb).setBox HX2.out hbx0 hbxb hbxbb hbxm HBv.out u); clear hown hb; obtain ⟨A1, c1, hu, _, _⟩ := HU2.out.ic; subst hu; have hx2c := HX2.out.cell; have hx2f := HX2.out.free; have HU3 := Lib.hid (HU2.out.setCell (i := 0) (x := .slice A1 t.length c1) HX2.out (by decide)); have HX3 := Lib.hid (HX2.out.set (.slice A1 t.length c1)); have hx3c := HX3.out.cell; obtain ⟨A1', c1', e1, _, hic⟩ := HU3.out.ic; obtain rfl : A1 = A1' := (by injection e1); have HI3 := Lib.hid hic; clear e1 hic)
          | (go_at_call 66; refine (text_key A1 c1 t _ HI3.out HTl.out.1 HTl.out.2 (HT.out _ HV3.out.base)).mono ?_; rintro e w4 ⟨rfl, hb⟩; have HV4 := Lib.hid (HV3.out.step hb); have HU4 := Lib.hid (HU3.out.keep (.of_below hb)); have HX4 := Lib.hid (HX3.out.step hb); clear hb; have hx4c := HX4.out.cell; have hc40 := HV4.out.cell.1; obtain ⟨D4, hD4, hk4⟩ := HV4.out.map; obtain ⟨q, hrun4, hat, _⟩ := hD4.lookup_int (t := 86) (e := 3) lawS Tryz.underlying86 Tryz.underlying3 (zero3 _) HKey.out; obtain rfl : z = q := (by have := (hk4 t).symm.trans hat; rw [← HZ.out] at this; simpa [dI] using this); clear hat hD4 hk4)
          | (go_at_call 67; obtain ⟨A2, c2, e2, _, hi4⟩ := HU4.out.ic; obtain rfl : A1 = A2 := (by injection e2); refine (known_any w0 B b m N F A1 c1 t w4 ⟨v, HV4.out⟩ hi4 HTl.out.1 HTl.out.2 hN).mono ?_; clear e2 hi4; rw [HKn.out]; rintro e w5 ⟨rfl, hb⟩; have HV5 := Lib.hid (HV4.out.step hb); have HU5 := Lib.hid (HU4.out.keep (.of_below hb)); have HX5 := Lib.hid (HX4.out.step hb); clear hb))
        go_ret2
        exact ⟨rfl, FwR.mono ⟨v, HV5.out⟩ (Nat.le_succ _)⟩
      | false =>
        rw [if_neg (by decide)]
        by_cases h1 : F.ms.count t = 1
        · obtain rfl : z = 1 := by omega
          have HE0 := Lib.hid (show (F.ms.erase t).count t = 0 by rw [List.count_erase_self]; omega)
          have HG2 := Lib.hid (show G = { F with ms := F.ms.erase t, all := F.all.filter (fun d => !(t == d)) } by rw [HG.out, if_pos h1])
          clear hz
          go_enter Tryz.func35, Tryz.ntmps35
          go_wp2_with (first
            | (go_at_call 62; refine HRf.out.mono ?_; rintro e w1 ⟨rfl, rfl⟩)
            | (go_at_call 65; refine HTi.out.mono ?_; rintro e w2 ⟨u, rfl, hown, hb⟩; have HX2 := Lib.hid (HX1.out.step hb); have HU2 := Lib.hid (show RowR w2 B u t from by unfold RowR; rw [show t.length = (ints .i64 t).length by simp [ints]]; exact own_lower hown (by have := HV1.out.hw; omega)); have HV3 := Lib.hid ((HV1.out.step hb).setBox HX2.out hbx0 hbxb hbxbb hbxm HBv.out u); clear hown hb; obtain ⟨A1, c1, hu, _, _⟩ := HU2.out.ic; subst hu; have hx2c := HX2.out.cell; have hx2f := HX2.out.free; have HU3 := Lib.hid (HU2.out.setCell (i := 0) (x := .slice A1 t.length c1) HX2.out (by decide)); have HX3 := Lib.hid (HX2.out.set (.slice A1 t.length c1)); have hx3c := HX3.out.cell; obtain ⟨A1', c1', e1, _, hic⟩ := HU3.out.ic; obtain rfl : A1 = A1' := (by injection e1); have HI3 := Lib.hid hic; clear e1 hic)
            | (go_at_call 66; refine (text_key A1 c1 t _ HI3.out HTl.out.1 HTl.out.2 (HT.out _ HV3.out.base)).mono ?_; rintro e w4 ⟨rfl, hb⟩; have HV4 := Lib.hid (HV3.out.step hb); have HU4 := Lib.hid (HU3.out.keep (.of_below hb)); have HX4 := Lib.hid (HX3.out.step hb); clear hb; have hx4c := HX4.out.cell; have hc40 := HV4.out.cell.1; obtain ⟨D4, hD4, hk4⟩ := HV4.out.map; obtain ⟨q, hrun4, hat, _⟩ := hD4.lookup_int (t := 86) (e := 3) lawS Tryz.underlying86 Tryz.underlying3 (zero3 _) HKey.out; obtain rfl : 1 = q := (by have := (hk4 t).symm.trans hat; rw [← HZ.out] at this; simpa [dI] using this); clear hat hD4 hk4)
            | (go_at_call 67; obtain ⟨A2, c2, e2, _, hi4⟩ := HU4.out.ic; obtain rfl : A1 = A2 := (by injection e2); refine (known_any w0 B b m N F A1 c1 t w4 ⟨v, HV4.out⟩ hi4 HTl.out.1 HTl.out.2 hN).mono ?_; clear e2 hi4; rw [HKn.out]; rintro e w5 ⟨rfl, hb⟩; have HV5 := Lib.hid (HV4.out.step hb); have HU5 := Lib.hid (HU4.out.keep (.of_below hb)); have HX5 := Lib.hid (HX4.out.step hb); clear hb; have hc50 := HV5.out.cell.1; obtain ⟨D5, hD5, hk5⟩ := HV5.out.map; obtain ⟨q, hrun5, hat, _⟩ := hD5.lookup_int (t := 86) (e := 3) lawS Tryz.underlying86 Tryz.underlying3 (zero3 _) HKey.out; obtain rfl : 1 = q := (by have := (hk5 t).symm.trans hat; rw [← HZ.out] at this; simpa [dI] using this); clear hat; have HD5 := Lib.hid hD5; have HK5 := Lib.hid hk5; clear hD5 hk5)
            | (at_mapUpdate; refine wpList_mapUpdate_own _ rfl _ _ _ 86 rfl 9 3 lawS Tryz.underlying86 _ m N D5 rfl HD5.out (by unfold maxLen; omega) _ _ _ rfl rfl HKey.out _ [] (plainElem_int Tryz.underlying3 (WalkArith.wf_i64 (by omega))) ?_; intro w6 hown6 hgrow6; have HV6 := Lib.hid (HV5.out.recount (F.ms.erase t) (MapR.less HD5.out HK5.out t 1 HZ.out (by omega) hown6) hgrow6 (Nat.le_succ _) (by have := HV5.out.ok.ml; have := List.length_erase_le (a := t) (l := F.ms); omega)); have HU6 := Lib.hid (HU5.out.grownM HV5.out.map hgrow6); have HX6 := Lib.hid (HX5.out.grownM hgrow6 (by omega)); obtain ⟨q, hrun6, hat6, _⟩ := hown6.lookup_int (t := 86) (e := 3) lawS Tryz.underlying86 Tryz.underlying3 (zero3 _) HKey.out; obtain rfl : 0 = q := (by rw [atKey_put_same HD5.out.isMap (isKey_str _)] at hat6; simpa [dI] using hat6); clear hat6 hgrow6 hown6; have hc60 := HV6.out.cell.1)
            | (at_delete; obtain ⟨D6, hD6, hk6⟩ := HV6.out.map; refine wpList_delete_own _ rfl _ _ 86 9 rfl 3 lawS Tryz.underlying86 _ m (N + 1) D6 rfl hD6 _ _ rfl HKey.out ?_; intro w7 hown7 hturn7; have HV7 := Lib.hid (HV6.out.recount (F.ms.erase t) (MapR.gone hD6 hk6 t HE0.out hown7) hturn7.grown (Nat.le_refl _) HV6.out.ok.ml); have HU7 := Lib.hid (HU6.out.grownM HV6.out.map hturn7.grown); have HX7 := Lib.hid (HX6.out.grownM hturn7.grown (by omega)); clear hown7 hturn7 hD6 hk6; have hc71 := HV7.out.cell.2.1)
            | (go_at_call 68; refine (delete_rows B w.heap.size A1 c1 t v F.all w7 HV7.out.all (HAm.out (by omega)) (fun d hd => (HV7.out.ok.af d hd).1) (by have h9 : F.all.length ≤ N + 1 := HV7.out.ok.al; omega) HX7.out (fun e => by have := HBv.out _ e; omega) HU7.out HTl.out.1).mono ?_; rintro e w8 ⟨v8, rfl, ha8, hg8, ho8⟩; obtain ⟨hc81, hf81⟩ := HV7.out.app_cell hg8; have HV9 := Lib.hid (HV7.out.fewer ha8 hg8 ho8 (fun s hs => (List.mem_filter.1 hs).1) (List.length_filter_le _ _)); obtain ⟨A8, n8, c8, e8⟩ : ∃ A n c, v8 = .slice A n c := (by obtain ⟨A, c, e, _⟩ := ha8.rc; exact ⟨A, _, c, e⟩); subst e8; clear ha8 hg8 ho8))
          go_ret2
          refine ⟨rfl, ?_⟩
          rw [HG2.out]
          exact ⟨_, HV9.out⟩
        · have HG2 := Lib.hid (show G = { F with ms := F.ms.erase t, all := F.all } by rw [HG.out, if_neg h1])
          have hz1 : (z - 1 == 0) = false := by simpa using (show z - 1 ≠ 0 by omega)
          clear hz
          go_enter Tryz.func35, Tryz.ntmps35
          go_wp2_with (first
            | (go_at_call 62; refine HRf.out.mono ?_; rintro e w1 ⟨rfl, rfl⟩)
            | (go_at_call 65; refine HTi.out.mono ?_; rintro e w2 ⟨u, rfl, hown, hb⟩; have HX2 := Lib.hid (HX1.out.step hb); have HU2 := Lib.hid (show RowR w2 B u t from by unfold RowR; rw [show t.length = (ints .i64 t).length by simp [ints]]; exact own_lower hown (by have := HV1.out.hw; omega)); have HV3 := Lib.hid ((HV1.out.step hb).setBox HX2.out hbx0 hbxb hbxbb hbxm HBv.out u); clear hown hb; obtain ⟨A1, c1, hu, _, _⟩ := HU2.out.ic; subst hu; have hx2c := HX2.out.cell; have hx2f := HX2.out.free; have HU3 := Lib.hid (HU2.out.setCell (i := 0) (x := .slice A1 t.length c1) HX2.out (by decide)); have HX3 := Lib.hid (HX2.out.set (.slice A1 t.length c1)); have hx3c := HX3.out.cell; obtain ⟨A1', c1', e1, _, hic⟩ := HU3.out.ic; obtain rfl : A1 = A1' := (by injection e1); have HI3 := Lib.hid hic; clear e1 hic)
            | (go_at_call 66; refine (text_key A1 c1 t _ HI3.out HTl.out.1 HTl.out.2 (HT.out _ HV3.out.base)).mono ?_; rintro e w4 ⟨rfl, hb⟩; have HV4 := Lib.hid (HV3.out.step hb); have HU4 := Lib.hid (HU3.out.keep (.of_below hb)); have HX4 := Lib.hid (HX3.out.step hb); clear hb; have hx4c := HX4.out.cell; have hc40 := HV4.out.cell.1; obtain ⟨D4, hD4, hk4⟩ := HV4.out.map; obtain ⟨q, hrun4, hat, _⟩ := hD4.lookup_int (t := 86) (e := 3) lawS Tryz.underlying86 Tryz.underlying3 (zero3 _) HKey.out; obtain rfl : z = q := (by have := (hk4 t).symm.trans hat; rw [← HZ.out] at this; simpa [dI] using this); clear hat hD4 hk4)
            | (go_at_call 67; obtain ⟨A2, c2, e2, _, hi4⟩ := HU4.out.ic; obtain rfl : A1 = A2 := (by injection e2); refine (known_any w0 B b m N F A1 c1 t w4 ⟨v, HV4.out⟩ hi4 HTl.out.1 HTl.out.2 hN).mono ?_; clear e2 hi4; rw [HKn.out]; rintro e w5 ⟨rfl, hb⟩; have HV5 := Lib.hid (HV4.out.step hb); have HU5 := Lib.hid (HU4.out.keep (.of_below hb)); have HX5 := Lib.hid (HX4.out.step hb); clear hb; have hc50 := HV5.out.cell.1; obtain ⟨D5, hD5, hk5⟩ := HV5.out.map; obtain ⟨q, hrun5, hat, _⟩ := hD5.lookup_int (t := 86) (e := 3) lawS Tryz.underlying86 Tryz.underlying3 (zero3 _) HKey.out; obtain rfl : z = q := (by have := (hk5 t).symm.trans hat; rw [← HZ.out] at this; simpa [dI] using this); clear hat; have HD5 := Lib.hid hD5; have HK5 := Lib.hid hk5; clear hD5 hk5)
            | (at_mapUpdate; refine wpList_mapUpdate_own _ rfl _ _ _ 86 rfl 9 3 lawS Tryz.underlying86 _ m N D5 rfl HD5.out (by unfold maxLen; omega) _ _ _ rfl rfl HKey.out _ [] (plainElem_int Tryz.underlying3 (WalkArith.wf_i64 (by omega))) ?_; intro w6 hown6 hgrow6; have HV6 := Lib.hid (HV5.out.recount (F.ms.erase t) (MapR.less HD5.out HK5.out t z HZ.out (by omega) hown6) hgrow6 (Nat.le_succ _) (by have := HV5.out.ok.ml; have := List.length_erase_le (a := t) (l := F.ms); omega)); have HU6 := Lib.hid (HU5.out.grownM HV5.out.map hgrow6); have HX6 := Lib.hid (HX5.out.grownM hgrow6 (by omega)); obtain ⟨q, hrun6, hat6, _⟩ := hown6.lookup_int (t := 86) (e := 3) lawS Tryz.underlying86 Tryz.underlying3 (zero3 _) HKey.out; obtain rfl : z - 1 = q := (by rw [atKey_put_same HD5.out.isMap (isKey_str _)] at hat6; simpa [dI] using hat6); clear hat6 hgrow6 hown6; have hc60 := HV6.out.cell.1))
          go_ret2
          refine ⟨rfl, v, ?_⟩
          rw [HG2.out]
          exact HV6.out
  · rw [if_neg (show ¬ ((1 : Int) = 0) by decide)]
    go_enter Tryz.func35, Tryz.ntmps35
    go_wp2_with (first
      | (go_at_call 62; refine HRf.out.mono ?_; rintro e w1 ⟨rfl, rfl⟩))
    go_ret2
    exact ⟨rfl, FwR.mono ⟨v, HV1.out⟩ (Nat.le_succ _)⟩
  · rw [if_neg (show ¬ ((3 : Int) = 0) by decide)]
    go_enter Tryz.func35, Tryz.ntmps35
    go_wp2_with (first
      | (go_at_call 62; refine HRf.out.mono ?_; rintro e w1 ⟨rfl, rfl⟩))
    go_ret2
    exact ⟨rfl, FwR.mono ⟨v, HV1.out⟩ (Nat.le_succ _)⟩

end Go.Proofs.YtcaoobdbgdldaaaGreatDoor.Fwd
