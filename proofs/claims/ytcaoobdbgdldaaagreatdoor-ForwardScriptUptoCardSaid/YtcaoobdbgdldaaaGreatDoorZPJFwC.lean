/- Part of the proof of ForwardScript: what the law uses of the texts FwC, FwD, FwE. -/
import Derived.Test.YtcaoobdbgdldaaaGreatDoorZPKeep
import Derived.Test.YtcaoobdbgdldaaaGreatDoorZPJFwA
import Derived.Maps.OwnSet
import Derived.Maps.OwnOps
import Derived.Deep.QuietTactic
import Derived.BigQuiet
import Derived.Deep.RegionWith
import Derived.Maps.AppendAt
namespace Go.Proofs.YtcaoobdbgdldaaaGreatDoor.Fwd
open Go.RowKit Go.Shelf Go.Maps Go.Proofs.YtcaoobdbgdldaaaGreatDoor.Lit Go.Proofs.YtcaoobdbgdldaaaGreatDoor.Spr
set_option linter.unusedVariables false
set_option linter.unusedSimpArgs false

def RowR (w : World) (B : Nat) (u : Value) (xs : List Int) : Prop := w.ownsRow B 3 1 u xs.length (ints .i64 xs)
theorem RowR.form {w : World} {B : Nat} {u : Value} {xs : List Int} (h : RowR w B u xs) : (u = .slice none 0 0 ∧ xs = []) ∨ ∃ g cap cells, u = .slice (some ⟨g, 0, none⟩) xs.length cap ∧ B ≤ g ∧ w.heap[g]? = some (.cells cells 3 (0, 0)) ∧ xs.length ≤ cap ∧ cells.toList.take xs.length = ints .i64 xs := by
  rcases h.2 with ⟨h1, h2⟩ | ⟨g, cap, cells, h1, h2, h3, h4, _, _, h7⟩
  · exact .inl ⟨h1, List.length_eq_zero_iff.1 h2⟩
  · exact .inr ⟨g, cap, cells, h1, h2, h3, h4, by rw [Nat.mul_one] at h7; exact h7⟩
def KeepI (w w1 : World) : Prop := ∀ (g : Nat) (cells : Array Value), w.heap[g]? = some (Obj.cells cells 3 (0, 0)) → w1.heap[g]? = some (Obj.cells cells 3 (0, 0))
theorem KeepI.of_below {w w1 : World} (hb : Below w.heap.size w w1) : KeepI w w1 := fun g cells h => by
  rw [hb.block g (Array.getElem?_eq_some_iff.1 h).1]; exact h
theorem KeepI.trans {a b c : World} (h : KeepI a b) (k : KeepI b c) : KeepI a c := fun g cells e => k g cells (h g cells e)
theorem RowR.keep {w w1 : World} {B : Nat} {u : Value} {xs : List Int} (h : RowR w B u xs) (hk : KeepI w w1) : RowR w1 B u xs := by
  refine ⟨h.1, ?_⟩
  rcases h.2 with h0 | ⟨g, cap, cells, h1, h2, h3, h4⟩
  · exact .inl h0
  · exact .inr ⟨g, cap, cells, h1, h2, hk g cells h3, h4⟩
theorem RowR.ic {w : World} {B : Nat} {u : Value} {xs : List Int} (h : RowR w B u xs) : ∃ A c, u = .slice A xs.length c ∧ xs.length ≤ c ∧ IC w A xs := by
  rcases h.form with ⟨rfl, rfl⟩ | ⟨g, cap, cells, rfl, _, hh, hc, ht⟩
  · exact ⟨none, 0, rfl, Nat.le_refl _, fun k hk => absurd hk (by simp)⟩
  · refine ⟨_, _, rfl, hc, fun k hk => ⟨_, rfl, ?_⟩⟩
    have := h.cells (g := g) rfl k (.int .i64 (xs.getD k 0)) (by
      rw [ints, List.getElem?_map, List.getElem?_eq_getElem hk, List.getD_eq_getElem?_getD, List.getElem?_eq_getElem hk]; rfl)
    exact this

def AllR (w : World) (B : Nat) (v : Value) (all : List (List Int)) : Prop :=
  ∃ vs : List Value, vs.length = all.length ∧ w.ownsRow B 40 1 v all.length vs ∧ ∀ i, i < all.length → RowR w B (vs.getD i (.slice none 0 0)) (all.getD i [])
theorem AllR.nil (w : World) (B : Nat) : AllR w B (.slice none 0 0) [] := ⟨[], rfl, World.ownsRow_nil _ _ _ _, fun i h => absurd h (by simp)⟩
theorem AllR.keep {w w1 : World} {B : Nat} {v : Value} {all : List (List Int)} (h : AllR w B v all) (hk : KeepI w w1) (hv : ∀ g, v.ownBlock = some g → w1.heap[g]? = w.heap[g]?) : AllR w1 B v all := by
  obtain ⟨vs, h1, h2, h3⟩ := h
  refine ⟨vs, h1, ⟨h2.1, ?_⟩, fun i hi => (h3 i hi).keep hk⟩
  rcases h2.2 with h0 | ⟨g, cap, cells, e1, e2, e3, e4⟩
  · exact .inl h0
  · exact .inr ⟨g, cap, cells, e1, e2, by rw [hv g (by rw [e1]; rfl)]; exact e3, e4⟩
theorem AllR.typed {w : World} {B : Nat} {v : Value} {all : List (List Int)} (h : AllR w B v all) : ∀ g, v.ownBlock = some g → B ≤ g ∧ ∃ cells, w.heap[g]? = some (.cells cells 40 (0, 0)) := by
  obtain ⟨vs, _, h2, _⟩ := h
  intro g hg
  rcases h2.2 with ⟨h0, _⟩ | ⟨g', cap, cells, e1, e2, e3, _⟩
  · subst h0; cases hg
  · subst e1
    obtain rfl : g' = g := by simpa [Value.ownBlock] using hg
    exact ⟨e2, _, e3⟩
theorem AllR.below {w w1 : World} {B : Nat} {v : Value} {all : List (List Int)} (h : AllR w B v all) (hb : Below w.heap.size w w1) : AllR w1 B v all :=
  h.keep (.of_below hb) fun g hg => by
    obtain ⟨_, cells, e⟩ := h.typed g hg
    exact hb.block g (Array.getElem?_eq_some_iff.1 e).1
theorem AllR.rc {w : World} {B : Nat} {v : Value} {all : List (List Int)} (h : AllR w B v all) : ∃ A c, v = .slice A all.length c ∧ all.length ≤ c ∧ RC w A all := by
  obtain ⟨vs, h1, h2, h3⟩ := h
  rcases h2.2 with ⟨h0, h4⟩ | ⟨g, cap, cells, e1, e2, e3, e4, _, _, e7⟩
  · refine ⟨none, 0, by rw [h0, h4], by omega, fun k hk => by omega⟩
  · refine ⟨some ⟨g, 0, none⟩, cap, e1, e4, fun k hk => ?_⟩
    obtain ⟨A1, c1, e, _, hi⟩ := (h3 k hk).ic
    refine ⟨_, A1, c1, rfl, ?_, hi⟩
    rw [← e]
    exact h2.cells (g := g) (by rw [e1]; rfl) k _ (by rw [List.getD_eq_getElem?_getD, List.getElem?_eq_getElem (by omega)]; rfl)

def KeepT (w w1 : World) : Prop := ∀ (g : Nat) (cells : Array Value) (e : TypeId), e ≠ 40 → e ≠ 88 → w.heap[g]? = some (Obj.cells cells e (0, 0)) → w1.heap[g]? = some (Obj.cells cells e (0, 0))
theorem KeepT.refl (w : World) : KeepT w w := fun _ _ _ _ _ h => h
theorem KeepT.trans {a b c : World} (h : KeepT a b) (k : KeepT b c) : KeepT a c := fun g cells e h1 h2 h3 => k g cells e h1 h2 (h g cells e h1 h2 h3)
theorem KeepT.of_below {w w1 : World} (hb : Below w.heap.size w w1) : KeepT w w1 := fun g cells e _ _ h => by
  rw [hb.block g (Array.getElem?_eq_some_iff.1 h).1]; exact h
theorem KeepT.setCell {w : World} {b i : Nat} {u : Value} {cells : Array Value} {t : TypeId} (h : w.heap[b]? = some (Obj.cells cells t (0, 0))) (ht : t = 40 ∨ t = 88) : KeepT w (w.setCell ⟨b, i, none⟩ u) := fun g c e n1 n2 he => by
  have hne : g ≠ b := by
    rintro rfl
    rw [h] at he
    injection he with he
    injection he with _ he
    subst he
    rcases ht with ht | ht
    · exact n1 ht
    · exact n2 ht
  rw [Below.heap_setCell w ⟨b, i, none⟩ u g hne]; exact he
theorem KeepT.grown {w w1 : World} {row : Option Nat} (hg : w.grownBy w1 row) (h : ∀ g, row = some g → ∀ (cells : Array Value) (e : TypeId), e ≠ 40 → w.heap[g]? ≠ some (Obj.cells cells e (0, 0))) : KeepT w w1 := fun g c e n1 n2 he => by
  rw [hg.block g (Array.getElem?_eq_some_iff.1 he).1 (fun e2 => h g e2.symm c e n1 he)]; exact he
def MapR (w : World) (m N : Nat) (ms : List (List Int)) : Prop := ∃ D : DataW Unit, w.ownsMap Tryz.prog 9 (plainElem Tryz.prog 3) m N D ∧ ∀ t, D.atKey (.string (txt t)) (dI 0) = dI (ms.count t)
structure FwOk (F : Fw) (N : Nat) : Prop where
  ml : F.ms.length ≤ N
  al : F.all.length ≤ N
  af : ∀ t ∈ F.all, t.length ≤ 2097152 ∧ ∀ x ∈ t, fm x = true
  v : 0 ≤ F.vars ∧ F.vars ≤ 1048576
structure FwV (w0 : World) (B b m N : Nat) (F : Fw) (v : Value) (w : World) : Prop where
  blk : w.heap[b]? = some (Obj.cells #[.map (some m), v, .int .i64 F.vars, .bool F.done] 88 (0, 0))
  map : MapR w m N F.ms
  all : AllR w B v F.all
  base : Below B w0 w
  hb : B ≤ b
  hm : B ≤ m
  hw : B ≤ w.heap.size
  ok : FwOk F N
  kp : KeepT w0 w
  ko : KeepO 1 b m w0 w
def FwR (w0 : World) (B b m N : Nat) (F : Fw) (w : World) : Prop := ∃ v, FwV w0 B b m N F v w
theorem MapR.lt {w : World} {m N : Nat} {ms : List (List Int)} (h : MapR w m N ms) : ∃ es clock, w.heap[m]? = some (.map es clock) := by
  obtain ⟨D, ⟨es, clock, h1, _⟩, _⟩ := h
  exact ⟨es, clock, h1⟩
theorem MapR.kept {w w1 : World} {m N : Nat} {ms : List (List Int)} (h : MapR w m N ms) {row : Option Nat} (hg : w.grownBy w1 row) (hne : some m ≠ row) : MapR w1 m N ms := by
  obtain ⟨D, h1, h2⟩ := h
  exact ⟨D, h1.kept hg hne, h2⟩
theorem MapR.below {w w1 : World} {m N : Nat} {ms : List (List Int)} (h : MapR w m N ms) (hb : Below w.heap.size w w1) : MapR w1 m N ms :=
  h.kept (row := none) ⟨hb.os, hb.tape, hb.output, hb.size, fun i hi _ => hb.block i hi⟩ (by simp)
theorem MapR.setCell {w : World} {m N : Nat} {ms : List (List Int)} (h : MapR w m N ms) {a : Addr} (ha : m ≠ a.block) (u : Value) : MapR (w.setCell a u) m N ms := by
  obtain ⟨D, h1, h2⟩ := h
  exact ⟨D, h1.setCell ha u, h2⟩
theorem FwV.step {w0 : World} {B b m N : Nat} {F : Fw} {v : Value} {w w1 : World} (h : FwV w0 B b m N F v w) (hb : Below w.heap.size w w1) : FwV w0 B b m N F v w1 :=
  ⟨by rw [hb.block b (Array.getElem?_eq_some_iff.1 h.blk).1]; exact h.blk, h.map.below hb, h.all.below hb, h.base.trans (hb.mono h.hw), h.hb, h.hm, Nat.le_trans h.hw hb.size, h.ok, h.kp.trans (.of_below hb), h.ko.trans (.of_below hb (Array.getElem?_eq_some_iff.1 h.blk).1)⟩
theorem FwR.step {w0 : World} {B b m N : Nat} {F : Fw} {w w1 : World} (h : FwR w0 B b m N F w) (hb : Below w.heap.size w w1) : FwR w0 B b m N F w1 := h.imp fun _ h => h.step hb
theorem FwR.base {w0 : World} {B b m N : Nat} {F : Fw} {w : World} (h : FwR w0 B b m N F w) : Below B w0 w := by obtain ⟨v, h⟩ := h; exact h.base
theorem FwR.rebase {w0 : World} {B b m N : Nat} {F : Fw} {w : World} (h : FwR w0 B b m N F w) : FwR w B b m N F w := by
  obtain ⟨v, h⟩ := h
  exact ⟨v, h.blk, h.map, h.all, Below.refl _ _, h.hb, h.hm, h.hw, h.ok, .refl _, .refl _ _ _ _⟩
theorem FwR.kp {w0 : World} {B b m N : Nat} {F : Fw} {w : World} (h : FwR w0 B b m N F w) : KeepT w0 w := by obtain ⟨v, h⟩ := h; exact h.kp
theorem FwR.ko {w0 : World} {B b m N : Nat} {F : Fw} {w : World} (h : FwR w0 B b m N F w) : KeepO 1 b m w0 w := by obtain ⟨v, h⟩ := h; exact h.ko
theorem FwR.ok {w0 : World} {B b m N : Nat} {F : Fw} {w : World} (h : FwR w0 B b m N F w) : FwOk F N := by obtain ⟨v, h⟩ := h; exact h.ok
theorem FwR.size {w0 : World} {B b m N : Nat} {F : Fw} {w : World} (h : FwR w0 B b m N F w) : B ≤ w.heap.size := by obtain ⟨v, h⟩ := h; exact h.hw
theorem FwV.cell {w0 : World} {B b m N : Nat} {F : Fw} {v : Value} {w : World} (h : FwV w0 B b m N F v w) : w.cell? ⟨b, 0, none⟩ = some (.map (some m)) ∧ w.cell? ⟨b, 1, none⟩ = some v ∧ w.cell? ⟨b, 2, none⟩ = some (.int .i64 F.vars) ∧ w.cell? ⟨b, 3, none⟩ = some (.bool F.done) := by
  refine ⟨?_, ?_, ?_, ?_⟩ <;> (unfold World.cell?; rw [h.blk]; rfl)
theorem FwV.free {w0 : World} {B b m N : Nat} {F : Fw} {v : Value} {w : World} (h : FwV w0 B b m N F v w) (i : Nat) : w.frozen? ⟨b, i, none⟩ = false := by
  have := h.blk
  simp [World.frozen?, this]
theorem FwOk.fits {F : Fw} {N : Nat} (h : FwOk F N) (hN : N ≤ 4194304) (c : List Int) (hc : c.length ≤ 17592186044416) : Fits F.all c :=
  ⟨by have := h.al; omega, fun x hx => by have := (h.af x hx).1; omega, hc⟩

def BoxW (w : World) (v : Int) (sl : Value) (w2 : World) : Prop := Below w.heap.size w w2 ∧ w2.cell? ⟨w.heap.size, 0, none⟩ = some (.int .i64 v) ∧ w2.cell? ⟨w.heap.size, 1, none⟩ = some sl
theorem BoxW.init (w : World) (v : Int) (sl : Value) : BoxW w v sl (w.alloc (.cells #[.int .i64 v, sl] 24)) := ⟨(Below.refl _ _).alloc (Nat.le_refl _) _, by simp, by simp⟩
theorem BoxW.step {w : World} {v : Int} {sl : Value} {w2 w3 : World} (h : BoxW w v sl w2) (hb : Below w2.heap.size w2 w3) : BoxW w v sl w3 :=
  ⟨h.1.trans (hb.mono h.1.size), (hb.cell (World.block_lt_of_cell? _ _ h.2.1)).trans h.2.1, (hb.cell (World.block_lt_of_cell? _ _ h.2.2)).trans h.2.2⟩

theorem fit_any (v : Int) (A : Option Addr) (c0 : Nat) (cs : List (List Int)) (Af : Option Addr) (cf : Nat) (c : List Int) (w : World) (hC : RC w A cs) (hF : IC w Af c) (hl : cs.length ≤ 9223372036854775807) (hl2 : ∀ x ∈ cs, x.length ≤ 9223372036854775807) (hfl : c.length ≤ 9223372036854775807) :
    Calls Tryz.prog 93 #[.agg #[.int .i64 v, .slice A cs.length c0], .slice Af c.length cf] w fun e w' => e = .returned (.bool (formedB v cs && c.all fm)) ∧ Below w.heap.size w w' := by
  have HFm := Lib.hid (fun (w2 : World) (hb : Below w.heap.size w w2) => cformed_any v A c0 cs w2 (hC.below hb) hl hl2)
  have HSd := Lib.hid (fun (w2 : World) (hb : Below w.heap.size w w2) => sound_any Af cf c w2 (hF.below hb) hfl)
  have HW := Lib.hid (BoxW.init w v (.slice A cs.length c0))
  have hc0 := HW.out.2.1
  have hc1 := HW.out.2.2
  clear hC hF
  generalize cs.length = n at *
  generalize c.length = k at *
  generalize formedB v cs = p at *
  generalize c.all fm = q at *
  cases p with
  | true =>
    go_enter Tryz.func93, Tryz.ntmps93
    go_wp2_with (first
      | (go_at_call 31; refine (HFm.out _ HW.out.1).mono ?_; rintro e w2 ⟨rfl, hb⟩; have HW2 := Lib.hid (HW.out.step hb); clear hb)
      | (go_at_call 86; refine (HSd.out _ HW2.out.1).mono ?_; rintro e w3 ⟨rfl, rfl⟩))
    go_ret
    exact ⟨rfl, HW2.out.1⟩
  | false =>
    go_enter Tryz.func93, Tryz.ntmps93
    go_wp2_with (first
      | (go_at_call 31; refine (HFm.out _ HW.out.1).mono ?_; rintro e w2 ⟨rfl, hb⟩; have HW2 := Lib.hid (HW.out.step hb); clear hb))
    go_ret
    exact ⟨rfl, HW2.out.1⟩

def KindPost (w : World) (r : Int × Int) (e : Ending) (w' : World) : Prop := e = .returned (.tuple #[.int .i64 r.1, .int .i64 r.2]) ∧ Below w.heap.size w w'
set_option maxHeartbeats 1000000 in
theorem kind_any (v : Int) (A : Option Addr) (c0 : Nat) (cs : List (List Int)) (Af : Option Addr) (cf : Nat) (c : List Int) (w : World) (hC : RC w A cs) (hF : IC w Af c) (hS : Fits cs c) :
    Calls Tryz.prog 63 #[.agg #[.int .i64 v, .slice A cs.length c0], .slice Af c.length cf] w (KindPost w (kindF v cs c)) := by
  have HFt := Lib.hid (fun (w2 : World) (hb : Below w.heap.size w w2) => fit_any v A c0 cs Af cf c w2 (hC.below hb) (hF.below hb) (by have := hS.1; omega) (fun x hx => by have := hS.2.1 x hx; omega) (by have := hS.2.2; omega))
  have HW := Lib.hid (BoxW.init w v (.slice A cs.length c0))
  have hc0 := HW.out.2.1
  have hc1 := HW.out.2.2
  unfold KindPost kindF kindR
  by_cases hf : (formedB v cs && c.all fm) = true
  · rw [hf] at HFt
    rw [if_pos hf]
    have hfm : ∀ l ∈ c, fm l = true := List.all_eq_true.1 (by rw [Bool.and_eq_true] at hf; exact hf.2)
    have HFo := Lib.hid (fun (w2 : World) (hb : Below w.heap.size w w2) => follows_any v A c0 cs Af cf c w2 (hC.below hb) (hF.below hb) hS hfm)
    have HSa := Lib.hid (fun (w2 : World) (hb : Below w.heap.size w w2) => safe_any v A c0 cs Af cf c w2 (hC.below hb) (hF.below hb) hS hfm)
    clear hC hF hf hfm hS
    generalize cs.length = n at *
    generalize c.length = k at *
    generalize followsR v cs c = p at *
    generalize safeR v cs c = q at *
    cases p with
    | true =>
      go_enter Tryz.func63, Tryz.ntmps63
      go_wp2_with (first
        | (go_at_call 93; refine (HFt.out _ HW.out.1).mono ?_; rintro e w2 ⟨rfl, hb⟩; have HW2 := Lib.hid (HW.out.step hb); have hc20 := HW2.out.2.1; have hc21 := HW2.out.2.2; clear hb)
        | (go_at_call 94; refine (HFo.out _ HW2.out.1).mono ?_; rintro e w3 ⟨rfl, hb⟩; have HW3 := Lib.hid (HW2.out.step hb); clear hb))
      go_ret2
      exact ⟨rfl, HW3.out.1⟩
    | false =>
      cases q with
      | true =>
        go_enter Tryz.func63, Tryz.ntmps63
        go_wp2_with (first
          | (go_at_call 93; refine (HFt.out _ HW.out.1).mono ?_; rintro e w2 ⟨rfl, hb⟩; have HW2 := Lib.hid (HW.out.step hb); have hc20 := HW2.out.2.1; have hc21 := HW2.out.2.2; clear hb)
          | (go_at_call 94; refine (HFo.out _ HW2.out.1).mono ?_; rintro e w3 ⟨rfl, hb⟩; have HW3 := Lib.hid (HW2.out.step hb); have hc30 := HW3.out.2.1; have hc31 := HW3.out.2.2; clear hb)
          | (go_at_call 95; refine (HSa.out _ HW3.out.1).mono ?_; rintro e w4 ⟨rfl, hb⟩; have HW4 := Lib.hid (HW3.out.step hb); clear hb))
        go_ret2
        exact ⟨rfl, HW4.out.1⟩
      | false =>
        go_enter Tryz.func63, Tryz.ntmps63
        go_wp2_with (first
          | (go_at_call 93; refine (HFt.out _ HW.out.1).mono ?_; rintro e w2 ⟨rfl, hb⟩; have HW2 := Lib.hid (HW.out.step hb); have hc20 := HW2.out.2.1; have hc21 := HW2.out.2.2; clear hb)
          | (go_at_call 94; refine (HFo.out _ HW2.out.1).mono ?_; rintro e w3 ⟨rfl, hb⟩; have HW3 := Lib.hid (HW2.out.step hb); have hc30 := HW3.out.2.1; have hc31 := HW3.out.2.2; clear hb)
          | (go_at_call 95; refine (HSa.out _ HW3.out.1).mono ?_; rintro e w4 ⟨rfl, hb⟩; have HW4 := Lib.hid (HW3.out.step hb); clear hb))
        go_ret2
        exact ⟨rfl, HW4.out.1⟩
  · rw [Bool.eq_false_iff.2 hf] at HFt
    rw [if_neg hf]
    clear hC hF hf hS
    generalize cs.length = n at *
    generalize c.length = k at *
    go_enter Tryz.func63, Tryz.ntmps63
    go_wp2_with (first
      | (go_at_call 93; refine (HFt.out _ HW.out.1).mono ?_; rintro e w2 ⟨rfl, hb⟩; have HW2 := Lib.hid (HW.out.step hb); clear hb))
    go_ret2
    exact ⟨rfl, HW2.out.1⟩

end Go.Proofs.YtcaoobdbgdldaaaGreatDoor.Fwd

namespace Go.Proofs.YtcaoobdbgdldaaaGreatDoor.Fwd
open Go.RowKit Go.Shelf Go.Maps Go.Proofs.YtcaoobdbgdldaaaGreatDoor.Lit Go.Proofs.YtcaoobdbgdldaaaGreatDoor.Spr
set_option linter.unusedVariables false
set_option linter.unusedSimpArgs false

theorem blkSet {w : World} {g : Nat} {t : TypeId} {cs : Array Value} (h : w.heap[g]? = some (.cells cs t (0, 0))) (i : Nat) (u : Value) : (w.setCell ⟨g, i, none⟩ u).heap[g]? = some (.cells (cs.setIfInBounds i u) t (0, 0)) := by
  simp [World.setCell, Array.getElem?_modify, h]
theorem KeepI.setCell {w : World} {b i : Nat} {u : Value} {cells : Array Value} {t : TypeId} (h : w.heap[b]? = some (Obj.cells cells t (0, 0))) (ht : t ≠ 3) : KeepI w (w.setCell ⟨b, i, none⟩ u) := fun g c e => by
  have hne : g ≠ b := by
    rintro rfl
    rw [h] at e
    injection e with e
    injection e with _ e
    exact ht e
  rw [Below.heap_setCell w ⟨b, i, none⟩ u g hne]; exact e
theorem KeepI.grown {w w1 : World} {row : Option Nat} (hg : w.grownBy w1 row) (h : ∀ g, row = some g → ∀ cells : Array Value, w.heap[g]? ≠ some (Obj.cells cells 3 (0, 0))) : KeepI w w1 := fun g c e => by
  rw [hg.block g (Array.getElem?_eq_some_iff.1 e).1 (fun e2 => h g e2.symm c e)]; exact e

theorem FwV.own_ne {w0 : World} {B b m N : Nat} {F : Fw} {v : Value} {w : World} (h : FwV w0 B b m N F v w) : ∀ g, v.ownBlock = some g → g ≠ b ∧ g ≠ m := by
  intro g hg
  obtain ⟨_, cells, e⟩ := h.all.typed g hg
  constructor
  · rintro rfl
    rw [h.blk] at e
    injection e with e
    injection e with _ e
    exact absurd e (by decide)
  · rintro rfl
    obtain ⟨es, clock, e2⟩ := h.map.lt
    rw [e2] at e
    cases e
theorem FwV.m_ne {w0 : World} {B b m N : Nat} {F : Fw} {v : Value} {w : World} (h : FwV w0 B b m N F v w) : m ≠ b := by
  rintro rfl
  obtain ⟨es, clock, e2⟩ := h.map.lt
  have := h.blk
  rw [e2] at this
  cases this
theorem FwV.setVars {w0 : World} {B b m N : Nat} {F : Fw} {v : Value} {w : World} (h : FwV w0 B b m N F v w) (x : Int) (hx : 0 ≤ x ∧ x ≤ 1048576) : FwV w0 B b m N { F with vars := x } v (w.setCell ⟨b, 2, none⟩ (.int .i64 x)) :=
  ⟨(blkSet h.blk 2 _).trans rfl, h.map.setCell h.m_ne _, h.all.keep (.setCell h.blk (by decide)) (fun g hg => Below.heap_setCell _ _ _ _ (h.own_ne g hg).1), h.base.setCell h.hb _, h.hb, h.hm, by have := h.hw; simpa using this, ⟨h.ok.ml, h.ok.al, h.ok.af, hx⟩, h.kp.trans (.setCell h.blk (.inr rfl)), h.ko.trans (.mk' h.blk ((blkSet h.blk 2 _).trans rfl) (by simp) (fun g _ n1 _ _ => Below.heap_setCell _ _ _ _ n1) (.inl rfl))⟩
theorem FwV.setDone {w0 : World} {B b m N : Nat} {F : Fw} {v : Value} {w : World} (h : FwV w0 B b m N F v w) (d : Bool) : FwV w0 B b m N { F with done := d } v (w.setCell ⟨b, 3, none⟩ (.bool d)) :=
  ⟨(blkSet h.blk 3 _).trans rfl, h.map.setCell h.m_ne _, h.all.keep (.setCell h.blk (by decide)) (fun g hg => Below.heap_setCell _ _ _ _ (h.own_ne g hg).1), h.base.setCell h.hb _, h.hb, h.hm, by have := h.hw; simpa using this, ⟨h.ok.ml, h.ok.al, h.ok.af, h.ok.v⟩, h.kp.trans (.setCell h.blk (.inr rfl)), h.ko.trans (.mk' h.blk ((blkSet h.blk 3 _).trans rfl) (by simp) (fun g _ n1 _ _ => Below.heap_setCell _ _ _ _ n1) (.inl rfl))⟩
theorem RowR.setCell {w : World} {B : Nat} {u : Value} {xs : List Int} (h : RowR w B u xs) {b i : Nat} {x : Value} {cells : Array Value} {t : TypeId} (hb : w.heap[b]? = some (Obj.cells cells t (0, 0))) (ht : t ≠ 3) : RowR (w.setCell ⟨b, i, none⟩ x) B u xs := h.keep (.setCell hb ht)

theorem formula_any (w0 : World) (B b m N : Nat) (F : Fw) (v : Value) (w : World) (h : FwV w0 B b m N F v w) :
    Calls Tryz.prog 64 #[.pointer (some ⟨b, 0, none⟩)] w fun e w' => e = .returned (.agg #[.int .i64 F.vars, v]) ∧ Below w.heap.size w w' := by
  obtain ⟨A, c, rfl, _, _⟩ := h.all.rc
  obtain ⟨_, hc1, hc2, _⟩ := h.cell
  have hlt : b < w.heap.size := (Array.getElem?_eq_some_iff.1 h.blk).1
  generalize F.vars = x at *
  clear h
  generalize F.all.length = n at *
  go_enter Tryz.func64, Tryz.ntmps64
  go_wp2
  go_region
  go_wp2
  refine bodyPost_ret (v := .agg #[.int .i64 x, .slice A n c]) (by simp [results, Tryz.results64, go_sem]) rfl ⟨rfl, below_drewN ((Below.refl _ _).alloc (Nat.le_refl _) _) 1⟩
theorem refuses_any (w0 : World) (B b m N : Nat) (F : Fw) (Af : Option Addr) (cf : Nat) (c : List Int) (w : World) (h : FwR w0 B b m N F w) (hF : IC w Af c) (hl : c.length ≤ 9223372036854775807) :
    Calls Tryz.prog 62 #[.pointer (some ⟨b, 0, none⟩), .slice Af c.length cf] w fun e w' => e = .returned (.int .i64 (refusesR F c)) ∧ w = w' := by
  obtain ⟨v, h⟩ := h
  obtain ⟨_, _, _, hc3⟩ := h.cell
  have HS := Lib.hid (sound_any Af cf c w hF hl)
  unfold refusesR
  clear h hF
  generalize c.length = n at *
  generalize c.all fm = p at *
  generalize F.done = d at *
  cases p with
  | true =>
    cases d with
    | true =>
      go_enter Tryz.func62, Tryz.ntmps62
      go_wp2_with (go_at_call 86; refine HS.out.mono ?_; rintro e w2 ⟨rfl, rfl⟩)
      go_ret
      exact ⟨rfl, rfl⟩
    | false =>
      go_enter Tryz.func62, Tryz.ntmps62
      go_wp2_with (go_at_call 86; refine HS.out.mono ?_; rintro e w2 ⟨rfl, rfl⟩)
      go_ret
      exact ⟨rfl, rfl⟩
  | false =>
    go_enter Tryz.func62, Tryz.ntmps62
    go_wp2_with (go_at_call 86; refine HS.out.mono ?_; rintro e w2 ⟨rfl, rfl⟩)
    go_ret
    exact ⟨rfl, rfl⟩

set_option maxHeartbeats 4000000 in
set_option maxRecDepth 100000 in
theorem reach_any (w0 : World) (B b m N : Nat) (F : Fw) (v : Value) (u : Value) (t : List Int) (w : World) (h : FwV w0 B b m N F v w) (hu : RowR w B u t) (hl : t.length ≤ 9223372036854775807) (hf : ∀ x ∈ t, fm x = true) :
    Calls Tryz.prog 81 #[.pointer (some ⟨b, 0, none⟩), u] w fun e w' => e = .returned (.tuple #[]) ∧ FwV w0 B b m N { F with vars := reachV F.vars t } v w' := by
  have hbd : ∀ k, k ≤ t.length → 0 ≤ reachV F.vars (t.take k) ∧ reachV F.vars (t.take k) ≤ 1048576 := by
    intro k
    induction k with
    | zero => intro _; exact h.ok.v
    | succ k ih =>
      intro hk
      have e : t.take (k + 1) = t.take k ++ [t.getD k 0] := by
        rw [List.take_add_one, List.getD_eq_getElem?_getD, List.getElem?_eq_getElem (by omega)]; rfl
      have h1 := ih (by omega)
      have h2 := lv_bd (t.getD k 0)
      rw [e, reachV_snoc]
      omega
  have HBd := Lib.hid hbd
  have HSn := Lib.hid (fun k (hk : k < t.length) => show reachV F.vars (t.take (k + 1)) = max (reachV F.vars (t.take k)) (lv (t.getD k 0)) by
    rw [← reachV_snoc, List.take_add_one, List.getD_eq_getElem?_getD, List.getElem?_eq_getElem hk]; rfl)
  have HEnd := Lib.hid (show reachV F.vars (t.take t.length) = reachV F.vars t by rw [List.take_length])
  have HI := Lib.hid (show FwV w0 B b m N { F with vars := reachV F.vars (t.take 0) } v w ∧ RowR w B u t from ⟨h, hu⟩)
  obtain ⟨A, c, rfl, _, _⟩ := hu.ic
  clear h hbd hu
  generalize hN : t.length = n at *
  have HNn := Lib.hid hN
  clear hN
  go_enter Tryz.func81, Tryz.ntmps81
  go_wp2
  go_loopw [8] (fun i wr => ∃ k : Nat, k ≤ n ∧ i = .int .i64 k ∧ FwV w0 B b m N { F with vars := reachV F.vars (t.take k) } v wr ∧ RowR wr B (.slice A n c) t) (fun i _ => n - (intOf i).toNat)
  case atStart => exact ⟨0, Nat.zero_le _, rfl, HI.out.1, HI.out.2⟩
  case round =>
    obtain ⟨k, hk, rfl, hr, hro⟩ := hrel
    by_cases hlt : k < n
    · obtain ⟨A', c', e1, _, hic⟩ := hro.ic
      obtain rfl : A' = A := by injection e1 with e1; exact e1.symm
      clear e1
      obtain ⟨ad, hA, hx⟩ := hic k (by rw [HNn.out]; exact hlt)
      subst hA
      obtain ⟨_, _, hc2, _⟩ := hr.cell
      have hfz := hr.free 2
      have HR := Lib.hid hr
      have HRo := Lib.hid hro
      have hb1 := (HBd.out (k + 1) (by omega))
      rw [HSn.out k hlt] at hb1
      have HS := Lib.hid (HSn.out k hlt)
      have HV := Lib.hid (fun w2 => var_any (t.getD k 0) w2)
      clear hr hro hic
      generalize t.getD k 0 = x at *
      generalize lv x = y at *
      have hc2' : wr.drew.cell? ⟨b, 2, none⟩ = some (.int .i64 (reachV F.vars (t.take k))) := hc2
      have hfz' : wr.drew.frozen? ⟨b, 2, none⟩ = false := hfz
      generalize hz : reachV F.vars (t.take k) = z at *
      go_upto_region 3 with (fail)
      go_region_with (first
        | (go_at_call 60; refine (HV.out _).mono ?_; rintro e w2 ⟨rfl, rfl⟩))
      all_goals
        go_wp2
        go_roundw
        case rel =>
          refine ⟨k + 1, by omega, by go_num, ?_, ?_⟩
          · rw [HS.out]
            exact (HR.out.setVars _ hb1).step (below_drewN (Below.refl _ _) 1)
          · exact (HRo.out.setCell HR.out.blk (by decide)).keep (.of_below (below_drewN (Below.refl _ _) 1))
        case measure => simp [intOf]; omega
    · obtain rfl : k = n := by omega
      rw [HEnd.out] at hr
      have HR := Lib.hid hr
      clear hr hro
      go_wp2
      refine bodyPost_end (results_none rfl _ _ _) rfl ⟨rfl, HR.out⟩

end Go.Proofs.YtcaoobdbgdldaaaGreatDoor.Fwd

namespace Go.Proofs.YtcaoobdbgdldaaaGreatDoor.Fwd
open Go.RowKit Go.Shelf Go.Maps Go.Proofs.YtcaoobdbgdldaaaGreatDoor.Lit Go.Proofs.YtcaoobdbgdldaaaGreatDoor.Spr
set_option linter.unusedVariables false
set_option linter.unusedSimpArgs false

theorem own_lower {w : World} {a base n : Nat} {e : TypeId} {size : Nat} {v : Value} {xs : List Value} (h : w.ownsRow a e size v n xs) (hle : base ≤ a) : w.ownsRow base e size v n xs := by
  refine ⟨h.1, ?_⟩
  rcases h.2 with h0 | ⟨g, cap, cur, h1, h2, h3⟩
  · exact .inl h0
  · exact .inr ⟨g, cap, cur, h1, by omega, h3⟩
def keyB (t : List Int) : ByteArray := ⟨(txt t).toArray⟩
theorem lawS : Keyed Tryz.prog 9 := string_keyed Tryz.underlying9
theorem key_of {t : List Int} (hl : t.length ≤ 2097152) (hf : ∀ x ∈ t, fm x = true) : keyOf Tryz.prog 9 (.string (keyB t)) = some (.string (txt t)) := by
  have h1 := txt_len (B := 0) t (fun x hx => by have := fm_true (hf x hx); omega)
  have h2 : (keyB t).size ≤ maxLen := by
    show (txt t).toArray.size ≤ maxLen
    rw [List.size_toArray]
    unfold maxLen; omega
  rw [WideMaps.keyOf_string_mk Tryz.underlying9 h2]
  simp [keyB]
theorem isKey_str (s : List UInt8) : WideAt.IsKeyLit (.string s) := by simp [WideAt.IsKeyLit]

theorem MapR.more {w w1 : World} {m N : Nat} {ms : List (List Int)} {D : DataW Unit} (hD : w.ownsMap Tryz.prog 9 (plainElem Tryz.prog 3) m N D) (hk : ∀ t, D.atKey (.string (txt t)) (dI 0) = dI (ms.count t)) (t : List Int) (z : Int) (hz : z = ms.count t)
    (h1 : w1.ownsMap Tryz.prog 9 (plainElem Tryz.prog 3) m (N + 1) (D.put (.string (txt t)) (dI (z + 1)))) : MapR w1 m (N + 1) (ms ++ [t]) := by
  refine ⟨_, h1, fun s => ?_⟩
  by_cases e : s = t
  · subst e
    rw [atKey_put_same hD.isMap (isKey_str _), hz, List.count_append, List.count_singleton_self]
    rfl
  · rw [atKey_put_other (fun h => e (txt_inj _ _ (by injection h))), hk s, List.count_append]
    have : List.count s [t] = 0 := by rw [List.count_eq_zero]; simpa using e
    rw [this]; rfl
theorem FwV.counted {w0 : World} {B b m N : Nat} {F : Fw} {v : Value} {w w1 : World} (h : FwV w0 B b m N F v w) (t : List Int) (hm : MapR w1 m (N + 1) (F.ms ++ [t])) (hg : w.grownBy w1 (some m)) : FwV w0 B b m (N + 1) { F with ms := F.ms ++ [t] } v w1 := by
  have hmi : ∀ g, some m = some g → ∀ cells : Array Value, w.heap[g]? ≠ some (Obj.cells cells 3 (0, 0)) := fun g e cells e2 => by
    injection e with e
    subst e
    obtain ⟨es, clock, e3⟩ := h.map.lt
    rw [e3] at e2; cases e2
  refine ⟨?_, hm, h.all.keep (.grown hg hmi) (fun g hg2 => ?_), h.base.grown hg h.hw (fun k hk => by injection hk with hk; subst hk; exact h.hm), h.hb, h.hm, Nat.le_trans h.hw hg.size, ⟨?_, ?_, h.ok.af, h.ok.v⟩, h.kp.trans (.grown hg fun g e cells _ _ e2 => by injection e with e; subst e; obtain ⟨es, clock, e3⟩ := h.map.lt; rw [e3] at e2; cases e2), h.ko.trans (.mk' h.blk (by rw [hg.block b (Array.getElem?_eq_some_iff.1 h.blk).1 (fun e => by injection e with e; exact h.m_ne e.symm)]; exact h.blk) hg.size (fun g hl _ n2 _ => hg.block g hl (fun e => by injection e with e; exact n2 e)) (.inl rfl))⟩
  · rw [hg.block b (Array.getElem?_eq_some_iff.1 h.blk).1 (fun e => by injection e with e; exact h.m_ne e.symm)]; exact h.blk
  · obtain ⟨_, cells, e⟩ := h.all.typed g hg2
    exact hg.block g (Array.getElem?_eq_some_iff.1 e).1 (fun e => by injection e with e; exact (h.own_ne g hg2).2 e)
  · have := h.ok.ml; simp; omega
  · have := h.ok.al; simp; omega
theorem RowR.grownM {w w1 : World} {B m N : Nat} {ms : List (List Int)} {u : Value} {t : List Int} (h : RowR w B u t) (hm : MapR w m N ms) (hg : w.grownBy w1 (some m)) : RowR w1 B u t := by
  refine h.keep (.grown hg fun g e cells e2 => ?_)
  injection e with e
  subst e
  obtain ⟨es, clock, e3⟩ := hm.lt
  rw [e3] at e2; cases e2
theorem FwV.app {w0 : World} {B b m N : Nat} {F : Fw} {v v2 : Value} {w w2 : World} (h : FwV w0 B b m N F v w) {u : Value} {t : List Int} (hu : RowR w B u t) (ht : t.length ≤ 2097152 ∧ ∀ x ∈ t, fm x = true) {vs : List Value} (h1 : vs.length = F.all.length) (h3 : ∀ i, i < F.all.length → RowR w B (vs.getD i (.slice none 0 0)) (F.all.getD i []))
    (ho : w2.ownsRow B 40 1 v2 (F.all.length + 1) (vs ++ [u])) (hg : w.grownBy w2 v.ownBlock) (hat : v2.ownBlock = v.ownBlock ∨ ∃ g, v2.ownBlock = some g ∧ w.heap.size ≤ g) (hal : F.all.length + 1 ≤ N) :
    FwV w0 B b m N { F with all := F.all ++ [t] } v2 (w2.setCell ⟨b, 1, none⟩ v2) ∧ ∀ y ys, RowR w B y ys → RowR (w2.setCell ⟨b, 1, none⟩ v2) B y ys := by
  have hki : KeepI w w2 := .grown hg fun g e cells e2 => by
    obtain ⟨_, cells', e3⟩ := h.all.typed g e
    rw [e3] at e2
    injection e2 with e2
    injection e2 with _ e2
    exact absurd e2 (by decide)
  have hblk : w2.heap[b]? = some (Obj.cells #[.map (some m), v, .int .i64 F.vars, .bool F.done] 88 (0, 0)) := by
    rw [hg.block b (Array.getElem?_eq_some_iff.1 h.blk).1 (fun e => (h.own_ne b e.symm).1 rfl)]; exact h.blk
  have hkc : KeepI w2 (w2.setCell ⟨b, 1, none⟩ v2) := .setCell hblk (by decide)
  have hal2 : AllR w2 B v2 (F.all ++ [t]) := by
    refine ⟨vs ++ [u], by simp [h1], by simpa using ho, fun i hi => ?_⟩
    by_cases e : i < F.all.length
    · have := (h3 i e).keep hki
      rwa [List.getD_eq_getElem?_getD, List.getD_eq_getElem?_getD, List.getElem?_append_left (by omega), List.getElem?_append_left e, ← List.getD_eq_getElem?_getD, ← List.getD_eq_getElem?_getD]
    · obtain rfl : i = F.all.length := by simp at hi; omega
      have := hu.keep hki
      rwa [List.getD_eq_getElem?_getD, List.getD_eq_getElem?_getD, List.getElem?_append_right (by omega), List.getElem?_append_right (by omega), h1, Nat.sub_self]
  have hv2 : ∀ g, v2.ownBlock = some g → g ≠ b := by
    intro g hgv
    obtain ⟨_, cells, e⟩ := hal2.typed g hgv
    rintro rfl
    rw [hblk] at e
    injection e with e
    injection e with _ e
    exact absurd e (by decide)
  refine ⟨⟨(blkSet hblk 1 _).trans rfl, ?_, hal2.keep hkc (fun g hgv => Below.heap_setCell _ _ _ _ (hv2 g hgv)), ?_, h.hb, h.hm, by have := h.hw; have := hg.size; simpa using (by omega : B ≤ w2.heap.size), ⟨h.ok.ml, by simpa using hal, fun s hs => ?_, h.ok.v⟩, (h.kp.trans (.grown hg fun g e cells t n1 e2 => by obtain ⟨_, cells', e3⟩ := h.all.typed g e; rw [e3] at e2; injection e2 with e2; injection e2 with _ e2; exact n1 e2.symm)).trans (.setCell hblk (.inr rfl)), h.ko.trans (.mk' h.blk ((blkSet hblk 1 _).trans rfl) (by have := hg.size; simpa using this) (fun g hl n1 _ n3 => (Below.heap_setCell _ _ _ _ n1).trans (hg.block g hl n3)) (hat.imp id (fun ⟨g, e1, e2⟩ g' e3 => by have e4 : some g = some g' := e1.symm.trans e3; injection e4 with e4; omega)))⟩, fun y ys hy => (hy.keep hki).keep hkc⟩
  · exact (h.map.kept hg (fun e => (h.own_ne m e.symm).2 rfl)).setCell h.m_ne _
  · exact (h.base.grown hg h.hw (fun k hk => (h.all.typed k hk).1)).setCell h.hb _
  · rcases List.mem_append.1 hs with e | e
    · exact h.ok.af s e
    · rw [List.mem_singleton.1 e]; exact ht

theorem FwV.app_cell {w0 : World} {B b m N : Nat} {F : Fw} {v : Value} {w w2 : World} (h : FwV w0 B b m N F v w) (hg : w.grownBy w2 v.ownBlock) : w2.cell? ⟨b, 1, none⟩ = some v ∧ w2.frozen? ⟨b, 1, none⟩ = false := by
  have hblk : w2.heap[b]? = some (Obj.cells #[.map (some m), v, .int .i64 F.vars, .bool F.done] 88 (0, 0)) := by
    rw [hg.block b (Array.getElem?_eq_some_iff.1 h.blk).1 (fun e => (h.own_ne b e.symm).1 rfl)]; exact h.blk
  exact ⟨by unfold World.cell?; rw [hblk]; rfl, by simp [World.frozen?, hblk]⟩

theorem infoRow : (Tryz.prog.info? 40).map (fun i => (i.zero, i.size, i.bytes)) = some (some (.slice none 0 0), 1, 24) := by kernel_rfl
theorem tidy_fm (c : List Int) : ∀ x ∈ tidyL c, fm x = true := fun x hx => ((mem_tidy c x).1 hx).2
theorem text_key (A : Option Addr) (c : Nat) (xs : List Int) (w : World) (hC : IC w A xs) (hl : xs.length ≤ 2097152) (hx : ∀ x ∈ xs, fm x = true) (hT : Tab w) :
    Calls Tryz.prog 66 #[.slice A xs.length c] w fun e w' => e = .returned (.string (keyB xs)) ∧ Below w.heap.size w w' := text_any A c xs w hC hl hx hT

set_option maxHeartbeats 8000000 in
set_option maxRecDepth 100000 in
theorem put_any (w0 : World) (B b m N : Nat) (F : Fw) (Af : Option Addr) (cf : Nat) (c : List Int) (w : World) (h : FwR w0 B b m N F w) (hF : IC w Af c) (hl : c.length ≤ 17592186044416) (hT : Lib.TabBelow Tryz.prog B w0 "internal/strconv.uint64pow10" .u64 Lib.pow10Tab) (hN : N ≤ 4194304) :
    Calls Tryz.prog 46 #[.pointer (some ⟨b, 0, none⟩), .slice Af c.length cf] w fun e w' => e = .returned (.tuple #[]) ∧ FwR w0 B b m (N + 1) (putW F c) w' := by
  obtain ⟨v, h⟩ := h
  obtain ⟨i0, hi, hz0, hz1, hz2⟩ := info_parts infoRow
  have HIn := Lib.hid (And.intro hi (And.intro hz0 (And.intro hz1 hz2)))
  have HTi := Lib.hid (tidy_any Af cf c w hF (by omega))
  have HT := Lib.hid hT
  have htl : (tidyL c).length ≤ 2097152 ∧ ∀ x ∈ tidyL c, fm x = true := ⟨tidy_len c, tidy_fm c⟩
  have HTl := Lib.hid htl
  have HKey := Lib.hid (key_of htl.1 htl.2)
  have HV := Lib.hid h
  have HP := Lib.hid (show putW F c = { F with ms := F.ms ++ [tidyL c], all := if F.ms.count (tidyL c) = 0 then F.all ++ [tidyL c] else F.all, vars := reachV F.vars (tidyL c) } from rfl)
  have HCn := Lib.hid (show F.ms.count (tidyL c) ≤ 4194304 by have := List.count_le_length (a := tidyL c) (l := F.ms); have := h.ok.ml; omega)
  unfold TidyPost at HTi
  clear h hi hz0 hz1 hz2 hF hT htl
  generalize putW F c = G at *
  generalize hn : c.length = n at *
  clear hn
  generalize tidyL c = t at *
  obtain ⟨z, hz⟩ : ∃ z : Int, z = F.ms.count t := ⟨_, rfl⟩
  have HZ := Lib.hid hz
  have z0 : 0 ≤ z := by omega
  have z1 : z ≤ 4194304 := by have := HCn.out; omega
  by_cases h0 : F.ms.count t = 0
  · obtain rfl : z = 0 := by omega
    have HP2 := Lib.hid (show G = { F with ms := F.ms ++ [t], all := F.all ++ [t], vars := reachV F.vars t } by rw [HP.out, if_pos h0])
    clear hz h0
    go_enter Tryz.func46, Tryz.ntmps46
    go_wp2_with (first
      | (go_at_call 65; refine HTi.out.mono ?_; rintro e w1 ⟨u, rfl, hown, hb⟩; have HV1 := Lib.hid (HV.out.step hb); have HU1 := Lib.hid (show RowR w1 B u t from by unfold RowR; rw [show t.length = (ints .i64 t).length by simp [ints]]; exact own_lower hown HV.out.hw); clear hown hb; obtain ⟨A1, c1, hu, _, hic⟩ := HU1.out.ic; subst hu; have HI1 := Lib.hid hic; clear hic)
      | (go_at_call 66; refine (text_key A1 c1 t w1 HI1.out HTl.out.1 HTl.out.2 (HT.out _ HV1.out.base)).mono ?_; rintro e w2 ⟨rfl, hb⟩; have HV2 := Lib.hid (HV1.out.step hb); have HU2 := Lib.hid (HU1.out.keep (.of_below hb)); clear hb; have hc20 := HV2.out.cell.1; obtain ⟨D, hD, hk⟩ := HV2.out.map; have HD := Lib.hid hD; have HK := Lib.hid hk; obtain ⟨q, hrun, hat, _⟩ := hD.lookup_int (t := 86) (e := 3) lawS Tryz.underlying86 Tryz.underlying3 (zero3 _) HKey.out; obtain rfl : 0 = q := (by have := (hk t).symm.trans hat; rw [← HZ.out] at this; simpa [dI] using this); clear hat hD hk)
      | (at_mapUpdate; refine wpList_mapUpdate_own _ rfl _ _ _ 86 rfl 9 3 lawS Tryz.underlying86 _ m N D rfl HD.out (by unfold maxLen; omega) _ _ _ rfl rfl HKey.out _ [] (plainElem_int Tryz.underlying3 (WalkArith.wf_i64 (by omega))) ?_; intro w3 hown3 hgrow3; have HV3 := Lib.hid (HV2.out.counted t (MapR.more HD.out HK.out t 0 HZ.out hown3) hgrow3); have HU3 := Lib.hid (HU2.out.grownM HV2.out.map hgrow3); obtain ⟨q, hrun3, hat3, _⟩ := hown3.lookup_int (t := 86) (e := 3) lawS Tryz.underlying86 Tryz.underlying3 (zero3 _) HKey.out; obtain rfl : 1 = q := (by rw [atKey_put_same HD.out.isMap (isKey_str _)] at hat3; simpa [dI] using hat3); clear hat3 hown3 hgrow3; have hc30 := HV3.out.cell.1; have hc31 := HV3.out.cell.2.1; obtain ⟨vs, hvl, hvo, hvr⟩ := HV3.out.all; have HVo := Lib.hid hvo; have HVr := Lib.hid hvr; have HVl := Lib.hid hvl; clear hvo hvr hvl)
      | (at_builtin; refine wpList_append_own_at _ rfl _ _ 22 rfl B 40 i0 (.slice none 0 0) 1 24 Tryz.underlying22 HIn.out.1 HIn.out.2.1 HIn.out.2.2.1 HIn.out.2.2.2 rfl (by decide) v F.all.length vs rfl (HVo.out.alloc _) ⟨w3.heap.size, 0, none⟩ 1 1 [.slice A1 t.length c1] rfl rfl (by intro j u' hj; match j, hj with | 0, hj => simp at hj; subst hj; simp [Addr.add]) (by intro u' hu'; simp at hu'; subst hu'; rfl) (by have := HV.out.ok.al; unfold maxLen; omega) (by have := HV.out.ok.al; omega) (by have := HV3.out.hw; simp; omega) ?_; intro v4 w4 hown4 hgrow4 _ hat4; have HA4 := Lib.hid (HV3.out.app HU3.out HTl.out HVl.out HVr.out hown4 ((World.grownBy_alloc _ _ _).trans hgrow4) (hat4.imp id (fun e => ⟨_, e, ((Below.refl w3.heap.size w3).alloc (Nat.le_refl _) _).size⟩)) (by have := HV.out.ok.al; show F.all.length + 1 ≤ N + 1; omega)); obtain ⟨hc41, hf41⟩ := HV3.out.app_cell ((World.grownBy_alloc _ _ _).trans hgrow4); clear hown4 hgrow4 hat4; obtain ⟨A4, n4, c4, e4⟩ : ∃ A n c, v4 = .slice A n c := (by obtain ⟨A, c, e, _⟩ := HA4.out.1.all.rc; exact ⟨A, _, c, e⟩); subst e4)
      | (go_at_call 81; refine (reach_any w0 B b m (N + 1) _ _ _ t _ HA4.out.1 (HA4.out.2 _ _ HU3.out) (by have := HTl.out.1; omega) HTl.out.2).mono ?_; rintro e w5 ⟨rfl, hv5⟩; have HV5 := Lib.hid hv5; clear hv5))
    refine bodyPost_end (results_none rfl _ _ _) rfl ⟨rfl, ?_⟩
    rw [HP2.out]
    exact ⟨_, HV5.out⟩
  · have z2 : 1 ≤ z := by omega
    have hne : (z + 1 == 1) = false := by simpa using (show z + 1 ≠ 1 by omega)
    have HP2 := Lib.hid (show G = { F with ms := F.ms ++ [t], all := F.all, vars := reachV F.vars t } by rw [HP.out, if_neg h0])
    clear hz h0
    go_enter Tryz.func46, Tryz.ntmps46
    go_wp2_with (first
      | (go_at_call 65; refine HTi.out.mono ?_; rintro e w1 ⟨u, rfl, hown, hb⟩; have HV1 := Lib.hid (HV.out.step hb); have HU1 := Lib.hid (show RowR w1 B u t from by unfold RowR; rw [show t.length = (ints .i64 t).length by simp [ints]]; exact own_lower hown HV.out.hw); clear hown hb; obtain ⟨A1, c1, hu, _, hic⟩ := HU1.out.ic; subst hu; have HI1 := Lib.hid hic; clear hic)
      | (go_at_call 66; refine (text_key A1 c1 t w1 HI1.out HTl.out.1 HTl.out.2 (HT.out _ HV1.out.base)).mono ?_; rintro e w2 ⟨rfl, hb⟩; have HV2 := Lib.hid (HV1.out.step hb); have HU2 := Lib.hid (HU1.out.keep (.of_below hb)); clear hb; have hc20 := HV2.out.cell.1; obtain ⟨D, hD, hk⟩ := HV2.out.map; have HD := Lib.hid hD; have HK := Lib.hid hk; obtain ⟨q, hrun, hat, _⟩ := hD.lookup_int (t := 86) (e := 3) lawS Tryz.underlying86 Tryz.underlying3 (zero3 _) HKey.out; obtain rfl : z = q := (by have := (hk t).symm.trans hat; rw [← HZ.out] at this; simpa [dI] using this); clear hat hD hk)
      | (at_mapUpdate; refine wpList_mapUpdate_own _ rfl _ _ _ 86 rfl 9 3 lawS Tryz.underlying86 _ m N D rfl HD.out (by unfold maxLen; omega) _ _ _ rfl rfl HKey.out _ [] (plainElem_int Tryz.underlying3 (WalkArith.wf_i64 (by omega))) ?_; intro w3 hown3 hgrow3; have HV3 := Lib.hid (HV2.out.counted t (MapR.more HD.out HK.out t z HZ.out hown3) hgrow3); have HU3 := Lib.hid (HU2.out.grownM HV2.out.map hgrow3); obtain ⟨q, hrun3, hat3, _⟩ := hown3.lookup_int (t := 86) (e := 3) lawS Tryz.underlying86 Tryz.underlying3 (zero3 _) HKey.out; obtain rfl : z + 1 = q := (by rw [atKey_put_same HD.out.isMap (isKey_str _)] at hat3; simpa [dI] using hat3); clear hat3 hown3 hgrow3; have hc30 := HV3.out.cell.1)
      | (go_at_call 81; refine (reach_any w0 B b m (N + 1) _ v _ t _ HV3.out HU3.out (by have := HTl.out.1; omega) HTl.out.2).mono ?_; rintro e w5 ⟨rfl, hv5⟩; have HV5 := Lib.hid hv5; clear hv5))
    refine bodyPost_end (results_none rfl _ _ _) rfl ⟨rfl, ?_⟩
    rw [HP2.out]
    exact ⟨v, HV5.out⟩

end Go.Proofs.YtcaoobdbgdldaaaGreatDoor.Fwd
