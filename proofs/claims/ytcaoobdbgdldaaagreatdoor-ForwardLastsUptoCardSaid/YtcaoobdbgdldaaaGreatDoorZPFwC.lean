/- Part of the proof of ForwardLasts: what the law uses of the text FwC. -/
import Derived.Test.YtcaoobdbgdldaaaGreatDoorZPFwB
import Derived.Maps.OwnSet
import Derived.Maps.OwnOps
import Derived.Deep.QuietTactic
import Derived.BigQuiet
namespace Go.Proofs.YtcaoobdbgdldaaaGreatDoor.Fwd
open Go.RowKit Go.Shelf Go.Maps Go.Proofs.YtcaoobdbgdldaaaGreatDoor.Lit Go.Proofs.YtcaoobdbgdldaaaGreatDoor.Spr
set_option linter.unusedVariables false
set_option linter.unusedSimpArgs false

def RowR (w : World) (B : Nat) (u : Value) (xs : List Int) : Prop := w.ownsRow B 3 1 u xs.length (ints .i64 xs)
theorem RowR.form {w : World} {B : Nat} {u : Value} {xs : List Int} (h : RowR w B u xs) : (u = .slice none 0 0 ∧ xs = []) ∨ ∃ g cap cells, u = .slice (some ⟨g, 0, none⟩) xs.length cap ∧ B ≤ g ∧ w.heap[g]? = some (.cells cells 3 (0, 0)) ∧ xs.length ≤ cap ∧ cells.toList.take xs.length = ints .i64 xs := by
  rcases h.2 with ⟨h1, h2⟩ | ⟨g, cap, cells, h1, h2, h3, h4, _, _, h7⟩
  · exact .inl ⟨h1, List.length_eq_zero_iff.1 h2⟩
  · exact .inr ⟨g, cap, cells, h1, h2, h3, h4, by rw [Nat.mul_one] at h7; exact h7⟩
def KeepI (w w1 : World) : Prop := ∀ (g : Nat) (cells : Array Value), w.heap[g]? = some (Obj.cells cells 3 (0, 0)) → w1.heap[g]? = some (Obj.cells cells 3 (0, 0))
theorem KeepI.of_below {w w1 : World} (hb : Below w.heap.size w w1) : KeepI w w1 := fun g cells h => by
  rw [hb.block g (Array.getElem?_eq_some_iff.1 h).1]; exact h
theorem RowR.keep {w w1 : World} {B : Nat} {u : Value} {xs : List Int} (h : RowR w B u xs) (hk : KeepI w w1) : RowR w1 B u xs := by
  refine ⟨h.1, ?_⟩
  rcases h.2 with h0 | ⟨g, cap, cells, h1, h2, h3, h4⟩
  · exact .inl h0
  · exact .inr ⟨g, cap, cells, h1, h2, hk g cells h3, h4⟩
theorem RowR.ic {w : World} {B : Nat} {u : Value} {xs : List Int} (h : RowR w B u xs) : ∃ A c, u = .slice A xs.length c ∧ xs.length ≤ c ∧ IC w A xs := by
  rcases h.form with ⟨rfl, rfl⟩ | ⟨g, cap, cells, rfl, _, hh, hc, ht⟩
  · exact ⟨none, 0, rfl, Nat.le_refl _, fun k hk => absurd hk (by simp)⟩
  · refine ⟨_, _, rfl, hc, fun k hk => ⟨_, rfl, ?_⟩⟩
    have := h.cells (g := g) rfl k (.int .i64 (xs.getD k 0)) (by
      rw [ints, List.getElem?_map, List.getElem?_eq_getElem hk, List.getD_eq_getElem?_getD, List.getElem?_eq_getElem hk]; rfl)
    exact this

def AllR (w : World) (B : Nat) (v : Value) (all : List (List Int)) : Prop :=
  ∃ vs : List Value, vs.length = all.length ∧ w.ownsRow B 40 1 v all.length vs ∧ ∀ i, i < all.length → RowR w B (vs.getD i (.slice none 0 0)) (all.getD i [])
theorem AllR.nil (w : World) (B : Nat) : AllR w B (.slice none 0 0) [] := ⟨[], rfl, World.ownsRow_nil _ _ _ _, fun i h => absurd h (by simp)⟩
theorem AllR.keep {w w1 : World} {B : Nat} {v : Value} {all : List (List Int)} (h : AllR w B v all) (hk : KeepI w w1) (hv : ∀ g, v.ownBlock = some g → w1.heap[g]? = w.heap[g]?) : AllR w1 B v all := by
  obtain ⟨vs, h1, h2, h3⟩ := h
  refine ⟨vs, h1, ⟨h2.1, ?_⟩, fun i hi => (h3 i hi).keep hk⟩
  rcases h2.2 with h0 | ⟨g, cap, cells, e1, e2, e3, e4⟩
  · exact .inl h0
  · exact .inr ⟨g, cap, cells, e1, e2, by rw [hv g (by rw [e1]; rfl)]; exact e3, e4⟩
theorem AllR.typed {w : World} {B : Nat} {v : Value} {all : List (List Int)} (h : AllR w B v all) : ∀ g, v.ownBlock = some g → B ≤ g ∧ ∃ cells, w.heap[g]? = some (.cells cells 40 (0, 0)) := by
  obtain ⟨vs, _, h2, _⟩ := h
  intro g hg
  rcases h2.2 with ⟨h0, _⟩ | ⟨g', cap, cells, e1, e2, e3, _⟩
  · subst h0; cases hg
  · subst e1
    obtain rfl : g' = g := by simpa [Value.ownBlock] using hg
    exact ⟨e2, _, e3⟩
theorem AllR.below {w w1 : World} {B : Nat} {v : Value} {all : List (List Int)} (h : AllR w B v all) (hb : Below w.heap.size w w1) : AllR w1 B v all :=
  h.keep (.of_below hb) fun g hg => by
    obtain ⟨_, cells, e⟩ := h.typed g hg
    exact hb.block g (Array.getElem?_eq_some_iff.1 e).1
theorem AllR.rc {w : World} {B : Nat} {v : Value} {all : List (List Int)} (h : AllR w B v all) : ∃ A c, v = .slice A all.length c ∧ all.length ≤ c ∧ RC w A all := by
  obtain ⟨vs, h1, h2, h3⟩ := h
  rcases h2.2 with ⟨h0, h4⟩ | ⟨g, cap, cells, e1, e2, e3, e4, _, _, e7⟩
  · refine ⟨none, 0, by rw [h0, h4], by omega, fun k hk => by omega⟩
  · refine ⟨some ⟨g, 0, none⟩, cap, e1, e4, fun k hk => ?_⟩
    obtain ⟨A1, c1, e, _, hi⟩ := (h3 k hk).ic
    refine ⟨_, A1, c1, rfl, ?_, hi⟩
    rw [← e]
    exact h2.cells (g := g) (by rw [e1]; rfl) k _ (by rw [List.getD_eq_getElem?_getD, List.getElem?_eq_getElem (by omega)]; rfl)

def KeepT (w w1 : World) : Prop := ∀ (g : Nat) (cells : Array Value) (e : TypeId), e ≠ 40 → e ≠ 88 → w.heap[g]? = some (Obj.cells cells e (0, 0)) → w1.heap[g]? = some (Obj.cells cells e (0, 0))
theorem KeepT.refl (w : World) : KeepT w w := fun _ _ _ _ _ h => h
theorem KeepT.trans {a b c : World} (h : KeepT a b) (k : KeepT b c) : KeepT a c := fun g cells e h1 h2 h3 => k g cells e h1 h2 (h g cells e h1 h2 h3)
theorem KeepT.of_below {w w1 : World} (hb : Below w.heap.size w w1) : KeepT w w1 := fun g cells e _ _ h => by
  rw [hb.block g (Array.getElem?_eq_some_iff.1 h).1]; exact h
theorem KeepT.setCell {w : World} {b i : Nat} {u : Value} {cells : Array Value} {t : TypeId} (h : w.heap[b]? = some (Obj.cells cells t (0, 0))) (ht : t = 40 ∨ t = 88) : KeepT w (w.setCell ⟨b, i, none⟩ u) := fun g c e n1 n2 he => by
  have hne : g ≠ b := by
    rintro rfl
    rw [h] at he
    injection he with he
    injection he with _ he
    subst he
    rcases ht with ht | ht
    · exact n1 ht
    · exact n2 ht
  rw [Below.heap_setCell w ⟨b, i, none⟩ u g hne]; exact he
theorem KeepT.grown {w w1 : World} {row : Option Nat} (hg : w.grownBy w1 row) (h : ∀ g, row = some g → ∀ (cells : Array Value) (e : TypeId), e ≠ 40 → w.heap[g]? ≠ some (Obj.cells cells e (0, 0))) : KeepT w w1 := fun g c e n1 n2 he => by
  rw [hg.block g (Array.getElem?_eq_some_iff.1 he).1 (fun e2 => h g e2.symm c e n1 he)]; exact he
def MapR (w : World) (m N : Nat) (ms : List (List Int)) : Prop := ∃ D : DataW Unit, w.ownsMap Tryz.prog 9 (plainElem Tryz.prog 3) m N D ∧ ∀ t, D.atKey (.string (txt t)) (dI 0) = dI (ms.count t)
structure FwOk (F : Fw) (N : Nat) : Prop where
  ml : F.ms.length ≤ N
  al : F.all.length ≤ N
  af : ∀ t ∈ F.all, t.length ≤ 2097152 ∧ ∀ x ∈ t, fm x = true
  v : 0 ≤ F.vars ∧ F.vars ≤ 1048576
structure FwV (w0 : World) (B b m N : Nat) (F : Fw) (v : Value) (w : World) : Prop where
  blk : w.heap[b]? = some (Obj.cells #[.map (some m), v, .int .i64 F.vars, .bool F.done] 88 (0, 0))
  map : MapR w m N F.ms
  all : AllR w B v F.all
  base : Below B w0 w
  hb : B ≤ b
  hm : B ≤ m
  hw : B ≤ w.heap.size
  ok : FwOk F N
  kp : KeepT w0 w
def FwR (w0 : World) (B b m N : Nat) (F : Fw) (w : World) : Prop := ∃ v, FwV w0 B b m N F v w
theorem MapR.lt {w : World} {m N : Nat} {ms : List (List Int)} (h : MapR w m N ms) : ∃ es clock, w.heap[m]? = some (.map es clock) := by
  obtain ⟨D, ⟨es, clock, h1, _⟩, _⟩ := h
  exact ⟨es, clock, h1⟩
theorem MapR.kept {w w1 : World} {m N : Nat} {ms : List (List Int)} (h : MapR w m N ms) {row : Option Nat} (hg : w.grownBy w1 row) (hne : some m ≠ row) : MapR w1 m N ms := by
  obtain ⟨D, h1, h2⟩ := h
  exact ⟨D, h1.kept hg hne, h2⟩
theorem MapR.below {w w1 : World} {m N : Nat} {ms : List (List Int)} (h : MapR w m N ms) (hb : Below w.heap.size w w1) : MapR w1 m N ms :=
  h.kept (row := none) ⟨hb.os, hb.tape, hb.output, hb.size, fun i hi _ => hb.block i hi⟩ (by simp)
theorem MapR.setCell {w : World} {m N : Nat} {ms : List (List Int)} (h : MapR w m N ms) {a : Addr} (ha : m ≠ a.block) (u : Value) : MapR (w.setCell a u) m N ms := by
  obtain ⟨D, h1, h2⟩ := h
  exact ⟨D, h1.setCell ha u, h2⟩
theorem FwV.step {w0 : World} {B b m N : Nat} {F : Fw} {v : Value} {w w1 : World} (h : FwV w0 B b m N F v w) (hb : Below w.heap.size w w1) : FwV w0 B b m N F v w1 :=
  ⟨by rw [hb.block b (Array.getElem?_eq_some_iff.1 h.blk).1]; exact h.blk, h.map.below hb, h.all.below hb, h.base.trans (hb.mono h.hw), h.hb, h.hm, Nat.le_trans h.hw hb.size, h.ok, h.kp.trans (.of_below hb)⟩
theorem FwR.step {w0 : World} {B b m N : Nat} {F : Fw} {w w1 : World} (h : FwR w0 B b m N F w) (hb : Below w.heap.size w w1) : FwR w0 B b m N F w1 := h.imp fun _ h => h.step hb
theorem FwR.base {w0 : World} {B b m N : Nat} {F : Fw} {w : World} (h : FwR w0 B b m N F w) : Below B w0 w := by obtain ⟨v, h⟩ := h; exact h.base
theorem FwR.rebase {w0 : World} {B b m N : Nat} {F : Fw} {w : World} (h : FwR w0 B b m N F w) : FwR w B b m N F w := by
  obtain ⟨v, h⟩ := h
  exact ⟨v, h.blk, h.map, h.all, Below.refl _ _, h.hb, h.hm, h.hw, h.ok, .refl _⟩
theorem FwR.kp {w0 : World} {B b m N : Nat} {F : Fw} {w : World} (h : FwR w0 B b m N F w) : KeepT w0 w := by obtain ⟨v, h⟩ := h; exact h.kp
theorem FwR.join {w0 w1 : World} {B b m N N' : Nat} {F G : Fw} {w : World} (h : FwR w0 B b m N F w1) (h' : FwR w1 B b m N' G w) : FwR w0 B b m N' G w := by
  have h1 := h.base
  have h2 := h.kp
  obtain ⟨v, h'⟩ := h'
  exact ⟨v, h'.blk, h'.map, h'.all, h1.trans h'.base, h'.hb, h'.hm, h'.hw, h'.ok, h2.trans h'.kp⟩
theorem FwR.ok {w0 : World} {B b m N : Nat} {F : Fw} {w : World} (h : FwR w0 B b m N F w) : FwOk F N := by obtain ⟨v, h⟩ := h; exact h.ok
theorem FwV.cell {w0 : World} {B b m N : Nat} {F : Fw} {v : Value} {w : World} (h : FwV w0 B b m N F v w) : w.cell? ⟨b, 0, none⟩ = some (.map (some m)) ∧ w.cell? ⟨b, 1, none⟩ = some v ∧ w.cell? ⟨b, 2, none⟩ = some (.int .i64 F.vars) ∧ w.cell? ⟨b, 3, none⟩ = some (.bool F.done) := by
  refine ⟨?_, ?_, ?_, ?_⟩ <;> (unfold World.cell?; rw [h.blk]; rfl)
theorem FwV.free {w0 : World} {B b m N : Nat} {F : Fw} {v : Value} {w : World} (h : FwV w0 B b m N F v w) (i : Nat) : w.frozen? ⟨b, i, none⟩ = false := by
  have := h.blk
  simp [World.frozen?, this]
theorem FwOk.fits {F : Fw} {N : Nat} (h : FwOk F N) (hN : N ≤ 4194304) (c : List Int) (hc : c.length ≤ 17592186044416) : Fits F.all c :=
  ⟨by have := h.al; omega, fun x hx => by have := (h.af x hx).1; omega, hc⟩

def BoxW (w : World) (v : Int) (sl : Value) (w2 : World) : Prop := Below w.heap.size w w2 ∧ w2.cell? ⟨w.heap.size, 0, none⟩ = some (.int .i64 v) ∧ w2.cell? ⟨w.heap.size, 1, none⟩ = some sl
theorem BoxW.init (w : World) (v : Int) (sl : Value) : BoxW w v sl (w.alloc (.cells #[.int .i64 v, sl] 24)) := ⟨(Below.refl _ _).alloc (Nat.le_refl _) _, by simp, by simp⟩
theorem BoxW.step {w : World} {v : Int} {sl : Value} {w2 w3 : World} (h : BoxW w v sl w2) (hb : Below w2.heap.size w2 w3) : BoxW w v sl w3 :=
  ⟨h.1.trans (hb.mono h.1.size), (hb.cell (World.block_lt_of_cell? _ _ h.2.1)).trans h.2.1, (hb.cell (World.block_lt_of_cell? _ _ h.2.2)).trans h.2.2⟩

theorem fit_any (v : Int) (A : Option Addr) (c0 : Nat) (cs : List (List Int)) (Af : Option Addr) (cf : Nat) (c : List Int) (w : World) (hC : RC w A cs) (hF : IC w Af c) (hl : cs.length ≤ 9223372036854775807) (hl2 : ∀ x ∈ cs, x.length ≤ 9223372036854775807) (hfl : c.length ≤ 9223372036854775807) :
    Calls Tryz.prog 93 #[.agg #[.int .i64 v, .slice A cs.length c0], .slice Af c.length cf] w fun e w' => e = .returned (.bool (formedB v cs && c.all fm)) ∧ Below w.heap.size w w' := by
  have HFm := Lib.hid (fun (w2 : World) (hb : Below w.heap.size w w2) => cformed_any v A c0 cs w2 (hC.below hb) hl hl2)
  have HSd := Lib.hid (fun (w2 : World) (hb : Below w.heap.size w w2) => sound_any Af cf c w2 (hF.below hb) hfl)
  have HW := Lib.hid (BoxW.init w v (.slice A cs.length c0))
  have hc0 := HW.out.2.1
  have hc1 := HW.out.2.2
  clear hC hF
  generalize cs.length = n at *
  generalize c.length = k at *
  generalize formedB v cs = p at *
  generalize c.all fm = q at *
  cases p with
  | true =>
    go_enter Tryz.func93, Tryz.ntmps93
    go_wp2_with (first
      | (go_at_call 31; refine (HFm.out _ HW.out.1).mono ?_; rintro e w2 ⟨rfl, hb⟩; have HW2 := Lib.hid (HW.out.step hb); clear hb)
      | (go_at_call 86; refine (HSd.out _ HW2.out.1).mono ?_; rintro e w3 ⟨rfl, rfl⟩))
    go_ret
    exact ⟨rfl, HW2.out.1⟩
  | false =>
    go_enter Tryz.func93, Tryz.ntmps93
    go_wp2_with (first
      | (go_at_call 31; refine (HFm.out _ HW.out.1).mono ?_; rintro e w2 ⟨rfl, hb⟩; have HW2 := Lib.hid (HW.out.step hb); clear hb))
    go_ret
    exact ⟨rfl, HW2.out.1⟩

def KindPost (w : World) (r : Int × Int) (e : Ending) (w' : World) : Prop := e = .returned (.tuple #[.int .i64 r.1, .int .i64 r.2]) ∧ Below w.heap.size w w'
set_option maxHeartbeats 1000000 in
theorem kind_any (v : Int) (A : Option Addr) (c0 : Nat) (cs : List (List Int)) (Af : Option Addr) (cf : Nat) (c : List Int) (w : World) (hC : RC w A cs) (hF : IC w Af c) (hS : Fits cs c) :
    Calls Tryz.prog 63 #[.agg #[.int .i64 v, .slice A cs.length c0], .slice Af c.length cf] w (KindPost w (kindF v cs c)) := by
  have HFt := Lib.hid (fun (w2 : World) (hb : Below w.heap.size w w2) => fit_any v A c0 cs Af cf c w2 (hC.below hb) (hF.below hb) (by have := hS.1; omega) (fun x hx => by have := hS.2.1 x hx; omega) (by have := hS.2.2; omega))
  have HW := Lib.hid (BoxW.init w v (.slice A cs.length c0))
  have hc0 := HW.out.2.1
  have hc1 := HW.out.2.2
  unfold KindPost kindF kindR
  by_cases hf : (formedB v cs && c.all fm) = true
  · rw [hf] at HFt
    rw [if_pos hf]
    have hfm : ∀ l ∈ c, fm l = true := List.all_eq_true.1 (by rw [Bool.and_eq_true] at hf; exact hf.2)
    have HFo := Lib.hid (fun (w2 : World) (hb : Below w.heap.size w w2) => follows_any v A c0 cs Af cf c w2 (hC.below hb) (hF.below hb) hS hfm)
    have HSa := Lib.hid (fun (w2 : World) (hb : Below w.heap.size w w2) => safe_any v A c0 cs Af cf c w2 (hC.below hb) (hF.below hb) hS hfm)
    clear hC hF hf hfm hS
    generalize cs.length = n at *
    generalize c.length = k at *
    generalize followsR v cs c = p at *
    generalize safeR v cs c = q at *
    cases p with
    | true =>
      go_enter Tryz.func63, Tryz.ntmps63
      go_wp2_with (first
        | (go_at_call 93; refine (HFt.out _ HW.out.1).mono ?_; rintro e w2 ⟨rfl, hb⟩; have HW2 := Lib.hid (HW.out.step hb); have hc20 := HW2.out.2.1; have hc21 := HW2.out.2.2; clear hb)
        | (go_at_call 94; refine (HFo.out _ HW2.out.1).mono ?_; rintro e w3 ⟨rfl, hb⟩; have HW3 := Lib.hid (HW2.out.step hb); clear hb))
      go_ret2
      exact ⟨rfl, HW3.out.1⟩
    | false =>
      cases q with
      | true =>
        go_enter Tryz.func63, Tryz.ntmps63
        go_wp2_with (first
          | (go_at_call 93; refine (HFt.out _ HW.out.1).mono ?_; rintro e w2 ⟨rfl, hb⟩; have HW2 := Lib.hid (HW.out.step hb); have hc20 := HW2.out.2.1; have hc21 := HW2.out.2.2; clear hb)
          | (go_at_call 94; refine (HFo.out _ HW2.out.1).mono ?_; rintro e w3 ⟨rfl, hb⟩; have HW3 := Lib.hid (HW2.out.step hb); have hc30 := HW3.out.2.1; have hc31 := HW3.out.2.2; clear hb)
          | (go_at_call 95; refine (HSa.out _ HW3.out.1).mono ?_; rintro e w4 ⟨rfl, hb⟩; have HW4 := Lib.hid (HW3.out.step hb); clear hb))
        go_ret2
        exact ⟨rfl, HW4.out.1⟩
      | false =>
        go_enter Tryz.func63, Tryz.ntmps63
        go_wp2_with (first
          | (go_at_call 93; refine (HFt.out _ HW.out.1).mono ?_; rintro e w2 ⟨rfl, hb⟩; have HW2 := Lib.hid (HW.out.step hb); have hc20 := HW2.out.2.1; have hc21 := HW2.out.2.2; clear hb)
          | (go_at_call 94; refine (HFo.out _ HW2.out.1).mono ?_; rintro e w3 ⟨rfl, hb⟩; have HW3 := Lib.hid (HW2.out.step hb); have hc30 := HW3.out.2.1; have hc31 := HW3.out.2.2; clear hb)
          | (go_at_call 95; refine (HSa.out _ HW3.out.1).mono ?_; rintro e w4 ⟨rfl, hb⟩; have HW4 := Lib.hid (HW3.out.step hb); clear hb))
        go_ret2
        exact ⟨rfl, HW4.out.1⟩
  · rw [Bool.eq_false_iff.2 hf] at HFt
    rw [if_neg hf]
    clear hC hF hf hS
    generalize cs.length = n at *
    generalize c.length = k at *
    go_enter Tryz.func63, Tryz.ntmps63
    go_wp2_with (first
      | (go_at_call 93; refine (HFt.out _ HW.out.1).mono ?_; rintro e w2 ⟨rfl, hb⟩; have HW2 := Lib.hid (HW.out.step hb); clear hb))
    go_ret2
    exact ⟨rfl, HW2.out.1⟩

end Go.Proofs.YtcaoobdbgdldaaaGreatDoor.Fwd
