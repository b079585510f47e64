/- Part of the proof of ForwardLasts: what the law uses of the text ClE. -/
import Derived.Test.YtcaoobdbgdldaaaGreatDoorZPClM
import Derived.Test.YtcaoobdbgdldaaaGreatDoorZPClO
import Derived.Test.YtcaoobdbgdldaaaGreatDoorZPFwO
import Derived.Test.YtcaoobdbgdldaaaGreatDoorZPPureForwardSound
import Derived.Test.YtcaoobdbgdldaaaGreatDoorZPP11
import Derived.Test.YtcaoobdbgdldaaaGreatDoorZPP7
import Derived.Deep.RegionHeld3
namespace Go.Proofs.YtcaoobdbgdldaaaGreatDoor.Cl
open Go.RowKit Go.Shelf Go.Maps Go.Proofs.YtcaoobdbgdldaaaGreatDoor.Lit Go.Proofs.YtcaoobdbgdldaaaGreatDoor.Spr Go.Proofs.YtcaoobdbgdldaaaGreatDoor.Fwd Go.Proofs.YtcaoobdbgdldaaaGreatDoor.P Go.Proofs.YtcaoobdbgdldaaaGreatDoorW.PrintWords
set_option linter.unusedVariables false
set_option linter.unusedSimpArgs false
open Go.Proofs.YtcaoobdbgdldaaaGreatDoor.Cn (kL kL_mk infoL)

theorem new_ms (cs : List (List Int)) : (newW cs).ms.length = cs.length := by
  have : ∀ (cs : List (List Int)) (F : Fw), (cs.foldl putW F).ms.length = F.ms.length + cs.length := by
    intro cs
    induction cs with
    | nil => exact fun F => rfl
    | cons c t ih =>
      intro F
      rw [List.foldl_cons, ih]
      simp [putW]
      omega
  unfold newW
  rw [this]
  simp
theorem pick_two (z : Int) : ∃ r, depotkit_Pick.f z 2 = some r ∧ (r = 0 ↔ Int.tmod z 2 = 0) := by
  unfold depotkit_Pick.f
  rw [if_neg (by decide)]
  have h1 := Int.tmod_lt_of_pos z (b := 2) (by decide)
  have h2 : -2 < Int.tmod z 2 := by
    have := Int.lt_tmod_of_pos z (b := 2) (by decide)
    simpa using this
  split
  · refine ⟨_, rfl, ?_⟩
    unfold wrap64
    omega
  · exact ⟨_, rfl, Iff.rfl⟩
theorem narrow_any (v : Int) (A : Option Addr) (c0 : Nat) (cs : List (List Int)) (w : World) (hC : Kd.C kL w A cs.length cs) (hc0 : cs.length ≤ c0) (hl : cs.length ≤ 2097152) (h8 : ∀ c ∈ cs, c.length ≤ 2097152) (hf : ∀ c ∈ cs, ∀ x ∈ c, fm x = true) :
    Calls Tryz.prog 32 #[.agg #[.int .i64 v, .slice A cs.length c0]] w fun e w' => ∃ Ad cd, e = .returned (.agg #[.int .i64 (Pure.maxC 0 cs), .slice Ad cs.length cd]) ∧ Kd.S kL 40 w' w.heap.size (fun _ => True) (.slice Ad cs.length cd) cs ∧ Below w.heap.size w w' := by
  obtain ⟨k, hk⟩ := Pure.narrow_ev v cs hl h8 (fun c hc x hx => by have := fm_true (hf c hc x hx); omega)
  refine (depotlaw11_narrow.calls k v A c0 cs _ _ w hC hc0 (hk k (Nat.le_refl _))).mono ?_
  rintro e w' ⟨v1, rfl, hS, hb⟩
  obtain ⟨Ad, cd, rfl⟩ := Kd.S_slice hS
  exact ⟨Ad, cd, rfl, hS, hb⟩

abbrev Zo : Obj := .cells #[.int .i64 0, .slice none 0 0] 24
def Zf (B g : Nat) (X : World) : Prop := B ≤ g ∧ X.heap[g]? = some (Obj.cells #[.int .i64 0, .slice none 0 0] 24 (0, 0))
theorem Zf.new {wc X : World} (hb : Below wc.heap.size wc X) : Zf wc.heap.size X.heap.size (X.alloc Zo) := ⟨hb.size, World.alloc_heap_new _ _⟩
theorem Zf.new' {wc X : World} {g : Nat} (hb : Below wc.heap.size wc X) (hg : g = X.heap.size) : Zf wc.heap.size g (X.alloc Zo) := by subst hg; exact .new hb
theorem Zf.lt {B g : Nat} {X : World} (h : Zf B g X) : g < X.heap.size := (Array.getElem?_eq_some_iff.1 h.2).1
theorem Zf.step {B g : Nat} {X Y : World} (h : Zf B g X) (hb : Below X.heap.size X Y) : Zf B g Y := ⟨h.1, (hb.block g h.lt).trans h.2⟩
theorem Zf.alloc {B g : Nat} {X : World} (h : Zf B g X) (o : Obj) : Zf B g (X.alloc o) := h.step ((Below.refl _ _).alloc (Nat.le_refl _) _)
theorem Zf.drew {B g : Nat} {X : World} (h : Zf B g X) : Zf B g X.drew := h.step ((Below.refl _ _).drew)
theorem Zf.drewN {B g : Nat} {X : World} (h : Zf B g X) (n : Nat) : Zf B g (X.drewN n) := h.step (below_drewN (Below.refl _ _) n)
theorem Zf.cell {B g : Nat} {X : World} (h : Zf B g X) : X.cell? ⟨g, 0, none⟩ = some (.int .i64 0) ∧ X.cell? ⟨g, 1, none⟩ = some (.slice none 0 0) ∧ X.frozen? ⟨g, 0, none⟩ = false ∧ X.frozen? ⟨g, 1, none⟩ = false := by
  have h2 := h.2
  refine ⟨?_, ?_, ?_, ?_⟩
  · unfold World.cell?; rw [h2]; rfl
  · unfold World.cell?; rw [h2]; rfl
  · simp [World.frozen?, h2]
  · simp [World.frozen?, h2]
theorem size_alloc (X : World) (o : Obj) : X.heap.size ≤ (X.alloc o).heap.size := ((Below.refl X.heap.size X).alloc (Nat.le_refl _) o).size
theorem size_alloc1 (X : World) (o : Obj) : X.heap.size + 1 = (X.alloc o).heap.size := (Array.size_push _).symm
theorem setK {B : Nat} {w X : World} {a : Addr} {v : Value} (hle : B ≤ a.block) (h : Below B w X) : Below B w (X.setCell a v) := h.setCell hle v
theorem Zf.use {Q : Prop} (B g : Nat) (X : World) (hz : Zf B g X) (hk : Zf B g X → B ≤ g → g < X.heap.size → g ≠ X.heap.size → X.heap.size ≠ g → X.cell? ⟨g, 0, none⟩ = some (.int .i64 0) → X.cell? ⟨g, 1, none⟩ = some (.slice none 0 0) → X.frozen? ⟨g, 0, none⟩ = false → X.frozen? ⟨g, 1, none⟩ = false → Q) : Q := hk hz hz.1 hz.lt (Nat.ne_of_lt hz.lt) (Nat.ne_of_gt hz.lt) hz.cell.1 hz.cell.2.1 hz.cell.2.2.1 hz.cell.2.2.2
def F2 (g : Nat) (v : Int) (sl : Value) (X : World) : Prop := X.heap[g]? = some (Obj.cells #[.int .i64 v, sl] 24 (0, 0))
theorem F2.step {g : Nat} {v : Int} {sl : Value} {X Y : World} (h : F2 g v sl X) (hb : Below X.heap.size X Y) : F2 g v sl Y := (hb.block g (Array.getElem?_eq_some_iff.1 h).1).trans h
theorem F2.cell {g : Nat} {v : Int} {sl : Value} {X : World} (h : F2 g v sl X) : X.cell? ⟨g, 0, none⟩ = some (.int .i64 v) ∧ X.cell? ⟨g, 1, none⟩ = some sl := by
  have h2 : X.heap[g]? = some (Obj.cells #[.int .i64 v, sl] 24 (0, 0)) := h
  constructor <;> (unfold World.cell?; rw [h2]; rfl)
structure Two (wc : World) (g1 g2 : Nat) (V1 V2 : Int) (cs now : List (List Int)) (Y : World) : Prop where
  below : Below wc.heap.size wc Y
  one : ∃ A1 c1, F2 g1 V1 (.slice A1 cs.length c1) Y ∧ cs.length ≤ c1 ∧ Kd.C kL Y A1 cs.length cs
  two : ∃ A2 c2, F2 g2 V2 (.slice A2 now.length c2) Y ∧ now.length ≤ c2 ∧ Kd.C kL Y A2 now.length now
theorem Two.of {wc Y : World} {g1 g2 : Nat} {V1 V2 : Int} {cs now : List (List Int)} {A1 A2 : Option Addr} {c1 c2 n1 n2 : Nat} (hb : Below wc.heap.size wc Y) (f1 : F2 g1 V1 (.slice A1 n1 c1) Y) (f2 : F2 g2 V2 (.slice A2 n2 c2) Y)
    (h1 : Kd.S kL 40 Y 0 (fun _ => True) (.slice A1 n1 c1) cs) (h2 : Kd.S kL 40 Y 0 (fun _ => True) (.slice A2 n2 c2) now) : Two wc g1 g2 V1 V2 cs now Y := by
  obtain ⟨rfl, l1, r1⟩ := Kd.S_reads' h1
  obtain ⟨rfl, l2, r2⟩ := Kd.S_reads' h2
  exact ⟨hb, ⟨A1, c1, f1, l1, r1⟩, ⟨A2, c2, f2, l2, r2⟩⟩
theorem F2.new {X : World} {V : Int} {sl : Value} {g : Nat} (hg : g = X.heap.size) : F2 g V sl (X.alloc (Obj.cells #[.int .i64 V, sl] 24)) := by subst hg; exact World.alloc_heap_new _ _
theorem F2.alloc {X : World} {V : Int} {sl : Value} {g : Nat} (h : F2 g V sl X) (o : Obj) : F2 g V sl (X.alloc o) := h.step (below_alloc (Below.refl _ _) o)
theorem F2.far {X : World} {V : Int} {sl u : Value} {g k j : Nat} (hne : k ≠ g) (h : F2 g V sl X) : F2 g V sl (X.setCell ⟨k, j, none⟩ u) := by
  unfold F2
  rw [Below.heap_setCell X ⟨k, j, none⟩ u g (Ne.symm hne)]
  exact h
theorem F2.sets {X : World} {V : Int} {sl : Value} {B g : Nat} (h : Zf B g X) : F2 g V sl ((X.setCell ⟨g, 0, none⟩ (.int .i64 V)).setCell ⟨g, 1, none⟩ sl) := (blkSet ((blkSet h.2 0 _).trans rfl) 1 _).trans rfl
theorem Zf.far {X : World} {u : Value} {B g k j : Nat} (hne : k ≠ g) (h : Zf B g X) : Zf B g (X.setCell ⟨k, j, none⟩ u) := ⟨h.1, by
  rw [Below.heap_setCell X ⟨k, j, none⟩ u g (Ne.symm hne)]
  exact h.2⟩
def BoxT (g : Nat) (X : World) : Prop := ∃ cells, X.heap[g]? = some (Obj.cells cells 24 (0, 0))
theorem Zf.boxT {B g : Nat} {X : World} (h : Zf B g X) : BoxT g X := ⟨_, h.2⟩
theorem BoxT.set {g : Nat} {X : World} (h : BoxT g X) (k j : Nat) (u : Value) : BoxT g (X.setCell ⟨k, j, none⟩ u) := by
  obtain ⟨cells, h⟩ := h
  by_cases hk : k = g
  · subst hk; exact ⟨_, blkSet h j u⟩
  · exact ⟨cells, by rw [Below.heap_setCell X ⟨k, j, none⟩ u g (fun e => hk e.symm)]; exact h⟩
theorem setS {X : World} {g j b : Nat} {u v : Value} {xs : List (List Int)} (hB : BoxT g X) (h : Kd.S kL 40 X b (fun _ => True) v xs) : Kd.S kL 40 (X.setCell ⟨g, j, none⟩ u) b (fun _ => True) v xs := by
  obtain ⟨cells, hB⟩ := hB
  exact Kd.S_set h hB (by decide) j u

theorem Two.a {wc w6 : World} {V1 V2 : Int} {cs now : List (List Int)} {A5 A6 : Option Addr} {c5 c6 nc zl : Nat} (hb : Below wc.heap.size wc w6) (h1 : Kd.S kL 40 w6 0 (fun _ => True) (.slice A5 nc c5) cs) (h2 : Kd.S kL 40 w6 0 (fun _ => True) (.slice A6 zl c6) now) : Two wc w6.heap.size (w6.heap.size + 1) V1 V2 cs now ((w6.alloc (Obj.cells #[.int .i64 V1, .slice A5 nc c5] 24)).alloc (Obj.cells #[.int .i64 V2, .slice A6 zl c6] 24)) :=
  .of ((hb.alloc hb.size _).alloc (Nat.le_trans hb.size (size_alloc _ _)) _) ((F2.new rfl).alloc _) (F2.new (size_alloc1 _ _)) (Kd.S_alloc (Kd.S_alloc h1 _) _) (Kd.S_alloc (Kd.S_alloc h2 _) _)
theorem Two.b {wc w6 : World} {V1 V2 : Int} {cs now : List (List Int)} {A5 A6 : Option Addr} {c5 c6 nc zl : Nat} (hb : Below wc.heap.size wc w6) (h1 : Kd.S kL 40 w6 0 (fun _ => True) (.slice A5 nc c5) cs) (h2 : Kd.S kL 40 w6 0 (fun _ => True) (.slice A6 zl c6) now) : Two wc (w6.heap.size + 1) w6.heap.size V1 V2 cs now ((w6.alloc (Obj.cells #[.int .i64 V2, .slice A6 zl c6] 24)).alloc (Obj.cells #[.int .i64 V1, .slice A5 nc c5] 24)) :=
  .of ((hb.alloc hb.size _).alloc (Nat.le_trans hb.size (size_alloc _ _)) _) (F2.new (size_alloc1 _ _)) ((F2.new rfl).alloc _) (Kd.S_alloc (Kd.S_alloc h1 _) _) (Kd.S_alloc (Kd.S_alloc h2 _) _)
theorem setSS {X : World} {g b : Nat} {u u' v : Value} {xs : List (List Int)} (hB : BoxT g X) (h : Kd.S kL 40 X b (fun _ => True) v xs) : Kd.S kL 40 ((X.setCell ⟨g, 0, none⟩ u).setCell ⟨g, 1, none⟩ u') b (fun _ => True) v xs := setS (hB.set _ _ _) (setS hB h)
theorem setKK {B g : Nat} {w X : World} {u u' : Value} (hle : B ≤ g) (h : Below B w X) : Below B w ((X.setCell ⟨g, 0, none⟩ u).setCell ⟨g, 1, none⟩ u') := setK hle (setK hle h)
theorem Two.c {wc w6 : World} {V1 V2 : Int} {cs now : List (List Int)} {A5 A6 : Option Addr} {c5 c6 nc zl : Nat} (hb : Below wc.heap.size wc w6) (h1 : Kd.S kL 40 w6 0 (fun _ => True) (.slice A5 nc c5) cs) (h2 : Kd.S kL 40 w6 0 (fun _ => True) (.slice A6 zl c6) now) {g1 : Nat} (z : Zf wc.heap.size g1 w6) : Two wc g1 w6.heap.size V1 V2 cs now (((w6.setCell ⟨g1, 0, none⟩ (.int .i64 V1)).setCell ⟨g1, 1, none⟩ (.slice A5 nc c5)).alloc (Obj.cells #[.int .i64 V2, .slice A6 zl c6] 24)) :=
  .of ((setKK z.1 hb).alloc (setKK (u := .int .i64 V1) (u' := .slice A5 nc c5) z.1 hb).size _) ((F2.sets z).alloc _) (F2.new (by simp [World.setCell])) (Kd.S_alloc (setSS z.boxT h1) _) (Kd.S_alloc (setSS z.boxT h2) _)
theorem Two.d {wc w6 : World} {V1 V2 : Int} {cs now : List (List Int)} {A5 A6 : Option Addr} {c5 c6 nc zl : Nat} (hb : Below wc.heap.size wc w6) (h1 : Kd.S kL 40 w6 0 (fun _ => True) (.slice A5 nc c5) cs) (h2 : Kd.S kL 40 w6 0 (fun _ => True) (.slice A6 zl c6) now) {g1 : Nat} (z : Zf wc.heap.size g1 w6) : Two wc w6.heap.size g1 V1 V2 cs now (((w6.setCell ⟨g1, 0, none⟩ (.int .i64 V2)).setCell ⟨g1, 1, none⟩ (.slice A6 zl c6)).alloc (Obj.cells #[.int .i64 V1, .slice A5 nc c5] 24)) :=
  .of ((setKK z.1 hb).alloc (setKK (u := .int .i64 V2) (u' := .slice A6 zl c6) z.1 hb).size _) (F2.new (by simp [World.setCell])) ((F2.sets z).alloc _) (Kd.S_alloc (setSS z.boxT h1) _) (Kd.S_alloc (setSS z.boxT h2) _)
theorem Two.e {wc w6 : World} {V1 V2 : Int} {cs now : List (List Int)} {A5 A6 : Option Addr} {c5 c6 nc zl : Nat} (hb : Below wc.heap.size wc w6) (h1 : Kd.S kL 40 w6 0 (fun _ => True) (.slice A5 nc c5) cs) (h2 : Kd.S kL 40 w6 0 (fun _ => True) (.slice A6 zl c6) now) {g1 g2 : Nat} (z1 : Zf wc.heap.size g1 w6) (z2 : Zf wc.heap.size g2 w6) (hne : g1 ≠ g2) : Two wc g1 g2 V1 V2 cs now ((((w6.setCell ⟨g1, 0, none⟩ (.int .i64 V1)).setCell ⟨g1, 1, none⟩ (.slice A5 nc c5)).setCell ⟨g2, 0, none⟩ (.int .i64 V2)).setCell ⟨g2, 1, none⟩ (.slice A6 zl c6)) :=
  .of (setKK z2.1 (setKK z1.1 hb)) (F2.far (Ne.symm hne) (F2.far (Ne.symm hne) (F2.sets z1))) (F2.sets ((z2.far hne).far hne)) (setSS ((z2.boxT.set _ _ _).set _ _ _) (setSS z1.boxT h1)) (setSS ((z2.boxT.set _ _ _).set _ _ _) (setSS z1.boxT h2))

theorem formed_fm (now : List (List Int)) (h : ∀ c ∈ now, ∀ x ∈ c, fm x = true) : formedB 1048576 now = true := by
  unfold formedB
  simp only [Bool.and_eq_true, decide_eq_true_eq]
  refine ⟨⟨by decide, by decide⟩, List.all_eq_true.2 fun c hc => ?_⟩
  unfold withinB
  rw [Bool.and_eq_true]
  refine ⟨List.all_eq_true.2 fun x hx => h c hc x hx, List.all_eq_true.2 fun x hx => decide_eq_true ?_⟩
  have := fm_true (h c hc x hx)
  unfold lv
  rw [if_pos (h c hc x hx)]
  split <;> omega

set_option maxHeartbeats 16000000 in
set_option maxRecDepth 100000 in
theorem lasts_yes (v : Int) (A : Option Addr) (c0 : Nat) (cs : List (List Int)) (Ao : Option Addr) (co : Nat) (l : List (Int × List Int)) (w : World) (hC : Kd.C kL w A cs.length cs) (hc0 : cs.length ≤ c0) (hO : OC w Ao l) (hcl : cs.length ≤ 1048576) (h8 : ∀ c ∈ cs, c.length ≤ 1048576) (hll : l.length ≤ 1048576) (hl8 : ∀ s ∈ l, s.2.length ≤ 1048576) (hT : Tab w) (hp : formedB v cs = true) :
    Calls Tryz.prog 8 #[.agg #[.int .i64 v, .slice A cs.length c0], .slice Ao l.length co] w fun e w' => e = .returned (.bool true) ∧ Below w.heap.size w w' := by
  have HW := Lib.hid (FBox.init w v (.slice A cs.length c0))
  obtain ⟨hb0, hb1, hb2⟩ := HW.out.cell
  have HA := Lib.hid (fun (w2 : World) (hb : Below w.heap.size w w2) => awake_any w2 (hT.below hb))
  have HTb := Lib.hid (fun (w2 : World) (hb : Below w.heap.size w w2) => Lib.tabBelow_of_tabIs (hT.below hb))
  have HN := Lib.hid (fun (w2 : World) (hb : Below w.heap.size w w2) => show Calls Tryz.prog 18 #[.agg #[.int .i64 v, .slice A cs.length c0]] w2 (fun e w' => ∃ b m, e = .returned (.tuple #[.pointer (some ⟨b, 0, none⟩), .int .i64 0]) ∧ FwR w2 w2.heap.size b m cs.length (newW cs) w') from by
    have := new_any v A c0 cs w2 (rc_of_C (Kd.C_below hC hb)) (by omega) (fun c hc => by have := h8 c hc; omega) (hT.below hb)
    unfold Fwd.NewPost at this
    simp only [hp, ↓reduceIte] at this
    exact this)
  have HNa := Lib.hid (fun (w2 : World) (hb : Below w.heap.size w w2) => narrow_any v A c0 cs w2 (Kd.C_below hC hb) hc0 (by omega) (fun c hc => by have := h8 c hc; omega) (fun c hc x hx => (formed_mem hp c hc x hx).1))
  have HCn := Lib.hid (fun (V : Int) (w2 : World) (Ad : Option Addr) (cd : Nat) (hr : Kd.C kL w2 Ad cs.length cs) (hc : cs.length ≤ cd) => Cn.count_any V Ad cd cs w2 hr hc (by omega) (fun c hc => by have := h8 c hc; omega))
  have HV1 := Lib.hid (Pure.narrow_formed hp)
  have HOc := Lib.hid (fun k (hk : k < l.length) => hO k hk)
  have H8 := Lib.hid (fun k (hk : k < l.length) => show (l.getD k (0, [])).2.length ≤ 1048576 from hl8 _ (by rw [getD_nth _ _ _ hk]; exact List.getElem_mem _))
  have HSn := Lib.hid (fun k (hk : k < l.length) => opsW_succ (newW cs) l k hk)
  have HAm := Lib.hid (fun k => ((ND.new cs).ops (l.take k)))
  have HM0 := Lib.hid (show (newW cs).ms.length = cs.length from new_ms cs)
  have HTk := Lib.hid (show l.take l.length = l from List.take_length)
  have HFin := Lib.hid (fun (V1 V2 : Int) (now : List (List Int)) => @lasts_math v V1 V2 cs now l hp)
  have HCC := Lib.hid hC
  have HC0 := Lib.hid hc0
  have HC8 := Lib.hid h8
  have HOb := Lib.hid hO
  have HFd := Lib.hid hp
  clear hT hO hC hc0 hp h8
  generalize hF0 : newW cs = F0 at *
  generalize hnc : cs.length = nc at *
  generalize hn : l.length = n at *
  have HNc := Lib.hid hnc
  have HNl := Lib.hid hn
  clear hnc hn hF0
  go_enter Tryz.func8, Tryz.ntmps8
  go_upto_block 0 with (first
    | (go_at_call 23; refine (HA.out _ HW.out.below).mono ?_; rintro e w2 ⟨rfl, hb⟩; have HW2 := Lib.hid (HW.out.step hb); clear hb; obtain ⟨hc20, hc21, hc22⟩ := HW2.out.cell)
    | (go_at_call 18; refine (HN.out _ HW2.out.below).mono ?_; rintro e w3 ⟨b, m, rfl, hr⟩; have HI := Lib.hid hr; have HW3 := Lib.hid (HW2.out.keep (hr.base.mono HW2.out.below.size) hr.kp); clear hr; obtain ⟨hc30, hc31, hc32⟩ := HW3.out.cell))
  have HTb2 := Lib.hid (HTb.out _ HW2.out.below)
  have HBn := Lib.hid HW2.out.below.size
  clear HA HTb HN HW hb0 hb1 hb2 hc20 hc21 hc22
  go_wp2_with (fail)
  go_loopw [7, 8] (fun ct i wr => ∃ k : Nat, k ≤ n ∧ i = .int .i64 k ∧ ct = .int .i64 ((opsW F0 (l.take k)).ms.length : Nat) ∧ FBox w v (.slice A nc c0) wr ∧ FwR w2 w2.heap.size b m (nc + k) (opsW F0 (l.take k)) wr) (fun _ i _ => n - (intOf i).toNat)
  case atStart => exact ⟨0, Nat.zero_le _, rfl, by rw [show (opsW F0 (l.take 0)).ms.length = F0.ms.length from rfl, HM0.out], HW3.out, HI.out⟩
  case round =>
    obtain ⟨k, hk, rfl, rfl, hfb, hr⟩ := hrel
    have HFB := Lib.hid hfb
    have HK := Lib.hid hr
    clear hfb hr
    have hbw := HFB.out.below
    by_cases hlt : k < n
    · obtain ⟨ad, on, A1, c1, hAo, h0, h1, h2, h3⟩ := HOc.out k hlt
      subst hAo
      have HX := Lib.hid (fun wx (hb : Below w.heap.size w wx) => show wx.cell? (ad.add (k * 3)) = some (.int .i64 on) ∧ wx.cell? ⟨(ad.add (k * 3)).block, (ad.add (k * 3)).off + 1, none⟩ = some (.int .i64 (l.getD k (0, [])).1) ∧ wx.cell? ⟨(ad.add (k * 3)).block, (ad.add (k * 3)).off + 2, none⟩ = some (.slice A1 (l.getD k (0, [])).2.length c1) ∧ IC wx A1 (l.getD k (0, [])).2 from
        ⟨(hb.cell (World.block_lt_of_cell? w _ h0)).trans h0, (hb.cell (World.block_lt_of_cell? w _ h1)).trans h1, (hb.cell (World.block_lt_of_cell? w _ h2)).trans h2, h3.below hb⟩)
      clear h0 h1 h2 h3
      obtain ⟨x0, x1, x2, _⟩ := HX.out wr hbw
      have h8k := H8.out k hlt
      have hpk := pick_two (l.getD k (0, [])).1
      obtain ⟨r, hr1, hr2⟩ := hpk
      have HPk := Lib.hid (depotkit_Pick.calls (l.getD k (0, [])).1 2 r wr hr1)
      have HD := Lib.hid (fun wx (hb : Below wr.heap.size wr wx) => drop_any wx _ b m (nc + k) (opsW F0 (l.take k)) A1 c1 (l.getD k (0, [])).2 wx (HK.out.step hb).rebase (HX.out wx (hbw.trans (hb.mono hbw.size))).2.2.2 (by omega) (HTb2.out.on (HK.out.step hb).base) (by omega) (fun t ht => ((HAm.out k).2 t).2 ht))
      have HAd := Lib.hid (fun wx (hb : Below wr.heap.size wr wx) => add_any wx _ b m (nc + k) (opsW F0 (l.take k)) A1 c1 (l.getD k (0, [])).2 wx (HK.out.step hb).rebase (HX.out wx (hbw.trans (hb.mono hbw.size))).2.2.2 (by omega) (HTb2.out.on (HK.out.step hb).base) (by omega))
      have HSk := Lib.hid (HSn.out k hlt)
      have HMl := Lib.hid (show (opsW F0 (l.take k)).ms.length ≤ nc + k from HK.out.ok.ml)
      generalize l.getD k (0, []) = s at *
      obtain ⟨z, c⟩ := s
      dsimp only at *
      generalize opsW F0 (l.take k) = F at *
      have HMa := Lib.hid (add_ms F c)
      have HMd := Lib.hid (drop_ms F c)
      unfold DropPost at HD
      unfold AddPost at HAd
      unfold opW at HSk
      generalize dropW F c = rd at *
      generalize addW F c = ra at *
      obtain ⟨d1, d2, G⟩ := rd
      obtain ⟨a1, a2, H⟩ := ra
      dsimp only at *
      generalize hcl : c.length = nl at *
      clear hcl
      have hml := HMl.out
      by_cases hr0 : r = 0
      · have HSk2 := Lib.hid (show opsW F0 (l.take (k + 1)) = H by rw [HSk.out, if_pos (hr2.1 hr0)])
        subst hr0
        clear HD HMd HSk hr1 hr2
        by_cases h2 : a2 = 0
        · subst h2
          by_cases h1 : a1 = 0
          · subst h1
            have HMe := Lib.hid (show H.ms.length = F.ms.length by have := HMa.out; rw [if_neg (by simp)] at this; omega)
            go_wp2_with (first
              | (go_at_call 20; refine HPk.out.mono ?_; rintro e w4 ⟨rfl, q, rfl⟩)
              | (go_at_call 34; refine (HAd.out _ (below_drewN (Below.refl _ _) q)).mono ?_; rintro e w6 ⟨rfl, hr6⟩; have hbq : Below wr.heap.size wr (wr.drewN q) := below_drewN (Below.refl _ _) q; have HJ := Lib.hid ((HK.out.step hbq).join hr6); have HFB6 := Lib.hid ((HFB.out.step hbq).keep (hr6.base.mono HBn.out) hr6.kp); clear hr6 hbq))
            go_roundw
            case rel => exact ⟨k + 1, by omega, by go_num, by rw [HSk2.out, HMe.out], HFB6.out, by rw [HSk2.out]; exact HJ.out⟩
            case measure => simp [intOf]; omega
          · have HMe := Lib.hid (show H.ms.length = F.ms.length + 1 by have := HMa.out; rw [if_pos ⟨rfl, h1⟩] at this; omega)
            have h1b : (a1 != 0) = true := by simpa using h1
            go_wp2_with (first
              | (go_at_call 20; refine HPk.out.mono ?_; rintro e w4 ⟨rfl, q, rfl⟩)
              | (go_at_call 34; refine (HAd.out _ (below_drewN (Below.refl _ _) q)).mono ?_; rintro e w6 ⟨rfl, hr6⟩; have hbq : Below wr.heap.size wr (wr.drewN q) := below_drewN (Below.refl _ _) q; have HJ := Lib.hid ((HK.out.step hbq).join hr6); have HFB6 := Lib.hid ((HFB.out.step hbq).keep (hr6.base.mono HBn.out) hr6.kp); clear hr6 hbq))
            go_roundw
            case rel => exact ⟨k + 1, by omega, by go_num, by rw [HSk2.out, HMe.out]; go_num, HFB6.out, by rw [HSk2.out]; exact HJ.out⟩
            case measure => simp [intOf]; omega
        · have HMe := Lib.hid (show H.ms.length = F.ms.length by have := HMa.out; rw [if_neg (fun h => h2 h.1)] at this; omega)
          have h2b : (a2 == 0) = false := by simpa using h2
          go_wp2_with (first
            | (go_at_call 20; refine HPk.out.mono ?_; rintro e w4 ⟨rfl, q, rfl⟩)
            | (go_at_call 34; refine (HAd.out _ (below_drewN (Below.refl _ _) q)).mono ?_; rintro e w6 ⟨rfl, hr6⟩; have hbq : Below wr.heap.size wr (wr.drewN q) := below_drewN (Below.refl _ _) q; have HJ := Lib.hid ((HK.out.step hbq).join hr6); have HFB6 := Lib.hid ((HFB.out.step hbq).keep (hr6.base.mono HBn.out) hr6.kp); clear hr6 hbq))
          go_roundw
          case rel => exact ⟨k + 1, by omega, by go_num, by rw [HSk2.out, HMe.out], HFB6.out, by rw [HSk2.out]; exact HJ.out⟩
          case measure => simp [intOf]; omega
      · have HSk2 := Lib.hid (show opsW F0 (l.take (k + 1)) = G by rw [HSk.out, if_neg (fun h => hr0 (hr2.2 h))])
        have hr0b : (r == 0) = false := by simpa using hr0
        clear HAd HMa HSk hr1 hr2
        by_cases h2 : d2 = 0
        · subst h2
          by_cases h1 : d1 = 1
          · subst h1
            have HMe := Lib.hid (show (G.ms.length : Int) = F.ms.length - 1 by have := HMd.out; rw [if_pos ⟨rfl, rfl⟩] at this; omega)
            go_wp2_with (first
              | (go_at_call 20; refine HPk.out.mono ?_; rintro e w4 ⟨rfl, q, rfl⟩)
              | (go_at_call 35; refine (HD.out _ (below_drewN (Below.refl _ _) q)).mono ?_; rintro e w6 ⟨rfl, hr6⟩; have hbq : Below wr.heap.size wr (wr.drewN q) := below_drewN (Below.refl _ _) q; have HJ := Lib.hid ((HK.out.step hbq).join hr6); have HFB6 := Lib.hid ((HFB.out.step hbq).keep (hr6.base.mono HBn.out) hr6.kp); clear hr6 hbq))
            go_roundw
            case rel => exact ⟨k + 1, by omega, by go_num, by rw [HSk2.out, HMe.out], HFB6.out, by rw [HSk2.out]; exact HJ.out⟩
            case measure => simp [intOf]; omega
          · have HMe := Lib.hid (show G.ms.length = F.ms.length by have := HMd.out; rw [if_neg (fun h => h1 h.2)] at this; omega)
            have h1b : (d1 == 1) = false := by simpa using h1
            go_wp2_with (first
              | (go_at_call 20; refine HPk.out.mono ?_; rintro e w4 ⟨rfl, q, rfl⟩)
              | (go_at_call 35; refine (HD.out _ (below_drewN (Below.refl _ _) q)).mono ?_; rintro e w6 ⟨rfl, hr6⟩; have hbq : Below wr.heap.size wr (wr.drewN q) := below_drewN (Below.refl _ _) q; have HJ := Lib.hid ((HK.out.step hbq).join hr6); have HFB6 := Lib.hid ((HFB.out.step hbq).keep (hr6.base.mono HBn.out) hr6.kp); clear hr6 hbq))
            go_roundw
            case rel => exact ⟨k + 1, by omega, by go_num, by rw [HSk2.out, HMe.out], HFB6.out, by rw [HSk2.out]; exact HJ.out⟩
            case measure => simp [intOf]; omega
        · have HMe := Lib.hid (show G.ms.length = F.ms.length by have := HMd.out; rw [if_neg (fun h => h2 h.1)] at this; omega)
          have h2b : (d2 == 0) = false := by simpa using h2
          go_wp2_with (first
            | (go_at_call 20; refine HPk.out.mono ?_; rintro e w4 ⟨rfl, q, rfl⟩)
            | (go_at_call 35; refine (HD.out _ (below_drewN (Below.refl _ _) q)).mono ?_; rintro e w6 ⟨rfl, hr6⟩; have hbq : Below wr.heap.size wr (wr.drewN q) := below_drewN (Below.refl _ _) q; have HJ := Lib.hid ((HK.out.step hbq).join hr6); have HFB6 := Lib.hid ((HFB.out.step hbq).keep (hr6.base.mono HBn.out) hr6.kp); clear hr6 hbq))
          go_roundw
          case rel => exact ⟨k + 1, by omega, by go_num, by rw [HSk2.out, HMe.out], HFB6.out, by rw [HSk2.out]; exact HJ.out⟩
          case measure => simp [intOf]; omega
    · obtain rfl : k = n := by omega
      go_upto_region 17 with (fail)
      have HG := Lib.hid (show l.take k = l from HTk.out)
      rw [HTk.out] at HK ⊢
      have hnd := Lib.hid ((HAm.out k))
      rw [HTk.out] at hnd
      have HCla := Lib.hid (clauses_any w2 w2.heap.size b m (nc + k) (opsW F0 l) wr HK.out (by omega) HTb2.out (fun ds hp j => by
        have h1 := outL_le (opsW F0 l).ms ds j
        have h2 := (hnd.out.out hp).length_eq
        have h3 := HK.out.ok.ml
        omega))
      have HAf := Lib.hid HK.out.ok.af
      have HMl := Lib.hid (show (opsW F0 l).ms.length ≤ nc + k from HK.out.ok.ml)
      clear HAm HOc H8 HSn HTk HG
      generalize opsW F0 l = G at *
      go_cut [13] (fun nv wx => ∃ now Aw cw, nv = .slice Aw now.length cw ∧ now.length ≤ cw ∧ Kd.C kL wx Aw now.length now ∧ now.Perm G.ms ∧ FBox w v (.slice A nc c0) wx ∧ FwR w2 w2.heap.size b m (nc + k) G wx)
      case first =>
        go_wp2_with (go_at_call 36; refine HCla.out.mono ?_; rintro e w4 ⟨hb4, v4, ds, rfl, hp4, _, hN4⟩; have HB4 := Lib.hid hb4; have HP4 := Lib.hid (hnd.out.out hp4); have HN4 := Lib.hid hN4; clear hb4 hp4 hN4)
        go_meet
        obtain ⟨A4, c4, rfl, hc4, hR4⟩ := Kd.N_reads HN4.out
        exact ⟨_, A4, c4, rfl, hc4, hR4, HP4.out, HFB.out.step HB4.out, HK.out.step HB4.out⟩
      case rest =>
        obtain ⟨now, Aw, cw, rfl, hcw, hRw, hpw, hfbw, hkw⟩ := hcut
        have HZ := Lib.hid hpw.length_eq
        have HFw := Lib.hid hfbw
        have HKw := Lib.hid hkw
        obtain ⟨hw0, hw1, hw2⟩ := hfbw.cell
        have hzz := hpw.length_eq
        have HF2 := Lib.hid (show ∀ c ∈ now, c.length ≤ 2097152 ∧ ∀ x ∈ c, fm x = true from fun c hc => HAf.out c ((hnd.out.2 c).2 (hpw.mem_iff.1 hc)))
        have hnl : now.length ≤ 2097152 := by have := HMl.out; omega
        have HN2 := Lib.hid (fun (wx : World) (hb : Below wc.heap.size wc wx) => narrow_any v Aw cw now wx (Kd.C_below hRw hb) hcw hnl (fun c hc => (HF2.out c hc).1) (fun c hc => (HF2.out c hc).2))
        have HC2 := Lib.hid (fun (V : Int) (w2 : World) (Ad : Option Addr) (cd : Nat) (hr : Kd.C kL w2 Ad now.length now) (hc : now.length ≤ cd) => Cn.count_any V Ad cd now w2 hr hc (by omega) (fun c hc => by have := (HF2.out c hc).1; omega))
        have HV2 := Lib.hid (Pure.narrow_formed (formed_fm now (fun c hc => (HF2.out c hc).2)))
        have hfin := HFin.out (Pure.maxC 0 cs) (Pure.maxC 0 now) now HV1.out.2.2 HV2.out.2.2
        have HDo := Lib.hid (fun (wx : World) (hb : Below wc.heap.size wc wx) => done_any w2 w2.heap.size b m _ G wx (HKw.out.step hb))
        rw [← hzz]
        have hv1 := HV1.out
        have hv2 := HV2.out
        generalize Pure.maxC 0 cs = V1 at *
        generalize Pure.maxC 0 now = V2 at *
        have HFn := Lib.hid (fun a b => hfin a b hpw)
        clear hfin HFin HKw HAf hnd HCla HF2 HV1 HV2 hRw hpw hkw HZ hzz HK HI HFB HW3 HW2 hc30 hc31 hc32 HTb2
        generalize hzl : now.length = zl at *
        have HNz := Lib.hid hzl
        clear hzl
        have HB := Lib.hid (Below.refl wc.heap.size wc)
        go_upto_region 20 with (fail)
        go_cut [14, 15] (fun p1 p2 wx => ∃ g1 g2, p1 = .pointer (some ⟨g1, 0, none⟩) ∧ p2 = .pointer (some ⟨g2, 0, none⟩) ∧ Two wc g1 g2 V1 V2 cs now wx)
        case first =>
          go_region_held3 (fun wx => wx.cell? ⟨w.heap.size, 0, none⟩ = some (.int .i64 v) ∧ wx.cell? ⟨w.heap.size, 1, none⟩ = some (.slice A nc c0)) ((refine HFw.out.two ?_;  (repeat (first | (with_reducible first | exact HB.out | apply below_alloc | apply pw_below_drewN | apply below_drew1) | exact HB.out | (with_reducible refine setK ?_ ?_; (focus (first | assumption | exact HB.out.size | exact Nat.le_refl _ | exact Nat.le_succ_of_le HB.out.size | exact Nat.le_succ _))))); done)) (first
            | (go_at_call_of 32 (Value.slice Aw zl cw); refine (HN2.out _ (by repeat (first | (with_reducible first | exact HB.out | apply below_alloc | apply pw_below_drewN | apply below_drew1) | exact HB.out))).mono ?_; rintro e w6 ⟨A6, c6, rfl, hS6, hb6⟩; have HS6 := Lib.hid hS6; have HB6 := Lib.hid hb6; have hA6 := below_step (by repeat (first | (with_reducible first | exact HB.out | apply below_alloc | apply pw_below_drewN | apply below_drew1) | exact HB.out)) hb6; clear hS6 hb6; (try (refine Zf.use wc.heap.size (wc.heap.size) w6 ?_ ?_; (focus ((repeat (first | ((with_reducible refine Zf.new' ?_ ?_); (focus ((repeat (first | (with_reducible first | exact HB.out | exact Below.refl _ _ | apply below_alloc | apply pw_below_drewN | apply below_drew1) | exact HB.out)); done)); (focus (first | with_reducible rfl | exact size_alloc1 _ _))) | (with_reducible refine Zf.step ?_ HB6.out) | (with_reducible refine Zf.step ?_ HB5.out) | (with_reducible refine Zf.alloc ?_ _) | (with_reducible apply Zf.drew) | (with_reducible apply Zf.drewN))); done)); intro yq0z yq0b yq0l yq0n yq0m yq00  yq01  yq02  yq03)); (try (refine Zf.use wc.heap.size (wc.heap.size + 1) w6 ?_ ?_; (focus ((repeat (first | ((with_reducible refine Zf.new' ?_ ?_); (focus ((repeat (first | (with_reducible first | exact HB.out | exact Below.refl _ _ | apply below_alloc | apply pw_below_drewN | apply below_drew1) | exact HB.out)); done)); (focus (first | with_reducible rfl | exact size_alloc1 _ _))) | (with_reducible refine Zf.step ?_ HB6.out) | (with_reducible refine Zf.step ?_ HB5.out) | (with_reducible refine Zf.alloc ?_ _) | (with_reducible apply Zf.drew) | (with_reducible apply Zf.drewN))); done)); intro yq1z yq1b yq1l yq1n yq1m yq10  yq11  yq12  yq13)); (try (refine Zf.use wc.heap.size (w5.heap.size) w6 ?_ ?_; (focus ((repeat (first | ((with_reducible refine Zf.new' ?_ ?_); (focus ((repeat (first | (with_reducible first | exact HB.out | exact Below.refl _ _ | apply below_alloc | apply pw_below_drewN | apply below_drew1) | exact HB.out)); done)); (focus (first | with_reducible rfl | exact size_alloc1 _ _))) | (with_reducible refine Zf.step ?_ HB6.out) | (with_reducible refine Zf.step ?_ HB5.out) | (with_reducible refine Zf.alloc ?_ _) | (with_reducible apply Zf.drew) | (with_reducible apply Zf.drewN))); done)); intro yq2z yq2b yq2l yq2n yq2m yq20  yq21  yq22  yq23)); (try (refine Zf.use wc.heap.size (w5.heap.size + 1) w6 ?_ ?_; (focus ((repeat (first | ((with_reducible refine Zf.new' ?_ ?_); (focus ((repeat (first | (with_reducible first | exact HB.out | exact Below.refl _ _ | apply below_alloc | apply pw_below_drewN | apply below_drew1) | exact HB.out)); done)); (focus (first | with_reducible rfl | exact size_alloc1 _ _))) | (with_reducible refine Zf.step ?_ HB6.out) | (with_reducible refine Zf.step ?_ HB5.out) | (with_reducible refine Zf.alloc ?_ _) | (with_reducible apply Zf.drew) | (with_reducible apply Zf.drewN))); done)); intro yq3z yq3b yq3l yq3n yq3m yq30  yq31  yq32  yq33)); clear HB; have HB := Lib.hid hA6; clear hA6)
            | (go_at_call_of 32 (Value.slice A nc c0); refine (HNa.out _ (HFw.out.below.trans (Below.mono (by repeat (first | (with_reducible first | exact HB.out | apply below_alloc | apply pw_below_drewN | apply below_drew1) | exact HB.out)) HFw.out.below.size))).mono ?_; rintro e w5 ⟨A5, c5, rfl, hS5, hb5⟩; have HS5 := Lib.hid hS5; have HB5 := Lib.hid hb5; have hA5 := below_step (by repeat (first | (with_reducible first | exact HB.out | apply below_alloc | apply pw_below_drewN | apply below_drew1) | exact HB.out)) hb5; clear hS5 hb5; (try (refine Zf.use wc.heap.size (wc.heap.size) w5 ?_ ?_; (focus ((repeat (first | ((with_reducible refine Zf.new' ?_ ?_); (focus ((repeat (first | (with_reducible first | exact HB.out | exact Below.refl _ _ | apply below_alloc | apply pw_below_drewN | apply below_drew1) | exact HB.out)); done)); (focus (first | with_reducible rfl | exact size_alloc1 _ _))) | (with_reducible refine Zf.step ?_ HB6.out) | (with_reducible refine Zf.step ?_ HB5.out) | (with_reducible refine Zf.alloc ?_ _) | (with_reducible apply Zf.drew) | (with_reducible apply Zf.drewN))); done)); intro yp0z yp0b yp0l yp0n yp0m yp00  yp01  yp02  yp03)); (try (refine Zf.use wc.heap.size (wc.heap.size + 1) w5 ?_ ?_; (focus ((repeat (first | ((with_reducible refine Zf.new' ?_ ?_); (focus ((repeat (first | (with_reducible first | exact HB.out | exact Below.refl _ _ | apply below_alloc | apply pw_below_drewN | apply below_drew1) | exact HB.out)); done)); (focus (first | with_reducible rfl | exact size_alloc1 _ _))) | (with_reducible refine Zf.step ?_ HB6.out) | (with_reducible refine Zf.step ?_ HB5.out) | (with_reducible refine Zf.alloc ?_ _) | (with_reducible apply Zf.drew) | (with_reducible apply Zf.drewN))); done)); intro yp1z yp1b yp1l yp1n yp1m yp10  yp11  yp12  yp13)); clear HB; have HB := Lib.hid hA5; clear hA5))
          all_goals (rename_i hJ hK hheld; refine hK _ _ (Met.intro (hJ _ _ ?_)); clear hheld hJ hK; (repeat apply Exists.intro); refine ⟨?_, rfl⟩)
          all_goals (have H5 : Kd.S kL 40 w6 0 (fun _ => True) (.slice A5 nc c5) cs := by (first | (with_reducible exact Kd.S_lower (Kd.S_below HS5.out HB6.out) (Nat.zero_le _)) | (with_reducible exact Kd.S_lower (Kd.S_below (Kd.S_alloc HS5.out _) HB6.out) (Nat.zero_le _)) | (with_reducible exact Kd.S_lower (Kd.S_below (Kd.S_alloc (Kd.S_alloc HS5.out _) _) HB6.out) (Nat.zero_le _))))
          all_goals (have H6 := Kd.S_lower HS6.out (Nat.zero_le _))
          all_goals (refine ⟨_, _, rfl, rfl, ?_⟩)
          all_goals (first
            | (with_reducible exact Two.a HB.out H5 H6)
            | (with_reducible exact Two.b HB.out H5 H6)
            | (with_reducible refine Two.c HB.out H5 H6 ?_; with_reducible assumption)
            | (with_reducible refine Two.d HB.out H5 H6 ?_; with_reducible assumption)
            | (with_reducible refine Two.e HB.out H5 H6 ?_ ?_ ?_; (focus with_reducible assumption); (focus with_reducible assumption); (first | with_reducible assumption | exact Nat.succ_ne_self _ | exact Nat.ne_of_lt (Nat.lt_succ_self _))))
        case rest =>
          obtain ⟨g1, g2, rfl, rfl, hTwo⟩ := hcut
          have HB7 := Lib.hid hTwo.below
          obtain ⟨A1, c1, hF1, hc1, hr1⟩ := hTwo.one
          obtain ⟨A2, c2, hF2, hc2, hr2⟩ := hTwo.two
          clear hTwo HB
          rw [HNc.out] at hF1 hc1 hr1
          rw [HNz.out] at hF2 hc2 hr2
          obtain ⟨q10, q11⟩ := hF1.cell
          obtain ⟨q20, q21⟩ := hF2.cell
          have HBw := Lib.hid (HFw.out.below.trans (Below.mono HB7.out HFw.out.below.size))
          have HF2b := Lib.hid hF2
          clear hF1 hF2
          by_cases hb1 : 12 < V1
          · go_wp2_with (fail)
            all_goals (go_ret; exact ⟨rfl, HBw.out⟩)
          · by_cases hb2 : 12 < V2
            · go_wp2_with (fail)
              all_goals (go_ret; exact ⟨rfl, HBw.out⟩)
            · obtain ⟨e1, e2, e3⟩ := HFn.out (by omega) (by omega)
              have HCa := Lib.hid (HCn.out V1 wc A1 c1 hr1 hc1)
              have HCb := Lib.hid (fun wx (hb : Below wc.heap.size wc wx) => HC2.out V2 wx A2 c2 (Kd.C_below hr2 hb) hc2)
              clear HFn HCn HC2 hr1 hr2
              generalize Cn.countW V1 cs = ra at *
              generalize Cn.countW V2 now = rb at *
              obtain ⟨a, ae⟩ := ra
              obtain ⟨bq, be⟩ := rb
              dsimp only at *
              subst e1 e2
              by_cases ha : a = 0
              · subst ha
                go_wp2_with (first
                  | (go_at_call_of 33 (Value.slice A1 nc c1); refine HCa.out.mono ?_; rintro e w8 ⟨rfl, hb8⟩; have HB8 := Lib.hid hb8; obtain ⟨q30, q31⟩ := (HF2b.out.step hb8).cell; clear hb8)
                  | (go_at_call_of 33 (Value.slice A2 zl c2); refine (HCb.out _ HB8.out).mono ?_; rintro e w9 ⟨rfl, hb9⟩; have HB9 := Lib.hid hb9; clear hb9))
                all_goals (go_ret; exact ⟨rfl, (HBw.out.trans (HB8.out.mono HBw.out.size)).trans (HB9.out.mono (Nat.le_trans HBw.out.size HB8.out.size))⟩)
              · obtain ⟨hbq, hdn⟩ := e3.resolve_left ha
                have HDf := Lib.hid (fun wx hb => by have := HDo.out wx hb; rw [hdn] at this; exact this)
                go_wp2_with (first
                  | (go_at_call_of 33 (Value.slice A1 nc c1); refine HCa.out.mono ?_; rintro e w8 ⟨rfl, hb8⟩; have HB8 := Lib.hid hb8; obtain ⟨q30, q31⟩ := (HF2b.out.step hb8).cell; clear hb8)
                  | (go_at_call_of 33 (Value.slice A2 zl c2); refine (HCb.out _ HB8.out).mono ?_; rintro e w9 ⟨rfl, hb9⟩; have HB9 := Lib.hid hb9; have HBd := Lib.hid ((HB7.out.trans (HB8.out.mono HB7.out.size)).trans (hb9.mono (Nat.le_trans HB7.out.size HB8.out.size))); clear hb9)
                  | (go_at_call 37; refine (HDf.out _ HBd.out).mono ?_; rintro e w10 ⟨rfl, rfl⟩))
                all_goals (go_ret; exact ⟨rfl, (HBw.out.trans (HB8.out.mono HBw.out.size)).trans (HB9.out.mono (Nat.le_trans HBw.out.size HB8.out.size))⟩)
end Go.Proofs.YtcaoobdbgdldaaaGreatDoor.Cl
