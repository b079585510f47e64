/- Part of the proof of ForwardLasts: what the law uses of the text CnH. -/
import Derived.Test.YtcaoobdbgdldaaaGreatDoorZPCnG
namespace Go.Proofs.YtcaoobdbgdldaaaGreatDoor.Cn
open Go.RowKit Go.Proofs.YtcaoobdbgdldaaaGreatDoor.Lit Go.Proofs.YtcaoobdbgdldaaaGreatDoor.Spr Go.Proofs.YtcaoobdbgdldaaaGreatDoorW.PrintWords
set_option linter.unusedVariables false
set_option linter.unusedSimpArgs false
attribute [local go_sem] Oper.semAt_some

theorem cell_put {W : World} {l : Nat} {o o' : Obj} {p : Addr} {v : Value} (h : W.heap[l]? = some o) (hc : o.isCells = false) (hp : W.cell? p = some v) : (W.putObj l o').cell? p = some v := by
  by_cases e : p.block = l
  · unfold World.cell? at hp
    rw [e, h] at hp
    cases o <;> simp_all [Obj.isCells]
  · unfold World.cell? at hp ⊢
    rw [World.putObj_heap_other e]; exact hp
theorem C_put {W : World} {l : Nat} {o o' : Obj} {A : Option Addr} {n : Nat} {xs : List Bool} (h : W.heap[l]? = some o) (hc : o.isCells = false) (hC : Kd.C Kd.bool W A n xs) : Kd.C Kd.bool (W.putObj l o') A n xs := by
  have hr := Kd.reads_of_C (d := false) hC
  refine Kd.C_of_reads (d := false) ⟨hr.1, hr.2.1, fun h0 => ?_⟩
  obtain ⟨ad, e, hj⟩ := hr.2.2 h0
  exact ⟨ad, e, fun j hlt => cell_put h hc (hj j hlt)⟩
theorem wrap_small {k : Nat} (h : k < 1000000000) : wrap64 ((k : Int) + 1) = (k : Int) + 1 := by unfold wrap64; omega
theorem count_put (W : World) (g : Nat) (u v : Value) (h : W.heap[g]? = some (Obj.cells #[u] 3 (0, 0))) : (W.setCell ⟨g, 0, none⟩ v).heap[g]? = some (Obj.cells #[v] 3 (0, 0)) := by
  simp [World.setCell, Array.getElem?_modify, h]
def CtI (w : World) (bn : Nat) (pre : List Value) (W : World) : Prop := W.heap[bn]? = some (Obj.cells #[.int .i64 pre.length] 3 (0, 0)) ∧ Below w.heap.size w W
theorem body_fin {w W : World} {B bn : Nat} {pre : List Value} {x : Value} {a : Act} {Ix : Code → List Value → World → Prop} (hn : W.heap[bn]? = some (Obj.cells #[.int .i64 pre.length] 3 (0, 0))) (hbn : bn < B) (hw : w.heap.size ≤ bn) (hB : Below w.heap.size w W) :
    ownPostG B (KpB B bn) (CtI w bn) Ix (pre ++ [x]) W .normal a (W.setCell ⟨bn, 0, none⟩ (.int .i64 ((pre.length : Int) + 1))) := by
  refine ⟨(KeepsOthers.setCell _ _ _).from _, KpB.setOne W 0 _ hbn, ?_, hB.setCell (p := ⟨bn, 0, none⟩) hw _⟩
  have e : ((pre ++ [x]).length : Int) = (pre.length : Int) + 1 := by simp
  rw [e]
  exact count_put W bn _ _ hn
theorem all_count : ∀ n, (allM n).length = 2 ^ n
  | 0 => rfl
  | n + 1 => by
    have h := all_count n
    have e : (allM (n + 1)).length = 2 * (allM n).length := by
      show ((allM n).flatMap fun t => [false :: t, true :: t]).length = _
      generalize allM n = L
      induction L with
      | nil => rfl
      | cons a t ih => rw [List.flatMap_cons, List.length_append, ih, show (a :: t).length = t.length + 1 from rfl, Nat.mul_succ]; exact Nat.add_comm ..
    rw [e, h, Nat.pow_succ]; omega
theorem mods_count (cs : List (List Int)) {n : Nat} (h : n ≤ 16) : (mods cs n).length ≤ 65536 := by
  have h1 : (mods cs n).length ≤ (allM n).length := List.length_filter_le ..
  rw [all_count] at h1
  exact Nat.le_trans h1 (Nat.pow_le_pow_right (by decide) h)
theorem it_of {w w2 W3 : World} {bn gb vars : Nat} {A1 : Option Addr} {c1 : Nat} {cs : List (List Int)} (hb : bn < W3.heap.size) (hgb : W3.heap.size ≤ gb) (hgc : w2.heap[gb]? = some (Obj.cells #[.int .i64 vars, .slice A1 cs.length c1] 24 (0, 0))) (hF : Kd.F kL w2 (fun k => W3.heap.size ≤ k ∧ k < w2.heap.size) A1 cs.length cs) : It w2.heap.size bn gb vars A1 c1 cs w2 :=
  ⟨hgc, fun W' hW => hF W' (fun k hk hl => hW k ⟨hk.2, by omega⟩ hl), Nat.le_refl _, (Array.getElem?_eq_some_iff.1 hgc).1, by omega⟩
theorem afit_of {vars : Nat} {cs : List (List Int)} (hf : formedB vars cs = true) (hl : cs.length ≤ 5864062014800) (h8 : ∀ c ∈ cs, c.length ≤ 17592186044416) : AFit cs vars := by
  unfold formedB at hf
  simp only [Bool.and_eq_true, decide_eq_true_eq] at hf
  refine ⟨by omega, hl, h8, fun c hc x hx => ?_⟩
  have h := List.all_eq_true.1 hf.2 c hc
  unfold withinB at h
  rw [Bool.and_eq_true] at h
  have h1 := List.all_eq_true.1 h.1 x hx
  have h2 := of_decide_eq_true (List.all_eq_true.1 h.2 x hx)
  have h3 := fm_true h1
  unfold lv at h2
  rw [if_pos h1] at h2
  refine ⟨h3.1, ?_⟩
  split at h2 <;> omega
def countW (v : Int) (cs : List (List Int)) : Int × Int := if formedB v cs = true then (if v > 16 then (0, 4) else (((mods cs v.toNat).length : Int), 0)) else (0, 1)

set_option maxHeartbeats 8000000 in
set_option maxRecDepth 100000 in
theorem count_any (v : Int) (A : Option Addr) (c0 : Nat) (cs : List (List Int)) (w : World) (hC : Kd.C kL w A cs.length cs) (hc0 : cs.length ≤ c0) (hl : cs.length ≤ 5864062014800) (h8 : ∀ c ∈ cs, c.length ≤ 17592186044416) :
    Calls Tryz.prog 33 #[.agg #[.int .i64 v, .slice A cs.length c0]] w fun e w' => e = .returned (.tuple #[.int .i64 (countW v cs).1, .int .i64 (countW v cs).2]) ∧ Below w.heap.size w w' := by
  have HC := Lib.hid hC
  have H8 := Lib.hid h8
  clear hC h8
  obtain ⟨X, hX⟩ : ∃ X, w.alloc (Obj.cells #[.int .i64 v, .slice A cs.length c0] 24) = X := ⟨_, rfl⟩
  have hbX : Below w.heap.size w X := by rw [← hX]; exact (Below.refl _ _).alloc (Nat.le_refl _) _
  have hnX : X.heap[w.heap.size]? = some (Obj.cells #[.int .i64 v, .slice A cs.length c0] 24 (0, 0)) := by rw [← hX]; exact World.alloc_heap_new _ _
  have hlX : w.heap.size < X.heap.size := (Array.getElem?_eq_some_iff.1 hnX).1
  have HbX := Lib.hid hbX
  have HnX := Lib.hid hnX
  have HCX := Lib.hid (Kd.C_below HC.out hbX)
  have HcX : Hid (∀ W, Below X.heap.size X W → W.cell? ⟨w.heap.size, 0, none⟩ = some (.int .i64 v) ∧ W.cell? ⟨w.heap.size, 1, none⟩ = some (.slice A cs.length c0)) := Lib.hid fun W hb => by
    have h2 : W.heap[w.heap.size]? = some (Obj.cells #[.int .i64 v, .slice A cs.length c0] 24 (0, 0)) := (hb.block _ hlX).trans HnX.out
    constructor <;> (unfold World.cell?; rw [h2]; rfl)
  obtain ⟨hx0, hx1⟩ := HcX.out X (Below.refl _ _)
  clear hbX hnX
  have Hcf := Lib.hid (cformed_any v A c0 cs X (rc_of_C HCX.out) (by omega) (fun c hc => by have := H8.out c hc; omega))
  refine (callsIn_wide (n := 8)).1 ?_
  refine callsIn_of_wp_marks Tryz.func33 rfl trivial ?_ rfl
  simp only [Tryz.ntmps33, List.size_toArray, List.length_cons, List.length_nil, Nat.reduceAdd, Nat.reduceSub, Array.replicate_succ, Array.replicate_zero, List.push_toArray, List.append_toArray, List.nil_append, List.cons_append]
  cases hf : formedB v cs with
  | false =>
    have e1 : countW v cs = (0, 1) := by unfold countW; rw [if_neg (by rw [hf]; decide)]
    rw [e1]
    gi_wp2_with (refine ⟨trivial, ?_⟩; gi_at_call 31; refine (callsIn_wide.2 Hcf.out).mono ?_; rintro e w1 ⟨rfl, hB1⟩; rw [hf]; have HB1 := Lib.hid hB1; clear hB1)
    exact ⟨_, results_tmp2 rfl _ _ _, rfl, HbX.out.trans (HB1.out.mono HbX.out.size)⟩
  | true =>
    by_cases hv : v > 16
    · have e1 : countW v cs = (0, 4) := by unfold countW; rw [if_pos hf, if_pos hv]
      rw [e1]
      gi_wp2_with (refine ⟨trivial, ?_⟩; gi_at_call 31; refine (callsIn_wide.2 Hcf.out).mono ?_; rintro e w1 ⟨rfl, hB1⟩; rw [hf]; obtain ⟨hy0, hy1⟩ := HcX.out w1 hB1; have HB1 := Lib.hid hB1; clear hB1)
      exact ⟨_, results_tmp2 rfl _ _ _, rfl, HbX.out.trans (HB1.out.mono HbX.out.size)⟩
    · have e1 : countW v cs = (((mods cs v.toNat).length : Int), 0) := by unfold countW; rw [if_pos hf, if_neg hv]
      have hv0 : 0 ≤ v := by unfold formedB at hf; simp only [Bool.and_eq_true, decide_eq_true_eq] at hf; exact hf.1.1
      obtain ⟨vars, rfl⟩ : ∃ n : Nat, v = n := ⟨v.toNat, by omega⟩
      rw [Int.toNat_natCast] at e1
      rw [e1]
      have hv16 : vars ≤ 16 := by omega
      have HFit := Lib.hid (afit_of hf hl H8.out)
      gi_wp2_with (first
        | (refine ⟨trivial, ?_⟩; gi_at_call 31; refine (callsIn_wide.2 Hcf.out).mono ?_; rintro e w1 ⟨rfl, hB1⟩; rw [hf]; obtain ⟨hy0, hy1⟩ := HcX.out w1 hB1; have HB1 := Lib.hid hB1; clear hB1; obtain ⟨W3, hW3⟩ : ∃ W3, w1.alloc (Obj.cells #[.int .i64 0] 3) = W3 := ⟨_, rfl⟩; have hb3 : Below w1.heap.size w1 W3 := (by rw [← hW3]; exact (Below.refl _ _).alloc (Nat.le_refl _) _); have hn3 : W3.heap[w1.heap.size]? = some (Obj.cells #[.int .i64 0] 3 (0, 0)) := (by rw [← hW3]; exact World.alloc_heap_new _ _); have HX3 := Lib.hid (show Below X.heap.size X W3 from HB1.out.trans (hb3.mono HB1.out.size)); obtain ⟨hu0, hu1⟩ := HcX.out W3 HX3.out; have Hn3 := Lib.hid hn3; have Hl3 := Lib.hid (Array.getElem?_eq_some_iff.1 hn3).1; clear hb3 hn3; have HM := Lib.hid (models_any vars A c0 cs W3 (Kd.C_below HCX.out HX3.out) hc0 hv16 hf hl H8.out); subst hW3)
        | (refine ⟨trivial, ?_⟩; gi_at_call 61; refine (callsIn_wide.2 HM.out).mono ?_; rintro e w2 ⟨gb, A1, c1, rfl, hgb, hgc, hF, hc1, hB2⟩; have Hgc := Lib.hid hgc; have HF := Lib.hid hF; have HB2 := Lib.hid hB2; clear hgc hF hB2))
      obtain ⟨W3, hW3⟩ : ∃ W3, w1.alloc (Obj.cells #[.int .i64 0] 3) = W3 := ⟨_, rfl⟩
      rw [hW3] at hgb HF HB2 HX3 Hn3 Hl3
      have hb2s : W3.heap.size ≤ w2.heap.size := HB2.out.size
      have hbn : w1.heap.size < w2.heap.size := Nat.lt_of_lt_of_le Hl3.out hb2s
      have hbw1 : w.heap.size ≤ w1.heap.size := Nat.le_trans HbX.out.size HB1.out.size
      have hbw3 : w.heap.size ≤ W3.heap.size := Nat.le_trans HbX.out.size HX3.out.size
      have Hw2 := Lib.hid (show Below w.heap.size w w2 from (HbX.out.trans (HX3.out.mono HbX.out.size)).trans (HB2.out.mono hbw3))
      have Hn2 := Lib.hid (show w2.heap[w1.heap.size]? = some (Obj.cells #[.int .i64 0] 3 (0, 0)) from (HB2.out.block _ Hl3.out).trans Hn3.out)
      refine wpIn_rangeFunc_B rfl (by omega) (gf := 90) (lb := #[.pointer (some ⟨gb, 0, none⟩)]) rfl trivial (enters_of Tryz.func90 (by kernel_rfl) rfl)
        (iter_any 7 w2.heap.size w1.heap.size gb vars A1 c1 cs w2 (it_of (w := w) Hl3.out hgb Hgc.out HF.out) rfl hbn hv16 hc1 HFit.out (by omega))
        KpB.trans (fun W l o o' hl h hc => KpB.put W l o o' hl h hc)
        (fun pre x W l o o' hl h hc hp => by obtain ⟨Am, c, m, e, h1, h2, h3⟩ := hp; exact ⟨Am, c, m, e, h1, h2, C_put h hc h3⟩) (fun _ => rfl)
        (CtI w w1.heap.size) (fun _ _ _ => False)
        (fun s P Q hs hb => ⟨(hb.block _ hbn).trans hs.1, hs.2.trans (hb.mono Hw2.out.size)⟩) (fun _ _ _ _ hs _ => hs) ⟨Hn2.out, Hw2.out⟩
        (fun x => { tmps := #[.agg #[.int .i64 vars, .slice A cs.length c0], .pointer (some ⟨w.heap.size, 0, none⟩), .int .i64 0, .int .i64 0, .pointer (some ⟨w1.heap.size, 0, none⟩), .agg #[.int .i64 vars, .slice A cs.length c0], .bool true, .bool false, .pointer (some ⟨w.heap.size, 0, none⟩), .int .i64 vars, .bool (decide (16 < (vars : Int))), .agg #[.int .i64 vars, .slice A cs.length c0], .func (.func 90) #[] #[.pointer (some ⟨gb, 0, none⟩)], x, undef, undef, undef], defers := [] }) ?assign ?body ?done ?stop
      case assign =>
        intro l x W K hK
        gi_wp2
        simpa using hK
      case body =>
        rintro l pre x W ⟨hn, hB⟩ hlt _
        have hc : W.cell? ⟨w1.heap.size, 0, none⟩ = some (.int .i64 pre.length) := by unfold World.cell?; rw [hn]; rfl
        have hfz : W.frozen? ⟨w1.heap.size, 0, none⟩ = false := by simp [World.frozen?, hn]
        have hm := mods_count cs hv16
        have hwr := wrap_small (k := pre.length) (by omega)
        have HFin := Lib.hid (fun a => body_fin (x := x) (a := a) (Ix := fun _ _ _ => False) hn hbn hbw1 hB)
        clear hn hm hlt hB
        generalize (pre.length : Int) = k at *
        gi_wp2
        exact HFin.out _
      case done =>
        rintro D xs W hD hS ⟨hn, hB⟩ hK
        have hc : W.cell? ⟨w1.heap.size, 0, none⟩ = some (.int .i64 xs.length) := by unfold World.cell?; rw [hn]; rfl
        gi_wp2
        refine ⟨by simp, .inl ⟨_, _, rfl, run_takeDeferred hK, ?_⟩⟩
        refine ⟨_, results_tmp2 rfl _ _ _, ?_, hB.trans (below_put W D _ _ (by omega) hK)⟩
        rw [← hS]
        rfl
      case stop =>
        rintro D c pre W _ _ h _
        exact h.elim

end Go.Proofs.YtcaoobdbgdldaaaGreatDoor.Cn
