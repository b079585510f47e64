/- Part of the proof of RupSound: what the law uses of the text CnI. -/
import Derived.Test.YthgkchnmajccoaaZPCnH
import Derived.Test.YthgkchnmajccoaaZPP8
namespace Go.Proofs.Ythgkchnmajccoaa.Cn
open Go.RowKit Go.Proofs.Ythgkchnmajccoaa.Lit Go.Proofs.Ythgkchnmajccoaa.Spr Go.Proofs.Ythgkchnmajccoaa.P Go.Proofs.YthgkchnmajccoaaW.PrintWords
set_option linter.unusedVariables false
set_option linter.unusedSimpArgs false
attribute [local go_sem] Oper.semAt_some

theorem holds_any (m : List Bool) (c : List Int) (Ac : Option Addr) (cc : Nat) (Am : Option Addr) (cm : Nat) (w : World) (hC : Kd.C (Kd.int .i64) w Ac c.length c) (hcc : c.length ≤ cc) (hM : Kd.C Kd.bool w Am m.length m) (hcm : m.length ≤ cm) (hm : m.length ≤ 1048576) (hl : c.length ≤ 17592186044416) (hw : ∀ x ∈ c, x ≠ 0 ∧ -(m.length : Int) ≤ x ∧ x ≤ m.length) :
    Calls Try.prog 23 #[.slice Ac c.length cc, .slice Am m.length cm] w fun e w' => e = .returned (.bool (c.any (tv m))) ∧ Below w.heap.size w w' := by
  obtain ⟨k, hk⟩ := (holds_ev m hm c (by omega) hw).rounds
  exact (cnf_holds.calls k Ac cc c Am cm m (c.any (tv m)) w hC hcc hM hcm hk).mono fun e w' h => ⟨h.1, h.2.below⟩
theorem within_of {c : List Int} {vars : Nat} (h : withinB c vars = true) : ∀ x ∈ c, x ≠ 0 ∧ -(vars : Int) ≤ x ∧ x ≤ vars := by
  intro x hx
  unfold withinB at h
  rw [Bool.and_eq_true] at h
  have h1 := List.all_eq_true.1 h.1 x hx
  have h2 := of_decide_eq_true (List.all_eq_true.1 h.2 x hx)
  have h3 := fm_true h1
  unfold lv at h2
  rw [if_pos h1] at h2
  refine ⟨h3.1, ?_⟩
  split at h2 <;> omega
theorem mods_len {cs : List (List Int)} {n : Nat} {m : List Bool} (h : m ∈ mods cs n) : m.length = n := (all_len n m).1 (List.mem_filter.1 h).1

def EntI (w w2 : World) (cs : List (List Int)) (c : List Int) (vars : Nat) (pre : List Value) (W : World) : Prop :=
  Below w2.heap.size w2 W ∧ ∀ j m, j < pre.length → (mods cs vars)[j]? = some m → c.any (tv m) = true
def EntX (w : World) (br be : Nat) (cs : List (List Int)) (c : List Int) (vars : Nat) (k : Code) (pre : List Value) (W : World) : Prop :=
  k = .ret ∧ W.heap[br]? = some (Obj.cells #[.bool false] 4 (0, 0)) ∧ W.heap[be]? = some (Obj.cells #[.int .i64 0] 27 (0, 0)) ∧ Below w.heap.size w W ∧ ∃ m ∈ mods cs vars, c.any (tv m) = false

theorem keeps_below {B : Nat} {W W' : World} (h : Below W.heap.size W W') : KeepsFrom B W W' := ⟨h.size, fun k o _ hk _ => (h.block k (Array.getElem?_eq_some_iff.1 hk).1).trans hk⟩
theorem kp_below {L bn : Nat} {W W' : World} (hL : L ≤ W.heap.size) (h : Below W.heap.size W W') : KpB L bn W W' := ⟨h.size, fun k hk _ => h.block k (by omega), fun k o _ hk _ => (h.block k (Array.getElem?_eq_some_iff.1 hk).1).trans hk⟩
theorem box_put (W : World) (g t : Nat) (u v : Value) (h : W.heap[g]? = some (Obj.cells #[u] t (0, 0))) : (W.setCell ⟨g, 0, none⟩ v).heap[g]? = some (Obj.cells #[v] t (0, 0)) := by
  simp [World.setCell, Array.getElem?_modify, h]
theorem box_cell {W : World} {g t : Nat} {u : Value} (h : W.heap[g]? = some (Obj.cells #[u] t (0, 0))) : W.cell? ⟨g, 0, none⟩ = some u ∧ W.frozen? ⟨g, 0, none⟩ = false := by
  constructor
  · unfold World.cell?; rw [h]; rfl
  · simp [World.frozen?, h]
set_option maxHeartbeats 8000000 in
set_option maxRecDepth 100000 in
theorem entails_any (vars : Nat) (A : Option Addr) (c0 : Nat) (cs : List (List Int)) (Ac : Option Addr) (cc : Nat) (c : List Int) (w : World) (hC : Kd.C kL w A cs.length cs) (hc0 : cs.length ≤ c0) (hCc : Kd.C (Kd.int .i64) w Ac c.length c) (hcc : c.length ≤ cc)
    (hv : vars ≤ 16) (hf : formedB vars cs = true) (hw : withinB c vars = true) (hl : cs.length ≤ 5864062014800) (h8 : ∀ c ∈ cs, c.length ≤ 17592186044416) (hlc : c.length ≤ 17592186044416) :
    Calls Try.prog 11 #[.agg #[.int .i64 vars, .slice A cs.length c0], .slice Ac c.length cc] w fun e w' => e = .returned (.tuple #[.bool ((mods cs vars).all fun m => c.any (tv m)), .int .i64 0]) ∧ Below w.heap.size w w' := by
  have HC := Lib.hid hC
  have HCc := Lib.hid hCc
  have H8 := Lib.hid h8
  have Hw := Lib.hid hw
  have HWi := Lib.hid (within_of hw)
  have Hf := Lib.hid hf
  have HFit := Lib.hid (afit_of hf hl h8)
  clear hC hCc h8
  have hv16 : (vars : Int) ≤ 16 := by omega
  obtain ⟨X, hX⟩ : ∃ X, (((w.alloc (Obj.cells #[.int .i64 vars, .slice A cs.length c0] 24)).alloc (Obj.cells #[.slice Ac c.length cc] 25)).alloc (Obj.cells #[.bool false] 4)).alloc (Obj.cells #[.int .i64 0] 27) = X := ⟨_, rfl⟩
  have hbX : Below w.heap.size w X := by rw [← hX]; exact ((((Below.refl _ _).alloc (Nat.le_refl _) _).alloc (by simp) _).alloc (by simp; omega) _).alloc (by simp; omega) _
  have hsX : X.heap.size = w.heap.size + 4 := by rw [← hX]; simp
  have hn0 : X.heap[w.heap.size]? = some (Obj.cells #[.int .i64 vars, .slice A cs.length c0] 24 (0, 0)) := by
    rw [← hX]; exact (((Below.heap_alloc _ _ _ (by simp; omega)).trans (Below.heap_alloc _ _ _ (by simp; omega))).trans (Below.heap_alloc _ _ _ (by simp))).trans (World.alloc_heap_new w _)
  have hn1 : X.heap[w.heap.size + 1]? = some (Obj.cells #[.slice Ac c.length cc] 25 (0, 0)) := by
    rw [← hX]; refine ((Below.heap_alloc _ _ _ (by simp)).trans (Below.heap_alloc _ _ _ (by simp))).trans ?_
    have := World.alloc_heap_new (w.alloc (Obj.cells #[.int .i64 vars, .slice A cs.length c0] 24)) (Obj.cells #[.slice Ac c.length cc] 25); rwa [World.size_alloc] at this
  have hn2 : X.heap[w.heap.size + 1 + 1]? = some (Obj.cells #[.bool false] 4 (0, 0)) := by
    rw [← hX]; refine (Below.heap_alloc _ _ _ (by simp)).trans ?_
    have := World.alloc_heap_new ((w.alloc (Obj.cells #[.int .i64 vars, .slice A cs.length c0] 24)).alloc (Obj.cells #[.slice Ac c.length cc] 25)) (Obj.cells #[.bool false] 4); rwa [World.size_alloc, World.size_alloc] at this
  have hn3 : X.heap[w.heap.size + 1 + 1 + 1]? = some (Obj.cells #[.int .i64 0] 27 (0, 0)) := by
    rw [← hX]
    have := World.alloc_heap_new (((w.alloc (Obj.cells #[.int .i64 vars, .slice A cs.length c0] 24)).alloc (Obj.cells #[.slice Ac c.length cc] 25)).alloc (Obj.cells #[.bool false] 4)) (Obj.cells #[.int .i64 0] 27); rwa [World.size_alloc, World.size_alloc, World.size_alloc] at this
  have HcX : Hid (∀ W, Below X.heap.size X W → (W.cell? ⟨w.heap.size, 0, none⟩ = some (.int .i64 vars) ∧ W.cell? ⟨w.heap.size, 1, none⟩ = some (.slice A cs.length c0)) ∧ W.cell? ⟨w.heap.size + 1, 0, none⟩ = some (.slice Ac c.length cc) ∧ W.heap[w.heap.size + 1 + 1]? = some (Obj.cells #[.bool false] 4 (0, 0)) ∧ W.heap[w.heap.size + 1 + 1 + 1]? = some (Obj.cells #[.int .i64 0] 27 (0, 0))) := Lib.hid fun W hb => by
    have h0 := (hb.block _ (by omega)).trans hn0
    have h1 := (hb.block _ (by omega)).trans hn1
    refine ⟨?_, ?_, (hb.block _ (by omega)).trans hn2, (hb.block _ (by omega)).trans hn3⟩
    · constructor <;> (unfold World.cell?; rw [h0]; rfl)
    · unfold World.cell?; rw [h1]; rfl
  have HbX := Lib.hid hbX
  have HCX := Lib.hid (Kd.C_below HC.out hbX)
  have HCcX := Lib.hid (Kd.C_below HCc.out hbX)
  have Hcf := Lib.hid (cformed_any vars A c0 cs X (rc_of_C HCX.out) (by omega) (fun c hc => by have := H8.out c hc; omega))
  have Hwi := Lib.hid (fun W hb => within_any Ac cc c vars W (ic_of_C (Kd.C_below HCcX.out hb)) (by omega))
  have HM := Lib.hid (fun W hb => models_any vars A c0 cs W (Kd.C_below HCX.out hb) hc0 hv Hf.out hl H8.out)
  obtain ⟨⟨hx0, hx1⟩, hx2, _⟩ := HcX.out X (Below.refl _ _)
  clear hbX hn0 hn1 hn2 hn3
  have HsX := Lib.hid hsX
  clear hsX
  subst hX
  refine (callsIn_wide (n := 8)).1 ?_
  refine callsIn_of_wp_marks Try.func11 rfl trivial ?_ rfl
  simp only [Try.ntmps11, List.size_toArray, List.length_cons, List.length_nil, Nat.reduceAdd, Nat.reduceSub, Array.replicate_succ, Array.replicate_zero, List.push_toArray, List.append_toArray, List.nil_append, List.cons_append]
  gi_wp2_with (first
    | (refine ⟨trivial, ?_⟩; gi_at_call 6; refine (callsIn_wide.2 Hcf.out).mono ?_; rintro e w1 ⟨rfl, hB1⟩; rw [Hf.out]; obtain ⟨⟨hy0, hy1⟩, hy2, _⟩ := HcX.out w1 hB1; have HB1 := Lib.hid hB1; clear hB1)
    | (refine ⟨trivial, ?_⟩; gi_at_call 17; refine (callsIn_wide.2 (Hwi.out w1 HB1.out)).mono ?_; rintro e w1' ⟨rfl, rfl⟩; rw [Hw.out])
    | (refine ⟨trivial, ?_⟩; gi_at_call 22; refine (callsIn_wide.2 (HM.out w1 HB1.out)).mono ?_; rintro e w2 ⟨gb, A1, c1, rfl, hgb, hgc, hF, hc1, hB2⟩; have Hgc := Lib.hid hgc; have HF := Lib.hid hF; have HB2 := Lib.hid hB2; clear hgc hF hB2))
  obtain ⟨X, hX⟩ : ∃ X, (((w.alloc (Obj.cells #[.int .i64 vars, .slice A cs.length c0] 24)).alloc (Obj.cells #[.slice Ac c.length cc] 25)).alloc (Obj.cells #[.bool false] 4)).alloc (Obj.cells #[.int .i64 0] 27) = X := ⟨_, rfl⟩
  rw [hX] at HsX HB1 HbX HcX HCcX
  have h1X : w.heap.size + 4 ≤ w1.heap.size := by have := HB1.out.size; have := HsX.out; omega
  have h12 : w1.heap.size ≤ w2.heap.size := HB2.out.size
  have HX2 := Lib.hid (HB1.out.trans (HB2.out.mono HB1.out.size))
  have HW2 := Lib.hid (show Below w.heap.size w w2 from HbX.out.trans (HX2.out.mono HbX.out.size))
  refine wpIn_rangeFunc_B rfl (by omega) (gf := 31) (lb := #[.pointer (some ⟨gb, 0, none⟩)]) rfl trivial (enters_of Try.func31 (by kernel_rfl) rfl)
    (iter_any 7 w2.heap.size (w.heap.size + 1 + 1) gb vars A1 c1 cs w2 (it_of (w := w) (by omega) hgb Hgc.out HF.out) rfl (by omega) hv hc1 HFit.out (by omega))
    KpB.trans (fun W l o o' hl h hc => KpB.put W l o o' hl h hc)
    (fun pre x W l o o' hl h hc hp => by obtain ⟨Am, c, m, e, h1, h2, h3⟩ := hp; exact ⟨Am, c, m, e, h1, h2, C_put h hc h3⟩) (fun _ => rfl)
    (EntI w w2 cs c vars) (EntX w (w.heap.size + 1 + 1) (w.heap.size + 1 + 1 + 1) cs c vars)
    (fun s P Q hs hb => ⟨hs.1.trans hb, hs.2⟩) (fun k s P Q hs hb => ⟨hs.1, (hb.block _ (by omega)).trans hs.2.1, (hb.block _ (by omega)).trans hs.2.2.1, hs.2.2.2.1.trans (hb.mono (by omega)), hs.2.2.2.2⟩) ⟨Below.refl _ _, fun j m hj => by simp at hj⟩
    (fun x => { tmps := #[.agg #[.int .i64 vars, .slice A cs.length c0], .slice Ac c.length cc, .pointer (some ⟨w.heap.size, 0, none⟩), .pointer (some ⟨w.heap.size + 1, 0, none⟩), .pointer (some ⟨w.heap.size + 1 + 1, 0, none⟩), .pointer (some ⟨w.heap.size + 1 + 1 + 1, 0, none⟩), x, .agg #[.int .i64 vars, .slice A cs.length c0], .bool true, .bool false, .bool false, .slice Ac c.length cc, .pointer (some ⟨w.heap.size, 0, none⟩), .int .i64 vars, .bool true, .bool false, .bool false, .pointer (some ⟨w.heap.size, 0, none⟩), .int .i64 vars, .bool (decide (16 < (vars : Int))), .agg #[.int .i64 vars, .slice A cs.length c0], .func (.func 31) #[] #[.pointer (some ⟨gb, 0, none⟩)], x, undef, undef, undef, undef], defers := [] }) ?assign ?body ?done ?stop
  case assign =>
    intro l x W K hK
    simp
    gi_wp2
    exact hK
  case body =>
    rintro l pre x W ⟨hB, hall⟩ hlt ⟨Am, cm, m, rfl, hat, hcm, hM⟩
    have hLW := hB.size
    obtain ⟨_, hq2, hqr, hqe⟩ := HcX.out W (HX2.out.trans (hB.mono (by have := HX2.out.size; omega)))
    have hmem := List.mem_of_getElem? hat
    have hml := mods_len hmem
    have Hh := holds_any m c Ac cc Am cm W (Kd.C_below HCcX.out (HX2.out.trans (hB.mono (by have := HX2.out.size; omega)))) hcc (by rw [hml]; exact hM) (by omega) (by omega) hlc (by rw [hml]; exact HWi.out)
    rw [hml] at Hh
    have HHh := Lib.hid Hh
    have HB := Lib.hid hB
    have Hall := Lib.hid hall
    clear Hh hM hB hall
    cases hb : c.any (tv m) with
    | true =>
      gi_wp2_with (refine ⟨trivial, ?_⟩; gi_at_call 23; refine (CallsIn.inRound l (callsIn_wide.2 HHh.out)).mono ?_; rintro e W' ⟨rfl, hB'⟩; rw [hb]; have HB' := Lib.hid hB'; clear hB')
      refine ⟨keeps_below HB'.out, kp_below (by omega) HB'.out, HB.out.trans (HB'.out.mono HB.out.size), fun j m2 hj hj2 => ?_⟩
      rw [List.length_append, List.length_singleton] at hj
      rcases Nat.lt_or_ge j pre.length with h | h
      · exact Hall.out j m2 h hj2
      · obtain rfl : j = pre.length := by omega
        rw [hat] at hj2
        rw [← Option.some.inj hj2]; exact hb
    | false =>
      gi_wp2_with (refine ⟨trivial, ?_⟩; gi_at_call 23; refine (CallsIn.inRound l (callsIn_wide.2 HHh.out)).mono ?_; rintro e W' ⟨rfl, hB'⟩; rw [hb]; have hqr' := (hB'.block _ (Array.getElem?_eq_some_iff.1 hqr).1).trans hqr; have hqe' := (hB'.block _ (Array.getElem?_eq_some_iff.1 hqe).1).trans hqe; obtain ⟨hr0, hr1⟩ := box_cell hqr'; obtain ⟨he0, he1⟩ := box_cell hqe'; have HB' := Lib.hid hB'; clear hB')
      have hbW : Below W.heap.size W W' := HB'.out
      have hsW : W.heap.size ≤ W'.heap.size := hbW.size
      have hqr2 := box_put W' _ _ _ (.bool false) hqr'
      have hqe1 : (W'.setCell ⟨w.heap.size + 1 + 1, 0, none⟩ (.bool false)).heap[w.heap.size + 1 + 1 + 1]? = some (Obj.cells #[.int .i64 0] 27 (0, 0)) := (Below.heap_setCell _ _ _ _ (by show _ ≠ w.heap.size + 1 + 1; omega)).trans hqe'
      have hqe2 := box_put _ _ _ _ (.int .i64 0) hqe1
      have hqr3 : ((W'.setCell ⟨w.heap.size + 1 + 1, 0, none⟩ (.bool false)).setCell ⟨w.heap.size + 1 + 1 + 1, 0, none⟩ (.int .i64 0)).heap[w.heap.size + 1 + 1]? = some (Obj.cells #[.bool false] 4 (0, 0)) := (Below.heap_setCell _ _ _ _ (by show _ ≠ w.heap.size + 1 + 1 + 1; omega)).trans hqr2
      have hBW := (HW2.out.trans (HB.out.mono HW2.out.size)).trans (hbW.mono (Nat.le_trans HW2.out.size hLW))
      exact ⟨((keeps_below hbW).trans ((KeepsOthers.setCell _ _ _).from _)).trans ((KeepsOthers.setCell _ _ _).from _), rfl, hqr3, hqe2, (hBW.setCell (p := ⟨w.heap.size + 1 + 1, 0, none⟩) (by show _ ≤ w.heap.size + 1 + 1; omega) _).setCell (p := ⟨w.heap.size + 1 + 1 + 1, 0, none⟩) (by show _ ≤ w.heap.size + 1 + 1 + 1; omega) _, m, hmem, hb⟩
  case done =>
    rintro D xs W hD hS ⟨hB, hall⟩ hK
    obtain ⟨_, hq2, hqr, hqe⟩ := HcX.out W (HX2.out.trans (hB.mono (by have := HX2.out.size; omega)))
    obtain ⟨hr0, hr1⟩ := box_cell hqr
    obtain ⟨he0, he1⟩ := box_cell hqe
    gi_wp2
    have hqr2 := box_put W _ _ _ (.bool true) hqr
    have hqe1 : (W.setCell ⟨w.heap.size + 1 + 1, 0, none⟩ (.bool true)).heap[w.heap.size + 1 + 1 + 1]? = some (Obj.cells #[.int .i64 0] 27 (0, 0)) := (Below.heap_setCell _ _ _ _ (by show _ ≠ w.heap.size + 1 + 1; omega)).trans hqe
    have hqe2 := box_put _ _ _ _ (.int .i64 0) hqe1
    have hqr3 : ((W.setCell ⟨w.heap.size + 1 + 1, 0, none⟩ (.bool true)).setCell ⟨w.heap.size + 1 + 1 + 1, 0, none⟩ (.int .i64 0)).heap[w.heap.size + 1 + 1]? = some (Obj.cells #[.bool true] 4 (0, 0)) := (Below.heap_setCell _ _ _ _ (by show _ ≠ w.heap.size + 1 + 1 + 1; omega)).trans hqr2
    have hLD : w2.heap.size ≤ W.heap.size := hB.size
    have hK1 : ((W.setCell ⟨w.heap.size + 1 + 1, 0, none⟩ (.bool true)).setCell ⟨w.heap.size + 1 + 1 + 1, 0, none⟩ (.int .i64 0)).heap[D]? = some (.deferred (some [])) := ((Below.heap_setCell _ _ _ _ (by show D ≠ w.heap.size + 1 + 1 + 1; omega)).trans (Below.heap_setCell _ _ _ _ (by show D ≠ w.heap.size + 1 + 1; omega))).trans hK
    have hBW := HW2.out.trans (hB.mono HW2.out.size)
    have hBw : Below w.heap.size w ((W.setCell ⟨w.heap.size + 1 + 1, 0, none⟩ (.bool true)).setCell ⟨w.heap.size + 1 + 1 + 1, 0, none⟩ (.int .i64 0)) := (hBW.setCell (p := ⟨w.heap.size + 1 + 1, 0, none⟩) (by show _ ≤ w.heap.size + 1 + 1; omega) _).setCell (p := ⟨w.heap.size + 1 + 1 + 1, 0, none⟩) (by show _ ≤ w.heap.size + 1 + 1 + 1; omega) _
    generalize (W.setCell ⟨w.heap.size + 1 + 1, 0, none⟩ (.bool true)).setCell ⟨w.heap.size + 1 + 1 + 1, 0, none⟩ (.int .i64 0) = V at *
    refine ⟨by simp, .inl ⟨_, _, rfl, run_takeDeferred hK1, ?_⟩⟩
    have hc5 : (V.putObj D (.deferred none)).cell? ⟨w.heap.size + 1 + 1, 0, none⟩ = some (.bool true) := cell_put hK1 rfl (box_cell hqr3).1
    have hc6 : (V.putObj D (.deferred none)).cell? ⟨w.heap.size + 1 + 1 + 1, 0, none⟩ = some (.int .i64 0) := cell_put hK1 rfl (box_cell hqe2).1
    refine ⟨.tuple #[.bool true, .int .i64 0], ?_, ?_, hBw.trans (below_put V D _ _ (by omega) hK1)⟩
    · simp [results, Try.f11, go_sem, hc5, hc6]
    · have e : ((mods cs vars).all fun m => c.any (tv m)) = true := List.all_eq_true.2 fun m hm => by
        obtain ⟨j, hj, e⟩ := List.getElem_of_mem hm
        exact hall j m (by rw [hS]; exact hj) (by rw [← e]; exact List.getElem?_eq_getElem hj)
      rw [e]
  case stop =>
    rintro D k pre W hD _ ⟨rfl, hqr, hqe, hBw, hm⟩ hK
    gi_wp2
    refine ⟨by simp, .inl ⟨_, _, rfl, run_takeDeferred hK, ?_⟩⟩
    have hc5 : (W.putObj D (.deferred none)).cell? ⟨w.heap.size + 1 + 1, 0, none⟩ = some (.bool false) := cell_put hK rfl (box_cell hqr).1
    have hc6 : (W.putObj D (.deferred none)).cell? ⟨w.heap.size + 1 + 1 + 1, 0, none⟩ = some (.int .i64 0) := cell_put hK rfl (box_cell hqe).1
    refine ⟨.tuple #[.bool false, .int .i64 0], ?_, ?_, hBw.trans (below_put W D _ _ (by omega) hK)⟩
    · simp [results, Try.f11, go_sem, hc5, hc6]
    · obtain ⟨m, hm1, hm2⟩ := hm
      have e : ((mods cs vars).all fun m => c.any (tv m)) = false := Bool.eq_false_iff.2 fun h => by
        have := List.all_eq_true.1 h m hm1
        rw [hm2] at this; cases this
      rw [e]

end Go.Proofs.Ythgkchnmajccoaa.Cn
