/- Part of the proof of ForwardScript: what the law uses of the text FcA. -/
import Derived.Test.YtcaoobdbgdldaaaGreatDoorZPKeep
import Derived.Test.YtcaoobdbgdldaaaGreatDoorZPKindP
import Derived.Test.YtcaoobdbgdldaaaGreatDoorZPJP7
import Derived.Test.YtcaoobdbgdldaaaGreatDoorZPJP0
import Derived.RegionTactic
import Derived.Deep.DeepCutAuto
import Derived.Deep.CutBlock
import Derived.Deep.RegionWith
import Derived.Deep.QuietTactic
import Derived.BigQuiet
import Derived.RowKit3
import Derived.Below
import Derived.Lib.Hide
import Derived.RangeFuncBox
namespace Go.Proofs.YtcaoobdbgdldaaaGreatDoor.Rfw
open Go.RowKit Go.Proofs.YtcaoobdbgdldaaaGreatDoor.Lit Go.Proofs.YtcaoobdbgdldaaaGreatDoor.Spr Go.Proofs.YtcaoobdbgdldaaaGreatDoor.P Go.Proofs.YtcaoobdbgdldaaaGreatDoor.Rf Go.Proofs.YtcaoobdbgdldaaaGreatDoorW.PrintWords Go.Proofs.YtcaoobdbgdldaaaGreatDoorW.PrintLast
set_option linter.unusedVariables false
set_option linter.unusedSimpArgs false

theorem infoI : (Tryz.prog.info? 3).map (fun i => (i.zero, i.size, i.bytes)) = some (some (.int .i64 0), 1, 8) := by kernel_rfl
theorem infoL : (Tryz.prog.info? 40).map (fun i => (i.zero, i.size, i.bytes)) = some (some (.slice none 0 0), 1, 24) := by kernel_rfl
abbrev kL : Kd (List Int) := Kd.slice 3 (Kd.int .i64)
abbrev kI : Kd Int := Kd.int .i64
theorem kL_mk {W : World} {ok : Nat → Prop} {x : List Int} {A : Option Addr} {c : Nat} (hc : x.length ≤ c) (h : Kd.F kI W ok A x.length x) : Kd.FK kL W ok x [.slice A x.length c] := fun W' hW => ⟨A, c, rfl, hc, h W' hW⟩

def RfR (O : Nat → Prop) (w0 : World) (B b : Nat) (A : List (List Int)) (o : Bool) (w : World) : Prop :=
  ∃ Ad c, w.heap[b]? = some (Obj.cells #[.slice Ad A.length c, .bool o] 85 (0, 0)) ∧ Kd.N kL 40 w B (fun k => O k ∧ B ≤ k ∧ k ≠ b) (.slice Ad A.length c) A ∧ Below B w0 w ∧ B ≤ b ∧ Fwd.KeepO 0 b b w0 w
theorem RfR.step {O : Nat → Prop} {w0 w w' : World} {B b : Nat} {A : List (List Int)} {o : Bool} (h : RfR O w0 B b A o w) (hb : Below w.heap.size w w') : RfR O w0 B b A o w' := by
  obtain ⟨Ad, c, h1, h2, h3, h4, h5⟩ := h
  have hl : b < w.heap.size := (Array.getElem?_eq_some_iff.1 h1).1
  exact ⟨Ad, c, (hb.block b hl).trans h1, Kd.N_below h2 hb, h3.trans (hb.mono (by omega)), h4, h5.trans (.of_below hb hl)⟩
theorem RfR.base {O : Nat → Prop} {w0 w : World} {B b : Nat} {A : List (List Int)} {o : Bool} (h : RfR O w0 B b A o w) : Below B w0 w := by obtain ⟨_, _, _, _, h, _⟩ := h; exact h
theorem RfR.ko {O : Nat → Prop} {w0 w : World} {B b : Nat} {A : List (List Int)} {o : Bool} (h : RfR O w0 B b A o w) : Fwd.KeepO 0 b b w0 w := by obtain ⟨_, _, _, _, _, _, h⟩ := h; exact h
theorem two_cells {w : World} {b t : Nat} {u v : Value} (h : w.heap[b]? = some (Obj.cells #[u, v] t (0, 0))) : w.cell? ⟨b, 0, none⟩ = some u ∧ w.cell? ⟨b, 1, none⟩ = some v ∧ w.frozen? ⟨b, 0, none⟩ = false ∧ w.frozen? ⟨b, 1, none⟩ = false := by
  refine ⟨?_, ?_, ?_, ?_⟩ <;> first | (unfold World.cell?; rw [h]; rfl) | simp [World.frozen?, h]

theorem rf_put1 {O : Nat → Prop} {w0 w : World} {B b : Nat} {A : List (List Int)} {o : Bool} {u : Value} {Ad : Option Addr} {c : Nat} (hb : w.heap[b]? = some (Obj.cells #[u, .bool o] 85 (0, 0))) (hN : Kd.N kL 40 w B (fun k => O k ∧ B ≤ k ∧ k ≠ b) (.slice Ad A.length c) A) (hBl : Below B w0 w) (hBb : B ≤ b) (hko : Fwd.KeepO 0 b b w0 (w.setCell ⟨b, 0, none⟩ (.slice Ad A.length c))) :
    RfR O w0 B b A o (w.setCell ⟨b, 0, none⟩ (.slice Ad A.length c)) :=
  ⟨Ad, c, by simp [World.setCell, Array.getElem?_modify, hb], Kd.N_far hN (p := ⟨b, 0, none⟩) (fun k hk => hk.2.2) _, hBl.setCell (p := ⟨b, 0, none⟩) hBb _, hBb, hko⟩
theorem rf_put2 {O : Nat → Prop} {w0 w : World} {B b : Nat} {A : List (List Int)} {o : Bool} (h : RfR O w0 B b A o w) (o2 : Bool) : RfR O w0 B b A o2 (w.setCell ⟨b, 1, none⟩ (.bool o2)) := by
  obtain ⟨Ad, c, h1, h2, h3, h4, h5⟩ := h
  have h6 : (w.setCell ⟨b, 1, none⟩ (.bool o2)).heap[b]? = some (Obj.cells #[.slice Ad A.length c, .bool o2] 85 (0, 0)) := by simp [World.setCell, Array.getElem?_modify, h1]
  exact ⟨Ad, c, h6, Kd.N_far h2 (p := ⟨b, 1, none⟩) (fun k hk => hk.2.2) _, h3.setCell (p := ⟨b, 1, none⟩) h4 _, h4, h5.trans (.mk' h1 h6 (by simp) (fun g _ n1 _ _ => Below.heap_setCell w ⟨b, 1, none⟩ _ g n1) (.inl rfl))⟩

noncomputable def rAdd (A : List (List Int)) (o : Bool) (c : List Int) : Int × Int × List (List Int) × Bool :=
  if c.all fm = true then (if o = true then (0, 3, A, o) else (if (kindA 1048576 A c).1 = 0 then (0, 0, A, o) else ((kindA 1048576 A c).1, 0, A ++ [c], decide (c.length = 0)))) else (0, 1, A, o)
structure RfOk (A : List (List Int)) : Prop where
  l : A.length ≤ 4194304
  c8 : ∀ d ∈ A, d.length ≤ 2097152
  f : ∀ d ∈ A, ∀ x ∈ d, fm x = true
set_option maxHeartbeats 2000000 in
set_option maxRecDepth 100000 in
theorem formula_any (b n c : Nat) (Ad : Option Addr) (o : Bool) (w : World) (h : w.heap[b]? = some (Obj.cells #[.slice Ad n c, .bool o] 85 (0, 0))) :
    Calls Tryz.prog 79 #[.pointer (some ⟨b, 0, none⟩)] w fun e w' => e = .returned (.agg #[.int .i64 1048576, .slice Ad n c]) ∧ Below w.heap.size w w' := by
  obtain ⟨h1, h2, h3, h4⟩ := two_cells h
  have hl : b < w.heap.size := (Array.getElem?_eq_some_iff.1 h).1
  clear h
  go_enter Tryz.func79, Tryz.ntmps79
  go_wp2
  have hc : (w.alloc (Obj.cells #[.int .i64 1048576, .slice Ad n c] 24)).heap[w.heap.size]? = some (Obj.cells #[.int .i64 1048576, .slice Ad n c] 24 (0, 0)) := World.alloc_heap_new _ _
  obtain ⟨g1, g2, _⟩ := two_cells hc
  refine bodyPost_ret (v := .agg #[.int .i64 1048576, .slice Ad n c]) ?_ rfl ⟨rfl, (Below.refl _ _).alloc (Nat.le_refl _) _⟩
  simp [results, Tryz.f79, go_sem, g1, g2]
theorem rsound_any (Ac : Option Addr) (cc : Nat) (c : List Int) (w : World) (hC : Kd.C kI w Ac c.length c) (hcc : c.length ≤ cc) (hl : c.length ≤ 2097152) :
    Calls Tryz.prog 43 #[.slice Ac c.length cc] w fun e w' => e = .returned (.bool (c.all fm)) ∧ Below w.heap.size w w' := by
  obtain ⟨k, hk⟩ := (sound01 c (by omega)).rounds
  exact (depotref01_Sound.calls k Ac cc c _ w hC hcc hk).mono fun e w' h => ⟨h.1, h.2.below⟩
theorem rkind_any (v : Int) (Ad : Option Addr) (cd : Nat) (A : List (List Int)) (Ac : Option Addr) (cc : Nat) (c : List Int) (w : World) (hA : Kd.C kL w Ad A.length A) (hcd : A.length ≤ cd) (hC : Kd.C kI w Ac c.length c) (hcc : c.length ≤ cc) (hok : RfOk A) (hl : c.length ≤ 2097152) :
    Calls Tryz.prog 80 #[.agg #[.int .i64 v, .slice Ad A.length cd], .slice Ac c.length cc] w fun e w' => e = .returned (.tuple #[.int .i64 (kindA v A c).1, .int .i64 (kindA v A c).2]) ∧ Below w.heap.size w w' := by
  obtain ⟨k, hk⟩ := (Kind08 v A c (by have := hok.l; omega) (fun x hx => by have := hok.c8 x hx; omega) (by omega)).rounds
  exact depotref08_Kind.calls k v Ad cd A Ac cc c _ _ w hA hcd hC hcc hk

theorem copy_any (Ac : Option Addr) (cc : Nat) (c : List Int) (w : World) (hC : Kd.C kI w Ac c.length c) (hcc : c.length ≤ cc) (hl : c.length ≤ 2097152) :
    Calls Tryz.prog 40 #[.slice Ac c.length cc] w fun e w' => ∃ v, e = .returned v ∧ Kd.R kI 3 w' w.heap.size (fun _ => True) v c ∧ Below w.heap.size w w' := by
  obtain ⟨k, hk⟩ := (copyInts c (by omega)).rounds
  exact depotref00_CopyInts.calls k Ac cc c c w hC hcc hk

set_option maxHeartbeats 4000000 in
set_option maxRecDepth 100000 in
theorem radd_any (O : Nat → Prop) (w0 : World) (B b : Nat) (A : List (List Int)) (o : Bool) (Ac : Option Addr) (cc : Nat) (c : List Int) (w : World) (h : RfR O w0 B b A o w) (hC : Kd.C kI w Ac c.length c) (hcc : c.length ≤ cc) (hok : RfOk A) (hl : c.length ≤ 2097152) (hO : ∀ k, w.heap.size ≤ k → O k) :
    Calls Tryz.prog 45 #[.pointer (some ⟨b, 0, none⟩), .slice Ac c.length cc] w fun e w' => e = .returned (.tuple #[.int .i64 (rAdd A o c).1, .int .i64 (rAdd A o c).2.1]) ∧ RfR O w0 B b (rAdd A o c).2.2.1 (rAdd A o c).2.2.2 w' := by
  have HR := Lib.hid h
  obtain ⟨Ad, ca, hb, hN, hbw, hBb, hko⟩ := h
  have HKO := Lib.hid hko
  clear hko
  have hbl : b < w.heap.size := (Array.getElem?_eq_some_iff.1 hb).1
  obtain ⟨h1, h2, h3, h4⟩ := two_cells hb
  have Hb : Hid (∀ W, Below w.heap.size w W → W.heap[b]? = some (Obj.cells #[.slice Ad A.length ca, .bool o] 85 (0, 0))) := Lib.hid fun W hw => (hw.block b hbl).trans hb
  have HN := Lib.hid hN
  have Hca := Lib.hid (Kd.N_reads' hN).2.1
  have HW := Lib.hid hbw
  have HC := Lib.hid hC
  have Hok := Lib.hid hok
  have HS := Lib.hid (rsound_any Ac cc c w hC hcc hl)
  have HF := Lib.hid (fun W hw => formula_any b A.length ca Ad o W (Hb.out W hw))
  have HK := Lib.hid (fun W (hw : Below w.heap.size w W) => rkind_any 1048576 Ad ca A Ac cc c W (Kd.N_reads' (Kd.N_below HN.out hw)).2.2 Hca.out (Kd.C_below HC.out hw) hcc Hok.out hl)
  have HCo := Lib.hid (fun W (hw : Below w.heap.size w W) => copy_any Ac cc c W (Kd.C_below HC.out hw) hcc hl)
  clear hb hN hbw hC hok
  have hA : A.length ≤ 4194304 := Hok.out.l
  cases hs : c.all fm with
  | false =>
    have e1 : rAdd A o c = (0, 1, A, o) := by unfold rAdd; rw [if_neg (by rw [hs]; decide)]
    rw [e1]
    go_enter Tryz.func45, Tryz.ntmps45
    go_wp2_with (go_at_call 43; refine HS.out.mono ?_; rintro e w1 ⟨rfl, hB1⟩; rw [hs]; have HB1 := Lib.hid hB1; clear hB1)
    go_ret2
    exact ⟨rfl, HR.out.step HB1.out⟩
  | true =>
    cases o with
    | true =>
      have e1 : rAdd A true c = (0, 3, A, true) := by unfold rAdd; rw [if_pos hs, if_pos rfl]
      rw [e1]
      go_enter Tryz.func45, Tryz.ntmps45
      go_wp2_with (go_at_call 43; refine HS.out.mono ?_; rintro e w1 ⟨rfl, hB1⟩; rw [hs]; obtain ⟨g1, g2, g3, g4⟩ := two_cells (Hb.out w1 hB1); have HB1 := Lib.hid hB1; clear hB1)
      go_ret2
      exact ⟨rfl, HR.out.step HB1.out⟩
    | false =>
      by_cases hk : (kindA 1048576 A c).1 = 0
      · have e1 : rAdd A false c = (0, 0, A, false) := by unfold rAdd; rw [if_pos hs, if_neg (by decide), if_pos hk]
        rw [e1]
        go_enter Tryz.func45, Tryz.ntmps45
        go_wp2_with (first
          | (go_at_call 43; refine HS.out.mono ?_; rintro e w1 ⟨rfl, hB1⟩; rw [hs]; obtain ⟨g1, g2, g3, g4⟩ := two_cells (Hb.out w1 hB1); have HB1 := Lib.hid hB1; clear hB1)
          | (go_at_call 79; refine (HF.out w1 HB1.out).mono ?_; rintro e w2 ⟨rfl, hB2⟩; have HB2 := Lib.hid (HB1.out.trans (hB2.mono HB1.out.size)); clear hB2)
          | (go_at_call 80; refine (HK.out _ (HB2.out.alloc HB2.out.size _)).mono ?_; rintro e w4 ⟨rfl, hB4⟩; rw [hk]; have HB4 := Lib.hid ((HB2.out.alloc HB2.out.size _).trans (hB4.mono (HB2.out.alloc HB2.out.size _).size)); clear hB4))
        go_ret2
        exact ⟨rfl, HR.out.step HB4.out⟩
      · have e1 : rAdd A false c = ((kindA 1048576 A c).1, 0, A ++ [c], decide (c.length = 0)) := by unfold rAdd; rw [if_pos hs, if_neg (by decide), if_neg hk]
        rw [e1]
        have hk2 : ¬ ((kindA 1048576 A c).1 = 0) := hk
        generalize (kindA 1048576 A c).1 = kd at *
        generalize (kindA 1048576 A c).2 = ke at *
        go_enter Tryz.func45, Tryz.ntmps45
        go_wp2_with (first
          | (go_at_call 43; refine HS.out.mono ?_; rintro e w1 ⟨rfl, hB1⟩; rw [hs]; obtain ⟨g1, g2, g3, g4⟩ := two_cells (Hb.out w1 hB1); have HB1 := Lib.hid hB1; clear hB1)
          | (go_at_call 79; refine (HF.out w1 HB1.out).mono ?_; rintro e w2 ⟨rfl, hB2⟩; have HB2 := Lib.hid (HB1.out.trans (hB2.mono HB1.out.size)); clear hB2)
          | (go_at_call 80; refine (HK.out _ (HB2.out.alloc HB2.out.size _)).mono ?_; rintro e w4 ⟨rfl, hB4⟩; have HB4 := Lib.hid ((HB2.out.alloc HB2.out.size _).trans (hB4.mono (HB2.out.alloc HB2.out.size _).size)); clear hB4)
          | (go_at_call 40; refine (HCo.out w4 HB4.out).mono ?_; rintro e w5 ⟨v5, rfl, hR5, hB5⟩; have HB5 := Lib.hid (HB4.out.trans (hB5.mono HB4.out.size)); obtain ⟨A5, c5, ev⟩ := Kd.R_slice hR5; subst ev; have HR5 := Lib.hid hR5; obtain ⟨k1, k2, k3, k4⟩ := two_cells (Hb.out w5 HB5.out); have HN5 := Lib.hid (Kd.N_below HN.out HB5.out); have s4 := HB4.out.size; have s5 := HB5.out.size; have HX1 : Hid (∀ k, some k = (Value.slice A5 c.length c5).ownBlock → (O k ∧ B ≤ k ∧ k ≠ b) ∧ some k ≠ (Value.slice Ad A.length ca).ownBlock) := Lib.hid (fun k hk => by have h7 := Kd.R_base HR5.out k hk.symm; obtain ⟨cells, hcl⟩ := Kd.R_typed HR5.out k hk.symm; exact ⟨⟨hO k (by omega), by omega, by omega⟩, Kd.N_ne HN5.out hcl (by decide)⟩); have HX3 := Lib.hid (HW.out.trans (HB5.out.mono (by omega))); clear hR5 hB5)
          | (at_builtin; refine Kd.N_append kL (w0 := w0) B rfl (.tmp 34) (.tmp 36) 22 40 (.slice none 0 0) 24 rfl Tryz.underlying22 infoL rfl (by decide) (by decide) (.slice Ad A.length ca) A c [.slice A5 c.length c5] (fun k => O k ∧ B ≤ k ∧ k ≠ b) (fun k => some k = (Value.slice A5 c.length c5).ownBlock) rfl rfl (kL_mk (Kd.R_reads' HR5.out).2.1 (Kd.R_F (Kd.R_tight rfl HR5.out))) HX1.out (fun k hk => ⟨hO k (by omega), by omega, by omega⟩) HN5.out HX3.out (by omega) (by omega) ?_; intro v6 w6 hN6 hB6 hg6 hat6; have h6 : w6.heap[b]? = w5.heap[b]? := hg6.block b (by omega) (fun e => (HN5.out.1 b e.symm).2.2 rfl); obtain ⟨q1, q2, q3, q4⟩ := two_cells (h6.trans (Hb.out w5 HB5.out)); obtain ⟨A6, c6, ev6⟩ := Kd.N_slice hN6; subst ev6; have HN6 := Lib.hid hN6; have HB6 := Lib.hid hB6; have Hg6 := Lib.hid (h6.trans (Hb.out w5 HB5.out)); have HK6 := Lib.hid ((HKO.out.trans (.of_below HB5.out hbl)).trans (Fwd.KeepO.mk' (w1 := w6.setCell ⟨b, 0, none⟩ (.slice A6 (A ++ [c]).length c6)) (ds := #[.slice A6 (A ++ [c]).length c6, .bool false]) (Hb.out w5 HB5.out) (by simp [World.setCell, Array.getElem?_modify, Hg6.out]) (by have := hg6.size; simpa using this) (fun g hl n1 _ n3 => (Below.heap_setCell w6 ⟨b, 0, none⟩ _ g n1).trans (hg6.block g hl n3)) (hat6.imp id (fun ⟨g, e1, e2⟩ g' e3 => by have e4 : some g = some g' := e1.symm.trans e3; injection e4 with e4; omega)))); clear hN6 hB6 hg6 hat6 h6))
        go_ret2
        refine ⟨rfl, ?_⟩
        have h7 := rf_put2 (rf_put1 (A := A ++ [c]) Hg6.out HN6.out HB6.out hBb HK6.out) (decide (c.length = 0))
        rw [show decide (c.length = 0) = ((c.length : Int) == 0) by rw [Bool.eq_iff_iff, decide_eq_true_eq, beq_iff_eq]; omega] at h7 ⊢
        rw [show A.length + 1 = (A ++ [c]).length by simp]
        exact h7

end Go.Proofs.YtcaoobdbgdldaaaGreatDoor.Rfw
