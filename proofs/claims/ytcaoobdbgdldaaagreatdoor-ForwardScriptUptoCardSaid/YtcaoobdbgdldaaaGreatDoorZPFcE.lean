/- Part of the proof of ForwardScript: what the law uses of the text FcE. -/
import Derived.Test.YtcaoobdbgdldaaaGreatDoorZPFcC
import Derived.Test.YtcaoobdbgdldaaaGreatDoorZPJP0
namespace Go.Proofs.YtcaoobdbgdldaaaGreatDoor.Rfw
open Go.RowKit Go.Shelf Go.Maps Go.Proofs.YtcaoobdbgdldaaaGreatDoor.Lit Go.Proofs.YtcaoobdbgdldaaaGreatDoor.Spr Go.Proofs.YtcaoobdbgdldaaaGreatDoor.P Go.Proofs.YtcaoobdbgdldaaaGreatDoor.Rf Go.Proofs.YtcaoobdbgdldaaaGreatDoorW.PrintWords
set_option linter.unusedVariables false
set_option linter.unusedSimpArgs false

theorem rformed_any (v : Int) (A : Option Addr) (c0 : Nat) (cs : List (List Int)) (w : World) (hC : Kd.C kL w A cs.length cs) (hc0 : cs.length ≤ c0) (hl : cs.length ≤ 2097152) (h8 : ∀ c ∈ cs, c.length ≤ 2097152) :
    Calls Tryz.prog 13 #[.agg #[.int .i64 v, .slice A cs.length c0]] w fun e w' => e = .returned (.bool (formedB v cs)) ∧ Below w.heap.size w w' := by
  obtain ⟨k, hk⟩ := (formed02 v cs (by omega) (fun c hc => by have := h8 c hc; omega)).rounds
  exact depotref02_Formed.calls k v A c0 cs _ w hC hc0 hk
theorem rclauses_any (A : Option Addr) (c0 : Nat) (cs : List (List Int)) (w : World) (hC : Kd.C kL w A cs.length cs) (hc0 : cs.length ≤ c0) (hl : cs.length ≤ 2097152) (h8 : ∀ c ∈ cs, c.length ≤ 2097152) :
    Calls Tryz.prog 39 #[.slice A cs.length c0] w fun e w' => ∃ Ad ca, e = .returned (.slice Ad cs.length ca) ∧ Kd.N kL 40 w' w.heap.size (fun k => w.heap.size ≤ k ∧ k < w'.heap.size) (.slice Ad cs.length ca) cs ∧ Below w.heap.size w w' := by
  have hE : Ev (fun k => depotref00_CopyClauses.f k cs) cs := by
    have := copyClauses_l cs (by omega) (fun c hc => by have := h8 c hc; omega) _ 0 [] rfl (by omega) rfl
    simpa [depotref00_CopyClauses.f] using this
  obtain ⟨k, hk⟩ := hE.rounds
  refine (depotref00_CopyClauses.calls k A c0 cs cs w hC hc0 hk).mono fun e w' h => ?_
  obtain ⟨v0, he, hS, hb⟩ := h
  obtain ⟨Ad, ca, rfl⟩ := Kd.S_slice hS
  exact ⟨Ad, ca, he, Kd.R_N (Kd.R_mono (Kd.R_bound (Kd.S_R hS)) (fun k hk => ⟨hk.2.1, hk.2.2.1⟩)), hb⟩
def RNewPost (O : Nat → Prop) (w : World) (v : Int) (cs : List (List Int)) (e : Ending) (w' : World) : Prop :=
  if formedB v cs = true then ∃ b, e = .returned (.tuple #[.pointer (some ⟨b, 0, none⟩), .int .i64 0]) ∧ RfR O w w.heap.size b cs false w' else e = .returned (.tuple #[.pointer none, .int .i64 1]) ∧ Below w.heap.size w w'

set_option maxHeartbeats 4000000 in
set_option maxRecDepth 100000 in
theorem rnew_any (O : Nat → Prop) (v : Int) (A : Option Addr) (c0 : Nat) (cs : List (List Int)) (w : World) (hC : Kd.C kL w A cs.length cs) (hc0 : cs.length ≤ c0) (hl : cs.length ≤ 2097152) (h8 : ∀ c ∈ cs, c.length ≤ 2097152) (hO : ∀ k, w.heap.size ≤ k → O k) :
    Calls Tryz.prog 19 #[.agg #[.int .i64 v, .slice A cs.length c0]] w (RNewPost O w v cs) := by
  obtain ⟨X, hX⟩ : ∃ X, w.alloc (Obj.cells #[.int .i64 v, .slice A cs.length c0] 24) = X := ⟨_, rfl⟩
  have hbX : Below w.heap.size w X := by rw [← hX]; exact (Below.refl _ _).alloc (Nat.le_refl _) _
  have hnX : X.heap[w.heap.size]? = some (Obj.cells #[.int .i64 v, .slice A cs.length c0] 24 (0, 0)) := by rw [← hX]; exact World.alloc_heap_new _ _
  have hlX : w.heap.size < X.heap.size := (Array.getElem?_eq_some_iff.1 hnX).1
  have HcX : Hid (∀ W, Below X.heap.size X W → W.heap[w.heap.size]? = some (Obj.cells #[.int .i64 v, .slice A cs.length c0] 24 (0, 0))) := Lib.hid fun W hb => (hb.block _ hlX).trans hnX
  obtain ⟨x1, x2, _⟩ := two_cells hnX
  have HF := Lib.hid (rformed_any v A c0 cs X (Kd.C_below hC hbX) hc0 hl h8)
  have HCl := Lib.hid (fun W (hb : Below X.heap.size X W) => rclauses_any A c0 cs W (Kd.C_below (Kd.C_below hC hbX) hb) hc0 hl h8)
  have HbX := Lib.hid hbX
  clear hC h8 hbX hnX
  subst hX
  unfold RNewPost
  cases hf : formedB v cs with
  | false =>
    simp only [Bool.false_eq_true, ↓reduceIte]
    go_enter Tryz.func19, Tryz.ntmps19
    go_wp2_with (go_at_call 13; refine HF.out.mono ?_; rintro e w1 ⟨rfl, hB1⟩; rw [hf]; have HB1 := Lib.hid hB1; clear hB1)
    go_ret2
    exact ⟨rfl, HbX.out.trans (HB1.out.mono HbX.out.size)⟩
  | true =>
    simp only [↓reduceIte]
    go_enter Tryz.func19, Tryz.ntmps19
    go_wp2_with (first
      | (go_at_call 13; refine HF.out.mono ?_; rintro e w1 ⟨rfl, hB1⟩; rw [hf]; obtain ⟨y1, y2, _⟩ := two_cells (HcX.out w1 hB1); have HB1 := Lib.hid hB1; clear hB1)
      | (go_at_call 39; refine (HCl.out w1 HB1.out).mono ?_; rintro e w2 ⟨Ad, ca, rfl, hN, hB2⟩; have HN := Lib.hid hN; have HB2 := Lib.hid hB2; have s1 := HB1.out.size; have s2 := hB2.size; clear hN hB2))
    go_ret2
    have s0 := HbX.out.size
    refine ⟨w2.heap.size, rfl, Ad, ca, World.alloc_heap_new _ _, Kd.N_lower (Kd.N_alloc (Kd.N_mono HN.out (fun k hk => ⟨hO k (by omega), by omega, by omega⟩)) _) (by omega), ?_, by omega, ⟨by simp; omega, fun g hl _ _ _ => ((((HbX.out.trans (HB1.out.mono s0)).trans (HB2.out.mono (by omega))).alloc (by omega) _).block g hl), fun g hg => .inr ?_⟩⟩
    · exact ((HbX.out.trans (HB1.out.mono s0)).trans (HB2.out.mono (by omega))).alloc (by omega) _
    · rw [Fwd.rowOf_blk (World.alloc_heap_new _ _)] at hg
      have := Kd.N_base HN.out g hg
      omega

theorem outN_mem (A : List (List Int)) (p : Int) : ∀ k, ∀ x ∈ outN A p k, ∃ j, j < k ∧ x = A.getD j []
  | 0, x, hx => by cases hx
  | k + 1, x, hx => by
    unfold outN at hx
    split at hx
    · obtain ⟨j, h1, h2⟩ := outN_mem A p k x hx
      exact ⟨j, by omega, h2⟩
    · rcases List.mem_append.1 hx with h | h
      · obtain ⟨j, h1, h2⟩ := outN_mem A p k x h
        exact ⟨j, by omega, h2⟩
      · exact ⟨k, by omega, List.mem_singleton.1 h⟩
end Go.Proofs.YtcaoobdbgdldaaaGreatDoor.Rfw
