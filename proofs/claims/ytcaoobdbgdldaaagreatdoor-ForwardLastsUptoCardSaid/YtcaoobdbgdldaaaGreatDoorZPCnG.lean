/- Part of the proof of ForwardLasts: what the law uses of the text CnG. -/
import Derived.Test.YtcaoobdbgdldaaaGreatDoorZPCnF
namespace Go.Proofs.YtcaoobdbgdldaaaGreatDoor.Cn
open Go.RowKit Go.Proofs.YtcaoobdbgdldaaaGreatDoor.Lit Go.Proofs.YtcaoobdbgdldaaaGreatDoor.Spr Go.Proofs.YtcaoobdbgdldaaaGreatDoorW.PrintWords
set_option linter.unusedVariables false
set_option linter.unusedSimpArgs false
attribute [local go_sem] Oper.semAt_some

def ModsPost (w : World) (vars : Nat) (cs : List (List Int)) (e : Ending) (w' : World) : Prop :=
  ∃ gb A1 c1, e = .returned (.func (.func 90) #[] #[.pointer (some ⟨gb, 0, none⟩)]) ∧ w.heap.size ≤ gb ∧ w'.heap[gb]? = some (Obj.cells #[.int .i64 vars, .slice A1 cs.length c1] 24 (0, 0)) ∧ Kd.F kL w' (fun k => w.heap.size ≤ k ∧ k < w'.heap.size) A1 cs.length cs ∧ cs.length ≤ c1 ∧ Below w.heap.size w w'

theorem mods_fin {w w2 w3 : World} {b gb vars : Nat} {cs : List (List Int)} {A1 : Option Addr} {c1 : Nat} (hN : Kd.N kL 40 w2 b (fun k => b ≤ k) (.slice A1 cs.length c1) cs) (hb : w.heap.size ≤ b)
    (h3 : ∀ k, k ≠ gb → k < w2.heap.size → w3.heap[k]? = w2.heap[k]?) (hs : w2.heap.size ≤ w3.heap.size) (hg : w3.heap[gb]? = some (Obj.cells #[.int .i64 vars, .slice A1 cs.length c1] 24 (0, 0))) (hgb : w.heap.size ≤ gb) (hne : gb < b ∨ w2.heap.size ≤ gb) (hbl : Below w.heap.size w w3) :
    ModsPost w vars cs (.returned (.func (.func 90) #[] #[.pointer (some ⟨gb, 0, none⟩)])) w3 := by
  have hN3 := Kd.N_step (w1 := w3) hN (fun k hk hl => h3 k (by omega) hl)
  exact ⟨gb, A1, c1, rfl, hgb, hg, Kd.N_F (Kd.N_mono (Kd.N_bound hN3) (fun k hk => ⟨by have := hk.1; omega, hk.2⟩)), (Kd.N_reads' hN3).2.1, hbl⟩
set_option maxHeartbeats 8000000 in
set_option maxRecDepth 100000 in
theorem models_any (vars : Nat) (A : Option Addr) (c0 : Nat) (cs : List (List Int)) (w : World) (hC : Kd.C kL w A cs.length cs) (hc0 : cs.length ≤ c0) (hv : vars ≤ 16) (hf : formedB vars cs = true) (hl : cs.length ≤ 5864062014800) (h8 : ∀ c ∈ cs, c.length ≤ 17592186044416) :
    Calls Tryz.prog 61 #[.agg #[.int .i64 vars, .slice A cs.length c0]] w (ModsPost w vars cs) := by
  have HC := Lib.hid hC
  have H8 := Lib.hid h8
  clear hC h8
  obtain ⟨X, hX⟩ : ∃ X, w.alloc (Obj.cells #[.int .i64 vars, .slice A cs.length c0] 24) = X := ⟨_, rfl⟩
  have hbX : Below w.heap.size w X := by rw [← hX]; exact (Below.refl _ _).alloc (Nat.le_refl _) _
  have hnX : X.heap[w.heap.size]? = some (Obj.cells #[.int .i64 vars, .slice A cs.length c0] 24 (0, 0)) := by rw [← hX]; exact World.alloc_heap_new _ _
  have hlX : w.heap.size < X.heap.size := (Array.getElem?_eq_some_iff.1 hnX).1
  have HbX := Lib.hid hbX
  have HnX := Lib.hid hnX
  have HCX := Lib.hid (Kd.C_below HC.out hbX)
  have HcX : Hid (∀ W, Below X.heap.size X W → W.cell? ⟨w.heap.size, 0, none⟩ = some (.int .i64 vars) ∧ W.cell? ⟨w.heap.size, 1, none⟩ = some (.slice A cs.length c0)) := Lib.hid fun W hb => by
    have h2 : W.heap[w.heap.size]? = some (Obj.cells #[.int .i64 vars, .slice A cs.length c0] 24 (0, 0)) := (hb.block _ hlX).trans HnX.out
    constructor <;> (unfold World.cell?; rw [h2]; rfl)
  obtain ⟨hx0, hx1⟩ := HcX.out X (Below.refl _ _)
  have Hf := Lib.hid hf
  have hv0 : ¬ ((vars : Int) > 16) := by omega
  have hv1 : (vars : Int) ≤ 16 := by omega
  clear hbX hnX hf
  have hmx : Tryz.prog.follows .mixedOrders = true := by kernel_rfl
  go_enter Tryz.func61, Tryz.ntmps61
  go_wp2_with (go_at_call 31; refine (cformed_any vars A c0 cs _ (rc_of_C HCX.out) (by omega) (fun c hc => by have := H8.out c hc; omega)).mono ?_; rintro e w1 ⟨rfl, hB1⟩; rw [Hf.out]; obtain ⟨hy0, hy1⟩ := HcX.out w1 hB1; obtain ⟨hz0, hz1⟩ := HcX.out w1.drew (hB1.trans ((Below.refl _ _).drew)); have HB1 := Lib.hid hB1; clear hB1)
  have hbd : Below X.heap.size X w1.drew := HB1.out.trans ((Below.refl _ _).drew)
  have HL := Lib.hid (fun W hb => laid_any A c0 cs W (Kd.C_below HCX.out hb) hl H8.out)
  obtain ⟨V, hV⟩ : ∃ V, (w1.alloc (Obj.cells #[.int .i64 0, .slice none 0 0] 24)).drew = V := ⟨_, rfl⟩
  have hbV : Below w1.heap.size w1 V := by rw [← hV]; exact ((Below.refl _ _).alloc (Nat.le_refl _) _).drew
  have hnV : V.heap[w1.heap.size]? = some (Obj.cells #[.int .i64 0, .slice none 0 0] 24 (0, 0)) := by rw [← hV]; exact World.alloc_heap_new _ _
  have hlV : w1.heap.size < V.heap.size := (Array.getElem?_eq_some_iff.1 hnV).1
  have HbV := Lib.hid hbV
  have HxV := Lib.hid (show Below X.heap.size X V from HB1.out.trans (hbV.mono HB1.out.size))
  have HcV : Hid (∀ W, Below V.heap.size V W → W.cell? ⟨w1.heap.size, 0, none⟩ = some (.int .i64 0) ∧ W.cell? ⟨w1.heap.size, 1, none⟩ = some (.slice none 0 0) ∧ W.frozen? ⟨w1.heap.size, 0, none⟩ = false ∧ W.frozen? ⟨w1.heap.size, 1, none⟩ = false) := Lib.hid fun W hb => by
    have h2 : W.heap[w1.heap.size]? = some (Obj.cells #[.int .i64 0, .slice none 0 0] 24 (0, 0)) := (hb.block _ hlV).trans hnV
    refine ⟨?_, ?_, ?_, ?_⟩ <;> first | (unfold World.cell?; rw [h2]; rfl) | simp [World.frozen?, h2]
  have HnV := Lib.hid hnV
  obtain ⟨hvx0, hvx1⟩ := HcX.out V HxV.out
  obtain ⟨hvq0, hvq1, hvq2, hvq3⟩ := HcV.out V (Below.refl _ _)
  clear hbV hnV
  go_region_with (first
    | (go_at_call 89; refine (HL.out w1.drew hbd).mono ?_; rintro e w2 ⟨v, rfl, hN, hB2⟩; obtain ⟨A1, c1, ev⟩ := Kd.N_slice hN; subst ev; obtain ⟨hr0, hr1⟩ := HcX.out w2 (hbd.trans (hB2.mono hbd.size)); have hr2 : w.heap.size < w2.heap.size := Nat.lt_of_lt_of_le hlX (Nat.le_trans hbd.size hB2.size); have HN := Lib.hid hN; have HB2 := Lib.hid hB2; clear hN hB2)
    | (go_at_call 89; (try rw [hV]); refine (HL.out V HxV.out).mono ?_; rintro e w2 ⟨v, rfl, hN, hB2⟩; obtain ⟨A1, c1, ev⟩ := Kd.N_slice hN; subst ev; obtain ⟨hq0, hq1, hq2, hq3⟩ := HcV.out w2 hB2; obtain ⟨hr0, hr1⟩ := HcX.out w2 (HxV.out.trans (hB2.mono HxV.out.size)); have HN := Lib.hid hN; have HB2 := Lib.hid hB2; clear hN hB2))
  all_goals
    go_wp2
    go_ret
    first
      | (refine mods_fin (w2 := w2) (b := w1.drew.heap.size) (gb := w2.heap.size) HN.out (Nat.le_trans HbX.out.size hbd.size) (fun k hk hl => Below.heap_alloc _ _ _ hl) (by simp) (World.alloc_heap_new _ _) (Nat.le_trans HbX.out.size (Nat.le_trans hbd.size HB2.out.size)) (.inr (Nat.le_refl _)) ?_; exact ((HbX.out.trans (hbd.mono HbX.out.size)).trans (HB2.out.mono (Nat.le_trans HbX.out.size hbd.size))).alloc (Nat.le_trans HbX.out.size (Nat.le_trans hbd.size HB2.out.size)) _)
      | (refine mods_fin (w2 := w2) (b := V.heap.size) (gb := w1.heap.size) HN.out (Nat.le_trans HbX.out.size HxV.out.size) (fun k hk hl => by rw [Below.heap_setCell _ _ _ _ hk, Below.heap_setCell _ _ _ _ hk]) (by simp) ?_ (Nat.le_trans HbX.out.size HB1.out.size) (.inl hlV) ?_
         · have h2 : w2.heap[w1.heap.size]? = some (Obj.cells #[.int .i64 0, .slice none 0 0] 24 (0, 0)) := (HB2.out.block _ hlV).trans HnV.out
           simp [World.setCell, Array.getElem?_modify, h2]
         · exact (((HbX.out.trans (HxV.out.mono HbX.out.size)).trans (HB2.out.mono (Nat.le_trans HbX.out.size HxV.out.size))).setCell (p := ⟨w1.heap.size, 0, none⟩) (Nat.le_trans HbX.out.size HB1.out.size) _).setCell (p := ⟨w1.heap.size, 1, none⟩) (Nat.le_trans HbX.out.size HB1.out.size) _)

end Go.Proofs.YtcaoobdbgdldaaaGreatDoor.Cn
