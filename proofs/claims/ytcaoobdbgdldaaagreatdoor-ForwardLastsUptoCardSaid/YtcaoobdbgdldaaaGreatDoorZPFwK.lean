/- Part of the proof of ForwardLasts: what the law uses of the text FwK. -/
import Derived.Test.YtcaoobdbgdldaaaGreatDoorZPFwJ
import Derived.Test.YtcaoobdbgdldaaaGreatDoorZPFwL
namespace Go.Proofs.YtcaoobdbgdldaaaGreatDoor.Fwd
open Go.RowKit Go.Shelf Go.Maps Go.Proofs.YtcaoobdbgdldaaaGreatDoor.Lit Go.Proofs.YtcaoobdbgdldaaaGreatDoor.Spr
set_option linter.unusedVariables false
set_option linter.unusedSimpArgs false

def RepW (w : World) (x y : Int) (wr : World) : Prop := Below w.heap.size w wr ∧ wr.heap[w.heap.size + 1]? = some (Obj.cells #[.int .i64 x, .int .i64 y] 29 (0, 0))
theorem RepW.step {w : World} {x y : Int} {wr w2 : World} (h : RepW w x y wr) (hb : Below wr.heap.size wr w2) : RepW w x y w2 :=
  ⟨h.1.trans (hb.mono h.1.size), by rw [hb.block _ (Array.getElem?_eq_some_iff.1 h.2).1]; exact h.2⟩
theorem RepW.cell {w : World} {x y : Int} {wr : World} (h : RepW w x y wr) : wr.cell? ⟨w.heap.size + 1, 0, none⟩ = some (.int .i64 x) ∧ wr.cell? ⟨w.heap.size + 1, 1, none⟩ = some (.int .i64 y) ∧ ∀ i, wr.frozen? ⟨w.heap.size + 1, i, none⟩ = false := by
  have h2 := h.2
  refine ⟨?_, ?_, fun i => by simp [World.frozen?, h2]⟩ <;> (unfold World.cell?; rw [h2]; rfl)

theorem RepW.set {w : World} {x y : Int} {wr : World} (h : RepW w x y wr) (x' y' : Int) : RepW w x' y' ((wr.setCell ⟨w.heap.size + 1, 0, none⟩ (.int .i64 x')).setCell ⟨w.heap.size + 1, 1, none⟩ (.int .i64 y')) :=
  ⟨(h.1.setCell (by show w.heap.size ≤ w.heap.size + 1; omega) _).setCell (by show w.heap.size ≤ w.heap.size + 1; omega) _, (blkSet ((blkSet h.2 0 _).trans rfl) 1 _).trans rfl⟩

def CheckPost (w : World) (r : Int × Int × Int) (e : Ending) (w' : World) : Prop := e = .returned (.tuple #[.agg #[.int .i64 r.1, .int .i64 r.2.1], .int .i64 r.2.2]) ∧ Below w.heap.size w w'

set_option maxHeartbeats 8000000 in
set_option maxRecDepth 100000 in
theorem check_any (v : Int) (A : Option Addr) (c0 : Nat) (cs : List (List Int)) (As : Option Addr) (cq : Nat) (l : List (Bool × List Int)) (w : World) (hC : RC w A cs) (hS : SC w As l) (hl : cs.length ≤ 2097152) (h8 : ∀ c ∈ cs, c.length ≤ 2097152) (hll : l.length ≤ 2097152) (h82 : ∀ s ∈ l, s.2.length ≤ 2097152) (hT : Tab w) :
    Calls Tryz.prog 10 #[.agg #[.int .i64 v, .slice A cs.length c0], .slice As l.length cq] w (CheckPost w (checkW v cs l)) := by
  have hB2 : Below w.heap.size w ((w.alloc (.cells #[.int .i64 v, .slice A cs.length c0] 24)).alloc (.cells #[.int .i64 0, .int .i64 0] 29)) := ((Below.refl _ _).alloc (Nat.le_refl _) _).alloc (by simp) _
  have hx0 : ((w.alloc (.cells #[.int .i64 v, .slice A cs.length c0] 24)).alloc (.cells #[.int .i64 0, .int .i64 0] 29)).cell? ⟨w.heap.size, 0, none⟩ = some (.int .i64 v) := by simp
  have hx1 : ((w.alloc (.cells #[.int .i64 v, .slice A cs.length c0] 24)).alloc (.cells #[.int .i64 0, .int .i64 0] 29)).cell? ⟨w.heap.size, 1, none⟩ = some (.slice A cs.length c0) := by simp
  have hR2 : RepW w 0 0 ((w.alloc (.cells #[.int .i64 v, .slice A cs.length c0] 24)).alloc (.cells #[.int .i64 0, .int .i64 0] 29)) := by
    refine ⟨hB2, ?_⟩
    have := heap_alloc_new (w.alloc (.cells #[.int .i64 v, .slice A cs.length c0] 24)) (.cells #[.int .i64 0, .int .i64 0] 29)
    rwa [show (w.alloc (.cells #[.int .i64 v, .slice A cs.length c0] 24)).heap.size = w.heap.size + 1 by simp] at this
  have HN := Lib.hid (new_any v A c0 cs _ (hC.below hB2) hl h8 (hT.below hB2))
  have HT := Lib.hid (Lib.tabBelow_of_tabIs (hT.below hB2))
  have HR2 := Lib.hid hR2
  have HS := Lib.hid (fun k (hk : k < l.length) (w2 : World) (hb : Below w.heap.size w w2) => (hS.below hb) k hk)
  have H8 := Lib.hid (fun k (hk : k < l.length) => show (l.getD k (false, [])).2.length ≤ 2097152 from h82 _ (by rw [List.getD_eq_getElem?_getD, List.getElem?_eq_getElem hk]; exact List.getElem_mem _))
  have HSn := Lib.hid (fun k (hk : k < l.length) => show runW (newW cs) (l.take (k + 1)) = (takeW (runW (newW cs) (l.take k)) (l.getD k (false, [])).1 (l.getD k (false, [])).2).2 by rw [← runW_snoc, List.take_add_one, List.getD_eq_getElem?_getD, List.getElem?_eq_getElem hk]; rfl)
  have HOn := Lib.hid (fun h => steps_on (newW cs) 0 l h)
  have HSt := Lib.hid (fun k hk h hs => steps_stop (newW cs) 0 l k hk h hs)
  have HAm := Lib.hid (fun k => (AM.new cs).run (l.take k))
  unfold CheckPost checkW
  unfold NewPost at HN
  clear hC hS h8 h82 hT hB2 hR2
  generalize hp : formedB v cs = p at *
  clear hp
  generalize hn : l.length = n at *
  clear hn
  generalize hnc : cs.length = nc at *
  clear hnc
  generalize newW cs = F0 at *
  cases p with
  | false =>
    simp only [Bool.false_eq_true, ↓reduceIte] at HN ⊢
    have hc20 := HR2.out.cell.1
    have hc21 := HR2.out.cell.2.1
    go_enter Tryz.func10, Tryz.ntmps10
    go_wp2_with (first
      | (go_at_call 18; refine HN.out.mono ?_; rintro e w3 ⟨rfl, hb⟩; have HR3 := Lib.hid (HR2.out.step hb); obtain ⟨hc30, hc31, hf3⟩ := HR3.out.cell; have hf30 := hf3 0; have hf31 := hf3 1; clear hf3 hb))
    have HF := HR3.out.set 0 0
    obtain ⟨hz0, hz1, _⟩ := HF.cell
    refine bodyPost_ret (v := .tuple #[.agg #[.int .i64 0, .int .i64 0], .int .i64 1]) (by simp [results, Tryz.results10, go_sem, hz0, hz1]) rfl ⟨rfl, HF.1⟩
  | true =>
    simp only [↓reduceIte] at HN ⊢
    generalize hW2 : (w.alloc (.cells #[.int .i64 v, .slice A nc c0] 24)).alloc (.cells #[.int .i64 0, .int .i64 0] 29) = W2 at HT HR2 HN
    rw [hW2] at hx0 hx1
    have HW2 := Lib.hid hW2
    subst hW2
    go_enter Tryz.func10, Tryz.ntmps10
    go_wp2_with (first
      | (go_at_call 18; refine HN.out.mono ?_; rintro e w3 ⟨b, m, rfl, hr⟩; have HI := Lib.hid hr; clear hr))
    go_loopw [22] (fun i wr => ∃ k : Nat, k ≤ n ∧ i = .int .i64 k ∧ FwR ((w.alloc (.cells #[.int .i64 v, .slice A nc c0] 24)).alloc (.cells #[.int .i64 0, .int .i64 0] 29)) ((w.alloc (.cells #[.int .i64 v, .slice A nc c0] 24)).alloc (.cells #[.int .i64 0, .int .i64 0] 29)).heap.size b m (nc + k) (runW F0 (l.take k)) wr ∧ Hid (∀ j, j < k → (takeW (runW F0 (l.take j)) (l.getD j (false, [])).1 (l.getD j (false, [])).2).1 = 0)) (fun i _ => n - (intOf i).toNat)
    case atStart => exact ⟨0, Nat.zero_le _, rfl, HI.out, fun j hj => absurd hj (by omega)⟩
    case round =>
      obtain ⟨k, hk, rfl, hr, hz⟩ := hrel
      have HRp := Lib.hid (HR2.out.step hr.base)
      by_cases hlt : k < n
      · obtain ⟨ad, A1, c1, hA, hx, hy, hic⟩ := HS.out k hlt _ HRp.out.1
        subst hA
        have h8k := H8.out k hlt
        have hBk : Below wr.heap.size wr (wr.alloc (.cells #[.bool (l.getD k (false, [])).1, .slice A1 (l.getD k (false, [])).2.length c1] 42)) := (Below.refl _ _).alloc (Nat.le_refl _) _
        have HTk := Lib.hid (take_any _ _ b m (nc + k) (runW F0 (l.take k)) (l.getD k (false, [])).1 A1 c1 (l.getD k (false, [])).2 _ (hr.step hBk) (hic.below hBk) (by omega) HT.out (by omega) (HAm.out k))
        have HSk := Lib.hid (HSn.out k hlt)
        have HStk := Lib.hid (HSt.out k hlt hz.out)
        have HZ := Lib.hid hz.out
        clear hr hic hBk
        unfold TakePost at HTk
        have HC0' := Lib.hid (fun (h : (takeW (runW F0 (l.take k)) (l.getD k (false, [])).1 (l.getD k (false, [])).2).1 = 0) => h)
        generalize hs : l.getD k (false, []) = s at *
        have HSs := Lib.hid hs
        clear hs
        obtain ⟨d, c⟩ := s
        dsimp only at *
        generalize hrr : takeW (runW F0 (l.take k)) d c = r at *
        have HRr := Lib.hid hrr
        clear hrr HC0'
        obtain ⟨r1, r2⟩ := r
        dsimp only at *
        generalize hcl : c.length = nl at *
        have HCl := Lib.hid hcl
        clear hcl
        by_cases hr0 : r1 = 0
        · subst hr0
          clear HStk
          go_wp2_with (first
            | (go_at_call 38; refine HTk.out.mono ?_; rintro e w6 ⟨rfl, hr6⟩; have HI6 := Lib.hid hr6; have HR6 := Lib.hid (HR2.out.step hr6.base); obtain ⟨hc60, hc61, hf6⟩ := HR6.out.cell; have hf60 := hf6 0; have hf61 := hf6 1; clear hr6 hf6))
          go_roundw
          case rel =>
            refine ⟨k + 1, by omega, by go_num, by rw [HSk.out]; exact HI6.out, fun j hj => ?_⟩
            rcases Nat.lt_or_ge j k with h | h
            · exact HZ.out j h
            · obtain rfl : j = k := by omega
              rw [HSs.out]; show (takeW (runW F0 (l.take j)) d c).1 = 0; rw [HRr.out]
          case measure => simp [intOf]; omega
        · have hrb : (r1 != 0) = true := by simpa using hr0
          have HE := Lib.hid (HStk.out hr0)
          clear HStk
          go_wp2_with (first
            | (go_at_call 38; refine HTk.out.mono ?_; rintro e w6 ⟨rfl, hr6⟩; have HI6 := Lib.hid hr6; have HR6 := Lib.hid (HR2.out.step hr6.base); obtain ⟨hc60, hc61, hf6⟩ := HR6.out.cell; have hf60 := hf6 0; have hf61 := hf6 1; clear hr6 hf6))
          have HF := HR6.out.set r1 k
          obtain ⟨hz0, hz1, _⟩ := HF.cell
          refine bodyPost_ret (v := .tuple #[.agg #[.int .i64 r1, .int .i64 k], .int .i64 0]) (by simp [results, Tryz.results10, go_sem, hz0, hz1]) rfl ⟨by rw [HE.out, Nat.zero_add], HF.1⟩
      · obtain rfl : k = n := by omega
        have HO := Lib.hid (HOn.out hz.out)
        obtain ⟨hc30, hc31, hf3⟩ := HRp.out.cell
        have hf30 := hf3 0
        have hf31 := hf3 1
        clear hr hf3
        go_wp2
        have HF := HRp.out.set 4 k
        obtain ⟨hz0, hz1, _⟩ := HF.cell
        refine bodyPost_ret (v := .tuple #[.agg #[.int .i64 4, .int .i64 k], .int .i64 0]) (by simp [results, Tryz.results10, go_sem, hz0, hz1]) rfl ⟨?_, HF.1⟩
        have e := HO.out
        rw [e, Nat.zero_add]

end Go.Proofs.YtcaoobdbgdldaaaGreatDoor.Fwd
