/- Part of the proof of AtmostForces: what the law uses of the text AtC. -/
import Derived.Test.YtcaoobdbgdldaaaZPAtB
namespace Go.Proofs.Ytcaoobdbgdldaaa.Spr
open Go.RowKit Go.Maps Go.Proofs.Ytcaoobdbgdldaaa.Lit Go.Proofs.YtcaoobdbgdldaaaW.PrintWords
set_option linter.unusedVariables false
set_option linter.unusedSimpArgs false

def PutR (w0 : World) (base cb N : Nat) (cs : List (List Int)) (wr : World) : Prop :=
  ∃ v, wr.heap[cb]? = some (.cells #[v] 25 (0, 0)) ∧ Kd.S (Kd.slice 3 (Kd.int .i64)) 22 wr base (fun k => k ≠ cb) v cs ∧ Below base w0 wr ∧ base ≤ cb ∧ cs.length ≤ N
theorem PutR.drewN {w0 : World} {base cb N : Nat} {cs : List (List Int)} {wr : World} (h : PutR w0 base cb N cs wr) (m : Nat) : PutR w0 base cb N cs (wr.drewN m) := by
  obtain ⟨v, h1, h2, h3, h4, h5⟩ := h
  exact ⟨v, by simpa using h1, Kd.S_drewN h2 m, below_drewN h3 m, h4, h5⟩
theorem PutR.more {w0 : World} {base cb N M : Nat} {cs : List (List Int)} {wr : World} (h : PutR w0 base cb N cs wr) (hN : N ≤ M) : PutR w0 base cb M cs wr := by
  obtain ⟨v, h1, h2, h3, h4, h5⟩ := h
  exact ⟨v, h1, h2, h3, h4, by omega⟩
theorem PutR.init {w0 w : World} {base : Nat} (hb : Below base w0 w) (hbase : base ≤ w.heap.size) : PutR w0 base w.heap.size 0 [] (w.alloc (.cells #[.slice none 0 0] 25)) :=
  ⟨.slice none 0 0, heap_alloc_new w _, Kd.S_nil _ _ _ _ _, hb.alloc hbase _, hbase, Nat.le_refl _⟩

theorem infoCl : (Try.prog.info? 22).map (fun i => (i.zero, i.size, i.bytes)) = some (some (.slice none 0 0), 1, 24) := by kernel_rfl

set_option maxHeartbeats 4000000 in
set_option maxRecDepth 100000 in
theorem cput_any {w0 : World} {base cb N : Nat} {cs : List (List Int)} {wr : World} (hP : PutR w0 base cb N cs wr) (hN : N ≤ 1000000) (hbw : base ≤ wr.heap.size) (xs : List Int) (cells : Array Value) (hc : cells = (ints .i64 xs).toArray) (n : Nat) (hn : n = xs.length) (h0 : 0 < n) (hl : n ≤ 1000) :
    Calls Try.prog 20 #[.slice (some ⟨wr.heap.size, 0, none⟩) n n, .pointer (some ⟨cb, 0, none⟩)] (wr.alloc (.cells cells 3)) fun e w' => e = .returned (.tuple #[]) ∧ PutR w0 base cb (N + 1) (cs ++ [xs]) w' := by
  obtain ⟨v, h1, h2, h3, h4, h5⟩ := hP
  subst hc hn
  have hlt : cb < wr.heap.size := (Array.getElem?_eq_some_iff.1 h1).1
  have hblk : (wr.alloc (.cells (ints .i64 xs).toArray 3)).heap[cb]? = some (.cells #[v] 25 (0, 0)) := (heap_alloc_old wr _ hlt).trans h1
  have hcell : (wr.alloc (.cells (ints .i64 xs).toArray 3)).cell? ⟨cb, 0, none⟩ = some v := by
    unfold World.cell?
    rw [hblk]
    rfl
  -- the new row
  have hown : (wr.alloc (.cells (ints .i64 xs).toArray 3)).ownsRow base 3 1 (.slice (some ⟨wr.heap.size, 0, none⟩) xs.length xs.length) xs.length (encs (Value.int .i64) xs) :=
    ⟨by rw [encs_length, Nat.mul_one], .inr ⟨wr.heap.size, xs.length, _, rfl, hbw, heap_alloc_new wr _, Nat.le_refl _, by unfold maxLen; omega, by simp [ints], by rw [Nat.mul_one]; exact List.take_of_length_le (by simp [ints])⟩⟩
  have hrow : Kd.R (Kd.int .i64) 3 (wr.alloc (.cells (ints .i64 xs).toArray 3)) base (fun k => some k = (Value.slice (some ⟨wr.heap.size, 0, none⟩) xs.length xs.length).ownBlock) (.slice (some ⟨wr.heap.size, 0, none⟩) xs.length xs.length) xs := Kd.R_of_own hown (fun k hk => hk.symm)
  have hS : Kd.S (Kd.slice 3 (Kd.int .i64)) 22 (wr.alloc (.cells (ints .i64 xs).toArray 3)) base (fun k => k ≠ cb ∧ ¬ (some k = (Value.slice (some ⟨wr.heap.size, 0, none⟩) xs.length xs.length).ownBlock)) v cs := by
    refine Kd.S_mono (Kd.S_alloc (Kd.S_bound h2) _) (fun k hk => ⟨hk.1, fun e => ?_⟩)
    simp only [Value.ownBlock, Option.some.injEq] at e
    have := hk.2.2.1
    omega
  have HB := Lib.hid (show Below base w0 (wr.alloc (.cells (ints .i64 xs).toArray 3)) from h3.alloc hbw _)
  have hbw2 : base ≤ (wr.alloc (.cells (ints .i64 xs).toArray 3)).heap.size := by simp; omega
  have hwlt : wr.heap.size < (wr.alloc (.cells (ints .i64 xs).toArray 3)).heap.size := by simp
  have hclt : cb < (wr.alloc (.cells (ints .i64 xs).toArray 3)).heap.size := by simp; omega
  have HR := Lib.hid hrow
  have HS := Lib.hid hS
  have HK := Lib.hid hblk
  clear h1 h2 h3 hown hrow hS hblk
  generalize wr.alloc (.cells (ints .i64 xs).toArray 3) = W at *
  generalize wr.heap.size = g at *
  go_enter Try.func20, Try.ntmps20
  go_wp2_with (first
    | (at_builtin; refine Kd.S_append (Kd.slice 3 (Kd.int .i64)) (w0 := w0) (W := W) base rfl (.tmp 3) (.tmp 5) 25 22 (.slice none 0 0) 24 rfl Try.underlying25 infoCl rfl (by decide) (by omega) v cs xs [.slice (some ⟨g, 0, none⟩) xs.length xs.length] (fun k => k ≠ cb) (fun k => some k = (Value.slice (some ⟨g, 0, none⟩) xs.length xs.length).ownBlock) rfl rfl (Kd.M_row (Kd.R_mono HR.out (fun _ h => h))) ?x5 ?x6 HS.out HB.out hbw2 (by omega) ?x11; (case x5 => intro k hk; obtain rfl : k = g := (by simpa [Value.ownBlock] using hk); exact ⟨by omega, fun e => ((Kd.S_R HS.out).1 k e.symm).2 rfl⟩); (case x6 => intro k hk; omega); intro v1 w1 ho hb hg hat; obtain ⟨A1, k1, rfl⟩ := Kd.S_slice ho; have HS1 := Lib.hid ho; have HB1 := Lib.hid hb; have HK1 := Lib.hid ((hg.block cb hclt (fun e => ((Kd.S_R HS.out).1 cb e.symm).1 rfl)).trans HK.out); have hcell1 : w1.cell? ⟨cb, 0, none⟩ = some v := (by unfold World.cell?; rw [HK1.out]; rfl); have hfz1 := blk_frozen HK1.out 0; clear ho hb hg hat))
  refine bodyPost_end (results_none rfl _ _ _) rfl ?_
  have HS2 := HS1.out
  have e : (cs ++ [xs]).length = cs.length + 1 := by simp
  rw [e] at HS2
  exact ⟨rfl, _, (blk_set HK1.out 0 _).trans rfl, Kd.S_far HS2 (p := ⟨cb, 0, none⟩) (fun k hk => hk) _, HB1.out.setCell (p := ⟨cb, 0, none⟩) h4 _, h4, by rw [e]; omega⟩

end Go.Proofs.Ytcaoobdbgdldaaa.Spr
