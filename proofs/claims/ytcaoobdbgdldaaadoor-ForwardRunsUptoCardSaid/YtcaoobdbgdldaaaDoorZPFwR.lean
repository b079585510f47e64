/- Part of the proof of ForwardRuns: what the law uses of the text FwR. -/
import Derived.Test.YtcaoobdbgdldaaaDoorZPFwO
import Derived.Deep.DeepCutAuto
import Derived.Deep.CutBlock
import Derived.Deep.RegionHeld3
namespace Go.Proofs.YtcaoobdbgdldaaaDoor.Fwd
open Go.RowKit Go.Shelf Go.Maps Go.Proofs.YtcaoobdbgdldaaaDoor.Lit Go.Proofs.YtcaoobdbgdldaaaDoor.Spr Go.Proofs.YtcaoobdbgdldaaaDoor.P Go.Proofs.YtcaoobdbgdldaaaDoorW.PrintWords Go.Proofs.YtcaoobdbgdldaaaDoorW.PrintLast
set_option linter.unusedVariables false
set_option linter.unusedSimpArgs false

theorem heap37 : Kd.Heap k37 := Kd.heap_iso _ (Kd.heap_pair Kd.heap_bool (Kd.heap_slice _ (Kd.heap_int _)))

def CpPost (w2 : World) (l : List S37) (e : Ending) (w' : World) : Prop := ∃ vv, e = .returned vv ∧ Kd.N k37 37 w' w2.heap.size (fun _ => True) vv l ∧ Below w2.heap.size w2 w'
theorem cp_any (A : Option Addr) (c : Nat) (l : List S37) (w : World) (h : Kd.C k37 w A l.length l) (hc : l.length ≤ c) (hl : l.length ≤ 2097152) (h8 : ∀ s ∈ l, s.f1.length ≤ 2097152) :
    Calls Tryd.prog 11 #[.slice A l.length c] w (CpPost w l) := by
  obtain ⟨k, hk⟩ := (Ev.rounds (Rf.copySteps l (by omega) (fun s hs => by have := h8 s hs; omega)) : ∃ k, _)
  refine (P.depotref00_CopySteps.calls k A c l l w h hc hk).mono fun e w' ⟨v, he, hr, hb⟩ => ⟨v, he, Kd.S_N hr, hb⟩

structure RFits (cs : List (List Int)) (l m : List S37) : Prop where
  cl : cs.length ≤ 1048576
  c8 : ∀ c ∈ cs, c.length ≤ 1048576
  ll : l.length ≤ 1048576
  l8 : ∀ s ∈ l, s.f1.length ≤ 1048576
  ml : m.length ≤ 1048576
  m8 : ∀ s ∈ m, s.f1.length ≤ 1048576
def stp (l : List S37) : List (Bool × List Int) := l.map fun s => (s.f0, s.f1)
theorem stp_len (l : List S37) : (stp l).length = l.length := List.length_map _
theorem stp_app (l m : List S37) : stp (l ++ m) = stp l ++ stp m := List.map_append
theorem stp_8 {l : List S37} {n : Nat} (h : ∀ s ∈ l, s.f1.length ≤ n) : ∀ s ∈ stp l, s.2.length ≤ n := fun s hs => by
  obtain ⟨x, hx, rfl⟩ := List.mem_map.1 hs
  exact h x hx

set_option maxHeartbeats 8000000 in
set_option maxRecDepth 100000 in
theorem runs_no (v : Int) (A : Option Addr) (c0 : Nat) (cs : List (List Int)) (As : Option Addr) (cq : Nat) (l : List S37) (Am : Option Addr) (cm : Nat) (more : List S37) (w : World) (hC : RC w A cs) (hS : Kd.C k37 w As l.length l) (hS0 : l.length ≤ cq) (hM : Kd.C k37 w Am more.length more) (hM0 : more.length ≤ cm) (hF : RFits cs l more) (hT : Tab w) (hp : formedB v cs = false) :
    Calls Tryd.prog 3 #[.agg #[.int .i64 v, .slice A cs.length c0], .slice As l.length cq, .slice Am more.length cm] w fun e w' => e = .returned (.bool true) ∧ Below w.heap.size w w' := by
  have HW := Lib.hid (FBox.init w v (.slice A cs.length c0))
  obtain ⟨hc0, hc1, hc2⟩ := HW.out.cell
  have HA := Lib.hid (fun (w2 : World) (hb : Below w.heap.size w w2) => awake_any w2 (hT.below hb))
  have HCk := Lib.hid (fun (w2 : World) (hb : Below w.heap.size w w2) => show Calls Tryd.prog 6 #[.agg #[.int .i64 v, .slice A cs.length c0], .slice As l.length cq] w2 (CheckPost w2 (0, 0, 1)) from by
    have := check_any v A c0 cs As cq (stp l) w2 (hC.below hb) (sc_of_C (Kd.C_below hS hb)) (by have := hF.cl; omega) (fun c hc => by have := hF.c8 c hc; omega) (by rw [stp_len]; have := hF.ll; omega) (fun s hs => by have := stp_8 hF.l8 s hs; omega) (hT.below hb)
    rw [stp_len] at this
    unfold checkW at this
    rw [if_neg (by rw [hp]; decide)] at this
    exact this)
  have HN := Lib.hid (fun (w2 : World) (hb : Below w.heap.size w w2) => show Calls Tryd.prog 7 #[.agg #[.int .i64 v, .slice A cs.length c0]] w2 (fun e w' => e = .returned (.tuple #[.pointer none, .int .i64 1]) ∧ Below w2.heap.size w2 w') from by
    have := new_any v A c0 cs w2 (hC.below hb) (by have := hF.cl; omega) (fun c hc => by have := hF.c8 c hc; omega) (hT.below hb)
    unfold NewPost at this
    simp only [hp, Bool.false_eq_true, ↓reduceIte] at this
    exact this)
  clear hC hS hM hF hT hp hS0 hM0
  generalize cs.length = nc at *
  generalize l.length = n at *
  generalize more.length = nm at *
  unfold CheckPost at HCk
  go_enter Tryd.func3, Tryd.ntmps3
  go_wp2_with (first
    | (go_at_call 5; refine (HA.out _ HW.out.below).mono ?_; rintro e w2 ⟨rfl, hb⟩; have HW2 := Lib.hid (HW.out.step hb); clear hb; obtain ⟨hc20, hc21, hc22⟩ := HW2.out.cell)
    | (go_at_call 6; refine (HCk.out _ HW2.out.below).mono ?_; rintro e w3 ⟨rfl, hb⟩; have HW3 := Lib.hid (HW2.out.step hb); clear hb; obtain ⟨hc30, hc31, hc32⟩ := HW3.out.cell; have HR3 := Lib.hid (Rep2.new w3 0 0); have HW4 := Lib.hid (HW3.out.step ((Below.refl _ _).alloc (Nat.le_refl _) _) : FBox w v (.slice A nc c0) (w3.alloc (.cells #[.int .i64 0, .int .i64 0] 28))); obtain ⟨hc40, hc41, hc42⟩ := HW4.out.cell)
    | (go_at_call 7; refine (HN.out _ HW4.out.below).mono ?_; rintro e w5 ⟨rfl, hb⟩; have HW5 := Lib.hid (HW4.out.step hb); clear hb))
  go_ret
  exact ⟨rfl, HW5.out.below⟩

theorem sc_stp {w : World} {A : Option Addr} {l : List S37} (h : Kd.C k37 w A l.length l) : SC w A (stp l) := sc_of_C h
def Going (W4 : World) (b m nc k : Nat) (F0 : Fw) (L : List (Bool × List Int)) (bw n : Nat) (wr : World) : Prop := Rep2 bw 4 n wr ∧ FwR W4 W4.heap.size b m (nc + k) (runW F0 (L.take k)) wr ∧ ∀ j, j < k → (takeW (runW F0 (L.take j)) (L.getD j (false, [])).1 (L.getD j (false, [])).2).1 = 0
def EndR (w : World) (v : Int) (sl : Value) (ba bw : Nat) (x y : Int) (wx : World) : Prop := FBox w v sl wx ∧ Rep2 ba x y wx ∧ Rep2 bw x y wx

set_option maxHeartbeats 16000000 in
set_option maxRecDepth 100000 in
theorem runs_yes (v : Int) (A : Option Addr) (c0 : Nat) (cs : List (List Int)) (As : Option Addr) (cq : Nat) (l : List S37) (Am : Option Addr) (cm : Nat) (more : List S37) (w : World) (hC : RC w A cs) (hS : Kd.C k37 w As l.length l) (hS0 : l.length ≤ cq) (hM : Kd.C k37 w Am more.length more) (hM0 : more.length ≤ cm) (hF : RFits cs l more) (hT : Tab w) (hp : formedB v cs = true) :
    Calls Tryd.prog 3 #[.agg #[.int .i64 v, .slice A cs.length c0], .slice As l.length cq, .slice Am more.length cm] w fun e w' => e = .returned (.bool true) ∧ Below w.heap.size w w' := by
  have HW := Lib.hid (FBox.init w v (.slice A cs.length c0))
  obtain ⟨hc0, hc1, hc2⟩ := HW.out.cell
  have HA := Lib.hid (fun (w2 : World) (hb : Below w.heap.size w w2) => awake_any w2 (hT.below hb))
  have HTb := Lib.hid (fun (w2 : World) (hb : Below w.heap.size w w2) => Lib.tabBelow_of_tabIs (hT.below hb))
  have HCk := Lib.hid (fun (w2 : World) (hb : Below w.heap.size w w2) => show Calls Tryd.prog 6 #[.agg #[.int .i64 v, .slice A cs.length c0], .slice As l.length cq] w2 (CheckPost w2 ((stepsW (newW cs) 0 (stp l)).1, (stepsW (newW cs) 0 (stp l)).2, 0)) from by
    have := check_any v A c0 cs As cq (stp l) w2 (hC.below hb) (sc_of_C (Kd.C_below hS hb)) (by have := hF.cl; omega) (fun c hc => by have := hF.c8 c hc; omega) (by rw [stp_len]; have := hF.ll; omega) (fun s hs => by have := stp_8 hF.l8 s hs; omega) (hT.below hb)
    rw [stp_len] at this
    unfold checkW at this
    rw [if_pos hp] at this
    exact this)
  have HCm := Lib.hid (fun (w2 : World) (hb : Below w.heap.size w w2) (A2 : Option Addr) (c2 : Nat) (N2 : Nat) (h2 : Kd.C k37 w2 A2 (l ++ more).length (l ++ more)) (hN2 : (l ++ more).length = N2) => show Calls Tryd.prog 6 #[.agg #[.int .i64 v, .slice A cs.length c0], .slice A2 N2 c2] w2 (CheckPost w2 ((stepsW (newW cs) 0 (stp (l ++ more))).1, (stepsW (newW cs) 0 (stp (l ++ more))).2, 0)) from by
    have := check_any v A c0 cs A2 c2 (stp (l ++ more)) w2 (hC.below hb) (sc_of_C h2) (by have := hF.cl; omega) (fun c hc => by have := hF.c8 c hc; omega) (by rw [stp_len, List.length_append]; have := hF.ll; have := hF.ml; omega) (fun s hs => by
      have : s.2.length ≤ 1048576 := stp_8 (l := l ++ more) (fun x hx => (List.mem_append.1 hx).elim (hF.l8 x) (hF.m8 x)) s hs
      omega) (hT.below hb)
    rw [stp_len, hN2] at this
    unfold checkW at this
    rw [if_pos hp] at this
    exact this)
  have HN := Lib.hid (fun (w2 : World) (hb : Below w.heap.size w w2) => show Calls Tryd.prog 7 #[.agg #[.int .i64 v, .slice A cs.length c0]] w2 (fun e w' => ∃ b m, e = .returned (.tuple #[.pointer (some ⟨b, 0, none⟩), .int .i64 0]) ∧ FwR w2 w2.heap.size b m cs.length (newW cs) w') from by
    have := new_any v A c0 cs w2 (hC.below hb) (by have := hF.cl; omega) (fun c hc => by have := hF.c8 c hc; omega) (hT.below hb)
    unfold NewPost at this
    simp only [hp, ↓reduceIte] at this
    exact this)
  have HCp := Lib.hid (fun (w2 : World) (hb : Below w.heap.size w w2) => cp_any As cq l w2 (Kd.C_below hS hb) hS0 (by have := hF.ll; omega) (fun s hs => by have := hF.l8 s hs; omega))
  have HMo := Lib.hid (Kd.C_F heap37 hM)
  have hnl := hF.ll
  have hnm := hF.ml
  have hncl := hF.cl
  have HS := Lib.hid (fun k (hk : k < l.length) (w2 : World) (hb : Below w.heap.size w w2) => (sc_stp (Kd.C_below hS hb)) k (by rw [stp_len]; exact hk))
  have H8 := Lib.hid (fun k (hk : k < l.length) => show ((stp l).getD k (false, [])).2.length ≤ 1048576 from stp_8 hF.l8 _ (by rw [List.getD_eq_getElem?_getD, List.getElem?_eq_getElem (by rw [stp_len]; exact hk)]; exact List.getElem_mem _))
  have HSn := Lib.hid (fun k (hk : k < l.length) => show runW (newW cs) ((stp l).take (k + 1)) = (takeW (runW (newW cs) ((stp l).take k)) ((stp l).getD k (false, [])).1 ((stp l).getD k (false, [])).2).2 by rw [← runW_snoc, List.take_add_one, List.getD_eq_getElem?_getD, List.getElem?_eq_getElem (by rw [stp_len]; exact hk)]; rfl)
  have HOn := Lib.hid (show (∀ j, j < l.length → (takeW (runW (newW cs) ((stp l).take j)) ((stp l).getD j (false, [])).1 ((stp l).getD j (false, [])).2).1 = 0) → stepsW (newW cs) 0 (stp l) = (4, (l.length : Int)) from fun h => by
    have := steps_on (newW cs) 0 (stp l) (fun j hj => h j (by rwa [stp_len] at hj))
    rw [stp_len, Nat.zero_add] at this
    exact this)
  have HSt := Lib.hid (fun k (hk : k < l.length) h hs => show stepsW (newW cs) 0 (stp l) = ((takeW (runW (newW cs) ((stp l).take k)) ((stp l).getD k (false, [])).1 ((stp l).getD k (false, [])).2).1, (k : Int)) from by
    have := steps_stop (newW cs) 0 (stp l) k (by rw [stp_len]; exact hk) h hs
    rw [Nat.zero_add] at this
    exact this)
  have HAm := Lib.hid (fun k => (AM.new cs).run ((stp l).take k))
  have HDn := Lib.hid (fun k (hk : k ≤ l.length) h => run_done (new_done cs) (stp l) k (by rw [stp_len]; exact hk) h)
  have HAp := Lib.hid (show (stepsW (newW cs) 0 (stp l)).1 ≠ 4 → stepsW (newW cs) 0 (stp (l ++ more)) = stepsW (newW cs) 0 (stp l) from fun h => by rw [stp_app]; exact steps_app (stp more) (stp l) (newW cs) 0 h)
  unfold CheckPost at HCk HCm
  unfold CpPost at HCp
  clear hC hS hM hF hT hp hS0 hM0
  generalize hnc : cs.length = nc at *
  clear hnc
  generalize newW cs = F0 at *
  generalize hL : stp l = L at *
  generalize hL2 : stp (l ++ more) = L2 at *
  clear hL hL2
  generalize hR : stepsW F0 0 L = R at *
  have HR := Lib.hid hR
  clear hR
  obtain ⟨r1, r2⟩ := R
  generalize stepsW F0 0 L2 = R2 at *
  obtain ⟨s1, s2⟩ := R2
  dsimp only at *
  generalize hn : l.length = n at *
  have HLn := Lib.hid hn
  clear hn
  generalize hm : more.length = nm at *
  have HLm := Lib.hid hm
  clear hm
  go_enter Tryd.func3, Tryd.ntmps3
  go_upto_block 0 with (first
    | (go_at_call 5; refine (HA.out _ HW.out.below).mono ?_; rintro e w2 ⟨rfl, hb⟩; have HW2 := Lib.hid (HW.out.step hb); clear hb; obtain ⟨hc20, hc21, hc22⟩ := HW2.out.cell)
    | (go_at_call 6; refine (HCk.out _ HW2.out.below).mono ?_; rintro e w3 ⟨rfl, hb⟩; have HW3 := Lib.hid (HW2.out.step hb); clear hb; obtain ⟨hc30, hc31, hc32⟩ := HW3.out.cell; have HR4 := Lib.hid (Rep2.new w3 r1 r2); have HW4 := Lib.hid (HW3.out.step ((Below.refl _ _).alloc (Nat.le_refl _) _) : FBox w v (.slice A nc c0) (w3.alloc (.cells #[.int .i64 r1, .int .i64 r2] 28))); obtain ⟨hc40, hc41, hc42⟩ := HW4.out.cell)
    | (go_at_call 7; refine (HN.out _ HW4.out.below).mono ?_; rintro e w5 ⟨b, m, rfl, hr⟩; have HI := Lib.hid hr; have HW5 := Lib.hid (HW4.out.keep (hr.base.mono HW4.out.below.size) hr.kp); have HR5 := Lib.hid (HR4.out.keep hr.kp); clear hr))
  have HRw0 := Lib.hid (Rep2.new w5 4 n)
  have HAl5 := Lib.hid ((Below.refl w5.heap.size w5).alloc (Nat.le_refl _) (.cells #[.int .i64 4, .int .i64 n] 28))
  have HW6 := Lib.hid (HW5.out.step HAl5.out)
  have HR6 := Lib.hid (HR5.out.step HAl5.out)
  have HI6 := Lib.hid (HI.out.step HAl5.out)
  have HTb4 := Lib.hid (HTb.out _ HW4.out.below)
  have hbb : w.heap.size < w3.heap.size := HW3.out.cell.2.2
  have hbw : w3.heap.size < w5.heap.size := HR5.out.lt
  have HB4 := Lib.hid (show w.heap.size ≤ (w3.alloc (.cells #[.int .i64 r1, .int .i64 r2] 28)).heap.size from HW4.out.below.size)
  generalize w3.alloc (.cells #[.int .i64 r1, .int .i64 r2] 28) = W4 at HTb4 HB4 HI6
  generalize w5.alloc (.cells #[.int .i64 4, .int .i64 n] 28) = W6 at *
  generalize hba : w3.heap.size = ba at *
  generalize hbwe : w5.heap.size = bw at *
  clear HA HCk HN HTb HI HW4 HR4 HW3 HW2 HW HW5 HR5 HAl5 hc0 hc1 hc2 hc20 hc21 hc22 hc30 hc31 hc32 hc40 hc41 hc42 hba hbwe
  go_cut [12, 13, 14] (fun _ _ _ wx => EndR w v (.slice A nc c0) ba bw r1 r2 wx)
  case first =>
    go_wp2_with (fail)
    go_loopw [12] (fun i wr => ∃ k : Nat, k ≤ n ∧ i = .int .i64 k ∧ FBox w v (.slice A nc c0) wr ∧ Rep2 ba r1 r2 wr ∧ (Going W4 b m nc k F0 L bw n wr ∨ (r1 ≠ 4 ∧ Rep2 bw r1 r2 wr))) (fun i _ => n - (intOf i).toNat)
    case atStart => exact ⟨0, Nat.zero_le _, rfl, HW6.out, HR6.out, .inl ⟨HRw0.out, HI6.out, fun j hj => absurd hj (by omega)⟩⟩
    case round =>
      obtain ⟨k, hk, rfl, hfb, hra, hgo⟩ := hrel
      have HFB := Lib.hid hfb
      have HRa := Lib.hid hra
      clear hfb hra
      rcases hgo with ⟨hrw, hr, hz⟩ | ⟨hr1, hrw⟩
      · have HRw := Lib.hid hrw
        obtain ⟨hw0, hw1, hw2, hw3⟩ := HRw.out.cell
        clear hrw
        by_cases hlt : k < n
        · obtain ⟨ad, A1, c1, hA, hx, hy, hic⟩ := HS.out k hlt _ HFB.out.below
          have HX := Lib.hid (show ∀ w2, Below w.heap.size w w2 → w2.cell? (ad.add (k * 2)) = some (.bool (L.getD k (false, [])).1) from fun w2 hb => by
            obtain ⟨ad', _, _, e, h, _⟩ := HS.out k hlt w2 hb
            rw [hA] at e
            injection e with e
            subst e
            exact h)
          subst hA
          have h8k := H8.out k hlt
          have HD := Lib.hid (drop_any wr _ b m (nc + k) (runW F0 (L.take k)) A1 c1 (L.getD k (false, [])).2 wr hr.rebase hic (by omega) (HTb4.out.on hr.base) (by omega) (HAm.out k))
          have HAd := Lib.hid (add_any wr _ b m (nc + k) (runW F0 (L.take k)) A1 c1 (L.getD k (false, [])).2 wr hr.rebase hic (by omega) (HTb4.out.on hr.base) (by omega))
          have hda := dropW_cases (runW F0 (L.take k)) (L.getD k (false, [])).2
          have haa := addW_cases (runW F0 (L.take k)) (L.getD k (false, [])).2
          have HSk := Lib.hid (HSn.out k hlt)
          have HStk := Lib.hid (HSt.out k hlt hz)
          have HZ := Lib.hid hz
          have HFd := Lib.hid (HDn.out k hk hz)
          have HK := Lib.hid hr
          clear hr hic hz
          generalize hs : L.getD k (false, []) = s at *
          have HSs := Lib.hid hs
          clear hs
          obtain ⟨d, c⟩ := s
          dsimp only at *
          generalize hF : runW F0 (L.take k) = F at *
          have HF := Lib.hid hF
          clear hF
          unfold DropPost at HD
          unfold AddPost at HAd
          have HDt := Lib.hid (fun d1 d2 G h => takeW_drop (F := F) (c := c) (d1 := d1) (d2 := d2) (G := G) h)
          have HAt := Lib.hid (fun d1 d2 G h => takeW_add (F := F) (c := c) (a1 := d1) (a2 := d2) (G := G) h)
          generalize hrd : dropW F c = rd at *
          have HRd := Lib.hid hrd
          clear hrd
          generalize hra : addW F c = ra at *
          have HRad := Lib.hid hra
          clear hra
          obtain ⟨d1, d2, G⟩ := rd
          obtain ⟨a1, a2, H⟩ := ra
          dsimp only at *
          have HDt := Lib.hid (HDt.out d1 d2 G rfl)
          have HAt := Lib.hid (HAt.out a1 a2 H rfl)
          generalize hcl : c.length = nl at *
          have HCl := Lib.hid hcl
          clear hcl
          cases d with
          | true =>
            obtain ⟨hd1, hd2⟩ := hda
            clear haa HAd HAt HRad
            by_cases h2 : d2 = 0
            · subst h2
              by_cases h1 : d1 = 0
              · subst h1
                have ht : takeW F true c = (3, G) := by rw [HDt.out]; simp []
                have HE := Lib.hid (HStk.out (by rw [ht]; simp))
                have HE5 := Lib.hid (show r1 = 3 ∧ r2 = k from by
                  have e := HE.out
                  rw [ht] at e
                  injection e with e1 e2
                  exact ⟨e1, e2⟩)
                clear ht HE HStk
                go_wp2_with (first
                  | (go_at_call 8; refine HD.out.mono ?_; rintro e w6 ⟨rfl, hr6⟩; have HJ := Lib.hid (HK.out.join hr6); have HFB6 := Lib.hid (HFB.out.keep (hr6.base.mono HB4.out) hr6.kp); have HRa6 := Lib.hid (HRa.out.keep hr6.kp); have HRw6 := Lib.hid (HRw.out.keep hr6.kp); obtain ⟨hw60, hw61, hw62, hw63⟩ := HRw6.out.cell; have hx6 := HX.out _ HFB6.out.below; clear hr6))
                go_roundw
                case rel =>
                  refine ⟨k + 1, by omega, by go_num, HFB6.out.set (by omega) _ _, HRa6.out.other (by omega) _ _, .inr ⟨by rw [HE5.out.1]; decide, ?_⟩⟩
                  rw [HE5.out.1, HE5.out.2]
                  exact HRw6.out.set _ _
                case measure => simp [intOf]; omega
              · have h1b : (d1 == 0) = false := by simpa using h1
                have ht : takeW F true c = (0, G) := by rw [HDt.out]; simp [h1]
                have hgd : G.done = false := by have := take_done (F := F) (d := true) (c := c) (by rw [ht]) HFd.out; rwa [ht] at this
                have HDo := Lib.hid (fun w2 (h : FwR W4 W4.heap.size b m (nc + k + 1) G w2) => show Calls Tryd.prog 10 #[.pointer (some ⟨b, 0, none⟩)] w2 (fun e w' => e = .returned (.bool false) ∧ w' = w2) from by
                  have := done_any W4 _ b m _ G w2 h
                  rw [hgd] at this
                  exact this)
                have HT2 := Lib.hid ht
                clear ht HStk
                go_wp2_with (first
                  | (go_at_call 8; refine HD.out.mono ?_; rintro e w6 ⟨rfl, hr6⟩; have HJ := Lib.hid (HK.out.join hr6); have HFB6 := Lib.hid (HFB.out.keep (hr6.base.mono HB4.out) hr6.kp); have HRa6 := Lib.hid (HRa.out.keep hr6.kp); have HRw6 := Lib.hid (HRw.out.keep hr6.kp); obtain ⟨hw60, hw61, hw62, hw63⟩ := HRw6.out.cell; have hx6 := HX.out _ HFB6.out.below; clear hr6)
                  | (go_at_call 10; refine (HDo.out _ HJ.out).mono ?_; rintro e w7 ⟨rfl, rfl⟩))
                go_roundw
                case rel =>
                  refine ⟨k + 1, by omega, by go_num, HFB6.out, HRa6.out, .inl ⟨HRw6.out, ?_, fun j hj => ?_⟩⟩
                  · rw [HSk.out, HT2.out]; exact HJ.out
                  · rcases Nat.lt_or_ge j k with h | h
                    · exact HZ.out j h
                    · obtain rfl : j = k := by omega
                      rw [HSs.out, HF.out]; show (takeW F true c).1 = 0; rw [HT2.out]
                case measure => simp [intOf]; omega
            · have h2b : (d2 != 0) = true := by simpa using h2
              have ht : takeW F true c = (5, G) := by rw [HDt.out]; simp [h2]
              have HE := Lib.hid (HStk.out (by rw [ht]; simp))
              have HE5 := Lib.hid (show r1 = 5 ∧ r2 = k from by
                have e := HE.out
                rw [ht] at e
                injection e with e1 e2
                exact ⟨e1, e2⟩)
              clear ht HE HStk
              go_wp2_with (first
                | (go_at_call 8; refine HD.out.mono ?_; rintro e w6 ⟨rfl, hr6⟩; have HJ := Lib.hid (HK.out.join hr6); have HFB6 := Lib.hid (HFB.out.keep (hr6.base.mono HB4.out) hr6.kp); have HRa6 := Lib.hid (HRa.out.keep hr6.kp); have HRw6 := Lib.hid (HRw.out.keep hr6.kp); obtain ⟨hw60, hw61, hw62, hw63⟩ := HRw6.out.cell; have hx6 := HX.out _ HFB6.out.below; clear hr6))
              go_roundw
              case rel =>
                refine ⟨k + 1, by omega, by go_num, HFB6.out.set (by omega) _ _, HRa6.out.other (by omega) _ _, .inr ⟨by rw [HE5.out.1]; decide, ?_⟩⟩
                rw [HE5.out.1, HE5.out.2]
                exact HRw6.out.set _ _
              case measure => simp [intOf]; omega
          | false =>
            obtain ⟨ha1, ha2⟩ := haa
            clear hda HD HDt HRd
            by_cases h2 : a2 = 0
            · subst h2
              by_cases h1 : a1 = 0
              · subst h1
                have ht : takeW F false c = (2, H) := by rw [HAt.out]; simp []
                have HE := Lib.hid (HStk.out (by rw [ht]; simp))
                have HE5 := Lib.hid (show r1 = 2 ∧ r2 = k from by
                  have e := HE.out
                  rw [ht] at e
                  injection e with e1 e2
                  exact ⟨e1, e2⟩)
                clear ht HE HStk
                go_wp2_with (first
                  | (go_at_call 9; refine HAd.out.mono ?_; rintro e w6 ⟨rfl, hr6⟩; have HJ := Lib.hid (HK.out.join hr6); have HFB6 := Lib.hid (HFB.out.keep (hr6.base.mono HB4.out) hr6.kp); have HRa6 := Lib.hid (HRa.out.keep hr6.kp); have HRw6 := Lib.hid (HRw.out.keep hr6.kp); obtain ⟨hw60, hw61, hw62, hw63⟩ := HRw6.out.cell; have hx6 := HX.out _ HFB6.out.below; clear hr6))
                go_roundw
                case rel =>
                  refine ⟨k + 1, by omega, by go_num, HFB6.out.set (by omega) _ _, HRa6.out.other (by omega) _ _, .inr ⟨by rw [HE5.out.1]; decide, ?_⟩⟩
                  rw [HE5.out.1, HE5.out.2]
                  exact HRw6.out.set _ _
                case measure => simp [intOf]; omega
              · have h1b : (a1 == 0) = false := by simpa using h1
                cases hgd : H.done with
                | true =>
                  have ht : takeW F false c = (1, H) := by rw [HAt.out]; simp [h1, hgd]
                  have HE := Lib.hid (HStk.out (by rw [ht]; simp))
                  have HE5 := Lib.hid (show r1 = 1 ∧ r2 = k from by
                    have e := HE.out
                    rw [ht] at e
                    injection e with e1 e2
                    exact ⟨e1, e2⟩)
                  clear ht HE HStk
                  have HDo := Lib.hid (fun w2 (h : FwR W4 W4.heap.size b m (nc + k + 1) H w2) => show Calls Tryd.prog 10 #[.pointer (some ⟨b, 0, none⟩)] w2 (fun e w' => e = .returned (.bool true) ∧ w' = w2) from by
                    have := done_any W4 _ b m _ H w2 h
                    rw [hgd] at this
                    exact this)
                  go_wp2_with (first
                    | (go_at_call 9; refine HAd.out.mono ?_; rintro e w6 ⟨rfl, hr6⟩; have HJ := Lib.hid (HK.out.join hr6); have HFB6 := Lib.hid (HFB.out.keep (hr6.base.mono HB4.out) hr6.kp); have HRa6 := Lib.hid (HRa.out.keep hr6.kp); have HRw6 := Lib.hid (HRw.out.keep hr6.kp); obtain ⟨hw60, hw61, hw62, hw63⟩ := HRw6.out.cell; have hx6 := HX.out _ HFB6.out.below; clear hr6)
                    | (go_at_call 10; refine (HDo.out _ HJ.out).mono ?_; rintro e w7 ⟨rfl, rfl⟩))
                  go_roundw
                  case rel =>
                    refine ⟨k + 1, by omega, by go_num, HFB6.out.set (by omega) _ _, HRa6.out.other (by omega) _ _, .inr ⟨by rw [HE5.out.1]; decide, ?_⟩⟩
                    rw [HE5.out.1, HE5.out.2]
                    exact HRw6.out.set _ _
                  case measure => simp [intOf]; omega
                | false =>
                  have ht : takeW F false c = (0, H) := by rw [HAt.out]; simp [h1, hgd]
                  have HDo := Lib.hid (fun w2 (h : FwR W4 W4.heap.size b m (nc + k + 1) H w2) => show Calls Tryd.prog 10 #[.pointer (some ⟨b, 0, none⟩)] w2 (fun e w' => e = .returned (.bool false) ∧ w' = w2) from by
                    have := done_any W4 _ b m _ H w2 h
                    rw [hgd] at this
                    exact this)
                  have HT2 := Lib.hid ht
                  clear ht HStk
                  go_wp2_with (first
                    | (go_at_call 9; refine HAd.out.mono ?_; rintro e w6 ⟨rfl, hr6⟩; have HJ := Lib.hid (HK.out.join hr6); have HFB6 := Lib.hid (HFB.out.keep (hr6.base.mono HB4.out) hr6.kp); have HRa6 := Lib.hid (HRa.out.keep hr6.kp); have HRw6 := Lib.hid (HRw.out.keep hr6.kp); obtain ⟨hw60, hw61, hw62, hw63⟩ := HRw6.out.cell; have hx6 := HX.out _ HFB6.out.below; clear hr6)
                    | (go_at_call 10; refine (HDo.out _ HJ.out).mono ?_; rintro e w7 ⟨rfl, rfl⟩))
                  go_roundw
                  case rel =>
                    refine ⟨k + 1, by omega, by go_num, HFB6.out, HRa6.out, .inl ⟨HRw6.out, ?_, fun j hj => ?_⟩⟩
                    · rw [HSk.out, HT2.out]; exact HJ.out
                    · rcases Nat.lt_or_ge j k with h | h
                      · exact HZ.out j h
                      · obtain rfl : j = k := by omega
                        rw [HSs.out, HF.out]; show (takeW F false c).1 = 0; rw [HT2.out]
                  case measure => simp [intOf]; omega
            · have h2b : (a2 != 0) = true := by simpa using h2
              have ht : takeW F false c = (5, H) := by rw [HAt.out]; simp [h2]
              have HE := Lib.hid (HStk.out (by rw [ht]; simp))
              have HE5 := Lib.hid (show r1 = 5 ∧ r2 = k from by
                have e := HE.out
                rw [ht] at e
                injection e with e1 e2
                exact ⟨e1, e2⟩)
              clear ht HE HStk
              go_wp2_with (first
                | (go_at_call 9; refine HAd.out.mono ?_; rintro e w6 ⟨rfl, hr6⟩; have HJ := Lib.hid (HK.out.join hr6); have HFB6 := Lib.hid (HFB.out.keep (hr6.base.mono HB4.out) hr6.kp); have HRa6 := Lib.hid (HRa.out.keep hr6.kp); have HRw6 := Lib.hid (HRw.out.keep hr6.kp); obtain ⟨hw60, hw61, hw62, hw63⟩ := HRw6.out.cell; have hx6 := HX.out _ HFB6.out.below; clear hr6))
              go_roundw
              case rel =>
                refine ⟨k + 1, by omega, by go_num, HFB6.out.set (by omega) _ _, HRa6.out.other (by omega) _ _, .inr ⟨by rw [HE5.out.1]; decide, ?_⟩⟩
                rw [HE5.out.1, HE5.out.2]
                exact HRw6.out.set _ _
              case measure => simp [intOf]; omega
        · obtain rfl : k = n := by omega
          have HE := Lib.hid (show r1 = 4 ∧ r2 = k from by
            have e := HOn.out hz
            injection e with e1 e2
            exact ⟨e1, e2⟩)
          clear hr hz
          go_wp2
          go_meet
          obtain ⟨rfl, rfl⟩ := HE.out
          exact ⟨HFB.out, HRa.out, HRw.out⟩
      · have HRw := Lib.hid hrw
        obtain ⟨hw0, hw1, hw2, hw3⟩ := HRw.out.cell
        have hr1b : (r1 == 4) = false := by simpa using hr1
        clear hrw
        by_cases hlt : k < n
        · go_wp2
          go_meet
          exact ⟨HFB.out, HRa.out, HRw.out⟩
        · obtain rfl : k = n := by omega
          go_wp2
          go_meet
          exact ⟨HFB.out, HRa.out, HRw.out⟩
  case rest =>
    obtain ⟨hfb, hra, hrw⟩ := hcut
    have HFB := Lib.hid hfb
    have HRa := Lib.hid hra
    have HRw := Lib.hid hrw
    obtain ⟨hw0, hw1, _, _⟩ := HRw.out.cell
    obtain ⟨hv0, hv1, _, _⟩ := HRa.out.cell
    obtain ⟨hf0, hf1, hf2⟩ := HFB.out.cell
    clear hfb hra hrw HR6 HRw0 HI6 HW6 HTb4 HS H8 HSn HOn HSt HAm HDn
    have HB := Lib.hid (Below.refl wc.heap.size wc)
    have HMo2 := Lib.hid (show ∀ X, Below wc.heap.size wc X → Kd.F k37 X (fun k => k < w.heap.size) Am nm more from fun X hX => Kd.F_step HMo.out (fun k _ hk => (HFB.out.below.trans (hX.mono HFB.out.below.size)).block k hk))
    have hdf : wc.drew.cell? ⟨w.heap.size, 0, none⟩ = some (.int .i64 v) ∧ wc.drew.cell? ⟨w.heap.size, 1, none⟩ = some (.slice A nc c0) := ⟨hf0, hf1⟩
    go_upto_region 27 with (fail)
    go_cut [8, 15] (fun e z wx => e = .int .i64 0 ∧ ∃ bz, z = .pointer (some ⟨bz, 0, none⟩) ∧ FBox w v (.slice A nc c0) wx ∧ Rep2 ba r1 r2 wx ∧ Rep2 bz s1 s2 wx)
    case first =>
      go_region_held3 (fun wx => wx.cell? ⟨w.heap.size, 0, none⟩ = some (.int .i64 v) ∧ wx.cell? ⟨w.heap.size, 1, none⟩ = some (.slice A nc c0)) (first | (refine HFB.out.two ?_; (repeat (first | (with_reducible first | exact HB.out | apply below_alloc | apply pw_below_drewN | apply below_drew1) | exact HB.out)); done) | (refine HFB.out.twoS ?_ (Nat.lt_of_lt_of_le HFB.out.cell.2.2 HZ.out.1) _ _; (repeat (first | (with_reducible first | exact HB.out | apply below_alloc | apply pw_below_drewN | apply below_drew1) | exact HB.out)); done)) (first
        | (go_at_call 11; refine (HCp.out _ (HFB.out.below.trans (Below.mono (by repeat (first | (with_reducible first | exact HB.out | apply below_alloc | apply pw_below_drewN | apply below_drew1) | exact HB.out)) HFB.out.below.size))).mono ?_; rintro e w3 ⟨vv, rfl, hN, hb⟩; have HN3 := Lib.hid (Kd.N_lower hN (Below.size (by repeat (first | (with_reducible first | exact HB.out | apply below_alloc | apply pw_below_drewN | apply below_drew1) | exact HB.out)))); have hNb := Kd.N_base HN3.out; have hB3 := below_step (by repeat (first | (with_reducible first | exact HB.out | apply below_alloc | apply pw_below_drewN | apply below_drew1) | exact HB.out)) hb; (first | (have HZ := Lib.hid (NewB.step HZ.out hb)) | (have HZ := Lib.hid (NewB.step (NewB.init (by repeat (first | (with_reducible first | exact HB.out | apply below_alloc | apply pw_below_drewN | apply below_drew1) | exact HB.out))) hb)) | (have HZ := Lib.hid (NewB.step (NewB.drewI (X := wc) (NewB.init (Below.refl _ _))) hb)) | skip); clear hb hN HB; have HB := Lib.hid hB3; clear hB3)
        | (refine Kd.N_append_rows_step k37 (w0 := wc) wc.heap.size (by rfl) (.tmp 114) (.tmp 115) 25 37 (.agg #[.bool false, .slice none 0 0]) 32 rfl Tryd.underlying25 (by kernel_rfl) rfl (by decide) (by decide) vv l more Am nm cm (fun _ => True) (fun k => k < w.heap.size) (by rfl) (by rfl) (by first | exact HN3.out | exact Kd.N_alloc HN3.out _) (HMo2.out _ (by repeat (first | (with_reducible first | exact HB.out | apply below_alloc | apply pw_below_drewN | apply below_drew1) | exact HB.out))) (fun k hk => ⟨trivial, fun e => by have := hNb k e.symm; have := HFB.out.below.size; omega⟩) (fun _ _ => trivial) (by repeat (first | (with_reducible first | exact HB.out | apply below_alloc | apply pw_below_drewN | apply below_drew1) | exact HB.out)) (Below.size (by repeat (first | (with_reducible first | exact HB.out | apply below_alloc | apply pw_below_drewN | apply below_drew1) | exact HB.out))) (by rw [HLn.out]; omega) ?_; intro v1 w4 hN4 hb4 hg4 hat4; (first | (have HZ := Lib.hid (NewB.grown HZ.out hg4 (Kd.N_ne HN3.out HZ.out.2 (by decide)))) | (have HZ := Lib.hid (NewB.grown (NewB.init (by repeat (first | (with_reducible first | exact HB.out | apply below_alloc | apply pw_below_drewN | apply below_drew1) | exact HB.out))) hg4 (Kd.N_ne (Kd.N_alloc HN3.out _) (Rep2.new _ 0 0) (by decide)))) | skip); clear hat4 hg4 HB HN3; have HB := Lib.hid hb4; have HN4 := Lib.hid hN4; clear hb4 hN4; obtain ⟨A4, c4, e4⟩ := Kd.N_slice HN4.out; subst e4)
        | (go_at_call 6; refine (HCm.out _ (HFB.out.below.trans (Below.mono (by repeat (first | (with_reducible first | exact HB.out | apply below_alloc | apply pw_below_drewN | apply below_drew1) | exact HB.out)) HFB.out.below.size)) A4 c4 _ (by first | exact (Kd.N_reads' HN4.out).2.2 | exact (Kd.N_reads' (Kd.N_alloc HN4.out _)).2.2) (by first | rfl | simp)).mono ?_; rintro e w5 ⟨rfl, hb⟩; have hB5 := below_step (by repeat (first | (with_reducible first | exact HB.out | apply below_alloc | apply pw_below_drewN | apply below_drew1) | exact HB.out)) hb; (first | (have HZ := Lib.hid (NewB.step HZ.out hb)) | (have HZ := Lib.hid (NewB.step (NewB.init (by repeat (first | (with_reducible first | exact HB.out | apply below_alloc | apply pw_below_drewN | apply below_drew1) | exact HB.out))) hb)) | (have HZ := Lib.hid (NewB.step (NewB.drewI (X := wc) (NewB.init (Below.refl _ _))) hb)) | skip); (try (obtain ⟨hz0, hz1, hz2, hz3⟩ := HZ.out.2.cell)); clear hb HB; have HB := Lib.hid hB5; clear hB5))
      all_goals (go_wp2_with (fail); go_meet)
      · exact ⟨rfl, _, rfl, HFB.out.step (by repeat (first | (with_reducible first | exact HB.out | apply below_alloc | apply pw_below_drewN | apply below_drew1) | exact HB.out)), HRa.out.step (by repeat (first | (with_reducible first | exact HB.out | apply below_alloc | apply pw_below_drewN | apply below_drew1) | exact HB.out)), Rep2.new _ _ _⟩
      all_goals exact ⟨rfl, _, rfl, (HFB.out.step HB.out).set (Nat.lt_of_lt_of_le HFB.out.cell.2.2 HZ.out.1) _ _, (HRa.out.step HB.out).other (Nat.ne_of_lt (Nat.lt_of_lt_of_le HRa.out.lt HZ.out.1)) _ _, HZ.out.2.set _ _⟩
    case rest =>
      obtain ⟨rfl, bz, rfl, hfb, hra, hrz⟩ := hcut
      have HFB2 := Lib.hid hfb.below
      obtain ⟨hz0, hz1, _, _⟩ := hrz.cell
      obtain ⟨ha0, ha1, _, _⟩ := hra.cell
      clear hfb hra hrz
      by_cases h4 : r1 = 4
      · subst h4
        go_wp2
        go_ret
        exact ⟨rfl, HFB2.out⟩
      · have h4b : (r1 == 4) = false := by simpa using h4
        have e := HAp.out h4
        injection e with e1 e2
        subst e1 e2
        go_wp2
        go_ret
        exact ⟨by simp, HFB2.out⟩

end Go.Proofs.YtcaoobdbgdldaaaDoor.Fwd
