/- Part of the proof of ForwardScript: what the law uses of the text ScL. -/
import Derived.Test.YtcaoobdbgdldaaaGreatDoorZPScK
namespace Go.Proofs.YtcaoobdbgdldaaaGreatDoor.Sc
open Go.RowKit Go.Proofs.YtcaoobdbgdldaaaGreatDoor.Lit Go.Proofs.YtcaoobdbgdldaaaGreatDoor.Spr Go.Proofs.YtcaoobdbgdldaaaGreatDoor.P Go.Proofs.YtcaoobdbgdldaaaGreatDoor.Rf Go.Proofs.YtcaoobdbgdldaaaGreatDoor.Rfw Go.Proofs.YtcaoobdbgdldaaaGreatDoor.Cl Go.Proofs.YtcaoobdbgdldaaaGreatDoorW.PrintWords Go.Proofs.YtcaoobdbgdldaaaGreatDoorW.PrintLast
open Go.Proofs.YtcaoobdbgdldaaaGreatDoor.Fwd (Fw FwR FwV KeepI KeepT KeepO rowOf rowOf_blk MapR AllR RowR newW new_any Tab)
set_option linter.unusedVariables false
set_option linter.unusedSimpArgs false

def OC2 (w : World) (A : Option Addr) (l : List (Int × List Int)) : Prop := ∀ k, k < l.length → ∃ ad on A1 c1, A = some ad ∧ w.cell? (ad.add (k * 3)) = some (.int .i64 on) ∧ w.cell? ⟨(ad.add (k * 3)).block, (ad.add (k * 3)).off + 1, none⟩ = some (.int .i64 (l.getD k (0, [])).1) ∧ w.cell? ⟨(ad.add (k * 3)).block, (ad.add (k * 3)).off + 2, none⟩ = some (.slice A1 (l.getD k (0, [])).2.length c1) ∧ Kd.C kI w A1 (l.getD k (0, [])).2.length (l.getD k (0, [])).2 ∧ (l.getD k (0, [])).2.length ≤ c1
theorem five {w X : World} {a b c d e : Value} {k : Nat} (h : St w #[a, b, c, d, e] k X) : X.cell? ⟨w.heap.size, 0, none⟩ = some a ∧ X.cell? ⟨w.heap.size, 1, none⟩ = some b ∧ X.cell? ⟨w.heap.size, 2, none⟩ = some c ∧ X.cell? ⟨w.heap.size, 3, none⟩ = some d ∧ X.cell? ⟨w.heap.size, 4, none⟩ = some e := by
  have hs := h.sb
  refine ⟨?_, ?_, ?_, ?_, ?_⟩ <;> (unfold World.cell?; rw [hs]; rfl)
theorem St.vars {w X : World} {cells : Array Value} {k : Nat} (h : St w cells k X) : (∃ p, X.cell? ⟨w.heap.size + 1, 0, none⟩ = some p) ∧ (∃ p, X.cell? ⟨w.heap.size + 1, 1, none⟩ = some p) ∧ (∃ p, X.cell? ⟨w.heap.size + 1 + 1, 0, none⟩ = some p) ∧ (∃ p, X.cell? ⟨w.heap.size + 1 + 1, 1, none⟩ = some p) ∧ X.frozen? ⟨w.heap.size + 1, 0, none⟩ = false ∧ X.frozen? ⟨w.heap.size + 1, 1, none⟩ = false ∧ X.frozen? ⟨w.heap.size + 1 + 1, 0, none⟩ = false ∧ X.frozen? ⟨w.heap.size + 1 + 1, 1, none⟩ = false := by
  obtain ⟨own, p0, p1, q0, q1, h1, h2, _⟩ := h.more
  refine ⟨⟨p0, ?_⟩, ⟨p1, ?_⟩, ⟨q0, ?_⟩, ⟨q1, ?_⟩, ?_, ?_, ?_, ?_⟩
  · unfold World.cell?; rw [h1]; rfl
  · unfold World.cell?; rw [h1]; rfl
  · unfold World.cell?; rw [h2]; rfl
  · unfold World.cell?; rw [h2]; rfl
  · simp [World.frozen?, h1]
  · simp [World.frozen?, h1]
  · simp [World.frozen?, h2]
  · simp [World.frozen?, h2]
theorem newp {v : Int} {A : Option Addr} {c : Nat} {cs : List (List Int)} {w W : World} (hC : Kd.C kL w A cs.length cs) (hl : cs.length ≤ 1048576) (h8 : ∀ c ∈ cs, c.length ≤ 1048576) (hT : Tab w) (hb : Below w.heap.size w W) :
    Calls Tryz.prog 18 #[.agg #[.int .i64 v, .slice A cs.length c]] W (Fwd.NewPost W v cs) := new_any v A c cs W (rc_of_C (Kd.C_below hC hb)) (by omega) (fun c hc => by have := h8 c hc; omega) (hT.below hb)
theorem rnewp {v : Int} {A : Option Addr} {c : Nat} {cs : List (List Int)} {w W : World} (hC : Kd.C kL w A cs.length cs) (hcc : cs.length ≤ c) (hl : cs.length ≤ 1048576) (h8 : ∀ c ∈ cs, c.length ≤ 1048576) (hb : Below w.heap.size w W) :
    Calls Tryz.prog 19 #[.agg #[.int .i64 v, .slice A cs.length c]] W (RNewPost (fun g => W.heap.size ≤ g) W v cs) := rnew_any _ v A c cs W (Kd.C_below hC hb) hcc (by omega) (fun c hc => by have := h8 c hc; omega) (fun _ h => h)

set_option maxHeartbeats 16000000 in
set_option maxRecDepth 100000 in
theorem script_any (v0 v1 : Int) (A0 A1 : Option Addr) (c0 c1 : Nat) (cs0 cs1 : List (List Int)) (Ao : Option Addr) (co : Nat) (l : List (Int × List Int)) (w : World) (hC0 : Kd.C kL w A0 cs0.length cs0) (hc0 : cs0.length ≤ c0) (hC1 : Kd.C kL w A1 cs1.length cs1) (hc1 : cs1.length ≤ c1) (hO : OC2 w Ao l) (hl0 : cs0.length ≤ 1048576) (h80 : ∀ c ∈ cs0, c.length ≤ 1048576) (hl1 : cs1.length ≤ 1048576) (h81 : ∀ c ∈ cs1, c.length ≤ 1048576) (hll : l.length ≤ 1048576) (hl8 : ∀ s ∈ l, s.2.length ≤ 1048576) (hT : Tab w) :
    Calls Tryz.prog 5 #[.agg #[.int .i64 v0, .slice A0 cs0.length c0, .int .i64 v1, .slice A1 cs1.length c1, .slice Ao l.length co]] w fun e w' => e = .returned (.bool true) ∧ Below w.heap.size w w' := by
  have HI := Lib.hid (St.init w #[.int .i64 v0, .slice A0 cs0.length c0, .int .i64 v1, .slice A1 cs1.length c1, .slice Ao l.length co])
  have HN0 := Lib.hid (fun W hb => @newp v0 A0 c0 cs0 w W hC0 hl0 h80 hT hb)
  have HN1 := Lib.hid (fun W hb => @newp v1 A1 c1 cs1 w W hC1 hl1 h81 hT hb)
  have HR0 := Lib.hid (fun W hb => @rnewp v0 A0 c0 cs0 w W hC0 hc0 hl0 h80 hb)
  have HR1 := Lib.hid (fun W hb => @rnewp v1 A1 c1 cs1 w W hC1 hc1 hl1 h81 hb)
  have HF0 := Lib.hid (fun hf => @ok_of v0 cs0 hf hl0 h80)
  have HF1 := Lib.hid (fun hf => @ok_of v1 cs1 hf hl1 h81)
  have HT := Lib.hid hT
  have HO := Lib.hid hO
  have H8 := Lib.hid (fun k (hk : k < l.length) => show (l.getD k (0, [])).2.length ≤ 1048576 from hl8 _ (get_nth _ hk))
  have HSN := Lib.hid (fun (A : Option Addr) (c : Nat) (W : World) (hT : Tab W) (hC : Kd.C kL W A smallCs.length smallCs) => show Calls Tryz.prog 18 #[.agg #[.int .i64 2, .slice A smallCs.length c]] W (fun e w' => ∃ b m, e = .returned (.tuple #[.pointer (some ⟨b, 0, none⟩), .int .i64 0]) ∧ FwR W W.heap.size b m smallCs.length (newW smallCs) w') from by
    have := @newp 2 A c smallCs W W hC (by decide) (by decide) hT (Below.refl _ _)
    unfold Fwd.NewPost at this
    simp only [small_formed, ↓reduceIte] at this
    exact this)
  have HSR := Lib.hid (fun (A : Option Addr) (c : Nat) (W : World) (hC : Kd.C kL W A smallCs.length smallCs) (hc : smallCs.length ≤ c) => show Calls Tryz.prog 19 #[.agg #[.int .i64 2, .slice A smallCs.length c]] W (fun e w' => ∃ b, e = .returned (.tuple #[.pointer (some ⟨b, 0, none⟩), .int .i64 0]) ∧ RfR (fun g => W.heap.size ≤ g) W W.heap.size b smallCs false w') from by
    have := @rnewp 2 A c smallCs W W hC hc (by decide) (by decide) (Below.refl _ _)
    unfold RNewPost at this
    simp only [small_formed, ↓reduceIte] at this
    exact this)
  have hsm : smallCs.length = 4 := rfl
  unfold Fwd.NewPost at HN0 HN1
  unfold RNewPost at HR0 HR1
  clear hC0 hC1 hO h80 h81 hl8 hT
  generalize hn0 : cs0.length = n0 at *
  generalize hn1 : cs1.length = n1 at *
  generalize hn : l.length = n at *
  go_enter Tryz.func5, Tryz.ntmps5
  go_wp2
  go_loopw [5] (fun kv wr => ∃ k : Nat, k ≤ 2 ∧ kv = .int .i64 k ∧ St w #[.int .i64 v0, .slice A0 n0 c0, .int .i64 v1, .slice A1 n1 c1, .slice Ao n co] k wr) (fun kv _ => 2 - (intOf kv).toNat)
  case atStart => exact ⟨0, by omega, rfl, HI.out⟩
  case round =>
    obtain ⟨k, hk, rfl, hSt⟩ := hrel
    have HS := Lib.hid hSt
    have hbw := hSt.below
    obtain ⟨y0, y1, y2, y3, y4⟩ := five hSt
    clear hSt
    by_cases hlt : k < 2
    · have hk' : k = 0 ∨ k = 1 := by omega
      rcases hk' with rfl | rfl
      · have hl0' : n0 ≤ M0 := by show n0 ≤ 1048580; omega
        cases hf : formedB v0 cs0 with
        | true =>
          have hN := HN0.out wr hbw
          have hR := fun W (hb : Below w.heap.size w W) => HR0.out W hb
          simp only [hf, ↓reduceIte] at hN
          simp only [hf, ↓reduceIte] at hR
          have HNk := Lib.hid hN
          have HRk := Lib.hid hR
          have HOk := Lib.hid (HF0.out hf)
          clear hN hR
          go_wp2_with (first
            | (go_at_call 18; refine HNk.out.mono ?_; rintro e w1 ⟨b, m, rfl, hr1⟩; have H1 := Lib.hid hr1; have hb1 := Fwd.FwR.base hr1; have HB1 := Lib.hid (hbw.trans (hb1.mono hbw.size)); have Hb1 := Lib.hid hb1; obtain ⟨w1a, w1b, w1c, w1d, w1e⟩ := five (HS.out.below' hb1); clear hr1 hb1)
            | (go_at_call 19; refine (HRk.out w1 HB1.out).mono ?_; rintro e w2 ⟨br, rfl, hr2⟩; have H2 := Lib.hid hr2; have hb2 := Rfw.RfR.base hr2; obtain ⟨w2a, w2b, w2c, w2d, w2e⟩ := five (HS.out.below' (Hb1.out.trans (hb2.mono Hb1.out.size))); obtain ⟨⟨_, w2f⟩, ⟨_, w2g⟩, ⟨_, w2h⟩, ⟨_, w2i⟩, w2j, w2k, w2l, w2m⟩ := St.vars (HS.out.below' (Hb1.out.trans (hb2.mono Hb1.out.size))); clear hr2 hb2))
          go_roundw
          case rel => exact ⟨1, by omega, by go_num, St.put (by omega) HS.out hf H1.out H2.out HOk.out (by first | exact hl0' | (rw [hn0]; exact hl0')) (by rw [hn0]; exact hl0')⟩
          case measure => simp [intOf]
        | false =>
          have hN := HN0.out wr hbw
          have hR := fun W (hb : Below w.heap.size w W) => HR0.out W hb
          simp only [hf, Bool.false_eq_true, ↓reduceIte] at hN
          simp only [hf, Bool.false_eq_true, ↓reduceIte] at hR
          have HNk := Lib.hid hN
          have HRk := Lib.hid hR
          clear hN hR
          go_wp2_with (first
            | (go_at_call_of 18 (Value.slice A0 n0 c0); refine HNk.out.mono ?_; rintro e w1 ⟨rfl, hb1⟩; have HB1 := Lib.hid (hbw.trans (hb1.mono hbw.size)); have Hb1 := Lib.hid hb1; obtain ⟨w1a, w1b, w1c, w1d, w1e⟩ := five (HS.out.below' hb1); clear hb1)
            | (go_at_call_of 19 (Value.slice A0 n0 c0); refine (HRk.out w1 HB1.out).mono ?_; rintro e w2 ⟨rfl, hb2⟩; have Hb2 := Lib.hid (Hb1.out.trans (hb2.mono Hb1.out.size)); clear hb2)
            | (go_at_call_of 18 (Value.int IntKind.i64 2); refine (HSN.out A3 c3 w3 (HT.out.below (hbw.trans (Hb3.out.mono hbw.size))) HC3.out).mono ?_; rintro e w4 ⟨b, m, rfl, hr4⟩; have H4 := Lib.hid hr4; have Hb4 := Lib.hid (Fwd.FwR.base hr4); clear hr4)
            | (go_at_call_of 19 (Value.int IntKind.i64 2); refine (HSR.out A5 c5 w5 HC5.out hc5).mono ?_; rintro e w6 ⟨br, rfl, hr6⟩; have H6 := Lib.hid hr6; have hb6 := Hb3.out.trans ((Hb4.out.mono Hb3.out.size).trans ((Hb5.out.mono (Nat.le_trans Hb3.out.size Hb4.out.size)).trans ((Rfw.RfR.base hr6).mono (Nat.le_trans (Nat.le_trans Hb3.out.size Hb4.out.size) Hb5.out.size)))); obtain ⟨w6a, w6b, w6c, w6d, w6e⟩ := five (HS.out.below' hb6); obtain ⟨⟨_, w6f⟩, ⟨_, w6g⟩, ⟨_, w6h⟩, ⟨_, w6i⟩, w6j, w6k, w6l, w6m⟩ := St.vars (HS.out.below' hb6); clear hr6 hb6)
            | (go_at_call 16; refine (small_any w2).mono ?_; rintro e w3 ⟨A3, c3, rfl, hc3, hC3, hb3⟩; have HC3 := Lib.hid hC3; have Hb3 := Lib.hid (Hb2.out.trans (hb3.mono Hb2.out.size)); clear hC3 hb3 Hb2)
            | (go_at_call 16; refine (small_any w4).mono ?_; rintro e w5 ⟨A5, c5, rfl, hc5, hC5, hb5⟩; have HC5 := Lib.hid hC5; have Hb5 := Lib.hid hb5; clear hC5 hb5))
          go_roundw
          case rel => exact ⟨1, by omega, by go_num, St.put (by omega) (HS.out.below' Hb3.out) small_formed (H4.out.step Hb5.out) H6.out small_ok (by decide) (by decide)⟩
          case measure => simp [intOf]
      · have hl1' : n1 ≤ M0 := by show n1 ≤ 1048580; omega
        cases hf : formedB v1 cs1 with
        | true =>
          have hN := HN1.out wr hbw
          have hR := fun W (hb : Below w.heap.size w W) => HR1.out W hb
          simp only [hf, ↓reduceIte] at hN
          simp only [hf, ↓reduceIte] at hR
          have HNk := Lib.hid hN
          have HRk := Lib.hid hR
          have HOk := Lib.hid (HF1.out hf)
          clear hN hR
          go_wp2_with (first
            | (go_at_call 18; refine HNk.out.mono ?_; rintro e w1 ⟨b, m, rfl, hr1⟩; have H1 := Lib.hid hr1; have hb1 := Fwd.FwR.base hr1; have HB1 := Lib.hid (hbw.trans (hb1.mono hbw.size)); have Hb1 := Lib.hid hb1; obtain ⟨w1a, w1b, w1c, w1d, w1e⟩ := five (HS.out.below' hb1); clear hr1 hb1)
            | (go_at_call 19; refine (HRk.out w1 HB1.out).mono ?_; rintro e w2 ⟨br, rfl, hr2⟩; have H2 := Lib.hid hr2; have hb2 := Rfw.RfR.base hr2; obtain ⟨w2a, w2b, w2c, w2d, w2e⟩ := five (HS.out.below' (Hb1.out.trans (hb2.mono Hb1.out.size))); obtain ⟨⟨_, w2f⟩, ⟨_, w2g⟩, ⟨_, w2h⟩, ⟨_, w2i⟩, w2j, w2k, w2l, w2m⟩ := St.vars (HS.out.below' (Hb1.out.trans (hb2.mono Hb1.out.size))); clear hr2 hb2))
          go_roundw
          case rel => exact ⟨2, by omega, by go_num, St.put (by omega) HS.out hf H1.out H2.out HOk.out (by first | exact hl1' | (rw [hn1]; exact hl1')) (by rw [hn1]; exact hl1')⟩
          case measure => simp [intOf]
        | false =>
          have hN := HN1.out wr hbw
          have hR := fun W (hb : Below w.heap.size w W) => HR1.out W hb
          simp only [hf, Bool.false_eq_true, ↓reduceIte] at hN
          simp only [hf, Bool.false_eq_true, ↓reduceIte] at hR
          have HNk := Lib.hid hN
          have HRk := Lib.hid hR
          clear hN hR
          go_wp2_with (first
            | (go_at_call_of 18 (Value.slice A1 n1 c1); refine HNk.out.mono ?_; rintro e w1 ⟨rfl, hb1⟩; have HB1 := Lib.hid (hbw.trans (hb1.mono hbw.size)); have Hb1 := Lib.hid hb1; obtain ⟨w1a, w1b, w1c, w1d, w1e⟩ := five (HS.out.below' hb1); clear hb1)
            | (go_at_call_of 19 (Value.slice A1 n1 c1); refine (HRk.out w1 HB1.out).mono ?_; rintro e w2 ⟨rfl, hb2⟩; have Hb2 := Lib.hid (Hb1.out.trans (hb2.mono Hb1.out.size)); clear hb2)
            | (go_at_call_of 18 (Value.int IntKind.i64 2); refine (HSN.out A3 c3 w3 (HT.out.below (hbw.trans (Hb3.out.mono hbw.size))) HC3.out).mono ?_; rintro e w4 ⟨b, m, rfl, hr4⟩; have H4 := Lib.hid hr4; have Hb4 := Lib.hid (Fwd.FwR.base hr4); clear hr4)
            | (go_at_call_of 19 (Value.int IntKind.i64 2); refine (HSR.out A5 c5 w5 HC5.out hc5).mono ?_; rintro e w6 ⟨br, rfl, hr6⟩; have H6 := Lib.hid hr6; have hb6 := Hb3.out.trans ((Hb4.out.mono Hb3.out.size).trans ((Hb5.out.mono (Nat.le_trans Hb3.out.size Hb4.out.size)).trans ((Rfw.RfR.base hr6).mono (Nat.le_trans (Nat.le_trans Hb3.out.size Hb4.out.size) Hb5.out.size)))); obtain ⟨w6a, w6b, w6c, w6d, w6e⟩ := five (HS.out.below' hb6); obtain ⟨⟨_, w6f⟩, ⟨_, w6g⟩, ⟨_, w6h⟩, ⟨_, w6i⟩, w6j, w6k, w6l, w6m⟩ := St.vars (HS.out.below' hb6); clear hr6 hb6)
            | (go_at_call 16; refine (small_any w2).mono ?_; rintro e w3 ⟨A3, c3, rfl, hc3, hC3, hb3⟩; have HC3 := Lib.hid hC3; have Hb3 := Lib.hid (Hb2.out.trans (hb3.mono Hb2.out.size)); clear hC3 hb3 Hb2)
            | (go_at_call 16; refine (small_any w4).mono ?_; rintro e w5 ⟨A5, c5, rfl, hc5, hC5, hb5⟩; have HC5 := Lib.hid hC5; have Hb5 := Lib.hid hb5; clear hC5 hb5))
          go_roundw
          case rel => exact ⟨2, by omega, by go_num, St.put (by omega) (HS.out.below' Hb3.out) small_formed (H4.out.step Hb5.out) H6.out small_ok (by decide) (by decide)⟩
          case measure => simp [intOf]
    · obtain rfl : k = 2 := by omega
      rw [show (((2 : Nat)) : Int) = (2 : Int) from rfl]
      obtain ⟨own, p0, p1, q0, q1, hx, hy, _, hP0, hP1⟩ := HS.out.more
      obtain ⟨b0, m0, r0, F0, D0, o0, rfl, rfl, hD0⟩ := hP0 (by omega)
      obtain ⟨b1, m1, r1, F1, D1, o1, rfl, rfl, hD1⟩ := hP1 (by omega)
      have hsz := HS.out.size
      have HD0 := Lib.hid hD0
      have HD1 := Lib.hid hD1
      have HTB := Lib.hid (fun W (hb : Below w.heap.size w W) => show Lib.TabBelow Tryz.prog (w.heap.size + 3) W "internal/strconv.uint64pow10" .u64 Lib.pow10Tab from fun w' h' => Lib.tabBelow_of_tabIs HT.out w' (hb.trans (h'.mono (by omega))))
      have HBw := Lib.hid hbw
      have xlt := (Array.getElem?_eq_some_iff.1 hx).1
      have ylt := (Array.getElem?_eq_some_iff.1 hy).1
      have slt := (Array.getElem?_eq_some_iff.1 HS.out.sb).1
      have HV := Lib.hid (fun W (hb : Below (w.heap.size + 3) wr W) => show (W.cell? ⟨w.heap.size + 1, 0, none⟩ = some (.pointer (some ⟨b0, 0, none⟩)) ∧ W.cell? ⟨w.heap.size + 1, 1, none⟩ = some (.pointer (some ⟨b1, 0, none⟩)) ∧ W.cell? ⟨w.heap.size + 1 + 1, 0, none⟩ = some (.pointer (some ⟨r0, 0, none⟩)) ∧ W.cell? ⟨w.heap.size + 1 + 1, 1, none⟩ = some (.pointer (some ⟨r1, 0, none⟩)) ∧ W.cell? ⟨w.heap.size, 4, none⟩ = some (.slice Ao n co)) from by
        have e1 := (hb.block (w.heap.size + 1) (by omega)).trans hx
        have e2 := (hb.block (w.heap.size + 1 + 1) (by omega)).trans hy
        have e3 := (hb.block w.heap.size (by omega)).trans HS.out.sb
        refine ⟨?_, ?_, ?_, ?_, ?_⟩
        · unfold World.cell?; rw [e1]; rfl
        · unfold World.cell?; rw [e1]; rfl
        · unfold World.cell?; rw [e2]; rfl
        · unfold World.cell?; rw [e2]; rfl
        · unfold World.cell?; rw [e3]; rfl)
      clear hD0 hD1 hP0 hP1 hx hy xlt ylt slt hbw HN0 HN1 HR0 HR1 HF0 HF1 HSN HSR HI hsm
      go_wp2
      go_loopw [10] (fun iv wx => ∃ (i : Nat) (own : Nat → Nat) (F0 F1 : Fw) (D0 D1 : List (List Int)) (o0 o1 : Bool), i ≤ n ∧ iv = .int .i64 i ∧ Below (w.heap.size + 3) wr wx ∧ Duo (w.heap.size + 3) own 0 b0 m0 r0 (M0 + i) F0 D0 o0 wx ∧ Duo (w.heap.size + 3) own 2 b1 m1 r1 (M0 + i) F1 D1 o1 wx) (fun iv _ => n - (intOf iv).toNat)
      case atStart => exact ⟨0, own, F0, F1, D0, D1, o0, o1, by omega, rfl, Below.refl _ _, HD0.out, HD1.out⟩
      case round =>
        obtain ⟨i, own, F0, F1, D0, D1, o0, o1, hi, rfl, hbx, hD0, hD1⟩ := hrel
        have HBx := Lib.hid hbx
        have HD0 := Lib.hid hD0
        have HD1 := Lib.hid hD1
        obtain ⟨z0, z1, z2, z3, z4⟩ := HV.out wr hbx
        have hbwx := HBw.out.trans (hbx.mono (show w.heap.size ≤ w.heap.size + 3 by omega))
        have HBwx := Lib.hid hbwx
        have hszx : w.heap.size + 3 ≤ wr.heap.size := Nat.le_trans hsz hbx.size
        clear hbx hD0 hD1
        by_cases hin : i < n
        · obtain ⟨ad, on, Ai, ci, hAo, h0, h1, h2, h3, h4⟩ := HO.out i (by rw [hn]; exact hin)
          subst hAo
          have HX := Lib.hid (fun W (hb : Below w.heap.size w W) => show W.cell? (ad.add (i * 3)) = some (.int .i64 on) ∧ W.cell? ⟨(ad.add (i * 3)).block, (ad.add (i * 3)).off + 1, none⟩ = some (.int .i64 (l.getD i (0, [])).1) ∧ W.cell? ⟨(ad.add (i * 3)).block, (ad.add (i * 3)).off + 2, none⟩ = some (.slice Ai (l.getD i (0, [])).2.length ci) ∧ Kd.C kI W Ai (l.getD i (0, [])).2.length (l.getD i (0, [])).2 from
            ⟨(hb.cell (World.block_lt_of_cell? w _ h0)).trans h0, (hb.cell (World.block_lt_of_cell? w _ h1)).trans h1, (hb.cell (World.block_lt_of_cell? w _ h2)).trans h2, Kd.C_below h3 hb⟩)
          have h8 := H8.out i hin
          clear h0 h1 h2 h3
          obtain ⟨t0, t1, t2, _⟩ := HX.out wr hbwx
          obtain ⟨r, hr, hr0, hr2⟩ := pick_ok on 2 (by decide) (by decide)
          have HPk := Lib.hid (depotkit_Pick.calls on 2 r wr hr)
          generalize l.getD i (0, []) = s at *
          obtain ⟨z, c⟩ := s
          dsimp only at *
          clear hr hbwx
          have hr' : r = 0 ∨ r = 1 := by omega
          clear hr0 hr2
          rcases hr' with rfl | rfl
          · have HKp := Lib.hid (fun W (hb : Below (w.heap.size + 3) wr W) => show (fun X => X.cell? ⟨w.heap.size + 1, 0, none⟩ = some (.pointer (some ⟨b0, 0, none⟩)) ∧ X.cell? ⟨w.heap.size + 1 + 1, 0, none⟩ = some (.pointer (some ⟨r0, 0, none⟩)) ∧ X.cell? ⟨w.heap.size, 4, none⟩ = some (.slice (some ad) n co) ∧ X.cell? (ad.add (i * 3)) = some (.int .i64 on) ∧ X.cell? ⟨(ad.add (i * 3)).block, (ad.add (i * 3)).off + 1, none⟩ = some (.int .i64 z) ∧ X.cell? ⟨(ad.add (i * 3)).block, (ad.add (i * 3)).off + 2, none⟩ = some (.slice Ai c.length ci)) W from by
              obtain ⟨a0, a1, a2, a3, a4⟩ := HV.out W (HBx.out.trans hb)
              obtain ⟨d0, d1, d2, _⟩ := HX.out W (HBwx.out.trans (hb.mono (by omega)))
              exact ⟨a0, a2, a4, d0, d1, d2⟩)
            have HStep := Lib.hid (fun W (hb : Below wr.heap.size wr W) => step_any (w.heap.size + 3) own 0 b0 m0 r0 (M0 + i) F0 D0 o0 on z Ai ci c W (HD0.out.below hb own (fun _ _ => rfl)) (Nat.le_trans hszx hb.size) (fun V hV => (HX.out V ((HBwx.out.trans (hb.mono (by omega))).trans (hV.mono (by omega)))).2.2.2) h4 (by omega) (by show 1048580 + i + 1 ≤ 4194304; omega) (HTB.out W (HBwx.out.trans (hb.mono (by omega)))))
            unfold StepPost at HStep
            go_upto_region 21 with (go_at_call 20; refine HPk.out.mono ?_; rintro e w4 ⟨rfl, q, rfl⟩)
            go_region_held3 (fun X => X.cell? ⟨w.heap.size + 1, 0, none⟩ = some (.pointer (some ⟨b0, 0, none⟩)) ∧ X.cell? ⟨w.heap.size + 1 + 1, 0, none⟩ = some (.pointer (some ⟨r0, 0, none⟩)) ∧ X.cell? ⟨w.heap.size, 4, none⟩ = some (.slice (some ad) n co) ∧ X.cell? (ad.add (i * 3)) = some (.int .i64 on) ∧ X.cell? ⟨(ad.add (i * 3)).block, (ad.add (i * 3)).off + 1, none⟩ = some (.int .i64 z) ∧ X.cell? ⟨(ad.add (i * 3)).block, (ad.add (i * 3)).off + 2, none⟩ = some (.slice Ai c.length ci)) ((refine HKp.out _ ?_; first | exact HB9.out | (repeat (first | exact Below.refl _ _ | apply pw_below_drewN | apply below_drew1)))) (first
              | (go_at_call 21; refine (HStep.out _ (by repeat (first | exact Below.refl _ _ | apply pw_below_drewN | apply below_drew1))).mono ?_; rintro e w9 ⟨rfl, own', F', D', o', hd9, he9⟩; have HD9 := Lib.hid hd9; have HB9 := Lib.hid (show Below (w.heap.size + 3) wr w9 from ((by repeat (first | exact Below.refl _ _ | apply pw_below_drewN | apply below_drew1) : Below (w.heap.size + 3) wr _)).trans he9.below); have HO9 := Lib.hid ((HD1.out.below (by repeat (first | exact Below.refl _ _ | apply pw_below_drewN | apply below_drew1)) own (fun _ _ => rfl)).other he9 (by omega) (by omega) (by omega)); clear hd9 he9))
            all_goals go_wp2
            all_goals go_roundw
            case rel => exact ⟨i + 1, own', F', F1, D', D1, o', o1, by omega, by go_num, HBx.out.trans HB9.out, HD9.out, HO9.out.mono (by omega)⟩
            case measure => simp [intOf]; omega
          · have HKp := Lib.hid (fun W (hb : Below (w.heap.size + 3) wr W) => show (fun X => X.cell? ⟨w.heap.size + 1, 1, none⟩ = some (.pointer (some ⟨b1, 0, none⟩)) ∧ X.cell? ⟨w.heap.size + 1 + 1, 1, none⟩ = some (.pointer (some ⟨r1, 0, none⟩)) ∧ X.cell? ⟨w.heap.size, 4, none⟩ = some (.slice (some ad) n co) ∧ X.cell? (ad.add (i * 3)) = some (.int .i64 on) ∧ X.cell? ⟨(ad.add (i * 3)).block, (ad.add (i * 3)).off + 1, none⟩ = some (.int .i64 z) ∧ X.cell? ⟨(ad.add (i * 3)).block, (ad.add (i * 3)).off + 2, none⟩ = some (.slice Ai c.length ci)) W from by
              obtain ⟨a0, a1, a2, a3, a4⟩ := HV.out W (HBx.out.trans hb)
              obtain ⟨d0, d1, d2, _⟩ := HX.out W (HBwx.out.trans (hb.mono (by omega)))
              exact ⟨a1, a3, a4, d0, d1, d2⟩)
            have HStep := Lib.hid (fun W (hb : Below wr.heap.size wr W) => step_any (w.heap.size + 3) own 2 b1 m1 r1 (M0 + i) F1 D1 o1 on z Ai ci c W (HD1.out.below hb own (fun _ _ => rfl)) (Nat.le_trans hszx hb.size) (fun V hV => (HX.out V ((HBwx.out.trans (hb.mono (by omega))).trans (hV.mono (by omega)))).2.2.2) h4 (by omega) (by show 1048580 + i + 1 ≤ 4194304; omega) (HTB.out W (HBwx.out.trans (hb.mono (by omega)))))
            unfold StepPost at HStep
            go_upto_region 21 with (go_at_call 20; refine HPk.out.mono ?_; rintro e w4 ⟨rfl, q, rfl⟩)
            go_region_held3 (fun X => X.cell? ⟨w.heap.size + 1, 1, none⟩ = some (.pointer (some ⟨b1, 0, none⟩)) ∧ X.cell? ⟨w.heap.size + 1 + 1, 1, none⟩ = some (.pointer (some ⟨r1, 0, none⟩)) ∧ X.cell? ⟨w.heap.size, 4, none⟩ = some (.slice (some ad) n co) ∧ X.cell? (ad.add (i * 3)) = some (.int .i64 on) ∧ X.cell? ⟨(ad.add (i * 3)).block, (ad.add (i * 3)).off + 1, none⟩ = some (.int .i64 z) ∧ X.cell? ⟨(ad.add (i * 3)).block, (ad.add (i * 3)).off + 2, none⟩ = some (.slice Ai c.length ci)) ((refine HKp.out _ ?_; first | exact HB9.out | (repeat (first | exact Below.refl _ _ | apply pw_below_drewN | apply below_drew1)))) (first
              | (go_at_call 21; refine (HStep.out _ (by repeat (first | exact Below.refl _ _ | apply pw_below_drewN | apply below_drew1))).mono ?_; rintro e w9 ⟨rfl, own', F', D', o', hd9, he9⟩; have HD9 := Lib.hid hd9; have HB9 := Lib.hid (show Below (w.heap.size + 3) wr w9 from ((by repeat (first | exact Below.refl _ _ | apply pw_below_drewN | apply below_drew1) : Below (w.heap.size + 3) wr _)).trans he9.below); have HO9 := Lib.hid ((HD0.out.below (by repeat (first | exact Below.refl _ _ | apply pw_below_drewN | apply below_drew1)) own (fun _ _ => rfl)).other he9 (by omega) (by omega) (by omega)); clear hd9 he9))
            all_goals go_wp2
            all_goals go_roundw
            case rel => exact ⟨i + 1, own', F0, F', D0, D', o0, o', by omega, by go_num, HBx.out.trans HB9.out, HO9.out.mono (by omega), HD9.out⟩
            case measure => simp [intOf]; omega
        · obtain rfl : i = n := by omega
          have HW0 := Lib.hid (whole_any (w.heap.size + 3) own 0 b0 m0 r0 (M0 + i) F0 D0 o0 wr HD0.out (by show 1048580 + i ≤ 4194304; omega) (HTB.out wr hbwx))
          have HW1 := Lib.hid (fun W (hb : Below wr.heap.size wr W) => whole_any (w.heap.size + 3) own 2 b1 m1 r1 (M0 + i) F1 D1 o1 W (HD1.out.below hb own (fun _ _ => rfl)) (by show 1048580 + i ≤ 4194304; omega) (HTB.out W (HBwx.out.trans (hb.mono (by omega)))))
          have HVx := Lib.hid (fun W (hb : Below wr.heap.size wr W) => HV.out W (HBx.out.trans (hb.mono hszx)))
          clear hbwx
          go_wp2_with (first
            | (go_at_call_of 22 (Value.pointer (some ⟨b0, 0, none⟩)); refine HW0.out.mono ?_; rintro e w8 ⟨rfl, hb8⟩; have HB8 := Lib.hid hb8; obtain ⟨z10, z11, z12, z13, z14⟩ := HVx.out w8 hb8; clear hb8)
            | (go_at_call_of 22 (Value.pointer (some ⟨b1, 0, none⟩)); refine (HW1.out w8 HB8.out).mono ?_; rintro e w9 ⟨rfl, hb9⟩; have HB9 := Lib.hid hb9; clear hb9))
          go_ret
          exact ⟨by simp, HBwx.out.trans ((HB8.out.trans (HB9.out.mono HB8.out.size)).mono (by omega))⟩
end Go.Proofs.YtcaoobdbgdldaaaGreatDoor.Sc
