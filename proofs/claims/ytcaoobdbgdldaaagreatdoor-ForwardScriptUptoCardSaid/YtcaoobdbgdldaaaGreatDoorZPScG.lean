/- Part of the proof of ForwardScript: what the law uses of the text ScG. -/
import Derived.Test.YtcaoobdbgdldaaaGreatDoorZPScF
import Derived.Test.YtcaoobdbgdldaaaGreatDoorZPJRefA
import Derived.Test.YtcaoobdbgdldaaaGreatDoorZPJP9
import Derived.Test.YtcaoobdbgdldaaaGreatDoorZPFwP
import Derived.Test.YtcaoobdbgdldaaaGreatDoorZPSnd
namespace Go.Proofs.YtcaoobdbgdldaaaGreatDoor.Sc
open Go.RowKit Go.Proofs.YtcaoobdbgdldaaaGreatDoor.Lit Go.Proofs.YtcaoobdbgdldaaaGreatDoor.Spr Go.Proofs.YtcaoobdbgdldaaaGreatDoor.P Go.Proofs.YtcaoobdbgdldaaaGreatDoor.Rf Go.Proofs.YtcaoobdbgdldaaaGreatDoor.Rfw Go.Proofs.YtcaoobdbgdldaaaGreatDoor.Cl Go.Proofs.YtcaoobdbgdldaaaGreatDoorW.PrintWords Go.Proofs.YtcaoobdbgdldaaaGreatDoorW.PrintLast
open Go.Proofs.YtcaoobdbgdldaaaGreatDoor.Fwd (Fw FwR FwV KeepI KeepT KeepO rowOf rowOf_blk MapR)
set_option linter.unusedVariables false
set_option linter.unusedSimpArgs false

theorem fdone_any (w0 : World) (B b m N : Nat) (F : Fw) (w : World) (h : FwR w0 B b m N F w) :
    Calls Tryz.prog 37 #[.pointer (some ⟨b, 0, none⟩)] w fun e w' => e = .returned (.bool F.done) ∧ w' = w := by
  obtain ⟨v, h⟩ := h
  obtain ⟨_, _, _, h3⟩ := h.cell
  clear h
  go_enter Tryz.func37, Tryz.ntmps37
  go_wp2
  go_ret
  exact ⟨rfl, rfl⟩
theorem same_cl_l (l : List (List Int)) (hl : l.length < 9223372036854775807) (h8 : ∀ c ∈ l, c.length < 9223372036854775807) : ∀ (d n : Nat), l.length - n = d → n ≤ l.length → Ev (fun k => depotref00_SameClauses.l0 k l l (n : Int)) true := by
  intro d
  induction d with
  | zero =>
    intro n hd hn
    exact Ev.step (f := fun _ => some true) (fun k => by simp only [depotref00_SameClauses.l0]; rw [if_neg (by omega)]) (Ev.now _)
  | succ d ih =>
    intro n hd hn
    have hlt : n < l.length := by omega
    refine Ev.step (f := fun k => (depotref00_SameInts.f k (l.getD n []) (l.getD n [])).bind fun t => if t = true then depotref00_SameClauses.l0 k l l ((n + 1 : Nat) : Int) else some false) (fun k => ?_) ?_
    · simp only [depotref00_SameClauses.l0]
      rw [if_pos (by omega), if_pos (by omega), if_pos (by omega), rdL_nat, wrap_nat (n := n) (by omega)]
    · refine Ev.bind (sameInts _ (h8 _ (get_nth [] hlt))) ?_
      exact Ev.congr (fun k => if_pos rfl) (ih (n + 1) (by omega) (by omega))
theorem samecl_any (A0 : Option Addr) (c0 : Nat) (A1 : Option Addr) (c1 : Nat) (l : List (List Int)) (w : World) (h0 : Kd.C kL w A0 l.length l) (hc0 : l.length ≤ c0) (h1 : Kd.C kL w A1 l.length l) (hc1 : l.length ≤ c1) (hl : l.length < 9223372036854775807) (h8 : ∀ c ∈ l, c.length < 9223372036854775807) :
    Calls Tryz.prog 47 #[.slice A0 l.length c0, .slice A1 l.length c1] w fun e w' => e = .returned (.bool true) ∧ Below w.heap.size w w' := by
  have h : Ev (fun k => depotref00_SameClauses.f k l l) true := by
    unfold depotref00_SameClauses.f
    exact Ev.congr (fun k => if_pos rfl) (same_cl_l l hl h8 _ 0 rfl (by omega))
  obtain ⟨k, hk⟩ := h.rounds
  exact (depotref00_SameClauses.calls k A0 c0 l A1 c1 l _ w h0 hc0 h1 hc1 hk).mono fun e w' hh => ⟨hh.1, hh.2.below⟩
theorem sameints_any (A0 : Option Addr) (c0 : Nat) (A1 : Option Addr) (c1 : Nat) (l : List Int) (w : World) (h0 : Kd.C kI w A0 l.length l) (hc0 : l.length ≤ c0) (h1 : Kd.C kI w A1 l.length l) (hc1 : l.length ≤ c1) (hl : l.length < 9223372036854775807) :
    Calls Tryz.prog 51 #[.slice A0 l.length c0, .slice A1 l.length c1] w fun e w' => e = .returned (.bool true) ∧ Below w.heap.size w w' := by
  obtain ⟨k, hk⟩ := (sameInts l hl).rounds
  exact (depotref00_SameInts.calls k A0 c0 l A1 c1 l _ w h0 hc0 h1 hc1 hk).mono fun e w' hh => ⟨hh.1, hh.2.below⟩
theorem pick_ok (z n : Int) (hn : 0 < n) (hn2 : n ≤ 1000) : ∃ r, depotkit_Pick.f z n = some r ∧ 0 ≤ r ∧ r < n := by
  unfold depotkit_Pick.f
  rw [if_neg (by omega)]
  have h1 := Int.tmod_lt_of_pos z hn
  have h2 : -n < Int.tmod z n := by
    have := Int.lt_tmod_of_pos z hn
    simpa using this
  split
  · refine ⟨_, rfl, ?_⟩
    unfold wrap64
    omega
  · exact ⟨_, rfl, by omega, h1⟩

theorem Duo.below {B : Nat} {own : Nat → Nat} {t b m br N : Nat} {F : Fw} {A : List (List Int)} {o : Bool} {w w1 : World} (h : Duo B own t b m br N F A o w) (hb : Below w.heap.size w w1) (own' : Nat → Nat) (hs : ∀ g, g < w.heap.size → own' g = own g) : Duo B own' t b m br N F A o w1 := by
  obtain ⟨f1, f2, f3⟩ := FwR.facts h.fw
  obtain ⟨r1, r2⟩ := RfR.facts h.rf
  have kb := hb.block b f1
  have kr := hb.block br r1
  refine ⟨(h.fw.step hb).rebase, rf_move h.rf (fun g hg _ => hb.block g hg) kr (fun g hg hl => (hs g hg).trans hl), (hs b f1).trans h.lb, (hs m f2).trans h.lm, fun g hg => ?_, (hs br r1).trans h.lr, fun g hg => ?_, h.sr, h.ok, h.la⟩
  · rw [row_same kb] at hg
    rw [hs g (f3 g hg)]; exact h.lv g hg
  · rw [row_same kr] at hg
    rw [hs g (r2 g hg)]; exact h.lq g hg
def mid (own : Nat → Nat) (w w1 : World) (t : Nat) : Nat → Prop := fun k => lab own w.heap.size t k = t + 1 ∨ w1.heap.size ≤ k
theorem Duo.mid {B : Nat} {own : Nat → Nat} {t b m br N N' : Nat} {F G : Fw} {A : List (List Int)} {o : Bool} {w w1 : World} (h : Duo B own t b m br N F A o w) (h' : FwR w B b m N' G w1) : RfR (mid own w w1 t) w1 B br A o w1 := by
  obtain ⟨e1, e2, e3⟩ := eff_fw h.fw h' h.lb h.lm h.lv
  obtain ⟨r1, r2⟩ := RfR.facts h.rf
  exact rf_move h.rf (fun g hg hl => e3 g hg (by rw [hl]; omega)) (e3 br r1 (by rw [h.lr]; omega)) (fun g hg hl => .inl (by rw [lab_old _ _ _ hg]; exact hl))
theorem Duo.fin {B : Nat} {own : Nat → Nat} {t b m br N N' : Nat} {F G : Fw} {A A' : List (List Int)} {o o' : Bool} {w w1 w2 : World} (h : Duo B own t b m br N F A o w) (h' : FwR w B b m N' G w1) (h2 : RfR (Sc.mid own w w1 t) w1 B br A' o' w2) (sr : SRel G A' o') (ok : RfOk A') (la : A'.length ≤ N') :
    ∃ own', Duo B own' t b m br N' G A' o' w2 ∧ Eff t B own own' w w2 := by
  obtain ⟨e1, e2, e3⟩ := eff_fw h.fw h' h.lb h.lm h.lv
  obtain ⟨r1, r2⟩ := RfR.facts h.rf
  have hm := Duo.mid h h'
  have kr : w1.heap[br]? = w.heap[br]? := e3 br r1 (by rw [h.lr]; omega)
  have lr1 : lab own w.heap.size t br = t + 1 := by rw [lab_old _ _ _ r1]; exact h.lr
  have lq1 : ∀ g, rowOf 0 w1 br = some g → lab own w.heap.size t g = t + 1 := fun g hg => by
    rw [row_same kr] at hg
    rw [lab_old _ _ _ (r2 g hg)]; exact h.lq g hg
  obtain ⟨d1, d2, d3⟩ := eff_rf hm h2 lr1 lq1
  obtain ⟨f1, f2, f3⟩ := FwR.facts h'
  obtain ⟨g1, g2, _⟩ := FwR.facts h.fw
  have lb1 : lab own w.heap.size t b = t := by rw [lab_old _ _ _ g1]; exact h.lb
  have lm1 : lab own w.heap.size t m = t := by rw [lab_old _ _ _ g2]; exact h.lm
  have kb := d3 b f1 (by rw [lb1]; omega)
  have km := d3 m f2 (by rw [lm1]; omega)
  have hs := d1.size
  refine ⟨lab (lab own w.heap.size t) w1.heap.size (t + 1), ⟨fw_move h' hs d1.ints kb km (fun g hg => d3 g (f3 g hg) (by rw [e2 g hg]; omega)), rf_move h2 (fun _ _ _ => rfl) rfl (fun g hg hl => ?_), ?_, ?_, fun g hg => ?_, ?_, d2, sr, ok, la⟩, e1.trans d1⟩
  · by_cases hg1 : g < w1.heap.size
    · rw [lab_old _ _ _ hg1]
      rcases hl with hl | hl
      · exact hl
      · omega
    · exact lab_new _ _ _ (by omega)
  · rw [lab_old _ _ _ f1]; exact lb1
  · rw [lab_old _ _ _ f2]; exact lm1
  · rw [row_same kb] at hg
    rw [lab_old _ _ _ (f3 g hg)]; exact e2 g hg
  · have := (RfR.facts hm).1
    rw [lab_old _ _ _ this]; exact lr1
theorem ok_drop {A : List (List Int)} {N : Nat} (hok : RfOk A) (hN : A.length ≤ N) (o : Bool) (c : List Int) : (rDrop A o c).2.2.length ≤ N + 1 ∧ RfOk (rDrop A o c).2.2 := by
  have h1 : (rDrop A o c).2.2 = A ∨ (rDrop A o c).2.2 = outN A (atN A c A.length) A.length := by
    unfold rDrop
    split
    · split
      · exact .inl rfl
      · split
        · exact .inl rfl
        · split
          · exact .inl rfl
          · exact .inr rfl
    · exact .inl rfl
  rcases h1 with e | e
  · rw [e]; exact ⟨by omega, hok⟩
  · rw [e]
    have hl := outN_len A (atN A c A.length) A.length
    have hm : ∀ d ∈ outN A (atN A c A.length) A.length, d ∈ A := fun d hd => by
      obtain ⟨j, hj, e⟩ := outN_mem A _ _ d hd
      rw [e]; exact get_nth [] hj
    exact ⟨by omega, ⟨by have := hok.l; omega, fun d hd => hok.c8 d (hm d hd), fun d hd => hok.f d (hm d hd)⟩⟩
theorem ok_add {A : List (List Int)} {N : Nat} (hok : RfOk A) (hN : A.length ≤ N) (hN2 : N + 1 ≤ 4194304) (o : Bool) (c : List Int) (hc : c.length ≤ 2097152) : (rAdd A o c).2.2.1.length ≤ N + 1 ∧ RfOk (rAdd A o c).2.2.1 := by
  unfold rAdd
  by_cases hs : c.all fm = true
  · rw [if_pos hs]
    by_cases ho : o = true
    · rw [if_pos ho]; exact ⟨by show A.length ≤ N + 1; omega, hok⟩
    · rw [if_neg ho]
      by_cases hk : (kindA 1048576 A c).1 = 0
      · rw [if_pos hk]; exact ⟨by show A.length ≤ N + 1; omega, hok⟩
      · rw [if_neg hk]
        refine ⟨by show (A ++ [c]).length ≤ N + 1; simp; omega, ⟨by show (A ++ [c]).length ≤ _; simp; omega, fun d hd => ?_, fun d hd => ?_⟩⟩
        · rcases List.mem_append.1 hd with h | h
          · exact hok.c8 d h
          · rw [List.mem_singleton.1 h]; exact hc
        · rcases List.mem_append.1 hd with h | h
          · exact hok.f d h
          · rw [List.mem_singleton.1 h]; exact List.all_eq_true.1 hs
  · rw [if_neg hs]; exact ⟨by show A.length ≤ N + 1; omega, hok⟩
end Go.Proofs.YtcaoobdbgdldaaaGreatDoor.Sc
