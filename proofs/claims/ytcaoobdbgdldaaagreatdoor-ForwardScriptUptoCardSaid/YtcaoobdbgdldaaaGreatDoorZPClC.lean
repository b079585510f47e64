/- Part of the proof of ForwardScript: what the law uses of the text ClC. -/
import Derived.Test.YtcaoobdbgdldaaaGreatDoorZPClB
import Derived.Test.YtcaoobdbgdldaaaGreatDoorZPClk
import Derived.RegionTactic
import Derived.Deep.RegionWith
namespace Go.Proofs.YtcaoobdbgdldaaaGreatDoor.Cl
open Go.RowKit Go.Shelf Go.Maps Go.Proofs.YtcaoobdbgdldaaaGreatDoor.Lit Go.Proofs.YtcaoobdbgdldaaaGreatDoor.Spr Go.Proofs.YtcaoobdbgdldaaaGreatDoor.Fwd Go.Proofs.YtcaoobdbgdldaaaGreatDoorW.PrintWords
set_option linter.unusedVariables false
set_option linter.unusedSimpArgs false
open Go.Proofs.YtcaoobdbgdldaaaGreatDoor.Clk (kL kL_mk infoL)

theorem sort_any (B : Nat) (v : Value) (all : List (List Int)) (w : World) (h : AllR w B v all) (hl : all.length ≤ 4194304) (hx : ∀ t ∈ all, t.length ≤ 2097152) :
    Calls Tryz.prog 72 #[v, .func (.func 73) #[] #[]] w fun e w' =>
      e = .returned (.tuple #[]) ∧ w.grownBy w' v.ownBlock ∧ ∃ ds : List (List Int), ds.Perm all ∧ (∀ i j, i < j → j < ds.length → cmpL ds[i]! ds[j]! ≤ 0) ∧ AllR w' B v ds := by
  have h' := h
  obtain ⟨vs, h1, h2, h3⟩ := h
  rcases h2.2 with ⟨h0, h4⟩ | ⟨g, cap, cells, e1, e2, e3, e4, e5, e6, e7⟩
  · subst h0
    obtain rfl : all = [] := List.length_eq_zero_iff.1 h4
    have hc := AnyF.slices_SortFunc_none { Tryz.laysSR with } none 0 (.func (.func 73) #[] #[]) w
    refine hc.mono ?_
    rintro e w' ⟨rfl, rfl⟩
    exact ⟨rfl, ⟨rfl, rfl, rfl, Nat.le_refl _, fun _ _ _ => rfl⟩, [], List.Perm.refl _, fun i j _ hj => absurd hj (by simp), AllR.nil _ _⟩
  · subst e1
    refine (sort_rows B g cap all w h' hl hx).mono ?_
    rintro e w' ⟨rfl, hg, ds, hp, hs, ha⟩
    rw [hp.length_eq] at ha
    exact ⟨rfl, hg, ds, hp, hs, ha⟩

theorem get_nth {α : Type} {xs : List α} (d : α) {k : Nat} (hk : k < xs.length) : xs.getD k d ∈ xs := by
  rw [getD_nth _ _ _ hk]; exact List.getElem_mem _
def outL (ms ds : List (List Int)) (k : Nat) : List (List Int) := (ds.take k).flatMap fun c => List.replicate (ms.count c) c
theorem outL_zero (ms ds : List (List Int)) : outL ms ds 0 = [] := by simp [outL]
theorem outL_succ (ms ds : List (List Int)) (k : Nat) (hk : k < ds.length) : outL ms ds (k + 1) = outL ms ds k ++ List.replicate (ms.count (ds.getD k [])) (ds.getD k []) := by
  unfold outL
  rw [List.take_add_one, List.getD_eq_getElem?_getD, List.getElem?_eq_getElem hk, List.flatMap_append]
  simp

theorem _root_.Go.Proofs.YtcaoobdbgdldaaaGreatDoor.Fwd.AllR.get {w : World} {B : Nat} {v : Value} {all : List (List Int)} (h : AllR w B v all) {k : Nat} (hk : k < all.length) : ∃ ad c A1 c1, v = .slice (some ad) all.length c ∧ w.cell? (ad.add k) = some (.slice A1 (all.getD k []).length c1) ∧ RowR w B (.slice A1 (all.getD k []).length c1) (all.getD k []) := by
  obtain ⟨vs, h1, h2, h3⟩ := h
  rcases h2.2 with ⟨h0, h4⟩ | ⟨g, cap, cells, e1, e2, e3, e4, _, _, e7⟩
  · exact absurd hk (by omega)
  · have hr := h3 k hk
    obtain ⟨A1, c1, e, _, hi⟩ := hr.ic
    refine ⟨⟨g, 0, none⟩, cap, A1, c1, e1, ?_, by rw [← e]; exact hr⟩
    rw [← e]
    exact h2.cells (g := g) (by rw [e1]; rfl) k _ (by rw [List.getD_eq_getElem?_getD, List.getElem?_eq_getElem (by omega)]; rfl)
theorem FwV.look {w0 : World} {B b m N : Nat} {F : Fw} {v : Value} {w : World} (h : FwV w0 B b m N F v w) {t : List Int} (hl : t.length ≤ 2097152) (hf : ∀ x ∈ t, fm x = true) : (Instr.lookup 86 (.map (some m)) (.string (keyB t)) false).run Tryz.prog w = .ok (.int .i64 (F.ms.count t : Nat)) w := by
  obtain ⟨D, hD, hk⟩ := h.map
  obtain ⟨q, hrun, hat, _⟩ := hD.lookup_int (t := 86) (e := 3) lawS Tryz.underlying86 Tryz.underlying3 (zero3 _) (key_of hl hf)
  have e : dI (F.ms.count t : Nat) = dI q := (hk t).symm.trans hat
  have e2 : ((F.ms.count t : Nat) : Int) = q := by simpa [dI] using e
  rw [e2]
  exact hrun
theorem outB (ms ds : List (List Int)) (hb : ∀ k, (outL ms ds k).length ≤ 4194304) (k : Nat) (hk : k < ds.length) (j : Nat) (hj : j ≤ ms.count (ds.getD k [])) : (outL ms ds k ++ List.replicate j (ds.getD k [])).length ≤ 4194304 := by
  have := hb (k + 1)
  rw [outL_succ ms ds k hk, List.length_append, List.length_replicate] at this
  rw [List.length_append, List.length_replicate]
  omega

set_option maxHeartbeats 8000000 in
set_option maxRecDepth 100000 in
theorem clauses_any (w0 : World) (B b m N : Nat) (F : Fw) (w : World) (h : FwR w0 B b m N F w) (hN : N ≤ 4194304) (hT : Lib.TabBelow Tryz.prog B w0 "internal/strconv.uint64pow10" .u64 Lib.pow10Tab)
    (hb : ∀ ds : List (List Int), ds.Perm F.all → ∀ k, (outL F.ms ds k).length ≤ 4194304) :
    Calls Tryz.prog 36 #[.pointer (some ⟨b, 0, none⟩)] w fun e w' => Below w.heap.size w w' ∧ ∃ v ds, e = .returned v ∧ ds.Perm F.all ∧ (∀ i j, i < j → j < ds.length → cmpL ds[i]! ds[j]! ≤ 0) ∧ Kd.N kL 40 w' w.heap.size (fun k => w.heap.size ≤ k) v (outL F.ms ds ds.length) := by
  obtain ⟨v, h⟩ := h
  have HV := Lib.hid h
  have HT := Lib.hid hT
  have hc1 := h.cell.2.1
  have HCl := Lib.hid (clone_rows B v F.all w h.all h.hw (by have := h.ok.al; omega))
  have HL := Lib.hid hb
  have HBr := Lib.hid (Below.refl w.heap.size w)
  clear h hT hb
  go_enter Tryz.func36, Tryz.ntmps36
  go_wp2_with (first
    | (go_at_call 71; refine HCl.out.mono ?_; rintro e w1 ⟨hb1, v1, rfl, hal, hform⟩; have HB1 := Lib.hid hb1; have HA1 := Lib.hid hal; have HF1 := Lib.hid hform; have HV1 := Lib.hid (HV.out.step hb1); obtain ⟨A1, c1, e1, _, _⟩ := hal.rc; subst e1; clear hb1 hal hform)
    | (go_at_call 72; refine (sort_any B (.slice A1 F.all.length c1) F.all w1 HA1.out (by have := HV.out.ok.al; omega) (fun t ht => (HV.out.ok.af t ht).1)).mono ?_; rintro e w2 ⟨rfl, hg2, ds, hp2, hs2, ha2⟩; have HG2 := Lib.hid hg2; have HP2 := Lib.hid hp2; have HS2 := Lib.hid hs2; have HA2 := Lib.hid ha2; clear hg2 hp2 hs2 ha2))
  have HB2 := Lib.hid (HB1.out.grown HG2.out HB1.out.size (fun j hj => by
    rcases HF1.out with ⟨e, _⟩ | ⟨g, cap, e, hg⟩
    · rw [e] at hj; cases hj
    · rw [e] at hj
      have hj2 : g = j := by simpa [Value.ownBlock] using hj
      omega))
  have HV2 := Lib.hid (HV.out.step HB2.out)
  have HLen := Lib.hid HP2.out.length_eq
  have HX := Lib.hid (fun t (ht : t ∈ ds) => HV.out.ok.af t (HP2.out.mem_iff.1 ht))
  have HLk := Lib.hid (HL.out ds HP2.out)
  have HM := Lib.hid (fun t => show F.ms.count t ≤ 4194304 from by have := List.count_le_length (a := t) (l := F.ms); have := HV.out.ok.ml; omega)
  clear HV1 HA1 HF1 HG2 HCl HL
  have hnb : F.all.length ≤ 4194304 := by have := HV.out.ok.al; omega
  generalize hn : F.all.length = n at *
  go_loopw [4, 16] (fun v i wr => ∃ k : Nat, k ≤ n ∧ i = .int .i64 k ∧ Kd.N kL 40 wr w2.heap.size (fun k => w2.heap.size ≤ k) v (outL F.ms ds k) ∧ Below w2.heap.size w2 wr) (fun _ i _ => n - (intOf i).toNat)
  case atStart => exact ⟨0, Nat.zero_le _, rfl, by rw [outL_zero]; exact Kd.N_nil _ _ _ _ _, Below.refl _ _⟩
  case round =>
    obtain ⟨k, hk, rfl, hNk, hBk⟩ := hrel
    have HNk := Lib.hid hNk
    have HBk := Lib.hid hBk
    clear hNk hBk
    by_cases hlt : k < n
    · obtain ⟨ad, c', Ak, ck, e1, hcell, hrow⟩ := HA2.out.get (k := k) (by rw [HLen.out]; exact hlt)
      injection e1 with e1 e2 e3
      clear e2 e3
      subst e1
      have HR := Lib.hid (fun wx (hb : Below w2.heap.size w2 wx) => hrow.keep (.of_below hb))
      have hck : wr.cell? (ad.add k) = some (.slice Ak (ds.getD k []).length ck) := (HBk.out.cell (World.block_lt_of_cell? _ _ hcell)).trans hcell
      have Hx := Lib.hid (HX.out (ds.getD k []) (get_nth [] (by rw [HLen.out]; exact hlt)))
      have HSu := Lib.hid (outL_succ F.ms ds k (by rw [HLen.out]; exact hlt))
      have HOb := Lib.hid (fun j hj => outB F.ms ds HLk.out k (by rw [HLen.out]; exact hlt) j hj)
      have HMk := Lib.hid (HM.out (ds.getD k []))
      have HVr := Lib.hid (HV2.out.step HBk.out)
      have HIc := Lib.hid (fun wx (hb : Below w2.heap.size w2 wx) => show IC wx Ak (ds.getD k []) from by
        obtain ⟨A', c', e, _, hi⟩ := ((HR.out) wx hb).ic
        injection e with e
        subst e; exact hi)
      have hcr := HVr.out.cell.1
      clear hcell hrow
      generalize ds.getD k [] = t at *
      have hcd := (HVr.out.step (w1 := wr.drew) ((Below.refl _ _).drew)).cell.1
      have HTx := Lib.hid (fun wx (hb : Below wr.heap.size wr wx) => text_key Ak ck t wx (HIc.out _ (HBk.out.trans (hb.mono HBk.out.size))) Hx.out.1 Hx.out.2 (HT.out _ (HVr.out.step hb).base))
      have HLo := Lib.hid (fun wx (hb : Below wr.heap.size wr wx) => And.intro (HVr.out.step hb).cell.1 (FwV.look (HVr.out.step hb) Hx.out.1 Hx.out.2))
      generalize F.ms.count t = z at *
      go_upto_region 7 with (fail)
      go_cut [26, 27] (fun z' j wx => z' = .int .i64 z ∧ j = .int .i64 0 ∧ Below wr.heap.size wr wx)
      case first =>
        go_region_with (go_at_call 66; refine (HTx.out _ (by first | exact (Below.refl _ _).drew | exact Below.refl _ _)).mono ?_; rintro e w3 ⟨rfl, hb3⟩; have hb4 : Below wr.heap.size wr w3 := (by first | exact ((Below.refl wr.heap.size wr).drew).trans hb3 | exact hb3); have HB3 := Lib.hid hb4; obtain ⟨hc30, hlk⟩ := HLo.out w3 hb4; clear hb3 hb4)
        all_goals (go_wp2; go_meet; first | exact HB3.out | exact ⟨rfl, rfl, HB3.out⟩ | exact ⟨trivial, trivial, HB3.out⟩)
      case rest =>
        obtain ⟨rfl, rfl, hbc⟩ := hcut
        have HBc := Lib.hid (HBk.out.trans (hbc.mono HBk.out.size))
        have HNc := Lib.hid (Kd.N_below HNk.out hbc)
        clear hbc HNk HBk HTx HLo HVr
        have hzb := HMk.out
        generalize hys : outL F.ms ds k = ys at *
        go_wp2
        go_loopw [4, 27] (fun v' j wx => ∃ q : Nat, q ≤ z ∧ j = .int .i64 q ∧ Kd.N kL 40 wx w2.heap.size (fun k => w2.heap.size ≤ k) v' (ys ++ List.replicate q t) ∧ Below w2.heap.size w2 wx) (fun _ j _ => z - (intOf j).toNat)
        case atStart => exact ⟨0, Nat.zero_le _, rfl, by simpa using HNc.out, HBc.out⟩
        case round =>
          obtain ⟨q, hq, rfl, hNq, hBq⟩ := hrel
          by_cases hqz : q < z
          · have HNq := Lib.hid hNq
            have HBq := Lib.hid hBq
            have HCi := Lib.hid (clone_ints B _ t _ (HR.out _ hBq) Hx.out.1)
            have hlq := HOb.out q (by omega)
            have HRp := Lib.hid (show ys ++ List.replicate (q + 1) t = (ys ++ List.replicate q t) ++ [t] by rw [List.replicate_succ', List.append_assoc])
            clear hNq hBq
            generalize ys ++ List.replicate q t = zs at *
            unfold ClonePost at HCi
            go_wp2_with (first
              | (go_at_call 74; refine HCi.out.mono ?_; rintro e w5 ⟨hb5, v5, rfl, hown5⟩; have HB5 := Lib.hid (HBq.out.trans (hb5.mono HBq.out.size)); have HR5 := Lib.hid (r_of_own (by rw [show (ints .i64 t).length = t.length by simp [ints]]; exact hown5)); have HN5 := Lib.hid (Kd.N_below HNq.out hb5); have HS5 := Lib.hid hb5.size; clear hb5 hown5; obtain ⟨A5, c5, e5⟩ := Kd.R_slice HR5.out; subst e5)
              | (at_builtin; refine Kd.N_append kL (w0 := w2) w2.heap.size rfl (.tmp 29) (.tmp 32) 22 40 (.slice none 0 0) 24 rfl Tryz.underlying22 infoL rfl (by decide) (by decide) _ zs t [.slice A5 t.length c5] (fun k => w2.heap.size ≤ k) (fun k => some k = (Value.slice A5 t.length c5).ownBlock) rfl rfl (kL_mk (Kd.R_reads' HR5.out).2.1 (Kd.R_F (Kd.R_tight rfl HR5.out))) (fun k hk => ⟨Nat.le_trans HBq.out.size (Kd.R_base HR5.out k hk.symm), by obtain ⟨cells, hcl⟩ := Kd.R_typed HR5.out k hk.symm; exact Kd.N_ne HN5.out hcl (by decide)⟩) (fun k hk => Nat.le_trans HB5.out.size hk) HN5.out HB5.out HB5.out.size (by omega) ?_; intro v6 w6 hN6 hB6 hg6 hat6; have HN6 := Lib.hid hN6; have HB6 := Lib.hid hB6; clear hN6 hB6 hg6 hat6))
            go_roundw
            case rel => exact ⟨q + 1, by omega, by go_num, by rw [HRp.out]; exact HN6.out, HB6.out⟩
            case measure => simp [intOf]; omega
          · obtain rfl : q = z := by omega
            have HNq := Lib.hid (show Kd.N kL 40 wr w2.heap.size (fun k => w2.heap.size ≤ k) u4 (outL F.ms ds (k + 1)) from by rw [HSu.out]; exact hNq)
            have HBq := Lib.hid hBq
            clear hNq hBq
            go_wp2
            go_roundw
            case rel => exact ⟨k + 1, by omega, by go_num, HNq.out, HBq.out⟩
            case measure => simp [intOf]; omega
    · obtain rfl : k = n := by omega
      have HNq := Lib.hid HNk.out
      go_wp2
      go_ret
      refine ⟨HB2.out.trans (HBk.out.mono HB2.out.size), _, ds, rfl, HP2.out, HS2.out, ?_⟩
      rw [HLen.out]
      exact Kd.N_lower (Kd.N_mono HNk.out (fun j hj => Nat.le_trans HB2.out.size hj)) HB2.out.size
end Go.Proofs.YtcaoobdbgdldaaaGreatDoor.Cl
