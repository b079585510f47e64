/- Part of the proof of ForwardScript: what the law uses of the texts Follows, Safe. -/
import Derived.Test.YtcaoobdbgdldaaaGreatDoorZPJUpA
import Derived.Deep.RegionHeld3
namespace Go.Proofs.YtcaoobdbgdldaaaGreatDoor.Spr
open Go.RowKit Go.Maps Go.Proofs.YtcaoobdbgdldaaaGreatDoor.Lit
set_option linter.unusedVariables false

set_option maxHeartbeats 1000000 in
set_option maxRecDepth 100000 in
theorem catch_clash (b : Nat) (older : List PanicEntry) (w : World) (hc : w.cell? ⟨b, 0, none⟩ = some (.bool false)) (hz : w.frozen? ⟨b, 0, none⟩ = false) :
    CallsD Tryz.prog 118 #[.pointer (some ⟨b, 0, none⟩)] (.panicking ({ v := clashV, recovered := false } :: older)) w fun e u' w' =>
      e = .returned (.tuple #[]) ∧ u' = .panicking ({ v := clashV, recovered := true } :: older) ∧ w' = (w.alloc (.cells #[] 136)).setCell ⟨b, 0, none⟩ (.bool true) := by
  have hb : b < w.heap.size := World.block_lt_of_cell? w _ hc
  have hB : Below w.heap.size w (w.alloc (.cells #[] 136)) := (Below.refl _ _).alloc (Nat.le_refl _) _
  have hc2 := (hB.cell (p := ⟨b, 0, none⟩) hb).trans hc
  have hz2 := (hB.frozen (p := ⟨b, 0, none⟩) hb).trans hz
  clear hb hB
  refine callsD_of_wpS Tryz.func118 rfl fun c₀ cs hu => ?_
  apply wpS_seq
  apply wpS_region
  simp [wpOpsS, go_sem, recoverD, hu, Tryz.ntmps118, Exit.thenS]
  refine wpS_of_wp ?_
  have e : (#[Value.pointer (some ⟨b, 0, none⟩)] ++ (Array.replicate 9 undef).setIfInBounds 3 clashV) = #[.pointer (some ⟨b, 0, none⟩), undef, undef, undef, .iface 136 (.agg #[]), undef, undef, undef, undef, undef] := by rfl
  rw [e]
  have hta : ∀ w : World, (Instr.typeAssert (.iface 136 (.agg #[])) 20 136 true).run Tryz.prog w = .ok (.tuple #[.agg #[], .bool true]) w := fun w => by kernel_rfl
  go_wp2
  cases c₀
  simp_all [bodyPostS, results, Tryz.results118]

set_option maxHeartbeats 1000000 in
theorem catch_none (p : Addr) (w : World) (hc : w.cell? p = some (.bool false)) (hz : w.frozen? p = false) :
    CallsD Tryz.prog 118 #[.pointer (some p)] .returning w fun e u' w' =>
      e = .returned (.tuple #[]) ∧ u' = .returning ∧ w' = w := by
  refine callsD_of_wpS Tryz.func118 rfl fun c₀ cs hu => ?_
  apply wpS_seq
  apply wpS_region
  simp [wpOpsS, go_sem, recoverD, hu, Tryz.ntmps118, Exit.thenS]
  refine wpS_of_wp ?_
  go_wp2
  cases c₀
  simp_all [bodyPostS, results, Tryz.results118]

def followsR (v : Int) (cs : List (List Int)) (c : List Int) : Bool := (closeR v cs (negL c)).2.1

set_option maxHeartbeats 2000000 in
set_option maxRecDepth 100000 in
theorem follows_any (v : Int) (A : Option Addr) (c0 : Nat) (cs : List (List Int)) (Af : Option Addr) (cf : Nat) (c : List Int) (w : World) (hC : RC w A cs) (hF : IC w Af c) (hS : Fits cs c) (hfm : ∀ l ∈ c, fm l = true) :
    Calls Tryz.prog 94 #[.agg #[.int .i64 v, .slice A cs.length c0], .slice Af c.length cf] w fun e w' => e = .returned (.bool (followsR v cs c)) ∧ Below w.heap.size w w' := by
  have hmf : ∀ (fn : Fn) (first cap : Array Value) (w : World), (Instr.makeFunc fn first cap).run Tryz.prog w = .ok (.func fn first cap) w := fun _ _ _ _ => rfl
  unfold followsR
  have HM := Lib.hid (fun (w2 : World) (hb : Below w.heap.size w w2) => meet_any v A c0 cs Af cf c w2 (hC.below hb) (hF.below hb) hS hfm)
  unfold MeetPost at HM
  have hW : Below w.heap.size w ((w.alloc (.cells #[.int .i64 v, .slice A cs.length c0] 24)).alloc (.cells #[.bool false] 4)) := ((Below.refl _ _).alloc (Nat.le_refl _) _).alloc (by simp) _
  have HM2 := Lib.hid (HM.out _ hW)
  have HW := Lib.hid hW
  have hcW : ((w.alloc (.cells #[.int .i64 v, .slice A cs.length c0] 24)).alloc (.cells #[.bool false] 4)).cell? ⟨w.heap.size + 1, 0, none⟩ = some (.bool false) := by simp
  have hfW : ((w.alloc (.cells #[.int .i64 v, .slice A cs.length c0] 24)).alloc (.cells #[.bool false] 4)).frozen? ⟨w.heap.size + 1, 0, none⟩ = false := by simp
  have HCW := Lib.hid (And.intro hcW hfW)
  generalize (closeR v cs (negL c)).2.1 = b at *
  generalize c.length = n at *
  clear hC hF hS hfm hW HM hcW hfW
  cases b with
  | true =>
    go_enter_defers Tryz.func94, Tryz.ntmps94
    go_wp2_with (go_at_call 119; refine HM2.out.mono ?_; rintro e w5 ⟨rfl, hb5⟩; have HB5 := Lib.hid hb5; have hc5 := (hb5.cell (p := ⟨w.heap.size + 1, 0, none⟩) (by simp)).trans HCW.out.1; have hf5 := (hb5.frozen (p := ⟨w.heap.size + 1, 0, none⟩) (by simp)).trans HCW.out.2; clear hb5)
    have hlt5 : w.heap.size + 1 < w5.heap.size := World.block_lt_of_cell? w5 _ hc5
    have hb6 : Below w5.heap.size w5 (w5.alloc (.cells #[] 136)) := (Below.refl _ _).alloc (Nat.le_refl _) _
    have hc6 := (hb6.cell (p := ⟨w.heap.size + 1, 0, none⟩) hlt5).trans hc5
    have hr6 : ((w5.alloc (.cells #[] 136)).setCell ⟨w.heap.size + 1, 0, none⟩ (.bool true)).cell? ⟨w.heap.size + 1, 0, none⟩ = some (.bool true) := World.cell?_setCell_same _ _ _ hc6
    refine leaves_cons (f := 118) (args := #[.pointer (some ⟨w.heap.size + 1, 0, none⟩)]) (by simp) (by simp [go_sem]) ?_
    refine (catch_clash (w.heap.size + 1) [] _ hc5 hf5).mono ?_
    rintro e u' w'' ⟨rfl, rfl, rfl⟩
    refine ⟨.bool true, ?_, rfl, ?_⟩
    · simp [results, Tryz.results94, go_sem, hr6]
    · exact HW.out.trans (((HB5.out.trans (hb6.mono HB5.out.size)).mono HW.out.size).setCell (by simp) _)
  | false =>
    go_enter_defers Tryz.func94, Tryz.ntmps94
    go_wp2_with (go_at_call 119; refine HM2.out.mono ?_; rintro e w5 ⟨rfl, hb5⟩; have HB5 := Lib.hid hb5; have hc5 := (hb5.cell (p := ⟨w.heap.size + 1, 0, none⟩) (by simp)).trans HCW.out.1; have hf5 := (hb5.frozen (p := ⟨w.heap.size + 1, 0, none⟩) (by simp)).trans HCW.out.2; clear hb5)
    have hr6 : (w5.setCell ⟨w.heap.size + 1, 0, none⟩ (.bool false)).cell? ⟨w.heap.size + 1, 0, none⟩ = some (.bool false) := World.cell?_setCell_same _ _ _ hc5
    have hf6 : (w5.setCell ⟨w.heap.size + 1, 0, none⟩ (.bool false)).frozen? ⟨w.heap.size + 1, 0, none⟩ = false := by rw [World.frozen?_setCell]; exact hf5
    refine leaves_cons (f := 118) (args := #[.pointer (some ⟨w.heap.size + 1, 0, none⟩)]) (by simp) (by simp [go_sem]) ?_
    refine (catch_none ⟨w.heap.size + 1, 0, none⟩ _ hr6 hf6).mono ?_
    rintro e u' w'' ⟨rfl, rfl, rfl⟩
    refine ⟨.bool false, ?_, rfl, ?_⟩
    · simp [results, Tryz.results94, go_sem, hr6]
    · exact HW.out.trans ((HB5.out.mono HW.out.size).setCell (by simp) _)

end Go.Proofs.YtcaoobdbgdldaaaGreatDoor.Spr

namespace Go.Proofs.YtcaoobdbgdldaaaGreatDoor.Spr
open Go.RowKit Go.Maps Go.Proofs.YtcaoobdbgdldaaaGreatDoor.Lit Go.Shelf Go.Proofs
set_option linter.unusedVariables false

theorem join_fm (a b : List Int) : ∀ l ∈ joinL a b, fm l = true := fun l h => ((mem_tidy _ l).1 h).2
theorem join_len (a b : List Int) : (joinL a b).length ≤ 2097152 := tidy_len _

set_option maxHeartbeats 2000000 in
set_option maxRecDepth 100000 in
theorem safe1_any (bf bc : Nat) (v : Int) (A : Option Addr) (c0 : Nat) (cs : List (List Int)) (Af : Option Addr) (cf : Nat) (c : List Int) (A2 : Option Addr) (c2 : Nat) (rest : List Int) (w : World)
    (hf0 : w.cell? ⟨bf, 0, none⟩ = some (.int .i64 v)) (hf1 : w.cell? ⟨bf, 1, none⟩ = some (.slice A cs.length c0)) (hc0 : w.cell? ⟨bc, 0, none⟩ = some (.slice Af c.length cf))
    (hC : RC w A cs) (hF : IC w Af c) (hR : IC w A2 rest) (hS : Fits cs []) (hl : (c.length + rest.length) * 8 ≤ 281474976710656) :
    Calls Tryz.prog 121 #[.slice A2 rest.length c2, .pointer (some ⟨bf, 0, none⟩), .pointer (some ⟨bc, 0, none⟩)] w (SafePost w (followsR v cs (joinL c rest))) := by
  have HJ := Lib.hid (fun (w2 : World) (hb : Below w.heap.size w w2) => join_any Af A2 cf c2 c rest w2 (hF.below hb) (hR.below hb) hl)
  have HFo := Lib.hid (fun (w2 : World) (hb : Below w.heap.size w w2) (A3 : Option Addr) (c3 : Nat) (h3 : IC w2 A3 (joinL c rest)) => follows_any v A c0 cs A3 c3 (joinL c rest) w2 (hC.below hb) h3 ⟨hS.1, hS.2.1, by have := join_len c rest; omega⟩ (join_fm c rest))
  unfold RowPost at HJ
  unfold SafePost
  generalize followsR v cs (joinL c rest) = b at *
  generalize joinL c rest = zs at *
  have HC := Lib.hid (And.intro hf0 (And.intro hf1 hc0))
  have hb1 : bf < w.heap.size := World.block_lt_of_cell? w _ hf0
  have hb2 : bc < w.heap.size := World.block_lt_of_cell? w _ hc0
  clear hC hF hR hS hl
  generalize c.length = n at *
  generalize rest.length = m at *
  generalize cs.length = k at *
  go_enter Tryz.func121, Tryz.ntmps121
  go_wp2
  go_region_with (first
    | (go_at_call 122; refine (HJ.out _ (below_drewN (Below.refl _ _) _)).mono ?_; rintro e w1 ⟨v1, rfl, ho1, hB1⟩; obtain ⟨A3, c3, rfl, hi1⟩ := own_IC ho1; have HI1 := Lib.hid hi1; have HB1 := Lib.hid ((below_drewN (Below.refl _ _) _).trans hB1); have hg0 := (hB1.cell (p := ⟨bf, 0, none⟩) hb1).trans HC.out.1; have hg1 := (hB1.cell (p := ⟨bf, 1, none⟩) hb1).trans HC.out.2.1; clear ho1 hi1 hB1)
    | (go_at_call 94; refine (HFo.out _ HB1.out A3 c3 HI1.out).mono ?_; rintro e w2 ⟨rfl, hB2⟩; have HB2 := Lib.hid (HB1.out.trans (hB2.mono HB1.out.size)); clear hB2))
  all_goals (go_wp2; go_ret; exact ⟨rfl, HB2.out⟩)

def partB (l : Int) (R : List Int → Bool) (d : List Int) : Bool := !hasB d (-l) || R (withoutL d (-l))
theorem without_len (d : List Int) (l : Int) : (withoutL d l).length ≤ 2097152 := by
  unfold withoutL dropL
  exact Nat.le_trans (List.length_filter_le _ _) (tidy_len d)
set_option maxHeartbeats 4000000 in
set_option maxRecDepth 100000 in
theorem each_any (g : FuncId) (cap : Array Value) (R : List Int → Bool) (v : Int) (A : Option Addr) (c0 : Nat) (cs : List (List Int)) (Af : Option Addr) (cf : Nat) (c : List Int) (w : World)
    (heg : ∀ args w, (callFunc g args).run Tryz.prog w = .ok (.enter g args) w)
    (hC : RC w A cs) (hF : IC w Af c) (hS : Fits cs []) (hp : 0 < c.length) (hfm : ∀ l ∈ c, fm l = true)
    (hR : ∀ w2, Below w.heap.size w w2 → ∀ A2 c2 rest, IC w2 A2 rest → rest.length ≤ 2097152 → Calls Tryz.prog g (#[.slice A2 rest.length c2] ++ cap) w2 (SafePost w2 (R rest))) :
    Calls Tryz.prog 120 #[.agg #[.int .i64 v, .slice A cs.length c0], .slice Af c.length cf, .func (.func g) #[] cap] w (SafePost w (cs.all (partB (c.getD 0 0) R))) := by
  obtain ⟨af, hAf, hx0⟩ := hF 0 hp
  have e0 : af.add 0 = af := by cases af; simp [Addr.add]
  rw [e0] at hx0
  clear e0
  obtain ⟨l1, l2, l3⟩ := fm_true (hfm (c.getD 0 0) (by rw [List.getD_eq_getElem?_getD, List.getElem?_eq_getElem hp]; exact List.getElem_mem _))
  generalize c.getD 0 0 = l at *
  subst hAf
  have hHB : Below w.heap.size w (w.alloc (.cells #[.int .i64 v, .slice A cs.length c0] 24)) := (Below.refl _ _).alloc (Nat.le_refl _) _
  have HB := Lib.hid hHB
  have HC := Lib.hid hC
  have HS := Lib.hid hS
  have HR := Lib.hid hR
  have hcs : (cs.length : Int) ≤ 9223372036854775807 := by have := hS.1; omega
  have hsz : (w.alloc (.cells #[.int .i64 v, .slice A cs.length c0] 24)).heap.size = w.heap.size + 1 := by simp
  have hc1 : (w.alloc (.cells #[.int .i64 v, .slice A cs.length c0] 24)).cell? ⟨w.heap.size, 1, none⟩ = some (.slice A cs.length c0) := by simp
  have HX0 := Lib.hid hx0
  have HNo := Lib.hid (fun k (hk : k < cs.length) (h : partB l R (cs.getD k []) = false) => all_no (p := partB l R) (xs := cs) (d := []) hk h)
  have HSt := Lib.hid (fun k (hk : k < cs.length) (h : partB l R (cs.getD k []) = true) (ht : (cs.take k).all (partB l R) = true) => all_step (p := partB l R) (xs := cs) (d := []) hk h ht)
  have HEnd := Lib.hid (fun k (hk : k = cs.length) (ht : (cs.take k).all (partB l R) = true) => show cs.all (partB l R) = true by rw [hk, List.take_length] at ht; exact ht)
  have hpp : (0 : Int) < c.length := by omega
  clear hF hC hS hR hHB hfm hp hx0
  unfold SafePost
  generalize cs.all (partB l R) = RR at *
  generalize hm : cs.length = m at *
  have Hm := Lib.hid hm
  generalize c.length = n at *
  clear hm
  go_enter Tryz.func120, Tryz.ntmps120
  go_wp2
  go_loopw [12] (fun i wr => ∃ k : Nat, k ≤ m ∧ i = .int .i64 k ∧ Hid ((cs.take k).all (partB l R) = true) ∧ Hid (Below w.heap.size w wr)) (fun i _ => m - (intOf i).toNat)
  case atStart => exact ⟨0, Nat.zero_le _, rfl, by show _ = _; simp, HB.out⟩
  case round =>
    obtain ⟨k, hk, rfl, hA, hb⟩ := hrel
    by_cases hlt : k < m
    · obtain ⟨ad, A0, c1, hA1, hcell, hIC⟩ := HC.out k (by rw [Hm.out]; exact hlt)
      subst hA1
      replace hcell := (hb.out.cell (World.block_lt_of_cell? w _ hcell)).trans hcell
      have hx := (hb.out.cell (World.block_lt_of_cell? w _ HX0.out)).trans HX0.out
      have hN := HNo.out k hlt
      have hT := HSt.out k hlt
      have h8 := HS.out.2.1 (cs.getD k []) (by rw [List.getD_eq_getElem?_getD, List.getElem?_eq_getElem (by rw [Hm.out]; exact hlt)]; exact List.getElem_mem _)
      have HIC := Lib.hid (hIC.below hb.out)
      have HN := Lib.hid hN
      have HT := Lib.hid hT
      clear hIC hN hT
      generalize cs.getD k [] = d at *
      have HHas := Lib.hid (has_any A0 c1 d (-l) wr HIC.out (by omega))
      have HW := Lib.hid (without_any A0 c1 d (-l) wr HIC.out (by omega))
      unfold RowPost at HW
      have HWl := Lib.hid (without_len d (-l))
      unfold partB at HN HT
      clear h8
      obtain ⟨f, hf⟩ : ∃ f, hasB d (-l) = f := ⟨_, rfl⟩
      rw [hf] at HHas HN HT
      clear hf
      generalize withoutL d (-l) = zs at *
      generalize d.length = dn at *
      cases f with
      | false =>
        have HTk := Lib.hid (HT.out rfl hA.out)
        go_wp2_with (first
          | (go_at_call 144; refine HHas.out.mono ?_; rintro e w' ⟨rfl, rfl⟩))
        go_roundw
        case rel => exact ⟨k + 1, by omega, by go_num, HTk.out, hb.out⟩
        case measure => simp [intOf]; omega
      | true =>
        have hlr := hb.out
        obtain ⟨b, hbR⟩ : ∃ b, R zs = b := ⟨_, rfl⟩
        rw [hbR] at HN HT
        have HBR := Lib.hid hbR
        clear hbR hlr
        cases b with
        | true =>
          have HTk := Lib.hid (HT.out rfl hA.out)
          go_wp2_with (first
            | (go_at_call 144; refine HHas.out.mono ?_; rintro e w' ⟨rfl, rfl⟩)
            | (go_at_call 145; refine HW.out.mono ?_; rintro e w1 ⟨v1, rfl, ho1, hb1⟩; obtain ⟨A1, c1', rfl, hi1⟩ := own_IC ho1; have HB1 := Lib.hid (hb.out.trans (hb1.mono hb.out.size)); have HI1 := Lib.hid hi1; clear ho1 hb1 hi1)
            | (go_at_fn g; refine (HR.out _ HB1.out A1 c1' zs HI1.out HWl.out).mono ?_; rintro e w2 ⟨rfl, hb2⟩; rw [HBR.out]; have HB2 := Lib.hid (HB1.out.trans (hb2.mono HB1.out.size)); clear hb2))
          go_roundw
          case rel => exact ⟨k + 1, by omega, by go_num, HTk.out, HB2.out⟩
          case measure => simp [intOf]; omega
        | false =>
          have HE := Lib.hid (HN.out rfl)
          go_wp2_with (first
            | (go_at_call 144; refine HHas.out.mono ?_; rintro e w' ⟨rfl, rfl⟩)
            | (go_at_call 145; refine HW.out.mono ?_; rintro e w1 ⟨v1, rfl, ho1, hb1⟩; obtain ⟨A1, c1', rfl, hi1⟩ := own_IC ho1; have HB1 := Lib.hid (hb.out.trans (hb1.mono hb.out.size)); have HI1 := Lib.hid hi1; clear ho1 hb1 hi1)
            | (go_at_fn g; refine (HR.out _ HB1.out A1 c1' zs HI1.out HWl.out).mono ?_; rintro e w2 ⟨rfl, hb2⟩; rw [HBR.out]; have HB2 := Lib.hid (HB1.out.trans (hb2.mono HB1.out.size)); clear hb2))
          go_ret
          exact ⟨by rw [HE.out]; rfl, HB2.out⟩
    · obtain rfl : k = m := by omega
      have HE := Lib.hid (HEnd.out k rfl hA.out)
      go_wp2
      go_ret
      exact ⟨by rw [HE.out]; rfl, hb.out⟩

def safeR (v : Int) (cs : List (List Int)) (c : List Int) : Bool := decide (0 < c.length) && cs.all (partB (c.getD 0 0) fun rest => followsR v cs (joinL c rest))
theorem enters_safe1 : ∀ args w, (callFunc 121 args).run Tryz.prog w = .ok (.enter 121 args) w := enters_of Tryz.func121 (by kernel_rfl) rfl
theorem ic_nil (w : World) : IC w none [] := fun k hk => absurd hk (by simp)

set_option maxHeartbeats 4000000 in
set_option maxRecDepth 100000 in
theorem safe_any (v : Int) (A : Option Addr) (c0 : Nat) (cs : List (List Int)) (Af : Option Addr) (cf : Nat) (c : List Int) (w : World) (hC : RC w A cs) (hF : IC w Af c) (hS : Fits cs c) (hfm : ∀ l ∈ c, fm l = true) :
    Calls Tryz.prog 95 #[.agg #[.int .i64 v, .slice A cs.length c0], .slice Af c.length cf] w (SafePost w (safeR v cs c)) := by
  have hmf : ∀ (fn : Fn) (first cap : Array Value) (w : World), (Instr.makeFunc fn first cap).run Tryz.prog w = .ok (.func fn first cap) w := fun _ _ _ _ => rfl
  have hW : Below w.heap.size w ((w.alloc (.cells #[.int .i64 v, .slice A cs.length c0] 24)).alloc (.cells #[.slice Af c.length cf] 40)) := ((Below.refl _ _).alloc (Nat.le_refl _) _).alloc (by simp) _
  have h0 : ((w.alloc (.cells #[.int .i64 v, .slice A cs.length c0] 24)).alloc (.cells #[.slice Af c.length cf] 40)).cell? ⟨w.heap.size, 0, none⟩ = some (.int .i64 v) := by simp
  have h1 : ((w.alloc (.cells #[.int .i64 v, .slice A cs.length c0] 24)).alloc (.cells #[.slice Af c.length cf] 40)).cell? ⟨w.heap.size, 1, none⟩ = some (.slice A cs.length c0) := by simp
  have h2 : ((w.alloc (.cells #[.int .i64 v, .slice A cs.length c0] 24)).alloc (.cells #[.slice Af c.length cf] 40)).cell? ⟨w.heap.size + 1, 0, none⟩ = some (.slice Af c.length cf) := by simp
  have hE := fun (hp : 0 < c.length) => each_any 121 #[.pointer (some ⟨w.heap.size, 0, none⟩), .pointer (some ⟨w.heap.size + 1, 0, none⟩)] (fun rest => followsR v cs (joinL c rest)) v A c0 cs Af cf c ((w.alloc (.cells #[.int .i64 v, .slice A cs.length c0] 24)).alloc (.cells #[.slice Af c.length cf] 40)) enters_safe1 (hC.below hW) (hF.below hW) ⟨hS.1, hS.2.1, by simp⟩ hp hfm
    (fun w2 hb A2 c2 rest hR hl => safe1_any w.heap.size (w.heap.size + 1) v A c0 cs Af cf c A2 c2 rest w2 ((hb.cell (p := ⟨w.heap.size, 0, none⟩) (by simp; omega)).trans h0) ((hb.cell (p := ⟨w.heap.size, 1, none⟩) (by simp; omega)).trans h1) ((hb.cell (p := ⟨w.heap.size + 1, 0, none⟩) (by simp)).trans h2) ((hC.below hW).below hb) ((hF.below hW).below hb) hR ⟨hS.1, hS.2.1, by simp⟩ (by have := hS.2.2; omega))
  have HE := Lib.hid hE
  have HW := Lib.hid hW
  clear hC hF hS hfm hE hW h0 h1 h2
  unfold SafePost at HE ⊢
  unfold safeR
  generalize cs.all (partB (c.getD 0 0) fun rest => followsR v cs (joinL c rest)) = b at *
  generalize c.length = n at *
  generalize cs.length = m at *
  by_cases hp : 0 < n
  · have hE := HE.out hp
    have hpd : decide (0 < n) = true := decide_eq_true hp
    rw [hpd, Bool.true_and]
    have HE2 := Lib.hid hE
    clear hE
    go_enter Tryz.func95, Tryz.ntmps95
    go_wp2_with (go_at_call 120; refine HE2.out.mono ?_; rintro e w2 ⟨rfl, hb2⟩; have HB2 := Lib.hid (HW.out.trans (hb2.mono HW.out.size)); clear hb2)
    go_ret
    exact ⟨rfl, HB2.out⟩
  · have hpd : decide (0 < n) = false := decide_eq_false hp
    rw [hpd, Bool.false_and]
    go_enter Tryz.func95, Tryz.ntmps95
    go_wp2
    go_ret
    exact ⟨rfl, HW.out⟩

end Go.Proofs.YtcaoobdbgdldaaaGreatDoor.Spr
