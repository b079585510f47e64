/- Part of the proof of ForwardLasts: what the law uses of the text CnF. -/
import Derived.Test.YtcaoobdbgdldaaaGreatDoorZPCnE
import Derived.RangeFuncNested
import Derived.RangeFuncBound
import Derived.RangeFuncCalls
import Derived.RangeFuncLeaves
import Derived.Shelf.Abstract
import Derived.Shelf.RegionOpen
import Derived.WalkKit
import Derived.OwnWalkIn
import Derived.TacticsInMore
import Derived.LoopNIn
import Derived.LoopIn
namespace Go.Proofs.YtcaoobdbgdldaaaGreatDoor.Cn
open Go.RowKit Go.Proofs.YtcaoobdbgdldaaaGreatDoor.Lit Go.Proofs.YtcaoobdbgdldaaaGreatDoor.Spr Go.Proofs.YtcaoobdbgdldaaaGreatDoorW.PrintWords
set_option linter.unusedVariables false
set_option linter.unusedSimpArgs false
attribute [local go_sem] Oper.semAt_some

theorem sixteen {l : List Bool} (h : l.length = 16) : ∃ b0 b1 b2 b3 b4 b5 b6 b7 b8 b9 b10 b11 b12 b13 b14 b15, l = [b0, b1, b2, b3, b4, b5, b6, b7, b8, b9, b10, b11, b12, b13, b14, b15] := by
  match l, h with
  | [b0, b1, b2, b3, b4, b5, b6, b7, b8, b9, b10, b11, b12, b13, b14, b15], _ => exact ⟨b0, b1, b2, b3, b4, b5, b6, b7, b8, b9, b10, b11, b12, b13, b14, b15, rfl⟩
theorem mods_at {cs : List (List Int)} {n : Nat} {dn rest : List (List Bool)} {mb : List Bool} (h : allM n = dn ++ mb :: rest) (hs : sat cs mb = true) : (mods cs n)[(dn.filter (sat cs)).length]? = some mb := by
  unfold mods
  rw [h, List.filter_append, List.getElem?_append_right (Nat.le_refl _), Nat.sub_self, List.filter_cons, if_pos hs]
  rfl
theorem cutM (g vars : Nat) (h : vars ≤ 16) (W : World) : (Instr.sliceAt 113 (.pointer (some ⟨g, 0, none⟩)) none (some (.int .i64 vars)) none).run Tryz.prog W = .ok (.slice (some ⟨g, 0, none⟩) vars 16) W := by
  have hl : Tryz.prog.arrayLen 113 = 16 := by kernel_rfl
  rw [run_sliceAt_array_h W 113 ⟨g, 0, none⟩ (by kernel_rfl) .i64 vars (by omega) (by rw [hl]; omega)]
  obtain ⟨i, hi, z, hz⟩ : ∃ i, Tryz.prog.info? (Tryz.prog.elem 113) = some i ∧ ∃ z, i.zero = some z := by
    have h1 : (Tryz.prog.info? (Tryz.prog.elem 113)).map (fun i => i.zero) = some (some (.bool false)) := by kernel_rfl
    obtain ⟨i, hi, hz⟩ := Option.map_eq_some_iff.1 h1
    exact ⟨i, hi, _, hz⟩
  simp [hl, sizeOf, typeInfo, zeroValue, hi, hz, Result.andThen, slicedAt, Addr.add]
theorem infoB : (Tryz.prog.info? 4).map (fun i => (i.zero, i.size, i.bytes)) = some (some (.bool false), 1, 1) := by kernel_rfl
theorem row_out {W : World} {v : Value} {mb : List Bool} {n : Nat} (hl : mb.length = n) (h : W.ownsRow 0 4 1 v (0 + n) ([] ++ mb.map Value.bool)) : ∃ Am c, v = .slice Am n c ∧ n ≤ c ∧ Kd.C Kd.bool W Am n mb := by
  subst hl
  rw [Nat.zero_add, List.nil_append] at h
  have hR : Kd.bool.R 4 W 0 (fun _ => True) v mb := Kd.R_of_own h (fun _ _ => trivial)
  obtain ⟨Am, c, rfl⟩ := Kd.R_slice hR
  obtain ⟨_, h2, h3⟩ := Kd.R_reads' hR
  exact ⟨Am, c, rfl, h2, h3⟩
def PreI (cs : List (List Int)) (vars : Nat) (pre : List Value) (x : Value) (W : World) : Prop :=
  ∃ Am c m, x = .slice Am vars c ∧ (mods cs vars)[pre.length]? = some m ∧ vars ≤ c ∧ Kd.C Kd.bool W Am vars m

set_option maxHeartbeats 8000000 in
set_option maxRecDepth 100000 in
theorem iter_any (n : Nat) (L bn gb vars : Nat) (A : Option Addr) (c0 : Nat) (cs : List (List Int)) (w0 : World) (hIt : It L bn gb vars A c0 cs w0) (hL : w0.heap.size = L) (hbn : bn < L) (hv : vars ≤ 16) (hc0 : cs.length ≤ c0) (hF : AFit cs vars) (hn : 3 ≤ n) :
    SeqB Fence.wide n Tryz.prog 90 #[.pointer (some ⟨gb, 0, none⟩)] (fun x : Value => #[x]) (KpB L bn) (PreI cs vars) (fun xs => xs.length = (mods cs vars).length) (fun _ => True) (mods cs vars).length w0 := fun l J Jx W hW hWs hJ hJx hY h0 => by
  have h1 : 1 ≤ n := by omega
  have hmx : Tryz.prog.follows .mixedOrders = true := by kernel_rfl
  have hItW := Lib.hid (hIt.below (hL ▸ hW))
  have hLW : L ≤ W.heap.size := hL ▸ hWs
  clear hIt hW hWs hL
  refine callsIn_of_wp Tryz.func90 rfl trivial ?_ rfl
  simp only [Tryz.ntmps90, List.size_toArray, List.length_cons, List.length_nil, Nat.reduceAdd, Nat.reduceSub, Array.replicate_succ, Array.replicate_zero, List.push_toArray, List.append_toArray, List.nil_append, List.cons_append]
  gi_wp2
  gi_loopw [4] (fun v wr => ∃ b, v = .bool b ∧ RelI cs vars L bn gb W.heap.size A c0 J b wr) (fun v wr => meas W.heap.size v wr)
  case atStart =>
    obtain ⟨r, hr⟩ := all_first vars
    have hbl := (Below.refl W.heap.size W).alloc (Nat.le_refl _) (Obj.cells #[.bool false, .bool false, .bool false, .bool false, .bool false, .bool false, .bool false, .bool false, .bool false, .bool false, .bool false, .bool false, .bool false, .bool false, .bool false, .bool false] 113)
    refine ⟨true, rfl, hItW.out.below (hbl.mono hLW), .inl ⟨rfl, [], _, r, [], hr, ?_, rfl, hJ _ _ _ h0 hbl⟩⟩
    unfold padL
    rw [List.replicate_append_replicate, show vars + (16 - vars) = 16 by omega]
    unfold ArrM
    rw [World.alloc_heap_new]
    rfl
  case round =>
    obtain ⟨b, rfl, hR⟩ := hrel
    cases b with
    | false =>
      obtain ⟨hI, h | ⟨_, pre, hpl, hJp⟩⟩ := hR
      · exact absurd h.1 (by decide)
      gi_wp2
      go_end0
      exact ⟨⟨_, rfl⟩, .inl ⟨pre, hpl, hJp⟩⟩
    | true =>
      obtain ⟨hI, ⟨_, dn, mb, rest, pre, hall, hA, hpl, hJp⟩ | h⟩ := hR
      rotate_left
      · exact absurd h.1 (by decide)
      have hml : mb.length = vars := (all_len vars mb).1 (by rw [hall]; exact List.mem_append_right _ (List.mem_cons_self ..))
      have hbx : W.heap.size < wr.heap.size := hA.lt
      have hms : meas W.heap.size (.bool true) wr = 65537 - val mb := by
        show 65537 - valO wr.heap[W.heap.size]? = _
        rw [hA.val]; unfold padL; rw [val_pad]
      have hmC := hA.C (by omega)
      obtain ⟨hg0, hg1⟩ := hI.cell
      have hgl := hI.gl
      have hcl := Lib.hid (hI.cl wr (fun _ _ _ => rfl))
      have HI := Lib.hid hI
      have HA := Lib.hid hA
      have HJp := Lib.hid hJp
      have HmC := Lib.hid hmC
      have HF : Hid (AFit cs mb.length) := Lib.hid (by rw [hml]; exact hF)
      clear hI hA hJp hmC
      have hcut := cutM W.heap.size vars hv
      have hq := all_any vars A c0 cs (some ⟨W.heap.size, 0, none⟩) 16 mb wr.drew (Kd.C_below hcl.out ((Below.refl _ _).drew)) hc0 (Kd.C_below HmC.out ((Below.refl _ _).drew)) (by omega) HF.out
      rw [hml] at hq
      have Hall := Lib.hid hq
      clear hq
      cases hs : sat cs mb with
      | false =>
        gi_wp2
        gi_region_with_o (refine ⟨trivial, ?_⟩; gi_at_call 92; refine (callsIn_wide.2 Hall.out).mono ?_; rintro e w' ⟨rfl, hB⟩; have HB := Lib.hid hB; clear hB)
        all_goals
          have hb1 : Below wr.heap.size wr w' := ((Below.refl _ wr).drew).trans HB.out
          have HI1 := Lib.hid (HI.out.below (hb1.mono (by omega)))
          have HA1 := Lib.hid (HA.out.below hbx hb1)
          have HJ1 := Lib.hid (hJ _ _ _ HJp.out (hb1.mono (by omega)))
          obtain ⟨hg0', _⟩ := HI1.out.cell
          have hnx := next_any W.heap.size mb (padL vars) w' HA1.out (by unfold padL; rw [List.length_replicate]; omega)
          rw [hml] at hnx
          have HNx := Lib.hid hnx
          clear hnx
          have HSt := Lib.hid (fun e Y => rel_next (e := e) (Y := Y) hv hall HI1.out HJ1.out (by rw [hpl, List.filter_append, List.filter_cons, if_neg (by rw [hs]; decide)]; simp) hJ (Nat.le_refl _) hLW HA1.out.lt)
          gi_wp2_with (refine ⟨trivial, ?_⟩; gi_at_call 91; refine (callsIn_wide.2 HNx.out).mono ?_; intro e2 w2 hp2; obtain ⟨b, rfl, hRn, hm1, hm2⟩ := HSt.out _ _ hp2)
          go_roundw
          case rel => exact ⟨b, rfl, hRn⟩
          case measure => rw [hms]; exact hm1
      | true =>
        gi_wp2
        gi_region_with_o (refine ⟨trivial, ?_⟩; gi_at_call 92; refine (callsIn_wide.2 Hall.out).mono ?_; rintro e w' ⟨rfl, hB⟩; have HB := Lib.hid hB; clear hB)
        all_goals
          have hb1 : Below wr.heap.size wr w' := ((Below.refl _ wr).drew).trans HB.out
          have HI1 := Lib.hid (HI.out.below (hb1.mono (by omega)))
          have HA1 := Lib.hid (HA.out.below hbx hb1)
          have HJ1 := Lib.hid (hJ _ _ _ HJp.out (hb1.mono (by omega)))
          obtain ⟨hg0', _⟩ := HI1.out.cell
          obtain ⟨b0, b1, b2, b3, b4, b5, b6, b7, b8, b9, b10, b11, b12, b13, b14, b15, hl16⟩ := sixteen (l := mb ++ padL vars) (by unfold padL; rw [List.length_append, List.length_replicate]; omega)
          have HA2 := HA1.out
          rw [hl16] at HA2
          have hbmx : W.heap.size < w'.heap.size := HA2.lt
          have hk0 := (HA2.cell (k := 0) rfl).1
          have hk1 := (HA2.cell (k := 1) rfl).1
          have hk2 := (HA2.cell (k := 2) rfl).1
          have hk3 := (HA2.cell (k := 3) rfl).1
          have hk4 := (HA2.cell (k := 4) rfl).1
          have hk5 := (HA2.cell (k := 5) rfl).1
          have hk6 := (HA2.cell (k := 6) rfl).1
          have hk7 := (HA2.cell (k := 7) rfl).1
          have hk8 := (HA2.cell (k := 8) rfl).1
          have hk9 := (HA2.cell (k := 9) rfl).1
          have hk10 := (HA2.cell (k := 10) rfl).1
          have hk11 := (HA2.cell (k := 11) rfl).1
          have hk12 := (HA2.cell (k := 12) rfl).1
          have hk13 := (HA2.cell (k := 13) rfl).1
          have hk14 := (HA2.cell (k := 14) rfl).1
          have hk15 := (HA2.cell (k := 15) rfl).1
          have hcut2 := cutM w'.heap.size vars hv
          clear HA2
          obtain ⟨X, hX⟩ : ∃ X, w'.alloc (Obj.cells #[.bool b0, .bool b1, .bool b2, .bool b3, .bool b4, .bool b5, .bool b6, .bool b7, .bool b8, .bool b9, .bool b10, .bool b11, .bool b12, .bool b13, .bool b14, .bool b15] 113) = X := ⟨_, rfl⟩
          have hbX : Below w'.heap.size w' X := by rw [← hX]; exact (Below.refl _ _).alloc (Nat.le_refl _) _
          have hnX : ArrM w'.heap.size (mb ++ padL vars) X := by
            unfold ArrM
            rw [hl16, ← hX]
            exact World.alloc_heap_new _ _
          have hgX : X.cell? ⟨gb, 0, none⟩ = some (.int .i64 vars) := (hbX.cell (p := ⟨gb, 0, none⟩) (by show gb < _; omega)).trans hg0'
          have HnX := Lib.hid hnX
          have HbX := Lib.hid hbX
          clear hnX hbX
          obtain ⟨i0, hi, hz0, hz1, hz2⟩ := info_parts infoB
          have Hnews : Hid (∀ (j : Nat) (u : Value), (mb.map Value.bool)[j]? = some u → X.cell? ((⟨w'.heap.size, 0, none⟩ : Addr).add j) = some u) := Lib.hid fun j u hj => by
            have hjl : j < mb.length := by have := (List.getElem?_eq_some_iff.1 hj).1; simpa using this
            have e : (⟨w'.heap.size, 0, none⟩ : Addr).add j = ⟨w'.heap.size, j, none⟩ := by unfold Addr.add; split <;> simp_all
            rw [e]
            rw [List.getElem?_map, List.getElem?_eq_getElem hjl] at hj
            injection hj with hj
            rw [← hj]
            exact (HnX.out.cell (k := j) (b := mb[j]) (by rw [List.getElem?_append_left hjl]; exact List.getElem?_eq_getElem hjl)).1
          have Hat := Lib.hid (mods_at hall hs)
          rw [← hpl] at Hat
          have Hlt : Hid (pre.length < (mods cs vars).length) := Lib.hid (List.getElem?_eq_some_iff.1 Hat.out).1
          have Hns := Lib.hid (show (mb.map Value.bool).length = vars * 1 by rw [List.length_map, hml, Nat.mul_one])
          have Hone := Lib.hid (show ∀ u ∈ mb.map Value.bool, u.oneCell' = true from fun u hu => by obtain ⟨b, _, rfl⟩ := List.mem_map.1 hu; rfl)
          gi_wp2_with (gi_at_builtin; refine wpListIn_append_own _ rfl _ _ 26 rfl 0 4 i0 (.bool false) 1 1 Tryz.underlying26 hi hz0 hz1 hz2 rfl (by decide) (.slice none 0 0) 0 [] rfl (World.ownsRow_nil _ _ _ _) ⟨w'.heap.size, 0, none⟩ vars 16 (mb.map Value.bool) rfl Hns.out (by first | exact Hnews.out | (rw [hX]; exact Hnews.out)) Hone.out (by unfold maxLen; omega) (by omega) (Nat.zero_le _) ?_; intro v3 w3 hown hgrow hnil; clear hnil; obtain ⟨Am, cm, ev, hcm, hC3⟩ := row_out hml hown; subst ev; have hb3 : Below w'.heap.size w' w3 := HbX.out.grown hgrow HbX.out.size (fun k e => by simp [Value.ownBlock] at e); have Hb3 := Lib.hid hb3; clear hown hgrow hb3; obtain ⟨fn, tmps, assign, body, hy, hRy⟩ := hY pre (.slice Am vars cm) w3 (hJ _ _ _ HJ1.out (Hb3.out.mono (Nat.le_of_lt hbmx))) Hlt.out ⟨Am, cm, mb, rfl, Hat.out, hcm, hC3⟩; clear hC3)
          refine hRy.mono ?_
          rintro e4 w4 (⟨rfl, hJ4, hk4⟩ | ⟨rfl, hJx4⟩)
          · have HI4 := Lib.hid ((HI1.out.below (Hb3.out.mono (by omega))).kp hk4)
            have HA4 := Lib.hid ((HA1.out.below hbmx Hb3.out).kp hLW hk4)
            have HJ4 := Lib.hid hJ4
            clear hk4 hJ4
            obtain ⟨hg4, _⟩ := HI4.out.cell
            have hnx := next_any W.heap.size mb (padL vars) w4 HA4.out (by unfold padL; rw [List.length_replicate]; omega)
            rw [hml] at hnx
            have HNx := Lib.hid hnx
            clear hnx
            have HSt := Lib.hid (fun e Y => rel_next (e := e) (Y := Y) hv hall HI4.out HJ4.out (by rw [List.length_append, hpl, List.filter_append, List.length_append, List.filter_cons, if_pos hs]; rfl) hJ (Nat.le_refl _) hLW HA4.out.lt)
            gi_wp2_with (refine ⟨trivial, ?_⟩; gi_at_call 91; refine (callsIn_wide.2 HNx.out).mono ?_; intro e2 w2 hp2; obtain ⟨b, rfl, hRn, hm1, hm2⟩ := HSt.out _ _ hp2)
            go_roundw
            case rel => exact ⟨b, rfl, hRn⟩
            case measure => rw [hms]; exact hm1
          · gi_wp2
            refine bodyPost_ret (results_none rfl _ _ _) rfl ?_
            exact ⟨⟨_, rfl⟩, .inr ⟨_, trivial, hJx4⟩⟩

end Go.Proofs.YtcaoobdbgdldaaaGreatDoor.Cn
