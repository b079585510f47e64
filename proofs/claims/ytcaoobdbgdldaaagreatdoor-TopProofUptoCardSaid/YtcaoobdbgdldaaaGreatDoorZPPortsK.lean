/- Part of the proof of TopProof: what the law uses of the text PortsK. -/
import Derived.Test.YtcaoobdbgdldaaaGreatDoorZPFwK
import Derived.Test.YtcaoobdbgdldaaaGreatDoorZPPorts
import Derived.Test.YtcaoobdbgdldaaaGreatDoorZPP0
import Derived.Laws.CopyOwn
namespace Go.Proofs.YtcaoobdbgdldaaaGreatDoor.Fwd
open Go.RowKit Go.Shelf Go.Maps Go.Proofs.YtcaoobdbgdldaaaGreatDoor.Lit Go.Proofs.YtcaoobdbgdldaaaGreatDoor.Spr
set_option linter.unusedVariables false
set_option linter.unusedSimpArgs false

def BC (w : World) (A : Option Addr) (m : List Bool) : Prop := ∀ k, k < m.length → ∃ ad, A = some ad ∧ w.cell? (ad.add k) = some (.bool (m.getD k false))
theorem BC.below {w w1 : World} {A : Option Addr} {m : List Bool} (h : BC w A m) (hb : Below w.heap.size w w1) : BC w1 A m := fun k hk => by
  obtain ⟨ad, e, hc⟩ := h k hk
  exact ⟨ad, e, (hb.cell (World.block_lt_of_cell? w _ hc)).trans hc⟩
def fitL (m : List Bool) (n : Nat) : List Bool := m.take n ++ List.replicate (n - m.length) false
theorem infoBool : (Tryz.prog.info? 4).map (fun i => (i.zero, i.size, i.bytes)) = some (some (.bool false), 1, 1) := by kernel_rfl
theorem fitL_len (m : List Bool) (n : Nat) : (fitL m n).length = n := by unfold fitL; rw [List.length_append, List.length_take, List.length_replicate]; omega
theorem made_bools (n : Nat) : (madeCells (Value.bool false).cells (n * 1)).toList = List.replicate n (Value.bool false) := by
  show (madeCells #[Value.bool false] (n * 1)).toList = _
  refine List.ext_getElem (by simp [madeCells]) fun i h1 h2 => ?_
  simp [madeCells, Nat.mod_one]
theorem made_block {w w1 : World} {B n : Nat} (h : w1.ownsRow B 4 1 (.slice (some ⟨w.heap.size, 0, none⟩) n n) n (madeCells (Value.bool false).cells (n * 1)).toList) : w1.heap[w.heap.size]? = some (Obj.cells (List.replicate n (Value.bool false)).toArray 4 (0, 0)) := by
  rw [made_bools] at h
  rcases h.2 with ⟨h0, _⟩ | ⟨g, cap, cur, hv, _, hh, _, _, hs, ht⟩
  · cases h0
  · injection hv with e1 _ e3
    injection e1 with e1
    injection e1 with e1
    subst e1 e3
    rw [Nat.mul_one] at hs ht
    have : cur.toList = List.replicate n (Value.bool false) := by rw [← ht]; exact (List.take_of_length_le (by simp [hs])).symm
    rw [hh, ← this]

set_option maxHeartbeats 2000000 in
set_option maxRecDepth 100000 in
theorem fitted_any (A : Option Addr) (c : Nat) (m : List Bool) (n : Nat) (w : World) (hM : BC w A m) (hn : n ≤ 1048576) :
    Calls Tryz.prog 15 #[.slice A m.length c, .int .i64 n] w fun e w' => ∃ v, e = .returned v ∧ w'.ownsRow w.heap.size 4 1 v (fitL m n).length ((fitL m n).map Value.bool) ∧ Below w.heap.size w w' := by
  obtain ⟨i0, hi, hz0, hz1, hz2⟩ := info_parts infoBool
  have HIn := Lib.hid (And.intro hi (And.intro hz0 (And.intro hz1 hz2)))
  have HM := Lib.hid (fun (w2 : World) (hb : Below w.heap.size w w2) => hM.below hb)
  have HL := Lib.hid (fitL_len m n)
  obtain ⟨cs, hcs⟩ : ∃ cs, cs = (m.take n).map Value.bool := ⟨_, rfl⟩
  have HCs := Lib.hid hcs
  have HCl := Lib.hid (show cs.length = Nat.min m.length n by rw [hcs, List.length_map, List.length_take, Nat.min_comm])
  have HSp := Lib.hid (show splice (List.replicate n (Value.bool false)) 0 cs = (fitL m n).map Value.bool by
    unfold splice fitL
    rw [hcs, List.map_append, List.map_replicate, List.take_zero, List.nil_append, List.drop_replicate, List.length_map, List.length_take]
    rw [show n - (0 + min n m.length) = n - m.length by omega])
  clear hi hz0 hz1 hz2 hM hcs
  generalize hml : m.length = ml at *
  have HMl := Lib.hid hml
  clear hml
  go_enter Tryz.func15, Tryz.ntmps15
  go_wp2_with (first
    | (at_make; refine wpList_make_full _ rfl _ _ 26 rfl w.heap.size 4 i0 (.bool false) 1 Tryz.underlying26 HIn.out.1 HIn.out.2.1 HIn.out.2.2.1 _ _ _ _ n rfl rfl rfl rfl (by rw [HIn.out.2.2.2]; omega) (by unfold maxLen; omega) (Nat.le_refl _) ?_; intro w1 hown1 hgrow1; have HO1 := Lib.hid hown1; have HB1 := Lib.hid ((Below.refl w.heap.size w).grown hgrow1 (Nat.le_refl _) (fun k hk => by cases hk)); clear hown1 hgrow1; refine Hid.out ?_))
  refine Lib.hid ?_
  have HBk := Lib.hid (made_block HO1.out)
  have HCm := Lib.hid (show cs.length = min ml n from HCl.out)
  have hsz : (Tryz.prog.info? 4).map (·.size) = some 1 := by rw [HIn.out.1, Option.map_some, HIn.out.2.2.1]
  have Hsz := Lib.hid hsz
  have HPos := Lib.hid (show 0 < cs.length → ∃ ad, A = some ad ∧ ∀ j v, cs[j]? = some v → w1.cell? (ad.add j) = some v from fun hp => by
    have hcl := HCm.out
    have hml : 0 < m.length := by rw [HMl.out]; omega
    obtain ⟨ad, e, _⟩ := HM.out w1 HB1.out 0 hml
    refine ⟨ad, e, fun j v hj => ?_⟩
    have hj2 : j < cs.length := (List.getElem?_eq_some_iff.1 hj).1
    obtain ⟨ad', e', hc⟩ := HM.out w1 HB1.out j (by rw [HMl.out]; omega)
    rw [e] at e'
    injection e' with e'
    subst e'
    rw [hc]
    rw [HCs.out, List.getElem?_map, List.getElem?_take_of_lt (by omega), List.getElem?_eq_getElem (by rw [HMl.out]; omega)] at hj
    rw [List.getD_eq_getElem?_getD, List.getElem?_eq_getElem (by rw [HMl.out]; omega)]
    simpa using hj)
  have HOc := Lib.hid (show ∀ v ∈ cs, v.oneCell' = true from fun v hv => by rw [HCs.out] at hv; obtain ⟨b, _, rfl⟩ := List.mem_map.1 hv; rfl)
  have hcn : cs.length ≤ n := by have := HCm.out; omega
  clear hsz
  go_wp2_with (first
    | (refine wpList_copy_splice rfl _ _ 26 26 rfl 4 Tryz.underlying26 Hsz.out (some ⟨w.heap.size, 0, none⟩) A n n ml c rfl rfl w.heap.size 0 (List.replicate n (Value.bool false)) 4 HBk.out cs HCl.out (fun hp => ⟨rfl, HPos.out hp⟩) (by rw [List.length_replicate]; omega) HOc.out w.heap.size w HB1.out (Nat.le_refl _) ?_; intro w2 HG2 hB2; have HB2 := Lib.hid hB2; clear hB2))
  go_ret
  refine ⟨_, rfl, ?_, HB2.out⟩
  have hg := HG2.out
  rw [HSp.out] at hg
  rw [HL.out]
  exact ⟨by rw [List.length_map, HL.out, Nat.mul_one], .inr ⟨_, n, _, rfl, Nat.le_refl _, hg, Nat.le_refl _, by unfold maxLen; omega, by simp [HL.out], by rw [Nat.mul_one]; exact List.take_of_length_le (by simp [HL.out])⟩⟩

end Go.Proofs.YtcaoobdbgdldaaaGreatDoor.Fwd
namespace Go.Proofs.YtcaoobdbgdldaaaGreatDoor
open Go.RowKit Go.Maps Go.Proofs.YtcaoobdbgdldaaaGreatDoor.Lit Go.Proofs.YtcaoobdbgdldaaaGreatDoor.P Go.Proofs.YtcaoobdbgdldaaaGreatDoorW.PrintWords
set_option linter.unusedVariables false

theorem bc_of_C {w : World} {A : Option Addr} {m : List Bool} (h : Kd.C Kd.bool w A m.length m) : Fwd.BC w A m := fun k hk => by
  obtain ⟨ad, c, e, _, hK, hc0⟩ := Kd.C_get h false (k : Int) (by omega) (by omega)
  have hc : ∀ j u, c[j]? = some u → w.cell? (ad.add ((k : Int).toNat * 1 + j)) = some u := hc0
  obtain rfl : c = [.bool (m.getD (k : Int).toNat false)] := hK
  have hq := hc 0 _ rfl
  rw [Nat.mul_one, Nat.add_zero, Int.toNat_natCast] at hq
  exact ⟨ad, e, hq⟩
theorem sc_of_C {w : World} {A : Option Addr} {l : List S42} (h : Kd.C k42 w A l.length l) : Fwd.SC w A (l.map fun s => (s.f0, s.f1)) := fun k hk => by
  have hk' : k < l.length := by simpa using hk
  obtain ⟨ad, A1, c1, e, h1, h2, _, h3⟩ := at_T42 h (k : Int) (by omega) (by omega)
  have e2 : (l.map fun s : S42 => (s.f0, s.f1)).getD k (false, []) = ((rd_T42 l (k : Int)).f0, (rd_T42 l (k : Int)).f1) := by
    unfold rd_T42
    rw [Int.toNat_natCast, List.getD_eq_getElem?_getD, List.getElem?_map, List.getD_eq_getElem?_getD, List.getElem?_eq_getElem hk']
    rfl
  rw [e2]
  rw [Int.toNat_natCast] at h1 h2
  exact ⟨ad, A1, c1, e, h1, h2, ic_of_C h3⟩

def CFits (cs : List (List Int)) (l : List S42) : Prop := cs.length ≤ 2097152 ∧ (∀ c ∈ cs, c.length ≤ 2097152) ∧ l.length ≤ 2097152 ∧ ∀ s ∈ l, s.f1.length ≤ 2097152
instance (cs : List (List Int)) (l : List S42) : Decidable (CFits cs l) := by unfold CFits; infer_instance
def forward_Check.f (v : Int) (cs : List (List Int)) (l : List S42) : Option (Int × Int × Int) := if CFits cs l then some (Fwd.checkW v cs (l.map fun s => (s.f0, s.f1))) else none
theorem forward_Check.calls (a0_0 : Int) (A0_1 : Option Addr) (c0_1 : Nat) (l0_1 : List (List Int)) (A1 : Option Addr) (c1 : Nat) (l1 : List S42) (r1 r2 r3 : Int) (w : World) (hT : Fwd.Tab w)
    (hr0_1 : Kd.C (Kd.slice 3 (Kd.int .i64)) w A0_1 l0_1.length l0_1) (hc0_1 : l0_1.length ≤ c0_1) (hr1 : Kd.C k42 w A1 l1.length l1) (hc1 : l1.length ≤ c1) (h : forward_Check.f a0_0 l0_1 l1 = some (r1, r2, r3)) :
    Calls Tryz.prog 10 #[.agg #[.int .i64 a0_0, .slice A0_1 l0_1.length c0_1], .slice A1 l1.length c1] w fun e w' => e = .returned (.tuple #[.agg #[.int .i64 r1, .int .i64 r2], .int .i64 r3]) ∧ Below w.heap.size w w' := by
  unfold forward_Check.f at h
  split at h
  · rename_i hS
    have hR := Option.some.inj h
    have hq := Fwd.check_any a0_0 A0_1 c0_1 l0_1 A1 c1 (l1.map fun s => (s.f0, s.f1)) w (rc_of_C hr0_1) (sc_of_C hr1) hS.1 hS.2.1 (by rw [List.length_map]; exact hS.2.2.1) (fun s hs => by obtain ⟨s', h1, rfl⟩ := List.mem_map.1 hs; exact hS.2.2.2 s' h1) hT
    rw [hR, List.length_map] at hq
    exact hq
  · cases h
def depottop_fitted.f (m : List Bool) (v : Int) : Option (List Bool) := if 0 ≤ v ∧ v ≤ 1048576 then some (Fwd.fitL m v.toNat) else none
theorem depottop_fitted.calls (A0 : Option Addr) (c0 : Nat) (l0 : List Bool) (a1 : Int) (r : List Bool) (w : World) (hr0 : Kd.C Kd.bool w A0 l0.length l0) (hc0 : l0.length ≤ c0) (h : depottop_fitted.f l0 a1 = some r) :
    Calls Tryz.prog 15 #[.slice A0 l0.length c0, .int .i64 a1] w fun e w' => ∃ v0_ : Value, e = .returned v0_ ∧ Kd.R Kd.bool 4 w' w.heap.size (fun _ => True) v0_ r ∧ Below w.heap.size w w' := by
  unfold depottop_fitted.f at h
  split at h
  · rename_i hS
    have hR := Option.some.inj h
    obtain ⟨n, rfl⟩ : ∃ n : Nat, a1 = n := ⟨a1.toNat, by omega⟩
    rw [Int.toNat_natCast] at hR
    refine (Fwd.fitted_any A0 c0 l0 n w (bc_of_C hr0) (by omega)).mono fun e w' ⟨v, he, ho, hb⟩ => ⟨v, he, ?_, hb⟩
    rw [hR] at ho
    exact Kd.R_of_own ho (fun _ _ => trivial)
  · cases h

end Go.Proofs.YtcaoobdbgdldaaaGreatDoor
