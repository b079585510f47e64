/- Part of the proof of ForwardScript: what the law uses of the text ClA. -/
import Derived.Test.YtcaoobdbgdldaaaGreatDoorZPFwP
import Derived.Shelf.SlSortCmp.Whole1
namespace Go.Proofs.YtcaoobdbgdldaaaGreatDoor.Cl
open Go.RowKit Go.Shelf Go.Maps Go.Proofs.YtcaoobdbgdldaaaGreatDoor.Lit Go.Proofs.YtcaoobdbgdldaaaGreatDoor.Spr
set_option linter.unusedVariables false
set_option linter.unusedSimpArgs false

def cmpL : List Int → List Int → Int
  | [], [] => 0
  | [], _ :: _ => -1
  | _ :: _, [] => 1
  | x :: a, y :: b => if ix x - ix y = 0 then cmpL a b else ix x - ix y
theorem cmpL_self : ∀ a, cmpL a a = 0
  | [] => rfl
  | x :: a => by unfold cmpL; rw [if_pos (by omega)]; exact cmpL_self a
theorem cmpL_trans : ∀ a b c, (cmpL a b < 0 → cmpL b c < 0 → cmpL a c < 0) ∧ (cmpL a b = 0 → cmpL b c = 0 → cmpL a c = 0) ∧ (cmpL a b < 0 → cmpL b c = 0 → cmpL a c < 0) ∧ (cmpL a b = 0 → cmpL b c < 0 → cmpL a c < 0)
  | [], [], [] => by simp [cmpL]
  | [], [], _ :: _ => by simp [cmpL]
  | [], _ :: _, [] => by simp [cmpL]
  | [], _ :: _, _ :: _ => by simp [cmpL]
  | _ :: _, [], [] => by simp [cmpL]
  | _ :: _, [], _ :: _ => by simp [cmpL]
  | _ :: _, _ :: _, [] => by simp [cmpL]
  | x :: a, y :: b, z :: c => by
    obtain ⟨h1, h2, h3, h4⟩ := cmpL_trans a b c
    unfold cmpL
    by_cases e1 : ix x - ix y = 0
    · by_cases e2 : ix y - ix z = 0
      · rw [if_pos e1, if_pos e2, if_pos (by omega)]
        exact ⟨h1, h2, h3, h4⟩
      · rw [if_pos e1, if_neg e2, if_neg (by omega)]
        exact ⟨fun _ h => by omega, fun _ h => absurd h e2, fun _ h => absurd h e2, fun _ h => by omega⟩
    · by_cases e2 : ix y - ix z = 0
      · rw [if_neg e1, if_pos e2, if_neg (by omega)]
        exact ⟨fun h _ => by omega, fun h _ => absurd h e1, fun h _ => by omega, fun h _ => absurd h e1⟩
      · rw [if_neg e1, if_neg e2]
        refine ⟨fun h k => ?_, fun h _ => absurd h e1, fun _ h => absurd h e2, fun h _ => absurd h e1⟩
        rw [if_neg (by omega)]; omega
theorem cmpL_anti : ∀ a b, (cmpL a b < 0 ↔ 0 < cmpL b a) ∧ (cmpL a b = 0 ↔ cmpL b a = 0)
  | [], [] => by simp [cmpL]
  | [], _ :: _ => by simp [cmpL]
  | _ :: _, [] => by simp [cmpL]
  | x :: a, y :: b => by
    obtain ⟨h1, h2⟩ := cmpL_anti a b
    unfold cmpL
    by_cases e : ix x - ix y = 0
    · rw [if_pos e, if_pos (by omega)]; exact ⟨h1, h2⟩
    · rw [if_neg e, if_neg (by omega)]; constructor <;> omega
theorem swo_cmp {α : Type} (f : α → List Int) : Sort.SWO (Go.Proofs.ltOf fun a b => cmpL (f a) (f b)) where
  irrefl x := by
    show decide (cmpL (f x) (f x) < 0) = false
    rw [cmpL_self]; rfl
  trans x y z h1 h2 := by
    unfold Go.Proofs.ltOf at *
    rw [decide_eq_true_eq] at *
    exact (cmpL_trans (f x) (f y) (f z)).1 h1 h2
  ntrans x y z h1 h2 := by
    unfold Go.Proofs.ltOf at *
    rw [decide_eq_false_iff_not] at *
    intro h3
    -- not less: equal, or the other way round
    have hy : cmpL (f y) (f x) < 0 ∨ cmpL (f y) (f x) = 0 := by
      have := cmpL_anti (f x) (f y)
      rcases Int.lt_trichotomy (cmpL (f x) (f y)) 0 with h | h | h
      · exact absurd h h1
      · exact .inr (this.2.1 h)
      · exact .inl ((cmpL_anti (f y) (f x)).1.2 h)
    have hz : cmpL (f z) (f y) < 0 ∨ cmpL (f z) (f y) = 0 := by
      have := cmpL_anti (f y) (f z)
      rcases Int.lt_trichotomy (cmpL (f y) (f z)) 0 with h | h | h
      · exact absurd h h2
      · exact .inr (this.2.1 h)
      · exact .inl ((cmpL_anti (f z) (f y)).1.2 h)
    obtain ⟨t1, t2, t3, t4⟩ := cmpL_trans (f z) (f y) (f x)
    have hzx : cmpL (f z) (f x) < 0 ∨ cmpL (f z) (f x) = 0 := by
      rcases hz with h | h <;> rcases hy with k | k
      · exact .inl (t1 h k)
      · exact .inl (t3 h k)
      · exact .inl (t4 h k)
      · exact .inr (t2 h k)
    have h5 := (cmpL_anti (f x) (f z)).1.1 h3
    rcases hzx with h | h <;> omega

set_option maxHeartbeats 1000000 in
theorem ord1_any (x y : Int) (w : World) : Calls Tryz.prog 104 #[.int .i64 x, .int .i64 y] w fun e w' => e = .returned (.int .i64 (ix x - ix y)) ∧ w = w' := by
  have hx := ix_bd x
  have hy := ix_bd y
  have hw : wrap64 (ix x - ix y) = ix x - ix y := by unfold wrap64; omega
  go_enter Tryz.func104, Tryz.ntmps104
  go_wp2_with (go_at_call 105; refine (index_any _ _).mono ?_; rintro e w' ⟨rfl, rfl⟩)
  go_ret
  exact ⟨by first | rfl | (rw [hw]), rfl⟩

set_option maxHeartbeats 4000000 in
set_option maxRecDepth 100000 in
theorem cmpf_any (Aa : Option Addr) (ca : Nat) (a : List Int) (Ab : Option Addr) (cb : Nat) (b : List Int) (w : World) (hA : IC w Aa a) (hB : IC w Ab b) (hl : a.length ≤ 4194304) (hl2 : b.length ≤ 4194304) :
    Calls Tryz.prog 103 #[.slice Aa a.length ca, .slice Ab b.length cb, .func (.func 104) #[] #[]] w fun e w' => e = .returned (.int .i64 (cmpL a b)) ∧ w = w' := by
  have HA := Lib.hid hA
  have HB := Lib.hid hB
  have HDa := Lib.hid (fun k (hk : k < a.length) => show a.drop k = a.getD k 0 :: a.drop (k + 1) by rw [List.drop_eq_getElem_cons hk, List.getD_eq_getElem?_getD, List.getElem?_eq_getElem hk]; rfl)
  have HDb := Lib.hid (fun k (hk : k < b.length) => show b.drop k = b.getD k 0 :: b.drop (k + 1) by rw [List.drop_eq_getElem_cons hk, List.getD_eq_getElem?_getD, List.getElem?_eq_getElem hk]; rfl)
  obtain ⟨res, hres⟩ : ∃ res, cmpL a b = res := ⟨_, rfl⟩
  rw [hres]
  have Hres : Hid (cmpL (a.drop 0) (b.drop 0) = res) := Lib.hid (by rw [List.drop_zero, List.drop_zero]; exact hres)
  clear hA hB hres
  go_enter Tryz.func103, Tryz.ntmps103
  go_wp2
  go_loopw [13] (fun i wr => ∃ k : Nat, k ≤ a.length ∧ k ≤ b.length ∧ i = .int .i64 k ∧ wr = w ∧ Hid (cmpL (a.drop k) (b.drop k) = res)) (fun i _ => a.length - (intOf i).toNat)
  case atStart => exact ⟨0, Nat.zero_le _, Nat.zero_le _, rfl, rfl, Hres⟩
  case round =>
    obtain ⟨k, hk, hkb, rfl, rfl, Hk⟩ := hrel
    by_cases hlt : k < a.length
    · obtain ⟨ad, hAa, hx⟩ := HA.out k hlt
      subst hAa
      have Hk2 := Hk.out
      rw [HDa.out k hlt] at Hk2
      by_cases hlb : k < b.length
      · obtain ⟨bd, hAb, hy⟩ := HB.out k hlb
        subst hAb
        rw [HDb.out k hlb] at Hk2
        unfold cmpL at Hk2
        generalize a.getD k 0 = x at *
        generalize b.getD k 0 = y at *
        by_cases h0 : ix x - ix y = 0
        · rw [if_pos h0] at Hk2
          have Hk3 := Lib.hid Hk2
          have HO := Lib.hid (ord1_any x y wr)
          rw [h0] at HO
          clear Hk2
          go_wp2_with (go_at_call 104; refine HO.out.mono ?_; rintro e w' ⟨rfl, rfl⟩)
          go_roundw
          case rel => exact ⟨k + 1, by omega, by omega, by go_num, by first | exact Hk3 | exact ⟨trivial, Hk3⟩ | exact ⟨rfl, Hk3⟩⟩
          case measure => simp [intOf]; omega
        · rw [if_neg h0] at Hk2
          have Hk3 := Lib.hid Hk2
          have HO := Lib.hid (ord1_any x y wr)
          generalize ix x - ix y = z at *
          clear Hk2
          go_wp2_with (go_at_call 104; refine HO.out.mono ?_; rintro e w' ⟨rfl, rfl⟩)
          go_ret
          exact ⟨by rw [← Hk3.out]; rfl, rfl⟩
      · obtain rfl : k = b.length := by omega
        have Hk3 : Hid (res = 1) := Lib.hid (by rw [← Hk2, List.drop_length]; rfl)
        go_wp2
        go_ret
        exact ⟨by rw [Hk3.out]; rfl, rfl⟩
    · obtain rfl : k = a.length := by omega
      by_cases hab : a.length < b.length
      · have Hk3 : Hid (res = -1) := Lib.hid (by have h := Hk.out; rw [List.drop_length, HDb.out _ hab] at h; rw [← h]; rfl)
        go_wp2
        go_ret
        exact ⟨by rw [Hk3.out]; rfl, rfl⟩
      · have Hk3 : Hid (res = 0) := Lib.hid (by have h := Hk.out; rw [List.drop_length, List.drop_eq_nil_of_le (by omega)] at h; rw [← h]; rfl)
        go_wp2
        go_ret
        exact ⟨by rw [Hk3.out]; rfl, rfl⟩
set_option maxHeartbeats 1000000 in
theorem order_any (Aa : Option Addr) (ca : Nat) (a : List Int) (Ab : Option Addr) (cb : Nat) (b : List Int) (w : World) (hA : IC w Aa a) (hB : IC w Ab b) (hl : a.length ≤ 4194304) (hl2 : b.length ≤ 4194304) :
    Calls Tryz.prog 73 #[.slice Aa a.length ca, .slice Ab b.length cb] w fun e w' => e = .returned (.int .i64 (cmpL a b)) ∧ w = w' := by
  have HC := Lib.hid (cmpf_any Aa ca a Ab cb b w hA hB hl hl2)
  clear hA hB
  generalize cmpL a b = z at *
  go_enter Tryz.func73, Tryz.ntmps73
  go_wp2_with (go_at_call 103; refine HC.out.mono ?_; rintro e w' ⟨rfl, rfl⟩)
  go_ret
  exact ⟨rfl, rfl⟩

end Go.Proofs.YtcaoobdbgdldaaaGreatDoor.Cl
