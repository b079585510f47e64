/- Part of the proof of UnitStory: what the law uses of the text Says. -/
import Derived.Test.YthbccfgcemdgeaaZuUD
namespace Go.Proofs.Ythbccfgcemdgeaa.Spr
open Go.RowKit Go.Maps Go.Proofs.Ythbccfgcemdgeaa.Lit
set_option linter.unusedVariables false
set_option linter.unusedSimpArgs false

def Counts (D : DataW Unit) (K : List Int) (N : Nat) : Prop := ∀ x : Int, ∃ z : Int, D.atKey (.int .i64 x) (dI 0) = dI z ∧ 0 ≤ z ∧ z ≤ N ∧ (0 < z ↔ x ∈ K)
theorem Counts.init : Counts (.map []) [] 0 := fun x => ⟨0, rfl, by omega, by omega, by simp⟩
theorem Counts.put {D : DataW Unit} {K : List Int} {N : Nat} (h : Counts D K N) (hD : IsMap D) (x z : Int) (hz : D.atKey (.int .i64 x) (dI 0) = dI z) : Counts (D.put (.int .i64 x) (dI (z + 1))) (K ++ [x]) (N + 1) := by
  intro y
  by_cases hy : y = x
  · subst hy
    obtain ⟨z', h1, h2, h3, h4⟩ := h y
    have e : z' = z := by have := h1.symm.trans hz; simpa [dI] using this
    subst e
    exact ⟨z' + 1, atKey_put_same hD (IsKeyLit_int y) _ _, by omega, by omega, by simp; omega⟩
  · have hne : (Lit.int .i64 y) ≠ (Lit.int .i64 x) := fun e => hy (by injection e)
    obtain ⟨z', h1, h2, h3, h4⟩ := h y
    refine ⟨z', (atKey_put_other hne _ _).trans h1, h2, by omega, h4.trans ?_⟩
    rw [List.mem_append, List.mem_singleton]
    exact ⟨.inl, fun h => h.resolve_right hy⟩

def saysL (K : List Int) : List Int → Int → Bool × Int
  | [], l => (decide (l = 0), l)
  | x :: c, l => if x ∈ K then (false, 0) else if -x ∈ K ∨ x = l then saysL K c l else if l ≠ 0 then (false, 0) else saysL K c x
theorem says_drop {K : List Int} {c : List Int} {k : Nat} {l : Int} (hk : k < c.length) : saysL K (c.drop k) l = if c.getD k 0 ∈ K then (false, 0) else if -(c.getD k 0) ∈ K ∨ c.getD k 0 = l then saysL K (c.drop (k + 1)) l else if l ≠ 0 then (false, 0) else saysL K (c.drop (k + 1)) (c.getD k 0) := by
  rw [List.drop_eq_getElem_cons hk, List.getD_eq_getElem?_getD, List.getElem?_eq_getElem hk]; rfl

set_option maxHeartbeats 4000000 in
set_option maxRecDepth 100000 in
theorem says_any (A : Option Addr) (cc : Nat) (c : List Int) (b n : Nat) (D : DataW Unit) (K : List Int) (N : Nat) (w : World) (hC : IC w A c) (hl : c.length ≤ 9223372036854775807) (hf : ∀ x ∈ c, fm x = true)
    (hown : w.ownsMap Try.prog 3 (plainElem Try.prog 3) b n D) (hD : Counts D K N) :
    Calls Try.prog 71 #[.slice A c.length cc, .map (some b)] w fun e w' => e = .returned (.tuple #[.bool (saysL K c 0).1, .int .i64 (saysL K c 0).2]) ∧ w = w' := by
  have HC := Lib.hid hC
  have HO := Lib.hid hown
  have HD := Lib.hid hD
  have HF := Lib.hid (fun k (hk : k < c.length) => fm_true (hf (c.getD k 0) (by rw [List.getD_eq_getElem?_getD, List.getElem?_eq_getElem hk]; exact List.getElem_mem _)))
  have HS := Lib.hid (fun k l (hk : k < c.length) => says_drop (K := K) (l := l) hk)
  have HE := Lib.hid (fun k l (hk : k = c.length) => show saysL K (c.drop k) l = (decide (l = 0), l) by rw [List.drop_eq_nil_of_le (by omega)]; rfl)
  have H0 := Lib.hid (show saysL K c 0 = saysL K (c.drop 0) 0 by rw [List.drop_zero])
  generalize hR : saysL K c 0 = R at *
  clear hC hown hD hf hR
  generalize hm : c.length = m at *
  have Hm := Lib.hid hm
  clear hm
  go_enter Try.func71, Try.ntmps71
  go_wp2
  go_loop [5, 10] (fun u i => ∃ (k : Nat) (l : Int), k ≤ m ∧ i = .int .i64 k ∧ u = .int .i64 l ∧ -1048576 ≤ l ∧ l ≤ 1048576 ∧ Hid (R = saysL K (c.drop k) l)) (fun _ i => m - (intOf i).toNat)
  case atStart => exact ⟨0, 0, Nat.zero_le _, rfl, rfl, by omega, by omega, H0.out⟩
  case round =>
    obtain ⟨k, l, hk, rfl, rfl, l1, l2, hA⟩ := hrel
    by_cases hlt : k < m
    · obtain ⟨ad, hA1, hx⟩ := HC.out k (by rw [Hm.out]; exact hlt)
      subst hA1
      obtain ⟨x0, x1, x2⟩ := HF.out k hlt
      have HSk := Lib.hid (hA.out.trans (HS.out k l hlt))
      generalize c.getD k 0 = x at *
      obtain ⟨z1, hz1, p1, q1, i1⟩ := HD.out x
      obtain ⟨z2, hz2, p2, q2, i2⟩ := HD.out (-x)
      have hk1 := keyOf_int_mk (P := Try.prog) Try.underlying3 (a := x) (WalkArith.wf_i64 (by omega))
      have hk2 := keyOf_int_mk (P := Try.prog) Try.underlying3 (a := -x) (WalkArith.wf_i64 (by omega))
      have HK := Lib.hid (And.intro hk1 hk2)
      have HZ := Lib.hid (And.intro hz1 hz2)
      clear hk1 hk2 hz1 hz2
      by_cases c1 : 0 < z1
      · have d1 : decide (0 < z1) = true := decide_eq_true c1
        have HE1 := Lib.hid (show R = (false, 0) by rw [HSk.out, if_pos (i1.1 c1)])
        clear i1 i2 c1
        go_wp2_with (first
          | (at_lookup; refine wpList_lookup_own_int _ rfl (.tmp 16) (.tmp 17) 85 rfl 3 3 .i64 law3 Try.underlying85 Try.underlying3 (zero3 _) b _ D rfl HO.out (.int .i64 x) _ rfl HK.out.1 ?_; intro y hat hwc; obtain rfl : z1 = y := (by have := HZ.out.1.symm.trans hat; simpa [dI] using this); clear hat hwc))
        go_ret2
        exact ⟨by rw [HE1.out]; rfl, rfl⟩
      · have d1 : decide (0 < z1) = false := decide_eq_false c1
        have n1 : ¬ x ∈ K := fun h => c1 (i1.2 h)
        by_cases c2 : 0 < z2
        · have d2 : decide (0 < z2) = true := decide_eq_true c2
          have HE1 := Lib.hid (show R = saysL K (c.drop (k + 1)) l by rw [HSk.out, if_neg n1, if_pos (.inl (i2.1 c2))])
          clear i1 i2 c1 c2 n1
          go_wp2_with (first
            | (at_lookup; refine wpList_lookup_own_int _ rfl (.tmp 16) (.tmp 17) 85 rfl 3 3 .i64 law3 Try.underlying85 Try.underlying3 (zero3 _) b _ D rfl HO.out (.int .i64 x) _ rfl HK.out.1 ?_; intro y hat hwc; obtain rfl : z1 = y := (by have := HZ.out.1.symm.trans hat; simpa [dI] using this); clear hat hwc)
            | (at_lookup; refine wpList_lookup_own_int _ rfl (.tmp 21) (.tmp 23) 85 rfl 3 3 .i64 law3 Try.underlying85 Try.underlying3 (zero3 _) b _ D rfl HO.out (.int .i64 (-x)) _ rfl HK.out.2 ?_; intro y hat hwc; obtain rfl : z2 = y := (by have := HZ.out.2.symm.trans hat; simpa [dI] using this); clear hat hwc))
          go_round
          case rel => exact ⟨k + 1, l, by omega, by go_num, rfl, l1, l2, HE1.out⟩
          case measure => simp [intOf]; omega
        · have d2 : decide (0 < z2) = false := decide_eq_false c2
          have n2 : ¬ -x ∈ K := fun h => c2 (i2.2 h)
          by_cases c3 : x = l
          · subst c3
            have HE1 := Lib.hid (show R = saysL K (c.drop (k + 1)) x by rw [HSk.out, if_neg n1, if_pos (.inr rfl)])
            clear i1 i2 c1 c2 n1 n2
            go_wp2_with (first
              | (at_lookup; refine wpList_lookup_own_int _ rfl (.tmp 16) (.tmp 17) 85 rfl 3 3 .i64 law3 Try.underlying85 Try.underlying3 (zero3 _) b _ D rfl HO.out (.int .i64 x) _ rfl HK.out.1 ?_; intro y hat hwc; obtain rfl : z1 = y := (by have := HZ.out.1.symm.trans hat; simpa [dI] using this); clear hat hwc)
              | (at_lookup; refine wpList_lookup_own_int _ rfl (.tmp 21) (.tmp 23) 85 rfl 3 3 .i64 law3 Try.underlying85 Try.underlying3 (zero3 _) b _ D rfl HO.out (.int .i64 (-x)) _ rfl HK.out.2 ?_; intro y hat hwc; obtain rfl : z2 = y := (by have := HZ.out.2.symm.trans hat; simpa [dI] using this); clear hat hwc))
            go_round
            case rel => exact ⟨k + 1, x, by omega, by go_num, rfl, l1, l2, HE1.out⟩
            case measure => simp [intOf]; omega
          · have d3 : (x == l) = false := by simpa using c3
            by_cases c4 : l = 0
            · subst c4
              have HE1 := Lib.hid (show R = saysL K (c.drop (k + 1)) x by rw [HSk.out, if_neg n1, if_neg (fun h => h.elim n2 c3), if_neg (by simp)])
              clear i1 i2 c1 c2 n1 n2 c3
              go_wp2_with (first
                | (at_lookup; refine wpList_lookup_own_int _ rfl (.tmp 16) (.tmp 17) 85 rfl 3 3 .i64 law3 Try.underlying85 Try.underlying3 (zero3 _) b _ D rfl HO.out (.int .i64 x) _ rfl HK.out.1 ?_; intro y hat hwc; obtain rfl : z1 = y := (by have := HZ.out.1.symm.trans hat; simpa [dI] using this); clear hat hwc)
                | (at_lookup; refine wpList_lookup_own_int _ rfl (.tmp 21) (.tmp 23) 85 rfl 3 3 .i64 law3 Try.underlying85 Try.underlying3 (zero3 _) b _ D rfl HO.out (.int .i64 (-x)) _ rfl HK.out.2 ?_; intro y hat hwc; obtain rfl : z2 = y := (by have := HZ.out.2.symm.trans hat; simpa [dI] using this); clear hat hwc))
              go_round
              case rel => exact ⟨k + 1, x, by omega, by go_num, rfl, x1, x2, HE1.out⟩
              case measure => simp [intOf]; omega
            · have d4 : (l == 0) = false := by simpa using c4
              have d5 : (l != 0) = true := by simpa using c4
              have HE1 := Lib.hid (show R = (false, 0) by rw [HSk.out, if_neg n1, if_neg (fun h => h.elim n2 c3), if_pos c4])
              clear i1 i2 c1 c2 n1 n2 c3 c4
              go_wp2_with (first
                | (at_lookup; refine wpList_lookup_own_int _ rfl (.tmp 16) (.tmp 17) 85 rfl 3 3 .i64 law3 Try.underlying85 Try.underlying3 (zero3 _) b _ D rfl HO.out (.int .i64 x) _ rfl HK.out.1 ?_; intro y hat hwc; obtain rfl : z1 = y := (by have := HZ.out.1.symm.trans hat; simpa [dI] using this); clear hat hwc)
                | (at_lookup; refine wpList_lookup_own_int _ rfl (.tmp 21) (.tmp 23) 85 rfl 3 3 .i64 law3 Try.underlying85 Try.underlying3 (zero3 _) b _ D rfl HO.out (.int .i64 (-x)) _ rfl HK.out.2 ?_; intro y hat hwc; obtain rfl : z2 = y := (by have := HZ.out.2.symm.trans hat; simpa [dI] using this); clear hat hwc))
              go_ret2
              exact ⟨by rw [HE1.out]; rfl, rfl⟩
    · obtain rfl : k = m := by omega
      have HX := Lib.hid (hA.out.trans (HE.out k l rfl))
      by_cases hz : l = 0
      · subst hz
        go_wp2
        go_ret2
        exact ⟨by rw [HX.out]; rfl, rfl⟩
      · have hzb : (l == 0) = false := by simpa using hz
        have HZ := Lib.hid (show R = (false, l) by rw [HX.out, decide_eq_false hz])
        clear hz
        go_wp2
        go_ret2
        exact ⟨by rw [HZ.out]; rfl, rfl⟩

end Go.Proofs.Ythbccfgcemdgeaa.Spr
