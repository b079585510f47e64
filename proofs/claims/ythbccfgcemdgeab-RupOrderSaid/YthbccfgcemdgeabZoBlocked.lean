/- Part of the proof of RupOrder: what the law uses of the text Blocked. -/
import Derived.Test.YthbccfgcemdgeabZoSafe
namespace Go.Proofs.Ythbccfgcemdgeab.Spr
open Go.RowKit Go.Maps Go.Proofs.Ythbccfgcemdgeab.Lit Go.Shelf Go.Proofs
set_option linter.unusedVariables false

def adjAt (t : List Int) (i : Nat) : Bool := t.getD (i + 1) 0 == -(t.getD i 0)
def adjB (t : List Int) : Bool := (List.range (t.length - 1)).any (adjAt t)
def tautB (xs : List Int) : Bool := adjB (tidyL xs)
theorem any_range_succ (p : Nat → Bool) (m : Nat) : (List.range (m + 1)).any p = ((List.range m).any p || p m) := by rw [List.range_succ, List.any_append]; simp
theorem any_range_hit {p : Nat → Bool} {m n : Nat} (h : m < n) (hp : p m = true) : (List.range n).any p = true := List.any_eq_true.2 ⟨m, List.mem_range.2 h, hp⟩
theorem IC.drewN {w : World} {A : Option Addr} {xs : List Int} (h : IC w A xs) (q : Nat) : IC (w.drewN q) A xs := fun k hk => h k hk

set_option maxHeartbeats 2000000 in
set_option maxRecDepth 100000 in
theorem taut_any (A : Option Addr) (c : Nat) (xs : List Int) (w : World) (hC : IC w A xs) (hlen : xs.length * 8 ≤ 281474976710656) :
    Calls Try.prog 38 #[.slice A xs.length c] w (SafePost w (tautB xs)) := by
  have HT := Lib.hid (tidy_some A c xs w hC hlen)
  have hf : ∀ x ∈ tidyL xs, fm x = true := fun x h => ((mem_tidy xs x).1 h).2
  have hl := tidy_len xs
  unfold TidyPostS at HT
  unfold SafePost tautB adjB
  clear hC
  generalize xs.length = nx at *
  generalize tidyL xs = t at *
  have HF := Lib.hid (fun k (hk : k < t.length) => fm_true (hf (t.getD k 0) (by rw [List.getD_eq_getElem?_getD, List.getElem?_eq_getElem hk]; exact List.getElem_mem _)))
  have HS := Lib.hid (any_range_succ (adjAt t))
  have HH := Lib.hid (fun (m n : Nat) (h : m < n) (hp : adjAt t m = true) => any_range_hit (p := adjAt t) h hp)
  have HAt := Lib.hid (fun m => show adjAt t m = (t.getD (m + 1) 0 == -(t.getD m 0)) from rfl)
  generalize adjAt t = p at *
  clear hf
  generalize hN : t.length = N at *
  have HN := Lib.hid hN
  clear hN
  generalize hR : (List.range (N - 1)).any p = R at *
  have HR := Lib.hid hR
  clear hR
  go_enter Try.func38, Try.ntmps38
  go_wp2_with (go_at_call 42; refine HT.out.mono ?_; rintro e w1 ⟨v1, rfl, ho1, hb1, hn1⟩; obtain ⟨A1, c1, hv, hi1⟩ := own_IC ho1; obtain ⟨g, cap, cur, hv2, _⟩ := ho1.2.resolve_left (fun h => hn1 h.1); rw [hv] at hv2; injection hv2 with hv3; subst hv3; rw [HN.out] at hv; subst hv; have HI1 := Lib.hid hi1; have HB1 := Lib.hid hb1; clear ho1 hb1 hi1 hn1)
  go_loopw [4] (fun i wr => ∃ m : Nat, (m + 1 ≤ N ∨ m = 0) ∧ i = .int .i64 ((m : Int) + 1) ∧ Hid ((List.range m).any p = false) ∧ Hid (IC wr (some ⟨g, 0, none⟩) t) ∧ Hid (Below w.heap.size w wr)) (fun i _ => N + 1 - (intOf i).toNat)
  case atStart => exact ⟨0, .inr rfl, rfl, rfl, HI1.out, HB1.out⟩
  case round =>
    obtain ⟨m, hm, rfl, hA, hI, hb⟩ := hrel
    by_cases hlt : m + 1 < N
    · obtain ⟨ad, hA1, hx1⟩ := hI.out (m + 1) (by rw [HN.out]; exact hlt)
      obtain ⟨ad2, hA2, hx0⟩ := hI.out m (by rw [HN.out]; omega)
      cases hA1
      cases hA2
      rw [show (⟨g, 0, none⟩ : Addr).add (m + 1) = ⟨g, m + 1, none⟩ by simp [Addr.add]] at hx1
      rw [show (⟨g, 0, none⟩ : Addr).add m = ⟨g, m, none⟩ by unfold Addr.add; split <;> simp_all] at hx0
      obtain ⟨_, f1, f2⟩ := HF.out m (by omega)
      have HAm := Lib.hid (HAt.out m)
      have HSm := Lib.hid (HS.out m)
      have HHm := Lib.hid (fun hp => HH.out m (N - 1) (by omega) hp)
      have hlti : (m : Int) + 1 < (N : Int) := by omega
      have hm1 : ((m : Int) + 1).toNat = m + 1 := by omega
      have hm4 : (m : Int) < (N : Int) := by omega
      have hm5 : (0 : Int) ≤ (m : Int) + 1 := by omega
      have hm6 : (0 : Int) ≤ (m : Int) := by omega
      have hn0 : IntKind.i64.wrap (m : Int) = (m : Int) := by rw [IntKind.wrap_i64]; omega
      have hn1 : IntKind.i64.wrap ((m : Int) + 1 - 1) = (m : Int) := by rw [IntKind.wrap_i64]; omega
      generalize t.getD (m + 1) 0 = y at *
      generalize t.getD m 0 = x at *
      by_cases hy : y = -x
      · have hyb : (y == -x) = true := by simpa using hy
        have HE := Lib.hid (show R = true by rw [← HR.out]; exact HHm.out (by rw [HAm.out]; exact hyb))
        clear hy
        go_wp2
        go_quiet (fail)
        go_wp2
        go_ret
        exact ⟨by rw [HE.out]; rfl, below_drewN hb.out _⟩
      · have hyb : (y == -x) = false := by simpa using hy
        have HSx := Lib.hid (show (List.range (m + 1)).any p = false by rw [HSm.out, hA.out, HAm.out, hyb]; rfl)
        clear hy
        go_wp2
        go_quiet (fail)
        go_wp2
        go_roundw
        case rel => exact ⟨m + 1, .inl (by omega), by go_num, HSx.out, IC.drewN hI.out _, below_drewN hb.out _⟩
        case measure => simp [intOf]; omega
    · have hge : ¬ ((m : Int) + 1 < (N : Int)) := by omega
      have hmN : N - 1 = m := by omega
      have HE := Lib.hid (show R = false by rw [← HR.out, hmN]; exact hA.out)
      clear hmN hlt
      go_wp2
      go_ret
      exact ⟨by rw [HE.out]; rfl, hb.out⟩

theorem fit_any (v : Int) (A : Option Addr) (c0 : Nat) (cs : List (List Int)) (Af : Option Addr) (cf : Nat) (c : List Int) (w : World) (hC : RC w A cs) (hF : IC w Af c) (hS : Fits cs c) :
    Calls Try.prog 33 #[.agg #[.int .i64 v, .slice A cs.length c0], .slice Af c.length cf] w (SafePost w (formedB v cs && c.all fm)) := by
  have hHB : Below w.heap.size w (w.alloc (.cells #[.int .i64 v, .slice A cs.length c0] 24)) := (Below.refl _ _).alloc (Nat.le_refl _) _
  have h24 := hS.1
  have h8 := hS.2.1
  have HFm := Lib.hid (cformed_any v A c0 cs _ (hC.below hHB) (by omega) (fun x hx => by have := h8 x hx; omega))
  have HB := Lib.hid hHB
  have HSo := Lib.hid (fun (w2 : World) (hb : Below w.heap.size w w2) => sound_any Af cf c w2 (hF.below hb) (by have := hS.2.2; omega))
  unfold SafePost
  clear hC hF hS hHB h24 h8
  generalize formedB v cs = b1 at *
  generalize c.all fm = b2 at *
  generalize c.length = n at *
  generalize cs.length = m at *
  cases b1 with
  | true =>
    rw [Bool.true_and]
    go_enter Try.func33, Try.ntmps33
    go_wp2_with (first
      | (go_at_call 28; refine HFm.out.mono ?_; rintro e w2 ⟨rfl, hb2⟩; have HB2 := Lib.hid (HB.out.trans (hb2.mono HB.out.size)); clear hb2)
      | (go_at_call 11; refine (HSo.out _ HB2.out).mono ?_; rintro e w3 ⟨rfl, rfl⟩))
    go_ret
    exact ⟨rfl, HB2.out⟩
  | false =>
    rw [Bool.false_and]
    go_enter Try.func33, Try.ntmps33
    go_wp2_with (first
      | (go_at_call 28; refine HFm.out.mono ?_; rintro e w2 ⟨rfl, hb2⟩; have HB2 := Lib.hid (HB.out.trans (hb2.mono HB.out.size)); clear hb2))
    go_ret
    exact ⟨rfl, HB2.out⟩

set_option maxHeartbeats 2000000 in
set_option maxRecDepth 100000 in
theorem blocked1_any (bl : Nat) (Al : Option Addr) (cl : Nat) (left : List Int) (A2 : Option Addr) (c2 : Nat) (rest : List Int) (w : World)
    (hc0 : w.cell? ⟨bl, 0, none⟩ = some (.slice Al left.length cl)) (hL : IC w Al left) (hR : IC w A2 rest) (hl : (left.length + rest.length) * 8 ≤ 281474976710656) :
    Calls Try.prog 37 #[.slice A2 rest.length c2, .pointer (some ⟨bl, 0, none⟩)] w (SafePost w (tautB (joinL left rest))) := by
  have HJ := Lib.hid (join_any Al A2 cl c2 left rest w hL hR hl)
  have HT := Lib.hid (fun (w2 : World) (A3 : Option Addr) (c3 : Nat) (h3 : IC w2 A3 (joinL left rest)) => taut_any A3 c3 (joinL left rest) w2 h3 (by have := join_len left rest; omega))
  unfold RowPost at HJ
  unfold SafePost at HT ⊢
  clear hL hR hl
  generalize tautB (joinL left rest) = b at *
  generalize joinL left rest = zs at *
  generalize left.length = n at *
  generalize rest.length = m at *
  go_enter Try.func37, Try.ntmps37
  go_wp2_with (first
    | (go_at_call 13; refine HJ.out.mono ?_; rintro e w1 ⟨v1, rfl, ho1, hb1⟩; obtain ⟨A3, c3, rfl, hi1⟩ := own_IC ho1; have HI1 := Lib.hid hi1; have HB1 := Lib.hid hb1; clear ho1 hb1 hi1)
    | (go_at_call 38; refine (HT.out _ A3 c3 HI1.out).mono ?_; rintro e w2 ⟨rfl, hb2⟩; have HB2 := Lib.hid (HB1.out.trans (hb2.mono HB1.out.size)); clear hb2))
  go_ret
  exact ⟨rfl, HB2.out⟩

def blockedB (cs : List (List Int)) (c : List Int) : Bool := decide (0 < c.length) && cs.all (partB (c.getD 0 0) fun rest => tautB (joinL (withoutL c (c.getD 0 0)) rest))
def blockedR (v : Int) (cs : List (List Int)) (c : List Int) : Bool × Int := if (formedB v cs && c.all fm) = true then (blockedB cs c, 0) else (false, 1)
theorem enters_blocked1 : ∀ args w, (callFunc 37 args).run Try.prog w = .ok (.enter 37 args) w := enters_of Try.func37 (by kernel_rfl) rfl

set_option maxHeartbeats 4000000 in
set_option maxRecDepth 100000 in
theorem blocked_any (v : Int) (A : Option Addr) (c0 : Nat) (cs : List (List Int)) (Af : Option Addr) (cf : Nat) (c : List Int) (w : World) (hC : RC w A cs) (hF : IC w Af c) (hS : Fits cs c) :
    Calls Try.prog 9 #[.agg #[.int .i64 v, .slice A cs.length c0], .slice Af c.length cf] w fun e w' => e = .returned (.tuple #[.bool (blockedR v cs c).1, .int .i64 (blockedR v cs c).2]) ∧ Below w.heap.size w w' := by
  have hmf : ∀ (fn : Fn) (first cap : Array Value) (w : World), (Instr.makeFunc fn first cap).run Try.prog w = .ok (.func fn first cap) w := fun _ _ _ _ => rfl
  have hHB : Below w.heap.size w (w.alloc (.cells #[.int .i64 v, .slice A cs.length c0] 24)) := (Below.refl _ _).alloc (Nat.le_refl _) _
  have hc0 : (w.alloc (.cells #[.int .i64 v, .slice A cs.length c0] 24)).cell? ⟨w.heap.size, 0, none⟩ = some (.int .i64 v) := by simp
  have hc1 : (w.alloc (.cells #[.int .i64 v, .slice A cs.length c0] 24)).cell? ⟨w.heap.size, 1, none⟩ = some (.slice A cs.length c0) := by simp
  have HC1 := Lib.hid (And.intro hc0 hc1)
  have HB := Lib.hid hHB
  have HFt := Lib.hid (fit_any v A c0 cs Af cf c _ (hC.below hHB) (hF.below hHB) hS)
  unfold SafePost at HFt
  clear hc0 hc1
  unfold blockedR
  obtain ⟨b, hb⟩ : ∃ b, (formedB v cs && c.all fm) = b := ⟨_, rfl⟩
  rw [hb] at HFt ⊢
  cases b with
  | false =>
    clear hC hF hS hHB hb
    rw [if_neg (by decide)]
    generalize c.length = n at *
    go_enter Try.func9, Try.ntmps9
    go_wp2_with (go_at_call 33; refine HFt.out.mono ?_; rintro e w2 ⟨rfl, hb2⟩; have HB2 := Lib.hid (HB.out.trans (hb2.mono HB.out.size)); clear hb2)
    go_ret2
    exact ⟨rfl, HB2.out⟩
  | true =>
    rw [if_pos rfl]
    rw [Bool.and_eq_true] at hb
    have hfm := List.all_eq_true.1 hb.2
    by_cases hp : 0 < c.length
    · have HW := Lib.hid (fun (w2 : World) (hb : Below w.heap.size w w2) => without_any Af cf c (c.getD 0 0) w2 (hF.below hb) (by have := hS.2.2; omega))
      have HE := Lib.hid (fun (w2 : World) (hb2 : Below w.heap.size w w2) (bl : Nat) (Al : Option Addr) (cl : Nat) (hc0 : w2.cell? ⟨bl, 0, none⟩ = some (.slice Al (withoutL c (c.getD 0 0)).length cl)) (hL : IC w2 Al (withoutL c (c.getD 0 0))) =>
        each_any 37 #[.pointer (some ⟨bl, 0, none⟩)] (fun rest => tautB (joinL (withoutL c (c.getD 0 0)) rest)) v A c0 cs Af cf c w2 enters_blocked1 (hC.below hb2) (hF.below hb2) ⟨hS.1, hS.2.1, by simp⟩ hp hfm
          (fun w3 hb3 A2 c2 rest hR hl => blocked1_any bl Al cl (withoutL c (c.getD 0 0)) A2 c2 rest w3 ((hb3.cell (p := ⟨bl, 0, none⟩) (World.block_lt_of_cell? w2 _ hc0)).trans hc0) (hL.below hb3) hR (by have := without_len c (c.getD 0 0); omega)))
      obtain ⟨af, hAf, hx0⟩ := hF 0 hp
      have e0 : af.add 0 = af := by cases af; simp [Addr.add]
      rw [e0] at hx0
      subst hAf
      have HX0 := Lib.hid hx0
      have hpd : ¬ ((c.length : Int) = 0) := by omega
      have hpb : ((c.length : Int) == 0) = false := by simpa using hpd
      have hpp : (0 : Int) < (c.length : Int) := by omega
      have hbl : blockedB cs c = cs.all (partB (c.getD 0 0) fun rest => tautB (joinL (withoutL c (c.getD 0 0)) rest)) := by unfold blockedB; rw [decide_eq_true hp, Bool.true_and]
      rw [hbl]
      unfold RowPost at HW
      unfold SafePost at HE
      clear hC hF hS hHB hb hfm hp hx0 e0 hbl
      generalize cs.all (partB (c.getD 0 0) fun rest => tautB (joinL (withoutL c (c.getD 0 0)) rest)) = RR at *
      generalize withoutL c (c.getD 0 0) = zs at *
      generalize c.getD 0 0 = l at *
      generalize c.length = n at *
      generalize cs.length = m at *
      go_enter Try.func9, Try.ntmps9
      go_wp2_with (first
        | (go_at_call 33; refine HFt.out.mono ?_; rintro e w2 ⟨rfl, hb2⟩; have HB2 := Lib.hid (HB.out.trans (hb2.mono HB.out.size)); have hx2 := (HB2.out.cell (World.block_lt_of_cell? w _ HX0.out)).trans HX0.out; have hd0 := (hb2.cell (p := ⟨w.heap.size, 0, none⟩) (by simp)).trans HC1.out.1; have hd1 := (hb2.cell (p := ⟨w.heap.size, 1, none⟩) (by simp)).trans HC1.out.2; have hlt2 : w.heap.size < w2.heap.size := Nat.lt_of_lt_of_le (by simp) hb2.size; clear hb2)
        | (go_at_call 35; refine (HW.out _ HB2.out).mono ?_; rintro e w3 ⟨v3, rfl, ho3, hb3⟩; obtain ⟨A3, c3, rfl, hi3⟩ := own_IC ho3; have HI3 := Lib.hid hi3; have HB3 := Lib.hid (HB2.out.trans (hb3.mono HB2.out.size)); have he0 := (hb3.cell (p := ⟨w.heap.size, 0, none⟩) hlt2).trans hd0; have he1 := (hb3.cell (p := ⟨w.heap.size, 1, none⟩) hlt2).trans hd1; have hlt3 : w.heap.size < w3.heap.size := Nat.lt_of_lt_of_le hlt2 hb3.size; clear ho3 hb3 hi3)
        | (go_at_call 36; refine (HE.out _ (HB3.out.alloc HB3.out.size _) w3.heap.size A3 c3 (by simp) (HI3.out.below ((Below.refl _ _).alloc (Nat.le_refl _) _))).mono ?_; rintro e w4 ⟨rfl, hb4⟩; have HB4 := Lib.hid ((HB3.out.alloc HB3.out.size _).trans (hb4.mono (HB3.out.alloc HB3.out.size _).size)); clear hb4))
      go_ret2
      exact ⟨rfl, HB4.out⟩
    · have hpz : c.length = 0 := by omega
      have hbl : blockedB cs c = false := by unfold blockedB; rw [decide_eq_false hp, Bool.false_and]
      rw [hbl]
      rw [hpz] at HFt ⊢
      clear hC hF hS hHB hb hfm hp hpz hbl
      go_enter Try.func9, Try.ntmps9
      go_wp2_with (go_at_call 33; refine HFt.out.mono ?_; rintro e w2 ⟨rfl, hb2⟩; have HB2 := Lib.hid (HB.out.trans (hb2.mono HB.out.size)); clear hb2)
      go_ret2
      exact ⟨rfl, HB2.out⟩

end Go.Proofs.Ythbccfgcemdgeab.Spr
