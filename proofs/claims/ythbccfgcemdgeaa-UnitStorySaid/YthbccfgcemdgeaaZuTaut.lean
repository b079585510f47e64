/- Part of the proof of UnitStory: what the law uses of the text Taut. -/
import Derived.Test.YthbccfgcemdgeaaZuUD
import Derived.Shelf.SlicesE.DeleteFunc
import Derived.Ground.SlgfProg
import Derived.Shelf.Spec.SlicesGrow
import Derived.Ground.Names8Prog
import Derived.Test.YthbccfgcemdgeaaProg
import Derived.Test.YthbccfgcemdgeaaZuUpD
namespace Go.Proofs.Ythbccfgcemdgeaa.Spr
open Go.RowKit Go.Maps Go.Proofs.Ythbccfgcemdgeaa.Lit Go.Shelf Go.Proofs
set_option linter.unusedVariables false

def SafePost (w : World) (b : Bool) (e : Ending) (w' : World) : Prop := e = .returned (.bool b) ∧ Below w.heap.size w w'

def adjAt (t : List Int) (i : Nat) : Bool := t.getD (i + 1) 0 == -(t.getD i 0)
def adjB (t : List Int) : Bool := (List.range (t.length - 1)).any (adjAt t)
def tautB (xs : List Int) : Bool := adjB (tidyL xs)
theorem adj_iff {t : List Int} (hr : Rising t) (hf : ∀ x ∈ t, fm x = true) : adjB t = true ↔ ∃ x ∈ t, -x ∈ t := by
  unfold adjB adjAt
  rw [List.any_eq_true]
  constructor
  · rintro ⟨i, hi, h⟩
    have hi2 := List.mem_range.1 hi
    have e1 : t.getD (i + 1) 0 = t[i + 1] := by rw [List.getD_eq_getElem?_getD, List.getElem?_eq_getElem (by omega)]; rfl
    have e2 : t.getD i 0 = t[i] := by rw [List.getD_eq_getElem?_getD, List.getElem?_eq_getElem (by omega)]; rfl
    rw [e1, e2] at h
    have h2 : t[i + 1] = -t[i] := by simpa using h
    exact ⟨t[i], List.getElem_mem _, h2 ▸ List.getElem_mem _⟩
  · rintro ⟨x, hx, hn⟩
    -- the positive one first
    obtain ⟨y, hy, hyn, hp⟩ : ∃ y, y ∈ t ∧ -y ∈ t ∧ 0 < y := by
      obtain ⟨h0, _, _⟩ := fm_true (hf x hx)
      by_cases h : 0 < x
      · exact ⟨x, hx, hn, h⟩
      · exact ⟨-x, hn, by simpa using hx, by omega⟩
    obtain ⟨i, hi, ei⟩ := List.mem_iff_getElem.1 hy
    obtain ⟨j, hj, ej⟩ := List.mem_iff_getElem.1 hyn
    have hfy := hf y hy
    have ixy : ix y = 2 * y - 2 := by unfold ix; rw [if_pos hfy, if_neg (by omega)]
    have ixn : ix (-y) = 2 * y - 1 := by unfold ix; rw [if_pos (hf _ hyn), if_pos (by omega)]; omega
    have hpw := List.pairwise_iff_getElem.1 hr
    have hij : j = i + 1 := by
      rcases Nat.lt_trichotomy j i with h | h | h
      · have := hpw j i hj hi h; rw [ej, ei] at this; omega
      · subst h; rw [ei] at ej; omega
      · rcases Nat.lt_or_ge (i + 1) j with h2 | h2
        · have h3 := hpw i (i + 1) hi (by omega) (by omega)
          have h4 := hpw (i + 1) j (by omega) hj h2
          rw [ei] at h3; rw [ej] at h4; omega
        · omega
    subst hij
    refine ⟨i, List.mem_range.2 (by omega), ?_⟩
    have e1 : t.getD (i + 1) 0 = t[i + 1] := by rw [List.getD_eq_getElem?_getD, List.getElem?_eq_getElem (by omega)]; rfl
    have e2 : t.getD i 0 = t[i] := by rw [List.getD_eq_getElem?_getD, List.getElem?_eq_getElem (by omega)]; rfl
    rw [e1, e2, ej, ei]
    simp
theorem taut_iff (xs : List Int) : tautB xs = true ↔ ∃ x ∈ xs, fm x = true ∧ -x ∈ xs := by
  unfold tautB
  rw [adj_iff (tidy_rising xs) (fun x h => ((mem_tidy xs x).1 h).2)]
  constructor
  · rintro ⟨x, h1, h2⟩
    exact ⟨x, ((mem_tidy xs x).1 h1).1, ((mem_tidy xs x).1 h1).2, ((mem_tidy xs _).1 h2).1⟩
  · rintro ⟨x, h1, h2, h3⟩
    exact ⟨x, (mem_tidy xs x).2 ⟨h1, h2⟩, (mem_tidy xs _).2 ⟨h3, fm_neg h2⟩⟩
theorem any_range_succ (p : Nat → Bool) (m : Nat) : (List.range (m + 1)).any p = ((List.range m).any p || p m) := by rw [List.range_succ, List.any_append]; simp
theorem any_range_hit {p : Nat → Bool} {m n : Nat} (h : m < n) (hp : p m = true) : (List.range n).any p = true := List.any_eq_true.2 ⟨m, List.mem_range.2 h, hp⟩
theorem IC.drewN {w : World} {A : Option Addr} {xs : List Int} (h : IC w A xs) (q : Nat) : IC (w.drewN q) A xs := fun k hk => h k hk

set_option maxHeartbeats 2000000 in
set_option maxRecDepth 100000 in
theorem taut_any (A : Option Addr) (c : Nat) (xs : List Int) (w : World) (hC : IC w A xs) (hlen : xs.length * 8 ≤ 281474976710656) :
    Calls Try.prog 70 #[.slice A xs.length c] w (SafePost w (tautB xs)) := by
  have HT := Lib.hid (tidy_some A c xs w hC hlen)
  have hf : ∀ x ∈ tidyL xs, fm x = true := fun x h => ((mem_tidy xs x).1 h).2
  have hl := tidy_len xs
  unfold TidyPostS at HT
  unfold SafePost tautB adjB
  clear hC
  generalize xs.length = nx at *
  generalize tidyL xs = t at *
  have HF := Lib.hid (fun k (hk : k < t.length) => fm_true (hf (t.getD k 0) (by rw [List.getD_eq_getElem?_getD, List.getElem?_eq_getElem hk]; exact List.getElem_mem _)))
  have HS := Lib.hid (any_range_succ (adjAt t))
  have HH := Lib.hid (fun (m n : Nat) (h : m < n) (hp : adjAt t m = true) => any_range_hit (p := adjAt t) h hp)
  have HAt := Lib.hid (fun m => show adjAt t m = (t.getD (m + 1) 0 == -(t.getD m 0)) from rfl)
  generalize adjAt t = p at *
  clear hf
  generalize hN : t.length = N at *
  have HN := Lib.hid hN
  clear hN
  generalize hR : (List.range (N - 1)).any p = R at *
  have HR := Lib.hid hR
  clear hR
  go_enter Try.func70, Try.ntmps70
  go_wp2_with (go_at_call 59; refine HT.out.mono ?_; rintro e w1 ⟨v1, rfl, ho1, hb1, hn1⟩; obtain ⟨A1, c1, hv, hi1⟩ := own_IC ho1; obtain ⟨g, cap, cur, hv2, _⟩ := ho1.2.resolve_left (fun h => hn1 h.1); rw [hv] at hv2; injection hv2 with hv3; subst hv3; rw [HN.out] at hv; subst hv; have HI1 := Lib.hid hi1; have HB1 := Lib.hid hb1; clear ho1 hb1 hi1 hn1)
  go_loopw [4] (fun i wr => ∃ m : Nat, (m + 1 ≤ N ∨ m = 0) ∧ i = .int .i64 ((m : Int) + 1) ∧ Hid ((List.range m).any p = false) ∧ Hid (IC wr (some ⟨g, 0, none⟩) t) ∧ Hid (Below w.heap.size w wr)) (fun i _ => N + 1 - (intOf i).toNat)
  case atStart => exact ⟨0, .inr rfl, rfl, rfl, HI1.out, HB1.out⟩
  case round =>
    obtain ⟨m, hm, rfl, hA, hI, hb⟩ := hrel
    by_cases hlt : m + 1 < N
    · obtain ⟨ad, hA1, hx1⟩ := hI.out (m + 1) (by rw [HN.out]; exact hlt)
      obtain ⟨ad2, hA2, hx0⟩ := hI.out m (by rw [HN.out]; omega)
      cases hA1
      cases hA2
      rw [show (⟨g, 0, none⟩ : Addr).add (m + 1) = ⟨g, m + 1, none⟩ by simp [Addr.add]] at hx1
      rw [show (⟨g, 0, none⟩ : Addr).add m = ⟨g, m, none⟩ by unfold Addr.add; split <;> simp_all] at hx0
      obtain ⟨_, f1, f2⟩ := HF.out m (by omega)
      have HAm := Lib.hid (HAt.out m)
      have HSm := Lib.hid (HS.out m)
      have HHm := Lib.hid (fun hp => HH.out m (N - 1) (by omega) hp)
      have hlti : (m : Int) + 1 < (N : Int) := by omega
      have hm1 : ((m : Int) + 1).toNat = m + 1 := by omega
      have hm4 : (m : Int) < (N : Int) := by omega
      have hm5 : (0 : Int) ≤ (m : Int) + 1 := by omega
      have hm6 : (0 : Int) ≤ (m : Int) := by omega
      have hn0 : IntKind.i64.wrap (m : Int) = (m : Int) := by rw [IntKind.wrap_i64]; omega
      have hn1 : IntKind.i64.wrap ((m : Int) + 1 - 1) = (m : Int) := by rw [IntKind.wrap_i64]; omega
      generalize t.getD (m + 1) 0 = y at *
      generalize t.getD m 0 = x at *
      by_cases hy : y = -x
      · have hyb : (y == -x) = true := by simpa using hy
        have HE := Lib.hid (show R = true by rw [← HR.out]; exact HHm.out (by rw [HAm.out]; exact hyb))
        clear hy
        go_wp2
        go_quiet (fail)
        go_wp2
        go_ret
        exact ⟨by rw [HE.out]; rfl, below_drewN hb.out _⟩
      · have hyb : (y == -x) = false := by simpa using hy
        have HSx := Lib.hid (show (List.range (m + 1)).any p = false by rw [HSm.out, hA.out, HAm.out, hyb]; rfl)
        clear hy
        go_wp2
        go_quiet (fail)
        go_wp2
        go_roundw
        case rel => exact ⟨m + 1, .inl (by omega), by go_num, HSx.out, IC.drewN hI.out _, below_drewN hb.out _⟩
        case measure => simp [intOf]; omega
    · have hge : ¬ ((m : Int) + 1 < (N : Int)) := by omega
      have hmN : N - 1 = m := by omega
      have HE := Lib.hid (show R = false by rw [← HR.out, hmN]; exact hA.out)
      clear hmN hlt
      go_wp2
      go_ret
      exact ⟨by rw [HE.out]; rfl, hb.out⟩

end Go.Proofs.Ythbccfgcemdgeaa.Spr
