/- Part of the proof of TrimRight: what the law uses of the text Blame. -/
import Derived.Test.YtfljggodnnpeiaaZRBlP
import Derived.Test.YtfljggodnnpeiaaZRSays
import Derived.Test.YtfljggodnnpeiaaZRJWithout
import Derived.Outline
namespace Go.Proofs.Ytfljggodnnpeiaa.Spr
open Go.RowKit Go.Maps Go.Proofs.Ytfljggodnnpeiaa.Lit
set_option linter.unusedVariables false
set_option linter.unusedSimpArgs false

theorem row_slice {w : World} {B : Nat} {τ : Nat → Nat} {t : Nat} {e : TypeId} {k : IntKind} {v : Value} {xs : List Int} (h : IRow w B τ t e k v xs) : ∃ A c, v = .slice A xs.length c := by
  obtain ⟨A, c, h⟩ := own_slice h.own
  rw [ints_len] at h
  exact ⟨A, c, h⟩
theorem own_cap {w : World} {base n : Nat} {e : TypeId} {size : Nat} {A : Option Addr} {m c : Nat} {xs : List Value} (h : w.ownsRow base e size (.slice A m c) n xs) : m ≤ c ∧ c ≤ 9223372036854775807 := by
  obtain ⟨h1, h2⟩ := h
  rcases h2 with ⟨h3, h4⟩ | ⟨g, cap, cur, h3, h5⟩
  · injection h3 with e1 e2 e3
    subst e1 e2 e3
    exact ⟨Nat.le_refl _, by omega⟩
  · injection h3 with e1 e2 e3
    subst e1 e2 e3
    exact ⟨h5.2.2.1, by have := h5.2.2.2.1; unfold maxLen at this; omega⟩
def BlR (w0 : World) (m : Nat) (sO sA : Value) (A out : List Int) (wr : World) : Prop :=
  ∃ τ D, wr.ownsMap Try.prog 3 (plainElem Try.prog 3) m out.length D ∧ Counts D out out.length ∧ w0.heap.size ≤ m ∧ τ m = 1 ∧ IRow wr w0.heap.size τ 2 3 .i64 sO out ∧ IRow wr w0.heap.size τ 3 3 .i64 sA A ∧ Below w0.heap.size w0 wr
theorem BlR.cut {w0 wr : World} {m n c : Nat} {sO : Value} {Aa : Option Addr} {A out : List Int} (h : BlR w0 m sO (.slice Aa A.length c) A out wr) (hn : n ≤ A.length) : BlR w0 m sO (.slice Aa n c) (A.take n) out wr := by
  obtain ⟨τ, D, h1, h2, h3, h4, h5, h6, h7⟩ := h
  refine ⟨τ, D, h1, h2, h3, h4, h5, ⟨?_, ?_⟩, h7⟩
  · have h := h6.own
    rw [ints_len] at h
    have h2 := Go.Proofs.YtfljggodnnpeiaaW.PrintWords.own_take h hn
    rw [Nat.mul_one] at h2
    have e : (ints .i64 A).take n = ints .i64 (A.take n) := by unfold ints; rw [List.map_take]
    rw [e] at h2
    have e2 : (ints .i64 (A.take n)).length = n := by rw [ints_len, List.length_take]; omega
    rw [e2]; exact h2
  · intro k hk
    refine h6.tag k ?_
    cases Aa with
    | none => simp [Value.ownBlock] at hk
    | some a => simpa [Value.ownBlock] using hk
theorem BlR.init {w : World} (bad : Int) : BlR w w.heap.size (.slice none 0 0) (.slice (some ⟨w.heap.size + 1, 0, none⟩) 1 1) [bad] [] ((w.alloc (.map #[] 0)).alloc (.cells #[.int .i64 bad] 3)) := by
  refine ⟨fun k => if k = w.heap.size then 1 else 3, _, (World.ownsMap_made w _ _ _).alloc _, Counts.init, Nat.le_refl _, by simp, ⟨⟨by simp [ints], .inl ⟨rfl, by simp [ints]⟩⟩, Tg.nil _ _ _ _⟩, ⟨⟨rfl, .inr ⟨w.heap.size + 1, 1, #[.int .i64 bad], rfl, by omega, ?_, by simp [ints], by unfold maxLen; omega, rfl, rfl⟩⟩, ?_⟩, ((Below.refl _ _).alloc (Nat.le_refl _) _).alloc (by simp) _⟩
  · have h1 : (w.alloc (.map #[] 0)).heap.size = w.heap.size + 1 := by simp
    have := heap_alloc_new (w.alloc (.map #[] 0)) (.cells #[.int .i64 bad] 3)
    rw [h1] at this
    exact this
  · intro k hk
    have : w.heap.size + 1 = k := by simpa [Value.ownBlock] using hk
    subst this
    simp
theorem BlR.push {w0 wr w6 : World} {m : Nat} {sO sA v6 : Value} {A out : List Int} {x : Int} {o : Obj} (h : BlR w0 m sO sA A out wr) (hown : w6.ownsRow w0.heap.size 3 1 v6 ((ints .i64 A).length + 1) (ints .i64 A ++ [.int .i64 x])) (hg : (wr.alloc o).grownBy w6 sA.ownBlock) (hat : v6.ownBlock = sA.ownBlock ∨ v6.ownBlock = some (wr.alloc o).heap.size) : BlR w0 m sO v6 (A ++ [x]) out w6 := by
  obtain ⟨τ, D, h1, h2, h3, h4, h5, h6, h7⟩ := h
  have hs := stay_push o hg h6.tag
  have hlm : m < wr.heap.size := h1.lt
  refine ⟨_, D, ?_, h2, h3, (hs.tag m hlm).trans h4, h5.stay hs (by omega), ⟨row_snoc hown, ?_⟩, below_push o hg h7.size (fun k hk => (h6.own.lt k hk).1) |> h7.trans⟩
  · exact (h1.alloc o).kept hg (Tg.ne' h4 h6.tag (by omega))
  · intro k hk
    rcases hat with e | e
    · rw [e] at hk
      exact (hs.tag k (h6.own.lt k hk).2).trans (h6.tag k hk)
    · rw [e] at hk
      injection hk with hk
      rw [← hk]
      exact retag_new (by simp)
theorem BlR.tell {w0 wr w5 w6 : World} {m : Nat} {sO sA v6 : Value} {A out : List Int} {x z : Int} {o : Obj} {τ : Nat → Nat} {D : DataW Unit}
    (h1 : wr.ownsMap Try.prog 3 (plainElem Try.prog 3) m out.length D) (h2 : Counts D out out.length) (h3 : w0.heap.size ≤ m) (h4 : τ m = 1) (h5 : IRow wr w0.heap.size τ 2 3 .i64 sO out) (h6 : IRow wr w0.heap.size τ 3 3 .i64 sA A) (h7 : Below w0.heap.size w0 wr)
    (hz : D.atKey (.int .i64 x) (dI 0) = dI z) (hm5 : w5.ownsMap Try.prog 3 (plainElem Try.prog 3) m (out.length + 1) (D.put (.int .i64 x) (dI (z + 1)))) (hg5 : wr.grownBy w5 (some m))
    (hown : w6.ownsRow w0.heap.size 3 1 v6 ((ints .i64 out).length + 1) (ints .i64 out ++ [.int .i64 x])) (hg : (w5.alloc o).grownBy w6 sO.ownBlock) (hat : v6.ownBlock = sO.ownBlock ∨ v6.ownBlock = some (w5.alloc o).heap.size) : BlR w0 m v6 sA A (out ++ [x]) w6 := by
  have hs5 := stay_map hg5 h4
  have h5' := h5.stay hs5 (by omega)
  have h6' := h6.stay hs5 (by omega)
  have hs := stay_push o hg h5'.tag
  have hlm : m < wr.heap.size := h1.lt
  have hlm5 : m < w5.heap.size := hm5.lt
  have hb5 : Below w0.heap.size w0 w5 := h7.trans (below_stay hg5 h7.size (fun k e => by cases e; exact h3))
  have ht5 : retag τ wr.heap.size 1 m = 1 := (hs5.tag m hlm).trans h4
  refine ⟨_, _, by rw [List.length_append]; exact (hm5.alloc o).kept hg (Tg.ne' ht5 h5'.tag (by omega)), by rw [List.length_append]; exact h2.put h1.isMap x z hz, h3, (hs.tag m hlm5).trans ht5, ⟨row_snoc hown, ?_⟩, h6'.stay hs (by omega), below_push o hg hb5.size (fun k hk => (h5'.own.lt k hk).1) |> hb5.trans⟩
  intro k hk
  rcases hat with e | e
  · rw [e] at hk
    exact (hs.tag k (h5'.own.lt k hk).2).trans (h5'.tag k hk)
  · rw [e] at hk
    injection hk with hk
    rw [← hk]
    exact retag_new (by simp)
theorem BlR.rep {w0 wr : World} {B b m : Nat} {τ : Nat → Nat} {V : Vals} {S : St} {sO sA : Value} {A out : List Int} (h : BlR w0 m sO sA A out wr) (R : Rep w0 B b τ V S) : Rep wr B b τ V S := by
  obtain ⟨_, _, _, _, _, _, _, _, hb⟩ := h
  exact R.stay ⟨hb.size, fun _ _ => rfl, fun k hk _ => hb.block k hk⟩

theorem BlR.bel {w0 wr : World} {m : Nat} {sO sA : Value} {A out : List Int} (h : BlR w0 m sO sA A out wr) : Below w0.heap.size w0 wr := by
  obtain ⟨_, _, _, _, _, _, _, _, hb⟩ := h
  exact hb
theorem Rep.whyat {w : World} {B b : Nat} {τ : Nat → Nat} {V : Vals} {S : St} (R : Rep w B b τ V S) (h : Ok S) (l : Int) (hk : S.ids.contains (lv l) = true) :
    ∃ gw cw p, w.cell? ⟨b, 6, none⟩ = some (.slice (some ⟨gw, 0, none⟩) S.ids.length cw) ∧ w.cell? ⟨gw, p, none⟩ = some (.int .i64 (whyAt S l)) ∧ pix S.ids l / 2 = (p : Int) ∧ p < S.ids.length ∧ 0 ≤ pix S.ids l ∧ pix S.ids l ≤ 2097153 := by
  have hp : S.ids.idxOf (lv l) < S.ids.length := List.idxOf_lt_length_of_mem (by simpa using hk)
  obtain ⟨g, c, gw, cw, _, _, _, _, _, d6, _, _, _, _, hc, _⟩ := R.slots h _ hp
  exact ⟨gw, cw, _, d6, hc, pix_half _ _, hp, pix_ge _ _, pix_le h l hk⟩

theorem blame_len {S : St} (h : Good S) (hk : Known S) (hr : ∀ x ∈ S.why, x = -1 ∨ (0 ≤ x ∧ x < S.clauses.length)) (hb : 0 ≤ S.bad ∧ S.bad < S.clauses.length) : (blameL S).length ≤ 1048578 := by
  obtain ⟨r, e, h2⟩ := blame_ends hk h.ok.lw hr (show S.bad ≠ -1 by omega) (fuelB S) [S.bad] [] (Blm.init hb) (by unfold fuelB; simp only [List.length_singleton]; omega)
  have hB : blameL S = r := by unfold blameL; rw [e]; rfl
  rw [hB]
  exact h2.out_le h.ok
theorem blame_end {S : St} {A out : List Int} {g : Nat} (hA : A.length = 0) : blameF S (g + 1) A out = some out := by unfold blameF; rw [if_pos hA]
theorem blame_pass {S : St} {A out : List Int} {g a : Nat} {n : Int} (hA : A.length = a + 1) (hn : A.getD a 0 = n) (h : n = -1 ∨ n ∈ out) : blameF S (g + 1) A out = blameF S g (A.take a) out := by
  conv => lhs; unfold blameF
  rw [if_neg (by omega), show A.length - 1 = a by omega, hn, if_pos h]
theorem blame_tell {S : St} {A out : List Int} {g a : Nat} {n : Int} (hA : A.length = a + 1) (hn : A.getD a 0 = n) (h : ¬ (n = -1 ∨ n ∈ out)) : blameF S (g + 1) A out = blameF S g (A.take a ++ (S.clauses.getD n.toNat []).map (whyAt S)) (out ++ [n]) := by
  conv => lhs; unfold blameF
  rw [if_neg (by omega), show A.length - 1 = a by omega, hn, if_neg h]

set_option maxHeartbeats 4000000 in
set_option maxRecDepth 100000 in
theorem blame_any {w : World} {B b : Nat} {τ : Nat → Nat} {V : Vals} {S : St} (R : Rep w B b τ V S) (h : Good S) (hk : Known S) (hr : ∀ x ∈ S.why, x = -1 ∨ (0 ≤ x ∧ x < S.clauses.length)) (hcl : ∀ c ∈ S.clauses, c.length ≤ 2097152) (hb : 0 ≤ S.bad ∧ S.bad < S.clauses.length) :
    Calls Try.prog 151 #[.pointer (some ⟨b, 0, none⟩)] w (LitsPost w (blameL S)) := by
  obtain ⟨i3, hi3, z31, z32, z33⟩ := info_parts info3
  have Hi3 := Lib.hid (And.intro hi3 (And.intro z31 (And.intro z32 z33)))
  clear hi3 z31 z32 z33
  obtain ⟨⟨-, -, -, -, -, -, -, -, -, d9⟩, hfb⟩ := cells_at R.blk
  have hmm := @run_makeMap Try.prog
  have d9a := fun o => cell_alloc_old d9 o
  have HR := Lib.hid R
  have HG := Lib.hid h
  have HK := Lib.hid hk
  have HW := Lib.hid hr
  have HC := Lib.hid hcl
  have HI := Lib.hid (Blm.init hb)
  have HE := Lib.hid (fun A out g hB hg => blame_ends hk h.ok.lw hr (show S.bad ≠ -1 by omega) g A out hB hg)
  have HBad := Lib.hid (show S.bad ≠ -1 by omega)
  have hbl : blameL S = (blameF S (fuelB S) [S.bad] []).getD [] := rfl
  have HIn := Lib.hid (BlR.init (w := w) S.bad)
  have HCl := Lib.hid R.clauses_le
  generalize blameL S = r at *
  have HBl := Lib.hid hbl
  have hF0 : 1 + restB S.clauses [] < fuelB S := by unfold fuelB; omega
  have HF0 := Lib.hid hF0
  clear R h hk hr hcl hb hbl hF0 hfb
  generalize fuelB S = G0 at *
  go_enter Try.func151, Try.ntmps151
  go_wp2
  go_loopg [3, 5] G0 (fun g sO sA wr => ∃ A out, BlR w w.heap.size sO sA A out wr ∧ Hid (Blm S A out ∧ A.length + restB S.clauses out < g ∧ A.length ≤ 1 + out.length * 2097152 ∧ (blameF S g A out).getD [] = r))
  case atStart => exact ⟨[S.bad], [], HIn.out, Lib.hid ⟨HI.out, by simp only [List.length_singleton]; exact HF0.out, by simp, HBl.out.symm⟩⟩
  case round =>
    obtain ⟨A, out, hR, hH⟩ := hrel
    cases gk with
    | zero => exact absurd hH.out.2.1 (by omega)
    | succ g =>
      have hgen := hR
      obtain ⟨τ1, D, h1, h2, h3, h4, h5, h6, h7⟩ := hR
      have HR1 := Lib.hid (hgen.rep HR.out)
      have Hgen := Lib.hid hgen
      clear hgen
      obtain ⟨A3, c3, rfl⟩ := row_slice h5
      obtain ⟨A5, c5, rfl⟩ := row_slice h6
      by_cases hA : A.length = 0
      · rw [hA]
        have HX := Lib.hid (show out = r by have := hH.out.2.2.2; rw [blame_end hA] at this; exact this)
        have HO := Lib.hid (And.intro h5.own h7)
        clear h1 h2 h3 h4 h5 h6 h7
        go_wp2
        go_ret
        rw [← HX.out]
        exact ⟨_, rfl, HO.out.1, HO.out.2⟩
      · obtain ⟨a, ha⟩ : ∃ a, A.length = a + 1 := ⟨A.length - 1, by omega⟩
        obtain ⟨gA, cA, hv5, -, -, -, -, hcell5, -⟩ := h6.form (by rw [ints_len]; omega)
        have hA5 : A5 = some ⟨gA, 0, none⟩ := by injection hv5
        subst hA5
        have xa := hcell5 a _ (ints_get (by omega))
        have hno : out.length ≤ 1048578 := hH.out.1.out_le HG.out.ok
        have hna : (a : Int) ≤ 2199027449857 := by have := hH.out.2.2.1; omega
        obtain ⟨n, hn⟩ : ∃ n, A.getD a 0 = n := ⟨_, rfl⟩
        have hnA : n ∈ A := by rw [← hn]; exact getD_mem' (by omega)
        have hnr := hH.out.1.ra n hnA
        obtain ⟨z, hz, z0, z1, z2⟩ := h2 n
        have hkey := keyOf_int_mk (P := Try.prog) Try.underlying3 (a := n) (WalkArith.wf_i64 (by have := HCl.out; omega))
        obtain ⟨cz, hrun, hat, hwc⟩ := h1.lookup_int (t := 88) (e := 3) law3 Try.underlying88 Try.underlying3 (zero3 _) hkey
        obtain rfl : z = cz := by have := hz.symm.trans hat; simpa [dI] using this
        rw [hn] at xa
        rw [ha]
        have H1 := Lib.hid (And.intro h1 (And.intro h2 (And.intro h3 (And.intro h4 (And.intro h5 (And.intro h6 h7))))))
        have HZ := Lib.hid (And.intro hz hkey)
        have HN := Lib.hid (And.intro ha hn)
        have Hnr := Lib.hid hnr
        have Hzk := Lib.hid z2
        have hac : a ≤ c5 := by have hw := h6.own; rw [ints_len] at hw; have := (own_cap hw).1; omega
        have Hgc := Lib.hid (Hgen.out.cut (n := a) (by omega))
        have hz1 : z ≤ 1048578 := by omega
        have hzn : z ≤ out.length := z1
        clear h1 h2 h3 h4 h5 h6 h7 hz hkey ha hn hv5 hcell5 hat hwc hnA hA hnr z2 z1
        by_cases hn1 : n = -1
        · subst hn1
          have HNx := Lib.hid (show (blameF S g (A.take a) out).getD [] = r by have := hH.out.2.2.2; rw [blame_pass HN.out.1 HN.out.2 (.inl rfl)] at this; exact this)
          have HB2 := Lib.hid (hH.out.1.pass (by have := HN.out.1; omega) (.inl (by rw [show A.length - 1 = a by have := HN.out.1; omega]; exact HN.out.2)) HBad.out)
          have HLn := Lib.hid (And.intro hH.out.2.1 hH.out.2.2.1)
          clear hH hrun
          go_wp2
          go_roundg g
          case measure => omega
          case rel => exact ⟨A.take a, out, Hgc.out, Lib.hid ⟨by have := HB2.out; rw [show A.length - 1 = a by have := HN.out.1; omega] at this; exact this, by rw [List.length_take]; have := HLn.out.1; have := HN.out.1; omega, by rw [List.length_take]; have := HLn.out.2; omega, HNx.out⟩⟩
        · have b1 : (n == -1) = false := by simpa using hn1
          by_cases hzp : 0 < z
          · have d1 : decide (0 < z) = true := decide_eq_true hzp
            have hmo := Hzk.out.1 hzp
            have HNx := Lib.hid (show (blameF S g (A.take a) out).getD [] = r by have := hH.out.2.2.2; rw [blame_pass HN.out.1 HN.out.2 (.inr hmo)] at this; exact this)
            have HB2 := Lib.hid (hH.out.1.pass (by have := HN.out.1; omega) (.inr (by rw [show A.length - 1 = a by have := HN.out.1; omega, HN.out.2]; exact hmo)) HBad.out)
            have HLn := Lib.hid (And.intro hH.out.2.1 hH.out.2.2.1)
            clear hH hmo hn1 hzp
            go_wp2
            go_roundg g
            case measure => omega
            case rel => exact ⟨A.take a, out, Hgc.out, Lib.hid ⟨by have := HB2.out; rw [show A.length - 1 = a by have := HN.out.1; omega] at this; exact this, by rw [List.length_take]; have := HLn.out.1; have := HN.out.1; omega, by rw [List.length_take]; have := HLn.out.2; omega, HNx.out⟩⟩
          · have d1 : decide (0 < z) = false := decide_eq_false hzp
            have hno2 : ¬ (n = -1 ∨ n ∈ out) := fun h => h.elim hn1 (fun h => hzp (Hzk.out.2 h))
            obtain ⟨n0, n1⟩ := Hnr.out.resolve_left hn1
            obtain ⟨m, rfl⟩ : ∃ m : Nat, n = m := ⟨n.toNat, by omega⟩
            have HNx := Lib.hid (show (blameF S g (A.take a ++ (S.clauses.getD m []).map (whyAt S)) (out ++ [(m : Int)])).getD [] = r by have := hH.out.2.2.2; rw [blame_tell HN.out.1 HN.out.2 hno2, Int.toNat_natCast] at this; exact this)
            have HB2 := Lib.hid (hH.out.1.tell (by have := HN.out.1; omega) (by rw [show A.length - 1 = a by have := HN.out.1; omega, HN.out.2]; exact hno2) HK.out HG.out.ok.lw HW.out)
            have HRl := Lib.hid (rest_less S.clauses out m (fun h => hno2 (.inr h)) (by omega) n1)
            have HLn := Lib.hid (And.intro hH.out.2.1 hH.out.2.2.1)
            have hmi : (m : Int) < S.clauses.length := n1
            have HM := Lib.hid (show m < S.clauses.length by omega)
            have hcle := HCl.out
            have hAn : A.length - 1 = a := by have := HN.out.1; omega
            have hB2 := HB2.out
            rw [hAn, HN.out.2, Int.toNat_natCast] at hB2
            have HKn := Lib.hid (fun l (hl : l ∈ S.clauses.getD m []) => HK.out _ (getD_mem HM.out) l hl)
            have hCl2 := HC.out _ (getD_mem HM.out)
            obtain ⟨C, hC⟩ : ∃ C, S.clauses.getD m [] = C := ⟨_, rfl⟩
            have hrl := HRl.out
            rw [Int.toNat_natCast] at hrl
            rw [hC] at HNx hB2 HKn hrl hCl2
            have HCe := Lib.hid hC
            have HB3 := Lib.hid hB2
            have HRl2 := Lib.hid hrl
            obtain ⟨gc, cc, AC, cC, e1, xc, hxk⟩ := HR.out.clause m HM.out
            rw [hC] at xc hxk
            have HXk := Lib.hid hxk
            clear hH hn1 hzp hno2 n0 n1 hC hB2 HB2 hrl HRl hAn hxk
            go_wp2_with (first
              | (at_mapUpdate; refine wpList_mapUpdate_own _ rfl _ _ _ 88 rfl 3 3 law3 Try.underlying88 _ w.heap.size _ D rfl H1.out.1 (by unfold maxLen; omega) _ _ _ rfl rfl HZ.out.2 _ [] (plainElem_int Try.underlying3 (WalkArith.wf_i64 (by omega))) ?_; intro w5 hown5 hgrow5; have HM5 := Lib.hid hown5; have HG5 := Lib.hid hgrow5; clear hown5 hgrow5)
              | (at_builtin; refine wpList_append_own_at _ rfl (.tmp 42) (.tmp 44) 25 rfl w.heap.size 3 i3 (.int .i64 0) 1 8 Try.underlying25 Hi3.out.1 Hi3.out.2.1 Hi3.out.2.2.1 Hi3.out.2.2.2 rfl (by decide) _ _ _ rfl ((H1.out.2.2.2.2.1.own.kept HG5.out (.inr (fun e => Tg.ne' H1.out.2.2.2.1 H1.out.2.2.2.2.1.tag (by omega) e.symm))).alloc _) ⟨w5.heap.size, 0, none⟩ 1 1 [.int .i64 (m : Int)] rfl rfl (one_new _ _ rfl) (by simp [Value.oneCell']) ?_ ?_ ?_ ?_; (rw [ints_len]; unfold maxLen; omega); (rw [ints_len]; omega); (exact base_alloc (Nat.le_trans H1.out.2.2.2.2.2.2.size HG5.out.size) _); intro v6 w6 hown6 hgrow6 hnil6 hat6; obtain ⟨A6, k6, rfl⟩ := own_slice hown6; have HT := Lib.hid (BlR.tell H1.out.1 H1.out.2.1 H1.out.2.2.1 H1.out.2.2.2.1 H1.out.2.2.2.2.1 H1.out.2.2.2.2.2.1 H1.out.2.2.2.2.2.2 HZ.out.1 HM5.out HG5.out hown6 hgrow6 hat6); replace e1 := (HT.out.bel.cell (p := ⟨b, 1, none⟩) (World.block_lt_of_cell? w _ e1)).trans e1; replace xc := (HT.out.bel.cell (p := ⟨gc, m, none⟩) (World.block_lt_of_cell? w _ xc)).trans xc; clear hown6 hgrow6 hnil6 hat6))
            have HT2 := Lib.hid (show BlR w w.heap.size (.slice A6 ((ints .i64 out).length + 1) k6) (.slice (some ⟨gA, 0, none⟩) a c5) (A.take a) (out ++ [(m : Int)]) w6 from HT.out.cut (by have := HN.out.1; omega))
            generalize hml : C.length = ml at *
            have Hml := Lib.hid hml
            clear hml
            have hal : (A.take a).length = a := by rw [List.length_take]; have := HN.out.1; omega
            have Hal := Lib.hid hal
            clear hal
            go_loopw [5, 54] (fun v5 i wx => ∃ k : Nat, k ≤ ml ∧ i = .int .i64 k ∧ BlR w w.heap.size (.slice A6 ((ints .i64 out).length + 1) k6) v5 (A.take a ++ (C.take k).map (whyAt S)) (out ++ [(m : Int)]) wx) (fun _ i _ => ml - (intOf i).toNat)
            case atStart => exact ⟨0, Nat.zero_le _, rfl, by simpa using HT2.out⟩
            case round =>
              obtain ⟨k, hk, rfl, hT⟩ := hrel
              by_cases hlt : k < ml
              · obtain ⟨gC, hAC, xk⟩ := HXk.out k hlt
                replace xk := (hT.bel.cell (World.block_lt_of_cell? w _ xk)).trans xk
                subst hAC
                have hkn := HKn.out (C.getD k 0) (getD_mem' (by rw [Hml.out]; exact hlt))
                have HTk := Lib.hid (show A.take a ++ (C.take (k + 1)).map (whyAt S) = (A.take a ++ (C.take k).map (whyAt S)) ++ [whyAt S (C.getD k 0)] by rw [List.take_succ_eq_append_getElem (by rw [Hml.out]; exact hlt), List.map_append, List.append_assoc, List.getD_eq_getElem?_getD, List.getElem?_eq_getElem (by rw [Hml.out]; exact hlt)]; rfl)
                have Rx := hT.rep HR.out
                obtain ⟨gw, cw, p, d6, xw, hp, hpl, hp0, hp1⟩ := Rx.whyat HG.out.ok (C.getD k 0) hkn
                have HPl := Lib.hid (place_known Rx (C.getD k 0) hkn (by have := HG.out.ok.ids_le; omega))
                have Hx := Lib.hid hT
                generalize C.getD k 0 = l at *
                generalize whyAt S l = y at *
                generalize pix S.ids l = P at *
                obtain ⟨τ8, D8, -, -, -, -, -, h8, hb8⟩ := hT
                obtain ⟨A8, c8, rfl⟩ := row_slice h8
                have hl8 : (A.take a ++ (C.take k).map (whyAt S)).length ≤ a + 2097152 := by rw [List.length_append, Hal.out, List.length_map, List.length_take]; omega
                have HL8 := Lib.hid hl8
                have H8 := Lib.hid (And.intro h8 hb8)
                have hpli : (p : Int) < S.ids.length := by omega
                generalize (A.take a ++ (C.take k).map (whyAt S)) = Q at *
                clear hkn Rx h8 hb8
                go_wp2_with (first
                  | (go_at_call 114; refine HPl.out.mono ?_; rintro e w' ⟨rfl, rfl⟩)
                  | (at_builtin; refine wpList_append_own_at _ rfl (.tmp 61) (.tmp 70) 25 rfl w.heap.size 3 i3 (.int .i64 0) 1 8 Try.underlying25 Hi3.out.1 Hi3.out.2.1 Hi3.out.2.2.1 Hi3.out.2.2.2 rfl (by decide) _ _ _ rfl (H8.out.1.own.alloc _) ⟨wr.heap.size, 0, none⟩ 1 1 [.int .i64 y] rfl rfl (one_new _ _ rfl) (by simp [Value.oneCell']) ?_ ?_ ?_ ?_; (rw [ints_len]; unfold maxLen; omega); (rw [ints_len]; omega); (exact base_alloc H8.out.2.size _); intro v9 w9 hown9 hgrow9 hnil9 hat9; have HP9 := Lib.hid (BlR.push Hx.out hown9 hgrow9 hat9); clear hown9 hgrow9 hnil9 hat9))
                go_roundw
                case rel => exact ⟨k + 1, by omega, by go_num, by rw [HTk.out]; exact HP9.out⟩
                case measure => simp [intOf]; omega
              · obtain rfl : k = ml := by omega
                have hce : C.take k = C := List.take_of_length_le (by rw [Hml.out]; exact Nat.le_refl _)
                rw [hce] at hT
                clear hce
                have HTf := Lib.hid hT
                clear hT
                go_wp2
                go_roundg g
                case measure => omega
                case rel => exact ⟨_, _, HTf.out, Lib.hid ⟨HB3.out, by rw [List.length_append, Hal.out, List.length_map, Hml.out]; have := HRl2.out; have := HLn.out.1; have := HN.out.1; have := Hml.out; omega, by rw [List.length_append, Hal.out, List.length_map, Hml.out, List.length_append, List.length_singleton]; have := HLn.out.2; have := HN.out.1; omega, HNx.out⟩⟩
end Go.Proofs.Ytfljggodnnpeiaa.Spr
