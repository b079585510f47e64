/- Part of the proof of UnitStory: what the law uses of the text Why. -/
import Derived.Test.YthbccfgcemdgeaaZuSays
import Derived.Test.YthbccfgcemdgeaaZuTaut
namespace Go.Proofs.Ythbccfgcemdgeaa.Spr
open Go.RowKit Go.Maps Go.Proofs.Ythbccfgcemdgeaa.Lit
set_option linter.unusedVariables false
set_option linter.unusedSimpArgs false

set_option maxHeartbeats 1000000 in
theorem clip_any (A : Option Addr) (n c : Nat) (w : World) (hn : n ≤ c) (h9 : c ≤ 9223372036854775807) (hA : A = none → c = 0) :
    Calls Try.prog 72 #[.slice A n c] w fun e w' => e = .returned (.slice A n n) ∧ w = w' := by
  cases A with
  | none =>
    obtain rfl := hA rfl
    obtain rfl : n = 0 := by omega
    go_enter Try.func72, Try.ntmps72
    go_wp2
    go_ret
    exact ⟨rfl, rfl⟩
  | some ad =>
    go_enter Try.func72, Try.ntmps72
    go_wp2
    go_ret
    exact ⟨rfl, rfl⟩

def scanL (K : List Int) : List (List Int) → Nat → Option (Nat × Int)
  | [], _ => none
  | c :: cs, n => if (saysL K c 0).1 = true then some (n, 0) else if (saysL K c 0).2 ≠ 0 then some (n, (saysL K c 0).2) else scanL K cs (n + 1)
theorem scan_drop {K : List Int} {cs : List (List Int)} {k : Nat} (hk : k < cs.length) : scanL K (cs.drop k) k = if (saysL K (cs.getD k []) 0).1 = true then some (k, 0) else if (saysL K (cs.getD k []) 0).2 ≠ 0 then some (k, (saysL K (cs.getD k []) 0).2) else scanL K (cs.drop (k + 1)) (k + 1) := by
  rw [List.drop_eq_getElem_cons hk, List.getD_eq_getElem?_getD, List.getElem?_eq_getElem hk]; rfl
def whyF (cs : List (List Int)) : Nat → List Int → List (Int × Int) → Option (List (Int × Int) × Int)
  | 0, _, _ => none
  | g + 1, K, l => match scanL K cs 0 with
    | none => some (l, -1)
    | some (n, x) => if x = 0 then some (l, n) else whyF cs g (K ++ [x]) (l ++ [(x, (n : Int))])
def whyW (cs : List (List Int)) (F : List Int) : List (Int × Int) × Int := (whyF cs 2097154 F []).getD ([], -1)
def whyR (v : Int) (cs : List (List Int)) (F : List Int) : List (Int × Int) × Int × Int :=
  if askedI v cs F = 0 then (if tautB F = true then ([], 0, 20) else ((whyW cs F).1, (whyW cs F).2, 0)) else ([], 0, 1)

theorem says_mem {K : List Int} : ∀ (c : List Int) (l : Int), (saysL K c l).2 = 0 ∨ (saysL K c l).2 = l ∨ ((saysL K c l).2 ∈ c ∧ (saysL K c l).2 ∉ K ∧ -(saysL K c l).2 ∉ K)
  | [], l => .inr (.inl rfl)
  | x :: c, l => by
    unfold saysL
    split
    · exact .inl rfl
    · rename_i h1
      split
      · rcases says_mem (K := K) c l with h | h | ⟨h, h'⟩
        · exact .inl h
        · exact .inr (.inl h)
        · exact .inr (.inr ⟨List.mem_cons_of_mem _ h, h'⟩)
      · rename_i h2
        split
        · exact .inl rfl
        · rcases says_mem (K := K) c x with h | h | ⟨h, h'⟩
          · exact .inl h
          · exact .inr (.inr (by rw [h]; exact ⟨List.mem_cons_self, h1, fun h3 => h2 (.inl h3)⟩))
          · exact .inr (.inr ⟨List.mem_cons_of_mem _ h, h'⟩)
theorem says_new {K : List Int} {c : List Int} (h : (saysL K c 0).2 ≠ 0) : (saysL K c 0).2 ∈ c ∧ (saysL K c 0).2 ∉ K ∧ -(saysL K c 0).2 ∉ K := by
  rcases says_mem (K := K) c 0 with h1 | h1 | h1
  · exact absurd h1 h
  · exact absurd h1 h
  · exact h1
theorem says_bad {K : List Int} : ∀ (c : List Int) (l : Int), (saysL K c l).1 = true → (saysL K c l).2 = 0
  | [], l, h => of_decide_eq_true h
  | x :: c, l, h => by
    unfold saysL at h ⊢
    split
    · rfl
    · rename_i h1
      rw [if_neg h1] at h
      split
      · rename_i h2; rw [if_pos h2] at h; exact says_bad c l h
      · rename_i h2
        rw [if_neg h2] at h
        split
        · rfl
        · rename_i h3; rw [if_neg h3] at h; exact says_bad c x h

def cellsP (L : List (Int × Int)) : List Value := L.flatMap fun p => [.int .i64 p.1, .int .i64 p.2]
theorem cellsP_snoc (L : List (Int × Int)) (x n : Int) : cellsP (L ++ [(x, n)]) = cellsP L ++ [.int .i64 x, .int .i64 n] := by simp [cellsP]
theorem fm_short {L : List Int} (hn : L.Nodup) (hf : ∀ x ∈ L, fm x = true) : L.length ≤ 2097153 := by
  have h1 : (L.map (· + 1048576)).Nodup := List.Pairwise.map _ (fun a b h => by omega) hn
  have h2 := nodup_le 2097153 _ h1 (fun v hv => by
    obtain ⟨x, hx, rfl⟩ := List.mem_map.1 hv
    obtain ⟨_, h3, h4⟩ := fm_true (hf x hx)
    omega)
  rwa [List.length_map] at h2

def KnownR (W : World) (b : Nat) (K : List Int) (wr : World) : Prop :=
  ∃ D, wr.ownsMap Try.prog 3 (plainElem Try.prog 3) b K.length D ∧ Counts D K K.length ∧ Below W.heap.size W wr ∧ W.heap.size ≤ b
theorem KnownR.init {W w : World} (hb : Below W.heap.size W w) : KnownR W w.heap.size [] (w.alloc (.map #[] 0)) :=
  ⟨_, World.ownsMap_made w _ _ _, Counts.init, hb.alloc hb.size _, hb.size⟩
theorem KnownR.put {W : World} {b : Nat} {K : List Int} {wr w5 : World} {D : DataW Unit} (hK : wr.ownsMap Try.prog 3 (plainElem Try.prog 3) b K.length D) (hD : Counts D K K.length) (hb : Below W.heap.size W wr) (hbb : W.heap.size ≤ b) {x z : Int}
    (hz : D.atKey (.int .i64 x) (dI 0) = dI z) (h5 : w5.ownsMap Try.prog 3 (plainElem Try.prog 3) b (K.length + 1) (D.put (.int .i64 x) (dI (z + 1)))) (hg : wr.grownBy w5 (some b)) : KnownR W b (K ++ [x]) w5 := by
  refine ⟨_, by rw [List.length_append]; exact h5, by rw [List.length_append]; exact hD.put hK.isMap x z hz, hb.trans (below_stay hg hb.size (fun k e => by cases e; exact hbb)), hbb⟩
theorem KnownR.step {W : World} {b : Nat} {K : List Int} {wr w5 : World} (h : KnownR W b K wr) {row : Option Nat} (hg : wr.grownBy w5 row) (hne : some b ≠ row) (hr : ∀ k, row = some k → W.heap.size ≤ k) : KnownR W b K w5 := by
  obtain ⟨D, hK, hD, hb, hbb⟩ := h
  exact ⟨D, hK.kept hg hne, hD, hb.trans (below_stay hg hb.size hr), hbb⟩
def StoryR (W : World) (b : Nat) (cs : List (List Int)) (F : List Int) (g : Nat) (s4 : Value) (wr : World) : Prop :=
  ∃ L : List (Int × Int), KnownR W b (F ++ L.map Prod.fst) wr ∧ wr.ownsRow W.heap.size 51 2 s4 L.length (cellsP L) ∧ s4.ownBlock ≠ some b ∧ (L.map Prod.fst).Nodup ∧ (∀ x ∈ L.map Prod.fst, fm x = true) ∧ g + L.length = 2097154 ∧ Hid (whyF cs g (F ++ L.map Prod.fst) L = whyF cs 2097154 F [])

theorem StoryR.step {W wr w5 w6 : World} {b : Nat} {cs : List (List Int)} {F K : List Int} {L : List (Int × Int)} {D : DataW Unit} {x z n : Int} {g : Nat} {v4 v6 : Value} {o : Obj}
    (hrow : wr.ownsRow W.heap.size 51 2 v4 L.length (cellsP L)) (hne : v4.ownBlock ≠ some b) (hD : Counts D K K.length) (hK : wr.ownsMap Try.prog 3 (plainElem Try.prog 3) b K.length D) (hb : Below W.heap.size W wr) (hbb : W.heap.size ≤ b)
    (hz : D.atKey (.int .i64 x) (dI 0) = dI z) (h5 : w5.ownsMap Try.prog 3 (plainElem Try.prog 3) b (K.length + 1) (D.put (.int .i64 x) (dI (z + 1)))) (hg5 : wr.grownBy w5 (some b))
    (hown6 : w6.ownsRow W.heap.size 51 2 v6 (L.length + 1) (cellsP L ++ [.int .i64 x, .int .i64 n])) (hg6 : (w5.alloc o).grownBy w6 v4.ownBlock) (hat6 : v6.ownBlock = v4.ownBlock ∨ v6.ownBlock = some (w5.alloc o).heap.size)
    (hnd : (L.map Prod.fst).Nodup ∧ ∀ x ∈ L.map Prod.fst, fm x = true) (hx : x ∉ K ∧ fm x = true) (hm : ∀ x ∈ L.map Prod.fst, x ∈ K) (hs : ∀ x n, F ++ (L ++ [(x, n)]).map Prod.fst = K ++ [x])
    (hg : g + 1 + L.length = 2097154) (hU : whyF cs g (K ++ [x]) (L ++ [(x, n)]) = whyF cs 2097154 F []) : StoryR W b cs F g v6 w6 := by
  have hk1 := KnownR.put hK hD hb hbb hz h5 hg5
  have hlt := h5.lt
  have hk2 : KnownR W b (K ++ [x]) (w5.alloc o) := hk1.step (World.grownBy_alloc w5 o none) (by simp) (by simp)
  have hk3 : KnownR W b (K ++ [x]) w6 := hk2.step hg6 (fun h => hne h.symm) (fun k hk => (hrow.lt k hk).1)
  have hmap : (L ++ [(x, n)]).map Prod.fst = L.map Prod.fst ++ [x] := by rw [List.map_append]; rfl
  refine ⟨L ++ [(x, n)], by rw [hs]; exact hk3, by rw [List.length_append, cellsP_snoc]; exact hown6, ?_, ?_, ?_, by rw [List.length_append, List.length_singleton]; omega, by rw [hs]; exact Lib.hid hU⟩
  · rcases hat6 with h | h
    · rw [h]; exact hne
    · rw [h]
      intro e
      injection e with e
      simp at e
      omega
  · rw [hmap, List.nodup_append]
    refine ⟨hnd.1, by simp, fun a ha c hc => ?_⟩
    rw [List.mem_singleton] at hc
    subst hc
    rintro rfl
    exact hx.1 (hm a ha)
  · rw [hmap]
    intro y hy
    rcases List.mem_append.1 hy with h | h
    · exact hnd.2 y h
    · rw [List.mem_singleton] at h
      subst h
      exact hx.2

def WhyPost (w : World) (R : List (Int × Int) × Int × Int) (e : Ending) (w' : World) : Prop :=
  ∃ A c c', R.1.length ≤ c' ∧ e = .returned (.tuple #[.slice A R.1.length c', .int .i64 R.2.1, .int .i64 R.2.2]) ∧ w'.ownsRow w.heap.size 51 2 (.slice A R.1.length c) R.1.length (cellsP R.1) ∧ Below w.heap.size w w'

theorem own_fits {w : World} {base n : Nat} {e : TypeId} {size : Nat} {A : Option Addr} {m c : Nat} {xs : List Value} (h : w.ownsRow base e size (.slice A m c) n xs) : m ≤ c ∧ c ≤ 9223372036854775807 ∧ (A = none → c = 0) := by
  obtain ⟨h1, h2⟩ := h
  rcases h2 with ⟨h3, h4⟩ | ⟨g, cap, cur, h3, h5⟩
  · injection h3 with e1 e2 e3
    subst e1 e2 e3
    exact ⟨Nat.le_refl _, by omega, fun _ => rfl⟩
  · injection h3 with e1 e2 e3
    subst e1 e2 e3
    exact ⟨h5.2.2.1, by have := h5.2.2.2.1; unfold maxLen at this; omega, fun h => by cases h⟩
theorem WhyPost.done {w W wr : World} {L : List (Int × Int)} {A : Option Addr} {c : Nat} {n : Int} (h1 : Below w.heap.size w W) (h2 : Below W.heap.size W wr) (h3 : wr.ownsRow W.heap.size 51 2 (.slice A L.length c) L.length (cellsP L)) : WhyPost w (L, n, 0) (.returned (.tuple #[.slice A L.length L.length, .int .i64 n, .int .i64 0])) wr :=
  ⟨A, c, L.length, Nat.le_refl _, rfl, ⟨h3.1, h3.2.imp id fun ⟨g, cap, cur, e, hg, r⟩ => ⟨g, cap, cur, e, Nat.le_trans h1.size hg, r⟩⟩, h1.trans (h2.mono h1.size)⟩
theorem formed_all {v : Int} {cs : List (List Int)} (h : formedB v cs = true) (x : List Int) (hx : x ∈ cs) : ∀ l ∈ x, fm l = true := by
  unfold formedB at h
  have h1 := List.all_eq_true.1 (Bool.and_eq_true_iff.1 h).2 x hx
  unfold withinB at h1
  exact List.all_eq_true.1 (Bool.and_eq_true_iff.1 h1).1
theorem why_none {cs : List (List Int)} {F K : List Int} {g : Nat} {L : List (Int × Int)} (h : whyF cs (g + 1) K L = whyF cs 2097154 F []) (hs : scanL K cs 0 = none) : whyW cs F = (L, -1) := by
  unfold whyW
  rw [← h]
  unfold whyF
  rw [hs]
  rfl
theorem why_bad {cs : List (List Int)} {F K : List Int} {g n : Nat} {L : List (Int × Int)} (h : whyF cs (g + 1) K L = whyF cs 2097154 F []) (hs : scanL K cs 0 = some (n, 0)) : whyW cs F = (L, (n : Int)) := by
  unfold whyW
  rw [← h]
  unfold whyF
  rw [hs]
  rfl
theorem why_unit {cs : List (List Int)} {F K : List Int} {g n : Nat} {x : Int} {L : List (Int × Int)} (h : whyF cs (g + 1) K L = whyF cs 2097154 F []) (hs : scanL K cs 0 = some (n, x)) (hx : x ≠ 0) : whyF cs g (K ++ [x]) (L ++ [(x, (n : Int))]) = whyF cs 2097154 F [] := by
  rw [← h]
  conv => rhs; unfold whyF
  rw [hs]
  exact (if_neg hx).symm
theorem WhyPost.err (w w' : World) (k : Int) (hb : Below w.heap.size w w') : WhyPost w ([], 0, k) (.returned (.tuple #[.slice none 0 0, .int .i64 0, .int .i64 k])) w' :=
  ⟨none, 0, 0, Nat.le_refl _, rfl, ⟨rfl, .inl ⟨rfl, rfl⟩⟩, hb⟩

set_option maxHeartbeats 4000000 in
set_option maxRecDepth 100000 in
theorem why_any (v : Int) (A : Option Addr) (c : Nat) (cs : List (List Int)) (Af : Option Addr) (cf : Nat) (F : List Int) (w : World) (hC : RC w A cs) (hF : IC w Af F) (hS : Fits cs F) :
    Calls Try.prog 33 #[.agg #[.int .i64 v, .slice A cs.length c], .slice Af F.length cf] w (WhyPost w (whyR v cs F)) := by
  obtain ⟨h24, h8, hfl⟩ := hS
  have hHB : Below w.heap.size w (w.alloc (.cells #[.int .i64 v, .slice A cs.length c] 24)) := (Below.refl _ _).alloc (Nat.le_refl _) _
  have HAs := Lib.hid (asked_any v A c cs Af cf F _ (hC.below hHB) (by omega) (fun x hx => by have := h8 x hx; omega) (hF.below hHB) (by omega))
  have HB := Lib.hid hHB
  have hWs : (w.alloc (.cells #[.int .i64 v, .slice A cs.length c] 24)).heap.size = w.heap.size + 1 := by simp
  have hc0 : (w.alloc (.cells #[.int .i64 v, .slice A cs.length c] 24)).cell? ⟨w.heap.size, 0, none⟩ = some (.int .i64 v) := by simp
  have hc1 : (w.alloc (.cells #[.int .i64 v, .slice A cs.length c] 24)).cell? ⟨w.heap.size, 1, none⟩ = some (.slice A cs.length c) := by simp
  have HC1 := Lib.hid (And.intro hc0 hc1)
  clear hc0 hc1
  have HWs := Lib.hid hWs
  rcases asked_cases v cs F with ⟨ha, h1, h2⟩ | ha
  · have hwy : whyR v cs F = if tautB F = true then ([], 0, 20) else ((whyW cs F).1, (whyW cs F).2, 0) := by unfold whyR; rw [if_pos ha]
    rw [hwy]
    rw [ha] at HAs
    clear hwy ha
    have HTa := Lib.hid (fun (w2 : World) (hb : Below (w.alloc (.cells #[.int .i64 v, .slice A cs.length c] 24)).heap.size (w.alloc (.cells #[.int .i64 v, .slice A cs.length c] 24)) w2) => taut_any Af cf F w2 (hF.below (hHB.trans (hb.mono hHB.size))) (by omega))
    by_cases ht : tautB F = true
    · rw [if_pos ht]
      rw [ht] at HTa
      clear h1 h2 hC hF h24 h8 hfl hWs ht hHB
      go_enter Try.func33, Try.ntmps33
      go_wp2
      go_step3
      go_wp2_with (first
        | (go_at_call 49; refine HAs.out.mono ?_; rintro e w2 ⟨rfl, hb2⟩; have HB2 := Lib.hid hb2; have HT2 := Lib.hid (HTa.out w2 hb2); clear hb2)
        | (go_at_call 70; refine HT2.out.mono ?_; rintro e w3 ⟨rfl, hb3⟩; have HB3 := Lib.hid (HB2.out.trans (hb3.mono HB2.out.size)); clear hb3))
      rw [Exit.noGoto_ret]
      go_ret3
      exact WhyPost.err _ _ _ (HB.out.trans (HB3.out.mono HB.out.size))
    · rw [if_neg ht]
      have ht' : tautB F = false := by simpa using ht
      rw [ht'] at HTa
      clear ht ht'
      have hmm := @run_makeMap Try.prog
      have HF := Lib.hid (fun (w2 : World) (hb : Below (w.alloc (.cells #[.int .i64 v, .slice A cs.length c] 24)).heap.size (w.alloc (.cells #[.int .i64 v, .slice A cs.length c] 24)) w2) => hF.below (hHB.trans (hb.mono hHB.size)))
      have HC := Lib.hid (fun (w2 : World) (hb : Below (w.alloc (.cells #[.int .i64 v, .slice A cs.length c] 24)).heap.size (w.alloc (.cells #[.int .i64 v, .slice A cs.length c] 24)) w2) => hC.below (hHB.trans (hb.mono hHB.size)))
      have HFm := Lib.hid (List.all_eq_true.1 h2)
      have HCm := Lib.hid (fun (x : List Int) (hx : x ∈ cs) => And.intro (formed_all h1 x hx) (h8 x hx))
      have HT0 := Lib.hid (fun k (hk : k < F.length) => show F.take (k + 1) = F.take k ++ [F.getD k 0] by rw [List.take_add_one, List.getD_eq_getElem?_getD, List.getElem?_eq_getElem hk]; rfl)
      clear h1 h2 hC hF hHB h8
      generalize hN : F.length = N at *
      generalize hM : cs.length = M at *
      have HN := Lib.hid (And.intro hN hM)
      have HH := Lib.hid (And.intro h24 hfl)
      clear hN hM hWs
      go_enter Try.func33, Try.ntmps33
      go_wp2
      go_step3
      go_wp2_with (first
        | (go_at_call 49; refine HAs.out.mono ?_; rintro e w2 ⟨rfl, hb2⟩; have HB2 := Lib.hid hb2; have HT2 := Lib.hid (HTa.out w2 hb2); clear hb2)
        | (go_at_call 70; refine HT2.out.mono ?_; rintro e w3 ⟨rfl, hb3⟩; have HB3 := Lib.hid (HB2.out.trans (hb3.mono HB2.out.size)); clear hb3))
      go_loopw [26] (fun i wr => ∃ k : Nat, k ≤ N ∧ i = .int .i64 k ∧ KnownR (w.alloc (.cells #[.int .i64 v, .slice A M c] 24)) w3.heap.size (F.take k) wr) (fun i _ => N - (intOf i).toNat)
      case atStart => exact ⟨0, Nat.zero_le _, rfl, KnownR.init HB3.out⟩
      case round =>
        obtain ⟨k, hk, rfl, hr⟩ := hrel
        by_cases hlt : k < N
        · obtain ⟨D, hK, hD, hb, hbb⟩ := hr
          obtain ⟨ad, hA, hx⟩ := HF.out wr hb k (by rw [HN.out.1]; exact hlt)
          subst hA
          obtain ⟨x0, x1, x2⟩ := fm_true (HFm.out (F.getD k 0) (by rw [List.getD_eq_getElem?_getD, List.getElem?_eq_getElem (by rw [HN.out.1]; exact hlt)]; exact List.getElem_mem _))
          have HTk := Lib.hid (HT0.out k hlt)
          generalize F.getD k 0 = x at *
          obtain ⟨z, hz, z0, z1, z2⟩ := hD x
          have HKey := Lib.hid (keyOf_int_mk (P := Try.prog) Try.underlying3 (a := x) (WalkArith.wf_i64 (by omega)))
          have HM := Lib.hid (show (F.take k).length ≤ 17592186044416 ∧ 0 ≤ z ∧ z ≤ 17592186044416 by have := HH.out.2; have := List.length_take_le k F; omega)
          have HK := Lib.hid hK
          have HZ := Lib.hid hz
          have HD := Lib.hid (And.intro hD (And.intro hb hbb))
          have hz9 : z ≤ 17592186044416 := HM.out.2.2
          clear hK hz hD hb hbb z1 z2
          go_wp2_with (first
            | (at_lookup; refine wpList_lookup_own_int _ rfl (.tmp 30) (.tmp 31) 85 rfl 3 3 .i64 law3 Try.underlying85 Try.underlying3 (zero3 _) w3.heap.size _ D rfl HK.out (.int .i64 x) _ rfl HKey.out ?_; intro y hat hwc; obtain rfl : z = y := (by have := HZ.out.symm.trans hat; simpa [dI] using this); clear hat hwc)
            | (at_mapUpdate; refine wpList_mapUpdate_own _ rfl _ _ _ 85 rfl 3 3 law3 Try.underlying85 _ w3.heap.size _ D rfl HK.out (by have := HM.out; unfold maxLen; omega) _ _ _ rfl rfl HKey.out _ [] (plainElem_int Try.underlying3 (WalkArith.wf_i64 (by have := HM.out; omega))) ?_; intro w5 hown5 hgrow5; have HK5 := Lib.hid hown5; have HG5 := Lib.hid hgrow5; clear hown5 hgrow5))
          go_roundw
          case rel => exact ⟨k + 1, by omega, by go_num, by rw [HTk.out]; exact KnownR.put HK.out HD.out.1 HD.out.2.1 HD.out.2.2 HZ.out HK5.out HG5.out⟩
          case measure => simp [intOf]; omega
        · obtain rfl : k = N := by omega
          have HK0 := Lib.hid (show KnownR (w.alloc (.cells #[.int .i64 v, .slice A M c] 24)) w3.heap.size F wr by rw [← HN.out.1, List.take_length] at hr; exact hr)
          clear hr hlt
          have hi51 : (Try.prog.info? 51).map (fun i => (i.zero, i.size, i.bytes)) = some (some (.agg #[.int .i64 0, .int .i64 0]), 2, 16) := by kernel_rfl
          obtain ⟨i51, hi, hxi⟩ := Option.map_eq_some_iff.1 hi51
          simp only [Prod.mk.injEq] at hxi
          have Hi51 := Lib.hid (And.intro hi hxi)
          clear hi51 hi hxi
          go_wp2
          go_step3
          go_wp2
          go_loopg [4] 2097154 (fun g s4 wx => StoryR (w.alloc (.cells #[.int .i64 v, .slice A M c] 24)) w3.heap.size cs F g s4 wx)
          case atStart => exact ⟨[], by rw [List.map_nil, List.append_nil]; exact HK0.out, ⟨rfl, .inl ⟨rfl, rfl⟩⟩, by simp [Value.ownBlock], List.nodup_nil, by simp, rfl, by rw [List.map_nil, List.append_nil]; exact Lib.hid rfl⟩
          case round =>
            obtain ⟨L, hK, hrow, hne, hnd, hfm, hg, hR⟩ := hrel
            have hsh := fm_short hnd hfm
            rw [List.length_map] at hsh
            cases gk with
            | zero => exfalso; omega
            | succ g =>
              obtain ⟨D, hK, hD, hb, hbb⟩ := hK
              obtain ⟨A4, c4, rfl⟩ := own_slice hrow
              have hc0 := (hb.cell (p := ⟨w.heap.size, 0, none⟩) (by simp)).trans HC1.out.1
              have hc1 := (hb.cell (p := ⟨w.heap.size, 1, none⟩) (by simp)).trans HC1.out.2
              have HK := Lib.hid hK
              have HD := Lib.hid (And.intro hD (And.intro hb hbb))
              have HRow := Lib.hid hrow
              have HNe := Lib.hid hne
              have HNd := Lib.hid (And.intro hnd hfm)
              have HSh := Lib.hid (And.intro hsh hg)
              have HM0 := Lib.hid (show (F ++ L.map Prod.fst).length ≤ 17592186044416 + 2097153 by rw [List.length_append, List.length_map]; have := HH.out.2; have := HN.out.1; omega)
              have HOw := Lib.hid (own_fits hrow)
              have HE := Lib.hid (fun j (hj : j = M) => show scanL (F ++ L.map Prod.fst) (cs.drop j) j = none by rw [List.drop_eq_nil_of_le (by have := HN.out.2; omega)]; rfl)
              have HS := Lib.hid (fun j (hj : j < M) => scan_drop (K := F ++ L.map Prod.fst) (cs := cs) (k := j) (by rw [HN.out.2]; exact hj))
              have HKs := Lib.hid (fun x (n : Int) => show F ++ (L ++ [(x, n)]).map Prod.fst = (F ++ L.map Prod.fst) ++ [x] by rw [List.map_append, List.append_assoc]; rfl)
              have HKm := Lib.hid (fun (x : Int) (hx : x ∈ L.map Prod.fst) => show x ∈ F ++ L.map Prod.fst from List.mem_append_right _ hx)
              clear hK hD hb hbb hrow hne hnd hfm hsh hg
              generalize F ++ L.map Prod.fst = K at *
              go_wp2
              go_loopg [4, 38] M (fun g2 s4 s38 wy => ∃ j : Nat, j + g2 = M ∧ s38 = .int .i64 j ∧ s4 = .slice A4 L.length c4 ∧ Hid (scanL K (cs.drop j) j = scanL K cs 0) ∧ wr = wy)
              case atStart => exact ⟨0, by omega, rfl, rfl, Lib.hid (by rw [List.drop_zero]), rfl⟩
              case round =>
                obtain ⟨j, hj, rfl, rfl, hA, rfl⟩ := hrel
                cases gk with
                | zero =>
                  have hjz : ¬ ((j : Int) < (M : Int)) := by omega
                  have HX := Lib.hid (why_none hR.out (hA.out.symm.trans (HE.out j (by omega))))
                  clear hA hR
                  go_wp2_with (first
                    | (go_at_call 72; refine (clip_any A4 L.length c4 _ HOw.out.1 HOw.out.2.1 HOw.out.2.2).mono ?_; rintro e w6 ⟨rfl, rfl⟩))
                  rw [Exit.noGoto_ret]
                  go_ret3
                  rw [HX.out]
                  exact WhyPost.done HB.out HD.out.2.1 HRow.out
                | succ g2 =>
                  have hjz : (j : Int) < (M : Int) := by omega
                  have hjM : j < M := by omega
                  obtain ⟨ad1, A1, c1, hA1, hx1, hIC⟩ := HC.out wr HD.out.2.1 j (by rw [HN.out.2]; exact hjM)
                  subst hA1
                  have hcm : cs.getD j [] ∈ cs := by rw [List.getD_eq_getElem?_getD, List.getElem?_eq_getElem (by rw [HN.out.2]; exact hjM)]; exact List.getElem_mem _
                  obtain ⟨hfc, h8c⟩ := HCm.out _ hcm
                  have HSy := Lib.hid (says_any A1 c1 (cs.getD j []) w3.heap.size _ D K K.length wr hIC (by omega) hfc HK.out HD.out.1)
                  have HSj := Lib.hid (hA.out.symm.trans (HS.out j hjM))
                  have HNew := Lib.hid (fun h => says_new (K := K) (c := cs.getD j []) h)
                  have HFc := Lib.hid hfc
                  clear hIC hcm hfc h8c hA
                  generalize cs.getD j [] = C at *
                  generalize saysL K C 0 = bx at *
                  obtain ⟨b, x⟩ := bx
                  cases b with
                  | true =>
                    have HX := Lib.hid (why_bad hR.out (HSj.out.trans (if_pos rfl)))
                    clear hR
                    go_wp2_with (first
                      | (go_at_call 71; refine HSy.out.mono ?_; rintro e w6 ⟨rfl, rfl⟩)
                      | (go_at_call 72; refine (clip_any A4 L.length c4 _ HOw.out.1 HOw.out.2.1 HOw.out.2.2).mono ?_; rintro e w6 ⟨rfl, rfl⟩))
                    rw [Exit.noGoto_ret]
                    go_ret3
                    rw [HX.out]
                    exact WhyPost.done HB.out HD.out.2.1 HRow.out
                  | false =>
                    by_cases hx0 : x = 0
                    · subst hx0
                      have HA2 := Lib.hid (HSj.out.trans ((if_neg (show ¬ (false = true) by decide)).trans (if_neg (show ¬ ((0 : Int) ≠ 0) by decide))))
                      go_wp2_with (first
                        | (go_at_call 71; refine HSy.out.mono ?_; rintro e w6 ⟨rfl, rfl⟩))
                      go_roundg g2
                      case measure => omega
                      case rel => exact ⟨j + 1, by omega, by go_num, rfl, Lib.hid HA2.out.symm, rfl⟩
                    · have hxb : (x == 0) = false := by simpa using hx0
                      have hxb2 : (x != 0) = true := by simpa using hx0
                      have HU := Lib.hid (why_unit hR.out (HSj.out.trans ((if_neg (show ¬ (false = true) by decide)).trans (if_pos hx0))) hx0)
                      obtain ⟨hxc, hxk, hxn⟩ := HNew.out hx0
                      have hfx := HFc.out x hxc
                      obtain ⟨x0, x1, x2⟩ := fm_true hfx
                      obtain ⟨z, hz, z0, z1, z2⟩ := HD.out.1 x
                      have hz9 : z ≤ 17592186044416 + 2097153 := by have := HM0.out; omega
                      have HKey := Lib.hid (keyOf_int_mk (P := Try.prog) Try.underlying3 (a := x) (WalkArith.wf_i64 (by omega)))
                      have HZ := Lib.hid hz
                      have HNx := Lib.hid (And.intro hxk hfx)
                      clear hR hz z1 z2 hxc hxk hxn hfx
                      go_wp2_with (first
                        | (go_at_call 71; refine HSy.out.mono ?_; rintro e w6 ⟨rfl, rfl⟩)
                        | (at_lookup; refine wpList_lookup_own_int _ rfl (.tmp 55) (.tmp 56) 85 rfl 3 3 .i64 law3 Try.underlying85 Try.underlying3 (zero3 _) w3.heap.size _ D rfl HK.out (.int .i64 x) _ rfl HKey.out ?_; intro y hat hwc; obtain rfl : z = y := (by have := HZ.out.symm.trans hat; simpa [dI] using this); clear hat hwc)
                        | (at_mapUpdate; refine wpList_mapUpdate_own _ rfl _ _ _ 85 rfl 3 3 law3 Try.underlying85 _ w3.heap.size _ D rfl HK.out (by have := HM0.out; unfold maxLen; omega) _ _ _ rfl rfl HKey.out _ [] (plainElem_int Try.underlying3 (WalkArith.wf_i64 (by omega))) ?_; intro w5 hown5 hgrow5; have HK5 := Lib.hid hown5; have HG5 := Lib.hid hgrow5; clear hown5 hgrow5)
                        | (at_builtin; refine wpList_append_own_at _ rfl (.tmp 59) (.tmp 63) 47 rfl (w.alloc (.cells #[.int .i64 v, .slice (some ad1) M c] 24)).heap.size 51 i51 (.agg #[.int .i64 0, .int .i64 0]) 2 16 Try.underlying47 Hi51.out.1 Hi51.out.2.1 Hi51.out.2.2.1 Hi51.out.2.2.2 rfl (by decide) _ _ _ rfl ((HRow.out.kept HG5.out (.inr HNe.out)).alloc _) ⟨w5.heap.size, 0, none⟩ 1 1 [.int .i64 x, .int .i64 j] rfl rfl (two_new' _ _ _ rfl) (by simp [Value.oneCell']) (by have := HSh.out; unfold maxLen; omega) (by have := HSh.out; omega) (by have := HG5.out.size; have := HD.out.2.1.size; simp at *; omega) ?_; intro v6 w6 hown6 hgrow6 hnil6 hat6))
                      go_roundg g
                      case measure => omega
                      case rel => exact StoryR.step HRow.out HNe.out HD.out.1 HK.out HD.out.2.1 HD.out.2.2 HZ.out HK5.out HG5.out hown6 hgrow6 hat6 HNd.out HNx.out HKm.out HKs.out HSh.out.2 HU.out
  · have hwy : whyR v cs F = ([], 0, 1) := by unfold whyR; rw [if_neg (by rw [ha]; decide)]
    rw [hwy]
    rw [ha] at HAs
    clear hwy ha hC hF h24 h8 hfl hWs hHB
    go_enter Try.func33, Try.ntmps33
    go_wp2
    go_step3
    go_wp2_with (first
      | (go_at_call 49; refine HAs.out.mono ?_; rintro e w2 ⟨rfl, hb2⟩; have HB2 := Lib.hid hb2; clear hb2))
    rw [Exit.noGoto_ret]
    go_ret3
    exact WhyPost.err _ _ _ (HB.out.trans (HB2.out.mono HB.out.size))

end Go.Proofs.Ythbccfgcemdgeaa.Spr
