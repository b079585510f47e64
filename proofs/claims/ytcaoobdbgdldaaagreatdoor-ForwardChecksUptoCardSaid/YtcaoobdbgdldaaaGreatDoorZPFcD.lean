/- Part of the proof of ForwardChecks: what the law uses of the text FcD. -/
import Derived.Test.YtcaoobdbgdldaaaGreatDoorZPFcC
import Derived.Test.YtcaoobdbgdldaaaGreatDoorZPFwK
import Derived.Test.YtcaoobdbgdldaaaGreatDoorZPP0
namespace Go.Proofs.YtcaoobdbgdldaaaGreatDoor.Rfw
open Go.RowKit Go.Shelf Go.Maps Go.Proofs.YtcaoobdbgdldaaaGreatDoor.Lit Go.Proofs.YtcaoobdbgdldaaaGreatDoor.Spr Go.Proofs.YtcaoobdbgdldaaaGreatDoor.P Go.Proofs.YtcaoobdbgdldaaaGreatDoor.Rf Go.Proofs.YtcaoobdbgdldaaaGreatDoorW.PrintWords
set_option linter.unusedVariables false
set_option linter.unusedSimpArgs false

theorem rformed_any (v : Int) (A : Option Addr) (c0 : Nat) (cs : List (List Int)) (w : World) (hC : Kd.C kL w A cs.length cs) (hc0 : cs.length ≤ c0) (hl : cs.length ≤ 2097152) (h8 : ∀ c ∈ cs, c.length ≤ 2097152) :
    Calls Tryz.prog 13 #[.agg #[.int .i64 v, .slice A cs.length c0]] w fun e w' => e = .returned (.bool (formedB v cs)) ∧ Below w.heap.size w w' := by
  obtain ⟨k, hk⟩ := (formed02 v cs (by omega) (fun c hc => by have := h8 c hc; omega)).rounds
  exact depotref02_Formed.calls k v A c0 cs _ w hC hc0 hk
theorem rclauses_any (A : Option Addr) (c0 : Nat) (cs : List (List Int)) (w : World) (hC : Kd.C kL w A cs.length cs) (hc0 : cs.length ≤ c0) (hl : cs.length ≤ 2097152) (h8 : ∀ c ∈ cs, c.length ≤ 2097152) :
    Calls Tryz.prog 39 #[.slice A cs.length c0] w fun e w' => ∃ Ad ca, e = .returned (.slice Ad cs.length ca) ∧ Kd.N kL 40 w' w.heap.size (fun k => w.heap.size ≤ k ∧ k < w'.heap.size) (.slice Ad cs.length ca) cs ∧ Below w.heap.size w w' := by
  have hE : Ev (fun k => depotref00_CopyClauses.f k cs) cs := by
    have := copyClauses_l cs (by omega) (fun c hc => by have := h8 c hc; omega) _ 0 [] rfl (by omega) rfl
    simpa [depotref00_CopyClauses.f] using this
  obtain ⟨k, hk⟩ := hE.rounds
  refine (depotref00_CopyClauses.calls k A c0 cs cs w hC hc0 hk).mono fun e w' h => ?_
  obtain ⟨v0, he, hS, hb⟩ := h
  obtain ⟨Ad, ca, rfl⟩ := Kd.S_slice hS
  exact ⟨Ad, ca, he, Kd.R_N (Kd.R_mono (Kd.R_bound (Kd.S_R hS)) (fun k hk => ⟨hk.2.1, hk.2.2.1⟩)), hb⟩
def RNewPost (w : World) (v : Int) (cs : List (List Int)) (e : Ending) (w' : World) : Prop :=
  if formedB v cs = true then ∃ b, e = .returned (.tuple #[.pointer (some ⟨b, 0, none⟩), .int .i64 0]) ∧ RfR w w.heap.size b cs false w' else e = .returned (.tuple #[.pointer none, .int .i64 1]) ∧ Below w.heap.size w w'

set_option maxHeartbeats 4000000 in
set_option maxRecDepth 100000 in
theorem rnew_any (v : Int) (A : Option Addr) (c0 : Nat) (cs : List (List Int)) (w : World) (hC : Kd.C kL w A cs.length cs) (hc0 : cs.length ≤ c0) (hl : cs.length ≤ 2097152) (h8 : ∀ c ∈ cs, c.length ≤ 2097152) :
    Calls Tryz.prog 19 #[.agg #[.int .i64 v, .slice A cs.length c0]] w (RNewPost w v cs) := by
  obtain ⟨X, hX⟩ : ∃ X, w.alloc (Obj.cells #[.int .i64 v, .slice A cs.length c0] 24) = X := ⟨_, rfl⟩
  have hbX : Below w.heap.size w X := by rw [← hX]; exact (Below.refl _ _).alloc (Nat.le_refl _) _
  have hnX : X.heap[w.heap.size]? = some (Obj.cells #[.int .i64 v, .slice A cs.length c0] 24 (0, 0)) := by rw [← hX]; exact World.alloc_heap_new _ _
  have hlX : w.heap.size < X.heap.size := (Array.getElem?_eq_some_iff.1 hnX).1
  have HcX : Hid (∀ W, Below X.heap.size X W → W.heap[w.heap.size]? = some (Obj.cells #[.int .i64 v, .slice A cs.length c0] 24 (0, 0))) := Lib.hid fun W hb => (hb.block _ hlX).trans hnX
  obtain ⟨x1, x2, _⟩ := two_cells hnX
  have HF := Lib.hid (rformed_any v A c0 cs X (Kd.C_below hC hbX) hc0 hl h8)
  have HCl := Lib.hid (fun W (hb : Below X.heap.size X W) => rclauses_any A c0 cs W (Kd.C_below (Kd.C_below hC hbX) hb) hc0 hl h8)
  have HbX := Lib.hid hbX
  clear hC h8 hbX hnX
  subst hX
  unfold RNewPost
  cases hf : formedB v cs with
  | false =>
    simp only [Bool.false_eq_true, ↓reduceIte]
    go_enter Tryz.func19, Tryz.ntmps19
    go_wp2_with (go_at_call 13; refine HF.out.mono ?_; rintro e w1 ⟨rfl, hB1⟩; rw [hf]; have HB1 := Lib.hid hB1; clear hB1)
    go_ret2
    exact ⟨rfl, HbX.out.trans (HB1.out.mono HbX.out.size)⟩
  | true =>
    simp only [↓reduceIte]
    go_enter Tryz.func19, Tryz.ntmps19
    go_wp2_with (first
      | (go_at_call 13; refine HF.out.mono ?_; rintro e w1 ⟨rfl, hB1⟩; rw [hf]; obtain ⟨y1, y2, _⟩ := two_cells (HcX.out w1 hB1); have HB1 := Lib.hid hB1; clear hB1)
      | (go_at_call 39; refine (HCl.out w1 HB1.out).mono ?_; rintro e w2 ⟨Ad, ca, rfl, hN, hB2⟩; have HN := Lib.hid hN; have HB2 := Lib.hid hB2; have s1 := HB1.out.size; have s2 := hB2.size; clear hN hB2))
    go_ret2
    have s0 := HbX.out.size
    refine ⟨w2.heap.size, rfl, Ad, ca, World.alloc_heap_new _ _, Kd.N_lower (Kd.N_alloc (Kd.N_mono HN.out (fun k hk => ⟨by omega, by omega⟩)) _) (by omega), ?_, by omega⟩
    exact ((HbX.out.trans (HB1.out.mono s0)).trans (HB2.out.mono (by omega))).alloc (by omega) _

noncomputable def rTake (A : List (List Int)) (d : Bool) (c : List Int) : Int × List (List Int) :=
  if c.all fm = true then
    (if d = true then (if (rDrop A false c).1 = 0 then (3, (rDrop A false c).2.2) else (0, (rDrop A false c).2.2))
     else (if (rAdd A false c).1 = 0 then (2, (rAdd A false c).2.2.1) else (if (rAdd A false c).2.2.2 = true then (1, (rAdd A false c).2.2.1) else (0, (rAdd A false c).2.2.1))))
  else (5, A)
noncomputable def rSteps (A : List (List Int)) (i : Nat) : List (Bool × List Int) → Int × Int
  | [] => (4, i)
  | (d, c) :: t => if (rTake A d c).1 ≠ 0 then ((rTake A d c).1, i) else rSteps (rTake A d c).2 (i + 1) t
theorem outN_mem (A : List (List Int)) (p : Int) : ∀ k, ∀ x ∈ outN A p k, ∃ j, j < k ∧ x = A.getD j []
  | 0, x, hx => by cases hx
  | k + 1, x, hx => by
    unfold outN at hx
    split at hx
    · obtain ⟨j, h1, h2⟩ := outN_mem A p k x hx
      exact ⟨j, by omega, h2⟩
    · rcases List.mem_append.1 hx with h | h
      · obtain ⟨j, h1, h2⟩ := outN_mem A p k x h
        exact ⟨j, by omega, h2⟩
      · exact ⟨k, by omega, List.mem_singleton.1 h⟩
theorem drop_ok {A : List (List Int)} (o : Bool) (c : List Int) : (rDrop A o c).2.2.length ≤ A.length ∧ ∀ x ∈ (rDrop A o c).2.2, x ∈ A := by
  unfold rDrop
  split
  · split
    · exact ⟨Nat.le_refl _, fun x h => h⟩
    · split
      · exact ⟨Nat.le_refl _, fun x h => h⟩
      · split
        · exact ⟨Nat.le_refl _, fun x h => h⟩
        · refine ⟨outN_len A _ _, fun x hx => ?_⟩
          obtain ⟨j, h1, h2⟩ := outN_mem A _ _ x hx
          rw [h2]; exact get_mem [] h1
  · exact ⟨Nat.le_refl _, fun x h => h⟩
theorem add_ok {A : List (List Int)} (o : Bool) (c : List Int) : (rAdd A o c).2.2.1.length ≤ A.length + 1 ∧ ∀ x ∈ (rAdd A o c).2.2.1, x ∈ A ∨ (x = c ∧ c.all fm = true) := by
  unfold rAdd
  split
  · split
    · exact ⟨Nat.le_succ _, fun x h => .inl h⟩
    · split
      · exact ⟨Nat.le_succ _, fun x h => .inl h⟩
      · refine ⟨by simp, fun x hx => ?_⟩
        rcases List.mem_append.1 hx with h | h
        · exact .inl h
        · exact .inr ⟨List.mem_singleton.1 h, by assumption⟩
  · exact ⟨Nat.le_succ _, fun x h => .inl h⟩
theorem rTake_ok {A : List (List Int)} {N : Nat} (hok : RfOk A) (hN : A.length ≤ N) (hN2 : N + 1 ≤ 4194304) (d : Bool) (c : List Int) (hc : c.length ≤ 2097152) : (rTake A d c).2.length ≤ N + 1 ∧ RfOk (rTake A d c).2 := by
  have key : ∀ L : List (List Int), L.length ≤ A.length + 1 → (∀ x ∈ L, x ∈ A ∨ (x = c ∧ c.all fm = true)) → L.length ≤ N + 1 ∧ RfOk L := fun L h1 h2 => ⟨by omega, by omega, fun x hx => by
      rcases h2 x hx with h | ⟨rfl, _⟩
      · exact hok.c8 x h
      · exact hc, fun x hx => by
      rcases h2 x hx with h | ⟨rfl, h⟩
      · exact hok.f x h
      · exact List.all_eq_true.1 h⟩
  have h1 := drop_ok (A := A) false c
  have h2 := add_ok (A := A) false c
  unfold rTake
  split
  · split
    · split
      · exact key (rDrop A false c).2.2 (Nat.le_trans h1.1 (Nat.le_succ _)) fun x hx => .inl (h1.2 x hx)
      · exact key (rDrop A false c).2.2 (Nat.le_trans h1.1 (Nat.le_succ _)) fun x hx => .inl (h1.2 x hx)
    · split
      · exact key _ h2.1 h2.2
      · split
        · exact key _ h2.1 h2.2
        · exact key _ h2.1 h2.2
  · exact key _ (Nat.le_succ _) fun x hx => .inl hx

def SK (w : World) (A : Option Addr) (l : List (Bool × List Int)) : Prop := ∀ k, k < l.length → ∃ ad A1 c1, A = some ad ∧ w.cell? (ad.add (k * 2)) = some (.bool (l.getD k (false, [])).1) ∧ w.cell? ⟨(ad.add (k * 2)).block, (ad.add (k * 2)).off + 1, none⟩ = some (.slice A1 (l.getD k (false, [])).2.length c1) ∧ (l.getD k (false, [])).2.length ≤ c1 ∧ Kd.C kI w A1 (l.getD k (false, [])).2.length (l.getD k (false, [])).2
theorem SK.below {w w1 : World} {A : Option Addr} {l : List (Bool × List Int)} (h : SK w A l) (hb : Below w.heap.size w w1) : SK w1 A l := fun k hk => by
  obtain ⟨ad, A1, c1, e, h1, h2, h3, h4⟩ := h k hk
  exact ⟨ad, A1, c1, e, (hb.cell (World.block_lt_of_cell? w _ h1)).trans h1, (hb.cell (World.block_lt_of_cell? w _ h2)).trans h2, h3, Kd.C_below h4 hb⟩

noncomputable def rCheck (v : Int) (cs : List (List Int)) (l : List (Bool × List Int)) : Int × Int × Int :=
  if formedB v cs = true then ((rSteps cs 0 l).1, (rSteps cs 0 l).2, 0) else (0, 0, 1)
theorem rSteps_cons (A : List (List Int)) (i : Nat) (d : Bool) (c : List Int) (t : List (Bool × List Int)) : rSteps A i ((d, c) :: t) = if (rTake A d c).1 ≠ 0 then ((rTake A d c).1, (i : Int)) else rSteps (rTake A d c).2 (i + 1) t := by rw [rSteps]

set_option maxHeartbeats 8000000 in
set_option maxRecDepth 100000 in
theorem rcheck_walk (v : Int) (A : Option Addr) (c0 : Nat) (cs : List (List Int)) (As : Option Addr) (cq : Nat) (l : List (Bool × List Int)) (w : World) (hC : Kd.C kL w A cs.length cs) (hc0 : cs.length ≤ c0) (hS : SK w As l) (hl : cs.length ≤ 2097152) (h8 : ∀ c ∈ cs, c.length ≤ 2097152) (hll : l.length ≤ 2097152) (h82 : ∀ s ∈ l, s.2.length ≤ 2097152) :
    Calls Tryz.prog 17 #[.agg #[.int .i64 v, .slice A cs.length c0], .slice As l.length cq] w (Fwd.CheckPost w (rCheck v cs l)) := by
  have hB2 : Below w.heap.size w ((w.alloc (.cells #[.int .i64 v, .slice A cs.length c0] 24)).alloc (.cells #[.int .i64 0, .int .i64 0] 29)) := ((Below.refl _ _).alloc (Nat.le_refl _) _).alloc (by simp) _
  have hx0 : ((w.alloc (.cells #[.int .i64 v, .slice A cs.length c0] 24)).alloc (.cells #[.int .i64 0, .int .i64 0] 29)).cell? ⟨w.heap.size, 0, none⟩ = some (.int .i64 v) := by simp
  have hx1 : ((w.alloc (.cells #[.int .i64 v, .slice A cs.length c0] 24)).alloc (.cells #[.int .i64 0, .int .i64 0] 29)).cell? ⟨w.heap.size, 1, none⟩ = some (.slice A cs.length c0) := by simp
  have hR2 : Fwd.RepW w 0 0 ((w.alloc (.cells #[.int .i64 v, .slice A cs.length c0] 24)).alloc (.cells #[.int .i64 0, .int .i64 0] 29)) := by
    refine ⟨hB2, ?_⟩
    have := World.alloc_heap_new (w.alloc (.cells #[.int .i64 v, .slice A cs.length c0] 24)) (.cells #[.int .i64 0, .int .i64 0] 29)
    rwa [show (w.alloc (.cells #[.int .i64 v, .slice A cs.length c0] 24)).heap.size = w.heap.size + 1 by simp] at this
  have HN := Lib.hid (rnew_any v A c0 cs _ (Kd.C_below hC hB2) hc0 hl h8)
  have HR2 := Lib.hid hR2
  have HS := Lib.hid (fun k (hk : k < l.length) (w2 : World) (hb : Below w.heap.size w w2) => (hS.below hb) k hk)
  have H8 := Lib.hid (fun k (hk : k < l.length) => show (l.getD k (false, [])).2.length ≤ 2097152 from h82 _ (by rw [List.getD_eq_getElem?_getD, List.getElem?_eq_getElem hk]; exact List.getElem_mem _))
  have HDr := Lib.hid (fun k (hk : k < l.length) => drop_get (xs := l) (false, []) hk)
  have HEnd := Lib.hid (show l.drop l.length = [] from List.drop_length)
  have Hcs : Hid (formedB v cs = true → RfOk cs) := Lib.hid fun h => ⟨by omega, h8, (formed_all h).2⟩
  unfold Fwd.CheckPost rCheck
  unfold RNewPost at HN
  clear hC hS h8 h82 hB2 hR2
  cases hp : formedB v cs with
  | false =>
    rw [hp] at HN
    simp only [Bool.false_eq_true, ↓reduceIte] at HN ⊢
    have hc20 := HR2.out.cell.1
    have hc21 := HR2.out.cell.2.1
    go_enter Tryz.func17, Tryz.ntmps17
    go_wp2_with (first
      | (go_at_call 19; refine HN.out.mono ?_; rintro e w3 ⟨rfl, hb⟩; have HR3 := Lib.hid (HR2.out.step hb); obtain ⟨hc30, hc31, hf3⟩ := HR3.out.cell; have hf30 := hf3 0; have hf31 := hf3 1; clear hf3 hb))
    have HF := HR3.out.set 0 0
    obtain ⟨hz0, hz1, _⟩ := HF.cell
    refine bodyPost_ret (v := .tuple #[.agg #[.int .i64 0, .int .i64 0], .int .i64 1]) (by simp [results, Tryz.results17, go_sem, hz0, hz1]) rfl ⟨rfl, HF.1⟩
  | true =>
    rw [hp] at HN
    have HOk := Lib.hid (Hcs.out hp)
    simp only [↓reduceIte] at HN ⊢
    obtain ⟨res, hres⟩ : ∃ res, rSteps cs 0 l = res := ⟨_, rfl⟩
    rw [hres]
    have Hres := Lib.hid hres
    clear hres hp
    generalize hW2 : (w.alloc (.cells #[.int .i64 v, .slice A cs.length c0] 24)).alloc (.cells #[.int .i64 0, .int .i64 0] 29) = W2 at HR2 HN
    rw [hW2] at hx0 hx1
    have HW2 := Lib.hid hW2
    subst hW2
    go_enter Tryz.func17, Tryz.ntmps17
    go_wp2_with (first
      | (go_at_call 19; refine HN.out.mono ?_; rintro e w3 ⟨b, rfl, hr⟩; have HI := Lib.hid hr; clear hr))
    go_loopw [8] (fun i wr => ∃ (k : Nat) (A' : List (List Int)), k ≤ l.length ∧ i = .int .i64 k ∧ RfR ((w.alloc (.cells #[.int .i64 v, .slice A cs.length c0] 24)).alloc (.cells #[.int .i64 0, .int .i64 0] 29)) ((w.alloc (.cells #[.int .i64 v, .slice A cs.length c0] 24)).alloc (.cells #[.int .i64 0, .int .i64 0] 29)).heap.size b A' false wr ∧ Hid (RfOk A') ∧ A'.length ≤ cs.length + k ∧ Hid (rSteps A' k (l.drop k) = res)) (fun i _ => l.length - (intOf i).toNat)
    case atStart => exact ⟨0, cs, Nat.zero_le _, rfl, HI.out, HOk, Nat.le_refl _, Hres⟩
    case round =>
      obtain ⟨k, A', hk, rfl, hr, Hok, hlen, Hst⟩ := hrel
      have HRf := Lib.hid hr
      have HRp := Lib.hid (HR2.out.step hr.base)
      obtain ⟨hc30, hc31, hf3⟩ := HRp.out.cell
      have hf30 := hf3 0
      have hf31 := hf3 1
      clear hr hf3
      by_cases hlt : k < l.length
      · obtain ⟨ad, A1, c1, hA, hx, hy, hc1, hic⟩ := HS.out k hlt _ HRp.out.1
        subst hA
        have h8k := H8.out k hlt
        have Hst2 := Hst.out
        rw [HDr.out k hlt] at Hst2
        generalize l.getD k (false, []) = s at *
        obtain ⟨d, c⟩ := s
        dsimp only at *
        rw [rSteps_cons] at Hst2
        have Hst3 := Lib.hid Hst2
        have Htk := Lib.hid (rTake_ok Hok.out hlen (by omega) d c h8k)
        have HSo := Lib.hid (rsound_any A1 c1 c wr hic hc1 h8k)
        have HIc := Lib.hid hic
        clear Hst2 hic
        have HD := Lib.hid (fun W (hb : Below wr.heap.size wr W) => rdrop_any _ _ b A' false A1 c1 c W (HRf.out.step hb) (Kd.C_below HIc.out hb) hc1 Hok.out h8k)
        have HA := Lib.hid (fun W (hb : Below wr.heap.size wr W) => radd_any _ _ b A' false A1 c1 c W (HRf.out.step hb) (Kd.C_below HIc.out hb) hc1 Hok.out h8k)
        have Hcell := Lib.hid (fun W (hb : Below wr.heap.size wr W) => And.intro ((hb.cell (World.block_lt_of_cell? wr _ hx)).trans hx) ((hb.cell (World.block_lt_of_cell? wr _ hy)).trans hy))
        cases hs : c.all fm with
        | false =>
          have eT : rTake A' d c = (5, A') := by unfold rTake; rw [if_neg (by rw [hs]; decide)]
          rw [eT] at Hst3
          have Hs := Lib.hid hs
          clear eT hs HD HA
          go_wp2_with (go_at_call 43; refine HSo.out.mono ?_; rintro e w4 ⟨rfl, hB4⟩; rw [Hs.out]; have HR4 := Lib.hid (HRp.out.step hB4); obtain ⟨hc40, hc41, hf4⟩ := HR4.out.cell; have hf40 := hf4 0; have hf41 := hf4 1; clear hf4 hB4)
          have HF := HR4.out.set 5 k
          obtain ⟨hz0, hz1, _⟩ := HF.cell
          refine bodyPost_ret (v := .tuple #[.agg #[.int .i64 5, .int .i64 k], .int .i64 0]) (by simp [results, Tryz.results17, go_sem, hz0, hz1]) rfl ⟨?_, HF.1⟩
          rw [← Hst3.out]
          rfl
        | true =>
          have Hs := Lib.hid hs
          cases d with
          | true =>
            clear HA
            obtain ⟨rd, hrd⟩ : ∃ rd, rDrop A' false c = rd := ⟨_, rfl⟩
            have eT : rTake A' true c = if rd.1 = 0 then (3, rd.2.2) else (0, rd.2.2) := by unfold rTake; rw [if_pos hs, if_pos rfl, hrd]
            rw [hrd] at HD
            rw [eT] at Hst3 Htk
            clear eT hs hrd
            obtain ⟨r1, r2, r3⟩ := rd
            dsimp only at *
            by_cases h0 : r1 = 0
            · rw [if_pos h0] at Hst3
              subst h0
              go_wp2_with (first
                | (go_at_call 43; refine HSo.out.mono ?_; rintro e w4 ⟨rfl, hB4⟩; rw [Hs.out]; obtain ⟨hx4, hy4⟩ := Hcell.out w4 hB4; have HB4 := Lib.hid hB4; clear hB4)
                | (go_at_call 44; refine (HD.out w4 HB4.out).mono ?_; rintro e w6 ⟨rfl, hr6⟩; have HR6 := Lib.hid (HR2.out.step hr6.base); obtain ⟨hc60, hc61, hf6⟩ := HR6.out.cell; have hf60 := hf6 0; have hf61 := hf6 1; clear hf6 hr6))
              have HF := HR6.out.set 3 k
              obtain ⟨hz0, hz1, _⟩ := HF.cell
              refine bodyPost_ret (v := .tuple #[.agg #[.int .i64 3, .int .i64 k], .int .i64 0]) (by simp [results, Tryz.results17, go_sem, hz0, hz1]) rfl ⟨?_, HF.1⟩
              rw [← Hst3.out]
              rfl
            · rw [if_neg h0] at Hst3 Htk
              go_wp2_with (first
                | (go_at_call 43; refine HSo.out.mono ?_; rintro e w4 ⟨rfl, hB4⟩; rw [Hs.out]; obtain ⟨hx4, hy4⟩ := Hcell.out w4 hB4; have HB4 := Lib.hid hB4; clear hB4)
                | (go_at_call 44; refine (HD.out w4 HB4.out).mono ?_; rintro e w6 ⟨rfl, hr6⟩; have HI6 := Lib.hid hr6; clear hr6))
              go_roundw
              case rel => exact ⟨k + 1, r3, by omega, by go_num, HI6.out, Lib.hid Htk.out.2, by have := Htk.out.1; omega, Lib.hid (by have := Hst3.out; rw [if_neg (by decide)] at this; exact this)⟩
              case measure => simp [intOf]; omega
          | false =>
            clear HD
            obtain ⟨ra, hra⟩ : ∃ ra, rAdd A' false c = ra := ⟨_, rfl⟩
            have eT : rTake A' false c = if ra.1 = 0 then (2, ra.2.2.1) else (if ra.2.2.2 = true then (1, ra.2.2.1) else (0, ra.2.2.1)) := by unfold rTake; rw [if_pos hs, if_neg (by decide), hra]
            rw [hra] at HA
            rw [eT] at Hst3 Htk
            clear eT hs hra
            obtain ⟨r1, r2, r3, r4⟩ := ra
            dsimp only at *
            by_cases h0 : r1 = 0
            · rw [if_pos h0] at Hst3
              subst h0
              go_wp2_with (first
                | (go_at_call 43; refine HSo.out.mono ?_; rintro e w4 ⟨rfl, hB4⟩; rw [Hs.out]; obtain ⟨hx4, hy4⟩ := Hcell.out w4 hB4; have HB4 := Lib.hid hB4; clear hB4)
                | (go_at_call 45; refine (HA.out w4 HB4.out).mono ?_; rintro e w6 ⟨rfl, hr6⟩; have HR6 := Lib.hid (HR2.out.step hr6.base); obtain ⟨hc60, hc61, hf6⟩ := HR6.out.cell; have hf60 := hf6 0; have hf61 := hf6 1; clear hf6 hr6))
              have HF := HR6.out.set 2 k
              obtain ⟨hz0, hz1, _⟩ := HF.cell
              refine bodyPost_ret (v := .tuple #[.agg #[.int .i64 2, .int .i64 k], .int .i64 0]) (by simp [results, Tryz.results17, go_sem, hz0, hz1]) rfl ⟨?_, HF.1⟩
              rw [← Hst3.out]
              rfl
            · rw [if_neg h0] at Hst3 Htk
              cases r4 with
              | true =>
                simp only [↓reduceIte] at Hst3
                go_wp2_with (first
                  | (go_at_call 43; refine HSo.out.mono ?_; rintro e w4 ⟨rfl, hB4⟩; rw [Hs.out]; obtain ⟨hx4, hy4⟩ := Hcell.out w4 hB4; have HB4 := Lib.hid hB4; clear hB4)
                  | (go_at_call 45; refine (HA.out w4 HB4.out).mono ?_; rintro e w6 ⟨rfl, hr6⟩; have HR6 := Lib.hid (HR2.out.step hr6.base); obtain ⟨Ad6, ca6, hb6, _⟩ := hr6; obtain ⟨_, ho6, _⟩ := two_cells hb6; obtain ⟨hc60, hc61, hf6⟩ := HR6.out.cell; have hf60 := hf6 0; have hf61 := hf6 1; clear hf6 hb6))
                have HF := HR6.out.set 1 k
                obtain ⟨hz0, hz1, _⟩ := HF.cell
                refine bodyPost_ret (v := .tuple #[.agg #[.int .i64 1, .int .i64 k], .int .i64 0]) (by simp [results, Tryz.results17, go_sem, hz0, hz1]) rfl ⟨?_, HF.1⟩
                rw [← Hst3.out]
                rfl
              | false =>
                simp only [Bool.false_eq_true, ↓reduceIte] at Hst3 Htk
                go_wp2_with (first
                  | (go_at_call 43; refine HSo.out.mono ?_; rintro e w4 ⟨rfl, hB4⟩; rw [Hs.out]; obtain ⟨hx4, hy4⟩ := Hcell.out w4 hB4; have HB4 := Lib.hid hB4; clear hB4)
                  | (go_at_call 45; refine (HA.out w4 HB4.out).mono ?_; rintro e w6 ⟨rfl, hr6⟩; have HI6 := Lib.hid hr6; obtain ⟨Ad6, ca6, hb6, _⟩ := hr6; obtain ⟨_, ho6, _⟩ := two_cells hb6; clear hb6))
                go_roundw
                case rel => exact ⟨k + 1, r3, by omega, by go_num, HI6.out, Lib.hid Htk.out.2, by have := Htk.out.1; omega, Lib.hid (by have := Hst3.out; first | exact this | (rw [if_neg (by decide)] at this; exact this))⟩
                case measure => simp [intOf]; omega
      · obtain rfl : k = l.length := by omega
        have HO := Lib.hid Hst.out
        rw [HEnd.out] at HO
        go_wp2
        have HF := HRp.out.set 4 l.length
        obtain ⟨hz0, hz1, _⟩ := HF.cell
        refine bodyPost_ret (v := .tuple #[.agg #[.int .i64 4, .int .i64 l.length], .int .i64 0]) (by simp [results, Tryz.results17, go_sem, hz0, hz1]) rfl ⟨?_, HF.1⟩
        rw [← HO.out]
        rfl

end Go.Proofs.YtcaoobdbgdldaaaGreatDoor.Rfw
