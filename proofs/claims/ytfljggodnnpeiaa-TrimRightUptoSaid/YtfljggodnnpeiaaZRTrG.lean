/- Part of the proof of TrimRight: what the law uses of the text TrG. -/
import Derived.Test.YtfljggodnnpeiaaZRTrF
import Derived.Outline
import Derived.ScopeJumps
import Derived.Deep.LoopGhost
namespace Go.Proofs.Ytfljggodnnpeiaa.Trm
open Go.RowKit Go.Maps Go.Proofs.Ytfljggodnnpeiaa.Lit Go.Proofs.Ytfljggodnnpeiaa.Spr
open Go.Proofs.YtfljggodnnpeiaaW.PrintWords hiding own_slice own_base own_lt own_move
set_option linter.unusedVariables false
set_option linter.unusedSimpArgs false

def TryPost (w : World) (τ : Nat → Nat) (B b : Nat) (r : KSt × Bool) (e : Ending) (w' : World) : Prop := e = .returned (.bool r.2) ∧ KLedS w τ B b r.1 w'
theorem KLedS.refl {w : World} {B b : Nat} {τ : Nat → Nat} {V : KV} {K : KSt} (R : KRep w B b τ V K) : KLedS w τ B b K w := ⟨τ, V, R, Below.refl _ _, Stay.refl _ _ _⟩

set_option maxHeartbeats 2000000 in
set_option maxRecDepth 100000 in
theorem try_any {w : World} {B b : Nat} {τ : Nat → Nat} {V : KV} {K : KSt} (R : KRep w B b τ V K) (h : KOk K) (x : Nat) (hx : x < K.all.length) (Bl Bk : Nat) (hl : w.cell? ⟨Bl, 0, none⟩ = some (.int .i64 ((K.all.length - 1 : Nat) : Int))) (hk : w.cell? ⟨Bk, 0, none⟩ = some (.pointer (some ⟨b, 0, none⟩))) :
    Calls Try.prog 134 #[.int .i64 x, .pointer (some ⟨Bl, 0, none⟩), .pointer (some ⟨Bk, 0, none⟩)] w (TryPost w τ B b (tryR K x)) := by
  have gN := h.ft.n
  obtain ⟨ga, ca, gi, ci, gl, cl, f⟩ := R.form (by omega)
  have c2 := f.c2
  have xi := f.xi x hx
  have HRf := Lib.hid (KLedS.refl R)
  have HW := Lib.hid (fun hin => Wo.without_any R h x hx hin)
  have ht : tryR K x = if x ≠ K.all.length - 1 ∧ K.inn.getD x false = true then (match withoutR K x with | some K' => (K', true) | none => (K, false)) else (K, false) := rfl
  generalize tryR K x = r at *
  have HT := Lib.hid ht
  clear ht R f h
  generalize hN : K.all.length = N at *
  clear hN
  by_cases h1 : x = N - 1
  · have HE := Lib.hid (show r = (K, false) by rw [HT.out, if_neg (fun h => h.1 h1)])
    have hb : ((x : Int) == ((N - 1 : Nat) : Int)) = true := by rw [h1]; simp
    have hb2 : ((x : Int) != ((N - 1 : Nat) : Int)) = false := by rw [h1]; simp
    clear h1
    go_enter Try.func134, Try.ntmps134
    go_wp2
    go_ret
    rw [HE.out]
    exact ⟨rfl, HRf.out⟩
  · have h1i : ¬ ((x : Int) = ((N - 1 : Nat) : Int)) := by omega
    have hb : ((x : Int) == ((N - 1 : Nat) : Int)) = false := by simpa using h1i
    have hb2 : ((x : Int) != ((N - 1 : Nat) : Int)) = true := by simpa using h1i
    cases hin : K.inn.getD x false with
    | false =>
      have HE := Lib.hid (show r = (K, false) by rw [HT.out, if_neg (fun h => by rw [hin] at h; exact absurd h.2 (by decide))])
      rw [hin] at xi
      clear h1 h1i hin
      go_enter Try.func134, Try.ntmps134
      go_wp2
      go_ret
      rw [HE.out]
      exact ⟨rfl, HRf.out⟩
    | true =>
      have hr : r = (match withoutR K x with | some K' => (K', true) | none => (K, false)) := by rw [HT.out, if_pos ⟨h1, hin⟩]
      have HW2 := Lib.hid (HW.out hin)
      rw [hin] at xi
      obtain ⟨o, ho⟩ : ∃ o, withoutR K x = o := ⟨_, rfl⟩
      rw [ho] at hr HW2
      have HE := Lib.hid hr
      clear h1 h1i hin hr ho
      unfold Wo.WoPost at HW2
      go_enter Try.func134, Try.ntmps134
      cases o with
      | none =>
        go_wp2_with (first
          | (go_at_call 135; refine HW2.out.mono ?_; rintro e w2 ⟨rfl, hk2⟩; have HK2 := Lib.hid hk2; clear hk2))
        go_ret
        rw [HE.out]
        exact ⟨rfl, HK2.out⟩
      | some K' =>
        go_wp2_with (first
          | (go_at_call 135; refine HW2.out.mono ?_; rintro e w2 ⟨rfl, hk2⟩; have HK2 := Lib.hid hk2; clear hk2))
        go_ret
        rw [HE.out]
        exact ⟨rfl, HK2.out⟩

open Classical in
theorem wp_scope_ghost {P : Program} {a : Act} {w : World} {Q : Exit → Act → World → Prop} {c rest : Code} (l : Nat) (I : Nat → Act → World → Prop) (hf : findLabel c l = some rest)
    (first : c.wp P (Exit.jump l (fun a w => ∃ n, I n a w) Q) a w)
    (pass : ∀ n a w, I n a w → rest.wp P (Exit.jump l (fun a' w' => ∃ n', n' < n ∧ I n' a' w') Q) a w) : (Code.scope c).wp P Q a w := by
  refine wp_scope_jumps l (fun a w => ∃ n, I n a w) (fun a w => leastOf (fun n => I n a w)) hf first (fun a w hI => ?_)
  refine wp_mono (pass _ a w (leastOf_spec hI).1) ?_
  intro e a' w' hq
  cases e with
  | goto l' =>
    obtain ⟨h1, n', hlt, hI'⟩ := hq
    exact ⟨h1, ⟨n', hI'⟩, Nat.lt_of_le_of_lt ((leastOf_spec ⟨n', hI'⟩).2 n' hI') hlt⟩
  | normal => exact hq
  | exit id => exact hq
  | ret => exact hq
  | panic ch => exact hq
  | outgrown => exact hq

structure LeastM (w0 : World) (B b q Bk Bl : Nat) (K : KSt) (wr : World) (τ : Nat → Nat) (V : KV) : Prop where
  rep : KRep wr B b τ V K
  ok : KOk K
  al : K.all.length = q + 1
  t1 : τ Bk = 7
  t2 : τ Bl = 7
  l1 : Bk < wr.heap.size
  l2 : Bl < wr.heap.size
  x1 : wr.cell? ⟨Bk, 0, none⟩ = some (.pointer (some ⟨b, 0, none⟩))
  x2 : wr.cell? ⟨Bl, 0, none⟩ = some (.int .i64 (q : Int))
  be : Below B w0 wr
  sz : w0.heap.size ≤ wr.heap.size
def LeastI (w0 : World) (B b q Bk Bl : Nat) (K : KSt) (wr : World) : Prop := ∃ τ V, LeastM w0 B b q Bk Bl K wr τ V
theorem LeastI.step {w0 wr w2 : World} {B b q Bk Bl : Nat} {K1 K2 : KSt} {τ : Nat → Nat} {V : KV} (h : LeastM w0 B b q Bk Bl K1 wr τ V) (hs : KLedS wr τ B b K2 w2) (h2 : KOk K2) (h3 : K2.all = K1.all) : LeastI w0 B b q Bk Bl K2 w2 := by
  obtain ⟨τ', V', R', hb, hst⟩ := hs
  have k1 := hst.blk Bk h.l1 (by rw [h.t1]; omega)
  have k2 := hst.blk Bl h.l2 (by rw [h.t2]; omega)
  exact ⟨τ', V', R', h2, by rw [h3]; exact h.al, (hst.tag _ h.l1).trans h.t1, (hst.tag _ h.l2).trans h.t2, Nat.lt_of_lt_of_le h.l1 hst.size, Nat.lt_of_lt_of_le h.l2 hst.size, by rw [← h.x1]; simp only [World.cell?, k1], by rw [← h.x2]; simp only [World.cell?, k2], h.be.trans hb, Nat.le_trans h.sz hst.size⟩

theorem least_go {n : Nat} {K0 K1 r : KSt} (h : leastF n K0 = r) (hp : passR K0 = (K1, true)) (hn : trues K0.inn < n) (ok : KOk K0) : ∃ g, g < n ∧ trues K1.inn < g ∧ leastF g K1 = r := by
  cases n with
  | zero => omega
  | succ g =>
    have h2 : leastF (g + 1) K0 = if (passR K0).2 = true then leastF g (passR K0).1 else (passR K0).1 := rfl
    have h3 := (least_step (g := g) ok (by rw [hp])).2.2.2
    rw [hp] at h2 h3
    rw [if_pos rfl] at h2
    exact ⟨g, Nat.lt_succ_self _, by have h4 : trues K1.inn < trues K0.inn := h3; omega, h2.symm.trans h⟩
theorem least_stop {n : Nat} {K0 K1 r : KSt} (h : leastF n K0 = r) (hp : passR K0 = (K1, false)) (hn : trues K0.inn < n) : r = K1 := by
  cases n with
  | zero => omega
  | succ g =>
    have h2 : leastF (g + 1) K0 = if (passR K0).2 = true then leastF g (passR K0).1 else (passR K0).1 := rfl
    rw [hp, if_neg (show ¬ (((K1, false) : KSt × Bool).2 = true) from Bool.false_ne_true)] at h2
    exact h.symm.trans h2

def LeastPost (w : World) (B b : Nat) (K : KSt) (e : Ending) (w' : World) : Prop := e = .returned (.tuple #[]) ∧ KLed w B b K w'
set_option maxHeartbeats 4000000 in
set_option maxRecDepth 100000 in
theorem least_any {w : World} {B b : Nat} {τ : Nat → Nat} {V : KV} {K : KSt} (R : KRep w B b τ V K) (h : KOk K) :
    Calls Try.prog 97 #[.pointer (some ⟨b, 0, none⟩)] w (LeastPost w B b (leastR K)) := by
  have gN := h.ft.n
  have gv := h.gv
  obtain ⟨ga, ca, gi, ci, gl, cl, f⟩ := R.form (by omega)
  have c1 := f.c1
  have hbl := R.lt
  have hbl2 : ¬ (b = w.heap.size) := by omega
  have HR := Lib.hid R
  have HK := Lib.hid h
  obtain ⟨q, hq⟩ : ∃ q, K.all.length = q + 1 := ⟨K.all.length - 1, by omega⟩
  have HN := Lib.hid hq
  rw [hq] at c1 gN
  have c1a := fun o => cell_alloc_old c1 o
  clear f gv
  have s1 := Stay.alloc w τ (fun _ => True) (.cells #[.pointer (some ⟨b, 0, none⟩)] 122) 7
  have s2 := Stay.alloc (w.alloc (.cells #[.pointer (some ⟨b, 0, none⟩)] 122)) (retag τ w.heap.size 7) (fun _ => True) (.cells #[.int .i64 (q : Int)] 3) 7
  have hz1 : (w.alloc (.cells #[.pointer (some ⟨b, 0, none⟩)] 122)).heap.size = w.heap.size + 1 := by simp
  have HI := Lib.hid (show LeastI w B b q w.heap.size (w.heap.size + 1) K ((w.alloc (.cells #[.pointer (some ⟨b, 0, none⟩)] 122)).alloc (.cells #[.int .i64 (q : Int)] 3)) from
    ⟨_, V, R.stay (s1.trans s2), h, hq, by rw [retag_old (by simp)]; exact retag_new (Nat.le_refl _), retag_new (by simp), by simp; omega, by simp, by simp, by simp, ((Below.refl B w).alloc R.base _).alloc (by have := R.base; simp; omega) _, by simp; omega⟩)
  clear R h hq s1 s2 hz1
  go_enter Try.func97, Try.ntmps97
  go_wp2
  refine wp_scope_ghost 0 (fun n a' w' => ∃ (K0 : KSt) (u4 u5 u13 u14 u15 u16 u17 u18 u19 u20 u21 : Value), a' = { tmps := #[.pointer (some ⟨b, 0, none⟩), .pointer (some ⟨w.heap.size, 0, none⟩), .pointer (some ⟨w.heap.size + 1, 0, none⟩), .func (Fn.func 134) #[] #[.pointer (some ⟨w.heap.size + 1, 0, none⟩), .pointer (some ⟨w.heap.size, 0, none⟩)], u4, u5, .pointer (some ⟨b, 0, none⟩), .pointer (some ⟨b, 0, none⟩), .pointer (some ⟨b, 1, none⟩), .slice (some ⟨ga, 0, none⟩) (q + 1) ca, .int .i64 ((q : Int) + 1), .int .i64 q, .func (Fn.func 134) #[] #[.pointer (some ⟨w.heap.size + 1, 0, none⟩), .pointer (some ⟨w.heap.size, 0, none⟩)], u13, u14, u15, u16, u17, u18, u19, u20, u21], defers := [] } ∧ LeastI w B b q w.heap.size (w.heap.size + 1) K0 w' ∧ Hid (trues K0.inn < n ∧ leastF n K0 = leastR K)) rfl ?_ ?_
  · have HI0 := Lib.hid HI.out
    obtain ⟨K0, hK0⟩ : ∃ K0, K0 = K := ⟨K, rfl⟩
    have HN0 := Lib.hid (show K0.all.length = q + 1 ∧ KOk K0 ∧ trues K0.inn < trues K.inn + 1 ∧ leastF (trues K.inn + 1) K0 = leastR K by subst hK0; exact ⟨HN.out, HK.out, Nat.lt_succ_self _, rfl⟩)
    rw [← hK0] at HI0
    clear hK0
    go_wp2
    go_step3
    go_wp2
    go_loopw [4, 5] (fun s4 s5 wx => ∃ (k : Nat) (less : Bool) (K1 : KSt), k ≤ q + 1 ∧ s5 = .int .i64 ((k : Int) - 1) ∧ s4 = .bool less ∧ LeastI w B b q w.heap.size (w.heap.size + 1) K1 wx ∧ Hid (passF k K1 less = passR K0 ∧ KOk K0)) (fun _ s5 _ => (intOf s5 + 1).toNat)
    case atStart => exact ⟨q + 1, false, K0, Nat.le_refl _, by go_num, rfl, HI0.out, Lib.hid ⟨by unfold passR; rw [HN0.out.1], HN0.out.2.1⟩⟩
    case round =>
      obtain ⟨k, less, K1, hk, rfl, rfl, hI, hP⟩ := hrel
      cases k with
      | zero =>
        have hP1 := hP.out.1
        have HP1 := Lib.hid (show passR K0 = (K1, less) from hP1.symm)
        have HI1 := Lib.hid hI
        clear hI hP hP1
        cases less with
        | true =>
          obtain ⟨g, hlt, ht, hg⟩ := least_go HN0.out.2.2.2 HP1.out HN0.out.2.2.1 HN0.out.2.1
          have HG := Lib.hid (show g < _ ∧ trues K1.inn < g ∧ leastF g K1 = leastR K from ⟨hlt, ht, hg⟩)
          clear hlt ht hg
          go_wp2
          go_step3
          exact (show _ ∧ _ from ⟨rfl, g, K1, _, _, _, _, _, _, _, _, _, _, _, rfl, HI1.out, Lib.hid HG.out.2⟩)
        | false =>
          have HE := Lib.hid (least_stop HN0.out.2.2.2 HP1.out HN0.out.2.2.1)
          go_wp2
          simp only [Exit.jump]
          rw [HE.out]
          obtain ⟨τ9, V9, hm9⟩ := HI1.out
          refine bodyPost_end (results_none rfl _ _ _) rfl ⟨rfl, KLed.mk hm9.rep hm9.be⟩
      | succ k =>
        obtain ⟨τ1, V1, R1, hok, hal, t1, t2, l1, l2, x1, x2, hbe, hsz⟩ := hI
        have HT := Lib.hid (try_any R1 hok k (by omega) (w.heap.size + 1) w.heap.size (by rw [hal]; exact x2) x1)
        have hkk : ((k + 1 : Nat) : Int) - 1 = (k : Int) := by omega
        rw [hkk]
        have HI1 := Lib.hid (show LeastI w B b q w.heap.size (w.heap.size + 1) K1 wr from ⟨τ1, V1, R1, hok, hal, t1, t2, l1, l2, x1, x2, hbe, hsz⟩)
        have HS := Lib.hid (fun (K2 : KSt) (w2 : World) (hs : KLedS wr τ1 B b K2 w2) (h2 : KOk K2) (h3 : K2.all = K1.all) => LeastI.step ⟨R1, hok, hal, t1, t2, l1, l2, x1, x2, hbe, hsz⟩ hs h2 h3)
        have hp2 := hP.out.1
        have HOt := Lib.hid (hok.try_ (x := k) (by omega))
        unfold TryPost at HT
        have HPd := Lib.hid (show passF k (tryR K1 k).1 (less || (tryR K1 k).2) = passR K0 from hp2)
        have HOk0 := Lib.hid hP.out.2
        generalize tryR K1 k = rr at *
        obtain ⟨K2, ok⟩ := rr
        dsimp only at HT HPd HOt
        clear R1 hok t1 t2 l1 l2 x1 x2 hbe hsz hp2 hP hkk hal
        cases ok with
        | true =>
          go_wp2_with (first
            | (go_at_call 134; refine HT.out.mono ?_; rintro e w2 ⟨rfl, hs2⟩; have HI2 := Lib.hid (HS.out _ _ hs2 HOt.out.1 HOt.out.2.1); clear hs2))
          go_roundw
          case rel => exact ⟨k, true, K2, by omega, by go_num, rfl, HI2.out, Lib.hid ⟨by have := HPd.out; rw [Bool.or_true] at this; exact this, HOk0.out⟩⟩
          case measure => simp [intOf]; try omega
        | false =>
          go_wp2_with (first
            | (go_at_call 134; refine HT.out.mono ?_; rintro e w2 ⟨rfl, hs2⟩; have HI2 := Lib.hid (HS.out _ _ hs2 HOt.out.1 HOt.out.2.1); clear hs2))
          go_roundw
          case rel => exact ⟨k, less, K2, by omega, by go_num, rfl, HI2.out, Lib.hid ⟨by have := HPd.out; rw [Bool.or_false] at this; exact this, HOk0.out⟩⟩
          case measure => simp [intOf]; try omega
  · rintro n a' w' ⟨K0, u4, u5, u13, u14, u15, u16, u17, u18, u19, u20, u21, rfl, hI0, hn0⟩
    have HI0 := Lib.hid hI0
    obtain ⟨τ0, V0, hm0⟩ := hI0
    have HN0 := Lib.hid (show K0.all.length = q + 1 ∧ KOk K0 ∧ trues K0.inn < n ∧ leastF n K0 = leastR K from ⟨hm0.al, hm0.ok, hn0.out.1, hn0.out.2⟩)
    have x2 := hm0.x2
    clear hm0 hn0
    go_wp2
    go_loopw [4, 5] (fun s4 s5 wx => ∃ (k : Nat) (less : Bool) (K1 : KSt), k ≤ q + 1 ∧ s5 = .int .i64 ((k : Int) - 1) ∧ s4 = .bool less ∧ LeastI w B b q w.heap.size (w.heap.size + 1) K1 wx ∧ Hid (passF k K1 less = passR K0 ∧ KOk K0)) (fun _ s5 _ => (intOf s5 + 1).toNat)
    case atStart => exact ⟨q + 1, false, K0, Nat.le_refl _, by go_num, rfl, HI0.out, Lib.hid ⟨by unfold passR; rw [HN0.out.1], HN0.out.2.1⟩⟩
    case round =>
      obtain ⟨k, less, K1, hk, rfl, rfl, hI, hP⟩ := hrel
      cases k with
      | zero =>
        have hP1 := hP.out.1
        have HP1 := Lib.hid (show passR K0 = (K1, less) from hP1.symm)
        have HI1 := Lib.hid hI
        clear hI hP hP1
        cases less with
        | true =>
          obtain ⟨g, hlt, ht, hg⟩ := least_go HN0.out.2.2.2 HP1.out HN0.out.2.2.1 HN0.out.2.1
          have HG := Lib.hid (show g < _ ∧ trues K1.inn < g ∧ leastF g K1 = leastR K from ⟨hlt, ht, hg⟩)
          clear hlt ht hg
          go_wp2
          go_step3
          exact (show _ ∧ _ from ⟨rfl, g, HG.out.1, K1, _, _, _, _, _, _, _, _, _, _, _, rfl, HI1.out, Lib.hid HG.out.2⟩)
        | false =>
          have HE := Lib.hid (least_stop HN0.out.2.2.2 HP1.out HN0.out.2.2.1)
          go_wp2
          simp only [Exit.jump]
          rw [HE.out]
          obtain ⟨τ9, V9, hm9⟩ := HI1.out
          refine bodyPost_end (results_none rfl _ _ _) rfl ⟨rfl, KLed.mk hm9.rep hm9.be⟩
      | succ k =>
        obtain ⟨τ1, V1, R1, hok, hal, t1, t2, l1, l2, x1, x2, hbe, hsz⟩ := hI
        have HT := Lib.hid (try_any R1 hok k (by omega) (w.heap.size + 1) w.heap.size (by rw [hal]; exact x2) x1)
        have hkk : ((k + 1 : Nat) : Int) - 1 = (k : Int) := by omega
        rw [hkk]
        have HI1 := Lib.hid (show LeastI w B b q w.heap.size (w.heap.size + 1) K1 wr from ⟨τ1, V1, R1, hok, hal, t1, t2, l1, l2, x1, x2, hbe, hsz⟩)
        have HS := Lib.hid (fun (K2 : KSt) (w2 : World) (hs : KLedS wr τ1 B b K2 w2) (h2 : KOk K2) (h3 : K2.all = K1.all) => LeastI.step ⟨R1, hok, hal, t1, t2, l1, l2, x1, x2, hbe, hsz⟩ hs h2 h3)
        have hp2 := hP.out.1
        have HOt := Lib.hid (hok.try_ (x := k) (by omega))
        unfold TryPost at HT
        have HPd := Lib.hid (show passF k (tryR K1 k).1 (less || (tryR K1 k).2) = passR K0 from hp2)
        have HOk0 := Lib.hid hP.out.2
        generalize tryR K1 k = rr at *
        obtain ⟨K2, ok⟩ := rr
        dsimp only at HT HPd HOt
        clear R1 hok t1 t2 l1 l2 x1 x2 hbe hsz hp2 hP hkk hal
        cases ok with
        | true =>
          go_wp2_with (first
            | (go_at_call 134; refine HT.out.mono ?_; rintro e w2 ⟨rfl, hs2⟩; have HI2 := Lib.hid (HS.out _ _ hs2 HOt.out.1 HOt.out.2.1); clear hs2))
          go_roundw
          case rel => exact ⟨k, true, K2, by omega, by go_num, rfl, HI2.out, Lib.hid ⟨by have := HPd.out; rw [Bool.or_true] at this; exact this, HOk0.out⟩⟩
          case measure => simp [intOf]; try omega
        | false =>
          go_wp2_with (first
            | (go_at_call 134; refine HT.out.mono ?_; rintro e w2 ⟨rfl, hs2⟩; have HI2 := Lib.hid (HS.out _ _ hs2 HOt.out.1 HOt.out.2.1); clear hs2))
          go_roundw
          case rel => exact ⟨k, less, K2, by omega, by go_num, rfl, HI2.out, Lib.hid ⟨by have := HPd.out; rw [Bool.or_false] at this; exact this, HOk0.out⟩⟩
          case measure => simp [intOf]; try omega
end Go.Proofs.Ytfljggodnnpeiaa.Trm
