/- Part of the proof of ForwardScript: what the law uses of the text FcC. -/
import Derived.Test.YtcaoobdbgdldaaaGreatDoorZPFcB
namespace Go.Proofs.YtcaoobdbgdldaaaGreatDoor.Rfw
open Go.RowKit Go.Proofs.YtcaoobdbgdldaaaGreatDoor.Lit Go.Proofs.YtcaoobdbgdldaaaGreatDoor.Spr Go.Proofs.YtcaoobdbgdldaaaGreatDoor.P Go.Proofs.YtcaoobdbgdldaaaGreatDoor.Rf Go.Proofs.YtcaoobdbgdldaaaGreatDoorW.PrintWords Go.Proofs.YtcaoobdbgdldaaaGreatDoorW.PrintLast
set_option linter.unusedVariables false
set_option linter.unusedSimpArgs false

theorem equal01_l (a c : List Int) (hl : a.length = c.length) (h63 : a.length < 9223372036854775807) : ∀ (d n : Nat), a.length - n = d → n ≤ a.length → Ev (fun k => depotref01_Equal.l0 k a c (n : Int)) (decide (a.drop n = c.drop n)) := by
  intro d
  induction d with
  | zero =>
    intro n hd hn
    rw [List.drop_eq_nil_of_le (by omega), List.drop_eq_nil_of_le (by omega)]
    refine Ev.step (f := fun _ => some true) (fun k => ?_) (Ev.now _)
    simp only [depotref01_Equal.l0]
    rw [if_neg (by omega)]
  | succ d ih =>
    intro n hd hn
    have hlt : n < a.length := by omega
    rw [drop_get 0 hlt, drop_get 0 (xs := c) (by omega)]
    refine Ev.step (f := fun k => if a.getD n 0 = c.getD n 0 then depotref01_Equal.l0 k a c ((n + 1 : Nat) : Int) else some false) (fun k => ?_) ?_
    · simp only [depotref01_Equal.l0]
      rw [if_pos (by omega), if_pos (by omega), if_pos (by omega), rd_nat, rd_nat, wrap_nat (n := n) (by omega)]
    · by_cases h : a.getD n 0 = c.getD n 0
      · rw [h]
        refine Ev.congr (fun k => if_pos rfl) ?_
        have := ih (n + 1) (by omega) (by omega)
        rw [show decide (c.getD n 0 :: a.drop (n + 1) = c.getD n 0 :: c.drop (n + 1)) = decide (a.drop (n + 1) = c.drop (n + 1)) by rw [Bool.eq_iff_iff, decide_eq_true_eq, decide_eq_true_eq]; exact ⟨fun h => (List.cons.inj h).2, fun h => by rw [h]⟩]
        exact this
      · rw [decide_eq_false (fun e => h (List.cons.inj e).1)]
        exact Ev.congr (fun k => if_neg h) (Ev.now _)
theorem equal01 (a c : List Int) (h63 : a.length < 9223372036854775807) : Ev (fun k => depotref01_Equal.f k a c) (decide (a = c)) := by
  unfold depotref01_Equal.f
  by_cases h : a.length = c.length
  · have := equal01_l a c h h63 _ 0 rfl (by omega)
    rw [List.drop_zero, List.drop_zero] at this
    exact Ev.congr (fun k => if_pos (by omega)) this
  · rw [decide_eq_false (fun e => h (by rw [e]))]
    exact Ev.congr (fun k => if_neg (by omega)) (Ev.now _)
theorem same01 (a c : List Int) (ha : ∀ x ∈ a, fm x = true) (hc : ∀ x ∈ c, fm x = true) (hl : a.length ≤ 17592186044416) (hl2 : c.length ≤ 17592186044416) : Ev (fun k => depotref01_Same.f k a c) (decide (tidyL a = tidyL c)) := by
  unfold depotref01_Same.f
  refine Ev.bind (sound01 a (by omega)) ?_
  rw [List.all_eq_true.2 ha]
  refine Ev.congr (fun k => if_pos rfl) (Ev.bind (sound01 c (by omega)) ?_)
  rw [List.all_eq_true.2 hc]
  refine Ev.congr (fun k => if_pos rfl) (Ev.bind (tidy01 _ a (Nat.le_refl _) hl) (Ev.bind (tidy01 _ c (Nat.le_refl _) hl2) (Ev.bind (equal01 _ _ ?_) (Ev.now _))))
  have := tidy_len a
  omega
theorem rsame_any (Aa : Option Addr) (ca : Nat) (a : List Int) (Ac : Option Addr) (cc : Nat) (c : List Int) (w : World) (hA : Kd.C kI w Aa a.length a) (hca : a.length ≤ ca) (hC : Kd.C kI w Ac c.length c) (hcc : c.length ≤ cc) (ha : ∀ x ∈ a, fm x = true) (hc : ∀ x ∈ c, fm x = true) (hl : a.length ≤ 2097152) (hl2 : c.length ≤ 2097152) :
    Calls Tryz.prog 77 #[.slice Aa a.length ca, .slice Ac c.length cc] w fun e w' => e = .returned (.bool (decide (tidyL a = tidyL c))) ∧ Below w.heap.size w w' := by
  obtain ⟨k, hk⟩ := (same01 a c ha hc (by omega) (by omega)).rounds
  exact depotref01_Same.calls k Aa ca a Ac cc c _ w hA hca hC hcc hk

def atN (A : List (List Int)) (c : List Int) : Nat → Int
  | 0 => -1
  | k + 1 => if tidyL (A.getD k []) = tidyL c then (k : Int) else atN A c k
def outN (A : List (List Int)) (p : Int) : Nat → List (List Int)
  | 0 => []
  | k + 1 => if (k : Int) = p then outN A p k else outN A p k ++ [A.getD k []]
theorem outN_len (A : List (List Int)) (p : Int) : ∀ k, (outN A p k).length ≤ k
  | 0 => Nat.le_refl _
  | k + 1 => by
    have := outN_len A p k
    unfold outN
    split
    · omega
    · rw [List.length_append, List.length_singleton]; omega
noncomputable def rDrop (A : List (List Int)) (o : Bool) (c : List Int) : Int × Int × List (List Int) :=
  if c.all fm = true then (if o = true then (0, 3, A) else (if atN A c A.length < 0 then (0, 0, A) else (if rKnown A c = true then (2, 0, A) else (1, 0, outN A (atN A c A.length) A.length)))) else (0, 1, A)

theorem row_at {O : Nat → Prop} {w : World} {B b : Nat} {A : List (List Int)} {Ad : Option Addr} {ca : Nat} (hN : Kd.N kL 40 w B (fun k => O k ∧ B ≤ k ∧ k ≠ b) (.slice Ad A.length ca) A) (k : Nat) (hk : k < A.length) :
    ∃ ad A1 c1, Ad = some ad ∧ (A.getD k []).length ≤ c1 ∧ ∀ W, Below w.heap.size w W → W.cell? (ad.add k) = some (.slice A1 (A.getD k []).length c1) ∧ Kd.C kI W A1 (A.getD k []).length (A.getD k []) ∧ Kd.FK kL W (fun i => (O i ∧ B ≤ i ∧ i ≠ b) ∧ i < w.heap.size) (A.getD k []) [.slice A1 (A.getD k []).length c1] := by
  obtain ⟨ad, cs, e, hlen, hK, hcell, _⟩ := Kd.F_get (Kd.N_F (Kd.N_bound hN)) [] (k : Int) (by omega) (by omega)
  rw [Int.toNat_natCast] at hK hcell
  obtain ⟨A1, c1, e1, h1, h2⟩ := hK w (fun _ _ _ => rfl)
  subst e1
  refine ⟨ad, A1, c1, e, h1, fun W hb => ⟨?_, Kd.C_below h2 hb, fun W' hW => hK W' fun i hi hl => (hW i hi (Nat.lt_of_lt_of_le hl hb.size)).trans (hb.block i hl)⟩⟩
  have h3 : w.cell? (ad.add k) = some (.slice A1 (A.getD k []).length c1) := by
    have := hcell 0 _ rfl
    rwa [show k * kL.sz + 0 = k from Nat.mul_one k] at this
  exact (hb.cell (World.block_lt_of_cell? w _ h3)).trans h3

set_option maxHeartbeats 8000000 in
set_option maxRecDepth 100000 in
theorem rdrop_any (O : Nat → Prop) (w0 : World) (B b : Nat) (A : List (List Int)) (o : Bool) (Ac : Option Addr) (cc : Nat) (c : List Int) (w : World) (h : RfR O w0 B b A o w) (hC : Kd.C kI w Ac c.length c) (hcc : c.length ≤ cc) (hok : RfOk A) (hl : c.length ≤ 2097152) (hO : ∀ k, w.heap.size ≤ k → O k) :
    Calls Tryz.prog 44 #[.pointer (some ⟨b, 0, none⟩), .slice Ac c.length cc] w fun e w' => e = .returned (.tuple #[.int .i64 (rDrop A o c).1, .int .i64 (rDrop A o c).2.1]) ∧ RfR O w0 B b (rDrop A o c).2.2 o w' := by
  have HR := Lib.hid h
  obtain ⟨Ad, ca, hb, hN, hbw, hBb, hko⟩ := h
  have HKO := Lib.hid hko
  clear hko
  have hbl : b < w.heap.size := (Array.getElem?_eq_some_iff.1 hb).1
  have Hb : Hid (∀ W, Below w.heap.size w W → W.heap[b]? = some (Obj.cells #[.slice Ad A.length ca, .bool o] 85 (0, 0))) := Lib.hid fun W hw => (hw.block b hbl).trans hb
  have HN := Lib.hid hN
  have HW := Lib.hid hbw
  have HC := Lib.hid hC
  have Hok := Lib.hid hok
  have HS := Lib.hid (rsound_any Ac cc c w hC hcc hl)
  have Hrow := Lib.hid (fun k hk => row_at HN.out k hk)
  clear hb hN hbw hC hok
  have hA : A.length ≤ 4194304 := Hok.out.l
  cases hs : c.all fm with
  | false =>
    have e1 : rDrop A o c = (0, 1, A) := by unfold rDrop; rw [if_neg (by rw [hs]; decide)]
    rw [e1]
    go_enter Tryz.func44, Tryz.ntmps44
    go_wp2_with (go_at_call 43; refine HS.out.mono ?_; rintro e w1 ⟨rfl, hB1⟩; rw [hs]; have HB1 := Lib.hid hB1; clear hB1)
    go_ret2
    exact ⟨rfl, HR.out.step HB1.out⟩
  | true =>
    cases o with
    | true =>
      have e1 : rDrop A true c = (0, 3, A) := by unfold rDrop; rw [if_pos hs, if_pos rfl]
      rw [e1]
      go_enter Tryz.func44, Tryz.ntmps44
      go_wp2_with (go_at_call 43; refine HS.out.mono ?_; rintro e w1 ⟨rfl, hB1⟩; rw [hs]; obtain ⟨g1, g2, g3, g4⟩ := two_cells (Hb.out w1 hB1); have HB1 := Lib.hid hB1; clear hB1)
      go_ret2
      exact ⟨rfl, HR.out.step HB1.out⟩
    | false =>
      have Hcf := Lib.hid (List.all_eq_true.1 hs)
      have e1 : rDrop A false c = if atN A c A.length < 0 then (0, 0, A) else (if rKnown A c = true then (2, 0, A) else (1, 0, outN A (atN A c A.length) A.length)) := by unfold rDrop; rw [if_pos hs, if_neg (by decide)]
      have He1 := Lib.hid e1
      have HSame := Lib.hid (fun k (hk : k < A.length) (Aa : Option Addr) (ca : Nat) W (hca : (A.getD k []).length ≤ ca) (hCa : Kd.C kI W Aa (A.getD k []).length (A.getD k [])) (hw : Below w.heap.size w W) => rsame_any Aa ca (A.getD k []) Ac cc c W hCa hca (Kd.C_below HC.out hw) hcc (Hok.out.f _ (get_mem [] hk)) Hcf.out (Hok.out.c8 _ (get_mem [] hk)) hl)
      have HKn := Lib.hid (fun W (hw : Below w.heap.size w W) => rknown_any O w0 B b A false Ac cc c W (HR.out.step hw) (Kd.C_below HC.out hw) hcc Hok.out hl Hcf.out)
      have Hat := Lib.hid (fun k => show atN A c (k + 1) = if tidyL (A.getD k []) = tidyL c then (k : Int) else atN A c k from rfl)
      have Hout := Lib.hid (fun p k => show outN A p (k + 1) = if (k : Int) = p then outN A p k else outN A p k ++ [A.getD k []] from rfl)
      have Hol := Lib.hid (fun p k => outN_len A p k)
      clear e1 hs
      go_enter Tryz.func44, Tryz.ntmps44
      go_wp2_with (go_at_call 43; refine HS.out.mono ?_; rintro e w1 ⟨rfl, hB1⟩; rw [List.all_eq_true.2 Hcf.out]; obtain ⟨g1, g2, g3, g4⟩ := two_cells (Hb.out w1 hB1); have HB1 := Lib.hid hB1; clear hB1)
      go_loopw [6, 7] (fun a i wr => ∃ k : Nat, k ≤ A.length ∧ i = .int .i64 k ∧ a = .int .i64 (atN A c k) ∧ Below w.heap.size w wr) (fun _ i _ => A.length - (intOf i).toNat)
      case atStart => exact ⟨0, Nat.zero_le _, rfl, rfl, HB1.out⟩
      case round =>
        obtain ⟨k, hk, rfl, rfl, hB⟩ := hrel
        have HB := Lib.hid hB
        obtain ⟨q1, q2, q3, q4⟩ := two_cells (Hb.out wr hB)
        clear hB
        by_cases hlt : k < A.length
        · obtain ⟨ad, A1, c1, hAd, hc1, hrow⟩ := Hrow.out k hlt
          subst hAd
          obtain ⟨hr0, hrC, _⟩ := hrow wr HB.out
          have HSm := Lib.hid (HSame.out k hlt A1 c1 wr hc1 hrC HB.out)
          have Hatk := Lib.hid (Hat.out k)
          clear hrow hrC
          generalize A.getD k [] = x at *
          by_cases he : tidyL x = tidyL c
          · rw [decide_eq_true he] at HSm
            rw [if_pos he] at Hatk
            generalize atN A c k = at0 at *
            go_wp2_with (go_at_call 77; refine HSm.out.mono ?_; rintro e w3 ⟨rfl, hB3⟩; have HB3 := Lib.hid (HB.out.trans (hB3.mono HB.out.size)); clear hB3)
            go_roundw
            case rel => exact ⟨k + 1, by omega, by go_num, by rw [Hatk.out], HB3.out⟩
            case measure => simp [intOf]; omega
          · rw [decide_eq_false he] at HSm
            rw [if_neg he] at Hatk
            generalize atN A c k = at0 at *
            go_wp2_with (go_at_call 77; refine HSm.out.mono ?_; rintro e w3 ⟨rfl, hB3⟩; have HB3 := Lib.hid (HB.out.trans (hB3.mono HB.out.size)); clear hB3)
            go_roundw
            case rel => exact ⟨k + 1, by omega, by go_num, by rw [Hatk.out], HB3.out⟩
            case measure => simp [intOf]; omega
        · obtain rfl : k = A.length := by omega
          have hwr : w.heap.size ≤ wr.heap.size := HB.out.size
          obtain ⟨p, hpe⟩ : ∃ p, atN A c A.length = p := ⟨_, rfl⟩
          rw [hpe] at He1 ⊢
          clear hpe
          by_cases hp : p < 0
          · have He2 : Hid (rDrop A false c = (0, 0, A)) := Lib.hid (by rw [He1.out, if_pos hp])
            go_wp2
            go_ret2
            rw [He2.out]
            exact ⟨rfl, HR.out.step HB.out⟩
          · rw [if_neg hp] at He1
            have HK2 := Lib.hid (HKn.out wr HB.out)
            cases hkn : rKnown A c with
            | true =>
              rw [hkn] at HK2
              rw [if_pos hkn] at He1
              clear hkn
              go_wp2_with (go_at_call 78; refine HK2.out.mono ?_; rintro e w4 ⟨rfl, hB4⟩; have HB4 := Lib.hid (HB.out.trans (hB4.mono HB.out.size)); clear hB4)
              go_ret2
              rw [He1.out]
              exact ⟨rfl, HR.out.step HB4.out⟩
            | false =>
              rw [hkn] at HK2
              rw [if_neg (by rw [hkn]; decide)] at He1
              clear hkn
              go_wp2_with (go_at_call 78; refine HK2.out.mono ?_; rintro e w4 ⟨rfl, hB4⟩; have HB4 := Lib.hid (HB.out.trans (hB4.mono HB.out.size)); have s4 := HB4.out.size; clear hB4)
              go_loopw [8, 9] (fun v i wr => ∃ k : Nat, k ≤ A.length ∧ i = .int .i64 k ∧ Kd.N kL 40 wr w4.heap.size (fun j => O j ∧ B ≤ j ∧ j ≠ b) v (outN A p k) ∧ Below w4.heap.size w4 wr) (fun _ i _ => A.length - (intOf i).toNat)
              case atStart => exact ⟨0, Nat.zero_le _, rfl, Kd.N_nil _ _ _ _ _, Below.refl _ _⟩
              case round =>
                obtain ⟨k, hk, rfl, hNk, hBk⟩ := hrel
                obtain ⟨An, cn, evn⟩ := Kd.N_slice hNk
                subst evn
                have HNk := Lib.hid hNk
                have HBk := Lib.hid (HB4.out.trans (hBk.mono HB4.out.size))
                have HBk4 := Lib.hid hBk
                have sk := HBk4.out.size
                obtain ⟨r1, r2, r3, r4⟩ := two_cells (Hb.out wr HBk.out)
                clear hNk hBk
                by_cases hltk : k < A.length
                · obtain ⟨ad, A1, c1, hAd, hc1, hrow⟩ := Hrow.out k hltk
                  subst hAd
                  obtain ⟨hr0, _, hFK⟩ := hrow wr HBk.out
                  have HFK := Lib.hid hFK
                  have Ho := Lib.hid (Hout.out p k)
                  have holk := Hol.out p k
                  clear hrow hFK
                  generalize A.getD k [] = x at *
                  by_cases hkp : (k : Int) = p
                  · rw [if_pos hkp] at Ho
                    go_wp2
                    go_roundw
                    case rel => exact ⟨k + 1, by omega, by go_num, by rw [Ho.out]; exact HNk.out, HBk4.out⟩
                    case measure => simp [intOf]; omega
                  · rw [if_neg hkp] at Ho
                    have HX1 : Hid (∀ j, (O j ∧ B ≤ j ∧ j ≠ b) ∧ j < w.heap.size → (O j ∧ B ≤ j ∧ j ≠ b) ∧ some j ≠ (Value.slice An (outN A p k).length cn).ownBlock) := Lib.hid fun j hj => ⟨hj.1, fun e => by have := Kd.N_base HNk.out j e.symm; have := hj.2; omega⟩
                    go_wp2_with (at_builtin; refine Kd.N_append kL (w0 := w4) w4.heap.size rfl (.tmp 53) (.tmp 61) 22 40 (.slice none 0 0) 24 rfl Tryz.underlying22 infoL rfl (by decide) (by decide) (.slice An (outN A p k).length cn) (outN A p k) x [.slice A1 x.length c1] (fun j => O j ∧ B ≤ j ∧ j ≠ b) (fun j => (O j ∧ B ≤ j ∧ j ≠ b) ∧ j < w.heap.size) rfl rfl HFK.out HX1.out (fun j hj => ⟨hO j (by omega), by omega, by omega⟩) HNk.out HBk4.out sk (by omega) ?_; intro v6 w6 hN6 hB6 hg6 hat6; have HN6 := Lib.hid hN6; have HB6 := Lib.hid hB6; clear hN6 hB6 hg6 hat6)
                    go_roundw
                    case rel => exact ⟨k + 1, by omega, by go_num, by rw [Ho.out]; exact HN6.out, HB6.out⟩
                    case measure => simp [intOf]; omega
                · obtain rfl : k = A.length := by omega
                  have HL := Lib.hid (rf_put1 (A := outN A p A.length) (Hb.out wr HBk.out) (Kd.N_lower HNk.out (by omega)) (HW.out.trans (HBk.out.mono (by omega))) hBb (HKO.out.trans (Fwd.KeepO.mk' (w1 := wr.setCell ⟨b, 0, none⟩ (.slice An (outN A p A.length).length cn)) (ds := #[.slice An (outN A p A.length).length cn, .bool false]) (Hb.out w (Below.refl _ _)) (by simp [World.setCell, Array.getElem?_modify, Hb.out wr HBk.out]) (by have := HBk.out.size; simpa using this) (fun g hl n1 _ _ => (Below.heap_setCell wr ⟨b, 0, none⟩ _ g n1).trans (HBk.out.block g hl)) (.inr (fun g e => by have := Kd.N_base HNk.out g e; omega)))))
                  go_wp2
                  go_ret2
                  rw [He1.out]
                  exact ⟨rfl, HL.out⟩

end Go.Proofs.YtcaoobdbgdldaaaGreatDoor.Rfw
