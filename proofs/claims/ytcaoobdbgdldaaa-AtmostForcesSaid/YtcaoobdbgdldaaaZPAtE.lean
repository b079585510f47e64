/- Part of the proof of AtmostForces: what the law uses of the text AtE. -/
import Derived.Test.YtcaoobdbgdldaaaZPAtD
namespace Go.Proofs.Ytcaoobdbgdldaaa.Spr
open Go.RowKit Go.Maps Go.Proofs.Ytcaoobdbgdldaaa.Lit Go.Proofs.YtcaoobdbgdldaaaW.PrintWords
set_option linter.unusedVariables false
set_option linter.unusedSimpArgs false

theorem PutR.read {w0 : World} {base cb N : Nat} {cs : List (List Int)} {wr : World} (h : PutR w0 base cb N cs wr) : ∃ v, wr.cell? ⟨cb, 0, none⟩ = some v ∧ Kd.S (Kd.slice 3 (Kd.int .i64)) 22 wr base (fun _ => True) v cs ∧ Below base w0 wr := by
  obtain ⟨v, h1, h2, h3, _, _⟩ := h
  exact ⟨v, by unfold World.cell?; rw [h1]; rfl, Kd.S_mono h2 (fun _ _ => trivial), h3⟩

set_option maxHeartbeats 8000000 in
set_option maxRecDepth 100000 in
theorem clauses_any (A : Option Addr) (c : Nat) (l : List Int) (k : Nat) (f : Int) (bf bk : Nat) (w : World) (hC : IC w A l) (hl : l.length ≤ 60) (hb : ∀ x ∈ l, -1048576 ≤ x ∧ x ≤ 1048576) (hk : 1 ≤ k) (hkl : k < l.length) (hf : 0 ≤ f ∧ f ≤ 100000)
    (hcf : w.cell? ⟨bf, 0, none⟩ = some (.int .i64 f)) (hck : w.cell? ⟨bk, 0, none⟩ = some (.int .i64 k)) :
    Calls Try.prog 14 #[.slice A l.length c, .int .i64 k, .func (.func 13) #[] #[.pointer (some ⟨bf, 0, none⟩), .pointer (some ⟨bk, 0, none⟩)]] w (ClausesPost w (clausesL l k f)) := by
  have hcl : clausesL l k f = headL f k l ++ (List.range (k - 1)).map (fun j : Nat => [-(sI f k 1 (j + 2))]) ++ (List.range (l.length - 2)).flatMap (rowL f k l) ++ [[-(l.getD (l.length - 1) 0), -(sI f k (l.length - 1) k)]] := by unfold clausesL; rw [if_neg (by omega)]
  rw [hcl]
  clear hcl
  have hbf := World.block_lt_of_cell? w _ hcf
  have hbk := World.block_lt_of_cell? w _ hck
  have HC := Lib.hid (fun n (hn : n < l.length) (w2 : World) (hb2 : Below w.heap.size w w2) => (hC.below hb2) n hn)
  have HBd := Lib.hid (fun n (hn : n < l.length) => hb (l.getD n 0) (by rw [List.getD_eq_getElem?_getD, List.getElem?_eq_getElem hn]; exact List.getElem_mem _))
  have HSA := Lib.hid (fun (w2 : World) (hb2 : Below w.heap.size w w2) (i j : Int) (h3 : 1 ≤ i ∧ i ≤ 1000) (h4 : 0 ≤ j ∧ j ≤ 1000) => s_any bf bk f k i j w2 ((hb2.cell hbf).trans hcf) ((hb2.cell hbk).trans hck) hf (by omega) h3 h4)
  have HSB := Lib.hid (fun (i j : Int) (h3 : 1 ≤ i ∧ i ≤ 1000) (h4 : 0 ≤ j ∧ j ≤ 1000) => sI_bd (f := f) (k := k) hf (by omega) h3 h4)
  have HI := Lib.hid (PutR.init (w0 := w) (w := w) (base := w.heap.size) (Below.refl _ _) (Nat.le_refl _))
  have hkb : (k == 0) = false := by simpa using (show k ≠ 0 by omega)
  have hkb2 : ((k : Int) == 0) = false := by simpa using (show k ≠ 0 by omega)
  clear hC hb hcf hck hbf hbk
  generalize hN : l.length = N at *
  have HN := Lib.hid hN
  clear hN
  obtain ⟨ad, hA, _⟩ := HC.out 0 (by omega) w (Below.refl _ _)
  subst hA
  have e0 : ad.add 0 = ad := by cases ad; simp [Addr.add]
  go_enter Try.func14, Try.ntmps14
  go_upto_region 11 with (fail)
  have hx0 : (w.alloc (.cells #[.slice none 0 0] 25)).cell? ad = some (.int .i64 (l.getD 0 0)) := by
    obtain ⟨ad', hA', hx⟩ := HC.out 0 (by omega) _ HI.out.below
    injection hA' with hA'
    subst hA'
    rwa [e0] at hx
  have hb0 := HBd.out 0 (by omega)
  have hs0 := HSB.out 1 1 (by omega) (by omega)
  go_cut [] (fun wx => PutR w w.heap.size w.heap.size 1 (headL f k l) wx)
  case first =>
    have HP := HI
    have HHd := Lib.hid (show headL f k l = [[-(l.getD 0 0), sI f k 1 1]] from rfl)
    generalize l.getD 0 0 = x at *
    obtain ⟨hb1, hb2⟩ := hb0
    obtain ⟨hs1, hs2⟩ := hs0
    have hwx : IntKind.i64.wrap (-x) = -x := by rw [IntKind.wrap_i64]; omega
    go_region_with (first
      | (go_at_call 13; refine (HSA.out _ (by first | exact HP.out.below | exact below_drewN HP.out.below _) 1 1 (by omega) (by omega)).mono ?_; rintro e w' ⟨rfl, rfl⟩)
      | (go_at_call 20; refine (cput_at HP.out (by omega) HP.out.below.size [-x, sI f k 1 1] 2 rfl (by decide) (by decide) 1 _ (by first | rfl | (rw [hwx]; rfl)) _ (by simp)).mono ?_; rintro e w' ⟨rfl, hp⟩; have HP1 := Lib.hid hp; clear hp))
    all_goals (go_wp2; go_meet; rw [HHd.out]; exact HP1.out)
  case rest =>
    have HH := Lib.hid hcut
    clear hcut hx0 HI e0 hb0 hs0
    have hk9 : k ≤ 60 := by omega
    go_wp2
    go_loopw [47] (fun i wr => ∃ j : Nat, j ≤ k - 1 ∧ i = .int .i64 j ∧ PutR w w.heap.size w.heap.size (1 + j) (headL f k l ++ (List.range j).map (fun j : Nat => [-(sI f k 1 (j + 2))])) wr) (fun i _ => k - (intOf i).toNat)
    case atStart => exact ⟨0, Nat.zero_le _, rfl, by simpa using HH.out⟩
    case round =>
      obtain ⟨j, hj, rfl, hr⟩ := hrel
      by_cases hlt : j < k - 1
      · have HP := Lib.hid hr
        have HR := Lib.hid (range_map_succ (fun j : Nat => [-(sI f k 1 (j + 2))]) j)
        obtain ⟨hs1, hs2⟩ := HSB.out 1 (j + 2) (by omega) (by omega)
        clear hr
        go_wp2_with (first
          | (go_at_call 13; refine (HSA.out _ HP.out.below 1 (j + 2) (by omega) (by omega)).mono ?_; rintro e w' ⟨rfl, rfl⟩)
          | (go_at_call 20; refine (cput_any HP.out (by omega) HP.out.below.size [-(sI f k 1 (j + 2))] _ rfl 1 rfl (by decide) (by decide)).mono ?_; rintro e w' ⟨rfl, hp⟩; clear HP; have HP := Lib.hid hp; clear hp))
        go_roundw
        case rel => exact ⟨j + 1, by omega, by go_num, by rw [HR.out, ← List.append_assoc]; exact HP.out⟩
        case measure => simp [intOf]; omega
      · obtain rfl : j = k - 1 := by omega
        have HH := Lib.hid hr
        clear hr
        go_wp2
        go_loopw [61] (fun i wr => ∃ m : Nat, m ≤ N - 2 ∧ i = .int .i64 m ∧ PutR w w.heap.size w.heap.size (100 + 200 * m) (headL f k l ++ (List.range (k - 1)).map (fun j : Nat => [-(sI f k 1 (j + 2))]) ++ (List.range m).flatMap (rowL f k l)) wr) (fun i _ => N - (intOf i).toNat)
        case atStart => exact ⟨0, Nat.zero_le _, rfl, by simpa using HH.out.more (show 1 + (k - 1) ≤ 100 + 200 * 0 by omega)⟩
        case round =>
          obtain ⟨m, hm, rfl, hr⟩ := hrel
          by_cases hlt : m < N - 2
          · have HP := Lib.hid hr
            have HR := Lib.hid (range_flat_succ (rowL f k l) m)
            obtain ⟨ad', hA', hx⟩ := HC.out (m + 1) (by omega) wr HP.out.below
            injection hA' with hA'
            subst hA'
            obtain ⟨hx1, hx2⟩ := HBd.out (m + 1) (by omega)
            have HRw := Lib.hid (show rowL f k l m = [[-(l.getD (m + 1) 0), sI f k (m + 2) 1], [-(sI f k (m + 2 - 1) 1), sI f k (m + 2) 1]] ++ (List.range (k - 1)).flatMap (midL f k (m + 2) (-(l.getD (m + 1) 0))) ++ [[-(l.getD (m + 1) 0), -(sI f k (m + 2 - 1) k)]] from rfl)
            clear hr
            generalize l.getD (m + 1) 0 = x at *
            have HLo := Lib.hid (show headL f k l ++ (List.range (k - 1)).map (fun j : Nat => [-(sI f k 1 (j + 2))]) ++ (List.range (m + 1)).flatMap (rowL f k l) = (headL f k l ++ (List.range (k - 1)).map (fun j : Nat => [-(sI f k 1 (j + 2))]) ++ (List.range m).flatMap (rowL f k l)) ++ [[-x, sI f k (m + 2) 1], [-(sI f k (m + 2 - 1) 1), sI f k (m + 2) 1]] ++ (List.range (k - 1)).flatMap (midL f k (m + 2) (-x)) ++ [[-x, -(sI f k (m + 2 - 1) k)]] by rw [HR.out, HRw.out]; simp only [List.append_assoc])
            generalize headL f k l ++ (List.range (k - 1)).map (fun j : Nat => [-(sI f k 1 (j + 2))]) ++ (List.range m).flatMap (rowL f k l) = cs0 at *
            go_upto_region 20 with (fail)
            have hmi : (((m : Int) + 1)).toNat = m + 1 := by omega
            obtain ⟨s1, s2⟩ := HSB.out (m + 2) 1 (by omega) (by omega)
            obtain ⟨s3, s4⟩ := HSB.out (m + 2 - 1) 1 (by omega) (by omega)
            obtain ⟨s5, s6⟩ := HSB.out (m + 2 - 1) k (by omega) (by omega)
            have hmw : IntKind.i64.wrap ((m : Int) + 1) = (m : Int) + 1 := by rw [IntKind.wrap_i64]; omega
            have hmw2 : IntKind.i64.wrap ((m : Int) + 2) = (m : Int) + 2 := by rw [IntKind.wrap_i64]; omega
            have hxw : IntKind.i64.wrap (-x) = -x := by rw [IntKind.wrap_i64]; omega
            have hxa : ad.add (m + 1) = ⟨ad.block, ad.off + (m + 1), none⟩ := by cases ad; simp [Addr.add]
            rw [hxa] at hx
            have hx3 : wr.drew.cell? ⟨ad.block, ad.off + (m + 1), none⟩ = some (.int .i64 x) := hx
            go_region
            have hp0 : PutR w w.heap.size w.heap.size (100 + 200 * m) cs0 wr.drew := HP.out.drewN 1
            clear HP
            have HP := Lib.hid hp0
            clear hp0
            go_wp2_with (first
              | (go_at_call 13; refine (HSA.out _ HP.out.below _ _ (by omega) (by omega)).mono ?_; rintro e w' ⟨rfl, rfl⟩)
              | (go_at_call 20; (first | refine (cput_any HP.out (by omega) HP.out.below.size [_] _ rfl 1 rfl (by decide) (by decide)).mono ?_ | refine (cput_any HP.out (by omega) HP.out.below.size [_, _] _ rfl 2 rfl (by decide) (by decide)).mono ?_ | refine (cput_any HP.out (by omega) HP.out.below.size [_, _, _] _ rfl 3 rfl (by decide) (by decide)).mono ?_); rintro e w' ⟨rfl, hp⟩; clear HP; have HP := Lib.hid hp; clear hp))
            have HE := Lib.hid (show (cs0 ++ [[-x, sI f k (m + 2) 1]]) ++ [[-(sI f k (m + 2 - 1) 1), sI f k (m + 2) 1]] = cs0 ++ [[-x, sI f k (m + 2) 1], [-(sI f k (m + 2 - 1) 1), sI f k (m + 2) 1]] by simp)
            rw [HE.out] at HP
            clear HE hx hx3 hxa hmi hmw hmw2 hxw
            go_loopw [92] (fun i wz => ∃ h : Nat, h ≤ k - 1 ∧ i = .int .i64 h ∧ PutR w w.heap.size w.heap.size (102 + 200 * m + 2 * h) (cs0 ++ [[-x, sI f k (m + 2) 1], [-(sI f k (m + 2 - 1) 1), sI f k (m + 2) 1]] ++ (List.range h).flatMap (midL f k (m + 2) (-x))) wz) (fun i _ => k - (intOf i).toNat)
            case atStart => exact ⟨0, Nat.zero_le _, rfl, by simpa using HP.out.more (show 100 + 200 * m + 1 + 1 ≤ 102 + 200 * m + 2 * 0 by omega)⟩
            case round =>
              obtain ⟨h, hh, rfl, hr⟩ := hrel
              clear HP
              by_cases hlh : h < k - 1
              · have HP := Lib.hid hr
                have HRh := Lib.hid (range_flat_succ (midL f k (m + 2) (-x)) h)
                have HMd := Lib.hid (show midL f k (m + 2) (-x) h = [[-x, -(sI f k (m + 2 - 1) (h + 2 - 1)), sI f k (m + 2) (h + 2)], [-(sI f k (m + 2 - 1) (h + 2)), sI f k (m + 2) (h + 2)]] from rfl)
                obtain ⟨t1, t2⟩ := HSB.out (m + 2 - 1) (h + 2 - 1) (by omega) (by omega)
                obtain ⟨t3, t4⟩ := HSB.out (m + 2) (h + 2) (by omega) (by omega)
                obtain ⟨t5, t6⟩ := HSB.out (m + 2 - 1) (h + 2) (by omega) (by omega)
                clear hr
                have HL := Lib.hid (show cs0 ++ [[-x, sI f k (m + 2) 1], [-(sI f k (m + 2 - 1) 1), sI f k (m + 2) 1]] ++ (List.range (h + 1)).flatMap (midL f k (m + 2) (-x)) = (cs0 ++ [[-x, sI f k (m + 2) 1], [-(sI f k (m + 2 - 1) 1), sI f k (m + 2) 1]] ++ (List.range h).flatMap (midL f k (m + 2) (-x))) ++ [[-x, -(sI f k (m + 2 - 1) (h + 2 - 1)), sI f k (m + 2) (h + 2)]] ++ [[-(sI f k (m + 2 - 1) (h + 2)), sI f k (m + 2) (h + 2)]] by rw [HRh.out, HMd.out]; simp)
                generalize cs0 ++ [[-x, sI f k (m + 2) 1], [-(sI f k (m + 2 - 1) 1), sI f k (m + 2) 1]] ++ (List.range h).flatMap (midL f k (m + 2) (-x)) = cs1 at *
                go_wp2_with (first
                  | (go_at_call 13; refine (HSA.out _ HP.out.below _ _ (by omega) (by omega)).mono ?_; rintro e w' ⟨rfl, rfl⟩)
                  | (go_at_call 20; (first | refine (cput_any HP.out (by omega) HP.out.below.size [_] _ rfl 1 rfl (by decide) (by decide)).mono ?_ | refine (cput_any HP.out (by omega) HP.out.below.size [_, _] _ rfl 2 rfl (by decide) (by decide)).mono ?_ | refine (cput_any HP.out (by omega) HP.out.below.size [_, _, _] _ rfl 3 rfl (by decide) (by decide)).mono ?_); rintro e w' ⟨rfl, hp⟩; clear HP; have HP := Lib.hid hp; clear hp))
                go_roundw
                case rel => exact ⟨h + 1, by omega, by go_num, by rw [HL.out]; exact HP.out.more (by omega)⟩
                case measure => simp [intOf]; omega
              · obtain rfl : h = k - 1 := by omega
                have HP := Lib.hid hr
                clear hr
                go_wp2_with (first
                  | (go_at_call 13; refine (HSA.out _ HP.out.below _ _ (by omega) (by omega)).mono ?_; rintro e w' ⟨rfl, rfl⟩)
                  | (go_at_call 20; (first | refine (cput_any HP.out (by omega) HP.out.below.size [_] _ rfl 1 rfl (by decide) (by decide)).mono ?_ | refine (cput_any HP.out (by omega) HP.out.below.size [_, _] _ rfl 2 rfl (by decide) (by decide)).mono ?_ | refine (cput_any HP.out (by omega) HP.out.below.size [_, _, _] _ rfl 3 rfl (by decide) (by decide)).mono ?_); rintro e w' ⟨rfl, hp⟩; clear HP; have HP := Lib.hid hp; clear hp))
                go_roundw
                case rel => exact ⟨m + 1, by omega, by go_num, by rw [HLo.out]; exact HP.out.more (by omega)⟩
                case measure => simp [intOf]; omega
          · obtain rfl : m = N - 2 := by omega
            have hN1 : ((N : Int) - 1).toNat = N - 1 := by omega
            obtain ⟨ad', hA', hx⟩ := HC.out (N - 1) (by omega) wr hr.below
            injection hA' with hA'
            subst hA'
            obtain ⟨hx1, hx2⟩ := HBd.out (N - 1) (by omega)
            obtain ⟨s5, s6⟩ := HSB.out ((N : Int) - 1) k (by omega) (by omega)
            generalize hxe : l.getD (N - 1) 0 = x at *
            generalize hcs0 : headL f k l ++ (List.range (k - 1)).map (fun j : Nat => [-(sI f k 1 (j + 2))]) ++ (List.range (N - 2)).flatMap (rowL f k l) = cs0 at *
            have hNw : IntKind.i64.wrap ((N : Int) - 1) = (N : Int) - 1 := by rw [IntKind.wrap_i64]; omega
            have hxw : IntKind.i64.wrap (-x) = -x := by rw [IntKind.wrap_i64]; omega
            have hsw : IntKind.i64.wrap (-(sI f k ((N : Int) - 1) k)) = -(sI f k ((N : Int) - 1) k) := by rw [IntKind.wrap_i64]; omega
            have hxa : ad.add (N - 1) = ⟨ad.block, ad.off + (N - 1), none⟩ := by cases ad; simp [Addr.add]; omega
            rw [hxa] at hx
            have hx3 : wr.drew.cell? ⟨ad.block, ad.off + (N - 1), none⟩ = some (.int .i64 x) := hx
            clear HH
            go_upto_region 32 with (fail)
            go_cut [] (fun wx => PutR w w.heap.size w.heap.size (101 + 200 * (N - 2)) (cs0 ++ [[-x, -(sI f k ((N : Int) - 1) k)]]) wx)
            case first =>
              have HP := hr
              go_region_with (first
                | (go_at_call 13; refine (HSA.out _ (by first | exact HP.below | exact below_drewN HP.below _) _ _ (by omega) (by omega)).mono ?_; rintro e w' ⟨rfl, rfl⟩)
                | (go_at_call 20; refine (cput_at HP (by omega) HP.below.size [-x, -(sI f k ((N : Int) - 1) k)] 2 rfl (by decide) (by decide) 1 _ (by first | rfl | (rw [hsw]; rfl) | (rw [hxw, hsw]; rfl) | (rw [hxw]; rfl)) _ (by simp)).mono ?_; rintro e w' ⟨rfl, hp⟩; have HP1 := Lib.hid hp; clear hp))
              all_goals (go_wp2; go_meet; exact HP1.out.more (by omega))
            case rest =>
              obtain ⟨v, hcell, hs, hb⟩ := hcut.read
              have HE := Lib.hid hs
              have HB := Lib.hid hb
              clear hcut hs hb
              go_wp2
              go_ret
              exact ⟨v, rfl, by rw [hcs0, hxe]; exact HE.out, HB.out⟩

end Go.Proofs.Ytcaoobdbgdldaaa.Spr
