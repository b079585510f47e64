/- Part of the proof of ForwardLasts: what the law uses of the text FwJ. -/
import Derived.Test.YtcaoobdbgdldaaaGreatDoorZPFwP
namespace Go.Proofs.YtcaoobdbgdldaaaGreatDoor.Fwd
open Go.RowKit Go.Shelf Go.Maps Go.Proofs.YtcaoobdbgdldaaaGreatDoor.Lit Go.Proofs.YtcaoobdbgdldaaaGreatDoor.Spr
set_option linter.unusedVariables false
set_option linter.unusedSimpArgs false

def TakePost (w0 : World) (B b m N : Nat) (r : Int × Fw) (e : Ending) (w' : World) : Prop := e = .returned (.int .i64 r.1) ∧ FwR w0 B b m (N + 1) r.2 w'
set_option maxHeartbeats 4000000 in
set_option maxRecDepth 100000 in
theorem take_any (w0 : World) (B b m N : Nat) (F : Fw) (d : Bool) (Ac : Option Addr) (cc : Nat) (c : List Int) (w : World) (h : FwR w0 B b m N F w) (hF : IC w Ac c) (hl : c.length ≤ 17592186044416) (hT : Lib.TabBelow Tryz.prog B w0 "internal/strconv.uint64pow10" .u64 Lib.pow10Tab) (hN : N ≤ 4194304) (ham : ∀ t ∈ F.ms, t ∈ F.all) :
    Calls Tryz.prog 38 #[.pointer (some ⟨b, 0, none⟩), .agg #[.bool d, .slice Ac c.length cc]] w (TakePost w0 B b m N (takeW F d c)) := by
  have hB1 : Below w.heap.size w (w.alloc (.cells #[.bool d, .slice Ac c.length cc] 42)) := (Below.refl _ _).alloc (Nat.le_refl _) _
  have hx0 : (w.alloc (.cells #[.bool d, .slice Ac c.length cc] 42)).cell? ⟨w.heap.size, 0, none⟩ = some (.bool d) := by simp
  have hx1 : (w.alloc (.cells #[.bool d, .slice Ac c.length cc] 42)).cell? ⟨w.heap.size, 1, none⟩ = some (.slice Ac c.length cc) := by simp
  have HA := Lib.hid (add_any w0 B b m N F Ac cc c _ (h.step hB1) (hF.below hB1) hl hT hN)
  have HD := Lib.hid (drop_any w0 B b m N F Ac cc c _ (h.step hB1) (hF.below hB1) hl hT hN ham)
  have hda := dropW_cases F c
  have haa := addW_cases F c
  unfold TakePost takeW
  unfold AddPost at HA
  unfold DropPost at HD
  clear h hF hB1
  generalize dropW F c = rd at *
  generalize addW F c = ra at *
  obtain ⟨d1, d2, G⟩ := rd
  obtain ⟨a1, a2, H⟩ := ra
  dsimp only at *
  generalize c.length = n at *
  cases d with
  | true =>
    rw [if_pos rfl]
    obtain ⟨hd1, hd2⟩ := hda
    by_cases h2 : d2 = 0
    · subst h2
      rw [if_neg (by decide)]
      by_cases h1 : d1 = 0
      · subst h1
        rw [if_pos rfl]
        go_enter Tryz.func38, Tryz.ntmps38
        go_wp2_with (first
          | (go_at_call 35; refine HD.out.mono ?_; rintro e w2 ⟨rfl, hr⟩; have HR := Lib.hid hr; clear hr))
        go_ret
        exact ⟨rfl, HR.out⟩
      · have h1b : (d1 == 0) = false := by simpa using h1
        rw [if_neg h1]
        go_enter Tryz.func38, Tryz.ntmps38
        go_wp2_with (first
          | (go_at_call 35; refine HD.out.mono ?_; rintro e w2 ⟨rfl, hr⟩; have HR := Lib.hid hr; clear hr))
        go_ret
        exact ⟨rfl, HR.out⟩
    · have h2b : (d2 != 0) = true := by simpa using h2
      rw [if_pos h2]
      go_enter Tryz.func38, Tryz.ntmps38
      go_wp2_with (first
        | (go_at_call 35; refine HD.out.mono ?_; rintro e w2 ⟨rfl, hr⟩; have HR := Lib.hid hr; clear hr))
      go_ret
      exact ⟨rfl, HR.out⟩
  | false =>
    rw [if_neg (by decide)]
    obtain ⟨ha1, ha2⟩ := haa
    by_cases h2 : a2 = 0
    · subst h2
      rw [if_neg (by decide)]
      by_cases h1 : a1 = 0
      · subst h1
        rw [if_pos rfl]
        go_enter Tryz.func38, Tryz.ntmps38
        go_wp2_with (first
          | (go_at_call 34; refine HA.out.mono ?_; rintro e w2 ⟨rfl, hr⟩; have HR := Lib.hid hr; clear hr))
        go_ret
        exact ⟨rfl, HR.out⟩
      · have h1b : (a1 == 0) = false := by simpa using h1
        rw [if_neg h1]
        cases hd : H.done with
        | true =>
          rw [if_pos rfl]
          have HDn := Lib.hid hd
          clear hd
          go_enter Tryz.func38, Tryz.ntmps38
          go_wp2_with (first
            | (go_at_call 34; refine HA.out.mono ?_; rintro e w2 ⟨rfl, hr⟩; have HR := Lib.hid hr; obtain ⟨v2, hv2⟩ := hr; have hc2 := hv2.cell.2.2.2; rw [HDn.out] at hc2; clear hv2))
          go_ret
          exact ⟨rfl, HR.out⟩
        | false =>
          rw [if_neg (by decide)]
          have HDn := Lib.hid hd
          clear hd
          go_enter Tryz.func38, Tryz.ntmps38
          go_wp2_with (first
            | (go_at_call 34; refine HA.out.mono ?_; rintro e w2 ⟨rfl, hr⟩; have HR := Lib.hid hr; obtain ⟨v2, hv2⟩ := hr; have hc2 := hv2.cell.2.2.2; rw [HDn.out] at hc2; clear hv2))
          go_ret
          exact ⟨rfl, HR.out⟩
    · have h2b : (a2 != 0) = true := by simpa using h2
      rw [if_pos h2]
      go_enter Tryz.func38, Tryz.ntmps38
      go_wp2_with (first
        | (go_at_call 34; refine HA.out.mono ?_; rintro e w2 ⟨rfl, hr⟩; have HR := Lib.hid hr; clear hr))
      go_ret
      exact ⟨rfl, HR.out⟩

end Go.Proofs.YtcaoobdbgdldaaaGreatDoor.Fwd
