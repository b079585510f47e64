/- Part of the proof of ForwardStays: what the law uses of the text Stays. -/
import Derived.Test.YtcaoobdbgdldaaaDoorZPFwU
namespace Go.Proofs.YtcaoobdbgdldaaaDoor.P
open Go.RowKit Go.Maps Go.Proofs.YtcaoobdbgdldaaaDoor.Lit Go.Proofs.YtcaoobdbgdldaaaDoor.Spr Go.Proofs.YtcaoobdbgdldaaaDoor.Fwd Go.Proofs.YtcaoobdbgdldaaaDoorW.PrintWords
set_option linter.unusedVariables false

def StayFits (cs : List (List Int)) (l : List S37) : Prop := cs.length ≤ 1048576 ∧ (∀ c ∈ cs, c.length ≤ 1048576) ∧ l.length ≤ 1048576 ∧ ∀ s ∈ l, s.f1.length ≤ 1048576
instance (cs : List (List Int)) (l : List S37) : Decidable (StayFits cs l) := by unfold StayFits; infer_instance
def depotlaw11_ForwardStays.f (k : Nat) (v : Int) (cs : List (List Int)) (l : List S37) : Option Bool := if StayFits cs l then some true else none
theorem depotlaw11_ForwardStays.calls (k : Nat) (v : Int) (A : Option Addr) (c0 : Nat) (cs : List (List Int)) (As : Option Addr) (cq : Nat) (l : List S37) (r : Bool) (w : World) (hT : Fwd.Tab w)
    (hr0 : Kd.C (Kd.slice 3 (Kd.int .i64)) w A cs.length cs) (hc0 : cs.length ≤ c0) (hr1 : Kd.C k37 w As l.length l) (hc1 : l.length ≤ cq) (h : depotlaw11_ForwardStays.f k v cs l = some r) :
    Calls Tryd.prog 4 #[.agg #[.int .i64 v, .slice A cs.length c0], .slice As l.length cq] w fun e w' => e = .returned (.bool r) ∧ Below w.heap.size w w' := by
  unfold depotlaw11_ForwardStays.f at h
  split at h
  · rename_i hS
    obtain ⟨h1, h2, h3, h4⟩ := hS
    obtain rfl := Option.some.inj h
    have hck : ∀ w2, Below w.heap.size w w2 → Calls Tryd.prog 6 #[.agg #[.int .i64 v, .slice A cs.length c0], .slice As l.length cq] w2 (CheckPost w2 (checkW v cs (stp l))) := fun w2 hb => by
      have := check_any v A c0 cs As cq (stp l) w2 ((rc_of_C hr0).below hb) (sc_of_C (Kd.C_below hr1 hb)) (by omega) (fun c hc => by have := h2 c hc; omega) (by rw [stp_len]; omega) (fun s hs => by have := stp_8 h4 s hs; omega) (hT.below hb)
      rw [stp_len] at this
      exact this
    cases hp : formedB v cs with
    | false =>
      have e : checkW v cs (stp l) = (0, 0, 1) := by unfold checkW; rw [if_neg (by rw [hp]; decide)]
      rw [e] at hck
      exact stays_no v A c0 cs.length As cq l.length 0 0 1 (by decide) (.inr rfl) w hT (Lib.hid hck)
    | true =>
      by_cases h5 : (stepsW (newW cs) 0 (stp l)).1 = 1
      · exact stays_yes v A c0 cs As cq l w (rc_of_C hr0) hr1 hc1 ⟨h1, h2, h3, h4⟩ hT hp h5
      · have e : checkW v cs (stp l) = ((stepsW (newW cs) 0 (stp l)).1, (stepsW (newW cs) 0 (stp l)).2, 0) := by unfold checkW; rw [if_pos hp]
        rw [e] at hck
        exact stays_no v A c0 cs.length As cq l.length _ _ 0 h5 (.inl rfl) w hT (Lib.hid hck)
  · cases h

end Go.Proofs.YtcaoobdbgdldaaaDoor.P
namespace Go.Proofs.YtcaoobdbgdldaaaDoor.Pure
open Go.Proofs.YtcaoobdbgdldaaaDoor.P
theorem ForwardStays (v : Int) (cs : List (List Int)) (l : List S37) (h1 : cs.length ≤ 1048576) (h2 : ∀ c ∈ cs, c.length ≤ 1048576) (h3 : l.length ≤ 1048576) (h4 : ∀ s ∈ l, s.f1.length ≤ 1048576) : ∃ k, depotlaw11_ForwardStays.f k v cs l = some true := ⟨0, if_pos ⟨h1, h2, h3, h4⟩⟩
end Go.Proofs.YtcaoobdbgdldaaaDoor.Pure
