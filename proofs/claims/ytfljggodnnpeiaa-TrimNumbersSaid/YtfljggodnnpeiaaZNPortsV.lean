/- Part of the proof of TrimNumbers: what the law uses of the text PortsV. -/
import Derived.Test.YtfljggodnnpeiaaZNTrL
namespace Go.Proofs.Ytfljggodnnpeiaa.P
open Go.RowKit Go.Proofs.YtfljggodnnpeiaaW.PrintWords
set_option linter.unusedVariables false

def Few (cs : List (List Int)) : Prop := cs.length ≤ 2097152 ∧ ∀ c ∈ cs, c.length ≤ 2097152
instance (cs : List (List Int)) : Decidable (Few cs) := inferInstanceAs (Decidable (_ ∧ _))
def pairs (l : List S79) : List (Bool × List Int) := l.map fun s => (s.f0, s.f1)
theorem sf_of_C {w : World} {A : Option Addr} {l : List S79} (h : Kd.C k79 w A l.length l) : Trm.SF w A (pairs l) := fun k hk => by
  have hk' : k < l.length := by simpa [pairs] using hk
  obtain ⟨ad, A1, c1, e, h1, h2, hc1, h3⟩ := at_T79 h (k : Int) (by omega) (by omega)
  have e2 : (pairs l).getD k (false, []) = ((rd_T79 l (k : Int)).f0, (rd_T79 l (k : Int)).f1) := by
    unfold rd_T79 pairs
    rw [Int.toNat_natCast, List.getD_eq_getElem?_getD, List.getElem?_map, List.getD_eq_getElem?_getD, List.getElem?_eq_getElem hk']
    rfl
  rw [e2]
  rw [Int.toNat_natCast] at h1 h2
  exact ⟨ad, A1, c1, e, h1, h2, hc1, fun W' hW => (Kd.heap_int .i64).C (fun k hk => hW k hk hk) h3⟩
def trim_Trim.f (v : Int) (cs : List (List Int)) (l : List S79) : Option (List Int × List S79 × Int) :=
  if Few cs ∧ Few (l.map (·.f1)) then some ((Trm.trimR v cs (pairs l)).1, Trm.stepsL (Trm.trimR v cs (pairs l)).2.1, (Trm.trimR v cs (pairs l)).2.2) else none
theorem trim_Trim.calls (a0_0 : Int) (A0_1 : Option Addr) (c0_1 : Nat) (l0_1 : List (List Int)) (A1 : Option Addr) (c1 : Nat) (l1 : List S79) (r1 : List Int) (r2 : List S79) (r3 : Int) (w : World)
    (hr0_1 : Kd.C (Kd.slice 3 (Kd.int .i64)) w A0_1 l0_1.length l0_1) (hc0_1 : l0_1.length ≤ c0_1) (hr1 : Kd.C k79 w A1 l1.length l1) (hc1 : l1.length ≤ c1) (h : trim_Trim.f a0_0 l0_1 l1 = some (r1, r2, r3)) :
    Calls Try.prog 44 #[.agg #[.int .i64 a0_0, .slice A0_1 l0_1.length c0_1], .slice A1 l1.length c1] w fun e w' => ∃ v0_ v1_ : Value, e = .returned (.tuple #[v0_, v1_, .int .i64 r3]) ∧ Kd.R (Kd.int .i64) 3 w' w.heap.size (fun _ => True) v0_ r1 ∧ Kd.S k79 79 w' w.heap.size (fun k_ => some k_ ≠ (v0_ : Value).ownBlock) v1_ r2 ∧ Below w.heap.size w w' := by
  unfold trim_Trim.f at h
  split at h
  · rename_i hF
    have hR := Option.some.inj h
    simp only [Prod.mk.injEq] at hR
    obtain ⟨rfl, rfl, rfl⟩ := hR
    have hl : (pairs l1).length = l1.length := List.length_map _
    have h := Trm.trim_any a0_0 A0_1 c0_1 l0_1 A1 c1 (pairs l1) w hr0_1 (sf_of_C hr1) hF.1.1 (fun x hx => by have := hF.1.2 x hx; omega) (by rw [hl]; have := hF.2.1; simpa using this) (fun s hs => by
      obtain ⟨t, ht, rfl⟩ := List.mem_map.1 hs
      have := hF.2.2 _ (List.mem_map_of_mem ht)
      show t.f1.length ≤ _
      omega)
    rw [hl] at h
    exact h
  · cases h
end Go.Proofs.Ytfljggodnnpeiaa.P
