/-
  No cell of these rows narrows 'for every input' (looked for: loops, veiled, ifaces, maps, wideKeys, modest, calm, conditions, laid).
  DERIVED. THE GIVEN ROWS OF THIS SEAT. 12 by the template 'for every input the law returns true; each argument reads behind the call as it read before'; 0 by the template 'total and deterministic' (their statements: YthbccfgcemdgeaaTotals.lean).
  GIVEN WITH THE SEED: the statements are not yours to turn. If you find one false, say at which input.
  Laid BY PROGRAM, IN A SANDBOX (cutbox-rows.mjs): the forced cells as the released guide's own fill.sh prints them over the translation 7576a88bdb2ebb51… (all of the seat's roots in one cut). By AI agents, Wed Nov 11 2026. No macro, syntax, notation, axiom, sorry.
-/
import Derived.Test.YthbccfgcemdgeaaChecked
import GoSem.Claim
import GoSem.ClaimJoined
import GoSem.ClaimMapViews
import Derived.JoinedTies
import Derived.KernelRfl
namespace Go.Proofs.Ythbccfgcemdgeaa
/- THE CELL 'sum', in the pinned program and in every row, IS THE sha256 OF THE DUMP (.gsa) THAT YthbccfgcemdgeaaProg.lean LOADS. Nothing in Lean hashes anything: it is a label: what it is worth is what the hold of that sum in a sandbox is worth. -/
noncomputable def Try.pinned : Pinned := { name := "ythbccfgcemdgeaa", sum := "7576a88bdb2ebb51a1dcdb385e9396503dd984fd6c473ebb4bca497bc028b444", checked := Try.checked }
namespace Rows
def none {H : Type} : Left H := { results := [], args := [] }

/-- 'depotlaw06.UnitForces': WHATEVER THE INPUT: true; the input reads as it did. -/
def unitForcesSpec : ChangeSpec := { name := "unitForces", fn := fun _ => fun
  | [d1, d2, d3] => { results := [.lit (.bool true)], args := [d1, d2, d3] }
  | _ => none }
def unitForcesRow : OpenClaim := { program := "ythbccfgcemdgeaa", sum := "7576a88bdb2ebb51a1dcdb385e9396503dd984fd6c473ebb4bca497bc028b444", func := "depot/depotlaw06.UnitForces", spec := "unitForces", unfollowed := true, recurses := true, apart := false }
def UnitForcesSaid : Prop := unitForcesRow.holds Try.pinned (OpenSpec.ofChange unitForcesSpec)

/-- ITS FALSE NEIGHBOUR: 'it returns false'. Refute it at one input. -/
def unitForcesWrong : ChangeSpec := { name := "unitForces", fn := fun _ => fun
  | [d1, d2, d3] => { results := [.lit (.bool false)], args := [d1, d2, d3] }
  | _ => none }
def UnitForcesWrongFalsely : Prop := unitForcesRow.holds Try.pinned (OpenSpec.ofChange unitForcesWrong)

/-- 'depotlaw06.UnitNumbers': WHATEVER THE INPUT: true; the input reads as it did. -/
def unitNumbersSpec : ChangeSpec := { name := "unitNumbers", fn := fun _ => fun
  | [] => { results := [.lit (.bool true)], args := [] }
  | _ => none }
def unitNumbersRow : OpenClaim := { program := "ythbccfgcemdgeaa", sum := "7576a88bdb2ebb51a1dcdb385e9396503dd984fd6c473ebb4bca497bc028b444", func := "depot/depotlaw06.UnitNumbers", spec := "unitNumbers", unfollowed := true, recurses := true, apart := false }
def UnitNumbersSaid : Prop := unitNumbersRow.holds Try.pinned (OpenSpec.ofChange unitNumbersSpec)

/-- ITS FALSE NEIGHBOUR: 'it returns false'. Refute it at one input. -/
def unitNumbersWrong : ChangeSpec := { name := "unitNumbers", fn := fun _ => fun
  | [] => { results := [.lit (.bool false)], args := [] }
  | _ => none }
def UnitNumbersWrongFalsely : Prop := unitNumbersRow.holds Try.pinned (OpenSpec.ofChange unitNumbersWrong)

/-- 'depotlaw06.UnitCloses': WHATEVER THE INPUT: true; the input reads as it did. -/
def unitClosesSpec : ChangeSpec := { name := "unitCloses", fn := fun _ => fun
  | [d1, d2] => { results := [.lit (.bool true)], args := [d1, d2] }
  | _ => none }
def unitClosesRow : OpenClaim := { program := "ythbccfgcemdgeaa", sum := "7576a88bdb2ebb51a1dcdb385e9396503dd984fd6c473ebb4bca497bc028b444", func := "depot/depotlaw06.UnitCloses", spec := "unitCloses", unfollowed := true, recurses := true, apart := false }
def UnitClosesSaid : Prop := unitClosesRow.holds Try.pinned (OpenSpec.ofChange unitClosesSpec)

/-- ITS FALSE NEIGHBOUR: 'it returns false'. Refute it at one input. -/
def unitClosesWrong : ChangeSpec := { name := "unitCloses", fn := fun _ => fun
  | [d1, d2] => { results := [.lit (.bool false)], args := [d1, d2] }
  | _ => none }
def UnitClosesWrongFalsely : Prop := unitClosesRow.holds Try.pinned (OpenSpec.ofChange unitClosesWrong)

/-- 'depotlaw06.UnitOrders': WHATEVER THE INPUT: true; the input reads as it did. -/
def unitOrdersSpec : ChangeSpec := { name := "unitOrders", fn := fun _ => fun
  | [d1, d2, d3] => { results := [.lit (.bool true)], args := [d1, d2, d3] }
  | _ => none }
def unitOrdersRow : OpenClaim := { program := "ythbccfgcemdgeaa", sum := "7576a88bdb2ebb51a1dcdb385e9396503dd984fd6c473ebb4bca497bc028b444", func := "depot/depotlaw06.UnitOrders", spec := "unitOrders", unfollowed := true, recurses := true, apart := false }
def UnitOrdersSaid : Prop := unitOrdersRow.holds Try.pinned (OpenSpec.ofChange unitOrdersSpec)

/-- ITS FALSE NEIGHBOUR: 'it returns false'. Refute it at one input. -/
def unitOrdersWrong : ChangeSpec := { name := "unitOrders", fn := fun _ => fun
  | [d1, d2, d3] => { results := [.lit (.bool false)], args := [d1, d2, d3] }
  | _ => none }
def UnitOrdersWrongFalsely : Prop := unitOrdersRow.holds Try.pinned (OpenSpec.ofChange unitOrdersWrong)

/-- 'depotlaw06.UnitSound': WHATEVER THE INPUT: true; the input reads as it did. -/
def unitSoundSpec : ChangeSpec := { name := "unitSound", fn := fun _ => fun
  | [d1, d2, d3] => { results := [.lit (.bool true)], args := [d1, d2, d3] }
  | _ => none }
def unitSoundRow : OpenClaim := { program := "ythbccfgcemdgeaa", sum := "7576a88bdb2ebb51a1dcdb385e9396503dd984fd6c473ebb4bca497bc028b444", func := "depot/depotlaw06.UnitSound", spec := "unitSound", unfollowed := true, recurses := true, apart := false }
def UnitSoundSaid : Prop := unitSoundRow.holds Try.pinned (OpenSpec.ofChange unitSoundSpec)

/-- ITS FALSE NEIGHBOUR: 'it returns false'. Refute it at one input. -/
def unitSoundWrong : ChangeSpec := { name := "unitSound", fn := fun _ => fun
  | [d1, d2, d3] => { results := [.lit (.bool false)], args := [d1, d2, d3] }
  | _ => none }
def UnitSoundWrongFalsely : Prop := unitSoundRow.holds Try.pinned (OpenSpec.ofChange unitSoundWrong)

/-- 'depotlaw06.UnitGrows': WHATEVER THE INPUT: true; the input reads as it did. -/
def unitGrowsSpec : ChangeSpec := { name := "unitGrows", fn := fun _ => fun
  | [d1, d2, d3, d4] => { results := [.lit (.bool true)], args := [d1, d2, d3, d4] }
  | _ => none }
def unitGrowsRow : OpenClaim := { program := "ythbccfgcemdgeaa", sum := "7576a88bdb2ebb51a1dcdb385e9396503dd984fd6c473ebb4bca497bc028b444", func := "depot/depotlaw06.UnitGrows", spec := "unitGrows", unfollowed := true, recurses := true, apart := false }
def UnitGrowsSaid : Prop := unitGrowsRow.holds Try.pinned (OpenSpec.ofChange unitGrowsSpec)

/-- ITS FALSE NEIGHBOUR: 'it returns false'. Refute it at one input. -/
def unitGrowsWrong : ChangeSpec := { name := "unitGrows", fn := fun _ => fun
  | [d1, d2, d3, d4] => { results := [.lit (.bool false)], args := [d1, d2, d3, d4] }
  | _ => none }
def UnitGrowsWrongFalsely : Prop := unitGrowsRow.holds Try.pinned (OpenSpec.ofChange unitGrowsWrong)

/-- 'depotlaw08.RupFollows': WHATEVER THE INPUT: true; the input reads as it did. -/
def rupFollowsSpec : ChangeSpec := { name := "rupFollows", fn := fun _ => fun
  | [d1, d2] => { results := [.lit (.bool true)], args := [d1, d2] }
  | _ => none }
def rupFollowsRow : OpenClaim := { program := "ythbccfgcemdgeaa", sum := "7576a88bdb2ebb51a1dcdb385e9396503dd984fd6c473ebb4bca497bc028b444", func := "depot/depotlaw08.RupFollows", spec := "rupFollows", unfollowed := true, recurses := true, apart := false }
def RupFollowsSaid : Prop := rupFollowsRow.holds Try.pinned (OpenSpec.ofChange rupFollowsSpec)

/-- ITS FALSE NEIGHBOUR: 'it returns false'. Refute it at one input. -/
def rupFollowsWrong : ChangeSpec := { name := "rupFollows", fn := fun _ => fun
  | [d1, d2] => { results := [.lit (.bool false)], args := [d1, d2] }
  | _ => none }
def RupFollowsWrongFalsely : Prop := rupFollowsRow.holds Try.pinned (OpenSpec.ofChange rupFollowsWrong)

/-- 'depotlaw06.UnitProbes': WHATEVER THE INPUT: true; the input reads as it did. -/
def unitProbesSpec : ChangeSpec := { name := "unitProbes", fn := fun _ => fun
  | [d] => { results := [.lit (.bool true)], args := [d] }
  | _ => none }
def unitProbesRow : OpenClaim := { program := "ythbccfgcemdgeaa", sum := "7576a88bdb2ebb51a1dcdb385e9396503dd984fd6c473ebb4bca497bc028b444", func := "depot/depotlaw06.UnitProbes", spec := "unitProbes", unfollowed := true, recurses := true, apart := false }
def UnitProbesSaid : Prop := unitProbesRow.holds Try.pinned (OpenSpec.ofChange unitProbesSpec)

/-- ITS FALSE NEIGHBOUR: 'it returns false'. Refute it at one input. -/
def unitProbesWrong : ChangeSpec := { name := "unitProbes", fn := fun _ => fun
  | [d] => { results := [.lit (.bool false)], args := [d] }
  | _ => none }
def UnitProbesWrongFalsely : Prop := unitProbesRow.holds Try.pinned (OpenSpec.ofChange unitProbesWrong)

/-- 'depotlaw06.UnitStory': WHATEVER THE INPUT: true; the input reads as it did. -/
def unitStorySpec : ChangeSpec := { name := "unitStory", fn := fun _ => fun
  | [d1, d2] => { results := [.lit (.bool true)], args := [d1, d2] }
  | _ => none }
def unitStoryRow : OpenClaim := { program := "ythbccfgcemdgeaa", sum := "7576a88bdb2ebb51a1dcdb385e9396503dd984fd6c473ebb4bca497bc028b444", func := "depot/depotlaw06.UnitStory", spec := "unitStory", unfollowed := true, recurses := true, apart := false }
def UnitStorySaid : Prop := unitStoryRow.holds Try.pinned (OpenSpec.ofChange unitStorySpec)

/-- ITS FALSE NEIGHBOUR: 'it returns false'. Refute it at one input. -/
def unitStoryWrong : ChangeSpec := { name := "unitStory", fn := fun _ => fun
  | [d1, d2] => { results := [.lit (.bool false)], args := [d1, d2] }
  | _ => none }
def UnitStoryWrongFalsely : Prop := unitStoryRow.holds Try.pinned (OpenSpec.ofChange unitStoryWrong)

/-- 'depotlaw08.RupSafe': WHATEVER THE INPUT: true; the input reads as it did. -/
def rupSafeSpec : ChangeSpec := { name := "rupSafe", fn := fun _ => fun
  | [d1, d2] => { results := [.lit (.bool true)], args := [d1, d2] }
  | _ => none }
def rupSafeRow : OpenClaim := { program := "ythbccfgcemdgeaa", sum := "7576a88bdb2ebb51a1dcdb385e9396503dd984fd6c473ebb4bca497bc028b444", func := "depot/depotlaw08.RupSafe", spec := "rupSafe", unfollowed := true, recurses := true, apart := false }
def RupSafeSaid : Prop := rupSafeRow.holds Try.pinned (OpenSpec.ofChange rupSafeSpec)

/-- ITS FALSE NEIGHBOUR: 'it returns false'. Refute it at one input. -/
def rupSafeWrong : ChangeSpec := { name := "rupSafe", fn := fun _ => fun
  | [d1, d2] => { results := [.lit (.bool false)], args := [d1, d2] }
  | _ => none }
def RupSafeWrongFalsely : Prop := rupSafeRow.holds Try.pinned (OpenSpec.ofChange rupSafeWrong)

/-- 'depotlaw08.RupKinds': WHATEVER THE INPUT: true; the input reads as it did. -/
def rupKindsSpec : ChangeSpec := { name := "rupKinds", fn := fun _ => fun
  | [d1, d2] => { results := [.lit (.bool true)], args := [d1, d2] }
  | _ => none }
def rupKindsRow : OpenClaim := { program := "ythbccfgcemdgeaa", sum := "7576a88bdb2ebb51a1dcdb385e9396503dd984fd6c473ebb4bca497bc028b444", func := "depot/depotlaw08.RupKinds", spec := "rupKinds", unfollowed := true, recurses := true, apart := false }
def RupKindsSaid : Prop := rupKindsRow.holds Try.pinned (OpenSpec.ofChange rupKindsSpec)

/-- ITS FALSE NEIGHBOUR: 'it returns false'. Refute it at one input. -/
def rupKindsWrong : ChangeSpec := { name := "rupKinds", fn := fun _ => fun
  | [d1, d2] => { results := [.lit (.bool false)], args := [d1, d2] }
  | _ => none }
def RupKindsWrongFalsely : Prop := rupKindsRow.holds Try.pinned (OpenSpec.ofChange rupKindsWrong)

/-- 'depotlaw06.UnitKeeps': WHATEVER THE INPUT: true; the input reads as it did. -/
def unitKeepsSpec : ChangeSpec := { name := "unitKeeps", fn := fun _ => fun
  | [d] => { results := [.lit (.bool true)], args := [d] }
  | _ => none }
def unitKeepsRow : OpenClaim := { program := "ythbccfgcemdgeaa", sum := "7576a88bdb2ebb51a1dcdb385e9396503dd984fd6c473ebb4bca497bc028b444", func := "depot/depotlaw06.UnitKeeps", spec := "unitKeeps", unfollowed := true, recurses := true, apart := false }
def UnitKeepsSaid : Prop := unitKeepsRow.holds Try.pinned (OpenSpec.ofChange unitKeepsSpec)

/-- ITS FALSE NEIGHBOUR: 'it returns false'. Refute it at one input. -/
def unitKeepsWrong : ChangeSpec := { name := "unitKeeps", fn := fun _ => fun
  | [d] => { results := [.lit (.bool false)], args := [d] }
  | _ => none }
def UnitKeepsWrongFalsely : Prop := unitKeepsRow.holds Try.pinned (OpenSpec.ofChange unitKeepsWrong)

/- THE SECOND FORM. 'bulk': how many values and letters a reading holds, each counted each time it is reached (what is shared counts as often as it is met; a slice's spare places count too). A statement '..UptoSaid' is the law's where the arguments, and the package variables that the reading takes, are together of bulk at most 1048576: NARROWER than '..Said'. Prove '..Said' where nothing that the law and all that it calls make is longer than what came in: it says more and counts as full. Else prove '..UptoSaid'. A law counts once. -/
mutual
def uptoBulk {H : Type} : DataW H → Nat
  | .lit (.string bytes) => bytes.length + 1
  | .lit _ => 1
  | .nil => 1
  | .ptr d => uptoBulk d + 1
  | .slice elems spare => uptoBulkAll elems + uptoBulkAll spare + 1
  | .agg parts => uptoBulkAll parts + 1
  | .iface _ d => uptoBulk d + 1
  | .map entries => uptoBulkEntries entries + 1
  | .held _ => 1
def uptoBulkAll {H : Type} : List (DataW H) → Nat
  | [] => 0
  | d :: r => uptoBulk d + uptoBulkAll r
def uptoBulkEntries {H : Type} : List (Lit × DataW H) → Nat
  | [] => 0
  | x :: r => uptoBulkEntry x + uptoBulkEntries r
def uptoBulkEntry {H : Type} : Lit × DataW H → Nat
  | (.string bytes, d) => bytes.length + uptoBulk d + 1
  | (_, d) => uptoBulk d + 1
 end
def uptoSmall : (H : Type) → List (DataW H) → Bool := fun _ ds => decide (uptoBulkAll ds ≤ 1048576)
def OpenSpec.upto (s : _root_.Go.ChangeSpec) : _root_.Go.OpenSpec := { _root_.Go.OpenSpec.ofChange s with cond := some uptoSmall }

/-- 'depotlaw06.UnitForces', WHERE WHAT IT READS IS OF BULK AT MOST 1048576: true; the input reads as it did. -/
def unitForcesUptoRow : OpenClaim := { program := "ythbccfgcemdgeaa", sum := "7576a88bdb2ebb51a1dcdb385e9396503dd984fd6c473ebb4bca497bc028b444", func := "depot/depotlaw06.UnitForces", spec := "unitForces", unfollowed := true, recurses := true, apart := false, narrowed := true }
def UnitForcesUptoSaid : Prop := unitForcesUptoRow.holds Try.pinned (OpenSpec.upto unitForcesSpec)

/-- 'depotlaw06.UnitNumbers', WHERE WHAT IT READS IS OF BULK AT MOST 1048576: true; the input reads as it did. -/
def unitNumbersUptoRow : OpenClaim := { program := "ythbccfgcemdgeaa", sum := "7576a88bdb2ebb51a1dcdb385e9396503dd984fd6c473ebb4bca497bc028b444", func := "depot/depotlaw06.UnitNumbers", spec := "unitNumbers", unfollowed := true, recurses := true, apart := false, narrowed := true }
def UnitNumbersUptoSaid : Prop := unitNumbersUptoRow.holds Try.pinned (OpenSpec.upto unitNumbersSpec)

/-- 'depotlaw06.UnitCloses', WHERE WHAT IT READS IS OF BULK AT MOST 1048576: true; the input reads as it did. -/
def unitClosesUptoRow : OpenClaim := { program := "ythbccfgcemdgeaa", sum := "7576a88bdb2ebb51a1dcdb385e9396503dd984fd6c473ebb4bca497bc028b444", func := "depot/depotlaw06.UnitCloses", spec := "unitCloses", unfollowed := true, recurses := true, apart := false, narrowed := true }
def UnitClosesUptoSaid : Prop := unitClosesUptoRow.holds Try.pinned (OpenSpec.upto unitClosesSpec)

/-- 'depotlaw06.UnitOrders', WHERE WHAT IT READS IS OF BULK AT MOST 1048576: true; the input reads as it did. -/
def unitOrdersUptoRow : OpenClaim := { program := "ythbccfgcemdgeaa", sum := "7576a88bdb2ebb51a1dcdb385e9396503dd984fd6c473ebb4bca497bc028b444", func := "depot/depotlaw06.UnitOrders", spec := "unitOrders", unfollowed := true, recurses := true, apart := false, narrowed := true }
def UnitOrdersUptoSaid : Prop := unitOrdersUptoRow.holds Try.pinned (OpenSpec.upto unitOrdersSpec)

/-- 'depotlaw06.UnitSound', WHERE WHAT IT READS IS OF BULK AT MOST 1048576: true; the input reads as it did. -/
def unitSoundUptoRow : OpenClaim := { program := "ythbccfgcemdgeaa", sum := "7576a88bdb2ebb51a1dcdb385e9396503dd984fd6c473ebb4bca497bc028b444", func := "depot/depotlaw06.UnitSound", spec := "unitSound", unfollowed := true, recurses := true, apart := false, narrowed := true }
def UnitSoundUptoSaid : Prop := unitSoundUptoRow.holds Try.pinned (OpenSpec.upto unitSoundSpec)

/-- 'depotlaw06.UnitGrows', WHERE WHAT IT READS IS OF BULK AT MOST 1048576: true; the input reads as it did. -/
def unitGrowsUptoRow : OpenClaim := { program := "ythbccfgcemdgeaa", sum := "7576a88bdb2ebb51a1dcdb385e9396503dd984fd6c473ebb4bca497bc028b444", func := "depot/depotlaw06.UnitGrows", spec := "unitGrows", unfollowed := true, recurses := true, apart := false, narrowed := true }
def UnitGrowsUptoSaid : Prop := unitGrowsUptoRow.holds Try.pinned (OpenSpec.upto unitGrowsSpec)

/-- 'depotlaw08.RupFollows', WHERE WHAT IT READS IS OF BULK AT MOST 1048576: true; the input reads as it did. -/
def rupFollowsUptoRow : OpenClaim := { program := "ythbccfgcemdgeaa", sum := "7576a88bdb2ebb51a1dcdb385e9396503dd984fd6c473ebb4bca497bc028b444", func := "depot/depotlaw08.RupFollows", spec := "rupFollows", unfollowed := true, recurses := true, apart := false, narrowed := true }
def RupFollowsUptoSaid : Prop := rupFollowsUptoRow.holds Try.pinned (OpenSpec.upto rupFollowsSpec)

/-- 'depotlaw06.UnitProbes', WHERE WHAT IT READS IS OF BULK AT MOST 1048576: true; the input reads as it did. -/
def unitProbesUptoRow : OpenClaim := { program := "ythbccfgcemdgeaa", sum := "7576a88bdb2ebb51a1dcdb385e9396503dd984fd6c473ebb4bca497bc028b444", func := "depot/depotlaw06.UnitProbes", spec := "unitProbes", unfollowed := true, recurses := true, apart := false, narrowed := true }
def UnitProbesUptoSaid : Prop := unitProbesUptoRow.holds Try.pinned (OpenSpec.upto unitProbesSpec)

/-- 'depotlaw06.UnitStory', WHERE WHAT IT READS IS OF BULK AT MOST 1048576: true; the input reads as it did. -/
def unitStoryUptoRow : OpenClaim := { program := "ythbccfgcemdgeaa", sum := "7576a88bdb2ebb51a1dcdb385e9396503dd984fd6c473ebb4bca497bc028b444", func := "depot/depotlaw06.UnitStory", spec := "unitStory", unfollowed := true, recurses := true, apart := false, narrowed := true }
def UnitStoryUptoSaid : Prop := unitStoryUptoRow.holds Try.pinned (OpenSpec.upto unitStorySpec)

/-- 'depotlaw08.RupSafe', WHERE WHAT IT READS IS OF BULK AT MOST 1048576: true; the input reads as it did. -/
def rupSafeUptoRow : OpenClaim := { program := "ythbccfgcemdgeaa", sum := "7576a88bdb2ebb51a1dcdb385e9396503dd984fd6c473ebb4bca497bc028b444", func := "depot/depotlaw08.RupSafe", spec := "rupSafe", unfollowed := true, recurses := true, apart := false, narrowed := true }
def RupSafeUptoSaid : Prop := rupSafeUptoRow.holds Try.pinned (OpenSpec.upto rupSafeSpec)

/-- 'depotlaw08.RupKinds', WHERE WHAT IT READS IS OF BULK AT MOST 1048576: true; the input reads as it did. -/
def rupKindsUptoRow : OpenClaim := { program := "ythbccfgcemdgeaa", sum := "7576a88bdb2ebb51a1dcdb385e9396503dd984fd6c473ebb4bca497bc028b444", func := "depot/depotlaw08.RupKinds", spec := "rupKinds", unfollowed := true, recurses := true, apart := false, narrowed := true }
def RupKindsUptoSaid : Prop := rupKindsUptoRow.holds Try.pinned (OpenSpec.upto rupKindsSpec)

/-- 'depotlaw06.UnitKeeps', WHERE WHAT IT READS IS OF BULK AT MOST 1048576: true; the input reads as it did. -/
def unitKeepsUptoRow : OpenClaim := { program := "ythbccfgcemdgeaa", sum := "7576a88bdb2ebb51a1dcdb385e9396503dd984fd6c473ebb4bca497bc028b444", func := "depot/depotlaw06.UnitKeeps", spec := "unitKeeps", unfollowed := true, recurses := true, apart := false, narrowed := true }
def UnitKeepsUptoSaid : Prop := unitKeepsUptoRow.holds Try.pinned (OpenSpec.upto unitKeepsSpec)

end Rows
end Go.Proofs.Ythbccfgcemdgeaa
