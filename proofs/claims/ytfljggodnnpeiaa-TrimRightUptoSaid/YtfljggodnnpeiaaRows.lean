/-
  No cell of these rows narrows 'for every input' (looked for: loops, veiled, ifaces, maps, wideKeys, modest, calm, conditions, laid).
  DERIVED. THE GIVEN ROWS OF THIS SEAT. 7 by the template 'for every input the law returns true; each argument reads behind the call as it read before'; 0 by the template 'total and deterministic' (their statements: YtfljggodnnpeiaaTotals.lean).
  GIVEN WITH THE SEED: the statements are not yours to turn. If you find one false, say at which input.
  Laid BY PROGRAM, IN A SANDBOX (cutbox-rows.mjs): the forced cells as the released guide's own fill.sh prints them over the translation f9e85cfd14dd276c… (all of the seat's roots in one cut). By AI agents, Wed Nov 11 2026. No macro, syntax, notation, axiom, sorry.
-/
import Derived.Test.YtfljggodnnpeiaaChecked
import GoSem.Claim
import GoSem.ClaimJoined
import GoSem.ClaimMapViews
import Derived.JoinedTies
import Derived.KernelRfl
namespace Go.Proofs.Ytfljggodnnpeiaa
/- THE CELL 'sum', in the pinned program and in every row, IS THE sha256 OF THE DUMP (.gsa) THAT YtfljggodnnpeiaaProg.lean LOADS. Nothing in Lean hashes anything: it is a label: what it is worth is what the hold of that sum in a sandbox is worth. -/
noncomputable def Try.pinned : Pinned := { name := "ytfljggodnnpeiaa", sum := "f9e85cfd14dd276c04f61f36f1dae7d58efbbb5b78ee8af28c754d6c802f191c", checked := Try.checked }
namespace Rows
def none {H : Type} : Left H := { results := [], args := [] }

/-- 'depotlaw06.UnitKeeps': WHATEVER THE INPUT: true; the input reads as it did. -/
def unitKeepsSpec : ChangeSpec := { name := "unitKeeps", fn := fun _ => fun
  | [d] => { results := [.lit (.bool true)], args := [d] }
  | _ => none }
def unitKeepsRow : OpenClaim := { program := "ytfljggodnnpeiaa", sum := "f9e85cfd14dd276c04f61f36f1dae7d58efbbb5b78ee8af28c754d6c802f191c", func := "depot/depotlaw06.UnitKeeps", spec := "unitKeeps", unfollowed := true, recurses := true, apart := false }
def UnitKeepsSaid : Prop := unitKeepsRow.holds Try.pinned (OpenSpec.ofChange unitKeepsSpec)

/-- ITS FALSE NEIGHBOUR: 'it returns false'. Refute it at one input. -/
def unitKeepsWrong : ChangeSpec := { name := "unitKeeps", fn := fun _ => fun
  | [d] => { results := [.lit (.bool false)], args := [d] }
  | _ => none }
def UnitKeepsWrongFalsely : Prop := unitKeepsRow.holds Try.pinned (OpenSpec.ofChange unitKeepsWrong)

/-- 'depotlaw08.RupKeeps': WHATEVER THE INPUT: true; the input reads as it did. -/
def rupKeepsSpec : ChangeSpec := { name := "rupKeeps", fn := fun _ => fun
  | [d1, d2, d3] => { results := [.lit (.bool true)], args := [d1, d2, d3] }
  | _ => none }
def rupKeepsRow : OpenClaim := { program := "ytfljggodnnpeiaa", sum := "f9e85cfd14dd276c04f61f36f1dae7d58efbbb5b78ee8af28c754d6c802f191c", func := "depot/depotlaw08.RupKeeps", spec := "rupKeeps", unfollowed := true, recurses := true, apart := false }
def RupKeepsSaid : Prop := rupKeepsRow.holds Try.pinned (OpenSpec.ofChange rupKeepsSpec)

/-- ITS FALSE NEIGHBOUR: 'it returns false'. Refute it at one input. -/
def rupKeepsWrong : ChangeSpec := { name := "rupKeeps", fn := fun _ => fun
  | [d1, d2, d3] => { results := [.lit (.bool false)], args := [d1, d2, d3] }
  | _ => none }
def RupKeepsWrongFalsely : Prop := rupKeepsRow.holds Try.pinned (OpenSpec.ofChange rupKeepsWrong)

/-- 'depotlaw15.LearnFollows': WHATEVER THE INPUT: true; the input reads as it did. -/
def learnFollowsSpec : ChangeSpec := { name := "learnFollows", fn := fun _ => fun
  | [d1, d2] => { results := [.lit (.bool true)], args := [d1, d2] }
  | _ => none }
def learnFollowsRow : OpenClaim := { program := "ytfljggodnnpeiaa", sum := "f9e85cfd14dd276c04f61f36f1dae7d58efbbb5b78ee8af28c754d6c802f191c", func := "depot/depotlaw15.LearnFollows", spec := "learnFollows", unfollowed := true, recurses := true, apart := false }
def LearnFollowsSaid : Prop := learnFollowsRow.holds Try.pinned (OpenSpec.ofChange learnFollowsSpec)

/-- ITS FALSE NEIGHBOUR: 'it returns false'. Refute it at one input. -/
def learnFollowsWrong : ChangeSpec := { name := "learnFollows", fn := fun _ => fun
  | [d1, d2] => { results := [.lit (.bool false)], args := [d1, d2] }
  | _ => none }
def LearnFollowsWrongFalsely : Prop := learnFollowsRow.holds Try.pinned (OpenSpec.ofChange learnFollowsWrong)

/-- 'depotlaw15.LearnLess': WHATEVER THE INPUT: true; the input reads as it did. -/
def learnLessSpec : ChangeSpec := { name := "learnLess", fn := fun _ => fun
  | [d1, d2] => { results := [.lit (.bool true)], args := [d1, d2] }
  | _ => none }
def learnLessRow : OpenClaim := { program := "ytfljggodnnpeiaa", sum := "f9e85cfd14dd276c04f61f36f1dae7d58efbbb5b78ee8af28c754d6c802f191c", func := "depot/depotlaw15.LearnLess", spec := "learnLess", unfollowed := true, recurses := true, apart := false }
def LearnLessSaid : Prop := learnLessRow.holds Try.pinned (OpenSpec.ofChange learnLessSpec)

/-- ITS FALSE NEIGHBOUR: 'it returns false'. Refute it at one input. -/
def learnLessWrong : ChangeSpec := { name := "learnLess", fn := fun _ => fun
  | [d1, d2] => { results := [.lit (.bool false)], args := [d1, d2] }
  | _ => none }
def LearnLessWrongFalsely : Prop := learnLessRow.holds Try.pinned (OpenSpec.ofChange learnLessWrong)

/-- 'depotlaw12.TrimNumbers': WHATEVER THE INPUT: true; the input reads as it did. -/
def trimNumbersSpec : ChangeSpec := { name := "trimNumbers", fn := fun _ => fun
  | [] => { results := [.lit (.bool true)], args := [] }
  | _ => none }
def trimNumbersRow : OpenClaim := { program := "ytfljggodnnpeiaa", sum := "f9e85cfd14dd276c04f61f36f1dae7d58efbbb5b78ee8af28c754d6c802f191c", func := "depot/depotlaw12.TrimNumbers", spec := "trimNumbers", unfollowed := true, recurses := true, apart := false }
def TrimNumbersSaid : Prop := trimNumbersRow.holds Try.pinned (OpenSpec.ofChange trimNumbersSpec)

/-- ITS FALSE NEIGHBOUR: 'it returns false'. Refute it at one input. -/
def trimNumbersWrong : ChangeSpec := { name := "trimNumbers", fn := fun _ => fun
  | [] => { results := [.lit (.bool false)], args := [] }
  | _ => none }
def TrimNumbersWrongFalsely : Prop := trimNumbersRow.holds Try.pinned (OpenSpec.ofChange trimNumbersWrong)

/-- 'depotlaw12.TrimRight': WHATEVER THE INPUT: true; the input reads as it did. -/
def trimRightSpec : ChangeSpec := { name := "trimRight", fn := fun _ => fun
  | [d1, d2] => { results := [.lit (.bool true)], args := [d1, d2] }
  | _ => none }
def trimRightRow : OpenClaim := { program := "ytfljggodnnpeiaa", sum := "f9e85cfd14dd276c04f61f36f1dae7d58efbbb5b78ee8af28c754d6c802f191c", func := "depot/depotlaw12.TrimRight", spec := "trimRight", unfollowed := true, recurses := true, apart := false }
def TrimRightSaid : Prop := trimRightRow.holds Try.pinned (OpenSpec.ofChange trimRightSpec)

/-- ITS FALSE NEIGHBOUR: 'it returns false'. Refute it at one input. -/
def trimRightWrong : ChangeSpec := { name := "trimRight", fn := fun _ => fun
  | [d1, d2] => { results := [.lit (.bool false)], args := [d1, d2] }
  | _ => none }
def TrimRightWrongFalsely : Prop := trimRightRow.holds Try.pinned (OpenSpec.ofChange trimRightWrong)

/-- 'depotlaw12.TrimAgain': WHATEVER THE INPUT: true; the input reads as it did. -/
def trimAgainSpec : ChangeSpec := { name := "trimAgain", fn := fun _ => fun
  | [d1, d2, d3, d4, d5] => { results := [.lit (.bool true)], args := [d1, d2, d3, d4, d5] }
  | _ => none }
def trimAgainRow : OpenClaim := { program := "ytfljggodnnpeiaa", sum := "f9e85cfd14dd276c04f61f36f1dae7d58efbbb5b78ee8af28c754d6c802f191c", func := "depot/depotlaw12.TrimAgain", spec := "trimAgain", unfollowed := true, recurses := true, apart := false }
def TrimAgainSaid : Prop := trimAgainRow.holds Try.pinned (OpenSpec.ofChange trimAgainSpec)

/-- ITS FALSE NEIGHBOUR: 'it returns false'. Refute it at one input. -/
def trimAgainWrong : ChangeSpec := { name := "trimAgain", fn := fun _ => fun
  | [d1, d2, d3, d4, d5] => { results := [.lit (.bool false)], args := [d1, d2, d3, d4, d5] }
  | _ => none }
def TrimAgainWrongFalsely : Prop := trimAgainRow.holds Try.pinned (OpenSpec.ofChange trimAgainWrong)

/- THE SECOND FORM. 'bulk': how many values and letters a reading holds, each counted each time it is reached (what is shared counts as often as it is met; a slice's spare places count too). A statement '..UptoSaid' is the law's where the arguments, and the package variables that the reading takes, are together of bulk at most 1048576: NARROWER than '..Said'. Prove '..Said' where nothing that the law and all that it calls make is longer than what came in: it says more and counts as full. Else prove '..UptoSaid'. A law counts once. -/
mutual
def uptoBulk {H : Type} : DataW H → Nat
  | .lit (.string bytes) => bytes.length + 1
  | .lit _ => 1
  | .nil => 1
  | .ptr d => uptoBulk d + 1
  | .slice elems spare => uptoBulkAll elems + uptoBulkAll spare + 1
  | .agg parts => uptoBulkAll parts + 1
  | .iface _ d => uptoBulk d + 1
  | .map entries => uptoBulkEntries entries + 1
  | .held _ => 1
def uptoBulkAll {H : Type} : List (DataW H) → Nat
  | [] => 0
  | d :: r => uptoBulk d + uptoBulkAll r
def uptoBulkEntries {H : Type} : List (Lit × DataW H) → Nat
  | [] => 0
  | x :: r => uptoBulkEntry x + uptoBulkEntries r
def uptoBulkEntry {H : Type} : Lit × DataW H → Nat
  | (.string bytes, d) => bytes.length + uptoBulk d + 1
  | (_, d) => uptoBulk d + 1
 end
def uptoSmall : (H : Type) → List (DataW H) → Bool := fun _ ds => decide (uptoBulkAll ds ≤ 1048576)
def OpenSpec.upto (s : _root_.Go.ChangeSpec) : _root_.Go.OpenSpec := { _root_.Go.OpenSpec.ofChange s with cond := some uptoSmall }

/-- 'depotlaw06.UnitKeeps', WHERE WHAT IT READS IS OF BULK AT MOST 1048576: true; the input reads as it did. -/
def unitKeepsUptoRow : OpenClaim := { program := "ytfljggodnnpeiaa", sum := "f9e85cfd14dd276c04f61f36f1dae7d58efbbb5b78ee8af28c754d6c802f191c", func := "depot/depotlaw06.UnitKeeps", spec := "unitKeeps", unfollowed := true, recurses := true, apart := false, narrowed := true }
def UnitKeepsUptoSaid : Prop := unitKeepsUptoRow.holds Try.pinned (OpenSpec.upto unitKeepsSpec)

/-- 'depotlaw08.RupKeeps', WHERE WHAT IT READS IS OF BULK AT MOST 1048576: true; the input reads as it did. -/
def rupKeepsUptoRow : OpenClaim := { program := "ytfljggodnnpeiaa", sum := "f9e85cfd14dd276c04f61f36f1dae7d58efbbb5b78ee8af28c754d6c802f191c", func := "depot/depotlaw08.RupKeeps", spec := "rupKeeps", unfollowed := true, recurses := true, apart := false, narrowed := true }
def RupKeepsUptoSaid : Prop := rupKeepsUptoRow.holds Try.pinned (OpenSpec.upto rupKeepsSpec)

/-- 'depotlaw15.LearnFollows', WHERE WHAT IT READS IS OF BULK AT MOST 1048576: true; the input reads as it did. -/
def learnFollowsUptoRow : OpenClaim := { program := "ytfljggodnnpeiaa", sum := "f9e85cfd14dd276c04f61f36f1dae7d58efbbb5b78ee8af28c754d6c802f191c", func := "depot/depotlaw15.LearnFollows", spec := "learnFollows", unfollowed := true, recurses := true, apart := false, narrowed := true }
def LearnFollowsUptoSaid : Prop := learnFollowsUptoRow.holds Try.pinned (OpenSpec.upto learnFollowsSpec)

/-- 'depotlaw15.LearnLess', WHERE WHAT IT READS IS OF BULK AT MOST 1048576: true; the input reads as it did. -/
def learnLessUptoRow : OpenClaim := { program := "ytfljggodnnpeiaa", sum := "f9e85cfd14dd276c04f61f36f1dae7d58efbbb5b78ee8af28c754d6c802f191c", func := "depot/depotlaw15.LearnLess", spec := "learnLess", unfollowed := true, recurses := true, apart := false, narrowed := true }
def LearnLessUptoSaid : Prop := learnLessUptoRow.holds Try.pinned (OpenSpec.upto learnLessSpec)

/-- 'depotlaw12.TrimNumbers', WHERE WHAT IT READS IS OF BULK AT MOST 1048576: true; the input reads as it did. -/
def trimNumbersUptoRow : OpenClaim := { program := "ytfljggodnnpeiaa", sum := "f9e85cfd14dd276c04f61f36f1dae7d58efbbb5b78ee8af28c754d6c802f191c", func := "depot/depotlaw12.TrimNumbers", spec := "trimNumbers", unfollowed := true, recurses := true, apart := false, narrowed := true }
def TrimNumbersUptoSaid : Prop := trimNumbersUptoRow.holds Try.pinned (OpenSpec.upto trimNumbersSpec)

/-- 'depotlaw12.TrimRight', WHERE WHAT IT READS IS OF BULK AT MOST 1048576: true; the input reads as it did. -/
def trimRightUptoRow : OpenClaim := { program := "ytfljggodnnpeiaa", sum := "f9e85cfd14dd276c04f61f36f1dae7d58efbbb5b78ee8af28c754d6c802f191c", func := "depot/depotlaw12.TrimRight", spec := "trimRight", unfollowed := true, recurses := true, apart := false, narrowed := true }
def TrimRightUptoSaid : Prop := trimRightUptoRow.holds Try.pinned (OpenSpec.upto trimRightSpec)

/-- 'depotlaw12.TrimAgain', WHERE WHAT IT READS IS OF BULK AT MOST 1048576: true; the input reads as it did. -/
def trimAgainUptoRow : OpenClaim := { program := "ytfljggodnnpeiaa", sum := "f9e85cfd14dd276c04f61f36f1dae7d58efbbb5b78ee8af28c754d6c802f191c", func := "depot/depotlaw12.TrimAgain", spec := "trimAgain", unfollowed := true, recurses := true, apart := false, narrowed := true }
def TrimAgainUptoSaid : Prop := trimAgainUptoRow.holds Try.pinned (OpenSpec.upto trimAgainSpec)

end Rows
end Go.Proofs.Ytfljggodnnpeiaa
