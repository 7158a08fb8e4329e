/-
  No cell of these rows narrows 'for every input' (looked for: loops, veiled, ifaces, maps, wideKeys, modest, calm, conditions, laid).
  DERIVED. THE GIVEN ROWS OF THIS SEAT. 8 by the template 'for every input the law returns true; each argument reads behind the call as it read before'; 0 by the template 'total and deterministic' (their statements: YtpdblaldndmdoaaTotals.lean).
  GIVEN WITH THE SEED: the statements are not yours to turn. If you find one false, say at which input.
  Laid BY PROGRAM, IN A SANDBOX (cutbox-rows.mjs): the forced cells as the released guide's own fill.sh prints them over the translation 42d849cb3a4b9ac5… (all of the seat's roots in one cut). By AI agents, Wed Nov 11 2026. No macro, syntax, notation, axiom, sorry.
-/
import Derived.Test.YtpdblaldndmdoaaChecked
import GoSem.Claim
import GoSem.ClaimJoined
import GoSem.ClaimMapViews
import Derived.JoinedTies
import Derived.KernelRfl
namespace Go.Proofs.Ytpdblaldndmdoaa
/- THE CELL 'sum', in the pinned program and in every row, IS THE sha256 OF THE DUMP (.gsa) THAT YtpdblaldndmdoaaProg.lean LOADS. Nothing in Lean hashes anything: it is a label: what it is worth is what the hold of that sum in a sandbox is worth. -/
noncomputable def Try.pinned : Pinned := { name := "ytpdblaldndmdoaa", sum := "42d849cb3a4b9ac565ef66db3ab07ebb13253fd43f6a3ca554e5865255ce5f92", checked := Try.checked }
namespace Rows
def none {H : Type} : Left H := { results := [], args := [] }

/-- 'laws.FnExactSameGraph': WHATEVER THE INPUT: true; the input reads as it did. -/
def fnExactSameGraphSpec : ChangeSpec := { name := "fnExactSameGraph", fn := fun _ => fun
  | [d1, d2] => { results := [.lit (.bool true)], args := [d1, d2] }
  | _ => none }
def fnExactSameGraphRow : OpenClaim := { program := "ytpdblaldndmdoaa", sum := "42d849cb3a4b9ac565ef66db3ab07ebb13253fd43f6a3ca554e5865255ce5f92", func := "loop.example/g01364/laws.FnExactSameGraph", spec := "fnExactSameGraph", unfollowed := true, recurses := true, apart := false }
def FnExactSameGraphSaid : Prop := fnExactSameGraphRow.holds Try.pinned (OpenSpec.ofChange fnExactSameGraphSpec)

/-- ITS FALSE NEIGHBOUR: 'it returns false'. Refute it at one input. -/
def fnExactSameGraphWrong : ChangeSpec := { name := "fnExactSameGraph", fn := fun _ => fun
  | [d1, d2] => { results := [.lit (.bool false)], args := [d1, d2] }
  | _ => none }
def FnExactSameGraphWrongFalsely : Prop := fnExactSameGraphRow.holds Try.pinned (OpenSpec.ofChange fnExactSameGraphWrong)

/-- 'laws.FnExactIsMember': WHATEVER THE INPUT: true; the input reads as it did. -/
def fnExactIsMemberSpec : ChangeSpec := { name := "fnExactIsMember", fn := fun _ => fun
  | [d1, d2] => { results := [.lit (.bool true)], args := [d1, d2] }
  | _ => none }
def fnExactIsMemberRow : OpenClaim := { program := "ytpdblaldndmdoaa", sum := "42d849cb3a4b9ac565ef66db3ab07ebb13253fd43f6a3ca554e5865255ce5f92", func := "loop.example/g01364/laws.FnExactIsMember", spec := "fnExactIsMember", unfollowed := true, recurses := true, apart := false }
def FnExactIsMemberSaid : Prop := fnExactIsMemberRow.holds Try.pinned (OpenSpec.ofChange fnExactIsMemberSpec)

/-- ITS FALSE NEIGHBOUR: 'it returns false'. Refute it at one input. -/
def fnExactIsMemberWrong : ChangeSpec := { name := "fnExactIsMember", fn := fun _ => fun
  | [d1, d2] => { results := [.lit (.bool false)], args := [d1, d2] }
  | _ => none }
def FnExactIsMemberWrongFalsely : Prop := fnExactIsMemberRow.holds Try.pinned (OpenSpec.ofChange fnExactIsMemberWrong)

/-- 'laws.FnExactSendBits': WHATEVER THE INPUT: true; the input reads as it did. -/
def fnExactSendBitsSpec : ChangeSpec := { name := "fnExactSendBits", fn := fun _ => fun
  | [d1, d2] => { results := [.lit (.bool true)], args := [d1, d2] }
  | _ => none }
def fnExactSendBitsRow : OpenClaim := { program := "ytpdblaldndmdoaa", sum := "42d849cb3a4b9ac565ef66db3ab07ebb13253fd43f6a3ca554e5865255ce5f92", func := "loop.example/g01364/laws.FnExactSendBits", spec := "fnExactSendBits", apart := false }
def FnExactSendBitsSaid : Prop := fnExactSendBitsRow.holds Try.pinned (OpenSpec.ofChange fnExactSendBitsSpec)

/-- ITS FALSE NEIGHBOUR: 'it returns false'. Refute it at one input. -/
def fnExactSendBitsWrong : ChangeSpec := { name := "fnExactSendBits", fn := fun _ => fun
  | [d1, d2] => { results := [.lit (.bool false)], args := [d1, d2] }
  | _ => none }
def FnExactSendBitsWrongFalsely : Prop := fnExactSendBitsRow.holds Try.pinned (OpenSpec.ofChange fnExactSendBitsWrong)

/-- 'laws.FnExactPointsOf': WHATEVER THE INPUT: true; the input reads as it did. -/
def fnExactPointsOfSpec : ChangeSpec := { name := "fnExactPointsOf", fn := fun _ => fun
  | [d] => { results := [.lit (.bool true)], args := [d] }
  | _ => none }
def fnExactPointsOfRow : OpenClaim := { program := "ytpdblaldndmdoaa", sum := "42d849cb3a4b9ac565ef66db3ab07ebb13253fd43f6a3ca554e5865255ce5f92", func := "loop.example/g01364/laws.FnExactPointsOf", spec := "fnExactPointsOf", unfollowed := true, recurses := true, apart := false }
def FnExactPointsOfSaid : Prop := fnExactPointsOfRow.holds Try.pinned (OpenSpec.ofChange fnExactPointsOfSpec)

/-- ITS FALSE NEIGHBOUR: 'it returns false'. Refute it at one input. -/
def fnExactPointsOfWrong : ChangeSpec := { name := "fnExactPointsOf", fn := fun _ => fun
  | [d] => { results := [.lit (.bool false)], args := [d] }
  | _ => none }
def FnExactPointsOfWrongFalsely : Prop := fnExactPointsOfRow.holds Try.pinned (OpenSpec.ofChange fnExactPointsOfWrong)

/-- 'laws.FnExactValidSaved': WHATEVER THE INPUT: true; the input reads as it did. -/
def fnExactValidSavedSpec : ChangeSpec := { name := "fnExactValidSaved", fn := fun _ => fun
  | [d] => { results := [.lit (.bool true)], args := [d] }
  | _ => none }
def fnExactValidSavedRow : OpenClaim := { program := "ytpdblaldndmdoaa", sum := "42d849cb3a4b9ac565ef66db3ab07ebb13253fd43f6a3ca554e5865255ce5f92", func := "loop.example/g01364/laws.FnExactValidSaved", spec := "fnExactValidSaved", unfollowed := true, recurses := true, apart := false }
def FnExactValidSavedSaid : Prop := fnExactValidSavedRow.holds Try.pinned (OpenSpec.ofChange fnExactValidSavedSpec)

/-- ITS FALSE NEIGHBOUR: 'it returns false'. Refute it at one input. -/
def fnExactValidSavedWrong : ChangeSpec := { name := "fnExactValidSaved", fn := fun _ => fun
  | [d] => { results := [.lit (.bool false)], args := [d] }
  | _ => none }
def FnExactValidSavedWrongFalsely : Prop := fnExactValidSavedRow.holds Try.pinned (OpenSpec.ofChange fnExactValidSavedWrong)

/-- 'laws.FnExactPeelDrops': WHATEVER THE INPUT: true; the input reads as it did. -/
def fnExactPeelDropsSpec : ChangeSpec := { name := "fnExactPeelDrops", fn := fun _ => fun
  | [d1, d2, d3] => { results := [.lit (.bool true)], args := [d1, d2, d3] }
  | _ => none }
def fnExactPeelDropsRow : OpenClaim := { program := "ytpdblaldndmdoaa", sum := "42d849cb3a4b9ac565ef66db3ab07ebb13253fd43f6a3ca554e5865255ce5f92", func := "loop.example/g01364/laws.FnExactPeelDrops", spec := "fnExactPeelDrops", apart := false }
def FnExactPeelDropsSaid : Prop := fnExactPeelDropsRow.holds Try.pinned (OpenSpec.ofChange fnExactPeelDropsSpec)

/-- ITS FALSE NEIGHBOUR: 'it returns false'. Refute it at one input. -/
def fnExactPeelDropsWrong : ChangeSpec := { name := "fnExactPeelDrops", fn := fun _ => fun
  | [d1, d2, d3] => { results := [.lit (.bool false)], args := [d1, d2, d3] }
  | _ => none }
def FnExactPeelDropsWrongFalsely : Prop := fnExactPeelDropsRow.holds Try.pinned (OpenSpec.ofChange fnExactPeelDropsWrong)

/-- 'laws.FnExactFlipRounds': WHATEVER THE INPUT: true; the input reads as it did. -/
def fnExactFlipRoundsSpec : ChangeSpec := { name := "fnExactFlipRounds", fn := fun _ => fun
  | [d1, d2, d3] => { results := [.lit (.bool true)], args := [d1, d2, d3] }
  | _ => none }
def fnExactFlipRoundsRow : OpenClaim := { program := "ytpdblaldndmdoaa", sum := "42d849cb3a4b9ac565ef66db3ab07ebb13253fd43f6a3ca554e5865255ce5f92", func := "loop.example/g01364/laws.FnExactFlipRounds", spec := "fnExactFlipRounds", unfollowed := true, recurses := true, apart := false }
def FnExactFlipRoundsSaid : Prop := fnExactFlipRoundsRow.holds Try.pinned (OpenSpec.ofChange fnExactFlipRoundsSpec)

/-- ITS FALSE NEIGHBOUR: 'it returns false'. Refute it at one input. -/
def fnExactFlipRoundsWrong : ChangeSpec := { name := "fnExactFlipRounds", fn := fun _ => fun
  | [d1, d2, d3] => { results := [.lit (.bool false)], args := [d1, d2, d3] }
  | _ => none }
def FnExactFlipRoundsWrongFalsely : Prop := fnExactFlipRoundsRow.holds Try.pinned (OpenSpec.ofChange fnExactFlipRoundsWrong)

/-- 'laws.FnExactSameDesk': WHATEVER THE INPUT: true; the input reads as it did. -/
def fnExactSameDeskSpec : ChangeSpec := { name := "fnExactSameDesk", fn := fun _ => fun
  | [d1, d2] => { results := [.lit (.bool true)], args := [d1, d2] }
  | _ => none }
def fnExactSameDeskRow : OpenClaim := { program := "ytpdblaldndmdoaa", sum := "42d849cb3a4b9ac565ef66db3ab07ebb13253fd43f6a3ca554e5865255ce5f92", func := "loop.example/g01364/laws.FnExactSameDesk", spec := "fnExactSameDesk", inPlace := ["math.Float32bits", "math.Float64bits"], unfollowed := true, recurses := true, apart := false }
def FnExactSameDeskSaid : Prop := fnExactSameDeskRow.holds Try.pinned (OpenSpec.ofChange fnExactSameDeskSpec)

/-- ITS FALSE NEIGHBOUR: 'it returns false'. Refute it at one input. -/
def fnExactSameDeskWrong : ChangeSpec := { name := "fnExactSameDesk", fn := fun _ => fun
  | [d1, d2] => { results := [.lit (.bool false)], args := [d1, d2] }
  | _ => none }
def FnExactSameDeskWrongFalsely : Prop := fnExactSameDeskRow.holds Try.pinned (OpenSpec.ofChange fnExactSameDeskWrong)

/- THE SECOND FORM. 'bulk': how many values and letters a reading holds, each counted each time it is reached (what is shared counts as often as it is met; a slice's spare places count too). A statement '..UptoSaid' is the law's where the arguments, and the package variables that the reading takes, are together of bulk at most 1048576: NARROWER than '..Said'. Prove '..Said' where nothing that the law and all that it calls make is longer than what came in: it says more and counts as full. Else prove '..UptoSaid'. A law counts once. -/
mutual
def uptoBulk {H : Type} : DataW H → Nat
  | .lit (.string bytes) => bytes.length + 1
  | .lit _ => 1
  | .nil => 1
  | .ptr d => uptoBulk d + 1
  | .slice elems spare => uptoBulkAll elems + uptoBulkAll spare + 1
  | .agg parts => uptoBulkAll parts + 1
  | .iface _ d => uptoBulk d + 1
  | .map entries => uptoBulkEntries entries + 1
  | .held _ => 1
def uptoBulkAll {H : Type} : List (DataW H) → Nat
  | [] => 0
  | d :: r => uptoBulk d + uptoBulkAll r
def uptoBulkEntries {H : Type} : List (Lit × DataW H) → Nat
  | [] => 0
  | x :: r => uptoBulkEntry x + uptoBulkEntries r
def uptoBulkEntry {H : Type} : Lit × DataW H → Nat
  | (.string bytes, d) => bytes.length + uptoBulk d + 1
  | (_, d) => uptoBulk d + 1
 end
def uptoSmall : (H : Type) → List (DataW H) → Bool := fun _ ds => decide (uptoBulkAll ds ≤ 1048576)
def OpenSpec.upto (s : _root_.Go.ChangeSpec) : _root_.Go.OpenSpec := { _root_.Go.OpenSpec.ofChange s with cond := some uptoSmall }

/-- 'laws.FnExactSameGraph', WHERE WHAT IT READS IS OF BULK AT MOST 1048576: true; the input reads as it did. -/
def fnExactSameGraphUptoRow : OpenClaim := { program := "ytpdblaldndmdoaa", sum := "42d849cb3a4b9ac565ef66db3ab07ebb13253fd43f6a3ca554e5865255ce5f92", func := "loop.example/g01364/laws.FnExactSameGraph", spec := "fnExactSameGraph", unfollowed := true, recurses := true, apart := false, narrowed := true }
def FnExactSameGraphUptoSaid : Prop := fnExactSameGraphUptoRow.holds Try.pinned (OpenSpec.upto fnExactSameGraphSpec)

/-- 'laws.FnExactIsMember', WHERE WHAT IT READS IS OF BULK AT MOST 1048576: true; the input reads as it did. -/
def fnExactIsMemberUptoRow : OpenClaim := { program := "ytpdblaldndmdoaa", sum := "42d849cb3a4b9ac565ef66db3ab07ebb13253fd43f6a3ca554e5865255ce5f92", func := "loop.example/g01364/laws.FnExactIsMember", spec := "fnExactIsMember", unfollowed := true, recurses := true, apart := false, narrowed := true }
def FnExactIsMemberUptoSaid : Prop := fnExactIsMemberUptoRow.holds Try.pinned (OpenSpec.upto fnExactIsMemberSpec)

/-- 'laws.FnExactSendBits', WHERE WHAT IT READS IS OF BULK AT MOST 1048576: true; the input reads as it did. -/
def fnExactSendBitsUptoRow : OpenClaim := { program := "ytpdblaldndmdoaa", sum := "42d849cb3a4b9ac565ef66db3ab07ebb13253fd43f6a3ca554e5865255ce5f92", func := "loop.example/g01364/laws.FnExactSendBits", spec := "fnExactSendBits", apart := false, narrowed := true }
def FnExactSendBitsUptoSaid : Prop := fnExactSendBitsUptoRow.holds Try.pinned (OpenSpec.upto fnExactSendBitsSpec)

/-- 'laws.FnExactPointsOf', WHERE WHAT IT READS IS OF BULK AT MOST 1048576: true; the input reads as it did. -/
def fnExactPointsOfUptoRow : OpenClaim := { program := "ytpdblaldndmdoaa", sum := "42d849cb3a4b9ac565ef66db3ab07ebb13253fd43f6a3ca554e5865255ce5f92", func := "loop.example/g01364/laws.FnExactPointsOf", spec := "fnExactPointsOf", unfollowed := true, recurses := true, apart := false, narrowed := true }
def FnExactPointsOfUptoSaid : Prop := fnExactPointsOfUptoRow.holds Try.pinned (OpenSpec.upto fnExactPointsOfSpec)

/-- 'laws.FnExactValidSaved', WHERE WHAT IT READS IS OF BULK AT MOST 1048576: true; the input reads as it did. -/
def fnExactValidSavedUptoRow : OpenClaim := { program := "ytpdblaldndmdoaa", sum := "42d849cb3a4b9ac565ef66db3ab07ebb13253fd43f6a3ca554e5865255ce5f92", func := "loop.example/g01364/laws.FnExactValidSaved", spec := "fnExactValidSaved", unfollowed := true, recurses := true, apart := false, narrowed := true }
def FnExactValidSavedUptoSaid : Prop := fnExactValidSavedUptoRow.holds Try.pinned (OpenSpec.upto fnExactValidSavedSpec)

/-- 'laws.FnExactPeelDrops', WHERE WHAT IT READS IS OF BULK AT MOST 1048576: true; the input reads as it did. -/
def fnExactPeelDropsUptoRow : OpenClaim := { program := "ytpdblaldndmdoaa", sum := "42d849cb3a4b9ac565ef66db3ab07ebb13253fd43f6a3ca554e5865255ce5f92", func := "loop.example/g01364/laws.FnExactPeelDrops", spec := "fnExactPeelDrops", apart := false, narrowed := true }
def FnExactPeelDropsUptoSaid : Prop := fnExactPeelDropsUptoRow.holds Try.pinned (OpenSpec.upto fnExactPeelDropsSpec)

/-- 'laws.FnExactFlipRounds', WHERE WHAT IT READS IS OF BULK AT MOST 1048576: true; the input reads as it did. -/
def fnExactFlipRoundsUptoRow : OpenClaim := { program := "ytpdblaldndmdoaa", sum := "42d849cb3a4b9ac565ef66db3ab07ebb13253fd43f6a3ca554e5865255ce5f92", func := "loop.example/g01364/laws.FnExactFlipRounds", spec := "fnExactFlipRounds", unfollowed := true, recurses := true, apart := false, narrowed := true }
def FnExactFlipRoundsUptoSaid : Prop := fnExactFlipRoundsUptoRow.holds Try.pinned (OpenSpec.upto fnExactFlipRoundsSpec)

/-- 'laws.FnExactSameDesk', WHERE WHAT IT READS IS OF BULK AT MOST 1048576: true; the input reads as it did. -/
def fnExactSameDeskUptoRow : OpenClaim := { program := "ytpdblaldndmdoaa", sum := "42d849cb3a4b9ac565ef66db3ab07ebb13253fd43f6a3ca554e5865255ce5f92", func := "loop.example/g01364/laws.FnExactSameDesk", spec := "fnExactSameDesk", inPlace := ["math.Float32bits", "math.Float64bits"], unfollowed := true, recurses := true, apart := false, narrowed := true }
def FnExactSameDeskUptoSaid : Prop := fnExactSameDeskUptoRow.holds Try.pinned (OpenSpec.upto fnExactSameDeskSpec)

end Rows
end Go.Proofs.Ytpdblaldndmdoaa
