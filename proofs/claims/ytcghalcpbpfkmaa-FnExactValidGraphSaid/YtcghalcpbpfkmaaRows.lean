/-
  No cell of these rows narrows 'for every input' (looked for: loops, veiled, ifaces, maps, wideKeys, modest, calm, conditions, laid).
  DERIVED. THE GIVEN ROWS OF THIS SEAT. 12 by the template 'for every input the law returns true; each argument reads behind the call as it read before'; 0 by the template 'total and deterministic' (their statements: YtcghalcpbpfkmaaTotals.lean).
  GIVEN WITH THE SEED: the statements are not yours to turn. If you find one false, say at which input.
  Laid BY PROGRAM, IN A SANDBOX (cutbox-rows.mjs): the forced cells as the released guide's own fill.sh prints them over the translation bc3d70e8af500ff1… (all of the seat's roots in one cut). By AI agents, Wed Nov 11 2026. No macro, syntax, notation, axiom, sorry.
-/
import Derived.Test.YtcghalcpbpfkmaaChecked
import GoSem.Claim
import GoSem.ClaimJoined
import GoSem.ClaimMapViews
import Derived.JoinedTies
import Derived.KernelRfl
namespace Go.Proofs.Ytcghalcpbpfkmaa
/- THE CELL 'sum', in the pinned program and in every row, IS THE sha256 OF THE DUMP (.gsa) THAT YtcghalcpbpfkmaaProg.lean LOADS. Nothing in Lean hashes anything: it is a label: what it is worth is what the hold of that sum in a sandbox is worth. -/
noncomputable def Try.pinned : Pinned := { name := "ytcghalcpbpfkmaa", sum := "bc3d70e8af500ff1df6c3f9a76f9c22fd672c4338a96133e163d5ea50424af84", checked := Try.checked }
namespace Rows
def none {H : Type} : Left H := { results := [], args := [] }

/-- 'laws.FnExactIsSoft': WHATEVER THE INPUT: true; the input reads as it did. -/
def fnExactIsSoftSpec : ChangeSpec := { name := "fnExactIsSoft", fn := fun _ => fun
  | [d] => { results := [.lit (.bool true)], args := [d] }
  | _ => none }
def fnExactIsSoftRow : OpenClaim := { program := "ytcghalcpbpfkmaa", sum := "bc3d70e8af500ff1df6c3f9a76f9c22fd672c4338a96133e163d5ea50424af84", func := "loop.example/g01364/laws.FnExactIsSoft", spec := "fnExactIsSoft", unfollowed := true, recurses := true, apart := false }
def FnExactIsSoftSaid : Prop := fnExactIsSoftRow.holds Try.pinned (OpenSpec.ofChange fnExactIsSoftSpec)

/-- ITS FALSE NEIGHBOUR: 'it returns false'. Refute it at one input. -/
def fnExactIsSoftWrong : ChangeSpec := { name := "fnExactIsSoft", fn := fun _ => fun
  | [d] => { results := [.lit (.bool false)], args := [d] }
  | _ => none }
def FnExactIsSoftWrongFalsely : Prop := fnExactIsSoftRow.holds Try.pinned (OpenSpec.ofChange fnExactIsSoftWrong)

/-- 'laws.FnExactSameCoder': WHATEVER THE INPUT: true; the input reads as it did. -/
def fnExactSameCoderSpec : ChangeSpec := { name := "fnExactSameCoder", fn := fun _ => fun
  | [d1, d2] => { results := [.lit (.bool true)], args := [d1, d2] }
  | _ => none }
def fnExactSameCoderRow : OpenClaim := { program := "ytcghalcpbpfkmaa", sum := "bc3d70e8af500ff1df6c3f9a76f9c22fd672c4338a96133e163d5ea50424af84", func := "loop.example/g01364/laws.FnExactSameCoder", spec := "fnExactSameCoder", apart := false }
def FnExactSameCoderSaid : Prop := fnExactSameCoderRow.holds Try.pinned (OpenSpec.ofChange fnExactSameCoderSpec)

/-- ITS FALSE NEIGHBOUR: 'it returns false'. Refute it at one input. -/
def fnExactSameCoderWrong : ChangeSpec := { name := "fnExactSameCoder", fn := fun _ => fun
  | [d1, d2] => { results := [.lit (.bool false)], args := [d1, d2] }
  | _ => none }
def FnExactSameCoderWrongFalsely : Prop := fnExactSameCoderRow.holds Try.pinned (OpenSpec.ofChange fnExactSameCoderWrong)

/-- 'laws.FnExactValidCoder': WHATEVER THE INPUT: true; the input reads as it did. -/
def fnExactValidCoderSpec : ChangeSpec := { name := "fnExactValidCoder", fn := fun _ => fun
  | [d] => { results := [.lit (.bool true)], args := [d] }
  | _ => none }
def fnExactValidCoderRow : OpenClaim := { program := "ytcghalcpbpfkmaa", sum := "bc3d70e8af500ff1df6c3f9a76f9c22fd672c4338a96133e163d5ea50424af84", func := "loop.example/g01364/laws.FnExactValidCoder", spec := "fnExactValidCoder", apart := false }
def FnExactValidCoderSaid : Prop := fnExactValidCoderRow.holds Try.pinned (OpenSpec.ofChange fnExactValidCoderSpec)

/-- ITS FALSE NEIGHBOUR: 'it returns false'. Refute it at one input. -/
def fnExactValidCoderWrong : ChangeSpec := { name := "fnExactValidCoder", fn := fun _ => fun
  | [d] => { results := [.lit (.bool false)], args := [d] }
  | _ => none }
def FnExactValidCoderWrongFalsely : Prop := fnExactValidCoderRow.holds Try.pinned (OpenSpec.ofChange fnExactValidCoderWrong)

/-- 'laws.FnExactDropPlaces': WHATEVER THE INPUT: true; the input reads as it did. -/
def fnExactDropPlacesSpec : ChangeSpec := { name := "fnExactDropPlaces", fn := fun _ => fun
  | [d1, d2] => { results := [.lit (.bool true)], args := [d1, d2] }
  | _ => none }
def fnExactDropPlacesRow : OpenClaim := { program := "ytcghalcpbpfkmaa", sum := "bc3d70e8af500ff1df6c3f9a76f9c22fd672c4338a96133e163d5ea50424af84", func := "loop.example/g01364/laws.FnExactDropPlaces", spec := "fnExactDropPlaces", apart := false }
def FnExactDropPlacesSaid : Prop := fnExactDropPlacesRow.holds Try.pinned (OpenSpec.ofChange fnExactDropPlacesSpec)

/-- ITS FALSE NEIGHBOUR: 'it returns false'. Refute it at one input. -/
def fnExactDropPlacesWrong : ChangeSpec := { name := "fnExactDropPlaces", fn := fun _ => fun
  | [d1, d2] => { results := [.lit (.bool false)], args := [d1, d2] }
  | _ => none }
def FnExactDropPlacesWrongFalsely : Prop := fnExactDropPlacesRow.holds Try.pinned (OpenSpec.ofChange fnExactDropPlacesWrong)

/-- 'laws.FnExactSoftOf': WHATEVER THE INPUT: true; the input reads as it did. -/
def fnExactSoftOfSpec : ChangeSpec := { name := "fnExactSoftOf", fn := fun _ => fun
  | [d1, d2] => { results := [.lit (.bool true)], args := [d1, d2] }
  | _ => none }
def fnExactSoftOfRow : OpenClaim := { program := "ytcghalcpbpfkmaa", sum := "bc3d70e8af500ff1df6c3f9a76f9c22fd672c4338a96133e163d5ea50424af84", func := "loop.example/g01364/laws.FnExactSoftOf", spec := "fnExactSoftOf", apart := false }
def FnExactSoftOfSaid : Prop := fnExactSoftOfRow.holds Try.pinned (OpenSpec.ofChange fnExactSoftOfSpec)

/-- ITS FALSE NEIGHBOUR: 'it returns false'. Refute it at one input. -/
def fnExactSoftOfWrong : ChangeSpec := { name := "fnExactSoftOf", fn := fun _ => fun
  | [d1, d2] => { results := [.lit (.bool false)], args := [d1, d2] }
  | _ => none }
def FnExactSoftOfWrongFalsely : Prop := fnExactSoftOfRow.holds Try.pinned (OpenSpec.ofChange fnExactSoftOfWrong)

/-- 'laws.FnExactPolarLosses': WHATEVER THE INPUT: true; the input reads as it did. -/
def fnExactPolarLossesSpec : ChangeSpec := { name := "fnExactPolarLosses", fn := fun _ => fun
  | [d1, d2] => { results := [.lit (.bool true)], args := [d1, d2] }
  | _ => none }
def fnExactPolarLossesRow : OpenClaim := { program := "ytcghalcpbpfkmaa", sum := "bc3d70e8af500ff1df6c3f9a76f9c22fd672c4338a96133e163d5ea50424af84", func := "loop.example/g01364/laws.FnExactPolarLosses", spec := "fnExactPolarLosses", unfollowed := true, recurses := true, apart := false }
def FnExactPolarLossesSaid : Prop := fnExactPolarLossesRow.holds Try.pinned (OpenSpec.ofChange fnExactPolarLossesSpec)

/-- ITS FALSE NEIGHBOUR: 'it returns false'. Refute it at one input. -/
def fnExactPolarLossesWrong : ChangeSpec := { name := "fnExactPolarLosses", fn := fun _ => fun
  | [d1, d2] => { results := [.lit (.bool false)], args := [d1, d2] }
  | _ => none }
def FnExactPolarLossesWrongFalsely : Prop := fnExactPolarLossesRow.holds Try.pinned (OpenSpec.ofChange fnExactPolarLossesWrong)

/-- 'laws.FnExactHardOf': WHATEVER THE INPUT: true; the input reads as it did. -/
def fnExactHardOfSpec : ChangeSpec := { name := "fnExactHardOf", fn := fun _ => fun
  | [d] => { results := [.lit (.bool true)], args := [d] }
  | _ => none }
def fnExactHardOfRow : OpenClaim := { program := "ytcghalcpbpfkmaa", sum := "bc3d70e8af500ff1df6c3f9a76f9c22fd672c4338a96133e163d5ea50424af84", func := "loop.example/g01364/laws.FnExactHardOf", spec := "fnExactHardOf", unfollowed := true, recurses := true, apart := false }
def FnExactHardOfSaid : Prop := fnExactHardOfRow.holds Try.pinned (OpenSpec.ofChange fnExactHardOfSpec)

/-- ITS FALSE NEIGHBOUR: 'it returns false'. Refute it at one input. -/
def fnExactHardOfWrong : ChangeSpec := { name := "fnExactHardOf", fn := fun _ => fun
  | [d] => { results := [.lit (.bool false)], args := [d] }
  | _ => none }
def FnExactHardOfWrongFalsely : Prop := fnExactHardOfRow.holds Try.pinned (OpenSpec.ofChange fnExactHardOfWrong)

/-- 'laws.FnExactDropOf': WHATEVER THE INPUT: true; the input reads as it did. -/
def fnExactDropOfSpec : ChangeSpec := { name := "fnExactDropOf", fn := fun _ => fun
  | [d1, d2] => { results := [.lit (.bool true)], args := [d1, d2] }
  | _ => none }
def fnExactDropOfRow : OpenClaim := { program := "ytcghalcpbpfkmaa", sum := "bc3d70e8af500ff1df6c3f9a76f9c22fd672c4338a96133e163d5ea50424af84", func := "loop.example/g01364/laws.FnExactDropOf", spec := "fnExactDropOf", apart := false }
def FnExactDropOfSaid : Prop := fnExactDropOfRow.holds Try.pinned (OpenSpec.ofChange fnExactDropOfSpec)

/-- ITS FALSE NEIGHBOUR: 'it returns false'. Refute it at one input. -/
def fnExactDropOfWrong : ChangeSpec := { name := "fnExactDropOf", fn := fun _ => fun
  | [d1, d2] => { results := [.lit (.bool false)], args := [d1, d2] }
  | _ => none }
def FnExactDropOfWrongFalsely : Prop := fnExactDropOfRow.holds Try.pinned (OpenSpec.ofChange fnExactDropOfWrong)

/-- 'laws.FnExactPolarTurn': WHATEVER THE INPUT: true; the input reads as it did. -/
def fnExactPolarTurnSpec : ChangeSpec := { name := "fnExactPolarTurn", fn := fun _ => fun
  | [d] => { results := [.lit (.bool true)], args := [d] }
  | _ => none }
def fnExactPolarTurnRow : OpenClaim := { program := "ytcghalcpbpfkmaa", sum := "bc3d70e8af500ff1df6c3f9a76f9c22fd672c4338a96133e163d5ea50424af84", func := "loop.example/g01364/laws.FnExactPolarTurn", spec := "fnExactPolarTurn", apart := false }
def FnExactPolarTurnSaid : Prop := fnExactPolarTurnRow.holds Try.pinned (OpenSpec.ofChange fnExactPolarTurnSpec)

/-- ITS FALSE NEIGHBOUR: 'it returns false'. Refute it at one input. -/
def fnExactPolarTurnWrong : ChangeSpec := { name := "fnExactPolarTurn", fn := fun _ => fun
  | [d] => { results := [.lit (.bool false)], args := [d] }
  | _ => none }
def FnExactPolarTurnWrongFalsely : Prop := fnExactPolarTurnRow.holds Try.pinned (OpenSpec.ofChange fnExactPolarTurnWrong)

/-- 'laws.FnExactValidGraph': WHATEVER THE INPUT: true; the input reads as it did. -/
def fnExactValidGraphSpec : ChangeSpec := { name := "fnExactValidGraph", fn := fun _ => fun
  | [d] => { results := [.lit (.bool true)], args := [d] }
  | _ => none }
def fnExactValidGraphRow : OpenClaim := { program := "ytcghalcpbpfkmaa", sum := "bc3d70e8af500ff1df6c3f9a76f9c22fd672c4338a96133e163d5ea50424af84", func := "loop.example/g01364/laws.FnExactValidGraph", spec := "fnExactValidGraph", unfollowed := true, recurses := true, apart := false }
def FnExactValidGraphSaid : Prop := fnExactValidGraphRow.holds Try.pinned (OpenSpec.ofChange fnExactValidGraphSpec)

/-- ITS FALSE NEIGHBOUR: 'it returns false'. Refute it at one input. -/
def fnExactValidGraphWrong : ChangeSpec := { name := "fnExactValidGraph", fn := fun _ => fun
  | [d] => { results := [.lit (.bool false)], args := [d] }
  | _ => none }
def FnExactValidGraphWrongFalsely : Prop := fnExactValidGraphRow.holds Try.pinned (OpenSpec.ofChange fnExactValidGraphWrong)

/-- 'laws.FnExactPointsOf': WHATEVER THE INPUT: true; the input reads as it did. -/
def fnExactPointsOfSpec : ChangeSpec := { name := "fnExactPointsOf", fn := fun _ => fun
  | [d] => { results := [.lit (.bool true)], args := [d] }
  | _ => none }
def fnExactPointsOfRow : OpenClaim := { program := "ytcghalcpbpfkmaa", sum := "bc3d70e8af500ff1df6c3f9a76f9c22fd672c4338a96133e163d5ea50424af84", func := "loop.example/g01364/laws.FnExactPointsOf", spec := "fnExactPointsOf", unfollowed := true, recurses := true, apart := false }
def FnExactPointsOfSaid : Prop := fnExactPointsOfRow.holds Try.pinned (OpenSpec.ofChange fnExactPointsOfSpec)

/-- ITS FALSE NEIGHBOUR: 'it returns false'. Refute it at one input. -/
def fnExactPointsOfWrong : ChangeSpec := { name := "fnExactPointsOf", fn := fun _ => fun
  | [d] => { results := [.lit (.bool false)], args := [d] }
  | _ => none }
def FnExactPointsOfWrongFalsely : Prop := fnExactPointsOfRow.holds Try.pinned (OpenSpec.ofChange fnExactPointsOfWrong)

/-- 'laws.FnExactPolarSend': WHATEVER THE INPUT: true; the input reads as it did. -/
def fnExactPolarSendSpec : ChangeSpec := { name := "fnExactPolarSend", fn := fun _ => fun
  | [d1, d2, d3] => { results := [.lit (.bool true)], args := [d1, d2, d3] }
  | _ => none }
def fnExactPolarSendRow : OpenClaim := { program := "ytcghalcpbpfkmaa", sum := "bc3d70e8af500ff1df6c3f9a76f9c22fd672c4338a96133e163d5ea50424af84", func := "loop.example/g01364/laws.FnExactPolarSend", spec := "fnExactPolarSend", apart := false }
def FnExactPolarSendSaid : Prop := fnExactPolarSendRow.holds Try.pinned (OpenSpec.ofChange fnExactPolarSendSpec)

/-- ITS FALSE NEIGHBOUR: 'it returns false'. Refute it at one input. -/
def fnExactPolarSendWrong : ChangeSpec := { name := "fnExactPolarSend", fn := fun _ => fun
  | [d1, d2, d3] => { results := [.lit (.bool false)], args := [d1, d2, d3] }
  | _ => none }
def FnExactPolarSendWrongFalsely : Prop := fnExactPolarSendRow.holds Try.pinned (OpenSpec.ofChange fnExactPolarSendWrong)

/- THE SECOND FORM. 'bulk': how many values and letters a reading holds, each counted each time it is reached (what is shared counts as often as it is met; a slice's spare places count too). A statement '..UptoSaid' is the law's where the arguments, and the package variables that the reading takes, are together of bulk at most 1048576: NARROWER than '..Said'. Prove '..Said' where nothing that the law and all that it calls make is longer than what came in: it says more and counts as full. Else prove '..UptoSaid'. A law counts once. -/
mutual
def uptoBulk {H : Type} : DataW H → Nat
  | .lit (.string bytes) => bytes.length + 1
  | .lit _ => 1
  | .nil => 1
  | .ptr d => uptoBulk d + 1
  | .slice elems spare => uptoBulkAll elems + uptoBulkAll spare + 1
  | .agg parts => uptoBulkAll parts + 1
  | .iface _ d => uptoBulk d + 1
  | .map entries => uptoBulkEntries entries + 1
  | .held _ => 1
def uptoBulkAll {H : Type} : List (DataW H) → Nat
  | [] => 0
  | d :: r => uptoBulk d + uptoBulkAll r
def uptoBulkEntries {H : Type} : List (Lit × DataW H) → Nat
  | [] => 0
  | x :: r => uptoBulkEntry x + uptoBulkEntries r
def uptoBulkEntry {H : Type} : Lit × DataW H → Nat
  | (.string bytes, d) => bytes.length + uptoBulk d + 1
  | (_, d) => uptoBulk d + 1
 end
def uptoSmall : (H : Type) → List (DataW H) → Bool := fun _ ds => decide (uptoBulkAll ds ≤ 1048576)
def OpenSpec.upto (s : _root_.Go.ChangeSpec) : _root_.Go.OpenSpec := { _root_.Go.OpenSpec.ofChange s with cond := some uptoSmall }

/-- 'laws.FnExactIsSoft', WHERE WHAT IT READS IS OF BULK AT MOST 1048576: true; the input reads as it did. -/
def fnExactIsSoftUptoRow : OpenClaim := { program := "ytcghalcpbpfkmaa", sum := "bc3d70e8af500ff1df6c3f9a76f9c22fd672c4338a96133e163d5ea50424af84", func := "loop.example/g01364/laws.FnExactIsSoft", spec := "fnExactIsSoft", unfollowed := true, recurses := true, apart := false, narrowed := true }
def FnExactIsSoftUptoSaid : Prop := fnExactIsSoftUptoRow.holds Try.pinned (OpenSpec.upto fnExactIsSoftSpec)

/-- 'laws.FnExactSameCoder', WHERE WHAT IT READS IS OF BULK AT MOST 1048576: true; the input reads as it did. -/
def fnExactSameCoderUptoRow : OpenClaim := { program := "ytcghalcpbpfkmaa", sum := "bc3d70e8af500ff1df6c3f9a76f9c22fd672c4338a96133e163d5ea50424af84", func := "loop.example/g01364/laws.FnExactSameCoder", spec := "fnExactSameCoder", apart := false, narrowed := true }
def FnExactSameCoderUptoSaid : Prop := fnExactSameCoderUptoRow.holds Try.pinned (OpenSpec.upto fnExactSameCoderSpec)

/-- 'laws.FnExactValidCoder', WHERE WHAT IT READS IS OF BULK AT MOST 1048576: true; the input reads as it did. -/
def fnExactValidCoderUptoRow : OpenClaim := { program := "ytcghalcpbpfkmaa", sum := "bc3d70e8af500ff1df6c3f9a76f9c22fd672c4338a96133e163d5ea50424af84", func := "loop.example/g01364/laws.FnExactValidCoder", spec := "fnExactValidCoder", apart := false, narrowed := true }
def FnExactValidCoderUptoSaid : Prop := fnExactValidCoderUptoRow.holds Try.pinned (OpenSpec.upto fnExactValidCoderSpec)

/-- 'laws.FnExactDropPlaces', WHERE WHAT IT READS IS OF BULK AT MOST 1048576: true; the input reads as it did. -/
def fnExactDropPlacesUptoRow : OpenClaim := { program := "ytcghalcpbpfkmaa", sum := "bc3d70e8af500ff1df6c3f9a76f9c22fd672c4338a96133e163d5ea50424af84", func := "loop.example/g01364/laws.FnExactDropPlaces", spec := "fnExactDropPlaces", apart := false, narrowed := true }
def FnExactDropPlacesUptoSaid : Prop := fnExactDropPlacesUptoRow.holds Try.pinned (OpenSpec.upto fnExactDropPlacesSpec)

/-- 'laws.FnExactSoftOf', WHERE WHAT IT READS IS OF BULK AT MOST 1048576: true; the input reads as it did. -/
def fnExactSoftOfUptoRow : OpenClaim := { program := "ytcghalcpbpfkmaa", sum := "bc3d70e8af500ff1df6c3f9a76f9c22fd672c4338a96133e163d5ea50424af84", func := "loop.example/g01364/laws.FnExactSoftOf", spec := "fnExactSoftOf", apart := false, narrowed := true }
def FnExactSoftOfUptoSaid : Prop := fnExactSoftOfUptoRow.holds Try.pinned (OpenSpec.upto fnExactSoftOfSpec)

/-- 'laws.FnExactPolarLosses', WHERE WHAT IT READS IS OF BULK AT MOST 1048576: true; the input reads as it did. -/
def fnExactPolarLossesUptoRow : OpenClaim := { program := "ytcghalcpbpfkmaa", sum := "bc3d70e8af500ff1df6c3f9a76f9c22fd672c4338a96133e163d5ea50424af84", func := "loop.example/g01364/laws.FnExactPolarLosses", spec := "fnExactPolarLosses", unfollowed := true, recurses := true, apart := false, narrowed := true }
def FnExactPolarLossesUptoSaid : Prop := fnExactPolarLossesUptoRow.holds Try.pinned (OpenSpec.upto fnExactPolarLossesSpec)

/-- 'laws.FnExactHardOf', WHERE WHAT IT READS IS OF BULK AT MOST 1048576: true; the input reads as it did. -/
def fnExactHardOfUptoRow : OpenClaim := { program := "ytcghalcpbpfkmaa", sum := "bc3d70e8af500ff1df6c3f9a76f9c22fd672c4338a96133e163d5ea50424af84", func := "loop.example/g01364/laws.FnExactHardOf", spec := "fnExactHardOf", unfollowed := true, recurses := true, apart := false, narrowed := true }
def FnExactHardOfUptoSaid : Prop := fnExactHardOfUptoRow.holds Try.pinned (OpenSpec.upto fnExactHardOfSpec)

/-- 'laws.FnExactDropOf', WHERE WHAT IT READS IS OF BULK AT MOST 1048576: true; the input reads as it did. -/
def fnExactDropOfUptoRow : OpenClaim := { program := "ytcghalcpbpfkmaa", sum := "bc3d70e8af500ff1df6c3f9a76f9c22fd672c4338a96133e163d5ea50424af84", func := "loop.example/g01364/laws.FnExactDropOf", spec := "fnExactDropOf", apart := false, narrowed := true }
def FnExactDropOfUptoSaid : Prop := fnExactDropOfUptoRow.holds Try.pinned (OpenSpec.upto fnExactDropOfSpec)

/-- 'laws.FnExactPolarTurn', WHERE WHAT IT READS IS OF BULK AT MOST 1048576: true; the input reads as it did. -/
def fnExactPolarTurnUptoRow : OpenClaim := { program := "ytcghalcpbpfkmaa", sum := "bc3d70e8af500ff1df6c3f9a76f9c22fd672c4338a96133e163d5ea50424af84", func := "loop.example/g01364/laws.FnExactPolarTurn", spec := "fnExactPolarTurn", apart := false, narrowed := true }
def FnExactPolarTurnUptoSaid : Prop := fnExactPolarTurnUptoRow.holds Try.pinned (OpenSpec.upto fnExactPolarTurnSpec)

/-- 'laws.FnExactValidGraph', WHERE WHAT IT READS IS OF BULK AT MOST 1048576: true; the input reads as it did. -/
def fnExactValidGraphUptoRow : OpenClaim := { program := "ytcghalcpbpfkmaa", sum := "bc3d70e8af500ff1df6c3f9a76f9c22fd672c4338a96133e163d5ea50424af84", func := "loop.example/g01364/laws.FnExactValidGraph", spec := "fnExactValidGraph", unfollowed := true, recurses := true, apart := false, narrowed := true }
def FnExactValidGraphUptoSaid : Prop := fnExactValidGraphUptoRow.holds Try.pinned (OpenSpec.upto fnExactValidGraphSpec)

/-- 'laws.FnExactPointsOf', WHERE WHAT IT READS IS OF BULK AT MOST 1048576: true; the input reads as it did. -/
def fnExactPointsOfUptoRow : OpenClaim := { program := "ytcghalcpbpfkmaa", sum := "bc3d70e8af500ff1df6c3f9a76f9c22fd672c4338a96133e163d5ea50424af84", func := "loop.example/g01364/laws.FnExactPointsOf", spec := "fnExactPointsOf", unfollowed := true, recurses := true, apart := false, narrowed := true }
def FnExactPointsOfUptoSaid : Prop := fnExactPointsOfUptoRow.holds Try.pinned (OpenSpec.upto fnExactPointsOfSpec)

/-- 'laws.FnExactPolarSend', WHERE WHAT IT READS IS OF BULK AT MOST 1048576: true; the input reads as it did. -/
def fnExactPolarSendUptoRow : OpenClaim := { program := "ytcghalcpbpfkmaa", sum := "bc3d70e8af500ff1df6c3f9a76f9c22fd672c4338a96133e163d5ea50424af84", func := "loop.example/g01364/laws.FnExactPolarSend", spec := "fnExactPolarSend", apart := false, narrowed := true }
def FnExactPolarSendUptoSaid : Prop := fnExactPolarSendUptoRow.holds Try.pinned (OpenSpec.upto fnExactPolarSendSpec)

end Rows
end Go.Proofs.Ytcghalcpbpfkmaa
