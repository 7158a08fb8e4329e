/-
  No cell of these rows narrows 'for every input' (looked for: loops, veiled, ifaces, maps, wideKeys, modest, calm, conditions, laid).
  DERIVED. THE GIVEN ROWS OF THIS SEAT. 12 by the template 'for every input the law returns true; each argument reads behind the call as it read before'; 0 by the template 'total and deterministic' (their statements: YtlcnfaodkglhpaaTotals.lean).
  GIVEN WITH THE SEED: the statements are not yours to turn. If you find one false, say at which input.
  Laid BY PROGRAM, IN A SANDBOX (cutbox-rows.mjs): the forced cells as the released guide's own fill.sh prints them over the translation 8a6296eeb32e8022… (all of the seat's roots in one cut). By AI agents, Wed Nov 11 2026. No macro, syntax, notation, axiom, sorry.
-/
import Derived.Test.YtlcnfaodkglhpaaChecked
import GoSem.Claim
import GoSem.ClaimJoined
import GoSem.ClaimMapViews
import Derived.JoinedTies
import Derived.KernelRfl
namespace Go.Proofs.Ytlcnfaodkglhpaa
/- THE CELL 'sum', in the pinned program and in every row, IS THE sha256 OF THE DUMP (.gsa) THAT YtlcnfaodkglhpaaProg.lean LOADS. Nothing in Lean hashes anything: it is a label: what it is worth is what the hold of that sum in a sandbox is worth. -/
noncomputable def Try.pinned : Pinned := { name := "ytlcnfaodkglhpaa", sum := "8a6296eeb32e8022b14377467be6b81420827480ada59cbb41d075d2dcbccbcd", checked := Try.checked }
namespace Rows
def none {H : Type} : Left H := { results := [], args := [] }

/-- 'laws.FnDrops': WHATEVER THE INPUT: true; the input reads as it did. -/
def fnDropsSpec : ChangeSpec := { name := "fnDrops", fn := fun _ => fun
  | [d1, d2] => { results := [.lit (.bool true)], args := [d1, d2] }
  | _ => none }
def fnDropsRow : OpenClaim := { program := "ytlcnfaodkglhpaa", sum := "8a6296eeb32e8022b14377467be6b81420827480ada59cbb41d075d2dcbccbcd", func := "loop.example/g01364/laws.FnDrops", spec := "fnDrops", apart := false }
def FnDropsSaid : Prop := fnDropsRow.holds Try.pinned (OpenSpec.ofChange fnDropsSpec)

/-- ITS FALSE NEIGHBOUR: 'it returns false'. Refute it at one input. -/
def fnDropsWrong : ChangeSpec := { name := "fnDrops", fn := fun _ => fun
  | [d1, d2] => { results := [.lit (.bool false)], args := [d1, d2] }
  | _ => none }
def FnDropsWrongFalsely : Prop := fnDropsRow.holds Try.pinned (OpenSpec.ofChange fnDropsWrong)

/-- 'laws.FnExactStoreSaved': WHATEVER THE INPUT: true; the input reads as it did. -/
def fnExactStoreSavedSpec : ChangeSpec := { name := "fnExactStoreSaved", fn := fun _ => fun
  | [d] => { results := [.lit (.bool true)], args := [d] }
  | _ => none }
def fnExactStoreSavedRow : OpenClaim := { program := "ytlcnfaodkglhpaa", sum := "8a6296eeb32e8022b14377467be6b81420827480ada59cbb41d075d2dcbccbcd", func := "loop.example/g01364/laws.FnExactStoreSaved", spec := "fnExactStoreSaved", inPlace := ["math.Float32bits"], unfollowed := true, recurses := true, apart := false }
def FnExactStoreSavedSaid : Prop := fnExactStoreSavedRow.holds Try.pinned (OpenSpec.ofChange fnExactStoreSavedSpec)

/-- ITS FALSE NEIGHBOUR: 'it returns false'. Refute it at one input. -/
def fnExactStoreSavedWrong : ChangeSpec := { name := "fnExactStoreSaved", fn := fun _ => fun
  | [d] => { results := [.lit (.bool false)], args := [d] }
  | _ => none }
def FnExactStoreSavedWrongFalsely : Prop := fnExactStoreSavedRow.holds Try.pinned (OpenSpec.ofChange fnExactStoreSavedWrong)

/-- 'laws.FnExactStoreAll': WHATEVER THE INPUT: true; the input reads as it did. -/
def fnExactStoreAllSpec : ChangeSpec := { name := "fnExactStoreAll", fn := fun _ => fun
  | [d] => { results := [.lit (.bool true)], args := [d] }
  | _ => none }
def fnExactStoreAllRow : OpenClaim := { program := "ytlcnfaodkglhpaa", sum := "8a6296eeb32e8022b14377467be6b81420827480ada59cbb41d075d2dcbccbcd", func := "loop.example/g01364/laws.FnExactStoreAll", spec := "fnExactStoreAll", inPlace := ["math.Float32bits"], unfollowed := true, recurses := true, apart := false }
def FnExactStoreAllSaid : Prop := fnExactStoreAllRow.holds Try.pinned (OpenSpec.ofChange fnExactStoreAllSpec)

/-- ITS FALSE NEIGHBOUR: 'it returns false'. Refute it at one input. -/
def fnExactStoreAllWrong : ChangeSpec := { name := "fnExactStoreAll", fn := fun _ => fun
  | [d] => { results := [.lit (.bool false)], args := [d] }
  | _ => none }
def FnExactStoreAllWrongFalsely : Prop := fnExactStoreAllRow.holds Try.pinned (OpenSpec.ofChange fnExactStoreAllWrong)

/-- 'laws.FnExactSameSaved': WHATEVER THE INPUT: true; the input reads as it did. -/
def fnExactSameSavedSpec : ChangeSpec := { name := "fnExactSameSaved", fn := fun _ => fun
  | [d1, d2] => { results := [.lit (.bool true)], args := [d1, d2] }
  | _ => none }
def fnExactSameSavedRow : OpenClaim := { program := "ytlcnfaodkglhpaa", sum := "8a6296eeb32e8022b14377467be6b81420827480ada59cbb41d075d2dcbccbcd", func := "loop.example/g01364/laws.FnExactSameSaved", spec := "fnExactSameSaved", inPlace := ["math.Float32bits", "math.Float64bits"], unfollowed := true, recurses := true, apart := false }
def FnExactSameSavedSaid : Prop := fnExactSameSavedRow.holds Try.pinned (OpenSpec.ofChange fnExactSameSavedSpec)

/-- ITS FALSE NEIGHBOUR: 'it returns false'. Refute it at one input. -/
def fnExactSameSavedWrong : ChangeSpec := { name := "fnExactSameSaved", fn := fun _ => fun
  | [d1, d2] => { results := [.lit (.bool false)], args := [d1, d2] }
  | _ => none }
def FnExactSameSavedWrongFalsely : Prop := fnExactSameSavedRow.holds Try.pinned (OpenSpec.ofChange fnExactSameSavedWrong)

/-- 'laws.FnExactPointsOf': WHATEVER THE INPUT: true; the input reads as it did. -/
def fnExactPointsOfSpec : ChangeSpec := { name := "fnExactPointsOf", fn := fun _ => fun
  | [d] => { results := [.lit (.bool true)], args := [d] }
  | _ => none }
def fnExactPointsOfRow : OpenClaim := { program := "ytlcnfaodkglhpaa", sum := "8a6296eeb32e8022b14377467be6b81420827480ada59cbb41d075d2dcbccbcd", func := "loop.example/g01364/laws.FnExactPointsOf", spec := "fnExactPointsOf", unfollowed := true, recurses := true, apart := false }
def FnExactPointsOfSaid : Prop := fnExactPointsOfRow.holds Try.pinned (OpenSpec.ofChange fnExactPointsOfSpec)

/-- ITS FALSE NEIGHBOUR: 'it returns false'. Refute it at one input. -/
def fnExactPointsOfWrong : ChangeSpec := { name := "fnExactPointsOf", fn := fun _ => fun
  | [d] => { results := [.lit (.bool false)], args := [d] }
  | _ => none }
def FnExactPointsOfWrongFalsely : Prop := fnExactPointsOfRow.holds Try.pinned (OpenSpec.ofChange fnExactPointsOfWrong)

/-- 'laws.FnExactNewDesk': WHATEVER THE INPUT: true; the input reads as it did. -/
def fnExactNewDeskSpec : ChangeSpec := { name := "fnExactNewDesk", fn := fun _ => fun
  | [] => { results := [.lit (.bool true)], args := [] }
  | _ => none }
def fnExactNewDeskRow : OpenClaim := { program := "ytlcnfaodkglhpaa", sum := "8a6296eeb32e8022b14377467be6b81420827480ada59cbb41d075d2dcbccbcd", func := "loop.example/g01364/laws.FnExactNewDesk", spec := "fnExactNewDesk", unfollowed := true, recurses := true, apart := false }
def FnExactNewDeskSaid : Prop := fnExactNewDeskRow.holds Try.pinned (OpenSpec.ofChange fnExactNewDeskSpec)

/-- ITS FALSE NEIGHBOUR: 'it returns false'. Refute it at one input. -/
def fnExactNewDeskWrong : ChangeSpec := { name := "fnExactNewDesk", fn := fun _ => fun
  | [] => { results := [.lit (.bool false)], args := [] }
  | _ => none }
def FnExactNewDeskWrongFalsely : Prop := fnExactNewDeskRow.holds Try.pinned (OpenSpec.ofChange fnExactNewDeskWrong)

/-- 'laws.FnExactMergedCode': WHATEVER THE INPUT: true; the input reads as it did. -/
def fnExactMergedCodeSpec : ChangeSpec := { name := "fnExactMergedCode", fn := fun _ => fun
  | [d] => { results := [.lit (.bool true)], args := [d] }
  | _ => none }
def fnExactMergedCodeRow : OpenClaim := { program := "ytlcnfaodkglhpaa", sum := "8a6296eeb32e8022b14377467be6b81420827480ada59cbb41d075d2dcbccbcd", func := "loop.example/g01364/laws.FnExactMergedCode", spec := "fnExactMergedCode", unfollowed := true, recurses := true, apart := false }
def FnExactMergedCodeSaid : Prop := fnExactMergedCodeRow.holds Try.pinned (OpenSpec.ofChange fnExactMergedCodeSpec)

/-- ITS FALSE NEIGHBOUR: 'it returns false'. Refute it at one input. -/
def fnExactMergedCodeWrong : ChangeSpec := { name := "fnExactMergedCode", fn := fun _ => fun
  | [d] => { results := [.lit (.bool false)], args := [d] }
  | _ => none }
def FnExactMergedCodeWrongFalsely : Prop := fnExactMergedCodeRow.holds Try.pinned (OpenSpec.ofChange fnExactMergedCodeWrong)

/-- 'laws.FnExactBestWay': WHATEVER THE INPUT: true; the input reads as it did. -/
def fnExactBestWaySpec : ChangeSpec := { name := "fnExactBestWay", fn := fun _ => fun
  | [d1, d2] => { results := [.lit (.bool true)], args := [d1, d2] }
  | _ => none }
def fnExactBestWayRow : OpenClaim := { program := "ytlcnfaodkglhpaa", sum := "8a6296eeb32e8022b14377467be6b81420827480ada59cbb41d075d2dcbccbcd", func := "loop.example/g01364/laws.FnExactBestWay", spec := "fnExactBestWay", unfollowed := true, recurses := true, apart := false }
def FnExactBestWaySaid : Prop := fnExactBestWayRow.holds Try.pinned (OpenSpec.ofChange fnExactBestWaySpec)

/-- ITS FALSE NEIGHBOUR: 'it returns false'. Refute it at one input. -/
def fnExactBestWayWrong : ChangeSpec := { name := "fnExactBestWay", fn := fun _ => fun
  | [d1, d2] => { results := [.lit (.bool false)], args := [d1, d2] }
  | _ => none }
def FnExactBestWayWrongFalsely : Prop := fnExactBestWayRow.holds Try.pinned (OpenSpec.ofChange fnExactBestWayWrong)

/-- 'laws.FnGraphs': WHATEVER THE INPUT: true; the input reads as it did. -/
def fnGraphsSpec : ChangeSpec := { name := "fnGraphs", fn := fun _ => fun
  | [d1, d2] => { results := [.lit (.bool true)], args := [d1, d2] }
  | _ => none }
def fnGraphsRow : OpenClaim := { program := "ytlcnfaodkglhpaa", sum := "8a6296eeb32e8022b14377467be6b81420827480ada59cbb41d075d2dcbccbcd", func := "loop.example/g01364/laws.FnGraphs", spec := "fnGraphs", unfollowed := true, recurses := true, apart := false }
def FnGraphsSaid : Prop := fnGraphsRow.holds Try.pinned (OpenSpec.ofChange fnGraphsSpec)

/-- ITS FALSE NEIGHBOUR: 'it returns false'. Refute it at one input. -/
def fnGraphsWrong : ChangeSpec := { name := "fnGraphs", fn := fun _ => fun
  | [d1, d2] => { results := [.lit (.bool false)], args := [d1, d2] }
  | _ => none }
def FnGraphsWrongFalsely : Prop := fnGraphsRow.holds Try.pinned (OpenSpec.ofChange fnGraphsWrong)

/-- 'laws.FnPolars': WHATEVER THE INPUT: true; the input reads as it did. -/
def fnPolarsSpec : ChangeSpec := { name := "fnPolars", fn := fun _ => fun
  | [d1, d2] => { results := [.lit (.bool true)], args := [d1, d2] }
  | _ => none }
def fnPolarsRow : OpenClaim := { program := "ytlcnfaodkglhpaa", sum := "8a6296eeb32e8022b14377467be6b81420827480ada59cbb41d075d2dcbccbcd", func := "loop.example/g01364/laws.FnPolars", spec := "fnPolars", unfollowed := true, recurses := true, apart := false }
def FnPolarsSaid : Prop := fnPolarsRow.holds Try.pinned (OpenSpec.ofChange fnPolarsSpec)

/-- ITS FALSE NEIGHBOUR: 'it returns false'. Refute it at one input. -/
def fnPolarsWrong : ChangeSpec := { name := "fnPolars", fn := fun _ => fun
  | [d1, d2] => { results := [.lit (.bool false)], args := [d1, d2] }
  | _ => none }
def FnPolarsWrongFalsely : Prop := fnPolarsRow.holds Try.pinned (OpenSpec.ofChange fnPolarsWrong)

/-- 'laws.FnSoftFiles': WHATEVER THE INPUT: true; the input reads as it did. -/
def fnSoftFilesSpec : ChangeSpec := { name := "fnSoftFiles", fn := fun _ => fun
  | [d1, d2] => { results := [.lit (.bool true)], args := [d1, d2] }
  | _ => none }
def fnSoftFilesRow : OpenClaim := { program := "ytlcnfaodkglhpaa", sum := "8a6296eeb32e8022b14377467be6b81420827480ada59cbb41d075d2dcbccbcd", func := "loop.example/g01364/laws.FnSoftFiles", spec := "fnSoftFiles", inPlace := ["math.Float32bits", "internal/abi.NoEscape", "internal/bytealg.MakeNoZero", "math.Float32frombits", "math.Float64bits"], unfollowed := true, recurses := true, apart := false }
def FnSoftFilesSaid : Prop := fnSoftFilesRow.holds Try.pinned (OpenSpec.ofChange fnSoftFilesSpec)

/-- ITS FALSE NEIGHBOUR: 'it returns false'. Refute it at one input. -/
def fnSoftFilesWrong : ChangeSpec := { name := "fnSoftFiles", fn := fun _ => fun
  | [d1, d2] => { results := [.lit (.bool false)], args := [d1, d2] }
  | _ => none }
def FnSoftFilesWrongFalsely : Prop := fnSoftFilesRow.holds Try.pinned (OpenSpec.ofChange fnSoftFilesWrong)

/-- 'laws.FnExactDistanceOf': WHATEVER THE INPUT: true; the input reads as it did. -/
def fnExactDistanceOfSpec : ChangeSpec := { name := "fnExactDistanceOf", fn := fun _ => fun
  | [d] => { results := [.lit (.bool true)], args := [d] }
  | _ => none }
def fnExactDistanceOfRow : OpenClaim := { program := "ytlcnfaodkglhpaa", sum := "8a6296eeb32e8022b14377467be6b81420827480ada59cbb41d075d2dcbccbcd", func := "loop.example/g01364/laws.FnExactDistanceOf", spec := "fnExactDistanceOf", unfollowed := true, recurses := true, apart := false }
def FnExactDistanceOfSaid : Prop := fnExactDistanceOfRow.holds Try.pinned (OpenSpec.ofChange fnExactDistanceOfSpec)

/-- ITS FALSE NEIGHBOUR: 'it returns false'. Refute it at one input. -/
def fnExactDistanceOfWrong : ChangeSpec := { name := "fnExactDistanceOf", fn := fun _ => fun
  | [d] => { results := [.lit (.bool false)], args := [d] }
  | _ => none }
def FnExactDistanceOfWrongFalsely : Prop := fnExactDistanceOfRow.holds Try.pinned (OpenSpec.ofChange fnExactDistanceOfWrong)

/- THE SECOND FORM. 'bulk': how many values and letters a reading holds, each counted each time it is reached (what is shared counts as often as it is met; a slice's spare places count too). A statement '..UptoSaid' is the law's where the arguments, and the package variables that the reading takes, are together of bulk at most 1048576: NARROWER than '..Said'. Prove '..Said' where nothing that the law and all that it calls make is longer than what came in: it says more and counts as full. Else prove '..UptoSaid'. A law counts once. -/
mutual
def uptoBulk {H : Type} : DataW H → Nat
  | .lit (.string bytes) => bytes.length + 1
  | .lit _ => 1
  | .nil => 1
  | .ptr d => uptoBulk d + 1
  | .slice elems spare => uptoBulkAll elems + uptoBulkAll spare + 1
  | .agg parts => uptoBulkAll parts + 1
  | .iface _ d => uptoBulk d + 1
  | .map entries => uptoBulkEntries entries + 1
  | .held _ => 1
def uptoBulkAll {H : Type} : List (DataW H) → Nat
  | [] => 0
  | d :: r => uptoBulk d + uptoBulkAll r
def uptoBulkEntries {H : Type} : List (Lit × DataW H) → Nat
  | [] => 0
  | x :: r => uptoBulkEntry x + uptoBulkEntries r
def uptoBulkEntry {H : Type} : Lit × DataW H → Nat
  | (.string bytes, d) => bytes.length + uptoBulk d + 1
  | (_, d) => uptoBulk d + 1
 end
def uptoSmall : (H : Type) → List (DataW H) → Bool := fun _ ds => decide (uptoBulkAll ds ≤ 1048576)
def OpenSpec.upto (s : _root_.Go.ChangeSpec) : _root_.Go.OpenSpec := { _root_.Go.OpenSpec.ofChange s with cond := some uptoSmall }

/-- 'laws.FnDrops', WHERE WHAT IT READS IS OF BULK AT MOST 1048576: true; the input reads as it did. -/
def fnDropsUptoRow : OpenClaim := { program := "ytlcnfaodkglhpaa", sum := "8a6296eeb32e8022b14377467be6b81420827480ada59cbb41d075d2dcbccbcd", func := "loop.example/g01364/laws.FnDrops", spec := "fnDrops", apart := false, narrowed := true }
def FnDropsUptoSaid : Prop := fnDropsUptoRow.holds Try.pinned (OpenSpec.upto fnDropsSpec)

/-- 'laws.FnExactStoreSaved', WHERE WHAT IT READS IS OF BULK AT MOST 1048576: true; the input reads as it did. -/
def fnExactStoreSavedUptoRow : OpenClaim := { program := "ytlcnfaodkglhpaa", sum := "8a6296eeb32e8022b14377467be6b81420827480ada59cbb41d075d2dcbccbcd", func := "loop.example/g01364/laws.FnExactStoreSaved", spec := "fnExactStoreSaved", inPlace := ["math.Float32bits"], unfollowed := true, recurses := true, apart := false, narrowed := true }
def FnExactStoreSavedUptoSaid : Prop := fnExactStoreSavedUptoRow.holds Try.pinned (OpenSpec.upto fnExactStoreSavedSpec)

/-- 'laws.FnExactStoreAll', WHERE WHAT IT READS IS OF BULK AT MOST 1048576: true; the input reads as it did. -/
def fnExactStoreAllUptoRow : OpenClaim := { program := "ytlcnfaodkglhpaa", sum := "8a6296eeb32e8022b14377467be6b81420827480ada59cbb41d075d2dcbccbcd", func := "loop.example/g01364/laws.FnExactStoreAll", spec := "fnExactStoreAll", inPlace := ["math.Float32bits"], unfollowed := true, recurses := true, apart := false, narrowed := true }
def FnExactStoreAllUptoSaid : Prop := fnExactStoreAllUptoRow.holds Try.pinned (OpenSpec.upto fnExactStoreAllSpec)

/-- 'laws.FnExactSameSaved', WHERE WHAT IT READS IS OF BULK AT MOST 1048576: true; the input reads as it did. -/
def fnExactSameSavedUptoRow : OpenClaim := { program := "ytlcnfaodkglhpaa", sum := "8a6296eeb32e8022b14377467be6b81420827480ada59cbb41d075d2dcbccbcd", func := "loop.example/g01364/laws.FnExactSameSaved", spec := "fnExactSameSaved", inPlace := ["math.Float32bits", "math.Float64bits"], unfollowed := true, recurses := true, apart := false, narrowed := true }
def FnExactSameSavedUptoSaid : Prop := fnExactSameSavedUptoRow.holds Try.pinned (OpenSpec.upto fnExactSameSavedSpec)

/-- 'laws.FnExactPointsOf', WHERE WHAT IT READS IS OF BULK AT MOST 1048576: true; the input reads as it did. -/
def fnExactPointsOfUptoRow : OpenClaim := { program := "ytlcnfaodkglhpaa", sum := "8a6296eeb32e8022b14377467be6b81420827480ada59cbb41d075d2dcbccbcd", func := "loop.example/g01364/laws.FnExactPointsOf", spec := "fnExactPointsOf", unfollowed := true, recurses := true, apart := false, narrowed := true }
def FnExactPointsOfUptoSaid : Prop := fnExactPointsOfUptoRow.holds Try.pinned (OpenSpec.upto fnExactPointsOfSpec)

/-- 'laws.FnExactNewDesk', WHERE WHAT IT READS IS OF BULK AT MOST 1048576: true; the input reads as it did. -/
def fnExactNewDeskUptoRow : OpenClaim := { program := "ytlcnfaodkglhpaa", sum := "8a6296eeb32e8022b14377467be6b81420827480ada59cbb41d075d2dcbccbcd", func := "loop.example/g01364/laws.FnExactNewDesk", spec := "fnExactNewDesk", unfollowed := true, recurses := true, apart := false, narrowed := true }
def FnExactNewDeskUptoSaid : Prop := fnExactNewDeskUptoRow.holds Try.pinned (OpenSpec.upto fnExactNewDeskSpec)

/-- 'laws.FnExactMergedCode', WHERE WHAT IT READS IS OF BULK AT MOST 1048576: true; the input reads as it did. -/
def fnExactMergedCodeUptoRow : OpenClaim := { program := "ytlcnfaodkglhpaa", sum := "8a6296eeb32e8022b14377467be6b81420827480ada59cbb41d075d2dcbccbcd", func := "loop.example/g01364/laws.FnExactMergedCode", spec := "fnExactMergedCode", unfollowed := true, recurses := true, apart := false, narrowed := true }
def FnExactMergedCodeUptoSaid : Prop := fnExactMergedCodeUptoRow.holds Try.pinned (OpenSpec.upto fnExactMergedCodeSpec)

/-- 'laws.FnExactBestWay', WHERE WHAT IT READS IS OF BULK AT MOST 1048576: true; the input reads as it did. -/
def fnExactBestWayUptoRow : OpenClaim := { program := "ytlcnfaodkglhpaa", sum := "8a6296eeb32e8022b14377467be6b81420827480ada59cbb41d075d2dcbccbcd", func := "loop.example/g01364/laws.FnExactBestWay", spec := "fnExactBestWay", unfollowed := true, recurses := true, apart := false, narrowed := true }
def FnExactBestWayUptoSaid : Prop := fnExactBestWayUptoRow.holds Try.pinned (OpenSpec.upto fnExactBestWaySpec)

/-- 'laws.FnGraphs', WHERE WHAT IT READS IS OF BULK AT MOST 1048576: true; the input reads as it did. -/
def fnGraphsUptoRow : OpenClaim := { program := "ytlcnfaodkglhpaa", sum := "8a6296eeb32e8022b14377467be6b81420827480ada59cbb41d075d2dcbccbcd", func := "loop.example/g01364/laws.FnGraphs", spec := "fnGraphs", unfollowed := true, recurses := true, apart := false, narrowed := true }
def FnGraphsUptoSaid : Prop := fnGraphsUptoRow.holds Try.pinned (OpenSpec.upto fnGraphsSpec)

/-- 'laws.FnPolars', WHERE WHAT IT READS IS OF BULK AT MOST 1048576: true; the input reads as it did. -/
def fnPolarsUptoRow : OpenClaim := { program := "ytlcnfaodkglhpaa", sum := "8a6296eeb32e8022b14377467be6b81420827480ada59cbb41d075d2dcbccbcd", func := "loop.example/g01364/laws.FnPolars", spec := "fnPolars", unfollowed := true, recurses := true, apart := false, narrowed := true }
def FnPolarsUptoSaid : Prop := fnPolarsUptoRow.holds Try.pinned (OpenSpec.upto fnPolarsSpec)

/-- 'laws.FnSoftFiles', WHERE WHAT IT READS IS OF BULK AT MOST 1048576: true; the input reads as it did. -/
def fnSoftFilesUptoRow : OpenClaim := { program := "ytlcnfaodkglhpaa", sum := "8a6296eeb32e8022b14377467be6b81420827480ada59cbb41d075d2dcbccbcd", func := "loop.example/g01364/laws.FnSoftFiles", spec := "fnSoftFiles", inPlace := ["math.Float32bits", "internal/abi.NoEscape", "internal/bytealg.MakeNoZero", "math.Float32frombits", "math.Float64bits"], unfollowed := true, recurses := true, apart := false, narrowed := true }
def FnSoftFilesUptoSaid : Prop := fnSoftFilesUptoRow.holds Try.pinned (OpenSpec.upto fnSoftFilesSpec)

/-- 'laws.FnExactDistanceOf', WHERE WHAT IT READS IS OF BULK AT MOST 1048576: true; the input reads as it did. -/
def fnExactDistanceOfUptoRow : OpenClaim := { program := "ytlcnfaodkglhpaa", sum := "8a6296eeb32e8022b14377467be6b81420827480ada59cbb41d075d2dcbccbcd", func := "loop.example/g01364/laws.FnExactDistanceOf", spec := "fnExactDistanceOf", unfollowed := true, recurses := true, apart := false, narrowed := true }
def FnExactDistanceOfUptoSaid : Prop := fnExactDistanceOfUptoRow.holds Try.pinned (OpenSpec.upto fnExactDistanceOfSpec)

end Rows
end Go.Proofs.Ytlcnfaodkglhpaa
