/-
  No cell of these rows narrows 'for every input' (looked for: loops, veiled, ifaces, maps, wideKeys, modest, calm, conditions, laid).
  DERIVED. THE GIVEN ROWS OF THIS SEAT. 3 by the template 'for every input the law returns true; each argument reads behind the call as it read before'; 0 by the template 'total and deterministic' (their statements: YtlcdcicdlfakgaaTotals.lean).
  GIVEN WITH THE SEED: the statements are not yours to turn. If you find one false, say at which input.
  Laid BY PROGRAM, IN A SANDBOX (cutbox-rows.mjs): the forced cells as the released guide's own fill.sh prints them over the translation 4b412645cca97c9f… (all of the seat's roots in one cut). By AI agents, Wed Nov 11 2026. No macro, syntax, notation, axiom, sorry.
-/
import Derived.Test.YtlcdcicdlfakgaaChecked
import GoSem.Claim
import GoSem.ClaimJoined
import GoSem.ClaimMapViews
import Derived.JoinedTies
import Derived.KernelRfl
namespace Go.Proofs.Ytlcdcicdlfakgaa
/- THE CELL 'sum', in the pinned program and in every row, IS THE sha256 OF THE DUMP (.gsa) THAT YtlcdcicdlfakgaaProg.lean LOADS. Nothing in Lean hashes anything: it is a label: what it is worth is what the hold of that sum in a sandbox is worth. -/
noncomputable def Try.pinned : Pinned := { name := "ytlcdcicdlfakgaa", sum := "4b412645cca97c9ffa997b8670d21329911333786ec01b491560c6648771d2be", checked := Try.checked }
namespace Rows
def none {H : Type} : Left H := { results := [], args := [] }

/-- 'laws.FnPolars': WHATEVER THE INPUT: true; the input reads as it did. -/
def fnPolarsSpec : ChangeSpec := { name := "fnPolars", fn := fun _ => fun
  | [d1, d2] => { results := [.lit (.bool true)], args := [d1, d2] }
  | _ => none }
def fnPolarsRow : OpenClaim := { program := "ytlcdcicdlfakgaa", sum := "4b412645cca97c9ffa997b8670d21329911333786ec01b491560c6648771d2be", func := "loop.example/g01364/laws.FnPolars", spec := "fnPolars", unfollowed := true, recurses := true, apart := false }
def FnPolarsSaid : Prop := fnPolarsRow.holds Try.pinned (OpenSpec.ofChange fnPolarsSpec)

/-- ITS FALSE NEIGHBOUR: 'it returns false'. Refute it at one input. -/
def fnPolarsWrong : ChangeSpec := { name := "fnPolars", fn := fun _ => fun
  | [d1, d2] => { results := [.lit (.bool false)], args := [d1, d2] }
  | _ => none }
def FnPolarsWrongFalsely : Prop := fnPolarsRow.holds Try.pinned (OpenSpec.ofChange fnPolarsWrong)

/-- 'laws.FnExactBoundedCode': WHATEVER THE INPUT: true; the input reads as it did. -/
def fnExactBoundedCodeSpec : ChangeSpec := { name := "fnExactBoundedCode", fn := fun _ => fun
  | [d1, d2] => { results := [.lit (.bool true)], args := [d1, d2] }
  | _ => none }
def fnExactBoundedCodeRow : OpenClaim := { program := "ytlcdcicdlfakgaa", sum := "4b412645cca97c9ffa997b8670d21329911333786ec01b491560c6648771d2be", func := "loop.example/g01364/laws.FnExactBoundedCode", spec := "fnExactBoundedCode", unfollowed := true, recurses := true, apart := false }
def FnExactBoundedCodeSaid : Prop := fnExactBoundedCodeRow.holds Try.pinned (OpenSpec.ofChange fnExactBoundedCodeSpec)

/-- ITS FALSE NEIGHBOUR: 'it returns false'. Refute it at one input. -/
def fnExactBoundedCodeWrong : ChangeSpec := { name := "fnExactBoundedCode", fn := fun _ => fun
  | [d1, d2] => { results := [.lit (.bool false)], args := [d1, d2] }
  | _ => none }
def FnExactBoundedCodeWrongFalsely : Prop := fnExactBoundedCodeRow.holds Try.pinned (OpenSpec.ofChange fnExactBoundedCodeWrong)

/-- 'laws.FnExactPolarBest': WHATEVER THE INPUT: true; the input reads as it did. -/
def fnExactPolarBestSpec : ChangeSpec := { name := "fnExactPolarBest", fn := fun _ => fun
  | [d1, d2, d3] => { results := [.lit (.bool true)], args := [d1, d2, d3] }
  | _ => none }
def fnExactPolarBestRow : OpenClaim := { program := "ytlcdcicdlfakgaa", sum := "4b412645cca97c9ffa997b8670d21329911333786ec01b491560c6648771d2be", func := "loop.example/g01364/laws.FnExactPolarBest", spec := "fnExactPolarBest", unfollowed := true, recurses := true, apart := false }
def FnExactPolarBestSaid : Prop := fnExactPolarBestRow.holds Try.pinned (OpenSpec.ofChange fnExactPolarBestSpec)

/-- ITS FALSE NEIGHBOUR: 'it returns false'. Refute it at one input. -/
def fnExactPolarBestWrong : ChangeSpec := { name := "fnExactPolarBest", fn := fun _ => fun
  | [d1, d2, d3] => { results := [.lit (.bool false)], args := [d1, d2, d3] }
  | _ => none }
def FnExactPolarBestWrongFalsely : Prop := fnExactPolarBestRow.holds Try.pinned (OpenSpec.ofChange fnExactPolarBestWrong)

/- THE SECOND FORM. 'bulk': how many values and letters a reading holds, each counted each time it is reached (what is shared counts as often as it is met; a slice's spare places count too). A statement '..UptoSaid' is the law's where the arguments, and the package variables that the reading takes, are together of bulk at most 1048576: NARROWER than '..Said'. Prove '..Said' where nothing that the law and all that it calls make is longer than what came in: it says more and counts as full. Else prove '..UptoSaid'. A law counts once. -/
mutual
def uptoBulk {H : Type} : DataW H → Nat
  | .lit (.string bytes) => bytes.length + 1
  | .lit _ => 1
  | .nil => 1
  | .ptr d => uptoBulk d + 1
  | .slice elems spare => uptoBulkAll elems + uptoBulkAll spare + 1
  | .agg parts => uptoBulkAll parts + 1
  | .iface _ d => uptoBulk d + 1
  | .map entries => uptoBulkEntries entries + 1
  | .held _ => 1
def uptoBulkAll {H : Type} : List (DataW H) → Nat
  | [] => 0
  | d :: r => uptoBulk d + uptoBulkAll r
def uptoBulkEntries {H : Type} : List (Lit × DataW H) → Nat
  | [] => 0
  | x :: r => uptoBulkEntry x + uptoBulkEntries r
def uptoBulkEntry {H : Type} : Lit × DataW H → Nat
  | (.string bytes, d) => bytes.length + uptoBulk d + 1
  | (_, d) => uptoBulk d + 1
 end
def uptoSmall : (H : Type) → List (DataW H) → Bool := fun _ ds => decide (uptoBulkAll ds ≤ 1048576)
def OpenSpec.upto (s : _root_.Go.ChangeSpec) : _root_.Go.OpenSpec := { _root_.Go.OpenSpec.ofChange s with cond := some uptoSmall }

/-- 'laws.FnPolars', WHERE WHAT IT READS IS OF BULK AT MOST 1048576: true; the input reads as it did. -/
def fnPolarsUptoRow : OpenClaim := { program := "ytlcdcicdlfakgaa", sum := "4b412645cca97c9ffa997b8670d21329911333786ec01b491560c6648771d2be", func := "loop.example/g01364/laws.FnPolars", spec := "fnPolars", unfollowed := true, recurses := true, apart := false, narrowed := true }
def FnPolarsUptoSaid : Prop := fnPolarsUptoRow.holds Try.pinned (OpenSpec.upto fnPolarsSpec)

/-- 'laws.FnExactBoundedCode', WHERE WHAT IT READS IS OF BULK AT MOST 1048576: true; the input reads as it did. -/
def fnExactBoundedCodeUptoRow : OpenClaim := { program := "ytlcdcicdlfakgaa", sum := "4b412645cca97c9ffa997b8670d21329911333786ec01b491560c6648771d2be", func := "loop.example/g01364/laws.FnExactBoundedCode", spec := "fnExactBoundedCode", unfollowed := true, recurses := true, apart := false, narrowed := true }
def FnExactBoundedCodeUptoSaid : Prop := fnExactBoundedCodeUptoRow.holds Try.pinned (OpenSpec.upto fnExactBoundedCodeSpec)

/-- 'laws.FnExactPolarBest', WHERE WHAT IT READS IS OF BULK AT MOST 1048576: true; the input reads as it did. -/
def fnExactPolarBestUptoRow : OpenClaim := { program := "ytlcdcicdlfakgaa", sum := "4b412645cca97c9ffa997b8670d21329911333786ec01b491560c6648771d2be", func := "loop.example/g01364/laws.FnExactPolarBest", spec := "fnExactPolarBest", unfollowed := true, recurses := true, apart := false, narrowed := true }
def FnExactPolarBestUptoSaid : Prop := fnExactPolarBestUptoRow.holds Try.pinned (OpenSpec.upto fnExactPolarBestSpec)

end Rows
end Go.Proofs.Ytlcdcicdlfakgaa
