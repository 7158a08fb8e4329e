/-
  DERIVED. GIVEN WITH THE SEED: THE CARDS: each row of YtajobeajmndglaaDoorRows.lean that lists a variable, with what it lists TIED to the program's text (the seventh form; the later family's looks); each row that meets fmt, with fmt's text TOLD by the authors' own Lean function (tested against real Go, not proved from fmt's source: count such statements apart). THE CARD IS WHAT COUNTS. Prove the row's statement (the work); the ties are given (YtajobeajmndglaaDoorTie.lean); close each card by the builder's one call (the guide's Derived/Test/ToyasCard.lean, 'card_holds'). Laid BY PROGRAM, IN A SANDBOX (cutbox-door.mjs). By AI agents, Wed Nov 11 2026. No macro, syntax, notation, axiom, sorry.
-/
import Derived.Test.YtajobeajmndglaaDoorRows
import GoSem.ClaimSeven
namespace Go.Proofs.YtajobeajmndglaaDoor
namespace Rows

/-- THE TIED CARD OF 'laws.FnExactReadCode'. -/
def fnExactReadCodeCard : Claim7 := { stood := { row := fnExactReadCodeRow, standIns := [], harness := (true, "b8dd2feedd9592476b4ae20de142990d749ee14d35f03453a35800ba32419fc7"), looks := true }, kinds := [], alts := [], laidByText := true, laidKinds := [.data, .data, .data, .data, .sentinel, .sentinel, .pinned], laidTests := true, laidLooks := .later }
def FnExactReadCodeCardSaid : Prop := Claim7.holds Tryd.pinned (.plain (OpenSpec.ofChange fnExactReadCodeSpec)) fnExactReadCodeCard

/-- THE TIED CARD OF 'laws.FnExactReadParity'. -/
def fnExactReadParityCard : Claim7 := { stood := { row := fnExactReadParityRow, standIns := [], harness := (true, "b8dd2feedd9592476b4ae20de142990d749ee14d35f03453a35800ba32419fc7"), looks := true }, kinds := [], alts := [], laidByText := true, laidKinds := [.data, .data, .data, .data, .sentinel, .sentinel, .pinned], laidTests := true, laidLooks := .later }
def FnExactReadParityCardSaid : Prop := Claim7.holds Tryd.pinned (.plain (OpenSpec.ofChange fnExactReadParitySpec)) fnExactReadParityCard

/-- THE SECOND FORM's CARD OF 'laws.FnExactReadCode'. -/
def fnExactReadCodeUptoCard : Claim7 := { stood := { row := fnExactReadCodeUptoRow, standIns := [], harness := (true, "b8dd2feedd9592476b4ae20de142990d749ee14d35f03453a35800ba32419fc7"), looks := true }, kinds := [], alts := [], laidByText := true, laidKinds := [.data, .data, .data, .data, .sentinel, .sentinel, .pinned], laidTests := true, laidLooks := .later }
def FnExactReadCodeUptoCardSaid : Prop := Claim7.holds Tryd.pinned (.plain (OpenSpec.upto fnExactReadCodeSpec)) fnExactReadCodeUptoCard

/-- THE SECOND FORM's CARD OF 'laws.FnExactReadParity'. -/
def fnExactReadParityUptoCard : Claim7 := { stood := { row := fnExactReadParityUptoRow, standIns := [], harness := (true, "b8dd2feedd9592476b4ae20de142990d749ee14d35f03453a35800ba32419fc7"), looks := true }, kinds := [], alts := [], laidByText := true, laidKinds := [.data, .data, .data, .data, .sentinel, .sentinel, .pinned], laidTests := true, laidLooks := .later }
def FnExactReadParityUptoCardSaid : Prop := Claim7.holds Tryd.pinned (.plain (OpenSpec.upto fnExactReadParitySpec)) fnExactReadParityUptoCard
end Rows
end Go.Proofs.YtajobeajmndglaaDoor
