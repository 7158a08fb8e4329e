/-
  DERIVED. GIVEN WITH THE SEED: THE CARDS: each row of YthccklkonfappaaDoorRows.lean that lists a variable, with what it lists TIED to the program's text (the seventh form; the later family's looks); each row that meets fmt, with fmt's text TOLD by the authors' own Lean function (tested against real Go, not proved from fmt's source: count such statements apart). THE CARD IS WHAT COUNTS. Prove the row's statement (the work); the ties are given (YthccklkonfappaaDoorTie.lean); close each card by the builder's one call (the guide's Derived/Test/ToyasCard.lean, 'card_holds'). Laid BY PROGRAM, IN A SANDBOX (cutbox-door.mjs). By AI agents, Wed Nov 11 2026. No macro, syntax, notation, axiom, sorry.
-/
import Derived.Test.YthccklkonfappaaDoorRows
import GoSem.ClaimSeven
namespace Go.Proofs.YthccklkonfappaaDoor
namespace Rows

/-- THE TIED CARD OF 'laws.FnExactCodeText'. -/
def fnExactCodeTextCard : Claim7 := { stood := { row := fnExactCodeTextRow, standIns := [], harness := (true, "6bdeae373d886c2ca985acca62f11b52d192ec69965aa571021953de2d67f83a"), looks := false }, kinds := [], alts := [], laidByText := true, laidKinds := [.data, .data, .data], laidTests := true, laidLooks := .later }
def FnExactCodeTextCardSaid : Prop := Claim7.holds Tryd.pinned (.plain (OpenSpec.ofChange fnExactCodeTextSpec)) fnExactCodeTextCard

/-- THE TIED CARD OF 'laws.FnExactParityText'. -/
def fnExactParityTextCard : Claim7 := { stood := { row := fnExactParityTextRow, standIns := [], harness := (true, "6bdeae373d886c2ca985acca62f11b52d192ec69965aa571021953de2d67f83a"), looks := false }, kinds := [], alts := [], laidByText := true, laidKinds := [.data, .data, .data], laidTests := true, laidLooks := .later }
def FnExactParityTextCardSaid : Prop := Claim7.holds Tryd.pinned (.plain (OpenSpec.ofChange fnExactParityTextSpec)) fnExactParityTextCard

/-- THE TIED CARD OF 'laws.FnExactJournalOf'. -/
def fnExactJournalOfCard : Claim7 := { stood := { row := fnExactJournalOfRow, standIns := [], harness := (true, "6bdeae373d886c2ca985acca62f11b52d192ec69965aa571021953de2d67f83a"), looks := false }, kinds := [], alts := [], laidByText := true, laidKinds := [.data, .data, .data], laidTests := true, laidLooks := .later }
def FnExactJournalOfCardSaid : Prop := Claim7.holds Tryd.pinned (.plain (OpenSpec.ofChange fnExactJournalOfSpec)) fnExactJournalOfCard

/-- THE TIED CARD OF 'laws.FnExactRecoverJournal'. -/
def fnExactRecoverJournalCard : Claim7 := { stood := { row := fnExactRecoverJournalRow, standIns := [], harness := (true, "6bdeae373d886c2ca985acca62f11b52d192ec69965aa571021953de2d67f83a"), looks := false }, kinds := [], alts := [], laidByText := true, laidKinds := [.data, .data, .data], laidTests := true, laidLooks := .later }
def FnExactRecoverJournalCardSaid : Prop := Claim7.holds Tryd.pinned (.plain (OpenSpec.ofChange fnExactRecoverJournalSpec)) fnExactRecoverJournalCard

/-- THE SECOND FORM's CARD OF 'laws.FnExactCodeText'. -/
def fnExactCodeTextUptoCard : Claim7 := { stood := { row := fnExactCodeTextUptoRow, standIns := [], harness := (true, "6bdeae373d886c2ca985acca62f11b52d192ec69965aa571021953de2d67f83a"), looks := false }, kinds := [], alts := [], laidByText := true, laidKinds := [.data, .data, .data], laidTests := true, laidLooks := .later }
def FnExactCodeTextUptoCardSaid : Prop := Claim7.holds Tryd.pinned (.plain (OpenSpec.upto fnExactCodeTextSpec)) fnExactCodeTextUptoCard

/-- THE SECOND FORM's CARD OF 'laws.FnExactParityText'. -/
def fnExactParityTextUptoCard : Claim7 := { stood := { row := fnExactParityTextUptoRow, standIns := [], harness := (true, "6bdeae373d886c2ca985acca62f11b52d192ec69965aa571021953de2d67f83a"), looks := false }, kinds := [], alts := [], laidByText := true, laidKinds := [.data, .data, .data], laidTests := true, laidLooks := .later }
def FnExactParityTextUptoCardSaid : Prop := Claim7.holds Tryd.pinned (.plain (OpenSpec.upto fnExactParityTextSpec)) fnExactParityTextUptoCard

/-- THE SECOND FORM's CARD OF 'laws.FnExactJournalOf'. -/
def fnExactJournalOfUptoCard : Claim7 := { stood := { row := fnExactJournalOfUptoRow, standIns := [], harness := (true, "6bdeae373d886c2ca985acca62f11b52d192ec69965aa571021953de2d67f83a"), looks := false }, kinds := [], alts := [], laidByText := true, laidKinds := [.data, .data, .data], laidTests := true, laidLooks := .later }
def FnExactJournalOfUptoCardSaid : Prop := Claim7.holds Tryd.pinned (.plain (OpenSpec.upto fnExactJournalOfSpec)) fnExactJournalOfUptoCard

/-- THE SECOND FORM's CARD OF 'laws.FnExactRecoverJournal'. -/
def fnExactRecoverJournalUptoCard : Claim7 := { stood := { row := fnExactRecoverJournalUptoRow, standIns := [], harness := (true, "6bdeae373d886c2ca985acca62f11b52d192ec69965aa571021953de2d67f83a"), looks := false }, kinds := [], alts := [], laidByText := true, laidKinds := [.data, .data, .data], laidTests := true, laidLooks := .later }
def FnExactRecoverJournalUptoCardSaid : Prop := Claim7.holds Tryd.pinned (.plain (OpenSpec.upto fnExactRecoverJournalSpec)) fnExactRecoverJournalUptoCard
end Rows
end Go.Proofs.YthccklkonfappaaDoor
