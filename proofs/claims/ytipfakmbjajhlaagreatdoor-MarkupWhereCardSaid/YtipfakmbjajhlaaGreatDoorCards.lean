/-
  DERIVED. GIVEN WITH THE SEED: THE CARDS: each row of YtipfakmbjajhlaaGreatDoorRows.lean that lists a variable, with what it lists TIED to the program's text (the seventh form; the later family's looks); each row that meets fmt, with fmt's text TOLD by the authors' own Lean function (tested against real Go, not proved from fmt's source: count such statements apart). THE CARD IS WHAT COUNTS. Prove the row's statement (the work); the ties are given (YtipfakmbjajhlaaGreatDoorTie.lean); close each card by the builder's one call (the guide's Derived/Test/ToyasCard.lean, 'card_holds'). Laid BY PROGRAM, IN A SANDBOX (cutbox-door.mjs). By AI agents, Wed Nov 11 2026. No macro, syntax, notation, axiom, sorry.
-/
import Derived.Test.YtipfakmbjajhlaaGreatDoorRows
import GoSem.ClaimSeven
namespace Go.Proofs.YtipfakmbjajhlaaGreatDoor
namespace Rows

/-- THE TIED CARD OF 'espalierlaw04.MarkupWhere'. -/
def markupWhereCard : Claim7 := { stood := { row := markupWhereRow, standIns := [], harness := (true, "58da82d4703fd196f16cb3bd5892321bc763dcc5107f3462ab79fe906ef79605"), looks := true }, kinds := [], alts := [], laidByText := true, laidKinds := [.data, .data, .data, .data, .sentinel, .sentinel, .data, .pinned], laidTests := true, laidLooks := .later }
def MarkupWhereCardSaid : Prop := Claim7.holds Tryz.pinned (.plain (OpenSpec.ofChange markupWhereSpec)) markupWhereCard

/-- THE TIED CARD OF 'espalierlaw04.MarkupBack'. -/
def markupBackCard : Claim7 := { stood := { row := markupBackRow, standIns := [], harness := (true, "58da82d4703fd196f16cb3bd5892321bc763dcc5107f3462ab79fe906ef79605"), looks := true }, kinds := [], alts := [], laidByText := true, laidKinds := [.data, .data, .data, .data, .sentinel, .sentinel, .data, .pinned], laidTests := true, laidLooks := .later }
def MarkupBackCardSaid : Prop := Claim7.holds Tryz.pinned (.plain (OpenSpec.ofChange markupBackSpec)) markupBackCard

/-- THE TIED CARD OF 'espalierlaw04.MarkupLoose'. -/
def markupLooseCard : Claim7 := { stood := { row := markupLooseRow, standIns := [], harness := (true, "58da82d4703fd196f16cb3bd5892321bc763dcc5107f3462ab79fe906ef79605"), looks := true }, kinds := [], alts := [], laidByText := true, laidKinds := [.data, .data, .data, .data, .sentinel, .sentinel, .data, .pinned], laidTests := true, laidLooks := .later }
def MarkupLooseCardSaid : Prop := Claim7.holds Tryz.pinned (.plain (OpenSpec.ofChange markupLooseSpec)) markupLooseCard

/-- THE TIED CARD OF 'espalierlaw06.EventsWithin'. -/
def eventsWithinCard : Claim7 := { stood := { row := eventsWithinRow, standIns := [], harness := (true, "58da82d4703fd196f16cb3bd5892321bc763dcc5107f3462ab79fe906ef79605"), looks := true }, kinds := [], alts := [], laidByText := true, laidKinds := [.data, .data, .data, .data, .sentinel, .sentinel, .data, .pinned], laidTests := true, laidLooks := .later }
def EventsWithinCardSaid : Prop := Claim7.holds Tryz.pinned (.plain (OpenSpec.ofChange eventsWithinSpec)) eventsWithinCard

/-- THE TIED CARD OF 'espalierlaw06.EventsMerged'. -/
def eventsMergedCard : Claim7 := { stood := { row := eventsMergedRow, standIns := [], harness := (true, "58da82d4703fd196f16cb3bd5892321bc763dcc5107f3462ab79fe906ef79605"), looks := true }, kinds := [], alts := [], laidByText := true, laidKinds := [.data, .data, .data, .data, .sentinel, .sentinel, .data, .pinned], laidTests := true, laidLooks := .later }
def EventsMergedCardSaid : Prop := Claim7.holds Tryz.pinned (.plain (OpenSpec.ofChange eventsMergedSpec)) eventsMergedCard

/-- THE TIED CARD OF 'espalierlaw06.EventsTwice'. -/
def eventsTwiceCard : Claim7 := { stood := { row := eventsTwiceRow, standIns := [], harness := (true, "58da82d4703fd196f16cb3bd5892321bc763dcc5107f3462ab79fe906ef79605"), looks := true }, kinds := [], alts := [], laidByText := true, laidKinds := [.data, .data, .data, .data, .sentinel, .sentinel, .data, .pinned], laidTests := true, laidLooks := .later }
def EventsTwiceCardSaid : Prop := Claim7.holds Tryz.pinned (.plain (OpenSpec.ofChange eventsTwiceSpec)) eventsTwiceCard

/-- THE TIED CARD OF 'espalierlaw06.EventsAsked'. -/
def eventsAskedCard : Claim7 := { stood := { row := eventsAskedRow, standIns := [], harness := (true, "58da82d4703fd196f16cb3bd5892321bc763dcc5107f3462ab79fe906ef79605"), looks := true }, kinds := [], alts := [], laidByText := true, laidKinds := [.data, .data, .data, .data, .sentinel, .sentinel, .data, .pinned], laidTests := true, laidLooks := .later }
def EventsAskedCardSaid : Prop := Claim7.holds Tryz.pinned (.plain (OpenSpec.ofChange eventsAskedSpec)) eventsAskedCard

/-- THE TIED CARD OF 'espalierlaw06.EventsBack'. -/
def eventsBackCard : Claim7 := { stood := { row := eventsBackRow, standIns := [], harness := (true, "58da82d4703fd196f16cb3bd5892321bc763dcc5107f3462ab79fe906ef79605"), looks := true }, kinds := [], alts := [], laidByText := true, laidKinds := [.data, .data, .data, .data, .sentinel, .sentinel, .data, .pinned], laidTests := true, laidLooks := .later }
def EventsBackCardSaid : Prop := Claim7.holds Tryz.pinned (.plain (OpenSpec.ofChange eventsBackSpec)) eventsBackCard

/-- THE SECOND FORM's CARD OF 'espalierlaw04.MarkupWhere'. -/
def markupWhereUptoCard : Claim7 := { stood := { row := markupWhereUptoRow, standIns := [], harness := (true, "58da82d4703fd196f16cb3bd5892321bc763dcc5107f3462ab79fe906ef79605"), looks := true }, kinds := [], alts := [], laidByText := true, laidKinds := [.data, .data, .data, .data, .sentinel, .sentinel, .data, .pinned], laidTests := true, laidLooks := .later }
def MarkupWhereUptoCardSaid : Prop := Claim7.holds Tryz.pinned (.plain (OpenSpec.upto markupWhereSpec)) markupWhereUptoCard

/-- THE SECOND FORM's CARD OF 'espalierlaw04.MarkupBack'. -/
def markupBackUptoCard : Claim7 := { stood := { row := markupBackUptoRow, standIns := [], harness := (true, "58da82d4703fd196f16cb3bd5892321bc763dcc5107f3462ab79fe906ef79605"), looks := true }, kinds := [], alts := [], laidByText := true, laidKinds := [.data, .data, .data, .data, .sentinel, .sentinel, .data, .pinned], laidTests := true, laidLooks := .later }
def MarkupBackUptoCardSaid : Prop := Claim7.holds Tryz.pinned (.plain (OpenSpec.upto markupBackSpec)) markupBackUptoCard

/-- THE SECOND FORM's CARD OF 'espalierlaw04.MarkupLoose'. -/
def markupLooseUptoCard : Claim7 := { stood := { row := markupLooseUptoRow, standIns := [], harness := (true, "58da82d4703fd196f16cb3bd5892321bc763dcc5107f3462ab79fe906ef79605"), looks := true }, kinds := [], alts := [], laidByText := true, laidKinds := [.data, .data, .data, .data, .sentinel, .sentinel, .data, .pinned], laidTests := true, laidLooks := .later }
def MarkupLooseUptoCardSaid : Prop := Claim7.holds Tryz.pinned (.plain (OpenSpec.upto markupLooseSpec)) markupLooseUptoCard

/-- THE SECOND FORM's CARD OF 'espalierlaw06.EventsWithin'. -/
def eventsWithinUptoCard : Claim7 := { stood := { row := eventsWithinUptoRow, standIns := [], harness := (true, "58da82d4703fd196f16cb3bd5892321bc763dcc5107f3462ab79fe906ef79605"), looks := true }, kinds := [], alts := [], laidByText := true, laidKinds := [.data, .data, .data, .data, .sentinel, .sentinel, .data, .pinned], laidTests := true, laidLooks := .later }
def EventsWithinUptoCardSaid : Prop := Claim7.holds Tryz.pinned (.plain (OpenSpec.upto eventsWithinSpec)) eventsWithinUptoCard

/-- THE SECOND FORM's CARD OF 'espalierlaw06.EventsMerged'. -/
def eventsMergedUptoCard : Claim7 := { stood := { row := eventsMergedUptoRow, standIns := [], harness := (true, "58da82d4703fd196f16cb3bd5892321bc763dcc5107f3462ab79fe906ef79605"), looks := true }, kinds := [], alts := [], laidByText := true, laidKinds := [.data, .data, .data, .data, .sentinel, .sentinel, .data, .pinned], laidTests := true, laidLooks := .later }
def EventsMergedUptoCardSaid : Prop := Claim7.holds Tryz.pinned (.plain (OpenSpec.upto eventsMergedSpec)) eventsMergedUptoCard

/-- THE SECOND FORM's CARD OF 'espalierlaw06.EventsTwice'. -/
def eventsTwiceUptoCard : Claim7 := { stood := { row := eventsTwiceUptoRow, standIns := [], harness := (true, "58da82d4703fd196f16cb3bd5892321bc763dcc5107f3462ab79fe906ef79605"), looks := true }, kinds := [], alts := [], laidByText := true, laidKinds := [.data, .data, .data, .data, .sentinel, .sentinel, .data, .pinned], laidTests := true, laidLooks := .later }
def EventsTwiceUptoCardSaid : Prop := Claim7.holds Tryz.pinned (.plain (OpenSpec.upto eventsTwiceSpec)) eventsTwiceUptoCard

/-- THE SECOND FORM's CARD OF 'espalierlaw06.EventsAsked'. -/
def eventsAskedUptoCard : Claim7 := { stood := { row := eventsAskedUptoRow, standIns := [], harness := (true, "58da82d4703fd196f16cb3bd5892321bc763dcc5107f3462ab79fe906ef79605"), looks := true }, kinds := [], alts := [], laidByText := true, laidKinds := [.data, .data, .data, .data, .sentinel, .sentinel, .data, .pinned], laidTests := true, laidLooks := .later }
def EventsAskedUptoCardSaid : Prop := Claim7.holds Tryz.pinned (.plain (OpenSpec.upto eventsAskedSpec)) eventsAskedUptoCard

/-- THE SECOND FORM's CARD OF 'espalierlaw06.EventsBack'. -/
def eventsBackUptoCard : Claim7 := { stood := { row := eventsBackUptoRow, standIns := [], harness := (true, "58da82d4703fd196f16cb3bd5892321bc763dcc5107f3462ab79fe906ef79605"), looks := true }, kinds := [], alts := [], laidByText := true, laidKinds := [.data, .data, .data, .data, .sentinel, .sentinel, .data, .pinned], laidTests := true, laidLooks := .later }
def EventsBackUptoCardSaid : Prop := Claim7.holds Tryz.pinned (.plain (OpenSpec.upto eventsBackSpec)) eventsBackUptoCard
end Rows
end Go.Proofs.YtipfakmbjajhlaaGreatDoor
