/-
  DERIVED. GIVEN WITH THE SEED: THE CARDS: each row of YtjmpcoedfoaebaaGreatDoorRows.lean that lists a variable, with what it lists TIED to the program's text (the seventh form; the later family's looks); each row that meets fmt, with fmt's text TOLD by the authors' own Lean function (tested against real Go, not proved from fmt's source: count such statements apart). THE CARD IS WHAT COUNTS. Prove the row's statement (the work); the ties are given (YtjmpcoedfoaebaaGreatDoorTie.lean); close each card by the builder's one call (the guide's Derived/Test/ToyasCard.lean, 'card_holds'). Laid BY PROGRAM, IN A SANDBOX (cutbox-door.mjs). By AI agents, Wed Nov 11 2026. No macro, syntax, notation, axiom, sorry.
-/
import Derived.Test.YtjmpcoedfoaebaaGreatDoorRows
import GoSem.ClaimSeven
namespace Go.Proofs.YtjmpcoedfoaebaaGreatDoor
namespace Rows

/-- THE TIED CARD OF 'rosterlaw10.TextParses'. -/
def textParsesCard : Claim7 := { stood := { row := textParsesRow, standIns := [], harness := (true, "3c4e42ac31af41ccb66875d9be22d87a2b610bc7893e2643c67be9b43efa2274"), looks := true }, kinds := [], alts := [], laidByText := true, laidKinds := [.data, .handle, .data, .data, .data, .pinned, .pinned], laidTests := true, laidLooks := .later }
def TextParsesCardSaid : Prop := Claim7.holds Tryz.pinned (.plain (OpenSpec.ofChange textParsesSpec)) textParsesCard

/-- THE TIED CARD OF 'rosterlaw10.TextPrints'. -/
def textPrintsCard : Claim7 := { stood := { row := textPrintsRow, standIns := [], harness := (true, "3c4e42ac31af41ccb66875d9be22d87a2b610bc7893e2643c67be9b43efa2274"), looks := true }, kinds := [], alts := [], laidByText := true, laidKinds := [.data, .handle, .data, .data, .data, .pinned, .pinned], laidTests := true, laidLooks := .later }
def TextPrintsCardSaid : Prop := Claim7.holds Tryz.pinned (.plain (OpenSpec.ofChange textPrintsSpec)) textPrintsCard

/-- THE TIED CARD OF 'rosterlaw10.TextDescs'. -/
def textDescsCard : Claim7 := { stood := { row := textDescsRow, standIns := [], harness := (true, "3c4e42ac31af41ccb66875d9be22d87a2b610bc7893e2643c67be9b43efa2274"), looks := true }, kinds := [], alts := [], laidByText := true, laidKinds := [.data, .handle, .data, .data, .data, .pinned, .pinned], laidTests := true, laidLooks := .later }
def TextDescsCardSaid : Prop := Claim7.holds Tryz.pinned (.plain (OpenSpec.ofChange textDescsSpec)) textDescsCard

/-- THE TIED CARD OF 'rosterlaw10.TextNames'. -/
def textNamesCard : Claim7 := { stood := { row := textNamesRow, standIns := [], harness := (true, "3c4e42ac31af41ccb66875d9be22d87a2b610bc7893e2643c67be9b43efa2274"), looks := true }, kinds := [], alts := [], laidByText := true, laidKinds := [.data, .handle, .data, .data, .data, .pinned, .pinned], laidTests := true, laidLooks := .later }
def TextNamesCardSaid : Prop := Claim7.holds Tryz.pinned (.plain (OpenSpec.ofChange textNamesSpec)) textNamesCard

/-- THE TIED CARD OF 'rosterlaw10.TextBack'. -/
def textBackCard : Claim7 := { stood := { row := textBackRow, standIns := [], harness := (true, "3c4e42ac31af41ccb66875d9be22d87a2b610bc7893e2643c67be9b43efa2274"), looks := true }, kinds := [], alts := [], laidByText := true, laidKinds := [.data, .handle, .data, .data, .data, .pinned, .pinned], laidTests := true, laidLooks := .later }
def TextBackCardSaid : Prop := Claim7.holds Tryz.pinned (.plain (OpenSpec.ofChange textBackSpec)) textBackCard

/-- THE TIED CARD OF 'rosterlaw10.TextReads'. -/
def textReadsCard : Claim7 := { stood := { row := textReadsRow, standIns := [], harness := (true, "3c4e42ac31af41ccb66875d9be22d87a2b610bc7893e2643c67be9b43efa2274"), looks := true }, kinds := [], alts := [], laidByText := true, laidKinds := [.data, .handle, .data, .data, .data, .pinned, .pinned], laidTests := true, laidLooks := .later }
def TextReadsCardSaid : Prop := Claim7.holds Tryz.pinned (.plain (OpenSpec.ofChange textReadsSpec)) textReadsCard

/-- THE TIED CARD OF 'rosterlaw10.TextCut'. -/
def textCutCard : Claim7 := { stood := { row := textCutRow, standIns := [], harness := (true, "3c4e42ac31af41ccb66875d9be22d87a2b610bc7893e2643c67be9b43efa2274"), looks := true }, kinds := [], alts := [], laidByText := true, laidKinds := [.data, .handle, .data, .data, .data, .pinned, .pinned], laidTests := true, laidLooks := .later }
def TextCutCardSaid : Prop := Claim7.holds Tryz.pinned (.plain (OpenSpec.ofChange textCutSpec)) textCutCard

/-- THE TIED CARD OF 'rosterlaw10.TextDeep'. -/
def textDeepCard : Claim7 := { stood := { row := textDeepRow, standIns := [], harness := (true, "3c4e42ac31af41ccb66875d9be22d87a2b610bc7893e2643c67be9b43efa2274"), looks := true }, kinds := [], alts := [], laidByText := true, laidKinds := [.data, .handle, .data, .data, .data, .pinned, .pinned], laidTests := true, laidLooks := .later }
def TextDeepCardSaid : Prop := Claim7.holds Tryz.pinned (.plain (OpenSpec.ofChange textDeepSpec)) textDeepCard

/-- THE SECOND FORM's CARD OF 'rosterlaw10.TextParses'. -/
def textParsesUptoCard : Claim7 := { stood := { row := textParsesUptoRow, standIns := [], harness := (true, "3c4e42ac31af41ccb66875d9be22d87a2b610bc7893e2643c67be9b43efa2274"), looks := true }, kinds := [], alts := [], laidByText := true, laidKinds := [.data, .handle, .data, .data, .data, .pinned, .pinned], laidTests := true, laidLooks := .later }
def TextParsesUptoCardSaid : Prop := Claim7.holds Tryz.pinned (.plain (OpenSpec.upto textParsesSpec)) textParsesUptoCard

/-- THE SECOND FORM's CARD OF 'rosterlaw10.TextPrints'. -/
def textPrintsUptoCard : Claim7 := { stood := { row := textPrintsUptoRow, standIns := [], harness := (true, "3c4e42ac31af41ccb66875d9be22d87a2b610bc7893e2643c67be9b43efa2274"), looks := true }, kinds := [], alts := [], laidByText := true, laidKinds := [.data, .handle, .data, .data, .data, .pinned, .pinned], laidTests := true, laidLooks := .later }
def TextPrintsUptoCardSaid : Prop := Claim7.holds Tryz.pinned (.plain (OpenSpec.upto textPrintsSpec)) textPrintsUptoCard

/-- THE SECOND FORM's CARD OF 'rosterlaw10.TextDescs'. -/
def textDescsUptoCard : Claim7 := { stood := { row := textDescsUptoRow, standIns := [], harness := (true, "3c4e42ac31af41ccb66875d9be22d87a2b610bc7893e2643c67be9b43efa2274"), looks := true }, kinds := [], alts := [], laidByText := true, laidKinds := [.data, .handle, .data, .data, .data, .pinned, .pinned], laidTests := true, laidLooks := .later }
def TextDescsUptoCardSaid : Prop := Claim7.holds Tryz.pinned (.plain (OpenSpec.upto textDescsSpec)) textDescsUptoCard

/-- THE SECOND FORM's CARD OF 'rosterlaw10.TextNames'. -/
def textNamesUptoCard : Claim7 := { stood := { row := textNamesUptoRow, standIns := [], harness := (true, "3c4e42ac31af41ccb66875d9be22d87a2b610bc7893e2643c67be9b43efa2274"), looks := true }, kinds := [], alts := [], laidByText := true, laidKinds := [.data, .handle, .data, .data, .data, .pinned, .pinned], laidTests := true, laidLooks := .later }
def TextNamesUptoCardSaid : Prop := Claim7.holds Tryz.pinned (.plain (OpenSpec.upto textNamesSpec)) textNamesUptoCard

/-- THE SECOND FORM's CARD OF 'rosterlaw10.TextBack'. -/
def textBackUptoCard : Claim7 := { stood := { row := textBackUptoRow, standIns := [], harness := (true, "3c4e42ac31af41ccb66875d9be22d87a2b610bc7893e2643c67be9b43efa2274"), looks := true }, kinds := [], alts := [], laidByText := true, laidKinds := [.data, .handle, .data, .data, .data, .pinned, .pinned], laidTests := true, laidLooks := .later }
def TextBackUptoCardSaid : Prop := Claim7.holds Tryz.pinned (.plain (OpenSpec.upto textBackSpec)) textBackUptoCard

/-- THE SECOND FORM's CARD OF 'rosterlaw10.TextReads'. -/
def textReadsUptoCard : Claim7 := { stood := { row := textReadsUptoRow, standIns := [], harness := (true, "3c4e42ac31af41ccb66875d9be22d87a2b610bc7893e2643c67be9b43efa2274"), looks := true }, kinds := [], alts := [], laidByText := true, laidKinds := [.data, .handle, .data, .data, .data, .pinned, .pinned], laidTests := true, laidLooks := .later }
def TextReadsUptoCardSaid : Prop := Claim7.holds Tryz.pinned (.plain (OpenSpec.upto textReadsSpec)) textReadsUptoCard

/-- THE SECOND FORM's CARD OF 'rosterlaw10.TextCut'. -/
def textCutUptoCard : Claim7 := { stood := { row := textCutUptoRow, standIns := [], harness := (true, "3c4e42ac31af41ccb66875d9be22d87a2b610bc7893e2643c67be9b43efa2274"), looks := true }, kinds := [], alts := [], laidByText := true, laidKinds := [.data, .handle, .data, .data, .data, .pinned, .pinned], laidTests := true, laidLooks := .later }
def TextCutUptoCardSaid : Prop := Claim7.holds Tryz.pinned (.plain (OpenSpec.upto textCutSpec)) textCutUptoCard

/-- THE SECOND FORM's CARD OF 'rosterlaw10.TextDeep'. -/
def textDeepUptoCard : Claim7 := { stood := { row := textDeepUptoRow, standIns := [], harness := (true, "3c4e42ac31af41ccb66875d9be22d87a2b610bc7893e2643c67be9b43efa2274"), looks := true }, kinds := [], alts := [], laidByText := true, laidKinds := [.data, .handle, .data, .data, .data, .pinned, .pinned], laidTests := true, laidLooks := .later }
def TextDeepUptoCardSaid : Prop := Claim7.holds Tryz.pinned (.plain (OpenSpec.upto textDeepSpec)) textDeepUptoCard
end Rows
end Go.Proofs.YtjmpcoedfoaebaaGreatDoor
