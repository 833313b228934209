/-
  DERIVED. GIVEN WITH THE SEED: THE CARDS: each row of YtjcoidobndjapaaGreatDoorRows.lean that lists a variable, with what it lists TIED to the program's text (the seventh form; the later family's looks); each row that meets fmt, with fmt's text TOLD by the authors' own Lean function (tested against real Go, not proved from fmt's source: count such statements apart). THE CARD IS WHAT COUNTS. Prove the row's statement (the work); the ties are given (YtjcoidobndjapaaGreatDoorTie.lean); close each card by the builder's one call (the guide's Derived/Test/ToyasCard.lean, 'card_holds'). Laid BY PROGRAM, IN A SANDBOX (cutbox-door.mjs). By AI agents, Wed Nov 11 2026. No macro, syntax, notation, axiom, sorry.
-/
import Derived.Test.YtjcoidobndjapaaGreatDoorRows
import GoSem.ClaimSeven
namespace Go.Proofs.YtjcoidobndjapaaGreatDoor
namespace Rows

/-- THE TIED CARD OF 'intrusionlaw28.HttpmsgSplit'. -/
def httpmsgSplitCard : Claim7 := { stood := { row := httpmsgSplitRow, standIns := [], harness := (true, "02c9215d93a103eb75be4fcd22e320ad1cb3cf9d68c7a9402b2b45792bfd1162"), looks := true }, kinds := [], alts := [], laidByText := true, laidKinds := [.data, .data, .data, .data, .sentinel, .sentinel, .pinned], laidTests := true, laidLooks := .later }
def HttpmsgSplitCardSaid : Prop := Claim7.holds Tryz.pinned (.plain (OpenSpec.ofChange httpmsgSplitSpec)) httpmsgSplitCard

/-- THE TIED CARD OF 'intrusionlaw28.HttpmsgCuts'. -/
def httpmsgCutsCard : Claim7 := { stood := { row := httpmsgCutsRow, standIns := [], harness := (true, "02c9215d93a103eb75be4fcd22e320ad1cb3cf9d68c7a9402b2b45792bfd1162"), looks := true }, kinds := [], alts := [], laidByText := true, laidKinds := [.data, .data, .data, .data, .sentinel, .sentinel, .pinned], laidTests := true, laidLooks := .later }
def HttpmsgCutsCardSaid : Prop := Claim7.holds Tryz.pinned (.plain (OpenSpec.ofChange httpmsgCutsSpec)) httpmsgCutsCard

/-- THE TIED CARD OF 'intrusionlaw28.HttpmsgFormats'. -/
def httpmsgFormatsCard : Claim7 := { stood := { row := httpmsgFormatsRow, standIns := [], harness := (true, "02c9215d93a103eb75be4fcd22e320ad1cb3cf9d68c7a9402b2b45792bfd1162"), looks := true }, kinds := [], alts := [], laidByText := true, laidKinds := [.data, .data, .data, .data, .sentinel, .sentinel, .pinned], laidTests := true, laidLooks := .later }
def HttpmsgFormatsCardSaid : Prop := Claim7.holds Tryz.pinned (.plain (OpenSpec.ofChange httpmsgFormatsSpec)) httpmsgFormatsCard

/-- THE TIED CARD OF 'intrusionlaw28.HttpmsgAgain'. -/
def httpmsgAgainCard : Claim7 := { stood := { row := httpmsgAgainRow, standIns := [], harness := (true, "02c9215d93a103eb75be4fcd22e320ad1cb3cf9d68c7a9402b2b45792bfd1162"), looks := true }, kinds := [], alts := [], laidByText := true, laidKinds := [.data, .data, .data, .data, .sentinel, .sentinel, .pinned], laidTests := true, laidLooks := .later }
def HttpmsgAgainCardSaid : Prop := Claim7.holds Tryz.pinned (.plain (OpenSpec.ofChange httpmsgAgainSpec)) httpmsgAgainCard

/-- THE SECOND FORM's CARD OF 'intrusionlaw28.HttpmsgSplit'. -/
def httpmsgSplitUptoCard : Claim7 := { stood := { row := httpmsgSplitUptoRow, standIns := [], harness := (true, "02c9215d93a103eb75be4fcd22e320ad1cb3cf9d68c7a9402b2b45792bfd1162"), looks := true }, kinds := [], alts := [], laidByText := true, laidKinds := [.data, .data, .data, .data, .sentinel, .sentinel, .pinned], laidTests := true, laidLooks := .later }
def HttpmsgSplitUptoCardSaid : Prop := Claim7.holds Tryz.pinned (.plain (OpenSpec.upto httpmsgSplitSpec)) httpmsgSplitUptoCard

/-- THE SECOND FORM's CARD OF 'intrusionlaw28.HttpmsgCuts'. -/
def httpmsgCutsUptoCard : Claim7 := { stood := { row := httpmsgCutsUptoRow, standIns := [], harness := (true, "02c9215d93a103eb75be4fcd22e320ad1cb3cf9d68c7a9402b2b45792bfd1162"), looks := true }, kinds := [], alts := [], laidByText := true, laidKinds := [.data, .data, .data, .data, .sentinel, .sentinel, .pinned], laidTests := true, laidLooks := .later }
def HttpmsgCutsUptoCardSaid : Prop := Claim7.holds Tryz.pinned (.plain (OpenSpec.upto httpmsgCutsSpec)) httpmsgCutsUptoCard

/-- THE SECOND FORM's CARD OF 'intrusionlaw28.HttpmsgFormats'. -/
def httpmsgFormatsUptoCard : Claim7 := { stood := { row := httpmsgFormatsUptoRow, standIns := [], harness := (true, "02c9215d93a103eb75be4fcd22e320ad1cb3cf9d68c7a9402b2b45792bfd1162"), looks := true }, kinds := [], alts := [], laidByText := true, laidKinds := [.data, .data, .data, .data, .sentinel, .sentinel, .pinned], laidTests := true, laidLooks := .later }
def HttpmsgFormatsUptoCardSaid : Prop := Claim7.holds Tryz.pinned (.plain (OpenSpec.upto httpmsgFormatsSpec)) httpmsgFormatsUptoCard

/-- THE SECOND FORM's CARD OF 'intrusionlaw28.HttpmsgAgain'. -/
def httpmsgAgainUptoCard : Claim7 := { stood := { row := httpmsgAgainUptoRow, standIns := [], harness := (true, "02c9215d93a103eb75be4fcd22e320ad1cb3cf9d68c7a9402b2b45792bfd1162"), looks := true }, kinds := [], alts := [], laidByText := true, laidKinds := [.data, .data, .data, .data, .sentinel, .sentinel, .pinned], laidTests := true, laidLooks := .later }
def HttpmsgAgainUptoCardSaid : Prop := Claim7.holds Tryz.pinned (.plain (OpenSpec.upto httpmsgAgainSpec)) httpmsgAgainUptoCard
end Rows
end Go.Proofs.YtjcoidobndjapaaGreatDoor
