/-
  DERIVED. GIVEN WITH THE SEED: THE CARDS: each row of YtcccfkndkbppbaaGreatDoorRows.lean that lists a variable, with what it lists TIED to the program's text (the seventh form; the later family's looks); each row that meets fmt, with fmt's text TOLD by the authors' own Lean function (tested against real Go, not proved from fmt's source: count such statements apart). THE CARD IS WHAT COUNTS. Prove the row's statement (the work); the ties are given (YtcccfkndkbppbaaGreatDoorTie.lean); close each card by the builder's one call (the guide's Derived/Test/ToyasCard.lean, 'card_holds'). Laid BY PROGRAM, IN A SANDBOX (cutbox-door.mjs). By AI agents, Wed Nov 11 2026. No macro, syntax, notation, axiom, sorry.
-/
import Derived.Test.YtcccfkndkbppbaaGreatDoorRows
import GoSem.ClaimSeven
namespace Go.Proofs.YtcccfkndkbppbaaGreatDoor
namespace Rows

/-- THE TIED CARD OF 'intrusionlaw38.GzipRoundTrip'. -/
def gzipRoundTripCard : Claim7 := { stood := { row := gzipRoundTripRow, standIns := [], harness := (true, "4aafa22ebae0902a830e3b51d71909a76b5317daf51503128b4e18c432cadaf1"), looks := false }, kinds := [], alts := [], laidByText := true, laidKinds := [.sentinel, .widerDeep], laidTests := true, laidLooks := .later }
def GzipRoundTripCardSaid : Prop := Claim7.holds Tryz.pinned (.plain (OpenSpec.ofChange gzipRoundTripSpec)) gzipRoundTripCard

/-- THE TIED CARD OF 'intrusionlaw38.GzipPieces'. -/
def gzipPiecesCard : Claim7 := { stood := { row := gzipPiecesRow, standIns := [], harness := (true, "4aafa22ebae0902a830e3b51d71909a76b5317daf51503128b4e18c432cadaf1"), looks := false }, kinds := [], alts := [], laidByText := true, laidKinds := [.sentinel, .widerDeep], laidTests := true, laidLooks := .later }
def GzipPiecesCardSaid : Prop := Claim7.holds Tryz.pinned (.plain (OpenSpec.ofChange gzipPiecesSpec)) gzipPiecesCard

/-- THE TIED CARD OF 'intrusionlaw38.GzipNone'. -/
def gzipNoneCard : Claim7 := { stood := { row := gzipNoneRow, standIns := [], harness := (true, "4aafa22ebae0902a830e3b51d71909a76b5317daf51503128b4e18c432cadaf1"), looks := false }, kinds := [], alts := [], laidByText := true, laidKinds := [.sentinel, .widerDeep], laidTests := true, laidLooks := .later }
def GzipNoneCardSaid : Prop := Claim7.holds Tryz.pinned (.plain (OpenSpec.ofChange gzipNoneSpec)) gzipNoneCard

/-- THE TIED CARD OF 'intrusionlaw38.GzipParts'. -/
def gzipPartsCard : Claim7 := { stood := { row := gzipPartsRow, standIns := [], harness := (true, "4aafa22ebae0902a830e3b51d71909a76b5317daf51503128b4e18c432cadaf1"), looks := false }, kinds := [], alts := [], laidByText := true, laidKinds := [.sentinel, .widerDeep], laidTests := true, laidLooks := .later }
def GzipPartsCardSaid : Prop := Claim7.holds Tryz.pinned (.plain (OpenSpec.ofChange gzipPartsSpec)) gzipPartsCard

/-- THE SECOND FORM's CARD OF 'intrusionlaw38.GzipRoundTrip'. -/
def gzipRoundTripUptoCard : Claim7 := { stood := { row := gzipRoundTripUptoRow, standIns := [], harness := (true, "4aafa22ebae0902a830e3b51d71909a76b5317daf51503128b4e18c432cadaf1"), looks := false }, kinds := [], alts := [], laidByText := true, laidKinds := [.sentinel, .widerDeep], laidTests := true, laidLooks := .later }
def GzipRoundTripUptoCardSaid : Prop := Claim7.holds Tryz.pinned (.plain (OpenSpec.upto gzipRoundTripSpec)) gzipRoundTripUptoCard

/-- THE SECOND FORM's CARD OF 'intrusionlaw38.GzipPieces'. -/
def gzipPiecesUptoCard : Claim7 := { stood := { row := gzipPiecesUptoRow, standIns := [], harness := (true, "4aafa22ebae0902a830e3b51d71909a76b5317daf51503128b4e18c432cadaf1"), looks := false }, kinds := [], alts := [], laidByText := true, laidKinds := [.sentinel, .widerDeep], laidTests := true, laidLooks := .later }
def GzipPiecesUptoCardSaid : Prop := Claim7.holds Tryz.pinned (.plain (OpenSpec.upto gzipPiecesSpec)) gzipPiecesUptoCard

/-- THE SECOND FORM's CARD OF 'intrusionlaw38.GzipNone'. -/
def gzipNoneUptoCard : Claim7 := { stood := { row := gzipNoneUptoRow, standIns := [], harness := (true, "4aafa22ebae0902a830e3b51d71909a76b5317daf51503128b4e18c432cadaf1"), looks := false }, kinds := [], alts := [], laidByText := true, laidKinds := [.sentinel, .widerDeep], laidTests := true, laidLooks := .later }
def GzipNoneUptoCardSaid : Prop := Claim7.holds Tryz.pinned (.plain (OpenSpec.upto gzipNoneSpec)) gzipNoneUptoCard

/-- THE SECOND FORM's CARD OF 'intrusionlaw38.GzipParts'. -/
def gzipPartsUptoCard : Claim7 := { stood := { row := gzipPartsUptoRow, standIns := [], harness := (true, "4aafa22ebae0902a830e3b51d71909a76b5317daf51503128b4e18c432cadaf1"), looks := false }, kinds := [], alts := [], laidByText := true, laidKinds := [.sentinel, .widerDeep], laidTests := true, laidLooks := .later }
def GzipPartsUptoCardSaid : Prop := Claim7.holds Tryz.pinned (.plain (OpenSpec.upto gzipPartsSpec)) gzipPartsUptoCard
end Rows
end Go.Proofs.YtcccfkndkbppbaaGreatDoor
