/-
  DERIVED. GIVEN WITH THE SEED: THE CARDS: each row of YtklieghmbhofnaaDoorRows.lean that lists a variable, with what it lists TIED to the program's text (the seventh form; the later family's looks); each row that meets fmt, with fmt's text TOLD by the authors' own Lean function (tested against real Go, not proved from fmt's source: count such statements apart). THE CARD IS WHAT COUNTS. Prove the row's statement (the work); the ties are given (YtklieghmbhofnaaDoorTie.lean); close each card by the builder's one call (the guide's Derived/Test/ToyasCard.lean, 'card_holds'). Laid BY PROGRAM, IN A SANDBOX (cutbox-door.mjs). By AI agents, Wed Nov 11 2026. No macro, syntax, notation, axiom, sorry.
-/
import Derived.Test.YtklieghmbhofnaaDoorRows
import GoSem.ClaimSeven
namespace Go.Proofs.YtklieghmbhofnaaDoor
namespace Rows

/-- THE TIED CARD OF 'witnesslaw1.DigestMores'. -/
def digestMoresCard : Claim7 := { stood := { row := digestMoresRow, standIns := [], harness := (true, "e99e55ac032088013b7da51c6fe76e12dd7a2c4cc9b7cdc858b175573322716b"), looks := false }, kinds := [], alts := [], laidByText := true, laidKinds := [.data], laidTests := true, laidLooks := .later }
def DigestMoresCardSaid : Prop := Claim7.holds Tryd.pinned (.plain (OpenSpec.ofChange digestMoresSpec)) digestMoresCard

/-- THE TIED CARD OF 'witnesslaw1.DigestChecks'. -/
def digestChecksCard : Claim7 := { stood := { row := digestChecksRow, standIns := [], harness := (true, "e99e55ac032088013b7da51c6fe76e12dd7a2c4cc9b7cdc858b175573322716b"), looks := false }, kinds := [], alts := [], laidByText := true, laidKinds := [.data], laidTests := true, laidLooks := .later }
def DigestChecksCardSaid : Prop := Claim7.holds Tryd.pinned (.plain (OpenSpec.ofChange digestChecksSpec)) digestChecksCard

/-- THE TIED CARD OF 'witnesslaw1.DigestPieces'. -/
def digestPiecesCard : Claim7 := { stood := { row := digestPiecesRow, standIns := [], harness := (true, "e99e55ac032088013b7da51c6fe76e12dd7a2c4cc9b7cdc858b175573322716b"), looks := false }, kinds := [], alts := [], laidByText := true, laidKinds := [.data, .data], laidTests := true, laidLooks := .later }
def DigestPiecesCardSaid : Prop := Claim7.holds Tryd.pinned (.plain (OpenSpec.ofChange digestPiecesSpec)) digestPiecesCard

/-- THE TIED CARD OF 'witnesslaw1.DigestTexts'. -/
def digestTextsCard : Claim7 := { stood := { row := digestTextsRow, standIns := [], harness := (true, "e99e55ac032088013b7da51c6fe76e12dd7a2c4cc9b7cdc858b175573322716b"), looks := false }, kinds := [], alts := [], laidByText := true, laidKinds := [.data, .data], laidTests := true, laidLooks := .later }
def DigestTextsCardSaid : Prop := Claim7.holds Tryd.pinned (.plain (OpenSpec.ofChange digestTextsSpec)) digestTextsCard

/-- THE TIED CARD OF 'witnesslaw1.DigestMacs'. -/
def digestMacsCard : Claim7 := { stood := { row := digestMacsRow, standIns := [], harness := (true, "e99e55ac032088013b7da51c6fe76e12dd7a2c4cc9b7cdc858b175573322716b"), looks := false }, kinds := [], alts := [], laidByText := true, laidKinds := [.data, .data], laidTests := true, laidLooks := .later }
def DigestMacsCardSaid : Prop := Claim7.holds Tryd.pinned (.plain (OpenSpec.ofChange digestMacsSpec)) digestMacsCard

/-- THE TIED CARD OF 'witnesslaw1.DigestBursts'. -/
def digestBurstsCard : Claim7 := { stood := { row := digestBurstsRow, standIns := [], harness := (true, "e99e55ac032088013b7da51c6fe76e12dd7a2c4cc9b7cdc858b175573322716b"), looks := false }, kinds := [], alts := [], laidByText := true, laidKinds := [.data, .data, .data], laidTests := true, laidLooks := .later }
def DigestBurstsCardSaid : Prop := Claim7.holds Tryd.pinned (.plain (OpenSpec.ofChange digestBurstsSpec)) digestBurstsCard

/-- THE TIED CARD OF 'witnesslaw1.DigestLinear'. -/
def digestLinearCard : Claim7 := { stood := { row := digestLinearRow, standIns := [], harness := (true, "e99e55ac032088013b7da51c6fe76e12dd7a2c4cc9b7cdc858b175573322716b"), looks := false }, kinds := [], alts := [], laidByText := true, laidKinds := [.data, .data, .data], laidTests := true, laidLooks := .later }
def DigestLinearCardSaid : Prop := Claim7.holds Tryd.pinned (.plain (OpenSpec.ofChange digestLinearSpec)) digestLinearCard

/-- THE TIED CARD OF 'witnesslaw1.DigestCuts'. -/
def digestCutsCard : Claim7 := { stood := { row := digestCutsRow, standIns := [], harness := (true, "e99e55ac032088013b7da51c6fe76e12dd7a2c4cc9b7cdc858b175573322716b"), looks := false }, kinds := [], alts := [], laidByText := true, laidKinds := [.data, .data, .data], laidTests := true, laidLooks := .later }
def DigestCutsCardSaid : Prop := Claim7.holds Tryd.pinned (.plain (OpenSpec.ofChange digestCutsSpec)) digestCutsCard

/-- THE TIED CARD OF 'witnesslaw1.DigestKeyed'. -/
def digestKeyedCard : Claim7 := { stood := { row := digestKeyedRow, standIns := [], harness := (true, "e99e55ac032088013b7da51c6fe76e12dd7a2c4cc9b7cdc858b175573322716b"), looks := false }, kinds := [], alts := [], laidByText := true, laidKinds := [.data, .data, .data], laidTests := true, laidLooks := .later }
def DigestKeyedCardSaid : Prop := Claim7.holds Tryd.pinned (.plain (OpenSpec.ofChange digestKeyedSpec)) digestKeyedCard

/-- THE SECOND FORM's CARD OF 'witnesslaw1.DigestMores'. -/
def digestMoresUptoCard : Claim7 := { stood := { row := digestMoresUptoRow, standIns := [], harness := (true, "e99e55ac032088013b7da51c6fe76e12dd7a2c4cc9b7cdc858b175573322716b"), looks := false }, kinds := [], alts := [], laidByText := true, laidKinds := [.data], laidTests := true, laidLooks := .later }
def DigestMoresUptoCardSaid : Prop := Claim7.holds Tryd.pinned (.plain (OpenSpec.upto digestMoresSpec)) digestMoresUptoCard

/-- THE SECOND FORM's CARD OF 'witnesslaw1.DigestChecks'. -/
def digestChecksUptoCard : Claim7 := { stood := { row := digestChecksUptoRow, standIns := [], harness := (true, "e99e55ac032088013b7da51c6fe76e12dd7a2c4cc9b7cdc858b175573322716b"), looks := false }, kinds := [], alts := [], laidByText := true, laidKinds := [.data], laidTests := true, laidLooks := .later }
def DigestChecksUptoCardSaid : Prop := Claim7.holds Tryd.pinned (.plain (OpenSpec.upto digestChecksSpec)) digestChecksUptoCard

/-- THE SECOND FORM's CARD OF 'witnesslaw1.DigestPieces'. -/
def digestPiecesUptoCard : Claim7 := { stood := { row := digestPiecesUptoRow, standIns := [], harness := (true, "e99e55ac032088013b7da51c6fe76e12dd7a2c4cc9b7cdc858b175573322716b"), looks := false }, kinds := [], alts := [], laidByText := true, laidKinds := [.data, .data], laidTests := true, laidLooks := .later }
def DigestPiecesUptoCardSaid : Prop := Claim7.holds Tryd.pinned (.plain (OpenSpec.upto digestPiecesSpec)) digestPiecesUptoCard

/-- THE SECOND FORM's CARD OF 'witnesslaw1.DigestTexts'. -/
def digestTextsUptoCard : Claim7 := { stood := { row := digestTextsUptoRow, standIns := [], harness := (true, "e99e55ac032088013b7da51c6fe76e12dd7a2c4cc9b7cdc858b175573322716b"), looks := false }, kinds := [], alts := [], laidByText := true, laidKinds := [.data, .data], laidTests := true, laidLooks := .later }
def DigestTextsUptoCardSaid : Prop := Claim7.holds Tryd.pinned (.plain (OpenSpec.upto digestTextsSpec)) digestTextsUptoCard

/-- THE SECOND FORM's CARD OF 'witnesslaw1.DigestMacs'. -/
def digestMacsUptoCard : Claim7 := { stood := { row := digestMacsUptoRow, standIns := [], harness := (true, "e99e55ac032088013b7da51c6fe76e12dd7a2c4cc9b7cdc858b175573322716b"), looks := false }, kinds := [], alts := [], laidByText := true, laidKinds := [.data, .data], laidTests := true, laidLooks := .later }
def DigestMacsUptoCardSaid : Prop := Claim7.holds Tryd.pinned (.plain (OpenSpec.upto digestMacsSpec)) digestMacsUptoCard

/-- THE SECOND FORM's CARD OF 'witnesslaw1.DigestBursts'. -/
def digestBurstsUptoCard : Claim7 := { stood := { row := digestBurstsUptoRow, standIns := [], harness := (true, "e99e55ac032088013b7da51c6fe76e12dd7a2c4cc9b7cdc858b175573322716b"), looks := false }, kinds := [], alts := [], laidByText := true, laidKinds := [.data, .data, .data], laidTests := true, laidLooks := .later }
def DigestBurstsUptoCardSaid : Prop := Claim7.holds Tryd.pinned (.plain (OpenSpec.upto digestBurstsSpec)) digestBurstsUptoCard

/-- THE SECOND FORM's CARD OF 'witnesslaw1.DigestLinear'. -/
def digestLinearUptoCard : Claim7 := { stood := { row := digestLinearUptoRow, standIns := [], harness := (true, "e99e55ac032088013b7da51c6fe76e12dd7a2c4cc9b7cdc858b175573322716b"), looks := false }, kinds := [], alts := [], laidByText := true, laidKinds := [.data, .data, .data], laidTests := true, laidLooks := .later }
def DigestLinearUptoCardSaid : Prop := Claim7.holds Tryd.pinned (.plain (OpenSpec.upto digestLinearSpec)) digestLinearUptoCard

/-- THE SECOND FORM's CARD OF 'witnesslaw1.DigestCuts'. -/
def digestCutsUptoCard : Claim7 := { stood := { row := digestCutsUptoRow, standIns := [], harness := (true, "e99e55ac032088013b7da51c6fe76e12dd7a2c4cc9b7cdc858b175573322716b"), looks := false }, kinds := [], alts := [], laidByText := true, laidKinds := [.data, .data, .data], laidTests := true, laidLooks := .later }
def DigestCutsUptoCardSaid : Prop := Claim7.holds Tryd.pinned (.plain (OpenSpec.upto digestCutsSpec)) digestCutsUptoCard

/-- THE SECOND FORM's CARD OF 'witnesslaw1.DigestKeyed'. -/
def digestKeyedUptoCard : Claim7 := { stood := { row := digestKeyedUptoRow, standIns := [], harness := (true, "e99e55ac032088013b7da51c6fe76e12dd7a2c4cc9b7cdc858b175573322716b"), looks := false }, kinds := [], alts := [], laidByText := true, laidKinds := [.data, .data, .data], laidTests := true, laidLooks := .later }
def DigestKeyedUptoCardSaid : Prop := Claim7.holds Tryd.pinned (.plain (OpenSpec.upto digestKeyedSpec)) digestKeyedUptoCard
end Rows
end Go.Proofs.YtklieghmbhofnaaDoor
