/-
  DERIVED. GIVEN WITH THE SEED: THE CARDS: each row of YtelcnkclppkicaaDoorRows.lean that lists a variable, with what it lists TIED to the program's text (the seventh form; the later family's looks); each row that meets fmt, with fmt's text TOLD by the authors' own Lean function (tested against real Go, not proved from fmt's source: count such statements apart). THE CARD IS WHAT COUNTS. Prove the row's statement (the work); the ties are given (YtelcnkclppkicaaDoorTie.lean); close each card by the builder's one call (the guide's Derived/Test/ToyasCard.lean, 'card_holds'). Laid BY PROGRAM, IN A SANDBOX (cutbox-door.mjs). By AI agents, Wed Nov 11 2026. No macro, syntax, notation, axiom, sorry.
-/
import Derived.Test.YtelcnkclppkicaaDoorRows
import GoSem.ClaimSeven
namespace Go.Proofs.YtelcnkclppkicaaDoor
namespace Rows

/-- THE TIED CARD OF 'stolonlaw02.DigestMakes'. -/
def digestMakesCard : Claim7 := { stood := { row := digestMakesRow, standIns := [], harness := (true, "8150288177cfe74915bae05b1ce9d1b4f650579f78b4109e5355018fd4f6f47e"), looks := false }, kinds := [], alts := [], laidByText := true, laidKinds := [.data, .data], laidTests := true, laidLooks := .later }
def DigestMakesCardSaid : Prop := Claim7.holds Tryd.pinned (.plain (OpenSpec.ofChange digestMakesSpec)) digestMakesCard

/-- THE TIED CARD OF 'stolonlaw02.DigestMemory'. -/
def digestMemoryCard : Claim7 := { stood := { row := digestMemoryRow, standIns := [], harness := (true, "8150288177cfe74915bae05b1ce9d1b4f650579f78b4109e5355018fd4f6f47e"), looks := false }, kinds := [], alts := [], laidByText := true, laidKinds := [.data], laidTests := true, laidLooks := .later }
def DigestMemoryCardSaid : Prop := Claim7.holds Tryd.pinned (.plain (OpenSpec.ofChange digestMemorySpec)) digestMemoryCard

/-- THE TIED CARD OF 'stolonlaw02.DigestBurst'. -/
def digestBurstCard : Claim7 := { stood := { row := digestBurstRow, standIns := [], harness := (true, "8150288177cfe74915bae05b1ce9d1b4f650579f78b4109e5355018fd4f6f47e"), looks := false }, kinds := [], alts := [], laidByText := true, laidKinds := [.data], laidTests := true, laidLooks := .later }
def DigestBurstCardSaid : Prop := Claim7.holds Tryd.pinned (.plain (OpenSpec.ofChange digestBurstSpec)) digestBurstCard

/-- THE TIED CARD OF 'stolonlaw02.DigestAffine'. -/
def digestAffineCard : Claim7 := { stood := { row := digestAffineRow, standIns := [], harness := (true, "8150288177cfe74915bae05b1ce9d1b4f650579f78b4109e5355018fd4f6f47e"), looks := false }, kinds := [], alts := [], laidByText := true, laidKinds := [.data], laidTests := true, laidLooks := .later }
def DigestAffineCardSaid : Prop := Claim7.holds Tryd.pinned (.plain (OpenSpec.ofChange digestAffineSpec)) digestAffineCard

/-- THE TIED CARD OF 'stolonlaw02.DigestStream'. -/
def digestStreamCard : Claim7 := { stood := { row := digestStreamRow, standIns := [], harness := (true, "8150288177cfe74915bae05b1ce9d1b4f650579f78b4109e5355018fd4f6f47e"), looks := false }, kinds := [], alts := [], laidByText := true, laidKinds := [.data], laidTests := true, laidLooks := .later }
def DigestStreamCardSaid : Prop := Claim7.holds Tryd.pinned (.plain (OpenSpec.ofChange digestStreamSpec)) digestStreamCard

/-- THE TIED CARD OF 'stolonlaw02.DigestEncodes'. -/
def digestEncodesCard : Claim7 := { stood := { row := digestEncodesRow, standIns := [], harness := (true, "8150288177cfe74915bae05b1ce9d1b4f650579f78b4109e5355018fd4f6f47e"), looks := false }, kinds := [], alts := [], laidByText := true, laidKinds := [.data, .data], laidTests := true, laidLooks := .later }
def DigestEncodesCardSaid : Prop := Claim7.holds Tryd.pinned (.plain (OpenSpec.ofChange digestEncodesSpec)) digestEncodesCard

/-- THE TIED CARD OF 'stolonlaw02.DigestChecks'. -/
def digestChecksCard : Claim7 := { stood := { row := digestChecksRow, standIns := [], harness := (true, "8150288177cfe74915bae05b1ce9d1b4f650579f78b4109e5355018fd4f6f47e"), looks := false }, kinds := [], alts := [], laidByText := true, laidKinds := [.data, .data], laidTests := true, laidLooks := .later }
def DigestChecksCardSaid : Prop := Claim7.holds Tryd.pinned (.plain (OpenSpec.ofChange digestChecksSpec)) digestChecksCard

/-- THE TIED CARD OF 'stolonlaw02.DigestSums'. -/
def digestSumsCard : Claim7 := { stood := { row := digestSumsRow, standIns := [], harness := (true, "8150288177cfe74915bae05b1ce9d1b4f650579f78b4109e5355018fd4f6f47e"), looks := false }, kinds := [], alts := [], laidByText := true, laidKinds := [.data, .data], laidTests := true, laidLooks := .later }
def DigestSumsCardSaid : Prop := Claim7.holds Tryd.pinned (.plain (OpenSpec.ofChange digestSumsSpec)) digestSumsCard

/-- THE TIED CARD OF 'stolonlaw02.DigestWrites'. -/
def digestWritesCard : Claim7 := { stood := { row := digestWritesRow, standIns := [], harness := (true, "8150288177cfe74915bae05b1ce9d1b4f650579f78b4109e5355018fd4f6f47e"), looks := false }, kinds := [], alts := [], laidByText := true, laidKinds := [.data], laidTests := true, laidLooks := .later }
def DigestWritesCardSaid : Prop := Claim7.holds Tryd.pinned (.plain (OpenSpec.ofChange digestWritesSpec)) digestWritesCard

/-- THE TIED CARD OF 'stolonlaw02.DigestHex'. -/
def digestHexCard : Claim7 := { stood := { row := digestHexRow, standIns := [], harness := (true, "8150288177cfe74915bae05b1ce9d1b4f650579f78b4109e5355018fd4f6f47e"), looks := false }, kinds := [], alts := [], laidByText := true, laidKinds := [.data], laidTests := true, laidLooks := .later }
def DigestHexCardSaid : Prop := Claim7.holds Tryd.pinned (.plain (OpenSpec.ofChange digestHexSpec)) digestHexCard

/-- THE TIED CARD OF 'stolonlaw02.DigestHexOnly'. -/
def digestHexOnlyCard : Claim7 := { stood := { row := digestHexOnlyRow, standIns := [], harness := (true, "8150288177cfe74915bae05b1ce9d1b4f650579f78b4109e5355018fd4f6f47e"), looks := false }, kinds := [], alts := [], laidByText := true, laidKinds := [.data], laidTests := true, laidLooks := .later }
def DigestHexOnlyCardSaid : Prop := Claim7.holds Tryd.pinned (.plain (OpenSpec.ofChange digestHexOnlySpec)) digestHexOnlyCard

/-- THE TIED CARD OF 'stolonlaw02.DigestReads'. -/
def digestReadsCard : Claim7 := { stood := { row := digestReadsRow, standIns := [], harness := (true, "8150288177cfe74915bae05b1ce9d1b4f650579f78b4109e5355018fd4f6f47e"), looks := false }, kinds := [], alts := [], laidByText := true, laidKinds := [.data], laidTests := true, laidLooks := .later }
def DigestReadsCardSaid : Prop := Claim7.holds Tryd.pinned (.plain (OpenSpec.ofChange digestReadsSpec)) digestReadsCard

/-- THE TIED CARD OF 'stolonlaw02.DigestDecodes'. -/
def digestDecodesCard : Claim7 := { stood := { row := digestDecodesRow, standIns := [], harness := (true, "8150288177cfe74915bae05b1ce9d1b4f650579f78b4109e5355018fd4f6f47e"), looks := false }, kinds := [], alts := [], laidByText := true, laidKinds := [.data], laidTests := true, laidLooks := .later }
def DigestDecodesCardSaid : Prop := Claim7.holds Tryd.pinned (.plain (OpenSpec.ofChange digestDecodesSpec)) digestDecodesCard

/-- THE TIED CARD OF 'stolonlaw02.DigestManifestBack'. -/
def digestManifestBackCard : Claim7 := { stood := { row := digestManifestBackRow, standIns := [], harness := (true, "8150288177cfe74915bae05b1ce9d1b4f650579f78b4109e5355018fd4f6f47e"), looks := false }, kinds := [], alts := [], laidByText := true, laidKinds := [.data], laidTests := true, laidLooks := .later }
def DigestManifestBackCardSaid : Prop := Claim7.holds Tryd.pinned (.plain (OpenSpec.ofChange digestManifestBackSpec)) digestManifestBackCard

/-- THE TIED CARD OF 'stolonlaw02.DigestReadBack'. -/
def digestReadBackCard : Claim7 := { stood := { row := digestReadBackRow, standIns := [], harness := (true, "8150288177cfe74915bae05b1ce9d1b4f650579f78b4109e5355018fd4f6f47e"), looks := false }, kinds := [], alts := [], laidByText := true, laidKinds := [.data], laidTests := true, laidLooks := .later }
def DigestReadBackCardSaid : Prop := Claim7.holds Tryd.pinned (.plain (OpenSpec.ofChange digestReadBackSpec)) digestReadBackCard

/-- THE TIED CARD OF 'stolonlaw02.DigestRegenerates'. -/
def digestRegeneratesCard : Claim7 := { stood := { row := digestRegeneratesRow, standIns := [], harness := (true, "8150288177cfe74915bae05b1ce9d1b4f650579f78b4109e5355018fd4f6f47e"), looks := false }, kinds := [], alts := [], laidByText := true, laidKinds := [.data, .data], laidTests := true, laidLooks := .later }
def DigestRegeneratesCardSaid : Prop := Claim7.holds Tryd.pinned (.plain (OpenSpec.ofChange digestRegeneratesSpec)) digestRegeneratesCard

/-- THE TIED CARD OF 'stolonlaw02.DigestSound'. -/
def digestSoundCard : Claim7 := { stood := { row := digestSoundRow, standIns := [], harness := (true, "8150288177cfe74915bae05b1ce9d1b4f650579f78b4109e5355018fd4f6f47e"), looks := false }, kinds := [], alts := [], laidByText := true, laidKinds := [.data], laidTests := true, laidLooks := .later }
def DigestSoundCardSaid : Prop := Claim7.holds Tryd.pinned (.plain (OpenSpec.ofChange digestSoundSpec)) digestSoundCard

/-- THE TIED CARD OF 'stolonlaw02.DigestRestores'. -/
def digestRestoresCard : Claim7 := { stood := { row := digestRestoresRow, standIns := [], harness := (true, "8150288177cfe74915bae05b1ce9d1b4f650579f78b4109e5355018fd4f6f47e"), looks := false }, kinds := [], alts := [], laidByText := true, laidKinds := [.data], laidTests := true, laidLooks := .later }
def DigestRestoresCardSaid : Prop := Claim7.holds Tryd.pinned (.plain (OpenSpec.ofChange digestRestoresSpec)) digestRestoresCard

/-- THE SECOND FORM's CARD OF 'stolonlaw02.DigestMakes'. -/
def digestMakesUptoCard : Claim7 := { stood := { row := digestMakesUptoRow, standIns := [], harness := (true, "8150288177cfe74915bae05b1ce9d1b4f650579f78b4109e5355018fd4f6f47e"), looks := false }, kinds := [], alts := [], laidByText := true, laidKinds := [.data, .data], laidTests := true, laidLooks := .later }
def DigestMakesUptoCardSaid : Prop := Claim7.holds Tryd.pinned (.plain (OpenSpec.upto digestMakesSpec)) digestMakesUptoCard

/-- THE SECOND FORM's CARD OF 'stolonlaw02.DigestMemory'. -/
def digestMemoryUptoCard : Claim7 := { stood := { row := digestMemoryUptoRow, standIns := [], harness := (true, "8150288177cfe74915bae05b1ce9d1b4f650579f78b4109e5355018fd4f6f47e"), looks := false }, kinds := [], alts := [], laidByText := true, laidKinds := [.data], laidTests := true, laidLooks := .later }
def DigestMemoryUptoCardSaid : Prop := Claim7.holds Tryd.pinned (.plain (OpenSpec.upto digestMemorySpec)) digestMemoryUptoCard

/-- THE SECOND FORM's CARD OF 'stolonlaw02.DigestBurst'. -/
def digestBurstUptoCard : Claim7 := { stood := { row := digestBurstUptoRow, standIns := [], harness := (true, "8150288177cfe74915bae05b1ce9d1b4f650579f78b4109e5355018fd4f6f47e"), looks := false }, kinds := [], alts := [], laidByText := true, laidKinds := [.data], laidTests := true, laidLooks := .later }
def DigestBurstUptoCardSaid : Prop := Claim7.holds Tryd.pinned (.plain (OpenSpec.upto digestBurstSpec)) digestBurstUptoCard

/-- THE SECOND FORM's CARD OF 'stolonlaw02.DigestAffine'. -/
def digestAffineUptoCard : Claim7 := { stood := { row := digestAffineUptoRow, standIns := [], harness := (true, "8150288177cfe74915bae05b1ce9d1b4f650579f78b4109e5355018fd4f6f47e"), looks := false }, kinds := [], alts := [], laidByText := true, laidKinds := [.data], laidTests := true, laidLooks := .later }
def DigestAffineUptoCardSaid : Prop := Claim7.holds Tryd.pinned (.plain (OpenSpec.upto digestAffineSpec)) digestAffineUptoCard

/-- THE SECOND FORM's CARD OF 'stolonlaw02.DigestStream'. -/
def digestStreamUptoCard : Claim7 := { stood := { row := digestStreamUptoRow, standIns := [], harness := (true, "8150288177cfe74915bae05b1ce9d1b4f650579f78b4109e5355018fd4f6f47e"), looks := false }, kinds := [], alts := [], laidByText := true, laidKinds := [.data], laidTests := true, laidLooks := .later }
def DigestStreamUptoCardSaid : Prop := Claim7.holds Tryd.pinned (.plain (OpenSpec.upto digestStreamSpec)) digestStreamUptoCard

/-- THE SECOND FORM's CARD OF 'stolonlaw02.DigestEncodes'. -/
def digestEncodesUptoCard : Claim7 := { stood := { row := digestEncodesUptoRow, standIns := [], harness := (true, "8150288177cfe74915bae05b1ce9d1b4f650579f78b4109e5355018fd4f6f47e"), looks := false }, kinds := [], alts := [], laidByText := true, laidKinds := [.data, .data], laidTests := true, laidLooks := .later }
def DigestEncodesUptoCardSaid : Prop := Claim7.holds Tryd.pinned (.plain (OpenSpec.upto digestEncodesSpec)) digestEncodesUptoCard

/-- THE SECOND FORM's CARD OF 'stolonlaw02.DigestChecks'. -/
def digestChecksUptoCard : Claim7 := { stood := { row := digestChecksUptoRow, standIns := [], harness := (true, "8150288177cfe74915bae05b1ce9d1b4f650579f78b4109e5355018fd4f6f47e"), looks := false }, kinds := [], alts := [], laidByText := true, laidKinds := [.data, .data], laidTests := true, laidLooks := .later }
def DigestChecksUptoCardSaid : Prop := Claim7.holds Tryd.pinned (.plain (OpenSpec.upto digestChecksSpec)) digestChecksUptoCard

/-- THE SECOND FORM's CARD OF 'stolonlaw02.DigestSums'. -/
def digestSumsUptoCard : Claim7 := { stood := { row := digestSumsUptoRow, standIns := [], harness := (true, "8150288177cfe74915bae05b1ce9d1b4f650579f78b4109e5355018fd4f6f47e"), looks := false }, kinds := [], alts := [], laidByText := true, laidKinds := [.data, .data], laidTests := true, laidLooks := .later }
def DigestSumsUptoCardSaid : Prop := Claim7.holds Tryd.pinned (.plain (OpenSpec.upto digestSumsSpec)) digestSumsUptoCard

/-- THE SECOND FORM's CARD OF 'stolonlaw02.DigestWrites'. -/
def digestWritesUptoCard : Claim7 := { stood := { row := digestWritesUptoRow, standIns := [], harness := (true, "8150288177cfe74915bae05b1ce9d1b4f650579f78b4109e5355018fd4f6f47e"), looks := false }, kinds := [], alts := [], laidByText := true, laidKinds := [.data], laidTests := true, laidLooks := .later }
def DigestWritesUptoCardSaid : Prop := Claim7.holds Tryd.pinned (.plain (OpenSpec.upto digestWritesSpec)) digestWritesUptoCard

/-- THE SECOND FORM's CARD OF 'stolonlaw02.DigestHex'. -/
def digestHexUptoCard : Claim7 := { stood := { row := digestHexUptoRow, standIns := [], harness := (true, "8150288177cfe74915bae05b1ce9d1b4f650579f78b4109e5355018fd4f6f47e"), looks := false }, kinds := [], alts := [], laidByText := true, laidKinds := [.data], laidTests := true, laidLooks := .later }
def DigestHexUptoCardSaid : Prop := Claim7.holds Tryd.pinned (.plain (OpenSpec.upto digestHexSpec)) digestHexUptoCard

/-- THE SECOND FORM's CARD OF 'stolonlaw02.DigestHexOnly'. -/
def digestHexOnlyUptoCard : Claim7 := { stood := { row := digestHexOnlyUptoRow, standIns := [], harness := (true, "8150288177cfe74915bae05b1ce9d1b4f650579f78b4109e5355018fd4f6f47e"), looks := false }, kinds := [], alts := [], laidByText := true, laidKinds := [.data], laidTests := true, laidLooks := .later }
def DigestHexOnlyUptoCardSaid : Prop := Claim7.holds Tryd.pinned (.plain (OpenSpec.upto digestHexOnlySpec)) digestHexOnlyUptoCard

/-- THE SECOND FORM's CARD OF 'stolonlaw02.DigestReads'. -/
def digestReadsUptoCard : Claim7 := { stood := { row := digestReadsUptoRow, standIns := [], harness := (true, "8150288177cfe74915bae05b1ce9d1b4f650579f78b4109e5355018fd4f6f47e"), looks := false }, kinds := [], alts := [], laidByText := true, laidKinds := [.data], laidTests := true, laidLooks := .later }
def DigestReadsUptoCardSaid : Prop := Claim7.holds Tryd.pinned (.plain (OpenSpec.upto digestReadsSpec)) digestReadsUptoCard

/-- THE SECOND FORM's CARD OF 'stolonlaw02.DigestDecodes'. -/
def digestDecodesUptoCard : Claim7 := { stood := { row := digestDecodesUptoRow, standIns := [], harness := (true, "8150288177cfe74915bae05b1ce9d1b4f650579f78b4109e5355018fd4f6f47e"), looks := false }, kinds := [], alts := [], laidByText := true, laidKinds := [.data], laidTests := true, laidLooks := .later }
def DigestDecodesUptoCardSaid : Prop := Claim7.holds Tryd.pinned (.plain (OpenSpec.upto digestDecodesSpec)) digestDecodesUptoCard

/-- THE SECOND FORM's CARD OF 'stolonlaw02.DigestManifestBack'. -/
def digestManifestBackUptoCard : Claim7 := { stood := { row := digestManifestBackUptoRow, standIns := [], harness := (true, "8150288177cfe74915bae05b1ce9d1b4f650579f78b4109e5355018fd4f6f47e"), looks := false }, kinds := [], alts := [], laidByText := true, laidKinds := [.data], laidTests := true, laidLooks := .later }
def DigestManifestBackUptoCardSaid : Prop := Claim7.holds Tryd.pinned (.plain (OpenSpec.upto digestManifestBackSpec)) digestManifestBackUptoCard

/-- THE SECOND FORM's CARD OF 'stolonlaw02.DigestReadBack'. -/
def digestReadBackUptoCard : Claim7 := { stood := { row := digestReadBackUptoRow, standIns := [], harness := (true, "8150288177cfe74915bae05b1ce9d1b4f650579f78b4109e5355018fd4f6f47e"), looks := false }, kinds := [], alts := [], laidByText := true, laidKinds := [.data], laidTests := true, laidLooks := .later }
def DigestReadBackUptoCardSaid : Prop := Claim7.holds Tryd.pinned (.plain (OpenSpec.upto digestReadBackSpec)) digestReadBackUptoCard

/-- THE SECOND FORM's CARD OF 'stolonlaw02.DigestRegenerates'. -/
def digestRegeneratesUptoCard : Claim7 := { stood := { row := digestRegeneratesUptoRow, standIns := [], harness := (true, "8150288177cfe74915bae05b1ce9d1b4f650579f78b4109e5355018fd4f6f47e"), looks := false }, kinds := [], alts := [], laidByText := true, laidKinds := [.data, .data], laidTests := true, laidLooks := .later }
def DigestRegeneratesUptoCardSaid : Prop := Claim7.holds Tryd.pinned (.plain (OpenSpec.upto digestRegeneratesSpec)) digestRegeneratesUptoCard

/-- THE SECOND FORM's CARD OF 'stolonlaw02.DigestSound'. -/
def digestSoundUptoCard : Claim7 := { stood := { row := digestSoundUptoRow, standIns := [], harness := (true, "8150288177cfe74915bae05b1ce9d1b4f650579f78b4109e5355018fd4f6f47e"), looks := false }, kinds := [], alts := [], laidByText := true, laidKinds := [.data], laidTests := true, laidLooks := .later }
def DigestSoundUptoCardSaid : Prop := Claim7.holds Tryd.pinned (.plain (OpenSpec.upto digestSoundSpec)) digestSoundUptoCard

/-- THE SECOND FORM's CARD OF 'stolonlaw02.DigestRestores'. -/
def digestRestoresUptoCard : Claim7 := { stood := { row := digestRestoresUptoRow, standIns := [], harness := (true, "8150288177cfe74915bae05b1ce9d1b4f650579f78b4109e5355018fd4f6f47e"), looks := false }, kinds := [], alts := [], laidByText := true, laidKinds := [.data], laidTests := true, laidLooks := .later }
def DigestRestoresUptoCardSaid : Prop := Claim7.holds Tryd.pinned (.plain (OpenSpec.upto digestRestoresSpec)) digestRestoresUptoCard
end Rows
end Go.Proofs.YtelcnkclppkicaaDoor
