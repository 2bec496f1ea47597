/-
  DERIVED. GIVEN WITH THE SEED: THE CARDS: each row of YtelcnkclppkicaaGreatDoorRows.lean that lists a variable, with what it lists TIED to the program's text (the seventh form; the later family's looks); each row that meets fmt, with fmt's text TOLD by the authors' own Lean function (tested against real Go, not proved from fmt's source: count such statements apart). THE CARD IS WHAT COUNTS. Prove the row's statement (the work); the ties are given (YtelcnkclppkicaaGreatDoorTie.lean); close each card by the builder's one call (the guide's Derived/Test/ToyasCard.lean, 'card_holds'). Laid BY PROGRAM, IN A SANDBOX (cutbox-door.mjs). By AI agents, Wed Nov 11 2026. No macro, syntax, notation, axiom, sorry.
-/
import Derived.Test.YtelcnkclppkicaaGreatDoorRows
import GoSem.ClaimSeven
namespace Go.Proofs.YtelcnkclppkicaaGreatDoor
namespace Rows

/-- THE TIED CARD OF 'stolonlaw02.DigestAssembles'. -/
def digestAssemblesCard : Claim7 := { stood := { row := digestAssemblesRow, standIns := [], harness := (true, "2696f152e3f098426033aa0dd70b800404442d55c89d31263bcb6b381c23969b"), looks := false }, kinds := [], alts := [], laidByText := true, laidKinds := [.data, .data], laidTests := true, laidLooks := .later }
def DigestAssemblesCardSaid : Prop := Claim7.holds Tryz.pinned (.plain (OpenSpec.ofChange digestAssemblesSpec)) digestAssemblesCard

/-- THE TIED CARD OF 'stolonlaw07.PlaceRanks'. -/
def placeRanksCard : Claim7 := { stood := { row := placeRanksRow, standIns := [], harness := (true, "2696f152e3f098426033aa0dd70b800404442d55c89d31263bcb6b381c23969b"), looks := false }, kinds := [], alts := [], laidByText := true, laidKinds := [.data, .data], laidTests := true, laidLooks := .later }
def PlaceRanksCardSaid : Prop := Claim7.holds Tryz.pinned (.plain (OpenSpec.ofChange placeRanksSpec)) placeRanksCard

/-- THE TIED CARD OF 'stolonlaw07.PlaceOrder'. -/
def placeOrderCard : Claim7 := { stood := { row := placeOrderRow, standIns := [], harness := (true, "2696f152e3f098426033aa0dd70b800404442d55c89d31263bcb6b381c23969b"), looks := false }, kinds := [], alts := [], laidByText := true, laidKinds := [.data], laidTests := true, laidLooks := .later }
def PlaceOrderCardSaid : Prop := Claim7.holds Tryz.pinned (.plain (OpenSpec.ofChange placeOrderSpec)) placeOrderCard

/-- THE TIED CARD OF 'stolonlaw07.PlaceMinimal'. -/
def placeMinimalCard : Claim7 := { stood := { row := placeMinimalRow, standIns := [], harness := (true, "2696f152e3f098426033aa0dd70b800404442d55c89d31263bcb6b381c23969b"), looks := false }, kinds := [], alts := [], laidByText := true, laidKinds := [.data], laidTests := true, laidLooks := .later }
def PlaceMinimalCardSaid : Prop := Claim7.holds Tryz.pinned (.plain (OpenSpec.ofChange placeMinimalSpec)) placeMinimalCard

/-- THE TIED CARD OF 'stolonlaw07.PlaceSettles'. -/
def placeSettlesCard : Claim7 := { stood := { row := placeSettlesRow, standIns := [], harness := (true, "2696f152e3f098426033aa0dd70b800404442d55c89d31263bcb6b381c23969b"), looks := false }, kinds := [], alts := [], laidByText := true, laidKinds := [.data], laidTests := true, laidLooks := .later }
def PlaceSettlesCardSaid : Prop := Claim7.holds Tryz.pinned (.plain (OpenSpec.ofChange placeSettlesSpec)) placeSettlesCard

/-- THE TIED CARD OF 'stolonlaw07.PlaceSafe'. -/
def placeSafeCard : Claim7 := { stood := { row := placeSafeRow, standIns := [], harness := (true, "2696f152e3f098426033aa0dd70b800404442d55c89d31263bcb6b381c23969b"), looks := false }, kinds := [], alts := [], laidByText := true, laidKinds := [.data], laidTests := true, laidLooks := .later }
def PlaceSafeCardSaid : Prop := Claim7.holds Tryz.pinned (.plain (OpenSpec.ofChange placeSafeSpec)) placeSafeCard

/-- THE TIED CARD OF 'stolonlaw07.PlaceDuties'. -/
def placeDutiesCard : Claim7 := { stood := { row := placeDutiesRow, standIns := [], harness := (true, "2696f152e3f098426033aa0dd70b800404442d55c89d31263bcb6b381c23969b"), looks := false }, kinds := [], alts := [], laidByText := true, laidKinds := [.data, .data], laidTests := true, laidLooks := .later }
def PlaceDutiesCardSaid : Prop := Claim7.holds Tryz.pinned (.plain (OpenSpec.ofChange placeDutiesSpec)) placeDutiesCard

/-- THE TIED CARD OF 'stolonlaw07.PlaceRestores'. -/
def placeRestoresCard : Claim7 := { stood := { row := placeRestoresRow, standIns := [], harness := (true, "2696f152e3f098426033aa0dd70b800404442d55c89d31263bcb6b381c23969b"), looks := false }, kinds := [], alts := [], laidByText := true, laidKinds := [.data], laidTests := true, laidLooks := .later }
def PlaceRestoresCardSaid : Prop := Claim7.holds Tryz.pinned (.plain (OpenSpec.ofChange placeRestoresSpec)) placeRestoresCard

/-- THE TIED CARD OF 'stolonlaw07.PlaceGathers'. -/
def placeGathersCard : Claim7 := { stood := { row := placeGathersRow, standIns := [], harness := (true, "2696f152e3f098426033aa0dd70b800404442d55c89d31263bcb6b381c23969b"), looks := false }, kinds := [], alts := [], laidByText := true, laidKinds := [.data, .data], laidTests := true, laidLooks := .later }
def PlaceGathersCardSaid : Prop := Claim7.holds Tryz.pinned (.plain (OpenSpec.ofChange placeGathersSpec)) placeGathersCard

/-- THE TIED CARD OF 'stolonlaw07.PlaceSound'. -/
def placeSoundCard : Claim7 := { stood := { row := placeSoundRow, standIns := [], harness := (true, "2696f152e3f098426033aa0dd70b800404442d55c89d31263bcb6b381c23969b"), looks := false }, kinds := [], alts := [], laidByText := true, laidKinds := [.data], laidTests := true, laidLooks := .later }
def PlaceSoundCardSaid : Prop := Claim7.holds Tryz.pinned (.plain (OpenSpec.ofChange placeSoundSpec)) placeSoundCard

/-- THE TIED CARD OF 'stolonlaw07.PlaceClaims'. -/
def placeClaimsCard : Claim7 := { stood := { row := placeClaimsRow, standIns := [], harness := (true, "2696f152e3f098426033aa0dd70b800404442d55c89d31263bcb6b381c23969b"), looks := false }, kinds := [], alts := [], laidByText := true, laidKinds := [.data, .data], laidTests := true, laidLooks := .later }
def PlaceClaimsCardSaid : Prop := Claim7.holds Tryz.pinned (.plain (OpenSpec.ofChange placeClaimsSpec)) placeClaimsCard

/-- THE TIED CARD OF 'stolonlaw07.PlaceLease'. -/
def placeLeaseCard : Claim7 := { stood := { row := placeLeaseRow, standIns := [], harness := (true, "2696f152e3f098426033aa0dd70b800404442d55c89d31263bcb6b381c23969b"), looks := false }, kinds := [], alts := [], laidByText := true, laidKinds := [.data], laidTests := true, laidLooks := .later }
def PlaceLeaseCardSaid : Prop := Claim7.holds Tryz.pinned (.plain (OpenSpec.ofChange placeLeaseSpec)) placeLeaseCard

/-- THE TIED CARD OF 'stolonlaw07.PlaceNothing'. -/
def placeNothingCard : Claim7 := { stood := { row := placeNothingRow, standIns := [], harness := (true, "2696f152e3f098426033aa0dd70b800404442d55c89d31263bcb6b381c23969b"), looks := false }, kinds := [], alts := [], laidByText := true, laidKinds := [.data], laidTests := true, laidLooks := .later }
def PlaceNothingCardSaid : Prop := Claim7.holds Tryz.pinned (.plain (OpenSpec.ofChange placeNothingSpec)) placeNothingCard

/-- THE SECOND FORM's CARD OF 'stolonlaw02.DigestAssembles'. -/
def digestAssemblesUptoCard : Claim7 := { stood := { row := digestAssemblesUptoRow, standIns := [], harness := (true, "2696f152e3f098426033aa0dd70b800404442d55c89d31263bcb6b381c23969b"), looks := false }, kinds := [], alts := [], laidByText := true, laidKinds := [.data, .data], laidTests := true, laidLooks := .later }
def DigestAssemblesUptoCardSaid : Prop := Claim7.holds Tryz.pinned (.plain (OpenSpec.upto digestAssemblesSpec)) digestAssemblesUptoCard

/-- THE SECOND FORM's CARD OF 'stolonlaw07.PlaceRanks'. -/
def placeRanksUptoCard : Claim7 := { stood := { row := placeRanksUptoRow, standIns := [], harness := (true, "2696f152e3f098426033aa0dd70b800404442d55c89d31263bcb6b381c23969b"), looks := false }, kinds := [], alts := [], laidByText := true, laidKinds := [.data, .data], laidTests := true, laidLooks := .later }
def PlaceRanksUptoCardSaid : Prop := Claim7.holds Tryz.pinned (.plain (OpenSpec.upto placeRanksSpec)) placeRanksUptoCard

/-- THE SECOND FORM's CARD OF 'stolonlaw07.PlaceOrder'. -/
def placeOrderUptoCard : Claim7 := { stood := { row := placeOrderUptoRow, standIns := [], harness := (true, "2696f152e3f098426033aa0dd70b800404442d55c89d31263bcb6b381c23969b"), looks := false }, kinds := [], alts := [], laidByText := true, laidKinds := [.data], laidTests := true, laidLooks := .later }
def PlaceOrderUptoCardSaid : Prop := Claim7.holds Tryz.pinned (.plain (OpenSpec.upto placeOrderSpec)) placeOrderUptoCard

/-- THE SECOND FORM's CARD OF 'stolonlaw07.PlaceMinimal'. -/
def placeMinimalUptoCard : Claim7 := { stood := { row := placeMinimalUptoRow, standIns := [], harness := (true, "2696f152e3f098426033aa0dd70b800404442d55c89d31263bcb6b381c23969b"), looks := false }, kinds := [], alts := [], laidByText := true, laidKinds := [.data], laidTests := true, laidLooks := .later }
def PlaceMinimalUptoCardSaid : Prop := Claim7.holds Tryz.pinned (.plain (OpenSpec.upto placeMinimalSpec)) placeMinimalUptoCard

/-- THE SECOND FORM's CARD OF 'stolonlaw07.PlaceSettles'. -/
def placeSettlesUptoCard : Claim7 := { stood := { row := placeSettlesUptoRow, standIns := [], harness := (true, "2696f152e3f098426033aa0dd70b800404442d55c89d31263bcb6b381c23969b"), looks := false }, kinds := [], alts := [], laidByText := true, laidKinds := [.data], laidTests := true, laidLooks := .later }
def PlaceSettlesUptoCardSaid : Prop := Claim7.holds Tryz.pinned (.plain (OpenSpec.upto placeSettlesSpec)) placeSettlesUptoCard

/-- THE SECOND FORM's CARD OF 'stolonlaw07.PlaceSafe'. -/
def placeSafeUptoCard : Claim7 := { stood := { row := placeSafeUptoRow, standIns := [], harness := (true, "2696f152e3f098426033aa0dd70b800404442d55c89d31263bcb6b381c23969b"), looks := false }, kinds := [], alts := [], laidByText := true, laidKinds := [.data], laidTests := true, laidLooks := .later }
def PlaceSafeUptoCardSaid : Prop := Claim7.holds Tryz.pinned (.plain (OpenSpec.upto placeSafeSpec)) placeSafeUptoCard

/-- THE SECOND FORM's CARD OF 'stolonlaw07.PlaceDuties'. -/
def placeDutiesUptoCard : Claim7 := { stood := { row := placeDutiesUptoRow, standIns := [], harness := (true, "2696f152e3f098426033aa0dd70b800404442d55c89d31263bcb6b381c23969b"), looks := false }, kinds := [], alts := [], laidByText := true, laidKinds := [.data, .data], laidTests := true, laidLooks := .later }
def PlaceDutiesUptoCardSaid : Prop := Claim7.holds Tryz.pinned (.plain (OpenSpec.upto placeDutiesSpec)) placeDutiesUptoCard

/-- THE SECOND FORM's CARD OF 'stolonlaw07.PlaceRestores'. -/
def placeRestoresUptoCard : Claim7 := { stood := { row := placeRestoresUptoRow, standIns := [], harness := (true, "2696f152e3f098426033aa0dd70b800404442d55c89d31263bcb6b381c23969b"), looks := false }, kinds := [], alts := [], laidByText := true, laidKinds := [.data], laidTests := true, laidLooks := .later }
def PlaceRestoresUptoCardSaid : Prop := Claim7.holds Tryz.pinned (.plain (OpenSpec.upto placeRestoresSpec)) placeRestoresUptoCard

/-- THE SECOND FORM's CARD OF 'stolonlaw07.PlaceGathers'. -/
def placeGathersUptoCard : Claim7 := { stood := { row := placeGathersUptoRow, standIns := [], harness := (true, "2696f152e3f098426033aa0dd70b800404442d55c89d31263bcb6b381c23969b"), looks := false }, kinds := [], alts := [], laidByText := true, laidKinds := [.data, .data], laidTests := true, laidLooks := .later }
def PlaceGathersUptoCardSaid : Prop := Claim7.holds Tryz.pinned (.plain (OpenSpec.upto placeGathersSpec)) placeGathersUptoCard

/-- THE SECOND FORM's CARD OF 'stolonlaw07.PlaceSound'. -/
def placeSoundUptoCard : Claim7 := { stood := { row := placeSoundUptoRow, standIns := [], harness := (true, "2696f152e3f098426033aa0dd70b800404442d55c89d31263bcb6b381c23969b"), looks := false }, kinds := [], alts := [], laidByText := true, laidKinds := [.data], laidTests := true, laidLooks := .later }
def PlaceSoundUptoCardSaid : Prop := Claim7.holds Tryz.pinned (.plain (OpenSpec.upto placeSoundSpec)) placeSoundUptoCard

/-- THE SECOND FORM's CARD OF 'stolonlaw07.PlaceClaims'. -/
def placeClaimsUptoCard : Claim7 := { stood := { row := placeClaimsUptoRow, standIns := [], harness := (true, "2696f152e3f098426033aa0dd70b800404442d55c89d31263bcb6b381c23969b"), looks := false }, kinds := [], alts := [], laidByText := true, laidKinds := [.data, .data], laidTests := true, laidLooks := .later }
def PlaceClaimsUptoCardSaid : Prop := Claim7.holds Tryz.pinned (.plain (OpenSpec.upto placeClaimsSpec)) placeClaimsUptoCard

/-- THE SECOND FORM's CARD OF 'stolonlaw07.PlaceLease'. -/
def placeLeaseUptoCard : Claim7 := { stood := { row := placeLeaseUptoRow, standIns := [], harness := (true, "2696f152e3f098426033aa0dd70b800404442d55c89d31263bcb6b381c23969b"), looks := false }, kinds := [], alts := [], laidByText := true, laidKinds := [.data], laidTests := true, laidLooks := .later }
def PlaceLeaseUptoCardSaid : Prop := Claim7.holds Tryz.pinned (.plain (OpenSpec.upto placeLeaseSpec)) placeLeaseUptoCard

/-- THE SECOND FORM's CARD OF 'stolonlaw07.PlaceNothing'. -/
def placeNothingUptoCard : Claim7 := { stood := { row := placeNothingUptoRow, standIns := [], harness := (true, "2696f152e3f098426033aa0dd70b800404442d55c89d31263bcb6b381c23969b"), looks := false }, kinds := [], alts := [], laidByText := true, laidKinds := [.data], laidTests := true, laidLooks := .later }
def PlaceNothingUptoCardSaid : Prop := Claim7.holds Tryz.pinned (.plain (OpenSpec.upto placeNothingSpec)) placeNothingUptoCard
end Rows
end Go.Proofs.YtelcnkclppkicaaGreatDoor
