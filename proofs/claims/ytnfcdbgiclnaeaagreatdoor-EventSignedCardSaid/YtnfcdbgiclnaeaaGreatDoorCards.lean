/-
  DERIVED. GIVEN WITH THE SEED: THE CARDS: each row of YtnfcdbgiclnaeaaGreatDoorRows.lean that lists a variable, with what it lists TIED to the program's text (the seventh form; the later family's looks); each row that meets fmt, with fmt's text TOLD by the authors' own Lean function (tested against real Go, not proved from fmt's source: count such statements apart). THE CARD IS WHAT COUNTS. Prove the row's statement (the work); the ties are given (YtnfcdbgiclnaeaaGreatDoorTie.lean); close each card by the builder's one call (the guide's Derived/Test/ToyasCard.lean, 'card_holds'). Laid BY PROGRAM, IN A SANDBOX (cutbox-door.mjs). By AI agents, Wed Nov 11 2026. No macro, syntax, notation, axiom, sorry.
-/
import Derived.Test.YtnfcdbgiclnaeaaGreatDoorRows
import GoSem.ClaimSeven
namespace Go.Proofs.YtnfcdbgiclnaeaaGreatDoor
namespace Rows

/-- THE TIED CARD OF 'vouchsafelaw22.EventSigned'. -/
def eventSignedCard : Claim7 := { stood := { row := eventSignedRow, standIns := [], harness := (true, "9a98780811902f08493adfdad0fc1d6b3d9fee51f45462cc787aae2cf74841c2"), looks := false }, kinds := [], alts := [], laidByText := true, laidKinds := [.data, .data, .data, .data, .data, .wider, .wider, .data, .listed, .data, .data, .data, .pinned], laidTests := true, laidLooks := .later }
def EventSignedCardSaid : Prop := Claim7.holds Tryz.pinned (.plain (OpenSpec.ofChange eventSignedSpec)) eventSignedCard

/-- THE SECOND FORM's CARD OF 'vouchsafelaw22.EventSigned'. -/
def eventSignedUptoCard : Claim7 := { stood := { row := eventSignedUptoRow, standIns := [], harness := (true, "9a98780811902f08493adfdad0fc1d6b3d9fee51f45462cc787aae2cf74841c2"), looks := false }, kinds := [], alts := [], laidByText := true, laidKinds := [.data, .data, .data, .data, .data, .wider, .wider, .data, .listed, .data, .data, .data, .pinned], laidTests := true, laidLooks := .later }
def EventSignedUptoCardSaid : Prop := Claim7.holds Tryz.pinned (.plain (OpenSpec.upto eventSignedSpec)) eventSignedUptoCard
end Rows
end Go.Proofs.YtnfcdbgiclnaeaaGreatDoor
