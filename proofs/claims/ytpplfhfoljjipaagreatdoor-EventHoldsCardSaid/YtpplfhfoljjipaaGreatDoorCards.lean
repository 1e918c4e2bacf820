/-
  DERIVED. GIVEN WITH THE SEED: THE CARDS: each row of YtpplfhfoljjipaaGreatDoorRows.lean that lists a variable, with what it lists TIED to the program's text (the seventh form; the later family's looks); each row that meets fmt, with fmt's text TOLD by the authors' own Lean function (tested against real Go, not proved from fmt's source: count such statements apart). THE CARD IS WHAT COUNTS. Prove the row's statement (the work); the ties are given (YtpplfhfoljjipaaGreatDoorTie.lean); close each card by the builder's one call (the guide's Derived/Test/ToyasCard.lean, 'card_holds'). Laid BY PROGRAM, IN A SANDBOX (cutbox-door.mjs). By AI agents, Wed Nov 11 2026. No macro, syntax, notation, axiom, sorry.
-/
import Derived.Test.YtpplfhfoljjipaaGreatDoorRows
import GoSem.ClaimSeven
namespace Go.Proofs.YtpplfhfoljjipaaGreatDoor
namespace Rows

/-- THE TIED CARD OF 'vouchsafelaw22.EventHolds'. -/
def eventHoldsCard : Claim7 := { stood := { row := eventHoldsRow, standIns := [], harness := (true, "e7ce0fc7c2b44e9accede94b454a3584ceeb7683d1834ffdb56d88dfc78da1f7"), looks := false }, kinds := [], alts := [], laidByText := true, laidKinds := [.data, .data, .data, .data, .data, .wider, .wider, .data, .listed, .data, .data, .data, .pinned], laidTests := true, laidLooks := .later }
def EventHoldsCardSaid : Prop := Claim7.holds Tryz.pinned (.plain (OpenSpec.ofChange eventHoldsSpec)) eventHoldsCard

/-- THE SECOND FORM's CARD OF 'vouchsafelaw22.EventHolds'. -/
def eventHoldsUptoCard : Claim7 := { stood := { row := eventHoldsUptoRow, standIns := [], harness := (true, "e7ce0fc7c2b44e9accede94b454a3584ceeb7683d1834ffdb56d88dfc78da1f7"), looks := false }, kinds := [], alts := [], laidByText := true, laidKinds := [.data, .data, .data, .data, .data, .wider, .wider, .data, .listed, .data, .data, .data, .pinned], laidTests := true, laidLooks := .later }
def EventHoldsUptoCardSaid : Prop := Claim7.holds Tryz.pinned (.plain (OpenSpec.upto eventHoldsSpec)) eventHoldsUptoCard
end Rows
end Go.Proofs.YtpplfhfoljjipaaGreatDoor
