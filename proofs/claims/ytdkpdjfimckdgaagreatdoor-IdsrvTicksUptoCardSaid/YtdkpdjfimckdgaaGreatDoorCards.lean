/-
  DERIVED. GIVEN WITH THE SEED: THE CARDS: each row of YtdkpdjfimckdgaaGreatDoorRows.lean that lists a variable, with what it lists TIED to the program's text (the seventh form; the later family's looks); each row that meets fmt, with fmt's text TOLD by the authors' own Lean function (tested against real Go, not proved from fmt's source: count such statements apart). THE CARD IS WHAT COUNTS. Prove the row's statement (the work); the ties are given (YtdkpdjfimckdgaaGreatDoorTie.lean); close each card by the builder's one call (the guide's Derived/Test/ToyasCard.lean, 'card_holds'). Laid BY PROGRAM, IN A SANDBOX (cutbox-door.mjs). By AI agents, Wed Nov 11 2026. No macro, syntax, notation, axiom, sorry.
-/
import Derived.Test.YtdkpdjfimckdgaaGreatDoorRows
import GoSem.ClaimSeven
namespace Go.Proofs.YtdkpdjfimckdgaaGreatDoor
namespace Rows

/-- THE TIED CARD OF 'vouchsafelaw21.IdsrvTicks'. -/
def idsrvTicksCard : Claim7 := { stood := { row := idsrvTicksRow, standIns := [], harness := (true, "bca1d262f51d39001dfbe7ef6df0aa5262d3288b6bc951b79a0b05e54f7b1a58"), looks := true }, kinds := [], alts := [], laidByText := true, laidKinds := [.data, .data, .data, .data, .data, .wider, .wider, .data, .sentinel, .sentinel, .data, .data, .pinned], laidTests := true, laidLooks := .later }
def IdsrvTicksCardSaid : Prop := Claim7.holds Tryz.pinned (.plain (OpenSpec.ofChange idsrvTicksSpec)) idsrvTicksCard

/-- THE SECOND FORM's CARD OF 'vouchsafelaw21.IdsrvTicks'. -/
def idsrvTicksUptoCard : Claim7 := { stood := { row := idsrvTicksUptoRow, standIns := [], harness := (true, "bca1d262f51d39001dfbe7ef6df0aa5262d3288b6bc951b79a0b05e54f7b1a58"), looks := true }, kinds := [], alts := [], laidByText := true, laidKinds := [.data, .data, .data, .data, .data, .wider, .wider, .data, .sentinel, .sentinel, .data, .data, .pinned], laidTests := true, laidLooks := .later }
def IdsrvTicksUptoCardSaid : Prop := Claim7.holds Tryz.pinned (.plain (OpenSpec.upto idsrvTicksSpec)) idsrvTicksUptoCard
end Rows
end Go.Proofs.YtdkpdjfimckdgaaGreatDoor
