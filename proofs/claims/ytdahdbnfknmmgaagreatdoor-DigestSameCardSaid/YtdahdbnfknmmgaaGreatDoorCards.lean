/-
  DERIVED. GIVEN WITH THE SEED: THE CARDS: each row of YtdahdbnfknmmgaaGreatDoorRows.lean that lists a variable, with what it lists TIED to the program's text (the seventh form; the later family's looks); each row that meets fmt, with fmt's text TOLD by the authors' own Lean function (tested against real Go, not proved from fmt's source: count such statements apart). THE CARD IS WHAT COUNTS. Prove the row's statement (the work); the ties are given (YtdahdbnfknmmgaaGreatDoorTie.lean); close each card by the builder's one call (the guide's Derived/Test/ToyasCard.lean, 'card_holds'). Laid BY PROGRAM, IN A SANDBOX (cutbox-door.mjs). By AI agents, Wed Nov 11 2026. No macro, syntax, notation, axiom, sorry.
-/
import Derived.Test.YtdahdbnfknmmgaaGreatDoorRows
import GoSem.ClaimSeven
namespace Go.Proofs.YtdahdbnfknmmgaaGreatDoor
namespace Rows

/-- THE TIED CARD OF 'vouchsafelaw03.CanonQuotes'. -/
def canonQuotesCard : Claim7 := { stood := { row := canonQuotesRow, standIns := [], harness := (true, "c0acd76832c1d699a8abe9cd763b6426755b75708264e95db2c3da1ecfb8e656"), looks := true }, kinds := [], alts := [], laidByText := true, laidKinds := [.data, .data, .data, .data, .sentinel, .sentinel, .pinned], laidTests := true, laidLooks := .later }
def CanonQuotesCardSaid : Prop := Claim7.holds Tryz.pinned (.plain (OpenSpec.ofChange canonQuotesSpec)) canonQuotesCard

/-- THE TIED CARD OF 'vouchsafelaw03.CanonLong'. -/
def canonLongCard : Claim7 := { stood := { row := canonLongRow, standIns := [], harness := (true, "c0acd76832c1d699a8abe9cd763b6426755b75708264e95db2c3da1ecfb8e656"), looks := true }, kinds := [], alts := [], laidByText := true, laidKinds := [.data, .data, .data, .data, .sentinel, .sentinel, .pinned], laidTests := true, laidLooks := .later }
def CanonLongCardSaid : Prop := Claim7.holds Tryz.pinned (.plain (OpenSpec.ofChange canonLongSpec)) canonLongCard

/-- THE TIED CARD OF 'vouchsafelaw13.DigestKept'. -/
def digestKeptCard : Claim7 := { stood := { row := digestKeptRow, standIns := [], harness := (true, "c0acd76832c1d699a8abe9cd763b6426755b75708264e95db2c3da1ecfb8e656"), looks := true }, kinds := [], alts := [], laidByText := true, laidKinds := [.data, .data, .data, .data, .sentinel, .sentinel, .listed, .data, .data, .data, .pinned], laidTests := true, laidLooks := .later }
def DigestKeptCardSaid : Prop := Claim7.holds Tryz.pinned (.plain (OpenSpec.ofChange digestKeptSpec)) digestKeptCard

/-- THE TIED CARD OF 'vouchsafelaw13.DigestSame'. -/
def digestSameCard : Claim7 := { stood := { row := digestSameRow, standIns := [], harness := (true, "c0acd76832c1d699a8abe9cd763b6426755b75708264e95db2c3da1ecfb8e656"), looks := true }, kinds := [], alts := [], laidByText := true, laidKinds := [.data, .data, .data, .data, .sentinel, .sentinel, .listed, .data, .data, .data, .pinned], laidTests := true, laidLooks := .later }
def DigestSameCardSaid : Prop := Claim7.holds Tryz.pinned (.plain (OpenSpec.ofChange digestSameSpec)) digestSameCard

/-- THE SECOND FORM's CARD OF 'vouchsafelaw03.CanonQuotes'. -/
def canonQuotesUptoCard : Claim7 := { stood := { row := canonQuotesUptoRow, standIns := [], harness := (true, "c0acd76832c1d699a8abe9cd763b6426755b75708264e95db2c3da1ecfb8e656"), looks := true }, kinds := [], alts := [], laidByText := true, laidKinds := [.data, .data, .data, .data, .sentinel, .sentinel, .pinned], laidTests := true, laidLooks := .later }
def CanonQuotesUptoCardSaid : Prop := Claim7.holds Tryz.pinned (.plain (OpenSpec.upto canonQuotesSpec)) canonQuotesUptoCard

/-- THE SECOND FORM's CARD OF 'vouchsafelaw03.CanonLong'. -/
def canonLongUptoCard : Claim7 := { stood := { row := canonLongUptoRow, standIns := [], harness := (true, "c0acd76832c1d699a8abe9cd763b6426755b75708264e95db2c3da1ecfb8e656"), looks := true }, kinds := [], alts := [], laidByText := true, laidKinds := [.data, .data, .data, .data, .sentinel, .sentinel, .pinned], laidTests := true, laidLooks := .later }
def CanonLongUptoCardSaid : Prop := Claim7.holds Tryz.pinned (.plain (OpenSpec.upto canonLongSpec)) canonLongUptoCard

/-- THE SECOND FORM's CARD OF 'vouchsafelaw13.DigestKept'. -/
def digestKeptUptoCard : Claim7 := { stood := { row := digestKeptUptoRow, standIns := [], harness := (true, "c0acd76832c1d699a8abe9cd763b6426755b75708264e95db2c3da1ecfb8e656"), looks := true }, kinds := [], alts := [], laidByText := true, laidKinds := [.data, .data, .data, .data, .sentinel, .sentinel, .listed, .data, .data, .data, .pinned], laidTests := true, laidLooks := .later }
def DigestKeptUptoCardSaid : Prop := Claim7.holds Tryz.pinned (.plain (OpenSpec.upto digestKeptSpec)) digestKeptUptoCard

/-- THE SECOND FORM's CARD OF 'vouchsafelaw13.DigestSame'. -/
def digestSameUptoCard : Claim7 := { stood := { row := digestSameUptoRow, standIns := [], harness := (true, "c0acd76832c1d699a8abe9cd763b6426755b75708264e95db2c3da1ecfb8e656"), looks := true }, kinds := [], alts := [], laidByText := true, laidKinds := [.data, .data, .data, .data, .sentinel, .sentinel, .listed, .data, .data, .data, .pinned], laidTests := true, laidLooks := .later }
def DigestSameUptoCardSaid : Prop := Claim7.holds Tryz.pinned (.plain (OpenSpec.upto digestSameSpec)) digestSameUptoCard
end Rows
end Go.Proofs.YtdahdbnfknmmgaaGreatDoor
