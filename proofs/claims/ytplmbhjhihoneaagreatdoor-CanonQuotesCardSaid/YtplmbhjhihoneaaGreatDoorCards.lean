/-
  DERIVED. GIVEN WITH THE SEED: THE CARDS: each row of YtplmbhjhihoneaaGreatDoorRows.lean that lists a variable, with what it lists TIED to the program's text (the seventh form; the later family's looks); each row that meets fmt, with fmt's text TOLD by the authors' own Lean function (tested against real Go, not proved from fmt's source: count such statements apart). THE CARD IS WHAT COUNTS. Prove the row's statement (the work); the ties are given (YtplmbhjhihoneaaGreatDoorTie.lean); close each card by the builder's one call (the guide's Derived/Test/ToyasCard.lean, 'card_holds'). Laid BY PROGRAM, IN A SANDBOX (cutbox-door.mjs). By AI agents, Wed Nov 11 2026. No macro, syntax, notation, axiom, sorry.
-/
import Derived.Test.YtplmbhjhihoneaaGreatDoorRows
import GoSem.ClaimSeven
namespace Go.Proofs.YtplmbhjhihoneaaGreatDoor
namespace Rows

/-- THE TIED CARD OF 'vouchsafelaw02.JsonBlanks'. -/
def jsonBlanksCard : Claim7 := { stood := { row := jsonBlanksRow, standIns := [], harness := (true, "f8d4471af78ff8c1ff330e9f03082f2e24e06a77aebbd9de5152458934472285"), looks := true }, kinds := [], alts := [], laidByText := true, laidKinds := [.data, .data, .data, .data, .sentinel, .sentinel, .pinned], laidTests := true, laidLooks := .later }
def JsonBlanksCardSaid : Prop := Claim7.holds Tryz.pinned (.plain (OpenSpec.ofChange jsonBlanksSpec)) jsonBlanksCard

/-- THE TIED CARD OF 'vouchsafelaw02.JsonParses'. -/
def jsonParsesCard : Claim7 := { stood := { row := jsonParsesRow, standIns := [], harness := (true, "f8d4471af78ff8c1ff330e9f03082f2e24e06a77aebbd9de5152458934472285"), looks := true }, kinds := [], alts := [], laidByText := true, laidKinds := [.data, .data, .data, .data, .sentinel, .sentinel, .pinned], laidTests := true, laidLooks := .later }
def JsonParsesCardSaid : Prop := Claim7.holds Tryz.pinned (.plain (OpenSpec.ofChange jsonParsesSpec)) jsonParsesCard

/-- THE TIED CARD OF 'vouchsafelaw02.JsonWrap'. -/
def jsonWrapCard : Claim7 := { stood := { row := jsonWrapRow, standIns := [], harness := (true, "f8d4471af78ff8c1ff330e9f03082f2e24e06a77aebbd9de5152458934472285"), looks := true }, kinds := [], alts := [], laidByText := true, laidKinds := [.data, .data, .data, .data, .sentinel, .sentinel, .pinned], laidTests := true, laidLooks := .later }
def JsonWrapCardSaid : Prop := Claim7.holds Tryz.pinned (.plain (OpenSpec.ofChange jsonWrapSpec)) jsonWrapCard

/-- THE TIED CARD OF 'vouchsafelaw02.JsonMakes'. -/
def jsonMakesCard : Claim7 := { stood := { row := jsonMakesRow, standIns := [], harness := (true, "f8d4471af78ff8c1ff330e9f03082f2e24e06a77aebbd9de5152458934472285"), looks := true }, kinds := [], alts := [], laidByText := true, laidKinds := [.data, .data, .data, .data, .sentinel, .sentinel, .pinned], laidTests := true, laidLooks := .later }
def JsonMakesCardSaid : Prop := Claim7.holds Tryz.pinned (.plain (OpenSpec.ofChange jsonMakesSpec)) jsonMakesCard

/-- THE TIED CARD OF 'vouchsafelaw02.JsonTurned'. -/
def jsonTurnedCard : Claim7 := { stood := { row := jsonTurnedRow, standIns := [], harness := (true, "f8d4471af78ff8c1ff330e9f03082f2e24e06a77aebbd9de5152458934472285"), looks := true }, kinds := [], alts := [], laidByText := true, laidKinds := [.data, .data, .data, .data, .sentinel, .sentinel, .pinned], laidTests := true, laidLooks := .later }
def JsonTurnedCardSaid : Prop := Claim7.holds Tryz.pinned (.plain (OpenSpec.ofChange jsonTurnedSpec)) jsonTurnedCard

/-- THE TIED CARD OF 'vouchsafelaw02.JsonWith'. -/
def jsonWithCard : Claim7 := { stood := { row := jsonWithRow, standIns := [], harness := (true, "f8d4471af78ff8c1ff330e9f03082f2e24e06a77aebbd9de5152458934472285"), looks := true }, kinds := [], alts := [], laidByText := true, laidKinds := [.data, .data, .data, .data, .sentinel, .sentinel, .pinned], laidTests := true, laidLooks := .later }
def JsonWithCardSaid : Prop := Claim7.holds Tryz.pinned (.plain (OpenSpec.ofChange jsonWithSpec)) jsonWithCard

/-- THE TIED CARD OF 'vouchsafelaw02.JsonName'. -/
def jsonNameCard : Claim7 := { stood := { row := jsonNameRow, standIns := [], harness := (true, "f8d4471af78ff8c1ff330e9f03082f2e24e06a77aebbd9de5152458934472285"), looks := true }, kinds := [], alts := [], laidByText := true, laidKinds := [.data, .data, .data, .data, .sentinel, .sentinel, .pinned], laidTests := true, laidLooks := .later }
def JsonNameCardSaid : Prop := Claim7.holds Tryz.pinned (.plain (OpenSpec.ofChange jsonNameSpec)) jsonNameCard

/-- THE TIED CARD OF 'vouchsafelaw02.JsonAsks'. -/
def jsonAsksCard : Claim7 := { stood := { row := jsonAsksRow, standIns := [], harness := (true, "f8d4471af78ff8c1ff330e9f03082f2e24e06a77aebbd9de5152458934472285"), looks := true }, kinds := [], alts := [], laidByText := true, laidKinds := [.data, .data, .data, .data, .sentinel, .sentinel, .pinned], laidTests := true, laidLooks := .later }
def JsonAsksCardSaid : Prop := Claim7.holds Tryz.pinned (.plain (OpenSpec.ofChange jsonAsksSpec)) jsonAsksCard

/-- THE TIED CARD OF 'vouchsafelaw03.CanonTexts'. -/
def canonTextsCard : Claim7 := { stood := { row := canonTextsRow, standIns := [], harness := (true, "f8d4471af78ff8c1ff330e9f03082f2e24e06a77aebbd9de5152458934472285"), looks := true }, kinds := [], alts := [], laidByText := true, laidKinds := [.data, .data, .data, .data, .sentinel, .sentinel, .pinned], laidTests := true, laidLooks := .later }
def CanonTextsCardSaid : Prop := Claim7.holds Tryz.pinned (.plain (OpenSpec.ofChange canonTextsSpec)) canonTextsCard

/-- THE TIED CARD OF 'vouchsafelaw03.CanonBack'. -/
def canonBackCard : Claim7 := { stood := { row := canonBackRow, standIns := [], harness := (true, "f8d4471af78ff8c1ff330e9f03082f2e24e06a77aebbd9de5152458934472285"), looks := true }, kinds := [], alts := [], laidByText := true, laidKinds := [.data, .data, .data, .data, .sentinel, .sentinel, .pinned], laidTests := true, laidLooks := .later }
def CanonBackCardSaid : Prop := Claim7.holds Tryz.pinned (.plain (OpenSpec.ofChange canonBackSpec)) canonBackCard

/-- THE TIED CARD OF 'vouchsafelaw03.CanonOne'. -/
def canonOneCard : Claim7 := { stood := { row := canonOneRow, standIns := [], harness := (true, "f8d4471af78ff8c1ff330e9f03082f2e24e06a77aebbd9de5152458934472285"), looks := true }, kinds := [], alts := [], laidByText := true, laidKinds := [.data, .data, .data, .data, .sentinel, .sentinel, .pinned], laidTests := true, laidLooks := .later }
def CanonOneCardSaid : Prop := Claim7.holds Tryz.pinned (.plain (OpenSpec.ofChange canonOneSpec)) canonOneCard

/-- THE TIED CARD OF 'vouchsafelaw03.CanonQuotes'. -/
def canonQuotesCard : Claim7 := { stood := { row := canonQuotesRow, standIns := [], harness := (true, "f8d4471af78ff8c1ff330e9f03082f2e24e06a77aebbd9de5152458934472285"), looks := true }, kinds := [], alts := [], laidByText := true, laidKinds := [.data, .data, .data, .data, .sentinel, .sentinel, .pinned], laidTests := true, laidLooks := .later }
def CanonQuotesCardSaid : Prop := Claim7.holds Tryz.pinned (.plain (OpenSpec.ofChange canonQuotesSpec)) canonQuotesCard

/-- THE TIED CARD OF 'vouchsafelaw03.CanonPrints'. -/
def canonPrintsCard : Claim7 := { stood := { row := canonPrintsRow, standIns := [], harness := (true, "f8d4471af78ff8c1ff330e9f03082f2e24e06a77aebbd9de5152458934472285"), looks := true }, kinds := [], alts := [], laidByText := true, laidKinds := [.data, .data, .data, .data, .sentinel, .sentinel, .pinned], laidTests := true, laidLooks := .later }
def CanonPrintsCardSaid : Prop := Claim7.holds Tryz.pinned (.plain (OpenSpec.ofChange canonPrintsSpec)) canonPrintsCard

/-- THE TIED CARD OF 'vouchsafelaw03.CanonLong'. -/
def canonLongCard : Claim7 := { stood := { row := canonLongRow, standIns := [], harness := (true, "f8d4471af78ff8c1ff330e9f03082f2e24e06a77aebbd9de5152458934472285"), looks := true }, kinds := [], alts := [], laidByText := true, laidKinds := [.data, .data, .data, .data, .sentinel, .sentinel, .pinned], laidTests := true, laidLooks := .later }
def CanonLongCardSaid : Prop := Claim7.holds Tryz.pinned (.plain (OpenSpec.ofChange canonLongSpec)) canonLongCard

/-- THE SECOND FORM's CARD OF 'vouchsafelaw02.JsonBlanks'. -/
def jsonBlanksUptoCard : Claim7 := { stood := { row := jsonBlanksUptoRow, standIns := [], harness := (true, "f8d4471af78ff8c1ff330e9f03082f2e24e06a77aebbd9de5152458934472285"), looks := true }, kinds := [], alts := [], laidByText := true, laidKinds := [.data, .data, .data, .data, .sentinel, .sentinel, .pinned], laidTests := true, laidLooks := .later }
def JsonBlanksUptoCardSaid : Prop := Claim7.holds Tryz.pinned (.plain (OpenSpec.upto jsonBlanksSpec)) jsonBlanksUptoCard

/-- THE SECOND FORM's CARD OF 'vouchsafelaw02.JsonParses'. -/
def jsonParsesUptoCard : Claim7 := { stood := { row := jsonParsesUptoRow, standIns := [], harness := (true, "f8d4471af78ff8c1ff330e9f03082f2e24e06a77aebbd9de5152458934472285"), looks := true }, kinds := [], alts := [], laidByText := true, laidKinds := [.data, .data, .data, .data, .sentinel, .sentinel, .pinned], laidTests := true, laidLooks := .later }
def JsonParsesUptoCardSaid : Prop := Claim7.holds Tryz.pinned (.plain (OpenSpec.upto jsonParsesSpec)) jsonParsesUptoCard

/-- THE SECOND FORM's CARD OF 'vouchsafelaw02.JsonWrap'. -/
def jsonWrapUptoCard : Claim7 := { stood := { row := jsonWrapUptoRow, standIns := [], harness := (true, "f8d4471af78ff8c1ff330e9f03082f2e24e06a77aebbd9de5152458934472285"), looks := true }, kinds := [], alts := [], laidByText := true, laidKinds := [.data, .data, .data, .data, .sentinel, .sentinel, .pinned], laidTests := true, laidLooks := .later }
def JsonWrapUptoCardSaid : Prop := Claim7.holds Tryz.pinned (.plain (OpenSpec.upto jsonWrapSpec)) jsonWrapUptoCard

/-- THE SECOND FORM's CARD OF 'vouchsafelaw02.JsonMakes'. -/
def jsonMakesUptoCard : Claim7 := { stood := { row := jsonMakesUptoRow, standIns := [], harness := (true, "f8d4471af78ff8c1ff330e9f03082f2e24e06a77aebbd9de5152458934472285"), looks := true }, kinds := [], alts := [], laidByText := true, laidKinds := [.data, .data, .data, .data, .sentinel, .sentinel, .pinned], laidTests := true, laidLooks := .later }
def JsonMakesUptoCardSaid : Prop := Claim7.holds Tryz.pinned (.plain (OpenSpec.upto jsonMakesSpec)) jsonMakesUptoCard

/-- THE SECOND FORM's CARD OF 'vouchsafelaw02.JsonTurned'. -/
def jsonTurnedUptoCard : Claim7 := { stood := { row := jsonTurnedUptoRow, standIns := [], harness := (true, "f8d4471af78ff8c1ff330e9f03082f2e24e06a77aebbd9de5152458934472285"), looks := true }, kinds := [], alts := [], laidByText := true, laidKinds := [.data, .data, .data, .data, .sentinel, .sentinel, .pinned], laidTests := true, laidLooks := .later }
def JsonTurnedUptoCardSaid : Prop := Claim7.holds Tryz.pinned (.plain (OpenSpec.upto jsonTurnedSpec)) jsonTurnedUptoCard

/-- THE SECOND FORM's CARD OF 'vouchsafelaw02.JsonWith'. -/
def jsonWithUptoCard : Claim7 := { stood := { row := jsonWithUptoRow, standIns := [], harness := (true, "f8d4471af78ff8c1ff330e9f03082f2e24e06a77aebbd9de5152458934472285"), looks := true }, kinds := [], alts := [], laidByText := true, laidKinds := [.data, .data, .data, .data, .sentinel, .sentinel, .pinned], laidTests := true, laidLooks := .later }
def JsonWithUptoCardSaid : Prop := Claim7.holds Tryz.pinned (.plain (OpenSpec.upto jsonWithSpec)) jsonWithUptoCard

/-- THE SECOND FORM's CARD OF 'vouchsafelaw02.JsonName'. -/
def jsonNameUptoCard : Claim7 := { stood := { row := jsonNameUptoRow, standIns := [], harness := (true, "f8d4471af78ff8c1ff330e9f03082f2e24e06a77aebbd9de5152458934472285"), looks := true }, kinds := [], alts := [], laidByText := true, laidKinds := [.data, .data, .data, .data, .sentinel, .sentinel, .pinned], laidTests := true, laidLooks := .later }
def JsonNameUptoCardSaid : Prop := Claim7.holds Tryz.pinned (.plain (OpenSpec.upto jsonNameSpec)) jsonNameUptoCard

/-- THE SECOND FORM's CARD OF 'vouchsafelaw02.JsonAsks'. -/
def jsonAsksUptoCard : Claim7 := { stood := { row := jsonAsksUptoRow, standIns := [], harness := (true, "f8d4471af78ff8c1ff330e9f03082f2e24e06a77aebbd9de5152458934472285"), looks := true }, kinds := [], alts := [], laidByText := true, laidKinds := [.data, .data, .data, .data, .sentinel, .sentinel, .pinned], laidTests := true, laidLooks := .later }
def JsonAsksUptoCardSaid : Prop := Claim7.holds Tryz.pinned (.plain (OpenSpec.upto jsonAsksSpec)) jsonAsksUptoCard

/-- THE SECOND FORM's CARD OF 'vouchsafelaw03.CanonTexts'. -/
def canonTextsUptoCard : Claim7 := { stood := { row := canonTextsUptoRow, standIns := [], harness := (true, "f8d4471af78ff8c1ff330e9f03082f2e24e06a77aebbd9de5152458934472285"), looks := true }, kinds := [], alts := [], laidByText := true, laidKinds := [.data, .data, .data, .data, .sentinel, .sentinel, .pinned], laidTests := true, laidLooks := .later }
def CanonTextsUptoCardSaid : Prop := Claim7.holds Tryz.pinned (.plain (OpenSpec.upto canonTextsSpec)) canonTextsUptoCard

/-- THE SECOND FORM's CARD OF 'vouchsafelaw03.CanonBack'. -/
def canonBackUptoCard : Claim7 := { stood := { row := canonBackUptoRow, standIns := [], harness := (true, "f8d4471af78ff8c1ff330e9f03082f2e24e06a77aebbd9de5152458934472285"), looks := true }, kinds := [], alts := [], laidByText := true, laidKinds := [.data, .data, .data, .data, .sentinel, .sentinel, .pinned], laidTests := true, laidLooks := .later }
def CanonBackUptoCardSaid : Prop := Claim7.holds Tryz.pinned (.plain (OpenSpec.upto canonBackSpec)) canonBackUptoCard

/-- THE SECOND FORM's CARD OF 'vouchsafelaw03.CanonOne'. -/
def canonOneUptoCard : Claim7 := { stood := { row := canonOneUptoRow, standIns := [], harness := (true, "f8d4471af78ff8c1ff330e9f03082f2e24e06a77aebbd9de5152458934472285"), looks := true }, kinds := [], alts := [], laidByText := true, laidKinds := [.data, .data, .data, .data, .sentinel, .sentinel, .pinned], laidTests := true, laidLooks := .later }
def CanonOneUptoCardSaid : Prop := Claim7.holds Tryz.pinned (.plain (OpenSpec.upto canonOneSpec)) canonOneUptoCard

/-- THE SECOND FORM's CARD OF 'vouchsafelaw03.CanonQuotes'. -/
def canonQuotesUptoCard : Claim7 := { stood := { row := canonQuotesUptoRow, standIns := [], harness := (true, "f8d4471af78ff8c1ff330e9f03082f2e24e06a77aebbd9de5152458934472285"), looks := true }, kinds := [], alts := [], laidByText := true, laidKinds := [.data, .data, .data, .data, .sentinel, .sentinel, .pinned], laidTests := true, laidLooks := .later }
def CanonQuotesUptoCardSaid : Prop := Claim7.holds Tryz.pinned (.plain (OpenSpec.upto canonQuotesSpec)) canonQuotesUptoCard

/-- THE SECOND FORM's CARD OF 'vouchsafelaw03.CanonPrints'. -/
def canonPrintsUptoCard : Claim7 := { stood := { row := canonPrintsUptoRow, standIns := [], harness := (true, "f8d4471af78ff8c1ff330e9f03082f2e24e06a77aebbd9de5152458934472285"), looks := true }, kinds := [], alts := [], laidByText := true, laidKinds := [.data, .data, .data, .data, .sentinel, .sentinel, .pinned], laidTests := true, laidLooks := .later }
def CanonPrintsUptoCardSaid : Prop := Claim7.holds Tryz.pinned (.plain (OpenSpec.upto canonPrintsSpec)) canonPrintsUptoCard

/-- THE SECOND FORM's CARD OF 'vouchsafelaw03.CanonLong'. -/
def canonLongUptoCard : Claim7 := { stood := { row := canonLongUptoRow, standIns := [], harness := (true, "f8d4471af78ff8c1ff330e9f03082f2e24e06a77aebbd9de5152458934472285"), looks := true }, kinds := [], alts := [], laidByText := true, laidKinds := [.data, .data, .data, .data, .sentinel, .sentinel, .pinned], laidTests := true, laidLooks := .later }
def CanonLongUptoCardSaid : Prop := Claim7.holds Tryz.pinned (.plain (OpenSpec.upto canonLongSpec)) canonLongUptoCard
end Rows
end Go.Proofs.YtplmbhjhihoneaaGreatDoor
