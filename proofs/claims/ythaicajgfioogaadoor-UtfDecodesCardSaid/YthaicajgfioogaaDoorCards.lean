/-
  DERIVED. GIVEN WITH THE SEED: THE CARDS: each row of YthaicajgfioogaaDoorRows.lean that lists a variable, with what it lists TIED to the program's text (the seventh form; the later family's looks); each row that meets fmt, with fmt's text TOLD by the authors' own Lean function (tested against real Go, not proved from fmt's source: count such statements apart). THE CARD IS WHAT COUNTS. Prove the row's statement (the work); the ties are given (YthaicajgfioogaaDoorTie.lean); close each card by the builder's one call (the guide's Derived/Test/ToyasCard.lean, 'card_holds'). Laid BY PROGRAM, IN A SANDBOX (cutbox-door.mjs). By AI agents, Wed Nov 11 2026. No macro, syntax, notation, axiom, sorry.
-/
import Derived.Test.YthaicajgfioogaaDoorRows
import GoSem.ClaimSeven
namespace Go.Proofs.YthaicajgfioogaaDoor
namespace Rows

/-- THE TIED CARD OF 'vouchsafelaw01.UtfCuts'. -/
def utfCutsCard : Claim7 := { stood := { row := utfCutsRow, standIns := [], harness := (true, "54a96efaa7e0100d99bb145a791da74771b82148d29ccd7a7423df285e6f2c81"), looks := false }, kinds := [], alts := [], laidByText := true, laidKinds := [.data, .pinned], laidTests := true, laidLooks := .later }
def UtfCutsCardSaid : Prop := Claim7.holds Tryd.pinned (.plain (OpenSpec.ofChange utfCutsSpec)) utfCutsCard

/-- THE TIED CARD OF 'vouchsafelaw01.UtfLower'. -/
def utfLowerCard : Claim7 := { stood := { row := utfLowerRow, standIns := [], harness := (true, "54a96efaa7e0100d99bb145a791da74771b82148d29ccd7a7423df285e6f2c81"), looks := false }, kinds := [], alts := [], laidByText := true, laidKinds := [.data, .pinned], laidTests := true, laidLooks := .later }
def UtfLowerCardSaid : Prop := Claim7.holds Tryd.pinned (.plain (OpenSpec.ofChange utfLowerSpec)) utfLowerCard

/-- THE TIED CARD OF 'vouchsafelaw01.UtfEncodes'. -/
def utfEncodesCard : Claim7 := { stood := { row := utfEncodesRow, standIns := [], harness := (true, "54a96efaa7e0100d99bb145a791da74771b82148d29ccd7a7423df285e6f2c81"), looks := false }, kinds := [], alts := [], laidByText := true, laidKinds := [.data, .pinned], laidTests := true, laidLooks := .later }
def UtfEncodesCardSaid : Prop := Claim7.holds Tryd.pinned (.plain (OpenSpec.ofChange utfEncodesSpec)) utfEncodesCard

/-- THE TIED CARD OF 'vouchsafelaw01.UtfBack'. -/
def utfBackCard : Claim7 := { stood := { row := utfBackRow, standIns := [], harness := (true, "54a96efaa7e0100d99bb145a791da74771b82148d29ccd7a7423df285e6f2c81"), looks := false }, kinds := [], alts := [], laidByText := true, laidKinds := [.data, .pinned], laidTests := true, laidLooks := .later }
def UtfBackCardSaid : Prop := Claim7.holds Tryd.pinned (.plain (OpenSpec.ofChange utfBackSpec)) utfBackCard

/-- THE TIED CARD OF 'vouchsafelaw01.UtfFirst'. -/
def utfFirstCard : Claim7 := { stood := { row := utfFirstRow, standIns := [], harness := (true, "54a96efaa7e0100d99bb145a791da74771b82148d29ccd7a7423df285e6f2c81"), looks := false }, kinds := [], alts := [], laidByText := true, laidKinds := [.data, .pinned], laidTests := true, laidLooks := .later }
def UtfFirstCardSaid : Prop := Claim7.holds Tryd.pinned (.plain (OpenSpec.ofChange utfFirstSpec)) utfFirstCard

/-- THE TIED CARD OF 'vouchsafelaw01.UtfDecodes'. -/
def utfDecodesCard : Claim7 := { stood := { row := utfDecodesRow, standIns := [], harness := (true, "54a96efaa7e0100d99bb145a791da74771b82148d29ccd7a7423df285e6f2c81"), looks := false }, kinds := [], alts := [], laidByText := true, laidKinds := [.data, .pinned], laidTests := true, laidLooks := .later }
def UtfDecodesCardSaid : Prop := Claim7.holds Tryd.pinned (.plain (OpenSpec.ofChange utfDecodesSpec)) utfDecodesCard

/-- THE SECOND FORM's CARD OF 'vouchsafelaw01.UtfCuts'. -/
def utfCutsUptoCard : Claim7 := { stood := { row := utfCutsUptoRow, standIns := [], harness := (true, "54a96efaa7e0100d99bb145a791da74771b82148d29ccd7a7423df285e6f2c81"), looks := false }, kinds := [], alts := [], laidByText := true, laidKinds := [.data, .pinned], laidTests := true, laidLooks := .later }
def UtfCutsUptoCardSaid : Prop := Claim7.holds Tryd.pinned (.plain (OpenSpec.upto utfCutsSpec)) utfCutsUptoCard

/-- THE SECOND FORM's CARD OF 'vouchsafelaw01.UtfLower'. -/
def utfLowerUptoCard : Claim7 := { stood := { row := utfLowerUptoRow, standIns := [], harness := (true, "54a96efaa7e0100d99bb145a791da74771b82148d29ccd7a7423df285e6f2c81"), looks := false }, kinds := [], alts := [], laidByText := true, laidKinds := [.data, .pinned], laidTests := true, laidLooks := .later }
def UtfLowerUptoCardSaid : Prop := Claim7.holds Tryd.pinned (.plain (OpenSpec.upto utfLowerSpec)) utfLowerUptoCard

/-- THE SECOND FORM's CARD OF 'vouchsafelaw01.UtfEncodes'. -/
def utfEncodesUptoCard : Claim7 := { stood := { row := utfEncodesUptoRow, standIns := [], harness := (true, "54a96efaa7e0100d99bb145a791da74771b82148d29ccd7a7423df285e6f2c81"), looks := false }, kinds := [], alts := [], laidByText := true, laidKinds := [.data, .pinned], laidTests := true, laidLooks := .later }
def UtfEncodesUptoCardSaid : Prop := Claim7.holds Tryd.pinned (.plain (OpenSpec.upto utfEncodesSpec)) utfEncodesUptoCard

/-- THE SECOND FORM's CARD OF 'vouchsafelaw01.UtfBack'. -/
def utfBackUptoCard : Claim7 := { stood := { row := utfBackUptoRow, standIns := [], harness := (true, "54a96efaa7e0100d99bb145a791da74771b82148d29ccd7a7423df285e6f2c81"), looks := false }, kinds := [], alts := [], laidByText := true, laidKinds := [.data, .pinned], laidTests := true, laidLooks := .later }
def UtfBackUptoCardSaid : Prop := Claim7.holds Tryd.pinned (.plain (OpenSpec.upto utfBackSpec)) utfBackUptoCard

/-- THE SECOND FORM's CARD OF 'vouchsafelaw01.UtfFirst'. -/
def utfFirstUptoCard : Claim7 := { stood := { row := utfFirstUptoRow, standIns := [], harness := (true, "54a96efaa7e0100d99bb145a791da74771b82148d29ccd7a7423df285e6f2c81"), looks := false }, kinds := [], alts := [], laidByText := true, laidKinds := [.data, .pinned], laidTests := true, laidLooks := .later }
def UtfFirstUptoCardSaid : Prop := Claim7.holds Tryd.pinned (.plain (OpenSpec.upto utfFirstSpec)) utfFirstUptoCard

/-- THE SECOND FORM's CARD OF 'vouchsafelaw01.UtfDecodes'. -/
def utfDecodesUptoCard : Claim7 := { stood := { row := utfDecodesUptoRow, standIns := [], harness := (true, "54a96efaa7e0100d99bb145a791da74771b82148d29ccd7a7423df285e6f2c81"), looks := false }, kinds := [], alts := [], laidByText := true, laidKinds := [.data, .pinned], laidTests := true, laidLooks := .later }
def UtfDecodesUptoCardSaid : Prop := Claim7.holds Tryd.pinned (.plain (OpenSpec.upto utfDecodesSpec)) utfDecodesUptoCard
end Rows
end Go.Proofs.YthaicajgfioogaaDoor
