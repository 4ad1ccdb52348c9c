/-
  DERIVED. GIVEN WITH THE SEED: THE CARDS: each row of YtllgddednlfhfaaDoorRows.lean that lists a variable, with what it lists TIED to the program's text (the seventh form; the later family's looks); each row that meets fmt, with fmt's text TOLD by the authors' own Lean function (tested against real Go, not proved from fmt's source: count such statements apart). THE CARD IS WHAT COUNTS. Prove the row's statement (the work); the ties are given (YtllgddednlfhfaaDoorTie.lean); close each card by the builder's one call (the guide's Derived/Test/ToyasCard.lean, 'card_holds'). Laid BY PROGRAM, IN A SANDBOX (cutbox-door.mjs). By AI agents, Wed Nov 11 2026. No macro, syntax, notation, axiom, sorry.
-/
import Derived.Test.YtllgddednlfhfaaDoorRows
import GoSem.ClaimSeven
namespace Go.Proofs.YtllgddednlfhfaaDoor
namespace Rows

/-- THE TIED CARD OF 'laws.FnExactFormatLine'. -/
def fnExactFormatLineCard : Claim7 := { stood := { row := fnExactFormatLineRow, standIns := [], harness := (true, "f7d2d855e5a4478caf88cff8d0240832320509c57ab7f8398823bf7608f33c39"), looks := true }, kinds := [], alts := [], laidByText := true, laidKinds := [.data, .data, .data], laidTests := true, laidLooks := .later }
def FnExactFormatLineCardSaid : Prop := Claim7.holds Tryd.pinned (.plain (OpenSpec.ofChange fnExactFormatLineSpec)) fnExactFormatLineCard

/-- THE TIED CARD OF 'laws.FnLineText'. -/
def fnLineTextCard : Claim7 := { stood := { row := fnLineTextRow, standIns := [], harness := (true, "f7d2d855e5a4478caf88cff8d0240832320509c57ab7f8398823bf7608f33c39"), looks := true }, kinds := [], alts := [], laidByText := true, laidKinds := [.data, .data, .data], laidTests := true, laidLooks := .later }
def FnLineTextCardSaid : Prop := Claim7.holds Tryd.pinned (.plain (OpenSpec.ofChange fnLineTextSpec)) fnLineTextCard

/-- THE TIED CARD OF 'laws.FnExactParseLine'. -/
def fnExactParseLineCard : Claim7 := { stood := { row := fnExactParseLineRow, standIns := [], harness := (true, "f7d2d855e5a4478caf88cff8d0240832320509c57ab7f8398823bf7608f33c39"), looks := true }, kinds := [], alts := [], laidByText := true, laidKinds := [.data, .data, .data, .data, .sentinel, .sentinel, .pinned], laidTests := true, laidLooks := .later }
def FnExactParseLineCardSaid : Prop := Claim7.holds Tryd.pinned (.plain (OpenSpec.ofChange fnExactParseLineSpec)) fnExactParseLineCard

/-- THE TIED CARD OF 'laws.FnParseLineParts'. -/
def fnParseLinePartsCard : Claim7 := { stood := { row := fnParseLinePartsRow, standIns := [], harness := (true, "f7d2d855e5a4478caf88cff8d0240832320509c57ab7f8398823bf7608f33c39"), looks := true }, kinds := [], alts := [], laidByText := true, laidKinds := [.data, .data, .data, .data, .sentinel, .sentinel, .pinned], laidTests := true, laidLooks := .later }
def FnParseLinePartsCardSaid : Prop := Claim7.holds Tryd.pinned (.plain (OpenSpec.ofChange fnParseLinePartsSpec)) fnParseLinePartsCard

/-- THE TIED CARD OF 'laws.FnLineRoundTrip'. -/
def fnLineRoundTripCard : Claim7 := { stood := { row := fnLineRoundTripRow, standIns := [], harness := (true, "f7d2d855e5a4478caf88cff8d0240832320509c57ab7f8398823bf7608f33c39"), looks := true }, kinds := [], alts := [], laidByText := true, laidKinds := [.data, .data, .data, .data, .sentinel, .sentinel, .pinned], laidTests := true, laidLooks := .later }
def FnLineRoundTripCardSaid : Prop := Claim7.holds Tryd.pinned (.plain (OpenSpec.ofChange fnLineRoundTripSpec)) fnLineRoundTripCard

/-- THE TIED CARD OF 'laws.FnLineCanonical'. -/
def fnLineCanonicalCard : Claim7 := { stood := { row := fnLineCanonicalRow, standIns := [], harness := (true, "f7d2d855e5a4478caf88cff8d0240832320509c57ab7f8398823bf7608f33c39"), looks := true }, kinds := [], alts := [], laidByText := true, laidKinds := [.data, .data, .data, .data, .sentinel, .sentinel, .pinned], laidTests := true, laidLooks := .later }
def FnLineCanonicalCardSaid : Prop := Claim7.holds Tryd.pinned (.plain (OpenSpec.ofChange fnLineCanonicalSpec)) fnLineCanonicalCard

/-- THE SECOND FORM's CARD OF 'laws.FnExactFormatLine'. -/
def fnExactFormatLineUptoCard : Claim7 := { stood := { row := fnExactFormatLineUptoRow, standIns := [], harness := (true, "f7d2d855e5a4478caf88cff8d0240832320509c57ab7f8398823bf7608f33c39"), looks := true }, kinds := [], alts := [], laidByText := true, laidKinds := [.data, .data, .data], laidTests := true, laidLooks := .later }
def FnExactFormatLineUptoCardSaid : Prop := Claim7.holds Tryd.pinned (.plain (OpenSpec.upto fnExactFormatLineSpec)) fnExactFormatLineUptoCard

/-- THE SECOND FORM's CARD OF 'laws.FnLineText'. -/
def fnLineTextUptoCard : Claim7 := { stood := { row := fnLineTextUptoRow, standIns := [], harness := (true, "f7d2d855e5a4478caf88cff8d0240832320509c57ab7f8398823bf7608f33c39"), looks := true }, kinds := [], alts := [], laidByText := true, laidKinds := [.data, .data, .data], laidTests := true, laidLooks := .later }
def FnLineTextUptoCardSaid : Prop := Claim7.holds Tryd.pinned (.plain (OpenSpec.upto fnLineTextSpec)) fnLineTextUptoCard

/-- THE SECOND FORM's CARD OF 'laws.FnExactParseLine'. -/
def fnExactParseLineUptoCard : Claim7 := { stood := { row := fnExactParseLineUptoRow, standIns := [], harness := (true, "f7d2d855e5a4478caf88cff8d0240832320509c57ab7f8398823bf7608f33c39"), looks := true }, kinds := [], alts := [], laidByText := true, laidKinds := [.data, .data, .data, .data, .sentinel, .sentinel, .pinned], laidTests := true, laidLooks := .later }
def FnExactParseLineUptoCardSaid : Prop := Claim7.holds Tryd.pinned (.plain (OpenSpec.upto fnExactParseLineSpec)) fnExactParseLineUptoCard

/-- THE SECOND FORM's CARD OF 'laws.FnParseLineParts'. -/
def fnParseLinePartsUptoCard : Claim7 := { stood := { row := fnParseLinePartsUptoRow, standIns := [], harness := (true, "f7d2d855e5a4478caf88cff8d0240832320509c57ab7f8398823bf7608f33c39"), looks := true }, kinds := [], alts := [], laidByText := true, laidKinds := [.data, .data, .data, .data, .sentinel, .sentinel, .pinned], laidTests := true, laidLooks := .later }
def FnParseLinePartsUptoCardSaid : Prop := Claim7.holds Tryd.pinned (.plain (OpenSpec.upto fnParseLinePartsSpec)) fnParseLinePartsUptoCard

/-- THE SECOND FORM's CARD OF 'laws.FnLineRoundTrip'. -/
def fnLineRoundTripUptoCard : Claim7 := { stood := { row := fnLineRoundTripUptoRow, standIns := [], harness := (true, "f7d2d855e5a4478caf88cff8d0240832320509c57ab7f8398823bf7608f33c39"), looks := true }, kinds := [], alts := [], laidByText := true, laidKinds := [.data, .data, .data, .data, .sentinel, .sentinel, .pinned], laidTests := true, laidLooks := .later }
def FnLineRoundTripUptoCardSaid : Prop := Claim7.holds Tryd.pinned (.plain (OpenSpec.upto fnLineRoundTripSpec)) fnLineRoundTripUptoCard

/-- THE SECOND FORM's CARD OF 'laws.FnLineCanonical'. -/
def fnLineCanonicalUptoCard : Claim7 := { stood := { row := fnLineCanonicalUptoRow, standIns := [], harness := (true, "f7d2d855e5a4478caf88cff8d0240832320509c57ab7f8398823bf7608f33c39"), looks := true }, kinds := [], alts := [], laidByText := true, laidKinds := [.data, .data, .data, .data, .sentinel, .sentinel, .pinned], laidTests := true, laidLooks := .later }
def FnLineCanonicalUptoCardSaid : Prop := Claim7.holds Tryd.pinned (.plain (OpenSpec.upto fnLineCanonicalSpec)) fnLineCanonicalUptoCard
end Rows
end Go.Proofs.YtllgddednlfhfaaDoor
