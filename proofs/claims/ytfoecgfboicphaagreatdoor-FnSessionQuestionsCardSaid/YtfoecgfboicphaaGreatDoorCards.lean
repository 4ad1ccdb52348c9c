/-
  DERIVED. GIVEN WITH THE SEED: THE CARDS: each row of YtfoecgfboicphaaGreatDoorRows.lean that lists a variable, with what it lists TIED to the program's text (the seventh form; the later family's looks); each row that meets fmt, with fmt's text TOLD by the authors' own Lean function (tested against real Go, not proved from fmt's source: count such statements apart). THE CARD IS WHAT COUNTS. Prove the row's statement (the work); the ties are given (YtfoecgfboicphaaGreatDoorTie.lean); close each card by the builder's one call (the guide's Derived/Test/ToyasCard.lean, 'card_holds'). Laid BY PROGRAM, IN A SANDBOX (cutbox-door.mjs). By AI agents, Wed Nov 11 2026. No macro, syntax, notation, axiom, sorry.
-/
import Derived.Test.YtfoecgfboicphaaGreatDoorRows
import GoSem.ClaimSeven
namespace Go.Proofs.YtfoecgfboicphaaGreatDoor
namespace Rows

/-- THE TIED CARD OF 'laws.FnSessionPut'. -/
def fnSessionPutCard : Claim7 := { stood := { row := fnSessionPutRow, standIns := [], harness := (true, "41d019033fb542159c9dff77067cba60868db74ec58b5c6db98c1ac9b0d48f90"), looks := true }, kinds := [], alts := [], laidByText := true, laidKinds := [.data, .data, .data, .data, .sentinel, .sentinel, .pinned], laidTests := true, laidLooks := .later }
def FnSessionPutCardSaid : Prop := Claim7.holds Tryz.pinned (.plain (OpenSpec.ofChange fnSessionPutSpec)) fnSessionPutCard

/-- THE TIED CARD OF 'laws.FnSessionQuestions'. -/
def fnSessionQuestionsCard : Claim7 := { stood := { row := fnSessionQuestionsRow, standIns := [], harness := (true, "41d019033fb542159c9dff77067cba60868db74ec58b5c6db98c1ac9b0d48f90"), looks := true }, kinds := [], alts := [], laidByText := true, laidKinds := [.data, .data, .data, .data, .sentinel, .sentinel, .pinned], laidTests := true, laidLooks := .later }
def FnSessionQuestionsCardSaid : Prop := Claim7.holds Tryz.pinned (.plain (OpenSpec.ofChange fnSessionQuestionsSpec)) fnSessionQuestionsCard

/-- THE TIED CARD OF 'laws.FnSessionSeries'. -/
def fnSessionSeriesCard : Claim7 := { stood := { row := fnSessionSeriesRow, standIns := [], harness := (true, "41d019033fb542159c9dff77067cba60868db74ec58b5c6db98c1ac9b0d48f90"), looks := true }, kinds := [], alts := [], laidByText := true, laidKinds := [.data, .data, .data, .data, .sentinel, .sentinel, .pinned], laidTests := true, laidLooks := .later }
def FnSessionSeriesCardSaid : Prop := Claim7.holds Tryz.pinned (.plain (OpenSpec.ofChange fnSessionSeriesSpec)) fnSessionSeriesCard

/-- THE TIED CARD OF 'laws.FnExactRunSession'. -/
def fnExactRunSessionCard : Claim7 := { stood := { row := fnExactRunSessionRow, standIns := [], harness := (true, "41d019033fb542159c9dff77067cba60868db74ec58b5c6db98c1ac9b0d48f90"), looks := true }, kinds := [], alts := [], laidByText := true, laidKinds := [.data, .data, .data, .data, .sentinel, .sentinel, .pinned], laidTests := true, laidLooks := .later }
def FnExactRunSessionCardSaid : Prop := Claim7.holds Tryz.pinned (.plain (OpenSpec.ofChange fnExactRunSessionSpec)) fnExactRunSessionCard

/-- THE TIED CARD OF 'laws.FnSessionPrefix'. -/
def fnSessionPrefixCard : Claim7 := { stood := { row := fnSessionPrefixRow, standIns := [], harness := (true, "41d019033fb542159c9dff77067cba60868db74ec58b5c6db98c1ac9b0d48f90"), looks := true }, kinds := [], alts := [], laidByText := true, laidKinds := [.data, .data, .data, .data, .sentinel, .sentinel, .pinned], laidTests := true, laidLooks := .later }
def FnSessionPrefixCardSaid : Prop := Claim7.holds Tryz.pinned (.plain (OpenSpec.ofChange fnSessionPrefixSpec)) fnSessionPrefixCard

/-- THE SECOND FORM's CARD OF 'laws.FnSessionPut'. -/
def fnSessionPutUptoCard : Claim7 := { stood := { row := fnSessionPutUptoRow, standIns := [], harness := (true, "41d019033fb542159c9dff77067cba60868db74ec58b5c6db98c1ac9b0d48f90"), looks := true }, kinds := [], alts := [], laidByText := true, laidKinds := [.data, .data, .data, .data, .sentinel, .sentinel, .pinned], laidTests := true, laidLooks := .later }
def FnSessionPutUptoCardSaid : Prop := Claim7.holds Tryz.pinned (.plain (OpenSpec.upto fnSessionPutSpec)) fnSessionPutUptoCard

/-- THE SECOND FORM's CARD OF 'laws.FnSessionQuestions'. -/
def fnSessionQuestionsUptoCard : Claim7 := { stood := { row := fnSessionQuestionsUptoRow, standIns := [], harness := (true, "41d019033fb542159c9dff77067cba60868db74ec58b5c6db98c1ac9b0d48f90"), looks := true }, kinds := [], alts := [], laidByText := true, laidKinds := [.data, .data, .data, .data, .sentinel, .sentinel, .pinned], laidTests := true, laidLooks := .later }
def FnSessionQuestionsUptoCardSaid : Prop := Claim7.holds Tryz.pinned (.plain (OpenSpec.upto fnSessionQuestionsSpec)) fnSessionQuestionsUptoCard

/-- THE SECOND FORM's CARD OF 'laws.FnSessionSeries'. -/
def fnSessionSeriesUptoCard : Claim7 := { stood := { row := fnSessionSeriesUptoRow, standIns := [], harness := (true, "41d019033fb542159c9dff77067cba60868db74ec58b5c6db98c1ac9b0d48f90"), looks := true }, kinds := [], alts := [], laidByText := true, laidKinds := [.data, .data, .data, .data, .sentinel, .sentinel, .pinned], laidTests := true, laidLooks := .later }
def FnSessionSeriesUptoCardSaid : Prop := Claim7.holds Tryz.pinned (.plain (OpenSpec.upto fnSessionSeriesSpec)) fnSessionSeriesUptoCard

/-- THE SECOND FORM's CARD OF 'laws.FnExactRunSession'. -/
def fnExactRunSessionUptoCard : Claim7 := { stood := { row := fnExactRunSessionUptoRow, standIns := [], harness := (true, "41d019033fb542159c9dff77067cba60868db74ec58b5c6db98c1ac9b0d48f90"), looks := true }, kinds := [], alts := [], laidByText := true, laidKinds := [.data, .data, .data, .data, .sentinel, .sentinel, .pinned], laidTests := true, laidLooks := .later }
def FnExactRunSessionUptoCardSaid : Prop := Claim7.holds Tryz.pinned (.plain (OpenSpec.upto fnExactRunSessionSpec)) fnExactRunSessionUptoCard

/-- THE SECOND FORM's CARD OF 'laws.FnSessionPrefix'. -/
def fnSessionPrefixUptoCard : Claim7 := { stood := { row := fnSessionPrefixUptoRow, standIns := [], harness := (true, "41d019033fb542159c9dff77067cba60868db74ec58b5c6db98c1ac9b0d48f90"), looks := true }, kinds := [], alts := [], laidByText := true, laidKinds := [.data, .data, .data, .data, .sentinel, .sentinel, .pinned], laidTests := true, laidLooks := .later }
def FnSessionPrefixUptoCardSaid : Prop := Claim7.holds Tryz.pinned (.plain (OpenSpec.upto fnSessionPrefixSpec)) fnSessionPrefixUptoCard
end Rows
end Go.Proofs.YtfoecgfboicphaaGreatDoor
