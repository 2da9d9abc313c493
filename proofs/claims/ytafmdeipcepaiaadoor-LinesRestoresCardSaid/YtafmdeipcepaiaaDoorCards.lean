/-
  DERIVED. GIVEN WITH THE SEED: THE CARDS: each row of YtafmdeipcepaiaaDoorRows.lean that lists a variable, with what it lists TIED to the program's text (the seventh form; the later family's looks); each row that meets fmt, with fmt's text TOLD by the authors' own Lean function (tested against real Go, not proved from fmt's source: count such statements apart). THE CARD IS WHAT COUNTS. Prove the row's statement (the work); the ties are given (YtafmdeipcepaiaaDoorTie.lean); close each card by the builder's one call (the guide's Derived/Test/ToyasCard.lean, 'card_holds'). Laid BY PROGRAM, IN A SANDBOX (cutbox-door.mjs). By AI agents, Wed Nov 11 2026. No macro, syntax, notation, axiom, sorry.
-/
import Derived.Test.YtafmdeipcepaiaaDoorRows
import GoSem.ClaimSeven
namespace Go.Proofs.YtafmdeipcepaiaaDoor
namespace Rows

/-- THE TIED CARD OF 'unicodetextlaw09.LinesParses'. -/
def linesParsesCard : Claim7 := { stood := { row := linesParsesRow, standIns := [], harness := (true, "43c920d3d89f617fae6a54fabae7d9422ffb05def26883219ff815215d4e36e7"), looks := false }, kinds := [], alts := [], laidByText := true, laidKinds := [.data, .data, .pinned], laidTests := true, laidLooks := .later }
def LinesParsesCardSaid : Prop := Claim7.holds Tryd.pinned (.plain (OpenSpec.ofChange linesParsesSpec)) linesParsesCard

/-- THE TIED CARD OF 'unicodetextlaw09.LinesValid'. -/
def linesValidCard : Claim7 := { stood := { row := linesValidRow, standIns := [], harness := (true, "43c920d3d89f617fae6a54fabae7d9422ffb05def26883219ff815215d4e36e7"), looks := false }, kinds := [], alts := [], laidByText := true, laidKinds := [.data, .data, .pinned], laidTests := true, laidLooks := .later }
def LinesValidCardSaid : Prop := Claim7.holds Tryd.pinned (.plain (OpenSpec.ofChange linesValidSpec)) linesValidCard

/-- THE TIED CARD OF 'unicodetextlaw09.LinesSpaces'. -/
def linesSpacesCard : Claim7 := { stood := { row := linesSpacesRow, standIns := [], harness := (true, "43c920d3d89f617fae6a54fabae7d9422ffb05def26883219ff815215d4e36e7"), looks := false }, kinds := [], alts := [], laidByText := true, laidKinds := [.data, .data, .pinned], laidTests := true, laidLooks := .later }
def LinesSpacesCardSaid : Prop := Claim7.holds Tryd.pinned (.plain (OpenSpec.ofChange linesSpacesSpec)) linesSpacesCard

/-- THE TIED CARD OF 'unicodetextlaw09.LinesJoins'. -/
def linesJoinsCard : Claim7 := { stood := { row := linesJoinsRow, standIns := [], harness := (true, "43c920d3d89f617fae6a54fabae7d9422ffb05def26883219ff815215d4e36e7"), looks := false }, kinds := [], alts := [], laidByText := true, laidKinds := [.data, .data, .pinned], laidTests := true, laidLooks := .later }
def LinesJoinsCardSaid : Prop := Claim7.holds Tryd.pinned (.plain (OpenSpec.ofChange linesJoinsSpec)) linesJoinsCard

/-- THE TIED CARD OF 'unicodetextlaw09.LinesLong'. -/
def linesLongCard : Claim7 := { stood := { row := linesLongRow, standIns := [], harness := (true, "43c920d3d89f617fae6a54fabae7d9422ffb05def26883219ff815215d4e36e7"), looks := false }, kinds := [], alts := [], laidByText := true, laidKinds := [.data, .data, .pinned], laidTests := true, laidLooks := .later }
def LinesLongCardSaid : Prop := Claim7.holds Tryd.pinned (.plain (OpenSpec.ofChange linesLongSpec)) linesLongCard

/-- THE TIED CARD OF 'unicodetextlaw09.LinesTexts'. -/
def linesTextsCard : Claim7 := { stood := { row := linesTextsRow, standIns := [], harness := (true, "43c920d3d89f617fae6a54fabae7d9422ffb05def26883219ff815215d4e36e7"), looks := false }, kinds := [], alts := [], laidByText := true, laidKinds := [.data, .data, .pinned], laidTests := true, laidLooks := .later }
def LinesTextsCardSaid : Prop := Claim7.holds Tryd.pinned (.plain (OpenSpec.ofChange linesTextsSpec)) linesTextsCard

/-- THE TIED CARD OF 'unicodetextlaw09.LinesRestores'. -/
def linesRestoresCard : Claim7 := { stood := { row := linesRestoresRow, standIns := [], harness := (true, "43c920d3d89f617fae6a54fabae7d9422ffb05def26883219ff815215d4e36e7"), looks := false }, kinds := [], alts := [], laidByText := true, laidKinds := [.data, .data, .pinned], laidTests := true, laidLooks := .later }
def LinesRestoresCardSaid : Prop := Claim7.holds Tryd.pinned (.plain (OpenSpec.ofChange linesRestoresSpec)) linesRestoresCard

/-- THE SECOND FORM's CARD OF 'unicodetextlaw09.LinesParses'. -/
def linesParsesUptoCard : Claim7 := { stood := { row := linesParsesUptoRow, standIns := [], harness := (true, "43c920d3d89f617fae6a54fabae7d9422ffb05def26883219ff815215d4e36e7"), looks := false }, kinds := [], alts := [], laidByText := true, laidKinds := [.data, .data, .pinned], laidTests := true, laidLooks := .later }
def LinesParsesUptoCardSaid : Prop := Claim7.holds Tryd.pinned (.plain (OpenSpec.upto linesParsesSpec)) linesParsesUptoCard

/-- THE SECOND FORM's CARD OF 'unicodetextlaw09.LinesValid'. -/
def linesValidUptoCard : Claim7 := { stood := { row := linesValidUptoRow, standIns := [], harness := (true, "43c920d3d89f617fae6a54fabae7d9422ffb05def26883219ff815215d4e36e7"), looks := false }, kinds := [], alts := [], laidByText := true, laidKinds := [.data, .data, .pinned], laidTests := true, laidLooks := .later }
def LinesValidUptoCardSaid : Prop := Claim7.holds Tryd.pinned (.plain (OpenSpec.upto linesValidSpec)) linesValidUptoCard

/-- THE SECOND FORM's CARD OF 'unicodetextlaw09.LinesSpaces'. -/
def linesSpacesUptoCard : Claim7 := { stood := { row := linesSpacesUptoRow, standIns := [], harness := (true, "43c920d3d89f617fae6a54fabae7d9422ffb05def26883219ff815215d4e36e7"), looks := false }, kinds := [], alts := [], laidByText := true, laidKinds := [.data, .data, .pinned], laidTests := true, laidLooks := .later }
def LinesSpacesUptoCardSaid : Prop := Claim7.holds Tryd.pinned (.plain (OpenSpec.upto linesSpacesSpec)) linesSpacesUptoCard

/-- THE SECOND FORM's CARD OF 'unicodetextlaw09.LinesJoins'. -/
def linesJoinsUptoCard : Claim7 := { stood := { row := linesJoinsUptoRow, standIns := [], harness := (true, "43c920d3d89f617fae6a54fabae7d9422ffb05def26883219ff815215d4e36e7"), looks := false }, kinds := [], alts := [], laidByText := true, laidKinds := [.data, .data, .pinned], laidTests := true, laidLooks := .later }
def LinesJoinsUptoCardSaid : Prop := Claim7.holds Tryd.pinned (.plain (OpenSpec.upto linesJoinsSpec)) linesJoinsUptoCard

/-- THE SECOND FORM's CARD OF 'unicodetextlaw09.LinesLong'. -/
def linesLongUptoCard : Claim7 := { stood := { row := linesLongUptoRow, standIns := [], harness := (true, "43c920d3d89f617fae6a54fabae7d9422ffb05def26883219ff815215d4e36e7"), looks := false }, kinds := [], alts := [], laidByText := true, laidKinds := [.data, .data, .pinned], laidTests := true, laidLooks := .later }
def LinesLongUptoCardSaid : Prop := Claim7.holds Tryd.pinned (.plain (OpenSpec.upto linesLongSpec)) linesLongUptoCard

/-- THE SECOND FORM's CARD OF 'unicodetextlaw09.LinesTexts'. -/
def linesTextsUptoCard : Claim7 := { stood := { row := linesTextsUptoRow, standIns := [], harness := (true, "43c920d3d89f617fae6a54fabae7d9422ffb05def26883219ff815215d4e36e7"), looks := false }, kinds := [], alts := [], laidByText := true, laidKinds := [.data, .data, .pinned], laidTests := true, laidLooks := .later }
def LinesTextsUptoCardSaid : Prop := Claim7.holds Tryd.pinned (.plain (OpenSpec.upto linesTextsSpec)) linesTextsUptoCard

/-- THE SECOND FORM's CARD OF 'unicodetextlaw09.LinesRestores'. -/
def linesRestoresUptoCard : Claim7 := { stood := { row := linesRestoresUptoRow, standIns := [], harness := (true, "43c920d3d89f617fae6a54fabae7d9422ffb05def26883219ff815215d4e36e7"), looks := false }, kinds := [], alts := [], laidByText := true, laidKinds := [.data, .data, .pinned], laidTests := true, laidLooks := .later }
def LinesRestoresUptoCardSaid : Prop := Claim7.holds Tryd.pinned (.plain (OpenSpec.upto linesRestoresSpec)) linesRestoresUptoCard
end Rows
end Go.Proofs.YtafmdeipcepaiaaDoor
