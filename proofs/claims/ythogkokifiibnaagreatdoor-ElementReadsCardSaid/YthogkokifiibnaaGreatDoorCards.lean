/-
  DERIVED. GIVEN WITH THE SEED: THE CARDS: each row of YthogkokifiibnaaGreatDoorRows.lean that lists a variable, with what it lists TIED to the program's text (the seventh form; the later family's looks); each row that meets fmt, with fmt's text TOLD by the authors' own Lean function (tested against real Go, not proved from fmt's source: count such statements apart). THE CARD IS WHAT COUNTS. Prove the row's statement (the work); the ties are given (YthogkokifiibnaaGreatDoorTie.lean); close each card by the builder's one call (the guide's Derived/Test/ToyasCard.lean, 'card_holds'). Laid BY PROGRAM, IN A SANDBOX (cutbox-door.mjs). By AI agents, Wed Nov 11 2026. No macro, syntax, notation, axiom, sorry.
-/
import Derived.Test.YthogkokifiibnaaGreatDoorRows
import GoSem.ClaimSeven
namespace Go.Proofs.YthogkokifiibnaaGreatDoor
namespace Rows

/-- THE TIED CARD OF 'unicodetextlaw42.ElementParses'. -/
def elementParsesCard : Claim7 := { stood := { row := elementParsesRow, standIns := [], harness := (true, "b447cf1c06deb7bc342595cf14126f511a01443cf452df6dc9495573aaecede1"), looks := true }, kinds := [], alts := [], laidByText := true, laidKinds := [.data, .data, .data, .data, .data, .sentinel, .sentinel, .pinned], laidTests := true, laidLooks := .later }
def ElementParsesCardSaid : Prop := Claim7.holds Tryz.pinned (.plain (OpenSpec.ofChange elementParsesSpec)) elementParsesCard

/-- THE TIED CARD OF 'unicodetextlaw42.ElementTexts'. -/
def elementTextsCard : Claim7 := { stood := { row := elementTextsRow, standIns := [], harness := (true, "b447cf1c06deb7bc342595cf14126f511a01443cf452df6dc9495573aaecede1"), looks := true }, kinds := [], alts := [], laidByText := true, laidKinds := [.data, .data, .data, .data, .data, .sentinel, .sentinel, .pinned], laidTests := true, laidLooks := .later }
def ElementTextsCardSaid : Prop := Claim7.holds Tryz.pinned (.plain (OpenSpec.ofChange elementTextsSpec)) elementTextsCard

/-- THE TIED CARD OF 'unicodetextlaw42.ElementFiles'. -/
def elementFilesCard : Claim7 := { stood := { row := elementFilesRow, standIns := [], harness := (true, "b447cf1c06deb7bc342595cf14126f511a01443cf452df6dc9495573aaecede1"), looks := true }, kinds := [], alts := [], laidByText := true, laidKinds := [.data, .data, .data, .data, .data, .sentinel, .sentinel, .pinned], laidTests := true, laidLooks := .later }
def ElementFilesCardSaid : Prop := Claim7.holds Tryz.pinned (.plain (OpenSpec.ofChange elementFilesSpec)) elementFilesCard

/-- THE TIED CARD OF 'unicodetextlaw42.ElementReads'. -/
def elementReadsCard : Claim7 := { stood := { row := elementReadsRow, standIns := [], harness := (true, "b447cf1c06deb7bc342595cf14126f511a01443cf452df6dc9495573aaecede1"), looks := true }, kinds := [], alts := [], laidByText := true, laidKinds := [.data, .data, .data, .data, .data, .sentinel, .sentinel, .pinned], laidTests := true, laidLooks := .later }
def ElementReadsCardSaid : Prop := Claim7.holds Tryz.pinned (.plain (OpenSpec.ofChange elementReadsSpec)) elementReadsCard

/-- THE TIED CARD OF 'unicodetextlaw42.ElementFileBack'. -/
def elementFileBackCard : Claim7 := { stood := { row := elementFileBackRow, standIns := [], harness := (true, "b447cf1c06deb7bc342595cf14126f511a01443cf452df6dc9495573aaecede1"), looks := true }, kinds := [], alts := [], laidByText := true, laidKinds := [.data, .data, .data, .data, .data, .sentinel, .sentinel, .pinned], laidTests := true, laidLooks := .later }
def ElementFileBackCardSaid : Prop := Claim7.holds Tryz.pinned (.plain (OpenSpec.ofChange elementFileBackSpec)) elementFileBackCard

/-- THE TIED CARD OF 'unicodetextlaw42.ElementComments'. -/
def elementCommentsCard : Claim7 := { stood := { row := elementCommentsRow, standIns := [], harness := (true, "b447cf1c06deb7bc342595cf14126f511a01443cf452df6dc9495573aaecede1"), looks := true }, kinds := [], alts := [], laidByText := true, laidKinds := [.data, .data, .data, .data, .data, .sentinel, .sentinel, .pinned], laidTests := true, laidLooks := .later }
def ElementCommentsCardSaid : Prop := Claim7.holds Tryz.pinned (.plain (OpenSpec.ofChange elementCommentsSpec)) elementCommentsCard

/-- THE SECOND FORM's CARD OF 'unicodetextlaw42.ElementParses'. -/
def elementParsesUptoCard : Claim7 := { stood := { row := elementParsesUptoRow, standIns := [], harness := (true, "b447cf1c06deb7bc342595cf14126f511a01443cf452df6dc9495573aaecede1"), looks := true }, kinds := [], alts := [], laidByText := true, laidKinds := [.data, .data, .data, .data, .data, .sentinel, .sentinel, .pinned], laidTests := true, laidLooks := .later }
def ElementParsesUptoCardSaid : Prop := Claim7.holds Tryz.pinned (.plain (OpenSpec.upto elementParsesSpec)) elementParsesUptoCard

/-- THE SECOND FORM's CARD OF 'unicodetextlaw42.ElementTexts'. -/
def elementTextsUptoCard : Claim7 := { stood := { row := elementTextsUptoRow, standIns := [], harness := (true, "b447cf1c06deb7bc342595cf14126f511a01443cf452df6dc9495573aaecede1"), looks := true }, kinds := [], alts := [], laidByText := true, laidKinds := [.data, .data, .data, .data, .data, .sentinel, .sentinel, .pinned], laidTests := true, laidLooks := .later }
def ElementTextsUptoCardSaid : Prop := Claim7.holds Tryz.pinned (.plain (OpenSpec.upto elementTextsSpec)) elementTextsUptoCard

/-- THE SECOND FORM's CARD OF 'unicodetextlaw42.ElementFiles'. -/
def elementFilesUptoCard : Claim7 := { stood := { row := elementFilesUptoRow, standIns := [], harness := (true, "b447cf1c06deb7bc342595cf14126f511a01443cf452df6dc9495573aaecede1"), looks := true }, kinds := [], alts := [], laidByText := true, laidKinds := [.data, .data, .data, .data, .data, .sentinel, .sentinel, .pinned], laidTests := true, laidLooks := .later }
def ElementFilesUptoCardSaid : Prop := Claim7.holds Tryz.pinned (.plain (OpenSpec.upto elementFilesSpec)) elementFilesUptoCard

/-- THE SECOND FORM's CARD OF 'unicodetextlaw42.ElementReads'. -/
def elementReadsUptoCard : Claim7 := { stood := { row := elementReadsUptoRow, standIns := [], harness := (true, "b447cf1c06deb7bc342595cf14126f511a01443cf452df6dc9495573aaecede1"), looks := true }, kinds := [], alts := [], laidByText := true, laidKinds := [.data, .data, .data, .data, .data, .sentinel, .sentinel, .pinned], laidTests := true, laidLooks := .later }
def ElementReadsUptoCardSaid : Prop := Claim7.holds Tryz.pinned (.plain (OpenSpec.upto elementReadsSpec)) elementReadsUptoCard

/-- THE SECOND FORM's CARD OF 'unicodetextlaw42.ElementFileBack'. -/
def elementFileBackUptoCard : Claim7 := { stood := { row := elementFileBackUptoRow, standIns := [], harness := (true, "b447cf1c06deb7bc342595cf14126f511a01443cf452df6dc9495573aaecede1"), looks := true }, kinds := [], alts := [], laidByText := true, laidKinds := [.data, .data, .data, .data, .data, .sentinel, .sentinel, .pinned], laidTests := true, laidLooks := .later }
def ElementFileBackUptoCardSaid : Prop := Claim7.holds Tryz.pinned (.plain (OpenSpec.upto elementFileBackSpec)) elementFileBackUptoCard

/-- THE SECOND FORM's CARD OF 'unicodetextlaw42.ElementComments'. -/
def elementCommentsUptoCard : Claim7 := { stood := { row := elementCommentsUptoRow, standIns := [], harness := (true, "b447cf1c06deb7bc342595cf14126f511a01443cf452df6dc9495573aaecede1"), looks := true }, kinds := [], alts := [], laidByText := true, laidKinds := [.data, .data, .data, .data, .data, .sentinel, .sentinel, .pinned], laidTests := true, laidLooks := .later }
def ElementCommentsUptoCardSaid : Prop := Claim7.holds Tryz.pinned (.plain (OpenSpec.upto elementCommentsSpec)) elementCommentsUptoCard
end Rows
end Go.Proofs.YthogkokifiibnaaGreatDoor
