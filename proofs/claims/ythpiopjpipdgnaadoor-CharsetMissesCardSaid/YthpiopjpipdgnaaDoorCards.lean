/-
  DERIVED. GIVEN WITH THE SEED: THE CARDS: each row of YthpiopjpipdgnaaDoorRows.lean that lists a variable, with what it lists TIED to the program's text (the seventh form; the later family's looks); each row that meets fmt, with fmt's text TOLD by the authors' own Lean function (tested against real Go, not proved from fmt's source: count such statements apart). THE CARD IS WHAT COUNTS. Prove the row's statement (the work); the ties are given (YthpiopjpipdgnaaDoorTie.lean); close each card by the builder's one call (the guide's Derived/Test/ToyasCard.lean, 'card_holds'). Laid BY PROGRAM, IN A SANDBOX (cutbox-door.mjs). By AI agents, Wed Nov 11 2026. No macro, syntax, notation, axiom, sorry.
-/
import Derived.Test.YthpiopjpipdgnaaDoorRows
import GoSem.ClaimSeven
namespace Go.Proofs.YthpiopjpipdgnaaDoor
namespace Rows

/-- THE TIED CARD OF 'unicodetextlaw06.CharsetChecks'. -/
def charsetChecksCard : Claim7 := { stood := { row := charsetChecksRow, standIns := [], harness := (true, "381ca7bbd86c0e16a31bf7c1dcbfc9f6286d667d512ab3fc7c81b5a2e9106c89"), looks := false }, kinds := [], alts := [], laidByText := true, laidKinds := [.data, .data, .pinned], laidTests := true, laidLooks := .later }
def CharsetChecksCardSaid : Prop := Claim7.holds Tryd.pinned (.plain (OpenSpec.ofChange charsetChecksSpec)) charsetChecksCard

/-- THE TIED CARD OF 'unicodetextlaw06.CharsetEncodes'. -/
def charsetEncodesCard : Claim7 := { stood := { row := charsetEncodesRow, standIns := [], harness := (true, "381ca7bbd86c0e16a31bf7c1dcbfc9f6286d667d512ab3fc7c81b5a2e9106c89"), looks := false }, kinds := [], alts := [], laidByText := true, laidKinds := [.data, .data, .pinned], laidTests := true, laidLooks := .later }
def CharsetEncodesCardSaid : Prop := Claim7.holds Tryd.pinned (.plain (OpenSpec.ofChange charsetEncodesSpec)) charsetEncodesCard

/-- THE TIED CARD OF 'unicodetextlaw06.CharsetParses'. -/
def charsetParsesCard : Claim7 := { stood := { row := charsetParsesRow, standIns := [], harness := (true, "381ca7bbd86c0e16a31bf7c1dcbfc9f6286d667d512ab3fc7c81b5a2e9106c89"), looks := false }, kinds := [], alts := [], laidByText := true, laidKinds := [.data, .data, .pinned], laidTests := true, laidLooks := .later }
def CharsetParsesCardSaid : Prop := Claim7.holds Tryd.pinned (.plain (OpenSpec.ofChange charsetParsesSpec)) charsetParsesCard

/-- THE TIED CARD OF 'unicodetextlaw06.CharsetTexts'. -/
def charsetTextsCard : Claim7 := { stood := { row := charsetTextsRow, standIns := [], harness := (true, "381ca7bbd86c0e16a31bf7c1dcbfc9f6286d667d512ab3fc7c81b5a2e9106c89"), looks := false }, kinds := [], alts := [], laidByText := true, laidKinds := [.data, .data, .pinned], laidTests := true, laidLooks := .later }
def CharsetTextsCardSaid : Prop := Claim7.holds Tryd.pinned (.plain (OpenSpec.ofChange charsetTextsSpec)) charsetTextsCard

/-- THE TIED CARD OF 'unicodetextlaw06.CharsetRestores'. -/
def charsetRestoresCard : Claim7 := { stood := { row := charsetRestoresRow, standIns := [], harness := (true, "381ca7bbd86c0e16a31bf7c1dcbfc9f6286d667d512ab3fc7c81b5a2e9106c89"), looks := false }, kinds := [], alts := [], laidByText := true, laidKinds := [.data, .data, .pinned], laidTests := true, laidLooks := .later }
def CharsetRestoresCardSaid : Prop := Claim7.holds Tryd.pinned (.plain (OpenSpec.ofChange charsetRestoresSpec)) charsetRestoresCard

/-- THE TIED CARD OF 'unicodetextlaw06.CharsetDecodes'. -/
def charsetDecodesCard : Claim7 := { stood := { row := charsetDecodesRow, standIns := [], harness := (true, "381ca7bbd86c0e16a31bf7c1dcbfc9f6286d667d512ab3fc7c81b5a2e9106c89"), looks := false }, kinds := [], alts := [], laidByText := true, laidKinds := [.data, .data, .pinned], laidTests := true, laidLooks := .later }
def CharsetDecodesCardSaid : Prop := Claim7.holds Tryd.pinned (.plain (OpenSpec.ofChange charsetDecodesSpec)) charsetDecodesCard

/-- THE TIED CARD OF 'unicodetextlaw06.CharsetBack'. -/
def charsetBackCard : Claim7 := { stood := { row := charsetBackRow, standIns := [], harness := (true, "381ca7bbd86c0e16a31bf7c1dcbfc9f6286d667d512ab3fc7c81b5a2e9106c89"), looks := false }, kinds := [], alts := [], laidByText := true, laidKinds := [.data, .data, .pinned], laidTests := true, laidLooks := .later }
def CharsetBackCardSaid : Prop := Claim7.holds Tryd.pinned (.plain (OpenSpec.ofChange charsetBackSpec)) charsetBackCard

/-- THE TIED CARD OF 'unicodetextlaw06.CharsetMisses'. -/
def charsetMissesCard : Claim7 := { stood := { row := charsetMissesRow, standIns := [], harness := (true, "381ca7bbd86c0e16a31bf7c1dcbfc9f6286d667d512ab3fc7c81b5a2e9106c89"), looks := false }, kinds := [], alts := [], laidByText := true, laidKinds := [.data, .data, .pinned], laidTests := true, laidLooks := .later }
def CharsetMissesCardSaid : Prop := Claim7.holds Tryd.pinned (.plain (OpenSpec.ofChange charsetMissesSpec)) charsetMissesCard

/-- THE SECOND FORM's CARD OF 'unicodetextlaw06.CharsetChecks'. -/
def charsetChecksUptoCard : Claim7 := { stood := { row := charsetChecksUptoRow, standIns := [], harness := (true, "381ca7bbd86c0e16a31bf7c1dcbfc9f6286d667d512ab3fc7c81b5a2e9106c89"), looks := false }, kinds := [], alts := [], laidByText := true, laidKinds := [.data, .data, .pinned], laidTests := true, laidLooks := .later }
def CharsetChecksUptoCardSaid : Prop := Claim7.holds Tryd.pinned (.plain (OpenSpec.upto charsetChecksSpec)) charsetChecksUptoCard

/-- THE SECOND FORM's CARD OF 'unicodetextlaw06.CharsetEncodes'. -/
def charsetEncodesUptoCard : Claim7 := { stood := { row := charsetEncodesUptoRow, standIns := [], harness := (true, "381ca7bbd86c0e16a31bf7c1dcbfc9f6286d667d512ab3fc7c81b5a2e9106c89"), looks := false }, kinds := [], alts := [], laidByText := true, laidKinds := [.data, .data, .pinned], laidTests := true, laidLooks := .later }
def CharsetEncodesUptoCardSaid : Prop := Claim7.holds Tryd.pinned (.plain (OpenSpec.upto charsetEncodesSpec)) charsetEncodesUptoCard

/-- THE SECOND FORM's CARD OF 'unicodetextlaw06.CharsetParses'. -/
def charsetParsesUptoCard : Claim7 := { stood := { row := charsetParsesUptoRow, standIns := [], harness := (true, "381ca7bbd86c0e16a31bf7c1dcbfc9f6286d667d512ab3fc7c81b5a2e9106c89"), looks := false }, kinds := [], alts := [], laidByText := true, laidKinds := [.data, .data, .pinned], laidTests := true, laidLooks := .later }
def CharsetParsesUptoCardSaid : Prop := Claim7.holds Tryd.pinned (.plain (OpenSpec.upto charsetParsesSpec)) charsetParsesUptoCard

/-- THE SECOND FORM's CARD OF 'unicodetextlaw06.CharsetTexts'. -/
def charsetTextsUptoCard : Claim7 := { stood := { row := charsetTextsUptoRow, standIns := [], harness := (true, "381ca7bbd86c0e16a31bf7c1dcbfc9f6286d667d512ab3fc7c81b5a2e9106c89"), looks := false }, kinds := [], alts := [], laidByText := true, laidKinds := [.data, .data, .pinned], laidTests := true, laidLooks := .later }
def CharsetTextsUptoCardSaid : Prop := Claim7.holds Tryd.pinned (.plain (OpenSpec.upto charsetTextsSpec)) charsetTextsUptoCard

/-- THE SECOND FORM's CARD OF 'unicodetextlaw06.CharsetRestores'. -/
def charsetRestoresUptoCard : Claim7 := { stood := { row := charsetRestoresUptoRow, standIns := [], harness := (true, "381ca7bbd86c0e16a31bf7c1dcbfc9f6286d667d512ab3fc7c81b5a2e9106c89"), looks := false }, kinds := [], alts := [], laidByText := true, laidKinds := [.data, .data, .pinned], laidTests := true, laidLooks := .later }
def CharsetRestoresUptoCardSaid : Prop := Claim7.holds Tryd.pinned (.plain (OpenSpec.upto charsetRestoresSpec)) charsetRestoresUptoCard

/-- THE SECOND FORM's CARD OF 'unicodetextlaw06.CharsetDecodes'. -/
def charsetDecodesUptoCard : Claim7 := { stood := { row := charsetDecodesUptoRow, standIns := [], harness := (true, "381ca7bbd86c0e16a31bf7c1dcbfc9f6286d667d512ab3fc7c81b5a2e9106c89"), looks := false }, kinds := [], alts := [], laidByText := true, laidKinds := [.data, .data, .pinned], laidTests := true, laidLooks := .later }
def CharsetDecodesUptoCardSaid : Prop := Claim7.holds Tryd.pinned (.plain (OpenSpec.upto charsetDecodesSpec)) charsetDecodesUptoCard

/-- THE SECOND FORM's CARD OF 'unicodetextlaw06.CharsetBack'. -/
def charsetBackUptoCard : Claim7 := { stood := { row := charsetBackUptoRow, standIns := [], harness := (true, "381ca7bbd86c0e16a31bf7c1dcbfc9f6286d667d512ab3fc7c81b5a2e9106c89"), looks := false }, kinds := [], alts := [], laidByText := true, laidKinds := [.data, .data, .pinned], laidTests := true, laidLooks := .later }
def CharsetBackUptoCardSaid : Prop := Claim7.holds Tryd.pinned (.plain (OpenSpec.upto charsetBackSpec)) charsetBackUptoCard

/-- THE SECOND FORM's CARD OF 'unicodetextlaw06.CharsetMisses'. -/
def charsetMissesUptoCard : Claim7 := { stood := { row := charsetMissesUptoRow, standIns := [], harness := (true, "381ca7bbd86c0e16a31bf7c1dcbfc9f6286d667d512ab3fc7c81b5a2e9106c89"), looks := false }, kinds := [], alts := [], laidByText := true, laidKinds := [.data, .data, .pinned], laidTests := true, laidLooks := .later }
def CharsetMissesUptoCardSaid : Prop := Claim7.holds Tryd.pinned (.plain (OpenSpec.upto charsetMissesSpec)) charsetMissesUptoCard
end Rows
end Go.Proofs.YthpiopjpipdgnaaDoor
