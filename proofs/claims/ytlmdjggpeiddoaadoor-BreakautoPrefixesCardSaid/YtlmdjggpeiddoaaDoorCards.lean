/-
  DERIVED. GIVEN WITH THE SEED: THE CARDS: each row of YtlmdjggpeiddoaaDoorRows.lean that lists a variable, with what it lists TIED to the program's text (the seventh form; the later family's looks); each row that meets fmt, with fmt's text TOLD by the authors' own Lean function (tested against real Go, not proved from fmt's source: count such statements apart). THE CARD IS WHAT COUNTS. Prove the row's statement (the work); the ties are given (YtlmdjggpeiddoaaDoorTie.lean); close each card by the builder's one call (the guide's Derived/Test/ToyasCard.lean, 'card_holds'). Laid BY PROGRAM, IN A SANDBOX (cutbox-door.mjs). By AI agents, Wed Nov 11 2026. No macro, syntax, notation, axiom, sorry.
-/
import Derived.Test.YtlmdjggpeiddoaaDoorRows
import GoSem.ClaimSeven
namespace Go.Proofs.YtlmdjggpeiddoaaDoor
namespace Rows

/-- THE TIED CARD OF 'unicodetextlaw29.BreakautoValid'. -/
def breakautoValidCard : Claim7 := { stood := { row := breakautoValidRow, standIns := [], harness := (true, "7ff5a1024f531a4fc0c2c018d2a45010c0a87cb7863d96cf75b63d1223533c74"), looks := false }, kinds := [], alts := [], laidByText := true, laidKinds := [.data, .data, .data], laidTests := true, laidLooks := .later }
def BreakautoValidCardSaid : Prop := Claim7.holds Tryd.pinned (.plain (OpenSpec.ofChange breakautoValidSpec)) breakautoValidCard

/-- THE TIED CARD OF 'unicodetextlaw29.BreakautoStates'. -/
def breakautoStatesCard : Claim7 := { stood := { row := breakautoStatesRow, standIns := [], harness := (true, "7ff5a1024f531a4fc0c2c018d2a45010c0a87cb7863d96cf75b63d1223533c74"), looks := false }, kinds := [], alts := [], laidByText := true, laidKinds := [.data, .data, .data], laidTests := true, laidLooks := .later }
def BreakautoStatesCardSaid : Prop := Claim7.holds Tryd.pinned (.plain (OpenSpec.ofChange breakautoStatesSpec)) breakautoStatesCard

/-- THE TIED CARD OF 'unicodetextlaw29.BreakautoPrefixes'. -/
def breakautoPrefixesCard : Claim7 := { stood := { row := breakautoPrefixesRow, standIns := [], harness := (true, "7ff5a1024f531a4fc0c2c018d2a45010c0a87cb7863d96cf75b63d1223533c74"), looks := false }, kinds := [], alts := [], laidByText := true, laidKinds := [.data, .data, .data], laidTests := true, laidLooks := .later }
def BreakautoPrefixesCardSaid : Prop := Claim7.holds Tryd.pinned (.plain (OpenSpec.ofChange breakautoPrefixesSpec)) breakautoPrefixesCard

/-- THE TIED CARD OF 'unicodetextlaw29.BreakautoDecides'. -/
def breakautoDecidesCard : Claim7 := { stood := { row := breakautoDecidesRow, standIns := [], harness := (true, "7ff5a1024f531a4fc0c2c018d2a45010c0a87cb7863d96cf75b63d1223533c74"), looks := false }, kinds := [], alts := [], laidByText := true, laidKinds := [.data, .data, .data], laidTests := true, laidLooks := .later }
def BreakautoDecidesCardSaid : Prop := Claim7.holds Tryd.pinned (.plain (OpenSpec.ofChange breakautoDecidesSpec)) breakautoDecidesCard

/-- THE TIED CARD OF 'unicodetextlaw29.BreakautoActions'. -/
def breakautoActionsCard : Claim7 := { stood := { row := breakautoActionsRow, standIns := [], harness := (true, "7ff5a1024f531a4fc0c2c018d2a45010c0a87cb7863d96cf75b63d1223533c74"), looks := false }, kinds := [], alts := [], laidByText := true, laidKinds := [.data, .data, .data], laidTests := true, laidLooks := .later }
def BreakautoActionsCardSaid : Prop := Claim7.holds Tryd.pinned (.plain (OpenSpec.ofChange breakautoActionsSpec)) breakautoActionsCard

/-- THE TIED CARD OF 'unicodetextlaw29.BreakautoLess'. -/
def breakautoLessCard : Claim7 := { stood := { row := breakautoLessRow, standIns := [], harness := (true, "7ff5a1024f531a4fc0c2c018d2a45010c0a87cb7863d96cf75b63d1223533c74"), looks := false }, kinds := [], alts := [], laidByText := true, laidKinds := [.data, .data, .data], laidTests := true, laidLooks := .later }
def BreakautoLessCardSaid : Prop := Claim7.holds Tryd.pinned (.plain (OpenSpec.ofChange breakautoLessSpec)) breakautoLessCard

/-- THE SECOND FORM's CARD OF 'unicodetextlaw29.BreakautoValid'. -/
def breakautoValidUptoCard : Claim7 := { stood := { row := breakautoValidUptoRow, standIns := [], harness := (true, "7ff5a1024f531a4fc0c2c018d2a45010c0a87cb7863d96cf75b63d1223533c74"), looks := false }, kinds := [], alts := [], laidByText := true, laidKinds := [.data, .data, .data], laidTests := true, laidLooks := .later }
def BreakautoValidUptoCardSaid : Prop := Claim7.holds Tryd.pinned (.plain (OpenSpec.upto breakautoValidSpec)) breakautoValidUptoCard

/-- THE SECOND FORM's CARD OF 'unicodetextlaw29.BreakautoStates'. -/
def breakautoStatesUptoCard : Claim7 := { stood := { row := breakautoStatesUptoRow, standIns := [], harness := (true, "7ff5a1024f531a4fc0c2c018d2a45010c0a87cb7863d96cf75b63d1223533c74"), looks := false }, kinds := [], alts := [], laidByText := true, laidKinds := [.data, .data, .data], laidTests := true, laidLooks := .later }
def BreakautoStatesUptoCardSaid : Prop := Claim7.holds Tryd.pinned (.plain (OpenSpec.upto breakautoStatesSpec)) breakautoStatesUptoCard

/-- THE SECOND FORM's CARD OF 'unicodetextlaw29.BreakautoPrefixes'. -/
def breakautoPrefixesUptoCard : Claim7 := { stood := { row := breakautoPrefixesUptoRow, standIns := [], harness := (true, "7ff5a1024f531a4fc0c2c018d2a45010c0a87cb7863d96cf75b63d1223533c74"), looks := false }, kinds := [], alts := [], laidByText := true, laidKinds := [.data, .data, .data], laidTests := true, laidLooks := .later }
def BreakautoPrefixesUptoCardSaid : Prop := Claim7.holds Tryd.pinned (.plain (OpenSpec.upto breakautoPrefixesSpec)) breakautoPrefixesUptoCard

/-- THE SECOND FORM's CARD OF 'unicodetextlaw29.BreakautoDecides'. -/
def breakautoDecidesUptoCard : Claim7 := { stood := { row := breakautoDecidesUptoRow, standIns := [], harness := (true, "7ff5a1024f531a4fc0c2c018d2a45010c0a87cb7863d96cf75b63d1223533c74"), looks := false }, kinds := [], alts := [], laidByText := true, laidKinds := [.data, .data, .data], laidTests := true, laidLooks := .later }
def BreakautoDecidesUptoCardSaid : Prop := Claim7.holds Tryd.pinned (.plain (OpenSpec.upto breakautoDecidesSpec)) breakautoDecidesUptoCard

/-- THE SECOND FORM's CARD OF 'unicodetextlaw29.BreakautoActions'. -/
def breakautoActionsUptoCard : Claim7 := { stood := { row := breakautoActionsUptoRow, standIns := [], harness := (true, "7ff5a1024f531a4fc0c2c018d2a45010c0a87cb7863d96cf75b63d1223533c74"), looks := false }, kinds := [], alts := [], laidByText := true, laidKinds := [.data, .data, .data], laidTests := true, laidLooks := .later }
def BreakautoActionsUptoCardSaid : Prop := Claim7.holds Tryd.pinned (.plain (OpenSpec.upto breakautoActionsSpec)) breakautoActionsUptoCard

/-- THE SECOND FORM's CARD OF 'unicodetextlaw29.BreakautoLess'. -/
def breakautoLessUptoCard : Claim7 := { stood := { row := breakautoLessUptoRow, standIns := [], harness := (true, "7ff5a1024f531a4fc0c2c018d2a45010c0a87cb7863d96cf75b63d1223533c74"), looks := false }, kinds := [], alts := [], laidByText := true, laidKinds := [.data, .data, .data], laidTests := true, laidLooks := .later }
def BreakautoLessUptoCardSaid : Prop := Claim7.holds Tryd.pinned (.plain (OpenSpec.upto breakautoLessSpec)) breakautoLessUptoCard
end Rows
end Go.Proofs.YtlmdjggpeiddoaaDoor
