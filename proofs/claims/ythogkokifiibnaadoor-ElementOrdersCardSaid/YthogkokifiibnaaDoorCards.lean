/-
  DERIVED. GIVEN WITH THE SEED: THE CARDS: each row of YthogkokifiibnaaDoorRows.lean that lists a variable, with what it lists TIED to the program's text (the seventh form; the later family's looks); each row that meets fmt, with fmt's text TOLD by the authors' own Lean function (tested against real Go, not proved from fmt's source: count such statements apart). THE CARD IS WHAT COUNTS. Prove the row's statement (the work); the ties are given (YthogkokifiibnaaDoorTie.lean); close each card by the builder's one call (the guide's Derived/Test/ToyasCard.lean, 'card_holds'). Laid BY PROGRAM, IN A SANDBOX (cutbox-door.mjs). By AI agents, Wed Nov 11 2026. No macro, syntax, notation, axiom, sorry.
-/
import Derived.Test.YthogkokifiibnaaDoorRows
import GoSem.ClaimSeven
namespace Go.Proofs.YthogkokifiibnaaDoor
namespace Rows

/-- THE TIED CARD OF 'unicodetextlaw42.ElementBack'. -/
def elementBackCard : Claim7 := { stood := { row := elementBackRow, standIns := [], harness := (true, "d39d36d02f4aeda07cff7a78bbe37ac1c2566dc7257a243acc2c10487334e201"), looks := true }, kinds := [], alts := [], laidByText := true, laidKinds := [.data, .data, .data, .data, .data, .sentinel, .sentinel, .pinned], laidTests := true, laidLooks := .later }
def ElementBackCardSaid : Prop := Claim7.holds Tryd.pinned (.plain (OpenSpec.ofChange elementBackSpec)) elementBackCard

/-- THE TIED CARD OF 'unicodetextlaw42.ElementChecks'. -/
def elementChecksCard : Claim7 := { stood := { row := elementChecksRow, standIns := [], harness := (true, "d39d36d02f4aeda07cff7a78bbe37ac1c2566dc7257a243acc2c10487334e201"), looks := true }, kinds := [], alts := [], laidByText := true, laidKinds := [.data, .data, .data, .data, .data, .sentinel, .sentinel, .pinned], laidTests := true, laidLooks := .later }
def ElementChecksCardSaid : Prop := Claim7.holds Tryd.pinned (.plain (OpenSpec.ofChange elementChecksSpec)) elementChecksCard

/-- THE TIED CARD OF 'unicodetextlaw42.ElementJoins'. -/
def elementJoinsCard : Claim7 := { stood := { row := elementJoinsRow, standIns := [], harness := (true, "d39d36d02f4aeda07cff7a78bbe37ac1c2566dc7257a243acc2c10487334e201"), looks := true }, kinds := [], alts := [], laidByText := true, laidKinds := [.data, .data, .data, .data, .data, .sentinel, .sentinel, .pinned], laidTests := true, laidLooks := .later }
def ElementJoinsCardSaid : Prop := Claim7.holds Tryd.pinned (.plain (OpenSpec.ofChange elementJoinsSpec)) elementJoinsCard

/-- THE TIED CARD OF 'unicodetextlaw42.ElementOrders'. -/
def elementOrdersCard : Claim7 := { stood := { row := elementOrdersRow, standIns := [], harness := (true, "d39d36d02f4aeda07cff7a78bbe37ac1c2566dc7257a243acc2c10487334e201"), looks := true }, kinds := [], alts := [], laidByText := true, laidKinds := [.data, .data, .data, .data, .data, .sentinel, .sentinel, .pinned], laidTests := true, laidLooks := .later }
def ElementOrdersCardSaid : Prop := Claim7.holds Tryd.pinned (.plain (OpenSpec.ofChange elementOrdersSpec)) elementOrdersCard

/-- THE SECOND FORM's CARD OF 'unicodetextlaw42.ElementBack'. -/
def elementBackUptoCard : Claim7 := { stood := { row := elementBackUptoRow, standIns := [], harness := (true, "d39d36d02f4aeda07cff7a78bbe37ac1c2566dc7257a243acc2c10487334e201"), looks := true }, kinds := [], alts := [], laidByText := true, laidKinds := [.data, .data, .data, .data, .data, .sentinel, .sentinel, .pinned], laidTests := true, laidLooks := .later }
def ElementBackUptoCardSaid : Prop := Claim7.holds Tryd.pinned (.plain (OpenSpec.upto elementBackSpec)) elementBackUptoCard

/-- THE SECOND FORM's CARD OF 'unicodetextlaw42.ElementChecks'. -/
def elementChecksUptoCard : Claim7 := { stood := { row := elementChecksUptoRow, standIns := [], harness := (true, "d39d36d02f4aeda07cff7a78bbe37ac1c2566dc7257a243acc2c10487334e201"), looks := true }, kinds := [], alts := [], laidByText := true, laidKinds := [.data, .data, .data, .data, .data, .sentinel, .sentinel, .pinned], laidTests := true, laidLooks := .later }
def ElementChecksUptoCardSaid : Prop := Claim7.holds Tryd.pinned (.plain (OpenSpec.upto elementChecksSpec)) elementChecksUptoCard

/-- THE SECOND FORM's CARD OF 'unicodetextlaw42.ElementJoins'. -/
def elementJoinsUptoCard : Claim7 := { stood := { row := elementJoinsUptoRow, standIns := [], harness := (true, "d39d36d02f4aeda07cff7a78bbe37ac1c2566dc7257a243acc2c10487334e201"), looks := true }, kinds := [], alts := [], laidByText := true, laidKinds := [.data, .data, .data, .data, .data, .sentinel, .sentinel, .pinned], laidTests := true, laidLooks := .later }
def ElementJoinsUptoCardSaid : Prop := Claim7.holds Tryd.pinned (.plain (OpenSpec.upto elementJoinsSpec)) elementJoinsUptoCard

/-- THE SECOND FORM's CARD OF 'unicodetextlaw42.ElementOrders'. -/
def elementOrdersUptoCard : Claim7 := { stood := { row := elementOrdersUptoRow, standIns := [], harness := (true, "d39d36d02f4aeda07cff7a78bbe37ac1c2566dc7257a243acc2c10487334e201"), looks := true }, kinds := [], alts := [], laidByText := true, laidKinds := [.data, .data, .data, .data, .data, .sentinel, .sentinel, .pinned], laidTests := true, laidLooks := .later }
def ElementOrdersUptoCardSaid : Prop := Claim7.holds Tryd.pinned (.plain (OpenSpec.upto elementOrdersSpec)) elementOrdersUptoCard
end Rows
end Go.Proofs.YthogkokifiibnaaDoor
