/-
  NARROWER THAN 'FOR EVERY INPUT', by the rows' own cells (each row's printed sentence says how): LinesParses: laid · LinesValid: laid · LinesSpaces: laid · LinesJoins: laid · LinesLong: laid · LinesTexts: laid · LinesRestores: laid.
  DERIVED. THE GIVEN ROWS OF THIS SEAT. 7 by the template 'for every input the law returns true; each argument reads behind the call as it read before'; 0 by the template 'total and deterministic' (their statements: YtafmdeipcepaiaaDoorTotals.lean).
  GIVEN WITH THE SEED: the statements are not yours to turn. If you find one false, say at which input.
  Laid BY PROGRAM, IN A SANDBOX (cutbox-rows.mjs): the forced cells as the released guide's own fill.sh prints them over the translation a34e6819aa755e03… (all of the seat's roots in one cut). By AI agents, Wed Nov 11 2026. No macro, syntax, notation, axiom, sorry.
-/
import Derived.Test.YtafmdeipcepaiaaDoorChecked
import GoSem.PinnedTables
import GoSem.Claim
import GoSem.ClaimJoined
import GoSem.ClaimMapViews
import Derived.JoinedTies
import Derived.KernelRfl
namespace Go.Proofs.YtafmdeipcepaiaaDoor
/- THE CELL 'sum', in the pinned program and in every row, IS THE sha256 OF THE DUMP (.gsa) THAT YtafmdeipcepaiaaDoorProg.lean LOADS. Nothing in Lean hashes anything: it is a label: what it is worth is what the hold of that sum in a sandbox is worth. -/
noncomputable def Tryd.pinned : Pinned := { name := "ytafmdeipcepaiaadoor", sum := "a34e6819aa755e03919ed264836dabee84a4bfaf822fdaaceb896619af3cf830", checked := Tryd.checked }
namespace Rows
def none {H : Type} : Left H := { results := [], args := [] }

/- WHAT THE LISTED PACKAGE-LEVEL VARIABLES READ AS WHEN THE CALL BEGINS. Each datum BY PROGRAM (the guide's laid-datum.mjs) off the statement by which the dump's own 'gosem.cut.vars' lays the variable. In a bare row this is a premise. The card (YtafmdeipcepaiaaDoorCards.lean) ties it to the program's text. -/
def laid_unicode_utf8_acceptRanges {H : Type} : DataW H := .agg [.agg [.lit (.int .u8 128), .lit (.int .u8 191)], .agg [.lit (.int .u8 160), .lit (.int .u8 191)], .agg [.lit (.int .u8 128), .lit (.int .u8 159)], .agg [.lit (.int .u8 144), .lit (.int .u8 191)], .agg [.lit (.int .u8 128), .lit (.int .u8 143)], .agg [.lit (.int .u8 0), .lit (.int .u8 0)], .agg [.lit (.int .u8 0), .lit (.int .u8 0)], .agg [.lit (.int .u8 0), .lit (.int .u8 0)], .agg [.lit (.int .u8 0), .lit (.int .u8 0)], .agg [.lit (.int .u8 0), .lit (.int .u8 0)], .agg [.lit (.int .u8 0), .lit (.int .u8 0)], .agg [.lit (.int .u8 0), .lit (.int .u8 0)], .agg [.lit (.int .u8 0), .lit (.int .u8 0)], .agg [.lit (.int .u8 0), .lit (.int .u8 0)], .agg [.lit (.int .u8 0), .lit (.int .u8 0)], .agg [.lit (.int .u8 0), .lit (.int .u8 0)]]
def laid_unicodetext_codepoint_digits {H : Type} : DataW H := .agg [.lit (.int .u8 48), .lit (.int .u8 49), .lit (.int .u8 50), .lit (.int .u8 51), .lit (.int .u8 52), .lit (.int .u8 53), .lit (.int .u8 54), .lit (.int .u8 55), .lit (.int .u8 56), .lit (.int .u8 57), .lit (.int .u8 65), .lit (.int .u8 66), .lit (.int .u8 67), .lit (.int .u8 68), .lit (.int .u8 69), .lit (.int .u8 70)]
/-- One of Go's own tables, pinned by name: the form's constant. -/
def laid_unicode_utf8_first : DataW Unit := Go.Pinned.utf8First

/-- 'unicodetextlaw09.LinesParses': WHATEVER THE INPUT: true; the input reads as it did. -/
def linesParsesSpec : ChangeSpec := { name := "linesParses", fn := fun _ => fun
  | [d] => { results := [.lit (.bool true)], args := [d] }
  | _ => none }
def linesParsesRow : OpenClaim := { program := "ytafmdeipcepaiaadoor", sum := "a34e6819aa755e03919ed264836dabee84a4bfaf822fdaaceb896619af3cf830", func := "unicodetext/unicodetextlaw09.LinesParses", spec := "linesParses", inPlace := ["internal/bytealg.IndexByteString", "internal/bytealg.IndexString"], unfollowed := true, recurses := true, named := ["internal/bytealg.MaxLen", "unicode/utf8.first", "unicode/utf8.acceptRanges", "unicodetext/codepoint.digits"], apart := false, laid := [("unicode/utf8.acceptRanges", laid_unicode_utf8_acceptRanges), ("unicodetext/codepoint.digits", laid_unicodetext_codepoint_digits), ("unicode/utf8.first", laid_unicode_utf8_first)] }
def LinesParsesSaid : Prop := linesParsesRow.holds Tryd.pinned (OpenSpec.ofChange linesParsesSpec)

/-- ITS FALSE NEIGHBOUR: 'it returns false'. Refute it at one input. -/
def linesParsesWrong : ChangeSpec := { name := "linesParses", fn := fun _ => fun
  | [d] => { results := [.lit (.bool false)], args := [d] }
  | _ => none }
def LinesParsesWrongFalsely : Prop := linesParsesRow.holds Tryd.pinned (OpenSpec.ofChange linesParsesWrong)

/-- 'unicodetextlaw09.LinesValid': WHATEVER THE INPUT: true; the input reads as it did. -/
def linesValidSpec : ChangeSpec := { name := "linesValid", fn := fun _ => fun
  | [d] => { results := [.lit (.bool true)], args := [d] }
  | _ => none }
def linesValidRow : OpenClaim := { program := "ytafmdeipcepaiaadoor", sum := "a34e6819aa755e03919ed264836dabee84a4bfaf822fdaaceb896619af3cf830", func := "unicodetext/unicodetextlaw09.LinesValid", spec := "linesValid", inPlace := ["internal/bytealg.IndexByteString", "internal/bytealg.IndexString"], unfollowed := true, recurses := true, named := ["internal/bytealg.MaxLen", "unicode/utf8.first", "unicode/utf8.acceptRanges", "unicodetext/codepoint.digits"], apart := false, laid := [("unicode/utf8.acceptRanges", laid_unicode_utf8_acceptRanges), ("unicodetext/codepoint.digits", laid_unicodetext_codepoint_digits), ("unicode/utf8.first", laid_unicode_utf8_first)] }
def LinesValidSaid : Prop := linesValidRow.holds Tryd.pinned (OpenSpec.ofChange linesValidSpec)

/-- ITS FALSE NEIGHBOUR: 'it returns false'. Refute it at one input. -/
def linesValidWrong : ChangeSpec := { name := "linesValid", fn := fun _ => fun
  | [d] => { results := [.lit (.bool false)], args := [d] }
  | _ => none }
def LinesValidWrongFalsely : Prop := linesValidRow.holds Tryd.pinned (OpenSpec.ofChange linesValidWrong)

/-- 'unicodetextlaw09.LinesSpaces': WHATEVER THE INPUT: true; the input reads as it did. -/
def linesSpacesSpec : ChangeSpec := { name := "linesSpaces", fn := fun _ => fun
  | [d] => { results := [.lit (.bool true)], args := [d] }
  | _ => none }
def linesSpacesRow : OpenClaim := { program := "ytafmdeipcepaiaadoor", sum := "a34e6819aa755e03919ed264836dabee84a4bfaf822fdaaceb896619af3cf830", func := "unicodetext/unicodetextlaw09.LinesSpaces", spec := "linesSpaces", inPlace := ["internal/bytealg.IndexByteString", "internal/bytealg.IndexString"], unfollowed := true, recurses := true, named := ["internal/bytealg.MaxLen", "unicode/utf8.first", "unicode/utf8.acceptRanges", "unicodetext/codepoint.digits"], apart := false, laid := [("unicode/utf8.acceptRanges", laid_unicode_utf8_acceptRanges), ("unicodetext/codepoint.digits", laid_unicodetext_codepoint_digits), ("unicode/utf8.first", laid_unicode_utf8_first)] }
def LinesSpacesSaid : Prop := linesSpacesRow.holds Tryd.pinned (OpenSpec.ofChange linesSpacesSpec)

/-- ITS FALSE NEIGHBOUR: 'it returns false'. Refute it at one input. -/
def linesSpacesWrong : ChangeSpec := { name := "linesSpaces", fn := fun _ => fun
  | [d] => { results := [.lit (.bool false)], args := [d] }
  | _ => none }
def LinesSpacesWrongFalsely : Prop := linesSpacesRow.holds Tryd.pinned (OpenSpec.ofChange linesSpacesWrong)

/-- 'unicodetextlaw09.LinesJoins': WHATEVER THE INPUT: true; the input reads as it did. -/
def linesJoinsSpec : ChangeSpec := { name := "linesJoins", fn := fun _ => fun
  | [d1, d2] => { results := [.lit (.bool true)], args := [d1, d2] }
  | _ => none }
def linesJoinsRow : OpenClaim := { program := "ytafmdeipcepaiaadoor", sum := "a34e6819aa755e03919ed264836dabee84a4bfaf822fdaaceb896619af3cf830", func := "unicodetext/unicodetextlaw09.LinesJoins", spec := "linesJoins", inPlace := ["internal/bytealg.IndexByteString", "internal/bytealg.IndexString"], unfollowed := true, recurses := true, named := ["internal/bytealg.MaxLen", "unicode/utf8.first", "unicode/utf8.acceptRanges", "unicodetext/codepoint.digits"], apart := false, laid := [("unicode/utf8.acceptRanges", laid_unicode_utf8_acceptRanges), ("unicodetext/codepoint.digits", laid_unicodetext_codepoint_digits), ("unicode/utf8.first", laid_unicode_utf8_first)] }
def LinesJoinsSaid : Prop := linesJoinsRow.holds Tryd.pinned (OpenSpec.ofChange linesJoinsSpec)

/-- ITS FALSE NEIGHBOUR: 'it returns false'. Refute it at one input. -/
def linesJoinsWrong : ChangeSpec := { name := "linesJoins", fn := fun _ => fun
  | [d1, d2] => { results := [.lit (.bool false)], args := [d1, d2] }
  | _ => none }
def LinesJoinsWrongFalsely : Prop := linesJoinsRow.holds Tryd.pinned (OpenSpec.ofChange linesJoinsWrong)

/-- 'unicodetextlaw09.LinesLong': WHATEVER THE INPUT: true; the input reads as it did. -/
def linesLongSpec : ChangeSpec := { name := "linesLong", fn := fun _ => fun
  | [d] => { results := [.lit (.bool true)], args := [d] }
  | _ => none }
def linesLongRow : OpenClaim := { program := "ytafmdeipcepaiaadoor", sum := "a34e6819aa755e03919ed264836dabee84a4bfaf822fdaaceb896619af3cf830", func := "unicodetext/unicodetextlaw09.LinesLong", spec := "linesLong", inPlace := ["internal/bytealg.IndexByteString", "internal/bytealg.IndexString"], unfollowed := true, recurses := true, named := ["internal/bytealg.MaxLen", "unicode/utf8.first", "unicode/utf8.acceptRanges", "unicodetext/codepoint.digits"], apart := false, laid := [("unicode/utf8.acceptRanges", laid_unicode_utf8_acceptRanges), ("unicodetext/codepoint.digits", laid_unicodetext_codepoint_digits), ("unicode/utf8.first", laid_unicode_utf8_first)] }
def LinesLongSaid : Prop := linesLongRow.holds Tryd.pinned (OpenSpec.ofChange linesLongSpec)

/-- ITS FALSE NEIGHBOUR: 'it returns false'. Refute it at one input. -/
def linesLongWrong : ChangeSpec := { name := "linesLong", fn := fun _ => fun
  | [d] => { results := [.lit (.bool false)], args := [d] }
  | _ => none }
def LinesLongWrongFalsely : Prop := linesLongRow.holds Tryd.pinned (OpenSpec.ofChange linesLongWrong)

/-- 'unicodetextlaw09.LinesTexts': WHATEVER THE INPUT: true; the input reads as it did. -/
def linesTextsSpec : ChangeSpec := { name := "linesTexts", fn := fun _ => fun
  | [d] => { results := [.lit (.bool true)], args := [d] }
  | _ => none }
def linesTextsRow : OpenClaim := { program := "ytafmdeipcepaiaadoor", sum := "a34e6819aa755e03919ed264836dabee84a4bfaf822fdaaceb896619af3cf830", func := "unicodetext/unicodetextlaw09.LinesTexts", spec := "linesTexts", inPlace := ["internal/bytealg.IndexByteString", "internal/bytealg.IndexString", "internal/abi.NoEscape"], unfollowed := true, recurses := true, named := ["internal/bytealg.MaxLen", "unicode/utf8.first", "unicode/utf8.acceptRanges", "unicodetext/codepoint.digits"], apart := false, laid := [("unicode/utf8.acceptRanges", laid_unicode_utf8_acceptRanges), ("unicodetext/codepoint.digits", laid_unicodetext_codepoint_digits), ("unicode/utf8.first", laid_unicode_utf8_first)] }
def LinesTextsSaid : Prop := linesTextsRow.holds Tryd.pinned (OpenSpec.ofChange linesTextsSpec)

/-- ITS FALSE NEIGHBOUR: 'it returns false'. Refute it at one input. -/
def linesTextsWrong : ChangeSpec := { name := "linesTexts", fn := fun _ => fun
  | [d] => { results := [.lit (.bool false)], args := [d] }
  | _ => none }
def LinesTextsWrongFalsely : Prop := linesTextsRow.holds Tryd.pinned (OpenSpec.ofChange linesTextsWrong)

/-- 'unicodetextlaw09.LinesRestores': WHATEVER THE INPUT: true; the input reads as it did. -/
def linesRestoresSpec : ChangeSpec := { name := "linesRestores", fn := fun _ => fun
  | [d] => { results := [.lit (.bool true)], args := [d] }
  | _ => none }
def linesRestoresRow : OpenClaim := { program := "ytafmdeipcepaiaadoor", sum := "a34e6819aa755e03919ed264836dabee84a4bfaf822fdaaceb896619af3cf830", func := "unicodetext/unicodetextlaw09.LinesRestores", spec := "linesRestores", inPlace := ["internal/bytealg.IndexByteString", "internal/bytealg.IndexString", "internal/abi.NoEscape"], unfollowed := true, recurses := true, named := ["internal/bytealg.MaxLen", "unicode/utf8.first", "unicode/utf8.acceptRanges", "unicodetext/codepoint.digits"], apart := false, laid := [("unicode/utf8.acceptRanges", laid_unicode_utf8_acceptRanges), ("unicodetext/codepoint.digits", laid_unicodetext_codepoint_digits), ("unicode/utf8.first", laid_unicode_utf8_first)] }
def LinesRestoresSaid : Prop := linesRestoresRow.holds Tryd.pinned (OpenSpec.ofChange linesRestoresSpec)

/-- ITS FALSE NEIGHBOUR: 'it returns false'. Refute it at one input. -/
def linesRestoresWrong : ChangeSpec := { name := "linesRestores", fn := fun _ => fun
  | [d] => { results := [.lit (.bool false)], args := [d] }
  | _ => none }
def LinesRestoresWrongFalsely : Prop := linesRestoresRow.holds Tryd.pinned (OpenSpec.ofChange linesRestoresWrong)

/- THE SECOND FORM. 'bulk': how many values and letters a reading holds, each counted each time it is reached (what is shared counts as often as it is met; a slice's spare places count too). A statement '..UptoSaid' is the law's where the arguments, and the package variables that the reading takes, are together of bulk at most 1048576: NARROWER than '..Said'. Prove '..Said' where nothing that the law and all that it calls make is longer than what came in: it says more and counts as full. Else prove '..UptoSaid'. A law counts once. -/
mutual
def uptoBulk {H : Type} : DataW H → Nat
  | .lit (.string bytes) => bytes.length + 1
  | .lit _ => 1
  | .nil => 1
  | .ptr d => uptoBulk d + 1
  | .slice elems spare => uptoBulkAll elems + uptoBulkAll spare + 1
  | .agg parts => uptoBulkAll parts + 1
  | .iface _ d => uptoBulk d + 1
  | .map entries => uptoBulkEntries entries + 1
  | .held _ => 1
def uptoBulkAll {H : Type} : List (DataW H) → Nat
  | [] => 0
  | d :: r => uptoBulk d + uptoBulkAll r
def uptoBulkEntries {H : Type} : List (Lit × DataW H) → Nat
  | [] => 0
  | x :: r => uptoBulkEntry x + uptoBulkEntries r
def uptoBulkEntry {H : Type} : Lit × DataW H → Nat
  | (.string bytes, d) => bytes.length + uptoBulk d + 1
  | (_, d) => uptoBulk d + 1
 end
def uptoSmall : (H : Type) → List (DataW H) → Bool := fun _ ds => decide (uptoBulkAll ds ≤ 1048576)
def OpenSpec.upto (s : _root_.Go.ChangeSpec) : _root_.Go.OpenSpec := { _root_.Go.OpenSpec.ofChange s with cond := some uptoSmall }

/-- 'unicodetextlaw09.LinesParses', WHERE WHAT IT READS IS OF BULK AT MOST 1048576: true; the input reads as it did. -/
def linesParsesUptoRow : OpenClaim := { program := "ytafmdeipcepaiaadoor", sum := "a34e6819aa755e03919ed264836dabee84a4bfaf822fdaaceb896619af3cf830", func := "unicodetext/unicodetextlaw09.LinesParses", spec := "linesParses", inPlace := ["internal/bytealg.IndexByteString", "internal/bytealg.IndexString"], unfollowed := true, recurses := true, named := ["internal/bytealg.MaxLen", "unicode/utf8.first", "unicode/utf8.acceptRanges", "unicodetext/codepoint.digits"], apart := false, laid := [("unicode/utf8.acceptRanges", laid_unicode_utf8_acceptRanges), ("unicodetext/codepoint.digits", laid_unicodetext_codepoint_digits), ("unicode/utf8.first", laid_unicode_utf8_first)], narrowed := true }
def LinesParsesUptoSaid : Prop := linesParsesUptoRow.holds Tryd.pinned (OpenSpec.upto linesParsesSpec)

/-- 'unicodetextlaw09.LinesValid', WHERE WHAT IT READS IS OF BULK AT MOST 1048576: true; the input reads as it did. -/
def linesValidUptoRow : OpenClaim := { program := "ytafmdeipcepaiaadoor", sum := "a34e6819aa755e03919ed264836dabee84a4bfaf822fdaaceb896619af3cf830", func := "unicodetext/unicodetextlaw09.LinesValid", spec := "linesValid", inPlace := ["internal/bytealg.IndexByteString", "internal/bytealg.IndexString"], unfollowed := true, recurses := true, named := ["internal/bytealg.MaxLen", "unicode/utf8.first", "unicode/utf8.acceptRanges", "unicodetext/codepoint.digits"], apart := false, laid := [("unicode/utf8.acceptRanges", laid_unicode_utf8_acceptRanges), ("unicodetext/codepoint.digits", laid_unicodetext_codepoint_digits), ("unicode/utf8.first", laid_unicode_utf8_first)], narrowed := true }
def LinesValidUptoSaid : Prop := linesValidUptoRow.holds Tryd.pinned (OpenSpec.upto linesValidSpec)

/-- 'unicodetextlaw09.LinesSpaces', WHERE WHAT IT READS IS OF BULK AT MOST 1048576: true; the input reads as it did. -/
def linesSpacesUptoRow : OpenClaim := { program := "ytafmdeipcepaiaadoor", sum := "a34e6819aa755e03919ed264836dabee84a4bfaf822fdaaceb896619af3cf830", func := "unicodetext/unicodetextlaw09.LinesSpaces", spec := "linesSpaces", inPlace := ["internal/bytealg.IndexByteString", "internal/bytealg.IndexString"], unfollowed := true, recurses := true, named := ["internal/bytealg.MaxLen", "unicode/utf8.first", "unicode/utf8.acceptRanges", "unicodetext/codepoint.digits"], apart := false, laid := [("unicode/utf8.acceptRanges", laid_unicode_utf8_acceptRanges), ("unicodetext/codepoint.digits", laid_unicodetext_codepoint_digits), ("unicode/utf8.first", laid_unicode_utf8_first)], narrowed := true }
def LinesSpacesUptoSaid : Prop := linesSpacesUptoRow.holds Tryd.pinned (OpenSpec.upto linesSpacesSpec)

/-- 'unicodetextlaw09.LinesJoins', WHERE WHAT IT READS IS OF BULK AT MOST 1048576: true; the input reads as it did. -/
def linesJoinsUptoRow : OpenClaim := { program := "ytafmdeipcepaiaadoor", sum := "a34e6819aa755e03919ed264836dabee84a4bfaf822fdaaceb896619af3cf830", func := "unicodetext/unicodetextlaw09.LinesJoins", spec := "linesJoins", inPlace := ["internal/bytealg.IndexByteString", "internal/bytealg.IndexString"], unfollowed := true, recurses := true, named := ["internal/bytealg.MaxLen", "unicode/utf8.first", "unicode/utf8.acceptRanges", "unicodetext/codepoint.digits"], apart := false, laid := [("unicode/utf8.acceptRanges", laid_unicode_utf8_acceptRanges), ("unicodetext/codepoint.digits", laid_unicodetext_codepoint_digits), ("unicode/utf8.first", laid_unicode_utf8_first)], narrowed := true }
def LinesJoinsUptoSaid : Prop := linesJoinsUptoRow.holds Tryd.pinned (OpenSpec.upto linesJoinsSpec)

/-- 'unicodetextlaw09.LinesLong', WHERE WHAT IT READS IS OF BULK AT MOST 1048576: true; the input reads as it did. -/
def linesLongUptoRow : OpenClaim := { program := "ytafmdeipcepaiaadoor", sum := "a34e6819aa755e03919ed264836dabee84a4bfaf822fdaaceb896619af3cf830", func := "unicodetext/unicodetextlaw09.LinesLong", spec := "linesLong", inPlace := ["internal/bytealg.IndexByteString", "internal/bytealg.IndexString"], unfollowed := true, recurses := true, named := ["internal/bytealg.MaxLen", "unicode/utf8.first", "unicode/utf8.acceptRanges", "unicodetext/codepoint.digits"], apart := false, laid := [("unicode/utf8.acceptRanges", laid_unicode_utf8_acceptRanges), ("unicodetext/codepoint.digits", laid_unicodetext_codepoint_digits), ("unicode/utf8.first", laid_unicode_utf8_first)], narrowed := true }
def LinesLongUptoSaid : Prop := linesLongUptoRow.holds Tryd.pinned (OpenSpec.upto linesLongSpec)

/-- 'unicodetextlaw09.LinesTexts', WHERE WHAT IT READS IS OF BULK AT MOST 1048576: true; the input reads as it did. -/
def linesTextsUptoRow : OpenClaim := { program := "ytafmdeipcepaiaadoor", sum := "a34e6819aa755e03919ed264836dabee84a4bfaf822fdaaceb896619af3cf830", func := "unicodetext/unicodetextlaw09.LinesTexts", spec := "linesTexts", inPlace := ["internal/bytealg.IndexByteString", "internal/bytealg.IndexString", "internal/abi.NoEscape"], unfollowed := true, recurses := true, named := ["internal/bytealg.MaxLen", "unicode/utf8.first", "unicode/utf8.acceptRanges", "unicodetext/codepoint.digits"], apart := false, laid := [("unicode/utf8.acceptRanges", laid_unicode_utf8_acceptRanges), ("unicodetext/codepoint.digits", laid_unicodetext_codepoint_digits), ("unicode/utf8.first", laid_unicode_utf8_first)], narrowed := true }
def LinesTextsUptoSaid : Prop := linesTextsUptoRow.holds Tryd.pinned (OpenSpec.upto linesTextsSpec)

/-- 'unicodetextlaw09.LinesRestores', WHERE WHAT IT READS IS OF BULK AT MOST 1048576: true; the input reads as it did. -/
def linesRestoresUptoRow : OpenClaim := { program := "ytafmdeipcepaiaadoor", sum := "a34e6819aa755e03919ed264836dabee84a4bfaf822fdaaceb896619af3cf830", func := "unicodetext/unicodetextlaw09.LinesRestores", spec := "linesRestores", inPlace := ["internal/bytealg.IndexByteString", "internal/bytealg.IndexString", "internal/abi.NoEscape"], unfollowed := true, recurses := true, named := ["internal/bytealg.MaxLen", "unicode/utf8.first", "unicode/utf8.acceptRanges", "unicodetext/codepoint.digits"], apart := false, laid := [("unicode/utf8.acceptRanges", laid_unicode_utf8_acceptRanges), ("unicodetext/codepoint.digits", laid_unicodetext_codepoint_digits), ("unicode/utf8.first", laid_unicode_utf8_first)], narrowed := true }
def LinesRestoresUptoSaid : Prop := linesRestoresUptoRow.holds Tryd.pinned (OpenSpec.upto linesRestoresSpec)

end Rows
end Go.Proofs.YtafmdeipcepaiaaDoor
