/-
  NARROWER THAN 'FOR EVERY INPUT', by the rows' own cells (each row's printed sentence says how): CharsetChecks: laid · CharsetEncodes: laid · CharsetParses: laid · CharsetTexts: laid · CharsetRestores: laid · CharsetDecodes: laid · CharsetBack: laid · CharsetMisses: laid.
  DERIVED. THE GIVEN ROWS OF THIS SEAT. 8 by the template 'for every input the law returns true; each argument reads behind the call as it read before'; 0 by the template 'total and deterministic' (their statements: YthpiopjpipdgnaaDoorTotals.lean).
  GIVEN WITH THE SEED: the statements are not yours to turn. If you find one false, say at which input.
  Laid BY PROGRAM, IN A SANDBOX (cutbox-rows.mjs): the forced cells as the released guide's own fill.sh prints them over the translation 12f9b63c5b9bb0ba… (all of the seat's roots in one cut). By AI agents, Wed Nov 11 2026. No macro, syntax, notation, axiom, sorry.
-/
import Derived.Test.YthpiopjpipdgnaaDoorChecked
import GoSem.PinnedTables
import GoSem.Claim
import GoSem.ClaimJoined
import GoSem.ClaimMapViews
import Derived.JoinedTies
import Derived.KernelRfl
namespace Go.Proofs.YthpiopjpipdgnaaDoor
/- THE CELL 'sum', in the pinned program and in every row, IS THE sha256 OF THE DUMP (.gsa) THAT YthpiopjpipdgnaaDoorProg.lean LOADS. Nothing in Lean hashes anything: it is a label: what it is worth is what the hold of that sum in a sandbox is worth. -/
noncomputable def Tryd.pinned : Pinned := { name := "ythpiopjpipdgnaadoor", sum := "12f9b63c5b9bb0bae6c3e9d8679cece02f16455f28da3a180099de04d60c9406", checked := Tryd.checked }
namespace Rows
def none {H : Type} : Left H := { results := [], args := [] }

/- WHAT THE LISTED PACKAGE-LEVEL VARIABLES READ AS WHEN THE CALL BEGINS. Each datum BY PROGRAM (the guide's laid-datum.mjs) off the statement by which the dump's own 'gosem.cut.vars' lays the variable. In a bare row this is a premise. The card (YthpiopjpipdgnaaDoorCards.lean) ties it to the program's text. -/
def laid_unicode_utf8_acceptRanges {H : Type} : DataW H := .agg [.agg [.lit (.int .u8 128), .lit (.int .u8 191)], .agg [.lit (.int .u8 160), .lit (.int .u8 191)], .agg [.lit (.int .u8 128), .lit (.int .u8 159)], .agg [.lit (.int .u8 144), .lit (.int .u8 191)], .agg [.lit (.int .u8 128), .lit (.int .u8 143)], .agg [.lit (.int .u8 0), .lit (.int .u8 0)], .agg [.lit (.int .u8 0), .lit (.int .u8 0)], .agg [.lit (.int .u8 0), .lit (.int .u8 0)], .agg [.lit (.int .u8 0), .lit (.int .u8 0)], .agg [.lit (.int .u8 0), .lit (.int .u8 0)], .agg [.lit (.int .u8 0), .lit (.int .u8 0)], .agg [.lit (.int .u8 0), .lit (.int .u8 0)], .agg [.lit (.int .u8 0), .lit (.int .u8 0)], .agg [.lit (.int .u8 0), .lit (.int .u8 0)], .agg [.lit (.int .u8 0), .lit (.int .u8 0)], .agg [.lit (.int .u8 0), .lit (.int .u8 0)]]
def laid_unicodetext_codepoint_digits {H : Type} : DataW H := .agg [.lit (.int .u8 48), .lit (.int .u8 49), .lit (.int .u8 50), .lit (.int .u8 51), .lit (.int .u8 52), .lit (.int .u8 53), .lit (.int .u8 54), .lit (.int .u8 55), .lit (.int .u8 56), .lit (.int .u8 57), .lit (.int .u8 65), .lit (.int .u8 66), .lit (.int .u8 67), .lit (.int .u8 68), .lit (.int .u8 69), .lit (.int .u8 70)]
/-- One of Go's own tables, pinned by name: the form's constant. -/
def laid_unicode_utf8_first : DataW Unit := Go.Pinned.utf8First

/-- 'unicodetextlaw06.CharsetChecks': WHATEVER THE INPUT: true; the input reads as it did. -/
def charsetChecksSpec : ChangeSpec := { name := "charsetChecks", fn := fun _ => fun
  | [d] => { results := [.lit (.bool true)], args := [d] }
  | _ => none }
def charsetChecksRow : OpenClaim := { program := "ythpiopjpipdgnaadoor", sum := "12f9b63c5b9bb0bae6c3e9d8679cece02f16455f28da3a180099de04d60c9406", func := "unicodetext/unicodetextlaw06.CharsetChecks", spec := "charsetChecks", inPlace := ["internal/bytealg.CountString", "internal/bytealg.IndexByteString", "internal/bytealg.IndexString", "internal/abi.NoEscape"], named := ["unicode/utf8.first", "unicode/utf8.acceptRanges", "internal/bytealg.MaxLen", "unicodetext/codepoint.digits"], apart := false, laid := [("unicode/utf8.acceptRanges", laid_unicode_utf8_acceptRanges), ("unicodetext/codepoint.digits", laid_unicodetext_codepoint_digits), ("unicode/utf8.first", laid_unicode_utf8_first)] }
def CharsetChecksSaid : Prop := charsetChecksRow.holds Tryd.pinned (OpenSpec.ofChange charsetChecksSpec)

/-- ITS FALSE NEIGHBOUR: 'it returns false'. Refute it at one input. -/
def charsetChecksWrong : ChangeSpec := { name := "charsetChecks", fn := fun _ => fun
  | [d] => { results := [.lit (.bool false)], args := [d] }
  | _ => none }
def CharsetChecksWrongFalsely : Prop := charsetChecksRow.holds Tryd.pinned (OpenSpec.ofChange charsetChecksWrong)

/-- 'unicodetextlaw06.CharsetEncodes': WHATEVER THE INPUT: true; the input reads as it did. -/
def charsetEncodesSpec : ChangeSpec := { name := "charsetEncodes", fn := fun _ => fun
  | [d1, d2, d3] => { results := [.lit (.bool true)], args := [d1, d2, d3] }
  | _ => none }
def charsetEncodesRow : OpenClaim := { program := "ythpiopjpipdgnaadoor", sum := "12f9b63c5b9bb0bae6c3e9d8679cece02f16455f28da3a180099de04d60c9406", func := "unicodetext/unicodetextlaw06.CharsetEncodes", spec := "charsetEncodes", inPlace := ["internal/bytealg.CountString", "internal/bytealg.IndexByteString", "internal/bytealg.IndexString", "internal/abi.NoEscape"], named := ["unicode/utf8.first", "unicode/utf8.acceptRanges", "internal/bytealg.MaxLen", "unicodetext/codepoint.digits"], apart := false, laid := [("unicode/utf8.acceptRanges", laid_unicode_utf8_acceptRanges), ("unicodetext/codepoint.digits", laid_unicodetext_codepoint_digits), ("unicode/utf8.first", laid_unicode_utf8_first)] }
def CharsetEncodesSaid : Prop := charsetEncodesRow.holds Tryd.pinned (OpenSpec.ofChange charsetEncodesSpec)

/-- ITS FALSE NEIGHBOUR: 'it returns false'. Refute it at one input. -/
def charsetEncodesWrong : ChangeSpec := { name := "charsetEncodes", fn := fun _ => fun
  | [d1, d2, d3] => { results := [.lit (.bool false)], args := [d1, d2, d3] }
  | _ => none }
def CharsetEncodesWrongFalsely : Prop := charsetEncodesRow.holds Tryd.pinned (OpenSpec.ofChange charsetEncodesWrong)

/-- 'unicodetextlaw06.CharsetParses': WHATEVER THE INPUT: true; the input reads as it did. -/
def charsetParsesSpec : ChangeSpec := { name := "charsetParses", fn := fun _ => fun
  | [d] => { results := [.lit (.bool true)], args := [d] }
  | _ => none }
def charsetParsesRow : OpenClaim := { program := "ythpiopjpipdgnaadoor", sum := "12f9b63c5b9bb0bae6c3e9d8679cece02f16455f28da3a180099de04d60c9406", func := "unicodetext/unicodetextlaw06.CharsetParses", spec := "charsetParses", inPlace := ["internal/bytealg.CountString", "internal/bytealg.IndexByteString", "internal/bytealg.IndexString", "internal/abi.NoEscape"], named := ["unicode/utf8.first", "unicode/utf8.acceptRanges", "internal/bytealg.MaxLen", "unicodetext/codepoint.digits"], apart := false, laid := [("unicode/utf8.acceptRanges", laid_unicode_utf8_acceptRanges), ("unicodetext/codepoint.digits", laid_unicodetext_codepoint_digits), ("unicode/utf8.first", laid_unicode_utf8_first)] }
def CharsetParsesSaid : Prop := charsetParsesRow.holds Tryd.pinned (OpenSpec.ofChange charsetParsesSpec)

/-- ITS FALSE NEIGHBOUR: 'it returns false'. Refute it at one input. -/
def charsetParsesWrong : ChangeSpec := { name := "charsetParses", fn := fun _ => fun
  | [d] => { results := [.lit (.bool false)], args := [d] }
  | _ => none }
def CharsetParsesWrongFalsely : Prop := charsetParsesRow.holds Tryd.pinned (OpenSpec.ofChange charsetParsesWrong)

/-- 'unicodetextlaw06.CharsetTexts': WHATEVER THE INPUT: true; the input reads as it did. -/
def charsetTextsSpec : ChangeSpec := { name := "charsetTexts", fn := fun _ => fun
  | [d] => { results := [.lit (.bool true)], args := [d] }
  | _ => none }
def charsetTextsRow : OpenClaim := { program := "ythpiopjpipdgnaadoor", sum := "12f9b63c5b9bb0bae6c3e9d8679cece02f16455f28da3a180099de04d60c9406", func := "unicodetext/unicodetextlaw06.CharsetTexts", spec := "charsetTexts", inPlace := ["internal/bytealg.CountString", "internal/bytealg.IndexByteString", "internal/bytealg.IndexString", "internal/abi.NoEscape"], named := ["unicode/utf8.first", "unicode/utf8.acceptRanges", "internal/bytealg.MaxLen", "unicodetext/codepoint.digits"], apart := false, laid := [("unicode/utf8.acceptRanges", laid_unicode_utf8_acceptRanges), ("unicodetext/codepoint.digits", laid_unicodetext_codepoint_digits), ("unicode/utf8.first", laid_unicode_utf8_first)] }
def CharsetTextsSaid : Prop := charsetTextsRow.holds Tryd.pinned (OpenSpec.ofChange charsetTextsSpec)

/-- ITS FALSE NEIGHBOUR: 'it returns false'. Refute it at one input. -/
def charsetTextsWrong : ChangeSpec := { name := "charsetTexts", fn := fun _ => fun
  | [d] => { results := [.lit (.bool false)], args := [d] }
  | _ => none }
def CharsetTextsWrongFalsely : Prop := charsetTextsRow.holds Tryd.pinned (OpenSpec.ofChange charsetTextsWrong)

/-- 'unicodetextlaw06.CharsetRestores': WHATEVER THE INPUT: true; the input reads as it did. -/
def charsetRestoresSpec : ChangeSpec := { name := "charsetRestores", fn := fun _ => fun
  | [d] => { results := [.lit (.bool true)], args := [d] }
  | _ => none }
def charsetRestoresRow : OpenClaim := { program := "ythpiopjpipdgnaadoor", sum := "12f9b63c5b9bb0bae6c3e9d8679cece02f16455f28da3a180099de04d60c9406", func := "unicodetext/unicodetextlaw06.CharsetRestores", spec := "charsetRestores", inPlace := ["internal/bytealg.CountString", "internal/bytealg.IndexByteString", "internal/bytealg.IndexString", "internal/abi.NoEscape"], named := ["unicode/utf8.first", "unicode/utf8.acceptRanges", "internal/bytealg.MaxLen", "unicodetext/codepoint.digits"], apart := false, laid := [("unicode/utf8.acceptRanges", laid_unicode_utf8_acceptRanges), ("unicodetext/codepoint.digits", laid_unicodetext_codepoint_digits), ("unicode/utf8.first", laid_unicode_utf8_first)] }
def CharsetRestoresSaid : Prop := charsetRestoresRow.holds Tryd.pinned (OpenSpec.ofChange charsetRestoresSpec)

/-- ITS FALSE NEIGHBOUR: 'it returns false'. Refute it at one input. -/
def charsetRestoresWrong : ChangeSpec := { name := "charsetRestores", fn := fun _ => fun
  | [d] => { results := [.lit (.bool false)], args := [d] }
  | _ => none }
def CharsetRestoresWrongFalsely : Prop := charsetRestoresRow.holds Tryd.pinned (OpenSpec.ofChange charsetRestoresWrong)

/-- 'unicodetextlaw06.CharsetDecodes': WHATEVER THE INPUT: true; the input reads as it did. -/
def charsetDecodesSpec : ChangeSpec := { name := "charsetDecodes", fn := fun _ => fun
  | [d1, d2, d3] => { results := [.lit (.bool true)], args := [d1, d2, d3] }
  | _ => none }
def charsetDecodesRow : OpenClaim := { program := "ythpiopjpipdgnaadoor", sum := "12f9b63c5b9bb0bae6c3e9d8679cece02f16455f28da3a180099de04d60c9406", func := "unicodetext/unicodetextlaw06.CharsetDecodes", spec := "charsetDecodes", inPlace := ["internal/bytealg.CountString", "internal/bytealg.IndexByteString", "internal/bytealg.IndexString", "internal/abi.NoEscape"], named := ["unicode/utf8.first", "unicode/utf8.acceptRanges", "internal/bytealg.MaxLen", "unicodetext/codepoint.digits"], apart := false, laid := [("unicode/utf8.acceptRanges", laid_unicode_utf8_acceptRanges), ("unicodetext/codepoint.digits", laid_unicodetext_codepoint_digits), ("unicode/utf8.first", laid_unicode_utf8_first)] }
def CharsetDecodesSaid : Prop := charsetDecodesRow.holds Tryd.pinned (OpenSpec.ofChange charsetDecodesSpec)

/-- ITS FALSE NEIGHBOUR: 'it returns false'. Refute it at one input. -/
def charsetDecodesWrong : ChangeSpec := { name := "charsetDecodes", fn := fun _ => fun
  | [d1, d2, d3] => { results := [.lit (.bool false)], args := [d1, d2, d3] }
  | _ => none }
def CharsetDecodesWrongFalsely : Prop := charsetDecodesRow.holds Tryd.pinned (OpenSpec.ofChange charsetDecodesWrong)

/-- 'unicodetextlaw06.CharsetBack': WHATEVER THE INPUT: true; the input reads as it did. -/
def charsetBackSpec : ChangeSpec := { name := "charsetBack", fn := fun _ => fun
  | [d1, d2, d3] => { results := [.lit (.bool true)], args := [d1, d2, d3] }
  | _ => none }
def charsetBackRow : OpenClaim := { program := "ythpiopjpipdgnaadoor", sum := "12f9b63c5b9bb0bae6c3e9d8679cece02f16455f28da3a180099de04d60c9406", func := "unicodetext/unicodetextlaw06.CharsetBack", spec := "charsetBack", inPlace := ["internal/bytealg.CountString", "internal/bytealg.IndexByteString", "internal/bytealg.IndexString", "internal/abi.NoEscape"], named := ["unicode/utf8.first", "unicode/utf8.acceptRanges", "internal/bytealg.MaxLen", "unicodetext/codepoint.digits"], apart := false, laid := [("unicode/utf8.acceptRanges", laid_unicode_utf8_acceptRanges), ("unicodetext/codepoint.digits", laid_unicodetext_codepoint_digits), ("unicode/utf8.first", laid_unicode_utf8_first)] }
def CharsetBackSaid : Prop := charsetBackRow.holds Tryd.pinned (OpenSpec.ofChange charsetBackSpec)

/-- ITS FALSE NEIGHBOUR: 'it returns false'. Refute it at one input. -/
def charsetBackWrong : ChangeSpec := { name := "charsetBack", fn := fun _ => fun
  | [d1, d2, d3] => { results := [.lit (.bool false)], args := [d1, d2, d3] }
  | _ => none }
def CharsetBackWrongFalsely : Prop := charsetBackRow.holds Tryd.pinned (OpenSpec.ofChange charsetBackWrong)

/-- 'unicodetextlaw06.CharsetMisses': WHATEVER THE INPUT: true; the input reads as it did. -/
def charsetMissesSpec : ChangeSpec := { name := "charsetMisses", fn := fun _ => fun
  | [d1, d2] => { results := [.lit (.bool true)], args := [d1, d2] }
  | _ => none }
def charsetMissesRow : OpenClaim := { program := "ythpiopjpipdgnaadoor", sum := "12f9b63c5b9bb0bae6c3e9d8679cece02f16455f28da3a180099de04d60c9406", func := "unicodetext/unicodetextlaw06.CharsetMisses", spec := "charsetMisses", inPlace := ["internal/bytealg.CountString", "internal/bytealg.IndexByteString", "internal/bytealg.IndexString", "internal/abi.NoEscape"], recurses := true, named := ["unicode/utf8.first", "unicode/utf8.acceptRanges", "internal/bytealg.MaxLen", "unicodetext/codepoint.digits"], apart := false, laid := [("unicode/utf8.acceptRanges", laid_unicode_utf8_acceptRanges), ("unicodetext/codepoint.digits", laid_unicodetext_codepoint_digits), ("unicode/utf8.first", laid_unicode_utf8_first)] }
def CharsetMissesSaid : Prop := charsetMissesRow.holds Tryd.pinned (OpenSpec.ofChange charsetMissesSpec)

/-- ITS FALSE NEIGHBOUR: 'it returns false'. Refute it at one input. -/
def charsetMissesWrong : ChangeSpec := { name := "charsetMisses", fn := fun _ => fun
  | [d1, d2] => { results := [.lit (.bool false)], args := [d1, d2] }
  | _ => none }
def CharsetMissesWrongFalsely : Prop := charsetMissesRow.holds Tryd.pinned (OpenSpec.ofChange charsetMissesWrong)

/- THE SECOND FORM. 'bulk': how many values and letters a reading holds, each counted each time it is reached (what is shared counts as often as it is met; a slice's spare places count too). A statement '..UptoSaid' is the law's where the arguments, and the package variables that the reading takes, are together of bulk at most 1048576: NARROWER than '..Said'. Prove '..Said' where nothing that the law and all that it calls make is longer than what came in: it says more and counts as full. Else prove '..UptoSaid'. A law counts once. -/
mutual
def uptoBulk {H : Type} : DataW H → Nat
  | .lit (.string bytes) => bytes.length + 1
  | .lit _ => 1
  | .nil => 1
  | .ptr d => uptoBulk d + 1
  | .slice elems spare => uptoBulkAll elems + uptoBulkAll spare + 1
  | .agg parts => uptoBulkAll parts + 1
  | .iface _ d => uptoBulk d + 1
  | .map entries => uptoBulkEntries entries + 1
  | .held _ => 1
def uptoBulkAll {H : Type} : List (DataW H) → Nat
  | [] => 0
  | d :: r => uptoBulk d + uptoBulkAll r
def uptoBulkEntries {H : Type} : List (Lit × DataW H) → Nat
  | [] => 0
  | x :: r => uptoBulkEntry x + uptoBulkEntries r
def uptoBulkEntry {H : Type} : Lit × DataW H → Nat
  | (.string bytes, d) => bytes.length + uptoBulk d + 1
  | (_, d) => uptoBulk d + 1
 end
def uptoSmall : (H : Type) → List (DataW H) → Bool := fun _ ds => decide (uptoBulkAll ds ≤ 1048576)
def OpenSpec.upto (s : _root_.Go.ChangeSpec) : _root_.Go.OpenSpec := { _root_.Go.OpenSpec.ofChange s with cond := some uptoSmall }

/-- 'unicodetextlaw06.CharsetChecks', WHERE WHAT IT READS IS OF BULK AT MOST 1048576: true; the input reads as it did. -/
def charsetChecksUptoRow : OpenClaim := { program := "ythpiopjpipdgnaadoor", sum := "12f9b63c5b9bb0bae6c3e9d8679cece02f16455f28da3a180099de04d60c9406", func := "unicodetext/unicodetextlaw06.CharsetChecks", spec := "charsetChecks", inPlace := ["internal/bytealg.CountString", "internal/bytealg.IndexByteString", "internal/bytealg.IndexString", "internal/abi.NoEscape"], named := ["unicode/utf8.first", "unicode/utf8.acceptRanges", "internal/bytealg.MaxLen", "unicodetext/codepoint.digits"], apart := false, laid := [("unicode/utf8.acceptRanges", laid_unicode_utf8_acceptRanges), ("unicodetext/codepoint.digits", laid_unicodetext_codepoint_digits), ("unicode/utf8.first", laid_unicode_utf8_first)], narrowed := true }
def CharsetChecksUptoSaid : Prop := charsetChecksUptoRow.holds Tryd.pinned (OpenSpec.upto charsetChecksSpec)

/-- 'unicodetextlaw06.CharsetEncodes', WHERE WHAT IT READS IS OF BULK AT MOST 1048576: true; the input reads as it did. -/
def charsetEncodesUptoRow : OpenClaim := { program := "ythpiopjpipdgnaadoor", sum := "12f9b63c5b9bb0bae6c3e9d8679cece02f16455f28da3a180099de04d60c9406", func := "unicodetext/unicodetextlaw06.CharsetEncodes", spec := "charsetEncodes", inPlace := ["internal/bytealg.CountString", "internal/bytealg.IndexByteString", "internal/bytealg.IndexString", "internal/abi.NoEscape"], named := ["unicode/utf8.first", "unicode/utf8.acceptRanges", "internal/bytealg.MaxLen", "unicodetext/codepoint.digits"], apart := false, laid := [("unicode/utf8.acceptRanges", laid_unicode_utf8_acceptRanges), ("unicodetext/codepoint.digits", laid_unicodetext_codepoint_digits), ("unicode/utf8.first", laid_unicode_utf8_first)], narrowed := true }
def CharsetEncodesUptoSaid : Prop := charsetEncodesUptoRow.holds Tryd.pinned (OpenSpec.upto charsetEncodesSpec)

/-- 'unicodetextlaw06.CharsetParses', WHERE WHAT IT READS IS OF BULK AT MOST 1048576: true; the input reads as it did. -/
def charsetParsesUptoRow : OpenClaim := { program := "ythpiopjpipdgnaadoor", sum := "12f9b63c5b9bb0bae6c3e9d8679cece02f16455f28da3a180099de04d60c9406", func := "unicodetext/unicodetextlaw06.CharsetParses", spec := "charsetParses", inPlace := ["internal/bytealg.CountString", "internal/bytealg.IndexByteString", "internal/bytealg.IndexString", "internal/abi.NoEscape"], named := ["unicode/utf8.first", "unicode/utf8.acceptRanges", "internal/bytealg.MaxLen", "unicodetext/codepoint.digits"], apart := false, laid := [("unicode/utf8.acceptRanges", laid_unicode_utf8_acceptRanges), ("unicodetext/codepoint.digits", laid_unicodetext_codepoint_digits), ("unicode/utf8.first", laid_unicode_utf8_first)], narrowed := true }
def CharsetParsesUptoSaid : Prop := charsetParsesUptoRow.holds Tryd.pinned (OpenSpec.upto charsetParsesSpec)

/-- 'unicodetextlaw06.CharsetTexts', WHERE WHAT IT READS IS OF BULK AT MOST 1048576: true; the input reads as it did. -/
def charsetTextsUptoRow : OpenClaim := { program := "ythpiopjpipdgnaadoor", sum := "12f9b63c5b9bb0bae6c3e9d8679cece02f16455f28da3a180099de04d60c9406", func := "unicodetext/unicodetextlaw06.CharsetTexts", spec := "charsetTexts", inPlace := ["internal/bytealg.CountString", "internal/bytealg.IndexByteString", "internal/bytealg.IndexString", "internal/abi.NoEscape"], named := ["unicode/utf8.first", "unicode/utf8.acceptRanges", "internal/bytealg.MaxLen", "unicodetext/codepoint.digits"], apart := false, laid := [("unicode/utf8.acceptRanges", laid_unicode_utf8_acceptRanges), ("unicodetext/codepoint.digits", laid_unicodetext_codepoint_digits), ("unicode/utf8.first", laid_unicode_utf8_first)], narrowed := true }
def CharsetTextsUptoSaid : Prop := charsetTextsUptoRow.holds Tryd.pinned (OpenSpec.upto charsetTextsSpec)

/-- 'unicodetextlaw06.CharsetRestores', WHERE WHAT IT READS IS OF BULK AT MOST 1048576: true; the input reads as it did. -/
def charsetRestoresUptoRow : OpenClaim := { program := "ythpiopjpipdgnaadoor", sum := "12f9b63c5b9bb0bae6c3e9d8679cece02f16455f28da3a180099de04d60c9406", func := "unicodetext/unicodetextlaw06.CharsetRestores", spec := "charsetRestores", inPlace := ["internal/bytealg.CountString", "internal/bytealg.IndexByteString", "internal/bytealg.IndexString", "internal/abi.NoEscape"], named := ["unicode/utf8.first", "unicode/utf8.acceptRanges", "internal/bytealg.MaxLen", "unicodetext/codepoint.digits"], apart := false, laid := [("unicode/utf8.acceptRanges", laid_unicode_utf8_acceptRanges), ("unicodetext/codepoint.digits", laid_unicodetext_codepoint_digits), ("unicode/utf8.first", laid_unicode_utf8_first)], narrowed := true }
def CharsetRestoresUptoSaid : Prop := charsetRestoresUptoRow.holds Tryd.pinned (OpenSpec.upto charsetRestoresSpec)

/-- 'unicodetextlaw06.CharsetDecodes', WHERE WHAT IT READS IS OF BULK AT MOST 1048576: true; the input reads as it did. -/
def charsetDecodesUptoRow : OpenClaim := { program := "ythpiopjpipdgnaadoor", sum := "12f9b63c5b9bb0bae6c3e9d8679cece02f16455f28da3a180099de04d60c9406", func := "unicodetext/unicodetextlaw06.CharsetDecodes", spec := "charsetDecodes", inPlace := ["internal/bytealg.CountString", "internal/bytealg.IndexByteString", "internal/bytealg.IndexString", "internal/abi.NoEscape"], named := ["unicode/utf8.first", "unicode/utf8.acceptRanges", "internal/bytealg.MaxLen", "unicodetext/codepoint.digits"], apart := false, laid := [("unicode/utf8.acceptRanges", laid_unicode_utf8_acceptRanges), ("unicodetext/codepoint.digits", laid_unicodetext_codepoint_digits), ("unicode/utf8.first", laid_unicode_utf8_first)], narrowed := true }
def CharsetDecodesUptoSaid : Prop := charsetDecodesUptoRow.holds Tryd.pinned (OpenSpec.upto charsetDecodesSpec)

/-- 'unicodetextlaw06.CharsetBack', WHERE WHAT IT READS IS OF BULK AT MOST 1048576: true; the input reads as it did. -/
def charsetBackUptoRow : OpenClaim := { program := "ythpiopjpipdgnaadoor", sum := "12f9b63c5b9bb0bae6c3e9d8679cece02f16455f28da3a180099de04d60c9406", func := "unicodetext/unicodetextlaw06.CharsetBack", spec := "charsetBack", inPlace := ["internal/bytealg.CountString", "internal/bytealg.IndexByteString", "internal/bytealg.IndexString", "internal/abi.NoEscape"], named := ["unicode/utf8.first", "unicode/utf8.acceptRanges", "internal/bytealg.MaxLen", "unicodetext/codepoint.digits"], apart := false, laid := [("unicode/utf8.acceptRanges", laid_unicode_utf8_acceptRanges), ("unicodetext/codepoint.digits", laid_unicodetext_codepoint_digits), ("unicode/utf8.first", laid_unicode_utf8_first)], narrowed := true }
def CharsetBackUptoSaid : Prop := charsetBackUptoRow.holds Tryd.pinned (OpenSpec.upto charsetBackSpec)

/-- 'unicodetextlaw06.CharsetMisses', WHERE WHAT IT READS IS OF BULK AT MOST 1048576: true; the input reads as it did. -/
def charsetMissesUptoRow : OpenClaim := { program := "ythpiopjpipdgnaadoor", sum := "12f9b63c5b9bb0bae6c3e9d8679cece02f16455f28da3a180099de04d60c9406", func := "unicodetext/unicodetextlaw06.CharsetMisses", spec := "charsetMisses", inPlace := ["internal/bytealg.CountString", "internal/bytealg.IndexByteString", "internal/bytealg.IndexString", "internal/abi.NoEscape"], recurses := true, named := ["unicode/utf8.first", "unicode/utf8.acceptRanges", "internal/bytealg.MaxLen", "unicodetext/codepoint.digits"], apart := false, laid := [("unicode/utf8.acceptRanges", laid_unicode_utf8_acceptRanges), ("unicodetext/codepoint.digits", laid_unicodetext_codepoint_digits), ("unicode/utf8.first", laid_unicode_utf8_first)], narrowed := true }
def CharsetMissesUptoSaid : Prop := charsetMissesUptoRow.holds Tryd.pinned (OpenSpec.upto charsetMissesSpec)

end Rows
end Go.Proofs.YthpiopjpipdgnaaDoor
