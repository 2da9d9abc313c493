/-
  NARROWER THAN 'FOR EVERY INPUT', by the rows' own cells (each row's printed sentence says how): BreakautoValid: laid · BreakautoStates: laid · BreakautoPrefixes: laid · BreakautoDecides: laid · BreakautoActions: laid · BreakautoLess: loops, laid.
  DERIVED. THE GIVEN ROWS OF THIS SEAT. 6 by the template 'for every input the law returns true; each argument reads behind the call as it read before'; 0 by the template 'total and deterministic' (their statements: YtlmdjggpeiddoaaDoorTotals.lean).
  GIVEN WITH THE SEED: the statements are not yours to turn. If you find one false, say at which input.
  Laid BY PROGRAM, IN A SANDBOX (cutbox-rows.mjs): the forced cells as the released guide's own fill.sh prints them over the translation 4175b2703899dd05… (all of the seat's roots in one cut). By AI agents, Wed Nov 11 2026. No macro, syntax, notation, axiom, sorry.
-/
import Derived.Test.YtlmdjggpeiddoaaDoorChecked
import GoSem.Claim
import GoSem.ClaimJoined
import GoSem.ClaimMapViews
import Derived.JoinedTies
import Derived.KernelRfl
namespace Go.Proofs.YtlmdjggpeiddoaaDoor
/- THE CELL 'sum', in the pinned program and in every row, IS THE sha256 OF THE DUMP (.gsa) THAT YtlmdjggpeiddoaaDoorProg.lean LOADS. Nothing in Lean hashes anything: it is a label: what it is worth is what the hold of that sum in a sandbox is worth. -/
noncomputable def Tryd.pinned : Pinned := { name := "ytlmdjggpeiddoaadoor", sum := "4175b2703899dd05d32b40471032ef8bfb9312b6b7ec0835dc44c53e6cb6c74b", checked := Tryd.checked }
namespace Rows
def none {H : Type} : Left H := { results := [], args := [] }

/- WHAT THE LISTED PACKAGE-LEVEL VARIABLES READ AS WHEN THE CALL BEGINS. Each datum BY PROGRAM (the guide's laid-datum.mjs) off the statement by which the dump's own 'gosem.cut.vars' lays the variable. In a bare row this is a premise. The card (YtlmdjggpeiddoaaDoorCards.lean) ties it to the program's text. -/
def laid_math_bits_deBruijn32tab {H : Type} : DataW H := .agg [.lit (.int .u8 0), .lit (.int .u8 1), .lit (.int .u8 28), .lit (.int .u8 2), .lit (.int .u8 29), .lit (.int .u8 14), .lit (.int .u8 24), .lit (.int .u8 3), .lit (.int .u8 30), .lit (.int .u8 22), .lit (.int .u8 20), .lit (.int .u8 15), .lit (.int .u8 25), .lit (.int .u8 17), .lit (.int .u8 4), .lit (.int .u8 8), .lit (.int .u8 31), .lit (.int .u8 27), .lit (.int .u8 13), .lit (.int .u8 23), .lit (.int .u8 21), .lit (.int .u8 19), .lit (.int .u8 16), .lit (.int .u8 7), .lit (.int .u8 26), .lit (.int .u8 12), .lit (.int .u8 18), .lit (.int .u8 6), .lit (.int .u8 11), .lit (.int .u8 5), .lit (.int .u8 10), .lit (.int .u8 9)]
def laid_math_bits_deBruijn64tab {H : Type} : DataW H := .agg [.lit (.int .u8 0), .lit (.int .u8 1), .lit (.int .u8 56), .lit (.int .u8 2), .lit (.int .u8 57), .lit (.int .u8 49), .lit (.int .u8 28), .lit (.int .u8 3), .lit (.int .u8 61), .lit (.int .u8 58), .lit (.int .u8 42), .lit (.int .u8 50), .lit (.int .u8 38), .lit (.int .u8 29), .lit (.int .u8 17), .lit (.int .u8 4), .lit (.int .u8 62), .lit (.int .u8 47), .lit (.int .u8 59), .lit (.int .u8 36), .lit (.int .u8 45), .lit (.int .u8 43), .lit (.int .u8 51), .lit (.int .u8 22), .lit (.int .u8 53), .lit (.int .u8 39), .lit (.int .u8 33), .lit (.int .u8 30), .lit (.int .u8 24), .lit (.int .u8 18), .lit (.int .u8 12), .lit (.int .u8 5), .lit (.int .u8 63), .lit (.int .u8 55), .lit (.int .u8 48), .lit (.int .u8 27), .lit (.int .u8 60), .lit (.int .u8 41), .lit (.int .u8 37), .lit (.int .u8 16), .lit (.int .u8 46), .lit (.int .u8 35), .lit (.int .u8 44), .lit (.int .u8 21), .lit (.int .u8 52), .lit (.int .u8 32), .lit (.int .u8 23), .lit (.int .u8 11), .lit (.int .u8 54), .lit (.int .u8 26), .lit (.int .u8 40), .lit (.int .u8 15), .lit (.int .u8 34), .lit (.int .u8 20), .lit (.int .u8 31), .lit (.int .u8 10), .lit (.int .u8 25), .lit (.int .u8 14), .lit (.int .u8 19), .lit (.int .u8 9), .lit (.int .u8 13), .lit (.int .u8 8), .lit (.int .u8 7), .lit (.int .u8 6)]
def laid_internal_strconv_uint64pow10 {H : Type} : DataW H := .agg [.lit (.int .u64 1), .lit (.int .u64 10), .lit (.int .u64 100), .lit (.int .u64 1000), .lit (.int .u64 10000), .lit (.int .u64 100000), .lit (.int .u64 1000000), .lit (.int .u64 10000000), .lit (.int .u64 100000000), .lit (.int .u64 1000000000), .lit (.int .u64 10000000000), .lit (.int .u64 100000000000), .lit (.int .u64 1000000000000), .lit (.int .u64 10000000000000), .lit (.int .u64 100000000000000), .lit (.int .u64 1000000000000000), .lit (.int .u64 10000000000000000), .lit (.int .u64 100000000000000000), .lit (.int .u64 1000000000000000000), .lit (.int .u64 10000000000000000000)]

/-- 'unicodetextlaw29.BreakautoValid': WHATEVER THE INPUT: true; the input reads as it did. -/
def breakautoValidSpec : ChangeSpec := { name := "breakautoValid", fn := fun _ => fun
  | [d] => { results := [.lit (.bool true)], args := [d] }
  | _ => none }
def breakautoValidRow : OpenClaim := { program := "ytlmdjggpeiddoaadoor", sum := "4175b2703899dd05d32b40471032ef8bfb9312b6b7ec0835dc44c53e6cb6c74b", func := "unicodetext/unicodetextlaw29.BreakautoValid", spec := "breakautoValid", unfollowed := true, recurses := true, named := ["internal/strconv.uint64pow10", "math/bits.deBruijn32tab", "math/bits.deBruijn64tab"], apart := false, laid := [("math/bits.deBruijn32tab", laid_math_bits_deBruijn32tab), ("math/bits.deBruijn64tab", laid_math_bits_deBruijn64tab), ("internal/strconv.uint64pow10", laid_internal_strconv_uint64pow10)] }
def BreakautoValidSaid : Prop := breakautoValidRow.holds Tryd.pinned (OpenSpec.ofChange breakautoValidSpec)

/-- ITS FALSE NEIGHBOUR: 'it returns false'. Refute it at one input. -/
def breakautoValidWrong : ChangeSpec := { name := "breakautoValid", fn := fun _ => fun
  | [d] => { results := [.lit (.bool false)], args := [d] }
  | _ => none }
def BreakautoValidWrongFalsely : Prop := breakautoValidRow.holds Tryd.pinned (OpenSpec.ofChange breakautoValidWrong)

/-- 'unicodetextlaw29.BreakautoStates': WHATEVER THE INPUT: true; the input reads as it did. -/
def breakautoStatesSpec : ChangeSpec := { name := "breakautoStates", fn := fun _ => fun
  | [d1, d2] => { results := [.lit (.bool true)], args := [d1, d2] }
  | _ => none }
def breakautoStatesRow : OpenClaim := { program := "ytlmdjggpeiddoaadoor", sum := "4175b2703899dd05d32b40471032ef8bfb9312b6b7ec0835dc44c53e6cb6c74b", func := "unicodetext/unicodetextlaw29.BreakautoStates", spec := "breakautoStates", unfollowed := true, recurses := true, named := ["internal/strconv.uint64pow10", "math/bits.deBruijn32tab", "math/bits.deBruijn64tab"], apart := false, laid := [("math/bits.deBruijn32tab", laid_math_bits_deBruijn32tab), ("math/bits.deBruijn64tab", laid_math_bits_deBruijn64tab), ("internal/strconv.uint64pow10", laid_internal_strconv_uint64pow10)] }
def BreakautoStatesSaid : Prop := breakautoStatesRow.holds Tryd.pinned (OpenSpec.ofChange breakautoStatesSpec)

/-- ITS FALSE NEIGHBOUR: 'it returns false'. Refute it at one input. -/
def breakautoStatesWrong : ChangeSpec := { name := "breakautoStates", fn := fun _ => fun
  | [d1, d2] => { results := [.lit (.bool false)], args := [d1, d2] }
  | _ => none }
def BreakautoStatesWrongFalsely : Prop := breakautoStatesRow.holds Tryd.pinned (OpenSpec.ofChange breakautoStatesWrong)

/-- 'unicodetextlaw29.BreakautoPrefixes': WHATEVER THE INPUT: true; the input reads as it did. -/
def breakautoPrefixesSpec : ChangeSpec := { name := "breakautoPrefixes", fn := fun _ => fun
  | [d1, d2, d3] => { results := [.lit (.bool true)], args := [d1, d2, d3] }
  | _ => none }
def breakautoPrefixesRow : OpenClaim := { program := "ytlmdjggpeiddoaadoor", sum := "4175b2703899dd05d32b40471032ef8bfb9312b6b7ec0835dc44c53e6cb6c74b", func := "unicodetext/unicodetextlaw29.BreakautoPrefixes", spec := "breakautoPrefixes", unfollowed := true, recurses := true, named := ["internal/strconv.uint64pow10", "math/bits.deBruijn32tab", "math/bits.deBruijn64tab"], apart := false, laid := [("math/bits.deBruijn32tab", laid_math_bits_deBruijn32tab), ("math/bits.deBruijn64tab", laid_math_bits_deBruijn64tab), ("internal/strconv.uint64pow10", laid_internal_strconv_uint64pow10)] }
def BreakautoPrefixesSaid : Prop := breakautoPrefixesRow.holds Tryd.pinned (OpenSpec.ofChange breakautoPrefixesSpec)

/-- ITS FALSE NEIGHBOUR: 'it returns false'. Refute it at one input. -/
def breakautoPrefixesWrong : ChangeSpec := { name := "breakautoPrefixes", fn := fun _ => fun
  | [d1, d2, d3] => { results := [.lit (.bool false)], args := [d1, d2, d3] }
  | _ => none }
def BreakautoPrefixesWrongFalsely : Prop := breakautoPrefixesRow.holds Tryd.pinned (OpenSpec.ofChange breakautoPrefixesWrong)

/-- 'unicodetextlaw29.BreakautoDecides': WHATEVER THE INPUT: true; the input reads as it did. -/
def breakautoDecidesSpec : ChangeSpec := { name := "breakautoDecides", fn := fun _ => fun
  | [d1, d2, d3] => { results := [.lit (.bool true)], args := [d1, d2, d3] }
  | _ => none }
def breakautoDecidesRow : OpenClaim := { program := "ytlmdjggpeiddoaadoor", sum := "4175b2703899dd05d32b40471032ef8bfb9312b6b7ec0835dc44c53e6cb6c74b", func := "unicodetext/unicodetextlaw29.BreakautoDecides", spec := "breakautoDecides", unfollowed := true, recurses := true, named := ["internal/strconv.uint64pow10", "math/bits.deBruijn32tab", "math/bits.deBruijn64tab"], apart := false, laid := [("math/bits.deBruijn32tab", laid_math_bits_deBruijn32tab), ("math/bits.deBruijn64tab", laid_math_bits_deBruijn64tab), ("internal/strconv.uint64pow10", laid_internal_strconv_uint64pow10)] }
def BreakautoDecidesSaid : Prop := breakautoDecidesRow.holds Tryd.pinned (OpenSpec.ofChange breakautoDecidesSpec)

/-- ITS FALSE NEIGHBOUR: 'it returns false'. Refute it at one input. -/
def breakautoDecidesWrong : ChangeSpec := { name := "breakautoDecides", fn := fun _ => fun
  | [d1, d2, d3] => { results := [.lit (.bool false)], args := [d1, d2, d3] }
  | _ => none }
def BreakautoDecidesWrongFalsely : Prop := breakautoDecidesRow.holds Tryd.pinned (OpenSpec.ofChange breakautoDecidesWrong)

/-- 'unicodetextlaw29.BreakautoActions': WHATEVER THE INPUT: true; the input reads as it did. -/
def breakautoActionsSpec : ChangeSpec := { name := "breakautoActions", fn := fun _ => fun
  | [d1, d2] => { results := [.lit (.bool true)], args := [d1, d2] }
  | _ => none }
def breakautoActionsRow : OpenClaim := { program := "ytlmdjggpeiddoaadoor", sum := "4175b2703899dd05d32b40471032ef8bfb9312b6b7ec0835dc44c53e6cb6c74b", func := "unicodetext/unicodetextlaw29.BreakautoActions", spec := "breakautoActions", unfollowed := true, recurses := true, named := ["internal/strconv.uint64pow10", "math/bits.deBruijn32tab", "math/bits.deBruijn64tab"], apart := false, laid := [("math/bits.deBruijn32tab", laid_math_bits_deBruijn32tab), ("math/bits.deBruijn64tab", laid_math_bits_deBruijn64tab), ("internal/strconv.uint64pow10", laid_internal_strconv_uint64pow10)] }
def BreakautoActionsSaid : Prop := breakautoActionsRow.holds Tryd.pinned (OpenSpec.ofChange breakautoActionsSpec)

/-- ITS FALSE NEIGHBOUR: 'it returns false'. Refute it at one input. -/
def breakautoActionsWrong : ChangeSpec := { name := "breakautoActions", fn := fun _ => fun
  | [d1, d2] => { results := [.lit (.bool false)], args := [d1, d2] }
  | _ => none }
def BreakautoActionsWrongFalsely : Prop := breakautoActionsRow.holds Tryd.pinned (OpenSpec.ofChange breakautoActionsWrong)

/-- 'unicodetextlaw29.BreakautoLess': WHATEVER THE INPUT: true; the input reads as it did. -/
def breakautoLessSpec : ChangeSpec := { name := "breakautoLess", fn := fun _ => fun
  | [d1, d2, d3] => { results := [.lit (.bool true)], args := [d1, d2, d3] }
  | _ => none }
def breakautoLessRow : OpenClaim := { program := "ytlmdjggpeiddoaadoor", sum := "4175b2703899dd05d32b40471032ef8bfb9312b6b7ec0835dc44c53e6cb6c74b", func := "unicodetext/unicodetextlaw29.BreakautoLess", spec := "breakautoLess", unfollowed := true, recurses := true, named := ["internal/strconv.uint64pow10", "math/bits.deBruijn32tab", "math/bits.deBruijn64tab"], loops := true, apart := false, laid := [("math/bits.deBruijn32tab", laid_math_bits_deBruijn32tab), ("math/bits.deBruijn64tab", laid_math_bits_deBruijn64tab), ("internal/strconv.uint64pow10", laid_internal_strconv_uint64pow10)] }
def BreakautoLessSaid : Prop := breakautoLessRow.holds Tryd.pinned (OpenSpec.ofChange breakautoLessSpec)

/-- ITS FALSE NEIGHBOUR: 'it returns false'. Refute it at one input. -/
def breakautoLessWrong : ChangeSpec := { name := "breakautoLess", fn := fun _ => fun
  | [d1, d2, d3] => { results := [.lit (.bool false)], args := [d1, d2, d3] }
  | _ => none }
def BreakautoLessWrongFalsely : Prop := breakautoLessRow.holds Tryd.pinned (OpenSpec.ofChange breakautoLessWrong)

/- THE SECOND FORM. 'bulk': how many values and letters a reading holds, each counted each time it is reached (what is shared counts as often as it is met; a slice's spare places count too). A statement '..UptoSaid' is the law's where the arguments, and the package variables that the reading takes, are together of bulk at most 1048576: NARROWER than '..Said'. Prove '..Said' where nothing that the law and all that it calls make is longer than what came in: it says more and counts as full. Else prove '..UptoSaid'. A law counts once. -/
mutual
def uptoBulk {H : Type} : DataW H → Nat
  | .lit (.string bytes) => bytes.length + 1
  | .lit _ => 1
  | .nil => 1
  | .ptr d => uptoBulk d + 1
  | .slice elems spare => uptoBulkAll elems + uptoBulkAll spare + 1
  | .agg parts => uptoBulkAll parts + 1
  | .iface _ d => uptoBulk d + 1
  | .map entries => uptoBulkEntries entries + 1
  | .held _ => 1
def uptoBulkAll {H : Type} : List (DataW H) → Nat
  | [] => 0
  | d :: r => uptoBulk d + uptoBulkAll r
def uptoBulkEntries {H : Type} : List (Lit × DataW H) → Nat
  | [] => 0
  | x :: r => uptoBulkEntry x + uptoBulkEntries r
def uptoBulkEntry {H : Type} : Lit × DataW H → Nat
  | (.string bytes, d) => bytes.length + uptoBulk d + 1
  | (_, d) => uptoBulk d + 1
 end
def uptoSmall : (H : Type) → List (DataW H) → Bool := fun _ ds => decide (uptoBulkAll ds ≤ 1048576)
def OpenSpec.upto (s : _root_.Go.ChangeSpec) : _root_.Go.OpenSpec := { _root_.Go.OpenSpec.ofChange s with cond := some uptoSmall }

/-- 'unicodetextlaw29.BreakautoValid', WHERE WHAT IT READS IS OF BULK AT MOST 1048576: true; the input reads as it did. -/
def breakautoValidUptoRow : OpenClaim := { program := "ytlmdjggpeiddoaadoor", sum := "4175b2703899dd05d32b40471032ef8bfb9312b6b7ec0835dc44c53e6cb6c74b", func := "unicodetext/unicodetextlaw29.BreakautoValid", spec := "breakautoValid", unfollowed := true, recurses := true, named := ["internal/strconv.uint64pow10", "math/bits.deBruijn32tab", "math/bits.deBruijn64tab"], apart := false, laid := [("math/bits.deBruijn32tab", laid_math_bits_deBruijn32tab), ("math/bits.deBruijn64tab", laid_math_bits_deBruijn64tab), ("internal/strconv.uint64pow10", laid_internal_strconv_uint64pow10)], narrowed := true }
def BreakautoValidUptoSaid : Prop := breakautoValidUptoRow.holds Tryd.pinned (OpenSpec.upto breakautoValidSpec)

/-- 'unicodetextlaw29.BreakautoStates', WHERE WHAT IT READS IS OF BULK AT MOST 1048576: true; the input reads as it did. -/
def breakautoStatesUptoRow : OpenClaim := { program := "ytlmdjggpeiddoaadoor", sum := "4175b2703899dd05d32b40471032ef8bfb9312b6b7ec0835dc44c53e6cb6c74b", func := "unicodetext/unicodetextlaw29.BreakautoStates", spec := "breakautoStates", unfollowed := true, recurses := true, named := ["internal/strconv.uint64pow10", "math/bits.deBruijn32tab", "math/bits.deBruijn64tab"], apart := false, laid := [("math/bits.deBruijn32tab", laid_math_bits_deBruijn32tab), ("math/bits.deBruijn64tab", laid_math_bits_deBruijn64tab), ("internal/strconv.uint64pow10", laid_internal_strconv_uint64pow10)], narrowed := true }
def BreakautoStatesUptoSaid : Prop := breakautoStatesUptoRow.holds Tryd.pinned (OpenSpec.upto breakautoStatesSpec)

/-- 'unicodetextlaw29.BreakautoPrefixes', WHERE WHAT IT READS IS OF BULK AT MOST 1048576: true; the input reads as it did. -/
def breakautoPrefixesUptoRow : OpenClaim := { program := "ytlmdjggpeiddoaadoor", sum := "4175b2703899dd05d32b40471032ef8bfb9312b6b7ec0835dc44c53e6cb6c74b", func := "unicodetext/unicodetextlaw29.BreakautoPrefixes", spec := "breakautoPrefixes", unfollowed := true, recurses := true, named := ["internal/strconv.uint64pow10", "math/bits.deBruijn32tab", "math/bits.deBruijn64tab"], apart := false, laid := [("math/bits.deBruijn32tab", laid_math_bits_deBruijn32tab), ("math/bits.deBruijn64tab", laid_math_bits_deBruijn64tab), ("internal/strconv.uint64pow10", laid_internal_strconv_uint64pow10)], narrowed := true }
def BreakautoPrefixesUptoSaid : Prop := breakautoPrefixesUptoRow.holds Tryd.pinned (OpenSpec.upto breakautoPrefixesSpec)

/-- 'unicodetextlaw29.BreakautoDecides', WHERE WHAT IT READS IS OF BULK AT MOST 1048576: true; the input reads as it did. -/
def breakautoDecidesUptoRow : OpenClaim := { program := "ytlmdjggpeiddoaadoor", sum := "4175b2703899dd05d32b40471032ef8bfb9312b6b7ec0835dc44c53e6cb6c74b", func := "unicodetext/unicodetextlaw29.BreakautoDecides", spec := "breakautoDecides", unfollowed := true, recurses := true, named := ["internal/strconv.uint64pow10", "math/bits.deBruijn32tab", "math/bits.deBruijn64tab"], apart := false, laid := [("math/bits.deBruijn32tab", laid_math_bits_deBruijn32tab), ("math/bits.deBruijn64tab", laid_math_bits_deBruijn64tab), ("internal/strconv.uint64pow10", laid_internal_strconv_uint64pow10)], narrowed := true }
def BreakautoDecidesUptoSaid : Prop := breakautoDecidesUptoRow.holds Tryd.pinned (OpenSpec.upto breakautoDecidesSpec)

/-- 'unicodetextlaw29.BreakautoActions', WHERE WHAT IT READS IS OF BULK AT MOST 1048576: true; the input reads as it did. -/
def breakautoActionsUptoRow : OpenClaim := { program := "ytlmdjggpeiddoaadoor", sum := "4175b2703899dd05d32b40471032ef8bfb9312b6b7ec0835dc44c53e6cb6c74b", func := "unicodetext/unicodetextlaw29.BreakautoActions", spec := "breakautoActions", unfollowed := true, recurses := true, named := ["internal/strconv.uint64pow10", "math/bits.deBruijn32tab", "math/bits.deBruijn64tab"], apart := false, laid := [("math/bits.deBruijn32tab", laid_math_bits_deBruijn32tab), ("math/bits.deBruijn64tab", laid_math_bits_deBruijn64tab), ("internal/strconv.uint64pow10", laid_internal_strconv_uint64pow10)], narrowed := true }
def BreakautoActionsUptoSaid : Prop := breakautoActionsUptoRow.holds Tryd.pinned (OpenSpec.upto breakautoActionsSpec)

/-- 'unicodetextlaw29.BreakautoLess', WHERE WHAT IT READS IS OF BULK AT MOST 1048576: true; the input reads as it did. -/
def breakautoLessUptoRow : OpenClaim := { program := "ytlmdjggpeiddoaadoor", sum := "4175b2703899dd05d32b40471032ef8bfb9312b6b7ec0835dc44c53e6cb6c74b", func := "unicodetext/unicodetextlaw29.BreakautoLess", spec := "breakautoLess", unfollowed := true, recurses := true, named := ["internal/strconv.uint64pow10", "math/bits.deBruijn32tab", "math/bits.deBruijn64tab"], loops := true, apart := false, laid := [("math/bits.deBruijn32tab", laid_math_bits_deBruijn32tab), ("math/bits.deBruijn64tab", laid_math_bits_deBruijn64tab), ("internal/strconv.uint64pow10", laid_internal_strconv_uint64pow10)], narrowed := true }
def BreakautoLessUptoSaid : Prop := breakautoLessUptoRow.holds Tryd.pinned (OpenSpec.upto breakautoLessSpec)

end Rows
end Go.Proofs.YtlmdjggpeiddoaaDoor
