/- The contracts of the small functions of codepoint and of its reference (Valid, Surrogate, Scalar). -/
import Derived.Test.YthogkokifiibnaaDoorProg
import Derived.Test.YthogkokifiibnaaDoorBase
import Derived.BigQuiet
import Derived.Deep.QuietTactic
import Derived.Outline
namespace Go.Proofs.YthogkokifiibnaaDoor
open Go.RowKit

def validB (c : Int) : Bool := decide (0 ≤ c ∧ c ≤ 1114111)
def surrB (c : Int) : Bool := decide (55296 ≤ c ∧ c ≤ 57343)
def scalarB (c : Int) : Bool := validB c && !surrB c

theorem cpValid (c : Int) (w : World) : Calls Tryd.prog 34 #[.int .i64 c] w fun e w' => e = .returned (.bool (validB c)) ∧ w = w' := by
  by_cases h1 : 0 ≤ c <;> by_cases h2 : c ≤ 1114111
  all_goals
    go_enter Tryd.func34, Tryd.ntmps34
    go_wp2
    go_ret
    exact ⟨by simp [validB, h1, h2], rfl⟩

end Go.Proofs.YthogkokifiibnaaDoor
