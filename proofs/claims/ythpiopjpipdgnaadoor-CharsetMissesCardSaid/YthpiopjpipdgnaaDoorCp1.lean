/- The contracts of the small functions of codepoint and of its reference (Valid, Surrogate, Scalar). -/
import Derived.Test.YthpiopjpipdgnaaDoorProg
import Derived.Test.YthpiopjpipdgnaaDoorBase
import Derived.BigQuiet
import Derived.Deep.QuietTactic
import Derived.Outline
namespace Go.Proofs.YthpiopjpipdgnaaDoor
open Go.RowKit

def validB (c : Int) : Bool := decide (0 ≤ c ∧ c ≤ 1114111)
def surrB (c : Int) : Bool := decide (55296 ≤ c ∧ c ≤ 57343)
def scalarB (c : Int) : Bool := validB c && !surrB c

theorem cpValid (c : Int) (w : World) : Calls Tryd.prog 51 #[.int .i64 c] w fun e w' => e = .returned (.bool (validB c)) ∧ w = w' := by
  by_cases h1 : 0 ≤ c <;> by_cases h2 : c ≤ 1114111
  all_goals
    go_enter Tryd.func51, Tryd.ntmps51
    go_wp2
    go_ret
    exact ⟨by simp [validB, h1, h2], rfl⟩
theorem cpSurr (c : Int) (w : World) : Calls Tryd.prog 52 #[.int .i64 c] w fun e w' => e = .returned (.bool (surrB c)) ∧ w = w' := by
  by_cases h1 : 55296 ≤ c <;> by_cases h2 : c ≤ 57343
  all_goals
    go_enter Tryd.func52, Tryd.ntmps52
    go_wp2
    go_ret
    exact ⟨by simp [surrB, h1, h2], rfl⟩
theorem cpScalar (c : Int) (w : World) : Calls Tryd.prog 27 #[.int .i64 c] w fun e w' => e = .returned (.bool (scalarB c)) ∧ w = w' := by
  cases hv : validB c
  all_goals
    have Hv := Lib.hid hv
    clear hv
    go_enter Tryd.func27, Tryd.ntmps27
    go_wp2_with (first | (go_at_call 51; refine (cpValid _ _).mono ?_; rintro e w' ⟨rfl, rfl⟩; rw [Hv.out]) | (go_at_call 52; refine (cpSurr _ _).mono ?_; rintro e w' ⟨rfl, rfl⟩))
    go_ret
    exact ⟨by simp [scalarB, Hv.out], rfl⟩

theorem rfValid (c : Int) (w : World) : Calls Tryd.prog 53 #[.int .i64 c] w fun e w' => e = .returned (.bool (validB c)) ∧ w = w' := by
  by_cases h1 : 0 ≤ c <;> by_cases h2 : c ≤ 1114111
  all_goals
    go_enter Tryd.func53, Tryd.ntmps53
    go_wp2
    go_ret
    exact ⟨by simp [validB, h1, h2], rfl⟩
theorem rfSurr (c : Int) (w : World) : Calls Tryd.prog 54 #[.int .i64 c] w fun e w' => e = .returned (.bool (surrB c)) ∧ w = w' := by
  by_cases h1 : 55296 ≤ c <;> by_cases h2 : c ≤ 57343
  all_goals
    go_enter Tryd.func54, Tryd.ntmps54
    go_wp2
    go_ret
    exact ⟨by simp [surrB, h1, h2], rfl⟩
theorem rfScalar (c : Int) (w : World) : Calls Tryd.prog 28 #[.int .i64 c] w fun e w' => e = .returned (.bool (scalarB c)) ∧ w = w' := by
  cases hv : validB c
  all_goals
    have Hv := Lib.hid hv
    clear hv
    go_enter Tryd.func28, Tryd.ntmps28
    go_wp2_with (first | (go_at_call 53; refine (rfValid _ _).mono ?_; rintro e w' ⟨rfl, rfl⟩; rw [Hv.out]) | (go_at_call 54; refine (rfSurr _ _).mono ?_; rintro e w' ⟨rfl, rfl⟩))
    go_ret
    exact ⟨by simp [scalarB, Hv.out], rfl⟩
end Go.Proofs.YthpiopjpipdgnaaDoor
