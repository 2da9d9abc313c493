/- == between two faults -/
import Derived.Test.YthpiopjpipdgnaaDoorProg
import Derived.WalkKit
import Derived.Laws.StructEq
namespace Go.Proofs.YthpiopjpipdgnaaDoor
theorem eqFault (e i e' i' : Int) (w : World) : (binOp .eql 30 (.agg #[.int .i64 e, .int .i64 i]) (.agg #[.int .i64 e', .int .i64 i'])).run Tryd.prog w = .ok (.bool (e == e' && i == i')) w := by
  have hst : Tryd.prog.stoodInHeld 30 = false := by kernel_rfl
  have hf : Tryd.prog.underlying 30 = some (.struct (Tryd.prog.fieldsOf 30)) := by kernel_rfl
  rw [run_eql_struct, run_equalIn_struct w 9999 30 _ _ hf hst]
  by_cases h1 : e = e' <;> by_cases h2 : i = i'
  all_goals
    rw [Program.fieldsOf, Tryd.underlying30]
    simp [Op.eqFields, go_sem, Tryd.underlying26, Tryd.underlying3, part, h1, h2]
theorem eqFaultSame (e i : Int) (w : World) : (binOp .eql 30 (.agg #[.int .i64 e, .int .i64 i]) (.agg #[.int .i64 e, .int .i64 i])).run Tryd.prog w = .ok (.bool true) w := by
  rw [eqFault]; simp
end Go.Proofs.YthpiopjpipdgnaaDoor
