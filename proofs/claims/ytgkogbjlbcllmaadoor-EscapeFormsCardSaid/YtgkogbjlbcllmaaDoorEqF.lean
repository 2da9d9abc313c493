/- == between two faults -/
import Derived.Test.YtgkogbjlbcllmaaDoorProg
import Derived.WalkKit
import Derived.Laws.StructEq
namespace Go.Proofs.YtgkogbjlbcllmaaDoor
theorem eqFault (e i e' i' : Int) (w : World) : (binOp .eql 36 (.agg #[.int .i64 e, .int .i64 i]) (.agg #[.int .i64 e', .int .i64 i'])).run Tryd.prog w = .ok (.bool (e == e' && i == i')) w := by
  have hst : Tryd.prog.stoodInHeld 36 = false := by kernel_rfl
  have hf : Tryd.prog.underlying 36 = some (.struct (Tryd.prog.fieldsOf 36)) := by kernel_rfl
  rw [run_eql_struct, run_equalIn_struct w 9999 36 _ _ hf hst]
  by_cases h1 : e = e' <;> by_cases h2 : i = i'
  all_goals
    rw [Program.fieldsOf, Tryd.underlying36]
    simp [Op.eqFields, go_sem, Tryd.underlying24, Tryd.underlying3, part, h1, h2]
theorem eqFaultSame (e i : Int) (w : World) : (binOp .eql 36 (.agg #[.int .i64 e, .int .i64 i]) (.agg #[.int .i64 e, .int .i64 i])).run Tryd.prog w = .ok (.bool true) w := by
  rw [eqFault]; simp
end Go.Proofs.YtgkogbjlbcllmaaDoor
