/- The environment out of the row's conditions, the witness's world. -/
import Derived.Test.YtafmdeipcepaiaaDoorFrame
import Derived.Test.YtafmdeipcepaiaaDoorEnv
namespace Go.Proofs.YtafmdeipcepaiaaDoor
open Go.ChangeShapes Go.WideShapes Go.ChangeAt Go.RowKit

def laidT : List (String × DataW Unit) := [("unicode/utf8.acceptRanges", Rows.laid_unicode_utf8_acceptRanges), ("unicodetext/codepoint.digits", Rows.laid_unicodetext_codepoint_digits), ("unicode/utf8.first", Rows.laid_unicode_utf8_first)]
theorem gDig : Tryd.prog.globalNamed "unicodetext/codepoint.digits" = some 0 := by kernel_rfl
theorem gDigType : (Tryd.prog.globals[0]?).map (·.type) = some 80 := by kernel_rfl
theorem cells16 : Tryd.prog.cellsOf 80 = 16 := by kernel_rfl
theorem cellsU8 : Tryd.prog.cellsOf 5 = 1 := by kernel_rfl
theorem noHandles : laidT.filter (fun x => x.2.handleName?.isSome) = [] := by kernel_rfl

theorem env_of {W : World} (hL : laidMetH Tryd.prog laidT W) (hS : W.ShapedOpen Tryd.prog) : Env W := by
  have hL' : laidMet Tryd.prog laidT W := by
    unfold laidMetH at hL
    rw [noHandles] at hL
    exact hL
  have ht : Lib.TabIs Tryd.prog W "unicodetext/codepoint.digits" .u8 [48, 49, 50, 51, 52, 53, 54, 55, 56, 57, 65, 66, 67, 68, 69, 70] :=
    Lib.tabIs_of_head gDig gDigType Tryd.underlying80 Tryd.underlying5 cellsU8 cells16 (laidMet_tail hL')
  refine ⟨fun j hj => ?_, Go.Proofs.cell_of_shapedOpen_int (zero := #[.int .i64 0]) (t := 3) hS (of_decide_eq_true (by kernel_rfl)) (by kernel_rfl) rfl (by kernel_rfl) (by kernel_rfl) Tryd.underlying3⟩
  have := ht.cell gDig j (by simpa using hj)
  rw [this]
  obtain rfl | rfl | rfl | rfl | rfl | rfl | rfl | rfl | rfl | rfl | rfl | rfl | rfl | rfl | rfl | rfl : j = 0 ∨ j = 1 ∨ j = 2 ∨ j = 3 ∨ j = 4 ∨ j = 5 ∨ j = 6 ∨ j = 7 ∨ j = 8 ∨ j = 9 ∨ j = 10 ∨ j = 11 ∨ j = 12 ∨ j = 13 ∨ j = 14 ∨ j = 15 := by omega
  all_goals rfl

/-- a world for the witness: the settled one, the listed tables holding what their initialisers lay -/
noncomputable def laidWorld (os : Os) : World :=
  layCells (layCells (layCells (World.holding Tryd.prog os ⟨#[], #[], []⟩) 0 (flatCells 8 Rows.laid_unicodetext_codepoint_digits).toArray) 2 (flatCells 8 Rows.laid_unicode_utf8_first).toArray)
    3 (flatCells 8 Rows.laid_unicode_utf8_acceptRanges).toArray
end Go.Proofs.YtafmdeipcepaiaaDoor
