/- Chapter 6: the environment out of the row's conditions, charsets as arguments, the witness's world. -/
import Derived.Test.YthpiopjpipdgnaaDoorFrame
import Derived.Test.YthpiopjpipdgnaaDoorCs6
namespace Go.Proofs.YthpiopjpipdgnaaDoor
open Go.ChangeShapes Go.WideShapes Go.ChangeAt Go.RowKit

def laid06 : List (String × DataW Unit) := [("unicode/utf8.acceptRanges", Rows.laid_unicode_utf8_acceptRanges), ("unicodetext/codepoint.digits", Rows.laid_unicodetext_codepoint_digits), ("unicode/utf8.first", Rows.laid_unicode_utf8_first)]
theorem gDig : Tryd.prog.globalNamed "unicodetext/codepoint.digits" = some 0 := by kernel_rfl
theorem gDigType : (Tryd.prog.globals[0]?).map (·.type) = some 91 := by kernel_rfl
theorem cells16 : Tryd.prog.cellsOf 91 = 16 := by kernel_rfl
theorem cellsU8 : Tryd.prog.cellsOf 5 = 1 := by kernel_rfl
theorem noHandles : laid06.filter (fun x => x.2.handleName?.isSome) = [] := by kernel_rfl

theorem env_of {W : World} (hL : laidMetH Tryd.prog laid06 W) (hS : W.ShapedOpen Tryd.prog) : Env W := by
  have hL' : laidMet Tryd.prog laid06 W := by
    unfold laidMetH at hL
    rw [noHandles] at hL
    exact hL
  have ht : Lib.TabIs Tryd.prog W "unicodetext/codepoint.digits" .u8 [48, 49, 50, 51, 52, 53, 54, 55, 56, 57, 65, 66, 67, 68, 69, 70] :=
    Lib.tabIs_of_head gDig gDigType Tryd.underlying91 Tryd.underlying5 cellsU8 cells16 (laidMet_tail hL')
  refine ⟨fun j hj => ?_, (Tryd.laysM145).s1_3 W hS⟩
  have := ht.cell gDig j (by simpa using hj)
  rw [this]
  obtain rfl | rfl | rfl | rfl | rfl | rfl | rfl | rfl | rfl | rfl | rfl | rfl | rfl | rfl | rfl | rfl : j = 0 ∨ j = 1 ∨ j = 2 ∨ j = 3 ∨ j = 4 ∨ j = 5 ∨ j = 6 ∨ j = 7 ∨ j = 8 ∨ j = 9 ∨ j = 10 ∨ j = 11 ∨ j = 12 ∨ j = 13 ∨ j = 14 ∨ j = 15 := by omega
  all_goals rfl

section
variable {H : Type} {enc : TypeId × Value → H} {W : World} {base : Nat}
set_option maxRecDepth 100000 in
theorem open_charset {v : Value} {d : DataW H} {p : List MemPlace} (hv : Value.okWide Tryd.prog W .any base 24 v) (h : DataW.Trod enc Tryd.prog W 0 (fun _ => true) true 24 v d p) :
    ∃ (A : Option Addr) (zs : List Int) (cap : Nat), v = .agg #[.slice A zs.length cap] ∧ IntsAt W A zs ∧ WfInts zs ∧ zs.length ≤ cap ∧ cap ≤ 9223372036854775807 := by
  obtain ⟨cs, rfl, hsz⟩ := okWide_struct Tryd.underlying24 hv
  obtain ⟨fuel, hf⟩ := h
  obtain ⟨y0, n, _, hlen, hy⟩ := trod_struct1 Tryd.underlying24 hf
  obtain ⟨A, zs, cap, e, h1, h2, h3, h4⟩ := open_ints_at hy
  refine ⟨A, zs, cap, ?_, h1, h2, h3, h4⟩
  have hc1 : cs.size = 1 := hsz.trans (by kernel_rfl)
  have hc2 : Tryd.prog.cellsOf 22 = 1 := by kernel_rfl
  obtain ⟨l⟩ := cs
  match l, hc1 with
  | [c0], _ =>
    have e' : ([c0].drop 0).take (Tryd.prog.cellsOf 22) = [Value.slice A zs.length cap] := e
    rw [hc2] at e'
    simp at e'
    rw [e']
end

/-- a world for the witness: the settled one, the listed tables holding what their initialisers lay -/
noncomputable def laidWorld (os : Os) : World :=
  layCells (layCells (layCells (World.holding Tryd.prog os ⟨#[], #[], []⟩) 0 (flatCells 8 Rows.laid_unicodetext_codepoint_digits).toArray) 2 (flatCells 8 Rows.laid_unicode_utf8_first).toArray)
    3 (flatCells 8 Rows.laid_unicode_utf8_acceptRanges).toArray
end Go.Proofs.YthpiopjpipdgnaaDoor
