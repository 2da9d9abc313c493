/- The environment out of the row's conditions for files of elements; the witness's world. -/
import Derived.Test.YthogkokifiibnaaDoorFrame
import Derived.Test.YthogkokifiibnaaDoorEl12
namespace Go.Proofs.YthogkokifiibnaaDoor
open Go.ChangeShapes Go.WideShapes Go.ChangeAt Go.RowKit

def laidF : List (String × DataW Unit) := [("math/bits.deBruijn32tab", Rows.laid_math_bits_deBruijn32tab), ("math/bits.deBruijn64tab", Rows.laid_math_bits_deBruijn64tab), ("internal/strconv.uint64pow10", Rows.laid_internal_strconv_uint64pow10), ("unicode/utf8.acceptRanges", Rows.laid_unicode_utf8_acceptRanges), ("unicodetext/codepoint.digits", Rows.laid_unicodetext_codepoint_digits), ("strconv.ErrRange", Rows.laid_strconv_ErrRange), ("strconv.ErrSyntax", Rows.laid_strconv_ErrSyntax), ("unicode/utf8.first", Rows.laid_unicode_utf8_first)]
theorem gDig : Tryd.prog.globalNamed "unicodetext/codepoint.digits" = some 0 := by kernel_rfl
theorem gDigType : (Tryd.prog.globals[0]?).map (·.type) = some 95 := by kernel_rfl
theorem gPow : Tryd.prog.globalNamed "internal/strconv.uint64pow10" = some 2 := by kernel_rfl
theorem gPowType : (Tryd.prog.globals[2]?).map (·.type) = some 137 := by kernel_rfl
theorem gRng : Tryd.prog.globalNamed "strconv.ErrRange" = some 4 := by kernel_rfl
theorem gRngType : (Tryd.prog.globals[4]?).map (·.type) = some 57 := by kernel_rfl
theorem gSyn : Tryd.prog.globalNamed "strconv.ErrSyntax" = some 3 := by kernel_rfl
theorem gSynType : (Tryd.prog.globals[3]?).map (·.type) = some 57 := by kernel_rfl
theorem cells16 : Tryd.prog.cellsOf 95 = 16 := by kernel_rfl
theorem cellsU8 : Tryd.prog.cellsOf 5 = 1 := by kernel_rfl
theorem cells20 : Tryd.prog.cellsOf 137 = 20 := by kernel_rfl
theorem cellsU64 : Tryd.prog.cellsOf 108 = 1 := by kernel_rfl
theorem noHandles : laidF.filter (fun x => x.2.handleName?.isSome) = [] := by kernel_rfl
theorem powData : (Rows.laid_internal_strconv_uint64pow10 : DataW Unit) = Lib.tabData .u64 Lib.pow10Tab := by kernel_rfl

theorem trod_iface_any {H : Type} {enc : TypeId × Value → H} {P : Program} {w : World} {base : Nat} {spare : Nat → Bool} {held : Bool} {fuel : Nat} {t : TypeId} {ms : Array (String × TypeId)} {cs : List Value} {x : DataW H × List MemPlace} (ht : P.underlying t = some (.interface ms)) (h : DataW.trod enc P w base spare held fuel t cs = some x) : cs = [.nilIface] ∨ ∃ u v, cs = [.iface u v] := by
  cases fuel with
  | zero => simp [DataW.trod] at h
  | succ n =>
    unfold DataW.trod at h
    rw [ht] at h
    split at h <;> simp_all
theorem err_cell {W : World} {name : String} {d : DataW Unit} {rest : List (String × DataW Unit)} {g : Nat} (hg : Tryd.prog.globalNamed name = some g) (hty : (Tryd.prog.globals[g]?).map (·.type) = some 57) (h : laidMet Tryd.prog ((name, d) :: rest) W) : ∃ ev, W.cell? ⟨g, 0, none⟩ = some ev ∧ (ev = .nilIface ∨ ∃ te pe, ev = .iface te pe) := by
  obtain ⟨ps, ⟨g', t', cs, fuel, p, q, hg', ht', hvar, hd, _, _⟩, _⟩ := h
  obtain rfl := Option.some.inj (hg.symm.trans hg')
  obtain rfl := Option.some.inj (hty.symm.trans ht')
  have hc := World.var?_cell hg hvar 0
  obtain ⟨l⟩ := cs
  rcases trod_iface_any Tryd.underlying57 hd with e | ⟨u, v, e⟩
  · have e : l = _ := e
    subst e
    exact ⟨.nilIface, hc, .inl rfl⟩
  · have e : l = _ := e
    subst e
    exact ⟨.iface u v, hc, .inr ⟨u, v, rfl⟩⟩

theorem env_of {W : World} (hL : laidMetH Tryd.prog laidF W) (hS : W.ShapedOpen Tryd.prog) : EnvF W := by
  have hL' : laidMet Tryd.prog laidF W := by
    unfold laidMetH at hL
    rw [noHandles] at hL
    exact hL
  have h2 := laidMet_tail (laidMet_tail hL')
  have h3 := laidMet_tail (laidMet_tail h2)
  have h4 := laidMet_tail h3
  have h5 := laidMet_tail h4
  rw [powData] at h2
  have hp : Lib.TabIs Tryd.prog W "internal/strconv.uint64pow10" .u64 Lib.pow10Tab :=
    Lib.tabIs_of_head gPow gPowType Tryd.underlying137 Tryd.underlying108 cellsU64 cells20 h2
  have ht : Lib.TabIs Tryd.prog W "unicodetext/codepoint.digits" .u8 [48, 49, 50, 51, 52, 53, 54, 55, 56, 57, 65, 66, 67, 68, 69, 70] :=
    Lib.tabIs_of_head gDig gDigType Tryd.underlying95 Tryd.underlying5 cellsU8 cells16 h3
  refine ⟨⟨fun j hj => ?_, Go.Proofs.cell_of_shapedOpen_int (zero := #[.int .i64 0]) (t := 3) hS (of_decide_eq_true (by kernel_rfl)) (by kernel_rfl) rfl (by kernel_rfl) (by kernel_rfl) Tryd.underlying3⟩, hp, err_cell gSyn gSynType h5, err_cell gRng gRngType h4⟩
  have := ht.cell gDig j (by simpa using hj)
  rw [this]
  obtain rfl | rfl | rfl | rfl | rfl | rfl | rfl | rfl | rfl | rfl | rfl | rfl | rfl | rfl | rfl | rfl : j = 0 ∨ j = 1 ∨ j = 2 ∨ j = 3 ∨ j = 4 ∨ j = 5 ∨ j = 6 ∨ j = 7 ∨ j = 8 ∨ j = 9 ∨ j = 10 ∨ j = 11 ∨ j = 12 ∨ j = 13 ∨ j = 14 ∨ j = 15 := by omega
  all_goals rfl

/-- a world for the witness: the settled one, the listed variables holding what their initialisers lay -/
noncomputable def baseWorld (os : Os) : World := World.holding Tryd.prog os ⟨#[], #[], []⟩
noncomputable def laidWorld (os : Os) : World :=
  layCells (layCells (layCells (layCells (layCells (layCells (layCells (layCells (((baseWorld os).alloc (.cells #[.string ⟨#[118, 97, 108, 117, 101, 32, 111, 117, 116, 32, 111, 102, 32, 114, 97, 110, 103, 101]⟩] 154)).alloc (.cells #[.string ⟨#[105, 110, 118, 97, 108, 105, 100, 32, 115, 121, 110, 116, 97, 120]⟩] 154))
    7 (flatCells 8 Rows.laid_math_bits_deBruijn32tab).toArray)
    8 (flatCells 8 Rows.laid_math_bits_deBruijn64tab).toArray)
    2 (flatCells 8 Rows.laid_internal_strconv_uint64pow10).toArray)
    6 (flatCells 8 Rows.laid_unicode_utf8_acceptRanges).toArray)
    0 (flatCells 8 Rows.laid_unicodetext_codepoint_digits).toArray)
    4 #[.iface 152 (.pointer (some ⟨(baseWorld os).heap.size, 0, none⟩))])
    3 #[.iface 152 (.pointer (some ⟨(baseWorld os).heap.size + 1, 0, none⟩))])
    5 (flatCells 8 Rows.laid_unicode_utf8_first).toArray
end Go.Proofs.YthogkokifiibnaaDoor
