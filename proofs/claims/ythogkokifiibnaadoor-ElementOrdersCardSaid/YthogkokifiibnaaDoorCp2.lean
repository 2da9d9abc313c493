/- codepoint.value and digit of the reference -/
import Derived.Test.YthogkokifiibnaaDoorCp1
import Derived.Test.YthogkokifiibnaaDoorHex
namespace Go.Proofs.YthogkokifiibnaaDoor
open Go.RowKit Go.Sort

/-- codepoint.digits holds the sixteen digits -/
def Dig (w : World) : Prop := ∀ j, j < 16 → w.cell? ⟨0, j, none⟩ = some (.int .u8 (hexC j))
theorem Dig.keep {w w' : World} (h : Dig w) (hb : Below w.heap.size w w') : Dig w' := fun j hj => cell_keep hb (h j hj)

theorem cpValue (b : Int) (w : World) (hD : Dig w) :
    Calls Tryd.prog 73 #[.int .u8 b] w fun e w' => e = .returned (.int .i64 (hexVal b)) ∧ w = w' := by
  have HD := Lib.hid hD
  clear hD
  go_enter Tryd.func73, Tryd.ntmps73
  go_wp2
  go_loop [4] (fun i => ∃ k : Nat, k ≤ 16 ∧ i = .int .i64 k ∧ Hid (hexVal b = -1 ∨ (k : Int) ≤ hexVal b)) (fun i => 16 - (intOf i).toNat)
  case atStart => exact ⟨0, by omega, rfl, Lib.hid (by have := hexVal_le b; omega)⟩
  case round =>
    obtain ⟨k, hk, rfl, HB⟩ := hrel
    by_cases hlt : k < 16
    · have hc := HD.out k hlt
      by_cases he : (hexC k : Int) = b
      · have he' : ((hexC k : Int) == b) = true := by simpa using he
        have He := Lib.hid he
        clear he
        go_wp2
        go_ret
        exact ⟨ret_int (hexVal_hit hlt He.out).symm, rfl⟩
      · have he' : ((hexC k : Int) == b) = false := by simpa using he
        have He := Lib.hid he
        clear he
        go_wp2
        go_round
        case rel => exact ⟨k + 1, by omega, by go_num, hexVal_miss hlt He.out HB.out⟩
        case measure => simp [intOf]; omega
    · go_wp2
      go_ret
      exact ⟨ret_int (hexVal_end (by have := HB.out; omega)).symm, rfl⟩

theorem digIdx (k : Nat) (hk : k < 16) (w : World) : (Instr.index 9 (.string ⟨#[48, 49, 50, 51, 52, 53, 54, 55, 56, 57, 65, 66, 67, 68, 69, 70]⟩) (.int .i64 k)).run Tryd.prog w = .ok (.int .u8 (hexC k)) w := by
  obtain rfl | rfl | rfl | rfl | rfl | rfl | rfl | rfl | rfl | rfl | rfl | rfl | rfl | rfl | rfl | rfl : k = 0 ∨ k = 1 ∨ k = 2 ∨ k = 3 ∨ k = 4 ∨ k = 5 ∨ k = 6 ∨ k = 7 ∨ k = 8 ∨ k = 9 ∨ k = 10 ∨ k = 11 ∨ k = 12 ∨ k = 13 ∨ k = 14 ∨ k = 15 := by omega
  all_goals kernel_rfl

end Go.Proofs.YthogkokifiibnaaDoor
