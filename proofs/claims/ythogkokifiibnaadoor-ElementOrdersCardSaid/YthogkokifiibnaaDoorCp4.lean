/- codepoint.Hex at every number; Hex of the reference -/
import Derived.Test.YthogkokifiibnaaDoorCp3
namespace Go.Proofs.YthogkokifiibnaaDoor
open Go.RowKit Go.Sort

theorem hexL_no {c : Int} (h : validB c = false) : hexL c = [] := by
  unfold hexL; unfold validB at h; rw [if_neg (of_decide_eq_false h)]
theorem hexL_yes {c : Int} (h : validB c = true) : ∃ n : Nat, c = n ∧ n ≤ 1114111 ∧ hexL c = hexN (hexLen n) n := by
  have h' := of_decide_eq_true h
  obtain ⟨n, rfl⟩ := Int.eq_ofNat_of_zero_le h'.1
  refine ⟨n, rfl, by omega, ?_⟩
  unfold hexL; rw [if_pos h', Int.toNat_natCast]

theorem cpHex (c : Int) (w : World) (hD : Dig w) :
    Calls Tryd.prog 37 #[.int .i64 c] w fun e w' => e = .returned (.string ⟨(hexL c).toArray⟩) ∧ Below w.heap.size w w' := by
  cases h : validB c
  · exact (cpHexNo c w h).mono fun e w' ⟨he, hw⟩ => ⟨by rw [he, hexL_no h], hw ▸ Below.refl _ _⟩
  · obtain ⟨n, rfl, hn, e⟩ := hexL_yes h
    rw [e]
    exact cpHexYes n w hD hn

theorem shr_front (c : Nat) : ∀ k, shr (k + 1) c = shr k (c / 16)
  | 0 => rfl
  | k + 1 => by rw [shr, shr_front c k]; rfl
theorem hexN_front : ∀ (k c : Nat), hexN (k + 1) c = UInt8.ofNat (hexC (shr k c % 16)) :: hexN k c
  | 0, c => rfl
  | k + 1, c => by
    rw [hexN, hexN_front k (c / 16), hexN, shr_front]
    rfl

theorem digSlice (x : Nat) (hx : x < 16) (w : World) : (Instr.slice 9 (.string ⟨#[48, 49, 50, 51, 52, 53, 54, 55, 56, 57, 65, 66, 67, 68, 69, 70]⟩) (some (.int .i64 x)) (some (.int .i64 (x + 1))) none).run Tryd.prog w = .ok (.string ⟨#[UInt8.ofNat (hexC x)]⟩) w := by
  obtain rfl | rfl | rfl | rfl | rfl | rfl | rfl | rfl | rfl | rfl | rfl | rfl | rfl | rfl | rfl | rfl : x = 0 ∨ x = 1 ∨ x = 2 ∨ x = 3 ∨ x = 4 ∨ x = 5 ∨ x = 6 ∨ x = 7 ∨ x = 8 ∨ x = 9 ∨ x = 10 ∨ x = 11 ∨ x = 12 ∨ x = 13 ∨ x = 14 ∨ x = 15 := by omega
  all_goals kernel_rfl
theorem digSliceMod (c : Nat) (w : World) : (Instr.slice 9 (.string ⟨#[48, 49, 50, 51, 52, 53, 54, 55, 56, 57, 65, 66, 67, 68, 69, 70]⟩) (some (.int .i64 ((c : Int) % 16))) (some (.int .i64 ((c : Int) % 16 + 1))) none).run Tryd.prog w = .ok (.string ⟨#[UInt8.ofNat (hexC (c % 16))]⟩) w :=
  digSlice (c % 16) (Nat.mod_lt _ (by omega)) w


end Go.Proofs.YthogkokifiibnaaDoor
