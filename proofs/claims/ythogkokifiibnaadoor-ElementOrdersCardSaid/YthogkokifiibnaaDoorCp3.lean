/- codepoint.Hex and Hex of the reference -/
import Derived.Test.YthogkokifiibnaaDoorCp2
namespace Go.Proofs.YthogkokifiibnaaDoor
open Go.RowKit Go.Sort

def shr : Nat → Nat → Nat
  | 0, c => c
  | k + 1, c => shr k c / 16
theorem shr_le (c : Nat) : ∀ k, shr k c ≤ c
  | 0 => Nat.le_refl _
  | k + 1 => Nat.le_trans (Nat.div_le_self _ _) (shr_le c k)
def hexZ : Value := .int .u8 0
def hexDig (c j : Nat) : Value := .int .u8 (hexC (shr j c % 16))
/-- codepoint.Hex's buffer after k rounds -/
def hexBuf (c : Nat) : Nat → Array Value
  | 0 => #[hexZ, hexZ, hexZ, hexZ, hexZ, hexZ]
  | 1 => #[hexZ, hexZ, hexZ, hexZ, hexZ, hexDig c 0]
  | 2 => #[hexZ, hexZ, hexZ, hexZ, hexDig c 1, hexDig c 0]
  | 3 => #[hexZ, hexZ, hexZ, hexDig c 2, hexDig c 1, hexDig c 0]
  | 4 => #[hexZ, hexZ, hexDig c 3, hexDig c 2, hexDig c 1, hexDig c 0]
  | 5 => #[hexZ, hexDig c 4, hexDig c 3, hexDig c 2, hexDig c 1, hexDig c 0]
  | _ => #[hexDig c 5, hexDig c 4, hexDig c 3, hexDig c 2, hexDig c 1, hexDig c 0]

theorem hexLen4 {c : Nat} (h : shr 4 c = 0) : hexLen c = 4 := by simp only [shr] at h; unfold hexLen; rw [if_pos (by omega)]
theorem hexLen5 {c : Nat} (h : shr 5 c = 0) (h' : shr 4 c ≠ 0) : hexLen c = 5 := by simp only [shr] at h h'; unfold hexLen; rw [if_neg (by omega), if_pos (by omega)]
theorem hexLen6 {c : Nat} (h' : shr 5 c ≠ 0) : hexLen c = 6 := by simp only [shr] at h'; unfold hexLen; rw [if_neg (by omega), if_neg (by omega)]
theorem hexDig_byte (c j x : Nat) (h : x = shr j c % 16) : hexDig c j = .int .u8 ((UInt8.ofNat (hexC x)).toNat : Int) := by
  subst h
  have := hexC_le (shr j c % 16) (Nat.mod_lt _ (by omega))
  unfold hexDig
  rw [UInt8.toNat_ofNat', Nat.mod_eq_of_lt (show hexC (shr j c % 16) < 2 ^ 8 by omega)]

theorem hexConv4 (c : Nat) (w : World) : (convert 53 9 (.slice (some ⟨w.heap.size, 2, none⟩) 4 4)).run Tryd.prog (w.alloc (.cells (hexBuf c 4) 94)) = .ok (.string ⟨(hexN 4 c).toArray⟩) (w.alloc (.cells (hexBuf c 4) 94)) := by
  have := run_convert_bytes_back (P := Tryd.prog) (w.alloc (.cells (hexBuf c 4) 94)) 53 9 5 ⟨w.heap.size, 2, none⟩ 4 (hexN 4 c) Tryd.underlying53 Tryd.underlying5 Tryd.underlying9 (fun j hj => by
    rw [hexN_length] at hj
    rw [Go.WideShapes.add_plain, cell_box]
    obtain rfl | rfl | rfl | rfl : j = 0 ∨ j = 1 ∨ j = 2 ∨ j = 3 := by omega
    all_goals exact congrArg some (hexDig_byte c _ _ rfl))
  rwa [hexN_length] at this
theorem hexConv5 (c : Nat) (w : World) : (convert 53 9 (.slice (some ⟨w.heap.size, 1, none⟩) 5 5)).run Tryd.prog (w.alloc (.cells (hexBuf c 5) 94)) = .ok (.string ⟨(hexN 5 c).toArray⟩) (w.alloc (.cells (hexBuf c 5) 94)) := by
  have := run_convert_bytes_back (P := Tryd.prog) (w.alloc (.cells (hexBuf c 5) 94)) 53 9 5 ⟨w.heap.size, 1, none⟩ 5 (hexN 5 c) Tryd.underlying53 Tryd.underlying5 Tryd.underlying9 (fun j hj => by
    rw [hexN_length] at hj
    rw [Go.WideShapes.add_plain, cell_box]
    obtain rfl | rfl | rfl | rfl | rfl : j = 0 ∨ j = 1 ∨ j = 2 ∨ j = 3 ∨ j = 4 := by omega
    all_goals exact congrArg some (hexDig_byte c _ _ rfl))
  rwa [hexN_length] at this
theorem hexConv6 (c : Nat) (w : World) : (convert 53 9 (.slice (some ⟨w.heap.size, 0, none⟩) 6 6)).run Tryd.prog (w.alloc (.cells (hexBuf c 6) 94)) = .ok (.string ⟨(hexN 6 c).toArray⟩) (w.alloc (.cells (hexBuf c 6) 94)) := by
  have := run_convert_bytes_back (P := Tryd.prog) (w.alloc (.cells (hexBuf c 6) 94)) 53 9 5 ⟨w.heap.size, 0, none⟩ 6 (hexN 6 c) Tryd.underlying53 Tryd.underlying5 Tryd.underlying9 (fun j hj => by
    rw [hexN_length] at hj
    rw [Go.WideShapes.add_plain, cell_box]
    obtain rfl | rfl | rfl | rfl | rfl | rfl : j = 0 ∨ j = 1 ∨ j = 2 ∨ j = 3 ∨ j = 4 ∨ j = 5 := by omega
    all_goals exact congrArg some (hexDig_byte c _ _ rfl))
  rwa [hexN_length] at this
theorem cpHexNo (c : Int) (w : World) (h : validB c = false) :
    Calls Tryd.prog 37 #[.int .i64 c] w fun e w' => e = .returned (.string ⟨#[]⟩) ∧ w = w' := by
  have H := Lib.hid h
  clear h
  go_enter Tryd.func37, Tryd.ntmps37
  go_wp2_with (go_at_call 34; refine (cpValid _ _).mono ?_; rintro e w' ⟨rfl, rfl⟩; rw [H.out])
  go_ret
  exact ⟨rfl, rfl⟩

set_option maxRecDepth 100000 in
theorem cpHexYes (c : Nat) (w : World) (hD : Dig w) (h : c ≤ 1114111) :
    Calls Tryd.prog 37 #[.int .i64 c] w fun e w' => e = .returned (.string ⟨(hexN (hexLen c) c).toArray⟩) ∧ Below w.heap.size w w' := by
  have HV : Hid (validB c = true) := Lib.hid (by simp [validB]; omega)
  have HD := Lib.hid hD
  clear hD
  go_enter Tryd.func37, Tryd.ntmps37
  go_wp2_with (go_at_call 34; refine (cpValid _ _).mono ?_; rintro e w' ⟨rfl, rfl⟩; rw [HV.out])
  go_loopw [0, 4, 9] (fun x at' i wr => ∃ k : Nat, k ≤ 6 ∧ (k < 5 ∨ Hid (shr (k - 1) c ≠ 0)) ∧ x = .int .i64 (shr k c) ∧ at' = .int .i64 (6 - k) ∧ i = .int .i64 k ∧ wr = w.alloc (.cells (hexBuf c k) 94)) (fun _ _ i _ => 6 - (intOf i).toNat)
  case atStart => exact ⟨0, by omega, .inl (by omega), rfl, rfl, rfl, rfl⟩
  case round =>
    obtain ⟨k, hk, hz, rfl, rfl, rfl, rfl⟩ := hrel
    have hle := shr_le c k
    have h0 : 0 < w.heap.size := block_lt_of_cell (HD.out 0 (by omega))
    have hm : shr k c % 16 < 16 := Nat.mod_lt _ (by omega)
    have hc := HD.out (shr k c % 16) hm
    by_cases hlt : k < 4
    · obtain rfl | rfl | rfl | rfl : k = 0 ∨ k = 1 ∨ k = 2 ∨ k = 3 := by omega
      all_goals
        clear hz
        go_wp2
        go_roundw
        case rel => first | exact ⟨1, by omega, .inl (by omega), rfl, rfl, rfl, rfl⟩ | exact ⟨2, by omega, .inl (by omega), rfl, rfl, rfl, rfl⟩ | exact ⟨3, by omega, .inl (by omega), rfl, rfl, rfl, rfl⟩ | exact ⟨4, by omega, .inl (by omega), rfl, rfl, rfl, rfl⟩
        case measure => simp [intOf]
    · by_cases h6 : k < 6
      · by_cases hs : shr k c = 0
        · have hs' : (((shr k c : Nat) : Int) == 0) = true := by simp [hs]
          have HS := Lib.hid hs
          clear hs
          obtain rfl | rfl : k = 4 ∨ k = 5 := by omega
          · have hq4 := hexConv4 c w
            go_wp2
            go_ret
            exact ⟨ret_str (by rw [hexLen4 HS.out]), bBox _ _⟩
          · have hq5 := hexConv5 c w
            have hz' := (hz.resolve_left (by omega)).out
            have Hz' := Lib.hid hz'
            clear hz'
            clear hz
            go_wp2
            go_ret
            exact ⟨ret_str (by rw [hexLen5 HS.out Hz'.out]), bBox _ _⟩
        · have hs' : (((shr k c : Nat) : Int) == 0) = false := by simpa using hs
          have HS := Lib.hid hs
          clear hs hz
          obtain rfl | rfl : k = 4 ∨ k = 5 := by omega
          all_goals
            go_wp2
            go_roundw
            case rel => first | exact ⟨5, by omega, .inr HS, rfl, rfl, rfl, rfl⟩ | exact ⟨6, by omega, .inr HS, rfl, rfl, rfl, rfl⟩
            case measure => simp [intOf]
      · obtain rfl : k = 6 := by omega
        have hq6 := hexConv6 c w
        have hz' := (hz.resolve_left (by omega)).out
        have Hz' := Lib.hid hz'
        clear hz'
        clear hz
        go_wp2
        go_ret
        exact ⟨ret_str (by rw [hexLen6 Hz'.out]), bBox _ _⟩
end Go.Proofs.YthogkokifiibnaaDoor
