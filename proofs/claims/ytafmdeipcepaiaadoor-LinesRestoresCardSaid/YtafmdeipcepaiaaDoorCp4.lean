/- codepoint.Hex at every number; Hex of the reference -/
import Derived.Test.YtafmdeipcepaiaaDoorCp3
namespace Go.Proofs.YtafmdeipcepaiaaDoor
open Go.RowKit Go.Sort

theorem hexL_no {c : Int} (h : validB c = false) : hexL c = [] := by
  unfold hexL; unfold validB at h; rw [if_neg (of_decide_eq_false h)]
theorem hexL_yes {c : Int} (h : validB c = true) : ∃ n : Nat, c = n ∧ n ≤ 1114111 ∧ hexL c = hexN (hexLen n) n := by
  have h' := of_decide_eq_true h
  obtain ⟨n, rfl⟩ := Int.eq_ofNat_of_zero_le h'.1
  refine ⟨n, rfl, by omega, ?_⟩
  unfold hexL; rw [if_pos h', Int.toNat_natCast]

theorem cpHex (c : Int) (w : World) (hD : Dig w) :
    Calls Tryd.prog 36 #[.int .i64 c] w fun e w' => e = .returned (.string ⟨(hexL c).toArray⟩) ∧ Below w.heap.size w w' := by
  cases h : validB c
  · exact (cpHexNo c w h).mono fun e w' ⟨he, hw⟩ => ⟨by rw [he, hexL_no h], hw ▸ Below.refl _ _⟩
  · obtain ⟨n, rfl, hn, e⟩ := hexL_yes h
    rw [e]
    exact cpHexYes n w hD hn

theorem shr_front (c : Nat) : ∀ k, shr (k + 1) c = shr k (c / 16)
  | 0 => rfl
  | k + 1 => by rw [shr, shr_front c k]; rfl
theorem hexN_front : ∀ (k c : Nat), hexN (k + 1) c = UInt8.ofNat (hexC (shr k c % 16)) :: hexN k c
  | 0, c => rfl
  | k + 1, c => by
    rw [hexN, hexN_front k (c / 16), hexN, shr_front]
    rfl

theorem digSlice (x : Nat) (hx : x < 16) (w : World) : (Instr.slice 9 (.string ⟨#[48, 49, 50, 51, 52, 53, 54, 55, 56, 57, 65, 66, 67, 68, 69, 70]⟩) (some (.int .i64 x)) (some (.int .i64 (x + 1))) none).run Tryd.prog w = .ok (.string ⟨#[UInt8.ofNat (hexC x)]⟩) w := by
  obtain rfl | rfl | rfl | rfl | rfl | rfl | rfl | rfl | rfl | rfl | rfl | rfl | rfl | rfl | rfl | rfl : x = 0 ∨ x = 1 ∨ x = 2 ∨ x = 3 ∨ x = 4 ∨ x = 5 ∨ x = 6 ∨ x = 7 ∨ x = 8 ∨ x = 9 ∨ x = 10 ∨ x = 11 ∨ x = 12 ∨ x = 13 ∨ x = 14 ∨ x = 15 := by omega
  all_goals kernel_rfl
theorem digSliceMod (c : Nat) (w : World) : (Instr.slice 9 (.string ⟨#[48, 49, 50, 51, 52, 53, 54, 55, 56, 57, 65, 66, 67, 68, 69, 70]⟩) (some (.int .i64 ((c : Int) % 16))) (some (.int .i64 ((c : Int) % 16 + 1))) none).run Tryd.prog w = .ok (.string ⟨#[UInt8.ofNat (hexC (c % 16))]⟩) w :=
  digSlice (c % 16) (Nat.mod_lt _ (by omega)) w

set_option maxRecDepth 100000 in
theorem rfHexYes (c : Nat) (w : World) (h : c ≤ 1114111) :
    Calls Tryd.prog 55 #[.int .i64 c] w fun e w' => e = .returned (.string ⟨(hexN (hexLen c) c).toArray⟩) ∧ w = w' := by
  have HV : Hid (validB c = true) := Lib.hid (by simp [validB]; omega)
  go_enter Tryd.func55, Tryd.ntmps55
  go_wp2_with (go_at_call 29; refine (rfValid _ _).mono ?_; rintro e w' ⟨rfl, rfl⟩; rw [HV.out])
  go_loop [0, 3] (fun x s => ∃ k : Nat, k ≤ 6 ∧ x = .int .i64 (shr k c) ∧ s = .string ⟨(hexN k c).toArray⟩ ∧ (k < 5 ∨ Hid (shr (k - 1) c ≠ 0))) (fun _ s => 6 - strLen s)
  case atStart => exact ⟨0, by omega, rfl, rfl, .inl (by omega)⟩
  case round =>
    obtain ⟨k, hk, rfl, rfl, hz⟩ := hrel
    have hle := shr_le c k
    have hd := digSliceMod (shr k c)
    have hlen := hexN_length k c
    have HL := Lib.hid (hexN_length (k + 1) c)
    have HF := Lib.hid (hexN_front k c)
    have hsz : strLen (.string ⟨(hexN k c).toArray⟩) = k := by rw [strLen_mk, hexN_length]
    have HZ := Lib.hid hsz
    clear hsz
    by_cases h4 : k < 4
    · clear hz
      go_wp2
      go_round
      case rel => exact ⟨k + 1, by omega, rfl, (str_app [_] _).trans (by rw [HF.out]; rfl), .inl (by omega)⟩
      case measure => rw [HZ.out, str_app [_] _, strLen_mk]; simp [hexN_length]; omega
    · by_cases hs : shr k c = 0
      · have hs' : decide (0 < shr k c) = false := by simp [hs]
        have hk4 : decide ((k : Int) < 4) = false := by simp; omega
        have Hs := Lib.hid hs
        clear hs
        go_wp2
        go_ret
        refine ⟨ret_str ?_, rfl⟩
        obtain rfl | rfl | rfl : k = 4 ∨ k = 5 ∨ k = 6 := by omega
        · rw [hexLen4 Hs.out]
        · rw [hexLen5 Hs.out (hz.resolve_left (by omega)).out]
        · rw [hexLen6 (hz.resolve_left (by omega)).out]
      · have hs' : decide (0 < shr k c) = true := by simp; omega
        have hk4 : decide ((k : Int) < 4) = false := by simp; omega
        have hk6 : k < 6 := by
          rcases Nat.lt_or_ge k 6 with h6 | h6
          · exact h6
          · obtain rfl : k = 6 := by omega
            simp only [shr] at hs
            omega
        have Hs := Lib.hid hs
        clear hs
        clear hz
        go_wp2
        go_round
        case rel => exact ⟨k + 1, by omega, rfl, (str_app [_] _).trans (by rw [HF.out]; rfl), .inr Hs⟩
        case measure => rw [HZ.out, str_app [_] _, strLen_mk]; simp [hexN_length]; omega

theorem rfHex (c : Int) (w : World) :
    Calls Tryd.prog 55 #[.int .i64 c] w fun e w' => e = .returned (.string ⟨(hexL c).toArray⟩) ∧ w = w' := by
  cases h : validB c
  · have hn := hexL_no h
    have H := Lib.hid h
    have Hn := Lib.hid hn
    clear h hn
    go_enter Tryd.func55, Tryd.ntmps55
    go_wp2_with (go_at_call 29; refine (rfValid _ _).mono ?_; rintro e w' ⟨rfl, rfl⟩; rw [H.out])
    go_ret
    exact ⟨ret_str Hn.out.symm, rfl⟩
  · obtain ⟨n, rfl, hn, e⟩ := hexL_yes h
    rw [e]
    exact rfHexYes n w hn
end Go.Proofs.YtafmdeipcepaiaaDoor
