/- escape: valid, piece, digit -/
import Derived.Test.YtgkogbjlbcllmaaDoorEs1
import Derived.Test.YtgkogbjlbcllmaaDoorEnv
import Derived.Shelf.Strings.SlTrimAscii
namespace Go.Proofs.YtgkogbjlbcllmaaDoor
open Go.RowKit Go.Sort

set_option maxRecDepth 100000 in
theorem esValid (zs : List Int) (A : Option Addr) (cap : Nat) (w : World) (hA : IntsAt w A zs) (hl : zs.length ≤ 1000000) :
    Calls Tryd.prog 22 #[.slice A zs.length cap] w fun e w' => e = .returned (.bool (allValid zs)) ∧ w = w' := by
  have HA := Lib.hid hA
  clear hA
  go_enter Tryd.func22, Tryd.ntmps22
  go_wp2_with fail
  go_loop [7] (fun i => ∃ m : Nat, m ≤ zs.length ∧ i = .int .i64 m ∧ Hid (allValid zs = allValid (zs.drop m))) (fun i => zs.length - (intOf i).toNat)
  case atStart => exact ⟨0, Nat.zero_le _, rfl, Lib.hid rfl⟩
  case round =>
    obtain ⟨m, hm, rfl, HE⟩ := hrel
    by_cases hlt : m < zs.length
    · obtain ⟨b, off, rfl, hb, hc⟩ := HA.out.at_ (k := m) hlt
      have hE := HE.out
      rw [drop_nth hlt, allValid_cons] at hE
      cases hv : validB (nth zs m)
      · rw [hv, Bool.false_and] at hE
        have HE := Lib.hid hE
        have Hv := Lib.hid hv
        clear hE hv
        go_wp2_with (go_at_call 37; refine (cpValid _ _).mono ?_; rintro e w' ⟨rfl, rfl⟩; rw [Hv.out])
        go_ret
        exact ⟨ret_bool HE.out.symm, rfl⟩
      · rw [hv, Bool.true_and] at hE
        have HE := Lib.hid hE
        have Hv := Lib.hid hv
        clear hE hv
        go_wp2_with (go_at_call 37; refine (cpValid _ _).mono ?_; rintro e w' ⟨rfl, rfl⟩; rw [Hv.out])
        go_round
        case rel => exact ⟨m + 1, by omega, by go_num, HE⟩
        case measure => simp [intOf]; omega
    · have HE' := Lib.hid (show allValid zs = true by rw [HE.out, List.drop_of_length_le (by omega)]; rfl)
      go_wp2_with fail
      go_ret
      exact ⟨ret_bool HE'.out.symm, rfl⟩

/-- string(b) of bytes in a new block -/
theorem convB (l : List UInt8) (w : World) : (convert 34 9 (.slice (some ⟨w.heap.size, 0, none⟩) l.length l.length)).run Tryd.prog (w.alloc (.cells (l.map fun b => Value.int .u8 b.toNat).toArray 5)) = .ok (.string ⟨l.toArray⟩) (w.alloc (.cells (l.map fun b => Value.int .u8 b.toNat).toArray 5)) := by
  refine run_convert_bytes_back (P := Tryd.prog) (w.alloc (.cells (l.map fun b => Value.int .u8 b.toNat).toArray 5)) 34 9 5 ⟨w.heap.size, 0, none⟩ l.length l Tryd.underlying34 Tryd.underlying5 Tryd.underlying9 (fun j hj => ?_)
  rw [Go.WideShapes.add_plain, cell_box]
  simp [hj]
theorem conv1 {b : Int} (h0 : 0 ≤ b) (h1 : b ≤ 255) (w : World) : (convert 34 9 (.slice (some ⟨w.heap.size, 0, none⟩) 1 1)).run Tryd.prog (w.alloc (.cells #[.int .u8 b] 5)) = .ok (.string ⟨#[ub b]⟩) (w.alloc (.cells #[.int .u8 b] 5)) := by
  have := convB [ub b] w
  simpa [ub_toNat h0 h1] using this
theorem conv2 {b : Int} (h0 : 0 ≤ b) (h1 : b ≤ 255) (w : World) : (convert 34 9 (.slice (some ⟨w.heap.size, 0, none⟩) 2 2)).run Tryd.prog (w.alloc (.cells #[.int .u8 92, .int .u8 b] 5)) = .ok (.string ⟨#[92, ub b]⟩) (w.alloc (.cells #[.int .u8 92, .int .u8 b] 5)) := by
  have := convB [92, ub b] w
  simpa [ub_toNat h0 h1] using this
theorem brace_ba (d : List UInt8) : (⟨#[92, 117, 123]⟩ : ByteArray) ++ ⟨d.toArray⟩ ++ ⟨#[125]⟩ = ⟨([92, 117, 123] ++ d ++ [125]).toArray⟩ := by
  have h1 : (⟨#[92, 117, 123]⟩ : ByteArray) ++ ⟨d.toArray⟩ = ⟨([92, 117, 123] ++ d).toArray⟩ := ba_app [92, 117, 123] d
  rw [h1]
  exact ba_app _ [125]
theorem trimLeft0 (l : List UInt8) (w : World) : Calls Tryd.prog 48 #[.string ⟨l.toArray⟩, .string ⟨#[48]⟩] w fun e w' => e = .returned (.string ⟨(l.dropWhile fun b => b == 48).toArray⟩) ∧ w = w' := by
  refine (Tryd.strings_TrimLeft_one ⟨l.toArray⟩ 48 (by decide) w).mono ?_
  rintro e w' ⟨rfl, rfl⟩
  exact ⟨rfl, rfl⟩

set_option maxHeartbeats 1000000 in
set_option maxRecDepth 100000 in
theorem esPiece (c : Int) (w : World) (hD : Dig w) (hc0 : -9223372036854775808 ≤ c) (hc1 : c ≤ 9223372036854775807) :
    Calls Tryd.prog 40 #[.int .i64 c] w fun e w' => e = .returned (.string ⟨(pieceL c).toArray⟩) ∧ Below w.heap.size w w' := by
  by_cases h1 : c = 34
  · subst h1
    have hcv := fun w => conv2 (b := 34) (by omega) (by omega) w
    have HD := Lib.hid hD
    clear hD
    go_enter Tryd.func40, Tryd.ntmps40
    go_wp2_with fail
    go_ret
    exact ⟨rfl, bBox _ _⟩
  by_cases h2 : c = 92
  · subst h2
    have hcv := fun w => conv2 (b := 92) (by omega) (by omega) w
    have HD := Lib.hid hD
    clear hD
    go_enter Tryd.func40, Tryd.ntmps40
    go_wp2_with fail
    go_ret
    exact ⟨rfl, bBox _ _⟩
  have q1 : (c == 34) = false := by simpa using h1
  have q2 : (c == 92) = false := by simpa using h2
  have hor : ¬ (c = 34 ∨ c = 92) := by rintro (h | h); exact h1 h; exact h2 h
  by_cases h3 : 32 ≤ c ∧ c ≤ 126
  · obtain ⟨h3, h4⟩ := h3
    have HP := Lib.hid (show pieceL c = [ub c] by rw [pieceL, if_neg hor, if_pos ⟨h3, h4⟩])
    have hcv := fun w => conv1 (b := c) (by omega) (by omega) w
    have q3 : decide (32 ≤ c) = true := by simpa using h3
    have q4 : decide (c ≤ 126) = true := by simpa using h4
    have HD := Lib.hid hD
    clear hD
    clear h1 h2 hor
    go_enter Tryd.func40, Tryd.ntmps40
    go_wp2_with fail
    go_ret
    exact ⟨ret_str HP.out.symm, bBox _ _⟩
  · have HP := Lib.hid (show pieceL c = [92, 117, 123] ++ digL c ++ [125] by rw [pieceL, if_neg hor, if_neg h3])
    have hdl : ((hexL c).dropWhile fun b => b == 48).length ≤ 6 := Nat.le_trans (List.dropWhile_suffix _).length_le (hexL_length_le c)
    have HH := Lib.hid (cpHex c w hD)
    clear hD h1 h2 hor
    by_cases hd : (hexL c).dropWhile (fun b => b == 48) = []
    · have HD := Lib.hid (show digL c = [48] by simp only [digL]; rw [if_pos hd])
      have ht0 := fun w' => trimLeft0 (hexL c) w'
      rw [hd] at ht0
      have Hd := Lib.hid hd
      have Ht0 := Lib.hid ht0
      clear hd ht0
      by_cases h5 : 32 ≤ c
      all_goals
        go_enter Tryd.func40, Tryd.ntmps40
        go_wp2_with fail
        refine HH.out.mono ?_
        rintro e w1 ⟨rfl, hb1⟩
        go_wp2_with fail
        refine (Ht0.out _).mono ?_
        rintro e w2 ⟨rfl, rfl⟩
        go_wp2_with fail
        go_ret
        exact ⟨by rw [HP.out, HD.out]; rfl, hb1⟩
    · have HD := Lib.hid (show digL c = (hexL c).dropWhile (fun b => b == 48) by simp only [digL]; rw [if_neg hd])
      have ht0 := fun w' => trimLeft0 (hexL c) w'
      generalize (hexL c).dropWhile (fun b => b == 48) = d at ht0 HD hd hdl
      have hem : d.isEmpty = false := by cases d with | nil => exact absurd rfl hd | cons a b => rfl
      have Hd := Lib.hid hd
      have Ht0 := Lib.hid ht0
      clear hd ht0
      by_cases h5 : 32 ≤ c
      all_goals
        go_enter Tryd.func40, Tryd.ntmps40
        go_wp2_with fail
        refine HH.out.mono ?_
        rintro e w1 ⟨rfl, hb1⟩
        go_wp2_with fail
        refine (Ht0.out _).mono ?_
        rintro e w2 ⟨rfl, rfl⟩
        go_wp2_with fail
        rw [brace_ba]
        go_ret
        exact ⟨ret_str (by rw [HP.out, HD.out]), hb1⟩
end Go.Proofs.YtgkogbjlbcllmaaDoor
