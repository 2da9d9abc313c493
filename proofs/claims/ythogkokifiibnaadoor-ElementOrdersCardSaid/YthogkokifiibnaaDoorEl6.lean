/- weight -/
import Derived.Test.YthogkokifiibnaaDoorEl5
import Derived.Test.YthogkokifiibnaaDoorElP2
import Derived.Laws.BitsLemmas
namespace Go.Proofs.YthogkokifiibnaaDoor
open Go.RowKit Go.Sort

def digs : List UInt8 := [48, 49, 50, 51, 52, 53, 54, 55, 56, 57, 65, 66, 67, 68, 69, 70]
theorem idxDig (b : UInt8) : Lib.indexByte digs b = hexVal (b.toNat : Int) := by
  have h : ∀ n : Fin 256, Lib.indexByte digs (UInt8.ofNat n.val) = hexVal ((UInt8.ofNat n.val).toNat : Int) := by decide +kernel
  have := h ⟨b.toNat, UInt8.toNat_lt b⟩
  simpa using this
theorem elIdx (l : List UInt8) (k : Nat) (hk : k < l.length) (w : World) : Calls Tryd.prog 40 #[.string ⟨#[48, 49, 50, 51, 52, 53, 54, 55, 56, 57, 65, 66, 67, 68, 69, 70]⟩, .int .u8 (btN l k)] w fun e w' => e = .returned (.int .i64 (hexVal (btN l k))) ∧ w = w' := by
  refine (Tryd.strings_IndexByte ⟨#[48, 49, 50, 51, 52, 53, 54, 55, 56, 57, 65, 66, 67, 68, 69, 70]⟩ (btN l k) w).mono ?_
  rintro e w' ⟨rfl, rfl⟩
  refine ⟨?_, rfl⟩
  have e1 : ((btN l k : Int)).toNat.toUInt8 = l[k] := by simp [btN, hk]
  have e2 : btN l k = l[k].toNat := by simp [btN, hk]
  rw [e1, e2, ← idxDig]
  rfl
theorem or16 {a d : Int} (h0 : 0 ≤ a) (h1 : a < 16777216) (h2 : 0 ≤ d) (h3 : d < 16) : bits .or .i64 (a * 16) d = a * 16 + d :=
  bits_join .i64 62 (by decide) (fun n h0 h1 => by rw [IntKind.wrap_i64]; omega) 4 (a * 16) d (by omega) (by omega) (by omega) h2 (by omega) (by omega)

set_option maxHeartbeats 8000000 in
set_option maxRecDepth 100000 in
theorem elWeight (l : List UInt8) (w : World) (hl : l.length ≤ 4) :
    Calls Tryd.prog 32 #[.string ⟨l.toArray⟩] w fun e w' => e = .returned (.tuple #[.int .i64 ((numL l 0).getD 0), .bool (numL l 0).isSome]) ∧ w = w' := by
  go_enter Tryd.func32, Tryd.ntmps32
  go_wp2_with fail
  go_loop [4, 9] (fun a i => ∃ (k : Nat) (c : Int), k ≤ l.length ∧ i = .int .i64 k ∧ a = .int .i64 c ∧ 0 ≤ c ∧ c < 16 ^ k ∧ Hid (numL l 0 = numL (l.drop k) c)) (fun _ i => l.length - (intOf i).toNat)
  case atStart => exact ⟨0, 0, Nat.zero_le _, rfl, rfl, by omega, by decide, Lib.hid rfl⟩
  case round =>
    obtain ⟨k, c, hk, rfl, rfl, hc0, hc1, HN⟩ := hrel
    by_cases hlt : k < l.length
    · have hbt := btN_lt l k
      have hki : (k : Int) < l.length := by omega
      have HI := Lib.hid (elIdx l k hlt)
      have hv := hexVal_le (btN l k)
      have hp : (16 : Int) ^ k ≤ 4096 := by
        obtain rfl | rfl | rfl | rfl : k = 0 ∨ k = 1 ∨ k = 2 ∨ k = 3 := by omega
        all_goals decide
      by_cases hx : hexVal (btN l k) < 0
      · have hd : decide (hexVal (btN l k) < 0) = true := decide_eq_true hx
        have HR := Lib.hid (show numL l 0 = none by rw [HN.out]; exact numL_bad hlt hx)
        generalize hexVal (btN l k) = x at HI hd hx hv
        have Hx := Lib.hid hx
        have Hc1 := Lib.hid hc1
        have Hp := Lib.hid hp
        clear hx hc1 hp
        go_wp2_with fail
        refine (HI.out _).mono ?_
        rintro e w1 ⟨rfl, rfl⟩
        go_wp2_with fail
        go_ret2
        exact ⟨by rw [HR.out]; rfl, rfl⟩
      · have hd : decide (hexVal (btN l k) < 0) = false := decide_eq_false hx
        have HR := Lib.hid (show numL l 0 = numL (l.drop (k + 1)) (c * 16 + hexVal (btN l k)) by rw [HN.out]; exact numL_good hlt hx)
        have ho := or16 (a := c) (d := hexVal (btN l k)) hc0 (by omega) (by omega) (by omega)
        have hn1 : c * 16 + hexVal (btN l k) < 16 ^ (k + 1) := by rw [Int.pow_succ]; omega
        generalize hexVal (btN l k) = x at HI hd hx hv HR ho hn1
        have hw : IntKind.i64.wrap (c * 16) = c * 16 := IntWalk.i64_in (c * 16) (by omega)
        have hx0 := Lib.hid (show 0 ≤ c * 16 + x by omega)
        have Hx := Lib.hid hx
        have Hc1 := Lib.hid hc1
        have Hp := Lib.hid hp
        have Hn1 := Lib.hid hn1
        clear hx hc1 hp hn1
        go_wp2_with fail
        refine (HI.out _).mono ?_
        rintro e w1 ⟨rfl, rfl⟩
        go_wp2_with fail
        go_round
        case rel => exact ⟨k + 1, c * 16 + x, by omega, by go_num, rfl, hx0.out, Hn1.out, HR⟩
        case measure => simp [intOf]; omega
    · obtain rfl : k = l.length := by omega
      have hki : ¬ (l.length : Int) < l.length := by omega
      have HR := Lib.hid (show numL l 0 = some c by rw [HN.out, List.drop_eq_nil_of_le (Nat.le_refl _)]; rfl)
      have Hc1 := Lib.hid hc1
      clear hc1
      go_wp2_with fail
      go_ret2
      exact ⟨by rw [HR.out]; rfl, rfl⟩
end Go.Proofs.YthogkokifiibnaaDoor
