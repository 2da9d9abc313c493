/- Plain laws of hexadecimal digits. No program in sight. -/
import Derived.Test.YthogkokifiibnaaDoorBase
namespace Go.Proofs.YthogkokifiibnaaDoor

/-- the character of a digit -/
def hexC (i : Nat) : Nat := if i < 10 then 48 + i else 55 + i
/-- the value of a character, or -1 -/
def hexVal (b : Int) : Int := if 48 ≤ b ∧ b ≤ 57 then b - 48 else if 65 ≤ b ∧ b ≤ 70 then b - 55 else -1
theorem hexC_is (k : Nat) : (k < 10 ∧ hexC k = 48 + k) ∨ (10 ≤ k ∧ hexC k = 55 + k) := by unfold hexC; split <;> omega
theorem hexVal_is (b : Int) : (48 ≤ b ∧ b ≤ 57 ∧ hexVal b = b - 48) ∨ (65 ≤ b ∧ b ≤ 70 ∧ hexVal b = b - 55) ∨ ((b < 48 ∨ 57 < b) ∧ (b < 65 ∨ 70 < b) ∧ hexVal b = -1) := by unfold hexVal; split <;> (try split) <;> omega
theorem hexC_le (i : Nat) (h : i < 16) : 48 ≤ hexC i ∧ hexC i ≤ 70 := by have := hexC_is i; omega
theorem hexVal_hit {b : Int} {k : Nat} (hk : k < 16) (h : (hexC k : Int) = b) : hexVal b = k := by have := hexC_is k; have := hexVal_is b; omega
theorem hexVal_miss {b : Int} {k : Nat} (hk : k < 16) (h : ¬ (hexC k : Int) = b) (hb : hexVal b = -1 ∨ k ≤ hexVal b) : hexVal b = -1 ∨ ((k + 1 : Nat) : Int) ≤ hexVal b := by
  have := hexC_is k; have := hexVal_is b; omega
theorem hexVal_end {b : Int} (hb : hexVal b = -1 ∨ 16 ≤ hexVal b) : hexVal b = -1 := by have := hexVal_is b; omega
theorem hexVal_le (b : Int) : -1 ≤ hexVal b ∧ hexVal b ≤ 15 := by have := hexVal_is b; omega

/-- n digits of c -/
def hexN : Nat → Nat → List UInt8
  | 0, _ => []
  | n + 1, c => hexN n (c / 16) ++ [UInt8.ofNat (hexC (c % 16))]
theorem hexN_length : ∀ n c, (hexN n c).length = n
  | 0, _ => rfl
  | n + 1, c => by simp [hexN, hexN_length n]
def hexLen (c : Nat) : Nat := if c < 65536 then 4 else if c < 1048576 then 5 else 6
/-- Hex of a code point, empty for other numbers -/
def hexL (c : Int) : List UInt8 := if 0 ≤ c ∧ c ≤ 1114111 then hexN (hexLen c.toNat) c.toNat else []
theorem hexL_length_le (c : Int) : (hexL c).length ≤ 6 := by
  unfold hexL; split
  · rw [hexN_length]; unfold hexLen; split <;> (try split) <;> omega
  · simp
end Go.Proofs.YthogkokifiibnaaDoor
