/- Plain laws about what escape.Text writes. -/
import Derived.Test.YtgkogbjlbcllmaaDoorEs5
namespace Go.Proofs.YtgkogbjlbcllmaaDoor

def Ascii (l : List UInt8) : Prop := ∀ b ∈ l, 32 ≤ b.toNat ∧ b.toNat ≤ 126
theorem hexC_byte (k : Nat) (hk : k < 16) : (UInt8.ofNat (hexC k)).toNat = hexC k := by
  have := hexC_le k hk
  rw [UInt8.toNat_ofNat']
  omega
theorem hexN_digit : ∀ (n c : Nat), ∀ b ∈ hexN n c, ∃ k, k < 16 ∧ b.toNat = hexC k
  | 0, _, b, h => by simp [hexN] at h
  | n + 1, c, b, h => by
    rw [hexN] at h
    rcases List.mem_append.1 h with h | h
    · exact hexN_digit n (c / 16) b h
    · obtain rfl : b = UInt8.ofNat (hexC (c % 16)) := by simpa using h
      exact ⟨c % 16, by omega, hexC_byte _ (by omega)⟩
theorem hexL_digit (c : Int) : ∀ b ∈ hexL c, ∃ k, k < 16 ∧ b.toNat = hexC k := by
  intro b hb
  unfold hexL at hb
  split at hb
  · exact hexN_digit _ _ b hb
  · simp at hb
theorem digL_digit (c : Int) : ∀ b ∈ digL c, ∃ k, k < 16 ∧ b.toNat = hexC k := by
  intro b hb
  unfold digL at hb
  dsimp only at hb
  split at hb
  · obtain rfl : b = 48 := by simpa using hb
    exact ⟨0, by omega, rfl⟩
  · exact hexL_digit c b ((List.dropWhile_suffix _).subset hb)
theorem pieceL_ascii (c : Int) : Ascii (pieceL c) := by
  intro b hb
  unfold pieceL at hb
  split at hb
  · rename_i h
    have h1 := ub_toNat (c := c) (by omega) (by omega)
    rcases List.mem_cons.1 hb with rfl | hb
    · decide
    · obtain rfl : b = ub c := by simpa using hb
      omega
  · split at hb
    · rename_i h
      have h1 := ub_toNat (c := c) (by omega) (by omega)
      obtain rfl : b = ub c := by simpa using hb
      omega
    · rcases List.mem_append.1 hb with hb | hb
      · rcases List.mem_append.1 hb with hb | hb
        · have : b = 92 ∨ b = 117 ∨ b = 123 := by simpa using hb
          rcases this with rfl | rfl | rfl <;> decide
        · obtain ⟨k, hk, e⟩ := digL_digit c b hb
          have := hexC_le k hk
          omega
      · obtain rfl : b = 125 := by simpa using hb
        decide
theorem textE_ascii (t : List Int) : Ascii (textE t) := by
  intro b hb
  unfold textE at hb
  rcases List.mem_append.1 hb with hb | hb
  · rcases List.mem_append.1 hb with hb | hb
    · obtain rfl : b = 34 := by simpa using hb
      decide
    · obtain ⟨c, _, hc⟩ := List.mem_flatMap.1 hb
      exact pieceL_ascii c b hc
  · obtain rfl : b = 34 := by simpa using hb
    decide
theorem textE_two (t : List Int) : 2 ≤ (textE t).length := by simp [textE]
theorem textE_first (t : List Int) : btN (textE t) 0 = 34 := by simp [textE, btN]
theorem textE_last (t : List Int) : btN (textE t) ((textE t).length - 1) = 34 := by
  have e : textE t = ([34] ++ t.flatMap pieceL) ++ [34] := rfl
  generalize [34] ++ t.flatMap pieceL = a at e
  rw [e]
  unfold btN
  rw [List.getD_eq_getElem?_getD]
  simp
theorem textE_join (a b : List Int) : textE (a ++ b) = (textE a).take ((textE a).length - 1) ++ (textE b).drop 1 := by
  have e1 : (textE a).take ((textE a).length - 1) = [34] ++ a.flatMap pieceL := by
    have e : textE a = ([34] ++ a.flatMap pieceL) ++ [34] := rfl
    generalize [34] ++ a.flatMap pieceL = c at e ⊢
    rw [e]
    simp
  have e2 : (textE b).drop 1 = b.flatMap pieceL ++ [34] := by simp [textE]
  rw [e1, e2]
  simp [textE]
theorem allValid_app (a b : List Int) : allValid (a ++ b) = (allValid a && allValid b) := by simp [allValid]
end Go.Proofs.YtgkogbjlbcllmaaDoor
