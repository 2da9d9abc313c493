/- EscapePlaces, the plain law: up to its fault a string is the beginning of a literal. -/
import Derived.Test.YtgkogbjlbcllmaaDoorEs6
namespace Go.Proofs.YtgkogbjlbcllmaaDoor

theorem escHex_true : ∀ (l : List UInt8) (i : Nat) (c : Int), (escHex l i c).2.2 = true → 0 < (escHex l i c).2.1
  | [], i, c, h => by simp [escHex] at h
  | b :: r, i, c, h => by
    unfold escHex at h ⊢
    split
    · simp; omega
    · rename_i hc
      rw [if_neg hc] at h
      split
      · rename_i hd
        rw [if_pos hd] at h
        cases h
      · rename_i hd
        rw [if_neg hd] at h
        split
        · rename_i hv
          rw [if_pos hv] at h
          cases h
        · rename_i hv
          rw [if_neg hv] at h
          exact escHex_true r (i + 1) _ h
theorem escHex_take : ∀ (l : List UInt8) (i m : Nat) (c : Int), (escHex l i c).2.2 = true → (escHex l i c).2.1 ≤ ((i + 3 + m : Nat) : Int) → escHex (l.take m) i c = escHex l i c
  | [], i, m, c, h, _ => by simp [escHex] at h
  | b :: r, i, m, c, h, hm => by
    have ih := escHex_n r (i + 1) (c * 16 + digV b.toNat)
    have ih2 := escHex_take r (i + 1) (m - 1) (c * 16 + digV b.toNat)
    cases m with
    | zero =>
      exfalso
      unfold escHex at h hm
      split at h
      · rename_i hc
        rw [if_pos hc] at hm
        simp at hm
      · rename_i hc
        rw [if_neg hc] at hm
        split at h
        · cases h
        · rename_i hd
          rw [if_neg hd] at hm
          split at h
          · cases h
          · rename_i hv
            rw [if_neg hv] at hm
            rcases ih with ih | ih
            · have := escHex_true _ _ _ h
              omega
            · omega
    | succ m =>
      rw [List.take_succ_cons]
      unfold escHex at h hm ⊢
      split
      · rfl
      · rename_i hc
        rw [if_neg hc] at h hm
        split
        · rfl
        · rename_i hd
          rw [if_neg hd] at h hm
          split
          · rfl
          · rename_i hv
            rw [if_neg hv] at h hm
            exact ih2 h (by simp only [Nat.add_sub_cancel]; omega)
theorem btN_take {l : List UInt8} {m k : Nat} (h : k < m) : btN (l.take m) k = btN l k := by
  unfold btN
  rw [List.getD_eq_getElem?_getD, List.getD_eq_getElem?_getD, List.getElem?_take_of_lt h]
theorem escR_take {l : List UInt8} {m : Nat} (h : (escR l).2.2 = true) (hm : (escR l).2.1 ≤ m) (hl : 1 ≤ l.length) : escR (l.take m) = escR l := by
  unfold escR at h hm
  split at h
  · cases h
  · rename_i h1
    rw [if_neg h1] at hm
    have hl2 : 2 ≤ l.length := by
      rcases Nat.lt_or_ge l.length 2 with h' | h'
      · exact absurd (.inl (by omega)) h1
      · exact h'
    split at h
    · rename_i h2
      rw [if_pos h2] at hm
      have hm2 : 2 ≤ m := by dsimp only at hm; omega
      have hlt : (l.take m).length = min m l.length := List.length_take
      have e1 := btN_take (l := l) (m := m) (k := 1) (by omega)
      have hno : ¬ ((l.take m).length = 1 ∨ l.take m = [92, 117]) := by
        rintro (h' | h')
        · omega
        · rw [h'] at e1
          have : btN [92, 117] 1 = 117 := rfl
          omega
      unfold escR
      rw [if_neg hno, if_neg h1, e1, if_pos h2, if_pos h2]
    · rename_i h2
      rw [if_neg h2] at hm
      split at h
      · cases h
      · rename_i h3
        rw [if_neg h3] at hm
        have hp : Lib.hasPrefix l [92, 117, 123] = true := by simpa using h3
        have hp' := hp
        unfold Lib.hasPrefix at hp'
        obtain ⟨t, ht⟩ := List.isPrefixOf_iff_prefix.1 hp'
        have hn := escHex_n (l.drop 3) 0 0
        have hpos := escHex_true _ _ _ h
        have hm3 : 3 ≤ m := by omega
        have hm4 : 4 ≤ m := by
          rcases Nat.lt_or_ge m 4 with h' | h'
          · exfalso
            have h5 : m = 3 := by omega
            subst h5
            have h6 := escHex_take (l.drop 3) 0 0 0 h (by omega)
            rw [List.take_zero] at h6
            rw [← h6] at h
            simp [escHex] at h
          · exact h'
        have e1 := btN_take (l := l) (m := m) (k := 1) (by omega)
        have hl4 : 3 ≤ l.length := by rw [← ht]; simp
        have hlt : (l.take m).length = min m l.length := List.length_take
        have hno : ¬ ((l.take m).length = 1 ∨ l.take m = [92, 117]) := by
          rintro (h' | h')
          · omega
          · rw [h'] at hlt
            simp at hlt
            omega
        have hp2 : Lib.hasPrefix (l.take m) [92, 117, 123] = true := by
          unfold Lib.hasPrefix
          rw [List.isPrefixOf_iff_prefix]
          refine ⟨t.take (m - 3), ?_⟩
          rw [← ht, List.take_append]
          simp [show [92, 117, 123].take m = ([92, 117, 123] : List UInt8) from List.take_of_length_le (by simp; omega)]
        have ed : (l.take m).drop 3 = (l.drop 3).take (m - 3) := by rw [List.drop_take]
        unfold escR
        rw [if_neg hno, if_neg h1, e1, if_neg h2, if_neg h2, if_neg (by rw [hp2]; simp), if_neg h3, ed]
        exact escHex_take _ _ _ _ h (by omega)

/-- what a scan that ends in a fault says of the bytes up to it -/
def PlaceOk (l : List UInt8) (i : Nat) (acc : List Int) (r : PE) : Prop :=
  (r.2.1 = 0 ∧ r.2.2 = 0) ∨ ∃ f : Nat, r = ([], 3, (f : Int)) ∧ i ≤ f ∧ f ≤ i + l.length ∧ ((scanS (l.take (f - i)) i 0 acc).2 = (0, 0) ∨ (scanS (l.take (f - i)) i 0 acc).2 = (3, (f : Int)))
theorem scan_place : ∀ (n : Nat) (l : List UInt8) (i : Nat) (acc : List Int), l.length ≤ n → PlaceOk l i acc (scanS l i 0 acc)
  | _, [], i, acc, _ => .inr ⟨i, rfl, Nat.le_refl _, by simp, .inr (by simp [scanS])⟩
  | 0, b :: r, i, acc, h => by simp at h
  | n + 1, b :: r, i, acc, h => by
    have hr : r.length ≤ n := by simpa using h
    by_cases h1 : b.toNat = 34
    · by_cases h2 : r = []
      · left
        rw [scanS, if_pos h1, if_pos h2]
        exact ⟨rfl, rfl⟩
      · right
        refine ⟨i + 1, by rw [scanS, if_pos h1, if_neg h2], by omega, by rw [List.length_cons]; omega, .inl ?_⟩
        rw [show i + 1 - i = 1 by omega]
        rw [show (b :: r).take 1 = [b] from rfl, scanS, if_pos h1, if_pos rfl]
    by_cases h2 : b.toNat < 32 ∨ 126 < b.toNat
    · right
      refine ⟨i, by rw [scanS, if_neg h1, if_pos h2], Nat.le_refl _, by omega, .inr ?_⟩
      rw [Nat.sub_self, List.take_zero, scanS]
    by_cases h3 : b.toNat = 92
    · obtain ⟨c, m, ok, he⟩ : ∃ c m ok, escR (b :: r) = (c, m, ok) := ⟨_, _, _, rfl⟩
      have hn := escR_n (b :: r) (by simp)
      have htk := fun m' => escR_take (l := b :: r) (m := m')
      rw [he] at hn
      simp only [he] at htk
      dsimp only at hn htk
      by_cases h4 : m = 0
      · right
        refine ⟨i, ?_, Nat.le_refl _, by omega, .inr ?_⟩
        · rw [scanS, if_neg h1, if_neg h2, if_neg (fun h => h h3), he, if_pos h4]
        · rw [Nat.sub_self, List.take_zero, scanS]
      have hn' := hn.resolve_left h4
      cases ok
      · right
        have e : scanS (b :: r) i 0 acc = ([], 3, ((i + (b :: r).length : Nat) : Int)) := by rw [scanS, if_neg h1, if_neg h2, if_neg (fun h => h h3), he, if_neg h4, if_pos rfl]
        refine ⟨i + (b :: r).length, e, by omega, Nat.le_refl _, .inr ?_⟩
        rw [show i + (b :: r).length - i = (b :: r).length by omega, List.take_length, e]
      · obtain ⟨q, rfl⟩ := Int.eq_ofNat_of_zero_le (show 0 ≤ m by omega)
        have hq1 : 1 ≤ q := by omega
        have hq2 : q ≤ (b :: r).length := by omega
        have hq3 : q - 1 ≤ r.length := by simp at hq2; omega
        have e : scanS (b :: r) i 0 acc = scanS (r.drop (q - 1)) (i + q) 0 (acc ++ [c]) := by
          rw [scanS, if_neg h1, if_neg h2, if_neg (fun h => h h3), he, if_neg h4, if_neg (by simp)]
          dsimp only
          rw [Int.toNat_natCast, scanS_skip _ _ _ _ hq3, show i + 1 + (q - 1) = i + q by omega]
        have ih := scan_place n (r.drop (q - 1)) (i + q) (acc ++ [c]) (by rw [List.length_drop]; omega)
        rw [← e] at ih
        rcases ih with ih | ⟨f, hf, hf1, hf2, hf3⟩
        · exact .inl ih
        · right
          rw [List.length_drop] at hf2
          refine ⟨f, hf, by omega, by simp; omega, ?_⟩
          have e2 : scanS ((b :: r).take (f - i)) i 0 acc = scanS ((r.drop (q - 1)).take (f - (i + q))) (i + q) 0 (acc ++ [c]) := by
            obtain ⟨g, hg⟩ : ∃ g, f - i = g + 1 := ⟨f - i - 1, by omega⟩
            have ht : (b :: r).take (f - i) = b :: r.take g := by rw [hg]; rfl
            have hesc := htk (f - i) rfl (by omega) (by simp)
            rw [ht] at hesc ⊢
            rw [scanS, if_neg h1, if_neg h2, if_neg (fun h => h h3), hesc, if_neg h4, if_neg (by simp)]
            dsimp only
            rw [Int.toNat_natCast, scanS_skip _ _ _ _ (by rw [List.length_take]; omega), show i + 1 + (q - 1) = i + q by omega, List.drop_take, show g - (q - 1) = f - (i + q) by omega]
          rw [e2]
          exact hf3
    · have e : scanS (b :: r) i 0 acc = scanS r (i + 1) 0 (acc ++ [(b.toNat : Int)]) := by rw [scanS, if_neg h1, if_neg h2, if_pos h3]
      have ih := scan_place n r (i + 1) (acc ++ [(b.toNat : Int)]) hr
      rw [← e] at ih
      rcases ih with ih | ⟨f, hf, hf1, hf2, hf3⟩
      · exact .inl ih
      · right
        refine ⟨f, hf, by omega, by simp; omega, ?_⟩
        have e2 : scanS ((b :: r).take (f - i)) i 0 acc = scanS (r.take (f - (i + 1))) (i + 1) 0 (acc ++ [(b.toNat : Int)]) := by
          obtain ⟨g, hg⟩ : ∃ g, f - i = g + 1 := ⟨f - i - 1, by omega⟩
          rw [hg, List.take_succ_cons, scanS, if_neg h1, if_neg h2, if_pos h3, show f - (i + 1) = g by omega]
        rw [e2]
        exact hf3
theorem place (s : List UInt8) (hs : s.length ≤ 65536) : ((parseE s).2.1 = 0 ∧ (parseE s).2.2 = 0) ∨ ∃ f : Nat, parseE s = ([], 3, (f : Int)) ∧ f ≤ s.length ∧ ((parseE (s.take f)).2 = (0, 0) ∨ (parseE (s.take f)).2 = (3, (f : Int))) := by
  by_cases h : s = [] ∨ btN s 0 ≠ 34
  · right
    refine ⟨0, by rw [parseE, if_neg (by omega), if_pos h]; rfl, Nat.zero_le _, .inr ?_⟩
    rw [List.take_zero]
    rfl
  · have e : parseE s = scanS (s.drop 1) 1 0 [] := by rw [parseE, if_neg (by omega), if_neg h]
    have hne : s ≠ [] := fun h' => h (.inl h')
    have hb : btN s 0 = 34 := by
      rcases Nat.decEq (btN s 0) 34 with h' | h'
      · exact absurd (.inr h') h
      · exact h'
    have hlen : 1 ≤ s.length := by cases s with | nil => exact absurd rfl hne | cons a b => simp
    rcases scan_place (s.drop 1).length (s.drop 1) 1 [] (Nat.le_refl _) with ih | ⟨f, hf, hf1, hf2, hf3⟩
    · left
      rw [e]
      exact ih
    · right
      rw [List.length_drop] at hf2
      refine ⟨f, by rw [e]; exact hf, by omega, ?_⟩
      have e2 : parseE (s.take f) = scanS ((s.drop 1).take (f - 1)) 1 0 [] := by
        have hno : ¬ (s.take f = [] ∨ btN (s.take f) 0 ≠ 34) := by
          rintro (h' | h')
          · have h1 : (s.take f).length = 0 := by rw [h']; rfl
            rw [List.length_take] at h1
            omega
          · rw [btN_take (by omega)] at h'
            exact h' hb
        rw [parseE, if_neg (by rw [List.length_take]; omega), if_neg hno, List.drop_take]
      rw [e2]
      exact hf3
end Go.Proofs.YtgkogbjlbcllmaaDoor
