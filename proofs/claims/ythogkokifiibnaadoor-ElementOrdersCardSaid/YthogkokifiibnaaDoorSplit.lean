/- Cutting a string at a byte, and splitting it: plain laws that join the library's words to simple recursions. No program in sight. -/
import Derived.Test.YthogkokifiibnaaDoorBase
import Derived.Lib.Split
import Derived.Lib.SplitLaws
namespace Go.Proofs.YthogkokifiibnaaDoor

def cutB (c : UInt8) : List UInt8 → Option (List UInt8 × List UInt8)
  | [] => none
  | b :: l => if b = c then some ([], l) else (cutB c l).map fun p => (b :: p.1, p.2)
/-- the pieces between the bytes c -/
def splitL (c : UInt8) : List UInt8 → List (List UInt8)
  | [] => [[]]
  | b :: l => if b = c then [] :: splitL c l else match splitL c l with | p :: ps => (b :: p) :: ps | [] => [[b]]

theorem splitL_ne (c : UInt8) : ∀ l, splitL c l ≠ []
  | [] => by simp [splitL]
  | b :: l => by
    unfold splitL
    split
    · simp
    · split <;> simp
theorem cutB_some {c : UInt8} : ∀ {l a r : List UInt8}, cutB c l = some (a, r) → l = a ++ c :: r ∧ c ∉ a
  | [], _, _, h => by simp [cutB] at h
  | b :: l, a, r, h => by
    unfold cutB at h
    split at h
    · rename_i hb
      cases h
      exact ⟨by simp [hb], by simp⟩
    · rename_i hb
      cases hc : cutB c l with
      | none => rw [hc] at h; simp at h
      | some p =>
        obtain ⟨a', r'⟩ := p
        rw [hc] at h
        simp at h
        obtain ⟨rfl, rfl⟩ := h
        obtain ⟨e, hn⟩ := cutB_some hc
        exact ⟨by rw [e]; rfl, by simp [hn, Ne.symm hb]⟩
theorem cutB_none {c : UInt8} : ∀ {l : List UInt8}, cutB c l = none ↔ c ∉ l
  | [] => by simp [cutB]
  | b :: l => by
    unfold cutB
    split
    · rename_i hb; simp [hb]
    · rename_i hb
      simp [cutB_none (l := l), Ne.symm hb]
theorem index_cut (c : UInt8) : ∀ l, Lib.index l [c] = match cutB c l with | some p => (p.1.length : Int) | none => -1
  | [] => by simp [Lib.index, cutB]
  | b :: l => by
    unfold Lib.index cutB
    rw [index_cut c l]
    by_cases hb : b = c
    · simp [hb, List.isPrefixOf]
    · have hp : ([c] : List UInt8).isPrefixOf (b :: l) = false := by simp [List.isPrefixOf, Ne.symm hb]
      rw [hp, if_neg hb]
      cases hc : cutB c l with
      | none => simp
      | some p => simp
theorem lib_cut (c : UInt8) (l : List UInt8) : Lib.cut l [c] = match cutB c l with | some p => (p.1, p.2, true) | none => (l, [], false) := by
  unfold Lib.cut
  rw [index_cut]
  cases hc : cutB c l with
  | none => simp
  | some p =>
    obtain ⟨a, r⟩ := p
    obtain ⟨e, _⟩ := cutB_some hc
    simp [e]
theorem splitL_hit (c : UInt8) (l : List UInt8) : splitL c (c :: l) = [] :: splitL c l := by rw [splitL, if_pos rfl]
theorem splitL_miss {b c : UInt8} (hb : ¬ b = c) (l : List UInt8) : splitL c (b :: l) = match splitL c l with | p :: ps => (b :: p) :: ps | [] => [[b]] := by rw [splitL, if_neg hb]
theorem splitL_cut (c : UInt8) : ∀ l, splitL c l = match cutB c l with | some p => p.1 :: splitL c p.2 | none => [l]
  | [] => by simp [splitL, cutB]
  | b :: l => by
    by_cases hb : b = c
    · subst hb
      rw [splitL_hit, cutB, if_pos rfl]
    · rw [splitL_miss hb, cutB, if_neg hb, splitL_cut c l]
      cases hc : cutB c l <;> rfl
theorem splitK_one (c : UInt8) : ∀ (n : Nat) (l : List UInt8), l.length ≤ n → Lib.splitK [c] 0 (l.count c) l = splitL c l
  | 0, l, h => by
    have : l = [] := List.eq_nil_of_length_eq_zero (by omega)
    subst this
    simp [Lib.splitK, splitL]
  | n + 1, l, h => by
    rw [splitL_cut]
    cases hc : cutB c l with
    | none =>
      have hn := cutB_none.1 hc
      rw [List.count_eq_zero.2 hn]
      rfl
    | some p =>
      obtain ⟨a, r⟩ := p
      obtain ⟨e, hn⟩ := cutB_some hc
      have hcount : l.count c = r.count c + 1 := by rw [e, List.count_append, List.count_eq_zero.2 hn, List.count_cons_self]; omega
      have hi : Lib.index l [c] = (a.length : Int) := by rw [index_cut, hc]
      have hlen : r.length ≤ n := by rw [e] at h; simp at h; omega
      rw [hcount, Lib.splitK, hi, if_neg (by simp)]
      simp only [Int.toNat_natCast, List.length_singleton, Nat.add_zero]
      rw [e, List.take_left' rfl, List.drop_append, List.drop_of_length_le (by omega)]
      simp
      exact splitK_one c n r hlen
theorem splitB_one (c : UInt8) (l : List UInt8) : ((Lib.splitB ⟨#[c]⟩ 0 (Lib.countB ⟨l.toArray⟩ ⟨#[c]⟩) ⟨l.toArray⟩).map Value.string) = (splitL c l).map fun p => Value.string ⟨p.toArray⟩ := by
  have h := Lib.splitB_data ⟨#[c]⟩ 0 (Lib.countB ⟨l.toArray⟩ ⟨#[c]⟩) ⟨l.toArray⟩
  have hc : Lib.countB ⟨l.toArray⟩ ⟨#[c]⟩ = l.count c := Lib.count_one c l
  rw [hc] at h ⊢
  have h' := h.trans (splitK_one c l.length l (Nat.le_refl _))
  rw [← h', List.map_map]
  apply List.map_congr_left
  intro s _
  rfl
theorem splitL_length (c : UInt8) : ∀ l, (splitL c l).length = l.count c + 1
  | [] => by simp [splitL]
  | b :: l => by
    have ih := splitL_length c l
    by_cases hb : b = c
    · subst hb
      rw [splitL_hit, List.length_cons, ih, List.count_cons_self]
    · have hc : (b :: l).count c = l.count c := List.count_cons_of_ne hb
      rw [splitL_miss hb, hc, ← ih]
      cases hs : splitL c l with
      | nil => exact absurd hs (splitL_ne c l)
      | cons p ps => rfl
end Go.Proofs.YthogkokifiibnaaDoor
