/- Plain: the map of a valid charset is what the reference finds. -/
import Derived.Test.YthpiopjpipdgnaaDoorCs5
namespace Go.Proofs.YthpiopjpipdgnaaDoor

/-- the byte of a character, as the reference finds it -/
def byteF (zs : List Int) (x : Int) : Option Int := if byteL x zs 0 < 0 then none else some (byteL x zs 0)

theorem byteL_not_mem (x : Int) : ∀ (l : List Int) (i : Nat), (x ∉ l ∨ x < 0) → byteL x l i = -1
  | [], _, _ => rfl
  | z :: r, i, h => by
    have hz : ¬ (0 ≤ x ∧ z = x) := by
      rintro ⟨h1, h2⟩
      rcases h with h | h
      · exact h (by simp [h2])
      · omega
    rw [byteL, if_neg hz]
    exact byteL_not_mem x r (i + 1) (h.imp (fun h hm => h (by simp [hm])) id)
theorem byteL_ge (x : Int) : ∀ (l : List Int) (i : Nat), byteL x l i = -1 ∨ (i : Int) ≤ byteL x l i
  | [], _ => .inl rfl
  | z :: r, i => by
    unfold byteL
    split
    · exact .inr (Int.le_refl _)
    · rcases byteL_ge x r (i + 1) with h | h
      · exact .inl h
      · exact .inr (by omega)
theorem byteL_lt (x : Int) : ∀ (l : List Int) (i : Nat), byteL x l i < ((i + l.length : Nat) : Int)
  | [], i => by simp [byteL]; omega
  | z :: r, i => by
    unfold byteL
    split
    · simp; omega
    · have := byteL_lt x r (i + 1)
      simp only [List.length_cons]
      omega
theorem idxOf_other (x : Int) : ∀ (l : List Int) (i : Nat) (f : Int → Option Int), x ∉ l → idxOf l i f x = f x
  | [], _, _, _ => rfl
  | z :: r, i, f, h => by
    rw [idxOf, idxOf_other x r (i + 1) _ (fun hm => h (by simp [hm]))]
    have hz : ¬ x = z := fun e => h (by simp [e])
    split
    · rfl
    · simp [hz]
theorem idxOf_minus : ∀ (l : List Int) (i : Nat) (f : Int → Option Int), idxOf l i f (-1) = f (-1)
  | [], _, _ => rfl
  | z :: r, i, f => by
    rw [idxOf, idxOf_minus r (i + 1)]
    split
    · rfl
    · rename_i h
      simp [Ne.symm h]
def Dist : List Int → Prop
  | [] => True
  | z :: r => (0 ≤ z → z ∉ r) ∧ Dist r
theorem idxOf_dist (x : Int) (hx : 0 ≤ x) : ∀ (l : List Int) (i : Nat) (f : Int → Option Int), Dist l → x ∈ l → idxOf l i f x = some (byteL x l i)
  | [], _, _, _, h => by simp at h
  | z :: r, i, f, hd, h => by
    rw [idxOf, byteL]
    by_cases hz : z = x
    · subst hz
      have hn : ¬ z = -1 := by omega
      rw [if_neg hn, idxOf_other z r (i + 1) _ (hd.1 hx)]
      simp [hx]
    · rw [if_neg (show ¬ (0 ≤ x ∧ z = x) from fun h => hz h.2)]
      exact idxOf_dist x hx r (i + 1) _ hd.2 (by simpa [Ne.symm hz] using h)
theorem twice_dist (zs : List Int) : ∀ (l : List Int) (pre : List Int), zs = pre ++ l → twiceFrom zs l pre.length = false → Dist l ∧ ∀ z ∈ l, 0 ≤ z → z ∉ pre
  | [], _, _, _ => ⟨trivial, by simp⟩
  | z :: r, pre, e, h => by
    rw [twiceFrom, Bool.or_eq_false_iff] at h
    have e' : zs = (pre ++ [z]) ++ r := by rw [e]; simp
    obtain ⟨hd, hp⟩ := twice_dist zs r (pre ++ [z]) e' (by rw [List.length_append]; exact h.2)
    have hz : 0 ≤ z → z ∉ pre := by
      intro h0 hm
      have h1 := (byteL_mem z h0 zs 0 pre.length).2.2 (by rw [e]; simp)
      have h2 : zs.take pre.length = pre := by rw [e]; simp
      rw [h2] at h1
      have h3 := h1.2 hm
      have h4 := h.1
      simp only [Nat.zero_add] at h3
      simp [h0, h3] at h4
    refine ⟨⟨fun h0 hm => (hp z hm h0) (by simp), hd⟩, fun y hy h0 => ?_⟩
    rcases List.mem_cons.1 hy with rfl | hy
    · exact hz h0
    · intro hm
      exact hp y hy h0 (by simp [hm])
theorem idxF_eq {zs : List Int} (h : checkC zs = 0) : idxF zs = byteF zs := by
  obtain ⟨hn, hr, ht⟩ := codes_of_check h
  obtain ⟨hd, _⟩ := twice_dist zs zs [] rfl ht
  have hc := codes_ok hr
  funext x
  unfold byteF idxF
  by_cases hm : x ∈ zs
  · rcases hc x hm with rfl | ⟨h0, _⟩
    · rw [idxOf_minus, byteL_not_mem (-1) zs 0 (.inr (by omega))]
      rfl
    · rw [idxOf_dist x h0 zs 0 _ hd hm]
      have := (byteL_mem x h0 zs 0 0).2.1 hm
      rw [if_neg (by omega)]
  · rw [idxOf_other x zs 0 _ hm, byteL_not_mem x zs 0 (.inl hm)]
    rfl
theorem byteF_some {zs : List Int} {x : Int} (h : ¬ byteL x zs 0 < 0) : byteF zs x = some (byteL x zs 0) := by rw [byteF, if_neg h]
theorem byteF_none {zs : List Int} {x : Int} (h : byteL x zs 0 < 0) : byteF zs x = none := by rw [byteF, if_pos h]
end Go.Proofs.YthpiopjpipdgnaaDoor
