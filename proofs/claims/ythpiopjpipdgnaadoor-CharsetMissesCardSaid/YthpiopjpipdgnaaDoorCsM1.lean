/- CharsetMisses: the plain law (sorted without repetitions), and slices.Sort and slices.Compact of a slice of the call's own. -/
import Derived.Test.YthpiopjpipdgnaaDoorCs17
import Derived.Test.YthpiopjpipdgnaaDoorCs9
import Derived.Sort.OwnSorted
import Derived.Lib.RowBridge
namespace Go.Proofs.YthpiopjpipdgnaaDoor
open Go.RowKit Go.Sort

/-- x put into an ascending list, once -/
def insU (x : Int) : List Int → List Int
  | [] => [x]
  | y :: r => if y < x then y :: insU x r else if y = x then y :: r else x :: y :: r
def missFrom (f : Int → Option Int) : List Int → List Int → List Int
  | [], acc => acc
  | x :: r, acc => missFrom f r (if (f x).isSome then acc else insU x acc)
def missR (zs text : List Int) : List Int := if checkC zs ≠ 0 then [] else missFrom (byteF zs) text []
def Asc (l : List Int) : Prop := l.Pairwise fun a b => a < b

theorem mem_insU (x y : Int) : ∀ l, y ∈ insU x l ↔ y = x ∨ y ∈ l
  | [] => by simp [insU]
  | z :: r => by
    unfold insU
    split
    · rw [List.mem_cons, mem_insU x y r, List.mem_cons]
      constructor <;> (intro h; rcases h with h | h | h <;> simp [h])
    · split
      · rename_i h1 h2
        constructor
        · intro h; exact .inr h
        · intro h; rcases h with h | h
          · simp [h, h2]
          · exact h
      · simp
theorem asc_insU (x : Int) : ∀ l, Asc l → Asc (insU x l)
  | [], _ => by simp [insU, Asc]
  | z :: r, h => by
    have h' := List.pairwise_cons.1 h
    unfold insU
    split
    · refine List.pairwise_cons.2 ⟨fun y hy => ?_, asc_insU x r h'.2⟩
      rcases (mem_insU x y r).1 hy with h1 | h1
      · omega
      · exact h'.1 y h1
    · split
      · exact h
      · refine List.pairwise_cons.2 ⟨fun y hy => ?_, h⟩
        rcases List.mem_cons.1 hy with h1 | h1
        · omega
        · have := h'.1 y h1; omega
theorem missFrom_mem (f : Int → Option Int) (y : Int) : ∀ (t acc : List Int), y ∈ missFrom f t acc ↔ y ∈ acc ∨ (y ∈ t ∧ (f y).isSome = false)
  | [], acc => by simp [missFrom]
  | x :: r, acc => by
    rw [missFrom, missFrom_mem f y r]
    cases hx : (f x).isSome
    · rw [if_neg (by simp), mem_insU, List.mem_cons]
      constructor
      · rintro ((h | h) | h)
        · exact .inr ⟨.inl h, by rw [h]; exact hx⟩
        · exact .inl h
        · exact .inr ⟨.inr h.1, h.2⟩
      · rintro (h | ⟨h | h, h2⟩)
        · exact .inl (.inr h)
        · exact .inl (.inl h)
        · exact .inr ⟨h, h2⟩
    · rw [if_pos rfl, List.mem_cons]
      constructor
      · rintro (h | h)
        · exact .inl h
        · exact .inr ⟨.inr h.1, h.2⟩
      · rintro (h | ⟨h | h, h2⟩)
        · exact .inl h
        · rw [h, hx] at h2; cases h2
        · exact .inr ⟨h, h2⟩
theorem missFrom_asc (f : Int → Option Int) : ∀ (t acc : List Int), Asc acc → Asc (missFrom f t acc)
  | [], _, h => h
  | x :: r, acc, h => by
    rw [missFrom]
    refine missFrom_asc f r _ ?_
    split
    · exact h
    · exact asc_insU x acc h
theorem asc_ext : ∀ {a b : List Int}, Asc a → Asc b → (∀ x, x ∈ a ↔ x ∈ b) → a = b
  | [], [], _, _, _ => rfl
  | [], y :: s, _, _, h => by have := (h y).2 (by simp); cases this
  | x :: r, [], _, _, h => by have := (h x).1 (by simp); cases this
  | x :: r, y :: s, ha, hb, h => by
    have ha' := List.pairwise_cons.1 ha
    have hb' := List.pairwise_cons.1 hb
    have exy : x = y := by
      rcases List.mem_cons.1 ((h x).1 (by simp)) with e | e
      · exact e
      · rcases List.mem_cons.1 ((h y).2 (by simp)) with e2 | e2
        · exact e2.symm
        · have h1 := hb'.1 x e; have h2 := ha'.1 y e2; omega
    subst exy
    congr 1
    refine asc_ext ha'.2 hb'.2 fun z => ⟨fun hz => ?_, fun hz => ?_⟩
    · rcases List.mem_cons.1 ((h z).1 (by simp [hz])) with e | e
      · have := ha'.1 z hz; omega
      · exact e
    · rcases List.mem_cons.1 ((h z).2 (by simp [hz])) with e | e
      · have := hb'.1 z hz; omega
      · exact e
theorem insU_len (x : Int) : ∀ l, (insU x l).length ≤ l.length + 1
  | [] => by simp [insU]
  | z :: r => by
    have := insU_len x r
    unfold insU
    split
    · simp; omega
    · split <;> simp
/-- Compact of an ascending list (repetitions beside each other) -/
theorem compact_sorted (d : Array Int) (hd : ∀ i j, i < j → j < d.size → d[i]! ≤ d[j]!) : ∀ m, m ≤ d.size → Asc (Lib.compactUpTo d m) ∧ (∀ x, x ∈ Lib.compactUpTo d m ↔ ∃ k, k < m ∧ d[k]! = x)
  | 0, _ => by simp [Lib.compactUpTo, Asc]
  | m + 1, hm => by
    obtain ⟨h1, h2⟩ := compact_sorted d hd m (by omega)
    rw [Lib.compactUpTo_succ]
    cases hk : Lib.keeps d m
    · have hm0 : 0 < m ∧ d[m]! = d[m - 1]! := by
        unfold Lib.keeps at hk
        have := of_decide_eq_false hk
        constructor
        · refine Nat.pos_of_ne_zero fun e => this (.inl e)
        · refine Decidable.byContradiction fun e => this (.inr e)
      rw [if_neg (by simp), List.append_nil]
      refine ⟨h1, fun x => ?_⟩
      rw [h2 x]
      constructor
      · rintro ⟨k, a, b⟩; exact ⟨k, by omega, b⟩
      · rintro ⟨k, a, b⟩
        by_cases e : k = m
        · exact ⟨m - 1, by omega, by rw [← hm0.2, ← e, b]⟩
        · exact ⟨k, by omega, b⟩
    · have hm0 : m = 0 ∨ d[m]! ≠ d[m - 1]! := by unfold Lib.keeps at hk; exact of_decide_eq_true hk
      rw [if_pos rfl]
      refine ⟨List.pairwise_append.2 ⟨h1, List.pairwise_singleton _ _, fun a ha b hb => ?_⟩, fun x => ?_⟩
      · obtain ⟨k, k1, k2⟩ := (h2 a).1 ha
        obtain rfl : b = d[m]! := by simpa using hb
        have h3 := hd k m k1 (by omega)
        rcases hm0 with e | e
        · omega
        · have h4 : d[k]! ≤ d[m - 1]! := by
            by_cases e2 : k = m - 1
            · rw [e2]; exact Int.le_refl _
            · exact hd k (m - 1) (by omega) (by omega)
          have h5 := hd (m - 1) m (by omega) (by omega)
          omega
      · rw [List.mem_append, h2 x]
        constructor
        · rintro (⟨k, a, b⟩ | h)
          · exact ⟨k, by omega, b⟩
          · exact ⟨m, by omega, (List.mem_singleton.1 h).symm⟩
        · rintro ⟨k, a, b⟩
          by_cases e : k = m
          · right; simp [← b, e]
          · exact .inl ⟨k, by omega, b⟩
theorem sort_compact (l : List Int) : Asc (Lib.compact (l.mergeSort fun x y => decide (x ≤ y))) ∧ ∀ x, x ∈ Lib.compact (l.mergeSort fun x y => decide (x ≤ y)) ↔ x ∈ l := by
  have hs : (l.mergeSort fun x y => decide (x ≤ y)).Pairwise fun a b => a ≤ b := by
    have := List.pairwise_mergeSort (le := fun x y : Int => decide (x ≤ y)) (by intro a b c; simp; omega) (by intro a b; simp; omega) l
    exact this.imp fun h => of_decide_eq_true h
  have hp := List.mergeSort_perm l (fun x y => decide (x ≤ y))
  generalize (l.mergeSort fun x y => decide (x ≤ y)) = s at hs hp
  have hg : ∀ k, k < s.length → s.toArray[k]! = s[k]! := fun k _ => by simp
  obtain ⟨h1, h2⟩ := compact_sorted s.toArray (fun i j hij hj => by
    have hj' : j < s.length := by simpa using hj
    have := List.pairwise_iff_getElem.1 hs i j (by omega) hj' hij
    simpa [getElem!_pos, hj', show i < s.length by omega] using this) s.length (by simp)
  refine ⟨h1, fun x => ?_⟩
  rw [← hp.mem_iff]
  refine (h2 x).trans ⟨?_, fun hx => ?_⟩
  · rintro ⟨k, hk, rfl⟩
    rw [hg k hk, getElem!_pos s k hk]
    exact List.getElem_mem hk
  · obtain ⟨k, hk, rfl⟩ := List.getElem_of_mem hx
    exact ⟨k, hk, by rw [hg k hk, getElem!_pos s k hk]⟩
theorem miss_sorted {zs text : List Int} (hc : checkC zs = 0) : Lib.compact ((text.filter fun x => !(byteF zs x).isSome).mergeSort fun x y => decide (x ≤ y)) = missR zs text := by
  obtain ⟨h1, h2⟩ := sort_compact (text.filter fun x => !(byteF zs x).isSome)
  have e : missR zs text = missFrom (byteF zs) text [] := by simp [missR, hc]
  rw [e]
  refine asc_ext h1 (missFrom_asc _ _ _ List.Pairwise.nil) fun x => ?_
  rw [h2 x, missFrom_mem]
  simp
theorem missFrom_len (f : Int → Option Int) : ∀ (t acc : List Int), (missFrom f t acc).length ≤ acc.length + t.length
  | [], _ => by simp [missFrom]
  | x :: r, acc => by
    have h1 := missFrom_len f r (if (f x).isSome then acc else insU x acc)
    have h2 := insU_len x acc
    rw [missFrom]
    split at h1 <;> rename_i hx <;> simp only [hx, if_true, if_false, List.length_cons] at h1 ⊢ <;> simp at * <;> omega
end Go.Proofs.YthpiopjpipdgnaaDoor
