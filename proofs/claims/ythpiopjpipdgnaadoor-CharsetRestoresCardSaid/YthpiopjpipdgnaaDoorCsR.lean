/- CharsetRestores, the plain law: Parse of the lines of Text, in whatever order, is the charset. -/
import Derived.Test.YthpiopjpipdgnaaDoorCs16
import Derived.Test.YthpiopjpipdgnaaDoorCs14
namespace Go.Proofs.YthpiopjpipdgnaaDoor
open Go.RowKit Go.Sort

theorem digit_byte (k : Nat) (hk : k < 16) : ((UInt8.ofNat (hexC k)).toNat : Int) = hexC k ∧ hexVal ((UInt8.ofNat (hexC k)).toNat : Int) = k := by
  have h1 := hexC_le k hk
  have e : (UInt8.ofNat (hexC k)).toNat = hexC k := by rw [UInt8.toNat_ofNat']; omega
  rw [e]
  exact ⟨rfl, hexVal_hit hk rfl⟩
theorem digit_ne (k : Nat) (hk : k < 16) : UInt8.ofNat (hexC k) ≠ 10 := by
  intro h
  have h1 := hexC_le k hk
  have h2 := (digit_byte k hk).1
  rw [h] at h2
  have : ((10 : UInt8).toNat : Int) = 10 := rfl
  omega
theorem hexN_ne : ∀ n c, (10 : UInt8) ∉ hexN n c
  | 0, _ => by simp [hexN]
  | n + 1, c => by
    have := hexN_ne n (c / 16)
    have h2 := digit_ne (c % 16) (by omega)
    simp [hexN, this, Ne.symm h2]
theorem hexL_ne (c : Int) : (10 : UInt8) ∉ hexL c := by
  unfold hexL
  split
  · exact hexN_ne _ _
  · simp
theorem numL_app : ∀ (l : List UInt8) (b : UInt8) (acc : Int), numL (l ++ [b]) acc = match numL l acc with | none => none | some c => if hexVal (b.toNat : Int) < 0 then none else some (c * 16 + hexVal (b.toNat : Int))
  | [], b, acc => by simp [numL]
  | a :: r, b, acc => by
    rw [List.cons_append, numL, numL]
    split
    · rfl
    · exact numL_app r b _
theorem numL_hexN : ∀ (n c : Nat), c < 16 ^ n → numL (hexN n c) 0 = some (c : Int)
  | 0, c, h => by simp at h; subst h; rfl
  | n + 1, c, h => by
    have h1 : c / 16 < 16 ^ n := by rw [Nat.pow_succ] at h; omega
    have h2 := (digit_byte (c % 16) (by omega)).2
    rw [hexN, numL_app, numL_hexN n (c / 16) h1]
    dsimp only
    rw [h2, if_neg (by omega)]
    congr 1
    omega
theorem parse_hex {x : Int} (h0 : 0 ≤ x) (h1 : x ≤ 1114111) : parseCp (hexL x) = some x := by
  obtain ⟨n, rfl⟩ := Int.eq_ofNat_of_zero_le h0
  have e : hexL (n : Int) = hexN (hexLen n) n := by simp [hexL]; omega
  have hl : 4 ≤ hexLen n ∧ hexLen n ≤ 6 ∧ n < 16 ^ hexLen n := by
    unfold hexLen
    split
    · exact ⟨by omega, by omega, by omega⟩
    · split
      · exact ⟨by omega, by omega, by omega⟩
      · exact ⟨by omega, by omega, by omega⟩
  unfold parseCp
  rw [e, hexN_length, if_neg (by omega), numL_hexN _ _ hl.2.2]
  dsimp only
  rw [if_pos e]

/-- a line without its line feed -/
def line0 (p : Nat × Int) : List UInt8 := hexB p.1 ++ [32] ++ hexL p.2
theorem line0_ne (p : Nat × Int) (h : p.1 < 256) : (10 : UInt8) ∉ line0 p ∧ line0 p ≠ [] := by
  have h1 := digit_ne (p.1 / 16) (by omega)
  have h2 := digit_ne (p.1 % 16) (by omega)
  have h3 := hexL_ne p.2
  simp [line0, hexB, Ne.symm h1, Ne.symm h2, h3]
theorem line0_len (p : Nat × Int) : (line0 p).length ≤ 9 := by
  have := hexL_length_le p.2
  simp [line0, hexB]; omega
theorem lineP_line0 {p : Nat × Int} (h : p.1 < 256) (hs : scalarB p.2 = true) : lineP (line0 p) = some ((p.1 : Int), p.2) := by
  obtain ⟨i, x⟩ := p
  obtain ⟨h0, h1⟩ := scalar_range hs
  have d1 := (digit_byte (i / 16) (by dsimp only at h; omega)).2
  have d2 := (digit_byte (i % 16) (by omega)).2
  show lineP (UInt8.ofNat (hexC (i / 16)) :: UInt8.ofNat (hexC (i % 16)) :: 32 :: hexL x) = _
  rw [lineP, d1, d2, if_pos ⟨by omega, by omega, rfl⟩, parse_hex h0 h1]
  dsimp only at hs ⊢
  rw [if_pos hs]
  congr 2
  omega
/-- the bytes with a character, and their characters -/
def ents : List Int → Nat → List (Nat × Int)
  | [], _ => []
  | z :: r, i => if z = -1 then ents r (i + 1) else (i, z) :: ents r (i + 1)
theorem ents_mem : ∀ (l : List Int) (i : Nat) (p : Nat × Int), p ∈ ents l i ↔ ∃ k, k < l.length ∧ p = (i + k, nth l k) ∧ nth l k ≠ -1
  | [], i, p => by simp [ents]
  | z :: r, i, p => by
    have ih := ents_mem r (i + 1) p
    have key : (∃ k, k < (z :: r).length ∧ p = (i + k, nth (z :: r) k) ∧ nth (z :: r) k ≠ -1) ↔ ((p = (i, z) ∧ z ≠ -1) ∨ ∃ k, k < r.length ∧ p = (i + 1 + k, nth r k) ∧ nth r k ≠ -1) := by
      constructor
      · rintro ⟨k, h1, h2, h3⟩
        cases k with
        | zero => exact .inl ⟨h2, h3⟩
        | succ k => exact .inr ⟨k, by simpa using h1, by rw [h2]; exact Prod.ext (by show i + (k + 1) = i + 1 + k; omega) rfl, h3⟩
      · rintro (⟨h1, h2⟩ | ⟨k, h1, h2, h3⟩)
        · exact ⟨0, by simp, h1, h2⟩
        · exact ⟨k + 1, by simpa using h1, by rw [h2]; exact Prod.ext (by show i + 1 + k = i + (k + 1); omega) rfl, h3⟩
    rw [key, ← ih, ents]
    by_cases hz : z = -1
    · rw [if_pos hz]; simp [hz]
    · rw [if_neg hz]; simp [hz]
theorem ents_dist : ∀ (l : List Int) (i : Nat), Dist l → Codes l → (ents l i).Pairwise fun a b => a.1 ≠ b.1 ∧ a.2 ≠ b.2
  | [], _, _, _ => List.Pairwise.nil
  | z :: r, i, hd, hc => by
    have ih := ents_dist r (i + 1) hd.2 (fun y hy => hc y (by simp [hy]))
    unfold ents
    split
    · exact ih
    · rename_i hz
      refine List.pairwise_cons.2 ⟨fun p hp => ?_, ih⟩
      obtain ⟨k, h1, rfl, h3⟩ := (ents_mem r (i + 1) p).1 hp
      refine ⟨by dsimp only; omega, fun e => ?_⟩
      have h0 : 0 ≤ z := by rcases hc z (by simp) with h | h; exact absurd h hz; exact h.1
      exact hd.1 h0 (by dsimp only at e; rw [e]; exact nth_mem h1)
def applyL (cs : List Int) (L : List (Nat × Int)) : List Int := L.foldl (fun c p => c.set p.1 p.2) cs
theorem nth_set (cs : List Int) (i k : Nat) (x : Int) (h : i < cs.length) : nth (cs.set i x) k = if k = i then x else nth cs k := by
  unfold nth
  rw [List.getD_eq_getElem?_getD, List.getD_eq_getElem?_getD, List.getElem?_set]
  by_cases e : i = k
  · subst e; simp [h]
  · rw [if_neg e, if_neg (fun h => e h.symm)]
theorem apply_len : ∀ (L : List (Nat × Int)) (cs : List Int), (applyL cs L).length = cs.length
  | [], _ => rfl
  | p :: L, cs => by
    have := apply_len L (cs.set p.1 p.2)
    simp [applyL] at this ⊢
    exact this
theorem apply_nth (zs : List Int) (k : Nat) : ∀ (L : List (Nat × Int)) (cs : List Int), (∀ p ∈ L, p.1 < cs.length ∧ nth zs p.1 = p.2) → (nth cs k = nth zs k ∨ (k, nth zs k) ∈ L) → nth (applyL cs L) k = nth zs k
  | [], cs, _, h => by rcases h with h | h; exact h; cases h
  | p :: L, cs, hp, h => by
    have hp0 := hp p (by simp)
    refine apply_nth zs k L (cs.set p.1 p.2) (fun q hq => ⟨by rw [List.length_set]; exact (hp q (by simp [hq])).1, (hp q (by simp [hq])).2⟩) ?_
    rw [nth_set _ _ _ _ hp0.1]
    by_cases e : k = p.1
    · left; rw [if_pos e, e, hp0.2]
    · rw [if_neg e]
      rcases h with h | h
      · exact .inl h
      · rcases List.mem_cons.1 h with h | h
        · exact absurd (congrArg Prod.fst h) e
        · exact .inr h
theorem nth_rep (n k : Nat) : nth (List.replicate n (-1 : Int)) k = -1 ∨ n ≤ k := by
  by_cases hk : k < n
  · left; rw [nth_lt (by rw [List.length_replicate]; exact hk), List.getElem_replicate]
  · right; omega
theorem parse_all : ∀ (ps : List (List UInt8)) (i : Nat) (cs : List Int) (L : List (Nat × Int)), cs.length = 256 → ps.filter (fun p => !p.isEmpty) = L.map line0 → L.Pairwise (fun a b => a.1 ≠ b.1 ∧ a.2 ≠ b.2) →
    (∀ p ∈ L, p.1 < 256 ∧ scalarB p.2 = true ∧ nth cs p.1 = -1 ∧ p.2 ∉ cs) → parseFrom ps i cs = (some (applyL cs L), 0, 0)
  | [], i, cs, L, _, hf, _, _ => by
    cases L with
    | nil => rfl
    | cons p L => simp at hf
  | p :: ps, i, cs, L, hl, hf, hd, hp => by
    unfold parseFrom
    by_cases he : p = []
    · rw [if_pos he]
      refine parse_all ps (i + 1) cs L hl ?_ hd hp
      rw [← hf, he]; rfl
    · rw [if_neg he]
      have hne : p.isEmpty = false := by cases p with | nil => exact absurd rfl he | cons a b => rfl
      rw [List.filter_cons, hne] at hf
      cases L with
      | nil => simp at hf
      | cons q L =>
        have hf' : p :: ps.filter (fun p => !p.isEmpty) = line0 q :: L.map line0 := hf
        injection hf' with h1 h2
        obtain ⟨q1, q2, q3, q4⟩ := hp q (by simp)
        rw [h1, lineP_line0 q1 q2]
        dsimp only
        rw [Int.toNat_natCast, if_neg (by simp [q3, q4])]
        have hd' := List.pairwise_cons.1 hd
        refine parse_all ps (i + 1) (cs.set q.1 q.2) L (by simpa using hl) h2 hd'.2 (fun r hr => ?_)
        obtain ⟨r1, r2, r3, r4⟩ := hp r (by simp [hr])
        obtain ⟨d1, d2⟩ := hd'.1 r hr
        refine ⟨r1, r2, ?_, fun hm => ?_⟩
        · rw [nth_set _ _ _ _ (by omega), if_neg (Ne.symm d1)]; exact r3
        · rcases List.mem_or_eq_of_mem_set hm with h | h
          · exact r4 h
          · exact d2 h.symm

theorem splitL_none {c : UInt8} {l : List UInt8} (h : c ∉ l) : splitL c l = [l] := by rw [splitL_cut, cutB_none.2 h]
theorem splitL_app {c : UInt8} : ∀ {a : List UInt8} (_ : c ∉ a) (r : List UInt8), splitL c (a ++ c :: r) = a :: splitL c r
  | [], _, r => splitL_hit c r
  | b :: a, h, r => by
    have hb : ¬ b = c := fun e => h (by simp [e])
    rw [List.cons_append, splitL_miss hb, splitL_app (fun hm => h (by simp [hm])) r]
theorem split_text : ∀ (l : List Int) (i : Nat), i + l.length ≤ 256 → splitL 10 (textFrom l i) = (ents l i).map line0 ++ [[]]
  | [], _, _ => rfl
  | z :: r, i, h => by
    simp only [List.length_cons] at h
    have ih := split_text r (i + 1) (by omega)
    unfold textFrom ents
    by_cases hz : z = -1
    · rw [if_pos hz, if_pos hz]; exact ih
    · rw [if_neg hz, if_neg hz]
      have e : lineL i z ++ textFrom r (i + 1) = line0 (i, z) ++ 10 :: textFrom r (i + 1) := by simp [lineL, line0]
      rw [e, splitL_app (line0_ne (i, z) (by dsimp only; omega)).1, ih]
      rfl
/-- the lines of a list, each behind a line feed -/
def turnR : List (List UInt8) → List UInt8
  | [] => []
  | q :: qs => 10 :: q ++ turnR qs
theorem split_turn1 : ∀ (q : List UInt8) (qs : List (List UInt8)), (∀ p ∈ q :: qs, (10 : UInt8) ∉ p) → splitL 10 (q ++ turnR qs) = q :: qs
  | q, [], h => by rw [turnR, List.append_nil]; exact splitL_none (h q (by simp))
  | q, p :: qs, h => by
    rw [turnR, List.cons_append, splitL_app (h q (by simp)), split_turn1 p qs (fun r hr => h r (List.mem_cons_of_mem _ hr))]
theorem split_turn (qs : List (List UInt8)) (h : ∀ p ∈ qs, (10 : UInt8) ∉ p) : splitL 10 (turnR qs) = [] :: qs := by
  cases qs with
  | nil => rfl
  | cons q qs => rw [turnR, List.cons_append, splitL_hit, split_turn1 q qs h]
theorem turnR_len {m : Nat} : ∀ qs : List (List UInt8), (∀ p ∈ qs, p.length ≤ m) → (turnR qs).length ≤ (m + 1) * qs.length
  | [], _ => by simp [turnR]
  | q :: qs, h => by
    have h1 := turnR_len qs (fun p hp => h p (by simp [hp]))
    have h2 := h q (by simp)
    simp only [turnR, List.length_append, List.length_cons]
    rw [Nat.mul_add]
    omega
theorem ents_len : ∀ (l : List Int) (i : Nat), (ents l i).length ≤ l.length
  | [], _ => by simp [ents]
  | z :: r, i => by
    have := ents_len r (i + 1)
    unfold ents
    split <;> simp <;> omega
theorem textFrom_len : ∀ (l : List Int) (i : Nat), (textFrom l i).length ≤ 10 * l.length
  | [], _ => by simp [textFrom]
  | z :: r, i => by
    have h1 := textFrom_len r (i + 1)
    have h2 := lineL_le i z
    unfold textFrom
    split <;> simp <;> omega
theorem filter_lines (L : List (Nat × Int)) (h : ∀ p ∈ L, p.1 < 256) : (L.map line0).filter (fun p => !p.isEmpty) = L.map line0 := by
  rw [List.filter_eq_self]
  intro a ha
  obtain ⟨p, hp, rfl⟩ := List.mem_map.1 ha
  have := (line0_ne p (h p hp)).2
  cases hl : line0 p with
  | nil => exact absurd hl this
  | cons a b => rfl

theorem restore {zs : List Int} (hc : checkC zs = 0) : parseC (textFrom zs 0) = (some zs, 0, 0) ∧ parseC (turnR (splitL 10 (textFrom zs 0)).reverse) = (some zs, 0, 0) ∧ (turnR (splitL 10 (textFrom zs 0)).reverse).length ≤ 3000 := by
  obtain ⟨hn, hr, ht⟩ := codes_of_check hc
  obtain ⟨hd, _⟩ := twice_dist zs zs [] rfl ht
  have hco := codes_ok hr
  have hs := split_text zs 0 (by omega)
  have hlen := textFrom_len zs 0
  have hel := ents_len zs 0
  have hpw := ents_dist zs 0 hd hco
  have hme : ∀ p ∈ ents zs 0, p.1 < 256 ∧ scalarB p.2 = true ∧ nth zs p.1 = p.2 ∧ p.2 ≠ -1 := by
    intro p hp
    obtain ⟨k, h1, rfl, h3⟩ := (ents_mem zs 0 p).1 hp
    rcases wf_of_range hr _ (nth_mem h1) with h | h
    · exact absurd h h3
    · exact ⟨by dsimp only; omega, h.2.2, by dsimp only; rw [Nat.zero_add], h3⟩
  have hnr := nth_rep 256
  have hrl : (List.replicate 256 (-1 : Int)).length = 256 := List.length_replicate
  have key : ∀ (ps : List (List UInt8)) (L : List (Nat × Int)), ps.filter (fun p => !p.isEmpty) = L.map line0 → L.Pairwise (fun a b => a.1 ≠ b.1 ∧ a.2 ≠ b.2) → (∀ p, p ∈ L ↔ p ∈ ents zs 0) → parseFrom ps 0 (List.replicate 256 (-1)) = (some zs, 0, 0) := by
    intro ps L hf hp hm
    rw [parse_all ps 0 (List.replicate 256 (-1)) L hrl hf hp (fun p hpL => by
      obtain ⟨h1, h2, _, h4⟩ := hme p ((hm p).1 hpL)
      refine ⟨h1, h2, ?_, fun h => h4 (List.eq_of_mem_replicate h)⟩
      rcases hnr p.1 with h | h
      · exact h
      · omega)]
    congr 2
    refine List.ext_getElem (by rw [apply_len, hrl, hn]) (fun k hk1 hk2 => ?_)
    rw [← nth_lt hk1, ← nth_lt hk2]
    refine apply_nth zs k L _ (fun p hpL => ⟨by rw [hrl]; exact (hme p ((hm p).1 hpL)).1, (hme p ((hm p).1 hpL)).2.2.1⟩) ?_
    by_cases hz : nth zs k = -1
    · left
      rw [hz]
      rcases hnr k with h | h
      · exact h
      · omega
    · right
      exact (hm _).2 ((ents_mem zs 0 _).2 ⟨k, hk2, by rw [Nat.zero_add], hz⟩)
  have hl256 := fun p hp => (hme p hp).1
  have hrev : (splitL 10 (textFrom zs 0)).reverse = [] :: (ents zs 0).reverse.map line0 := by rw [hs]; simp
  have hno : ∀ p ∈ (splitL 10 (textFrom zs 0)).reverse, (10 : UInt8) ∉ p ∧ p.length ≤ 9 := by
    rw [hrev]
    intro p hp
    rcases List.mem_cons.1 hp with rfl | hp
    · simp
    · obtain ⟨q, hq, rfl⟩ := List.mem_map.1 hp
      exact ⟨(line0_ne q (hl256 q (by simpa using hq))).1, line0_len q⟩
  have htl : (turnR (splitL 10 (textFrom zs 0)).reverse).length ≤ 3000 := by
    have h1 := turnR_len (m := 9) _ (fun p hp => (hno p hp).2)
    have h2 : (splitL 10 (textFrom zs 0)).reverse.length ≤ 257 := by rw [hrev]; simp; omega
    omega
  refine ⟨?_, ?_, htl⟩
  · unfold parseC
    rw [if_neg (by omega), hs]
    refine key _ (ents zs 0) ?_ hpw (fun _ => Iff.rfl)
    rw [List.filter_append, filter_lines _ hl256]
    simp
  · unfold parseC
    rw [if_neg (by omega), split_turn _ (fun p hp => (hno p hp).1), hrev]
    refine key _ (ents zs 0).reverse ?_ ?_ (fun p => by simp)
    · rw [List.filter_cons, List.filter_cons]
      simpa using filter_lines (ents zs 0).reverse (fun p hp => hl256 p (by simpa using hp))
    · rw [List.pairwise_reverse]
      exact hpw.imp fun h => ⟨Ne.symm h.1, Ne.symm h.2⟩
end Go.Proofs.YthpiopjpipdgnaaDoor
