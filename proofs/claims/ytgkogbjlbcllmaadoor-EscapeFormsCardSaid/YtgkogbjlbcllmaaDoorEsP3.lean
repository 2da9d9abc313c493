/- EscapeBack, EscapeAgain, EscapeForms: the plain laws. -/
import Derived.Test.YtgkogbjlbcllmaaDoorEs9
import Derived.Test.YtgkogbjlbcllmaaDoorEsP1
namespace Go.Proofs.YtgkogbjlbcllmaaDoor

/-- the number of digits, c before them -/
def valD : List UInt8 → Int → Int
  | [], c => c
  | b :: r, c => valD r (c * 16 + digV b.toNat)
def Digits (l : List UInt8) : Prop := ∀ b ∈ l, 0 ≤ digV b.toNat
theorem valD_ge : ∀ (l : List UInt8) (c : Int), Digits l → 0 ≤ c → c ≤ valD l c
  | [], c, _, _ => Int.le_refl c
  | b :: r, c, h, h0 => by
    have h1 := h b (by simp)
    have h2 := valD_ge r (c * 16 + digV b.toNat) (fun x hx => h x (by simp [hx])) (by omega)
    rw [valD]
    omega
theorem valD_app : ∀ (l : List UInt8) (b : UInt8) (c : Int), valD (l ++ [b]) c = valD l c * 16 + digV b.toNat
  | [], _, _ => rfl
  | _ :: r, b, _ => valD_app r b _
theorem digV_125 : digV 125 = -1 := by decide
/-- digits between braces -/
theorem escHex_all : ∀ (l : List UInt8) (i : Nat) (c : Int) (r : List UInt8), Digits l → 0 ≤ c → i + l.length ≤ 6 → 0 < i + l.length → valD l c ≤ 1114111 → escHex (l ++ 125 :: r) i c = (valD l c, ((i + l.length + 4 : Nat) : Int), true)
  | [], i, c, r, _, _, _, h, _ => by
    rw [List.nil_append, escHex, if_pos ⟨rfl, by simpa using h⟩]
    rfl
  | b :: l, i, c, r, hd, h0, h6, _, hv => by
    have h1 := hd b (by simp)
    have hd' : Digits l := fun x hx => hd x (by simp [hx])
    have hge := valD_ge l (c * 16 + digV b.toNat) hd' (by omega)
    have hne : ¬ b.toNat = 125 := by
      intro e
      have h2 : digV (b.toNat : Int) = -1 := by rw [e]; exact digV_125
      omega
    rw [valD] at hv
    simp only [List.length_cons] at h6
    have hval : validB (c * 16 + digV b.toNat) = true := by unfold validB; exact decide_eq_true ⟨by omega, by omega⟩
    rw [List.cons_append, escHex, if_neg (fun h => hne h.1), if_neg (by omega), if_neg (by rw [hval]; simp), escHex_all l (i + 1) _ r hd' (by omega) (by omega) (by omega) hv, valD]
    simp only [List.length_cons]
    congr 2
    omega
/-- digits without a brace behind them -/
theorem escHex_open : ∀ (l : List UInt8) (i : Nat) (c : Int), Digits l → 0 ≤ c → i + l.length ≤ 6 → valD l c ≤ 1114111 → escHex l i c = (0, ((i + l.length + 3 : Nat) : Int), false)
  | [], i, c, _, _, _, _ => rfl
  | b :: l, i, c, hd, h0, h6, hv => by
    have h1 := hd b (by simp)
    have hd' : Digits l := fun x hx => hd x (by simp [hx])
    have hge := valD_ge l (c * 16 + digV b.toNat) hd' (by omega)
    have hne : ¬ b.toNat = 125 := by
      intro e
      have h2 : digV (b.toNat : Int) = -1 := by rw [e]; exact digV_125
      omega
    rw [valD] at hv
    simp only [List.length_cons] at h6
    have hval : validB (c * 16 + digV b.toNat) = true := by unfold validB; exact decide_eq_true ⟨by omega, by omega⟩
    rw [escHex, if_neg (fun h => hne h.1), if_neg (by omega), if_neg (by rw [hval]; simp), escHex_open l (i + 1) _ hd' (by omega) (by omega) hv]
    simp only [List.length_cons]
    congr 2
    omega
/-- digits and then a byte that is neither a digit nor a brace -/
theorem escHex_bad : ∀ (l : List UInt8) (i : Nat) (c : Int) (x : UInt8) (r : List UInt8), Digits l → 0 ≤ c → i + l.length ≤ 6 → valD l c ≤ 1114111 → digV x.toNat < 0 → x.toNat ≠ 125 → escHex (l ++ x :: r) i c = (0, 0, false)
  | [], i, c, x, r, _, _, _, _, hx, hx2 => by
    rw [List.nil_append, escHex, if_neg (fun h => hx2 h.1), if_pos (.inl hx)]
  | b :: l, i, c, x, r, hd, h0, h6, hv, hx, hx2 => by
    have h1 := hd b (by simp)
    have hd' : Digits l := fun y hy => hd y (by simp [hy])
    have hge := valD_ge l (c * 16 + digV b.toNat) hd' (by omega)
    have hne : ¬ b.toNat = 125 := by
      intro e
      have h2 : digV (b.toNat : Int) = -1 := by rw [e]; exact digV_125
      omega
    rw [valD] at hv
    simp only [List.length_cons] at h6
    have hval : validB (c * 16 + digV b.toNat) = true := by unfold validB; exact decide_eq_true ⟨by omega, by omega⟩
    rw [List.cons_append, escHex, if_neg (fun h => hne h.1), if_neg (by omega), if_neg (by rw [hval]; simp), escHex_bad l (i + 1) _ x r hd' (by omega) (by omega) hv hx hx2]

theorem escR_brace (t : List UInt8) : escR (92 :: 117 :: 123 :: t) = escHex t 0 0 := by
  unfold escR
  rw [if_neg (by simp), if_neg (by simp [btN]), if_neg (by simp [Lib.hasPrefix])]
  rfl
theorem digV_hexC (k : Nat) (hk : k < 16) : digV (hexC k) = k := by
  have h1 := hexC_is k
  have h2 := digV_is (hexC k)
  omega
theorem hex_digits {l : List UInt8} (h : ∀ b ∈ l, ∃ k, k < 16 ∧ b.toNat = hexC k) : Digits l := by
  intro b hb
  obtain ⟨k, hk, e⟩ := h b hb
  rw [e, digV_hexC k hk]
  omega
theorem valD_hexN : ∀ (n c : Nat), c < 16 ^ n → valD (hexN n c) 0 = (c : Int)
  | 0, c, h => by simp at h; subst h; rfl
  | n + 1, c, h => by
    have h1 : c / 16 < 16 ^ n := by rw [Nat.pow_succ] at h; omega
    rw [hexN, valD_app, valD_hexN n (c / 16) h1, hexC_byte _ (by omega), digV_hexC _ (by omega)]
    omega
theorem valD_drop0 : ∀ l : List UInt8, valD (l.dropWhile fun b => b == 48) 0 = valD l 0
  | [] => rfl
  | b :: r => by
    by_cases hb : b = 48
    · subst hb
      have ih := valD_drop0 r
      rw [List.dropWhile_cons, if_pos (by decide), ih]
      rfl
    · rw [List.dropWhile_cons, if_neg (by simpa using hb)]
theorem hexLen_ok (n : Nat) (h : n ≤ 1114111) : 4 ≤ hexLen n ∧ hexLen n ≤ 6 ∧ n < 16 ^ hexLen n := by
  unfold hexLen
  split
  · exact ⟨by omega, by omega, by omega⟩
  · split
    · exact ⟨by omega, by omega, by omega⟩
    · exact ⟨by omega, by omega, by omega⟩
theorem valD_hexL {c : Int} (h : validB c = true) : valD (hexL c) 0 = c := by
  obtain ⟨n, rfl, hn, e⟩ := hexL_yes h
  rw [e, valD_hexN _ _ (hexLen_ok n hn).2.2]
theorem valD_digL {c : Int} (h : validB c = true) : valD (digL c) 0 = c := by
  have h1 := valD_drop0 (hexL c)
  rw [valD_hexL h] at h1
  unfold digL
  dsimp only
  split
  · rename_i h2
    rw [h2] at h1
    have : valD [] 0 = 0 := rfl
    rw [this] at h1
    rw [← h1]
    rfl
  · exact h1
theorem digL_pos (c : Int) : 0 < (digL c).length := by
  unfold digL
  dsimp only
  split
  · simp
  · rename_i h
    exact List.length_pos_iff.2 h

/-- a piece is read as its code point -/
theorem scan_piece {c : Int} (hv : validB c = true) (r : List UInt8) (i : Nat) (acc : List Int) : scanS (pieceL c ++ r) i 0 acc = scanS r (i + (pieceL c).length) 0 (acc ++ [c]) := by
  unfold pieceL
  split
  · rename_i h
    have hub := ub_toNat (c := c) (by omega) (by omega)
    have hb : (ub c).toNat = 34 ∨ (ub c).toNat = 92 := by omega
    have he : escR (92 :: ub c :: r) = (c, 2, true) := by
      unfold escR
      have h1 : ¬ ((92 :: ub c :: r).length = 1 ∨ (92 :: ub c :: r) = [92, 117]) := by
        rintro (h' | h')
        · simp at h'
        · have h2 : ub c = 117 := by simpa using (List.cons.inj (List.cons.inj h').2).1
          have h3 : (117 : UInt8).toNat = 117 := rfl
          rw [h2, h3] at hb
          omega
      have h2 : btN (92 :: ub c :: r) 1 = (ub c).toNat := rfl
      rw [if_neg h1, h2, if_pos hb]
      rw [hub]
    show scanS (92 :: ub c :: r) i 0 acc = _
    rw [scanS, if_neg (by decide), if_neg (by decide), if_neg (by decide), he, if_neg (by simp), if_neg (by simp)]
    show scanS (ub c :: r) (i + 1) 1 (acc ++ [c]) = _
    rw [scanS]
    rfl
  · split
    · rename_i h1 h2
      have hub := ub_toNat (c := c) (by omega) (by omega)
      show scanS (ub c :: r) i 0 acc = _
      rw [scanS, if_neg (by omega), if_neg (by omega), if_pos (by omega), hub]
      rfl
    · have hl := digL_le c
      have hp := digL_pos c
      have hrng := valid_range hv
      have he : escR (([92, 117, 123] ++ digL c ++ [125]) ++ r) = (c, (((digL c).length + 4 : Nat) : Int), true) := by
        have e1 : ([92, 117, 123] ++ digL c ++ [125]) ++ r = 92 :: 117 :: 123 :: (digL c ++ 125 :: r) := by simp
        rw [e1, escR_brace, escHex_all _ _ _ _ (hex_digits (digL_digit c)) (by omega) (by omega) (by omega) (by rw [valD_digL hv]; exact hrng.2), valD_digL hv, Nat.zero_add]
      generalize hq : ([92, 117, 123] ++ digL c ++ [125]) ++ r = q at he ⊢
      have hq' : q = 92 :: (117 :: 123 :: (digL c ++ 125 :: r)) := by rw [← hq]; simp
      rw [hq'] at he ⊢
      rw [scanS, if_neg (by decide), if_neg (by decide), if_neg (by decide), he, if_neg (by dsimp only; omega), if_neg (by simp)]
      dsimp only
      rw [Int.toNat_natCast, scanS_skip _ _ _ _ (by simp)]
      congr 1
      · have : (digL c).length + 4 - 1 = ([117, 123] ++ digL c ++ [125]).length := by simp
        rw [this, show (117 :: 123 :: (digL c ++ 125 :: r)) = ([117, 123] ++ digL c ++ [125]) ++ r by simp, List.drop_left]
      · simp; omega
theorem scan_text : ∀ (t : List Int) (i : Nat) (acc : List Int), allValid t = true → scanS (t.flatMap pieceL ++ [34]) i 0 acc = (acc ++ t, 0, 0)
  | [], i, acc, _ => by simp [scanS]
  | c :: r, i, acc, h => by
    rw [allValid_cons, Bool.and_eq_true] at h
    rw [List.flatMap_cons, List.append_assoc, scan_piece h.1, scan_text r _ _ h.2]
    simp
theorem back_text {t : List Int} (h : allValid t = true) (hl : t.length ≤ 6000) : parseE (textE t) = (t, 0, 0) := by
  have h1 := textE_le t
  rw [parseE, if_neg (by omega), if_neg (by
    rintro (h' | h')
    · have := textE_two t
      rw [h'] at this
      simp at this
    · exact h' (textE_first t))]
  have e : (textE t).drop 1 = t.flatMap pieceL ++ [34] := by simp [textE]
  rw [e, scan_text t 1 [] h, List.nil_append]
theorem scan_valid : ∀ (n : Nat) (l : List UInt8) (i k : Nat) (acc : List Int), l.length ≤ n → allValid acc = true → allValid (scanS l i k acc).1 = true ∧ (scanS l i k acc).1.length ≤ acc.length + l.length
  | _, [], i, k, acc, _, _ => by simp [scanS, allValid]
  | 0, b :: r, i, k, acc, h, _ => by simp at h
  | n + 1, b :: r, i, 0, acc, h, ha => by
    have hr : r.length ≤ n := by simpa using h
    have hb : b.toNat < 256 := UInt8.toNat_lt b
    unfold scanS
    split
    · split
      · exact ⟨ha, by simp⟩
      · exact ⟨rfl, by simp⟩
    · split
      · exact ⟨rfl, by simp⟩
      · split
        · have hv : validB (b.toNat : Int) = true := decide_eq_true ⟨by omega, by omega⟩
          have := scan_valid n r (i + 1) 0 (acc ++ [(b.toNat : Int)]) hr (by rw [allValid_app, ha]; simp [allValid, hv])
          simp at this ⊢
          exact ⟨this.1, by omega⟩
        · split
          · exact ⟨rfl, by simp⟩
          · split
            · exact ⟨rfl, by simp⟩
            · have hc := escR_c (b :: r)
              have hv : validB (escR (b :: r)).1 = true := decide_eq_true ⟨hc.1, hc.2⟩
              have := scan_valid n r (i + 1) ((escR (b :: r)).2.1.toNat - 1) (acc ++ [(escR (b :: r)).1]) hr (by rw [allValid_app, ha]; simp [allValid, hv])
              simp at this ⊢
              exact ⟨this.1, by omega⟩
  | n + 1, b :: r, i, k + 1, acc, h, ha => by
    have hr : r.length ≤ n := by simpa using h
    have := scan_valid n r (i + 1) k acc hr ha
    rw [scanS]
    simp at this ⊢
    exact ⟨this.1, by omega⟩
theorem parse_valid (l : List UInt8) : allValid (parseE l).1 = true ∧ (parseE l).1.length ≤ l.length := by
  unfold parseE
  split
  · exact ⟨rfl, by simp⟩
  · split
    · exact ⟨rfl, by simp⟩
    · have := scan_valid _ (l.drop 1) 1 0 [] (Nat.le_refl _) rfl
      refine ⟨this.1, ?_⟩
      have h2 := this.2
      rw [List.length_drop, List.length_nil] at h2
      omega

theorem numL_valD : ∀ (l : List UInt8) (c : Int), (∀ b ∈ l, ∃ k, k < 16 ∧ b.toNat = hexC k) → numL l c = some (valD l c)
  | [], _, _ => rfl
  | b :: r, c, h => by
    obtain ⟨k, hk, e⟩ := h b (by simp)
    have h1 : hexVal (b.toNat : Int) = k := hexVal_hit hk (by rw [e])
    have h2 : digV (b.toNat : Int) = k := by rw [e]; exact digV_hexC k hk
    rw [numL, h1, if_neg (by omega), numL_valD r _ (fun x hx => h x (by simp [hx])), valD, h2]
theorem parse_hexL {c : Int} (h : validB c = true) : parseCp (hexL c) = some c := by
  obtain ⟨n, rfl, hn, e⟩ := hexL_yes h
  have hl : (hexL (n : Int)).length = hexLen n := by rw [e, hexN_length]
  have h2 := hexLen_ok n hn
  unfold parseCp
  rw [hl, if_neg (by omega), numL_valD _ _ (hexL_digit _), valD_hexL h]
  dsimp only
  rw [if_pos rfl]
theorem hexL_no32 (c : Int) : (32 : UInt8) ∉ hexL c := by
  intro h
  obtain ⟨k, hk, e⟩ := hexL_digit c 32 h
  have := hexC_le k hk
  have h3 : (32 : UInt8).toNat = 32 := rfl
  omega
theorem splitL_none {c : UInt8} {l : List UInt8} (h : c ∉ l) : splitL c l = [l] := by rw [splitL_cut, cutB_none.2 h]
theorem splitL_app {c : UInt8} : ∀ {a : List UInt8} (_ : c ∉ a) (r : List UInt8), splitL c (a ++ c :: r) = a :: splitL c r
  | [], _, r => splitL_hit c r
  | b :: a, h, r => by
    have hb : ¬ b = c := fun e => h (by simp [e])
    rw [List.cons_append, splitL_miss hb, splitL_app (fun hm => h (by simp [hm])) r]
theorem split_join : ∀ ps : List (List UInt8), ps ≠ [] → (∀ p ∈ ps, (32 : UInt8) ∉ p) → splitL 32 (joinL ps) = ps
  | [], h, _ => absurd rfl h
  | [p], _, h => splitL_none (h p (by simp))
  | p :: q :: r, _, h => by
    rw [joinL, splitL_app (h p (by simp)), split_join (q :: r) (by simp) (fun x hx => h x (by simp [hx]))]
theorem join_split : ∀ (n : Nat) (l : List UInt8), l.length ≤ n → joinL (splitL 32 l) = l := by
  intro n
  induction n with
  | zero =>
    intro l h
    obtain rfl : l = [] := List.length_eq_zero_iff.1 (by omega)
    rfl
  | succ n ih =>
    intro l h
    rw [splitL_cut]
    cases hc : cutB 32 l with
    | none => rfl
    | some p =>
      obtain ⟨a, r⟩ := p
      obtain ⟨e, _⟩ := cutB_some hc
      have hr : r.length ≤ n := by rw [e] at h; simp at h; omega
      dsimp only
      cases hs : splitL 32 r with
      | nil => exact absurd hs (splitL_ne 32 r)
      | cons q qs =>
        rw [joinL, ← hs, ih r hr, e]
theorem codes_all : ∀ (t acc : List Int), allValid t = true → codesFrom (t.map hexL) acc = (acc ++ t, 0)
  | [], acc, _ => by simp [codesFrom]
  | c :: r, acc, h => by
    rw [allValid_cons, Bool.and_eq_true] at h
    rw [List.map_cons, codesFrom, parse_hexL h.1]
    dsimp only
    rw [codes_all r _ h.2]
    simp
theorem hexL_ne_nil {c : Int} (h : validB c = true) : hexL c ≠ [] := by
  obtain ⟨n, rfl, hn, e⟩ := hexL_yes h
  intro h0
  have h1 := hexN_length (hexLen n) n
  rw [← e, h0] at h1
  have h2 := hexLen_ok n hn
  simp at h1
  omega
theorem joinL_ne : ∀ ps : List (List UInt8), ps ≠ [] → (∀ p ∈ ps, p ≠ []) → joinL ps ≠ []
  | [], h, _ => absurd rfl h
  | [p], _, h => h p (by simp)
  | p :: q :: r, _, _ => by simp [joinL]
theorem back_codes {t : List Int} (h : allValid t = true) : parseCodesR (codesL t) = (t, 0) := by
  cases t with
  | nil => rfl
  | cons c r =>
    have hne : codesL (c :: r) ≠ [] := joinL_ne _ (by simp) (fun p hp => by
      obtain ⟨x, hx, rfl⟩ := List.mem_map.1 hp
      exact hexL_ne_nil (allValid_mem h x hx))
    rw [parseCodesR, if_neg hne, codesL, split_join _ (by simp) (fun p hp => by
      obtain ⟨x, _, rfl⟩ := List.mem_map.1 hp
      exact hexL_no32 x), codes_all _ _ h, List.nil_append]
theorem parseCp_hex {l : List UInt8} {c : Int} (h : parseCp l = some c) : hexL c = l ∧ validB c = true := by
  unfold parseCp at h
  split at h
  · cases h
  · rename_i hl
    split at h
    · cases h
    · split at h
      · rename_i h2
        injection h with h
        subst h
        refine ⟨h2, ?_⟩
        cases hv : validB _
        · rw [hexL_no hv] at h2
          rw [← h2] at hl
          simp at hl
        · rfl
      · cases h
theorem codes_read : ∀ (ps : List (List UInt8)) (acc : List Int), allValid acc = true → ((codesFrom ps acc).2 ≠ 0 ∧ (codesFrom ps acc).1 = []) ∨ ((codesFrom ps acc).2 = 0 ∧ allValid (codesFrom ps acc).1 = true ∧ (codesFrom ps acc).1.map hexL = acc.map hexL ++ ps)
  | [], acc, h => .inr ⟨rfl, h, by simp [codesFrom]⟩
  | p :: ps, acc, h => by
    cases hp : parseCp p with
    | none => left; rw [codesFrom, hp]; exact ⟨by simp, rfl⟩
    | some c =>
      obtain ⟨e, hv⟩ := parseCp_hex hp
      have ih := codes_read ps (acc ++ [c]) (by rw [allValid_app, h]; simp [allValid, hv])
      rw [codesFrom, hp]
      dsimp only
      rcases ih with ih | ih
      · exact .inl ih
      · exact .inr ⟨ih.1, ih.2.1, by rw [ih.2.2]; simp [e]⟩
theorem again_codes (l : List UInt8) : ((parseCodesR l).2 ≠ 0 ∧ (parseCodesR l).1 = []) ∨ ((parseCodesR l).2 = 0 ∧ allValid (parseCodesR l).1 = true ∧ codesL (parseCodesR l).1 = l) := by
  unfold parseCodesR
  split
  · rename_i h
    right
    exact ⟨rfl, rfl, by rw [h]; rfl⟩
  · rcases codes_read (splitL 32 l) [] rfl with h | h
    · exact .inl h
    · refine .inr ⟨h.1, h.2.1, ?_⟩
      rw [codesL, h.2.2, List.map_nil, List.nil_append, join_split l.length l (Nat.le_refl _)]
end Go.Proofs.YtgkogbjlbcllmaaDoor
