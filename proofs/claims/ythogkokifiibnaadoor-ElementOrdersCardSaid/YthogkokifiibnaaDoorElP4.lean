/- Text and Parse of elements, codes and numerals: what is written is read. Plain. -/
import Derived.Test.YthogkokifiibnaaDoorElP3
import Derived.Lib.AtoiAllCases
import Derived.Lib.ItoaMem
namespace Go.Proofs.YthogkokifiibnaaDoor
open Go.RowKit Go.Sort

theorem chksE_append (a b : List ElemD) : chksE (a ++ b) = if chksE a = 0 then chksE b else chksE a := by
  unfold chksE
  rw [List.find?_append]
  cases ha : a.find? (fun d => chkE d != 0) with
  | none => simp
  | some d =>
    have := List.find?_some ha
    simp at this
    simp [this]
theorem chksE_nil : chksE [] = 0 := rfl
theorem chksE_mem {ls : List ElemD} (h : chksE ls = 0) {d : ElemD} (hd : d ∈ ls) : chkE d = 0 := by
  have := List.all_eq_true.1 (chksE_zero h) d hd
  simpa using this
theorem chkE_inW {d : ElemD} (h : chkE d = 0) : inW d.p = true ∧ inW d.s = true ∧ inW d.t = true := by
  unfold chkE at h
  split at h
  · rename_i h1
    simp only [Bool.and_eq_true] at h1
    exact ⟨h1.1.1, h1.1.2, h1.2⟩
  · cases h
theorem inW_num {n : Int} (h : inW n = true) : numL (hex4 n) 0 = some n := by
  unfold inW at h
  simp only [Bool.and_eq_true, decide_eq_true_eq] at h
  exact numL_hex4 h.1 h.2
theorem elemT_of_one {d : ElemD} (h1 : inW d.p = true) (h2 : inW d.s = true) (h3 : inW d.t = true) : elemT (oneE d) = some d := by
  have hg : guessE (oneE d) = d := by
    obtain ⟨p, q, r, v⟩ := d
    have s1 : seg (oneE ⟨p, q, r, v⟩) 2 6 = hex4 p := rfl
    have s2 : seg (oneE ⟨p, q, r, v⟩) 7 11 = hex4 q := rfl
    have s3 : seg (oneE ⟨p, q, r, v⟩) 12 16 = hex4 r := rfl
    have b1 : byteE (oneE ⟨p, q, r, v⟩) 1 = signE ⟨p, q, r, v⟩ := rfl
    unfold guessE
    rw [s1, s2, s3, b1, numL_hexR _ _ (inW_num h1), numL_hexR _ _ (inW_num h2), numL_hexR _ _ (inW_num h3)]
    cases v <;> rfl
  have := elemT_back (t := oneE d) (by rw [hg])
  rw [hg] at this
  exact this
theorem readE_flat : ∀ (ls : List ElemD), (∀ d ∈ ls, inW d.p = true ∧ inW d.s = true ∧ inW d.t = true) → readE (ls.flatMap oneE) = some ls
  | [], _ => rfl
  | d :: r, h => by
    obtain ⟨h1, h2, h3⟩ := h d (by simp)
    rw [List.flatMap_cons, readE_step (by rw [List.length_append, oneE_length]; omega)]
    have e1 : (oneE d ++ r.flatMap oneE).take 17 = oneE d := List.take_left' (oneE_length d)
    have e2 : (oneE d ++ r.flatMap oneE).drop 17 = r.flatMap oneE := List.drop_left' (oneE_length d)
    rw [e1, e2, elemT_of_one h1 h2 h3]
    dsimp only
    rw [readE_flat r (fun x hx => h x (by simp [hx]))]
    rfl
theorem readE_back : ∀ (n : Nat) {l : List UInt8} {es : List ElemD}, l.length ≤ n → readE l = some es → es.flatMap oneE = l ∧ ∀ d ∈ es, inW d.p = true ∧ inW d.s = true ∧ inW d.t = true
  | 0, l, es, h, he => by
    obtain rfl := List.length_eq_zero_iff.1 (by omega : l.length = 0)
    cases he
    exact ⟨rfl, fun d hd => by cases hd⟩
  | n + 1, l, es, h, he => by
    by_cases h17 : 17 ≤ l.length
    · rw [readE_step h17] at he
      cases ht : elemT (l.take 17) with
      | none => rw [ht] at he; cases he
      | some d =>
        rw [ht] at he
        cases hr : readE (l.drop 17) with
        | none => simp [hr] at he
        | some r =>
          simp [hr] at he
          subst he
          obtain ⟨i1, i2⟩ := readE_back n (l := l.drop 17) (by simp; omega) hr
          obtain ⟨o1, _, o3⟩ := elemT_one (by simp; omega) ht
          refine ⟨by rw [List.flatMap_cons, o1, i1, List.take_append_drop], fun x hx => ?_⟩
          rcases List.mem_cons.1 hx with rfl | hx
          · exact o3
          · exact i2 x hx
    · by_cases h0 : l = []
      · subst h0
        cases he
        exact ⟨rfl, fun d hd => by cases hd⟩
      · rw [readE_short h0 (by omega)] at he
        cases he
/-- what Text writes is read -/
theorem parse_text {ls : List ElemD} (h : chksE ls = 0) : parseE (ls.flatMap oneE) = (ls, 0) := by
  unfold parseE
  rw [readE_flat ls (fun d hd => chkE_inW (chksE_mem h hd))]
  simp [h]
/-- what is read is written so -/
theorem parse_back (l : List UInt8) : ((parseE l).2 ≠ 0 ∧ (parseE l).1 = []) ∨ ((parseE l).2 = 0 ∧ chksE (parseE l).1 = 0 ∧ (parseE l).1.flatMap oneE = l) := by
  unfold parseE
  cases hr : readE l with
  | none => left; simp
  | some es =>
    by_cases hc : chksE es = 0
    · right
      simp only [hc, if_true]
      exact ⟨trivial, trivial, (readE_back l.length (Nat.le_refl _) hr).1⟩
    · left
      simp [hc]

theorem hexN_digit : ∀ (n c : Nat), ∀ b ∈ hexN n c, ∃ k, k < 16 ∧ b.toNat = hexC k
  | 0, _, b, h => by cases h
  | n + 1, c, b, h => by
    rw [hexN] at h
    rcases List.mem_append.1 h with h | h
    · exact hexN_digit n _ b h
    · simp at h
      subst h
      have := hexC_le (c % 16) (by omega)
      exact ⟨c % 16, by omega, by rw [UInt8.toNat_ofNat']; omega⟩
theorem hexDigit_L (c : Int) : ∀ b ∈ hexL c, ∃ k, k < 16 ∧ b.toNat = hexC k := by
  unfold hexL
  split
  · exact hexN_digit _ _
  · intro b h; cases h
theorem numL_hexNn : ∀ (k c : Nat), c < 16 ^ k → numL (hexN k c) 0 = some (c : Int) := by
  intro k
  induction k with
  | zero => intro c h; simp at h; subst h; rfl
  | succ k ih =>
    intro c h
    have h1 : c / 16 < 16 ^ k := by rw [Nat.pow_succ] at h; omega
    have hd := hexC_le (c % 16) (by omega)
    have e : (UInt8.ofNat (hexC (c % 16))).toNat = hexC (c % 16) := by rw [UInt8.toNat_ofNat']; omega
    have h2 : hexVal ((UInt8.ofNat (hexC (c % 16))).toNat : Int) = ((c % 16 : Nat) : Int) := by rw [e]; exact hexVal_hit (by omega) rfl
    rw [hexN, numL_snoc, ih (c / 16) h1]
    dsimp only
    rw [h2, if_neg (by omega)]
    congr 1
    omega
theorem hexLen_rng (n : Nat) (h : n ≤ 1114111) : 4 ≤ hexLen n ∧ hexLen n ≤ 6 ∧ n < 16 ^ hexLen n := by
  unfold hexLen
  split
  · exact ⟨by omega, by omega, by omega⟩
  · split
    · exact ⟨by omega, by omega, by omega⟩
    · exact ⟨by omega, by omega, by omega⟩
theorem parse_hexL {c : Int} (h : validB c = true) : parseCp (hexL c) = some c := by
  obtain ⟨n, rfl, hn, e⟩ := hexL_yes h
  have hl : (hexL (n : Int)).length = hexLen n := by rw [e, hexN_length]
  have h2 := hexLen_rng n hn
  unfold parseCp
  rw [hl, if_neg (by omega), e, numL_hexNn _ _ h2.2.2]
  dsimp only
  rw [if_pos e]
theorem hexL_not {x : UInt8} (hx : x.toNat < 48) (c : Int) : x ∉ hexL c := by
  intro h
  obtain ⟨k, hk, e⟩ := hexDigit_L c x h
  have := hexC_le k hk
  omega
theorem splitL_none {c : UInt8} {l : List UInt8} (h : c ∉ l) : splitL c l = [l] := by rw [splitL_cut, cutB_none.2 h]
theorem splitL_app {c : UInt8} : ∀ {a : List UInt8} (_ : c ∉ a) (r : List UInt8), splitL c (a ++ c :: r) = a :: splitL c r
  | [], _, r => splitL_hit c r
  | b :: a, h, r => by
    have hb : ¬ b = c := fun e => h (by simp [e])
    rw [List.cons_append, splitL_miss hb, splitL_app (fun hm => h (by simp [hm])) r]
theorem split_join : ∀ ps : List (List UInt8), ps ≠ [] → (∀ p ∈ ps, (32 : UInt8) ∉ p) → splitL 32 (joinL ps) = ps
  | [], h, _ => absurd rfl h
  | [p], _, h => splitL_none (h p (by simp))
  | p :: q :: r, _, h => by
    rw [joinL, splitL_app (h p (by simp)), split_join (q :: r) (by simp) (fun x hx => h x (by simp [hx]))]
theorem codes_all : ∀ (t acc : List Int), allValid t = true → codesFrom (t.map hexL) acc = (acc ++ t, 0)
  | [], acc, _ => by simp [codesFrom]
  | c :: r, acc, h => by
    rw [allValid_cons, Bool.and_eq_true] at h
    rw [List.map_cons, codesFrom, parse_hexL h.1]
    dsimp only
    rw [codes_all r _ h.2]
    simp
theorem hexL_ne_nil {c : Int} (h : validB c = true) : hexL c ≠ [] := by
  obtain ⟨n, rfl, hn, e⟩ := hexL_yes h
  intro h0
  have h1 := hexN_length (hexLen n) n
  rw [← e, h0] at h1
  have h2 := hexLen_rng n hn
  simp at h1
  omega
theorem joinL_ne : ∀ ps : List (List UInt8), ps ≠ [] → (∀ p ∈ ps, p ≠ []) → joinL ps ≠ []
  | [], h, _ => absurd rfl h
  | [p], _, h => h p (by simp)
  | p :: q :: r, _, _ => by simp [joinL]
theorem allValid_mem {t : List Int} (h : allValid t = true) (x : Int) (hx : x ∈ t) : validB x = true := List.all_eq_true.1 h x hx
theorem back_codes {t : List Int} (h : allValid t = true) : parseCodesR (codesL t) = (t, 0) := by
  cases t with
  | nil => rfl
  | cons c r =>
    have hne : codesL (c :: r) ≠ [] := joinL_ne _ (by simp) (fun p hp => by
      obtain ⟨x, hx, rfl⟩ := List.mem_map.1 hp
      exact hexL_ne_nil (allValid_mem h x hx))
    rw [parseCodesR, if_neg hne, codesL, split_join _ (by simp) (fun p hp => by
      obtain ⟨x, _, rfl⟩ := List.mem_map.1 hp
      exact hexL_not (by decide) x), codes_all _ _ h, List.nil_append]
theorem parseCp_hex {l : List UInt8} {c : Int} (h : parseCp l = some c) : hexL c = l ∧ validB c = true := by
  unfold parseCp at h
  split at h
  · cases h
  · rename_i hl
    split at h
    · cases h
    · split at h
      · rename_i h2
        injection h with h
        subst h
        refine ⟨h2, ?_⟩
        cases hv : validB _
        · rw [hexL_no hv] at h2
          rw [← h2] at hl
          simp at hl
        · rfl
      · cases h
theorem codes_valid : ∀ (ps : List (List UInt8)) (acc : List Int), allValid acc = true → (codesFrom ps acc).2 = 0 → allValid (codesFrom ps acc).1 = true
  | [], acc, h, _ => h
  | p :: ps, acc, h, h0 => by
    cases hp : parseCp p with
    | none => rw [codesFrom, hp] at h0; cases h0
    | some c =>
      rw [codesFrom, hp] at h0 ⊢
      exact codes_valid ps (acc ++ [c]) (by simp [allValid] at h ⊢; exact ⟨h, (parseCp_hex hp).2⟩) h0
theorem parseCodes_valid {l : List UInt8} (h : (parseCodesR l).2 = 0) : allValid (parseCodesR l).1 = true := by
  unfold parseCodesR at h ⊢
  split
  · rfl
  · rename_i hn
    rw [if_neg hn] at h
    exact codes_valid _ [] rfl h

theorem parseU_snoc : ∀ (l : List UInt8) (acc : Nat) (c : UInt8), Lib.parseUint10 acc (l ++ [c]) = match Lib.parseUint10 acc l with | .ok v => Lib.parseUint10 v [c] | .«syntax» => .«syntax» | .range => .range
  | [], acc, c => rfl
  | b :: l, acc, c => by
    rw [List.cons_append, Lib.parseUint10, Lib.parseUint10]
    split
    · split
      · rfl
      · split
        · rfl
        · exact parseU_snoc l _ c
    · rfl
theorem dec_digit (u : Nat) : ∀ b ∈ Lib.decDigits u, 48 ≤ b.toNat ∧ b.toNat ≤ 57 := by
  induction u using Nat.strongRecOn with
  | ind u ih =>
    intro b hb
    rw [Lib.decDigits] at hb
    split at hb
    · have hb : b = _ := List.mem_singleton.1 hb
      subst hb
      rw [UInt8.toNat_ofNat']
      omega
    · rcases List.mem_append.1 hb with hb | hb
      · exact ih (u / 10) (by omega) b hb
      · have hb : b = _ := List.mem_singleton.1 hb
        subst hb
        rw [UInt8.toNat_ofNat']
        omega
theorem dec_ne (u : Nat) : Lib.decDigits u ≠ [] := by
  rw [Lib.decDigits]
  split <;> simp
theorem dec_back (u : Nat) (h : u < 18446744073709551616) : Lib.parseUint10 0 (Lib.decDigits u) = .ok u := by
  induction u using Nat.strongRecOn with
  | ind u ih =>
    rw [Lib.decDigits]
    split
    · rename_i h10
      have e : (UInt8.ofNat (48 + u)).toNat = 48 + u := by rw [UInt8.toNat_ofNat']; omega
      rw [Lib.parseUint10, e, if_pos (by omega), if_neg (by omega), if_neg (by omega), Lib.parseUint10]
      congr 1
      omega
    · rename_i h10
      have e : (UInt8.ofNat (48 + u % 10)).toNat = 48 + u % 10 := by rw [UInt8.toNat_ofNat']; omega
      rw [parseU_snoc, ih (u / 10) (by omega) (by omega)]
      dsimp only
      rw [Lib.parseUint10, e, if_pos (by omega), if_neg (by omega), if_neg (by omega), Lib.parseUint10]
      congr 1
      omega
theorem itoa_dec {n : Int} (h : 0 ≤ n) : Lib.itoa n = Lib.decDigits n.toNat := by
  unfold Lib.itoa
  rw [if_neg (by omega)]
theorem numP_itoa {n : Int} (h0 : 0 ≤ n) (h1 : n ≤ 9223372036854775807) : numP (Lib.itoa n) = some n := by
  have hd : Lib.atoiAll (Lib.itoa n) = .ok n := by
    rw [itoa_dec h0]
    have hb := dec_back n.toNat (by omega)
    have hdig := dec_digit n.toNat
    cases hc : Lib.decDigits n.toNat with
    | nil => exact absurd hc (dec_ne _)
    | cons c r =>
      rw [hc] at hb hdig
      have := hdig c (by simp)
      rw [Lib.atoiAll_plain c r (by omega) (by omega), Lib.parseMag, if_neg (by simp), hb]
      unfold Lib.signless
      dsimp only
      rw [if_neg (by omega)]
      congr 1
      omega
  unfold numP
  rw [hd]
  dsimp only
  rw [if_pos ⟨h0, rfl⟩]
theorem numP_back {l : List UInt8} {n : Int} (h : numP l = some n) : 0 ≤ n ∧ n ≤ 9223372036854775807 ∧ Lib.itoa n = l := by
  unfold numP at h
  cases ha : Lib.atoiAll l with
  | ok v =>
    rw [ha] at h
    dsimp only at h
    split at h
    · rename_i hv
      injection h with h
      subst h
      exact ⟨hv.1, (Lib.atoiAll_bounds ha).2, hv.2⟩
    · cases h
  | «syntax» => rw [ha] at h; cases h
  | range => rw [ha] at h; cases h
theorem itoa_digit {n : Int} (h : 0 ≤ n) : ∀ b ∈ Lib.itoa n, 48 ≤ b.toNat ∧ b.toNat ≤ 57 := by
  rw [itoa_dec h]
  exact dec_digit _
end Go.Proofs.YthogkokifiibnaaDoor
