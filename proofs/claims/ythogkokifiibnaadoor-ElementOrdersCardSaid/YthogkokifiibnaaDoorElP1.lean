/- Texts of elements: plain laws. No program in sight. -/
import Derived.Test.YthogkokifiibnaaDoorEl1
namespace Go.Proofs.YthogkokifiibnaaDoor
open Go.RowKit Go.Sort

def hex4 (n : Int) : List UInt8 := hexN 4 n.toNat
theorem hex4_length (n : Int) : (hex4 n).length = 4 := hexN_length 4 _
def signE (d : ElemD) : UInt8 := if d.v then 42 else 46
/-- the text of an element -/
def oneE (d : ElemD) : List UInt8 := [91, signE d] ++ hex4 d.p ++ [46] ++ hex4 d.s ++ [46] ++ hex4 d.t ++ [93]
theorem oneE_length (d : ElemD) : (oneE d).length = 17 := by simp [oneE, hex4_length]
/-- Text: the elements, or the error of the first that is not valid -/
def textE (ls : List ElemD) : List UInt8 × Int := match ls.find? (fun d => chkE d != 0) with | some d => ([], chkE d) | none => (ls.flatMap oneE, 0)
def chksE (ls : List ElemD) : Int := match ls.find? (fun d => chkE d != 0) with | some d => chkE d | none => 0
theorem chks_bad {ls : List ElemD} {k : Nat} {d : ElemD} (h : ls[k]? = some d) (hp : (ls.take k).all (fun d => chkE d == 0) = true) (hd : ¬ chkE d = 0) : chksE ls = chkE d ∧ textE ls = ([], chkE d) := by
  have hlt : k < ls.length := (List.getElem?_eq_some_iff.1 h).1
  have e : ls = ls.take k ++ d :: ls.drop (k + 1) := by
    have := List.take_append_drop k ls
    rw [List.drop_eq_getElem_cons hlt, (List.getElem?_eq_some_iff.1 h).2] at this
    exact this.symm
  have hf : ls.find? (fun d => chkE d != 0) = some d := by
    rw [e, List.find?_append, List.find?_eq_none.2 (fun x hx => by have := List.all_eq_true.1 hp x hx; simp at this; simp [this]), List.find?_cons, show (chkE d != 0) = true by simp [hd]]
    rfl
  unfold chksE textE
  rw [hf]
  exact ⟨rfl, rfl⟩
theorem chks_good {ls : List ElemD} (hp : ls.all (fun d => chkE d == 0) = true) : chksE ls = 0 ∧ textE ls = (ls.flatMap oneE, 0) := by
  have hf : ls.find? (fun d => chkE d != 0) = none := List.find?_eq_none.2 (fun x hx => by have := List.all_eq_true.1 hp x hx; simp at this; simp [this])
  unfold chksE textE
  rw [hf]
  exact ⟨rfl, rfl⟩
theorem chksE_zero {ls : List ElemD} (h : chksE ls = 0) : ls.all (fun d => chkE d == 0) = true := by
  unfold chksE at h
  cases hf : ls.find? (fun d => chkE d != 0) with
  | none =>
    rw [List.all_eq_true]
    intro d hd
    have := List.find?_eq_none.1 hf d hd
    simpa using this
  | some d =>
    rw [hf] at h
    have := List.find?_some hf
    simp at this
    exact absurd h this
theorem textE_of (ls : List ElemD) : textE ls = if chksE ls = 0 then (ls.flatMap oneE, 0) else ([], chksE ls) := by
  by_cases h : chksE ls = 0
  · rw [if_pos h]
    exact (chks_good (chksE_zero h)).2
  · rw [if_neg h]
    unfold chksE at h
    cases hf : ls.find? (fun d => chkE d != 0) with
    | none => rw [hf] at h; exact absurd rfl h
    | some d => unfold textE chksE; rw [hf]
theorem flatE_length (ls : List ElemD) : (ls.flatMap oneE).length = 17 * ls.length := by
  induction ls with
  | nil => rfl
  | cons d r ih => rw [List.flatMap_cons, List.length_append, ih, oneE_length, List.length_cons]; omega
theorem flatE_snoc (ls : List ElemD) {k : Nat} {d : ElemD} (h : ls[k]? = some d) : (ls.take (k + 1)).flatMap oneE = (ls.take k).flatMap oneE ++ oneE d := by
  rw [List.take_add_one, h, List.flatMap_append]
  simp
theorem chk_step {ls : List ElemD} {k : Nat} {d : ElemD} (h : ls[k]? = some d) (hk : (ls.take k).all (fun d => chkE d == 0) = true) (hp : chkE d = 0) : (ls.take (k + 1)).all (fun d => chkE d == 0) = true := by
  rw [List.take_add_one, h, List.all_append, hk]
  simp [hp]

/-- the value of digits; other bytes count for nothing -/
def hexR : List UInt8 → Int → Int
  | [], n => n
  | b :: r, n => hexR r (if 0 ≤ hexVal (b.toNat : Int) then 16 * n + hexVal (b.toNat : Int) else n)
theorem numL_hexR : ∀ (l : List UInt8) (n : Int) {c : Int}, numL l n = some c → hexR l n = c
  | [], n, c, h => by simp [numL] at h; exact h
  | b :: r, n, c, h => by
    rw [numL] at h
    split at h
    · cases h
    · rename_i hb
      rw [hexR, if_pos (by omega), ← numL_hexR r _ h]
      congr 1
      omega
theorem numL_snoc : ∀ (l : List UInt8) (b : UInt8) (acc : Int), numL (l ++ [b]) acc = match numL l acc with | none => none | some c => if hexVal (b.toNat : Int) < 0 then none else some (c * 16 + hexVal (b.toNat : Int))
  | [], b, acc => by simp [numL]
  | a :: r, b, acc => by
    rw [List.cons_append, numL, numL]
    split
    · rfl
    · exact numL_snoc r b _
theorem hexC_back {b : UInt8} (h : 0 ≤ hexVal (b.toNat : Int)) : UInt8.ofNat (hexC (hexVal (b.toNat : Int)).toNat) = b := by
  have h1 := hexVal_is (b.toNat : Int)
  have h2 := hexC_is (hexVal (b.toNat : Int)).toNat
  have h3 : hexC (hexVal (b.toNat : Int)).toNat = b.toNat := by omega
  rw [h3]
  simp
/-- digits that are read are the digits of their value -/
theorem hexN_of_num : ∀ (n : Nat) (l : List UInt8) (c : Int), l.length = n → numL l 0 = some c → 0 ≤ c ∧ c < 16 ^ n ∧ hexN n c.toNat = l
  | 0, l, c, hl, h => by
    obtain rfl := List.length_eq_zero_iff.1 hl
    simp [numL] at h
    subst h
    simp [hexN]
  | n + 1, l, c, hl, h => by
    have hne : l ≠ [] := fun e => by rw [e] at hl; simp at hl
    obtain ⟨r, b, rfl⟩ : ∃ r b, l = r ++ [b] := ⟨l.dropLast, l.getLast hne, (List.dropLast_concat_getLast hne).symm⟩
    have hr : r.length = n := by simp at hl; exact hl
    rw [numL_snoc] at h
    cases hq : numL r 0 with
    | none => rw [hq] at h; cases h
    | some q =>
      rw [hq] at h
      dsimp only at h
      split at h
      · cases h
      · rename_i hb
        obtain ⟨i1, i2, i3⟩ := hexN_of_num n r q hr hq
        have hv := hexVal_le (b.toNat : Int)
        simp only [Option.some.injEq] at h
        subst h
        refine ⟨by omega, by rw [Int.pow_succ]; omega, ?_⟩
        rw [hexN]
        have e1 : (q * 16 + hexVal (b.toNat : Int)).toNat / 16 = q.toNat := by omega
        have e2 : (q * 16 + hexVal (b.toNat : Int)).toNat % 16 = (hexVal (b.toNat : Int)).toNat := by omega
        rw [e1, e2, i3, hexC_back (by omega)]
theorem numL_hex4 {n : Int} (h0 : 0 ≤ n) (h1 : n ≤ 65535) : numL (hex4 n) 0 = some n := by
  have key : ∀ (k c : Nat), c < 16 ^ k → numL (hexN k c) 0 = some (c : Int) := by
    intro k
    induction k with
    | zero => intro c h; simp at h; subst h; rfl
    | succ k ih =>
      intro c h
      have h1 : c / 16 < 16 ^ k := by rw [Nat.pow_succ] at h; omega
      have hd := hexC_le (c % 16) (by omega)
      have e : (UInt8.ofNat (hexC (c % 16))).toNat = hexC (c % 16) := by rw [UInt8.toNat_ofNat']; omega
      have h2 : hexVal ((UInt8.ofNat (hexC (c % 16))).toNat : Int) = ((c % 16 : Nat) : Int) := by rw [e]; exact hexVal_hit (by omega) rfl
      rw [hexN, numL_snoc, ih (c / 16) h1]
      dsimp only
      rw [h2, if_neg (by omega)]
      congr 1
      omega
  obtain ⟨m, rfl⟩ := Int.eq_ofNat_of_zero_le h0
  exact key 4 m (by omega)
end Go.Proofs.YthogkokifiibnaaDoor
