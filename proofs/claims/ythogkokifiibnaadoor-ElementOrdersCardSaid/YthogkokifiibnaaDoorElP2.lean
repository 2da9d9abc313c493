/- Elements read from a text: plain laws. -/
import Derived.Test.YthogkokifiibnaaDoorElP1
namespace Go.Proofs.YthogkokifiibnaaDoor
open Go.RowKit Go.Sort

def byteE (l : List UInt8) (k : Nat) : UInt8 := l.getD k 0
/-- the element that a text of 17 bytes denotes -/
def elemT (t : List UInt8) : Option ElemD :=
  if byteE t 0 = 91 ∧ (byteE t 1 = 46 ∨ byteE t 1 = 42) ∧ byteE t 6 = 46 ∧ byteE t 11 = 46 ∧ byteE t 16 = 93 then
    match numL (seg t 2 6) 0, numL (seg t 7 11) 0, numL (seg t 12 16) 0 with
    | some p, some q, some r => some ⟨p, q, r, byteE t 1 == 42⟩
    | _, _, _ => none
  else none
/-- what the reference takes for it -/
def guessE (t : List UInt8) : ElemD := ⟨hexR (seg t 2 6) 0, hexR (seg t 7 11) 0, hexR (seg t 12 16) 0, byteE t 1 == 42⟩
theorem elemT_one {t : List UInt8} (ht : t.length = 17) {d : ElemD} (h : elemT t = some d) : oneE d = t ∧ guessE t = d ∧ inW d.p = true ∧ inW d.s = true ∧ inW d.t = true := by
  match t, ht with
  | [a0, a1, a2, a3, a4, a5, a6, a7, a8, a9, a10, a11, a12, a13, a14, a15, a16], _ =>
    unfold elemT at h
    split at h
    · rename_i hc
      have s1 : seg [a0, a1, a2, a3, a4, a5, a6, a7, a8, a9, a10, a11, a12, a13, a14, a15, a16] 2 6 = [a2, a3, a4, a5] := rfl
      have s2 : seg [a0, a1, a2, a3, a4, a5, a6, a7, a8, a9, a10, a11, a12, a13, a14, a15, a16] 7 11 = [a7, a8, a9, a10] := rfl
      have s3 : seg [a0, a1, a2, a3, a4, a5, a6, a7, a8, a9, a10, a11, a12, a13, a14, a15, a16] 12 16 = [a12, a13, a14, a15] := rfl
      rw [s1, s2, s3] at h
      cases h1 : numL [a2, a3, a4, a5] 0 with
      | none => rw [h1] at h; cases h
      | some p =>
        cases h2 : numL [a7, a8, a9, a10] 0 with
        | none => rw [h1, h2] at h; cases h
        | some q =>
          cases h3 : numL [a12, a13, a14, a15] 0 with
          | none => rw [h1, h2, h3] at h; cases h
          | some r =>
            rw [h1, h2, h3] at h
            simp only [Option.some.injEq] at h
            subst h
            obtain ⟨p1, p2, p3⟩ := hexN_of_num 4 _ _ rfl h1
            obtain ⟨q1, q2, q3⟩ := hexN_of_num 4 _ _ rfl h2
            obtain ⟨r1, r2, r3⟩ := hexN_of_num 4 _ _ rfl h3
            obtain ⟨c0, c1, c6, c11, c16⟩ := hc
            have e0 : a0 = 91 := c0
            have e1 : a1 = 46 ∨ a1 = 42 := c1
            have e6 : a6 = 46 := c6
            have e11 : a11 = 46 := c11
            have e16 : a16 = 93 := c16
            subst e0 e6 e11 e16
            refine ⟨?_, ?_, by simp [inW]; omega, by simp [inW]; omega, by simp [inW]; omega⟩
            · unfold oneE hex4
              dsimp only
              rw [p3, q3, r3]
              have es : signE ⟨p, q, r, byteE [91, a1, a2, a3, a4, a5, 46, a7, a8, a9, a10, 46, a12, a13, a14, a15, 93] 1 == 42⟩ = a1 := by
                show (if (a1 == 42) = true then (42 : UInt8) else 46) = a1
                rcases e1 with rfl | rfl <;> rfl
              rw [es]
              rfl
            · unfold guessE
              rw [s1, s2, s3, numL_hexR _ _ h1, numL_hexR _ _ h2, numL_hexR _ _ h3]
    · cases h
theorem num_of_hexN (n : Nat) : ∃ c, numL (hexN 4 n) 0 = some c := by
  have hv : ∀ k, k < 16 → ¬ hexVal ((UInt8.ofNat (hexC k)).toNat : Int) < 0 := fun k hk => by
    have hd := hexC_le k hk
    have e : (UInt8.ofNat (hexC k)).toNat = hexC k := by rw [UInt8.toNat_ofNat']; omega
    rw [e, hexVal_hit hk rfl]
    omega
  have : hexN 4 n = [UInt8.ofNat (hexC (n / 16 / 16 / 16 % 16)), UInt8.ofNat (hexC (n / 16 / 16 % 16)), UInt8.ofNat (hexC (n / 16 % 16)), UInt8.ofNat (hexC (n % 16))] := rfl
  rw [this]
  simp only [numL]
  rw [if_neg (hv _ (by omega)), if_neg (hv _ (by omega)), if_neg (hv _ (by omega)), if_neg (hv _ (by omega))]
  exact ⟨_, rfl⟩
theorem elemT_back {t : List UInt8} (h : oneE (guessE t) = t) : elemT t = some (guessE t) := by
  have key : ∀ g : ElemD, guessE t = g → oneE g = t → elemT t = some g := by
    intro g hg h
    obtain ⟨p, q, r, v⟩ := g
    obtain ⟨c1, h1⟩ := num_of_hexN p.toNat
    obtain ⟨c2, h2⟩ := num_of_hexN q.toNat
    obtain ⟨c3, h3⟩ := num_of_hexN r.toNat
    have e : oneE ⟨p, q, r, v⟩ = [91, signE ⟨p, q, r, v⟩] ++ hexN 4 p.toNat ++ [46] ++ hexN 4 q.toNat ++ [46] ++ hexN 4 r.toNat ++ [93] := rfl
    have s1 : seg t 2 6 = hexN 4 p.toNat := by rw [← h, e]; rfl
    have s2 : seg t 7 11 = hexN 4 q.toNat := by rw [← h, e]; rfl
    have s3 : seg t 12 16 = hexN 4 r.toNat := by rw [← h, e]; rfl
    have b0 : byteE t 0 = 91 := by rw [← h, e]; rfl
    have b1 : byteE t 1 = signE ⟨p, q, r, v⟩ := by rw [← h, e]; rfl
    have b6 : byteE t 6 = 46 := by rw [← h, e]; rfl
    have b11 : byteE t 11 = 46 := by rw [← h, e]; rfl
    have b16 : byteE t 16 = 93 := by rw [← h, e]; rfl
    unfold guessE at hg
    rw [s1, s2, s3, numL_hexR _ _ h1, numL_hexR _ _ h2, numL_hexR _ _ h3] at hg
    unfold elemT
    rw [s1, s2, s3, h1, h2, h3, if_pos ⟨b0, by rw [b1]; unfold signE; cases v <;> simp, b6, b11, b16⟩]
    simp only
    rw [hg]
  exact key _ rfl h
theorem elemT_eq {t : List UInt8} (ht : t.length = 17) : elemT t = if oneE (guessE t) = t then some (guessE t) else none := by
  by_cases h : oneE (guessE t) = t
  · rw [if_pos h, elemT_back h]
  · rw [if_neg h]
    cases he : elemT t with
    | none => rfl
    | some d =>
      obtain ⟨h1, h2, _⟩ := elemT_one ht he
      rw [h2] at h
      exact absurd h1 h
/-- the elements of a text -/
def readN : Nat → List UInt8 → Option (List ElemD)
  | 0, l => if l = [] then some [] else none
  | n + 1, l => if l = [] then some [] else if l.length < 17 then none else match elemT (l.take 17) with | some d => (readN n (l.drop 17)).map (d :: ·) | none => none
def readE (l : List UInt8) : Option (List ElemD) := readN l.length l
theorem readN_more : ∀ (n m : Nat) (l : List UInt8), l.length ≤ n → l.length ≤ m → readN n l = readN m l
  | 0, m, l, h1, _ => by
    obtain rfl := List.length_eq_zero_iff.1 (by omega : l.length = 0)
    cases m <;> rfl
  | n + 1, 0, l, _, h2 => by
    obtain rfl := List.length_eq_zero_iff.1 (by omega : l.length = 0)
    rfl
  | n + 1, m + 1, l, h1, h2 => by
    unfold readN
    split
    · rfl
    · split
      · rfl
      · rename_i hl
        rw [readN_more n m (l.drop 17) (by simp; omega) (by simp; omega)]
theorem readE_nil : readE [] = some [] := rfl
theorem readE_short {l : List UInt8} (h0 : l ≠ []) (h : l.length < 17) : readE l = none := by
  unfold readE
  cases hl : l.length with
  | zero => exact absurd (List.length_eq_zero_iff.1 hl) h0
  | succ n => rw [readN, if_neg h0, if_pos (by omega)]
theorem readE_step {l : List UInt8} (h : 17 ≤ l.length) : readE l = match elemT (l.take 17) with | some d => (readE (l.drop 17)).map (d :: ·) | none => none := by
  unfold readE
  cases hl : l.length with
  | zero => omega
  | succ n =>
    rw [readN, if_neg (fun e => by rw [e] at hl; simp at hl), if_neg (by omega), readN_more n (l.drop 17).length (l.drop 17) (by simp; omega) (Nat.le_refl _)]
theorem readE_mod : ∀ (n : Nat) {l : List UInt8}, l.length ≤ n → l.length % 17 ≠ 0 → readE l = none
  | 0, l, h, hm => by omega
  | n + 1, l, h, hm => by
    by_cases h17 : 17 ≤ l.length
    · rw [readE_step h17, readE_mod n (l := l.drop 17) (by simp; omega) (by simp; omega)]
      cases elemT (l.take 17) <;> rfl
    · exact readE_short (fun e => by rw [e] at hm; simp at hm) (by omega)
end Go.Proofs.YthogkokifiibnaaDoor
