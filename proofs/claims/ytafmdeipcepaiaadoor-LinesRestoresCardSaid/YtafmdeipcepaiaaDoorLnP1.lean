/- What Parse gives back, in plain terms: two texts joined; blanks at the ends. -/
import Derived.Test.YtafmdeipcepaiaaDoorLnL1
namespace Go.Proofs.YtafmdeipcepaiaaDoor
open Go.RowKit Go.Sort

def numP (k : Nat) : List (List UInt8) → List (Nat × List UInt8)
  | [] => []
  | p :: ps => (k, p) :: numP (k + 1) ps
def goodP (xs : List (Nat × List UInt8)) : List LineD := xs.flatMap fun q => ((lineQ q).getD none).toList
def badP (xs : List (Nat × List UInt8)) : Option Nat := (xs.find? fun q => (lineQ q).isNone).map (·.1)
theorem enL_num : ∀ (j : Nat) (ps : List (List UInt8)), j + ps.length ≤ 65538 → (∀ p ∈ ps, p.length ≤ 65536) → (enL j ps).map (·.1) = numP j ps
  | _, [], _, _ => rfl
  | j, p :: ps, h, hp => by
    rw [enL, mkNL_of (by simp at h; omega) (hp p (by simp)), List.map_cons, numP, enL_num (j + 1) ps (by simp at h; omega) (fun q hq => hp q (by simp [hq]))]
theorem goodL_P (xs : List NL) : goodL xs = goodP (xs.map (·.1)) := by simp [goodL, goodP, List.flatMap_map]
theorem badL_P (xs : List NL) : badL xs = badP (xs.map (·.1)) := by
  unfold badL badP
  rw [List.find?_map]
  cases h : xs.find? ((fun q => (lineQ q).isNone) ∘ fun x => x.1) with
  | none => rw [show xs.find? (fun x => (lineQ x.1).isNone) = none from h]; rfl
  | some y => rw [show xs.find? (fun x => (lineQ x.1).isNone) = some y from h]; rfl
def goodN (l : List UInt8) : List LineD := goodP (numP 1 (splitL 10 l))
def badN (l : List UInt8) : Option Nat := badP (numP 1 (splitL 10 l))
theorem linesOf_num {l : List UInt8} (hl : l.length ≤ 65536) : (linesOf l).map (·.1) = numP 1 (splitL 10 l) := by
  refine enL_num 1 _ ?_ (fun p hp => Nat.le_trans (splitL_piece_le 10 l p hp) hl)
  have h := linesOf_length l
  rw [show (linesOf l).length = (splitL 10 l).length from enL_length 1 _] at h
  omega
theorem goodN_of {l : List UInt8} (hl : l.length ≤ 65536) : goodL (linesOf l) = goodN l := by rw [goodL_P, linesOf_num hl, goodN]
theorem badN_of {l : List UInt8} (hl : l.length ≤ 65536) : badL (linesOf l) = badN l := by rw [badL_P, linesOf_num hl, badN]

theorem numP_append : ∀ (j : Nat) (xs ys : List (List UInt8)), numP j (xs ++ ys) = numP j xs ++ numP (j + xs.length) ys
  | _, [], _ => rfl
  | j, x :: xs, ys => by
    rw [List.cons_append, numP, numP, numP_append (j + 1) xs ys, List.cons_append, List.length_cons, show j + 1 + xs.length = j + (xs.length + 1) by omega]
theorem goodP_append (xs ys : List (Nat × List UInt8)) : goodP (xs ++ ys) = goodP xs ++ goodP ys := by simp [goodP]
theorem badP_append (xs ys : List (Nat × List UInt8)) : badP (xs ++ ys) = (badP xs).or (badP ys) := by
  unfold badP
  rw [List.find?_append]
  cases xs.find? (fun q => (lineQ q).isNone) <;> simp
def moveD (n : Nat) (d : LineD) : LineD := { d with num := d.num + n }
theorem lineQ_move (k n : Nat) (p : List UInt8) : lineQ (k + n, p) = (lineQ (k, p)).map (·.map (moveD n)) := by
  unfold lineQ
  dsimp only
  split
  · rfl
  · cases spanP (trimL ((splitL 59 (commentP p).1).headD [])) with
    | none => rfl
    | some r => simp [moveD]
theorem goodP_move (n : Nat) : ∀ (j : Nat) (ps : List (List UInt8)), goodP (numP (j + n) ps) = shiftL n (goodP (numP j ps))
  | _, [] => rfl
  | j, p :: ps => by
    have ih := goodP_move n (j + 1) ps
    unfold goodP at ih ⊢
    rw [numP, numP, List.flatMap_cons, List.flatMap_cons, show j + n + 1 = j + 1 + n by omega, ih, lineQ_move]
    unfold shiftL
    rw [List.map_append]
    congr 1
    cases lineQ (j, p) with
    | none => rfl
    | some o => cases o <;> simp [moveD]
theorem badP_move (n : Nat) : ∀ (j : Nat) (ps : List (List UInt8)), badP (numP (j + n) ps) = (badP (numP j ps)).map (· + n)
  | _, [] => rfl
  | j, p :: ps => by
    have ih := badP_move n (j + 1) ps
    unfold badP at ih ⊢
    rw [numP, numP, List.find?_cons, List.find?_cons, lineQ_move]
    cases lineQ (j, p) with
    | none => simp
    | some o =>
      simp only [Option.map_some, Option.isNone_some]
      rw [show j + n + 1 = j + 1 + n by omega, ih]
theorem splitL_join (c : UInt8) : ∀ a b : List UInt8, splitL c (a ++ c :: b) = splitL c a ++ splitL c b
  | [], b => by rw [List.nil_append, splitL_hit]; rfl
  | x :: a, b => by
    have ih := splitL_join c a b
    by_cases hx : x = c
    · subst hx
      rw [List.cons_append, splitL_hit, splitL_hit, ih, List.cons_append]
    · rw [List.cons_append, splitL_miss hx, splitL_miss hx, ih]
      cases h : splitL c a with
      | nil => exact absurd h (splitL_ne c a)
      | cons p ps => simp
theorem goodN_join (a b : List UInt8) : goodN (a ++ 10 :: b) = goodN a ++ shiftL (splitL 10 a).length (goodN b) := by
  unfold goodN
  rw [splitL_join, numP_append, goodP_append, goodP_move]
theorem badN_join (a b : List UInt8) : badN (a ++ 10 :: b) = (badN a).or ((badN b).map (· + (splitL 10 a).length)) := by
  unfold badN
  rw [splitL_join, numP_append, badP_append, badP_move]
/-- Parse of two texts that are joined by a line feed -/
theorem join_res {a b : List UInt8} (h : (a ++ 10 :: b).length ≤ 65536) :
    (fltE a = 3 → fltE (a ++ 10 :: b) = fltE a ∧ fltK (a ++ 10 :: b) = fltK a ∧ resL (a ++ 10 :: b) = []) ∧
    (fltE a = 0 → fltE b = 3 → fltE (a ++ 10 :: b) = fltE b ∧ fltK (a ++ 10 :: b) = fltK b + (splitL 10 a).length ∧ resL (a ++ 10 :: b) = []) ∧
    (fltE a = 0 → fltE b = 0 → fltE (a ++ 10 :: b) = 0 ∧ fltK (a ++ 10 :: b) = 0 ∧ resL (a ++ 10 :: b) = resL a ++ shiftL (splitL 10 a).length (resL b)) := by
  have ha : a.length ≤ 65536 := by simp at h; omega
  have hb : b.length ≤ 65536 := by simp at h; omega
  unfold fltE fltK resL
  rw [badN_of h, badN_of ha, badN_of hb, goodN_of h, goodN_of ha, goodN_of hb, badN_join, goodN_join]
  cases h1 : badN a <;> cases h2 : badN b <;> simp
theorem fltE_or (l : List UInt8) : fltE l = 3 ∨ fltE l = 0 := by unfold fltE; split <;> simp
end Go.Proofs.YtafmdeipcepaiaaDoor
