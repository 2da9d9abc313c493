/- Blanks at the ends of lines change nothing. -/
import Derived.Test.YtafmdeipcepaiaaDoorLnP1
namespace Go.Proofs.YtafmdeipcepaiaaDoor
open Go.RowKit Go.Sort

theorem trimLft_pre {x : List UInt8} (hx : x.all isB = true) (l : List UInt8) : trimLft (x ++ l) = trimLft l := by
  unfold trimLft
  induction x with
  | nil => rfl
  | cons b r ih =>
    simp only [List.all_cons, Bool.and_eq_true] at hx
    rw [List.cons_append, List.dropWhile_cons, if_pos hx.1, ih hx.2]
theorem trimRgt_suf {y : List UInt8} (hy : y.all isB = true) (l : List UInt8) : trimRgt (l ++ y) = trimRgt l := by
  unfold trimRgt
  rw [List.reverse_append]
  have := trimLft_pre (x := y.reverse) (by simpa using hy) l.reverse
  unfold trimLft at this
  rw [this]
theorem trimL_suf {y : List UInt8} (hy : y.all isB = true) (l : List UInt8) : trimL (l ++ y) = trimL l := by unfold trimL; rw [trimRgt_suf hy]
theorem trimL_pre {x : List UInt8} (hx : x.all isB = true) (l : List UInt8) : trimL (x ++ l) = trimL l := by rw [← trim_comm, trimLft_pre hx, trim_comm]

theorem isB_ne {b c : UInt8} (hb : isB b = true) (hc : isB c = false) : ¬ b = c := fun e => by rw [e, hc] at hb; cases hb
theorem splitL_pre {c : UInt8} (hc : isB c = false) {x : List UInt8} (hx : x.all isB = true) (l : List UInt8) : (splitL c (x ++ l)).map trimL = (splitL c l).map trimL := by
  induction x with
  | nil => rfl
  | cons b r ih =>
    simp only [List.all_cons, Bool.and_eq_true] at hx
    have ih := ih hx.2
    rw [List.cons_append, splitL_miss (isB_ne hx.1 hc)]
    cases h : splitL c (r ++ l) with
    | nil => exact absurd h (splitL_ne c _)
    | cons p ps =>
      rw [h] at ih
      rw [← ih]
      simp only [List.map_cons, List.cons.injEq, and_true]
      exact trimL_pre (x := [b]) (by simp [hx.1]) p
theorem splitL_free {c : UInt8} : ∀ {y : List UInt8}, c ∉ y → splitL c y = [y]
  | [], _ => rfl
  | b :: y, h => by
    rw [splitL_miss (fun e => h (by simp [e])), splitL_free (fun e => h (by simp [e]))]
def lastP (ps : List (List UInt8)) : List UInt8 := ps.getLast?.getD []
theorem lastP_cons (p : List UInt8) {ps : List (List UInt8)} (h : ps ≠ []) : lastP (p :: ps) = lastP ps := by
  cases ps with
  | nil => exact absurd rfl h
  | cons q qs => simp [lastP, List.getLast?_cons_cons]
theorem drop_lastP : ∀ {ps : List (List UInt8)}, ps ≠ [] → ps.dropLast ++ [lastP ps] = ps
  | [], h => absurd rfl h
  | [p], _ => rfl
  | p :: q :: qs, _ => by
    rw [lastP_cons p (by simp), List.dropLast_cons_of_ne_nil (by simp), List.cons_append, drop_lastP (ps := q :: qs) (by simp)]
theorem splitL_app {c : UInt8} {y : List UInt8} (hy : c ∉ y) : ∀ l : List UInt8, splitL c (l ++ y) = (splitL c l).dropLast ++ [lastP (splitL c l) ++ y]
  | [] => by rw [List.nil_append, splitL_free hy]; rfl
  | b :: l => by
    have ih := splitL_app hy l
    by_cases hb : b = c
    · subst hb
      rw [List.cons_append, splitL_hit, splitL_hit, ih, lastP_cons _ (splitL_ne _ _), List.dropLast_cons_of_ne_nil (splitL_ne _ _), List.cons_append]
    · rw [List.cons_append, splitL_miss hb, splitL_miss hb, ih]
      cases h : splitL c l with
      | nil => exact absurd h (splitL_ne c _)
      | cons p ps =>
        cases ps with
        | nil => rfl
        | cons q qs => simp only [List.dropLast_cons_of_ne_nil (by simp : q :: qs ≠ []), List.cons_append, lastP_cons _ (by simp : q :: qs ≠ [])]
theorem splitL_suf {c : UInt8} (hc : isB c = false) {y : List UInt8} (hy : y.all isB = true) (l : List UInt8) : (splitL c (l ++ y)).map trimL = (splitL c l).map trimL := by
  have hn : c ∉ y := fun h => by
    have := List.all_eq_true.1 hy c h
    rw [hc] at this
    cases this
  rw [splitL_app hn, List.map_append, List.map_singleton, trimL_suf hy]
  have := congrArg (List.map trimL) (drop_lastP (splitL_ne c l))
  rwa [List.map_append, List.map_singleton] at this
theorem cutB_pre {c : UInt8} : ∀ {x : List UInt8}, c ∉ x → ∀ l : List UInt8, cutB c (x ++ l) = (cutB c l).map fun q => (x ++ q.1, q.2)
  | [], _, l => by cases h : cutB c l <;> simp [h]
  | b :: x, hx, l => by
    rw [List.cons_append, cutB, if_neg (fun e => hx (by simp [e])), cutB_pre (fun h => hx (by simp [h])) l]
    cases cutB c l <;> simp
theorem cutB_suf {c : UInt8} {y : List UInt8} (hy : c ∉ y) : ∀ l : List UInt8, cutB c (l ++ y) = (cutB c l).map fun q => (q.1, q.2 ++ y)
  | [] => by
    rw [List.nil_append, cutB_none.2 hy]
    rfl
  | b :: l => by
    rw [List.cons_append, cutB, cutB, cutB_suf hy l]
    split
    · rfl
    · cases cutB c l <;> simp
def wideL (p : List UInt8) : List UInt8 := [32, 9] ++ p ++ [32, 13]
theorem lineQ_eq (k : Nat) (p : List UInt8) : lineQ (k, p) = if trimL (commentP p).1 = [] then some none else (spanP (((splitL 59 (commentP p).1).map trimL).headD [])).map fun r => some ⟨k, r.1, r.2, ((splitL 59 (commentP p).1).map trimL).drop 1, (commentP p).2⟩ := by
  unfold lineQ
  dsimp only
  obtain ⟨q, qs, h⟩ := splitL_cons 59 (commentP p).1
  rw [h]
  simp
theorem lineQ_wide (k : Nat) (p : List UInt8) : lineQ (k, wideL p) = lineQ (k, p) := by
  rw [lineQ_eq, lineQ_eq]
  have hx : ([32, 9] : List UInt8).all isB = true := by decide
  have hy : ([32, 13] : List UInt8).all isB = true := by decide
  have h1 : cutB 35 (wideL p) = (cutB 35 (p ++ [32, 13])).map fun q => ([32, 9] ++ q.1, q.2) := by
    unfold wideL
    rw [List.append_assoc]
    exact cutB_pre (by decide) _
  rw [cutB_suf (by decide)] at h1
  unfold commentP
  rw [h1]
  cases h : cutB 35 p with
  | none =>
    simp only [Option.map_none]
    unfold wideL
    rw [trimL_suf hy, trimL_pre hx, splitL_suf (by decide) hy, splitL_pre (by decide) hx]
  | some q =>
    simp only [Option.map_some]
    rw [trimL_pre hx, splitL_pre (by decide) hx, trimL_suf hy]
theorem goodP_wide : ∀ (j : Nat) (ps : List (List UInt8)), goodP (numP j (ps.map wideL)) = goodP (numP j ps)
  | _, [] => rfl
  | j, p :: ps => by
    have ih := goodP_wide (j + 1) ps
    unfold goodP at ih ⊢
    rw [List.map_cons, numP, numP, List.flatMap_cons, List.flatMap_cons, ih, lineQ_wide]
theorem badP_wide : ∀ (j : Nat) (ps : List (List UInt8)), badP (numP j (ps.map wideL)) = badP (numP j ps)
  | _, [] => rfl
  | j, p :: ps => by
    have ih := badP_wide (j + 1) ps
    unfold badP at ih ⊢
    rw [List.map_cons, numP, numP, List.find?_cons, List.find?_cons, lineQ_wide]
    cases (lineQ (j, p)).isNone with
    | true => rfl
    | false => exact ih
def head1 : List UInt8 := [35, 32, 48, 48, 52, 49, 59, 32, 120]
def head2 : List UInt8 := [32, 9]
theorem skip1 (k : Nat) : lineQ (k, head1) = some none := by
  unfold lineQ
  rw [if_pos (by kernel_rfl)]
theorem skip2 (k : Nat) : lineQ (k, head2) = some none := by
  unfold lineQ
  rw [if_pos (by kernel_rfl)]
/-- Parse of a text with a comment, an empty line and blanks put in -/
theorem wide_res {l t : List UInt8} (hl : l.length ≤ 65536) (ht : t.length ≤ 65536) (h : splitL 10 t = head1 :: head2 :: (splitL 10 l).map wideL) :
    fltE t = fltE l ∧ (fltE l = 3 → fltK t = fltK l + 2) ∧ (fltE l = 0 → fltK t = 0) ∧ resL t = shiftL 2 (resL l) := by
  have hg : goodN t = shiftL 2 (goodN l) := by
    unfold goodN
    rw [h, numP, numP]
    have := goodP_move 2 1 (splitL 10 l)
    rw [← goodP_wide (1 + 2)] at this
    unfold goodP at this ⊢
    rw [List.flatMap_cons, List.flatMap_cons, skip1, skip2]
    simpa using this
  have hb : badN t = (badN l).map (· + 2) := by
    unfold badN
    rw [h, numP, numP]
    have := badP_move 2 1 (splitL 10 l)
    rw [← badP_wide (1 + 2)] at this
    unfold badP at this ⊢
    rw [List.find?_cons, List.find?_cons, skip1, skip2]
    simpa using this
  unfold fltE fltK resL
  rw [badN_of hl, badN_of ht, goodN_of hl, goodN_of ht, hb, hg]
  cases badN l <;> simp [shiftL]
end Go.Proofs.YtafmdeipcepaiaaDoor
