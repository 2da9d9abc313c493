/- What Parse gives back is valid; its numbers ascend. -/
import Derived.Test.YtafmdeipcepaiaaDoorLn19
import Derived.Test.YtafmdeipcepaiaaDoorLnL3
namespace Go.Proofs.YtafmdeipcepaiaaDoor
open Go.RowKit Go.Sort

theorem dropWhile_twice (p : UInt8 → Bool) : ∀ l : List UInt8, (l.dropWhile p).dropWhile p = l.dropWhile p
  | [] => rfl
  | b :: l => by
    rw [List.dropWhile_cons]
    split
    · exact dropWhile_twice p l
    · rename_i h
      rw [List.dropWhile_cons, if_neg h]
theorem trimLft_twice (l : List UInt8) : trimLft (trimLft l) = trimLft l := dropWhile_twice isB l
theorem trimRgt_twice (l : List UInt8) : trimRgt (trimRgt l) = trimRgt l := by unfold trimRgt; rw [List.reverse_reverse, dropWhile_twice]
theorem trimL_twice (l : List UInt8) : trimL (trimL l) = trimL l := by
  show trimLft (trimRgt (trimLft (trimRgt l))) = _
  rw [trim_comm (trimRgt l)]
  show trimLft (trimLft (trimRgt (trimRgt l))) = _
  rw [trimLft_twice, trimRgt_twice]
  rfl
theorem mem_trimL {b : UInt8} {l : List UInt8} (h : b ∈ trimL l) : b ∈ l := by
  unfold trimL trimLft trimRgt at h
  have h1 := (List.dropWhile_suffix isB).subset h
  rw [List.mem_reverse] at h1
  exact List.mem_reverse.1 ((List.dropWhile_suffix isB).subset h1)
theorem parseCp_valid {l : List UInt8} {x : Int} (h : parseCp l = some x) : validB x = true := by
  unfold parseCp at h
  split at h
  · cases h
  · rename_i hl
    split at h
    · cases h
    · split at h
      · rename_i c _ hh
        cases h
        cases hv : validB x with
        | true => rfl
        | false =>
          rw [hexL_no hv] at hh
          rw [← hh] at hl
          simp at hl
      · cases h
theorem spanP_valid {l : List UInt8} {q : Int × Int} (h : spanP l = some q) : validB q.1 = true ∧ validB q.2 = true ∧ q.1 ≤ q.2 := by
  unfold spanP at h
  split at h
  · split at h
    · rename_i x y hx hy
      split at h
      · cases h
        rename_i hle
        exact ⟨parseCp_valid hx, parseCp_valid hy, hle⟩
      · cases h
    · cases h
  · split at h
    · rename_i x hx
      cases h
      exact ⟨parseCp_valid hx, parseCp_valid hx, Int.le_refl _⟩
    · cases h
theorem mem_split {c b : UInt8} : ∀ {l p : List UInt8}, p ∈ splitL c l → b ∈ p → b ∈ l
  | [], p, h, hb => by simp [splitL] at h; subst h; cases hb
  | x :: l, p, h, hb => by
    by_cases hx : x = c
    · subst hx
      rw [splitL_hit] at h
      rcases List.mem_cons.1 h with rfl | h
      · cases hb
      · exact List.mem_cons_of_mem _ (mem_split h hb)
    · rw [splitL_miss hx] at h
      cases hs : splitL c l with
      | nil => exact absurd hs (splitL_ne c l)
      | cons q qs =>
        rw [hs] at h
        rcases List.mem_cons.1 h with rfl | h
        · rcases List.mem_cons.1 hb with rfl | hb
          · exact List.mem_cons_self
          · exact List.mem_cons_of_mem _ (mem_split (c := c) (p := q) (by rw [hs]; simp) hb)
        · exact List.mem_cons_of_mem _ (mem_split (c := c) (by rw [hs]; simp [h]) hb)
theorem comment_data {p : List UInt8} : (35 : UInt8) ∉ (commentP p).1 ∧ (∀ b ∈ (commentP p).1, b ∈ p) ∧ (∀ b ∈ (commentP p).2, b ∈ p) ∧ trimL (commentP p).2 = (commentP p).2 := by
  unfold commentP
  cases h : cutB 35 p with
  | none => exact ⟨cutB_none.1 h, fun _ h => h, fun _ h => (by cases h), rfl⟩
  | some q =>
    obtain ⟨e, hn⟩ := cutB_some (a := q.1) (r := q.2) h
    refine ⟨hn, fun b hb => by rw [e]; simp [hb], fun b hb => by rw [e]; simp [mem_trimL hb], trimL_twice _⟩
theorem lineQ_ok {k : Nat} {p : List UInt8} {d : LineD} (hp : (10 : UInt8) ∉ p) (h : lineQ (k, p) = some (some d)) : chkL d = 0 := by
  obtain ⟨r, hr, rfl⟩ := lineQ_some h
  obtain ⟨v1, v2, v3⟩ := spanP_valid hr
  obtain ⟨c1, c2, c3, c4⟩ := comment_data (p := p)
  unfold chkL
  dsimp only
  have h1 : ((splitL 59 (commentP p).1).drop 1 |>.map trimL).all fieldOk = true := by
    rw [List.all_eq_true]
    intro f hf
    obtain ⟨g, hg, rfl⟩ := List.mem_map.1 hf
    have hg' := List.mem_of_mem_drop hg
    have hfree := splitL_mem hg'
    unfold fieldOk
    rw [trimL_twice, any_three]
    have key : ∀ c : UInt8, c ∉ g → (trimL g).contains c = false := fun c hc => by
      rw [List.contains_eq_mem]
      simp only [decide_eq_false_iff_not]
      exact fun hm => hc (mem_trimL hm)
    rw [key 59 hfree, key 35 (fun hm => c1 (mem_split hg' hm)), key 10 (fun hm => hp (c2 _ (mem_split hg' hm)))]
    simp
  have h2 : comOk (commentP p).2 = true := by
    unfold comOk
    rw [c4, show (commentP p).2.contains 10 = false by rw [List.contains_eq_mem]; simp only [decide_eq_false_iff_not]; exact fun hm => hp (c3 _ hm)]
    simp
  rw [h1, h2, v1, v2, decide_eq_true v3]
  rfl
theorem good_mem : ∀ {xs : List (Nat × List UInt8)} {d : LineD}, d ∈ goodP xs → ∃ q ∈ xs, lineQ q = some (some d)
  | [], d, h => by cases h
  | x :: xs, d, h => by
    unfold goodP at h
    rw [List.flatMap_cons] at h
    rcases List.mem_append.1 h with h | h
    · refine ⟨x, by simp, ?_⟩
      cases hq : lineQ x with
      | none => rw [hq] at h; cases h
      | some o =>
        rw [hq] at h
        cases o with
        | none => cases h
        | some e => simp at h; rw [h]
    · obtain ⟨q, hq, e⟩ := good_mem (xs := xs) h
      exact ⟨q, by simp [hq], e⟩
theorem num_mem : ∀ {j : Nat} {ps : List (List UInt8)} {q : Nat × List UInt8}, q ∈ numP j ps → j ≤ q.1 ∧ q.1 < j + ps.length ∧ q.2 ∈ ps
  | _, [], _, h => by cases h
  | j, p :: ps, q, h => by
    rw [numP] at h
    rcases List.mem_cons.1 h with rfl | h
    · simp
    · obtain ⟨h1, h2, h3⟩ := num_mem h
      exact ⟨by omega, by simp; omega, by simp [h3]⟩
theorem good_up : ∀ (j : Nat) (ps : List (List UInt8)), (goodP (numP j ps)).Pairwise (fun a b => a.num < b.num)
  | _, [] => List.Pairwise.nil
  | j, p :: ps => by
    have ih := good_up (j + 1) ps
    have hs : goodP (numP j (p :: ps)) = ((lineQ (j, p)).getD none).toList ++ goodP (numP (j + 1) ps) := by simp [goodP, numP]
    rw [hs]
    cases hq : lineQ (j, p) with
    | none => simpa using ih
    | some o =>
      cases o with
      | none => simpa using ih
      | some d =>
        show (d :: goodP (numP (j + 1) ps)).Pairwise _
        refine List.Pairwise.cons (fun e he => ?_) ih
        obtain ⟨q, hm, hq'⟩ := good_mem he
        obtain ⟨r, _, rfl⟩ := lineQ_some hq
        obtain ⟨r', _, rfl⟩ := lineQ_some hq'
        have := (num_mem hm).1
        show (j : Int) < (q.1 : Int)
        omega
/-- what is read is valid, and its numbers ascend -/
structure ValidL (n : Nat) (ls : List LineD) : Prop where
  ok : ∀ d ∈ ls, chkL d = 0
  rng : ∀ d ∈ ls, 1 ≤ d.num ∧ d.num ≤ n
  up : ls.Pairwise (fun a b => a.num < b.num)
theorem res_valid {l : List UInt8} (hl : l.length ≤ 65536) : ValidL (splitL 10 l).length (resL l) := by
  unfold resL
  split
  · exact ⟨fun d h => (by cases h), fun d h => (by cases h), List.Pairwise.nil⟩
  · rw [goodN_of hl]
    refine ⟨fun d h => ?_, fun d h => ?_, good_up _ _⟩
    · obtain ⟨q, hm, hq⟩ := good_mem h
      exact lineQ_ok (splitL_mem (num_mem hm).2.2) hq
    · obtain ⟨q, hm, hq⟩ := good_mem h
      obtain ⟨r, _, rfl⟩ := lineQ_some hq
      obtain ⟨h1, h2, _⟩ := num_mem hm
      exact ⟨by show (1 : Int) ≤ (q.1 : Int); omega, by show (q.1 : Int) ≤ _; omega⟩
theorem flt_rng {l : List UInt8} (hl : l.length ≤ 65536) (h : fltE l = 3) : 1 ≤ fltK l ∧ fltK l ≤ (splitL 10 l).length ∧ resL l = [] := by
  unfold fltE at h
  unfold fltK resL
  rw [badN_of hl] at h ⊢
  cases hb : badN l with
  | none => rw [hb] at h; cases h
  | some k =>
    unfold badN badP at hb
    cases hf : (numP 1 (splitL 10 l)).find? (fun q => (lineQ q).isNone) with
    | none => rw [hf] at hb; cases hb
    | some y =>
      rw [hf] at hb
      simp at hb
      obtain ⟨h1, h2, _⟩ := num_mem (List.mem_of_find?_eq_some hf)
      refine ⟨by simp only; omega, by simp only; omega, by simp⟩
theorem last_up {n : Nat} {ls : List LineD} (h : ValidL n ls) {k : Nat} (hk : k < ls.length) : (if k = 0 then 0 else (lineAt ls (k - 1)).num) < (lineAt ls k).num := by
  have hm : lineAt ls k ∈ ls := by simp [lineAt, hk]
  split
  · have := (h.rng _ hm).1; omega
  · have h1 := List.pairwise_iff_getElem.1 h.up (k - 1) k (by omega) hk (by omega)
    rw [show lineAt ls (k - 1) = ls[k - 1] by simp [lineAt, show k - 1 < ls.length by omega], show lineAt ls k = ls[k] by simp [lineAt, hk]]
    exact h1
end Go.Proofs.YtafmdeipcepaiaaDoor
