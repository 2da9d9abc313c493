/- Comments in front of a file and behind it: plain. What ParseFile reads can be written: plain. -/
import Derived.Test.YthogkokifiibnaaGreatDoorA6
namespace Go.Proofs.YthogkokifiibnaaGreatDoor
open Go.RowKit Go.Sort

theorem step_blank (s : StF) {l : List UInt8} (h : contentP l = []) : stepF s l = some ⟨s.r, s.first, s.n + 1⟩ := by
  unfold stepF
  rw [h]
  rfl
theorem content_note (a note : List UInt8) (ha : (35 : UInt8) ∉ a) (ht : Lib.trimRightB a 32 = []) : contentP (a ++ 35 :: note) = [] := by
  unfold contentP
  rw [cutB_app ha note]
  exact ht
/-- a file with a comment and an empty line in front of it, and a comment behind it -/
theorem comments_parse {c : CollD} (h : OkC c) (hw : WfC c) {note : List UInt8} (hn : (10 : UInt8) ∉ note) (hl : (fileP c).length ≤ 10000) (hnl : note.length ≤ 40) :
    parseF ([32, 32, 35] ++ note ++ [10, 10] ++ fileP c ++ [35] ++ note) = (c, (0, 0)) := by
  have e : [32, 32, 35] ++ note ++ [10, 10] ++ fileP c ++ [35] ++ note = ([32, 32, 35] ++ note) ++ 10 :: ([] ++ 10 :: (fileP c ++ 35 :: note)) := by simp
  have h1 : (10 : UInt8) ∉ [32, 32, 35] ++ note := by
    intro hm
    rcases List.mem_append.1 hm with hm | hm
    · revert hm
      decide
    · exact hn hm
  have h2 : linesL (35 :: note) = [35 :: note] := linesL_none _ (cutB_none.2 (fun hm => by
    rcases List.mem_cons.1 hm with hm | hm
    · revert hm
      decide
    · exact hn hm)) (by simp)
  have c1 : contentP ([32, 32, 35] ++ note) = [] := content_note [32, 32] note (by decide) (by decide +kernel)
  have c2 : contentP (35 :: note) = [] := content_note [] note (by simp) (by decide +kernel)
  unfold parseF
  rw [if_neg (by simp; omega), e, linesL_cut _ (cutB_app h1 _), linesL_cut _ (cutB_app (by simp) _)]
  have e2 : linesL (fileP c ++ 35 :: note) = fileLs c ++ [35 :: note] := by
    unfold fileP
    rw [linesL_nl _ _ (fileLs_10 h), h2]
  rw [e2, runF, step_blank _ c1]
  dsimp only
  rw [runF, step_blank _ (show contentP [] = [] from rfl)]
  dsimp only
  have hs := steps_file h hw (0, 0) 2
  rw [show (⟨startF.r, startF.first, startF.n + 1 + 1⟩ : StF) = ⟨⟨zeroC, false⟩, (0, 0), 2⟩ from rfl, runF_app _ _ _ _ hs, runF, step_blank _ c2]
  rfl
end Go.Proofs.YthogkokifiibnaaGreatDoor
namespace Go.Proofs.YthogkokifiibnaaGreatDoor
open Go.RowKit Go.Sort

def rngI (n : Int) : Prop := 0 ≤ n ∧ n ≤ 9223372036854775807
structure OkR (N : Nat) (r : RdD) : Prop where
  b : rngI r.c.base ∧ rngI r.c.second ∧ rngI r.c.third
  g : ∀ x ∈ r.c.groups, rngI x.lo ∧ rngI x.hi ∧ nameB x.name = true
  e : ∀ x ∈ r.c.entries, allValid x.codes = true ∧ x.codes.length ≤ N + 1 ∧ x.els.length ≤ N
structure InvF (N : Nat) (s : StF) : Prop where
  r : OkR N s.r
  f : s.first.1 = 0 → ∀ x ∈ s.r.c.entries, chksE x.els = 0
  a : s.first.1 ≠ 0 → 1 ≤ s.first.2
  ne : s.r.c.entries.length ≤ s.n
  ng : s.r.c.groups.length ≤ s.n
theorem numsP_rng : ∀ (ps : List (List UInt8)) {ns : List Int}, numsP ps = some ns → ∀ n ∈ ns, rngI n
  | [], ns, h, n, hn => by simp [numsP] at h; subst h; cases hn
  | p :: ps, ns, h, n, hn => by
    rw [numsP] at h
    cases hp : numP p with
    | none => rw [hp] at h; cases h
    | some m =>
      rw [hp] at h
      cases hr : numsP ps with
      | none => rw [hr] at h; cases h
      | some r =>
        rw [hr] at h
        simp at h
        subst h
        rcases List.mem_cons.1 hn with rfl | hn
        · exact ⟨(numP_back hp).1, (numP_back hp).2.1⟩
        · exact numsP_rng ps hr n hn
theorem nth_rng {ns : List Int} (h : ∀ n ∈ ns, rngI n) (k : Nat) : rngI (nth ns k) := by
  by_cases hk : k < ns.length
  · exact h _ (nth_mem hk)
  · unfold nth
    rw [List.getD_eq_getElem?_getD, List.getElem?_eq_none (by omega)]
    exact ⟨by decide, by decide⟩
theorem codesFrom_len : ∀ (ps : List (List UInt8)) (acc : List Int), (codesFrom ps acc).1.length ≤ acc.length + ps.length
  | [], acc => by simp [codesFrom]
  | p :: ps, acc => by
    rw [codesFrom]
    cases parseCp p with
    | none => simp
    | some c =>
      have := codesFrom_len ps (acc ++ [c])
      simp at this ⊢
      omega
theorem parseCodes_len (l : List UInt8) : (parseCodesR l).1.length ≤ l.length + 1 := by
  unfold parseCodesR
  split
  · simp
  · have h := codesFrom_len (splitL 32 l) []
    rw [splitL_length] at h
    have := List.count_le_length (a := (32 : UInt8)) (l := l)
    simp at h
    omega
theorem cutS_len (l s : List UInt8) : (Lib.cut l s).1.length ≤ l.length ∧ (Lib.cut l s).2.1.length ≤ l.length := by
  unfold Lib.cut
  split
  · simp
    omega
  · simp
theorem contentS_len (l : List UInt8) : (contentP l).length ≤ l.length := by
  unfold contentP
  cases hc : cutB 35 l with
  | none => exact Nat.le_refl _
  | some p =>
    obtain ⟨e, _⟩ := cutB_some (a := p.1) (r := p.2) hc
    have h2 : p.1.length ≤ l.length := by rw [e]; simp
    have h := (List.dropWhile_sublist (l := p.1.reverse) (· == (32 : UInt8))).length_le
    rw [List.length_reverse] at h
    show (Lib.trimRightB p.1 32).length ≤ _
    unfold Lib.trimRightB
    rw [List.length_reverse]
    omega
theorem entP_ok {t : List UInt8} {x : EntryD} (h : entP t = some x) : allValid x.codes = true ∧ x.codes.length ≤ t.length + 1 ∧ x.els.length ≤ t.length := by
  unfold entP at h
  split at h
  · cases h
  · split at h
    · cases h
    · rename_i hc
      have hc : (parseCodesR (Lib.cut t [59, 32]).1).2 = 0 := Classical.byContradiction fun h => hc h
      cases hr : readE (Lib.cut t [59, 32]).2.1 with
      | none => rw [hr] at h; cases h
      | some es =>
        rw [hr] at h
        simp at h
        subst h
        have h1 := readE_len _ (Nat.le_refl _) hr
        have h2 := cutS_len t [59, 32]
        have h3 := parseCodes_len (Lib.cut t [59, 32]).1
        exact ⟨parseCodes_valid hc, by dsimp only; omega, by dsimp only; omega⟩
theorem step_inv {N : Nat} {s s' : StF} {l : List UInt8} (h : InvF N s) (hl : l.length ≤ N) (hs : stepF s l = some s') : InvF N s' ∧ s'.n = s.n + 1 := by
  unfold stepF at hs
  have hcl := contentS_len l
  generalize contentP l = t at hs hcl
  obtain ⟨hr, hf, ha, hne, hng⟩ := h
  unfold stepT at hs
  split at hs
  · injection hs with hs
    subst hs
    exact ⟨⟨hr, hf, ha, by dsimp only; omega, by dsimp only; omega⟩, rfl⟩
  · cases hb : baseP s.r t with
    | some r' =>
      rw [hb] at hs
      injection hs with hs
      subst hs
      unfold baseP at hb
      split at hb
      · cases hb
      · cases hn : numsP ((splitL 32 t).drop 1) with
        | none => rw [hn] at hb; cases hb
        | some ns =>
          rw [hn] at hb
          injection hb with hb
          subst hb
          have hrg := numsP_rng _ hn
          exact ⟨⟨⟨⟨nth_rng hrg 0, nth_rng hrg 1, nth_rng hrg 2⟩, hr.g, hr.e⟩, hf, ha, by dsimp only; omega, by dsimp only; omega⟩, rfl⟩
    | none =>
      rw [hb] at hs
      cases hg : groupP s.r t with
      | some r' =>
        rw [hg] at hs
        injection hs with hs
        subst hs
        unfold groupP at hg
        split at hg
        · cases hg
        · rename_i hcond
          cases hn : numsP ((splitL 32 t).drop 2) with
          | none => rw [hn] at hg; cases hg
          | some ns =>
            rw [hn] at hg
            injection hg with hg
            subst hg
            have hrg := numsP_rng _ hn
            have hnm : nameB (piece (splitL 32 t) 1) = true := by
              simp only [Bool.or_eq_true, not_or, Bool.not_eq_true'] at hcond
              simpa using hcond.2
            refine ⟨⟨⟨hr.b, fun x hx => ?_, hr.e⟩, hf, ha, by dsimp only; omega, by simp; omega⟩, rfl⟩
            rcases List.mem_append.1 hx with hx | hx
            · exact hr.g x hx
            · simp at hx
              subst hx
              exact ⟨nth_rng hrg 0, nth_rng hrg 1, hnm⟩
      | none =>
        rw [hg] at hs
        cases he : entryP s.r t with
        | none => rw [he] at hs; cases hs
        | some x =>
          rw [he] at hs
          injection hs with hs
          subst hs
          have hx : entP t = some x := by
            unfold entryP at he
            split at he
            · exact he
            · cases he
          obtain ⟨k1, k2, k3⟩ := entP_ok hx
          refine ⟨⟨⟨hr.b, hr.g, fun y hy => ?_⟩, ?_, ?_, by simp [addN]; omega, by simp [addN]; omega⟩, rfl⟩
          · rcases List.mem_append.1 hy with hy | hy
            · exact hr.e y hy
            · simp at hy
              subst hy
              exact ⟨k1, by omega, by omega⟩
          · dsimp only
            split
            · rename_i hc
              intro h0
              exact absurd h0 hc.1
            · rename_i hc
              intro h0 y hy
              rcases List.mem_append.1 hy with hy | hy
              · exact hf h0 y hy
              · simp at hy
                subst hy
                exact Classical.byContradiction fun h => hc ⟨h, h0⟩
          · dsimp only
            split
            · intro _
              dsimp only
              omega
            · exact ha
/-- what a reading ends in -/
def Reads (N m : Nat) (q : CollD × (Int × Int)) : Prop :=
  (q.2.1 ≠ 0 ∧ q.1 = zeroC ∧ 1 ≤ q.2.2) ∨ (q.2 = (0, 0) ∧ OkC q.1 ∧ WfC q.1 ∧ q.1.entries.length ≤ m ∧ q.1.groups.length ≤ m ∧ ∀ x ∈ q.1.entries, x.codes.length ≤ N + 1 ∧ x.els.length ≤ N)
theorem run_reads {N : Nat} : ∀ (ls : List (List UInt8)) (s : StF), InvF N s → (∀ l ∈ ls, l.length ≤ N) → Reads N (s.n + ls.length) (runF ls s)
  | [], s, h, _ => by
    show Reads N _ (finF s)
    unfold finF
    split
    · left
      refine ⟨by simp, rfl, ?_⟩
      dsimp only
      omega
    · split
      · rename_i hz
        exact .inl ⟨hz, rfl, h.a hz⟩
      · rename_i hz
        have hz : s.first.1 = 0 := Classical.byContradiction fun h => hz h
        have hb := h.r.b
        unfold rngI at hb
        refine .inr ⟨rfl, ⟨⟨hb.1.1, hb.2.1.1, hb.2.2.1⟩, fun x hx => ?_, fun x hx => ⟨(h.r.e x hx).1, h.f hz x hx⟩⟩, ⟨hb.1.2, hb.2.1.2, hb.2.2.2, fun x hx => ?_⟩, h.ne, h.ng, fun x hx => (h.r.e x hx).2⟩
        · have := h.r.g x hx
          unfold rngI at this
          exact ⟨this.1.1, this.2.1.1, this.2.2⟩
        · have := h.r.g x hx
          unfold rngI at this
          exact ⟨this.1.2, this.2.1.2⟩
  | l :: ls, s, h, hl => by
    rw [runF]
    cases hs : stepF s l with
    | none =>
      left
      refine ⟨by simp, rfl, ?_⟩
      dsimp only
      omega
    | some s' =>
      obtain ⟨h1, h2⟩ := step_inv h (hl l (by simp)) hs
      have ih := run_reads ls s' h1 (fun x hx => hl x (by simp [hx]))
      rw [h2] at ih
      rw [List.length_cons, show s.n + (ls.length + 1) = s.n + 1 + ls.length by omega]
      exact ih
theorem linesL_le : ∀ (l : List UInt8), (linesL l).length ≤ l.length ∧ ∀ p ∈ linesL l, p.length ≤ l.length
  | [] => ⟨by simp [linesL], fun p hp => by simp [linesL] at hp⟩
  | b :: r => by
    obtain ⟨h1, h2⟩ := linesL_le r
    rw [linesL]
    split
    · refine ⟨by simp; exact h1, fun p hp => ?_⟩
      rcases List.mem_cons.1 hp with rfl | hp
      · simp
      · have := h2 p hp
        simp
        omega
    · cases hr : linesL r with
      | nil => exact ⟨by simp, fun p hp => by simp at hp; subst hp; simp⟩
      | cons q qs =>
        rw [hr] at h1 h2
        refine ⟨by simp at h1 ⊢; omega, fun p hp => ?_⟩
        rcases List.mem_cons.1 hp with rfl | hp
        · have := h2 q (by simp)
          simp
          omega
        · have := h2 p (by simp [hp])
          simp
          omega
theorem parse_reads {l : List UInt8} (hl : l.length ≤ 65536) : Reads l.length l.length (parseF l) := by
  unfold parseF
  rw [if_neg (by omega)]
  obtain ⟨h1, h2⟩ := linesL_le l
  have h0 : InvF l.length startF := ⟨⟨⟨⟨by decide, by decide⟩, ⟨by decide, by decide⟩, ⟨by decide, by decide⟩⟩, (fun x hx => by cases hx), (fun x hx => by cases hx)⟩, (fun _ x hx => by cases hx), (fun h => absurd rfl h), Nat.le_refl _, Nat.le_refl _⟩
  have h := run_reads (linesL l) startF h0 h2
  rw [show startF.n = 0 from rfl, Nat.zero_add] at h
  rcases h with h | ⟨k1, k2, k3, k4, k5, k6⟩
  · exact .inl h
  · exact .inr ⟨k1, k2, k3, by omega, by omega, k6⟩
/-- what is written is read -/
theorem file_reads {c : CollD} (h : OkC c) (hw : WfC c) (hl : (fileP c).length ≤ 65536) : parseF (fileP c) = (c, (0, 0)) := by
  have e := run_file h hw []
  rw [List.append_nil] at e
  unfold parseF
  rw [if_neg (by omega), e]
  rfl
end Go.Proofs.YthogkokifiibnaaGreatDoor
